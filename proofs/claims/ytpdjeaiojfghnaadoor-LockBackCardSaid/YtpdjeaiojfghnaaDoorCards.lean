/-
  DERIVED. GIVEN WITH THE SEED: THE CARDS: each row of YtpdjeaiojfghnaaDoorRows.lean that lists a variable, with what it lists TIED to the program's text (the seventh form; the later family's looks); each row that meets fmt, with fmt's text TOLD by the authors' own Lean function (tested against real Go, not proved from fmt's source: count such statements apart). THE CARD IS WHAT COUNTS. Prove the row's statement (the work); the ties are given (YtpdjeaiojfghnaaDoorTie.lean); close each card by the builder's one call (the guide's Derived/Test/ToyasCard.lean, 'card_holds'). Laid BY PROGRAM, IN A SANDBOX (cutbox-door.mjs). By AI agents, Wed Nov 11 2026. No macro, syntax, notation, axiom, sorry.
-/
import Derived.Test.YtpdjeaiojfghnaaDoorRows
import GoSem.ClaimSeven
namespace Go.Proofs.YtpdjeaiojfghnaaDoor
namespace Rows

/-- THE TIED CARD OF 'roadkeep5.LockBack'. -/
def lockBackCard : Claim7 := { stood := { row := lockBackRow, standIns := [], harness := (true, "656f2590a83ab3f702ea149f4a5fdc2d1303344d5dde2cb23fcdfdaa269e273e"), looks := true }, kinds := [], alts := [], laidByText := true, laidKinds := [.data, .data, .data, .sentinel, .sentinel], laidTests := true, laidLooks := .later }
def LockBackCardSaid : Prop := Claim7.holds Tryd.pinned (.plain (OpenSpec.ofChange lockBackSpec)) lockBackCard

/-- THE SECOND FORM's CARD OF 'roadkeep5.LockBack'. -/
def lockBackUptoCard : Claim7 := { stood := { row := lockBackUptoRow, standIns := [], harness := (true, "656f2590a83ab3f702ea149f4a5fdc2d1303344d5dde2cb23fcdfdaa269e273e"), looks := true }, kinds := [], alts := [], laidByText := true, laidKinds := [.data, .data, .data, .sentinel, .sentinel], laidTests := true, laidLooks := .later }
def LockBackUptoCardSaid : Prop := Claim7.holds Tryd.pinned (.plain (OpenSpec.upto lockBackSpec)) lockBackUptoCard
end Rows
end Go.Proofs.YtpdjeaiojfghnaaDoor
