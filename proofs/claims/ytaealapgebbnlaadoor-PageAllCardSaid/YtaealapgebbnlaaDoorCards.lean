/-
  DERIVED. GIVEN WITH THE SEED: THE CARDS: each row of YtaealapgebbnlaaDoorRows.lean that lists a variable, with what it lists TIED to the program's text (the seventh form; the later family's looks); each row that meets fmt, with fmt's text TOLD by the authors' own Lean function (tested against real Go, not proved from fmt's source: count such statements apart). THE CARD IS WHAT COUNTS. Prove the row's statement (the work); the ties are given (YtaealapgebbnlaaDoorTie.lean); close each card by the builder's one call (the guide's Derived/Test/ToyasCard.lean, 'card_holds'). Laid BY PROGRAM, IN A SANDBOX (cutbox-door.mjs). By AI agents, Wed Nov 11 2026. No macro, syntax, notation, axiom, sorry.
-/
import Derived.Test.YtaealapgebbnlaaDoorRows
import GoSem.ClaimSeven
namespace Go.Proofs.YtaealapgebbnlaaDoor
namespace Rows

/-- THE TIED CARD OF 'roadkeep5.PageAll'. -/
def pageAllCard : Claim7 := { stood := { row := pageAllRow, standIns := [], harness := (true, "c70fe79ddc1fdc9028f09ccb1efee97c7e79cdaa695be6a4b5a772172f0664cc"), looks := false }, kinds := [], alts := [], laidByText := true, laidKinds := [.data, .data, .data], laidTests := true, laidLooks := .later }
def PageAllCardSaid : Prop := Claim7.holds Tryd.pinned (.plain (OpenSpec.ofChange pageAllSpec)) pageAllCard

/-- THE SECOND FORM's CARD OF 'roadkeep5.PageAll'. -/
def pageAllUptoCard : Claim7 := { stood := { row := pageAllUptoRow, standIns := [], harness := (true, "c70fe79ddc1fdc9028f09ccb1efee97c7e79cdaa695be6a4b5a772172f0664cc"), looks := false }, kinds := [], alts := [], laidByText := true, laidKinds := [.data, .data, .data], laidTests := true, laidLooks := .later }
def PageAllUptoCardSaid : Prop := Claim7.holds Tryd.pinned (.plain (OpenSpec.upto pageAllSpec)) pageAllUptoCard
end Rows
end Go.Proofs.YtaealapgebbnlaaDoor
