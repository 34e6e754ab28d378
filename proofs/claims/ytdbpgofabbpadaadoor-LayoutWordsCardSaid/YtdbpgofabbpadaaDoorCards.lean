/-
  DERIVED. GIVEN WITH THE SEED: THE CARDS: each row of YtdbpgofabbpadaaDoorRows.lean that lists a variable, with what it lists TIED to the program's text (the seventh form; the later family's looks); each row that meets fmt, with fmt's text TOLD by the authors' own Lean function (tested against real Go, not proved from fmt's source: count such statements apart). THE CARD IS WHAT COUNTS. Prove the row's statement (the work); the ties are given (YtdbpgofabbpadaaDoorTie.lean); close each card by the builder's one call (the guide's Derived/Test/ToyasCard.lean, 'card_holds'). Laid BY PROGRAM, IN A SANDBOX (cutbox-door.mjs). By AI agents, Wed Nov 11 2026. No macro, syntax, notation, axiom, sorry.
-/
import Derived.Test.YtdbpgofabbpadaaDoorRows
import GoSem.ClaimSeven
namespace Go.Proofs.YtdbpgofabbpadaaDoor
namespace Rows

/-- THE TIED CARD OF 'roadkeep5.LayoutWords'. -/
def layoutWordsCard : Claim7 := { stood := { row := layoutWordsRow, standIns := [], harness := (true, "8f7fed5cb1671d1dc267ac0739ab0778c2bd9da40e4f9f1372e60f5cc3eee0e2"), looks := false }, kinds := [], alts := [], laidByText := true, laidKinds := [.data, .pinned], laidTests := true, laidLooks := .later }
def LayoutWordsCardSaid : Prop := Claim7.holds Tryd.pinned (.plain (OpenSpec.ofChange layoutWordsSpec)) layoutWordsCard

/-- THE SECOND FORM's CARD OF 'roadkeep5.LayoutWords'. -/
def layoutWordsUptoCard : Claim7 := { stood := { row := layoutWordsUptoRow, standIns := [], harness := (true, "8f7fed5cb1671d1dc267ac0739ab0778c2bd9da40e4f9f1372e60f5cc3eee0e2"), looks := false }, kinds := [], alts := [], laidByText := true, laidKinds := [.data, .pinned], laidTests := true, laidLooks := .later }
def LayoutWordsUptoCardSaid : Prop := Claim7.holds Tryd.pinned (.plain (OpenSpec.upto layoutWordsSpec)) layoutWordsUptoCard
end Rows
end Go.Proofs.YtdbpgofabbpadaaDoor
