/-
  DERIVED. GIVEN WITH THE SEED: THE CARDS: each row of YtaealapgebbnlaaGreatDoorRows.lean that lists a variable, with what it lists TIED to the program's text (the seventh form; the later family's looks); each row that meets fmt, with fmt's text TOLD by the authors' own Lean function (tested against real Go, not proved from fmt's source: count such statements apart). THE CARD IS WHAT COUNTS. Prove the row's statement (the work); the ties are given (YtaealapgebbnlaaGreatDoorTie.lean); close each card by the builder's one call (the guide's Derived/Test/ToyasCard.lean, 'card_holds'). Laid BY PROGRAM, IN A SANDBOX (cutbox-door.mjs). By AI agents, Wed Nov 11 2026. No macro, syntax, notation, axiom, sorry.
-/
import Derived.Test.YtaealapgebbnlaaGreatDoorRows
import GoSem.ClaimSeven
namespace Go.Proofs.YtaealapgebbnlaaGreatDoor
namespace Rows

/-- THE TIED CARD OF 'roadkeep5.QueryTurns'. -/
def queryTurnsCard : Claim7 := { stood := { row := queryTurnsRow, standIns := [], harness := (true, "38edff670e10206ab134a5f69689cb37581a6fa197495c38bcdec80d1682d980"), looks := false }, kinds := [], alts := [], laidByText := true, laidKinds := [.data, .data, .data, .data, .pinned], laidTests := true, laidLooks := .later }
def QueryTurnsCardSaid : Prop := Claim7.holds Tryz.pinned (.plain (OpenSpec.ofChange queryTurnsSpec)) queryTurnsCard

/-- THE SECOND FORM's CARD OF 'roadkeep5.QueryTurns'. -/
def queryTurnsUptoCard : Claim7 := { stood := { row := queryTurnsUptoRow, standIns := [], harness := (true, "38edff670e10206ab134a5f69689cb37581a6fa197495c38bcdec80d1682d980"), looks := false }, kinds := [], alts := [], laidByText := true, laidKinds := [.data, .data, .data, .data, .pinned], laidTests := true, laidLooks := .later }
def QueryTurnsUptoCardSaid : Prop := Claim7.holds Tryz.pinned (.plain (OpenSpec.upto queryTurnsSpec)) queryTurnsUptoCard
end Rows
end Go.Proofs.YtaealapgebbnlaaGreatDoor
