/-
  DERIVED. GIVEN WITH THE SEED: THE CARDS: each row of YtlpkgheggbcidaaDoorRows.lean that lists a variable, with what it lists TIED to the program's text (the seventh form; the later family's looks); each row that meets fmt, with fmt's text TOLD by the authors' own Lean function (tested against real Go, not proved from fmt's source: count such statements apart). THE CARD IS WHAT COUNTS. Prove the row's statement (the work); the ties are given (YtlpkgheggbcidaaDoorTie.lean); close each card by the builder's one call (the guide's Derived/Test/ToyasCard.lean, 'card_holds'). Laid BY PROGRAM, IN A SANDBOX (cutbox-door.mjs). By AI agents, Wed Nov 11 2026. No macro, syntax, notation, axiom, sorry.
-/
import Derived.Test.YtlpkgheggbcidaaDoorRows
import GoSem.ClaimSeven
namespace Go.Proofs.YtlpkgheggbcidaaDoor
namespace Rows

/-- THE TIED CARD OF 'roadkeep5.ReplayAgain'. -/
def replayAgainCard : Claim7 := { stood := { row := replayAgainRow, standIns := [], harness := (true, "21a97ddde785a5a34ce5815d2d6ab898a997a500270867a1b4a0678560b55488"), looks := true }, kinds := [], alts := [], laidByText := true, laidKinds := [.data, .data, .data, .data, .sentinel, .sentinel, .pinned], laidTests := true, laidLooks := .later }
def ReplayAgainCardSaid : Prop := Claim7.holds Tryd.pinned (.plain (OpenSpec.ofChange replayAgainSpec)) replayAgainCard

/-- THE SECOND FORM's CARD OF 'roadkeep5.ReplayAgain'. -/
def replayAgainUptoCard : Claim7 := { stood := { row := replayAgainUptoRow, standIns := [], harness := (true, "21a97ddde785a5a34ce5815d2d6ab898a997a500270867a1b4a0678560b55488"), looks := true }, kinds := [], alts := [], laidByText := true, laidKinds := [.data, .data, .data, .data, .sentinel, .sentinel, .pinned], laidTests := true, laidLooks := .later }
def ReplayAgainUptoCardSaid : Prop := Claim7.holds Tryd.pinned (.plain (OpenSpec.upto replayAgainSpec)) replayAgainUptoCard
end Rows
end Go.Proofs.YtlpkgheggbcidaaDoor
