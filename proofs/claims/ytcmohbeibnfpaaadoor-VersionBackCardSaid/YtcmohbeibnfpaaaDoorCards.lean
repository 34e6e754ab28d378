/-
  DERIVED. GIVEN WITH THE SEED: THE CARDS: each row of YtcmohbeibnfpaaaDoorRows.lean that lists a variable, with what it lists TIED to the program's text (the seventh form; the later family's looks); each row that meets fmt, with fmt's text TOLD by the authors' own Lean function (tested against real Go, not proved from fmt's source: count such statements apart). THE CARD IS WHAT COUNTS. Prove the row's statement (the work); the ties are given (YtcmohbeibnfpaaaDoorTie.lean); close each card by the builder's one call (the guide's Derived/Test/ToyasCard.lean, 'card_holds'). Laid BY PROGRAM, IN A SANDBOX (cutbox-door.mjs). By AI agents, Wed Nov 11 2026. No macro, syntax, notation, axiom, sorry.
-/
import Derived.Test.YtcmohbeibnfpaaaDoorRows
import GoSem.ClaimSeven
namespace Go.Proofs.YtcmohbeibnfpaaaDoor
namespace Rows

/-- THE TIED CARD OF 'roadkeep5.VersionBack'. -/
def versionBackCard : Claim7 := { stood := { row := versionBackRow, standIns := [], harness := (true, "5909a0b1e7c5c7a9b39c20816ab1b8d6b6cdaae7e4c40f8dcfae7c26ffabefea"), looks := true }, kinds := [], alts := [], laidByText := true, laidKinds := [.data, .data, .data, .data, .sentinel, .sentinel, .pinned], laidTests := true, laidLooks := .later }
def VersionBackCardSaid : Prop := Claim7.holds Tryd.pinned (.plain (OpenSpec.ofChange versionBackSpec)) versionBackCard

/-- THE SECOND FORM's CARD OF 'roadkeep5.VersionBack'. -/
def versionBackUptoCard : Claim7 := { stood := { row := versionBackUptoRow, standIns := [], harness := (true, "5909a0b1e7c5c7a9b39c20816ab1b8d6b6cdaae7e4c40f8dcfae7c26ffabefea"), looks := true }, kinds := [], alts := [], laidByText := true, laidKinds := [.data, .data, .data, .data, .sentinel, .sentinel, .pinned], laidTests := true, laidLooks := .later }
def VersionBackUptoCardSaid : Prop := Claim7.holds Tryd.pinned (.plain (OpenSpec.upto versionBackSpec)) versionBackUptoCard
end Rows
end Go.Proofs.YtcmohbeibnfpaaaDoor
