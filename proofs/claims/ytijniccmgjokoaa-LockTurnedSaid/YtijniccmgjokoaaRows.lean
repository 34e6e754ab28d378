/-
  No cell of these rows narrows 'for every input' (looked for: loops, veiled, ifaces, maps, wideKeys, modest, calm, conditions, laid).
  DERIVED. THE GIVEN ROWS OF THIS SEAT. 6 by the template 'for every input the law returns true; each argument reads behind the call as it read before'; 0 by the template 'total and deterministic' (their statements: YtijniccmgjokoaaTotals.lean).
  GIVEN WITH THE SEED: the statements are not yours to turn. If you find one false, say at which input.
  Laid BY PROGRAM, IN A SANDBOX (cutbox-rows.mjs): the forced cells as the released guide's own fill.sh prints them over the translation 6f87c2771798cfd7… (all of the seat's roots in one cut). By AI agents, Wed Nov 11 2026. No macro, syntax, notation, axiom, sorry.
-/
import Derived.Test.YtijniccmgjokoaaChecked
import GoSem.Claim
import GoSem.ClaimJoined
import GoSem.ClaimMapViews
import Derived.JoinedTies
import Derived.KernelRfl
namespace Go.Proofs.Ytijniccmgjokoaa
/- THE CELL 'sum', in the pinned program and in every row, IS THE sha256 OF THE DUMP (.gsa) THAT YtijniccmgjokoaaProg.lean LOADS. Nothing in Lean hashes anything: it is a label: what it is worth is what the hold of that sum in a sandbox is worth. -/
noncomputable def Try.pinned : Pinned := { name := "ytijniccmgjokoaa", sum := "6f87c2771798cfd707c9fee263472c249015163a47e47cc8556487ee72c153c0", checked := Try.checked }
namespace Rows
def none {H : Type} : Left H := { results := [], args := [] }

/-- 'roadkeep5.LockTurned': WHATEVER THE INPUT: true; the input reads as it did. -/
def lockTurnedSpec : ChangeSpec := { name := "lockTurned", fn := fun _ => fun
  | [d1, d2] => { results := [.lit (.bool true)], args := [d1, d2] }
  | _ => none }
def lockTurnedRow : OpenClaim := { program := "ytijniccmgjokoaa", sum := "6f87c2771798cfd707c9fee263472c249015163a47e47cc8556487ee72c153c0", func := "roadstead/roadkeep5.LockTurned", spec := "lockTurned", unfollowed := true, recurses := true, apart := false }
def LockTurnedSaid : Prop := lockTurnedRow.holds Try.pinned (OpenSpec.ofChange lockTurnedSpec)

/-- ITS FALSE NEIGHBOUR: 'it returns false'. Refute it at one input. -/
def lockTurnedWrong : ChangeSpec := { name := "lockTurned", fn := fun _ => fun
  | [d1, d2] => { results := [.lit (.bool false)], args := [d1, d2] }
  | _ => none }
def LockTurnedWrongFalsely : Prop := lockTurnedRow.holds Try.pinned (OpenSpec.ofChange lockTurnedWrong)

/-- 'roadkeep5.SolveMore': WHATEVER THE INPUT: true; the input reads as it did. -/
def solveMoreSpec : ChangeSpec := { name := "solveMore", fn := fun _ => fun
  | [d1, d2, d3] => { results := [.lit (.bool true)], args := [d1, d2, d3] }
  | _ => none }
def solveMoreRow : OpenClaim := { program := "ytijniccmgjokoaa", sum := "6f87c2771798cfd707c9fee263472c249015163a47e47cc8556487ee72c153c0", func := "roadstead/roadkeep5.SolveMore", spec := "solveMore", unfollowed := true, recurses := true, apart := false }
def SolveMoreSaid : Prop := solveMoreRow.holds Try.pinned (OpenSpec.ofChange solveMoreSpec)

/-- ITS FALSE NEIGHBOUR: 'it returns false'. Refute it at one input. -/
def solveMoreWrong : ChangeSpec := { name := "solveMore", fn := fun _ => fun
  | [d1, d2, d3] => { results := [.lit (.bool false)], args := [d1, d2, d3] }
  | _ => none }
def SolveMoreWrongFalsely : Prop := solveMoreRow.holds Try.pinned (OpenSpec.ofChange solveMoreWrong)

/-- 'roadkeep5.SolveHigh': WHATEVER THE INPUT: true; the input reads as it did. -/
def solveHighSpec : ChangeSpec := { name := "solveHigh", fn := fun _ => fun
  | [d1, d2, d3] => { results := [.lit (.bool true)], args := [d1, d2, d3] }
  | _ => none }
def solveHighRow : OpenClaim := { program := "ytijniccmgjokoaa", sum := "6f87c2771798cfd707c9fee263472c249015163a47e47cc8556487ee72c153c0", func := "roadstead/roadkeep5.SolveHigh", spec := "solveHigh", unfollowed := true, recurses := true, apart := false }
def SolveHighSaid : Prop := solveHighRow.holds Try.pinned (OpenSpec.ofChange solveHighSpec)

/-- ITS FALSE NEIGHBOUR: 'it returns false'. Refute it at one input. -/
def solveHighWrong : ChangeSpec := { name := "solveHigh", fn := fun _ => fun
  | [d1, d2, d3] => { results := [.lit (.bool false)], args := [d1, d2, d3] }
  | _ => none }
def SolveHighWrongFalsely : Prop := solveHighRow.holds Try.pinned (OpenSpec.ofChange solveHighWrong)

/-- 'roadkeep5.SolveGood': WHATEVER THE INPUT: true; the input reads as it did. -/
def solveGoodSpec : ChangeSpec := { name := "solveGood", fn := fun _ => fun
  | [d1, d2] => { results := [.lit (.bool true)], args := [d1, d2] }
  | _ => none }
def solveGoodRow : OpenClaim := { program := "ytijniccmgjokoaa", sum := "6f87c2771798cfd707c9fee263472c249015163a47e47cc8556487ee72c153c0", func := "roadstead/roadkeep5.SolveGood", spec := "solveGood", unfollowed := true, recurses := true, apart := false }
def SolveGoodSaid : Prop := solveGoodRow.holds Try.pinned (OpenSpec.ofChange solveGoodSpec)

/-- ITS FALSE NEIGHBOUR: 'it returns false'. Refute it at one input. -/
def solveGoodWrong : ChangeSpec := { name := "solveGood", fn := fun _ => fun
  | [d1, d2] => { results := [.lit (.bool false)], args := [d1, d2] }
  | _ => none }
def SolveGoodWrongFalsely : Prop := solveGoodRow.holds Try.pinned (OpenSpec.ofChange solveGoodWrong)

/-- 'roadkeep5.SolveClash': WHATEVER THE INPUT: true; the input reads as it did. -/
def solveClashSpec : ChangeSpec := { name := "solveClash", fn := fun _ => fun
  | [d1, d2, d3] => { results := [.lit (.bool true)], args := [d1, d2, d3] }
  | _ => none }
def solveClashRow : OpenClaim := { program := "ytijniccmgjokoaa", sum := "6f87c2771798cfd707c9fee263472c249015163a47e47cc8556487ee72c153c0", func := "roadstead/roadkeep5.SolveClash", spec := "solveClash", unfollowed := true, recurses := true, apart := false }
def SolveClashSaid : Prop := solveClashRow.holds Try.pinned (OpenSpec.ofChange solveClashSpec)

/-- ITS FALSE NEIGHBOUR: 'it returns false'. Refute it at one input. -/
def solveClashWrong : ChangeSpec := { name := "solveClash", fn := fun _ => fun
  | [d1, d2, d3] => { results := [.lit (.bool false)], args := [d1, d2, d3] }
  | _ => none }
def SolveClashWrongFalsely : Prop := solveClashRow.holds Try.pinned (OpenSpec.ofChange solveClashWrong)

/-- 'roadkeep5.LockStays': WHATEVER THE INPUT: true; the input reads as it did. -/
def lockStaysSpec : ChangeSpec := { name := "lockStays", fn := fun _ => fun
  | [d1, d2, d3] => { results := [.lit (.bool true)], args := [d1, d2, d3] }
  | _ => none }
def lockStaysRow : OpenClaim := { program := "ytijniccmgjokoaa", sum := "6f87c2771798cfd707c9fee263472c249015163a47e47cc8556487ee72c153c0", func := "roadstead/roadkeep5.LockStays", spec := "lockStays", unfollowed := true, recurses := true, apart := false }
def LockStaysSaid : Prop := lockStaysRow.holds Try.pinned (OpenSpec.ofChange lockStaysSpec)

/-- ITS FALSE NEIGHBOUR: 'it returns false'. Refute it at one input. -/
def lockStaysWrong : ChangeSpec := { name := "lockStays", fn := fun _ => fun
  | [d1, d2, d3] => { results := [.lit (.bool false)], args := [d1, d2, d3] }
  | _ => none }
def LockStaysWrongFalsely : Prop := lockStaysRow.holds Try.pinned (OpenSpec.ofChange lockStaysWrong)

/- THE SECOND FORM. 'bulk': how many values and letters a reading holds, each counted each time it is reached (what is shared counts as often as it is met; a slice's spare places count too). A statement '..UptoSaid' is the law's where the arguments, and the package variables that the reading takes, are together of bulk at most 1048576: NARROWER than '..Said'. Prove '..Said' where nothing that the law and all that it calls make is longer than what came in: it says more and counts as full. Else prove '..UptoSaid'. A law counts once. -/
mutual
def uptoBulk {H : Type} : DataW H → Nat
  | .lit (.string bytes) => bytes.length + 1
  | .lit _ => 1
  | .nil => 1
  | .ptr d => uptoBulk d + 1
  | .slice elems spare => uptoBulkAll elems + uptoBulkAll spare + 1
  | .agg parts => uptoBulkAll parts + 1
  | .iface _ d => uptoBulk d + 1
  | .map entries => uptoBulkEntries entries + 1
  | .held _ => 1
def uptoBulkAll {H : Type} : List (DataW H) → Nat
  | [] => 0
  | d :: r => uptoBulk d + uptoBulkAll r
def uptoBulkEntries {H : Type} : List (Lit × DataW H) → Nat
  | [] => 0
  | x :: r => uptoBulkEntry x + uptoBulkEntries r
def uptoBulkEntry {H : Type} : Lit × DataW H → Nat
  | (.string bytes, d) => bytes.length + uptoBulk d + 1
  | (_, d) => uptoBulk d + 1
 end
def uptoSmall : (H : Type) → List (DataW H) → Bool := fun _ ds => decide (uptoBulkAll ds ≤ 1048576)
def OpenSpec.upto (s : _root_.Go.ChangeSpec) : _root_.Go.OpenSpec := { _root_.Go.OpenSpec.ofChange s with cond := some uptoSmall }

/-- 'roadkeep5.LockTurned', WHERE WHAT IT READS IS OF BULK AT MOST 1048576: true; the input reads as it did. -/
def lockTurnedUptoRow : OpenClaim := { program := "ytijniccmgjokoaa", sum := "6f87c2771798cfd707c9fee263472c249015163a47e47cc8556487ee72c153c0", func := "roadstead/roadkeep5.LockTurned", spec := "lockTurned", unfollowed := true, recurses := true, apart := false, narrowed := true }
def LockTurnedUptoSaid : Prop := lockTurnedUptoRow.holds Try.pinned (OpenSpec.upto lockTurnedSpec)

/-- 'roadkeep5.SolveMore', WHERE WHAT IT READS IS OF BULK AT MOST 1048576: true; the input reads as it did. -/
def solveMoreUptoRow : OpenClaim := { program := "ytijniccmgjokoaa", sum := "6f87c2771798cfd707c9fee263472c249015163a47e47cc8556487ee72c153c0", func := "roadstead/roadkeep5.SolveMore", spec := "solveMore", unfollowed := true, recurses := true, apart := false, narrowed := true }
def SolveMoreUptoSaid : Prop := solveMoreUptoRow.holds Try.pinned (OpenSpec.upto solveMoreSpec)

/-- 'roadkeep5.SolveHigh', WHERE WHAT IT READS IS OF BULK AT MOST 1048576: true; the input reads as it did. -/
def solveHighUptoRow : OpenClaim := { program := "ytijniccmgjokoaa", sum := "6f87c2771798cfd707c9fee263472c249015163a47e47cc8556487ee72c153c0", func := "roadstead/roadkeep5.SolveHigh", spec := "solveHigh", unfollowed := true, recurses := true, apart := false, narrowed := true }
def SolveHighUptoSaid : Prop := solveHighUptoRow.holds Try.pinned (OpenSpec.upto solveHighSpec)

/-- 'roadkeep5.SolveGood', WHERE WHAT IT READS IS OF BULK AT MOST 1048576: true; the input reads as it did. -/
def solveGoodUptoRow : OpenClaim := { program := "ytijniccmgjokoaa", sum := "6f87c2771798cfd707c9fee263472c249015163a47e47cc8556487ee72c153c0", func := "roadstead/roadkeep5.SolveGood", spec := "solveGood", unfollowed := true, recurses := true, apart := false, narrowed := true }
def SolveGoodUptoSaid : Prop := solveGoodUptoRow.holds Try.pinned (OpenSpec.upto solveGoodSpec)

/-- 'roadkeep5.SolveClash', WHERE WHAT IT READS IS OF BULK AT MOST 1048576: true; the input reads as it did. -/
def solveClashUptoRow : OpenClaim := { program := "ytijniccmgjokoaa", sum := "6f87c2771798cfd707c9fee263472c249015163a47e47cc8556487ee72c153c0", func := "roadstead/roadkeep5.SolveClash", spec := "solveClash", unfollowed := true, recurses := true, apart := false, narrowed := true }
def SolveClashUptoSaid : Prop := solveClashUptoRow.holds Try.pinned (OpenSpec.upto solveClashSpec)

/-- 'roadkeep5.LockStays', WHERE WHAT IT READS IS OF BULK AT MOST 1048576: true; the input reads as it did. -/
def lockStaysUptoRow : OpenClaim := { program := "ytijniccmgjokoaa", sum := "6f87c2771798cfd707c9fee263472c249015163a47e47cc8556487ee72c153c0", func := "roadstead/roadkeep5.LockStays", spec := "lockStays", unfollowed := true, recurses := true, apart := false, narrowed := true }
def LockStaysUptoSaid : Prop := lockStaysUptoRow.holds Try.pinned (OpenSpec.upto lockStaysSpec)

end Rows
end Go.Proofs.Ytijniccmgjokoaa
