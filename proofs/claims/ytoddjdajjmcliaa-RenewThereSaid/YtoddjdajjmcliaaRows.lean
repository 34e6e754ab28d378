/-
  No cell of these rows narrows 'for every input' (looked for: loops, veiled, ifaces, maps, wideKeys, modest, calm, conditions, laid).
  DERIVED. THE GIVEN ROWS OF THIS SEAT. 8 by the template 'for every input the law returns true; each argument reads behind the call as it read before'; 0 by the template 'total and deterministic' (their statements: YtoddjdajjmcliaaTotals.lean).
  GIVEN WITH THE SEED: the statements are not yours to turn. If you find one false, say at which input.
  Laid BY PROGRAM, IN A SANDBOX (cutbox-rows.mjs): the forced cells as the released guide's own fill.sh prints them over the translation e5b4ee00ad370980… (all of the seat's roots in one cut). By AI agents, Wed Nov 11 2026. No macro, syntax, notation, axiom, sorry.
-/
import Derived.Test.YtoddjdajjmcliaaChecked
import GoSem.Claim
import GoSem.ClaimJoined
import GoSem.ClaimMapViews
import Derived.JoinedTies
import Derived.KernelRfl
namespace Go.Proofs.Ytoddjdajjmcliaa
/- THE CELL 'sum', in the pinned program and in every row, IS THE sha256 OF THE DUMP (.gsa) THAT YtoddjdajjmcliaaProg.lean LOADS. Nothing in Lean hashes anything: it is a label: what it is worth is what the hold of that sum in a sandbox is worth. -/
noncomputable def Try.pinned : Pinned := { name := "ytoddjdajjmcliaa", sum := "e5b4ee00ad3709807d8cd2ce335b5d485ab7d157d8272cea2532c379dc72e98a", checked := Try.checked }
namespace Rows
def none {H : Type} : Left H := { results := [], args := [] }

/-- 'roadkeep5.ShapeSelf': WHATEVER THE INPUT: true; the input reads as it did. -/
def shapeSelfSpec : ChangeSpec := { name := "shapeSelf", fn := fun _ => fun
  | [d1, d2, d3, d4] => { results := [.lit (.bool true)], args := [d1, d2, d3, d4] }
  | _ => none }
def shapeSelfRow : OpenClaim := { program := "ytoddjdajjmcliaa", sum := "e5b4ee00ad3709807d8cd2ce335b5d485ab7d157d8272cea2532c379dc72e98a", func := "roadstead/roadkeep5.ShapeSelf", spec := "shapeSelf", unfollowed := true, recurses := true, apart := false }
def ShapeSelfSaid : Prop := shapeSelfRow.holds Try.pinned (OpenSpec.ofChange shapeSelfSpec)

/-- ITS FALSE NEIGHBOUR: 'it returns false'. Refute it at one input. -/
def shapeSelfWrong : ChangeSpec := { name := "shapeSelf", fn := fun _ => fun
  | [d1, d2, d3, d4] => { results := [.lit (.bool false)], args := [d1, d2, d3, d4] }
  | _ => none }
def ShapeSelfWrongFalsely : Prop := shapeSelfRow.holds Try.pinned (OpenSpec.ofChange shapeSelfWrong)

/-- 'roadkeep5.ShapeDeep': WHATEVER THE INPUT: true; the input reads as it did. -/
def shapeDeepSpec : ChangeSpec := { name := "shapeDeep", fn := fun _ => fun
  | [d1, d2, d3, d4] => { results := [.lit (.bool true)], args := [d1, d2, d3, d4] }
  | _ => none }
def shapeDeepRow : OpenClaim := { program := "ytoddjdajjmcliaa", sum := "e5b4ee00ad3709807d8cd2ce335b5d485ab7d157d8272cea2532c379dc72e98a", func := "roadstead/roadkeep5.ShapeDeep", spec := "shapeDeep", inPlace := ["internal/abi.NoEscape", "internal/bytealg.MakeNoZero"], unfollowed := true, recurses := true, apart := false }
def ShapeDeepSaid : Prop := shapeDeepRow.holds Try.pinned (OpenSpec.ofChange shapeDeepSpec)

/-- ITS FALSE NEIGHBOUR: 'it returns false'. Refute it at one input. -/
def shapeDeepWrong : ChangeSpec := { name := "shapeDeep", fn := fun _ => fun
  | [d1, d2, d3, d4] => { results := [.lit (.bool false)], args := [d1, d2, d3, d4] }
  | _ => none }
def ShapeDeepWrongFalsely : Prop := shapeDeepRow.holds Try.pinned (OpenSpec.ofChange shapeDeepWrong)

/-- 'roadkeep5.ShapeCarries': WHATEVER THE INPUT: true; the input reads as it did. -/
def shapeCarriesSpec : ChangeSpec := { name := "shapeCarries", fn := fun _ => fun
  | [d1, d2, d3, d4] => { results := [.lit (.bool true)], args := [d1, d2, d3, d4] }
  | _ => none }
def shapeCarriesRow : OpenClaim := { program := "ytoddjdajjmcliaa", sum := "e5b4ee00ad3709807d8cd2ce335b5d485ab7d157d8272cea2532c379dc72e98a", func := "roadstead/roadkeep5.ShapeCarries", spec := "shapeCarries", inPlace := ["internal/abi.NoEscape", "internal/bytealg.MakeNoZero"], unfollowed := true, recurses := true, apart := false }
def ShapeCarriesSaid : Prop := shapeCarriesRow.holds Try.pinned (OpenSpec.ofChange shapeCarriesSpec)

/-- ITS FALSE NEIGHBOUR: 'it returns false'. Refute it at one input. -/
def shapeCarriesWrong : ChangeSpec := { name := "shapeCarries", fn := fun _ => fun
  | [d1, d2, d3, d4] => { results := [.lit (.bool false)], args := [d1, d2, d3, d4] }
  | _ => none }
def ShapeCarriesWrongFalsely : Prop := shapeCarriesRow.holds Try.pinned (OpenSpec.ofChange shapeCarriesWrong)

/-- 'roadkeep5.ShapeFirst': WHATEVER THE INPUT: true; the input reads as it did. -/
def shapeFirstSpec : ChangeSpec := { name := "shapeFirst", fn := fun _ => fun
  | [d1, d2, d3] => { results := [.lit (.bool true)], args := [d1, d2, d3] }
  | _ => none }
def shapeFirstRow : OpenClaim := { program := "ytoddjdajjmcliaa", sum := "e5b4ee00ad3709807d8cd2ce335b5d485ab7d157d8272cea2532c379dc72e98a", func := "roadstead/roadkeep5.ShapeFirst", spec := "shapeFirst", inPlace := ["internal/abi.NoEscape", "internal/bytealg.MakeNoZero"], unfollowed := true, recurses := true, apart := false }
def ShapeFirstSaid : Prop := shapeFirstRow.holds Try.pinned (OpenSpec.ofChange shapeFirstSpec)

/-- ITS FALSE NEIGHBOUR: 'it returns false'. Refute it at one input. -/
def shapeFirstWrong : ChangeSpec := { name := "shapeFirst", fn := fun _ => fun
  | [d1, d2, d3] => { results := [.lit (.bool false)], args := [d1, d2, d3] }
  | _ => none }
def ShapeFirstWrongFalsely : Prop := shapeFirstRow.holds Try.pinned (OpenSpec.ofChange shapeFirstWrong)

/-- 'roadkeep5.RenewKeeps': WHATEVER THE INPUT: true; the input reads as it did. -/
def renewKeepsSpec : ChangeSpec := { name := "renewKeeps", fn := fun _ => fun
  | [d1, d2, d3] => { results := [.lit (.bool true)], args := [d1, d2, d3] }
  | _ => none }
def renewKeepsRow : OpenClaim := { program := "ytoddjdajjmcliaa", sum := "e5b4ee00ad3709807d8cd2ce335b5d485ab7d157d8272cea2532c379dc72e98a", func := "roadstead/roadkeep5.RenewKeeps", spec := "renewKeeps", inPlace := ["internal/abi.NoEscape", "internal/bytealg.MakeNoZero"], unfollowed := true, recurses := true, apart := false }
def RenewKeepsSaid : Prop := renewKeepsRow.holds Try.pinned (OpenSpec.ofChange renewKeepsSpec)

/-- ITS FALSE NEIGHBOUR: 'it returns false'. Refute it at one input. -/
def renewKeepsWrong : ChangeSpec := { name := "renewKeeps", fn := fun _ => fun
  | [d1, d2, d3] => { results := [.lit (.bool false)], args := [d1, d2, d3] }
  | _ => none }
def RenewKeepsWrongFalsely : Prop := renewKeepsRow.holds Try.pinned (OpenSpec.ofChange renewKeepsWrong)

/-- 'roadkeep5.RenewStill': WHATEVER THE INPUT: true; the input reads as it did. -/
def renewStillSpec : ChangeSpec := { name := "renewStill", fn := fun _ => fun
  | [d1, d2, d3] => { results := [.lit (.bool true)], args := [d1, d2, d3] }
  | _ => none }
def renewStillRow : OpenClaim := { program := "ytoddjdajjmcliaa", sum := "e5b4ee00ad3709807d8cd2ce335b5d485ab7d157d8272cea2532c379dc72e98a", func := "roadstead/roadkeep5.RenewStill", spec := "renewStill", inPlace := ["internal/abi.NoEscape", "internal/bytealg.MakeNoZero"], unfollowed := true, recurses := true, apart := false }
def RenewStillSaid : Prop := renewStillRow.holds Try.pinned (OpenSpec.ofChange renewStillSpec)

/-- ITS FALSE NEIGHBOUR: 'it returns false'. Refute it at one input. -/
def renewStillWrong : ChangeSpec := { name := "renewStill", fn := fun _ => fun
  | [d1, d2, d3] => { results := [.lit (.bool false)], args := [d1, d2, d3] }
  | _ => none }
def RenewStillWrongFalsely : Prop := renewStillRow.holds Try.pinned (OpenSpec.ofChange renewStillWrong)

/-- 'roadkeep5.RenewTwice': WHATEVER THE INPUT: true; the input reads as it did. -/
def renewTwiceSpec : ChangeSpec := { name := "renewTwice", fn := fun _ => fun
  | [d1, d2, d3] => { results := [.lit (.bool true)], args := [d1, d2, d3] }
  | _ => none }
def renewTwiceRow : OpenClaim := { program := "ytoddjdajjmcliaa", sum := "e5b4ee00ad3709807d8cd2ce335b5d485ab7d157d8272cea2532c379dc72e98a", func := "roadstead/roadkeep5.RenewTwice", spec := "renewTwice", inPlace := ["internal/abi.NoEscape", "internal/bytealg.MakeNoZero"], unfollowed := true, recurses := true, apart := false }
def RenewTwiceSaid : Prop := renewTwiceRow.holds Try.pinned (OpenSpec.ofChange renewTwiceSpec)

/-- ITS FALSE NEIGHBOUR: 'it returns false'. Refute it at one input. -/
def renewTwiceWrong : ChangeSpec := { name := "renewTwice", fn := fun _ => fun
  | [d1, d2, d3] => { results := [.lit (.bool false)], args := [d1, d2, d3] }
  | _ => none }
def RenewTwiceWrongFalsely : Prop := renewTwiceRow.holds Try.pinned (OpenSpec.ofChange renewTwiceWrong)

/-- 'roadkeep5.RenewThere': WHATEVER THE INPUT: true; the input reads as it did. -/
def renewThereSpec : ChangeSpec := { name := "renewThere", fn := fun _ => fun
  | [d1, d2, d3] => { results := [.lit (.bool true)], args := [d1, d2, d3] }
  | _ => none }
def renewThereRow : OpenClaim := { program := "ytoddjdajjmcliaa", sum := "e5b4ee00ad3709807d8cd2ce335b5d485ab7d157d8272cea2532c379dc72e98a", func := "roadstead/roadkeep5.RenewThere", spec := "renewThere", inPlace := ["internal/abi.NoEscape", "internal/bytealg.MakeNoZero"], unfollowed := true, recurses := true, apart := false }
def RenewThereSaid : Prop := renewThereRow.holds Try.pinned (OpenSpec.ofChange renewThereSpec)

/-- ITS FALSE NEIGHBOUR: 'it returns false'. Refute it at one input. -/
def renewThereWrong : ChangeSpec := { name := "renewThere", fn := fun _ => fun
  | [d1, d2, d3] => { results := [.lit (.bool false)], args := [d1, d2, d3] }
  | _ => none }
def RenewThereWrongFalsely : Prop := renewThereRow.holds Try.pinned (OpenSpec.ofChange renewThereWrong)

/- THE SECOND FORM. 'bulk': how many values and letters a reading holds, each counted each time it is reached (what is shared counts as often as it is met; a slice's spare places count too). A statement '..UptoSaid' is the law's where the arguments, and the package variables that the reading takes, are together of bulk at most 1048576: NARROWER than '..Said'. Prove '..Said' where nothing that the law and all that it calls make is longer than what came in: it says more and counts as full. Else prove '..UptoSaid'. A law counts once. -/
mutual
def uptoBulk {H : Type} : DataW H → Nat
  | .lit (.string bytes) => bytes.length + 1
  | .lit _ => 1
  | .nil => 1
  | .ptr d => uptoBulk d + 1
  | .slice elems spare => uptoBulkAll elems + uptoBulkAll spare + 1
  | .agg parts => uptoBulkAll parts + 1
  | .iface _ d => uptoBulk d + 1
  | .map entries => uptoBulkEntries entries + 1
  | .held _ => 1
def uptoBulkAll {H : Type} : List (DataW H) → Nat
  | [] => 0
  | d :: r => uptoBulk d + uptoBulkAll r
def uptoBulkEntries {H : Type} : List (Lit × DataW H) → Nat
  | [] => 0
  | x :: r => uptoBulkEntry x + uptoBulkEntries r
def uptoBulkEntry {H : Type} : Lit × DataW H → Nat
  | (.string bytes, d) => bytes.length + uptoBulk d + 1
  | (_, d) => uptoBulk d + 1
 end
def uptoSmall : (H : Type) → List (DataW H) → Bool := fun _ ds => decide (uptoBulkAll ds ≤ 1048576)
def OpenSpec.upto (s : _root_.Go.ChangeSpec) : _root_.Go.OpenSpec := { _root_.Go.OpenSpec.ofChange s with cond := some uptoSmall }

/-- 'roadkeep5.ShapeSelf', WHERE WHAT IT READS IS OF BULK AT MOST 1048576: true; the input reads as it did. -/
def shapeSelfUptoRow : OpenClaim := { program := "ytoddjdajjmcliaa", sum := "e5b4ee00ad3709807d8cd2ce335b5d485ab7d157d8272cea2532c379dc72e98a", func := "roadstead/roadkeep5.ShapeSelf", spec := "shapeSelf", unfollowed := true, recurses := true, apart := false, narrowed := true }
def ShapeSelfUptoSaid : Prop := shapeSelfUptoRow.holds Try.pinned (OpenSpec.upto shapeSelfSpec)

/-- 'roadkeep5.ShapeDeep', WHERE WHAT IT READS IS OF BULK AT MOST 1048576: true; the input reads as it did. -/
def shapeDeepUptoRow : OpenClaim := { program := "ytoddjdajjmcliaa", sum := "e5b4ee00ad3709807d8cd2ce335b5d485ab7d157d8272cea2532c379dc72e98a", func := "roadstead/roadkeep5.ShapeDeep", spec := "shapeDeep", inPlace := ["internal/abi.NoEscape", "internal/bytealg.MakeNoZero"], unfollowed := true, recurses := true, apart := false, narrowed := true }
def ShapeDeepUptoSaid : Prop := shapeDeepUptoRow.holds Try.pinned (OpenSpec.upto shapeDeepSpec)

/-- 'roadkeep5.ShapeCarries', WHERE WHAT IT READS IS OF BULK AT MOST 1048576: true; the input reads as it did. -/
def shapeCarriesUptoRow : OpenClaim := { program := "ytoddjdajjmcliaa", sum := "e5b4ee00ad3709807d8cd2ce335b5d485ab7d157d8272cea2532c379dc72e98a", func := "roadstead/roadkeep5.ShapeCarries", spec := "shapeCarries", inPlace := ["internal/abi.NoEscape", "internal/bytealg.MakeNoZero"], unfollowed := true, recurses := true, apart := false, narrowed := true }
def ShapeCarriesUptoSaid : Prop := shapeCarriesUptoRow.holds Try.pinned (OpenSpec.upto shapeCarriesSpec)

/-- 'roadkeep5.ShapeFirst', WHERE WHAT IT READS IS OF BULK AT MOST 1048576: true; the input reads as it did. -/
def shapeFirstUptoRow : OpenClaim := { program := "ytoddjdajjmcliaa", sum := "e5b4ee00ad3709807d8cd2ce335b5d485ab7d157d8272cea2532c379dc72e98a", func := "roadstead/roadkeep5.ShapeFirst", spec := "shapeFirst", inPlace := ["internal/abi.NoEscape", "internal/bytealg.MakeNoZero"], unfollowed := true, recurses := true, apart := false, narrowed := true }
def ShapeFirstUptoSaid : Prop := shapeFirstUptoRow.holds Try.pinned (OpenSpec.upto shapeFirstSpec)

/-- 'roadkeep5.RenewKeeps', WHERE WHAT IT READS IS OF BULK AT MOST 1048576: true; the input reads as it did. -/
def renewKeepsUptoRow : OpenClaim := { program := "ytoddjdajjmcliaa", sum := "e5b4ee00ad3709807d8cd2ce335b5d485ab7d157d8272cea2532c379dc72e98a", func := "roadstead/roadkeep5.RenewKeeps", spec := "renewKeeps", inPlace := ["internal/abi.NoEscape", "internal/bytealg.MakeNoZero"], unfollowed := true, recurses := true, apart := false, narrowed := true }
def RenewKeepsUptoSaid : Prop := renewKeepsUptoRow.holds Try.pinned (OpenSpec.upto renewKeepsSpec)

/-- 'roadkeep5.RenewStill', WHERE WHAT IT READS IS OF BULK AT MOST 1048576: true; the input reads as it did. -/
def renewStillUptoRow : OpenClaim := { program := "ytoddjdajjmcliaa", sum := "e5b4ee00ad3709807d8cd2ce335b5d485ab7d157d8272cea2532c379dc72e98a", func := "roadstead/roadkeep5.RenewStill", spec := "renewStill", inPlace := ["internal/abi.NoEscape", "internal/bytealg.MakeNoZero"], unfollowed := true, recurses := true, apart := false, narrowed := true }
def RenewStillUptoSaid : Prop := renewStillUptoRow.holds Try.pinned (OpenSpec.upto renewStillSpec)

/-- 'roadkeep5.RenewTwice', WHERE WHAT IT READS IS OF BULK AT MOST 1048576: true; the input reads as it did. -/
def renewTwiceUptoRow : OpenClaim := { program := "ytoddjdajjmcliaa", sum := "e5b4ee00ad3709807d8cd2ce335b5d485ab7d157d8272cea2532c379dc72e98a", func := "roadstead/roadkeep5.RenewTwice", spec := "renewTwice", inPlace := ["internal/abi.NoEscape", "internal/bytealg.MakeNoZero"], unfollowed := true, recurses := true, apart := false, narrowed := true }
def RenewTwiceUptoSaid : Prop := renewTwiceUptoRow.holds Try.pinned (OpenSpec.upto renewTwiceSpec)

/-- 'roadkeep5.RenewThere', WHERE WHAT IT READS IS OF BULK AT MOST 1048576: true; the input reads as it did. -/
def renewThereUptoRow : OpenClaim := { program := "ytoddjdajjmcliaa", sum := "e5b4ee00ad3709807d8cd2ce335b5d485ab7d157d8272cea2532c379dc72e98a", func := "roadstead/roadkeep5.RenewThere", spec := "renewThere", inPlace := ["internal/abi.NoEscape", "internal/bytealg.MakeNoZero"], unfollowed := true, recurses := true, apart := false, narrowed := true }
def RenewThereUptoSaid : Prop := renewThereUptoRow.holds Try.pinned (OpenSpec.upto renewThereSpec)

end Rows
end Go.Proofs.Ytoddjdajjmcliaa
