/- Contracts of programOf's two closures. -/
import Derived.Test.YtoddjdajjmcliaaShSameC
set_option linter.unusedVariables false
namespace Go.Proofs.Ytoddjdajjmcliaa
open Go.RowKit Go.Mem Go.Sh Go.Maps
set_option maxRecDepth 100000 in
theorem one_any (k : Nat) (w : World) : Calls Try.prog 26 #[.int .i64 (k : Nat)] w fun e w' => e = .returned (.agg #[.int .i64 (k : Nat), str [], .slice none 0 0]) ∧ w' = w.alloc (.cells #[.int .i64 (k : Nat), str [], .slice none 0 0] 34) := by
  go_enter Try.func26, Try.ntmps26
  go_wp2_with (fail)
  refine ret_blk rfl rfl (Blk.new w 34 [.int .i64 (k : Nat), str [], .slice none 0 0]) Try.underlying34 (by kernel_rfl) rfl ?_
  exact ⟨rfl, rfl⟩
set_option maxRecDepth 100000 in
theorem named_any (n : Nm) (A : Option Addr) (m c : Nat) (w : World) : Calls Try.prog 27 #[str n, .slice A m c] w fun e w' => e = .returned (.agg #[.int .i64 6, str n, .slice A m c]) ∧ w' = w.alloc (.cells #[.int .i64 6, str n, .slice A m c] 34) := by
  go_enter Try.func27, Try.ntmps27
  go_wp2_with (fail)
  refine ret_blk rfl rfl (Blk.new w 34 [.int .i64 6, str n, .slice A m c]) Try.underlying34 (by kernel_rfl) rfl ?_
  exact ⟨rfl, rfl⟩
end Go.Proofs.Ytoddjdajjmcliaa
