/- The toys' methods, called through interfaces. -/
import Derived.Test.YtlpkgheggbcidaaDoorRpPut
set_option linter.unusedVariables false
namespace Go.Proofs.YtlpkgheggbcidaaDoor
open Go.RowKit Go.Mem Go.Rp Go.Maps
theorem meth_make (f : Nat) (A : Option Addr) (n c : Nat) (w : World) : (method (f + 1) 49 (.slice A n c) "Make").run Tryd.prog w = .ok (98, .slice A n c) w := by kernel_rfl
theorem meth_run (f T : Nat) (w : World) : (method (f + 1) 166 (.pointer (some ⟨T, 0, none⟩)) "Run").run Tryd.prog w = .ok (107, .pointer (some ⟨T, 0, none⟩)) w := by kernel_rfl
theorem meth_give (f T : Nat) (w : World) : (method (f + 1) 166 (.pointer (some ⟨T, 0, none⟩)) "Give").run Tryd.prog w = .ok (104, .pointer (some ⟨T, 0, none⟩)) w := by kernel_rfl
theorem meth_late (f T : Nat) (w : World) : (method (f + 1) 166 (.pointer (some ⟨T, 0, none⟩)) "Late").run Tryd.prog w = .ok (105, .pointer (some ⟨T, 0, none⟩)) w := by kernel_rfl
theorem meth_offer (f T : Nat) (w : World) : (method (f + 1) 166 (.pointer (some ⟨T, 0, none⟩)) "Offer").run Tryd.prog w = .ok (106, .pointer (some ⟨T, 0, none⟩)) w := by kernel_rfl
end Go.Proofs.YtlpkgheggbcidaaDoor
