/- The toys' methods, called through interfaces. -/
import Derived.Test.YtlpkgheggbcidaaRpPut
set_option linter.unusedVariables false
namespace Go.Proofs.Ytlpkgheggbcidaa
open Go.RowKit Go.Mem Go.Rp Go.Maps
theorem meth_make (f : Nat) (A : Option Addr) (n c : Nat) (w : World) : (method (f + 1) 48 (.slice A n c) "Make").run Try.prog w = .ok (42, .slice A n c) w := by kernel_rfl
theorem meth_run (f T : Nat) (w : World) : (method (f + 1) 100 (.pointer (some ⟨T, 0, none⟩)) "Run").run Try.prog w = .ok (47, .pointer (some ⟨T, 0, none⟩)) w := by kernel_rfl
theorem meth_give (f T : Nat) (w : World) : (method (f + 1) 100 (.pointer (some ⟨T, 0, none⟩)) "Give").run Try.prog w = .ok (44, .pointer (some ⟨T, 0, none⟩)) w := by kernel_rfl
theorem meth_late (f T : Nat) (w : World) : (method (f + 1) 100 (.pointer (some ⟨T, 0, none⟩)) "Late").run Try.prog w = .ok (45, .pointer (some ⟨T, 0, none⟩)) w := by kernel_rfl
theorem meth_offer (f T : Nat) (w : World) : (method (f + 1) 100 (.pointer (some ⟨T, 0, none⟩)) "Offer").run Try.prog w = .ok (46, .pointer (some ⟨T, 0, none⟩)) w := by kernel_rfl
end Go.Proofs.Ytlpkgheggbcidaa
