/- Contract of the laws' helper rest. -/
import Derived.Test.YtlpkgheggbcidaaDoorProg
import Derived.Test.YtlpkgheggbcidaaDoorMem
import Derived.KernelRfl
import Derived.WalkSpells
set_option linter.unusedVariables false
namespace Go.Proofs.YtlpkgheggbcidaaDoor
open Go.RowKit Go.Mem

/-- rest of a raw number. -/
def restI (n many : Int) : Int := if n < 0 then (-(n + 1)) % many else n % many
theorem restI_bd (n many : Int) (h : 0 < many) : 0 ≤ restI n many ∧ restI n many < many := by
  unfold restI
  split
  · exact ⟨Int.emod_nonneg _ (by omega), Int.emod_lt_of_pos _ h⟩
  · exact ⟨Int.emod_nonneg _ (by omega), Int.emod_lt_of_pos _ h⟩
/-- an int fits 64 bits -/
def I64 (n : Int) : Prop := -9223372036854775808 ≤ n ∧ n ≤ 9223372036854775807

theorem rest_any (n many : Int) (w : World) (hn : I64 n) (hm : 0 < many) (hm2 : many ≤ 9223372036854775807) :
    Calls Tryd.prog 16 #[.int .i64 n, .int .i64 many] w fun e w' => e = .returned (.int .i64 (restI n many)) ∧ w = w' := by
  obtain ⟨hn1, hn2⟩ := hn
  by_cases h : n < 0
  · have e : Hid (restI n many = (-(n + 1)) % many) := by unfold Hid restI; rw [if_pos h]
    have h0 : (many == 0) = false := by simp; omega
    go_enter Tryd.func16, Tryd.ntmps16
    go_wp2
    go_ret
    rw [e.out, ← Int.tmod_eq_emod_of_nonneg (by omega), Int.neg_tmod]
    exact ⟨rfl, rfl⟩
  · have e : Hid (restI n many = n % many) := by unfold Hid restI; rw [if_neg h]
    have h0 : (many == 0) = false := by simp; omega
    go_enter Tryd.func16, Tryd.ntmps16
    go_wp2
    go_ret
    rw [e.out]
    exact ⟨rfl, rfl⟩

/-- .. its result under a name -/
theorem rest_q (n many : Int) (w : World) (q : Int) (hn : I64 n) (hm : 0 < many) (hm2 : many ≤ 9223372036854775807) (hq : restI n many = q) :
    Calls Tryd.prog 16 #[.int .i64 n, .int .i64 many] w fun e w' => e = .returned (.int .i64 q) ∧ w = w' := by
  subst hq
  exact rest_any n many w hn hm hm2

end Go.Proofs.YtlpkgheggbcidaaDoor
