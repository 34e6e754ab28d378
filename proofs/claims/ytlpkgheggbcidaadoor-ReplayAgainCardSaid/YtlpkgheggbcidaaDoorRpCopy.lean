/- Contracts of copies.Value at a value without parts, and of World.there. -/
import Derived.Test.YtlpkgheggbcidaaDoorRpMake
import Derived.LoopTactic
set_option linter.unusedVariables false
namespace Go.Proofs.YtlpkgheggbcidaaDoor
open Go.RowKit Go.Mem Go.Rp
set_option maxRecDepth 100000 in
theorem each_nil (w : World) (f : Value) : Calls Tryd.prog 56 #[.slice none 0 0, f] w fun e w' => e = .returned (.slice none 0 0) ∧ w = w' := by
  go_enter Tryd.func56, Tryd.ntmps56
  go_wp2_with (fail)
  go_loop [5, 10] (fun s i => s = .slice none 0 0 ∧ i = .int .i64 0) (fun _ _ => 0)
  case atStart => exact ⟨rfl, rfl⟩
  case round =>
    obtain ⟨rfl, rfl⟩ := hrel
    go_wp2_with (fail)
    go_ret
    exact ⟨rfl, rfl⟩
def BackPost (w : World) (v : Value) (e : Ending) (w' : World) : Prop := e = .returned v ∧ Below w.heap.size w w'
set_option maxRecDepth 100000 in
theorem copy_any (v : Vl) (w : World) : Calls Tryd.prog 40 #[vlV v] w (BackPost w (vlV v)) := by
  obtain ⟨k, n⟩ := v
  unfold vlV
  go_enter Tryd.func40, Tryd.ntmps40
  go_wp2_with (fail)
  refine (each_nil _ _).mono ?_
  rintro e w' ⟨rfl, rfl⟩
  go_wp2_with (fail)
  have hb := Blk.new (w.alloc (.cells #[.int .i64 k, .int .i64 n, .string ⟨#[]⟩, .slice none 0 0] 56)) 56 [.int .i64 k, .int .i64 n, .string ⟨#[]⟩, .slice none 0 0]
  rw [show (w.alloc (.cells #[.int .i64 k, .int .i64 n, .string ⟨#[]⟩, .slice none 0 0] 56)).heap.size = w.heap.size + 1 by simp] at hb
  refine ret_blk rfl rfl hb Tryd.underlying56 (by kernel_rfl) rfl ?_
  exact ⟨rfl, ((Below.refl _ _).alloc (Nat.le_refl _) _).alloc (by simp) _⟩
set_option maxRecDepth 100000 in
theorem there_any (w : World) (T : Nat) (r : Int) (L c : Nat) (A : Option Addr) (hc : w.cell? ⟨T, 1, none⟩ = some (.slice A L c)) (lT : T < w.heap.size) :
    Calls Tryd.prog 39 #[.pointer (some ⟨T, 0, none⟩), .int .i64 r] w fun e w' => e = .returned (.bool (decide (1 ≤ r ∧ r ≤ (L : Int)))) ∧ w = w' := by
  by_cases h1 : 1 ≤ r
  · have hd : decide (1 ≤ r) = true := by simpa using h1
    have hr : decide (r ≤ (L : Int)) = decide (1 ≤ r ∧ r ≤ (L : Int)) := by rw [decide_eq_decide]; omega
    go_enter Tryd.func39, Tryd.ntmps39
    go_wp2_with (fail)
    go_ret
    exact ⟨by first | rfl | rw [hr], rfl⟩
  · have hd : decide (1 ≤ r) = false := by simpa using h1
    have hr : decide (1 ≤ r ∧ r ≤ (L : Int)) = false := by simp; omega
    rw [hr]
    go_enter Tryd.func39, Tryd.ntmps39
    go_wp2_with (fail)
    go_ret
    exact ⟨rfl, rfl⟩
end Go.Proofs.YtlpkgheggbcidaaDoor
