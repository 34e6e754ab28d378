/- Slices of ints and bools: what they read. · Contract of the laws' helper rest. · An argument that is a slice of ints, opened. Over any program. -/
import Derived.Test.YtoddjdajjmcliaaMem
import Derived.KernelRfl
import Derived.WalkSpells
import Derived.Deep.QuietTactic
import Derived.BigQuiet
import Derived.Test.YtoddjdajjmcliaaProg
import Derived.Test.YtoddjdajjmcliaaLaw
set_option linter.unusedVariables false
namespace Go.Mem
open Go.RowKit
def nums (l : List Int) : List Value := l.map (.int .i64)
def flags (l : List Bool) : List Value := l.map .bool
theorem nums_length (l : List Int) : (nums l).length = l.length := by simp [nums]
theorem nums_append (a b : List Int) : nums (a ++ b) = nums a ++ nums b := by simp [nums]
theorem nums_take (a : List Int) (k : Nat) : (nums a).take k = nums (a.take k) := by simp [nums]
theorem nums_drop (a : List Int) (k : Nat) : (nums a).drop k = nums (a.drop k) := by simp [nums]
theorem nums_one (l : List Int) : ∀ u ∈ nums l, u.oneCell' = true := by
  intro u hu
  obtain ⟨b, _, rfl⟩ := List.mem_map.1 hu
  rfl
theorem nums_at (l : List Int) (k : Nat) (h : k < l.length) : (nums l)[k]? = some (.int .i64 l[k]) := by simp [nums, h]
theorem flags_length (l : List Bool) : (flags l).length = l.length := by simp [flags]
theorem flags_at (l : List Bool) (k : Nat) (h : k < l.length) : (flags l)[k]? = some (.bool l[k]) := by simp [flags, h]
/-- r is the first place of x, or -1 -/
def IdxOf {α : Type} (l : List α) (x : α) (r : Int) : Prop := (r = -1 ∧ ∀ i : Nat, l[i]? ≠ some x) ∨ (∃ k : Nat, r = k ∧ k < l.length ∧ l[k]? = some x ∧ ∀ i : Nat, i < k → l[i]? ≠ some x)
theorem IdxOf.neg {α : Type} {l : List α} {x : α} {r : Int} (h : IdxOf l x r) (hn : ∀ i : Nat, l[i]? ≠ some x) : r = -1 := by
  rcases h with ⟨h, _⟩ | ⟨k, _, _, h, _⟩
  · exact h
  · exact absurd h (hn k)
theorem IdxOf.at_ {α : Type} {l : List α} {x : α} {r : Int} (h : IdxOf l x r) {k : Nat} (hk : l[k]? = some x) (hf : ∀ i : Nat, i < k → l[i]? ≠ some x) : r = k := by
  rcases h with ⟨_, h⟩ | ⟨j, rfl, _, h1, h2⟩
  · exact absurd hk (h k)
  · rcases Nat.lt_trichotomy j k with hj | rfl | hj
    · exact absurd h1 (hf j hj)
    · rfl
    · exact absurd hk (h2 k hj)
end Go.Mem
set_option linter.unusedVariables false
namespace Go.Proofs.Ytoddjdajjmcliaa
open Go.RowKit Go.Mem

/-- rest of a raw number. -/
def restI (n many : Int) : Int := if n < 0 then (-(n + 1)) % many else n % many
theorem restI_bd (n many : Int) (h : 0 < many) : 0 ≤ restI n many ∧ restI n many < many := by
  unfold restI
  split
  · exact ⟨Int.emod_nonneg _ (by omega), Int.emod_lt_of_pos _ h⟩
  · exact ⟨Int.emod_nonneg _ (by omega), Int.emod_lt_of_pos _ h⟩
/-- an int fits 64 bits -/
def I64 (n : Int) : Prop := -9223372036854775808 ≤ n ∧ n ≤ 9223372036854775807

theorem rest_any (n many : Int) (w : World) (hn : I64 n) (hm : 0 < many) (hm2 : many ≤ 9223372036854775807) :
    Calls Try.prog 12 #[.int .i64 n, .int .i64 many] w fun e w' => e = .returned (.int .i64 (restI n many)) ∧ w = w' := by
  obtain ⟨hn1, hn2⟩ := hn
  by_cases h : n < 0
  · have e : Hid (restI n many = (-(n + 1)) % many) := by unfold Hid restI; rw [if_pos h]
    have h0 : (many == 0) = false := by simp; omega
    go_enter Try.func12, Try.ntmps12
    go_wp2
    go_ret
    rw [e.out, ← Int.tmod_eq_emod_of_nonneg (by omega), Int.neg_tmod]
    exact ⟨rfl, rfl⟩
  · have e : Hid (restI n many = n % many) := by unfold Hid restI; rw [if_neg h]
    have h0 : (many == 0) = false := by simp; omega
    go_enter Try.func12, Try.ntmps12
    go_wp2
    go_ret
    rw [e.out]
    exact ⟨rfl, rfl⟩

/-- .. its result under a name -/
theorem rest_q (n many : Int) (w : World) (q : Int) (hn : I64 n) (hm : 0 < many) (hm2 : many ≤ 9223372036854775807) (hq : restI n many = q) :
    Calls Try.prog 12 #[.int .i64 n, .int .i64 many] w fun e w' => e = .returned (.int .i64 q) ∧ w = w' := by
  subst hq
  exact rest_any n many w hn hm hm2

end Go.Proofs.Ytoddjdajjmcliaa
set_option linter.unusedVariables false
namespace Go.Law
open Go.ChangeShapes Go.WideShapes Go.ChangeAt Go.RowKit Go.Mem
section
variable {H : Type} {enc : TypeId × Value → H} {P : Program}
theorem open_nums {t e : TypeId} {W : World} {base : Nat} {v : Value} {d : DataW H} {p : List MemPlace} (ht : P.underlying t = some (.slice e)) (he : P.underlying e = some (.int .i64)) (hc : P.cellsOf e = 1)
    (hv : Value.okWide P W .any base t v) (h : DataW.Trod enc P W 0 (fun _ => true) true t v d p) : ∃ A n c l, v = .slice A n c ∧ n = l.length ∧ n ≤ c ∧ c ≤ maxLen ∧ Reads W Any 1 A n (nums l) ∧ ∀ x ∈ l, -9223372036854775808 ≤ x ∧ x ≤ 9223372036854775807 := by
  obtain ⟨A, n, c, rfl⟩ := okWide_slice ht hv
  obtain ⟨fuel, hf⟩ := h
  rcases open_ints ht he hc hf with ⟨hcs, _⟩ | ⟨x, l, c', zs, hcs, _, hl, hm, hz, _, hcell, hwz⟩
  · simp [Value.cells] at hcs
    obtain ⟨rfl, rfl, rfl⟩ := hcs
    exact ⟨_, _, _, [], rfl, rfl, Nat.le_refl _, Nat.zero_le _, Reads.empty, fun x hx => by simp at hx⟩
  · simp [Value.cells] at hcs
    obtain ⟨rfl, rfl, rfl⟩ := hcs
    simp only [if_true] at hz
    have h1 := reads_of_ints (len := n) (by omega) hcell
    exact ⟨_, _, _, zs.take n, rfl, by simp; omega, hl, hm, h1, fun x hx => i64_of_wf (hwz x (List.mem_of_mem_take hx))⟩
end
end Go.Law
