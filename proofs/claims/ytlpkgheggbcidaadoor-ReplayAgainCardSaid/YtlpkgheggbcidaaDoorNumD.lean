/- Slices of ints and bools: what they read. -/
import Derived.Test.YtlpkgheggbcidaaDoorMem
import Derived.KernelRfl
import Derived.WalkSpells
import Derived.Deep.QuietTactic
import Derived.BigQuiet
set_option linter.unusedVariables false
namespace Go.Mem
open Go.RowKit
def nums (l : List Int) : List Value := l.map (.int .i64)
def flags (l : List Bool) : List Value := l.map .bool
theorem nums_length (l : List Int) : (nums l).length = l.length := by simp [nums]
theorem nums_append (a b : List Int) : nums (a ++ b) = nums a ++ nums b := by simp [nums]
theorem nums_take (a : List Int) (k : Nat) : (nums a).take k = nums (a.take k) := by simp [nums]
theorem nums_drop (a : List Int) (k : Nat) : (nums a).drop k = nums (a.drop k) := by simp [nums]
theorem nums_one (l : List Int) : ∀ u ∈ nums l, u.oneCell' = true := by
  intro u hu
  obtain ⟨b, _, rfl⟩ := List.mem_map.1 hu
  rfl
theorem nums_at (l : List Int) (k : Nat) (h : k < l.length) : (nums l)[k]? = some (.int .i64 l[k]) := by simp [nums, h]
theorem flags_length (l : List Bool) : (flags l).length = l.length := by simp [flags]
theorem flags_at (l : List Bool) (k : Nat) (h : k < l.length) : (flags l)[k]? = some (.bool l[k]) := by simp [flags, h]
/-- r is the first place of x, or -1 -/
def IdxOf {α : Type} (l : List α) (x : α) (r : Int) : Prop := (r = -1 ∧ ∀ i : Nat, l[i]? ≠ some x) ∨ (∃ k : Nat, r = k ∧ k < l.length ∧ l[k]? = some x ∧ ∀ i : Nat, i < k → l[i]? ≠ some x)
theorem IdxOf.neg {α : Type} {l : List α} {x : α} {r : Int} (h : IdxOf l x r) (hn : ∀ i : Nat, l[i]? ≠ some x) : r = -1 := by
  rcases h with ⟨h, _⟩ | ⟨k, _, _, h, _⟩
  · exact h
  · exact absurd h (hn k)
theorem IdxOf.at_ {α : Type} {l : List α} {x : α} {r : Int} (h : IdxOf l x r) {k : Nat} (hk : l[k]? = some x) (hf : ∀ i : Nat, i < k → l[i]? ≠ some x) : r = k := by
  rcases h with ⟨_, h⟩ | ⟨j, rfl, _, h1, h2⟩
  · exact absurd hk (h k)
  · rcases Nat.lt_trichotomy j k with hj | rfl | hj
    · exact absurd h1 (hf j hj)
    · rfl
    · exact absurd hk (h2 k hj)
end Go.Mem
