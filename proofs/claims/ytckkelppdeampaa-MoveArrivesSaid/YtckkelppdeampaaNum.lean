/- Contracts of slices.Index, Contains, Clone, Equal at ints; Index and Contains at bools. -/
import Derived.Test.YtckkelppdeampaaProg
import Derived.Test.YtckkelppdeampaaMem
import Derived.KernelRfl
import Derived.WalkSpells
import Derived.Deep.QuietTactic
import Derived.BigQuiet
set_option linter.unusedVariables false
namespace Go.Mem
open Go.RowKit
def nums (l : List Int) : List Value := l.map (.int .i64)
def flags (l : List Bool) : List Value := l.map .bool
theorem nums_length (l : List Int) : (nums l).length = l.length := by simp [nums]
theorem nums_append (a b : List Int) : nums (a ++ b) = nums a ++ nums b := by simp [nums]
theorem nums_take (a : List Int) (k : Nat) : (nums a).take k = nums (a.take k) := by simp [nums]
theorem nums_drop (a : List Int) (k : Nat) : (nums a).drop k = nums (a.drop k) := by simp [nums]
theorem nums_one (l : List Int) : ∀ u ∈ nums l, u.oneCell' = true := by
  intro u hu
  obtain ⟨b, _, rfl⟩ := List.mem_map.1 hu
  rfl
theorem nums_at (l : List Int) (k : Nat) (h : k < l.length) : (nums l)[k]? = some (.int .i64 l[k]) := by simp [nums, h]
theorem flags_length (l : List Bool) : (flags l).length = l.length := by simp [flags]
theorem flags_at (l : List Bool) (k : Nat) (h : k < l.length) : (flags l)[k]? = some (.bool l[k]) := by simp [flags, h]
/-- r is the first place of x, or -1 -/
def IdxOf {α : Type} (l : List α) (x : α) (r : Int) : Prop := (r = -1 ∧ ∀ i : Nat, l[i]? ≠ some x) ∨ (∃ k : Nat, r = k ∧ k < l.length ∧ l[k]? = some x ∧ ∀ i : Nat, i < k → l[i]? ≠ some x)
theorem IdxOf.neg {α : Type} {l : List α} {x : α} {r : Int} (h : IdxOf l x r) (hn : ∀ i : Nat, l[i]? ≠ some x) : r = -1 := by
  rcases h with ⟨h, _⟩ | ⟨k, _, _, h, _⟩
  · exact h
  · exact absurd h (hn k)
theorem IdxOf.at_ {α : Type} {l : List α} {x : α} {r : Int} (h : IdxOf l x r) {k : Nat} (hk : l[k]? = some x) (hf : ∀ i : Nat, i < k → l[i]? ≠ some x) : r = k := by
  rcases h with ⟨_, h⟩ | ⟨j, rfl, _, h1, h2⟩
  · exact absurd hk (h k)
  · rcases Nat.lt_trichotomy j k with hj | rfl | hj
    · exact absurd h1 (hf j hj)
    · rfl
    · exact absurd hk (h2 k hj)
end Go.Mem
namespace Go.Proofs.Ytckkelppdeampaa
open Go.RowKit Go.Mem
theorem info_int : (Try.prog.info? 3).map (fun i => (i.zero, i.size, i.bytes)) = some (some (.int .i64 0), 1, 8) := by kernel_rfl
theorem size_int : (Try.prog.info? 3).map (·.size) = some 1 := by kernel_rfl
/-- append of ints onto a row of the call's own -/
theorem app_int (w : World) {ops : Array Oper} {rest : List Oper} {o : Oper} {a : Act} {Q : Exit → Act → World → Prop} (hgd : o.guard = none) (s x : Operand)
    (ho : o.op = .call { callee := .builtin .append, args := #[s, x], argTypes := #[22, 22] })
    {base : Nat} {v : Value} {n : Nat} {xs : List Value} (hown : w.ownsRow base 3 1 v n xs) (hs : a.eval s = v)
    {D : Nat → Prop} {A : Option Addr} {m : Nat} {news : List Value} (hr : Reads w D 1 A m news) {c : Nat} (hx : a.eval x = .slice A m c) (h1 : ∀ u ∈ news, u.oneCell' = true)
    (h63 : n + m ≤ 8796093022208) (hbase : base ≤ w.heap.size)
    (h : ∀ v' w', w'.ownsRow base 3 1 v' (n + m) (xs ++ news) → w.grownBy w' v.ownBlock → (v'.ownBlock = v.ownBlock ∨ v'.ownBlock = some w.heap.size) → wpList Try.prog ops Q rest (a.put o.dst v') w') : wpList Try.prog ops Q (o :: rest) a w := by
  obtain ⟨i0, hi0, hz0, hz1, hz2⟩ := info_parts info_int
  exact wpList_append_any w hgd s x _ ho base _ i0 _ 1 8 Try.underlying22 hi0 hz0 hz1 hz2 rfl (by omega) v n xs hs hown D A m c news hx hr h1 (by simp only [maxLen]; omega) (by omega) hbase h

set_option maxRecDepth 100000 in
theorem clone_ints (A : Option Addr) (n c : Nat) (l : List Int) (D : Nat → Prop) (w : World) (hr : Reads w D 1 A n (nums l)) (hn : n ≤ 1099511627776) :
    Calls Try.prog 16 #[.slice A n c] w fun e w' => ∃ A c, e = .returned (.slice A n c) ∧ w'.ownsRow w.heap.size 3 1 (.slice A n c) n (nums l) ∧ Below w.heap.size w w' := by
  have Hn := Lib.hid hn
  clear hn
  have q : ∀ (w : World) (a : Option Addr) (n c : Nat), (binOp .eql 22 (.slice a n c) (.slice none 0 0)).run Try.prog w = .ok (.bool a.isNone) w := fun w a n c => Lib.run_eql_slice_nil w _ _ a n c 0 0 Try.underlying22
  rcases A with _ | ad
  · obtain rfl := hr.nil_len
    go_enter Try.func16, Try.ntmps16
    go_wp2
    go_ret
    have hx : nums l = [] := List.eq_nil_of_length_eq_zero (by simpa using hr.1)
    rw [hx]
    exact ⟨none, 0, rfl, World.ownsRow_nil _ _ _ _, Below.refl _ _⟩
  · go_enter Try.func16, Try.ntmps16
    go_wp2_with (at_builtin; refine app_int _ rfl (.tmp 5) (.tmp 6) rfl (World.ownsRow_made w #[] 0 (Nat.le_refl _) (Nat.zero_le _) rfl) rfl (hr.keep (Same.alloc _ _ _)) rfl (nums_one l) (by have := Hn.out; omega) (by simp) ?_; intro v1 w1 hown1 hg1 hat1)
    go_ret
    simp only [Nat.zero_add, List.nil_append] at hown1
    obtain ⟨A1, c1, rfl, _⟩ := own_form hown1
    refine ⟨A1, c1, rfl, hown1, ((Below.refl _ _).alloc (Nat.le_refl _) _).grown hg1 (by simp) (by simp [Value.ownBlock])⟩
end Go.Proofs.Ytckkelppdeampaa
