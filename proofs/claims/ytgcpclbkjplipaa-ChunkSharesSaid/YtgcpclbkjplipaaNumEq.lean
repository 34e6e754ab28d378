/- Slices of ints; append; contract of slices.Equal at ints. -/
import Derived.Test.YtgcpclbkjplipaaProg
import Derived.Test.YtgcpclbkjplipaaMem
import Derived.KernelRfl
import Derived.WalkSpells
import Derived.Deep.QuietTactic
import Derived.BigQuiet
set_option linter.unusedVariables false
namespace Go.Mem
open Go.RowKit
def nums (l : List Int) : List Value := l.map (.int .i64)
def flags (l : List Bool) : List Value := l.map .bool
theorem nums_length (l : List Int) : (nums l).length = l.length := by simp [nums]
theorem nums_append (a b : List Int) : nums (a ++ b) = nums a ++ nums b := by simp [nums]
theorem nums_take (a : List Int) (k : Nat) : (nums a).take k = nums (a.take k) := by simp [nums]
theorem nums_drop (a : List Int) (k : Nat) : (nums a).drop k = nums (a.drop k) := by simp [nums]
theorem nums_one (l : List Int) : ∀ u ∈ nums l, u.oneCell' = true := by
  intro u hu
  obtain ⟨b, _, rfl⟩ := List.mem_map.1 hu
  rfl
theorem nums_at (l : List Int) (k : Nat) (h : k < l.length) : (nums l)[k]? = some (.int .i64 l[k]) := by simp [nums, h]
theorem flags_length (l : List Bool) : (flags l).length = l.length := by simp [flags]
theorem flags_at (l : List Bool) (k : Nat) (h : k < l.length) : (flags l)[k]? = some (.bool l[k]) := by simp [flags, h]
/-- r is the first place of x, or -1 -/
def IdxOf {α : Type} (l : List α) (x : α) (r : Int) : Prop := (r = -1 ∧ ∀ i : Nat, l[i]? ≠ some x) ∨ (∃ k : Nat, r = k ∧ k < l.length ∧ l[k]? = some x ∧ ∀ i : Nat, i < k → l[i]? ≠ some x)
theorem IdxOf.neg {α : Type} {l : List α} {x : α} {r : Int} (h : IdxOf l x r) (hn : ∀ i : Nat, l[i]? ≠ some x) : r = -1 := by
  rcases h with ⟨h, _⟩ | ⟨k, _, _, h, _⟩
  · exact h
  · exact absurd h (hn k)
theorem IdxOf.at_ {α : Type} {l : List α} {x : α} {r : Int} (h : IdxOf l x r) {k : Nat} (hk : l[k]? = some x) (hf : ∀ i : Nat, i < k → l[i]? ≠ some x) : r = k := by
  rcases h with ⟨_, h⟩ | ⟨j, rfl, _, h1, h2⟩
  · exact absurd hk (h k)
  · rcases Nat.lt_trichotomy j k with hj | rfl | hj
    · exact absurd h1 (hf j hj)
    · rfl
    · exact absurd hk (h2 k hj)
end Go.Mem
namespace Go.Proofs.Ytgcpclbkjplipaa
open Go.RowKit Go.Mem
theorem info_int : (Try.prog.info? 3).map (fun i => (i.zero, i.size, i.bytes)) = some (some (.int .i64 0), 1, 8) := by kernel_rfl
theorem size_int : (Try.prog.info? 3).map (·.size) = some 1 := by kernel_rfl
/-- append of ints onto a row of the call's own -/
theorem app_int (w : World) {ops : Array Oper} {rest : List Oper} {o : Oper} {a : Act} {Q : Exit → Act → World → Prop} (hgd : o.guard = none) (s x : Operand)
    (ho : o.op = .call { callee := .builtin .append, args := #[s, x], argTypes := #[42, 42] })
    {base : Nat} {v : Value} {n : Nat} {xs : List Value} (hown : w.ownsRow base 3 1 v n xs) (hs : a.eval s = v)
    {D : Nat → Prop} {A : Option Addr} {m : Nat} {news : List Value} (hr : Reads w D 1 A m news) {c : Nat} (hx : a.eval x = .slice A m c) (h1 : ∀ u ∈ news, u.oneCell' = true)
    (h63 : n + m ≤ 8796093022208) (hbase : base ≤ w.heap.size)
    (h : ∀ v' w', w'.ownsRow base 3 1 v' (n + m) (xs ++ news) → w.grownBy w' v.ownBlock → (v'.ownBlock = v.ownBlock ∨ v'.ownBlock = some w.heap.size) → wpList Try.prog ops Q rest (a.put o.dst v') w') : wpList Try.prog ops Q (o :: rest) a w := by
  obtain ⟨i0, hi0, hz0, hz1, hz2⟩ := info_parts info_int
  exact wpList_append_any w hgd s x _ ho base _ i0 _ 1 8 Try.underlying42 hi0 hz0 hz1 hz2 rfl (by omega) v n xs hs hown D A m c news hx hr h1 (by simp only [maxLen]; omega) (by omega) hbase h

set_option maxRecDepth 100000 in
set_option maxHeartbeats 400000 in
theorem equal_ints (A B : Option Addr) (n c m d : Nat) (l k : List Int) (D E : Nat → Prop) (w : World) (hr : Reads w D 1 A n (nums l)) (hs : Reads w E 1 B m (nums k)) (hn : n ≤ 1099511627776) (hm : m ≤ 1099511627776) :
    Calls Try.prog 25 #[.slice A n c, .slice B m d] w fun e w' => e = .returned (.bool (decide (l = k))) ∧ Below w.heap.size w w' := by
  have hnl : n = l.length := by have := hr.len; rwa [nums_length] at this
  have hml : m = k.length := by have := hs.len; rwa [nums_length] at this
  have Hnl := Lib.hid hnl
  have Hml := Lib.hid hml
  clear hnl hml
  by_cases hnm : n = m
  · subst hnm
    go_enter Try.func25, Try.ntmps25
    go_wp2_with (fail)
    go_loopw [13] (fun v wr => ∃ j : Nat, j ≤ n ∧ v = .int .i64 j ∧ Hid (l.take j = k.take j) ∧ Below w.heap.size w wr) (fun v _ => n - (intOf v).toNat)
    case atStart => exact ⟨0, Nat.zero_le _, rfl, rfl, Below.refl _ _⟩
    case round =>
      obtain ⟨j, hj, rfl, hsame, hb⟩ := hrel
      by_cases hlt : j < n
      · obtain ⟨b1, o1, u1, rfl, _, hu1, hc1⟩ := hr.at_ hlt
        obtain ⟨b2, o2, u2, rfl, _, hu2, hc2⟩ := hs.at_ hlt
        have hl : j < l.length := by have := Hnl.out; omega
        have hk : j < k.length := by have := Hml.out; omega
        rw [nums_at l j hl] at hu1
        rw [nums_at k j hk] at hu2
        injection hu1 with hu1
        injection hu2 with hu2
        subst hu1 hu2
        have g1 := (Same.any (D := Any) hb).cell trivial hc1
        have g2 := (Same.any (D := Any) hb).cell trivial hc2
        by_cases hxy : l[j] = k[j]
        · have hs' : Hid (l.take (j + 1) = k.take (j + 1)) := by
            unfold Hid
            rw [List.take_succ_eq_append_getElem hl, List.take_succ_eq_append_getElem hk, hsame.out, hxy]
          rw [hxy] at g1
          generalize k[j] = y at g1 g2
          have h1 : (y != y) = false := by simp
          clear hxy hsame hr hs hc1 hc2
          go_wp2_with (fail)
          go_quiet (fail)
          go_wp2_with (fail)
          exact ⟨⟨j + 1, by omega, by go_num, hs', ⟨hb.os, hb.tape, hb.output, hb.size, hb.block⟩⟩, by simp [intOf]; omega⟩
        · have hne : ¬ l = k := fun h => hxy (by subst h; rfl)
          generalize l[j] = x at g1 hxy
          generalize k[j] = y at g2 hxy
          have h1 : (x != y) = true := by simpa using hxy
          have Hne := Lib.hid hne
          clear hxy hsame hr hs hc1 hc2 hne
          go_wp2_with (fail)
          go_quiet (fail)
          go_wp2_with (fail)
          go_ret
          exact ⟨by simp [Hne.out], ⟨hb.os, hb.tape, hb.output, hb.size, hb.block⟩⟩
      · have heq : l = k := by
          have h1 := hsame.out
          rwa [List.take_of_length_le (by have := Hnl.out; omega), List.take_of_length_le (by have := Hml.out; omega)] at h1
        have Heq := Lib.hid heq
        clear heq hsame hr hs
        go_wp2_with (fail)
        go_ret
        exact ⟨by simp [Heq.out], hb⟩
  · have hne : ¬ l = k := fun h => hnm (by rw [Hnl.out, Hml.out, h])
    have h1 : ((n : Int) != (m : Int)) = true := by simp; omega
    have Hne := Lib.hid hne
    clear hne hr hs
    go_enter Try.func25, Try.ntmps25
    go_wp2_with (fail)
    go_ret
    exact ⟨by simp [Hne.out], Below.refl _ _⟩
end Go.Proofs.Ytgcpclbkjplipaa
