/- Contracts of slices.Index, Contains, Clone, Equal at ints; Index and Contains at bools. -/
import Derived.Test.YtpnhmplinkakbaaProg
import Derived.Test.YtpnhmplinkakbaaMem
import Derived.KernelRfl
import Derived.WalkSpells
import Derived.Deep.QuietTactic
import Derived.BigQuiet
set_option linter.unusedVariables false
namespace Go.Mem
open Go.RowKit
def nums (l : List Int) : List Value := l.map (.int .i64)
def flags (l : List Bool) : List Value := l.map .bool
theorem nums_length (l : List Int) : (nums l).length = l.length := by simp [nums]
theorem nums_append (a b : List Int) : nums (a ++ b) = nums a ++ nums b := by simp [nums]
theorem nums_take (a : List Int) (k : Nat) : (nums a).take k = nums (a.take k) := by simp [nums]
theorem nums_drop (a : List Int) (k : Nat) : (nums a).drop k = nums (a.drop k) := by simp [nums]
theorem nums_one (l : List Int) : ∀ u ∈ nums l, u.oneCell' = true := by
  intro u hu
  obtain ⟨b, _, rfl⟩ := List.mem_map.1 hu
  rfl
theorem nums_at (l : List Int) (k : Nat) (h : k < l.length) : (nums l)[k]? = some (.int .i64 l[k]) := by simp [nums, h]
theorem flags_length (l : List Bool) : (flags l).length = l.length := by simp [flags]
theorem flags_at (l : List Bool) (k : Nat) (h : k < l.length) : (flags l)[k]? = some (.bool l[k]) := by simp [flags, h]
/-- r is the first place of x, or -1 -/
def IdxOf {α : Type} (l : List α) (x : α) (r : Int) : Prop := (r = -1 ∧ ∀ i : Nat, l[i]? ≠ some x) ∨ (∃ k : Nat, r = k ∧ k < l.length ∧ l[k]? = some x ∧ ∀ i : Nat, i < k → l[i]? ≠ some x)
theorem IdxOf.neg {α : Type} {l : List α} {x : α} {r : Int} (h : IdxOf l x r) (hn : ∀ i : Nat, l[i]? ≠ some x) : r = -1 := by
  rcases h with ⟨h, _⟩ | ⟨k, _, _, h, _⟩
  · exact h
  · exact absurd h (hn k)
theorem IdxOf.at_ {α : Type} {l : List α} {x : α} {r : Int} (h : IdxOf l x r) {k : Nat} (hk : l[k]? = some x) (hf : ∀ i : Nat, i < k → l[i]? ≠ some x) : r = k := by
  rcases h with ⟨_, h⟩ | ⟨j, rfl, _, h1, h2⟩
  · exact absurd hk (h k)
  · rcases Nat.lt_trichotomy j k with hj | rfl | hj
    · exact absurd h1 (hf j hj)
    · rfl
    · exact absurd hk (h2 k hj)
end Go.Mem
namespace Go.Proofs.Ytpnhmplinkakbaa
open Go.RowKit Go.Mem
theorem info_int : (Try.prog.info? 3).map (fun i => (i.zero, i.size, i.bytes)) = some (some (.int .i64 0), 1, 8) := by kernel_rfl
theorem size_int : (Try.prog.info? 3).map (·.size) = some 1 := by kernel_rfl
/-- append of ints onto a row of the call's own -/
theorem app_int (w : World) {ops : Array Oper} {rest : List Oper} {o : Oper} {a : Act} {Q : Exit → Act → World → Prop} (hgd : o.guard = none) (s x : Operand)
    (ho : o.op = .call { callee := .builtin .append, args := #[s, x], argTypes := #[22, 22] })
    {base : Nat} {v : Value} {n : Nat} {xs : List Value} (hown : w.ownsRow base 3 1 v n xs) (hs : a.eval s = v)
    {D : Nat → Prop} {A : Option Addr} {m : Nat} {news : List Value} (hr : Reads w D 1 A m news) {c : Nat} (hx : a.eval x = .slice A m c) (h1 : ∀ u ∈ news, u.oneCell' = true)
    (h63 : n + m ≤ 8796093022208) (hbase : base ≤ w.heap.size)
    (h : ∀ v' w', w'.ownsRow base 3 1 v' (n + m) (xs ++ news) → w.grownBy w' v.ownBlock → (v'.ownBlock = v.ownBlock ∨ v'.ownBlock = some w.heap.size) → wpList Try.prog ops Q rest (a.put o.dst v') w') : wpList Try.prog ops Q (o :: rest) a w := by
  obtain ⟨i0, hi0, hz0, hz1, hz2⟩ := info_parts info_int
  exact wpList_append_any w hgd s x _ ho base _ i0 _ 1 8 Try.underlying22 hi0 hz0 hz1 hz2 rfl (by omega) v n xs hs hown D A m c news hx hr h1 (by simp only [maxLen]; omega) (by omega) hbase h

set_option maxRecDepth 100000 in
theorem clone_ints (A : Option Addr) (n c : Nat) (l : List Int) (D : Nat → Prop) (w : World) (hr : Reads w D 1 A n (nums l)) (hn : n ≤ 1099511627776) :
    Calls Try.prog 28 #[.slice A n c] w fun e w' => ∃ A c, e = .returned (.slice A n c) ∧ w'.ownsRow w.heap.size 3 1 (.slice A n c) n (nums l) ∧ Below w.heap.size w w' := by
  have Hn := Lib.hid hn
  clear hn
  have q : ∀ (w : World) (a : Option Addr) (n c : Nat), (binOp .eql 22 (.slice a n c) (.slice none 0 0)).run Try.prog w = .ok (.bool a.isNone) w := fun w a n c => Lib.run_eql_slice_nil w _ _ a n c 0 0 Try.underlying22
  rcases A with _ | ad
  · obtain rfl := hr.nil_len
    go_enter Try.func28, Try.ntmps28
    go_wp2
    go_ret
    have hx : nums l = [] := List.eq_nil_of_length_eq_zero (by simpa using hr.1)
    rw [hx]
    exact ⟨none, 0, rfl, World.ownsRow_nil _ _ _ _, Below.refl _ _⟩
  · go_enter Try.func28, Try.ntmps28
    go_wp2_with (at_builtin; refine app_int _ rfl (.tmp 5) (.tmp 6) rfl (World.ownsRow_made w #[] 0 (Nat.le_refl _) (Nat.zero_le _) rfl) rfl (hr.keep (Same.alloc _ _ _)) rfl (nums_one l) (by have := Hn.out; omega) (by simp) ?_; intro v1 w1 hown1 hg1 hat1)
    go_ret
    simp only [Nat.zero_add, List.nil_append] at hown1
    obtain ⟨A1, c1, rfl, _⟩ := own_form hown1
    refine ⟨A1, c1, rfl, hown1, ((Below.refl _ _).alloc (Nat.le_refl _) _).grown hg1 (by simp) (by simp [Value.ownBlock])⟩

set_option maxRecDepth 100000 in
theorem index_ints (A : Option Addr) (n c : Nat) (l : List Int) (x : Int) (D : Nat → Prop) (w : World) (hr : Reads w D 1 A n (nums l)) (hn : n ≤ 1099511627776) :
    Calls Try.prog 29 #[.slice A n c, .int .i64 x] w fun e w' => ∃ r, e = .returned (.int .i64 r) ∧ IdxOf l x r ∧ w = w' := by
  have hnl : n = l.length := by have := hr.len; rwa [nums_length] at this
  have Hnl := Lib.hid hnl
  clear hnl
  go_enter Try.func29, Try.ntmps29
  go_wp2_with (fail)
  go_loop [8] (fun v8 => ∃ k : Nat, k ≤ n ∧ v8 = .int .i64 k ∧ Hid (∀ i : Nat, i < k → l[i]? ≠ some x)) (fun v8 => n - (intOf v8).toNat)
  case atStart => exact ⟨0, Nat.zero_le _, rfl, fun i hi => by omega⟩
  case round =>
    obtain ⟨k, hk, rfl, hno⟩ := hrel
    by_cases hlt : k < n
    · obtain ⟨b, off, u, rfl, hD, hu, hc⟩ := hr.at_ hlt
      have hkl : k < l.length := by have := Hnl.out; omega
      rw [nums_at l k hkl] at hu
      injection hu with hu
      subst hu
      have hlk := List.getElem?_eq_getElem hkl
      generalize l[k] = y at hc hlk
      have Hlk := Lib.hid hlk
      clear hlk hr
      by_cases hxy : x = y
      · subst hxy
        go_wp2_with (fail)
        go_ret
        exact ⟨k, rfl, Or.inr ⟨k, rfl, hkl, Hlk.out, hno.out⟩, rfl⟩
      · have h1 : (x == y) = false := by simpa using hxy
        have hno' : Hid (∀ i : Nat, i < k + 1 → l[i]? ≠ some x) := by
          intro i hi
          by_cases hik : i < k
          · exact hno.out i hik
          · obtain rfl : i = k := by omega
            rw [Hlk.out]
            simpa using fun h => hxy h.symm
        clear hxy hno
        go_wp2_with (fail)
        go_round
        case rel => exact ⟨k + 1, by omega, by go_num, hno'⟩
        case measure => simp [intOf]; omega
    · have hall : ∀ i : Nat, l[i]? ≠ some x := fun i => by
        by_cases hi : i < k
        · exact hno.out i hi
        · rw [List.getElem?_eq_none (by have := Hnl.out; omega)]; simp
      have Hall := Lib.hid hall
      clear hall hno hr
      go_wp2_with (fail)
      go_ret
      exact ⟨-1, rfl, Or.inl ⟨rfl, Hall.out⟩, rfl⟩

set_option maxRecDepth 100000 in
theorem contains_ints (A : Option Addr) (n c : Nat) (l : List Int) (x : Int) (D : Nat → Prop) (w : World) (hr : Reads w D 1 A n (nums l)) (hn : n ≤ 1099511627776) :
    Calls Try.prog 27 #[.slice A n c, .int .i64 x] w fun e w' => e = .returned (.bool (decide (x ∈ l))) ∧ w = w' := by
  go_enter Try.func27, Try.ntmps27
  go_wp2_with (fail)
  refine (index_ints A n c l x D w hr hn).mono ?_
  rintro e w' ⟨r, rfl, hi, rfl⟩
  have hd : decide (x ∈ l) = decide (0 ≤ r) := by
    rcases hi with ⟨rfl, h⟩ | ⟨k, rfl, hk, h, _⟩
    · have : ¬ x ∈ l := fun hx => by
        obtain ⟨i, hi, rfl⟩ := List.mem_iff_getElem.1 hx
        exact h i (List.getElem?_eq_getElem hi)
      simp [this]
    · have : x ∈ l := List.mem_of_getElem? h
      simp [this]
  have Hd := Lib.hid hd
  clear hd hi hr
  go_wp2_with (fail)
  go_ret
  exact ⟨by rw [Hd.out]; rfl, rfl⟩

set_option maxRecDepth 100000 in
theorem index_flags (A : Option Addr) (n c : Nat) (l : List Bool) (x : Bool) (D : Nat → Prop) (w : World) (hr : Reads w D 1 A n (flags l)) (hn : n ≤ 1099511627776) :
    Calls Try.prog 41 #[.slice A n c, .bool x] w fun e w' => ∃ r, e = .returned (.int .i64 r) ∧ IdxOf l x r ∧ w = w' := by
  have hnl : n = l.length := by have := hr.len; rwa [flags_length] at this
  have Hnl := Lib.hid hnl
  clear hnl
  go_enter Try.func41, Try.ntmps41
  go_wp2_with (fail)
  go_loop [8] (fun v8 => ∃ k : Nat, k ≤ n ∧ v8 = .int .i64 k ∧ Hid (∀ i : Nat, i < k → l[i]? ≠ some x)) (fun v8 => n - (intOf v8).toNat)
  case atStart => exact ⟨0, Nat.zero_le _, rfl, fun i hi => by omega⟩
  case round =>
    obtain ⟨k, hk, rfl, hno⟩ := hrel
    by_cases hlt : k < n
    · obtain ⟨b, off, u, rfl, hD, hu, hc⟩ := hr.at_ hlt
      have hkl : k < l.length := by have := Hnl.out; omega
      rw [flags_at l k hkl] at hu
      injection hu with hu
      subst hu
      have hlk := List.getElem?_eq_getElem hkl
      generalize l[k] = y at hc hlk
      have Hlk := Lib.hid hlk
      clear hlk hr
      by_cases hxy : x = y
      · subst hxy
        go_wp2_with (fail)
        go_ret
        exact ⟨k, rfl, Or.inr ⟨k, rfl, hkl, Hlk.out, hno.out⟩, rfl⟩
      · have h1 : (x == y) = false := by simpa using hxy
        have hno' : Hid (∀ i : Nat, i < k + 1 → l[i]? ≠ some x) := by
          intro i hi
          by_cases hik : i < k
          · exact hno.out i hik
          · obtain rfl : i = k := by omega
            rw [Hlk.out]
            simpa using fun h => hxy h.symm
        clear hxy hno
        go_wp2_with (fail)
        go_round
        case rel => exact ⟨k + 1, by omega, by go_num, hno'⟩
        case measure => simp [intOf]; omega
    · have hall : ∀ i : Nat, l[i]? ≠ some x := fun i => by
        by_cases hi : i < k
        · exact hno.out i hi
        · rw [List.getElem?_eq_none (by have := Hnl.out; omega)]; simp
      have Hall := Lib.hid hall
      clear hall hno hr
      go_wp2_with (fail)
      go_ret
      exact ⟨-1, rfl, Or.inl ⟨rfl, Hall.out⟩, rfl⟩
set_option maxRecDepth 100000 in
theorem contains_flags (A : Option Addr) (n c : Nat) (l : List Bool) (x : Bool) (D : Nat → Prop) (w : World) (hr : Reads w D 1 A n (flags l)) (hn : n ≤ 1099511627776) :
    Calls Try.prog 31 #[.slice A n c, .bool x] w fun e w' => e = .returned (.bool (decide (x ∈ l))) ∧ w = w' := by
  go_enter Try.func31, Try.ntmps31
  go_wp2_with (fail)
  refine (index_flags A n c l x D w hr hn).mono ?_
  rintro e w' ⟨r, rfl, hi, rfl⟩
  have hd : decide (x ∈ l) = decide (0 ≤ r) := by
    rcases hi with ⟨rfl, h⟩ | ⟨k, rfl, hk, h, _⟩
    · have : ¬ x ∈ l := fun hx => by
        obtain ⟨i, hi, rfl⟩ := List.mem_iff_getElem.1 hx
        exact h i (List.getElem?_eq_getElem hi)
      simp [this]
    · have : x ∈ l := List.mem_of_getElem? h
      simp [this]
  have Hd := Lib.hid hd
  clear hd hi hr
  go_wp2_with (fail)
  go_ret
  exact ⟨by rw [Hd.out]; rfl, rfl⟩

set_option maxRecDepth 100000 in
set_option maxHeartbeats 400000 in
theorem equal_ints (A B : Option Addr) (n c m d : Nat) (l k : List Int) (D E : Nat → Prop) (w : World) (hr : Reads w D 1 A n (nums l)) (hs : Reads w E 1 B m (nums k)) (hn : n ≤ 1099511627776) (hm : m ≤ 1099511627776) :
    Calls Try.prog 14 #[.slice A n c, .slice B m d] w fun e w' => e = .returned (.bool (decide (l = k))) ∧ Below w.heap.size w w' := by
  have hnl : n = l.length := by have := hr.len; rwa [nums_length] at this
  have hml : m = k.length := by have := hs.len; rwa [nums_length] at this
  have Hnl := Lib.hid hnl
  have Hml := Lib.hid hml
  clear hnl hml
  by_cases hnm : n = m
  · subst hnm
    go_enter Try.func14, Try.ntmps14
    go_wp2_with (fail)
    go_loopw [13] (fun v wr => ∃ j : Nat, j ≤ n ∧ v = .int .i64 j ∧ Hid (l.take j = k.take j) ∧ Below w.heap.size w wr) (fun v _ => n - (intOf v).toNat)
    case atStart => exact ⟨0, Nat.zero_le _, rfl, rfl, Below.refl _ _⟩
    case round =>
      obtain ⟨j, hj, rfl, hsame, hb⟩ := hrel
      by_cases hlt : j < n
      · obtain ⟨b1, o1, u1, rfl, _, hu1, hc1⟩ := hr.at_ hlt
        obtain ⟨b2, o2, u2, rfl, _, hu2, hc2⟩ := hs.at_ hlt
        have hl : j < l.length := by have := Hnl.out; omega
        have hk : j < k.length := by have := Hml.out; omega
        rw [nums_at l j hl] at hu1
        rw [nums_at k j hk] at hu2
        injection hu1 with hu1
        injection hu2 with hu2
        subst hu1 hu2
        have g1 := (Same.any (D := Any) hb).cell trivial hc1
        have g2 := (Same.any (D := Any) hb).cell trivial hc2
        by_cases hxy : l[j] = k[j]
        · have hs' : Hid (l.take (j + 1) = k.take (j + 1)) := by
            unfold Hid
            rw [List.take_succ_eq_append_getElem hl, List.take_succ_eq_append_getElem hk, hsame.out, hxy]
          rw [hxy] at g1
          generalize k[j] = y at g1 g2
          have h1 : (y != y) = false := by simp
          clear hxy hsame hr hs hc1 hc2
          go_wp2_with (fail)
          go_quiet (fail)
          go_wp2_with (fail)
          exact ⟨⟨j + 1, by omega, by go_num, hs', ⟨hb.os, hb.tape, hb.output, hb.size, hb.block⟩⟩, by simp [intOf]; omega⟩
        · have hne : ¬ l = k := fun h => hxy (by subst h; rfl)
          generalize l[j] = x at g1 hxy
          generalize k[j] = y at g2 hxy
          have h1 : (x != y) = true := by simpa using hxy
          have Hne := Lib.hid hne
          clear hxy hsame hr hs hc1 hc2 hne
          go_wp2_with (fail)
          go_quiet (fail)
          go_wp2_with (fail)
          go_ret
          exact ⟨by simp [Hne.out], ⟨hb.os, hb.tape, hb.output, hb.size, hb.block⟩⟩
      · have heq : l = k := by
          have h1 := hsame.out
          rwa [List.take_of_length_le (by have := Hnl.out; omega), List.take_of_length_le (by have := Hml.out; omega)] at h1
        have Heq := Lib.hid heq
        clear heq hsame hr hs
        go_wp2_with (fail)
        go_ret
        exact ⟨by simp [Heq.out], hb⟩
  · have hne : ¬ l = k := fun h => hnm (by rw [Hnl.out, Hml.out, h])
    have h1 : ((n : Int) != (m : Int)) = true := by simp; omega
    have Hne := Lib.hid hne
    clear hne hr hs
    go_enter Try.func14, Try.ntmps14
    go_wp2_with (fail)
    go_ret
    exact ⟨by simp [Hne.out], Below.refl _ _⟩
end Go.Proofs.Ytpnhmplinkakbaa
