/- Decimal numerals and cutting at a byte: plain lists of bytes. No program in sight. -/
import Derived.Lib.ItoaNum
import Derived.Lib.AtoiAll
import Derived.Lib.Split
import Derived.Lib.Join
set_option linter.unusedVariables false
namespace Go.Txt
open Go.Lib
def isDg (b : UInt8) : Prop := 48 ≤ b.toNat ∧ b.toNat ≤ 57
theorem dg_val {d : Nat} (h : d < 10) : (UInt8.ofNat (48 + d)).toNat = 48 + d := by
  rw [UInt8.toNat_ofNat']
  omega
theorem digits_all (u : Nat) : ∀ b ∈ decDigits u, isDg b := by
  induction u using Nat.strongRecOn with
  | _ u ih =>
    intro b hb
    rw [decDigits] at hb
    split at hb
    · rename_i h
      rw [List.mem_singleton] at hb
      subst hb
      unfold isDg
      rw [dg_val h]
      omega
    · rename_i h
      rcases List.mem_append.1 hb with hb | hb
      · exact ih (u / 10) (by omega) b hb
      · rw [List.mem_singleton] at hb
        subst hb
        unfold isDg
        rw [dg_val (Nat.mod_lt _ (by omega))]
        omega
theorem digits_ne (u : Nat) : decDigits u ≠ [] := by
  rw [decDigits]
  split <;> simp
theorem digits_len {u k : Nat} (h : u < 10 ^ k) (hk : 1 ≤ k) : (decDigits u).length ≤ k := by
  induction k generalizing u with
  | zero => omega
  | succ k ih =>
    rw [decDigits]
    split
    · simp
    · rename_i hu
      rw [List.length_append, List.length_singleton]
      rw [Nat.pow_succ] at h
      by_cases hk0 : k = 0
      · subst hk0; omega
      · have := ih (u := u / 10) (by omega) (by omega)
        omega
theorem parse_snoc : ∀ (a : List UInt8) (acc v : Nat) (d : UInt8), parseUint10 acc a = .ok v → isDg d → v < 1844674407370955161 → parseUint10 acc (a ++ [d]) = .ok (v * 10 + (d.toNat - 48))
  | [], acc, v, d, h, hd, hv => by
    rw [parseUint10] at h
    injection h with h
    subst h
    rw [List.nil_append, parseUint10, if_pos (show 48 ≤ d.toNat ∧ d.toNat ≤ 57 from hd), if_neg (by omega), if_neg (by have := hd.2; omega)]
    rfl
  | c :: r, acc, v, d, h, hd, hv => by
    rw [parseUint10] at h
    rw [List.cons_append, parseUint10]
    split at h
    · rename_i h1
      rw [if_pos h1]
      split at h
      · cases h
      · rename_i h2
        rw [if_neg h2]
        split at h
        · cases h
        · rename_i h3
          rw [if_neg h3]
          exact parse_snoc r _ v d h hd hv
    · cases h
theorem parse_digits (u : Nat) (hu : u < 1000000000000000000) : parseUint10 0 (decDigits u) = .ok u := by
  induction u using Nat.strongRecOn with
  | _ u ih =>
    rw [decDigits]
    split
    · rename_i h
      have := parse_snoc [] 0 0 (UInt8.ofNat (48 + u)) rfl (by unfold isDg; rw [dg_val h]; omega) (by omega)
      rw [List.nil_append] at this
      rw [this, dg_val h]
      congr 1
      omega
    · rename_i h
      have hm := Nat.mod_lt u (show 10 > 0 by omega)
      have := parse_snoc _ 0 (u / 10) (UInt8.ofNat (48 + u % 10)) (ih (u / 10) (by omega) (by omega)) (by unfold isDg; rw [dg_val hm]; omega) (by omega)
      rw [this, dg_val hm]
      congr 1
      omega
theorem atoi_digits (u : Nat) (hu : u < 1000000000000000000) : atoiAll (decDigits u) = .ok (u : Int) := by
  have hp := parse_digits u hu
  have ha := digits_all u
  have hne := digits_ne u
  generalize decDigits u = l at hp ha hne
  cases l with
  | nil => exact absurd rfl hne
  | cons c r =>
    have hc := ha c (by simp)
    unfold isDg at hc
    unfold atoiAll
    simp only
    rw [if_neg (by omega)]
    unfold parseMag
    rw [if_neg (by simp), hp]
    simp only
    rw [if_neg (by omega), if_neg (by omega), if_neg (by omega)]

/-! ### cutting at a byte -/
theorem index_none (c : UInt8) : ∀ (l : List UInt8), (∀ b ∈ l, b ≠ c) → index l [c] = -1
  | [], _ => rfl
  | b :: l, h => by
    have hb := h b (by simp)
    have ih := index_none c l fun x hx => h x (by simp [hx])
    rw [index, if_neg (by simp [List.isPrefixOf]; exact fun e => hb e.symm), ih]
    rfl
theorem index_at (c : UInt8) (r : List UInt8) : ∀ (l : List UInt8), (∀ b ∈ l, b ≠ c) → index (l ++ c :: r) [c] = (l.length : Int)
  | [], _ => by
    rw [List.nil_append, index, if_pos (by simp [List.isPrefixOf])]
    rfl
  | b :: l, h => by
    have hb := h b (by simp)
    have ih := index_at c r l fun x hx => h x (by simp [hx])
    rw [List.cons_append, index, if_neg (by simp [List.isPrefixOf]; exact fun e => hb e.symm), ih, if_neg (by simp), List.length_cons]
    omega
theorem cut_none {c : UInt8} {l : List UInt8} (h : ∀ b ∈ l, b ≠ c) : cut l [c] = (l, [], false) := by
  unfold cut
  rw [index_none c l h, if_neg (by omega)]
theorem cut_at {c : UInt8} {l r : List UInt8} (h : ∀ b ∈ l, b ≠ c) : cut (l ++ c :: r) [c] = (l, r, true) := by
  unfold cut
  rw [index_at c r l h, if_pos (by omega)]
  simp only [Int.toNat_natCast, List.length_singleton]
  rw [List.take_append_of_le_length (Nat.le_refl _), List.take_length, List.drop_append, List.drop_eq_nil_of_le (by omega)]
  simp
theorem join_more (x y : List UInt8) (r : List (List UInt8)) (c : UInt8) : join (x :: y :: r) [c] = x ++ c :: join (y :: r) [c] := by
  rw [join_cons, join_cons]
  simp [joinTail]
theorem split_join (c : UInt8) : ∀ (r : List (List UInt8)) (x : List UInt8) (k : Nat), (∀ y ∈ x :: r, ∀ b ∈ y, b ≠ c) → r.length ≤ k → splitK [c] 0 k (join (x :: r) [c]) = x :: r
  | [], x, k, h, hk => by
    rw [join_one]
    cases k with
    | zero => rfl
    | succ k => rw [splitK, index_none c x (h x (by simp))]; rfl
  | y :: r, x, k, h, hk => by
    obtain ⟨k, rfl⟩ : ∃ k', k = k' + 1 := ⟨k - 1, by simp at hk; omega⟩
    have ih := split_join c r y k (fun z hz => h z (by simp [hz])) (by simp at hk; omega)
    rw [join_more, splitK, index_at c _ x (h x (by simp)), if_neg (by simp)]
    simp only [Int.toNat_natCast, List.length_singleton, Nat.add_zero]
    rw [List.take_append_of_le_length (Nat.le_refl _), List.take_length, List.drop_append, List.drop_eq_nil_of_le (by omega)]
    simp only [List.nil_append, Nat.add_sub_cancel_left, List.drop_succ_cons, List.drop_zero]
    rw [ih]
theorem count_join (c : UInt8) : ∀ (r : List (List UInt8)) (x : List UInt8) (f : Nat), (∀ y ∈ x :: r, ∀ b ∈ y, b ≠ c) → r.length < f → countFrom [c] f (join (x :: r) [c]) = r.length
  | [], x, f, h, hf => by
    obtain ⟨f, rfl⟩ : ∃ f', f = f' + 1 := ⟨f - 1, by omega⟩
    rw [join_one, countFrom, index_none c x (h x (by simp))]
    rfl
  | y :: r, x, f, h, hf => by
    obtain ⟨f, rfl⟩ : ∃ f', f = f' + 1 := ⟨f - 1, by omega⟩
    have ih := count_join c r y f (fun z hz => h z (by simp [hz])) (by simp at hf; omega)
    rw [join_more, countFrom, index_at c _ x (h x (by simp)), if_neg (by simp)]
    simp only [Int.toNat_natCast, List.length_singleton]
    rw [List.drop_append, List.drop_eq_nil_of_le (by omega)]
    simp only [List.nil_append, Nat.add_sub_cancel_left, List.drop_succ_cons, List.drop_zero]
    rw [ih, List.length_cons]
    omega
theorem join_long (c : UInt8) : ∀ (r : List (List UInt8)) (x : List UInt8), r.length ≤ (join (x :: r) [c]).length
  | [], x => by simp
  | y :: r, x => by
    have := join_long c r y
    rw [join_more, List.length_append, List.length_cons, List.length_cons]
    omega
theorem split_all (c : UInt8) (r : List (List UInt8)) (x : List UInt8) (h : ∀ y ∈ x :: r, ∀ b ∈ y, b ≠ c) : count (join (x :: r) [c]) [c] = r.length ∧ splitK [c] 0 (count (join (x :: r) [c]) [c]) (join (x :: r) [c]) = x :: r := by
  have e : count (join (x :: r) [c]) [c] = r.length := count_join c r x _ h (by have := join_long c r x; omega)
  exact ⟨e, by rw [e]; exact split_join c r x _ h (Nat.le_refl _)⟩
end Go.Txt
