/- Plain: the text of a list of choices, and what it is read as. No program in sight. -/
import Derived.Test.YtlpkgheggbcidaaDoorRpInv
import Derived.Test.YtlpkgheggbcidaaDoorTxt
set_option linter.unusedVariables false
namespace Go.Rp
open Go.Mem Go.RowKit Go.Txt
open Go.Lib (decDigits join)
/-- a choice that can be written -/
structure Okc (c : Ch) : Prop where
  k : c.k = 1 ∨ c.k = 2 ∨ c.k = 3
  a0 : 0 ≤ c.a
  a9 : c.a ≤ 40
  b0 : 0 ≤ c.b
  b9 : c.b ≤ 40
  nb : c.k ≠ 2 → c.b = 0
theorem okc_mem {s : Wd} (h : s.acs.length ≤ 30) {c : Ch} (hc : c ∈ choicesF s) : Okc c := by
  rcases mem_choices hc with ⟨i, a, ha, _, rfl⟩ | ⟨a, b, h1, h2, _, rfl⟩ | ⟨i, a, ha, _, rfl⟩
  · have := (List.getElem?_eq_some_iff.1 ha).1
    exact ⟨.inl rfl, by simp; omega, by simp; omega, by simp, by simp, fun _ => rfl⟩
  · exact ⟨.inr (.inl rfl), by simp, by simp; omega, by simp; omega, by simp; omega, fun h => absurd rfl h⟩
  · have := (List.getElem?_eq_some_iff.1 ha).1
    exact ⟨.inr (.inr rfl), by simp; omega, by simp; omega, by simp, by simp, fun _ => rfl⟩
theorem play_okc : ∀ (ps : List Int) {s : Wd} {n : Nat}, Inv s n → ∀ c ∈ (playF s ps).2, Okc c
  | [], s, n, h, c, hc => by simp [playF] at hc
  | p :: r, s, n, h, c, hc => by
    unfold playF at hc
    split at hc
    · simp at hc
    · rename_i x hx
      rcases List.mem_cons.1 hc with rfl | hc
      · exact okc_mem h.acs (List.mem_of_getElem? hx)
      · exact play_okc r (h.step x) c hc
def letterC (k : Int) : UInt8 := if k = 1 then 103 else if k = 2 then 99 else 108
/-- behind the letter -/
def restC (c : Ch) : Bs := decDigits c.a.toNat ++ (if c.k = 2 then 45 :: decDigits c.b.toNat else [])
def partC (c : Ch) : Bs := letterC c.k :: restC c
def textC (l : List Ch) : Bs := join (l.map partC) [32]
theorem dig_ne {u : Nat} {c : UInt8} (hc : c.toNat < 48) : ∀ b ∈ decDigits u, b ≠ c := fun b hb e => by
  have := digits_all u b hb
  unfold isDg at this
  rw [e] at this
  omega
theorem part_no {c : Ch} : ∀ b ∈ partC c, b ≠ 32 := by
  intro b hb
  unfold partC restC at hb
  rcases List.mem_cons.1 hb with rfl | hb
  · unfold letterC
    split
    · decide
    · split <;> decide
  · rcases List.mem_append.1 hb with hb | hb
    · exact dig_ne (by decide) b hb
    · split at hb
      · rcases List.mem_cons.1 hb with rfl | hb
        · decide
        · exact dig_ne (by decide) b hb
      · simp at hb
theorem cut_rest (c : Ch) : Go.Lib.cut (restC c) [45] = (decDigits c.a.toNat, (if c.k = 2 then decDigits c.b.toNat else []), decide (c.k = 2)) := by
  unfold restC
  by_cases h : c.k = 2
  · rw [if_pos h, if_pos h, decide_eq_true h]
    exact cut_at (dig_ne (by decide))
  · rw [if_neg h, if_neg h, decide_eq_false h, List.append_nil]
    exact cut_none (dig_ne (by decide))
theorem dlen {x : Int} (h0 : 0 ≤ x) (h9 : x ≤ 40) : (decDigits x.toNat).length ≤ 2 := digits_len (k := 2) (by omega) (by omega)
theorem rest_len {c : Ch} (h : Okc c) : (restC c).length ≤ 5 := by
  unfold restC
  have h1 := dlen h.a0 h.a9
  have h2 := dlen h.b0 h.b9
  rw [List.length_append]
  split
  · rw [List.length_cons]; omega
  · simp; omega
theorem join_len : ∀ (l : List Ch), (∀ c ∈ l, Okc c) → (textC l).length ≤ l.length * 7
  | [], _ => by simp [textC, join, Go.Lib.join]
  | [c], h => by
    have := rest_len (h c (by simp))
    simp only [textC, List.map_cons, List.map_nil, Go.Lib.join_one, partC, List.length_cons]
    simp
    omega
  | c :: d :: r, h => by
    have h1 := rest_len (h c (by simp))
    have h2 := join_len (d :: r) (fun x hx => h x (by simp [hx]))
    unfold textC at h2 ⊢
    rw [List.map_cons, List.map_cons, join_more, List.length_append, List.length_cons]
    rw [List.map_cons] at h2
    simp only [partC, List.length_cons] at h1 h2 ⊢
    omega
theorem textC_split (c : Ch) (l : List Ch) : Go.Lib.count (textC (c :: l)) [32] = l.length ∧ Go.Lib.splitK [32] 0 (Go.Lib.count (textC (c :: l)) [32]) (textC (c :: l)) = (c :: l).map partC := by
  have := split_all 32 (l.map partC) (partC c) (fun y hy b hb => by
    rw [← List.map_cons] at hy
    obtain ⟨x, _, rfl⟩ := List.mem_map.1 hy
    exact part_no b hb)
  rw [List.length_map] at this
  exact this
theorem textC_ne (c : Ch) (l : List Ch) : textC (c :: l) ≠ [] := by
  cases l with
  | nil => simp [textC, Go.Lib.join_one, partC]
  | cons d r =>
    unfold textC
    rw [List.map_cons, List.map_cons, join_more]
    simp
theorem idx_letter (c : Ch) (h : Okc c) : Go.Lib.indexByte [103, 99, 108] (letterC c.k) = c.k - 1 := by
  rcases h.k with e | e | e <;> rw [e] <;> decide
end Go.Rp
