/- The text of a set of versions, and its ends: plain. No program in sight. -/
import Derived.Test.YtcmohbeibnfpaaaDoorVerLaw
import Derived.Test.YtcmohbeibnfpaaaDoorTxt
set_option linter.unusedVariables false
namespace Go.Ver
open Go.Txt Go.Lib
def part (r : Rg) : List UInt8 := if r.2 = r.1 then decDigits r.1 else decDigits r.1 ++ 45 :: decDigits r.2
def parts (l : List Rg) : List (List UInt8) := l.map part
def textF (l : List Rg) : List UInt8 := join (parts l) [44]
theorem dg_no {u : Nat} {c : UInt8} (hc : ¬ isDg c) : ∀ b ∈ decDigits u, b ≠ c := fun b hb e => hc (e ▸ digits_all u b hb)
theorem part_no (r : Rg) : ∀ b ∈ part r, b ≠ 44 := by
  have h44 : ¬ isDg 44 := by unfold isDg; decide
  intro b hb
  unfold part at hb
  split at hb
  · exact dg_no h44 b hb
  · rcases List.mem_append.1 hb with hb | hb
    · exact dg_no h44 b hb
    · rcases List.mem_cons.1 hb with rfl | hb
      · decide
      · exact dg_no h44 b hb
theorem part_ne (r : Rg) : part r ≠ [] := by
  unfold part
  split
  · exact digits_ne _
  · simp
theorem cut_part (r : Rg) : cut (part r) [45] = if r.2 = r.1 then (decDigits r.1, [], false) else (decDigits r.1, decDigits r.2, true) := by
  have h45 : ¬ isDg 45 := by unfold isDg; decide
  unfold part
  split
  · exact cut_none (dg_no h45)
  · exact cut_at (dg_no h45)
theorem part_len {r : Rg} (h : right r) : (part r).length ≤ 9 := by
  have h1 := digits_len (u := r.1) (k := 4) (by have := h.2; omega) (by omega)
  have h2 := digits_len (u := r.2) (k := 4) (by have := h.2; omega) (by omega)
  unfold part
  split
  · omega
  · rw [List.length_append, List.length_cons]; omega
theorem join_bd : ∀ (l : List Rg), (∀ r ∈ l, right r) → (textF l).length ≤ 10 * l.length
  | [], _ => by simp [textF, parts, join]
  | [r], h => by
    have := part_len (h r (by simp))
    unfold textF parts
    rw [List.map_cons, List.map_nil, join_one]
    simp
    omega
  | r :: q :: l, h => by
    have i := join_bd (q :: l) fun x hx => h x (by simp [hx])
    have := part_len (h r (by simp))
    unfold textF parts at i ⊢
    rw [List.map_cons, List.map_cons] at *
    rw [join_more, List.length_append, List.length_cons]
    simp only [List.length_cons] at *
    omega
theorem text_ne {r : Rg} {l : List Rg} : textF (r :: l) ≠ [] := by
  unfold textF parts
  rw [List.map_cons, join_cons]
  have := part_ne r
  intro e
  rw [List.append_eq_nil_iff] at e
  exact this e.1
theorem text_split {r : Rg} {l : List Rg} : count (textF (r :: l)) [44] = l.length ∧ splitK [44] 0 (count (textF (r :: l)) [44]) (textF (r :: l)) = parts (r :: l) := by
  have := split_all 44 (parts l) (part r) (fun y hy => by
    rcases List.mem_cons.1 hy with rfl | hy
    · exact part_no r
    · obtain ⟨q, _, rfl⟩ := List.mem_map.1 hy
      exact part_no q)
  unfold textF parts at *
  rw [List.map_cons]
  rw [List.length_map] at this
  exact this
/-! ### ends -/
theorem ends_low {r : Rg} {l : List Rg} (h : Ok (r :: l)) : inB (r :: l) r.1 = true ∧ inB (r :: l) (r.1 - 1) = false := by
  have hr := h.head.1
  refine ⟨(inB_iff _ _).2 ⟨r, by simp, Nat.le_refl _, hr.2.2⟩, ?_⟩
  cases e : inB (r :: l) (r.1 - 1)
  · rfl
  · have := le_head h ((inB_iff _ _).1 e)
    have := hr.1
    omega
theorem ends_high {q : Rg} {l : List Rg} (h : Ok (l ++ [q])) : inB (l ++ [q]) q.2 = true ∧ inB (l ++ [q]) (q.2 + 1) = false := by
  obtain ⟨h1, h2, h3⟩ := ok_snoc.1 h
  refine ⟨(inB_iff _ _).2 ⟨q, by simp, h2.2.2, Nat.le_refl _⟩, ?_⟩
  cases e : inB (l ++ [q]) (q.2 + 1)
  · rfl
  · obtain ⟨x, hx, a, b⟩ := (inB_iff _ _).1 e
    rcases List.mem_append.1 hx with hx | hx
    · have := h3 x hx
      have := h2.2.2
      omega
    · rw [List.mem_singleton] at hx
      subst hx
      omega
end Go.Ver
