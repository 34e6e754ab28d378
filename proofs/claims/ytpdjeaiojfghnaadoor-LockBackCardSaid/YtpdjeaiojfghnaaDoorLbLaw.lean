/- Plain words on the text of a selection: its lines, and how they part. No condition. -/
import Derived.Test.YtpdjeaiojfghnaaDoorTxt
import Derived.Test.YtpdjeaiojfghnaaDoorTxLines
import Derived.Test.YtpdjeaiojfghnaaDoorSvPick
import Derived.Lib.Strings
set_option linter.unusedVariables false
namespace Go.Sv
open Go.Txt Go.Lib
def bodyL (p : Pk) : List UInt8 := p.1 ++ 32 :: decDigits p.2
def lineL (p : Pk) : List UInt8 := bodyL p ++ [10]
def textF (l : List Pk) : List UInt8 := l.flatMap lineL
theorem dg_ne {u : Nat} {c : UInt8} (hc : ¬ isDg c) : ∀ b ∈ decDigits u, b ≠ c := fun b hb e => hc (e ▸ digits_all u b hb)
theorem letter_ne {n : Nm} (h : Letter n) {c : UInt8} (hc : c.toNat < 97) : ∀ b ∈ n, b ≠ c := by
  obtain ⟨d, rfl, h1, _⟩ := h
  intro b hb e
  subst e
  have : b = d := by simpa using hb
  rw [this] at hc
  omega
theorem body_no {p : Pk} (h : Letter p.1) : ∀ b ∈ bodyL p, b ≠ 10 := by
  intro b hb
  rcases List.mem_append.1 hb with hb | hb
  · exact letter_ne h (by decide) b hb
  · rcases List.mem_cons.1 hb with rfl | hb
    · decide
    · exact dg_ne (by unfold isDg; decide) b hb
theorem text_lines : ∀ (l : List Pk), (∀ p ∈ l, Letter p.1) → LinesR (textF l) (l.map lineL)
  | [], _ => .nil
  | p :: r, h => by
    have ih := text_lines r fun q hq => h q (by simp [hq])
    have e : textF (p :: r) = bodyL p ++ 10 :: textF r := by simp [textF, lineL]
    rw [e]
    exact .cons (body_no (h p (by simp))) ih
theorem text_lines_x : ∀ (l : List Pk), (∀ p ∈ l, Letter p.1) → LinesR (textF l ++ [120]) (l.map lineL ++ [[120]])
  | [], _ => .last (by simp) (by intro x hx; have h : x = 120 := (by simpa [textF] using hx); rw [h]; decide)
  | p :: r, h => by
    have ih := text_lines_x r fun q hq => h q (by simp [hq])
    have e : textF (p :: r) ++ [120] = bodyL p ++ 10 :: (textF r ++ [120]) := by simp [textF, lineL]
    rw [e]
    exact .cons (body_no (h p (by simp))) ih
theorem text_count : ∀ (l : List Pk), (∀ p ∈ l, Letter p.1) → countByte (textF l) 10 = l.length
  | [], _ => rfl
  | p :: r, h => by
    have ih := text_count r fun q hq => h q (by simp [hq])
    have e : textF (p :: r) = bodyL p ++ 10 :: textF r := by simp [textF, lineL]
    have h0 : (bodyL p).count 10 = 0 := List.count_eq_zero.2 fun hm => body_no (h p (by simp)) 10 hm rfl
    unfold countByte at ih ⊢
    rw [e, List.count_append, List.count_cons, h0, ih]
    simp
theorem trim_line (b : List UInt8) : trimSuffix (b ++ [10]) [10] = b := by
  unfold trimSuffix
  rw [if_pos (by unfold hasSuffix; simp)]
  simp
theorem trim_x : trimSuffix [120] [10] = [120] := by decide
theorem cut_body {p : Pk} (h : Letter p.1) : cut (bodyL p) [32] = (p.1, decDigits p.2, true) := cut_at (letter_ne h (by decide))
theorem cut_x : cut [120] [32] = ([120], [], false) := cut_none (by intro b hb; have h : b = 120 := (by simpa using hb); rw [h]; decide)
theorem line_len {p : Pk} (h : Letter p.1) (hv : p.2 ≤ 9999) : (lineL p).length ≤ 7 := by
  obtain ⟨d, e, _⟩ := h
  have := digits_len (u := p.2) (k := 4) (by omega) (by omega)
  unfold lineL bodyL
  rw [e]
  simp
  omega
theorem text_len : ∀ (l : List Pk), (∀ p ∈ l, Letter p.1 ∧ p.2 ≤ 9999) → (textF l).length ≤ 7 * l.length
  | [], _ => by simp [textF]
  | p :: r, h => by
    have ih := text_len r fun q hq => h q (by simp [hq])
    have h1 := line_len (h p (by simp)).1 (h p (by simp)).2
    have e : textF (p :: r) = lineL p ++ textF r := by simp [textF]
    rw [e, List.length_append, List.length_cons]
    omega
theorem text_snoc {l : List Pk} {k : Nat} (h : k < l.length) : textF (l.take (k + 1)) = textF (l.take k) ++ lineL l[k] := by
  unfold textF
  rw [List.take_succ_eq_append_getElem h, List.flatMap_append]
  simp
end Go.Sv
