/- Plain laws of cutting bytes into pieces. No condition. -/
import Derived.Test.YtgcpclbkjplipaaMem
set_option linter.unusedVariables false
namespace Go.Chunk
/-- the length of the first piece, of at most so many bytes -/
def cutN : Nat → List UInt8 → Nat
  | 0, _ => 0
  | _ + 1, [] => 0
  | k + 1, b :: r => if b = 10 then 1 else 1 + cutN k r
theorem cutN_le : ∀ (k : Nat) (bs : List UInt8), cutN k bs ≤ k ∧ cutN k bs ≤ bs.length
  | 0, _ => by simp [cutN]
  | _ + 1, [] => by simp [cutN]
  | k + 1, b :: r => by
    have := cutN_le k r
    unfold cutN
    split
    · simp
    · simp; omega
theorem cutN_pos (k : Nat) (bs : List UInt8) (h : bs ≠ []) : 1 ≤ cutN (k + 1) bs := by
  cases bs with
  | nil => exact absurd rfl h
  | cons b r =>
    unfold cutN
    split <;> omega
/-- inside the piece there is no line feed, but at its end -/
theorem cutN_no : ∀ (k : Nat) (bs : List UInt8) (i : Nat) (h : i < bs.length), i + 1 < cutN k bs → bs[i] ≠ 10
  | 0, _, _, _, h => by simp [cutN] at h
  | _ + 1, [], _, h, _ => by simp at h
  | k + 1, b :: r, i, hi, h => by
    unfold cutN at h
    split at h
    · omega
    · rename_i hb
      cases i with
      | zero => simpa using hb
      | succ i =>
        have := cutN_no k r i (by simpa using hi) (by omega)
        simpa using this
/-- a piece that is shorter than it may be ends with a line feed, or is all -/
theorem cutN_end : ∀ (k : Nat) (bs : List UInt8), cutN k bs < k → cutN k bs < bs.length → ∃ h : cutN k bs - 1 < bs.length, bs[cutN k bs - 1] = 10 ∧ 0 < cutN k bs
  | 0, _, h, _ => by simp [cutN] at h
  | _ + 1, [], _, h => by simp [cutN] at h
  | k + 1, b :: r, h1, h2 => by
    by_cases hb : b = 10
    · subst hb
      refine ⟨by simp [cutN], ?_, by simp [cutN]⟩
      simp [cutN]
    · have e : cutN (k + 1) (b :: r) = 1 + cutN k r := by simp [cutN, hb]
      rw [e] at h1 h2
      obtain ⟨h3, h4, h5⟩ := cutN_end k r (by omega) (by simp at h2; omega)
      refine ⟨by rw [e]; simp; omega, ?_, by omega⟩
      have e2 : cutN (k + 1) (b :: r) - 1 = (cutN k r - 1) + 1 := by omega
      simp only [e2, List.getElem_cons_succ]
      exact h4
def cutF : Nat → List UInt8 → List (List UInt8)
  | 0, _ => []
  | _ + 1, [] => []
  | f + 1, b :: r => (b :: r).take (cutN 32 (b :: r)) :: cutF f ((b :: r).drop (cutN 32 (b :: r)))
theorem cutF_nil (f : Nat) : cutF f [] = [] := by cases f <;> rfl
theorem cutF_step (f : Nat) (bs : List UInt8) (h : bs ≠ []) : cutF (f + 1) bs = bs.take (cutN 32 bs) :: cutF f (bs.drop (cutN 32 bs)) := by
  cases bs with
  | nil => exact absurd rfl h
  | cons b r => rfl
theorem cutF_flat : ∀ (f : Nat) (bs : List UInt8), bs.length ≤ f → (cutF f bs).flatten = bs
  | 0, bs, h => by
    have : bs = [] := List.eq_nil_of_length_eq_zero (by omega)
    subst this
    rfl
  | f + 1, bs, h => by
    by_cases hb : bs = []
    · subst hb; rfl
    · have h1 : 1 ≤ cutN 32 bs := cutN_pos 31 bs hb
      have h2 := cutN_le 32 bs
      rw [cutF_step f bs hb, List.flatten_cons, cutF_flat f _ (by rw [List.length_drop]; omega), List.take_append_drop]
theorem cutF_len (f : Nat) (bs : List UInt8) : (cutF f bs).length ≤ f := by
  induction f generalizing bs with
  | zero => simp [cutF]
  | succ f ih =>
    by_cases hb : bs = []
    · subst hb; simp [cutF]
    · rw [cutF_step f bs hb]
      have := ih (bs.drop (cutN 32 bs))
      simp
      omega
/-- what holds of a piece: is it the last one? -/
def PieceOk (last : Bool) (p : List UInt8) : Prop :=
  1 ≤ p.length ∧ p.length ≤ 32 ∧ (last = false → p.length < 32 → p[p.length - 1]? = some 10) ∧ ∀ i, i + 1 < p.length → p[i]? ≠ some 10
theorem piece_ok (bs : List UInt8) (h : bs ≠ []) (last : Bool) (hl : last = false → cutN 32 bs < bs.length) : PieceOk last (bs.take (cutN 32 bs)) := by
  have h1 : 1 ≤ cutN 32 bs := cutN_pos 31 bs h
  have h2 := cutN_le 32 bs
  have e : (bs.take (cutN 32 bs)).length = cutN 32 bs := by rw [List.length_take]; omega
  refine ⟨by omega, by omega, fun h3 h4 => ?_, fun i hi => ?_⟩
  · obtain ⟨h5, h6, h7⟩ := cutN_end 32 bs (by omega) (hl h3)
    rw [e, List.getElem?_take, if_pos (by omega), List.getElem?_eq_getElem h5, h6]
  · rw [List.getElem?_take, if_pos (by omega)]
    have hib : i < bs.length := by omega
    rw [List.getElem?_eq_getElem hib]
    have := cutN_no 32 bs i hib (by omega)
    simpa using this
theorem cutF_ok : ∀ (f : Nat) (bs : List UInt8), bs.length ≤ f → ∀ (i : Nat) (p : List UInt8), (cutF f bs)[i]? = some p → PieceOk (decide (i + 1 = (cutF f bs).length)) p
  | 0, bs, _, i, p, hp => by simp [cutF] at hp
  | f + 1, bs, h, i, p, hp => by
    by_cases hb : bs = []
    · subst hb; simp [cutF] at hp
    · have h1 : 1 ≤ cutN 32 bs := cutN_pos 31 bs hb
      have h2 := cutN_le 32 bs
      rw [cutF_step f bs hb] at hp ⊢
      cases i with
      | zero =>
        simp at hp
        subst hp
        refine piece_ok bs hb _ fun hl => ?_
        simp at hl
        rcases Nat.lt_or_ge (cutN 32 bs) bs.length with h3 | h3
        · exact h3
        · exfalso
          have : bs.drop (cutN 32 bs) = [] := List.drop_eq_nil_of_le h3
          rw [this, cutF_nil] at hl
          simp at hl
      | succ i =>
        have := cutF_ok f (bs.drop (cutN 32 bs)) (by rw [List.length_drop]; omega) i p (by simpa using hp)
        simpa using this
end Go.Chunk
