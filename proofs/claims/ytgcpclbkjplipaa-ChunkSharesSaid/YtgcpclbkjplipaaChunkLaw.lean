/- Plain laws of packing: packed byte strings, cut off anywhere, and scanned. No condition but the lengths. -/
import Derived.Test.YtgcpclbkjplipaaMem
set_option linter.unusedVariables false
namespace Go.Chunk
def hi8 (n : Nat) : UInt8 := UInt8.ofNat (n / 256)
def lo8 (n : Nat) : UInt8 := UInt8.ofNat (n % 256)
def packF : List (List UInt8) → List UInt8
  | [] => []
  | b :: r => hi8 b.length :: lo8 b.length :: (b ++ packF r)
def scanF : Nat → List UInt8 → List (List UInt8)
  | 0, _ => []
  | f + 1, a :: b :: r => if a.toNat * 256 + b.toNat ≤ r.length then r.take (a.toNat * 256 + b.toNat) :: scanF f (r.drop (a.toNat * 256 + b.toNat)) else []
  | _ + 1, _ => []
def sizeF (l : List (List UInt8)) : Nat := (l.map fun p => 2 + p.length).sum

theorem packF_append (a b : List (List UInt8)) : packF (a ++ b) = packF a ++ packF b := by
  induction a with
  | nil => rfl
  | cons x r ih => simp [packF, ih]
theorem packF_length (l : List (List UInt8)) : (packF l).length = sizeF l := by
  induction l with
  | nil => rfl
  | cons x r ih => simp [packF, sizeF, ih]; simp [sizeF] at ih; omega
theorem sizeF_append (a b : List (List UInt8)) : sizeF (a ++ b) = sizeF a + sizeF b := by simp [sizeF]
theorem sizeF_le (l : List (List UInt8)) (m : Nat) (h : ∀ p ∈ l, p.length ≤ m) : sizeF l ≤ l.length * (2 + m) := by
  induction l with
  | nil => simp [sizeF]
  | cons x r ih =>
    have h1 := h x (by simp)
    have h2 := ih fun p hp => h p (by simp [hp])
    simp [sizeF, Nat.add_mul] at h2 ⊢
    omega
theorem sizeF_len (l : List (List UInt8)) : l.length ≤ sizeF l := by
  induction l with
  | nil => simp
  | cons x r ih => simp [sizeF] at ih ⊢; omega
theorem len_back (n : Nat) (h : n ≤ 65535) : (hi8 n).toNat * 256 + (lo8 n).toNat = n := by
  simp [hi8, lo8]
  omega

/-- one step of a scan -/
theorem scanF_step (f : Nat) (a b : UInt8) (r : List UInt8) (n : Nat) (hn : a.toNat * 256 + b.toNat = n) (h : n ≤ r.length) : scanF (f + 1) (a :: b :: r) = r.take n :: scanF f (r.drop n) := by
  subst hn
  simp [scanF, h]
theorem scanF_stop (f : Nat) (a b : UInt8) (r : List UInt8) (n : Nat) (hn : a.toNat * 256 + b.toNat = n) (h : r.length < n) : scanF f (a :: b :: r) = [] := by
  subst hn
  cases f with
  | zero => rfl
  | succ f => simp [scanF]; omega
theorem scanF_short (f : Nat) (r : List UInt8) (h : r.length < 2) : scanF f r = [] := by
  cases f with
  | zero => rfl
  | succ f =>
    match r, h with
    | [], _ => rfl
    | [_], _ => rfl

/-- a scan of a beginning of packed byte strings: the first ones that are whole -/
theorem scan_take (x : List (List UInt8)) : ∀ (f r : Nat), (∀ p ∈ x, p.length ≤ 65535) → r ≤ f → ∃ k, k ≤ x.length ∧ scanF f ((packF x).take r) = x.take k ∧ sizeF (x.take k) ≤ r ∧
    (∀ h : k < x.length, r < sizeF (x.take k) + 2 + x[k].length) := by
  induction x with
  | nil => intro f r _ _; exact ⟨0, by simp, by cases f <;> simp [packF, scanF], by simp [sizeF], fun h => by simp at h⟩
  | cons p ps ih =>
    intro f r hx hf
    have hp := hx p (by simp)
    by_cases h : r < 2 + p.length
    · refine ⟨0, by simp, ?_, by simp [sizeF], fun _ => by simp [sizeF]; omega⟩
      simp only [packF, List.take_zero]
      match r, h with
      | 0, _ => exact scanF_short _ _ (by simp)
      | 1, _ => exact scanF_short _ _ (by simp)
      | r + 2, h =>
        simp only [List.take_succ_cons]
        refine scanF_stop _ _ _ _ p.length (len_back _ hp) ?_
        simp
        omega
    · obtain ⟨q, rfl⟩ : ∃ q, r = q + p.length + 2 := ⟨r - p.length - 2, by omega⟩
      obtain ⟨f', rfl⟩ : ∃ f', f = f' + 1 := ⟨f - 1, by omega⟩
      obtain ⟨k, hk, h1, h2, h3⟩ := ih f' q (fun y hy => hx y (by simp [hy])) (by omega)
      refine ⟨k + 1, by simp; omega, ?_, ?_, ?_⟩
      · simp only [packF, List.take_succ_cons]
        rw [scanF_step _ _ _ _ p.length (len_back _ hp) (by simp; omega)]
        congr 1
        · rw [List.take_take, Nat.min_eq_left (by omega), List.take_left]
        · rw [← h1, List.drop_take, List.drop_left, Nat.add_sub_cancel]
      · simp only [List.take_succ_cons]
        simp only [sizeF, List.map_cons, List.sum_cons] at h2 ⊢
        omega
      · intro hlt
        have := h3 (by simp at hlt; omega)
        simp only [List.take_succ_cons, List.getElem_cons_succ]
        simp only [sizeF, List.map_cons, List.sum_cons] at this ⊢
        omega
end Go.Chunk
