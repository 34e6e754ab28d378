/- A region that draws its order, over any program: a condition that every operation keeps, in whatever order they come, holds at the end. No condition. -/
import Derived.RegionTactic
set_option linter.unusedVariables false
namespace Go.Mem
open Go
section
variable {P : Program} {ops : Array Oper} {Q : Exit → Act → World → Prop} {md : Region.Mode}
/-- how many operations have not come up -/
def unlisted (ops : Array Oper) (listed : Array Bool) : Nat := (List.range ops.size).countP fun i => !listed.getD i true
theorem countP_less {p q : Nat → Bool} {i : Nat} : ∀ {l : List Nat}, (∀ x, q x = true → p x = true) → i ∈ l → p i = true → q i = false → l.countP q < l.countP p
  | [], _, h, _, _ => by cases h
  | x :: r, hpq, h, h1, h2 => by
    have hle : r.countP q ≤ r.countP p := List.countP_mono_left fun y _ hy => hpq y hy
    rw [List.countP_cons, List.countP_cons]
    rcases List.mem_cons.1 h with rfl | h
    · rw [h1, h2]
      simp
      omega
    · have ih := countP_less hpq h h1 h2
      by_cases hq : q x = true
      · rw [if_pos hq, if_pos (hpq x hq)]
        omega
      · rw [if_neg hq]
        split <;> omega
theorem unlisted_set {listed : Array Bool} {i : Nat} (hi : i ∈ Region.ready md ops listed) : unlisted ops (listed.setIfInBounds i true) < unlisted ops listed := by
  unfold Region.ready at hi
  obtain ⟨h1, h2⟩ := List.mem_filter.1 hi
  simp only [Bool.and_eq_true, Bool.not_eq_true'] at h2
  have hs : i < listed.size := by
    rcases Nat.lt_or_ge i listed.size with h | h
    · exact h
    · have := h2.1
      simp [Array.getElem?_eq_none h] at this
  refine countP_less (fun x hx => ?_) h1 (by rw [h2.1]; rfl) (by simp [hs])
  by_cases e : i = x
  · subst e
    simp [hs] at hx
  · simpa [Array.getElem?_setIfInBounds_ne e] using hx
theorem wpAny_inv {I : Array Bool → Act → World → Prop} (step : ∀ listed a w i, I listed a w → i ∈ Region.ready md ops listed → wpOp P ops Q i (fun a' w' => I (listed.setIfInBounds i true) a' w') a w)
    (done : ∀ listed a w, I listed a w → Region.ready md ops listed = [] → Q .normal a w) : ∀ (fuel : Nat) (listed : Array Bool) (a : Act) (w : World), unlisted ops listed ≤ fuel → I listed a w → wpAny P md ops Q fuel listed a w
  | 0, listed, a, w, hf, h => by
    have hr : Region.ready md ops listed = [] := by
      rw [List.eq_nil_iff_forall_not_mem]
      intro i hi
      have := unlisted_set hi
      omega
    exact ⟨hr, done _ _ _ h hr⟩
  | fuel + 1, listed, a, w, hf, h => ⟨done _ _ _ h, fun i hi => wpOp_mono (fun a' w' h' => wpAny_inv step done fuel _ a' w' (by have := unlisted_set hi; omega) h') (step _ _ _ i h hi)⟩
theorem wpAny_more : ∀ (fuel : Nat) (listed : Array Bool) (a : Act) (w : World), wpAny P md ops Q fuel listed a w → wpAny P md ops Q (fuel + 1) listed a w
  | 0, listed, a, w, h => ⟨fun _ => h.2, fun i hi => by rw [h.1] at hi; cases hi⟩
  | fuel + 1, listed, a, w, h => ⟨h.1, fun i hi => wpOp_mono (fun a' w' h' => wpAny_more fuel _ a' w' h') (h.2 i hi)⟩
theorem wpAny_le {fuel fuel' : Nat} (hf : fuel ≤ fuel') {listed : Array Bool} {a : Act} {w : World} (h : wpAny P md ops Q fuel listed a w) : wpAny P md ops Q fuel' listed a w := by
  induction hf with
  | refl => exact h
  | step _ ih => exact wpAny_more _ _ _ _ ih
/-- .. until a state of the region from which it goes on otherwise -/
theorem wpAny_until {I : Array Bool → Act → World → Prop} {fin : Array Bool} {k : Nat} (hk : unlisted ops fin = k) (step : ∀ listed a w i, I listed a w → listed ≠ fin → i ∈ Region.ready md ops listed → wpOp P ops Q i (fun a' w' => I (listed.setIfInBounds i true) a' w') a w)
    (stuck : ∀ listed a w, I listed a w → listed ≠ fin → Region.ready md ops listed ≠ []) (after : ∀ a w, I fin a w → wpAny P md ops Q k fin a w) :
    ∀ (fuel : Nat) (listed : Array Bool) (a : Act) (w : World), unlisted ops listed ≤ fuel → I listed a w → wpAny P md ops Q fuel listed a w
  | 0, listed, a, w, hf, h => by
    have hr : Region.ready md ops listed = [] := by
      rw [List.eq_nil_iff_forall_not_mem]
      intro i hi
      have := unlisted_set hi
      omega
    by_cases e : listed = fin
    · subst e
      exact wpAny_le (by omega) (after a w h)
    · exact absurd hr (stuck _ _ _ h e)
  | fuel + 1, listed, a, w, hf, h => by
    by_cases e : listed = fin
    · subst e
      exact wpAny_le (by omega) (after a w h)
    · exact ⟨fun h0 => absurd h0 (stuck _ _ _ h e), fun i hi => wpOp_mono (fun a' w' h' => wpAny_until hk step stuck after fuel _ a' w' (by have := unlisted_set hi; omega) h') (step _ _ _ i h e hi)⟩
end
end Go.Mem
