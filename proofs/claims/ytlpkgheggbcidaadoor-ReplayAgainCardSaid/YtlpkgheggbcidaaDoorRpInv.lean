/- Plain: what holds of every world of the laws: bounds of its lists, and what a toy can come to. -/
import Derived.Test.YtlpkgheggbcidaaDoorRpLaw
set_option linter.unusedVariables false
namespace Go.Rp
open Go.Mem Go.RowKit
structure Inv (s : Wd) (n : Nat) : Prop where
  acs : s.acs.length ≤ 30
  ways : ∀ k, (wayF s k).length ≤ n
  box : ∀ (i : Nat) a, s.acs[i]? = some a → a.box.length ≤ n
  said : s.said.length ≤ n
  tx : ∀ (i : Nat) a, s.acs[i]? = some a → a.ty.last.tx.length ≤ 3
theorem goT_tx (t : Ty) (n : Int) : (goT t n).1.last.tx.length ≤ 3 ∧ (goT t n).2.tx.length ≤ 3 := by
  unfold goT
  split
  · exact ⟨by simp [otOf], by simp [otOf]⟩
  · split
    · exact ⟨by simp [otOf], by simp [otOf]⟩
    · split
      · exact ⟨by simp, by simp⟩
      · split
        · exact ⟨by simp [otOf], by simp [otOf]⟩
        · split
          · exact ⟨by simp, by simp⟩
          · exact ⟨by simp [otOf], by simp [otOf]⟩
theorem runT_tx {t : Ty} (h : t.last.tx.length ≤ 3) : (Go.Rp.runT t).1.last.tx.length ≤ 3 ∧ (Go.Rp.runT t).2.tx.length ≤ 3 := by
  unfold Go.Rp.runT
  split
  · exact ⟨h, by simp [otOf]⟩
  · split
    · exact ⟨h, h⟩
    · split
      · exact ⟨by simp [otOf], by simp [otOf]⟩
      · exact goT_tx _ _
theorem runT_four {t : Ty} (h : t.waits = true → t.last.kd ≠ 4) (hk : (Go.Rp.runT t).2.kd = 4) : ∃ (q : UInt8) (v : Vl), (Go.Rp.runT t).2.tx = [q] ∧ 97 ≤ q.toNat ∧ (Go.Rp.runT t).2.ar = [v] := by
  unfold Go.Rp.runT at hk ⊢
  split at hk
  · simp [otOf] at hk
  · rename_i ha
    rw [if_neg ha]
    split at hk
    · rename_i hw
      rcases hw with hw | hw | hw
      · exact absurd hk (h hw)
      · rw [hw] at hk; cases hk
      · rw [hw] at hk; cases hk
    · rename_i hw
      rw [if_neg hw]
      split at hk
      · simp [otOf] at hk
      · rename_i x hx
        have h0 : 0 ≤ uns x % 1000 := Int.emod_nonneg _ (by omega)
        have h1 : uns x % 1000 < 1000 := Int.emod_lt_of_pos _ (by omega)
        generalize uns x % 1000 = n at hk h0 h1
        unfold goT at hk ⊢
        split at hk
        · simp [otOf] at hk
        · rename_i e1
          rw [if_neg e1]
          split at hk
          · simp [otOf] at hk
          · rename_i e2
            rw [if_neg e2]
            split at hk
            · rename_i e3
              rw [if_pos e3]
              refine ⟨_, _, rfl, ?_, rfl⟩
              have h5 : 97 + (n / 8 % 5).toNat < 256 := by omega
              rw [UInt8.toNat_ofNat', Nat.mod_eq_of_lt (by simpa using h5)]
              omega
            · split at hk
              · simp [otOf] at hk
              · split at hk
                · simp [otOf] at hk
                · simp [otOf] at hk
theorem wayF_setA (s : Wd) (i : Nat) (a : Ac) (k : Nat × Nat) : wayF (setA s i a) k = wayF s k := rfl
theorem setA_at {s : Wd} {i j : Nat} {a x : Ac} (h : (setA s i a).acs[j]? = some x) : x = a ∨ s.acs[j]? = some x := by
  unfold setA at h
  simp only at h
  by_cases e : i = j
  · subst e
    rcases Nat.lt_or_ge i s.acs.length with hl | hl
    · rw [List.getElem?_set_self hl] at h
      injection h with h
      exact .inl h.symm
    · rw [List.getElem?_eq_none (by simpa using hl)] at h
      cases h
  · rw [List.getElem?_set_ne e] at h
    exact .inr h
theorem Inv.setA {s : Wd} {n : Nat} (h : Inv s n) (i : Nat) {a : Ac} (hb : a.box.length ≤ n) (ht : a.ty.last.tx.length ≤ 3) : Inv (setA s i a) n :=
  ⟨by have := h.acs; simpa [Go.Rp.setA] using this, fun k => h.ways k, fun j x hx => by
    rcases setA_at hx with rfl | hx
    · exact hb
    · exact h.box j x hx, h.said, fun j x hx => by
    rcases setA_at hx with rfl | hx
    · exact ht
    · exact h.tx j x hx⟩
theorem Inv.le {s : Wd} {n m : Nat} (h : Inv s n) (hm : n ≤ m) : Inv s m :=
  ⟨h.acs, fun k => Nat.le_trans (h.ways k) hm, fun i a ha => Nat.le_trans (h.box i a ha) hm, Nat.le_trans h.said hm, h.tx⟩
theorem wayF_put (s : Wd) (k : Nat × Nat) (x : List Vl) (c : Nat × Nat) : wayF { s with ways := mput s.ways k x } c = if c = k then x else wayF s c := by
  unfold wayF
  simp only [mget_put]
  split <;> rfl
theorem Inv.put {s : Wd} {n : Nat} (h : Inv s n) (f t : Int) (v : Vl) : Inv (putF s f t v) (n + 1) := by
  unfold putF
  split
  · refine ⟨h.acs, fun k => ?_, fun i a ha => Nat.le_succ_of_le (h.box i a ha), Nat.le_succ_of_le h.said, h.tx⟩
    rw [wayF_put]
    split
    · have := h.ways (f.toNat, t.toNat)
      simp
      omega
    · exact Nat.le_succ_of_le (h.ways k)
  · exact h.le (by omega)
theorem makeT_tx {tv : List (List Int)} {nm : Bs} {st : List Vl} {self : Int} {t : Ty} (h : makeT tv nm st self = some t) : t.last.tx.length ≤ 3 := by
  unfold makeT at h
  split at h
  · split at h
    · cases h
    · obtain ⟨s, _, rfl⟩ := Option.map_eq_some_iff.1 h
      simp
  · cases h
theorem Inv.spawn {s : Wd} {n : Nat} (h : Inv s n) (nm : Bs) (st : List Vl) : Inv (spawnF s nm st).1 n := by
  unfold spawnF
  split
  · exact h
  · rename_i h30
    split
    · exact h
    · rename_i t ht
      have hl := h.acs
      refine ⟨by simp; omega, fun k => h.ways k, fun i a ha => ?_, h.said, fun i a ha => ?_⟩
      · simp only at ha
        rw [List.getElem?_append] at ha
        split at ha
        · exact h.box i a ha
        · rw [List.getElem?_singleton] at ha
          split at ha
          · injection ha with ha
            subst ha
            simp [newA]
          · cases ha
      · simp only at ha
        rw [List.getElem?_append] at ha
        split at ha
        · exact h.tx i a ha
        · rw [List.getElem?_singleton] at ha
          split at ha
          · injection ha with ha
            subst ha
            exact makeT_tx ht
          · cases ha
theorem giveT_last (t : Ty) (v : Vl) : (giveT t v).last = t.last := by unfold giveT; split <;> rfl
theorem lateT_last (t : Ty) : (lateT t).last = t.last := by unfold lateT; split <;> rfl
theorem offerT_last {t t' : Ty} {v : Vl} (h : offerT t v = some t') : t'.last = t.last := by
  unfold offerT at h
  split at h
  · cases h
  · injection h with h
    subst h
    rfl
theorem Inv.run {s : Wd} {n : Nat} (h : Inv s n) {i : Nat} {a : Ac} (ha : s.acs[i]? = some a) : Inv (runF s i a) (n + 1) := by
  obtain ⟨t1, t2⟩ := runT_tx (h.tx i a ha)
  have hb := h.box i a ha
  unfold runF
  generalize Go.Rp.runT a.ty = r at t1 t2
  obtain ⟨t, o⟩ := r
  simp only at t1 t2 ⊢
  have h1 : Inv (Go.Rp.setA s i { a with ty := t }) n := h.setA i hb t1
  split
  · refine ⟨h1.acs, fun k => Nat.le_succ_of_le (h1.ways k), fun j x hx => Nat.le_succ_of_le (h1.box j x hx), ?_, h1.tx⟩
    have := h1.said
    simp
    omega
  · split
    · exact h1.put _ _ _
    · split
      · refine Inv.le (n := n) ?_ (by omega)
        refine (h1.spawn o.tx o.ar).setA i hb ?_
        show (giveT t _).last.tx.length ≤ 3
        rw [giveT_last]
        exact t1
      · split
        · exact Inv.le (n := n) (Inv.setA h i (by exact hb) (by exact t1)) (by omega)
        · split
          · exact Inv.le (n := n) (Inv.setA h i (by exact hb) (by exact t1)) (by omega)
          · split
            · exact Inv.le (n := n) (Inv.setA h i (by exact hb) (by exact t1)) (by omega)
            · exact h1.le (by omega)
theorem offerF_box (a : Ac) : (offerF a).box.length ≤ a.box.length ∧ (offerF a).ty.last = a.ty.last := by
  unfold offerF
  split
  · exact ⟨Nat.le_refl _, rfl⟩
  · split
    · exact ⟨Nat.le_refl _, rfl⟩
    · rename_i t ht
      exact ⟨by simp only; rw [List.length_eraseIdx]; split <;> omega, offerT_last ht⟩
theorem Inv.step {s : Wd} {n : Nat} (h : Inv s n) (c : Ch) : Inv (stepF s c) (n + 1) := by
  unfold stepF
  split
  · split
    · exact h.le (by omega)
    · rename_i a ha
      split
      · have := offerF_box a
        have hb := h.box _ a ha
        exact Inv.le (n := n) (Inv.setA h _ (by omega) (by rw [this.2]; exact h.tx _ a ha)) (by omega)
      · exact h.run ha
  · split
    · split
      · rename_i v r a hw ha
        have hw1 := h.ways (c.a.toNat, c.b.toNat)
        rw [hw] at hw1
        have h1 : Inv { s with ways := mput s.ways (c.a.toNat, c.b.toNat) r } n := by
          refine ⟨h.acs, fun k => ?_, h.box, h.said, h.tx⟩
          rw [wayF_put]
          split
          · simp at hw1
            omega
          · exact h.ways k
        simp only
        split
        · exact h1.le (by omega)
        · have hb := h.box _ a ha
          exact Inv.setA (h1.le (by omega)) _ (by simp; omega) (by exact h.tx _ a ha)
      · exact h.le (by omega)
    · split
      · split
        · exact h.le (by omega)
        · rename_i a ha
          exact Inv.le (n := n) (Inv.setA h _ (by exact h.box _ a ha) (by show (lateT a.ty).last.tx.length ≤ 3; rw [lateT_last]; exact h.tx _ a ha)) (by omega)
      · exact h.le (by omega)
end Go.Rp
