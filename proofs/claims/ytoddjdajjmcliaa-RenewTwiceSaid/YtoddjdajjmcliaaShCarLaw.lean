/- ShapeCarries' plain law: a value of a type is one of the same type of another program. No program in sight. -/
import Derived.Test.YtoddjdajjmcliaaShFirLaw
set_option linter.unusedVariables false
namespace Go.Sh
open Go.Val Go.Mem Go.Proofs.Ytoddjdajjmcliaa
theorem fits_val2 {P Q : List Dt} {l : List Int} {S : Ty → Prop} (hS : ∀ k n us, S (.mk k n us) → GoodTy P S k n us) (hQ : ∀ n us D, S (.mk 6 n us) → dataOf P n = some D → dataOf Q n = some D) : ∀ (f deep : Nat) (u : Ty) (v : V), S u → Sh.valF P l f deep u = some v → ∀ (s : Sc) (t : Ty), Mean s t u → fitsF Q f s t v = some true
  | 0, _, _, _, _, h, _, _, _ => by cases h
  | f + 1, deep, u, v, hu, hv, s, t, hm => by
    obtain ⟨k, n, ts, us, s2, rfl, hk5, hres, hlen, hargs⟩ := hm.res
    have G := hS k n us hu
    rw [fitsF_eq hres]
    rw [valF_eq] at hv
    rcases G.kinds with rfl | rfl | rfl | rfl | rfl | rfl
    · injection hv with hv
      subst hv
      rfl
    · injection hv with hv
      subst hv
      rfl
    · injection hv with hv
      subst hv
      rfl
    · injection hv with hv
      subst hv
      rfl
    · obtain ⟨D, hD, hpl, hmk⟩ := G.data rfl
      rw [if_neg (by omega), if_neg (by omega), if_neg (by omega), if_pos rfl, hQ n us D hu hD]
      simp only [hD] at hv
      simp only [if_neg (show ¬ 6 = 1 by omega), if_neg (show ¬ 6 = 2 by omega), if_neg (show ¬ 6 = 3 by omega), if_neg (show ¬ 6 = 9 by omega), if_true] at hv
      by_cases hpos : 0 < D.makes.length
      · rw [if_pos hpos] at hv
        cases hp : pickF D (numAt l deep) deep with
        | none => rw [hp] at hv; cases hv
        | some m =>
          rw [hp] at hv
          obtain ⟨vs, hvs, rfl⟩ := Option.map_eq_some_iff.1 hv
          obtain ⟨hfind, hall⟩ := hmk m (pick_mem hp)
          obtain ⟨hl, hat⟩ := manyO_at hvs
          show (if D.params.length = ts.length then (if (5 : Int) = 5 then match D.makes.find? (fun x => decide (txt x.name = txt m.name)) with
            | none => some false
            | some m' => eqV (fitsF Q f (.mk D.params ts s2)) m'.args vs
            else some false) else none) = some true
          rw [if_pos (by omega), if_pos rfl, hfind]
          show eqV (fitsF Q f (.mk D.params ts s2)) m.args vs = some true
          unfold eqV
          rw [if_pos hl.symm]
          refine allV_true _ _ fun i a v' h1 h2 => ?_
          have h3 := hat i a v' h1 h2
          obtain ⟨u', h4, h5⟩ := Option.bind_eq_some_iff.1 h3
          obtain ⟨h6, h7⟩ := hall a (List.mem_of_getElem? h1) u' h4
          exact fits_val2 hS hQ f (deep + 1) u' v' h6 h5 _ _ (h7 ts s2 hlen hargs)
      · rw [if_neg hpos] at hv
        cases hv
    · obtain ⟨a, rfl, ha⟩ := G.cell rfl
      rw [if_neg (by omega), if_neg (by omega), if_pos rfl]
      simp only [if_neg (show ¬ 9 = 1 by omega), if_neg (show ¬ 9 = 2 by omega), if_neg (show ¬ 9 = 3 by omega), if_true] at hv
      obtain ⟨v', hv', rfl⟩ := Option.map_eq_some_iff.1 hv
      match ts, hlen, hargs with
      | [b], _, hargs =>
        show (if (8 : Int) = 8 then eqV (fitsF Q f s2) [b] [v'] else some false) = some true
        rw [if_pos rfl]
        show allV (fitsF Q f s2) [b] [v'] = some true
        refine allV_true _ _ fun i a' v2 h1 h2 => ?_
        match i with
        | 0 =>
          simp at h1 h2
          subst h1 h2
          exact fits_val2 hS hQ f (deep + 1) a v' ha hv' _ _ (hargs 0 _ _ rfl rfl)
        | i + 1 => simp at h1
/-- what is the same has the same in it -/
def cloB (P Q : List Dt) : Bool := clS.all fun u => !(same12 P Q u u == some true) || match u with
  | .mk k n us => (!(decide (k = 9)) || us.all fun a => same12 P Q a a == some true) && (!(decide (k = 6)) || match dataOf P n with
    | none => true
    | some D => D.makes.all fun m => m.args.all fun a => match argF (.mk k n us) a with
      | none => true
      | some u' => same12 P Q u' u' == some true)
theorem clo_all : (progs.all fun P => progs.all fun Q => cloB P Q) = true := by decide +kernel
def datB (y y' : Nat) (b b' : Bool) : Bool := clS.all fun u => !(same12 (pd y b) (pd y' b') u u == some true) || match u with
  | .mk k n us => !(decide (k = 6)) || ((!(decide (n = [68])) || decide (y = y')) && (!(decide (n = [76])) || decide (b = b')))
theorem dat_all : ([1, 2].all fun y => [1, 2].all fun y' => [true, false].all fun b => [true, false].all fun b' => datB y y' b b') = true := by decide +kernel
theorem dat_of {y y' : Nat} (hy : 1 ≤ y ∧ y ≤ 2) (hy' : 1 ≤ y' ∧ y' ≤ 2) (b b' : Bool) : datB y y' b b' = true := by
  have h1 : y = 1 ∨ y = 2 := by omega
  have h2 : y' = 1 ∨ y' = 2 := by omega
  have h := dat_all
  simp only [List.all_cons, List.all_nil, Bool.and_true, Bool.and_eq_true] at h
  rcases h1 with rfl | rfl <;> rcases h2 with rfl | rfl <;> cases b <;> cases b' <;> simp_all
theorem carry {y y' : Nat} (hy : 1 ≤ y ∧ y ≤ 2) (hy' : 1 ≤ y' ∧ y' ≤ 2) (b b' : Bool) (l : List Int) {f deep : Nat} {t : Ty} {v : V} (ht : t ∈ clS) (hs : same12 (pd y b) (pd y' b') t t = some true) (hv : Sh.valF (pd y b) l f deep t = some v) : fitsF (pd y' b') f .nil t v = some true := by
  have C : cloB (pd y b) (pd y' b') = true := List.all_eq_true.1 (List.all_eq_true.1 clo_all _ (pd_mem hy b)) _ (pd_mem hy' b')
  have hdat := dat_of hy hy' b b'
  refine fits_val2 (S := fun u => u ∈ clS ∧ same12 (pd y b) (pd y' b') u u = some true) ?_ ?_ f deep t v ⟨ht, hs⟩ hv .nil t (mean_cl .nil ht)
  · intro k n us ⟨hc, hs⟩
    have G := good_cl y hy b k n us hc
    have h := List.all_eq_true.1 C _ hc
    rw [hs] at h
    simp only [beq_self_eq_true, Bool.not_true, Bool.false_or, Bool.and_eq_true] at h
    refine ⟨G.kinds, fun hk => ?_, fun hk => ?_⟩
    · obtain ⟨a, rfl, ha⟩ := G.cell hk
      have h1 := h.1
      subst hk
      simp at h1
      exact ⟨a, rfl, ha, h1⟩
    · obtain ⟨D, hD, hpl, hmk⟩ := G.data hk
      have h2 := h.2
      subst hk
      rw [hD] at h2
      simp only [decide_true, Bool.not_true, Bool.false_or] at h2
      refine ⟨D, hD, hpl, fun m hm => ⟨(hmk m hm).1, fun a ha u' hu => ⟨⟨((hmk m hm).2 a ha u' hu).1, ?_⟩, ((hmk m hm).2 a ha u' hu).2⟩⟩⟩
      have h3 := List.all_eq_true.1 (List.all_eq_true.1 h2 m hm) a ha
      rw [hu] at h3
      simpa using h3
  · intro n us D ⟨hc, hs⟩ hD
    have h := List.all_eq_true.1 hdat _ hc
    rw [hs] at h
    simp only [beq_self_eq_true, Bool.not_true, Bool.false_or, decide_true, Bool.and_eq_true, Bool.or_eq_true, Bool.not_eq_true', decide_eq_false_iff_not, decide_eq_true_eq] at h
    rcases mem_cases hc with e | e | e | e | e | ⟨a, e, ha, hLa⟩ | e | e <;> cases e
    · rcases h.1 with h | rfl
      · exact absurd rfl h
      · rw [dataD] at hD ⊢; exact hD
    · rcases h.2 with h | rfl
      · exact absurd rfl h
      · rw [dataL] at hD ⊢; exact hD
    · rw [dataE] at hD ⊢; exact hD
theorem carry_law {P Q : List Dt} (hP : P ∈ progs) (hQ : Q ∈ progs) {t : Ty} (ht : t ∈ typesF) (l : List Int) : ∃ v, Sh.valF P l 10 0 t = some v ∧ fitsF P 10 .nil t v = some true ∧ (∃ s, sameF P P 12 [] t t [] [] = some (true, s)) ∧ ∃ r, (∃ s, sameF P Q 12 [] t t [] [] = some (r, s)) ∧ (r = true → fitsF Q 10 .nil t v = some true) := by
  obtain ⟨r, ⟨s, h1⟩, _⟩ := sym_law hP hQ ht ht
  obtain ⟨h2, _⟩ := self_law hP ht
  have key : ∀ y bad y' bad', (1 ≤ y ∧ y ≤ 2) → (1 ≤ y' ∧ y' ≤ 2) → P = pd y bad → Q = pd y' bad' → ∃ v, Sh.valF P l 10 0 t = some v ∧ fitsF P 10 .nil t v = some true ∧ (r = true → fitsF Q 10 .nil t v = some true) := by
    rintro y bad y' bad' hy hy' rfl rfl
    obtain ⟨v, hv, hf⟩ := val_fits hy bad l ht
    refine ⟨v, hv, hf, fun hr => ?_⟩
    subst hr
    exact carry hy hy' bad bad' l (typesF_cl ht) (by unfold same12; rw [h1]; rfl) hv
  have pc : ∀ {P : List Dt}, P ∈ progs → ∃ y bad, (1 ≤ y ∧ y ≤ 2) ∧ P = pd y bad := by
    intro P h
    simp only [progs, List.mem_cons, List.not_mem_nil, or_false] at h
    rcases h with rfl | rfl | rfl | rfl
    · exact ⟨1, true, by omega, rfl⟩
    · exact ⟨1, false, by omega, rfl⟩
    · exact ⟨2, true, by omega, rfl⟩
    · exact ⟨2, false, by omega, rfl⟩
  obtain ⟨y, bad, hy, e1⟩ := pc hP
  obtain ⟨y', bad', hy', e2⟩ := pc hQ
  obtain ⟨v, a1, a2, a3⟩ := key y bad y' bad' hy hy' e1 e2
  exact ⟨v, a1, a2, h2, r, ⟨s, h1⟩, a3⟩
end Go.Sh
