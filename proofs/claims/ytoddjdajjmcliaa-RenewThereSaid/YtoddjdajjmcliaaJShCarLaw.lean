/- The laws' programs and types: valueFor has a value for each, and it fits. · ShapeFirst's plain law: the default values of the laws' types fit, a reference does not. · ShapeCarries' plain law: a value of a type is one of the same type of another program. No program in sight. -/
import Derived.Test.YtoddjdajjmcliaaShMean
import Derived.Test.YtoddjdajjmcliaaShSelfLaw
set_option linter.unusedVariables false
namespace Go.Sh
open Go.Val Go.Mem Go.Proofs.Ytoddjdajjmcliaa
/-- the closed types that the laws meet -/
def clS : List Ty := [oneT 1, oneT 2, oneT 3, oneT 4, tD, namedT [76] [oneT 1], namedT [76] [namedT [76] [tD]], namedT [76] [tD], namedT [69] [], .mk 9 [] [tD]]
theorem typesF_cl {t : Ty} (h : t ∈ typesF) : t ∈ clS := by
  unfold typesF at h
  simp only [List.mem_cons, List.not_mem_nil, or_false] at h
  rcases h with rfl | rfl | rfl | rfl | rfl | rfl | rfl | rfl | rfl <;> simp [clS]
/-- a closed type means itself -/
theorem mean_one (s : Sc) (k : Nat) (h : k ≠ 5) (n : Nm) : Mean s (.mk k n []) (.mk k n []) := .node h rfl fun i t u h => by simp at h
theorem mean_LD (s : Sc) : Mean s (namedT [76] [tD]) (namedT [76] [tD]) := .node (by decide) rfl fun i t u h1 h2 => by
  match i with
  | 0 =>
    simp at h1 h2
    subst h1 h2
    exact mean_one s 6 (by decide) _
  | i + 1 => simp at h1
theorem mem_cases {t : Ty} (h : t ∈ clS) : t = oneT 1 ∨ t = oneT 2 ∨ t = oneT 3 ∨ t = oneT 4 ∨ t = tD ∨ (∃ a, t = namedT [76] [a] ∧ a ∈ clS ∧ namedT [76] [a] ∈ clS) ∨ t = namedT [69] [] ∨ t = .mk 9 [] [tD] := by
  have h0 := h
  unfold clS at h
  simp only [List.mem_cons, List.not_mem_nil, or_false] at h
  rcases h with rfl | rfl | rfl | rfl | rfl | rfl | rfl | rfl | rfl | rfl
  · exact .inl rfl
  · exact .inr (.inl rfl)
  · exact .inr (.inr (.inl rfl))
  · exact .inr (.inr (.inr (.inl rfl)))
  · exact .inr (.inr (.inr (.inr (.inl rfl))))
  · exact .inr (.inr (.inr (.inr (.inr (.inl ⟨_, rfl, by simp [clS], h0⟩)))))
  · exact .inr (.inr (.inr (.inr (.inr (.inl ⟨_, rfl, by simp [clS], h0⟩)))))
  · exact .inr (.inr (.inr (.inr (.inr (.inl ⟨_, rfl, by simp [clS], h0⟩)))))
  · exact .inr (.inr (.inr (.inr (.inr (.inr (.inl rfl))))))
  · exact .inr (.inr (.inr (.inr (.inr (.inr (.inr rfl))))))
theorem dataD (y : Nat) (bad : Bool) : dataOf (pd y bad) [68] = some (dD y) := rfl
theorem dataL (y : Nat) (bad : Bool) : dataOf (pd y bad) [76] = some (dL bad) := rfl
theorem dataE (y : Nat) (bad : Bool) : dataOf (pd y bad) [69] = some dE := rfl
theorem good_cl (y : Nat) (hy : 1 ≤ y ∧ y ≤ 2) (bad : Bool) : ∀ k n us, Ty.mk k n us ∈ clS → GoodTy (pd y bad) (· ∈ clS) k n us := by
  intro k n us h
  have mS : ∀ t, t ∈ clS → t ∈ clS := fun _ h => h
  have hone : oneT y ∈ clS := by
    have : y = 1 ∨ y = 2 := by omega
    rcases this with rfl | rfl <;> simp [clS]
  rcases mem_cases h with e | e | e | e | e | ⟨a, e, ha, hLa⟩ | e | e
  · cases e; exact ⟨.inl rfl, (fun h => absurd h (by decide)), (fun h => absurd h (by decide))⟩
  · cases e; exact ⟨.inr (.inl rfl), (fun h => absurd h (by decide)), (fun h => absurd h (by decide))⟩
  · cases e; exact ⟨.inr (.inr (.inl rfl)), (fun h => absurd h (by decide)), (fun h => absurd h (by decide))⟩
  · cases e; exact ⟨.inr (.inr (.inr (.inl rfl))), (fun h => absurd h (by decide)), (fun h => absurd h (by decide))⟩
  · cases e
    refine ⟨by omega, (fun h => absurd h (by decide)), fun _ => ⟨dD y, dataD y bad, rfl, fun m hm => ?_⟩⟩
    simp only [dD, List.mem_cons, List.not_mem_nil, or_false] at hm
    rcases hm with rfl | rfl | rfl
    · refine ⟨rfl, fun a ha u' hu => ?_⟩
      simp only [List.mem_cons, List.not_mem_nil, or_false] at ha
      subst ha
      injection hu with hu
      subst hu
      exact ⟨by simp [clS], fun ts s2 _ _ => mean_one _ 6 (by decide) _⟩
    · refine ⟨rfl, fun a ha u' hu => ?_⟩
      simp only [List.mem_cons, List.not_mem_nil, or_false] at ha
      subst ha
      have e : argF (Ty.mk 6 [68] []) (oneT y) = some (oneT y) := by
        have : y = 1 ∨ y = 2 := by omega
        rcases this with rfl | rfl <;> rfl
      rw [e] at hu
      injection hu with hu
      subst hu
      exact ⟨hone, fun ts s2 _ _ => mean_one _ y (by omega) _⟩
    · exact ⟨rfl, fun a ha => by simp at ha⟩
  · cases e
    refine ⟨by omega, (fun h => absurd h (by decide)), fun _ => ⟨dL bad, dataL y bad, rfl, fun m hm => ?_⟩⟩
    have hm2 : m = ⟨[78], if bad then [tD] else []⟩ ∨ m = ⟨[67], [tVar, namedT [76] [tVar]]⟩ := by simpa [dL] using hm
    rcases hm2 with rfl | rfl
    · refine ⟨by cases bad <;> rfl, fun b hb u' hu => ?_⟩
      cases bad with
      | false => simp at hb
      | true =>
        have hb2 : b = tD := by simpa using hb
        subst hb2
        injection hu with hu
        subst hu
        exact ⟨by simp [clS], fun ts s2 _ _ => mean_one _ 6 (by decide) _⟩
    · refine ⟨by cases bad <;> rfl, fun b hb u' hu => ?_⟩
      have hb2 : b = tVar ∨ b = namedT [76] [tVar] := by simpa using hb
      rcases hb2 with rfl | rfl
      · injection hu with hu
        subst hu
        refine ⟨ha, fun ts s2 hl hat => ?_⟩
        match ts, hl with
        | [t], _ => exact .var (i := 0) rfl rfl (hat 0 t a rfl rfl)
      · injection hu with hu
        subst hu
        refine ⟨hLa, fun ts s2 hl hat => ?_⟩
        match ts, hl with
        | [t], _ =>
          refine .node (by decide) rfl fun i x u h1 h2 => ?_
          match i with
          | 0 =>
            injection h1 with h1
            injection h2 with h2
            subst h1 h2
            exact .var (i := 0) rfl rfl (hat 0 t a rfl rfl)
          | i + 1 => simp at h1
  · cases e
    refine ⟨by omega, (fun h => absurd h (by decide)), fun _ => ⟨dE, dataE y bad, rfl, fun m hm => ?_⟩⟩
    have hm2 : m = ⟨[87], [namedT [76] [tD], oneT 3]⟩ := by simpa [dE] using hm
    subst hm2
    refine ⟨rfl, fun b hb u' hu => ?_⟩
    have hb2 : b = namedT [76] [tD] ∨ b = oneT 3 := by simpa using hb
    rcases hb2 with rfl | rfl
    · injection hu with hu
      subst hu
      exact ⟨by simp [clS], fun ts s2 _ _ => mean_LD _⟩
    · injection hu with hu
      subst hu
      exact ⟨by simp [clS], fun ts s2 _ _ => mean_one _ 3 (by decide) _⟩
  · cases e
    exact ⟨by omega, fun _ => ⟨tD, rfl, by simp [clS]⟩, (fun h => absurd h (by decide))⟩
theorem mean_cl (s : Sc) : ∀ {t : Ty}, t ∈ clS → Mean s t t := by
  intro t h
  unfold clS at h
  simp only [List.mem_cons, List.not_mem_nil, or_false] at h
  rcases h with rfl | rfl | rfl | rfl | rfl | rfl | rfl | rfl | rfl | rfl
  · exact mean_one s 1 (by decide) _
  · exact mean_one s 2 (by decide) _
  · exact mean_one s 3 (by decide) _
  · exact mean_one s 4 (by decide) _
  · exact mean_one s 6 (by decide) _
  · refine .node (by decide) rfl fun i t u h1 h2 => ?_
    match i with
    | 0 => injection h1 with h1; injection h2 with h2; subst h1 h2; exact mean_one s 1 (by decide) _
    | i + 1 => simp at h1
  · refine .node (by decide) rfl fun i t u h1 h2 => ?_
    match i with
    | 0 => injection h1 with h1; injection h2 with h2; subst h1 h2; exact mean_LD s
    | i + 1 => simp at h1
  · exact mean_LD s
  · exact mean_one s 6 (by decide) _
  · refine .node (by decide) rfl fun i t u h1 h2 => ?_
    match i with
    | 0 => injection h1 with h1; injection h2 with h2; subst h1 h2; exact mean_one s 6 (by decide) _
    | i + 1 => simp at h1
/-- a value that numbers say is one of its type -/
theorem fits_cl {y : Nat} (hy : 1 ≤ y ∧ y ≤ 2) {bad : Bool} {l : List Int} {f deep : Nat} {t : Ty} {v : V} (ht : t ∈ clS) (hv : Sh.valF (pd y bad) l f deep t = some v) : fitsF (pd y bad) f .nil t v = some true :=
  fits_val (S := (· ∈ clS)) (good_cl y hy bad) f deep t v ht hv .nil t (mean_cl .nil ht)
theorem manyO_some {α β : Type} {g : α → Option β} : ∀ {ts : List α}, (∀ t ∈ ts, ∃ v, g t = some v) → ∃ R, manyO g ts = some R
  | [], _ => ⟨[], rfl⟩
  | t :: ts, h => by
    obtain ⟨v, hv⟩ := h t (by simp)
    obtain ⟨R, hR⟩ := manyO_some (ts := ts) fun t ht => h t (by simp [ht])
    exact ⟨v :: R, by unfold manyO; rw [hv, hR]⟩
theorem arg_cl {y : Nat} (hy : 1 ≤ y ∧ y ≤ 2) {bad : Bool} {n : Nm} {us : List Ty} (h : Ty.mk 6 n us ∈ clS) {D : Dt} (hD : dataOf (pd y bad) n = some D) {m : Mk} (hm : m ∈ D.makes) {a : Ty} (ha : a ∈ m.args) : ∃ u', argF (.mk 6 n us) a = some u' ∧ u' ∈ clS := by
  obtain ⟨D', hD', _, hall⟩ := (good_cl y hy bad 6 n us h).data rfl
  rw [hD] at hD'
  injection hD' with e
  subst e
  obtain ⟨_, h2⟩ := hall m hm
  have : ∃ u', argF (.mk 6 n us) a = some u' := by
    unfold argF
    split
    · have hne : us ≠ [] := by
        rename_i h5
        intro e
        subst e
        have hc := (mem_cases h)
        rcases hc with e | e | e | e | e | ⟨b, e, _⟩ | e | e <;> cases e
        · have : D = dD y := by rw [dataD] at hD; exact (Option.some.inj hD).symm
          subst this
          simp only [dD, List.mem_cons, List.not_mem_nil, or_false] at hm
          rcases hm with rfl | rfl | rfl
          · simp only [List.mem_cons, List.not_mem_nil, or_false] at ha; subst ha; cases h5
          · simp only [List.mem_cons, List.not_mem_nil, or_false] at ha; subst ha
            have h6 : y = 5 := h5
            omega
          · simp at ha
        · have : D = dE := by rw [dataE] at hD; exact (Option.some.inj hD).symm
          subst this
          have hm2 : m = ⟨[87], [namedT [76] [tD], oneT 3]⟩ := by simpa [dE] using hm
          subst hm2
          have hb2 : a = namedT [76] [tD] ∨ a = oneT 3 := by simpa using ha
          rcases hb2 with rfl | rfl <;> cases h5
      match us, hne with
      | u :: us, _ => exact ⟨u, rfl⟩
    · split
      · exact ⟨_, rfl⟩
      · split
        · exact ⟨_, rfl⟩
        · exact ⟨_, rfl⟩
  obtain ⟨u', hu⟩ := this
  exact ⟨u', hu, (h2 a ha u' hu).1⟩
/-- one step: if each closed type has a value one level deeper, a picked make has one here -/
theorem step_make {y : Nat} (hy : 1 ≤ y ∧ y ≤ 2) {bad : Bool} {l : List Int} {f deep : Nat} {n : Nm} {us : List Ty} (h : Ty.mk 6 n us ∈ clS) {D : Dt} (hD : dataOf (pd y bad) n = some D) (hpos : 0 < D.makes.length) {m : Mk} (hp : pickF D (numAt l deep) deep = some m) (hm : m ∈ D.makes)
    (ih : ∀ a ∈ m.args, ∀ u', argF (.mk 6 n us) a = some u' → u' ∈ clS → ∃ v, Sh.valF (pd y bad) l f (deep + 1) u' = some v) : ∃ v, Sh.valF (pd y bad) l (f + 1) deep (.mk 6 n us) = some v := by
  rw [valF_eq, if_neg (by omega), if_neg (by omega), if_neg (by omega), if_neg (by omega), if_pos rfl, hD]
  show ∃ v, (if 0 < D.makes.length then _ else _) = some v
  rw [if_pos hpos, hp]
  obtain ⟨R, hR⟩ := manyO_some (g := fun a => (argF (.mk 6 n us) a).bind (Sh.valF (pd y bad) l f (deep + 1))) (ts := m.args) fun a ha => by
    obtain ⟨u', hu, hc⟩ := arg_cl hy h hD hm ha
    obtain ⟨v, hv⟩ := ih a ha u' hu hc
    exact ⟨v, by rw [hu]; exact hv⟩
  exact ⟨_, by show (manyO _ m.args).map _ = some _; rw [hR]; rfl⟩
theorem pick_mem {D : Dt} {x : Int} {deep : Nat} {m : Mk} (h : pickF D x deep = some m) : m ∈ D.makes := by
  unfold pickF at h
  split at h
  · exact List.mem_of_getElem? h
  · split at h
    · exact List.mem_of_getElem? h
    · exact List.mem_of_getElem? h
theorem pick_some {D : Dt} (x : Int) (deep : Nat) (hpos : 0 < D.makes.length) (h3 : D.name = [68] → 2 < D.makes.length) : ∃ m, pickF D x deep = some m := by
  unfold pickF
  split
  · exact ⟨_, List.getElem?_eq_getElem hpos⟩
  · split
    · rename_i h
      exact ⟨_, List.getElem?_eq_getElem (h3 h.2)⟩
    · have hr : (restN x (D.makes.length : Int)).toNat < D.makes.length := by
        have h := restI_bd x (D.makes.length : Int) (by omega)
        have e : restN x (D.makes.length : Int) = restI x (D.makes.length : Int) := rfl
        omega
      exact ⟨_, List.getElem?_eq_getElem hr⟩
section
variable {y : Nat} (hy : 1 ≤ y ∧ y ≤ 2) {bad : Bool} {l : List Int}
include hy
omit hy in
theorem tot_one (f deep k : Nat) (hk : k = 1 ∨ k = 2 ∨ k = 3 ∨ k = 4) (n : Nm) (us : List Ty) : ∃ v, Sh.valF (pd y bad) l (f + 1) deep (.mk k n us) = some v := by
  rw [valF_eq]
  rcases hk with rfl | rfl | rfl | rfl <;> exact ⟨_, rfl⟩
theorem totD (f deep : Nat) (hd : 6 ≤ deep) : ∃ v, Sh.valF (pd y bad) l (f + 1) deep tD = some v := by
  have hp : pickF (dD y) (numAt l deep) deep = some ⟨[90], []⟩ := by
    unfold pickF
    rw [if_neg (by simp [dD]), if_pos ⟨by omega, rfl⟩]
    rfl
  exact step_make hy (by simp [clS, tD, namedT]) (dataD y bad) (by simp [dD]) hp (pick_mem hp) fun a ha => by simp at ha
theorem totL (f deep : Nat) (hd : 6 ≤ deep) (a : Ty) (h : namedT [76] [a] ∈ clS) : ∃ v, Sh.valF (pd y bad) l (f + 2) deep (namedT [76] [a]) = some v := by
  have hp : pickF (dL bad) (numAt l deep) deep = some ⟨[78], if bad then [tD] else []⟩ := by
    unfold pickF
    rw [if_pos ⟨by omega, rfl⟩]
    rfl
  refine step_make hy h (dataL y bad) (by simp [dL]) hp (pick_mem hp) fun b hb u' hu _ => ?_
  cases bad with
  | false => simp at hb
  | true =>
    have hb2 : b = tD := by simpa using hb
    subst hb2
    injection hu with hu
    subst hu
    exact totD hy f (deep + 1) (by omega)
theorem val_total : ∀ (k deep : Nat) (t : Ty), t ∈ clS → 6 ≤ deep + k → ∃ v, Sh.valF (pd y bad) l (k + 4) deep t = some v
  | 0, deep, t, ht, hd => by
    rcases mem_cases ht with e | e | e | e | e | ⟨a, e, ha, hLa⟩ | e | e
    · subst e; exact tot_one 3 deep 1 (by omega) _ _
    · subst e; exact tot_one 3 deep 2 (by omega) _ _
    · subst e; exact tot_one 3 deep 3 (by omega) _ _
    · subst e; exact tot_one 3 deep 4 (by omega) _ _
    · subst e; exact totD hy 3 deep (by omega)
    · subst e; exact totL hy 2 deep (by omega) a hLa
    · subst e
      obtain ⟨m, hp⟩ := pick_some (D := dE) (numAt l deep) deep (by simp [dE]) (fun h => by simp [dE] at h)
      refine step_make hy ht (dataE y bad) (by simp [dE]) hp (pick_mem hp) fun b hb u' hu _ => ?_
      have hm2 : m = ⟨[87], [namedT [76] [tD], oneT 3]⟩ := by simpa [dE] using pick_mem hp
      subst hm2
      have hb2 : b = namedT [76] [tD] ∨ b = oneT 3 := by simpa using hb
      rcases hb2 with rfl | rfl
      · injection hu with hu
        subst hu
        exact totL hy 1 (deep + 1) (by omega) tD (by simp [clS])
      · injection hu with hu
        subst hu
        exact tot_one 2 (deep + 1) 3 (by omega) _ _
    · subst e
      rw [valF_eq]
      obtain ⟨v, hv⟩ := totD hy (bad := bad) (l := l) 2 (deep + 1) (by omega)
      exact ⟨_, by show (Sh.valF (pd y bad) l 3 (deep + 1) tD).map _ = some _; rw [hv]; rfl⟩
  | k + 1, deep, t, ht, hd => by
    have ih := fun u' (hc : u' ∈ clS) => val_total k (deep + 1) u' hc (by omega)
    rcases mem_cases ht with e | e | e | e | e | ⟨a, e, ha, hLa⟩ | e | e
    · subst e; exact tot_one (k + 4) deep 1 (by omega) _ _
    · subst e; exact tot_one (k + 4) deep 2 (by omega) _ _
    · subst e; exact tot_one (k + 4) deep 3 (by omega) _ _
    · subst e; exact tot_one (k + 4) deep 4 (by omega) _ _
    · subst e
      obtain ⟨m, hp⟩ := pick_some (D := dD y) (numAt l deep) deep (by simp [dD]) (fun _ => by simp [dD])
      exact step_make hy ht (dataD y bad) (by simp [dD]) hp (pick_mem hp) fun b hb u' hu hc => ih u' hc
    · subst e
      obtain ⟨m, hp⟩ := pick_some (D := dL bad) (numAt l deep) deep (by simp [dL]) (fun h => by simp [dL] at h)
      exact step_make hy ht (dataL y bad) (by simp [dL]) hp (pick_mem hp) fun b hb u' hu hc => ih u' hc
    · subst e
      obtain ⟨m, hp⟩ := pick_some (D := dE) (numAt l deep) deep (by simp [dE]) (fun h => by simp [dE] at h)
      exact step_make hy ht (dataE y bad) (by simp [dE]) hp (pick_mem hp) fun b hb u' hu hc => ih u' hc
    · subst e
      rw [show k + 1 + 4 = k + 4 + 1 by omega, valF_eq]
      obtain ⟨v, hv⟩ := ih tD (by simp [clS])
      exact ⟨_, by show (Sh.valF (pd y bad) l (k + 4) (deep + 1) tD).map _ = some _; rw [hv]; rfl⟩
end
end Go.Sh
set_option linter.unusedVariables false
namespace Go.Sh
open Go.Val Go.Mem Go.Proofs.Ytoddjdajjmcliaa
theorem first_fits_all : (progs.all fun P => typesF.all fun t => match firstU P t 4 0 with
    | some (some v) => fitsF P 12 .nil t v == some true
    | _ => false) = true := by decide +kernel
theorem ref_not_all : (progs.all fun P => typesF.all fun t => fitsF P 12 .nil t (.mk 6 5 ⟨#[]⟩ []) == some false) = true := by decide +kernel
theorem first_fits {P : List Dt} (hP : P ∈ progs) {t : Ty} (ht : t ∈ typesF) : ∃ v, firstU P t 4 0 = some (some v) ∧ fitsF P 12 .nil t v = some true := by
  have h := List.all_eq_true.1 (List.all_eq_true.1 first_fits_all P hP) t ht
  split at h
  · rename_i v hv
    exact ⟨v, hv, by simpa using h⟩
  · cases h
theorem ref_not {P : List Dt} (hP : P ∈ progs) {t : Ty} (ht : t ∈ typesF) : fitsF P 12 .nil t (.mk 6 5 ⟨#[]⟩ []) = some false := by
  simpa using List.all_eq_true.1 (List.all_eq_true.1 ref_not_all P hP) t ht
/-- the value that numbers say, and that it fits -/
theorem val_fits {y : Nat} (hy : 1 ≤ y ∧ y ≤ 2) (bad : Bool) (l : List Int) {t : Ty} (ht : t ∈ typesF) : ∃ v, Sh.valF (pd y bad) l 10 0 t = some v ∧ fitsF (pd y bad) 10 .nil t v = some true := by
  obtain ⟨v, hv⟩ := val_total hy (bad := bad) (l := l) 6 0 t (typesF_cl ht) (by omega)
  exact ⟨v, hv, fits_cl hy (typesF_cl ht) hv⟩
end Go.Sh
set_option linter.unusedVariables false
namespace Go.Sh
open Go.Val Go.Mem Go.Proofs.Ytoddjdajjmcliaa
theorem fits_val2 {P Q : List Dt} {l : List Int} {S : Ty → Prop} (hS : ∀ k n us, S (.mk k n us) → GoodTy P S k n us) (hQ : ∀ n us D, S (.mk 6 n us) → dataOf P n = some D → dataOf Q n = some D) : ∀ (f deep : Nat) (u : Ty) (v : V), S u → Sh.valF P l f deep u = some v → ∀ (s : Sc) (t : Ty), Mean s t u → fitsF Q f s t v = some true
  | 0, _, _, _, _, h, _, _, _ => by cases h
  | f + 1, deep, u, v, hu, hv, s, t, hm => by
    obtain ⟨k, n, ts, us, s2, rfl, hk5, hres, hlen, hargs⟩ := hm.res
    have G := hS k n us hu
    rw [fitsF_eq hres]
    rw [valF_eq] at hv
    rcases G.kinds with rfl | rfl | rfl | rfl | rfl | rfl
    · injection hv with hv
      subst hv
      rfl
    · injection hv with hv
      subst hv
      rfl
    · injection hv with hv
      subst hv
      rfl
    · injection hv with hv
      subst hv
      rfl
    · obtain ⟨D, hD, hpl, hmk⟩ := G.data rfl
      rw [if_neg (by omega), if_neg (by omega), if_neg (by omega), if_pos rfl, hQ n us D hu hD]
      simp only [hD] at hv
      simp only [if_neg (show ¬ 6 = 1 by omega), if_neg (show ¬ 6 = 2 by omega), if_neg (show ¬ 6 = 3 by omega), if_neg (show ¬ 6 = 9 by omega), if_true] at hv
      by_cases hpos : 0 < D.makes.length
      · rw [if_pos hpos] at hv
        cases hp : pickF D (numAt l deep) deep with
        | none => rw [hp] at hv; cases hv
        | some m =>
          rw [hp] at hv
          obtain ⟨vs, hvs, rfl⟩ := Option.map_eq_some_iff.1 hv
          obtain ⟨hfind, hall⟩ := hmk m (pick_mem hp)
          obtain ⟨hl, hat⟩ := manyO_at hvs
          show (if D.params.length = ts.length then (if (5 : Int) = 5 then match D.makes.find? (fun x => decide (txt x.name = txt m.name)) with
            | none => some false
            | some m' => eqV (fitsF Q f (.mk D.params ts s2)) m'.args vs
            else some false) else none) = some true
          rw [if_pos (by omega), if_pos rfl, hfind]
          show eqV (fitsF Q f (.mk D.params ts s2)) m.args vs = some true
          unfold eqV
          rw [if_pos hl.symm]
          refine allV_true _ _ fun i a v' h1 h2 => ?_
          have h3 := hat i a v' h1 h2
          obtain ⟨u', h4, h5⟩ := Option.bind_eq_some_iff.1 h3
          obtain ⟨h6, h7⟩ := hall a (List.mem_of_getElem? h1) u' h4
          exact fits_val2 hS hQ f (deep + 1) u' v' h6 h5 _ _ (h7 ts s2 hlen hargs)
      · rw [if_neg hpos] at hv
        cases hv
    · obtain ⟨a, rfl, ha⟩ := G.cell rfl
      rw [if_neg (by omega), if_neg (by omega), if_pos rfl]
      simp only [if_neg (show ¬ 9 = 1 by omega), if_neg (show ¬ 9 = 2 by omega), if_neg (show ¬ 9 = 3 by omega), if_true] at hv
      obtain ⟨v', hv', rfl⟩ := Option.map_eq_some_iff.1 hv
      match ts, hlen, hargs with
      | [b], _, hargs =>
        show (if (8 : Int) = 8 then eqV (fitsF Q f s2) [b] [v'] else some false) = some true
        rw [if_pos rfl]
        show allV (fitsF Q f s2) [b] [v'] = some true
        refine allV_true _ _ fun i a' v2 h1 h2 => ?_
        match i with
        | 0 =>
          simp at h1 h2
          subst h1 h2
          exact fits_val2 hS hQ f (deep + 1) a v' ha hv' _ _ (hargs 0 _ _ rfl rfl)
        | i + 1 => simp at h1
/-- what is the same has the same in it -/
def cloB (P Q : List Dt) : Bool := clS.all fun u => !(same12 P Q u u == some true) || match u with
  | .mk k n us => (!(decide (k = 9)) || us.all fun a => same12 P Q a a == some true) && (!(decide (k = 6)) || match dataOf P n with
    | none => true
    | some D => D.makes.all fun m => m.args.all fun a => match argF (.mk k n us) a with
      | none => true
      | some u' => same12 P Q u' u' == some true)
theorem clo_all : (progs.all fun P => progs.all fun Q => cloB P Q) = true := by decide +kernel
def datB (y y' : Nat) (b b' : Bool) : Bool := clS.all fun u => !(same12 (pd y b) (pd y' b') u u == some true) || match u with
  | .mk k n us => !(decide (k = 6)) || ((!(decide (n = [68])) || decide (y = y')) && (!(decide (n = [76])) || decide (b = b')))
theorem dat_all : ([1, 2].all fun y => [1, 2].all fun y' => [true, false].all fun b => [true, false].all fun b' => datB y y' b b') = true := by decide +kernel
theorem dat_of {y y' : Nat} (hy : 1 ≤ y ∧ y ≤ 2) (hy' : 1 ≤ y' ∧ y' ≤ 2) (b b' : Bool) : datB y y' b b' = true := by
  have h1 : y = 1 ∨ y = 2 := by omega
  have h2 : y' = 1 ∨ y' = 2 := by omega
  have h := dat_all
  simp only [List.all_cons, List.all_nil, Bool.and_true, Bool.and_eq_true] at h
  rcases h1 with rfl | rfl <;> rcases h2 with rfl | rfl <;> cases b <;> cases b' <;> simp_all
theorem carry {y y' : Nat} (hy : 1 ≤ y ∧ y ≤ 2) (hy' : 1 ≤ y' ∧ y' ≤ 2) (b b' : Bool) (l : List Int) {f deep : Nat} {t : Ty} {v : V} (ht : t ∈ clS) (hs : same12 (pd y b) (pd y' b') t t = some true) (hv : Sh.valF (pd y b) l f deep t = some v) : fitsF (pd y' b') f .nil t v = some true := by
  have C : cloB (pd y b) (pd y' b') = true := List.all_eq_true.1 (List.all_eq_true.1 clo_all _ (pd_mem hy b)) _ (pd_mem hy' b')
  have hdat := dat_of hy hy' b b'
  refine fits_val2 (S := fun u => u ∈ clS ∧ same12 (pd y b) (pd y' b') u u = some true) ?_ ?_ f deep t v ⟨ht, hs⟩ hv .nil t (mean_cl .nil ht)
  · intro k n us ⟨hc, hs⟩
    have G := good_cl y hy b k n us hc
    have h := List.all_eq_true.1 C _ hc
    rw [hs] at h
    simp only [beq_self_eq_true, Bool.not_true, Bool.false_or, Bool.and_eq_true] at h
    refine ⟨G.kinds, fun hk => ?_, fun hk => ?_⟩
    · obtain ⟨a, rfl, ha⟩ := G.cell hk
      have h1 := h.1
      subst hk
      simp at h1
      exact ⟨a, rfl, ha, h1⟩
    · obtain ⟨D, hD, hpl, hmk⟩ := G.data hk
      have h2 := h.2
      subst hk
      rw [hD] at h2
      simp only [decide_true, Bool.not_true, Bool.false_or] at h2
      refine ⟨D, hD, hpl, fun m hm => ⟨(hmk m hm).1, fun a ha u' hu => ⟨⟨((hmk m hm).2 a ha u' hu).1, ?_⟩, ((hmk m hm).2 a ha u' hu).2⟩⟩⟩
      have h3 := List.all_eq_true.1 (List.all_eq_true.1 h2 m hm) a ha
      rw [hu] at h3
      simpa using h3
  · intro n us D ⟨hc, hs⟩ hD
    have h := List.all_eq_true.1 hdat _ hc
    rw [hs] at h
    simp only [beq_self_eq_true, Bool.not_true, Bool.false_or, decide_true, Bool.and_eq_true, Bool.or_eq_true, Bool.not_eq_true', decide_eq_false_iff_not, decide_eq_true_eq] at h
    rcases mem_cases hc with e | e | e | e | e | ⟨a, e, ha, hLa⟩ | e | e <;> cases e
    · rcases h.1 with h | rfl
      · exact absurd rfl h
      · rw [dataD] at hD ⊢; exact hD
    · rcases h.2 with h | rfl
      · exact absurd rfl h
      · rw [dataL] at hD ⊢; exact hD
    · rw [dataE] at hD ⊢; exact hD
theorem carry_law {P Q : List Dt} (hP : P ∈ progs) (hQ : Q ∈ progs) {t : Ty} (ht : t ∈ typesF) (l : List Int) : ∃ v, Sh.valF P l 10 0 t = some v ∧ fitsF P 10 .nil t v = some true ∧ (∃ s, sameF P P 12 [] t t [] [] = some (true, s)) ∧ ∃ r, (∃ s, sameF P Q 12 [] t t [] [] = some (r, s)) ∧ (r = true → fitsF Q 10 .nil t v = some true) := by
  obtain ⟨r, ⟨s, h1⟩, _⟩ := sym_law hP hQ ht ht
  obtain ⟨h2, _⟩ := self_law hP ht
  have key : ∀ y bad y' bad', (1 ≤ y ∧ y ≤ 2) → (1 ≤ y' ∧ y' ≤ 2) → P = pd y bad → Q = pd y' bad' → ∃ v, Sh.valF P l 10 0 t = some v ∧ fitsF P 10 .nil t v = some true ∧ (r = true → fitsF Q 10 .nil t v = some true) := by
    rintro y bad y' bad' hy hy' rfl rfl
    obtain ⟨v, hv, hf⟩ := val_fits hy bad l ht
    refine ⟨v, hv, hf, fun hr => ?_⟩
    subst hr
    exact carry hy hy' bad bad' l (typesF_cl ht) (by unfold same12; rw [h1]; rfl) hv
  have pc : ∀ {P : List Dt}, P ∈ progs → ∃ y bad, (1 ≤ y ∧ y ≤ 2) ∧ P = pd y bad := by
    intro P h
    simp only [progs, List.mem_cons, List.not_mem_nil, or_false] at h
    rcases h with rfl | rfl | rfl | rfl
    · exact ⟨1, true, by omega, rfl⟩
    · exact ⟨1, false, by omega, rfl⟩
    · exact ⟨2, true, by omega, rfl⟩
    · exact ⟨2, false, by omega, rfl⟩
  obtain ⟨y, bad, hy, e1⟩ := pc hP
  obtain ⟨y', bad', hy', e2⟩ := pc hQ
  obtain ⟨v, a1, a2, a3⟩ := key y bad y' bad' hy hy' e1 e2
  exact ⟨v, a1, a2, h2, r, ⟨s, h1⟩, a3⟩
end Go.Sh
