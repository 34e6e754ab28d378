/- Renew's plain laws: what Plan makes of the laws' programs. No program in sight. -/
import Derived.Test.YtoddjdajjmcliaaJRnTurn
set_option linter.unusedVariables false
namespace Go.Sh
open Go.Val Go.Mem Go.Proofs.Ytoddjdajjmcliaa
theorem idxF_lt (bits : Nat) : ∀ (j i : Nat), i ∈ idxF bits j → i < j
  | 0, i, h => by simp [idxF] at h
  | j + 1, i, h => by
    unfold idxF at h
    split at h
    · rcases List.mem_append.1 h with h | h
      · have := idxF_lt bits j i h; omega
      · simp at h; omega
    · have := idxF_lt bits j i h; omega
theorem idxF_nodup (bits : Nat) : ∀ (j : Nat), (idxF bits j).Nodup
  | 0 => by simp [idxF]
  | j + 1 => by
    unfold idxF
    split
    · refine List.nodup_append.2 ⟨idxF_nodup bits j, by simp, fun a ha b hb => ?_⟩
      have := idxF_lt bits j a ha
      simp at hb
      omega
    · exact idxF_nodup bits j
theorem nmF_inj {i j : Nat} (hi : i < 9) (hj : j < 9) (h : nmF i = nmF j) : i = j := by
  unfold nmF chr at h
  injection h with h
  have := congrArg UInt8.toNat h
  simp only [UInt8.toNat_ofNat'] at this
  omega
theorem manyR_all {α β : Type} {f : α → Option (Option β)} : ∀ (l : List α), (∀ a ∈ l, ∃ r, f a = some r) → ∃ R, manyR f l = some R ∧ (R = none → ∃ a ∈ l, f a = some none) ∧ ∀ rs, R = some rs → rs.length = l.length ∧ ∀ (k : Nat) (a : α), l[k]? = some a → ∃ v, rs[k]? = some v ∧ f a = some (some v)
  | [], _ => ⟨some [], rfl, fun h => by simp at h, fun rs h => by
      injection h with h
      subst h
      exact ⟨rfl, fun k a h => by simp at h⟩⟩
  | a :: l, h => by
    obtain ⟨r, hr⟩ := h a (by simp)
    cases r with
    | none => exact ⟨none, by unfold manyR; rw [hr], fun _ => ⟨a, by simp, hr⟩, fun rs h => by cases h⟩
    | some v =>
      obtain ⟨R, h1, h2, h3⟩ := manyR_all l fun b hb => h b (by simp [hb])
      cases R with
      | none =>
        obtain ⟨b, hb, hb2⟩ := h2 rfl
        exact ⟨none, by unfold manyR; rw [hr, h1], fun _ => ⟨b, by simp [hb], hb2⟩, fun rs h => by cases h⟩
      | some rs =>
        obtain ⟨e1, e2⟩ := h3 rs rfl
        refine ⟨some (v :: rs), by unfold manyR; rw [hr, h1], (fun h => by cases h), fun rs' h => ?_⟩
        injection h with h
        subst h
        refine ⟨by simp [e1], fun k b hb => ?_⟩
        cases k with
        | zero => simp at hb; subst hb; exact ⟨v, rfl, hr⟩
        | succ k => exact e2 k b (by simpa using hb)
theorem manyR_map {α β γ : Type} (f : β → Option (Option γ)) (g : α → β) : ∀ (l : List α), manyR f (l.map g) = manyR (fun a => f (g a)) l
  | [] => rfl
  | a :: l => by
    simp only [List.map_cons, manyR]
    rw [manyR_map f g l]
/-- what Plan makes, told by the numbers of the fields -/
def PlanOf (P Q : List Dt) (I I' : List Nat) : Option (List Fld) → Prop
  | none => ∃ i, i ∈ I ∧ i ∈ I' ∧ same12 P Q (tyF i) (tyF i) = some false
  | some fl => fl.length = I'.length ∧ ∀ (k i : Nat), I'[k]? = some i → ∃ f, fl[k]? = some f ∧ ((∃ j : Nat, I[j]? = some i ∧ f = ⟨(j : Nat), zeroV⟩ ∧ same12 P Q (tyF i) (tyF i) = some true) ∨ (i ∉ I ∧ ∃ v, f = ⟨-1, v⟩ ∧ firstU Q (tyF i) 4 0 = some (some v)))
theorem fldI {P Q : List Dt} (hP : P ∈ progs) (hQ : Q ∈ progs) {I : List Nat} (hI : ∀ i ∈ I, i < 9) {i : Nat} (hi : i < 9) :
    ∃ r, fldF P Q (I.map nmF) (I.map tyF) (nmF i) (tyF i) = some r ∧ (r = none → i ∈ I ∧ same12 P Q (tyF i) (tyF i) = some false) ∧ ∀ f, r = some f → (∃ j : Nat, I[j]? = some i ∧ f = ⟨(j : Nat), zeroV⟩ ∧ same12 P Q (tyF i) (tyF i) = some true) ∨ (i ∉ I ∧ ∃ v, f = ⟨-1, v⟩ ∧ firstU Q (tyF i) 4 0 = some (some v)) := by
  unfold fldF
  rcases ixG_bd (nmF i) (I.map nmF) 0 with h | ⟨j, h1, h2, h3⟩
  · rw [h, if_pos (by omega)]
    obtain ⟨v, hv, _⟩ := first_fits hQ (tyF_mem i)
    refine ⟨some ⟨-1, v⟩, by rw [hv], (fun h => by cases h), fun f hf => .inr ⟨fun hm => ?_, v, ?_, hv⟩⟩
    · obtain ⟨k, hk⟩ := List.getElem?_of_mem hm
      have hkl : k < I.length := (List.getElem?_eq_some_iff.1 hk).1
      have key : ∀ (l : List Nm) (n0 : Nm) (m : Nat), n0 ∈ l → ixG n0 l m ≠ -1 := by
        intro l
        induction l with
        | nil => intro n0 m h; simp at h
        | cons y r ih =>
          intro n0 m h
          unfold ixG
          split
          · omega
          · rename_i hne
            rcases List.mem_cons.1 h with h | h
            · exact absurd h hne
            · exact ih n0 (m + 1) h
      exact key _ _ 0 (List.mem_map.2 ⟨i, hm, rfl⟩) h
    · injection hf with hf; exact hf.symm
  · simp only [Nat.zero_add] at h2
    rw [h2, if_neg (by omega), Int.toNat_natCast]
    have hjI : j < I.length := by simpa using h1
    have hIj : I[j]? = some i := by
      rw [List.getElem?_map, List.getElem?_eq_getElem hjI] at h3
      rw [List.getElem?_eq_getElem hjI]
      have := nmF_inj (hI _ (List.getElem_mem hjI)) hi (by simpa using h3)
      rw [this]
    rw [List.getElem?_map, hIj]
    simp only [Option.map_some]
    obtain ⟨r, ⟨s, hs⟩, _⟩ := sym_law hP hQ (tyF_mem i) (tyF_mem i)
    have h12 : same12 P Q (tyF i) (tyF i) = some r := by unfold same12; rw [hs]; rfl
    rw [h12]
    cases r with
    | true => exact ⟨_, rfl, (fun h => by cases h), fun f hf => .inl ⟨j, hIj, by injection hf with hf; exact hf.symm, rfl⟩⟩
    | false => exact ⟨_, rfl, fun _ => ⟨List.mem_of_getElem? hIj, rfl⟩, fun f hf => by cases hf⟩
theorem flds_law {P Q : List Dt} (hP : P ∈ progs) (hQ : Q ∈ progs) {I I' : List Nat} (hI : ∀ i ∈ I, i < 9) (hI' : ∀ i ∈ I', i < 9) :
    ∃ R, fldsF P Q (I.map nmF) (I.map tyF) (I'.map nmF) (I'.map tyF) = some R ∧ PlanOf P Q I I' R := by
  have hz : (I'.map nmF).zip (I'.map tyF) = I'.map fun i => (nmF i, tyF i) := by
    induction I' with
    | nil => rfl
    | cons a l ih => simp only [List.map_cons, List.zip_cons_cons]; rw [ih fun i hi => hI' i (by simp [hi])]
  unfold fldsF
  rw [hz, manyR_map]
  obtain ⟨R, h1, h2, h3⟩ := manyR_all (f := fun i => fldF P Q (I.map nmF) (I.map tyF) (nmF i) (tyF i)) I' fun i hi => by
    obtain ⟨r, hr, _⟩ := fldI hP hQ hI (hI' i hi)
    exact ⟨r, hr⟩
  refine ⟨R, h1, ?_⟩
  cases R with
  | none =>
    obtain ⟨i, hi, hf⟩ := h2 rfl
    obtain ⟨r, hr, k1, _⟩ := fldI hP hQ hI (hI' i hi)
    rw [hf] at hr
    injection hr with hr
    obtain ⟨k2, k3⟩ := k1 hr.symm
    exact ⟨i, k2, hi, k3⟩
  | some fl =>
    obtain ⟨e1, e2⟩ := h3 fl rfl
    refine ⟨e1, fun k i hk => ?_⟩
    obtain ⟨f, hf, hff⟩ := e2 k i hk
    obtain ⟨r, hr, _, k1⟩ := fldI hP hQ hI (hI' i (List.mem_of_getElem? hk))
    rw [hff] at hr
    injection hr with hr
    exact ⟨f, hf, k1 f hr.symm⟩
/-- a plan's Move may be -/
theorem plan_ok {P Q : List Dt} {I I' : List Nat} {fl : List Fld} (hI : I.length ≤ 6) (h : PlanOf P Q I I' (some fl)) : MvOk I.length fl (lostF I.length (fl.map Fld.src)) := by
  refine ⟨by omega, fun f hf => ?_, fun i hi => ?_⟩
  · obtain ⟨k, hk⟩ := List.getElem?_of_mem hf
    have hkl : k < I'.length := by have := (List.getElem?_eq_some_iff.1 hk).1; have := h.1; omega
    obtain ⟨f', hf', hc⟩ := h.2 k _ (List.getElem?_eq_getElem hkl)
    rw [hk] at hf'
    injection hf' with hf'
    subst hf'
    rcases hc with ⟨j, hj, rfl, _⟩ | ⟨_, v, rfl, _⟩
    · have := (List.getElem?_eq_some_iff.1 hj).1
      exact .inr ⟨by show (0 : Int) ≤ (j : Int); omega, by show (j : Int) < _; omega⟩
    · exact .inl rfl
  · unfold lostF at hi
    exact List.mem_range.1 (List.mem_filter.1 hi).1
theorem self12 {P : List Dt} (hP : P ∈ progs) (i : Nat) : same12 P P (tyF i) (tyF i) = some true := by
  obtain ⟨⟨s, hs⟩, _⟩ := self_law hP (tyF_mem i)
  unfold same12
  rw [hs]
  rfl
/-- within one program each field comes from itself -/
theorem plan_self {P : List Dt} (hP : P ∈ progs) {I : List Nat} {R : Option (List Fld)} (h : PlanOf P P I I R) : ∃ fl, R = some fl := by
  cases R with
  | none =>
    obtain ⟨i, _, _, h1⟩ := h
    rw [self12 hP i] at h1
    cases h1
  | some fl => exact ⟨fl, rfl⟩
end Go.Sh
