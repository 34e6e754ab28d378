/- A value that numbers say is one of its type: plain law. No program in sight. -/
import Derived.Test.YtoddjdajjmcliaaShVal
set_option linter.unusedVariables false
namespace Go.Sh
open Go.Val Go.Mem
theorem fitsF_eq {P : List Dt} {d : Nat} {s : Sc} {t : Ty} {v : V} {k : Nat} {n : Nm} {l : List Ty} {s2 : Sc} (h : resolveF s t = (.mk k n l, s2)) : fitsF P (d + 1) s t v =
    if 1 ≤ k ∧ k ≤ 4 then some (decide (v.kind = (basicF k : Nat) ∧ v.args.length = 0))
    else if k = 8 then some (decide (v.kind = 6 ∧ v.args.length = 0))
    else if k = 9 then (if v.kind = 8 then eqV (fitsF P d s2) l v.args else some false)
    else if k = 6 then match dataOf P n with
      | none => none
      | some D => if D.params.length = l.length then
          (if v.kind = 5 then match D.makes.find? (fun m => decide (txt m.name = v.text)) with
            | none => some false
            | some m => eqV (fitsF P d (.mk D.params l s2)) m.args v.args
          else some false) else none
    else some false := by
  conv => lhs; unfold fitsF
  rw [h]
  rfl
theorem valF_eq {P : List Dt} {l : List Int} {f deep k : Nat} {n : Nm} {ts : List Ty} : Sh.valF P l (f + 1) deep (.mk k n ts) =
    if k = 1 then some (.mk 2 (numAt l deep) ⟨#[]⟩ [])
    else if k = 2 then some (.mk 3 (restN (numAt l deep) 2) ⟨#[]⟩ [])
    else if k = 3 then some (.mk 4 0 (txt (List.replicate (restN (numAt l deep) 5).toNat 116)) [])
    else if k = 9 then match ts with
      | [] => none
      | a :: _ => (Sh.valF P l f (deep + 1) a).map fun v => .mk 8 0 ⟨#[]⟩ [v]
    else if k = 6 then match dataOf P n with
      | none => some (.mk 1 0 ⟨#[]⟩ [])
      | some D => if 0 < D.makes.length then match pickF D (numAt l deep) deep with
        | none => none
        | some m => (manyO (fun a => (argF (.mk k n ts) a).bind (Sh.valF P l f (deep + 1))) m.args).map fun vs => .mk 5 0 (txt m.name) vs
        else none
    else some (.mk 1 0 ⟨#[]⟩ []) := by
  conv => lhs; unfold Sh.valF
  rfl
/-- a type in a scope means a closed type -/
inductive Mean : Sc → Ty → Ty → Prop where
  | var {ps : List Nm} {as : List Ty} {o : Sc} {n : Nm} {i : Nat} {t u : Ty} {ts : List Ty} : ixG n ps 0 = (i : Int) → as[i]? = some t → Mean o t u → Mean (.mk ps as o) (.mk 5 n ts) u
  | node {s : Sc} {k : Nat} {n : Nm} {ts us : List Ty} : k ≠ 5 → ts.length = us.length → (∀ (i : Nat) (t u : Ty), ts[i]? = some t → us[i]? = some u → Mean s t u) → Mean s (.mk k n ts) (.mk k n us)
theorem Mean.res {s : Sc} {t u : Ty} (h : Mean s t u) : ∃ k n ts us s2, u = .mk k n us ∧ k ≠ 5 ∧ resolveF s t = (.mk k n ts, s2) ∧ ts.length = us.length ∧ ∀ (i : Nat) (t u : Ty), ts[i]? = some t → us[i]? = some u → Mean s2 t u := by
  induction h with
  | @var ps as o n i t u ts hi ht _ ih =>
    obtain ⟨k, m, ts', us, s2, e, h1, h2, h3, h4⟩ := ih
    refine ⟨k, m, ts', us, s2, e, h1, ?_, h3, h4⟩
    have hr : resolveF (.mk ps as o) (.mk 5 n ts) = if 0 ≤ ixG n ps 0 then match as[(ixG n ps 0).toNat]? with
          | some u => resolveF o u
          | none => (.mk 5 n ts, .mk ps as o)
          else (.mk 5 n ts, .mk ps as o) := rfl
    rw [hr, hi, if_pos (by omega), Int.toNat_natCast, ht]
    exact h2
  | @node s k n ts us hk hl ha _ =>
    refine ⟨k, n, ts, us, s, rfl, hk, ?_, hl, ha⟩
    cases s with
    | nil => rfl
    | mk ps as o =>
      have hr : resolveF (.mk ps as o) (.mk k n ts) = if k = 5 then (if 0 ≤ ixG n ps 0 then match as[(ixG n ps 0).toNat]? with
          | some u => resolveF o u
          | none => (.mk k n ts, .mk ps as o)
          else (.mk k n ts, .mk ps as o)) else (.mk k n ts, .mk ps as o) := rfl
      rw [hr, if_neg hk]
/-- what the law asks of a closed type in a program -/
structure GoodTy (P : List Dt) (S : Ty → Prop) (k : Nat) (n : Nm) (us : List Ty) : Prop where
  kinds : k = 1 ∨ k = 2 ∨ k = 3 ∨ k = 4 ∨ k = 6 ∨ k = 9
  cell : k = 9 → ∃ a, us = [a] ∧ S a
  data : k = 6 → ∃ D, dataOf P n = some D ∧ D.params.length = us.length ∧ ∀ m ∈ D.makes, D.makes.find? (fun x => decide (txt x.name = txt m.name)) = some m ∧ ∀ a ∈ m.args, ∀ u', argF (.mk k n us) a = some u' → S u' ∧ ∀ (ts : List Ty) (s2 : Sc), ts.length = us.length → (∀ (i : Nat) (t u : Ty), ts[i]? = some t → us[i]? = some u → Mean s2 t u) → Mean (.mk D.params ts s2) a u'
theorem allV_true {f : Ty → V → Option Bool} : ∀ (ts : List Ty) (vs : List V), (∀ (i : Nat) (t : Ty) (v : V), ts[i]? = some t → vs[i]? = some v → f t v = some true) → allV f ts vs = some true
  | [], [], _ => rfl
  | [], _ :: _, _ => rfl
  | _ :: _, [], _ => rfl
  | t :: ts, v :: vs, h => by
    unfold allV
    rw [h 0 t v rfl rfl]
    exact allV_true ts vs fun i t v h1 h2 => h (i + 1) t v h1 h2
theorem manyO_at {α β : Type} {g : α → Option β} : ∀ {ts : List α} {R : List β}, manyO g ts = some R → R.length = ts.length ∧ ∀ (i : Nat) (t : α) (v : β), ts[i]? = some t → R[i]? = some v → g t = some v
  | [], R, h => by
    unfold manyO at h
    injection h with h
    subst h
    exact ⟨rfl, fun i t v h1 => by simp at h1⟩
  | t :: ts, R, h => by
    unfold manyO at h
    cases hf : g t with
    | none => rw [hf] at h; cases h
    | some v =>
      rw [hf] at h
      cases hm : manyO g ts with
      | none => rw [hm] at h; cases h
      | some R2 =>
        rw [hm] at h
        injection h with h
        subst h
        obtain ⟨h1, h2⟩ := manyO_at hm
        refine ⟨by simp [h1], fun i t' v' e1 e2 => ?_⟩
        cases i with
        | zero => simp at e1 e2; rw [← e1, ← e2]; exact hf
        | succ i => exact h2 i t' v' (by simpa using e1) (by simpa using e2)
theorem fits_val {P : List Dt} {l : List Int} {S : Ty → Prop} (hS : ∀ k n us, S (.mk k n us) → GoodTy P S k n us) : ∀ (f deep : Nat) (u : Ty) (v : V), S u → Sh.valF P l f deep u = some v → ∀ (s : Sc) (t : Ty), Mean s t u → fitsF P f s t v = some true
  | 0, _, _, _, _, h, _, _, _ => by cases h
  | f + 1, deep, u, v, hu, hv, s, t, hm => by
    obtain ⟨k, n, ts, us, s2, rfl, hk5, hres, hlen, hargs⟩ := hm.res
    have G := hS k n us hu
    rw [fitsF_eq hres]
    rw [valF_eq] at hv
    rcases G.kinds with rfl | rfl | rfl | rfl | rfl | rfl
    · injection hv with hv
      subst hv
      rfl
    · injection hv with hv
      subst hv
      rfl
    · injection hv with hv
      subst hv
      rfl
    · injection hv with hv
      subst hv
      rfl
    · obtain ⟨D, hD, hpl, hmk⟩ := G.data rfl
      rw [if_neg (by omega), if_neg (by omega), if_neg (by omega), if_pos rfl, hD]
      simp only [hD] at hv
      simp only [if_neg (show ¬ 6 = 1 by omega), if_neg (show ¬ 6 = 2 by omega), if_neg (show ¬ 6 = 3 by omega), if_neg (show ¬ 6 = 9 by omega), if_true] at hv
      by_cases hpos : 0 < D.makes.length
      · rw [if_pos hpos] at hv
        cases hp : pickF D (numAt l deep) deep with
        | none => rw [hp] at hv; cases hv
        | some m =>
          rw [hp] at hv
          obtain ⟨vs, hvs, rfl⟩ := Option.map_eq_some_iff.1 hv
          have hmem : m ∈ D.makes := by
            unfold pickF at hp
            split at hp
            · exact List.mem_of_getElem? hp
            · split at hp
              · exact List.mem_of_getElem? hp
              · exact List.mem_of_getElem? hp
          obtain ⟨hfind, hall⟩ := hmk m hmem
          obtain ⟨hl, hat⟩ := manyO_at hvs
          show (if D.params.length = ts.length then (if (5 : Int) = 5 then match D.makes.find? (fun x => decide (txt x.name = txt m.name)) with
            | none => some false
            | some m' => eqV (fitsF P f (.mk D.params ts s2)) m'.args vs
            else some false) else none) = some true
          rw [if_pos (by omega), if_pos rfl, hfind]
          show eqV (fitsF P f (.mk D.params ts s2)) m.args vs = some true
          unfold eqV
          rw [if_pos hl.symm]
          refine allV_true _ _ fun i a v' h1 h2 => ?_
          have h3 := hat i a v' h1 h2
          obtain ⟨u', h4, h5⟩ := Option.bind_eq_some_iff.1 h3
          obtain ⟨h6, h7⟩ := hall a (List.mem_of_getElem? h1) u' h4
          exact fits_val hS f (deep + 1) u' v' h6 h5 _ _ (h7 ts s2 hlen hargs)
      · rw [if_neg hpos] at hv
        cases hv
    · obtain ⟨a, rfl, ha⟩ := G.cell rfl
      rw [if_neg (by omega), if_neg (by omega), if_pos rfl]
      simp only [if_neg (show ¬ 9 = 1 by omega), if_neg (show ¬ 9 = 2 by omega), if_neg (show ¬ 9 = 3 by omega), if_true] at hv
      obtain ⟨v', hv', rfl⟩ := Option.map_eq_some_iff.1 hv
      match ts, hlen, hargs with
      | [b], _, hargs =>
        show (if (8 : Int) = 8 then eqV (fitsF P f s2) [b] [v'] else some false) = some true
        rw [if_pos rfl]
        show allV (fitsF P f s2) [b] [v'] = some true
        refine allV_true _ _ fun i a' v2 h1 h2 => ?_
        match i with
        | 0 =>
          simp at h1 h2
          subst h1 h2
          exact fits_val hS f (deep + 1) a v' ha hv' _ _ (hargs 0 _ _ rfl rfl)
        | i + 1 => simp at h1
end Go.Sh
