/- ShapeDeep's plain law: a value in which a node is a reference is of its type no more. No program in sight. -/
import Derived.Test.YtoddjdajjmcliaaShFirLaw
set_option linter.unusedVariables false
namespace Go.Sh
open Go.Val Go.Mem Go.Proofs.Ytoddjdajjmcliaa
theorem spoils_len (g : V → Int → V × Int) : ∀ (vs : List V) (k : Int), (spoilsF g vs k).1.length = vs.length
  | [], _ => rfl
  | v :: vs, k => by simp only [spoilsF, List.length_cons, spoils_len g vs]
theorem spoils_at (g : V → Int → V × Int) : ∀ (vs : List V) (k : Int) (i : Nat) (v x : V), vs[i]? = some v → (spoilsF g vs k).1[i]? = some x → ∃ k', x = (g v k').1
  | [], _, i, v, x, h, _ => by simp at h
  | v :: vs, k, 0, v', x, h, h2 => by
    simp [spoilsF] at h h2
    subst h
    exact ⟨k, h2.symm⟩
  | v :: vs, k, i + 1, v', x, h, h2 => by
    simp [spoilsF] at h h2
    exact spoils_at g vs _ i v' x h h2
theorem spoils_snoc (g : V → Int → V × Int) : ∀ (vs : List V) (v : V) (k : Int), spoilsF g (vs ++ [v]) k = ((spoilsF g vs k).1 ++ [(g v (spoilsF g vs k).2).1], (g v (spoilsF g vs k).2).2)
  | [], v, k => rfl
  | u :: vs, v, k => by simp only [List.cons_append, spoilsF, spoils_snoc g vs v]
theorem spoils_bd {g : V → Int → V × Int} : ∀ (vs : List V) (k : Int), (∀ v k, 0 ≤ k → k ≤ 1000 → 0 ≤ (g v k).2 ∧ (g v k).2 ≤ 1000) → 0 ≤ k → k ≤ 1000 → 0 ≤ (spoilsF g vs k).2 ∧ (spoilsF g vs k).2 ≤ 1000
  | [], k, _, h0, h1 => ⟨h0, h1⟩
  | v :: vs, k, h, h0, h1 => by
    have := h v k h0 h1
    exact spoils_bd vs _ h this.1 this.2
theorem spoil_bd : ∀ (d : Nat) (v : V) (k : Int), 0 ≤ k → k ≤ 1000 → 0 ≤ (spoilF d v k).2 ∧ (spoilF d v k).2 ≤ 1000
  | 0, v, k, h0, h1 => ⟨h0, h1⟩
  | d + 1, .mk a n t us, k, h0, h1 => by
    unfold spoilF
    split
    · exact ⟨by omega, by omega⟩
    · exact spoils_bd us (k - 1) (fun v k => spoil_bd d v k) (by omega) (by omega)
theorem allV_spoil {f : Ty → V → Option Bool} : ∀ (ts : List Ty) (vs ws : List V), ws.length = vs.length → ts.length = vs.length → (∀ (i : Nat) (t : Ty) (v x : V), ts[i]? = some t → vs[i]? = some v → ws[i]? = some x → f t v = some true ∧ (x = v ∨ (x ≠ v ∧ f t x = some false))) → ws = vs ∨ (ws ≠ vs ∧ allV f ts ws = some false)
  | [], [], [], _, _, _ => .inl rfl
  | [], v :: vs, _, _, h, _ => by simp at h
  | [], [], w :: ws, h, _, _ => by simp at h
  | t :: ts, [], _, _, h, _ => by simp at h
  | t :: ts, v :: vs, [], h, _, _ => by simp at h
  | t :: ts, v :: vs, x :: ws, h1, h2, h => by
    obtain ⟨a1, a2⟩ := h 0 t v x rfl rfl rfl
    rcases a2 with rfl | ⟨hne, hf⟩
    · rcases allV_spoil ts vs ws (by simpa using h1) (by simpa using h2) (fun i t v x e1 e2 e3 => h (i + 1) t v x e1 e2 e3) with rfl | ⟨n1, n2⟩
      · exact .inl rfl
      · refine .inr ⟨fun e => n1 (by injection e), ?_⟩
        unfold allV
        rw [a1]
        exact n2
    · refine .inr ⟨fun e => hne (by injection e), ?_⟩
      unfold allV
      rw [hf]
theorem deep_val {P : List Dt} {l : List Int} {S : Ty → Prop} (hS : ∀ k n us, S (.mk k n us) → GoodTy P S k n us) : ∀ (f deep : Nat) (u : Ty) (v : V), S u → Sh.valF P l f deep u = some v → ∀ (s : Sc) (t : Ty) (q : Int), Mean s t u → (spoilF f v q).1 = v ∨ ((spoilF f v q).1 ≠ v ∧ fitsF P f s t (spoilF f v q).1 = some false)
  | 0, _, _, _, _, h, _, _, _, _ => by cases h
  | f + 1, deep, u, v, hu, hv, s, t, q, hm => by
    obtain ⟨k, n, ts, us, s2, rfl, hk5, hres, hlen, hargs⟩ := hm.res
    have G := hS k n us hu
    rw [valF_eq] at hv
    obtain ⟨vk, vn, vt, va⟩ := v
    have hsp : spoilF (f + 1) (.mk vk vn vt va) q = if q - 1 < 0 then (.mk 6 1 ⟨#[]⟩ [], 1000) else (.mk vk vn vt (spoilsF (spoilF f) va (q - 1)).1, (spoilsF (spoilF f) va (q - 1)).2) := rfl
    have hk6 : vk ≠ 6 := by
      rcases G.kinds with rfl | rfl | rfl | rfl | rfl | rfl
      · injection hv with hv; cases hv; decide
      · injection hv with hv; cases hv; decide
      · injection hv with hv; cases hv; decide
      · injection hv with hv; cases hv; decide
      · obtain ⟨D, hD, hpl, hmk⟩ := G.data rfl
        simp only [hD] at hv
        simp only [if_neg (show ¬ 6 = 1 by omega), if_neg (show ¬ 6 = 2 by omega), if_neg (show ¬ 6 = 3 by omega), if_neg (show ¬ 6 = 9 by omega), if_true] at hv
        split at hv
        · split at hv
          · cases hv
          · obtain ⟨vs, hvs, hve⟩ := Option.map_eq_some_iff.1 hv
            cases hve
            decide
        · cases hv
      · obtain ⟨a, rfl, ha⟩ := G.cell rfl
        simp only [if_neg (show ¬ 9 = 1 by omega), if_neg (show ¬ 9 = 2 by omega), if_neg (show ¬ 9 = 3 by omega), if_true] at hv
        obtain ⟨v', hv', hve⟩ := Option.map_eq_some_iff.1 hv
        cases hve
        decide
    by_cases hq : q - 1 < 0
    · rw [if_pos hq] at hsp
      rw [hsp]
      refine .inr ⟨fun e => hk6 (by injection e with e; exact e.symm), ?_⟩
      rw [fitsF_eq hres]
      rcases G.kinds with rfl | rfl | rfl | rfl | rfl | rfl
      · rfl
      · rfl
      · rfl
      · rfl
      · obtain ⟨D, hD, hpl, hmk⟩ := G.data rfl
        rw [hD]
        show (if D.params.length = ts.length then some false else none) = some false
        rw [if_pos (by omega)]
      · rfl
    · rw [if_neg hq] at hsp
      rw [hsp]
      rcases G.kinds with rfl | rfl | rfl | rfl | rfl | rfl
      · injection hv with hv; cases hv; exact .inl rfl
      · injection hv with hv; cases hv; exact .inl rfl
      · injection hv with hv; cases hv; exact .inl rfl
      · injection hv with hv; cases hv; exact .inl rfl
      · obtain ⟨D, hD, hpl, hmk⟩ := G.data rfl
        simp only [hD] at hv
        simp only [if_neg (show ¬ 6 = 1 by omega), if_neg (show ¬ 6 = 2 by omega), if_neg (show ¬ 6 = 3 by omega), if_neg (show ¬ 6 = 9 by omega), if_true] at hv
        by_cases hpos : 0 < D.makes.length
        · rw [if_pos hpos] at hv
          cases hp : pickF D (numAt l deep) deep with
          | none => rw [hp] at hv; cases hv
          | some m =>
            rw [hp] at hv
            obtain ⟨vs, hvs, hve⟩ := Option.map_eq_some_iff.1 hv
            cases hve
            obtain ⟨hfind, hall⟩ := hmk m (pick_mem hp)
            obtain ⟨hl, hat⟩ := manyO_at hvs
            have key := allV_spoil (f := fitsF P f (.mk D.params ts s2)) m.args va (spoilsF (spoilF f) va (q - 1)).1 (spoils_len _ _ _) hl.symm (fun i a v' x h1 h2 h3 => by
              have h4 := hat i a v' h1 h2
              obtain ⟨u', h5, h6⟩ := Option.bind_eq_some_iff.1 h4
              obtain ⟨h7, h8⟩ := hall a (List.mem_of_getElem? h1) u' h5
              obtain ⟨k', rfl⟩ := spoils_at _ _ _ i v' x h2 h3
              exact ⟨fits_val hS f (deep + 1) u' v' h7 h6 _ _ (h8 ts s2 hlen hargs), deep_val hS f (deep + 1) u' v' h7 h6 _ _ k' (h8 ts s2 hlen hargs)⟩)
            rcases key with key | ⟨k1, k2⟩
            · exact .inl (by show V.mk 5 0 (txt m.name) _ = _; rw [key])
            · refine .inr ⟨fun e => k1 (by injection e), ?_⟩
              rw [fitsF_eq hres, hD]
              show (if D.params.length = ts.length then (match D.makes.find? (fun x => decide (txt x.name = txt m.name)) with
                | none => some false
                | some m' => eqV (fitsF P f (.mk D.params ts s2)) m'.args (spoilsF (spoilF f) va (q - 1)).1) else none) = some false
              rw [if_pos (by omega), hfind]
              show eqV (fitsF P f (.mk D.params ts s2)) m.args (spoilsF (spoilF f) va (q - 1)).1 = some false
              unfold eqV
              rw [if_pos (by rw [spoils_len]; exact hl.symm)]
              exact k2
        · rw [if_neg hpos] at hv
          cases hv
      · obtain ⟨a, rfl, ha⟩ := G.cell rfl
        simp only [if_neg (show ¬ 9 = 1 by omega), if_neg (show ¬ 9 = 2 by omega), if_neg (show ¬ 9 = 3 by omega), if_true] at hv
        obtain ⟨v', hv', hve⟩ := Option.map_eq_some_iff.1 hv
        cases hve
        match ts, hlen, hargs with
        | [b], _, hargs =>
          have h1 := fits_val hS f (deep + 1) a v' ha hv' _ _ (hargs 0 _ _ rfl rfl)
          rcases deep_val hS f (deep + 1) a v' ha hv' _ _ (q - 1) (hargs 0 _ _ rfl rfl) with h | ⟨h2, h3⟩
          · exact .inl (by show V.mk 8 0 ⟨#[]⟩ [(spoilF f v' (q - 1)).1] = _; rw [h])
          · refine .inr ⟨fun e => h2 (by injection e with _ _ _ e; injection e), ?_⟩
            rw [fitsF_eq hres]
            show eqV (fitsF P f s2) [b] [(spoilF f v' (q - 1)).1] = some false
            show allV (fitsF P f s2) [b] [(spoilF f v' (q - 1)).1] = some false
            unfold allV
            rw [h3]
/-- a value that numbers say fits; spoiled it fits just if it is what it was -/
theorem deep_law {P : List Dt} (hP : P ∈ progs) {t : Ty} (ht : t ∈ typesF) (l : List Int) (q : Int) : ∃ v, Sh.valF P l 10 0 t = some v ∧ fitsF P 10 .nil t v = some true ∧ ∃ b, fitsF P 10 .nil t (spoilF 10 v q).1 = some b ∧ (b = true ↔ v = (spoilF 10 v q).1) := by
  have pc : ∃ y bad, (1 ≤ y ∧ y ≤ 2) ∧ P = pd y bad := by
    have h := hP
    simp only [progs, List.mem_cons, List.not_mem_nil, or_false] at h
    rcases h with rfl | rfl | rfl | rfl
    · exact ⟨1, true, by omega, rfl⟩
    · exact ⟨1, false, by omega, rfl⟩
    · exact ⟨2, true, by omega, rfl⟩
    · exact ⟨2, false, by omega, rfl⟩
  obtain ⟨y, bad, hy, rfl⟩ := pc
  obtain ⟨v, hv, hf⟩ := val_fits hy bad l ht
  refine ⟨v, hv, hf, ?_⟩
  rcases deep_val (S := (· ∈ clS)) (good_cl y hy bad) 10 0 t v (typesF_cl ht) hv .nil t q (mean_cl .nil (typesF_cl ht)) with h | ⟨h1, h2⟩
  · rw [h]
    exact ⟨true, hf, by simp⟩
  · exact ⟨false, h2, by simp; exact fun e => h1 e.symm⟩
end Go.Sh
