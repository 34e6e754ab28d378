/- Plain laws of package mark's simulation: when all that is on its way has come, a snapshot that somebody began is complete. -/
import Derived.Test.YtpnhmplinkakbaaMarkLaw
set_option linter.unusedVariables false
namespace Go.Proofs.Ytpnhmplinkakbaa
open Go.RowKit Go.Mem

def Mf (s : Tn) (a b : Nat) : Nat := (chan s.ways a b).length + (if (sd s a).started = true then 0 else 1)
/-- what begins stays begun, and what is on its way becomes no more -/
structure Less (n : Nat) (s s' : Tn) : Prop where
  st : ∀ i, (sd s i).started = true → (sd s' i).started = true
  le : ∀ a b, a < n → b < n → a ≠ b → Mf s' a b ≤ Mf s a b
theorem Less.refl (n : Nat) (s : Tn) : Less n s s := ⟨fun _ h => h, fun _ _ _ _ _ => Nat.le_refl _⟩
theorem Less.trans {n : Nat} {s s' s'' : Tn} (h : Less n s s') (k : Less n s' s'') : Less n s s'' := ⟨fun i hi => k.st i (h.st i hi), fun a b ha hb hab => Nat.le_trans (k.le a b ha hb hab) (h.le a b ha hb hab)⟩
theorem begin_started {n : Nat} {s : Tn} (hl : s.sides.length = n) {b : Nat} (hb : b < n) (i : Nat) : (sd (beginT s b) i).started = if i = b then true else (sd s i).started := by
  unfold beginT
  split
  · rename_i h
    split
    · rename_i e; subst e; exact h
    · rfl
  · rename_i h
    have h' : (sd s b).started = false := by simpa using h
    rw [sd_set rfl (by omega)]
    split
    · simp [beginF, h']
    · rfl
theorem begin_chan {s : Tn} {b : Nat} (c d : Nat) : chan (beginT s b).ways c d = if (sd s b).started = false ∧ c = b ∧ d < s.coins.length ∧ d ≠ b then chan s.ways c d ++ [-1] else chan s.ways c d := by
  unfold beginT
  split
  · rename_i h
    rw [if_neg (by simp [h])]
  · rename_i h
    have h' : (sd s b).started = false := by simpa using h
    show chan (spreadK b s.coins.length s.ways) c d = _
    rw [chan_spread]
    by_cases e : c = b ∧ d < s.coins.length ∧ d ≠ b
    · rw [if_pos e, if_pos ⟨h', e⟩]
    · rw [if_neg e, if_neg (fun x => e x.2)]
theorem begin_less {n : Nat} {sum : Int} {k : Nat} {s : Tn} (h : Inv n sum k s) {b : Nat} (hb : b < n) : Less n s (beginT s b) := by
  refine ⟨fun i hi => ?_, fun c d hc hd hcd => ?_⟩
  · rw [begin_started h.ls hb]
    split
    · rfl
    · exact hi
  · unfold Mf
    rw [begin_chan, begin_started h.ls hb]
    by_cases e : (sd s b).started = false ∧ c = b ∧ d < s.coins.length ∧ d ≠ b
    · rw [if_pos e, if_pos e.2.1]
      obtain ⟨e1, rfl, e2, e3⟩ := e
      simp [e1]
    · rw [if_neg e]
      by_cases e2 : c = b
      · rw [if_pos e2]
        simp
      · rw [if_neg e2]
        exact Nat.le_refl _
theorem come_less {n : Nat} {sum : Int} {k : Nat} {s : Tn} (h : Inv n sum k s) {a b : Nat} (ha : a < n) (hb : b < n) (hab : a ≠ b) :
    Less n s (comeT s a b) ∧ (chan (comeT s a b).ways a b).length = (chan s.ways a b).length - 1 ∧ (sd (comeT s a b) a).started = (sd s a).started := by
  have hbl : b < s.sides.length := by rw [h.ls]; exact hb
  unfold comeT
  split
  · rename_i hc
    exact ⟨Less.refl n s, by rw [hc]; rfl, rfl⟩
  · rename_i m r hc
    have hch : ∀ c d, chan (mput s.ways (a, b) r) c d = if c = a ∧ d = b then r else chan s.ways c d := fun c d => chan_put _ _ _ _ _ _
    split
    · rename_i e
      subst e
      obtain ⟨h1, h2⟩ := inv_marked h ha hb hab hc
      rw [mark_two hbl h2]
      have hst : ∀ i, (sd (markedT s a b r) i).started = (sd s i).started := fun i => by
        unfold markedT
        rw [sd_set rfl hbl]
        split
        · rename_i e; subst e; rfl
        · rfl
      have hl1 : Less n s (markedT s a b r) := ⟨fun i hi => by rw [hst]; exact hi, fun c d hc' hd hcd => by
        unfold Mf
        rw [hst]
        show (chan (mput s.ways (a, b) r) c d).length + _ ≤ _
        rw [hch]
        split
        · rename_i e
          obtain ⟨rfl, rfl⟩ := e
          rw [hc]
          simp
        · exact Nat.le_refl _⟩
      refine ⟨hl1.trans (begin_less h1 hb), ?_, ?_⟩
      · rw [begin_chan, if_neg (fun e => hab e.2.1)]
        show (chan (mput s.ways (a, b) r) a b).length = _
        rw [hch, if_pos ⟨rfl, rfl⟩, hc]
        simp
      · rw [begin_started h1.ls hb, if_neg hab, hst]
    · rename_i e
      obtain ⟨f1, f2, f3, f4, f5⟩ := msg_fields (sd s b) (pos b a) m
      have hst : ∀ i, (sd (coinT s a b m r) i).started = (sd s i).started := fun i => by
        unfold coinT
        rw [sd_set rfl hbl]
        split
        · rename_i e; subst e; exact f3
        · rfl
      refine ⟨⟨fun i hi => by rw [hst]; exact hi, fun c d hc' hd hcd => ?_⟩, ?_, hst a⟩
      · unfold Mf
        rw [hst]
        show (chan (mput s.ways (a, b) r) c d).length + _ ≤ _
        rw [hch]
        split
        · rename_i e
          obtain ⟨rfl, rfl⟩ := e
          rw [hc]
          simp
        · exact Nat.le_refl _
      · show (chan (mput s.ways (a, b) r) a b).length = _
        rw [hch, if_pos ⟨rfl, rfl⟩, hc]
        simp
/-- any deed: what is on its way grows by what is paid -/
theorem do_more {n : Nat} {sum : Int} {k : Nat} {s : Tn} (h : Inv n sum k s) (d : Dd) : (∀ i, (sd s i).started = true → (sd (doF s d) i).started = true) ∧ ∀ a b, a < n → b < n → a ≠ b → Mf (doF s d) a b ≤ Mf s a b + pays d := by
  have same : (∀ i, (sd s i).started = true → (sd s i).started = true) ∧ ∀ a b, a < n → b < n → a ≠ b → Mf s a b ≤ Mf s a b + pays d := ⟨fun _ h => h, fun _ _ _ _ _ => Nat.le_add_right _ _⟩
  have of_less : ∀ s', Less n s s' → (∀ i, (sd s i).started = true → (sd s' i).started = true) ∧ ∀ a b, a < n → b < n → a ≠ b → Mf s' a b ≤ Mf s a b + pays d := fun s' hl => ⟨hl.st, fun a b ha hb hab => Nat.le_trans (hl.le a b ha hb hab) (Nat.le_add_right _ _)⟩
  unfold doF
  rw [h.lc]
  split
  · rename_i hf
    have hf' : d.from_.toNat < n := by omega
    split
    · exact of_less _ (begin_less h hf')
    · split
      · rename_i ht
        have ht' : d.to_.toNat < n := by omega
        have hne : d.from_.toNat ≠ d.to_.toNat := by omega
        split
        · rename_i h1
          unfold payT
          split
          · refine ⟨fun i hi => hi, fun a b ha hb hab => ?_⟩
            show (chan (push s.ways d.from_.toNat d.to_.toNat d.n) a b).length + (if (sd s a).started = true then 0 else 1) ≤ _
            unfold push Mf pays
            rw [chan_put, if_pos h1]
            split
            · rename_i e
              obtain ⟨rfl, rfl⟩ := e
              simp
              omega
            · omega
          · exact same
        · split
          · exact of_less _ (come_less h hf' ht' hne).1
          · exact same
      · exact same
  · exact same
theorem run_more {n : Nat} {sum : Int} : ∀ (l : List Dd) {k : Nat} {s : Tn}, Inv n sum k s → MB n s → k + paysL l < 200 → (∀ i, (sd s i).started = true → (sd (runF s l) i).started = true) ∧ ∀ a b, a < n → b < n → a ≠ b → Mf (runF s l) a b ≤ Mf s a b + paysL l
  | [], k, s, _, _, _ => ⟨fun _ h => h, fun _ _ _ _ _ => Nat.le_add_right _ _⟩
  | d :: r, k, s, h, hm, hk => by
    have e : paysL (d :: r) = pays d + paysL r := by simp [paysL]
    rw [e] at hk ⊢
    obtain ⟨h1, h2⟩ := inv_do h hm (by omega) d
    obtain ⟨g1, g2⟩ := do_more h d
    obtain ⟨r1, r2⟩ := run_more r h1 h2 (by omega)
    exact ⟨fun i hi => r1 i (g1 i hi), fun a b ha hb hab => by have := g2 a b ha hb hab; have := r2 a b ha hb hab; show Mf (runF (doF s d) r) a b ≤ _; omega⟩
def comeD (a b : Nat) : Dd := ⟨2, a, b, 0⟩
def comes (a b : Nat) : List Dd := List.replicate 4 (comeD a b)
def roundL (n : Nat) : List Dd := (List.range n).flatMap fun a => (List.range n).flatMap fun b => if a = b then [] else comes a b
def roundsL (n k : Nat) : List Dd := (List.replicate k (roundL n)).flatten
def drainL (n : Nat) : List Dd := ⟨3, 0, 0, 0⟩ :: roundsL n 4
theorem do_come {n : Nat} {s : Tn} (hl : s.coins.length = n) {a b : Nat} (ha : a < n) (hb : b < n) (hab : a ≠ b) : doF s (comeD a b) = comeT s a b := by
  unfold doF comeD
  rw [if_pos (by simp; omega), if_neg (by simp), if_pos (by simp; omega), if_neg (by simp), if_pos rfl]
  simp
theorem no_pays {l : List Dd} (h : ∀ d ∈ l, d.kind = 2) : paysL l = 0 := by
  induction l with
  | nil => rfl
  | cons d r ih =>
    have : pays d = 0 := by unfold pays; rw [h d (by simp)]; rfl
    simp only [paysL, List.map_cons, List.sum_cons, this] at ih ⊢
    rw [ih fun x hx => h x (List.mem_cons_of_mem _ hx)]
theorem comes_two (a b : Nat) : ∀ d ∈ comes a b, d.kind = 2 := fun d hd => by rw [(List.mem_replicate.1 hd).2]; rfl
theorem round_two (n : Nat) : ∀ d ∈ roundL n, d.kind = 2 := by
  intro d hd
  obtain ⟨a, _, hd⟩ := List.mem_flatMap.1 hd
  obtain ⟨b, _, hd⟩ := List.mem_flatMap.1 hd
  split at hd
  · simp at hd
  · exact comes_two a b d hd
theorem rounds_two (n k : Nat) : ∀ d ∈ roundsL n k, d.kind = 2 := by
  intro d hd
  obtain ⟨l, hl, hd⟩ := List.mem_flatten.1 hd
  rw [(List.mem_replicate.1 hl).2] at hd
  exact round_two n d hd
theorem flatMap_cut {β : Type} (f : Nat → List β) (n a : Nat) (h : a < n) : ∃ l1 l2, (List.range n).flatMap f = l1 ++ f a ++ l2 ∧ (∀ x ∈ l1, x ∈ (List.range n).flatMap f) ∧ ∀ x ∈ l2, x ∈ (List.range n).flatMap f := by
  obtain ⟨r1, r2, e⟩ := List.append_of_mem (List.mem_range.2 h)
  refine ⟨r1.flatMap f, r2.flatMap f, by rw [e]; simp [List.flatMap_append, List.flatMap_cons], fun x hx => ?_, fun x hx => ?_⟩
  · rw [e, List.flatMap_append]
    exact List.mem_append_left _ hx
  · rw [e, List.flatMap_append, List.flatMap_cons]
    exact List.mem_append_right _ (List.mem_append_right _ hx)
theorem round_cut (n a b : Nat) (ha : a < n) (hb : b < n) (hab : a ≠ b) : ∃ l1 l2, roundL n = l1 ++ comes a b ++ l2 ∧ (∀ d ∈ l1, d.kind = 2) ∧ ∀ d ∈ l2, d.kind = 2 := by
  obtain ⟨l1, l2, e1, m1, m2⟩ := flatMap_cut (fun a => (List.range n).flatMap fun b => if a = b then [] else comes a b) n a ha
  obtain ⟨k1, k2, e2, m3, m4⟩ := flatMap_cut (fun b => if a = b then [] else comes a b) n b hb
  have two := round_two n
  have e : roundL n = (l1 ++ k1) ++ comes a b ++ (k2 ++ l2) := by
    unfold roundL
    rw [e1]
    rw [e2, if_neg hab]
    simp
  rw [e] at two
  exact ⟨l1 ++ k1, k2 ++ l2, e, fun d hd => two d (by simp only [List.mem_append] at hd ⊢; exact .inl (.inl hd)), fun d hd => two d (by simp only [List.mem_append] at hd ⊢; exact .inr hd)⟩
theorem run_app (s : Tn) (l k : List Dd) : runF s (l ++ k) = runF (runF s l) k := by simp [runF, List.foldl_append]
theorem pays_app (l k : List Dd) : paysL (l ++ k) = paysL l + paysL k := by simp [paysL]
theorem run_comes {n : Nat} {sum : Int} {a b : Nat} (ha : a < n) (hb : b < n) (hab : a ≠ b) : ∀ (j : Nat) {k : Nat} {s : Tn}, Inv n sum k s → MB n s → k < 200 →
    (chan (runF s (List.replicate j (comeD a b))).ways a b).length = (chan s.ways a b).length - j ∧ (sd (runF s (List.replicate j (comeD a b))) a).started = (sd s a).started
  | 0, k, s, _, _, _ => ⟨rfl, rfl⟩
  | j + 1, k, s, h, hm, hk => by
    obtain ⟨h1, h2⟩ := inv_do h hm hk (comeD a b)
    have e : pays (comeD a b) = 0 := rfl
    rw [e] at h1
    obtain ⟨_, c1, c2⟩ := come_less h ha hb hab
    rw [← do_come h.lc ha hb hab] at c1 c2
    obtain ⟨r1, r2⟩ := run_comes ha hb hab j h1 h2 hk
    rw [List.replicate_succ]
    show (chan (runF (doF s (comeD a b)) _).ways a b).length = _ ∧ (sd (runF (doF s (comeD a b)) _) a).started = _
    rw [r1, r2, c1, c2]
    exact ⟨by omega, rfl⟩
theorem round_less {n : Nat} {sum : Int} {k : Nat} {s : Tn} (h : Inv n sum k s) (hm : MB n s) (hk : k < 200) {a b : Nat} (ha : a < n) (hb : b < n) (hab : a ≠ b) :
    Mf (runF s (roundL n)) a b ≤ max (Mf s a b - 4) 1 ∧ ((sd s a).started = true → Mf (runF s (roundL n)) a b ≤ Mf s a b - 4) := by
  obtain ⟨l1, l2, e, m1, m2⟩ := round_cut n a b ha hb hab
  have p1 := no_pays m1
  have p2 := no_pays m2
  have p3 := no_pays (comes_two a b)
  obtain ⟨i1, b1⟩ := inv_run l1 h hm (by omega)
  obtain ⟨g1, g2⟩ := run_more l1 h hm (by omega)
  rw [p1] at i1 g2
  obtain ⟨i2, b2⟩ := inv_run (comes a b) i1 b1 (by omega)
  rw [p3] at i2
  obtain ⟨c1, c2⟩ := run_comes ha hb hab 4 i1 b1 (by omega)
  obtain ⟨f1, f2⟩ := run_more l2 i2 b2 (by omega)
  rw [p2] at f2
  have g3 := g2 a b ha hb hab
  have f3 := f2 a b ha hb hab
  have e1 : runF s (roundL n) = runF (runF (runF s l1) (comes a b)) l2 := by rw [e, run_app, run_app]
  rw [e1]
  have hM : Mf (runF (runF s l1) (comes a b)) a b = (chan (runF s l1).ways a b).length - 4 + (if (sd (runF s l1) a).started = true then 0 else 1) := by
    show (chan (runF (runF s l1) (List.replicate 4 (comeD a b))).ways a b).length + (if (sd (runF (runF s l1) (List.replicate 4 (comeD a b))) a).started = true then 0 else 1) = _
    rw [c1, c2]
  have hM1 : Mf (runF s l1) a b = (chan (runF s l1).ways a b).length + (if (sd (runF s l1) a).started = true then 0 else 1) := rfl
  refine ⟨?_, fun hs => ?_⟩
  · split at hM
    · rename_i e2
      rw [if_pos e2] at hM1
      omega
    · rename_i e2
      rw [if_neg e2] at hM1
      omega
  · have := g1 a hs
    rw [if_pos this] at hM hM1
    omega
theorem rounds_succ' (n k : Nat) : roundsL n (k + 1) = roundL n ++ roundsL n k := by simp [roundsL, List.replicate_succ]
theorem rounds_less {n : Nat} {sum : Int} {a b : Nat} (ha : a < n) (hb : b < n) (hab : a ≠ b) : ∀ (j : Nat) {k : Nat} {s : Tn}, Inv n sum k s → MB n s → k < 200 →
    Mf (runF s (roundsL n j)) a b ≤ max (Mf s a b - 4 * j) 1 ∧ ((sd s a).started = true → Mf (runF s (roundsL n j)) a b ≤ Mf s a b - 4 * j)
  | 0, k, s, _, _, _ => ⟨by show Mf s a b ≤ _; omega, fun _ => by show Mf s a b ≤ _; omega⟩
  | j + 1, k, s, h, hm, hk => by
    have p := no_pays (round_two n)
    obtain ⟨i1, b1⟩ := inv_run (roundL n) h hm (by omega)
    rw [p] at i1
    obtain ⟨r1, r2⟩ := round_less h hm hk ha hb hab
    obtain ⟨g1, g2⟩ := rounds_less ha hb hab j i1 b1 hk
    rw [rounds_succ', run_app]
    obtain ⟨s1, _⟩ := run_more (roundL n) h hm (by omega)
    exact ⟨by omega, fun hs => by have := r2 hs; have := g2 (s1 a hs); omega⟩
theorem wsum_zero {n : Nat} {sum : Int} {k : Nat} {s : Tn} (h : Inv n sum k s) (h0 : ∀ a b, a < n → b < n → a ≠ b → chan s.ways a b = []) : wsum (fun _ c => posum c) s.ways = 0 := by
  have : wsum (fun _ c => posum c) s.ways = wsum (fun _ _ => 0) s.ways := by
    refine wsum_congr fun p hp => ?_
    obtain ⟨k1, k2, k3⟩ := h.ky p hp
    have h1 := h0 _ _ k1 k2 k3
    have hg := mget_at h.nd (a := p.1) (v := p.2) hp
    unfold chan at h1
    rw [show ((p.1.1, p.1.2) : Nat × Nat) = p.1 from rfl, hg] at h1
    simp only [Option.getD_some] at h1
    simp [h1, posum]
  rw [this]
  unfold wsum
  induction s.ways with
  | nil => rfl
  | cons p r ih => rw [List.map_cons, List.sum_cons, ih]; rfl
theorem drained {n : Nat} {sum : Int} {k : Nat} {s : Tn} (h : Inv n sum k s) (hm : MB n s) (hk : k < 200) (hn : 0 < n) (h11 : ∀ a b, a < n → b < n → a ≠ b → Mf s a b ≤ 11) :
    allDone (runF s (drainL n)) = true ∧ wsum (fun _ c => posum c) (runF s (drainL n)).ways = 0 := by
  have e0 : doF s ⟨3, 0, 0, 0⟩ = beginT s 0 := by
    unfold doF
    rw [if_pos (by have := h.lc; simp; omega), if_pos rfl]
    rfl
  have i0 := inv_begin h hn
  have b0 := mb_begin h hm hn
  have l0 := begin_less h hn
  have s0 : (sd (beginT s 0) 0).started = true := by rw [begin_started h.ls hn, if_pos rfl]
  have e1 : runF s (drainL n) = runF (runF (beginT s 0) (roundsL n 3)) (roundL n) := by
    show runF (doF s ⟨3, 0, 0, 0⟩) (roundsL n 4) = _
    rw [e0]
    rw [show roundsL n 4 = roundsL n 3 ++ roundL n by simp [roundsL, List.replicate_succ], run_app]
  have p3 := no_pays (rounds_two n 3)
  obtain ⟨i3, b3⟩ := inv_run (roundsL n 3) i0 b0 (by omega)
  rw [p3] at i3
  have p := no_pays (round_two n)
  obtain ⟨i4, b4⟩ := inv_run (roundL n) i3 b3 (by omega)
  rw [p] at i4
  obtain ⟨st3, _⟩ := run_more (roundsL n 3) i0 b0 (by omega)
  obtain ⟨st4, _⟩ := run_more (roundL n) i3 b3 (by omega)
  rw [e1]
  generalize hS3 : runF (beginT s 0) (roundsL n 3) = S3 at i3 b3 i4 b4 st3 st4 ⊢
  have hst3 : ∀ i, i < n → (sd S3 i).started = true := by
    intro i hi
    by_cases h0 : i = 0
    · subst h0
      exact st3 0 s0
    · have hM := (rounds_less hn hi (fun e => h0 e.symm) 3 i0 b0 (by omega)).2 s0
      have := l0.le 0 i hn hi (fun e => h0 e.symm)
      have := h11 0 i hn hi (fun e => h0 e.symm)
      rw [hS3] at hM
      have h2 : Mf S3 0 i = 0 := by omega
      unfold Mf at h2
      have hc : (chan S3.ways 0 i).count (-1) = 0 := by
        have : chan S3.ways 0 i = [] := List.eq_nil_of_length_eq_zero (by omega)
        rw [this]; rfl
      rw [i3.cnt 0 i hn hi (fun e => h0 e.symm)] at hc
      have hmk : mkd S3 0 i = true := by
        cases hx : mkd S3 0 i with
        | true => rfl
        | false => rw [if_pos ⟨st3 0 s0, hx⟩] at hc; cases hc
      exact b3 0 i hn hi (fun e => h0 e.symm) hmk
  have hM4 : ∀ a b, a < n → b < n → a ≠ b → chan (runF S3 (roundL n)).ways a b = [] := by
    intro a b ha hb hab
    have h1 := (rounds_less ha hb hab 3 i0 b0 (by omega)).1
    rw [hS3] at h1
    have := l0.le a b ha hb hab
    have := h11 a b ha hb hab
    have h2 := (round_less i3 b3 (by omega) ha hb hab).2 (hst3 a ha)
    unfold Mf at h2
    exact List.eq_nil_of_length_eq_zero (by unfold Mf at *; omega)
  refine ⟨?_, wsum_zero i4 hM4⟩
  unfold allDone
  rw [List.all_eq_true]
  intro x hx
  obtain ⟨i, hi, rfl⟩ := List.mem_iff_getElem.1 hx
  have hin : i < n := by have := i4.ls; omega
  have ex : (runF S3 (roundL n)).sides[i] = sd (runF S3 (roundL n)) i := by simp [sd, List.getD_eq_getElem?_getD, hi]
  rw [ex]
  have h1 := st4 i (hst3 i hin)
  unfold doneB
  rw [h1]
  simp only [Bool.true_and, Bool.not_eq_true']
  cases hcc : (sd (runF S3 (roundL n)) i).marked.contains false with
  | false => rfl
  | true =>
    rw [List.contains_iff_mem] at hcc
    obtain ⟨j, hj, e⟩ := List.mem_iff_getElem.1 hcc
    have hjl := hj
    rw [(i4.shp i hin).lm] at hjl
    obtain ⟨a, ha, hai, hp⟩ : ∃ a, a < n ∧ a ≠ i ∧ pos i a = j := by
      by_cases hji : j < i
      · exact ⟨j, by omega, by omega, by unfold pos; rw [if_pos hji]⟩
      · exact ⟨j + 1, by omega, by omega, by unfold pos; rw [if_neg (by omega)]; omega⟩
    have hmk := i4.cnt a i ha hin hai
    rw [hM4 a i ha hin hai] at hmk
    have h3 := mkd_at i4 ha hin hai
    rw [hp, List.getElem?_eq_getElem hj, e] at h3
    injection h3 with h3
    rw [if_pos ⟨st4 a (hst3 a ha), h3.symm⟩] at hmk
    simp at hmk
end Go.Proofs.Ytpnhmplinkakbaa
