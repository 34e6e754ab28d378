/- One element comes, in package move's simulation: what is still to come costs less. No program in sight. -/
import Derived.Test.YtckkelppdeampaaMvPot
set_option linter.unusedVariables false
namespace Go.Mv
open Go.Mem
structure Dr (s : Hb) (W t : Nat) (S : Nat → Nat → List Nat) (R : Nat → List Nat) (B : Nat → Bool) : Prop where
  core : Core s W t S
  tr : TrS s W R
  wt : Wt s
  n3 : s.nodes ≤ 3
  gd : ∀ a b x, x ∈ chan s.ways a b → x.kind = 0 → s.at_.getD x.who 0 = 0 → B x.who = false → (R x.who).length ≤ (s.bel ((R x.who).headD 0) x.who).2 + 2
def gS (s : Hb) (R : Nat → List Nat) (B : Nat → Bool) (q : Nat → Nat → Nat) (a b : Nat) : Nat → Nat := gv s.nodes s.at_ R B q a b
def tF (s : Hb) (R : Nat → List Nat) (B : Nat → Bool) (q : Nat → Nat → Nat) : Nat × Nat → List El → Nat := fun k l => pot (gS s R B q k.1 k.2) (zv B) l no
def T (s : Hb) (R : Nat → List Nat) (B : Nat → Bool) (q : Nat → Nat → Nat) : Nat := tsum (tF s R B q) s.ways
def AllH (s : Hb) (R : Nat → List Nat) (B : Nat → Bool) (q : Nat → Nat → Nat) (N : Nat → Nat → Nat) : Prop := ∀ a b, allp (gS s R B q a b) (zv B) (N a b) (chan s.ways a b) no
def els (s : Hb) : Nat := tsum (fun _ l => l.length) s.ways
structure Res (s s' : Hb) (W t : Nat) (S : Nat → Nat → List Nat) (R : Nat → List Nat) (B : Nat → Bool) (q : Nat → Nat → Nat) (a b : Nat) (r : List El) : Prop where
  dr : Dr s' W t S R B
  ch : chan s'.ways a b = r
  le : T s' R B q ≤ T s R B q
  lt : (∀ w, B w = false) → T s' R B q + 1 ≤ T s R B q
  al : (∀ w, B w = false) → ∀ (N : Nat → Nat → Nat) (M : Nat), (∀ a b, M ≤ N a b ∧ N a b ≤ M + 2) → AllH s R B q N → AllH s' R B q N
  at_ : ∀ w, s.at_.getD w 0 ≠ 0 → s'.at_.getD w 0 ≠ 0
  nodes : s'.nodes = s.nodes
  grow : ∀ c d, ¬ (c = a ∧ d = b) → ∃ l, chan s'.ways c d = chan s.ways c d ++ l
  cn : (s'.at_ = s.at_ ∧ els s' ≤ els s + 1) ∨ ∃ w v, s'.at_ = s.at_.set w v ∧ w < W ∧ s.at_.getD w 0 = 0 ∧ 1 ≤ v ∧ els s' + 1 ≤ els s
theorem tF_nil (s : Hb) (R : Nat → List Nat) (B : Nat → Bool) (q : Nat → Nat → Nat) : ∀ k, tF s R B q k [] = 0 := fun _ => rfl
theorem nxt_no {x : El} (h : x.kind ≠ 1) (sn : Nat → Bool) : nxt sn x = sn := by unfold nxt; rw [if_neg h]
section
variable {s : Hb} {W t : Nat} {S : Nat → Nat → List Nat} {R : Nat → List Nat} {B : Nat → Bool} {q : Nat → Nat → Nat}
def pop (s : Hb) (a b : Nat) (r : List El) : Hb := { s with ways := mput s.ways (a, b) r }
theorem pop_chan (s : Hb) (a b : Nat) (r : List El) (c d : Nat) : chan (pop s a b r).ways c d = if c = a ∧ d = b then r else chan s.ways c d := chan_put _ _ _ _ _ _
theorem push_chan (s : Hb) (a b : Nat) (x : El) (c d : Nat) : chan (push s a b x).ways c d = if c = a ∧ d = b then chan s.ways a b ++ [x] else chan s.ways c d := chan_put _ _ _ _ _ _
theorem els_pop (h : (s.ways.map (·.1)).Nodup) {a b : Nat} {x : El} {r : List El} (e : chan s.ways a b = x :: r) : els (pop s a b r) + 1 = els s := by
  have := tsum_put (fun _ l => l.length) (fun _ => rfl) s.ways a b r h
  rw [e] at this
  simp only [List.length_cons] at this
  unfold els
  show tsum (fun _ l => l.length) (mput s.ways (a, b) r) + 1 = _
  omega
theorem els_push (h : (s.ways.map (·.1)).Nodup) (a b : Nat) (x : El) : els (push s a b x) = els s + 1 := by
  have := tsum_put (fun _ l => l.length) (fun _ => rfl) s.ways a b (chan s.ways a b ++ [x]) h
  simp only [List.length_append, List.length_singleton] at this
  unfold els
  show tsum (fun _ l => l.length) (mput s.ways (a, b) (chan s.ways a b ++ [x])) = _
  omega
theorem Still.els {s s' : Hb} (h : Still s s') : els s' = els s := by unfold Mv.els; rw [h.ways]
/-- an element that is no actor leaves its channel -/
theorem Dr.pop (h : Dr s W t S R B) {a b : Nat} {x : El} {r : List El} (e : chan s.ways a b = x :: r) (hx : x.kind ≠ 1) (ha : 1 ≤ a ∧ a ≤ s.nodes) (hb : 1 ≤ b ∧ b ≤ s.nodes) : Dr (pop s a b r) W t S R B where
  core := h.core.setWay ha hb fun y hy => h.core.chan a b y (by rw [e]; simp [hy])
  tr := h.tr.setWay a b r ((e ▸ h.tr.ch a b : ChOk s.at_ R W a b (x :: r)).tail hx)
  wt := h.wt
  n3 := h.n3
  gd := fun c d y hy k => by
    rw [pop_chan] at hy
    split at hy
    · exact h.gd a b y (by rw [e]; simp [hy]) k
    · exact h.gd c d y hy k
theorem T_pop (h : Dr s W t S R B) {a b : Nat} {x : El} {r : List El} (e : chan s.ways a b = x :: r) (hx : x.kind ≠ 1) : T (pop s a b r) R B q + val (gS s R B q a b) (zv B) no x = T s R B q := by
  have := tsum_put (tF s R B q) (tF_nil s R B q) s.ways a b r h.core.wk
  rw [e] at this
  have e1 : tF s R B q (a, b) (x :: r) = val (gS s R B q a b) (zv B) no x + tF s R B q (a, b) r := by
    unfold tF
    rw [pot, nxt_no hx]
  rw [e1] at this
  unfold T
  show tsum (tF s R B q) (mput s.ways (a, b) r) + _ = _
  omega
theorem AllH_pop {a b : Nat} {x : El} {r : List El} (e : chan s.ways a b = x :: r) (hx : x.kind ≠ 1) {N : Nat → Nat → Nat} (h : AllH s R B q N) : AllH (pop s a b r) R B q N ∧ val (gS s R B q a b) (zv B) no x + 1 ≤ N a b := by
  have h1 := h a b
  rw [e] at h1
  obtain ⟨h2, h3⟩ := h1
  rw [nxt_no hx] at h3
  refine ⟨fun c d => ?_, h2⟩
  rw [pop_chan]
  split
  · rename_i hc
    rw [hc.1, hc.2]
    exact h3
  · exact h c d
/-- an element that is no actor enters a channel -/
theorem Dr.push (h : Dr s W t S R B) {a b : Nat} {x : El} (hx : x.kind ≠ 1) (hab : a ≠ b) (ha : 1 ≤ a ∧ a ≤ s.nodes) (hb : 1 ≤ b ∧ b ≤ s.nodes) (hok : ElOk s.nodes W t S x) (h1 : x.kind ≠ 0 → pos (R x.who) x.bm x.bn) (h2 : x.kind = 0 → b ∈ R x.who)
    (h3 : x.kind = 0 → s.at_.getD x.who 0 = 0 → B x.who = false → (R x.who).length ≤ (s.bel ((R x.who).headD 0) x.who).2 + 2) : Dr (push s a b x) W t S R B where
  core := h.core.push ha hb hok
  tr := h.tr.setWay a b _ ((h.tr.ch a b).add hx hab h1 h2)
  wt := h.wt
  n3 := h.n3
  gd := fun c d y hy k => by
    rw [push_chan] at hy
    split at hy
    · rcases List.mem_append.1 hy with hy | hy
      · exact h.gd a b y hy k
      · rw [List.mem_singleton] at hy
        subst hy
        exact h3 k
    · exact h.gd c d y hy k
theorem T_push (h : Dr s W t S R B) (a b : Nat) (x : El) : T (push s a b x) R B q = T s R B q + val (gS s R B q a b) (zv B) (nxts no (chan s.ways a b)) x := by
  have := tsum_put (tF s R B q) (tF_nil s R B q) s.ways a b (chan s.ways a b ++ [x]) h.core.wk
  have e1 : tF s R B q (a, b) (chan s.ways a b ++ [x]) = tF s R B q (a, b) (chan s.ways a b) + val (gS s R B q a b) (zv B) (nxts no (chan s.ways a b)) x := by
    unfold tF
    rw [pot_app]
  rw [e1] at this
  unfold T
  show tsum (tF s R B q) (mput s.ways (a, b) (chan s.ways a b ++ [x])) = _
  omega
theorem AllH_push {a b : Nat} {x : El} {N : Nat → Nat → Nat} (h : AllH s R B q N) (hv : val (gS s R B q a b) (zv B) (nxts no (chan s.ways a b)) x + 1 ≤ N a b) : AllH (push s a b x) R B q N := by
  intro c d
  rw [push_chan]
  split
  · rename_i hc
    rw [hc.1, hc.2]
    exact allp_app _ _ _ _ _ _ (h a b) hv
  · exact h c d
theorem Still.T {s s' : Hb} (h : Still s s') : T s' R B q = T s R B q := by unfold Mv.T tF gS; rw [h.ways, h.at_, h.nodes]
theorem Still.AllH {s s' : Hb} (h : Still s s') {N : Nat → Nat → Nat} (k : AllH s R B q N) : AllH s' R B q N := by unfold Mv.AllH gS; rw [h.ways, h.at_, h.nodes]; exact k
theorem Still.dr {s s' : Hb} (h : Still s s') (ktr : TrS s W R) (kn3 : s.nodes ≤ 3) (kgd : ∀ a b x, x ∈ chan s.ways a b → x.kind = 0 → s.at_.getD x.who 0 = 0 → B x.who = false → (R x.who).length ≤ (s.bel ((R x.who).headD 0) x.who).2 + 2)
    (hc : Core s' W t S) (hw : ∀ a z, z ∈ s'.wait.getD a [] → (1 ≤ a ∧ a ≤ s.nodes) ∧ s.at_.getD z.who 0 = 0 ∧ (s.bel a z.who).1 = a) : Dr s' W t S R B where
  core := hc
  tr := by unfold TrS; rw [h.nodes, h.bel, h.at_, h.ways]; exact ktr
  wt := fun a z hz => by rw [h.at_, h.bel, h.nodes]; exact hw a z hz
  n3 := by rw [h.nodes]; exact kn3
  gd := by rw [h.ways, h.at_, h.bel]; exact kgd
theorem note_kind (w : Nat) (b : Nat × Nat) : (note w b).kind = 2 := rfl
theorem val_one {g z : Nat → Nat} {sn : Nat → Bool} {x : El} (h0 : x.kind ≠ 0) (h1 : x.kind ≠ 1) : val g z sn x = 1 := by unfold val; rw [if_neg h0, if_neg h1]
theorem val_let {g z : Nat → Nat} {sn : Nat → Bool} {x : El} (h0 : x.kind = 0) : val g z sn x = if sn x.who then 1 else g x.who := by unfold val; rw [if_pos h0]; rfl
theorem val_pos {g z : Nat → Nat} {sn : Nat → Bool} {x : El} (hg : ∀ w, 1 ≤ g w) (h1 : x.kind ≠ 1) : 1 ≤ val g z sn x := by
  unfold val vL
  split
  · split
    · omega
    · exact hg _
  · first | exact Nat.le_refl _ | (rw [if_neg h1]; exact Nat.le_refl _)
/-- a letter comes -/
theorem come_letter (h : Dr s W t S R B) {a b : Nat} {x : El} {r : List El} (e : chan s.ways a b = x :: r) (hk : x.kind = 0) (ha : 1 ≤ a ∧ a ≤ s.nodes) (hb : 1 ≤ b ∧ b ≤ s.nodes) (hab : a ≠ b)
    (hq : ∀ w, B w = true → ∀ c, 1 ≤ c → c ≤ s.nodes → c ≠ b → q b c + 1 ≤ q a b) : Res s (process (pop s a b r) b x) W t S R B q a b r := by
  have hmem : x ∈ chan s.ways a b := by rw [e]; simp
  have hok := h.core.chan a b x hmem
  have hx1 : x.kind ≠ 1 := by omega
  have hd := h.pop e hx1 ha hb
  have hT := T_pop (q := q) h e hx1
  have hv1 : val (gS s R B q a b) (zv B) no x = gS s R B q a b x.who := by rw [val_let hk]; rfl
  rw [hv1] at hT
  have hgp : 1 ≤ gS s R B q a b x.who := gv_pos _ _ _ _ _ _ _ _
  have hcp := hd.core.process (node := b) hb hok hk
  by_cases hs : s.at_.getD x.who 0 = b ∨ (s.bel b x.who).1 = b
  · obtain ⟨st, sw⟩ := process_still (pop s a b r) b x hs
    refine ⟨st.dr hd.tr hd.n3 hd.gd hcp fun c z hz => ?_, by rw [st.ways, pop_chan, if_pos ⟨rfl, rfl⟩], by rw [st.T]; omega, fun _ => by rw [st.T]; omega, fun _ N M hN hA => st.AllH (AllH_pop e hx1 hA).1, fun w hw => by rw [st.at_]; exact hw, st.nodes, fun c d hcd => ⟨[], by rw [st.ways, pop_chan, if_neg hcd, List.append_nil]⟩, .inl ⟨st.at_, by have := els_pop h.core.wk e; rw [st.els]; omega⟩⟩
    rcases sw c z hz with hz | ⟨rfl, rfl, h0⟩
    · exact h.wt c z hz
    · have h1 : (s.bel c z.who).1 = c := hs.resolve_left h0
      refine ⟨hb, ?_, h1⟩
      by_cases h2 : s.at_.getD z.who 0 = 0
      · exact h2
      · obtain ⟨⟨r', hR⟩, hf⟩ := h.tr.fix z.who hok.who h2
        have h3 := h.tr.last hb hok.who h1
        have h4 := h.tr.kn c z.who hb.1 hb.2 hok.who
        rw [h1] at h4
        have h5 : pos (R z.who) (R z.who).length.pred (s.at_.getD z.who 0) := by
          rw [hR]
          exact pos_top _ _
        have h6 : (s.bel c z.who).2 = (R z.who).length.pred := by simp only [Nat.pred_eq_sub_one]; omega
        rw [h6] at h4
        exact absurd (pos_one h5 h4) h0
  · have h0 : s.at_.getD x.who 0 ≠ b := fun e => hs (.inl e)
    have h1 : (s.bel b x.who).1 ≠ b := fun e => hs (.inr e)
    have hkn := h.tr.kn b x.who hb.1 hb.2 hok.who
    have hc := h.tr.rg x.who hok.who _ (pos_mem hkn)
    have hf := fwd h.tr h.n3 (B := B) (q := q) (a := a) hb hok.who h0 h1 (fun g1 g2 => h.gd a b x hmem hk g1 g2) (fun g c c1 c2 c3 => hq x.who g c c1 c2 c3)
    have ep : process (pop s a b r) b x = push (if x.src ≠ b then push (pop s a b r) b x.src (note x.who (s.bel b x.who)) else pop s a b r) b (s.bel b x.who).1 x := by
      unfold process
      rw [if_neg (show ¬ (pop s a b r).at_.getD x.who 0 = b from h0), if_neg (show ¬ ((pop s a b r).bel b x.who).1 = b from h1)]
      rfl
    have hx0 := (hok.lt hk).1
    have hgd : s.at_.getD x.who 0 = 0 → B x.who = false → (R x.who).length ≤ (s.bel ((R x.who).headD 0) x.who).2 + 2 := fun g1 g2 => h.gd a b x hmem hk g1 g2
    have hmid : ∃ u, (if x.src ≠ b then push (pop s a b r) b x.src (note x.who (s.bel b x.who)) else pop s a b r) = u ∧ Dr u W t S R B ∧ u.bel = s.bel ∧ u.at_ = s.at_ ∧ u.nodes = s.nodes ∧ els u ≤ els (pop s a b r) + 1 ∧ T u R B q ≤ T (pop s a b r) R B q + 1 ∧
        (∀ N : Nat → Nat → Nat, (∀ c d, 2 ≤ N c d) → AllH (pop s a b r) R B q N → AllH u R B q N) ∧ (∀ c d, ¬ (c = b) → chan u.ways c d = chan (pop s a b r).ways c d) ∧
        (∀ c d, ∃ l, chan u.ways c d = chan (pop s a b r).ways c d ++ l ∧ ∀ w, l.any (isA w) = false) := by
      by_cases hsrc : x.src ≠ b
      · rw [if_pos hsrc]
        have hno : ElOk s.nodes W t S (note x.who (s.bel b x.who)) := ⟨by simp [note], hok.who, fun e => by simp [note] at e, fun _ => h.core.bel b x.who hb.1 hb.2 hok.who⟩
        have hp := hd.push (a := b) (b := x.src) (x := note x.who (s.bel b x.who)) (by simp [note]) (fun e => hsrc e.symm) hb hx0 hno (fun _ => hkn) (fun e => by simp [note] at e) (fun e => by simp [note] at e)
        have hv : ∀ sn, val (gS (pop s a b r) R B q b x.src) (zv B) sn (note x.who (s.bel b x.who)) = 1 := fun sn => val_one (by simp [note]) (by simp [note])
        refine ⟨_, rfl, hp, rfl, rfl, rfl, by rw [els_push hd.core.wk]; exact Nat.le_refl _, ?_, fun N hN hA => AllH_push hA (by rw [hv]; exact hN _ _), fun c d hcd => by rw [push_chan, if_neg (fun e => hcd e.1)], fun c d => ?_⟩
        · rw [T_push hd, hv]
          exact Nat.le_refl _
        · rw [push_chan]
          split
          · rename_i hcd
            rw [hcd.1, hcd.2]
            exact ⟨_, rfl, fun w => by simp [isA, note]⟩
          · exact ⟨[], by simp, fun w => rfl⟩
      · rw [if_neg hsrc]
        exact ⟨_, rfl, hd, rfl, rfl, rfl, by omega, by omega, fun N hN hA => hA, fun c d hcd => rfl, fun c d => ⟨[], by simp, fun w => rfl⟩⟩
    obtain ⟨u, hu, ud, ub, ua, un, ue, uT, uA, uc, ug⟩ := hmid
    rw [ep, hu]
    have hcb : ¬ (b = a ∧ (s.bel b x.who).1 = b) := fun e => h1 e.2
    obtain ⟨l, hl, hla⟩ := ug b (s.bel b x.who).1
    rw [pop_chan, if_neg (fun e => hab e.1.symm)] at hl
    have hany : nxts no (chan u.ways b (s.bel b x.who).1) x.who = (chan s.ways b (s.bel b x.who).1).any (isA x.who) := by
      unfold nxts no
      rw [hl, List.any_append, hla]
      simp
    have hv2 : val (gS u R B q b (s.bel b x.who).1) (zv B) (nxts no (chan u.ways b (s.bel b x.who).1)) x = (if (chan s.ways b (s.bel b x.who).1).any (isA x.who) then 1 else gv s.nodes s.at_ R B q b (s.bel b x.who).1 x.who) := by
      rw [val_let hk, hany]
      unfold gS
      rw [ua, un]
    have hd2 := ud.push (a := b) (b := (s.bel b x.who).1) (x := x) hx1 (fun e => h1 e.symm) (by rw [un]; exact hb) (by rw [un]; exact hc) (by rw [un]; exact hok) (fun e => absurd hk e) (fun _ => pos_mem hkn) (fun _ => by rw [ua, ub]; exact hgd)
    have hT2 := T_push (q := q) ud b (s.bel b x.who).1 x
    rw [hv2] at hT2
    have hga : gS s R B q a b x.who = gv s.nodes s.at_ R B q a b x.who := rfl
    rw [hga] at hT
    refine ⟨hd2, ?_, ?_, fun hB => ?_, fun hB N M hN hA => ?_, fun w hw => by show (push u _ _ _).at_.getD w 0 ≠ 0; unfold Mv.push; rw [ua]; exact hw, un, fun c d hcd => ?_, .inl ⟨ua, by have := els_pop h.core.wk e; rw [els_push ud.core.wk]; omega⟩⟩
    · rw [push_chan, if_neg (fun e => hab e.1), uc a b (fun e => hab e), pop_chan, if_pos ⟨rfl, rfl⟩]
    · rw [hT2]
      generalize (if (chan s.ways b (s.bel b x.who).1).any (isA x.who) then 1 else gv s.nodes s.at_ R B q b (s.bel b x.who).1 x.who) = v' at hf ⊢
      have : (if B x.who = true then 1 else 2) ≥ 1 := by split <;> omega
      omega
    · rw [hB] at hf
      simp only [Bool.false_eq_true, if_false] at hf
      rw [hT2]
      omega
    · rw [hB] at hf
      simp only [Bool.false_eq_true, if_false] at hf
      obtain ⟨hA1, hA2⟩ := AllH_pop e hx1 hA
      rw [hv1, hga] at hA2
      have hNa := (hN a b).2
      have hp1 : 1 ≤ (if (chan s.ways b (s.bel b x.who).1).any (isA x.who) then 1 else gv s.nodes s.at_ R B q b (s.bel b x.who).1 x.who) := by
        split
        · omega
        · exact gv_pos _ _ _ _ _ _ _ _
      refine AllH_push (uA N (fun c d => by have := (hN c d).1; omega) hA1) ?_
      rw [hv2]
      have := (hN b (s.bel b x.who).1).1
      omega
    · obtain ⟨l2, hl2, _⟩ := ug c d
      rw [push_chan]
      split
      · rename_i e2
        rw [pop_chan, if_neg hcd] at hl2
        rw [e2.1, e2.2] at hl2
        rw [e2.1, e2.2, hl2]
        exact ⟨l2 ++ [x], by rw [List.append_assoc]⟩
      · rw [hl2, pop_chan, if_neg hcd]
        exact ⟨l2, rfl⟩
theorem Dr.waitOk (h : Dr s W t S R B) {c : Nat} {z : El} (hz : z ∈ s.wait.getD c []) : z.who < W := by
  obtain ⟨row, hr, hz⟩ := getD_mem hz
  exact (h.core.wait row hr z hz).1.who
/-- a notice comes -/
theorem come_notice (h : Dr s W t S R B) {a b : Nat} {x : El} {r : List El} (e : chan s.ways a b = x :: r) (hk0 : x.kind ≠ 0) (hk1 : x.kind ≠ 1) (ha : 1 ≤ a ∧ a ≤ s.nodes) (hb : 1 ≤ b ∧ b ≤ s.nodes) (hab : a ≠ b) : Res s (come (pop s a b r) b x) W t S R B q a b r := by
  have hmem : x ∈ chan s.ways a b := by rw [e]; simp
  have hok := h.core.chan a b x hmem
  have hd := h.pop e hk1 ha hb
  have hT := T_pop (q := q) h e hk1
  rw [val_one hk0 hk1] at hT
  have hcc := hd.core.come hb hok
  unfold come at hcc ⊢
  rw [if_neg hk0] at hcc ⊢
  by_cases hn : (s.bel b x.who).2 < x.bm
  · rw [if_pos (.inr hn)] at hcc ⊢
    have hp := (h.tr.ch a b).elb x hmem hk0
    have hpl := pos_lt hp
    have ea : arrive (pop s a b r) b x = pop s a b r := by unfold arrive; rw [if_neg hk1]
    have el : learn (pop s a b r) b x = { pop s a b r with bel := upd2 s.bel b x.who (x.bn, x.bm) } := by unfold learn; exact if_pos hn
    rw [ea, el] at hcc ⊢
    have hat : s.at_.getD x.who 0 ≠ b := fun e0 => by
      have := (h.tr.fix x.who hok.who (by omega)).2
      rw [e0] at this
      omega
    have htr : TrS { pop s a b r with bel := upd2 s.bel b x.who (x.bn, x.bm) } W R := Tr.learn hd.tr hn hp (.inl hat)
    have hbel : ∀ c w, (s.bel c w).2 ≤ (upd2 s.bel b x.who (x.bn, x.bm) c w).2 := fun c w => by
      by_cases e2 : c = b ∧ w = x.who
      · rw [e2.1, e2.2, upd2_same]; exact Nat.le_of_lt hn
      · rw [upd2_other _ _ e2]; exact Nat.le_refl _
    have hwt : ∀ c z, z ∈ s.wait.getD c [] → ¬ (c = b ∧ z.who = x.who) := fun c z hz e2 => by
      obtain ⟨w1, w2, w3⟩ := h.wt c z hz
      have := h.tr.last w1 (h.waitOk hz) w3
      rw [e2.1, e2.2] at this
      omega
    obtain ⟨st, sw⟩ := wake_still { pop s a b r with bel := upd2 s.bel b x.who (x.bn, x.bm) } b (fun y hy => by
      right
      show (upd2 s.bel b x.who (x.bn, x.bm) b y.who).1 = b
      rw [upd2_other _ _ (hwt b y hy)]
      exact (h.wt b y hy).2.2)
    refine ⟨st.dr htr h.n3 (fun c d y hy k k2 k3 => Nat.le_trans (hd.gd c d y hy k k2 k3) (Nat.add_le_add_right (hbel _ _) 2)) hcc fun c z hz => ?_, by rw [st.ways]; exact (pop_chan s a b r a b).trans (if_pos ⟨rfl, rfl⟩), ?_, fun _ => ?_, fun _ N M hN hA => st.AllH (AllH_pop e hk1 hA).1, fun w hw => by rw [st.at_]; exact hw, st.nodes, fun c d hcd => ⟨[], ?_⟩, .inl ⟨st.at_, by have := els_pop h.core.wk e; rw [st.els]; show els (pop s a b r) ≤ _; omega⟩⟩
    · obtain ⟨hz, _⟩ := sw c z hz
      obtain ⟨w1, w2, w3⟩ := h.wt c z hz
      refine ⟨w1, w2, ?_⟩
      show (upd2 s.bel b x.who (x.bn, x.bm) c z.who).1 = c
      rw [upd2_other _ _ (hwt c z hz)]
      exact w3
    · rw [st.T]
      show T (pop s a b r) R B q ≤ _
      omega
    · rw [st.T]
      show T (pop s a b r) R B q + 1 ≤ _
      omega
    · rw [st.ways, List.append_nil]
      exact (pop_chan s a b r c d).trans (if_neg hcd)
  · rw [if_neg (fun e2 => e2.elim hk1 hn)] at hcc ⊢
    exact ⟨hd, by rw [pop_chan, if_pos ⟨rfl, rfl⟩], by omega, fun _ => by omega, fun _ N M hN hA => (AllH_pop e hk1 hA).1, fun w hw => hw, rfl, fun c d hcd => ⟨[], by rw [pop_chan, if_neg hcd, List.append_nil]⟩, .inl ⟨rfl, by have := els_pop h.core.wk e; omega⟩⟩
/-- an actor comes -/
theorem come_actor (h : Dr s W t S R B) {a b : Nat} {x : El} {r : List El} (e : chan s.ways a b = x :: r) (hk1 : x.kind = 1) (ha : 1 ≤ a ∧ a ≤ s.nodes) (hb : 1 ≤ b ∧ b ≤ s.nodes) (hab : a ≠ b) : Res s (come (pop s a b r) b x) W t S R B q a b r := by
  have hmem : x ∈ chan s.ways a b := by rw [e]; simp
  have hok := h.core.chan a b x hmem
  have hcp : Core (pop s a b r) W t S := h.core.setWay ha hb fun y hy => h.core.chan a b y (by rw [e]; simp [hy])
  have hcc := hcp.come hb hok
  obtain ⟨a0, ⟨r', hR⟩, hbn, hbm⟩ := (h.tr.ch a b).act x hmem hk1
  have hp := (h.tr.ch a b).elb x hmem (by omega)
  have hl := h.core.al
  have hkn := pos_lt (h.tr.kn b x.who hb.1 hb.2 hok.who)
  obtain ⟨bel', hbe⟩ : ∃ bel', bel' = if (s.bel b x.who).2 < x.bm then upd2 s.bel b x.who (x.bn, x.bm) else s.bel := ⟨_, rfl⟩
  have hother : ∀ c w, w ≠ x.who → bel' c w = s.bel c w := fun c w hne => by
    rw [hbe]
    split
    · rw [upd2_other _ _ (fun e2 => hne e2.2)]
    · rfl
  have hf : (bel' b x.who).2 + 1 = (R x.who).length := by
    rw [hbe]
    split
    · rw [upd2_same]; exact hbm
    · omega
  have htr0 : Tr s.nodes bel' s.at_ s.ways W R := by
    rw [hbe]
    split
    · rename_i hn
      exact Tr.learn h.tr hn hp (.inl (by omega))
    · exact h.tr
  have htr1 := htr0.arrive e hk1 hok.who hl hb.1 hf
  have eu : learn (arrive (pop s a b r) b x) b x = { pop s a b r with bel := bel', at_ := s.at_.set x.who b } := by
    unfold arrive
    rw [if_pos hk1]
    unfold learn
    rw [hbe]
    show (if (s.bel b x.who).2 < x.bm then _ else _) = _
    split <;> rfl
  unfold come at hcc ⊢
  rw [if_neg (by omega), if_pos (.inl hk1), eu] at hcc ⊢
  have hat : ∀ w, w ≠ x.who → (s.at_.set x.who b).getD w 0 = s.at_.getD w 0 := fun w hne => by rw [getD_set, if_neg (fun h => hne h.1)]
  have hat1 : (s.at_.set x.who b).getD x.who 0 = b := by rw [getD_set, if_pos ⟨rfl, by have := hok.who; omega⟩]
  obtain ⟨st, sw⟩ := wake_still { pop s a b r with bel := bel', at_ := s.at_.set x.who b } b (fun y hy => by
    by_cases ew : y.who = x.who
    · left
      show (s.at_.set x.who b).getD y.who 0 = b
      rw [ew, hat1]
    · right
      show (bel' b y.who).1 = b
      rw [hother _ _ ew]
      exact (h.wt b y hy).2.2)
  -- the measure
  have hv : ∀ c d, 1 ≤ d → d ≤ s.nodes → ∀ w, vL (gv s.nodes (s.at_.set x.who b) R B q c d) no w ≤ vL (gS s R B q c d) no w := by
    intro c d d1 d2 w
    unfold vL no gS gv
    simp only [Bool.false_eq_true, if_false]
    by_cases ew : w = x.who
    · subst ew
      rw [hat1, if_pos (by omega), if_neg (by simpa using a0)]
      have h2 := rho_le (n := s.nodes) (r := R x.who) ⟨d1, d2⟩ h.n3
      split
      · omega
      · split
        · rename_i e0
          rw [rho_zero e0]
          omega
        · split
          · rename_i e1
            rw [hR] at e1 ⊢
            have := rho_one (n := s.nodes) e1
            omega
          · omega
    · rw [hat w ew]
      exact Nat.le_refl _
  have hv0 : ∀ w, vL (gv s.nodes (s.at_.set x.who b) R B q a b) no w ≤ vL (gS s R B q a b) (nxt no x) w := by
    intro w
    by_cases ew : w = x.who
    · have : vL (gv s.nodes (s.at_.set x.who b) R B q a b) no w = 1 := by
        have hr0 : rho s.nodes (R x.who) b = 0 := rho_zero (by rw [hR, idx_cons, if_pos rfl])
        have hb0 : b ≠ 0 := by omega
        unfold vL no gv
        simp only [Bool.false_eq_true, if_false]
        rw [ew, hat1, if_pos hb0, hr0]
      rw [this]
      unfold vL
      split
      · omega
      · exact gv_pos _ _ _ _ _ _ _ _
    · have hn : nxt no x w = false := by
        rw [nxt_at]
        unfold isA no
        simp
        exact fun _ e2 => ew e2.symm
      have := hv a b hb.1 hb.2 w
      unfold vL at this ⊢
      rw [hn]
      exact this
  have hTs := tsum_put (tF s R B q) (tF_nil s R B q) s.ways a b [] h.core.wk
  have hTu := tsum_put (fun k l => pot (gv s.nodes (s.at_.set x.who b) R B q k.1 k.2) (zv B) l no) (fun _ => rfl) s.ways a b [] h.core.wk
  have hTv := tsum_put (fun k l => pot (gv s.nodes (s.at_.set x.who b) R B q k.1 k.2) (zv B) l no) (fun _ => rfl) s.ways a b r h.core.wk
  have hle := tsum_le (F := fun k l => pot (gv s.nodes (s.at_.set x.who b) R B q k.1 k.2) (zv B) l no) (G := tF s R B q) (mput s.ways (a, b) []) (fun p hp => by
    rcases mem_put hp with rfl | hp
    · exact Nat.le_refl _
    · have hr := (h.core.ways p hp).1.2
      exact pot_mono (fun _ => Nat.le_refl _) _ (hv p.1.1 p.1.2 hr.1 hr.2))
  have hpm := pot_mono (z := zv B) (z' := zv B) (fun _ => Nat.le_refl _) r hv0
  rw [e] at hTs hTu hTv
  have e1 : tF s R B q (a, b) (x :: r) = zv B x.who + pot (gS s R B q a b) (zv B) r (nxt no x) := by
    unfold tF
    rw [pot]
    unfold val
    rw [if_neg (by omega), if_pos hk1]
  rw [e1, tF_nil] at hTs
  have hT : T { pop s a b r with bel := bel', at_ := s.at_.set x.who b } R B q + zv B x.who ≤ T s R B q := by
    show tsum (fun k l => pot (gv s.nodes (s.at_.set x.who b) R B q k.1 k.2) (zv B) l no) (mput s.ways (a, b) r) + zv B x.who ≤ tsum (tF s R B q) s.ways
    have e2 : pot (gv s.nodes (s.at_.set x.who b) R B q a b) (zv B) [] no = 0 := rfl
    simp only at hTu hTv hle
    rw [e2] at hTu
    omega
  refine ⟨st.dr htr1 h.n3 (fun c d y hy k k2 k3 => ?_) hcc fun c z hz => ?_, by rw [st.ways]; exact (pop_chan s a b r a b).trans (if_pos ⟨rfl, rfl⟩), by rw [st.T]; omega, fun hB => ?_, fun _ N M hN hA => st.AllH fun c d => ?_, fun w hw => ?_, st.nodes, fun c d hcd => ⟨[], ?_⟩, .inr ⟨x.who, b, st.at_, hok.who, a0, hb.1, by have := els_pop h.core.wk e; rw [st.els]; show els (pop s a b r) + 1 ≤ _; omega⟩⟩
  · have ew : y.who ≠ x.who := fun e2 => by
      have k2' : (s.at_.set x.who b).getD y.who 0 = 0 := k2
      rw [e2, hat1] at k2'
      omega
    have k2' : (s.at_.set x.who b).getD y.who 0 = 0 := k2
    rw [hat _ ew] at k2'
    show _ ≤ (bel' _ _).2 + 2
    rw [hother _ _ ew]
    have hy' : y ∈ chan (pop s a b r).ways c d := hy
    rw [pop_chan] at hy'
    split at hy'
    · exact h.gd a b y (by rw [e]; simp [hy']) k k2' k3
    · exact h.gd c d y hy' k k2' k3
  · obtain ⟨hz, hz2⟩ := sw c z hz
    obtain ⟨w1, w2, w3⟩ := h.wt c z hz
    have ew : z.who ≠ x.who := fun e2 => by
      have h1 := h.tr.last w1 (h.waitOk hz) w3
      have h2 := h.tr.kn c z.who w1.1 w1.2 (h.waitOk hz)
      rw [w3, e2] at h2
      rw [e2] at h1
      have h3 : pos (R x.who) (s.bel c x.who).2 b := by
        have := pos_top b (a :: r')
        rw [← hR] at this
        rw [hR] at h1
        rw [show (s.bel c x.who).2 = (a :: r').length by simpa using h1]
        exact this
      have hcb := pos_one h2 h3
      refine hz2 hcb ?_
      show (s.at_.set x.who b).getD z.who 0 = b
      rw [e2, hat1]
    refine ⟨w1, ?_, ?_⟩
    · show (s.at_.set x.who b).getD z.who 0 = 0
      rw [hat _ ew]
      exact w2
    · show (bel' c z.who).1 = c
      rw [hother _ _ ew]
      exact w3
  · rw [st.T]
    have : zv B x.who = 1 := by unfold zv; rw [hB]; rfl
    omega
  · show allp (gv s.nodes (s.at_.set x.who b) R B q c d) (zv B) (N c d) (chan (pop s a b r).ways c d) no
    rw [pop_chan]
    split
    · rename_i hcd
      rw [hcd.1, hcd.2]
      have := hA a b
      rw [e] at this
      exact allp_mono (fun _ => Nat.le_refl _) (Nat.le_refl _) r hv0 this.2
    · by_cases hne : chan s.ways c d = []
      · rw [hne]; exact True.intro
      · obtain ⟨y, hy⟩ := List.exists_mem_of_ne_nil _ hne
        have hcd : 1 ≤ d ∧ d ≤ s.nodes := by
          unfold chan at hy
          cases hg : mget s.ways (c, d) with
          | none => rw [hg] at hy; simp at hy
          | some l => exact (h.core.ways _ (mget_mem hg)).1.2
        exact allp_mono (fun _ => Nat.le_refl _) (Nat.le_refl _) _ (hv c d hcd.1 hcd.2) (hA c d)
  · rw [st.at_]
    show (s.at_.set x.who b).getD w 0 ≠ 0
    by_cases ew : w = x.who
    · rw [ew, hat1]; omega
    · rw [hat w ew]; exact hw
  · rw [st.ways, List.append_nil]
    exact (pop_chan s a b r c d).trans (if_neg hcd)
end
end Go.Mv
