/- What eight deeds of package move's simulation can lay into channels; where all of it comes. No program in sight. -/
import Derived.Test.YtckkelppdeampaaMvRound
set_option linter.unusedVariables false
namespace Go.Mv
open Go.Mem
def all_ : Nat → Bool := fun _ => true
def arw (s : Hb) (R : Nat → List Nat) (w : Nat) : Nat := (R w).length - 1 - (if s.at_.getD w 0 = 0 then 1 else 0)
def ar (s : Hb) (W : Nat) (R : Nat → List Nat) : Nat := ((List.range W).map (arw s R)).sum
theorem sum_same {f g : Nat → Nat} : ∀ (l : List Nat), (∀ w ∈ l, f w = g w) → (l.map f).sum = (l.map g).sum
  | [], _ => rfl
  | x :: l, h => by
    rw [List.map_cons, List.map_cons, List.sum_cons, List.sum_cons, h x (by simp), sum_same l fun w hw => h w (by simp [hw])]
theorem sum_more {f g : Nat → Nat} {v : Nat} : ∀ (l : List Nat), l.Nodup → v ∈ l → (∀ w ∈ l, w ≠ v → f w = g w) → f v = g v + 1 → (l.map f).sum = (l.map g).sum + 1
  | [], _, h, _, _ => by simp at h
  | x :: l, hn, hv, h, h1 => by
    rw [List.nodup_cons] at hn
    rw [List.map_cons, List.map_cons, List.sum_cons, List.sum_cons]
    rcases List.mem_cons.1 hv with e | hv
    · subst e
      rw [h1, sum_same l fun w hw => h w (by simp [hw]) (fun e => hn.1 (e ▸ hw))]
      omega
    · rw [sum_more l hn.2 hv (fun w hw => h w (by simp [hw])) h1, h x (by simp) (fun e => hn.1 (e ▸ hv))]
      omega
theorem sum_mem {f : Nat → Nat} : ∀ (l : List Nat) {v : Nat}, v ∈ l → f v ≤ (l.map f).sum
  | [], v, h => by simp at h
  | x :: l, v, h => by
    rw [List.map_cons, List.sum_cons]
    rcases List.mem_cons.1 h with rfl | h
    · omega
    · have := sum_mem (f := f) l h; omega
section
variable {s : Hb} {W t : Nat} {S : Nat → Nat → List Nat} {R : Nat → List Nat}
/-- an actor sets out -/
theorem Tr.shift {n : Nat} {bel : Nat → Nat → Nat × Nat} {at_ : List Nat} {ws : Ways} (h : Tr n bel at_ ws W R) {w c : Nat} {x : El} (hw : w < W) (hl : at_.length = W) (hk0 : at_.getD w 0 ≠ 0) (hc : 1 ≤ c ∧ c ≤ n) (hne : at_.getD w 0 ≠ c)
    (hx : x = ⟨1, w, 0, 0, 0, c, (bel (at_.getD w 0) w).2 + 1⟩) :
    Tr n (upd2 bel (at_.getD w 0) w (c, (bel (at_.getD w 0) w).2 + 1)) (at_.set w 0) (mput ws (at_.getD w 0, c) (chan ws (at_.getD w 0) c ++ [x])) W (fun v => if v = w then c :: R w else R v) := by
  obtain ⟨⟨r0, hR⟩, hf⟩ := h.fix w hw hk0
  have hkr := h.rg w hw (at_.getD w 0) (by rw [hR]; simp)
  generalize hk : at_.getD w 0 = k at *
  have hat : ∀ v, v ≠ w → (at_.set w 0).getD v 0 = at_.getD v 0 := fun v hv => by rw [getD_set, if_neg (fun e => hv e.1)]
  have hat1 : (at_.set w 0).getD w 0 = 0 := by rw [getD_set, if_pos ⟨rfl, by omega⟩]
  have hlen : (bel k w).2 + 1 = (R w).length := hf
  have hnoact : ∀ a b y, y ∈ chan ws a b → y.kind = 1 → y.who ≠ w := fun a b y hy hy1 e => by
    have := ((h.ch a b).act y hy hy1).1
    rw [e, hk] at this
    exact hk0 this
  refine ⟨fun v hv => ?_, fun v hv a ha => ?_, fun a v q1 q2 q3 => ?_, fun a v m q1 q2 q3 q4 q5 => ?_, fun v hv h0 => ?_, fun v hv h0 => ?_, fun a b => ?_⟩
  · split
    · simp
    · exact h.ne v hv
  · split at ha
    · rcases List.mem_cons.1 ha with rfl | ha
      · exact hc
      · exact h.rg w hw a ha
    · exact h.rg v hv a ha
  · by_cases e : a = k ∧ v = w
    · obtain ⟨rfl, rfl⟩ := e
      rw [upd2_same, if_pos rfl, hlen]
      exact pos_top c (R v)
    · rw [upd2_other _ _ e]
      split
      · rename_i ev; subst ev
        exact pos_cons c (h.kn a v q1 q2 q3)
      · exact h.kn a v q1 q2 q3
  · by_cases ev : v = w
    · subst ev
      rw [if_pos rfl] at q4 q5
      rw [List.length_cons] at q5
      by_cases e : a = k
      · subst e
        rw [upd2_same]
        simp only
        omega
      · rw [upd2_other _ _ (fun e2 => e e2.1)]
        rcases pos_split q4 with ⟨e1, e2⟩ | q4
        · omega
        · by_cases hm : m + 1 < (R v).length
          · exact h.up a v m q1 q2 q3 q4 hm
          · have h2 : pos (R v) m k := by
              rw [hR] at q5 hm ⊢
              have := pos_top k r0
              rw [List.length_cons] at q5 hm
              rw [show m = r0.length by omega]
              exact this
            exact absurd (pos_one q4 h2) e
    · rw [if_neg ev] at q4 q5
      rw [upd2_other _ _ (fun e2 => ev e2.2)]
      exact h.up a v m q1 q2 q3 q4 q5
  · have ev : v ≠ w := fun e => h0 (by rw [e, hat1])
    rw [hat v ev] at h0 ⊢
    rw [if_neg ev, upd2_other _ _ (fun e2 => ev e2.2)]
    exact h.fix v hv h0
  · by_cases ev : v = w
    · subst ev
      rw [if_pos rfl]
      exact ⟨c, k, r0, by rw [hR], fun e => hne e.symm⟩
    · rw [hat v ev] at h0
      rw [if_neg ev]
      exact h.fly v hv h0
  · have hbase : ∀ a b, ¬ (a = k ∧ b = c) → ChOk (at_.set w 0) (fun v => if v = w then c :: R w else R v) W a b (chan ws a b) := fun a b hab => {
      act := fun y hy k1 => by
        have ew := hnoact a b y hy k1
        rw [hat _ ew, if_neg ew]
        exact (h.ch a b).act y hy k1
      elb := fun y hy k1 => by
        split
        · rename_i ew
          have := (h.ch a b).elb y hy k1
          rw [ew] at this
          exact pos_cons c this
        · exact (h.ch a b).elb y hy k1
      let_ := fun y hy k1 => by
        split
        · rename_i ew
          have := (h.ch a b).let_ y hy k1
          rw [ew] at this
          exact List.mem_cons_of_mem _ this
        · exact (h.ch a b).let_ y hy k1
      off := (h.ch a b).off
      cnt := fun v hv h0 q hq => by
        by_cases ev : v = w
        · rw [if_pos ev, hR] at hq
          injection hq with q1 q2
          injection q2 with q2 _
          exact absurd ⟨q2.symm, q1.symm⟩ hab
        · rw [if_neg ev] at hq
          rw [hat v ev] at h0
          exact (h.ch a b).cnt v hv h0 q hq
      ahd := fun l1 y l2 e k1 z hz k2 k3 => by
        have ew := hnoact a b y (by rw [e]; simp) k1
        rw [if_neg ew]
        exact (h.ch a b).ahd l1 y l2 e k1 z hz k2 k3 }
    rw [chan_put]
    split
    · rename_i hab
      obtain ⟨rfl, rfl⟩ := hab
      have hx1 : x.kind = 1 := by rw [hx]
      have hxw : x.who = w := by rw [hx]
      have hb := h.ch a b
      refine ⟨fun y hy k1 => ?_, fun y hy k1 => ?_, fun y hy k1 => ?_, fun e => absurd e hne, fun v hv h0 q hq => ?_, fun l1 y l2 e k1 z hz k2 k3 => ?_⟩
      · rcases List.mem_append.1 hy with hy | hy
        · have ew := hnoact a b y hy k1
          rw [hat _ ew, if_neg ew]
          exact hb.act y hy k1
        · rw [List.mem_singleton] at hy
          subst hy
          rw [hxw, hat1, if_pos rfl]
          refine ⟨rfl, ⟨r0, by rw [hR]⟩, by rw [hx], ?_⟩
          rw [hx, List.length_cons]
          simp only
          omega
      · rcases List.mem_append.1 hy with hy | hy
        · split
          · rename_i ew
            have := hb.elb y hy k1
            rw [ew] at this
            exact pos_cons b this
          · exact hb.elb y hy k1
        · rw [List.mem_singleton] at hy
          subst hy
          rw [hxw, if_pos rfl, hx]
          simp only
          rw [hlen]
          exact pos_top b (R w)
      · rcases List.mem_append.1 hy with hy | hy
        · split
          · rename_i ew
            have := hb.let_ y hy k1
            rw [ew] at this
            exact List.mem_cons_of_mem _ this
          · exact hb.let_ y hy k1
        · rw [List.mem_singleton] at hy
          subst hy
          omega
      · rw [List.countP_append]
        by_cases ev : v = w
        · have h00 : (chan ws a b).countP (isA v) = 0 := by
            rw [List.countP_eq_zero]
            intro y hy hya
            obtain ⟨y1, y2⟩ := isA_iff.1 hya
            exact hnoact a b y hy y1 (y2.trans ev)
          have h11 : isA v x = true := isA_iff.2 ⟨hx1, hxw.trans ev.symm⟩
          rw [h00]
          simp [h11]
        · rw [if_neg ev] at hq
          rw [hat v ev] at h0
          rw [hb.cnt v hv h0 q hq]
          have : isA v x = false := by
            cases hh : isA v x
            · rfl
            · exact absurd ((isA_iff.1 hh).2.symm.trans hxw) ev
          simp [this]
      · rcases List.eq_nil_or_concat l2 with rfl | ⟨l3, u, rfl⟩
        · have := List.append_inj' e (by simp)
          have e2 : x = y := by simpa using this.2
          subst e2
          rw [hxw, if_pos rfl]
          have := hb.let_ z (by rw [this.1]; exact hz) k2
          rw [k3, hxw] at this
          exact this
        · rw [List.concat_eq_append, ← List.cons_append, ← List.append_assoc] at e
          have := (List.append_inj' e (by simp)).1
          have ew := hnoact a b y (by rw [this]; simp) k1
          rw [if_neg ew]
          exact hb.ahd l1 y l3 this k1 z hz k2 k3
    · rename_i hab
      exact hbase a b hab
theorem tr_new {nodes : Nat} {C : List Nat} (h1 : 1 ≤ nodes ∧ nodes ≤ 3) (hC : ∀ c ∈ C, 1 ≤ c ∧ c ≤ nodes) : Dr (newF nodes C) C.length 0 (fun _ _ => []) (fun w => [C.getD w 0]) all_ := by
  have hCw : ∀ w, w < C.length → 1 ≤ C.getD w 0 ∧ C.getD w 0 ≤ nodes := fun w hw => hC _ (List.mem_of_getElem? (getD_at hw))
  refine ⟨new_core nodes C ⟨h1.1, by omega⟩ hC, ⟨fun w hw => by simp, fun w hw a ha => ?_, fun a w q1 q2 q3 => ?_, fun a w m q1 q2 q3 q4 q5 => ?_, fun w hw h0 => ?_, fun w hw h0 => ?_, fun a b => ?_⟩, fun a x hx => ?_, h1.2, fun a b x hx _ _ h => by cases h⟩
  · rw [List.mem_singleton] at ha
    subst ha
    exact hCw w hw
  · exact pos_top (C.getD w 0) []
  · simp at q5
  · exact ⟨⟨[], rfl⟩, rfl⟩
  · have := hCw w hw
    have h0' : C.getD w 0 = 0 := h0
    omega
  · have e : chan (newF nodes C).ways a b = [] := rfl
    rw [e]
    exact ⟨fun x hx => by simp at hx, fun x hx => by simp at hx, fun x hx => by simp at hx, fun _ => rfl, fun w hw h0 r hr => by
      have := hCw w hw
      have h0' : C.getD w 0 = 0 := h0
      omega, fun l1 x l2 e => by simp at e⟩
  · rw [List.getD_eq_getElem?_getD] at hx
    cases hi : (newF nodes C).wait[a]? with
    | none => rw [hi] at hx; simp at hx
    | some row =>
      rw [hi] at hx
      have := (List.mem_replicate.1 (List.mem_of_getElem? hi)).2
      subst this
      simp at hx
theorem ar_new (nodes : Nat) (C : List Nat) : els (newF nodes C) + 2 * ar (newF nodes C) C.length (fun w => [C.getD w 0]) = 0 := by
  have h1 : els (newF nodes C) = 0 := rfl
  have h2 : ar (newF nodes C) C.length (fun w => [C.getD w 0]) = 0 := by
    unfold ar
    have : ∀ l : List Nat, (l.map (arw (newF nodes C) (fun w => [C.getD w 0]))).sum = 0 := by
      intro l
      induction l with
      | nil => rfl
      | cons x r ih =>
        rw [List.map_cons, List.sum_cons, ih]
        unfold arw
        simp
    exact this _
  omega
/-- a deed lays one element at most, or an actor arrives -/
theorem deed (h : Dr s W t S R all_) {d : Dv} (hd : DOk s.nodes W d) : ∃ R', Dr (doF s d) W (t + 1) (putS S d) R' all_ ∧ els (doF s d) + 2 * ar (doF s d) W R' ≤ els s + 2 * ar s W R + 1 := by
  have hcd := h.core.do_ hd
  obtain ⟨d1, d2, d3, d4, d5, d6⟩ := hd
  have hgd : ∀ (u : Hb) (R : Nat → List Nat), ∀ a b x, x ∈ chan u.ways a b → x.kind = 0 → u.at_.getD x.who 0 = 0 → all_ x.who = false → (R x.who).length ≤ (u.bel ((R x.who).headD 0) x.who).2 + 2 := fun _ _ _ _ _ _ _ _ h => by cases h
  by_cases k1 : d.kind = 1
  · have hs := d5 (by omega)
    have hn : isNode s d.src ∧ d.who < s.at_.length := ⟨⟨hs, d2⟩, by rw [h.core.al]; exact d4⟩
    have ed : doF s d = process { s with sent := upd2 s.sent d.src d.who (s.sent d.src d.who + 1) } d.src ⟨0, d.who, d.src, s.sent d.src d.who, d.n, 0, 0⟩ := by
      unfold doF
      rw [if_pos k1, if_pos hn]
    rw [ed] at hcd ⊢
    refine ⟨R, ?_⟩
    generalize hu : ({ s with sent := upd2 s.sent d.src d.who (s.sent d.src d.who + 1) } : Hb) = u at *
    have ub : u.bel = s.bel := by rw [← hu]
    have ua : u.at_ = s.at_ := by rw [← hu]
    have uw : u.ways = s.ways := by rw [← hu]
    have un : u.nodes = s.nodes := by rw [← hu]
    have uwt : u.wait = s.wait := by rw [← hu]
    have uar : ∀ v : Hb, v.at_ = s.at_ → ar v W R = ar s W R := fun v hv => by unfold ar arw; rw [hv]
    generalize hx : (⟨0, d.who, d.src, s.sent d.src d.who, d.n, 0, 0⟩ : El) = x at *
    have xk : x.kind = 0 := by rw [← hx]
    have xw : x.who = d.who := by rw [← hx]
    have xs : x.src = d.src := by rw [← hx]
    by_cases hst : u.at_.getD x.who 0 = d.src ∨ (u.bel d.src x.who).1 = d.src
    · obtain ⟨st, sw⟩ := process_still u d.src x hst
      refine ⟨st.dr (by unfold TrS; rw [un, ub, ua, uw]; exact h.tr) (by rw [un]; exact h.n3) (hgd _ _) hcd fun c z hz => ?_, ?_⟩
      · rcases sw c z hz with hz | ⟨rfl, rfl, h0⟩
        · rw [uwt] at hz
          rw [un, ua, ub]
          exact h.wt c z hz
        · have h1 := hst.resolve_left h0
          refine ⟨by rw [un]; exact ⟨hs, d2⟩, ?_, h1⟩
          by_cases h2 : u.at_.getD z.who 0 = 0
          · exact h2
          · rw [ua] at h2 h0
            rw [ub] at h1
            have hzw : z.who < W := by rw [xw]; exact d4
            obtain ⟨⟨r', hR⟩, hf⟩ := h.tr.fix z.who hzw h2
            have h3 := h.tr.last ⟨hs, d2⟩ hzw h1
            have h4 := h.tr.kn d.src z.who hs d2 hzw
            rw [h1] at h4
            have h5 : pos (R z.who) (R z.who).length.pred (s.at_.getD z.who 0) := by
              rw [hR]
              exact pos_top _ _
            have h6 : (s.bel d.src z.who).2 = (R z.who).length.pred := by simp only [Nat.pred_eq_sub_one]; omega
            rw [h6] at h4
            exact absurd (pos_one h5 h4) h0
      · rw [uar _ (st.at_.trans ua), st.els]
        have : els u = els s := by unfold els; rw [uw]
        omega
    · have h0 : ¬ u.at_.getD x.who 0 = d.src := fun e => hst (.inl e)
      have h1 : ¬ (u.bel d.src x.who).1 = d.src := fun e => hst (.inr e)
      have ep : process u d.src x = push u d.src (u.bel d.src x.who).1 x := by
        unfold process
        rw [if_neg h0, if_neg h1, if_neg (by rw [xs]; simp)]
      rw [ep] at hcd ⊢
      have hkn := h.tr.kn d.src d.who hs d2 d4
      refine ⟨⟨hcd, ?_, ?_, ?_, hgd _ _⟩, ?_⟩
      · have htu : Tr u.nodes u.bel u.at_ u.ways W R := by rw [un, ub, ua, uw]; exact h.tr
        exact htu.setWay _ _ _ ((htu.ch _ _).add (by omega) (fun e => h1 e.symm) (fun e => absurd xk e) (fun _ => by rw [xw, ub]; exact pos_mem hkn))
      · intro c z hz
        have hz' : z ∈ u.wait.getD c [] := hz
        rw [uwt] at hz'
        have := h.wt c z hz'
        show (1 ≤ c ∧ c ≤ u.nodes) ∧ u.at_.getD z.who 0 = 0 ∧ (u.bel c z.who).1 = c
        rw [un, ua, ub]
        exact this
      · show u.nodes ≤ 3
        rw [un]
        exact h.n3
      · rw [els_push (by rw [uw]; exact h.core.wk), uar _ (show (push u _ _ x).at_ = s.at_ from ua)]
        have : els u = els s := by unfold els; rw [uw]
        omega
  · by_cases k2 : d.kind = 2
    · by_cases hc : isNode s d.dst ∧ d.who < s.at_.length ∧ s.at_.getD d.who 0 ≠ 0 ∧ s.at_.getD d.who 0 ≠ d.dst
      · obtain ⟨c1, c2, c3, c4⟩ := hc
        have ed : doF s d = push { s with bel := upd2 s.bel (s.at_.getD d.who 0) d.who (d.dst, (s.bel (s.at_.getD d.who 0) d.who).2 + 1), at_ := s.at_.set d.who 0 } (s.at_.getD d.who 0) d.dst ⟨1, d.who, 0, 0, 0, d.dst, (s.bel (s.at_.getD d.who 0) d.who).2 + 1⟩ := by
          unfold doF
          rw [if_neg k1, if_pos k2, if_pos ⟨c1, c2, c3, c4⟩]
        rw [ed] at hcd ⊢
        obtain ⟨⟨r0, hR⟩, hf⟩ := h.tr.fix d.who d4 c3
        refine ⟨fun v => if v = d.who then d.dst :: R d.who else R v, ⟨hcd, ?_, ?_, h.n3, fun _ _ _ _ _ _ hh => by cases hh⟩, ?_⟩
        · exact Tr.shift h.tr d4 h.core.al c3 c1 c4 rfl
        · intro c z hz
          obtain ⟨w1, w2, w3⟩ := h.wt c z hz
          have ew : z.who ≠ d.who := fun e => by rw [e] at w2; exact c3 w2
          refine ⟨w1, ?_, ?_⟩
          · show (s.at_.set d.who 0).getD z.who 0 = 0
            rw [getD_set, if_neg (fun e => ew e.1)]
            exact w2
          · show (upd2 s.bel _ _ _ c z.who).1 = c
            rw [upd2_other _ _ (fun e => ew e.2)]
            exact w3
        · have ep := els_push (s := { s with bel := upd2 s.bel (s.at_.getD d.who 0) d.who (d.dst, (s.bel (s.at_.getD d.who 0) d.who).2 + 1), at_ := s.at_.set d.who 0 }) h.core.wk (s.at_.getD d.who 0) d.dst ⟨1, d.who, 0, 0, 0, d.dst, (s.bel (s.at_.getD d.who 0) d.who).2 + 1⟩
          rw [ep]
          have e1 : els { s with bel := upd2 s.bel (s.at_.getD d.who 0) d.who (d.dst, (s.bel (s.at_.getD d.who 0) d.who).2 + 1), at_ := s.at_.set d.who 0 } = els s := rfl
          have e2 : ar (push { s with bel := upd2 s.bel (s.at_.getD d.who 0) d.who (d.dst, (s.bel (s.at_.getD d.who 0) d.who).2 + 1), at_ := s.at_.set d.who 0 } (s.at_.getD d.who 0) d.dst ⟨1, d.who, 0, 0, 0, d.dst, (s.bel (s.at_.getD d.who 0) d.who).2 + 1⟩) W (fun v => if v = d.who then d.dst :: R d.who else R v) = ar s W R := by
            unfold ar
            refine sum_same _ fun v hv => ?_
            unfold arw
            show (if v = d.who then d.dst :: R d.who else R v).length - 1 - (if (s.at_.set d.who 0).getD v 0 = 0 then 1 else 0) = _
            by_cases ev : v = d.who
            · subst ev
              have hh : (s.at_.set d.who 0).getD d.who 0 = 0 := by rw [getD_set, if_pos ⟨rfl, c2⟩]
              rw [if_pos rfl, hh, if_pos rfl, if_neg c3]
              simp
            · have hh : (s.at_.set d.who 0).getD v 0 = s.at_.getD v 0 := by rw [getD_set, if_neg (fun e => ev e.1)]
              rw [if_neg ev, hh]
          rw [e2, e1]
          omega
      · have ed : doF s d = s := by
          unfold doF
          rw [if_neg k1, if_pos k2, if_neg hc]
        rw [ed] at hcd ⊢
        exact ⟨R, { h with core := hcd }, by omega⟩
    · by_cases k3 : d.kind = 3
      · cases e : chan s.ways d.src d.dst with
        | nil =>
          have ed : doF s d = s := by
            unfold doF
            rw [if_neg k1, if_neg k2, if_pos k3, e]
          rw [ed] at hcd ⊢
          exact ⟨R, { h with core := hcd }, by omega⟩
        | cons x r =>
          have ed : doF s d = come (pop s d.src d.dst r) d.dst x := by
            unfold doF
            rw [if_neg k1, if_neg k2, if_pos k3, e]
            rfl
          have hab : d.src ≠ d.dst := fun e2 => by
            have := (h.tr.ch d.src d.dst).off e2
            rw [e] at this
            cases this
          have c := come_res (q := fun x y => if x = d.src ∧ y = d.dst then 1 else 0) h e ⟨d5 (by omega), d2⟩ ⟨d6 (by omega), d3⟩ hab (fun w _ c c1 c2 c3 => by
            rw [if_neg (fun e => hab e.1.symm), if_pos ⟨rfl, rfl⟩]
            exact Nat.le_refl _)
          rw [ed] at hcd ⊢
          refine ⟨R, { c.dr with core := hcd }, ?_⟩
          rcases c.cn with ⟨e1, e2⟩ | ⟨w, v, e1, hw, h0, hv, e2⟩
          · have : ar (come (pop s d.src d.dst r) d.dst x) W R = ar s W R := by unfold ar arw; rw [e1]
            omega
          · have hm : ar (come (pop s d.src d.dst r) d.dst x) W R = ar s W R + 1 := by
              unfold ar
              refine sum_more (v := w) _ List.nodup_range (List.mem_range.2 hw) (fun u hu hne => ?_) ?_
              · have hh : (s.at_.set w v).getD u 0 = s.at_.getD u 0 := by rw [getD_set, if_neg (fun e => hne e.1)]
                unfold arw
                rw [e1, hh]
              · unfold arw
                obtain ⟨c', k', r', hR, _⟩ := h.tr.fly w hw h0
                have hh : (s.at_.set w v).getD w 0 = v := by rw [getD_set, if_pos ⟨rfl, by rw [h.core.al]; exact hw⟩]
                have hv0 : ¬ v = 0 := by omega
                rw [e1, hh, if_neg hv0, if_pos h0, hR]
                simp
            omega
      · have ed : doF s d = s := by
          unfold doF
          rw [if_neg k1, if_neg k2, if_neg k3]
        rw [ed] at hcd ⊢
        exact ⟨R, { h with core := hcd }, by omega⟩
theorem deeds : ∀ (D : List Dv) {s : Hb} {t : Nat} {S : Nat → Nat → List Nat} {R : Nat → List Nat}, Dr s W t S R all_ → (∀ d ∈ D, DOk s.nodes W d) → ∃ R', Dr (runF s D) W (t + D.length) (D.foldl putS S) R' all_ ∧ els (runF s D) + 2 * ar (runF s D) W R' ≤ els s + 2 * ar s W R + D.length
  | [], s, t, S, R, h, _ => ⟨R, h, by simp [runF]⟩
  | d :: D, s, t, S, R, h, hd => by
    obtain ⟨R1, h1, c1⟩ := deed h (hd d (by simp))
    obtain ⟨R2, h2, c2⟩ := deeds D h1 (fun e he => by rw [doF_nodes]; exact hd e (by simp [he]))
    refine ⟨R2, ?_, ?_⟩
    · rw [List.length_cons, show t + (D.length + 1) = t + 1 + D.length by omega]
      exact h2
    · rw [List.length_cons]
      show els (runF (doF s d) D) + 2 * ar (runF (doF s d) D) W R2 ≤ _
      omega
end
end Go.Mv
