/- Behind eight deeds of package move's simulation the measure is at most forty. No program in sight. -/
import Derived.Test.YtckkelppdeampaaMvCnt
set_option linter.unusedVariables false
namespace Go.Mv
open Go.Mem
def cost (c : Nat) (z : Nat → Nat) (l : List El) : Nat := (l.map fun x => if x.kind = 0 then c else if x.kind = 1 then z x.who else 1).sum
theorem pot_cost {c : Nat} (hc : 1 ≤ c) {g z : Nat → Nat} : ∀ (l : List El) (sn : Nat → Bool), (∀ x ∈ l, x.kind = 0 → g x.who ≤ c) → pot g z l sn ≤ cost c z l
  | [], _, _ => Nat.le_refl _
  | x :: r, sn, h => by
    have i := pot_cost hc (z := z) r (nxt sn x) fun y hy => h y (by simp [hy])
    have : val g z sn x ≤ if x.kind = 0 then c else if x.kind = 1 then z x.who else 1 := by
      unfold val vL
      split
      · rename_i k
        split
        · exact hc
        · exact h x (by simp) k
      · exact Nat.le_refl _
    rw [pot]
    unfold cost at i ⊢
    rw [List.map_cons, List.sum_cons]
    omega
theorem cost_len {c : Nat} (hc : 1 ≤ c) {z : Nat → Nat} (hz : ∀ w, z w ≤ 1) : ∀ (l : List El), cost c z l ≤ c * l.length
  | [] => by simp [cost]
  | x :: r => by
    have i := cost_len hc hz r
    have hx : (if x.kind = 0 then c else if x.kind = 1 then z x.who else 1) ≤ c := by
      split
      · exact Nat.le_refl _
      · split
        · exact Nat.le_trans (hz _) hc
        · exact hc
    unfold cost at *
    rw [List.map_cons, List.sum_cons, List.length_cons, Nat.mul_add]
    omega
theorem cost_act {c : Nat} (hc : 1 ≤ c) {z : Nat → Nat} (hz : ∀ w, z w ≤ 1) {w : Nat} : ∀ (l : List El), l.any (isA w) = true → cost c z l + (c - z w) ≤ c * l.length
  | [], h => by simp at h
  | x :: r, h => by
    have j := cost_len hc hz r
    have hzw := hz w
    rw [List.any_cons, Bool.or_eq_true] at h
    have hx : (if x.kind = 0 then c else if x.kind = 1 then z x.who else 1) ≤ c := by
      split
      · exact Nat.le_refl _
      · split
        · exact Nat.le_trans (hz _) hc
        · exact hc
    by_cases hxa : isA w x = true
    · obtain ⟨k1, k2⟩ := isA_iff.1 hxa
      have e : (if x.kind = 0 then c else if x.kind = 1 then z x.who else 1) = z w := by rw [if_neg (by omega), if_pos k1, k2]
      unfold cost at *
      rw [List.map_cons, List.sum_cons, List.length_cons, Nat.mul_add, e]
      omega
    · have i := cost_act hc hz r (h.resolve_left hxa)
      unfold cost at *
      rw [List.map_cons, List.sum_cons, List.length_cons, Nat.mul_add]
      omega
section
variable {s : Hb} {W t : Nat} {S : Nat → Nat → List Nat} {R : Nat → List Nat} {B B' : Nat → Bool} {q : Nat → Nat → Nat}
theorem zv_le (B : Nat → Bool) (w : Nat) : zv B w ≤ 1 := by unfold zv; split <;> omega
theorem tsum_mul (c : Nat) : ∀ (ws : Ways), tsum (fun _ l => c * l.length) ws = c * tsum (fun _ l => l.length) ws
  | [] => by simp [tsum]
  | p :: r => by
    have := tsum_mul c r
    unfold tsum at *
    simp only [List.map_cons, List.sum_cons, Nat.mul_add] at *
    omega
theorem T_cost (h : Core s W t S) {c : Nat} (hc : 1 ≤ c) (hg : ∀ a b x, x ∈ chan s.ways a b → x.kind = 0 → gS s R B q a b x.who ≤ c) : T s R B q ≤ c * els s := by
  have := tsum_le (F := tF s R B q) (G := fun _ l => c * l.length) s.ways (fun p hp => by
    have hpc := chan_of h.wk hp
    exact Nat.le_trans (pot_cost hc _ _ fun x hx k => hg p.1.1 p.1.2 x (by rw [hpc]; exact hx) k) (cost_len hc (zv_le B) _))
  rw [tsum_mul] at this
  exact this
theorem T_act (h : Core s W t S) {c : Nat} (hc : 1 ≤ c) (hg : ∀ a b x, x ∈ chan s.ways a b → x.kind = 0 → gS s R B q a b x.who ≤ c) {a b w : Nat} (ha : (chan s.ways a b).any (isA w) = true) : T s R B q + (c - zv B w) ≤ c * els s := by
  have h1 := tsum_put (tF s R B q) (tF_nil s R B q) s.ways a b [] h.wk
  have h2 := tsum_put (fun _ l => l.length) (fun _ => rfl) s.ways a b [] h.wk
  have h3 := tsum_le (F := tF s R B q) (G := fun _ l => c * l.length) (mput s.ways (a, b) []) (fun p hp => by
    rcases mem_put hp with rfl | hp
    · simp [tF, pot]
    · have hpc := chan_of h.wk hp
      exact Nat.le_trans (pot_cost hc _ _ fun x hx k => hg p.1.1 p.1.2 x (by rw [hpc]; exact hx) k) (cost_len hc (zv_le B) _))
  rw [tsum_mul] at h3
  have h4 : tF s R B q (a, b) (chan s.ways a b) ≤ cost c (zv B) (chan s.ways a b) := pot_cost hc _ _ fun x hx k => hg a b x hx k
  have h5 := cost_act hc (zv_le B) (chan s.ways a b) ha
  rw [tF_nil] at h1
  have h6 : c * els s = c * tsum (fun _ l => l.length) (mput s.ways (a, b) []) + c * (chan s.ways a b).length := by
    rw [← Nat.mul_add]
    congr 1
    unfold els
    simp only [List.length_nil] at h2
    omega
  unfold T
  rw [h6]
  omega
theorem Dr.again (h : Dr s W t S R all_) (hg : ∀ a b x, x ∈ chan s.ways a b → x.kind = 0 → s.at_.getD x.who 0 = 0 → B x.who = false → (R x.who).length ≤ (s.bel ((R x.who).headD 0) x.who).2 + 2) : Dr s W t S R B := { h with gd := hg }
/-- actors whose letters may go round, and that come early enough -/
def badB (s : Hb) (W : Nat) (R : Nat → List Nat) (w : Nat) : Bool :=
  decide (w < W) && decide (s.at_.getD w 0 = 0) && decide ((s.bel ((R w).headD 0) w).2 + 2 < (R w).length) && ((chan s.ways ((R w).getD 1 0) ((R w).getD 0 0)).take 5).any (isA w)
theorem badB_iff {w : Nat} : badB s W R w = true ↔ w < W ∧ s.at_.getD w 0 = 0 ∧ (s.bel ((R w).headD 0) w).2 + 2 < (R w).length ∧ ((chan s.ways ((R w).getD 1 0) ((R w).getD 0 0)).take 5).any (isA w) = true := by
  unfold badB
  rw [Bool.and_eq_true, Bool.and_eq_true, Bool.and_eq_true, decide_eq_true_eq, decide_eq_true_eq, decide_eq_true_eq]
  exact ⟨fun ⟨⟨⟨a, b⟩, c⟩, d⟩ => ⟨a, b, c, d⟩, fun ⟨a, b, c, d⟩ => ⟨⟨⟨a, b⟩, c⟩, d⟩⟩
/-- a late one has no letter on its way -/
theorem late (h : Dr s W t S R all_) (h8 : els s + 2 * ar s W R ≤ 8) {w : Nat} (hw : w < W) (h0 : s.at_.getD w 0 = 0) (hb : (s.bel ((R w).headD 0) w).2 + 2 < (R w).length)
    (hl : ((chan s.ways ((R w).getD 1 0) ((R w).getD 0 0)).take 5).any (isA w) = false) : ∀ a b y, y ∈ chan s.ways a b → y.kind = 0 → y.who ≠ w := by
  obtain ⟨c, k, r, hR, hck⟩ := h.tr.fly w hw h0
  have e0 : (R w).getD 0 0 = c := by rw [hR]; rfl
  have e1 : (R w).getD 1 0 = k := by rw [hR]; rfl
  have e2 : (R w).headD 0 = c := by rw [hR]; rfl
  rw [e0, e1] at hl
  rw [e2] at hb
  have hlen : (R w).length = r.length + 2 := by rw [hR]; rfl
  have har : arw s R w ≤ ar s W R := sum_mem _ (List.mem_range.2 hw)
  have har2 : arw s R w = r.length := by
    unfold arw
    rw [if_pos h0, hlen]
    omega
  have hcnt := (h.tr.ch k c).cnt w hw h0 r hR
  have hsplit : (chan s.ways k c).take 5 ++ (chan s.ways k c).drop 5 = chan s.ways k c := List.take_append_drop 5 _
  have ht0 : ((chan s.ways k c).take 5).countP (isA w) = 0 := by
    rw [List.countP_eq_zero]
    intro x hx hxa
    have : ((chan s.ways k c).take 5).any (isA w) = true := List.any_eq_true.2 ⟨x, hx, hxa⟩
    rw [hl] at this
    cases this
  have hd1 : ((chan s.ways k c).drop 5).countP (isA w) = 1 := by
    rw [← hsplit, List.countP_append, ht0] at hcnt
    omega
  have hd2 : 1 ≤ ((chan s.ways k c).drop 5).length := by
    have := List.countP_le_length (p := isA w) (l := (chan s.ways k c).drop 5)
    omega
  have h6 : 6 ≤ (chan s.ways k c).length := by
    rw [List.length_drop] at hd2
    omega
  have hle : (chan s.ways k c).length ≤ els s := tsum_chan (fun _ l => l.length) (fun _ => rfl) s.ways k c
  have hr1 : r.length = 1 := by omega
  obtain ⟨p0, rfl⟩ : ∃ p0, r = [p0] := by
    match r, hr1 with
    | [p0], _ => exact ⟨p0, rfl⟩
  have hcr := h.tr.rg w hw c (by rw [hR]; simp)
  have hp0 : c ≠ p0 := fun e => by
    have hp : pos (R w) 0 c := by rw [hR, e]; rfl
    have := h.tr.up c w 0 hcr.1 hcr.2 hw hp (by omega)
    omega
  have hnt : c ∉ (R w).tail := by
    rw [hR]
    simp
    exact ⟨hck, hp0⟩
  intro a b y hy hk ew
  by_cases hab : a = k ∧ b = c
  · obtain ⟨rfl, rfl⟩ := hab
    obtain ⟨x, hx⟩ : ∃ x, (chan s.ways a b).drop 5 = [x] := by
      have : ((chan s.ways a b).drop 5).length = 1 := by rw [List.length_drop]; omega
      match (chan s.ways a b).drop 5, this with
      | [x], _ => exact ⟨x, rfl⟩
    rw [hx] at hd1 hsplit
    have hxa : isA w x = true := by
      cases hh : isA w x
      · rw [List.countP_cons, if_neg (by simp [hh])] at hd1
        simp at hd1
      · rfl
    obtain ⟨x1, x2⟩ := isA_iff.1 hxa
    have hy5 : y ∈ (chan s.ways a b).take 5 := by
      rw [← hsplit] at hy
      rcases List.mem_append.1 hy with hy | hy
      · exact hy
      · rw [List.mem_singleton] at hy
        subst hy
        omega
    have := (h.tr.ch a b).ahd _ x [] hsplit.symm x1 y hy5 hk (by rw [ew, x2])
    rw [x2] at this
    exact hnt this
  · have h2 := tsum_two (fun _ l => l.length) (fun _ => rfl) s.ways h.core.wk (a := k) (b := c) (c := a) (d := b) hab
    have h3 : (chan s.ways a b).length = 0 := by
      have : els s = tsum (fun _ l => l.length) s.ways := rfl
      omega
    rw [List.length_eq_zero_iff.1 h3] at hy
    simp at hy
theorem q_le (P : List (Nat × Nat)) (a b : Nat) : qP P a b ≤ 3 := by
  unfold qP tab
  (repeat' split) <;> omega
theorem start (h : Dr s W t S R all_) (h8 : els s + 2 * ar s W R ≤ 8) : Dr s W t S R (badB s W R) ∧ (∀ w, badB s W R w = true → w < W) ∧ (∀ w, w < W → badB s W R w = true → s.at_.getD w 0 = 0 → Early s R w) ∧ T s R (badB s W R) (qP (pairs s.nodes)) ≤ 40 := by
  have hgd : ∀ a b x, x ∈ chan s.ways a b → x.kind = 0 → s.at_.getD x.who 0 = 0 → badB s W R x.who = false → (R x.who).length ≤ (s.bel ((R x.who).headD 0) x.who).2 + 2 := by
    intro a b x hx hk h0 hB
    by_cases hb : (s.bel ((R x.who).headD 0) x.who).2 + 2 < (R x.who).length
    · have hw := (h.core.chan a b x hx).who
      have hl : ((chan s.ways ((R x.who).getD 1 0) ((R x.who).getD 0 0)).take 5).any (isA x.who) = false := by
        cases hh : ((chan s.ways ((R x.who).getD 1 0) ((R x.who).getD 0 0)).take 5).any (isA x.who)
        · rfl
        · have := badB_iff.2 ⟨hw, h0, hb, hh⟩
          rw [hB] at this
          cases this
      exact absurd rfl (late h h8 hw h0 hb hl a b x hx hk)
    · omega
  refine ⟨h.again hgd, fun w hw => (badB_iff.1 hw).1, fun w hw hB h0 c k r hR => ?_, ?_⟩
  · have := (badB_iff.1 hB).2.2.2
    rw [hR] at this
    exact this
  · have hb8 : ∀ a b x, x ∈ chan s.ways a b → x.kind = 0 → gS s R (badB s W R) (qP (pairs s.nodes)) a b x.who ≤ 8 := by
      intro a b x hx hk
      have hin := (pairs_ok _ (chan_in h (fun e => by rw [e] at hx; simp at hx)) : _).2.1
      have := rho_le (n := s.nodes) (r := R x.who) (b := b) hin h.n3
      have := q_le (pairs s.nodes) a b
      unfold gS gv
      (repeat' split) <;> omega
    have hact : ∀ w, w < W → s.at_.getD w 0 = 0 → ∃ a b, (chan s.ways a b).any (isA w) = true := by
      intro w hw h0
      obtain ⟨c, k, r, hR, _⟩ := h.tr.fly w hw h0
      have hc := (h.tr.ch k c).cnt w hw h0 r hR
      obtain ⟨x, hx, hxa⟩ := List.countP_pos_iff.1 (show 0 < (chan s.ways k c).countP (isA w) by omega)
      exact ⟨k, c, List.any_eq_true.2 ⟨x, hx, hxa⟩⟩
    by_cases har : ar s W R = 0
    · have hle : ∀ w, w < W → arw s R w = 0 := fun w hw => by
        have := sum_mem (f := arw s R) _ (List.mem_range.2 hw)
        unfold ar at har
        omega
      have hset : ∀ a b x, x ∈ chan s.ways a b → x.kind = 0 → s.at_.getD x.who 0 ≠ 0 → gS s R (badB s W R) (qP (pairs s.nodes)) a b x.who ≤ 1 := by
        intro a b x hx hk h0
        have hw := (h.core.chan a b x hx).who
        have h1 := hle _ hw
        unfold arw at h1
        rw [if_neg h0] at h1
        obtain ⟨⟨r, hR⟩, _⟩ := h.tr.fix x.who hw h0
        have hm := (h.tr.ch a b).let_ x hx hk
        rw [hR] at h1 hm
        have hr : r = [] := List.eq_nil_of_length_eq_zero (by simpa using h1)
        subst hr
        have hb : b = s.at_.getD x.who 0 := by simpa using hm
        unfold gS gv
        rw [if_pos h0, rho_zero (by rw [hR, idx_cons, if_pos hb.symm])]
        exact Nat.le_refl _
      have hfly : ∀ a b x, x ∈ chan s.ways a b → x.kind = 0 → s.at_.getD x.who 0 = 0 → gS s R (badB s W R) (qP (pairs s.nodes)) a b x.who ≤ 5 := by
        intro a b x hx hk h0
        have hw := (h.core.chan a b x hx).who
        have h1 := hle _ hw
        unfold arw at h1
        rw [if_pos h0] at h1
        obtain ⟨c, k, r, hR, hck⟩ := h.tr.fly x.who hw h0
        have hm := (h.tr.ch a b).let_ x hx hk
        have hr : r = [] := by
          rw [hR] at h1
          exact List.eq_nil_of_length_eq_zero (by simpa using h1)
        subst hr
        have hB : badB s W R x.who = false := by
          cases hh : badB s W R x.who
          · rfl
          · have := (badB_iff.1 hh).2.2.1
            rw [hR, List.length_cons, List.length_cons, List.length_nil] at this
            omega
        unfold gS gv
        rw [if_neg (by simpa using h0), hB]
        simp only [Bool.false_eq_true, if_false]
        rw [hR] at hm ⊢
        have hm' : b = c ∨ b = k := by simpa using hm
        rcases hm' with rfl | rfl
        · rw [idx_cons, if_pos rfl]; exact Nat.le_refl _
        · rw [idx_cons, if_neg hck, idx_cons, if_pos rfl]
          simp
      have h5 : ∀ a b x, x ∈ chan s.ways a b → x.kind = 0 → gS s R (badB s W R) (qP (pairs s.nodes)) a b x.who ≤ 5 := by
        intro a b x hx hk
        by_cases h0 : s.at_.getD x.who 0 = 0
        · exact hfly a b x hx hk h0
        · have := hset a b x hx hk h0; omega
      by_cases hex : ∃ w, w < W ∧ s.at_.getD w 0 = 0
      · obtain ⟨w, hw, h0⟩ := hex
        obtain ⟨a, b, hab⟩ := hact w hw h0
        have := T_act h.core (by omega) h5 hab
        have := zv_le (badB s W R) w
        omega
      · have h1 : ∀ a b x, x ∈ chan s.ways a b → x.kind = 0 → gS s R (badB s W R) (qP (pairs s.nodes)) a b x.who ≤ 1 := fun a b x hx hk => hset a b x hx hk (fun e => hex ⟨_, (h.core.chan a b x hx).who, e⟩)
        have := T_cost h.core (Nat.le_refl 1) h1
        omega
    · by_cases hex : ∃ w, badB s W R w = true
      · obtain ⟨w, hB⟩ := hex
        obtain ⟨b1, b2, b3, b4⟩ := badB_iff.1 hB
        obtain ⟨a, b, hab⟩ := hact w b1 b2
        have := T_act h.core (by omega) hb8 hab
        have hz : zv (badB s W R) w = 0 := by unfold zv; rw [if_pos hB]
        rw [hz] at this
        omega
      · have hBf : ∀ w, badB s W R w = false := fun w => by
          cases hh : badB s W R w
          · rfl
          · exact absurd ⟨w, hh⟩ hex
        have h7 : ∀ a b x, x ∈ chan s.ways a b → x.kind = 0 → gS s R (badB s W R) (qP (pairs s.nodes)) a b x.who ≤ 7 ∧ (s.at_.getD x.who 0 ≠ 0 → gS s R (badB s W R) (qP (pairs s.nodes)) a b x.who ≤ 5) := by
          intro a b x hx hk
          have hin := (pairs_ok _ (chan_in h (fun e => by rw [e] at hx; simp at hx)) : _).2.1
          have := rho_le (n := s.nodes) (r := R x.who) (b := b) hin h.n3
          unfold gS gv
          rw [hBf]
          simp only [Bool.false_eq_true, if_false]
          refine ⟨?_, fun h0 => ?_⟩
          · (repeat' split) <;> omega
          · rw [if_pos h0]
            omega
        by_cases hex2 : ∃ w, w < W ∧ s.at_.getD w 0 = 0
        · obtain ⟨w, hw, h0⟩ := hex2
          obtain ⟨a, b, hab⟩ := hact w hw h0
          have := T_act h.core (by omega) (fun a b x hx hk => (h7 a b x hx hk).1) hab
          have := zv_le (badB s W R) w
          omega
        · have := T_cost h.core (show 1 ≤ 5 by omega) (fun a b x hx hk => (h7 a b x hx hk).2 (fun e => hex2 ⟨_, (h.core.chan a b x hx).who, e⟩))
          omega
/-- behind eight deeds twelve rounds empty the channels -/
theorem drained {nodes : Nat} {C : List Nat} (h1 : 1 ≤ nodes ∧ nodes ≤ 3) (hC : ∀ c ∈ C, 1 ≤ c ∧ c ≤ nodes) {D : List Dv} (hD : ∀ d ∈ D, DOk nodes C.length d) (h8 : D.length ≤ 8) :
    ∃ R, Dr (runF (newF nodes C) (D ++ rounds nodes 12)) C.length (0 + D.length) (D.foldl putS (fun _ _ => [])) R none_ ∧ ∀ a b, chan (runF (newF nodes C) (D ++ rounds nodes 12)).ways a b = [] := by
  obtain ⟨R, h, hc⟩ := deeds D (tr_new h1 hC) hD
  have hn := ar_new nodes C
  obtain ⟨k1, k2, k3, k4⟩ := start h (by omega)
  have hnodes : (runF (newF nodes C) D).nodes = nodes := by
    have : ∀ (D : List Dv) (s : Hb), (runF s D).nodes = s.nodes := by
      intro D
      induction D with
      | nil => intro s; rfl
      | cons d D ih => intro s; exact (ih _).trans (doF_nodes s d)
    exact this D _
  have := twelve k1 k2 k4 k3
  rw [hnodes] at this
  rw [run_app]
  exact ⟨R, this⟩
end
end Go.Mv
