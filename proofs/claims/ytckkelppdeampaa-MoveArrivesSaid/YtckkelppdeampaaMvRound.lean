/- All that is on its way comes, round by round, in package move's simulation: eleven rounds suffice behind the first. No program in sight. -/
import Derived.Test.YtckkelppdeampaaMvStep
set_option linter.unusedVariables false
namespace Go.Mv
open Go.Mem
section
variable {s : Hb} {W t : Nat} {S : Nat → Nat → List Nat} {R : Nat → List Nat} {B : Nat → Bool} {q : Nat → Nat → Nat}
theorem come_res (h : Dr s W t S R B) {a b : Nat} {x : El} {r : List El} (e : chan s.ways a b = x :: r) (ha : 1 ≤ a ∧ a ≤ s.nodes) (hb : 1 ≤ b ∧ b ≤ s.nodes) (hab : a ≠ b)
    (hq : ∀ w, B w = true → ∀ c, 1 ≤ c → c ≤ s.nodes → c ≠ b → q b c + 1 ≤ q a b) : Res s (come (pop s a b r) b x) W t S R B q a b r := by
  by_cases h0 : x.kind = 0
  · have := come_letter h e h0 ha hb hab hq
    unfold come
    rw [if_pos h0]
    exact this
  · by_cases h1 : x.kind = 1
    · exact come_actor h e h1 ha hb hab
    · exact come_notice h e h0 h1 ha hb hab
def cm (a b : Nat) : Dv := ⟨3, a, b, 0, 0⟩
theorem do_cm (s : Hb) (a b : Nat) : doF s (cm a b) = match chan s.ways a b with | [] => s | x :: r => come (pop s a b r) b x := by
  unfold doF cm
  simp only [show ¬ (3 : Nat) = 1 from by omega, show ¬ (3 : Nat) = 2 from by omega, if_false, if_true]
  rfl
/-- what a turn of a channel does -/
structure Trn (s s' : Hb) (W t : Nat) (S : Nat → Nat → List Nat) (R : Nat → List Nat) (B : Nat → Bool) (q : Nat → Nat → Nat) (a b n : Nat) : Prop where
  dr : Dr s' W t S R B
  ch : chan s'.ways a b = (chan s.ways a b).drop n
  le : T s' R B q ≤ T s R B q
  lt : (∀ w, B w = false) → T s' R B q + min n (chan s.ways a b).length ≤ T s R B q
  al : (∀ w, B w = false) → ∀ (N : Nat → Nat → Nat) (M : Nat), (∀ a b, M ≤ N a b ∧ N a b ≤ M + 2) → AllH s R B q N → AllH s' R B q N
  at_ : ∀ w, s.at_.getD w 0 ≠ 0 → s'.at_.getD w 0 ≠ 0
  nodes : s'.nodes = s.nodes
  grow : ∀ c d, ¬ (c = a ∧ d = b) → ∃ l, chan s'.ways c d = chan s.ways c d ++ l
theorem turn {a b : Nat} (hab : a ≠ b) : ∀ (n : Nat) {s : Hb}, Dr s W t S R B → (1 ≤ a ∧ a ≤ s.nodes) → (1 ≤ b ∧ b ≤ s.nodes) → (∀ w, B w = true → ∀ c, 1 ≤ c → c ≤ s.nodes → c ≠ b → q b c + 1 ≤ q a b) →
    Trn s (runF s (List.replicate n (cm a b))) W t S R B q a b n
  | 0, s, h, _, _, _ => ⟨h, rfl, Nat.le_refl _, fun _ => by simp [runF], fun _ N M _ hA => hA, fun w hw => hw, rfl, fun c d _ => ⟨[], by simp [runF]⟩⟩
  | n + 1, s, h, ha, hb, hq => by
    have er : runF s (List.replicate (n + 1) (cm a b)) = runF (doF s (cm a b)) (List.replicate n (cm a b)) := rfl
    rw [er, do_cm]
    cases e : chan s.ways a b with
    | nil =>
      have i := turn hab n h ha hb hq
      simp only
      refine ⟨i.dr, by rw [i.ch, e]; simp, i.le, fun hB => by have := i.lt hB; rw [e] at this ⊢; simpa using this, i.al, i.at_, i.nodes, i.grow⟩
    | cons x r =>
      have c := come_res (q := q) h e ha hb hab hq
      simp only
      have i := turn hab n c.dr (by rw [c.nodes]; exact ha) (by rw [c.nodes]; exact hb) (by rw [c.nodes]; exact hq)
      refine ⟨i.dr, by rw [i.ch, c.ch, e]; rfl, Nat.le_trans i.le c.le, fun hB => ?_, fun hB N M hN hA => i.al hB N M hN (c.al hB N M hN hA), fun w hw => i.at_ w (c.at_ w hw), i.nodes.trans c.nodes, fun c' d hcd => ?_⟩
      · have h1 := i.lt hB
        have h2 := c.lt hB
        rw [c.ch] at h1
        rw [e, List.length_cons]
        omega
      · obtain ⟨l1, g1⟩ := c.grow c' d hcd
        obtain ⟨l2, g2⟩ := i.grow c' d hcd
        exact ⟨l1 ++ l2, by rw [g2, g1, List.append_assoc]⟩
def rd (P : List (Nat × Nat)) : List Dv := (P.map fun p => List.replicate 5 (cm p.1 p.2)).flatten
theorem rd_cons (p : Nat × Nat) (P : List (Nat × Nat)) (s : Hb) : runF s (rd (p :: P)) = runF (runF s (List.replicate 5 (cm p.1 p.2))) (rd P) := by
  unfold rd
  rw [List.map_cons, List.flatten_cons, run_app]
def PairOk (n : Nat) (P : List (Nat × Nat)) : Prop := ∀ p ∈ P, (1 ≤ p.1 ∧ p.1 ≤ n) ∧ (1 ≤ p.2 ∧ p.2 ≤ n) ∧ p.1 ≠ p.2
def none_ : Nat → Bool := fun _ => false
theorem chan_le_T (h : Dr s W t S R none_) (a b : Nat) : (chan s.ways a b).length ≤ T s R none_ q := by
  have h1 := tsum_chan (tF s R none_ q) (tF_nil s R none_ q) s.ways a b
  have h2 : (chan s.ways a b).length ≤ tF s R none_ q (a, b) (chan s.ways a b) := pot_len (fun _ => gv_pos _ _ _ _ _ _ _ _) (fun _ => by simp [zv, none_]) _ _
  exact Nat.le_trans h2 h1
theorem T_zero (h : Dr s W t S R none_) (he : ∀ a b, chan s.ways a b = []) : T s R none_ q = 0 := by
  have := tsum_le (F := tF s R none_ q) (G := fun _ _ => 0) s.ways (fun p hp => by
    have := chan_of h.core.wk hp
    rw [he] at this
    rw [← this]
    exact Nat.le_refl _)
  have h0 : ∀ ws : Ways, tsum (fun _ _ => 0) ws = 0 := by
    intro ws
    unfold tsum
    induction ws with
    | nil => rfl
    | cons p r ih => simpa using ih
  rw [h0] at this
  unfold T
  omega
/-- a round keeps what holds -/
theorem round_keep {N : Nat → Nat → Nat} {M : Nat} (hN : ∀ a b, M ≤ N a b ∧ N a b ≤ M + 2) : ∀ (P : List (Nat × Nat)) {s : Hb}, Dr s W t S R none_ → PairOk s.nodes P → AllH s R none_ q N →
    Dr (runF s (rd P)) W t S R none_ ∧ AllH (runF s (rd P)) R none_ q N ∧ T (runF s (rd P)) R none_ q ≤ T s R none_ q ∧ (runF s (rd P)).nodes = s.nodes
  | [], s, h, _, hA => ⟨h, hA, Nat.le_refl _, rfl⟩
  | p :: P, s, h, hP, hA => by
    obtain ⟨p1, p2, p3⟩ := hP p (by simp)
    have i := turn (q := q) p3 5 h p1 p2 (fun w hw => by cases hw)
    have hno : ∀ w, none_ w = false := fun _ => rfl
    obtain ⟨j1, j2, j3, j4⟩ := round_keep hN P i.dr (by rw [i.nodes]; exact fun p hp => hP p (by simp [hp])) (i.al hno N M hN hA)
    rw [rd_cons]
    exact ⟨j1, j2, Nat.le_trans j3 i.le, j4.trans i.nodes⟩
def bnd (H : Nat) (dn : Nat × Nat → Bool) : Nat → Nat → Nat := fun a b => if dn (a, b) then 2 * H else 2 * H + 2
theorem bnd_ok (H : Nat) (dn : Nat × Nat → Bool) : ∀ a b, 2 * H ≤ bnd H dn a b ∧ bnd H dn a b ≤ 2 * H + 2 := fun a b => by unfold bnd; split <;> omega
/-- a round: the measure falls by five, or every element that was there has come -/
theorem round {H : Nat} : ∀ (P : List (Nat × Nat)) (dn : Nat × Nat → Bool) {s : Hb} {n : Nat}, Dr s W t S R none_ → PairOk s.nodes P → AllH s R none_ q (bnd H dn) → T s R none_ q ≤ 5 * n + 5 →
    (∃ k, n = k + 1 ∧ Dr (runF s (rd P)) W t S R none_ ∧ AllH (runF s (rd P)) R none_ q (fun _ _ => 2 * H + 2) ∧ T (runF s (rd P)) R none_ q ≤ 5 * k + 5 ∧ (runF s (rd P)).nodes = s.nodes) ∨
    (Dr (runF s (rd P)) W t S R none_ ∧ AllH (runF s (rd P)) R none_ q (bnd H fun p => dn p || decide (p ∈ P)) ∧ T (runF s (rd P)) R none_ q ≤ 5 * n + 5 ∧ (runF s (rd P)).nodes = s.nodes)
  | [], dn, s, n, h, _, hA, hT => .inr ⟨h, by have : (fun p => dn p || decide (p ∈ ([] : List (Nat × Nat)))) = dn := by funext p; simp
                                              rw [this]; exact hA, hT, rfl⟩
  | p :: P, dn, s, n, h, hP, hA, hT => by
    obtain ⟨p1, p2, p3⟩ := hP p (by simp)
    have i := turn (q := q) p3 5 h p1 p2 (fun w hw => by cases hw)
    have hno : ∀ w, none_ w = false := fun _ => rfl
    have hP' : PairOk (runF s (List.replicate 5 (cm p.1 p.2))).nodes P := by rw [i.nodes]; exact fun p hp => hP p (by simp [hp])
    have hA' := i.al hno _ (2 * H) (bnd_ok H dn) hA
    have hlt := i.lt hno
    rw [rd_cons]
    by_cases hl : (chan s.ways p.1 p.2).length ≤ 5
    · have hA2 : AllH (runF s (List.replicate 5 (cm p.1 p.2))) R none_ q (bnd H fun x => dn x || decide (x = p)) := by
        intro a b
        by_cases e : (a, b) = p
        · have e1 : a = p.1 := by rw [← e]
          have e2 : b = p.2 := by rw [← e]
          rw [e1, e2, i.ch, List.drop_eq_nil_of_le hl]
          exact True.intro
        · have : bnd H (fun x => dn x || decide (x = p)) a b = bnd H dn a b := by unfold bnd; simp [e]
          rw [this]
          exact hA' a b
      rcases round P _ i.dr hP' hA2 (by have := i.le; omega : T _ R none_ q ≤ 5 * n + 5) with ⟨k, k1, k2, k3, k4, k5⟩ | ⟨k2, k3, k4, k5⟩
      · exact .inl ⟨k, k1, k2, k3, k4, k5.trans i.nodes⟩
      · refine .inr ⟨k2, ?_, k4, k5.trans i.nodes⟩
        have : (fun x => (dn x || decide (x = p)) || decide (x ∈ P)) = (fun x => dn x || decide (x ∈ p :: P)) := by
          funext x
          rw [Bool.or_assoc]
          congr 1
          simp
        rw [← this]
        exact k3
    · have hTl := chan_le_T (q := q) h p.1 p.2
      have hk : n = (n - 1) + 1 := by omega
      obtain ⟨j1, j2, j3, j4⟩ := round_keep (q := q) (bnd_ok H dn) P i.dr hP' hA'
      refine .inl ⟨n - 1, hk, j1, fun a b => ?_, by omega, j4.trans i.nodes⟩
      exact allp_mono (fun _ => Nat.le_refl _) (bnd_ok H dn a b).2 _ (fun _ => Nat.le_refl _) (j2 a b)
/-- the pairs of different nodes -/
def pairs (n : Nat) : List (Nat × Nat) := if n = 3 then [(1, 2), (1, 3), (2, 1), (2, 3), (3, 1), (3, 2)] else if n = 2 then [(1, 2), (2, 1)] else []
theorem pairs_ok {n : Nat} : PairOk n (pairs n) := by
  intro p hp
  unfold pairs at hp
  split at hp
  · rename_i e; subst e
    simp only [List.mem_cons, List.not_mem_nil, or_false] at hp
    rcases hp with rfl | rfl | rfl | rfl | rfl | rfl <;> simp
  · split at hp
    · rename_i e; subst e
      simp only [List.mem_cons, List.not_mem_nil, or_false] at hp
      rcases hp with rfl | rfl <;> simp
    · simp at hp
theorem pairs_all {n a b : Nat} (hn : n ≤ 3) (ha : 1 ≤ a ∧ a ≤ n) (hb : 1 ≤ b ∧ b ≤ n) (hab : a ≠ b) : (a, b) ∈ pairs n := by
  unfold pairs
  rcases (show n = 1 ∨ n = 2 ∨ n = 3 from by omega) with rfl | rfl | rfl
  · omega
  · have : (a = 1 ∧ b = 2) ∨ (a = 2 ∧ b = 1) := by omega
    rcases this with ⟨rfl, rfl⟩ | ⟨rfl, rfl⟩ <;> simp
  · have : (a = 1 ∧ b = 2) ∨ (a = 1 ∧ b = 3) ∨ (a = 2 ∧ b = 1) ∨ (a = 2 ∧ b = 3) ∨ (a = 3 ∧ b = 1) ∨ (a = 3 ∧ b = 2) := by omega
    rcases this with ⟨rfl, rfl⟩ | ⟨rfl, rfl⟩ | ⟨rfl, rfl⟩ | ⟨rfl, rfl⟩ | ⟨rfl, rfl⟩ | ⟨rfl, rfl⟩ <;> simp
theorem chan_in (h : Dr s W t S R B) {a b : Nat} (hne : chan s.ways a b ≠ []) : (a, b) ∈ pairs s.nodes := by
  have hab : a ≠ b := fun e => hne ((h.tr.ch a b).off e)
  have hr : (1 ≤ a ∧ a ≤ s.nodes) ∧ (1 ≤ b ∧ b ≤ s.nodes) := by
    unfold chan at hne
    cases hg : mget s.ways (a, b) with
    | none => rw [hg] at hne; exact absurd rfl hne
    | some l => exact (h.core.ways _ (mget_mem hg)).1
  exact pairs_all h.n3 hr.1 hr.2 hab
def rounds (n : Nat) : Nat → List Dv
  | 0 => []
  | m + 1 => rd (pairs n) ++ rounds n m
/-- .. so many rounds empty the channels -/
theorem rounds_empty : ∀ (m : Nat) {H n : Nat} {s : Hb}, m = H + n → Dr s W t S R none_ → AllH s R none_ q (fun _ _ => 2 * H) → T s R none_ q ≤ 5 * n + 5 → Dr (runF s (rounds s.nodes m)) W t S R none_ ∧ T (runF s (rounds s.nodes m)) R none_ q = 0
  | 0, H, n, s, hm, h, hA, hT => by
    refine ⟨h, T_zero h fun a b => ?_⟩
    obtain rfl : H = 0 := by omega
    exact allp_none (by show 2 * 0 ≤ 1; omega) (fun _ => gv_pos _ _ _ _ _ _ _ _) (fun _ => by simp [zv, none_]) (hA a b)
  | m + 1, H, n, s, hm, h, hA, hT => by
    have er : runF s (rounds s.nodes (m + 1)) = runF (runF s (rd (pairs s.nodes))) (rounds s.nodes m) := by
      rw [rounds, run_app]
    rw [er]
    cases H with
    | zero =>
      have h0 : T s R none_ q = 0 := T_zero h fun a b => allp_none (by show 2 * 0 ≤ 1; omega) (fun _ => gv_pos _ _ _ _ _ _ _ _) (fun _ => by simp [zv, none_]) (hA a b)
      obtain ⟨j1, j2, j3, j4⟩ := round_keep (q := q) (N := fun _ _ => 2 * 0) (M := 0) (fun a b => by show 0 ≤ 2 * 0 ∧ 2 * 0 ≤ 0 + 2; omega) (pairs s.nodes) h pairs_ok hA
      have := rounds_empty m (H := 0) (n := m) (by omega) j1 j2 (by omega)
      rw [j4] at this
      exact this
    | succ H =>
      have hA2 : AllH s R none_ q (bnd H fun _ => false) := hA
      rcases round (H := H) (pairs s.nodes) (fun _ => false) h pairs_ok hA2 hT with ⟨k, k1, k2, k3, k4, k5⟩ | ⟨k2, k3, k4, k5⟩
      · have := rounds_empty m (H := H + 1) (n := k) (by omega) k2 k3 k4
        rw [k5] at this
        exact this
      · suffices hA3 : AllH (runF s (rd (pairs s.nodes))) R none_ q (fun _ _ => 2 * H) by
          have := rounds_empty m (H := H) (n := n) (by omega) k2 hA3 k4
          rw [k5] at this
          exact this
        intro a b
        by_cases hne : chan (runF s (rd (pairs s.nodes))).ways a b = []
        · rw [hne]; exact True.intro
        · have hin := chan_in k2 hne
          rw [k5] at hin
          have := k3 a b
          unfold bnd at this
          rw [if_pos (by simp [hin])] at this
          exact this

/-! ### the first round -/
def tab (a b : Nat) : Nat := if (a, b) = (1, 2) then 3 else if (a, b) = (1, 3) then 2 else if (a, b) = (2, 3) then 2 else 1
def qP (P : List (Nat × Nat)) (a b : Nat) : Nat := if (a, b) ∈ P then tab a b else 0
def okQ (n : Nat) : List (Nat × Nat) → Bool
  | [] => true
  | p :: P => (List.range (n + 1)).all (fun c => decide (c = p.2) || decide (qP (p :: P) p.2 c + 1 ≤ qP (p :: P) p.1 p.2)) && okQ n P
theorem okQ_pairs {n : Nat} (hn : n ≤ 3) : okQ n (pairs n) = true := by
  rcases (show n = 0 ∨ n = 1 ∨ n = 2 ∨ n = 3 from by omega) with rfl | rfl | rfl | rfl <;> decide
theorem qP_le (p : Nat × Nat) (P : List (Nat × Nat)) (a b : Nat) : qP P a b ≤ qP (p :: P) a b := by
  unfold qP
  split
  · rename_i h
    rw [if_pos (by simp [h])]
    exact Nat.le_refl _
  · omega
theorem T_q {q' : Nat → Nat → Nat} (h : ∀ a b, q' a b ≤ q a b) : T s R B q' ≤ T s R B q := by
  refine tsum_le s.ways fun p _ => pot_mono (fun _ => Nat.le_refl _) _ fun w => ?_
  unfold vL no gS gv
  simp only [Bool.false_eq_true, if_false]
  split
  · exact Nat.le_refl _
  · split
    · have := h p.1.1 p.1.2; omega
    · exact Nat.le_refl _
/-- an actor that comes early enough -/
def Early (s : Hb) (R : Nat → List Nat) (w : Nat) : Prop := ∀ c k r, R w = c :: k :: r → ((chan s.ways k c).take 5).any (isA w) = true
theorem any_take {l m : List El} {w n : Nat} (h : (l.take n).any (isA w) = true) : ((l ++ m).take n).any (isA w) = true := by
  rw [List.take_append, List.any_append, h]
  rfl
theorem first {W t : Nat} {S : Nat → Nat → List Nat} {R : Nat → List Nat} {B : Nat → Bool} : ∀ (P : List (Nat × Nat)) {s : Hb}, Dr s W t S R B → PairOk s.nodes P → okQ s.nodes P = true →
    (∀ w, w < W → B w = true → s.at_.getD w 0 = 0 → Early s R w ∧ ∀ c k r, R w = c :: k :: r → (k, c) ∈ P) →
    Dr (runF s (rd P)) W t S R B ∧ T (runF s (rd P)) R B (qP []) ≤ T s R B (qP P) ∧ (∀ w, w < W → B w = true → (runF s (rd P)).at_.getD w 0 ≠ 0) ∧ (runF s (rd P)).nodes = s.nodes
  | [], s, h, _, _, hE => ⟨h, Nat.le_refl _, fun w hw hB h0 => by
      obtain ⟨c, k, r, hR, _⟩ := h.tr.fly w hw h0
      have := (hE w hw hB h0).2 c k r hR
      simp at this, rfl⟩
  | p :: P, s, h, hP, hQ, hE => by
    obtain ⟨p1, p2, p3⟩ := hP p (by simp)
    unfold okQ at hQ
    rw [Bool.and_eq_true, List.all_eq_true] at hQ
    obtain ⟨hQ1, hQ2⟩ := hQ
    have i := turn (q := qP (p :: P)) p3 5 h p1 p2 (fun w _ c c1 c2 c3 => by
      have := hQ1 c (List.mem_range.2 (by omega))
      simp only [Bool.or_eq_true, decide_eq_true_eq] at this
      exact this.resolve_left c3)
    have hE' : ∀ w, w < W → B w = true → (runF s (List.replicate 5 (cm p.1 p.2))).at_.getD w 0 = 0 → Early (runF s (List.replicate 5 (cm p.1 p.2))) R w ∧ ∀ c k r, R w = c :: k :: r → (k, c) ∈ P := by
      intro w hw hB h0
      have h0' : s.at_.getD w 0 = 0 := by
        by_cases e : s.at_.getD w 0 = 0
        · exact e
        · exact absurd h0 (i.at_ w e)
      obtain ⟨e1, e2⟩ := hE w hw hB h0'
      have hne : ∀ c k r, R w = c :: k :: r → (k, c) ≠ p := fun c k r hR e => by
        have e3 := e1 c k r hR
        have ek : k = p.1 := by rw [← e]
        have ec : c = p.2 := by rw [← e]
        have c1 := (h.tr.ch k c).cnt w hw h0' r hR
        have c2 := (i.dr.tr.ch k c).cnt w hw h0 r hR
        have hch : chan (runF s (List.replicate 5 (cm p.1 p.2))).ways k c = (chan s.ways k c).drop 5 := by rw [ek, ec]; exact i.ch
        rw [hch] at c2
        rw [← List.take_append_drop 5 (chan s.ways k c), List.countP_append, c2] at c1
        obtain ⟨x, hx, hxa⟩ := List.any_eq_true.1 e3
        have := List.countP_pos_iff.2 ⟨x, hx, hxa⟩
        omega
      refine ⟨fun c k r hR => ?_, fun c k r hR => ?_⟩
      · obtain ⟨l, hl⟩ := i.grow k c (fun e => hne c k r hR (by rw [← e.1.symm, ← e.2.symm]))
        rw [hl]
        exact any_take (e1 c k r hR)
      · rcases List.mem_cons.1 (e2 c k r hR) with e | e
        · exact absurd e (hne c k r hR)
        · exact e
    obtain ⟨j1, j2, j3, j4⟩ := first P i.dr (by rw [i.nodes]; exact fun p hp => hP p (by simp [hp])) (by rw [i.nodes]; exact hQ2) hE'
    rw [rd_cons]
    exact ⟨j1, Nat.le_trans j2 (Nat.le_trans (T_q (qP_le p P)) i.le), j3, j4.trans i.nodes⟩
theorem pot_same {g g' z z' : Nat → Nat} : ∀ (l : List El) {sn : Nat → Bool}, (∀ w, g' w ≤ g w) → (∀ x ∈ l, x.kind = 1 → z' x.who ≤ z x.who) → pot g' z' l sn ≤ pot g z l sn
  | [], sn, _, _ => Nat.le_refl _
  | x :: r, sn, hg, hz => by
    unfold pot
    have i := pot_same r (sn := nxt sn x) hg fun y hy => hz y (by simp [hy])
    have : val g' z' sn x ≤ val g z sn x := by
      unfold val vL
      split
      · split
        · exact Nat.le_refl _
        · exact hg _
      · split
        · rename_i k
          exact hz x (by simp) k
        · exact Nat.le_refl _
    omega
theorem allp_of {g z : Nat → Nat} {N : Nat} (hg : ∀ w, g w + 1 ≤ N) (hz : ∀ w, z w + 1 ≤ N) (hN : 2 ≤ N) : ∀ (l : List El) (sn : Nat → Bool), allp g z N l sn
  | [], _ => True.intro
  | x :: r, sn => ⟨by
      unfold val vL
      split
      · split
        · omega
        · exact hg _
      · split
        · exact hz _
        · omega, allp_of hg hz hN r _⟩
/-- twelve rounds empty the channels -/
theorem twelve (h : Dr s W t S R B) (hBW : ∀ w, B w = true → w < W) (hT : T s R B (qP (pairs s.nodes)) ≤ 40) (hE : ∀ w, w < W → B w = true → s.at_.getD w 0 = 0 → Early s R w) :
    Dr (runF s (rounds s.nodes 12)) W t S R none_ ∧ ∀ a b, chan (runF s (rounds s.nodes 12)).ways a b = [] := by
  have er : runF s (rounds s.nodes 12) = runF (runF s (rd (pairs s.nodes))) (rounds s.nodes 11) := by
    rw [rounds, run_app]
  obtain ⟨j1, j2, j3, j4⟩ := first (pairs s.nodes) h pairs_ok (okQ_pairs h.n3) (fun w hw hB h0 => ⟨hE w hw hB h0, fun c k r hR => by
    have hc := (h.tr.ch k c).cnt w hw h0 r hR
    exact chan_in h (fun e => by rw [e] at hc; simp at hc)⟩)
  rw [er]
  obtain ⟨u, hu0⟩ : ∃ u, u = runF s (rd (pairs s.nodes)) := ⟨_, rfl⟩
  rw [← hu0] at j1 j2 j3 j4 ⊢
  have hu : Dr u W t S R none_ := { j1 with gd := fun a b x hx k k2 _ => j1.gd a b x hx k k2 (by
    cases hB : B x.who
    · rfl
    · exact absurd k2 (j3 x.who (j1.core.chan a b x hx).who hB)) }
  have hTu : T u R none_ (qP []) ≤ T u R B (qP []) := by
    refine tsum_le u.ways fun p hp => ?_
    have hpc := chan_of j1.core.wk hp
    refine pot_same _ (fun w => ?_) (fun x hx k => ?_)
    · unfold gS gv
      split
      · exact Nat.le_refl _
      · rename_i h0
        have : none_ w = false := rfl
        simp only [this, Bool.false_eq_true, if_false]
        cases hB : B w
        · simp
        · exact absurd (by simpa using h0) (j3 w (hBW w hB) hB)
    · rw [← hpc] at hx
      have := (j1.tr.ch _ _).act x hx k
      unfold zv
      cases hB : B x.who
      · simp [none_]
      · exact absurd this.1 (j3 x.who (j1.core.chan _ _ x hx).who hB)
  have hA : AllH u R none_ (qP []) (fun _ _ => 2 * 4) := by
    intro a b
    by_cases hne : chan u.ways a b = []
    · rw [hne]; exact True.intro
    · have hin := pairs_ok _ (chan_in j1 hne)
      show allp (gS u R none_ (qP []) a b) (zv none_) 8 (chan u.ways a b) no
      refine allp_of (fun w => ?_) (fun w => by simp [zv, none_]) (by omega) _ _
      have := rho_le (n := u.nodes) (r := R w) (b := b) hin.2.1 j1.n3
      unfold gS gv none_
      simp only [Bool.false_eq_true, if_false]
      (repeat' split) <;> omega
  obtain ⟨k1, k2⟩ := rounds_empty (q := qP []) 11 (H := 4) (n := 7) rfl hu hA (by omega)
  rw [j4] at k1 k2
  refine ⟨k1, fun a b => ?_⟩
  have := chan_le_T (q := qP []) k1 a b
  exact List.eq_nil_of_length_eq_zero (by omega)
end
end Go.Mv
