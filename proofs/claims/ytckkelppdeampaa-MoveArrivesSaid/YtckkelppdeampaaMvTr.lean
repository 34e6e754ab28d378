/- Where actors of package move's simulation are and where they were, and what nodes know of it. No program in sight. -/
import Derived.Test.YtckkelppdeampaaMoveLaw
set_option linter.unusedVariables false
namespace Go.Mv
open Go.Mem
/-- the m-th place of a way that is written from its end -/
def pos (r : List Nat) (m c : Nat) : Prop := r.reverse[m]? = some c
theorem pos_cons {r : List Nat} {m c : Nat} (x : Nat) (h : pos r m c) : pos (x :: r) m c := by
  unfold pos at h ⊢
  rw [List.reverse_cons, List.getElem?_append_left (List.getElem?_eq_some_iff.1 h).1]
  exact h
theorem pos_top (x : Nat) (r : List Nat) : pos (x :: r) r.length x := by unfold pos; simp
theorem pos_lt {r : List Nat} {m c : Nat} (h : pos r m c) : m < r.length := by
  have := (List.getElem?_eq_some_iff.1 h).1
  simpa using this
theorem pos_mem {r : List Nat} {m c : Nat} (h : pos r m c) : c ∈ r := by
  have := List.mem_of_getElem? h
  simpa using this
theorem pos_one {r : List Nat} {m c d : Nat} (h : pos r m c) (h' : pos r m d) : c = d := by
  unfold pos at h h'
  rw [h] at h'
  exact Option.some.inj h'
/-- one place more at the end: the new place, or an old one -/
theorem pos_split {r : List Nat} {m c x : Nat} (h : pos (x :: r) m c) : (m = r.length ∧ c = x) ∨ pos r m c := by
  by_cases e : m < r.length
  · right
    unfold pos at h ⊢
    rw [List.reverse_cons, List.getElem?_append_left (by simpa using e)] at h
    exact h
  · left
    have := pos_lt h
    obtain rfl : m = r.length := by simp at this; omega
    exact ⟨rfl, pos_one h (pos_top x r)⟩
theorem chan_put (ws : Ways) (a b : Nat) (l : List El) (a' b' : Nat) : chan (mput ws (a, b) l) a' b' = if a' = a ∧ b' = b then l else chan ws a' b' := by
  unfold chan
  rw [mget_put]
  by_cases e : a' = a ∧ b' = b
  · rw [if_pos e, if_pos (by rw [e.1, e.2])]
    rfl
  · rw [if_neg e, if_neg (fun h => e (by injection h with h1 h2; exact ⟨h1, h2⟩))]
theorem chan_same (ws : Ways) (a b : Nat) (l : List El) : chan (mput ws (a, b) l) a b = l := by rw [chan_put, if_pos ⟨rfl, rfl⟩]
def isA (w : Nat) (x : El) : Bool := decide (x.kind = 1) && decide (x.who = w)
theorem isA_iff {w : Nat} {x : El} : isA w x = true ↔ x.kind = 1 ∧ x.who = w := by simp [isA]
/-- what holds of a channel -/
structure ChOk (at_ : List Nat) (R : Nat → List Nat) (W a b : Nat) (l : List El) : Prop where
  act : ∀ x ∈ l, x.kind = 1 → at_.getD x.who 0 = 0 ∧ (∃ r, R x.who = b :: a :: r) ∧ x.bn = b ∧ x.bm + 1 = (R x.who).length
  elb : ∀ x ∈ l, x.kind ≠ 0 → pos (R x.who) x.bm x.bn
  let_ : ∀ x ∈ l, x.kind = 0 → b ∈ R x.who
  off : a = b → l = []
  cnt : ∀ w, w < W → at_.getD w 0 = 0 → ∀ r, R w = b :: a :: r → l.countP (isA w) = 1
  ahd : ∀ l1 x l2, l = l1 ++ x :: l2 → x.kind = 1 → ∀ y ∈ l1, y.kind = 0 → y.who = x.who → b ∈ (R x.who).tail
structure Tr (n : Nat) (bel : Nat → Nat → Nat × Nat) (at_ : List Nat) (ws : Ways) (W : Nat) (R : Nat → List Nat) : Prop where
  ne : ∀ w, w < W → R w ≠ []
  rg : ∀ w, w < W → ∀ a ∈ R w, 1 ≤ a ∧ a ≤ n
  kn : ∀ a w, 1 ≤ a → a ≤ n → w < W → pos (R w) (bel a w).2 (bel a w).1
  up : ∀ a w m, 1 ≤ a → a ≤ n → w < W → pos (R w) m a → m + 1 < (R w).length → m < (bel a w).2
  fix : ∀ w, w < W → at_.getD w 0 ≠ 0 → (∃ r, R w = at_.getD w 0 :: r) ∧ (bel (at_.getD w 0) w).2 + 1 = (R w).length
  fly : ∀ w, w < W → at_.getD w 0 = 0 → ∃ c k r, R w = c :: k :: r ∧ c ≠ k
  ch : ∀ a b, ChOk at_ R W a b (chan ws a b)
def TrS (s : Hb) (W : Nat) (R : Nat → List Nat) : Prop := Tr s.nodes s.bel s.at_ s.ways W R
/-- what waits, waits for one that is on its way to this node -/
def Wt (s : Hb) : Prop := ∀ a x, x ∈ s.wait.getD a [] → (1 ≤ a ∧ a ≤ s.nodes) ∧ s.at_.getD x.who 0 = 0 ∧ (s.bel a x.who).1 = a

theorem ChOk.tail {at_ : List Nat} {R : Nat → List Nat} {W a b : Nat} {x : El} {r : List El} (h : ChOk at_ R W a b (x :: r)) (hx : x.kind ≠ 1) : ChOk at_ R W a b r where
  act := fun y hy => h.act y (by simp [hy])
  elb := fun y hy => h.elb y (by simp [hy])
  let_ := fun y hy => h.let_ y (by simp [hy])
  off := fun e => absurd (h.off e) (by simp)
  cnt := fun w hw h0 q hq => by
    have := h.cnt w hw h0 q hq
    rw [List.countP_cons] at this
    have e : isA w x = false := by unfold isA; simp [hx]
    simpa [e] using this
  ahd := fun l1 y l2 e k z hz => h.ahd (x :: l1) y l2 (by rw [e]; rfl) k z (by simp [hz])
theorem ChOk.add {at_ : List Nat} {R : Nat → List Nat} {W a b : Nat} {x : El} {l : List El} (h : ChOk at_ R W a b l) (hx : x.kind ≠ 1) (hab : a ≠ b) (h1 : x.kind ≠ 0 → pos (R x.who) x.bm x.bn) (h2 : x.kind = 0 → b ∈ R x.who) : ChOk at_ R W a b (l ++ [x]) where
  act := fun y hy k => by
    rcases List.mem_append.1 hy with hy | hy
    · exact h.act y hy k
    · rw [List.mem_singleton] at hy; subst hy; exact absurd k hx
  elb := fun y hy k => by
    rcases List.mem_append.1 hy with hy | hy
    · exact h.elb y hy k
    · rw [List.mem_singleton] at hy; subst hy; exact h1 k
  let_ := fun y hy k => by
    rcases List.mem_append.1 hy with hy | hy
    · exact h.let_ y hy k
    · rw [List.mem_singleton] at hy; subst hy; exact h2 k
  off := fun e => absurd e hab
  cnt := fun w hw h0 q hq => by
    rw [List.countP_append, h.cnt w hw h0 q hq]
    have e : isA w x = false := by unfold isA; simp [hx]
    simp [e]
  ahd := fun l1 y l2 e k z hz => by
    rcases List.eq_nil_or_concat l2 with rfl | ⟨l3, u, rfl⟩
    · have := List.append_inj' e (by simp)
      have e2 : x = y := by simpa using this.2
      subst e2
      exact absurd k hx
    · rw [List.concat_eq_append, ← List.cons_append, ← List.append_assoc] at e
      have := (List.append_inj' e (by simp)).1
      exact h.ahd l1 y l3 this k z hz
theorem Tr.setWay {n : Nat} {bel : Nat → Nat → Nat × Nat} {at_ : List Nat} {ws : Ways} {W : Nat} {R : Nat → List Nat} (h : Tr n bel at_ ws W R) (a b : Nat) (l : List El) (hl : ChOk at_ R W a b l) : Tr n bel at_ (mput ws (a, b) l) W R :=
  { h with
    ch := fun a' b' => by
      rw [chan_put]
      split
      · rename_i e
        rw [e.1, e.2]
        exact hl
      · exact h.ch a' b' }
/-- what a node knows never leads back -/
theorem Tr.last {n : Nat} {bel : Nat → Nat → Nat × Nat} {at_ : List Nat} {ws : Ways} {W : Nat} {R : Nat → List Nat} (h : Tr n bel at_ ws W R) {a w : Nat} (ha : 1 ≤ a ∧ a ≤ n) (hw : w < W) (e : (bel a w).1 = a) : (bel a w).2 + 1 = (R w).length := by
  have hp := h.kn a w ha.1 ha.2 hw
  have hl := pos_lt hp
  rw [e] at hp
  by_cases hc : (bel a w).2 + 1 < (R w).length
  · have := h.up a w _ ha.1 ha.2 hw hp hc
    omega
  · omega
theorem Tr.learn {n : Nat} {bel : Nat → Nat → Nat × Nat} {at_ : List Nat} {ws : Ways} {W : Nat} {R : Nat → List Nat} (h : Tr n bel at_ ws W R) {a w m c : Nat} (hlt : (bel a w).2 < m) (hp : pos (R w) m c) (hat : at_.getD w 0 ≠ a ∨ (∃ r, R w = a :: r) ∧ m + 1 = (R w).length) : Tr n (upd2 bel a w (c, m)) at_ ws W R :=
  { h with
    kn := fun a' w' q1 q2 q3 => by
      by_cases e : a' = a ∧ w' = w
      · obtain ⟨rfl, rfl⟩ := e
        rw [upd2_same]
        exact hp
      · rw [upd2_other _ _ e]
        exact h.kn a' w' q1 q2 q3
    up := fun a' w' m' q1 q2 q3 q4 q5 => by
      by_cases e : a' = a ∧ w' = w
      · obtain ⟨rfl, rfl⟩ := e
        rw [upd2_same]
        have := h.up a' w' m' q1 q2 q3 q4 q5
        simp only
        omega
      · rw [upd2_other _ _ e]
        exact h.up a' w' m' q1 q2 q3 q4 q5
    fix := fun w' hw' h0 => by
      obtain ⟨f1, f2⟩ := h.fix w' hw' h0
      refine ⟨f1, ?_⟩
      by_cases e : at_.getD w' 0 = a ∧ w' = w
      · obtain ⟨e1, rfl⟩ := e
        rw [e1, upd2_same]
        rcases hat with hat | hat
        · exact absurd e1 hat
        · exact hat.2
      · rw [upd2_other _ _ e]
        exact f2 }

theorem getD_set (l : List Nat) (i v j : Nat) : (l.set i v).getD j 0 = if j = i ∧ i < l.length then v else l.getD j 0 := by
  rw [List.getD_eq_getElem?_getD, List.getElem?_set, List.getD_eq_getElem?_getD]
  by_cases e : i = j
  · subst e
    by_cases h : i < l.length
    · simp [h]
    · simp [h]
  · rw [if_neg e, if_neg (fun h => e h.1.symm)]
/-- an actor arrives -/
theorem Tr.arrive {n : Nat} {bel : Nat → Nat → Nat × Nat} {at_ : List Nat} {ws : Ways} {W : Nat} {R : Nat → List Nat} (h : Tr n bel at_ ws W R) {a b : Nat} {x : El} {r : List El} (e : chan ws a b = x :: r) (hk : x.kind = 1) (hw : x.who < W) (hl : at_.length = W) (hb : 1 ≤ b)
    (hf : (bel b x.who).2 + 1 = (R x.who).length) : Tr n bel (at_.set x.who b) (mput ws (a, b) r) W R := by
  have hab := h.ch a b
  rw [e] at hab
  obtain ⟨a0, ⟨r', hR⟩, _, _⟩ := hab.act x (by simp) hk
  have hcnt := hab.cnt x.who hw a0 r' hR
  rw [List.countP_cons, if_pos (isA_iff.2 ⟨hk, rfl⟩)] at hcnt
  have hno : ∀ y ∈ r, y.kind = 1 → y.who ≠ x.who := fun y hy k e => by
    have : 0 < r.countP (isA x.who) := List.countP_pos_iff.2 ⟨y, hy, isA_iff.2 ⟨k, e⟩⟩
    omega
  have hat : ∀ w, w ≠ x.who → (at_.set x.who b).getD w 0 = at_.getD w 0 := fun w hne => by rw [getD_set, if_neg (fun h => hne h.1)]
  have hat1 : (at_.set x.who b).getD x.who 0 = b := by rw [getD_set, if_pos ⟨rfl, by omega⟩]
  have hne0 : ∀ w, (at_.set x.who b).getD w 0 = 0 → w ≠ x.who := fun w h0 e => by rw [e, hat1] at h0; omega
  refine { h with fix := fun w hw' h0 => ?_, fly := fun w hw' h0 => ?_, ch := fun c d => ?_ }
  · by_cases ew : w = x.who
    · rw [ew, hat1]
      exact ⟨⟨_, hR⟩, hf⟩
    · rw [hat w ew] at h0 ⊢
      exact h.fix w hw' h0
  · have := hne0 w h0
    rw [hat w this] at h0
    exact h.fly w hw' h0
  · rw [chan_put]
    split
    · rename_i hcd
      rw [hcd.1, hcd.2]
      exact {
        act := fun y hy k => by
          rw [hat _ (hno y hy k)]
          exact hab.act y (by simp [hy]) k
        elb := fun y hy => hab.elb y (by simp [hy])
        let_ := fun y hy => hab.let_ y (by simp [hy])
        off := fun e => absurd (hab.off e) (by simp)
        cnt := fun w hw' h0 q hq => by
          have hne := hne0 w h0
          rw [hat w hne] at h0
          have := hab.cnt w hw' h0 q hq
          rw [List.countP_cons, if_neg (fun e => hne (isA_iff.1 e).2.symm)] at this
          exact this
        ahd := fun l1 y l2 e k z hz => hab.ahd (x :: l1) y l2 (by rw [e]; rfl) k z (by simp [hz]) }
    · rename_i hcd
      have hc := h.ch c d
      exact {
        act := fun y hy k => by
          have hh := hc.act y hy k
          have : y.who ≠ x.who := fun e => by
            obtain ⟨_, ⟨q, hq⟩, _⟩ := hh
            rw [e, hR] at hq
            injection hq with q1 q2
            injection q2 with q2 _
            exact hcd ⟨q2.symm, q1.symm⟩
          rw [hat _ this]
          exact hh
        elb := hc.elb
        let_ := hc.let_
        off := hc.off
        cnt := fun w hw' h0 q hq => by
          have hne := hne0 w h0
          rw [hat w hne] at h0
          exact hc.cnt w hw' h0 q hq
        ahd := hc.ahd }

/-! ### what is done with a letter -/
theorem recv1_more : ∀ (f a w : Nat) (h : Hb), (recv1 f a w h).at_ = h.at_ ∧ (recv1 f a w h).bel = h.bel ∧ (recv1 f a w h).sent = h.sent ∧ (recv1 f a w h).ways = h.ways ∧ (recv1 f a w h).wait = h.wait
  | 0, _, _, _ => ⟨rfl, rfl, rfl, rfl, rfl⟩
  | f + 1, a, w, h => by
    unfold recv1
    split
    · exact ⟨rfl, rfl, rfl, rfl, rfl⟩
    · exact recv1_more f a w _
theorem receive_more (h : Hb) (x : El) : (receive h x).at_ = h.at_ ∧ (receive h x).bel = h.bel ∧ (receive h x).sent = h.sent ∧ (receive h x).ways = h.ways ∧ (receive h x).wait = h.wait ∧ (receive h x).nodes = h.nodes := by
  unfold receive
  split
  · exact ⟨rfl, rfl, rfl, rfl, rfl, rfl⟩
  · obtain ⟨h1, h2, h3, h4, h5⟩ := recv1_more ((h.box x.src x.who).st.length + 2) x.src x.who { h with box := upd2 h.box x.src x.who ⟨(h.box x.src x.who).next, mput (h.box x.src x.who).st x.seq x.n⟩ }
    exact ⟨h1, h2, h3, h4, h5, recv1_nodes _ _ _ _⟩
/-- letters that wait, or whose actor is here, stir nothing but rows of letters -/
structure Still (s s' : Hb) : Prop where
  at_ : s'.at_ = s.at_
  bel : s'.bel = s.bel
  sent : s'.sent = s.sent
  ways : s'.ways = s.ways
  nodes : s'.nodes = s.nodes
theorem Still.trans {a b c : Hb} (h : Still a b) (k : Still b c) : Still a c := ⟨k.at_.trans h.at_, k.bel.trans h.bel, k.sent.trans h.sent, k.ways.trans h.ways, k.nodes.trans h.nodes⟩
theorem set_getD {l : List (List El)} {i j : Nat} {v : List El} {x : El} (h : x ∈ (l.set i v).getD j []) : (j = i ∧ x ∈ v) ∨ (j ≠ i ∧ x ∈ l.getD j []) := by
  rw [List.getD_eq_getElem?_getD, List.getElem?_set] at h
  split at h
  · rename_i e
    split at h
    · exact .inl ⟨e.symm, by simpa using h⟩
    · simp at h
  · rename_i e
    exact .inr ⟨fun h' => e h'.symm, by rw [List.getD_eq_getElem?_getD]; exact h⟩
theorem process_still (s : Hb) (node : Nat) (y : El) (h : s.at_.getD y.who 0 = node ∨ (s.bel node y.who).1 = node) : Still s (process s node y) ∧
    ∀ a z, z ∈ (process s node y).wait.getD a [] → z ∈ s.wait.getD a [] ∨ (a = node ∧ z = y ∧ s.at_.getD y.who 0 ≠ node) := by
  unfold process
  by_cases e : s.at_.getD y.who 0 = node
  · rw [if_pos e]
    obtain ⟨h1, h2, h3, h4, h5, h6⟩ := receive_more s y
    exact ⟨⟨h1, h2, h3, h4, h6⟩, fun a z hz => .inl (by rw [h5] at hz; exact hz)⟩
  · rw [if_neg e, if_pos (h.resolve_left e)]
    refine ⟨⟨rfl, rfl, rfl, rfl, rfl⟩, fun a z hz => ?_⟩
    rcases set_getD hz with ⟨rfl, hz⟩ | ⟨_, hz⟩
    · rcases List.mem_append.1 hz with hz | hz
      · exact .inl hz
      · exact .inr ⟨rfl, by simpa using hz, e⟩
    · exact .inl hz
theorem wakes_still (node : Nat) : ∀ (l : List El) (s : Hb), (∀ y ∈ l, s.at_.getD y.who 0 = node ∨ (s.bel node y.who).1 = node) → Still s (l.foldl (fun h y => process h node y) s) ∧
    ∀ a z, z ∈ (l.foldl (fun h y => process h node y) s).wait.getD a [] → z ∈ s.wait.getD a [] ∨ (a = node ∧ z ∈ l ∧ s.at_.getD z.who 0 ≠ node)
  | [], s, _ => ⟨⟨rfl, rfl, rfl, rfl, rfl⟩, fun a z hz => .inl hz⟩
  | y :: r, s, h => by
    obtain ⟨p1, p2⟩ := process_still s node y (h y (by simp))
    obtain ⟨q1, q2⟩ := wakes_still node r (process s node y) (fun z hz => by rw [p1.at_, p1.bel]; exact h z (by simp [hz]))
    refine ⟨p1.trans q1, fun a z hz => ?_⟩
    rcases q2 a z hz with hz | ⟨e, hz, h0⟩
    · rcases p2 a z hz with hz | ⟨e, rfl, h0⟩
      · exact .inl hz
      · exact .inr ⟨e, by simp, h0⟩
    · exact .inr ⟨e, by simp [hz], by rw [p1.at_] at h0; exact h0⟩
theorem wake_still (s : Hb) (node : Nat) (h : ∀ y ∈ s.wait.getD node [], s.at_.getD y.who 0 = node ∨ (s.bel node y.who).1 = node) : Still s (wake s node) ∧
    ∀ a z, z ∈ (wake s node).wait.getD a [] → z ∈ s.wait.getD a [] ∧ (a = node → s.at_.getD z.who 0 ≠ node) := by
  obtain ⟨q1, q2⟩ := wakes_still node (s.wait.getD node []) { s with wait := s.wait.set node [] } h
  refine ⟨⟨q1.at_, q1.bel, q1.sent, q1.ways, q1.nodes⟩, fun a z hz => ?_⟩
  rcases q2 a z hz with hz | ⟨e, hz, h0⟩
  · rcases set_getD hz with ⟨_, hz⟩ | ⟨hne, hz⟩
    · simp at hz
    · exact ⟨hz, fun e => absurd e hne⟩
  · exact ⟨by rw [e]; exact hz, fun _ => h0⟩
end Go.Mv
