/- How many elements a simulation of package move has. No program in sight. -/
import Derived.Test.YtckkelppdeampaaMoveLaw
set_option linter.unusedVariables false
namespace Go.Mv
open Go.Mem
def isL (x : El) : Bool := decide (x.kind = 0)
def wsum (f : List El → Nat) (ws : Ways) : Nat := (ws.map fun p => f p.2).sum
def lets (s : Hb) : Nat := wsum (fun l => l.countP isL) s.ways + (s.wait.map List.length).sum
def nots (s : Hb) : Nat := wsum (fun l => l.countP fun x => !isL x) s.ways
theorem wsum_map (f : List El → Nat) : ∀ (ws : Ways) (k : Nat × Nat) (l : List El), (ws.map (·.1)).Nodup → wsum f (ws.map fun p => if p.1 = k then (k, l) else p) + (match mget ws k with | some o => f o | none => 0) = wsum f ws + (match mget ws k with | some _ => f l | none => 0)
  | [], k, l, _ => by simp [wsum, mget_nil]
  | p :: r, k, l, h => by
    rw [List.map_cons, List.nodup_cons] at h
    have ih := wsum_map f r k l h.2
    rw [mget_cons]
    by_cases e : p.1 = k
    · have hr : mget r k = none := by
        rw [mget_none]
        intro q hq hk
        exact h.1 (List.mem_map.2 ⟨q, hq, by rw [hk, e]⟩)
      rw [hr] at ih
      simp [wsum, e] at ih ⊢
      omega
    · simp only [wsum, List.map_cons, List.sum_cons, if_neg e] at ih ⊢
      omega
theorem wsum_put (f : List El → Nat) (hf : f [] = 0) (ws : Ways) (a b : Nat) (l : List El) (h : (ws.map (·.1)).Nodup) : wsum f (mput ws (a, b) l) + f (chan ws a b) = wsum f ws + f l := by
  have hm := wsum_map f ws (a, b) l h
  unfold mput chan
  cases hg : mget ws (a, b) with
  | none => simp [wsum, hf]
  | some o => rw [hg] at hm; simpa using hm
theorem chan_le (f : List El → Nat) (ws : Ways) (a b : Nat) (hf : f [] = 0) : f (chan ws a b) ≤ wsum f ws := by
  unfold chan
  cases hg : mget ws (a, b) with
  | none => simp [hf]
  | some o =>
    have : ∀ (ws : Ways) (p : (Nat × Nat) × List El), p ∈ ws → f p.2 ≤ wsum f ws := by
      intro ws
      induction ws with
      | nil => intro p hp; simp at hp
      | cons q r ih =>
        intro p hp
        unfold wsum
        rw [List.map_cons, List.sum_cons]
        rcases List.mem_cons.1 hp with rfl | hp
        · omega
        · have := ih p hp; unfold wsum at this; omega
    exact this ws _ (mget_mem hg)
theorem set_sum : ∀ (l : List (List El)) (i : Nat) (r : List El), ((l.set i r).map List.length).sum + (l.getD i []).length ≤ (l.map List.length).sum + r.length
  | [], i, r => by simp
  | x :: l, 0, r => by simp; omega
  | x :: l, i + 1, r => by
    have := set_sum l i r
    simp at this ⊢
    omega
theorem row_le : ∀ (l : List (List El)) (r : List El), r ∈ l → r.length ≤ (l.map List.length).sum
  | [], r, h => by simp at h
  | x :: l, r, h => by
    simp only [List.map_cons, List.sum_cons]
    rcases List.mem_cons.1 h with rfl | h
    · omega
    · have := row_le l r h; omega
theorem getD_le (l : List (List El)) (i : Nat) : (l.getD i []).length ≤ (l.map List.length).sum := by
  rw [List.getD_eq_getElem?_getD]
  cases h : l[i]? with
  | none => simp
  | some r => exact row_le l r (List.mem_of_getElem? h)
theorem recv1_frame : ∀ (f a w : Nat) (h : Hb), (recv1 f a w h).ways = h.ways ∧ (recv1 f a w h).wait = h.wait
  | 0, _, _, _ => ⟨rfl, rfl⟩
  | f + 1, a, w, h => by
    unfold recv1
    split
    · exact ⟨rfl, rfl⟩
    · obtain ⟨h1, h2⟩ := recv1_frame f a w { h with box := upd2 h.box a w ⟨(h.box a w).next + 1, mdel (h.box a w).st (h.box a w).next⟩, got := _ }
      exact ⟨h1, h2⟩
theorem receive_frame (h : Hb) (x : El) : (receive h x).ways = h.ways ∧ (receive h x).wait = h.wait := by
  unfold receive
  split
  · exact ⟨rfl, rfl⟩
  · exact recv1_frame _ _ _ _
theorem push_count (s : Hb) (a b : Nat) (x : El) (h : (s.ways.map (·.1)).Nodup) : lets (push s a b x) = lets s + (if isL x then 1 else 0) ∧ nots (push s a b x) = nots s + (if isL x then 0 else 1) := by
  have h1 := wsum_put (fun l => l.countP isL) rfl s.ways a b (chan s.ways a b ++ [x]) h
  have h2 := wsum_put (fun l => l.countP fun x => !isL x) rfl s.ways a b (chan s.ways a b ++ [x]) h
  simp only [List.countP_append, List.countP_singleton] at h1 h2
  unfold lets nots push
  dsimp only
  constructor
  · cases hL : isL x <;> simp [hL] at h1 ⊢ <;> omega
  · cases hL : isL x <;> simp [hL] at h2 ⊢ <;> omega
theorem process_count {s : Hb} {W t : Nat} {S : Nat → Nat → List Nat} (h : Core s W t S) (node : Nat) {x : El} (hk : x.kind = 0) : lets (process s node x) ≤ lets s + 1 ∧ nots (process s node x) ≤ nots s + 1 := by
  have hx : isL x = true := by simp [isL, hk]
  unfold process
  split
  · obtain ⟨e1, e2⟩ := receive_frame s x
    unfold lets nots
    rw [e1, e2]
    omega
  · split
    · have := set_sum s.wait node (s.wait.getD node [] ++ [x])
      unfold lets nots
      dsimp only
      simp only [List.length_append, List.length_singleton] at this
      omega
    · have hn : isL (note x.who (s.bel node x.who)) = false := by simp [isL, note]
      split
      · obtain ⟨p1, p2⟩ := push_count s node x.src (note x.who (s.bel node x.who)) h.wk
        have hk2 : ((push s node x.src (note x.who (s.bel node x.who))).ways.map (·.1)).Nodup := nodup_put _ _ _ h.wk
        obtain ⟨q1, q2⟩ := push_count (push s node x.src (note x.who (s.bel node x.who))) node (s.bel node x.who).1 x hk2
        rw [q1, q2, p1, p2, hx, hn]
        simp
      · obtain ⟨q1, q2⟩ := push_count s node (s.bel node x.who).1 x h.wk
        rw [q1, q2, hx]
        simp
/-- the elements that waited are processed: after k of them -/
theorem wakes {W t : Nat} {S : Nat → Nat → List Nat} (node : Nat) : ∀ (l : List El) (s : Hb), Core s W t S → (1 ≤ node ∧ node ≤ s.nodes) → (∀ y ∈ l, ElOk s.nodes W t S y ∧ y.kind = 0) →
    Core (l.foldl (fun h y => process h node y) s) W t S ∧ lets (l.foldl (fun h y => process h node y) s) ≤ lets s + l.length ∧ nots (l.foldl (fun h y => process h node y) s) ≤ nots s + l.length
  | [], s, h, _, _ => ⟨h, by simp, by simp⟩
  | y :: r, s, h, hn, hl => by
    obtain ⟨h1, h2⟩ := hl y (by simp)
    obtain ⟨c1, c2⟩ := process_count h node h2
    obtain ⟨k1, k2, k3⟩ := wakes node r (process s node y) (h.process hn h1 h2) (by rw [process_nodes]; exact hn) fun z hz => by rw [process_nodes]; exact hl z (by simp [hz])
    rw [List.foldl_cons, List.length_cons]
    exact ⟨k1, by omega, by omega⟩
theorem wake0 {s : Hb} {W t : Nat} {S : Nat → Nat → List Nat} (h : Core s W t S) (node : Nat) : Core { s with wait := s.wait.set node [] } W t S ∧ lets { s with wait := s.wait.set node [] } + (s.wait.getD node []).length ≤ lets s ∧ nots { s with wait := s.wait.set node [] } = nots s ∧ ∀ y ∈ s.wait.getD node [], ElOk s.nodes W t S y ∧ y.kind = 0 := by
  refine ⟨?_, ?_, rfl, ?_⟩
  · refine { h with wl := by simpa using h.wl, wait := fun row hr y hy => ?_ }
    rcases mem_set_ hr with rfl | hr
    · simp at hy
    · exact h.wait row hr y hy
  · have := set_sum s.wait node []
    unfold lets
    dsimp only
    simp only [List.length_nil, Nat.add_zero] at this
    omega
  · intro y hy
    obtain ⟨r, hr, hy⟩ := getD_mem hy
    exact h.wait r hr y hy
theorem wake_count {s : Hb} {W t : Nat} {S : Nat → Nat → List Nat} (h : Core s W t S) {node : Nat} (hn : 1 ≤ node ∧ node ≤ s.nodes) : lets (wake s node) ≤ lets s ∧ nots (wake s node) ≤ nots s + lets s := by
  obtain ⟨h1, h2, h3, h4⟩ := wake0 h node
  obtain ⟨_, k2, k3⟩ := wakes node (s.wait.getD node []) { s with wait := s.wait.set node [] } h1 hn h4
  unfold wake
  have := getD_le s.wait node
  have : (s.wait.getD node []).length ≤ lets s := by unfold lets; omega
  omega
/-- the sizes of a simulation behind t deeds -/
def Bd (s : Hb) (t : Nat) : Prop := lets s ≤ t ∧ nots s ≤ 402 * t
theorem come_count {s : Hb} {W t : Nat} {S : Nat → Nat → List Nat} (h : Core s W t S) {node : Nat} {x : El} (hn : 1 ≤ node ∧ node ≤ s.nodes) (hx : ElOk s.nodes W t S x) :
    lets (come s node x) ≤ lets s + (if isL x then 1 else 0) ∧ nots (come s node x) ≤ nots s + (if isL x then 1 else lets s) := by
  unfold come
  split
  · rename_i hk
    have hL : isL x = true := by simp [isL, hk]
    rw [hL]
    exact process_count h node hk
  · rename_i hk
    have hL : isL x = false := by simp [isL, hk]
    rw [hL]
    split
    · have h1 : Core (learn (arrive s node x) node x) W t S ∧ lets (learn (arrive s node x) node x) = lets s ∧ nots (learn (arrive s node x) node x) = nots s := by
        have ha : Core (arrive s node x) W t S ∧ lets (arrive s node x) = lets s ∧ nots (arrive s node x) = nots s := by
          unfold arrive
          split
          · refine ⟨?_, rfl, rfl⟩
            refine { h with al := by simpa using h.al, ao := fun i v hi => ?_ }
            have := List.mem_of_getElem? hi
            rcases mem_set_ this with rfl | hm
            · exact hn.2
            · obtain ⟨j, hj, rfl⟩ := List.mem_iff_getElem.1 hm
              exact h.ao j _ (List.getElem?_eq_getElem hj)
          · exact ⟨h, rfl, rfl⟩
        obtain ⟨a1, a2, a3⟩ := ha
        have e := arrive_nodes s node x
        generalize arrive s node x = s1 at a1 a2 a3 e
        unfold learn
        split
        · refine ⟨?_, a2, a3⟩
          refine { a1 with bel := fun a w ha1 ha2 hw => ?_ }
          by_cases e2 : a = node ∧ w = x.who
          · obtain ⟨rfl, rfl⟩ := e2
            simp only [upd2_same]
            have := hx.bl hk
            rw [← e] at this
            exact this
          · simp only [upd2_other _ _ e2]
            exact a1.bel a w ha1 ha2 hw
        · exact ⟨a1, a2, a3⟩
      obtain ⟨h1, h2, h3⟩ := h1
      have := wake_count h1 (node := node) (by rw [learn_nodes, arrive_nodes]; exact hn)
      simp
      omega
    · simp
theorem Bd.do_ {s : Hb} {W t : Nat} {S : Nat → Nat → List Nat} (h : Core s W t S) (hb : Bd s t) (ht : t ≤ 400) {d : Dv} (hd : DOk s.nodes W d) : Bd (doF s d) (t + 1) := by
  obtain ⟨b1, b2⟩ := hb
  obtain ⟨d1, d2, d3, d4, d5, d6⟩ := hd
  unfold doF
  by_cases k1 : d.kind = 1
  · have hs := d5 (by omega)
    rw [if_pos k1, if_pos ⟨⟨hs, d2⟩, by rw [h.al]; exact d4⟩]
    have hp := h.put (n := d.n) ⟨hs, d2⟩ d4
    have := process_count hp d.src (x := ⟨0, d.who, d.src, s.sent d.src d.who, d.n, 0, 0⟩) rfl
    have e1 : lets { s with sent := upd2 s.sent d.src d.who (s.sent d.src d.who + 1) } = lets s := rfl
    have e2 : nots { s with sent := upd2 s.sent d.src d.who (s.sent d.src d.who + 1) } = nots s := rfl
    unfold Bd
    omega
  · rw [if_neg k1]
    by_cases k2 : d.kind = 2
    · rw [if_pos k2]
      split
      · obtain ⟨p1, p2⟩ := push_count { s with bel := upd2 s.bel (s.at_.getD d.who 0) d.who (d.dst, (s.bel (s.at_.getD d.who 0) d.who).2 + 1), at_ := s.at_.set d.who 0 } (s.at_.getD d.who 0) d.dst ⟨1, d.who, 0, 0, 0, d.dst, (s.bel (s.at_.getD d.who 0) d.who).2 + 1⟩ h.wk
        have e1 : lets { s with bel := upd2 s.bel (s.at_.getD d.who 0) d.who (d.dst, (s.bel (s.at_.getD d.who 0) d.who).2 + 1), at_ := s.at_.set d.who 0 } = lets s := rfl
        have e2 : nots { s with bel := upd2 s.bel (s.at_.getD d.who 0) d.who (d.dst, (s.bel (s.at_.getD d.who 0) d.who).2 + 1), at_ := s.at_.set d.who 0 } = nots s := rfl
        have hL : isL ⟨1, d.who, 0, 0, 0, d.dst, (s.bel (s.at_.getD d.who 0) d.who).2 + 1⟩ = false := by simp [isL]
        rw [hL] at p1 p2
        simp only [Bool.false_eq_true, if_false, Nat.add_zero] at p1 p2
        unfold Bd
        omega
      · unfold Bd; omega
    · rw [if_neg k2]
      split
      · rename_i k3
        split
        · unfold Bd; omega
        · rename_i x r hx
          have hc := h.chan d.src d.dst
          rw [hx] at hc
          have h2 := h.setWay (a := d.src) (b := d.dst) (l := r) ⟨d5 (by omega), d2⟩ ⟨d6 (by omega), d3⟩ fun y hy => hc y (by simp [hy])
          have w1 := wsum_put (fun l => l.countP isL) rfl s.ways d.src d.dst r h.wk
          have w2 := wsum_put (fun l => l.countP fun x => !isL x) rfl s.ways d.src d.dst r h.wk
          rw [hx] at w1 w2
          simp only [List.countP_cons] at w1 w2
          obtain ⟨c1, c2⟩ := come_count h2 (node := d.dst) (x := x) ⟨d6 (by omega), d3⟩ (hc x (by simp))
          have e1 : lets { s with ways := mput s.ways (d.src, d.dst) r } = wsum (fun l => l.countP isL) (mput s.ways (d.src, d.dst) r) + (s.wait.map List.length).sum := rfl
          have e2 : nots { s with ways := mput s.ways (d.src, d.dst) r } = wsum (fun l => l.countP fun x => !isL x) (mput s.ways (d.src, d.dst) r) := rfl
          have e3 : lets s = wsum (fun l => l.countP isL) s.ways + (s.wait.map List.length).sum := rfl
          have e4 : nots s = wsum (fun l => l.countP fun x => !isL x) s.ways := rfl
          unfold Bd
          cases hL : isL x <;> rw [hL] at c1 c2 w1 w2 <;> simp at c1 c2 w1 w2 <;> omega
      · unfold Bd; omega
theorem new_bd (nodes : Nat) (C : List Nat) : Bd (newF nodes C) 0 := by
  unfold Bd lets nots wsum newF
  simp
/-- lengths -/
structure Sz (s : Hb) : Prop where
  way : ∀ a b, (chan s.ways a b).length ≤ 200000
  wait : ∀ row ∈ s.wait, row.length ≤ 200000
  got : ∀ row ∈ s.got, row.length ≤ 10000
theorem filter_or {α : Type} (p q r : α → Bool) (h : ∀ x, r x = true → p x = true ∨ q x = true) : ∀ l : List α, (l.filter r).length ≤ (l.filter p).length + (l.filter q).length
  | [] => by simp
  | x :: l => by
    have ih := filter_or p q r h l
    have hx := h x
    simp only [List.filter_cons]
    cases hr : r x <;> cases hp : p x <;> cases hq : q x <;> simp [hr, hp, hq] at hx ⊢ <;> omega
theorem row_bd (t : Nat) : ∀ (n : Nat) (row : List (Nat × Nat)), (∀ a, 1 ≤ a → a ≤ n → (row.filter fun g => decide (g.1 = a)).length ≤ t) → (row.filter fun g => decide (1 ≤ g.1) && decide (g.1 ≤ n)).length ≤ n * t
  | 0, row, h => by
    have : (row.filter fun g => decide (1 ≤ g.1) && decide (g.1 ≤ 0)) = [] := by
      rw [List.filter_eq_nil_iff]
      intro g _
      simp
      omega
    rw [this]
    simp
  | n + 1, row, h => by
    have h1 := row_bd t n row fun a h1 h2 => h a h1 (by omega)
    have h2 := h (n + 1) (by omega) (Nat.le_refl _)
    have h3 : (row.filter fun g => decide (1 ≤ g.1) && decide (g.1 ≤ n + 1)).length ≤ (row.filter fun g => decide (1 ≤ g.1) && decide (g.1 ≤ n)).length + (row.filter fun g => decide (g.1 = n + 1)).length := by
      refine filter_or _ _ _ (fun g hg => ?_) row
      simp only [Bool.and_eq_true, decide_eq_true_eq] at hg ⊢
      omega
    rw [Nat.add_mul]
    omega
theorem Core.sz {s : Hb} {W t : Nat} {S : Nat → Nat → List Nat} (h : Core s W t S) (ht : t ≤ 401) (hl : lets s ≤ 401) (hn : nots s ≤ 402 * 402) : Sz s where
  way := fun a b => by
    have h1 := chan_le (fun l => l.countP isL) s.ways a b rfl
    have h2 := chan_le (fun l => l.countP fun x => !isL x) s.ways a b rfl
    have h3 := List.length_eq_countP_add_countP isL (l := Mv.chan s.ways a b)
    have e : (List.countP (fun a => decide ¬isL a = true) (Mv.chan s.ways a b)) = List.countP (fun x => !isL x) (Mv.chan s.ways a b) := by
      apply List.countP_congr
      intro x _
      simp
    unfold lets nots at *
    omega
  wait := fun row hr => by
    have := row_le s.wait row hr
    unfold lets at hl
    omega
  got := fun row hr => by
    obtain ⟨w, hw, rfl⟩ := List.mem_iff_getElem.1 hr
    have hwW : w < W := by rw [← h.gl]; exact hw
    obtain ⟨g1, g2⟩ := h.got w _ (List.getElem?_eq_getElem hw)
    have h1 := row_bd t s.nodes s.got[w] fun a q1 q2 => by
      have e := congrArg List.length (g2 a q1 q2)
      rw [List.length_map, List.length_take] at e
      have := (h.sent a w q1 q2 hwW).2
      omega
    have e : (s.got[w].filter fun g => decide (1 ≤ g.1) && decide (g.1 ≤ s.nodes)) = s.got[w] := by
      rw [List.filter_eq_self]
      intro g hg
      simp [g1 g hg]
    rw [e] at h1
    have := Nat.mul_le_mul h.n1.2 ht
    have := Nat.mul_le_mul_right t h.n1.2
    omega
end Go.Mv
