/- No letter of package move's simulation is lost; MoveArrives' plain law. No program in sight. -/
import Derived.Test.YtckkelppdeampaaMvStart
set_option linter.unusedVariables false
namespace Go.Mv
open Go.Mem
def isL' (x : El) (a w k : Nat) : Prop := x.kind = 0 ∧ x.src = a ∧ x.who = w ∧ x.seq = k
def Some' (s : Hb) (pd : List El) (a w k : Nat) : Prop := (∃ c d x, x ∈ chan s.ways c d ∧ isL' x a w k) ∨ (∃ c x, x ∈ s.wait.getD c [] ∧ isL' x a w k) ∨ ∃ x ∈ pd, isL' x a w k
structure Lq (s : Hb) (W : Nat) (pd : List El) (a0 w0 : Nat) : Prop where
  nxt : ∀ a w, 1 ≤ a → a ≤ s.nodes → w < W → ¬ (a = a0 ∧ w = w0) → mget (s.box a w).st (s.box a w).next = none
  low : ∀ a w, 1 ≤ a → a ≤ s.nodes → w < W → ∀ k v, mget (s.box a w).st k = some v → (s.box a w).next ≤ k
  lost : ∀ a w k, 1 ≤ a → a ≤ s.nodes → w < W → (s.box a w).next ≤ k → k < s.sent a w → (mget (s.box a w).st k).isSome = true ∨ Some' s pd a w k
structure Lx (s : Hb) (W : Nat) (pd : List El) : Prop where
  nxt : ∀ a w, 1 ≤ a → a ≤ s.nodes → w < W → mget (s.box a w).st (s.box a w).next = none
  low : ∀ a w, 1 ≤ a → a ≤ s.nodes → w < W → ∀ k v, mget (s.box a w).st k = some v → (s.box a w).next ≤ k
  lost : ∀ a w k, 1 ≤ a → a ≤ s.nodes → w < W → (s.box a w).next ≤ k → k < s.sent a w → (mget (s.box a w).st k).isSome = true ∨ Some' s pd a w k
theorem mdel_len {l : List (Nat × Nat)} {a v : Nat} (h : mget l a = some v) : (mdel l a).length < l.length := by
  unfold mdel
  have hm := mget_mem h
  rw [← List.countP_eq_length_filter]
  have h1 := List.length_eq_countP_add_countP (fun p : Nat × Nat => !decide (p.1 = a)) (l := l)
  have h2 : 0 < l.countP (fun p => decide ¬((!decide (p.1 = a)) = true)) := List.countP_pos_iff.2 ⟨_, hm, by simp⟩
  omega
theorem mput_len (l : List (Nat × Nat)) (a v : Nat) : (mput l a v).length ≤ l.length + 1 := by
  unfold mput
  split <;> simp
section
variable {W : Nat}
theorem recv1_lx (a0 w0 : Nat) : ∀ (f : Nat) {s : Hb} {pd : List El}, (s.box a0 w0).st.length < f → Lq s W pd a0 w0 → Lx (recv1 f a0 w0 s) W pd
  | 0, s, pd, hf, h => absurd hf (by omega)
  | f + 1, s, pd, hf, h => by
    unfold recv1
    cases hg : mget (s.box a0 w0).st (s.box a0 w0).next with
    | none =>
      refine ⟨fun a w q1 q2 q3 => ?_, h.low, h.lost⟩
      by_cases e : a = a0 ∧ w = w0
      · rw [e.1, e.2]; exact hg
      · exact h.nxt a w q1 q2 q3 e
    | some v =>
      have hlen := mdel_len hg
      refine recv1_lx a0 w0 f (s := { s with box := _, got := _ }) ?_ ⟨fun a w q1 q2 q3 e => ?_, fun a w q1 q2 q3 k v' hk => ?_, fun a w k q1 q2 q3 h1 h2 => ?_⟩
      · simp only [upd2_same]
        omega
      · simp only [upd2_other _ _ e]
        exact h.nxt a w q1 q2 q3 e
      · by_cases e : a = a0 ∧ w = w0
        · obtain ⟨rfl, rfl⟩ := e
          simp only [upd2_same] at hk ⊢
          rw [mget_del] at hk
          split at hk
          · cases hk
          · rename_i hne
            have := h.low a w q1 q2 q3 k v' hk
            omega
        · simp only [upd2_other _ _ e] at hk ⊢
          exact h.low a w q1 q2 q3 k v' hk
      · by_cases e : a = a0 ∧ w = w0
        · obtain ⟨rfl, rfl⟩ := e
          simp only [upd2_same] at h1 ⊢
          rw [mget_del, if_neg (by omega)]
          exact h.lost a w k q1 q2 q3 (by omega) h2
        · simp only [upd2_other _ _ e] at h1 ⊢
          exact h.lost a w k q1 q2 q3 h1 h2
theorem receive_lx {s : Hb} {x : El} {pd : List El} (h : Lx s W (x :: pd)) (hk : x.kind = 0) (hs : 1 ≤ x.src ∧ x.src ≤ s.nodes) (hw : x.who < W) : Lx (receive s x) W pd := by
  unfold receive
  split
  · rename_i hlt
    refine ⟨h.nxt, h.low, fun a w k q1 q2 q3 h1 h2 => ?_⟩
    rcases h.lost a w k q1 q2 q3 h1 h2 with h3 | h3 | h3 | ⟨y, hy, h3⟩
    · exact .inl h3
    · exact .inr (.inl h3)
    · exact .inr (.inr (.inl h3))
    · rcases List.mem_cons.1 hy with rfl | hy
      · obtain ⟨_, rfl, rfl, rfl⟩ := h3
        omega
      · exact .inr (.inr (.inr ⟨y, hy, h3⟩))
  · rename_i hge
    refine recv1_lx x.src x.who _ (s := { s with box := _ }) ?_ ⟨fun a w q1 q2 q3 e => ?_, fun a w q1 q2 q3 k v hk' => ?_, fun a w k q1 q2 q3 h1 h2 => ?_⟩
    · simp only [upd2_same]
      have := mput_len (s.box x.src x.who).st x.seq x.n
      omega
    · simp only [upd2_other _ _ e]
      exact h.nxt a w q1 q2 q3
    · by_cases e : a = x.src ∧ w = x.who
      · obtain ⟨rfl, rfl⟩ := e
        simp only [upd2_same] at hk' ⊢
        rw [mget_put] at hk'
        split at hk'
        · omega
        · exact h.low _ _ q1 q2 q3 k v hk'
      · simp only [upd2_other _ _ e] at hk' ⊢
        exact h.low a w q1 q2 q3 k v hk'
    · by_cases e : a = x.src ∧ w = x.who
      · obtain ⟨rfl, rfl⟩ := e
        simp only [upd2_same] at h1 ⊢
        rw [mget_put]
        split
        · exact .inl rfl
        · rename_i hne
          rcases h.lost _ _ k q1 q2 q3 h1 h2 with h3 | h3 | h3 | ⟨y, hy, h3⟩
          · exact .inl h3
          · exact .inr (.inl h3)
          · exact .inr (.inr (.inl h3))
          · rcases List.mem_cons.1 hy with rfl | hy
            · exact absurd h3.2.2.2.symm hne
            · exact .inr (.inr (.inr ⟨y, hy, h3⟩))
      · simp only [upd2_other _ _ e] at h1 ⊢
        rcases h.lost a w k q1 q2 q3 h1 h2 with h3 | h3 | h3 | ⟨y, hy, h3⟩
        · exact .inl h3
        · exact .inr (.inl h3)
        · exact .inr (.inr (.inl h3))
        · rcases List.mem_cons.1 hy with rfl | hy
          · exact absurd ⟨h3.2.1.symm, h3.2.2.1.symm⟩ e
          · exact .inr (.inr (.inr ⟨y, hy, h3⟩))
/-- more in the rows, nothing else -/
theorem Lx.more {s s' : Hb} {pd pd' : List El} (h : Lx s W pd) (hb : s'.box = s.box) (hs : s'.sent = s.sent) (hn : s'.nodes = s.nodes) (hm : ∀ a w k, Some' s pd a w k → Some' s' pd' a w k) : Lx s' W pd' where
  nxt := by rw [hb, hn]; exact h.nxt
  low := by rw [hb, hn]; exact h.low
  lost := fun a w k q1 q2 q3 h1 h2 => by
    rw [hn] at q2
    rw [hb] at h1 ⊢
    rw [hs] at h2
    exact (h.lost a w k q1 q2 q3 h1 h2).imp id (hm a w k)
theorem push_mem (s : Hb) (a b : Nat) (x : El) {y : El} {c d : Nat} (h : y ∈ chan s.ways c d) : y ∈ chan (push s a b x).ways c d := by
  rw [push_chan]
  split
  · rename_i e
    rw [e.1, e.2] at h
    simp [h]
  · exact h
theorem push_new (s : Hb) (a b : Nat) (x : El) : x ∈ chan (push s a b x).ways a b := by rw [push_chan, if_pos ⟨rfl, rfl⟩]; simp
theorem Lx.push {s : Hb} {pd : List El} (h : Lx s W pd) (a b : Nat) (x : El) : Lx (push s a b x) W pd :=
  h.more rfl rfl rfl fun a w k => fun
    | .inl ⟨c, d, y, hy, h⟩ => .inl ⟨c, d, y, push_mem s _ _ x hy, h⟩
    | .inr h => .inr h
theorem wait_old {l : List (List El)} {i c : Nat} {x y : El} (h : y ∈ l.getD c []) : y ∈ (l.set i (l.getD i [] ++ [x])).getD c [] := by
  rw [List.getD_eq_getElem?_getD, List.getElem?_set]
  split
  · rename_i e
    subst e
    split
    · simp only [Option.getD_some]
      exact List.mem_append.2 (.inl h)
    · rename_i hl
      rw [List.getD_eq_getElem?_getD, List.getElem?_eq_none (by omega)] at h
      simp at h
  · rw [← List.getD_eq_getElem?_getD]; exact h
theorem process_lx {s : Hb} {x : El} {pd : List El} {node : Nat} (h : Lx s W (x :: pd)) (hk : x.kind = 0) (hs : 1 ≤ x.src ∧ x.src ≤ s.nodes) (hw : x.who < W) (hl : node < s.wait.length) : Lx (process s node x) W pd := by
  unfold process
  split
  · exact receive_lx h hk hs hw
  · split
    · refine h.more rfl rfl rfl fun a w k => ?_
      rintro (h3 | ⟨c, y, hy, h3⟩ | ⟨y, hy, h3⟩)
      · exact .inl h3
      · exact .inr (.inl ⟨c, y, wait_old hy, h3⟩)
      · rcases List.mem_cons.1 hy with rfl | hy
        · refine .inr (.inl ⟨node, y, ?_, h3⟩)
          show y ∈ (s.wait.set node (s.wait.getD node [] ++ [y])).getD node []
          rw [List.getD_eq_getElem?_getD, List.getElem?_set_self hl]
          simp
        · exact .inr (.inr ⟨y, hy, h3⟩)
    · have h2 : Lx (if x.src ≠ node then push s node x.src (note x.who (s.bel node x.who)) else s) W (x :: pd) := by
        split
        · exact h.push _ _ _
        · exact h
      generalize (if x.src ≠ node then push s node x.src (note x.who (s.bel node x.who)) else s) = u at h2 ⊢
      refine h2.more rfl rfl rfl fun a w k => ?_
      rintro (⟨c, d, y, hy, h3⟩ | h3 | ⟨y, hy, h3⟩)
      · exact .inl ⟨c, d, y, push_mem _ _ _ _ hy, h3⟩
      · exact .inr (.inl h3)
      · rcases List.mem_cons.1 hy with rfl | hy
        · exact .inl ⟨_, _, y, push_new _ _ _ _, h3⟩
        · exact .inr (.inr ⟨y, hy, h3⟩)
theorem recv1_wait : ∀ (f a w : Nat) (h : Hb), (recv1 f a w h).wait = h.wait := fun f a w h => (recv1_more f a w h).2.2.2.2
theorem process_waitlen (s : Hb) (node : Nat) (x : El) : (process s node x).wait.length = s.wait.length := by
  unfold process
  split
  · rw [(receive_more s x).2.2.2.2.1]
  · split
    · simp
    · unfold push
      split <;> rfl
theorem wakes_lx (node : Nat) : ∀ (l : List El) {s : Hb} {pd : List El}, Lx s W (l ++ pd) → (∀ y ∈ l, y.kind = 0 ∧ (1 ≤ y.src ∧ y.src ≤ s.nodes) ∧ y.who < W) → node < s.wait.length → Lx (l.foldl (fun h y => process h node y) s) W pd
  | [], s, pd, h, _, _ => h
  | y :: r, s, pd, h, hl, hn => by
    obtain ⟨h1, h2, h3⟩ := hl y (by simp)
    exact wakes_lx node r (process_lx h h1 h2 h3 hn) (fun z hz => by rw [process_nodes]; exact hl z (by simp [hz])) (by rw [process_waitlen]; exact hn)
theorem wake_lx {s : Hb} {node : Nat} (h : Lx s W []) (hl : ∀ y ∈ s.wait.getD node [], y.kind = 0 ∧ (1 ≤ y.src ∧ y.src ≤ s.nodes) ∧ y.who < W) (hn : node < s.wait.length) : Lx (wake s node) W [] := by
  unfold wake
  refine wakes_lx node _ (s := { s with wait := s.wait.set node [] }) ?_ hl (by simpa using hn)
  refine h.more rfl rfl rfl fun a w k => ?_
  rintro (h3 | ⟨c, y, hy, h3⟩ | ⟨y, hy, h3⟩)
  · exact .inl h3
  · by_cases e : c = node
    · subst e
      exact .inr (.inr ⟨y, List.mem_append.2 (.inl hy), h3⟩)
    · refine .inr (.inl ⟨c, y, ?_, h3⟩)
      show y ∈ (s.wait.set node []).getD c []
      rw [List.getD_eq_getElem?_getD, List.getElem?_set_ne (fun e2 => e e2.symm), ← List.getD_eq_getElem?_getD]
      exact hy
  · simp at hy
variable {s : Hb} {t : Nat} {S : Nat → Nat → List Nat}
theorem wait_ok (h : Core s W t S) (node : Nat) : ∀ y ∈ s.wait.getD node [], y.kind = 0 ∧ (1 ≤ y.src ∧ y.src ≤ s.nodes) ∧ y.who < W := fun y hy => by
  obtain ⟨row, hr, hy⟩ := getD_mem hy
  obtain ⟨h1, h2⟩ := h.wait row hr y hy
  exact ⟨h2, (h1.lt h2).1, h1.who⟩
theorem do_lx (h : Core s W t S) (hx : Lx s W []) {d : Dv} (hd : DOk s.nodes W d) : Lx (doF s d) W [] := by
  obtain ⟨d1, d2, d3, d4, d5, d6⟩ := hd
  unfold doF
  by_cases k1 : d.kind = 1
  · have hs := d5 (by omega)
    rw [if_pos k1, if_pos ⟨⟨hs, d2⟩, by rw [h.al]; exact d4⟩]
    refine process_lx (s := { s with sent := upd2 s.sent d.src d.who (s.sent d.src d.who + 1) }) ⟨hx.nxt, hx.low, fun a w k q1 q2 q3 h1 h2 => ?_⟩ rfl ⟨hs, d2⟩ d4 (by show d.src < s.wait.length; rw [h.wl]; omega)
    by_cases e : a = d.src ∧ w = d.who
    · obtain ⟨rfl, rfl⟩ := e
      simp only [upd2_same] at h2
      by_cases ek : k = s.sent d.src d.who
      · exact .inr (.inr (.inr ⟨_, List.mem_singleton.2 rfl, rfl, rfl, rfl, ek.symm⟩))
      · rcases hx.lost _ _ k q1 q2 q3 h1 (by omega) with h3 | h3 | h3 | ⟨y, hy, _⟩
        · exact .inl h3
        · exact .inr (.inl h3)
        · exact .inr (.inr (.inl h3))
        · simp at hy
    · simp only [upd2_other _ _ e] at h2
      rcases hx.lost a w k q1 q2 q3 h1 h2 with h3 | h3 | h3 | ⟨y, hy, _⟩
      · exact .inl h3
      · exact .inr (.inl h3)
      · exact .inr (.inr (.inl h3))
      · simp at hy
  · rw [if_neg k1]
    by_cases k2 : d.kind = 2
    · rw [if_pos k2]
      split
      · have h2 : Lx { s with bel := upd2 s.bel (s.at_.getD d.who 0) d.who (d.dst, (s.bel (s.at_.getD d.who 0) d.who).2 + 1), at_ := s.at_.set d.who 0 } W [] := hx.more rfl rfl rfl fun a w k h => h
        exact h2.push _ _ _
      · exact hx
    · rw [if_neg k2]
      split
      · rename_i k3
        split
        · exact hx
        · rename_i x r e
          have hmem : x ∈ chan s.ways d.src d.dst := by rw [e]; simp
          have hok := h.chan _ _ x hmem
          have hpc : ∀ c d' y, y ∈ chan s.ways c d' → (y = x ∧ c = d.src ∧ d' = d.dst) ∨ y ∈ chan (mput s.ways (d.src, d.dst) r) c d' := fun c d' y hy => by
            rw [chan_put]
            split
            · rename_i e2
              rw [e2.1, e2.2, e] at hy
              rcases List.mem_cons.1 hy with rfl | hy
              · exact .inl ⟨rfl, e2⟩
              · exact .inr hy
            · exact .inr hy
          unfold come
          by_cases hk : x.kind = 0
          · rw [if_pos hk]
            refine process_lx (s := { s with ways := mput s.ways (d.src, d.dst) r }) (hx.more rfl rfl rfl fun a w k => ?_) hk (hok.lt hk).1 hok.who (by show d.dst < s.wait.length; rw [h.wl]; omega)
            rintro (⟨c, d', y, hy, h3⟩ | h3 | ⟨y, hy, h3⟩)
            · rcases hpc c d' y hy with ⟨rfl, _⟩ | hy
              · exact .inr (.inr ⟨y, by simp, h3⟩)
              · exact .inl ⟨c, d', y, hy, h3⟩
            · exact .inr (.inl h3)
            · simp at hy
          · rw [if_neg hk]
            have h2 : Lx { s with ways := mput s.ways (d.src, d.dst) r } W [] := hx.more rfl rfl rfl fun a w k => by
              rintro (⟨c, d', y, hy, h3⟩ | h3 | h3)
              · rcases hpc c d' y hy with ⟨rfl, _⟩ | hy
                · exact absurd h3.1 hk
                · exact .inl ⟨c, d', y, hy, h3⟩
              · exact .inr (.inl h3)
              · exact .inr (.inr h3)
            split
            · have ha : ∀ u : Hb, (arrive u d.dst x).box = u.box ∧ (arrive u d.dst x).sent = u.sent ∧ (arrive u d.dst x).nodes = u.nodes ∧ (arrive u d.dst x).ways = u.ways ∧ (arrive u d.dst x).wait = u.wait := fun u => by
                unfold arrive
                split <;> exact ⟨rfl, rfl, rfl, rfl, rfl⟩
              have hl : ∀ u : Hb, (learn u d.dst x).box = u.box ∧ (learn u d.dst x).sent = u.sent ∧ (learn u d.dst x).nodes = u.nodes ∧ (learn u d.dst x).ways = u.ways ∧ (learn u d.dst x).wait = u.wait := fun u => by
                unfold learn
                split <;> exact ⟨rfl, rfl, rfl, rfl, rfl⟩
              obtain ⟨a1, a2, a3, a4, a5⟩ := ha { s with ways := mput s.ways (d.src, d.dst) r }
              obtain ⟨l1, l2, l3, l4, l5⟩ := hl (arrive { s with ways := mput s.ways (d.src, d.dst) r } d.dst x)
              refine wake_lx (h2.more (l1.trans a1) (l2.trans a2) (l3.trans a3) fun a w k => ?_) ?_ ?_
              · rintro (⟨c, d', y, hy, h3⟩ | ⟨c, y, hy, h3⟩ | h3)
                · exact .inl ⟨c, d', y, by rw [l4, a4]; exact hy, h3⟩
                · exact .inr (.inl ⟨c, y, by rw [l5, a5]; exact hy, h3⟩)
                · exact .inr (.inr h3)
              · rw [l5, a5, l3, a3]
                exact wait_ok h d.dst
              · rw [l5, a5]
                show d.dst < s.wait.length
                rw [h.wl]
                omega
            · exact h2
      · exact hx
theorem run_lx : ∀ (D : List Dv) {s : Hb} {t : Nat} {S : Nat → Nat → List Nat}, Core s W t S → Lx s W [] → (∀ d ∈ D, DOk s.nodes W d) → Lx (runF s D) W []
  | [], s, t, S, _, hx, _ => hx
  | d :: D, s, t, S, h, hx, hd => run_lx D (h.do_ (hd d (by simp))) (do_lx h hx (hd d (by simp))) (fun e he => by rw [doF_nodes]; exact hd e (by simp [he]))
theorem new_lx (nodes : Nat) (C : List Nat) : Lx (newF nodes C) W [] where
  nxt := fun a w _ _ _ => rfl
  low := fun a w _ _ _ k v hk => by simp [newF, mget_nil] at hk
  lost := fun a w k _ _ _ _ h2 => by simp [newF] at h2
end
/-! ### counting -/
theorem by_src (n : Nat) : ∀ (row : List (Nat × Nat)), (∀ g ∈ row, 1 ≤ g.1 ∧ g.1 ≤ n) → row.length = ((List.range n).map fun i => (row.filter fun g => decide (g.1 = i + 1)).length).sum
  | [], _ => by
    have : ∀ l : List Nat, (l.map fun i => (([] : List (Nat × Nat)).filter fun g => decide (g.1 = i + 1)).length).sum = 0 := by
      intro l
      induction l with
      | nil => rfl
      | cons x r ih => rw [List.map_cons, List.sum_cons, ih]; rfl
    rw [this]
    rfl
  | g :: row, h => by
    have hg := h g (by simp)
    rw [List.length_cons, by_src n row fun g hg => h g (by simp [hg])]
    symm
    refine sum_more (v := g.1 - 1) _ List.nodup_range (List.mem_range.2 (by omega)) (fun i hi hne => ?_) ?_
    · rw [List.filter_cons, if_neg (by simp; omega)]
    · rw [List.filter_cons, if_pos (by simp; omega)]
      rfl
theorem sum_zero (f : Nat → Nat) : ∀ (l : List Nat), (∀ i ∈ l, f i = 0) → (l.map f).sum = 0
  | [], _ => rfl
  | x :: r, h => by rw [List.map_cons, List.sum_cons, h x (by simp), sum_zero f r fun i hi => h i (by simp [hi])]
def putN (D : List Dv) (n W : Nat) : Nat := ((List.range W).map fun w => ((List.range n).map fun i => (D.filter fun d => decide (d.kind = 1) && decide (d.who = w) && decide (d.src = i + 1)).length).sum).sum
theorem puts_all (n W : Nat) : ∀ (D : List Dv), (∀ d ∈ D, DOk n W d) → putN D n W = (D.filter fun d => decide (d.kind = 1)).length
  | [], _ => by
    unfold putN
    rw [sum_zero]
    · rfl
    · intro w _
      exact sum_zero _ _ fun i _ => rfl
  | d :: D, h => by
    have i := puts_all n W D fun d hd => h d (by simp [hd])
    obtain ⟨d1, d2, d3, d4, d5, d6⟩ := h d (by simp)
    by_cases k : d.kind = 1
    · have hs := d5 (by omega)
      rw [List.filter_cons, if_pos (by simp [k]), List.length_cons, ← i]
      unfold putN
      refine sum_more (v := d.who) _ List.nodup_range (List.mem_range.2 d4) (fun w hw hne => sum_same _ fun i hi => ?_) ?_
      · rw [List.filter_cons, if_neg (by simp; intro _ e; exact absurd e.symm hne)]
      · refine sum_more (v := d.src - 1) _ List.nodup_range (List.mem_range.2 (by omega)) (fun i hi hne => ?_) ?_
        · rw [List.filter_cons, if_neg (by simp; omega)]
        · rw [List.filter_cons, if_pos (by simp [k]; omega)]
          rfl
    · rw [List.filter_cons, if_neg (by simp [k]), ← i]
      unfold putN
      refine sum_same _ fun w hw => sum_same _ fun i hi => ?_
      rw [List.filter_cons, if_neg (by simp [k])]
theorem len_at : ∀ (l : List (List (Nat × Nat))) (f : Nat → Nat) (k : Nat), (∀ w row, l[w]? = some row → row.length = f (k + w)) → (l.map List.length).sum = ((List.range' k l.length).map f).sum
  | [], f, k, _ => rfl
  | row :: l, f, k, h => by
    have h0 := h 0 row rfl
    have i := len_at l f (k + 1) fun w r hr => by
      have := h (w + 1) r (by simpa using hr)
      rw [show k + 1 + w = k + (w + 1) by omega]
      exact this
    rw [List.map_cons, List.sum_cons, List.length_cons, List.range'_succ, List.map_cons, List.sum_cons, i, h0]
    rfl
/-- MoveArrives' law -/
theorem arrives {nodes : Nat} {C : List Nat} (h1 : 1 ≤ nodes ∧ nodes ≤ 3) (hC0 : 0 < C.length) (hC : ∀ c ∈ C, 1 ≤ c ∧ c ≤ nodes) {D : List Dv} (hD : ∀ d ∈ D, DOk nodes C.length d) (h8 : D.length ≤ 8) :
    (∀ a b, chan (runF (newF nodes C) (D ++ rounds nodes 12)).ways a b = []) ∧ (∀ c, (runF (newF nodes C) (D ++ rounds nodes 12)).wait.getD c [] = []) ∧
    (∀ a w, 1 ≤ a → a ≤ nodes → w < C.length → ((runF (newF nodes C) (D ++ rounds nodes 12)).box a w).st = []) ∧
    (∀ w, w < C.length → 1 ≤ (runF (newF nodes C) (D ++ rounds nodes 12)).at_.getD w 0 ∧ (runF (newF nodes C) (D ++ rounds nodes 12)).at_.getD w 0 ≤ nodes) ∧
    ((runF (newF nodes C) (D ++ rounds nodes 12)).got.map List.length).sum = (D.filter fun d => decide (d.kind = 1)).length := by
  obtain ⟨R, h, he⟩ := drained h1 hC hD h8
  have hall : ∀ d ∈ D ++ rounds nodes 12, DOk nodes C.length d := by
    intro d hd
    rcases List.mem_append.1 hd with hd | hd
    · exact hD d hd
    · have hr : ∀ m, ∀ d ∈ rounds nodes m, ∃ p ∈ pairs nodes, d = cm p.1 p.2 := by
        intro m
        induction m with
        | zero => intro d hd; simp [rounds] at hd
        | succ m ih =>
          intro d hd
          rw [rounds] at hd
          rcases List.mem_append.1 hd with hd | hd
          · unfold rd at hd
            obtain ⟨l, hl, hd⟩ := List.mem_flatten.1 hd
            obtain ⟨p, hp, rfl⟩ := List.mem_map.1 hl
            exact ⟨p, hp, (List.mem_replicate.1 hd).2⟩
          · exact ih d hd
      obtain ⟨p, hp, rfl⟩ := hr 12 d hd
      obtain ⟨p1, p2, p3⟩ := pairs_ok p hp
      exact ⟨by simp [cm], p1.2, p2.2, hC0, fun _ => p1.1, fun _ => p2.1⟩
  have hx := run_lx (W := C.length) _ (new_core nodes C ⟨h1.1, by omega⟩ hC) (new_lx nodes C) hall
  have hnodes : (runF (newF nodes C) (D ++ rounds nodes 12)).nodes = nodes := by
    have : ∀ (D : List Dv) (s : Hb), (runF s D).nodes = s.nodes := by
      intro D
      induction D with
      | nil => intro s; rfl
      | cons d D ih => intro s; exact (ih _).trans (doF_nodes s d)
    exact this _ _
  generalize runF (newF nodes C) (D ++ rounds nodes 12) = s at *
  have hat : ∀ w, w < C.length → s.at_.getD w 0 ≠ 0 := fun w hw h0 => by
    obtain ⟨c, k, r, hR, _⟩ := h.tr.fly w hw h0
    have := (h.tr.ch k c).cnt w hw h0 r hR
    rw [he] at this
    simp at this
  have hwt : ∀ c, s.wait.getD c [] = [] := fun c => by
    cases e : s.wait.getD c [] with
    | nil => rfl
    | cons y l =>
      have hy : y ∈ s.wait.getD c [] := by rw [e]; simp
      exact absurd (h.wt c y hy).2.1 (hat _ (h.waitOk hy))
  have hnext : ∀ a w, 1 ≤ a → a ≤ nodes → w < C.length → (s.box a w).next = s.sent a w := by
    intro a w q1 q2 q3
    have q2' : a ≤ s.nodes := by rw [hnodes]; exact q2
    have hb := (h.core.box a w q1 q2' q3).1
    have hs := (h.core.sent a w q1 q2' q3).1
    by_cases hlt : (s.box a w).next < s.sent a w
    · rcases hx.lost a w _ q1 q2' q3 (Nat.le_refl _) hlt with h3 | ⟨c, d, y, hy, _⟩ | ⟨c, y, hy, _⟩ | ⟨y, hy, _⟩
      · rw [hx.nxt a w q1 q2' q3] at h3
        cases h3
      · rw [he] at hy; simp at hy
      · rw [hwt] at hy; simp at hy
      · simp at hy
    · omega
  refine ⟨he, hwt, fun a w q1 q2 q3 => ?_, fun w hw => ?_, ?_⟩
  · have q2' : a ≤ s.nodes := by rw [hnodes]; exact q2
    have hn := hnext a w q1 q2 q3
    have hs := (h.core.sent a w q1 q2' q3).1
    obtain ⟨_, _, b3⟩ := h.core.box a w q1 q2' q3
    cases e : (s.box a w).st with
    | nil => rfl
    | cons p l =>
      have hg : mget (s.box a w).st p.1 = some p.2 := by rw [e, mget_cons, if_pos rfl]
      have h2 := hx.low a w q1 q2' q3 _ _ hg
      have h3 := (List.getElem?_eq_some_iff.1 (b3 _ _ hg)).1
      omega
  · have h0 := hat w hw
    obtain ⟨⟨r, hR⟩, _⟩ := h.tr.fix w hw h0
    have := h.tr.rg w hw (s.at_.getD w 0) (by rw [hR]; simp)
    rw [hnodes] at this
    exact this
  · have hgl := h.core.gl
    rw [← puts_all nodes C.length D hD]
    rw [len_at s.got (fun w => ((List.range nodes).map fun i => (D.filter fun d => decide (d.kind = 1) && decide (d.who = w) && decide (d.src = i + 1)).length).sum) 0]
    · rw [hgl, ← List.range_eq_range']
      rfl
    · intro w row hr
      have hw : w < C.length := by
        have := (List.getElem?_eq_some_iff.1 hr).1
        omega
      obtain ⟨g1, g2⟩ := h.core.got w row hr
      rw [hnodes] at g1
      rw [by_src nodes row g1, Nat.zero_add]
      refine sum_same _ fun i hi => ?_
      have hin := List.mem_range.1 hi
      have q2' : i + 1 ≤ s.nodes := by rw [hnodes]; omega
      have h3 := congrArg List.length (g2 (i + 1) (by omega) q2')
      rw [List.length_map, hnext (i + 1) w (by omega) (by omega) hw, (h.core.sent (i + 1) w (by omega) q2' hw).1, List.take_length, putsS_at] at h3
      simpa using h3
end Go.Mv
