/- Plain laws of package move's simulation: what it does; letters come in order; what came stays. No program in sight. -/
import Derived.Test.YtckkelppdeampaaMap
set_option linter.unusedVariables false
namespace Go.Mv
open Go.Mem
structure El where
  kind : Nat
  who : Nat
  src : Nat
  seq : Nat
  n : Nat
  bn : Nat
  bm : Nat
structure Dv where
  kind : Nat
  src : Nat
  dst : Nat
  who : Nat
  n : Nat
structure Bx where
  next : Nat
  st : List (Nat × Nat)
abbrev Ways := List ((Nat × Nat) × List El)
structure Hb where
  nodes : Nat
  at_ : List Nat
  bel : Nat → Nat → Nat × Nat
  sent : Nat → Nat → Nat
  box : Nat → Nat → Bx
  ways : Ways
  wait : List (List El)
  got : List (List (Nat × Nat))
def chan (ws : Ways) (a b : Nat) : List El := (mget ws (a, b)).getD []
def upd2 {α : Type} (f : Nat → Nat → α) (a b : Nat) (v : α) : Nat → Nat → α := fun x y => if x = a ∧ y = b then v else f x y
theorem upd2_same {α : Type} (f : Nat → Nat → α) (a b : Nat) (v : α) : upd2 f a b v a b = v := by simp [upd2]
theorem upd2_other {α : Type} (f : Nat → Nat → α) {a b x y : Nat} (v : α) (h : ¬ (x = a ∧ y = b)) : upd2 f a b v x y = f x y := by simp [upd2, h]
def push (h : Hb) (a b : Nat) (x : El) : Hb := { h with ways := mput h.ways (a, b) (chan h.ways a b ++ [x]) }
/-- the letters that are stored come, one behind the other -/
def recv1 : Nat → Nat → Nat → Hb → Hb
  | 0, _, _, h => h
  | f + 1, a, w, h => match mget (h.box a w).st (h.box a w).next with
    | none => h
    | some v => recv1 f a w { h with box := upd2 h.box a w ⟨(h.box a w).next + 1, mdel (h.box a w).st (h.box a w).next⟩, got := h.got.set w (h.got.getD w [] ++ [(a, v)]) }
def receive (h : Hb) (x : El) : Hb :=
  if x.seq < (h.box x.src x.who).next then h
  else recv1 ((h.box x.src x.who).st.length + 2) x.src x.who { h with box := upd2 h.box x.src x.who ⟨(h.box x.src x.who).next, mput (h.box x.src x.who).st x.seq x.n⟩ }
def note (w : Nat) (b : Nat × Nat) : El := ⟨2, w, 0, 0, 0, b.1, b.2⟩
def process (h : Hb) (node : Nat) (x : El) : Hb :=
  if h.at_.getD x.who 0 = node then receive h x
  else if (h.bel node x.who).1 = node then { h with wait := h.wait.set node (h.wait.getD node [] ++ [x]) }
  else push (if x.src ≠ node then push h node x.src (note x.who (h.bel node x.who)) else h) node (h.bel node x.who).1 x
def arrive (h : Hb) (node : Nat) (x : El) : Hb := if x.kind = 1 then { h with at_ := h.at_.set x.who node } else h
def learn (h : Hb) (node : Nat) (x : El) : Hb := if (h.bel node x.who).2 < x.bm then { h with bel := upd2 h.bel node x.who (x.bn, x.bm) } else h
def wake (h : Hb) (node : Nat) : Hb := (h.wait.getD node []).foldl (fun h y => process h node y) { h with wait := h.wait.set node [] }
def come (h : Hb) (node : Nat) (x : El) : Hb :=
  if x.kind = 0 then process h node x
  else if x.kind = 1 ∨ (h.bel node x.who).2 < x.bm then wake (learn (arrive h node x) node x) node else h
def isNode (h : Hb) (n : Nat) : Prop := 1 ≤ n ∧ n ≤ h.nodes
instance (h : Hb) (n : Nat) : Decidable (isNode h n) := by unfold isNode; infer_instance
def doF (h : Hb) (d : Dv) : Hb :=
  if d.kind = 1 then
    if isNode h d.src ∧ d.who < h.at_.length then process { h with sent := upd2 h.sent d.src d.who (h.sent d.src d.who + 1) } d.src ⟨0, d.who, d.src, h.sent d.src d.who, d.n, 0, 0⟩ else h
  else if d.kind = 2 then
    if isNode h d.dst ∧ d.who < h.at_.length ∧ h.at_.getD d.who 0 ≠ 0 ∧ h.at_.getD d.who 0 ≠ d.dst then
      push { h with bel := upd2 h.bel (h.at_.getD d.who 0) d.who (d.dst, (h.bel (h.at_.getD d.who 0) d.who).2 + 1), at_ := h.at_.set d.who 0 } (h.at_.getD d.who 0) d.dst
        ⟨1, d.who, 0, 0, 0, d.dst, (h.bel (h.at_.getD d.who 0) d.who).2 + 1⟩
    else h
  else if d.kind = 3 then
    match chan h.ways d.src d.dst with
    | [] => h
    | x :: r => come { h with ways := mput h.ways (d.src, d.dst) r } d.dst x
  else h
def newF (nodes : Nat) (C : List Nat) : Hb := ⟨nodes, C, fun _ w => (C.getD w 0, 0), fun _ _ => 0, fun _ _ => ⟨0, []⟩, [], List.replicate (nodes + 1) [], List.replicate C.length []⟩
def runF (h : Hb) (D : List Dv) : Hb := D.foldl doF h

/-! ### what holds of a simulation; S: what each node put for each actor -/
structure ElOk (nodes W t : Nat) (S : Nat → Nat → List Nat) (x : El) : Prop where
  kind : x.kind ≤ 2
  who : x.who < W
  lt : x.kind = 0 → (1 ≤ x.src ∧ x.src ≤ nodes) ∧ (S x.src x.who)[x.seq]? = some x.n
  bl : x.kind ≠ 0 → (1 ≤ x.bn ∧ x.bn ≤ nodes) ∧ x.bm ≤ t
structure Core (s : Hb) (W t : Nat) (S : Nat → Nat → List Nat) : Prop where
  n1 : 1 ≤ s.nodes ∧ s.nodes ≤ 8
  al : s.at_.length = W
  ao : ∀ (i v : Nat), s.at_[i]? = some v → v ≤ s.nodes
  bel : ∀ a w, 1 ≤ a → a ≤ s.nodes → w < W → (1 ≤ (s.bel a w).1 ∧ (s.bel a w).1 ≤ s.nodes) ∧ (s.bel a w).2 ≤ t
  sent : ∀ a w, 1 ≤ a → a ≤ s.nodes → w < W → s.sent a w = (S a w).length ∧ (S a w).length ≤ t
  box : ∀ a w, 1 ≤ a → a ≤ s.nodes → w < W → (s.box a w).next ≤ (S a w).length ∧ ((s.box a w).st.map (·.1)).Nodup ∧ ∀ k v, mget (s.box a w).st k = some v → (S a w)[k]? = some v
  gl : s.got.length = W
  got : ∀ (w : Nat) (row : List (Nat × Nat)), s.got[w]? = some row → (∀ g ∈ row, 1 ≤ g.1 ∧ g.1 ≤ s.nodes) ∧ ∀ a, 1 ≤ a → a ≤ s.nodes → (row.filter fun g => decide (g.1 = a)).map (·.2) = (S a w).take (s.box a w).next
  wl : s.wait.length = s.nodes + 1
  wait : ∀ row ∈ s.wait, ∀ x ∈ row, ElOk s.nodes W t S x ∧ x.kind = 0
  wk : (s.ways.map (·.1)).Nodup
  ways : ∀ p ∈ s.ways, ((1 ≤ p.1.1 ∧ p.1.1 ≤ s.nodes) ∧ (1 ≤ p.1.2 ∧ p.1.2 ≤ s.nodes)) ∧ ∀ x ∈ p.2, ElOk s.nodes W t S x

theorem Core.chan {s : Hb} {W t : Nat} {S : Nat → Nat → List Nat} (h : Core s W t S) (a b : Nat) : ∀ x ∈ chan s.ways a b, ElOk s.nodes W t S x := by
  intro x hx
  unfold Mv.chan at hx
  cases hg : mget s.ways (a, b) with
  | none => rw [hg] at hx; simp at hx
  | some l => rw [hg] at hx; exact (h.ways _ (mget_mem hg)).2 x hx
theorem nodup_put {α β : Type} [DecidableEq α] (l : List (α × β)) (a : α) (v : β) (h : (l.map (·.1)).Nodup) : ((mput l a v).map (·.1)).Nodup := by
  unfold mput
  split
  · have : (l.map fun p => if p.1 = a then (a, v) else p).map (·.1) = l.map (·.1) := by
      rw [List.map_map]
      apply List.map_congr_left
      intro p _
      simp only [Function.comp_apply]
      split
      · rename_i e; exact e.symm
      · rfl
    rw [this]
    exact h
  · rename_i hn
    rw [List.map_append]
    refine List.nodup_append.2 ⟨h, by simp, ?_⟩
    intro x hx y hy
    obtain rfl : y = a := by simpa using hy
    obtain ⟨p, hp, rfl⟩ := List.mem_map.1 hx
    have h0 : mget l y = none := by simpa using hn
    simpa using mget_none.1 h0 p hp
theorem nodup_del {α β : Type} [DecidableEq α] (l : List (α × β)) (a : α) (h : (l.map (·.1)).Nodup) : ((mdel l a).map (·.1)).Nodup := by
  unfold mdel
  exact (List.filter_sublist.map _).nodup h
theorem Core.setWay {s : Hb} {W t : Nat} {S : Nat → Nat → List Nat} (h : Core s W t S) {a b : Nat} {l : List El} (ha : 1 ≤ a ∧ a ≤ s.nodes) (hb : 1 ≤ b ∧ b ≤ s.nodes) (hl : ∀ x ∈ l, ElOk s.nodes W t S x) : Core { s with ways := mput s.ways (a, b) l } W t S :=
  { h with
    wk := nodup_put _ _ _ h.wk
    ways := fun p hp => by
      rcases mem_put hp with rfl | hp
      · exact ⟨⟨ha, hb⟩, hl⟩
      · exact h.ways p hp }
theorem Core.push {s : Hb} {W t : Nat} {S : Nat → Nat → List Nat} (h : Core s W t S) {a b : Nat} {x : El} (ha : 1 ≤ a ∧ a ≤ s.nodes) (hb : 1 ≤ b ∧ b ≤ s.nodes) (hx : ElOk s.nodes W t S x) : Core (push s a b x) W t S := by
  refine h.setWay ha hb fun y hy => ?_
  rcases List.mem_append.1 hy with hy | hy
  · exact h.chan a b y hy
  · simp at hy
    subst hy
    exact hx
theorem take_next {α : Type} {l : List α} {k : Nat} {v : α} (h : l[k]? = some v) : l.take (k + 1) = l.take k ++ [v] := by
  obtain ⟨hk, e⟩ := List.getElem?_eq_some_iff.1 h
  rw [List.take_succ_eq_append_getElem hk, e]
theorem Core.recv1 : ∀ (f : Nat) {s : Hb} {W t : Nat} {S : Nat → Nat → List Nat} (h : Core s W t S) {a w : Nat} (ha : 1 ≤ a ∧ a ≤ s.nodes) (hw : w < W), Core (recv1 f a w s) W t S
  | 0, s, W, t, S, h, a, w, ha, hw => h
  | f + 1, s, W, t, S, h, a, w, ha, hw => by
    unfold Mv.recv1
    cases hg : mget (s.box a w).st (s.box a w).next with
    | none => exact h
    | some v =>
      simp only
      obtain ⟨b1, b2, b3⟩ := h.box a w ha.1 ha.2 hw
      have hv := b3 _ _ hg
      have hlt : (s.box a w).next < (S a w).length := (List.getElem?_eq_some_iff.1 hv).1
      refine Core.recv1 f (s := { s with box := _, got := _ }) ?_ ha hw
      have hwg : w < s.got.length := by rw [h.gl]; exact hw
      refine { h with box := fun a' w' h1 h2 h3 => ?_, gl := by simpa using h.gl, got := fun w' row hr => ?_ }
      · by_cases e : a' = a ∧ w' = w
        · obtain ⟨rfl, rfl⟩ := e
          simp only [upd2_same]
          refine ⟨by omega, nodup_del _ _ b2, fun k v' hk => ?_⟩
          rw [mget_del] at hk
          split at hk
          · cases hk
          · exact b3 k v' hk
        · simp only [upd2_other _ _ e]
          exact h.box a' w' h1 h2 h3
      · by_cases ew : w' = w
        · subst ew
          have hrow : s.got[w']? = some (s.got.getD w' []) := by
            rw [List.getD_eq_getElem?_getD, List.getElem?_eq_getElem hwg]; rfl
          simp only [List.getElem?_set_self hwg, Option.some.injEq] at hr
          subst hr
          obtain ⟨g1, g2⟩ := h.got w' _ hrow
          refine ⟨fun g hgm => ?_, fun a' h1 h2 => ?_⟩
          · rcases List.mem_append.1 hgm with hgm | hgm
            · exact g1 g hgm
            · simp at hgm
              subst hgm
              exact ha
          · rw [List.filter_append, List.map_append, g2 a' h1 h2]
            by_cases e : a' = a
            · subst e
              simp only [upd2_same]
              rw [take_next hv]
              simp
            · have e2 : ¬ a = a' := fun h => e h.symm
              dsimp only
              rw [upd2_other _ _ (fun h => e h.1)]
              simp [e2]
        · simp only [List.getElem?_set_ne (Ne.symm ew)] at hr
          obtain ⟨g1, g2⟩ := h.got w' row hr
          refine ⟨g1, fun a' h1 h2 => ?_⟩
          dsimp only
          rw [upd2_other _ _ (fun h => ew h.2)]
          exact g2 a' h1 h2
theorem Core.receive {s : Hb} {W t : Nat} {S : Nat → Nat → List Nat} (h : Core s W t S) {x : El} (hx : ElOk s.nodes W t S x) (hk : x.kind = 0) : Core (receive s x) W t S := by
  unfold Mv.receive
  split
  · exact h
  · obtain ⟨ha, hv⟩ := hx.lt hk
    refine Core.recv1 _ (s := { s with box := _ }) ?_ ha hx.who
    obtain ⟨b1, b2, b3⟩ := h.box x.src x.who ha.1 ha.2 hx.who
    refine { h with box := fun a' w' h1 h2 h3 => ?_, got := fun w' row hr => ?_ }
    · by_cases e : a' = x.src ∧ w' = x.who
      · obtain ⟨rfl, rfl⟩ := e
        simp only [upd2_same]
        refine ⟨b1, nodup_put _ _ _ b2, fun k v hkv => ?_⟩
        rw [mget_put] at hkv
        split at hkv
        · rename_i e
          injection hkv with hkv
          rw [e, ← hkv]
          exact hv
        · exact b3 k v hkv
      · simp only [upd2_other _ _ e]
        exact h.box a' w' h1 h2 h3
    · obtain ⟨g1, g2⟩ := h.got w' row hr
      refine ⟨g1, fun a' h1 h2 => ?_⟩
      by_cases e : a' = x.src ∧ w' = x.who
      · obtain ⟨rfl, rfl⟩ := e
        simp only [upd2_same]
        exact g2 _ h1 h2
      · simp only [upd2_other _ _ e]
        exact g2 a' h1 h2
theorem recv1_nodes : ∀ (f a w : Nat) (h : Hb), (recv1 f a w h).nodes = h.nodes
  | 0, _, _, _ => rfl
  | f + 1, a, w, h => by
    unfold recv1
    split
    · rfl
    · rw [recv1_nodes]
theorem process_nodes (h : Hb) (node : Nat) (x : El) : (process h node x).nodes = h.nodes := by
  unfold process receive push
  split
  · split
    · rfl
    · rw [recv1_nodes]
  · split
    · rfl
    · dsimp only
      split <;> rfl
theorem mem_set_ {α : Type} {l : List α} {i : Nat} {v x : α} (h : x ∈ l.set i v) : x = v ∨ x ∈ l := by
  rcases List.mem_or_eq_of_mem_set h with h | h
  · exact .inr h
  · exact .inl h
theorem getD_mem {l : List (List El)} {i : Nat} {x : El} (h : x ∈ l.getD i []) : ∃ row ∈ l, x ∈ row := by
  rw [List.getD_eq_getElem?_getD] at h
  cases hi : l[i]? with
  | none => rw [hi] at h; simp at h
  | some row => rw [hi] at h; exact ⟨row, List.mem_of_getElem? hi, h⟩
theorem Core.process {s : Hb} {W t : Nat} {S : Nat → Nat → List Nat} (h : Core s W t S) {node : Nat} {x : El} (hn : 1 ≤ node ∧ node ≤ s.nodes) (hx : ElOk s.nodes W t S x) (hk : x.kind = 0) : Core (process s node x) W t S := by
  unfold Mv.process
  split
  · exact h.receive hx hk
  · split
    · refine { h with wl := by simpa using h.wl, wait := fun row hr y hy => ?_ }
      rcases mem_set_ hr with rfl | hr
      · rcases List.mem_append.1 hy with hy | hy
        · obtain ⟨r, hr, hy⟩ := getD_mem hy
          exact h.wait r hr y hy
        · simp at hy
          subst hy
          exact ⟨hx, hk⟩
      · exact h.wait row hr y hy
    · obtain ⟨b1, b2⟩ := h.bel node x.who hn.1 hn.2 hx.who
      have hno : ElOk s.nodes W t S (note x.who (s.bel node x.who)) := ⟨by simp [note], hx.who, fun e => by simp [note] at e, fun _ => ⟨b1, b2⟩⟩
      split
      · exact (h.push hn (hx.lt hk).1 hno).push (s := Mv.push s _ _ _) hn b1 hx
      · exact h.push hn b1 hx
theorem Core.wake {s : Hb} {W t : Nat} {S : Nat → Nat → List Nat} (h : Core s W t S) {node : Nat} (hn : 1 ≤ node ∧ node ≤ s.nodes) : Core (wake s node) W t S := by
  unfold Mv.wake
  have hl : ∀ y ∈ s.wait.getD node [], ElOk s.nodes W t S y ∧ y.kind = 0 := fun y hy => by
    obtain ⟨r, hr, hy⟩ := getD_mem hy
    exact h.wait r hr y hy
  have h0 : Core { s with wait := s.wait.set node [] } W t S := by
    refine { h with wl := by simpa using h.wl, wait := fun row hr y hy => ?_ }
    rcases mem_set_ hr with rfl | hr
    · simp at hy
    · exact h.wait row hr y hy
  generalize s.wait.getD node [] = l at hl
  have go : ∀ (l : List El) (s' : Hb), s'.nodes = s.nodes → Core s' W t S → (∀ y ∈ l, ElOk s.nodes W t S y ∧ y.kind = 0) → Core (l.foldl (fun h y => Mv.process h node y) s') W t S := by
    intro l
    induction l with
    | nil => intro s' _ h' _; exact h'
    | cons y r ih =>
      intro s' e h' hl
      obtain ⟨h1, h2⟩ := hl y (by simp)
      exact ih _ ((process_nodes _ _ _).trans e) (h'.process (by rw [e]; exact hn) (by rw [e]; exact h1) h2) fun z hz => hl z (by simp [hz])
  exact go l _ rfl h0 hl
theorem learn_nodes (h : Hb) (node : Nat) (x : El) : (learn h node x).nodes = h.nodes := by unfold learn; split <;> rfl
theorem arrive_nodes (h : Hb) (node : Nat) (x : El) : (arrive h node x).nodes = h.nodes := by unfold arrive; split <;> rfl
theorem Core.come {s : Hb} {W t : Nat} {S : Nat → Nat → List Nat} (h : Core s W t S) {node : Nat} {x : El} (hn : 1 ≤ node ∧ node ≤ s.nodes) (hx : ElOk s.nodes W t S x) : Core (come s node x) W t S := by
  unfold Mv.come
  split
  · rename_i hk
    exact h.process hn hx hk
  · rename_i hk
    split
    · have h1 : Core (arrive s node x) W t S := by
        unfold arrive
        split
        · refine { h with al := by simpa using h.al, ao := fun i v hi => ?_ }
          have := List.mem_of_getElem? hi
          rcases mem_set_ this with rfl | hm
          · exact hn.2
          · obtain ⟨j, hj, rfl⟩ := List.mem_iff_getElem.1 hm
            exact h.ao j _ (List.getElem?_eq_getElem hj)
        · exact h
      have h2 : Core (learn (arrive s node x) node x) W t S := by
        have e := arrive_nodes s node x
        generalize arrive s node x = s1 at h1 e
        unfold learn
        split
        · refine { h1 with bel := fun a w ha1 ha2 hw => ?_ }
          by_cases e2 : a = node ∧ w = x.who
          · obtain ⟨rfl, rfl⟩ := e2
            simp only [upd2_same]
            have := hx.bl hk
            rw [← e] at this
            exact this
          · simp only [upd2_other _ _ e2]
            exact h1.bel a w ha1 ha2 hw
        · exact h1
      exact h2.wake (by rw [learn_nodes, arrive_nodes]; exact hn)
    · exact h

/-- what a deed puts -/
def putS (S : Nat → Nat → List Nat) (d : Dv) : Nat → Nat → List Nat := if d.kind = 1 then upd2 S d.src d.who (S d.src d.who ++ [d.n]) else S
theorem ElOk.more {nodes W t t' : Nat} {S S' : Nat → Nat → List Nat} {x : El} (h : ElOk nodes W t S x) (ht : t ≤ t') (hS : ∀ (a w k v : Nat), (S a w)[k]? = some v → (S' a w)[k]? = some v) : ElOk nodes W t' S' x :=
  ⟨h.kind, h.who, fun hk => ⟨(h.lt hk).1, hS _ _ _ _ (h.lt hk).2⟩, fun hk => ⟨(h.bl hk).1, Nat.le_trans (h.bl hk).2 ht⟩⟩
theorem Core.more {s : Hb} {W t : Nat} {S : Nat → Nat → List Nat} (h : Core s W t S) : Core s W (t + 1) S :=
  { h with
    bel := fun a w h1 h2 h3 => ⟨(h.bel a w h1 h2 h3).1, by have := (h.bel a w h1 h2 h3).2; omega⟩
    sent := fun a w h1 h2 h3 => ⟨(h.sent a w h1 h2 h3).1, by have := (h.sent a w h1 h2 h3).2; omega⟩
    wait := fun row hr x hx => ⟨(h.wait row hr x hx).1.more (by omega) fun _ _ _ _ h => h, (h.wait row hr x hx).2⟩
    ways := fun p hp => ⟨(h.ways p hp).1, fun x hx => ((h.ways p hp).2 x hx).more (by omega) fun _ _ _ _ h => h⟩ }
theorem getElem?_app {l : List Nat} {k v x : Nat} (h : l[k]? = some v) : (l ++ [x])[k]? = some v := by
  rw [List.getElem?_append_left (List.getElem?_eq_some_iff.1 h).1]
  exact h
theorem Core.put {s : Hb} {W t : Nat} {S : Nat → Nat → List Nat} (h : Core s W t S) {a w n : Nat} (ha : 1 ≤ a ∧ a ≤ s.nodes) (hw : w < W) : Core { s with sent := upd2 s.sent a w (s.sent a w + 1) } W (t + 1) (upd2 S a w (S a w ++ [n])) := by
  have hS : ∀ (a' w' k v : Nat), (S a' w')[k]? = some v → (upd2 S a w (S a w ++ [n]) a' w')[k]? = some v := by
    intro a' w' k v hk
    by_cases e : a' = a ∧ w' = w
    · obtain ⟨rfl, rfl⟩ := e
      rw [upd2_same]
      exact getElem?_app hk
    · rw [upd2_other _ _ e]
      exact hk
  have hlen : ∀ a' w', (S a' w').length ≤ (upd2 S a w (S a w ++ [n]) a' w').length := by
    intro a' w'
    by_cases e : a' = a ∧ w' = w
    · obtain ⟨rfl, rfl⟩ := e
      rw [upd2_same]
      simp
    · rw [upd2_other _ _ e]
      exact Nat.le_refl _
  have h1 := h.more
  refine { h1 with sent := fun a' w' q1 q2 q3 => ?_, box := fun a' w' q1 q2 q3 => ?_, got := fun w' row hr => ?_, wait := fun row hr x hx => ?_, ways := fun p hp => ?_ }
  · obtain ⟨e1, e2⟩ := h.sent a' w' q1 q2 q3
    by_cases e : a' = a ∧ w' = w
    · obtain ⟨rfl, rfl⟩ := e
      dsimp only
      rw [upd2_same, upd2_same, List.length_append, e1]
      simp
      omega
    · dsimp only
      rw [upd2_other _ _ e, upd2_other _ _ e]
      exact ⟨e1, by omega⟩
  · obtain ⟨b1, b2, b3⟩ := h.box a' w' q1 q2 q3
    exact ⟨Nat.le_trans b1 (hlen a' w'), b2, fun k v hk => hS _ _ _ _ (b3 k v hk)⟩
  · obtain ⟨g1, g2⟩ := h.got w' row hr
    refine ⟨g1, fun a' q1 q2 => ?_⟩
    rw [g2 a' q1 q2]
    dsimp only
    by_cases e : a' = a ∧ w' = w
    · obtain ⟨rfl, rfl⟩ := e
      rw [upd2_same, List.take_append_of_le_length (h.box _ _ q1 q2 hw).1]
    · rw [upd2_other _ _ e]
  · exact ⟨(h.wait row hr x hx).1.more (by omega) hS, (h.wait row hr x hx).2⟩
  · exact ⟨(h.ways p hp).1, fun x hx => ((h.ways p hp).2 x hx).more (by omega) hS⟩
/-- a deed that may be -/
def DOk (nodes W : Nat) (d : Dv) : Prop := d.kind ≤ 3 ∧ d.src ≤ nodes ∧ d.dst ≤ nodes ∧ d.who < W ∧ (d.kind ≠ 2 → 1 ≤ d.src) ∧ (d.kind ≠ 1 → 1 ≤ d.dst)
theorem getD_at {l : List Nat} {i : Nat} (h : i < l.length) : l[i]? = some (l.getD i 0) := by
  rw [List.getD_eq_getElem?_getD, List.getElem?_eq_getElem h]; rfl
theorem Core.do_ {s : Hb} {W t : Nat} {S : Nat → Nat → List Nat} (h : Core s W t S) {d : Dv} (hd : DOk s.nodes W d) : Core (doF s d) W (t + 1) (putS S d) := by
  obtain ⟨d1, d2, d3, d4, d5, d6⟩ := hd
  unfold doF putS
  by_cases k1 : d.kind = 1
  · have hs := d5 (by omega)
    rw [if_pos k1, if_pos k1, if_pos ⟨⟨hs, d2⟩, by rw [h.al]; exact d4⟩]
    have hp := h.put (n := d.n) ⟨hs, d2⟩ d4
    refine hp.process ⟨hs, d2⟩ ⟨by simp, d4, fun _ => ⟨⟨hs, d2⟩, ?_⟩, fun e => absurd rfl e⟩ rfl
    dsimp only
    rw [upd2_same, (h.sent _ _ hs d2 d4).1]
    simp
  · rw [if_neg k1, if_neg k1]
    by_cases k2 : d.kind = 2
    · rw [if_pos k2]
      split
      · rename_i hc
        obtain ⟨c1, c2, c3, c4⟩ := hc
        have hat := h.ao d.who _ (getD_at c2)
        have hn : 1 ≤ s.at_.getD d.who 0 ∧ s.at_.getD d.who 0 ≤ s.nodes := ⟨by omega, hat⟩
        obtain ⟨b1, b2⟩ := h.bel _ d.who hn.1 hn.2 d4
        have h1 := h.more
        generalize s.at_.getD d.who 0 = k at hn b1 b2 ⊢
        have h2 : Core { s with bel := upd2 s.bel k d.who (d.dst, (s.bel k d.who).2 + 1), at_ := s.at_.set d.who 0 } W (t + 1) S := by
          refine { h1 with al := by simpa using h.al, ao := fun i v hi => ?_, bel := fun a w q1 q2 q3 => ?_ }
          · have := List.mem_of_getElem? hi
            rcases mem_set_ this with rfl | hm
            · omega
            · obtain ⟨j, hj, rfl⟩ := List.mem_iff_getElem.1 hm
              exact h.ao j _ (List.getElem?_eq_getElem hj)
          · dsimp only
            by_cases e : a = k ∧ w = d.who
            · obtain ⟨rfl, rfl⟩ := e
              rw [upd2_same]
              exact ⟨c1, by dsimp only; omega⟩
            · rw [upd2_other _ _ e]
              exact h1.bel a w q1 q2 q3
        exact h2.push hn c1 ⟨by simp, d4, fun e => by simp at e, fun _ => ⟨c1, by dsimp only; omega⟩⟩
      · exact h.more
    · rw [if_neg k2]
      split
      · rename_i k3
        have hc := h.chan d.src d.dst
        split
        · exact h.more
        · rename_i x r hx
          rw [hx] at hc
          have h1 := h.more
          have h2 := h1.setWay (a := d.src) (b := d.dst) (l := r) ⟨d5 (by omega), d2⟩ ⟨d6 (by omega), d3⟩ fun y hy => (hc y (by simp [hy])).more (by omega) fun _ _ _ _ h => h
          exact h2.come ⟨d6 (by omega), d3⟩ ((hc x (by simp)).more (by omega) fun _ _ _ _ h => h)
      · exact h.more
theorem wake_nodes (h : Hb) (node : Nat) : (wake h node).nodes = h.nodes := by
  unfold wake
  have go : ∀ (l : List El) (s' : Hb), (l.foldl (fun h y => process h node y) s').nodes = s'.nodes := by
    intro l
    induction l with
    | nil => intro s'; rfl
    | cons y r ih => intro s'; rw [List.foldl_cons, ih, process_nodes]
  exact go _ _
theorem come_nodes (h : Hb) (node : Nat) (x : El) : (come h node x).nodes = h.nodes := by
  unfold come
  split
  · exact process_nodes _ _ _
  · split
    · rw [wake_nodes, learn_nodes, arrive_nodes]
    · rfl
theorem doF_nodes (h : Hb) (d : Dv) : (doF h d).nodes = h.nodes := by
  unfold doF
  split
  · split
    · exact process_nodes _ _ _
    · rfl
  · split
    · split <;> rfl
    · split
      · split
        · rfl
        · exact come_nodes _ _ _
      · rfl
def putsS (D : List Dv) : Nat → Nat → List Nat := D.foldl putS (fun _ _ => [])
theorem new_core (nodes : Nat) (C : List Nat) (h1 : 1 ≤ nodes ∧ nodes ≤ 8) (hC : ∀ c ∈ C, 1 ≤ c ∧ c ≤ nodes) : Core (newF nodes C) C.length 0 (fun _ _ => []) where
  n1 := h1
  al := rfl
  ao := fun i v hi => (hC v (List.mem_of_getElem? hi)).2
  bel := fun a w q1 q2 q3 => ⟨hC _ (List.mem_of_getElem? (getD_at q3)), Nat.le_refl _⟩
  sent := fun a w q1 q2 q3 => ⟨rfl, Nat.le_refl _⟩
  box := fun a w q1 q2 q3 => ⟨Nat.le_refl _, by simp [newF], fun k v hk => by simp [newF, mget_nil] at hk⟩
  gl := by simp [newF]
  got := fun w row hr => by
    have : row = [] := by
      have := List.mem_of_getElem? hr
      simpa [newF] using (List.mem_replicate.1 this).2
    subst this
    exact ⟨fun g hg => by simp at hg, fun a q1 q2 => by simp⟩
  wl := by simp [newF]
  wait := fun row hr x hx => by
    have := (List.mem_replicate.1 hr).2
    subst this
    simp at hx
  wk := by simp [newF]
  ways := fun p hp => by simp [newF] at hp
theorem run_core : ∀ (D : List Dv) {s : Hb} {W t : Nat} {S : Nat → Nat → List Nat}, Core s W t S → (∀ d ∈ D, DOk s.nodes W d) → Core (runF s D) W (t + D.length) (D.foldl putS S)
  | [], s, W, t, S, h, _ => h
  | d :: D, s, W, t, S, h, hd => by
    have := run_core D (h.do_ (hd d (by simp))) (fun e he => by rw [doF_nodes]; exact hd e (by simp [he]))
    unfold runF at this ⊢
    rw [List.foldl_cons, List.foldl_cons, List.length_cons, show t + (D.length + 1) = t + 1 + D.length by omega]
    exact this
/-- what was put, of a list of deeds -/
theorem putsS_at : ∀ (D : List Dv) (S : Nat → Nat → List Nat) (a w : Nat), D.foldl putS S a w = S a w ++ ((D.filter fun d => decide (d.kind = 1) && decide (d.who = w) && decide (d.src = a)).map (·.n))
  | [], S, a, w => by simp
  | d :: D, S, a, w => by
    rw [List.foldl_cons, putsS_at D, List.filter_cons]
    unfold putS
    by_cases k : d.kind = 1
    · rw [if_pos k]
      by_cases e : a = d.src ∧ w = d.who
      · obtain ⟨rfl, rfl⟩ := e
        simp [upd2, k]
      · have : ¬ ((decide (d.kind = 1) && decide (d.who = w) && decide (d.src = a)) = true) := by
          simp only [Bool.and_eq_true, decide_eq_true_eq]
          rintro ⟨⟨_, h1⟩, h2⟩
          exact e ⟨h2.symm, h1.symm⟩
        rw [upd2_other _ _ e, if_neg this]
    · simp [k]
/-- MoveOrder's law: of each node an actor got the beginning of what that node put for it -/
theorem order {nodes : Nat} {C : List Nat} {D : List Dv} (h1 : 1 ≤ nodes ∧ nodes ≤ 8) (hC : ∀ c ∈ C, 1 ≤ c ∧ c ≤ nodes) (hD : ∀ d ∈ D, DOk nodes C.length d) {w : Nat} {row : List (Nat × Nat)} (hr : (runF (newF nodes C) D).got[w]? = some row) {a : Nat} (ha : 1 ≤ a ∧ a ≤ nodes) :
    ∃ k, k ≤ ((D.filter fun d => decide (d.kind = 1) && decide (d.who = w) && decide (d.src = a)).map (·.n)).length ∧
      (row.filter fun g => decide (g.1 = a)).map (·.2) = ((D.filter fun d => decide (d.kind = 1) && decide (d.who = w) && decide (d.src = a)).map (·.n)).take k := by
  have h := run_core D (new_core nodes C h1 hC) hD
  have hw : w < C.length := by
    have := (List.getElem?_eq_some_iff.1 hr).1
    rw [h.gl] at this
    exact this
  have en : (runF (newF nodes C) D).nodes = nodes := by
    have : ∀ (D : List Dv) (s : Hb), (runF s D).nodes = s.nodes := by
      intro D
      induction D with
      | nil => intro s; rfl
      | cons d D ih => intro s; exact (ih _).trans (doF_nodes s d)
    exact this D _
  obtain ⟨_, g2⟩ := h.got w row hr
  have h3 := g2 a ha.1 (by rw [en]; exact ha.2)
  have h4 := (h.box a w ha.1 (by rw [en]; exact ha.2) hw).1
  rw [putsS_at, List.nil_append] at h3 h4
  exact ⟨_, h4, h3⟩

/-! ### what came stays -/
def Pre (h h' : Hb) : Prop := h.got.length = h'.got.length ∧ ∀ (w : Nat) (r r' : List (Nat × Nat)), h.got[w]? = some r → h'.got[w]? = some r' → r <+: r'
theorem Pre.of_eq {h h' : Hb} (e : h'.got = h.got) : Pre h h' := ⟨by rw [e], fun w r r' h1 h2 => by rw [e, h1] at h2; injection h2 with h2; rw [h2]; exact List.prefix_refl _⟩
theorem Pre.trans {a b c : Hb} (h : Pre a b) (k : Pre b c) : Pre a c := ⟨h.1.trans k.1, fun w r r' h1 h2 => by
  have hw := (List.getElem?_eq_some_iff.1 h1).1
  have hb : w < b.got.length := by rw [← h.1]; exact hw
  exact (h.2 w r _ h1 (List.getElem?_eq_getElem hb)).trans (k.2 w _ r' (List.getElem?_eq_getElem hb) h2)⟩
theorem pre_recv : ∀ (f a w : Nat) (h : Hb), Pre h (recv1 f a w h)
  | 0, _, _, h => Pre.of_eq rfl
  | f + 1, a, w, h => by
    unfold recv1
    split
    · exact Pre.of_eq rfl
    · refine Pre.trans ?_ (pre_recv f a w _)
      refine ⟨by simp, fun w' r r' h1 h2 => ?_⟩
      dsimp only at h2
      by_cases e : w' = w
      · subst e
        have hw := (List.getElem?_eq_some_iff.1 h1).1
        rw [List.getElem?_set_self hw] at h2
        injection h2 with h2
        rw [← h2, List.getD_eq_getElem?_getD, h1]
        exact List.prefix_append _ _
      · rw [List.getElem?_set_ne (Ne.symm e), h1] at h2
        injection h2 with h2
        rw [h2]
        exact List.prefix_refl _
theorem pre_process (h : Hb) (node : Nat) (x : El) : Pre h (process h node x) := by
  unfold process receive push
  split
  · split
    · exact Pre.of_eq rfl
    · refine Pre.trans ?_ (pre_recv _ _ _ _)
      exact Pre.of_eq rfl
  · split
    · exact Pre.of_eq rfl
    · split <;> exact Pre.of_eq rfl
theorem pre_wake (h : Hb) (node : Nat) : Pre h (wake h node) := by
  unfold wake
  have go : ∀ (l : List El) (s' : Hb), Pre s' (l.foldl (fun h y => process h node y) s') := by
    intro l
    induction l with
    | nil => intro s'; exact Pre.of_eq rfl
    | cons y r ih => intro s'; exact (pre_process _ _ _).trans (ih _)
  refine Pre.trans ?_ (go _ _)
  exact Pre.of_eq rfl
theorem pre_come (h : Hb) (node : Nat) (x : El) : Pre h (come h node x) := by
  unfold come
  split
  · exact pre_process _ _ _
  · split
    · refine Pre.trans ?_ (pre_wake _ _)
      unfold learn arrive
      split <;> split <;> exact Pre.of_eq rfl
    · exact Pre.of_eq rfl
theorem pre_do (h : Hb) (d : Dv) : Pre h (doF h d) := by
  unfold doF push
  split
  · split
    · refine Pre.trans ?_ (pre_process _ _ _)
      exact Pre.of_eq rfl
    · exact Pre.of_eq rfl
  · split
    · split <;> exact Pre.of_eq rfl
    · split
      · split
        · exact Pre.of_eq rfl
        · refine Pre.trans ?_ (pre_come _ _ _)
          exact Pre.of_eq rfl
      · exact Pre.of_eq rfl
theorem pre_run : ∀ (D : List Dv) (h : Hb), Pre h (runF h D)
  | [], h => Pre.of_eq rfl
  | d :: D, h => (pre_do h d).trans (pre_run D _)
theorem run_app (h : Hb) (D E : List Dv) : runF h (D ++ E) = runF (runF h D) E := by simp [runF]
end Go.Mv
