/- A new simulation of package move in memory: what holds while it is made. -/
import Derived.Test.YtckkelppdeampaaHarbOps
import Derived.Test.YtckkelppdeampaaRegInv
set_option linter.unusedVariables false
namespace Go.Proofs.Ytckkelppdeampaa
open Go.RowKit Go.Mem Go.Mv Go.Maps
def nInt (C : List Nat) : List Int := C.map fun n => ((n : Nat) : Int)
theorem nums_nInt (C : List Nat) : nums (nInt C) = natv C := by simp [nums, natv, nInt]
structure NewAt (w : World) (B : Nat) (col : Nat → Mc) (m : Hm) (nodes : Nat) (C : List Nat) (dn : Nat → Nat → Prop) : Prop where
  blk : Blk w m.T 50 [.int .i64 (nodes : Nat), .slice (some ⟨m.AT, 0, none⟩) C.length m.cA, .map (some m.Bl), .map (some m.Sn), .map (some m.In), .map (some m.Wy), .slice (some ⟨m.WT, 0, none⟩) (nodes + 1) m.cW, .slice (some ⟨m.GT, 0, none⟩) C.length m.cG]
  hA : Blk w m.AT 3 m.curA
  eA : m.curA.take C.length = natv C
  hB : MapOf encP okP w m.Bl m.lB
  eB : ∀ a x, dn a x → mget m.lB (a, x) = some (bv (C.getD x 0, 0))
  hS : MapOf encP okP w m.Sn m.lS
  hI : MapOf encP okP w m.In m.lI
  eI : ∀ a x, dn a x → mget m.lI (a, x) = some (.pointer (some ⟨m.I a x, 0, none⟩))
  kI : ∀ p ∈ m.lI, (1 ≤ p.1.1 ∧ p.1.1 ≤ nodes) ∧ p.1.2 < C.length
  bx : ∀ a x, dn a x → BoxAt w (m.I a x) (m.J a x) ⟨0, []⟩ ∧ col (m.I a x) = .box (a, x) ∧ col (m.J a x) = .box (a, x)
  hW : MapOf encP okP w m.Wy m.lW
  hT : Blk w m.WT 52 m.curW
  hG : Blk w m.GT 36 m.curG
  cT : col m.T = .cst
  cA : col m.AT = .at_
  cB : col m.Bl = .bel
  cS : col m.Sn = .sent
  cI : col m.In = .cst
  cW : col m.Wy = .ways
  cWT : col m.WT = .wt
  cGT : col m.GT = .gt
  lS : m.lS = []
  lW : m.lW = []
  qW : m.curW = List.replicate (nodes + 1) (.slice none 0 0)
  qG : m.curG = List.replicate C.length (.slice none 0 0)
  low : ∀ b, b < B → col b = .out
  nd : nodes ≤ 8 ∧ C.length ≤ 5
  Bs : B ≤ w.heap.size
section
variable {w w' : World} {B : Nat} {col : Nat → Mc} {m : Hm} {nodes : Nat} {C : List Nat} {dn : Nat → Nat → Prop}
theorem NewAt.done (h : NewAt w B col m nodes C dn) (hd : ∀ a x, 1 ≤ a → a ≤ nodes → x < C.length → dn a x) : HW w B col m (newF nodes C) where
  blk := by
    have := h.blk
    simpa [newF] using this
  hA := h.hA
  eA := h.eA
  hB := h.hB
  eB := fun a x q1 q2 q3 => h.eB a x (hd a x q1 q2 q3)
  hS := h.hS
  eS := fun a x q1 q2 q3 => by rw [h.lS, mget_nil]; rfl
  hI := h.hI
  eI := fun a x q1 q2 q3 => h.eI a x (hd a x q1 q2 q3)
  bx := fun a x q1 q2 q3 => h.bx a x (hd a x q1 q2 q3)
  hW := h.hW
  kW := by rw [h.lW]; rfl
  eW := fun k v c h1 h2 => by rw [h.lW, mget_nil] at h1; cases h1
  hT := h.hT
  eT := fun i row hr => by
    have h0 := List.mem_of_getElem? hr
    have h1 : i < nodes + 1 := by
      have := (List.getElem?_eq_some_iff.1 hr).1
      simpa [newF] using this
    obtain rfl : row = [] := (List.mem_replicate.1 h0).2
    exact ⟨.slice none 0 0, by rw [h.qW, List.getElem?_replicate, if_pos h1], Seg.nil _ _ _, fun b hb => by simp [Value.ownBlock] at hb⟩
  hG := h.hG
  eG := fun i row hr => by
    have h0 := List.mem_of_getElem? hr
    have h1 : i < C.length := by
      have := (List.getElem?_eq_some_iff.1 hr).1
      simpa [newF] using this
    obtain rfl : row = [] := (List.mem_replicate.1 h0).2
    exact ⟨.slice none 0 0, by rw [h.qG, List.getElem?_replicate, if_pos h1], Seg.nil _ _ _, fun b hb => by simp [Value.ownBlock] at hb⟩
  cT := h.cT
  cA := h.cA
  cB := h.cB
  cS := h.cS
  cI := h.cI
  cW := h.cW
  cWT := h.cWT
  cGT := h.cGT
  wl := by simp [newF]
  gl := by simp [newF]
  low := h.low
  nd := h.nd
theorem NewAt.mono (h : NewAt w B col m nodes C dn) {dn' : Nat → Nat → Prop} (hd : ∀ a x, dn' a x → dn a x) : NewAt w B col m nodes C dn' :=
  { h with
    eB := fun a x q => h.eB a x (hd a x q)
    eI := fun a x q => h.eI a x (hd a x q)
    bx := fun a x q => h.bx a x (hd a x q) }
/-- one more node and actor -/
theorem NewAt.next (h : NewAt w B col m nodes C dn) {a x I' J' : Nat} (ha : 1 ≤ a ∧ a ≤ nodes) (hx : x < C.length) (hg : GrownIn (fun b => b = m.Bl ∨ b = m.In) w w')
    (hB' : MapOf encP okP w' m.Bl (mput m.lB (a, x) (bv (C.getD x 0, 0)))) (hI' : MapOf encP okP w' m.In (mput m.lI (a, x) (.pointer (some ⟨I', 0, none⟩))))
    (hb : BoxAt w' I' J' ⟨0, []⟩) (hi : w.heap.size ≤ I') (hj : w.heap.size ≤ J') {dn' : Nat → Nat → Prop} (hd : ∀ a' x', dn' a' x' → ¬ (a' = a ∧ x' = x) → dn a' x') :
    NewAt w' B (recol col w.heap.size (.box (a, x))) { m with lB := mput m.lB (a, x) (bv (C.getD x 0, 0)), lI := mput m.lI (a, x) (.pointer (some ⟨I', 0, none⟩)), I := upd2 m.I a x I', J := upd2 m.J a x J' } nodes C dn' := by
  have nTB : m.T ≠ m.Bl := fun e => by have := h.cT; rw [e, h.cB] at this; cases this
  have nTI : m.T ≠ m.In := fun e => by
    obtain ⟨es, clock, hb', _⟩ := h.hI
    have := h.blk
    unfold Blk at this
    rw [e, hb'] at this
    cases this
  have kc : ∀ b, b < w.heap.size → recol col w.heap.size (.box (a, x)) b = col b := fun b hb => recol_old hb
  have far : ∀ (b : Nat) (c : Mc), b < w.heap.size → col b = c → c ≠ .bel → c ≠ .cst → w'.heap[b]? = w.heap[b]? := fun b c hl hc n1 n2 => hg.block b hl fun e => by
    rcases e with e | e
    · rw [e, h.cB] at hc; exact n1 hc.symm
    · rw [e, h.cI] at hc; exact n2 hc.symm
  exact {
    blk := (hg.block _ h.blk.lt fun e => by rcases e with e | e; exact nTB e; exact nTI e).trans h.blk
    hA := (far _ _ h.hA.lt h.cA (by simp) (by simp)).trans h.hA
    eA := h.eA
    hB := hB'
    eB := fun a' x' hd' => by
      dsimp only
      rw [mget_put]
      by_cases e : a' = a ∧ x' = x
      · obtain ⟨rfl, rfl⟩ := e
        rw [if_pos rfl]
      · rw [if_neg (fun e2 => e (by injection e2 with e2 e3; exact ⟨e2, e3⟩))]
        exact h.eB a' x' (hd a' x' hd' e)
    hS := h.hS.same (far _ _ h.hS.lt h.cS (by simp) (by simp))
    hI := hI'
    eI := fun a' x' hd' => by
      dsimp only
      rw [mget_put]
      by_cases e : a' = a ∧ x' = x
      · obtain ⟨rfl, rfl⟩ := e
        rw [if_pos rfl, upd2_same]
      · rw [if_neg (fun e2 => e (by injection e2 with e2 e3; exact ⟨e2, e3⟩)), upd2_other _ _ e]
        exact h.eI a' x' (hd a' x' hd' e)
    kI := fun p hp => by
      rcases mem_put hp with rfl | hp
      · exact ⟨ha, hx⟩
      · exact h.kI p hp
    bx := fun a' x' hd' => by
      dsimp only
      by_cases e : a' = a ∧ x' = x
      · obtain ⟨rfl, rfl⟩ := e
        rw [upd2_same, upd2_same]
        exact ⟨hb, recol_new hi, recol_new hj⟩
      · rw [upd2_other _ _ e, upd2_other _ _ e]
        obtain ⟨q1, q2, q3⟩ := h.bx a' x' (hd a' x' hd' e)
        exact ⟨q1.same (far _ _ q1.blk.lt q2 (by simp) (by simp)) (far _ _ q1.st.lt q3 (by simp) (by simp)), (kc _ q1.blk.lt).trans q2, (kc _ q1.st.lt).trans q3⟩
    hW := h.hW.same (far _ _ h.hW.lt h.cW (by simp) (by simp))
    hT := (far _ _ h.hT.lt h.cWT (by simp) (by simp)).trans h.hT
    hG := (far _ _ h.hG.lt h.cGT (by simp) (by simp)).trans h.hG
    cT := (kc _ h.blk.lt).trans h.cT
    cA := (kc _ h.hA.lt).trans h.cA
    cB := (kc _ h.hB.lt).trans h.cB
    cS := (kc _ h.hS.lt).trans h.cS
    cI := (kc _ h.hI.lt).trans h.cI
    cW := (kc _ h.hW.lt).trans h.cW
    cWT := (kc _ h.hT.lt).trans h.cWT
    cGT := (kc _ h.hG.lt).trans h.cGT
    lS := h.lS
    lW := h.lW
    qW := h.qW
    qG := h.qG
    low := fun b hb => by rw [kc b (Nat.lt_of_lt_of_le hb h.Bs)]; exact h.low b hb
    nd := h.nd
    Bs := Nat.le_trans h.Bs hg.size }
end
/-- what the makers of newWorld's first region have made -/
def MkM (w : World) (col : Nat → Mc) (c : Mc) (b : Bool) (v : Value) : Prop := b = true → ∃ g, v = .map (some g) ∧ MapOf encP okP w g ([] : List ((Nat × Nat) × Value)) ∧ col g = c
def MkA (w : World) (col : Nat → Mc) (C : List Nat) (b : Bool) (v : Value) : Prop := b = true → ∃ g cp cur, v = .slice (some ⟨g, 0, none⟩) C.length cp ∧ Blk w g 3 cur ∧ cur.take C.length = natv C ∧ col g = .at_
def MkS (w : World) (col : Nat → Mc) (t : TypeId) (c : Mc) (n : Nat) (b : Bool) (v : Value) : Prop := b = true → ∃ g, v = .slice (some ⟨g, 0, none⟩) n n ∧ Blk w g t (List.replicate n (.slice none 0 0)) ∧ col g = c
section
variable {w w' : World} {col : Nat → Mc} {c c' : Mc} {b : Bool} {v : Value} {C : List Nat} {t : TypeId} {n : Nat}
theorem MkM.keep (h : MkM w col c b v) (hb : Below w.heap.size w w') : MkM w' (recol col w.heap.size c') c b v := fun e => by
  obtain ⟨g, e1, e2, e3⟩ := h e
  exact ⟨g, e1, e2.below hb, (recol_old e2.lt).trans e3⟩
theorem MkA.keep (h : MkA w col C b v) (hb : Below w.heap.size w w') : MkA w' (recol col w.heap.size c') C b v := fun e => by
  obtain ⟨g, cp, cur, e1, e2, e3, e4⟩ := h e
  exact ⟨g, cp, cur, e1, e2.below hb e2.lt, e3, (recol_old e2.lt).trans e4⟩
theorem MkS.keep (h : MkS w col t c n b v) (hb : Below w.heap.size w w') : MkS w' (recol col w.heap.size c') t c n b v := fun e => by
  obtain ⟨g, e1, e2, e3⟩ := h e
  exact ⟨g, e1, e2.below hb e2.lt, (recol_old e2.lt).trans e3⟩
theorem MkM.new (w : World) (col : Nat → Mc) (c : Mc) : MkM (w.alloc (.map #[] 0)) (recol col w.heap.size c) c true (.map (some w.heap.size)) := fun _ => ⟨_, rfl, MapOf.new w, recol_new (Nat.le_refl _)⟩
theorem MkS.new (w : World) (col : Nat → Mc) (t : TypeId) (c : Mc) (n : Nat) : MkS (w.alloc (.cells (List.replicate n (.slice none 0 0)).toArray t)) (recol col w.heap.size c) t c n true (.slice (some ⟨w.heap.size, 0, none⟩) n n) := fun _ => ⟨_, rfl, Blk.new w _ _, recol_new (Nat.le_refl _)⟩
theorem MkA.new {w1 : World} {A : Option Addr} {cp : Nat} (hC : 0 < C.length) (ho : w1.ownsRow w.heap.size 3 1 (.slice A C.length cp) C.length (natv C)) (col : Nat → Mc) : MkA w1 (recol col w.heap.size .at_) C true (.slice A C.length cp) := fun _ => by
  rcases ho.2 with ⟨_, h0⟩ | ⟨g, cap, cur, e, hgb, hg, hnc, hcm, hcs, htake⟩
  · omega
  · injection e with e1 _ e3
    subst e1 e3
    exact ⟨g, cp, cur.toList, rfl, by unfold Blk; simpa using hg, by simpa using htake, recol_new hgb⟩
end
/-- the world has been made -/
theorem NewAt.start {w W : World} {col : Nat → Mc} {nodes : Nat} {C : List Nat} {x11 x12 x13 x14 x15 x18 x21 : Value} (h11 : MkA W col C true x11) (h12 : MkM W col .bel true x12) (h13 : MkM W col .sent true x13) (h14 : MkM W col .cst true x14) (h15 : MkM W col .ways true x15) (h18 : MkS W col 52 .wt (nodes + 1) true x18) (h21 : MkS W col 36 .gt C.length true x21) (hb : Below w.heap.size w W) (low : ∀ b, b < w.heap.size → col b = .out) (nd : nodes ≤ 8 ∧ C.length ≤ 5) :
    ∃ m, m.T = W.heap.size ∧ NewAt (W.alloc (.cells #[.int .i64 (nodes : Nat), x11, x12, x13, x14, x15, x18, x21] 50)) w.heap.size (recol col W.heap.size .cst) m nodes C (fun _ _ => False) := by
  obtain ⟨gA, cA, cur, rfl, a2, a3, a4⟩ := h11 rfl
  obtain ⟨gB, rfl, b2, b3⟩ := h12 rfl
  obtain ⟨gS, rfl, s2, s3⟩ := h13 rfl
  obtain ⟨gI, rfl, i2, i3⟩ := h14 rfl
  obtain ⟨gW, rfl, w2, w3⟩ := h15 rfl
  obtain ⟨gT, rfl, t2, t3⟩ := h18 rfl
  obtain ⟨gG, rfl, g2, g3⟩ := h21 rfl
  have kc : ∀ (b : Nat) (c : Mc), b < W.heap.size → col b = c → recol col W.heap.size .cst b = c := fun b c hb e => (recol_old hb).trans e
  refine ⟨⟨W.heap.size, gA, cA, gB, gS, gI, gW, gT, nodes + 1, gG, C.length, fun _ _ => 0, fun _ _ => 0, cur, [], [], [], [], List.replicate (nodes + 1) (.slice none 0 0), List.replicate C.length (.slice none 0 0)⟩, rfl, ?_⟩
  exact {
    blk := Blk.new W _ [.int .i64 (nodes : Nat), .slice (some ⟨gA, 0, none⟩) C.length cA, .map (some gB), .map (some gS), .map (some gI), .map (some gW), .slice (some ⟨gT, 0, none⟩) (nodes + 1) (nodes + 1), .slice (some ⟨gG, 0, none⟩) C.length C.length]
    hA := a2.alloc _
    eA := a3
    hB := b2.alloc _
    eB := fun _ _ h => h.elim
    hS := s2.alloc _
    hI := i2.alloc _
    eI := fun _ _ h => h.elim
    kI := fun p hp => by simp at hp
    bx := fun _ _ h => h.elim
    hW := w2.alloc _
    hT := t2.alloc _
    hG := g2.alloc _
    cT := recol_new (Nat.le_refl _)
    cA := kc _ _ a2.lt a4
    cB := kc _ _ b2.lt b3
    cS := kc _ _ s2.lt s3
    cI := kc _ _ i2.lt i3
    cW := kc _ _ w2.lt w3
    cWT := kc _ _ t2.lt t3
    cGT := kc _ _ g2.lt g3
    lS := rfl
    lW := rfl
    qW := rfl
    qG := rfl
    low := fun b hb' => kc b _ (Nat.lt_of_lt_of_le hb' hb.size) (low b hb')
    nd := nd
    Bs := Nat.le_trans hb.size (by simp) }
end Go.Proofs.Ytckkelppdeampaa
