/- Contract of package move's come. -/
import Derived.Test.YtckkelppdeampaaHarbProc
import Derived.Deep.DeepCutAuto
import Derived.Deep.CutBlock
import Derived.Outline
set_option linter.unusedVariables false
namespace Go.Mv
open Go.Mem
theorem sub_len : ∀ (a b : List Nat), a.Nodup → (∀ x ∈ a, x ∈ b) → a.length ≤ b.length
  | [], b, _, _ => Nat.zero_le _
  | x :: r, b, hn, h => by
    rw [List.nodup_cons] at hn
    have hx : x ∈ b := h x (by simp)
    have h2 := sub_len r (b.erase x) hn.2 fun y hy => by
      have : y ≠ x := fun e => hn.1 (e ▸ hy)
      exact (List.mem_erase_of_ne this).2 (h y (by simp [hy]))
    rw [List.length_erase_of_mem hx] at h2
    have : 0 < b.length := List.length_pos_of_mem hx
    simp
    omega
/-- a store of letters is small -/
theorem Core.st_le {s : Hb} {W t : Nat} {S : Nat → Nat → List Nat} (h : Core s W t S) {a w : Nat} (ha : 1 ≤ a ∧ a ≤ s.nodes) (hw : w < W) : (s.box a w).st.length ≤ t := by
  obtain ⟨b1, b2, b3⟩ := h.box a w ha.1 ha.2 hw
  have h1 := sub_len ((s.box a w).st.map (·.1)) (List.range (S a w).length) b2 (fun k hk => by
    obtain ⟨p, hp, rfl⟩ := List.mem_map.1 hk
    have := b3 p.1 p.2 (mget_at b2 hp)
    exact List.mem_range.2 (List.getElem?_eq_some_iff.1 this).1)
  have := (h.sent a w ha.1 ha.2 hw).2
  simp at h1
  omega
theorem Core.learnt {s : Hb} {W t : Nat} {S : Nat → Nat → List Nat} (h : Core s W t S) {node : Nat} {x : El} (hn : 1 ≤ node ∧ node ≤ s.nodes) (hx : ElOk s.nodes W t S x) (hk : x.kind ≠ 0) :
    Core (learn (arrive s node x) node x) W t S ∧ lets (learn (arrive s node x) node x) = lets s ∧ nots (learn (arrive s node x) node x) = nots s := by
  have ha : Core (arrive s node x) W t S ∧ lets (arrive s node x) = lets s ∧ nots (arrive s node x) = nots s := by
    unfold arrive
    split
    · refine ⟨?_, rfl, rfl⟩
      refine { h with al := by simpa using h.al, ao := fun i v hi => ?_ }
      have := List.mem_of_getElem? hi
      rcases mem_set_ this with rfl | hm
      · exact hn.2
      · obtain ⟨j, hj, rfl⟩ := List.mem_iff_getElem.1 hm
        exact h.ao j _ (List.getElem?_eq_getElem hj)
    · exact ⟨h, rfl, rfl⟩
  obtain ⟨a1, a2, a3⟩ := ha
  have e := arrive_nodes s node x
  generalize arrive s node x = s1 at a1 a2 a3 e
  unfold learn
  split
  · refine ⟨?_, a2, a3⟩
    refine { a1 with bel := fun a w ha1 ha2 hw => ?_ }
    by_cases e2 : a = node ∧ w = x.who
    · obtain ⟨rfl, rfl⟩ := e2
      simp only [upd2_same]
      have := hx.bl hk
      rw [← e] at this
      exact this
    · simp only [upd2_other _ _ e2]
      exact a1.bel a w ha1 ha2 hw
  · exact ⟨a1, a2, a3⟩
theorem fold_nodes (node : Nat) (l : List El) : ∀ s : Hb, (l.foldl (fun h y => process h node y) s).nodes = s.nodes := by
  induction l with
  | nil => intro s; rfl
  | cons y r ih => intro s; rw [List.foldl_cons, ih, process_nodes]
end Go.Mv
namespace Go.Proofs.Ytckkelppdeampaa
open Go.RowKit Go.Mem Go.Mv Go.Maps
/-- process, of what holds of a simulation -/
theorem process_c (w : World) (B : Nat) (col : Nat → Mc) (m : Hm) (s : Hb) (h : HW w B col m s) (hB : B ≤ w.heap.size) {W t : Nat} {S : Nat → Nat → List Nat} (hc : Core s W t S) (ht : t ≤ 401) (hl : lets s ≤ 401) (hn : nots s ≤ 402 * 402) (node : Nat) (hno : 1 ≤ node ∧ node ≤ s.nodes) (x : El) (hx : ElOk s.nodes W t S x) (hk : x.kind = 0) :
    Calls Try.prog 19 #[.pointer (some ⟨m.T, 0, none⟩), .int .i64 (node : Nat), .agg #[.int .i64 x.kind, .int .i64 x.who, .int .i64 x.src, .int .i64 x.seq, .int .i64 x.n, .int .i64 x.bn, .int .i64 x.bm]] w (HPost w B col m.T (process s node x)) := by
  obtain ⟨hs, hv⟩ := hx.lt hk
  have hsz := hc.sz ht hl hn
  have hw : x.who < s.at_.length := by rw [hc.al]; exact hx.who
  have hS := (hc.sent x.src x.who hs.1 hs.2 hx.who).2
  have hq : x.seq < (S x.src x.who).length := (List.getElem?_eq_some_iff.1 hv).1
  have hst := hc.st_le hs hx.who
  have hnx := (hc.box x.src x.who hs.1 hs.2 hx.who).1
  have hgot : (s.got.getD x.who []).length ≤ 10000 := by
    have hg : x.who < s.got.length := by rw [hc.gl]; exact hx.who
    rw [List.getD_eq_getElem?_getD, List.getElem?_eq_getElem hg]
    exact hsz.got _ (List.getElem_mem hg)
  have hwt : (s.wait.getD node []).length ≤ 200000 := by
    have hg : node < s.wait.length := by rw [hc.wl]; omega
    rw [List.getD_eq_getElem?_getD, List.getElem?_eq_getElem hg]
    exact hsz.wait _ (List.getElem_mem hg)
  exact process_any w B col m s h hB node hno x hs hw (by omega) (hc.bel node x.who hno.1 hno.2 hx.who).1 (by omega) (by omega) (fun a b => by have := hsz.way a b; omega) (by omega)

theorem mput_put {α β : Type} [DecidableEq α] (l : List (α × β)) (a : α) (u v : β) : mput (mput l a u) a v = mput l a v := by
  have h1 : mget (mput l a u) a = some u := mget_put_same l a u
  unfold mput at h1 ⊢
  by_cases h : (mget l a).isSome
  · rw [if_pos h] at h1 ⊢
    rw [if_pos (by rw [h1]; rfl), if_pos h, List.map_map]
    apply List.map_congr_left
    intro p _
    by_cases hp : p.1 = a <;> simp [hp]
  · rw [if_neg h] at h1 ⊢
    rw [if_pos (by rw [h1]; rfl), if_neg h, List.map_append]
    have h0 : mget l a = none := by simpa using h
    rw [mget_none] at h0
    congr 1
    · conv => rhs; rw [← List.map_id l]
      apply List.map_congr_left
      intro p hp
      simp [h0 p hp]
    · simp
theorem bel_entry {w : World} {m : Nat} {l : List ((Nat × Nat) × Value)} (h : MapOf encP okP w m l) (a x : Nat) (ha : a < 1000) (hx : x < 1000) :
    ∃ (c : Int) (w5 : World) (u : Value), (Instr.mapEntry 44 (.map (some m)) (.agg #[.int .i64 (a : Nat), .int .i64 (x : Nat)])).run Try.prog w = .ok (.tuple #[u, .int .i64 c]) w5 ∧ w.grownBy w5 (some m) ∧
      ∀ v, ∃ w8, (Instr.entryStore 44 (.map (some m)) (.int .i64 c) v).run Try.prog w5 = .ok () w8 ∧ MapOf encP okP w8 m (mput l (a, x) v) ∧ w5.grownBy w8 (some m) := by
  obtain ⟨c, w5, h1, h2, h3⟩ := h.entry enc_spot Try.underlying44 zero_bel (a := (a, x)) ⟨ha, hx⟩
  refine ⟨c, w5, _, h1, h3, fun v => ?_⟩
  obtain ⟨w8, k1, k2, k3⟩ := h2.store (t := 44) enc_spot v
  rw [mput_put] at k2
  exact ⟨w8, k1, k2, k3⟩
theorem fldb (a b : Value) (W : World) : (Instr.field 66 (.agg #[a, b]) 1).run Try.prog W = .ok b W := by kernel_rfl
/-- between the statements of come -/
structure ComeAt (w wc : World) (col : Nat → Mc) (B T X : Nat) (x : El) (s2 : Hb) (col2 : Nat → Mc) (m2 : Hm) : Prop where
  T_ : m2.T = T
  hw : HW wc B col2 m2 s2
  st : Stp w wc col col2
  X_ : Blk wc X 68 [.int .i64 x.kind, .int .i64 x.who, .int .i64 x.src, .int .i64 x.seq, .int .i64 x.n, .int .i64 x.bn, .int .i64 x.bm]
  cX : col2 X = .cst
  Bs : B ≤ wc.heap.size

theorem elcs_at : ∀ (l : List El) (k : Nat) (hk : k < l.length) (j : Nat), j < 7 → (elcs l)[k * 7 + j]? = (elc l[k])[j]?
  | x :: r, 0, _, j, hj => by
    unfold elcs
    rw [List.flatMap_cons, Nat.zero_mul, Nat.zero_add, List.getElem?_append_left (by simp [elc]; exact hj)]
    rfl
  | x :: r, k + 1, hk, j, hj => by
    have ih := elcs_at r k (by simpa using hk) j hj
    unfold elcs at ih ⊢
    rw [List.flatMap_cons, List.getElem?_append_right (by simp [elc]; omega)]
    rw [show (k + 1) * 7 + j - (elc x).length = k * 7 + j by simp [elc]; omega]
    exact ih
/-- at the head of come's loop -/
structure WakeAt (w wr : World) (col : Nat → Mc) (B T : Nat) (node : Nat) (L0 : Hb) (row : List El) (v : Value) (j : Nat) (colj : Nat → Mc) (mj : Hm) : Prop where
  T_ : mj.T = T
  hw : HW wr B colj mj ((row.take j).foldl (fun h y => process h node y) L0)
  st : Stp w wr col colj
  sg : Seg wr 68 7 v row.length (elcs row)
  cs : ∀ b, v.ownBlock = some b → colj b = .cst
  Bs : B ≤ wr.heap.size

set_option maxRecDepth 100000 in
set_option maxHeartbeats 4000000 in
theorem come_any (w : World) (B : Nat) (col : Nat → Mc) (m : Hm) (s : Hb) (h : HW w B col m s) (hB : B ≤ w.heap.size) {W t : Nat} {S : Nat → Nat → List Nat} (hc : Core s W t S) (ht : t ≤ 401) (hl : lets s + 1 ≤ 401) (hn : nots s + lets s ≤ 402 * 402) (node : Nat) (hno : 1 ≤ node ∧ node ≤ s.nodes) (x : El) (hx : ElOk s.nodes W t S x) :
    Calls Try.prog 21 #[.pointer (some ⟨m.T, 0, none⟩), .int .i64 (node : Nat), .agg #[.int .i64 x.kind, .int .i64 x.who, .int .i64 x.src, .int .i64 x.seq, .int .i64 x.n, .int .i64 x.bn, .int .i64 x.bm]] w (HPost w B col m.T (come s node x)) := by
  obtain ⟨xk, xw, xs, xq, xn, x1, x2⟩ := x
  obtain ⟨w1, hw1⟩ : ∃ w1, w1 = w.alloc (.cells #[.int .i64 xk, .int .i64 xw, .int .i64 xs, .int .i64 xq, .int .i64 xn, .int .i64 x1, .int .i64 x2] 68) := ⟨_, rfl⟩
  have bX : Blk w1 w.heap.size 68 [.int .i64 xk, .int .i64 xw, .int .i64 xs, .int .i64 xq, .int .i64 xn, .int .i64 x1, .int .i64 x2] := by rw [hw1]; exact Blk.new w _ _
  have hg1 : GrownIn (fun _ => False) w w1 := by rw [hw1]; exact (GrownIn.refl _ _).alloc _
  have h1 := h.grow hB hg1
  have hB1 : B ≤ w1.heap.size := Nat.le_trans hB hg1.size
  obtain ⟨X, hX⟩ : ∃ X, X = w.heap.size := ⟨_, rfl⟩
  rw [← hX] at bX
  have hXB : B ≤ X := by omega
  have hcX : recol col w.heap.size .cst X = .cst := recol_new (by omega)
  have st1 := (Stp.grow (col := col) .cst hg1 fun _ _ e => e.elim)
  generalize hc1 : recol col w.heap.size .cst = col1 at h1 hcX st1
  have e0 := bX.cell 0
  have e1 := bX.cell 1
  have e2 := bX.cell 2
  have e3 := bX.cell 3
  have e4 := bX.cell 4
  have e5 := bX.cell 5
  have e6 := bX.cell 6
  simp only [List.getElem?_cons_succ, List.getElem?_cons_zero] at e0 e1 e2 e3 e4 e5 e6
  have lX := bX.lt
  have HWw := Lib.hid hw1
  have HXx := Lib.hid hX
  have H1 := Lib.hid h1
  have HBX := Lib.hid (And.intro bX hcX)
  have HST := Lib.hid st1
  have HCo := Lib.hid hc
  have HEl := Lib.hid hx
  have Hn := Lib.hid hno
  obtain ⟨PR, hPR⟩ : ∃ PR, PR = come s node ⟨xk, xw, xs, xq, xn, x1, x2⟩ := ⟨_, rfl⟩
  have HP := Lib.hid hPR
  clear h hw1 hX h1 bX hg1 hcX hc1 st1 hc hx hno hPR
  by_cases hk : xk = 0
  · have hk0 : ((xk : Int) == 0) = true := by simp; omega
    have hk1 : (xk == 0) = true := by simp; omega
    have hr : Hid (PR = process s node ⟨xk, xw, xs, xq, xn, x1, x2⟩) := by unfold Hid; rw [HP.out]; unfold come; rw [if_pos hk]
    have PC := Lib.hid (fun (Wd : World) (hW : Wd.heap = w1.heap) => process_c Wd B col1 m s (H1.out.heap hW) (by rw [hW]; exact hB1) HCo.out ht (by omega) (by omega) node Hn.out ⟨xk, xw, xs, xq, xn, x1, x2⟩ HEl.out hk)
    clear hk
    go_enter Try.func21, Try.ntmps21
    go_wp2_with (fail)
    rw [← HWw.out, ← HXx.out]
    go_wp2_with (fail)
    refine (PC.out w1 rfl).mono ?_
    rintro e w' ⟨col', m', rfl, hT', hh', hs'⟩
    dsimp only
    go_wp2_with (fail)
    go_end0
    rw [← HP.out, hr.out]
    exact ⟨col', m', rfl, hT', hh', HST.out.trans hs'⟩
  · have hk0 : ((xk : Int) == 0) = false := by simp; omega
    have hk1 : (xk == 0) = false := by simp; omega
    go_enter Try.func21, Try.ntmps21
    go_upto_if 21 with (fail)
    rw [← HWw.out, ← HXx.out]
    go_cut [6] (fun s6 wc => s6 = .bool ((xk : Int) == 1) ∧ ∃ col2 m2, Hid (ComeAt w wc col B m.T X ⟨xk, xw, xs, xq, xn, x1, x2⟩ (arrive s node ⟨xk, xw, xs, xq, xn, x1, x2⟩) col2 m2))
    case first =>
      by_cases hk2 : xk = 1
      · have hb1 : ((xk : Int) == 1) = true := by simp; omega
        have hb2 : (xk == 1) = true := by simp; omega
        have har : arrive s node ⟨xk, xw, xs, xq, xn, x1, x2⟩ = { s with at_ := s.at_.set xw node } := by unfold arrive; rw [if_pos hk2]
        have hwl : xw < s.at_.length := by rw [HCo.out.al]; exact HEl.out.who
        have d1 := H1.out.blk.cell 1
        have d2 := H1.out.at_cell hwl
        have d3 := H1.out.hA.frozen xw
        simp only [List.getElem?_cons_succ, List.getElem?_cons_zero] at d1
        have lT := H1.out.blk.lt
        have lA := H1.out.hA.lt
        have i0 : (0 : Int) ≤ (xw : Int) := by omega
        have i1 : (xw : Int) < (s.at_.length : Int) := by omega
        have fin : Hid (ComeAt w ((World.drew w1).setCell ⟨m.AT, xw, none⟩ (.int .i64 (node : Nat))) col B m.T X ⟨xk, xw, xs, xq, xn, x1, x2⟩ (arrive s node ⟨xk, xw, xs, xq, xn, x1, x2⟩) (recol col1 w1.heap.size .cst) { m with curA := m.curA.set xw (.int .i64 (node : Nat)) }) := by
          have hin : GrownIn (fun b => b = m.AT) w1 ((World.drew w1).setCell ⟨m.AT, xw, none⟩ (.int .i64 (node : Nat))) := ((GrownIn.refl (fun b => b = m.AT) w1).drew).set (p := ⟨m.AT, xw, none⟩) rfl _
          have hpl := H1.out.place hB1 hwl hin (H1.out.hA.drew.put xw _)
          rw [har]
          refine ⟨rfl, hpl, HST.out.trans (Stp.grow .cst hin fun b _ e => by unfold Own; rw [e, H1.out.cA]; simp), ?_, by rw [recol_old lX]; exact HBX.out.2, Nat.le_trans hB1 hin.size⟩
          exact HBX.out.1.drew.far (fun e => by have := HBX.out.2; rw [show X = m.AT from e, H1.out.cA] at this; cases this) _
        clear hk2 har hwl
        go_wp2_with (fail)

        go_still_tail 8, (by kernel_rfl)
        change wpList _ _ _ _ _ (World.drew w1)
        go_wp2_with (fail)
        go_meet
        exact ⟨by rw [hb1], _, _, fin⟩
      · have hb1 : ((xk : Int) == 1) = false := by simp; omega
        have hb2 : (xk == 1) = false := by simp; omega
        have fin : Hid (ComeAt w w1 col B m.T X ⟨xk, xw, xs, xq, xn, x1, x2⟩ (arrive s node ⟨xk, xw, xs, xq, xn, x1, x2⟩) col1 m) := by
          have har : arrive s node ⟨xk, xw, xs, xq, xn, x1, x2⟩ = s := by unfold arrive; rw [if_neg hk2]
          rw [har]
          exact ⟨rfl, H1.out, HST.out, HBX.out.1, HBX.out.2, hB1⟩
        clear hk2
        go_wp2_with (fail)
        go_meet
        exact ⟨by rw [hb1], _, _, fin⟩
    case rest =>
      obtain ⟨rfl, col2, m2, HC⟩ := hcut
      clear e0 e1 e2 e3 e4 e5 e6 lX
      have hwl : xw < (arrive s node ⟨xk, xw, xs, xq, xn, x1, x2⟩).at_.length := by
        have : xw < s.at_.length := by rw [HCo.out.al]; exact HEl.out.who
        unfold arrive
        split
        · simpa using this
        · exact this
      have hnn : 1 ≤ node ∧ node ≤ (arrive s node ⟨xk, xw, xs, xq, xn, x1, x2⟩).nodes := by rw [arrive_nodes]; exact Hn.out
      have hbel : (arrive s node ⟨xk, xw, xs, xq, xn, x1, x2⟩).bel = s.bel := by unfold arrive; split <;> rfl
      obtain ⟨A, hA⟩ : ∃ A, A = arrive s node ⟨xk, xw, xs, xq, xn, x1, x2⟩ := ⟨_, rfl⟩
      rw [← hA] at HC hwl hnn hbel
      have HA := Lib.hid hA
      have Z := HC.out
      obtain ⟨W2, hW2⟩ : ∃ W2, W2 = wc.alloc (.cells #[.int .i64 node, .int .i64 xw] 54) := ⟨_, rfl⟩
      have bK : Blk W2 wc.heap.size 54 [.int .i64 node, .int .i64 xw] := by rw [hW2]; exact Blk.new wc _ _
      have hg2 : GrownIn (fun _ => False) wc W2 := by rw [hW2]; exact (GrownIn.refl _ _).alloc _
      have h2 := Z.hw.grow Z.Bs hg2
      have st2 := Stp.grow (col := col2) .cst hg2 fun _ _ e => e.elim
      obtain ⟨bX2, cX2⟩ := st2.blk Z.X_ Z.cX
      have hB2 : B ≤ W2.heap.size := Nat.le_trans Z.Bs hg2.size
      obtain ⟨K, hK⟩ : ∃ K, K = wc.heap.size := ⟨_, rfl⟩
      rw [← hK] at bK
      have cK : recol col2 wc.heap.size .cst K = .cst := recol_new (by omega)
      have stt := Z.st.trans st2
      generalize recol col2 wc.heap.size .cst = col3 at h2 st2 cX2 cK stt
      have c2 := h2.blk.cell 2
      have e1 := bX2.cell 1
      have e5 := bX2.cell 5
      have e6 := bX2.cell 6
      have z0 := bK.cell 0
      have z1 := bK.cell 1
      simp only [List.getElem?_cons_succ, List.getElem?_cons_zero] at c2 e1 e5 e6 z0 z1
      rw [Z.T_] at c2
      have e1w := Z.X_.cell 1
      simp only [List.getElem?_cons_succ, List.getElem?_cons_zero] at e1w
      have lXw := Z.X_.lt
      have lT := h2.blk.lt
      rw [Z.T_] at lT
      have lX := bX2.lt
      have lK := bK.lt
      have LK := Lib.hid (fun (Wd : World) (hW : Wd.heap = W2.heap) => h2.look_bel hnn hwl Wd (by rw [hW]))
      rw [hbel] at LK
      obtain ⟨bb, hbb⟩ : ∃ b, b = s.bel node xw := ⟨_, rfl⟩
      rw [← hbb] at LK
      obtain ⟨bp, bq⟩ := bb
      have lk0 := LK.out W2 rfl
      have lk1 := LK.out W2.drew rfl
      have lkN := fun k => LK.out (W2.drewN k) rfl
      simp only at lk0 lk1 lkN
      have fl := fun (a b : Value) (W : World) => fldb a b W
      have HW2 := Lib.hid hW2
      have HK := Lib.hid hK
      have H2 := Lib.hid h2
      have HB2 := Lib.hid (And.intro bX2 (And.intro cX2 (And.intro bK cK)))
      have HS2 := Lib.hid stt
      have Hbb := Lib.hid hbb
      have HT2 := Lib.hid Z.T_
      clear Z hW2 hK h2 bX2 cX2 bK cK st2 stt hbb hg2 hA hbel LK
      go_wp2_with (fail)
      rw [← HW2.out, ← HK.out]
      go_quiet (fail)
      go_upto_if 44 with (fail)
      go_cut [6] (fun s6 wd => s6 = .bool (((xk : Int) == 1) || decide (bq < x2)) ∧ ∃ col4 m4, Hid (ComeAt w wd col B m.T X ⟨xk, xw, xs, xq, xn, x1, x2⟩ (learn A node ⟨xk, xw, xs, xq, xn, x1, x2⟩) col4 m4))
      case first =>
        have hbA : A.bel node xw = (bp, bq) := by
          rw [HA.out, show (arrive s node ⟨xk, xw, xs, xq, xn, x1, x2⟩).bel = s.bel by unfold arrive; split <;> rfl]
          exact Hbb.out.symm
        by_cases hm : bq < x2
        · have hln : learn A node ⟨xk, xw, xs, xq, xn, x1, x2⟩ = { A with bel := upd2 A.bel node xw (x1, x2) } := by unfold learn; rw [hbA, if_pos hm]
          have hd : decide (bq < x2) = true := by simpa using hm
          go_wp2_with (fail)
          generalize hW3 : World.drewN W2 _ = W3
          have hh : W3.heap = W2.heap := by rw [← hW3]; rfl
          have h3 := H2.out.heap hh
          obtain ⟨bX2, cX2, bK2, cK2⟩ := HB2.out
          have bX3 := bX2.of_heap hh
          have bK3 := bK2.of_heap hh
          have hB3 : B ≤ W3.heap.size := by rw [hh]; exact hB2
          have st3 : Stp w W3 col col3 := HS2.out.trans (Stp.same (by rw [← hW3]; exact (GrownIn.refl _ _).drewN _))
          clear hW3 hh c2 e1 e5 e6 z0 z1 e1w lXw lT lX lK lk0 lk1 lkN
          have c2 := h3.blk.cell 2
          have e5 := bX3.cell 5
          have e6 := bX3.cell 6
          have z0 := bK3.cell 0
          have z1 := bK3.cell 1
          simp only [List.getElem?_cons_succ, List.getElem?_cons_zero] at c2 e5 e6 z0 z1
          have lT := h3.blk.lt
          rw [HT2.out] at c2 lT
          have lX := bX3.lt
          have lK := bK3.lt
          have nx : xw < 1000 := by have := h3.nd; omega
          have nn : node < 1000 := by have := h3.nd; have := hnn.2; omega
          obtain ⟨ce, w5, ue, hme, hg5, hes⟩ := bel_entry (h3.hB.same (w' := World.drew W3) rfl) node xw nn nx
          obtain ⟨w8, hst8, hm8, hg8⟩ := hes (.agg #[.int .i64 (x1 : Nat), .int .i64 (x2 : Nat)])
          have hg5' : W3.grownBy w5 (some m2.Bl) := ⟨hg5.os, hg5.tape, hg5.output, hg5.size, hg5.block⟩
          have nT : m.T ≠ m2.Bl := fun e => by have := h3.cT; rw [HT2.out, e, h3.cB] at this; cases this
          have nX : X ≠ m2.Bl := fun e => by have := cX2; rw [e, h3.cB] at this; cases this
          have nK : K ≠ m2.Bl := fun e => by have := cK2; rw [e, h3.cB] at this; cases this
          have kT5 := hg5'.block m.T lT (fun e => nT (by injection e))
          have kX5 := hg5'.block X lX (fun e => nX (by injection e))
          have kK5 := hg5'.block K lK (fun e => nK (by injection e))
          have kT8 := (hg8.block m.T (Nat.lt_of_lt_of_le lT hg5'.size) (fun e => nT (by injection e))).trans kT5
          have kX8 := (hg8.block X (Nat.lt_of_lt_of_le lX hg5'.size) (fun e => nX (by injection e))).trans kX5
          have kK8 := (hg8.block K (Nat.lt_of_lt_of_le lK hg5'.size) (fun e => nK (by injection e))).trans kK5
          have f5 := Lib.hid (And.intro (cell_same kT5 c2) (And.intro (cell_same kK5 z0) (And.intro (cell_same kK5 z1) (And.intro (cell_same kX5 e5) (cell_same kX5 e6)))))
          have f8 := Lib.hid (And.intro (cell_same kT8 c2) (And.intro (cell_same kK8 z0) (And.intro (cell_same kK8 z1) (And.intro (cell_same kX8 e5) (cell_same kX8 e6)))))
          have fin : Hid (ComeAt w w8 col B m.T X ⟨xk, xw, xs, xq, xn, x1, x2⟩ (learn A node ⟨xk, xw, xs, xq, xn, x1, x2⟩) (recol col3 W3.heap.size .cst) { m2 with lB := mput m2.lB (node, xw) (bv (x1, x2)) }) := by
            have hin : GrownIn (fun b => b = m2.Bl) W3 w8 := (GrownIn.of_grown (own := fun b => b = m2.Bl) hg5' fun b hb => by injection hb with hb; exact hb.symm).trans (own' := fun b => b = m2.Bl) (GrownIn.of_grown hg8 fun b hb => by injection hb with hb; exact hb.symm) fun b e => .inl e
            have h8 := h3.belief (a := node) (x := xw) (v := (x1, x2)) hB3 hin hm8
            rw [hln]
            exact ⟨HT2.out, h8, st3.trans (Stp.grow .cst hin fun b _ e => by unfold Own; rw [e, h3.cB]; simp), kX8.trans bX3, by rw [recol_old lX]; exact cX2, Nat.le_trans hB3 hin.size⟩
          have hme' : (Instr.mapEntry 44 (.map (some m2.Bl)) (.agg #[.int .i64 (node : Nat), .int .i64 (xw : Nat)])).run Try.prog (World.drew W3) = .ok (.tuple #[ue, .int .i64 ce]) w5 := hme
          clear hln hbA h3 bX2 cX2 bK2 cK2 bX3 bK3 st3 nT nX nK kT5 kX5 kK5 kT8 kX8 kK8 hg5 hg5' hg8 hm8 hes hme
          go_region_held3 (fun w' => w'.cell? ⟨m.T, 2, none⟩ = some (.map (some m2.Bl)) ∧ w'.cell? ⟨K, 0, none⟩ = some (.int .i64 node) ∧ w'.cell? ⟨K, 1, none⟩ = some (.int .i64 xw) ∧ w'.cell? ⟨X, 5, none⟩ = some (.int .i64 x1) ∧ w'.cell? ⟨X, 6, none⟩ = some (.int .i64 x2))
            (first | exact f8.out | exact f5.out | go_keep) (fail)
          all_goals
            go_wp2_with (fail)
            go_meet
            exact ⟨by rw [hd]; simp, _, _, fin⟩
        · have hln : learn A node ⟨xk, xw, xs, xq, xn, x1, x2⟩ = A := by unfold learn; rw [hbA, if_neg hm]
          have hd : decide (bq < x2) = false := by simpa using hm
          have fin : Hid (ComeAt w (World.drewN W2 nq) col B m.T X ⟨xk, xw, xs, xq, xn, x1, x2⟩ (learn A node ⟨xk, xw, xs, xq, xn, x1, x2⟩) col3 m2) := by
            rw [hln]
            obtain ⟨bX2, cX2, bK2, cK2⟩ := HB2.out
            exact ⟨HT2.out, H2.out.heap rfl, HS2.out.trans (Stp.same ((GrownIn.refl _ _).drewN _)), bX2.drewN _, cX2, hB2⟩
          clear hln hbA
          go_wp2_with (fail)
          go_meet
          exact ⟨by rw [hd]; simp, _, _, fin⟩
      case rest =>
        obtain ⟨rfl, col4, m4, HC4⟩ := hcut
        clear HW2 HK H2 HB2 HS2 c2 e1 e5 e6 z0 z1 e1w lXw lT lX lK lk0 lk1 lkN fl HC
        by_cases hag : (((xk : Int) == 1) || decide (bq < x2)) = true
        · obtain ⟨L, hL⟩ : ∃ L, L = learn A node ⟨xk, xw, xs, xq, xn, x1, x2⟩ := ⟨_, rfl⟩
          rw [← hL] at HC4
          have hpr : Hid (PR = wake L node) := by
            unfold Hid
            have hor : xk = 1 ∨ bq < x2 := by
              rcases Nat.lt_or_ge bq x2 with h | h
              · exact .inr h
              · left
                have hd : decide (bq < x2) = false := by simp; omega
                rw [hd, Bool.or_false] at hag
                have := (beq_iff_eq).1 hag
                omega
            rw [HP.out]
            unfold come
            rw [if_neg hk, ← Hbb.out, if_pos hor, hL, HA.out]
          obtain ⟨cL, lL, nL⟩ := HCo.out.learnt Hn.out HEl.out hk
          rw [← HA.out, ← hL] at cL lL nL
          have hLn : 1 ≤ node ∧ node ≤ L.nodes := by rw [hL, learn_nodes]; exact hnn
          have hLw : node < L.wait.length := by rw [cL.wl]; omega
          obtain ⟨c0, l0, n0, k0⟩ := wake0 cL node
          obtain ⟨L0, hL0⟩ : ∃ L0, L0 = { L with wait := L.wait.set node [] } := ⟨_, rfl⟩
          rw [← hL0] at c0 l0 n0
          have hL0n : L0.nodes = L.nodes := by rw [hL0]
          have hrow : L.wait[node]? = some (L.wait.getD node []) := by rw [List.getD_eq_getElem?_getD, List.getElem?_eq_getElem hLw]; rfl
          have Z := HC4.out
          obtain ⟨vg, hcur, hra⟩ := Z.hw.eT node _ hrow
          obtain ⟨row, hrw⟩ : ∃ row, row = L.wait.getD node [] := ⟨_, rfl⟩
          have hwk : Hid (wake L node = row.foldl (fun h y => process h node y) L0) := by
            unfold Hid wake
            rw [← hrw, ← hL0]
          rw [← hrw] at hra l0 k0
          obtain ⟨Ag, cg, hvg, _, _⟩ := hra.1.form
          subst hvg
          have t6 := Z.hw.blk.cell 6
          have gt := Z.hw.hT.cell node
          rw [hcur] at gt
          have gf := Z.hw.hT.frozen node
          simp only [List.getElem?_cons_succ, List.getElem?_cons_zero] at t6
          have lT := Z.hw.blk.lt
          have lG := Z.hw.hT.lt
          rw [Z.T_] at t6 lT
          have q0 : (0 : Int) ≤ (node : Int) := by omega
          have q1 : (node : Int) < ((L.nodes + 1 : Nat) : Int) := by omega
          have q2 : (node : Int) < (L.nodes : Int) + 1 := by omega
          have PL := Lib.hid (fun (j : Nat) (hj : j < row.length) (Wd : World) (colj : Nat → Mc) (mj : Hm) (hh : HW Wd B colj mj ((row.take j).foldl (fun h y => process h node y) L0)) (hBd : B ≤ Wd.heap.size) => by
            obtain ⟨u1, u2, u3⟩ := wakes node (row.take j) L0 c0 (by rw [hL0n]; exact hLn) (fun y hy => by rw [hL0n]; exact k0 y (List.mem_of_mem_take hy))
            have hle : (row.take j).length ≤ row.length := by rw [List.length_take]; omega
            have hfn := fold_nodes node (row.take j) L0
            exact process_c Wd B colj mj _ hh hBd u1 ht (by omega) (by omega) node (by rw [hfn, hL0n]; exact hLn) row[j] (by rw [hfn, hL0n]; exact (k0 _ (List.getElem_mem hj)).1) (k0 _ (List.getElem_mem hj)).2)
          have hin : GrownIn (fun b => b = m4.WT) wc (wc.setCell ⟨m4.WT, node, none⟩ (.slice none 0 0)) := (GrownIn.refl (fun b => b = m4.WT) wc).set (p := ⟨m4.WT, node, none⟩) rfl _
          have hE := Z.hw.detach Z.Bs hLw hin (Z.hw.hT.put node (.slice none 0 0))
          rw [← hL0] at hE
          have stE : Stp wc (wc.setCell ⟨m4.WT, node, none⟩ (.slice none 0 0)) col4 (decol col4 wc.heap.size node) := ⟨⟨hin.os, hin.tape, hin.output, hin.size, fun b hb hno => hin.block b hb fun e => hno (by rw [e]; unfold Own; rw [Z.hw.cWT]; simp)⟩, fun b hb => by
            by_cases e : col4 b = .wr node
            · exact .inr ⟨decol_row hb e, by unfold Own; rw [e]; simp⟩
            · exact .inl (decol_old hb e)⟩
          have sgE : Seg (wc.setCell ⟨m4.WT, node, none⟩ (.slice none 0 0)) 68 7 (.slice Ag row.length cg) row.length (elcs row) := hra.1.keep fun b hb => Below.heap_setCell wc ⟨m4.WT, node, none⟩ _ b (by
            rintro rfl
            have := hra.2 _ hb
            rw [Z.hw.cWT] at this
            cases this)
          have hI : Hid (WakeAt w (wc.setCell ⟨m4.WT, node, none⟩ (.slice none 0 0)) col B m.T node L0 row (.slice Ag row.length cg) 0 (decol col4 wc.heap.size node) { m4 with curW := m4.curW.set node (.slice none 0 0) }) :=
            ⟨Z.T_, hE, Z.st.trans stE, sgE, fun b hb => decol_row (hra.1.lt b hb) (hra.2 b hb), Nat.le_trans Z.Bs hin.size⟩
          have hrl : row.length ≤ 401 := by omega
          clear Z hE stE sgE hin hra hrw hcur c0 l0 n0 k0 cL lL nL hL hL0 hrow
          rw [hag]
          clear hag
          go_wp2_with (fail)
          go_loopw [71] (fun v wr => ∃ j : Nat, j ≤ row.length ∧ v = .int .i64 (j : Nat) ∧ ∃ colj mj, Hid (WakeAt w wr col B m.T node L0 row (.slice Ag row.length cg) j colj mj)) (fun v _ => row.length - (intOf v).toNat)
          case atStart => exact ⟨0, by omega, rfl, _, _, hI⟩
          case round =>
            obtain ⟨j, hj, rfl, colj, mj, HJ⟩ := hrel
            by_cases hlt : j < row.length
            · obtain ⟨g, off, rfl⟩ : ∃ g off, Ag = some ⟨g, off, none⟩ := by
                rcases HJ.out.sg.2 with ⟨h0, h1⟩ | ⟨g', off', c', cur, e1, _⟩
                · omega
                · injection e1 with e1 _ _
                  exact ⟨g', off', e1⟩
              have PP := Lib.hid (PL.out j hlt)
              have Hst := Lib.hid (show (row.take (j + 1)).foldl (fun h y => process h node y) L0 = process ((row.take j).foldl (fun h y => process h node y) L0) node row[j] by
                rw [List.take_add_one, List.getElem?_eq_getElem hlt, Option.toList_some, List.foldl_append]; rfl)
              have hc := fun (k : Nat) (hk7 : k < 7) => (elcs_at row j hlt k hk7)
              have gc : ∀ (k : Nat), k < 7 → ∀ u, (elc row[j])[k]? = some u → wr.cell? ⟨g, off + (j * 7 + k), none⟩ = some u := fun k hk7 u hu => HJ.out.sg.cells _ u ((hc k hk7).trans hu)
              generalize row[j] = y at PP Hst gc
              obtain ⟨yk, yw, ys, yq, yn, y1, y2⟩ := y
              have g0 := gc 0 (by omega) _ rfl
              have g1 := gc 1 (by omega) _ rfl
              have g2 := gc 2 (by omega) _ rfl
              have g3 := gc 3 (by omega) _ rfl
              have g4 := gc 4 (by omega) _ rfl
              have g5 := gc 5 (by omega) _ rfl
              have g6 := gc 6 (by omega) _ rfl
              simp only [Nat.add_zero, ← Nat.add_assoc] at g0 g1 g2 g3 g4 g5 g6
              clear gc hc
              have hd : decide ((j : Int) < (row.length : Int)) = true := by simp; omega
              have i0 : (0 : Int) ≤ (j : Int) := by omega
              obtain ⟨wn, hwn⟩ : ∃ wn, wn = wr.alloc (.cells #[.int .i64 yk, .int .i64 yw, .int .i64 ys, .int .i64 yq, .int .i64 yn, .int .i64 y1, .int .i64 y2] 68) := ⟨_, rfl⟩
              have bY : Blk wn wr.heap.size 68 [.int .i64 yk, .int .i64 yw, .int .i64 ys, .int .i64 yq, .int .i64 yn, .int .i64 y1, .int .i64 y2] := by rw [hwn]; exact Blk.new wr _ _
              have hgn : GrownIn (fun _ => False) wr wn := by rw [hwn]; exact (GrownIn.refl _ _).alloc _
              have hn1 := HJ.out.hw.grow HJ.out.Bs hgn
              have stn := Stp.grow (col := colj) .cst hgn fun _ _ e => e.elim
              have hBn : B ≤ wn.heap.size := Nat.le_trans HJ.out.Bs hgn.size
              obtain ⟨Y, hY⟩ : ∃ Y, Y = wr.heap.size := ⟨_, rfl⟩
              rw [← hY] at bY
              have o0 := bY.cell 0
              have o1 := bY.cell 1
              have o2 := bY.cell 2
              have o3 := bY.cell 3
              have o4 := bY.cell 4
              have o5 := bY.cell 5
              have o6 := bY.cell 6
              simp only [List.getElem?_cons_succ, List.getElem?_cons_zero] at o0 o1 o2 o3 o4 o5 o6
              have lY := bY.lt
              have PQ := Lib.hid (PP.out wn _ mj hn1 hBn)
              have HS2 := Lib.hid stn
              have HY := Lib.hid hY
              have HWn := Lib.hid hwn
              clear PP hn1 stn hY hwn bY hgn t6 gt gf lT lG
              have PQ' := PQ.out
              rw [HJ.out.T_] at PQ'
              have PR' := Lib.hid PQ'
              clear PQ PQ'
              go_wp2_with (fail)
              rw [← HWn.out, ← HY.out]
              go_wp2_with (fail)
              refine PR'.out.mono ?_
              rintro e w5 ⟨col5, m5, rfl, hT5, hh5, hs5⟩
              dsimp only
              have hall := HS2.out.trans hs5
              have hnew : Hid (WakeAt w w5 col B m.T node L0 row (.slice (some ⟨g, off, none⟩) row.length cg) (j + 1) col5 m5) := by
                refine ⟨hT5, by rw [Hst.out]; exact hh5, HJ.out.st.trans hall, HJ.out.sg.keep fun b hb => (hall.cst (HJ.out.sg.lt b hb) (HJ.out.cs b hb)).1, fun b hb => (hall.cst (HJ.out.sg.lt b hb) (HJ.out.cs b hb)).2, Nat.le_trans HJ.out.Bs hall.gr.size⟩
              clear hall hs5 hh5 hT5 g0 g1 g2 g3 g4 g5 g6 o0 o1 o2 o3 o4 o5 o6 lY
              have hjw : IntKind.i64.wrap ((j : Int) + 1) = (j : Int) + 1 := IntWalk.i64_in _ (by omega)
              go_wp2_with (fail)
              exact ⟨⟨j + 1, by omega, by go_num, _, _, hnew⟩, by simp [intOf]; omega⟩
            · have hd : decide ((j : Int) < (row.length : Int)) = false := by simp; omega
              have hd2 : decide (j < row.length) = false := by simp; omega
              go_wp2_with (fail)
              go_end0
              obtain rfl : j = row.length := by omega
              have Z := HJ.out
              rw [← HP.out, hpr.out, hwk.out]
              have hw2 := Z.hw
              rw [List.take_length] at hw2
              exact ⟨colj, mj, rfl, Z.T_, hw2, Z.st⟩
        · have hag' : (((xk : Int) == 1) || decide (bq < x2)) = false := by simpa using hag
          have hnk : ¬ xk = 1 := by
            rintro rfl
            simp at hag
          have hnb : ¬ bq < x2 := by
            intro h
            simp [h] at hag
          have hbA : A.bel node xw = (bp, bq) := by
            rw [HA.out, show (arrive s node ⟨xk, xw, xs, xq, xn, x1, x2⟩).bel = s.bel by unfold arrive; split <;> rfl]
            exact Hbb.out.symm
          have hln : learn A node ⟨xk, xw, xs, xq, xn, x1, x2⟩ = s := by
            unfold learn
            rw [hbA, if_neg hnb, HA.out]
            unfold arrive
            rw [if_neg hnk]
          have hpr : PR = s := by
            rw [HP.out]
            unfold come
            rw [if_neg hk, ← Hbb.out, if_neg (by simp [hnk, hnb])]
          rw [hln] at HC4
          rw [hag']
          clear hln hbA hnk hnb hag
          go_wp2_with (fail)
          go_end0
          rw [← HP.out, hpr]
          exact ⟨col4, m4, rfl, HC4.out.T_, HC4.out.hw, HC4.out.st⟩
end Go.Proofs.Ytckkelppdeampaa
