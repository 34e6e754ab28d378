/- Contract of package move's process. -/
import Derived.Test.YtckkelppdeampaaHarbRecv
set_option linter.unusedVariables false
namespace Go.Proofs.Ytckkelppdeampaa
open Go.RowKit Go.Mem Go.Mv Go.Maps
theorem zero_bel : ∀ w : World, (zeroValue 66).run Try.prog w = .ok (.agg #[.int .i64 0, .int .i64 0]) w := fun _ => by kernel_rfl
section
variable {w w' : World} {B : Nat} {col : Nat → Mc} {m : Hm} {s : Hb}
theorem HW.look_bel (h : HW w B col m s) {a x : Nat} (ha : 1 ≤ a ∧ a ≤ s.nodes) (hx : x < s.at_.length) (W : World) (hW : W.heap[m.Bl]? = w.heap[m.Bl]?) :
    (Instr.lookup 44 (.map (some m.Bl)) (.agg #[.int .i64 (a : Nat), .int .i64 (x : Nat)]) false).run Try.prog W = .ok (.agg #[.int .i64 ((s.bel a x).1 : Nat), .int .i64 ((s.bel a x).2 : Nat)]) W := by
  have := (h.hB.same hW).lookup enc_spot Try.underlying44 zero_bel (a := (a, x)) (by have := h.nd; unfold okP; simp; omega) false
  rw [h.eB a x ha.1 ha.2 hx] at this
  simp only [Bool.false_eq_true, if_false] at this
  exact this
/-- where an actor is -/
theorem HW.at_cell (h : HW w B col m s) {x : Nat} (hx : x < s.at_.length) : w.cell? ⟨m.AT, x, none⟩ = some (.int .i64 (s.at_.getD x 0 : Nat)) := by
  rw [h.hA.cell]
  have : (m.curA.take s.at_.length)[x]? = (natv s.at_)[x]? := by rw [h.eA]
  rw [List.getElem?_take, if_pos hx] at this
  rw [this]
  unfold natv
  rw [List.getElem?_map, getD_at hx]
  rfl
end
theorem chan_push_le (s : Hb) (a b : Nat) (x : El) (c d : Nat) : (chan (push s a b x).ways c d).length ≤ (chan s.ways c d).length + 1 := by
  unfold push chan
  dsimp only
  rw [mget_put]
  split
  · rename_i e
    injection e with e1 e2
    subst e1 e2
    simp
  · omega
/-- cells read so -/
def CL : List (Addr × Value) → World → Prop
  | [], _ => True
  | p :: r, w => w.cell? p.1 = some p.2 ∧ CL r w
theorem CL.same : ∀ {l : List (Addr × Value)} {w w' : World}, CL l w → (∀ p ∈ l, w'.heap[p.1.block]? = w.heap[p.1.block]?) → CL l w'
  | [], _, _, _, _ => trivial
  | p :: r, w, w', h, hl => ⟨(World.cell?_of_block (w := w) (hl p (by simp))).trans h.1, CL.same h.2 fun q hq => hl q (by simp [hq])⟩
set_option maxRecDepth 100000 in
set_option maxHeartbeats 4000000 in
theorem process_any (w : World) (B : Nat) (col : Nat → Mc) (m : Hm) (s : Hb) (h : HW w B col m s) (hB : B ≤ w.heap.size) (node : Nat) (hn : 1 ≤ node ∧ node ≤ s.nodes) (x : El) (hs : 1 ≤ x.src ∧ x.src ≤ s.nodes) (hw : x.who < s.at_.length) (hq : x.seq ≤ 100000)
    (hbn : 1 ≤ (s.bel node x.who).1 ∧ (s.bel node x.who).1 ≤ s.nodes) (hb1 : (s.box x.src x.who).next + (s.box x.src x.who).st.length ≤ 800000) (hb2 : (s.got.getD x.who []).length + (s.box x.src x.who).st.length ≤ 800000) (hl : ∀ a b, (chan s.ways a b).length ≤ 900000) (hwt : (s.wait.getD node []).length ≤ 900000) :
    Calls Try.prog 19 #[.pointer (some ⟨m.T, 0, none⟩), .int .i64 (node : Nat), .agg #[.int .i64 x.kind, .int .i64 x.who, .int .i64 x.src, .int .i64 x.seq, .int .i64 x.n, .int .i64 x.bn, .int .i64 x.bm]] w (HPost w B col m.T (process s node x)) := by
  obtain ⟨xk, xw, xs, xq, xn, x1, x2⟩ := x
  simp only at hs hw hq hb1 hb2 hbn
  obtain ⟨w1, hw1⟩ : ∃ w1, w1 = w.alloc (.cells #[.int .i64 xk, .int .i64 xw, .int .i64 xs, .int .i64 xq, .int .i64 xn, .int .i64 x1, .int .i64 x2] 68) := ⟨_, rfl⟩
  have bX : Blk w1 w.heap.size 68 [.int .i64 xk, .int .i64 xw, .int .i64 xs, .int .i64 xq, .int .i64 xn, .int .i64 x1, .int .i64 x2] := by rw [hw1]; exact Blk.new w _ _
  have hg1 : GrownIn (fun _ => False) w w1 := by rw [hw1]; exact (GrownIn.refl _ _).alloc _
  have h1 := h.grow hB hg1
  have hB1 : B ≤ w1.heap.size := Nat.le_trans hB hg1.size
  obtain ⟨X, hX⟩ : ∃ X, X = w.heap.size := ⟨_, rfl⟩
  rw [← hX] at bX
  have hXB : B ≤ X := by omega
  have hcX : recol col w.heap.size .cst X = .cst := recol_new (by omega)
  generalize hc1 : recol col w.heap.size .cst = col1 at h1 hcX
  obtain ⟨bn, hbl⟩ : ∃ b, b = s.bel node xw := ⟨_, rfl⟩
  have lk0 := h1.look_bel hn hw w1.drew rfl
  have lk1 := h1.look_bel hn hw ((w1.alloc (.cells #[.int .i64 0, .int .i64 0] 66)).drew) (Below.heap_alloc w1 _ _ h1.hB.lt)
  rw [← hbl] at lk0 lk1 hbn
  obtain ⟨p, q⟩ := bn
  simp only at lk0 lk1 hbn
  have c2 := h1.blk.cell 2
  have x1' := bX.cell 1
  simp only [List.getElem?_cons_succ, List.getElem?_cons_zero] at c2 x1'
  have lT := h1.blk.lt
  have lX := bX.lt
  obtain ⟨W2, hW2⟩ : ∃ W2, W2 = (w1.alloc (.cells #[.int .i64 p, .int .i64 q] 66)).drew := ⟨_, rfl⟩
  have bY : Blk W2 w1.heap.size 66 [.int .i64 p, .int .i64 q] := by rw [hW2]; exact (Blk.new w1 _ [.int .i64 p, .int .i64 q]).drew
  have hg2 : GrownIn (fun _ => False) w1 W2 := by rw [hW2]; exact ((GrownIn.refl _ _).alloc _).drew
  have h2 := h1.grow hB1 hg2
  have hB2 : B ≤ W2.heap.size := Nat.le_trans hB1 hg2.size
  obtain ⟨Y, hY⟩ : ∃ Y, Y = w1.heap.size := ⟨_, rfl⟩
  rw [← hY] at bY
  have hcY : recol col1 w1.heap.size .cst Y = .cst := recol_new (by omega)
  have st2 := (Stp.grow (col := col) .cst hg1 fun _ _ e => e.elim)
  rw [hc1] at st2
  have st3 := st2.trans (Stp.grow (col := col1) .cst hg2 fun _ _ e => e.elim)
  obtain ⟨bX2, hcX2⟩ := (Stp.grow (col := col1) .cst hg2 fun _ _ e => e.elim).blk bX hcX
  generalize hc2 : recol col1 w1.heap.size .cst = col2 at h2 hcY hcX2 st3
  have HWw := Lib.hid hw1
  have HXx := Lib.hid hX
  have HW2 := Lib.hid hW2
  have HYy := Lib.hid hY
  have H2 := Lib.hid h2
  have HB2 := Lib.hid (And.intro bX2 (And.intro hcX2 (And.intro bY hcY)))
  have HST := Lib.hid st3
  have Hbl := Lib.hid hbl
  have d1 := h2.blk.cell 1
  have d2 := h2.at_cell hw
  have e0 := bX2.cell 0
  have e1 := bX2.cell 1
  have e2 := bX2.cell 2
  have e3 := bX2.cell 3
  have e4 := bX2.cell 4
  have e5 := bX2.cell 5
  have e6 := bX2.cell 6
  have y0 := bY.cell 0
  have y1 := bY.cell 1
  simp only [List.getElem?_cons_succ, List.getElem?_cons_zero] at d1 e0 e1 e2 e3 e4 e5 e6 y0 y1
  have lT2 := h2.blk.lt
  have lX2 := bX2.lt
  have lY2 := bY.lt
  have lA2 := h2.hA.lt
  have i0 : (0 : Int) ≤ (xw : Int) := by omega
  have i1 : (xw : Int) < (s.at_.length : Int) := by omega
  obtain ⟨av, hav⟩ : ∃ av, av = s.at_.getD xw 0 := ⟨_, rfl⟩
  rw [← hav] at d2
  have Hav := Lib.hid hav
  obtain ⟨PR, hPR⟩ : ∃ PR, PR = process s node ⟨xk, xw, xs, xq, xn, x1, x2⟩ := ⟨_, rfl⟩
  have HP := Lib.hid hPR
  have Hn := Lib.hid hn
  have Hs := Lib.hid hs
  have Hl := Lib.hid hl
  clear h hw1 hX h1 bX hg1 hcX hc1 hbl hW2 bY hg2 h2 hY hcY st2 st3 bX2 hcX2 hc2 hav hPR hn hs hl
  by_cases hat : av = node
  · have hr : Hid (PR = receive s ⟨xk, xw, xs, xq, xn, x1, x2⟩) := by unfold Hid; rw [HP.out]; unfold process; rw [← Hav.out, if_pos hat]
    subst hat
    have RC := Lib.hid (fun (W : World) (hW : W.heap = W2.heap) => receive_any W B col2 m s (H2.out.heap hW) (by rw [hW]; exact hB2) ⟨xk, xw, xs, xq, xn, x1, x2⟩ Hs.out hw hq hb1 hb2)
    go_enter Try.func19, Try.ntmps19
    go_wp2_with (fail)
    rw [← HWw.out, ← HXx.out]
    go_region_held3 (fun w' => w'.cell? ⟨m.T, 2, none⟩ = some (.map (some m.Bl)) ∧ w'.cell? ⟨X, 1, none⟩ = some (.int .i64 xw)) (go_keep) (fail)
    all_goals
      rw [← HW2.out, ← HYy.out]
      go_wp2_with (fail)
      go_quiet (fail)
      go_wp2_with (fail)
      refine (RC.out (World.drewN W2 _) rfl).mono ?_
      rintro e w' ⟨col', m', rfl, hT', hh', hs'⟩
      dsimp only
      go_wp2_with (fail)
      go_end0
      rw [← HP.out, hr.out]
      exact ⟨col', m', rfl, hT', hh', (HST.out.trans (Stp.same ((GrownIn.refl _ _).drewN _))).trans hs'⟩
  · have hda : ((av : Int) == (node : Int)) = false := by simp; omega
    have hdn : (av == node) = false := by simpa using hat
    by_cases hpn : p = node
    · have hr : Hid (PR = { s with wait := s.wait.set node (s.wait.getD node [] ++ [⟨xk, xw, xs, xq, xn, x1, x2⟩]) }) := by
        unfold Hid
        rw [HP.out]
        unfold process
        rw [← Hav.out, if_neg hat, ← Hbl.out, if_pos hpn]
      obtain rfl : node = p := hpn.symm
      clear hpn
      go_enter Try.func19, Try.ntmps19
      go_wp2_with (fail)
      rw [← HWw.out, ← HXx.out]
      go_region_held3 (fun w' => w'.cell? ⟨m.T, 2, none⟩ = some (.map (some m.Bl)) ∧ w'.cell? ⟨X, 1, none⟩ = some (.int .i64 xw)) (go_keep) (fail)
      all_goals
        rw [← HW2.out, ← HYy.out]
        go_wp2_with (fail)
        go_quiet (fail)
        go_wp2_with (fail)
        generalize hW3 : World.drewN W2 _ = W3
        have hh : W3.heap = W2.heap := by rw [← hW3]; rfl
        have h3 := H2.out.heap hh
        have HST3 := Lib.hid (HST.out.trans (Stp.same (by rw [← hW3]; exact (GrownIn.refl _ _).drewN _) : Stp W2 W3 col2 col2))
        obtain ⟨bX2, hcX2, bY2, hcY2⟩ := HB2.out
        have bX3 := bX2.of_heap hh
        have hB3 : B ≤ W3.heap.size := by rw [hh]; exact hB2
        have hwl : node < s.wait.length := by rw [h3.wl]; have := Hn.out; omega
        have hrow : s.wait[node]? = some (s.wait.getD node []) := by rw [List.getD_eq_getElem?_getD, List.getElem?_eq_getElem hwl]; rfl
        obtain ⟨vg, hcur, hra⟩ := h3.eT node _ hrow
        obtain ⟨row, hrw⟩ : ∃ row, row = s.wait.getD node [] := ⟨_, rfl⟩
        have hwt' := hwt
        rw [← hrw] at hra hwt'
        obtain ⟨Ag, cg, hvg, _, _⟩ := hra.1.form
        subst hvg
        clear hW3 hh d1 d2 e0 e1 e2 e3 e4 e5 e6 y0 y1 lT2 lX2 lY2 lA2 lk0 lk1 c2 x1' lT lX
        have t6 := h3.blk.cell 6
        have gt := h3.hT.cell node
        rw [hcur] at gt
        have gf := h3.hT.frozen node
        have e0 := bX3.cell 0
        have e1 := bX3.cell 1
        have e2 := bX3.cell 2
        have e3 := bX3.cell 3
        have e4 := bX3.cell 4
        have e5 := bX3.cell 5
        have e6 := bX3.cell 6
        simp only [List.getElem?_cons_succ, List.getElem?_cons_zero] at t6 e0 e1 e2 e3 e4 e5 e6
        have lT3 := h3.blk.lt
        have lX3 := bX3.lt
        have lG3 := h3.hT.lt
        have vT : (Value.slice Ag row.length cg).ownBlock ≠ some m.T := fun e => by have := hra.2 _ e; rw [h3.cT] at this; cases this
        have vX : (Value.slice Ag row.length cg).ownBlock ≠ some X := fun e => by have := hra.2 _ e; rw [hcX2] at this; cases this
        have vG : (Value.slice Ag row.length cg).ownBlock ≠ some m.WT := fun e => by have := hra.2 _ e; rw [h3.cWT] at this; cases this
        have k0 : (0 : Int) ≤ (node : Int) := by omega
        have k1 : (node : Int) < ((s.nodes + 1 : Nat) : Int) := by have := Hn.out; omega
        have k2 : (node : Int) < (s.nodes : Int) + 1 := by have := Hn.out; omega
        have ne3 := Lib.hid (And.intro vT (And.intro vX vG))
        have H3 := Lib.hid h3
        have Hra := Lib.hid hra
        have Hrw := Lib.hid (And.intro hrw hcur)
        have HBG := Lib.hid h3.hT
        have h3S : (CL [(⟨m.T, 6, none⟩, (.slice (some ⟨m.WT, 0, none⟩) (s.nodes + 1) m.cW)), (⟨m.WT, node, none⟩, (.slice Ag row.length cg)), (⟨X, 0, none⟩, .int .i64 xk), (⟨X, 1, none⟩, .int .i64 xw), (⟨X, 2, none⟩, .int .i64 xs), (⟨X, 3, none⟩, .int .i64 xq), (⟨X, 4, none⟩, .int .i64 xn), (⟨X, 5, none⟩, .int .i64 x1), (⟨X, 6, none⟩, .int .i64 x2)]) W3 := by
          simp only [CL]
          exact ⟨t6, gt, e0, e1, e2, e3, e4, e5, e6, trivial⟩
        clear h3 bX2 hcX2 bY2 hcY2 bX3 hwl hrow hra hrw hcur vT vX vG
        refine wp_region_g (S := CL [(⟨m.T, 6, none⟩, (.slice (some ⟨m.WT, 0, none⟩) (s.nodes + 1) m.cW)), (⟨m.WT, node, none⟩, (.slice Ag row.length cg)), (⟨X, 0, none⟩, .int .i64 xk), (⟨X, 1, none⟩, .int .i64 xw), (⟨X, 2, none⟩, .int .i64 xs), (⟨X, 3, none⟩, .int .i64 xq), (⟨X, 4, none⟩, .int .i64 xn), (⟨X, 5, none⟩, .int .i64 x1), (⟨X, 6, none⟩, .int .i64 x2)]) (m := 16) (by kernel_rfl) ?_
        change wpAnyG _ _ _ _ _ _ _ _ _ (World.drew W3)
        have hS : (CL [(⟨m.T, 6, none⟩, (.slice (some ⟨m.WT, 0, none⟩) (s.nodes + 1) m.cW)), (⟨m.WT, node, none⟩, (.slice Ag row.length cg)), (⟨X, 0, none⟩, .int .i64 xk), (⟨X, 1, none⟩, .int .i64 xw), (⟨X, 2, none⟩, .int .i64 xs), (⟨X, 3, none⟩, .int .i64 xq), (⟨X, 4, none⟩, .int .i64 xn), (⟨X, 5, none⟩, .int .i64 x1), (⟨X, 6, none⟩, .int .i64 x2)]) (World.drew W3) := h3S
        refine wpAnyG_take (i := 0) (v := .pointer (some ⟨m.T, 0, none⟩)) rfl ?_ ?_ ?_ (fun _ _ _ h => h) (Or.inl ⟨by rfl, ?_⟩) hS ?_; (· decide +kernel); (· decide +kernel); (· decide +kernel); (· (intro w' hS'; simp only [CL] at hS'; obtain ⟨zz0, zz1, zz2, zz3, zz4, zz5, zz6, zz7, zz8, _⟩ := hS'; go_simp))
        refine wpAnyG_take (i := 1) (v := .pointer (some ⟨m.T, 0, none⟩)) rfl ?_ ?_ ?_ (fun _ _ _ h => h) (Or.inl ⟨by rfl, ?_⟩) hS ?_; (· decide +kernel); (· decide +kernel); (· decide +kernel); (· (intro w' hS'; simp only [CL] at hS'; obtain ⟨zz0, zz1, zz2, zz3, zz4, zz5, zz6, zz7, zz8, _⟩ := hS'; go_simp))
        refine wpAnyG_take (i := 2) (v := .pointer (some ⟨m.T, 6, none⟩)) rfl ?_ ?_ ?_ (fun _ _ _ h => h) (Or.inl ⟨by rfl, ?_⟩) hS ?_; (· decide +kernel); (· decide +kernel); (· decide +kernel); (· (intro w' hS'; simp only [CL] at hS'; obtain ⟨zz0, zz1, zz2, zz3, zz4, zz5, zz6, zz7, zz8, _⟩ := hS'; go_simp))
        refine wpAnyG_take (i := 3) (v := (.slice (some ⟨m.WT, 0, none⟩) (s.nodes + 1) m.cW)) rfl ?_ ?_ ?_ (fun _ _ _ h => h) (Or.inl ⟨by rfl, ?_⟩) hS ?_; (· decide +kernel); (· decide +kernel); (· decide +kernel); (· (intro w' hS'; simp only [CL] at hS'; obtain ⟨zz0, zz1, zz2, zz3, zz4, zz5, zz6, zz7, zz8, _⟩ := hS'; go_simp))
        refine wpAnyG_take (i := 4) (v := .int .i64 node) rfl ?_ ?_ ?_ (fun _ _ _ h => h) (Or.inl ⟨by rfl, ?_⟩) hS ?_; (· decide +kernel); (· decide +kernel); (· decide +kernel); (· (intro w' hS'; simp only [CL] at hS'; obtain ⟨zz0, zz1, zz2, zz3, zz4, zz5, zz6, zz7, zz8, _⟩ := hS'; go_simp))
        refine wpAnyG_take (i := 5) (v := .pointer (some ⟨m.T, 0, none⟩)) rfl ?_ ?_ ?_ (fun _ _ _ h => h) (Or.inl ⟨by rfl, ?_⟩) hS ?_; (· decide +kernel); (· decide +kernel); (· decide +kernel); (· (intro w' hS'; simp only [CL] at hS'; obtain ⟨zz0, zz1, zz2, zz3, zz4, zz5, zz6, zz7, zz8, _⟩ := hS'; go_simp))
        refine wpAnyG_take (i := 6) (v := .pointer (some ⟨m.T, 0, none⟩)) rfl ?_ ?_ ?_ (fun _ _ _ h => h) (Or.inl ⟨by rfl, ?_⟩) hS ?_; (· decide +kernel); (· decide +kernel); (· decide +kernel); (· (intro w' hS'; simp only [CL] at hS'; obtain ⟨zz0, zz1, zz2, zz3, zz4, zz5, zz6, zz7, zz8, _⟩ := hS'; go_simp))
        refine wpAnyG_take (i := 7) (v := .pointer (some ⟨m.T, 6, none⟩)) rfl ?_ ?_ ?_ (fun _ _ _ h => h) (Or.inl ⟨by rfl, ?_⟩) hS ?_; (· decide +kernel); (· decide +kernel); (· decide +kernel); (· (intro w' hS'; simp only [CL] at hS'; obtain ⟨zz0, zz1, zz2, zz3, zz4, zz5, zz6, zz7, zz8, _⟩ := hS'; go_simp))
        refine wpAnyG_take (i := 8) (v := (.slice (some ⟨m.WT, 0, none⟩) (s.nodes + 1) m.cW)) rfl ?_ ?_ ?_ (fun _ _ _ h => h) (Or.inl ⟨by rfl, ?_⟩) hS ?_; (· decide +kernel); (· decide +kernel); (· decide +kernel); (· (intro w' hS'; simp only [CL] at hS'; obtain ⟨zz0, zz1, zz2, zz3, zz4, zz5, zz6, zz7, zz8, _⟩ := hS'; go_simp))
        refine wpAnyG_take (i := 9) (v := .int .i64 node) rfl ?_ ?_ ?_ (fun _ _ _ h => h) (Or.inl ⟨by rfl, ?_⟩) hS ?_; (· decide +kernel); (· decide +kernel); (· decide +kernel); (· (intro w' hS'; simp only [CL] at hS'; obtain ⟨zz0, zz1, zz2, zz3, zz4, zz5, zz6, zz7, zz8, _⟩ := hS'; go_simp))
        refine wpAnyG_take (i := 10) (v := .pointer (some ⟨m.WT, node, none⟩)) rfl ?_ ?_ ?_ (fun _ _ _ h => h) (Or.inl ⟨by rfl, ?_⟩) hS ?_; (· decide +kernel); (· decide +kernel); (· decide +kernel); (· (intro w' hS'; simp only [CL] at hS'; obtain ⟨zz0, zz1, zz2, zz3, zz4, zz5, zz6, zz7, zz8, _⟩ := hS'; go_simp))
        refine wpAnyG_take (i := 11) (v := (.slice Ag row.length cg)) rfl ?_ ?_ ?_ (fun _ _ _ h => h) (Or.inl ⟨by rfl, ?_⟩) hS ?_; (· decide +kernel); (· decide +kernel); (· decide +kernel); (· (intro w' hS'; simp only [CL] at hS'; obtain ⟨zz0, zz1, zz2, zz3, zz4, zz5, zz6, zz7, zz8, _⟩ := hS'; go_simp))
        refine wpAnyG_take (i := 12) (v := .agg #[.int .i64 xk, .int .i64 xw, .int .i64 xs, .int .i64 xq, .int .i64 xn, .int .i64 x1, .int .i64 x2]) rfl ?_ ?_ ?_ (fun _ _ _ h => h) (Or.inl ⟨by rfl, ?_⟩) hS ?_; (· decide +kernel); (· decide +kernel); (· decide +kernel); (· (intro w' hS'; simp only [CL] at hS'; obtain ⟨zz0, zz1, zz2, zz3, zz4, zz5, zz6, zz7, zz8, _⟩ := hS'; go_simp))
        refine wpAnyG_ready (rs := [13]) (by decide +kernel) (by simp) ?_
        refine AllReadyG.cons rfl (fun K hK => ?_) AllReadyG.nil
        go_simp
        have hS : (CL [(⟨m.T, 6, none⟩, (.slice (some ⟨m.WT, 0, none⟩) (s.nodes + 1) m.cW)), (⟨m.WT, node, none⟩, (.slice Ag row.length cg)), (⟨X, 0, none⟩, .int .i64 xk), (⟨X, 1, none⟩, .int .i64 xw), (⟨X, 2, none⟩, .int .i64 xs), (⟨X, 3, none⟩, .int .i64 xq), (⟨X, 4, none⟩, .int .i64 xn), (⟨X, 5, none⟩, .int .i64 x1), (⟨X, 6, none⟩, .int .i64 x2)]) (W3.alloc (.cells #[.int .i64 xk, .int .i64 xw, .int .i64 xs, .int .i64 xq, .int .i64 xn, .int .i64 x1, .int .i64 x2] 68)) := h3S.same (by have kT := Below.heap_alloc W3 (.cells #[.int .i64 xk, .int .i64 xw, .int .i64 xs, .int .i64 xq, .int .i64 xn, .int .i64 x1, .int .i64 x2] 68) _ lT3; have kX := Below.heap_alloc W3 (.cells #[.int .i64 xk, .int .i64 xw, .int .i64 xs, .int .i64 xq, .int .i64 xn, .int .i64 x1, .int .i64 x2] 68) _ lX3; have kG := Below.heap_alloc W3 (.cells #[.int .i64 xk, .int .i64 xw, .int .i64 xs, .int .i64 xq, .int .i64 xn, .int .i64 x1, .int .i64 x2] 68) _ lG3; exact (by intro p hp; simp only [List.mem_cons, List.not_mem_nil, or_false] at hp; rcases hp with rfl | rfl | rfl | rfl | rfl | rfl | rfl | rfl | rfl <;> first | exact kT | exact kX | exact kG))
        refine hK _ _ (fun _ => hS) ?_
        clear hK K
        refine wpAnyG_ready (rs := [14]) (by decide +kernel) (by simp) ?_
        refine AllReadyG.cons rfl (fun K hK => ?_) AllReadyG.nil
        refine step_app_el _ rfl (.tmp 65) (.tmp 67) (by rfl) (v := (.slice Ag row.length cg)) (n := row.length) (xs := elcs row) (A := some ⟨W3.heap.size, 0, none⟩) (m := 1) (news := [.int .i64 xk, .int .i64 xw, .int .i64 xs, .int .i64 xq, .int .i64 xn, .int .i64 x1, .int .i64 x2]) (c := 1) (D := Any) (by exact Seg.alloc_ Hra.out.1 (.cells #[.int .i64 xk, .int .i64 xw, .int .i64 xs, .int .i64 xq, .int .i64 xn, .int .i64 x1, .int .i64 x2] 68)) rfl (by exact Reads.new (D := Any) W3 [.int .i64 xk, .int .i64 xw, .int .i64 xs, .int .i64 xq, .int .i64 xn, .int .i64 x1, .int .i64 x2] 7 1 68 trivial rfl) (by first | rfl | simp) (by simp [Value.oneCell']) (by omega) (by omega) ?_
        intro v2 w7 hseg7 hg7 hat7
        obtain ⟨A7, c7, e7, _, _⟩ := hseg7.form
        subst e7
        have hg7' : W3.grownBy w7 (Value.slice Ag row.length cg).ownBlock := grown_alloc' hg7
        have kT := hg7'.block m.T lT3 (fun e => ne3.out.1 e.symm)
        have kX := hg7'.block X lX3 (fun e => ne3.out.2.1 e.symm)
        have kG := hg7'.block m.WT lG3 (fun e => ne3.out.2.2 e.symm)
        have gt7 := cell_same kG gt
        have gf7 : w7.frozen? ⟨m.WT, node, none⟩ = false := by { have := HBG.out.grown hg7' (fun e => ne3.out.2.2 e.symm); exact this.frozen node }
        have lG7 : m.WT < w7.heap.size := Nat.lt_of_lt_of_le lG3 hg7'.size
        have fin := Lib.hid (And.intro hseg7 (And.intro hg7' hat7))
        have hS7 : (CL [(⟨m.T, 6, none⟩, (.slice (some ⟨m.WT, 0, none⟩) (s.nodes + 1) m.cW)), (⟨m.WT, node, none⟩, (.slice Ag row.length cg)), (⟨X, 0, none⟩, .int .i64 xk), (⟨X, 1, none⟩, .int .i64 xw), (⟨X, 2, none⟩, .int .i64 xs), (⟨X, 3, none⟩, .int .i64 xq), (⟨X, 4, none⟩, .int .i64 xn), (⟨X, 5, none⟩, .int .i64 x1), (⟨X, 6, none⟩, .int .i64 x2)]) w7 := h3S.same (by intro p hp; simp only [List.mem_cons, List.not_mem_nil, or_false] at hp; rcases hp with rfl | rfl | rfl | rfl | rfl | rfl | rfl | rfl | rfl <;> first | exact kT | exact kX | exact kG)
        clear hseg7 hg7 hg7' hat7 kT kX kG
        have hS : (CL [(⟨m.T, 6, none⟩, (.slice (some ⟨m.WT, 0, none⟩) (s.nodes + 1) m.cW)), (⟨m.WT, node, none⟩, (.slice Ag row.length cg)), (⟨X, 0, none⟩, .int .i64 xk), (⟨X, 1, none⟩, .int .i64 xw), (⟨X, 2, none⟩, .int .i64 xs), (⟨X, 3, none⟩, .int .i64 xq), (⟨X, 4, none⟩, .int .i64 xn), (⟨X, 5, none⟩, .int .i64 x1), (⟨X, 6, none⟩, .int .i64 x2)]) w7 := hS7
        refine hK _ _ (fun _ => hS) ?_
        clear hK K
        refine wpAnyG_take (i := 15) (v := .pointer (some ⟨m.WT, node, none⟩)) rfl ?_ ?_ ?_ (fun _ _ _ h => h) (Or.inl ⟨by rfl, ?_⟩) hS ?_; (· decide +kernel); (· decide +kernel); (· decide +kernel); (· (intro w' hS'; simp only [CL] at hS'; obtain ⟨zz0, zz1, zz2, zz3, zz4, zz5, zz6, zz7, zz8, _⟩ := hS'; go_simp))
        refine wpAnyG_ready (rs := [16]) (by decide +kernel) (by simp) ?_
        refine AllReadyG.cons rfl (fun K hK => ?_) AllReadyG.nil
        clear hS
        go_simp
        refine hK _ _ (fun h => absurd h (by decide)) ?_
        clear hK K
        refine wpAnyG_done (by decide +kernel) ?_ _
        go_wp2_with (fail)
        go_end0
        obtain ⟨g1, g2, g3⟩ := fin.out
        obtain ⟨hrw, hcur⟩ := Hrw.out
        have e2 : (elcs row ++ [.int .i64 xk, .int .i64 xw, .int .i64 xs, .int .i64 xq, .int .i64 xn, .int .i64 x1, .int .i64 x2]) = elcs (row ++ [(⟨xk, xw, xs, xq, xn, x1, x2⟩ : El)]) := by rw [elcs_app]; rfl
        have e3 : row.length + 1 = (row ++ [(⟨xk, xw, xs, xq, xn, x1, x2⟩ : El)]).length := by simp
        rw [e2] at g1
        have g1' : Seg w7 68 7 (.slice A7 (row.length + 1) c7) (row ++ [(⟨xk, xw, xs, xq, xn, x1, x2⟩ : El)]).length (elcs (row ++ [(⟨xk, xw, xs, xq, xn, x1, x2⟩ : El)])) := by rw [← e3]; exact g1
        have hin8 : GrownIn (fun b => col2 b = .wr node ∨ b = m.WT) W3 (w7.setCell ⟨m.WT, node, none⟩ (.slice A7 (row.length + 1) c7)) := (GrownIn.of_grown (own := fun b => col2 b = .wr node ∨ b = m.WT) g2 fun b hb => .inl (Hra.out.2 b hb)).set (p := ⟨m.WT, node, none⟩) (.inr rfl) _
        have hm8 := (HBG.out.grown g2 (fun e => ne3.out.2.2 e.symm)).put node (.slice A7 (row.length + 1) c7)
        have hv8 : RowAt (w7.setCell ⟨m.WT, node, none⟩ (.slice A7 (row.length + 1) c7)) (recol col2 W3.heap.size (.wr node)) (.wr node) 68 7 (row ++ [(⟨xk, xw, xs, xq, xn, x1, x2⟩ : El)]).length (.slice A7 (row.length + 1) c7) (elcs (row ++ [(⟨xk, xw, xs, xq, xn, x1, x2⟩ : El)])) := by
          refine ⟨g1'.keep fun b hb => Below.heap_setCell w7 ⟨m.WT, node, none⟩ _ b ?_, fun b hb => ?_⟩
          · rintro rfl
            rcases g3 _ hb with e | e
            · exact ne3.out.2.2 e
            · simp at e
              omega
          · rcases g3 b hb with e | e
            · have := Hra.out.2 b e
              rcases Nat.lt_or_ge b W3.heap.size with hl | hl
              · rw [recol_old hl]; exact this
              · rw [recol_new hl]
            · rw [recol_new (by simp at e; omega)]
        have h8 := H3.out.row hB3 (by rw [H3.out.wl]; omega) hin8 hm8 hv8
        rw [← HP.out, hr.out, ← hrw]
        exact ⟨_, { m with curW := m.curW.set node (.slice A7 (row.length + 1) c7) }, rfl, rfl, h8, HST3.out.trans (Stp.grow (.wr node) hin8 fun b _ e => by
          unfold Own
          rcases e with e | rfl
          · rw [e]; simp
          · rw [H3.out.cWT]; simp)⟩
    · have hdp : ((p : Int) == (node : Int)) = false := by simp; omega
      have hdq : (p == node) = false := by simpa using hpn
      have hp1000 : p < 1000 := by have := H2.out.nd; omega
      have hn1000 : node < 1000 := by have := H2.out.nd; have := Hn.out; omega
      have hs1000 : xs < 1000 := by have := H2.out.nd; have := Hs.out; omega
      by_cases hxs : xs = node
      · have hr : Hid (PR = push s node p ⟨xk, xw, xs, xq, xn, x1, x2⟩) := by
          unfold Hid
          rw [HP.out]
          unfold process
          rw [← Hav.out, if_neg hat, ← Hbl.out, if_neg hpn, if_neg (by simp [hxs])]
        have PU := Lib.hid (fun (W : World) (hW : W.heap = W2.heap) => push_any W B col2 m s (H2.out.heap hW) (by rw [hW]; exact hB2) node p hn1000 hp1000 ⟨xk, xw, xs, xq, xn, x1, x2⟩ (by have := Hl.out node p; omega))
        have hx1 : ((xs : Int) != (node : Int)) = false := by simp; omega
        have hx2 : (xs != node) = false := by simp; omega
        clear hxs hpn hat
        go_enter Try.func19, Try.ntmps19
        go_wp2_with (fail)
        rw [← HWw.out, ← HXx.out]
        go_region_held3 (fun w' => w'.cell? ⟨m.T, 2, none⟩ = some (.map (some m.Bl)) ∧ w'.cell? ⟨X, 1, none⟩ = some (.int .i64 xw)) (go_keep) (fail)
        all_goals
          rw [← HW2.out, ← HYy.out]
          go_wp2_with (fail)
          go_quiet (fail)
          go_wp2_with (fail)
          refine (PU.out (World.drewN W2 _) rfl).mono ?_
          rintro e w' ⟨col', m', rfl, hT', hh', hs'⟩
          dsimp only
          go_wp2_with (fail)
          go_end0
          rw [← HP.out, hr.out]
          exact ⟨col', m', rfl, hT', hh', (HST.out.trans (Stp.same ((GrownIn.refl _ _).drewN _))).trans hs'⟩
      · have hr : Hid (PR = push (push s node xs ⟨2, xw, 0, 0, 0, p, q⟩) node p ⟨xk, xw, xs, xq, xn, x1, x2⟩) := by
          unfold Hid
          rw [HP.out]
          unfold process
          rw [← Hav.out, if_neg hat, ← Hbl.out, if_neg hpn, if_pos (by simpa using hxs)]
          rfl
        have PU := Lib.hid (fun (W : World) (hW : W.heap = W2.heap) => push_any W B col2 m s (H2.out.heap hW) (by rw [hW]; exact hB2) node xs hn1000 hs1000 ⟨2, xw, 0, 0, 0, p, q⟩ (by have := Hl.out node xs; omega))
        have PU2 := Lib.hid (fun (W : World) (col' : Nat → Mc) (m' : Hm) (hh : HW W B col' m' (push s node xs ⟨2, xw, 0, 0, 0, p, q⟩)) (hBW : B ≤ W.heap.size) => push_any W B col' m' _ hh hBW node p hn1000 hp1000 ⟨xk, xw, xs, xq, xn, x1, x2⟩ (by have := chan_push_le s node xs ⟨2, xw, 0, 0, 0, p, q⟩ node p; have := Hl.out node p; omega))
        have hx1 : ((xs : Int) != (node : Int)) = true := by simp; omega
        have hx2 : (xs != node) = true := by simp; omega
        clear hxs hpn hat
        go_enter Try.func19, Try.ntmps19
        go_wp2_with (fail)
        rw [← HWw.out, ← HXx.out]
        go_region_held3 (fun w' => w'.cell? ⟨m.T, 2, none⟩ = some (.map (some m.Bl)) ∧ w'.cell? ⟨X, 1, none⟩ = some (.int .i64 xw)) (go_keep) (fail)
        all_goals
          rw [← HW2.out, ← HYy.out]
          go_wp2_with (fail)
          go_quiet (fail)
          go_wp2_with (fail)
          refine (PU.out (World.drewN W2 _) rfl).mono ?_
          rintro e w3 ⟨col3, m3, rfl, hT3, hh3, hs3⟩
          dsimp only
          obtain ⟨bX2, hcX2, bY2, hcY2⟩ := HB2.out
          obtain ⟨bX3, _⟩ := hs3.blk (bX2.drewN _) hcX2
          obtain ⟨bY3, _⟩ := hs3.blk (bY2.drewN _) hcY2
          have hB3 : B ≤ w3.heap.size := Nat.le_trans hB2 hs3.gr.size
          have PP := PU2.out w3 col3 m3 hh3 hB3
          rw [hT3] at PP
          have HPP := Lib.hid PP
          have HF := Lib.hid ((HST.out.trans (Stp.same ((GrownIn.refl _ _).drewN _))).trans hs3)
          clear PP hs3 hh3 bX2 hcX2 bY2 hcY2 hT3 d1 d2 e0 e1 e2 e3 e4 e5 e6 y0 y1 lT2 lX2 lY2 lA2 lk0 lk1 c2 x1' lT lX
          have e0 := bX3.cell 0
          have e1 := bX3.cell 1
          have e2 := bX3.cell 2
          have e3 := bX3.cell 3
          have e4 := bX3.cell 4
          have e5 := bX3.cell 5
          have e6 := bX3.cell 6
          have y0 := bY3.cell 0
          simp only [List.getElem?_cons_succ, List.getElem?_cons_zero] at e0 e1 e2 e3 e4 e5 e6 y0
          have lX3 := bX3.lt
          have lY3 := bY3.lt
          clear bX3 bY3
          go_wp2_with (fail)
          refine HPP.out.mono ?_
          rintro e w4 ⟨col4, m4, rfl, hT4, hh4, hs4⟩
          dsimp only
          go_wp2_with (fail)
          go_end0
          rw [← HP.out, hr.out]
          exact ⟨col4, m4, rfl, hT4, hh4, HF.out.trans hs4⟩
end Go.Proofs.Ytckkelppdeampaa
