/- Contract of package move's do: an actor moves. -/
import Derived.Test.YtckkelppdeampaaHarbDo
set_option linter.unusedVariables false
namespace Go.Proofs.Ytckkelppdeampaa
open Go.RowKit Go.Mem Go.Mv Go.Maps
theorem put_bel {w : World} {m : Nat} {l : List ((Nat × Nat) × Value)} (h : MapOf encP okP w m l) (a b : Nat) (ha : a < 1000) (hb : b < 1000) (v : Value) :
    ∃ w', (Instr.mapUpdate 44 (.map (some m)) (.agg #[.int .i64 (a : Nat), .int .i64 (b : Nat)]) v).run Try.prog w = .ok () w' ∧ MapOf encP okP w' m (mput l (a, b) v) ∧ w.grownBy w' (some m) :=
  h.update enc_spot Try.underlying44 (a := (a, b)) ⟨ha, hb⟩ v
set_option maxRecDepth 100000 in
set_option maxHeartbeats 4000000 in
theorem do_shift (w : World) (B : Nat) (col : Nat → Mc) (m : Hm) (s : Hb) (h : HW w B col m s) (hB : B ≤ w.heap.size) {W t : Nat} {S : Nat → Nat → List Nat} (hc : Core s W t S) (ht : t ≤ 400) (hch : ∀ a b, (chan s.ways a b).length ≤ 900000) (d : Dv) (hk : d.kind = 2) (hd : 1 ≤ d.dst ∧ d.dst ≤ s.nodes) (hw : d.who < W) :
    Calls Try.prog 12 #[.pointer (some ⟨m.T, 0, none⟩), .agg #[.int .i64 d.kind, .int .i64 d.src, .int .i64 d.dst, .int .i64 d.who, .int .i64 d.n]] w (HPost w B col m.T (doF s d)) := by
  have hwl : d.who < s.at_.length := by rw [hc.al]; exact hw
  obtain ⟨kk, hkk⟩ : ∃ kk, kk = s.at_.getD d.who 0 := ⟨_, rfl⟩
  have hkn : kk ≤ s.nodes := by rw [hkk]; exact hc.ao d.who _ (getD_at hwl)
  have hF0 : Hid (kk = 0 ∨ kk = d.dst → doF s d = s) := by
    intro e
    unfold doF
    rw [if_neg (by omega), if_pos hk, ← hkk, if_neg (by rintro ⟨_, _, h3, h4⟩; rcases e with e | e <;> contradiction)]
  have hF1 : Hid (kk ≠ 0 → kk ≠ d.dst → doF s d = push { s with bel := upd2 s.bel kk d.who (d.dst, (s.bel kk d.who).2 + 1), at_ := s.at_.set d.who 0 } kk d.dst ⟨1, d.who, 0, 0, 0, d.dst, (s.bel kk d.who).2 + 1⟩) := by
    intro e1 e2
    unfold doF
    rw [if_neg (by omega), if_pos hk, ← hkk, if_pos ⟨hd, hwl, e1, e2⟩]
  have H0 := h.boxed hB d
  obtain ⟨dk, ds, dd, dw, dn⟩ := d
  simp only at hk hd hw hwl hF0 hF1 hkk H0
  subst hk
  obtain ⟨w1, hw1⟩ : ∃ w1, w1 = w.alloc (.cells #[.int .i64 2, .int .i64 ds, .int .i64 dd, .int .i64 dw, .int .i64 dn] 35) := ⟨_, rfl⟩
  replace H0 : DoAt w w1 col (recol col w.heap.size .cst) B w.heap.size m s ⟨2, ds, dd, dw, dn⟩ := by rw [hw1]; exact H0
  obtain ⟨D, hD⟩ : ∃ D, D = w.heap.size := ⟨_, rfl⟩
  rw [← hD] at H0
  generalize recol col D .cst = col1 at H0
  have t0 := H0.hw.blk.cell 0
  have t1 := H0.hw.blk.cell 1
  have b0 : w1.cell? ⟨D, 0, none⟩ = some (.int .i64 2) := H0.D_.cell 0
  have b2 := H0.D_.cell 2
  have b3 := H0.D_.cell 3
  have c1 := H0.hw.at_cell hwl
  rw [← hkk] at c1
  simp only [List.getElem?_cons_succ, List.getElem?_cons_zero] at t0 t1 b2 b3
  have lD := H0.D_.lt
  have lT := H0.hw.blk.lt
  have lA := H0.hw.hA.lt
  have n1000 := H0.hw.nd
  have q1 : decide (1 ≤ dd ∧ dd ≤ s.nodes) = true := by simpa using hd
  have q2 : decide (dw < s.at_.length) = true := by simpa using hwl
  have NO := Lib.hid (fun (Wd : World) (hW : Wd.heap = w1.heap) => isNode_any Wd m.T dd s.nodes ((World.cell?_of_block (w := w1) (by rw [hW])).trans t0) (by rw [hW]; exact lT))
  have WH := Lib.hid (fun (Wd : World) (hW : Wd.heap = w1.heap) => isWho_any Wd m.T dw s.at_.length m.cA _ ((World.cell?_of_block (w := w1) (by rw [hW])).trans t1) (by rw [hW]; exact lT))
  rw [q1] at NO
  rw [q2] at WH
  have i0 : (0 : Int) ≤ (dw : Int) := by omega
  have i1 : (dw : Int) < (s.at_.length : Int) := by omega
  have HW1 := Lib.hid hw1
  have HD := Lib.hid hD
  have HH := Lib.hid H0
  have HC := Lib.hid hc
  have Hkk := Lib.hid hkk
  clear h hc H0 hw1 hD q1 q2 t0 hkk
  by_cases h0 : kk = 0
  · have hF := Lib.hid (hF0.out (.inl h0))
    have g0 : ((kk : Int) != 0) = false := by simp; omega
    have g0' : (kk != 0) = false := by simp; omega
    clear hF0 hF1 h0
    go_enter Try.func12, Try.ntmps12
    go_wp2_with (fail)
    rw [← HD.out, ← HW1.out]
    go_quiet (first | (go_at_call 17; exact Calls.quiet_of_same (NO.out _ rfl)) | (go_at_call 18; exact Calls.quiet_of_same (WH.out _ rfl)))
    go_wp2_with (fail)
    go_end0
    rw [hF.out]
    exact ⟨col1, m, rfl, rfl, HH.out.hw.heap rfl, HH.out.st.trans (Stp.same ((GrownIn.refl _ _).drewN _))⟩
  · have g0 : ((kk : Int) != 0) = true := by simp; omega
    have g0' : (kk != 0) = true := by simp; omega
    by_cases h1 : kk = dd
    · have hF := Lib.hid (hF0.out (.inr h1))
      have g1 : ((kk : Int) != (dd : Int)) = false := by simp; omega
      have g1' : (kk != dd) = false := by simp; omega
      clear hF0 hF1 h0 h1
      go_enter Try.func12, Try.ntmps12
      go_wp2_with (fail)
      rw [← HD.out, ← HW1.out]
      go_quiet (first | (go_at_call 17; exact Calls.quiet_of_same (NO.out _ rfl)) | (go_at_call 18; exact Calls.quiet_of_same (WH.out _ rfl)))
      go_wp2_with (fail)
      go_end0
      rw [hF.out]
      exact ⟨col1, m, rfl, rfl, HH.out.hw.heap rfl, HH.out.st.trans (Stp.same ((GrownIn.refl _ _).drewN _))⟩
    · have hF := Lib.hid (hF1.out h0 h1)
      have g1 : ((kk : Int) != (dd : Int)) = true := by simp; omega
      have g1' : (kk != dd) = true := by simp; omega
      have k1 : 1 ≤ kk := by omega
      obtain ⟨bl, mm, hbl⟩ : ∃ bl mm, s.bel kk dw = (bl, mm) := ⟨_, _, rfl⟩
      have hmm : mm ≤ 400 := by have := (HC.out.bel kk dw k1 hkn hw).2; rw [hbl] at this; simp only at this; omega
      have hF2 := hF.out
      rw [hbl] at hF2
      simp only at hF2
      have HF := Lib.hid hF2
      clear hF0 hF1 h0 h1 hF hF2
      go_enter Try.func12, Try.ntmps12
      go_wp2_with (fail)
      rw [← HD.out, ← HW1.out]
      go_quiet (first | (go_at_call 17; exact Calls.quiet_of_same (NO.out _ rfl)) | (go_at_call 18; exact Calls.quiet_of_same (WH.out _ rfl)))
      go_wp2_with (fail)
      generalize hW2 : World.drewN w1 _ = W2
      have hh : W2.heap = w1.heap := by rw [← hW2]; rfl
      have H2 := HH.out.same (w2 := W2) (by rw [← hW2]; exact (GrownIn.refl _ _).drewN _) hh
      clear hW2 hh t1 b0 b2 b3 c1 lD lT lA NO WH
      obtain ⟨W3, hW3⟩ : ∃ W3, W3 = (W2.alloc (.cells #[.int .i64 kk, .int .i64 dw] 54)).drew := ⟨_, rfl⟩
      have bK : Blk W3 W2.heap.size 54 [.int .i64 kk, .int .i64 dw] := by rw [hW3]; exact (Blk.new W2 _ [.int .i64 kk, .int .i64 dw]).drew
      have hg3 : GrownIn (fun _ => False) W2 W3 := by rw [hW3]; exact ((GrownIn.refl _ _).alloc _).drew
      have H3 := H2.more hg3
      obtain ⟨K, hK⟩ : ∃ K, K = W2.heap.size := ⟨_, rfl⟩
      have cK : recol col1 W2.heap.size .cst K = .cst := recol_new (by omega)
      rw [← hK] at bK
      generalize recol col1 W2.heap.size .cst = col3 at H3 cK
      have t1 := H2.hw.blk.cell 1
      have b3 := H2.D_.cell 3
      have c1 := H2.hw.at_cell hwl
      rw [← Hkk.out] at c1
      simp only [List.getElem?_cons_succ, List.getElem?_cons_zero] at t1 b3
      have lD := H2.D_.lt
      have lT := H2.hw.blk.lt
      have lA := H2.hw.hA.lt
      have HW3 := Lib.hid hW3
      have HK := Lib.hid hK
      have HH3 := Lib.hid (And.intro H3 (And.intro bK cK))
      clear H2 hW3 hK H3 bK cK hg3
      go_region_held3 (fun w' => w'.cell? ⟨m.T, 1, none⟩ = some (.slice (some ⟨m.AT, 0, none⟩) s.at_.length m.cA) ∧ w'.cell? ⟨m.AT, dw, none⟩ = some (.int .i64 kk) ∧ w'.cell? ⟨D, 3, none⟩ = some (.int .i64 dw)) (go_keep) (fail)
      all_goals
        rw [← HW3.out, ← HK.out]
        clear t1 b3 c1 lD lT lA
        obtain ⟨H3, bK, cK⟩ := HH3.out
        obtain ⟨W4, hW4⟩ : ∃ W4, W4 = (W3.alloc (.cells #[.int .i64 dd, .int .i64 ((mm : Int) + 1)] 66)).drew := ⟨_, rfl⟩
        have bP : Blk W4 W3.heap.size 66 [.int .i64 dd, .int .i64 ((mm : Int) + 1)] := by rw [hW4]; exact (Blk.new W3 _ [.int .i64 dd, .int .i64 ((mm : Int) + 1)]).drew
        have hg4 : GrownIn (fun _ => False) W3 W4 := by rw [hW4]; exact ((GrownIn.refl _ _).alloc _).drew
        have st4 := Stp.grow (col := col3) .cst hg4 fun _ _ e => e.elim
        have H4 := H3.more hg4
        obtain ⟨bK4, cK4⟩ := st4.blk bK cK
        obtain ⟨Y, hY⟩ : ∃ Y, Y = W3.heap.size := ⟨_, rfl⟩
        have cY : recol col3 W3.heap.size .cst Y = .cst := recol_new (by omega)
        rw [← hY] at bP
        generalize recol col3 W3.heap.size .cst = col4 at H4 cK4 cY
        have t2 := H3.hw.blk.cell 2
        have e2 := H3.D_.cell 2
        have z0 := bK.cell 0
        have z1 := bK.cell 1
        simp only [List.getElem?_cons_succ, List.getElem?_cons_zero] at t2 e2 z0 z1
        have lT := H3.hw.blk.lt
        have lD := H3.D_.lt
        have lK := bK.lt
        have lk0 := H3.hw.look_bel ⟨k1, hkn⟩ hwl W3.drew rfl
        have lk1 := H3.hw.look_bel ⟨k1, hkn⟩ hwl ((W3.alloc (.cells #[.int .i64 0, .int .i64 0] 66)).drew) (Below.heap_alloc W3 _ _ H3.hw.hB.lt)
        rw [hbl] at lk0 lk1
        simp only at lk0 lk1
        have fl := fun (a b : Value) (W : World) => fldb a b W
        have sw : IntKind.i64.wrap ((mm : Int) + 1) = (mm : Int) + 1 := IntWalk.i64_in _ (by omega)
        have HW4 := Lib.hid hW4
        have HY := Lib.hid hY
        have HH4 := Lib.hid (And.intro H4 (And.intro bK4 (And.intro cK4 (And.intro bP cY))))
        clear H3 bK cK hW4 bP hg4 st4 H4 bK4 cK4 hY cY
        go_wp2_with (fail)
        go_region_held3 (fun w' => w'.cell? ⟨m.T, 2, none⟩ = some (.map (some m.Bl)) ∧ w'.cell? ⟨K, 0, none⟩ = some (.int .i64 kk) ∧ w'.cell? ⟨K, 1, none⟩ = some (.int .i64 dw) ∧ w'.cell? ⟨D, 2, none⟩ = some (.int .i64 dd)) (go_keep) (fail)
        all_goals
          rw [← HW4.out, ← HY.out]
          clear t2 e2 z0 z1 lT lD lK lk0 lk1
          obtain ⟨H4, bK4, cK4, bY4, cY4⟩ := HH4.out
          obtain ⟨w5, hup, hm5, hg5⟩ := put_bel (H4.hw.hB.same (w' := W4.drew) rfl) kk dw (by omega) (by omega) (.agg #[.int .i64 dd, .int .i64 ((mm : Int) + 1)])
          have hg5' : W4.grownBy w5 (some m.Bl) := ⟨hg5.os, hg5.tape, hg5.output, hg5.size, hg5.block⟩
          have nT : m.T ≠ m.Bl := fun e => by have := H4.hw.cT; rw [e, H4.hw.cB] at this; cases this
          have nD : D ≠ m.Bl := fun e => by have := H4.cD; rw [e, H4.hw.cB] at this; cases this
          have nK : K ≠ m.Bl := fun e => by have := cK4; rw [e, H4.hw.cB] at this; cases this
          have nY : Y ≠ m.Bl := fun e => by have := cY4; rw [e, H4.hw.cB] at this; cases this
          have t2 := H4.hw.blk.cell 2
          have z0 := bK4.cell 0
          have z1 := bK4.cell 1
          have y0 := bY4.cell 0
          have y1 := bY4.cell 1
          simp only [List.getElem?_cons_succ, List.getElem?_cons_zero] at t2 z0 z1 y0 y1
          have lT := H4.hw.blk.lt
          have lD := H4.D_.lt
          have lK := bK4.lt
          have lY := bY4.lt
          have hin5 : GrownIn (fun b => b = m.Bl) W4 w5 := GrownIn.of_grown (own := fun b => b = m.Bl) hg5' fun b hb => by injection hb with hb; exact hb.symm
          have H5 := H4.hw.belief H4.Bs (a := kk) (x := dw) (v := (dd, mm + 1)) hin5 hm5
          have hB5 : B ≤ w5.heap.size := Nat.le_trans H4.Bs hin5.size
          have st5 : Stp W4 w5 col4 (recol col4 W4.heap.size .cst) := Stp.grow _ hin5 fun b _ e => by unfold Own; rw [e, H4.hw.cB]; simp
          have bD5 : Blk w5 D _ _ := (hg5'.block D lD (fun e => nD (by injection e))).trans H4.D_
          have bK5 : Blk w5 K _ _ := (hg5'.block K lK (fun e => nK (by injection e))).trans bK4
          have bY5 : Blk w5 Y _ _ := (hg5'.block Y lY (fun e => nY (by injection e))).trans bY4
          have cD5 : recol col4 W4.heap.size .cst D = .cst := by rw [recol_old lD]; exact H4.cD
          have cK5 : recol col4 W4.heap.size .cst K = .cst := by rw [recol_old lK]; exact cK4
          have cY5 : recol col4 W4.heap.size .cst Y = .cst := by rw [recol_old lY]; exact cY4
          have st45 := H4.st.trans st5
          generalize recol col4 W4.heap.size .cst = col5 at H5 st5 cD5 cK5 cY5 st45
          have a1 := H5.blk.cell 1
          have aD := bD5.cell 3
          have aF := H5.hA.frozen dw
          have aC := H5.at_cell (x := dw) hwl
          dsimp only at aC
          rw [← Hkk.out] at aC
          simp only [List.getElem?_cons_succ, List.getElem?_cons_zero] at a1 aD
          have l5T := H5.blk.lt
          have l5D := bD5.lt
          have l5A := H5.hA.lt
          have l5K := bK5.lt
          have l5Y := bY5.lt
          obtain ⟨w6, hw6⟩ : ∃ w6, w6 = (w5.setCell ⟨m.AT, dw, none⟩ (.int .i64 0)).drew := ⟨_, rfl⟩
          have hin6 : GrownIn (fun b => b = m.AT) w5 w6 := by rw [hw6]; exact ((GrownIn.refl (fun b => b = m.AT) w5).set (p := ⟨m.AT, dw, none⟩) rfl _).drew
          have hm6 : Blk w6 m.AT 3 (m.curA.set dw (.int .i64 ((0 : Nat) : Int))) := by rw [hw6]; exact (H5.hA.put dw _).drew
          have H6 := H5.place hB5 (i := dw) (n := 0) hwl hin6 hm6
          have cA5 := H5.cA
          have kb : ∀ b, col5 b = .cst → b < w5.heap.size → w6.heap[b]? = w5.heap[b]? := fun b hb hlb => hin6.block b hlb (fun e => by rw [e] at hb; have := cA5.symm.trans hb; cases this)
          have nDA : D ≠ m.AT := fun e => by rw [e] at cD5; have := cA5.symm.trans cD5; cases this
          have nKA : K ≠ m.AT := fun e => by rw [e] at cK5; have := cA5.symm.trans cK5; cases this
          have nYA : Y ≠ m.AT := fun e => by rw [e] at cY5; have := cA5.symm.trans cY5; cases this
          have nDA' := Ne.symm nDA
          have nKA' := Ne.symm nKA
          have nYA' := Ne.symm nYA
          have x2 := bD5.cell 2
          have k0 := bK5.cell 0
          have v0 := bY5.cell 0
          have v1 := bY5.cell 1
          simp only [List.getElem?_cons_succ, List.getElem?_cons_zero] at x2 k0 v0 v1
          have st6 := st45.trans (Stp.grow .cst hin6 fun b _ e => by unfold Own; rw [e, cA5]; simp)
          have PU := Lib.hid (push_any w6 B _ _ _ H6 (Nat.le_trans hB5 hin6.size) kk dd (by omega) (by omega) ⟨1, dw, 0, 0, 0, dd, mm + 1⟩ (by have := hch kk dd; exact Nat.le_trans this (by omega)))
          have ST := Lib.hid st6
          have HW6 := Lib.hid hw6
          clear H4 bK4 cK4 bY4 cY4 hm5 hg5 hg5' nT nD nK nY hin5 H5 st5 bD5 bK5 bY5 cD5 cK5 cY5 st45 hw6 hin6 hm6 H6 cA5 kb st6
          go_wp2_with (fail)
          go_still_tail 6, (by kernel_rfl)
          change wpList _ _ _ _ _ (World.drew W4)
          go_wp2_with (fail)
          go_still_tail 7, (by kernel_rfl)
          change wpList _ _ _ _ _ (World.drew w5)
          go_wp2_with (fail)
          rw [← HW6.out]
          refine PU.out.mono ?_
          rintro e w' ⟨col', m', rfl, hT', hh', hs'⟩
          dsimp only
          go_wp2_with (fail)
          go_end0
          rw [HF.out]
          exact ⟨col', m', rfl, hT', hh', ST.out.trans hs'⟩
end Go.Proofs.Ytckkelppdeampaa
