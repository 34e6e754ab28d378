/- Contract of package move's do: a letter is put. -/
import Derived.Test.YtckkelppdeampaaHarbDo
set_option linter.unusedVariables false
namespace Go.Proofs.Ytckkelppdeampaa
open Go.RowKit Go.Mem Go.Mv Go.Maps
theorem zero_int : ∀ w : World, (zeroValue 3).run Try.prog w = .ok (.int .i64 0) w := fun _ => by kernel_rfl
theorem look_sent {w : World} {m : Nat} {l : List ((Nat × Nat) × Value)} (h : MapOf encP okP w m l) (a b : Nat) (ha : a < 1000) (hb : b < 1000) (W : World) (hW : W.heap[m]? = w.heap[m]?) :
    (Instr.lookup 45 (.map (some m)) (.agg #[.int .i64 (a : Nat), .int .i64 (b : Nat)]) false).run Try.prog W = .ok ((mget l (a, b)).getD (.int .i64 0)) W := by
  have := (h.same hW).lookup enc_spot Try.underlying45 zero_int (a := (a, b)) ⟨ha, hb⟩ false
  simp only [Bool.false_eq_true, if_false] at this
  exact this
theorem sent_entry {w : World} {m : Nat} {l : List ((Nat × Nat) × Value)} (h : MapOf encP okP w m l) (a x : Nat) (ha : a < 1000) (hx : x < 1000) :
    ∃ (c : Int) (w5 : World), (Instr.mapEntry 45 (.map (some m)) (.agg #[.int .i64 (a : Nat), .int .i64 (x : Nat)])).run Try.prog w = .ok (.tuple #[(mget l (a, x)).getD (.int .i64 0), .int .i64 c]) w5 ∧ w.grownBy w5 (some m) ∧
      (∀ W : World, W.heap[m]? = w5.heap[m]? → (Instr.lookup 45 (.map (some m)) (.agg #[.int .i64 (a : Nat), .int .i64 (x : Nat)]) false).run Try.prog W = .ok ((mget l (a, x)).getD (.int .i64 0)) W) ∧
      ∀ v, ∃ w8, (Instr.entryStore 45 (.map (some m)) (.int .i64 c) v).run Try.prog w5 = .ok () w8 ∧ MapOf encP okP w8 m (mput l (a, x) v) ∧ w5.grownBy w8 (some m) := by
  obtain ⟨c, w5, h1, h2, h3⟩ := h.entry enc_spot Try.underlying45 zero_int (a := (a, x)) ⟨ha, hx⟩
  refine ⟨c, w5, h1, h3, fun W hW => ?_, fun v => ?_⟩
  · have := look_sent h2.map a x ha hx W hW
    rw [mget_put_same] at this
    exact this
  obtain ⟨w8, k1, k2, k3⟩ := h2.store (t := 45) enc_spot v
  rw [mput_put] at k2
  exact ⟨w8, k1, k2, k3⟩
set_option maxRecDepth 100000 in
set_option maxHeartbeats 4000000 in
theorem do_put (w : World) (B : Nat) (col : Nat → Mc) (m : Hm) (s : Hb) (h : HW w B col m s) (hB : B ≤ w.heap.size) {W t : Nat} {S : Nat → Nat → List Nat} (hc : Core s W t S) (ht : t ≤ 400) (hl : lets s ≤ 400) (hn : nots s ≤ 402 * 402) (d : Dv) (hk : d.kind = 1) (hs : 1 ≤ d.src ∧ d.src ≤ s.nodes) (hw : d.who < W) :
    Calls Try.prog 12 #[.pointer (some ⟨m.T, 0, none⟩), .agg #[.int .i64 d.kind, .int .i64 d.src, .int .i64 d.dst, .int .i64 d.who, .int .i64 d.n]] w (HPost w B col m.T (doF s d)) := by
  have hwl : d.who < s.at_.length := by rw [hc.al]; exact hw
  have hF : Hid (doF s d = process { s with sent := upd2 s.sent d.src d.who (s.sent d.src d.who + 1) } d.src ⟨0, d.who, d.src, s.sent d.src d.who, d.n, 0, 0⟩) := by
    unfold Hid doF
    rw [if_pos hk, if_pos ⟨hs, hwl⟩]
  have H0 := h.boxed hB d
  obtain ⟨dk, ds, dd, dw, dn⟩ := d
  simp only at hk hs hw hwl hF H0
  subst hk
  have hput := Lib.hid (hc.put (n := dn) hs hw)
  have hsent := (hc.sent ds dw hs.1 hs.2 hw)
  obtain ⟨w1, hw1⟩ : ∃ w1, w1 = w.alloc (.cells #[.int .i64 1, .int .i64 ds, .int .i64 dd, .int .i64 dw, .int .i64 dn] 35) := ⟨_, rfl⟩
  replace H0 : DoAt w w1 col (recol col w.heap.size .cst) B w.heap.size m s ⟨1, ds, dd, dw, dn⟩ := by rw [hw1]; exact H0
  obtain ⟨D, hD⟩ : ∃ D, D = w.heap.size := ⟨_, rfl⟩
  rw [← hD] at H0
  generalize recol col D .cst = col1 at H0
  obtain ⟨W2, hW2⟩ : ∃ W2, W2 = w1.alloc (.cells #[.int .i64 ds, .int .i64 dw] 54) := ⟨_, rfl⟩
  have bK : Blk W2 w1.heap.size 54 [.int .i64 ds, .int .i64 dw] := by rw [hW2]; exact Blk.new w1 _ _
  have hg2 : GrownIn (fun _ => False) w1 W2 := by rw [hW2]; exact (GrownIn.refl _ _).alloc _
  have H2 := H0.more hg2
  obtain ⟨K, hK⟩ : ∃ K, K = w1.heap.size := ⟨_, rfl⟩
  rw [← hK] at bK
  have cK : recol col1 w1.heap.size .cst K = .cst := recol_new (by omega)
  generalize recol col1 w1.heap.size .cst = col2 at H2 cK
  have t0 := H0.hw.blk.cell 0
  have t1 := H0.hw.blk.cell 1
  have b0 : w1.cell? ⟨D, 0, none⟩ = some (.int .i64 1) := H0.D_.cell 0
  have b1 := H0.D_.cell 1
  have b3 := H0.D_.cell 3
  simp only [List.getElem?_cons_succ, List.getElem?_cons_zero] at t0 t1 b1 b3
  have lD := H0.D_.lt
  have lT := H0.hw.blk.lt
  have n1000 := H2.hw.nd
  have NO := Lib.hid (isNode_any w1 m.T ds s.nodes t0 lT)
  have WH := Lib.hid (isWho_any w1 m.T dw s.at_.length m.cA _ t1 lT)
  have q1 : decide (1 ≤ ds ∧ ds ≤ s.nodes) = true := by simpa using hs
  have q2 : decide (dw < s.at_.length) = true := by simpa using hwl
  rw [q1] at NO
  rw [q2] at WH
  have HW1 := Lib.hid hw1
  have HD := Lib.hid hD
  have HW2 := Lib.hid hW2
  have HK := Lib.hid hK
  have HH := Lib.hid H2
  have HBK := Lib.hid (And.intro bK cK)
  have HC := Lib.hid hc
  clear h hc H0 H2 hw1 hD hW2 hK bK cK hg2 q1 q2
  go_enter Try.func12, Try.ntmps12
  go_wp2_with (fail)
  rw [← HD.out, ← HW1.out]
  refine NO.out.mono ?_
  rintro e w' ⟨rfl, hw'⟩
  rw [hw']
  clear hw' w'
  dsimp only
  go_wp2_with (fail)
  refine WH.out.mono ?_
  rintro e w' ⟨rfl, hw'⟩
  rw [hw']
  clear hw' w'
  dsimp only
  go_wp2_with (fail)
  rw [← HW2.out, ← HK.out]
  clear t0 t1 b0 b1 b3 lD lT NO WH
  have H2 := HH.out
  obtain ⟨bK, cK⟩ := HBK.out
  have es := H2.hw.eS ds dw hs.1 hs.2 hwl
  obtain ⟨sn, hsn⟩ : ∃ sn, sn = s.sent ds dw := ⟨_, rfl⟩
  have hsn4 : sn ≤ 400 := by rw [hsn]; omega
  rw [← hsn] at es
  have e1 := H2.D_.cell 1
  have e3 := H2.D_.cell 3
  have e4 := H2.D_.cell 4
  have t3 := H2.hw.blk.cell 3
  have z0 := bK.cell 0
  have z1 := bK.cell 1
  simp only [List.getElem?_cons_succ, List.getElem?_cons_zero] at e1 e3 e4 t3 z0 z1
  have lD := H2.D_.lt
  have lT := H2.hw.blk.lt
  have lK := bK.lt
  have lS := H2.hw.hS.lt
  have a1 : ds < 1000 := by omega
  have a2 : dw < 1000 := by omega
  have lk0 := look_sent H2.hw.hS ds dw a1 a2 W2.drew rfl
  have lk1 := look_sent H2.hw.hS ds dw a1 a2 ((W2.alloc (.cells #[.int .i64 0, .int .i64 0, .int .i64 0, .int .i64 0, .int .i64 0, .int .i64 0, .int .i64 0] 68)).drew) (Below.heap_alloc W2 _ _ lS)
  rw [es] at lk0 lk1
  obtain ⟨W4, hW4⟩ : ∃ W4, W4 = (W2.alloc (.cells #[.int .i64 0, .int .i64 dw, .int .i64 ds, .int .i64 sn, .int .i64 dn, .int .i64 0, .int .i64 0] 68)).drew := ⟨_, rfl⟩
  have bY : Blk W4 W2.heap.size 68 [.int .i64 0, .int .i64 dw, .int .i64 ds, .int .i64 sn, .int .i64 dn, .int .i64 0, .int .i64 0] := by rw [hW4]; exact (Blk.new W2 _ [.int .i64 0, .int .i64 dw, .int .i64 ds, .int .i64 sn, .int .i64 dn, .int .i64 0, .int .i64 0]).drew
  have hg4 : GrownIn (fun _ => False) W2 W4 := by rw [hW4]; exact ((GrownIn.refl _ _).alloc _).drew
  have st4 := Stp.grow (col := col2) .cst hg4 fun _ _ e => e.elim
  have H4 := H2.more hg4
  obtain ⟨bK4, cK4⟩ := st4.blk bK cK
  obtain ⟨Y, hY⟩ : ∃ Y, Y = W2.heap.size := ⟨_, rfl⟩
  have cY : recol col2 W2.heap.size .cst Y = .cst := recol_new (by omega)
  rw [← hY] at bY
  generalize recol col2 W2.heap.size .cst = col4 at H4 cK4 cY
  have HW4 := Lib.hid hW4
  have HY := Lib.hid hY
  have HH4 := Lib.hid (And.intro H4 (And.intro bK4 (And.intro cK4 (And.intro bY cY))))
  have Hes := Lib.hid es
  have Hsn := Lib.hid hsn
  clear H2 bK cK es hsn hW4 bY hg4 st4 H4 bK4 cK4 hY cY hsent
  go_region_held3 (fun w' => w'.cell? ⟨m.T, 3, none⟩ = some (.map (some m.Sn)) ∧ w'.cell? ⟨K, 0, none⟩ = some (.int .i64 ds) ∧ w'.cell? ⟨K, 1, none⟩ = some (.int .i64 dw) ∧ w'.cell? ⟨D, 1, none⟩ = some (.int .i64 ds) ∧ w'.cell? ⟨D, 3, none⟩ = some (.int .i64 dw) ∧ w'.cell? ⟨D, 4, none⟩ = some (.int .i64 dn)) (go_keep) (fail)
  all_goals
    rw [← HW4.out, ← HY.out]
    clear e1 e3 e4 t3 z0 z1 lD lT lK lS lk0 lk1
    obtain ⟨H4, bK4, cK4, bY4, cY4⟩ := HH4.out
    have t3 := H4.hw.blk.cell 3
    have z0 := bK4.cell 0
    have z1 := bK4.cell 1
    simp only [List.getElem?_cons_succ, List.getElem?_cons_zero] at t3 z0 z1
    have lT := H4.hw.blk.lt
    have lK := bK4.lt
    have lD := H4.D_.lt
    have lY := bY4.lt
    obtain ⟨ce, w5, hme, hg5, hlk5, hes⟩ := sent_entry (H4.hw.hS.same (w' := W4.drew) rfl) ds dw a1 a2
    rw [Hes.out] at hme hlk5
    have lk5 := hlk5 w5 rfl
    have lk0 := look_sent H4.hw.hS ds dw a1 a2 W4.drew rfl
    rw [Hes.out] at lk0
    obtain ⟨w8, hst8, hm8, hg8⟩ := hes (.int .i64 ((sn : Int) + 1))
    have hg5' : W4.grownBy w5 (some m.Sn) := ⟨hg5.os, hg5.tape, hg5.output, hg5.size, hg5.block⟩
    have nT : m.T ≠ m.Sn := fun e => by have := H4.hw.cT; rw [e, H4.hw.cS] at this; cases this
    have nD : D ≠ m.Sn := fun e => by have := H4.cD; rw [e, H4.hw.cS] at this; cases this
    have nK : K ≠ m.Sn := fun e => by have := cK4; rw [e, H4.hw.cS] at this; cases this
    have nY : Y ≠ m.Sn := fun e => by have := cY4; rw [e, H4.hw.cS] at this; cases this
    have kT5 := hg5'.block m.T lT (fun e => nT (by injection e))
    have kK5 := hg5'.block K lK (fun e => nK (by injection e))
    have kD5 := hg5'.block D lD (fun e => nD (by injection e))
    have kY5 := hg5'.block Y lY (fun e => nY (by injection e))
    have kT8 := (hg8.block m.T (Nat.lt_of_lt_of_le lT hg5'.size) (fun e => nT (by injection e))).trans kT5
    have kK8 := (hg8.block K (Nat.lt_of_lt_of_le lK hg5'.size) (fun e => nK (by injection e))).trans kK5
    have kD8 := (hg8.block D (Nat.lt_of_lt_of_le lD hg5'.size) (fun e => nD (by injection e))).trans kD5
    have kY8 := (hg8.block Y (Nat.lt_of_lt_of_le lY hg5'.size) (fun e => nY (by injection e))).trans kY5
    have f5 := Lib.hid (And.intro (cell_same kT5 t3) (And.intro (cell_same kK5 z0) (cell_same kK5 z1)))
    have f8 := Lib.hid (And.intro (cell_same kT8 t3) (And.intro (cell_same kK8 z0) (cell_same kK8 z1)))
    have hin : GrownIn (fun b => b = m.Sn) W4 w8 := (GrownIn.of_grown (own := fun b => b = m.Sn) hg5' fun b hb => by injection hb with hb; exact hb.symm).trans (own' := fun b => b = m.Sn) (GrownIn.of_grown hg8 fun b hb => by injection hb with hb; exact hb.symm) fun b e => .inl e
    have h8 := H4.hw.sends H4.Bs (a := ds) (x := dw) (n := sn + 1) hin hm8
    have st8 : Stp w w8 col (recol col4 W4.heap.size .cst) := H4.st.trans (Stp.grow _ hin fun b _ e => by unfold Own; rw [e, H4.hw.cS]; simp)
    have PC := Lib.hid (process_c w8 B _ _ _ h8 (Nat.le_trans H4.Bs hin.size) (by rw [Hsn.out]; exact hput.out) (by omega) (show lets s ≤ 401 by omega) (show nots s ≤ 402 * 402 by omega) ds hs ⟨0, dw, ds, sn, dn, 0, 0⟩ ⟨by simp, hw, fun _ => ⟨hs, by
      dsimp only
      rw [upd2_same, Hsn.out, (HC.out.sent ds dw hs.1 hs.2 hw).1]
      simp⟩, fun e => absurd rfl e⟩ rfl)
    have ST := Lib.hid st8
    have bD8 := Lib.hid (kD8.trans H4.D_)
    have bY8 := Lib.hid (kY8.trans bY4)
    have d1 := (show Blk w8 D _ _ from kD8.trans H4.D_).cell 1
    have y0 : w8.cell? ⟨Y, 0, none⟩ = _ := (show Blk w8 Y _ _ from kY8.trans bY4).cell 0
    have y1 := (show Blk w8 Y _ _ from kY8.trans bY4).cell 1
    have y2 := (show Blk w8 Y _ _ from kY8.trans bY4).cell 2
    have y3 := (show Blk w8 Y _ _ from kY8.trans bY4).cell 3
    have y4 := (show Blk w8 Y _ _ from kY8.trans bY4).cell 4
    have y5 := (show Blk w8 Y _ _ from kY8.trans bY4).cell 5
    have y6 := (show Blk w8 Y _ _ from kY8.trans bY4).cell 6
    simp only [List.getElem?_cons_succ, List.getElem?_cons_zero] at d1 y0 y1 y2 y3 y4 y5 y6
    have lD8 := (show Blk w8 D _ _ from kD8.trans H4.D_).lt
    have lY8 := (show Blk w8 Y _ _ from kY8.trans bY4).lt
    have sw : IntKind.i64.wrap ((sn : Int) + 1) = (sn : Int) + 1 := IntWalk.i64_in _ (by omega)
    clear H4 bK4 cK4 bY4 cY4 hlk5 hes hm8 hg8 hg5 hg5' nT nD nK nY kT5 kK5 kD5 kY5 kT8 kK8 kD8 kY8 hin h8 st8
    go_wp2_with (fail)
    go_region_held3 (fun w' => w'.cell? ⟨m.T, 3, none⟩ = some (.map (some m.Sn)) ∧ w'.cell? ⟨K, 0, none⟩ = some (.int .i64 ds) ∧ w'.cell? ⟨K, 1, none⟩ = some (.int .i64 dw))
      (first | exact f8.out | exact f5.out | go_keep) (fail)
    all_goals
      clear t3 z0 z1 lT lK lD lY lk0 lk5 hme hst8 sw f5 f8
      go_wp2_with (fail)
      refine PC.out.mono ?_
      rintro e w' ⟨col', m', rfl, hT', hh', hs'⟩
      dsimp only
      go_wp2_with (fail)
      go_end0
      rw [hF.out, ← Hsn.out]
      exact ⟨col', m', rfl, hT', hh', ST.out.trans hs'⟩
end Go.Proofs.Ytckkelppdeampaa
