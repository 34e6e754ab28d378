/- Contract of package move's do. -/
import Derived.Test.YtckkelppdeampaaHarbCome
set_option linter.unusedVariables false
namespace Go.Mv
open Go.Mem
theorem pop_ok {s : Hb} {W t : Nat} {S : Nat → Nat → List Nat} (h : Core s W t S) {a b : Nat} (ha : 1 ≤ a ∧ a ≤ s.nodes) (hb : 1 ≤ b ∧ b ≤ s.nodes) {x : El} {r : List El} (hx : chan s.ways a b = x :: r) :
    Core { s with ways := mput s.ways (a, b) r } W t S ∧ ElOk s.nodes W t S x ∧ lets { s with ways := mput s.ways (a, b) r } ≤ lets s ∧ nots { s with ways := mput s.ways (a, b) r } ≤ nots s := by
  have hc := h.chan a b
  rw [hx] at hc
  have h2 := h.setWay (a := a) (b := b) (l := r) ha hb fun y hy => hc y (by simp [hy])
  have w1 := wsum_put (fun l => l.countP isL) rfl s.ways a b r h.wk
  have w2 := wsum_put (fun l => l.countP fun x => !isL x) rfl s.ways a b r h.wk
  rw [hx] at w1 w2
  simp only [List.countP_cons] at w1 w2
  have e1 : lets { s with ways := mput s.ways (a, b) r } = wsum (fun l => l.countP isL) (mput s.ways (a, b) r) + (s.wait.map List.length).sum := rfl
  have e2 : nots { s with ways := mput s.ways (a, b) r } = wsum (fun l => l.countP fun x => !isL x) (mput s.ways (a, b) r) := rfl
  have e3 : lets s = wsum (fun l => l.countP isL) s.ways + (s.wait.map List.length).sum := rfl
  have e4 : nots s = wsum (fun l => l.countP fun x => !isL x) s.ways := rfl
  exact ⟨h2, hc x (by simp), by omega, by omega⟩
end Go.Mv
namespace Go.Proofs.Ytckkelppdeampaa
open Go.RowKit Go.Mem Go.Mv Go.Maps
set_option maxRecDepth 100000 in
set_option maxHeartbeats 2000000 in
theorem isNode_any (w : World) (T n nodes : Nat) (hc : w.cell? ⟨T, 0, none⟩ = some (.int .i64 (nodes : Nat))) (lT : T < w.heap.size) :
    Calls Try.prog 17 #[.pointer (some ⟨T, 0, none⟩), .int .i64 (n : Nat)] w fun e w' => e = .returned (.bool (decide (1 ≤ n ∧ n ≤ nodes))) ∧ w' = w := by
  by_cases h1 : 1 ≤ n
  · have hd : decide ((n : Int) ≥ 1) = true := by simp; omega
    have hd2 : decide ((1 : Int) ≤ (n : Int)) = true := by simp; omega
    have hr : decide ((n : Int) ≤ (nodes : Int)) = decide (1 ≤ n ∧ n ≤ nodes) := by rw [decide_eq_decide]; omega
    go_enter Try.func17, Try.ntmps17
    go_wp2_with (fail)
    go_ret
    have : decide (n ≤ nodes) = decide (1 ≤ n ∧ n ≤ nodes) := by rw [decide_eq_decide]; omega
    rw [this]
    exact ⟨rfl, rfl⟩
  · have hd : decide ((n : Int) ≥ 1) = false := by simp; omega
    have hd2 : decide ((1 : Int) ≤ (n : Int)) = false := by simp; omega
    have hr : decide (1 ≤ n ∧ n ≤ nodes) = false := by simp; omega
    rw [hr]
    go_enter Try.func17, Try.ntmps17
    go_wp2_with (fail)
    go_ret
    exact ⟨rfl, rfl⟩
set_option maxRecDepth 100000 in
set_option maxHeartbeats 2000000 in
theorem isWho_any (w : World) (T n L c : Nat) (A : Option Addr) (hc : w.cell? ⟨T, 1, none⟩ = some (.slice A L c)) (lT : T < w.heap.size) :
    Calls Try.prog 18 #[.pointer (some ⟨T, 0, none⟩), .int .i64 (n : Nat)] w fun e w' => e = .returned (.bool (decide (n < L))) ∧ w' = w := by
  have hd : decide ((n : Int) ≥ 0) = true := by simp
  have hd2 : decide ((0 : Int) ≤ (n : Int)) = true := by simp
  have hr : decide ((n : Int) < (L : Int)) = decide (n < L) := by rw [decide_eq_decide]; omega
  go_enter Try.func18, Try.ntmps18
  go_wp2_with (fail)
  go_ret
  exact ⟨rfl, rfl⟩
/-- at the start of do: the deed is boxed -/
structure DoAt (w w1 : World) (col col1 : Nat → Mc) (B D : Nat) (m : Hm) (s : Hb) (d : Dv) : Prop where
  hw : HW w1 B col1 m s
  st : Stp w w1 col col1
  D_ : Blk w1 D 35 [.int .i64 d.kind, .int .i64 d.src, .int .i64 d.dst, .int .i64 d.who, .int .i64 d.n]
  cD : col1 D = .cst
  Bs : B ≤ w1.heap.size
theorem HW.boxed {w : World} {B : Nat} {col : Nat → Mc} {m : Hm} {s : Hb} (h : HW w B col m s) (hB : B ≤ w.heap.size) (d : Dv) :
    DoAt w (w.alloc (.cells #[.int .i64 d.kind, .int .i64 d.src, .int .i64 d.dst, .int .i64 d.who, .int .i64 d.n] 35)) col (recol col w.heap.size .cst) B w.heap.size m s d := by
  have hg1 : GrownIn (fun _ => False) w (w.alloc (.cells #[.int .i64 d.kind, .int .i64 d.src, .int .i64 d.dst, .int .i64 d.who, .int .i64 d.n] 35)) := (GrownIn.refl _ _).alloc _
  exact ⟨h.grow hB hg1, Stp.grow .cst hg1 fun _ _ e => e.elim, Blk.new w _ [.int .i64 d.kind, .int .i64 d.src, .int .i64 d.dst, .int .i64 d.who, .int .i64 d.n], recol_new (by omega), Nat.le_trans hB hg1.size⟩
/-- a block of a fixed value is made -/
theorem DoAt.more {w w1 : World} {col col1 : Nat → Mc} {B D : Nat} {m : Hm} {s : Hb} {d : Dv} (h : DoAt w w1 col col1 B D m s d) {w2 : World} (hg : GrownIn (fun _ => False) w1 w2) : DoAt w w2 col (recol col1 w1.heap.size .cst) B D m s d := by
  have st := Stp.grow (col := col1) .cst hg fun _ _ e => e.elim
  obtain ⟨b, c⟩ := st.blk h.D_ h.cD
  exact ⟨h.hw.grow h.Bs hg, h.st.trans st, b, c, Nat.le_trans h.Bs hg.size⟩
theorem DoAt.same {w w1 : World} {col col1 : Nat → Mc} {B D : Nat} {m : Hm} {s : Hb} {d : Dv} (h : DoAt w w1 col col1 B D m s d) {w2 : World} (hg : GrownIn (fun _ => False) w1 w2) (e : w2.heap = w1.heap) : DoAt w w2 col col1 B D m s d :=
  ⟨h.hw.heap e, h.st.trans (Stp.same hg), h.D_.of_heap e, h.cD, by rw [e]; exact h.Bs⟩

set_option maxRecDepth 100000 in
set_option maxHeartbeats 4000000 in
theorem do_come (w : World) (B : Nat) (col : Nat → Mc) (m : Hm) (s : Hb) (h : HW w B col m s) (hB : B ≤ w.heap.size) {W t : Nat} {S : Nat → Nat → List Nat} (hc : Core s W t S) (ht : t ≤ 401) (hl : lets s ≤ 400) (hn : nots s + lets s ≤ 402 * 402) (d : Dv) (hk : d.kind = 3) (hs : 1 ≤ d.src ∧ d.src ≤ s.nodes) (hd : 1 ≤ d.dst ∧ d.dst ≤ s.nodes) :
    Calls Try.prog 12 #[.pointer (some ⟨m.T, 0, none⟩), .agg #[.int .i64 d.kind, .int .i64 d.src, .int .i64 d.dst, .int .i64 d.who, .int .i64 d.n]] w (HPost w B col m.T (doF s d)) := by
  have hF0 : Hid (chan s.ways d.src d.dst = [] → doF s d = s) := by
    intro e
    unfold doF
    rw [if_neg (by omega), if_neg (by omega), if_pos hk, e]
  have hF1 : Hid (∀ x r, chan s.ways d.src d.dst = x :: r → doF s d = come { s with ways := mput s.ways (d.src, d.dst) r } d.dst x) := by
    intro x r e
    unfold doF
    rw [if_neg (by omega), if_neg (by omega), if_pos hk, e]
  have H0 := h.boxed hB d
  obtain ⟨dk, ds, dd, dw, dn⟩ := d
  simp only at hk hs hd hF0 hF1 H0
  subst hk
  obtain ⟨w1, hw1⟩ : ∃ w1, w1 = w.alloc (.cells #[.int .i64 3, .int .i64 ds, .int .i64 dd, .int .i64 dw, .int .i64 dn] 35) := ⟨_, rfl⟩
  replace H0 : DoAt w w1 col (recol col w.heap.size .cst) B w.heap.size m s ⟨3, ds, dd, dw, dn⟩ := by rw [hw1]; exact H0
  obtain ⟨D, hD⟩ : ∃ D, D = w.heap.size := ⟨_, rfl⟩
  rw [← hD] at H0
  generalize recol col D .cst = col1 at H0
  obtain ⟨W2, hW2⟩ : ∃ W2, W2 = w1.alloc (.cells #[.int .i64 ds, .int .i64 dd] 51) := ⟨_, rfl⟩
  have bK : Blk W2 w1.heap.size 51 [.int .i64 ds, .int .i64 dd] := by rw [hW2]; exact Blk.new w1 _ _
  have hg2 : GrownIn (fun _ => False) w1 W2 := by rw [hW2]; exact (GrownIn.refl _ _).alloc _
  have H2 := H0.more hg2
  obtain ⟨K, hK⟩ : ∃ K, K = w1.heap.size := ⟨_, rfl⟩
  rw [← hK] at bK
  have cK : recol col1 w1.heap.size .cst K = .cst := recol_new (by omega)
  generalize recol col1 w1.heap.size .cst = col2 at H2 cK
  have b0 := H0.D_.cell 0
  have b1 := H0.D_.cell 1
  have b2 := H0.D_.cell 2
  have e2 := H2.D_.cell 2
  have t5 := H2.hw.blk.cell 5
  have z0 := bK.cell 0
  have z1 := bK.cell 1
  simp only [List.getElem?_cons_succ, List.getElem?_cons_zero] at b0 b1 b2 e2 t5 z0 z1
  have lD := H0.D_.lt
  have lD2 := H2.D_.lt
  have lT := H2.hw.blk.lt
  have lK := bK.lt
  have n1000 := H2.hw.nd
  have LK := Lib.hid (fun (Wd : World) (hW : Wd.heap[m.Wy]? = W2.heap[m.Wy]?) => look_way H2.hw.hW ds dd (by omega) (by omega) Wd hW)
  have hat := H2.hw.at_way ds dd
  obtain ⟨A0, n0, e0⟩ : ∃ A0 n0, (mget m.lW (ds, dd)).getD (.slice none 0 0) = .slice A0 (chan s.ways ds dd).length n0 := by
    obtain ⟨A1, c1, e1, _⟩ := hat.1.form
    exact ⟨A1, c1, e1⟩
  rw [e0] at LK hat
  have lk0 := LK.out W2 rfl
  have lk1 := LK.out W2.drew rfl
  have lkN := fun k => LK.out (W2.drewN k) rfl
  have HW1 := Lib.hid hw1
  have HD := Lib.hid hD
  have HW2 := Lib.hid hW2
  have HKD : Hid (K = D + 1) := by unfold Hid; rw [hK, hw1, hD]; simp
  have HH := Lib.hid H2
  have HAT := Lib.hid hat
  have HBK := Lib.hid (And.intro bK cK)
  have HC := Lib.hid hc
  clear h hc H0 H2 hw1 hD hW2 hK bK cK hat e0 hg2
  rcases hch : chan s.ways ds dd with _ | ⟨x, r⟩
  · have hF := hF0.out hch
    clear LK
    rw [hch] at lk0 lk1 lkN
    simp only [List.length_nil] at lk0 lk1 lkN
    have hd0 : decide ((0 : Int) < ((0 : Nat) : Int)) = false := by decide
    go_enter Try.func12, Try.ntmps12
    go_wp2_with (fail)
    rw [← HD.out, ← HW1.out, ← HW2.out, ← HKD.out]
    go_quiet (fail)
    go_wp2_with (fail)
    go_end0
    rw [hF]
    exact ⟨col2, m, rfl, rfl, HH.out.hw.heap rfl, HH.out.st.trans (Stp.same ((GrownIn.refl _ _).drewN _))⟩
  · have hF := Lib.hid (hF1.out x r hch)
    have hP := Lib.hid (pop_ok HC.out hs hd hch)
    clear hF0 hF1
    have HA2 := HAT.out
    rw [hch] at lk0 lk1 lkN HA2 LK
    obtain ⟨xk, xw, xs, xq, xn, x1, x2⟩ := x
    obtain ⟨R, hR⟩ : ∃ R, R = r.length + 1 := ⟨_, rfl⟩
    simp only [List.length_cons, ← hR] at lk0 lk1 lkN HA2 LK
    obtain ⟨g, off, rfl⟩ : ∃ g off, A0 = some ⟨g, off, none⟩ := by
      rcases HA2.1.2 with ⟨h0, h1⟩ | ⟨g', off', c', cur, e1, _⟩
      · omega
      · injection e1 with e1 _ _
        exact ⟨g', off', e1⟩
    have gc : ∀ k u, (elcs (⟨xk, xw, xs, xq, xn, x1, x2⟩ :: r))[k]? = some u → W2.cell? ⟨g, off + k, none⟩ = some u := fun k u hu => HA2.1.cells k u hu
    have HA3 := Lib.hid HA2
    have hdR : decide ((0 : Int) < (R : Int)) = true := by simp; omega
    have hdR2 : decide (0 < R) = true := by simp; omega
    have HR := Lib.hid hR
    have pR0 : (0 : Int) < (R : Int) := by omega
    have pR1 : 0 < R := by omega
    clear HA2 HAT hR
    go_enter Try.func12, Try.ntmps12
    go_wp2_with (fail)
    rw [← HD.out, ← HW1.out, ← HW2.out, ← HKD.out]
    go_quiet (fail)
    go_wp2_with (fail)
    generalize hW3 : World.drewN W2 _ = W3
    have hh : W3.heap = W2.heap := by rw [← hW3]; rfl
    have H3 := HH.out.same (w2 := W3) (by rw [← hW3]; exact (GrownIn.refl _ _).drewN _) hh
    have gc3 : ∀ k u, (elcs (⟨xk, xw, xs, xq, xn, x1, x2⟩ :: r))[k]? = some u → W3.cell? ⟨g, off + k, none⟩ = some u := fun k u hu => (World.cell?_of_block (w := W2) (by rw [hh])).trans (gc k u hu)
    have bK3 := HBK.out.1.of_heap hh
    have lWy := H3.hw.hW.lt
    have lk0' := LK.out W3.drew (by show W3.heap[m.Wy]? = _; rw [hh])
    have lk1' := LK.out ((W3.alloc (.cells #[.int .i64 0, .int .i64 0, .int .i64 0, .int .i64 0, .int .i64 0, .int .i64 0, .int .i64 0] 68)).drew) (by rw [show ((W3.alloc (.cells #[.int .i64 0, .int .i64 0, .int .i64 0, .int .i64 0, .int .i64 0, .int .i64 0, .int .i64 0] 68)).drew).heap[m.Wy]? = W3.heap[m.Wy]? from Below.heap_alloc W3 _ _ lWy, hh])
    clear hW3 b0 b1 b2 e2 t5 z0 z1 lD lD2 lT lK lk0 lk1 lkN
    have g0 := gc3 0 _ rfl
    have g1 := gc3 1 _ rfl
    have g2 := gc3 2 _ rfl
    have g3 := gc3 3 _ rfl
    have g4 := gc3 4 _ rfl
    have g5 := gc3 5 _ rfl
    have g6 := gc3 6 _ rfl
    have e2 := H3.D_.cell 2
    have t5 := H3.hw.blk.cell 5
    have z0 := bK3.cell 0
    have z1 := bK3.cell 1
    simp only [List.getElem?_cons_succ, List.getElem?_cons_zero, Nat.add_zero] at e2 t5 z0 z1 g0 g1 g2 g3 g4 g5 g6
    have lD := H3.D_.lt
    have lT := H3.hw.blk.lt
    have lK := bK3.lt
    have lG := lt_of_cell g0
    obtain ⟨W4, hW4⟩ : ∃ W4, W4 = (W3.alloc (.cells #[.int .i64 xk, .int .i64 xw, .int .i64 xs, .int .i64 xq, .int .i64 xn, .int .i64 x1, .int .i64 x2] 68)).drew := ⟨_, rfl⟩
    have bY : Blk W4 W3.heap.size 68 [.int .i64 xk, .int .i64 xw, .int .i64 xs, .int .i64 xq, .int .i64 xn, .int .i64 x1, .int .i64 x2] := by rw [hW4]; exact (Blk.new W3 _ [.int .i64 xk, .int .i64 xw, .int .i64 xs, .int .i64 xq, .int .i64 xn, .int .i64 x1, .int .i64 x2]).drew
    have hg4 : GrownIn (fun _ => False) W3 W4 := by rw [hW4]; exact ((GrownIn.refl _ _).alloc _).drew
    have st4 := Stp.grow (col := col2) .cst hg4 fun _ _ e => e.elim
    have H4 := H3.more hg4
    obtain ⟨bK4, cK4⟩ := st4.blk bK3 HBK.out.2
    have sg3 : Seg W3 68 7 (.slice (some ⟨g, off, none⟩) R n0) R (elcs (⟨xk, xw, xs, xq, xn, x1, x2⟩ :: r)) := HA3.out.1.keep fun b hb => by rw [hh]
    have sg4 : Seg W4 68 7 (.slice (some ⟨g, off, none⟩) R n0) R (elcs (⟨xk, xw, xs, xq, xn, x1, x2⟩ :: r)) := sg3.keep fun b hb => hg4.block b (sg3.lt b hb) id
    have cg4 : ∀ b, (Value.slice (some ⟨g, off, none⟩) R n0).ownBlock = some b → recol col2 W3.heap.size .cst b = .way (ds, dd) := fun b hb => by
      rw [recol_old (sg3.lt b hb)]
      exact HA3.out.2 b hb
    obtain ⟨Y, hY⟩ : ∃ Y, Y = W3.heap.size := ⟨_, rfl⟩
    have cY : recol col2 W3.heap.size .cst Y = .cst := recol_new (by omega)
    rw [← hY] at bY
    have k4 : W4.heap[m.Wy]? = W2.heap[m.Wy]? := (hg4.block m.Wy lWy id).trans (by rw [hh])
    have lkA := LK.out W4 k4
    have lkB := LK.out W4.drew k4
    generalize recol col2 W3.heap.size .cst = col4 at H4 cK4 cg4 cY
    have HW4 := Lib.hid hW4
    have HY := Lib.hid hY
    have HH4 := Lib.hid (And.intro H4 (And.intro bK4 (And.intro cK4 (And.intro bY cY))))
    have HS4 := Lib.hid (And.intro sg4 cg4)
    clear hW4 bY hg4 st4 H4 bK4 cK4 sg3 sg4 cg4 hY cY k4 H3 bK3 gc gc3 LK hh
    go_region_held3 (fun w' => w'.cell? ⟨m.T, 5, none⟩ = some (.map (some m.Wy)) ∧ w'.cell? ⟨K, 0, none⟩ = some (.int .i64 ds) ∧ w'.cell? ⟨K, 1, none⟩ = some (.int .i64 dd) ∧ w'.cell? ⟨g, off, none⟩ = some (.int .i64 xk) ∧ w'.cell? ⟨g, off + 1, none⟩ = some (.int .i64 xw) ∧ w'.cell? ⟨g, off + 2, none⟩ = some (.int .i64 xs) ∧ w'.cell? ⟨g, off + 3, none⟩ = some (.int .i64 xq) ∧ w'.cell? ⟨g, off + 4, none⟩ = some (.int .i64 xn) ∧ w'.cell? ⟨g, off + 5, none⟩ = some (.int .i64 x1) ∧ w'.cell? ⟨g, off + 6, none⟩ = some (.int .i64 x2)) (go_keep) (fail)
    all_goals
      rw [← HW4.out, ← HY.out]
      clear g0 g1 g2 g3 g4 g5 g6 e2 t5 z0 z1 lD lT lK lk0' lk1' lG
      obtain ⟨H4, bK4, cK4, bY4, cY4⟩ := HH4.out
      obtain ⟨sg4, cg4⟩ := HS4.out
      obtain ⟨v', hsl, sg5, ow5⟩ := Seg.tail (P := Try.prog) 52 Try.underlying52 (by kernel_rfl) (n := r.length) (by rw [← HR.out]; exact sg4)
      have ed : (elcs (⟨xk, xw, xs, xq, xn, x1, x2⟩ :: r)).drop 7 = elcs r := rfl
      rw [ed] at sg5
      obtain ⟨w9, hup, hm9, hg9⟩ := put_way (H4.hw.hW.same (w' := W4.drew) rfl) ds dd (by omega) (by omega) v'
      have nT : m.T ≠ m.Wy := fun e => by have := H4.hw.cT; rw [e, H4.hw.cW] at this; cases this
      have nD : D ≠ m.Wy := fun e => by have := H4.cD; rw [e, H4.hw.cW] at this; cases this
      have nY : Y ≠ m.Wy := fun e => by have := cY4; rw [e, H4.hw.cW] at this; cases this
      have nV : v'.ownBlock ≠ some m.Wy := fun e => by
        rw [ow5] at e
        have := cg4 _ e
        rw [H4.hw.cW] at this
        cases this
      have hg9' : W4.grownBy w9 (some m.Wy) := ⟨hg9.os, hg9.tape, hg9.output, hg9.size, hg9.block⟩
      have e2 := H4.D_.cell 2
      have t5 := H4.hw.blk.cell 5
      have z0 := bK4.cell 0
      have z1 := bK4.cell 1
      simp only [List.getElem?_cons_succ, List.getElem?_cons_zero] at e2 t5 z0 z1
      have lD := H4.D_.lt
      have lT := H4.hw.blk.lt
      have lK := bK4.lt
      have bD9 := H4.D_.grown hg9' (by first | (intro e; injection e with e; exact nD e.symm) | (intro e; injection e with e; exact nD e))
      have bY9 := bY4.grown hg9' (by first | (intro e; injection e with e; exact nY e.symm) | (intro e; injection e with e; exact nY e))
      have d2 := bD9.cell 2
      have y0 := bY9.cell 0
      have y1 := bY9.cell 1
      have y2 := bY9.cell 2
      have y3 := bY9.cell 3
      have y4 := bY9.cell 4
      have y5 := bY9.cell 5
      have y6 := bY9.cell 6
      simp only [List.getElem?_cons_succ, List.getElem?_cons_zero] at d2 y0 y1 y2 y3 y4 y5 y6
      have lD9 := bD9.lt
      have lY9 := bY9.lt
      have hin : GrownIn (fun b => col4 b = .way (ds, dd) ∨ b = m.Wy) W4 w9 := GrownIn.of_grown (own := fun b => col4 b = .way (ds, dd) ∨ b = m.Wy) hg9' fun b hb => .inr (by injection hb with hb; exact hb.symm)
      have sg9 : Seg w9 68 7 v' r.length (elcs r) := sg5.keep fun b hb => hg9'.block b (sg5.lt b hb) (fun e => nV (by rw [hb, ← e]))
      have h9 := H4.hw.way H4.Bs (k := (ds, dd)) (v := v') (c := r) hin hm9 ⟨sg9, fun b hb => by
        rw [ow5] at hb
        rw [recol_old (sg4.lt b hb)]
        exact cg4 b hb⟩
      have st9 : Stp w w9 col (recol col4 W4.heap.size (.way (ds, dd))) := H4.st.trans (Stp.grow _ hin fun b _ e => by
        unfold Own
        rcases e with e | rfl
        · rw [e]; simp
        · rw [H4.hw.cW]; simp)
      obtain ⟨p1, p2, p3, p4⟩ := hP.out
      have PC := Lib.hid (come_any w9 B _ _ _ h9 (Nat.le_trans H4.Bs hg9'.size) p1 ht (by omega) (by omega) dd hd ⟨xk, xw, xs, xq, xn, x1, x2⟩ p2)
      have ST := Lib.hid st9
      clear H4 bK4 cK4 bY4 cY4 sg4 cg4 sg5 ow5 hm9 hg9 hg9' nT nD nY nV bD9 bY9 hin sg9 h9 st9 p1 p2 p3 p4 ed
      go_wp2_with (fail)
      go_still_tail 12, (by kernel_rfl)
      change wpList _ _ _ _ _ (World.drew W4)
      go_wp2_with (fail)
      refine PC.out.mono ?_
      rintro e w' ⟨col', m', rfl, hT', hh', hs'⟩
      dsimp only
      go_wp2_with (fail)
      go_end0
      rw [hF.out]
      exact ⟨col', m', rfl, hT', hh', ST.out.trans hs'⟩
end Go.Proofs.Ytckkelppdeampaa
