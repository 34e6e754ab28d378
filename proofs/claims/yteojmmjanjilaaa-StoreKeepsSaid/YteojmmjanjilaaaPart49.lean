/- sameSnap tells that two readings of one snapshot are the same. (Printed by storeeq.py.) · The snapshot of raw ones is right. -/
import Derived.Test.YteojmmjanjilaaaPart29
import Derived.Test.YteojmmjanjilaaaMailEq
import Derived.Test.YteojmmjanjilaaaStoreSnap
import Derived.Test.YteojmmjanjilaaaMailGood
set_option linter.unusedVariables false
namespace Go.Proofs.Yteojmmjanjilaaa
open Go.RowKit Go.Mem Go.Val Go.Chunk

set_option maxRecDepth 100000 in
set_option maxHeartbeats 1000000 in
theorem sameW_eq (X : Wy) (cs ds : List Value) (w : World) (hv : WyCells 41 w Any cs X) (hv' : WyCells 41 w Any ds X) :
    Calls Try.prog 23 #[.agg cs.toArray, .agg ds.toArray] w fun e w' => e = .returned (.bool true) ∧ Below w.heap.size w w' := by
  obtain ⟨yf, yt, yl⟩ := X
  obtain ⟨P1, Pq1, vs, rfl, _, ⟨m1, _, _⟩, r1, a1⟩ := hv
  obtain ⟨Q1, Qq1, us, rfl, _, _, r2, a2⟩ := hv'
  simp only at m1 r1 a1 r2 a2 ⊢
  obtain ⟨W, hW⟩ : ∃ W, W = (w.alloc (.cells [.int .i64 yf, .int .i64 yt, .slice P1 yl.length Pq1].toArray 51)).alloc (.cells [.int .i64 yf, .int .i64 yt, .slice Q1 yl.length Qq1].toArray 51) := ⟨_, rfl⟩
  obtain ⟨hb1, hb2, hbW, hsW⟩ := blks2 _ _ _ _ _ W hW
  obtain ⟨ny, hny⟩ : ∃ ny, ny = yl.length := ⟨_, rfl⟩
  have EQ := Lib.hid (eqfL_eq P1 Q1 ny ny Pq1 Qq1 yl vs us W hny hny (by omega) (by rw [hny]; exact r1.keep (Same.any hbW)) (a1.imp fun _ _ h => (LCells.stable 41).keep h (Same.any hbW)) (by rw [hny]; exact r2.keep (Same.any hbW)) (a2.imp fun _ _ h => (LCells.stable 41).keep h (Same.any hbW)))
  rw [← hny] at hb1 hb2 hW ⊢
  clear r1 a1 r2 a2 hny m1
  have m0 := hb1.cell 0
  have m1 := hb1.cell 1
  have m2 := hb1.cell 2
  have p0 := hb2.cell 0
  have p1 := hb2.cell 1
  have p2 := hb2.cell 2
  simp only [List.getElem?_cons_succ, List.getElem?_cons_zero] at m0 m1 m2 p0 p1 p2
  have lw := hb2.lt
  have HW := Lib.hid hW
  clear hW hsW hb1 hb2
  go_enter Try.func23, Try.ntmps23
  go_upto_region 1 with (fail)
  simp only [List.toArray] at HW
  rw [← HW.out]
  clear HW
  go_wp2_with (fail)
  refine EQ.out.mono ?_
  rintro e w2 ⟨rfl, hb3⟩
  go_wp2_with (fail)
  go_ret
  exact ⟨rfl, hbW.trans (hb3.mono hbW.size)⟩

set_option maxRecDepth 100000 in
set_option maxHeartbeats 1000000 in
theorem eqfP_eq (A B : Option Addr) (n m c e : Nat) (l : List Pc) (vss uss : List (List Value)) (w : World) (hn : n = l.length) (hm : m = l.length) (hn2 : n ≤ 4194304)
    (hr : Reads w Any 8 A n vss.flatten) (ha : All2 (PcCells 41 w Any) vss l) (hr' : Reads w Any 8 B m uss.flatten) (ha' : All2 (PcCells 41 w Any) uss l) :
    Calls Try.prog 20 #[.slice A n c, .slice B m e, .func (.func 21) #[] #[]] w fun e w' => e = .returned (.bool true) ∧ Below w.heap.size w w' := by
  obtain rfl : n = m := by omega
  have Hn := Lib.hid hn
  have Hm := Lib.hid hm
  clear hn hm
  have d1 : ((n : Int) != (n : Int)) = false := by simp
  go_enter Try.func20, Try.ntmps20
  go_wp2_with (fail)
  go_loopw [17] (fun i wr => ∃ j : Nat, j ≤ n ∧ i = .int .i64 j ∧ Below w.heap.size w wr) (fun i _ => n - (intOf i).toNat)
  case atStart => exact ⟨0, Nat.zero_le _, rfl, Below.refl _ _⟩
  case round =>
    obtain ⟨j, hj, rfl, hbe⟩ := hrel
    by_cases hlt : j < n
    · have hjl : j < l.length := by have := Hn.out; omega
      obtain ⟨b, off, cs, rfl, hD, hv, hcell⟩ := hr.elem (PcCells.stable 41) ha Hn.out hjl
      obtain ⟨b', off', cs', rfl, hD', hv', hcell'⟩ := hr'.elem (PcCells.stable 41) ha' Hm.out hjl
      have hsame : Same Any w wr := Same.any hbe
      have hv2 := (PcCells.stable 41).keep hv hsame
      have hv2' := (PcCells.stable 41).keep hv' hsame
      generalize l[j] = X at hv hv2 hv' hv2'
      obtain ⟨P1, Pq1, P2, Pq2, P3, Pq3, P4, Pq4, P5, Pq5, rfl⟩ := PcCells.shape hv
      obtain ⟨Q1, Qq1, Q2, Qq2, Q3, Qq3, Q4, Qq4, Q5, Qq5, rfl⟩ := PcCells.shape hv'
      obtain ⟨pr, ⟨sa, ss, si⟩, pb, pt, pw, pl⟩ := X
      simp only at hcell hv2 hcell' hv2'
      have g0 := hsame.cell hD (hcell 0 _ rfl)
      have g1 := hsame.cell hD (hcell 1 _ rfl)
      have g2 := hsame.cell hD (hcell 2 _ rfl)
      have g3 := hsame.cell hD (hcell 3 _ rfl)
      have g4 := hsame.cell hD (hcell 4 _ rfl)
      have g5 := hsame.cell hD (hcell 5 _ rfl)
      have g6 := hsame.cell hD (hcell 6 _ rfl)
      have g7 := hsame.cell hD (hcell 7 _ rfl)
      have p0 := hsame.cell hD' (hcell' 0 _ rfl)
      have p1 := hsame.cell hD' (hcell' 1 _ rfl)
      have p2 := hsame.cell hD' (hcell' 2 _ rfl)
      have p3 := hsame.cell hD' (hcell' 3 _ rfl)
      have p4 := hsame.cell hD' (hcell' 4 _ rfl)
      have p5 := hsame.cell hD' (hcell' 5 _ rfl)
      have p6 := hsame.cell hD' (hcell' 6 _ rfl)
      have p7 := hsame.cell hD' (hcell' 7 _ rfl)
      simp only [Nat.add_zero, ← Nat.add_assoc] at g0 p0 g1 p1 g2 p2 g3 p3 g4 p4 g5 p5 g6 p6 g7 p7
      have l4 := lt_of_cell g0
      have l5 := lt_of_cell p0
      have EQ := Lib.hid (fun (o1 o2 : Obj) => sameP_eq (⟨pr, ⟨sa, ss, si⟩, pb, pt, pw, pl⟩ : Pc) [.int .i64 pr, .string sa, .slice P1 ss.length Pq1, .slice P2 si.length Pq2, .slice P3 pb.length Pq3, .int .i64 pt, .slice P4 pw.length Pq4, .slice P5 pl.length Pq5] [.int .i64 pr, .string sa, .slice Q1 ss.length Qq1, .slice Q2 si.length Qq2, .slice Q3 pb.length Qq3, .int .i64 pt, .slice Q4 pw.length Qq4, .slice Q5 pl.length Qq5] ((wr.alloc o1).alloc o2) ((PcCells.stable 41).keep ((PcCells.stable 41).keep hv2 (Same.alloc _ _ _)) (Same.alloc _ _ _)) ((PcCells.stable 41).keep ((PcCells.stable 41).keep hv2' (Same.alloc _ _ _)) (Same.alloc _ _ _)))
      clear hcell hcell' hv hv' hv2 hv2' hsame
      go_wp2_with (fail)
      refine (EQ.out _ _).mono ?_
      rintro e w2 ⟨rfl, hb2⟩
      have hbe2 : Below w.heap.size w w2 := ((hbe.alloc hbe.size _).alloc (by have := hbe.size; simp; omega) _).trans (hb2.mono (by have := hbe.size; simp; omega))
      clear EQ
      go_wp2_with (fail)
      exact ⟨⟨j + 1, by omega, by go_num, hbe2⟩, by simp [intOf]; omega⟩
    · go_wp2
      go_ret
      exact ⟨rfl, hbe⟩

set_option maxRecDepth 100000 in
set_option maxHeartbeats 1000000 in
theorem eqfW_eq (A B : Option Addr) (n m c e : Nat) (l : List Wy) (vss uss : List (List Value)) (w : World) (hn : n = l.length) (hm : m = l.length) (hn2 : n ≤ 4194304)
    (hr : Reads w Any 3 A n vss.flatten) (ha : All2 (WyCells 41 w Any) vss l) (hr' : Reads w Any 3 B m uss.flatten) (ha' : All2 (WyCells 41 w Any) uss l) :
    Calls Try.prog 22 #[.slice A n c, .slice B m e, .func (.func 23) #[] #[]] w fun e w' => e = .returned (.bool true) ∧ Below w.heap.size w w' := by
  obtain rfl : n = m := by omega
  have Hn := Lib.hid hn
  have Hm := Lib.hid hm
  clear hn hm
  have d1 : ((n : Int) != (n : Int)) = false := by simp
  go_enter Try.func22, Try.ntmps22
  go_wp2_with (fail)
  go_loopw [17] (fun i wr => ∃ j : Nat, j ≤ n ∧ i = .int .i64 j ∧ Below w.heap.size w wr) (fun i _ => n - (intOf i).toNat)
  case atStart => exact ⟨0, Nat.zero_le _, rfl, Below.refl _ _⟩
  case round =>
    obtain ⟨j, hj, rfl, hbe⟩ := hrel
    by_cases hlt : j < n
    · have hjl : j < l.length := by have := Hn.out; omega
      obtain ⟨b, off, cs, rfl, hD, hv, hcell⟩ := hr.elem (WyCells.stable 41) ha Hn.out hjl
      obtain ⟨b', off', cs', rfl, hD', hv', hcell'⟩ := hr'.elem (WyCells.stable 41) ha' Hm.out hjl
      have hsame : Same Any w wr := Same.any hbe
      have hv2 := (WyCells.stable 41).keep hv hsame
      have hv2' := (WyCells.stable 41).keep hv' hsame
      generalize l[j] = X at hv hv2 hv' hv2'
      obtain ⟨P1, Pq1, rfl⟩ := WyCells.out hv
      obtain ⟨Q1, Qq1, rfl⟩ := WyCells.out hv'
      obtain ⟨yf, yt, yl⟩ := X
      simp only at hcell hv2 hcell' hv2'
      have g0 := hsame.cell hD (hcell 0 _ rfl)
      have g1 := hsame.cell hD (hcell 1 _ rfl)
      have g2 := hsame.cell hD (hcell 2 _ rfl)
      have p0 := hsame.cell hD' (hcell' 0 _ rfl)
      have p1 := hsame.cell hD' (hcell' 1 _ rfl)
      have p2 := hsame.cell hD' (hcell' 2 _ rfl)
      simp only [Nat.add_zero, ← Nat.add_assoc] at g0 p0 g1 p1 g2 p2
      have l4 := lt_of_cell g0
      have l5 := lt_of_cell p0
      have EQ := Lib.hid (fun (o1 o2 : Obj) => sameW_eq (⟨yf, yt, yl⟩ : Wy) [.int .i64 yf, .int .i64 yt, .slice P1 yl.length Pq1] [.int .i64 yf, .int .i64 yt, .slice Q1 yl.length Qq1] ((wr.alloc o1).alloc o2) ((WyCells.stable 41).keep ((WyCells.stable 41).keep hv2 (Same.alloc _ _ _)) (Same.alloc _ _ _)) ((WyCells.stable 41).keep ((WyCells.stable 41).keep hv2' (Same.alloc _ _ _)) (Same.alloc _ _ _)))
      clear hcell hcell' hv hv' hv2 hv2' hsame
      go_wp2_with (fail)
      refine (EQ.out _ _).mono ?_
      rintro e w2 ⟨rfl, hb2⟩
      have hbe2 : Below w.heap.size w w2 := ((hbe.alloc hbe.size _).alloc (by have := hbe.size; simp; omega) _).trans (hb2.mono (by have := hbe.size; simp; omega))
      clear EQ
      go_wp2_with (fail)
      exact ⟨⟨j + 1, by omega, by go_num, hbe2⟩, by simp [intOf]; omega⟩
    · go_wp2
      go_ret
      exact ⟨rfl, hbe⟩

set_option maxRecDepth 100000 in
set_option maxHeartbeats 1000000 in
theorem sameSn_eq (X : Snp) (cs ds : List Value) (w : World) (hv : SnCells 41 w Any cs X) (hv' : SnCells 41 w Any ds X) :
    Calls Try.prog 9 #[.agg cs.toArray, .agg ds.toArray] w fun e w' => e = .returned (.bool true) ∧ Below w.heap.size w w' := by
  obtain ⟨st, sp, sw⟩ := X
  obtain ⟨P1, c1, v1, P2, c2, v2, rfl, _, ⟨m1, _, _⟩, ⟨m2, _, _⟩, r1, a1, r2, a2⟩ := hv
  obtain ⟨Q1, d1, u1, Q2, d2, u2, rfl, _, _, _, s1, b1, s2, b2⟩ := hv'
  simp only at m1 m2 r1 a1 r2 a2 s1 b1 s2 b2 ⊢
  obtain ⟨W, hW⟩ : ∃ W, W = (w.alloc (.cells [.int .i64 st, .slice P1 sp.length c1, .slice P2 sw.length c2].toArray 26)).alloc (.cells [.int .i64 st, .slice Q1 sp.length d1, .slice Q2 sw.length d2].toArray 26) := ⟨_, rfl⟩
  obtain ⟨hb1, hb2, hbW, hsW⟩ := blks2 _ _ _ _ _ W hW
  obtain ⟨n1, h1⟩ : ∃ n1, n1 = sp.length := ⟨_, rfl⟩
  obtain ⟨n2, h2⟩ : ∃ n2, n2 = sw.length := ⟨_, rfl⟩
  have E1 := Lib.hid (eqfP_eq P1 Q1 n1 n1 c1 d1 sp v1 u1 W h1 h1 (by omega) (by rw [h1]; exact r1.keep (Same.any hbW)) (a1.imp fun _ _ h => (PcCells.stable 41).keep h (Same.any hbW)) (by rw [h1]; exact s1.keep (Same.any hbW)) (b1.imp fun _ _ h => (PcCells.stable 41).keep h (Same.any hbW)))
  have E2 := Lib.hid (fun W2 (h : Below w.heap.size w W2) => eqfW_eq P2 Q2 n2 n2 c2 d2 sw v2 u2 W2 h2 h2 (by omega) (by rw [h2]; exact r2.keep (Same.any h)) (a2.imp fun _ _ h' => (WyCells.stable 41).keep h' (Same.any h)) (by rw [h2]; exact s2.keep (Same.any h)) (b2.imp fun _ _ h' => (WyCells.stable 41).keep h' (Same.any h)))
  rw [← h1, ← h2] at hb1 hb2 hW ⊢
  clear r1 a1 r2 a2 s1 b1 s2 b2 h1 h2 m1 m2
  have m0 := hb1.cell 0
  have m1 := hb1.cell 1
  have m2 := hb1.cell 2
  have p0 := hb2.cell 0
  have p1 := hb2.cell 1
  have p2 := hb2.cell 2
  simp only [List.getElem?_cons_succ, List.getElem?_cons_zero] at m0 m1 m2 p0 p1 p2
  have lw := hb2.lt
  have HW := Lib.hid hW
  clear hW hsW
  go_enter Try.func9, Try.ntmps9
  go_upto_region 1 with (fail)
  simp only [List.toArray] at HW
  rw [← HW.out]
  clear HW
  go_wp2_with (fail)
  refine E1.out.mono ?_
  rintro e w2 ⟨rfl, hb3⟩
  have hw2 : Below w.heap.size w w2 := hbW.trans (hb3.mono hbW.size)
  have x1 := (hb1.below hb3 hb1.lt).cell 2
  have x2 := (hb2.below hb3 hb2.lt).cell 2
  simp only [List.getElem?_cons_succ, List.getElem?_cons_zero] at x1 x2
  have lw2 := (hb2.below hb3 hb2.lt).lt
  clear m0 m1 m2 p0 p1 p2 hb1 hb2 E1
  go_wp2_with (fail)
  refine (E2.out w2 hw2).mono ?_
  rintro e w3 ⟨rfl, hb4⟩
  go_wp2_with (fail)
  go_ret
  exact ⟨rfl, hw2.trans (hb4.mono hw2.size)⟩
end Go.Proofs.Yteojmmjanjilaaa
set_option linter.unusedVariables false
namespace Go.Proofs.Yteojmmjanjilaaa
open Go.RowKit Go.Mem Go.Val Go.Chunk
theorem LCells.ok' {d : Nat} {w : World} {D : Nat → Prop} {cs : List Value} {x : L} (h : LCells d w D cs x) : okV d x.val := by
  obtain ⟨vs, rfl, _, hv⟩ := h
  exact hv.ok
theorem snF_nice {w : World} {D : Nat → Prop} {cs : List Value} {l : List Raw} {n : Int} (h : SnCells 41 w D cs (snF l n)) : NiceSn (snF l n) := by
  obtain ⟨A1, c1, vs1, A2, c2, vs2, _, _, _, _, _, ha1, _, ha2⟩ := h
  have e1 := restI_bd n 1000 (by omega)
  have e2 := restI_bd n 3 (by omega)
  have e3 := restI_bd (n.tdiv 7) 3 (by omega)
  have t1 : restN n 1000 = restI n 1000 := rfl
  have t2 : restN n 3 = restI n 3 := rfl
  have t3 : restN (n.tdiv 7) 3 = restI (n.tdiv 7) 3 := rfl
  have lp : (snF l n).parcels.length ≤ 5 := by simp [snF, snPs, t2]; omega
  have lw : (snF l n).ways.length ≤ 5 := by simp [snF, snWs, t3]; omega
  refine ⟨by simp [snF, t1]; omega, lp, lw, ?_, ?_, ?_, ?_⟩
  · intro p hp
    obtain ⟨i, hi, rfl⟩ := List.mem_iff_getElem.1 hp
    obtain ⟨x, _, hx⟩ := ha1.at_ hi
    have e : (snF l n).parcels[i] = parF (l.drop i) (1001 + (i : Int)) := by simp [snF, snPs]
    rw [e] at hx ⊢
    exact parF_nice _ _ ⟨by omega, by omega⟩ (PcCells.oks hx)
  · intro y hy
    obtain ⟨i, hi, rfl⟩ := List.mem_iff_getElem.1 hy
    obtain ⟨x, _, hx⟩ := ha2.at_ hi
    have e : (snF l n).ways[i] = ⟨1, 2 + (i : Int), snLs l (min l.length 3)⟩ := by simp [snF, snWs]
    rw [e] at hx ⊢
    obtain ⟨_, _, vs, _, _, _, _, hl⟩ := hx
    have hll : (snLs l (min l.length 3)).length ≤ 5 := by simp [snLs]; omega
    refine ⟨⟨by simp only; omega, by simp only; omega⟩, ⟨by simp only; omega, by simp only; omega⟩, by simp only; omega, fun z hz => ?_, hll⟩
    obtain ⟨j, hj, rfl⟩ := List.mem_iff_getElem.1 hz
    obtain ⟨u, _, hu⟩ := hl.at_ hj
    have e2 : (snLs l (min l.length 3))[j] = letF ((l.drop j).take 5) := by simp [snLs]
    simp only at hu ⊢
    rw [e2] at hu ⊢
    exact letF_nice _ (LCells.ok' hu)
  · intro i p q hp hq
    have hi := (List.getElem?_eq_some_iff.1 hq).1
    have ep : p = parF (l.drop i) (1001 + (i : Int)) := by
      obtain ⟨h1, h2⟩ := List.getElem?_eq_some_iff.1 hp
      rw [← h2]
      simp [snF, snPs]
    have eq : q = parF (l.drop (i + 1)) (1001 + ((i + 1 : Nat) : Int)) := by
      obtain ⟨h1, h2⟩ := List.getElem?_eq_some_iff.1 hq
      rw [← h2]
      simp [snF, snPs]
    rw [ep, eq]
    unfold parF
    rw [(parU_len _ _ _).2, (parU_len _ _ _).2]
    omega
  · intro i x y hx hy
    have ex : x = ⟨1, 2 + (i : Int), snLs l (min l.length 3)⟩ := by
      obtain ⟨h1, h2⟩ := List.getElem?_eq_some_iff.1 hx
      rw [← h2]
      simp [snF, snWs]
    have ey : y = ⟨1, 2 + ((i + 1 : Nat) : Int), snLs l (min l.length 3)⟩ := by
      obtain ⟨h1, h2⟩ := List.getElem?_eq_some_iff.1 hy
      rw [← h2]
      simp [snF, snWs]
    rw [ex, ey]
    exact ⟨rfl, by simp only; omega⟩
theorem snapE_max (s : Snp) (h : NiceSn s) : (snapE 41 s).length ≤ 20000010 := by
  have hp := h.np
  have hw := h.nw
  have := flat_bound (headE s) (partsE 41 s) (by simp [headE, numE_len]) (by simp [partsE]; omega) (partsE_len s h) (partsE 41 s).length
  rw [List.take_of_length_le (Nat.le_refl _)] at this
  rw [snapE_eq]
  omega
end Go.Proofs.Yteojmmjanjilaaa
