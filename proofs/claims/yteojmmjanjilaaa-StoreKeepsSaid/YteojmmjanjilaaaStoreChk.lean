/- Contract of store.Check: a snapshot that is right is told OK. (Printed by storechk.py.) -/
import Derived.Test.YteojmmjanjilaaaPart29
import Derived.Test.YteojmmjanjilaaaPart24
import Derived.Deep.QuietTactic
import Derived.BigQuiet
import Derived.StillTailTactics
set_option linter.unusedVariables false
namespace Go.Proofs.Yteojmmjanjilaaa
open Go.RowKit Go.Mem Go.Val Go.Chunk

theorem isNode_any (n : Int) (w : World) (h : 1 ≤ n ∧ n ≤ 8) : Calls Try.prog 46 #[.int .i64 n] w fun e w' => e = .returned (.bool true) ∧ w = w' := by
  obtain ⟨h1, h2⟩ := h
  have d1 : decide ((1 : Int) ≤ n) = true := by simpa using h1
  have d2 : decide (n ≤ (8 : Int)) = true := by simpa using h2
  go_enter Try.func46, Try.ntmps46
  go_wp2
  go_ret
  exact ⟨rfl, rfl⟩

set_option maxRecDepth 100000 in
theorem or_any (b o c : Nat) (y : Int) (w : World) (hy : 0 < y) (h0 : w.cell? ⟨b, o, none⟩ = some (.int .i64 0)) (h1 : w.cell? ⟨b, o + 1, none⟩ = some (.int .i64 y)) :
    Calls Try.prog 47 #[.slice (some ⟨b, o, none⟩) 2 c] w fun e w' => e = .returned (.int .i64 y) ∧ w = w' := by
  have hne : (y != 0) = true := by simp; omega
  have hne2 : (y == 0) = false := by simp; omega
  go_enter Try.func47, Try.ntmps47
  go_wp2
  go_loop [8] (fun i => ∃ k : Nat, k ≤ 1 ∧ i = .int .i64 k) (fun i => 2 - (intOf i).toNat)
  case atStart => exact ⟨0, by omega, rfl⟩
  case round =>
    obtain ⟨k, hk, rfl⟩ := hrel
    obtain rfl | rfl : k = 0 ∨ k = 1 := by omega
    · go_wp2
      go_round
      case rel => exact ⟨1, by omega, rfl⟩
      case measure => simp [intOf]
    · go_wp2
      go_ret
      exact ⟨rfl, rfl⟩

set_option maxRecDepth 100000 in
set_option maxHeartbeats 4000000 in
theorem schk_any (s : Snp) (cs : List Value) (w : World) (hv : SnCells 41 w Any cs s) (hg : NiceSn s) :
    Calls Try.prog 29 #[.agg cs.toArray] w fun e w' => e = .returned (.int .i64 0) ∧ Below w.heap.size w w' := by
  obtain ⟨A1, c1, vs1, A2, c2, vs2, rfl, hft, ⟨n1a, n1b, n1c⟩, ⟨n2a, n2b, n2c⟩, r1, a1, r2, a2⟩ := hv
  obtain ⟨st, sp, sw⟩ := s
  have hnp := hg.np
  have hnw := hg.nw
  have htm := hg.time
  have Hg := Lib.hid hg
  simp only at n1a n1b n1c n2a n2b n2c r1 a1 r2 a2 hnp hnw htm ⊢
  obtain ⟨ht0, ht1⟩ := htm
  clear hg hft
  obtain ⟨n1, h1⟩ : ∃ n1, n1 = sp.length := ⟨_, rfl⟩
  obtain ⟨n2, h2⟩ : ∃ n2, n2 = sw.length := ⟨_, rfl⟩
  rw [← h1] at n1a n1b r1 hnp ⊢
  rw [← h2] at n2a n2b r2 hnw ⊢
  have H1 := Lib.hid h1
  have H2 := Lib.hid h2
  clear h1 h2
  obtain ⟨W, hW⟩ : ∃ W, W = w.alloc (.cells #[.int .i64 st, .slice A1 n1 c1, .slice A2 n2 c2] 26) := ⟨_, rfl⟩
  have hB : Blk W w.heap.size 26 [.int .i64 st, .slice A1 n1 c1, .slice A2 n2 c2] := by rw [hW]; exact Blk.new w _ _
  have hbW : Below w.heap.size w W := by rw [hW]; exact (Below.refl _ _).alloc (Nat.le_refl _) _
  have HW := Lib.hid hW
  have d1 : decide ((100 : Int) < (n1 : Int)) = false := by simp; omega
  have d2 : decide ((60 : Int) < (n2 : Int)) = false := by simp; omega
  have d3 : decide (st < (0 : Int)) = false := by simp; omega
  have k0 := hB.cell 0
  have k1 := hB.cell 1
  have k2 := hB.cell 2
  simp only [List.getElem?_cons_succ, List.getElem?_cons_zero] at k0 k1 k2
  have lB := hB.lt
  clear hW
  go_enter Try.func29, Try.ntmps29
  go_upto_region 1 with (fail)
  rw [← HW.out]
  clear HW
  go_wp2_with (fail)
  go_loopw [29] (fun i wr => ∃ k : Nat, k ≤ n1 ∧ i = .int .i64 k ∧ Below W.heap.size W wr) (fun i _ => n1 - (intOf i).toNat)
  case atStart => exact ⟨0, Nat.zero_le _, rfl, Below.refl _ _⟩
  case round =>
    obtain ⟨k, hk, rfl, hb⟩ := hrel
    have hwr : Below w.heap.size w wr := hbW.trans (hb.mono hbW.size)
    have hsame : Same Any w wr := Same.any hwr
    by_cases hlt : k < n1
    · have hkl : k < sp.length := by have := H1.out; omega
      obtain ⟨b, off, cs, rfl, hD, hv, hcell⟩ := r1.elem (PcCells.stable 41) a1 H1.out hkl
      have hgp := (Hg.out.ps _ (List.getElem_mem hkl)).1.1
      have hget : sp[k]? = some sp[k] := List.getElem?_eq_getElem hkl
      generalize sp[k] = X at hv hgp hget
      have Hget := Lib.hid hget
      obtain ⟨P1, q1, P2, q2, P3, q3, P4, q4, P5, q5, rfl⟩ := PcCells.shape hv
      obtain ⟨pr, ⟨sa, ss, si⟩, pb, pt, pw, pl⟩ := X
      simp only at hcell hv
      have g0 := hsame.cell hD (hcell 0 _ rfl)
      have g1 := hsame.cell hD (hcell 1 _ rfl)
      have g2 := hsame.cell hD (hcell 2 _ rfl)
      have g3 := hsame.cell hD (hcell 3 _ rfl)
      have g4 := hsame.cell hD (hcell 4 _ rfl)
      have g5 := hsame.cell hD (hcell 5 _ rfl)
      have g6 := hsame.cell hD (hcell 6 _ rfl)
      have g7 := hsame.cell hD (hcell 7 _ rfl)
      simp only [Nat.add_zero, ← Nat.add_assoc] at g0 g1 g2 g3 g4 g5 g6 g7
      have CK := Lib.hid (checkP_any 41 (⟨pr, ⟨sa, ss, si⟩, pb, pt, pw, pl⟩ : Pc) [.int .i64 pr, .string sa, .slice P1 ss.length q1, .slice P2 si.length q2, .slice P3 pb.length q3, .int .i64 pt, .slice P4 pw.length q4, .slice P5 pl.length q5] (wr.alloc (.cells #[.int .i64 pr, .string sa, .slice P1 ss.length q1, .slice P2 si.length q2, .slice P3 pb.length q3, .int .i64 pt, .slice P4 pw.length q4, .slice P5 pl.length q5] 48)) (by omega) ((PcCells.stable 41).keep ((PcCells.stable 41).keep hv hsame) (Same.alloc _ _ _)) hgp)
      have HG := Lib.hid hgp
      clear hcell hv hgp hget
      go_wp2_with (fail)
      refine CK.out.mono ?_
      rintro e w2 ⟨rfl, hb2⟩
      have hbe : Below W.heap.size W w2 := (hb.alloc hb.size _).trans (hb2.mono (by have := hb.size; simp; omega))
      have hBp : Blk w2 wr.heap.size 48 [.int .i64 pr, .string sa, .slice P1 ss.length q1, .slice P2 si.length q2, .slice P3 pb.length q3, .int .i64 pt, .slice P4 pw.length q4, .slice P5 pl.length q5] := (Blk.new wr _ _).below hb2 (by simp)
      have hB2 := hB.below hbe lB
      have z1 := hB2.cell 1
      have z2 := hBp.cell 0
      simp only [List.getElem?_cons_succ, List.getElem?_cons_zero] at z1 z2
      have lb1 := hBp.lt
      have lb2 := hB2.lt
      clear CK g0 g1 g2 g3 g4 g5 g6 g7 k0 k1 k2 hBp hB2 hb2
      by_cases hk0 : k = 0
      · subst hk0
        go_wp2_with (fail)
        go_quiet (fail)
        go_wp2_with (fail)
        exact ⟨⟨1, by omega, rfl, ⟨hbe.os, hbe.tape, hbe.output, hbe.size, hbe.block⟩⟩, by simp [intOf]; omega⟩
      · obtain ⟨j, rfl⟩ : ∃ j, k = j + 1 := ⟨k - 1, by omega⟩
        have hjl : j < sp.length := by omega
        obtain ⟨b', off', cs', e, hD', hv', hcell'⟩ := r1.elem (PcCells.stable 41) a1 H1.out hjl
        injection e with e
        injection e with e1 e2
        subst e1 e2
        obtain ⟨P1', q1', P2', q2', P3', q3', P4', q4', P5', q5', rfl⟩ := PcCells.shape hv'
        have hord := Hg.out.po j sp[j] _ (List.getElem?_eq_getElem hjl) Hget.out
        generalize sp[j].ref = rj at hcell' hord
        have z3 : w2.cell? ⟨b, off + j * 8, none⟩ = some (.int .i64 rj) := (Same.any (D := Any) (hbW.trans (hbe.mono hbW.size))).cell trivial (by simpa using hcell' 0 _ rfl)
        have hd : decide (pr ≤ rj) = false := by have h : rj < pr := hord; simp; omega
        have hd0 : decide ((0 : Int) < (j : Int) + 1) = true := decide_eq_true (by omega)
        have hw1 : IntKind.i64.wrap ((j : Int) + 1 - 1) = (j : Int) := by rw [IntWalk.i64_in _ (by omega)]; omega
        have hjn : j < n1 := by omega
        clear hcell' hv' hord
        go_wp2_with (fail)
        go_quiet (fail)
        go_wp2_with (fail)
        exact ⟨⟨j + 1 + 1, by omega, by go_num, ⟨hbe.os, hbe.tape, hbe.output, hbe.size, hbe.block⟩⟩, by simp [intOf]; omega⟩
    · obtain rfl : k = n1 := by omega
      have hB2 := hB.below hb lB
      have z2 := hB2.cell 2
      simp only [List.getElem?_cons_succ, List.getElem?_cons_zero] at z2
      clear r1 a1 k0 k1 k2 hsame hlt
      go_wp2_with (fail)
      obtain ⟨w0, hw0⟩ : ∃ w0, w0 = wr := ⟨_, rfl⟩
      subst hw0
      go_loopw [57] (fun i wr => ∃ k : Nat, k ≤ n2 ∧ i = .int .i64 k ∧ Below W.heap.size W wr) (fun i _ => n2 - (intOf i).toNat)
      case atStart => exact ⟨0, Nat.zero_le _, rfl, hb⟩
      case round =>
        clear hwr hb z2 hB2
        obtain ⟨k, hk, rfl, hb⟩ := hrel
        have hwr : Below w.heap.size w wr := hbW.trans (hb.mono hbW.size)
        have hsame : Same Any w wr := Same.any hwr
        by_cases hlt : k < n2
        · have hkl : k < sw.length := by have := H2.out; omega
          obtain ⟨b, off, cs, rfl, hD, hv, hcell⟩ := r2.elem (WyCells.stable 41) a2 H2.out hkl
          have hgw := Hg.out.ws _ (List.getElem_mem hkl)
          have hget : sw[k]? = some sw[k] := List.getElem?_eq_getElem hkl
          generalize sw[k] = X at hv hgw hget
          have Hget := Lib.hid hget
          obtain ⟨yf, yt, yl⟩ := X
          obtain ⟨L1, l1, ls1, rfl, _, ⟨m1, m2, m3⟩, rl, al⟩ := hv
          obtain ⟨⟨f1, f2⟩, ⟨t1, t2⟩, hne, hnl⟩ := hgw
          simp only at hcell m1 m2 m3 rl al f1 f2 t1 t2 hne hnl
          have hl5 := hnl.2
          have HNL := Lib.hid hnl
          obtain ⟨ny, hny⟩ : ∃ ny, ny = yl.length := ⟨_, rfl⟩
          rw [← hny] at hcell m1 m2 rl hl5
          have HNY := Lib.hid hny
          clear hny
          have g0 := hsame.cell hD (hcell 0 _ rfl)
          have g1 := hsame.cell hD (hcell 1 _ rfl)
          have g2 := hsame.cell hD (hcell 2 _ rfl)
          simp only [Nat.add_zero, ← Nat.add_assoc] at g0 g1 g2
          have e1 : (yf == yt) = false := by simp; exact hne
          have e2 : decide (yf = yt) = false := decide_eq_false hne
          have e3 : decide ((100 : Int) < (ny : Int)) = false := decide_eq_false (by omega)
          clear hcell hnl hne hget
          go_upto_region 21 with (first | (go_at_call 46; refine (isNode_any _ _ ⟨f1, f2⟩).mono ?_; rintro e w' ⟨rfl, rfl⟩) | (go_at_call 46; refine (isNode_any _ _ ⟨t1, t2⟩).mono ?_; rintro e w' ⟨rfl, rfl⟩))
          obtain ⟨W3, hW3⟩ : ∃ W3, W3 = wr.alloc (.cells #[.int .i64 yf, .int .i64 yt, .slice L1 ny l1] 51) := ⟨_, rfl⟩
          have hB3 : Blk W3 wr.heap.size 51 [.int .i64 yf, .int .i64 yt, .slice L1 ny l1] := by rw [hW3]; exact Blk.new wr _ _
          have hb3 : Below W.heap.size W W3 := by rw [hW3]; exact hb.alloc hb.size _
          rw [← hW3]
          clear hW3 g0 g1 g2 hsame hwr hb
          have hwr3 : Below w.heap.size w W3 := hbW.trans (hb3.mono hbW.size)
          have hBB := hB.below hb3 lB
          have z0 := hB3.cell 0
          have z1 := hB3.cell 1
          have z2 := hB3.cell 2
          have z3 := hBB.cell 2
          simp only [List.getElem?_cons_succ, List.getElem?_cons_zero] at z0 z1 z2 z3
          have lb3 := hB3.lt
          have lb4 := hBB.lt
          by_cases hk0 : k = 0
          · have hd0 : decide ((0 : Int) < (k : Int)) = false := decide_eq_false (by omega)
            have hd0' : decide (0 < k) = false := decide_eq_false (by omega)
            clear hk0
            go_wp2_with (fail)
            go_quiet (fail)
            have hb5 : Below W3.heap.size W3 (W3.drewN nq) := ⟨rfl, rfl, rfl, Nat.le_refl _, fun _ _ => rfl⟩
            generalize W3.drewN nq = w5 at hb5 ⊢
            have y2' := (hB3.below hb5 hB3.lt).cell 2
            simp only [List.getElem?_cons_succ, List.getElem?_cons_zero] at y2'
            go_wp2_with (fail)
            have hb5W : Below W.heap.size W w5 := hb3.trans (hb5.mono hb3.size)
            have hwr5 : Below w.heap.size w w5 := hbW.trans (hb5W.mono hbW.size)
            have y2 := (hB3.below hb5 hB3.lt).cell 2
            simp only [List.getElem?_cons_succ, List.getElem?_cons_zero] at y2
            clear z0 z1 z2 z3 hBB
            go_loopw [116] (fun i wr => ∃ m : Nat, m ≤ ny ∧ i = .int .i64 m ∧ Below w5.heap.size w5 wr) (fun i _ => ny - (intOf i).toNat)
            case atStart => exact ⟨0, Nat.zero_le _, rfl, Below.refl _ _⟩
            case round =>
              obtain ⟨m, hm, rfl, hbm⟩ := hrel
              have hwm : Below w.heap.size w wr := hwr5.trans (hbm.mono hwr5.size)
              have hsame : Same Any w wr := Same.any hwm
              by_cases hml : m < ny
              · have hkl : m < yl.length := by have := HNY.out; omega
                obtain ⟨bl, ol, cs, rfl, hD, hv, hcell⟩ := rl.elem (LCells.stable 41) al HNY.out hkl
                have hgl := (HNL.out.1 _ (List.getElem_mem hkl)).1
                generalize yl[m] = X at hv hgl
                obtain ⟨lk, lf, lt, ln, ls, ⟨vk, vn, vt, va⟩⟩ := X
                obtain ⟨vs, rfl, hfit, hvv⟩ := id hv
                obtain ⟨A6, c6, rfl⟩ := hvv.form
                simp only [V.kind, V.num, V.text, V.args] at hcell hv
                have g0 := hsame.cell hD (hcell 0 _ rfl)
                have g1 := hsame.cell hD (hcell 1 _ rfl)
                have g2 := hsame.cell hD (hcell 2 _ rfl)
                have g3 := hsame.cell hD (hcell 3 _ rfl)
                have g4 := hsame.cell hD (hcell 4 _ rfl)
                have g5 := hsame.cell hD (hcell 5 _ rfl)
                have g6 := hsame.cell hD (hcell 6 _ rfl)
                have g7 := hsame.cell hD (hcell 7 _ rfl)
                have g8 := hsame.cell hD (hcell 8 _ rfl)
                simp only [Nat.add_zero, ← Nat.add_assoc] at g0 g1 g2 g3 g4 g5 g6 g7 g8
                have CK := Lib.hid (checkL_any 41 (⟨lk, lf, lt, ln, ls, V.mk vk vn vt va⟩ : L) [.int .i64 lk, .int .i64 lf, .int .i64 lt, .int .i64 ln, .string ls, .int .i64 vk, .int .i64 vn, .string vt, .slice A6 va.length c6] (wr.alloc (.cells #[.int .i64 lk, .int .i64 lf, .int .i64 lt, .int .i64 ln, .string ls, .int .i64 vk, .int .i64 vn, .string vt, .slice A6 va.length c6] 55)) (by omega) ((LCells.stable 41).keep ((LCells.stable 41).keep hv hsame) (Same.alloc _ _ _)) hgl)
                clear hgl hcell hv hvv hsame hfit
                go_wp2_with (fail)
                refine CK.out.mono ?_
                rintro e w6 ⟨rfl, hb6⟩
                clear CK
                go_wp2_with (fail)
                exact ⟨⟨m + 1, by omega, by go_num, (hbm.alloc hbm.size _).trans (hb6.mono (by have := hbm.size; simp; omega))⟩, by simp [intOf]; omega⟩
              · go_wp2_with (fail)
                exact ⟨⟨k + 1, by omega, by go_num, hb5W.trans (hbm.mono hb5W.size)⟩, by simp [intOf]; omega⟩
          · obtain ⟨j, rfl⟩ : ∃ j, k = j + 1 := ⟨k - 1, by omega⟩
            have hjl : j < sw.length := by omega
            obtain ⟨b', off', cs', e, hD', hv', hcell'⟩ := r2.elem (WyCells.stable 41) a2 H2.out hjl
            injection e with e
            injection e with e1 e2
            subst e1 e2
            obtain ⟨P1', q1', rfl⟩ := WyCells.out hv'
            have hord := Hg.out.wo j sw[j] _ (List.getElem?_eq_getElem hjl) Hget.out
            have hwx := Hg.out.ws _ (List.getElem_mem hjl)
            obtain ⟨⟨x1, x2⟩, ⟨x3, x4⟩, _⟩ := hwx
            generalize sw[j].from_ = xf at hcell' hord x1 x2
            generalize sw[j].to_ = xt at hcell' hord x3 x4
            obtain ⟨ho1, ho2⟩ := hord
            simp only at ho1 ho2
            subst ho1
            have z4 : W3.cell? ⟨b, off + j * 3, none⟩ = some (.int .i64 xf) := (Same.any (D := Any) hwr3).cell trivial (by simpa using hcell' 0 _ rfl)
            have z5 : W3.cell? ⟨b, off + j * 3 + 1, none⟩ = some (.int .i64 xt) := (Same.any (D := Any) hwr3).cell trivial (by simpa [Nat.add_assoc] using hcell' 1 _ rfl)
            have hd0 : decide ((0 : Int) < (j : Int) + 1) = true := decide_eq_true (by omega)
            have hd1 : decide (yt - xt ≤ 0) = false := decide_eq_false (by omega)
            have hw1 : IntKind.i64.wrap ((j : Int) + 1 - 1) = (j : Int) := by rw [IntWalk.i64_in _ (by omega)]; omega
            have hw2 : IntKind.i64.wrap (xf - xf) = 0 := by rw [IntWalk.i64_in _ (by omega)]; omega
            have hw3 : IntKind.i64.wrap (yt - xt) = yt - xt := IntWalk.i64_in _ (by omega)
            have hjn : j < n2 := by omega
            have hw4 : IntKind.i64.wrap (j : Int) = (j : Int) := IntWalk.i64_in _ (by omega)
            have hjn2 : (j : Int) < (n2 : Int) := by omega
            clear hcell' hv'
            go_wp2_with (fail)
            refine wp_region_still_tail 23 (by kernel_rfl) (by kernel_rfl) ?_
            have hb4 : Below W3.heap.size W3 W3.drew := ⟨rfl, rfl, rfl, Nat.le_refl _, fun _ _ => rfl⟩
            change wpStill _ _ W3.drew _ _ _
            simp only [List.take_succ_cons, List.take_zero, List.drop_succ_cons, List.drop_zero]
            repeat still_step
            refine wpStill_nil ?_
            change wpList _ _ _ _ _ W3.drew
            go_wp2_with (go_at_call 47; refine (or_any _ _ _ (yt - xt) _ (by omega) (by go_simp) (by go_simp)).mono ?_; rintro e w' ⟨rfl, rfl⟩)
            have hb5 : Below W3.heap.size W3 (W3.alloc (.cells #[.int .i64 0, .int .i64 (yt - xt)] 3)).drew := by have h := (Below.refl W3.heap.size W3).alloc (Nat.le_refl _) (.cells #[.int .i64 0, .int .i64 (yt - xt)] 3); exact ⟨h.os, h.tape, h.output, h.size, h.block⟩
            generalize (W3.alloc (.cells #[.int .i64 0, .int .i64 (yt - xt)] 3)).drew = w5 at hb5 ⊢
            have hb5W : Below W.heap.size W w5 := hb3.trans (hb5.mono hb3.size)
            have hwr5 : Below w.heap.size w w5 := hbW.trans (hb5W.mono hbW.size)
            have y2 := (hB3.below hb5 hB3.lt).cell 2
            simp only [List.getElem?_cons_succ, List.getElem?_cons_zero] at y2
            clear z0 z1 z2 z3 hBB
            go_loopw [116] (fun i wr => ∃ m : Nat, m ≤ ny ∧ i = .int .i64 m ∧ Below w5.heap.size w5 wr) (fun i _ => ny - (intOf i).toNat)
            case atStart => exact ⟨0, Nat.zero_le _, rfl, Below.refl _ _⟩
            case round =>
              obtain ⟨m, hm, rfl, hbm⟩ := hrel
              have hwm : Below w.heap.size w wr := hwr5.trans (hbm.mono hwr5.size)
              have hsame : Same Any w wr := Same.any hwm
              by_cases hml : m < ny
              · have hkl : m < yl.length := by have := HNY.out; omega
                obtain ⟨bl, ol, cs, rfl, hD, hv, hcell⟩ := rl.elem (LCells.stable 41) al HNY.out hkl
                have hgl := (HNL.out.1 _ (List.getElem_mem hkl)).1
                generalize yl[m] = X at hv hgl
                obtain ⟨lk, lf, lt, ln, ls, ⟨vk, vn, vt, va⟩⟩ := X
                obtain ⟨vs, rfl, hfit, hvv⟩ := id hv
                obtain ⟨A6, c6, rfl⟩ := hvv.form
                simp only [V.kind, V.num, V.text, V.args] at hcell hv
                have g0 := hsame.cell hD (hcell 0 _ rfl)
                have g1 := hsame.cell hD (hcell 1 _ rfl)
                have g2 := hsame.cell hD (hcell 2 _ rfl)
                have g3 := hsame.cell hD (hcell 3 _ rfl)
                have g4 := hsame.cell hD (hcell 4 _ rfl)
                have g5 := hsame.cell hD (hcell 5 _ rfl)
                have g6 := hsame.cell hD (hcell 6 _ rfl)
                have g7 := hsame.cell hD (hcell 7 _ rfl)
                have g8 := hsame.cell hD (hcell 8 _ rfl)
                simp only [Nat.add_zero, ← Nat.add_assoc] at g0 g1 g2 g3 g4 g5 g6 g7 g8
                have CK := Lib.hid (checkL_any 41 (⟨lk, lf, lt, ln, ls, V.mk vk vn vt va⟩ : L) [.int .i64 lk, .int .i64 lf, .int .i64 lt, .int .i64 ln, .string ls, .int .i64 vk, .int .i64 vn, .string vt, .slice A6 va.length c6] (wr.alloc (.cells #[.int .i64 lk, .int .i64 lf, .int .i64 lt, .int .i64 ln, .string ls, .int .i64 vk, .int .i64 vn, .string vt, .slice A6 va.length c6] 55)) (by omega) ((LCells.stable 41).keep ((LCells.stable 41).keep hv hsame) (Same.alloc _ _ _)) hgl)
                clear hgl hcell hv hvv hsame hfit
                go_wp2_with (fail)
                refine CK.out.mono ?_
                rintro e w6 ⟨rfl, hb6⟩
                clear CK
                go_wp2_with (fail)
                exact ⟨⟨m + 1, by omega, by go_num, (hbm.alloc hbm.size _).trans (hb6.mono (by have := hbm.size; simp; omega))⟩, by simp [intOf]; omega⟩
              · go_wp2_with (fail)
                exact ⟨⟨j + 1 + 1, by omega, by go_num, hb5W.trans (hbm.mono hb5W.size)⟩, by simp [intOf]; omega⟩
        · go_wp2_with (fail)
          go_ret
          exact ⟨rfl, hwr⟩
end Go.Proofs.Yteojmmjanjilaaa
