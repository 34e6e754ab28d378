/- ValueMail returns true for every input, and leaves its argument as it was. No condition. (Printed by lawmail.py.) -/
import Derived.Test.YtgcpclbkjplipaaRows
import Derived.Test.YtgcpclbkjplipaaLawRaw
import Derived.Test.YtgcpclbkjplipaaMailPar
import Derived.Test.YtgcpclbkjplipaaMailGood
import Derived.Test.YtgcpclbkjplipaaMailIo
import Derived.Test.YtgcpclbkjplipaaMailReadP
import Derived.Test.YtgcpclbkjplipaaMailRead
import Derived.Test.YtgcpclbkjplipaaMailEq
set_option linter.unusedVariables false
namespace Go.Proofs.Ytgcpclbkjplipaa
open Go.RowKit Go.Mem Go.Val

theorem LCells.out {d : Nat} {w : World} {D : Nat → Prop} {cs : List Value} {x : L} (h : LCells d w D cs x) : ∃ A c, cs = [.int .i64 x.kind, .int .i64 x.from_, .int .i64 x.to_, .int .i64 x.num, .string x.text, .int .i64 x.val.kind, .int .i64 x.val.num, .string x.val.text, .slice A x.val.args.length c] := by
  obtain ⟨vs, rfl, _, hv⟩ := h
  obtain ⟨A, c, rfl⟩ := hv.form
  exact ⟨A, c, rfl⟩
theorem LCells.okv {d : Nat} {w : World} {D : Nat → Prop} {cs : List Value} {x : L} (h : LCells d w D cs x) : okV d x.val := by
  obtain ⟨vs, rfl, _, hv⟩ := h
  exact hv.ok
theorem SvCells.out {d : Nat} {w : World} {D : Nat → Prop} {cs : List Value} {s : Sv} (h : SvCells d w D cs s) : ∃ A1 c1 A2 c2, cs = [.string s.actor, .slice A1 s.state.length c1, .slice A2 s.inputs.length c2] := by
  obtain ⟨A1, c1, vs1, A2, c2, vs2, rfl, _⟩ := h
  exact ⟨A1, c1, A2, c2, rfl⟩
theorem PcCells.out {d : Nat} {w : World} {D : Nat → Prop} {cs : List Value} {p : Pc} (h : PcCells d w D cs p) : ∃ A1 c1 A2 c2 A3 c3 A4 c4 A5 c5, cs = [.int .i64 p.ref, .string p.saved.actor, .slice A1 p.saved.state.length c1, .slice A2 p.saved.inputs.length c2, .slice A3 p.box.length c3, .int .i64 p.ticks, .slice A4 p.watches.length c4, .slice A5 p.links.length c5] ∧ SvCells d w D [.string p.saved.actor, .slice A1 p.saved.state.length c1, .slice A2 p.saved.inputs.length c2] p.saved := by
  obtain ⟨sv, A3, c3, vs3, A4, c4, A5, c5, rfl, _, _, hs, _⟩ := h
  obtain ⟨A1, c1, A2, c2, rfl⟩ := SvCells.out hs
  exact ⟨A1, c1, A2, c2, A3, c3, A4, c4, A5, c5, rfl, hs⟩
theorem SvCells.pc {d : Nat} {w : World} {D : Nat → Prop} {cs : List Value} {s : Sv} (h : SvCells d w D cs s) : PcCells d w D (.int .i64 0 :: (cs ++ [.slice none 0 0, .int .i64 0, .slice none 0 0, .slice none 0 0])) ⟨0, s, [], 0, [], []⟩ :=
  ⟨cs, none, 0, [], none, 0, none, 0, rfl, ⟨by simp only; omega, by simp only; omega⟩, ⟨by simp only; omega, by simp only; omega⟩, h, ⟨by simp, by simp, by simp⟩, ⟨by simp, by simp, by simp⟩, ⟨by simp, by simp, by simp⟩, Reads.empty, All2.nil, Reads.empty, Reads.empty⟩

set_option maxRecDepth 100000 in
set_option maxHeartbeats 4000000 in
theorem valueMail_any (n0 : Int) (A : Option Addr) (n c : Nat) (l : List Raw) (rss : List (List Value)) (w : World) (hi : I64 n0) (hn : n = l.length) (hnc : n ≤ c) (hcm : c ≤ maxLen) (hr : Reads w Any 4 A n rss.flatten) (ha : All2 (RawCells w Any) rss l) :
    Calls Try.prog 10 #[.int .i64 n0, .slice A n c] w fun e w' => e = .returned (.bool true) ∧ Below w.heap.size w w' := by
  have Hn := Lib.hid hn
  clear hn
  have q1 := restI_bd n0 9000 (by omega)
  obtain ⟨q1a, q1b⟩ := q1
  generalize hq : restI n0 9000 = q at q1a q1b
  have Hq := Lib.hid hq
  clear hq
  go_enter Try.func10, Try.ntmps10
  go_wp2_with (fail)
  refine (letterOf_any l A n c rss w Hn.out hnc hcm hr ha).mono ?_
  rintro e1 w1 ⟨cs1, rfl, hL1, hb1⟩
  obtain ⟨B1, d1, rfl⟩ := LCells.out hL1
  have nL0 := letF_nice l (LCells.okv hL1)
  generalize letF l = x at hL1 nL0 ⊢
  obtain ⟨lk, lf, lt, ln, ls, ⟨vk, vn, vt, va⟩⟩ := x
  simp only [V.kind, V.num, V.text, V.args] at hL1 ⊢
  have nL := Lib.hid nL0
  have hr1 := hr.keep (Same.any hb1)
  have HA := Lib.hid ha
  clear nL0 hr ha
  go_wp2_with (go_at_call 17; refine (rest_q n0 9000 _ q hi (by omega) (by omega) Hq.out).mono ?_; rintro e w' ⟨rfl, rfl⟩)
  refine (parcelOf_any l (1 + q) A n c rss w1 ⟨by omega, by omega⟩ Hn.out hnc hcm hr1 (HA.out.imp fun _ _ h => h)).mono ?_
  rintro e2 w2 ⟨cs2, rfl, hP2, hb2⟩
  obtain ⟨P1, Pc1, P2, Pc2, P3, Pc3, P4, Pc4, P5, Pc5, rfl, hS2⟩ := PcCells.out hP2
  have nP0 := parF_nice l (1 + q) ⟨by omega, by omega⟩ (PcCells.oks hP2)
  generalize parF l (1 + q) = p at hP2 hS2 nP0 ⊢
  obtain ⟨pr, ⟨sa, ss, si⟩, pb, pt, pw, pl⟩ := p
  simp only at hP2 hS2 ⊢
  have nP := Lib.hid nP0
  clear nP0 hr1 HA
  go_wp2_with (fail)
  obtain ⟨W, hW⟩ : ∃ W, W = (w2.alloc (.cells #[.int .i64 lk, .int .i64 lf, .int .i64 lt, .int .i64 ln, .string ls, .int .i64 vk, .int .i64 vn, .string vt, .slice B1 va.length d1] 61)).alloc (.cells #[.int .i64 pr, .string sa, .slice P1 ss.length Pc1, .slice P2 si.length Pc2, .slice P3 pb.length Pc3, .int .i64 pt, .slice P4 pw.length Pc4, .slice P5 pl.length Pc5] 68) := ⟨_, rfl⟩
  have hb12 := hb1.trans (hb2.mono hb1.size)
  obtain ⟨bL, bP, hbW, hsW⟩ := blks2 w2 61 68 [.int .i64 lk, .int .i64 lf, .int .i64 lt, .int .i64 ln, .string ls, .int .i64 vk, .int .i64 vn, .string vt, .slice B1 va.length d1] [.int .i64 pr, .string sa, .slice P1 ss.length Pc1, .slice P2 si.length Pc2, .slice P3 pb.length Pc3, .int .i64 pt, .slice P4 pw.length Pc4, .slice P5 pl.length Pc5] W hW
  have hwW : Below w.heap.size w W := hb12.trans (hbW.mono hb12.size)
  have hLW : LCells 41 W Any [.int .i64 lk, .int .i64 lf, .int .i64 lt, .int .i64 ln, .string ls, .int .i64 vk, .int .i64 vn, .string vt, .slice B1 va.length d1] (⟨lk, lf, lt, ln, ls, V.mk vk vn vt va⟩ : L) := (LCells.stable 41).keep ((LCells.stable 41).keep ((LCells.stable 41).imp hL1 fun _ _ _ => trivial) (Same.any hb2)) (Same.any hbW)
  have hPW : PcCells 41 W Any [.int .i64 pr, .string sa, .slice P1 ss.length Pc1, .slice P2 si.length Pc2, .slice P3 pb.length Pc3, .int .i64 pt, .slice P4 pw.length Pc4, .slice P5 pl.length Pc5] (⟨pr, ⟨sa, ss, si⟩, pb, pt, pw, pl⟩ : Pc) := (PcCells.stable 41).keep ((PcCells.stable 41).imp hP2 fun _ _ _ => trivial) (Same.any hbW)
  have hSW : SvCells 41 W Any [.string sa, .slice P1 ss.length Pc1, .slice P2 si.length Pc2] (⟨sa, ss, si⟩ : Sv) := (SvCells.stable 41).keep ((SvCells.stable 41).imp hS2 fun _ _ _ => trivial) (Same.any hbW)
  rw [← hW]
  clear hW hL1 hP2 hS2 hb1 hb2 hb12
  refine (bytesL_any 41 (⟨lk, lf, lt, ln, ls, V.mk vk vn vt va⟩ : L) [.int .i64 lk, .int .i64 lf, .int .i64 lt, .int .i64 ln, .string ls, .int .i64 vk, .int .i64 vn, .string vt, .slice B1 va.length d1] W (by omega) hLW nL.out.1 nL.out.2.1 (by have := nL.out.2.2.2.2; omega)).mono ?_
  rintro e3 w3 ⟨A3, c3, rfl, ho3, hb3⟩
  obtain ⟨hc3, hm3, hr3⟩ := own_reads (by omega) ho3
  generalize hN3 : (encL 41 (⟨lk, lf, lt, ln, ls, V.mk vk vn vt va⟩ : L)).length = N3 at hr3 hc3 ⊢
  have HN3 := Lib.hid hN3
  have hw3 := hwW.trans (hb3.mono hwW.size)
  have bL3 := bL.below hb3 bL.lt
  have bP3 := bP.below hb3 bP.lt
  have hL3 := (LCells.stable 41).keep hLW (Same.any hb3)
  have hP3 := (PcCells.stable 41).keep hPW (Same.any hb3)
  have hS3 := (SvCells.stable 41).keep hSW (Same.any hb3)
  clear hN3 ho3 hb3 hwW bL bP hLW hPW hSW hbW hsW
  go_wp2_with (fail)
  refine (ReadL_any A3 N3 c3 (encL 41 (⟨lk, lf, lt, ln, ls, V.mk vk vn vt va⟩ : L)) (⟨lk, lf, lt, ln, ls, V.mk vk vn vt va⟩ : L) w3 HN3.out.symm hc3 hm3 (hr3.imp (by omega) fun _ _ _ => trivial) (by have := nL.out.2.2.2.2; omega) (dec_nice nL.out) nL.out.1).mono ?_
  rintro e4 w4 ⟨cs4, rfl, hY4, hb4⟩
  obtain ⟨B4, d4, rfl⟩ := LCells.out hY4
  simp only [V.kind, V.num, V.text, V.args] at hY4 ⊢
  have hY4' := (LCells.stable 41).imp hY4 (D' := Any) fun _ _ _ => trivial
  have hw4 := hw3.trans (hb4.mono hw3.size)
  have bL4 := bL3.below hb4 bL3.lt
  have bP4 := bP3.below hb4 bP3.lt
  have hL4 := (LCells.stable 41).keep hL3 (Same.any hb4)
  have hP4 := (PcCells.stable 41).keep hP3 (Same.any hb4)
  have hS4 := (SvCells.stable 41).keep hS3 (Same.any hb4)
  clear hr3 hY4 hb4 hw3 bL3 bP3 hL3 hP3 hS3
  obtain ⟨W4, hW4⟩ : ∃ W4, W4 = w4.alloc (.cells #[.int .i64 lk, .int .i64 lf, .int .i64 lt, .int .i64 ln, .string ls, .int .i64 vk, .int .i64 vn, .string vt, .slice B4 va.length d4] 61) := ⟨_, rfl⟩
  have kp0 := bP4.cell 0
  have kp1 := bP4.cell 1
  have kp2 := bP4.cell 2
  have kp3 := bP4.cell 3
  have kp4 := bP4.cell 4
  have kp5 := bP4.cell 5
  have kp6 := bP4.cell 6
  have kp7 := bP4.cell 7
  simp only [List.getElem?_cons_succ, List.getElem?_cons_zero] at kp0 kp1 kp2 kp3 kp4 kp5 kp6 kp7
  have lp4 := bP4.lt
  go_wp2_with (fail)
  rw [← hW4]
  clear kp0 kp1 kp2 kp3 kp4 kp5 kp6 kp7
  have bY5 : Blk W4 w4.heap.size 61 [.int .i64 lk, .int .i64 lf, .int .i64 lt, .int .i64 ln, .string ls, .int .i64 vk, .int .i64 vn, .string vt, .slice B4 va.length d4] := by rw [hW4]; exact Blk.new w4 _ _
  have hb5 : Below w4.heap.size w4 W4 := by rw [hW4]; exact (Below.refl _ _).alloc (Nat.le_refl _) _
  have hw5 := hw4.trans (hb5.mono hw4.size)
  have bL5 := bL4.below hb5 bL4.lt
  have bP5 := bP4.below hb5 bP4.lt
  have hL5 := (LCells.stable 41).keep hL4 (Same.any hb5)
  have hP5 := (PcCells.stable 41).keep hP4 (Same.any hb5)
  have hS5 := (SvCells.stable 41).keep hS4 (Same.any hb5)
  have hY5 := (LCells.stable 41).keep hY4' (Same.any hb5)
  clear hW4 hw4 bL4 bP4 hL4 hP4 hS4 hY4' hb5
  refine (bytesP_any 41 (⟨pr, ⟨sa, ss, si⟩, pb, pt, pw, pl⟩ : Pc) [.int .i64 pr, .string sa, .slice P1 ss.length Pc1, .slice P2 si.length Pc2, .slice P3 pb.length Pc3, .int .i64 pt, .slice P4 pw.length Pc4, .slice P5 pl.length Pc5] W4 (by omega) hP5 nP.out.1.1 nP.out.1.2.1 (by have h : (encP 41 (⟨pr, ⟨sa, ss, si⟩, pb, pt, pw, pl⟩ : Pc)).length ≤ 1000000 := nP.out.1.2.2.2.2; omega)).mono ?_
  rintro e6 w6 ⟨A6, c6, rfl, ho6, hb6⟩
  obtain ⟨hc6, hm6, hr6⟩ := own_reads (by omega) ho6
  generalize hN6 : (encP 41 (⟨pr, ⟨sa, ss, si⟩, pb, pt, pw, pl⟩ : Pc)).length = N6 at hr6 hc6 ⊢
  have HN6 := Lib.hid hN6
  have hw6 := hw5.trans (hb6.mono hw5.size)
  have bL6 := bL5.below hb6 bL5.lt
  have bP6 := bP5.below hb6 bP5.lt
  have bY6 := bY5.below hb6 bY5.lt
  have hL6 := (LCells.stable 41).keep hL5 (Same.any hb6)
  have hP6 := (PcCells.stable 41).keep hP5 (Same.any hb6)
  have hS6 := (SvCells.stable 41).keep hS5 (Same.any hb6)
  have hY6 := (LCells.stable 41).keep hY5 (Same.any hb6)
  clear hN6 ho6 hb6 hw5 bL5 bP5 bY5 hL5 hP5 hS5 hY5
  go_wp2_with (fail)
  refine (ReadP_any A6 N6 c6 (encP 41 (⟨pr, ⟨sa, ss, si⟩, pb, pt, pw, pl⟩ : Pc)) (⟨pr, ⟨sa, ss, si⟩, pb, pt, pw, pl⟩ : Pc) w6 HN6.out.symm hc6 hm6 (hr6.imp (by omega) fun _ _ _ => trivial) (by have h : (encP 41 (⟨pr, ⟨sa, ss, si⟩, pb, pt, pw, pl⟩ : Pc)).length ≤ 1000000 := nP.out.1.2.2.2.2; omega) (decP_nice nP.out) nP.out.1.1).mono ?_
  rintro e7 w7 ⟨cs7, rfl, hQ7, hb7⟩
  obtain ⟨Q1, Qc1, Q2, Qc2, Q3, Qc3, Q4, Qc4, Q5, Qc5, rfl, _⟩ := PcCells.out hQ7
  simp only at hQ7 ⊢
  have hQ7' := (PcCells.stable 41).imp hQ7 (D' := Any) fun _ _ _ => trivial
  have hw7 := hw6.trans (hb7.mono hw6.size)
  have bL7 := bL6.below hb7 bL6.lt
  have bP7 := bP6.below hb7 bP6.lt
  have bY7 := bY6.below hb7 bY6.lt
  have hL7 := (LCells.stable 41).keep hL6 (Same.any hb7)
  have hP7 := (PcCells.stable 41).keep hP6 (Same.any hb7)
  have hS7 := (SvCells.stable 41).keep hS6 (Same.any hb7)
  have hY7 := (LCells.stable 41).keep hY6 (Same.any hb7)
  clear hr6 hQ7 hb7 hw6 bL6 bP6 bY6 hL6 hP6 hS6 hY6
  obtain ⟨W7, hW7⟩ : ∃ W7, W7 = w7.alloc (.cells #[.int .i64 pr, .string sa, .slice Q1 ss.length Qc1, .slice Q2 si.length Qc2, .slice Q3 pb.length Qc3, .int .i64 pt, .slice Q4 pw.length Qc4, .slice Q5 pl.length Qc5] 68) := ⟨_, rfl⟩
  have kp0 := bP7.cell 0
  have kp1 := bP7.cell 1
  have kp2 := bP7.cell 2
  have kp3 := bP7.cell 3
  have kp4 := bP7.cell 4
  have kp5 := bP7.cell 5
  have kp6 := bP7.cell 6
  have kp7 := bP7.cell 7
  simp only [List.getElem?_cons_succ, List.getElem?_cons_zero] at kp0 kp1 kp2 kp3 kp4 kp5 kp6 kp7
  have lp7 := bP7.lt
  go_wp2_with (fail)
  rw [← hW7]
  clear kp0 kp1 kp2 kp3 kp4 kp5 kp6 kp7
  have bQ8 : Blk W7 w7.heap.size 68 [.int .i64 pr, .string sa, .slice Q1 ss.length Qc1, .slice Q2 si.length Qc2, .slice Q3 pb.length Qc3, .int .i64 pt, .slice Q4 pw.length Qc4, .slice Q5 pl.length Qc5] := by rw [hW7]; exact Blk.new w7 _ _
  have hb8 : Below w7.heap.size w7 W7 := by rw [hW7]; exact (Below.refl _ _).alloc (Nat.le_refl _) _
  have hw8 := hw7.trans (hb8.mono hw7.size)
  have bL8 := bL7.below hb8 bL7.lt
  have bP8 := bP7.below hb8 bP7.lt
  have bY8 := bY7.below hb8 bY7.lt
  have hL8 := (LCells.stable 41).keep hL7 (Same.any hb8)
  have hP8 := (PcCells.stable 41).keep hP7 (Same.any hb8)
  have hS8 := (SvCells.stable 41).keep hS7 (Same.any hb8)
  have hY8 := (LCells.stable 41).keep hY7 (Same.any hb8)
  have hQ8 := (PcCells.stable 41).keep hQ7' (Same.any hb8)
  clear hW7 hw7 bL7 bP7 bY7 hL7 hP7 hS7 hY7 hQ7' hb8
  refine (bytesS_any 41 (⟨sa, ss, si⟩ : Sv) [.string sa, .slice P1 ss.length Pc1, .slice P2 si.length Pc2] W7 (by omega) hS8 nP.out.2.1 nP.out.2.2.1 (by have h : (encS 41 (⟨sa, ss, si⟩ : Sv)).length ≤ 1000000 := nP.out.2.2.2.2.2; omega)).mono ?_
  rintro e9 w9 ⟨A9, c9, rfl, ho9, hb9⟩
  obtain ⟨hc9, hm9, hr9⟩ := own_reads (by omega) ho9
  generalize hN9 : (encS 41 (⟨sa, ss, si⟩ : Sv)).length = N9 at hr9 hc9 ⊢
  have HN9 := Lib.hid hN9
  have hw9 := hw8.trans (hb9.mono hw8.size)
  have bL9 := bL8.below hb9 bL8.lt
  have bP9 := bP8.below hb9 bP8.lt
  have bY9 := bY8.below hb9 bY8.lt
  have bQ9 := bQ8.below hb9 bQ8.lt
  have hL9 := (LCells.stable 41).keep hL8 (Same.any hb9)
  have hP9 := (PcCells.stable 41).keep hP8 (Same.any hb9)
  have hS9 := (SvCells.stable 41).keep hS8 (Same.any hb9)
  have hY9 := (LCells.stable 41).keep hY8 (Same.any hb9)
  have hQ9 := (PcCells.stable 41).keep hQ8 (Same.any hb9)
  clear hN9 ho9 hb9 hw8 bL8 bP8 bY8 bQ8 hL8 hP8 hS8 hY8 hQ8
  go_wp2_with (fail)
  refine (ReadS_any A9 N9 c9 (encS 41 (⟨sa, ss, si⟩ : Sv)) (⟨sa, ss, si⟩ : Sv) w9 HN9.out.symm hc9 hm9 (hr9.imp (by omega) fun _ _ _ => trivial) (by have h : (encS 41 (⟨sa, ss, si⟩ : Sv)).length ≤ 1000000 := nP.out.2.2.2.2.2; omega) (decS_nice nP.out) nP.out.2.1).mono ?_
  rintro e10 w10 ⟨cs10, rfl, hT10, hb10⟩
  obtain ⟨T1, Tc1, T2, Tc2, rfl⟩ := SvCells.out hT10
  simp only at hT10 ⊢
  have hT10' := (SvCells.stable 41).imp hT10 (D' := Any) fun _ _ _ => trivial
  have hw10 := hw9.trans (hb10.mono hw9.size)
  obtain ⟨W10, hW10⟩ : ∃ W10, W10 = w10.alloc (.cells #[.string sa, .slice T1 ss.length Tc1, .slice T2 si.length Tc2] 65) := ⟨_, rfl⟩
  have hb11 : Below w10.heap.size w10 W10 := by rw [hW10]; exact (Below.refl _ _).alloc (Nat.le_refl _) _
  have hw11 := hw10.trans (hb11.mono hw10.size)
  have hb := hb10.trans (hb11.mono hb10.size)
  have bL11 := bL9.below hb bL9.lt
  have bP11 := bP9.below hb bP9.lt
  have bY11 := bY9.below hb bY9.lt
  have bQ11 := bQ9.below hb bQ9.lt
  have bT11 : Blk W10 w10.heap.size 65 [.string sa, .slice T1 ss.length Tc1, .slice T2 si.length Tc2] := by rw [hW10]; exact Blk.new w10 _ _
  have hL11 := (LCells.stable 41).keep hL9 (Same.any hb)
  have hP11 := (PcCells.stable 41).keep hP9 (Same.any hb)
  have hS11 := (SvCells.stable 41).keep hS9 (Same.any hb)
  have hY11 := (LCells.stable 41).keep hY9 (Same.any hb)
  have hQ11 := (PcCells.stable 41).keep hQ9 (Same.any hb)
  have hT11 := (SvCells.stable 41).keep hT10' (Same.any hb11)
  clear hr9 hT10 hT10' hb10 hb11 hb hw9 hw10 bL9 bP9 bY9 bQ9 hL9 hP9 hS9 hY9 hQ9
  go_upto_region 8 with (fail)
  rw [← hW10]
  clear hW10
  have kl0 := bL11.cell 0
  have kl1 := bL11.cell 1
  have kl2 := bL11.cell 2
  have kl3 := bL11.cell 3
  have kl4 := bL11.cell 4
  have kl5 := bL11.cell 5
  have kl6 := bL11.cell 6
  have kl7 := bL11.cell 7
  have kl8 := bL11.cell 8
  simp only [List.getElem?_cons_succ, List.getElem?_cons_zero] at kl0 kl1 kl2 kl3 kl4 kl5 kl6 kl7 kl8
  have ky0 := bY11.cell 0
  have ky1 := bY11.cell 1
  have ky2 := bY11.cell 2
  have ky3 := bY11.cell 3
  have ky4 := bY11.cell 4
  have ky5 := bY11.cell 5
  have ky6 := bY11.cell 6
  have ky7 := bY11.cell 7
  have ky8 := bY11.cell 8
  simp only [List.getElem?_cons_succ, List.getElem?_cons_zero] at ky0 ky1 ky2 ky3 ky4 ky5 ky6 ky7 ky8
  go_wp2_with (fail)
  refine (sameL_eq (⟨lk, lf, lt, ln, ls, V.mk vk vn vt va⟩ : L) [.int .i64 lk, .int .i64 lf, .int .i64 lt, .int .i64 ln, .string ls, .int .i64 vk, .int .i64 vn, .string vt, .slice B1 va.length d1] [.int .i64 lk, .int .i64 lf, .int .i64 lt, .int .i64 ln, .string ls, .int .i64 vk, .int .i64 vn, .string vt, .slice B4 va.length d4] W10 hL11 hY11).mono ?_
  rintro e12 w12 ⟨rfl, hb12⟩
  have hw12 := hw11.trans (hb12.mono hw11.size)
  have bP12 := bP11.below hb12 bP11.lt
  have bQ12 := bQ11.below hb12 bQ11.lt
  have bT12 := bT11.below hb12 bT11.lt
  have hP12 := (PcCells.stable 41).keep hP11 (Same.any hb12)
  have hS12 := (SvCells.stable 41).keep hS11 (Same.any hb12)
  have hQ12 := (PcCells.stable 41).keep hQ11 (Same.any hb12)
  have hT12 := (SvCells.stable 41).keep hT11 (Same.any hb12)
  clear hb12 hw11 bL11 bP11 bY11 bQ11 bT11 hL11 hP11 hS11 hY11 hQ11 hT11 kl0 kl1 kl2 kl3 kl4 kl5 kl6 kl7 kl8 ky0 ky1 ky2 ky3 ky4 ky5 ky6 ky7 ky8
  have kp0 := bP12.cell 0
  have kp1 := bP12.cell 1
  have kp2 := bP12.cell 2
  have kp3 := bP12.cell 3
  have kp4 := bP12.cell 4
  have kp5 := bP12.cell 5
  have kp6 := bP12.cell 6
  have kp7 := bP12.cell 7
  simp only [List.getElem?_cons_succ, List.getElem?_cons_zero] at kp0 kp1 kp2 kp3 kp4 kp5 kp6 kp7
  have kq0 := bQ12.cell 0
  have kq1 := bQ12.cell 1
  have kq2 := bQ12.cell 2
  have kq3 := bQ12.cell 3
  have kq4 := bQ12.cell 4
  have kq5 := bQ12.cell 5
  have kq6 := bQ12.cell 6
  have kq7 := bQ12.cell 7
  simp only [List.getElem?_cons_succ, List.getElem?_cons_zero] at kq0 kq1 kq2 kq3 kq4 kq5 kq6 kq7
  go_wp2_with (fail)
  refine (sameP_eq (⟨pr, ⟨sa, ss, si⟩, pb, pt, pw, pl⟩ : Pc) [.int .i64 pr, .string sa, .slice P1 ss.length Pc1, .slice P2 si.length Pc2, .slice P3 pb.length Pc3, .int .i64 pt, .slice P4 pw.length Pc4, .slice P5 pl.length Pc5] [.int .i64 pr, .string sa, .slice Q1 ss.length Qc1, .slice Q2 si.length Qc2, .slice Q3 pb.length Qc3, .int .i64 pt, .slice Q4 pw.length Qc4, .slice Q5 pl.length Qc5] w12 hP12 hQ12).mono ?_
  rintro e13 w13 ⟨rfl, hb13⟩
  have hw13 := hw12.trans (hb13.mono hw12.size)
  have bP13 := bP12.below hb13 bP12.lt
  have bT13 := bT12.below hb13 bT12.lt
  have hS13 := (SvCells.stable 41).keep hS12 (Same.any hb13)
  have hT13 := (SvCells.stable 41).keep hT12 (Same.any hb13)
  clear hb13 hw12 bP12 bQ12 bT12 hP12 hS12 hQ12 hT12 kp0 kp1 kp2 kp3 kp4 kp5 kp6 kp7 kq0 kq1 kq2 kq3 kq4 kq5 kq6 kq7
  have kp0 := bP13.cell 0
  have kp1 := bP13.cell 1
  have kp2 := bP13.cell 2
  have kp3 := bP13.cell 3
  have kp4 := bP13.cell 4
  have kp5 := bP13.cell 5
  have kp6 := bP13.cell 6
  have kp7 := bP13.cell 7
  simp only [List.getElem?_cons_succ, List.getElem?_cons_zero] at kp0 kp1 kp2 kp3 kp4 kp5 kp6 kp7
  have kt0 := bT13.cell 0
  have kt1 := bT13.cell 1
  have kt2 := bT13.cell 2
  simp only [List.getElem?_cons_succ, List.getElem?_cons_zero] at kt0 kt1 kt2
  go_wp2_with (fail)
  refine (sameP_eq ⟨0, (⟨sa, ss, si⟩ : Sv), [], 0, [], []⟩ [.int .i64 0, .string sa, .slice P1 ss.length Pc1, .slice P2 si.length Pc2, .slice none 0 0, .int .i64 0, .slice none 0 0, .slice none 0 0] [.int .i64 0, .string sa, .slice T1 ss.length Tc1, .slice T2 si.length Tc2, .slice none 0 0, .int .i64 0, .slice none 0 0, .slice none 0 0] w13 (SvCells.pc hS13) (SvCells.pc hT13)).mono ?_
  rintro e14 w14 ⟨rfl, hb14⟩
  go_wp2_with (fail)
  go_ret
  exact ⟨by simp, hw13.trans (hb14.mono hw13.size)⟩
end Go.Proofs.Ytgcpclbkjplipaa
namespace Go.Proofs.Ytgcpclbkjplipaa.valueMail
open Go.ChangeShapes Go.WideShapes Go.ChangeAt Go.RowKit Go.Mem Go.Law

theorem own : ownKnob Try.prog.godebug = none := by kernel_rfl
theorem laidOut : laidOutB Try.prog = true := by kernel_rfl

set_option maxRecDepth 100000 in
theorem lifted (os : Os) (started : os.Started) (H : Type) (enc : TypeId × Value → H) :
    ReturnsInHanded {} Try.checked os 10 .any (Rows.valueMailSpec.pre6 enc Try.prog Try.f10 Rows.valueMailRow.domain false) (Rows.valueMailSpec.post enc Try.prog Try.f10 false true false false) := by
  refine returnsInHanded_of_change (C := Try.checked) own started (by kernel_rfl) Try.func10
    (ChangeSpec.witness6 (enc := enc) (C := Try.checked) false ⟨#[], #[.int .i64 0, .slice none 0 0], []⟩ 8 (by kernel_rfl) (by kernel_rfl) (by kernel_rfl) (by kernel_rfl)) ?_
  intro W base args ds gs before hval0 hW hcnd _
  have hval : ∀ (j : Nat) t v, Try.f10.params[j]? = some t → args[j]? = some v → Value.okWide Try.prog W .any base t v := hval0
  have hW' : DataW.Whole enc Try.prog Try.f10.params.toList Rows.valueMailSpec.vars false W args.toList ds gs before := hW
  obtain ⟨p, q, hA0, hV, rfl, hfz, hnd⟩ := hW
  have hA : DataW.TrodAll enc Try.prog W 0 (fun _ => true) true Try.f10.params.toList args.toList ds p := hA0
  rw [Try.params10] at hA hval
  obtain ⟨v0, vs0, d0, ds0, p0, q0, hargs, rfl, rfl, h0, r0⟩ := trodAll_cons hA
  obtain ⟨v1, vs1, d1, ds1, p1, q1, rfl, rfl, rfl, h1, r1⟩ := trodAll_cons r0
  obtain ⟨rfl, rfl, rfl⟩ := trodAll_nil r1
  obtain rfl : args = #[v0, v1] := by cases args; simp_all
  obtain ⟨rfl, rfl⟩ := trodVars_none hV
  obtain ⟨a0, rfl, rfl, rfl, x0⟩ := open_int Try.underlying3 (hval 0 _ v0 rfl rfl) h0
  have w0 := i64_of_wf x0
  obtain ⟨A1, n1, c1, s1, l1, rfl, hn1, hc1, hd1, hr1, hl1⟩ := open_raws Try.underlying32 Try.underlying109 (by kernel_rfl) (by kernel_rfl) (by kernel_rfl) (by kernel_rfl) (by kernel_rfl) (by kernel_rfl) (by kernel_rfl) (hval 1 _ v1 rfl rfl) h1
  clear hA0 hval0
  refine (valueMail_any a0 A1 n1 c1 l1 s1 W w0 hn1 hc1 hd1 hr1 hl1).mono fun e W' ⟨he, bel⟩ => ?_
  subst he
  exact ⟨_, rfl, law_post (tb := 4) laidOut Try.underlying4 (by kernel_rfl) (by kernel_rfl) rfl rfl hW' bel⟩

/-- ████ THE STATEMENT ████ -/
theorem proved : Rows.ValueMailSaid :=
  OpenClaim.holds_of_wide 10 Try.f10 rfl rfl rfl rfl rfl rfl rfl ⟨rfl, rfl, rfl, rfl, rfl⟩ rfl rfl rfl rfl rfl (by kernel_rfl) Try.func10 (by kernel_rfl)
    (of_decide_eq_true (by kernel_rfl)) (by unfold Func.isWrapper; first | (rw [if_pos (by decide +kernel)]; kernel_rfl) | (rw [if_neg (by decide +kernel)]; exact ⟨rfl, rfl⟩))
    (fun os started H enc _ => lifted os started H enc)
#print axioms proved
end Go.Proofs.Ytgcpclbkjplipaa.valueMail

