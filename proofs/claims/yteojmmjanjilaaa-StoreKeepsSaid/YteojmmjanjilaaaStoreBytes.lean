/- Contract of store.Bytes: the encoding of a snapshot that is right. -/
import Derived.Test.YteojmmjanjilaaaStoreChk
import Derived.Test.YteojmmjanjilaaaPart10
import Derived.Deep.RegionHeld3
set_option linter.unusedVariables false
namespace Go.Proofs.Yteojmmjanjilaaa
open Go.RowKit Go.Mem Go.Val Go.Chunk

def headE (s : Snp) : List UInt8 := numE s.time.toNat 8 ++ [UInt8.ofNat s.parcels.length, UInt8.ofNat s.ways.length]
theorem snapE_eq (s : Snp) : snapE 41 s = headE s ++ (partsE 41 s).flatMap partE := by simp [snapE, headE]

theorem own_new (w : World) (cs : List Value) (e : TypeId) (base : Nat) (hb : base ≤ w.heap.size) (hc : cs.length ≤ maxLen) : (w.alloc (.cells cs.toArray e)).ownsRow base e 1 (.slice (some ⟨w.heap.size, 0, none⟩) cs.length cs.length) cs.length cs :=
  ⟨by simp, .inr ⟨w.heap.size, cs.length, cs.toArray, rfl, hb, heap_alloc_new w _, Nat.le_refl _, hc, by simp, by simp⟩⟩
theorem parts_at {sp : List Pc} {sw : List Wy} {k : Nat} : (∀ h : k < sp.length, (sp.map (encP 41) ++ sw.map (wayE 41))[k]? = some (encP 41 sp[k])) ∧ ∀ h : k < sw.length, (sp.map (encP 41) ++ sw.map (wayE 41))[sp.length + k]? = some (wayE 41 sw[k]) := by
  refine ⟨fun h => ?_, fun h => ?_⟩
  · rw [List.getElem?_append_left (by simpa using h)]
    simp [h]
  · rw [List.getElem?_append_right (by simp)]
    simp [h]
theorem flat_next (HD : List UInt8) (PS : List (List UInt8)) (k : Nat) (x : List UInt8) (h : PS[k]? = some x) : HD ++ (PS.take (k + 1)).flatMap partE = HD ++ (PS.take k).flatMap partE ++ partE x := by
  obtain ⟨hk, e⟩ := List.getElem?_eq_some_iff.1 h
  rw [List.take_succ_eq_append_getElem hk, List.flatMap_append, e]
  simp
theorem flat_bound (HD : List UInt8) (PS : List (List UInt8)) (h : HD.length = 10) (hl : PS.length ≤ 10) (hx : ∀ x ∈ PS, x.length ≤ 1000000) (k : Nat) : (HD ++ (PS.take k).flatMap partE).length ≤ 20000000 := by
  have h1 := flatMap_len partE 1000004 (PS.take k) (fun x hx' => by rw [partE_len]; have := hx x (List.mem_of_mem_take hx'); omega)
  have h2 : (PS.take k).length ≤ 10 := by rw [List.length_take]; omega
  have h3 := Nat.mul_le_mul_right 1000004 h2
  rw [List.length_append]
  omega
/-- number onto nothing -/
theorem num8_any (t base : Nat) (w : World) (ht : t ≤ 1099511627776) (hb : base ≤ w.heap.size) :
    Calls Try.prog 30 #[.slice none 0 0, .int .i64 (t : Int), .int .i64 8] w fun e w' => ∃ A c, e = .returned (.slice A 8 c) ∧ w'.ownsRow base 5 1 (.slice A 8 c) 8 (u8s (numE t 8)) ∧ Below w.heap.size w w' := by
  refine (number_any (.slice none 0 0) t 8 [] base w ht (by omega) (World.ownsRow_nil _ _ _ _) hb (by simp)).mono ?_
  rintro e w1 ⟨A, c, rfl, hg⟩
  have h8 : ([] : List Value).length + (numE t 8).length = 8 := by rw [numE_len]; rfl
  have h1 := hg.1
  rw [h8] at hg h1 ⊢
  exact ⟨A, c, rfl, by simpa using h1, ⟨hg.2.1.os, hg.2.1.tape, hg.2.1.output, hg.2.1.size, fun k hk => hg.2.1.block k hk (by simp [Value.ownBlock])⟩⟩
theorem below_ad {w w' : World} {o : Obj} (h : Below (w.alloc o).drew.heap.size (w.alloc o).drew w') : Below w.heap.size w w' :=
  ⟨h.os, h.tape, h.output, Nat.le_trans (by simp) h.size, fun k hk => (h.block k (by show k < (w.alloc o).heap.size; simp; omega)).trans (Below.heap_alloc w o k hk)⟩
theorem below_d {w w' : World} (h : Below w.drew.heap.size w.drew w') : Below w.heap.size w w' := ⟨h.os, h.tape, h.output, h.size, h.block⟩

set_option maxRecDepth 100000 in
set_option maxHeartbeats 4000000 in
theorem sbytes_any (s : Snp) (cs : List Value) (w : World) (hv : SnCells 41 w Any cs s) (hg : NiceSn s) :
    Calls Try.prog 15 #[.agg cs.toArray] w (WrPost w (snapE 41 s)) := by
  obtain ⟨A1, c1, vs1, A2, c2, vs2, rfl, hft, ⟨n1a, n1b, n1c⟩, ⟨n2a, n2b, n2c⟩, r1, a1, r2, a2⟩ := id hv
  have hnp := hg.np
  have hnw := hg.nw
  have htm := hg.time
  have Hg := Lib.hid hg
  have HE := Lib.hid (snapE_eq s)
  have Hparts : Hid (partsE 41 s = s.parcels.map (encP 41) ++ s.ways.map (wayE 41)) := rfl
  have Hhead : Hid (headE s = numE s.time.toNat 8 ++ [UInt8.ofNat s.parcels.length, UInt8.ofNat s.ways.length]) := rfl
  generalize headE s = HD at HE Hhead
  generalize partsE 41 s = PS at HE Hparts
  generalize snapE 41 s = SE at HE ⊢
  have hvW := (SnCells.stable 41).keep hv (Same.alloc Any w (.cells #[.int .i64 s.time, .slice A1 s.parcels.length c1, .slice A2 s.ways.length c2] 26))
  have CK := Lib.hid (schk_any s _ _ hvW hg)
  obtain ⟨st, sp, sw⟩ := s
  simp only at n1a n1b n1c n2a n2b n2c r1 a1 r2 a2 hnp hnw htm Hhead Hparts CK ⊢
  obtain ⟨ht0, ht1⟩ := htm
  clear hg hft hv hvW
  obtain ⟨t, rfl⟩ : ∃ t : Nat, st = (t : Int) := ⟨st.toNat, by omega⟩
  simp only [Int.toNat_natCast] at Hhead
  obtain ⟨n1, h1⟩ : ∃ n1, n1 = sp.length := ⟨_, rfl⟩
  obtain ⟨n2, h2⟩ : ∃ n2, n2 = sw.length := ⟨_, rfl⟩
  rw [← h1] at n1a n1b r1 hnp Hhead CK ⊢
  rw [← h2] at n2a n2b r2 hnw Hhead CK ⊢
  have H1 := Lib.hid h1
  have H2 := Lib.hid h2
  clear h1 h2
  go_enter Try.func15, Try.ntmps15
  go_wp2_with (fail)
  obtain ⟨W, hW⟩ : ∃ W, W = w.alloc (.cells #[.int .i64 (t : Int), .slice A1 n1 c1, .slice A2 n2 c2] 26) := ⟨_, rfl⟩
  have hB : Blk W w.heap.size 26 [.int .i64 (t : Int), .slice A1 n1 c1, .slice A2 n2 c2] := by rw [hW]; exact Blk.new w _ _
  have hbW : Below w.heap.size w W := by rw [hW]; exact (Below.refl _ _).alloc (Nat.le_refl _) _
  rw [← hW] at CK ⊢
  clear hW
  refine CK.out.mono ?_
  rintro e w0 ⟨rfl, hb0⟩
  have hB0 := hB.below hb0 hB.lt
  have hbw0 : Below w.heap.size w w0 := hbW.trans (hb0.mono hbW.size)
  clear CK hB hb0 hbW
  have k0 := hB0.cell 0
  have k1 := hB0.cell 1
  have k2 := hB0.cell 2
  simp only [List.getElem?_cons_succ, List.getElem?_cons_zero] at k0 k1 k2
  have lB := hB0.lt
  have u1 : IntKind.u8.wrap (n1 : Int) = (n1 : Int) := IntWalk.u8_in _ (by omega)
  have u2 : IntKind.u8.wrap (n2 : Int) = (n2 : Int) := IntWalk.u8_in _ (by omega)
  have HH : Hid (u8s HD = u8s (numE t 8) ++ [.int .u8 (n1 : Int), .int .u8 (n2 : Int)] ∧ HD.length = 10) := by
    unfold Hid
    rw [Hhead.out, u8s_append]
    refine ⟨?_, by simp [numE_len]⟩
    congr 1
    simp only [u8s, List.map_cons, List.map_nil]
    rw [ofNat_toNat (by omega), ofNat_toNat (by omega)]
  have HPB := Lib.hid (flat_bound HD PS HH.out.2 (by rw [Hparts.out]; have := H1.out; have := H2.out; simp; omega) (by have := partsE_len _ Hg.out; rw [Hparts.out]; exact this))
  go_upto_region 4 with (fail)
  go_cut [5] (fun s5 wc => wc.ownsRow w0.heap.size 5 1 s5 HD.length (u8s HD) ∧ Below w0.heap.size w0 wc)
  case first =>
    go_region_held3 (fun w' => w'.cell? ⟨w.heap.size, 0, none⟩ = some (.int .i64 (t : Int)) ∧ w'.cell? ⟨w.heap.size, 1, none⟩ = some (.slice A1 n1 c1) ∧ w'.cell? ⟨w.heap.size, 2, none⟩ = some (.slice A2 n2 c2))
      (first | exact ⟨k0, k1, k2⟩ | exact ⟨i0, i1, i2⟩ | exact ⟨j0, j1, j2⟩ | (simp [go_sem, k0, k1, k2, lB]; done) | (simp [go_sem, j0, j1, j2, lj]; done))
      (first
        | (rw [if_pos (by simp [Region.wanted])]; unfold Oper.wp; go_simp; go_at_call 30; refine (num8_any t w0.heap.size _ (by omega) (by simp)).mono ?_; rintro e w1 ⟨A3, c3, rfl, ho1, hb1⟩; dsimp only; have hb1' : Below w0.heap.size w0 w1 := (by first | exact below_d hb1 | exact below_ad hb1); have hB1 := hB0.below hb1' lB; have j0 := hB1.cell 0; have j1 := hB1.cell 1; have j2 := hB1.cell 2; simp only [List.getElem?_cons_succ, List.getElem?_cons_zero] at j0 j1 j2; have lj := hB1.lt)
        | (refine step_app_u8 _ rfl (.tmp 21) (.tmp 30) (by rfl) (ho1.alloc _) rfl (Reads.new (D := Any) _ [.int .u8 (n1 : Int), .int .u8 (n2 : Int)] 1 2 _ trivial rfl) rfl (by simp [Value.oneCell']) (by omega) (by have := hb1'.size; simp; omega) ?_; intro v2 w2 hown2 hg2 hat2; have hB2 := (hB1.alloc (.cells #[.int .u8 (n1 : Int), .int .u8 (n2 : Int)] 5)).grown hg2 (fun e => by have := (ho1.lt _ e.symm).1; omega); have i0 := hB2.cell 0; have i1 := hB2.cell 1; have i2 := hB2.cell 2; simp only [List.getElem?_cons_succ, List.getElem?_cons_zero] at i0 i1 i2)
        | (refine step_app_u8 _ rfl (.tmp 21) (.tmp 30) (by rfl) ho1 rfl ((Reads.new (D := Any) w0 [.int .u8 (n1 : Int), .int .u8 (n2 : Int)] 1 2 5 trivial rfl).drew.keep (Same.any hb1)) rfl (by simp [Value.oneCell']) (by omega) (by have := hb1'.size; omega) ?_; intro v2 w2 hown2 hg2 hat2; have hB2 := hB1.grown hg2 (fun e => by have := (ho1.lt _ e.symm).1; omega); have i0 := hB2.cell 0; have i1 := hB2.cell 1; have i2 := hB2.cell 2; simp only [List.getElem?_cons_succ, List.getElem?_cons_zero] at i0 i1 i2))
    all_goals go_wp2_with (fail)
    all_goals go_meet
    all_goals
      refine ⟨by rw [HH.out.1, HH.out.2]; exact hown2, ?_⟩
      first
        | exact (hb1'.alloc hb1'.size _).grown hg2 (by have := hb1'.size; simp; omega) (fun k hk => (ho1.lt k hk).1)
        | exact hb1'.grown hg2 hb1'.size (fun k hk => (ho1.lt k hk).1)
  case rest =>
    obtain ⟨hown0, hbc⟩ := hcut
    have hBc := hB0.below hbc lB
    have z1 := hBc.cell 1
    simp only [List.getElem?_cons_succ, List.getElem?_cons_zero] at z1
    have lc := hBc.lt
    clear k0 k1 k2 hBc u1 u2
    go_wp2_with (fail)
    go_loopw [5, 35] (fun v i wr => ∃ k : Nat, k ≤ n1 ∧ i = .int .i64 k ∧ wr.ownsRow w0.heap.size 5 1 v (HD ++ (PS.take k).flatMap partE).length (u8s (HD ++ (PS.take k).flatMap partE)) ∧ Below w0.heap.size w0 wr) (fun _ i _ => n1 - (intOf i).toNat)
    case atStart => exact ⟨0, Nat.zero_le _, rfl, by simpa using hown0, hbc⟩
    case round =>
      clear hown0 hbc z1 lc
      obtain ⟨k, hk, rfl, hown, hb⟩ := hrel
      have hwr : Below w.heap.size w wr := hbw0.trans (hb.mono hbw0.size)
      have hsame : Same Any w wr := Same.any hwr
      by_cases hlt : k < n1
      · have hkl : k < sp.length := by have := H1.out; omega
        obtain ⟨b, off, cs, rfl, hD, hv, hcell⟩ := r1.elem (PcCells.stable 41) a1 H1.out hkl
        have hgp := Hg.out.ps _ (List.getElem_mem hkl)
        have hat : Hid (PS[k]? = some (encP 41 sp[k])) := by unfold Hid; rw [Hparts.out]; exact parts_at.1 hkl
        generalize sp[k] = X at hv hgp hat
        have HF := Lib.hid (flat_next HD PS k _ hat.out)
        obtain ⟨P1, q1, P2, q2, P3, q3, P4, q4, P5, q5, rfl⟩ := PcCells.shape hv
        obtain ⟨pr, ⟨sa, ss, si⟩, pb, pt, pw, pl⟩ := X
        simp only at hcell hv
        have g0 := hsame.cell hD (hcell 0 _ rfl)
        have g1 := hsame.cell hD (hcell 1 _ rfl)
        have g2 := hsame.cell hD (hcell 2 _ rfl)
        have g3 := hsame.cell hD (hcell 3 _ rfl)
        have g4 := hsame.cell hD (hcell 4 _ rfl)
        have g5 := hsame.cell hD (hcell 5 _ rfl)
        have g6 := hsame.cell hD (hcell 6 _ rfl)
        have g7 := hsame.cell hD (hcell 7 _ rfl)
        simp only [Nat.add_zero, ← Nat.add_assoc] at g0 g1 g2 g3 g4 g5 g6 g7
        have HG := Lib.hid hgp
        have hBl := HPB.out k
        clear hcell hgp hat
        go_wp2_with (fail)
        obtain ⟨W3, hW3⟩ : ∃ W3, W3 = wr.alloc (.cells #[.int .i64 pr, .string sa, .slice P1 ss.length q1, .slice P2 si.length q2, .slice P3 pb.length q3, .int .i64 pt, .slice P4 pw.length q4, .slice P5 pl.length q5] 48) := ⟨_, rfl⟩
        have hb3 : Below wr.heap.size wr W3 := by rw [hW3]; exact (Below.refl _ _).alloc (Nat.le_refl _) _
        have hv3 := (PcCells.stable 41).keep ((PcCells.stable 41).keep hv hsame) (Same.any (D := Any) hb3)
        rw [← hW3]
        clear hW3 hv g0 g1 g2 g3 g4 g5 g6 g7
        refine (bytesP_any 41 (⟨pr, ⟨sa, ss, si⟩, pb, pt, pw, pl⟩ : Pc) [.int .i64 pr, .string sa, .slice P1 ss.length q1, .slice P2 si.length q2, .slice P3 pb.length q3, .int .i64 pt, .slice P4 pw.length q4, .slice P5 pl.length q5] W3 (by omega) hv3 HG.out.1.1 HG.out.1.2.1 (by have := HG.out.1.2.2.2.2; omega)).mono ?_
        rintro e w4 ⟨A4, c4, rfl, ho4, hb4⟩
        obtain ⟨hc4, hm4, hr4⟩ := own_reads (by omega) ho4
        have hlen4 := HG.out.1.2.2.2.2
        generalize hN4 : (encP 41 (⟨pr, ⟨sa, ss, si⟩, pb, pt, pw, pl⟩ : Pc)).length = N4 at hr4 hc4 hlen4 ⊢
        have HN4 := Lib.hid hN4
        have hbw4 : Below wr.heap.size wr w4 := hb3.trans (hb4.mono hb3.size)
        have hlt := hown.lt
        have hown4 : w4.ownsRow w0.heap.size 5 1 u5 (HD ++ (PS.take k).flatMap partE).length (u8s (HD ++ (PS.take k).flatMap partE)) := own_keep hown fun b hb' hl => hbw4.block b hl
        have hr4' : Reads w4 (fun b => u5.ownBlock ≠ some b) 1 A4 N4 (u8s (encP 41 (⟨pr, ⟨sa, ss, si⟩, pb, pt, pw, pl⟩ : Pc))) := hr4.imp (by omega) fun b hb' _ e => by have := (hlt b e).2; have := hb3.size; omega
        clear hN4 ho4 hlt hr4 hv3
        go_wp2_with (fail)
        have hl5 : (u8s (HD ++ (PS.take k).flatMap partE)).length = (HD ++ (PS.take k).flatMap partE).length := u8s_length _
        refine (part_any u5 A4 N4 c4 (encP 41 (⟨pr, ⟨sa, ss, si⟩, pb, pt, pw, pl⟩ : Pc)) (u8s (HD ++ (PS.take k).flatMap partE)) w0.heap.size w4 HN4.out.symm (by omega) (by rw [hl5]; exact hown4) (by have := hb.size; have := hbw4.size; omega) (by rw [hl5]; omega) hr4').mono ?_
        rintro e w5 ⟨A5, c5, rfl, hg5⟩
        generalize Value.slice A5 ((u8s (HD ++ (PS.take k).flatMap partE)).length + (partE (encP 41 (⟨pr, ⟨sa, ss, si⟩, pb, pt, pw, pl⟩ : Pc))).length) c5 = v5 at hg5 ⊢
        have hbf : Below w0.heap.size w0 w5 := (hb.trans (hbw4.mono hb.size)).grown hg5.2.1 (by have := hb.size; have := hbw4.size; omega) (fun b hb' => (hown4.lt b hb').1)
        go_wp2_with (fail)
        refine ⟨⟨k + 1, by omega, by go_num, ?_, hbf⟩, by simp [intOf]; omega⟩
        rw [HF.out, List.length_append, u8s_append]
        have h1 := hg5.1
        rw [hl5] at h1
        exact h1
      · obtain rfl : k = n1 := by omega
        have hBc := hB0.below hb lB
        have z2 := hBc.cell 2
        simp only [List.getElem?_cons_succ, List.getElem?_cons_zero] at z2
        have lc := hBc.lt
        clear r1 a1 hBc hsame hlt
        go_wp2_with (fail)
        obtain ⟨w00, hw00⟩ : ∃ w00, w00 = wr := ⟨_, rfl⟩
        subst hw00
        go_loopw [5, 54] (fun v i wr => ∃ j : Nat, j ≤ n2 ∧ i = .int .i64 j ∧ wr.ownsRow w0.heap.size 5 1 v (HD ++ (PS.take (k + j)).flatMap partE).length (u8s (HD ++ (PS.take (k + j)).flatMap partE)) ∧ Below w0.heap.size w0 wr) (fun _ i _ => n2 - (intOf i).toNat)
        case atStart => exact ⟨0, Nat.zero_le _, rfl, by simpa using hown, hb⟩
        case round =>
          clear hown hb z2 lc hwr
          obtain ⟨j, hj, rfl, hown, hb⟩ := hrel
          have hwr : Below w.heap.size w wr := hbw0.trans (hb.mono hbw0.size)
          have hsame : Same Any w wr := Same.any hwr
          by_cases hlt : j < n2
          · have hkl : j < sw.length := by have := H2.out; omega
            obtain ⟨b, off, cs, rfl, hD, hv, hcell⟩ := r2.elem (WyCells.stable 41) a2 H2.out hkl
            have hgw := Hg.out.ws _ (List.getElem_mem hkl)
            have hat : Hid (PS[k + j]? = some (wayE 41 sw[j])) := by unfold Hid; rw [Hparts.out, H1.out]; exact parts_at.2 hkl
            generalize sw[j] = X at hv hgw hat
            have HF := Lib.hid (flat_next HD PS (k + j) _ hat.out)
            have hwl := wayE_len X hgw
            obtain ⟨yf, yt, yl⟩ := X
            obtain ⟨L1, l1, ls1, rfl, _, ⟨m1, m2, m3⟩, rl, al⟩ := hv
            obtain ⟨⟨f1, f2⟩, ⟨t1, t2⟩, hne, hnl⟩ := hgw
            simp only at hcell m1 m2 m3 rl al f1 f2 t1 t2 hne hnl
            have HNL := Lib.hid hnl
            obtain ⟨ny, hny⟩ : ∃ ny, ny = yl.length := ⟨_, rfl⟩
            rw [← hny] at hcell m1 m2 rl
            have HNY := Lib.hid hny
            clear hny
            have g0 := hsame.cell hD (hcell 0 _ rfl)
            have g1 := hsame.cell hD (hcell 1 _ rfl)
            have g2 := hsame.cell hD (hcell 2 _ rfl)
            simp only [Nat.add_zero, ← Nat.add_assoc] at g0 g1 g2
            have hBl := HPB.out (k + j)
            have u1 : IntKind.u8.wrap yf = yf := IntWalk.u8_in _ (by omega)
            have u2 : IntKind.u8.wrap yt = yt := IntWalk.u8_in _ (by omega)
            clear hcell hnl hne hat
            go_wp2_with (fail)
            obtain ⟨W3, hW3⟩ : ∃ W3, W3 = wr.alloc (.cells #[.int .i64 yf, .int .i64 yt, .slice L1 ny l1] 51) := ⟨_, rfl⟩
            have hB3 : Blk W3 wr.heap.size 51 [.int .i64 yf, .int .i64 yt, .slice L1 ny l1] := by rw [hW3]; exact Blk.new wr _ _
            have hb3 : Below wr.heap.size wr W3 := by rw [hW3]; exact (Below.refl _ _).alloc (Nat.le_refl _) _
            have hs3 := hsame.trans hwr.size (Same.any (D := Any) hb3)
            rw [← hW3]
            clear hW3 g0 g1 g2
            refine (packed_any L1 ny l1 yl ls1 W3 HNY.out HNL.out (rl.keep hs3) (al.imp fun _ _ h => (LCells.stable 41).keep h hs3)).mono ?_
            rintro e w4 ⟨A4, c4, rfl, ho4, hb4⟩
            obtain ⟨hc4, hm4, hr4⟩ := own_reads (by omega) ho4
            have hWE : Hid (wayE 41 ⟨yf, yt, yl⟩ = [UInt8.ofNat yf.toNat, UInt8.ofNat yt.toNat] ++ packF (yl.map (encL 41)) ∧ u8s [UInt8.ofNat yf.toNat, UInt8.ofNat yt.toNat] = [.int .u8 yf, .int .u8 yt]) := by
              refine ⟨rfl, ?_⟩
              simp only [u8s, List.map_cons, List.map_nil]
              rw [ofNat_toNat (by omega), ofNat_toNat (by omega), Int.toNat_of_nonneg (by omega), Int.toNat_of_nonneg (by omega)]
            generalize packF (yl.map (encL 41)) = PK at hr4 hc4 hWE ho4 ⊢
            have hl6 : (wayE 41 ⟨yf, yt, yl⟩).length = 2 + PK.length := by rw [hWE.out.1]; simp; omega
            generalize hWW : wayE 41 ⟨yf, yt, yl⟩ = WE at hWE hl6 HF hwl
            generalize hN4 : PK.length = N4 at hr4 hc4 hl6 ⊢
            have hN4' : N4 ≤ 70000 := by omega
            have HL6 := Lib.hid hl6
            have HN4 := Lib.hid hN4
            have hbw4 : Below wr.heap.size wr w4 := hb3.trans (hb4.mono hb3.size)
            have hB4 := hB3.below hb4 hB3.lt
            have hlt' := hown.lt
            have hown4 : w4.ownsRow w0.heap.size 5 1 u5 (HD ++ (PS.take (k + j)).flatMap partE).length (u8s (HD ++ (PS.take (k + j)).flatMap partE)) := own_keep hown fun b hb' hl => hbw4.block b hl
            have y0 := hB4.cell 0
            have y1 := hB4.cell 1
            simp only [List.getElem?_cons_succ, List.getElem?_cons_zero] at y0 y1
            have l4 := hB4.lt
            have hlw4 : w0.heap.size ≤ w4.heap.size := by have := hb.size; have := hbw4.size; omega
            clear hN4 hl6 hlt' hWW
            have hon := own_new w4 [.int .u8 yf, .int .u8 yt] 5 w4.heap.size (Nat.le_refl _) (by simp [maxLen])
            simp only [List.length_cons, List.length_nil, Nat.zero_add, Nat.reduceAdd] at hon
            go_wp2_with (at_builtin; refine app_u8 _ rfl (.tmp 74) (.tmp 75) rfl hon rfl ((hr4.imp (by omega) (D' := Any) fun _ _ _ => trivial).keep (Same.alloc _ _ _)) rfl (u8s_one _) (by omega) (by simp) ?_; intro v6 w6 hown6 hg6 hat6; obtain ⟨A6, c6, rfl, hn6⟩ := own_form hown6)
            have hbw6 : Below wr.heap.size wr w6 := (hbw4.alloc hbw4.size _).grown hg6 (by have := hbw4.size; simp; omega) (fun b hb' => by simp [Value.ownBlock] at hb'; have := hbw4.size; omega)
            have hown7 : w6.ownsRow w0.heap.size 5 1 u5 (HD ++ (PS.take (k + j)).flatMap partE).length (u8s (HD ++ (PS.take (k + j)).flatMap partE)) := own_keep hown fun b hb' hl => hbw6.block b hl
            obtain ⟨_, _, hr6⟩ := own_reads (by omega) hown6
            have hr6' : Reads w6 (fun b => u5.ownBlock ≠ some b) 1 A6 (2 + N4) (u8s WE) := by
              rw [hWE.out.1, u8s_append, hWE.out.2]
              refine hr6.imp (by omega) fun b hb' _ e => ?_
              have := (hown4.lt b e).2
              omega
            have hl5 : (u8s (HD ++ (PS.take (k + j)).flatMap partE)).length = (HD ++ (PS.take (k + j)).flatMap partE).length := u8s_length _
            refine (part_any u5 A6 (2 + N4) c6 WE (u8s (HD ++ (PS.take (k + j)).flatMap partE)) w0.heap.size w6 HL6.out.symm (by omega) (by rw [hl5]; exact hown7) (by have := hb.size; have := hbw6.size; omega) (by rw [hl5]; omega) hr6').mono ?_
            rintro e w7 ⟨A7, c7, rfl, hg7⟩
            generalize Value.slice A7 ((u8s (HD ++ (PS.take (k + j)).flatMap partE)).length + (partE WE).length) c7 = v7 at hg7 ⊢
            have hbf : Below w0.heap.size w0 w7 := (hb.trans (hbw6.mono hb.size)).grown hg7.2.1 (by have := hb.size; have := hbw6.size; omega) (fun b hb' => (hown7.lt b hb').1)
            go_wp2_with (fail)
            refine ⟨⟨j + 1, by omega, by go_num, ?_, hbf⟩, by simp [intOf]; omega⟩
            rw [← Nat.add_assoc, HF.out, List.length_append, u8s_append]
            have h1 := hg7.1
            rw [hl5] at h1
            exact h1
          · obtain rfl : j = n2 := by omega
            go_wp2_with (fail)
            go_ret2
            have e : HD ++ (PS.take (k + j)).flatMap partE = SE := by
              rw [HE.out, List.take_of_length_le]
              rw [Hparts.out]
              have := H1.out
              have := H2.out
              simp
              omega
            rw [e] at hown
            obtain ⟨A7, c7, rfl, _⟩ := own_form hown
            exact ⟨A7, c7, rfl, own_lower hbw0.size hown, hbw0.trans (hb.mono hbw0.size)⟩
end Go.Proofs.Yteojmmjanjilaaa
