/- Contract of layout.Lay at a right document. -/
import Derived.Test.YtdbpgofabbpadaaDoorLyLay0
set_option linter.unusedVariables false
namespace Go.Proofs.YtdbpgofabbpadaaDoor
open Go.RowKit Go.Mem Go.Ly Go.Maps
set_option maxRecDepth 100000 in
set_option maxHeartbeats 16000000 in
theorem lay_any (A : Option Addr) (n c : Nat) (d : List Pc) (width : Nat) (w : World) (hd : DocAt w Any A n c d) (ho : Ok d) (hwd : 1 ≤ width ∧ width ≤ 200) :
    Calls Tryd.prog 5 #[.slice A n c, .int .i64 (width : Nat)] w fun e w' => e = .returned (.tuple #[.string ⟨(layF d width).toArray⟩, .int .i64 0]) ∧ Below w.heap.size w w' := by
  have HD := Lib.hid (And.intro hd ho)
  have hn : n ≤ 100 := hd.2.2.2.1
  have CC := Lib.hid (check_any A n c d w hd ho)
  have CMs := Lib.hid (fun W (hW : Below w.heap.size w W) => measure_any A n c d W (hd.keep (Same.any hW)) ho)
  have hw1 : ((width : Int) < 1) = False := by simp; omega
  have hw2 : ((width : Int) > 200) = False := by simp; omega
  obtain ⟨hwa, hwb⟩ := hwd
  clear hd ho
  go_enter Tryd.func5, Tryd.ntmps5
  go_upto_region 7 with (first | (go_at_call 9; refine CC.out.mono ?_; rintro e w1 ⟨rfl, hb1⟩; have HB1 := Lib.hid hb1; clear hb1) | (go_at_call 10; refine (CMs.out _ HB1.out).mono ?_; rintro e w2 ⟨M, rfl, hM, hm2, hb2⟩; have H2 := Lib.hid (And.intro hM (And.intro hm2 (HB1.out.trans (hb2.mono HB1.out.size)))); clear hM hm2 hb2))
  go_upto_region 10 with (fail)
  obtain ⟨W1, hW1⟩ : ∃ W1, W1 = w2.alloc (.cells #[.pointer none, .slice none 0 0] 40) := ⟨_, rfl⟩
  obtain ⟨W3, hW3⟩ : ∃ W3, W3 = W1.alloc (.cells #[.int .i64 0, .int .i64 0, .bool false, .bool true, .int .i64 0] 42) := ⟨_, rfl⟩
  obtain ⟨BB, hBB⟩ : ∃ b, b = w2.heap.size := ⟨_, rfl⟩
  have hs1 : W1.heap.size = w2.heap.size + 1 := by rw [hW1]; simp
  have b1 : BldAt BB BB [] W1 := by rw [hW1, hBB]; exact .inl (Lib.BuilderAtF.of ⟨Nat.le_refl _, .slice none 0 0, heap_alloc_new _ _, World.ownsRow_nil _ _ _ _, by simp [Value.ownBlock]⟩)
  have hb13 : Below W1.heap.size W1 W3 := by rw [hW3]; exact (Below.refl _ _).alloc (Nat.le_refl _) _
  have hb21 : Below w2.heap.size w2 W1 := by rw [hW1]; exact (Below.refl _ _).alloc (Nat.le_refl _) _
  have o3 : W3.ownsRow BB 42 5 (.slice (some ⟨W1.heap.size, 0, none⟩) 1 1) 1 (gcs [topG]) := by
    rw [hW3]
    exact ⟨rfl, .inr ⟨W1.heap.size, 1, _, rfl, by omega, heap_alloc_new _ _, Nat.le_refl _, by simp [maxLen], rfl, rfl⟩⟩
  rw [← hW1, ← hs1, ← hW3, ← hBB]
  generalize hGG : (msAt d d.length).out = G at H2
  have HS := Lib.hid (show LyAt w W3 BB BB M G (some ⟨W1.heap.size, 0, none⟩) 1 (lsAt G width d 0) from ⟨o3, H2.out.2.1.below (hb21.trans (hb13.mono hb21.size)), b1.below hb13, ⟨by rw [hBB]; exact H2.out.2.1.lt, by have := hb13.size; omega, by rw [hBB]; exact H2.out.2.2.size⟩, H2.out.2.2.trans ((hb21.trans (hb13.mono hb21.size)).mono H2.out.2.2.size)⟩)
  have HGG := Lib.hid (show layF d width = (lsAt G width d d.length).out from by unfold layF; rw [hGG])
  have HG8 := Lib.hid (show ∀ p ∈ G, p.2.width ≤ 800 ∧ p.2.tail ≤ 800 from fun p hp => by
    rw [← hGG] at hp
    have h1 := (ms_ok HD.out.2 d.length (Nat.le_refl _)).out p hp
    have h2 := HD.out.2.len
    exact ⟨by have := h1.2.1; omega, h1.2.2⟩)
  generalize W1.heap.size = SB at HS ⊢
  clear hW1 hW3 hBB hs1 b1 hb13 hb21 o3 hGG H2 CC CMs HB1 hw1 hw2
  go_wp2_with (fail)
  go_loopw [9, 10, 32] (fun s9 s10 i wr => ∃ k A1 c1, k ≤ n ∧ i = .int .i64 (k : Nat) ∧ s9 = .int .i64 ((lsAt G width d k).col : Nat) ∧ s10 = .slice A1 (lsAt G width d k).stack.length c1 ∧ Hid (LyAt w wr BB BB M G A1 c1 (lsAt G width d k))) (fun _ _ i _ => n - (intOf i).toNat)
  case atStart => exact ⟨0, _, _, Nat.zero_le _, rfl, rfl, rfl, HS.out⟩
  case round =>
    obtain ⟨k, A1, c1, hk, rfl, rfl, rfl, HK⟩ := hrel
    by_cases hlt : k < n
    · have hkl : k < d.length := by have := HD.out.1.1; omega
      obtain ⟨b, off, rfl, _, c0, c1', c2⟩ := (HD.out.1.keep (Same.any HK.out.be)).cells hlt hkl
      have lb := lt_of_cell c0
      have hp := HD.out.2.pc _ (List.getElem_mem hkl)
      have hls := ls_ok HD.out.2 HG8.out (width := width) k (by omega)
      have hnx := lsAt_next (G := G) (width := width) hkl
      have hdep := HD.out.2.depthLe k (by omega)
      have hcl := HD.out.2.close hkl
      generalize d[k] = p at c0 c1' c2 hp hnx hcl
      obtain ⟨m1, m2, m3, m4⟩ := hls
      generalize lsAt G width d k = l at HK hnx m1 m2 m3 m4 ⊢
      obtain ⟨out, col, st⟩ := l
      simp only at m1 m2 m3 m4 ⊢
      obtain ⟨⟨p1, p2⟩, p3, p4, p5, p6, p7⟩ := hp
      obtain ⟨kd, nn, s⟩ := p
      simp only at c0 c1' c2 p1 p2 p3 p4 p5 p6 hcl
      -- the stack's last group
      obtain ⟨r, gl, rfl⟩ : ∃ r gl, st = r ++ [gl] := by
        rcases List.eq_nil_or_concat st with rfl | ⟨r, x, rfl⟩
        · simp at m1
        · exact ⟨r, x, by rw [List.concat_eq_append]⟩
      have hgl := m3 gl (by simp)
      have hlast : lastG (r ++ [gl]) = gl := by simp [lastG]
      obtain ⟨lw, lt, lh, lb2, li⟩ := gl
      simp only at hgl
      obtain ⟨g1, g2, g3⟩ := hgl
      have hlr : (r ++ [(⟨lw, lt, lh, lb2, li⟩ : Grp)]).length = r.length + 1 := by simp
      have hrl : r.length ≤ 100 := by omega
      have hown := (show wr.ownsRow BB 42 5 (.slice A1 (r ++ [(⟨lw, lt, lh, lb2, li⟩ : Grp)]).length c1) (r ++ [(⟨lw, lt, lh, lb2, li⟩ : Grp)]).length (gcs (r ++ [(⟨lw, lt, lh, lb2, li⟩ : Grp)])) from HK.out.own)
      obtain ⟨o1, o2, o3⟩ := own_reads (by omega) hown
      obtain ⟨b6, f6, rfl, _, hc6⟩ := o3.2 (by omega)
      have z0 := hc6 (r.length * 5 + 0) _ (gcs_at (r ++ [(⟨lw, lt, lh, lb2, li⟩ : Grp)]) r.length (by omega) 0 (by omega))
      have z1 := hc6 (r.length * 5 + 1) _ (gcs_at (r ++ [(⟨lw, lt, lh, lb2, li⟩ : Grp)]) r.length (by omega) 1 (by omega))
      have z2 := hc6 (r.length * 5 + 2) _ (gcs_at (r ++ [(⟨lw, lt, lh, lb2, li⟩ : Grp)]) r.length (by omega) 2 (by omega))
      have z3 := hc6 (r.length * 5 + 3) _ (gcs_at (r ++ [(⟨lw, lt, lh, lb2, li⟩ : Grp)]) r.length (by omega) 3 (by omega))
      have z4 := hc6 (r.length * 5 + 4) _ (gcs_at (r ++ [(⟨lw, lt, lh, lb2, li⟩ : Grp)]) r.length (by omega) 4 (by omega))
      simp only [List.getElem_concat_length, Nat.add_zero] at z0 z1 z2 z3 z4
      rw [← Nat.add_assoc] at z1 z2 z3 z4
      have l6 := lt_of_cell z0
      have HKW := Lib.hid (And.intro hlr hlast)
      rw [hlr]
      unfold sv at c2
      have es := sv_len s
      have HNX := Lib.hid hnx
      have HP7 := Lib.hid (And.intro p5 (And.intro p6 p7))
      clear hnx p5 p6 p7 hown o1 o2 o3 hc6 hlr hlast
      generalize hrq : r.length = q at z0 z1 z2 z3 z4 hrl ⊢
      have HRQ := Lib.hid hrq
      clear hrq
      go_upto_region 13 with (fail)
      obtain ⟨W, hW⟩ : ∃ W, W = wr.alloc (.cells #[.int .i64 (kd : Nat), .int .i64 (nn : Nat), .string ⟨s.toArray⟩] 30) := ⟨_, rfl⟩
      obtain ⟨PB, hPB⟩ : ∃ b, b = wr.heap.size := ⟨_, rfl⟩
      have fP : Blk W PB 30 [.int .i64 (kd : Nat), .int .i64 (nn : Nat), .string ⟨s.toArray⟩] := by rw [hW, hPB]; exact Blk.new _ _ _
      have hbW : Below wr.heap.size wr W := by rw [hW]; exact (Below.refl _ _).alloc (Nat.le_refl _) _
      rw [← hW, ← hPB]
      have PBB : BB < PB := by
        obtain ⟨p, v, fb⟩ := HK.out.bld.blk
        rw [hPB]
        exact fb.lt
      replace z0 := (hbW.cell (p := ⟨b6, f6 + q * 5, none⟩) l6).trans z0
      replace z1 := (hbW.cell (p := ⟨b6, f6 + q * 5 + 1, none⟩) l6).trans z1
      replace z2 := (hbW.cell (p := ⟨b6, f6 + q * 5 + 2, none⟩) l6).trans z2
      replace z3 := (hbW.cell (p := ⟨b6, f6 + q * 5 + 3, none⟩) l6).trans z3
      replace z4 := (hbW.cell (p := ⟨b6, f6 + q * 5 + 4, none⟩) l6).trans z4
      replace l6 := lt_of_cell z0
      have HW := Lib.hid (HK.out.below hbW)
      clear hW hPB hbW c0 c1' c2 lb HK
      go_upto_region 16 with (fail)
      obtain ⟨V, hV⟩ : ∃ V, V = W.alloc (.cells #[.int .i64 (lw : Nat), .int .i64 (lt : Nat), .bool lh, .bool lb2, .int .i64 (li : Nat)] 42) := ⟨_, rfl⟩
      obtain ⟨LB, hLB⟩ : ∃ b, b = W.heap.size := ⟨_, rfl⟩
      have fL : Blk V LB 42 [.int .i64 (lw : Nat), .int .i64 (lt : Nat), .bool lh, .bool lb2, .int .i64 (li : Nat)] := by rw [hV, hLB]; exact Blk.new _ _ _
      have hbV : Below W.heap.size W V := by rw [hV]; exact (Below.refl _ _).alloc (Nat.le_refl _) _
      rw [← hV, ← hLB]
      have LBB : BB < LB := by have := fP.lt; omega
      have HV := Lib.hid (HW.out.below hbV)
      have HF := Lib.hid (And.intro (fP.below hbV fP.lt) fL)
      have q0 := HF.out.1.cell 0
      have q1 := HF.out.1.cell 1
      have q2 := HF.out.1.cell 2
      have x0 := fL.cell 0
      have x1 := fL.cell 1
      have x2 := fL.cell 2
      have x3 := fL.cell 3
      have x4 := fL.cell 4
      have lP := HF.out.1.lt
      have lL := fL.lt
      simp only [List.getElem?_cons_zero, List.getElem?_cons_succ] at q0 q1 q2 x0 x1 x2 x3 x4
      clear fP hV hLB hbV fL z0 z1 z2 z3 z4 l6 HW
      rcases (show kd = 5 ∨ kd = 6 ∨ (kd ≠ 5 ∧ kd ≠ 6) from by omega) with hkd | hkd | hkd
      · have hN : lsAt G width d (k + 1) = ⟨out, col, r ++ [⟨lw, lt, lh, lb2, li⟩] ++ [openG G width k ⟨out, col, r ++ [⟨lw, lt, lh, lb2, li⟩]⟩ ⟨kd, nn, s⟩]⟩ := by
          rw [HNX.out]
          unfold lsF
          rw [if_pos (by simp only; omega)]
        unfold openG at hN
        rw [HKW.out.2] at hN
        have hLK := look_gr G k
        have hgb : ((mget G k).getD zeroG).width ≤ 800 ∧ ((mget G k).getD zeroG).tail ≤ 800 := by
          cases hg : mget G k with
          | none => exact ⟨by simp [zeroG], by simp [zeroG]⟩
          | some g => exact HG8.out _ (mget_mem hg)
        generalize (mget G k).getD zeroG = gk at hN hLK hgb
        obtain ⟨gw, gt, gh, gb, gi⟩ := gk
        simp only at hN hgb
        have hLK2 : (mget (G.map fun p => (p.1, gval p.2)) k).getD (gval zeroG) = .agg #[.int .i64 (gw : Nat), .int .i64 (gt : Nat), .bool gh, .bool gb, .int .i64 (gi : Nat)] := hLK
        have HLK := Lib.hid hLK2
        clear hLK hLK2
        have HN := Lib.hid hN
        have e5 : ((kd : Int) == 5) = true := by simp; omega
        have hk9 : k ≤ 1000000000 := by omega
        clear hN HNX HP7 hkd p1 p2
        go_upto_region 18 with (refine wpList_mlookup _ rfl (.tmp 55) (.tmp 56) _ rfl enc_N Tryd.underlying35 zero_gr rfl (by exact HV.out.mp.same rfl) rfl hk9 ?_; rw [HLK.out])
        obtain ⟨X, hX⟩ : ∃ X, X = V.alloc (.cells #[.int .i64 (gw : Nat), .int .i64 (gt : Nat), .bool gh, .bool gb, .int .i64 (gi : Nat)] 42) := ⟨_, rfl⟩
        obtain ⟨GB, hGB⟩ : ∃ b, b = V.heap.size := ⟨_, rfl⟩
        have fG : Blk X GB 42 [.int .i64 (gw : Nat), .int .i64 (gt : Nat), .bool gh, .bool gb, .int .i64 (gi : Nat)] := by rw [hX, hGB]; exact Blk.new _ _ _
        have hbX : Below V.heap.size V X := by rw [hX]; exact (Below.refl _ _).alloc (Nat.le_refl _) _
        rw [← hX, ← hGB]
        have PGB : PB ≠ GB := by rw [hGB]; exact Nat.ne_of_lt lP
        have LGB : LB ≠ GB := by rw [hGB]; exact Nat.ne_of_lt lL
        have hGV : V.heap.size ≤ GB := Nat.le_of_eq hGB.symm
        have HX := Lib.hid (And.intro hbX (And.intro fG hGV))
        have HFX := Lib.hid (And.intro (HF.out.1.below hbX lP) (HF.out.2.below hbX lL))
        clear q0 q1 q2 x0 x1 x2 x3 x4 lP lL hX hGB hGV
        have q1 := HFX.out.1.cell 1
        have x3 := HFX.out.2.cell 3
        have x4 := HFX.out.2.cell 4
        have y0 := fG.cell 0
        have y1 := fG.cell 1
        have y2 := fG.cell 2
        have y3 := fG.cell 3
        have f3 := fG.frozen 3
        have lP := HFX.out.1.lt
        have lL := HFX.out.2.lt
        have lG := fG.lt
        simp only [List.getElem?_cons_zero, List.getElem?_cons_succ] at q1 x3 x4 y0 y1 y2 y3
        clear fG hbX
        cases lb2 <;> cases gh
        · go_upto_region 19 with (fail)
          obtain ⟨Y, hY⟩ : ∃ Y, Y = X.setCell ⟨GB, 3, none⟩ (.bool false) := ⟨_, rfl⟩
          have fY : Blk Y GB 42 [.int .i64 (gw : Nat), .int .i64 (gt : Nat), .bool false, .bool false, .int .i64 (gi : Nat)] := by rw [hY]; exact HX.out.2.1.put 3 (.bool false)
          have hbY : Below V.heap.size V Y := by rw [hY]; exact HX.out.1.setCell (p := ⟨GB, 3, none⟩) HX.out.2.2 _
          have fPY := HFX.out.1.same (w' := Y) (D := fun b => b ≠ GB) (fun b hb _ => by rw [hY]; exact Below.heap_setCell _ _ _ _ hb) PGB
          have fLY := HFX.out.2.same (w' := Y) (D := fun b => b ≠ GB) (fun b hb _ => by rw [hY]; exact Below.heap_setCell _ _ _ _ hb) LGB
          rw [← hY]
          have HY := Lib.hid (And.intro fY hbY)
          clear q1 x3 x4 y0 y1 y2 y3 f3 lP lL lG hY
          have q1 := fPY.cell 1
          have x4 := fLY.cell 4
          have f4 := fY.frozen 4
          have y4 := fY.cell 4
          have lP := fPY.lt
          have lL := fLY.lt
          have lG := fY.lt
          simp only [List.getElem?_cons_zero, List.getElem?_cons_succ] at q1 x4 y4
          clear fPY fLY fY hbY
          go_upto_region 20 with (fail)
          obtain ⟨Z, hZ⟩ : ∃ Z, Z = Y.setCell ⟨GB, 4, none⟩ (.int .i64 ((li : Int) + (nn : Int))) := ⟨_, rfl⟩
          have fZ : Blk Z GB 42 [.int .i64 (gw : Nat), .int .i64 (gt : Nat), .bool false, .bool false, .int .i64 ((li : Int) + (nn : Int))] := by rw [hZ]; exact HY.out.1.put 4 _
          have hbZ : Below V.heap.size V Z := by rw [hZ]; exact HY.out.2.setCell (p := ⟨GB, 4, none⟩) HX.out.2.2 _
          rw [← hZ]
          have HZ := Lib.hid (HV.out.below hbZ)
          have hlq : (r ++ [(⟨lw, lt, lh, false, li⟩ : Grp)]).length = q + 1 := by rw [HKW.out.1, HRQ.out]
          have HO := Lib.hid (show Z.ownsRow BB 42 5 (.slice (some ⟨b6, f6, none⟩) (q + 1) c1) (q + 1) (gcs (r ++ [(⟨lw, lt, lh, false, li⟩ : Grp)])) from by have h := HZ.out.own; simp only at h; rw [hlq] at h; exact h)
          clear q1 x4 y4 f4 lP lL lG hZ hbZ
          have y0 := fZ.cell 0
          have y1 := fZ.cell 1
          have y2 := fZ.cell 2
          have y3 := fZ.cell 3
          have y4 := fZ.cell 4
          have lG := fZ.lt
          simp only [List.getElem?_cons_zero, List.getElem?_cons_succ] at y0 y1 y2 y3 y4
          have hbs := HZ.out.lt.2.1
          clear fZ
          go_wp2_with (at_builtin; refine app_gr _ rfl (.tmp 82) (.tmp 84) rfl (HO.out.alloc _) rfl (Reads.new (D := Any) _ [.int .i64 (gw : Nat), .int .i64 (gt : Nat), .bool false, .bool false, .int .i64 ((li : Int) + (nn : Int))] 5 1 _ trivial rfl) rfl (by simp [Value.oneCell']) (by omega) (by simp; omega) ?_; intro v2 w9 hown2 hg2 hat2; obtain ⟨A9, c9, rfl, _⟩ := own_form hown2)
          have hbr : (false && (false || decide (width < col + gw + gt))) = false := by simp
          have H9 := Lib.hid (show LyAt w w9 BB BB M G A9 c9 ⟨out, col, (r ++ [(⟨lw, lt, lh, false, li⟩ : Grp)]) ++ [⟨gw, gt, false, false, li + nn⟩]⟩ from (HZ.out.below ((Below.refl _ _).alloc (Nat.le_refl _) (.cells #[.int .i64 (gw : Nat), .int .i64 (gt : Nat), .bool false, .bool false, .int .i64 ((li : Int) + (nn : Int))] 42))).app (g := ⟨gw, gt, false, false, li + nn⟩) (by simp only; rw [hlq]; exact hown2) (by simp only; rw [hlq]; exact hg2))
          refine ⟨⟨k + 1, A9, c9, by omega, by go_num, by rw [HN.out], (by rw [HN.out]; simp [HRQ.out]), ?_⟩, by simp [intOf]; omega⟩
          rw [HN.out, hbr]
          exact H9.out
        · go_upto_region 19 with (fail)
          obtain ⟨Y, hY⟩ : ∃ Y, Y = X.setCell ⟨GB, 3, none⟩ (.bool false) := ⟨_, rfl⟩
          have fY : Blk Y GB 42 [.int .i64 (gw : Nat), .int .i64 (gt : Nat), .bool true, .bool false, .int .i64 (gi : Nat)] := by rw [hY]; exact HX.out.2.1.put 3 (.bool false)
          have hbY : Below V.heap.size V Y := by rw [hY]; exact HX.out.1.setCell (p := ⟨GB, 3, none⟩) HX.out.2.2 _
          have fPY := HFX.out.1.same (w' := Y) (D := fun b => b ≠ GB) (fun b hb _ => by rw [hY]; exact Below.heap_setCell _ _ _ _ hb) PGB
          have fLY := HFX.out.2.same (w' := Y) (D := fun b => b ≠ GB) (fun b hb _ => by rw [hY]; exact Below.heap_setCell _ _ _ _ hb) LGB
          rw [← hY]
          have HY := Lib.hid (And.intro fY hbY)
          clear q1 x3 x4 y0 y1 y2 y3 f3 lP lL lG hY
          have q1 := fPY.cell 1
          have x4 := fLY.cell 4
          have f4 := fY.frozen 4
          have y4 := fY.cell 4
          have lP := fPY.lt
          have lL := fLY.lt
          have lG := fY.lt
          simp only [List.getElem?_cons_zero, List.getElem?_cons_succ] at q1 x4 y4
          clear fPY fLY fY hbY
          go_upto_region 20 with (fail)
          obtain ⟨Z, hZ⟩ : ∃ Z, Z = Y.setCell ⟨GB, 4, none⟩ (.int .i64 ((li : Int) + (nn : Int))) := ⟨_, rfl⟩
          have fZ : Blk Z GB 42 [.int .i64 (gw : Nat), .int .i64 (gt : Nat), .bool true, .bool false, .int .i64 ((li : Int) + (nn : Int))] := by rw [hZ]; exact HY.out.1.put 4 _
          have hbZ : Below V.heap.size V Z := by rw [hZ]; exact HY.out.2.setCell (p := ⟨GB, 4, none⟩) HX.out.2.2 _
          rw [← hZ]
          have HZ := Lib.hid (HV.out.below hbZ)
          have hlq : (r ++ [(⟨lw, lt, lh, false, li⟩ : Grp)]).length = q + 1 := by rw [HKW.out.1, HRQ.out]
          have HO := Lib.hid (show Z.ownsRow BB 42 5 (.slice (some ⟨b6, f6, none⟩) (q + 1) c1) (q + 1) (gcs (r ++ [(⟨lw, lt, lh, false, li⟩ : Grp)])) from by have h := HZ.out.own; simp only at h; rw [hlq] at h; exact h)
          clear q1 x4 y4 f4 lP lL lG hZ hbZ
          have y0 := fZ.cell 0
          have y1 := fZ.cell 1
          have y2 := fZ.cell 2
          have y3 := fZ.cell 3
          have y4 := fZ.cell 4
          have lG := fZ.lt
          simp only [List.getElem?_cons_zero, List.getElem?_cons_succ] at y0 y1 y2 y3 y4
          have hbs := HZ.out.lt.2.1
          clear fZ
          go_wp2_with (at_builtin; refine app_gr _ rfl (.tmp 82) (.tmp 84) rfl (HO.out.alloc _) rfl (Reads.new (D := Any) _ [.int .i64 (gw : Nat), .int .i64 (gt : Nat), .bool true, .bool false, .int .i64 ((li : Int) + (nn : Int))] 5 1 _ trivial rfl) rfl (by simp [Value.oneCell']) (by omega) (by simp; omega) ?_; intro v2 w9 hown2 hg2 hat2; obtain ⟨A9, c9, rfl, _⟩ := own_form hown2)
          have hbr : (false && (true || decide (width < col + gw + gt))) = false := by simp
          have H9 := Lib.hid (show LyAt w w9 BB BB M G A9 c9 ⟨out, col, (r ++ [(⟨lw, lt, lh, false, li⟩ : Grp)]) ++ [⟨gw, gt, true, false, li + nn⟩]⟩ from (HZ.out.below ((Below.refl _ _).alloc (Nat.le_refl _) (.cells #[.int .i64 (gw : Nat), .int .i64 (gt : Nat), .bool true, .bool false, .int .i64 ((li : Int) + (nn : Int))] 42))).app (g := ⟨gw, gt, true, false, li + nn⟩) (by simp only; rw [hlq]; exact hown2) (by simp only; rw [hlq]; exact hg2))
          refine ⟨⟨k + 1, A9, c9, by omega, by go_num, by rw [HN.out], (by rw [HN.out]; simp [HRQ.out]), ?_⟩, by simp [intOf]; omega⟩
          rw [HN.out, hbr]
          exact H9.out
        · obtain ⟨bz, hbz⟩ : ∃ bz, bz = decide ((width : Int) < (col : Int) + (gw : Int) + (gt : Int)) := ⟨_, rfl⟩
          go_upto_region 19 with (fail)
          rw [← hbz]
          have HBZ := Lib.hid hbz
          clear hbz
          obtain ⟨Y, hY⟩ : ∃ Y, Y = X.setCell ⟨GB, 3, none⟩ (.bool bz) := ⟨_, rfl⟩
          have fY : Blk Y GB 42 [.int .i64 (gw : Nat), .int .i64 (gt : Nat), .bool false, .bool bz, .int .i64 (gi : Nat)] := by rw [hY]; exact HX.out.2.1.put 3 (.bool bz)
          have hbY : Below V.heap.size V Y := by rw [hY]; exact HX.out.1.setCell (p := ⟨GB, 3, none⟩) HX.out.2.2 _
          have fPY := HFX.out.1.same (w' := Y) (D := fun b => b ≠ GB) (fun b hb _ => by rw [hY]; exact Below.heap_setCell _ _ _ _ hb) PGB
          have fLY := HFX.out.2.same (w' := Y) (D := fun b => b ≠ GB) (fun b hb _ => by rw [hY]; exact Below.heap_setCell _ _ _ _ hb) LGB
          rw [← hY]
          have HY := Lib.hid (And.intro fY hbY)
          clear q1 x3 x4 y0 y1 y2 y3 f3 lP lL lG hY
          have q1 := fPY.cell 1
          have x4 := fLY.cell 4
          have f4 := fY.frozen 4
          have y4 := fY.cell 4
          have lP := fPY.lt
          have lL := fLY.lt
          have lG := fY.lt
          simp only [List.getElem?_cons_zero, List.getElem?_cons_succ] at q1 x4 y4
          clear fPY fLY fY hbY
          go_upto_region 20 with (fail)
          obtain ⟨Z, hZ⟩ : ∃ Z, Z = Y.setCell ⟨GB, 4, none⟩ (.int .i64 ((li : Int) + (nn : Int))) := ⟨_, rfl⟩
          have fZ : Blk Z GB 42 [.int .i64 (gw : Nat), .int .i64 (gt : Nat), .bool false, .bool bz, .int .i64 ((li : Int) + (nn : Int))] := by rw [hZ]; exact HY.out.1.put 4 _
          have hbZ : Below V.heap.size V Z := by rw [hZ]; exact HY.out.2.setCell (p := ⟨GB, 4, none⟩) HX.out.2.2 _
          rw [← hZ]
          have HZ := Lib.hid (HV.out.below hbZ)
          have hlq : (r ++ [(⟨lw, lt, lh, true, li⟩ : Grp)]).length = q + 1 := by rw [HKW.out.1, HRQ.out]
          have HO := Lib.hid (show Z.ownsRow BB 42 5 (.slice (some ⟨b6, f6, none⟩) (q + 1) c1) (q + 1) (gcs (r ++ [(⟨lw, lt, lh, true, li⟩ : Grp)])) from by have h := HZ.out.own; simp only at h; rw [hlq] at h; exact h)
          clear q1 x4 y4 f4 lP lL lG hZ hbZ
          have y0 := fZ.cell 0
          have y1 := fZ.cell 1
          have y2 := fZ.cell 2
          have y3 := fZ.cell 3
          have y4 := fZ.cell 4
          have lG := fZ.lt
          simp only [List.getElem?_cons_zero, List.getElem?_cons_succ] at y0 y1 y2 y3 y4
          have hbs := HZ.out.lt.2.1
          clear fZ
          go_wp2_with (at_builtin; refine app_gr _ rfl (.tmp 82) (.tmp 84) rfl (HO.out.alloc _) rfl (Reads.new (D := Any) _ [.int .i64 (gw : Nat), .int .i64 (gt : Nat), .bool false, .bool bz, .int .i64 ((li : Int) + (nn : Int))] 5 1 _ trivial rfl) rfl (by simp [Value.oneCell']) (by omega) (by simp; omega) ?_; intro v2 w9 hown2 hg2 hat2; obtain ⟨A9, c9, rfl, _⟩ := own_form hown2)
          have hbr : (true && (false || decide (width < col + gw + gt))) = bz := by rw [HBZ.out]; simp only [Bool.true_and, Bool.false_or]; exact decide_eq_decide.2 (by omega)
          have H9 := Lib.hid (show LyAt w w9 BB BB M G A9 c9 ⟨out, col, (r ++ [(⟨lw, lt, lh, true, li⟩ : Grp)]) ++ [⟨gw, gt, false, bz, li + nn⟩]⟩ from (HZ.out.below ((Below.refl _ _).alloc (Nat.le_refl _) (.cells #[.int .i64 (gw : Nat), .int .i64 (gt : Nat), .bool false, .bool bz, .int .i64 ((li : Int) + (nn : Int))] 42))).app (g := ⟨gw, gt, false, bz, li + nn⟩) (by simp only; rw [hlq]; exact hown2) (by simp only; rw [hlq]; exact hg2))
          refine ⟨⟨k + 1, A9, c9, by omega, by go_num, by rw [HN.out], (by rw [HN.out]; simp [HRQ.out]), ?_⟩, by simp [intOf]; omega⟩
          rw [HN.out, hbr]
          exact H9.out
        · go_upto_region 19 with (fail)
          obtain ⟨Y, hY⟩ : ∃ Y, Y = X.setCell ⟨GB, 3, none⟩ (.bool true) := ⟨_, rfl⟩
          have fY : Blk Y GB 42 [.int .i64 (gw : Nat), .int .i64 (gt : Nat), .bool true, .bool true, .int .i64 (gi : Nat)] := by rw [hY]; exact HX.out.2.1.put 3 (.bool true)
          have hbY : Below V.heap.size V Y := by rw [hY]; exact HX.out.1.setCell (p := ⟨GB, 3, none⟩) HX.out.2.2 _
          have fPY := HFX.out.1.same (w' := Y) (D := fun b => b ≠ GB) (fun b hb _ => by rw [hY]; exact Below.heap_setCell _ _ _ _ hb) PGB
          have fLY := HFX.out.2.same (w' := Y) (D := fun b => b ≠ GB) (fun b hb _ => by rw [hY]; exact Below.heap_setCell _ _ _ _ hb) LGB
          rw [← hY]
          have HY := Lib.hid (And.intro fY hbY)
          clear q1 x3 x4 y0 y1 y2 y3 f3 lP lL lG hY
          have q1 := fPY.cell 1
          have x4 := fLY.cell 4
          have f4 := fY.frozen 4
          have y4 := fY.cell 4
          have lP := fPY.lt
          have lL := fLY.lt
          have lG := fY.lt
          simp only [List.getElem?_cons_zero, List.getElem?_cons_succ] at q1 x4 y4
          clear fPY fLY fY hbY
          go_upto_region 20 with (fail)
          obtain ⟨Z, hZ⟩ : ∃ Z, Z = Y.setCell ⟨GB, 4, none⟩ (.int .i64 ((li : Int) + (nn : Int))) := ⟨_, rfl⟩
          have fZ : Blk Z GB 42 [.int .i64 (gw : Nat), .int .i64 (gt : Nat), .bool true, .bool true, .int .i64 ((li : Int) + (nn : Int))] := by rw [hZ]; exact HY.out.1.put 4 _
          have hbZ : Below V.heap.size V Z := by rw [hZ]; exact HY.out.2.setCell (p := ⟨GB, 4, none⟩) HX.out.2.2 _
          rw [← hZ]
          have HZ := Lib.hid (HV.out.below hbZ)
          have hlq : (r ++ [(⟨lw, lt, lh, true, li⟩ : Grp)]).length = q + 1 := by rw [HKW.out.1, HRQ.out]
          have HO := Lib.hid (show Z.ownsRow BB 42 5 (.slice (some ⟨b6, f6, none⟩) (q + 1) c1) (q + 1) (gcs (r ++ [(⟨lw, lt, lh, true, li⟩ : Grp)])) from by have h := HZ.out.own; simp only at h; rw [hlq] at h; exact h)
          clear q1 x4 y4 f4 lP lL lG hZ hbZ
          have y0 := fZ.cell 0
          have y1 := fZ.cell 1
          have y2 := fZ.cell 2
          have y3 := fZ.cell 3
          have y4 := fZ.cell 4
          have lG := fZ.lt
          simp only [List.getElem?_cons_zero, List.getElem?_cons_succ] at y0 y1 y2 y3 y4
          have hbs := HZ.out.lt.2.1
          clear fZ
          go_wp2_with (at_builtin; refine app_gr _ rfl (.tmp 82) (.tmp 84) rfl (HO.out.alloc _) rfl (Reads.new (D := Any) _ [.int .i64 (gw : Nat), .int .i64 (gt : Nat), .bool true, .bool true, .int .i64 ((li : Int) + (nn : Int))] 5 1 _ trivial rfl) rfl (by simp [Value.oneCell']) (by omega) (by simp; omega) ?_; intro v2 w9 hown2 hg2 hat2; obtain ⟨A9, c9, rfl, _⟩ := own_form hown2)
          have hbr : (true && (true || decide (width < col + gw + gt))) = true := by simp
          have H9 := Lib.hid (show LyAt w w9 BB BB M G A9 c9 ⟨out, col, (r ++ [(⟨lw, lt, lh, true, li⟩ : Grp)]) ++ [⟨gw, gt, true, true, li + nn⟩]⟩ from (HZ.out.below ((Below.refl _ _).alloc (Nat.le_refl _) (.cells #[.int .i64 (gw : Nat), .int .i64 (gt : Nat), .bool true, .bool true, .int .i64 ((li : Int) + (nn : Int))] 42))).app (g := ⟨gw, gt, true, true, li + nn⟩) (by simp only; rw [hlq]; exact hown2) (by simp only; rw [hlq]; exact hg2))
          refine ⟨⟨k + 1, A9, c9, by omega, by go_num, by rw [HN.out], (by rw [HN.out]; simp [HRQ.out]), ?_⟩, by simp [intOf]; omega⟩
          rw [HN.out, hbr]
          exact H9.out
      · have hN : lsAt G width d (k + 1) = ⟨out, col, r⟩ := by
          rw [HNX.out]
          unfold lsF
          rw [if_neg (by simp only; omega), if_pos (by simp only; omega)]
          simp
        have HN := Lib.hid hN
        have e5 : ((kd : Int) == 5) = false := by simp; omega
        have e6 : ((kd : Int) == 6) = true := by simp; omega
        have ho1 := HV.out.own
        simp only at ho1
        rw [show (r ++ [(⟨lw, lt, lh, lb2, li⟩ : Grp)]).length = q + 1 from by rw [HKW.out.1, HRQ.out]] at ho1
        obtain ⟨o1, o2, o3⟩ := own_reads (by omega) ho1
        have hcut := (slice_h (P := Tryd.prog) (D := fun b => BB ≤ b) (A := some ⟨b6, f6, none⟩) (n := q + 1) (c := c1) (size := 5) 43 _ Tryd.underlying43 (by kernel_rfl) o3 (by omega) q (by omega) (q : Int) rfl).1
        clear hN HNX HP7 hkd p1 p2 ho1 o1 o2 o3
        go_wp2_with (fail)
        refine ⟨⟨k + 1, some ⟨b6, f6, none⟩, c1, by omega, by go_num, by rw [HN.out], (by rw [HN.out, ← HRQ.out]), ?_⟩, by simp [intOf]; omega⟩
        rw [HN.out]
        exact HV.out.cut
      · have e5 : ((kd : Int) == 5) = false := by simp; omega
        have e6 : ((kd : Int) == 6) = false := by simp; omega
        have hbs := HV.out.lt.2.1
        have hol : out.length ≤ 40000 := by have := HD.out.2.len; omega
        obtain ⟨SP, hSP⟩ : ∃ SP : ByteArray, SP = ⟨(List.replicate li 32).toArray⟩ := ⟨_, rfl⟩
        have hsz : SP.size ≤ 300 := by rw [hSP, sv_len, List.length_replicate]; have := HD.out.2.len; omega
        have hcat : (ByteArray.mk #[10]) ++ SP = ⟨(10 :: List.replicate li 32).toArray⟩ := by
          rw [hSP]
          apply ByteArray.ext
          simp
        have RP := repeat_any [32] li V (by simp; omega) (by omega)
        unfold sv at RP
        have er : Lib.repeatL [32] li = List.replicate li 32 := by have := Lib.repeatL_replicate 32 1 li; rw [Nat.mul_one] at this; exact this
        rw [er, ← hSP] at RP
        have HRP := Lib.hid RP
        have CW := Lib.hid (fun W' (hW : Below V.heap.size V W') => (by
          have h := write_any BB BB out (10 :: List.replicate li 32) W' (HV.out.bld.below hW) (by simp; omega) (by have := hW.size; have := HV.out.lt.2.1; omega)
          unfold sv at h
          rw [← hcat] at h
          exact h : Calls Tryd.prog 11 #[.pointer (some ⟨BB, 0, none⟩), .string ((ByteArray.mk #[10]) ++ SP)] W' fun e w' => e = .returned (.tuple #[.int .i64 ((10 :: List.replicate li (32 : UInt8)).length : Nat), .nilIface]) ∧ BldAt BB BB (out ++ (10 :: List.replicate li 32)) w' ∧ Below BB W' w' ∧ Lib.OthersKept 5 (some BB) W' w'))
        clear RP er hSP hcat
        have LBN : LB ≠ BB := by omega
        have PBN : PB ≠ BB := by omega
        have hlq : (r ++ [(⟨lw, lt, lh, lb2, li⟩ : Grp)]).length = q + 1 := by rw [HKW.out.1, HRQ.out]
        rcases (show kd = 4 ∨ kd ≠ 4 from by omega) with h4 | h4
        · have hN : lsAt G width d (k + 1) = ⟨out ++ (10 :: List.replicate li 32), li, r ++ [⟨lw, lt, lh, lb2, li⟩]⟩ := by
            rw [HNX.out]
            unfold lsF
            rw [if_neg (by simp only; omega), if_neg (by simp only; omega), if_pos (.inl h4)]
            simp only [HKW.out.2]
          have HN := Lib.hid hN
          have e4 : ((kd : Int) == 4) = true := by simp; omega
          clear hN HNX HP7 hkd p1 p2 h4
          go_wp2_with (first | (go_at_call 8; refine HRP.out.mono ?_; rintro e w5 ⟨rfl, hb5⟩) | (go_at_call 11; refine (CW.out _ hb5).mono ?_; rintro e w6 ⟨rfl, hbld, hlow, hoth⟩; have H9 := Lib.hid ((HV.out.below hb5).write hbld hlow hoth li); have fL6 := OthersKept.blk hoth (HF.out.2.below hb5 HF.out.2.lt) LBN (by decide); have x4' := fL6.cell 4; have lL' := fL6.lt; simp only [List.getElem?_cons_zero, List.getElem?_cons_succ] at x4'; clear fL6 hbld hlow hoth))
          refine ⟨⟨k + 1, some ⟨b6, f6, none⟩, c1, by omega, by go_num, by rw [HN.out], (by rw [HN.out]; simp only; rw [hlq]), ?_⟩, by simp [intOf]; omega⟩
          rw [HN.out]
          exact H9.out
        · have e4 : ((kd : Int) == 4) = false := by simp; omega
          have CT := Lib.hid (fun W' (hW : Below V.heap.size V W') => (by
            have h := write_any BB BB out s W' (HV.out.bld.below hW) (by omega) (by have := hW.size; have := HV.out.lt.2.1; omega)
            unfold sv at h
            exact h : Calls Tryd.prog 11 #[.pointer (some ⟨BB, 0, none⟩), .string ⟨s.toArray⟩] W' fun e w' => e = .returned (.tuple #[.int .i64 (s.length : Nat), .nilIface]) ∧ BldAt BB BB (out ++ s) w' ∧ Below BB W' w' ∧ Lib.OthersKept 5 (some BB) W' w'))
          have CS := Lib.hid (fun W' (hW : Below V.heap.size V W') => (by
            have h := write_any BB BB out [32] W' (HV.out.bld.below hW) (by simp; omega) (by have := hW.size; have := HV.out.lt.2.1; omega)
            unfold sv at h
            exact h : Calls Tryd.prog 11 #[.pointer (some ⟨BB, 0, none⟩), .string ⟨#[32]⟩] W' fun e w' => e = .returned (.tuple #[.int .i64 1, .nilIface]) ∧ BldAt BB BB (out ++ [32]) w' ∧ Below BB W' w' ∧ Lib.OthersKept 5 (some BB) W' w'))
          cases lb2 with
          | true =>
            by_cases h1 : kd = 1
            · have e1 : ((kd : Int) != 1) = false := by simp; omega
              have e2 : ((kd : Int) == 2) = false := by simp; omega
              have hN : lsAt G width d (k + 1) = ⟨out ++ s, col + s.length, r ++ [⟨lw, lt, lh, true, li⟩]⟩ := by
                rw [HNX.out]
                unfold lsF
                rw [HKW.out.2]
                rw [if_neg (by simp only; omega), if_neg (by simp only; omega), if_neg (by rintro (h | ⟨_, h⟩) <;> simp_all), if_neg (by simp only; omega)]
              have HN := Lib.hid hN
              clear hN HNX HP7 hkd p1 p2 h4 h1
              go_wp2_with (go_at_call 11; refine (CT.out V (Below.refl _ _)).mono ?_; rintro e w6 ⟨rfl, hbld, hlow, hoth⟩; have H9 := Lib.hid (HV.out.write hbld hlow hoth (col + s.length)); have fP6 := OthersKept.blk hoth HF.out.1 PBN (by decide); have q2' := fP6.cell 2; have lP' := fP6.lt; simp only [List.getElem?_cons_zero, List.getElem?_cons_succ] at q2'; clear fP6 hbld hlow hoth)
              refine ⟨⟨k + 1, some ⟨b6, f6, none⟩, c1, by omega, by go_num, (by rw [HN.out]; exact congrArg (Value.int .i64) (by simp)), (by rw [HN.out]; simp only; rw [hlq]), ?_⟩, by simp [intOf]; omega⟩
              rw [HN.out]
              exact H9.out
            · have e1 : ((kd : Int) != 1) = true := by simp; omega
              have hN : lsAt G width d (k + 1) = ⟨out ++ (10 :: List.replicate li 32), li, r ++ [⟨lw, lt, lh, true, li⟩]⟩ := by
                rw [HNX.out]
                unfold lsF
                rw [HKW.out.2]
                rw [if_neg (by simp only; omega), if_neg (by simp only; omega), if_pos (.inr ⟨rfl, h1⟩)]
              have HN := Lib.hid hN
              clear hN HNX HP7 hkd p1 p2 h4 h1
              go_wp2_with (first | (go_at_call 8; refine HRP.out.mono ?_; rintro e w5 ⟨rfl, hb5⟩) | (go_at_call 11; refine (CW.out _ hb5).mono ?_; rintro e w6 ⟨rfl, hbld, hlow, hoth⟩; have H9 := Lib.hid ((HV.out.below hb5).write hbld hlow hoth li); have fL6 := OthersKept.blk hoth (HF.out.2.below hb5 HF.out.2.lt) LBN (by decide); have x4' := fL6.cell 4; have lL' := fL6.lt; simp only [List.getElem?_cons_zero, List.getElem?_cons_succ] at x4'; clear fL6 hbld hlow hoth))
              refine ⟨⟨k + 1, some ⟨b6, f6, none⟩, c1, by omega, by go_num, by rw [HN.out], (by rw [HN.out]; simp only; rw [hlq]), ?_⟩, by simp [intOf]; omega⟩
              rw [HN.out]
              exact H9.out
          | false =>
            by_cases h2 : kd = 2
            · have e2 : ((kd : Int) == 2) = true := by simp; omega
              have hN : lsAt G width d (k + 1) = ⟨out ++ [32], col + 1, r ++ [⟨lw, lt, lh, false, li⟩]⟩ := by
                rw [HNX.out]
                unfold lsF
                rw [HKW.out.2]
                rw [if_neg (by simp only; omega), if_neg (by simp only; omega), if_neg (by rintro (h | ⟨h, _⟩) <;> simp_all), if_pos h2]
              have HN := Lib.hid hN
              clear hN HNX HP7 hkd p1 p2 h4 h2
              go_wp2_with (go_at_call 11; refine (CS.out V (Below.refl _ _)).mono ?_; rintro e w6 ⟨rfl, hbld, hlow, hoth⟩; have H9 := Lib.hid (HV.out.write hbld hlow hoth (col + 1)); clear hbld hlow hoth)
              refine ⟨⟨k + 1, some ⟨b6, f6, none⟩, c1, by omega, by go_num, (by rw [HN.out]; exact congrArg (Value.int .i64) (by simp)), (by rw [HN.out]; simp only; rw [hlq]), ?_⟩, by simp [intOf]; omega⟩
              rw [HN.out]
              exact H9.out
            · have e2 : ((kd : Int) == 2) = false := by simp; omega
              have hN : lsAt G width d (k + 1) = ⟨out ++ s, col + s.length, r ++ [⟨lw, lt, lh, false, li⟩]⟩ := by
                rw [HNX.out]
                unfold lsF
                rw [HKW.out.2]
                rw [if_neg (by simp only; omega), if_neg (by simp only; omega), if_neg (by rintro (h | ⟨h, _⟩) <;> simp_all), if_neg (by simp only; omega)]
              have HN := Lib.hid hN
              clear hN HNX HP7 hkd p1 p2 h4 h2
              go_wp2_with (go_at_call 11; refine (CT.out V (Below.refl _ _)).mono ?_; rintro e w6 ⟨rfl, hbld, hlow, hoth⟩; have H9 := Lib.hid (HV.out.write hbld hlow hoth (col + s.length)); have fP6 := OthersKept.blk hoth HF.out.1 PBN (by decide); have q2' := fP6.cell 2; have lP' := fP6.lt; simp only [List.getElem?_cons_zero, List.getElem?_cons_succ] at q2'; clear fP6 hbld hlow hoth)
              refine ⟨⟨k + 1, some ⟨b6, f6, none⟩, c1, by omega, by go_num, (by rw [HN.out]; exact congrArg (Value.int .i64) (by simp)), (by rw [HN.out]; simp only; rw [hlq]), ?_⟩, by simp [intOf]; omega⟩
              rw [HN.out]
              exact H9.out
    · obtain rfl : k = n := by omega
      have SA0 := string_any BB BB (lsAt G width d k).out wr HK.out.bld HK.out.lt.2.1
      unfold sv at SA0
      have SA := Lib.hid SA0
      clear SA0
      go_wp2_with (go_at_call 12; refine SA.out.mono ?_; rintro e w5 ⟨rfl, hb5⟩)
      go_ret2
      refine ⟨?_, HK.out.be.trans (hb5.mono HK.out.lt.2.2)⟩
      rw [HGG.out, ← HD.out.1.1]
      rfl
end Go.Proofs.YtdbpgofabbpadaaDoor
