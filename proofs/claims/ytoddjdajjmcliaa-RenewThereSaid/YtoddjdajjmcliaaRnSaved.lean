/- Contract of the laws' helper savedFor. -/
import Derived.Test.YtoddjdajjmcliaaRnSaved0
import Derived.Deep.RegionLaw
import Derived.Deep.DeepCutAuto
import Derived.Deep.LoopGhost
set_option linter.unusedVariables false
namespace Go.Proofs.Ytoddjdajjmcliaa
open Go.RowKit Go.Mem Go.Sh Go.Maps Go.Val
set_option maxRecDepth 100000 in
set_option maxHeartbeats 16000000 in
theorem savedFor_any (w : World) (A : Option Addr) (n c bc e y : Nat) (bad : Bool) (ad : Addr) (cn : Nat) (At : Option Addr) (ct q m : Nat) (I : List Nat) (Lp : Option Addr) (ln cl : Nat) (l : List Int)
    (hp : PgX w A n c bc e y bad ad cn At ct q m I) (hl : NsAt w Lp ln cl l) :
    Calls Try.prog 20 #[.agg #[str [109], .int .i64 1, .slice none 0 0, .slice A n c, .slice none 0 0, .slice none 0 0, .slice none 0 0, .slice (some ⟨bc, 0, none⟩) 1 e], .slice Lp ln cl] w (fun e w' => ∃ S, stateF (pd y bad) l (I.map tyF) S ∧ SvPost w m S e w') := by
  have HP := Lib.hid hp
  have HL := Lib.hid hl
  have hlc := hl.hc.2
  unfold maxLen at hlc
  have hlc1 := hl.hc.1
  have hact := hp.act
  have ac2 := hact.cell 2
  have lac := hact.lt
  simp only [acell, List.getElem?_cons_zero, List.getElem?_cons_succ] at ac2
  have hm6 := hp.len.2
  have HAC := Lib.hid (And.intro ac2 lac)
  clear hp hl hact ac2 lac
  go_enter Try.func20, Try.ntmps20
  go_upto_region 2 with (fail)
  obtain ⟨u1, hu1⟩ : ∃ u, u = w.alloc (.cells #[str [109], .int .i64 1, .slice none 0 0, .slice A n c, .slice none 0 0, .slice none 0 0, .slice none 0 0, .slice (some ⟨bc, 0, none⟩) 1 e] 29) := ⟨_, rfl⟩
  have zu1 : u1.heap.size = w.heap.size + 1 := by rw [hu1]; simp
  have hbu1 : Below w.heap.size w u1 := by rw [hu1]; exact (Below.refl _ _).alloc (Nat.le_refl _) _
  have fPB : Blk u1 (w.heap.size) 29 [str [109], .int .i64 1, .slice none 0 0, .slice A n c, .slice none 0 0, .slice none 0 0, .slice none 0 0, .slice (some ⟨bc, 0, none⟩) 1 e] := by rw [hu1]; have h := Blk.new w 29 [str [109], .int .i64 1, .slice none 0 0, .slice A n c, .slice none 0 0, .slice none 0 0, .slice none 0 0, .slice (some ⟨bc, 0, none⟩) 1 e]; exact h
  obtain ⟨u2, hu2⟩ : ∃ u, u = u1.alloc (.cells #[.string ⟨#[]⟩, .slice none 0 0, .slice none 0 0] 65) := ⟨_, rfl⟩
  have zu2 : u2.heap.size = w.heap.size + 1 + 1 := by rw [hu2]; simp [zu1]
  have hbu2 : Below w.heap.size w u2 := by rw [hu2]; exact hbu1.alloc hbu1.size _
  replace fPB := fPB.alloc (.cells #[.string ⟨#[]⟩, .slice none 0 0, .slice none 0 0] 65)
  rw [← hu2] at fPB
  have fRB : Blk u2 (w.heap.size + 1) 65 [.string ⟨#[]⟩, .slice none 0 0, .slice none 0 0] := by rw [hu2]; have h := Blk.new u1 65 [.string ⟨#[]⟩, .slice none 0 0, .slice none 0 0]; rw [zu1] at h; exact h
  obtain ⟨u3, hu3⟩ : ∃ u, u = u2.alloc (.cells #[.string ⟨#[65]⟩, .slice none 0 0, .slice none 0 0] 65) := ⟨_, rfl⟩
  have zu3 : u3.heap.size = w.heap.size + 1 + 1 + 1 := by rw [hu3]; simp [zu2]
  have hbu3 : Below w.heap.size w u3 := by rw [hu3]; exact hbu2.alloc hbu2.size _
  replace fPB := fPB.alloc (.cells #[.string ⟨#[65]⟩, .slice none 0 0, .slice none 0 0] 65)
  rw [← hu3] at fPB
  replace fRB := fRB.alloc (.cells #[.string ⟨#[65]⟩, .slice none 0 0, .slice none 0 0] 65)
  rw [← hu3] at fRB
  have fOB : Blk u3 (w.heap.size + 1 + 1) 65 [.string ⟨#[65]⟩, .slice none 0 0, .slice none 0 0] := by rw [hu3]; have h := Blk.new u2 65 [.string ⟨#[65]⟩, .slice none 0 0, .slice none 0 0]; rw [zu2] at h; exact h
  rw [← hu1, ← hu2, ← hu3]
  obtain ⟨OB, zOB⟩ : ∃ b, b = w.heap.size + 1 + 1 := ⟨_, rfl⟩
  obtain ⟨RB, zRB⟩ : ∃ b, b = w.heap.size + 1 := ⟨_, rfl⟩
  obtain ⟨PB, zPB⟩ : ∃ b, b = w.heap.size := ⟨_, rfl⟩
  rw [← zOB, ← zRB, ← zPB]
  rw [← zPB] at fPB
  rw [← zRB] at fRB
  rw [← zOB] at fOB
  clear hu1 hu2 hu3
  have HB := Lib.hid (And.intro hbu3 (And.intro fPB (And.intro fRB (show w.heap.size ≤ RB ∧ w.heap.size ≤ OB ∧ RB < OB ∧ PB < OB ∧ OB < u3.heap.size ∧ OB + 1 = u3.heap.size from ⟨by omega, by omega, by omega, by omega, by omega, by omega⟩))))
  have HR0 := Lib.hid (show SvRow u3 OB (str [65]) 0 [] from ⟨none, 0, fOB, OwnList.nil _ _ _ _, rfl⟩)
  have c7 := fPB.cell 7
  have lp := fPB.lt
  have ac2 := (hbu3.cell (p := ⟨bc, 2, none⟩) HAC.out.2).trans HAC.out.1
  have lac := lt_of_cell ac2
  simp only [List.getElem?_cons_zero, List.getElem?_cons_succ] at c7
  clear fPB fRB fOB zPB zRB zOB zu1 zu2 zu3 hbu1 hbu2 hbu3
  go_wp2_with (fail)
  generalize u3 = W3 at HB HR0
  clear c7 lp ac2 lac
  go_loopw [15] (fun i wr => ∃ (k : Nat) (S : List V), k ≤ m ∧ i = .int .i64 (k : Nat) ∧ Hid (Below w.heap.size w wr ∧ Blk wr PB 29 [str [109], .int .i64 1, .slice none 0 0, .slice A n c, .slice none 0 0, .slice none 0 0, .slice none 0 0, .slice (some ⟨bc, 0, none⟩) 1 e] ∧ Blk wr RB 65 [.string ⟨#[]⟩, .slice none 0 0, .slice none 0 0]) ∧ Hid (SvRow wr OB (str [65]) k S) ∧ Hid (stateF (pd y bad) l ((I.map tyF).take k) S)) (fun i _ => m - (intOf i).toNat)
  case atStart => exact ⟨0, [], Nat.zero_le _, rfl, ⟨HB.out.1, HB.out.2.1, HB.out.2.2.1⟩, HR0.out, rfl, fun i t v h => by simp at h⟩
  case round =>
    obtain ⟨k, S, hk, rfl, HF, HSR, HST⟩ := hrel
    by_cases hlt : k < m
    · have hkT : k < (I.map tyF).length := by have := HP.out.len; simp; omega
      obtain ⟨b1, o1, B1, m1, e1, rfl, _, p0, p1, p2, hty⟩ := (HP.out.ts.keep (Same.any HF.out.1)).cells hlt hkT
      have htm : (I.map tyF)[k] ∈ typesF := by rw [List.getElem_map]; exact tyF_mem _
      have htk : Hid ((I.map tyF).take (k + 1) = (I.map tyF).take k ++ [(I.map tyF)[k]]) := List.take_succ_eq_append_getElem hkT
      generalize (I.map tyF)[k] = ta at p0 p1 hty htm htk
      obtain ⟨v, hv, _⟩ := val_fits HP.out.y12 bad (l.drop k) htm
      generalize hka : ta.kind = ka at p0
      generalize hna : ta.name = na at p1
      have HKN := Lib.hid (And.intro hka hna)
      have HTY := Lib.hid hty
      have HV := Lib.hid hv
      have l1 := lt_of_cell p0
      clear hka hna hty hv htm
      obtain ⟨j, hj⟩ : ∃ j, j = min ln k := ⟨_, rfl⟩
      have hj1 : j ≤ ln := by omega
      have hjk : j ≤ k := by omega
      have hmin : ∀ (ts : Array TypeId) (t : TypeId) (W : World), (Builtin.min_ ts t #[.int .i64 (ln : Int), .int .i64 (k : Int)]).run Try.prog W = .ok (.int .i64 (j : Int)) W := fun ts t W => by
        rw [run_min_int2]
        have : (if (k : Int) < (ln : Int) then (k : Int) else (ln : Int)) = (j : Int) := by split <;> omega
        rw [this]
      obtain ⟨A6, hsl, hrl⟩ := slice_l (P := Try.prog) 44 3 Try.underlying44 (by kernel_rfl) (HL.out.hr.keep (Same.any HF.out.1)) HL.out.hc.1 j hj1 (j : Int) rfl
      rw [Nat.mul_one] at hrl
      have hNS : NsAt wr A6 (ln - j) (cl - j) (l.drop k) := by
        have h0 : (nums l).drop j = nums (l.drop j) := by simp [nums, List.map_drop]
        rw [h0] at hrl
        rw [hj] at hrl ⊢
        exact (HL.out.keep (Same.any HF.out.1)).drop k A6 hrl ⟨by omega, by unfold maxLen; omega⟩
      have HNS := Lib.hid hNS
      clear hrl hNS hj
      obtain ⟨A3, c3, hO, hown, hlen⟩ := HSR.out
      go_upto_region 5 with (fail)
      obtain ⟨w6, hw6⟩ : ∃ w6, w6 = wr.alloc (.cells #[.int .i64 (ka : Nat), str na, .slice B1 m1 e1] 34) := ⟨_, rfl⟩
      obtain ⟨TB, hTB⟩ : ∃ TB, TB = wr.heap.size := ⟨_, rfl⟩
      have hb6 : Below wr.heap.size wr w6 := by rw [hw6]; exact (Below.refl _ _).alloc (Nat.le_refl _) _
      have fT : Blk w6 TB 34 [.int .i64 (ka : Nat), str na, .slice B1 m1 e1] := by rw [hw6, hTB]; exact Blk.new _ _ _
      rw [← hw6, ← hTB]
      have hO6 := hO.below hb6 hO.lt
      have hown6 := hown.keep (VCells.stable 10) (Same.any hb6)
      have fP6 := HF.out.2.1.below hb6 HF.out.2.1.lt
      have H6 := Lib.hid (And.intro hO6 (And.intro hown6 (And.intro hlen hb6)))
      have hb0 : Below w.heap.size w w6 := HF.out.1.trans (hb6.mono HF.out.1.size)
      have C := Lib.hid (fun (W : World) (hW : W.heap = w6.heap) => show Calls Try.prog 14 #[.agg #[str [109], .int .i64 1, .slice none 0 0, .slice A n c, .slice none 0 0, .slice none 0 0, .slice none 0 0, .slice (some ⟨bc, 0, none⟩) 1 e], .agg #[.int .i64 (ka : Nat), str na, .slice B1 m1 e1], .slice A6 (ln - j) (cl - j), .int .i64 0] W (ValPost 10 W v) from by
        have h := val_all 10 4 W ⟨A, n, c, some ⟨bc, 0, none⟩, 1, e⟩ (pd y bad) ta B1 m1 e1 A6 (ln - j) (cl - j) (l.drop k) 0 v ((HP.out.dts.keep (Same.any hb0)).keep (Same.of_heap hW)) ((HTY.out.keep (Same.any hb6)).keep (Same.of_heap hW)) ((HNS.out.keep (Same.any hb6)).keep (Same.of_heap hW)) (by omega) HV.out
        rw [HKN.out.1, HKN.out.2] at h
        exact h)
      have t0 := fT.cell 0
      have t1 := fT.cell 1
      have t2 := fT.cell 2
      have lT := fT.lt
      have o1' := hO6.cell 1
      have fo1 := hO6.frozen 1
      have lO := hO6.lt
      have g0 := fP6.cell 0
      have g1 := fP6.cell 1
      have g2 := fP6.cell 2
      have g3 := fP6.cell 3
      have g4 := fP6.cell 4
      have g5 := fP6.cell 5
      have g6 := fP6.cell 6
      have g7 := fP6.cell 7
      have lP := fP6.lt
      simp only [List.getElem?_cons_zero, List.getElem?_cons_succ] at t0 t1 t2 o1' g0 g1 g2 g3 g4 g5 g6 g7
      have HX6 := Lib.hid (And.intro fP6 (HF.out.2.2.below hb6 HF.out.2.2.lt))
      have HB0 := Lib.hid hb0
      have i0 : (0 : Int) ≤ (j : Int) := by omega
      have hS1 : S.length ≤ 6 := by omega
      clear hw6 hTB hb6 fT hO hown hlen hO6 hown6 fP6 hb0 p0 p1 p2 l1
      go_region_law
        (first
          | (rw [if_pos (by simp [Region.wanted])]; unfold Oper.wp; go_simp; go_at_call 14; refine (C.out w6.drew rfl).mono ?_; unfold ValPost; rintro e w1 ⟨hb1, A5, c5, rfl, hv4⟩; dsimp only; have HVV := Lib.hid (show v = v from rfl); obtain ⟨yk, yn, yt, ya⟩ := v; simp only [V.kind, V.num, V.text, V.args, vl] at hv4 ⊢; have hb1' := below_undrew hb1; have cO1 := H6.out.1.below hb1' H6.out.1.lt; have k1 := cO1.cell 1; have fk1 := cO1.frozen 1; have lk1 := cO1.lt; have k1a : ∀ o, (w1.alloc o).cell? ⟨OB, 1, none⟩ = some (.slice A3 k c3) := fun o => (cO1.alloc o).cell 1; simp only [List.getElem?_cons_zero, List.getElem?_cons_succ] at k1; have hown1 := H6.out.2.1.keep (VCells.stable 10) (Same.any hb1'); have hs1 : w6.heap.size ≤ w1.heap.size := hb1'.size; have hlen6 := H6.out.2.2.1; have HOW1 := Lib.hid hown1; obtain ⟨vs1, ho1, ha1⟩ := hown1; rw [hlen6] at ho1; have HH1 := Lib.hid (And.intro hb1' (And.intro hv4 ha1)))
          | (refine step_app_Vl _ rfl (.tmp 21) (.tmp 31) (by rfl) (ho1.alloc _) rfl (Reads.new (D := Any) _ [.int .i64 yk, .int .i64 yn, .string yt, .slice A5 ya.length c5] 4 1 _ trivial rfl) rfl (by simp [Value.oneCell']) (by omega) (by simp; omega) ?_; intro v2 w2 hown2 hg2 hat2; obtain ⟨A7, c7, rfl, hn5⟩ := own_form hown2; have cO2 := (cO1.alloc (.cells #[.int .i64 yk, .int .i64 yn, .string yt, .slice A5 ya.length c5] 47)).grown hg2 (fun e => by have := (ho1.lt _ e.symm).1; omega); have k1c := cO2.cell 1; have f1c := cO2.frozen 1; have l1c := cO2.lt; simp only [List.getElem?_cons_zero, List.getElem?_cons_succ] at k1c))
      all_goals go_wp2_with (fail)
      all_goals
        obtain ⟨st1, st2⟩ := SvRow.step H6.out.1 H6.out.2.1 H6.out.2.2.1 HH1.out.1 HH1.out.2.1 HH1.out.2.2 hown2 hg2 hat2
        have hz := HB.out.2.2.2
        have htl : ((I.map tyF).take k).length = k := by rw [List.length_take]; omega
        exact ⟨⟨k + 1, S ++ [V.mk yk yn yt ya], by omega, by go_num, ⟨HB0.out.trans (st2.mono hz.2.1), (st2.block PB hz.2.2.2.1).trans HX6.out.1, (st2.block RB hz.2.2.1).trans HX6.out.2⟩, st1, by rw [htk.out]; exact stateF.snoc HST.out (by rw [htl]; exact HV.out)⟩, by simp [intOf]; omega⟩
    · obtain rfl : k = m := by omega
      obtain ⟨A3, c3, hO, hown, hlen⟩ := HSR.out
      have fR := HF.out.2.2
      have x0 := hO.cell 0
      have x1 := hO.cell 1
      have x2 := hO.cell 2
      have lO := hO.lt
      have r0 := fR.cell 0
      have r1 := fR.cell 1
      have r2 := fR.cell 2
      have z0 := fR.frozen 0
      have z1 := fR.frozen 1
      have z2 := fR.frozen 2
      have lR := fR.lt
      simp only [List.getElem?_cons_zero, List.getElem?_cons_succ] at x0 x1 x2 r0 r1 r2
      have HO := Lib.hid (And.intro hown hlen)
      clear hO hown hlen fR
      go_wp2_with (fail)
      have hz := HB.out.2.2.2
      have hB := ((HF.out.2.2.put 0 (str [65])).put 1 (.slice A3 k c3)).put 2 (.slice none 0 0)
      have hbe := ((HF.out.1.setCell (p := ⟨RB, 0, none⟩) hz.1 (str [65])).setCell (p := ⟨RB, 1, none⟩) hz.1 (.slice A3 k c3)).setCell (p := ⟨RB, 2, none⟩) hz.1 (.slice none 0 0)
      refine ret_blk rfl rfl hB Try.underlying65 (by kernel_rfl) rfl ?_
      have hst := HST.out
      rw [List.take_of_length_le (by have := HP.out.len; simp; omega)] at hst
      refine ⟨S, hst, ⟨A3, c3, rfl, ?_⟩, hbe⟩
      have hv := VsRd.of_own HO.out.1 (by omega)
      refine (hv.keep fun b hb _ => ?_).imp fun b hb _ => by have h1 : OB + 1 ≤ b := hb; omega
      have hne : b ≠ RB := by have h1 : OB + 1 ≤ b := hb; omega
      rw [Below.heap_setCell _ _ _ _ hne, Below.heap_setCell _ _ _ _ hne, Below.heap_setCell _ _ _ _ hne]
end Go.Proofs.Ytoddjdajjmcliaa
