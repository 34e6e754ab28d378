/- Contract of the laws' helper valueFor. -/
import Derived.Test.YtoddjdajjmcliaaShVd
set_option linter.unusedVariables false
namespace Go.Proofs.Ytoddjdajjmcliaa
open Go.RowKit Go.Mem Go.Sh Go.Maps Go.Val
-- BEGIN
set_option maxRecDepth 100000 in
set_option maxHeartbeats 8000000 in
theorem val_succ (f : Nat) (IH : ValTo f) : ValTo (f + 1) := by
  intro d w p P t A m c L n cl l deep v hp ht hl hd hv
  have HT := Lib.hid (And.intro hp (And.intro ht hl))
  obtain ⟨k2, n2, l2⟩ := t
  by_cases h60 : k2 = 6
  · subst h60
    exact val_data f IH d w p P n2 l2 A m c L n cl l deep v hp ht hl hd hv
  have HV := Lib.hid hv
  have hk9 : k2 ≤ 9 := ht.2.2.1
  have hcl := hl.hc.2
  unfold maxLen at hcl
  have hnc := hl.hc.1
  have hNM := numAt_i64 hl.ok deep
  obtain ⟨NM, eNM⟩ : ∃ NM, NM = numAt l deep := ⟨_, rfl⟩
  rw [← eNM] at hNM
  have HNM := Lib.hid (And.intro eNM hNM)
  simp only [Ty.kind, Ty.name]
  clear hp ht hl hv eNM hNM
  obtain ⟨FA, hFA⟩ : ∃ FA, FA = w.heap.size := ⟨_, rfl⟩
  obtain ⟨FB, hFB⟩ : ∃ FB, FB = w.heap.size + 1 := ⟨_, rfl⟩
  obtain ⟨FC, hFC⟩ : ∃ FC, FC = w.heap.size + 1 + 1 := ⟨_, rfl⟩
  have HFs := Lib.hid (show FA = w.heap.size ∧ FB = w.heap.size + 1 ∧ FC = w.heap.size + 1 + 1 from ⟨hFA, hFB, hFC⟩)
  clear hFA hFB hFC
  unfold Pg.cells pvs
  go_enter Try.func14, Try.ntmps14
  go_upto_region 2 with (fail)
  obtain ⟨W3, hW3⟩ : ∃ W3, W3 = ((w.alloc (.cells #[str [109], .int .i64 1, .slice none 0 0, .slice p.A p.n p.c, .slice none 0 0, .slice none 0 0, .slice none 0 0, .slice p.B p.m p.e] 29)).alloc (.cells #[.int .i64 (k2 : Nat), str n2, .slice A m c] 34)).alloc (.cells #[.int .i64 0, .int .i64 0, .string ⟨#[]⟩, .slice none 0 0] 47) := ⟨_, rfl⟩
  have hb := blks3 w 29 34 47 p.cells [.int .i64 (k2 : Nat), str n2, .slice A m c] [.int .i64 0, .int .i64 0, .string ⟨#[]⟩, .slice none 0 0] W3 hW3
  rw [← hW3]
  clear hW3
  rw [← HFs.out.2.2, ← HFs.out.2.1, ← HFs.out.1] at hb
  rw [← HFs.out.2.2, ← HFs.out.2.1, ← HFs.out.1]
  have hat : FirAt d w W3 p P FA FB FC (.mk k2 n2 l2) A m c .nil none := by
    obtain ⟨h1, h2, h3, h4, h5⟩ := hb
    have hbe : Below w.heap.size w W3 := by rw [HFs.out.1] at h4; exact h4
    exact ⟨hbe, ⟨by have := HFs.out; omega, h3.lt⟩, h1, h2, h3, HT.out.1.keep (Same.any hbe), HT.out.2.1.keep (Same.any hbe), rfl⟩
  have HA := Lib.hid hat
  have HL := Lib.hid (HT.out.2.2.keep (Same.any hat.be))
  clear hb hat
  go_upto_if 19 with (fail)
  go_cut [9] (fun v w' => v = .int .i64 NM ∧ W3 = w')
  case first =>
    by_cases hdl : deep < n
    · obtain ⟨b, off, u, rfl, _, hu, hc⟩ := HL.out.hr.at_ hdl
      have hu2 : u = .int .i64 NM := by
        rw [nums_at l deep (by have := HL.out.hn; omega)] at hu
        rw [HNM.out.1]
        unfold numAt
        rw [List.getD_eq_getElem?_getD, List.getElem?_eq_getElem (by have := HL.out.hn; omega)]
        exact (Option.some.inj hu).symm
      subst hu2
      clear hu
      go_wp2_with (fail)
      go_meet
      exact ⟨rfl, rfl⟩
    · have hz : NM = 0 := by
        rw [HNM.out.1]
        unfold numAt
        rw [List.getD_eq_getElem?_getD, List.getElem?_eq_none (by have := HL.out.hn; omega)]
        rfl
      have HZ := Lib.hid hz
      clear hz
      go_wp2_with (fail)
      go_meet
      exact ⟨by rw [HZ.out], rfl⟩
  case rest =>
    obtain ⟨rfl, rfl⟩ := hcut
    have c0 := HA.out.bc.cell 0
    have c1 := HA.out.bc.cell 1
    have c2' := HA.out.bc.cell 2
    have c3' := HA.out.bc.cell 3
    have z0 := HA.out.bc.frozen 0
    have z1 := HA.out.bc.frozen 1
    have z2 := HA.out.bc.frozen 2
    have z3 := HA.out.bc.frozen 3
    have lC := HA.out.bc.lt
    have b0 := HA.out.bb.cell 0
    have b1 := HA.out.bb.cell 1
    have b2 := HA.out.bb.cell 2
    have lB := HA.out.bb.lt
    simp only [Ty.kind, Ty.name, List.getElem?_cons_zero, List.getElem?_cons_succ] at c0 c1 c2' c3' b0 b1 b2
    have hv := HV.out
    rw [valF_of, ← HNM.out.1] at hv
    have n64 := HNM.out.2.1
    have n65 := HNM.out.2.2
    by_cases h1 : k2 = 1
    · subst h1
      rw [if_pos rfl] at hv
      have HR := Lib.hid (Option.some.inj hv)
      have hE := Lib.hid (fir_end rfl HA.out.be HA.out.lo.1 HA.out.bc (.int .i64 2) (.int .i64 NM) (.string ⟨#[]⟩) (.slice none 0 0))
      clear hv HV
      go_wp2_with (fail)
      refine ret_blk rfl rfl hE.out.1 Try.underlying47 (by kernel_rfl) rfl ?_
      rw [← HR.out]
      exact val_end hE.out.2.1 (by omega) HNM.out.2 (by show (0 : Nat) ≤ _; omega)
    by_cases h2 : k2 = 2
    · subst h2
      rw [if_neg h1, if_pos rfl] at hv
      have HR := Lib.hid (Option.some.inj hv)
      obtain ⟨q, hq, hq2⟩ : ∃ q : Nat, restI NM 2 = q ∧ q < 2 := ⟨(restI NM 2).toNat, by have := restI_bd NM 2 (by omega); omega, by have := restI_bd NM 2 (by omega); omega⟩
      have RC := Lib.hid (fun W => rest_q NM 2 W q HNM.out.2 (by omega) (by omega) hq)
      have hE := Lib.hid (fir_end rfl HA.out.be HA.out.lo.1 HA.out.bc (.int .i64 3) (.int .i64 (q : Int)) (.string ⟨#[]⟩) (.slice none 0 0))
      have HQ := Lib.hid hq
      clear hv HV hq h1
      go_wp2_with (go_at_call 12; refine (RC.out _).mono ?_; rintro e w' ⟨rfl, rfl⟩)
      refine ret_blk rfl rfl hE.out.1 Try.underlying47 (by kernel_rfl) rfl ?_
      rw [← HR.out, show restN NM 2 = (q : Int) from HQ.out]
      exact val_end hE.out.2.1 (by omega) ⟨by omega, by omega⟩ (by show (0 : Nat) ≤ _; omega)
    by_cases h3 : k2 = 3
    · subst h3
      rw [if_neg h1, if_neg h2, if_pos rfl] at hv
      have HR := Lib.hid (Option.some.inj hv)
      obtain ⟨q, hq, hq2⟩ : ∃ q : Nat, restI NM 5 = q ∧ q < 5 := ⟨(restI NM 5).toNat, by have := restI_bd NM 5 (by omega); omega, by have := restI_bd NM 5 (by omega); omega⟩
      have RC := Lib.hid (fun W => rest_q NM 5 W q HNM.out.2 (by omega) (by omega) hq)
      have SC := Lib.hid (fun W => Try.strings_Repeat ⟨#[116]⟩ q W (by omega) (by show 1 * q ≤ _; omega))
      have HQ := Lib.hid hq
      clear hv HV hq h1 h2
      go_wp2_with (first | (go_at_call 12; refine (RC.out _).mono ?_; rintro e w' ⟨rfl, rfl⟩) | (go_at_call 29; refine (SC.out _).mono ?_; rintro e w6 ⟨rfl, hb6⟩; rw [repeatT]; have HA6 := Lib.hid (HA.out.below hb6); clear c0 c1 c2' c3' z0 z1 z2 z3 lC b0 b1 b2 lB; have c0 := HA6.out.bc.cell 0; have c1 := HA6.out.bc.cell 1; have c2' := HA6.out.bc.cell 2; have c3' := HA6.out.bc.cell 3; have z0 := HA6.out.bc.frozen 0; have z1 := HA6.out.bc.frozen 1; have z2 := HA6.out.bc.frozen 2; have z3 := HA6.out.bc.frozen 3; have lC := HA6.out.bc.lt; simp only [List.getElem?_cons_zero, List.getElem?_cons_succ] at c0 c1 c2' c3'; clear hb6))
      have hE := Lib.hid (fir_end rfl HA6.out.be HA6.out.lo.1 HA6.out.bc (.int .i64 4) (.int .i64 0) (.string ⟨(List.replicate q 116).toArray⟩) (.slice none 0 0))
      refine ret_blk rfl rfl hE.out.1 Try.underlying47 (by kernel_rfl) rfl ?_
      rw [← HR.out, show restN NM 5 = (q : Int) from HQ.out, Int.toNat_natCast]
      exact val_end hE.out.2.1 (by omega) ⟨by omega, by omega⟩ (by have e := txt_size (List.replicate q 116); have : (List.replicate q (116 : UInt8)).length = q := by simp
                                                                   omega)
    by_cases h9 : k2 = 9
    · subst h9
      rw [if_neg h1, if_neg h2, if_neg h3, if_pos rfl] at hv
      match l2, hv, HA with
      | [], hv, _ => cases hv
      | a :: rr, hv, HA =>
        obtain ⟨v', hv', hvv⟩ := Option.map_eq_some_iff.1 hv
        have hts : TsAt d W3 Any A m c (a :: rr) := HA.out.ht.args
        have hm : m = (a :: rr).length := by obtain ⟨_, q, _⟩ := hts; exact q
        have hm2 : 0 < m := by rw [hm]; simp
        obtain ⟨bb, ob, B, me, ee, rfl, _, p0, p1, p2, hta⟩ := hts.cells (j := 0) hm2 (by simp)
        have C := Lib.hid (fun (W : World) (hW : W.heap = W3.heap) => show Calls Try.prog 14 #[.agg p.cells.toArray, .agg #[.int .i64 (a.kind : Nat), str a.name, .slice B me ee], .slice L n cl, .int .i64 ((deep : Int) + 1)] W (ValPost f W v') from
          IH d W p P a B me ee L n cl l (deep + 1) v' (HA.out.hp.keep (Same.of_heap hW)) (hta.keep (Same.of_heap hW)) (HL.out.keep (Same.of_heap hW)) (by omega) hv')
        have HM := Lib.hid (And.intro hm hvv)
        simp only [List.getElem_cons_zero, Nat.zero_mul, Nat.add_zero] at p0 p1 p2
        have lb := lt_of_cell p0
        have a0 := HA.out.ba.cell 0
        have a1 := HA.out.ba.cell 1
        have a2 := HA.out.ba.cell 2
        have a3 := HA.out.ba.cell 3
        have a4 := HA.out.ba.cell 4
        have a5 := HA.out.ba.cell 5
        have a6 := HA.out.ba.cell 6
        have a7 := HA.out.ba.cell 7
        have lA := HA.out.ba.lt
        simp only [Pg.cells, pvs, List.getElem?_cons_zero, List.getElem?_cons_succ] at a0 a1 a2 a3 a4 a5 a6 a7
        simp only [Pg.cells, pvs] at C
        have hw1 : IntKind.i64.wrap ((deep : Int) + 1) = (deep : Int) + 1 := IntWalk.i64_in _ (by omega)
        have hm1 : (0 : Int) < (m : Int) := by omega
        generalize a.kind = ka at p0 C
        generalize a.name = na at p1 C
        clear hv HV h1 h2 h3 hv' hvv hm hta hts
        go_wp2_with (fail)
        obtain ⟨vk, vn, vt, va⟩ := v'
        go_region_with (go_at_call 14; refine (C.out W3.drew rfl).mono ?_; unfold ValPost; rintro e w5 ⟨hb5, A5, c5, rfl, hv5⟩; simp only [V.kind, V.num, V.text, V.args, vl] at hv5 ⊢; have H5 := Lib.hid (And.intro (below_undrew hb5) hv5); have HA5 := Lib.hid (HA.out.below (below_undrew hb5)); clear c0 c1 c2' c3' z0 z1 z2 z3 lC b0 b1 b2 lB a0 a1 a2 a3 a4 a5 a6 a7 lA p0 p1 p2 lb hb5 hv5; have c0 := HA5.out.bc.cell 0; have c1 := HA5.out.bc.cell 1; have c2' := HA5.out.bc.cell 2; have c3' := HA5.out.bc.cell 3; have z0 := HA5.out.bc.frozen 0; have z1 := HA5.out.bc.frozen 1; have z2 := HA5.out.bc.frozen 2; have z3 := HA5.out.bc.frozen 3; have lC := HA5.out.bc.lt; simp only [List.getElem?_cons_zero, List.getElem?_cons_succ] at c0 c1 c2' c3'; have hE := Lib.hid (fir_end rfl HA5.out.be HA5.out.lo.1 HA5.out.bc (.int .i64 8) (.int .i64 0) (.string ⟨#[]⟩) (.slice (some ⟨w5.heap.size, 0, none⟩) 1 1)))
        all_goals go_wp2_with (fail)
        all_goals refine ret_blk rfl rfl (hE.out.1.alloc _) Try.underlying47 (by kernel_rfl) rfl ?_
        all_goals
          have hr := HM.out.2
          rw [← hr]
          refine cell_end hE.out.2.1 (by simp [World.setCell]) (H5.out.2.keep (hE.out.2.2 _ fun b hb e => by have := HA.out.lo.2; have hb' : W3.heap.size ≤ b := hb; omega)) (fun b hb => by have h1 := HA.out.be.size; have hb' : W3.heap.size ≤ b := hb; omega) (by have := HA5.out.be.size; omega)
    have h6 := h60
    rw [if_neg h1, if_neg h2, if_neg h3, if_neg h9, if_neg h6] at hv
    have HR := Lib.hid (Option.some.inj hv)
    have hE := Lib.hid (fir_end rfl HA.out.be HA.out.lo.1 HA.out.bc (.int .i64 1) (.int .i64 0) (.string ⟨#[]⟩) (.slice none 0 0))
    have e1 : ((k2 : Int) == 1) = false := by simp; omega
    have e2 : ((k2 : Int) == 2) = false := by simp; omega
    have e3 : ((k2 : Int) == 3) = false := by simp; omega
    have e9 : ((k2 : Int) == 9) = false := by simp; omega
    have e6 : ((k2 : Int) == 6) = false := by simp; omega
    clear hv HV h1 h2 h3 h9 h6 h60
    go_wp2_with (fail)
    refine ret_blk rfl rfl hE.out.1 Try.underlying47 (by kernel_rfl) rfl ?_
    rw [← HR.out]
    exact val_end hE.out.2.1 (by omega) ⟨by omega, by omega⟩ (by show (0 : Nat) ≤ _; omega)
end Go.Proofs.Ytoddjdajjmcliaa
