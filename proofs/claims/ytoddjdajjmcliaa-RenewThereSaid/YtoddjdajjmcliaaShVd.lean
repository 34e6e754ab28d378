/- Contract of the laws' helper valueFor at a type with a Data. -/
import Derived.Test.YtoddjdajjmcliaaShVf0
import Derived.Outline
import Derived.Deep.RegionLaw
import Derived.Deep.DeepCutAuto
set_option linter.unusedVariables false
namespace Go.Proofs.Ytoddjdajjmcliaa
open Go.RowKit Go.Mem Go.Sh Go.Maps Go.Val
-- BEGIN
set_option maxRecDepth 100000 in
set_option maxHeartbeats 8000000 in
theorem val_data (f : Nat) (IH : ValTo f) (d : Nat) (w : World) (p : Pg) (P : List Dt) (n2 : Nm) (l2 : List Ty) (A : Option Addr) (m c : Nat) (L : Option Addr) (n cl : Nat) (l : List Int) (deep : Nat) (v : V)
    (hp : DtsAt d w Any p.A p.n p.c P) (ht : TyAt d w Any 6 n2 A m c (.mk 6 n2 l2)) (hl : NsAt w L n cl l) (hd : deep + (f + 1) ≤ 1000) (hv : Sh.valF P l (f + 1) deep (.mk 6 n2 l2) = some v) :
    Calls Try.prog 14 #[.agg p.cells.toArray, .agg #[.int .i64 6, str n2, .slice A m c], .slice L n cl, .int .i64 (deep : Nat)] w (ValPost (f + 1) w v) := by
  have HT := Lib.hid (And.intro hp (And.intro ht hl))
  have HV := Lib.hid hv
  have hcl := hl.hc.2
  unfold maxLen at hcl
  have hnc := hl.hc.1
  have hNM := numAt_i64 hl.ok deep
  obtain ⟨NM, eNM⟩ : ∃ NM, NM = numAt l deep := ⟨_, rfl⟩
  rw [← eNM] at hNM
  have HNM := Lib.hid (And.intro eNM hNM)
  clear hp ht hl hv eNM hNM
  obtain ⟨FA, hFA⟩ : ∃ FA, FA = w.heap.size := ⟨_, rfl⟩
  obtain ⟨FB, hFB⟩ : ∃ FB, FB = w.heap.size + 1 := ⟨_, rfl⟩
  obtain ⟨FC, hFC⟩ : ∃ FC, FC = w.heap.size + 1 + 1 := ⟨_, rfl⟩
  have HFs := Lib.hid (show FA = w.heap.size ∧ FB = w.heap.size + 1 ∧ FC = w.heap.size + 1 + 1 from ⟨hFA, hFB, hFC⟩)
  clear hFA hFB hFC
  unfold Pg.cells pvs
  go_enter Try.func14, Try.ntmps14
  go_upto_region 2 with (fail)
  obtain ⟨W3, hW3⟩ : ∃ W3, W3 = ((w.alloc (.cells #[str [109], .int .i64 1, .slice none 0 0, .slice p.A p.n p.c, .slice none 0 0, .slice none 0 0, .slice none 0 0, .slice p.B p.m p.e] 29)).alloc (.cells #[.int .i64 6, str n2, .slice A m c] 34)).alloc (.cells #[.int .i64 0, .int .i64 0, .string ⟨#[]⟩, .slice none 0 0] 47) := ⟨_, rfl⟩
  have hb := blks3 w 29 34 47 p.cells [.int .i64 6, str n2, .slice A m c] [.int .i64 0, .int .i64 0, .string ⟨#[]⟩, .slice none 0 0] W3 hW3
  rw [← hW3]
  clear hW3
  rw [← HFs.out.2.2, ← HFs.out.2.1, ← HFs.out.1] at hb
  rw [← HFs.out.2.2, ← HFs.out.2.1, ← HFs.out.1]
  have hat : FirAt d w W3 p P FA FB FC (.mk 6 n2 l2) A m c .nil none := by
    obtain ⟨h1, h2, h3, h4, h5⟩ := hb
    have hbe : Below w.heap.size w W3 := by rw [HFs.out.1] at h4; exact h4
    exact ⟨hbe, ⟨by have := HFs.out; omega, h3.lt⟩, h1, h2, h3, HT.out.1.keep (Same.any hbe), HT.out.2.1.keep (Same.any hbe), rfl⟩
  have HA := Lib.hid hat
  have HL := Lib.hid (HT.out.2.2.keep (Same.any hat.be))
  clear hb hat
  go_upto_if 19 with (fail)
  go_cut [9] (fun v w' => v = .int .i64 NM ∧ W3 = w')
  case first =>
    by_cases hdl : deep < n
    · obtain ⟨b, off, u, rfl, _, hu, hc⟩ := HL.out.hr.at_ hdl
      have hu2 : u = .int .i64 NM := by
        rw [nums_at l deep (by have := HL.out.hn; omega)] at hu
        rw [HNM.out.1]
        unfold numAt
        rw [List.getD_eq_getElem?_getD, List.getElem?_eq_getElem (by have := HL.out.hn; omega)]
        exact (Option.some.inj hu).symm
      subst hu2
      clear hu
      go_wp2_with (fail)
      go_meet
      exact ⟨rfl, rfl⟩
    · have hz : NM = 0 := by
        rw [HNM.out.1]
        unfold numAt
        rw [List.getD_eq_getElem?_getD, List.getElem?_eq_none (by have := HL.out.hn; omega)]
        rfl
      have HZ := Lib.hid hz
      clear hz
      go_wp2_with (fail)
      go_meet
      exact ⟨by rw [HZ.out], rfl⟩
  case rest =>
    obtain ⟨rfl, rfl⟩ := hcut
    have c0 := HA.out.bc.cell 0
    have c1 := HA.out.bc.cell 1
    have c2' := HA.out.bc.cell 2
    have c3' := HA.out.bc.cell 3
    have z0 := HA.out.bc.frozen 0
    have z1 := HA.out.bc.frozen 1
    have z2 := HA.out.bc.frozen 2
    have z3 := HA.out.bc.frozen 3
    have lC := HA.out.bc.lt
    have b0 := HA.out.bb.cell 0
    have b1 := HA.out.bb.cell 1
    have b2 := HA.out.bb.cell 2
    have lB := HA.out.bb.lt
    simp only [Ty.kind, Ty.name, List.getElem?_cons_zero, List.getElem?_cons_succ] at c0 c1 c2' c3' b0 b1 b2
    have hv := HV.out
    rw [valF_of, ← HNM.out.1] at hv
    have n64 := HNM.out.2.1
    have n65 := HNM.out.2.2
    rw [if_neg (by omega), if_neg (by omega), if_neg (by omega), if_neg (by omega), if_pos rfl] at hv
    have a3 := HA.out.ba.cell 3
    have lA := HA.out.ba.lt
    simp only [Pg.cells, pvs, List.getElem?_cons_zero, List.getElem?_cons_succ] at a3
    have HPn := Lib.hid (show p.n = P.length ∧ p.n ≤ 1000 by have h := HA.out.hp; obtain ⟨_, q1, q2, _⟩ := h; exact ⟨q1, q2⟩)
    have pn1 := HPn.out.2
    have HV2 := Lib.hid hv
    clear hv HV
    go_wp2_with (fail)
    go_loopw [59] (fun i wr => ∃ (j : Nat), j ≤ p.n ∧ i = .int .i64 j ∧ Hid (dataOf P n2 = (P.drop j).find? (fun d => decide (d.name = n2)) ∧ Below W3.heap.size W3 wr)) (fun i _ => p.n - (intOf i).toNat)
    case atStart => exact ⟨0, Nat.zero_le _, rfl, rfl, Below.refl _ _⟩
    case round =>
      obtain ⟨j, hj, rfl, HI⟩ := hrel
      clear c0 c1 c2' c3' z0 z1 z2 z3 lC b0 b1 b2 lB a3 lA
      have HAr := Lib.hid (HA.out.below HI.out.2)
      have hbw : Below w.heap.size w wr := HAr.out.be
      have c0 := HAr.out.bc.cell 0
      have c1 := HAr.out.bc.cell 1
      have c2' := HAr.out.bc.cell 2
      have c3' := HAr.out.bc.cell 3
      have z0 := HAr.out.bc.frozen 0
      have z1 := HAr.out.bc.frozen 1
      have z2 := HAr.out.bc.frozen 2
      have z3 := HAr.out.bc.frozen 3
      have lC := HAr.out.bc.lt
      simp only [List.getElem?_cons_zero, List.getElem?_cons_succ] at c0 c1 c2' c3'
      by_cases hlt : j < p.n
      · have hjl : j < P.length := by have := HPn.out; omega
        obtain ⟨bm, om, X, cx, B, mm, em, eA, _, p0, p1, p2, hnm, _, _, hmk⟩ := HT.out.1.cells hlt hjl
        have p0 := (Same.any hbw : Same Any w wr).cell trivial p0
        have p1 := (Same.any hbw : Same Any w wr).cell trivial p1
        have p2 := (Same.any hbw : Same Any w wr).cell trivial p2
        have b1 := HAr.out.bb.cell 1
        have lB := HAr.out.bb.lt
        simp only [Ty.kind, Ty.name, List.getElem?_cons_zero, List.getElem?_cons_succ] at b1
        have lm := lt_of_cell p0
        have hin := HI.out.1
        rw [List.drop_eq_getElem_cons hjl, List.find?_cons] at hin
        have hPj := Lib.hid (show P[j] = P[j] from rfl)
        generalize P[j] = y at p0 p1 p2 hmk hnm hin
        obtain ⟨yn, yp, ym⟩ := y
        simp only at p0 p1 p2 hmk hnm hin
        have HM := Lib.hid (And.intro hmk hnm)
        have HEP := Lib.hid eA
        rw [eA]
        clear hmk hnm eA hPj
        obtain ⟨w5, hw5⟩ : ∃ w5, w5 = wr.alloc (.cells #[str yn, .slice X yp.length cx, .slice B mm em] 83) := ⟨_, rfl⟩
        obtain ⟨DB, hDB⟩ : ∃ DB, DB = wr.heap.size := ⟨_, rfl⟩
        by_cases hy : yn = n2
        · subst hy
          have nq : (yn == yn) = true := (beq_nm _ _).trans (decide_eq_true rfl)
          have nq2 : (yn != yn) = false := by simp [bne]
          have HD := Lib.hid (show dataOf P yn = some ⟨yn, yp, ym⟩ by rw [hin, decide_eq_true rfl])
          clear hin
          go_upto_region 18 with (fail)
          rw [← hw5, ← hDB]
          have hd5 : Blk w5 DB 83 [str yn, .slice X yp.length cx, .slice B mm em] := by rw [hw5, hDB]; exact Blk.new _ _ _
          have h5 : Below wr.heap.size wr w5 := by rw [hw5]; exact (Below.refl _ _).alloc (Nat.le_refl _) _
          have HA5 := Lib.hid (HAr.out.below h5)
          have H5 := Lib.hid (And.intro hd5 (And.intro h5 (show wr.heap.size ≤ DB by omega)))
          have hv := HV2.out
          rw [HD.out] at hv
          simp only at hv
          have hpos : 0 < ym.length := by
            rcases Nat.eq_zero_or_pos ym.length with h | h
            · rw [if_neg (by omega)] at hv; cases hv
            · exact h
          rw [if_pos hpos] at hv
          obtain ⟨mk, hmk⟩ : ∃ mk, pickF ⟨yn, yp, ym⟩ NM deep = some mk := by
            cases h : pickF ⟨yn, yp, ym⟩ NM deep with
            | none => rw [h] at hv; cases hv
            | some mk => exact ⟨mk, rfl⟩
          rw [hmk] at hv
          obtain ⟨vs, hvs, hve⟩ := Option.map_eq_some_iff.1 hv
          have HVS := Lib.hid (And.intro hvs hve)
          have HMK := Lib.hid hmk
          clear hv hmk hvs hve HV2 hd5 h5 hw5 hDB
          have hmm : mm = ym.length ∧ mm ≤ 1000 := by have h := HM.out.1; obtain ⟨_, q1, q2, _⟩ := h; exact ⟨q1, q2⟩
          obtain ⟨q, hq, hq2⟩ : ∃ q : Nat, restI NM (mm : Int) = q ∧ q < mm := ⟨(restI NM mm).toNat, by have := restI_bd NM (mm : Int) (by omega); omega, by have := restI_bd NM (mm : Int) (by omega); omega⟩
          have RC := Lib.hid (fun W => rest_q NM (mm : Int) W q HNM.out.2 (by omega) (by omega) hq)
          have HQ := Lib.hid (And.intro hq hmm)
          have hql : q < ym.length := by omega
          obtain ⟨bq, oq, Bq, mq, eq, eB, _, q0, q1, _, _⟩ := HM.out.1.cells hq2 hql
          have hb5 : Below w.heap.size w w5 := HA5.out.be
          have q0 := (Same.any hb5 : Same Any w w5).cell trivial q0
          have q1 := (Same.any hb5 : Same Any w w5).cell trivial q1
          have lq := lt_of_cell q0
          have d0 := H5.out.1.cell 0
          have d2 := H5.out.1.cell 2
          have lD := H5.out.1.lt
          simp only [List.getElem?_cons_zero, List.getElem?_cons_succ] at d0 d2
          generalize ym[q].name = qn at q0
          have HEB := Lib.hid eB
          rw [eB] at d2
          have i1 : (q : Int) < (mm : Int) := by omega
          have i2 : (0 : Int) ≤ (q : Int) := by omega
          clear hpos hq hmm hb5 eB c0 c1 c2' c3' z0 z1 z2 z3 lC b1 lB lm p0 p1 p2 nq nq2
          go_cut [12] from 59 to 148 (fun v wc => ∃ MB, v = .pointer (some ⟨MB, 0, none⟩) ∧ Hid (Blk wc MB 80 [str qn, .slice Bq mq eq] ∧ Below w5.heap.size w5 wc ∧ w5.heap.size ≤ MB))
          case first =>
            go_region_held3 (fun w' => w'.cell? ⟨DB, 0, none⟩ = some (str yn) ∧ w'.cell? ⟨DB, 2, none⟩ = some (.slice (some ⟨bq, oq, none⟩) mm em) ∧ w'.cell? ⟨bq, oq + q * 2, none⟩ = some (str qn) ∧ w'.cell? ⟨bq, oq + q * 2 + 1, none⟩ = some (.slice Bq mq eq)) (first | go_keep)
              (first | (go_at_call 12; refine (RC.out _).mono ?_; rintro e w' ⟨rfl, rfl⟩))
            all_goals
              go_wp2_with (fail)
              go_meet
              exact ⟨w5.heap.size, rfl, (Blk.new w5 80 [str qn, .slice Bq mq eq]).drew, ((Below.refl _ _).alloc (Nat.le_refl _) _).drew, Nat.le_refl _⟩
          case rest =>
            obtain ⟨MB, rfl, HC⟩ := hcut
            have HDc := Lib.hid (H5.out.1.same (Same.any HC.out.2.1 : Same Any _ _) trivial)
            have m0 := HC.out.1.cell 0
            have m1 := HC.out.1.cell 1
            have lM := HC.out.1.lt
            have d0 := HDc.out.cell 0
            have d2 := HDc.out.cell 2
            have lD := HDc.out.lt
            simp only [List.getElem?_cons_zero, List.getElem?_cons_succ] at m0 m1 d0 d2
            rw [HEB.out] at d2
            obtain ⟨j1, hj1⟩ : ∃ j1 : Nat, j1 = if 5 < deep ∧ yn = [68] then 2 else q := ⟨_, rfl⟩
            obtain ⟨j2, hj2⟩ : ∃ j2 : Nat, j2 = if 5 < deep ∧ yn = [76] then 0 else j1 := ⟨_, rfl⟩
            have hmk2 : ym[j2]? = some mk := by
              have h := HMK.out
              unfold pickF at h
              simp only at h
              by_cases h1 : 5 < deep ∧ yn = [76]
              · rw [if_pos h1] at h hj2
                rw [hj2]
                exact h
              · rw [if_neg h1] at h hj2
                rw [hj2, hj1]
                by_cases h2 : 5 < deep ∧ yn = [68]
                · rw [if_pos h2] at h ⊢
                  exact h
                · rw [if_neg h2] at h ⊢
                  have e : (restN NM (ym.length : Int)).toNat = q := by
                    have h3 := HQ.out.1
                    rw [HQ.out.2.1] at h3
                    show (restI NM (ym.length : Int)).toNat = q
                    rw [h3]
                    exact Int.toNat_natCast q
                  rw [e] at h
                  exact h
            have hj1l : j1 < ym.length := by
              by_cases h2 : 5 < deep ∧ yn = [68]
              · have h1 : ¬ (5 < deep ∧ yn = [76]) := by
                  rintro ⟨_, h⟩
                  rw [h2.2] at h
                  exact absurd h (by decide)
                rw [if_neg h1] at hj2
                rw [← hj2]
                exact (List.getElem?_eq_some_iff.1 hmk2).1
              · rw [if_neg h2] at hj1
                rw [hj1]
                exact hql
            obtain ⟨b1, o1, B1, m1', e1, eB1, _, r0w, r1w, rn1, ra1⟩ := HM.out.1.cells (show j1 < mm by have := HQ.out; omega) hj1l
            obtain ⟨b2, o2, B2, m2', e2, eB2, _, s0w, s1w, rn2, ra2⟩ := HM.out.1.cells (show j2 < mm by have := HQ.out; have := (List.getElem?_eq_some_iff.1 hmk2).1; omega) (List.getElem?_eq_some_iff.1 hmk2).1
            have HB1 := Lib.hid (And.intro eB1 eB2)
            have hbc : Below w.heap.size w wc := HA5.out.be.trans (HC.out.2.1.mono HA5.out.be.size)
            have r0 := (Same.any hbc : Same Any w wc).cell trivial r0w
            have r1 := (Same.any hbc : Same Any w wc).cell trivial r1w
            have s0 := (Same.any hbc : Same Any w wc).cell trivial s0w
            have s1 := (Same.any hbc : Same Any w wc).cell trivial s1w
            obtain ⟨rfl, rfl⟩ : b1 = bq ∧ o1 = oq := by
              have h := HB1.out.1.symm.trans HEB.out
              injection h with h
              injection h with h1 h2
              exact ⟨h1, h2⟩
            obtain ⟨rfl, rfl⟩ : b2 = b1 ∧ o2 = o1 := by
              have h := HB1.out.2.symm.trans HEB.out
              injection h with h
              injection h with h1 h2
              exact ⟨h1, h2⟩
            have q0 := (Same.any (HC.out.2.1 : Below w5.heap.size w5 wc) : Same Any w5 wc).cell trivial q0
            have q1 := (Same.any (HC.out.2.1 : Below w5.heap.size w5 wc) : Same Any w5 wc).cell trivial q1
            obtain ⟨x1, hx1⟩ : ∃ x1, x1 = ym[j1].name := ⟨_, rfl⟩
            rw [← hx1] at r0
            have hl2 := (List.getElem?_eq_some_iff.1 hmk2).1
            have hx2 : ym[j2] = mk := by
              have h := hmk2
              rw [List.getElem?_eq_getElem hl2] at h
              exact Option.some.inj h
            clear r0w r1w
            rw [hx2] at s0 s0w rn2 ra2
            have HSW := Lib.hid (And.intro s0w s1w)
            clear s0w s1w
            have HX := Lib.hid (And.intro hj1 (And.intro hj2 (And.intro rn2 ra2)))
            have k1 : j1 < mm := by have := HQ.out; omega
            have k2 : j2 < mm := by have := HQ.out; omega
            have zM0 := HC.out.1.frozen 0
            have zM1 := HC.out.1.frozen 1
            have lq := lt_of_cell r0
            have HB12 := Lib.hid (show j2 = j1 → str x1 = str mk.name ∧ Value.slice B1 m1' e1 = .slice B2 m2' e2 by
              intro e
              subst e
              exact ⟨Option.some.inj (r0.symm.trans s0), Option.some.inj (r1.symm.trans s1)⟩)
            clear hx1 hmk2 hx2 hj1 hj2 rn2 ra2 eB1 eB2 rn1 ra1 hbc
            obtain ⟨fD, hfD⟩ : ∃ fD, fD = (yn == [68]) := ⟨_, rfl⟩
            obtain ⟨fL, hfL⟩ : ∃ fL, fL = (yn == [76]) := ⟨_, rfl⟩
            have HF1 := Lib.hid (show (j1 = if 5 < deep ∧ fD = true then 2 else q) ∧ (j2 = if 5 < deep ∧ fL = true then 0 else j1) by
              have h1 := HX.out.1
              have h2 := HX.out.2.1
              rw [beq_nm] at hfD hfL
              rw [hfD, hfL]
              simp only [decide_eq_true_eq]
              exact ⟨h1, h2⟩)
            have nD : (yn == [68]) = fD := hfD.symm
            have nL : (yn == [76]) = fL := hfL.symm
            clear hfD hfL
            obtain ⟨bD, hbD⟩ : ∃ bD, bD = (decide (5 < deep) && fD) := ⟨_, rfl⟩
            obtain ⟨bL, hbL⟩ : ∃ bL, bL = (decide (5 < deep) && fL) := ⟨_, rfl⟩
            have HBD := Lib.hid hbD
            have HBL := Lib.hid hbL
            have HJ := Lib.hid (show (j1 = if bD = true then 2 else q) ∧ (j2 = if bL = true then 0 else j1) by
              have h := HF1.out
              rw [hbD, hbL]
              simpa only [Bool.and_eq_true, decide_eq_true_eq] using h)
            clear hbD hbL
            go_upto_region 19 with (fail)
            go_cut [83] from 59 to 148 (fun v wx => v = .bool bD ∧ wc = wx)
            case first =>
              by_cases hbig : 5 < deep
              · have g1 : (5 : Int) < (deep : Int) := by omega
                cases fD
                all_goals
                  go_wp2_with (fail)
                  go_meet
                  exact ⟨by rw [HBD.out, decide_eq_true hbig]; rfl, rfl⟩
              · have g1 : ¬ (5 : Int) < (deep : Int) := by omega
                go_wp2_with (fail)
                go_meet
                exact ⟨by rw [HBD.out, decide_eq_false hbig]; rfl, rfl⟩
            case rest =>
              obtain ⟨rfl, rfl⟩ := hcut
              go_upto_if 83 with (fail)
              go_cut [] from 59 to 148 (fun wx => Hid (Blk wx MB 80 [str x1, .slice B1 m1' e1] ∧ Below w5.heap.size w5 wx))
              case first =>
                cases bD with
                | false =>
                  have e : j1 = q := HJ.out.1
                  subst e
                  have v0 := q0.symm.trans r0
                  have v1 := q1.symm.trans r1
                  have HV0 := Lib.hid (And.intro (Option.some.inj v0) (Option.some.inj v1))
                  clear v0 v1
                  go_wp2_with (fail)
                  go_meet
                  have h := HC.out.1
                  rw [HV0.out.1, HV0.out.2] at h
                  exact ⟨h, HC.out.2.1⟩
                | true =>
                  have e : j1 = 2 := HJ.out.1
                  subst e
                  have r0' : wc.cell? ⟨b2, o2 + 4, none⟩ = some (str x1) := r0
                  have r1' : wc.cell? ⟨b2, o2 + 4 + 1, none⟩ = some (.slice B1 m1' e1) := r1
                  have k1' : (2 : Int) < (mm : Int) := by omega
                  clear r0 r1 q0 q1
                  go_wp2_with (fail)
                  go_meet
                  have h := (HC.out.1.put 0 (str x1)).put 1 (.slice B1 m1' e1)
                  exact ⟨h, (HC.out.2.1.setCell (p := ⟨MB, 0, none⟩) HC.out.2.2 _).setCell (p := ⟨MB, 1, none⟩) HC.out.2.2 _⟩
              case rest =>
                have HC2 := hcut
                clear hcut q0 q1 r0 r1 s0 s1 m0 m1 d0 d2 lD lq lM zM0 zM1
                rename World => w7
                have H7 := Lib.hid (HC2.out.1.lt)
                have HD7 := Lib.hid (H5.out.1.same (Same.any HC2.out.2 : Same Any _ _) trivial)
                have hb7 : Below w.heap.size w w7 := HA5.out.be.trans (HC2.out.2.mono HA5.out.be.size)
                have m0 := HC2.out.1.cell 0
                have m1 := HC2.out.1.cell 1
                have z0 := HC2.out.1.frozen 0
                have z1 := HC2.out.1.frozen 1
                have lM := HC2.out.1.lt
                have d0 := HD7.out.cell 0
                have d2 := HD7.out.cell 2
                have lD := HD7.out.lt
                simp only [List.getElem?_cons_zero, List.getElem?_cons_succ] at m0 m1 d0 d2
                rw [HEB.out] at d2
                have s0 := (Same.any hb7 : Same Any w w7).cell trivial HSW.out.1
                have s1 := (Same.any hb7 : Same Any w w7).cell trivial HSW.out.2
                have lq := lt_of_cell s0
                clear hb7
                go_upto_region 21 with (fail)
                go_cut [94] from 59 to 148 (fun v wx => v = .bool bL ∧ w7 = wx)
                case first =>
                  by_cases hbig : 5 < deep
                  · have g1 : (5 : Int) < (deep : Int) := by omega
                    cases fL
                    all_goals
                      go_wp2_with (fail)
                      go_meet
                      exact ⟨by rw [HBL.out, decide_eq_true hbig]; rfl, rfl⟩
                  · have g1 : ¬ (5 : Int) < (deep : Int) := by omega
                    go_wp2_with (fail)
                    go_meet
                    exact ⟨by rw [HBL.out, decide_eq_false hbig]; rfl, rfl⟩
                case rest =>
                  obtain ⟨rfl, rfl⟩ := hcut
                  go_upto_if 94 with (fail)
                  go_cut [] from 59 to 148 (fun wx => Hid (Blk wx MB 80 [str mk.name, .slice B2 m2' e2] ∧ Below w5.heap.size w5 wx))
                  case first =>
                    cases bL with
                    | false =>
                      have e : j2 = j1 := HJ.out.2
                      subst e
                      have HV0 := Lib.hid (HB12.out rfl)
                      go_wp2_with (fail)
                      go_meet
                      have h := HC2.out.1
                      rw [HV0.out.1, HV0.out.2] at h
                      exact ⟨h, HC2.out.2⟩
                    | true =>
                      have e : j2 = 0 := HJ.out.2
                      subst e
                      simp only [Nat.zero_mul, Nat.add_zero] at s0 s1
                      have k2' : (0 : Int) < (mm : Int) := by omega
                      go_wp2_with (fail)
                      go_meet
                      have h := (HC2.out.1.put 0 (str mk.name)).put 1 (.slice B2 m2' e2)
                      exact ⟨h, (HC2.out.2.setCell (p := ⟨MB, 0, none⟩) HC.out.2.2 _).setCell (p := ⟨MB, 1, none⟩) HC.out.2.2 _⟩
                  case rest =>
                    have HC3 := hcut
                    have HA8 := Lib.hid (HA5.out.below hcut.out.2)
                    clear hcut m0 m1 z0 z1 lM d0 d2 lD s0 s1 lq HC2 H7 HD7
                    rename World => w8
                    have m0 := HC3.out.1.cell 0
                    have m1 := HC3.out.1.cell 1
                    have lM := HC3.out.1.lt
                    simp only [List.getElem?_cons_zero, List.getElem?_cons_succ] at m0 m1
                    have hts := HX.out.2.2.2
                    have HTS := Lib.hid hts
                    have hmq : m2' = mk.args.length ∧ m2' ≤ 1000 := by obtain ⟨_, q1, q2, _⟩ := hts; exact ⟨q1, q2⟩
                    have HMQ := Lib.hid hmq
                    have mq1 := hmq.2
                    obtain ⟨VB, hVB⟩ : ∃ VB, VB = w8.heap.size := ⟨_, rfl⟩
                    obtain ⟨w9, hw9⟩ : ∃ w9, w9 = w8.alloc (.cells #[.int .i64 5, .int .i64 0, str mk.name, .slice none 0 0] 47) := ⟨_, rfl⟩
                    clear hts hmq
                    go_upto_region 24 with (fail)
                    rw [← hw9, ← hVB]
                    have h9 : Below w8.heap.size w8 w9 := by rw [hw9]; exact (Below.refl _ _).alloc (Nat.le_refl _) _
                    have hv9 : Blk w9 VB 47 [.int .i64 5, .int .i64 0, str mk.name, .slice none 0 0] := by rw [hw9, hVB]; exact Blk.new _ _ _
                    have hM9 := HC3.out.1.same (Same.any h9 : Same Any _ _) trivial
                    have H9 := Lib.hid (And.intro h9 (And.intro hv9 (And.intro hM9 hVB)))
                    clear m0 m1 lM hVB hw9 h9 hv9 hM9
                    have m1 := H9.out.2.2.1.cell 1
                    have lM := H9.out.2.2.1.lt
                    simp only [List.getElem?_cons_zero, List.getElem?_cons_succ] at m1
                    go_wp2_with (fail)
                    clear m1 lM
                    obtain ⟨wo, hwo⟩ : ∃ wo : World, wo = wr := ⟨_, rfl⟩
                    subst hwo
                    go_loopw [105] (fun i wi => ∃ (k : Nat), k ≤ m2' ∧ i = .int .i64 k ∧ Hid (ArgsAt f w8 VB mk.name vs (fun a => (argF (.mk 6 yn l2) a).bind (Sh.valF P l f (deep + 1))) mk.args wi k)) (fun i _ => m2' - (intOf i).toNat)
                    case atStart => exact ⟨0, Nat.zero_le _, rfl, none, 0, [], rfl, ⟨vs, HVS.out.1, rfl⟩, H9.out.2.1, OwnList.nil _ _ _ _, H9.out.1⟩
                    case round =>
                      obtain ⟨k, hk, rfl, HG⟩ := hrel
                      obtain ⟨A3, c3, us, hlen, ⟨R, hR, hvs⟩, hvb, hown, hbi⟩ := HG.out
                      rename World => wi
                      have HAi := Lib.hid (HA8.out.below hbi)
                      have hbw : Below w.heap.size w wi := HAi.out.be
                      by_cases hklt : k < m2'
                      · have hkl : k < mk.args.length := by have := HMQ.out; omega
                        obtain ⟨v', R2, hv', hR2, hRR⟩ := manyO_drop hkl hR
                        obtain ⟨ta, hta, hvta⟩ := Option.bind_eq_some_iff.1 hv'
                        obtain ⟨ba, oa, Ba, ma, ea, eB2', _, a0w, a1w, a2w, tya⟩ := HTS.out.cells hklt hkl
                        have a0 := (Same.any hbw : Same Any w wi).cell trivial a0w
                        have a1 := (Same.any hbw : Same Any w wi).cell trivial a1w
                        have a2 := (Same.any hbw : Same Any w wi).cell trivial a2w
                        have la := lt_of_cell a0
                        have HK := Lib.hid (And.intro hlen (And.intro hR2 (And.intro (show vs = us ++ v' :: R2 by rw [hvs, hRR]) (And.intro hvb (And.intro hown hbi)))))
                        have HTA := Lib.hid (And.intro hvta tya)
                        have HB2 := Lib.hid eB2'
                        clear hlen hR hvs hvb hown hbi hv' hR2 hRR hvta a0w a1w a2w hbw HG
                        generalize mk.args[k] = a at a0 a1 a2 hta HTA
                        obtain ⟨ak, an, al⟩ := a
                        simp only [Ty.kind, Ty.name] at a0 a1 a2 HTA
                        rw [eB2']
                        clear eB2'
                        obtain ⟨TB, hTB⟩ : ∃ TB, TB = wi.heap.size := ⟨_, rfl⟩
                        obtain ⟨w10, hw10⟩ : ∃ w10, w10 = wi.alloc (.cells #[.int .i64 (ak : Nat), str an, .slice Ba ma ea] 34) := ⟨_, rfl⟩
                        go_upto_region 27 with (fail)
                        rw [← hw10, ← hTB]
                        have h10 : Below wi.heap.size wi w10 := by rw [hw10]; exact (Below.refl _ _).alloc (Nat.le_refl _) _
                        have ht10 : Blk w10 TB 34 [.int .i64 (ak : Nat), str an, .slice Ba ma ea] := by rw [hw10, hTB]; exact Blk.new _ _ _
                        have HA10 := Lib.hid (HAi.out.below h10)
                        have H10 := Lib.hid (And.intro h10 (And.intro ht10 hTB))
                        clear h10 ht10 hTB hw10 a0 a1 a2 la
                        have b2 := HA10.out.bb.cell 2
                        have lB := HA10.out.bb.lt
                        have t0 := H10.out.2.1.cell 0
                        have t1 := H10.out.2.1.cell 1
                        have t2 := H10.out.2.1.cell 2
                        have y0 := H10.out.2.1.frozen 0
                        have y1 := H10.out.2.1.frozen 1
                        have y2 := H10.out.2.1.frozen 2
                        have lT := H10.out.2.1.lt
                        simp only [List.getElem?_cons_zero, List.getElem?_cons_succ] at b2 t0 t1 t2
                        have HTAF := Lib.hid hta
                        clear hta
                        go_upto_if 111 with (fail)
                        go_cut [105] from 105 to 146 (fun vi wx => vi = .int .i64 (k : Nat) ∧ Hid (∃ Ax mx cx', Blk wx TB 34 [.int .i64 (ta.kind : Nat), str ta.name, .slice Ax mx cx'] ∧ TyAt d w Any ta.kind ta.name Ax mx cx' ta ∧ Below wi.heap.size wi wx))
                        case first =>
                          have hTB : wi.heap.size ≤ TB := by have := H10.out.2.2; omega
                          by_cases h5 : ak = 5
                          · subst h5
                            have hta2 : l2[0]? = some ta := by
                              have h := HTAF.out
                              unfold argF at h
                              exact h
                            obtain ⟨h0, ht0⟩ := List.getElem?_eq_some_iff.1 hta2
                            have hts : TsAt d w Any A m c l2 := HT.out.2.1.args
                            have hm0 : 0 < m := by obtain ⟨_, q, _⟩ := hts; omega
                            obtain ⟨bt, ot, Bt, mt, et, eAt, _, p0w, p1w, p2w, tyt⟩ := hts.cells hm0 h0
                            rw [ht0] at p0w p1w tyt
                            have p0 := (Same.any HA10.out.be : Same Any w w10).cell trivial p0w
                            have p1 := (Same.any HA10.out.be : Same Any w w10).cell trivial p1w
                            have p2 := (Same.any HA10.out.be : Same Any w w10).cell trivial p2w
                            simp only [Nat.zero_mul, Nat.add_zero] at p0 p1 p2
                            have lp := lt_of_cell p0
                            have HTY := Lib.hid tyt
                            rw [eAt] at b2
                            obtain ⟨tk, tn, tl⟩ := ta
                            simp only [Ty.kind, Ty.name] at p0 p1 HTY ⊢
                            have i1 : (0 : Int) < (m : Int) := by omega
                            clear p0w p1w p2w tyt hts hta2 h0 ht0 eAt
                            go_wp2_with (fail)
                            go_meet
                            exact ⟨rfl, Bt, mt, et, ((H10.out.2.1.put 0 (.int .i64 (tk : Nat))).put 1 (str tn)).put 2 (.slice Bt mt et), HTY.out, ((H10.out.1.setCell (p := ⟨TB, 0, none⟩) (by omega) _).setCell (p := ⟨TB, 1, none⟩) (by omega) _).setCell (p := ⟨TB, 2, none⟩) (by omega) _⟩
                          · have q5 : ((ak : Int) == 5) = false := by simp; omega
                            have hal : ma = al.length := by have h := HTA.out.2.args; obtain ⟨_, q, _⟩ := h; exact q
                            cases al with
                            | nil =>
                              have hta2 : Ty.mk ak an [] = ta := by
                                have h := HTAF.out
                                unfold argF at h
                                have h2 : (if ak = 5 then l2[0]? else some (Ty.mk ak an [])) = some ta := h
                                rw [if_neg h5] at h2
                                exact Option.some.inj h2
                              obtain rfl : ma = 0 := hal
                              subst hta2
                              clear h5
                              go_wp2_with (fail)
                              go_meet
                              exact ⟨rfl, Ba, 0, ea, H10.out.2.1, HTA.out.2, H10.out.1⟩
                            | cons b bs =>
                              have hts : TsAt d w Any Ba ma ea (b :: bs) := HTA.out.2.args
                              have hm0 : 0 < ma := by rw [hal]; simp
                              obtain ⟨bt, ot, Bt, mt, et, eBt, _, p0w, p1w, p2w, tyt⟩ := hts.cells (j := 0) hm0 (by simp)
                              have p0 := (Same.any HA10.out.be : Same Any w w10).cell trivial p0w
                              simp only [Nat.zero_mul, Nat.add_zero, List.getElem_cons_zero] at p0
                              have lp := lt_of_cell p0
                              have i1 : (0 : Int) < (ma : Int) := by omega
                              rw [eBt] at t2
                              have HEB2 := Lib.hid eBt
                              by_cases hb5 : b.kind = 5
                              · have hta2 : Ty.mk ak an l2 = ta := by
                                  have h := HTAF.out
                                  unfold argF at h
                                  have h2 : (if ak = 5 then l2[0]? else if b.kind = 5 then some (Ty.mk ak an l2) else some (Ty.mk ak an (b :: bs))) = some ta := h
                                  rw [if_neg h5] at h2
                                  rw [if_pos hb5] at h2
                                  exact Option.some.inj h2
                                have hty : TyAt d w Any ak an A m c (.mk ak an l2) := by
                                  obtain ⟨_, _, h1, h2, _⟩ := HTA.out.2
                                  obtain ⟨_, _, _, _, e, h3, h4⟩ := HT.out.2.1
                                  exact ⟨rfl, rfl, h1, h2, e, h3, h4⟩
                                have HTY := Lib.hid hty
                                subst hta2
                                rw [hb5] at p0
                                clear hal h5 hb5 hty hts p0w p1w p2w tyt eBt
                                go_wp2_with (fail)
                                go_meet
                                exact ⟨rfl, A, m, c, ((H10.out.2.1.put 0 (.int .i64 (ak : Nat))).put 1 (str an)).put 2 (.slice A m c), HTY.out, ((H10.out.1.setCell (p := ⟨TB, 0, none⟩) (by omega) _).setCell (p := ⟨TB, 1, none⟩) (by omega) _).setCell (p := ⟨TB, 2, none⟩) (by omega) _⟩
                              · have hta2 : Ty.mk ak an (b :: bs) = ta := by
                                  have h := HTAF.out
                                  unfold argF at h
                                  have h2 : (if ak = 5 then l2[0]? else if b.kind = 5 then some (Ty.mk ak an l2) else some (Ty.mk ak an (b :: bs))) = some ta := h
                                  rw [if_neg h5] at h2
                                  rw [if_neg hb5] at h2
                                  exact Option.some.inj h2
                                subst hta2
                                generalize b.kind = kb at p0 hb5
                                have qb : ((kb : Int) == 5) = false := by simp; omega
                                clear hal h5 hb5 hts p0w p1w p2w tyt eBt
                                go_wp2_with (fail)
                                go_meet
                                exact ⟨rfl, Ba, ma, ea, H10.out.2.1, HTA.out.2, H10.out.1⟩
                        case rest =>
                          obtain ⟨rfl, hcut⟩ := hcut
                          obtain ⟨Ax, mx, cx', hT, hty, hbx⟩ := hcut.out
                          clear hcut b2 lB t0 t1 t2 y0 y1 y2 lT
                          rename World => w11
                          have HA11 := Lib.hid (HAi.out.below hbx)
                          have hb11 : Below w.heap.size w w11 := HA11.out.be
                          have C := Lib.hid (fun (W : World) (hW : W.heap = w11.heap) => show Calls Try.prog 14 #[.agg p.cells.toArray, .agg #[.int .i64 (ta.kind : Nat), str ta.name, .slice Ax mx cx'], .slice L n cl, .int .i64 ((deep : Int) + 1)] W (ValPost f W v') from
                            IH d W p P ta Ax mx cx' L n cl l (deep + 1) v' (HA11.out.hp.keep (Same.of_heap hW)) ((hty.keep (Same.any hb11)).keep (Same.of_heap hW)) ((HT.out.2.2.keep (Same.any hb11)).keep (Same.of_heap hW)) (by omega) HTA.out.1)
                          have hvb := HK.out.2.2.2.1
                          have hvb11 := hvb.same (Same.any hbx : Same Any wi w11) trivial
                          have hown11 := HK.out.2.2.2.2.1.keep (VCells.stable f) (Same.of_below hbx fun b _ hl => hl)
                          have hlv : VB < wi.heap.size := hvb.lt
                          have hsx := hbx.size
                          have v3 := hvb11.cell 3
                          have t0 := hT.cell 0
                          have t1 := hT.cell 1
                          have t2 := hT.cell 2
                          have lT := hT.lt
                          have a3' := HA11.out.ba.cell 3
                          have a0 := HA11.out.ba.cell 0
                          have a1 := HA11.out.ba.cell 1
                          have a2 := HA11.out.ba.cell 2
                          have a4 := HA11.out.ba.cell 4
                          have a5 := HA11.out.ba.cell 5
                          have a6 := HA11.out.ba.cell 6
                          have a7 := HA11.out.ba.cell 7
                          have lA := HA11.out.ba.lt
                          have lV11 := hvb11.lt
                          simp only [Pg.cells, pvs, List.getElem?_cons_zero, List.getElem?_cons_succ] at v3 t0 t1 t2 a0 a1 a2 a3' a4 a5 a6 a7
                          rw [HEP.out] at a3'
                          simp only [Pg.cells, pvs] at C
                          rw [HEP.out] at C
                          have HV11 := Lib.hid (And.intro hvb11 (And.intro hown11 (And.intro hbx hT)))
                          have hlen1 : us.length ≤ 1000 := by have := HK.out.1; omega
                          have hw1 : IntKind.i64.wrap ((deep : Int) + 1) = (deep : Int) + 1 := IntWalk.i64_in _ (by omega)
                          generalize ta.kind = tk at t0 C
                          generalize ta.name = tn at t1 C
                          obtain ⟨vk, vn, vt, va⟩ := v'
                          have hVB1 : VB + 1 ≤ w11.heap.size := by omega
                          clear hvb hvb11 hown11 hbx hT hty hb11 hsx hlv
                          go_upto_region 31 with (fail)
                          go_region_law
                            (first
                              | (rw [if_pos (by simp [Region.wanted])]; unfold Oper.wp; go_simp; go_at_call 14; refine (C.out w11.drew rfl).mono ?_; unfold ValPost; rintro e w1 ⟨hb1, A4, c4, rfl, hv4⟩; dsimp only; simp only [V.kind, V.num, V.text, V.args, vl] at hv4 ⊢; have hb1' := below_undrew hb1; have cv1 := HV11.out.1.same (Same.any hb1' : Same Any w11 w1) trivial; have k1 : w1.cell? ⟨VB, 3, none⟩ = some (.slice A3 k c3) := cv1.cell 3; have k1a : ∀ o, (w1.alloc o).cell? ⟨VB, 3, none⟩ = some (.slice A3 k c3) := fun o => (cv1.alloc o).cell 3; have hown1 := HV11.out.2.1.keep (VCells.stable f) (Same.of_below hb1' fun b _ hl => hl); have hs1 : w11.heap.size ≤ w1.heap.size := hb1.size; obtain ⟨vs1, ho1, ha1⟩ := hown1; have HB1 := Lib.hid (And.intro hb1' (And.intro cv1 (And.intro hv4 ha1))); clear hb1 hb1' cv1 hv4 ha1)
                              | (refine step_app_Vl _ rfl (.tmp 136) (.tmp 143) (by rfl) (ho1.alloc _) rfl (Reads.new (D := Any) _ [.int .i64 vk, .int .i64 vn, .string vt, .slice A4 va.length c4] 4 1 _ trivial rfl) rfl (by simp [Value.oneCell']) (by omega) (by simp; omega) ?_; intro v2 w2 hown2 hg2 hat2; obtain ⟨A5, c5, rfl, hn5⟩ := own_form hown2; have cv2 := (HB1.out.2.1.alloc (.cells #[.int .i64 vk, .int .i64 vn, .string vt, .slice A4 va.length c4] 47)).grown hg2 (fun e => by have := (ho1.lt _ e.symm).1; omega); have k1c : w2.cell? ⟨VB, 3, none⟩ = some (.slice A3 k c3) := cv2.cell 3; have f1c := cv2.frozen 3; have HB2 := Lib.hid (And.intro cv2 (And.intro hown2 (And.intro hg2 hat2))); clear cv2 hg2 hat2))
                          all_goals
                            go_wp2_with (fail)
                            have hhl := HK.out.1
                            have h8 := HK.out.2.2.2.2.2
                            have h9 := HV11.out.2.2.1
                            have hVB8 : w8.heap.size ≤ VB := by have := H9.out.2.2.2; omega
                            have fin : ArgsAt f w8 VB mk.name vs (fun a => (argF (Ty.mk 6 yn l2) a).bind (Sh.valF P l f (deep + 1))) mk.args (w2.setCell { block := VB, off := 3 } (Value.slice A5 (us.length + 1) c5)) (k + 1) := by
                              refine args_step (w11 := w11) (w1 := w1) (c4 := c4) (A4 := A4) (vs1 := vs1) (va := va) (vk := vk) (vn := vn) (vt := vt) (A3 := A3) (c3 := c3) (xs := []) hhl HK.out.2.1 HK.out.2.2.1 ?_ ⟨hVB8, hVB1⟩ HB1.out.2.1 HB1.out.1 ?_ ?_ ?_ HB2.out.2.1 HB2.out.2.2.1 HB2.out.2.2.2
                              · exact h8.trans (h9.mono h8.size)
                              · exact HB1.out.2.2.1
                              · exact HV11.out.2.1.lt
                              · exact HB1.out.2.2.2
                            exact ⟨⟨k + 1, by omega, by go_num, fin⟩, by simp [intOf]; omega⟩
                      · have hend := manyO_end (by have := HMQ.out; omega) hR
                        have hev : vs = us := by rw [hvs, hend]; simp
                        have hkm : k = m2' := by omega
                        have hul : us.length = k := hlen
                        have hsx := hbi.size
                        have c0 := HAi.out.bc.cell 0
                        have c1 := HAi.out.bc.cell 1
                        have c2' := HAi.out.bc.cell 2
                        have c3' := HAi.out.bc.cell 3
                        have z0 := HAi.out.bc.frozen 0
                        have z1 := HAi.out.bc.frozen 1
                        have z2 := HAi.out.bc.frozen 2
                        have z3 := HAi.out.bc.frozen 3
                        have lC := HAi.out.bc.lt
                        have v0 := hvb.cell 0
                        have v1 := hvb.cell 1
                        have v2 := hvb.cell 2
                        have v3 := hvb.cell 3
                        have lV := hvb.lt
                        simp only [List.getElem?_cons_zero, List.getElem?_cons_succ] at c0 c1 c2' c3' v0 v1 v2 v3
                        have hE := Lib.hid (fir_end rfl HAi.out.be HAi.out.lo.1 HAi.out.bc (.int .i64 5) (.int .i64 0) (str mk.name) (.slice A3 k c3))
                        have HO := Lib.hid (And.intro hown (And.intro hev hul))
                        clear hend hev hul hsx hkm hR hvs hown hlen hbi hvb HG hbw
                        go_wp2_with (fail)
                        refine ret_blk rfl rfl hE.out.1 Try.underlying47 (by kernel_rfl) rfl ?_
                        have hve := HVS.out.2
                        rw [← hve]
                        obtain ⟨ho, hev, hul⟩ := HO.out
                        have hFV : FC < VB := by have := HA8.out.lo.2; have := H9.out.2.2.2; omega
                        subst hev
                        subst hul
                        have hvs := VsOwn.at_ (l := vs) ho (by have := HMQ.out; omega)
                        refine ⟨hE.out.2.1, A3, c3, rfl, ?_⟩
                        have e := txt_size mk.name
                        have hnm := HX.out.2.2.1
                        exact vcells_of (k := 5) (n := 0) ((hvs.keep (hE.out.2.2 _ fun b hb e => by have hb' : VB + 1 ≤ b := hb; omega)).imp fun b hb _ => by have h1 := HA8.out.be.size; have hb' : VB + 1 ≤ b := hb; have := H9.out.2.2.2; show w.heap.size ≤ b; omega) ⟨by omega, by omega⟩ ⟨by omega, by omega⟩ (by show (txt mk.name).size ≤ _; omega)
        · have nq : (yn == n2) = false := (beq_nm _ _).trans (decide_eq_false hy)
          have nq2 : (yn != n2) = true := by unfold bne; rw [nq]; rfl
          have HS := Lib.hid (show dataOf P n2 = (P.drop (j + 1)).find? (fun d => decide (d.name = n2)) by rw [hin, decide_eq_false hy])
          have HB5 := Lib.hid (HI.out.2.alloc HI.out.2.size (.cells #[str yn, .slice X yp.length cx, .slice B mm em] 83))
          clear hy hin
          go_wp2_with (fail)
          exact ⟨⟨j + 1, by omega, by go_num, HS.out, HB5.out⟩, by simp [intOf]; omega⟩
      · have hend := HI.out.1
        rw [List.drop_eq_nil_of_le (by have := HPn.out; omega)] at hend
        have hv := HV2.out
        rw [hend] at hv
        have HR := Lib.hid (Option.some.inj hv)
        have hE := Lib.hid (fir_end rfl HAr.out.be HAr.out.lo.1 HAr.out.bc (.int .i64 1) (.int .i64 0) (.string ⟨#[]⟩) (.slice none 0 0))
        clear hend hv
        go_wp2_with (fail)
        refine ret_blk rfl rfl hE.out.1 Try.underlying47 (by kernel_rfl) rfl ?_
        rw [← HR.out]
        exact val_end hE.out.2.1 (by omega) ⟨by omega, by omega⟩ (by show (0 : Nat) ≤ _; omega)
end Go.Proofs.Ytoddjdajjmcliaa
