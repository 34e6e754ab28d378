/- ShapeCarries' walk. -/
import Derived.Test.YtoddjdajjmcliaaShIn
import Derived.Test.YtoddjdajjmcliaaShVfA
import Derived.Test.YtoddjdajjmcliaaShFirstC
import Derived.Test.YtoddjdajjmcliaaShCarLaw
import Derived.Test.YtoddjdajjmcliaaShSameC
import Derived.Deep.DeepCutAuto
import Derived.Deep.CutBlock
set_option linter.unusedVariables false
namespace Go.Proofs.Ytoddjdajjmcliaa
open Go.RowKit Go.Mem Go.Sh Go.Maps Go.Val
theorem below_nextC {a b c : World} (hx : Below b.heap.size b c) (h : Below a.heap.size a b) : Below a.heap.size a c := h.trans (hx.mono h.size)
set_option maxRecDepth 100000 in
set_option maxHeartbeats 8000000 in
theorem shapeCarries_any (w : World) (x0 x1 x2 : Int) (h0 : I64 x0) (h1 : I64 x1) (h2 : I64 x2) (L : Option Addr) (ln cl : Nat) (l : List Int) (hl : NsAt w L ln cl l) :
    Calls Try.prog 5 #[.int .i64 x0, .int .i64 x1, .int .i64 x2, .slice L ln cl] w fun e w' => e = .returned (.bool true) ∧ Below w.heap.size w w' := by
  have P0 := Lib.hid (programOf_any x0 w h0)
  have P1 := Lib.hid (fun W => programOf_any x1 W h1)
  have HI := Lib.hid (And.intro h2 hl)
  clear h0 h1 h2 hl
  go_enter Try.func5, Try.ntmps5
  go_wp2_with (fail)
  refine P0.out.mono ?_
  unfold PgPost
  rintro e w1 ⟨hb1, p, y, bad, q, bits, rfl, hy, hq, hbits, hp⟩
  obtain ⟨A, n, c, bc, ea, P, An, cn, At, ct, m, T, rfl, hpi⟩ := hp.in_ hy hbits
  have HP := Lib.hid hpi
  have HB1 := Lib.hid hb1
  clear hp hpi hy hq hbits hb1 P0
  unfold Pg.cells pvs
  go_wp2_with (fail)
  refine (P1.out w1).mono ?_
  unfold PgPost
  rintro e w2 ⟨hb2, p', y', bad', q', bits', rfl, hy', hq', hbits', hp'⟩
  obtain ⟨A', n', c', bc', ea', P', An', cn', At', ct', m', T', rfl, hpj⟩ := hp'.in_ hy' hbits'
  have HP2 := Lib.hid (HP.out.below hb2)
  have HQ2 := Lib.hid hpj
  have HB2 := Lib.hid (HB1.out.trans (hb2.mono HB1.out.size))
  clear hp' hpj hy' hq' hbits' hb2 P1 HP
  unfold Pg.cells pvs
  go_upto_region 2 with (fail)
  have fp := (Blk.new w2 29 (pvs A n c (some ⟨bc, 0, none⟩) 1 ea)).alloc (.cells (pvs A' n' c' (some ⟨bc', 0, none⟩) 1 ea').toArray 29)
  have fq := Blk.new (w2.alloc (.cells (pvs A n c (some ⟨bc, 0, none⟩) 1 ea).toArray 29)) 29 (pvs A' n' c' (some ⟨bc', 0, none⟩) 1 ea')
  rw [show (w2.alloc (.cells (pvs A n c (some ⟨bc, 0, none⟩) 1 ea).toArray 29)).heap.size = w2.heap.size + 1 by simp] at fq
  have hb3 : Below w2.heap.size w2 ((w2.alloc (.cells (pvs A n c (some ⟨bc, 0, none⟩) 1 ea).toArray 29)).alloc (.cells (pvs A' n' c' (some ⟨bc', 0, none⟩) 1 ea').toArray 29)) := ((Below.refl _ _).alloc (Nat.le_refl _) _).alloc (by simp) _
  obtain ⟨W, hW⟩ : ∃ W, W = (w2.alloc (.cells (pvs A n c (some ⟨bc, 0, none⟩) 1 ea).toArray 29)).alloc (.cells (pvs A' n' c' (some ⟨bc', 0, none⟩) 1 ea').toArray 29) := ⟨_, rfl⟩
  rw [← hW] at fp fq hb3
  have hW' : W = (w2.alloc (.cells #[str [109], .int .i64 1, .slice none 0 0, .slice A n c, .slice none 0 0, .slice none 0 0, .slice none 0 0, .slice (some ⟨bc, 0, none⟩) 1 ea] 29)).alloc (.cells #[str [109], .int .i64 1, .slice none 0 0, .slice A' n' c', .slice none 0 0, .slice none 0 0, .slice none 0 0, .slice (some ⟨bc', 0, none⟩) 1 ea'] 29) := hW
  rw [← hW']
  obtain ⟨qb, hqb⟩ : ∃ b, b = w2.heap.size + 1 := ⟨_, rfl⟩
  obtain ⟨pb, hpb⟩ : ∃ b, b = w2.heap.size := ⟨_, rfl⟩
  rw [← hqb, ← hpb]
  rw [← hqb] at fq
  rw [← hpb] at fp
  have HP3 := Lib.hid (HP2.out.below hb3)
  have HQ3 := Lib.hid (HQ2.out.below hb3)
  have HB3 := Lib.hid (HB2.out.trans (hb3.mono HB2.out.size))
  have FP := Lib.hid (And.intro fp fq)
  have hm := And.intro HP3.out.pos.1 HP3.out.pos.2.1
  have c7 := fp.cell 7
  have ap := HP3.out.act.cell 2
  simp only [pvs, acell, List.getElem?_cons_zero, List.getElem?_cons_succ] at c7 ap
  have lp := fp.lt
  have la := HP3.out.act.lt
  clear hW hW' hqb hpb hb3 fp fq HP2 HQ2 HB2 HB1
  have R2 := Lib.hid (fun W => rest_q x2 (m : Int) W ((rsN x2 (m : Int) : Nat) : Int) HI.out.1 (by omega) (by omega) (rsN_eq _ _ (by omega)))
  have b2 := rsN_lt x2 (m : Int) (by omega)
  generalize rsN x2 (m : Int) = i at R2 b2
  have hi : i < T.length := by have := HP3.out.pos.2.2; omega
  obtain ⟨b1, o1, B1, m1, e1, rfl, _, p0, p1, p2, ht⟩ := HP3.out.ts.cells (show i < m by omega) hi
  have HT := Lib.hid (And.intro ht (HP3.out.sub _ (List.getElem_mem hi)))
  have i0 : (0 : Int) ≤ (i : Int) := by omega
  have i1 : (i : Int) < (m : Int) := by omega
  have l1 := lt_of_cell p0
  clear ht
  generalize T[i] = ta at p0 p1 p2 HT
  clear hi
  generalize hka : ta.kind = ka at p0
  generalize hna : ta.name = na at p1
  have HKN := Lib.hid (And.intro hka hna)
  clear hka hna
  go_cut [11] (fun s11 wc => ∃ TB, s11 = .pointer (some ⟨TB, 0, none⟩) ∧ Hid (Blk wc TB 34 [.int .i64 (ka : Nat), str na, .slice B1 m1 e1] ∧ Below W.heap.size W wc ∧ W.heap.size ≤ TB))
  case first =>
    go_region_held3 (fun w' => w'.cell? ⟨pb, 7, none⟩ = some (.slice (some ⟨bc, 0, none⟩) 1 ea) ∧ w'.cell? ⟨bc, 2, none⟩ = some (.slice (some ⟨b1, o1, none⟩) m ct) ∧ w'.cell? ⟨b1, o1 + i * 3, none⟩ = some (.int .i64 (ka : Nat)) ∧ w'.cell? ⟨b1, o1 + i * 3 + 1, none⟩ = some (str na) ∧ w'.cell? ⟨b1, o1 + i * 3 + 2, none⟩ = some (.slice B1 m1 e1)) (first | go_keep)
      (first | (go_at_call 12; refine (R2.out _).mono ?_; rintro e w' ⟨rfl, rfl⟩))
    all_goals
      go_wp2_with (fail)
      go_meet
      exact ⟨W.heap.size, rfl, (Blk.new W 34 [.int .i64 (ka : Nat), str na, .slice B1 m1 e1]).drew, ((Below.refl _ _).alloc (Nat.le_refl _) _).drew, Nat.le_refl _⟩
  case rest =>
    obtain ⟨TB, rfl, HC⟩ := hcut
    have HPc := Lib.hid (HP3.out.below HC.out.2.1)
    have HQc := Lib.hid (HQ3.out.below HC.out.2.1)
    have HBc := Lib.hid (HB3.out.trans (HC.out.2.1.mono HB3.out.size))
    have hTc : TyAt 4 wc Any ka na B1 m1 e1 ta := by
      have h := HT.out.1.keep (Same.any HC.out.2.1)
      rwa [HKN.out.1, HKN.out.2] at h
    have HLc := Lib.hid ((HI.out.2.keep (Same.any HB3.out)).keep (Same.any HC.out.2.1))
    obtain ⟨v1, hv1, hf1, hs1, r, hs2, hr⟩ := carry_law HPc.out.mem HQc.out.mem HT.out.2 l
    have HLAW := Lib.hid (And.intro hf1 (And.intro hs1 (And.intro hs2 hr)))
    have HX := Lib.hid (And.intro hTc (And.intro (FP.out.1.same (Same.any HC.out.2.1 : Same Any _ _) trivial) (And.intro (FP.out.2.same (Same.any HC.out.2.1 : Same Any _ _) trivial) HC.out.1)))
    have CV := Lib.hid (show Calls Try.prog 14 #[.agg #[str [109], .int .i64 1, .slice none 0 0, .slice A n c, .slice none 0 0, .slice none 0 0, .slice none 0 0, .slice (some ⟨bc, 0, none⟩) 1 ea], .agg #[.int .i64 (ka : Nat), str na, .slice B1 m1 e1], .slice L ln cl, .int .i64 0] wc (ValPost 10 wc v1) from by
      have h := val_all 10 4 wc ⟨A, n, c, some ⟨bc, 0, none⟩, 1, ea⟩ P ta B1 m1 e1 L ln cl l 0 v1 HPc.out.dts (by rw [HKN.out.1, HKN.out.2]; exact hTc) HLc.out (by omega) hv1
      rw [HKN.out.1, HKN.out.2] at h
      exact h)
    clear c7 ap lp la R2 b2 i0 i1 l1 p0 p1 p2 hm hTc hv1 hf1 hs1 hs2 hr HP3 HQ3 HB3 HI
    have MK0 := Lib.hid (show ∀ w', Below wc.heap.size wc w' → (Below wc.heap.size wc w' ∧ w'.cell? ⟨pb, 0, none⟩ = some (str [109]) ∧ w'.cell? ⟨pb, 1, none⟩ = some (.int .i64 1) ∧ w'.cell? ⟨pb, 2, none⟩ = some (.slice none 0 0) ∧ w'.cell? ⟨pb, 3, none⟩ = some (.slice A n c) ∧ w'.cell? ⟨pb, 4, none⟩ = some (.slice none 0 0) ∧ w'.cell? ⟨pb, 5, none⟩ = some (.slice none 0 0) ∧ w'.cell? ⟨pb, 6, none⟩ = some (.slice none 0 0) ∧ w'.cell? ⟨pb, 7, none⟩ = some (.slice (some ⟨bc, 0, none⟩) 1 ea) ∧ w'.cell? ⟨qb, 0, none⟩ = some (str [109]) ∧ w'.cell? ⟨qb, 1, none⟩ = some (.int .i64 1) ∧ w'.cell? ⟨qb, 2, none⟩ = some (.slice none 0 0) ∧ w'.cell? ⟨qb, 3, none⟩ = some (.slice A' n' c') ∧ w'.cell? ⟨qb, 4, none⟩ = some (.slice none 0 0) ∧ w'.cell? ⟨qb, 5, none⟩ = some (.slice none 0 0) ∧ w'.cell? ⟨qb, 6, none⟩ = some (.slice none 0 0) ∧ w'.cell? ⟨qb, 7, none⟩ = some (.slice (some ⟨bc', 0, none⟩) 1 ea') ∧ w'.cell? ⟨TB, 0, none⟩ = some (.int .i64 (ka : Nat)) ∧ w'.cell? ⟨TB, 1, none⟩ = some (str na) ∧ w'.cell? ⟨TB, 2, none⟩ = some (.slice B1 m1 e1)) from fun w' h => ⟨h, (h.cell (p := ⟨pb, 0, none⟩) (HX.out.2.1).lt).trans ((HX.out.2.1).cell 0), (h.cell (p := ⟨pb, 1, none⟩) (HX.out.2.1).lt).trans ((HX.out.2.1).cell 1), (h.cell (p := ⟨pb, 2, none⟩) (HX.out.2.1).lt).trans ((HX.out.2.1).cell 2), (h.cell (p := ⟨pb, 3, none⟩) (HX.out.2.1).lt).trans ((HX.out.2.1).cell 3), (h.cell (p := ⟨pb, 4, none⟩) (HX.out.2.1).lt).trans ((HX.out.2.1).cell 4), (h.cell (p := ⟨pb, 5, none⟩) (HX.out.2.1).lt).trans ((HX.out.2.1).cell 5), (h.cell (p := ⟨pb, 6, none⟩) (HX.out.2.1).lt).trans ((HX.out.2.1).cell 6), (h.cell (p := ⟨pb, 7, none⟩) (HX.out.2.1).lt).trans ((HX.out.2.1).cell 7), (h.cell (p := ⟨qb, 0, none⟩) (HX.out.2.2.1).lt).trans ((HX.out.2.2.1).cell 0), (h.cell (p := ⟨qb, 1, none⟩) (HX.out.2.2.1).lt).trans ((HX.out.2.2.1).cell 1), (h.cell (p := ⟨qb, 2, none⟩) (HX.out.2.2.1).lt).trans ((HX.out.2.2.1).cell 2), (h.cell (p := ⟨qb, 3, none⟩) (HX.out.2.2.1).lt).trans ((HX.out.2.2.1).cell 3), (h.cell (p := ⟨qb, 4, none⟩) (HX.out.2.2.1).lt).trans ((HX.out.2.2.1).cell 4), (h.cell (p := ⟨qb, 5, none⟩) (HX.out.2.2.1).lt).trans ((HX.out.2.2.1).cell 5), (h.cell (p := ⟨qb, 6, none⟩) (HX.out.2.2.1).lt).trans ((HX.out.2.2.1).cell 6), (h.cell (p := ⟨qb, 7, none⟩) (HX.out.2.2.1).lt).trans ((HX.out.2.2.1).cell 7), (h.cell (p := ⟨TB, 0, none⟩) (HX.out.2.2.2).lt).trans ((HX.out.2.2.2).cell 0), (h.cell (p := ⟨TB, 1, none⟩) (HX.out.2.2.2).lt).trans ((HX.out.2.2.2).cell 1), (h.cell (p := ⟨TB, 2, none⟩) (HX.out.2.2.2).lt).trans ((HX.out.2.2.2).cell 2)⟩)
    obtain ⟨hbg, gpb0, gpb1, gpb2, gpb3, gpb4, gpb5, gpb6, gpb7, gqb0, gqb1, gqb2, gqb3, gqb4, gqb5, gqb6, gqb7, gTB0, gTB1, gTB2⟩ := MK0.out wc (Below.refl _ _)
    have lp := HX.out.2.1.lt
    have lq := HX.out.2.2.1.lt
    have lT := HX.out.2.2.2.lt
    go_upto_region 4 with (go_at_call 14; refine CV.out.mono ?_; unfold ValPost; rintro e w3 ⟨hb3, A3, c3, rfl, hv3⟩; have H3 := Lib.hid (And.intro hb3 hv3); clear hb3 hv3)
    clear hbg gpb0 gpb1 gpb2 gpb3 gpb4 gpb5 gpb6 gpb7 gqb0 gqb1 gqb2 gqb3 gqb4 gqb5 gqb6 gqb7 gTB0 gTB1 gTB2 lp lq lT CV MK0
    obtain ⟨W4, hW4⟩ : ∃ W4, W4 = w3.alloc (.cells #[.int .i64 v1.kind, .int .i64 v1.num, .string v1.text, .slice A3 v1.args.length c3] 47) := ⟨_, rfl⟩
    obtain ⟨VB, hVB⟩ : ∃ VB, VB = w3.heap.size := ⟨_, rfl⟩
    rw [← hW4, ← hVB]
    have fv : Blk W4 VB 47 (vl v1 A3 c3) := by rw [hW4, hVB]; exact Blk.new _ _ _
    have h34 : Below w3.heap.size w3 W4 := by rw [hW4]; exact (Below.refl _ _).alloc (Nat.le_refl _) _
    have hb4 : Below wc.heap.size wc W4 := H3.out.1.trans (h34.mono H3.out.1.size)
    have k4 : Same Any wc W4 := Same.any hb4
    have G := Lib.hid (And.intro (HX.out.2.1.same k4 trivial) (And.intro (HX.out.2.2.1.same k4 trivial) (And.intro (HX.out.2.2.2.same k4 trivial) fv)))
    have HP4 := Lib.hid (HPc.out.below hb4)
    have HQ4 := Lib.hid (HQc.out.below hb4)
    have hT4 : TyAt 4 W4 Any ta.kind ta.name B1 m1 e1 ta := by rw [HKN.out.1, HKN.out.2]; exact HX.out.1.keep k4
    have HT4 := Lib.hid hT4
    have HV4 := Lib.hid ((H3.out.2.keep (Same.of_below h34 fun b _ hl => hl)).imp (fun _ _ _ => trivial) : VCells 10 W4 Any (vl v1 A3 c3) v1)
    have HB4 := Lib.hid (HBc.out.trans (hb4.mono HBc.out.size))
    clear hW4 hVB fv h34 hb4 k4 hT4 HPc HQc HBc HLc HX HC HT FP
    clear H3
    have CS1 := Lib.hid (show ∀ W', Below W4.heap.size W4 W' → Calls Try.prog 13 #[.agg #[str [109], .int .i64 1, .slice none 0 0, .slice A n c, .slice none 0 0, .slice none 0 0, .slice none 0 0, .slice (some ⟨bc, 0, none⟩) 1 ea], .agg #[str [109], .int .i64 1, .slice none 0 0, .slice A n c, .slice none 0 0, .slice none 0 0, .slice none 0 0, .slice (some ⟨bc, 0, none⟩) 1 ea], .agg #[.int .i64 (ka : Nat), str na, .slice B1 m1 e1], .agg #[.int .i64 (ka : Nat), str na, .slice B1 m1 e1]] W' fun e w' => e = .returned (.bool true) ∧ Below W'.heap.size W' w' from fun W' hW => by
      have h := (HLAW.out.2.1).elim fun s' hs => sameC_any 12 4 4 W' ⟨A, n, c, some ⟨bc, 0, none⟩, 1, ea⟩ P ⟨A, n, c, some ⟨bc, 0, none⟩, 1, ea⟩ P ta ta B1 m1 e1 B1 m1 e1 true s' (HP4.out.dts.keep (Same.any hW)) (HP4.out.dts.keep (Same.any hW)) (HT4.out.keep (Same.any hW)) (HT4.out.keep (Same.any hW)) hs
      rw [HKN.out.1, HKN.out.2] at h
      exact h)
    have CS2 := Lib.hid (show ∀ W', Below W4.heap.size W4 W' → Calls Try.prog 13 #[.agg #[str [109], .int .i64 1, .slice none 0 0, .slice A n c, .slice none 0 0, .slice none 0 0, .slice none 0 0, .slice (some ⟨bc, 0, none⟩) 1 ea], .agg #[str [109], .int .i64 1, .slice none 0 0, .slice A' n' c', .slice none 0 0, .slice none 0 0, .slice none 0 0, .slice (some ⟨bc', 0, none⟩) 1 ea'], .agg #[.int .i64 (ka : Nat), str na, .slice B1 m1 e1], .agg #[.int .i64 (ka : Nat), str na, .slice B1 m1 e1]] W' fun e w' => e = .returned (.bool r) ∧ Below W'.heap.size W' w' from fun W' hW => by
      have h := (HLAW.out.2.2.1).elim fun s' hs => sameC_any 12 4 4 W' ⟨A, n, c, some ⟨bc, 0, none⟩, 1, ea⟩ P ⟨A', n', c', some ⟨bc', 0, none⟩, 1, ea'⟩ P' ta ta B1 m1 e1 B1 m1 e1 r s' (HP4.out.dts.keep (Same.any hW)) (HQ4.out.dts.keep (Same.any hW)) (HT4.out.keep (Same.any hW)) (HT4.out.keep (Same.any hW)) hs
      rw [HKN.out.1, HKN.out.2] at h
      exact h)
    have CF1 := Lib.hid (show ∀ W', Below W4.heap.size W4 W' → Calls Try.prog 15 #[.agg #[str [109], .int .i64 1, .slice none 0 0, .slice A n c, .slice none 0 0, .slice none 0 0, .slice none 0 0, .slice (some ⟨bc, 0, none⟩) 1 ea], .agg #[.int .i64 (ka : Nat), str na, .slice B1 m1 e1], .agg #[.int .i64 v1.kind, .int .i64 v1.num, .string v1.text, .slice A3 v1.args.length c3]] W' fun e w' => e = .returned (.bool true) ∧ Below W'.heap.size W' w' from fun W' hW => by
      have h := Fits_any 10 4 W' ⟨A, n, c, some ⟨bc, 0, none⟩, 1, ea⟩ P ta B1 m1 e1 v1 A3 c3 true (HP4.out.dts.keep (Same.any hW)) (HT4.out.keep (Same.any hW)) (HV4.out.keep (Same.any hW)) HLAW.out.1
      rw [HKN.out.1, HKN.out.2] at h
      exact h)
    have CF2 := Lib.hid (show r = true → ∀ W', Below W4.heap.size W4 W' → Calls Try.prog 15 #[.agg #[str [109], .int .i64 1, .slice none 0 0, .slice A' n' c', .slice none 0 0, .slice none 0 0, .slice none 0 0, .slice (some ⟨bc', 0, none⟩) 1 ea'], .agg #[.int .i64 (ka : Nat), str na, .slice B1 m1 e1], .agg #[.int .i64 v1.kind, .int .i64 v1.num, .string v1.text, .slice A3 v1.args.length c3]] W' fun e w' => e = .returned (.bool true) ∧ Below W'.heap.size W' w' from fun hr W' hW => by
      have h := Fits_any 10 4 W' ⟨A', n', c', some ⟨bc', 0, none⟩, 1, ea'⟩ P' ta B1 m1 e1 v1 A3 c3 true (HQ4.out.dts.keep (Same.any hW)) (HT4.out.keep (Same.any hW)) (HV4.out.keep (Same.any hW)) (HLAW.out.2.2.2 hr)
      rw [HKN.out.1, HKN.out.2] at h
      exact h)
    have MK := Lib.hid (show ∀ w', Below W4.heap.size W4 w' → (Below W4.heap.size W4 w' ∧ w'.cell? ⟨pb, 0, none⟩ = some (str [109]) ∧ w'.cell? ⟨pb, 1, none⟩ = some (.int .i64 1) ∧ w'.cell? ⟨pb, 2, none⟩ = some (.slice none 0 0) ∧ w'.cell? ⟨pb, 3, none⟩ = some (.slice A n c) ∧ w'.cell? ⟨pb, 4, none⟩ = some (.slice none 0 0) ∧ w'.cell? ⟨pb, 5, none⟩ = some (.slice none 0 0) ∧ w'.cell? ⟨pb, 6, none⟩ = some (.slice none 0 0) ∧ w'.cell? ⟨pb, 7, none⟩ = some (.slice (some ⟨bc, 0, none⟩) 1 ea) ∧ w'.cell? ⟨qb, 0, none⟩ = some (str [109]) ∧ w'.cell? ⟨qb, 1, none⟩ = some (.int .i64 1) ∧ w'.cell? ⟨qb, 2, none⟩ = some (.slice none 0 0) ∧ w'.cell? ⟨qb, 3, none⟩ = some (.slice A' n' c') ∧ w'.cell? ⟨qb, 4, none⟩ = some (.slice none 0 0) ∧ w'.cell? ⟨qb, 5, none⟩ = some (.slice none 0 0) ∧ w'.cell? ⟨qb, 6, none⟩ = some (.slice none 0 0) ∧ w'.cell? ⟨qb, 7, none⟩ = some (.slice (some ⟨bc', 0, none⟩) 1 ea') ∧ w'.cell? ⟨TB, 0, none⟩ = some (.int .i64 (ka : Nat)) ∧ w'.cell? ⟨TB, 1, none⟩ = some (str na) ∧ w'.cell? ⟨TB, 2, none⟩ = some (.slice B1 m1 e1) ∧ w'.cell? ⟨VB, 0, none⟩ = some (.int .i64 v1.kind) ∧ w'.cell? ⟨VB, 1, none⟩ = some (.int .i64 v1.num) ∧ w'.cell? ⟨VB, 2, none⟩ = some (.string v1.text) ∧ w'.cell? ⟨VB, 3, none⟩ = some (.slice A3 v1.args.length c3)) from fun w' h => ⟨h, (h.cell (p := ⟨pb, 0, none⟩) (G.out.1).lt).trans ((G.out.1).cell 0), (h.cell (p := ⟨pb, 1, none⟩) (G.out.1).lt).trans ((G.out.1).cell 1), (h.cell (p := ⟨pb, 2, none⟩) (G.out.1).lt).trans ((G.out.1).cell 2), (h.cell (p := ⟨pb, 3, none⟩) (G.out.1).lt).trans ((G.out.1).cell 3), (h.cell (p := ⟨pb, 4, none⟩) (G.out.1).lt).trans ((G.out.1).cell 4), (h.cell (p := ⟨pb, 5, none⟩) (G.out.1).lt).trans ((G.out.1).cell 5), (h.cell (p := ⟨pb, 6, none⟩) (G.out.1).lt).trans ((G.out.1).cell 6), (h.cell (p := ⟨pb, 7, none⟩) (G.out.1).lt).trans ((G.out.1).cell 7), (h.cell (p := ⟨qb, 0, none⟩) (G.out.2.1).lt).trans ((G.out.2.1).cell 0), (h.cell (p := ⟨qb, 1, none⟩) (G.out.2.1).lt).trans ((G.out.2.1).cell 1), (h.cell (p := ⟨qb, 2, none⟩) (G.out.2.1).lt).trans ((G.out.2.1).cell 2), (h.cell (p := ⟨qb, 3, none⟩) (G.out.2.1).lt).trans ((G.out.2.1).cell 3), (h.cell (p := ⟨qb, 4, none⟩) (G.out.2.1).lt).trans ((G.out.2.1).cell 4), (h.cell (p := ⟨qb, 5, none⟩) (G.out.2.1).lt).trans ((G.out.2.1).cell 5), (h.cell (p := ⟨qb, 6, none⟩) (G.out.2.1).lt).trans ((G.out.2.1).cell 6), (h.cell (p := ⟨qb, 7, none⟩) (G.out.2.1).lt).trans ((G.out.2.1).cell 7), (h.cell (p := ⟨TB, 0, none⟩) (G.out.2.2.1).lt).trans ((G.out.2.2.1).cell 0), (h.cell (p := ⟨TB, 1, none⟩) (G.out.2.2.1).lt).trans ((G.out.2.2.1).cell 1), (h.cell (p := ⟨TB, 2, none⟩) (G.out.2.2.1).lt).trans ((G.out.2.2.1).cell 2), (h.cell (p := ⟨VB, 0, none⟩) (G.out.2.2.2).lt).trans ((G.out.2.2.2).cell 0), (h.cell (p := ⟨VB, 1, none⟩) (G.out.2.2.2).lt).trans ((G.out.2.2.2).cell 1), (h.cell (p := ⟨VB, 2, none⟩) (G.out.2.2.2).lt).trans ((G.out.2.2.2).cell 2), (h.cell (p := ⟨VB, 3, none⟩) (G.out.2.2.2).lt).trans ((G.out.2.2.2).cell 3)⟩)
    obtain ⟨hbk, kpb0, kpb1, kpb2, kpb3, kpb4, kpb5, kpb6, kpb7, kqb0, kqb1, kqb2, kqb3, kqb4, kqb5, kqb6, kqb7, kTB0, kTB1, kTB2, kVB0, kVB1, kVB2, kVB3⟩ := MK.out W4 (Below.refl _ _)
    go_upto_region 6 with (first | (go_at_call 13; (with_reducible refine (CS1.out _ (by assumption)).mono ?_); rintro e w' ⟨rfl, hbx⟩; have hbn : Below W4.heap.size W4 w' := below_nextC hbx (by assumption); clear hbx; clear hbk kpb0 kpb1 kpb2 kpb3 kpb4 kpb5 kpb6 kpb7 kqb0 kqb1 kqb2 kqb3 kqb4 kqb5 kqb6 kqb7 kTB0 kTB1 kTB2 kVB0 kVB1 kVB2 kVB3; obtain ⟨hbs, spb0, spb1, spb2, spb3, spb4, spb5, spb6, spb7, sqb0, sqb1, sqb2, sqb3, sqb4, sqb5, sqb6, sqb7, sTB0, sTB1, sTB2, sVB0, sVB1, sVB2, sVB3⟩ := MK.out _ hbn) | (go_at_call 15; (with_reducible refine (CF1.out _ (by assumption)).mono ?_); rintro e w' ⟨rfl, hbx⟩; have hbn : Below W4.heap.size W4 w' := below_nextC hbx (by assumption); clear hbx; clear hbs spb0 spb1 spb2 spb3 spb4 spb5 spb6 spb7 sqb0 sqb1 sqb2 sqb3 sqb4 sqb5 sqb6 sqb7 sTB0 sTB1 sTB2 sVB0 sVB1 sVB2 sVB3; obtain ⟨hbf, fpb0, fpb1, fpb2, fpb3, fpb4, fpb5, fpb6, fpb7, fqb0, fqb1, fqb2, fqb3, fqb4, fqb5, fqb6, fqb7, fTB0, fTB1, fTB2, fVB0, fVB1, fVB2, fVB3⟩ := MK.out _ hbn))
    have CF3 := CF2
    clear CF2
    cases r with
    | false =>
      go_wp2_with (first | (go_at_call 13; (with_reducible refine (CS2.out _ (by assumption)).mono ?_); rintro e w' ⟨rfl, hbx⟩; have hbn : Below W4.heap.size W4 w' := below_nextC hbx (by assumption); clear hbx; obtain ⟨hbu, upb0, upb1, upb2, upb3, upb4, upb5, upb6, upb7, uqb0, uqb1, uqb2, uqb3, uqb4, uqb5, uqb6, uqb7, uTB0, uTB1, uTB2, uVB0, uVB1, uVB2, uVB3⟩ := MK.out _ hbn))
      go_ret
      exact ⟨rfl, below_nextC hbu HB4.out⟩
    | true =>
      have CF4 := Lib.hid (CF3.out rfl)
      go_wp2_with (first | (go_at_call 13; (with_reducible refine (CS2.out _ (by assumption)).mono ?_); rintro e w' ⟨rfl, hbx⟩; have hbn : Below W4.heap.size W4 w' := below_nextC hbx (by assumption); clear hbx; clear hbf fpb0 fpb1 fpb2 fpb3 fpb4 fpb5 fpb6 fpb7 fqb0 fqb1 fqb2 fqb3 fqb4 fqb5 fqb6 fqb7 fTB0 fTB1 fTB2 fVB0 fVB1 fVB2 fVB3; obtain ⟨hbu, upb0, upb1, upb2, upb3, upb4, upb5, upb6, upb7, uqb0, uqb1, uqb2, uqb3, uqb4, uqb5, uqb6, uqb7, uTB0, uTB1, uTB2, uVB0, uVB1, uVB2, uVB3⟩ := MK.out _ hbn) | (go_at_call 15; (with_reducible refine (CF4.out _ (by assumption)).mono ?_); rintro e w' ⟨rfl, hbx⟩; have hbn : Below W4.heap.size W4 w' := below_nextC hbx (by assumption); clear hbx; clear hbu upb0 upb1 upb2 upb3 upb4 upb5 upb6 upb7 uqb0 uqb1 uqb2 uqb3 uqb4 uqb5 uqb6 uqb7 uTB0 uTB1 uTB2 uVB0 uVB1 uVB2 uVB3; obtain ⟨hbv, vpb0, vpb1, vpb2, vpb3, vpb4, vpb5, vpb6, vpb7, vqb0, vqb1, vqb2, vqb3, vqb4, vqb5, vqb6, vqb7, vTB0, vTB1, vTB2, vVB0, vVB1, vVB2, vVB3⟩ := MK.out _ hbn))
      go_ret
      exact ⟨rfl, below_nextC hbv HB4.out⟩
end Go.Proofs.Ytoddjdajjmcliaa
