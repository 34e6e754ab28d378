/- ShapeDeep's walk. -/
import Derived.Test.YtoddjdajjmcliaaShIn
import Derived.Test.YtoddjdajjmcliaaShVfA
import Derived.Test.YtoddjdajjmcliaaShFirstC
import Derived.Test.YtoddjdajjmcliaaShOff
import Derived.Test.YtoddjdajjmcliaaShSameV
import Derived.Test.YtoddjdajjmcliaaGrown
import Derived.Laws.EntriesVeiled
import Derived.Deep.DeepCutAuto
import Derived.Deep.CutBlock
set_option linter.unusedVariables false
namespace Go.Proofs.Ytoddjdajjmcliaa
open Go.RowKit Go.Mem Go.Sh Go.Maps Go.Val
theorem below_nextD {a b c : World} (hx : Below b.heap.size b c) (h : Below a.heap.size a b) : Below a.heap.size a c := h.trans (hx.mono h.size)
set_option maxRecDepth 100000 in
set_option maxHeartbeats 8000000 in
theorem shapeDeep_any (w : World) (x0 x1 : Int) (h0 : I64 x0) (h1 : I64 x1) (L : Option Addr) (ln cl : Nat) (l : List Int) (hl : NsAt w L ln cl l) (x3 : Int) (h3 : I64 x3) :
    Calls Try.prog 4 #[.int .i64 x0, .int .i64 x1, .slice L ln cl, .int .i64 x3] w fun e w' => e = .returned (.bool true) ∧ Below w.heap.size w w' := by
  have P0 := Lib.hid (fun W => programOf_any x0 W h0)
  have HI := Lib.hid (And.intro h1 (And.intro hl h3))
  have RA := Lib.hid (fun W => rest_q x3 40 W ((rsN x3 40 : Nat) : Int) h3 (by omega) (by omega) (rsN_eq _ _ (by omega)))
  have bra := rsN_lt x3 40 (by omega)
  generalize rsN x3 40 = k at RA bra
  clear h0 h1 hl h3
  go_enter Try.func4, Try.ntmps4
  go_wp2_with (fail)
  obtain ⟨w0, hw0⟩ : ∃ w0, w0 = w.alloc (.cells #[.int .i64 x3] 3) := ⟨_, rfl⟩
  obtain ⟨ab, hab⟩ : ∃ b, b = w.heap.size := ⟨_, rfl⟩
  rw [← hw0, ← hab]
  have fa : Blk w0 ab 3 [.int .i64 x3] := by rw [hw0, hab]; exact Blk.new _ _ _
  have hb0 : Below w.heap.size w w0 := by rw [hw0]; exact (Below.refl _ _).alloc (Nat.le_refl _) _
  have HA0 := Lib.hid (And.intro fa (And.intro hb0 (show w.heap.size ≤ ab by omega)))
  clear hw0 hab fa hb0
  refine (P0.out w0).mono ?_
  unfold PgPost
  rintro e w1 ⟨hb1, p, y, bad, q, bits, rfl, hy, hq, hbits, hp⟩
  obtain ⟨A, n, c, bc, ea, P, An, cn, At, ct, m, T, rfl, hpi⟩ := hp.in_ hy hbits
  clear hp hy hq hbits P0
  have HA1 := Lib.hid (And.intro (HA0.out.1.same (Same.any hb1 : Same Any _ _) trivial) (And.intro (HA0.out.2.1.trans (hb1.mono HA0.out.2.1.size)) HA0.out.2.2))
  clear hb1
  unfold Pg.cells pvs
  go_upto_region 2 with (fail)
  obtain ⟨W, hW⟩ : ∃ W, W = w1.alloc (.cells #[str [109], .int .i64 1, .slice none 0 0, .slice A n c, .slice none 0 0, .slice none 0 0, .slice none 0 0, .slice (some ⟨bc, 0, none⟩) 1 ea] 29) := ⟨_, rfl⟩
  obtain ⟨pb, hpb⟩ : ∃ b, b = w1.heap.size := ⟨_, rfl⟩
  have fp : Blk W pb 29 (pvs A n c (some ⟨bc, 0, none⟩) 1 ea) := by rw [hW, hpb]; exact Blk.new w1 29 (pvs A n c (some ⟨bc, 0, none⟩) 1 ea)
  have hb2 : Below w1.heap.size w1 W := by rw [hW]; exact (Below.refl _ _).alloc (Nat.le_refl _) _
  have hnp : ab < pb := by have := HA1.out.1.lt; omega
  rw [← hW, ← hpb]
  have HP := Lib.hid (hpi.below hb2)
  have HB := Lib.hid (HA1.out.2.1.trans (hb2.mono HA1.out.2.1.size))
  have HAW := Lib.hid (And.intro (HA1.out.1.same (Same.any hb2 : Same Any _ _) trivial) (And.intro HA1.out.2.2 hnp))
  have FP := Lib.hid fp
  have hm := And.intro HP.out.pos.1 HP.out.pos.2.1
  have c7 := fp.cell 7
  have ap := HP.out.act.cell 2
  simp only [pvs, acell, List.getElem?_cons_zero, List.getElem?_cons_succ] at c7 ap
  have lp := fp.lt
  have la := HP.out.act.lt
  clear hW hpb hpi hb2 fp hnp HA0 HA1
  have R2 := Lib.hid (fun W => rest_q x1 (m : Int) W ((rsN x1 (m : Int) : Nat) : Int) HI.out.1 (by omega) (by omega) (rsN_eq _ _ (by omega)))
  have b2 := rsN_lt x1 (m : Int) (by omega)
  generalize rsN x1 (m : Int) = i at R2 b2
  have hi : i < T.length := by have := HP.out.pos.2.2; omega
  obtain ⟨b1, o1, B1, m1, e1, rfl, _, p0, p1, p2, ht⟩ := HP.out.ts.cells (show i < m by omega) hi
  have HT := Lib.hid (And.intro ht (HP.out.sub _ (List.getElem_mem hi)))
  have i0 : (0 : Int) ≤ (i : Int) := by omega
  have i1 : (i : Int) < (m : Int) := by omega
  have l1 := lt_of_cell p0
  clear ht
  generalize T[i] = ta at p0 p1 p2 HT
  clear hi
  generalize hka : ta.kind = ka at p0
  generalize hna : ta.name = na at p1
  have HKN := Lib.hid (And.intro hka hna)
  clear hka hna
  go_cut [10] (fun s10 wc => ∃ TB, s10 = .pointer (some ⟨TB, 0, none⟩) ∧ Hid (Blk wc TB 34 [.int .i64 (ka : Nat), str na, .slice B1 m1 e1] ∧ Below W.heap.size W wc ∧ W.heap.size ≤ TB))
  case first =>
    go_region_held3 (fun w' => w'.cell? ⟨pb, 7, none⟩ = some (.slice (some ⟨bc, 0, none⟩) 1 ea) ∧ w'.cell? ⟨bc, 2, none⟩ = some (.slice (some ⟨b1, o1, none⟩) m ct) ∧ w'.cell? ⟨b1, o1 + i * 3, none⟩ = some (.int .i64 (ka : Nat)) ∧ w'.cell? ⟨b1, o1 + i * 3 + 1, none⟩ = some (str na) ∧ w'.cell? ⟨b1, o1 + i * 3 + 2, none⟩ = some (.slice B1 m1 e1)) (first | go_keep)
      (first | (go_at_call 12; refine (R2.out _).mono ?_; rintro e w' ⟨rfl, rfl⟩))
    all_goals
      go_wp2_with (fail)
      go_meet
      exact ⟨W.heap.size, rfl, (Blk.new W 34 [.int .i64 (ka : Nat), str na, .slice B1 m1 e1]).drew, ((Below.refl _ _).alloc (Nat.le_refl _) _).drew, Nat.le_refl _⟩
  case rest =>
    obtain ⟨TB, rfl, HC⟩ := hcut
    have kc : Same Any W wc := Same.any HC.out.2.1
    have HPc := Lib.hid (HP.out.below HC.out.2.1)
    have HBc := Lib.hid (HB.out.trans (HC.out.2.1.mono HB.out.size))
    have hTc : TyAt 4 wc Any ka na B1 m1 e1 ta := by
      have h := HT.out.1.keep kc
      rwa [HKN.out.1, HKN.out.2] at h
    have HLc := Lib.hid ((HI.out.2.1.keep (Same.any HB.out)).keep kc)
    obtain ⟨v1, hv1, hf1, bo, hf2, hbo⟩ := Go.Sh.deep_law HPc.out.mem HT.out.2 l (k : Int)
    have HLAW := Lib.hid (And.intro hf1 (And.intro hf2 hbo))
    have HX := Lib.hid (And.intro hTc (And.intro (FP.out.same kc trivial) (And.intro HC.out.1 (And.intro (HAW.out.1.same kc trivial) (And.intro HAW.out.2 (show ab < TB by have := HC.out.2.2; have := HAW.out.1.lt; omega))))))
    have CV := Lib.hid (show Calls Try.prog 14 #[.agg #[str [109], .int .i64 1, .slice none 0 0, .slice A n c, .slice none 0 0, .slice none 0 0, .slice none 0 0, .slice (some ⟨bc, 0, none⟩) 1 ea], .agg #[.int .i64 (ka : Nat), str na, .slice B1 m1 e1], .slice L ln cl, .int .i64 0] wc (ValPost 10 wc v1) from by
      have h := val_all 10 4 wc ⟨A, n, c, some ⟨bc, 0, none⟩, 1, ea⟩ P ta B1 m1 e1 L ln cl l 0 v1 HPc.out.dts (by rw [HKN.out.1, HKN.out.2]; exact hTc) HLc.out (by omega) hv1
      rw [HKN.out.1, HKN.out.2] at h
      exact h)
    clear c7 ap lp la R2 b2 i0 i1 l1 p0 p1 p2 hm hTc hv1 hf1 hf2 hbo HP HB HI kc HAW
    have MK0 := Lib.hid (show ∀ w', Below wc.heap.size wc w' → (Below wc.heap.size wc w' ∧ w'.cell? ⟨pb, 0, none⟩ = some (str [109]) ∧ w'.cell? ⟨pb, 1, none⟩ = some (.int .i64 1) ∧ w'.cell? ⟨pb, 2, none⟩ = some (.slice none 0 0) ∧ w'.cell? ⟨pb, 3, none⟩ = some (.slice A n c) ∧ w'.cell? ⟨pb, 4, none⟩ = some (.slice none 0 0) ∧ w'.cell? ⟨pb, 5, none⟩ = some (.slice none 0 0) ∧ w'.cell? ⟨pb, 6, none⟩ = some (.slice none 0 0) ∧ w'.cell? ⟨pb, 7, none⟩ = some (.slice (some ⟨bc, 0, none⟩) 1 ea) ∧ w'.cell? ⟨TB, 0, none⟩ = some (.int .i64 (ka : Nat)) ∧ w'.cell? ⟨TB, 1, none⟩ = some (str na) ∧ w'.cell? ⟨TB, 2, none⟩ = some (.slice B1 m1 e1) ∧ w'.cell? ⟨ab, 0, none⟩ = some (.int .i64 x3)) from fun w' h => ⟨h, (h.cell (p := ⟨pb, 0, none⟩) (HX.out.2.1).lt).trans ((HX.out.2.1).cell 0), (h.cell (p := ⟨pb, 1, none⟩) (HX.out.2.1).lt).trans ((HX.out.2.1).cell 1), (h.cell (p := ⟨pb, 2, none⟩) (HX.out.2.1).lt).trans ((HX.out.2.1).cell 2), (h.cell (p := ⟨pb, 3, none⟩) (HX.out.2.1).lt).trans ((HX.out.2.1).cell 3), (h.cell (p := ⟨pb, 4, none⟩) (HX.out.2.1).lt).trans ((HX.out.2.1).cell 4), (h.cell (p := ⟨pb, 5, none⟩) (HX.out.2.1).lt).trans ((HX.out.2.1).cell 5), (h.cell (p := ⟨pb, 6, none⟩) (HX.out.2.1).lt).trans ((HX.out.2.1).cell 6), (h.cell (p := ⟨pb, 7, none⟩) (HX.out.2.1).lt).trans ((HX.out.2.1).cell 7), (h.cell (p := ⟨TB, 0, none⟩) (HX.out.2.2.1).lt).trans ((HX.out.2.2.1).cell 0), (h.cell (p := ⟨TB, 1, none⟩) (HX.out.2.2.1).lt).trans ((HX.out.2.2.1).cell 1), (h.cell (p := ⟨TB, 2, none⟩) (HX.out.2.2.1).lt).trans ((HX.out.2.2.1).cell 2), (h.cell (p := ⟨ab, 0, none⟩) (HX.out.2.2.2.1).lt).trans ((HX.out.2.2.2.1).cell 0)⟩)
    obtain ⟨hbg, gpb0, gpb1, gpb2, gpb3, gpb4, gpb5, gpb6, gpb7, gTB0, gTB1, gTB2, gab0⟩ := MK0.out wc (Below.refl _ _)
    have lp := HX.out.2.1.lt
    have lT := HX.out.2.2.1.lt
    go_upto_region 4 with (go_at_call 14; refine CV.out.mono ?_; unfold ValPost; rintro e w3 ⟨hb3, A3, c3, rfl, hv3⟩; have H3 := Lib.hid (And.intro hb3 hv3); clear hb3 hv3)
    clear hbg gpb0 gpb1 gpb2 gpb3 gpb4 gpb5 gpb6 gpb7 gTB0 gTB1 gTB2 gab0 lp lT CV MK0
    obtain ⟨W4, hW4⟩ : ∃ W4, W4 = w3.alloc (.cells #[.int .i64 v1.kind, .int .i64 v1.num, .string v1.text, .slice A3 v1.args.length c3] 47) := ⟨_, rfl⟩
    obtain ⟨VB, hVB⟩ : ∃ VB, VB = w3.heap.size := ⟨_, rfl⟩
    rw [← hW4, ← hVB]
    have fv : Blk W4 VB 47 (vl v1 A3 c3) := by rw [hW4, hVB]; exact Blk.new _ _ _
    have h34 : Below w3.heap.size w3 W4 := by rw [hW4]; exact (Below.refl _ _).alloc (Nat.le_refl _) _
    have hb4 : Below wc.heap.size wc W4 := H3.out.1.trans (h34.mono H3.out.1.size)
    have k4 : Same Any wc W4 := Same.any hb4
    have habc : ab < wc.heap.size := HX.out.2.2.2.1.lt
    have hne : ab < pb ∧ ab < TB ∧ ab < VB := ⟨HX.out.2.2.2.2.1.2, HX.out.2.2.2.2.2, by have := H3.out.1.size; omega⟩
    have fa4 := HX.out.2.2.2.1.same k4 trivial
    have G := Lib.hid (And.intro (HX.out.2.1.same k4 trivial) (And.intro (HX.out.2.2.1.same k4 trivial) (And.intro fv (And.intro fa4 (And.intro hne HX.out.2.2.2.2.1.1)))))
    have HD4 := Lib.hid ((HPc.out.below hb4).dts.off fa4)
    have hT4 : TyAt 4 W4 Any ta.kind ta.name B1 m1 e1 ta := by rw [HKN.out.1, HKN.out.2]; exact HX.out.1.keep k4
    have HT4 := Lib.hid (hT4.off fa4)
    have HV4 := Lib.hid ((H3.out.2.keep (Same.of_below h34 fun b _ hl => hl)).imp (fun b hb _ => by have hb' : wc.heap.size ≤ b := hb; show b ≠ ab; omega) : VCells 10 W4 (fun b => b ≠ ab) (vl v1 A3 c3) v1)
    have HB4 := Lib.hid (HBc.out.trans (hb4.mono HBc.out.size))
    clear hW4 hVB fv h34 hb4 k4 hT4 HPc HBc HLc HX HC HT FP habc hne fa4
    clear H3
    have CF1 := Lib.hid (show Calls Try.prog 15 #[.agg #[str [109], .int .i64 1, .slice none 0 0, .slice A n c, .slice none 0 0, .slice none 0 0, .slice none 0 0, .slice (some ⟨bc, 0, none⟩) 1 ea], .agg #[.int .i64 (ka : Nat), str na, .slice B1 m1 e1], .agg #[.int .i64 v1.kind, .int .i64 v1.num, .string v1.text, .slice A3 v1.args.length c3]] W4 fun e w' => e = .returned (.bool true) ∧ Below W4.heap.size W4 w' from by
      have h := Fits_any 10 4 W4 ⟨A, n, c, some ⟨bc, 0, none⟩, 1, ea⟩ P ta B1 m1 e1 v1 A3 c3 true (HD4.out.imp fun _ _ _ => trivial) (HT4.out.imp fun _ _ _ => trivial) (HV4.out.imp fun _ _ _ => trivial) HLAW.out.1
      rw [HKN.out.1, HKN.out.2] at h
      exact h)
    have MK := Lib.hid (show ∀ w', Below W4.heap.size W4 w' → (Below W4.heap.size W4 w' ∧ w'.cell? ⟨pb, 0, none⟩ = some (str [109]) ∧ w'.cell? ⟨pb, 1, none⟩ = some (.int .i64 1) ∧ w'.cell? ⟨pb, 2, none⟩ = some (.slice none 0 0) ∧ w'.cell? ⟨pb, 3, none⟩ = some (.slice A n c) ∧ w'.cell? ⟨pb, 4, none⟩ = some (.slice none 0 0) ∧ w'.cell? ⟨pb, 5, none⟩ = some (.slice none 0 0) ∧ w'.cell? ⟨pb, 6, none⟩ = some (.slice none 0 0) ∧ w'.cell? ⟨pb, 7, none⟩ = some (.slice (some ⟨bc, 0, none⟩) 1 ea) ∧ w'.cell? ⟨TB, 0, none⟩ = some (.int .i64 (ka : Nat)) ∧ w'.cell? ⟨TB, 1, none⟩ = some (str na) ∧ w'.cell? ⟨TB, 2, none⟩ = some (.slice B1 m1 e1) ∧ w'.cell? ⟨VB, 0, none⟩ = some (.int .i64 v1.kind) ∧ w'.cell? ⟨VB, 1, none⟩ = some (.int .i64 v1.num) ∧ w'.cell? ⟨VB, 2, none⟩ = some (.string v1.text) ∧ w'.cell? ⟨VB, 3, none⟩ = some (.slice A3 v1.args.length c3) ∧ w'.cell? ⟨ab, 0, none⟩ = some (.int .i64 x3)) from fun w' h => ⟨h, (h.cell (p := ⟨pb, 0, none⟩) (G.out.1).lt).trans ((G.out.1).cell 0), (h.cell (p := ⟨pb, 1, none⟩) (G.out.1).lt).trans ((G.out.1).cell 1), (h.cell (p := ⟨pb, 2, none⟩) (G.out.1).lt).trans ((G.out.1).cell 2), (h.cell (p := ⟨pb, 3, none⟩) (G.out.1).lt).trans ((G.out.1).cell 3), (h.cell (p := ⟨pb, 4, none⟩) (G.out.1).lt).trans ((G.out.1).cell 4), (h.cell (p := ⟨pb, 5, none⟩) (G.out.1).lt).trans ((G.out.1).cell 5), (h.cell (p := ⟨pb, 6, none⟩) (G.out.1).lt).trans ((G.out.1).cell 6), (h.cell (p := ⟨pb, 7, none⟩) (G.out.1).lt).trans ((G.out.1).cell 7), (h.cell (p := ⟨TB, 0, none⟩) (G.out.2.1).lt).trans ((G.out.2.1).cell 0), (h.cell (p := ⟨TB, 1, none⟩) (G.out.2.1).lt).trans ((G.out.2.1).cell 1), (h.cell (p := ⟨TB, 2, none⟩) (G.out.2.1).lt).trans ((G.out.2.1).cell 2), (h.cell (p := ⟨VB, 0, none⟩) (G.out.2.2.1).lt).trans ((G.out.2.2.1).cell 0), (h.cell (p := ⟨VB, 1, none⟩) (G.out.2.2.1).lt).trans ((G.out.2.2.1).cell 1), (h.cell (p := ⟨VB, 2, none⟩) (G.out.2.2.1).lt).trans ((G.out.2.2.1).cell 2), (h.cell (p := ⟨VB, 3, none⟩) (G.out.2.2.1).lt).trans ((G.out.2.2.1).cell 3), (h.cell (p := ⟨ab, 0, none⟩) (G.out.2.2.2.1).lt).trans ((G.out.2.2.2.1).cell 0)⟩)
    obtain ⟨hbk, kpb0, kpb1, kpb2, kpb3, kpb4, kpb5, kpb6, kpb7, kTB0, kTB1, kTB2, kVB0, kVB1, kVB2, kVB3, kab0⟩ := MK.out W4 (Below.refl _ _)
    have lab := G.out.2.2.2.1.lt
    go_upto_region 6 with (go_at_call 15; refine CF1.out.mono ?_; rintro e w5 ⟨rfl, hb5⟩; have HB5 := Lib.hid hb5; clear hbk kpb0 kpb1 kpb2 kpb3 kpb4 kpb5 kpb6 kpb7 kTB0 kTB1 kTB2 kVB0 kVB1 kVB2 kVB3 kab0 lab CF1; obtain ⟨hbs, spb0, spb1, spb2, spb3, spb4, spb5, spb6, spb7, sTB0, sTB1, sTB2, sVB0, sVB1, sVB2, sVB3, sab0⟩ := MK.out _ hb5; clear hb5)
    have G5 := Lib.hid (And.intro (G.out.1.same (Same.any HB5.out : Same Any _ _) trivial) (And.intro (G.out.2.1.same (Same.any HB5.out : Same Any _ _) trivial) (And.intro (G.out.2.2.1.same (Same.any HB5.out : Same Any _ _) trivial) (G.out.2.2.2.1.same (Same.any HB5.out : Same Any _ _) trivial))))
    have lab := G5.out.2.2.2.lt
    have fab := G5.out.2.2.2.frozen 0
    go_upto_region 9 with (go_at_call 12; refine (RA.out _).mono ?_; rintro e w' ⟨rfl, rfl⟩)
    clear hbs spb0 spb1 spb2 spb3 spb4 spb5 spb6 spb7 sTB0 sTB1 sTB2 sVB0 sVB1 sVB2 sVB3 sab0 lab fab
    obtain ⟨sb, hsb⟩ : ∃ b, b = w5.heap.size := ⟨_, rfl⟩
    obtain ⟨W7, hW7⟩ : ∃ W7, W7 = (w5.setCell ⟨ab, 0, none⟩ (.int .i64 (k : Nat))).alloc (.cells #[SpVal ab w5.heap.size] 50) := ⟨_, rfl⟩
    have hW7' := hW7
    simp only [SpVal] at hW7'
    rw [← hW7', ← hsb]
    have fs7 : Blk W7 sb 50 [SpVal ab sb] := by
      have h := Blk.new (w5.setCell ⟨ab, 0, none⟩ (.int .i64 (k : Nat))) 50 [SpVal ab w5.heap.size]
      rw [show (w5.setCell ⟨ab, 0, none⟩ (.int .i64 (k : Nat))).heap.size = w5.heap.size by simp] at h
      rw [hW7, hsb]
      exact h
    have fa7 : Blk W7 ab 3 [.int .i64 (k : Nat)] := by rw [hW7]; exact (G5.out.2.2.2.put 0 _).alloc _
    have g47 : GrownIn (fun b => b = ab) W4 W7 := by rw [hW7]; exact ((GrownIn.of_below (own := fun b => b = ab) HB5.out).set (p := ⟨ab, 0, none⟩) (show ab = ab from rfl) _).alloc _
    have s47 : Same (fun b => b ≠ ab) W4 W7 := Same.of_in g47 fun b hb _ => hb
    have fv7 : Blk W7 VB 47 (vl v1 A3 c3) := G.out.2.2.1.same s47 (by have := G.out.2.2.2.2.1; show VB ≠ ab; omega)
    have CS := Lib.hid (spoil_any 10 ab sb v1 (k : Nat) W7 A3 c3 (HV4.out.keep s47) (by omega) (by omega) fa7 fs7)
    have H7 := Lib.hid (And.intro g47 (And.intro fs7 (And.intro fa7 fv7)))
    have z0 := fs7.cell 0
    have y0 := fv7.cell 0
    have y1 := fv7.cell 1
    have y2 := fv7.cell 2
    have y3 := fv7.cell 3
    have lz := fs7.lt
    have ly := fv7.lt
    simp only [SpVal, vl, List.getElem?_cons_zero, List.getElem?_cons_succ] at z0 y0 y1 y2 y3
    clear hW7 hW7' hsb fs7 fa7 g47 s47 fv7 RA
    go_upto_region 10 with (go_at_call 16; refine CS.out.mono ?_; unfold SpPost; rintro e w8 ⟨⟨A5, c5, rfl, hv5⟩, hca, hg8⟩; have H8 := Lib.hid (And.intro hv5 hg8); clear hv5 hca hg8)
    clear z0 y0 y1 y2 y3 lz ly CS
    have hspk : Hid (fitsF P 10 .nil ta (spoilF 10 v1 (k : Int)).1 = some bo ∧ (bo = true ↔ v1 = (spoilF 10 v1 (k : Int)).1)) := HLAW.out.2
    generalize (spoilF 10 v1 (k : Int)).1 = v2 at H8 hspk ⊢
    obtain ⟨W9, hW9⟩ : ∃ W9, W9 = w8.alloc (.cells #[.int .i64 v2.kind, .int .i64 v2.num, .string v2.text, .slice A5 v2.args.length c5] 47) := ⟨_, rfl⟩
    obtain ⟨WB, hWB⟩ : ∃ WB, WB = w8.heap.size := ⟨_, rfl⟩
    have fw9 : Blk W9 WB 47 (vl v2 A5 c5) := by rw [hW9, hWB]; exact Blk.new _ _ _
    have g49 : GrownIn (fun b => b = ab) W4 W9 := by rw [hW9]; exact (H7.out.1.trans (GrownIn.of_grown (own := fun b => b = ab) H8.out.2 fun i hi => by injection hi with hi; exact hi.symm) fun b hb => .inl hb).alloc _
    have s49 : Same (fun b => b ≠ ab) W4 W9 := Same.of_in g49 fun b hb _ => hb
    have hne := G.out.2.2.2.2
    have G9 := Lib.hid (And.intro (G.out.1.same s49 (by show pb ≠ ab; omega)) (And.intro (G.out.2.1.same s49 (by show TB ≠ ab; omega)) (And.intro (G.out.2.2.1.same s49 (by show VB ≠ ab; omega)) fw9)))
    have HV9 := Lib.hid (HV4.out.keep s49)
    have HW9 := Lib.hid (show VCells 10 W9 Any (vl v2 A5 c5) v2 by rw [hW9]; exact (H8.out.1.keep (Same.alloc _ _ _)).imp fun _ _ _ => trivial)
    have HD9 := Lib.hid ((HD4.out.keep (fun b hb hl => s49 b hb.2 hl)).imp fun _ _ _ => (trivial : Any _))
    have HT9 := Lib.hid ((HT4.out.keep (fun b hb hl => s49 b hb.2 hl)).imp fun _ _ _ => (trivial : Any _))
    have HB9 := Lib.hid (Below.of_in (B := w.heap.size) HB4.out g49 (fun b hb => by omega) HB4.out.size)
    rw [← hW9, ← hWB]
    clear hW9 hWB fw9 g49 s49 hne
    have HR := Lib.hid (show Go.Val.sameF 10 v1 v2 = bo by
      have h1 := Go.Val.sameF_iff 10 v1 v2 (HV9.out.ok) (HW9.out.ok)
      rw [Bool.eq_iff_iff, h1, hspk.out.2])
    have CF := Lib.hid (show ∀ W', Below W9.heap.size W9 W' → Calls Try.prog 15 #[.agg #[str [109], .int .i64 1, .slice none 0 0, .slice A n c, .slice none 0 0, .slice none 0 0, .slice none 0 0, .slice (some ⟨bc, 0, none⟩) 1 ea], .agg #[.int .i64 (ka : Nat), str na, .slice B1 m1 e1], .agg #[.int .i64 v2.kind, .int .i64 v2.num, .string v2.text, .slice A5 v2.args.length c5]] W' fun e w' => e = .returned (.bool bo) ∧ Below W'.heap.size W' w' from fun W' hW => by
      have h := Fits_any 10 4 W' ⟨A, n, c, some ⟨bc, 0, none⟩, 1, ea⟩ P ta B1 m1 e1 v2 A5 c5 bo (HD9.out.keep (Same.any hW)) (HT9.out.keep (Same.any hW)) (HW9.out.keep (Same.any hW)) hspk.out.1
      rw [HKN.out.1, HKN.out.2] at h
      exact h)
    have CM := Lib.hid (show ∀ W', Below W9.heap.size W9 W' → Calls Try.prog 17 #[.agg #[.int .i64 v1.kind, .int .i64 v1.num, .string v1.text, .slice A3 v1.args.length c3], .agg #[.int .i64 v2.kind, .int .i64 v2.num, .string v2.text, .slice A5 v2.args.length c5]] W' fun e w' => e = .returned (.bool bo) ∧ Below W'.heap.size W' w' from fun W' hW => by
      have h := samev_any 10 v1 v2 [.int .i64 v1.kind, .int .i64 v1.num, .string v1.text, .slice A3 v1.args.length c3] [.int .i64 v2.kind, .int .i64 v2.num, .string v2.text, .slice A5 v2.args.length c5] W' ((HV9.out.keep (Same.any hW)).imp fun _ _ _ => trivial) (HW9.out.keep (Same.any hW))
      rw [HR.out] at h
      exact h)
    have MK9 := Lib.hid (show ∀ w', Below W9.heap.size W9 w' → (Below W9.heap.size W9 w' ∧ w'.cell? ⟨pb, 0, none⟩ = some (str [109]) ∧ w'.cell? ⟨pb, 1, none⟩ = some (.int .i64 1) ∧ w'.cell? ⟨pb, 2, none⟩ = some (.slice none 0 0) ∧ w'.cell? ⟨pb, 3, none⟩ = some (.slice A n c) ∧ w'.cell? ⟨pb, 4, none⟩ = some (.slice none 0 0) ∧ w'.cell? ⟨pb, 5, none⟩ = some (.slice none 0 0) ∧ w'.cell? ⟨pb, 6, none⟩ = some (.slice none 0 0) ∧ w'.cell? ⟨pb, 7, none⟩ = some (.slice (some ⟨bc, 0, none⟩) 1 ea) ∧ w'.cell? ⟨TB, 0, none⟩ = some (.int .i64 (ka : Nat)) ∧ w'.cell? ⟨TB, 1, none⟩ = some (str na) ∧ w'.cell? ⟨TB, 2, none⟩ = some (.slice B1 m1 e1) ∧ w'.cell? ⟨VB, 0, none⟩ = some (.int .i64 v1.kind) ∧ w'.cell? ⟨VB, 1, none⟩ = some (.int .i64 v1.num) ∧ w'.cell? ⟨VB, 2, none⟩ = some (.string v1.text) ∧ w'.cell? ⟨VB, 3, none⟩ = some (.slice A3 v1.args.length c3) ∧ w'.cell? ⟨WB, 0, none⟩ = some (.int .i64 v2.kind) ∧ w'.cell? ⟨WB, 1, none⟩ = some (.int .i64 v2.num) ∧ w'.cell? ⟨WB, 2, none⟩ = some (.string v2.text) ∧ w'.cell? ⟨WB, 3, none⟩ = some (.slice A5 v2.args.length c5)) from fun w' h => ⟨h, (h.cell (p := ⟨pb, 0, none⟩) (G9.out.1).lt).trans ((G9.out.1).cell 0), (h.cell (p := ⟨pb, 1, none⟩) (G9.out.1).lt).trans ((G9.out.1).cell 1), (h.cell (p := ⟨pb, 2, none⟩) (G9.out.1).lt).trans ((G9.out.1).cell 2), (h.cell (p := ⟨pb, 3, none⟩) (G9.out.1).lt).trans ((G9.out.1).cell 3), (h.cell (p := ⟨pb, 4, none⟩) (G9.out.1).lt).trans ((G9.out.1).cell 4), (h.cell (p := ⟨pb, 5, none⟩) (G9.out.1).lt).trans ((G9.out.1).cell 5), (h.cell (p := ⟨pb, 6, none⟩) (G9.out.1).lt).trans ((G9.out.1).cell 6), (h.cell (p := ⟨pb, 7, none⟩) (G9.out.1).lt).trans ((G9.out.1).cell 7), (h.cell (p := ⟨TB, 0, none⟩) (G9.out.2.1).lt).trans ((G9.out.2.1).cell 0), (h.cell (p := ⟨TB, 1, none⟩) (G9.out.2.1).lt).trans ((G9.out.2.1).cell 1), (h.cell (p := ⟨TB, 2, none⟩) (G9.out.2.1).lt).trans ((G9.out.2.1).cell 2), (h.cell (p := ⟨VB, 0, none⟩) (G9.out.2.2.1).lt).trans ((G9.out.2.2.1).cell 0), (h.cell (p := ⟨VB, 1, none⟩) (G9.out.2.2.1).lt).trans ((G9.out.2.2.1).cell 1), (h.cell (p := ⟨VB, 2, none⟩) (G9.out.2.2.1).lt).trans ((G9.out.2.2.1).cell 2), (h.cell (p := ⟨VB, 3, none⟩) (G9.out.2.2.1).lt).trans ((G9.out.2.2.1).cell 3), (h.cell (p := ⟨WB, 0, none⟩) (G9.out.2.2.2).lt).trans ((G9.out.2.2.2).cell 0), (h.cell (p := ⟨WB, 1, none⟩) (G9.out.2.2.2).lt).trans ((G9.out.2.2.2).cell 1), (h.cell (p := ⟨WB, 2, none⟩) (G9.out.2.2.2).lt).trans ((G9.out.2.2.2).cell 2), (h.cell (p := ⟨WB, 3, none⟩) (G9.out.2.2.2).lt).trans ((G9.out.2.2.2).cell 3)⟩)
    obtain ⟨hbq, qpb0, qpb1, qpb2, qpb3, qpb4, qpb5, qpb6, qpb7, qTB0, qTB1, qTB2, qVB0, qVB1, qVB2, qVB3, qWB0, qWB1, qWB2, qWB3⟩ := MK9.out W9 (Below.refl _ _)
    have hbd : Below W9.heap.size W9 W9.drew := ⟨rfl, rfl, rfl, Nat.le_refl _, fun _ _ => rfl⟩
    go_region_held3 (fun w' => Below W9.heap.size W9 w' ∧ w'.cell? ⟨pb, 0, none⟩ = some (str [109]) ∧ w'.cell? ⟨pb, 1, none⟩ = some (.int .i64 1) ∧ w'.cell? ⟨pb, 2, none⟩ = some (.slice none 0 0) ∧ w'.cell? ⟨pb, 3, none⟩ = some (.slice A n c) ∧ w'.cell? ⟨pb, 4, none⟩ = some (.slice none 0 0) ∧ w'.cell? ⟨pb, 5, none⟩ = some (.slice none 0 0) ∧ w'.cell? ⟨pb, 6, none⟩ = some (.slice none 0 0) ∧ w'.cell? ⟨pb, 7, none⟩ = some (.slice (some ⟨bc, 0, none⟩) 1 ea) ∧ w'.cell? ⟨TB, 0, none⟩ = some (.int .i64 (ka : Nat)) ∧ w'.cell? ⟨TB, 1, none⟩ = some (str na) ∧ w'.cell? ⟨TB, 2, none⟩ = some (.slice B1 m1 e1) ∧ w'.cell? ⟨VB, 0, none⟩ = some (.int .i64 v1.kind) ∧ w'.cell? ⟨VB, 1, none⟩ = some (.int .i64 v1.num) ∧ w'.cell? ⟨VB, 2, none⟩ = some (.string v1.text) ∧ w'.cell? ⟨VB, 3, none⟩ = some (.slice A3 v1.args.length c3) ∧ w'.cell? ⟨WB, 0, none⟩ = some (.int .i64 v2.kind) ∧ w'.cell? ⟨WB, 1, none⟩ = some (.int .i64 v2.num) ∧ w'.cell? ⟨WB, 2, none⟩ = some (.string v2.text) ∧ w'.cell? ⟨WB, 3, none⟩ = some (.slice A5 v2.args.length c5)) (first | exact MK9.out _ hbd | exact MK9.out _ hbn | (refine MK9.out _ ?_; assumption) | go_keep)
      (first | (go_at_call 15; (with_reducible refine (CF.out _ (by assumption)).mono ?_); rintro e w' ⟨rfl, hbx⟩; have hbn : Below W9.heap.size W9 w' := below_nextD hbx (by assumption); clear hbx) | (go_at_call 17; (with_reducible refine (CM.out _ (by assumption)).mono ?_); rintro e w' ⟨rfl, hbx⟩; have hbn : Below W9.heap.size W9 w' := below_nextD hbx (by assumption); clear hbx))
    all_goals
      go_wp2_with (fail)
      go_ret
      exact ⟨by simp, below_nextD (by assumption) HB9.out⟩
end Go.Proofs.Ytoddjdajjmcliaa
