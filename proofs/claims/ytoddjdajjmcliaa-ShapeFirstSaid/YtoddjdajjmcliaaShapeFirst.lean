/- ShapeFirst's walk. -/
import Derived.Test.YtoddjdajjmcliaaShIn
import Derived.Test.YtoddjdajjmcliaaShVfA
import Derived.Test.YtoddjdajjmcliaaShFirstC
import Derived.Test.YtoddjdajjmcliaaShFirLaw
import Derived.Deep.DeepCutAuto
import Derived.Deep.CutBlock
set_option linter.unusedVariables false
namespace Go.Proofs.Ytoddjdajjmcliaa
open Go.RowKit Go.Mem Go.Sh Go.Maps Go.Val
theorem below_next {a b c : World} (hx : Below b.heap.size b c) (h : Below a.heap.size a b) : Below a.heap.size a c := h.trans (hx.mono h.size)
-- BEGIN
set_option maxRecDepth 100000 in
set_option maxHeartbeats 8000000 in
theorem shapeFirst_any (w : World) (x0 x1 : Int) (h0 : I64 x0) (h1 : I64 x1) (L : Option Addr) (ln cl : Nat) (l : List Int) (hl : NsAt w L ln cl l) :
    Calls Try.prog 6 #[.int .i64 x0, .int .i64 x1, .slice L ln cl] w fun e w' => e = .returned (.bool true) ∧ Below w.heap.size w w' := by
  have P0 := Lib.hid (programOf_any x0 w h0)
  have HI := Lib.hid (And.intro h1 hl)
  clear h0 h1 hl
  go_enter Try.func6, Try.ntmps6
  go_wp2_with (fail)
  refine P0.out.mono ?_
  unfold PgPost
  rintro e w1 ⟨hb1, p, y, bad, q, bits, rfl, hy, hq, hbits, hp⟩
  obtain ⟨A, n, c, bc, ea, P, An, cn, At, ct, m, T, rfl, hpi⟩ := hp.in_ hy hbits
  clear hp hy hq hbits P0
  unfold Pg.cells pvs
  go_upto_region 2 with (fail)
  obtain ⟨W, hW⟩ : ∃ W, W = w1.alloc (.cells #[str [109], .int .i64 1, .slice none 0 0, .slice A n c, .slice none 0 0, .slice none 0 0, .slice none 0 0, .slice (some ⟨bc, 0, none⟩) 1 ea] 29) := ⟨_, rfl⟩
  obtain ⟨pb, hpb⟩ : ∃ b, b = w1.heap.size := ⟨_, rfl⟩
  have fp : Blk W pb 29 (pvs A n c (some ⟨bc, 0, none⟩) 1 ea) := by rw [hW, hpb]; exact Blk.new w1 29 (pvs A n c (some ⟨bc, 0, none⟩) 1 ea)
  have hb2 : Below w1.heap.size w1 W := by rw [hW]; exact (Below.refl _ _).alloc (Nat.le_refl _) _
  rw [← hW, ← hpb]
  have HP := Lib.hid (hpi.below hb2)
  have HB := Lib.hid (hb1.trans (hb2.mono hb1.size))
  have FP := Lib.hid fp
  have hm := And.intro HP.out.pos.1 HP.out.pos.2.1
  have c7 := fp.cell 7
  have ap := HP.out.act.cell 2
  simp only [pvs, acell, List.getElem?_cons_zero, List.getElem?_cons_succ] at c7 ap
  have lp := fp.lt
  have la := HP.out.act.lt
  clear hW hpb hpi hb1 hb2 fp
  have R2 := Lib.hid (fun W => rest_q x1 (m : Int) W ((rsN x1 (m : Int) : Nat) : Int) HI.out.1 (by omega) (by omega) (rsN_eq _ _ (by omega)))
  have b2 := rsN_lt x1 (m : Int) (by omega)
  generalize rsN x1 (m : Int) = i at R2 b2
  have hi : i < T.length := by have := HP.out.pos.2.2; omega
  obtain ⟨b1, o1, B1, m1, e1, rfl, _, p0, p1, p2, ht⟩ := HP.out.ts.cells (show i < m by omega) hi
  have HT := Lib.hid (And.intro ht (HP.out.sub _ (List.getElem_mem hi)))
  have i0 : (0 : Int) ≤ (i : Int) := by omega
  have i1 : (i : Int) < (m : Int) := by omega
  have l1 := lt_of_cell p0
  clear ht
  generalize T[i] = ta at p0 p1 p2 HT
  clear hi
  generalize hka : ta.kind = ka at p0
  generalize hna : ta.name = na at p1
  have HKN := Lib.hid (And.intro hka hna)
  clear hka hna
  go_cut [8] (fun s8 wc => ∃ TB, s8 = .pointer (some ⟨TB, 0, none⟩) ∧ Hid (Blk wc TB 34 [.int .i64 (ka : Nat), str na, .slice B1 m1 e1] ∧ Below W.heap.size W wc ∧ W.heap.size ≤ TB))
  case first =>
    go_region_held3 (fun w' => w'.cell? ⟨pb, 7, none⟩ = some (.slice (some ⟨bc, 0, none⟩) 1 ea) ∧ w'.cell? ⟨bc, 2, none⟩ = some (.slice (some ⟨b1, o1, none⟩) m ct) ∧ w'.cell? ⟨b1, o1 + i * 3, none⟩ = some (.int .i64 (ka : Nat)) ∧ w'.cell? ⟨b1, o1 + i * 3 + 1, none⟩ = some (str na) ∧ w'.cell? ⟨b1, o1 + i * 3 + 2, none⟩ = some (.slice B1 m1 e1)) (first | go_keep)
      (first | (go_at_call 12; refine (R2.out _).mono ?_; rintro e w' ⟨rfl, rfl⟩))
    all_goals
      go_wp2_with (fail)
      go_meet
      exact ⟨W.heap.size, rfl, (Blk.new W 34 [.int .i64 (ka : Nat), str na, .slice B1 m1 e1]).drew, ((Below.refl _ _).alloc (Nat.le_refl _) _).drew, Nat.le_refl _⟩
  case rest =>
    obtain ⟨TB, rfl, HC⟩ := hcut
    have HPc := Lib.hid (HP.out.below HC.out.2.1)
    have HBc := Lib.hid (HB.out.trans (HC.out.2.1.mono HB.out.size))
    have hTc : TyAt 4 wc Any ka na B1 m1 e1 ta := by
      have h := HT.out.1.keep (Same.any HC.out.2.1)
      rwa [HKN.out.1, HKN.out.2] at h
    have fpc := FP.out.same (Same.any HC.out.2.1 : Same Any _ _) trivial
    obtain ⟨v0, hv0, hf0⟩ := first_fits HPc.out.mem HT.out.2
    have CF := Lib.hid (First_any 4 wc ⟨A, n, c, some ⟨bc, 0, none⟩, 1, ea⟩ P ta B1 m1 e1 (some v0) HPc.out.dts (by rw [HKN.out.1, HKN.out.2]; exact hTc) hv0)
    rw [HKN.out.1, HKN.out.2] at CF
    have HLc := Lib.hid ((HI.out.2.keep (Same.any HB.out)).keep (Same.any HC.out.2.1))
    have HX := Lib.hid (And.intro hTc (And.intro fpc (And.intro HC.out.1 hf0)))
    simp only [Pg.cells, pvs] at CF
    clear c7 ap lp la R2 b2 i0 i1 l1 p0 p1 p2 hm
    have g0 := HX.out.2.1.cell 0
    have g1 := HX.out.2.1.cell 1
    have g2 := HX.out.2.1.cell 2
    have g3 := HX.out.2.1.cell 3
    have g4 := HX.out.2.1.cell 4
    have g5 := HX.out.2.1.cell 5
    have g6 := HX.out.2.1.cell 6
    have g7 := HX.out.2.1.cell 7
    have k0 := HX.out.2.2.1.cell 0
    have k1 := HX.out.2.2.1.cell 1
    have k2 := HX.out.2.2.1.cell 2
    have lp := HX.out.2.1.lt
    have lT := HX.out.2.2.1.lt
    simp only [pvs, List.getElem?_cons_zero, List.getElem?_cons_succ] at g0 g1 g2 g3 g4 g5 g6 g7 k0 k1 k2
    clear hTc fpc hv0 hf0
    go_upto_region 4 with (go_at_call 18; refine CF.out.mono ?_; unfold FirstEPost; rintro e w3 ⟨hb3, A3, c3, rfl, hv3⟩; have H3 := Lib.hid (And.intro hb3 hv3); clear hb3 hv3)
    clear g0 g1 g2 g3 g4 g5 g6 g7 k0 k1 k2 lp lT
    obtain ⟨W4, hW4⟩ : ∃ W4, W4 = w3.alloc (.cells #[.int .i64 v0.kind, .int .i64 v0.num, .string v0.text, .slice A3 v0.args.length c3] 47) := ⟨_, rfl⟩
    obtain ⟨VB, hVB⟩ : ∃ VB, VB = w3.heap.size := ⟨_, rfl⟩
    rw [← hW4, ← hVB]
    have fv : Blk W4 VB 47 (vl v0 A3 c3) := by rw [hW4, hVB]; exact Blk.new _ _ _
    have h34 : Below w3.heap.size w3 W4 := by rw [hW4]; exact (Below.refl _ _).alloc (Nat.le_refl _) _
    have hb4 : Below wc.heap.size wc W4 := H3.out.1.trans (h34.mono H3.out.1.size)
    have k4 : Same Any wc W4 := Same.any hb4
    have G := Lib.hid (And.intro (HX.out.2.1.same k4 trivial) (And.intro (HX.out.2.2.1.same k4 trivial) fv))
    have HP4 := Lib.hid (HPc.out.below hb4)
    have HT4 := Lib.hid (HX.out.1.keep k4)
    have HL4 := Lib.hid (HLc.out.keep k4)
    have HV4 := Lib.hid ((H3.out.2.keep (Same.of_below h34 fun b _ hl => hl)).imp (fun _ _ _ => trivial) : VCells 4 W4 Any (vl v0 A3 c3) v0)
    have HB4 := Lib.hid (HBc.out.trans (hb4.mono HBc.out.size))
    clear hW4 hVB fv h34 hb4 k4
    obtain ⟨y, bad, hy, hPe⟩ := progs_pd HP4.out.mem
    obtain ⟨v1, hv1, hf1⟩ := val_fits hy bad l HT.out.2
    have hta : TyAt 4 W4 Any ta.kind ta.name B1 m1 e1 ta := by rw [HKN.out.1, HKN.out.2]; exact HT4.out
    have CF1 := Lib.hid (show ∀ W', Below W4.heap.size W4 W' → Calls Try.prog 15 #[.agg #[str [109], .int .i64 1, .slice none 0 0, .slice A n c, .slice none 0 0, .slice none 0 0, .slice none 0 0, .slice (some ⟨bc, 0, none⟩) 1 ea], .agg #[.int .i64 (ka : Nat), str na, .slice B1 m1 e1], .agg #[.int .i64 v0.kind, .int .i64 v0.num, .string v0.text, .slice A3 v0.args.length c3]] W' fun e w' => e = .returned (.bool true) ∧ Below W'.heap.size W' w' from fun W' hW => by
      have h := Fits_any 12 4 W' ⟨A, n, c, some ⟨bc, 0, none⟩, 1, ea⟩ P ta B1 m1 e1 v0 A3 c3 true (HP4.out.dts.keep (Same.any hW)) (hta.keep (Same.any hW)) ((HV4.out.keep (Same.any hW)).le (by omega)) HX.out.2.2.2
      rw [HKN.out.1, HKN.out.2] at h
      exact h)
    have CV := Lib.hid (show ∀ W', Below W4.heap.size W4 W' → Calls Try.prog 14 #[.agg #[str [109], .int .i64 1, .slice none 0 0, .slice A n c, .slice none 0 0, .slice none 0 0, .slice none 0 0, .slice (some ⟨bc, 0, none⟩) 1 ea], .agg #[.int .i64 (ka : Nat), str na, .slice B1 m1 e1], .slice L ln cl, .int .i64 0] W' (ValPost 10 W' v1) from fun W' hW => by
      have h := val_all 10 4 W' ⟨A, n, c, some ⟨bc, 0, none⟩, 1, ea⟩ P ta B1 m1 e1 L ln cl l 0 v1 (HP4.out.dts.keep (Same.any hW)) (hta.keep (Same.any hW)) (HL4.out.keep (Same.any hW)) (by omega) (by rw [hPe]; exact hv1)
      rw [HKN.out.1, HKN.out.2] at h
      exact h)
    have CF2 := Lib.hid (show ∀ W' A9 c9, Below W4.heap.size W4 W' → VCells 10 W' Any (vl v1 A9 c9) v1 → Calls Try.prog 15 #[.agg #[str [109], .int .i64 1, .slice none 0 0, .slice A n c, .slice none 0 0, .slice none 0 0, .slice none 0 0, .slice (some ⟨bc, 0, none⟩) 1 ea], .agg #[.int .i64 (ka : Nat), str na, .slice B1 m1 e1], .agg #[.int .i64 v1.kind, .int .i64 v1.num, .string v1.text, .slice A9 v1.args.length c9]] W' fun e w' => e = .returned (.bool true) ∧ Below W'.heap.size W' w' from fun W' A9 c9 hW hv => by
      have h := Fits_any 10 4 W' ⟨A, n, c, some ⟨bc, 0, none⟩, 1, ea⟩ P ta B1 m1 e1 v1 A9 c9 true (HP4.out.dts.keep (Same.any hW)) (hta.keep (Same.any hW)) hv (by rw [hPe]; exact hf1)
      rw [HKN.out.1, HKN.out.2] at h
      exact h)
    have CF3 := Lib.hid (show ∀ W', Below W4.heap.size W4 W' → Calls Try.prog 15 #[.agg #[str [109], .int .i64 1, .slice none 0 0, .slice A n c, .slice none 0 0, .slice none 0 0, .slice none 0 0, .slice (some ⟨bc, 0, none⟩) 1 ea], .agg #[.int .i64 (ka : Nat), str na, .slice B1 m1 e1], .agg #[.int .i64 6, .int .i64 5, .string ⟨#[]⟩, .slice none 0 0]] W' fun e w' => e = .returned (.bool false) ∧ Below W'.heap.size W' w' from fun W' hW => by
      have h := Fits_any 12 4 W' ⟨A, n, c, some ⟨bc, 0, none⟩, 1, ea⟩ P ta B1 m1 e1 (.mk 6 5 ⟨#[]⟩ []) none 0 false (HP4.out.dts.keep (Same.any hW)) (hta.keep (Same.any hW)) (vcells_of (d := 11) (k := 6) (n := 5) VsAt.nil ⟨by omega, by omega⟩ ⟨by omega, by omega⟩ (by show (0 : Nat) ≤ _; omega)) (ref_not HP4.out.mem HT.out.2)
      rw [HKN.out.1, HKN.out.2] at h
      exact h)
    have mk : ∀ w', Below W4.heap.size W4 w' → (Below W4.heap.size W4 w' ∧ w'.cell? ⟨pb, 0, none⟩ = some (str [109]) ∧ w'.cell? ⟨pb, 1, none⟩ = some (.int .i64 1) ∧ w'.cell? ⟨pb, 2, none⟩ = some (.slice none 0 0) ∧ w'.cell? ⟨pb, 3, none⟩ = some (.slice A n c) ∧ w'.cell? ⟨pb, 4, none⟩ = some (.slice none 0 0) ∧ w'.cell? ⟨pb, 5, none⟩ = some (.slice none 0 0) ∧ w'.cell? ⟨pb, 6, none⟩ = some (.slice none 0 0) ∧ w'.cell? ⟨pb, 7, none⟩ = some (.slice (some ⟨bc, 0, none⟩) 1 ea) ∧ w'.cell? ⟨TB, 0, none⟩ = some (.int .i64 (ka : Nat)) ∧ w'.cell? ⟨TB, 1, none⟩ = some (str na) ∧ w'.cell? ⟨TB, 2, none⟩ = some (.slice B1 m1 e1) ∧ w'.cell? ⟨VB, 0, none⟩ = some (.int .i64 v0.kind) ∧ w'.cell? ⟨VB, 1, none⟩ = some (.int .i64 v0.num) ∧ w'.cell? ⟨VB, 2, none⟩ = some (.string v0.text) ∧ w'.cell? ⟨VB, 3, none⟩ = some (.slice A3 v0.args.length c3)) := fun w' h => ⟨h, (h.cell (p := ⟨pb, 0, none⟩) G.out.1.lt).trans (G.out.1.cell 0), (h.cell (p := ⟨pb, 1, none⟩) G.out.1.lt).trans (G.out.1.cell 1), (h.cell (p := ⟨pb, 2, none⟩) G.out.1.lt).trans (G.out.1.cell 2), (h.cell (p := ⟨pb, 3, none⟩) G.out.1.lt).trans (G.out.1.cell 3), (h.cell (p := ⟨pb, 4, none⟩) G.out.1.lt).trans (G.out.1.cell 4), (h.cell (p := ⟨pb, 5, none⟩) G.out.1.lt).trans (G.out.1.cell 5), (h.cell (p := ⟨pb, 6, none⟩) G.out.1.lt).trans (G.out.1.cell 6), (h.cell (p := ⟨pb, 7, none⟩) G.out.1.lt).trans (G.out.1.cell 7), (h.cell (p := ⟨TB, 0, none⟩) G.out.2.1.lt).trans (G.out.2.1.cell 0), (h.cell (p := ⟨TB, 1, none⟩) G.out.2.1.lt).trans (G.out.2.1.cell 1), (h.cell (p := ⟨TB, 2, none⟩) G.out.2.1.lt).trans (G.out.2.1.cell 2), (h.cell (p := ⟨VB, 0, none⟩) G.out.2.2.lt).trans (G.out.2.2.cell 0), (h.cell (p := ⟨VB, 1, none⟩) G.out.2.2.lt).trans (G.out.2.2.cell 1), (h.cell (p := ⟨VB, 2, none⟩) G.out.2.2.lt).trans (G.out.2.2.cell 2), (h.cell (p := ⟨VB, 3, none⟩) G.out.2.2.lt).trans (G.out.2.2.cell 3)⟩
    have MK := Lib.hid mk
    clear mk hy hPe hv1 hf1 hta
    obtain ⟨hbe0, z0, z1, z2, z3, z4, z5, z6, z7, t0, t1, t2, e0, e1', e2, e3⟩ := MK.out W4 (Below.refl _ _)
    have hbd : Below W4.heap.size W4 W4.drew := ⟨rfl, rfl, rfl, Nat.le_refl _, fun _ _ => rfl⟩
    go_region_held3 (fun w' => Below W4.heap.size W4 w' ∧ w'.cell? ⟨pb, 0, none⟩ = some (str [109]) ∧ w'.cell? ⟨pb, 1, none⟩ = some (.int .i64 1) ∧ w'.cell? ⟨pb, 2, none⟩ = some (.slice none 0 0) ∧ w'.cell? ⟨pb, 3, none⟩ = some (.slice A n c) ∧ w'.cell? ⟨pb, 4, none⟩ = some (.slice none 0 0) ∧ w'.cell? ⟨pb, 5, none⟩ = some (.slice none 0 0) ∧ w'.cell? ⟨pb, 6, none⟩ = some (.slice none 0 0) ∧ w'.cell? ⟨pb, 7, none⟩ = some (.slice (some ⟨bc, 0, none⟩) 1 ea) ∧ w'.cell? ⟨TB, 0, none⟩ = some (.int .i64 (ka : Nat)) ∧ w'.cell? ⟨TB, 1, none⟩ = some (str na) ∧ w'.cell? ⟨TB, 2, none⟩ = some (.slice B1 m1 e1) ∧ w'.cell? ⟨VB, 0, none⟩ = some (.int .i64 v0.kind) ∧ w'.cell? ⟨VB, 1, none⟩ = some (.int .i64 v0.num) ∧ w'.cell? ⟨VB, 2, none⟩ = some (.string v0.text) ∧ w'.cell? ⟨VB, 3, none⟩ = some (.slice A3 v0.args.length c3)) (first | exact MK.out _ hbd | exact MK.out _ hbn' | exact MK.out _ hbn | (refine MK.out _ ?_; assumption) | go_keep)
      (first
        | (go_at_call 15; (with_reducible refine (CF1.out _ (by assumption)).mono ?_); rintro e w' ⟨rfl, hbx⟩; have hbn : Below W4.heap.size W4 w' := below_next hbx (by assumption); clear hbx)
        | (go_at_call 14; (with_reducible refine (CV.out _ (by assumption)).mono ?_); unfold ValPost; rintro e w' ⟨hbx, A9, c9, rfl, hv9⟩; have hbn : Below W4.heap.size W4 w' := below_next hbx (by assumption); clear hbx; have CF4 := Lib.hid (CF2.out w' A9 c9 hbn (hv9.imp (fun _ _ _ => trivial))); clear hv9)
        | (go_at_call 15; (with_reducible refine CF4.out.mono ?_); rintro e w' ⟨rfl, hbx⟩; have hbn' : Below W4.heap.size W4 w' := below_next hbx (by assumption); clear hbx)
        | (go_at_call 15; (with_reducible refine (CF3.out _ (by assumption)).mono ?_); rintro e w' ⟨rfl, hbx⟩; have hbn : Below W4.heap.size W4 w' := below_next hbx (by assumption); clear hbx))
    all_goals
      go_wp2_with (fail)
      go_ret
      exact ⟨rfl, below_next (by assumption) HB4.out⟩
end Go.Proofs.Ytoddjdajjmcliaa
