/- RenewStill's walk. · RenewStill returns true for every input, and leaves its arguments as they were. No condition. -/
import Derived.Test.YtoddjdajjmcliaaPart54
import Derived.Test.YtoddjdajjmcliaaRnSaved
import Derived.Test.YtoddjdajjmcliaaRows
import Derived.Test.YtoddjdajjmcliaaLaw
import Derived.Test.YtoddjdajjmcliaaLawNumS
import Derived.Deep.CutBlock
set_option linter.unusedVariables false
namespace Go.Proofs.Ytoddjdajjmcliaa
open Go.RowKit Go.Mem Go.Sh Go.Maps Go.Val
theorem below_allocR2 {c : Nat} {a b : World} (h : Below c a b) (o : Obj) (hc : c ≤ b.heap.size) : Below c a (b.alloc o) := h.alloc hc o
set_option maxRecDepth 100000 in
set_option maxHeartbeats 8000000 in
theorem renewStill_any (w : World) (x0 : Int) (h0 : I64 x0) (Lp : Option Addr) (ln cl : Nat) (l : List Int) (hl : NsAt w Lp ln cl l) (late : Bool) :
    Calls Try.prog 8 #[.int .i64 x0, .slice Lp ln cl, .bool late] w fun e w' => e = .returned (.bool true) ∧ Below w.heap.size w w' := by
  have P0 := Lib.hid (programOf_any x0 w h0)
  have HI := Lib.hid hl
  clear h0 hl
  go_enter Try.func8, Try.ntmps8
  go_wp2_with (fail)
  refine P0.out.mono ?_
  unfold PgPost
  rintro e w1 ⟨hb1, p, y, bad, q, bits, rfl, hy, hq, hbits, hp⟩
  obtain ⟨A, n, c, bc, e, ad, cn, At, ct, m, rfl, hpx⟩ := hp.x hy hq hbits
  generalize idxF bits 9 = I at hpx
  have HX1 := Lib.hid hpx
  have HB1 := Lib.hid hb1
  clear hp hy hq hbits hb1 hpx P0
  unfold Pg.cells pvs
  go_upto_region 2 with (fail)
  obtain ⟨W2, hW2⟩ : ∃ W, W = w1.alloc (.cells #[str [109], .int .i64 1, .slice none 0 0, .slice A n c, .slice none 0 0, .slice none 0 0, .slice none 0 0, .slice (some ⟨bc, 0, none⟩) 1 e] 29) := ⟨_, rfl⟩
  obtain ⟨PB, hPB⟩ : ∃ b, b = w1.heap.size := ⟨_, rfl⟩
  have fp : Blk W2 PB 29 [str [109], .int .i64 1, .slice none 0 0, .slice A n c, .slice none 0 0, .slice none 0 0, .slice none 0 0, .slice (some ⟨bc, 0, none⟩) 1 e] := by rw [hW2, hPB]; exact Blk.new _ _ _
  have hb2 : Below w1.heap.size w1 W2 := by rw [hW2]; exact (Below.refl _ _).alloc (Nat.le_refl _) _
  rw [← hW2, ← hPB]
  have HX2 := Lib.hid (HX1.out.below hb2)
  have HB2 := Lib.hid (HB1.out.trans (hb2.mono HB1.out.size))
  have hI9 : ∀ i ∈ I, i < 9 := by obtain ⟨bits, h, _⟩ := HX1.out.idx; rw [h]; exact fun i hi => idxF_lt bits 9 i hi
  obtain ⟨R, hR, hpo⟩ := flds_law (pd_mem HX1.out.y12 bad) (pd_mem HX1.out.y12 bad) hI9 hI9
  obtain ⟨fl, rfl⟩ := plan_self (pd_mem HX1.out.y12 bad) hpo
  have hok := plan_ok (by have := HX1.out.len; omega) hpo
  rw [← HX1.out.len.1] at hok
  have HOK := Lib.hid hok
  have HPO := Lib.hid hpo
  have CW := Lib.hid (way_any W2 A n c bc e y bad ad cn At ct q m I A n c bc e y bad ad cn At ct q m I (some fl) HX2.out HX2.out hR)
  have hpR : planR q q (some fl) = some fl := by unfold planR; rw [if_pos rfl]
  rw [hpR] at CW
  have HFP := Lib.hid fp
  have g0 := fp.cell 0
  have g1 := fp.cell 1
  have g2 := fp.cell 2
  have g3 := fp.cell 3
  have g4 := fp.cell 4
  have g5 := fp.cell 5
  have g6 := fp.cell 6
  have g7 := fp.cell 7
  have lg := fp.lt
  simp only [List.getElem?_cons_zero, List.getElem?_cons_succ] at g0 g1 g2 g3 g4 g5 g6 g7
  clear hW2 hPB fp hb2 hI9 hR hpo hok hpR
  go_upto_region 3 with (go_at_call 19; refine CW.out.mono ?_; unfold WayPost; rintro e w3 ⟨⟨M, cM, rfl, hway⟩, hb3⟩; have H3 := Lib.hid (And.intro hway hb3); clear hway hb3)
  obtain ⟨W4, hW4⟩ : ∃ W, W = w3.alloc (.cells #[.slice M 1 cM] 60) := ⟨_, rfl⟩
  obtain ⟨WB, hWB⟩ : ∃ b, b = w3.heap.size := ⟨_, rfl⟩
  have fw : Blk W4 WB 60 [.slice M 1 cM] := by rw [hW4, hWB]; exact Blk.new _ _ _
  have hb34 : Below w3.heap.size w3 W4 := by rw [hW4]; exact (Below.refl _ _).alloc (Nat.le_refl _) _
  have hb24 : Below W2.heap.size W2 W4 := H3.out.2.trans (hb34.mono H3.out.2.size)
  rw [← hW4, ← hWB]
  have HX4 := Lib.hid (HX2.out.below hb24)
  have HB4 := Lib.hid (HB2.out.trans (hb24.mono HB2.out.size))
  have HWY := Lib.hid ((H3.out.1.imp (D' := fun b => b < WB) fun b _ hl => by omega).keep (Same.any hb34))
  have fp4 := HFP.out.below hb24 HFP.out.lt
  have CS := Lib.hid (savedFor_any W4 A n c bc e y bad ad cn At ct q m I Lp ln cl l HX4.out (HI.out.keep (Same.any HB4.out)))
  have H4 := Lib.hid (And.intro fp4 fw)
  clear hW4 hWB hb34 hb24 CW g0 g1 g2 g3 g4 g5 g6 g7 lg
  have k0 := fp4.cell 0
  have k1 := fp4.cell 1
  have k2 := fp4.cell 2
  have k3 := fp4.cell 3
  have k4 := fp4.cell 4
  have k5 := fp4.cell 5
  have k6 := fp4.cell 6
  have k7 := fp4.cell 7
  have lk := fp4.lt
  simp only [List.getElem?_cons_zero, List.getElem?_cons_succ] at k0 k1 k2 k3 k4 k5 k6 k7
  clear fp4 fw
  go_upto_region 4 with (go_at_call 20; refine CS.out.mono ?_; unfold SvPost; rintro e w5 ⟨S, hst, ⟨A5, c5, rfl, hvs⟩, hb5⟩; have H5 := Lib.hid (And.intro hst (And.intro hvs hb5)); clear hst hvs hb5)
  obtain ⟨W6, hW6⟩ : ∃ W, W = w5.alloc (.cells #[str [65], .slice A5 m c5, .slice none 0 0] 65) := ⟨_, rfl⟩
  obtain ⟨SB, hSB⟩ : ∃ b, b = w5.heap.size := ⟨_, rfl⟩
  have fs : Blk W6 SB 65 [str [65], .slice A5 m c5, .slice none 0 0] := by rw [hW6, hSB]; exact Blk.new _ _ _
  have hb56 : Below w5.heap.size w5 W6 := by rw [hW6]; exact (Below.refl _ _).alloc (Nat.le_refl _) _
  have hb46 : Below W4.heap.size W4 W6 := H5.out.2.2.trans (hb56.mono H5.out.2.2.size)
  rw [← hW6, ← hSB]
  have HB6 := Lib.hid (HB4.out.trans (hb46.mono HB4.out.size))
  have HW6 := Lib.hid (HWY.out.keep (Same.any hb46))
  have hSBw : w.heap.size ≤ SB := by have h1 := HB4.out.size; have h2 := H5.out.2.2.size; omega
  have fw6 := H4.out.2.below hb46 H4.out.2.lt
  have H6 := Lib.hid (And.intro fs (And.intro fw6 hSBw))
  have hne : WB < SB := by have h1 := H4.out.2.lt; have h2 := H5.out.2.2.size; omega
  have HNE := Lib.hid hne
  clear hW6 hSB hb56 hb46 CS hSBw k0 k1 k2 k3 k4 k5 k6 k7 lk
  have s0 := fs.cell 0
  have s1 := fs.cell 1
  have s2 := fs.cell 2
  have ls := fs.lt
  simp only [List.getElem?_cons_zero, List.getElem?_cons_succ] at s0 s1 s2
  have fs2 := fs.frozen 2
  have fs0 := fs.frozen 0
  have x0' := fw6.cell 0
  have lw := fw6.lt
  simp only [List.getElem?_cons_zero] at x0'
  clear fs fw6
  cases late with
  | false =>
    go_upto_region 8 with (fail)
    obtain ⟨W8, hW8⟩ : ∃ W, W = (W6.setCell ⟨SB, 2, none⟩ (.slice (some ⟨W6.heap.size, 0, none⟩) 1 1)).alloc (.cells #[.int .i64 3, .int .i64 0, .int .i64 0, .string ⟨#[]⟩, .slice none 0 0] 70) := ⟨_, rfl⟩
    obtain ⟨IB, hIB⟩ : ∃ b, b = W6.heap.size := ⟨_, rfl⟩
    have fs8 := (H6.out.1.put 2 (.slice (some ⟨W6.heap.size, 0, none⟩) 1 1)).alloc (.cells #[.int .i64 3, .int .i64 0, .int .i64 0, .string ⟨#[]⟩, .slice none 0 0] 70)
    have hb8 := below_allocR (HB6.out.setCell (p := ⟨SB, 2, none⟩) H6.out.2.2 (.slice (some ⟨W6.heap.size, 0, none⟩) 1 1)) (.cells #[.int .i64 3, .int .i64 0, .int .i64 0, .string ⟨#[]⟩, .slice none 0 0] 70)
    have s68 : Same (fun b => b < WB) W6 W8 := fun b hb hl => by
      have hne2 : b ≠ SB := by have hb' : b < WB := hb; omega
      rw [hW8]
      exact (Below.heap_alloc _ _ b (by simp [World.setCell]; exact hl)).trans (Below.heap_setCell _ _ _ _ hne2)
    have fw8 : Blk W8 WB 60 [.slice M 1 cM] := by
      have hne2 : WB ≠ SB := by omega
      have hl := H6.out.2.1.lt
      rw [hW8]
      exact ((Below.heap_alloc _ _ WB (by simp [World.setCell]; exact hl)).trans (Below.heap_setCell _ _ _ _ hne2)).trans H6.out.2.1
    rw [← hW8] at fs8 hb8
    rw [← hW8]
    have HW8 := Lib.hid ((HW6.out.keep s68).imp (D' := Any) fun _ _ _ => trivial)
    have HB8 := Lib.hid hb8
    simp only [List.set_cons_zero, List.set_cons_succ] at fs8
    have j0 := fs8.cell 0
    have j1 := fs8.cell 1
    have j2 := fs8.cell 2
    have lj := fs8.lt
    have j3 := fw8.cell 0
    have lw8 := fw8.lt
    simp only [List.getElem?_cons_zero, List.getElem?_cons_succ] at j0 j1 j2 j3
    have CT := Lib.hid (show Calls Try.prog 21 #[.agg #[str [65], .slice A5 m c5, .slice (some ⟨W6.heap.size, 0, none⟩) 1 1], .agg #[.slice M 1 cM]] W8 (fun e w' => e = .returned (.tuple #[.agg #[.string ⟨#[]⟩, .slice none 0 0, .slice none 0 0], .int .i64 8]) ∧ Below W8.heap.size W8 w') from
      turn_err W8 [65] A5 m c5 (some ⟨W6.heap.size, 0, none⟩) 1 1 M cM 8 (by decide) fun W hW => by
        obtain ⟨F, cF, Ls, cL, r1, r2, r3⟩ := HW8.out.keep (Same.any hW)
        exact begin_late W A5 c5 (some ⟨W6.heap.size, 0, none⟩) 0 1 M cM m F fl.length cF Ls _ cL fl _ r1 r3 HOK.out)
    clear hW8 hIB fs8 hb8 s68 fw8 s0 s1 s2 ls fs2 fs0 x0' lw hne
    go_wp2_with (go_at_call 21; refine CT.out.mono ?_; rintro e w9 ⟨rfl, hb9⟩; have HB9 := Lib.hid hb9; clear hb9)
    go_ret
    exact ⟨rfl, below_allocR (HB8.out.trans (HB9.out.mono HB8.out.size)) _⟩
  | true =>
    go_upto_region 8 with (fail)
    obtain ⟨W8, hW8⟩ : ∃ W, W = ((W6.setCell ⟨SB, 2, none⟩ (.slice (some ⟨W6.heap.size, 0, none⟩) 1 1)).setCell ⟨SB, 0, none⟩ (.string ⟨#[66]⟩)).alloc (.cells #[.int .i64 3, .int .i64 0, .int .i64 0, .string ⟨#[]⟩, .slice none 0 0] 70) := ⟨_, rfl⟩
    obtain ⟨IB, hIB⟩ : ∃ b, b = W6.heap.size := ⟨_, rfl⟩
    have fs8 := ((H6.out.1.put 2 (.slice (some ⟨W6.heap.size, 0, none⟩) 1 1)).put 0 (.string ⟨#[66]⟩)).alloc (.cells #[.int .i64 3, .int .i64 0, .int .i64 0, .string ⟨#[]⟩, .slice none 0 0] 70)
    have hb8 := below_allocR ((HB6.out.setCell (p := ⟨SB, 2, none⟩) H6.out.2.2 (.slice (some ⟨W6.heap.size, 0, none⟩) 1 1)).setCell (p := ⟨SB, 0, none⟩) H6.out.2.2 (.string ⟨#[66]⟩)) (.cells #[.int .i64 3, .int .i64 0, .int .i64 0, .string ⟨#[]⟩, .slice none 0 0] 70)
    have s68 : Same (fun b => b < WB) W6 W8 := fun b hb hl => by
      have hne2 : b ≠ SB := by have hb' : b < WB := hb; omega
      rw [hW8]
      exact (Below.heap_alloc _ _ b (by simp [World.setCell]; exact hl)).trans ((Below.heap_setCell _ _ _ _ hne2).trans (Below.heap_setCell _ _ _ _ hne2))
    have fw8 : Blk W8 WB 60 [.slice M 1 cM] := by
      have hne2 : WB ≠ SB := by omega
      have hl := H6.out.2.1.lt
      rw [hW8]
      exact ((Below.heap_alloc _ _ WB (by simp [World.setCell]; exact hl)).trans ((Below.heap_setCell _ _ _ _ hne2).trans (Below.heap_setCell _ _ _ _ hne2))).trans H6.out.2.1
    rw [← hW8] at fs8 hb8
    rw [← hW8]
    have HW8 := Lib.hid ((HW6.out.keep s68).imp (D' := Any) fun _ _ _ => trivial)
    have HB8 := Lib.hid hb8
    simp only [List.set_cons_zero, List.set_cons_succ] at fs8
    have j0 := fs8.cell 0
    have j1 := fs8.cell 1
    have j2 := fs8.cell 2
    have lj := fs8.lt
    have j3 := fw8.cell 0
    have lw8 := fw8.lt
    simp only [List.getElem?_cons_zero, List.getElem?_cons_succ] at j0 j1 j2 j3
    have CT := Lib.hid (show Calls Try.prog 21 #[.agg #[.string ⟨#[66]⟩, .slice A5 m c5, .slice (some ⟨W6.heap.size, 0, none⟩) 1 1], .agg #[.slice M 1 cM]] W8 (fun e w' => e = .returned (.tuple #[.agg #[.string ⟨#[]⟩, .slice none 0 0, .slice none 0 0], .int .i64 4]) ∧ Below W8.heap.size W8 w') from
      turn_err W8 [66] A5 m c5 (some ⟨W6.heap.size, 0, none⟩) 1 1 M cM 4 (by decide) fun W hW => by
        obtain ⟨F, cF, Ls, cL, r1, r2, r3⟩ := HW8.out.keep (Same.any hW)
        exact begin_no W [66] (by decide) A5 m c5 (some ⟨W6.heap.size, 0, none⟩) 1 1 M cM m F fl.length cF Ls _ cL r1)
    clear hW8 hIB fs8 hb8 s68 fw8 s0 s1 s2 ls fs2 fs0 x0' lw hne
    go_wp2_with (go_at_call 21; refine CT.out.mono ?_; rintro e w9 ⟨rfl, hb9⟩; have HB9 := Lib.hid hb9; clear hb9)
    go_ret
    exact ⟨rfl, below_allocR (HB8.out.trans (HB9.out.mono HB8.out.size)) _⟩
end Go.Proofs.Ytoddjdajjmcliaa
set_option linter.unusedVariables false
namespace Go.Proofs.Ytoddjdajjmcliaa.renewStill
open Go.ChangeShapes Go.WideShapes Go.ChangeAt Go.RowKit Go.Mem Go.Law

theorem own : ownKnob Try.prog.godebug = none := by kernel_rfl
theorem laidOut : laidOutB Try.prog = true := by kernel_rfl

set_option maxRecDepth 100000 in
theorem lifted (os : Os) (started : os.Started) (H : Type) (enc : TypeId × Value → H) :
    ReturnsInHanded {} Try.checked os 8 .any (Rows.renewStillSpec.pre6 enc Try.prog Try.f8 Rows.renewStillRow.domain false) (Rows.renewStillSpec.post enc Try.prog Try.f8 false true false false) := by
  refine returnsInHanded_of_change (C := Try.checked) own started (by kernel_rfl) Try.func8
    (ChangeSpec.witness6 (enc := enc) (C := Try.checked) false ⟨#[], #[.int .i64 0, .slice none 0 0, .bool false], []⟩ 8 (by kernel_rfl) (by kernel_rfl) (by kernel_rfl) (by kernel_rfl)) ?_
  intro W base args ds gs before hval0 hW hcnd _
  have hval : ∀ (j : Nat) t v, Try.f8.params[j]? = some t → args[j]? = some v → Value.okWide Try.prog W .any base t v := hval0
  have hW' : DataW.Whole enc Try.prog Try.f8.params.toList Rows.renewStillSpec.vars false W args.toList ds gs before := hW
  obtain ⟨p, q, hA0, hV, rfl, hfz, hnd⟩ := hW
  have hA : DataW.TrodAll enc Try.prog W 0 (fun _ => true) true Try.f8.params.toList args.toList ds p := hA0
  rw [Try.params8] at hA hval
  obtain ⟨v0, vs0, d0, ds0, p0, q0, hargs, rfl, rfl, h0, r0⟩ := trodAll_cons hA
  obtain ⟨v1, vs1, d1, ds1, p1, q1, rfl, rfl, rfl, h1, r1⟩ := trodAll_cons r0
  obtain ⟨v2, vs2, d2, ds2, p2, q2, rfl, rfl, rfl, h2, r2⟩ := trodAll_cons r1
  obtain ⟨rfl, rfl, rfl⟩ := trodAll_nil r2
  obtain rfl : args = #[v0, v1, v2] := by cases args; simp_all
  obtain ⟨rfl, rfl⟩ := trodVars_none hV
  obtain ⟨a0, rfl, rfl, rfl, x0⟩ := open_int Try.underlying3 (hval 0 _ v0 rfl rfl) h0
  have w0 := i64_of_wf x0
  obtain ⟨A1, n1, c1, s1, rfl, hn1, hc1, hd1, hr1, hl1⟩ := open_nums Try.underlying44 Try.underlying3 (by kernel_rfl) (hval 1 _ v1 rfl rfl) h1
  obtain ⟨a2, rfl, hbd2, hbp2⟩ := open_bool Try.underlying4 (hval 2 _ v2 rfl rfl) h2
  subst hbd2 hbp2
  clear hA0 hval0
  refine (renewStill_any W a0 w0 A1 n1 c1 s1 ⟨hn1, ⟨hc1, hd1⟩, hr1, hl1⟩ a2).mono fun e W' ⟨he, bel⟩ => ?_
  subst he
  exact ⟨_, rfl, law_post (tb := 4) laidOut Try.underlying4 (by kernel_rfl) (by kernel_rfl) rfl rfl hW' bel⟩

/-- ████ THE STATEMENT ████ -/
theorem proved : Rows.RenewStillSaid :=
  OpenClaim.holds_of_wide 8 Try.f8 rfl rfl rfl rfl rfl rfl rfl ⟨rfl, rfl, rfl, rfl, rfl⟩ rfl rfl rfl rfl rfl (by kernel_rfl) Try.func8 (by kernel_rfl)
    (of_decide_eq_true (by kernel_rfl)) (by unfold Func.isWrapper; first | (rw [if_pos (by decide +kernel)]; kernel_rfl) | (rw [if_neg (by decide +kernel)]; exact ⟨rfl, rfl⟩))
    (fun os started H enc _ => lifted os started H enc)
#print axioms proved
end Go.Proofs.Ytoddjdajjmcliaa.renewStill
