/- Contract of shape.fits, and of shape.Fits. -/
import Derived.Test.YtoddjdajjmcliaaShFit1
set_option linter.unusedVariables false
namespace Go.Proofs.Ytoddjdajjmcliaa
open Go.RowKit Go.Mem Go.Sh Go.Maps Go.Val
theorem fitsF_of {P : List Dt} {d : Nat} {s : Sc} {t : Ty} {v : V} {k : Nat} {n : Nm} {l : List Ty} {s2 : Sc} (h : resolveF s t = (.mk k n l, s2)) : fitsF P (d + 1) s t v =
    if 1 ≤ k ∧ k ≤ 4 then some (decide (v.kind = (basicF k : Nat) ∧ v.args.length = 0))
    else if k = 8 then some (decide (v.kind = 6 ∧ v.args.length = 0))
    else if k = 9 then (if v.kind = 8 then eqV (fitsF P d s2) l v.args else some false)
    else if k = 6 then match dataOf P n with
      | none => none
      | some D => if D.params.length = l.length then
          (if v.kind = 5 then match D.makes.find? (fun m => decide (txt m.name = v.text)) with
            | none => some false
            | some m => eqV (fitsF P d (.mk D.params l s2)) m.args v.args
          else some false) else none
    else some false := by
  conv => lhs; unfold fitsF
  rw [h]
  rfl
/-- where fits stands behind resolve -/
structure FitAt (d dv : Nat) (w W : World) (p : Pg) (P : List Dt) (FA FB FC : Nat) (t : Ty) (A : Option Addr) (m c : Nat) (s : Sc) (sv : Option Addr) (v : V) (A3 : Option Addr) (c3 : Nat) : Prop where
  be : Below w.heap.size w W
  ba : Blk W FA 29 p.cells
  bb : Blk W FB 34 [.int .i64 (t.kind : Nat), str t.name, .slice A m c]
  bc : Blk W FC 47 (vl v A3 c3)
  hp : DtsAt d W Any p.A p.n p.c P
  ht : TyAt d W Any t.kind t.name A m c t
  hs : ScAt d W sv s
  hv : VCells dv W Any (vl v A3 c3) v
theorem FitAt.below {d dv : Nat} {w W W' : World} {p : Pg} {P : List Dt} {FA FB FC : Nat} {t : Ty} {A : Option Addr} {m c : Nat} {s : Sc} {sv : Option Addr} {v : V} {A3 : Option Addr} {c3 : Nat} (h : FitAt d dv w W p P FA FB FC t A m c s sv v A3 c3) (hb : Below W.heap.size W W') : FitAt d dv w W' p P FA FB FC t A m c s sv v A3 c3 :=
  have k : Same Any W W' := Same.any hb
  ⟨h.be.trans (hb.mono h.be.size), h.ba.same k trivial, h.bb.same k trivial, h.bc.same k trivial, h.hp.keep k, h.ht.keep k, h.hs.keep k, h.hv.keep k⟩
-- BEGIN
set_option maxRecDepth 100000 in
set_option maxHeartbeats 8000000 in
theorem fits_succ (dv : Nat) (IH : FitsTo dv) : FitsTo (dv + 1) := by
  intro d w p P t A m c s sv v A3 c3 r hp ht hs hv hf
  have HT := Lib.hid (And.intro hp (And.intro ht (And.intro hs hv)))
  have R0 := fun W3 hb => resolve_any d w W3 t A m c s sv hb ht hs
  have hk9 := resolve_le s t ht hs
  obtain ⟨rt, hrt⟩ : ∃ rt, resolveF s t = rt := ⟨_, rfl⟩
  obtain ⟨⟨k2, n2, l2⟩, s2⟩ := rt
  rw [fitsF_of hrt] at hf
  rw [hrt] at R0 hk9
  simp only [Ty.kind] at hk9
  have HF := Lib.hid hf
  have HR0 := Lib.hid R0
  have HK9 := Lib.hid hk9
  generalize t.kind = kt at HR0 ⊢
  generalize t.name = nt at HR0 ⊢
  generalize hvk : v.kind = vk at hf ⊢
  generalize hvn : v.num = vn at ⊢
  generalize hvt : v.text = vt at hf ⊢
  generalize hva : v.args.length = va at hf ⊢
  have HV := Lib.hid (And.intro hvk (And.intro hvn (And.intro hvt hva)))
  clear hp ht hs hv hf R0 hk9 hvk hvn hvt hva hrt
  obtain ⟨FA, hFA⟩ : ∃ FA, FA = w.heap.size := ⟨_, rfl⟩
  obtain ⟨FB, hFB⟩ : ∃ FB, FB = w.heap.size + 1 := ⟨_, rfl⟩
  obtain ⟨FC, hFC⟩ : ∃ FC, FC = w.heap.size + 1 + 1 := ⟨_, rfl⟩
  have HFs := Lib.hid (show FA = w.heap.size ∧ FB = w.heap.size + 1 ∧ FC = w.heap.size + 1 + 1 from ⟨hFA, hFB, hFC⟩)
  clear hFA hFB hFC
  unfold Pg.cells pvs
  go_enter Try.func30, Try.ntmps30
  go_upto_region 1 with (fail)
  obtain ⟨W3, hW3⟩ : ∃ W3, W3 = ((w.alloc (.cells #[str [109], .int .i64 1, .slice none 0 0, .slice p.A p.n p.c, .slice none 0 0, .slice none 0 0, .slice none 0 0, .slice p.B p.m p.e] 29)).alloc (.cells #[.int .i64 (kt : Nat), str nt, .slice A m c] 34)).alloc (.cells #[.int .i64 vk, .int .i64 vn, .string vt, .slice A3 va c3] 47) := ⟨_, rfl⟩
  have hb := blks3 w 29 34 47 p.cells [.int .i64 (kt : Nat), str nt, .slice A m c] [.int .i64 vk, .int .i64 vn, .string vt, .slice A3 va c3] W3 hW3
  rw [← hW3]
  clear hW3
  rw [← HFs.out.2.2, ← HFs.out.2.1, ← HFs.out.1] at hb
  rw [← HFs.out.2.2, ← HFs.out.2.1, ← HFs.out.1]
  have HB := Lib.hid hb
  have b0 := hb.2.1.cell 0
  have b1 := hb.2.1.cell 1
  have b2 := hb.2.1.cell 2
  have lB := hb.2.1.lt
  simp only [List.getElem?_cons_zero, List.getElem?_cons_succ] at b0 b1 b2
  have R := Lib.hid (HR0.out W3 (by have h := hb.2.2.2.1; rw [HFs.out.1] at h; exact h))
  clear hb HR0
  go_upto_region 2 with (go_at_call 47; refine R.out.mono ?_; unfold ResPost; rintro e w4 ⟨hb4, A2, m2, c2, sv2, he, ht2, hs2⟩; simp only [Ty.kind, Ty.name] at he ht2; subst he; have HK := Lib.hid (And.intro hb4 (And.intro ht2 hs2)); have gB := HB.out.2.1.below hb4 HB.out.2.1.lt; have y0 := gB.cell 0; have y1 := gB.cell 1; have y2 := gB.cell 2; have z0 := gB.frozen 0; have z1 := gB.frozen 1; have z2 := gB.frozen 2; have lY := gB.lt; simp only [List.getElem?_cons_zero, List.getElem?_cons_succ] at y0 y1 y2; clear b0 b1 b2 lB hb4 ht2 hs2 gB)
  clear y0 y1 y2 z0 z1 z2 lY R
  obtain ⟨W5, hW5⟩ : ∃ W5, W5 = ((w4.setCell ⟨FB, 0, none⟩ (.int .i64 (k2 : Nat))).setCell ⟨FB, 1, none⟩ (str n2)).setCell ⟨FB, 2, none⟩ (.slice A2 m2 c2) := ⟨_, rfl⟩
  have hat : FitAt d (dv + 1) w W5 p P FA FB FC (.mk k2 n2 l2) A2 m2 c2 s2 sv2 v A3 c3 := by
    obtain ⟨g1, g2, g3, g4, g5⟩ := HB.out
    obtain ⟨hb4, ht2, hs2⟩ := HK.out
    obtain ⟨f1, f2, f3⟩ := HFs.out
    have hlt : w.heap.size ≤ FB := by omega
    have hb0 : Below w.heap.size w w4 := by rw [f1] at g4; exact g4.trans (hb4.mono (by omega))
    have hbe : Below w.heap.size w W5 := by rw [hW5]; exact ((hb0.setCell (p := ⟨FB, 0, none⟩) hlt _).setCell (p := ⟨FB, 1, none⟩) hlt _).setCell (p := ⟨FB, 2, none⟩) hlt _
    have k : Same Any w W5 := Same.any hbe
    obtain ⟨hp, _, hs, hv⟩ := HT.out
    have ev : vl v A3 c3 = [.int .i64 vk, .int .i64 vn, .string vt, .slice A3 va c3] := by
      obtain ⟨e1, e2, e3, e4⟩ := HV.out
      rw [← e1, ← e2, ← e3, ← e4]
    refine ⟨hbe, ?_, ?_, ?_, hp.keep k, ht2.keep k, hs2.keep k, hv.keep k⟩
    · rw [hW5]
      exact (((g1.below hb4 g1.lt).far (p := ⟨FB, 0, none⟩) (by show FA ≠ FB; omega) _).far (p := ⟨FB, 1, none⟩) (by show FA ≠ FB; omega) _).far (p := ⟨FB, 2, none⟩) (by show FA ≠ FB; omega) _
    · rw [hW5]
      exact (((g2.below hb4 g2.lt).put 0 _).put 1 _).put 2 _
    · rw [hW5, ev]
      exact (((g3.below hb4 g3.lt).far (p := ⟨FB, 0, none⟩) (by show FC ≠ FB; omega) _).far (p := ⟨FB, 1, none⟩) (by show FC ≠ FB; omega) _).far (p := ⟨FB, 2, none⟩) (by show FC ≠ FB; omega) _
  rw [← hW5]
  have HA := Lib.hid hat
  have c0 := hat.bc.cell 0
  have c1 := hat.bc.cell 1
  have c2' := hat.bc.cell 2
  have c3' := hat.bc.cell 3
  have b0 := hat.bb.cell 0
  have b1 := hat.bb.cell 1
  have b2 := hat.bb.cell 2
  have lA := hat.ba.lt
  have lB := hat.bb.lt
  have lC := hat.bc.lt
  simp only [vl, HV.out.1, HV.out.2.1, HV.out.2.2.1, HV.out.2.2.2, Ty.kind, Ty.name, List.getElem?_cons_zero, List.getElem?_cons_succ] at c0 c1 c2' c3' b0 b1 b2
  clear hW5 hat HK HB
  have hk2 := HK9.out
  go_upto_region 4 with (fail)
  by_cases hsm : 1 ≤ k2 ∧ k2 ≤ 4
  · have hr : decide (vk = ((basicF k2 : Nat) : Int) ∧ va = 0) = r := by
      have h := HF.out
      rw [if_pos hsm, HV.out.1, HV.out.2.2.2] at h
      exact Option.some.inj h
    have HR := Lib.hid hr
    have KB := Lib.hid (fun W => basic_any k2 W hk2)
    have fin := Lib.hid (fun nq => below_drewN HA.out.be nq)
    clear hr hk2 HF
    have h4 : k2 = 1 ∨ k2 = 2 ∨ k2 = 3 ∨ k2 = 4 := by omega
    clear hsm
    rcases h4 with rfl | rfl | rfl | rfl
    · have KB : ∀ W, Calls Try.prog 51 #[.int .i64 ((1 : Nat) : Int)] W fun e w' => e = .returned (.int .i64 2) ∧ W = w' := KB.out
      have KB := Lib.hid KB
      by_cases hq : vk = 2
      · subst hq
        by_cases hz : va = 0
        · subst hz
          go_wp2_with (fail)
          go_quiet (first | (go_at_call 51; exact Calls.quiet_of_same ((KB.out _).mono fun e w2 h => ⟨h.1, h.2.symm⟩)))
          go_wp2_with (fail)
          go_ret
          exact ⟨by rw [← HR.out]; rfl, fin.out _⟩
        · have hz1 : ((va : Int) == 0) = false := by simp; omega
          have HR2 := Lib.hid (show false = r by rw [← HR.out]; simp [hz])
          clear hz
          go_wp2_with (fail)
          go_quiet (first | (go_at_call 51; exact Calls.quiet_of_same ((KB.out _).mono fun e w2 h => ⟨h.1, h.2.symm⟩)))
          go_wp2_with (fail)
          go_ret
          exact ⟨by rw [← HR2.out]; rfl, fin.out _⟩
      · have hq1 : (vk == 2) = false := by simpa using hq
        have hq2 : decide (vk = 2) = false := by simpa using hq
        have HR2 := Lib.hid (show false = r by rw [← HR.out]; exact (decide_eq_false (fun h => hq (h.1.trans rfl))).symm)
        clear hq
        go_wp2_with (fail)
        go_quiet (first | (go_at_call 51; exact Calls.quiet_of_same ((KB.out _).mono fun e w2 h => ⟨h.1, h.2.symm⟩)))
        go_wp2_with (fail)
        go_ret
        exact ⟨by rw [← HR2.out]; rfl, fin.out _⟩
    · have KB : ∀ W, Calls Try.prog 51 #[.int .i64 ((2 : Nat) : Int)] W fun e w' => e = .returned (.int .i64 3) ∧ W = w' := KB.out
      have KB := Lib.hid KB
      by_cases hq : vk = 3
      · subst hq
        by_cases hz : va = 0
        · subst hz
          go_wp2_with (fail)
          go_quiet (first | (go_at_call 51; exact Calls.quiet_of_same ((KB.out _).mono fun e w2 h => ⟨h.1, h.2.symm⟩)))
          go_wp2_with (fail)
          go_ret
          exact ⟨by rw [← HR.out]; rfl, fin.out _⟩
        · have hz1 : ((va : Int) == 0) = false := by simp; omega
          have HR2 := Lib.hid (show false = r by rw [← HR.out]; simp [hz])
          clear hz
          go_wp2_with (fail)
          go_quiet (first | (go_at_call 51; exact Calls.quiet_of_same ((KB.out _).mono fun e w2 h => ⟨h.1, h.2.symm⟩)))
          go_wp2_with (fail)
          go_ret
          exact ⟨by rw [← HR2.out]; rfl, fin.out _⟩
      · have hq1 : (vk == 3) = false := by simpa using hq
        have hq2 : decide (vk = 3) = false := by simpa using hq
        have HR2 := Lib.hid (show false = r by rw [← HR.out]; exact (decide_eq_false (fun h => hq (h.1.trans rfl))).symm)
        clear hq
        go_wp2_with (fail)
        go_quiet (first | (go_at_call 51; exact Calls.quiet_of_same ((KB.out _).mono fun e w2 h => ⟨h.1, h.2.symm⟩)))
        go_wp2_with (fail)
        go_ret
        exact ⟨by rw [← HR2.out]; rfl, fin.out _⟩
    · have KB : ∀ W, Calls Try.prog 51 #[.int .i64 ((3 : Nat) : Int)] W fun e w' => e = .returned (.int .i64 4) ∧ W = w' := KB.out
      have KB := Lib.hid KB
      by_cases hq : vk = 4
      · subst hq
        by_cases hz : va = 0
        · subst hz
          go_wp2_with (fail)
          go_quiet (first | (go_at_call 51; exact Calls.quiet_of_same ((KB.out _).mono fun e w2 h => ⟨h.1, h.2.symm⟩)))
          go_wp2_with (fail)
          go_ret
          exact ⟨by rw [← HR.out]; rfl, fin.out _⟩
        · have hz1 : ((va : Int) == 0) = false := by simp; omega
          have HR2 := Lib.hid (show false = r by rw [← HR.out]; simp [hz])
          clear hz
          go_wp2_with (fail)
          go_quiet (first | (go_at_call 51; exact Calls.quiet_of_same ((KB.out _).mono fun e w2 h => ⟨h.1, h.2.symm⟩)))
          go_wp2_with (fail)
          go_ret
          exact ⟨by rw [← HR2.out]; rfl, fin.out _⟩
      · have hq1 : (vk == 4) = false := by simpa using hq
        have hq2 : decide (vk = 4) = false := by simpa using hq
        have HR2 := Lib.hid (show false = r by rw [← HR.out]; exact (decide_eq_false (fun h => hq (h.1.trans rfl))).symm)
        clear hq
        go_wp2_with (fail)
        go_quiet (first | (go_at_call 51; exact Calls.quiet_of_same ((KB.out _).mono fun e w2 h => ⟨h.1, h.2.symm⟩)))
        go_wp2_with (fail)
        go_ret
        exact ⟨by rw [← HR2.out]; rfl, fin.out _⟩
    · have KB : ∀ W, Calls Try.prog 51 #[.int .i64 ((4 : Nat) : Int)] W fun e w' => e = .returned (.int .i64 1) ∧ W = w' := KB.out
      have KB := Lib.hid KB
      by_cases hq : vk = 1
      · subst hq
        by_cases hz : va = 0
        · subst hz
          go_wp2_with (fail)
          go_quiet (first | (go_at_call 51; exact Calls.quiet_of_same ((KB.out _).mono fun e w2 h => ⟨h.1, h.2.symm⟩)))
          go_wp2_with (fail)
          go_ret
          exact ⟨by rw [← HR.out]; rfl, fin.out _⟩
        · have hz1 : ((va : Int) == 0) = false := by simp; omega
          have HR2 := Lib.hid (show false = r by rw [← HR.out]; simp [hz])
          clear hz
          go_wp2_with (fail)
          go_quiet (first | (go_at_call 51; exact Calls.quiet_of_same ((KB.out _).mono fun e w2 h => ⟨h.1, h.2.symm⟩)))
          go_wp2_with (fail)
          go_ret
          exact ⟨by rw [← HR2.out]; rfl, fin.out _⟩
      · have hq1 : (vk == 1) = false := by simpa using hq
        have hq2 : decide (vk = 1) = false := by simpa using hq
        have HR2 := Lib.hid (show false = r by rw [← HR.out]; exact (decide_eq_false (fun h => hq (h.1.trans rfl))).symm)
        clear hq
        go_wp2_with (fail)
        go_quiet (first | (go_at_call 51; exact Calls.quiet_of_same ((KB.out _).mono fun e w2 h => ⟨h.1, h.2.symm⟩)))
        go_wp2_with (fail)
        go_ret
        exact ⟨by rw [← HR2.out]; rfl, fin.out _⟩
  · by_cases h8 : k2 = 8
    · subst h8
      have hr : decide (vk = 6 ∧ va = 0) = r := by
        have h := HF.out
        rw [if_neg (by omega), if_pos rfl, HV.out.1, HV.out.2.2.2] at h
        exact Option.some.inj h
      have HR := Lib.hid hr
      clear hr HF hsm
      by_cases hq : vk = 6
      · subst hq
        by_cases hz : va = 0
        · subst hz
          go_wp2_with (fail)
          go_ret
          exact ⟨by rw [← HR.out]; rfl, HA.out.be⟩
        · have hz1 : ((va : Int) == 0) = false := by simp; omega
          have HR2 := Lib.hid (show false = r by rw [← HR.out]; simp [hz])
          clear hz
          go_wp2_with (fail)
          go_ret
          exact ⟨by rw [← HR2.out]; rfl, HA.out.be⟩
      · have hq1 : (vk == 6) = false := by simpa using hq
        have hq2 : decide (vk = 6) = false := by simpa using hq
        have HR2 := Lib.hid (show false = r by rw [← HR.out]; exact (decide_eq_false (fun h => hq h.1)).symm)
        clear hq
        go_wp2_with (fail)
        go_ret
        exact ⟨by rw [← HR2.out]; rfl, HA.out.be⟩
    · by_cases h9 : k2 = 9
      · subst h9
        have hr : (if vk = 8 then eqV (fitsF P dv s2) l2 v.args else some false) = some r := by
          have h := HF.out
          rw [if_neg (by omega), if_neg (by omega), if_pos rfl, HV.out.1] at h
          exact h
        by_cases hq : vk = 8
        · subst hq
          rw [if_pos rfl] at hr
          have C1 := Lib.hid (fits1_any dv IH d W5 p P FA FC l2 A2 m2 c2 s2 sv2 v A3 c3 r HA.out.ba HA.out.bc HA.out.hp HA.out.ht.args HA.out.hs (vargs HA.out.hv) hr)
          clear hr HF hsm h8
          go_wp2_with (fail)
          refine C1.out.mono ?_
          rintro e w6 ⟨rfl, hb6⟩
          have HE := Lib.hid (HA.out.be.trans (hb6.mono HA.out.be.size))
          go_wp2_with (fail)
          go_ret
          exact ⟨rfl, HE.out⟩
        · rw [if_neg hq] at hr
          have HR := Lib.hid (Option.some.inj hr)
          have hq1 : (vk == 8) = false := by simpa using hq
          have hq2 : decide (vk = 8) = false := by simpa using hq
          clear hr hq HF hsm h8
          go_wp2_with (fail)
          go_ret
          exact ⟨by rw [← HR.out]; rfl, HA.out.be⟩
      · by_cases h6 : k2 = 6
        · subst h6
          have hf := HF.out
          rw [if_neg (by omega), if_neg (by omega), if_neg (by omega), if_pos rfl, HV.out.1, HV.out.2.2.1] at hf
          cases hR : dataOf P n2 with
          | none => rw [hR] at hf; cases hf
          | some R =>
            rw [hR] at hf
            simp only at hf
            by_cases hl : R.params.length = l2.length
            · rw [if_pos hl] at hf
              have UN := Lib.hid (under_any d W5 p P (.mk 6 n2 l2) R A2 m2 c2 s2 sv2 HA.out.hp HA.out.ht HA.out.hs hR hl)
              have HF2 := Lib.hid hf
              have a0 := HA.out.ba.cell 0
              have a1 := HA.out.ba.cell 1
              have a2 := HA.out.ba.cell 2
              have a3 := HA.out.ba.cell 3
              have a4 := HA.out.ba.cell 4
              have a5 := HA.out.ba.cell 5
              have a6 := HA.out.ba.cell 6
              have a7 := HA.out.ba.cell 7
              simp only [Pg.cells, pvs, List.getElem?_cons_zero, List.getElem?_cons_succ] at a0 a1 a2 a3 a4 a5 a6 a7
              simp only [Pg.cells, pvs, Ty.kind, Ty.name] at UN
              clear hf hR hl hsm h8 h9 HF
              go_upto_region 15 with (go_at_call 52; refine UN.out.mono ?_; unfold UnderPost; rintro e w6 ⟨hb6, X, cx, A6, n6, c6, sv6, rfl, hm6, hs6⟩; have HU := Lib.hid (And.intro hb6 (And.intro hm6 hs6)); clear a0 a1 a2 a3 a4 a5 a6 a7 b0 b1 b2 c0 c1 c2' c3' lA lB lC hb6 hm6 hs6)
              obtain ⟨w7, hw7⟩ : ∃ w7, w7 = w6.alloc (.cells #[str R.name, .slice X R.params.length cx, .slice A6 n6 c6] 83) := ⟨_, rfl⟩
              have hd : Blk w7 w6.heap.size 83 [str R.name, .slice X R.params.length cx, .slice A6 n6 c6] := by rw [hw7]; exact Blk.new _ _ _
              have h67 : Below w6.heap.size w6 w7 := by rw [hw7]; exact (Below.refl _ _).alloc (Nat.le_refl _) _
              rw [← hw7]
              obtain ⟨BD, hBD⟩ : ∃ BD, BD = w6.heap.size := ⟨_, rfl⟩
              rw [← hBD] at hd ⊢
              have HA7 := Lib.hid ((HA.out.below HU.out.1).below h67)
              have HU7 := Lib.hid (And.intro (HU.out.2.1.keep (Same.any h67)) (And.intro (HU.out.2.2.keep (Same.any h67)) hd))
              clear hd h67 hw7 hBD
              have d0 := HU7.out.2.2.cell 0
              have d1 := HU7.out.2.2.cell 1
              have d2 := HU7.out.2.2.cell 2
              have lD := HU7.out.2.2.lt
              simp only [List.getElem?_cons_zero, List.getElem?_cons_succ] at d0 d1 d2
              have v2 : w7.cell? ⟨FC, 2, none⟩ = some (.string vt) := by
                have h := HA7.out.bc.cell 2
                simp only [vl, HV.out.2.2.1, List.getElem?_cons_zero, List.getElem?_cons_succ] at h
                exact h
              have lC7 := HA7.out.bc.lt
              have IX := Lib.hid (indexMk_any d A6 n6 c6 R.makes (fun m => decide (txt m.name = vt)) 54 #[.pointer (some ⟨FC, 0, none⟩)] w7 HU7.out.1 (enters_of Try.func54 (by kernel_rfl) rfl)
                (fun m A1 m1 c1 W hW => fits2_any m.name A1 m1 c1 FC vt W ((hW.cell (p := ⟨FC, 2, none⟩) lC7).trans v2)))
              clear v2 lC7
              go_upto_region 16 with (go_at_call 53; refine IX.out.mono ?_; rintro e w8 ⟨i, rfl, hi, hb8⟩; have HI := Lib.hid (And.intro hi hb8); clear d0 d1 d2 lD hi hb8)
              clear IX UN
              have HA8 := Lib.hid (HA7.out.below HI.out.2)
              have HU8 := Lib.hid (And.intro (HU7.out.1.keep (Same.any HI.out.2)) (And.intro (HU7.out.2.1.keep (Same.any HI.out.2)) (HU7.out.2.2.same (Same.any HI.out.2 : Same Any _ _) trivial)))
              have HE8 := Lib.hid HA8.out.be
              have d2 := HU8.out.2.2.cell 2
              have lD := HU8.out.2.2.lt
              have k0 := HA8.out.bc.cell 0
              have lC := HA8.out.bc.lt
              simp only [vl, HV.out.1, List.getElem?_cons_zero, List.getElem?_cons_succ] at d2 k0
              have HM := Lib.hid HI.out.1
              by_cases hq : vk = 5
              · subst hq
                rw [if_pos rfl] at HF2
                rcases HM.out with ⟨hi, hn⟩ | ⟨j, hj, hi, hs⟩
                · subst hi
                  have HR := Lib.hid (show false = r by have h := HF2.out; rw [hn] at h; exact Option.some.inj h)
                  clear hn HF2
                  go_wp2_with (fail)
                  go_ret
                  exact ⟨by rw [← HR.out]; rfl, HE8.out⟩
                · subst hi
                  have hr : eqV (fitsF P dv (.mk R.params l2 s2)) R.makes[j].args v.args = some r := by have h := HF2.out; rw [hs] at h; exact h
                  have hjn : j < n6 := by have h := HU8.out.1; obtain ⟨_, q, _⟩ := h; omega
                  obtain ⟨bm, om, B, mm, em, rfl, _, p0, p1, _, ha⟩ := HU8.out.1.cells hjn hj
                  have lm := lt_of_cell p0
                  have C1 := Lib.hid (fits1_any dv IH d w8 p P FA FC R.makes[j].args B mm em (.mk R.params l2 s2) sv6 v A3 c3 r HA8.out.ba HA8.out.bc HA8.out.hp ha HU8.out.2.1 (vargs HA8.out.hv) hr)
                  have hj0 : (0 : Int) ≤ (j : Int) := Int.natCast_nonneg j
                  clear hs hr ha HF2
                  go_wp2_with (fail)
                  refine C1.out.mono ?_
                  rintro e w9 ⟨rfl, hb9⟩
                  have HE := Lib.hid (HE8.out.trans (hb9.mono HE8.out.size))
                  go_wp2_with (fail)
                  go_ret
                  exact ⟨rfl, HE.out⟩
              · have HR := Lib.hid (show false = r by have h := HF2.out; rw [if_neg hq] at h; exact Option.some.inj h)
                have hq1 : (vk == 5) = false := by simpa using hq
                have hq2 : decide (vk = 5) = false := by simpa using hq
                clear hq HF2
                go_wp2_with (fail)
                go_ret
                exact ⟨by rw [← HR.out]; rfl, HE8.out⟩
            · rw [if_neg hl] at hf
              cases hf
        · have hr : false = r := by
            have h := HF.out
            rw [if_neg hsm, if_neg h8, if_neg h9, if_neg h6] at h
            exact Option.some.inj h
          have HR := Lib.hid hr
          have e1 : ((k2 : Int) == 1) = false := by simp; omega
          have e2 : ((k2 : Int) == 2) = false := by simp; omega
          have e3 : ((k2 : Int) == 3) = false := by simp; omega
          have e4 : ((k2 : Int) == 4) = false := by simp; omega
          have e8 : ((k2 : Int) == 8) = false := by simp; omega
          have e9 : ((k2 : Int) == 9) = false := by simp; omega
          have e6 : ((k2 : Int) == 6) = false := by simp; omega
          clear hr HF hsm h8 h9 h6
          go_wp2_with (fail)
          go_ret
          exact ⟨by rw [← HR.out]; rfl, HA.out.be⟩
theorem fits_all : ∀ dv, FitsTo dv
  | 0 => fun _ _ _ _ _ _ _ _ _ _ _ _ _ _ _ _ _ hv _ => hv.elim
  | dv + 1 => fits_succ dv (fits_all dv)
set_option maxRecDepth 100000 in
set_option maxHeartbeats 1000000 in
/-- whether a value is one of a type -/
theorem Fits_any (dv d : Nat) (w : World) (p : Pg) (P : List Dt) (t : Ty) (A : Option Addr) (m c : Nat) (v : V) (A3 : Option Addr) (c3 : Nat) (r : Bool)
    (hp : DtsAt d w Any p.A p.n p.c P) (ht : TyAt d w Any t.kind t.name A m c t) (hv : VCells dv w Any (vl v A3 c3) v) (hf : fitsF P dv .nil t v = some r) :
    Calls Try.prog 15 #[.agg p.cells.toArray, .agg #[.int .i64 (t.kind : Nat), str t.name, .slice A m c], .agg #[.int .i64 v.kind, .int .i64 v.num, .string v.text, .slice A3 v.args.length c3]] w fun e w' => e = .returned (.bool r) ∧ Below w.heap.size w w' := by
  have hb := (((Below.refl w.heap.size w).alloc (Nat.le_refl _) (.cells p.cells.toArray 29)).alloc (by simp) (.cells #[.int .i64 (t.kind : Nat), str t.name, .slice A m c] 34)).alloc (by simp; omega) (.cells #[.int .i64 v.kind, .int .i64 v.num, .string v.text, .slice A3 v.args.length c3] 47)
  have R := Lib.hid (fits_all dv d _ p P t A m c .nil none v A3 c3 r (hp.keep (Same.any hb)) (ht.keep (Same.any hb)) rfl (hv.keep (Same.any hb)) hf)
  have HB := Lib.hid hb
  clear hp ht hv hf hb
  simp only [Pg.cells, pvs] at R HB ⊢
  generalize t.kind = k1 at R HB ⊢
  generalize t.name = x1 at R HB ⊢
  generalize v.kind = k2 at R HB ⊢
  generalize v.num = x2 at R HB ⊢
  generalize v.text = x3 at R HB ⊢
  generalize v.args.length = x4 at R HB ⊢
  go_enter Try.func15, Try.ntmps15
  go_wp2_with (fail)
  refine R.out.mono ?_
  rintro e w2 ⟨rfl, hb2⟩
  have HE := Lib.hid (HB.out.trans (hb2.mono HB.out.size))
  go_wp2_with (fail)
  go_ret
  exact ⟨rfl, HE.out⟩
end Go.Proofs.Ytoddjdajjmcliaa
