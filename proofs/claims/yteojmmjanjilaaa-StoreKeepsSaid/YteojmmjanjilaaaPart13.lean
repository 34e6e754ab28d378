/- Contracts of value.fits and value.formed: what they answer of a value in memory. · Contract of value.formed, value.Check: what they answer of a value in memory. · Contracts of value.Check, value.written and value.Bytes: the encoding of a value that is right. · Contracts of value.read at values and value.Read: what they answer. -/
import Derived.Test.YteojmmjanjilaaaValNext
import Derived.Deep.QuietTactic
import Derived.BigQuiet
import Derived.Deep.DeepCutAuto
import Derived.Deep.CutBlock
import Derived.Test.YteojmmjanjilaaaValEnc
import Derived.Test.YteojmmjanjilaaaRdValue
set_option linter.unusedVariables false
namespace Go.Val
def fitsL (f : V → Int → Bool × Int) : List V → Int → Bool × Int
  | [], l => (true, l)
  | x :: r, l => if (f x l).1 = true then fitsL f r (f x l).2 else (false, (f x l).2)
/-- is it not too large; what is left -/
def fitsF : Nat → V → Int → Int → Bool × Int
  | 0, _, l, _ => (false, l)
  | d + 1, .mk k n t a, l, dep => if l - 1 < 0 ∨ 40 < dep ∨ 4000 < t.size then (false, l - 1) else fitsL (fun x l => fitsF d x l (dep + 1)) a (l - 1)
theorem fitsL_le {f : V → Int → Bool × Int} (hf : ∀ x l, 0 ≤ l → (f x l).2 ≤ l ∧ -1 ≤ (f x l).2 ∧ ((f x l).1 = true → 0 ≤ (f x l).2)) : ∀ (a : List V) (l : Int), 0 ≤ l → (fitsL f a l).2 ≤ l ∧ -1 ≤ (fitsL f a l).2 ∧ ((fitsL f a l).1 = true → 0 ≤ (fitsL f a l).2)
  | [], l, h => ⟨Int.le_refl _, by simp [fitsL]; omega, fun _ => h⟩
  | x :: r, l, h => by
    have h1 := hf x l h
    unfold fitsL
    split
    · rename_i ht
      have h2 := fitsL_le hf r (f x l).2 (h1.2.2 ht)
      exact ⟨by omega, h2.2.1, h2.2.2⟩
    · exact ⟨h1.1, h1.2.1, fun h => by simp at h⟩
theorem fitsF_le : ∀ (d : Nat) (v : V) (dep l : Int), 0 ≤ l → (fitsF d v l dep).2 ≤ l ∧ -1 ≤ (fitsF d v l dep).2 ∧ ((fitsF d v l dep).1 = true → 0 ≤ (fitsF d v l dep).2)
  | 0, v, dep, l, h => ⟨Int.le_refl _, by simp [fitsF]; omega, fun _ => h⟩
  | d + 1, .mk k n t a, dep, l, h => by
    unfold fitsF
    split
    · exact ⟨by omega, by simp; omega, fun h => by simp at h⟩
    · have := fitsL_le (f := fun x l => fitsF d x l (dep + 1)) (fun x l hl => fitsF_le d x (dep + 1) l hl) a (l - 1) (by omega)
      exact ⟨by omega, this.2.1, this.2.2⟩
/-- the head of a value uses only the fields of its kind -/
def headOk (k n : Int) (t : ByteArray) (m : Nat) : Bool :=
  if k = 1 then (n == 0) && t.toList.isEmpty && ((m : Int) == 0)
  else if k = 2 ∨ k = 6 then t.toList.isEmpty && ((m : Int) == 0)
  else if k = 3 then ((n == 0) || (n == 1)) && t.toList.isEmpty && ((m : Int) == 0)
  else if k = 4 then (n == 0) && ((m : Int) == 0)
  else if k = 5 then (n == 0) && !t.toList.isEmpty
  else if k = 7 then true
  else if k = 8 then (n == 0) && t.toList.isEmpty && decide ((m : Int) ≤ 1)
  else false
def formF : Nat → V → Bool
  | 0, _ => false
  | d + 1, .mk k n t a => headOk k n t a.length && a.all (formF d)
end Go.Val
namespace Go.Proofs.Yteojmmjanjilaaa
open Go.RowKit Go.Mem Go.Val

set_option maxRecDepth 100000 in
set_option maxHeartbeats 1000000 in
theorem fits_any : ∀ (d : Nat) (x : V) (cs : List Value) (l dep : Int) (bl : Nat) (w : World), VCells d w (fun b => b ≠ bl) cs x → Blk w bl 3 [.int .i64 l] → 0 ≤ l → l ≤ 400 → 0 ≤ dep → dep ≤ 1000 - d →
    Calls Try.prog 73 #[.agg cs.toArray, .pointer (some ⟨bl, 0, none⟩), .int .i64 dep] w fun e w' => e = .returned (.bool (fitsF d x l dep).1) ∧ Blk w' bl 3 [.int .i64 (fitsF d x l dep).2] ∧ w.grownBy w' (some bl)
  | 0, x, cs, l, dep, bl, w, hv, _, _, _, _, _ => hv.elim
  | d + 1, x, cs, l, dep, bl, w, hv, hbl, hl0, hl4, hd0, hd1 => by
    have ih := fits_any d
    have IH := Lib.hid ih
    clear ih
    obtain ⟨vk, vn, vt, va⟩ := x
    obtain ⟨A, c, vss, rfl, hk, hn, ht, hal, hac, hcm, hr, ha⟩ := hv
    obtain ⟨n, hnl⟩ : ∃ n, n = va.length := ⟨_, rfl⟩
    rw [← hnl] at hr hal hac ⊢
    have Hn := Lib.hid hnl
    clear hnl
    have c1 : w.cell? ⟨bl, 0, none⟩ = some (.int .i64 l) := hbl.cell 0
    have f1 := hbl.frozen 0
    have l1 := hbl.lt
    have hb1 := (hbl.put 0 (.int .i64 (l - 1))).alloc (.cells #[.int .i64 vk, .int .i64 vn, .string vt, .slice A n c] 53)
    have hgr1 : w.grownBy ((w.setCell ⟨bl, 0, none⟩ (.int .i64 (l - 1))).alloc (.cells #[.int .i64 vk, .int .i64 vn, .string vt, .slice A n c] 53)) (some bl) := grownBy_alloc (grownBy_setCell (World.grownBy.refl w _) (.inl rfl) _) _
    by_cases hbad : l - 1 < 0 ∨ 40 < dep ∨ 4000 < vt.size
    · have hfin : Hid (fitsF (d + 1) (V.mk vk vn vt va) l dep = (false, l - 1)) := by unfold Hid fitsF; rw [if_pos hbad]
      have hpost : ∀ (w' : World), w' = ((w.setCell ⟨bl, 0, none⟩ (.int .i64 (l - 1))).alloc (.cells #[.int .i64 vk, .int .i64 vn, .string vt, .slice A n c] 53)) → (Ending.returned (.bool false) = .returned (.bool (fitsF (d + 1) (V.mk vk vn vt va) l dep).1)) ∧ Blk w' bl 3 [.int .i64 (fitsF (d + 1) (V.mk vk vn vt va) l dep).2] ∧ w.grownBy w' (some bl) := by
        intro w' e
        subst e
        rw [hfin.out]
        exact ⟨rfl, hb1, hgr1⟩
      have Hpost := Lib.hid hpost
      clear hpost hb1 hgr1 hbl hr ha
      by_cases hb1 : l - 1 < 0
      · go_enter Try.func73, Try.ntmps73
        go_wp2
        go_ret
        exact Hpost.out _ rfl
      · have d1 : decide (l - 1 < 0) = false := by simp; omega
        by_cases hb2 : 40 < dep
        · have d2 : decide (40 < dep) = true := by simp; omega
          go_enter Try.func73, Try.ntmps73
          go_wp2
          go_ret
          exact Hpost.out _ rfl
        · have d2 : decide (40 < dep) = false := by simp; omega
          have hb3 : (4000 : Int) < (vt.size : Int) := by omega
          go_enter Try.func73, Try.ntmps73
          go_wp2
          go_ret
          exact Hpost.out _ rfl
    · have hfin : Hid (fitsF (d + 1) (V.mk vk vn vt va) l dep = fitsL (fun x l => fitsF d x l (dep + 1)) va (l - 1)) := by unfold Hid; conv => lhs; unfold fitsF; rw [if_neg hbad]
      have d1 : decide (l - 1 < 0) = false := by simp; omega
      have d2 : decide (40 < dep) = false := by simp; omega
      have d3 : decide (4000 < vt.size) = false := by simp; omega
      have d4 : decide ((4000 : Int) < (vt.size : Int)) = false := by simp; omega
      go_enter Try.func73, Try.ntmps73
      go_wp2_with (fail)
      go_loopw [31] (fun i wr => ∃ (k : Nat) (l1 : Int), k ≤ n ∧ i = .int .i64 k ∧ 0 ≤ l1 ∧ l1 ≤ 400 ∧ Hid (fitsF (d + 1) (V.mk vk vn vt va) l dep = fitsL (fun x l => fitsF d x l (dep + 1)) (va.drop k) l1) ∧ Blk wr bl 3 [.int .i64 l1] ∧ w.grownBy wr (some bl)) (fun i _ => n - (intOf i).toNat)
      case atStart => exact ⟨0, l - 1, Nat.zero_le _, rfl, by omega, by omega, hfin, hb1, hgr1⟩
      case round =>
        obtain ⟨k, l2, hk', rfl, h0, h4, hcur, hbr, hgr⟩ := hrel
        clear hb1 hgr1 hfin c1 f1 hbl
        have l1 := hbr.lt
        by_cases hlt : k < n
        · have hkl : k < va.length := by have := Hn.out; omega
          obtain ⟨b, off, cs, rfl, hD, hv, hcell⟩ := hr.elem (VCells.stable d) ha Hn.out hkl
          have hsame : Same (fun b => b ≠ bl) w wr := Same.of_grown hgr fun b hb _ e => hb (by injection e)
          have hv2 := hv.keep hsame
          generalize hxx : va[k] = X at hv hv2
          have HX : Hid (va.drop k = X :: va.drop (k + 1)) := by unfold Hid; rw [List.drop_eq_getElem_cons hkl, hxx]
          clear hxx
          obtain ⟨xk, xn, xt, xa⟩ := X
          obtain ⟨A4, c4, rfl⟩ := hv.form
          simp only [V.kind, V.num, V.text, V.args] at hcell hv hv2
          have g0 := hsame.cell hD (hcell 0 _ rfl)
          have g1 := hsame.cell hD (hcell 1 _ rfl)
          have g2 := hsame.cell hD (hcell 2 _ rfl)
          have g3 := hsame.cell hD (hcell 3 _ rfl)
          simp only [Nat.add_zero, ← Nat.add_assoc] at g0 g1 g2 g3
          have l4 := lt_of_cell g0
          have hle := fitsF_le d (V.mk xk xn xt xa) (dep + 1) l2 h0
          clear hcell
          go_wp2_with (fail)
          refine (IH.out (V.mk xk xn xt xa) [.int .i64 xk, .int .i64 xn, .string xt, .slice A4 xa.length c4] l2 (dep + 1) bl _ (hv2.keep (Same.alloc _ _ _)) (hbr.alloc _) h0 h4 (by omega) (by omega)).mono ?_
          rintro e w2 ⟨rfl, hb2, hg2⟩
          have hstep : Hid (fitsF (d + 1) (V.mk vk vn vt va) l dep = if (fitsF d (V.mk xk xn xt xa) l2 (dep + 1)).1 = true then fitsL (fun x l => fitsF d x l (dep + 1)) (va.drop (k + 1)) (fitsF d (V.mk xk xn xt xa) l2 (dep + 1)).2 else (false, (fitsF d (V.mk xk xn xt xa) l2 (dep + 1)).2)) := by
            unfold Hid
            rw [hcur.out, HX.out]
            rfl
          have hgr2 : w.grownBy w2 (some bl) := grownBy_trans (grownBy_alloc hgr _) hg2
          obtain ⟨r, l3⟩ : ∃ r, (fitsF d (V.mk xk xn xt xa) l2 (dep + 1)) = r := ⟨_, rfl⟩
          generalize fitsF d (V.mk xk xn xt xa) l2 (dep + 1) = R at hstep hb2 hle ⊢
          obtain ⟨rb, rl⟩ := R
          simp only at hb2 hle ⊢
          clear l3 hv hv2 g0 g1 g2 g3 hcur HX
          cases rb with
          | true =>
            go_wp2_with (fail)
            refine ⟨⟨k + 1, rl, by omega, by go_num, hle.2.2 rfl, by omega, ?_, hb2, hgr2⟩, by simp [intOf]; omega⟩
            unfold Hid
            rw [hstep.out]
            rfl
          | false =>
            go_wp2_with (fail)
            go_ret
            rw [hstep.out]
            exact ⟨rfl, hb2, hgr2⟩
        · go_wp2
          go_ret
          rw [hcur.out, List.drop_of_length_le (by have := Hn.out; omega)]
          exact ⟨rfl, hbr, hgr⟩
end Go.Proofs.Yteojmmjanjilaaa
set_option linter.unusedVariables false
namespace Go.Proofs.Yteojmmjanjilaaa
open Go.RowKit Go.Mem Go.Val

set_option maxRecDepth 100000 in
set_option maxHeartbeats 1000000 in
theorem formed_any : ∀ (d : Nat) (x : V) (cs : List Value) (w : World), VCells d w Any cs x →
    Calls Try.prog 74 #[.agg cs.toArray] w fun e w' => e = .returned (.bool (formF d x)) ∧ Below w.heap.size w w'
  | 0, x, cs, w, hv => hv.elim
  | d + 1, x, cs, w, hv => by
    have ih := formed_any d
    have IH := Lib.hid ih
    clear ih
    obtain ⟨vk, vn, vt, va⟩ := x
    obtain ⟨A, c, vss, rfl, hk, hn, ht, hal, hac, hcm, hr, ha⟩ := hv
    obtain ⟨n, hnl⟩ : ∃ n, n = va.length := ⟨_, rfl⟩
    rw [← hnl] at hr hal hac ⊢
    have Hn := Lib.hid hnl
    clear hnl
    go_enter Try.func74, Try.ntmps74
    go_wp2_with (fail)
    go_quiet (fail)
    have hb0 := (Blk.new w 53 [.int .i64 vk, .int .i64 vn, .string vt, .slice A n c]).drewN nq
    have hbe : Below w.heap.size w ((w.alloc (.cells #[.int .i64 vk, .int .i64 vn, .string vt, .slice A n c] 53)).drewN nq) := by
      have h := (Below.refl w.heap.size w).alloc (Nat.le_refl _) (.cells #[.int .i64 vk, .int .i64 vn, .string vt, .slice A n c] 53)
      exact ⟨h.os, h.tape, h.output, h.size, h.block⟩
    have HB := Lib.hid (And.intro hb0 hbe)
    clear hb0 hbe
    go_upto_block 0 with (fail)
    go_cut [3, 4, 5] (fun s3 s4 s5 wc => ∃ b3 b4 b5 : Bool, s3 = .bool b3 ∧ s4 = .bool b4 ∧ s5 = .bool b5 ∧ Hid (headOk vk vn vt n = (b3 && b4 && b5)) ∧ Hid (Blk wc w.heap.size 53 [.int .i64 vk, .int .i64 vn, .string vt, .slice A n c] ∧ Below w.heap.size w wc))
    case first =>
      by_cases k1 : vk = 1
      · subst k1
        go_wp2_with (fail)
        go_meet
        exact ⟨_, _, _, rfl, rfl, rfl, by unfold Hid headOk; simp, HB⟩
      by_cases k2 : vk = 2
      · subst k2
        go_wp2_with (fail)
        go_meet
        exact ⟨_, _, _, rfl, rfl, rfl, by unfold Hid headOk; simp, HB⟩
      by_cases k6 : vk = 6
      · subst k6
        go_wp2_with (fail)
        go_meet
        exact ⟨_, _, _, rfl, rfl, rfl, by unfold Hid headOk; simp, HB⟩
      by_cases k3 : vk = 3
      · subst k3
        by_cases n0 : vn = 0
        · subst n0
          go_wp2_with (fail)
          go_meet
          exact ⟨_, _, _, rfl, rfl, rfl, by unfold Hid headOk; simp, HB⟩
        · have q0 : (vn == 0) = false := by simpa using n0
          clear n0
          go_wp2_with (fail)
          go_meet
          exact ⟨_, _, _, rfl, rfl, rfl, by unfold Hid headOk; simp [q0], HB⟩
      by_cases k4 : vk = 4
      · subst k4
        go_wp2_with (fail)
        go_meet
        exact ⟨_, _, _, rfl, rfl, rfl, by unfold Hid headOk; simp, HB⟩
      by_cases k5 : vk = 5
      · subst k5
        go_wp2_with (fail)
        go_meet
        exact ⟨_, _, _, rfl, rfl, rfl, by unfold Hid headOk; simp, HB⟩
      by_cases k7 : vk = 7
      · subst k7
        go_wp2_with (fail)
        go_meet
        exact ⟨_, _, _, rfl, rfl, rfl, by unfold Hid headOk; simp, HB⟩
      by_cases k8 : vk = 8
      · subst k8
        go_wp2_with (fail)
        go_meet
        exact ⟨_, _, _, rfl, rfl, rfl, by unfold Hid headOk; simp, HB⟩
      have e : Hid (formF (d + 1) (V.mk vk vn vt va) = false) := by
        unfold Hid formF headOk
        simp [k1, k2, k3, k4, k5, k6, k7, k8]
      have q1 : (vk == 1) = false := by simpa using k1
      have q2 : (vk == 2) = false := by simpa using k2
      have q3 : (vk == 3) = false := by simpa using k3
      have q4 : (vk == 4) = false := by simpa using k4
      have q5 : (vk == 5) = false := by simpa using k5
      have q6 : (vk == 6) = false := by simpa using k6
      have q7 : (vk == 7) = false := by simpa using k7
      have q8 : (vk == 8) = false := by simpa using k8
      clear k1 k2 k3 k4 k5 k6 k7 k8
      go_wp2_with (fail)
      go_ret
      rw [e.out]
      exact ⟨rfl, HB.out.2⟩
    case rest =>
      obtain ⟨b3, b4, b5, rfl, rfl, rfl, hh, HB2⟩ := hcut
      have hB3 := HB2.out.1
      have t3 := hB3.cell 3
      simp only [List.getElem?_cons_succ, List.getElem?_cons_zero] at t3
      clear hB3 HB
      by_cases hall : (b3 && b4 && b5) = true
      · obtain ⟨⟨rfl, rfl⟩, rfl⟩ : (b3 = true ∧ b4 = true) ∧ b5 = true := by simpa using hall
        have hh2 : Hid (headOk vk vn vt va.length = true) := by
          unfold Hid
          rw [← Hn.out, hh.out]
          rfl
        clear hall hh
        go_wp2_with (fail)
        go_loopw [62] (fun i wr => ∃ k : Nat, k ≤ n ∧ i = .int .i64 k ∧ Hid (formF (d + 1) (V.mk vk vn vt va) = (va.drop k).all (formF d)) ∧ Below w.heap.size w wr) (fun i _ => n - (intOf i).toNat)
        case atStart => exact ⟨0, Nat.zero_le _, rfl, by unfold Hid; simp [formF, hh2.out], HB2.out.2⟩
        case round =>
          obtain ⟨k, hk', rfl, hcur, hbe⟩ := hrel
          clear t3
          by_cases hlt : k < n
          · have hkl : k < va.length := by have := Hn.out; omega
            obtain ⟨b, off, cs, rfl, hD, hv, hcell⟩ := hr.elem (VCells.stable d) ha Hn.out hkl
            have hsame : Same Any w wr := Same.any hbe
            have hv2 := hv.keep hsame
            generalize hxx : va[k] = X at hv hv2
            have HX : Hid (va.drop k = X :: va.drop (k + 1)) := by unfold Hid; rw [List.drop_eq_getElem_cons hkl, hxx]
            clear hxx
            obtain ⟨xk, xn, xt, xa⟩ := X
            obtain ⟨A4, c4, rfl⟩ := hv.form
            simp only [V.kind, V.num, V.text, V.args] at hcell hv hv2
            have g0 := hsame.cell hD (hcell 0 _ rfl)
            have g1 := hsame.cell hD (hcell 1 _ rfl)
            have g2 := hsame.cell hD (hcell 2 _ rfl)
            have g3 := hsame.cell hD (hcell 3 _ rfl)
            simp only [Nat.add_zero, ← Nat.add_assoc] at g0 g1 g2 g3
            have l4 := lt_of_cell g0
            clear hcell
            go_wp2_with (fail)
            refine (IH.out (V.mk xk xn xt xa) [.int .i64 xk, .int .i64 xn, .string xt, .slice A4 xa.length c4] _ (hv2.keep (Same.alloc _ _ _))).mono ?_
            rintro e w2 ⟨rfl, hb2⟩
            have hstep : Hid (formF (d + 1) (V.mk vk vn vt va) = (formF d (V.mk xk xn xt xa) && (va.drop (k + 1)).all (formF d))) := by
              unfold Hid
              rw [hcur.out, HX.out]
              rfl
            have hbe2 : Below w.heap.size w w2 := (hbe.alloc hbe.size _).trans (hb2.mono (by have := hbe.size; simp; omega))
            generalize formF d (V.mk xk xn xt xa) = R at hstep ⊢
            clear hv hv2 g0 g1 g2 g3 hcur HX
            cases R with
            | true =>
              go_wp2_with (fail)
              refine ⟨⟨k + 1, by omega, by go_num, ?_, hbe2⟩, by simp [intOf]; omega⟩
              unfold Hid
              rw [hstep.out]
              rfl
            | false =>
              go_wp2_with (fail)
              go_ret
              rw [hstep.out]
              exact ⟨rfl, hbe2⟩
          · go_wp2
            go_ret
            rw [hcur.out, List.drop_of_length_le (by have := Hn.out; omega)]
            exact ⟨rfl, hbe⟩
      · have e : Hid (formF (d + 1) (V.mk vk vn vt va) = false) := by
          unfold Hid formF
          rw [← Hn.out, hh.out]
          simp [Bool.eq_false_iff.2 hall]
        clear hh
        cases b3
        · go_wp2_with (fail)
          go_ret
          rw [e.out]
          exact ⟨rfl, HB2.out.2⟩
        cases b4
        · go_wp2_with (fail)
          go_ret
          rw [e.out]
          exact ⟨rfl, HB2.out.2⟩
        cases b5
        · go_wp2_with (fail)
          go_ret
          rw [e.out]
          exact ⟨rfl, HB2.out.2⟩
        · exact absurd rfl hall
end Go.Proofs.Yteojmmjanjilaaa
set_option linter.unusedVariables false
namespace Go.Proofs.Yteojmmjanjilaaa
open Go.RowKit Go.Mem Go.Val

/-- what Check answers -/
def checkF (d : Nat) (x : V) : Int := if (fitsF d x 400 1).1 = true then (if formF d x = true then 0 else 3) else 2

set_option maxRecDepth 100000 in
theorem check_any (d : Nat) (x : V) (cs : List Value) (w : World) (hd : d ≤ 900) (hv : VCells d w Any cs x) :
    Calls Try.prog 60 #[.agg cs.toArray] w fun e w' => e = .returned (.int .i64 (checkF d x)) ∧ Below w.heap.size w w' := by
  obtain ⟨A, c, rfl⟩ := hv.form
  obtain ⟨vk, vn, vt, va⟩ := x
  simp only [V.kind, V.num, V.text, V.args] at hv ⊢
  go_enter Try.func60, Try.ntmps60
  go_wp2_with (fail)
  have hb2 := Blk.new (w.alloc (.cells #[.int .i64 vk, .int .i64 vn, .string vt, .slice A va.length c] 53)) 3 [.int .i64 400]
  have hb1 := (Blk.new w 53 [.int .i64 vk, .int .i64 vn, .string vt, .slice A va.length c]).alloc (.cells #[.int .i64 400] 3)
  have hbel : Below w.heap.size w ((w.alloc (.cells #[.int .i64 vk, .int .i64 vn, .string vt, .slice A va.length c] 53)).alloc (.cells #[.int .i64 400] 3)) := ((Below.refl _ _).alloc (Nat.le_refl _) _).alloc (by simp) _
  have hs : ((w.alloc (.cells #[.int .i64 vk, .int .i64 vn, .string vt, .slice A va.length c] 53)).alloc (.cells #[.int .i64 400] 3)).heap.size = w.heap.size + 2 := by simp
  have hsz : (w.alloc (.cells #[.int .i64 vk, .int .i64 vn, .string vt, .slice A va.length c] 53)).heap.size = w.heap.size + 1 := by simp
  rw [hsz] at hb2
  have hb2' : Blk ((w.alloc (.cells #[.int .i64 vk, .int .i64 vn, .string vt, .slice A va.length c] 53)).alloc (.cells #[.int .i64 400] 3)) (w.heap.size + 1) 3 [.int .i64 400] := hb2
  generalize (w.alloc (.cells #[.int .i64 vk, .int .i64 vn, .string vt, .slice A va.length c] 53)).alloc (.cells #[.int .i64 400] 3) = W at hb1 hb2' hbel hs ⊢
  have hvW : VCells d W (fun b => b ≠ w.heap.size + 1) [.int .i64 vk, .int .i64 vn, .string vt, .slice A va.length c] (V.mk vk vn vt va) := (hv.imp fun b _ hl => by omega).keep (Same.any hbel)
  clear hb2 hsz
  refine (fits_any d (V.mk vk vn vt va) [.int .i64 vk, .int .i64 vn, .string vt, .slice A va.length c] 400 1 (w.heap.size + 1) W hvW hb2' (by omega) (by omega) (by omega) (by omega)).mono ?_
  rintro e w1 ⟨rfl, hb3, hg1⟩
  have hw1 : Below w.heap.size w w1 := hbel.trans ⟨hg1.os, hg1.tape, hg1.output, hg1.size, fun k hk => hg1.block k (by omega) (by simp; omega)⟩
  have hbv := hb1.grown hg1 (by simp)
  have t0 := hbv.cell 0
  have t1 := hbv.cell 1
  have t2 := hbv.cell 2
  have t3 := hbv.cell 3
  simp only [List.getElem?_cons_succ, List.getElem?_cons_zero] at t0 t1 t2 t3
  have hc : Hid (checkF d (V.mk vk vn vt va) = if (fitsF d (V.mk vk vn vt va) 400 1).1 = true then (if formF d (V.mk vk vn vt va) = true then 0 else 3) else 2) := rfl
  generalize (fitsF d (V.mk vk vn vt va) 400 1) = R at hc hb3 ⊢
  obtain ⟨rb, rl⟩ := R
  simp only at hc ⊢
  clear hb3
  cases rb with
  | false =>
    go_wp2_with (fail)
    go_ret
    rw [hc.out]
    exact ⟨rfl, hw1⟩
  | true =>
    go_wp2_with (fail)
    refine (formed_any d (V.mk vk vn vt va) [.int .i64 vk, .int .i64 vn, .string vt, .slice A va.length c] w1 (hv.keep (Same.any hw1))).mono ?_
    rintro e w2 ⟨rfl, hb4⟩
    have hw2 : Below w.heap.size w w2 := hw1.trans (hb4.mono hw1.size)
    generalize formF d (V.mk vk vn vt va) = F at hc ⊢
    cases F with
    | false =>
      go_wp2_with (fail)
      go_ret
      rw [hc.out]
      exact ⟨rfl, hw2⟩
    | true =>
      go_wp2_with (fail)
      go_ret
      rw [hc.out]
      exact ⟨rfl, hw2⟩

/-- what Bytes gives -/
def BytesPost (w : World) (d : Nat) (x : V) (e : Ending) (w' : World) : Prop :=
  (checkF d x = 0 → ∃ A c, e = .returned (.tuple #[.slice A (encV d x).length c, .int .i64 0]) ∧ w'.ownsRow w.heap.size 5 1 (.slice A (encV d x).length c) (encV d x).length (u8s (encV d x))) ∧
  (checkF d x ≠ 0 → e = .returned (.tuple #[.slice none 0 0, .int .i64 (checkF d x)])) ∧ Below w.heap.size w w'

end Go.Proofs.Yteojmmjanjilaaa
set_option linter.unusedVariables false
namespace Go.Proofs.Yteojmmjanjilaaa
open Go.RowKit Go.Mem Go.Val

theorem rvalue : ∀ d, RV d
  | 0 => rvalue_zero
  | d + 1 => rvalue_succ d (rvalue d)

/-- what Read makes of bytes -/
def readF (bs : List UInt8) : Option V := match decV 40 bs with
  | some (x, []) => if checkF 41 x = 0 then some x else none
  | _ => none
def ReadPost (w : World) (bs : List UInt8) (e : Ending) (w' : World) : Prop :=
  (∃ x A c, readF bs = some x ∧ e = .returned (.tuple #[vagg x A c, .int .i64 0]) ∧ VCells 41 w' (fun b => w.heap.size ≤ b) (vcells x A c) x ∧ Below w.heap.size w w') ∨
  (readF bs = none ∧ e = .returned (.tuple #[.agg #[.int .i64 0, .int .i64 0, .string ⟨#[]⟩, .slice none 0 0], .int .i64 3]) ∧ Below w.heap.size w w')
theorem readF_bad {bs bs1 : List UInt8} {bad1 : Bool} {X : V} (h : (okS false bs).bind (decV 40) = okS bad1 (X, bs1)) (hd : (!bad1 && bs1.isEmpty) = false) : readF bs = none := by
  have e := good_on h
  unfold readF
  rw [e]
  cases bad1 with
  | true => rfl
  | false =>
    cases bs1 with
    | nil => simp at hd
    | cons b t => rfl
theorem readF_good {bs bs1 : List UInt8} {bad1 : Bool} {X : V} (h : (okS false bs).bind (decV 40) = okS bad1 (X, bs1)) (hd : (!bad1 && bs1.isEmpty) = true) : readF bs = if checkF 41 X = 0 then some X else none := by
  have e := good_on h
  unfold readF
  rw [e]
  cases bad1 with
  | true => simp at hd
  | false =>
    cases bs1 with
    | nil => rfl
    | cons b t => simp at hd
theorem below_set4 {a w : World} {B g : Nat} (h : Below B a w) (hg : B ≤ g) (x y z u : Value) : Below B a ((((w.setCell ⟨g, 0, none⟩ x).setCell ⟨g, 1, none⟩ y).setCell ⟨g, 2, none⟩ z).setCell ⟨g, 3, none⟩ u) :=
  (((h.setCell (p := ⟨g, 0, none⟩) hg x).setCell (p := ⟨g, 1, none⟩) hg y).setCell (p := ⟨g, 2, none⟩) hg z).setCell (p := ⟨g, 3, none⟩) hg u
/-- grown but for a block that is new: nothing below has changed -/
theorem below_far {a b c : World} {g : Nat} (h : Below a.heap.size a b) (k : b.grownBy c (some g)) (hg : a.heap.size ≤ g) : Below a.heap.size a c := h.grown k h.size (fun i hi => by injection hi with hi; omega)

end Go.Proofs.Yteojmmjanjilaaa
