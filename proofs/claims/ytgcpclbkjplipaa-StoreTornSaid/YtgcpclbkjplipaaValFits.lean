/- Contracts of value.fits and value.formed: what they answer of a value in memory. -/
import Derived.Test.YtgcpclbkjplipaaValNext
set_option linter.unusedVariables false
namespace Go.Val
def fitsL (f : V → Int → Bool × Int) : List V → Int → Bool × Int
  | [], l => (true, l)
  | x :: r, l => if (f x l).1 = true then fitsL f r (f x l).2 else (false, (f x l).2)
/-- is it not too large; what is left -/
def fitsF : Nat → V → Int → Int → Bool × Int
  | 0, _, l, _ => (false, l)
  | d + 1, .mk k n t a, l, dep => if l - 1 < 0 ∨ 40 < dep ∨ 4000 < t.size then (false, l - 1) else fitsL (fun x l => fitsF d x l (dep + 1)) a (l - 1)
theorem fitsL_le {f : V → Int → Bool × Int} (hf : ∀ x l, 0 ≤ l → (f x l).2 ≤ l ∧ -1 ≤ (f x l).2 ∧ ((f x l).1 = true → 0 ≤ (f x l).2)) : ∀ (a : List V) (l : Int), 0 ≤ l → (fitsL f a l).2 ≤ l ∧ -1 ≤ (fitsL f a l).2 ∧ ((fitsL f a l).1 = true → 0 ≤ (fitsL f a l).2)
  | [], l, h => ⟨Int.le_refl _, by simp [fitsL]; omega, fun _ => h⟩
  | x :: r, l, h => by
    have h1 := hf x l h
    unfold fitsL
    split
    · rename_i ht
      have h2 := fitsL_le hf r (f x l).2 (h1.2.2 ht)
      exact ⟨by omega, h2.2.1, h2.2.2⟩
    · exact ⟨h1.1, h1.2.1, fun h => by simp at h⟩
theorem fitsF_le : ∀ (d : Nat) (v : V) (dep l : Int), 0 ≤ l → (fitsF d v l dep).2 ≤ l ∧ -1 ≤ (fitsF d v l dep).2 ∧ ((fitsF d v l dep).1 = true → 0 ≤ (fitsF d v l dep).2)
  | 0, v, dep, l, h => ⟨Int.le_refl _, by simp [fitsF]; omega, fun _ => h⟩
  | d + 1, .mk k n t a, dep, l, h => by
    unfold fitsF
    split
    · exact ⟨by omega, by simp; omega, fun h => by simp at h⟩
    · have := fitsL_le (f := fun x l => fitsF d x l (dep + 1)) (fun x l hl => fitsF_le d x (dep + 1) l hl) a (l - 1) (by omega)
      exact ⟨by omega, this.2.1, this.2.2⟩
/-- the head of a value uses only the fields of its kind -/
def headOk (k n : Int) (t : ByteArray) (m : Nat) : Bool :=
  if k = 1 then (n == 0) && t.toList.isEmpty && ((m : Int) == 0)
  else if k = 2 ∨ k = 6 then t.toList.isEmpty && ((m : Int) == 0)
  else if k = 3 then ((n == 0) || (n == 1)) && t.toList.isEmpty && ((m : Int) == 0)
  else if k = 4 then (n == 0) && ((m : Int) == 0)
  else if k = 5 then (n == 0) && !t.toList.isEmpty
  else if k = 7 then true
  else if k = 8 then (n == 0) && t.toList.isEmpty && decide ((m : Int) ≤ 1)
  else false
def formF : Nat → V → Bool
  | 0, _ => false
  | d + 1, .mk k n t a => headOk k n t a.length && a.all (formF d)
end Go.Val
namespace Go.Proofs.Ytgcpclbkjplipaa
open Go.RowKit Go.Mem Go.Val

set_option maxRecDepth 100000 in
set_option maxHeartbeats 1000000 in
theorem fits_any : ∀ (d : Nat) (x : V) (cs : List Value) (l dep : Int) (bl : Nat) (w : World), VCells d w (fun b => b ≠ bl) cs x → Blk w bl 3 [.int .i64 l] → 0 ≤ l → l ≤ 400 → 0 ≤ dep → dep ≤ 1000 - d →
    Calls Try.prog 92 #[.agg cs.toArray, .pointer (some ⟨bl, 0, none⟩), .int .i64 dep] w fun e w' => e = .returned (.bool (fitsF d x l dep).1) ∧ Blk w' bl 3 [.int .i64 (fitsF d x l dep).2] ∧ w.grownBy w' (some bl)
  | 0, x, cs, l, dep, bl, w, hv, _, _, _, _, _ => hv.elim
  | d + 1, x, cs, l, dep, bl, w, hv, hbl, hl0, hl4, hd0, hd1 => by
    have ih := fits_any d
    have IH := Lib.hid ih
    clear ih
    obtain ⟨vk, vn, vt, va⟩ := x
    obtain ⟨A, c, vss, rfl, hk, hn, ht, hal, hac, hcm, hr, ha⟩ := hv
    obtain ⟨n, hnl⟩ : ∃ n, n = va.length := ⟨_, rfl⟩
    rw [← hnl] at hr hal hac ⊢
    have Hn := Lib.hid hnl
    clear hnl
    have c1 : w.cell? ⟨bl, 0, none⟩ = some (.int .i64 l) := hbl.cell 0
    have f1 := hbl.frozen 0
    have l1 := hbl.lt
    have hb1 := (hbl.put 0 (.int .i64 (l - 1))).alloc (.cells #[.int .i64 vk, .int .i64 vn, .string vt, .slice A n c] 35)
    have hgr1 : w.grownBy ((w.setCell ⟨bl, 0, none⟩ (.int .i64 (l - 1))).alloc (.cells #[.int .i64 vk, .int .i64 vn, .string vt, .slice A n c] 35)) (some bl) := grownBy_alloc (grownBy_setCell (World.grownBy.refl w _) (.inl rfl) _) _
    by_cases hbad : l - 1 < 0 ∨ 40 < dep ∨ 4000 < vt.size
    · have hfin : Hid (fitsF (d + 1) (V.mk vk vn vt va) l dep = (false, l - 1)) := by unfold Hid fitsF; rw [if_pos hbad]
      have hpost : ∀ (w' : World), w' = ((w.setCell ⟨bl, 0, none⟩ (.int .i64 (l - 1))).alloc (.cells #[.int .i64 vk, .int .i64 vn, .string vt, .slice A n c] 35)) → (Ending.returned (.bool false) = .returned (.bool (fitsF (d + 1) (V.mk vk vn vt va) l dep).1)) ∧ Blk w' bl 3 [.int .i64 (fitsF (d + 1) (V.mk vk vn vt va) l dep).2] ∧ w.grownBy w' (some bl) := by
        intro w' e
        subst e
        rw [hfin.out]
        exact ⟨rfl, hb1, hgr1⟩
      have Hpost := Lib.hid hpost
      clear hpost hb1 hgr1 hbl hr ha
      by_cases hb1 : l - 1 < 0
      · go_enter Try.func92, Try.ntmps92
        go_wp2
        go_ret
        exact Hpost.out _ rfl
      · have d1 : decide (l - 1 < 0) = false := by simp; omega
        by_cases hb2 : 40 < dep
        · have d2 : decide (40 < dep) = true := by simp; omega
          go_enter Try.func92, Try.ntmps92
          go_wp2
          go_ret
          exact Hpost.out _ rfl
        · have d2 : decide (40 < dep) = false := by simp; omega
          have hb3 : (4000 : Int) < (vt.size : Int) := by omega
          go_enter Try.func92, Try.ntmps92
          go_wp2
          go_ret
          exact Hpost.out _ rfl
    · have hfin : Hid (fitsF (d + 1) (V.mk vk vn vt va) l dep = fitsL (fun x l => fitsF d x l (dep + 1)) va (l - 1)) := by unfold Hid; conv => lhs; unfold fitsF; rw [if_neg hbad]
      have d1 : decide (l - 1 < 0) = false := by simp; omega
      have d2 : decide (40 < dep) = false := by simp; omega
      have d3 : decide (4000 < vt.size) = false := by simp; omega
      have d4 : decide ((4000 : Int) < (vt.size : Int)) = false := by simp; omega
      go_enter Try.func92, Try.ntmps92
      go_wp2_with (fail)
      go_loopw [31] (fun i wr => ∃ (k : Nat) (l1 : Int), k ≤ n ∧ i = .int .i64 k ∧ 0 ≤ l1 ∧ l1 ≤ 400 ∧ Hid (fitsF (d + 1) (V.mk vk vn vt va) l dep = fitsL (fun x l => fitsF d x l (dep + 1)) (va.drop k) l1) ∧ Blk wr bl 3 [.int .i64 l1] ∧ w.grownBy wr (some bl)) (fun i _ => n - (intOf i).toNat)
      case atStart => exact ⟨0, l - 1, Nat.zero_le _, rfl, by omega, by omega, hfin, hb1, hgr1⟩
      case round =>
        obtain ⟨k, l2, hk', rfl, h0, h4, hcur, hbr, hgr⟩ := hrel
        clear hb1 hgr1 hfin c1 f1 hbl
        have l1 := hbr.lt
        by_cases hlt : k < n
        · have hkl : k < va.length := by have := Hn.out; omega
          obtain ⟨b, off, cs, rfl, hD, hv, hcell⟩ := hr.elem (VCells.stable d) ha Hn.out hkl
          have hsame : Same (fun b => b ≠ bl) w wr := Same.of_grown hgr fun b hb _ e => hb (by injection e)
          have hv2 := hv.keep hsame
          generalize hxx : va[k] = X at hv hv2
          have HX : Hid (va.drop k = X :: va.drop (k + 1)) := by unfold Hid; rw [List.drop_eq_getElem_cons hkl, hxx]
          clear hxx
          obtain ⟨xk, xn, xt, xa⟩ := X
          obtain ⟨A4, c4, rfl⟩ := hv.form
          simp only [V.kind, V.num, V.text, V.args] at hcell hv hv2
          have g0 := hsame.cell hD (hcell 0 _ rfl)
          have g1 := hsame.cell hD (hcell 1 _ rfl)
          have g2 := hsame.cell hD (hcell 2 _ rfl)
          have g3 := hsame.cell hD (hcell 3 _ rfl)
          simp only [Nat.add_zero, ← Nat.add_assoc] at g0 g1 g2 g3
          have l4 := lt_of_cell g0
          have hle := fitsF_le d (V.mk xk xn xt xa) (dep + 1) l2 h0
          clear hcell
          go_wp2_with (fail)
          refine (IH.out (V.mk xk xn xt xa) [.int .i64 xk, .int .i64 xn, .string xt, .slice A4 xa.length c4] l2 (dep + 1) bl _ (hv2.keep (Same.alloc _ _ _)) (hbr.alloc _) h0 h4 (by omega) (by omega)).mono ?_
          rintro e w2 ⟨rfl, hb2, hg2⟩
          have hstep : Hid (fitsF (d + 1) (V.mk vk vn vt va) l dep = if (fitsF d (V.mk xk xn xt xa) l2 (dep + 1)).1 = true then fitsL (fun x l => fitsF d x l (dep + 1)) (va.drop (k + 1)) (fitsF d (V.mk xk xn xt xa) l2 (dep + 1)).2 else (false, (fitsF d (V.mk xk xn xt xa) l2 (dep + 1)).2)) := by
            unfold Hid
            rw [hcur.out, HX.out]
            rfl
          have hgr2 : w.grownBy w2 (some bl) := grownBy_trans (grownBy_alloc hgr _) hg2
          obtain ⟨r, l3⟩ : ∃ r, (fitsF d (V.mk xk xn xt xa) l2 (dep + 1)) = r := ⟨_, rfl⟩
          generalize fitsF d (V.mk xk xn xt xa) l2 (dep + 1) = R at hstep hb2 hle ⊢
          obtain ⟨rb, rl⟩ := R
          simp only at hb2 hle ⊢
          clear l3 hv hv2 g0 g1 g2 g3 hcur HX
          cases rb with
          | true =>
            go_wp2_with (fail)
            refine ⟨⟨k + 1, rl, by omega, by go_num, hle.2.2 rfl, by omega, ?_, hb2, hgr2⟩, by simp [intOf]; omega⟩
            unfold Hid
            rw [hstep.out]
            rfl
          | false =>
            go_wp2_with (fail)
            go_ret
            rw [hstep.out]
            exact ⟨rfl, hb2, hgr2⟩
        · go_wp2
          go_ret
          rw [hcur.out, List.drop_of_length_le (by have := Hn.out; omega)]
          exact ⟨rfl, hbr, hgr⟩
end Go.Proofs.Ytgcpclbkjplipaa
