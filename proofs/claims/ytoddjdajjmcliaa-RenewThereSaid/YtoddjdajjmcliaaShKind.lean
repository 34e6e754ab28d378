/- Contracts of slices.Index at strings, and of kind.Data at programs of the laws. -/
import Derived.Test.YtoddjdajjmcliaaShMem
set_option linter.unusedVariables false
namespace Go.Sh
open Go.RowKit Go.Mem
/-- the cells of a program of the laws -/
def pvs (A : Option Addr) (n c : Nat) (B : Option Addr) (m e : Nat) : List Value := [str [109], .int .i64 1, .slice none 0 0, .slice A n c, .slice none 0 0, .slice none 0 0, .slice none 0 0, .slice B m e]
end Go.Sh
namespace Go.Proofs.Ytoddjdajjmcliaa
open Go.RowKit Go.Mem Go.Sh Go.Maps
set_option maxRecDepth 100000 in
theorem indexS_any (A : Option Addr) (n c : Nat) (l : List Nm) (x : Nm) (w : World) (hr : Reads w Any 1 A n (strs l)) (hn : n = l.length) (hn1 : n ≤ 1000) :
    Calls Try.prog 37 #[.slice A n c, str x] w fun e w' => e = .returned (.int .i64 (ixG x l 0)) ∧ w = w' := by
  have Hn := Lib.hid hn
  have HR := Lib.hid hr
  clear hn hr
  go_enter Try.func37, Try.ntmps37
  go_wp2_with (fail)
  go_loopw [8] (fun v wr => ∃ j : Nat, j ≤ n ∧ v = .int .i64 j ∧ Hid (ixG x (l.drop j) j = ixG x l 0) ∧ wr = w) (fun v _ => n - (intOf v).toNat)
  case atStart => exact ⟨0, Nat.zero_le _, rfl, by unfold Hid; simp, rfl⟩
  case round =>
    obtain ⟨j, hj, rfl, hno, rfl⟩ := hrel
    by_cases hlt : j < n
    · have hjl : j < l.length := by have := Hn.out; omega
      obtain ⟨b1, o1, u, rfl, _, hu, p0⟩ := HR.out.at_ hlt
      rw [strs_at l j hjl] at hu
      injection hu with hu
      subst hu
      have hd := hno.out
      rw [ixG_drop hjl] at hd
      generalize l[j] = y at p0 hd
      by_cases e : x = y
      · have nq : (x == y) = true := (beq_nm x y).trans (decide_eq_true e)
        rw [if_pos e] at hd
        have HM := Lib.hid hd
        clear e hd hno
        go_wp2_with (fail)
        go_ret
        exact ⟨by rw [← HM.out]; rfl, rfl⟩
      · have nq : (x == y) = false := (beq_nm x y).trans (decide_eq_false e)
        rw [if_neg e] at hd
        have HM := Lib.hid hd
        clear e hd hno
        go_wp2_with (fail)
        exact ⟨⟨j + 1, by omega, by go_num, HM, by first | rfl | trivial⟩, by simp [intOf]; omega⟩
    · have hall := hno.out
      rw [ixG_end (by have := Hn.out; omega)] at hall
      have HM := Lib.hid hall
      clear hall hno
      go_wp2_with (fail)
      go_ret
      exact ⟨by rw [← HM.out]; rfl, rfl⟩
/-- what kind.Data hands back -/
def KindPost (d : Nat) (D : Nat → Prop) (w : World) (R : Option Dt) : Ending → World → Prop := fun e w' => Below w.heap.size w w' ∧
  match R with
  | none => e = .returned (.tuple #[.agg #[str [], .slice none 0 0, .slice none 0 0], .int .i64 11])
  | some t => ∃ X cx A n c, e = .returned (.tuple #[.agg #[str t.name, .slice X t.params.length cx, .slice A n c], .int .i64 0]) ∧ t.params.length ≤ 1000 ∧ Reads w' D 1 X t.params.length (strs t.params) ∧ MksAt d w' D A n c t.makes
theorem dataOf_drop {P : List Dt} {n : Nm} {j : Nat} (h : j < P.length) : dataOf (P.drop j) n = if P[j].name = n then some P[j] else dataOf (P.drop (j + 1)) n := by
  rw [List.drop_eq_getElem_cons h]
  unfold dataOf
  rw [List.find?_cons]
  by_cases e : P[j].name = n
  · rw [decide_eq_true e, if_pos e]
  · rw [decide_eq_false e, if_neg e]
set_option maxRecDepth 100000 in
set_option maxHeartbeats 1000000 in
theorem kindData_any (d : Nat) (D : Nat → Prop) (A : Option Addr) (n c : Nat) (B : Option Addr) (m e : Nat) (P : List Dt) (x : Nm) (w : World) (h : DtsAt d w D A n c P) :
    Calls Try.prog 66 #[.agg (pvs A n c B m e).toArray, str x] w (KindPost d D w (dataOf P x)) := by
  have Hn := Lib.hid (show n = P.length ∧ n ≤ 1000 by obtain ⟨_, h1, h2, _⟩ := h; exact ⟨h1, h2⟩)
  have HR := Lib.hid (h.imp (D' := fun b => D b ∧ b < w.heap.size) fun b hb hl => ⟨hb, hl⟩)
  have hn1 := Hn.out.2
  clear h
  unfold pvs
  obtain ⟨F, hF⟩ : ∃ F, F = w.heap.size := ⟨_, rfl⟩
  have HF := Lib.hid hF
  clear hF
  go_enter Try.func66, Try.ntmps66
  go_wp2_with (fail)
  obtain ⟨RC, hRC⟩ : ∃ RC, RC = w.heap.size + 1 := ⟨_, rfl⟩
  rw [← hRC]
  have HRC := Lib.hid hRC
  have hbk : Blk ((w.alloc (.cells #[str [109], .int .i64 1, .slice none 0 0, .slice A n c, .slice none 0 0, .slice none 0 0, .slice none 0 0, .slice B m e] 29)).alloc (.cells #[.string ⟨#[]⟩, .slice none 0 0, .slice none 0 0] 83)) RC 83 [str [], .slice none 0 0, .slice none 0 0] := by
    have := Blk.new (w.alloc (.cells #[str [109], .int .i64 1, .slice none 0 0, .slice A n c, .slice none 0 0, .slice none 0 0, .slice none 0 0, .slice B m e] 29)) 83 [str [], .slice none 0 0, .slice none 0 0]
    rw [show (w.alloc (.cells #[str [109], .int .i64 1, .slice none 0 0, .slice A n c, .slice none 0 0, .slice none 0 0, .slice none 0 0, .slice B m e] 29)).heap.size = RC by simp [hRC]] at this
    exact this
  have hbw : Below w.heap.size w ((w.alloc (.cells #[str [109], .int .i64 1, .slice none 0 0, .slice A n c, .slice none 0 0, .slice none 0 0, .slice none 0 0, .slice B m e] 29)).alloc (.cells #[.string ⟨#[]⟩, .slice none 0 0, .slice none 0 0] 83)) := ((Below.refl _ _).alloc (Nat.le_refl _) _).alloc (by simp) _
  have HK := Lib.hid (And.intro hbk hbw)
  clear hRC hbk hbw
  generalize ((w.alloc (.cells #[str [109], .int .i64 1, .slice none 0 0, .slice A n c, .slice none 0 0, .slice none 0 0, .slice none 0 0, .slice B m e] 29)).alloc (.cells #[.string ⟨#[]⟩, .slice none 0 0, .slice none 0 0] 83)) = W1 at HK ⊢
  go_loopw [11] (fun v wr => ∃ j : Nat, j ≤ n ∧ v = .int .i64 j ∧ Hid (dataOf (P.drop j) x = dataOf P x ∧ Below w.heap.size w wr ∧ Blk wr RC 83 [str [], .slice none 0 0, .slice none 0 0])) (fun v _ => n - (intOf v).toNat)
  case atStart => exact ⟨0, Nat.zero_le _, rfl, by simp, HK.out.2, HK.out.1⟩
  case round =>
    obtain ⟨j, hj, rfl, HI⟩ := hrel
    by_cases hlt : j < n
    · have hjl : j < P.length := by have := Hn.out.1; omega
      have hrd := HR.out.keep (w' := wr) fun b _ hl => HI.out.2.1.block b hl
      obtain ⟨b1, o1, X, cx, B2, m2, e2, rfl, _, p0, p1, p2, h1, h2, h3, h4⟩ := hrd.cells hlt hjl
      have hd := HI.out.1
      rw [dataOf_drop hjl] at hd
      have HD := Lib.hid (And.intro h2 (And.intro h3 h4))
      generalize P[j] = y at p0 p1 p2 hd HD
      obtain ⟨yn, yp, ym⟩ := y
      simp only at p0 p1 p2 hd HD
      clear hrd h1 h2 h3 h4
      have hbs := HI.out.2.1.size
      by_cases e9 : yn = x
      · have nq : (yn == x) = true := (beq_nm yn x).trans (decide_eq_true e9)
        rw [if_pos e9] at hd
        have HM := Lib.hid hd
        have HE := Lib.hid e9
        have hbk := HI.out.2.2
        have lk := hbk.lt
        have k0 := hbk.cell 0
        have k1 := hbk.cell 1
        have k2 := hbk.cell 2
        have z0 := hbk.frozen 0
        have z1 := hbk.frozen 1
        have z2 := hbk.frozen 2
        simp only [List.getElem?_cons_zero, List.getElem?_cons_succ] at k0 k1 k2
        have hbk0 := hbk
        clear e9 hd hbk
        have fin := Lib.hid (((((hbk0.put 0 (str yn)).put 1 (.slice X yp.length cx)).put 2 (.slice B2 m2 e2))).alloc (.cells #[str yn, .slice X yp.length cx, .slice B2 m2 e2] 83))
        have hRg : w.heap.size ≤ RC := by have := HRC.out; omega
        have hbf := (((HI.out.2.1.setCell (p := ⟨RC, 0, none⟩) hRg (str yn)).setCell (p := ⟨RC, 1, none⟩) hRg (.slice X yp.length cx)).setCell (p := ⟨RC, 2, none⟩) hRg (.slice B2 m2 e2)).alloc (by simp [World.setCell]; omega) (.cells #[str yn, .slice X yp.length cx, .slice B2 m2 e2] 83)
        have HBf := Lib.hid hbf
        clear hbf hbk0
        go_wp2_with (fail)
        refine ret_blk_tmp rfl rfl fin.out Try.underlying83 (by kernel_rfl) rfl ?_
        refine ⟨HBf.out, ?_⟩
        rw [← HM.out]
        have hk2 : Same (fun b => D b ∧ b < w.heap.size) wr ((((wr.setCell ⟨RC, 0, none⟩ (str yn)).setCell ⟨RC, 1, none⟩ (.slice X yp.length cx)).setCell ⟨RC, 2, none⟩ (.slice B2 m2 e2)).alloc (.cells #[str yn, .slice X yp.length cx, .slice B2 m2 e2] 83)) := fun b hb _ => (HBf.out.block b hb.2).trans (HI.out.2.1.block b hb.2).symm
        exact ⟨X, cx, B2, m2, e2, rfl, HD.out.1, (HD.out.2.1.keep hk2).imp (by omega) fun b hb _ => hb.1, (HD.out.2.2.keep hk2).imp fun b hb _ => hb.1⟩
      · have nq : (yn == x) = false := (beq_nm yn x).trans (decide_eq_false e9)
        rw [if_neg e9] at hd
        have fin := Lib.hid (show dataOf (P.drop (j + 1)) x = dataOf P x ∧ Below w.heap.size w (wr.alloc (.cells #[str yn, .slice X yp.length cx, .slice B2 m2 e2] 83)) ∧ Blk (wr.alloc (.cells #[str yn, .slice X yp.length cx, .slice B2 m2 e2] 83)) RC 83 [str [], .slice none 0 0, .slice none 0 0] from ⟨hd, HI.out.2.1.alloc hbs _, HI.out.2.2.alloc _⟩)
        clear e9 hd
        go_wp2_with (fail)
        exact ⟨⟨j + 1, by omega, by go_num, fin⟩, by simp [intOf]; omega⟩
    · have hall := HI.out.1
      rw [List.drop_eq_nil_of_le (by have := Hn.out.1; omega)] at hall
      have HM := Lib.hid hall
      have hbk := HI.out.2.2
      have lk := hbk.lt
      have k0 := hbk.cell 0
      have k1 := hbk.cell 1
      have k2 := hbk.cell 2
      have z0 := hbk.frozen 0
      have z1 := hbk.frozen 1
      have z2 := hbk.frozen 2
      simp only [List.getElem?_cons_zero, List.getElem?_cons_succ] at k0 k1 k2
      have hbk0 := hbk
      clear hall hbk
      have fin := Lib.hid (((hbk0.put 0 (str [])).put 1 (.slice none 0 0)).put 2 (.slice none 0 0))
      have hRg : w.heap.size ≤ RC := by have := HRC.out; omega
      have HBf := Lib.hid (((HI.out.2.1.setCell (p := ⟨RC, 0, none⟩) hRg (str [])).setCell (p := ⟨RC, 1, none⟩) hRg (.slice none 0 0)).setCell (p := ⟨RC, 2, none⟩) hRg (.slice none 0 0))
      clear hbk0
      go_wp2_with (fail)
      refine ret_blk_tmp rfl rfl fin.out Try.underlying83 (by kernel_rfl) rfl ?_
      refine ⟨HBf.out, ?_⟩
      rw [← HM.out]
      rfl
end Go.Proofs.Ytoddjdajjmcliaa
