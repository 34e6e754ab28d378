/- Contract of the check of parcels: those that are right are told so. · Contracts of sameValue and slices.EqualFunc at values: whether two values are the same. -/
import Derived.Test.YteojmmjanjilaaaPart23
import Derived.Test.YteojmmjanjilaaaPart19
import Derived.Test.YteojmmjanjilaaaValNext
import Derived.WideShapes
set_option linter.unusedVariables false
namespace Go.Proofs.Yteojmmjanjilaaa
open Go.RowKit Go.Mem Go.Val

def GoodP (d : Nat) (p : Pc) : Prop := 1 ≤ p.ref ∧ -1 ≤ p.ticks ∧ p.box.length ≤ 60 ∧ p.watches.length ≤ 1000 ∧ p.links.length ≤ 1000 ∧ GoodS d p.saved ∧ (∀ l ∈ p.box, GoodL d l) ∧ (∀ n ∈ p.watches, 1 ≤ n) ∧ ∀ n ∈ p.links, 1 ≤ n

set_option maxRecDepth 100000 in
set_option maxHeartbeats 4000000 in
theorem checkP_any (d : Nat) (p : Pc) (cs : List Value) (w : World) (hd : d ≤ 900) (hv : PcCells d w Any cs p) (hg : GoodP d p) :
    Calls Try.prog 45 #[.agg cs.toArray] w fun e w' => e = .returned (.int .i64 0) ∧ Below w.heap.size w w' := by
  obtain ⟨sv, A3, c3, vs3, A4, c4, A5, c5, rfl, _, _, hsv, _, _, _, r3, a3, r4, r5⟩ := hv
  obtain ⟨pr, ps, pb, pt, pw, pl⟩ := p
  obtain ⟨A1, c1, vs1, A2, c2, vs2, rfl, _⟩ := id hsv
  obtain ⟨sa, ss, si⟩ := ps
  obtain ⟨g1, g2, g3, g4, g5, g6, g7, g8, g9⟩ := hg
  simp only [List.cons_append, List.nil_append] at g1 g2 g3 g4 g5 g6 g7 g8 g9 hsv r3 a3 r4 r5 ⊢
  have G7 := Lib.hid g7
  have G8 := Lib.hid g8
  have G9 := Lib.hid g9
  have hbx := Blk.new w 48 [.int .i64 pr, .string sa, .slice A1 ss.length c1, .slice A2 si.length c2, .slice A3 pb.length c3, .int .i64 pt, .slice A4 pw.length c4, .slice A5 pl.length c5]
  obtain ⟨W, hW⟩ : ∃ W, W = w.alloc (.cells #[.int .i64 pr, .string sa, .slice A1 ss.length c1, .slice A2 si.length c2, .slice A3 pb.length c3, .int .i64 pt, .slice A4 pw.length c4, .slice A5 pl.length c5] 48) := ⟨_, rfl⟩
  have hbW : Blk W w.heap.size 48 [.int .i64 pr, .string sa, .slice A1 ss.length c1, .slice A2 si.length c2, .slice A3 pb.length c3, .int .i64 pt, .slice A4 pw.length c4, .slice A5 pl.length c5] := by rw [hW]; exact hbx
  have hbel : Below w.heap.size w W := by rw [hW]; exact (Below.refl _ _).alloc (Nat.le_refl _) _
  have CS := Lib.hid (checkS_any d ⟨sa, ss, si⟩ [.string sa, .slice A1 ss.length c1, .slice A2 si.length c2] W hd ((SvCells.stable d).keep hsv (Same.any hbel)) g6)
  have HW := Lib.hid hW
  clear g6 g7 g8 g9 hbx hsv hW
  have d1 : decide (pr < 1) = false := by simp; omega
  have d2 : decide (pt < -1) = false := by simp; omega
  have d3 : decide ((60 : Int) < (pb.length : Int)) = false := by simp; omega
  have d4 : decide ((1000 : Int) < (pw.length : Int)) = false := by simp; omega
  have d5 : decide ((1000 : Int) < (pl.length : Int)) = false := by simp; omega
  go_enter Try.func45, Try.ntmps45
  go_wp2_with (fail)
  rw [← HW.out]
  clear HW
  refine CS.out.mono ?_
  rintro e w1 ⟨rfl, hb1⟩
  have hB1 := hbW.below hb1 hbW.lt
  have hw1 : Below w.heap.size w w1 := hbel.trans (hb1.mono hbel.size)
  have t4 := hB1.cell 4
  simp only [List.getElem?_cons_succ, List.getElem?_cons_zero] at t4
  have lw1 := hB1.lt
  clear CS hbW hbel hb1
  go_wp2_with (fail)
  clear t4
  go_loopw [46] (fun v wr => ∃ k : Nat, k ≤ pb.length ∧ v = .int .i64 k ∧ Below w1.heap.size w1 wr) (fun v _ => pb.length - (intOf v).toNat)
  case atStart => exact ⟨0, Nat.zero_le _, rfl, Below.refl _ _⟩
  case round =>
    obtain ⟨k, hk, rfl, hb⟩ := hrel
    have hwr : Below w.heap.size w wr := hw1.trans (hb.mono hw1.size)
    by_cases hlt : k < pb.length
    · obtain ⟨b, off, cs, rfl, hD, hv, hcell⟩ := r3.elem (LCells.stable d) a3 rfl hlt
      have hgl := G7.out _ (List.getElem_mem hlt)
      generalize pb[k] = X at hv hgl
      obtain ⟨lk, lf, lt, ln, ls, X⟩ := X
      obtain ⟨vs, rfl, hfit, hvv⟩ := id hv
      obtain ⟨A6, c6, rfl⟩ := hvv.form
      obtain ⟨vk, vn, vt, va⟩ := X
      simp only [V.kind, V.num, V.text, V.args] at hcell hv
      have hsame : Same Any w wr := Same.any hwr
      have g0 := hsame.cell hD (hcell 0 _ rfl)
      have g1 := hsame.cell hD (hcell 1 _ rfl)
      have g2 := hsame.cell hD (hcell 2 _ rfl)
      have g3 := hsame.cell hD (hcell 3 _ rfl)
      have g4 := hsame.cell hD (hcell 4 _ rfl)
      have g5 := hsame.cell hD (hcell 5 _ rfl)
      have g6 := hsame.cell hD (hcell 6 _ rfl)
      have g7 := hsame.cell hD (hcell 7 _ rfl)
      have g8 := hsame.cell hD (hcell 8 _ rfl)
      simp only [Nat.add_zero, ← Nat.add_assoc] at g0 g1 g2 g3 g4 g5 g6 g7 g8
      have CK := Lib.hid (checkL_any d ⟨lk, lf, lt, ln, ls, V.mk vk vn vt va⟩ [.int .i64 lk, .int .i64 lf, .int .i64 lt, .int .i64 ln, .string ls, .int .i64 vk, .int .i64 vn, .string vt, .slice A6 va.length c6] (wr.alloc (.cells #[.int .i64 lk, .int .i64 lf, .int .i64 lt, .int .i64 ln, .string ls, .int .i64 vk, .int .i64 vn, .string vt, .slice A6 va.length c6] 55)) hd ((LCells.stable d).keep ((LCells.stable d).keep hv hsame) (Same.alloc _ _ _)) hgl)
      clear hgl hcell hv hvv hsame hfit
      go_wp2_with (fail)
      refine CK.out.mono ?_
      rintro e w2 ⟨rfl, hb2⟩
      clear CK
      go_wp2_with (fail)
      exact ⟨⟨k + 1, by omega, by go_num, (hb.alloc hb.size _).trans (hb2.mono (by have := hb.size; simp; omega))⟩, by simp [intOf]; omega⟩
    · have hB2 := hB1.below hb lw1
      have t6 := hB2.cell 6
      have t7 := hB2.cell 7
      simp only [List.getElem?_cons_succ, List.getElem?_cons_zero] at t6 t7
      have lw2 := hB2.lt
      obtain ⟨W2, hW2⟩ : ∃ W2, W2 = wr.alloc (.cells #[.slice A4 pw.length c4, .slice A5 pl.length c5] 46) := ⟨_, rfl⟩
      have hS2 : Blk W2 wr.heap.size 46 [.slice A4 pw.length c4, .slice A5 pl.length c5] := by rw [hW2]; exact Blk.new wr _ _
      have hbe2 : Below w.heap.size w W2 := by rw [hW2]; exact hwr.alloc hwr.size _
      have s0 := hS2.cell 0
      have s1 := hS2.cell 1
      simp only [List.getElem?_cons_succ, List.getElem?_cons_zero] at s0 s1
      have ls2 := hS2.lt
      have q4 := r4.keep (Same.any (D := Any) hbe2)
      have q5 := r5.keep (Same.any (D := Any) hbe2)
      have HW2 := Lib.hid hW2
      clear hW2 hS2 hB1 hB2 r3 a3 r4 r5 hb lw1
      go_upto_region 16 with (fail)
      rw [← HW2.out]
      clear HW2 t6 t7
      go_loop [8, 10, 62, 63, 64, 65, 66, 67, 68, 69, 70, 71, 72, 73, 74, 75] (fun _ _ v _ _ _ _ _ _ _ _ _ _ _ _ _ => ∃ k : Nat, k ≤ 2 ∧ v = .int .i64 k) (fun _ _ v _ _ _ _ _ _ _ _ _ _ _ _ _ => 2 - (intOf v).toNat)
      case atStart => exact ⟨0, by omega, rfl⟩
      case round =>
        obtain ⟨k, hk, rfl⟩ := hrel
        rcases (by omega : k = 0 ∨ k = 1 ∨ k = 2) with rfl | rfl | rfl
        · go_wp2_with (fail)
          go_loop [10, 68, 69, 70, 71, 72, 73, 74] (fun _ v _ _ _ _ _ _ => ∃ j : Nat, j ≤ pw.length ∧ v = .int .i64 j) (fun _ v _ _ _ _ _ _ => pw.length - (intOf v).toNat)
          case atStart => exact ⟨0, by omega, rfl⟩
          case round =>
            obtain ⟨j, hj, rfl⟩ := hrel
            by_cases hjl : j < pw.length
            · obtain ⟨b, off, u, rfl, hD, hu, hc⟩ := q4.at_ hjl
              rw [nums_at pw j hjl] at hu
              injection hu with hu
              subst hu
              have hge := G8.out _ (List.getElem_mem hjl)
              generalize pw[j] = X at hc hge
              have dx : decide (X < 1) = false := by simp; omega
              go_wp2_with (fail)
              exact ⟨⟨j + 1, by omega, by go_num⟩, by simp [intOf]; omega⟩
            · go_wp2_with (fail)
              exact ⟨⟨1, by omega, by go_num⟩, by simp [intOf]⟩
        · go_wp2_with (fail)
          go_loop [10, 68, 69, 70, 71, 72, 73, 74] (fun _ v _ _ _ _ _ _ => ∃ j : Nat, j ≤ pl.length ∧ v = .int .i64 j) (fun _ v _ _ _ _ _ _ => pl.length - (intOf v).toNat)
          case atStart => exact ⟨0, by omega, rfl⟩
          case round =>
            obtain ⟨j, hj, rfl⟩ := hrel
            by_cases hjl : j < pl.length
            · obtain ⟨b, off, u, rfl, hD, hu, hc⟩ := q5.at_ hjl
              rw [nums_at pl j hjl] at hu
              injection hu with hu
              subst hu
              have hge := G9.out _ (List.getElem_mem hjl)
              generalize pl[j] = X at hc hge
              have dx : decide (X < 1) = false := by simp; omega
              go_wp2_with (fail)
              exact ⟨⟨j + 1, by omega, by go_num⟩, by simp [intOf]; omega⟩
            · go_wp2_with (fail)
              exact ⟨⟨2, by omega, by go_num⟩, by simp [intOf]⟩
        · go_wp2_with (fail)
          go_ret
          exact ⟨rfl, hbe2⟩
end Go.Proofs.Yteojmmjanjilaaa
set_option linter.unusedVariables false
namespace Go.Val
def sameL (f : V → V → Bool) : List V → List V → Bool
  | [], [] => true
  | x :: a, y :: b => f x y && sameL f a b
  | _, _ => false
def sameF : Nat → V → V → Bool
  | 0, _, _ => false
  | d + 1, .mk k n t a, .mk k' n' t' a' => decide (k = k') && decide (n = n') && decide (t = t') && sameL (sameF d) a a'
theorem sameL_iff {f : V → V → Bool} : ∀ (a b : List V), (∀ x ∈ a, ∀ y ∈ b, f x y = true ↔ x = y) → (sameL f a b = true ↔ a = b)
  | [], [], _ => by simp [sameL]
  | [], _ :: _, _ => by simp [sameL]
  | _ :: _, [], _ => by simp [sameL]
  | x :: a, y :: b, h => by
    have h1 := h x (by simp) y (by simp)
    have h2 := sameL_iff a b fun x hx y hy => h x (by simp [hx]) y (by simp [hy])
    simp only [sameL, Bool.and_eq_true, h1, h2, List.cons.injEq]
theorem sameF_iff : ∀ (d : Nat) (a b : V), okV d a → okV d b → (sameF d a b = true ↔ a = b)
  | 0, _, _, h, _ => h.elim
  | d + 1, .mk k n t a, .mk k' n' t' a', h, h' => by
    have h1 := sameL_iff (f := sameF d) a a' fun x hx y hy => sameF_iff d x y (h.2.2.2.2 x hx) (h'.2.2.2.2 y hy)
    simp only [sameF, Bool.and_eq_true, decide_eq_true_eq, h1, V.mk.injEq, and_assoc]
theorem sameL_len {f : V → V → Bool} : ∀ (a b : List V), a.length ≠ b.length → sameL f a b = false
  | [], [], h => absurd rfl h
  | [], _ :: _, _ => rfl
  | _ :: _, [], _ => rfl
  | x :: a, y :: b, h => by
    simp only [sameL, sameL_len a b (by simpa using h), Bool.and_false]
end Go.Val
namespace Go.Proofs.Yteojmmjanjilaaa
open Go.RowKit Go.Mem Go.Val

theorem str_eq (a b : ByteArray) : (a.toList == b.toList) = decide (a = b) := by
  rw [ByteArray.toList_eq, ByteArray.toList_eq, Bool.eq_iff_iff]
  simp only [beq_iff_eq, decide_eq_true_eq]
  exact ⟨fun h => Go.WideShapes.bytes_inj h, fun h => by rw [h]⟩

def SV (d : Nat) : Prop := ∀ (x y : V) (cs ds : List Value) (w : World), VCells d w Any cs x → VCells d w Any ds y →
  Calls Try.prog 40 #[.agg cs.toArray, .agg ds.toArray] w fun e w' => e = .returned (.bool (sameF d x y)) ∧ Below w.heap.size w w'

set_option maxRecDepth 100000 in
set_option maxHeartbeats 1000000 in
theorem eqf_any (d : Nat) (hsv : SV d) (A B : Option Addr) (n m c e : Nat) (l k : List V) (vss uss : List (List Value)) (w : World) (hn : n = l.length) (hm : m = k.length) (hn2 : n ≤ 4194304)
    (hr : Reads w Any 4 A n vss.flatten) (ha : All2 (VCells d w Any) vss l) (hr' : Reads w Any 4 B m uss.flatten) (ha' : All2 (VCells d w Any) uss k) :
    Calls Try.prog 39 #[.slice A n c, .slice B m e, .func (.func 40) #[] #[]] w fun e w' => e = .returned (.bool (sameL (sameF d) l k)) ∧ Below w.heap.size w w' := by
  have Hn := Lib.hid hn
  have Hm := Lib.hid hm
  have Hsv := Lib.hid hsv
  clear hn hm hsv
  by_cases hnm : n = m
  · subst hnm
    have d1 : ((n : Int) != (n : Int)) = false := by simp
    go_enter Try.func39, Try.ntmps39
    go_wp2_with (fail)
    go_loopw [17] (fun i wr => ∃ j : Nat, j ≤ n ∧ i = .int .i64 j ∧ Hid (sameL (sameF d) l k = sameL (sameF d) (l.drop j) (k.drop j)) ∧ Below w.heap.size w wr) (fun i _ => n - (intOf i).toNat)
    case atStart => exact ⟨0, Nat.zero_le _, rfl, by unfold Hid; simp, Below.refl _ _⟩
    case round =>
      obtain ⟨j, hj, rfl, hcur, hbe⟩ := hrel
      by_cases hlt : j < n
      · have hjl : j < l.length := by have := Hn.out; omega
        have hjk : j < k.length := by have := Hm.out; omega
        obtain ⟨b, off, cs, rfl, hD, hv, hcell⟩ := hr.elem (VCells.stable d) ha Hn.out hjl
        obtain ⟨b', off', cs', rfl, hD', hv', hcell'⟩ := hr'.elem (VCells.stable d) ha' Hm.out hjk
        have hsame : Same Any w wr := Same.any hbe
        have hv2 := hv.keep hsame
        have hv2' := hv'.keep hsame
        generalize hxx : l[j] = X at hv hv2
        generalize hyy : k[j] = Y at hv' hv2'
        have HX : Hid (l.drop j = X :: l.drop (j + 1)) := by unfold Hid; rw [List.drop_eq_getElem_cons hjl, hxx]
        have HY : Hid (k.drop j = Y :: k.drop (j + 1)) := by unfold Hid; rw [List.drop_eq_getElem_cons hjk, hyy]
        clear hxx hyy
        obtain ⟨xk, xn, xt, xa⟩ := X
        obtain ⟨yk, yn, yt, ya⟩ := Y
        obtain ⟨A4, c4, rfl⟩ := hv.form
        obtain ⟨B4, e4, rfl⟩ := hv'.form
        simp only [V.kind, V.num, V.text, V.args] at hcell hv hv2 hcell' hv' hv2'
        have g0 := hsame.cell hD (hcell 0 _ rfl)
        have g1 := hsame.cell hD (hcell 1 _ rfl)
        have g2 := hsame.cell hD (hcell 2 _ rfl)
        have g3 := hsame.cell hD (hcell 3 _ rfl)
        have p0 := hsame.cell hD' (hcell' 0 _ rfl)
        have p1 := hsame.cell hD' (hcell' 1 _ rfl)
        have p2 := hsame.cell hD' (hcell' 2 _ rfl)
        have p3 := hsame.cell hD' (hcell' 3 _ rfl)
        simp only [Nat.add_zero, ← Nat.add_assoc] at g0 g1 g2 g3 p0 p1 p2 p3
        have l4 := lt_of_cell g0
        have l5 := lt_of_cell p0
        clear hcell hcell'
        go_wp2_with (fail)
        refine (Hsv.out (V.mk xk xn xt xa) (V.mk yk yn yt ya) [.int .i64 xk, .int .i64 xn, .string xt, .slice A4 xa.length c4] [.int .i64 yk, .int .i64 yn, .string yt, .slice B4 ya.length e4] _ ((hv2.keep (Same.alloc _ _ _)).keep (Same.alloc _ _ _)) ((hv2'.keep (Same.alloc _ _ _)).keep (Same.alloc _ _ _))).mono ?_
        rintro e w2 ⟨rfl, hb2⟩
        have hstep : Hid (sameL (sameF d) l k = (sameF d (V.mk xk xn xt xa) (V.mk yk yn yt ya) && sameL (sameF d) (l.drop (j + 1)) (k.drop (j + 1)))) := by
          unfold Hid
          rw [hcur.out, HX.out, HY.out]
          rfl
        have hbe2 : Below w.heap.size w w2 := ((hbe.alloc hbe.size _).alloc (by have := hbe.size; simp; omega) _).trans (hb2.mono (by have := hbe.size; simp; omega))
        generalize sameF d (V.mk xk xn xt xa) (V.mk yk yn yt ya) = R at hstep ⊢
        clear hv hv2 g0 g1 g2 g3 hv' hv2' p0 p1 p2 p3 hcur HX HY
        cases R with
        | true =>
          go_wp2_with (fail)
          refine ⟨⟨j + 1, by omega, by go_num, ?_, hbe2⟩, by simp [intOf]; omega⟩
          unfold Hid
          rw [hstep.out]
          rfl
        | false =>
          go_wp2_with (fail)
          go_ret
          rw [hstep.out]
          exact ⟨rfl, hbe2⟩
      · go_wp2
        go_ret
        rw [hcur.out, List.drop_of_length_le (by have := Hn.out; omega), List.drop_of_length_le (by have := Hm.out; omega)]
        exact ⟨rfl, hbe⟩
  · have hf : Hid (sameL (sameF d) l k = false) := sameL_len l k (by have := Hn.out; have := Hm.out; omega)
    have d1 : ((n : Int) != (m : Int)) = true := by simp; omega
    go_enter Try.func39, Try.ntmps39
    go_wp2_with (fail)
    go_ret
    rw [hf.out]
    exact ⟨rfl, Below.refl _ _⟩

set_option maxRecDepth 100000 in
set_option maxHeartbeats 1000000 in
theorem same_any : ∀ d, SV d
  | 0 => fun x y cs ds w h _ => h.elim
  | d + 1 => by
    intro x y cs ds w hv hv'
    have ih := same_any d
    have IH := Lib.hid ih
    clear ih
    obtain ⟨xk, xn, xt, xa⟩ := x
    obtain ⟨yk, yn, yt, ya⟩ := y
    obtain ⟨A, c, vss, rfl, hk, hn, ht, hal, hac, hcm, hr, ha⟩ := hv
    obtain ⟨B, e, uss, rfl, hk', hn', ht', hal', hac', hcm', hr', ha'⟩ := hv'
    have hbel : Below w.heap.size w ((w.alloc (.cells #[.int .i64 xk, .int .i64 xn, .string xt, .slice A xa.length c] 53)).alloc (.cells #[.int .i64 yk, .int .i64 yn, .string yt, .slice B ya.length e] 53)) := ((Below.refl _ _).alloc (Nat.le_refl _) _).alloc (by simp) _
    have HB := Lib.hid hbel
    clear hbel
    by_cases e1 : xk = yk
    · subst e1
      by_cases e2 : xn = yn
      · subst e2
        by_cases e3 : xt = yt
        · subst e3
          have hf : Hid (sameF (d + 1) (V.mk xk xn xt xa) (V.mk xk xn xt ya) = sameL (sameF d) xa ya) := by unfold Hid sameF; simp
          have q3 : (xt.toList == xt.toList) = true := by rw [str_eq]; simp
          go_enter Try.func40, Try.ntmps40
          go_wp2_with (fail)
          have hb := HB.out
          generalize ((w.alloc (.cells #[.int .i64 xk, .int .i64 xn, .string xt, .slice A xa.length c] 53)).alloc (.cells #[.int .i64 xk, .int .i64 xn, .string xt, .slice B ya.length e] 53)) = W at hb ⊢
          refine (eqf_any d IH.out A B xa.length ya.length c e xa ya vss uss W rfl rfl hal (hr.keep (Same.any hb)) (ha.imp fun _ _ h => h.keep (Same.any hb)) (hr'.keep (Same.any hb)) (ha'.imp fun _ _ h => h.keep (Same.any hb))).mono ?_
          rintro e1 w1 ⟨rfl, hb1⟩
          have hw1 : Below w.heap.size w w1 := hb.trans (hb1.mono hb.size)
          rw [← hf.out]
          generalize hR : sameF (d + 1) (V.mk xk xn xt xa) (V.mk xk xn xt ya) = R
          have HR := Lib.hid hR
          clear hR
          go_wp2_with (fail)
          go_ret
          rw [HR.out]
          exact ⟨by simp, hw1⟩
        · have hf : Hid (sameF (d + 1) (V.mk xk xn xt xa) (V.mk xk xn yt ya) = false) := by unfold Hid sameF; simp [e3]
          have q3 : (xt.toList == yt.toList) = false := by rw [str_eq]; simp [e3]
          go_enter Try.func40, Try.ntmps40
          go_wp2_with (fail)
          go_ret
          rw [hf.out]
          exact ⟨rfl, HB.out⟩
      · have hf : Hid (sameF (d + 1) (V.mk xk xn xt xa) (V.mk xk yn yt ya) = false) := by unfold Hid sameF; simp [e2]
        have q2 : (xn == yn) = false := by simpa using e2
        clear e2
        go_enter Try.func40, Try.ntmps40
        go_wp2_with (fail)
        go_ret
        rw [hf.out]
        exact ⟨rfl, HB.out⟩
    · have hf : Hid (sameF (d + 1) (V.mk xk xn xt xa) (V.mk yk yn yt ya) = false) := by unfold Hid sameF; simp [e1]
      have q1 : (xk == yk) = false := by simpa using e1
      clear e1
      go_enter Try.func40, Try.ntmps40
      go_wp2_with (fail)
      go_ret
      rw [hf.out]
      exact ⟨rfl, HB.out⟩
end Go.Proofs.Yteojmmjanjilaaa
