/- sameLetter, sameParcel and slices.EqualFunc: of things that read alike they tell true. (Printed by maileq.py.) -/
import Derived.Test.YteojmmjanjilaaaPart19
import Derived.Test.YteojmmjanjilaaaPart14
import Derived.Test.YteojmmjanjilaaaPart24
import Derived.Deep.QuietTactic
import Derived.BigQuiet
set_option linter.unusedVariables false
namespace Go.Proofs.Yteojmmjanjilaaa
open Go.RowKit Go.Mem Go.Val
set_option maxRecDepth 100000 in
set_option maxHeartbeats 400000 in
theorem equal_ints (A B : Option Addr) (n c m d : Nat) (l k : List Int) (D E : Nat → Prop) (w : World) (hr : Reads w D 1 A n (nums l)) (hs : Reads w E 1 B m (nums k)) (hn : n ≤ 1099511627776) (hm : m ≤ 1099511627776) :
    Calls Try.prog 43 #[.slice A n c, .slice B m d] w fun e w' => e = .returned (.bool (decide (l = k))) ∧ Below w.heap.size w w' := by
  have hnl : n = l.length := by have := hr.len; rwa [nums_length] at this
  have hml : m = k.length := by have := hs.len; rwa [nums_length] at this
  have Hnl := Lib.hid hnl
  have Hml := Lib.hid hml
  clear hnl hml
  by_cases hnm : n = m
  · subst hnm
    go_enter Try.func43, Try.ntmps43
    go_wp2_with (fail)
    go_loopw [13] (fun v wr => ∃ j : Nat, j ≤ n ∧ v = .int .i64 j ∧ Hid (l.take j = k.take j) ∧ Below w.heap.size w wr) (fun v _ => n - (intOf v).toNat)
    case atStart => exact ⟨0, Nat.zero_le _, rfl, rfl, Below.refl _ _⟩
    case round =>
      obtain ⟨j, hj, rfl, hsame, hb⟩ := hrel
      by_cases hlt : j < n
      · obtain ⟨b1, o1, u1, rfl, _, hu1, hc1⟩ := hr.at_ hlt
        obtain ⟨b2, o2, u2, rfl, _, hu2, hc2⟩ := hs.at_ hlt
        have hl : j < l.length := by have := Hnl.out; omega
        have hk : j < k.length := by have := Hml.out; omega
        rw [nums_at l j hl] at hu1
        rw [nums_at k j hk] at hu2
        injection hu1 with hu1
        injection hu2 with hu2
        subst hu1 hu2
        have g1 := (Same.any (D := Any) hb).cell trivial hc1
        have g2 := (Same.any (D := Any) hb).cell trivial hc2
        by_cases hxy : l[j] = k[j]
        · have hs' : Hid (l.take (j + 1) = k.take (j + 1)) := by
            unfold Hid
            rw [List.take_succ_eq_append_getElem hl, List.take_succ_eq_append_getElem hk, hsame.out, hxy]
          rw [hxy] at g1
          generalize k[j] = y at g1 g2
          have h1 : (y != y) = false := by simp
          clear hxy hsame hr hs hc1 hc2
          go_wp2_with (fail)
          go_quiet (fail)
          go_wp2_with (fail)
          exact ⟨⟨j + 1, by omega, by go_num, hs', ⟨hb.os, hb.tape, hb.output, hb.size, hb.block⟩⟩, by simp [intOf]; omega⟩
        · have hne : ¬ l = k := fun h => hxy (by subst h; rfl)
          generalize l[j] = x at g1 hxy
          generalize k[j] = y at g2 hxy
          have h1 : (x != y) = true := by simpa using hxy
          have Hne := Lib.hid hne
          clear hxy hsame hr hs hc1 hc2 hne
          go_wp2_with (fail)
          go_quiet (fail)
          go_wp2_with (fail)
          go_ret
          exact ⟨by simp [Hne.out], ⟨hb.os, hb.tape, hb.output, hb.size, hb.block⟩⟩
      · have heq : l = k := by
          have h1 := hsame.out
          rwa [List.take_of_length_le (by have := Hnl.out; omega), List.take_of_length_le (by have := Hml.out; omega)] at h1
        have Heq := Lib.hid heq
        clear heq hsame hr hs
        go_wp2_with (fail)
        go_ret
        exact ⟨by simp [Heq.out], hb⟩
  · have hne : ¬ l = k := fun h => hnm (by rw [Hnl.out, Hml.out, h])
    have h1 : ((n : Int) != (m : Int)) = true := by simp; omega
    have Hne := Lib.hid hne
    clear hne hr hs
    go_enter Try.func43, Try.ntmps43
    go_wp2_with (fail)
    go_ret
    exact ⟨by simp [Hne.out], Below.refl _ _⟩

theorem sameV_eq (X : V) (cs ds : List Value) (w : World) (hv : VCells 41 w Any cs X) (hv' : VCells 41 w Any ds X) :
    Calls Try.prog 40 #[.agg cs.toArray, .agg ds.toArray] w fun e w' => e = .returned (.bool true) ∧ Below w.heap.size w w' := by
  have h : sameF 41 X X = true := (sameF_iff 41 X X hv.ok hv.ok).2 rfl
  refine (same_any 41 X X cs ds w hv hv').mono ?_
  rintro e w' ⟨rfl, hb⟩
  exact ⟨by rw [h], hb⟩

set_option maxRecDepth 100000 in
set_option maxHeartbeats 1000000 in
theorem sameI_eq (X : In) (cs ds : List Value) (w : World) (hv : InCells 41 w Any cs X) (hv' : InCells 41 w Any ds X) :
    Calls Try.prog 42 #[.agg cs.toArray, .agg ds.toArray] w fun e w' => e = .returned (.bool true) ∧ Below w.heap.size w w' := by
  obtain ⟨ik, ⟨vk, vn, vt, va⟩⟩ := X
  obtain ⟨vs, rfl, _, hz⟩ := id hv
  obtain ⟨vs', rfl, _, hz'⟩ := id hv'
  obtain ⟨A4, c4, rfl⟩ := hz.form
  obtain ⟨B4, e4, rfl⟩ := hz'.form
  simp only [V.kind, V.num, V.text, V.args] at hv hv' ⊢
  clear hz hz'
  obtain ⟨W, hW⟩ : ∃ W, W = (w.alloc (.cells [.int .i64 ik, .int .i64 vk, .int .i64 vn, .string vt, .slice A4 va.length c4].toArray 83)).alloc (.cells [.int .i64 ik, .int .i64 vk, .int .i64 vn, .string vt, .slice B4 va.length e4].toArray 83) := ⟨_, rfl⟩
  obtain ⟨hb1, hb2, hbW, hsW⟩ := blks2 _ _ _ _ _ W hW
  obtain ⟨vs, e1, _, hz⟩ := (InCells.stable 41).keep hv (Same.any hbW)
  obtain ⟨vs', e2, _, hz'⟩ := (InCells.stable 41).keep hv' (Same.any hbW)
  simp only [List.cons.injEq] at e1 e2
  obtain rfl := e1.2.symm
  obtain rfl := e2.2.symm
  have SV := Lib.hid (sameV_eq (V.mk vk vn vt va) _ _ W hz hz')
  have m0 := hb1.cell 0
  have m1 := hb1.cell 1
  have m2 := hb1.cell 2
  have m3 := hb1.cell 3
  have m4 := hb1.cell 4
  simp only [List.getElem?_cons_succ, List.getElem?_cons_zero] at m0 m1 m2 m3 m4
  have p0 := hb2.cell 0
  have p1 := hb2.cell 1
  have p2 := hb2.cell 2
  have p3 := hb2.cell 3
  have p4 := hb2.cell 4
  simp only [List.getElem?_cons_succ, List.getElem?_cons_zero] at p0 p1 p2 p3 p4
  have lw := hb2.lt
  have HW := Lib.hid hW
  clear hW hsW hz hz' hv hv' e1 e2 hb1 hb2
  go_enter Try.func42, Try.ntmps42
  go_upto_region 1 with (fail)
  simp only [List.toArray] at HW
  rw [← HW.out]
  clear HW
  go_wp2_with (fail)
  refine SV.out.mono ?_
  rintro e w2 ⟨rfl, hb3⟩
  go_wp2_with (fail)
  go_ret
  exact ⟨rfl, hbW.trans (hb3.mono hbW.size)⟩

set_option maxRecDepth 100000 in
set_option maxHeartbeats 1000000 in
theorem sameL_eq (X : L) (cs ds : List Value) (w : World) (hv : LCells 41 w Any cs X) (hv' : LCells 41 w Any ds X) :
    Calls Try.prog 25 #[.agg cs.toArray, .agg ds.toArray] w fun e w' => e = .returned (.bool true) ∧ Below w.heap.size w w' := by
  obtain ⟨lk, lf, lt, ln, ls, ⟨vk, vn, vt, va⟩⟩ := X
  obtain ⟨vs, rfl, _, hz⟩ := id hv
  obtain ⟨vs', rfl, _, hz'⟩ := id hv'
  obtain ⟨A4, c4, rfl⟩ := hz.form
  obtain ⟨B4, e4, rfl⟩ := hz'.form
  simp only [V.kind, V.num, V.text, V.args] at hv hv' ⊢
  clear hz hz'
  obtain ⟨W, hW⟩ : ∃ W, W = (w.alloc (.cells [.int .i64 lk, .int .i64 lf, .int .i64 lt, .int .i64 ln, .string ls, .int .i64 vk, .int .i64 vn, .string vt, .slice A4 va.length c4].toArray 55)).alloc (.cells [.int .i64 lk, .int .i64 lf, .int .i64 lt, .int .i64 ln, .string ls, .int .i64 vk, .int .i64 vn, .string vt, .slice B4 va.length e4].toArray 55) := ⟨_, rfl⟩
  obtain ⟨hb1, hb2, hbW, hsW⟩ := blks2 _ _ _ _ _ W hW
  obtain ⟨vs, e1, _, hz⟩ := (LCells.stable 41).keep hv (Same.any hbW)
  obtain ⟨vs', e2, _, hz'⟩ := (LCells.stable 41).keep hv' (Same.any hbW)
  simp only [List.cons.injEq] at e1 e2
  obtain rfl := e1.2.2.2.2.2.symm
  obtain rfl := e2.2.2.2.2.2.symm
  have SV := Lib.hid (sameV_eq (V.mk vk vn vt va) _ _ W hz hz')
  have m0 := hb1.cell 0
  have m1 := hb1.cell 1
  have m2 := hb1.cell 2
  have m3 := hb1.cell 3
  have m4 := hb1.cell 4
  have m5 := hb1.cell 5
  have m6 := hb1.cell 6
  have m7 := hb1.cell 7
  have m8 := hb1.cell 8
  simp only [List.getElem?_cons_succ, List.getElem?_cons_zero] at m0 m1 m2 m3 m4 m5 m6 m7 m8
  have p0 := hb2.cell 0
  have p1 := hb2.cell 1
  have p2 := hb2.cell 2
  have p3 := hb2.cell 3
  have p4 := hb2.cell 4
  have p5 := hb2.cell 5
  have p6 := hb2.cell 6
  have p7 := hb2.cell 7
  have p8 := hb2.cell 8
  simp only [List.getElem?_cons_succ, List.getElem?_cons_zero] at p0 p1 p2 p3 p4 p5 p6 p7 p8
  have lw := hb2.lt
  have HW := Lib.hid hW
  clear hW hsW hz hz' hv hv' e1 e2 hb1 hb2
  go_enter Try.func25, Try.ntmps25
  go_upto_region 1 with (fail)
  simp only [List.toArray] at HW
  rw [← HW.out]
  clear HW
  go_wp2_with (fail)
  refine SV.out.mono ?_
  rintro e w2 ⟨rfl, hb3⟩
  go_wp2_with (fail)
  go_ret
  exact ⟨rfl, hbW.trans (hb3.mono hbW.size)⟩

set_option maxRecDepth 100000 in
set_option maxHeartbeats 1000000 in
theorem eqfV_eq (A B : Option Addr) (n m c e : Nat) (l : List V) (vss uss : List (List Value)) (w : World) (hn : n = l.length) (hm : m = l.length) (hn2 : n ≤ 4194304)
    (hr : Reads w Any 4 A n vss.flatten) (ha : All2 (VCells 41 w Any) vss l) (hr' : Reads w Any 4 B m uss.flatten) (ha' : All2 (VCells 41 w Any) uss l) :
    Calls Try.prog 39 #[.slice A n c, .slice B m e, .func (.func 40) #[] #[]] w fun e w' => e = .returned (.bool true) ∧ Below w.heap.size w w' := by
  obtain rfl : n = m := by omega
  have Hn := Lib.hid hn
  have Hm := Lib.hid hm
  clear hn hm
  have d1 : ((n : Int) != (n : Int)) = false := by simp
  go_enter Try.func39, Try.ntmps39
  go_wp2_with (fail)
  go_loopw [17] (fun i wr => ∃ j : Nat, j ≤ n ∧ i = .int .i64 j ∧ Below w.heap.size w wr) (fun i _ => n - (intOf i).toNat)
  case atStart => exact ⟨0, Nat.zero_le _, rfl, Below.refl _ _⟩
  case round =>
    obtain ⟨j, hj, rfl, hbe⟩ := hrel
    by_cases hlt : j < n
    · have hjl : j < l.length := by have := Hn.out; omega
      obtain ⟨b, off, cs, rfl, hD, hv, hcell⟩ := hr.elem (VCells.stable 41) ha Hn.out hjl
      obtain ⟨b', off', cs', rfl, hD', hv', hcell'⟩ := hr'.elem (VCells.stable 41) ha' Hm.out hjl
      have hsame : Same Any w wr := Same.any hbe
      have hv2 := (VCells.stable 41).keep hv hsame
      have hv2' := (VCells.stable 41).keep hv' hsame
      generalize l[j] = X at hv hv2 hv' hv2'
      obtain ⟨vk, vn, vt, va⟩ := X
      obtain ⟨A4, c4, rfl⟩ := hv.form
      obtain ⟨B4, e4, rfl⟩ := hv'.form
      simp only [V.kind, V.num, V.text, V.args] at hcell hv hv2 hcell' hv' hv2'
      have g0 := hsame.cell hD (hcell 0 _ rfl)
      have g1 := hsame.cell hD (hcell 1 _ rfl)
      have g2 := hsame.cell hD (hcell 2 _ rfl)
      have g3 := hsame.cell hD (hcell 3 _ rfl)
      have p0 := hsame.cell hD' (hcell' 0 _ rfl)
      have p1 := hsame.cell hD' (hcell' 1 _ rfl)
      have p2 := hsame.cell hD' (hcell' 2 _ rfl)
      have p3 := hsame.cell hD' (hcell' 3 _ rfl)
      simp only [Nat.add_zero, ← Nat.add_assoc] at g0 p0 g1 p1 g2 p2 g3 p3
      have l4 := lt_of_cell g0
      have l5 := lt_of_cell p0
      have EQ := Lib.hid (fun (o1 o2 : Obj) => sameV_eq (V.mk vk vn vt va) [.int .i64 vk, .int .i64 vn, .string vt, .slice A4 va.length c4] [.int .i64 vk, .int .i64 vn, .string vt, .slice B4 va.length e4] ((wr.alloc o1).alloc o2) ((VCells.stable 41).keep ((VCells.stable 41).keep hv2 (Same.alloc _ _ _)) (Same.alloc _ _ _)) ((VCells.stable 41).keep ((VCells.stable 41).keep hv2' (Same.alloc _ _ _)) (Same.alloc _ _ _)))
      clear hcell hcell' hv hv' hv2 hv2' hsame
      go_wp2_with (fail)
      refine (EQ.out _ _).mono ?_
      rintro e w2 ⟨rfl, hb2⟩
      have hbe2 : Below w.heap.size w w2 := ((hbe.alloc hbe.size _).alloc (by have := hbe.size; simp; omega) _).trans (hb2.mono (by have := hbe.size; simp; omega))
      clear EQ
      go_wp2_with (fail)
      exact ⟨⟨j + 1, by omega, by go_num, hbe2⟩, by simp [intOf]; omega⟩
    · go_wp2
      go_ret
      exact ⟨rfl, hbe⟩

set_option maxRecDepth 100000 in
set_option maxHeartbeats 1000000 in
theorem eqfI_eq (A B : Option Addr) (n m c e : Nat) (l : List In) (vss uss : List (List Value)) (w : World) (hn : n = l.length) (hm : m = l.length) (hn2 : n ≤ 4194304)
    (hr : Reads w Any 5 A n vss.flatten) (ha : All2 (InCells 41 w Any) vss l) (hr' : Reads w Any 5 B m uss.flatten) (ha' : All2 (InCells 41 w Any) uss l) :
    Calls Try.prog 41 #[.slice A n c, .slice B m e, .func (.func 42) #[] #[]] w fun e w' => e = .returned (.bool true) ∧ Below w.heap.size w w' := by
  obtain rfl : n = m := by omega
  have Hn := Lib.hid hn
  have Hm := Lib.hid hm
  clear hn hm
  have d1 : ((n : Int) != (n : Int)) = false := by simp
  go_enter Try.func41, Try.ntmps41
  go_wp2_with (fail)
  go_loopw [17] (fun i wr => ∃ j : Nat, j ≤ n ∧ i = .int .i64 j ∧ Below w.heap.size w wr) (fun i _ => n - (intOf i).toNat)
  case atStart => exact ⟨0, Nat.zero_le _, rfl, Below.refl _ _⟩
  case round =>
    obtain ⟨j, hj, rfl, hbe⟩ := hrel
    by_cases hlt : j < n
    · have hjl : j < l.length := by have := Hn.out; omega
      obtain ⟨b, off, cs, rfl, hD, hv, hcell⟩ := hr.elem (InCells.stable 41) ha Hn.out hjl
      obtain ⟨b', off', cs', rfl, hD', hv', hcell'⟩ := hr'.elem (InCells.stable 41) ha' Hm.out hjl
      have hsame : Same Any w wr := Same.any hbe
      have hv2 := (InCells.stable 41).keep hv hsame
      have hv2' := (InCells.stable 41).keep hv' hsame
      generalize l[j] = X at hv hv2 hv' hv2'
      obtain ⟨ik, ⟨vk, vn, vt, va⟩⟩ := X
      obtain ⟨vs, rfl, _, hz⟩ := id hv
      obtain ⟨vs', rfl, _, hz'⟩ := id hv'
      obtain ⟨A4, c4, rfl⟩ := hz.form
      obtain ⟨B4, e4, rfl⟩ := hz'.form
      simp only [V.kind, V.num, V.text, V.args] at hcell hv hv2 hcell' hv' hv2'
      clear hz hz'
      have g0 := hsame.cell hD (hcell 0 _ rfl)
      have g1 := hsame.cell hD (hcell 1 _ rfl)
      have g2 := hsame.cell hD (hcell 2 _ rfl)
      have g3 := hsame.cell hD (hcell 3 _ rfl)
      have g4 := hsame.cell hD (hcell 4 _ rfl)
      have p0 := hsame.cell hD' (hcell' 0 _ rfl)
      have p1 := hsame.cell hD' (hcell' 1 _ rfl)
      have p2 := hsame.cell hD' (hcell' 2 _ rfl)
      have p3 := hsame.cell hD' (hcell' 3 _ rfl)
      have p4 := hsame.cell hD' (hcell' 4 _ rfl)
      simp only [Nat.add_zero, ← Nat.add_assoc] at g0 p0 g1 p1 g2 p2 g3 p3 g4 p4
      have l4 := lt_of_cell g0
      have l5 := lt_of_cell p0
      have EQ := Lib.hid (fun (o1 o2 : Obj) => sameI_eq ⟨ik, V.mk vk vn vt va⟩ [.int .i64 ik, .int .i64 vk, .int .i64 vn, .string vt, .slice A4 va.length c4] [.int .i64 ik, .int .i64 vk, .int .i64 vn, .string vt, .slice B4 va.length e4] ((wr.alloc o1).alloc o2) ((InCells.stable 41).keep ((InCells.stable 41).keep hv2 (Same.alloc _ _ _)) (Same.alloc _ _ _)) ((InCells.stable 41).keep ((InCells.stable 41).keep hv2' (Same.alloc _ _ _)) (Same.alloc _ _ _)))
      clear hcell hcell' hv hv' hv2 hv2' hsame
      go_wp2_with (fail)
      refine (EQ.out _ _).mono ?_
      rintro e w2 ⟨rfl, hb2⟩
      have hbe2 : Below w.heap.size w w2 := ((hbe.alloc hbe.size _).alloc (by have := hbe.size; simp; omega) _).trans (hb2.mono (by have := hbe.size; simp; omega))
      clear EQ
      go_wp2_with (fail)
      exact ⟨⟨j + 1, by omega, by go_num, hbe2⟩, by simp [intOf]; omega⟩
    · go_wp2
      go_ret
      exact ⟨rfl, hbe⟩

set_option maxRecDepth 100000 in
set_option maxHeartbeats 1000000 in
theorem eqfL_eq (A B : Option Addr) (n m c e : Nat) (l : List L) (vss uss : List (List Value)) (w : World) (hn : n = l.length) (hm : m = l.length) (hn2 : n ≤ 4194304)
    (hr : Reads w Any 9 A n vss.flatten) (ha : All2 (LCells 41 w Any) vss l) (hr' : Reads w Any 9 B m uss.flatten) (ha' : All2 (LCells 41 w Any) uss l) :
    Calls Try.prog 24 #[.slice A n c, .slice B m e, .func (.func 25) #[] #[]] w fun e w' => e = .returned (.bool true) ∧ Below w.heap.size w w' := by
  obtain rfl : n = m := by omega
  have Hn := Lib.hid hn
  have Hm := Lib.hid hm
  clear hn hm
  have d1 : ((n : Int) != (n : Int)) = false := by simp
  go_enter Try.func24, Try.ntmps24
  go_wp2_with (fail)
  go_loopw [17] (fun i wr => ∃ j : Nat, j ≤ n ∧ i = .int .i64 j ∧ Below w.heap.size w wr) (fun i _ => n - (intOf i).toNat)
  case atStart => exact ⟨0, Nat.zero_le _, rfl, Below.refl _ _⟩
  case round =>
    obtain ⟨j, hj, rfl, hbe⟩ := hrel
    by_cases hlt : j < n
    · have hjl : j < l.length := by have := Hn.out; omega
      obtain ⟨b, off, cs, rfl, hD, hv, hcell⟩ := hr.elem (LCells.stable 41) ha Hn.out hjl
      obtain ⟨b', off', cs', rfl, hD', hv', hcell'⟩ := hr'.elem (LCells.stable 41) ha' Hm.out hjl
      have hsame : Same Any w wr := Same.any hbe
      have hv2 := (LCells.stable 41).keep hv hsame
      have hv2' := (LCells.stable 41).keep hv' hsame
      generalize l[j] = X at hv hv2 hv' hv2'
      obtain ⟨lk, lf, lt, ln, ls, ⟨vk, vn, vt, va⟩⟩ := X
      obtain ⟨vs, rfl, _, hz⟩ := id hv
      obtain ⟨vs', rfl, _, hz'⟩ := id hv'
      obtain ⟨A4, c4, rfl⟩ := hz.form
      obtain ⟨B4, e4, rfl⟩ := hz'.form
      simp only [V.kind, V.num, V.text, V.args] at hcell hv hv2 hcell' hv' hv2'
      clear hz hz'
      have g0 := hsame.cell hD (hcell 0 _ rfl)
      have g1 := hsame.cell hD (hcell 1 _ rfl)
      have g2 := hsame.cell hD (hcell 2 _ rfl)
      have g3 := hsame.cell hD (hcell 3 _ rfl)
      have g4 := hsame.cell hD (hcell 4 _ rfl)
      have g5 := hsame.cell hD (hcell 5 _ rfl)
      have g6 := hsame.cell hD (hcell 6 _ rfl)
      have g7 := hsame.cell hD (hcell 7 _ rfl)
      have g8 := hsame.cell hD (hcell 8 _ rfl)
      have p0 := hsame.cell hD' (hcell' 0 _ rfl)
      have p1 := hsame.cell hD' (hcell' 1 _ rfl)
      have p2 := hsame.cell hD' (hcell' 2 _ rfl)
      have p3 := hsame.cell hD' (hcell' 3 _ rfl)
      have p4 := hsame.cell hD' (hcell' 4 _ rfl)
      have p5 := hsame.cell hD' (hcell' 5 _ rfl)
      have p6 := hsame.cell hD' (hcell' 6 _ rfl)
      have p7 := hsame.cell hD' (hcell' 7 _ rfl)
      have p8 := hsame.cell hD' (hcell' 8 _ rfl)
      simp only [Nat.add_zero, ← Nat.add_assoc] at g0 p0 g1 p1 g2 p2 g3 p3 g4 p4 g5 p5 g6 p6 g7 p7 g8 p8
      have l4 := lt_of_cell g0
      have l5 := lt_of_cell p0
      have EQ := Lib.hid (fun (o1 o2 : Obj) => sameL_eq ⟨lk, lf, lt, ln, ls, V.mk vk vn vt va⟩ [.int .i64 lk, .int .i64 lf, .int .i64 lt, .int .i64 ln, .string ls, .int .i64 vk, .int .i64 vn, .string vt, .slice A4 va.length c4] [.int .i64 lk, .int .i64 lf, .int .i64 lt, .int .i64 ln, .string ls, .int .i64 vk, .int .i64 vn, .string vt, .slice B4 va.length e4] ((wr.alloc o1).alloc o2) ((LCells.stable 41).keep ((LCells.stable 41).keep hv2 (Same.alloc _ _ _)) (Same.alloc _ _ _)) ((LCells.stable 41).keep ((LCells.stable 41).keep hv2' (Same.alloc _ _ _)) (Same.alloc _ _ _)))
      clear hcell hcell' hv hv' hv2 hv2' hsame
      go_wp2_with (fail)
      refine (EQ.out _ _).mono ?_
      rintro e w2 ⟨rfl, hb2⟩
      have hbe2 : Below w.heap.size w w2 := ((hbe.alloc hbe.size _).alloc (by have := hbe.size; simp; omega) _).trans (hb2.mono (by have := hbe.size; simp; omega))
      clear EQ
      go_wp2_with (fail)
      exact ⟨⟨j + 1, by omega, by go_num, hbe2⟩, by simp [intOf]; omega⟩
    · go_wp2
      go_ret
      exact ⟨rfl, hbe⟩

set_option maxRecDepth 100000 in
set_option maxHeartbeats 2000000 in
theorem sameP_eq (X : Pc) (cs ds : List Value) (w : World) (hv : PcCells 41 w Any cs X) (hv' : PcCells 41 w Any ds X) :
    Calls Try.prog 21 #[.agg cs.toArray, .agg ds.toArray] w fun e w' => e = .returned (.bool true) ∧ Below w.heap.size w w' := by
  obtain ⟨pr, ⟨sa, ss, si⟩, pb, pt, pw, pl⟩ := X
  obtain ⟨sv, A3, A3c, vs3, A4, A4c, A5, A5c, rfl, _, _, hsv, ⟨g3, _⟩, ⟨g4, _⟩, ⟨g5, _⟩, r3, a3, r4, r5⟩ := hv
  obtain ⟨sv', B3, B3c, us3, B4, B4c, B5, B5c, rfl, _, _, hsv', _, _, _, s3, b3, s4, s5⟩ := hv'
  obtain ⟨A1, A1c, vs1, A2, A2c, vs2, rfl, _, ⟨g1, _⟩, ⟨g2, _⟩, r1, a1, r2, a2⟩ := hsv
  obtain ⟨B1, B1c, us1, B2, B2c, us2, rfl, _, _, _, s1, b1, s2, b2⟩ := hsv'
  simp only [List.cons_append, List.nil_append] at g1 g2 g3 g4 g5 r1 r2 r3 r4 r5 a1 a2 a3 s1 s2 s3 s4 s5 b1 b2 b3 ⊢
  obtain ⟨W, hW⟩ : ∃ W, W = (w.alloc (.cells [.int .i64 pr, .string sa, .slice A1 ss.length A1c, .slice A2 si.length A2c, .slice A3 pb.length A3c, .int .i64 pt, .slice A4 pw.length A4c, .slice A5 pl.length A5c].toArray 48)).alloc (.cells [.int .i64 pr, .string sa, .slice B1 ss.length B1c, .slice B2 si.length B2c, .slice B3 pb.length B3c, .int .i64 pt, .slice B4 pw.length B4c, .slice B5 pl.length B5c].toArray 48) := ⟨_, rfl⟩
  obtain ⟨x0, y0, hb0, hsW⟩ := blks2 _ _ _ _ _ W hW
  have HW := Lib.hid hW
  clear hW hsW
  have m := fun j => x0.cell j
  have p := fun j => y0.cell j
  have m0 := x0.cell 0
  have p0 := y0.cell 0
  have m1 := x0.cell 1
  have p1 := y0.cell 1
  have m2 := x0.cell 2
  have p2 := y0.cell 2
  have m3 := x0.cell 3
  have p3 := y0.cell 3
  have m4 := x0.cell 4
  have p4 := y0.cell 4
  have m5 := x0.cell 5
  have p5 := y0.cell 5
  have m6 := x0.cell 6
  have p6 := y0.cell 6
  have m7 := x0.cell 7
  have p7 := y0.cell 7
  simp only [List.getElem?_cons_succ, List.getElem?_cons_zero] at m0 p0 m1 p1 m2 p2 m3 p3 m4 p4 m5 p5 m6 p6 m7 p7
  have lw := y0.lt
  clear m p
  go_enter Try.func21, Try.ntmps21
  go_upto_region 1 with (fail)
  simp only [List.toArray] at HW
  rw [← HW.out]
  clear HW
  go_wp2_with (fail)
  clear m0 p0 m1 p1 m2 p2 m3 p3 m4 p4 m5 p5 m6 p6 m7 p7 lw
  refine (eqfV_eq A1 B1 _ _ _ _ ss vs1 us1 W rfl rfl g1 (r1.keep (Same.any hb0)) (a1.imp fun _ _ h => h.keep (Same.any hb0)) (s1.keep (Same.any hb0)) (b1.imp fun _ _ h => h.keep (Same.any hb0))).mono ?_
  rintro e z1 ⟨rfl, hq1⟩
  have hb1 := hb0.trans (hq1.mono hb0.size)
  have x1 := x0.below hq1 x0.lt
  have y1 := y0.below hq1 y0.lt
  clear hq1
  have m := fun j => x1.cell j
  have p := fun j => y1.cell j
  have m0 := x1.cell 0
  have p0 := y1.cell 0
  have m1 := x1.cell 1
  have p1 := y1.cell 1
  have m2 := x1.cell 2
  have p2 := y1.cell 2
  have m3 := x1.cell 3
  have p3 := y1.cell 3
  have m4 := x1.cell 4
  have p4 := y1.cell 4
  have m5 := x1.cell 5
  have p5 := y1.cell 5
  have m6 := x1.cell 6
  have p6 := y1.cell 6
  have m7 := x1.cell 7
  have p7 := y1.cell 7
  simp only [List.getElem?_cons_succ, List.getElem?_cons_zero] at m0 p0 m1 p1 m2 p2 m3 p3 m4 p4 m5 p5 m6 p6 m7 p7
  have lw := y1.lt
  clear m p
  go_wp2_with (fail)
  clear m0 p0 m1 p1 m2 p2 m3 p3 m4 p4 m5 p5 m6 p6 m7 p7 lw
  refine (eqfI_eq A2 B2 _ _ _ _ si vs2 us2 z1 rfl rfl g2 (r2.keep (Same.any hb1)) (a2.imp fun _ _ h => (InCells.stable 41).keep h (Same.any hb1)) (s2.keep (Same.any hb1)) (b2.imp fun _ _ h => (InCells.stable 41).keep h (Same.any hb1))).mono ?_
  rintro e z2 ⟨rfl, hq2⟩
  have hb2 := hb1.trans (hq2.mono hb1.size)
  have x2 := x1.below hq2 x1.lt
  have y2 := y1.below hq2 y1.lt
  clear hq2
  have m := fun j => x2.cell j
  have p := fun j => y2.cell j
  have m0 := x2.cell 0
  have p0 := y2.cell 0
  have m1 := x2.cell 1
  have p1 := y2.cell 1
  have m2 := x2.cell 2
  have p2 := y2.cell 2
  have m3 := x2.cell 3
  have p3 := y2.cell 3
  have m4 := x2.cell 4
  have p4 := y2.cell 4
  have m5 := x2.cell 5
  have p5 := y2.cell 5
  have m6 := x2.cell 6
  have p6 := y2.cell 6
  have m7 := x2.cell 7
  have p7 := y2.cell 7
  simp only [List.getElem?_cons_succ, List.getElem?_cons_zero] at m0 p0 m1 p1 m2 p2 m3 p3 m4 p4 m5 p5 m6 p6 m7 p7
  have lw := y2.lt
  clear m p
  go_wp2_with (fail)
  clear m0 p0 m1 p1 m2 p2 m3 p3 m4 p4 m5 p5 m6 p6 m7 p7 lw
  refine (eqfL_eq A3 B3 _ _ _ _ pb vs3 us3 z2 rfl rfl g3 (r3.keep (Same.any hb2)) (a3.imp fun _ _ h => (LCells.stable 41).keep h (Same.any hb2)) (s3.keep (Same.any hb2)) (b3.imp fun _ _ h => (LCells.stable 41).keep h (Same.any hb2))).mono ?_
  rintro e z3 ⟨rfl, hq3⟩
  have hb3 := hb2.trans (hq3.mono hb2.size)
  have x3 := x2.below hq3 x2.lt
  have y3 := y2.below hq3 y2.lt
  clear hq3
  have m := fun j => x3.cell j
  have p := fun j => y3.cell j
  have m0 := x3.cell 0
  have p0 := y3.cell 0
  have m1 := x3.cell 1
  have p1 := y3.cell 1
  have m2 := x3.cell 2
  have p2 := y3.cell 2
  have m3 := x3.cell 3
  have p3 := y3.cell 3
  have m4 := x3.cell 4
  have p4 := y3.cell 4
  have m5 := x3.cell 5
  have p5 := y3.cell 5
  have m6 := x3.cell 6
  have p6 := y3.cell 6
  have m7 := x3.cell 7
  have p7 := y3.cell 7
  simp only [List.getElem?_cons_succ, List.getElem?_cons_zero] at m0 p0 m1 p1 m2 p2 m3 p3 m4 p4 m5 p5 m6 p6 m7 p7
  have lw := y3.lt
  clear m p
  go_wp2_with (fail)
  clear m0 p0 m1 p1 m2 p2 m3 p3 m4 p4 m5 p5 m6 p6 m7 p7 lw
  refine (equal_ints A4 B4 _ _ _ _ pw pw Any Any z3 (r4.keep (Same.any hb3)) (s4.keep (Same.any hb3)) (by omega) (by omega)).mono ?_
  simp only [decide_true]
  rintro e z4 ⟨rfl, hq4⟩
  have hb4 := hb3.trans (hq4.mono hb3.size)
  have x4 := x3.below hq4 x3.lt
  have y4 := y3.below hq4 y3.lt
  clear hq4
  have m := fun j => x4.cell j
  have p := fun j => y4.cell j
  have m0 := x4.cell 0
  have p0 := y4.cell 0
  have m1 := x4.cell 1
  have p1 := y4.cell 1
  have m2 := x4.cell 2
  have p2 := y4.cell 2
  have m3 := x4.cell 3
  have p3 := y4.cell 3
  have m4 := x4.cell 4
  have p4 := y4.cell 4
  have m5 := x4.cell 5
  have p5 := y4.cell 5
  have m6 := x4.cell 6
  have p6 := y4.cell 6
  have m7 := x4.cell 7
  have p7 := y4.cell 7
  simp only [List.getElem?_cons_succ, List.getElem?_cons_zero] at m0 p0 m1 p1 m2 p2 m3 p3 m4 p4 m5 p5 m6 p6 m7 p7
  have lw := y4.lt
  clear m p
  go_wp2_with (fail)
  clear m0 p0 m1 p1 m2 p2 m3 p3 m4 p4 m5 p5 m6 p6 m7 p7 lw
  refine (equal_ints A5 B5 _ _ _ _ pl pl Any Any z4 (r5.keep (Same.any hb4)) (s5.keep (Same.any hb4)) (by omega) (by omega)).mono ?_
  simp only [decide_true]
  rintro e z5 ⟨rfl, hq5⟩
  go_wp2_with (fail)
  go_ret
  exact ⟨rfl, hb4.trans (hq5.mono hb4.size)⟩
end Go.Proofs.Yteojmmjanjilaaa
