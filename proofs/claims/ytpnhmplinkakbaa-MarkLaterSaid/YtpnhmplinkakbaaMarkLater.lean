/- MarkLater's comparisons and its walk. -/
import Derived.Test.YtpnhmplinkakbaaMarkSum
import Derived.Test.YtpnhmplinkakbaaMarkEnds
set_option linter.unusedVariables false
namespace Go.Proofs.Ytpnhmplinkakbaa
open Go.RowKit Go.Mem Go.Maps

set_option maxRecDepth 100000 in
set_option maxHeartbeats 400000 in
theorem equal_big (A B : Option Addr) (n c m d : Nat) (l k : List Int) (D E : Nat → Prop) (w : World) (hr : Reads w D 1 A n (nums l)) (hs : Reads w E 1 B m (nums k)) (hn : n ≤ 9223372036854775807) (hm : m ≤ 9223372036854775807) :
    Calls Try.prog 14 #[.slice A n c, .slice B m d] w fun e w' => e = .returned (.bool (decide (l = k))) ∧ Below w.heap.size w w' := by
  have hnl : n = l.length := by have := hr.len; rwa [nums_length] at this
  have hml : m = k.length := by have := hs.len; rwa [nums_length] at this
  have Hnl := Lib.hid hnl
  have Hml := Lib.hid hml
  clear hnl hml
  by_cases hnm : n = m
  · subst hnm
    go_enter Try.func14, Try.ntmps14
    go_wp2_with (fail)
    go_loopw [13] (fun v wr => ∃ j : Nat, j ≤ n ∧ v = .int .i64 j ∧ Hid (l.take j = k.take j) ∧ Below w.heap.size w wr) (fun v _ => n - (intOf v).toNat)
    case atStart => exact ⟨0, Nat.zero_le _, rfl, rfl, Below.refl _ _⟩
    case round =>
      obtain ⟨j, hj, rfl, hsame, hb⟩ := hrel
      by_cases hlt : j < n
      · obtain ⟨b1, o1, u1, rfl, _, hu1, hc1⟩ := hr.at_ hlt
        obtain ⟨b2, o2, u2, rfl, _, hu2, hc2⟩ := hs.at_ hlt
        have hl : j < l.length := by have := Hnl.out; omega
        have hk : j < k.length := by have := Hml.out; omega
        rw [nums_at l j hl] at hu1
        rw [nums_at k j hk] at hu2
        injection hu1 with hu1
        injection hu2 with hu2
        subst hu1 hu2
        have g1 := (Same.any (D := Any) hb).cell trivial hc1
        have g2 := (Same.any (D := Any) hb).cell trivial hc2
        by_cases hxy : l[j] = k[j]
        · have hs' : Hid (l.take (j + 1) = k.take (j + 1)) := by
            unfold Hid
            rw [List.take_succ_eq_append_getElem hl, List.take_succ_eq_append_getElem hk, hsame.out, hxy]
          rw [hxy] at g1
          generalize k[j] = y at g1 g2
          have h1 : (y != y) = false := by simp
          clear hxy hsame hr hs hc1 hc2
          go_wp2_with (fail)
          go_quiet (fail)
          go_wp2_with (fail)
          exact ⟨⟨j + 1, by omega, by go_num, hs', ⟨hb.os, hb.tape, hb.output, hb.size, hb.block⟩⟩, by simp [intOf]; omega⟩
        · have hne : ¬ l = k := fun h => hxy (by subst h; rfl)
          generalize l[j] = x at g1 hxy
          generalize k[j] = y at g2 hxy
          have h1 : (x != y) = true := by simpa using hxy
          have Hne := Lib.hid hne
          clear hxy hsame hr hs hc1 hc2 hne
          go_wp2_with (fail)
          go_quiet (fail)
          go_wp2_with (fail)
          go_ret
          exact ⟨by simp [Hne.out], ⟨hb.os, hb.tape, hb.output, hb.size, hb.block⟩⟩
      · have heq : l = k := by
          have h1 := hsame.out
          rwa [List.take_of_length_le (by have := Hnl.out; omega), List.take_of_length_le (by have := Hml.out; omega)] at h1
        have Heq := Lib.hid heq
        clear heq hsame hr hs
        go_wp2_with (fail)
        go_ret
        exact ⟨by simp [Heq.out], hb⟩
  · have hne : ¬ l = k := fun h => hnm (by rw [Hnl.out, Hml.out, h])
    have h1 : ((n : Int) != (m : Int)) = true := by simp; omega
    have Hne := Lib.hid hne
    clear hne hr hs
    go_enter Try.func14, Try.ntmps14
    go_wp2_with (fail)
    go_ret
    exact ⟨by simp [Hne.out], Below.refl _ _⟩

set_option maxRecDepth 100000 in
set_option maxHeartbeats 1000000 in
theorem eqfI (A B : Option Addr) (n m c e : Nat) (l : List (List Int)) (vss uss : List (List Value)) (w : World) (hn : n = l.length) (hm : m = l.length) (hn2 : n ≤ 9223372036854775807)
    (hr : Reads w Any 1 A n vss.flatten) (ha : All2 (NumsCell w Any) vss l) (hr' : Reads w Any 1 B m uss.flatten) (ha' : All2 (NumsCell w Any) uss l) :
    Calls Try.prog 26 #[.slice A n c, .slice B m e, .func (.func 14) #[] #[]] w fun e w' => e = .returned (.bool true) ∧ Below w.heap.size w w' := by
  obtain rfl : n = m := by omega
  have Hn := Lib.hid hn
  have Hm := Lib.hid hm
  clear hn hm
  have d1 : ((n : Int) != (n : Int)) = false := by simp
  go_enter Try.func26, Try.ntmps26
  go_wp2_with (fail)
  go_loopw [17] (fun i wr => ∃ j : Nat, j ≤ n ∧ i = .int .i64 j ∧ Below w.heap.size w wr) (fun i _ => n - (intOf i).toNat)
  case atStart => exact ⟨0, Nat.zero_le _, rfl, Below.refl _ _⟩
  case round =>
    obtain ⟨j, hj, rfl, hbe⟩ := hrel
    by_cases hlt : j < n
    · have hjl : j < l.length := by have := Hn.out; omega
      obtain ⟨b, off, cs, rfl, hD, hv, hcell⟩ := hr.elem NumsCell.stable ha Hn.out hjl
      obtain ⟨b', off', cs', rfl, hD', hv', hcell'⟩ := hr'.elem NumsCell.stable ha' Hm.out hjl
      have hsame : Same Any w wr := Same.any hbe
      obtain ⟨v1, rfl, P1, n1, p1, rfl, _, hp1, hr1⟩ := NumsCell.stable.keep hv hsame
      obtain ⟨v2, rfl, P2, n2, p2, rfl, _, hp2, hr2⟩ := NumsCell.stable.keep hv' hsame
      generalize l[j] = X at hr1 hr2
      have g0 := hsame.cell hD (hcell 0 _ rfl)
      have q0 := hsame.cell hD' (hcell' 0 _ rfl)
      simp only [Nat.add_zero, Nat.mul_one] at g0 q0
      have l4 := lt_of_cell g0
      have l5 := lt_of_cell q0
      have EQ := Lib.hid (equal_big P1 P2 n1 p1 n2 p2 X X Any Any wr hr1 hr2 (by unfold maxLen at hp1; omega) (by unfold maxLen at hp2; omega))
      simp only [decide_true] at EQ
      clear hcell hcell' hv hv' hsame hr1 hr2
      go_wp2_with (fail)
      refine EQ.out.mono ?_
      rintro e w2 ⟨rfl, hb2⟩
      have hbe2 : Below w.heap.size w w2 := hbe.trans (hb2.mono hbe.size)
      clear EQ
      go_wp2_with (fail)
      exact ⟨⟨j + 1, by omega, by go_num, hbe2⟩, by simp [intOf]; omega⟩
    · go_wp2_with (fail)
      go_ret
      exact ⟨rfl, hbe⟩
set_option maxRecDepth 100000 in
set_option maxHeartbeats 1000000 in
theorem later1 (A B : Option Addr) (n m c e : Nat) (l : List (List Int)) (vss uss : List (List Value)) (w : World) (hn : n = l.length) (hm : m = l.length) (hn2 : n ≤ 9223372036854775807)
    (hr : Reads w Any 1 A n vss.flatten) (ha : All2 (NumsCell w Any) vss l) (hr' : Reads w Any 1 B m uss.flatten) (ha' : All2 (NumsCell w Any) uss l) :
    Calls Try.prog 25 #[.slice A n c, .slice B m e] w fun e w' => e = .returned (.bool true) ∧ Below w.heap.size w w' := by
  have EQ := Lib.hid (eqfI A B n m c e l vss uss w hn hm hn2 hr ha hr' ha')
  clear hn hm hn2 hr ha hr' ha'
  go_enter Try.func25, Try.ntmps25
  go_wp2_with (fail)
  refine EQ.out.mono ?_
  rintro e w2 ⟨rfl, hb⟩
  have HB := Lib.hid hb
  clear hb EQ
  go_wp2_with (fail)
  go_ret
  exact ⟨rfl, HB.out⟩

set_option maxRecDepth 100000 in
set_option maxHeartbeats 1000000 in
theorem eqfR (A B : Option Addr) (n m c e : Nat) (l : List (List (List Int))) (vss uss : List (List Value)) (w : World) (hn : n = l.length) (hm : m = l.length) (hn2 : n ≤ 9223372036854775807)
    (hr : Reads w Any 1 A n vss.flatten) (ha : All2 (WaysCell w Any) vss l) (hr' : Reads w Any 1 B m uss.flatten) (ha' : All2 (WaysCell w Any) uss l) :
    Calls Try.prog 24 #[.slice A n c, .slice B m e, .func (.func 25) #[] #[]] w fun e w' => e = .returned (.bool true) ∧ Below w.heap.size w w' := by
  obtain rfl : n = m := by omega
  have Hn := Lib.hid hn
  have Hm := Lib.hid hm
  clear hn hm
  have d1 : ((n : Int) != (n : Int)) = false := by simp
  go_enter Try.func24, Try.ntmps24
  go_wp2_with (fail)
  go_loopw [17] (fun i wr => ∃ j : Nat, j ≤ n ∧ i = .int .i64 j ∧ Below w.heap.size w wr) (fun i _ => n - (intOf i).toNat)
  case atStart => exact ⟨0, Nat.zero_le _, rfl, Below.refl _ _⟩
  case round =>
    obtain ⟨j, hj, rfl, hbe⟩ := hrel
    by_cases hlt : j < n
    · have hjl : j < l.length := by have := Hn.out; omega
      obtain ⟨b, off, cs, rfl, hD, hv, hcell⟩ := hr.elem WaysCell.stable ha Hn.out hjl
      obtain ⟨b', off', cs', rfl, hD', hv', hcell'⟩ := hr'.elem WaysCell.stable ha' Hm.out hjl
      have hsame : Same Any w wr := Same.any hbe
      obtain ⟨v1, rfl, P1, p1, vs1, rfl, i1, hp1, hr1, ha1⟩ := WaysCell.stable.keep hv hsame
      obtain ⟨v2, rfl, P2, p2, vs2, rfl, i2, hp2, hr2, ha2⟩ := WaysCell.stable.keep hv' hsame
      generalize l[j] = X at *
      have g0 := hsame.cell hD (hcell 0 _ rfl)
      have q0 := hsame.cell hD' (hcell' 0 _ rfl)
      simp only [Nat.add_zero, Nat.mul_one] at g0 q0
      have l4 := lt_of_cell g0
      have l5 := lt_of_cell q0
      have EQ := Lib.hid (later1 P1 P2 X.length X.length p1 p2 X vs1 vs2 wr rfl rfl (by unfold maxLen at hp1; omega) hr1 ha1 hr2 ha2)
      clear hcell hcell' hv hv' hsame hr1 hr2 ha1 ha2
      go_wp2_with (fail)
      refine EQ.out.mono ?_
      rintro e w2 ⟨rfl, hb2⟩
      have hbe2 : Below w.heap.size w w2 := hbe.trans (hb2.mono hbe.size)
      clear EQ
      go_wp2_with (fail)
      exact ⟨⟨j + 1, by omega, by go_num, hbe2⟩, by simp [intOf]; omega⟩
    · go_wp2_with (fail)
      go_ret
      exact ⟨rfl, hbe⟩
theorem later_plain (C : List Int) (h0 : ∀ c ∈ C, 0 ≤ c) (D : List Dd) (hD : D.length ≤ 150) (k : Nat) (hd : (shotF (runF (newF C) (D.take k))).done = true) :
    (shotF (runF (newF C) D)).done = true ∧ (shotF (runF (newF C) D)).states = (shotF (runF (newF C) (D.take k))).states ∧ (shotF (runF (newF C) D)).ways = (shotF (runF (newF C) (D.take k))).ways := by
  obtain ⟨i0, m0⟩ := inv_new C h0
  have hp := paysL_le D
  have hpa := pays_app (D.take k) (D.drop k)
  rw [List.take_append_drop] at hpa
  obtain ⟨i1, m1⟩ := inv_run (D.take k) i0 m0 (by omega)
  have hd' : allDone (runF (newF C) (D.take k)) = true := hd
  have e := done_run (D.drop k) i1 m1 (by omega) hd'
  rw [← run_app, List.take_append_drop] at e
  have e2 : allDone (runF (newF C) D) = allDone (runF (newF C) (D.take k)) := by unfold allDone; rw [e]
  refine ⟨e2.trans hd', ?_, ?_⟩
  · simp only [shotF]; rw [e2, e]
  · simp only [shotF]; rw [e2, e]
set_option maxRecDepth 100000 in
set_option maxHeartbeats 4000000 in
theorem markLater_any (w : World) (A : Option Addr) (n c : Nat) (coins : List Int) (A2 : Option Addr) (m c2 : Nat) (l : List Four) (t : Int) (hn : n = coins.length) (hc : ∀ x ∈ coins, I64 x) (hnc : n ≤ c) (hcm : c ≤ maxLen) (hr : Reads w Any 1 A n (nums coins)) (hm : m = l.length) (hmc : m ≤ c2) (hc2 : c2 ≤ maxLen) (hrd : Reads w Any 4 A2 m (ddcs (l.map ddOf))) (hl : ∀ x ∈ l, I64F x) (ht : I64 t) :
    Calls Try.prog 9 #[.slice A n c, .slice A2 m c2, .int .i64 t] w fun e w' => e = .returned (.bool true) ∧ Below w.heap.size w w' := by
  have HT := Lib.hid (towns_any w A n c coins A2 m c2 l hn hc hnc hcm hr hm hmc hc2 hrd hl)
  have hC := townC_len coins
  have hCb := townC_bd coins
  have hD := townD_len (townC coins).length l
  have hDb := townD_bd (townC coins).length l
  unfold TownsPost at HT
  generalize hCC : townC coins = C at *
  generalize hDD : townD C.length l = D at *
  have hp := paysL_le D
  obtain ⟨nC, hnC⟩ : ∃ nC, nC = C.length := ⟨_, rfl⟩
  obtain ⟨sum, hsC⟩ : ∃ s, s = C.sum := ⟨_, rfl⟩
  obtain ⟨nD, hnD⟩ : ∃ nD, nD = D.length := ⟨_, rfl⟩
  rw [← hnC] at HT hC
  rw [← hsC] at HT
  rw [← hnD] at HT hD hp
  obtain ⟨k, hk⟩ : ∃ k : Nat, restI t ((nD : Int) + 1) = (k : Int) := ⟨(restI t ((nD : Int) + 1)).toNat, by have := restI_bd t ((nD : Int) + 1) (by omega); omega⟩
  have hk1 : k ≤ nD := by have := restI_bd t ((nD : Int) + 1) (by omega); omega
  have RS := fun (W : World) => rest_any t ((nD : Int) + 1) W ht (by omega) (by omega)
  rw [hk] at RS
  have RS' := Lib.hid RS
  have hpk := pays_take D k
  have hkl : k = (D.take k).length := by rw [List.length_take]; omega
  have hDk : ∀ d ∈ D.take k, d.n ≤ 1000000000000 ∧ -1000000000000 ≤ d.n := fun d hd => hDb d (List.mem_of_mem_take hd)
  have HL := Lib.hid (later_plain C (fun x hx => (hCb x hx).1) D (by omega) k)
  have R1 := Lib.hid (fun (w1 : World) (A1 : Option Addr) (c1 : Nat) (B : Option Addr) (b : Nat) (h1 : Reads w1 Any 1 A1 nC (nums C)) (h2 : Reads w1 Any 4 B k (ddcs (D.take k))) => mrun_any w1 A1 nC c1 C B k b (D.take k) hnC (by omega) hC.2 hCb h1 hkl (by omega) h2 hDk (by omega))
  have R2 := Lib.hid (fun (w1 : World) (A1 : Option Addr) (c1 : Nat) (B : Option Addr) (b : Nat) (h1 : Reads w1 Any 1 A1 nC (nums C)) (h2 : Reads w1 Any 4 B nD (ddcs D)) => mrun_any w1 A1 nC c1 C B nD b D hnC (by omega) hC.2 hCb h1 hnD (by omega) h2 hDb (by omega))
  obtain ⟨x, hx⟩ : ∃ x, x = shotF (runF (newF C) (D.take k)) := ⟨_, rfl⟩
  obtain ⟨y, hy⟩ : ∃ y, y = shotF (runF (newF C) D) := ⟨_, rfl⟩
  rw [← hx] at R1 HL
  rw [← hy] at R2 HL
  clear hx hy hCC hDD hn hc hnc hcm hr hm hmc hc2 hrd hl hCb hDb hnC hsC hnD hDk hkl hp hpk RS ht hC hk
  go_enter Try.func9, Try.ntmps9
  go_wp2_with (fail)
  refine HT.out.mono ?_
  rintro e w1 ⟨A1, c1, B1, d1, rfl, h1, h2, hb1⟩
  obtain ⟨hd1, hd2⟩ := own_caps h2
  have m1 : d1 ≤ 9223372036854775807 := by unfold maxLen at hd2; omega
  have hcut := slice_h (P := Try.prog) (A := B1) (n := nD) (c := d1) (size := 4) _ _ Try.underlying54 (by kernel_rfl) k (by omega) k rfl
  have h2' := own_cut h2 k hk1
  rw [ddcs_take] at h2'
  have r1 := reads_of_own (by omega) h1
  have r2 := reads_of_own (by omega) h2
  have r2' := reads_of_own (by omega) h2'
  have RUN1 := Lib.hid (R1.out w1 A1 c1 B1 d1 r1 r2')
  have RUN2 := Lib.hid (fun (W : World) (hb : Below w1.heap.size w1 W) => R2.out W A1 c1 B1 d1 (r1.keep (Same.any hb)) (r2.keep (Same.any hb)))
  have HB1 := Lib.hid hb1
  clear HT R1 R2 h1 h2 h2' r1 r2 r2' hb1 hd1 hd2
  go_wp2_with (first | (go_at_call 19; refine (RS'.out _).mono ?_; rintro e w' ⟨rfl, rfl⟩))
  refine RUN1.out.mono ?_
  rintro e w2 ⟨cs, rfl, ⟨P1, p1, P2, p2, vss, P3, p3, rfl, ⟨i1, j1⟩, ⟨i2, j2⟩, ⟨i3, j3⟩, hr1, hr2, ha2, hr3⟩, hb2⟩
  simp only at i1 i2 i3 ⊢
  obtain ⟨s1, hs1⟩ : ∃ k, k = x.states.length := ⟨_, rfl⟩
  obtain ⟨u1, hu1⟩ : ∃ k, k = x.ways.length := ⟨_, rfl⟩
  obtain ⟨z1, hz1⟩ : ∃ k, k = x.now.length := ⟨_, rfl⟩
  obtain ⟨dx, hdx⟩ : ∃ b, b = x.done := ⟨_, rfl⟩
  obtain ⟨lx, hlx⟩ : ∃ b, b = x.left := ⟨_, rfl⟩
  rw [← hs1] at hr1 i1
  rw [← hu1] at hr2 i2
  rw [← hs1, ← hu1, ← hz1, ← hdx, ← hlx]
  have Hr1 := Lib.hid (hr1.imp (by omega) fun b _ _ => (trivial : Any b))
  have Hr2 := Lib.hid (hr2.imp (by omega) fun b _ _ => (trivial : Any b))
  have Ha2 := Lib.hid (ha2.imp fun _ _ h => WaysCell.stable.imp h fun b _ _ => (trivial : Any b))
  have HB2 := Lib.hid hb2
  have Hs1 := Lib.hid hs1
  have Hu1 := Lib.hid hu1
  have Hdx := Lib.hid hdx
  clear hr1 hr2 ha2 hr3 hb2 hs1 hu1 hz1 hdx hlx i3 RUN1 hcut
  go_wp2_with (fail)
  obtain ⟨W2, hW2⟩ : ∃ W, W = (w2.alloc (.cells #[.bool dx, .slice P1 s1 p1, .slice P2 u1 p2, .slice P3 z1 p3, .int .i64 lx] 59)) := ⟨_, rfl⟩
  rw [← hW2]
  have hS : Blk W2 w2.heap.size 59 [.bool dx, .slice P1 s1 p1, .slice P2 u1 p2, .slice P3 z1 p3, .int .i64 lx] := by rw [hW2]; exact Blk.new w2 _ _
  have hb2 : Below w2.heap.size w2 W2 := by rw [hW2]; exact (Below.refl _ _).alloc (Nat.le_refl _) _
  clear hW2
  refine (RUN2.out W2 (HB2.out.trans (hb2.mono HB2.out.size))).mono ?_
  rintro e w3 ⟨cs, rfl, ⟨Q1, q1, Q2, q2, uss, Q3, q3, rfl, ⟨i4, j4⟩, ⟨i5, j5⟩, ⟨i6, j6⟩, gr1, gr2, ga2, gr3⟩, hb3⟩
  simp only at i4 i5 i6 ⊢
  obtain ⟨s2, hs2⟩ : ∃ k, k = y.states.length := ⟨_, rfl⟩
  obtain ⟨u2, hu2⟩ : ∃ k, k = y.ways.length := ⟨_, rfl⟩
  obtain ⟨z2, hz2⟩ : ∃ k, k = y.now.length := ⟨_, rfl⟩
  obtain ⟨dy, hdy⟩ : ∃ b, b = y.done := ⟨_, rfl⟩
  obtain ⟨ly, hly⟩ : ∃ b, b = y.left := ⟨_, rfl⟩
  rw [← hs2] at gr1 i4
  rw [← hu2] at gr2 i5
  rw [← hs2, ← hu2, ← hz2, ← hdy, ← hly]
  have Gr1 := Lib.hid (gr1.imp (by omega) fun b _ _ => (trivial : Any b))
  have Gr2 := Lib.hid (gr2.imp (by omega) fun b _ _ => (trivial : Any b))
  have Ga2 := Lib.hid (ga2.imp fun _ _ h => WaysCell.stable.imp h fun b _ _ => (trivial : Any b))
  have hw23 : Below w2.heap.size w2 w3 := hb2.trans (hb3.mono hb2.size)
  have hS3 := hS.below hb3 hS.lt
  have HS3 := Lib.hid hS3
  have HB3 := Lib.hid hw23
  have Hs2 := Lib.hid hs2
  have Hu2 := Lib.hid hu2
  have Hdy := Lib.hid hdy
  have lS := hS3.lt
  have HB02 := Lib.hid (HB1.out.trans (HB2.out.mono HB1.out.size))
  obtain ⟨B2, hB2⟩ : ∃ b, b = w2.heap.size := ⟨_, rfl⟩
  rw [← hB2] at HS3 lS ⊢
  clear gr1 gr2 ga2 gr3 hb2 hb3 hw23 hS hS3 hs2 hu2 hz2 hdy hly i6 RUN2 HB1 HB2 hB2
  go_wp2_with (fail)
  obtain ⟨W4, hW4⟩ : ∃ W, W = (w3.alloc (.cells #[.bool dy, .slice Q1 s2 q1, .slice Q2 u2 q2, .slice Q3 z2 q3, .int .i64 ly] 59)) := ⟨_, rfl⟩
  rw [← hW4]
  have hS4 : Blk W4 w3.heap.size 59 [.bool dy, .slice Q1 s2 q1, .slice Q2 u2 q2, .slice Q3 z2 q3, .int .i64 ly] := by rw [hW4]; exact Blk.new w3 _ _
  have hb4 : Below w3.heap.size w3 W4 := by rw [hW4]; exact (Below.refl _ _).alloc (Nat.le_refl _) _
  clear hW4
  refine (marked_any W4).mono ?_
  rintro e w5 ⟨rfl, hb5⟩
  have h35 : Below w3.heap.size w3 w5 := hb4.trans (hb5.mono hb4.size)
  have hT := HS3.out.below h35 lS
  have hU := hS4.below hb5 hS4.lt
  have h25 := HB3.out.trans (h35.mono HB3.out.size)
  have a0 := hT.cell 0
  have a1 := hT.cell 1
  have a2 := hT.cell 2
  have b0 := hU.cell 0
  have b1 := hU.cell 1
  have b2 := hU.cell 2
  simp only [List.getElem?_cons_zero, List.getElem?_cons_succ] at a0 a1 a2 b0 b1 b2
  have lT := hT.lt
  have lU := hU.lt
  have HF := Lib.hid (HB02.out.trans (h25.mono HB02.out.size))
  have X1 := Lib.hid (Hr1.out.keep (Same.any h25))
  have X2 := Lib.hid (Hr2.out.keep (Same.any h25))
  have XA := Lib.hid (Ha2.out.imp fun _ _ h => WaysCell.stable.keep h (Same.any h25))
  have Y1 := Lib.hid (Gr1.out.keep (Same.any h35))
  have Y2 := Lib.hid (Gr2.out.keep (Same.any h35))
  have YA := Lib.hid (Ga2.out.imp fun _ _ h => WaysCell.stable.keep h (Same.any h35))
  obtain ⟨B3, hB3⟩ : ∃ b, b = w3.heap.size := ⟨_, rfl⟩
  rw [← hB3] at b0 b1 b2 lU ⊢
  clear hb4 hb5 h35 hT hU h25 hS4 Hr1 Hr2 Ha2 Gr1 Gr2 Ga2 HB3 HS3 HB02 hB3 lS
  cases hdx : dx with
  | false =>
    subst hdx
    go_wp2_with (fail)
    go_ret
    exact ⟨by simp, HF.out⟩
  | true =>
    subst hdx
    obtain ⟨k1, k2, k3⟩ := HL.out Hdx.out.symm
    have e1 : dy = true := Hdy.out.trans k1
    subst e1
    rw [k2] at Y1
    rw [k3] at YA
    have n1 : s1 ≤ 9223372036854775807 := by unfold maxLen at j1; omega
    have n2 : s2 ≤ 9223372036854775807 := by unfold maxLen at j4; omega
    have n3 : u1 ≤ 9223372036854775807 := by unfold maxLen at j2; omega
    have E1 := Lib.hid (equal_big P1 Q1 s1 p1 s2 q1 x.states x.states Any Any w5 X1.out Y1.out n1 n2)
    simp only [decide_true] at E1
    have E2 := Lib.hid (fun (W : World) (hb : Below w5.heap.size w5 W) => eqfR P2 Q2 u1 u2 p2 q2 x.ways _ _ W Hu1.out (by rw [Hu2.out, k3]) n3 (X2.out.keep (Same.any hb)) (XA.out.imp fun _ _ h => WaysCell.stable.keep h (Same.any hb)) (Y2.out.keep (Same.any hb)) (YA.out.imp fun _ _ h => WaysCell.stable.keep h (Same.any hb)))
    clear X1 X2 XA Y1 Y2 YA k1 k2 k3
    go_wp2_with (fail)
    refine E1.out.mono ?_
    rintro e w6 ⟨rfl, hb6⟩
    have c2 := (hb6.cell lT).trans a2
    have c3 := (hb6.cell lU).trans b2
    have HB6 := Lib.hid hb6
    have hT6 : B2 < w6.heap.size := Nat.lt_of_lt_of_le lT hb6.size
    have hU6 : B3 < w6.heap.size := Nat.lt_of_lt_of_le lU hb6.size
    clear hb6 a0 a1 a2 b0 b1 b2 E1
    go_wp2_with (fail)
    refine (E2.out _ HB6.out).mono ?_
    rintro e w7 ⟨rfl, hb7⟩
    have HG := Lib.hid (HF.out.trans ((HB6.out.trans (hb7.mono HB6.out.size)).mono HF.out.size))
    clear hb7 HF E2 HB6
    go_wp2_with (fail)
    go_ret
    exact ⟨by simp, HG.out⟩
end Go.Proofs.Ytpnhmplinkakbaa
