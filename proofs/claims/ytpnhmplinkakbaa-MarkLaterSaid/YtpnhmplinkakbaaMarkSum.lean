/- MarkSum's walk. -/
import Derived.Test.YtpnhmplinkakbaaMarkMarked
set_option linter.unusedVariables false
namespace Go.Proofs.Ytpnhmplinkakbaa
open Go.RowKit Go.Mem Go.Maps

theorem wrapA (a b : Int) : wrap64 (wrap64 a + b) = wrap64 (a + b) := by
  unfold wrap64; omega
theorem wrapI (a : Int) : wrap64 (wrap64 a) = wrap64 a := by
  unfold wrap64; omega
theorem sum_to (l : List Int) (k : Nat) (h : k < l.length) : (l.take (k + 1)).sum = (l.take k).sum + l[k] := by
  rw [List.take_succ_eq_append_getElem h, List.sum_append]; simp
theorem sum_map_to {α : Type} (f : α → Int) (l : List α) (k : Nat) (h : k < l.length) : ((l.take (k + 1)).map f).sum = ((l.take k).map f).sum + f l[k] := by
  rw [List.take_succ_eq_append_getElem h, List.map_append, List.sum_append]; simp
theorem paysL_le (l : List Dd) : paysL l ≤ l.length := by
  induction l with
  | nil => simp [paysL]
  | cons d r ih =>
    have e : paysL (d :: r) = pays d + paysL r := by simp [paysL]
    have : pays d ≤ 1 := by unfold pays; split <;> omega
    simp only [List.length_cons]
    omega
def rowSum (l : List (List Int)) : Int := (l.map List.sum).sum
structure Good (n : Nat) (sum : Int) (x : Sh) : Prop where
  ln : x.now.length = n
  sm : x.left + x.now.sum = sum
  dn : x.done = true → x.states.sum + (x.ways.map rowSum).sum = sum
  un : x.done = false → x.states.length = 0
theorem good_run (coins : List Int) (h0 : ∀ c ∈ coins, 0 ≤ c) (ds : List Dd) (hp : paysL ds < 200) : Good coins.length coins.sum (shotF (runF (newF coins) ds)) := by
  obtain ⟨h1, h2⟩ := inv_new coins h0
  obtain ⟨h, hm⟩ := inv_run ds h1 h2 (by omega)
  refine ⟨h.lc, ?_, fun hd => ?_, fun hd => ?_⟩
  · have := h.sm
    simp only [shotF]
    omega
  · have hd' : allDone (runF (newF coins) ds) = true := hd
    have := shot_sum h hd'
    simp only [shotF, hd', if_true, List.map_map]
    exact this
  · have hd' : allDone (runF (newF coins) ds) = false := hd
    simp [shotF, hd']
theorem townC_sum (coins : List Int) : 0 ≤ (townC coins).sum ∧ (townC coins).sum ≤ 10000000 := by
  have hlen := townC_len coins
  have h1 := townC_bd coins
  have : ∀ l : List Int, (∀ x ∈ l, 0 ≤ x ∧ x ≤ 1000000) → 0 ≤ l.sum ∧ l.sum ≤ 1000000 * (l.length : Int) := by
    intro l
    induction l with
    | nil => intro _; simp
    | cons x r ih =>
      intro h
      have h1 := ih fun y hy => h y (List.mem_cons_of_mem _ hy)
      have h2 := h x (by simp)
      simp only [List.sum_cons, List.length_cons]
      omega
  have := this _ h1
  omega
theorem townD_bd (n : Nat) (l : List Four) : ∀ d ∈ townD n l, d.n ≤ 1000000000000 ∧ -1000000000000 ≤ d.n := by
  intro d hd
  obtain ⟨x, _, rfl⟩ := List.mem_map.1 hd
  have := restI_bd x.2.2.2 12 (by omega)
  show 1 + restI x.2.2.2 12 ≤ 1000000000000 ∧ -1000000000000 ≤ 1 + restI x.2.2.2 12
  omega
theorem reads_of_own {w : World} {base : Nat} {e : TypeId} {size : Nat} {A : Option Addr} {n m c : Nat} {xs : List Value} (hz : 0 < size) (h : w.ownsRow base e size (.slice A m c) n xs) : Reads w Any size A n xs := by
  obtain ⟨A', c', e1, _, _, hr⟩ := Reads.of_own h
  injection e1 with e1
  subst e1
  exact hr.imp hz fun _ _ _ => trivial

set_option maxRecDepth 100000 in
set_option maxHeartbeats 4000000 in
theorem markSum_any (w : World) (A : Option Addr) (n c : Nat) (coins : List Int) (A2 : Option Addr) (m c2 : Nat) (l : List Four) (hn : n = coins.length) (hc : ∀ x ∈ coins, I64 x) (hnc : n ≤ c) (hcm : c ≤ maxLen) (hr : Reads w Any 1 A n (nums coins)) (hm : m = l.length) (hmc : m ≤ c2) (hc2 : c2 ≤ maxLen) (hrd : Reads w Any 4 A2 m (ddcs (l.map ddOf))) (hl : ∀ x ∈ l, I64F x) :
    Calls Try.prog 7 #[.slice A n c, .slice A2 m c2] w fun e w' => e = .returned (.bool true) ∧ Below w.heap.size w w' := by
  have HT := Lib.hid (towns_any w A n c coins A2 m c2 l hn hc hnc hcm hr hm hmc hc2 hrd hl)
  have hC := townC_len coins
  have hCb := townC_bd coins
  have hsum := townC_sum coins
  have hD := townD_len (townC coins).length l
  have hDb := townD_bd (townC coins).length l
  have hp : paysL (townD (townC coins).length l) < 200 := by have := paysL_le (townD (townC coins).length l); omega
  have hg := good_run (townC coins) (fun x hx => (hCb x hx).1) _ hp
  unfold TownsPost at HT
  generalize hCC : townC coins = C at *
  generalize hDD : townD C.length l = D at *
  have HR := Lib.hid (fun (w1 : World) (A1 : Option Addr) (c1 : Nat) (A2 : Option Addr) (c2 : Nat) (h1 : Reads w1 Any 1 A1 C.length (nums C)) (h2 : Reads w1 Any 4 A2 D.length (ddcs D)) => mrun_any w1 A1 C.length c1 C A2 D.length c2 D rfl (by omega) (by omega) hCb h1 rfl (by omega) h2 hDb hp)
  generalize shotF (runF (newF C) D) = x at HR hg
  obtain ⟨nC, hnC⟩ : ∃ nC, nC = C.length := ⟨_, rfl⟩
  obtain ⟨sum, hsC⟩ : ∃ s, s = C.sum := ⟨_, rfl⟩
  have hnC0 : 0 < nC := by omega
  rw [← hnC] at HR HT hg
  rw [← hsC] at HT hg hsum
  obtain ⟨nD, hnD⟩ : ∃ nD, nD = D.length := ⟨_, rfl⟩
  rw [← hnD] at HR HT
  clear hCC hDD hn hc hnc hcm hr hm hmc hc2 hrd hl hC hCb hD hDb hp hnC hsC hnD
  obtain ⟨dn, st, ws, nw, lf⟩ := x
  obtain ⟨g1, g2, g3, g4⟩ := hg
  simp only at g1 g2 g3 g4
  go_enter Try.func7, Try.ntmps7
  go_wp2_with (fail)
  refine HT.out.mono ?_
  rintro e w1 ⟨A1, c1, B1, d1, rfl, h1, h2, hb1⟩
  have r1 := reads_of_own (by omega) h1
  have r2 := reads_of_own (by omega) h2
  have HR1 := Lib.hid (HR.out w1 A1 c1 B1 d1 r1 r2)
  have HB1 := Lib.hid hb1
  clear HT HR h1 h2 r1 r2 hb1
  go_wp2_with (fail)
  refine HR1.out.mono ?_
  rintro e w2 ⟨cs, rfl, ⟨P1, p1, P2, p2, vss, P3, p3, rfl, ⟨i1, j1⟩, ⟨i2, j2⟩, ⟨i3, j3⟩, hr1, hr2, ha2, hr3⟩, hb2⟩
  simp only at hr1 hr2 hr3 ha2 i1 i2 i3 ⊢
  have hb12 : Below w.heap.size w w2 := HB1.out.trans (hb2.mono HB1.out.size)
  obtain ⟨ns, hns⟩ : ∃ k, k = st.length := ⟨_, rfl⟩
  obtain ⟨nw', hnw⟩ : ∃ k, k = nw.length := ⟨_, rfl⟩
  obtain ⟨nws, hnws⟩ : ∃ k, k = ws.length := ⟨_, rfl⟩
  rw [← hns] at hr1 i1 g4 ⊢
  rw [← hnw] at hr3 i3 g1 ⊢
  rw [← hnws] at hr2 i2 ⊢
  have G3 := Lib.hid g3
  have G4 := Lib.hid g4
  have G2 := Lib.hid g2
  have Hns := Lib.hid hns
  have Hnw := Lib.hid hnw
  have Hnws := Lib.hid hnws
  have HR1' := Lib.hid hr1
  have HR2 := Lib.hid hr2
  have HR3 := Lib.hid hr3
  have HA2 := Lib.hid ha2
  have HB12 := Lib.hid hb12
  subst g1
  have m1 : ns ≤ 9223372036854775807 := by unfold maxLen at j1; omega
  have m2 : nws ≤ 9223372036854775807 := by unfold maxLen at j2; omega
  have m3 : nw' ≤ 9223372036854775807 := by unfold maxLen at j3; omega
  clear g2 g3 g4 hns hnw hnws hr1 hr2 hr3 ha2 hb12 hb2 HR1 HB1
  go_wp2_with (fail)
  obtain ⟨W2, hW2⟩ : ∃ W, W = (w2.alloc (.cells #[.bool dn, .slice P1 ns p1, .slice P2 nws p2, .slice P3 nw' p3, .int .i64 lf] 59)) := ⟨_, rfl⟩
  rw [← hW2]
  have hS : Blk W2 w2.heap.size 59 [.bool dn, .slice P1 ns p1, .slice P2 nws p2, .slice P3 nw' p3, .int .i64 lf] := by rw [hW2]; exact Blk.new w2 _ _
  have hb2 : Below w2.heap.size w2 W2 := by rw [hW2]; exact (Below.refl _ _).alloc (Nat.le_refl _) _
  clear hW2
  refine (marked_any W2).mono ?_
  rintro e w3 ⟨rfl, hq3⟩
  have hw3 : Below w2.heap.size w2 w3 := hb2.trans (hq3.mono hb2.size)
  have hS3 := hS.below hq3 hS.lt
  have lS := hS3.lt
  generalize hB : w2.heap.size = B at hS3 lS ⊢
  have HF := Lib.hid (HB12.out.trans (hw3.mono HB12.out.size))
  have s0 := hS3.cell 0
  have s1 := hS3.cell 1
  have s2 := hS3.cell 2
  have s3 := hS3.cell 3
  have s4 := hS3.cell 4
  simp only [List.getElem?_cons_zero, List.getElem?_cons_succ] at s0 s1 s2 s3 s4
  have hr1 := HR1'.out.keep (Same.any hw3)
  have hr2 := HR2.out.keep (Same.any hw3)
  have hr3 := HR3.out.keep (Same.any hw3)
  have ha2 := HA2.out.imp fun _ _ h => WaysCell.stable.keep h (Same.any hw3)
  have HR1 := Lib.hid hr1
  have HR3' := Lib.hid hr3
  have HR2' := Lib.hid hr2
  have HA := Lib.hid ha2
  clear hb2 hq3 hw3 hS3 hS HR1' HR2 HR3 HA2 HB12 hB hr1 hr2 hr3 ha2
  go_wp2_with (fail)
  go_loop [10, 46] (fun q i => ∃ (k : Nat) (z : Int), k ≤ nw' ∧ i = .int .i64 (k : Nat) ∧ q = .int .i64 z ∧ Hid ((k = 0 → z = lf) ∧ (0 < k → z = wrap64 (lf + (nw.take k).sum)))) (fun _ i => nw' - (intOf i).toNat)
  case atStart => exact ⟨0, lf, Nat.zero_le _, rfl, rfl, ⟨fun _ => rfl, fun h => absurd h (by omega)⟩⟩
  case round =>
    obtain ⟨k, z, hk, rfl, rfl, HZ⟩ := hrel
    by_cases hlt : k < nw'
    · obtain ⟨b, o, u, rfl, _, hu, hc⟩ := HR3'.out.at_ hlt
      have hkl : k < nw.length := by have := Hnw.out; omega
      rw [nums_at nw k hkl] at hu
      injection hu with hu
      subst hu
      have hz : wrap64 (z + nw[k]) = wrap64 (lf + (nw.take (k + 1)).sum) := by
        rw [sum_to nw k hkl]
        rcases Nat.eq_zero_or_pos k with rfl | h0
        · rw [HZ.out.1 rfl]; simp
        · rw [HZ.out.2 h0, wrapA, Int.add_assoc]
      have HZ' := Lib.hid hz
      have lb := lt_of_cell hc
      generalize nw[k] = y at hc HZ'
      clear hz
      go_wp2_with (fail)
      exact ⟨⟨k + 1, _, by omega, by go_num, rfl, ⟨fun h => absurd h (by omega), fun _ => HZ'.out⟩⟩, by simp [intOf]; omega⟩
    · obtain rfl : k = nw' := by omega
      have hz : z = sum := by
        rw [HZ.out.2 hnC0, List.take_of_length_le (by have := Hnw.out; omega), G2.out]
        exact IntWalk.wrap64_in _ (by omega)
      subst hz
      clear HZ hlt HR3'
      cases hdn : dn with
      | false =>
        have h0 := G4.out hdn
        subst h0 hdn
        go_wp2_with (fail)
        go_ret
        exact ⟨rfl, HF.out⟩
      | true =>
        have h0 := Lib.hid (G3.out hdn)
        subst hdn
        clear G3 G4
        go_wp2_with (fail)
        go_loop [13, 75] (fun q i => ∃ (k : Nat) (z : Int), k ≤ ns ∧ i = .int .i64 (k : Nat) ∧ q = .int .i64 z ∧ Hid (z = wrap64 (st.take k).sum)) (fun _ i => ns - (intOf i).toNat)
        case atStart => exact ⟨0, 0, Nat.zero_le _, rfl, rfl, by unfold Hid; rw [List.take_zero]; simp [wrap64]⟩
        case round =>
          obtain ⟨k, y, hk, rfl, rfl, HZ⟩ := hrel
          by_cases hlt : k < ns
          · obtain ⟨b, o, u, rfl, _, hu, hc⟩ := HR1.out.at_ hlt
            have hkl : k < st.length := by have := Hns.out; omega
            rw [nums_at st k hkl] at hu
            injection hu with hu
            subst hu
            have HZ' := Lib.hid (show wrap64 (y + st[k]) = wrap64 (st.take (k + 1)).sum by rw [sum_to st k hkl, HZ.out, wrapA])
            have lb := lt_of_cell hc
            generalize st[k] = t at hc HZ'
            clear HZ
            go_wp2_with (fail)
            exact ⟨⟨k + 1, _, by omega, by go_num, rfl, HZ'⟩, by simp [intOf]; omega⟩
          · obtain rfl : k = ns := by omega
            have hz : y = wrap64 st.sum := by rw [HZ.out, List.take_of_length_le (by have := Hns.out; omega)]
            obtain ⟨S, hS⟩ : ∃ S, S = st.sum := ⟨_, rfl⟩
            rw [← hS] at hz h0
            have Hz := Lib.hid hz
            clear HZ hlt HR1 hS hz
            go_wp2_with (fail)
            have hr2 := HR2'.out
            have ha2 := HA.out
            go_loop [13, 86] (fun q i => ∃ (k : Nat) (z : Int), k ≤ nws ∧ i = .int .i64 (k : Nat) ∧ q = .int .i64 z ∧ Hid (z = wrap64 (S + ((ws.take k).map rowSum).sum))) (fun _ i => nws - (intOf i).toNat)
            case atStart => exact ⟨0, y, Nat.zero_le _, rfl, rfl, by unfold Hid; rw [Hz.out, List.take_zero]; simp⟩
            case round =>
              obtain ⟨k, x, hk, rfl, rfl, HZ⟩ := hrel
              by_cases hlt : k < nws
              · have hkl : k < ws.length := by have := Hnws.out; omega
                obtain ⟨b2, o2, cs2, rfl, _, hw2, hc2⟩ := hr2.elem WaysCell.stable ha2 Hnws.out hkl
                obtain ⟨v2, rfl, Q1, q1, vs4, rfl, t1, t2, hr4, ha4⟩ := hw2
                have e2 := hc2 0 _ rfl
                simp only [Nat.mul_one, Nat.add_zero] at e2
                have HZ' := Lib.hid (show wrap64 (x + rowSum ws[k]) = wrap64 (S + ((ws.take (k + 1)).map rowSum).sum) by rw [sum_map_to rowSum ws k hkl, HZ.out, wrapA, Int.add_assoc])
                have lb := lt_of_cell e2
                generalize ws[k] = row at *
                obtain ⟨nr, hnr⟩ : ∃ r, r = row.length := ⟨_, rfl⟩
                rw [← hnr] at hr4 t1 e2
                have Hnr := Lib.hid hnr
                have m4 : nr ≤ 9223372036854775807 := by unfold maxLen at t2; omega
                have Hx := Lib.hid (show wrap64 x = x by rw [HZ.out]; exact wrapI _)
                clear hnr hc2 HZ
                go_wp2_with (fail)
                go_loop [13, 92] (fun q i => ∃ (j : Nat) (y : Int), j ≤ nr ∧ i = .int .i64 (j : Nat) ∧ q = .int .i64 y ∧ Hid (y = wrap64 (x + ((row.take j).map List.sum).sum))) (fun _ i => nr - (intOf i).toNat)
                case atStart => exact ⟨0, x, Nat.zero_le _, rfl, rfl, by unfold Hid; rw [List.take_zero]; simp only [List.map_nil, List.sum_nil, Int.add_zero]; exact Hx.out.symm⟩
                case round =>
                  obtain ⟨j, y, hj, rfl, rfl, HY⟩ := hrel
                  by_cases hltj : j < nr
                  · have hjl : j < row.length := by have := Hnr.out; omega
                    obtain ⟨b4, o4, cs4, rfl, _, hw4, hc4⟩ := hr4.elem NumsCell.stable ha4 Hnr.out hjl
                    obtain ⟨v4, rfl, Q2, nk, q2, rfl, t3, t4, hr5⟩ := hw4
                    have e4 := hc4 0 _ rfl
                    simp only [Nat.mul_one, Nat.add_zero] at e4
                    have HY' := Lib.hid (show wrap64 (y + row[j].sum) = wrap64 (x + ((row.take (j + 1)).map List.sum).sum) by
                      rw [sum_map_to List.sum row j hjl, HY.out, wrapA, Int.add_assoc])
                    have Hy := Lib.hid (show wrap64 y = y by rw [HY.out]; exact wrapI _)
                    have lb4 := lt_of_cell e4
                    generalize row[j] = nums1 at *
                    have Hnk : Hid (nk = nums1.length) := by have := hr5.len; rwa [nums_length] at this
                    have m5 : nk ≤ 9223372036854775807 := by unfold maxLen at t4; omega
                    clear hc4 HY
                    go_wp2_with (fail)
                    go_loop [13, 98] (fun q i => ∃ (a : Nat) (u : Int), a ≤ nk ∧ i = .int .i64 (a : Nat) ∧ q = .int .i64 u ∧ Hid (u = wrap64 (y + (nums1.take a).sum))) (fun _ i => nk - (intOf i).toNat)
                    case atStart => exact ⟨0, y, Nat.zero_le _, rfl, rfl, by unfold Hid; rw [List.take_zero, List.sum_nil, Int.add_zero]; exact Hy.out.symm⟩
                    case round =>
                      obtain ⟨a, u, ha, rfl, rfl, HU⟩ := hrel
                      by_cases hlta : a < nk
                      · obtain ⟨b, o, u', rfl, _, hu, hc⟩ := hr5.at_ hlta
                        have hal : a < nums1.length := by have := Hnk.out; omega
                        rw [nums_at nums1 a hal] at hu
                        injection hu with hu
                        subst hu
                        have HU' := Lib.hid (show wrap64 (u + nums1[a]) = wrap64 (y + (nums1.take (a + 1)).sum) by
                          rw [sum_to nums1 a hal, HU.out, wrapA, Int.add_assoc])
                        have lb5 := lt_of_cell hc
                        generalize nums1[a] = t at hc HU'
                        clear HU
                        go_wp2_with (fail)
                        exact ⟨⟨a + 1, _, by omega, by go_num, rfl, HU'⟩, by simp [intOf]; omega⟩
                      · obtain rfl : a = nk := by omega
                        have HU' := Lib.hid (show u = wrap64 (x + ((row.take (j + 1)).map List.sum).sum) by
                          rw [← HY'.out, HU.out, List.take_of_length_le (by have := Hnk.out; omega)])
                        clear HU hlta hr5
                        go_wp2_with (fail)
                        exact ⟨⟨j + 1, _, by omega, by go_num, rfl, HU'⟩, by simp [intOf]; omega⟩
                  · obtain rfl : j = nr := by omega
                    have HX := Lib.hid (show y = wrap64 (S + ((ws.take (k + 1)).map rowSum).sum) by
                      rw [← HZ'.out, HY.out, List.take_of_length_le (by have := Hnr.out; omega)]; rfl)
                    clear HY hltj hr4 ha4
                    go_wp2_with (fail)
                    exact ⟨⟨k + 1, _, by omega, by go_num, rfl, HX⟩, by simp [intOf]; omega⟩
              · obtain rfl : k = nws := by omega
                have hx : x = z := by
                  rw [HZ.out, List.take_of_length_le (by have := Hnws.out; omega), h0.out]
                  exact IntWalk.wrap64_in _ (by omega)
                subst hx
                clear HZ hlt hr2 ha2 HR2' HA
                go_wp2_with (fail)
                go_ret
                exact ⟨by simp, HF.out⟩
end Go.Proofs.Ytpnhmplinkakbaa
