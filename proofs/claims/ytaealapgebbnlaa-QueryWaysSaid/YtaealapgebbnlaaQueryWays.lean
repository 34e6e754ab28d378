/- Contract of the law QueryWays: true. (Printed by qrways.py.) -/
import Derived.Test.YtaealapgebbnlaaQrWay
import Derived.Test.YtaealapgebbnlaaQrUses
import Derived.Test.YtaealapgebbnlaaQueryReach
set_option linter.unusedVariables false
namespace Go.Md
theorem ReachOf.same {nm : List Bs} {ls : List (List Bs)} {l O P : List Bs} (h : ReachOf nm ls l O) (k : ReachOf nm ls l P) (s : Bs) : s ∈ O ↔ s ∈ P :=
  ⟨h.mi (· ∈ P) k.st k.cl s, k.mi (· ∈ O) h.st h.cl s⟩
theorem PathOf.mem {nm : List Bs} {ls : List (List Bs)} {a b : Bs} {P : List Bs} (h : PathOf nm ls a b P) (hu : UsesIn nm ls) (ha : a ∈ nm) (m : Nat) (x : Bs) (hx : P[m]? = some x) : x ∈ nm := by
  rcases m with _ | m
  · rw [h.fst] at hx
    injection hx with hx
    exact hx ▸ ha
  · have hl : m + 1 < P.length := (List.getElem?_eq_some_iff.1 hx).1
    exact hu.mem (h.st m _ x (List.getElem?_eq_getElem (show m < P.length by omega)) hx)
end Go.Md
namespace Go.Proofs.Ytaealapgebbnlaa
open Go.RowKit Go.Mem Go.Md Go.Maps
set_option maxRecDepth 100000 in
set_option maxHeartbeats 8000000 in
theorem queryWays_any (W : World) (A0 : Option Addr) (n0 c0 : Nat) (L : List Int) (hn0 : n0 = L.length) (hm0 : n0 ≤ maxLen) (hr : Reads W Any 1 A0 n0 (nums L)) (hL : ∀ x ∈ L, I64 x) (k : Int) (hk : I64 k) :
    Calls Try.prog 4 #[.slice A0 n0 c0, .int .i64 k] W fun e w' => e = .returned (.bool true) ∧ Below W.heap.size W w' := by
  have MA := Lib.hid (module_any A0 n0 c0 L W hr hn0 hm0 hL)
  have HI := Lib.hid hk
  clear hr hn0 hm0 hL hk
  go_enter Try.func4, Try.ntmps4
  go_wp2_with (fail)
  refine MA.out.mono ?_
  rintro e w1 ⟨cs, rfl, hmd, hb1⟩
  have md := fun (V : World) (hV : Below w1.heap.size w1 V) => (hmd.keep (Same.of_below hV fun _ _ h => h)).imp (D' := Any) fun _ _ _ => trivial
  have QR := Lib.hid (fun (V : World) (hV : Below w1.heap.size w1 V) => qreach_any cs (fnsF L 8) (bodyF L.length) V (md V hV) (fnsF_ok L) (bodyF_ok _) [90] (by decide))
  have QD := Lib.hid (fun (V : World) (hV : Below w1.heap.size w1 V) => qdead_any cs (fnsF L 8) (bodyF L.length) V (md V hV) (fnsF_ok L) (bodyF_ok _))
  have QU := Lib.hid (fun (V : World) (hV : Below w1.heap.size w1 V) => quses_any cs (fnsF L 8) (bodyF L.length) V (md V hV) (fnsF_ok L) (bodyF_ok _))
  have QW := Lib.hid (fun (V : World) (hV : Below w1.heap.size w1 V) => qway_any cs (fnsF L 8) (bodyF L.length) V (md V hV) (fnsF_ok L) (bodyF_ok _) [90])
  have hui := Lib.hid (usesA_in (fs := fnsF L 8) (z := bodyF L.length) hmd.ei.1 (fnsF_ok L) (bodyF_ok _))
  obtain ⟨us, hus⟩ : ∃ u, u = usesA (fnsF L 8) (bodyF L.length) := ⟨_, rfl⟩
  rw [← hus] at QR QD QU QW hui
  clear hus md
  obtain ⟨⟨AD, cD, AM, cM, AF, cF, AZ, cZ, vss, vs, rfl, _⟩, _⟩ := hmd
  have B1 := Lib.hid hb1
  obtain ⟨w3, hw3⟩ : ∃ V, V = (w1.alloc (.cells #[bst [109], .int .i64 1, .slice none 0 0, .slice AD 1 cD, .slice none 0 0, .slice none 0 0, .slice AF 8 cF, .slice AZ 1 cZ] 30)).alloc (.cells #[.string ⟨#[97]⟩, .string ⟨#[98]⟩, .string ⟨#[99]⟩, .string ⟨#[100]⟩, .string ⟨#[101]⟩, .string ⟨#[102]⟩, .string ⟨#[103]⟩, .string ⟨#[104]⟩, .string ⟨#[68]⟩, .string ⟨#[90]⟩] 9) := ⟨_, rfl⟩
  obtain ⟨PB, hPB⟩ : ∃ b, b = w1.heap.size := ⟨_, rfl⟩
  obtain ⟨NB, hNB⟩ : ∃ b, b = w1.heap.size + 1 := ⟨_, rfl⟩
  have b0 : Below w1.heap.size w1 (w1.alloc (.cells #[bst [109], .int .i64 1, .slice none 0 0, .slice AD 1 cD, .slice none 0 0, .slice none 0 0, .slice AF 8 cF, .slice AZ 1 cZ] 30)) := (Below.refl _ _).alloc (Nat.le_refl _) _
  have b3 : Below w1.heap.size w1 w3 := by rw [hw3]; exact b0.alloc b0.size _
  have fP : Blk w3 PB 30 [bst [109], .int .i64 1, .slice none 0 0, .slice AD 1 cD, .slice none 0 0, .slice none 0 0, .slice AF 8 cF, .slice AZ 1 cZ] := by rw [hw3, hPB]; exact (Blk.new w1 _ _).alloc _
  have fN : Blk w3 NB 9 (tenA.map bst) := by
    rw [hw3, hNB]
    have := Blk.new (w1.alloc (.cells #[bst [109], .int .i64 1, .slice none 0 0, .slice AD 1 cD, .slice none 0 0, .slice none 0 0, .slice AF 8 cF, .slice AZ 1 cZ] 30)) 9 (tenA.map bst)
    rw [World.size_alloc] at this
    exact this
  obtain ⟨r, hr, hr10⟩ : ∃ r : Nat, restI k 10 = (r : Int) ∧ r < 10 := by
    have h := restI_bd k 10 (by omega)
    exact ⟨(restI k 10).toNat, by omega, by omega⟩
  obtain ⟨b, hb⟩ : ∃ a, tenA[r]? = some a := ⟨_, List.getElem?_eq_getElem hr10⟩
  have hbm : b ∈ nmA := tenA_in b (List.mem_of_getElem? hb)
  obtain ⟨S, hS⟩ : ∃ S : ByteArray, S = ⟨b.toArray⟩ := ⟨_, rfl⟩
  have eb : bst b = .string S := by rw [hS]
  have cN : w3.cell? ⟨NB, r, none⟩ = some (.string S) := by
    rw [fN.cell r, List.getElem?_map, hb, hS]
    rfl
  have p0 := fP.cell 0
  have p1 := fP.cell 1
  have p2 := fP.cell 2
  have p3 := fP.cell 3
  have p4 := fP.cell 4
  have p5 := fP.cell 5
  have p6 := fP.cell 6
  have p7 := fP.cell 7
  simp only [List.getElem?_cons_zero, List.getElem?_cons_succ] at p0 p1 p2 p3 p4 p5 p6 p7
  have lp := lt_of_cell p0
  have lc := lt_of_cell cN
  have HR := Lib.hid hr
  have HW3 := Lib.hid (And.intro hw3 (And.intro hPB hNB))
  have HP := Lib.hid (And.intro fP b3)
  have HB := Lib.hid (And.intro hbm (And.intro hS eb))
  clear hr hb1 hw3 hPB hNB b0 b3 fP fN hb hbm hS eb
  go_wp2_with (fail)
  rw [← HW3.out.1, ← HW3.out.2.2, ← HW3.out.2.1]
  refine (rest_any k 10 w3 HI.out (by omega) (by omega)).mono ?_
  rintro e w' ⟨rfl, rfl⟩
  rw [HR.out]
  go_wp2_with (fail)
  refine (QR.out w3 HP.out.2).mono ?_
  rintro e w4 ⟨Ar, cr, nr, O, rfl, hnr, hnr10, hrd, hro, hb4⟩
  have fP4 := HP.out.1.below hb4 HP.out.1.lt
  have H4 := Lib.hid (And.intro hrd (And.intro hro (And.intro (below_next hb4 HP.out.2) fP4)))
  clear hnr hrd hro hb4 fP4 cN lc p0 p1 p2 p3 p4 p5 p6 p7 lp
  have p0 := H4.out.2.2.2.cell 0
  have p1 := H4.out.2.2.2.cell 1
  have p2 := H4.out.2.2.2.cell 2
  have p3 := H4.out.2.2.2.cell 3
  have p4 := H4.out.2.2.2.cell 4
  have p5 := H4.out.2.2.2.cell 5
  have p6 := H4.out.2.2.2.cell 6
  have p7 := H4.out.2.2.2.cell 7
  simp only [List.getElem?_cons_zero, List.getElem?_cons_succ] at p0 p1 p2 p3 p4 p5 p6 p7
  have lp := lt_of_cell p0
  go_wp2_with (fail)
  have q := QW.out w4 H4.out.2.2.1 b (by decide) HB.out.1 O H4.out.2.1
  rw [HB.out.2.2] at q
  refine q.mono ?_
  clear q p0 p1 p2 p3 p4 p5 p6 p7 lp
  rintro e w5 ⟨hb5, hway⟩
  have fP5 := H4.out.2.2.2.below hb5 H4.out.2.2.2.lt
  have H5 := Lib.hid (And.intro (H4.out.1.keep (Same.any hb5)) (And.intro (below_next hb5 H4.out.2.2.1) fP5))
  have hzO : [90] ∈ O := H4.out.2.1.st _ (by simp)
  have HZ := Lib.hid hzO
  clear hzO hb5 fP5
  have p0 := H5.out.2.2.cell 0
  have p1 := H5.out.2.2.cell 1
  have p2 := H5.out.2.2.cell 2
  have p3 := H5.out.2.2.cell 3
  have p4 := H5.out.2.2.cell 4
  have p5 := H5.out.2.2.cell 5
  have p6 := H5.out.2.2.cell 6
  have p7 := H5.out.2.2.cell 7
  simp only [List.getElem?_cons_zero, List.getElem?_cons_succ] at p0 p1 p2 p3 p4 p5 p6 p7
  have lp := lt_of_cell p0
  rcases hway with ⟨hbO, Aw, cw, n, P, rfl, hn, hrp, hpa⟩ | ⟨hbO, rfl⟩
  · have HO := Lib.hid hbO
    have HPA := Lib.hid (And.intro hpa (And.intro hn hrp))
    have hn10 : n ≤ 10 := by rw [hn]; exact hpa.ln
    have hnp : 0 < n := by rw [hn]; exact hpa.ne
    clear hbO hpa hn hrp
    go_wp2_with (fail)
    have q := contains_any Any Ar nr cr (srt O) [90] w5 H5.out.1 (by omega)
    rw [decide_eq_true (List.mem_mergeSort.2 HZ.out)] at q
    refine q.mono ?_
    clear q
    rintro e w' ⟨rfl, rfl⟩
    go_wp2_with (fail)
    refine (QD.out w5 H5.out.2.1).mono ?_
    rintro e w6 ⟨Ad, cd, nd, O2, D, rfl, hnd, hnd10, hrd6, hro6, hdd, hb6⟩
    have hbD : decide (b ∈ srt D) = false := by
      have h1 := H4.out.2.1.same hro6 b
      have h2 := hdd b HB.out.1
      have h3 := HO.out
      rw [decide_eq_false_iff_not, List.mem_mergeSort, h2, ← h1]
      exact fun h => h h3
    have q := contains_any Any Ad nd cd (srt D) b w6 hrd6 (by omega)
    rw [hbD, HB.out.2.2] at q
    have Q1 := Lib.hid q
    have H6 := Lib.hid (And.intro (H5.out.1.keep (Same.any hb6)) (And.intro (below_next hb6 H5.out.2.1) (And.intro (H5.out.2.2.below hb6 H5.out.2.2.lt) hb6)))
    clear q hbD hnd hrd6 hro6 hdd hb6 p0 p1 p2 p3 p4 p5 p6 p7 lp
    go_wp2_with (fail)
    refine Q1.out.mono ?_
    rintro e w' ⟨rfl, rfl⟩
    have q := contains_any Any Ar nr cr (srt O) b w6 H6.out.1 (by omega)
    rw [show decide (b ∈ srt O) = true from decide_eq_true (List.mem_mergeSort.2 HO.out), HB.out.2.2] at q
    have Q2 := Lib.hid q
    clear q
    go_wp2_with (fail)
    refine Q2.out.mono ?_
    rintro e w' ⟨rfl, rfl⟩
    go_wp2_with (fail)
    refine Q2.out.mono ?_
    rintro e w' ⟨rfl, rfl⟩
    have rp6 := HPA.out.2.2.keep (Same.any H6.out.2.2.2)
    obtain ⟨wb, wo, rfl, _, hc⟩ := rp6.2 (by omega)
    obtain ⟨n1, rfl⟩ : ∃ n1, n = n1 + 1 := ⟨n - 1, by omega⟩
    have z0 : w6.cell? ⟨wb, wo, none⟩ = some (.string ⟨#[90]⟩) := hc 0 _ (by rw [List.getElem?_map, HPA.out.1.fst]; rfl)
    have zl : w6.cell? ⟨wb, wo + n1, none⟩ = some (.string S) := hc n1 _ (by
      have h1 := HPA.out.1.lst
      rw [List.getLast?_eq_getElem?, ← HPA.out.2.1, Nat.add_sub_cancel] at h1
      rw [List.getElem?_map, h1, HB.out.2.1]
      rfl)
    have lz := lt_of_cell z0
    have HC := Lib.hid hc
    clear rp6 hc
    go_wp2_with (fail)
    clear z0 zl lz
    go_loopw [12] (fun v wr => ∃ j : Nat, j ≤ n1 ∧ v = .int .i64 ((j : Int) + 1) ∧ Hid (Below w6.heap.size w6 wr)) (fun v _ => n1 + 1 - (intOf v).toNat)
    case atStart => exact ⟨0, Nat.zero_le _, by simp, Below.refl _ _⟩
    case round =>
      obtain ⟨j, hj, rfl, HJ⟩ := hrel
      by_cases hlt : j < n1
      · obtain ⟨x, hx⟩ : ∃ x, P[j]? = some x := ⟨_, List.getElem?_eq_getElem (by have := HPA.out.2.1; omega)⟩
        obtain ⟨y, hy⟩ : ∃ x, P[j + 1]? = some x := ⟨_, List.getElem?_eq_getElem (by have := HPA.out.2.1; omega)⟩
        have hxy := HPA.out.1.st j x y hx hy
        have hxm : x ∈ nmA := HPA.out.1.mem hui.out (by decide) j x hx
        obtain ⟨X, hX⟩ : ∃ S : ByteArray, S = ⟨x.toArray⟩ := ⟨_, rfl⟩
        obtain ⟨Y, hY⟩ : ∃ S : ByteArray, S = ⟨y.toArray⟩ := ⟨_, rfl⟩
        have ex : bst x = .string X := by rw [hX]
        have ey : bst y = .string Y := by rw [hY]
        have zx : w6.cell? ⟨wb, wo + j, none⟩ = some (.string X) := HC.out j _ (by rw [List.getElem?_map, hx, ← ex]; rfl)
        have zy : w6.cell? ⟨wb, wo + (j + 1), none⟩ = some (.string Y) := HC.out (j + 1) _ (by rw [List.getElem?_map, hy, ← ey]; rfl)
        have lzx := lt_of_cell zx
        have hj1 : ¬ ((n1 : Int) + 1 ≤ (j : Int)) := by omega
        have hj2 : ¬ ((n1 : Int) ≤ (j : Int)) := by omega
        have hwj : IntKind.i64.wrap (j : Int) = (j : Int) := IntWalk.i64_in _ (by omega)
        have mk := fun (V : World) (hV : Below wr.heap.size wr V) => (show V.cell? ⟨wb, wo + j, none⟩ = some (.string X) ∧ V.cell? ⟨wb, wo + (j + 1), none⟩ = some (.string Y) ∧ V.cell? ⟨PB, 0, none⟩ = some (bst [109]) ∧ V.cell? ⟨PB, 1, none⟩ = some (.int .i64 1) ∧ V.cell? ⟨PB, 2, none⟩ = some (.slice none 0 0) ∧ V.cell? ⟨PB, 3, none⟩ = some (.slice AD 1 cD) ∧ V.cell? ⟨PB, 4, none⟩ = some (.slice none 0 0) ∧ V.cell? ⟨PB, 5, none⟩ = some (.slice none 0 0) ∧ V.cell? ⟨PB, 6, none⟩ = some (.slice AF 8 cF) ∧ V.cell? ⟨PB, 7, none⟩ = some (.slice AZ 1 cZ) from
          ⟨((below_next hV HJ.out).cell (p := ⟨wb, wo + j, none⟩) lzx).trans zx, ((below_next hV HJ.out).cell (p := ⟨wb, wo + (j + 1), none⟩) lzx).trans zy, (H6.out.2.2.1.below (below_next hV HJ.out) H6.out.2.2.1.lt).cell 0, (H6.out.2.2.1.below (below_next hV HJ.out) H6.out.2.2.1.lt).cell 1, (H6.out.2.2.1.below (below_next hV HJ.out) H6.out.2.2.1.lt).cell 2, (H6.out.2.2.1.below (below_next hV HJ.out) H6.out.2.2.1.lt).cell 3, (H6.out.2.2.1.below (below_next hV HJ.out) H6.out.2.2.1.lt).cell 4, (H6.out.2.2.1.below (below_next hV HJ.out) H6.out.2.2.1.lt).cell 5, (H6.out.2.2.1.below (below_next hV HJ.out) H6.out.2.2.1.lt).cell 6, (H6.out.2.2.1.below (below_next hV HJ.out) H6.out.2.2.1.lt).cell 7⟩)
        have bdr : Below wr.heap.size wr wr.drew := (Below.refl _ _).drew
        have hS := mk wr.drew bdr
        have q := QU.out wr.drew (below_next (below_next bdr HJ.out) H6.out.2.1) x hxm
        rw [ex] at q
        have Q7 := Lib.hid q
        have MKK := Lib.hid mk
        have BD := Lib.hid bdr
        have HXY := Lib.hid (And.intro hxy ey)
        clear hx hy hxy hxm hX hY ex ey zx zy lzx mk bdr q
        go_wp2_with (fail)
        refine wp_region_g (S := fun V => V.cell? ⟨wb, wo + j, none⟩ = some (.string X) ∧ V.cell? ⟨wb, wo + (j + 1), none⟩ = some (.string Y) ∧ V.cell? ⟨PB, 0, none⟩ = some (bst [109]) ∧ V.cell? ⟨PB, 1, none⟩ = some (.int .i64 1) ∧ V.cell? ⟨PB, 2, none⟩ = some (.slice none 0 0) ∧ V.cell? ⟨PB, 3, none⟩ = some (.slice AD 1 cD) ∧ V.cell? ⟨PB, 4, none⟩ = some (.slice none 0 0) ∧ V.cell? ⟨PB, 5, none⟩ = some (.slice none 0 0) ∧ V.cell? ⟨PB, 6, none⟩ = some (.slice AF 8 cF) ∧ V.cell? ⟨PB, 7, none⟩ = some (.slice AZ 1 cZ)) (m := 12) (by kernel_rfl) ?_
        repeat (first | (refine wpAnyG_take (i := 0) (v := .agg #[bst [109], .int .i64 1, .slice none 0 0, .slice AD 1 cD, .slice none 0 0, .slice none 0 0, .slice AF 8 cF, .slice AZ 1 cZ]) rfl ?_ ?_ ?_ (fun _ _ _ h => h) (Or.inl ⟨by rfl, ?_⟩) hS ?_; (· decide +kernel); (· decide +kernel); (· decide +kernel); (· (intro w' hS'; (try dsimp only at hS'); go_split_ands; go_simp))) | (refine wpAnyG_take (i := 1) (v := .slice (some ⟨wb, wo, none⟩) (n1 + 1) cw) rfl ?_ ?_ ?_ (fun _ _ _ h => h) (Or.inl ⟨by rfl, ?_⟩) hS ?_; (· decide +kernel); (· decide +kernel); (· decide +kernel); (· (intro w' hS'; (try dsimp only at hS'); go_split_ands; go_simp))) | (refine wpAnyG_take (i := 2) (v := .int .i64 ((j : Int) + 1)) rfl ?_ ?_ ?_ (fun _ _ _ h => h) (Or.inl ⟨by rfl, ?_⟩) hS ?_; (· decide +kernel); (· decide +kernel); (· decide +kernel); (· (intro w' hS'; (try dsimp only at hS'); go_split_ands; go_simp))) | (refine wpAnyG_take (i := 3) (v := .int .i64 (j : Int)) rfl ?_ ?_ ?_ (fun _ _ _ h => h) (Or.inl ⟨by rfl, ?_⟩) hS ?_; (· decide +kernel); (· decide +kernel); (· decide +kernel); (· (intro w' hS'; (try dsimp only at hS'); go_split_ands; go_simp))) | (refine wpAnyG_take (i := 4) (v := .pointer (some ⟨wb, wo + j, none⟩)) rfl ?_ ?_ ?_ (fun _ _ _ h => h) (Or.inl ⟨by rfl, ?_⟩) hS ?_; (· decide +kernel); (· decide +kernel); (· decide +kernel); (· (intro w' hS'; (try dsimp only at hS'); go_split_ands; go_simp))) | (refine wpAnyG_take (i := 5) (v := .string X) rfl ?_ ?_ ?_ (fun _ _ _ h => h) (Or.inl ⟨by rfl, ?_⟩) hS ?_; (· decide +kernel); (· decide +kernel); (· decide +kernel); (· (intro w' hS'; (try dsimp only at hS'); go_split_ands; go_simp))))
        refine wpAnyG_ready (rs := [6]) (by decide +kernel) (by simp) ?_
        refine AllReadyG.cons rfl (fun K hK => ?_) AllReadyG.nil
        go_simp
        refine Q7.out.mono ?_
        rintro e w7 ⟨A7, c7, n7, rfl, hn7, hn710, hr7, hb7⟩
        replace hS := MKK.out w7 (below_next hb7 BD.out)
        have H7 := Lib.hid (And.intro hr7 (below_next (below_next hb7 BD.out) HJ.out))
        clear hn7 hr7 hb7
        try dsimp only
        refine hK _ _ (fun _ => hS) ?_
        clear hK K
        repeat (first | (refine wpAnyG_take (i := 7) (v := .tuple #[.slice A7 n7 c7, .int .i64 0]) rfl ?_ ?_ ?_ (fun _ _ _ h => h) (Or.inl ⟨by rfl, ?_⟩) hS ?_; (· decide +kernel); (· decide +kernel); (· decide +kernel); (· (intro w' hS'; (try dsimp only at hS'); go_split_ands; go_simp))) | (refine wpAnyG_take (i := 8) (v := .slice A7 n7 c7) rfl ?_ ?_ ?_ (fun _ _ _ h => h) (Or.inl ⟨by rfl, ?_⟩) hS ?_; (· decide +kernel); (· decide +kernel); (· decide +kernel); (· (intro w' hS'; (try dsimp only at hS'); go_split_ands; go_simp))) | (refine wpAnyG_take (i := 9) (v := .int .i64 0) rfl ?_ ?_ ?_ (fun _ _ _ h => h) (Or.inl ⟨by rfl, ?_⟩) hS ?_; (· decide +kernel); (· decide +kernel); (· decide +kernel); (· (intro w' hS'; (try dsimp only at hS'); go_split_ands; go_simp))) | (refine wpAnyG_take (i := 10) (v := .slice A7 n7 c7) rfl ?_ ?_ ?_ (fun _ _ _ h => h) (Or.inl ⟨by rfl, ?_⟩) hS ?_; (· decide +kernel); (· decide +kernel); (· decide +kernel); (· (intro w' hS'; (try dsimp only at hS'); go_split_ands; go_simp))))
        refine wpAnyG_ready (rs := [11]) (by decide +kernel) (by simp) ?_
        refine AllReadyG.cons rfl (fun K hK => ?_) AllReadyG.nil
        go_simp
        refine hK _ _ (fun _ => hS) ?_
        clear hK K
        refine wpAnyG_done (by decide +kernel) ?_ _
        have zy := hS.2.1
        have lzy := lt_of_cell zy
        have q := contains_any Any A7 n7 c7 _ y w7 H7.out.1 (by omega)
        rw [decide_eq_true (List.mem_mergeSort.2 HXY.out.1), HXY.out.2] at q
        have Q8 := Lib.hid q
        clear hS q
        go_wp2_with (fail)
        refine Q8.out.mono ?_
        rintro e w' ⟨rfl, rfl⟩
        go_wp2_with (fail)
        exact ⟨⟨j + 1, by omega, by rw [Int.natCast_add]; rfl, H7.out.2⟩, by simp only [intOf]; omega⟩
      · obtain rfl : j = n1 := by omega
        go_wp2_with (fail)
        go_ret
        exact ⟨rfl, below_next (below_next HJ.out H6.out.2.1) B1.out⟩
  · have HO := Lib.hid hbO
    clear hbO
    go_wp2_with (fail)
    have q := contains_any Any Ar nr cr (srt O) [90] w5 H5.out.1 (by omega)
    rw [decide_eq_true (List.mem_mergeSort.2 HZ.out)] at q
    refine q.mono ?_
    clear q
    rintro e w' ⟨rfl, rfl⟩
    go_wp2_with (fail)
    refine (QD.out w5 H5.out.2.1).mono ?_
    rintro e w6 ⟨Ad, cd, nd, O2, D, rfl, hnd, hnd10, hrd6, hro6, hdd, hb6⟩
    have hbD : decide (b ∈ srt D) = true := by
      have h1 := H4.out.2.1.same hro6 b
      have h2 := hdd b HB.out.1
      have h3 := HO.out
      rw [decide_eq_true_iff, List.mem_mergeSort, h2, ← h1]
      exact h3
    have q := contains_any Any Ad nd cd (srt D) b w6 hrd6 (by omega)
    rw [hbD, HB.out.2.2] at q
    have Q1 := Lib.hid q
    have H6 := Lib.hid (And.intro (H5.out.1.keep (Same.any hb6)) (And.intro (below_next hb6 H5.out.2.1) (And.intro (H5.out.2.2.below hb6 H5.out.2.2.lt) hb6)))
    clear q hbD hnd hrd6 hro6 hdd hb6 p0 p1 p2 p3 p4 p5 p6 p7 lp
    go_wp2_with (fail)
    refine Q1.out.mono ?_
    rintro e w' ⟨rfl, rfl⟩
    have q := contains_any Any Ar nr cr (srt O) b w6 H6.out.1 (by omega)
    rw [show decide (b ∈ srt O) = false from decide_eq_false (fun h => HO.out (List.mem_mergeSort.1 h)), HB.out.2.2] at q
    have Q2 := Lib.hid q
    clear q
    go_wp2_with (fail)
    refine Q2.out.mono ?_
    rintro e w' ⟨rfl, rfl⟩
    go_wp2_with (fail)
    refine Q2.out.mono ?_
    rintro e w' ⟨rfl, rfl⟩
    go_wp2_with (fail)
    go_ret
    exact ⟨rfl, below_next H6.out.2.1 B1.out⟩
end Go.Proofs.Ytaealapgebbnlaa
