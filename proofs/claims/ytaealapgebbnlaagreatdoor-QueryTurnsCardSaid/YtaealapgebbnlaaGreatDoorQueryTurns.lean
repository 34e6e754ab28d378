/- Contract of the law QueryTurns: true. (Printed by qrturns.py.) -/
import Derived.Test.YtaealapgebbnlaaGreatDoorQtWho
import Derived.Test.YtaealapgebbnlaaGreatDoorQtAsk
import Derived.Test.YtaealapgebbnlaaGreatDoorQtSorted
set_option linter.unusedVariables false
namespace Go.Proofs.YtaealapgebbnlaaGreatDoor
open Go.RowKit Go.Mem Go.Md Go.Maps
theorem letF_nm (n : Int) : [letF n] ∈ nmA := by
  have h : ∀ r, r < 8 → [UInt8.ofNat (97 + r)] ∈ nmA := by decide +kernel
  have h8 := restI_bd n 8 (by omega)
  exact h _ (by omega)
theorem bodyF_ok (n : Int) : BdOk (bodyF n) := by
  unfold bodyF
  split
  · trivial
  · exact ⟨letF_nm _, letF_nm _⟩
theorem fnsF_ok (L : List Int) : ∀ f ∈ fnsF L 8, BdOk f.2 := by
  intro f hf
  unfold fnsF at hf
  obtain ⟨i, _, rfl⟩ := List.mem_map.1 hf
  exact bodyF_ok _
def tenA : List Bs := [[97], [98], [99], [100], [101], [102], [103], [104], [68], [90]]
theorem tenA_in : ∀ s ∈ tenA, s ∈ nmA := by decide +kernel
set_option maxRecDepth 100000 in
set_option maxHeartbeats 8000000 in
theorem queryTurns_any (W : World) (hv : Env W) (A0 : Option Addr) (n0 c0 : Nat) (L : List Int) (hn0 : n0 = L.length) (hm0 : n0 ≤ maxLen) (hr : Reads W Any 1 A0 n0 (nums L)) (hL : ∀ x ∈ L, I64 x) (i k : Int) (hi : I64 i) (hk : I64 k) :
    Calls Tryz.prog 3 #[.slice A0 n0 c0, .int .i64 i, .int .i64 k] W fun e w' => e = .returned (.bool true) ∧ Below W.heap.size W w' := by
  have MA := Lib.hid (module_any A0 n0 c0 L W hr hn0 hm0 hL)
  have HI := Lib.hid (And.intro hi hk)
  have HV := Lib.hid hv
  clear hr hn0 hm0 hL hi hk hv
  go_enter Tryz.func3, Tryz.ntmps3
  go_wp2_with (fail)
  refine MA.out.mono ?_
  rintro e w1 ⟨cs, rfl, hmd, hb1⟩
  have md := fun (V : World) (hV : Below w1.heap.size w1 V) => (hmd.keep (Same.of_below hV fun _ _ h => h)).imp (D' := Any) fun _ _ _ => trivial
  have QU := Lib.hid (fun (V : World) (hV : Below w1.heap.size w1 V) => quses_any cs (fnsF L 8) (bodyF L.length) V (md V hV) (fnsF_ok L) (bodyF_ok _))
  have QH := Lib.hid (fun (V : World) (hV : Below w1.heap.size w1 V) => qwho_any cs (fnsF L 8) (bodyF L.length) V (md V hV) (fnsF_ok L) (bodyF_ok _))
  have QA := Lib.hid (fun (V : World) (hV : Below w1.heap.size w1 V) => qask_any cs (fnsF L 8) (bodyF L.length) V (md V hV) (fnsF_ok L) (bodyF_ok _))
  obtain ⟨us, hus⟩ : ∃ u, u = usesA (fnsF L 8) (bodyF L.length) := ⟨_, rfl⟩
  rw [← hus] at QU QH
  clear hus md
  obtain ⟨⟨AD, cD, AM, cM, AF, cF, AZ, cZ, vss, vs, rfl, _⟩, _⟩ := hmd
  have B1 := Lib.hid hb1
  obtain ⟨w3, hw3⟩ : ∃ V, V = (w1.alloc (.cells #[bst [109], .int .i64 1, .slice none 0 0, .slice AD 1 cD, .slice none 0 0, .slice none 0 0, .slice AF 8 cF, .slice AZ 1 cZ] 30)).alloc (.cells #[.string ⟨#[97]⟩, .string ⟨#[98]⟩, .string ⟨#[99]⟩, .string ⟨#[100]⟩, .string ⟨#[101]⟩, .string ⟨#[102]⟩, .string ⟨#[103]⟩, .string ⟨#[104]⟩, .string ⟨#[68]⟩, .string ⟨#[90]⟩] 9) := ⟨_, rfl⟩
  obtain ⟨PB, hPB⟩ : ∃ b, b = w1.heap.size := ⟨_, rfl⟩
  obtain ⟨NB, hNB⟩ : ∃ b, b = w1.heap.size + 1 := ⟨_, rfl⟩
  have b0 : Below w1.heap.size w1 (w1.alloc (.cells #[bst [109], .int .i64 1, .slice none 0 0, .slice AD 1 cD, .slice none 0 0, .slice none 0 0, .slice AF 8 cF, .slice AZ 1 cZ] 30)) := (Below.refl _ _).alloc (Nat.le_refl _) _
  have b3 : Below w1.heap.size w1 w3 := by rw [hw3]; exact b0.alloc b0.size _
  have fP : Blk w3 PB 30 [bst [109], .int .i64 1, .slice none 0 0, .slice AD 1 cD, .slice none 0 0, .slice none 0 0, .slice AF 8 cF, .slice AZ 1 cZ] := by rw [hw3, hPB]; exact (Blk.new w1 _ _).alloc _
  have fN : Blk w3 NB 9 (tenA.map bst) := by
    rw [hw3, hNB]
    have := Blk.new (w1.alloc (.cells #[bst [109], .int .i64 1, .slice none 0 0, .slice AD 1 cD, .slice none 0 0, .slice none 0 0, .slice AF 8 cF, .slice AZ 1 cZ] 30)) 9 (tenA.map bst)
    rw [World.size_alloc] at this
    exact this
  obtain ⟨r, hr, hr10⟩ : ∃ r : Nat, restI i 10 = (r : Int) ∧ r < 10 := by
    have h := restI_bd i 10 (by omega)
    exact ⟨(restI i 10).toNat, by omega, by omega⟩
  obtain ⟨q, hq, hq10⟩ : ∃ r : Nat, restI k 10 = (r : Int) ∧ r < 10 := by
    have h := restI_bd k 10 (by omega)
    exact ⟨(restI k 10).toNat, by omega, by omega⟩
  obtain ⟨a, ha⟩ : ∃ a, tenA[r]? = some a := ⟨_, List.getElem?_eq_getElem hr10⟩
  obtain ⟨b, hb⟩ : ∃ a, tenA[q]? = some a := ⟨_, List.getElem?_eq_getElem hq10⟩
  have ham : a ∈ nmA := tenA_in a (List.mem_of_getElem? ha)
  have hbm : b ∈ nmA := tenA_in b (List.mem_of_getElem? hb)
  obtain ⟨SA, hSA⟩ : ∃ S : ByteArray, S = ⟨a.toArray⟩ := ⟨_, rfl⟩
  obtain ⟨SB, hSB⟩ : ∃ S : ByteArray, S = ⟨b.toArray⟩ := ⟨_, rfl⟩
  have ea : bst a = .string SA := by rw [hSA]
  have eb : bst b = .string SB := by rw [hSB]
  have ca : w3.drew.cell? ⟨NB, r, none⟩ = some (.string SA) := by
    rw [fN.drew.cell r, List.getElem?_map, ha, ← ea]
    rfl
  have cb : w3.drew.cell? ⟨NB, q, none⟩ = some (.string SB) := by
    rw [fN.drew.cell q, List.getElem?_map, hb, ← eb]
    rfl
  have RA := Lib.hid (rest_any i 10 w3.drew HI.out.1 (by omega) (by omega))
  have RB := Lib.hid (rest_any k 10 w3.drew HI.out.2 (by omega) (by omega))
  rw [hr] at RA
  rw [hq] at RB
  have HW3 := Lib.hid (And.intro hw3 (And.intro hPB hNB))
  have HP := Lib.hid (And.intro fP.drew b3.drew)
  have HA := Lib.hid (And.intro ham (And.intro hbm (And.intro ea eb)))
  clear hr hq hb1 hw3 hPB hNB b0 b3 fP fN ha hb ham hbm hSA hSB ea eb
  go_wp2_with (fail)
  rw [← HW3.out.1, ← HW3.out.2.2, ← HW3.out.2.1]
  go_cut [9, 10] (fun v9 v10 wc => v9 = .string SA ∧ v10 = .string SB ∧ wc = w3.drew)
  case first =>
    refine wp_region_g (S := fun Y => Y = w3.drew) (m := 12) (by kernel_rfl) ?_
    have hS : w3.drew = w3.drew := rfl
    have hra : ¬ ((10 : Int) ≤ (r : Int)) := by omega
    have hqa : ¬ ((10 : Int) ≤ (q : Int)) := by omega
    repeat (first | (refine wpAnyG_take (i := 0) (v := .slice (some ⟨NB, 0, none⟩) 10 10) rfl ?_ ?_ ?_ (fun _ _ _ h => h) (Or.inl ⟨by rfl, ?_⟩) hS ?_; (· decide +kernel); (· decide +kernel); (· decide +kernel); (· (intro w' hS'; subst hS'; go_simp))) | (refine wpAnyG_take (i := 1) (v := .int .i64 i) rfl ?_ ?_ ?_ (fun _ _ _ h => h) (Or.inl ⟨by rfl, ?_⟩) hS ?_; (· decide +kernel); (· decide +kernel); (· decide +kernel); (· (intro w' hS'; subst hS'; go_simp))) | (refine wpAnyG_take (i := 5) (v := .slice (some ⟨NB, 0, none⟩) 10 10) rfl ?_ ?_ ?_ (fun _ _ _ h => h) (Or.inl ⟨by rfl, ?_⟩) hS ?_; (· decide +kernel); (· decide +kernel); (· decide +kernel); (· (intro w' hS'; subst hS'; go_simp))) | (refine wpAnyG_take (i := 6) (v := .int .i64 k) rfl ?_ ?_ ?_ (fun _ _ _ h => h) (Or.inl ⟨by rfl, ?_⟩) hS ?_; (· decide +kernel); (· decide +kernel); (· decide +kernel); (· (intro w' hS'; subst hS'; go_simp))))
    refine wpAnyG_ready (rs := [2]) (by decide +kernel) (by simp) ?_
    refine AllReadyG.cons rfl (fun K hK => ?_) AllReadyG.nil
    go_simp
    refine RA.out.mono ?_
    rintro e w' ⟨rfl, rfl⟩
    try dsimp only
    refine hK _ _ (fun _ => rfl) ?_
    clear hK K
    repeat (first | (refine wpAnyG_take (i := 3) (v := .pointer (some ⟨NB, r, none⟩)) rfl ?_ ?_ ?_ (fun _ _ _ h => h) (Or.inl ⟨by rfl, ?_⟩) hS ?_; (· decide +kernel); (· decide +kernel); (· decide +kernel); (· (intro w' hS'; subst hS'; go_simp))) | (refine wpAnyG_take (i := 4) (v := .string SA) rfl ?_ ?_ ?_ (fun _ _ _ h => h) (Or.inl ⟨by rfl, ?_⟩) hS ?_; (· decide +kernel); (· decide +kernel); (· decide +kernel); (· (intro w' hS'; subst hS'; go_simp))) | (refine wpAnyG_take (i := 10) (v := .string SA) rfl ?_ ?_ ?_ (fun _ _ _ h => h) (Or.inl ⟨by rfl, ?_⟩) hS ?_; (· decide +kernel); (· decide +kernel); (· decide +kernel); (· (intro w' hS'; subst hS'; go_simp))))
    refine wpAnyG_ready (rs := [7]) (by decide +kernel) (by simp) ?_
    refine AllReadyG.cons rfl (fun K hK => ?_) AllReadyG.nil
    go_simp
    refine RB.out.mono ?_
    rintro e w' ⟨rfl, rfl⟩
    try dsimp only
    refine hK _ _ (fun _ => rfl) ?_
    clear hK K
    repeat (first | (refine wpAnyG_take (i := 8) (v := .pointer (some ⟨NB, q, none⟩)) rfl ?_ ?_ ?_ (fun _ _ _ h => h) (Or.inl ⟨by rfl, ?_⟩) hS ?_; (· decide +kernel); (· decide +kernel); (· decide +kernel); (· (intro w' hS'; subst hS'; go_simp))) | (refine wpAnyG_take (i := 9) (v := .string SB) rfl ?_ ?_ ?_ (fun _ _ _ h => h) (Or.inl ⟨by rfl, ?_⟩) hS ?_; (· decide +kernel); (· decide +kernel); (· decide +kernel); (· (intro w' hS'; subst hS'; go_simp))) | (refine wpAnyG_take (i := 10) (v := .string SA) rfl ?_ ?_ ?_ (fun _ _ _ h => h) (Or.inl ⟨by rfl, ?_⟩) hS ?_; (· decide +kernel); (· decide +kernel); (· decide +kernel); (· (intro w' hS'; subst hS'; go_simp))) | (refine wpAnyG_take (i := 3) (v := .pointer (some ⟨NB, r, none⟩)) rfl ?_ ?_ ?_ (fun _ _ _ h => h) (Or.inl ⟨by rfl, ?_⟩) hS ?_; (· decide +kernel); (· decide +kernel); (· decide +kernel); (· (intro w' hS'; subst hS'; go_simp))) | (refine wpAnyG_take (i := 4) (v := .string SA) rfl ?_ ?_ ?_ (fun _ _ _ h => h) (Or.inl ⟨by rfl, ?_⟩) hS ?_; (· decide +kernel); (· decide +kernel); (· decide +kernel); (· (intro w' hS'; subst hS'; go_simp))) | (refine wpAnyG_take (i := 10) (v := .string SA) rfl ?_ ?_ ?_ (fun _ _ _ h => h) (Or.inl ⟨by rfl, ?_⟩) hS ?_; (· decide +kernel); (· decide +kernel); (· decide +kernel); (· (intro w' hS'; subst hS'; go_simp))))
    refine wpAnyG_ready (rs := [11]) (by decide +kernel) (by simp) ?_
    refine AllReadyG.cons rfl (fun K hK => ?_) AllReadyG.nil
    go_simp
    refine hK _ _ (fun _ => rfl) ?_
    clear hK K
    refine wpAnyG_done (by decide +kernel) ?_ _
    go_wp2_with (fail)
    go_meet
    exact ⟨rfl, rfl, rfl⟩
  case rest =>
    obtain ⟨rfl, rfl, rfl⟩ := hcut
    clear ca cb
    have p0 := HP.out.1.cell 0
    have p1 := HP.out.1.cell 1
    have p2 := HP.out.1.cell 2
    have p3 := HP.out.1.cell 3
    have p4 := HP.out.1.cell 4
    have p5 := HP.out.1.cell 5
    have p6 := HP.out.1.cell 6
    have p7 := HP.out.1.cell 7
    simp only [List.getElem?_cons_zero, List.getElem?_cons_succ] at p0 p1 p2 p3 p4 p5 p6 p7
    have lp := lt_of_cell p0
    have q1 := QU.out _ HP.out.2 a HA.out.1
    rw [HA.out.2.2.1] at q1
    go_wp2_with (fail)
    refine q1.mono ?_
    clear q1 p0 p1 p2 p3 p4 p5 p6 p7 lp
    rintro e w4 ⟨A1, c1, n1, rfl, hn1, hn110, hr1, hb4⟩
    have fP4 := HP.out.1.below hb4 HP.out.1.lt
    have H4 := Lib.hid (And.intro hr1 (And.intro fP4 (below_next hb4 HP.out.2)))
    clear hn1 hr1 hb4 fP4
    have p0 := H4.out.2.1.cell 0
    have p1 := H4.out.2.1.cell 1
    have p2 := H4.out.2.1.cell 2
    have p3 := H4.out.2.1.cell 3
    have p4 := H4.out.2.1.cell 4
    have p5 := H4.out.2.1.cell 5
    have p6 := H4.out.2.1.cell 6
    have p7 := H4.out.2.1.cell 7
    simp only [List.getElem?_cons_zero, List.getElem?_cons_succ] at p0 p1 p2 p3 p4 p5 p6 p7
    have lp := lt_of_cell p0
    have q1 := QH.out w4 H4.out.2.2 b HA.out.2.1
    rw [HA.out.2.2.2] at q1
    go_wp2_with (fail)
    refine q1.mono ?_
    clear q1 p0 p1 p2 p3 p4 p5 p6 p7 lp
    rintro e w5 ⟨A2, c2, n2, D, rfl, hn2, hn210, hr2, hD, hb5⟩
    have fP5 := H4.out.2.1.below hb5 H4.out.2.1.lt
    have H5 := Lib.hid (And.intro (H4.out.1.keep (Same.any hb5)) (And.intro hr2 (And.intro fP5 (below_next hb5 H4.out.2.2))))
    have HD := Lib.hid (show decide (a ∈ srt D) = decide (b ∈ srt (useOf nmA us a)) from by
      rw [decide_eq_decide, List.mem_mergeSort, List.mem_mergeSort]
      exact hD a HA.out.1)
    clear hn2 hr2 hb5 hD fP5
    have p0 := H5.out.2.2.1.cell 0
    have p1 := H5.out.2.2.1.cell 1
    have p2 := H5.out.2.2.1.cell 2
    have p3 := H5.out.2.2.1.cell 3
    have p4 := H5.out.2.2.1.cell 4
    have p5 := H5.out.2.2.1.cell 5
    have p6 := H5.out.2.2.1.cell 6
    have p7 := H5.out.2.2.1.cell 7
    simp only [List.getElem?_cons_zero, List.getElem?_cons_succ] at p0 p1 p2 p3 p4 p5 p6 p7
    have lp := lt_of_cell p0
    have q1 := QA.out w5 H5.out.2.2.2 (HV.out.below (below_next H5.out.2.2.2 B1.out))
    go_wp2_with (fail)
    refine q1.mono ?_
    clear q1 p0 p1 p2 p3 p4 p5 p6 p7 lp
    rintro e w6 ⟨A3, c3, rfl, hr3, hb6⟩
    have b67 : Below w6.heap.size w6 (w6.alloc (.cells #[.string ⟨#[49, 48]⟩] 9)) := (Below.refl _ _).alloc (Nat.le_refl _) _
    have b57 := below_next b67 hb6
    have r7 : Reads (w6.alloc (.cells #[.string ⟨#[49, 48]⟩] 9)) Any 1 (some ⟨w6.heap.size, 0, none⟩) 1 [.string ⟨#[49, 48]⟩] := Reads.new w6 [.string ⟨#[49, 48]⟩] 1 1 9 Any trivial rfl
    have EQ := Lib.hid (equal_ten Any Any A3 (some ⟨w6.heap.size, 0, none⟩) c3 1 _ (hr3.keep (Same.any b67)) r7)
    have H7 := Lib.hid (And.intro (H5.out.1.keep (Same.any b57)) (And.intro (H5.out.2.1.keep (Same.any b57)) (below_next b57 H5.out.2.2.2)))
    clear hr3 hb6 b67 b57 r7
    go_wp2_with (fail)
    refine EQ.out.mono ?_
    rintro e w8 ⟨rfl, hb8⟩
    have H8 := Lib.hid (And.intro (H7.out.1.keep (Same.any hb8)) (And.intro (H7.out.2.1.keep (Same.any hb8)) (below_next hb8 H7.out.2.2)))
    clear hb8
    have q1 := contains_any Any A1 n1 c1 (srt (useOf nmA us a)) b w8 H8.out.1 (by omega)
    have q2 := contains_any Any A2 n2 c2 (srt D) a w8 H8.out.2.1 (by omega)
    rw [HA.out.2.2.2] at q1
    rw [HA.out.2.2.1, HD.out] at q2
    generalize decide (b ∈ srt (useOf nmA us a)) = yes at q1 q2
    have Q1 := Lib.hid q1
    have Q2 := Lib.hid q2
    clear q1 q2
    go_wp2_with (fail)
    refine Q1.out.mono ?_
    rintro e w' ⟨rfl, rfl⟩
    go_wp2_with (fail)
    refine Q2.out.mono ?_
    rintro e w' ⟨rfl, rfl⟩
    go_wp2_with (fail)
    refine (isSorted_any Any A1 n1 c1 _ w8 H8.out.1 hn110).mono ?_
    rintro e w9 ⟨rfl, hb9⟩
    have H9 := Lib.hid (And.intro (H8.out.2.1.keep (Same.any hb9)) (below_next hb9 H8.out.2.2))
    clear hb9
    go_wp2_with (fail)
    refine (isSorted_any Any A2 n2 c2 _ w9 H9.out.1 hn210).mono ?_
    rintro e w10 ⟨rfl, hb10⟩
    have H10 := Lib.hid (below_next (below_next hb10 H9.out.2) B1.out)
    clear hb10
    go_wp2_with (fail)
    go_ret
    exact ⟨rfl, H10.out⟩
end Go.Proofs.YtaealapgebbnlaaGreatDoor
