/- Contract of the law QueryReach: true. -/
import Derived.Test.YtaealapgebbnlaaQrCont
set_option linter.unusedVariables false
namespace Go.Proofs.Ytaealapgebbnlaa
open Go.RowKit Go.Mem Go.Md Go.Maps
theorem letF_nm (n : Int) : [letF n] ∈ nmA := by
  have h : ∀ r, r < 8 → [UInt8.ofNat (97 + r)] ∈ nmA := by decide +kernel
  have h8 := restI_bd n 8 (by omega)
  exact h _ (by omega)
theorem bodyF_ok (n : Int) : BdOk (bodyF n) := by
  unfold bodyF
  split
  · trivial
  · exact ⟨letF_nm _, letF_nm _⟩
theorem fnsF_ok (L : List Int) : ∀ f ∈ fnsF L 8, BdOk f.2 := by
  intro f hf
  unfold fnsF at hf
  obtain ⟨i, _, rfl⟩ := List.mem_map.1 hf
  exact bodyF_ok _
def tenA : List Bs := [[97], [98], [99], [100], [101], [102], [103], [104], [68], [90]]
theorem tenA_in : ∀ s ∈ tenA, s ∈ nmA := by decide +kernel
set_option maxRecDepth 100000 in
set_option maxHeartbeats 4000000 in
theorem queryReach_any (W : World) (A0 : Option Addr) (n0 c0 : Nat) (L : List Int) (hn0 : n0 = L.length) (hm0 : n0 ≤ maxLen) (hr : Reads W Any 1 A0 n0 (nums L)) (hL : ∀ x ∈ L, I64 x) (i k : Int) (hi : I64 i) (hk : I64 k) :
    Calls Try.prog 3 #[.slice A0 n0 c0, .int .i64 i, .int .i64 k] W fun e w' => e = .returned (.bool true) ∧ Below W.heap.size W w' := by
  have MA := Lib.hid (module_any A0 n0 c0 L W hr hn0 hm0 hL)
  have HI := Lib.hid (And.intro hi hk)
  clear hr hn0 hm0 hL hi hk
  go_enter Try.func3, Try.ntmps3
  go_wp2_with (fail)
  refine MA.out.mono ?_
  rintro e w1 ⟨cs, rfl, hmd, hb1⟩
  have QR := Lib.hid (fun (V : World) (hV : Below w1.heap.size w1 V) (a : Bs) (ha : a ∈ nmA) => qreach_any cs (fnsF L 8) (bodyF L.length) V ((hmd.keep (Same.of_below hV fun _ _ h => h)).imp fun _ _ _ => trivial) (fnsF_ok L) (bodyF_ok _) a ha)
  obtain ⟨⟨AD, cD, AM, cM, AF, cF, AZ, cZ, vss, vs, rfl, _⟩, _⟩ := hmd
  have B1 := Lib.hid hb1
  obtain ⟨w3, hw3⟩ : ∃ V, V = (w1.alloc (.cells #[bst [109], .int .i64 1, .slice none 0 0, .slice AD 1 cD, .slice none 0 0, .slice none 0 0, .slice AF 8 cF, .slice AZ 1 cZ] 30)).alloc (.cells #[.string ⟨#[97]⟩, .string ⟨#[98]⟩, .string ⟨#[99]⟩, .string ⟨#[100]⟩, .string ⟨#[101]⟩, .string ⟨#[102]⟩, .string ⟨#[103]⟩, .string ⟨#[104]⟩, .string ⟨#[68]⟩, .string ⟨#[90]⟩] 9) := ⟨_, rfl⟩
  obtain ⟨PB, hPB⟩ : ∃ b, b = w1.heap.size := ⟨_, rfl⟩
  obtain ⟨NB, hNB⟩ : ∃ b, b = w1.heap.size + 1 := ⟨_, rfl⟩
  have b0 : Below w1.heap.size w1 (w1.alloc (.cells #[bst [109], .int .i64 1, .slice none 0 0, .slice AD 1 cD, .slice none 0 0, .slice none 0 0, .slice AF 8 cF, .slice AZ 1 cZ] 30)) := (Below.refl _ _).alloc (Nat.le_refl _) _
  have b3 : Below w1.heap.size w1 w3 := by rw [hw3]; exact b0.alloc b0.size _
  have fP : Blk w3 PB 30 [bst [109], .int .i64 1, .slice none 0 0, .slice AD 1 cD, .slice none 0 0, .slice none 0 0, .slice AF 8 cF, .slice AZ 1 cZ] := by rw [hw3, hPB]; exact (Blk.new w1 _ _).alloc _
  have fN : Blk w3 NB 9 (tenA.map bst) := by
    rw [hw3, hNB]
    have := Blk.new (w1.alloc (.cells #[bst [109], .int .i64 1, .slice none 0 0, .slice AD 1 cD, .slice none 0 0, .slice none 0 0, .slice AF 8 cF, .slice AZ 1 cZ] 30)) 9 (tenA.map bst)
    rw [World.size_alloc] at this
    exact this
  obtain ⟨r, hr, hr10⟩ : ∃ r : Nat, restI i 10 = (r : Int) ∧ r < 10 := by
    have h := restI_bd i 10 (by omega)
    exact ⟨(restI i 10).toNat, by omega, by omega⟩
  obtain ⟨a, ha⟩ : ∃ a, tenA[r]? = some a := ⟨_, List.getElem?_eq_getElem hr10⟩
  have ham : a ∈ nmA := tenA_in a (List.mem_of_getElem? ha)
  obtain ⟨S, hS⟩ : ∃ S : ByteArray, S = ⟨a.toArray⟩ := ⟨_, rfl⟩
  have cN : w3.cell? ⟨NB, r, none⟩ = some (.string S) := by
    rw [fN.cell r, List.getElem?_map, ha, hS]
    rfl
  have p0 := fP.cell 0
  have p1 := fP.cell 1
  have p2 := fP.cell 2
  have p3 := fP.cell 3
  have p4 := fP.cell 4
  have p5 := fP.cell 5
  have p6 := fP.cell 6
  have p7 := fP.cell 7
  simp only [List.getElem?_cons_zero, List.getElem?_cons_succ] at p0 p1 p2 p3 p4 p5 p6 p7
  have lp := lt_of_cell p0
  have lc := lt_of_cell cN
  have HR := Lib.hid hr
  have HW3 := Lib.hid (And.intro hw3 (And.intro hPB hNB))
  have HP := Lib.hid (And.intro fP b3)
  have HA := Lib.hid (And.intro ham hS)
  clear hr hb1 hw3 hPB hNB b0 b3 fP fN ha ham hS
  go_wp2_with (fail)
  rw [← HW3.out.1, ← HW3.out.2.2, ← HW3.out.2.1]
  refine (rest_any i 10 w3 HI.out.1 (by omega) (by omega)).mono ?_
  rintro e w' ⟨rfl, rfl⟩
  rw [HR.out]
  have q := QR.out w3 HP.out.2 a HA.out.1
  rw [show bst a = .string S from by rw [HA.out.2]] at q
  go_wp2_with (fail)
  refine q.mono ?_
  clear q
  rintro e w4 ⟨A, c, n, O, rfl, hn, hn10, hrd, hro, hb4⟩
  obtain ⟨w5, hw5⟩ : ∃ V, V = w4.alloc (.cells #[.slice A n c] 32) := ⟨_, rfl⟩
  obtain ⟨XB, hXB⟩ : ∃ b, b = w4.heap.size := ⟨_, rfl⟩
  have b45 : Below w4.heap.size w4 w5 := by rw [hw5]; exact (Below.refl _ _).alloc (Nat.le_refl _) _
  have fX : Blk w5 XB 32 [.slice A n c] := by rw [hw5, hXB]; exact Blk.new w4 _ _
  have b35 : Below w3.heap.size w3 w5 := below_next b45 hb4
  have rd5 : Reads w5 Any 1 A n ((srt O).map bst) := hrd.keep (Same.any b45)
  have haO : a ∈ srt O := List.mem_mergeSort.2 (hro.st a (by simp))
  have hnp : 0 < n := by
    have h1 := List.length_pos_of_mem haO
    rw [List.length_mergeSort] at h1
    omega
  obtain ⟨r2, hr2, hr2n⟩ : ∃ r : Nat, restI k (n : Int) = (r : Int) ∧ r < n := by
    have h := restI_bd k (n : Int) (by omega)
    exact ⟨(restI k (n : Int)).toNat, by omega, by omega⟩
  obtain ⟨bx, ox, u, rfl, _, hu, px⟩ := rd5.at_ hr2n
  have hlO : (srt O).length = n := by rw [List.length_mergeSort, hn]
  obtain ⟨b, hb⟩ : ∃ b, (srt O)[r2]? = some b := ⟨_, List.getElem?_eq_getElem (by omega)⟩
  have hbO : b ∈ O := List.mem_mergeSort.1 (List.mem_of_getElem? hb)
  obtain ⟨T, hT⟩ : ∃ S : ByteArray, S = ⟨b.toArray⟩ := ⟨_, rfl⟩
  have hu2 : u = .string T := by
    rw [List.getElem?_map, hb] at hu
    rw [hT]
    injection hu with hu
    exact hu.symm
  subst hu2
  have x0 := fX.cell 0
  simp only [List.getElem?_cons_zero] at x0
  have lx := lt_of_cell x0
  have lbx := lt_of_cell px
  have fP5 := HP.out.1.below b35 HP.out.1.lt
  have fP6 : Blk w5.drew PB 30 [bst [109], .int .i64 1, .slice none 0 0, .slice AD 1 cD, .slice none 0 0, .slice none 0 0, .slice AF 8 cF, .slice AZ 1 cZ] := fP5.drew
  have H5 := Lib.hid (And.intro (below_next b35 HP.out.2) (And.intro rd5 (And.intro fX hlO)))
  have HW5 := Lib.hid (And.intro hw5 hXB)
  have HO := Lib.hid (And.intro haO (And.intro hro (And.intro hbO hT)))
  have HR2 := Lib.hid hr2
  have HFP := Lib.hid fP6
  clear hn hrd hro hb4 hw5 hXB b45 fX b35 rd5 haO hr2 hu hlO hb hbO hT fP5 fP6 cN lc p0 p1 p2 p3 p4 p5 p6 p7 lp
  go_wp2_with (fail)
  rw [← HW5.out.1, ← HW5.out.2]
  have q := contains_any Any (some ⟨bx, ox, none⟩) n c (srt O) a w5 H5.out.2.1 (by omega)
  rw [decide_eq_true HO.out.1, show bst a = .string S from by rw [HA.out.2]] at q
  refine q.mono ?_
  clear q
  rintro e w' ⟨rfl, rfl⟩
  go_wp2_with (fail)
  refine wp_region_g (S := fun Y => Y = w5.drew) (m := 8) (by kernel_rfl) ?_
  have hS : w5.drew = w5.drew := rfl
  repeat (first | (refine wpAnyG_take (i := 0) (v := .slice (some ⟨bx, ox, none⟩) n c) rfl ?_ ?_ ?_ (fun _ _ _ h => h) (Or.inl ⟨by rfl, ?_⟩) hS ?_; (· decide +kernel); (· decide +kernel); (· decide +kernel); (· (intro w' hS'; subst hS'; go_simp))) | (refine wpAnyG_take (i := 1) (v := .int .i64 k) rfl ?_ ?_ ?_ (fun _ _ _ h => h) (Or.inl ⟨by rfl, ?_⟩) hS ?_; (· decide +kernel); (· decide +kernel); (· decide +kernel); (· (intro w' hS'; subst hS'; go_simp))) | (refine wpAnyG_take (i := 2) (v := .slice (some ⟨bx, ox, none⟩) n c) rfl ?_ ?_ ?_ (fun _ _ _ h => h) (Or.inl ⟨by rfl, ?_⟩) hS ?_; (· decide +kernel); (· decide +kernel); (· decide +kernel); (· (intro w' hS'; subst hS'; go_simp))) | (refine wpAnyG_take (i := 3) (v := .int .i64 (n : Nat)) rfl ?_ ?_ ?_ (fun _ _ _ h => h) (Or.inl ⟨by rfl, ?_⟩) hS ?_; (· decide +kernel); (· decide +kernel); (· decide +kernel); (· (intro w' hS'; subst hS'; go_simp))))
  refine wpAnyG_ready (rs := [4]) (by decide +kernel) (by simp) ?_
  refine AllReadyG.cons rfl (fun K hK => ?_) AllReadyG.nil
  go_simp
  refine (rest_any k (n : Int) _ HI.out.2 (by omega) (by omega)).mono ?_
  rintro e w' ⟨rfl, rfl⟩
  rw [HR2.out]
  try dsimp only
  refine hK _ _ (fun _ => rfl) ?_
  clear hK K
  repeat (first | (refine wpAnyG_take (i := 5) (v := .pointer (some ⟨bx, ox + r2, none⟩)) rfl ?_ ?_ ?_ (fun _ _ _ h => h) (Or.inl ⟨by rfl, ?_⟩) hS ?_; (· decide +kernel); (· decide +kernel); (· decide +kernel); (· (intro w' hS'; subst hS'; go_simp))) | (refine wpAnyG_take (i := 6) (v := .string T) rfl ?_ ?_ ?_ (fun _ _ _ h => h) (Or.inl ⟨by rfl, ?_⟩) hS ?_; (· decide +kernel); (· decide +kernel); (· decide +kernel); (· (intro w' hS'; subst hS'; go_simp))) | (refine wpAnyG_take (i := 7) (v := .string T) rfl ?_ ?_ ?_ (fun _ _ _ h => h) (Or.inl ⟨by rfl, ?_⟩) hS ?_; (· decide +kernel); (· decide +kernel); (· decide +kernel); (· (intro w' hS'; subst hS'; go_simp))))
  refine wpAnyG_done (by decide +kernel) ?_ _
  clear hS
  have p0 := HFP.out.cell 0
  have p1 := HFP.out.cell 1
  have p2 := HFP.out.cell 2
  have p3 := HFP.out.cell 3
  have p4 := HFP.out.cell 4
  have p5 := HFP.out.cell 5
  have p6 := HFP.out.cell 6
  have p7 := HFP.out.cell 7
  simp only [List.getElem?_cons_zero, List.getElem?_cons_succ] at p0 p1 p2 p3 p4 p5 p6 p7
  have lp := lt_of_cell p0
  have q := QR.out w5.drew H5.out.1.drew b (HO.out.2.1.on b HO.out.2.2.1)
  rw [show bst b = .string T from by rw [HO.out.2.2.2]] at q
  go_wp2_with (fail)
  refine q.mono ?_
  clear q
  rintro e w6 ⟨A6, c6, n6, O6, rfl, hn6, hn610, hrd6, hro6, hb6⟩
  have b56 : Below w5.heap.size w5 w6 := Below.trans (b := w5.drew) (Below.refl _ _).drew hb6
  have fX6 := H5.out.2.2.1.below b56 H5.out.2.2.1.lt
  have rx6 := H5.out.2.1.keep (Same.any b56)
  have eg : ∀ args w, (callFunc 10 args).run Try.prog w = .ok (.enter 10 args) w := enters_of Try.func10 (by kernel_rfl) rfl
  have C := Lib.hid (containsNone_any A6 n6 c6 (srt O6) 10 #[.pointer (some ⟨XB, 0, none⟩)] w6 hrd6 (by rw [List.length_mergeSort, hn6]) (by omega) eg (fun s hs Y hY => notIn_any XB _ n c (srt O) s Y ((fX6.below hY fX6.lt).cell 0) (rx6.keep (Same.any hY)) (by omega) (List.mem_mergeSort.2 (HO.out.2.1.trans HO.out.2.2.1 hro6 s (List.mem_mergeSort.1 hs)))))
  have H6 := Lib.hid (below_next (below_next b56 H5.out.1) B1.out)
  clear hn6 hn610 hrd6 hro6 hb6 b56 fX6 rx6 eg p0 p1 p2 p3 p4 p5 p6 p7 lp px x0 lx lbx
  go_wp2_with (fail)
  refine C.out.mono ?_
  rintro e w7 ⟨rfl, hb7⟩
  have H7 := Lib.hid (below_next hb7 H6.out)
  clear hb7
  go_wp2_with (fail)
  go_ret
  exact ⟨rfl, H7.out⟩
end Go.Proofs.Ytaealapgebbnlaa
