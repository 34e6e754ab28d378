/- Contract of the law PageAll: true. (Printed by qrpall.py.) -/
import Derived.Test.YtaealapgebbnlaaDoorPaPage
import Derived.Test.YtaealapgebbnlaaDoorPaSorted
import Derived.Test.YtaealapgebbnlaaDoorPaCont
set_option linter.unusedVariables false
namespace Go.Md
deriving instance DecidableEq for En
theorem keep_fn : ∀ k, k < 8 → keepF (nmI k) allE = [enF k] := by decide +kernel
theorem keep_K : keepF [75] allE = [enK] := by decide +kernel
theorem keep_none : keepF [110, 111, 110, 101] allE = [] := by decide +kernel
theorem lines_len (ml : Bs) : (linesF ml 4 0).length = 11 := by
  have h : (((sortsL.take 4).flatMap fun s => pick s allE) ++ pick (sortsL.getD 4 0) (allE.take 0)).length = 10 := by decide +kernel
  unfold linesF
  rw [List.length_cons, h]
theorem lines_fn (ml : Bs) (k : Nat) (hk : k < 8) : (enF k).line ∈ linesF ml 4 0 := by
  have h : ∀ k, k < 8 → (enF k).line ∈ (((sortsL.take 4).flatMap fun s => pick s allE) ++ pick (sortsL.getD 4 0) (allE.take 0)) := by decide +kernel
  unfold linesF
  exact List.mem_cons_of_mem _ (h k hk)
end Go.Md
namespace Go.Proofs.YtaealapgebbnlaaDoor
open Go.RowKit Go.Mem Go.Md
set_option maxRecDepth 100000 in
set_option maxHeartbeats 8000000 in
theorem pageAll_any (W : World) (hv : Env W) (A0 : Option Addr) (n0 c0 : Nat) (L : List Int) (hn0 : n0 = L.length) (hm0 : n0 ≤ maxLen) (hr : Reads W Any 1 A0 n0 (nums L)) (hL : ∀ x ∈ L, I64 x) :
    Calls Tryd.prog 3 #[.slice A0 n0 c0] W fun e w' => e = .returned (.bool true) ∧ Below W.heap.size W w' := by
  have MA := Lib.hid (module_any A0 n0 c0 L W hr hn0 hm0 hL)
  have HV := Lib.hid hv
  clear hr hn0 hm0 hL hv
  go_enter Tryd.func3, Tryd.ntmps3
  go_wp2_with (fail)
  refine MA.out.mono ?_
  rintro e w1 ⟨cs, rfl, hmd, hb1⟩
  have md := fun (V : World) (hV : Below w1.heap.size w1 V) => (hmd.keep (Same.of_below hV fun _ _ h => h)).imp (D' := Any) fun _ _ _ => trivial
  have QP := Lib.hid (fun (V : World) (hV : Below w1.heap.size w1 V) => page_any cs (fnsF L 8) (bodyF L.length) V (md V hV) (HV.out.below (below_next hV hb1)))
  have QF := Lib.hid (fun (V : World) (hV : Below w1.heap.size w1 V) => find_any cs (fnsF L 8) (bodyF L.length) V (md V hV))
  have QE := Lib.hid (fun (V : World) (hV : Below w1.heap.size w1 V) => entries_any cs (fnsF L 8) (bodyF L.length) V (md V hV))
  have B1 := Lib.hid hb1
  have hmd2 := hmd.imp (D' := fun b => b < w1.heap.size) fun b _ h => h
  obtain ⟨⟨AD, cD, AM, cM, AF, cF, AZ, cZ, vss, vs, rfl, _, _, hcF, _, _, _, r3, a3, _, _⟩, he⟩ := hmd2
  have HF := Lib.hid (And.intro r3 (And.intro a3 he))
  obtain ⟨w2, hw2⟩ : ∃ V, V = w1.alloc (.cells #[bst [109], .int .i64 1, .slice none 0 0, .slice AD 1 cD, .slice none 0 0, .slice none 0 0, .slice AF 8 cF, .slice AZ 1 cZ] 30) := ⟨_, rfl⟩
  obtain ⟨PB, hPB⟩ : ∃ b, b = w1.heap.size := ⟨_, rfl⟩
  have b2 : Below w1.heap.size w1 w2 := by rw [hw2]; exact (Below.refl _ _).alloc (Nat.le_refl _) _
  have fP : Blk w2 PB 30 [bst [109], .int .i64 1, .slice none 0 0, .slice AD 1 cD, .slice none 0 0, .slice none 0 0, .slice AF 8 cF, .slice AZ 1 cZ] := by rw [hw2, hPB]; exact Blk.new w1 _ _
  have HP := Lib.hid (And.intro fP b2)
  have HW2 := Lib.hid (And.intro hw2 hPB)
  clear md hmd hb1 hcF r3 a3 he hw2 hPB b2 fP
  go_wp2_with (fail)
  rw [← HW2.out.1, ← HW2.out.2]
  refine (QP.out w2 HP.out.2).mono ?_
  rintro e w3 ⟨A4, c4, n4, ml, rfl, hn4, hr4, hb3⟩
  rw [lines_len] at hn4
  subst hn4
  have fP3 := HP.out.1.below hb3 HP.out.1.lt
  have p6 : w3.cell? ⟨PB, 6, none⟩ = some (.slice AF 8 cF) := fP3.cell 6
  have lp := lt_of_cell p6
  have H3 := Lib.hid (And.intro hr4 (And.intro fP3 (below_next hb3 HP.out.2)))
  clear hr4 hb3 fP3
  go_wp2_with (fail)
  clear p6 lp
  go_loopw [21] (fun v wr => ∃ k : Nat, k ≤ 8 ∧ v = .int .i64 (k : Nat) ∧ Hid (Below w3.heap.size w3 wr)) (fun v _ => 8 - (intOf v).toNat)
  case atStart => exact ⟨0, by omega, rfl, Below.refl _ _⟩
  case round =>
    obtain ⟨k, hk, rfl, HJ⟩ := hrel
    by_cases hlt : k < 8
    · have hkl : k < (fnsF L 8).length := by rw [HF.out.2.2.1]; exact hlt
      have bwr := below_next HJ.out H3.out.2.2
      have sm : Same (fun b => b < w1.heap.size) w1 wr := Same.of_below bwr fun b hb _ => hb
      obtain ⟨bf, off, fcs, rfl, _, hx, hc⟩ := (HF.out.1.keep sm).elem FnCells.stable (HF.out.2.1.imp fun _ _ h => FnCells.stable.keep h sm) HF.out.2.2.1.symm hkl
      obtain ⟨kk, tx, Ab, mb, cb, rfl⟩ := hx.shape
      obtain ⟨N, hN⟩ : ∃ N : ByteArray, N = ⟨(nmI k).toArray⟩ := ⟨_, rfl⟩
      have hnm : ((fnsF L 8)[k]).1 = nmI k := HF.out.2.2.2 k hkl
      have f0 : wr.cell? ⟨bf, off + k * 15, none⟩ = some (.string N) := by rw [hN, ← hnm]; exact hc 0 _ rfl
      have f1 : wr.cell? ⟨bf, off + k * 15 + 1, none⟩ = some (.slice none 0 0) := hc 1 _ rfl
      have f2 : wr.cell? ⟨bf, off + k * 15 + 2, none⟩ = some (.slice none 0 0) := hc 2 _ rfl
      have f3 : wr.cell? ⟨bf, off + k * 15 + 3, none⟩ = some (.slice none 0 0) := hc 3 _ rfl
      have f4 : wr.cell? ⟨bf, off + k * 15 + 4, none⟩ = some (.int .i64 1) := hc 4 _ rfl
      have f5 : wr.cell? ⟨bf, off + k * 15 + 5, none⟩ = some (.string ⟨#[]⟩) := hc 5 _ rfl
      have f6 : wr.cell? ⟨bf, off + k * 15 + 6, none⟩ = some (.slice none 0 0) := hc 6 _ rfl
      have f7 : wr.cell? ⟨bf, off + k * 15 + 7, none⟩ = some (.int .i64 kk) := hc 7 _ rfl
      have f8 : wr.cell? ⟨bf, off + k * 15 + 8, none⟩ = some (.int .i64 0) := hc 8 _ rfl
      have f9 : wr.cell? ⟨bf, off + k * 15 + 9, none⟩ = some (.string tx) := hc 9 _ rfl
      have f10 : wr.cell? ⟨bf, off + k * 15 + 10, none⟩ = some (.slice none 0 0) := hc 10 _ rfl
      have f11 : wr.cell? ⟨bf, off + k * 15 + 11, none⟩ = some (.slice none 0 0) := hc 11 _ rfl
      have f12 : wr.cell? ⟨bf, off + k * 15 + 12, none⟩ = some (.slice Ab mb cb) := hc 12 _ rfl
      have f13 : wr.cell? ⟨bf, off + k * 15 + 13, none⟩ = some (.slice none 0 0) := hc 13 _ rfl
      have f14 : wr.cell? ⟨bf, off + k * 15 + 14, none⟩ = some (.int .i64 0) := hc 14 _ rfl
      have lf := lt_of_cell f0
      obtain ⟨X, hX⟩ : ∃ V, V = wr.alloc (.cells #[.string N, .slice none 0 0, .slice none 0 0, .slice none 0 0, .int .i64 1, .string ⟨#[]⟩, .slice none 0 0, .int .i64 kk, .int .i64 0, .string tx, .slice none 0 0, .slice none 0 0, .slice Ab mb cb, .slice none 0 0, .int .i64 0] 42) := ⟨_, rfl⟩
      have bX : Below wr.heap.size wr X := by rw [hX]; exact (Below.refl _ _).alloc (Nat.le_refl _) _
      have fPw := H3.out.2.1.below HJ.out H3.out.2.1.lt
      have q := QF.out X (below_next bX bwr) (nmI k)
      unfold FindPost at q
      rw [keep_fn k hlt, show bst (nmI k) = .string N from by rw [hN]] at q
      have Q := Lib.hid q
      have HX := Lib.hid (And.intro hX bX)
      clear hN hnm hx hc bwr sm q hX bX
      have p0 := fPw.cell 0
      have p1 := fPw.cell 1
      have p2 := fPw.cell 2
      have p3 := fPw.cell 3
      have p4 := fPw.cell 4
      have p5 := fPw.cell 5
      have p6 := fPw.cell 6
      have p7 := fPw.cell 7
      simp only [List.getElem?_cons_zero, List.getElem?_cons_succ] at p0 p1 p2 p3 p4 p5 p6 p7
      have lp := lt_of_cell p0
      clear fPw
      go_wp2_with (fail)
      rw [← HX.out.1]
      refine Q.out.mono ?_
      rintro e w5 ⟨hb5, ⟨hbad, _⟩ | ⟨_, A5, c5, m5, rfl, hm5, hr5⟩⟩
      · cases hbad
      · rw [show ([enF k] : List En).length = 1 from rfl] at hm5
        subst hm5
        obtain ⟨b5, o5, rfl, _, hc5⟩ := hr5.2 (by omega)
        obtain ⟨LN, hLN⟩ : ∃ N : ByteArray, N = ⟨((enF k).line).toArray⟩ := ⟨_, rfl⟩
        have x1 : w5.cell? ⟨b5, o5 + 1, none⟩ = some (.int .i64 4) := hc5 1 _ rfl
        have x3 : w5.cell? ⟨b5, o5 + 3, none⟩ = some (.string LN) := by rw [hLN]; exact hc5 3 _ rfl
        have lx := lt_of_cell x1
        have b35 : Below w3.heap.size w3 w5 := below_next (below_next hb5 HX.out.2) HJ.out
        have q := contains_any Any A4 11 c4 (linesF ml 4 0) (enF k).line w5 (H3.out.1.keep (Same.any b35)) (by omega)
        rw [decide_eq_true (lines_fn ml k hlt), show bst (enF k).line = .string LN from by rw [hLN]] at q
        have Q5 := Lib.hid q
        have H5 := Lib.hid b35
        clear hr5 hc5 hLN q b35 hb5 p0 p1 p2 p3 p4 p5 p6 p7 lp f0 f1 f2 f3 f4 f5 f6 f7 f8 f9 f10 f11 f12 f13 f14 lf
        go_wp2_with (fail)
        refine Q5.out.mono ?_
        rintro e w' ⟨rfl, rfl⟩
        go_wp2_with (fail)
        exact ⟨⟨k + 1, by omega, by go_num, H5.out⟩, by simp [intOf]; omega⟩
    · obtain rfl : k = 8 := by omega
      rw [show ((8 : Nat) : Int) = 8 from rfl]
      have fPw := H3.out.2.1.below HJ.out H3.out.2.1.lt
      have q := QF.out wr (below_next HJ.out H3.out.2.2) [75]
      unfold FindPost at q
      rw [keep_K] at q
      have Q := Lib.hid q
      have HPW := Lib.hid fPw
      clear q
      have p0 := fPw.cell 0
      have p1 := fPw.cell 1
      have p2 := fPw.cell 2
      have p3 := fPw.cell 3
      have p4 := fPw.cell 4
      have p5 := fPw.cell 5
      have p6 := fPw.cell 6
      have p7 := fPw.cell 7
      simp only [List.getElem?_cons_zero, List.getElem?_cons_succ] at p0 p1 p2 p3 p4 p5 p6 p7
      have lp := lt_of_cell p0
      clear fPw
      go_wp2_with (fail)
      refine Q.out.mono ?_
      rintro e w5 ⟨hb5, ⟨hbad, _⟩ | ⟨_, A5, c5, m5, rfl, hm5, hr5⟩⟩
      · cases hbad
      · rw [show ([enK] : List En).length = 1 from rfl] at hm5
        subst hm5
        have fP5 := HPW.out.below hb5 HPW.out.lt
        have H5 := Lib.hid (And.intro hr5 (And.intro fP5 (below_next hb5 HJ.out)))
        have q := QF.out w5 (below_next H5.out.2.2 H3.out.2.2) [110, 111, 110, 101]
        unfold FindPost at q
        rw [keep_none] at q
        have Q6 := Lib.hid q
        clear p0 p1 p2 p3 p4 p5 p6 p7 lp hb5 hr5 fP5 q
        have p0 := H5.out.2.1.cell 0
        have p1 := H5.out.2.1.cell 1
        have p2 := H5.out.2.1.cell 2
        have p3 := H5.out.2.1.cell 3
        have p4 := H5.out.2.1.cell 4
        have p5 := H5.out.2.1.cell 5
        have p6 := H5.out.2.1.cell 6
        have p7 := H5.out.2.1.cell 7
        simp only [List.getElem?_cons_zero, List.getElem?_cons_succ] at p0 p1 p2 p3 p4 p5 p6 p7
        have lp := lt_of_cell p0
        go_wp2_with (fail)
        refine Q6.out.mono ?_
        rintro e w6 ⟨hb6, ⟨_, rfl⟩ | ⟨hbad, _⟩⟩
        · have fP6 := H5.out.2.1.below hb6 H5.out.2.1.lt
          have H6 := Lib.hid (And.intro (H5.out.1.keep (Same.any hb6)) (And.intro fP6 (below_next hb6 H5.out.2.2)))
          clear p0 p1 p2 p3 p4 p5 p6 p7 lp hb6 fP6
          have p0 := H6.out.2.1.cell 0
          have p1 := H6.out.2.1.cell 1
          have p2 := H6.out.2.1.cell 2
          have p3 := H6.out.2.1.cell 3
          have p4 := H6.out.2.1.cell 4
          have p5 := H6.out.2.1.cell 5
          have p6 := H6.out.2.1.cell 6
          have p7 := H6.out.2.1.cell 7
          simp only [List.getElem?_cons_zero, List.getElem?_cons_succ] at p0 p1 p2 p3 p4 p5 p6 p7
          have lp := lt_of_cell p0
          go_wp2_with (fail)
          refine (QE.out w6 (below_next H6.out.2.2 H3.out.2.2)).mono ?_
          rintro e w7 ⟨A7, c7, rfl, _, _, hr7, hb7⟩
          have r7 := H6.out.1.keep (Same.any hb7)
          obtain ⟨b5, o5, rfl, _, hc5⟩ := r7.2 (by omega)
          have x2 : w7.cell? ⟨b5, o5 + 2, none⟩ = some (.string ⟨#[68]⟩) := hc5 2 _ rfl
          have lx := lt_of_cell x2
          have IS := Lib.hid (isSortedF_any _ A7 c7 w7 hr7)
          have H7 := Lib.hid (below_next (below_next (below_next hb7 H6.out.2.2) H3.out.2.2) B1.out)
          clear p0 p1 p2 p3 p4 p5 p6 p7 lp hb7 hr7 r7 hc5
          go_wp2_with (fail)
          refine IS.out.mono ?_
          rintro e w8 ⟨rfl, hb8⟩
          have H8 := Lib.hid (below_next hb8 H7.out)
          clear hb8
          go_wp2_with (fail)
          go_ret
          exact ⟨rfl, H8.out⟩
        · exact absurd rfl hbad
end Go.Proofs.YtaealapgebbnlaaDoor
