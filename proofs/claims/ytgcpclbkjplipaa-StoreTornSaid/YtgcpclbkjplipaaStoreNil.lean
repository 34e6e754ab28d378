/- ReadParcel at no bytes: it is no parcel. -/
import Derived.Test.YtgcpclbkjplipaaMailReadP
set_option linter.unusedVariables false
namespace Go.Proofs.Ytgcpclbkjplipaa
open Go.RowKit Go.Mem Go.Val

def zeroPc : List Value := [.int .i64 0, .string ⟨#[]⟩, .slice none 0 0, .slice none 0 0, .slice none 0 0, .int .i64 0, .slice none 0 0, .slice none 0 0]
theorem decP_nil : decP 40 [] = none := by
  simp [decP, seqD, lenI, lenD, natD]
def NoPost (w : World) (e : Ending) (w' : World) : Prop := e = .returned (.tuple #[.agg zeroPc.toArray, .int .i64 3]) ∧ Below w.heap.size w w'

set_option maxRecDepth 100000 in
set_option maxHeartbeats 1000000 in
theorem readP_nil (w : World) :
    Calls Try.prog 71 #[.slice none 0 0, .func (.func 72) #[] #[], .func (.func 69) #[] #[]] w (NoPost w) := by
  go_enter Try.func71, Try.ntmps71
  go_wp2_with (fail)
  obtain ⟨W, hW⟩ : ∃ W, W = (w.alloc (.cells [.int .i64 0, .string ⟨#[]⟩, .slice none 0 0, .slice none 0 0, .slice none 0 0, .int .i64 0, .slice none 0 0, .slice none 0 0].toArray 68)).alloc (.cells [.slice none 0 0, .bool false, .int .i64 0].toArray 179) := ⟨_, rfl⟩
  obtain ⟨b1, b2, hbW, hsW⟩ := blks2 _ _ _ _ _ W hW
  rw [← hW]
  clear hW
  have hrd : Rd W (w.heap.size + 1) 179 [.int .i64 0] [] false := ⟨none, 0, b2, Nat.le_refl _, Nat.zero_le _, Reads.empty⟩
  refine (rparcel_any W (w.heap.size + 1) _ [] (by simp) hrd (.inl rfl)).mono ?_
  rintro e w1 ⟨x9, cs9, bs9, bad9, rfl, hv, hrd1, hg1, hl1, hh1⟩
  obtain rfl : bad9 = true := by
    have h := hh1.out
    cases bad9
    · have h2 := good_on h
      rw [decP_nil] at h2
      cases h2
    · rfl
  have hs1 := hg1.size
  have hw1 : Below w.heap.size w w1 := below_far hbW hg1 (by omega)
  have z1 := b1.grown hg1 (by simp)
  obtain ⟨pr, ⟨sa, ss, si⟩, pb, pt, pw, pl⟩ := x9
  obtain ⟨sv, A3, c3, vs3, A4, c4, A5, c5, rfl, _, _, hsv, _⟩ := id hv
  obtain ⟨A1, c1, vs1, A2, c2, vs2, rfl, _⟩ := id hsv
  simp only [List.cons_append, List.nil_append] at hv ⊢
  clear hsv
  go_wp2_with (fail)
  obtain ⟨W2, hW2⟩ : ∃ W2, W2 = w1.alloc (.cells #[.int .i64 pr, .string sa, .slice A1 ss.length c1, .slice A2 si.length c2, .slice A3 pb.length c3, .int .i64 pt, .slice A4 pw.length c4, .slice A5 pl.length c5] 68) := ⟨_, rfl⟩
  have z2 : Blk W2 w.heap.size 68 [.int .i64 0, .string ⟨#[]⟩, .slice none 0 0, .slice none 0 0, .slice none 0 0, .int .i64 0, .slice none 0 0, .slice none 0 0] := by rw [hW2]; exact z1.alloc _
  have r2 : Rd W2 (w.heap.size + 1) 179 [.int .i64 0] bs9 true := by rw [hW2]; exact hrd1.alloc _
  have hw2 : Below w.heap.size w W2 := by rw [hW2]; exact hw1.alloc hw1.size _
  rw [← hW2]
  clear hW2 z1 hv hrd1 hrd b1 b2 hg1 hh1
  refine (rdone_any W2 (w.heap.size + 1) _ _ bs9 true r2).mono ?_
  rintro e w3 ⟨rfl, hb3⟩
  have z3 := z2.below hb3 z2.lt
  have hw3 : Below w.heap.size w w3 := hw2.trans (hb3.mono hw2.size)
  clear z2 r2 hw2 hw1 hb3
  simp only [Bool.not_true, Bool.false_and]
  have p0 := z3.cell 0
  have p1 := z3.cell 1
  have p2 := z3.cell 2
  have p3 := z3.cell 3
  have p4 := z3.cell 4
  have p5 := z3.cell 5
  have p6 := z3.cell 6
  have p7 := z3.cell 7
  have u0 := z3.frozen 0
  have u1 := z3.frozen 1
  have u2 := z3.frozen 2
  have u3 := z3.frozen 3
  have u4 := z3.frozen 4
  have u5 := z3.frozen 5
  have u6 := z3.frozen 6
  have u7 := z3.frozen 7
  simp only [List.getElem?_cons_succ, List.getElem?_cons_zero] at p0 p1 p2 p3 p4 p5 p6 p7
  have lz := z3.lt
  have hq := (setRow_blk z3 [.int .i64 0, .string ⟨#[]⟩, .slice none 0 0, .slice none 0 0, .slice none 0 0, .int .i64 0, .slice none 0 0, .slice none 0 0] rfl).alloc (.cells #[.int .i64 0, .string ⟨#[]⟩, .slice none 0 0, .slice none 0 0, .slice none 0 0, .int .i64 0, .slice none 0 0, .slice none 0 0] 68)
  have hb9 := setRow_below (Nat.le_refl w.heap.size) [.int .i64 0, .string ⟨#[]⟩, .slice none 0 0, .slice none 0 0, .slice none 0 0, .int .i64 0, .slice none 0 0, .slice none 0 0] w3 0 hw3
  have hbq := hb9.alloc hb9.size (.cells #[.int .i64 0, .string ⟨#[]⟩, .slice none 0 0, .slice none 0 0, .slice none 0 0, .int .i64 0, .slice none 0 0, .slice none 0 0] 68)
  clear hb9
  simp only [setRow, Nat.reduceAdd] at hq hbq
  have Hq := Lib.hid hq
  have Hbq := Lib.hid hbq
  clear hq hbq z3 hw3
  go_wp2_with (fail)
  refine ret_blk_tmp rfl rfl Hq.out Try.underlying68 (by kernel_rfl) rfl ?_
  exact ⟨rfl, Hbq.out⟩

set_option maxRecDepth 100000 in
set_option maxHeartbeats 1000000 in
theorem ReadP_nil (w : World) : Calls Try.prog 36 #[.slice none 0 0] w (NoPost w) := by
  obtain ⟨W, hW⟩ : ∃ W, W = w.alloc (.cells #[.int .i64 0, .string ⟨#[]⟩, .slice none 0 0, .slice none 0 0, .slice none 0 0, .int .i64 0, .slice none 0 0, .slice none 0 0] 68) := ⟨_, rfl⟩
  have hz : Blk W w.heap.size 68 [.int .i64 0, .string ⟨#[]⟩, .slice none 0 0, .slice none 0 0, .slice none 0 0, .int .i64 0, .slice none 0 0, .slice none 0 0] := by rw [hW]; exact Blk.new w _ _
  have hb : Below w.heap.size w W := by rw [hW]; exact (Below.refl _ _).alloc (Nat.le_refl _) _
  have HW := Lib.hid hW
  clear hW
  go_enter Try.func36, Try.ntmps36
  go_wp2_with (fail)
  rw [← HW.out]
  refine (readP_nil W).mono ?_
  clear HW
  rintro e w1 ⟨rfl, hb1⟩
  simp only [zeroPc]
  have z3 := hz.below hb1 hz.lt
  have hw1 : Below w.heap.size w w1 := hb.trans (hb1.mono hb.size)
  have p0 := z3.cell 0
  have p1 := z3.cell 1
  have p2 := z3.cell 2
  have p3 := z3.cell 3
  have p4 := z3.cell 4
  have p5 := z3.cell 5
  have p6 := z3.cell 6
  have p7 := z3.cell 7
  have u0 := z3.frozen 0
  have u1 := z3.frozen 1
  have u2 := z3.frozen 2
  have u3 := z3.frozen 3
  have u4 := z3.frozen 4
  have u5 := z3.frozen 5
  have u6 := z3.frozen 6
  have u7 := z3.frozen 7
  simp only [List.getElem?_cons_succ, List.getElem?_cons_zero] at p0 p1 p2 p3 p4 p5 p6 p7
  have lz := z3.lt
  have hq := setRow_blk z3 [.int .i64 0, .string ⟨#[]⟩, .slice none 0 0, .slice none 0 0, .slice none 0 0, .int .i64 0, .slice none 0 0, .slice none 0 0] rfl
  have hbq := setRow_below (Nat.le_refl w.heap.size) [.int .i64 0, .string ⟨#[]⟩, .slice none 0 0, .slice none 0 0, .slice none 0 0, .int .i64 0, .slice none 0 0, .slice none 0 0] w1 0 hw1
  simp only [setRow, Nat.reduceAdd] at hq hbq
  have Hq := Lib.hid hq
  have Hbq := Lib.hid hbq
  clear hq hbq z3 hw1 hz hb hb1
  go_wp2_with (fail)
  refine ret_blk_tmp rfl rfl Hq.out Try.underlying68 (by kernel_rfl) rfl ?_
  exact ⟨rfl, Hbq.out⟩
end Go.Proofs.Ytgcpclbkjplipaa
