/- Contracts of the reading of letters and saved actors out of their encodings. (Printed by mailio.py.) -/
import Derived.Test.YteojmmjanjilaaaMailSaved
import Derived.Test.YteojmmjanjilaaaPart23
set_option linter.unusedVariables false
namespace Go.Proofs.Yteojmmjanjilaaa
open Go.RowKit Go.Mem Go.Val

/-- what was written was read -/
def ReGood {α : Type} (cells : World → (Nat → Prop) → List Value → α → Prop) (w : World) (x : α) (e : Ending) (w' : World) : Prop := ∃ cs, e = .returned (.tuple #[.agg cs.toArray, .int .i64 0]) ∧ cells w' (fun b => w.heap.size ≤ b) cs x ∧ Below w.heap.size w w'
theorem same_read {α : Type} {o : Option (α × List UInt8)} {x y : α} {bs : List UInt8} (h : o = some (x, [])) (k : o = some (y, bs)) : x = y ∧ [] = bs := by
  rw [h] at k
  injection k with k
  injection k with k1 k2
  exact ⟨k1, k2⟩

set_option maxRecDepth 100000 in
set_option maxHeartbeats 1000000 in
theorem readL_any (A : Option Addr) (n c : Nat) (bs : List UInt8) (x : L) (w : World) (hn : n = bs.length) (hnc : n ≤ c) (hcm : c ≤ maxLen) (hr : Reads w Any 1 A n (u8s bs)) (hlen : bs.length ≤ 4194304) (hdec : decL 40 bs = some (x, [])) (hgood : GoodL 41 x) :
    Calls Try.prog 88 #[.slice A n c, .func (.func 85) #[] #[], .func (.func 48) #[] #[]] w (ReGood (LCells 41) w x) := by
  subst hn
  have Hdec := Lib.hid hdec
  have Hgood := Lib.hid hgood
  clear hdec hgood
  go_enter Try.func88, Try.ntmps88
  go_wp2_with (fail)
  obtain ⟨W, hW⟩ : ∃ W, W = (w.alloc (.cells [.int .i64 0, .int .i64 0, .int .i64 0, .int .i64 0, .string ⟨#[]⟩, .int .i64 0, .int .i64 0, .string ⟨#[]⟩, .slice none 0 0].toArray 55)).alloc (.cells [.slice A bs.length c, .bool false, .int .i64 0].toArray 159) := ⟨_, rfl⟩
  obtain ⟨b1, b2, hbW, hsW⟩ := blks2 _ _ _ _ _ W hW
  rw [← hW]
  clear hW
  have hrd : Rd W (w.heap.size + 1) 159 [.int .i64 0] bs false := ⟨A, c, b2, hnc, hcm, (hr.imp (by omega) fun b _ hl => by omega).keep (Same.any hbW)⟩
  refine (rletter_any W (w.heap.size + 1) _ bs hlen hrd (some_of Hdec.out)).mono ?_
  rintro e w1 ⟨x9, cs9, bs9, rfl, hv, hrd1, hg1, hl1, hh1⟩
  obtain ⟨rfl, rfl⟩ := same_read Hdec.out hh1.out
  have hs1 := hg1.size
  have hw1 : Below w.heap.size w w1 := below_far hbW hg1 (by omega)
  have z1 := b1.grown hg1 (by simp)
  obtain ⟨lk, lf, lt, ln, ls, X⟩ := x
  obtain ⟨vs, rfl, hfit, hvv⟩ := id hv
  obtain ⟨A4, c4, rfl⟩ := hvv.form
  obtain ⟨vk, vn, vt, va⟩ := X
  simp only [V.kind, V.num, V.text, V.args] at hv ⊢
  clear hvv hfit
  go_wp2_with (fail)
  obtain ⟨W2, hW2⟩ : ∃ W2, W2 = w1.alloc (.cells #[.int .i64 lk, .int .i64 lf, .int .i64 lt, .int .i64 ln, .string ls, .int .i64 vk, .int .i64 vn, .string vt, .slice A4 va.length c4] 55) := ⟨_, rfl⟩
  have z2 : Blk W2 w.heap.size 55 [.int .i64 0, .int .i64 0, .int .i64 0, .int .i64 0, .string ⟨#[]⟩, .int .i64 0, .int .i64 0, .string ⟨#[]⟩, .slice none 0 0] := by rw [hW2]; exact z1.alloc _
  have y2 : Blk W2 w1.heap.size 55 [.int .i64 lk, .int .i64 lf, .int .i64 lt, .int .i64 ln, .string ls, .int .i64 vk, .int .i64 vn, .string vt, .slice A4 va.length c4] := by rw [hW2]; exact Blk.new w1 _ _
  have v2 : LCells 41 W2 (fun b => W.heap.size ≤ b) [.int .i64 lk, .int .i64 lf, .int .i64 lt, .int .i64 ln, .string ls, .int .i64 vk, .int .i64 vn, .string vt, .slice A4 va.length c4] ⟨lk, lf, lt, ln, ls, V.mk vk vn vt va⟩ := by rw [hW2]; exact (LCells.stable 41).keep hv (Same.alloc _ _ _)
  have r2 : Rd W2 (w.heap.size + 1) 159 [.int .i64 0] [] false := by rw [hW2]; exact hrd1.alloc _
  have hw2 : Below w.heap.size w W2 := by rw [hW2]; exact hw1.alloc hw1.size _
  rw [← hW2]
  clear hW2 z1 hv hrd1 hrd hr b1 b2 hg1 hh1
  refine (rdone_any W2 (w.heap.size + 1) _ _ [] false r2).mono ?_
  rintro e w3 ⟨rfl, hb3⟩
  have z3 := z2.below hb3 z2.lt
  have y3 := y2.below hb3 y2.lt
  have v3 := (LCells.stable 41).keep v2 (Same.any (D := fun b => W.heap.size ≤ b) hb3)
  have hw3 : Below w.heap.size w w3 := hw2.trans (hb3.mono hw2.size)
  clear z2 y2 v2 r2 hw2 hw1 hb3
  have k0 := y3.cell 0
  have k1 := y3.cell 1
  have k2 := y3.cell 2
  have k3 := y3.cell 3
  have k4 := y3.cell 4
  have k5 := y3.cell 5
  have k6 := y3.cell 6
  have k7 := y3.cell 7
  have k8 := y3.cell 8
  simp only [List.getElem?_cons_succ, List.getElem?_cons_zero] at k0 k1 k2 k3 k4 k5 k6 k7 k8
  have lz := y3.lt
  simp only [Bool.not_false, List.isEmpty_nil, Bool.and_self]
  go_wp2_with (fail)
  refine (checkL_any 41 ⟨lk, lf, lt, ln, ls, V.mk vk vn vt va⟩ [.int .i64 lk, .int .i64 lf, .int .i64 lt, .int .i64 ln, .string ls, .int .i64 vk, .int .i64 vn, .string vt, .slice A4 va.length c4] w3 (by omega) ((LCells.stable 41).imp v3 fun _ _ _ => trivial) Hgood.out).mono ?_
  rintro e w4 ⟨rfl, hb4⟩
  have z4 := z3.below hb4 z3.lt
  have y4 := y3.below hb4 y3.lt
  have v4 := (LCells.stable 41).keep v3 (Same.any (D := fun b => W.heap.size ≤ b) hb4)
  have hw4 : Below w.heap.size w w4 := hw3.trans (hb4.mono hw3.size)
  clear z3 y3 v3 hw3 hb4 k0 k1 k2 k3 k4 k5 k6 k7 k8 lz
  have k0 := y4.cell 0
  have k1 := y4.cell 1
  have k2 := y4.cell 2
  have k3 := y4.cell 3
  have k4 := y4.cell 4
  have k5 := y4.cell 5
  have k6 := y4.cell 6
  have k7 := y4.cell 7
  have k8 := y4.cell 8
  simp only [List.getElem?_cons_succ, List.getElem?_cons_zero] at k0 k1 k2 k3 k4 k5 k6 k7 k8
  have p0 := z4.cell 0
  have p1 := z4.cell 1
  have p2 := z4.cell 2
  have p3 := z4.cell 3
  have p4 := z4.cell 4
  have p5 := z4.cell 5
  have p6 := z4.cell 6
  have p7 := z4.cell 7
  have p8 := z4.cell 8
  have u0 := z4.frozen 0
  have u1 := z4.frozen 1
  have u2 := z4.frozen 2
  have u3 := z4.frozen 3
  have u4 := z4.frozen 4
  have u5 := z4.frozen 5
  have u6 := z4.frozen 6
  have u7 := z4.frozen 7
  have u8 := z4.frozen 8
  simp only [List.getElem?_cons_succ, List.getElem?_cons_zero] at p0 p1 p2 p3 p4 p5 p6 p7 p8
  have lz := z4.lt
  have ly := y4.lt
  have hq := setRow_blk z4 [.int .i64 lk, .int .i64 lf, .int .i64 lt, .int .i64 ln, .string ls, .int .i64 vk, .int .i64 vn, .string vt, .slice A4 va.length c4] rfl
  have hbq := setRow_below (Nat.le_refl w.heap.size) [.int .i64 lk, .int .i64 lf, .int .i64 lt, .int .i64 ln, .string ls, .int .i64 vk, .int .i64 vn, .string vt, .slice A4 va.length c4] w4 0 hw4
  have hvq := (LCells.stable 41).imp ((LCells.stable 41).keep v4 (setRow_same (g := w.heap.size) (by omega) [.int .i64 lk, .int .i64 lf, .int .i64 lt, .int .i64 ln, .string ls, .int .i64 vk, .int .i64 vn, .string vt, .slice A4 va.length c4] w4 0)) (D' := fun b => w.heap.size ≤ b) fun b hb _ => by omega
  simp only [setRow, Nat.reduceAdd] at hq hbq hvq
  have Hq := Lib.hid hq
  have Hbq := Lib.hid hbq
  have Hvq := Lib.hid hvq
  clear hq hbq hvq z4 y4 v4 hw4
  go_wp2_with (fail)
  refine ret_blk_tmp rfl rfl Hq.out Try.underlying55 (by kernel_rfl) rfl ?_
  exact ⟨[.int .i64 lk, .int .i64 lf, .int .i64 lt, .int .i64 ln, .string ls, .int .i64 vk, .int .i64 vn, .string vt, .slice A4 va.length c4], rfl, Hvq.out, Hbq.out⟩

set_option maxRecDepth 100000 in
set_option maxHeartbeats 1000000 in
theorem ReadL_any (A : Option Addr) (n c : Nat) (bs : List UInt8) (x : L) (w : World) (hn : n = bs.length) (hnc : n ≤ c) (hcm : c ≤ maxLen) (hr : Reads w Any 1 A n (u8s bs)) (hlen : bs.length ≤ 2097152) (hdec : decL 40 bs = some (x, [])) (hgood : GoodL 41 x) :
    Calls Try.prog 72 #[.slice A n c] w (ReGood (LCells 41) w x) := by
  have hbig : ¬ ((2097152 : Int) < (n : Int)) := by omega
  obtain ⟨W, hW⟩ : ∃ W, W = w.alloc (.cells #[.int .i64 0, .int .i64 0, .int .i64 0, .int .i64 0, .string ⟨#[]⟩, .int .i64 0, .int .i64 0, .string ⟨#[]⟩, .slice none 0 0] 55) := ⟨_, rfl⟩
  have hz : Blk W w.heap.size 55 [.int .i64 0, .int .i64 0, .int .i64 0, .int .i64 0, .string ⟨#[]⟩, .int .i64 0, .int .i64 0, .string ⟨#[]⟩, .slice none 0 0] := by rw [hW]; exact Blk.new w _ _
  have hb : Below w.heap.size w W := by rw [hW]; exact (Below.refl _ _).alloc (Nat.le_refl _) _
  have hs : w.heap.size < W.heap.size := by rw [hW]; simp
  have HW := Lib.hid hW
  have Hn := Lib.hid hn
  have Hdec := Lib.hid hdec
  have Hgood := Lib.hid hgood
  clear hW hn hdec hgood
  go_enter Try.func72, Try.ntmps72
  go_wp2_with (fail)
  rw [← HW.out]
  refine (readL_any A n c bs x W Hn.out hnc hcm (hr.keep (Same.any hb)) (by omega) Hdec.out Hgood.out).mono ?_
  clear HW Hn hr
  rintro e w1 ⟨cs9, rfl, hv, hb1⟩
  obtain ⟨lk, lf, lt, ln, ls, X⟩ := x
  obtain ⟨vs, rfl, hfit, hvv⟩ := id hv
  obtain ⟨A4, c4, rfl⟩ := hvv.form
  obtain ⟨vk, vn, vt, va⟩ := X
  simp only [V.kind, V.num, V.text, V.args] at hv ⊢
  clear hvv hfit
  have z1 := hz.below hb1 hz.lt
  have hw1 : Below w.heap.size w w1 := hb.trans (hb1.mono hb.size)
  have p0 := z1.cell 0
  have p1 := z1.cell 1
  have p2 := z1.cell 2
  have p3 := z1.cell 3
  have p4 := z1.cell 4
  have p5 := z1.cell 5
  have p6 := z1.cell 6
  have p7 := z1.cell 7
  have p8 := z1.cell 8
  have u0 := z1.frozen 0
  have u1 := z1.frozen 1
  have u2 := z1.frozen 2
  have u3 := z1.frozen 3
  have u4 := z1.frozen 4
  have u5 := z1.frozen 5
  have u6 := z1.frozen 6
  have u7 := z1.frozen 7
  have u8 := z1.frozen 8
  simp only [List.getElem?_cons_succ, List.getElem?_cons_zero] at p0 p1 p2 p3 p4 p5 p6 p7 p8
  have lz := z1.lt
  have hq := setRow_blk z1 [.int .i64 lk, .int .i64 lf, .int .i64 lt, .int .i64 ln, .string ls, .int .i64 vk, .int .i64 vn, .string vt, .slice A4 va.length c4] rfl
  have hbq := setRow_below (Nat.le_refl w.heap.size) [.int .i64 lk, .int .i64 lf, .int .i64 lt, .int .i64 ln, .string ls, .int .i64 vk, .int .i64 vn, .string vt, .slice A4 va.length c4] w1 0 hw1
  have hvq := (LCells.stable 41).imp ((LCells.stable 41).keep hv (setRow_same (g := w.heap.size) (by omega) [.int .i64 lk, .int .i64 lf, .int .i64 lt, .int .i64 ln, .string ls, .int .i64 vk, .int .i64 vn, .string vt, .slice A4 va.length c4] w1 0)) (D' := fun b => w.heap.size ≤ b) fun b hb _ => by omega
  simp only [setRow, Nat.reduceAdd] at hq hbq hvq
  have Hq := Lib.hid hq
  have Hbq := Lib.hid hbq
  have Hvq := Lib.hid hvq
  clear hq hbq hvq z1 hw1 hv hz hb hb1 hs
  go_wp2_with (fail)
  refine ret_blk_tmp rfl rfl Hq.out Try.underlying55 (by kernel_rfl) rfl ?_
  exact ⟨[.int .i64 lk, .int .i64 lf, .int .i64 lt, .int .i64 ln, .string ls, .int .i64 vk, .int .i64 vn, .string vt, .slice A4 va.length c4], rfl, Hvq.out, Hbq.out⟩

end Go.Proofs.Yteojmmjanjilaaa
