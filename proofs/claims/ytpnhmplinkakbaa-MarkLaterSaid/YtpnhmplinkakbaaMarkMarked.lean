/- Contract of the laws' closed fact marked. -/
import Derived.Test.YtpnhmplinkakbaaMarkTowns
set_option linter.unusedVariables false
namespace Go.Proofs.Ytpnhmplinkakbaa
open Go.RowKit Go.Mem Go.Maps

def dsM : List Dd := [⟨1, 0, 1, 2⟩, ⟨3, 1, 0, 0⟩, ⟨2, 0, 1, 0⟩, ⟨2, 1, 0, 0⟩, ⟨2, 0, 1, 0⟩]
theorem shotM : shotF (runF (newF [5, 3]) dsM) = ⟨true, [3, 3], [[[]], [[2]]], [3, 5], 0⟩ := by kernel_rfl
theorem All2.get {α β : Type} {R : α → β → Prop} {xs : List α} {ys : List β} (h : All2 R xs ys) (k : Nat) (y : β) (hy : ys[k]? = some y) : ∃ x, xs[k]? = some x ∧ R x y := by
  have hk : k < ys.length := (List.getElem?_eq_some_iff.1 hy).1
  obtain ⟨x, h1, h2⟩ := h.at_ hk
  have e : ys[k] = y := (List.getElem?_eq_some_iff.1 hy).2
  exact ⟨x, h1, e ▸ h2⟩
/-- a row of one-cell things: the cell of number k -/
theorem one_at {β : Type} {w : World} {D : Nat → Prop} {R : World → (Nat → Prop) → List Value → β → Prop} (hS : Stable 1 R) {A : Option Addr} {n : Nat} {vss : List (List Value)} {l : List β} (hr : Reads w D 1 A n vss.flatten) (ha : All2 (R w D) vss l) (hn : n = l.length) (k : Nat) (y : β) (hy : l[k]? = some y) :
    ∃ b off cs, A = some ⟨b, off, none⟩ ∧ R w D cs y ∧ ∀ u, cs[0]? = some u → w.cell? ⟨b, off + k, none⟩ = some u := by
  have hk : k < l.length := (List.getElem?_eq_some_iff.1 hy).1
  obtain ⟨b, off, cs, h1, _, h2, h3⟩ := hr.elem hS ha hn hk
  have e : l[k] = y := (List.getElem?_eq_some_iff.1 hy).2
  exact ⟨b, off, cs, h1, e ▸ h2, fun u hu => by simpa using h3 0 u hu⟩

theorem equal_same (A : Option Addr) (n c m b t : Nat) (l : List Int) {D : Nat → Prop} (w : World) (hr : Reads w D 1 A n (nums l)) (hs : Blk w b t (nums l)) (hn : n ≤ 1099511627776) (hm : n = m) :
    Calls Try.prog 14 #[.slice A n c, .slice (some ⟨b, 0, none⟩) m m] w fun e w' => e = .returned (.bool true) ∧ Below w.heap.size w w' := by
  subst hm
  have e := equal_ints A (some ⟨b, 0, none⟩) n c n n l l D Any w hr (blk_reads hs 1 n (by have := hr.len; omega)) hn hn
  simpa only [decide_true] using e

set_option maxRecDepth 100000 in
set_option maxHeartbeats 2000000 in
theorem marked_any (w : World) : Calls Try.prog 23 #[] w fun e w' => e = .returned (.bool true) ∧ Below w.heap.size w w' := by
  go_enter Try.func23, Try.ntmps23
  go_wp2_with (fail)
  obtain ⟨W, hW⟩ : ∃ W, W = (w.alloc (.cells #[.int .i64 5, .int .i64 3] 3)).alloc (.cells #[.int .i64 1, .int .i64 0, .int .i64 1, .int .i64 2, .int .i64 3, .int .i64 1, .int .i64 0, .int .i64 0, .int .i64 2, .int .i64 0, .int .i64 1, .int .i64 0, .int .i64 2, .int .i64 1, .int .i64 0, .int .i64 0, .int .i64 2, .int .i64 0, .int .i64 1, .int .i64 0] 64) := ⟨_, rfl⟩
  have hC : Reads W Any 1 (some ⟨w.heap.size, 0, none⟩) 2 (nums [5, 3]) := by
    rw [hW]
    exact blk_reads ((Blk.new w 3 [.int .i64 5, .int .i64 3]).alloc _) 1 2 rfl
  have hD : Reads W Any 4 (some ⟨w.heap.size + 1, 0, none⟩) 5 (ddcs dsM) := by
    rw [hW]
    exact blk_reads (blk2 w _ 64 (ddcs dsM)) 4 5 rfl
  have hbW : Below w.heap.size w W := by rw [hW]; exact below2 (Below.refl _ _) _ _
  rw [← hW]
  have HBW := Lib.hid hbW
  clear hW hbW
  refine (mrun_any W (some ⟨w.heap.size, 0, none⟩) 2 2 [5, 3] (some ⟨w.heap.size + 1, 0, none⟩) 5 5 dsM rfl (by omega) (by omega) (by intro x hx; simp at hx; omega) hC rfl (by omega) hD (by intro d hd; simp [dsM] at hd; rcases hd with rfl | rfl | rfl | rfl | rfl <;> simp) (by decide)).mono ?_
  rw [shotM]
  rintro e w1 ⟨cs, rfl, ⟨A1, c1, A2, c2, vss, A3, c3, rfl, ⟨_, _⟩, ⟨_, _⟩, ⟨_, _⟩, hr1, hr2, ha2, hr3⟩, hb1⟩
  simp only [List.length_cons, List.length_nil, Nat.zero_add, Nat.reduceAdd] at hr1 hr2 hr3 ⊢
  have hbw1 : Below w.heap.size w w1 := HBW.out.trans (hb1.mono HBW.out.size)
  obtain ⟨b2, o2, cs2, rfl, hw2, hc2⟩ := one_at WaysCell.stable hr2 ha2 rfl 1 [[2]] rfl
  obtain ⟨v2, rfl, A4, c4, vs4, rfl, _, _, hr4, ha4⟩ := hw2
  have q2 := hc2 _ rfl
  simp only [List.length_cons, List.length_nil, Nat.zero_add] at hr4 q2
  obtain ⟨b4, o4, cs4, rfl, hw4, hc4⟩ := one_at NumsCell.stable hr4 ha4 rfl 0 [2] rfl
  obtain ⟨v4, rfl, A5, n5, c5, rfl, _, _, hr5⟩ := hw4
  have q4 := hc4 _ rfl
  have hn5 : n5 = 1 := by have := hr5.len; simpa [nums] using this
  subst hn5
  simp only [Nat.add_zero] at q4
  have l2 := lt_of_cell q2
  have l4 := lt_of_cell q4
  have E1 := Lib.hid (fun (W : World) (hb : Below w1.heap.size w1 W) (b t : Nat) (hs : Blk W b t [.int .i64 3, .int .i64 3]) => equal_same A1 2 c1 2 b t [3, 3] W (hr1.keep (Same.any hb)) hs (by omega) rfl)
  have E3 := Lib.hid (fun (W : World) (hb : Below w1.heap.size w1 W) (b t : Nat) (hs : Blk W b t [.int .i64 3, .int .i64 5]) => equal_same A3 2 c3 2 b t [3, 5] W (hr3.keep (Same.any hb)) hs (by omega) rfl)
  have E5 := Lib.hid (fun (W : World) (hb : Below w1.heap.size w1 W) (b t : Nat) (hs : Blk W b t [.int .i64 2]) => equal_same A5 1 c5 1 b t [2] W (hr5.keep (Same.any hb)) hs (by omega) rfl)
  have HB1 := Lib.hid hbw1
  clear hC hD hr1 hr2 hr3 hr4 hr5 ha2 ha4 hc2 hc4 hb1 hbw1 HBW
  go_wp2_with (fail)
  obtain ⟨W2, hW2⟩ : ∃ W, W = (w1.alloc (.cells #[.bool true, .slice A1 2 c1, .slice (some ⟨b2, o2, none⟩) 2 c2, .slice A3 2 c3, .int .i64 0] 59)) := ⟨_, rfl⟩
  rw [← hW2]
  have hS : Blk W2 w1.heap.size 59 [.bool true, .slice A1 2 c1, .slice (some ⟨b2, o2, none⟩) 2 c2, .slice A3 2 c3, .int .i64 0] := by rw [hW2]; exact Blk.new w1 _ _
  have hb2 : Below w1.heap.size w1 W2 := by rw [hW2]; exact (Below.refl _ _).alloc (Nat.le_refl _) _
  have hz2 : W2.heap.size = w1.heap.size + 1 := by rw [hW2]; simp
  clear hW2
  rw [← hz2]
  have hb3 : Below W2.heap.size W2 (W2.alloc (.cells #[.int .i64 3, .int .i64 3] 3)) := (Below.refl _ _).alloc (Nat.le_refl _) _
  refine (E1.out _ (hb2.trans (hb3.mono hb2.size)) _ _ (Blk.new W2 3 [.int .i64 3, .int .i64 3])).mono ?_
  rintro e w3 ⟨rfl, hq3⟩
  have hB3 : Below W2.heap.size W2 w3 := hb3.trans (hq3.mono hb3.size)
  have hS3 := hS.below hB3 hS.lt
  have hw13 : Below w1.heap.size w1 w3 := hb2.trans (hB3.mono hb2.size)
  have s0 := hS3.cell 0
  have s1 := hS3.cell 1
  have s2 := hS3.cell 2
  have s3 := hS3.cell 3
  have s4 := hS3.cell 4
  simp only [List.getElem?_cons_zero, List.getElem?_cons_succ] at s0 s1 s2 s3 s4
  have HS3 := Lib.hid hS3
  have HW13 := Lib.hid hw13
  clear hq3 hB3 hS3 hb3 hb2 hw13 hS E1
  clear hz2
  go_wp2_with (fail)
  have hb4 : Below w3.heap.size w3 (w3.alloc (.cells #[.int .i64 3, .int .i64 5] 3)) := (Below.refl _ _).alloc (Nat.le_refl _) _
  refine (E3.out _ (HW13.out.trans (hb4.mono HW13.out.size)) _ _ (Blk.new w3 3 [.int .i64 3, .int .i64 5])).mono ?_
  rintro e w4 ⟨rfl, hq4⟩
  have hB4 : Below w3.heap.size w3 w4 := hb4.trans (hq4.mono hb4.size)
  have hS4 := HS3.out.below hB4 HS3.out.lt
  have hw14 : Below w1.heap.size w1 w4 := HW13.out.trans (hB4.mono HW13.out.size)
  have t0 := hS4.cell 0
  have t1 := hS4.cell 1
  have t2 := hS4.cell 2
  have t3 := hS4.cell 3
  have t4 := hS4.cell 4
  simp only [List.getElem?_cons_zero, List.getElem?_cons_succ] at t0 t1 t2 t3 t4
  have k2 := (hw14.cell l2).trans q2
  have k4 := (hw14.cell l4).trans q4
  have HW14 := Lib.hid hw14
  clear hq4 hB4 hS4 hb4 hw14 s0 s1 s2 s3 s4 q2 q4 E3 HS3 HW13
  go_wp2_with (fail)
  have hb5 : Below w4.heap.size w4 (w4.alloc (.cells #[.int .i64 2] 3)) := (Below.refl _ _).alloc (Nat.le_refl _) _
  refine (E5.out _ (HW14.out.trans (hb5.mono HW14.out.size)) _ _ (Blk.new w4 3 [.int .i64 2])).mono ?_
  rintro e w5 ⟨rfl, hq5⟩
  have hw15 : Below w1.heap.size w1 w5 := HW14.out.trans ((hb5.trans (hq5.mono hb5.size)).mono HW14.out.size)
  have HF := Lib.hid (HB1.out.trans (hw15.mono HB1.out.size))
  clear hq5 hb5 hw15 t0 t1 t2 t3 t4 k2 k4 HW14 E5
  go_wp2_with (fail)
  go_ret
  exact ⟨rfl, HF.out⟩
end Go.Proofs.Ytpnhmplinkakbaa
