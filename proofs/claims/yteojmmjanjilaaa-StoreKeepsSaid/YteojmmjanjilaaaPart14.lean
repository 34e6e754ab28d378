/- Words for blocks that are written cell by cell; decoders that must succeed; contract of (*reader).input. · Contract of valueOf: the value that raw ones say. -/
import Derived.Test.YteojmmjanjilaaaPart11
import Derived.Test.YteojmmjanjilaaaPart13
import Derived.Test.YteojmmjanjilaaaValNext
import Derived.Laws.EntriesVeiled
set_option linter.unusedVariables false
namespace Go.Mem
open Go.RowKit
/-- cells from an offset on are written, one behind the other -/
def setRow (w : World) (g : Nat) : Nat → List Value → World
  | _, [] => w
  | o, v :: vs => setRow (w.setCell ⟨g, o, none⟩ v) g (o + 1) vs
theorem setRow_heap {g b : Nat} (hb : b ≠ g) : ∀ (vs : List Value) (w : World) (o : Nat), (setRow w g o vs).heap[b]? = w.heap[b]?
  | [], _, _ => rfl
  | v :: vs, w, o => (setRow_heap hb vs (w.setCell ⟨g, o, none⟩ v) (o + 1)).trans (Below.heap_setCell w _ _ b hb)
theorem setRow_size (g : Nat) : ∀ (vs : List Value) (w : World) (o : Nat), (setRow w g o vs).heap.size = w.heap.size
  | [], _, _ => rfl
  | v :: vs, w, o => (setRow_size g vs (w.setCell ⟨g, o, none⟩ v) (o + 1)).trans (by simp [World.setCell])
theorem setRow_same {D : Nat → Prop} {g : Nat} (h : ¬ D g) (vs : List Value) (w : World) (o : Nat) : Same D w (setRow w g o vs) := fun b hb _ => setRow_heap (by rintro rfl; exact h hb) vs w o
theorem setRow_blk_at {g : Nat} {t : TypeId} : ∀ (vs pre old : List Value) (w : World), Blk w g t (pre ++ old) → old.length = vs.length → Blk (setRow w g pre.length vs) g t (pre ++ vs)
  | [], pre, old, w, h, hl => by
    have : old = [] := List.eq_nil_of_length_eq_zero (by simpa using hl)
    subst this
    exact h
  | v :: vs, pre, [], w, h, hl => by simp at hl
  | v :: vs, pre, x :: old, w, h, hl => by
    have h1 := h.put pre.length v
    have e1 : (pre ++ x :: old).set pre.length v = (pre ++ [v]) ++ old := by simp
    rw [e1] at h1
    have h2 := setRow_blk_at vs (pre ++ [v]) old _ h1 (by simpa using hl)
    simpa [setRow] using h2
theorem setRow_blk {g : Nat} {t : TypeId} {old : List Value} {w : World} (h : Blk w g t old) (vs : List Value) (hl : old.length = vs.length) : Blk (setRow w g 0 vs) g t vs := setRow_blk_at vs [] old w h hl
theorem setRow_grown {a : World} {R g : Nat} (hg : g = R ∨ a.heap.size ≤ g) : ∀ (vs : List Value) (w : World) (o : Nat), a.grownBy w (some R) → a.grownBy (setRow w g o vs) (some R)
  | [], _, _, h => h
  | v :: vs, w, o, h => setRow_grown hg vs _ _ (grownBy_setCell (p := ⟨g, o, none⟩) h hg v)
theorem setRow_below {a : World} {B g : Nat} (hg : B ≤ g) : ∀ (vs : List Value) (w : World) (o : Nat), Below B a w → Below B a (setRow w g o vs)
  | [], _, _, h => h
  | v :: vs, w, o, h => setRow_below hg vs _ _ (h.setCell (p := ⟨g, o, none⟩) hg v)
end Go.Mem
namespace Go.Val
open Go.RowKit Go.Mem
/-- a first decoder of a chain that succeeds: it succeeds, and the rest does -/
theorem fine_step {α β : Type} {dec : List UInt8 → Option (α × List UInt8)} {k : α → List UInt8 → Option (β × List UInt8)} {bad bad1 : Bool} {bs bs1 : List UInt8} {x : α} (h : (okS bad bs).bind dec = okS bad1 (x, bs1)) (hf : bad = false → (seqD dec k bs).isSome = true) :
    bad1 = bad ∧ (bad = false → (k x bs1).isSome = true) := by
  cases bad with
  | true =>
    cases bad1 with
    | true => exact ⟨rfl, fun h => by cases h⟩
    | false => simp [okS] at h
  | false =>
    have h1 := hf rfl
    simp only [okS, Bool.false_eq_true, if_false, Option.bind_some] at h
    unfold seqD at h1
    rw [h] at h1
    cases bad1 with
    | true => simp at h1
    | false => exact ⟨rfl, fun _ => h1⟩
theorem some_of {α : Type} {o : Option α} {x : α} (h : o = some x) : o.isSome = true := by rw [h]; rfl
/-- what was read: it lies in new memory; the reader is good -/
def RxPost {α : Type} (cells : World → (Nat → Prop) → List Value → α → Prop) (dec : List UInt8 → Option (α × List UInt8)) (w : World) (R : Nat) (T : TypeId) (bs : List UInt8) (e : Ending) (w' : World) : Prop :=
  ∃ (x : α) (cs : List Value) (bs' : List UInt8), e = .returned (.agg cs.toArray) ∧ cells w' (fun b => w.heap.size ≤ b) cs x ∧ Rd w' R T [.int .i64 0] bs' false ∧ w.grownBy w' (some R) ∧ bs'.length ≤ bs.length ∧ Hid (dec bs = some (x, bs'))
theorem VCells.zero (d : Nat) (w : World) (D : Nat → Prop) : VCells (d + 1) w D [.int .i64 0, .int .i64 0, .string ⟨#[]⟩, .slice none 0 0] zeroV :=
  ⟨none, 0, [], rfl, ⟨by omega, by omega⟩, ⟨by omega, by omega⟩, by decide, by decide, Nat.le_refl _, Nat.zero_le _, Reads.empty, All2.nil⟩
end Go.Val
namespace Go.Proofs.Yteojmmjanjilaaa
open Go.RowKit Go.Mem Go.Val

set_option maxRecDepth 100000 in
set_option maxHeartbeats 1000000 in
theorem rinput_any (w : World) (R : Nat) (T : TypeId) (bs : List UInt8) (hlen : bs.length ≤ 4194304) (h : Rd w R T [.int .i64 0] bs false) (hf : (decI 40 bs).isSome = true) :
    Calls Try.prog 94 #[.pointer (some ⟨R, 0, none⟩)] w (RxPost (InCells 41) (decI 40) w R T bs) := by
  have lR := h.lt
  have Hf := Lib.hid hf
  clear hf
  obtain ⟨W, hW⟩ : ∃ W, W = w.alloc (.cells #[.int .i64 0, .int .i64 0, .int .i64 0, .string ⟨#[]⟩, .slice none 0 0] 83) := ⟨_, rfl⟩
  have hrd : Rd W R T [.int .i64 0] bs false := by rw [hW]; exact h.alloc _
  have hG : w.grownBy W (some R) := by rw [hW]; exact grownBy_alloc (World.grownBy.refl w _) _
  have hB : Blk W w.heap.size 83 [.int .i64 0, .int .i64 0, .int .i64 0, .string ⟨#[]⟩, .slice none 0 0] := by rw [hW]; exact Blk.new w _ _
  have HW := Lib.hid hW
  clear hW h
  go_enter Try.func94, Try.ntmps94
  go_wp2_with (fail)
  rw [← HW.out]
  clear HW
  refine (byte_any W R T [.int .i64 0] bs false hrd).mono ?_
  rintro e w1 ⟨v1, x1, bs1, bad1, rfl, ⟨rfl, hx1, hx2⟩, hrd1, hg1, hl1, hh1⟩
  obtain ⟨hbad, hf1⟩ := fine_step hh1.out (fun _ => Hf.out)
  subst hbad
  have hB1 := hB.grown hg1 (by simp; omega)
  have hG1 := grownBy_trans hG hg1
  have hs1 := hB1.lt
  have lR1 := hrd1.lt
  have He := Lib.hid (seq_on (fun k => if k = 3 then retD (⟨k, zeroV⟩ : In) else seqD (decV 40) fun v => retD ⟨k, v⟩) hh1.out)
  clear hB hG hrd hg1 hh1
  obtain ⟨W2, hW2⟩ : ∃ W2, W2 = w1.alloc (.cells #[.int .i64 x1, .int .i64 0, .int .i64 0, .string ⟨#[]⟩, .slice none 0 0] 83) := ⟨_, rfl⟩
  have hrd2 : Rd W2 R T [.int .i64 0] bs1 false := by rw [hW2]; exact hrd1.alloc _
  have hG2 : w.grownBy W2 (some R) := by rw [hW2]; exact grownBy_alloc hG1 _
  have hB2 : Blk W2 w.heap.size 83 [.int .i64 0, .int .i64 0, .int .i64 0, .string ⟨#[]⟩, .slice none 0 0] := by rw [hW2]; exact hB1.alloc _
  have hC2 : Blk W2 w1.heap.size 83 [.int .i64 x1, .int .i64 0, .int .i64 0, .string ⟨#[]⟩, .slice none 0 0] := by rw [hW2]; exact Blk.new w1 _ _
  have HW2 := Lib.hid hW2
  clear hW2 hrd1 hG1 hB1
  by_cases hk3 : x1 = 3
  · subst hk3
    have hfin : RxPost (InCells 41) (decI 40) w R T bs (.returned (.agg #[.int .i64 3, .int .i64 0, .int .i64 0, .string ⟨#[]⟩, .slice none 0 0])) (setRow W2 w.heap.size 0 [.int .i64 3, .int .i64 0, .int .i64 0, .string ⟨#[]⟩, .slice none 0 0]) := by
      refine ⟨⟨3, zeroV⟩, [.int .i64 3, .int .i64 0, .int .i64 0, .string ⟨#[]⟩, .slice none 0 0], bs1, rfl, ⟨_, rfl, ⟨by decide, by decide⟩, VCells.zero 40 _ _⟩, hrd2.keep (setRow_same (by omega) _ _ _), setRow_grown (.inr (Nat.le_refl _)) _ _ _ hG2, hl1, ?_⟩
      have := He.out
      rw [if_pos rfl, ret_on] at this
      exact good_on this
    have hq := setRow_blk hB2 [.int .i64 3, .int .i64 0, .int .i64 0, .string ⟨#[]⟩, .slice none 0 0] rfl
    simp only [setRow, Nat.reduceAdd] at hfin hq
    have Hfin := Lib.hid hfin
    have Hq := Lib.hid hq
    clear hfin hq
    have m0 := hC2.cell 0
    have m1 := hC2.cell 1
    have m2 := hC2.cell 2
    have m3 := hC2.cell 3
    have m4 := hC2.cell 4
    have p0 := hB2.cell 0
    have p1 := hB2.cell 1
    have p2 := hB2.cell 2
    have p3 := hB2.cell 3
    have p4 := hB2.cell 4
    have u0 := hB2.frozen 0
    have u1 := hB2.frozen 1
    have u2 := hB2.frozen 2
    have u3 := hB2.frozen 3
    have u4 := hB2.frozen 4
    have lz := hB2.lt
    simp only [List.getElem?_cons_succ, List.getElem?_cons_zero] at m0 m1 m2 m3 m4 p0 p1 p2 p3 p4
    clear hB2 hC2 hrd2 hG2 He hf1
    go_upto_region 2 with (fail)
    rw [← HW2.out]
    clear HW2
    go_wp2_with (fail)
    refine ret_blk rfl rfl Hq.out Try.underlying83 (by kernel_rfl) rfl ?_
    exact Hfin.out
  · have h3 : (x1 == 3) = false := by simpa using hk3
    have h3' : (x1 != 3) = true := by simpa using hk3
    have c0 := hC2.cell 0
    simp only [List.getElem?_cons_zero] at c0
    have hs2 := hC2.lt
    have hf1' := hf1 rfl
    rw [if_neg hk3] at hf1'
    have Hf1 := Lib.hid hf1'
    clear hf1 hf1'
    go_upto_region 2 with (fail)
    rw [← HW2.out]
    clear HW2
    go_wp2_with (fail)
    refine (rvalue 40 W2 R T 0 bs1 (by omega) (by omega) (by omega) hrd2).mono ?_
    rintro e w3 ⟨X, A3, c3, bs3, bad3, dep3, rfl, hv3, hrd3, hg3, hl3, hh3, hd1, hd2, hd3⟩
    obtain ⟨vk, vn, vt, va⟩ := X
    simp only [vagg, vcells, V.kind, V.num, V.text, V.args] at hv3 ⊢
    obtain ⟨hbad, _⟩ := fine_step hh3.out (fun _ => Hf1.out)
    subst hbad
    have hd0 := hd3 rfl
    subst hd0
    have hB3 := hB2.grown hg3 (by simp; omega)
    have hC3 := hC2.grown hg3 (by simp; omega)
    have hG3 := grownBy_trans hG2 hg3
    obtain ⟨W4, hW4⟩ : ∃ W4, W4 = setRow w3 w1.heap.size 1 [.int .i64 vk, .int .i64 vn, .string vt, .slice A3 va.length c3] := ⟨_, rfl⟩
    have hC4 : Blk W4 w1.heap.size 83 [.int .i64 x1, .int .i64 vk, .int .i64 vn, .string vt, .slice A3 va.length c3] := by rw [hW4]; exact setRow_blk_at _ [.int .i64 x1] _ _ hC3 rfl
    have hB4 : Blk W4 w.heap.size 83 [.int .i64 0, .int .i64 0, .int .i64 0, .string ⟨#[]⟩, .slice none 0 0] := by rw [hW4]; exact hB3.same (D := fun b => b ≠ w1.heap.size) (setRow_same (by simp) _ _ _) (by omega)
    have hG4 : w.grownBy W4 (some R) := by rw [hW4]; exact setRow_grown (.inr (by omega)) _ _ _ hG3
    have hrd4 : Rd W4 R T [.int .i64 0] bs3 false := by rw [hW4]; exact hrd3.keep (setRow_same (by omega) _ _ _)
    have hv4 : VCells 41 W4 (fun b => W2.heap.size ≤ b) [.int .i64 vk, .int .i64 vn, .string vt, .slice A3 va.length c3] (V.mk vk vn vt va) := by rw [hW4]; exact hv3.keep (setRow_same (by omega) _ _ _)
    have hfin : RxPost (InCells 41) (decI 40) w R T bs (.returned (.agg #[.int .i64 x1, .int .i64 vk, .int .i64 vn, .string vt, .slice A3 va.length c3])) (setRow W4 w.heap.size 0 [.int .i64 x1, .int .i64 vk, .int .i64 vn, .string vt, .slice A3 va.length c3]) := by
      refine ⟨⟨x1, V.mk vk vn vt va⟩, [.int .i64 x1, .int .i64 vk, .int .i64 vn, .string vt, .slice A3 va.length c3], bs3, rfl, ⟨_, rfl, ⟨by simp only; omega, by simp only; omega⟩, (hv4.keep (setRow_same (by omega) _ _ _)).imp fun b hb _ => by omega⟩, hrd4.keep (setRow_same (by omega) _ _ _), setRow_grown (.inr (Nat.le_refl _)) _ _ _ hG4, by omega, ?_⟩
      have h1 := He.out
      rw [if_neg hk3, seq_on _ hh3.out, ret_on] at h1
      exact good_on h1
    have hq := setRow_blk hB4 [.int .i64 x1, .int .i64 vk, .int .i64 vn, .string vt, .slice A3 va.length c3] rfl
    simp only [setRow, Nat.reduceAdd] at hfin hq hW4
    have Hfin := Lib.hid hfin
    have Hq := Lib.hid hq
    have HW4 := Lib.hid hW4
    have q0 := hC3.cell 0
    have q1 := hC3.cell 1
    have q2 := hC3.cell 2
    have q3 := hC3.cell 3
    have q4 := hC3.cell 4
    have v1 := hC3.frozen 1
    have v2 := hC3.frozen 2
    have v3 := hC3.frozen 3
    have v4 := hC3.frozen 4
    have lz3 := hC3.lt
    have m0 := hC4.cell 0
    have m1 := hC4.cell 1
    have m2 := hC4.cell 2
    have m3 := hC4.cell 3
    have m4 := hC4.cell 4
    have p0 := hB4.cell 0
    have p1 := hB4.cell 1
    have p2 := hB4.cell 2
    have p3 := hB4.cell 3
    have p4 := hB4.cell 4
    have u0 := hB4.frozen 0
    have u1 := hB4.frozen 1
    have u2 := hB4.frozen 2
    have u3 := hB4.frozen 3
    have u4 := hB4.frozen 4
    have lz := hB4.lt
    simp only [List.getElem?_cons_succ, List.getElem?_cons_zero] at m0 m1 m2 m3 m4 p0 p1 p2 p3 p4 q0 q1 q2 q3 q4
    clear hfin hq hW4 hB2 hC2 hB3 hC3 hB4 hC4 hrd2 hrd3 hrd4 hG2 hG3 hG4 hv3 hv4 He Hf1 hh3 hg3
    go_upto_region 4 with (fail)
    rw [← HW4.out]
    clear HW4 q0 q1 q2 q3 q4 v1 v2 v3 v4 lz3
    go_wp2_with (fail)
    refine ret_blk rfl rfl Hq.out Try.underlying83 (by kernel_rfl) rfl ?_
    exact Hfin.out
end Go.Proofs.Yteojmmjanjilaaa
set_option linter.unusedVariables false
namespace Go.Proofs.Yteojmmjanjilaaa
open Go.RowKit Go.Mem Go.Val

set_option maxRecDepth 100000 in
set_option maxHeartbeats 600000 in
/-- valueOf: the value that raw ones say -/
theorem valueOf_any (l : List Raw) (A : Option Addr) (n c : Nat) (rss : List (List Value)) (w : World) (hn : n = l.length) (hnc : n ≤ c) (hcm : c ≤ maxLen) (hr : Reads w Any 4 A n rss.flatten) (ha : All2 (RawCells w Any) rss l) :
    Calls Try.prog 27 #[.slice A n c] w fun e w' => ∃ A' c', e = .returned (vagg (valF l) A' c') ∧ VCells 21 w' (fun b => w.heap.size ≤ b) (vcells (valF l) A' c') (valF l) ∧ Below w.heap.size w w' := by
  have hmf : ∀ (fn : Fn) (first cap : Array Value) (w : World), (Instr.makeFunc fn first cap).run Try.prog w = .ok (.func fn first cap) w := fun _ _ _ _ => rfl
  have Hn := Lib.hid hn
  clear hn
  go_enter Try.func27, Try.ntmps27
  go_wp2_with (fail)
  obtain ⟨W, hW⟩ : ∃ W, W = (((w.alloc (.cells [.slice A n c].toArray 22)).alloc (.cells [.int .i64 0, .int .i64 0, .string ⟨#[]⟩, .slice none 0 0].toArray 53)).alloc (.cells [.int .i64 0].toArray 3)).alloc (.cells [.func (.func 44) #[] #[.pointer (some ⟨w.heap.size + 1 + 1, 0, none⟩), .pointer (some ⟨w.heap.size, 0, none⟩), .pointer (some ⟨w.heap.size + 1 + 1 + 1, 0, none⟩)]].toArray 109) := ⟨_, rfl⟩
  obtain ⟨b1, b2, b3, b4, hbel, hsz⟩ := blks4 _ _ _ _ _ _ _ _ _ W hW
  rw [← hW]
  have hlt : ∀ b, Any b → b < w.heap.size → b ≠ w.heap.size + 1 + 1 := fun b _ h => by omega
  clear hW
  refine (next_any l A n c (w.heap.size + 1 + 1) w.heap.size (w.heap.size + 1 + 1 + 1) Hn.out hnc hcm 20 1 (by omega) (by omega) 0 W rss (by omega) b3 b1 b4 ((hr.imp (by omega) hlt).keep (Same.any hbel)) (ha.imp fun _ _ h => h)).mono ?_
  rintro e w1 ⟨⟨A4, c4, rfl, hv4⟩, cat1, hg1⟩
  generalize hvv : (nextF l 20 0).1 = vv at hv4 ⊢
  have Hvv : Hid (valF l = vv) := hvv
  clear hvv cat1
  obtain ⟨vk, vn, vt, va⟩ := vv
  simp only [vagg, vcells, V.kind, V.num, V.text, V.args] at hv4 ⊢
  have cres := b2.grown hg1 (by simp)
  have r0 := cres.cell 0
  have r1 := cres.cell 1
  have r2 := cres.cell 2
  have r3 := cres.cell 3
  have s0 := cres.frozen 0
  have s1 := cres.frozen 1
  have s2 := cres.frozen 2
  have s3 := cres.frozen 3
  simp only [List.getElem?_cons_succ, List.getElem?_cons_zero] at r0 r1 r2 r3
  go_wp2_with (fail)
  have hB := (((cres.put 0 (.int .i64 vk)).put 1 (.int .i64 vn)).put 2 (.string vt)).put 3 (.slice A4 va.length c4)
  have hS : Same (fun b => W.heap.size ≤ b) w1 ((((w1.setCell ⟨w.heap.size + 1, 0, none⟩ (.int .i64 vk)).setCell ⟨w.heap.size + 1, 1, none⟩ (.int .i64 vn)).setCell ⟨w.heap.size + 1, 2, none⟩ (.string vt)).setCell ⟨w.heap.size + 1, 3, none⟩ (.slice A4 va.length c4)) := by
    intro b hb hl
    have hne : b ≠ w.heap.size + 1 := by omega
    rw [Below.heap_setCell _ _ _ _ hne, Below.heap_setCell _ _ _ _ hne, Below.heap_setCell _ _ _ _ hne, Below.heap_setCell _ _ _ _ hne]
  have hw1 : Below w.heap.size w w1 := hbel.trans ⟨hg1.os, hg1.tape, hg1.output, hg1.size, fun k hk => hg1.block k (by omega) (by simp; omega)⟩
  have hG := (((hw1.setCell (p := ⟨w.heap.size + 1, 0, none⟩) (Nat.le_succ _) (.int .i64 vk)).setCell (p := ⟨w.heap.size + 1, 1, none⟩) (Nat.le_succ _) (.int .i64 vn)).setCell (p := ⟨w.heap.size + 1, 2, none⟩) (Nat.le_succ _) (.string vt)).setCell (p := ⟨w.heap.size + 1, 3, none⟩) (Nat.le_succ _) (.slice A4 va.length c4)
  have hV := hv4.keep hS
  generalize (((w1.setCell ⟨w.heap.size + 1, 0, none⟩ (.int .i64 vk)).setCell ⟨w.heap.size + 1, 1, none⟩ (.int .i64 vn)).setCell ⟨w.heap.size + 1, 2, none⟩ (.string vt)).setCell ⟨w.heap.size + 1, 3, none⟩ (.slice A4 va.length c4) = W' at hB hG hV ⊢
  refine ret_blk rfl rfl hB Try.underlying53 (by kernel_rfl) rfl ?_
  rw [Hvv.out]
  exact ⟨A4, c4, rfl, hV.imp fun b hb _ => by omega, hG⟩
end Go.Proofs.Yteojmmjanjilaaa
