/- Contracts of value.read at values and value.Read: what they answer. -/
import Derived.Test.YtgcpclbkjplipaaRdValue
import Derived.Test.YtgcpclbkjplipaaPart16
set_option linter.unusedVariables false
namespace Go.Proofs.Ytgcpclbkjplipaa
open Go.RowKit Go.Mem Go.Val

theorem rvalue : ∀ d, RV d
  | 0 => rvalue_zero
  | d + 1 => rvalue_succ d (rvalue d)

/-- what Read makes of bytes -/
def readF (bs : List UInt8) : Option V := match decV 40 bs with
  | some (x, []) => if checkF 41 x = 0 then some x else none
  | _ => none
def ReadPost (w : World) (bs : List UInt8) (e : Ending) (w' : World) : Prop :=
  (∃ x A c, readF bs = some x ∧ e = .returned (.tuple #[vagg x A c, .int .i64 0]) ∧ VCells 41 w' (fun b => w.heap.size ≤ b) (vcells x A c) x ∧ Below w.heap.size w w') ∨
  (readF bs = none ∧ e = .returned (.tuple #[.agg #[.int .i64 0, .int .i64 0, .string ⟨#[]⟩, .slice none 0 0], .int .i64 3]) ∧ Below w.heap.size w w')
theorem readF_bad {bs bs1 : List UInt8} {bad1 : Bool} {X : V} (h : (okS false bs).bind (decV 40) = okS bad1 (X, bs1)) (hd : (!bad1 && bs1.isEmpty) = false) : readF bs = none := by
  have e := good_on h
  unfold readF
  rw [e]
  cases bad1 with
  | true => rfl
  | false =>
    cases bs1 with
    | nil => simp at hd
    | cons b t => rfl
theorem readF_good {bs bs1 : List UInt8} {bad1 : Bool} {X : V} (h : (okS false bs).bind (decV 40) = okS bad1 (X, bs1)) (hd : (!bad1 && bs1.isEmpty) = true) : readF bs = if checkF 41 X = 0 then some X else none := by
  have e := good_on h
  unfold readF
  rw [e]
  cases bad1 with
  | true => simp at hd
  | false =>
    cases bs1 with
    | nil => rfl
    | cons b t => simp at hd
theorem below_set4 {a w : World} {B g : Nat} (h : Below B a w) (hg : B ≤ g) (x y z u : Value) : Below B a ((((w.setCell ⟨g, 0, none⟩ x).setCell ⟨g, 1, none⟩ y).setCell ⟨g, 2, none⟩ z).setCell ⟨g, 3, none⟩ u) :=
  (((h.setCell (p := ⟨g, 0, none⟩) hg x).setCell (p := ⟨g, 1, none⟩) hg y).setCell (p := ⟨g, 2, none⟩) hg z).setCell (p := ⟨g, 3, none⟩) hg u
/-- grown but for a block that is new: nothing below has changed -/
theorem below_far {a b c : World} {g : Nat} (h : Below a.heap.size a b) (k : b.grownBy c (some g)) (hg : a.heap.size ≤ g) : Below a.heap.size a c := h.grown k h.size (fun i hi => by injection hi with hi; omega)

set_option maxRecDepth 100000 in
set_option maxHeartbeats 1000000 in
theorem read_any (A : Option Addr) (n c : Nat) (bs : List UInt8) (w : World) (hn : n = bs.length) (hnc : n ≤ c) (hcm : c ≤ maxLen) (hr : Reads w Any 1 A n (u8s bs)) (hlen : bs.length ≤ 4194304) :
    Calls Try.prog 61 #[.slice A n c, .func (.func 62) #[] #[], .func (.func 55) #[] #[]] w (ReadPost w bs) := by
  subst hn
  go_enter Try.func61, Try.ntmps61
  go_wp2_with (fail)
  obtain ⟨W, hW⟩ : ∃ W, W = (w.alloc (.cells [.int .i64 0, .int .i64 0, .string ⟨#[]⟩, .slice none 0 0].toArray 35)).alloc (.cells [.slice A bs.length c, .bool false, .int .i64 0].toArray 179) := ⟨_, rfl⟩
  obtain ⟨b1, b2, hbW, hsW⟩ := blks2 _ _ _ _ _ W hW
  rw [← hW]
  clear hW
  have hrd : Rd W (w.heap.size + 1) 179 [.int .i64 0] bs false := ⟨A, c, b2, hnc, hcm, (hr.imp (by omega) fun b _ hl => by omega).keep (Same.any hbW)⟩
  refine (rvalue 40 W (w.heap.size + 1) _ 0 bs (by omega) (by omega) hlen hrd).mono ?_
  rintro e w1 ⟨X, A1, c1, bs1, bad1, dep1, rfl, hv, hrd1, hg1, hl1, hh1, _, _, _⟩
  obtain ⟨vk, vn, vt, va⟩ := X
  simp only [vagg, vcells, V.kind, V.num, V.text, V.args] at hv ⊢
  have hs1 := hg1.size
  have hw1 : Below w.heap.size w w1 := below_far hbW hg1 (by omega)
  have z1 := b1.grown hg1 (by simp)
  go_wp2_with (fail)
  obtain ⟨W2, hW2⟩ : ∃ W2, W2 = w1.alloc (.cells #[.int .i64 vk, .int .i64 vn, .string vt, .slice A1 va.length c1] 35) := ⟨_, rfl⟩
  have z2 : Blk W2 w.heap.size 35 [.int .i64 0, .int .i64 0, .string ⟨#[]⟩, .slice none 0 0] := by rw [hW2]; exact z1.alloc _
  have y2 : Blk W2 w1.heap.size 35 [.int .i64 vk, .int .i64 vn, .string vt, .slice A1 va.length c1] := by rw [hW2]; exact Blk.new w1 _ _
  have v2 : VCells 41 W2 (fun b => W.heap.size ≤ b) [.int .i64 vk, .int .i64 vn, .string vt, .slice A1 va.length c1] (V.mk vk vn vt va) := by rw [hW2]; exact hv.keep (Same.alloc _ _ _)
  have r2 : Rd W2 (w.heap.size + 1) 179 [.int .i64 dep1] bs1 bad1 := by rw [hW2]; exact hrd1.alloc _
  have hw2 : Below w.heap.size w W2 := by rw [hW2]; exact hw1.alloc hw1.size _
  rw [← hW2]
  clear hW2 z1 hv hrd1 hrd hr b1 b2 hg1
  refine (rdone_any W2 (w.heap.size + 1) _ _ bs1 bad1 r2).mono ?_
  rintro e w3 ⟨rfl, hb3⟩
  have z3 := z2.below hb3 z2.lt
  have y3 := y2.below hb3 y2.lt
  have v3 := v2.keep (Same.any (D := fun b => W.heap.size ≤ b) hb3)
  have hw3 : Below w.heap.size w w3 := hw2.trans (hb3.mono hw2.size)
  clear z2 y2 v2 r2 hw2 hw1
  obtain ⟨D, hD⟩ : ∃ D, D = (!bad1 && bs1.isEmpty) := ⟨_, rfl⟩
  rw [← hD]
  have HD := Lib.hid hD
  clear hD hb3
  have k0 := y3.cell 0
  have k1 := y3.cell 1
  have k2 := y3.cell 2
  have k3 := y3.cell 3
  have p0 := z3.cell 0
  have p1 := z3.cell 1
  have p2 := z3.cell 2
  have p3 := z3.cell 3
  have u0 := z3.frozen 0
  have u1 := z3.frozen 1
  have u2 := z3.frozen 2
  have u3 := z3.frozen 3
  simp only [List.getElem?_cons_succ, List.getElem?_cons_zero] at k0 k1 k2 k3 p0 p1 p2 p3
  have lz := z3.lt
  cases D with
  | false =>
    have hnone := readF_bad hh1.out HD.out.symm
    have Hnone := Lib.hid hnone
    have hq := (Blk.set4 z3 (.int .i64 0) (.int .i64 0) (.string ⟨#[]⟩) (.slice none 0 0)).alloc (.cells #[.int .i64 0, .int .i64 0, .string ⟨#[]⟩, .slice none 0 0] 35)
    have hbq := (below_set4 hw3 (Nat.le_refl w.heap.size) (.int .i64 0) (.int .i64 0) (.string ⟨#[]⟩) (.slice none 0 0)).alloc (by rw [size_set4]; exact hw3.size) (.cells #[.int .i64 0, .int .i64 0, .string ⟨#[]⟩, .slice none 0 0] 35)
    have Hq := Lib.hid hq
    have Hbq := Lib.hid hbq
    clear hq hbq hnone z3 y3 v3 hh1 HD hw3
    go_wp2_with (fail)
    refine ret_blk_tmp rfl rfl Hq.out Try.underlying35 (by kernel_rfl) rfl ?_
    exact .inr ⟨Hnone.out, rfl, Hbq.out⟩
  | true =>
    have hok := readF_good hh1.out HD.out.symm
    have Hok := Lib.hid hok
    clear hok hh1 HD
    go_wp2_with (fail)
    refine (check_any 41 (V.mk vk vn vt va) [.int .i64 vk, .int .i64 vn, .string vt, .slice A1 va.length c1] w3 (by omega) (v3.imp fun _ _ _ => trivial)).mono ?_
    rintro e w4 ⟨rfl, hb4⟩
    have z4 := z3.below hb4 z3.lt
    have y4 := y3.below hb4 y3.lt
    have v4 := v3.keep (Same.any (D := fun b => W.heap.size ≤ b) hb4)
    have hw4 : Below w.heap.size w w4 := hw3.trans (hb4.mono hw3.size)
    clear z3 y3 v3 hw3 hb4 k0 k1 k2 k3 p0 p1 p2 p3 u0 u1 u2 u3 lz
    have k0 := y4.cell 0
    have k1 := y4.cell 1
    have k2 := y4.cell 2
    have k3 := y4.cell 3
    have p0 := z4.cell 0
    have p1 := z4.cell 1
    have p2 := z4.cell 2
    have p3 := z4.cell 3
    have u0 := z4.frozen 0
    have u1 := z4.frozen 1
    have u2 := z4.frozen 2
    have u3 := z4.frozen 3
    simp only [List.getElem?_cons_succ, List.getElem?_cons_zero] at k0 k1 k2 k3 p0 p1 p2 p3
    have lz := z4.lt
    obtain ⟨r, hr⟩ : ∃ r, r = checkF 41 (V.mk vk vn vt va) := ⟨_, rfl⟩
    rw [← hr]
    have Hr := Lib.hid hr
    clear hr
    by_cases h0 : r = 0
    · have hsome : readF bs = some (V.mk vk vn vt va) := by rw [Hok.out, ← Hr.out, if_pos h0]
      subst h0
      have hq := Blk.set4 z4 (.int .i64 vk) (.int .i64 vn) (.string vt) (.slice A1 va.length c1)
      have hbq := below_set4 hw4 (Nat.le_refl w.heap.size) (.int .i64 vk) (.int .i64 vn) (.string vt) (.slice A1 va.length c1)
      have hvq := (v4.keep (same_set4 w4 w.heap.size (.int .i64 vk) (.int .i64 vn) (.string vt) (.slice A1 va.length c1) (by omega))).imp (D' := fun b => w.heap.size ≤ b) fun b hb _ => by omega
      have Hq := Lib.hid hq
      have Hbq := Lib.hid hbq
      have Hvq := Lib.hid hvq
      have Hs := Lib.hid hsome
      clear hq hbq hvq hsome z4 y4 v4 hw4 Hok Hr
      go_wp2_with (fail)
      refine ret_blk_tmp rfl rfl Hq.out Try.underlying35 (by kernel_rfl) rfl ?_
      exact .inl ⟨V.mk vk vn vt va, A1, c1, Hs.out, rfl, Hvq.out, Hbq.out⟩
    · have hnone : readF bs = none := by rw [Hok.out, ← Hr.out, if_neg h0]
      have h1 : (r != 0) = true := by simpa using h0
      have h2 : (r == 0) = false := by simpa using h0
      have Hnone := Lib.hid hnone
      have hq := (Blk.set4 z4 (.int .i64 0) (.int .i64 0) (.string ⟨#[]⟩) (.slice none 0 0)).alloc (.cells #[.int .i64 0, .int .i64 0, .string ⟨#[]⟩, .slice none 0 0] 35)
      have hbq := (below_set4 hw4 (Nat.le_refl w.heap.size) (.int .i64 0) (.int .i64 0) (.string ⟨#[]⟩) (.slice none 0 0)).alloc (by rw [size_set4]; exact hw4.size) (.cells #[.int .i64 0, .int .i64 0, .string ⟨#[]⟩, .slice none 0 0] 35)
      have Hq := Lib.hid hq
      have Hbq := Lib.hid hbq
      clear hq hbq hnone z4 y4 v4 hw4 Hok Hr
      go_wp2_with (fail)
      refine ret_blk_tmp rfl rfl Hq.out Try.underlying35 (by kernel_rfl) rfl ?_
      exact .inr ⟨Hnone.out, rfl, Hbq.out⟩
end Go.Proofs.Ytgcpclbkjplipaa
