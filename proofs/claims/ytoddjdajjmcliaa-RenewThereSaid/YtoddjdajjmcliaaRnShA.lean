/- A program of the laws, with the names of its actor's fields; contract of shape.Actor. -/
import Derived.Test.YtoddjdajjmcliaaRnActor
import Derived.Test.YtoddjdajjmcliaaShIn
set_option linter.unusedVariables false
namespace Go.Proofs.Ytoddjdajjmcliaa
open Go.RowKit Go.Mem Go.Sh Go.Maps Go.Val
/-- a program of the laws -/
structure PgX (w : World) (A : Option Addr) (n c bc e : Nat) (y : Nat) (bad : Bool) (ad : Addr) (cn : Nat) (At : Option Addr) (ct q m : Nat) (I : List Nat) : Prop where
  dts : DtsAt 4 w Any A n c (pd y bad)
  act : Blk w bc 40 (acell (some ad) m cn At ct q)
  nr : Reads w Any 1 (some ad) m (strs (I.map nmF))
  ts : TsAt 4 w Any At m ct (I.map tyF)
  cap : m ≤ cn ∧ cn ≤ maxLen
  y12 : 1 ≤ y ∧ y ≤ 2
  q2 : q < 2
  len : m = I.length ∧ 0 < m ∧ m ≤ 6
  idx : ∃ bits, I = idxF bits 9 ∧ 1 ≤ bits ∧ bits ≤ 511
theorem PgX.below {w w' : World} {A : Option Addr} {n c bc e y : Nat} {bad : Bool} {ad : Addr} {cn : Nat} {At : Option Addr} {ct q m : Nat} {I : List Nat} (h : PgX w A n c bc e y bad ad cn At ct q m I) (hb : Below w.heap.size w w') : PgX w' A n c bc e y bad ad cn At ct q m I :=
  { h with dts := h.dts.keep (Same.any hb), act := h.act.below hb h.act.lt, nr := h.nr.keep (Same.any hb), ts := h.ts.keep (Same.any hb) }
theorem PgmAt.x {w : World} {p : Pg} {y : Nat} {bad : Bool} {q bits : Nat} (h : PgmAt w p y bad q (idxF bits 9)) (hy : 1 ≤ y ∧ y ≤ 2) (hq : q < 2) (hb : 1 ≤ bits ∧ bits ≤ 511) : ∃ A n c bc e ad cn At ct m, p = ⟨A, n, c, some ⟨bc, 0, none⟩, 1, e⟩ ∧ PgX w A n c bc e y bad ad cn At ct q m (idxF bits 9) := by
  obtain ⟨A, n, c, B, m, e⟩ := p
  obtain ⟨h1, h2, bc, An, cn, At, ct, h3, h4, h5, h6, h7, h8⟩ := h
  simp only at h1 h2 h3
  subst h2 h3
  have hp := idxF_pos hb
  obtain ⟨b, o, e1, _⟩ := h7.2 hp
  subst e1
  exact ⟨A, n, c, bc, e, _, cn, At, ct, _, rfl, h1, h4, h7, h8, ⟨h5, h6⟩, hy, hq, ⟨rfl, hp, (idxF_le bits 9).1⟩, bits, rfl, hb.1, hb.2⟩
def ShAPost (w : World) (k mk : Nat) (N : List Nm) (T : List Ty) (e : Ending) (w' : World) : Prop := Below w.heap.size w w' ∧ ∃ An cn At ct Am cm, e = .returned (.tuple #[.agg (bcell An k cn At ct mk Am cm).toArray, .bool true]) ∧ BodyAt w' (fun b => w.heap.size ≤ b) An k cn At ct mk Am cm N T
set_option maxRecDepth 100000 in
set_option maxHeartbeats 8000000 in
theorem shActor_any (w : World) (A : Option Addr) (n c bc e y : Nat) (bad : Bool) (ad : Addr) (cn : Nat) (At : Option Addr) (ct q m : Nat) (I : List Nat) (h : PgX w A n c bc e y bad ad cn At ct q m I) :
    Calls Try.prog 33 #[.agg #[str [109], .int .i64 1, .slice none 0 0, .slice A n c, .slice none 0 0, .slice none 0 0, .slice none 0 0, .slice (some ⟨bc, 0, none⟩) 1 e], str [65]] w (ShAPost w m (1 + q) (I.map nmF) (I.map tyF)) := by
  have HX := Lib.hid h
  obtain ⟨mk, hmk⟩ : ∃ mk, mk = 1 + q := ⟨_, rfl⟩
  rw [← hmk]
  have hact := h.act
  unfold acell at hact
  rw [← hmk] at hact
  have hq := h.q2
  have HM := Lib.hid (show 1 ≤ mk ∧ mk ≤ 4 from ⟨by omega, by omega⟩)
  clear h hmk hq
  obtain ⟨W2, hW2⟩ : ∃ W2, W2 = (w.alloc (.cells #[str [109], .int .i64 1, .slice none 0 0, .slice A n c, .slice none 0 0, .slice none 0 0, .slice none 0 0, .slice (some ⟨bc, 0, none⟩) 1 e] 29)).alloc (.cells #[.string ⟨#[]⟩, .slice none 0 0, .slice none 0 0, .int .i64 0, .string ⟨#[]⟩, .slice none 0 0, .int .i64 0, .int .i64 0, .string ⟨#[]⟩, .slice none 0 0, .slice none 0 0, .slice none 0 0, .slice none 0 0, .int .i64 0] 40) := ⟨_, rfl⟩
  have hb2 : Below w.heap.size w W2 := by rw [hW2]; exact ((Below.refl _ _).alloc (Nat.le_refl _) _).alloc (by simp) _
  have f1 : Blk W2 w.heap.size 29 [str [109], .int .i64 1, .slice none 0 0, .slice A n c, .slice none 0 0, .slice none 0 0, .slice none 0 0, .slice (some ⟨bc, 0, none⟩) 1 e] := by rw [hW2]; exact (Blk.new _ _ _).alloc _
  have f2 : Blk W2 (w.heap.size + 1) 40 [.string ⟨#[]⟩, .slice none 0 0, .slice none 0 0, .int .i64 0, .string ⟨#[]⟩, .slice none 0 0, .int .i64 0, .int .i64 0, .string ⟨#[]⟩, .slice none 0 0, .slice none 0 0, .slice none 0 0, .slice none 0 0, .int .i64 0] := by
    rw [hW2]
    have h := Blk.new (w.alloc (.cells #[str [109], .int .i64 1, .slice none 0 0, .slice A n c, .slice none 0 0, .slice none 0 0, .slice none 0 0, .slice (some ⟨bc, 0, none⟩) 1 e] 29)) 40 [.string ⟨#[]⟩, .slice none 0 0, .slice none 0 0, .int .i64 0, .string ⟨#[]⟩, .slice none 0 0, .int .i64 0, .int .i64 0, .string ⟨#[]⟩, .slice none 0 0, .slice none 0 0, .slice none 0 0, .slice none 0 0, .int .i64 0]
    rwa [show (w.alloc (.cells #[str [109], .int .i64 1, .slice none 0 0, .slice A n c, .slice none 0 0, .slice none 0 0, .slice none 0 0, .slice (some ⟨bc, 0, none⟩) 1 e] 29)).heap.size = w.heap.size + 1 by simp] at h
  have HB := Lib.hid (And.intro hb2 (And.intro f1 f2))
  have hact2 := hact.below hb2 hact.lt
  have c7 := f1.cell 7
  have l1 := f1.lt
  have la := hact2.lt
  simp only [List.getElem?_cons_zero, List.getElem?_cons_succ] at c7
  have a0 := hact2.cell 0
  have a1 := hact2.cell 1
  have a2 := hact2.cell 2
  have a3 := hact2.cell 3
  have a4 := hact2.cell 4
  have a5 := hact2.cell 5
  have a6 := hact2.cell 6
  have a7 := hact2.cell 7
  have a8 := hact2.cell 8
  have a9 := hact2.cell 9
  have a10 := hact2.cell 10
  have a11 := hact2.cell 11
  have a12 := hact2.cell 12
  have a13 := hact2.cell 13
  simp only [List.getElem?_cons_zero, List.getElem?_cons_succ] at a0 a1 a2 a3 a4 a5 a6 a7 a8 a9 a10 a11 a12 a13
  clear hb2 f1 f2 hact hact2
  go_enter Try.func33, Try.ntmps33
  go_upto_region 1 with (fail)
  rw [← hW2]
  clear hW2
  go_wp2_with (fail)
  go_loopw [11] (fun i wr => i = .int .i64 0 ∧ wr = W2) (fun _ _ => 0)
  case atStart => exact ⟨rfl, rfl⟩
  case round =>
    obtain ⟨rfl, rfl⟩ := hrel
    have hbW : Below wr.heap.size wr (wr.alloc (.cells #[str [65], .slice (some ad) m cn, .slice At m ct, .int .i64 (mk : Nat), str [], .slice none 0 0, .int .i64 0, .int .i64 0, .string ⟨#[]⟩, .slice none 0 0, .slice none 0 0, .slice none 0 0, .slice none 0 0, .int .i64 0] 40)) := (Below.refl _ _).alloc (Nat.le_refl _) _
    have hfx := Blk.new wr 40 [str [65], .slice (some ad) m cn, .slice At m ct, .int .i64 (mk : Nat), str [], .slice none 0 0, .int .i64 0, .int .i64 0, .string ⟨#[]⟩, .slice none 0 0, .slice none 0 0, .slice none 0 0, .slice none 0 0, .int .i64 0]
    have CA := Lib.hid (copyA_any (wr.alloc (.cells #[str [65], .slice (some ad) m cn, .slice At m ct, .int .i64 (mk : Nat), str [], .slice none 0 0, .int .i64 0, .int .i64 0, .string ⟨#[]⟩, .slice none 0 0, .slice none 0 0, .slice none 0 0, .slice none 0 0, .int .i64 0] 40)) ad m cn At ct mk (I.map nmF) (I.map tyF) (by simp; exact HX.out.len.1) (by have := HX.out.len; omega) ((HX.out.nr.keep (Same.any HB.out.1)).keep (Same.any hbW)) ((HX.out.ts.keep (Same.any HB.out.1)).keep (Same.any hbW)) HM.out)
    have hf2 := HB.out.2.2.alloc (.cells #[str [65], .slice (some ad) m cn, .slice At m ct, .int .i64 (mk : Nat), str [], .slice none 0 0, .int .i64 0, .int .i64 0, .string ⟨#[]⟩, .slice none 0 0, .slice none 0 0, .slice none 0 0, .slice none 0 0, .int .i64 0] 40)
    have HW := Lib.hid (And.intro hbW (And.intro hfx hf2))
    clear hbW hfx hf2
    go_upto_region 6 with (fail)
    rw [show (Value.string ⟨#[65]⟩) = str [65] from rfl]
    obtain ⟨W6, hW6⟩ : ∃ W6, W6 = wr.alloc (.cells #[str [65], .slice (some ad) m cn, .slice At m ct, .int .i64 (mk : Nat), str [], .slice none 0 0, .int .i64 0, .int .i64 0, .string ⟨#[]⟩, .slice none 0 0, .slice none 0 0, .slice none 0 0, .slice none 0 0, .int .i64 0] 40) := ⟨_, rfl⟩
    obtain ⟨XB, hXB⟩ : ∃ XB, XB = wr.heap.size := ⟨_, rfl⟩
    obtain ⟨RB, hRB⟩ : ∃ RB, RB = w.heap.size + 1 := ⟨_, rfl⟩
    have hW6' : W6 = wr.alloc (.cells #[str [65], .slice (some ad) m cn, .slice At m ct, .int .i64 (mk : Nat), .string ⟨#[]⟩, .slice none 0 0, .int .i64 0, .int .i64 0, .string ⟨#[]⟩, .slice none 0 0, .slice none 0 0, .slice none 0 0, .slice none 0 0, .int .i64 0] 40) := hW6
    rw [← hW6', ← hXB, ← hRB]
    rw [← hW6] at CA HW
    rw [← hXB, ← hRB] at HW
    have HZ := Lib.hid (And.intro hRB hXB)
    clear hW6 hW6' hXB hRB a0 a1 a2 a3 a4 a5 a6 a7 a8 a9 a10 a11 a12 a13 c7 l1 la
    obtain ⟨_, hfx, hf2⟩ := HW.out
    have x0 := hfx.cell 0
    have z0 := hf2.frozen 0
    have x1 := hfx.cell 1
    have z1 := hf2.frozen 1
    have x2 := hfx.cell 2
    have z2 := hf2.frozen 2
    have x3 := hfx.cell 3
    have z3 := hf2.frozen 3
    have x4 := hfx.cell 4
    have z4 := hf2.frozen 4
    have x5 := hfx.cell 5
    have z5 := hf2.frozen 5
    have x6 := hfx.cell 6
    have z6 := hf2.frozen 6
    have x7 := hfx.cell 7
    have z7 := hf2.frozen 7
    have x8 := hfx.cell 8
    have z8 := hf2.frozen 8
    have x9 := hfx.cell 9
    have z9 := hf2.frozen 9
    have x10 := hfx.cell 10
    have z10 := hf2.frozen 10
    have x11 := hfx.cell 11
    have z11 := hf2.frozen 11
    have x12 := hfx.cell 12
    have z12 := hf2.frozen 12
    have x13 := hfx.cell 13
    have z13 := hf2.frozen 13
    have lx := hfx.lt
    have lr := hf2.lt
    simp only [List.getElem?_cons_zero, List.getElem?_cons_succ] at x0 x1 x2 x3 x4 x5 x6 x7 x8 x9 x10 x11 x12 x13
    clear hfx hf2
    go_wp2_with (go_at_call 58; refine CA.out.mono ?_; unfold CopyAPost; rintro e w7 ⟨hb7, An', cn', At', ct', Am', cm', rfl, hbody⟩; have H7 := Lib.hid (And.intro hb7 hbody); have fR := HW.out.2.2.below hb7 HW.out.2.2.lt; have lR := fR.lt; have r0 := fR.cell 0; have y0 := fR.frozen 0; have r1 := fR.cell 1; have y1 := fR.frozen 1; have r2 := fR.cell 2; have y2 := fR.frozen 2; have r3 := fR.cell 3; have y3 := fR.frozen 3; have r4 := fR.cell 4; have y4 := fR.frozen 4; have r5 := fR.cell 5; have y5 := fR.frozen 5; have r6 := fR.cell 6; have y6 := fR.frozen 6; have r7 := fR.cell 7; have y7 := fR.frozen 7; have r8 := fR.cell 8; have y8 := fR.frozen 8; have r9 := fR.cell 9; have y9 := fR.frozen 9; have r10 := fR.cell 10; have y10 := fR.frozen 10; have r11 := fR.cell 11; have y11 := fR.frozen 11; have r12 := fR.cell 12; have y12 := fR.frozen 12; have r13 := fR.cell 13; have y13 := fR.frozen 13; simp only [List.getElem?_cons_zero, List.getElem?_cons_succ] at r0 r1 r2 r3 r4 r5 r6 r7 r8 r9 r10 r11 r12 r13; rw [show (bcell An' m cn' At' ct' mk Am' cm').toArray = #[str [65], .slice An' m cn', .slice At' m ct', .int .i64 (mk : Nat), str [], .slice Am' 0 cm', .int .i64 0, .int .i64 0, .string ⟨#[]⟩, .slice none 0 0, .slice none 0 0, .slice none 0 0, .slice none 0 0, .int .i64 0] from rfl]; clear hb7 hbody fR)
    obtain ⟨q1, q2, q3⟩ := HW.out
    have q1' := q1
    rw [HZ.out.2] at q1'
    have fR := q3.below H7.out.1 q3.lt
    have hB := ((((((((((((((fR.put 0 (.string ⟨#[65]⟩)).put 1 (.slice An' m cn')).put 2 (.slice At' m ct')).put 3 (.int .i64 (mk : Nat))).put 4 (.string ⟨#[]⟩)).put 5 (.slice Am' 0 cm')).put 6 (.int .i64 0)).put 7 (.int .i64 0)).put 8 (.string ⟨#[]⟩)).put 9 (.slice none 0 0)).put 10 (.slice none 0 0)).put 11 (.slice none 0 0)).put 12 (.slice none 0 0)).put 13 (.int .i64 0))
    have hrb : w.heap.size ≤ RB := by have := HZ.out.1; omega
    have hW6s : wr.heap.size ≤ W6.heap.size := q1.size
    have hRl : RB < W6.heap.size := q3.lt
    have hbe := ((((((((((((((((HB.out.1.trans (q1'.mono HB.out.1.size)).trans (H7.out.1.mono (HB.out.1.trans (q1'.mono HB.out.1.size)).size)).setCell (p := ⟨RB, 0, none⟩) hrb (.string ⟨#[65]⟩)).setCell (p := ⟨RB, 1, none⟩) hrb (.slice An' m cn')).setCell (p := ⟨RB, 2, none⟩) hrb (.slice At' m ct')).setCell (p := ⟨RB, 3, none⟩) hrb (.int .i64 (mk : Nat))).setCell (p := ⟨RB, 4, none⟩) hrb (.string ⟨#[]⟩)).setCell (p := ⟨RB, 5, none⟩) hrb (.slice Am' 0 cm')).setCell (p := ⟨RB, 6, none⟩) hrb (.int .i64 0)).setCell (p := ⟨RB, 7, none⟩) hrb (.int .i64 0)).setCell (p := ⟨RB, 8, none⟩) hrb (.string ⟨#[]⟩)).setCell (p := ⟨RB, 9, none⟩) hrb (.slice none 0 0)).setCell (p := ⟨RB, 10, none⟩) hrb (.slice none 0 0)).setCell (p := ⟨RB, 11, none⟩) hrb (.slice none 0 0)).setCell (p := ⟨RB, 12, none⟩) hrb (.slice none 0 0)).setCell (p := ⟨RB, 13, none⟩) hrb (.int .i64 0))
    have hf : ∀ b, W6.heap.size ≤ b → ((((((((((((((w7.setCell ⟨RB, 0, none⟩ (.string ⟨#[65]⟩)).setCell ⟨RB, 1, none⟩ (.slice An' m cn')).setCell ⟨RB, 2, none⟩ (.slice At' m ct')).setCell ⟨RB, 3, none⟩ (.int .i64 (mk : Nat))).setCell ⟨RB, 4, none⟩ (.string ⟨#[]⟩)).setCell ⟨RB, 5, none⟩ (.slice Am' 0 cm')).setCell ⟨RB, 6, none⟩ (.int .i64 0)).setCell ⟨RB, 7, none⟩ (.int .i64 0)).setCell ⟨RB, 8, none⟩ (.string ⟨#[]⟩)).setCell ⟨RB, 9, none⟩ (.slice none 0 0)).setCell ⟨RB, 10, none⟩ (.slice none 0 0)).setCell ⟨RB, 11, none⟩ (.slice none 0 0)).setCell ⟨RB, 12, none⟩ (.slice none 0 0)).setCell ⟨RB, 13, none⟩ (.int .i64 0)).heap[b]? = w7.heap[b]? := fun b hb => by
      have h2 : b ≠ RB := by omega
      rw [Below.heap_setCell _ _ _ _ h2, Below.heap_setCell _ _ _ _ h2, Below.heap_setCell _ _ _ _ h2, Below.heap_setCell _ _ _ _ h2, Below.heap_setCell _ _ _ _ h2, Below.heap_setCell _ _ _ _ h2, Below.heap_setCell _ _ _ _ h2, Below.heap_setCell _ _ _ _ h2, Below.heap_setCell _ _ _ _ h2, Below.heap_setCell _ _ _ _ h2, Below.heap_setCell _ _ _ _ h2, Below.heap_setCell _ _ _ _ h2, Below.heap_setCell _ _ _ _ h2, Below.heap_setCell _ _ _ _ h2]
    generalize ((((((((((((((w7.setCell ⟨RB, 0, none⟩ (.string ⟨#[65]⟩)).setCell ⟨RB, 1, none⟩ (.slice An' m cn')).setCell ⟨RB, 2, none⟩ (.slice At' m ct')).setCell ⟨RB, 3, none⟩ (.int .i64 (mk : Nat))).setCell ⟨RB, 4, none⟩ (.string ⟨#[]⟩)).setCell ⟨RB, 5, none⟩ (.slice Am' 0 cm')).setCell ⟨RB, 6, none⟩ (.int .i64 0)).setCell ⟨RB, 7, none⟩ (.int .i64 0)).setCell ⟨RB, 8, none⟩ (.string ⟨#[]⟩)).setCell ⟨RB, 9, none⟩ (.slice none 0 0)).setCell ⟨RB, 10, none⟩ (.slice none 0 0)).setCell ⟨RB, 11, none⟩ (.slice none 0 0)).setCell ⟨RB, 12, none⟩ (.slice none 0 0)).setCell ⟨RB, 13, none⟩ (.int .i64 0)) = WF at hB hbe hf ⊢
    refine ret_blk_tmp rfl rfl hB Try.underlying40 (by kernel_rfl) rfl ?_
    unfold ShAPost
    obtain ⟨b1, b2, ⟨vs, t1, t2, t3, t4, t5, t6⟩, ⟨m1, m2, m3, m4, m5, m6, m7⟩⟩ := H7.out.2
    have hwr : w.heap.size ≤ wr.heap.size := HB.out.1.size
    refine ⟨hbe, An', cn', At', ct', Am', cm', rfl, b1, ?_, ⟨vs, t1, t2, t3, t4, ?_, ?_⟩, ⟨m1, m2, m3, m4, m5, m6, ?_⟩⟩
    · exact (b2.keep fun b hb _ => hf b hb).imp (by omega) fun b hb _ => by have hb' : W6.heap.size ≤ b := hb; omega
    · exact (t5.keep fun b hb _ => hf b hb).imp (by omega) fun b hb _ => by have hb' : W6.heap.size ≤ b := hb; omega
    · exact t6.imp fun x y hxy => (hxy.keep fun b hb _ => hf b hb).imp fun b hb _ => by have hb' : W6.heap.size ≤ b := hb; omega
    · exact (m7.keep fun b hb _ => hf b hb).imp fun b hb _ => by have hb' : W6.heap.size ≤ b := hb; omega
end Go.Proofs.Ytoddjdajjmcliaa
