/- Contracts of sameValue and slices.EqualFunc at values: whether two values are the same. · Contract of sameSaved at two actors with one state. -/
import Derived.Test.YtoddjdajjmcliaaJLawNumS
import Derived.Test.YtoddjdajjmcliaaValMem
import Derived.Deep.DeepCutAuto
import Derived.Deep.CutBlock
import Derived.Deep.LoopGhost
import Derived.Deep.QuietTactic
import Derived.BigQuiet
import Derived.WideShapes
import Derived.Test.YtoddjdajjmcliaaRnSaved0
set_option linter.unusedVariables false
namespace Go.Val
def sameL (f : V → V → Bool) : List V → List V → Bool
  | [], [] => true
  | x :: a, y :: b => f x y && sameL f a b
  | _, _ => false
def sameF : Nat → V → V → Bool
  | 0, _, _ => false
  | d + 1, .mk k n t a, .mk k' n' t' a' => decide (k = k') && decide (n = n') && decide (t = t') && sameL (sameF d) a a'
theorem sameL_iff {f : V → V → Bool} : ∀ (a b : List V), (∀ x ∈ a, ∀ y ∈ b, f x y = true ↔ x = y) → (sameL f a b = true ↔ a = b)
  | [], [], _ => by simp [sameL]
  | [], _ :: _, _ => by simp [sameL]
  | _ :: _, [], _ => by simp [sameL]
  | x :: a, y :: b, h => by
    have h1 := h x (by simp) y (by simp)
    have h2 := sameL_iff a b fun x hx y hy => h x (by simp [hx]) y (by simp [hy])
    simp only [sameL, Bool.and_eq_true, h1, h2, List.cons.injEq]
theorem sameF_iff : ∀ (d : Nat) (a b : V), okV d a → okV d b → (sameF d a b = true ↔ a = b)
  | 0, _, _, h, _ => h.elim
  | d + 1, .mk k n t a, .mk k' n' t' a', h, h' => by
    have h1 := sameL_iff (f := sameF d) a a' fun x hx y hy => sameF_iff d x y (h.2.2.2.2 x hx) (h'.2.2.2.2 y hy)
    simp only [sameF, Bool.and_eq_true, decide_eq_true_eq, h1, V.mk.injEq, and_assoc]
theorem sameL_len {f : V → V → Bool} : ∀ (a b : List V), a.length ≠ b.length → sameL f a b = false
  | [], [], h => absurd rfl h
  | [], _ :: _, _ => rfl
  | _ :: _, [], _ => rfl
  | x :: a, y :: b, h => by
    simp only [sameL, sameL_len a b (by simpa using h), Bool.and_false]
end Go.Val
namespace Go.Proofs.Ytoddjdajjmcliaa
open Go.RowKit Go.Mem Go.Val

theorem strv_eq (a b : ByteArray) : (a.toList == b.toList) = decide (a = b) := by
  rw [ByteArray.toList_eq, ByteArray.toList_eq, Bool.eq_iff_iff]
  simp only [beq_iff_eq, decide_eq_true_eq]
  exact ⟨fun h => Go.WideShapes.bytes_inj h, fun h => by rw [h]⟩

def SVal (d : Nat) : Prop := ∀ (x y : V) (cs ds : List Value) (w : World), VCells d w Any cs x → VCells d w Any ds y →
  Calls Try.prog 17 #[.agg cs.toArray, .agg ds.toArray] w fun e w' => e = .returned (.bool (sameF d x y)) ∧ Below w.heap.size w w'

set_option maxRecDepth 100000 in
set_option maxHeartbeats 1000000 in
theorem eqfv_any (d : Nat) (hsv : SVal d) (A B : Option Addr) (n m c e : Nat) (l k : List V) (vss uss : List (List Value)) (w : World) (hn : n = l.length) (hm : m = k.length) (hn2 : n ≤ 4194304)
    (hr : Reads w Any 4 A n vss.flatten) (ha : All2 (VCells d w Any) vss l) (hr' : Reads w Any 4 B m uss.flatten) (ha' : All2 (VCells d w Any) uss k) :
    Calls Try.prog 31 #[.slice A n c, .slice B m e, .func (.func 17) #[] #[]] w fun e w' => e = .returned (.bool (sameL (sameF d) l k)) ∧ Below w.heap.size w w' := by
  have Hn := Lib.hid hn
  have Hm := Lib.hid hm
  have Hsv := Lib.hid hsv
  clear hn hm hsv
  by_cases hnm : n = m
  · subst hnm
    have d1 : ((n : Int) != (n : Int)) = false := by simp
    go_enter Try.func31, Try.ntmps31
    go_wp2_with (fail)
    go_loopw [17] (fun i wr => ∃ j : Nat, j ≤ n ∧ i = .int .i64 j ∧ Hid (sameL (sameF d) l k = sameL (sameF d) (l.drop j) (k.drop j)) ∧ Below w.heap.size w wr) (fun i _ => n - (intOf i).toNat)
    case atStart => exact ⟨0, Nat.zero_le _, rfl, by unfold Hid; simp, Below.refl _ _⟩
    case round =>
      obtain ⟨j, hj, rfl, hcur, hbe⟩ := hrel
      by_cases hlt : j < n
      · have hjl : j < l.length := by have := Hn.out; omega
        have hjk : j < k.length := by have := Hm.out; omega
        obtain ⟨b, off, cs, rfl, hD, hv, hcell⟩ := hr.elem (VCells.stable d) ha Hn.out hjl
        obtain ⟨b', off', cs', rfl, hD', hv', hcell'⟩ := hr'.elem (VCells.stable d) ha' Hm.out hjk
        have hsame : Same Any w wr := Same.any hbe
        have hv2 := hv.keep hsame
        have hv2' := hv'.keep hsame
        generalize hxx : l[j] = X at hv hv2
        generalize hyy : k[j] = Y at hv' hv2'
        have HX : Hid (l.drop j = X :: l.drop (j + 1)) := by unfold Hid; rw [List.drop_eq_getElem_cons hjl, hxx]
        have HY : Hid (k.drop j = Y :: k.drop (j + 1)) := by unfold Hid; rw [List.drop_eq_getElem_cons hjk, hyy]
        clear hxx hyy
        obtain ⟨xk, xn, xt, xa⟩ := X
        obtain ⟨yk, yn, yt, ya⟩ := Y
        obtain ⟨A4, c4, rfl⟩ := hv.form
        obtain ⟨B4, e4, rfl⟩ := hv'.form
        simp only [V.kind, V.num, V.text, V.args] at hcell hv hv2 hcell' hv' hv2'
        have g0 := hsame.cell hD (hcell 0 _ rfl)
        have g1 := hsame.cell hD (hcell 1 _ rfl)
        have g2 := hsame.cell hD (hcell 2 _ rfl)
        have g3 := hsame.cell hD (hcell 3 _ rfl)
        have p0 := hsame.cell hD' (hcell' 0 _ rfl)
        have p1 := hsame.cell hD' (hcell' 1 _ rfl)
        have p2 := hsame.cell hD' (hcell' 2 _ rfl)
        have p3 := hsame.cell hD' (hcell' 3 _ rfl)
        simp only [Nat.add_zero, ← Nat.add_assoc] at g0 g1 g2 g3 p0 p1 p2 p3
        have l4 := lt_of_cell g0
        have l5 := lt_of_cell p0
        clear hcell hcell'
        go_wp2_with (fail)
        refine (Hsv.out (V.mk xk xn xt xa) (V.mk yk yn yt ya) [.int .i64 xk, .int .i64 xn, .string xt, .slice A4 xa.length c4] [.int .i64 yk, .int .i64 yn, .string yt, .slice B4 ya.length e4] _ ((hv2.keep (Same.alloc _ _ _)).keep (Same.alloc _ _ _)) ((hv2'.keep (Same.alloc _ _ _)).keep (Same.alloc _ _ _))).mono ?_
        rintro e w2 ⟨rfl, hb2⟩
        have hstep : Hid (sameL (sameF d) l k = (sameF d (V.mk xk xn xt xa) (V.mk yk yn yt ya) && sameL (sameF d) (l.drop (j + 1)) (k.drop (j + 1)))) := by
          unfold Hid
          rw [hcur.out, HX.out, HY.out]
          rfl
        have hbe2 : Below w.heap.size w w2 := ((hbe.alloc hbe.size _).alloc (by have := hbe.size; simp; omega) _).trans (hb2.mono (by have := hbe.size; simp; omega))
        generalize sameF d (V.mk xk xn xt xa) (V.mk yk yn yt ya) = R at hstep ⊢
        clear hv hv2 g0 g1 g2 g3 hv' hv2' p0 p1 p2 p3 hcur HX HY
        cases R with
        | true =>
          go_wp2_with (fail)
          refine ⟨⟨j + 1, by omega, by go_num, ?_, hbe2⟩, by simp [intOf]; omega⟩
          unfold Hid
          rw [hstep.out]
          rfl
        | false =>
          go_wp2_with (fail)
          go_ret
          rw [hstep.out]
          exact ⟨rfl, hbe2⟩
      · go_wp2
        go_ret
        rw [hcur.out, List.drop_of_length_le (by have := Hn.out; omega), List.drop_of_length_le (by have := Hm.out; omega)]
        exact ⟨rfl, hbe⟩
  · have hf : Hid (sameL (sameF d) l k = false) := sameL_len l k (by have := Hn.out; have := Hm.out; omega)
    have d1 : ((n : Int) != (m : Int)) = true := by simp; omega
    go_enter Try.func31, Try.ntmps31
    go_wp2_with (fail)
    go_ret
    rw [hf.out]
    exact ⟨rfl, Below.refl _ _⟩

set_option maxRecDepth 100000 in
set_option maxHeartbeats 1000000 in
theorem samev_any : ∀ d, SVal d
  | 0 => fun x y cs ds w h _ => h.elim
  | d + 1 => by
    intro x y cs ds w hv hv'
    have ih := samev_any d
    have IH := Lib.hid ih
    clear ih
    obtain ⟨xk, xn, xt, xa⟩ := x
    obtain ⟨yk, yn, yt, ya⟩ := y
    obtain ⟨A, c, vss, rfl, hk, hn, ht, hal, hac, hcm, hr, ha⟩ := hv
    obtain ⟨B, e, uss, rfl, hk', hn', ht', hal', hac', hcm', hr', ha'⟩ := hv'
    have hbel : Below w.heap.size w ((w.alloc (.cells #[.int .i64 xk, .int .i64 xn, .string xt, .slice A xa.length c] 47)).alloc (.cells #[.int .i64 yk, .int .i64 yn, .string yt, .slice B ya.length e] 47)) := ((Below.refl _ _).alloc (Nat.le_refl _) _).alloc (by simp) _
    have HB := Lib.hid hbel
    clear hbel
    by_cases e1 : xk = yk
    · subst e1
      by_cases e2 : xn = yn
      · subst e2
        by_cases e3 : xt = yt
        · subst e3
          have hf : Hid (sameF (d + 1) (V.mk xk xn xt xa) (V.mk xk xn xt ya) = sameL (sameF d) xa ya) := by unfold Hid sameF; simp
          have q3 : (xt.toList == xt.toList) = true := by rw [strv_eq]; simp
          go_enter Try.func17, Try.ntmps17
          go_wp2_with (fail)
          have hb := HB.out
          generalize ((w.alloc (.cells #[.int .i64 xk, .int .i64 xn, .string xt, .slice A xa.length c] 47)).alloc (.cells #[.int .i64 xk, .int .i64 xn, .string xt, .slice B ya.length e] 47)) = W at hb ⊢
          refine (eqfv_any d IH.out A B xa.length ya.length c e xa ya vss uss W rfl rfl hal (hr.keep (Same.any hb)) (ha.imp fun _ _ h => h.keep (Same.any hb)) (hr'.keep (Same.any hb)) (ha'.imp fun _ _ h => h.keep (Same.any hb))).mono ?_
          rintro e1 w1 ⟨rfl, hb1⟩
          have hw1 : Below w.heap.size w w1 := hb.trans (hb1.mono hb.size)
          rw [← hf.out]
          generalize hR : sameF (d + 1) (V.mk xk xn xt xa) (V.mk xk xn xt ya) = R
          have HR := Lib.hid hR
          clear hR
          go_wp2_with (fail)
          go_ret
          rw [HR.out]
          exact ⟨by simp, hw1⟩
        · have hf : Hid (sameF (d + 1) (V.mk xk xn xt xa) (V.mk xk xn yt ya) = false) := by unfold Hid sameF; simp [e3]
          have q3 : (xt.toList == yt.toList) = false := by rw [strv_eq]; simp [e3]
          go_enter Try.func17, Try.ntmps17
          go_wp2_with (fail)
          go_ret
          rw [hf.out]
          exact ⟨rfl, HB.out⟩
      · have hf : Hid (sameF (d + 1) (V.mk xk xn xt xa) (V.mk xk yn yt ya) = false) := by unfold Hid sameF; simp [e2]
        have q2 : (xn == yn) = false := by simpa using e2
        clear e2
        go_enter Try.func17, Try.ntmps17
        go_wp2_with (fail)
        go_ret
        rw [hf.out]
        exact ⟨rfl, HB.out⟩
    · have hf : Hid (sameF (d + 1) (V.mk xk xn xt xa) (V.mk yk yn yt ya) = false) := by unfold Hid sameF; simp [e1]
      have q1 : (xk == yk) = false := by simpa using e1
      clear e1
      go_enter Try.func17, Try.ntmps17
      go_wp2_with (fail)
      go_ret
      rw [hf.out]
      exact ⟨rfl, HB.out⟩
end Go.Proofs.Ytoddjdajjmcliaa
set_option linter.unusedVariables false
namespace Go.Proofs.Ytoddjdajjmcliaa
open Go.RowKit Go.Mem Go.Sh Go.Maps Go.Val
theorem VsRd.ok {d : Nat} {w : World} {D : Nat → Prop} {A : Option Addr} {n c : Nat} {l : List V} (h : VsRd d w D A n c l) : ∀ x ∈ l, okV d x := by
  intro x hx
  obtain ⟨k, hk, rfl⟩ := List.mem_iff_getElem.1 hx
  have hn : k < n := by obtain ⟨_, h1, _⟩ := h; omega
  obtain ⟨_, _, _, _, _, _, hv, _⟩ := h.elem hn hk
  exact hv.ok
set_option maxRecDepth 100000 in
set_option maxHeartbeats 4000000 in
theorem sameS_any (w : World) (A B : Option Addr) (n c e : Nat) (S : List V) (hA : VsRd 10 w Any A n c S) (hB : VsRd 10 w Any B n e S) :
    Calls Try.prog 23 #[.agg #[str [65], .slice A n c, .slice none 0 0], .agg #[str [65], .slice B n e, .slice none 0 0]] w fun e w' => e = .returned (.bool true) ∧ Below w.heap.size w w' := by
  have hs : sameL (sameF 10) S S = true := (Go.Val.sameL_iff (f := Go.Val.sameF 10) S S fun x hx y hy => Go.Val.sameF_iff 10 x y (hA.ok x hx) (hA.ok y hy)).2 rfl
  have C := Lib.hid (show ∀ W, Below w.heap.size w W → Calls Try.prog 31 #[.slice A n c, .slice B n e, .func (.func 17) #[] #[]] W (fun e w' => e = .returned (.bool true) ∧ Below W.heap.size W w') from fun W hW => by
    obtain ⟨vss, h1, h2, h3, h4, h5, h6⟩ := hA.keep (Same.any hW)
    obtain ⟨uss, k1, k2, k3, k4, k5, k6⟩ := hB.keep (Same.any hW)
    have h := eqfv_any 10 (samev_any 10) A B n n c e S S vss uss W h1 k1 (by omega) h5 h6 k5 k6
    rw [hs] at h
    exact h)
  have nq : ((⟨#[65]⟩ : ByteArray) == ⟨#[65]⟩) = true := by decide
  clear hA hB hs
  go_enter Try.func23, Try.ntmps23
  go_upto_region 1 with (fail)
  obtain ⟨u1, hu1⟩ : ∃ u, u = w.alloc (.cells #[str [65], .slice A n c, .slice none 0 0] 65) := ⟨_, rfl⟩
  have zu1 : u1.heap.size = w.heap.size + 1 := by rw [hu1]; simp
  have hbu1 : Below w.heap.size w u1 := by rw [hu1]; exact (Below.refl _ _).alloc (Nat.le_refl _) _
  have fSB : Blk u1 (w.heap.size) 65 [str [65], .slice A n c, .slice none 0 0] := by rw [hu1]; have h := Blk.new w 65 [str [65], .slice A n c, .slice none 0 0]; exact h
  obtain ⟨u2, hu2⟩ : ∃ u, u = u1.alloc (.cells #[str [65], .slice B n e, .slice none 0 0] 65) := ⟨_, rfl⟩
  have hbu2 : Below w.heap.size w u2 := by rw [hu2]; exact hbu1.alloc hbu1.size _
  replace fSB := fSB.alloc (.cells #[str [65], .slice B n e, .slice none 0 0] 65)
  rw [← hu2] at fSB
  have fTB : Blk u2 (w.heap.size + 1) 65 [str [65], .slice B n e, .slice none 0 0] := by rw [hu2]; have h := Blk.new u1 65 [str [65], .slice B n e, .slice none 0 0]; rw [zu1] at h; exact h
  rw [← hu1, ← hu2]
  obtain ⟨TB, zTB⟩ : ∃ b, b = w.heap.size + 1 := ⟨_, rfl⟩
  obtain ⟨SB, zSB⟩ : ∃ b, b = w.heap.size := ⟨_, rfl⟩
  rw [← zTB, ← zSB]
  rw [← zSB] at fSB
  rw [← zTB] at fTB
  have HB := Lib.hid (And.intro hbu2 (And.intro fSB fTB))
  have s0 := fSB.cell 0
  have s1 := fSB.cell 1
  have ls := fSB.lt
  have t0 := fTB.cell 0
  have t1 := fTB.cell 1
  have lt := fTB.lt
  simp only [List.getElem?_cons_zero, List.getElem?_cons_succ] at s0 s1 t0 t1
  clear hu1 hu2 zu1 hbu1 hbu2 fSB fTB zSB zTB
  generalize u2 = W3 at *
  go_wp2_with (go_at_call 31; refine (C.out _ HB.out.1).mono ?_; rintro e w' ⟨rfl, hb'⟩; have HB' := Lib.hid hb'; have x2 := (HB.out.2.1.below hb' HB.out.2.1.lt).cell 2; have y2 := (HB.out.2.2.below hb' HB.out.2.2.lt).cell 2; have lx := (HB.out.2.1.below hb' HB.out.2.1.lt).lt; have ly := (HB.out.2.2.below hb' HB.out.2.2.lt).lt; simp only [List.getElem?_cons_zero, List.getElem?_cons_succ] at x2 y2; clear hb')
  go_ret
  exact ⟨rfl, HB.out.1.trans (HB'.out.mono HB.out.1.size)⟩
end Go.Proofs.Ytoddjdajjmcliaa
