/- Contracts of sameValue and slices.EqualFunc at values: whether two values are the same. · RenewTwice's walk. · RenewTwice returns true for every input, and leaves its arguments as they were. No condition. -/
import Derived.Test.YtoddjdajjmcliaaRest
import Derived.Test.YtoddjdajjmcliaaValMem
import Derived.Deep.DeepCutAuto
import Derived.Deep.CutBlock
import Derived.Deep.LoopGhost
import Derived.Deep.QuietTactic
import Derived.BigQuiet
import Derived.WideShapes
import Derived.Test.YtoddjdajjmcliaaJRnPlain
import Derived.Test.YtoddjdajjmcliaaRnSaved
import Derived.Test.YtoddjdajjmcliaaRows
import Derived.Test.YtoddjdajjmcliaaLaw
import Derived.Test.YtoddjdajjmcliaaLawNumS
set_option linter.unusedVariables false
namespace Go.Val
def sameL (f : V → V → Bool) : List V → List V → Bool
  | [], [] => true
  | x :: a, y :: b => f x y && sameL f a b
  | _, _ => false
def sameF : Nat → V → V → Bool
  | 0, _, _ => false
  | d + 1, .mk k n t a, .mk k' n' t' a' => decide (k = k') && decide (n = n') && decide (t = t') && sameL (sameF d) a a'
theorem sameL_iff {f : V → V → Bool} : ∀ (a b : List V), (∀ x ∈ a, ∀ y ∈ b, f x y = true ↔ x = y) → (sameL f a b = true ↔ a = b)
  | [], [], _ => by simp [sameL]
  | [], _ :: _, _ => by simp [sameL]
  | _ :: _, [], _ => by simp [sameL]
  | x :: a, y :: b, h => by
    have h1 := h x (by simp) y (by simp)
    have h2 := sameL_iff a b fun x hx y hy => h x (by simp [hx]) y (by simp [hy])
    simp only [sameL, Bool.and_eq_true, h1, h2, List.cons.injEq]
theorem sameF_iff : ∀ (d : Nat) (a b : V), okV d a → okV d b → (sameF d a b = true ↔ a = b)
  | 0, _, _, h, _ => h.elim
  | d + 1, .mk k n t a, .mk k' n' t' a', h, h' => by
    have h1 := sameL_iff (f := sameF d) a a' fun x hx y hy => sameF_iff d x y (h.2.2.2.2 x hx) (h'.2.2.2.2 y hy)
    simp only [sameF, Bool.and_eq_true, decide_eq_true_eq, h1, V.mk.injEq, and_assoc]
theorem sameL_len {f : V → V → Bool} : ∀ (a b : List V), a.length ≠ b.length → sameL f a b = false
  | [], [], h => absurd rfl h
  | [], _ :: _, _ => rfl
  | _ :: _, [], _ => rfl
  | x :: a, y :: b, h => by
    simp only [sameL, sameL_len a b (by simpa using h), Bool.and_false]
end Go.Val
namespace Go.Proofs.Ytoddjdajjmcliaa
open Go.RowKit Go.Mem Go.Val

theorem strv_eq (a b : ByteArray) : (a.toList == b.toList) = decide (a = b) := by
  rw [ByteArray.toList_eq, ByteArray.toList_eq, Bool.eq_iff_iff]
  simp only [beq_iff_eq, decide_eq_true_eq]
  exact ⟨fun h => Go.WideShapes.bytes_inj h, fun h => by rw [h]⟩

def SVal (d : Nat) : Prop := ∀ (x y : V) (cs ds : List Value) (w : World), VCells d w Any cs x → VCells d w Any ds y →
  Calls Try.prog 17 #[.agg cs.toArray, .agg ds.toArray] w fun e w' => e = .returned (.bool (sameF d x y)) ∧ Below w.heap.size w w'

set_option maxRecDepth 100000 in
set_option maxHeartbeats 1000000 in
theorem eqfv_any (d : Nat) (hsv : SVal d) (A B : Option Addr) (n m c e : Nat) (l k : List V) (vss uss : List (List Value)) (w : World) (hn : n = l.length) (hm : m = k.length) (hn2 : n ≤ 4194304)
    (hr : Reads w Any 4 A n vss.flatten) (ha : All2 (VCells d w Any) vss l) (hr' : Reads w Any 4 B m uss.flatten) (ha' : All2 (VCells d w Any) uss k) :
    Calls Try.prog 31 #[.slice A n c, .slice B m e, .func (.func 17) #[] #[]] w fun e w' => e = .returned (.bool (sameL (sameF d) l k)) ∧ Below w.heap.size w w' := by
  have Hn := Lib.hid hn
  have Hm := Lib.hid hm
  have Hsv := Lib.hid hsv
  clear hn hm hsv
  by_cases hnm : n = m
  · subst hnm
    have d1 : ((n : Int) != (n : Int)) = false := by simp
    go_enter Try.func31, Try.ntmps31
    go_wp2_with (fail)
    go_loopw [17] (fun i wr => ∃ j : Nat, j ≤ n ∧ i = .int .i64 j ∧ Hid (sameL (sameF d) l k = sameL (sameF d) (l.drop j) (k.drop j)) ∧ Below w.heap.size w wr) (fun i _ => n - (intOf i).toNat)
    case atStart => exact ⟨0, Nat.zero_le _, rfl, by unfold Hid; simp, Below.refl _ _⟩
    case round =>
      obtain ⟨j, hj, rfl, hcur, hbe⟩ := hrel
      by_cases hlt : j < n
      · have hjl : j < l.length := by have := Hn.out; omega
        have hjk : j < k.length := by have := Hm.out; omega
        obtain ⟨b, off, cs, rfl, hD, hv, hcell⟩ := hr.elem (VCells.stable d) ha Hn.out hjl
        obtain ⟨b', off', cs', rfl, hD', hv', hcell'⟩ := hr'.elem (VCells.stable d) ha' Hm.out hjk
        have hsame : Same Any w wr := Same.any hbe
        have hv2 := hv.keep hsame
        have hv2' := hv'.keep hsame
        generalize hxx : l[j] = X at hv hv2
        generalize hyy : k[j] = Y at hv' hv2'
        have HX : Hid (l.drop j = X :: l.drop (j + 1)) := by unfold Hid; rw [List.drop_eq_getElem_cons hjl, hxx]
        have HY : Hid (k.drop j = Y :: k.drop (j + 1)) := by unfold Hid; rw [List.drop_eq_getElem_cons hjk, hyy]
        clear hxx hyy
        obtain ⟨xk, xn, xt, xa⟩ := X
        obtain ⟨yk, yn, yt, ya⟩ := Y
        obtain ⟨A4, c4, rfl⟩ := hv.form
        obtain ⟨B4, e4, rfl⟩ := hv'.form
        simp only [V.kind, V.num, V.text, V.args] at hcell hv hv2 hcell' hv' hv2'
        have g0 := hsame.cell hD (hcell 0 _ rfl)
        have g1 := hsame.cell hD (hcell 1 _ rfl)
        have g2 := hsame.cell hD (hcell 2 _ rfl)
        have g3 := hsame.cell hD (hcell 3 _ rfl)
        have p0 := hsame.cell hD' (hcell' 0 _ rfl)
        have p1 := hsame.cell hD' (hcell' 1 _ rfl)
        have p2 := hsame.cell hD' (hcell' 2 _ rfl)
        have p3 := hsame.cell hD' (hcell' 3 _ rfl)
        simp only [Nat.add_zero, ← Nat.add_assoc] at g0 g1 g2 g3 p0 p1 p2 p3
        have l4 := lt_of_cell g0
        have l5 := lt_of_cell p0
        clear hcell hcell'
        go_wp2_with (fail)
        refine (Hsv.out (V.mk xk xn xt xa) (V.mk yk yn yt ya) [.int .i64 xk, .int .i64 xn, .string xt, .slice A4 xa.length c4] [.int .i64 yk, .int .i64 yn, .string yt, .slice B4 ya.length e4] _ ((hv2.keep (Same.alloc _ _ _)).keep (Same.alloc _ _ _)) ((hv2'.keep (Same.alloc _ _ _)).keep (Same.alloc _ _ _))).mono ?_
        rintro e w2 ⟨rfl, hb2⟩
        have hstep : Hid (sameL (sameF d) l k = (sameF d (V.mk xk xn xt xa) (V.mk yk yn yt ya) && sameL (sameF d) (l.drop (j + 1)) (k.drop (j + 1)))) := by
          unfold Hid
          rw [hcur.out, HX.out, HY.out]
          rfl
        have hbe2 : Below w.heap.size w w2 := ((hbe.alloc hbe.size _).alloc (by have := hbe.size; simp; omega) _).trans (hb2.mono (by have := hbe.size; simp; omega))
        generalize sameF d (V.mk xk xn xt xa) (V.mk yk yn yt ya) = R at hstep ⊢
        clear hv hv2 g0 g1 g2 g3 hv' hv2' p0 p1 p2 p3 hcur HX HY
        cases R with
        | true =>
          go_wp2_with (fail)
          refine ⟨⟨j + 1, by omega, by go_num, ?_, hbe2⟩, by simp [intOf]; omega⟩
          unfold Hid
          rw [hstep.out]
          rfl
        | false =>
          go_wp2_with (fail)
          go_ret
          rw [hstep.out]
          exact ⟨rfl, hbe2⟩
      · go_wp2
        go_ret
        rw [hcur.out, List.drop_of_length_le (by have := Hn.out; omega), List.drop_of_length_le (by have := Hm.out; omega)]
        exact ⟨rfl, hbe⟩
  · have hf : Hid (sameL (sameF d) l k = false) := sameL_len l k (by have := Hn.out; have := Hm.out; omega)
    have d1 : ((n : Int) != (m : Int)) = true := by simp; omega
    go_enter Try.func31, Try.ntmps31
    go_wp2_with (fail)
    go_ret
    rw [hf.out]
    exact ⟨rfl, Below.refl _ _⟩

set_option maxRecDepth 100000 in
set_option maxHeartbeats 1000000 in
theorem samev_any : ∀ d, SVal d
  | 0 => fun x y cs ds w h _ => h.elim
  | d + 1 => by
    intro x y cs ds w hv hv'
    have ih := samev_any d
    have IH := Lib.hid ih
    clear ih
    obtain ⟨xk, xn, xt, xa⟩ := x
    obtain ⟨yk, yn, yt, ya⟩ := y
    obtain ⟨A, c, vss, rfl, hk, hn, ht, hal, hac, hcm, hr, ha⟩ := hv
    obtain ⟨B, e, uss, rfl, hk', hn', ht', hal', hac', hcm', hr', ha'⟩ := hv'
    have hbel : Below w.heap.size w ((w.alloc (.cells #[.int .i64 xk, .int .i64 xn, .string xt, .slice A xa.length c] 47)).alloc (.cells #[.int .i64 yk, .int .i64 yn, .string yt, .slice B ya.length e] 47)) := ((Below.refl _ _).alloc (Nat.le_refl _) _).alloc (by simp) _
    have HB := Lib.hid hbel
    clear hbel
    by_cases e1 : xk = yk
    · subst e1
      by_cases e2 : xn = yn
      · subst e2
        by_cases e3 : xt = yt
        · subst e3
          have hf : Hid (sameF (d + 1) (V.mk xk xn xt xa) (V.mk xk xn xt ya) = sameL (sameF d) xa ya) := by unfold Hid sameF; simp
          have q3 : (xt.toList == xt.toList) = true := by rw [strv_eq]; simp
          go_enter Try.func17, Try.ntmps17
          go_wp2_with (fail)
          have hb := HB.out
          generalize ((w.alloc (.cells #[.int .i64 xk, .int .i64 xn, .string xt, .slice A xa.length c] 47)).alloc (.cells #[.int .i64 xk, .int .i64 xn, .string xt, .slice B ya.length e] 47)) = W at hb ⊢
          refine (eqfv_any d IH.out A B xa.length ya.length c e xa ya vss uss W rfl rfl hal (hr.keep (Same.any hb)) (ha.imp fun _ _ h => h.keep (Same.any hb)) (hr'.keep (Same.any hb)) (ha'.imp fun _ _ h => h.keep (Same.any hb))).mono ?_
          rintro e1 w1 ⟨rfl, hb1⟩
          have hw1 : Below w.heap.size w w1 := hb.trans (hb1.mono hb.size)
          rw [← hf.out]
          generalize hR : sameF (d + 1) (V.mk xk xn xt xa) (V.mk xk xn xt ya) = R
          have HR := Lib.hid hR
          clear hR
          go_wp2_with (fail)
          go_ret
          rw [HR.out]
          exact ⟨by simp, hw1⟩
        · have hf : Hid (sameF (d + 1) (V.mk xk xn xt xa) (V.mk xk xn yt ya) = false) := by unfold Hid sameF; simp [e3]
          have q3 : (xt.toList == yt.toList) = false := by rw [strv_eq]; simp [e3]
          go_enter Try.func17, Try.ntmps17
          go_wp2_with (fail)
          go_ret
          rw [hf.out]
          exact ⟨rfl, HB.out⟩
      · have hf : Hid (sameF (d + 1) (V.mk xk xn xt xa) (V.mk xk yn yt ya) = false) := by unfold Hid sameF; simp [e2]
        have q2 : (xn == yn) = false := by simpa using e2
        clear e2
        go_enter Try.func17, Try.ntmps17
        go_wp2_with (fail)
        go_ret
        rw [hf.out]
        exact ⟨rfl, HB.out⟩
    · have hf : Hid (sameF (d + 1) (V.mk xk xn xt xa) (V.mk yk yn yt ya) = false) := by unfold Hid sameF; simp [e1]
      have q1 : (xk == yk) = false := by simpa using e1
      clear e1
      go_enter Try.func17, Try.ntmps17
      go_wp2_with (fail)
      go_ret
      rw [hf.out]
      exact ⟨rfl, HB.out⟩
end Go.Proofs.Ytoddjdajjmcliaa
set_option linter.unusedVariables false
namespace Go.Sh
open Go.Val Go.Mem Go.Proofs.Ytoddjdajjmcliaa
/-- two plans, there and back: the second is there if the first is -/
theorem plan_back {P Q : List Dt} (hP : P ∈ progs) (hQ : Q ∈ progs) {I I' : List Nat} {fl : List Fld} {R : Option (List Fld)} (h : PlanOf P Q I I' (some fl)) (h' : PlanOf Q P I' I R) : ∃ fl', R = some fl' := by
  cases R with
  | some fl' => exact ⟨fl', rfl⟩
  | none =>
    obtain ⟨i, h1, h2, h3⟩ := h'
    obtain ⟨r, ⟨s, hs⟩, ⟨s', hs'⟩⟩ := sym_law hP hQ (tyF_mem i) (tyF_mem i)
    have e1 : same12 P Q (tyF i) (tyF i) = some r := by unfold same12; rw [hs]; rfl
    have e2 : same12 Q P (tyF i) (tyF i) = some r := by unfold same12; rw [hs']; rfl
    rw [e2] at h3
    injection h3 with h3
    subst h3
    obtain ⟨k, hk⟩ := List.getElem?_of_mem h1
    obtain ⟨f, _, hc⟩ := h.2 k i hk
    rcases hc with ⟨j, _, _, h4⟩ | ⟨h4, _⟩
    · rw [e1] at h4; cases h4
    · exact absurd h2 h4
/-- .. and the other way round -/
theorem plan_none {P Q : List Dt} (hP : P ∈ progs) (hQ : Q ∈ progs) {I I' : List Nat} {R : Option (List Fld)} (h : PlanOf P Q I I' none) (h' : PlanOf Q P I' I R) : R = none := by
  cases R with
  | none => rfl
  | some fl' =>
    obtain ⟨fl, h1⟩ := plan_back hQ hP h' h
    cases h1
theorem idx_one {I : List Nat} (hn : I.Nodup) {i j a : Nat} (hi : I[i]? = some a) (hj : I[j]? = some a) : i = j := by
  obtain ⟨h1, e1⟩ := List.getElem?_eq_some_iff.1 hi
  obtain ⟨h2, e2⟩ := List.getElem?_eq_some_iff.1 hj
  rcases Nat.lt_trichotomy i j with h | h | h
  · exact absurd (e1.trans e2.symm) (List.pairwise_iff_getElem.1 hn i j h1 h2 h)
  · exact h
  · exact absurd (e2.trans e1.symm) (List.pairwise_iff_getElem.1 hn j i h2 h1 h)
theorem turnF_at {S : List V} {fl : List Fld} {k : Nat} {f : Fld} (h : fl[k]? = some f) : (turnF S fl)[k]? = some (if 0 ≤ f.src then S.getD f.src.toNat zeroV else f.val) := by
  unfold turnF
  rw [List.getElem?_map, h]
  rfl
theorem turnF_src {S : List V} {fl : List Fld} {k j : Nat} {x : V} {v : V} (h : fl[k]? = some ⟨(j : Nat), v⟩) (hx : S[j]? = some x) : (turnF S fl)[k]? = some x := by
  rw [turnF_at h]
  show some (if (0 : Int) ≤ (j : Int) then S.getD (j : Int).toNat zeroV else v) = some x
  rw [if_pos (by omega), Int.toNat_natCast, List.getD_eq_getElem?_getD, hx]
  rfl
/-- there and back: a field of both is what it was, the others have their first values -/
theorem twice_law {P Q : List Dt} {I I' : List Nat} {fl fl' : List Fld} {S : List V} (hn : I.Nodup) (hS : S.length = I.length) (h : PlanOf P Q I I' (some fl)) (h' : PlanOf Q P I' I (some fl')) {k : Nat} (hk : k < I.length) :
    (I[k] ∈ I' → (turnF (turnF S fl) fl')[k]? = S[k]?) ∧ (I[k] ∉ I' → ∃ v, firstU P (tyF I[k]) 4 0 = some (some v) ∧ (turnF (turnF S fl) fl')[k]? = some v) := by
  have hIk : I[k]? = some I[k] := List.getElem?_eq_getElem hk
  obtain ⟨f', hf', hc'⟩ := h'.2 k I[k] hIk
  rcases hc' with ⟨j, hj, rfl, _⟩ | ⟨hm, v, rfl, hv⟩
  · refine ⟨fun _ => ?_, fun h => absurd (List.mem_of_getElem? hj) h⟩
    obtain ⟨f, hf, hc⟩ := h.2 j I[k] hj
    rcases hc with ⟨j2, hj2, rfl, _⟩ | ⟨hm, _⟩
    · obtain rfl : j2 = k := idx_one hn hj2 hIk
      have hSj : S[j2]? = some S[j2] := List.getElem?_eq_getElem (by omega)
      rw [hSj]
      exact turnF_src hf' (turnF_src hf hSj)
    · exact absurd (List.mem_of_getElem? hIk) hm
  · refine ⟨fun h => absurd h hm, fun _ => ⟨v, hv, ?_⟩⟩
    rw [turnF_at hf']
    rfl
theorem turnF_len2 (S : List V) (fl : List Fld) : (turnF S fl).length = fl.length := by unfold turnF; rw [List.length_map]
theorem nm_mem {I : List Nat} (h9 : ∀ i ∈ I, i < 9) {i : Nat} (hi : i < 9) : nmF i ∈ I.map nmF ↔ i ∈ I := by
  constructor
  · intro h
    obtain ⟨j, hj, e⟩ := List.mem_map.1 h
    rw [← nmF_inj (h9 j hj) hi e]
    exact hj
  · exact fun h => List.mem_map.2 ⟨i, h, rfl⟩
end Go.Sh
namespace Go.Proofs.Ytoddjdajjmcliaa
open Go.RowKit Go.Mem Go.Sh Go.Maps Go.Val
theorem ixG_mem (n : Nm) : ∀ (l : List Nm) (i : Nat), decide (0 ≤ ixG n l i) = decide (n ∈ l)
  | [], i => by simp [ixG]
  | y :: r, i => by
    unfold ixG
    by_cases h : n = y
    · rw [if_pos h]
      subst h
      simp
    · rw [if_neg h, ixG_mem n r (i + 1)]
      simp [h]
set_option maxRecDepth 100000 in
theorem containsS_any (A : Option Addr) (n c : Nat) (l : List Nm) (x : Nm) (w : World) (hr : Reads w Any 1 A n (strs l)) (hn : n = l.length) (hn1 : n ≤ 1000) :
    Calls Try.prog 22 #[.slice A n c, str x] w fun e w' => e = .returned (.bool (decide (x ∈ l))) ∧ w' = w := by
  have C := Lib.hid (indexS_any A n c l x w hr hn hn1)
  have e1 := ixG_mem x l 0
  rw [← e1]
  generalize ixG x l 0 = s at C
  clear hr hn e1
  go_enter Try.func22, Try.ntmps22
  go_wp2_with (go_at_call 37; refine C.out.mono ?_; rintro e w' ⟨rfl, rfl⟩)
  go_ret
  exact ⟨rfl, rfl⟩
set_option maxRecDepth 100000 in
set_option maxHeartbeats 16000000 in
theorem renewTwice_any (w : World) (x0 x1 : Int) (h0 : I64 x0) (h1 : I64 x1) (Lp : Option Addr) (ln cl : Nat) (l : List Int) (hl : NsAt w Lp ln cl l) :
    Calls Try.prog 9 #[.int .i64 x0, .int .i64 x1, .slice Lp ln cl] w fun e w' => e = .returned (.bool true) ∧ Below w.heap.size w w' := by
  have P0 := Lib.hid (programOf_any x0 w h0)
  have P1 := Lib.hid (fun W => programOf_any x1 W h1)
  have HI := Lib.hid hl
  clear h0 h1 hl
  go_enter Try.func9, Try.ntmps9
  go_wp2_with (fail)
  refine P0.out.mono ?_
  unfold PgPost
  rintro e w1 ⟨hb1, p, y, bad, q, bits, rfl, hy, hq, hbits, hp⟩
  obtain ⟨A, n, c, bc, e, ad, cn, At, ct, m, rfl, hpx⟩ := hp.x hy hq hbits
  generalize idxF bits 9 = I at hpx
  have HX1 := Lib.hid hpx
  have HB1 := Lib.hid hb1
  clear hp hy hq hbits hb1 hpx P0
  unfold Pg.cells pvs
  go_wp2_with (fail)
  refine (P1.out w1).mono ?_
  unfold PgPost
  rintro e w2 ⟨hb2, p', y', bad', q', bits', rfl, hy', hq', hbits', hp'⟩
  obtain ⟨A', n', c', bc', e', ad', cn', At', ct', m', rfl, hpx'⟩ := hp'.x hy' hq' hbits'
  generalize idxF bits' 9 = I' at hpx'
  have HX2 := Lib.hid (And.intro (HX1.out.below hb2) hpx')
  have HB2 := Lib.hid (HB1.out.trans (hb2.mono HB1.out.size))
  clear hp' hy' hq' hbits' hb2 hpx' P1 HX1 HB1
  unfold Pg.cells pvs
  go_upto_region 2 with (fail)
  obtain ⟨u1, hu1⟩ : ∃ u, u = w2.alloc (.cells #[str [109], .int .i64 1, .slice none 0 0, .slice A n c, .slice none 0 0, .slice none 0 0, .slice none 0 0, .slice (some ⟨bc, 0, none⟩) 1 e] 29) := ⟨_, rfl⟩
  have zu1 : u1.heap.size = w2.heap.size + 1 := by rw [hu1]; simp
  have hbu1 : Below w2.heap.size w2 u1 := by rw [hu1]; exact (Below.refl _ _).alloc (Nat.le_refl _) _
  have fPB : Blk u1 (w2.heap.size) 29 [str [109], .int .i64 1, .slice none 0 0, .slice A n c, .slice none 0 0, .slice none 0 0, .slice none 0 0, .slice (some ⟨bc, 0, none⟩) 1 e] := by rw [hu1]; have h := Blk.new w2 29 [str [109], .int .i64 1, .slice none 0 0, .slice A n c, .slice none 0 0, .slice none 0 0, .slice none 0 0, .slice (some ⟨bc, 0, none⟩) 1 e]; exact h
  obtain ⟨u2, hu2⟩ : ∃ u, u = u1.alloc (.cells #[str [109], .int .i64 1, .slice none 0 0, .slice A' n' c', .slice none 0 0, .slice none 0 0, .slice none 0 0, .slice (some ⟨bc', 0, none⟩) 1 e'] 29) := ⟨_, rfl⟩
  have zu2 : u2.heap.size = w2.heap.size + 1 + 1 := by rw [hu2]; simp [zu1]
  have hbu2 : Below w2.heap.size w2 u2 := by rw [hu2]; exact hbu1.alloc hbu1.size _
  replace fPB := fPB.alloc (.cells #[str [109], .int .i64 1, .slice none 0 0, .slice A' n' c', .slice none 0 0, .slice none 0 0, .slice none 0 0, .slice (some ⟨bc', 0, none⟩) 1 e'] 29)
  rw [← hu2] at fPB
  have fQB : Blk u2 (w2.heap.size + 1) 29 [str [109], .int .i64 1, .slice none 0 0, .slice A' n' c', .slice none 0 0, .slice none 0 0, .slice none 0 0, .slice (some ⟨bc', 0, none⟩) 1 e'] := by rw [hu2]; have h := Blk.new u1 29 [str [109], .int .i64 1, .slice none 0 0, .slice A' n' c', .slice none 0 0, .slice none 0 0, .slice none 0 0, .slice (some ⟨bc', 0, none⟩) 1 e']; rw [zu1] at h; exact h
  rw [← hu1, ← hu2]
  obtain ⟨QB, zQB⟩ : ∃ b, b = w2.heap.size + 1 := ⟨_, rfl⟩
  obtain ⟨PB, zPB⟩ : ∃ b, b = w2.heap.size := ⟨_, rfl⟩
  rw [← zQB, ← zPB]
  rw [← zPB] at fPB
  rw [← zQB] at fQB
  clear hu1 hu2
  have HX := Lib.hid (And.intro (HX2.out.1.below hbu2) (HX2.out.2.below hbu2))
  have HB := Lib.hid (And.intro (HB2.out.trans (hbu2.mono HB2.out.size)) (And.intro fPB fQB))
  have hI9 : ∀ i ∈ I, i < 9 := by obtain ⟨bits, h, _⟩ := HX2.out.1.idx; rw [h]; exact fun i hi => idxF_lt bits 9 i hi
  have hI9' : ∀ i ∈ I', i < 9 := by obtain ⟨bits, h, _⟩ := HX2.out.2.idx; rw [h]; exact fun i hi => idxF_lt bits 9 i hi
  have hnd : I.Nodup := by obtain ⟨bits, h, _⟩ := HX2.out.1.idx; rw [h]; exact idxF_nodup bits 9
  obtain ⟨R, hR, hpo⟩ := flds_law (pd_mem HX2.out.1.y12 bad) (pd_mem HX2.out.2.y12 bad') hI9 hI9'
  obtain ⟨Q, hQ, hqo⟩ := flds_law (pd_mem HX2.out.2.y12 bad') (pd_mem HX2.out.1.y12 bad) hI9' hI9
  obtain ⟨R0, hR0, hpo0⟩ := flds_law (pd_mem HX2.out.1.y12 bad) (pd_mem HX2.out.1.y12 bad) hI9 hI9
  obtain ⟨fl0, rfl⟩ := plan_self (pd_mem HX2.out.1.y12 bad) hpo0
  have CW := Lib.hid (way_any u2 A n c bc e y bad ad cn At ct q m I A' n' c' bc' e' y' bad' ad' cn' At' ct' q' m' I' R HX.out.1 HX.out.2 hR)
  have CV := Lib.hid (fun W (hW : Below u2.heap.size u2 W) => way_any W A' n' c' bc' e' y' bad' ad' cn' At' ct' q' m' I' A n c bc e y bad ad cn At ct q m I Q (HX.out.2.below hW) (HX.out.1.below hW) hQ)
  have CW0 := Lib.hid (fun W (hW : Below u2.heap.size u2 W) => way_any W A n c bc e y bad ad cn At ct q m I A n c bc e y bad ad cn At ct q m I (some fl0) (HX.out.1.below hW) (HX.out.1.below hW) hR0)
  have hpR : planR q q (some fl0) = some fl0 := by unfold planR; rw [if_pos rfl]
  rw [hpR] at CW0
  have hcase : (planR q q' R = none ∧ planR q' q Q = none) ∨ ∃ fl fl', planR q q' R = some fl ∧ R = some fl ∧ planR q' q Q = some fl' ∧ Q = some fl' := by
    unfold planR
    by_cases h : q = q'
    · rw [if_pos h, if_pos h.symm]
      cases R with
      | none => exact .inl ⟨rfl, plan_none (pd_mem HX2.out.1.y12 bad) (pd_mem HX2.out.2.y12 bad') hpo hqo⟩
      | some fl =>
        obtain ⟨fl', rfl⟩ := plan_back (pd_mem HX2.out.1.y12 bad) (pd_mem HX2.out.2.y12 bad') hpo hqo
        exact .inr ⟨fl, fl', rfl, rfl, rfl, rfl⟩
    · rw [if_neg h, if_neg fun e => h e.symm]; exact .inl ⟨rfl, rfl⟩
  have HPO := Lib.hid (And.intro hpo (And.intro hqo (And.intro hI9 (And.intro hI9' hnd))))
  have HCA := Lib.hid hcase
  have g0 := fPB.cell 0
  have g1 := fPB.cell 1
  have g2 := fPB.cell 2
  have g3 := fPB.cell 3
  have g4 := fPB.cell 4
  have g5 := fPB.cell 5
  have g6 := fPB.cell 6
  have g7 := fPB.cell 7
  have lg := fPB.lt
  simp only [List.getElem?_cons_zero, List.getElem?_cons_succ] at g0 g1 g2 g3 g4 g5 g6 g7
  have i0 := fQB.cell 0
  have i1 := fQB.cell 1
  have i2 := fQB.cell 2
  have i3 := fQB.cell 3
  have i4 := fQB.cell 4
  have i5 := fQB.cell 5
  have i6 := fQB.cell 6
  have i7 := fQB.cell 7
  have li := fQB.lt
  simp only [List.getElem?_cons_zero, List.getElem?_cons_succ] at i0 i1 i2 i3 i4 i5 i6 i7
  clear fPB fQB zPB zQB zu1 zu2 hbu1 hbu2 hR hQ hpo hqo hI9 hI9' hnd hR0 hpo0 hpR hcase HX2 HB2
  generalize u2 = W2 at *
  generalize hRR : planR q q' R = R2 at CW HCA
  generalize hQQ : planR q' q Q = Q2 at CV HCA
  clear hRR hQQ
  rcases HCA.out with ⟨rfl, rfl⟩ | ⟨fl, fl', rfl, rfl, rfl, rfl⟩
  ·
    go_upto_region 3 with (go_at_call 19; refine CW.out.mono ?_; unfold WayPost; rintro e w3 ⟨rfl, hb3⟩; have H3 := Lib.hid (And.intro hb3 trivial); clear hb3)
    obtain ⟨W4, hWW4⟩ : ∃ W, W = w3.alloc (.cells #[.slice none 0 0] 60) := ⟨_, rfl⟩
    obtain ⟨WB, hBWB⟩ : ∃ b, b = w3.heap.size := ⟨_, rfl⟩
    have fWB : Blk W4 WB 60 [.slice none 0 0] := by rw [hWW4, hBWB]; exact Blk.new _ _ _
    have hbW4 : Below w3.heap.size w3 W4 := by rw [hWW4]; exact (Below.refl _ _).alloc (Nat.le_refl _) _
    rw [← hWW4, ← hBWB]
    have hb24 := H3.out.1.trans (hbW4.mono H3.out.1.size)
    have fPB4 := HB.out.2.1.below hb24 HB.out.2.1.lt
    have fQB4 := HB.out.2.2.below hb24 HB.out.2.2.lt
    skip
    have H4 := Lib.hid (And.intro hb24 (And.intro fPB4 (And.intro fQB4 fWB)))
    clear hb24 hbW4 hWW4 hBWB fWB g0 g1 g2 g3 g4 g5 g6 g7 lg i0 i1 i2 i3 i4 i5 i6 i7 li
    have k0 := fPB4.cell 0
    have k1 := fPB4.cell 1
    have k2 := fPB4.cell 2
    have k3 := fPB4.cell 3
    have k4 := fPB4.cell 4
    have k5 := fPB4.cell 5
    have k6 := fPB4.cell 6
    have k7 := fPB4.cell 7
    have lk := fPB4.lt
    simp only [List.getElem?_cons_zero, List.getElem?_cons_succ] at k0 k1 k2 k3 k4 k5 k6 k7
    have j0 := fQB4.cell 0
    have j1 := fQB4.cell 1
    have j2 := fQB4.cell 2
    have j3 := fQB4.cell 3
    have j4 := fQB4.cell 4
    have j5 := fQB4.cell 5
    have j6 := fQB4.cell 6
    have j7 := fQB4.cell 7
    have lj := fQB4.lt
    simp only [List.getElem?_cons_zero, List.getElem?_cons_succ] at j0 j1 j2 j3 j4 j5 j6 j7
    clear fPB4 fQB4
    go_upto_region 4 with (go_at_call 19; refine (CV.out _ H4.out.1).mono ?_; unfold WayPost; rintro e w5 ⟨rfl, hb5⟩; have H5 := Lib.hid (And.intro hb5 trivial); clear hb5)
    obtain ⟨W6, hWW6⟩ : ∃ W, W = w5.alloc (.cells #[.slice none 0 0] 60) := ⟨_, rfl⟩
    obtain ⟨VB, hBVB⟩ : ∃ b, b = w5.heap.size := ⟨_, rfl⟩
    have fVB : Blk W6 VB 60 [.slice none 0 0] := by rw [hWW6, hBVB]; exact Blk.new _ _ _
    have hbW6 : Below w5.heap.size w5 W6 := by rw [hWW6]; exact (Below.refl _ _).alloc (Nat.le_refl _) _
    rw [← hWW6, ← hBVB]
    have hb46 := H5.out.1.trans (hbW6.mono H5.out.1.size)
    have hb26 := H4.out.1.trans (hb46.mono H4.out.1.size)
    have fPB6 := H4.out.2.1.below hb46 H4.out.2.1.lt
    skip
    have H6 := Lib.hid (And.intro hb26 (And.intro fPB6 (And.intro (H4.out.2.2.1.below hb46 H4.out.2.2.1.lt) (And.intro (H4.out.2.2.2.below hb46 H4.out.2.2.2.lt) fVB))))
    clear hb26 hb46 hbW6 hWW6 hBVB fVB k0 k1 k2 k3 k4 k5 k6 k7 lk j0 j1 j2 j3 j4 j5 j6 j7 lj
    have k0 := fPB6.cell 0
    have k1 := fPB6.cell 1
    have k2 := fPB6.cell 2
    have k3 := fPB6.cell 3
    have k4 := fPB6.cell 4
    have k5 := fPB6.cell 5
    have k6 := fPB6.cell 6
    have k7 := fPB6.cell 7
    have lk := fPB6.lt
    simp only [List.getElem?_cons_zero, List.getElem?_cons_succ] at k0 k1 k2 k3 k4 k5 k6 k7
    clear fPB6
    go_upto_region 5 with (go_at_call 19; refine (CW0.out _ H6.out.1).mono ?_; unfold WayPost; rintro e w7 ⟨⟨M0, cM0, rfl, _⟩, hb7⟩; have H7 := Lib.hid hb7; clear hb7)
    obtain ⟨W8, hWW8⟩ : ∃ W, W = w7.alloc (.cells #[.slice M0 1 cM0] 60) := ⟨_, rfl⟩
    obtain ⟨OB, hBOB⟩ : ∃ b, b = w7.heap.size := ⟨_, rfl⟩
    have fOB : Blk W8 OB 60 [.slice M0 1 cM0] := by rw [hWW8, hBOB]; exact Blk.new _ _ _
    have hbW8 : Below w7.heap.size w7 W8 := by rw [hWW8]; exact (Below.refl _ _).alloc (Nat.le_refl _) _
    rw [← hWW8, ← hBOB]
    have hb68 := H7.out.trans (hbW8.mono H7.out.size)
    have hb28 := H6.out.1.trans (hb68.mono H6.out.1.size)
    have vv0 := fOB.cell 0
    have lvv := fOB.lt
    simp only [List.getElem?_cons_zero] at vv0
    have H8 := Lib.hid (And.intro hb28 (And.intro (H6.out.2.1.below hb68 H6.out.2.1.lt) (And.intro (H6.out.2.2.1.below hb68 H6.out.2.2.1.lt) (And.intro (H6.out.2.2.2.1.below hb68 H6.out.2.2.2.1.lt) (H6.out.2.2.2.2.below hb68 H6.out.2.2.2.2.lt)))))
    have HBw := Lib.hid (HB.out.1.trans (hb28.mono HB.out.1.size))
    skip
    clear hb68 hb28 hbW8 hWW8 hBOB fOB k0 k1 k2 k3 k4 k5 k6 k7 lk
    go_wp2_with (fail)
    go_ret
    exact ⟨rfl, HBw.out⟩
  ·
    have hok := plan_ok (by have := HX.out.1.len; omega) HPO.out.1
    rw [← HX.out.1.len.1] at hok
    have hok' := plan_ok (by have := HX.out.2.len; omega) HPO.out.2.1
    rw [← HX.out.2.len.1] at hok'
    have HOK := Lib.hid (And.intro hok hok')
    clear hok hok' HCA
    go_upto_region 3 with (go_at_call 19; refine CW.out.mono ?_; unfold WayPost; rintro e w3 ⟨⟨M, cM, rfl, hway⟩, hb3⟩; have H3 := Lib.hid (And.intro hb3 hway); clear hb3 hway)
    obtain ⟨W4, hWW4⟩ : ∃ W, W = w3.alloc (.cells #[.slice M 1 cM] 60) := ⟨_, rfl⟩
    obtain ⟨WB, hBWB⟩ : ∃ b, b = w3.heap.size := ⟨_, rfl⟩
    have fWB : Blk W4 WB 60 [.slice M 1 cM] := by rw [hWW4, hBWB]; exact Blk.new _ _ _
    have hbW4 : Below w3.heap.size w3 W4 := by rw [hWW4]; exact (Below.refl _ _).alloc (Nat.le_refl _) _
    rw [← hWW4, ← hBWB]
    have hb24 := H3.out.1.trans (hbW4.mono H3.out.1.size)
    have fPB4 := HB.out.2.1.below hb24 HB.out.2.1.lt
    have fQB4 := HB.out.2.2.below hb24 HB.out.2.2.lt
    have HWY := Lib.hid ((H3.out.2.imp (D' := Any) fun _ _ _ => trivial).keep (Same.any hbW4))
    have H4 := Lib.hid (And.intro hb24 (And.intro fPB4 (And.intro fQB4 fWB)))
    clear hb24 hbW4 hWW4 hBWB fWB g0 g1 g2 g3 g4 g5 g6 g7 lg i0 i1 i2 i3 i4 i5 i6 i7 li
    have k0 := fPB4.cell 0
    have k1 := fPB4.cell 1
    have k2 := fPB4.cell 2
    have k3 := fPB4.cell 3
    have k4 := fPB4.cell 4
    have k5 := fPB4.cell 5
    have k6 := fPB4.cell 6
    have k7 := fPB4.cell 7
    have lk := fPB4.lt
    simp only [List.getElem?_cons_zero, List.getElem?_cons_succ] at k0 k1 k2 k3 k4 k5 k6 k7
    have j0 := fQB4.cell 0
    have j1 := fQB4.cell 1
    have j2 := fQB4.cell 2
    have j3 := fQB4.cell 3
    have j4 := fQB4.cell 4
    have j5 := fQB4.cell 5
    have j6 := fQB4.cell 6
    have j7 := fQB4.cell 7
    have lj := fQB4.lt
    simp only [List.getElem?_cons_zero, List.getElem?_cons_succ] at j0 j1 j2 j3 j4 j5 j6 j7
    clear fPB4 fQB4
    go_upto_region 4 with (go_at_call 19; refine (CV.out _ H4.out.1).mono ?_; unfold WayPost; rintro e w5 ⟨⟨N, cN, rfl, hway⟩, hb5⟩; have H5 := Lib.hid (And.intro hb5 hway); clear hb5 hway)
    obtain ⟨W6, hWW6⟩ : ∃ W, W = w5.alloc (.cells #[.slice N 1 cN] 60) := ⟨_, rfl⟩
    obtain ⟨VB, hBVB⟩ : ∃ b, b = w5.heap.size := ⟨_, rfl⟩
    have fVB : Blk W6 VB 60 [.slice N 1 cN] := by rw [hWW6, hBVB]; exact Blk.new _ _ _
    have hbW6 : Below w5.heap.size w5 W6 := by rw [hWW6]; exact (Below.refl _ _).alloc (Nat.le_refl _) _
    rw [← hWW6, ← hBVB]
    have hb46 := H5.out.1.trans (hbW6.mono H5.out.1.size)
    have hb26 := H4.out.1.trans (hb46.mono H4.out.1.size)
    have fPB6 := H4.out.2.1.below hb46 H4.out.2.1.lt
    have HVY := Lib.hid ((H5.out.2.imp (D' := Any) fun _ _ _ => trivial).keep (Same.any hbW6))
    have HWY6 := Lib.hid (HWY.out.keep (Same.any hb46))
    have H6 := Lib.hid (And.intro hb26 (And.intro fPB6 (And.intro (H4.out.2.2.1.below hb46 H4.out.2.2.1.lt) (And.intro (H4.out.2.2.2.below hb46 H4.out.2.2.2.lt) fVB))))
    clear hb26 hb46 hbW6 hWW6 hBVB fVB k0 k1 k2 k3 k4 k5 k6 k7 lk j0 j1 j2 j3 j4 j5 j6 j7 lj
    have k0 := fPB6.cell 0
    have k1 := fPB6.cell 1
    have k2 := fPB6.cell 2
    have k3 := fPB6.cell 3
    have k4 := fPB6.cell 4
    have k5 := fPB6.cell 5
    have k6 := fPB6.cell 6
    have k7 := fPB6.cell 7
    have lk := fPB6.lt
    simp only [List.getElem?_cons_zero, List.getElem?_cons_succ] at k0 k1 k2 k3 k4 k5 k6 k7
    clear fPB6
    go_upto_region 5 with (go_at_call 19; refine (CW0.out _ H6.out.1).mono ?_; unfold WayPost; rintro e w7 ⟨⟨M0, cM0, rfl, _⟩, hb7⟩; have H7 := Lib.hid hb7; clear hb7)
    obtain ⟨W8, hWW8⟩ : ∃ W, W = w7.alloc (.cells #[.slice M0 1 cM0] 60) := ⟨_, rfl⟩
    obtain ⟨OB, hBOB⟩ : ∃ b, b = w7.heap.size := ⟨_, rfl⟩
    have fOB : Blk W8 OB 60 [.slice M0 1 cM0] := by rw [hWW8, hBOB]; exact Blk.new _ _ _
    have hbW8 : Below w7.heap.size w7 W8 := by rw [hWW8]; exact (Below.refl _ _).alloc (Nat.le_refl _) _
    rw [← hWW8, ← hBOB]
    have hb68 := H7.out.trans (hbW8.mono H7.out.size)
    have hb28 := H6.out.1.trans (hb68.mono H6.out.1.size)
    have vv0 := fOB.cell 0
    have lvv := fOB.lt
    simp only [List.getElem?_cons_zero] at vv0
    have H8 := Lib.hid (And.intro hb28 (And.intro (H6.out.2.1.below hb68 H6.out.2.1.lt) (And.intro (H6.out.2.2.1.below hb68 H6.out.2.2.1.lt) (And.intro (H6.out.2.2.2.1.below hb68 H6.out.2.2.2.1.lt) (H6.out.2.2.2.2.below hb68 H6.out.2.2.2.2.lt)))))
    have HBw := Lib.hid (HB.out.1.trans (hb28.mono HB.out.1.size))
    have HVY8 := Lib.hid (HVY.out.keep (Same.any hb68))
    have HWY8 := Lib.hid (HWY6.out.keep (Same.any hb68))
    clear hb68 hb28 hbW8 hWW8 hBOB fOB k0 k1 k2 k3 k4 k5 k6 k7 lk
    have HXw := Lib.hid (And.intro (HX.out.1.below H8.out.1) (HX.out.2.below H8.out.1))
    have CS := Lib.hid (savedFor_any W8 A n c bc e y bad ad cn At ct q m I Lp ln cl l HXw.out.1 (HI.out.keep (Same.any HBw.out)))
    have fP8 := H8.out.2.1
    have hm6 : m ≤ 6 := HX.out.1.len.2.2
    have hm6' : m' ≤ 6 := HX.out.2.len.2.2
    have k0 := fP8.cell 0
    have k1 := fP8.cell 1
    have k2 := fP8.cell 2
    have k3 := fP8.cell 3
    have k4 := fP8.cell 4
    have k5 := fP8.cell 5
    have k6 := fP8.cell 6
    have k7 := fP8.cell 7
    have lk := fP8.lt
    simp only [List.getElem?_cons_zero, List.getElem?_cons_succ] at k0 k1 k2 k3 k4 k5 k6 k7
    clear fP8
    go_upto_region 10 with (go_at_call 20; refine CS.out.mono ?_; unfold SvPost; rintro e w9 ⟨S, hst, ⟨A5, c5, rfl, hvs⟩, hb9⟩; have H9 := Lib.hid (And.intro hst (And.intro hvs hb9)); clear hst hvs hb9)
    obtain ⟨W10, hWW10⟩ : ∃ W, W = w9.alloc (.cells #[str [65], .slice A5 m c5, .slice none 0 0] 65) := ⟨_, rfl⟩
    obtain ⟨SB, hBSB⟩ : ∃ b, b = w9.heap.size := ⟨_, rfl⟩
    have fSB : Blk W10 SB 65 [str [65], .slice A5 m c5, .slice none 0 0] := by rw [hWW10, hBSB]; exact Blk.new _ _ _
    have hbW10 : Below w9.heap.size w9 W10 := by rw [hWW10]; exact (Below.refl _ _).alloc (Nat.le_refl _) _
    rw [← hWW10, ← hBSB]
    have hb80 := H9.out.2.2.trans (hbW10.mono H9.out.2.2.size)
    have HX10 := Lib.hid (And.intro (HXw.out.1.below hb80) (HXw.out.2.below hb80))
    have HB10 := Lib.hid (HBw.out.trans (hb80.mono HBw.out.size))
    have HWY10 := Lib.hid (HWY8.out.keep (Same.any hb80))
    have HVY10 := Lib.hid (HVY8.out.keep (Same.any hb80))
    have HS10 := Lib.hid ((H9.out.2.1.imp (D' := Any) fun _ _ _ => trivial).keep (Same.any hbW10))
    have H10 := Lib.hid (And.intro (H8.out.2.1.below hb80 H8.out.2.1.lt) (And.intro (H8.out.2.2.1.below hb80 H8.out.2.2.1.lt) (And.intro (H8.out.2.2.2.1.below hb80 H8.out.2.2.2.1.lt) (And.intro (H8.out.2.2.2.2.below hb80 H8.out.2.2.2.2.lt) fSB))))
    have wb0 := H10.out.2.2.1.cell 0
    have lwb := H10.out.2.2.1.lt
    simp only [List.getElem?_cons_zero] at wb0
    have CT := (show Calls Try.prog 21 #[.agg #[str [65], .slice A5 m c5, .slice none 0 0], .agg #[.slice M 1 cM]] W10 (TurnPost W10 (turnF S fl)) from by
      obtain ⟨F, cF, Ls, cL, r1, r2, r3⟩ := HWY10.out
      exact turn_ok W10 A5 c5 S none 0 M cM m F fl.length cF Ls _ cL fl _ r1 r3 HOK.out.1 HS10.out)
    have hSl : S.length = I.length := by have := H9.out.1.1; simpa using this
    have hXl : (turnF S fl).length = m' := by rw [turnF_len2, HPO.out.1.1]; exact HX.out.2.len.1.symm
    have hYl : (turnF (turnF S fl) fl').length = m := by rw [turnF_len2, HPO.out.2.1.1]; exact HX.out.1.len.1.symm
    have htw : ∀ k (hk : k < I.length), (I[k] ∈ I' → (turnF (turnF S fl) fl')[k]? = S[k]?) ∧ (I[k] ∉ I' → ∃ v, firstU (pd y bad) (tyF I[k]) 4 0 = some (some v) ∧ (turnF (turnF S fl) fl')[k]? = some v) := fun k hk => twice_law HPO.out.2.2.2.2 hSl HPO.out.1 HPO.out.2.1 hk
    unfold TurnPost at CT
    rw [hXl] at CT
    generalize hX : turnF S fl = X at CT hXl hYl htw
    clear hX
    have HXL := Lib.hid (And.intro hSl (And.intro hXl (And.intro hYl htw)))
    have CT3 := Lib.hid CT
    clear CT hSl hXl hYl htw vv0 lvv hWW10 hBSB hbW10 hb80 k0 k1 k2 k3 k4 k5 k6 k7 lk
    have s0 := fSB.cell 0
    have s1 := fSB.cell 1
    have s2 := fSB.cell 2
    have ls := fSB.lt
    simp only [List.getElem?_cons_zero, List.getElem?_cons_succ] at s0 s1 s2
    clear fSB
    go_upto_region 11 with (go_at_call 21; refine CT3.out.mono ?_; rintro e w11 ⟨⟨A7, c7, rfl, hxs⟩, hb11⟩; have H11 := Lib.hid (And.intro hxs hb11); clear hxs hb11)
    obtain ⟨W12, hWW12⟩ : ∃ W, W = w11.alloc (.cells #[str [65], .slice A7 m' c7, .slice none 0 0] 65) := ⟨_, rfl⟩
    obtain ⟨XB, hBXB⟩ : ∃ b, b = w11.heap.size := ⟨_, rfl⟩
    have fXB : Blk W12 XB 65 [str [65], .slice A7 m' c7, .slice none 0 0] := by rw [hWW12, hBXB]; exact Blk.new _ _ _
    have hbW12 : Below w11.heap.size w11 W12 := by rw [hWW12]; exact (Below.refl _ _).alloc (Nat.le_refl _) _
    rw [← hWW12, ← hBXB]
    have hb02 := H11.out.2.trans (hbW12.mono H11.out.2.size)
    have HX12 := Lib.hid (And.intro (HX10.out.1.below hb02) (HX10.out.2.below hb02))
    have HB12 := Lib.hid (HB10.out.trans (hb02.mono HB10.out.size))
    have HVY12 := Lib.hid (HVY10.out.keep (Same.any hb02))
    have HS12 := Lib.hid (HS10.out.keep (Same.any hb02))
    have HXS := Lib.hid ((H11.out.1.imp (D' := Any) fun _ _ _ => trivial).keep (Same.any hbW12))
    have H12 := Lib.hid (And.intro (H10.out.1.below hb02 H10.out.1.lt) (And.intro (H10.out.2.1.below hb02 H10.out.2.1.lt) (And.intro (H10.out.2.2.2.1.below hb02 H10.out.2.2.2.1.lt) (And.intro (H10.out.2.2.2.2.below hb02 H10.out.2.2.2.2.lt) fXB))))
    have wb0 := H12.out.2.2.1.cell 0
    have lwb := H12.out.2.2.1.lt
    simp only [List.getElem?_cons_zero] at wb0
    have CT := (show Calls Try.prog 21 #[.agg #[str [65], .slice A7 m' c7, .slice none 0 0], .agg #[.slice N 1 cN]] W12 (TurnPost W12 (turnF X fl')) from by
      obtain ⟨F, cF, Ls, cL, r1, r2, r3⟩ := HVY12.out
      exact turn_ok W12 A7 c7 X none 0 N cN m' F fl'.length cF Ls _ cL fl' _ r1 r3 HOK.out.2 HXS.out)
    unfold TurnPost at CT
    rw [HXL.out.2.2.1] at CT
    have CT4 := Lib.hid CT
    clear CT hWW12 hBXB hbW12 hb02 s0 s1 s2 ls
    have t0 := fXB.cell 0
    have t1 := fXB.cell 1
    have t2 := fXB.cell 2
    have lt := fXB.lt
    simp only [List.getElem?_cons_zero, List.getElem?_cons_succ] at t0 t1 t2
    clear fXB
    go_upto_region 12 with (go_at_call 21; refine CT4.out.mono ?_; rintro e w13 ⟨⟨A9, c9, rfl, hys⟩, hb13⟩; have H13 := Lib.hid (And.intro hys hb13); clear hys hb13)
    obtain ⟨W14, hWW14⟩ : ∃ W, W = w13.alloc (.cells #[str [65], .slice A9 m c9, .slice none 0 0] 65) := ⟨_, rfl⟩
    obtain ⟨YB, hBYB⟩ : ∃ b, b = w13.heap.size := ⟨_, rfl⟩
    have fYB : Blk W14 YB 65 [str [65], .slice A9 m c9, .slice none 0 0] := by rw [hWW14, hBYB]; exact Blk.new _ _ _
    have hbW14 : Below w13.heap.size w13 W14 := by rw [hWW14]; exact (Below.refl _ _).alloc (Nat.le_refl _) _
    rw [← hWW14, ← hBYB]
    have hb04 := H13.out.2.trans (hbW14.mono H13.out.2.size)
    have HX14 := Lib.hid (And.intro (HX12.out.1.below hb04) (HX12.out.2.below hb04))
    have HB14 := Lib.hid (HB12.out.trans (hb04.mono HB12.out.size))
    have HS14 := Lib.hid (HS12.out.keep (Same.any hb04))
    have HYS := Lib.hid ((H13.out.1.imp (D' := Any) fun _ _ _ => trivial).keep (Same.any hbW14))
    have H14 := Lib.hid (And.intro (H12.out.1.below hb04 H12.out.1.lt) (And.intro (H12.out.2.1.below hb04 H12.out.2.1.lt) (And.intro (H12.out.2.2.2.1.below hb04 H12.out.2.2.2.1.lt) fYB)))
    have HAC := Lib.hid (And.intro HX14.out.1.act HX14.out.2.act)
    have MK := Lib.hid (show ∀ w', Below W14.heap.size W14 w' → (Below W14.heap.size W14 w' ∧ w'.cell? ⟨PB, 0, none⟩ = some (str [109]) ∧ w'.cell? ⟨PB, 1, none⟩ = some (.int .i64 1) ∧ w'.cell? ⟨PB, 2, none⟩ = some (.slice none 0 0) ∧ w'.cell? ⟨PB, 3, none⟩ = some (.slice A n c) ∧ w'.cell? ⟨PB, 4, none⟩ = some (.slice none 0 0) ∧ w'.cell? ⟨PB, 5, none⟩ = some (.slice none 0 0) ∧ w'.cell? ⟨PB, 6, none⟩ = some (.slice none 0 0) ∧ w'.cell? ⟨PB, 7, none⟩ = some (.slice (some ⟨bc, 0, none⟩) 1 e) ∧ w'.cell? ⟨QB, 7, none⟩ = some (.slice (some ⟨bc', 0, none⟩) 1 e') ∧ w'.cell? ⟨SB, 1, none⟩ = some (.slice A5 m c5) ∧ w'.cell? ⟨YB, 1, none⟩ = some (.slice A9 m c9) ∧ w'.cell? ⟨bc, 1, none⟩ = some (.slice (some ad) m cn) ∧ w'.cell? ⟨bc, 2, none⟩ = some (.slice At m ct) ∧ w'.cell? ⟨bc', 1, none⟩ = some (.slice (some ad') m' cn')) from fun w' h => ⟨h, (h.cell (p := ⟨PB, 0, none⟩) (H14.out.1.lt)).trans (H14.out.1.cell 0), (h.cell (p := ⟨PB, 1, none⟩) (H14.out.1.lt)).trans (H14.out.1.cell 1), (h.cell (p := ⟨PB, 2, none⟩) (H14.out.1.lt)).trans (H14.out.1.cell 2), (h.cell (p := ⟨PB, 3, none⟩) (H14.out.1.lt)).trans (H14.out.1.cell 3), (h.cell (p := ⟨PB, 4, none⟩) (H14.out.1.lt)).trans (H14.out.1.cell 4), (h.cell (p := ⟨PB, 5, none⟩) (H14.out.1.lt)).trans (H14.out.1.cell 5), (h.cell (p := ⟨PB, 6, none⟩) (H14.out.1.lt)).trans (H14.out.1.cell 6), (h.cell (p := ⟨PB, 7, none⟩) (H14.out.1.lt)).trans (H14.out.1.cell 7), (h.cell (p := ⟨QB, 7, none⟩) (H14.out.2.1.lt)).trans (H14.out.2.1.cell 7), (h.cell (p := ⟨SB, 1, none⟩) (H14.out.2.2.1.lt)).trans (H14.out.2.2.1.cell 1), (h.cell (p := ⟨YB, 1, none⟩) (H14.out.2.2.2.lt)).trans (H14.out.2.2.2.cell 1), (h.cell (p := ⟨bc, 1, none⟩) (HAC.out.1.lt)).trans (HAC.out.1.cell 1), (h.cell (p := ⟨bc, 2, none⟩) (HAC.out.1.lt)).trans (HAC.out.1.cell 2), (h.cell (p := ⟨bc', 1, none⟩) (HAC.out.2.lt)).trans (HAC.out.2.cell 1)⟩)
    have hself : Below W14.heap.size W14 W14 := Below.refl _ _
    obtain ⟨hbaq, aq0, aq1, aq2, aq3, aq4, aq5, aq6, aq7, aq8, aq9, aq10, aq11, aq12, aq13⟩ := MK.out _ (by assumption)
    have lY := H14.out.2.2.2.lt
    have lS := H14.out.2.2.1.lt
    have d1 : ((m : Int) != (m : Int)) = false := by simp
    have d1' : (m != m) = false := by simp
    clear hself hWW14 hBYB hbW14 fYB hb04 wb0 lwb t0 t1 t2 lt
    have HBQ := Lib.hid (Below.refl W14.heap.size W14)
    have lP := H14.out.1.lt
    have lbP := HAC.out.1.lt
    go_wp2_with (fail)
    clear hbaq aq0 aq1 aq2 aq3 aq4 aq5 aq6 aq7 aq8 aq9 aq10 aq11 aq12 aq13 lY lS d1 d1' lP lbP
    go_loopw [99] (fun v wr => ∃ k : Nat, k ≤ m ∧ v = .int .i64 (k : Nat) ∧ Hid (Below W14.heap.size W14 wr)) (fun v _ => m - (intOf v).toNat)
    case atStart => exact ⟨0, Nat.zero_le _, rfl, HBQ.out⟩
    case round =>
      obtain ⟨k, hk, rfl, HI1⟩ := hrel
      by_cases hlt : k < m
      · have hkI : k < I.length := by have := HX.out.1.len; omega
        obtain ⟨b1, o1, u, e1, _, hu, hc⟩ := (HX14.out.1.nr.keep (Same.any HI1.out)).at_ hlt
        have e1' := e1
        injection e1 with e1
        subst e1
        rw [strs_at _ _ (by simpa using hkI), List.getElem_map] at hu
        injection hu with hu
        subst hu
        have lc := lt_of_cell hc
        have htw := HXL.out.2.2.2 k hkI
        have hkS : k < S.length := by have := HXL.out.1; omega
        have hkY : k < (turnF X fl').length := by have := HXL.out.2.2.1; omega
        have i9 : I[k] < 9 := HPO.out.2.2.1 _ (List.getElem_mem hkI)
        have hmem := nm_mem HPO.out.2.2.2.1 i9
        have CC := Lib.hid (fun W (hW : Below wr.heap.size wr W) => containsS_any (some ad') m' cn' (I'.map nmF) (nmF I[k]) W ((HX14.out.2.nr.keep (Same.any HI1.out)).keep (Same.any hW)) (by have := HX.out.2.len; simp; omega) (by omega))
        obtain ⟨b4, o4, A8, c8, e4, _, hyv, y0, y1, y2, y3⟩ := (HYS.out.keep (Same.any HI1.out)).elem hlt hkY
        subst e4
        have hHI := HI1.out
        have hso := hHI.size
        have lP := Nat.lt_of_lt_of_le H14.out.1.lt hso
        have lQ := Nat.lt_of_lt_of_le H14.out.2.1.lt hso
        have lS := Nat.lt_of_lt_of_le H14.out.2.2.1.lt hso
        have lY := Nat.lt_of_lt_of_le H14.out.2.2.2.lt hso
        have lb := Nat.lt_of_lt_of_le HAC.out.1.lt hso
        have lb' := Nat.lt_of_lt_of_le HAC.out.2.lt hso
        have ly := lt_of_cell y0
        have i0 : (0 : Int) ≤ (k : Int) := by omega
        have i1 : (k : Int) < (m : Int) := by omega
        have hbd : Below wr.heap.size wr wr.drew := ⟨rfl, rfl, rfl, Nat.le_refl _, fun _ _ => rfl⟩
        obtain ⟨hbbq, bq0, bq1, bq2, bq3, bq4, bq5, bq6, bq7, bq8, bq9, bq10, bq11, bq12, bq13⟩ := MK.out _ (by assumption)
        by_cases hm : I[k] ∈ I'
        · have hd : decide (nmF I[k] ∈ I'.map nmF) = true := decide_eq_true (hmem.2 hm)
          rw [hd] at CC
          have hye := htw.1 hm
          rw [List.getElem?_eq_getElem hkY, List.getElem?_eq_getElem hkS] at hye
          injection hye with hye
          obtain ⟨b3, o3, A6, c6, e3, _, hzv, z0, z1, z2, z3⟩ := (HS14.out.keep (Same.any HI1.out)).elem hlt hkS
          subst e3
          rw [hye] at hyv y0 y1 y2 y3
          generalize S[k] = z at hzv z0 z1 z2 z3 hyv y0 y1 y2 y3
          obtain ⟨zk, zn, zt, za⟩ := z
          simp only [V.kind, V.num, V.text, V.args] at hzv z0 z1 z2 z3 hyv y0 y1 y2 y3
          have hsf : Go.Val.sameF 10 (V.mk zk zn zt za) (V.mk zk zn zt za) = true := (Go.Val.sameF_iff 10 _ _ hzv.ok hyv.ok).2 rfl
          have CM := Lib.hid (show ∀ W, Below wr.heap.size wr W → Calls Try.prog 17 #[.agg #[.int .i64 zk, .int .i64 zn, .string zt, .slice A6 za.length c6], .agg #[.int .i64 zk, .int .i64 zn, .string zt, .slice A8 za.length c8]] W (fun e w' => e = .returned (.bool true) ∧ Below W.heap.size W w') from fun W hW => by
            have h := samev_any 10 (V.mk zk zn zt za) (V.mk zk zn zt za) [.int .i64 zk, .int .i64 zn, .string zt, .slice A6 za.length c6] [.int .i64 zk, .int .i64 zn, .string zt, .slice A8 za.length c8] W (hzv.keep (Same.any hW)) (hyv.keep (Same.any hW))
            rw [hsf] at h
            exact h)
          have lz := lt_of_cell z0
          have MKF := Lib.hid (show ∀ w', Below wr.heap.size wr w' → (Below wr.heap.size wr w' ∧ w'.cell? ⟨SB, 1, none⟩ = some (.slice (some ⟨b3, o3, none⟩) m c5) ∧ w'.cell? ⟨YB, 1, none⟩ = some (.slice (some ⟨b4, o4, none⟩) m c9) ∧ w'.cell? ⟨b3, o3 + k * 4, none⟩ = some (.int .i64 zk) ∧ w'.cell? ⟨b3, o3 + k * 4 + 1, none⟩ = some (.int .i64 zn) ∧ w'.cell? ⟨b3, o3 + k * 4 + 2, none⟩ = some (.string zt) ∧ w'.cell? ⟨b3, o3 + k * 4 + 3, none⟩ = some (.slice A6 za.length c6) ∧ w'.cell? ⟨b4, o4 + k * 4, none⟩ = some (.int .i64 zk) ∧ w'.cell? ⟨b4, o4 + k * 4 + 1, none⟩ = some (.int .i64 zn) ∧ w'.cell? ⟨b4, o4 + k * 4 + 2, none⟩ = some (.string zt) ∧ w'.cell? ⟨b4, o4 + k * 4 + 3, none⟩ = some (.slice A8 za.length c8)) from fun w' h => ⟨h, (h.cell (p := ⟨SB, 1, none⟩) (lS)).trans (bq9), (h.cell (p := ⟨YB, 1, none⟩) (lY)).trans (bq10), (h.cell (p := ⟨b3, o3 + k * 4, none⟩) (lz)).trans (z0), (h.cell (p := ⟨b3, o3 + k * 4 + 1, none⟩) (lz)).trans (z1), (h.cell (p := ⟨b3, o3 + k * 4 + 2, none⟩) (lz)).trans (z2), (h.cell (p := ⟨b3, o3 + k * 4 + 3, none⟩) (lz)).trans (z3), (h.cell (p := ⟨b4, o4 + k * 4, none⟩) (ly)).trans (y0), (h.cell (p := ⟨b4, o4 + k * 4 + 1, none⟩) (ly)).trans (y1), (h.cell (p := ⟨b4, o4 + k * 4 + 2, none⟩) (ly)).trans (y2), (h.cell (p := ⟨b4, o4 + k * 4 + 3, none⟩) (ly)).trans (y3)⟩)
          clear hd hm hmem htw hye hsf hzv hyv hkS hkY i9
          generalize nmF I[k] = n1 at hc CC
          go_upto_region 18 with (go_at_call 22; refine (CC.out _ (Below.refl _ _)).mono ?_; rintro e w' ⟨rfl, hww⟩; subst w')
          go_region_held3 (fun w' => Below wr.heap.size wr w' ∧ w'.cell? ⟨SB, 1, none⟩ = some (.slice (some ⟨b3, o3, none⟩) m c5) ∧ w'.cell? ⟨YB, 1, none⟩ = some (.slice (some ⟨b4, o4, none⟩) m c9) ∧ w'.cell? ⟨b3, o3 + k * 4, none⟩ = some (.int .i64 zk) ∧ w'.cell? ⟨b3, o3 + k * 4 + 1, none⟩ = some (.int .i64 zn) ∧ w'.cell? ⟨b3, o3 + k * 4 + 2, none⟩ = some (.string zt) ∧ w'.cell? ⟨b3, o3 + k * 4 + 3, none⟩ = some (.slice A6 za.length c6) ∧ w'.cell? ⟨b4, o4 + k * 4, none⟩ = some (.int .i64 zk) ∧ w'.cell? ⟨b4, o4 + k * 4 + 1, none⟩ = some (.int .i64 zn) ∧ w'.cell? ⟨b4, o4 + k * 4 + 2, none⟩ = some (.string zt) ∧ w'.cell? ⟨b4, o4 + k * 4 + 3, none⟩ = some (.slice A8 za.length c8)) (first | exact MKF.out _ hbd | exact MKF.out _ hbn | (refine MKF.out _ ?_; assumption) | go_keep)
            (first | (go_at_call 17; (with_reducible refine (CM.out _ (by assumption)).mono ?_); rintro e w' ⟨rfl, hbx⟩; have hbn : Below wr.heap.size wr w' := below_nextR hbx (by assumption); clear hbx))
          all_goals
            have HI3 := Lib.hid (HI1.out.trans (hbn.mono HI1.out.size))
            clear hbn
            go_wp2_with (fail)
            exact ⟨⟨k + 1, by omega, by go_num, HI3.out⟩, by simp [intOf]; omega⟩
        · have hd : decide (nmF I[k] ∈ I'.map nmF) = false := decide_eq_false fun h => hm (hmem.1 h)
          rw [hd] at CC
          obtain ⟨v, hv, hye⟩ := htw.2 hm
          rw [List.getElem?_eq_getElem hkY] at hye
          injection hye with hye
          rw [hye] at hyv y0 y1 y2 y3
          obtain ⟨b3, o3, B1, m1, e1, e3, _, p0, p1, p2, hty⟩ := (HX14.out.1.ts.keep (Same.any HI1.out)).cells hlt (by simpa using hkI)
          subst e3
          rw [List.getElem_map] at p0 p1 hty
          generalize tyF I[k] = ta at p0 p1 hty hv
          generalize hka : ta.kind = ka at p0
          generalize hna : ta.name = na at p1
          have HKN := Lib.hid (And.intro hka hna)
          have HFV := Lib.hid (And.intro hv hty)
          have lp := lt_of_cell p0
          have CF := Lib.hid (show ∀ W, Below wr.heap.size wr W → Calls Try.prog 18 #[.agg #[str [109], .int .i64 1, .slice none 0 0, .slice A n c, .slice none 0 0, .slice none 0 0, .slice none 0 0, .slice (some ⟨bc, 0, none⟩) 1 e], .agg #[.int .i64 (ka : Nat), str na, .slice B1 m1 e1]] W (FirstEPost W (some v)) from fun W hW => by
            have h := First_any 4 W ⟨A, n, c, some ⟨bc, 0, none⟩, 1, e⟩ (pd y bad) ta B1 m1 e1 (some v) ((HX14.out.1.dts.keep (Same.any HI1.out)).keep (Same.any hW)) (HFV.out.2.keep (Same.any hW)) HFV.out.1
            rw [HKN.out.1, HKN.out.2] at h
            exact h)
          have MKG := Lib.hid (show ∀ w', Below wr.heap.size wr w' → (Below wr.heap.size wr w' ∧ w'.cell? ⟨PB, 0, none⟩ = some (str [109]) ∧ w'.cell? ⟨PB, 1, none⟩ = some (.int .i64 1) ∧ w'.cell? ⟨PB, 2, none⟩ = some (.slice none 0 0) ∧ w'.cell? ⟨PB, 3, none⟩ = some (.slice A n c) ∧ w'.cell? ⟨PB, 4, none⟩ = some (.slice none 0 0) ∧ w'.cell? ⟨PB, 5, none⟩ = some (.slice none 0 0) ∧ w'.cell? ⟨PB, 6, none⟩ = some (.slice none 0 0) ∧ w'.cell? ⟨PB, 7, none⟩ = some (.slice (some ⟨bc, 0, none⟩) 1 e) ∧ w'.cell? ⟨bc, 2, none⟩ = some (.slice (some ⟨b3, o3, none⟩) m ct) ∧ w'.cell? ⟨b3, o3 + k * 3, none⟩ = some (.int .i64 (ka : Nat)) ∧ w'.cell? ⟨b3, o3 + k * 3 + 1, none⟩ = some (str na) ∧ w'.cell? ⟨b3, o3 + k * 3 + 2, none⟩ = some (.slice B1 m1 e1)) from fun w' h => ⟨h, (h.cell (p := ⟨PB, 0, none⟩) (lP)).trans (bq0), (h.cell (p := ⟨PB, 1, none⟩) (lP)).trans (bq1), (h.cell (p := ⟨PB, 2, none⟩) (lP)).trans (bq2), (h.cell (p := ⟨PB, 3, none⟩) (lP)).trans (bq3), (h.cell (p := ⟨PB, 4, none⟩) (lP)).trans (bq4), (h.cell (p := ⟨PB, 5, none⟩) (lP)).trans (bq5), (h.cell (p := ⟨PB, 6, none⟩) (lP)).trans (bq6), (h.cell (p := ⟨PB, 7, none⟩) (lP)).trans (bq7), (h.cell (p := ⟨bc, 2, none⟩) (lb)).trans (bq12), (h.cell (p := ⟨b3, o3 + k * 3, none⟩) (lp)).trans (p0), (h.cell (p := ⟨b3, o3 + k * 3 + 1, none⟩) (lp)).trans (p1), (h.cell (p := ⟨b3, o3 + k * 3 + 2, none⟩) (lp)).trans (p2)⟩)
          have hyok := hyv.ok
          have HYV := Lib.hid hyv
          have HYC := Lib.hid (And.intro y0 (And.intro y1 (And.intro y2 y3)))
          have hba : ∀ o, Below wr.heap.size wr (wr.alloc o).drew := fun o => ((Below.refl _ _).alloc (Nat.le_refl _) o).drew
          clear hd hm hmem htw hye hyv hkS hkY i9 hka hna hv hty
          generalize nmF I[k] = n1 at hc CC
          go_upto_region 20 with (go_at_call 22; refine (CC.out _ (Below.refl _ _)).mono ?_; rintro e w' ⟨rfl, hww⟩; subst w')
          go_cut [22, 23] (fun s22 s23 wc => ∃ VB A3 c3, s22 = .pointer (some ⟨VB, 0, none⟩) ∧ s23 = .int .i64 0 ∧ Hid (Blk wc VB 47 [.int .i64 v.kind, .int .i64 v.num, .string v.text, .slice A3 v.args.length c3] ∧ Below wr.heap.size wr wc ∧ wr.heap.size ≤ VB ∧ VCells 4 wc (fun b => wr.heap.size ≤ b) [.int .i64 v.kind, .int .i64 v.num, .string v.text, .slice A3 v.args.length c3] v))
          case first =>
            go_region_held3 (fun w' => Below wr.heap.size wr w' ∧ w'.cell? ⟨PB, 0, none⟩ = some (str [109]) ∧ w'.cell? ⟨PB, 1, none⟩ = some (.int .i64 1) ∧ w'.cell? ⟨PB, 2, none⟩ = some (.slice none 0 0) ∧ w'.cell? ⟨PB, 3, none⟩ = some (.slice A n c) ∧ w'.cell? ⟨PB, 4, none⟩ = some (.slice none 0 0) ∧ w'.cell? ⟨PB, 5, none⟩ = some (.slice none 0 0) ∧ w'.cell? ⟨PB, 6, none⟩ = some (.slice none 0 0) ∧ w'.cell? ⟨PB, 7, none⟩ = some (.slice (some ⟨bc, 0, none⟩) 1 e) ∧ w'.cell? ⟨bc, 2, none⟩ = some (.slice (some ⟨b3, o3, none⟩) m ct) ∧ w'.cell? ⟨b3, o3 + k * 3, none⟩ = some (.int .i64 (ka : Nat)) ∧ w'.cell? ⟨b3, o3 + k * 3 + 1, none⟩ = some (str na) ∧ w'.cell? ⟨b3, o3 + k * 3 + 2, none⟩ = some (.slice B1 m1 e1)) (first | exact MKG.out _ hbd | exact MKG.out _ hbn | exact MKG.out _ (hba _) | exact MKG.out _ (below_allocR hbn _) | exact MKG.out _ (below_set4 hbn _ _ _ _) | (refine MKG.out _ ?_; assumption) | go_keep)
              (first | (go_at_call 18; (with_reducible refine (CF.out _ (by first | assumption | exact hba _)).mono ?_); unfold FirstEPost; rintro e w' ⟨hbx, A3, c3, rfl, hv3⟩; have hbn : Below wr.heap.size wr w' := below_nextR hbx (by first | assumption | exact hba _); try (have fz : Blk w' wr.heap.size 47 [.int .i64 0, .int .i64 0, .string ⟨#[]⟩, .slice none 0 0] := ((Blk.new wr 47 [.int .i64 0, .int .i64 0, .string ⟨#[]⟩, .slice none 0 0]).drew).below hbx (by simp); have f0 := fz.cell 0; have f1 := fz.cell 1; have f2 := fz.cell 2; have f3 := fz.cell 3; have t0 := fz.frozen 0; have t1 := fz.frozen 1; have t2 := fz.frozen 2; have t3 := fz.frozen 3; have lfz := fz.lt; have HFZ := Lib.hid (And.intro fz (And.intro hbx hv3)); simp only [List.getElem?_cons_zero, List.getElem?_cons_succ] at f0 f1 f2 f3; clear fz)))
            all_goals
              go_wp2_with (fail)
              go_meet
              first
                | exact ⟨_, _, _, rfl, rfl, Blk.new _ _ _, below_allocR hbn _, hbn.size, (hv3.keep (Same.alloc _ _ _)).imp fun b hb _ => by have h1 : wr.heap.size ≤ b := hb; exact h1⟩
                | exact planEnd HFZ hbn (by simp)
          case rest =>
            obtain ⟨VB, A3, c3, rfl, rfl, hcut⟩ := hcut
            have HCT := Lib.hid hcut.out
            have hbc := HCT.out.2.1
            have HI3 := Lib.hid (HI1.out.trans (hbc.mono hso))
            clear hcut hbbq bq0 bq1 bq2 bq3 bq4 bq5 bq6 bq7 bq8 bq9 bq10 bq11 bq12 bq13 lP lQ lb lb' lp hbd hba MKG CF CC hHI hc lc p0 p1 p2
            have bqY := (H14.out.2.2.2.below HI1.out H14.out.2.2.2.lt).cell 1
            simp only [List.getElem?_cons_zero, List.getElem?_cons_succ] at bqY
            have x0c := (hbc.cell (p := ⟨YB, 1, none⟩) lY).trans bqY
            have x1c := (hbc.cell (p := ⟨b4, o4 + k * 4, none⟩) ly).trans y0
            have x2c := (hbc.cell (p := ⟨b4, o4 + k * 4 + 1, none⟩) ly).trans y1
            have x3c := (hbc.cell (p := ⟨b4, o4 + k * 4 + 2, none⟩) ly).trans y2
            have x4c := (hbc.cell (p := ⟨b4, o4 + k * 4 + 3, none⟩) ly).trans y3
            have v0c := HCT.out.1.cell 0
            have v1c := HCT.out.1.cell 1
            have v2c := HCT.out.1.cell 2
            have v3c := HCT.out.1.cell 3
            have lvc := HCT.out.1.lt
            simp only [List.getElem?_cons_zero, List.getElem?_cons_succ] at v0c v1c v2c v3c
            have lYc := Nat.lt_of_lt_of_le lY hbc.size
            have lyc := Nat.lt_of_lt_of_le ly hbc.size
            have hvf : VCells 10 wc Any [.int .i64 v.kind, .int .i64 v.num, .string v.text, .slice A3 v.args.length c3] v := (HCT.out.2.2.2.le (by omega)).imp fun _ _ _ => trivial
            have hvy := HYV.out.keep (Same.any hbc)
            have hsf : Go.Val.sameF 10 v v = true := (Go.Val.sameF_iff 10 _ _ hyok hyok).2 rfl
            have CM := Lib.hid (show ∀ W, Below wc.heap.size wc W → Calls Try.prog 17 #[.agg #[.int .i64 v.kind, .int .i64 v.num, .string v.text, .slice A3 v.args.length c3], .agg #[.int .i64 v.kind, .int .i64 v.num, .string v.text, .slice A8 v.args.length c8]] W (fun e w' => e = .returned (.bool true) ∧ Below W.heap.size W w') from fun W hW => by
              have h := samev_any 10 v v _ _ W (hvf.keep (Same.any hW)) (hvy.keep (Same.any hW))
              rw [hsf] at h
              exact h)
            have MKH := Lib.hid (show ∀ w', Below wc.heap.size wc w' → (Below wc.heap.size wc w' ∧ w'.cell? ⟨VB, 0, none⟩ = some (.int .i64 v.kind) ∧ w'.cell? ⟨VB, 1, none⟩ = some (.int .i64 v.num) ∧ w'.cell? ⟨VB, 2, none⟩ = some (.string v.text) ∧ w'.cell? ⟨VB, 3, none⟩ = some (.slice A3 v.args.length c3) ∧ w'.cell? ⟨YB, 1, none⟩ = some (.slice (some ⟨b4, o4, none⟩) m c9) ∧ w'.cell? ⟨b4, o4 + k * 4, none⟩ = some (.int .i64 v.kind) ∧ w'.cell? ⟨b4, o4 + k * 4 + 1, none⟩ = some (.int .i64 v.num) ∧ w'.cell? ⟨b4, o4 + k * 4 + 2, none⟩ = some (.string v.text) ∧ w'.cell? ⟨b4, o4 + k * 4 + 3, none⟩ = some (.slice A8 v.args.length c8)) from fun w' h => ⟨h, (h.cell (p := ⟨VB, 0, none⟩) (lvc)).trans (v0c), (h.cell (p := ⟨VB, 1, none⟩) (lvc)).trans (v1c), (h.cell (p := ⟨VB, 2, none⟩) (lvc)).trans (v2c), (h.cell (p := ⟨VB, 3, none⟩) (lvc)).trans (v3c), (h.cell (p := ⟨YB, 1, none⟩) (lYc)).trans (x0c), (h.cell (p := ⟨b4, o4 + k * 4, none⟩) (lyc)).trans (x1c), (h.cell (p := ⟨b4, o4 + k * 4 + 1, none⟩) (lyc)).trans (x2c), (h.cell (p := ⟨b4, o4 + k * 4 + 2, none⟩) (lyc)).trans (x3c), (h.cell (p := ⟨b4, o4 + k * 4 + 3, none⟩) (lyc)).trans (x4c)⟩)
            have hbd : Below wc.heap.size wc wc.drew := ⟨rfl, rfl, rfl, Nat.le_refl _, fun _ _ => rfl⟩
            clear hbc y0 y1 y2 y3 lY ly lS hso bqY hyok hvf hvy hsf HYC HYV
            generalize v.kind = vk at *
            generalize v.num = vn at *
            generalize v.text = vt at *
            generalize v.args.length = vg at *
            go_upto_region 21 with (fail)
            go_region_held3 (fun w' => Below wc.heap.size wc w' ∧ w'.cell? ⟨VB, 0, none⟩ = some (.int .i64 vk) ∧ w'.cell? ⟨VB, 1, none⟩ = some (.int .i64 vn) ∧ w'.cell? ⟨VB, 2, none⟩ = some (.string vt) ∧ w'.cell? ⟨VB, 3, none⟩ = some (.slice A3 vg c3) ∧ w'.cell? ⟨YB, 1, none⟩ = some (.slice (some ⟨b4, o4, none⟩) m c9) ∧ w'.cell? ⟨b4, o4 + k * 4, none⟩ = some (.int .i64 vk) ∧ w'.cell? ⟨b4, o4 + k * 4 + 1, none⟩ = some (.int .i64 vn) ∧ w'.cell? ⟨b4, o4 + k * 4 + 2, none⟩ = some (.string vt) ∧ w'.cell? ⟨b4, o4 + k * 4 + 3, none⟩ = some (.slice A8 vg c8)) (first | exact MKH.out _ hbd | exact MKH.out _ hbn | (refine MKH.out _ ?_; assumption) | go_keep)
              (first | (go_at_call 17; (with_reducible refine (CM.out _ (by assumption)).mono ?_); rintro e w' ⟨rfl, hbx⟩; have hbn : Below wc.heap.size wc w' := below_nextR hbx (by assumption); clear hbx))
            all_goals
              have HI4 := Lib.hid (HI3.out.trans (hbn.mono HI3.out.size))
              clear hbn
              go_wp2_with (fail)
              exact ⟨⟨k + 1, by omega, by go_num, HI4.out⟩, by simp [intOf]; omega⟩
      · go_wp2_with (fail)
        go_ret
        exact ⟨rfl, HB14.out.trans (HI1.out.mono HB14.out.size)⟩
end Go.Proofs.Ytoddjdajjmcliaa
set_option linter.unusedVariables false
namespace Go.Proofs.Ytoddjdajjmcliaa.renewTwice
open Go.ChangeShapes Go.WideShapes Go.ChangeAt Go.RowKit Go.Mem Go.Law

theorem own : ownKnob Try.prog.godebug = none := by kernel_rfl
theorem laidOut : laidOutB Try.prog = true := by kernel_rfl

set_option maxRecDepth 100000 in
theorem lifted (os : Os) (started : os.Started) (H : Type) (enc : TypeId × Value → H) :
    ReturnsInHanded {} Try.checked os 9 .any (Rows.renewTwiceSpec.pre6 enc Try.prog Try.f9 Rows.renewTwiceRow.domain false) (Rows.renewTwiceSpec.post enc Try.prog Try.f9 false true false false) := by
  refine returnsInHanded_of_change (C := Try.checked) own started (by kernel_rfl) Try.func9
    (ChangeSpec.witness6 (enc := enc) (C := Try.checked) false ⟨#[], #[.int .i64 0, .int .i64 0, .slice none 0 0], []⟩ 8 (by kernel_rfl) (by kernel_rfl) (by kernel_rfl) (by kernel_rfl)) ?_
  intro W base args ds gs before hval0 hW hcnd _
  have hval : ∀ (j : Nat) t v, Try.f9.params[j]? = some t → args[j]? = some v → Value.okWide Try.prog W .any base t v := hval0
  have hW' : DataW.Whole enc Try.prog Try.f9.params.toList Rows.renewTwiceSpec.vars false W args.toList ds gs before := hW
  obtain ⟨p, q, hA0, hV, rfl, hfz, hnd⟩ := hW
  have hA : DataW.TrodAll enc Try.prog W 0 (fun _ => true) true Try.f9.params.toList args.toList ds p := hA0
  rw [Try.params9] at hA hval
  obtain ⟨v0, vs0, d0, ds0, p0, q0, hargs, rfl, rfl, h0, r0⟩ := trodAll_cons hA
  obtain ⟨v1, vs1, d1, ds1, p1, q1, rfl, rfl, rfl, h1, r1⟩ := trodAll_cons r0
  obtain ⟨v2, vs2, d2, ds2, p2, q2, rfl, rfl, rfl, h2, r2⟩ := trodAll_cons r1
  obtain ⟨rfl, rfl, rfl⟩ := trodAll_nil r2
  obtain rfl : args = #[v0, v1, v2] := by cases args; simp_all
  obtain ⟨rfl, rfl⟩ := trodVars_none hV
  obtain ⟨a0, rfl, rfl, rfl, x0⟩ := open_int Try.underlying3 (hval 0 _ v0 rfl rfl) h0
  have w0 := i64_of_wf x0
  obtain ⟨a1, rfl, rfl, rfl, x1⟩ := open_int Try.underlying3 (hval 1 _ v1 rfl rfl) h1
  have w1 := i64_of_wf x1
  obtain ⟨A2, n2, c2, s2, rfl, hn2, hc2, hd2, hr2, hl2⟩ := open_nums Try.underlying44 Try.underlying3 (by kernel_rfl) (hval 2 _ v2 rfl rfl) h2
  clear hA0 hval0
  refine (renewTwice_any W a0 a1 w0 w1 A2 n2 c2 s2 ⟨hn2, ⟨hc2, hd2⟩, hr2, hl2⟩).mono fun e W' ⟨he, bel⟩ => ?_
  subst he
  exact ⟨_, rfl, law_post (tb := 4) laidOut Try.underlying4 (by kernel_rfl) (by kernel_rfl) rfl rfl hW' bel⟩

/-- ████ THE STATEMENT ████ -/
theorem proved : Rows.RenewTwiceSaid :=
  OpenClaim.holds_of_wide 9 Try.f9 rfl rfl rfl rfl rfl rfl rfl ⟨rfl, rfl, rfl, rfl, rfl⟩ rfl rfl rfl rfl rfl (by kernel_rfl) Try.func9 (by kernel_rfl)
    (of_decide_eq_true (by kernel_rfl)) (by unfold Func.isWrapper; first | (rw [if_pos (by decide +kernel)]; kernel_rfl) | (rw [if_neg (by decide +kernel)]; exact ⟨rfl, rfl⟩))
    (fun os started H enc _ => lifted os started H enc)
#print axioms proved
end Go.Proofs.Ytoddjdajjmcliaa.renewTwice
