/- Contracts of sameValue and slices.EqualFunc at values: whether two values are the same. · RenewKeeps's walk. · RenewKeeps returns true for every input, and leaves its arguments as they were. No condition. -/
import Derived.Test.YtoddjdajjmcliaaRest
import Derived.Test.YtoddjdajjmcliaaValMem
import Derived.Deep.DeepCutAuto
import Derived.Deep.CutBlock
import Derived.Deep.LoopGhost
import Derived.Deep.QuietTactic
import Derived.BigQuiet
import Derived.WideShapes
import Derived.Test.YtoddjdajjmcliaaJRnPlain
import Derived.Test.YtoddjdajjmcliaaRnSaved
import Derived.Test.YtoddjdajjmcliaaRows
import Derived.Test.YtoddjdajjmcliaaLaw
import Derived.Test.YtoddjdajjmcliaaLawNumS
set_option linter.unusedVariables false
namespace Go.Val
def sameL (f : V → V → Bool) : List V → List V → Bool
  | [], [] => true
  | x :: a, y :: b => f x y && sameL f a b
  | _, _ => false
def sameF : Nat → V → V → Bool
  | 0, _, _ => false
  | d + 1, .mk k n t a, .mk k' n' t' a' => decide (k = k') && decide (n = n') && decide (t = t') && sameL (sameF d) a a'
theorem sameL_iff {f : V → V → Bool} : ∀ (a b : List V), (∀ x ∈ a, ∀ y ∈ b, f x y = true ↔ x = y) → (sameL f a b = true ↔ a = b)
  | [], [], _ => by simp [sameL]
  | [], _ :: _, _ => by simp [sameL]
  | _ :: _, [], _ => by simp [sameL]
  | x :: a, y :: b, h => by
    have h1 := h x (by simp) y (by simp)
    have h2 := sameL_iff a b fun x hx y hy => h x (by simp [hx]) y (by simp [hy])
    simp only [sameL, Bool.and_eq_true, h1, h2, List.cons.injEq]
theorem sameF_iff : ∀ (d : Nat) (a b : V), okV d a → okV d b → (sameF d a b = true ↔ a = b)
  | 0, _, _, h, _ => h.elim
  | d + 1, .mk k n t a, .mk k' n' t' a', h, h' => by
    have h1 := sameL_iff (f := sameF d) a a' fun x hx y hy => sameF_iff d x y (h.2.2.2.2 x hx) (h'.2.2.2.2 y hy)
    simp only [sameF, Bool.and_eq_true, decide_eq_true_eq, h1, V.mk.injEq, and_assoc]
theorem sameL_len {f : V → V → Bool} : ∀ (a b : List V), a.length ≠ b.length → sameL f a b = false
  | [], [], h => absurd rfl h
  | [], _ :: _, _ => rfl
  | _ :: _, [], _ => rfl
  | x :: a, y :: b, h => by
    simp only [sameL, sameL_len a b (by simpa using h), Bool.and_false]
end Go.Val
namespace Go.Proofs.Ytoddjdajjmcliaa
open Go.RowKit Go.Mem Go.Val

theorem strv_eq (a b : ByteArray) : (a.toList == b.toList) = decide (a = b) := by
  rw [ByteArray.toList_eq, ByteArray.toList_eq, Bool.eq_iff_iff]
  simp only [beq_iff_eq, decide_eq_true_eq]
  exact ⟨fun h => Go.WideShapes.bytes_inj h, fun h => by rw [h]⟩

def SVal (d : Nat) : Prop := ∀ (x y : V) (cs ds : List Value) (w : World), VCells d w Any cs x → VCells d w Any ds y →
  Calls Try.prog 17 #[.agg cs.toArray, .agg ds.toArray] w fun e w' => e = .returned (.bool (sameF d x y)) ∧ Below w.heap.size w w'

set_option maxRecDepth 100000 in
set_option maxHeartbeats 1000000 in
theorem eqfv_any (d : Nat) (hsv : SVal d) (A B : Option Addr) (n m c e : Nat) (l k : List V) (vss uss : List (List Value)) (w : World) (hn : n = l.length) (hm : m = k.length) (hn2 : n ≤ 4194304)
    (hr : Reads w Any 4 A n vss.flatten) (ha : All2 (VCells d w Any) vss l) (hr' : Reads w Any 4 B m uss.flatten) (ha' : All2 (VCells d w Any) uss k) :
    Calls Try.prog 31 #[.slice A n c, .slice B m e, .func (.func 17) #[] #[]] w fun e w' => e = .returned (.bool (sameL (sameF d) l k)) ∧ Below w.heap.size w w' := by
  have Hn := Lib.hid hn
  have Hm := Lib.hid hm
  have Hsv := Lib.hid hsv
  clear hn hm hsv
  by_cases hnm : n = m
  · subst hnm
    have d1 : ((n : Int) != (n : Int)) = false := by simp
    go_enter Try.func31, Try.ntmps31
    go_wp2_with (fail)
    go_loopw [17] (fun i wr => ∃ j : Nat, j ≤ n ∧ i = .int .i64 j ∧ Hid (sameL (sameF d) l k = sameL (sameF d) (l.drop j) (k.drop j)) ∧ Below w.heap.size w wr) (fun i _ => n - (intOf i).toNat)
    case atStart => exact ⟨0, Nat.zero_le _, rfl, by unfold Hid; simp, Below.refl _ _⟩
    case round =>
      obtain ⟨j, hj, rfl, hcur, hbe⟩ := hrel
      by_cases hlt : j < n
      · have hjl : j < l.length := by have := Hn.out; omega
        have hjk : j < k.length := by have := Hm.out; omega
        obtain ⟨b, off, cs, rfl, hD, hv, hcell⟩ := hr.elem (VCells.stable d) ha Hn.out hjl
        obtain ⟨b', off', cs', rfl, hD', hv', hcell'⟩ := hr'.elem (VCells.stable d) ha' Hm.out hjk
        have hsame : Same Any w wr := Same.any hbe
        have hv2 := hv.keep hsame
        have hv2' := hv'.keep hsame
        generalize hxx : l[j] = X at hv hv2
        generalize hyy : k[j] = Y at hv' hv2'
        have HX : Hid (l.drop j = X :: l.drop (j + 1)) := by unfold Hid; rw [List.drop_eq_getElem_cons hjl, hxx]
        have HY : Hid (k.drop j = Y :: k.drop (j + 1)) := by unfold Hid; rw [List.drop_eq_getElem_cons hjk, hyy]
        clear hxx hyy
        obtain ⟨xk, xn, xt, xa⟩ := X
        obtain ⟨yk, yn, yt, ya⟩ := Y
        obtain ⟨A4, c4, rfl⟩ := hv.form
        obtain ⟨B4, e4, rfl⟩ := hv'.form
        simp only [V.kind, V.num, V.text, V.args] at hcell hv hv2 hcell' hv' hv2'
        have g0 := hsame.cell hD (hcell 0 _ rfl)
        have g1 := hsame.cell hD (hcell 1 _ rfl)
        have g2 := hsame.cell hD (hcell 2 _ rfl)
        have g3 := hsame.cell hD (hcell 3 _ rfl)
        have p0 := hsame.cell hD' (hcell' 0 _ rfl)
        have p1 := hsame.cell hD' (hcell' 1 _ rfl)
        have p2 := hsame.cell hD' (hcell' 2 _ rfl)
        have p3 := hsame.cell hD' (hcell' 3 _ rfl)
        simp only [Nat.add_zero, ← Nat.add_assoc] at g0 g1 g2 g3 p0 p1 p2 p3
        have l4 := lt_of_cell g0
        have l5 := lt_of_cell p0
        clear hcell hcell'
        go_wp2_with (fail)
        refine (Hsv.out (V.mk xk xn xt xa) (V.mk yk yn yt ya) [.int .i64 xk, .int .i64 xn, .string xt, .slice A4 xa.length c4] [.int .i64 yk, .int .i64 yn, .string yt, .slice B4 ya.length e4] _ ((hv2.keep (Same.alloc _ _ _)).keep (Same.alloc _ _ _)) ((hv2'.keep (Same.alloc _ _ _)).keep (Same.alloc _ _ _))).mono ?_
        rintro e w2 ⟨rfl, hb2⟩
        have hstep : Hid (sameL (sameF d) l k = (sameF d (V.mk xk xn xt xa) (V.mk yk yn yt ya) && sameL (sameF d) (l.drop (j + 1)) (k.drop (j + 1)))) := by
          unfold Hid
          rw [hcur.out, HX.out, HY.out]
          rfl
        have hbe2 : Below w.heap.size w w2 := ((hbe.alloc hbe.size _).alloc (by have := hbe.size; simp; omega) _).trans (hb2.mono (by have := hbe.size; simp; omega))
        generalize sameF d (V.mk xk xn xt xa) (V.mk yk yn yt ya) = R at hstep ⊢
        clear hv hv2 g0 g1 g2 g3 hv' hv2' p0 p1 p2 p3 hcur HX HY
        cases R with
        | true =>
          go_wp2_with (fail)
          refine ⟨⟨j + 1, by omega, by go_num, ?_, hbe2⟩, by simp [intOf]; omega⟩
          unfold Hid
          rw [hstep.out]
          rfl
        | false =>
          go_wp2_with (fail)
          go_ret
          rw [hstep.out]
          exact ⟨rfl, hbe2⟩
      · go_wp2
        go_ret
        rw [hcur.out, List.drop_of_length_le (by have := Hn.out; omega), List.drop_of_length_le (by have := Hm.out; omega)]
        exact ⟨rfl, hbe⟩
  · have hf : Hid (sameL (sameF d) l k = false) := sameL_len l k (by have := Hn.out; have := Hm.out; omega)
    have d1 : ((n : Int) != (m : Int)) = true := by simp; omega
    go_enter Try.func31, Try.ntmps31
    go_wp2_with (fail)
    go_ret
    rw [hf.out]
    exact ⟨rfl, Below.refl _ _⟩

set_option maxRecDepth 100000 in
set_option maxHeartbeats 1000000 in
theorem samev_any : ∀ d, SVal d
  | 0 => fun x y cs ds w h _ => h.elim
  | d + 1 => by
    intro x y cs ds w hv hv'
    have ih := samev_any d
    have IH := Lib.hid ih
    clear ih
    obtain ⟨xk, xn, xt, xa⟩ := x
    obtain ⟨yk, yn, yt, ya⟩ := y
    obtain ⟨A, c, vss, rfl, hk, hn, ht, hal, hac, hcm, hr, ha⟩ := hv
    obtain ⟨B, e, uss, rfl, hk', hn', ht', hal', hac', hcm', hr', ha'⟩ := hv'
    have hbel : Below w.heap.size w ((w.alloc (.cells #[.int .i64 xk, .int .i64 xn, .string xt, .slice A xa.length c] 47)).alloc (.cells #[.int .i64 yk, .int .i64 yn, .string yt, .slice B ya.length e] 47)) := ((Below.refl _ _).alloc (Nat.le_refl _) _).alloc (by simp) _
    have HB := Lib.hid hbel
    clear hbel
    by_cases e1 : xk = yk
    · subst e1
      by_cases e2 : xn = yn
      · subst e2
        by_cases e3 : xt = yt
        · subst e3
          have hf : Hid (sameF (d + 1) (V.mk xk xn xt xa) (V.mk xk xn xt ya) = sameL (sameF d) xa ya) := by unfold Hid sameF; simp
          have q3 : (xt.toList == xt.toList) = true := by rw [strv_eq]; simp
          go_enter Try.func17, Try.ntmps17
          go_wp2_with (fail)
          have hb := HB.out
          generalize ((w.alloc (.cells #[.int .i64 xk, .int .i64 xn, .string xt, .slice A xa.length c] 47)).alloc (.cells #[.int .i64 xk, .int .i64 xn, .string xt, .slice B ya.length e] 47)) = W at hb ⊢
          refine (eqfv_any d IH.out A B xa.length ya.length c e xa ya vss uss W rfl rfl hal (hr.keep (Same.any hb)) (ha.imp fun _ _ h => h.keep (Same.any hb)) (hr'.keep (Same.any hb)) (ha'.imp fun _ _ h => h.keep (Same.any hb))).mono ?_
          rintro e1 w1 ⟨rfl, hb1⟩
          have hw1 : Below w.heap.size w w1 := hb.trans (hb1.mono hb.size)
          rw [← hf.out]
          generalize hR : sameF (d + 1) (V.mk xk xn xt xa) (V.mk xk xn xt ya) = R
          have HR := Lib.hid hR
          clear hR
          go_wp2_with (fail)
          go_ret
          rw [HR.out]
          exact ⟨by simp, hw1⟩
        · have hf : Hid (sameF (d + 1) (V.mk xk xn xt xa) (V.mk xk xn yt ya) = false) := by unfold Hid sameF; simp [e3]
          have q3 : (xt.toList == yt.toList) = false := by rw [strv_eq]; simp [e3]
          go_enter Try.func17, Try.ntmps17
          go_wp2_with (fail)
          go_ret
          rw [hf.out]
          exact ⟨rfl, HB.out⟩
      · have hf : Hid (sameF (d + 1) (V.mk xk xn xt xa) (V.mk xk yn yt ya) = false) := by unfold Hid sameF; simp [e2]
        have q2 : (xn == yn) = false := by simpa using e2
        clear e2
        go_enter Try.func17, Try.ntmps17
        go_wp2_with (fail)
        go_ret
        rw [hf.out]
        exact ⟨rfl, HB.out⟩
    · have hf : Hid (sameF (d + 1) (V.mk xk xn xt xa) (V.mk yk yn yt ya) = false) := by unfold Hid sameF; simp [e1]
      have q1 : (xk == yk) = false := by simpa using e1
      clear e1
      go_enter Try.func17, Try.ntmps17
      go_wp2_with (fail)
      go_ret
      rw [hf.out]
      exact ⟨rfl, HB.out⟩
end Go.Proofs.Ytoddjdajjmcliaa
set_option linter.unusedVariables false
namespace Go.Sh
open Go.Val Go.Mem Go.Proofs.Ytoddjdajjmcliaa
/-- a field that both have has the value that it had -/
theorem keeps_law {P Q : List Dt} {I I' : List Nat} {fl : List Fld} {S : List V} (h9 : ∀ i ∈ I, i < 9) (h9' : ∀ i ∈ I', i < 9) (hn : I.Nodup) (hS : S.length = I.length) (h : PlanOf P Q I I' (some fl)) {i k : Nat} (hi : i < I.length) (hk : k < I'.length) (he : nmF I[i] = nmF I'[k]) : (turnF S fl)[k]? = S[i]? := by
  have e1 : I[i] = I'[k] := nmF_inj (h9 _ (List.getElem_mem hi)) (h9' _ (List.getElem_mem hk)) he
  obtain ⟨f, hf, hc⟩ := h.2 k I'[k] (List.getElem?_eq_getElem hk)
  have e2 : (turnF S fl)[k]? = some (if 0 ≤ f.src then S.getD f.src.toNat zeroV else f.val) := by
    unfold turnF
    rw [List.getElem?_map, hf]
    rfl
  rw [e2]
  rcases hc with ⟨j, hj, rfl, _⟩ | ⟨hm, _⟩
  · have hjl := (List.getElem?_eq_some_iff.1 hj).1
    have hij : j = i := by
      have h1 : I[j] = I[i] := by
        rw [List.getElem?_eq_getElem hjl] at hj
        injection hj with hj
        rw [hj, e1]
      rcases Nat.lt_trichotomy j i with h | h | h
      · exact absurd h1 (List.pairwise_iff_getElem.1 hn j i hjl hi h)
      · exact h
      · exact absurd h1.symm (List.pairwise_iff_getElem.1 hn i j hi hjl h)
    subst hij
    show some (if (0 : Int) ≤ (j : Int) then S.getD (j : Int).toNat zeroV else zeroV) = S[j]?
    rw [if_pos (by omega), Int.toNat_natCast, List.getD_eq_getElem?_getD, List.getElem?_eq_getElem (by omega)]
    rfl
  · exact absurd (by rw [← e1]; exact List.getElem_mem hi) hm
theorem turnF_len (S : List V) (fl : List Fld) : (turnF S fl).length = fl.length := by unfold turnF; rw [List.length_map]
end Go.Sh
namespace Go.Proofs.Ytoddjdajjmcliaa
open Go.RowKit Go.Mem Go.Sh Go.Maps Go.Val
set_option maxRecDepth 100000 in
set_option maxHeartbeats 16000000 in
theorem renewKeeps_any (w : World) (x0 x1 : Int) (h0 : I64 x0) (h1 : I64 x1) (Lp : Option Addr) (ln cl : Nat) (l : List Int) (hl : NsAt w Lp ln cl l) :
    Calls Try.prog 7 #[.int .i64 x0, .int .i64 x1, .slice Lp ln cl] w fun e w' => e = .returned (.bool true) ∧ Below w.heap.size w w' := by
  have P0 := Lib.hid (programOf_any x0 w h0)
  have P1 := Lib.hid (fun W => programOf_any x1 W h1)
  have HI := Lib.hid hl
  clear h0 h1 hl
  go_enter Try.func7, Try.ntmps7
  go_wp2_with (fail)
  refine P0.out.mono ?_
  unfold PgPost
  rintro e w1 ⟨hb1, p, y, bad, q, bits, rfl, hy, hq, hbits, hp⟩
  obtain ⟨A, n, c, bc, e, ad, cn, At, ct, m, rfl, hpx⟩ := hp.x hy hq hbits
  generalize idxF bits 9 = I at hpx
  have HX1 := Lib.hid hpx
  have HB1 := Lib.hid hb1
  clear hp hy hq hbits hb1 hpx P0
  unfold Pg.cells pvs
  go_wp2_with (fail)
  refine (P1.out w1).mono ?_
  unfold PgPost
  rintro e w2 ⟨hb2, p', y', bad', q', bits', rfl, hy', hq', hbits', hp'⟩
  obtain ⟨A', n', c', bc', e', ad', cn', At', ct', m', rfl, hpx'⟩ := hp'.x hy' hq' hbits'
  generalize idxF bits' 9 = I' at hpx'
  have HX2 := Lib.hid (And.intro (HX1.out.below hb2) hpx')
  have HB2 := Lib.hid (HB1.out.trans (hb2.mono HB1.out.size))
  clear hp' hy' hq' hbits' hb2 hpx' P1 HX1 HB1
  unfold Pg.cells pvs
  go_upto_region 2 with (fail)
  obtain ⟨u1, hu1⟩ : ∃ u, u = w2.alloc (.cells #[str [109], .int .i64 1, .slice none 0 0, .slice A n c, .slice none 0 0, .slice none 0 0, .slice none 0 0, .slice (some ⟨bc, 0, none⟩) 1 e] 29) := ⟨_, rfl⟩
  have zu1 : u1.heap.size = w2.heap.size + 1 := by rw [hu1]; simp
  have hbu1 : Below w2.heap.size w2 u1 := by rw [hu1]; exact (Below.refl _ _).alloc (Nat.le_refl _) _
  have fPB : Blk u1 (w2.heap.size) 29 [str [109], .int .i64 1, .slice none 0 0, .slice A n c, .slice none 0 0, .slice none 0 0, .slice none 0 0, .slice (some ⟨bc, 0, none⟩) 1 e] := by rw [hu1]; have h := Blk.new w2 29 [str [109], .int .i64 1, .slice none 0 0, .slice A n c, .slice none 0 0, .slice none 0 0, .slice none 0 0, .slice (some ⟨bc, 0, none⟩) 1 e]; exact h
  obtain ⟨u2, hu2⟩ : ∃ u, u = u1.alloc (.cells #[str [109], .int .i64 1, .slice none 0 0, .slice A' n' c', .slice none 0 0, .slice none 0 0, .slice none 0 0, .slice (some ⟨bc', 0, none⟩) 1 e'] 29) := ⟨_, rfl⟩
  have zu2 : u2.heap.size = w2.heap.size + 1 + 1 := by rw [hu2]; simp [zu1]
  have hbu2 : Below w2.heap.size w2 u2 := by rw [hu2]; exact hbu1.alloc hbu1.size _
  replace fPB := fPB.alloc (.cells #[str [109], .int .i64 1, .slice none 0 0, .slice A' n' c', .slice none 0 0, .slice none 0 0, .slice none 0 0, .slice (some ⟨bc', 0, none⟩) 1 e'] 29)
  rw [← hu2] at fPB
  have fQB : Blk u2 (w2.heap.size + 1) 29 [str [109], .int .i64 1, .slice none 0 0, .slice A' n' c', .slice none 0 0, .slice none 0 0, .slice none 0 0, .slice (some ⟨bc', 0, none⟩) 1 e'] := by rw [hu2]; have h := Blk.new u1 29 [str [109], .int .i64 1, .slice none 0 0, .slice A' n' c', .slice none 0 0, .slice none 0 0, .slice none 0 0, .slice (some ⟨bc', 0, none⟩) 1 e']; rw [zu1] at h; exact h
  rw [← hu1, ← hu2]
  obtain ⟨QB, zQB⟩ : ∃ b, b = w2.heap.size + 1 := ⟨_, rfl⟩
  obtain ⟨PB, zPB⟩ : ∃ b, b = w2.heap.size := ⟨_, rfl⟩
  rw [← zQB, ← zPB]
  rw [← zPB] at fPB
  rw [← zQB] at fQB
  clear hu1 hu2
  have HX := Lib.hid (And.intro (HX2.out.1.below hbu2) (HX2.out.2.below hbu2))
  have HB := Lib.hid (And.intro (HB2.out.trans (hbu2.mono HB2.out.size)) (And.intro fPB fQB))
  have hI9 : ∀ i ∈ I, i < 9 := by obtain ⟨bits, h, _⟩ := HX2.out.1.idx; rw [h]; exact fun i hi => idxF_lt bits 9 i hi
  have hI9' : ∀ i ∈ I', i < 9 := by obtain ⟨bits, h, _⟩ := HX2.out.2.idx; rw [h]; exact fun i hi => idxF_lt bits 9 i hi
  have hnd : I.Nodup := by obtain ⟨bits, h, _⟩ := HX2.out.1.idx; rw [h]; exact idxF_nodup bits 9
  obtain ⟨R, hR, hpo⟩ := flds_law (pd_mem HX2.out.1.y12 bad) (pd_mem HX2.out.2.y12 bad') hI9 hI9'
  obtain ⟨R0, hR0, hpo0⟩ := flds_law (pd_mem HX2.out.1.y12 bad) (pd_mem HX2.out.1.y12 bad) hI9 hI9
  obtain ⟨fl0, rfl⟩ := plan_self (pd_mem HX2.out.1.y12 bad) hpo0
  have CW := Lib.hid (way_any u2 A n c bc e y bad ad cn At ct q m I A' n' c' bc' e' y' bad' ad' cn' At' ct' q' m' I' R HX.out.1 HX.out.2 hR)
  have CW0 := Lib.hid (fun W (hW : Below u2.heap.size u2 W) => way_any W A n c bc e y bad ad cn At ct q m I A n c bc e y bad ad cn At ct q m I (some fl0) (HX.out.1.below hW) (HX.out.1.below hW) hR0)
  have hpR : planR q q (some fl0) = some fl0 := by unfold planR; rw [if_pos rfl]
  rw [hpR] at CW0
  have HPO := Lib.hid (And.intro hpo (And.intro hI9 (And.intro hI9' hnd)))
  have g0 := fPB.cell 0
  have g1 := fPB.cell 1
  have g2 := fPB.cell 2
  have g3 := fPB.cell 3
  have g4 := fPB.cell 4
  have g5 := fPB.cell 5
  have g6 := fPB.cell 6
  have g7 := fPB.cell 7
  have lg := fPB.lt
  simp only [List.getElem?_cons_zero, List.getElem?_cons_succ] at g0 g1 g2 g3 g4 g5 g6 g7
  have i0 := fQB.cell 0
  have i1 := fQB.cell 1
  have i2 := fQB.cell 2
  have i3 := fQB.cell 3
  have i4 := fQB.cell 4
  have i5 := fQB.cell 5
  have i6 := fQB.cell 6
  have i7 := fQB.cell 7
  have li := fQB.lt
  simp only [List.getElem?_cons_zero, List.getElem?_cons_succ] at i0 i1 i2 i3 i4 i5 i6 i7
  clear fPB fQB zPB zQB zu1 zu2 hbu1 hbu2 hR hpo hI9 hI9' hnd hR0 hpo0 hpR HX2 HB2
  generalize u2 = W2 at *
  have hcase : planR q q' R = none ∨ ∃ fl, planR q q' R = some fl ∧ R = some fl := by
    unfold planR
    by_cases h : q = q'
    · rw [if_pos h]
      cases R with
      | none => exact .inl rfl
      | some fl => exact .inr ⟨fl, rfl, rfl⟩
    · rw [if_neg h]; exact .inl rfl
  have HCA := Lib.hid hcase
  clear hcase
  generalize hRR : planR q q' R = R2 at CW HCA
  clear hRR
  cases R2 with
  | none =>
    go_upto_region 3 with (go_at_call 19; refine CW.out.mono ?_; unfold WayPost; rintro e w3 ⟨rfl, hb3⟩; have H3 := Lib.hid hb3; clear hb3)
    have hb34 : Below w3.heap.size w3 (w3.alloc (.cells #[.slice none 0 0] 60)) := (Below.refl _ _).alloc (Nat.le_refl _) _
    have hb24 := H3.out.trans (hb34.mono H3.out.size)
    have fPB4 := HB.out.2.1.below hb24 HB.out.2.1.lt
    have H4 := Lib.hid hb24
    clear hb34 hb24 g0 g1 g2 g3 g4 g5 g6 g7 lg i0 i1 i2 i3 i4 i5 i6 i7 li
    have k0 := fPB4.cell 0
    have k1 := fPB4.cell 1
    have k2 := fPB4.cell 2
    have k3 := fPB4.cell 3
    have k4 := fPB4.cell 4
    have k5 := fPB4.cell 5
    have k6 := fPB4.cell 6
    have k7 := fPB4.cell 7
    have lk := fPB4.lt
    simp only [List.getElem?_cons_zero, List.getElem?_cons_succ] at k0 k1 k2 k3 k4 k5 k6 k7
    clear fPB4
    generalize w3.alloc (.cells #[.slice none 0 0] 60) = W4 at *
    go_wp2_with (go_at_call 19; refine (CW0.out _ H4.out).mono ?_; unfold WayPost; rintro e w5 ⟨⟨M0, cM0, rfl, _⟩, hb5⟩; have H5 := Lib.hid hb5; clear hb5)
    go_ret
    exact ⟨rfl, below_allocR ((HB.out.1.trans (H4.out.mono HB.out.1.size)).trans (H5.out.mono (HB.out.1.trans (H4.out.mono HB.out.1.size)).size)) _⟩
  | some fl =>
    have hRe : R = some fl := by
      rcases HCA.out with h | ⟨fl', h1, h2⟩
      · cases h
      · injection h1 with h1; rw [h2, h1]
    subst hRe
    have hok := plan_ok (by have := HX.out.1.len; omega) HPO.out.1
    rw [← HX.out.1.len.1] at hok
    have HOK := Lib.hid hok
    clear hok HCA
    go_upto_region 3 with (go_at_call 19; refine CW.out.mono ?_; unfold WayPost; rintro e w3 ⟨⟨M, cM, rfl, hway⟩, hb3⟩; have H3 := Lib.hid (And.intro hway hb3); clear hway hb3)
    obtain ⟨W4, hWW4⟩ : ∃ W, W = w3.alloc (.cells #[.slice M 1 cM] 60) := ⟨_, rfl⟩
    obtain ⟨WB, hBWB⟩ : ∃ b, b = w3.heap.size := ⟨_, rfl⟩
    have fWB : Blk W4 WB 60 [.slice M 1 cM] := by rw [hWW4, hBWB]; exact Blk.new _ _ _
    have hbW4 : Below w3.heap.size w3 W4 := by rw [hWW4]; exact (Below.refl _ _).alloc (Nat.le_refl _) _
    rw [← hWW4, ← hBWB]
    have hb24 := H3.out.2.trans (hbW4.mono H3.out.2.size)
    have fPB4 := HB.out.2.1.below hb24 HB.out.2.1.lt
    have fQB4 := HB.out.2.2.below hb24 HB.out.2.2.lt
    have HWY := Lib.hid ((H3.out.1.imp (D' := Any) fun _ _ _ => trivial).keep (Same.any hbW4))
    have H4 := Lib.hid (And.intro hb24 (And.intro fPB4 (And.intro fQB4 fWB)))
    clear hb24 hbW4 hWW4 hBWB fWB fQB4 g0 g1 g2 g3 g4 g5 g6 g7 lg i0 i1 i2 i3 i4 i5 i6 i7 li
    have k0 := fPB4.cell 0
    have k1 := fPB4.cell 1
    have k2 := fPB4.cell 2
    have k3 := fPB4.cell 3
    have k4 := fPB4.cell 4
    have k5 := fPB4.cell 5
    have k6 := fPB4.cell 6
    have k7 := fPB4.cell 7
    have lk := fPB4.lt
    simp only [List.getElem?_cons_zero, List.getElem?_cons_succ] at k0 k1 k2 k3 k4 k5 k6 k7
    clear fPB4
    go_upto_region 4 with (go_at_call 19; refine (CW0.out _ H4.out.1).mono ?_; unfold WayPost; rintro e w5 ⟨⟨M0, cM0, rfl, _⟩, hb5⟩; have H5 := Lib.hid hb5; clear hb5)
    obtain ⟨W6, hWW6⟩ : ∃ W, W = w5.alloc (.cells #[.slice M0 1 cM0] 60) := ⟨_, rfl⟩
    obtain ⟨VB, hBVB⟩ : ∃ b, b = w5.heap.size := ⟨_, rfl⟩
    have fVB : Blk W6 VB 60 [.slice M0 1 cM0] := by rw [hWW6, hBVB]; exact Blk.new _ _ _
    have hbW6 : Below w5.heap.size w5 W6 := by rw [hWW6]; exact (Below.refl _ _).alloc (Nat.le_refl _) _
    rw [← hWW6, ← hBVB]
    have hb46 := H5.out.trans (hbW6.mono H5.out.size)
    have fPB6 := H4.out.2.1.below hb46 H4.out.2.1.lt
    have H6 := Lib.hid (And.intro hb46 (And.intro fPB6 (And.intro (H4.out.2.2.1.below hb46 H4.out.2.2.1.lt) (H4.out.2.2.2.below hb46 H4.out.2.2.2.lt))))
    have vv0 := fVB.cell 0
    have lvv := fVB.lt
    simp only [List.getElem?_cons_zero] at vv0
    have hb26 := H4.out.1.trans (hb46.mono H4.out.1.size)
    have HXw := Lib.hid (And.intro (HX.out.1.below hb26) (HX.out.2.below hb26))
    have HBw := Lib.hid (HB.out.1.trans (hb26.mono HB.out.1.size))
    have HWY6 := Lib.hid (HWY.out.keep (Same.any hb46))
    have CS := Lib.hid (savedFor_any W6 A n c bc e y bad ad cn At ct q m I Lp ln cl l HXw.out.1 (HI.out.keep (Same.any HBw.out)))
    clear hWW6 hBVB hbW6 fVB hb46 hb26 k0 k1 k2 k3 k4 k5 k6 k7 lk
    have k0 := fPB6.cell 0
    have k1 := fPB6.cell 1
    have k2 := fPB6.cell 2
    have k3 := fPB6.cell 3
    have k4 := fPB6.cell 4
    have k5 := fPB6.cell 5
    have k6 := fPB6.cell 6
    have k7 := fPB6.cell 7
    have lk := fPB6.lt
    simp only [List.getElem?_cons_zero, List.getElem?_cons_succ] at k0 k1 k2 k3 k4 k5 k6 k7
    clear fPB6
    go_upto_region 9 with (go_at_call 20; refine CS.out.mono ?_; unfold SvPost; rintro e w7 ⟨S, hst, ⟨A5, c5, rfl, hvs⟩, hb7⟩; have H7 := Lib.hid (And.intro hst (And.intro hvs hb7)); clear hst hvs hb7)
    obtain ⟨W8, hWW8⟩ : ∃ W, W = w7.alloc (.cells #[str [65], .slice A5 m c5, .slice none 0 0] 65) := ⟨_, rfl⟩
    obtain ⟨SB, hBSB⟩ : ∃ b, b = w7.heap.size := ⟨_, rfl⟩
    have fSB : Blk W8 SB 65 [str [65], .slice A5 m c5, .slice none 0 0] := by rw [hWW8, hBSB]; exact Blk.new _ _ _
    have hbW8 : Below w7.heap.size w7 W8 := by rw [hWW8]; exact (Below.refl _ _).alloc (Nat.le_refl _) _
    rw [← hWW8, ← hBSB]
    have hb68 := H7.out.2.2.trans (hbW8.mono H7.out.2.2.size)
    have fWB8 := H6.out.2.2.2.below hb68 H6.out.2.2.2.lt
    have HX8 := Lib.hid (And.intro (HXw.out.1.below hb68) (HXw.out.2.below hb68))
    have HB8 := Lib.hid (HBw.out.trans (hb68.mono HBw.out.size))
    have HWY8 := Lib.hid (HWY6.out.keep (Same.any hb68))
    have HS8 := Lib.hid ((H7.out.2.1.imp (D' := Any) fun _ _ _ => trivial).keep (Same.any hbW8))
    have H8 := Lib.hid (And.intro (H6.out.2.1.below hb68 H6.out.2.1.lt) (And.intro (H6.out.2.2.1.below hb68 H6.out.2.2.1.lt) fSB))
    have wb0 := fWB8.cell 0
    have lwb := fWB8.lt
    simp only [List.getElem?_cons_zero] at wb0
    have CT := Lib.hid (show Calls Try.prog 21 #[.agg #[str [65], .slice A5 m c5, .slice none 0 0], .agg #[.slice M 1 cM]] W8 (TurnPost W8 (turnF S fl)) from by
      obtain ⟨F, cF, Ls, cL, r1, r2, r3⟩ := HWY8.out
      exact turn_ok W8 A5 c5 S none 0 M cM m F fl.length cF Ls _ cL fl _ r1 r3 HOK.out HS8.out)
    have hSl : S.length = I.length := by have := H7.out.1.1; simpa using this
    have hXl : (turnF S fl).length = m' := by rw [turnF_len, HPO.out.1.1]; exact HX.out.2.len.1.symm
    have HSL := Lib.hid (And.intro hSl hXl)
    have hkl : ∀ (i k : Nat) (hi : i < I.length) (hk : k < I'.length), nmF I[i] = nmF I'[k] → (turnF S fl)[k]? = S[i]? := fun i k hi hk he => keeps_law HPO.out.2.1 HPO.out.2.2.1 HPO.out.2.2.2 hSl HPO.out.1 hi hk he
    generalize hX : turnF S fl = X at CT HSL hkl
    have HKL := Lib.hid hkl
    have CT2 := CT.out
    unfold TurnPost at CT2
    rw [HSL.out.2] at CT2
    have CT3 := Lib.hid CT2
    clear CT CT2 hX hSl hXl hkl fWB8 vv0 lvv hWW8 hBSB hbW8 hb68 k0 k1 k2 k3 k4 k5 k6 k7 lk
    have s0 := fSB.cell 0
    have s1 := fSB.cell 1
    have s2 := fSB.cell 2
    have ls := fSB.lt
    simp only [List.getElem?_cons_zero, List.getElem?_cons_succ] at s0 s1 s2
    clear fSB
    go_upto_region 10 with (go_at_call 21; refine CT3.out.mono ?_; rintro e w9 ⟨⟨A7, c7, rfl, hxs⟩, hb9⟩; have H9 := Lib.hid (And.intro hxs hb9); clear hxs hb9)
    obtain ⟨W10, hWW10⟩ : ∃ W, W = w9.alloc (.cells #[str [65], .slice A7 m' c7, .slice none 0 0] 65) := ⟨_, rfl⟩
    obtain ⟨XB, hBXB⟩ : ∃ b, b = w9.heap.size := ⟨_, rfl⟩
    have fXB : Blk W10 XB 65 [str [65], .slice A7 m' c7, .slice none 0 0] := by rw [hWW10, hBXB]; exact Blk.new _ _ _
    have hbW10 : Below w9.heap.size w9 W10 := by rw [hWW10]; exact (Below.refl _ _).alloc (Nat.le_refl _) _
    rw [← hWW10, ← hBXB]
    have hb80 := H9.out.2.trans (hbW10.mono H9.out.2.size)
    have HX10 := Lib.hid (And.intro (HX8.out.1.below hb80) (HX8.out.2.below hb80))
    have HB10 := Lib.hid (HB8.out.trans (hb80.mono HB8.out.size))
    have HS10 := Lib.hid (HS8.out.keep (Same.any hb80))
    have HXS := Lib.hid ((H9.out.1.imp (D' := Any) fun _ _ _ => trivial).keep (Same.any hbW10))
    have H10 := Lib.hid (And.intro (H8.out.1.below hb80 H8.out.1.lt) (And.intro (H8.out.2.1.below hb80 H8.out.2.1.lt) (And.intro (H8.out.2.2.below hb80 H8.out.2.2.lt) fXB)))
    have cP := H10.out.1.cell 7
    have cQ := H10.out.2.1.cell 7
    have cS := H10.out.2.2.1.cell 1
    have cX := fXB.cell 1
    have lP := H10.out.1.lt
    have lQ := H10.out.2.1.lt
    have lS := H10.out.2.2.1.lt
    have lX := fXB.lt
    have bP := HX10.out.1.act.cell 1
    have bQ := HX10.out.2.act.cell 1
    have lbP := HX10.out.1.act.lt
    have lbQ := HX10.out.2.act.lt
    simp only [acell, List.getElem?_cons_zero, List.getElem?_cons_succ] at cP cQ cS cX bP bQ
    have HC := Lib.hid (And.intro cP (And.intro cQ (And.intro cS (And.intro cX (And.intro bP bQ)))))
    have HLL := Lib.hid (And.intro lP (And.intro lQ (And.intro lS (And.intro lX (And.intro lbP lbQ)))))
    have d1 : ((m' : Int) != (m' : Int)) = false := by simp
    have d1' : (m' != m') = false := by simp
    clear hWW10 hBXB hbW10 fXB hb80 wb0 lwb s0 s1 s2 ls
    have MK := Lib.hid (show ∀ w', Below W10.heap.size W10 w' → (Below W10.heap.size W10 w' ∧ w'.cell? ⟨PB, 7, none⟩ = some (.slice (some ⟨bc, 0, none⟩) 1 e) ∧ w'.cell? ⟨QB, 7, none⟩ = some (.slice (some ⟨bc', 0, none⟩) 1 e') ∧ w'.cell? ⟨SB, 1, none⟩ = some (.slice A5 m c5) ∧ w'.cell? ⟨XB, 1, none⟩ = some (.slice A7 m' c7) ∧ w'.cell? ⟨bc, 1, none⟩ = some (.slice (some ad) m cn) ∧ w'.cell? ⟨bc', 1, none⟩ = some (.slice (some ad') m' cn')) from fun w' h => ⟨h, (h.cell (p := ⟨PB, 7, none⟩) (HLL.out.1)).trans (HC.out.1), (h.cell (p := ⟨QB, 7, none⟩) (HLL.out.2.1)).trans (HC.out.2.1), (h.cell (p := ⟨SB, 1, none⟩) (HLL.out.2.2.1)).trans (HC.out.2.2.1), (h.cell (p := ⟨XB, 1, none⟩) (HLL.out.2.2.2.1)).trans (HC.out.2.2.2.1), (h.cell (p := ⟨bc, 1, none⟩) (HLL.out.2.2.2.2.1)).trans (HC.out.2.2.2.2.1), (h.cell (p := ⟨bc', 1, none⟩) (HLL.out.2.2.2.2.2)).trans (HC.out.2.2.2.2.2)⟩)
    go_quiet (fail)
    have hbq : Below W10.heap.size W10 (W10.drewN nq) := ⟨rfl, rfl, rfl, Nat.le_refl _, fun _ _ => rfl⟩
    generalize W10.drewN nq = W11 at hbq ⊢
    have HBQ := Lib.hid hbq
    clear cP cQ cS cX lP lQ lS lX bP bQ lbP lbQ
    obtain ⟨hbaq, aq0, aq1, aq2, aq3, aq4, aq5⟩ := MK.out _ (by assumption)
    have hs11 := hbq.size
    have lP := Nat.lt_of_lt_of_le HLL.out.1 hs11
    have lbP := Nat.lt_of_lt_of_le HLL.out.2.2.2.2.1 hs11
    clear d1 d1'
    have hm6 : m ≤ 6 := HX.out.1.len.2.2
    have hm6' : m' ≤ 6 := HX.out.2.len.2.2
    go_wp2_with (fail)
    clear hbq hbaq aq0 aq1 aq2 aq3 aq4 aq5 lP lbP hs11
    go_loopw [77] (fun v wr => ∃ i : Nat, i ≤ m ∧ v = .int .i64 (i : Nat) ∧ Hid (Below W10.heap.size W10 wr)) (fun v _ => m - (intOf v).toNat)
    case atStart => exact ⟨0, Nat.zero_le _, rfl, HBQ.out⟩
    case round =>
      obtain ⟨i, hi, rfl, HI1⟩ := hrel
      rename World => wo
      by_cases hlt : i < m
      · have hiI : i < I.length := by have := HX.out.1.len; omega
        obtain ⟨b1, o1, u, e1, _, hu, hc⟩ := (HX10.out.1.nr.keep (Same.any HI1.out)).at_ hlt
        have e1' := e1
        injection e1 with e1
        subst e1
        rw [strs_at _ _ (by simpa using hiI), List.getElem_map] at hu
        injection hu with hu
        subst hu
        have hHI := HI1.out
        obtain ⟨hbgq, gq0, gq1, gq2, gq3, gq4, gq5⟩ := MK.out _ (by assumption)
        have hso := hHI.size
        have lQ := Nat.lt_of_lt_of_le HLL.out.2.1 hso
        have lbQ := Nat.lt_of_lt_of_le HLL.out.2.2.2.2.2 hso
        have lc := lt_of_cell hc
        go_wp2_with (fail)
        clear hbgq gq0 gq1 gq2 gq3 gq4 gq5 lQ lbQ lc hso hHI hc
        go_loopw [88] (fun v wr => ∃ k : Nat, k ≤ m' ∧ v = .int .i64 (k : Nat) ∧ Hid (Below W10.heap.size W10 wr)) (fun v _ => m' - (intOf v).toNat)
        case atStart => exact ⟨0, Nat.zero_le _, rfl, HI1.out⟩
        case round =>
          obtain ⟨k, hk, rfl, HI2⟩ := hrel
          by_cases hkt : k < m'
          · have hkI : k < I'.length := by have := HX.out.2.len; omega
            obtain ⟨b2, o2, u, e2, _, hu, hc⟩ := (HX10.out.2.nr.keep (Same.any HI2.out)).at_ hkt
            injection e2 with e2
            subst e2
            rw [strs_at _ _ (by simpa using hkI), List.getElem_map] at hu
            injection hu with hu
            subst hu
            have lc := lt_of_cell hc
            have hkl := HKL.out i k hiI hkI
            have nq := beq_nm (nmF I[i]) (nmF I'[k])
            have HC2 := Lib.hid hc
            by_cases heq : nmF I[i] = nmF I'[k]
            · have hxe := hkl heq
              have hkX : k < X.length := by have := HSL.out.2; omega
              have hiS : i < S.length := by have := HSL.out.1; omega
              rw [List.getElem?_eq_getElem hkX, List.getElem?_eq_getElem hiS] at hxe
              injection hxe with hxe
              obtain ⟨b3, o3, A8, c8, rfl, _, hzv, p0, p1, p2, p3⟩ := (HS10.out.keep (Same.any HI2.out)).elem hlt hiS
              obtain ⟨b4, o4, A9, c9, rfl, _, hxv, q0, q1, q2, q3⟩ := (HXS.out.keep (Same.any HI2.out)).elem hkt hkX
              rw [hxe] at hxv q0 q1 q2 q3
              generalize S[i] = z at hzv p0 p1 p2 p3 hxv q0 q1 q2 q3
              obtain ⟨zk, zn, zt, za⟩ := z
              simp only [V.kind, V.num, V.text, V.args] at hzv p0 p1 p2 p3 hxv q0 q1 q2 q3
              have hsf : Go.Val.sameF 10 (V.mk zk zn zt za) (V.mk zk zn zt za) = true := (Go.Val.sameF_iff 10 _ _ hzv.ok hxv.ok).2 rfl
              have CM := Lib.hid (show ∀ W, Below wr.heap.size wr W → Calls Try.prog 17 #[.agg #[.int .i64 zk, .int .i64 zn, .string zt, .slice A8 za.length c8], .agg #[.int .i64 zk, .int .i64 zn, .string zt, .slice A9 za.length c9]] W (fun e w' => e = .returned (.bool true) ∧ Below W.heap.size W w') from fun W hW => by
                have h := samev_any 10 (V.mk zk zn zt za) (V.mk zk zn zt za) [.int .i64 zk, .int .i64 zn, .string zt, .slice A8 za.length c8] [.int .i64 zk, .int .i64 zn, .string zt, .slice A9 za.length c9] W (hzv.keep (Same.any hW)) (hxv.keep (Same.any hW))
                rw [hsf] at h
                exact h)
              have hHI := HI2.out
              obtain ⟨hbbq, bq0, bq1, bq2, bq3, bq4, bq5⟩ := MK.out _ (by assumption)
              have nq1 : (nmF I[i] == nmF I'[k]) = true := by rw [nq]; exact decide_eq_true heq
              clear nq heq hxe hkl hzv hxv hsf
              generalize nmF I'[k] = n2 at hc nq1 HC2
              generalize nmF I[i] = n1 at nq1
              have g0 := q0
              go_upto_region 18 with (fail)
              have lS' := Nat.lt_of_lt_of_le HLL.out.2.2.1 hHI.size
              have lX' := Nat.lt_of_lt_of_le HLL.out.2.2.2.1 hHI.size
              have l3' := lt_of_cell p0
              have l4' := lt_of_cell q0
              have hcS := bq2
              have hcX := bq3
              have MKF := Lib.hid (show ∀ w', Below wr.heap.size wr w' → (Below wr.heap.size wr w' ∧ w'.cell? ⟨SB, 1, none⟩ = some (.slice (some ⟨b3, o3, none⟩) m c5) ∧ w'.cell? ⟨XB, 1, none⟩ = some (.slice (some ⟨b4, o4, none⟩) m' c7) ∧ w'.cell? ⟨b3, o3 + i * 4, none⟩ = some (.int .i64 zk) ∧ w'.cell? ⟨b3, o3 + i * 4 + 1, none⟩ = some (.int .i64 zn) ∧ w'.cell? ⟨b3, o3 + i * 4 + 2, none⟩ = some (.string zt) ∧ w'.cell? ⟨b3, o3 + i * 4 + 3, none⟩ = some (.slice A8 za.length c8) ∧ w'.cell? ⟨b4, o4 + k * 4, none⟩ = some (.int .i64 zk) ∧ w'.cell? ⟨b4, o4 + k * 4 + 1, none⟩ = some (.int .i64 zn) ∧ w'.cell? ⟨b4, o4 + k * 4 + 2, none⟩ = some (.string zt) ∧ w'.cell? ⟨b4, o4 + k * 4 + 3, none⟩ = some (.slice A9 za.length c9)) from fun w' h => ⟨h, (h.cell (p := ⟨SB, 1, none⟩) (lS')).trans (bq2), (h.cell (p := ⟨XB, 1, none⟩) (lX')).trans (bq3), (h.cell (p := ⟨b3, o3 + i * 4, none⟩) (l3')).trans (p0), (h.cell (p := ⟨b3, o3 + i * 4 + 1, none⟩) (l3')).trans (p1), (h.cell (p := ⟨b3, o3 + i * 4 + 2, none⟩) (l3')).trans (p2), (h.cell (p := ⟨b3, o3 + i * 4 + 3, none⟩) (l3')).trans (p3), (h.cell (p := ⟨b4, o4 + k * 4, none⟩) (l4')).trans (q0), (h.cell (p := ⟨b4, o4 + k * 4 + 1, none⟩) (l4')).trans (q1), (h.cell (p := ⟨b4, o4 + k * 4 + 2, none⟩) (l4')).trans (q2), (h.cell (p := ⟨b4, o4 + k * 4 + 3, none⟩) (l4')).trans (q3)⟩)
              have hbd : Below wr.heap.size wr wr.drew := ⟨rfl, rfl, rfl, Nat.le_refl _, fun _ _ => rfl⟩
              have i0 : (0 : Int) ≤ (i : Int) := by omega
              have i1 : (i : Int) < (m : Int) := by omega
              have i2 : (0 : Int) ≤ (k : Int) := by omega
              have i3 : (k : Int) < (m' : Int) := by omega
              go_region_held3 (fun w' => Below wr.heap.size wr w' ∧ w'.cell? ⟨SB, 1, none⟩ = some (.slice (some ⟨b3, o3, none⟩) m c5) ∧ w'.cell? ⟨XB, 1, none⟩ = some (.slice (some ⟨b4, o4, none⟩) m' c7) ∧ w'.cell? ⟨b3, o3 + i * 4, none⟩ = some (.int .i64 zk) ∧ w'.cell? ⟨b3, o3 + i * 4 + 1, none⟩ = some (.int .i64 zn) ∧ w'.cell? ⟨b3, o3 + i * 4 + 2, none⟩ = some (.string zt) ∧ w'.cell? ⟨b3, o3 + i * 4 + 3, none⟩ = some (.slice A8 za.length c8) ∧ w'.cell? ⟨b4, o4 + k * 4, none⟩ = some (.int .i64 zk) ∧ w'.cell? ⟨b4, o4 + k * 4 + 1, none⟩ = some (.int .i64 zn) ∧ w'.cell? ⟨b4, o4 + k * 4 + 2, none⟩ = some (.string zt) ∧ w'.cell? ⟨b4, o4 + k * 4 + 3, none⟩ = some (.slice A9 za.length c9)) (first | exact MKF.out _ hbd | exact MKF.out _ hbn | (refine MKF.out _ ?_; assumption) | go_keep)
                (first | (go_at_call 17; (with_reducible refine (CM.out _ (by assumption)).mono ?_); rintro e w' ⟨rfl, hbx⟩; have hbn : Below wr.heap.size wr w' := below_nextR hbx (by assumption); clear hbx))
              all_goals
                have HI3 := Lib.hid (HI2.out.trans (hbn.mono HI2.out.size))
                clear hbn
                go_wp2_with (fail)
                exact ⟨⟨k + 1, by omega, by go_num, HI3.out⟩, by simp [intOf]; omega⟩
            · have nq1 : (nmF I[i] == nmF I'[k]) = false := by rw [nq]; exact decide_eq_false heq
              clear nq heq hkl
              generalize nmF I'[k] = n2 at hc nq1 HC2
              generalize nmF I[i] = n1 at nq1
              go_upto_region 18 with (fail)
              go_quiet (fail)
              have hbq : Below wr.heap.size wr (wr.drewN nq) := ⟨rfl, rfl, rfl, Nat.le_refl _, fun _ _ => rfl⟩
              have HI3 := Lib.hid (HI2.out.trans (hbq.mono HI2.out.size))
              generalize wr.drewN nq = w3' at HI3 ⊢
              clear hbq
              go_wp2_with (fail)
              exact ⟨⟨k + 1, by omega, by go_num, HI3.out⟩, by simp [intOf]; omega⟩
          · go_wp2_with (fail)
            exact ⟨⟨i + 1, by omega, by go_num, HI2.out⟩, by simp [intOf]; omega⟩
      · go_wp2_with (fail)
        go_ret
        exact ⟨rfl, HB10.out.trans (HI1.out.mono HB10.out.size)⟩
end Go.Proofs.Ytoddjdajjmcliaa
set_option linter.unusedVariables false
namespace Go.Proofs.Ytoddjdajjmcliaa.renewKeeps
open Go.ChangeShapes Go.WideShapes Go.ChangeAt Go.RowKit Go.Mem Go.Law

theorem own : ownKnob Try.prog.godebug = none := by kernel_rfl
theorem laidOut : laidOutB Try.prog = true := by kernel_rfl

set_option maxRecDepth 100000 in
theorem lifted (os : Os) (started : os.Started) (H : Type) (enc : TypeId × Value → H) :
    ReturnsInHanded {} Try.checked os 7 .any (Rows.renewKeepsSpec.pre6 enc Try.prog Try.f7 Rows.renewKeepsRow.domain false) (Rows.renewKeepsSpec.post enc Try.prog Try.f7 false true false false) := by
  refine returnsInHanded_of_change (C := Try.checked) own started (by kernel_rfl) Try.func7
    (ChangeSpec.witness6 (enc := enc) (C := Try.checked) false ⟨#[], #[.int .i64 0, .int .i64 0, .slice none 0 0], []⟩ 8 (by kernel_rfl) (by kernel_rfl) (by kernel_rfl) (by kernel_rfl)) ?_
  intro W base args ds gs before hval0 hW hcnd _
  have hval : ∀ (j : Nat) t v, Try.f7.params[j]? = some t → args[j]? = some v → Value.okWide Try.prog W .any base t v := hval0
  have hW' : DataW.Whole enc Try.prog Try.f7.params.toList Rows.renewKeepsSpec.vars false W args.toList ds gs before := hW
  obtain ⟨p, q, hA0, hV, rfl, hfz, hnd⟩ := hW
  have hA : DataW.TrodAll enc Try.prog W 0 (fun _ => true) true Try.f7.params.toList args.toList ds p := hA0
  rw [Try.params7] at hA hval
  obtain ⟨v0, vs0, d0, ds0, p0, q0, hargs, rfl, rfl, h0, r0⟩ := trodAll_cons hA
  obtain ⟨v1, vs1, d1, ds1, p1, q1, rfl, rfl, rfl, h1, r1⟩ := trodAll_cons r0
  obtain ⟨v2, vs2, d2, ds2, p2, q2, rfl, rfl, rfl, h2, r2⟩ := trodAll_cons r1
  obtain ⟨rfl, rfl, rfl⟩ := trodAll_nil r2
  obtain rfl : args = #[v0, v1, v2] := by cases args; simp_all
  obtain ⟨rfl, rfl⟩ := trodVars_none hV
  obtain ⟨a0, rfl, rfl, rfl, x0⟩ := open_int Try.underlying3 (hval 0 _ v0 rfl rfl) h0
  have w0 := i64_of_wf x0
  obtain ⟨a1, rfl, rfl, rfl, x1⟩ := open_int Try.underlying3 (hval 1 _ v1 rfl rfl) h1
  have w1 := i64_of_wf x1
  obtain ⟨A2, n2, c2, s2, rfl, hn2, hc2, hd2, hr2, hl2⟩ := open_nums Try.underlying44 Try.underlying3 (by kernel_rfl) (hval 2 _ v2 rfl rfl) h2
  clear hA0 hval0
  refine (renewKeeps_any W a0 a1 w0 w1 A2 n2 c2 s2 ⟨hn2, ⟨hc2, hd2⟩, hr2, hl2⟩).mono fun e W' ⟨he, bel⟩ => ?_
  subst he
  exact ⟨_, rfl, law_post (tb := 4) laidOut Try.underlying4 (by kernel_rfl) (by kernel_rfl) rfl rfl hW' bel⟩

/-- ████ THE STATEMENT ████ -/
theorem proved : Rows.RenewKeepsSaid :=
  OpenClaim.holds_of_wide 7 Try.f7 rfl rfl rfl rfl rfl rfl rfl ⟨rfl, rfl, rfl, rfl, rfl⟩ rfl rfl rfl rfl rfl (by kernel_rfl) Try.func7 (by kernel_rfl)
    (of_decide_eq_true (by kernel_rfl)) (by unfold Func.isWrapper; first | (rw [if_pos (by decide +kernel)]; kernel_rfl) | (rw [if_neg (by decide +kernel)]; exact ⟨rfl, rfl⟩))
    (fun os started H enc _ => lifted os started H enc)
#print axioms proved
end Go.Proofs.Ytoddjdajjmcliaa.renewKeeps
