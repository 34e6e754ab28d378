/- Contract of package move's receive. -/
import Derived.Test.YtckkelppdeampaaHarbOps
import Derived.Test.YtckkelppdeampaaHeldG
set_option linter.unusedVariables false
namespace Go.Proofs.Ytckkelppdeampaa
open Go.RowKit Go.Mem Go.Mv Go.Maps
theorem enc_M : Enc Try.prog 3 encM okM where
  keyed := int_keyed Try.underlying3
  inj := fun a b h => by unfold encM at h; injection h with _ h; omega
  key := fun a h => ⟨_, keyOf_int_mk Try.underlying3 (by unfold okM at h; exact WalkArith.wf_i64 (by omega))⟩
theorem zero_box : ∀ w : World, (zeroValue 55).run Try.prog w = .ok (.pointer none) w := fun _ => by kernel_rfl
theorem zero_in : ∀ w : World, (zeroValue 3).run Try.prog w = .ok (.int .i64 0) w := fun _ => by kernel_rfl
theorem mget_mapv {α β γ : Type} [DecidableEq α] (l : List (α × β)) (f : β → γ) (a : α) : mget (l.map fun p => (p.1, f p.2)) a = (mget l a).map f := by
  induction l with
  | nil => rfl
  | cons p r ih =>
    rw [List.map_cons, mget_cons, ih, mget_cons]
    by_cases h : p.1 = a <;> simp [h]
theorem del_map {α β γ : Type} [DecidableEq α] (l : List (α × β)) (f : β → γ) (a : α) : (mdel l a).map (fun p => (p.1, f p.2)) = mdel (l.map fun p => (p.1, f p.2)) a := by
  unfold mdel
  rw [List.filter_map]
  rfl
theorem len_del {α β : Type} [DecidableEq α] (l : List (α × β)) (a : α) {v : β} (h : mget l a = some v) : (mdel l a).length < l.length := by
  unfold mdel
  have := mget_mem h
  refine List.length_filter_lt_length_iff_exists.2 ⟨_, this, by simp⟩
theorem len_put {α β : Type} [DecidableEq α] (l : List (α × β)) (a : α) (v : β) : (mput l a v).length ≤ l.length + 1 := by
  unfold mput
  split <;> simp
section
variable {w w' : World} {B : Nat} {col : Nat → Mc} {m : Hm} {s : Hb}
theorem HW.look_in (h : HW w B col m s) {a x : Nat} (ha : 1 ≤ a ∧ a ≤ s.nodes) (hx : x < s.at_.length) (W : World) (hW : W.heap[m.In]? = w.heap[m.In]?) :
    (Instr.lookup 46 (.map (some m.In)) (.agg #[.int .i64 (a : Nat), .int .i64 (x : Nat)]) false).run Try.prog W = .ok (.pointer (some ⟨m.I a x, 0, none⟩)) W := by
  have := (h.hI.same hW).lookup enc_spot Try.underlying46 zero_box (a := (a, x)) (by have := h.nd; unfold okP; simp; omega) false
  rw [h.eI a x ha.1 ha.2 hx] at this
  simp only [Bool.false_eq_true, if_false] at this
  exact this
end
theorem BoxAt.look {w : World} {I J : Nat} {b : Bx} (h : BoxAt w I J b) (n : Nat) (hn : n ≤ 1000000) (W : World) (hW : W.heap[J]? = w.heap[J]?) :
    (Instr.lookup 56 (.map (some J)) (.int .i64 (n : Nat)) true).run Try.prog W = .ok (.tuple #[.int .i64 ((mget b.st n).getD 0 : Nat), .bool (mget b.st n).isSome]) W := by
  have := (h.st.same hW).lookup enc_M Try.underlying56 zero_in (a := n) hn true
  rw [mget_mapv] at this
  have e1 : ((mget b.st n).map encM).getD (.int .i64 0) = .int .i64 ((mget b.st n).getD 0 : Nat) := by cases mget b.st n <;> rfl
  have e2 : ((mget b.st n).map encM).isSome = (mget b.st n).isSome := by cases mget b.st n <;> rfl
  rw [e1, e2, if_pos rfl] at this
  exact this
theorem zgot : (Try.prog.info? 62).map (fun i => (i.zero, i.size, i.bytes)) = some (some (.agg #[.int .i64 0, .int .i64 0]), 2, 16) := by kernel_rfl
/-- append of one delivered letter, in a region that draws its order -/
theorem step_app_got (w : World) {ops : Array Oper} {o : Oper} {a : Act} {K : Act → World → Prop} {Q : Exit → Act → World → Prop} {E : Prop} (hgd : o.guard = none) (s x : Operand)
    (ho : o.op = .call { callee := .builtin .append, args := #[s, x], argTypes := #[36, 36] })
    {v : Value} {n : Nat} {xs : List Value} (hseg : Seg w 62 2 v n xs) (hs : a.eval s = v)
    {D : Nat → Prop} {A : Option Addr} {m : Nat} {news : List Value} (hr : Reads w D 2 A m news) {c : Nat} (hx : a.eval x = .slice A m c) (h1 : ∀ u ∈ news, u.oneCell' = true) (hm : 0 < m)
    (h63 : n + m ≤ 1000000000)
    (h : ∀ v' w', Seg w' 62 2 v' (n + m) (xs ++ news) → w.grownBy w' v.ownBlock → (∀ b, v'.ownBlock = some b → v.ownBlock = some b ∨ w.heap.size ≤ b) → K (a.put o.dst v') w') :
    if Region.wanted o (yielded ops a.tmps) = true then Oper.wp Try.prog o a w K Q else E := by
  obtain ⟨i0, hi0, hz0, hz1, hz2⟩ := info_parts zgot
  obtain ⟨v', w', hrun, r1, r2, r3⟩ := hseg.append (P := Try.prog) 36 o.type i0 _ 16 Try.underlying36 hi0 hz0 hz1 hz2 rfl (by omega) (c := c) hr hm h1 (by simp only [maxLen]; omega) (by omega)
  have hw : Region.wanted o (yielded ops a.tmps) = true := by simp [Region.wanted, hgd]
  rw [if_pos hw]
  unfold Oper.wp execOp
  simp only [ho, resolve, invoke, builtin, Sem.run_bind, Sem.run_pure, Result.andThen_ok, List.map_toArray, List.map_cons, List.map_nil, hs, hx, hrun]
  exact h v' w' r1 r2 r3

theorem _root_.Go.Mem.GrownIn.drewN {own : Nat → Prop} {w w' : World} (h : GrownIn own w w') (n : Nat) : GrownIn own w (w'.drewN n) := ⟨h.os, h.tape, h.output, h.size, h.block⟩
def Cells4 (p q r t : Addr) (a b c d : Value) (w : World) : Prop := w.cell? p = some a ∧ w.cell? q = some b ∧ w.cell? r = some c ∧ w.cell? t = some d
theorem Cells4.same {p q r t : Addr} {a b c d : Value} {w w' : World} (hp : w'.heap[p.block]? = w.heap[p.block]?) (hq : w'.heap[q.block]? = w.heap[q.block]?) (hr : w'.heap[r.block]? = w.heap[r.block]?) (ht : w'.heap[t.block]? = w.heap[t.block]?) (h : Cells4 p q r t a b c d w) : Cells4 p q r t a b c d w' :=
  ⟨(World.cell?_of_block (w := w) hp).trans h.1, (World.cell?_of_block (w := w) hq).trans h.2.1, (World.cell?_of_block (w := w) hr).trans h.2.2.1, (World.cell?_of_block (w := w) ht).trans h.2.2.2⟩
theorem grown_alloc' {w w' : World} {o : Obj} {row : Option Nat} (h : (w.drew.alloc o).grownBy w' row) : w.grownBy w' row :=
  ⟨h.os, h.tape, h.output, Nat.le_trans (by show _ ≤ (w.alloc o).heap.size; simp) h.size, fun b hb hn => (h.block b (by show _ < (w.alloc o).heap.size; simp; omega) hn).trans (Below.heap_alloc w o b hb)⟩
/-- at the head of receive's loop -/
structure RecvAt (w wr : World) (col0 : Nat → Mc) (B T X : Nat) (I : Nat) (xk xw xs xq xn x1 x2 : Nat) (f : Nat) (target : Hb) (col : Nat → Mc) (m : Hm) (h : Hb) (J : Nat) : Prop where
  hw : HW wr B col m h
  T_ : m.T = T
  I_ : m.I xs xw = I
  J_ : m.J xs xw = J
  X_ : Blk wr X 68 [.int .i64 xk, .int .i64 xw, .int .i64 xs, .int .i64 xq, .int .i64 xn, .int .i64 x1, .int .i64 x2]
  cX : col X = .cst
  src : 1 ≤ xs ∧ xs ≤ h.nodes
  who : xw < h.at_.length
  fu : (h.box xs xw).st.length < f
  tgt : recv1 f xs xw h = target
  bd : (h.box xs xw).next + (h.box xs xw).st.length ≤ 900000 ∧ (h.got.getD xw []).length + (h.box xs xw).st.length ≤ 900000
  gr : Stp w wr col0 col
  Bs : B ≤ wr.heap.size

set_option maxRecDepth 100000 in
set_option maxHeartbeats 4000000 in
theorem receive_any (w : World) (B : Nat) (col : Nat → Mc) (m : Hm) (s : Hb) (h : HW w B col m s) (hB : B ≤ w.heap.size) (x : El) (hs : 1 ≤ x.src ∧ x.src ≤ s.nodes) (hw : x.who < s.at_.length) (hq : x.seq ≤ 100000)
    (hb1 : (s.box x.src x.who).next + (s.box x.src x.who).st.length ≤ 800000) (hb2 : (s.got.getD x.who []).length + (s.box x.src x.who).st.length ≤ 800000) :
    Calls Try.prog 22 #[.pointer (some ⟨m.T, 0, none⟩), .agg #[.int .i64 x.kind, .int .i64 x.who, .int .i64 x.src, .int .i64 x.seq, .int .i64 x.n, .int .i64 x.bn, .int .i64 x.bm]] w (HPost w B col m.T (receive s x)) := by
  obtain ⟨xk, xw, xs, xq, xn, x1, x2⟩ := x
  simp only at hs hw hq hb1 hb2
  obtain ⟨w1, hw1⟩ : ∃ w1, w1 = w.alloc (.cells #[.int .i64 xk, .int .i64 xw, .int .i64 xs, .int .i64 xq, .int .i64 xn, .int .i64 x1, .int .i64 x2] 68) := ⟨_, rfl⟩
  have bX : Blk w1 w.heap.size 68 [.int .i64 xk, .int .i64 xw, .int .i64 xs, .int .i64 xq, .int .i64 xn, .int .i64 x1, .int .i64 x2] := by rw [hw1]; exact Blk.new w _ _
  have hg1 : GrownIn (fun _ => False) w w1 := by rw [hw1]; exact (GrownIn.refl _ _).alloc _
  have h1 := h.grow hB hg1
  have hB1 : B ≤ w1.heap.size := Nat.le_trans hB hg1.size
  obtain ⟨X, hX⟩ : ∃ X, X = w.heap.size := ⟨_, rfl⟩
  rw [← hX] at bX
  have hXB : B ≤ X := by omega
  have hcX : recol col w.heap.size .cst X = .cst := recol_new (by omega)
  generalize hc1 : recol col w.heap.size .cst = col1 at h1 hcX
  obtain ⟨bI, cI, cJ⟩ := h1.bx xs xw hs.1 hs.2 hw
  obtain ⟨I, hI⟩ : ∃ I, I = m.I xs xw := ⟨_, rfl⟩
  obtain ⟨J, hJ⟩ : ∃ J, J = m.J xs xw := ⟨_, rfl⟩
  rw [← hI] at bI cI
  rw [← hJ] at bI cJ
  have c4 := h1.blk.cell 4
  have x1' := bX.cell 1
  have x2' := bX.cell 2
  have x3 := bX.cell 3
  have x4 := bX.cell 4
  have i0 := bI.blk.cell 0
  have i1 := bI.blk.cell 1
  simp only [List.getElem?_cons_succ, List.getElem?_cons_zero] at c4 x1' x2' x3 x4 i0 i1
  have lT := h1.blk.lt
  have lX := bX.lt
  have lI := bI.blk.lt
  have LKI := Lib.hid (fun (W : World) (hW : W.heap = w1.heap) => by have := h1.look_in hs hw W (by rw [hW]); rw [← hI] at this; exact this)
  have lk0 := LKI.out w1 rfl
  have lk1 := LKI.out w1.drew rfl
  have lkN := fun k => LKI.out (w1.drewN k) rfl
  obtain ⟨bn, hbn⟩ : ∃ b, b = s.box xs xw := ⟨_, rfl⟩
  rw [← hbn] at bI i0 hb1 hb2
  obtain ⟨nx, st⟩ := bn
  simp only at i0 hb1 hb2
  have Hbn := Lib.hid hbn
  have HWw := Lib.hid hw1
  have HXx := Lib.hid hX
  have H1 := Lib.hid h1
  have HBX := Lib.hid bX
  have HBI := Lib.hid bI
  have HG1 := Lib.hid (Stp.grow (col := col) .cst hg1 fun _ _ e => e.elim)
  rw [hc1] at HG1
  have HC := Lib.hid (And.intro hcX (And.intro cI cJ))
  have HIJ := Lib.hid (And.intro hI hJ)
  have Hs := Lib.hid hs
  clear h hw1 hX h1 bX bI hg1 hcX cI cJ hc1 hI hJ hbn LKI hs
  by_cases hlt : xq < nx
  · have hd : decide (xq < nx) = true := by simpa using hlt
    have hR : Hid (receive s ⟨xk, xw, xs, xq, xn, x1, x2⟩ = s) := by
      unfold Hid receive
      dsimp only
      rw [← Hbn.out, if_pos hlt]
    go_enter Try.func22, Try.ntmps22
    go_wp2_with (fail)
    rw [← HWw.out, ← HXx.out]
    go_quiet (fail)
    go_wp2_with (fail)
    go_quiet (fail)
    go_wp2_with (fail)
    go_end0
    rw [hR.out]
    exact ⟨_, m, rfl, rfl, H1.out.heap rfl, HG1.out.trans (Stp.same (((GrownIn.refl _ _).drewN _).drewN _))⟩
  · have hd : decide (xq < nx) = false := by simpa using hlt
    go_enter Try.func22, Try.ntmps22
    go_wp2_with (fail)
    rw [← HWw.out, ← HXx.out]
    go_quiet (fail)
    go_wp2_with (fail)
    go_quiet (fail)
    go_wp2_with (fail)
    generalize hW2 : World.drewN (World.drewN w1 _) _ = W2
    have hh : W2.heap = w1.heap := by rw [← hW2]; rfl
    have hgW : Stp w W2 col col1 := by rw [← hW2]; exact HG1.out.trans (Stp.same (((GrownIn.refl _ _).drewN _).drewN _))
    have h2 := H1.out.heap hh
    have bX2 := HBX.out.of_heap hh
    have bI2 := HBI.out.same (w' := W2) (by rw [hh]) (by rw [hh])
    clear hW2 c4 x1' x2' x3 x4 i0 i1 lT lX lI lk0 lk1 lkN hd
    have x3 := bX2.cell 3
    have x4 := bX2.cell 4
    have i0 := bI2.blk.cell 0
    have i1 := bI2.blk.cell 1
    simp only [List.getElem?_cons_succ, List.getElem?_cons_zero] at x3 x4 i0 i1
    have lX := bX2.lt
    have lI := bI2.blk.lt
    obtain ⟨w3, hup, hm3, hg3⟩ := (bI2.st.same (w' := World.drew W2) rfl).update enc_M Try.underlying56 (a := xq) (show xq ≤ 1000000 by omega) (.int .i64 (xn : Nat))
    have hg3' : W2.grownBy w3 (some J) := ⟨hg3.os, hg3.tape, hg3.output, hg3.size, hg3.block⟩
    have hup' : (Instr.mapUpdate 56 (.map (some J)) (.int .i64 (xq : Nat)) (.int .i64 (xn : Nat))).run Try.prog (World.drew W2) = .ok () w3 := hup
    obtain ⟨hcX, hcI, hcJ⟩ := HC.out
    obtain ⟨hI, hJ⟩ := HIJ.out
    have nIJ : I ≠ J := by
      rintro rfl
      have e1 := bI2.blk
      obtain ⟨es, ck, e2, _⟩ := bI2.st
      unfold Blk at e1
      rw [e2] at e1
      cases e1
    have hb3 : BoxAt w3 I J ⟨nx, mput st xq xn⟩ := by
      refine ⟨bI2.blk.grown hg3' (by simp [nIJ]), ?_⟩
      rw [put_map (f := encM)]
      exact hm3
    have hin : GrownIn (fun b => col1 b = .box (xs, xw)) W2 w3 := GrownIn.of_grown hg3' fun b hb => by injection hb with hb; rw [← hb]; exact hcJ
    rw [hI, hJ] at hb3
    have h3 := h2.inbox (by rw [hh]; exact hB1) Hs.out hw hin hb3
    have hB3 : B ≤ w3.heap.size := Nat.le_trans (by rw [hh]; exact hB1) hg3'.size
    have nXJ : X ≠ J := fun e => by have := hcX; rw [e, hcJ] at this; cases this
    have bX3 := bX2.grown hg3' (by simp [nXJ])
    have hgr3 : Stp w w3 col (recol col1 W2.heap.size (.box (xs, xw))) := hgW.trans (Stp.grow _ hin fun b _ e => by unfold Own; rw [e]; simp)
    have hcX3 : recol col1 W2.heap.size (.box (xs, xw)) X = .cst := by rw [recol_old lX]; exact hcX
    have hst : (mput st xq xn).length ≤ st.length + 1 := len_put _ _ _
    have hR : Hid (receive s ⟨xk, xw, xs, xq, xn, x1, x2⟩ = recv1 (st.length + 2) xs xw { s with box := upd2 s.box xs xw ⟨nx, mput st xq xn⟩ }) := by
      unfold Hid receive
      dsimp only
      rw [← Hbn.out, if_neg hlt]
    have HS : Hid (RecvAt w w3 col B m.T X I xk xw xs xq xn x1 x2 (st.length + 2) (receive s ⟨xk, xw, xs, xq, xn, x1, x2⟩) (recol col1 W2.heap.size (.box (xs, xw))) m { s with box := upd2 s.box xs xw ⟨nx, mput st xq xn⟩ } J) := by
      refine ⟨h3, rfl, hI.symm, hJ.symm, bX3, hcX3, Hs.out, hw, ?_, hR.out.symm, ?_, hgr3, hB3⟩
      · dsimp only
        rw [upd2_same]
        dsimp only
        omega
      · dsimp only
        rw [upd2_same]
        dsimp only
        omega
    clear hlt hup hm3 hg3 hg3' nIJ hb3 hin h3 hB3 nXJ bX3 hgr3 hcX3 hst hR h2 bX2 bI2 hgW hcX hcI hcJ hI hJ Hbn H1 HBX HBI HG1 HC HIJ HWw HXx hb1 hb2 hh
    obtain ⟨target, htg⟩ : ∃ t, t = receive s ⟨xk, xw, xs, xq, xn, x1, x2⟩ := ⟨_, rfl⟩
    rw [← htg] at HS
    have HT := Lib.hid htg
    clear htg
    go_still_tail 8, (by kernel_rfl)
    change wpList _ _ _ _ _ (World.drew W2)
    go_wp2_with (fail)
    clear hup' x3 x4 i0 i1 lX lI
    generalize (mput st xq xn) = st3 at HS
    go_loopg [5] (st.length + 1) (fun g v5 wr => ∃ col2 m2 h2 f J2, Hid (RecvAt w wr col B m.T X I xk xw xs xq xn x1 x2 f target col2 m2 h2 J2 ∧ (h2.box xs xw).st.length ≤ g))
    case atStart => exact ⟨_, m, _, _, J, HS.out, by have := HS.out.fu; omega⟩
    case round =>
      obtain ⟨col2, m2, h2, f, J2, HR⟩ := hrel
      have R := HR.out.1
      have hlen := HR.out.2
      obtain ⟨f1, rfl⟩ : ∃ f1, f = f1 + 1 := ⟨f - 1, by have := R.fu; omega⟩
      obtain ⟨bI, cI, cJ⟩ := R.hw.bx xs xw R.src.1 R.src.2 R.who
      rw [R.I_] at bI cI
      rw [R.J_] at bI cJ
      have hbd := R.bd
      obtain ⟨bb, hbb⟩ : ∃ bb, bb = h2.box xs xw := ⟨_, rfl⟩
      rw [← hbb] at bI hlen hbd
      obtain ⟨nx2, st2⟩ := bb
      simp only at hlen hbd
      obtain ⟨hbd1, hbd2⟩ := hbd
      have i0 := bI.blk.cell 0
      have i1 := bI.blk.cell 1
      simp only [List.getElem?_cons_succ, List.getElem?_cons_zero] at i0 i1
      have lI := bI.blk.lt
      have LK := Lib.hid (fun (W : World) (hW : W.heap = wr.heap) => bI.look nx2 (by omega) W (by rw [hW]))
      rcases hg : mget st2 nx2 with _ | v
      · rw [hg] at LK
        have lk0 := LK.out wr rfl
        have lk1 := LK.out wr.drew rfl
        have lkN := fun k => LK.out (wr.drewN k) rfl
        simp only [Option.getD_none, Option.isSome_none] at lk0 lk1 lkN
        have ht : Hid (target = h2) := by
          unfold Hid
          rw [← R.tgt]
          unfold recv1
          rw [← hbb]
          dsimp only
          rw [hg]
        clear R hlen cI cJ bI hbd1 hbd2 hbb hg LK
        go_wp2_with (fail)
        go_quiet (fail)
        go_wp2_with (fail)
        go_end0
        rw [← HT.out, ht.out]
        exact ⟨col2, m2, rfl, HR.out.1.T_, HR.out.1.hw.heap rfl, HR.out.1.gr.trans (Stp.same ((GrownIn.refl _ _).drewN _))⟩
      · rw [hg] at LK
        have lk0 := LK.out wr rfl
        have lk1 := LK.out wr.drew rfl
        have lkN := fun k => LK.out (wr.drewN k) rfl
        simp only [Option.getD_some, Option.isSome_some] at lk0 lk1 lkN
        have HBI := Lib.hid bI
        have Hbb := Lib.hid hbb
        have Hg := Lib.hid hg
        have HC := Lib.hid (And.intro cI cJ)
        clear R cI cJ bI hbb hg LK
        go_wp2_with (fail)
        go_quiet (fail)
        go_wp2_with (fail)
        generalize hW2 : World.drewN wr _ = W2
        have hh : W2.heap = wr.heap := by rw [← hW2]; rfl
        have hgW : Stp w W2 col col2 := by rw [← hW2]; exact HR.out.1.gr.trans (Stp.same ((GrownIn.refl _ _).drewN _))
        have bI2 := HBI.out.same (w' := W2) (by rw [hh]) (by rw [hh])
        have hw2 := HR.out.1.hw.heap hh
        have bX2 := HR.out.1.X_.of_heap hh
        have hB2 : B ≤ W2.heap.size := by rw [hh]; exact HR.out.1.Bs
        clear hW2 hh i0 i1 lI lk0 lk1 lkN
        have i0 := bI2.blk.cell 0
        have i1 := bI2.blk.cell 1
        simp only [List.getElem?_cons_succ, List.getElem?_cons_zero] at i0 i1
        have lI := bI2.blk.lt
        have nIJ : I ≠ J2 := by
          rintro rfl
          have e1 := bI2.blk
          obtain ⟨es, ck, e2, _⟩ := bI2.st
          unfold Blk at e1
          rw [e2] at e1
          cases e1
        have HI2 := Lib.hid bI2
        have Hw2 := Lib.hid hw2
        have HX2 := Lib.hid bX2
        have HgW := Lib.hid hgW
        have HnIJ := Lib.hid nIJ
        clear bI2 hw2 bX2 hgW nIJ
        go_still_tail 8, (by kernel_rfl)
        change wpList _ _ _ _ _ (World.drew W2)
        go_wp2_with (refine wpList_mdelete _ rfl (.tmp 49) (.tmp 53) _ rfl enc_M Try.underlying56 (b := J2) (key := nx2) rfl (by exact HI2.out.st.same rfl) rfl (show nx2 ≤ 1000000 by omega) ?_; intro w3 hm3 hg3; have hg3' : W2.grownBy w3 (some J2) := ⟨hg3.os, hg3.tape, hg3.output, hg3.size, hg3.block⟩; have bI3 := HI2.out.blk.grown hg3' (by simp [HnIJ.out]); have j0 := bI3.cell 0; have j1 := bI3.cell 1; have z0 := bI3.frozen 0; have lI3 := bI3.lt; simp only [List.getElem?_cons_succ, List.getElem?_cons_zero] at j0 j1; have HM3 := Lib.hid (And.intro hm3 (And.intro hg3' bI3)); clear hm3 hg3 hg3' bI3)
        obtain ⟨g1, g2, g3⟩ := HM3.out
        have hw1 : IntKind.i64.wrap ((nx2 : Int) + 1) = (nx2 : Int) + 1 := IntWalk.i64_in _ (by omega)
        obtain ⟨W4, hW4⟩ : ∃ W4, W4 = w3.setCell ⟨I, 0, none⟩ (.int .i64 ((nx2 : Int) + 1)) := ⟨_, rfl⟩
        have b4 : Blk W4 I 58 [.int .i64 ((nx2 + 1 : Nat) : Int), .map (some J2)] := by rw [hW4]; exact g3.put 0 _
        have hb4 : BoxAt W4 I J2 ⟨nx2 + 1, mdel st2 nx2⟩ := by
          refine ⟨b4, ?_⟩
          rw [del_map (f := encM)]
          rw [hW4]
          exact g1.setCell (fun e => HnIJ.out (by exact e)) _
        obtain ⟨cI, cJ⟩ := HC.out
        have hin : GrownIn (fun b => col2 b = .box (xs, xw)) W2 W4 := by
          rw [hW4]
          exact (GrownIn.of_grown g2 fun b hb => by injection hb with hb; rw [← hb]; exact cJ).set (p := ⟨I, 0, none⟩) cI _
        have R := HR.out.1
        rw [← R.I_, ← R.J_] at hb4
        have h4 := Hw2.out.inbox hB2 R.src R.who hin hb4
        have hB4 : B ≤ W4.heap.size := Nat.le_trans hB2 hin.size
        have lX2 := HX2.out.lt
        have nX : ¬ col2 X = .box (xs, xw) := by rw [R.cX]; simp
        have bX4 := HX2.out.same (w' := W4) (D := fun b => ¬ col2 b = .box (xs, xw)) (fun b hb hl => hin.block b hl hb) nX
        have cX4 : recol col2 W2.heap.size (.box (xs, xw)) X = .cst := by rw [recol_old lX2]; exact R.cX
        have gr4 : Stp w W4 col (recol col2 W2.heap.size (.box (xs, xw))) := HgW.out.trans (Stp.grow _ hin fun b _ e => by unfold Own; rw [e]; simp)
        generalize recol col2 W2.heap.size (.box (xs, xw)) = col4 at h4 cX4 gr4
        have hgl : xw < h2.got.length := by rw [R.hw.gl]; exact R.who
        have hrow : h2.got[xw]? = some (h2.got.getD xw []) := by rw [List.getD_eq_getElem?_getD, List.getElem?_eq_getElem hgl]; rfl
        obtain ⟨vg, hcur, hra⟩ := h4.eG xw _ hrow
        obtain ⟨row, hrw⟩ : ∃ row, row = h2.got.getD xw [] := ⟨_, rfl⟩
        rw [← hrw] at hra hbd2
        obtain ⟨Ag, cg, hvg, _, _⟩ := hra.1.form
        subst hvg
        have t7 := h4.blk.cell 7
        have y1 := bX4.cell 1
        have y2 := bX4.cell 2
        have gt := h4.hG.cell xw
        rw [hcur] at gt
        have gf := h4.hG.frozen xw
        simp only [List.getElem?_cons_succ, List.getElem?_cons_zero] at t7 y1 y2
        rw [R.T_] at t7
        have lT4 := h4.blk.lt
        rw [R.T_] at lT4
        have lX4 := bX4.lt
        have lG4 := h4.hG.lt
        have nTG : m.T ≠ m2.GT := fun e => by have := h4.cT; rw [R.T_, e, h4.cGT] at this; cases this
        have nXG : X ≠ m2.GT := fun e => by have := cX4; rw [e, h4.cGT] at this; cases this
        have nGT := Ne.symm nTG
        have nGX := Ne.symm nXG
        have vT : (Value.slice Ag row.length cg).ownBlock ≠ some m.T := fun e => by have := hra.2 _ e; rw [← R.T_, h4.cT] at this; cases this
        have vX : (Value.slice Ag row.length cg).ownBlock ≠ some X := fun e => by have := hra.2 _ e; rw [cX4] at this; cases this
        have vG : (Value.slice Ag row.length cg).ownBlock ≠ some m2.GT := fun e => by have := hra.2 _ e; rw [h4.cGT] at this; cases this
        have k0 : (0 : Int) ≤ (xw : Int) := by omega
        have k1 : (xw : Int) < (h2.got.length : Int) := by omega
        generalize hgll : h2.got.length = GL at t7 k1 hgl
        have ne4 := Lib.hid (And.intro vT (And.intro vX vG))
        have H4 := Lib.hid h4
        have HX4 := Lib.hid (And.intro bX4 (And.intro cX4 gr4))
        have Hra := Lib.hid hra
        have Hrw := Lib.hid (And.intro hrw (And.intro hcur hgll))
        have HBG := Lib.hid h4.hG
        try rw [← hW4]
        clear R g1 g2 g3 hW4 b4 hb4 cI cJ hin h4 lX2 nX bX4 cX4 gr4 hrow hra hrw hcur hgll vT vX vG hw1 j0 j1 z0 lI3 i0 i1 lI
        have h4S : (Cells4 ⟨m.T, 7, none⟩ ⟨X, 1, none⟩ ⟨X, 2, none⟩ ⟨m2.GT, xw, none⟩ (.slice (some ⟨m2.GT, 0, none⟩) GL m2.cG) (.int .i64 xw) (.int .i64 xs) (.slice Ag row.length cg)) W4 := ⟨t7, y1, y2, gt⟩
        refine wp_region_g (S := Cells4 ⟨m.T, 7, none⟩ ⟨X, 1, none⟩ ⟨X, 2, none⟩ ⟨m2.GT, xw, none⟩ (.slice (some ⟨m2.GT, 0, none⟩) GL m2.cG) (.int .i64 xw) (.int .i64 xs) (.slice Ag row.length cg)) (m := 21) (by kernel_rfl) ?_
        change wpAnyG _ _ _ _ _ _ _ _ _ (World.drew W4)
        have hS : (Cells4 ⟨m.T, 7, none⟩ ⟨X, 1, none⟩ ⟨X, 2, none⟩ ⟨m2.GT, xw, none⟩ (.slice (some ⟨m2.GT, 0, none⟩) GL m2.cG) (.int .i64 xw) (.int .i64 xs) (.slice Ag row.length cg)) (World.drew W4) := h4S
        refine wpAnyG_take (i := 0) (v := .pointer (some ⟨m.T, 0, none⟩)) rfl ?_ ?_ ?_ (fun _ _ _ h => h) (Or.inl ⟨by rfl, ?_⟩) hS ?_; (· decide +kernel); (· decide +kernel); (· decide +kernel); (· (intro w' hS'; obtain ⟨zz0, zz1, zz2, zz3⟩ := hS'; go_simp))
        refine wpAnyG_take (i := 1) (v := .pointer (some ⟨m.T, 0, none⟩)) rfl ?_ ?_ ?_ (fun _ _ _ h => h) (Or.inl ⟨by rfl, ?_⟩) hS ?_; (· decide +kernel); (· decide +kernel); (· decide +kernel); (· (intro w' hS'; obtain ⟨zz0, zz1, zz2, zz3⟩ := hS'; go_simp))
        refine wpAnyG_take (i := 2) (v := .pointer (some ⟨m.T, 7, none⟩)) rfl ?_ ?_ ?_ (fun _ _ _ h => h) (Or.inl ⟨by rfl, ?_⟩) hS ?_; (· decide +kernel); (· decide +kernel); (· decide +kernel); (· (intro w' hS'; obtain ⟨zz0, zz1, zz2, zz3⟩ := hS'; go_simp))
        refine wpAnyG_take (i := 3) (v := (.slice (some ⟨m2.GT, 0, none⟩) GL m2.cG)) rfl ?_ ?_ ?_ (fun _ _ _ h => h) (Or.inl ⟨by rfl, ?_⟩) hS ?_; (· decide +kernel); (· decide +kernel); (· decide +kernel); (· (intro w' hS'; obtain ⟨zz0, zz1, zz2, zz3⟩ := hS'; go_simp))
        refine wpAnyG_take (i := 4) (v := .pointer (some ⟨X, 1, none⟩)) rfl ?_ ?_ ?_ (fun _ _ _ h => h) (Or.inl ⟨by rfl, ?_⟩) hS ?_; (· decide +kernel); (· decide +kernel); (· decide +kernel); (· (intro w' hS'; obtain ⟨zz0, zz1, zz2, zz3⟩ := hS'; go_simp))
        refine wpAnyG_take (i := 5) (v := .int .i64 xw) rfl ?_ ?_ ?_ (fun _ _ _ h => h) (Or.inl ⟨by rfl, ?_⟩) hS ?_; (· decide +kernel); (· decide +kernel); (· decide +kernel); (· (intro w' hS'; obtain ⟨zz0, zz1, zz2, zz3⟩ := hS'; go_simp))
        refine wpAnyG_take (i := 6) (v := .pointer (some ⟨m.T, 0, none⟩)) rfl ?_ ?_ ?_ (fun _ _ _ h => h) (Or.inl ⟨by rfl, ?_⟩) hS ?_; (· decide +kernel); (· decide +kernel); (· decide +kernel); (· (intro w' hS'; obtain ⟨zz0, zz1, zz2, zz3⟩ := hS'; go_simp))
        refine wpAnyG_take (i := 7) (v := .pointer (some ⟨m.T, 0, none⟩)) rfl ?_ ?_ ?_ (fun _ _ _ h => h) (Or.inl ⟨by rfl, ?_⟩) hS ?_; (· decide +kernel); (· decide +kernel); (· decide +kernel); (· (intro w' hS'; obtain ⟨zz0, zz1, zz2, zz3⟩ := hS'; go_simp))
        refine wpAnyG_take (i := 8) (v := .pointer (some ⟨m.T, 7, none⟩)) rfl ?_ ?_ ?_ (fun _ _ _ h => h) (Or.inl ⟨by rfl, ?_⟩) hS ?_; (· decide +kernel); (· decide +kernel); (· decide +kernel); (· (intro w' hS'; obtain ⟨zz0, zz1, zz2, zz3⟩ := hS'; go_simp))
        refine wpAnyG_take (i := 9) (v := (.slice (some ⟨m2.GT, 0, none⟩) GL m2.cG)) rfl ?_ ?_ ?_ (fun _ _ _ h => h) (Or.inl ⟨by rfl, ?_⟩) hS ?_; (· decide +kernel); (· decide +kernel); (· decide +kernel); (· (intro w' hS'; obtain ⟨zz0, zz1, zz2, zz3⟩ := hS'; go_simp))
        refine wpAnyG_take (i := 10) (v := .pointer (some ⟨X, 1, none⟩)) rfl ?_ ?_ ?_ (fun _ _ _ h => h) (Or.inl ⟨by rfl, ?_⟩) hS ?_; (· decide +kernel); (· decide +kernel); (· decide +kernel); (· (intro w' hS'; obtain ⟨zz0, zz1, zz2, zz3⟩ := hS'; go_simp))
        refine wpAnyG_take (i := 11) (v := .int .i64 xw) rfl ?_ ?_ ?_ (fun _ _ _ h => h) (Or.inl ⟨by rfl, ?_⟩) hS ?_; (· decide +kernel); (· decide +kernel); (· decide +kernel); (· (intro w' hS'; obtain ⟨zz0, zz1, zz2, zz3⟩ := hS'; go_simp))
        refine wpAnyG_take (i := 12) (v := .pointer (some ⟨m2.GT, xw, none⟩)) rfl ?_ ?_ ?_ (fun _ _ _ h => h) (Or.inl ⟨by rfl, ?_⟩) hS ?_; (· decide +kernel); (· decide +kernel); (· decide +kernel); (· (intro w' hS'; obtain ⟨zz0, zz1, zz2, zz3⟩ := hS'; go_simp))
        refine wpAnyG_take (i := 13) (v := (.slice Ag row.length cg)) rfl ?_ ?_ ?_ (fun _ _ _ h => h) (Or.inl ⟨by rfl, ?_⟩) hS ?_; (· decide +kernel); (· decide +kernel); (· decide +kernel); (· (intro w' hS'; obtain ⟨zz0, zz1, zz2, zz3⟩ := hS'; go_simp))
        refine wpAnyG_take (i := 14) (v := .pointer (some ⟨X, 2, none⟩)) rfl ?_ ?_ ?_ (fun _ _ _ h => h) (Or.inl ⟨by rfl, ?_⟩) hS ?_; (· decide +kernel); (· decide +kernel); (· decide +kernel); (· (intro w' hS'; obtain ⟨zz0, zz1, zz2, zz3⟩ := hS'; go_simp))
        refine wpAnyG_take (i := 15) (v := .int .i64 xs) rfl ?_ ?_ ?_ (fun _ _ _ h => h) (Or.inl ⟨by rfl, ?_⟩) hS ?_; (· decide +kernel); (· decide +kernel); (· decide +kernel); (· (intro w' hS'; obtain ⟨zz0, zz1, zz2, zz3⟩ := hS'; go_simp))
        refine wpAnyG_take (i := 16) (v := .int .i64 v) rfl ?_ ?_ ?_ (fun _ _ _ h => h) (Or.inl ⟨by rfl, ?_⟩) hS ?_; (· decide +kernel); (· decide +kernel); (· decide +kernel); (· (intro w' hS'; obtain ⟨zz0, zz1, zz2, zz3⟩ := hS'; go_simp))
        refine wpAnyG_take (i := 17) (v := .agg #[.int .i64 xs, .int .i64 v]) rfl ?_ ?_ ?_ (fun _ _ _ h => h) (Or.inl ⟨by rfl, ?_⟩) hS ?_; (· decide +kernel); (· decide +kernel); (· decide +kernel); (· (intro w' hS'; obtain ⟨zz0, zz1, zz2, zz3⟩ := hS'; go_simp))
        refine wpAnyG_ready (rs := [18]) (by decide +kernel) (by simp) ?_
        refine AllReadyG.cons rfl (fun K hK => ?_) AllReadyG.nil
        go_simp
        have hS : (Cells4 ⟨m.T, 7, none⟩ ⟨X, 1, none⟩ ⟨X, 2, none⟩ ⟨m2.GT, xw, none⟩ (.slice (some ⟨m2.GT, 0, none⟩) GL m2.cG) (.int .i64 xw) (.int .i64 xs) (.slice Ag row.length cg)) (W4.alloc (.cells #[.int .i64 xs, .int .i64 v] 62)) := (Cells4.same (w := W4) (Below.heap_alloc W4 _ _ lT4) (Below.heap_alloc W4 _ _ lX4) (Below.heap_alloc W4 _ _ lX4) (Below.heap_alloc W4 _ _ lG4) h4S)
        refine hK _ _ (fun _ => hS) ?_
        clear hK K
        refine wpAnyG_ready (rs := [19]) (by decide +kernel) (by simp) ?_
        refine AllReadyG.cons rfl (fun K hK => ?_) AllReadyG.nil
        refine step_app_got _ rfl (.tmp 74) (.tmp 79) (by rfl) (v := (.slice Ag row.length cg)) (n := row.length) (xs := gtcs row) (A := some ⟨W4.heap.size, 0, none⟩) (m := 1) (news := [.int .i64 xs, .int .i64 v]) (c := 1) (D := Any) (by exact Seg.alloc_ Hra.out.1 (.cells #[.int .i64 xs, .int .i64 v] 62)) rfl (by exact Reads.new (D := Any) W4 [.int .i64 xs, .int .i64 v] 2 1 62 trivial rfl) (by first | rfl | simp) (by simp [Value.oneCell']) (by omega) (by omega) ?_
        intro v2 w7 hseg7 hg7 hat7
        obtain ⟨A7, c7, e7, _, _⟩ := hseg7.form
        subst e7
        have hg7' : W4.grownBy w7 (Value.slice Ag row.length cg).ownBlock := grown_alloc' hg7
        have kT := hg7'.block m.T lT4 (fun e => ne4.out.1 e.symm)
        have kX := hg7'.block X lX4 (fun e => ne4.out.2.1 e.symm)
        have kG := hg7'.block m2.GT lG4 (fun e => ne4.out.2.2 e.symm)
        have gt7 := cell_same kG gt
        have gf7 : w7.frozen? ⟨m2.GT, xw, none⟩ = false := by { have := HBG.out.grown hg7' (fun e => ne4.out.2.2 e.symm); exact this.frozen xw }
        have lG7 : m2.GT < w7.heap.size := Nat.lt_of_lt_of_le lG4 hg7'.size
        have fin := Lib.hid (And.intro hseg7 (And.intro hg7' hat7))
        have hS7 := Cells4.same (w := W4) kT kX kX kG h4S
        clear hseg7 hg7 hg7' hat7 kT kX kG
        have hS : (Cells4 ⟨m.T, 7, none⟩ ⟨X, 1, none⟩ ⟨X, 2, none⟩ ⟨m2.GT, xw, none⟩ (.slice (some ⟨m2.GT, 0, none⟩) GL m2.cG) (.int .i64 xw) (.int .i64 xs) (.slice Ag row.length cg)) w7 := hS7
        refine hK _ _ (fun _ => hS) ?_
        clear hK K
        refine wpAnyG_take (i := 20) (v := .pointer (some ⟨m2.GT, xw, none⟩)) rfl ?_ ?_ ?_ (fun _ _ _ h => h) (Or.inl ⟨by rfl, ?_⟩) hS ?_; (· decide +kernel); (· decide +kernel); (· decide +kernel); (· (intro w' hS'; obtain ⟨zz0, zz1, zz2, zz3⟩ := hS'; go_simp))
        refine wpAnyG_ready (rs := [21]) (by decide +kernel) (by simp) ?_
        refine AllReadyG.cons rfl (fun K hK => ?_) AllReadyG.nil
        clear hS
        go_simp
        refine hK _ _ (fun h => absurd h (by decide)) ?_
        clear hK K
        refine wpAnyG_done (by decide +kernel) ?_ _
        · go_wp2_with (fail)
          go_roundg ((mdel st2 nx2).length)
          case measure => have := len_del st2 nx2 Hg.out; omega
          case rel =>
            obtain ⟨g1, g2, g3⟩ := fin.out
            obtain ⟨hrw, hcur, hgll⟩ := Hrw.out
            obtain ⟨bX4, cX4, gr4⟩ := HX4.out
            have hdl := len_del st2 nx2 Hg.out
            have R := HR.out.1
            have e2 : (gtcs row ++ [.int .i64 xs, .int .i64 v]) = gtcs (row ++ [(xs, v)]) := by rw [gtcs_app]; rfl
            have e3 : row.length + 1 = (row ++ [(xs, v)]).length := by simp
            rw [e2] at g1
            have g1' : Seg w7 62 2 (.slice A7 (row.length + 1) c7) (row ++ [(xs, v)]).length (gtcs (row ++ [(xs, v)])) := by rw [← e3]; exact g1
            have hin8 : GrownIn (fun b => col4 b = .gr xw ∨ b = m2.GT) W4 (w7.setCell ⟨m2.GT, xw, none⟩ (.slice A7 (row.length + 1) c7)) := (GrownIn.of_grown (own := fun b => col4 b = .gr xw ∨ b = m2.GT) g2 fun b hb => .inl (Hra.out.2 b hb)).set (p := ⟨m2.GT, xw, none⟩) (.inr rfl) (.slice A7 (row.length + 1) c7)
            have hm8 := (HBG.out.grown g2 (fun e => ne4.out.2.2 e.symm)).put xw (.slice A7 (row.length + 1) c7)
            have hv8 : RowAt (w7.setCell ⟨m2.GT, xw, none⟩ (.slice A7 (row.length + 1) c7)) (recol col4 W4.heap.size (.gr xw)) (.gr xw) 62 2 (row ++ [(xs, v)]).length (.slice A7 (row.length + 1) c7) (gtcs (row ++ [(xs, v)])) := by
              refine ⟨g1'.keep fun b hb => Below.heap_setCell w7 ⟨m2.GT, xw, none⟩ (.slice A7 (row.length + 1) c7) b ?_, fun b hb => ?_⟩
              · rintro rfl
                rcases g3 _ hb with e | e
                · exact ne4.out.2.2 e
                · simp at e
                  omega
              · rcases g3 b hb with e | e
                · have := Hra.out.2 b e
                  rcases Nat.lt_or_ge b W4.heap.size with hl | hl
                  · rw [recol_old hl]; exact this
                  · rw [recol_new hl]
                · rw [recol_new (by simp at e; omega)]
            have h8 := H4.out.grow_ hB4 (by dsimp only; rw [hgll]; exact hgl) hin8 hm8 hv8
            have bX8 : Blk (w7.setCell ⟨m2.GT, xw, none⟩ (.slice A7 (row.length + 1) c7)) X 68 [.int .i64 xk, .int .i64 xw, .int .i64 xs, .int .i64 xq, .int .i64 xn, .int .i64 x1, .int .i64 x2] := (bX4.grown g2 (fun e => ne4.out.2.1 e.symm)).far nXG _
            have hgw8 := gr4.trans (Stp.grow (.gr xw) hin8 fun b _ e => by
              unfold Own
              rcases e with e | rfl
              · rw [e]; simp
              · rw [H4.out.cGT]; simp)
            refine ⟨_, { m2 with curG := m2.curG.set xw (.slice A7 (row.length + 1) c7) }, _, f1, J2, ⟨⟨h8, R.T_, R.I_, R.J_, bX8, by rw [recol_old lX4]; exact cX4, R.src, R.who, ?_, ?_, ?_, hgw8, Nat.le_trans hB4 hin8.size⟩, ?_⟩⟩
            · dsimp only
              rw [upd2_same]
              have := R.fu
              rw [← Hbb.out] at this
              dsimp only at this ⊢
              omega
            · rw [← R.tgt]
              have e5 : recv1 (f1 + 1) xs xw h2 = recv1 f1 xs xw { h2 with box := upd2 h2.box xs xw ⟨(h2.box xs xw).next + 1, mdel (h2.box xs xw).st (h2.box xs xw).next⟩, got := h2.got.set xw (h2.got.getD xw [] ++ [(xs, v)]) } := by
                conv => lhs; unfold recv1
                rw [← Hbb.out]
                dsimp only
                rw [Hg.out]
              rw [e5, ← hrw, ← Hbb.out]
            · dsimp only
              rw [upd2_same, List.getD_eq_getElem?_getD, List.getElem?_set_self (by rw [hgll]; exact hgl)]
              simp
              omega
            · dsimp only
              rw [upd2_same]
              exact Nat.le_refl _
end Go.Proofs.Ytckkelppdeampaa
