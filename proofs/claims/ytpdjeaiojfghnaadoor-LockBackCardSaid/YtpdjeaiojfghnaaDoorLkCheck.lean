/- Contract of lock.Check at picks that may be. -/
import Derived.Test.YtpdjeaiojfghnaaDoorSvPlain
import Derived.Test.YtpdjeaiojfghnaaDoorSvReg
set_option linter.unusedVariables false
namespace Go.Sv
/-- picks that may be -/
structure PkOk (l : List Pk) : Prop where
  ln : l.length ≤ 30
  nm : ∀ p ∈ l, Letter p.1
  vr : ∀ p ∈ l, 1 ≤ p.2 ∧ p.2 ≤ 9999
  asc : Asc l
end Go.Sv
namespace Go.Proofs.YtpdjeaiojfghnaaDoor
open Go.RowKit Go.Mem Go.Sv Go.Maps
set_option maxRecDepth 100000 in
set_option maxHeartbeats 1000000 in
theorem lkcheck_any (A : Option Addr) (n c : Nat) (l : List Pk) (w : World) (hr : Reads w Any 2 A n (pks l)) (hn : n = l.length) (h : PkOk l) :
    Calls Tryd.prog 17 #[.slice A n c] w fun e w' => e = .returned (.int .i64 0) ∧ Below w.heap.size w w' := by
  have h30 : n ≤ 30 := by have := h.ln; omega
  have Hn := Lib.hid hn
  have H := Lib.hid h
  have HR := Lib.hid hr
  have g0 : decide ((n : Int) > 30) = false := decide_eq_false (by omega)
  have g0' : decide (30 < n) = false := decide_eq_false (by omega)
  clear hn h hr
  go_enter Tryd.func17, Tryd.ntmps17
  go_wp2_with (fail)
  go_loopw [3, 10] (fun _ v wr => ∃ j : Nat, j ≤ n ∧ v = .int .i64 j ∧ Below w.heap.size w wr) (fun _ v _ => n - (intOf v).toNat)
  case atStart => exact ⟨0, Nat.zero_le _, rfl, Below.refl _ _⟩
  case round =>
    obtain ⟨j, hj, rfl, hb⟩ := hrel
    by_cases hlt : j < n
    · have hjl : j < l.length := by have := Hn.out; omega
      have hrd := HR.out.keep (Same.any hb)
      obtain ⟨b1, o1, rfl, _, p0, p1⟩ := pks_cells hrd hlt Hn.out
      have hnm := H.out.nm _ (List.getElem_mem hjl)
      have hvr := H.out.vr _ (List.getElem_mem hjl)
      have hprev : ∀ (h0 : 0 < j), ∃ x : Nm, wr.cell? ⟨b1, o1 + (j - 1) * 2, none⟩ = some (str x) ∧ x < (l[j]).1 := by
        intro h0
        obtain ⟨b2, o2, hbo, _, q0, _⟩ := pks_cells hrd (show j - 1 < n by omega) Hn.out
        injection hbo with hbo
        injection hbo with hbb hoo
        subst hbb hoo
        refine ⟨_, q0, ?_⟩
        have := H.out.asc (j - 1) (by omega)
        have e : j - 1 + 1 = j := by omega
        simpa [e] using this
      generalize l[j] = y at p0 p1 hnm hvr hprev
      obtain ⟨yn, yv⟩ := y
      simp only at p0 p1 hnm hvr hprev
      have NM := fun W => Lib.hid (name_any yn W hnm)
      have HPv := Lib.hid hprev
      have i0 : (0 : Int) ≤ (j : Int) := by omega
      have i1 : (j : Int) < (n : Int) := by omega
      obtain ⟨D, hD⟩ : ∃ D, D = wr.heap.size := ⟨_, rfl⟩
      obtain ⟨W, hW⟩ : ∃ W, W = wr.alloc (.cells #[str yn, .int .i64 (yv : Nat)] 32) := ⟨_, rfl⟩
      have hbk : Blk W D 32 [str yn, .int .i64 (yv : Nat)] := by rw [hW, hD]; exact Blk.new wr _ _
      have hbW : Below wr.heap.size wr W := by rw [hW]; exact (Below.refl _ _).alloc (Nat.le_refl _) _
      have e0 := hbk.cell 0
      have e1 := hbk.cell 1
      simp only [List.getElem?_cons_zero, List.getElem?_cons_succ] at e0 e1
      have lD := hbk.lt
      have HB := Lib.hid (hb.trans (hbW.mono hb.size))
      have HW2 := Lib.hid hbW
      have g1 : decide ((yv : Int) < 1) = false := decide_eq_false (by omega)
      have g2 : decide ((yv : Int) > 9999) = false := decide_eq_false (by omega)
      have g1' : decide (yv < 1) = false := decide_eq_false (by omega)
      have g2' : decide (9999 < yv) = false := decide_eq_false (by omega)
      clear hnm hprev hrd hbk hbW hb
      go_upto_region 6 with (fail)
      rw [← hW, ← hD]
      clear hW hD p0 p1
      go_wp2_with (fail)
      refine (NM W).out.mono ?_
      rintro e w' ⟨rfl, rfl⟩
      by_cases h0 : 0 < j
      · obtain ⟨x, hc, hxy⟩ := HPv.out h0
        have hc2 := (HW2.out.cell (p := ⟨b1, o1 + (j - 1) * 2, none⟩) (lt_of_cell hc)).trans hc
        have lb := lt_of_cell hc2
        obtain ⟨k, rfl⟩ : ∃ k, j = k + 1 := ⟨j - 1, by omega⟩
        rw [show k + 1 - 1 = k by omega] at hc2
        have ew : IntKind.i64.wrap (((k + 1 : Nat) : Int) - 1) = (k : Int) := (IntWalk.i64_in _ (by omega)).trans (by omega)
        have ew2 : IntKind.i64.wrap ((k : Int) + 1 - 1) = (k : Int) := (IntWalk.i64_in _ (by omega)).trans (by omega)
        have j0 : (0 : Int) ≤ (k : Int) := by omega
        have j1 : (k : Int) < (n : Int) := by omega
        have lq : (Op.bytesLess yn x || yn == x) = false := by rw [leq_nm x yn, decide_eq_true hxy]; rfl
        have g3 : decide (((k + 1 : Nat) : Int) > 0) = true := decide_eq_true (by omega)
        clear hc
        go_wp2_with (fail)
        go_quiet (fail)
        go_wp2_with (fail)
        exact ⟨⟨k + 1 + 1, by omega, by go_num, ⟨HB.out.os, HB.out.tape, HB.out.output, HB.out.size, HB.out.block⟩⟩, by simp [intOf]; omega⟩
      · obtain rfl : j = 0 := by omega
        go_wp2_with (fail)
        go_quiet (fail)
        go_wp2_with (fail)
        exact ⟨⟨1, by omega, by go_num, ⟨HB.out.os, HB.out.tape, HB.out.output, HB.out.size, HB.out.block⟩⟩, by simp [intOf]; omega⟩
    · go_wp2_with (fail)
      go_ret
      exact ⟨rfl, hb⟩
end Go.Proofs.YtpdjeaiojfghnaaDoor
