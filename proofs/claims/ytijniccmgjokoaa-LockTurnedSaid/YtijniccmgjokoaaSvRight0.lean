/- The two functions that Right hands to slices.IndexFunc. -/
import Derived.Test.YtijniccmgjokoaaSvFind
import Derived.Test.YtijniccmgjokoaaSvSeg
set_option linter.unusedVariables false
namespace Go.Proofs.Ytijniccmgjokoaa
open Go.RowKit Go.Mem Go.Sv
theorem beq_nm (x y : Nm) : (x == y) = decide (x = y) := by
  rw [Bool.eq_iff_iff, beq_iff_eq, decide_eq_true_eq]
set_option maxRecDepth 100000 in
theorem right1_any (p : Pk) (u : Us) (U : Nat) (w : World) (h : w.cell? ⟨U, 0, none⟩ = some (str u.name)) (lU : U < w.heap.size) :
    Calls Try.prog 36 #[.agg #[str p.1, .int .i64 (p.2 : Nat)], .pointer (some ⟨U, 0, none⟩)] w fun e w' => e = .returned (.bool (decide (p.1 = u.name))) ∧ Below w.heap.size w w' := by
  obtain ⟨x, v⟩ := p
  generalize hr : decide (x = u.name) = r
  have nq : (x == u.name) = r := (beq_nm x u.name).trans hr
  clear hr
  go_enter Try.func36, Try.ntmps36
  go_wp2_with (fail)
  go_ret
  exact ⟨nq ▸ rfl, (Below.refl _ _).alloc (Nat.le_refl _) _⟩
set_option maxRecDepth 100000 in
theorem right2_any (m : Md) (B : Option Addr) (nb cb : Nat) (u : Us) (U T I : Nat) (w : World) (A : Option Addr) (n c : Nat) (picks : List Pk) (j : Nat) (hj : j < picks.length) (hn : n = picks.length) (hnm : n ≤ 1000)
    (h : w.cell? ⟨U, 0, none⟩ = some (str u.name)) (lU : U < w.heap.size) (hT : w.cell? ⟨T, 0, none⟩ = some (.slice A n c)) (lT : T < w.heap.size) (hI : w.cell? ⟨I, 0, none⟩ = some (.int .i64 (j : Nat))) (lI : I < w.heap.size) (hp : Reads w Any 2 A n (pks picks)) :
    Calls Try.prog 38 #[.agg #[str m.name, .int .i64 (m.ver : Nat), .slice B nb cb], .pointer (some ⟨U, 0, none⟩), .pointer (some ⟨T, 0, none⟩), .pointer (some ⟨I, 0, none⟩)] w fun e w' => e = .returned (.bool (decide (m.name = u.name) && decide (m.ver = (picks[j]).2))) ∧ Below w.heap.size w w' := by
  obtain ⟨b1, o1, rfl, _, p0, p1⟩ := pks_cells hp (by omega : j < n) hn
  obtain ⟨x, v, us⟩ := m
  simp only
  generalize (picks[j]).2 = pv at p1 ⊢
  have i0 : (0 : Int) ≤ (j : Int) := by omega
  have i1 : (j : Int) < (n : Int) := by omega
  obtain ⟨D, hD⟩ : ∃ D, D = w.heap.size := ⟨_, rfl⟩
  obtain ⟨W, hW⟩ : ∃ W, W = w.alloc (.cells #[str x, .int .i64 (v : Nat), .slice B nb cb] 45) := ⟨_, rfl⟩
  have hbk : Blk W D 45 [str x, .int .i64 (v : Nat), .slice B nb cb] := by rw [hW, hD]; exact Blk.new w _ _
  have hbW : Below w.heap.size w W := by rw [hW]; exact (Below.refl _ _).alloc (Nat.le_refl _) _
  have e0 := hbk.cell 0
  have e1 := hbk.cell 1
  simp only [List.getElem?_cons_zero, List.getElem?_cons_succ] at e0 e1
  have lD := hbk.lt
  have lb := lt_of_cell p1
  have h' := (hbW.cell (p := ⟨U, 0, none⟩) lU).trans h
  have hT' := (hbW.cell (p := ⟨T, 0, none⟩) lT).trans hT
  have hI' := (hbW.cell (p := ⟨I, 0, none⟩) lI).trans hI
  have p1' := (hbW.cell (p := ⟨b1, o1 + j * 2 + 1, none⟩) lb).trans p1
  have hs := hbW.size
  have lU' : U < W.heap.size := by omega
  have lT' : T < W.heap.size := by omega
  have lI' : I < W.heap.size := by omega
  have lb' : b1 < W.heap.size := by omega
  have HBW := Lib.hid hbW
  by_cases ex : x = u.name
  · have nq : (x == u.name) = true := (beq_nm x u.name).trans (decide_eq_true ex)
    generalize hr : (decide (x = u.name) && decide (v = pv)) = r
    have nv : ((v : Int) == (pv : Int)) = r := by
      rw [← hr, decide_eq_true ex, Bool.true_and, Bool.eq_iff_iff, beq_iff_eq, decide_eq_true_eq]
      omega
    clear hr ex h hT hI p1 p0 lU lT lI lb hp hbk hbW hs
    go_enter Try.func38, Try.ntmps38
    go_upto_region 1 with (fail)
    rw [← hW, ← hD]
    clear hW hD
    go_region
    all_goals
      go_wp2_with (fail)
      go_ret
      first
        | exact ⟨by rw [nv], ⟨HBW.out.os, HBW.out.tape, HBW.out.output, HBW.out.size, HBW.out.block⟩⟩
        | exact ⟨rfl, ⟨HBW.out.os, HBW.out.tape, HBW.out.output, HBW.out.size, HBW.out.block⟩⟩
  · have nq : (x == u.name) = false := (beq_nm x u.name).trans (decide_eq_false ex)
    rw [decide_eq_false ex, Bool.false_and]
    clear ex h hT hI p1 p0 lU lT lI lb hp hbk hbW hs
    go_enter Try.func38, Try.ntmps38
    go_upto_region 1 with (fail)
    rw [← hW, ← hD]
    clear hW hD
    go_region
    all_goals
      go_wp2_with (fail)
      go_ret
      exact ⟨rfl, ⟨HBW.out.os, HBW.out.tape, HBW.out.output, HBW.out.size, HBW.out.block⟩⟩
end Go.Proofs.Ytijniccmgjokoaa
