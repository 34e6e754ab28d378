/- Contracts of the checks of letters: those that are right are told so. · Contract of the check of saved actors: those that are right are told so. -/
import Derived.Test.YteojmmjanjilaaaPart10
import Derived.Test.YteojmmjanjilaaaPart13
import Derived.Test.YteojmmjanjilaaaPart11
set_option linter.unusedVariables false
namespace Go.Proofs.Yteojmmjanjilaaa
open Go.RowKit Go.Mem Go.Val

set_option maxRecDepth 100000 in
theorem isZero_any (A : Option Addr) (c : Nat) (w : World) :
    Calls Try.prog 61 #[.agg #[.int .i64 0, .int .i64 0, .string ⟨#[]⟩, .slice A 0 c]] w fun e w' => e = .returned (.bool true) ∧ Below w.heap.size w w' := by
  go_enter Try.func61, Try.ntmps61
  go_wp2_with (fail)
  go_ret
  exact ⟨by simp, (Below.refl _ _).alloc (Nat.le_refl _) _⟩

/-- what a right letter is -/
def GoodL (d : Nat) (l : L) : Prop := l.text.size ≤ 4000 ∧ 0 ≤ l.from_ ∧ 0 ≤ l.to_ ∧ (1 ≤ l.kind ∧ l.kind ≤ 5) ∧ (l.kind = 2 ∨ l.kind = 5 ∨ l.text = ⟨#[]⟩) ∧ (l.kind = 2 ∨ l.num = 0) ∧ (0 ≤ l.num ∧ l.num ≤ 2) ∧ (l.kind = 1 → checkF d l.val = 0) ∧ (l.kind ≠ 1 → l.val = zeroV)

set_option maxRecDepth 100000 in
set_option maxHeartbeats 1000000 in
theorem checkL_any (d : Nat) (l : L) (cs : List Value) (w : World) (hd : d ≤ 900) (hv : LCells d w Any cs l) (hg : GoodL d l) :
    Calls Try.prog 48 #[.agg cs.toArray] w fun e w' => e = .returned (.int .i64 0) ∧ Below w.heap.size w w' := by
  obtain ⟨vs, rfl, _, hvv⟩ := hv
  obtain ⟨A, c, rfl⟩ := hvv.form
  obtain ⟨lk, lf, lt, ln, ls, X⟩ := l
  obtain ⟨g1, g2, g3, ⟨g4, g5⟩, g6, g7, ⟨g8, g9⟩, g10, g11⟩ := hg
  simp only at g1 g2 g3 g4 g5 g6 g7 g8 g9 g10 g11 hvv ⊢
  by_cases hk1 : lk = 1
  · subst hk1
    have hs0 : ls = ⟨#[]⟩ := by simpa using g6
    have hn0 : ln = 0 := by simpa using g7
    subst hs0 hn0
    have hck := g10 rfl
    obtain ⟨vk, vn, vt, va⟩ := X
    simp only [V.kind, V.num, V.text, V.args] at hvv ⊢
    have hvW : VCells d (w.alloc (.cells #[.int .i64 1, .int .i64 lf, .int .i64 lt, .int .i64 0, .string ⟨#[]⟩, .int .i64 vk, .int .i64 vn, .string vt, .slice A va.length c] 55)) Any [.int .i64 vk, .int .i64 vn, .string vt, .slice A va.length c] (V.mk vk vn vt va) := hvv.keep (Same.alloc _ _ _)
    have CK := Lib.hid (check_any d (V.mk vk vn vt va) _ _ hd hvW)
    have Hck := Lib.hid hck
    clear hck hvW g10 g11 g6 g7 hvv
    go_enter Try.func48, Try.ntmps48
    go_wp2_with (fail)
    refine CK.out.mono ?_
    rintro e w2 ⟨rfl, hb2⟩
    rw [Hck.out]
    go_wp2_with (fail)
    go_ret
    exact ⟨rfl, ((Below.refl _ _).alloc (Nat.le_refl _) _).trans (hb2.mono (by simp))⟩
  · have hz := g11 hk1
    subst hz
    simp only [zeroV, V.kind, V.num, V.text, V.args, List.length_nil] at hvv ⊢
    have IZ := Lib.hid (isZero_any A c)
    clear hvv g10 g11
    rcases (by omega : lk = 2 ∨ lk = 3 ∨ lk = 4 ∨ lk = 5) with rfl | rfl | rfl | rfl
    · clear g6 g7 hk1
      go_enter Try.func48, Try.ntmps48
      go_wp2_with (fail)
      all_goals refine (IZ.out _).mono ?_
      all_goals rintro e w2 ⟨rfl, hb2⟩
      all_goals go_wp2_with (fail)
      all_goals go_ret
      all_goals exact ⟨rfl, ((Below.refl _ _).alloc (Nat.le_refl _) _).trans (hb2.mono (by simp))⟩
    · have hs0 : ls = ⟨#[]⟩ := by simpa using g6
      have hn0 : ln = 0 := by simpa using g7
      subst hs0 hn0
      clear g6 g7 hk1
      go_enter Try.func48, Try.ntmps48
      go_wp2_with (fail)
      all_goals refine (IZ.out _).mono ?_
      all_goals rintro e w2 ⟨rfl, hb2⟩
      all_goals go_wp2_with (fail)
      all_goals go_ret
      all_goals exact ⟨rfl, ((Below.refl _ _).alloc (Nat.le_refl _) _).trans (hb2.mono (by simp))⟩
    · have hs0 : ls = ⟨#[]⟩ := by simpa using g6
      have hn0 : ln = 0 := by simpa using g7
      subst hs0 hn0
      clear g6 g7 hk1
      go_enter Try.func48, Try.ntmps48
      go_wp2_with (fail)
      all_goals refine (IZ.out _).mono ?_
      all_goals rintro e w2 ⟨rfl, hb2⟩
      all_goals go_wp2_with (fail)
      all_goals go_ret
      all_goals exact ⟨rfl, ((Below.refl _ _).alloc (Nat.le_refl _) _).trans (hb2.mono (by simp))⟩
    · have hn0 : ln = 0 := by simpa using g7
      subst hn0
      clear g6 g7 hk1
      go_enter Try.func48, Try.ntmps48
      go_wp2_with (fail)
      all_goals refine (IZ.out _).mono ?_
      all_goals rintro e w2 ⟨rfl, hb2⟩
      all_goals go_wp2_with (fail)
      all_goals go_ret
      all_goals exact ⟨rfl, ((Below.refl _ _).alloc (Nat.le_refl _) _).trans (hb2.mono (by simp))⟩
end Go.Proofs.Yteojmmjanjilaaa
set_option linter.unusedVariables false
namespace Go.Proofs.Yteojmmjanjilaaa
open Go.RowKit Go.Mem Go.Val

def GoodI (d : Nat) (i : In) : Prop := (1 ≤ i.kind ∧ i.kind ≤ 3) ∧ (i.kind ≠ 3 → checkF d i.val = 0) ∧ (i.kind = 3 → i.val = zeroV)
def GoodS (d : Nat) (s : Sv) : Prop := (1 ≤ s.actor.size ∧ s.actor.size ≤ 16) ∧ s.state.length ≤ 6 ∧ s.inputs.length ≤ 2000 ∧ (∀ v ∈ s.state, checkF d v = 0) ∧ ∀ i ∈ s.inputs, GoodI d i

set_option maxRecDepth 100000 in
set_option maxHeartbeats 2000000 in
theorem checkS_any (d : Nat) (s : Sv) (cs : List Value) (w : World) (hd : d ≤ 900) (hv : SvCells d w Any cs s) (hg : GoodS d s) :
    Calls Try.prog 59 #[.agg cs.toArray] w fun e w' => e = .returned (.int .i64 0) ∧ Below w.heap.size w w' := by
  obtain ⟨A1, c1, vs1, A2, c2, vs2, rfl, _, _, _, r1, a1, r2, a2⟩ := hv
  obtain ⟨sa, ss, si⟩ := s
  obtain ⟨⟨g1, g2⟩, g3, g4, g5, g6⟩ := hg
  simp only at g1 g2 g3 g4 g5 g6 r1 a1 r2 a2 ⊢
  have G5 := Lib.hid g5
  have G6 := Lib.hid g6
  have hbx := Blk.new w 44 [.string sa, .slice A1 ss.length c1, .slice A2 si.length c2]
  have hbel : Below w.heap.size w (w.alloc (.cells #[.string sa, .slice A1 ss.length c1, .slice A2 si.length c2] 44)) := (Below.refl _ _).alloc (Nat.le_refl _) _
  clear g5 g6
  have g1' : decide ((sa.size : Int) < 1) = false := by simp; omega
  have g2' : decide ((16 : Int) < (sa.size : Int)) = false := by simp; omega
  have g3' : decide ((6 : Int) < (ss.length : Int)) = false := by simp; omega
  have g4' : decide ((2000 : Int) < (si.length : Int)) = false := by simp; omega
  go_enter Try.func59, Try.ntmps59
  go_wp2_with (fail)
  obtain ⟨W, hW⟩ : ∃ W, W = w.alloc (.cells #[.string sa, .slice A1 ss.length c1, .slice A2 si.length c2] 44) := ⟨_, rfl⟩
  rw [← hW] at hbel
  have hbW : Blk W w.heap.size 44 [.string sa, .slice A1 ss.length c1, .slice A2 si.length c2] := by rw [hW]; exact hbx
  rw [← hW]
  clear hW hbx
  go_loopw [34] (fun v wr => ∃ k : Nat, k ≤ ss.length ∧ v = .int .i64 k ∧ Below W.heap.size W wr) (fun v _ => ss.length - (intOf v).toNat)
  case atStart => exact ⟨0, Nat.zero_le _, rfl, Below.refl _ _⟩
  case round =>
    obtain ⟨k, hk, rfl, hb⟩ := hrel
    have hwr : Below w.heap.size w wr := hbel.trans (hb.mono hbel.size)
    by_cases hlt : k < ss.length
    · obtain ⟨b, off, cs, rfl, hD, hv, hcell⟩ := r1.elem (VCells.stable d) a1 rfl hlt
      have hck := G5.out _ (List.getElem_mem hlt)
      generalize ss[k] = X at hv hck
      obtain ⟨vk, vn, vt, va⟩ := X
      obtain ⟨A4, c4, rfl⟩ := hv.form
      simp only [V.kind, V.num, V.text, V.args] at hcell hv
      have hsame : Same Any w wr := Same.any hwr
      have g0 := hsame.cell hD (hcell 0 _ rfl)
      have g1 := hsame.cell hD (hcell 1 _ rfl)
      have g2 := hsame.cell hD (hcell 2 _ rfl)
      have g3 := hsame.cell hD (hcell 3 _ rfl)
      simp only [Nat.add_zero, ← Nat.add_assoc] at g0 g1 g2 g3
      have CK := Lib.hid (check_any d (V.mk vk vn vt va) _ (wr.alloc (.cells #[.int .i64 vk, .int .i64 vn, .string vt, .slice A4 va.length c4] 53)) hd ((hv.keep hsame).keep (Same.alloc _ _ _)))
      have Hck := Lib.hid hck
      clear hck hcell hv hsame
      go_wp2_with (fail)
      refine CK.out.mono ?_
      rintro e w2 ⟨rfl, hb2⟩
      rw [Hck.out]
      go_wp2_with (fail)
      exact ⟨⟨k + 1, by omega, by go_num, (hb.alloc hb.size _).trans (hb2.mono (by have := hb.size; simp; omega))⟩, by simp [intOf]; omega⟩
    · have hb1 := hbW.below hb hbW.lt
      have t2 := hb1.cell 2
      simp only [List.getElem?_cons_succ, List.getElem?_cons_zero] at t2
      have hb1w := hwr
      have hszw := hb.size
      clear hb1 r1 a1
      go_wp2_with (fail)
      go_loopw [47] (fun v wr => ∃ k : Nat, k ≤ si.length ∧ v = .int .i64 k ∧ Below w.heap.size w wr) (fun v _ => si.length - (intOf v).toNat)
      case atStart => exact ⟨0, Nat.zero_le _, rfl, hb1w⟩
      case round =>
        obtain ⟨j, hj, rfl, hbq⟩ := hrel
        by_cases hlt2 : j < si.length
        · obtain ⟨b, off, cs, rfl, hD, hv, hcell⟩ := r2.elem (InCells.stable d) a2 rfl hlt2
          have hgi := G6.out _ (List.getElem_mem hlt2)
          generalize si[j] = I at hv hgi
          obtain ⟨ik, X⟩ := I
          obtain ⟨vs, rfl, _, hvv⟩ := hv
          obtain ⟨A4, c4, rfl⟩ := hvv.form
          obtain ⟨⟨i1, i2⟩, i3, i4⟩ := hgi
          simp only at i1 i2 i3 i4 hvv hcell
          have hsame : Same Any w wr := Same.any hbq
          have g0 := hsame.cell hD (hcell 0 _ rfl)
          have g1 := hsame.cell hD (hcell 1 _ rfl)
          have g2 := hsame.cell hD (hcell 2 _ rfl)
          have g3 := hsame.cell hD (hcell 3 _ rfl)
          have g4 := hsame.cell hD (hcell 4 _ rfl)
          simp only [Nat.add_zero, ← Nat.add_assoc] at g0 g1 g2 g3 g4
          by_cases hk3 : ik = 3
          · subst hk3
            have hz := i4 rfl
            subst hz
            simp only [zeroV, V.kind, V.num, V.text, V.args, List.length_nil] at g1 g2 g3 g4 hvv
            have IZ := Lib.hid (isZero_any A4 c4)
            clear hvv hcell i3 i4 hsame
            go_wp2_with (fail)
            refine (IZ.out _).mono ?_
            rintro e w2 ⟨rfl, hb2⟩
            have hb3 : Below w.heap.size w w2 := (hbq.alloc hbq.size _).trans (hb2.mono (by have := hbq.size; simp; omega))
            have hy2 := (Blk.new wr 83 [.int .i64 3, .int .i64 0, .int .i64 0, .string ⟨#[]⟩, .slice A4 0 c4]).below hb2 (by simp)
            have y0 := hy2.cell 0
            simp only [List.getElem?_cons_zero] at y0
            clear hy2 hb2
            go_wp2_with (fail)
            exact ⟨⟨j + 1, by omega, by go_num, hb3⟩, by simp [intOf]; omega⟩
          · have h3 : (ik == 3) = false := by simpa using hk3
            have h3' : (ik != 3) = true := by simpa using hk3
            have hck := i3 hk3
            obtain ⟨vk, vn, vt, va⟩ := X
            simp only [V.kind, V.num, V.text, V.args] at g1 g2 g3 g4 hvv
            have CK := Lib.hid (check_any d (V.mk vk vn vt va) _ (wr.alloc (.cells #[.int .i64 ik, .int .i64 vk, .int .i64 vn, .string vt, .slice A4 va.length c4] 83)) hd ((hvv.keep hsame).keep (Same.alloc _ _ _)))
            have Hck := Lib.hid hck
            clear hck hvv hcell i3 i4 hsame hk3
            go_wp2_with (fail)
            refine CK.out.mono ?_
            rintro e w2 ⟨rfl, hb2⟩
            rw [Hck.out]
            have hb3 : Below w.heap.size w w2 := (hbq.alloc hbq.size _).trans (hb2.mono (by have := hbq.size; simp; omega))
            clear hb2
            go_wp2_with (fail)
            exact ⟨⟨j + 1, by omega, by go_num, hb3⟩, by simp [intOf]; omega⟩
        · go_wp2_with (fail)
          go_ret
          exact ⟨rfl, hbq⟩
end Go.Proofs.Yteojmmjanjilaaa
