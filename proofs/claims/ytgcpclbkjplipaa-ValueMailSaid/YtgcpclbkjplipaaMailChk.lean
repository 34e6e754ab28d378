/- Contracts of the checks of letters: those that are right are told so. -/
import Derived.Test.YtgcpclbkjplipaaMailEnc
import Derived.Test.YtgcpclbkjplipaaValChk
set_option linter.unusedVariables false
namespace Go.Proofs.Ytgcpclbkjplipaa
open Go.RowKit Go.Mem Go.Val

set_option maxRecDepth 100000 in
theorem isZero_any (A : Option Addr) (c : Nat) (w : World) :
    Calls Try.prog 104 #[.agg #[.int .i64 0, .int .i64 0, .string ⟨#[]⟩, .slice A 0 c]] w fun e w' => e = .returned (.bool true) ∧ Below w.heap.size w w' := by
  go_enter Try.func104, Try.ntmps104
  go_wp2_with (fail)
  go_ret
  exact ⟨by simp, (Below.refl _ _).alloc (Nat.le_refl _) _⟩

/-- what a right letter is -/
def GoodL (d : Nat) (l : L) : Prop := l.text.size ≤ 4000 ∧ 0 ≤ l.from_ ∧ 0 ≤ l.to_ ∧ (1 ≤ l.kind ∧ l.kind ≤ 5) ∧ (l.kind = 2 ∨ l.kind = 5 ∨ l.text = ⟨#[]⟩) ∧ (l.kind = 2 ∨ l.num = 0) ∧ (0 ≤ l.num ∧ l.num ≤ 2) ∧ (l.kind = 1 → checkF d l.val = 0) ∧ (l.kind ≠ 1 → l.val = zeroV)

set_option maxRecDepth 100000 in
set_option maxHeartbeats 1000000 in
theorem checkL_any (d : Nat) (l : L) (cs : List Value) (w : World) (hd : d ≤ 900) (hv : LCells d w Any cs l) (hg : GoodL d l) :
    Calls Try.prog 64 #[.agg cs.toArray] w fun e w' => e = .returned (.int .i64 0) ∧ Below w.heap.size w w' := by
  obtain ⟨vs, rfl, _, hvv⟩ := hv
  obtain ⟨A, c, rfl⟩ := hvv.form
  obtain ⟨lk, lf, lt, ln, ls, X⟩ := l
  obtain ⟨g1, g2, g3, ⟨g4, g5⟩, g6, g7, ⟨g8, g9⟩, g10, g11⟩ := hg
  simp only at g1 g2 g3 g4 g5 g6 g7 g8 g9 g10 g11 hvv ⊢
  by_cases hk1 : lk = 1
  · subst hk1
    have hs0 : ls = ⟨#[]⟩ := by simpa using g6
    have hn0 : ln = 0 := by simpa using g7
    subst hs0 hn0
    have hck := g10 rfl
    obtain ⟨vk, vn, vt, va⟩ := X
    simp only [V.kind, V.num, V.text, V.args] at hvv ⊢
    have hvW : VCells d (w.alloc (.cells #[.int .i64 1, .int .i64 lf, .int .i64 lt, .int .i64 0, .string ⟨#[]⟩, .int .i64 vk, .int .i64 vn, .string vt, .slice A va.length c] 61)) Any [.int .i64 vk, .int .i64 vn, .string vt, .slice A va.length c] (V.mk vk vn vt va) := hvv.keep (Same.alloc _ _ _)
    have CK := Lib.hid (check_any d (V.mk vk vn vt va) _ _ hd hvW)
    have Hck := Lib.hid hck
    clear hck hvW g10 g11 g6 g7 hvv
    go_enter Try.func64, Try.ntmps64
    go_wp2_with (fail)
    refine CK.out.mono ?_
    rintro e w2 ⟨rfl, hb2⟩
    rw [Hck.out]
    go_wp2_with (fail)
    go_ret
    exact ⟨rfl, ((Below.refl _ _).alloc (Nat.le_refl _) _).trans (hb2.mono (by simp))⟩
  · have hz := g11 hk1
    subst hz
    simp only [zeroV, V.kind, V.num, V.text, V.args, List.length_nil] at hvv ⊢
    have IZ := Lib.hid (isZero_any A c)
    clear hvv g10 g11
    rcases (by omega : lk = 2 ∨ lk = 3 ∨ lk = 4 ∨ lk = 5) with rfl | rfl | rfl | rfl
    · clear g6 g7 hk1
      go_enter Try.func64, Try.ntmps64
      go_wp2_with (fail)
      all_goals refine (IZ.out _).mono ?_
      all_goals rintro e w2 ⟨rfl, hb2⟩
      all_goals go_wp2_with (fail)
      all_goals go_ret
      all_goals exact ⟨rfl, ((Below.refl _ _).alloc (Nat.le_refl _) _).trans (hb2.mono (by simp))⟩
    · have hs0 : ls = ⟨#[]⟩ := by simpa using g6
      have hn0 : ln = 0 := by simpa using g7
      subst hs0 hn0
      clear g6 g7 hk1
      go_enter Try.func64, Try.ntmps64
      go_wp2_with (fail)
      all_goals refine (IZ.out _).mono ?_
      all_goals rintro e w2 ⟨rfl, hb2⟩
      all_goals go_wp2_with (fail)
      all_goals go_ret
      all_goals exact ⟨rfl, ((Below.refl _ _).alloc (Nat.le_refl _) _).trans (hb2.mono (by simp))⟩
    · have hs0 : ls = ⟨#[]⟩ := by simpa using g6
      have hn0 : ln = 0 := by simpa using g7
      subst hs0 hn0
      clear g6 g7 hk1
      go_enter Try.func64, Try.ntmps64
      go_wp2_with (fail)
      all_goals refine (IZ.out _).mono ?_
      all_goals rintro e w2 ⟨rfl, hb2⟩
      all_goals go_wp2_with (fail)
      all_goals go_ret
      all_goals exact ⟨rfl, ((Below.refl _ _).alloc (Nat.le_refl _) _).trans (hb2.mono (by simp))⟩
    · have hn0 : ln = 0 := by simpa using g7
      subst hn0
      clear g6 g7 hk1
      go_enter Try.func64, Try.ntmps64
      go_wp2_with (fail)
      all_goals refine (IZ.out _).mono ?_
      all_goals rintro e w2 ⟨rfl, hb2⟩
      all_goals go_wp2_with (fail)
      all_goals go_ret
      all_goals exact ⟨rfl, ((Below.refl _ _).alloc (Nat.le_refl _) _).trans (hb2.mono (by simp))⟩
end Go.Proofs.Ytgcpclbkjplipaa
