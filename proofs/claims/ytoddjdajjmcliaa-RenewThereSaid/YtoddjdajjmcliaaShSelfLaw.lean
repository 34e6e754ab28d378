/- ShapeSelf's plain law. -/
import Derived.Test.YtoddjdajjmcliaaShNum
set_option linter.unusedVariables false
namespace Go.Sh
open Go.Proofs.Ytoddjdajjmcliaa
def pd (y : Nat) (bad : Bool) : List Dt := [dD y, dL bad, dE]
/-- whether two types are the same, to a depth that is enough for the laws -/
def same12 (P Q : List Dt) (a b : Ty) : Option Bool := (sameF P Q 12 [] a b [] []).map (·.1)
def progs : List (List Dt) := [pd 1 true, pd 1 false, pd 2 true, pd 2 false]
theorem self_all : (progs.all fun P => typesF.all fun a => (same12 P P a a == some true) && (same12 P P (.mk 7 [] [a]) (.mk 7 [] [a]) == some false)) = true := by decide +kernel
theorem sym_all : (progs.all fun P => progs.all fun Q => typesF.all fun a => typesF.all fun b => (same12 P Q a b).isSome && (same12 P Q a b == same12 Q P b a)) = true := by decide +kernel
theorem pd_mem {y : Nat} (hy : 1 ≤ y ∧ y ≤ 2) (bad : Bool) : pd y bad ∈ progs := by
  have : y = 1 ∨ y = 2 := by omega
  rcases this with rfl | rfl <;> cases bad <;> simp [progs]
theorem same_of {P Q : List Dt} {a b : Ty} {r : Bool} (h : same12 P Q a b = some r) : ∃ s, sameF P Q 12 [] a b [] [] = some (r, s) := by
  obtain ⟨x, h1, h2⟩ := Option.map_eq_some_iff.1 h
  obtain ⟨r', s⟩ := x
  simp only at h2
  subst h2
  exact ⟨s, h1⟩
theorem self_law {P : List Dt} (hP : P ∈ progs) {a : Ty} (ha : a ∈ typesF) : (∃ s, sameF P P 12 [] a a [] [] = some (true, s)) ∧ ∃ s, sameF P P 12 [] (.mk 7 [] [a]) (.mk 7 [] [a]) [] [] = some (false, s) := by
  have h := List.all_eq_true.1 (List.all_eq_true.1 self_all P hP) a ha
  rw [Bool.and_eq_true] at h
  exact ⟨same_of (by simpa using h.1), same_of (by simpa using h.2)⟩
theorem sym_law {P Q : List Dt} (hP : P ∈ progs) (hQ : Q ∈ progs) {a b : Ty} (ha : a ∈ typesF) (hb : b ∈ typesF) : ∃ r, (∃ s, sameF P Q 12 [] a b [] [] = some (r, s)) ∧ ∃ s, sameF Q P 12 [] b a [] [] = some (r, s) := by
  have h := List.all_eq_true.1 (List.all_eq_true.1 (List.all_eq_true.1 (List.all_eq_true.1 sym_all P hP) Q hQ) a ha) b hb
  rw [Bool.and_eq_true] at h
  obtain ⟨r, hr⟩ := Option.isSome_iff_exists.1 h.1
  have h2 : same12 Q P b a = some r := by rw [← hr]; exact (by simpa using h.2 : same12 P Q a b = same12 Q P b a).symm
  exact ⟨r, same_of hr, same_of h2⟩
theorem tyF_mem (i : Nat) : tyF i ∈ typesF := by
  unfold tyF
  rcases h : typesF[i]? with _ | t
  · simp [typesF]
  · exact List.mem_of_getElem? h
theorem idxF_pos {bits : Nat} (h : 1 ≤ bits ∧ bits ≤ 511) : 0 < (idxF bits 9).length := by
  have key : ((List.range 512).all fun b => b == 0 || decide (0 < (idxF b 9).length)) = true := by decide +kernel
  have := List.all_eq_true.1 key bits (List.mem_range.2 (by omega))
  simp at this
  rcases this with h1 | h1
  · omega
  · exact h1
end Go.Sh
