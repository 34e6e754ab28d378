/- x[l:] and x[:h] of a slice that reads: run equations. Over any program. -/
import Derived.Test.YtaealapgebbnlaaDoorMem
set_option linter.unusedVariables false
namespace Go.Mem
open Go.RowKit
theorem slice_l {P : Program} {D : Nat → Prop} {size n c : Nat} {A : Option Addr} {xs : List Value} {w : World} (t e : TypeId) (ht : P.underlying t = some (.slice e)) (hi : (P.info? e).map (·.size) = some size) (hr : Reads w D size A n xs) (hnc : n ≤ c) (i : Nat) (him : i ≤ n) (l : Int) (hl : l = i) :
    ∃ A', (∀ W : World, (Instr.slice t (.slice A n c) (some (.int .i64 l)) none none).run P W = .ok (.slice A' (n - i) (c - i)) W) ∧ Reads w D size A' (n - i) (xs.drop (i * size)) := by
  obtain ⟨A', h1, h2⟩ := slice_lh t e ht hi hr hnc i (n - i) (by omega) l ((i + (n - i) : Nat) : Int) hl rfl
  refine ⟨A', fun W => ?_, ?_⟩
  · have e1 := h1 W
    have he : P.elem t = e := by simp [Program.elem, ht]
    rw [run_slice_lh W t A n c (by rw [he]; exact ht) .i64 .i64 _ _ (by omega) (by omega) (by omega)] at e1
    rw [run_slice_l W t A n c (by rw [he]; exact ht) .i64 _ (by omega) (by omega)]
    have e2 : (((i + (n - i) : Nat) : Int)).toNat = n := by omega
    rw [e2] at e1
    exact e1
  · have : ((xs.drop (i * size)).take ((n - i) * size)) = xs.drop (i * size) := by
      apply List.take_of_length_le
      rw [List.length_drop, hr.1, Nat.sub_mul]
      omega
    rwa [this] at h2
theorem slice_h {P : Program} {D : Nat → Prop} {size n c : Nat} {A : Option Addr} {xs : List Value} {w : World} (t e : TypeId) (ht : P.underlying t = some (.slice e)) (hi : (P.info? e).map (·.size) = some size) (hr : Reads w D size A n xs) (hnc : n ≤ c) (m : Nat) (him : m ≤ n) (h : Int) (hh : h = m) :
    (∀ W : World, (Instr.slice t (.slice A n c) none (some (.int .i64 h)) none).run P W = .ok (.slice A m c) W) ∧ Reads w D size A m (xs.take (m * size)) := by
  subst hh
  obtain ⟨inf, hinf, hsz⟩ := Option.map_eq_some_iff.1 hi
  have he : P.elem t = e := by simp [Program.elem, ht]
  refine ⟨fun W => ?_, hr.first him⟩
  rw [run_slice_h W t A n c (by rw [he]; exact ht) .i64 _ (by omega) (by omega)]
  have e0 : A.map (·.add (0 * inf.size)) = A := by
    cases A with
    | none => rfl
    | some a => simp [Addr.add]
  simp only [Nat.zero_mul] at e0
  simp [he, sizeOf, typeInfo, hinf, sliced, e0]
end Go.Mem
