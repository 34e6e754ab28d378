/- An argument that is a slice of ints, opened. Over any program. -/
import Derived.Test.YtlpkgheggbcidaaDoorLaw
import Derived.Test.YtlpkgheggbcidaaDoorNumD
import Derived.Test.YtlpkgheggbcidaaDoorRest
set_option linter.unusedVariables false
namespace Go.Law
open Go.ChangeShapes Go.WideShapes Go.ChangeAt Go.RowKit Go.Mem
section
variable {H : Type} {enc : TypeId × Value → H} {P : Program}
theorem open_nums {t e : TypeId} {W : World} {base : Nat} {v : Value} {d : DataW H} {p : List MemPlace} (ht : P.underlying t = some (.slice e)) (he : P.underlying e = some (.int .i64)) (hc : P.cellsOf e = 1)
    (hv : Value.okWide P W .any base t v) (h : DataW.Trod enc P W 0 (fun _ => true) true t v d p) : ∃ A n c l, v = .slice A n c ∧ n = l.length ∧ n ≤ c ∧ c ≤ maxLen ∧ Reads W Any 1 A n (nums l) ∧ ∀ x ∈ l, -9223372036854775808 ≤ x ∧ x ≤ 9223372036854775807 := by
  obtain ⟨A, n, c, rfl⟩ := okWide_slice ht hv
  obtain ⟨fuel, hf⟩ := h
  rcases open_ints ht he hc hf with ⟨hcs, _⟩ | ⟨x, l, c', zs, hcs, _, hl, hm, hz, _, hcell, hwz⟩
  · simp [Value.cells] at hcs
    obtain ⟨rfl, rfl, rfl⟩ := hcs
    exact ⟨_, _, _, [], rfl, rfl, Nat.le_refl _, Nat.zero_le _, Reads.empty, fun x hx => by simp at hx⟩
  · simp [Value.cells] at hcs
    obtain ⟨rfl, rfl, rfl⟩ := hcs
    simp only [if_true] at hz
    have h1 := reads_of_ints (len := n) (by omega) hcell
    exact ⟨_, _, _, zs.take n, rfl, by simp; omega, hl, hm, h1, fun x hx => i64_of_wf (hwz x (List.mem_of_mem_take hx))⟩
end
end Go.Law
