/- An argument that is a slice of slices of ints, opened: the scripts of the replay laws. -/
import Derived.Test.YtlpkgheggbcidaaDoorLawNumS
import Derived.Test.YtlpkgheggbcidaaDoorRpMem
set_option linter.unusedVariables false
namespace Go.Law
open Go.ChangeShapes Go.WideShapes Go.ChangeAt Go.RowKit Go.Mem Go.Rp
section
variable {H : Type} {enc : TypeId × Value → H} {P : Program}
theorem open_tv {t e q : TypeId} {W : World} {base : Nat} {v : Value} {d : DataW H} {p : List MemPlace} (ht : P.underlying t = some (.slice e)) (he : P.underlying e = some (.slice q)) (hq : P.underlying q = some (.int .i64)) (ce : P.cellsOf e = 1) (cq : P.cellsOf q = 1)
    (hv : Value.okWide P W .any base t v) (h : DataW.Trod enc P W 0 (fun _ => true) true t v d p) :
    ∃ A n c l, v = .slice A n c ∧ n = l.length ∧ TvAt W W.heap.size A c l := by
  obtain ⟨A, n, c, rfl⟩ := okWide_slice ht hv
  obtain ⟨fuel, hf⟩ := h
  rcases Go.Deep.open_int_rows ht he hq ce cq hf with ⟨hcs, _⟩ | ⟨x, l, c', AA, L, C, Z, hcs, _, hl, hm, _, hrow⟩
  · simp [Value.cells] at hcs
    obtain ⟨rfl, rfl, rfl⟩ := hcs
    exact ⟨_, _, _, [], rfl, rfl, Nat.zero_le _, Nat.zero_le _, [], Reads.empty, fun i s hs => by simp at hs⟩
  · simp [Value.cells] at hcs
    obtain ⟨rfl, rfl, rfl⟩ := hcs
    refine ⟨_, _, _, (List.range n).map fun r => (Z r).take (L r), rfl, by simp, by simpa using hl, hm, (List.range n).map fun r => Value.slice (AA r) (L r) (C r), ⟨by simp, fun hn => ?_⟩, fun i s hs => ?_⟩
    · have hn : 0 < n := by simpa using hn
      obtain ⟨b, o, rfl⟩ := add_none (hrow 0 (by omega)).1
      refine ⟨b, o, rfl, ?_, fun j u hu => ?_⟩
      · have := (hrow 0 (by omega)).1
        rw [Addr.add_lit] at this
        exact lt_of_cell this
      · have hj : j < n := by
          rcases Nat.lt_or_ge j n with h | h
          · exact h
          · rw [List.getElem?_eq_none (by simp; omega)] at hu; cases hu
        have := (hrow j (by omega)).1
        rw [Addr.add_lit] at this
        rw [this, ← hu]
        simp [hj]
    · have hi : i < n := by
        rcases Nat.lt_or_ge i n with h | h
        · exact h
        · rw [List.getElem?_eq_none (by simp; omega)] at hs; cases hs
      simp [hi] at hs
      subst hs
      obtain ⟨_, r1, r2, r3, r4, r5, r6⟩ := hrow i (by omega)
      have hlen : ((Z i).take (L i)).length = L i := by rw [List.length_take]; omega
      refine ⟨AA i, C i, by simp [hi, hlen], ?_, by omega, r2⟩
      rw [hlen]
      cases hA : AA i with
      | none =>
        have hc0 := r5 hA
        have hl0 : L i = 0 := by omega
        rw [hl0]
        exact Reads.empty
      | some a' => exact (reads_of_ints (by omega) (fun c hc => (r6 a' hA).2 c (by omega))).imp (by omega) fun b _ hb => hb
end
end Go.Law
