/- slices.Contains at strings (from XQrSeg, XQrCont). -/
import Derived.Test.YtaealapgebbnlaaDoorPaShelf
import Derived.Test.YtaealapgebbnlaaDoorQrMem
set_option linter.unusedVariables false
namespace Go.Proofs.YtaealapgebbnlaaDoor
open Go.RowKit Go.Mem Go.Md
theorem strs_cells {w : World} {D : Nat → Prop} {b off : Nat} {n : Nat} {l : List Bs} (hr : Reads w D 1 (some ⟨b, off, none⟩) n (l.map bst)) (hn : 0 < n) : ∀ j, j < (l.map fun s => ByteArray.mk s.toArray).length → w.cell? ⟨b, off + j, none⟩ = some (.string ((l.map fun s => ByteArray.mk s.toArray).getD j ByteArray.empty)) := by
  intro j hj
  obtain ⟨b', o', e, _, hc⟩ := hr.2 (by omega)
  injection e with e
  injection e with e1 e2
  subst e1
  subst e2
  have hj2 : j < l.length := by simpa using hj
  refine hc j _ ?_
  rw [List.getElem?_map, List.getElem?_eq_getElem hj2, List.getD_eq_getElem?_getD, List.getElem?_map, List.getElem?_eq_getElem hj2]
  rfl
theorem contains_any (D : Nat → Prop) (A : Option Addr) (n c : Nat) (l : List Bs) (s : Bs) (w : World) (hr : Reads w D 1 A n (l.map bst)) (hn : n ≤ 100000) :
    Calls Tryd.prog 7 #[.slice A n c, bst s] w fun e w' => e = .returned (.bool (decide (s ∈ l))) ∧ w = w' := by
  have hl : n = l.length := by have := hr.1; simpa using this.symm
  rcases Nat.eq_zero_or_pos n with h0 | h0
  · subst h0
    obtain rfl : l = [] := List.eq_nil_of_length_eq_zero hl.symm
    refine (Tryd.slices_Contains_string_empty A c _ w).mono ?_
    rintro e w' ⟨rfl, rfl⟩
    exact ⟨by simp, rfl⟩
  · obtain ⟨b, off, rfl, _, _⟩ := hr.2 (by omega)
    refine (Tryd.slices_Contains_string b off n c (l.map fun s => ByteArray.mk s.toArray) _ w (by simp; omega) (by omega) (strs_cells hr h0)).mono ?_
    rintro e w' ⟨rfl, rfl⟩
    refine ⟨?_, rfl⟩
    congr 2
    rw [Bool.eq_iff_iff, Lib.containsS_iff, List.take_of_length_le (by simp; omega), decide_eq_true_eq, List.mem_map]
    constructor
    · rintro ⟨t, ht, e⟩
      have : t = s := by
        injection e with e
        have := congrArg Array.toList e
        simpa using this
      exact this ▸ ht
    · exact fun h => ⟨s, h, rfl⟩
end Go.Proofs.YtaealapgebbnlaaDoor
