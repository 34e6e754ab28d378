/- slices.Contains and slices.ContainsFunc at strings. -/
import Derived.Test.YtaealapgebbnlaaGreatDoorQrQuery
set_option linter.unusedVariables false
namespace Go.Proofs.YtaealapgebbnlaaGreatDoor
open Go.RowKit Go.Mem Go.Md Go.Maps
theorem contains_any (D : Nat → Prop) (A : Option Addr) (n c : Nat) (l : List Bs) (s : Bs) (w : World) (hr : Reads w D 1 A n (l.map bst)) (hn : n ≤ 100000) :
    Calls Tryz.prog 10 #[.slice A n c, bst s] w fun e w' => e = .returned (.bool (decide (s ∈ l))) ∧ w = w' := by
  have hl : n = l.length := by have := hr.1; simpa using this.symm
  rcases Nat.eq_zero_or_pos n with h0 | h0
  · subst h0
    obtain rfl : l = [] := List.eq_nil_of_length_eq_zero hl.symm
    refine (Tryz.slices_Contains_string_empty A c _ w).mono ?_
    rintro e w' ⟨rfl, rfl⟩
    exact ⟨by simp, rfl⟩
  · obtain ⟨b, off, rfl, _, _⟩ := hr.2 (by omega)
    refine (Tryz.slices_Contains_string b off n c (l.map fun s => ByteArray.mk s.toArray) _ w (by simp; omega) (by omega) (strs_cells hr h0)).mono ?_
    rintro e w' ⟨rfl, rfl⟩
    refine ⟨?_, rfl⟩
    congr 2
    rw [Bool.eq_iff_iff, Lib.containsS_iff, List.take_of_length_le (by simp; omega), decide_eq_true_eq, List.mem_map]
    constructor
    · rintro ⟨t, ht, e⟩
      have : t = s := by
        injection e with e
        have := congrArg Array.toList e
        simpa using this
      exact this ▸ ht
    · exact fun h => ⟨s, h, rfl⟩
end Go.Proofs.YtaealapgebbnlaaGreatDoor
