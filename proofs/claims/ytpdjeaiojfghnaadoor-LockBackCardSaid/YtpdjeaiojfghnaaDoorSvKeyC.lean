/- Contracts of maps.Keys and slices.Sorted at what it hands back, at modules by name. -/
import Derived.Test.YtpdjeaiojfghnaaDoorSvKeys
import Derived.Test.YtpdjeaiojfghnaaDoorSvShelf
set_option linter.unusedVariables false
namespace Go.Proofs.YtpdjeaiojfghnaaDoor
open Go.RowKit Go.Mem Go.Sv Go.Maps
abbrev sorted (l : List Nm) : List Nm := l.mergeSort leB
theorem keysC (mb : Option Nat) (W : World) : Calls Tryd.prog 15 #[.map mb] W fun e w' => e = .returned (.func (.func 35) #[] #[.pointer (some ⟨W.heap.size, 0, none⟩)]) ∧ w' = W.alloc (.cells #[.map mb] 42) :=
  callsIn_wide.1 (Tryd.maps_Keys_Sv mb W)
theorem sortedC (b : Nat) (l : List (Nm × Value)) (w : World) (h : MapOf str okS w b l) (hl : l.length ≤ 1000) :
    Calls Tryd.prog 14 #[.func (.func 35) #[] #[.pointer (some ⟨w.heap.size, 0, none⟩)]] (w.alloc (.cells #[.map (some b)] 42)) fun e w' =>
      ∃ A c, e = .returned (.slice A l.length c) ∧ Reads w' Any 1 A l.length ((sorted (l.map (·.1))).map str) ∧ Below (w.alloc (.cells #[.map (some b)] 42)).heap.size (w.alloc (.cells #[.map (some b)] 42)) w' := by
  obtain ⟨D0, h1, h2, h3⟩ := MapOf.owns Tryd.underlying9 (fun n hn => by unfold okS at hn; unfold maxLen; omega) h (by unfold maxLen; omega)
  refine (callsIn_wide.1 (Tryd.slices_Sorted_keys_Sv b _ D0 _ w h1 (by rw [h2]; unfold maxLen; omega) (by rw [h2]; omega))).mono ?_
  rintro e w' ⟨v, ss, rfl, hS, hrow, hnil, hb⟩
  have hp : ss.Perm (l.map (·.1)) := hS.trans h3
  have e1 : ss.mergeSort (fun x y => decide (x ≤ y)) = sorted (l.map (·.1)) := mergeSort_of_perm hp
  have e2 : ss.length = l.length := by have := hp.length_eq; simpa using this
  rw [e1, e2] at hrow
  obtain ⟨A, c, rfl, h4, h5⟩ := own_form hrow
  obtain ⟨q1, q2, q3⟩ := own_reads (by omega) hrow
  exact ⟨A, c, rfl, q3.imp (by omega) fun _ _ _ => trivial, hb⟩
end Go.Proofs.YtpdjeaiojfghnaaDoor
