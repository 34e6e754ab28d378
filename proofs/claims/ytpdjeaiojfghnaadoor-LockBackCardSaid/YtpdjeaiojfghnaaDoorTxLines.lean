/- Plain words on lines of a text, as strings.Lines parts it; over any program. No condition. -/
import Derived.Lib.Bytealg
import Derived.Laws.Strings3
import Derived.Laws.Strings2
set_option linter.unusedVariables false
namespace Go.Txt
open Go
/-- a text and its lines: each with its line feed, the last one maybe without -/
inductive LinesR : List UInt8 → List (List UInt8) → Prop
  | nil : LinesR [] []
  | cons {b rest : List UInt8} {ls : List (List UInt8)} : (∀ x ∈ b, x ≠ 10) → LinesR rest ls → LinesR (b ++ 10 :: rest) ((b ++ [10]) :: ls)
  | last {b : List UInt8} : b ≠ [] → (∀ x ∈ b, x ≠ 10) → LinesR b [b]
theorem indexByte_none (c : UInt8) : ∀ (l : List UInt8), (∀ b ∈ l, b ≠ c) → Lib.indexByte l c = -1
  | [], _ => rfl
  | b :: l, h => by
    have h1 : (b == c) = false := by simp [h b (by simp)]
    have h2 := indexByte_none c l fun x hx => h x (by simp [hx])
    unfold Lib.indexByte
    rw [h1, h2]
    rfl
theorem indexByte_at (c : UInt8) (r : List UInt8) : ∀ (l : List UInt8), (∀ b ∈ l, b ≠ c) → Lib.indexByte (l ++ c :: r) c = (l.length : Int)
  | [], _ => by simp [Lib.indexByte]
  | b :: l, h => by
    have h1 : (b == c) = false := by simp [h b (by simp)]
    have h2 := indexByte_at c r l fun x hx => h x (by simp [hx])
    have e : (b :: l) ++ c :: r = b :: (l ++ c :: r) := rfl
    rw [e]
    unfold Lib.indexByte
    rw [h1, h2]
    have h3 : (((l.length : Int)) == -1) = false := by simp
    rw [h3]
    simp
theorem ba_size (l : List UInt8) : (ByteArray.mk l.toArray).size = l.length := by simp [ByteArray.size]
theorem ba_take (a b : List UInt8) (k : Nat) (hk : k = a.length) : (ByteArray.mk (a ++ b).toArray).extract 0 k = ⟨a.toArray⟩ := by
  subst hk
  apply ByteArray.ext
  apply Array.ext'
  simp
theorem ba_drop (a b : List UInt8) (k n : Nat) (hk : k = a.length) (hn : n = (a ++ b).length) : (ByteArray.mk (a ++ b).toArray).extract k n = ⟨b.toArray⟩ := by
  subst hk hn
  apply ByteArray.ext
  apply Array.ext'
  simp
section
variable {P : Program} {t : TypeId}
theorem slice_head (ht : P.underlying t = some .string) (a b : List UInt8) (z : Int) (hz : z = (a.length : Int)) (w : World) : (Instr.slice t (.string ⟨(a ++ b).toArray⟩) none (some (.int .i64 z)) none).run P w = .ok (.string ⟨a.toArray⟩) w := by
  subst hz
  rw [run_slice_string_to_if w t _ _ _ ht, if_pos ⟨by omega, by rw [ba_size, List.length_append]; omega⟩, ba_take a b _ (by simp)]
theorem slice_rest (ht : P.underlying t = some .string) (a b : List UInt8) (z : Int) (hz : z = (a.length : Int)) (w : World) : (Instr.slice t (.string ⟨(a ++ b).toArray⟩) (some (.int .i64 z)) none none).run P w = .ok (.string ⟨b.toArray⟩) w := by
  subst hz
  rw [run_slice_string_from_if w t _ _ _ ht, if_pos ⟨by omega, by rw [ba_size, List.length_append]; omega⟩, ba_drop a b _ _ (by simp) (by rw [ba_size])]
end
end Go.Txt
