/- Words for blocks that are written cell by cell, over any program. No condition. -/
import Derived.Test.YtckkelppdeampaaMem
set_option linter.unusedVariables false
namespace Go.Mem
open Go.RowKit
/-- cells from an offset on are written, one behind the other -/
def setRow (w : World) (g : Nat) : Nat → List Value → World
  | _, [] => w
  | o, v :: vs => setRow (w.setCell ⟨g, o, none⟩ v) g (o + 1) vs
theorem setRow_heap {g b : Nat} (hb : b ≠ g) : ∀ (vs : List Value) (w : World) (o : Nat), (setRow w g o vs).heap[b]? = w.heap[b]?
  | [], _, _ => rfl
  | v :: vs, w, o => (setRow_heap hb vs (w.setCell ⟨g, o, none⟩ v) (o + 1)).trans (Below.heap_setCell w _ _ b hb)
theorem setRow_size (g : Nat) : ∀ (vs : List Value) (w : World) (o : Nat), (setRow w g o vs).heap.size = w.heap.size
  | [], _, _ => rfl
  | v :: vs, w, o => (setRow_size g vs (w.setCell ⟨g, o, none⟩ v) (o + 1)).trans (by simp [World.setCell])
theorem setRow_same {D : Nat → Prop} {g : Nat} (h : ¬ D g) (vs : List Value) (w : World) (o : Nat) : Same D w (setRow w g o vs) := fun b hb _ => setRow_heap (by rintro rfl; exact h hb) vs w o
theorem setRow_blk_at {g : Nat} {t : TypeId} : ∀ (vs pre old : List Value) (w : World), Blk w g t (pre ++ old) → old.length = vs.length → Blk (setRow w g pre.length vs) g t (pre ++ vs)
  | [], pre, old, w, h, hl => by
    have : old = [] := List.eq_nil_of_length_eq_zero (by simpa using hl)
    subst this
    exact h
  | v :: vs, pre, [], w, h, hl => by simp at hl
  | v :: vs, pre, x :: old, w, h, hl => by
    have h1 := h.put pre.length v
    have e1 : (pre ++ x :: old).set pre.length v = (pre ++ [v]) ++ old := by simp
    rw [e1] at h1
    have h2 := setRow_blk_at vs (pre ++ [v]) old _ h1 (by simpa using hl)
    simpa [setRow] using h2
theorem setRow_blk {g : Nat} {t : TypeId} {old : List Value} {w : World} (h : Blk w g t old) (vs : List Value) (hl : old.length = vs.length) : Blk (setRow w g 0 vs) g t vs := setRow_blk_at vs [] old w h hl
theorem setRow_grown {a : World} {R g : Nat} (hg : g = R ∨ a.heap.size ≤ g) : ∀ (vs : List Value) (w : World) (o : Nat), a.grownBy w (some R) → a.grownBy (setRow w g o vs) (some R)
  | [], _, _, h => h
  | v :: vs, w, o, h => setRow_grown hg vs _ _ (grownBy_setCell (p := ⟨g, o, none⟩) h hg v)
theorem setRow_below {a : World} {B g : Nat} (hg : B ≤ g) : ∀ (vs : List Value) (w : World) (o : Nat), Below B a w → Below B a (setRow w g o vs)
  | [], _, _, h => h
  | v :: vs, w, o, h => setRow_below hg vs _ _ (h.setCell (p := ⟨g, o, none⟩) hg v)
end Go.Mem
