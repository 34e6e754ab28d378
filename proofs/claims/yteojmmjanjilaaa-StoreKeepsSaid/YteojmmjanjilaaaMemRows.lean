/- Words for several rows of the call's own that lie apart, over any program. -/
import Derived.Test.YteojmmjanjilaaaMem
set_option linter.unusedVariables false
namespace Go.Mem
open Go.RowKit
structure RowD where
  E : TypeId
  size : Nat
  v : Value
  n : Nat
  xs : List Value
/-- each is a row of the call's own; no two lie in one block -/
def RowsAt (w : World) (base : Nat) (rs : List RowD) : Prop :=
  (∀ (i : Nat) (r : RowD), rs[i]? = some r → w.ownsRow base r.E r.size r.v r.n r.xs) ∧ ∀ (i j : Nat) (a b : RowD) (k : Nat), i ≠ j → rs[i]? = some a → rs[j]? = some b → a.v.ownBlock = some k → b.v.ownBlock ≠ some k
/-- blocks from base on that are no row's -/
def OffRows (base : Nat) (rs : List RowD) (b : Nat) : Prop := base ≤ b ∧ ∀ (i : Nat) (r : RowD), rs[i]? = some r → r.v.ownBlock ≠ some b
theorem own_keep {w w' : World} {base : Nat} {e : TypeId} {size n : Nat} {v : Value} {xs : List Value} (h : w.ownsRow base e size v n xs) (hk : ∀ b, v.ownBlock = some b → b < w.heap.size → w'.heap[b]? = w.heap[b]?) : w'.ownsRow base e size v n xs := by
  refine ⟨h.1, ?_⟩
  rcases h.2 with hn | ⟨g, cap, cur, rfl, hb, hg, rest⟩
  · exact .inl hn
  · exact .inr ⟨g, cap, cur, rfl, hb, (hk g rfl (Array.getElem?_eq_some_iff.1 hg).1).trans hg, rest⟩
theorem RowsAt.keep {w w' : World} {base : Nat} {rs : List RowD} (h : RowsAt w base rs) (hk : Same (fun b => base ≤ b) w w') : RowsAt w' base rs :=
  ⟨fun i r hr => own_keep (h.1 i r hr) fun b hb hl => hk b ((h.1 i r hr).lt b hb).1 hl, h.2⟩
section
variable {w w' : World} {base i n' : Nat} {rs : List RowD} {r : RowD} {o : Obj} {v' : Value} {xs' : List Value}
theorem RowsAt.set (h : RowsAt w base rs) (hi : rs[i]? = some r) (hg : (w.alloc o).grownBy w' r.v.ownBlock) (hat : v'.ownBlock = r.v.ownBlock ∨ v'.ownBlock = some (w.alloc o).heap.size) (hown : w'.ownsRow base r.E r.size v' n' xs') : RowsAt w' base (rs.set i ⟨r.E, r.size, v', n', xs'⟩) := by
  have hil : i < rs.length := (List.getElem?_eq_some_iff.1 hi).1
  have other : ∀ (j : Nat) (a : RowD), j ≠ i → rs[j]? = some a → ∀ k, a.v.ownBlock = some k → v'.ownBlock ≠ some k := by
    intro j a hj ha k hk hv
    rcases hat with e | e
    · exact h.2 j i a r k hj ha hi hk (e ▸ hv)
    · rw [e] at hv
      injection hv with hv
      have := ((h.1 j a ha).lt k hk).2
      simp at hv
      omega
  refine ⟨fun j a ha => ?_, fun j k a b m hjk ha hb hm => ?_⟩
  · by_cases hj : j = i
    · subst hj
      rw [List.getElem?_set_self hil] at ha
      injection ha with ha
      subst ha
      exact hown
    · rw [List.getElem?_set_ne (by omega)] at ha
      refine own_keep (h.1 j a ha) fun b hb hl => (hg.block b (by simp; omega) ?_).trans (Below.heap_alloc w o b hl)
      exact fun e => h.2 j i a r b hj ha hi hb e.symm
  · by_cases hj : j = i
    · subst hj
      rw [List.getElem?_set_self hil] at ha
      injection ha with ha
      subst ha
      rw [List.getElem?_set_ne hjk] at hb
      exact fun e => other k b (by omega) hb m e hm
    · rw [List.getElem?_set_ne (by omega)] at ha
      by_cases hk : k = i
      · subst hk
        rw [List.getElem?_set_self hil] at hb
        injection hb with hb
        subst hb
        exact other j a hj ha m hm
      · rw [List.getElem?_set_ne (by omega)] at hb
        exact h.2 j k a b m hjk ha hb hm
/-- a thing that lies off the rows does so behind an append -/
theorem RowsAt.off {β : Type} {size : Nat} {R : World → (Nat → Prop) → List Value → β → Prop} (hS : Stable size R) {cs : List Value} {y : β} (h : RowsAt w base rs) (hi : rs[i]? = some r) (hg : (w.alloc o).grownBy w' r.v.ownBlock) (hat : v'.ownBlock = r.v.ownBlock ∨ v'.ownBlock = some (w.alloc o).heap.size) (hy : R w (OffRows base rs) cs y) :
    R w' (OffRows base (rs.set i ⟨r.E, r.size, v', n', xs'⟩)) cs y := by
  have hil : i < rs.length := (List.getElem?_eq_some_iff.1 hi).1
  have h1 : R w (fun b => OffRows base rs b ∧ b < w.heap.size) cs y := hS.imp hy fun b hb hl => ⟨hb, hl⟩
  have h2 := hS.keep (w' := w') h1 fun b hb hl => (hg.block b (by simp; omega) (fun e => hb.1.2 i r hi e.symm)).trans (Below.heap_alloc w o b hl)
  refine hS.imp h2 fun b hb _ => ⟨hb.1.1, fun j a ha => ?_⟩
  by_cases hj : j = i
  · subst hj
    rw [List.getElem?_set_self hil] at ha
    injection ha with ha
    subst ha
    intro e
    rcases hat with e1 | e1
    · exact hb.1.2 j r hi (e1 ▸ e)
    · simp only at e
      rw [e1] at e
      injection e with e
      simp at e
      omega
  · rw [List.getElem?_set_ne (by omega)] at ha
    exact hb.1.2 j a ha
end
/-- what was made from a world's end on lies off the rows -/
theorem RowsAt.fresh {w : World} {base m : Nat} {rs : List RowD} (h : RowsAt w base rs) (hm : w.heap.size ≤ m) (hb : base ≤ m) {b : Nat} (h2 : m ≤ b) : OffRows base rs b := ⟨by omega, fun i r hr e => by have := ((h.1 i r hr).lt b e).2; omega⟩
theorem RowsAt.nil5 (w : World) (base : Nat) (rs : List RowD) (h : ∀ (i : Nat) (r : RowD), rs[i]? = some r → r.v = .slice none 0 0 ∧ r.n = 0 ∧ r.xs = []) : RowsAt w base rs :=
  ⟨fun i r hr => by obtain ⟨h1, h2, h3⟩ := h i r hr; rw [h1, h2, h3]; exact World.ownsRow_nil _ _ _ _, fun i j a b k _ ha _ hk => by rw [(h i a ha).1] at hk; simp [Value.ownBlock] at hk⟩
/-- .. and a cell of another block is written -/
theorem grown_put {w : World} {base g5 : Nat} (hb : g5 < base) (off : Nat) (v : Value) : Same (fun b => base ≤ b) w (w.setCell ⟨g5, off, none⟩ v) := fun b hb' _ => Below.heap_setCell w _ _ b (by simp; omega)
theorem All2.app {α β : Type} {R : α → β → Prop} {xs xs' : List α} {ys ys' : List β} (h : All2 R xs ys) (h' : All2 R xs' ys') : All2 R (xs ++ xs') (ys ++ ys') := by
  have hl := h.1
  refine ⟨by simp [h.1, h'.1], fun i a b h1 h2 => ?_⟩
  by_cases hi : i < xs.length
  · rw [List.getElem?_append_left hi] at h1
    rw [List.getElem?_append_left (by omega)] at h2
    exact h.2 i a b h1 h2
  · rw [List.getElem?_append_right (by omega)] at h1
    rw [List.getElem?_append_right (by omega), ← hl] at h2
    exact h'.2 _ a b h1 h2
end Go.Mem
