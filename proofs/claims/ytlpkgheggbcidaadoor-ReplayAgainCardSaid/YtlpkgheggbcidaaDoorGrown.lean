/- Only blocks of one part have changed: over any program. No condition. -/
import Derived.Test.YtlpkgheggbcidaaDoorMem
set_option linter.unusedVariables false
namespace Go.Mem
open Go.RowKit
structure GrownIn (own : Nat → Prop) (w w' : World) : Prop where
  os : w'.os = w.os
  tape : w'.tape = w.tape
  output : w'.output = w.output
  size : w.heap.size ≤ w'.heap.size
  block : ∀ k, k < w.heap.size → ¬ own k → w'.heap[k]? = w.heap[k]?
theorem GrownIn.refl (own : Nat → Prop) (w : World) : GrownIn own w w := ⟨rfl, rfl, rfl, Nat.le_refl _, fun _ _ _ => rfl⟩
theorem GrownIn.of_grown {own : Nat → Prop} {w w' : World} {row : Option Nat} (h : w.grownBy w' row) (hr : ∀ k, row = some k → own k) : GrownIn own w w' :=
  ⟨h.os, h.tape, h.output, h.size, fun k hk hn => h.block k hk (fun e => hn (hr k e.symm))⟩
theorem GrownIn.of_below {own : Nat → Prop} {w w' : World} (h : Below w.heap.size w w') : GrownIn own w w' := ⟨h.os, h.tape, h.output, h.size, fun k hk _ => h.block k hk⟩
theorem GrownIn.drew {own : Nat → Prop} {w w' : World} (h : GrownIn own w w') : GrownIn own w w'.drew := ⟨h.os, h.tape, h.output, h.size, h.block⟩
theorem GrownIn.alloc {own : Nat → Prop} {w w' : World} (h : GrownIn own w w') (o : Obj) : GrownIn own w (w'.alloc o) :=
  ⟨h.os, h.tape, h.output, Nat.le_trans h.size (by simp), fun k hk hn => (Below.heap_alloc w' o k (Nat.lt_of_lt_of_le hk h.size)).trans (h.block k hk hn)⟩
theorem GrownIn.set {own : Nat → Prop} {w w' : World} (h : GrownIn own w w') {p : Addr} (hp : own p.block) (u : Value) : GrownIn own w (w'.setCell p u) :=
  ⟨h.os, h.tape, h.output, by simpa [World.setCell] using h.size, fun k hk hn => (Below.heap_setCell w' p u k (fun e => hn (e ▸ hp))).trans (h.block k hk hn)⟩
theorem GrownIn.trans {own own' : Nat → Prop} {w w' w'' : World} (h : GrownIn own w w') (k : GrownIn own' w' w'') (ho : ∀ b, own' b → own b ∨ w.heap.size ≤ b) : GrownIn own w w'' :=
  ⟨k.os.trans h.os, k.tape.trans h.tape, k.output.trans h.output, Nat.le_trans h.size k.size, fun i hi hn => (k.block i (Nat.lt_of_lt_of_le hi h.size) (fun e => (ho i e).elim hn (fun e => by omega))).trans (h.block i hi hn)⟩
theorem Below.of_in {own : Nat → Prop} {a w w' : World} {B : Nat} (h : Below B a w) (k : GrownIn own w w') (ho : ∀ b, own b → B ≤ b) (hB : B ≤ w.heap.size) : Below B a w' :=
  h.trans ⟨k.os, k.tape, k.output, k.size, fun i hi => k.block i (by omega) (fun e => by have := ho i e; omega)⟩
theorem Same.of_in {own D : Nat → Prop} {w w' : World} (k : GrownIn own w w') (hD : ∀ b, D b → b < w.heap.size → ¬ own b) : Same D w w' := fun b hb hl => k.block b hl (hD b hb hl)

theorem GrownIn.wide {own own' : Nat → Prop} {w w' : World} (h : GrownIn own w w') (k : ∀ b, own b → own' b) : GrownIn own' w w' := ⟨h.os, h.tape, h.output, h.size, fun i hi hn => h.block i hi fun e => hn (k i e)⟩
end Go.Mem
