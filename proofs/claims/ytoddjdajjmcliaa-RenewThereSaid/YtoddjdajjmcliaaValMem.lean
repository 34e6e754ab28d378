/- Words for values in memory: raw numbers and texts, values; what valueOf makes of raw ones. -/
import Derived.Test.YtoddjdajjmcliaaValLaw
set_option linter.unusedVariables false
namespace Go.Val
open Go.RowKit Go.Mem

def restN (n many : Int) : Int := if n < 0 then (-(n + 1)) % many else n % many

structure Raw where
  kind : Int
  a : Int
  b : Int
  text : ByteArray

def Fits64 (n : Int) : Prop := -9223372036854775808 ≤ n ∧ n ≤ 9223372036854775807
/-- the four cells of a raw one -/
def RawCells (w : World) (D : Nat → Prop) (cs : List Value) (r : Raw) : Prop :=
  cs = [.int .i64 r.kind, .int .i64 r.a, .int .i64 r.b, .string r.text] ∧ Fits64 r.kind ∧ Fits64 r.a ∧ Fits64 r.b ∧ r.text.size ≤ maxLen
theorem RawCells.stable : Stable 4 RawCells where
  keep := fun h _ => h
  imp := fun h _ => h
  len := fun h => by rw [h.1]; rfl
  one := fun h u hu => by rw [h.1] at hu; simp at hu; rcases hu with rfl | rfl | rfl | rfl <;> rfl

/-- the four cells of a value of at most a depth -/
def VCells : Nat → World → (Nat → Prop) → List Value → V → Prop
  | 0, _, _, _, _ => False
  | d + 1, w, D, cs, .mk k n t a => ∃ A c vss, cs = [.int .i64 k, .int .i64 n, .string t, .slice A a.length c] ∧ (0 ≤ k ∧ k ≤ 255) ∧ Fits64 n ∧ t.size ≤ 4611686018427387904 ∧ a.length ≤ 4194304 ∧ a.length ≤ c ∧ c ≤ maxLen ∧
      Reads w D 4 A a.length vss.flatten ∧ All2 (VCells d w D) vss a
theorem VCells.keep : ∀ {d : Nat} {w w' : World} {D : Nat → Prop} {cs : List Value} {v : V}, VCells d w D cs v → Same D w w' → VCells d w' D cs v
  | 0, _, _, _, _, _, h, _ => h
  | d + 1, w, w', D, cs, .mk k n t a, h, hk => by
    obtain ⟨A, c, vss, e, h1, h2, h3, h4, h5, h6, hr, ha⟩ := h
    exact ⟨A, c, vss, e, h1, h2, h3, h4, h5, h6, hr.keep hk, ha.imp fun x y hxy => hxy.keep hk⟩
theorem VCells.imp : ∀ {d : Nat} {w : World} {D D' : Nat → Prop} {cs : List Value} {v : V}, VCells d w D cs v → (∀ b, D b → b < w.heap.size → D' b) → VCells d w D' cs v
  | 0, _, _, _, _, _, h, _ => h
  | d + 1, w, D, D', cs, .mk k n t a, h, hk => by
    obtain ⟨A, c, vss, e, h1, h2, h3, h4, h5, h6, hr, ha⟩ := h
    exact ⟨A, c, vss, e, h1, h2, h3, h4, h5, h6, hr.imp (by omega) hk, ha.imp fun x y hxy => hxy.imp hk⟩
theorem VCells.form {d : Nat} {w : World} {D : Nat → Prop} {cs : List Value} {v : V} (h : VCells d w D cs v) : ∃ A c, cs = [.int .i64 v.kind, .int .i64 v.num, .string v.text, .slice A v.args.length c] := by
  cases d with
  | zero => exact h.elim
  | succ d =>
    obtain ⟨k, n, t, a⟩ := v
    obtain ⟨A, c, vss, e, _⟩ := h
    exact ⟨A, c, e⟩
theorem VCells.stable (d : Nat) : Stable 4 (VCells d) where
  keep := fun h hk => h.keep hk
  imp := fun h hk => h.imp hk
  len := fun h => by obtain ⟨A, c, e⟩ := h.form; rw [e]; rfl
  one := fun h u hu => by obtain ⟨A, c, e⟩ := h.form; rw [e] at hu; simp at hu; rcases hu with rfl | rfl | rfl | rfl <;> rfl
theorem VCells.ok : ∀ {d : Nat} {w : World} {D : Nat → Prop} {cs : List Value} {v : V}, VCells d w D cs v → okV d v
  | 0, _, _, _, _, h => h
  | d + 1, w, D, cs, .mk k n t a, h => by
    obtain ⟨A, c, vss, e, h1, h2, h3, h4, h5, h6, hr, ha⟩ := h
    refine ⟨h1, h2, by omega, by omega, fun x hx => ?_⟩
    obtain ⟨i, hi, rfl⟩ := List.mem_iff_getElem.1 hx
    obtain ⟨cs', _, hc⟩ := ha.at_ hi
    exact hc.ok
theorem VCells.more : ∀ {d : Nat} {w : World} {D : Nat → Prop} {cs : List Value} {v : V}, VCells d w D cs v → VCells (d + 1) w D cs v
  | 0, _, _, _, _, h => h.elim
  | d + 1, w, D, cs, .mk k n t a, h => by
    obtain ⟨A, c, vss, e, h1, h2, h3, h4, h5, h6, hr, ha⟩ := h
    exact ⟨A, c, vss, e, h1, h2, h3, h4, h5, h6, hr, ha.imp fun x y hxy => hxy.more⟩
theorem VCells.le {d d' : Nat} (h : d ≤ d') {w : World} {D : Nat → Prop} {cs : List Value} {v : V} (hv : VCells d w D cs v) : VCells d' w D cs v := by
  induction h with
  | refl => exact hv
  | step _ ih => exact ih.more

/-! ### What valueOf makes of raw ones -/
def cutText (s : ByteArray) : ByteArray := s.extract 0 (min s.size 20)
def unitV : V := .mk 1 0 ⟨#[]⟩ []
/-- number, text, how many follow; of a kind -/
def headF (k : Int) (r : Raw) : Int × ByteArray × Nat :=
  if k = 2 ∨ k = 6 then (r.a, ⟨#[]⟩, 0)
  else if k = 3 then (restN r.a 2, ⟨#[]⟩, 0)
  else if k = 4 then (0, cutText r.text, 0)
  else if k = 5 then (0, ⟨#[77]⟩ ++ cutText r.text, (restN r.a 4).toNat)
  else if k = 7 then (r.a, cutText r.text, (restN r.b 3).toNat)
  else if k = 8 then (0, ⟨#[]⟩, (restN r.a 2).toNat)
  else (0, ⟨#[]⟩, 0)
def manyF (f : Nat → V × Nat) : Nat → Nat → List V × Nat
  | 0, at_ => ([], at_)
  | n + 1, at_ => ((manyF f n at_).1 ++ [(f (manyF f n at_).2).1], (f (manyF f n at_).2).2)
def nextF (l : List Raw) : Nat → Nat → V × Nat
  | 0, at_ => (unitV, at_)
  | d + 1, at_ => match (l.take 60)[at_]? with
    | none => (unitV, at_)
    | some r => (.mk (1 + restN r.kind 8) (headF (1 + restN r.kind 8) r).1 (headF (1 + restN r.kind 8) r).2.1 (manyF (nextF l d) (headF (1 + restN r.kind 8) r).2.2 (at_ + 1)).1, (manyF (nextF l d) (headF (1 + restN r.kind 8) r).2.2 (at_ + 1)).2)
theorem manyF_len (f : Nat → V × Nat) (n at_ : Nat) : (manyF f n at_).1.length = n := by
  induction n with
  | zero => rfl
  | succ n ih => simp [manyF, ih]
theorem manyF_le {f : Nat → V × Nat} {B : Nat} (hf : ∀ a, a ≤ B → (f a).2 ≤ B) (n at_ : Nat) (h : at_ ≤ B) : (manyF f n at_).2 ≤ B := by
  induction n with
  | zero => exact h
  | succ n ih => exact hf _ ih
theorem nextF_le (l : List Raw) : ∀ (d at_ : Nat), at_ ≤ 60 → (nextF l d at_).2 ≤ 60
  | 0, at_, h => h
  | d + 1, at_, h => by
    unfold nextF
    split
    · exact h
    · rename_i r hr
      have hlt : at_ < 60 := by
        have := (List.getElem?_eq_some_iff.1 hr).1
        simp at this
        omega
      exact manyF_le (fun a ha => nextF_le l d a ha) _ _ (by omega)
/-- the value of raw ones -/
def valF (l : List Raw) : V := (nextF l 20 0).1
end Go.Val
