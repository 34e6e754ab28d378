/- Types and datas of two programs, in plain Lean: when two types are the same. No program in sight. -/
import Derived.Lib.Hide
set_option linter.unusedVariables false
namespace Go.Sh
abbrev Nm := List UInt8
inductive Ty where
  | mk (kind : Nat) (name : Nm) (args : List Ty)
def Ty.kind : Ty → Nat | .mk k _ _ => k
def Ty.name : Ty → Nm | .mk _ n _ => n
def Ty.args : Ty → List Ty | .mk _ _ a => a
structure Mk where
  name : Nm
  args : List Ty
structure Dt where
  name : Nm
  params : List Nm
  makes : List Mk
def dataOf (P : List Dt) (n : Nm) : Option Dt := P.find? fun d => decide (d.name = n)
/-- the place of a name, counted from i on; -1 if it is not there -/
def ixG (n : Nm) : List Nm → Nat → Int
  | [], _ => -1
  | y :: r, i => if n = y then i else ixG n r (i + 1)
abbrev Ans := Option (Bool × List Nm)
/-- one pair after the other, until one is not -/
def allF {α β : Type} (f : List Nm → α → β → Ans) : List Nm → List α → List β → Ans
  | s, a :: ts, b :: bs => match f s a b with
    | none => none
    | some (false, t) => some (false, t)
    | some (true, t) => allF f t ts bs
  | s, _, _ => some (true, s)
def eqF {α β : Type} (f : List Nm → α → β → Ans) (s : List Nm) (ts : List α) (bs : List β) : Ans := if ts.length = bs.length then allF f s ts bs else some (false, s)
def makeF (f : List Nm → Ty → Ty → Ans) (s : List Nm) (m n : Mk) : Ans := if m.name = n.name then eqF f s m.args n.args else some (false, s)
/-- answers; none: out of fuel, or a case that the laws do not meet (a name of no Data, Datas of other numbers of parameters) -/
abbrev Rec := List Nm → Ty → Ty → List Nm → List Nm → Ans
def alikeF (P Q : List Dt) (f : Rec) (s : List Nm) (n : Nm) : Ans :=
  if n ∈ s then some (true, s)
  else match dataOf P n, dataOf Q n with
    | some a, some b => if a.params.length = b.params.length then eqF (makeF fun s t u => f s t u a.params b.params) (s ++ [n]) a.makes b.makes else none
    | _, _ => none
def headF (P Q : List Dt) (f : Rec) (s : List Nm) (k : Nat) (n m : Nm) (x y : List Nm) : Ans :=
  if k = 6 then (if n = m then alikeF P Q f s n else some (false, s))
  else if k = 5 then some (decide (0 ≤ ixG n x 0 ∧ ixG n x 0 = ixG m y 0), s)
  else some (decide (n = [] ∧ m = []), s)
def sameF (P Q : List Dt) : Nat → Rec
  | 0, _, _, _, _, _ => none
  | f + 1, s, .mk k n ts, .mk l m bs, x, y =>
    if k = l ∧ k ≠ 7 ∧ ts.length = bs.length then
      match headF P Q (sameF P Q f) s k n m x y with
      | none => none
      | some (false, t) => some (false, t)
      | some (true, t) => allF (fun s a b => sameF P Q f s a b x y) t ts bs
    else some (false, s)
theorem allF_cons {α β : Type} {f : List Nm → α → β → Ans} {s : List Nm} {a : α} {b : β} {ts : List α} {bs : List β} {R : Bool × List Nm} (h : allF f s (a :: ts) (b :: bs) = some R) : ∃ r t, f s a b = some (r, t) ∧ ((r = false ∧ R = (false, t)) ∨ (r = true ∧ allF f t ts bs = some R)) := by
  unfold allF at h
  cases hf : f s a b with
  | none => rw [hf] at h; cases h
  | some q =>
    obtain ⟨r, t⟩ := q
    rw [hf] at h
    cases r with
    | false => exact ⟨false, t, rfl, .inl ⟨rfl, by injection h with h; exact h.symm⟩⟩
    | true => exact ⟨true, t, rfl, .inr ⟨rfl, h⟩⟩
theorem allF_drop {α β : Type} {f : List Nm → α → β → Ans} {s : List Nm} {ts : List α} {bs : List β} {j : Nat} {R : Bool × List Nm} (ha : j < ts.length) (hb : j < bs.length) (h : allF f s (ts.drop j) (bs.drop j) = some R) : ∃ r t, f s ts[j] bs[j] = some (r, t) ∧ ((r = false ∧ R = (false, t)) ∨ (r = true ∧ allF f t (ts.drop (j + 1)) (bs.drop (j + 1)) = some R)) := by
  rw [List.drop_eq_getElem_cons ha, List.drop_eq_getElem_cons hb] at h
  exact allF_cons h
theorem allF_end {α β : Type} {f : List Nm → α → β → Ans} {s : List Nm} {ts : List α} {bs : List β} {j : Nat} {R : Bool × List Nm} (ha : ts.length ≤ j) (h : allF f s (ts.drop j) (bs.drop j) = some R) : R = (true, s) := by
  rw [List.drop_eq_nil_of_le ha] at h
  unfold allF at h
  injection h with h
  exact h.symm
theorem ixG_drop {n : Nm} {x : List Nm} {j : Nat} (h : j < x.length) : ixG n (x.drop j) j = if n = x[j] then (j : Int) else ixG n (x.drop (j + 1)) (j + 1) := by
  rw [List.drop_eq_getElem_cons h]
  rfl
theorem ixG_end {n : Nm} {x : List Nm} {j : Nat} (h : x.length ≤ j) : ixG n (x.drop j) j = -1 := by
  rw [List.drop_eq_nil_of_le h]
  rfl
end Go.Sh
