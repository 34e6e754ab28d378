/- Values of types, in plain Lean: what a parameter stands for, whether a value is one of a type, a type's default value, and the value that numbers say. No program in sight. -/
import Derived.Test.YtoddjdajjmcliaaShLaw
import Derived.Test.YtoddjdajjmcliaaValMem
set_option linter.unusedVariables false
namespace Go.Sh
open Go.Val Go.Mem
def txt (n : Nm) : ByteArray := ⟨n.toArray⟩
/-- for what the parameters of a Data stand -/
inductive Sc where
  | nil
  | mk (params : List Nm) (args : List Ty) (outer : Sc)
def resolveF : Sc → Ty → Ty × Sc
  | .nil, t => (t, .nil)
  | .mk ps as o, t => if t.kind = 5 then (if 0 ≤ ixG t.name ps 0 then match as[(ixG t.name ps 0).toNat]? with
      | some u => resolveF o u
      | none => (t, .mk ps as o)
      else (t, .mk ps as o)) else (t, .mk ps as o)
def basicF (k : Nat) : Nat := if k = 1 then 2 else if k = 2 then 3 else if k = 3 then 4 else if k = 4 then 1 else 0
def allV (f : Ty → V → Option Bool) : List Ty → List V → Option Bool
  | t :: ts, v :: vs => match f t v with
    | none => none
    | some false => some false
    | some true => allV f ts vs
  | _, _ => some true
def eqV (f : Ty → V → Option Bool) (ts : List Ty) (vs : List V) : Option Bool := if ts.length = vs.length then allV f ts vs else some false
/-- whether a value is one of a type; none: out of fuel, or a name of no Data, or another number of arguments than the Data has -/
def fitsF (P : List Dt) : Nat → Sc → Ty → V → Option Bool
  | 0, _, _, _ => none
  | d + 1, s, t, v =>
    if 1 ≤ (resolveF s t).1.kind ∧ (resolveF s t).1.kind ≤ 4 then some (decide (v.kind = (basicF (resolveF s t).1.kind : Nat) ∧ v.args.length = 0))
    else if (resolveF s t).1.kind = 8 then some (decide (v.kind = 6 ∧ v.args.length = 0))
    else if (resolveF s t).1.kind = 9 then (if v.kind = 8 then eqV (fitsF P d (resolveF s t).2) (resolveF s t).1.args v.args else some false)
    else if (resolveF s t).1.kind = 6 then match dataOf P (resolveF s t).1.name with
      | none => none
      | some D => if D.params.length = (resolveF s t).1.args.length then
          (if v.kind = 5 then match D.makes.find? (fun m => decide (txt m.name = v.text)) with
            | none => some false
            | some m => eqV (fitsF P d (.mk D.params (resolveF s t).1.args (resolveF s t).2)) m.args v.args
          else some false) else none
    else some false
/-- values, one after the other; none: one is none -/
def manyO {α β : Type} (f : α → Option β) : List α → Option (List β)
  | [] => some []
  | t :: ts => match f t with
    | none => none
    | some v => match manyO f ts with
      | none => none
      | some vs => some (v :: vs)
/-- default values, one after the other; some none: one has none; none: what the laws do not meet -/
def manyR {α β : Type} (f : α → Option (Option β)) : List α → Option (Option (List β))
  | [] => some (some [])
  | t :: ts => match f t with
    | none => none
    | some none => some none
    | some (some v) => match manyR f ts with
      | none => none
      | some none => some none
      | some (some vs) => some (some (v :: vs))
/-- the first make that has a default value -/
def firstMk (f : Ty → Option (Option V)) (seen : List Nm) : List Mk → Option (Option V)
  | [] => some none
  | m :: r => if m.name ∈ seen ∨ 6 < m.args.length then firstMk f (seen ++ [m.name]) r
    else match manyR f m.args with
      | none => none
      | some (some l) => some (some (.mk 5 0 (txt m.name) l))
      | some none => firstMk f (seen ++ [m.name]) r
def firstF (P : List Dt) : Nat → Sc → Ty → Option (Option V)
  | d, s, t => if 0 < basicF (resolveF s t).1.kind then some (some (.mk (basicF (resolveF s t).1.kind : Nat) 0 ⟨#[]⟩ [])) else match d with
    | 0 => some none
    | d + 1 => if (resolveF s t).1.kind = 9 then (if (resolveF s t).1.args.length = 1 then (manyR (firstF P d (resolveF s t).2) (resolveF s t).1.args).map (fun o => o.map fun l => .mk 8 0 ⟨#[]⟩ l) else some none)
      else if (resolveF s t).1.kind = 6 then match dataOf P (resolveF s t).1.name with
        | none => none
        | some D => if D.params.length = (resolveF s t).1.args.length then firstMk (firstF P d (.mk D.params (resolveF s t).1.args (resolveF s t).2)) [] D.makes else none
      else some none
def firstU (P : List Dt) (t : Ty) : Nat → Nat → Option (Option V)
  | 0, _ => some none
  | n + 1, d => match firstF P d .nil t with
    | none => none
    | some (some v) => some (some v)
    | some none => firstU P t n (d + 1)
theorem manyR_drop {α β : Type} {f : α → Option (Option β)} {ts : List α} {j : Nat} {R : Option (List β)} (hj : j < ts.length) (h : manyR f (ts.drop j) = some R) :
    ∃ q, f ts[j] = some q ∧ ((q = none ∧ R = none) ∨ ∃ v R2, q = some v ∧ manyR f (ts.drop (j + 1)) = some R2 ∧ R = R2.map (v :: ·)) := by
  rw [List.drop_eq_getElem_cons hj] at h
  unfold manyR at h
  cases hf : f ts[j] with
  | none => rw [hf] at h; cases h
  | some q =>
    rw [hf] at h
    cases q with
    | none => exact ⟨none, rfl, .inl ⟨rfl, by injection h with h; exact h.symm⟩⟩
    | some v =>
      simp only at h
      cases hm : manyR f (ts.drop (j + 1)) with
      | none => rw [hm] at h; cases h
      | some R2 =>
        rw [hm] at h
        refine ⟨some v, rfl, .inr ⟨v, R2, rfl, rfl, ?_⟩⟩
        cases R2 with
        | none => injection h with h; exact h.symm
        | some vs => injection h with h; exact h.symm
theorem manyR_end {α β : Type} {f : α → Option (Option β)} {ts : List α} {j : Nat} {R : Option (List β)} (hj : ts.length ≤ j) (h : manyR f (ts.drop j) = some R) : R = some [] := by
  rw [List.drop_eq_nil_of_le hj] at h
  unfold manyR at h
  injection h with h
  exact h.symm
/-- the number that says a value at a depth -/
def numAt (l : List Int) (deep : Nat) : Int := l.getD deep 0
/-- an argument's type, with what the type's own argument is -/
def argF (t a : Ty) : Option Ty := if a.kind = 5 then t.args[0]? else match a.args with
  | [] => some a
  | b :: _ => if b.kind = 5 then some (.mk a.kind a.name t.args) else some a
/-- the make that is taken -/
def pickF (D : Dt) (x : Int) (deep : Nat) : Option Mk :=
  if 5 < deep ∧ D.name = [76] then D.makes[0]?
  else if 5 < deep ∧ D.name = [68] then D.makes[2]?
  else D.makes[(restN x D.makes.length).toNat]?
/-- the value that numbers say; none: out of fuel, or what the program would panic at -/
def valF (P : List Dt) (l : List Int) : Nat → Nat → Ty → Option V
  | 0, _, _ => none
  | f + 1, deep, t =>
    if t.kind = 1 then some (.mk 2 (numAt l deep) ⟨#[]⟩ [])
    else if t.kind = 2 then some (.mk 3 (restN (numAt l deep) 2) ⟨#[]⟩ [])
    else if t.kind = 3 then some (.mk 4 0 (txt (List.replicate (restN (numAt l deep) 5).toNat 116)) [])
    else if t.kind = 9 then match t.args with
      | [] => none
      | a :: _ => (valF P l f (deep + 1) a).map fun v => .mk 8 0 ⟨#[]⟩ [v]
    else if t.kind = 6 then match dataOf P t.name with
      | none => some (.mk 1 0 ⟨#[]⟩ [])
      | some D => if 0 < D.makes.length then match pickF D (numAt l deep) deep with
        | none => none
        | some m => (manyO (fun a => (argF t a).bind (valF P l f (deep + 1))) m.args).map fun vs => .mk 5 0 (txt m.name) vs
        else none
    else some (.mk 1 0 ⟨#[]⟩ [])
/-- a value, its node of a place a reference -/
def spoilsF (f : V → Int → V × Int) : List V → Int → List V × Int
  | [], k => ([], k)
  | v :: vs, k => ((f v k).1 :: (spoilsF f vs (f v k).2).1, (spoilsF f vs (f v k).2).2)
def spoilF : Nat → V → Int → V × Int
  | 0, v, k => (v, k)
  | d + 1, .mk k n t as, p => if p - 1 < 0 then (.mk 6 1 ⟨#[]⟩ [], 1000) else (.mk k n t (spoilsF (spoilF d) as (p - 1)).1, (spoilsF (spoilF d) as (p - 1)).2)
end Go.Sh
