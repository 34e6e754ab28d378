/- What package renew does, in plain Lean. No program in sight. -/
import Derived.Test.YtoddjdajjmcliaaJShCarLaw
set_option linter.unusedVariables false
namespace Go.Sh
open Go.Val Go.Mem
/-- a field of a Move -/
structure Fld where
  src : Int
  val : V
def zeroV : V := .mk 0 0 ⟨#[]⟩ []
/-- the field of a name and a type; some none: the types are not the same; none: what the laws do not meet -/
def fldF (P Q : List Dt) (N : List Nm) (T : List Ty) (nm : Nm) (t : Ty) : Option (Option Fld) :=
  if ixG nm N 0 < 0 then (match firstU Q t 4 0 with
    | some (some v) => some (some ⟨ixG nm N 0, v⟩)
    | _ => none)
  else match T[(ixG nm N 0).toNat]? with
    | none => none
    | some u => match same12 P Q u t with
      | none => none
      | some true => some (some ⟨ixG nm N 0, zeroV⟩)
      | some false => some none
def fldsF (P Q : List Dt) (N : List Nm) (T : List Ty) (N' : List Nm) (T' : List Ty) : Option (Option (List Fld)) := manyR (fun p => fldF P Q N T p.1 p.2) (N'.zip T')
/-- the old fields that are not used -/
def lostF (n : Nat) (srcs : List Int) : List Nat := (List.range n).filter fun i => !decide ((i : Int) ∈ srcs)
theorem lostF_next (k : Nat) (srcs : List Int) : lostF (k + 1) srcs = if (k : Int) ∈ srcs then lostF k srcs else lostF k srcs ++ [k] := by
  unfold lostF
  rw [List.range_succ, List.filter_append]
  by_cases h : (k : Int) ∈ srcs
  · simp [h]
  · simp [h]
theorem lostF_len (k : Nat) (srcs : List Int) : (lostF k srcs).length ≤ k := by
  unfold lostF
  have := List.length_filter_le (fun i : Nat => !decide ((i : Int) ∈ srcs)) (List.range k)
  rwa [List.length_range] at this
theorem ixG_bd (n : Nm) : ∀ (l : List Nm) (i : Nat), ixG n l i = -1 ∨ ∃ j, j < l.length ∧ ixG n l i = ((i + j : Nat) : Int) ∧ l[j]? = some n
  | [], i => .inl rfl
  | y :: r, i => by
    unfold ixG
    by_cases h : n = y
    · rw [if_pos h]
      exact .inr ⟨0, by simp, by simp, by rw [h]; rfl⟩
    · rw [if_neg h]
      rcases ixG_bd n r (i + 1) with h1 | ⟨j, h1, h2, h3⟩
      · exact .inl h1
      · exact .inr ⟨j + 1, by simpa using h1, by rw [h2]; congr 1; omega, by simpa using h3⟩
theorem ixG_none (n : Nm) : ∀ (l : List Nm) (i : Nat), n ∉ l → ixG n l i = -1
  | [], _, _ => rfl
  | y :: r, i, h => by
    unfold ixG
    rw [if_neg (fun e => h (by simp [e])), ixG_none n r (i + 1) (fun hm => h (by simp [hm]))]
theorem ixG_nodup (n : Nm) : ∀ (l : List Nm) (i j : Nat), l.Nodup → l[j]? = some n → ixG n l i = ((i + j : Nat) : Int)
  | [], i, j, _, h => by simp at h
  | y :: r, i, 0, _, h => by
    unfold ixG
    rw [if_pos (by simpa using h.symm)]
    simp
  | y :: r, i, j + 1, hn, h => by
    rw [List.nodup_cons] at hn
    have h' : r[j]? = some n := by simpa using h
    unfold ixG
    rw [if_neg (fun e => hn.1 (by rw [← e]; exact List.mem_of_getElem? h')), ixG_nodup n r (i + 1) j hn.2 h']
    congr 1
    omega
end Go.Sh
