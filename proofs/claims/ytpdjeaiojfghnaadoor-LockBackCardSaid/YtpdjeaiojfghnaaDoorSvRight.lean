/- Plain words of solve.Right (this seat has no Right). -/
import Derived.Test.YtpdjeaiojfghnaaDoorSvSeg
import Derived.Test.YtpdjeaiojfghnaaDoorRightLaw
import Derived.Test.YtpdjeaiojfghnaaDoorSvBest
set_option linter.unusedVariables false
namespace Go.Sv
open Go.RowKit Go.Mem
/-- names strictly rise -/
def Asc (l : List Pk) : Prop := ∀ i (h : i + 1 < l.length), (l[i]).1 < (l[i + 1]).1
def RightP (ms : List Md) (root : List Us) (picks : List Pk) : Prop := Asc picks ∧ ∃ re, rightGo ms picks (root.length + 6 * picks.length) root [] = some re ∧ re.length = picks.length
def mapLen (w : World) (b : Nat) : Nat := match w.heap[b]? with
  | some (.map es _) => es.size
  | _ => 0
theorem MapOf.mapLen {α : Type} {enc : α → Value} {ok : α → Prop} {w : World} {b : Nat} {l : List (α × Value)} (h : MapOf enc ok w b l) : Sv.mapLen w b = l.length := by
  obtain ⟨es, clock, hb, _, he, _⟩ := h
  unfold Sv.mapLen
  rw [hb]
  have := congrArg List.length he
  simpa using this
def vlen : Value → Nat
  | .slice _ n _ => n
  | _ => 0
def tt (re : List Nm) : List (Nm × Value) := re.map fun n => (n, .bool true)
theorem tt_get (re : List Nm) (n : Nm) : (mget (tt re) n).getD (.bool false) = .bool (decide (n ∈ re)) := by
  induction re with
  | nil => rfl
  | cons a r ih =>
    unfold tt at ih ⊢
    rw [List.map_cons, mget_cons]
    by_cases h : a = n
    · subst h
      simp
    · simp only [h, if_false]
      rw [ih]
      have h2 : ¬ n = a := fun e => h e.symm
      simp [h2]
theorem tt_put (re : List Nm) (n : Nm) (h : n ∉ re) : mput (tt re) n (.bool true) = tt (re ++ [n]) := by
  unfold mput
  have hn : mget (tt re) n = none := mget_none.2 fun p hp => by
    obtain ⟨q, hq, rfl⟩ := List.mem_map.1 hp
    exact fun e => h (e ▸ hq)
  rw [hn]
  simp [tt]
end Go.Sv
namespace Go.Proofs.YtpdjeaiojfghnaaDoor
open Go.RowKit Go.Mem Go.Sv Go.Maps
theorem leq_nm (x y : Nm) : (Op.bytesLess y x || y == x) = !decide (x < y) := by
  rw [bytesLess_eq, Bool.eq_iff_iff]
  simp only [Bool.or_eq_true, decide_eq_true_eq, beq_iff_eq, Bool.not_eq_true', decide_eq_false_iff_not]
  constructor
  · rintro (h | rfl)
    · exact List.lt_asymm h
    · exact List.lt_irrefl _
  · intro h
    rcases List.le_iff_lt_or_eq.1 (List.not_lt.1 h) with h | h
    · exact .inl h
    · exact .inr h
theorem zero_bool : ∀ w : World, (zeroValue 4).run Tryd.prog w = .ok (.bool false) w := fun _ => by kernel_rfl
end Go.Proofs.YtpdjeaiojfghnaaDoor
