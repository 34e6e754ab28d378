/- Plain laws of Best at one module without wants of its own. -/
import Derived.Test.YtijniccmgjokoaaSvPlain
set_option linter.unusedVariables false
namespace Go.Proofs.Ytijniccmgjokoaa
open Go.RowKit Go.Mem Go.Sv
def mdA (v : Nat) : Md := ⟨[97], v, []⟩
def inR (low high v : Nat) : Bool := decide (low ≤ v) && decide (v ≤ high)
theorem find_map_md (low high : Nat) : ∀ (vs : List Nat), ((vs.map mdA).find? fun m => inR low high m.ver) = (vs.find? (inR low high)).map mdA
  | [] => rfl
  | v :: r => by
    rw [List.map_cons, List.find?_cons, List.find?_cons]
    have h : (mdA v).ver = v := rfl
    rw [h]
    cases inR low high v
    · exact find_map_md low high r
    · rfl
theorem findSome_if {α β : Type} (p : α → Bool) (f : α → β) : ∀ (l : List α), (l.findSome? fun m => if p m = true then some (f m) else none) = (l.find? p).map f
  | [] => rfl
  | a :: r => by
    rw [List.findSome?_cons, List.find?_cons]
    cases h : p a
    · simp only [Bool.false_eq_true, if_false]
      exact findSome_if p f r
    · simp
theorem high_complete (vs : List Nat) (low high : Nat) : completeF (vs.map mdA) [] [⟨[97], low, high⟩] 31 [] = (vs.reverse.find? (inR low high)).map fun v => [mdA v] := by
  rw [completeF]
  have h1 : openF [] (wantsOf [⟨[97], low, high⟩] []) = some [97] := by simp [openF, wantsOf, openStep, pickOf, lessO]
  rw [h1]
  simp only
  have h2 : candsF (vs.map mdA) [] [97] = vs.reverse.map mdA := by
    unfold candsF
    have e1 : (vs.map mdA).reverse = vs.reverse.map mdA := List.map_reverse.symm
    rw [e1]
    have f1 : (vs.reverse.map mdA).filter (fun m => decide (m.name = [97]) && decide ((m.name, m.ver) ∈ ([] : List Pk))) = [] := List.filter_eq_nil_iff.2 fun m _ => by simp
    have f2 : (vs.reverse.map mdA).filter (fun m => decide (m.name = [97]) && !decide ((m.name, m.ver) ∈ ([] : List Pk))) = vs.reverse.map mdA := List.filter_eq_self.2 fun m hm => by
      obtain ⟨v, _, rfl⟩ := List.mem_map.1 hm
      simp [mdA]
    rw [f1, f2]
    rfl
  rw [h2]
  have h3 : ∀ m ∈ vs.reverse.map mdA, (if satB ([] ++ [m]) (wantsOf [⟨[97], low, high⟩] ([] ++ [m])) = true then completeF (vs.map mdA) [] [⟨[97], low, high⟩] 30 ([] ++ [m]) else none) = if inR low high m.ver = true then some [m] else none := by
    intro m hm
    obtain ⟨v, _, rfl⟩ := List.mem_map.1 hm
    have s1 : satB ([] ++ [mdA v]) (wantsOf [⟨[97], low, high⟩] ([] ++ [mdA v])) = inR low high v := by simp [satB, wantsOf, okU, pickOf, mdA, inR]
    have s2 : completeF (vs.map mdA) [] [⟨[97], low, high⟩] 30 ([] ++ [mdA v]) = some [mdA v] := by
      rw [completeF]
      have : openF ([] ++ [mdA v]) (wantsOf [⟨[97], low, high⟩] ([] ++ [mdA v])) = none := by simp [openF, wantsOf, openStep, pickOf, mdA]
      rw [this]
      rfl
    rw [s1, s2]
    rfl
  have h4 : (vs.reverse.map mdA).findSome? (fun m => if satB ([] ++ [m]) (wantsOf [⟨[97], low, high⟩] ([] ++ [m])) = true then completeF (vs.map mdA) [] [⟨[97], low, high⟩] 30 ([] ++ [m]) else none) = (vs.reverse.map mdA).findSome? fun m => if inR low high m.ver = true then some [m] else none := by
    generalize vs.reverse.map mdA = l at h3
    induction l with
    | nil => rfl
    | cons a r ih =>
      rw [List.findSome?_cons, List.findSome?_cons, h3 a (by simp), ih fun m hm => h3 m (by simp [hm])]
  refine h4.trans ?_
  rw [findSome_if (fun m : Md => inR low high m.ver) (fun m => [m]), find_map_md, Option.map_map]
  rfl
theorem high_best (vs : List Nat) (low high : Nat) : bestF (vs.map mdA) [⟨[97], low, high⟩] [] = (vs.reverse.find? (inR low high)).map fun v => [([97], v)] := by
  unfold bestF
  rw [high_complete, Option.map_map]
  congr 1
  funext v
  have t2 : sorted [[97]] = [[97]] := List.mergeSort_of_pairwise (by simp)
  show picksF [mdA v] = _
  unfold picksF
  have e : [mdA v].map (·.name) = [[97]] := rfl
  rw [e, t2]
  simp [verF, pickOf, mdA]
/-- the last one in range, so far -/
def bestV (low high : Nat) (vs : List Nat) : Nat := (vs.reverse.find? (inR low high)).getD 0
theorem bestV_next (low high : Nat) (vs : List Nat) (j : Nat) (h : j < vs.length) : bestV low high (vs.take (j + 1)) = if inR low high vs[j] = true then vs[j] else bestV low high (vs.take j) := by
  unfold bestV
  rw [List.take_succ_eq_append_getElem h, List.reverse_append, List.reverse_singleton, List.singleton_append, List.find?_cons]
  cases inR low high vs[j] <;> simp
end Go.Proofs.Ytijniccmgjokoaa
