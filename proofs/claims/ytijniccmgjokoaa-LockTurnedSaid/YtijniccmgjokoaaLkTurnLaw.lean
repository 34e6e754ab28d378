/- Turns between two selections, in plain Lean. -/
import Derived.Test.YtijniccmgjokoaaLkDelete
set_option linter.unusedVariables false
namespace Go.Sv
/-- a turn: a name, its old version, its new one (0: none) -/
abbrev Tr := Nm × Nat × Nat
/-- the version of a name, 0 if it has none -/
def vOf (l : List Pk) (n : Nm) : Nat := ((pkOf l n).map (·.2)).getD 0
theorem pkOf_nil (n : Nm) : pkOf [] n = none := rfl
theorem pkOf_snoc {l : List Pk} {p : Pk} (h : ∀ q ∈ l, q.1 ≠ p.1) (n : Nm) : pkOf (l ++ [p]) n = if n = p.1 then some p else pkOf l n := by
  unfold pkOf
  rw [List.find?_append]
  by_cases e : n = p.1
  · subst e
    rw [if_pos rfl]
    have : l.find? (fun q => decide (q.1 = p.1)) = none := List.find?_eq_none.2 fun q hq => by simpa using h q hq
    rw [this]
    simp
  · rw [if_neg e]
    have : [p].find? (fun q => decide (q.1 = n)) = none := by simp; exact fun h => e h.symm
    rw [this, Option.or_none]
theorem vOf_nil (n : Nm) : vOf [] n = 0 := rfl
theorem vOf_snoc {l : List Pk} {p : Pk} (h : ∀ q ∈ l, q.1 ≠ p.1) (n : Nm) : vOf (l ++ [p]) n = if n = p.1 then p.2 else vOf l n := by
  unfold vOf
  rw [pkOf_snoc h]
  split <;> rfl
theorem vOf_none {l : List Pk} {n : Nm} (h : ∀ q ∈ l, q.1 ≠ n) : vOf l n = 0 := by
  unfold vOf pkOf
  rw [List.find?_eq_none.2 fun q hq => by simpa using h q hq]
  rfl
/-- what Turns finds -/
structure TurnsOk (a b : List Pk) (ts : List Tr) : Prop where
  nd : (ts.map (·.1)).Nodup
  mem : ∀ t, t ∈ ts ↔ t.2.1 = vOf a t.1 ∧ t.2.2 = vOf b t.1 ∧ t.2.1 ≠ t.2.2
theorem TurnsOk.same {a : List Pk} {ts : List Tr} (h : TurnsOk a a ts) : ts = [] := by
  cases ts with
  | nil => rfl
  | cons t r =>
    obtain ⟨h1, h2, h3⟩ := (h.mem t).1 (by simp)
    exact absurd (h1.trans h2.symm) h3
theorem TurnsOk.one {ts : List Tr} {n : Nm} {v : Nat} (hv : 0 < v) (h : TurnsOk [] [(n, v)] ts) : ts = [(n, 0, v)] := by
  have hs : ∀ m : Nm, vOf [(n, v)] m = if m = n then v else 0 := fun m => by
    have := vOf_snoc (l := []) (p := (n, v)) (by simp) m
    simpa [vOf_nil] using this
  have key : ∀ t, t ∈ ts ↔ t = (n, 0, v) := by
    intro t
    rw [h.mem t, hs, vOf_nil]
    obtain ⟨x, o, w⟩ := t
    simp only [Prod.mk.injEq]
    by_cases e : x = n
    · simp only [e, if_pos, true_and]
      exact ⟨fun ⟨h1, h2, _⟩ => ⟨h1, h2⟩, fun ⟨h1, h2⟩ => ⟨h1, h2, by omega⟩⟩
    · simp only [e, if_false, false_and, iff_false]
      omega
  have hn := h.nd
  cases ts with
  | nil => exact absurd ((key _).2 rfl) (by simp)
  | cons t r =>
    have ht := (key t).1 (by simp)
    cases r with
    | nil => rw [ht]
    | cons u r =>
      have hu := (key u).1 (by simp)
      rw [ht, hu] at hn
      simp at hn
theorem TurnsOk.rest {a b : List Pk} {ts : List Tr} (h : TurnsOk a b ts) {n : Nm} (hn : n ∉ ts.map (·.1)) : vOf a n = vOf b n := by
  rcases Nat.decEq (vOf a n) (vOf b n) with e | e
  · exact absurd (List.mem_map.2 ⟨(n, vOf a n, vOf b n), (h.mem _).2 ⟨rfl, rfl, e⟩, rfl⟩) hn
  · exact e
/-- names that turn -/
def turnsF (a b : List Pk) (N : List Nm) : List Tr := (N.filter fun n => !decide (vOf a n = vOf b n)).map fun n => (n, vOf a n, vOf b n)
theorem turnsF_ok {a b : List Pk} {N : List Nm} (hn : N.Nodup) (hm : ∀ n, n ∉ N → vOf a n = vOf b n) : TurnsOk a b (turnsF a b N) := by
  have e : (turnsF a b N).map (·.1) = N.filter fun n => !decide (vOf a n = vOf b n) := by
    unfold turnsF
    rw [List.map_map]
    exact List.map_id'' (fun _ => rfl) _
  refine ⟨by rw [e]; exact hn.filter _, fun t => ?_⟩
  unfold turnsF
  rw [List.mem_map]
  constructor
  · rintro ⟨n, h1, rfl⟩
    have h2 := (List.mem_filter.1 h1).2
    exact ⟨rfl, rfl, by simpa using h2⟩
  · rintro ⟨h1, h2, h3⟩
    obtain ⟨n, o, v⟩ := t
    simp only at h1 h2 h3
    subst h1 h2
    refine ⟨n, List.mem_filter.2 ⟨?_, by simpa using h3⟩, rfl⟩
    rcases Classical.em (n ∈ N) with h | h
    · exact h
    · exact absurd (hm n h) h3
theorem turnsF_take {a b : List Pk} {N : List Nm} {j : Nat} (h : j < N.length) : turnsF a b (N.take (j + 1)) = if vOf a N[j] = vOf b N[j] then turnsF a b (N.take j) else turnsF a b (N.take j) ++ [(N[j], vOf a N[j], vOf b N[j])] := by
  unfold turnsF
  rw [List.take_succ_eq_append_getElem h, List.filter_append, List.map_append]
  by_cases e : vOf a N[j] = vOf b N[j]
  · simp [e]
  · simp [e]
theorem turnsF_len {a b : List Pk} {N : List Nm} : (turnsF a b N).length ≤ N.length := by
  unfold turnsF
  rw [List.length_map]
  exact List.length_filter_le _ _
/-- names before the j-th are others -/
theorem asc_take {l : List Pk} (h : Asc l) {j : Nat} (hj : j < l.length) : ∀ q ∈ l.take j, q.1 ≠ (l[j]).1 := by
  intro q hq e
  obtain ⟨i, hi, rfl⟩ := List.mem_iff_getElem.1 hq
  rw [List.getElem_take] at e
  have hij : i < j := by have := hi; simp at this; omega
  have := Go.Proofs.Ytijniccmgjokoaa.asc_apart h i j (by omega) hj hij
  rw [e] at this
  exact List.lt_irrefl _ this
end Go.Sv
