/- Plain law of reachability: what a breadth-first search carries; who is reached from one that is reached is reached. -/
import Derived.Test.YtaealapgebbnlaaGreatDoorQrMem
set_option linter.unusedVariables false
namespace Go.Md
/-- whom a name uses -/
def useOf (nm : List Bs) (ls : List (List Bs)) (s : Bs) : List Bs := (ls[nm.idxOf s]?).getD []
theorem useOf_at {nm : List Bs} {ls : List (List Bs)} {s : Bs} (h : s ∈ nm) (hl : ls.length = nm.length) : nm[nm.idxOf s]? = some s ∧ ls[nm.idxOf s]? = some (useOf nm ls s) := by
  have hi : nm.idxOf s < nm.length := List.idxOf_lt_length_iff.2 h
  refine ⟨by rw [List.getElem?_eq_getElem hi]; simp, ?_⟩
  unfold useOf
  rw [List.getElem?_eq_getElem (by omega)]
  rfl
/-- the uses are names -/
def UsesIn (nm : List Bs) (ls : List (List Bs)) : Prop := ls.length = nm.length ∧ ∀ l ∈ ls, l.Nodup ∧ ∀ t ∈ l, t ∈ nm
theorem UsesIn.mem {nm : List Bs} {ls : List (List Bs)} (h : UsesIn nm ls) {s t : Bs} (ht : t ∈ useOf nm ls s) : t ∈ nm := by
  unfold useOf at ht
  rcases hl : ls[nm.idxOf s]? with _ | l
  · rw [hl] at ht
    cases ht
  · rw [hl] at ht
    exact (h.2 l (List.mem_of_getElem? hl)).2 t ht
theorem nodup_len {l k : List Bs} (hn : l.Nodup) (h : ∀ x ∈ l, x ∈ k) : l.length ≤ k.length := hn.length_le_of_subset h
theorem UsesIn.len {nm : List Bs} {ls : List (List Bs)} (h : UsesIn nm ls) (s : Bs) : (useOf nm ls s).length ≤ nm.length := by
  unfold useOf
  rcases hl : ls[nm.idxOf s]? with _ | l
  · exact Nat.zero_le _
  · obtain ⟨h1, h2⟩ := h.2 l (List.mem_of_getElem? hl)
    exact nodup_len h1 h2
def Closed (nm : List Bs) (ls : List (List Bs)) (C : Bs → Prop) : Prop := ∀ s, C s → ∀ t ∈ useOf nm ls s, C t
/-- a search from l: what is out, what waits -/
structure Rc (nm : List Bs) (ls : List (List Bs)) (l q O : List Bs) : Prop where
  nd : O.Nodup
  on : ∀ s ∈ O, s ∈ nm
  qn : ∀ s ∈ q, s ∈ nm
  st : ∀ s ∈ l, s ∈ O ∨ s ∈ q
  cl : ∀ s ∈ O, ∀ t ∈ useOf nm ls s, t ∈ O ∨ t ∈ q
  mi : ∀ C : Bs → Prop, (∀ s ∈ l, C s) → Closed nm ls C → ∀ s, s ∈ O ∨ s ∈ q → C s
theorem Rc.start {nm : List Bs} {ls : List (List Bs)} {l : List Bs} (h : ∀ s ∈ l, s ∈ nm) : Rc nm ls l l [] :=
  ⟨List.nodup_nil, by simp, h, fun s hs => .inr hs, by simp, fun C h1 _ s hs => h1 s (by simpa using hs)⟩
theorem Rc.skip {nm : List Bs} {ls : List (List Bs)} {l q O : List Bs} {s : Bs} (h : Rc nm ls l (s :: q) O) (hs : s ∈ O) : Rc nm ls l q O := by
  have k : ∀ t, (t ∈ O ∨ t ∈ s :: q) → t ∈ O ∨ t ∈ q := fun t ht => ht.elim .inl fun h => (List.mem_cons.1 h).elim (fun e => .inl (e ▸ hs)) .inr
  exact ⟨h.nd, h.on, fun t ht => h.qn t (List.mem_cons_of_mem _ ht), fun t ht => k t (h.st t ht), fun t ht u hu => k u (h.cl t ht u hu), fun C h1 h2 t ht => h.mi C h1 h2 t (ht.imp id (List.mem_cons_of_mem _))⟩
theorem Rc.take {nm : List Bs} {ls : List (List Bs)} {l q O : List Bs} {s : Bs} (hu : UsesIn nm ls) (h : Rc nm ls l (s :: q) O) (hs : s ∉ O) {n : List Bs} (hn : ∀ t, t ∈ n ↔ t ∈ useOf nm ls s) : Rc nm ls l (q ++ n) (O ++ [s]) := by
  have k : ∀ t, (t ∈ O ∨ t ∈ s :: q) → t ∈ O ++ [s] ∨ t ∈ q ++ n := fun t ht => ht.elim (fun h => .inl (List.mem_append_left _ h)) fun h => (List.mem_cons.1 h).elim (fun e => .inl (by simp [e])) fun h => .inr (List.mem_append_left _ h)
  refine ⟨?_, ?_, ?_, fun t ht => k t (h.st t ht), ?_, ?_⟩
  · exact List.nodup_append.2 ⟨h.nd, by simp, fun x hx y hy => by simp at hy; subst hy; intro e; exact hs (e ▸ hx)⟩
  · intro t ht
    rcases List.mem_append.1 ht with ht | ht
    · exact h.on t ht
    · simp at ht
      subst ht
      exact h.qn t (List.mem_cons_self ..)
  · intro t ht
    rcases List.mem_append.1 ht with ht | ht
    · exact h.qn t (List.mem_cons_of_mem _ ht)
    · exact hu.mem ((hn t).1 ht)
  · intro t ht u hu'
    rcases List.mem_append.1 ht with ht | ht
    · exact k u (h.cl t ht u hu')
    · simp at ht
      subst ht
      exact .inr (List.mem_append_right _ ((hn u).2 hu'))
  · intro C h1 h2 t ht
    have hC : ∀ t, t ∈ O ∨ t ∈ s :: q → C t := h.mi C h1 h2
    rcases ht with ht | ht
    · rcases List.mem_append.1 ht with ht | ht
      · exact hC t (.inl ht)
      · simp at ht
        subst ht
        exact hC t (.inr (List.mem_cons_self ..))
    · rcases List.mem_append.1 ht with ht | ht
      · exact hC t (.inr (List.mem_cons_of_mem _ ht))
      · exact h2 s (hC s (.inr (List.mem_cons_self ..))) t ((hn t).1 ht)
/-- what is reached from l -/
structure ReachOf (nm : List Bs) (ls : List (List Bs)) (l O : List Bs) : Prop where
  nd : O.Nodup
  on : ∀ s ∈ O, s ∈ nm
  st : ∀ s ∈ l, s ∈ O
  cl : Closed nm ls (· ∈ O)
  mi : ∀ C : Bs → Prop, (∀ s ∈ l, C s) → Closed nm ls C → ∀ s ∈ O, C s
theorem Rc.done {nm : List Bs} {ls : List (List Bs)} {l O : List Bs} (h : Rc nm ls l [] O) : ReachOf nm ls l O :=
  ⟨h.nd, h.on, fun s hs => (h.st s hs).elim id (by simp), fun s hs t ht => (h.cl s hs t ht).elim id (by simp), fun C h1 h2 s hs => h.mi C h1 h2 s (.inl hs)⟩
theorem ReachOf.trans {nm : List Bs} {ls : List (List Bs)} {l O P : List Bs} {b : Bs} (h : ReachOf nm ls l O) (hb : b ∈ O) (k : ReachOf nm ls [b] P) : ∀ s ∈ P, s ∈ O :=
  k.mi (· ∈ O) (fun s hs => by simp at hs; subst hs; exact hb) h.cl
end Go.Md
