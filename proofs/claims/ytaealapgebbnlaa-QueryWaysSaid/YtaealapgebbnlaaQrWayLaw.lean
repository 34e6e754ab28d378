/- Plain law of the way: by whom each name was reached first; the way back. -/
import Derived.Test.YtaealapgebbnlaaQrLaw
set_option linter.unusedVariables false
namespace Go.Md
/-- by whom each name was reached first -/
structure Wf (nm : List Bs) (ls : List (List Bs)) (a : Bs) (F : List (Bs × Bs)) : Prop where
  nd : (F.map (·.1)).Nodup
  hd : F[0]? = some (a, a)
  pr : ∀ (i : Nat) (s t : Bs), F[i + 1]? = some (s, t) → (∃ (j : Nat) (t' : Bs), j ≤ i ∧ F[j]? = some (t, t')) ∧ s ∈ useOf nm ls t
  on : ∀ s ∈ F.map (·.1), s ∈ nm
theorem Wf.len {nm : List Bs} {ls : List (List Bs)} {a : Bs} {F : List (Bs × Bs)} (h : Wf nm ls a F) : F.length ≤ nm.length := by
  have := nodup_len h.nd h.on
  simpa using this
theorem Wf.start {nm : List Bs} {ls : List (List Bs)} {a : Bs} (ha : a ∈ nm) : Wf nm ls a [(a, a)] :=
  ⟨by simp, rfl, fun i s t h => by simp at h, fun s hs => by simp at hs; rw [hs]; exact ha⟩
/-- one more name is reached -/
theorem Wf.add {nm : List Bs} {ls : List (List Bs)} {a s t : Bs} {F : List (Bs × Bs)} (h : Wf nm ls a F) (hs : s ∈ F.map (·.1)) (ht : t ∉ F.map (·.1)) (hu : t ∈ useOf nm ls s) (hn : t ∈ nm) : Wf nm ls a (F ++ [(t, s)]) := by
  have hl : 0 < F.length := by
    rcases F with _ | ⟨x, r⟩
    · simp at hs
    · simp
  refine ⟨?_, ?_, ?_, ?_⟩
  · rw [List.map_append]
    exact List.nodup_append.2 ⟨h.nd, by simp, fun x hx y hy => by simp at hy; subst hy; intro e; exact ht (e ▸ hx)⟩
  · rw [List.getElem?_append_left hl]
    exact h.hd
  · intro i x y hi
    by_cases hlt : i + 1 < F.length
    · rw [List.getElem?_append_left hlt] at hi
      obtain ⟨⟨j, t', hj, e⟩, h2⟩ := h.pr i x y hi
      exact ⟨⟨j, t', hj, by rw [List.getElem?_append_left (by omega)]; exact e⟩, h2⟩
    · rw [List.getElem?_append_right (by omega)] at hi
      have e0 : i + 1 - F.length = 0 := by
        rcases Nat.eq_zero_or_pos (i + 1 - F.length) with e | e
        · exact e
        · rw [List.getElem?_eq_none (by simp; omega)] at hi; cases hi
      rw [e0] at hi
      simp at hi
      obtain ⟨rfl, rfl⟩ := hi
      obtain ⟨p, hp, rfl⟩ := List.mem_map.1 hs
      obtain ⟨j, hj, e⟩ := List.mem_iff_getElem.1 hp
      refine ⟨⟨j, p.2, by omega, ?_⟩, hu⟩
      rw [List.getElem?_append_left hj, List.getElem?_eq_getElem hj, e]
  · intro x hx
    rw [List.map_append] at hx
    rcases List.mem_append.1 hx with hx | hx
    · exact h.on x hx
    · simp at hx
      rw [hx]
      exact hn
/-- the search: what waits -/
structure Wq (nm : List Bs) (ls : List (List Bs)) (a : Bs) (F : List (Bs × Bs)) (q : List Bs) : Prop where
  wf : Wf nm ls a F
  qk : ∀ s ∈ q, s ∈ F.map (·.1)
  cl : ∀ s ∈ F.map (·.1), s ∈ q ∨ ∀ t ∈ useOf nm ls s, t ∈ F.map (·.1)
theorem Wq.start {nm : List Bs} {ls : List (List Bs)} {a : Bs} (ha : a ∈ nm) : Wq nm ls a [(a, a)] [a] :=
  ⟨Wf.start ha, by simp, by simp⟩
/-- in the midst of the uses u of s -/
structure Wi (nm : List Bs) (ls : List (List Bs)) (a : Bs) (F : List (Bs × Bs)) (s : Bs) (q : List Bs) (u : List Bs) (k : Nat) : Prop where
  w : Wq nm ls a F (s :: q)
  dn : ∀ t ∈ u.take k, t ∈ F.map (·.1)
theorem Wi.start {nm : List Bs} {ls : List (List Bs)} {a s : Bs} {F : List (Bs × Bs)} {q u : List Bs} (h : Wq nm ls a F (s :: q)) : Wi nm ls a F s q u 0 := ⟨h, by simp⟩
theorem Wi.old {nm : List Bs} {ls : List (List Bs)} {a s t : Bs} {F : List (Bs × Bs)} {q u : List Bs} {k : Nat} (h : Wi nm ls a F s q u k) (ht : u[k]? = some t) (hm : t ∈ F.map (·.1)) : Wi nm ls a F s q u (k + 1) := by
  refine ⟨h.w, fun x hx => ?_⟩
  rw [List.take_add_one, ht] at hx
  rcases List.mem_append.1 hx with hx | hx
  · exact h.dn x hx
  · simp at hx
    rw [hx]
    exact hm
theorem Wi.new {nm : List Bs} {ls : List (List Bs)} {a s t : Bs} {F : List (Bs × Bs)} {q u : List Bs} {k : Nat} (hu : UsesIn nm ls) (h : Wi nm ls a F s q u k) (hus : ∀ t, t ∈ u ↔ t ∈ useOf nm ls s) (ht : u[k]? = some t) (hm : t ∉ F.map (·.1)) : Wi nm ls a (F ++ [(t, s)]) s (q ++ [t]) u (k + 1) := by
  have htu : t ∈ useOf nm ls s := (hus t).1 (List.mem_of_getElem? ht)
  have e : (F ++ [(t, s)]).map (·.1) = F.map (·.1) ++ [t] := by simp
  have hi : ∀ x ∈ F.map (·.1), x ∈ (F ++ [(t, s)]).map (·.1) := fun x hx => by rw [e]; exact List.mem_append_left _ hx
  have hx : t ∈ (F ++ [(t, s)]).map (·.1) := by rw [e]; simp
  refine ⟨⟨h.w.wf.add (h.w.qk s (List.mem_cons_self ..)) hm htu (hu.mem htu), ?_, ?_⟩, ?_⟩
  · intro x hq
    rw [← List.cons_append] at hq
    rcases List.mem_append.1 hq with hq | hq
    · exact hi x (h.w.qk x hq)
    · simp at hq
      rw [hq]
      exact hx
  · intro x hk
    rw [e] at hk
    rcases List.mem_append.1 hk with hk | hk
    · rcases h.w.cl x hk with h1 | h1
      · exact .inl (by rw [← List.cons_append]; exact List.mem_append_left _ h1)
      · exact .inr fun y hy => hi y (h1 y hy)
    · simp at hk
      rw [hk]
      exact .inl (by simp)
  · intro x hk
    rw [List.take_add_one, ht] at hk
    rcases List.mem_append.1 hk with hk | hk
    · exact hi x (h.dn x hk)
    · simp at hk
      rw [hk]
      exact hx
theorem Wi.done {nm : List Bs} {ls : List (List Bs)} {a s : Bs} {F : List (Bs × Bs)} {q u : List Bs} {k : Nat} (h : Wi nm ls a F s q u k) (hus : ∀ t, t ∈ u ↔ t ∈ useOf nm ls s) (hk : u.length ≤ k) : Wq nm ls a F q := by
  refine ⟨h.w.wf, fun x hx => h.w.qk x (List.mem_cons_of_mem _ hx), fun x hx => ?_⟩
  rcases h.w.cl x hx with h1 | h1
  · rcases List.mem_cons.1 h1 with h1 | h1
    · subst h1
      exact .inr fun t ht => h.dn t (by rw [List.take_of_length_le hk]; exact (hus t).2 ht)
    · exact .inl h1
  · exact .inr h1
theorem Wf.sub {nm : List Bs} {ls : List (List Bs)} {a : Bs} {F : List (Bs × Bs)} (h : Wf nm ls a F) {C : Bs → Prop} (ha : C a) (hc : Closed nm ls C) : ∀ (i : Nat) (s t : Bs), F[i]? = some (s, t) → C s := by
  intro i
  induction i using Nat.strongRecOn with
  | ind i ih =>
    intro s t hi
    rcases i with _ | i
    · rw [h.hd] at hi
      injection hi with hi
      injection hi with h1 h2
      exact h1 ▸ ha
    · obtain ⟨⟨j, t', hj, e⟩, h2⟩ := h.pr i s t hi
      exact hc t (ih j (by omega) t t' e) s h2
/-- what has been reached is what is reachable -/
theorem Wq.reach {nm : List Bs} {ls : List (List Bs)} {a : Bs} {F : List (Bs × Bs)} {O : List Bs} (h : Wq nm ls a F []) (hO : ReachOf nm ls [a] O) (b : Bs) : b ∈ F.map (·.1) ↔ b ∈ O := by
  constructor
  · intro hb
    obtain ⟨p, hp, rfl⟩ := List.mem_map.1 hb
    obtain ⟨i, hi, e⟩ := List.mem_iff_getElem.1 hp
    exact h.wf.sub (C := (· ∈ O)) (hO.st a (by simp)) hO.cl i p.1 p.2 (by rw [List.getElem?_eq_getElem hi, e])
  · exact hO.mi (· ∈ F.map (·.1)) (fun s hs => by
      simp at hs
      subst hs
      exact List.mem_map.2 ⟨(s, s), List.mem_of_getElem? h.wf.hd, rfl⟩) (fun s hs t ht => (h.cl s hs).elim (by simp) fun h1 => h1 t ht) b
/-- the way back from b: it stands at entry i -/
structure Bk (nm : List Bs) (ls : List (List Bs)) (F : List (Bs × Bs)) (b s : Bs) (i : Nat) (xs : List Bs) : Prop where
  at_ : ∃ t, F[i]? = some (s, t)
  fst : xs[0]? = some b
  lst : xs.getLast? = some s
  st : ∀ (m : Nat) (x y : Bs), xs[m]? = some x → xs[m + 1]? = some y → x ∈ useOf nm ls y
  ln : xs.length + i ≤ F.length
theorem Bk.start {nm : List Bs} {ls : List (List Bs)} {F : List (Bs × Bs)} {b : Bs} (hb : b ∈ F.map (·.1)) : ∃ i, Bk nm ls F b b i [b] := by
  obtain ⟨p, hp, rfl⟩ := List.mem_map.1 hb
  obtain ⟨i, hi, e⟩ := List.mem_iff_getElem.1 hp
  exact ⟨i, ⟨p.2, by rw [List.getElem?_eq_getElem hi, e]⟩, rfl, rfl, fun m x y h1 h2 => by simp at h2, by simp; omega⟩
theorem Bk.stop {nm : List Bs} {ls : List (List Bs)} {a : Bs} {F : List (Bs × Bs)} (hF : Wf nm ls a F) {b s : Bs} {i : Nat} {xs : List Bs} (h : Bk nm ls F b s i xs) : s = a ↔ i = 0 := by
  obtain ⟨t, ht⟩ := h.at_
  constructor
  · intro e
    subst e
    have h1 : (F.map (·.1))[i]? = some s := by rw [List.getElem?_map, ht]; rfl
    have h2 : (F.map (·.1))[0]? = some s := by rw [List.getElem?_map, hF.hd]; rfl
    obtain ⟨hi, e1⟩ := List.getElem?_eq_some_iff.1 h1
    obtain ⟨h0, e2⟩ := List.getElem?_eq_some_iff.1 h2
    exact (List.getElem_inj hF.nd).1 (e1.trans e2.symm)
  · rintro rfl
    rw [hF.hd] at ht
    injection ht with ht
    injection ht with h1 h2
    exact h1.symm
theorem Bk.next {nm : List Bs} {ls : List (List Bs)} {a : Bs} {F : List (Bs × Bs)} (hF : Wf nm ls a F) {b s : Bs} {i : Nat} {xs : List Bs} (h : Bk nm ls F b s i xs) (hi : i ≠ 0) : ∃ t j, F[i]? = some (s, t) ∧ j < i ∧ Bk nm ls F b t j (xs ++ [t]) := by
  obtain ⟨t, ht⟩ := h.at_
  obtain ⟨k, rfl⟩ : ∃ k, i = k + 1 := ⟨i - 1, by omega⟩
  obtain ⟨⟨j, t', hj, e⟩, h2⟩ := hF.pr k s t ht
  have hx : xs ≠ [] := fun e0 => by have := h.fst; rw [e0] at this; simp at this
  have hxl : 0 < xs.length := List.length_pos_iff.2 hx
  refine ⟨t, j, ht, by omega, ⟨t', e⟩, ?_, by simp, ?_, ?_⟩
  · rw [List.getElem?_append_left hxl]
    exact h.fst
  · intro m x y h3 h4
    by_cases hm : m + 1 < xs.length
    · rw [List.getElem?_append_left (by omega)] at h3
      rw [List.getElem?_append_left hm] at h4
      exact h.st m x y h3 h4
    · have hml : m + 1 < (xs ++ [t]).length := (List.getElem?_eq_some_iff.1 h4).1
      rw [List.length_append, List.length_singleton] at hml
      have em : m + 1 = xs.length := by omega
      rw [List.getElem?_append_left (by omega)] at h3
      rw [List.getElem?_append_right (by omega), em, Nat.sub_self] at h4
      simp at h4
      have h5 := h.lst
      rw [List.getLast?_eq_getElem?, show xs.length - 1 = m by omega, h3] at h5
      injection h5 with h5
      rw [h5, ← h4]
      exact h2
  · have := h.ln
    simp
    omega
/-- a way from a to b -/
structure PathOf (nm : List Bs) (ls : List (List Bs)) (a b : Bs) (P : List Bs) : Prop where
  fst : P[0]? = some a
  lst : P.getLast? = some b
  st : ∀ (m : Nat) (x y : Bs), P[m]? = some x → P[m + 1]? = some y → y ∈ useOf nm ls x
  ln : P.length ≤ nm.length
  ne : 0 < P.length
theorem Bk.path {nm : List Bs} {ls : List (List Bs)} {a : Bs} {F : List (Bs × Bs)} (hF : Wf nm ls a F) {b s : Bs} {xs : List Bs} (h : Bk nm ls F b s 0 xs) : PathOf nm ls a b xs.reverse := by
  have hs : s = a := (h.stop hF).2 rfl
  subst hs
  have hx : xs ≠ [] := fun e0 => by have := h.fst; rw [e0] at this; simp at this
  have hxl : 0 < xs.length := List.length_pos_iff.2 hx
  refine ⟨?_, ?_, ?_, ?_, by simpa using hxl⟩
  · rw [List.getElem?_reverse (by omega), ← h.lst, List.getLast?_eq_getElem?]
    congr 1
  · rw [List.getLast?_reverse, List.head?_eq_getElem?]
    exact h.fst
  · intro m x y h1 h2
    have hl2 : m + 1 < xs.reverse.length := (List.getElem?_eq_some_iff.1 h2).1
    rw [List.length_reverse] at hl2
    rw [List.getElem?_reverse (by omega)] at h1
    rw [List.getElem?_reverse (by omega)] at h2
    exact h.st (xs.length - 1 - (m + 1)) y x h2 (by rw [show xs.length - 1 - (m + 1) + 1 = xs.length - 1 - m by omega]; exact h1)
  · rw [List.length_reverse]
    have := h.ln
    have := hF.len
    omega
end Go.Md
