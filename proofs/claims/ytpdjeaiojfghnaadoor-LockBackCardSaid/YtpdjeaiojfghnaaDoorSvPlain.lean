/- Plain laws of Best and Right. -/
import Derived.Test.YtpdjeaiojfghnaaDoorSvRight
set_option linter.unusedVariables false
namespace Go.Proofs.YtpdjeaiojfghnaaDoor
open Go.RowKit Go.Mem Go.Sv
theorem MsOk.dist {ms : List Md} (h : MsOk ms) : Dist ms := by
  have irr : ∀ a b : Md, MdLt a b → a.name = b.name → a.ver = b.ver → False := by
    intro a b hl hn hv
    rcases hl with hl | hl
    · rw [hn] at hl
      exact List.lt_irrefl _ hl
    · omega
  have hod := h.od
  intro a ha b hb hn hv
  obtain ⟨i, hi, rfl⟩ := List.mem_iff_getElem.1 ha
  obtain ⟨j, hj, rfl⟩ := List.mem_iff_getElem.1 hb
  rcases Nat.lt_trichotomy i j with hij | rfl | hij
  · exact absurd (List.pairwise_iff_getElem.1 hod i j hi hj hij) fun hl => irr _ _ hl hn hv
  · rfl
  · exact absurd (List.pairwise_iff_getElem.1 hod j i hj hi hij) fun hl => irr _ _ hl hn.symm hv.symm
theorem best_some {ms : List Md} {root : List Us} {first : List Pk} {x : List Pk} (h : bestF ms root first = some x) : ∃ r, completeF ms first root 31 [] = some r ∧ x = picksF r ∧ Go.Sv.Way ms root r ∧ Full ms root r := by
  unfold bestF at h
  obtain ⟨r, h1, h2⟩ := Option.map_eq_some_iff.1 h
  obtain ⟨h3, h4⟩ := complete_right h1
  exact ⟨r, h1, h2.symm, h3, h4⟩
theorem mem_picks {r : List Md} (hn : (r.map (·.name)).Nodup) {p : Pk} : p ∈ picksF r ↔ ∃ m ∈ r, p = (m.name, m.ver) := by
  unfold picksF
  rw [List.mem_map]
  constructor
  · rintro ⟨n, h1, rfl⟩
    obtain ⟨m, h2, rfl⟩ := List.mem_map.1 ((sorted_perm' _).mem_iff.1 h1)
    refine ⟨m, h2, ?_⟩
    unfold verF
    rw [pick_mem hn h2]
    rfl
  · rintro ⟨m, h2, rfl⟩
    refine ⟨m.name, (sorted_perm' _).mem_iff.2 (List.mem_map.2 ⟨m, h2, rfl⟩), ?_⟩
    unfold verF
    rw [pick_mem hn h2]
    rfl
theorem picks_len (r : List Md) : (picksF r).length = r.length := by
  unfold picksF
  rw [List.length_map, (sorted_perm' _).length_eq, List.length_map]
theorem picks_names (r : List Md) : (picksF r).map (·.1) = sorted (r.map (·.name)) := by
  unfold picksF
  rw [List.map_map]
  exact List.map_id'' (fun _ => rfl) _
theorem sorted_nodup {l : List Nm} (h : l.Nodup) : (sorted l).Nodup := (sorted_perm' l).nodup_iff.2 h
theorem pk_find {l : List Pk} (hn : (l.map (·.1)).Nodup) {p : Pk} (hp : p ∈ l) : pkOf l p.1 = some p := by
  unfold pkOf
  induction l with
  | nil => simp at hp
  | cons a r ih =>
    rw [List.map_cons, List.nodup_cons] at hn
    rw [List.find?_cons]
    by_cases e : a.1 = p.1
    · rw [decide_eq_true e]
      rcases List.mem_cons.1 hp with rfl | hp
      · rfl
      · exact absurd (List.mem_map.2 ⟨p, hp, e.symm⟩) hn.1
    · rw [decide_eq_false e]
      rcases List.mem_cons.1 hp with rfl | hp
      · exact absurd rfl e
      · exact ih hn.2 hp
theorem picks_find {r : List Md} (hn : (r.map (·.name)).Nodup) {m : Md} (hm : m ∈ r) : pkOf (picksF r) m.name = some (m.name, m.ver) :=
  pk_find (p := (m.name, m.ver)) (by rw [picks_names]; exact sorted_nodup hn) ((mem_picks hn).2 ⟨m, hm, rfl⟩)
theorem picks_asc {r : List Md} (hn : (r.map (·.name)).Nodup) : Asc (picksF r) := by
  intro i h
  have hs : (sorted (r.map (·.name))).Pairwise (fun a b => leB a b = true) :=
    List.pairwise_mergeSort (fun a b c h1 h2 => by simp only [leB, decide_eq_true_eq] at *; exact List.le_trans h1 h2) (fun a b => by simp only [leB, Bool.or_eq_true, decide_eq_true_eq]; exact List.le_total a b) _
  have hd := sorted_nodup hn
  rw [← picks_names] at hs hd
  have hl : i + 1 < ((picksF r).map (·.1)).length := by simpa using h
  have h1 := List.pairwise_iff_getElem.1 hs i (i + 1) (by omega) hl (by omega)
  have h2 := List.pairwise_iff_getElem.1 hd i (i + 1) (by omega) hl (by omega)
  simp only [List.getElem_map, leB, decide_eq_true_eq] at h1 h2
  rcases List.le_iff_lt_or_eq.1 h1 with h3 | h3
  · exact h3
  · exact absurd h3 h2
/-- what is picked does -/
theorem best_right {ms : List Md} {root : List Us} {first : List Pk} {x : List Pk} (hm : MsOk ms) (h : bestF ms root first = some x) : RightP ms root x := by
  obtain ⟨r, _, rfl, hw, hT⟩ := best_some h
  refine ⟨picks_asc hT.nd, ?_⟩
  rw [picks_len]
  exact right_good (MsOk.dist hm) hw hT (fun m hm' => picks_find hT.nd hm') (fun m hm' => (hm.us m (hT.sub m hm')).1) (Nat.le_refl _)
theorem picks_same {a b : List Md} (ha : (a.map (·.name)).Nodup) (hb : (b.map (·.name)).Nodup) (h : ∀ m, m ∈ a ↔ m ∈ b) : picksF a = picksF b := by
  have hp : (a.map (·.name)).Perm (b.map (·.name)) := by
    refine (List.perm_ext_iff_of_nodup ha hb).2 fun n => ?_
    rw [List.mem_map, List.mem_map]
    exact ⟨fun ⟨m, h1, h2⟩ => ⟨m, (h m).1 h1, h2⟩, fun ⟨m, h1, h2⟩ => ⟨m, (h m).2 h1, h2⟩⟩
  unfold picksF
  rw [show sorted (a.map (·.name)) = sorted (b.map (·.name)) from mergeSort_of_perm hp]
  apply List.map_congr_left
  intro n hn
  obtain ⟨m, h1, rfl⟩ := List.mem_map.1 ((sorted_perm' _).mem_iff.1 hn)
  unfold verF
  rw [pick_mem hb h1, pick_mem ha ((h m).2 h1)]
theorem full_len {ms : List Md} {root : List Us} {T : List Md} (hm : MsOk ms) (hT : Full ms root T) : T.length < 31 + ([] : List Md).length := by
  have := nodup_len hT.nd hT.sub
  have := hm.ln
  simp only [List.length_nil]
  omega
/-- what was picked once is picked again, if it is tried first -/
theorem best_again {ms : List Md} {root : List Us} {first : List Pk} {x : List Pk} (hm : MsOk ms) (h : bestF ms root first = some x) : bestF ms root x = some x := by
  obtain ⟨r, _, rfl, hw, hT⟩ := best_some h
  have hd := MsOk.dist hm
  obtain ⟨r', h1, h2⟩ := complete_first hd hT (first := picksF r) (fun m hm' => by
    rw [mem_picks hT.nd]
    constructor
    · rintro ⟨q, hq, e⟩
      injection e with e1 e2
      rw [hd m hm' q (hT.sub q hq) e1 e2]
      exact hq
    · intro h
      exact ⟨m, h, rfl⟩) 31 [] (by simp) (by simp) (full_len hm hT)
  obtain ⟨hw', hT'⟩ := complete_right h1
  have h3 := way_sub hw hT' (fun m hm1 q hq e => same_name hT.nd (h2 m hm1) hq e)
  unfold bestF
  rw [h1]
  simp only [Option.map_some]
  rw [picks_same hT'.nd hT.nd fun m => ⟨h2 m, h3 m⟩]
/-- if nothing is picked, no picks do -/
theorem best_none {ms : List Md} {root : List Us} {first picks : List Pk} (hm : MsOk ms) (h : bestF ms root first = none) : ¬ RightP ms root picks := by
  rintro ⟨_, re, h1, _⟩
  obtain ⟨T, hT⟩ := right_full h1
  obtain ⟨r, h2⟩ := complete_some hT (first := first) 31 [] (by simp) (by simp) (full_len hm hT)
  unfold bestF at h
  rw [h2] at h
  cases h
/-- a module that nobody wants is of no matter -/
theorem best_more {ms : List Md} {root : List Us} {first : List Pk} {z : Md} (hz : ∀ m ∈ ms, ∀ u ∈ m.uses, u.name ≠ z.name) (hr : ∀ u ∈ root, u.name ≠ z.name) : bestF (ms ++ [z]) root first = bestF ms root first := by
  unfold bestF
  rw [complete_more hz hr 31 [] (by simp)]
end Go.Proofs.YtpdjeaiojfghnaaDoor
