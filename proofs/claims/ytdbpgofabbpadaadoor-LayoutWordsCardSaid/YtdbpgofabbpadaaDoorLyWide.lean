/- Plain law of package layout: a group that fits is one line. No program in sight. -/
import Derived.Test.YtdbpgofabbpadaaDoorLyLaw
set_option linter.unusedVariables false
namespace Go.Ly
open Go.Mem
def openP : Pc := ⟨5, 0, []⟩
def wideD (d : List Pc) : List Pc := [openP] ++ d ++ [closeP]
def sumF (d : List Pc) : Nat := (d.map lenF).sum
def txtF (p : Pc) : List UInt8 := if p.kind = 2 then [32] else p.s
def softD (d : List Pc) : List Pc := d.filter fun p => !(p.kind == 4)
theorem dep_soft : ∀ (d : List Pc) (n : Nat), dep n (softD d) = dep n d
  | [], n => rfl
  | p :: r, n => by
    unfold softD
    rw [List.filter_cons]
    by_cases h : p.kind = 4
    · have hd : depStep n p = some n := by unfold depStep; rw [if_neg (by omega), if_neg (by omega)]
      rw [if_neg (by simp [h])]
      show dep n (softD r) = (match depStep n p with | none => none | some m => dep m r)
      rw [hd]
      exact dep_soft r n
    · rw [if_pos (by simp [h])]
      show (match depStep n p with | none => none | some m => dep m (softD r)) = (match depStep n p with | none => none | some m => dep m r)
      cases depStep n p with
      | none => rfl
      | some m => exact dep_soft r m
theorem dep_shift : ∀ (d : List Pc) (n e : Nat), dep n d = some e → dep (n + 1) d = some (e + 1)
  | [], n, e, h => by
    have h : some n = some e := h
    injection h with h
    subst h
    rfl
  | p :: r, n, e, h => by
    have h : (match depStep n p with | none => none | some m => dep m r) = some e := h
    show (match depStep (n + 1) p with | none => none | some m => dep m r) = some (e + 1)
    cases hs : depStep n p with
    | none => rw [hs] at h; cases h
    | some m =>
      rw [hs] at h
      have : depStep (n + 1) p = some (m + 1) := by
        unfold depStep at hs ⊢
        split at hs
        · rename_i h5
          rw [if_pos h5]
          injection hs with hs
          rw [hs]
        · rename_i h5
          rw [if_neg h5]
          split at hs
          · rename_i h6
            rw [if_pos h6]
            split at hs
            · cases hs
            · injection hs with hs
              rw [hs]
          · rename_i h6
            rw [if_neg h6]
            injection hs with hs
            rw [hs]
      rw [this]
      exact dep_shift r m e h
theorem soft_ok {d : List Pc} (h : Ok d) : Ok (softD d) ∧ (softD d).length ≤ d.length ∧ ∀ p ∈ softD d, p.kind ≠ 4 := by
  have hl : (softD d).length ≤ d.length := List.length_filter_le _ _
  refine ⟨⟨by have := h.len; omega, fun p hp => h.pc p (List.mem_filter.1 hp).1, by rw [dep_soft]; exact h.dep⟩, hl, fun p hp => ?_⟩
  have := (List.mem_filter.1 hp).2
  simpa using this
theorem wide_ok {d : List Pc} (h : Ok d) (hl : d.length ≤ 80) : Ok (wideD d) := by
  refine ⟨by unfold wideD; simp; omega, fun p hp => ?_, ?_⟩
  · unfold wideD at hp
    simp only [List.mem_append, List.mem_singleton] at hp
    rcases hp with (rfl | hp) | rfl
    · exact ⟨by decide, by decide, by decide, fun _ => rfl, fun _ => rfl, fun b hb => by simp [openP] at hb⟩
    · exact h.pc p hp
    · exact closeP_ok
  · show dep 0 ([openP] ++ d ++ [closeP]) = some 0
    rw [dep_app, dep_app, show dep 0 [openP] = some 1 from rfl]
    show (dep 1 d).bind (fun m => dep m [closeP]) = some 0
    rw [dep_shift d 0 0 h.dep]
    rfl
theorem wide_len (d : List Pc) : (wideD d).length = d.length + 2 := by unfold wideD; simp
theorem wide_at {d : List Pc} {j : Nat} (hj : j < d.length) (h : j + 1 < (wideD d).length) : (wideD d)[j + 1] = d[j] := by
  have e : (wideD d)[j + 1]? = some d[j] := by
    unfold wideD
    rw [List.getElem?_append_left (by simp; omega), List.getElem?_append_right (by simp)]
    simp [hj]
  rw [List.getElem?_eq_getElem h] at e
  injection e
theorem wide_end {d : List Pc} (h : d.length + 1 < (wideD d).length) : (wideD d)[d.length + 1] = closeP := by
  have e : (wideD d)[d.length + 1]? = some closeP := by
    unfold wideD
    rw [List.getElem?_append_right (by simp)]
    simp
  rw [List.getElem?_eq_getElem h] at e
  injection e
theorem wide_take {d : List Pc} {j : Nat} (hj : j ≤ d.length) : (wideD d).take (j + 1) = openP :: d.take j := by
  unfold wideD
  rw [List.append_assoc, List.singleton_append, List.take_succ_cons, List.take_append_of_le_length hj]
theorem wide_depth {d : List Pc} (h : Ok d) {j : Nat} (hj : j ≤ d.length) : depAt (wideD d) (j + 1) = depAt d j + 1 := by
  unfold depAt
  rw [wide_take hj]
  show (dep 1 (d.take j)).getD 0 = _
  rw [dep_shift _ 0 _ (h.depth j)]
  unfold depAt
  rfl
theorem sumF_next {d : List Pc} {j : Nat} (hj : j < d.length) : sumF (d.take (j + 1)) = sumF (d.take j) + lenF d[j] := by
  rw [List.take_succ_eq_append_getElem hj]
  unfold sumF
  rw [List.map_append, List.sum_append]
  simp only [List.map_cons, List.map_nil, List.sum_cons, List.sum_nil, Nat.add_zero]
theorem wide_ms {d : List Pc} (h : Ok d) (hl : d.length ≤ 80) (hh : ∀ p ∈ d, p.kind ≠ 4) : ∀ (j : Nat), j ≤ d.length → ∃ r, (msAt (wideD d) (j + 1)).stack = zeroS :: r ∧ (msAt (wideD d) (j + 1)).hards = 0 ∧ (msAt (wideD d) (j + 1)).width = sumF (d.take j)
  | 0, _ => ⟨[], rfl, rfl, rfl⟩
  | j + 1, hj => by
    obtain ⟨r, h1, h2, h3⟩ := wide_ms h hl hh j (by omega)
    have hw := wide_ok h hl
    have hlen := wide_len d
    have hj' : j + 1 < (wideD d).length := by omega
    have hd : (wideD d)[j + 1] = d[j] := wide_at (by omega) hj'
    have hs := (ms_ok hw (j + 1) (by omega)).stack
    have hk := hh _ (List.getElem_mem (show j < d.length by omega))
    rw [msAt_next hj', sumF_next (show j < d.length by omega)]
    have e1 := wide_depth h (show j + 1 ≤ d.length from hj)
    generalize msAt (wideD d) (j + 1) = m at h1 h2 h3 hs
    unfold msF
    split
    · exact ⟨r ++ [⟨j + 1, m.width, m.hards⟩], by simp [h1], h2, by simp only [h3, hd]⟩
    · split
      · rename_i e5 e
        have hc := hw.close hj' e
        rw [hc, e1, h1] at hs
        simp only [List.length_cons] at hs
        obtain ⟨x, r', rfl⟩ : ∃ x r', r = x :: r' := by
          cases r with
          | nil => simp at hs
          | cons x r' => exact ⟨x, r', rfl⟩
        refine ⟨(x :: r').dropLast, ?_, h2, by simp only [h3, hd]⟩
        simp only [h1]
        rw [List.dropLast_cons_of_ne_nil (by simp)]
      · split
        · rename_i e
          rw [hd] at e
          exact absurd e hk
        · exact ⟨r, h1, h2, by simp only [h3, hd]⟩
theorem wide_group {d : List Pc} (h : Ok d) (hl : d.length ≤ 80) (hh : ∀ p ∈ d, p.kind ≠ 4) : mget (msAt (wideD d) (wideD d).length).out 0 = some ⟨sumF d, 0, false, false, 0⟩ := by
  obtain ⟨r, h1, h2, h3⟩ := wide_ms h hl hh d.length (Nat.le_refl _)
  have hw := wide_ok h hl
  have hlen := wide_len d
  have hj' : d.length + 1 < (wideD d).length := by omega
  have hd := wide_end hj'
  have hs := (ms_ok hw (d.length + 1) (by omega)).stack
  rw [wide_depth h (Nat.le_refl _), h.depthEnd, h1] at hs
  have hr : r = [] := by
    cases r with
    | nil => rfl
    | cons x r' => simp at hs
  subst hr
  rw [List.take_length] at h3
  have e : msAt (wideD d) (wideD d).length = msF (wideD d) (d.length + 1) (msAt (wideD d) (d.length + 1)) (wideD d)[d.length + 1] := by
    rw [← msAt_next hj']
    congr 1
  rw [e, hd]
  generalize msAt (wideD d) (d.length + 1) = m at h1 h2 h3
  unfold msF
  rw [if_neg (by simp [closeP]), if_pos (by simp [closeP])]
  have hl1 : lastS m.stack = zeroS := by rw [h1]; rfl
  simp only [hl1]
  rw [show zeroS.at_ = 0 from rfl, mget_put_same, h2, h3, List.drop_eq_nil_of_le (by omega)]
  rfl
theorem wide_ls {d : List Pc} (h : Ok d) (hl : d.length ≤ 80) (hh : ∀ p ∈ d, p.kind ≠ 4) : ∀ (j : Nat), j ≤ d.length → ∃ r, (lsAt (msAt (wideD d) (wideD d).length).out (sumF d) (wideD d) (j + 1)).stack = topG :: r ∧ r.length = depAt d j + 1 ∧ (∀ g ∈ r, g.broken = false) ∧ (lsAt (msAt (wideD d) (wideD d).length).out (sumF d) (wideD d) (j + 1)).out = ((d.take j).map txtF).flatten
  | 0, _ => by
    have hlen := wide_len d
    have hg := wide_group h hl hh
    have h0 : 0 < (wideD d).length := by omega
    rw [lsAt_next h0]
    generalize (msAt (wideD d) (wideD d).length).out = G at hg
    have e0 : (wideD d)[0] = openP := rfl
    rw [e0]
    unfold lsF
    rw [if_pos (show openP.kind = 5 from rfl)]
    refine ⟨[openG G (sumF d) 0 (lsAt G (sumF d) (wideD d) 0) openP], rfl, rfl, fun g hg' => ?_, rfl⟩
    simp only [List.mem_singleton] at hg'
    subst hg'
    unfold openG
    rw [hg]
    simp [lsAt, lastG, topG]
  | j + 1, hj => by
    obtain ⟨r, h1, h2, h3, h4⟩ := wide_ls h hl hh j (by omega)
    have hw := wide_ok h hl
    have hlen := wide_len d
    have hj' : j + 1 < (wideD d).length := by omega
    have hjd : j < d.length := by omega
    have hd : (wideD d)[j + 1] = d[j] := wide_at hjd hj'
    have hk := hh _ (List.getElem_mem hjd)
    rw [lsAt_next hj', hd]
    have et : ((d.take (j + 1)).map txtF).flatten = ((d.take j).map txtF).flatten ++ txtF d[j] := by
      rw [List.take_succ_eq_append_getElem hjd, List.map_append, List.flatten_append]
      simp only [List.map_cons, List.map_nil, List.flatten_cons, List.flatten_nil, List.append_nil]
    rw [et, ← h4]
    generalize (msAt (wideD d) (wideD d).length).out = G at h1 h4
    generalize lsAt G (sumF d) (wideD d) (j + 1) = m at h1 h4
    have hp := h.pc _ (List.getElem_mem hjd)
    have hn : d[j].kind ≠ 1 → d[j].s = [] := hp.2.2.2.1
    have hr : r ≠ [] := by intro e; rw [e] at h2; simp at h2
    have hlast : lastG m.stack ∈ r := by
      rw [h1]
      unfold lastG
      rw [List.getLast?_cons, List.getLast?_eq_some_getLast hr]
      exact List.getLast_mem hr
    have hb := h3 _ hlast
    have htx : d[j].kind ≠ 2 → txtF d[j] = d[j].s := fun e => if_neg e
    unfold lsF
    split
    · rename_i e
      refine ⟨r ++ [openG G (sumF d) (j + 1) m d[j]], by simp [h1], by simp [h2, h.open_ hjd e], fun g hg => ?_, by rw [htx (by omega), hn (by omega)]; simp⟩
      rcases List.mem_append.1 hg with hg | hg
      · exact h3 g hg
      · simp only [List.mem_singleton] at hg
        subst hg
        simp [openG, hb]
    · split
      · rename_i e5 e
        have hc := h.close hjd e
        refine ⟨r.dropLast, ?_, by simp [h2, hc], fun g hg => h3 g (List.dropLast_subset _ hg), by rw [htx (by omega), hn (by omega)]; simp⟩
        simp only [h1]
        rw [List.dropLast_cons_of_ne_nil hr]
      · rename_i e5 e6
        have hdep := h.other hjd e5 e6
        rw [if_neg (by rw [hb]; simp; exact hk)]
        split
        · rename_i e
          exact ⟨r, h1, by rw [hdep]; exact h2, h3, by simp [txtF, e]⟩
        · rename_i e
          exact ⟨r, h1, by rw [hdep]; exact h2, h3, by rw [htx e]⟩
/-- LayoutWide's law -/
theorem wide {d : List Pc} (h : Ok d) (hl : d.length ≤ 80) (hh : ∀ p ∈ d, p.kind ≠ 4) : layF (wideD d) (sumF d) = (d.map txtF).flatten := by
  obtain ⟨r, h1, h2, h3, h4⟩ := wide_ls h hl hh d.length (Nat.le_refl _)
  have hlen := wide_len d
  have hj' : d.length + 1 < (wideD d).length := by omega
  have hd := wide_end hj'
  rw [List.take_length] at h4
  unfold layF
  have e : lsAt (msAt (wideD d) (wideD d).length).out (sumF d) (wideD d) (wideD d).length = lsF (msAt (wideD d) (wideD d).length).out (sumF d) (d.length + 1) (lsAt (msAt (wideD d) (wideD d).length).out (sumF d) (wideD d) (d.length + 1)) (wideD d)[d.length + 1] := by
    rw [← lsAt_next hj']
    congr 1
  rw [e, hd]
  unfold lsF
  rw [if_neg (by simp [closeP]), if_pos (by simp [closeP])]
  exact h4
theorem txt_len {d : List Pc} (h : ∀ p ∈ d, POk p) : ((d.map txtF).flatten).length = sumF d := by
  induction d with
  | nil => rfl
  | cons p r ih =>
    have i := ih fun q hq => h q (by simp [hq])
    unfold sumF at i ⊢
    rw [List.map_cons, List.map_cons, List.flatten_cons, List.length_append, List.sum_cons, i]
    congr 1
    unfold txtF lenF
    split <;> rfl
theorem txt_no {d : List Pc} (h : ∀ p ∈ d, POk p) : ∀ b ∈ (d.map txtF).flatten, b ≠ 10 := by
  intro b hb
  obtain ⟨l, hl, hb⟩ := List.mem_flatten.1 hb
  obtain ⟨p, hp, rfl⟩ := List.mem_map.1 hl
  unfold txtF at hb
  split at hb
  · simp at hb
    subst hb
    decide
  · have := (h p hp).2.2.2.2.2 b hb
    rintro rfl
    simp at this
theorem lay_const : layF [⟨1, 0, [97]⟩, ⟨4, 0, []⟩, ⟨1, 0, [98]⟩] 5 = [97, 10, 98] ∧ layF [⟨5, 0, []⟩, ⟨2, 0, []⟩, ⟨6, 0, []⟩] 9 = [32] ∧ layF [⟨1, 0, [97]⟩, ⟨2, 0, []⟩, ⟨1, 0, [98]⟩] 99 = [97, 10, 98] := by decide +kernel
end Go.Ly
