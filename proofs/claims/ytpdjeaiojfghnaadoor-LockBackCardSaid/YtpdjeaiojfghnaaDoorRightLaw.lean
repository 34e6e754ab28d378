/- Plain laws of asking whether picks do. No program in sight. -/
import Derived.Test.YtpdjeaiojfghnaaDoorSolveLaw
set_option linter.unusedVariables false
namespace Go.Sv
def pkOf (picks : List Pk) (n : Nm) : Option Pk := picks.find? fun p => decide (p.1 = n)
def mdOf (ms : List Md) (n : Nm) (v : Nat) : Option Md := ms.find? fun m => decide (m.name = n) && decide (m.ver = v)
/-- a want that is met, and its module -/
def metBy (ms : List Md) (picks : List Pk) (u : Us) : Option Md := match pkOf picks u.name with
  | none => none
  | some p => if p.2 < u.low ∨ u.high < p.2 then none else mdOf ms u.name p.2
def rightGo (ms : List Md) (picks : List Pk) : Nat → List Us → List Nm → Option (List Nm)
  | _, [], re => some re
  | 0, _ :: _, _ => none
  | k + 1, u :: q, re => match metBy ms picks u with
    | none => none
    | some m => if u.name ∈ re then rightGo ms picks k q re else rightGo ms picks k (q ++ m.uses) (re ++ [u.name])
theorem met_some {ms : List Md} {picks : List Pk} {u : Us} {m : Md} (h : metBy ms picks u = some m) : ∃ p, pkOf picks u.name = some p ∧ u.low ≤ p.2 ∧ p.2 ≤ u.high ∧ mdOf ms u.name p.2 = some m ∧ m ∈ ms ∧ m.name = u.name ∧ m.ver = p.2 := by
  unfold metBy at h
  cases hp : pkOf picks u.name with
  | none => rw [hp] at h; cases h
  | some p =>
    rw [hp] at h
    simp only at h
    split at h
    · cases h
    · rename_i hc
      have h1 := List.mem_of_find?_eq_some h
      have h2 := List.find?_some h
      simp only [Bool.and_eq_true, decide_eq_true_eq] at h2
      exact ⟨p, rfl, by omega, by omega, h, h1, h2⟩
/-- while wants are asked -/
structure RI (ms : List Md) (picks : List Pk) (root : List Us) (q : List Us) (re : List Nm) : Prop where
  nd : re.Nodup
  rt : ∀ u ∈ root, u ∈ q ∨ (u.name ∈ re ∧ (metBy ms picks u).isSome)
  us : ∀ n ∈ re, ∃ p m, pkOf picks n = some p ∧ mdOf ms n p.2 = some m ∧ ∀ u ∈ m.uses, u ∈ q ∨ (u.name ∈ re ∧ (metBy ms picks u).isSome)
theorem RI.nil (ms : List Md) (picks : List Pk) (root : List Us) : RI ms picks root root [] := ⟨List.nodup_nil, fun u h => .inl h, fun n h => by simp at h⟩
theorem right_inv {ms : List Md} {picks : List Pk} {root : List Us} : ∀ (k : Nat) (q : List Us) (re re' : List Nm), RI ms picks root q re → rightGo ms picks k q re = some re' → RI ms picks root [] re'
  | k, [], re, re', h, e => by
    have : re = re' := by cases k <;> (simp [rightGo] at e; exact e)
    rw [← this]
    exact h
  | 0, _ :: _, _, _, _, e => by cases e
  | k + 1, u :: q, re, re', h, e => by
    unfold rightGo at e
    cases hm : metBy ms picks u with
    | none => rw [hm] at e; cases e
    | some m =>
      rw [hm] at e
      simp only at e
      obtain ⟨p, hp, l, r, hmd, _, hn, hv⟩ := met_some hm
      have up : ∀ v, (v ∈ u :: q ∨ (v.name ∈ re ∧ (metBy ms picks v).isSome)) → ∀ (q' : List Us) (re2 : List Nm), (∀ x ∈ q, x ∈ q') → (∀ x ∈ re, x ∈ re2) → u.name ∈ re2 → v ∈ q' ∨ (v.name ∈ re2 ∧ (metBy ms picks v).isSome) := by
        intro v hv q' re2 h1 h2 h3
        rcases hv with hv | hv
        · rcases List.mem_cons.1 hv with rfl | hv
          · exact .inr ⟨h3, by rw [hm]; rfl⟩
          · exact .inl (h1 v hv)
        · exact .inr ⟨h2 _ hv.1, hv.2⟩
      split at e
      · rename_i hu
        refine right_inv k q re re' ⟨h.nd, fun v hv => up v (h.rt v hv) q re (fun _ h => h) (fun _ h => h) hu, fun n hn => ?_⟩ e
        obtain ⟨p', m', a, b, c⟩ := h.us n hn
        exact ⟨p', m', a, b, fun v hv => up v (c v hv) q re (fun _ h => h) (fun _ h => h) hu⟩
      · rename_i hu
        refine right_inv k _ _ re' ⟨?_, fun v hv => up v (h.rt v hv) _ _ (fun _ h => by simp [h]) (fun _ h => by simp [h]) (by simp), fun n hn => ?_⟩ e
        · rw [List.nodup_append]
          exact ⟨h.nd, by simp, fun a ha b hb => by simp at hb; rw [hb]; rintro rfl; exact hu ha⟩
        · rcases List.mem_append.1 hn with h1 | h1
          · obtain ⟨p', m', a, b, c⟩ := h.us n h1
            exact ⟨p', m', a, b, fun v hv => up v (c v hv) _ _ (fun _ h => by simp [h]) (fun _ h => by simp [h]) (by simp)⟩
          · simp at h1
            subst h1
            exact ⟨p, m, hp, hmd, fun v hv => .inl (by simp [hv])⟩
/-- picks that are right: there are some that do -/
theorem right_full {ms : List Md} {picks : List Pk} {root : List Us} {k : Nat} {re : List Nm} (h : rightGo ms picks k root [] = some re) : ∃ T, Full ms root T := by
  have hi := right_inv k root [] re (RI.nil ms picks root) h
  -- the module of a name that is reached
  let g : Nm → Option Md := fun n => (pkOf picks n).bind fun p => mdOf ms n p.2
  have hg : ∀ n ∈ re, ∃ p m, pkOf picks n = some p ∧ mdOf ms n p.2 = some m ∧ g n = some m := fun n hn => by
    obtain ⟨p, m, a, b, _⟩ := hi.us n hn
    exact ⟨p, m, a, b, by show (pkOf picks n).bind _ = _; rw [a]; exact b⟩
  have hname : ∀ n v m, mdOf ms n v = some m → m ∈ ms ∧ m.name = n ∧ m.ver = v := fun n v m h => by
    have h1 := List.mem_of_find?_eq_some h
    have h2 := List.find?_some h
    simp only [Bool.and_eq_true, decide_eq_true_eq] at h2
    exact ⟨h1, h2⟩
  have hin : ∀ m, m ∈ re.filterMap g ↔ ∃ n ∈ re, g n = some m := fun m => List.mem_filterMap
  have hcl : ∀ u, (u.name ∈ re ∧ (metBy ms picks u).isSome) → ∃ m ∈ re.filterMap g, m.name = u.name ∧ u.low ≤ m.ver ∧ m.ver ≤ u.high := by
    rintro u ⟨hu, hs⟩
    obtain ⟨m, hm⟩ := Option.isSome_iff_exists.1 hs
    obtain ⟨p, hp, l, r, hmd, _, e1, e2⟩ := met_some hm
    obtain ⟨p', m', a, b, c⟩ := hg _ hu
    rw [hp] at a
    injection a with a
    subst a
    rw [hmd] at b
    injection b with b
    subst b
    exact ⟨m, (hin m).2 ⟨_, hu, c⟩, e1, by omega, by omega⟩
  refine ⟨re.filterMap g, fun m hm => ?_, ?_, fun u hu => ?_⟩
  · obtain ⟨n, hn, e⟩ := (hin m).1 hm
    obtain ⟨p, m', a, b, c⟩ := hg n hn
    rw [c] at e
    injection e with e
    subst e
    exact (hname _ _ _ b).1
  · have : ∀ l : List Nm, (∀ n ∈ l, ∃ m, g n = some m ∧ m.name = n) → ((l.filterMap g).map (·.name)) = l := by
      intro l hl
      induction l with
      | nil => rfl
      | cons x r ih =>
        obtain ⟨m, e, e2⟩ := hl x (by simp)
        rw [List.filterMap_cons, e]
        simp only [List.map_cons]
        rw [ih fun n hn => hl n (by simp [hn]), e2]
    rw [this re fun n hn => by
      obtain ⟨p, m, a, b, c⟩ := hg n hn
      exact ⟨m, c, (hname _ _ _ b).2.1⟩]
    exact hi.nd
  · rcases mem_wants.1 hu with h1 | ⟨m, hm, h1⟩
    · rcases hi.rt u h1 with h2 | h2
      · simp at h2
      · exact hcl u h2
    · obtain ⟨n, hn, e⟩ := (hin m).1 hm
      obtain ⟨p, m', a, b, c⟩ := hi.us n hn
      have e2 : g n = some m' := by show (pkOf picks n).bind _ = _; rw [a]; exact b
      rw [e2] at e
      injection e with e
      subst e
      rcases c u h1 with h2 | h2
      · simp at h2
      · exact hcl u h2
/-- picks that do are right: all of them are reached -/
theorem right_some {ms : List Md} {root : List Us} {T : List Md} (hd : Dist ms) (hT : Full ms root T) {picks : List Pk} (hp : ∀ m ∈ T, pkOf picks m.name = some (m.name, m.ver)) : ∀ (k : Nat) (q : List Us) (re : List Nm), (∀ u ∈ q, u ∈ wantsOf root T) → re.Nodup → (∀ n ∈ re, n ∈ T.map (·.name)) → (∀ m ∈ T, m.uses.length ≤ 5) → q.length + 6 * (T.length - re.length) ≤ k →
    ∃ re', rightGo ms picks k q re = some re' ∧ (∀ n ∈ re', n ∈ T.map (·.name)) ∧ re'.Nodup
  | k, [], re, hq, hn, hs, h5, hk => ⟨re, by cases k <;> rfl, hs, hn⟩
  | 0, u :: q, re, hq, hn, hs, h5, hk => by simp at hk
  | k + 1, u :: q, re, hq, hn, hs, h5, hk => by
    obtain ⟨m, hm, e, l, r⟩ := hT.cl u (hq u (by simp))
    have hmet : metBy ms picks u = some m := by
      unfold metBy
      rw [← e, hp m hm]
      simp only
      rw [if_neg (by omega)]
      cases hf : mdOf ms m.name m.ver with
      | none =>
        have := List.find?_eq_none.1 hf m (hT.sub m hm)
        simp at this
      | some m' =>
        have h1 := List.mem_of_find?_eq_some hf
        have h2 := List.find?_some hf
        simp only [Bool.and_eq_true, decide_eq_true_eq] at h2
        rw [hd m' h1 m (hT.sub m hm) h2.1 h2.2]
    unfold rightGo
    rw [hmet]
    simp only
    split
    · exact right_some hd hT hp k q re (fun v hv => hq v (by simp [hv])) hn hs h5 (by simp at hk; omega)
    · rename_i hu
      have hlen : re.length < T.length := by
        have h1 : (re ++ [u.name]).Nodup := by
          rw [List.nodup_append]
          exact ⟨hn, by simp, fun a ha b hb => by simp at hb; rw [hb]; rintro rfl; exact hu ha⟩
        have h2 := h1.length_le_of_subset (l₂ := T.map (·.name)) fun n hn2 => by
          rcases List.mem_append.1 hn2 with h | h
          · exact hs n h
          · simp at h; rw [h]; exact List.mem_map.2 ⟨m, hm, e⟩
        simp at h2
        omega
      refine right_some hd hT hp k _ _ (fun v hv => ?_) ?_ (fun n hn2 => ?_) h5 ?_
      · rcases List.mem_append.1 hv with h | h
        · exact hq v (by simp [h])
        · exact mem_wants.2 (.inr ⟨m, hm, h⟩)
      · rw [List.nodup_append]
        exact ⟨hn, by simp, fun a ha b hb => by simp at hb; rw [hb]; rintro rfl; exact hu ha⟩
      · rcases List.mem_append.1 hn2 with h | h
        · exact hs n h
        · simp at h; rw [h]; exact List.mem_map.2 ⟨m, hm, e⟩
      · have := h5 m hm
        simp at hk ⊢
        omega
theorem right_good {ms : List Md} {root : List Us} {T : List Md} (hd : Dist ms) (hw : Way ms root T) (hT : Full ms root T) {picks : List Pk} (hp : ∀ m ∈ T, pkOf picks m.name = some (m.name, m.ver)) (h5 : ∀ m ∈ T, m.uses.length ≤ 5) {k : Nat} (hk : root.length + 6 * T.length ≤ k) :
    ∃ re, rightGo ms picks k root [] = some re ∧ re.length = T.length := by
  obtain ⟨re, h1, h2, h3⟩ := right_some hd hT hp k root [] (fun u hu => mem_wants.2 (.inl hu)) List.nodup_nil (by simp) h5 (by simpa using hk)
  have hi := right_inv k root [] re (RI.nil ms picks root) h1
  have hall : ∀ {pk : List Md}, Way ms root pk → (∀ m ∈ pk, m ∈ T) → ∀ m ∈ pk, m.name ∈ re := by
    intro pk hpk
    induction hpk with
    | nil => simp
    | @snoc pk m h hm hu hq ih =>
      intro hs x hx
      have ih2 := ih fun a ha => hs a (by simp [ha])
      rcases List.mem_append.1 hx with h4 | h4
      · exact ih2 x h4
      · simp at h4
        subst h4
        obtain ⟨u, hu1, e⟩ := hu
        rw [← e]
        rcases mem_wants.1 hu1 with h5 | ⟨y, hy, h5⟩
        · rcases hi.rt u h5 with h6 | h6
          · simp at h6
          · exact h6.1
        · obtain ⟨p, m', a, b, c⟩ := hi.us y.name (ih2 y hy)
          have hyT := hs y (by simp [hy])
          rw [hp y hyT] at a
          injection a with a
          subst a
          have h7 := List.mem_of_find?_eq_some b
          have h8 := List.find?_some b
          simp only [Bool.and_eq_true, decide_eq_true_eq] at h8
          have : m' = y := hd m' h7 y (hT.sub y hyT) h8.1 h8.2
          subst this
          rcases c u h5 with h6 | h6
          · simp at h6
          · exact h6.1
  refine ⟨re, h1, ?_⟩
  have a := h3.length_le_of_subset h2
  have b := hT.nd.length_le_of_subset (l₂ := re) fun n hn => by
    obtain ⟨m, hm, rfl⟩ := List.mem_map.1 hn
    exact hall hw (fun _ h => h) m hm
  simp at a b
  omega
end Go.Sv
