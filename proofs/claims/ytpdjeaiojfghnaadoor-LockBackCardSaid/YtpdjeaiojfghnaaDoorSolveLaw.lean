/- Plain laws of picking modules by trying. No program in sight. -/
import Derived.Lib.Hide
set_option linter.unusedVariables false
namespace Go.Sv
abbrev Nm := List UInt8
structure Us where
  name : Nm
  low : Nat
  high : Nat
deriving DecidableEq
structure Md where
  name : Nm
  ver : Nat
  uses : List Us
deriving DecidableEq
abbrev Pk := Nm × Nat

def pickOf (pk : List Md) (n : Nm) : Option Md := pk.find? fun m => decide (m.name = n)
def wantsOf (root : List Us) (pk : List Md) : List Us := root ++ pk.flatMap (·.uses)
def okU (pk : List Md) (u : Us) : Bool := match pickOf pk u.name with
  | none => true
  | some m => decide (u.low ≤ m.ver) && decide (m.ver ≤ u.high)
def satB (pk : List Md) (ws : List Us) : Bool := ws.all (okU pk)
def lessO : Option Nm → Nm → Bool
  | none, _ => true
  | some a, x => decide (x < a)
def openStep (pk : List Md) (acc : Option Nm) (u : Us) : Option Nm := if ((pickOf pk u.name).isNone && lessO acc u.name) = true then some u.name else acc
def openF (pk : List Md) (ws : List Us) : Option Nm := ws.foldl (openStep pk) none
def candsF (ms : List Md) (first : List Pk) (n : Nm) : List Md :=
  (ms.reverse.filter fun m => decide (m.name = n) && decide ((m.name, m.ver) ∈ first)) ++ ms.reverse.filter fun m => decide (m.name = n) && !decide ((m.name, m.ver) ∈ first)
def completeF (ms : List Md) (first : List Pk) (root : List Us) : Nat → List Md → Option (List Md)
  | 0, _ => none
  | k + 1, pk => match openF pk (wantsOf root pk) with
    | none => some pk
    | some n => (candsF ms first n).findSome? fun m => if satB (pk ++ [m]) (wantsOf root (pk ++ [m])) then completeF ms first root k (pk ++ [m]) else none

theorem pick_some {pk : List Md} {n : Nm} {m : Md} (h : pickOf pk n = some m) : m ∈ pk ∧ m.name = n := by
  have h1 := List.mem_of_find?_eq_some h
  have h2 := List.find?_some h
  exact ⟨h1, by simpa using h2⟩
theorem pick_none {pk : List Md} {n : Nm} : pickOf pk n = none ↔ ∀ m ∈ pk, m.name ≠ n := by
  unfold pickOf
  rw [List.find?_eq_none]
  simp
theorem pick_mem {pk : List Md} (hn : (pk.map (·.name)).Nodup) {m : Md} (hm : m ∈ pk) : pickOf pk m.name = some m := by
  cases h : pickOf pk m.name with
  | none => exact absurd rfl (pick_none.1 h m hm)
  | some q =>
    obtain ⟨h1, h2⟩ := pick_some h
    rw [same_name hn h1 hm h2]
where
  same_name {pk : List Md} (hn : (pk.map (·.name)).Nodup) {a b : Md} (ha : a ∈ pk) (hb : b ∈ pk) (h : a.name = b.name) : a = b := by
    induction pk with
    | nil => simp at ha
    | cons x r ih =>
      rw [List.map_cons, List.nodup_cons] at hn
      rcases List.mem_cons.1 ha with e1 | ha2
      · rcases List.mem_cons.1 hb with e2 | hb2
        · rw [e1, e2]
        · exact absurd (List.mem_map.2 ⟨b, hb2, by rw [← h, e1]⟩ : x.name ∈ r.map (·.name)) hn.1
      · rcases List.mem_cons.1 hb with e2 | hb2
        · exact absurd (List.mem_map.2 ⟨a, ha2, by rw [h, e2]⟩ : x.name ∈ r.map (·.name)) hn.1
        · exact ih hn.2 ha2 hb2
theorem same_name {pk : List Md} (hn : (pk.map (·.name)).Nodup) {a b : Md} (ha : a ∈ pk) (hb : b ∈ pk) (h : a.name = b.name) : a = b := pick_mem.same_name hn ha hb h

/-! ### open -/
theorem open_go (pk : List Md) : ∀ (ws : List Us) (acc : Option Nm), 
    (ws.foldl (openStep pk) acc = none ↔ acc = none ∧ ∀ u ∈ ws, (pickOf pk u.name).isSome) ∧
    (∀ n, ws.foldl (openStep pk) acc = some n → acc = some n ∨ ∃ u ∈ ws, u.name = n ∧ pickOf pk n = none)
  | [], acc => ⟨by simp, fun n h => .inl h⟩
  | u :: ws, acc => by
    obtain ⟨h1, h2⟩ := open_go pk ws (openStep pk acc u)
    rw [List.foldl_cons]
    constructor
    · rw [h1]
      unfold openStep
      cases hp : pickOf pk u.name with
      | none =>
        simp only [Option.isNone_none, Bool.true_and]
        cases acc with
        | none => simp [hp, lessO]
        | some a => split <;> simp
      | some m => simp [hp]
    · intro n hn
      rcases h2 n hn with h3 | ⟨v, hv, h4, h5⟩
      · unfold openStep at h3
        split at h3
        · rename_i hc
          injection h3 with h3
          simp only [Bool.and_eq_true, Option.isNone_iff_eq_none] at hc
          exact .inr ⟨u, by simp, h3, by rw [← h3]; exact hc.1⟩
        · exact .inl h3
      · exact .inr ⟨v, by simp [hv], h4, h5⟩
theorem open_none {pk : List Md} {ws : List Us} : openF pk ws = none ↔ ∀ u ∈ ws, ∃ m ∈ pk, m.name = u.name := by
  unfold openF
  rw [(open_go pk ws none).1]
  simp only [true_and]
  constructor
  · intro h u hu
    obtain ⟨m, hm⟩ := Option.isSome_iff_exists.1 (h u hu)
    exact ⟨m, pick_some hm⟩
  · intro h u hu
    obtain ⟨m, hm, e⟩ := h u hu
    cases hp : pickOf pk u.name with
    | none => exact absurd e (pick_none.1 hp m hm)
    | some _ => rfl
theorem open_some {pk : List Md} {ws : List Us} {n : Nm} (h : openF pk ws = some n) : (∃ u ∈ ws, u.name = n) ∧ ∀ m ∈ pk, m.name ≠ n := by
  rcases (open_go pk ws none).2 n h with h1 | ⟨u, hu, h1, h2⟩
  · cases h1
  · exact ⟨⟨u, hu, h1⟩, pick_none.1 h2⟩
theorem mem_cands {ms : List Md} {first : List Pk} {n : Nm} {m : Md} : m ∈ candsF ms first n ↔ m ∈ ms ∧ m.name = n := by
  unfold candsF
  rw [List.mem_append, List.mem_filter, List.mem_filter, List.mem_reverse]
  by_cases h : (m.name, m.ver) ∈ first <;> simp [h]

theorem mem_wants {root : List Us} {pk : List Md} {u : Us} : u ∈ wantsOf root pk ↔ u ∈ root ∨ ∃ m ∈ pk, u ∈ m.uses := by simp [wantsOf]
/-- picks that do: of the register, each name once, all wants are met -/
structure Full (ms : List Md) (root : List Us) (T : List Md) : Prop where
  sub : ∀ m ∈ T, m ∈ ms
  nd : (T.map (·.name)).Nodup
  cl : ∀ u ∈ wantsOf root T, ∃ m ∈ T, m.name = u.name ∧ u.low ≤ m.ver ∧ m.ver ≤ u.high
/-- picks so far: each is wanted by those before it, or at the root -/
inductive Way (ms : List Md) (root : List Us) : List Md → Prop
  | nil : Way ms root []
  | snoc {pk : List Md} {m : Md} : Way ms root pk → m ∈ ms → (∃ u ∈ wantsOf root pk, u.name = m.name) → (∀ q ∈ pk, q.name ≠ m.name) → Way ms root (pk ++ [m])
theorem Way.sub {ms : List Md} {root : List Us} {pk : List Md} (h : Way ms root pk) : (∀ m ∈ pk, m ∈ ms) ∧ (pk.map (·.name)).Nodup := by
  induction h with
  | nil => simp
  | snoc h hm hu hq ih =>
    refine ⟨fun q hq' => ?_, ?_⟩
    · rcases List.mem_append.1 hq' with h1 | h1
      · exact ih.1 q h1
      · simp at h1; rw [h1]; exact hm
    · rw [List.map_append, List.nodup_append]
      refine ⟨ih.2, by simp, fun a ha b hb => ?_⟩
      obtain ⟨q, hq1, rfl⟩ := List.mem_map.1 ha
      simp at hb
      rw [hb]
      exact hq q hq1
theorem wants_sub {root : List Us} {pk T : List Md} (h : ∀ m ∈ pk, m ∈ T) : ∀ u ∈ wantsOf root pk, u ∈ wantsOf root T := by
  intro u hu
  rcases mem_wants.1 hu with h1 | ⟨m, hm, h1⟩
  · exact mem_wants.2 (.inl h1)
  · exact mem_wants.2 (.inr ⟨m, h m hm, h1⟩)
theorem sat_of_full {ms : List Md} {root : List Us} {T pk : List Md} (hT : Full ms root T) (h : ∀ m ∈ pk, m ∈ T) : satB pk (wantsOf root pk) = true := by
  unfold satB
  rw [List.all_eq_true]
  intro u hu
  unfold okU
  cases hp : pickOf pk u.name with
  | none => rfl
  | some q =>
    obtain ⟨h1, h2⟩ := pick_some hp
    obtain ⟨m, hm, e, l, r⟩ := hT.cl u (wants_sub h u hu)
    have : q = m := same_name hT.nd (h q h1) hm (h2.trans e.symm)
    subst this
    simp [l, r]
theorem nodup_len {pk T : List Md} (hn : (pk.map (·.name)).Nodup) (h : ∀ m ∈ pk, m ∈ T) : pk.length ≤ T.length := by
  have hp : pk.Nodup := by
    rw [List.nodup_iff_pairwise_ne, List.pairwise_map] at *
    exact hn.imp fun h e => h (by rw [e])
  exact hp.length_le_of_subset h
/-- where there are picks that do, some are found -/
theorem complete_some {ms : List Md} {first : List Pk} {root : List Us} {T : List Md} (hT : Full ms root T) : ∀ (k : Nat) (pk : List Md), (∀ m ∈ pk, m ∈ T) → (pk.map (·.name)).Nodup → T.length < k + pk.length →
    ∃ r, completeF ms first root k pk = some r
  | 0, pk, hs, hn, hk => by have := nodup_len hn hs; omega
  | k + 1, pk, hs, hn, hk => by
    unfold completeF
    cases ho : openF pk (wantsOf root pk) with
    | none => exact ⟨pk, rfl⟩
    | some n =>
      obtain ⟨⟨u, hu, e⟩, hq⟩ := open_some ho
      obtain ⟨m, hm, e2, _, _⟩ := hT.cl u (wants_sub hs u hu)
      have hmn : m.name = n := e2.trans e
      have hs2 : ∀ q ∈ pk ++ [m], q ∈ T := fun q hq => by
        rcases List.mem_append.1 hq with h | h
        · exact hs q h
        · simp at h; rw [h]; exact hm
      have hn2 : ((pk ++ [m]).map (·.name)).Nodup := by
        rw [List.map_append, List.nodup_append]
        refine ⟨hn, by simp, fun a ha b hb => ?_⟩
        obtain ⟨q, hq1, rfl⟩ := List.mem_map.1 ha
        simp at hb
        rw [hb, hmn]
        exact hq q hq1
      obtain ⟨r, hr⟩ := complete_some hT k (pk ++ [m]) hs2 hn2 (by simp; omega)
      have hc : m ∈ candsF ms first n := mem_cands.2 ⟨hT.sub m hm, hmn⟩
      simp only
      cases hf : (candsF ms first n).findSome? fun m => if satB (pk ++ [m]) (wantsOf root (pk ++ [m])) then completeF ms first root k (pk ++ [m]) else none with
      | some r => exact ⟨r, rfl⟩
      | none =>
        have := List.findSome?_eq_none_iff.1 hf m hc
        rw [if_pos (sat_of_full hT hs2), hr] at this
        cases this
/-- what is found does -/
theorem complete_full {ms : List Md} {first : List Pk} {root : List Us} : ∀ (k : Nat) (pk r : List Md), Way ms root pk → satB pk (wantsOf root pk) = true → completeF ms first root k pk = some r → Way ms root r ∧ Full ms root r ∧ ∀ m ∈ pk, m ∈ r
  | 0, _, _, _, _, h => by cases h
  | k + 1, pk, r, hw, hs, h => by
    unfold completeF at h
    cases ho : openF pk (wantsOf root pk) with
    | none =>
      rw [ho] at h
      injection h with h
      subst h
      refine ⟨hw, ⟨hw.sub.1, hw.sub.2, fun u hu => ?_⟩, fun _ h => h⟩
      obtain ⟨m, hm, e⟩ := open_none.1 ho u hu
      have h1 := List.all_eq_true.1 hs u hu
      unfold okU at h1
      rw [← e, pick_mem hw.sub.2 hm] at h1
      simp at h1
      exact ⟨m, hm, e, h1⟩
    | some n =>
      rw [ho] at h
      simp only at h
      obtain ⟨m, hm, h1⟩ := List.exists_of_findSome?_eq_some h
      split at h1
      · rename_i hs2
        obtain ⟨⟨u, hu, e⟩, hq⟩ := open_some ho
        obtain ⟨hm1, hm2⟩ := mem_cands.1 hm
        obtain ⟨r1, r2, r3⟩ := complete_full k (pk ++ [m]) r (hw.snoc hm1 ⟨u, hu, e.trans hm2.symm⟩ (fun q hq1 => by rw [hm2]; exact hq q hq1)) hs2 h1
        exact ⟨r1, r2, fun q hq => r3 q (by simp [hq])⟩
      · cases h1
/-- all that do are not less than what is wanted -/
theorem way_sub {ms : List Md} {root : List Us} {r T : List Md} (hr : Way ms root r) (hT : Full ms root T) (hTr : ∀ m ∈ T, ∀ q ∈ r, m.name = q.name → m = q) : ∀ m ∈ r, m ∈ T := by
  induction hr with
  | nil => simp
  | @snoc pk m h hm hu hq ih =>
    have ih2 := ih fun a ha b hb e => hTr a ha b (by simp [hb]) e
    intro q hq
    rcases List.mem_append.1 hq with h1 | h1
    · exact ih2 q h1
    · simp at h1
      subst h1
      obtain ⟨u, hu1, e⟩ := hu
      obtain ⟨t, ht, e2, _, _⟩ := hT.cl u (wants_sub ih2 u hu1)
      have := hTr t ht q (by simp) (e2.trans e)
      rw [← this]
      exact ht
/-- the register's versions differ -/
def Dist (ms : List Md) : Prop := ∀ a ∈ ms, ∀ b ∈ ms, a.name = b.name → a.ver = b.ver → a = b
/-- those that are tried first, and do, are found -/
theorem complete_first {ms : List Md} {root : List Us} (hd : Dist ms) {T : List Md} (hT : Full ms root T) {first : List Pk} (hf : ∀ m ∈ ms, (m.name, m.ver) ∈ first ↔ m ∈ T) : ∀ (k : Nat) (pk : List Md), (∀ m ∈ pk, m ∈ T) → (pk.map (·.name)).Nodup → T.length < k + pk.length →
    ∃ r, completeF ms first root k pk = some r ∧ ∀ m ∈ r, m ∈ T
  | 0, pk, hs, hn, hk => by have := nodup_len hn hs; omega
  | k + 1, pk, hs, hn, hk => by
    unfold completeF
    cases ho : openF pk (wantsOf root pk) with
    | none => exact ⟨pk, rfl, hs⟩
    | some n =>
      obtain ⟨⟨u, hu, e⟩, hq⟩ := open_some ho
      obtain ⟨m, hm, e2, _, _⟩ := hT.cl u (wants_sub hs u hu)
      have hmn : m.name = n := e2.trans e
      have hs2 : ∀ q ∈ pk ++ [m], q ∈ T := fun q hq => by
        rcases List.mem_append.1 hq with h | h
        · exact hs q h
        · simp at h; rw [h]; exact hm
      have hn2 : ((pk ++ [m]).map (·.name)).Nodup := by
        rw [List.map_append, List.nodup_append]
        refine ⟨hn, by simp, fun a ha b hb => ?_⟩
        obtain ⟨q, hq1, rfl⟩ := List.mem_map.1 ha
        simp at hb
        rw [hb, hmn]
        exact hq q hq1
      obtain ⟨r, hr, hr2⟩ := complete_first hd hT hf k (pk ++ [m]) hs2 hn2 (by simp; omega)
      -- the first one that is tried is m
      obtain ⟨l, hl⟩ : ∃ l, candsF ms first n = m :: l := by
        have h1 : ∀ q ∈ ms.reverse.filter (fun m => decide (m.name = n) && decide ((m.name, m.ver) ∈ first)), q = m := fun q hq => by
          rw [List.mem_filter, List.mem_reverse] at hq
          simp only [Bool.and_eq_true, decide_eq_true_eq] at hq
          exact same_name hT.nd ((hf q hq.1).1 hq.2.2) hm (hq.2.1.trans hmn.symm)
        have h2 : m ∈ ms.reverse.filter (fun m => decide (m.name = n) && decide ((m.name, m.ver) ∈ first)) := by
          rw [List.mem_filter, List.mem_reverse]
          simp only [Bool.and_eq_true, decide_eq_true_eq]
          exact ⟨hT.sub m hm, hmn, (hf m (hT.sub m hm)).2 hm⟩
        unfold candsF
        cases hl : ms.reverse.filter (fun m => decide (m.name = n) && decide ((m.name, m.ver) ∈ first)) with
        | nil => rw [hl] at h2; simp at h2
        | cons x t =>
          rw [hl] at h1
          rw [h1 x (by simp)]
          exact ⟨_, rfl⟩
      simp only
      rw [hl, List.findSome?_cons, if_pos (sat_of_full hT hs2), hr]
      exact ⟨r, rfl, hr2⟩
/-- a module that nobody wants is of no matter -/
theorem complete_more {ms : List Md} {first : List Pk} {root : List Us} {z : Md} (hz : ∀ m ∈ ms, ∀ u ∈ m.uses, u.name ≠ z.name) (hr : ∀ u ∈ root, u.name ≠ z.name) : ∀ (k : Nat) (pk : List Md), (∀ m ∈ pk, m ∈ ms) →
    completeF (ms ++ [z]) first root k pk = completeF ms first root k pk
  | 0, _, _ => rfl
  | k + 1, pk, hs => by
    unfold completeF
    cases ho : openF pk (wantsOf root pk) with
    | none => rfl
    | some n =>
      obtain ⟨⟨u, hu, e⟩, _⟩ := open_some ho
      have hne : z.name ≠ n := by
        rw [← e]
        rcases mem_wants.1 hu with h | ⟨m, hm, h⟩
        · exact (hr u h).symm
        · exact (hz m (hs m hm) u h).symm
      have hc : candsF (ms ++ [z]) first n = candsF ms first n := by
        unfold candsF
        simp [hne]
      simp only
      rw [hc]
      apply findSome_congr
      intro m hm
      split
      · exact complete_more hz hr k (pk ++ [m]) fun q hq => by
          rcases List.mem_append.1 hq with h | h
          · exact hs q h
          · simp at h; rw [h]; exact (mem_cands.1 hm).1
      · rfl
where
  findSome_congr {α β : Type} {l : List α} {f g : α → Option β} (h : ∀ a ∈ l, f a = g a) : l.findSome? f = l.findSome? g := by
    induction l with
    | nil => rfl
    | cons x r ih =>
      rw [List.findSome?_cons, List.findSome?_cons, h x (by simp), ih fun a ha => h a (by simp [ha])]
end Go.Sv
