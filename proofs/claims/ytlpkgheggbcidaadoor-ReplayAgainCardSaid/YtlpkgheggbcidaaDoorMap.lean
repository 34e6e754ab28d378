/- Words for maps in memory, over any program: a block that is a map reads as a list of keys and elements; the laws of looking up, storing, deleting, counting and ranging. No condition. -/
import Derived.Test.YtlpkgheggbcidaaDoorMem
import Derived.Maps.OwnSet
import Derived.Maps.RangeRun
import Derived.DeepKeys4
set_option linter.unusedVariables false
namespace Go.Mem
open Go.RowKit Go.Maps Go.MapKept
open Go.ChangeMaps (setBlock)

section
variable {α : Type} [DecidableEq α] {β : Type}
def mget (l : List (α × β)) (a : α) : Option β := (l.find? fun p => decide (p.1 = a)).map (·.2)
def mput (l : List (α × β)) (a : α) (v : β) : List (α × β) := if (mget l a).isSome then l.map (fun p => if p.1 = a then (a, v) else p) else l ++ [(a, v)]
def mdel (l : List (α × β)) (a : α) : List (α × β) := l.filter fun p => !decide (p.1 = a)
theorem mget_nil (a : α) : mget ([] : List (α × β)) a = none := rfl
theorem mget_cons (p : α × β) (l : List (α × β)) (a : α) : mget (p :: l) a = if p.1 = a then some p.2 else mget l a := by
  unfold mget
  rw [List.find?_cons]
  by_cases h : p.1 = a <;> simp [h]
theorem mget_app (l k : List (α × β)) (a : α) : mget (l ++ k) a = (mget l a).or (mget k a) := by
  induction l with
  | nil => simp [mget_nil]
  | cons p r ih =>
    rw [List.cons_append, mget_cons, mget_cons, ih]
    by_cases h : p.1 = a <;> simp [h]
theorem mget_mem {l : List (α × β)} {a : α} {v : β} (h : mget l a = some v) : (a, v) ∈ l := by
  induction l with
  | nil => simp [mget_nil] at h
  | cons p r ih =>
    rw [mget_cons] at h
    by_cases hp : p.1 = a
    · rw [if_pos hp] at h
      injection h with h
      subst hp h
      simp
    · rw [if_neg hp] at h
      exact List.mem_cons_of_mem _ (ih h)
theorem mget_none {l : List (α × β)} {a : α} : mget l a = none ↔ ∀ p ∈ l, p.1 ≠ a := by
  induction l with
  | nil => simp [mget_nil]
  | cons p r ih =>
    rw [mget_cons]
    by_cases hp : p.1 = a
    · simp [hp]
    · rw [if_neg hp, ih]
      simp [hp]
theorem mget_at {l : List (α × β)} {a : α} {v : β} (hn : (l.map (·.1)).Nodup) (h : (a, v) ∈ l) : mget l a = some v := by
  induction l with
  | nil => simp at h
  | cons p r ih =>
    rw [mget_cons]
    rcases List.mem_cons.1 h with e | e
    · rw [← e]; simp
    · have hne : p.1 ≠ a := by
        rw [List.map_cons, List.nodup_cons] at hn
        intro e2
        exact hn.1 (List.mem_map.2 ⟨_, e, e2.symm⟩)
      rw [if_neg hne]
      exact ih (by rw [List.map_cons, List.nodup_cons] at hn; exact hn.2) e
theorem mget_map (l : List (α × β)) (a c : α) (v : β) : mget (l.map fun p => if p.1 = a then (a, v) else p) c = if c = a then (mget l a).map (fun _ => v) else mget l c := by
  induction l with
  | nil => simp [mget_nil]
  | cons p r ih =>
    rw [List.map_cons, mget_cons, ih, mget_cons, mget_cons]
    by_cases h1 : p.1 = a
    · by_cases h2 : c = a
      · simp [h1, h2]
      · have : ¬ a = c := fun e => h2 e.symm
        simp [h1, h2, this]
    · by_cases h2 : c = a
      · subst h2
        simp [h1]
      · simp [h1, h2]
theorem mget_put (l : List (α × β)) (a c : α) (v : β) : mget (mput l a v) c = if c = a then some v else mget l c := by
  unfold mput
  by_cases h : (mget l a).isSome
  · rw [if_pos h, mget_map]
    obtain ⟨u, hu⟩ := Option.isSome_iff_exists.1 h
    by_cases h2 : c = a
    · simp [h2, hu]
    · simp [h2]
  · rw [if_neg h, mget_app]
    have h0 : mget l a = none := by simpa using h
    by_cases h2 : c = a
    · subst h2
      simp [h0, mget_cons]
    · have : ¬ a = c := fun e => h2 e.symm
      simp [h2, mget_cons, mget_nil, this]
theorem mget_put_same (l : List (α × β)) (a : α) (v : β) : mget (mput l a v) a = some v := by rw [mget_put, if_pos rfl]
theorem mget_put_other (l : List (α × β)) {a c : α} (v : β) (h : c ≠ a) : mget (mput l a v) c = mget l c := by rw [mget_put, if_neg h]
theorem mget_del (l : List (α × β)) (a c : α) : mget (mdel l a) c = if c = a then none else mget l c := by
  induction l with
  | nil => simp [mdel, mget_nil]
  | cons p r ih =>
    unfold mdel at ih ⊢
    rw [List.filter_cons]
    by_cases h : p.1 = a
    · rw [if_neg (by simp [h]), ih, mget_cons]
      by_cases h2 : c = a
      · simp [h2]
      · have : ¬ a = c := fun e => h2 e.symm
        simp [h, h2, this]
    · rw [if_pos (by simp [h]), mget_cons, ih, mget_cons]
      by_cases h2 : c = a
      · subst h2
        simp [h]
      · simp [h2]
theorem mem_put {l : List (α × β)} {a : α} {v : β} {p : α × β} (h : p ∈ mput l a v) : p = (a, v) ∨ p ∈ l := by
  unfold mput at h
  split at h
  · obtain ⟨q, hq, e⟩ := List.mem_map.1 h
    by_cases h1 : q.1 = a
    · rw [if_pos h1] at e
      exact .inl e.symm
    · rw [if_neg h1] at e
      exact .inr (e ▸ hq)
  · rcases List.mem_append.1 h with h | h
    · exact .inr h
    · exact .inl (by simpa using h)
theorem put_map {γ : Type} (l : List (α × β)) (a : α) (v : β) (f : β → γ) : (mput l a v).map (fun p => (p.1, f p.2)) = mput (l.map fun p => (p.1, f p.2)) a (f v) := by
  have hg : ∀ l : List (α × β), mget (l.map fun p => (p.1, f p.2)) a = (mget l a).map f := by
    intro l
    induction l with
    | nil => rfl
    | cons p r ih =>
      rw [List.map_cons, mget_cons, ih, mget_cons]
      by_cases h : p.1 = a <;> simp [h]
  unfold mput
  rw [hg]
  by_cases h : (mget l a).isSome
  · rw [if_pos h, if_pos (by simpa using h), List.map_map, List.map_map]
    apply List.map_congr_left
    intro p _
    by_cases hp : p.1 = a <;> simp [hp]
  · rw [if_neg h, if_neg (by simpa using h)]
    simp
end

theorem modify_set {es : Array MapEntry} {j : Nat} {x : MapEntry} (h : es[j]? = some x) (f : MapEntry → MapEntry) : (es.modify j f).toList = es.toList.set j (f x) := by
  have hj : j < es.size := (Array.getElem?_eq_some_iff.1 h).1
  apply List.ext_getElem?
  intro i
  rw [Array.toList_modify, List.getElem?_modify]
  by_cases hi : i = j
  · subst hi
    rw [List.getElem?_set_self (by simpa using hj)]
    simp [h]
  · rw [List.getElem?_set_ne (by omega)]
    simp [show ¬ j = i by omega]
theorem nodup_at {γ : Type} : ∀ {l : List γ} {i j : Nat} {x : γ}, l.Nodup → l[i]? = some x → l[j]? = some x → i = j
  | [], i, j, x, _, h, _ => by simp at h
  | y :: r, 0, 0, x, _, _, _ => rfl
  | y :: r, 0, j + 1, x, hn, h, h' => by
    rw [List.nodup_cons] at hn
    simp at h h'
    subst h
    exact absurd (List.mem_of_getElem? h') hn.1
  | y :: r, i + 1, 0, x, hn, h, h' => by
    rw [List.nodup_cons] at hn
    simp at h h'
    subst h'
    exact absurd (List.mem_of_getElem? h) hn.1
  | y :: r, i + 1, j + 1, x, hn, h, h' => by
    rw [List.nodup_cons] at hn
    simp only [List.getElem?_cons_succ] at h h'
    have := nodup_at hn.2 h h'
    omega

/-- how keys are written -/
structure Enc (P : Program) (K : TypeId) {α : Type} (enc : α → Value) (ok : α → Prop) : Prop where
  keyed : Keyed P K
  inj : ∀ a b, enc a = enc b → a = b
  key : ∀ a, ok a → ∃ x, keyOf P K (enc a) = some x

/-- block b is a map with the entries l -/
def MapOf {α : Type} (enc : α → Value) (ok : α → Prop) (w : World) (b : Nat) (l : List (α × Value)) : Prop :=
  ∃ es clock, w.heap[b]? = some (.map es clock) ∧ Stamped es clock ∧ es.toList.map (fun e => (e.key, e.val)) = l.map (fun p => (enc p.1, p.2)) ∧ ∀ p ∈ l, ok p.1

section
variable {α : Type} {P : Program} {K e t : TypeId} {enc : α → Value} {ok : α → Prop} {w w' : World} {b : Nat} {l : List (α × Value)} {a : α} {v : Value}

theorem MapOf.lt (h : MapOf enc ok w b l) : b < w.heap.size := by
  obtain ⟨es, clock, hb, _⟩ := h
  exact (Array.getElem?_eq_some_iff.1 hb).1
theorem MapOf.same (h : MapOf enc ok w b l) (hk : w'.heap[b]? = w.heap[b]?) : MapOf enc ok w' b l := by
  obtain ⟨es, clock, hb, r⟩ := h
  exact ⟨es, clock, hk.trans hb, r⟩
theorem MapOf.grown {row : Option Nat} (h : MapOf enc ok w b l) (hg : w.grownBy w' row) (hne : some b ≠ row) : MapOf enc ok w' b l := h.same (hg.block b h.lt hne)
theorem MapOf.below (h : MapOf enc ok w b l) (hb : Below w.heap.size w w') : MapOf enc ok w' b l := h.same (hb.block b h.lt)
theorem MapOf.alloc (h : MapOf enc ok w b l) (o : Obj) : MapOf enc ok (w.alloc o) b l := h.same (Below.heap_alloc w o b h.lt)
theorem MapOf.setCell (h : MapOf enc ok w b l) {p : Addr} (hp : p.block ≠ b) (x : Value) : MapOf enc ok (w.setCell p x) b l := h.same (Below.heap_setCell w p x b hp.symm)
theorem MapOf.new (w : World) : MapOf enc ok (w.alloc (.map #[] 0)) w.heap.size ([] : List (α × Value)) :=
  ⟨#[], 0, (MapKept.heap_alloc w _).1, stamped_empty 0, rfl, by simp⟩
theorem MapOf.keys (E : Enc P K enc ok) (h : MapOf enc ok w b l) : (l.map (·.1)).Nodup := by
  obtain ⟨es, clock, _, ⟨_, _, h3⟩, he, _⟩ := h
  have e1 : es.toList.map (·.key) = l.map (fun p => enc p.1) := by
    have := congrArg (List.map (·.1)) he
    simpa [List.map_map, Function.comp_def] using this
  rw [e1] at h3
  have e2 : l.map (fun p => enc p.1) = (l.map (·.1)).map enc := by simp [List.map_map, Function.comp_def]
  rw [e2] at h3
  generalize l.map (·.1) = ks at h3
  induction ks with
  | nil => simp
  | cons k r ih =>
    rw [List.map_cons, List.nodup_cons] at h3
    rw [List.nodup_cons]
    exact ⟨fun hk => h3.1 (List.mem_map.2 ⟨k, hk, rfl⟩), ih h3.2⟩

/-- the key is found, or it is not there -/
theorem MapOf.find [DecidableEq α] (E : Enc P K enc ok) {es : Array MapEntry} {clock : Nat} (hs : Stamped es clock) (he : es.toList.map (fun e => (e.key, e.val)) = l.map (fun p => (enc p.1, p.2))) (hl : ∀ p ∈ l, ok p.1) (hn : (l.map (·.1)).Nodup) (ha : ok a) (w : World) :
    ((Instr.findKey K (enc a) es.toList).run P w = .ok none w ∧ mget l a = none) ∨
      ∃ j x, (Instr.findKey K (enc a) es.toList).run P w = .ok (some (j, x.val)) w ∧ es.toList[j]? = some x ∧ x.key = enc a ∧ l[j]? = some (a, x.val) ∧ mget l a = some x.val := by
  obtain ⟨ka, hka⟩ := E.key a ha
  have hkeys : ∀ x ∈ es.toList, ∃ l, keyOf P K x.key = some l := by
    intro x hx
    have : (x.key, x.val) ∈ l.map (fun p => (enc p.1, p.2)) := by rw [← he]; exact List.mem_map.2 ⟨x, hx, rfl⟩
    obtain ⟨p, hp, e⟩ := List.mem_map.1 this
    injection e with e1 _
    rw [← e1]
    exact E.key _ (hl p hp)
  rcases E.keyed.find w hka es.toList hkeys with ⟨h1, h2⟩ | ⟨j, x, h1, h2, h3⟩
  · refine .inl ⟨h1, mget_none.2 fun p hp hpa => ?_⟩
    have : (enc p.1, p.2) ∈ es.toList.map (fun e => (e.key, e.val)) := by rw [he]; exact List.mem_map.2 ⟨p, hp, rfl⟩
    obtain ⟨x, hx, ex⟩ := List.mem_map.1 this
    injection ex with ex _
    exact h2 x hx (by rw [ex, hpa])
  · have hj : (l.map (fun p => (enc p.1, p.2)))[j]? = some (x.key, x.val) := by rw [← he, List.getElem?_map, h2]; rfl
    rw [List.getElem?_map] at hj
    obtain ⟨p, hp, ep⟩ := Option.map_eq_some_iff.1 hj
    injection ep with ep1 ep2
    have hpa : p.1 = a := E.inj _ _ (ep1.trans h3)
    have hpe : p = (a, x.val) := by rw [← hpa, ← ep2]
    subst hpe
    exact .inr ⟨j, x, h1, h2, h3, hp, mget_at hn (List.mem_of_getElem? hp)⟩

/-- m[k], and v, ok := m[k] -/
theorem MapOf.lookup [DecidableEq α] (E : Enc P K enc ok) (h : MapOf enc ok w b l) (ht : P.underlying t = some (.map K e)) {z : Value} (hz : ∀ w : World, (zeroValue e).run P w = .ok z w) (ha : ok a) (c : Bool) :
    (Instr.lookup t (.map (some b)) (enc a) c).run P w = .ok (if c then .tuple #[(mget l a).getD z, .bool (mget l a).isSome] else (mget l a).getD z) w := by
  have hn := h.keys E
  obtain ⟨es, clock, hb, hs, he, hl⟩ := h
  obtain ⟨ka, hka⟩ := E.key a ha
  have hc := E.keyed.check w es.isEmpty hka
  rcases MapOf.find E hs he hl hn ha w with ⟨h1, h2⟩ | ⟨j, x, h1, _, _, _, h2⟩
  · cases c <;> simp [Instr.lookup, run_underlying ht, MapKept.run_getObj_map hb, hc, h1, hz, h2, Result.andThen]
  · cases c <;> simp [Instr.lookup, run_underlying ht, MapKept.run_getObj_map hb, hc, h1, h2, Result.andThen]

theorem grownBy_setBlock {es : Array MapEntry} {clock : Nat} (hb : w.heap[b]? = some (.map es clock)) (o : Obj) : w.grownBy (setBlock w b o) (some b) :=
  ⟨rfl, rfl, rfl, by simp [setBlock], fun k hk hne => by
    have : k ≠ b := fun e => hne (by rw [e])
    exact (heap_set hb).2 k this⟩

/-- m[k] = v -/
theorem MapOf.update [DecidableEq α] (E : Enc P K enc ok) (h : MapOf enc ok w b l) (ht : P.underlying t = some (.map K e)) (ha : ok a) (v : Value) :
    ∃ w', (Instr.mapUpdate t (.map (some b)) (enc a) v).run P w = .ok () w' ∧ MapOf enc ok w' b (mput l a v) ∧ w.grownBy w' (some b) := by
  have hn := h.keys E
  obtain ⟨es, clock, hb, hs, he, hl⟩ := h
  obtain ⟨ka, hka⟩ := E.key a ha
  have hc := E.keyed.check w false hka
  rcases MapOf.find E hs he hl hn ha w with ⟨h1, h2⟩ | ⟨j, x, h1, h3, h4, h5, h2⟩
  · refine ⟨setBlock w b (.map (es.push ⟨enc a, v, clock⟩) (clock + 1)), ?_, ⟨_, _, (heap_set hb).1, ?_, ?_, ?_⟩, grownBy_setBlock hb _⟩
    · simp [Instr.mapUpdate, run_underlying ht, MapKept.run_getObj_map hb, hc, h1, MapKept.run_setObj_map _ hb, Result.andThen, setBlock]
    · obtain ⟨s1, s2, s3⟩ := hs
      refine ⟨fun x hx => ?_, ?_, ?_⟩
      · simp only [Array.toList_push, List.mem_append, List.mem_singleton] at hx
        rcases hx with hx | rfl
        · have := s1 x hx; omega
        · simp
      · simp only [Array.toList_push, List.map_append, List.map_cons, List.map_nil]
        refine List.nodup_append.2 ⟨s2, by simp, fun x hx y hy => ?_⟩
        obtain ⟨z, hz, rfl⟩ := List.mem_map.1 hx
        have := s1 z hz
        simp at hy
        omega
      · simp only [Array.toList_push, List.map_append, List.map_cons, List.map_nil]
        refine List.nodup_append.2 ⟨s3, by simp, fun x hx y hy => ?_⟩
        obtain ⟨z, hz, rfl⟩ := List.mem_map.1 hx
        simp only [List.mem_singleton] at hy
        subst hy
        intro e2
        have : (z.key, z.val) ∈ l.map (fun p => (enc p.1, p.2)) := by rw [← he]; exact List.mem_map.2 ⟨z, hz, rfl⟩
        obtain ⟨p, hp, ep⟩ := List.mem_map.1 this
        injection ep with ep _
        exact mget_none.1 h2 p hp (E.inj _ _ (ep.trans e2))
    · unfold mput
      rw [if_neg (by simp [h2])]
      simp [he]
    · unfold mput
      rw [if_neg (by simp [h2])]
      intro p hp
      rcases List.mem_append.1 hp with hp | hp
      · exact hl p hp
      · simp only [List.mem_singleton] at hp
        subst hp
        exact ha
  · have hj : j < es.size := by
      have := (List.getElem?_eq_some_iff.1 h3).1
      simpa using this
    have hst := E.keyed.stays w hka
    have h3' : es[j]? = some x := by simpa using h3
    refine ⟨setBlock w b (.map (es.modify j fun y => { y with key := enc a, val := v }) clock), ?_, ⟨_, _, (heap_set hb).1, ?_, ?_, ?_⟩, grownBy_setBlock hb _⟩
    · simp [Instr.mapUpdate, run_underlying ht, MapKept.run_getObj_map hb, hc, h1, h3', h4, hst, MapKept.run_setObj_map _ hb, Result.andThen, setBlock]
    · obtain ⟨s1, s2, s3⟩ := hs
      have em : (es.modify j fun y => { y with key := enc a, val := v }).toList = es.toList.set j ⟨enc a, v, x.born⟩ := by
        exact modify_set h3' _
      have eb : (es.modify j fun y => { y with key := enc a, val := v }).toList.map (·.born) = es.toList.map (·.born) := by
        rw [em, List.map_set]
        apply List.ext_getElem?
        intro i
        by_cases hi : i = j
        · subst hi
          rw [List.getElem?_set_self (by simpa using hj), List.getElem?_map, h3]
          rfl
        · rw [List.getElem?_set_ne (by omega)]
      have ek : (es.modify j fun y => { y with key := enc a, val := v }).toList.map (·.key) = es.toList.map (·.key) := by
        rw [em, List.map_set]
        apply List.ext_getElem?
        intro i
        by_cases hi : i = j
        · subst hi
          rw [List.getElem?_set_self (by simpa using hj), List.getElem?_map, h3]
          simp [h4]
        · rw [List.getElem?_set_ne (by omega)]
      refine ⟨fun y hy => ?_, by rw [eb]; exact s2, by rw [ek]; exact s3⟩
      have : y.born ∈ es.toList.map (·.born) := by rw [← eb]; exact List.mem_map.2 ⟨y, hy, rfl⟩
      obtain ⟨z, hz, ez⟩ := List.mem_map.1 this
      rw [← ez]
      exact s1 z hz
    · have em : (es.modify j fun y => { y with key := enc a, val := v }).toList = es.toList.set j ⟨enc a, v, x.born⟩ := by
        exact modify_set h3' _
      rw [em, List.map_set, he]
      unfold mput
      rw [if_pos (by simp [h2])]
      apply List.ext_getElem?
      intro i
      by_cases hi : i = j
      · subst hi
        rw [List.getElem?_set_self (by have := (List.getElem?_eq_some_iff.1 h5).1; simpa using this), List.getElem?_map, List.getElem?_map, h5]
        simp
      · rw [List.getElem?_set_ne (by omega), List.getElem?_map, List.getElem?_map, List.getElem?_map]
        cases hli : l[i]? with
        | none => rfl
        | some p =>
          have hne : p.1 ≠ a := by
            intro e2
            exact hi (nodup_at hn (x := a) (by rw [List.getElem?_map, hli]; simp [e2]) (by rw [List.getElem?_map, h5]; rfl))
          simp [hne]
    · unfold mput
      rw [if_pos (by simp [h2])]
      intro p hp
      obtain ⟨q, hq, rfl⟩ := List.mem_map.1 hp
      by_cases h7 : q.1 = a
      · simp [h7, ha]
      · simp [h7, hl q hq]

theorem map_erase {γ δ : Type} (f : γ → δ) : ∀ (l : List γ) (j : Nat), (l.map f).eraseIdx j = (l.eraseIdx j).map f
  | [], j => by simp
  | x :: r, 0 => by simp
  | x :: r, j + 1 => by simp [map_erase f r j]
theorem filter_erase [DecidableEq α] : ∀ {l : List (α × Value)} {j : Nat} {a : α} {v : Value}, (l.map (·.1)).Nodup → l[j]? = some (a, v) → l.filter (fun p => !decide (p.1 = a)) = l.eraseIdx j
  | [], j, a, v, _, h => by simp at h
  | p :: r, 0, a, v, hn, h => by
    simp at h
    subst h
    rw [List.map_cons, List.nodup_cons] at hn
    simp only [List.filter_cons, decide_true, Bool.not_true, Bool.false_eq_true, if_false, List.eraseIdx_cons_zero]
    rw [List.filter_eq_self]
    intro q hq
    have : q.1 ≠ a := fun e => hn.1 (List.mem_map.2 ⟨q, hq, e⟩)
    simp [this]
  | p :: r, j + 1, a, v, hn, h => by
    rw [List.map_cons, List.nodup_cons] at hn
    simp only [List.getElem?_cons_succ] at h
    have hne : p.1 ≠ a := fun e => hn.1 (List.mem_map.2 ⟨_, List.mem_of_getElem? h, e.symm⟩)
    simp only [List.filter_cons, hne, decide_false, Bool.not_false, if_true, List.eraseIdx_cons_succ]
    rw [filter_erase hn.2 h]

/-- delete(m, k) -/
theorem MapOf.delete [DecidableEq α] (E : Enc P K enc ok) (h : MapOf enc ok w b l) (ht : P.underlying t = some (.map K e)) (ha : ok a) (ty : TypeId) :
    ∃ w', (Builtin.delete_ #[t, K] ty #[.map (some b), enc a]).run P w = .ok (.tuple #[]) w' ∧ MapOf enc ok w' b (mdel l a) ∧ w.grownBy w' (some b) := by
  have hn := h.keys E
  obtain ⟨es, clock, hb, hs, he, hl⟩ := h
  obtain ⟨ka, hka⟩ := E.key a ha
  have hc := E.keyed.check w es.isEmpty hka
  rcases MapOf.find E hs he hl hn ha w with ⟨h1, h2⟩ | ⟨j, x, h1, h3, h4, h5, h2⟩
  · refine ⟨setBlock w b (.map es clock), ?_, ⟨_, _, (heap_set hb).1, hs, ?_, ?_⟩, grownBy_setBlock hb _⟩
    · simp [Builtin.delete_, run_underlying ht, MapKept.run_getObj_map hb, hc, h1, MapKept.run_setObj_map _ hb, Result.andThen, setBlock]
    · have : mdel l a = l := by
        unfold mdel
        rw [List.filter_eq_self]
        intro p hp
        simp [mget_none.1 h2 p hp]
      rw [this]
      exact he
    · intro p hp
      exact hl p (List.mem_filter.1 hp).1
  · have hj : j < es.size := by
      have := (List.getElem?_eq_some_iff.1 h3).1
      simpa using this
    refine ⟨setBlock w b (.map (es.eraseIdxIfInBounds j) clock), ?_, ⟨_, _, (heap_set hb).1, stamped_erase hs j, ?_, ?_⟩, grownBy_setBlock hb _⟩
    · simp [Builtin.delete_, run_underlying ht, MapKept.run_getObj_map hb, hc, h1, MapKept.run_setObj_map _ hb, Result.andThen, setBlock]
    · unfold mdel
      have e1 : (es.eraseIdxIfInBounds j).toList = es.toList.eraseIdx j := by simp [Array.eraseIdxIfInBounds, hj]
      rw [filter_erase hn h5, ← map_erase, ← he, map_erase, e1]
    · intro p hp
      exact hl p (List.mem_filter.1 hp).1

theorem MapOf.len (h : MapOf enc ok w b l) (ht : P.underlying t = some (.map K e)) (ty : TypeId) : (Builtin.len_ #[t] ty #[.map (some b)]).run P w = .ok (.int .i64 l.length) w := by
  obtain ⟨es, clock, hb, hs, he, hl⟩ := h
  have : es.size = l.length := by
    have := congrArg List.length he
    simpa using this
  rw [← this]
  simp [Builtin.len_, run_underlying ht, MapKept.run_getObj_map hb, goInt, Result.andThen]

/-! ### ranging over a map that stays as it is -/
/-- block r is an iterator over the map in block b; the entries 'left' are still to come -/
def IterOf (enc : α → Value) (ok : α → Prop) (w : World) (b r : Nat) (l left : List (α × Value)) : Prop :=
  ∃ es clock seen, w.heap[b]? = some (.map es clock) ∧ Stamped es clock ∧ es.toList.map (fun e => (e.key, e.val)) = l.map (fun p => (enc p.1, p.2)) ∧ (∀ p ∈ l, ok p.1) ∧ w.heap[r]? = some (.mapIter (some b) clock seen clock) ∧ (leftOf es seen).toList.map (fun e => (e.key, e.val)) = left.map (fun p => (enc p.1, p.2))
theorem IterOf.map {r : Nat} {left : List (α × Value)} (h : IterOf enc ok w b r l left) : MapOf enc ok w b l := by
  obtain ⟨es, clock, seen, hb, hs, he, hl, _⟩ := h
  exact ⟨es, clock, hb, hs, he, hl⟩
theorem IterOf.same {r : Nat} {left : List (α × Value)} (h : IterOf enc ok w b r l left) (hb : w'.heap[b]? = w.heap[b]?) (hr : w'.heap[r]? = w.heap[r]?) : IterOf enc ok w' b r l left := by
  obtain ⟨es, clock, seen, h1, hs, he, hl, h2, h3⟩ := h
  exact ⟨es, clock, seen, hb.trans h1, hs, he, hl, hr.trans h2, h3⟩
theorem IterOf.lt {r : Nat} {left : List (α × Value)} (h : IterOf enc ok w b r l left) : b < w.heap.size ∧ r < w.heap.size := by
  obtain ⟨es, clock, seen, h1, _, _, _, h2, _⟩ := h
  exact ⟨(Array.getElem?_eq_some_iff.1 h1).1, (Array.getElem?_eq_some_iff.1 h2).1⟩
theorem MapOf.range (h : MapOf enc ok w b l) (ht : P.underlying t = some (.map K e)) :
    ∃ o, (Instr.range t (.map (some b))).run P w = .ok (.pointer (some ⟨w.heap.size, 0, none⟩)) (w.alloc o) ∧ IterOf enc ok (w.alloc o) b w.heap.size l l := by
  have hlt := h.lt
  obtain ⟨es, clock, hb, hs, he, hl⟩ := h
  refine ⟨_, run_range_map w t K e b es clock ht hb, es, clock, #[], ?_, hs, he, hl, heap_alloc_new w _, ?_⟩
  · rw [heap_alloc_old w _ hlt, hb]
  · rw [← he]
    congr 1
    simp [leftOf]
theorem filter_born : ∀ (L : List MapEntry) (e : MapEntry), (L.map (·.born)).Nodup → e ∈ L → ∃ L1 L2, L = L1 ++ e :: L2 ∧ L.filter (fun x => !(x.born == e.born)) = L1 ++ L2
  | [], e, _, h => by simp at h
  | x :: r, e, hn, h => by
    rw [List.map_cons, List.nodup_cons] at hn
    rcases List.mem_cons.1 h with rfl | h
    · refine ⟨[], r, rfl, ?_⟩
      simp only [List.filter_cons, beq_self_eq_true, Bool.not_true, Bool.false_eq_true, if_false, List.nil_append]
      rw [List.filter_eq_self]
      intro y hy
      have : ¬ y.born = e.born := fun e2 => hn.1 (List.mem_map.2 ⟨y, hy, e2⟩)
      simp [this]
    · obtain ⟨L1, L2, h1, h2⟩ := filter_born r e hn.2 h
      have : ¬ x.born = e.born := fun e2 => hn.1 (List.mem_map.2 ⟨e, h, e2.symm⟩)
      refine ⟨x :: L1, L2, by rw [h1]; rfl, ?_⟩
      simp [this, h2]
theorem IterOf.next {r : Nat} {left : List (α × Value)} (h : IterOf enc ok w b r l left) (hbr : b ≠ r) (ty : TypeId) :
    (left = [] ∧ (Instr.next (.pointer (some ⟨r, 0, none⟩)) false ty).run P w = .ok (.tuple #[.bool false]) w) ∨
      ∃ p l1 l2 w', left = l1 ++ p :: l2 ∧ (Instr.next (.pointer (some ⟨r, 0, none⟩)) false ty).run P w = .ok (.tuple #[.bool true, enc p.1, p.2]) w' ∧ IterOf enc ok w' b r l (l1 ++ l2) ∧ w.grownBy w' (some r) ∧ w'.heap.size = w.heap.size ∧
        (Instr.entry (.pointer (some ⟨r, 0, none⟩))).run P w' = .ok (.tuple #[enc p.1, p.2]) w' := by
  obtain ⟨es, clock, seen, hb, hs, he, hl, hr, hleft⟩ := h
  rcases run_next_at (P := P) w ty r b clock clock seen es clock hr hb (fun x hx => hs.1 x hx) (Nat.le_refl _) with ⟨h0, hrun⟩ | ⟨x, hx, w1, hw1, hrun⟩
  · refine .inl ⟨?_, hrun⟩
    have h2 : leftOf es seen = #[] := Array.eq_empty_of_size_eq_zero h0
    rw [h2] at hleft
    cases left with
    | nil => rfl
    | cons p q => simp at hleft
  · have hnb : ((leftOf es seen).toList.map (·.born)).Nodup := by
      unfold leftOf
      rw [Array.toList_filter]
      exact ((List.filter_sublist).map _).nodup hs.2.1
    obtain ⟨L1, L2, e1, e2⟩ := filter_born _ x hnb hx
    have e3 : (leftOf es (seen.push x.born)).toList = L1 ++ L2 := by
      rw [← e2]
      unfold leftOf
      rw [Array.toList_filter, Array.toList_filter, List.filter_filter]
      apply List.filter_congr
      intro y _
      rw [contains_push]
      cases seen.contains y.born <;> cases (y.born == x.born) <;> rfl
    rw [e1, List.map_append, List.map_cons] at hleft
    obtain ⟨l1, lr, rfl, f1, f2⟩ := List.append_eq_map_iff.1 hleft
    obtain ⟨p, l2, rfl, f3, f4⟩ := List.map_eq_cons_iff.1 f2
    injection f3 with f5 f6
    have hb1 : w1.heap[b]? = some (.map es clock) := by rcases hw1 with rfl | rfl <;> exact hb
    have hr1 : w1.heap[r]? = some (.mapIter (some b) clock seen clock) := by rcases hw1 with rfl | rfl <;> exact hr
    have hw1h : w1.heap = w.heap := by rcases hw1 with rfl | rfl <;> rfl
    have hsr : (setBlock w1 r (.mapIter (some b) clock (seen.push x.born) clock)).heap[r]? = some (.mapIter (some b) clock (seen.push x.born) clock) := (heap_set hr1).1
    have hsb : (setBlock w1 r (.mapIter (some b) clock (seen.push x.born) clock)).heap[b]? = some (.map es clock) := ((heap_set hr1).2 b hbr).trans hb1
    refine .inr ⟨p, l1, l2, setBlock w1 r (.mapIter (some b) clock (seen.push x.born) clock), rfl, ?_, ⟨es, clock, seen.push x.born, hsb, hs, he, hl, hsr, ?_⟩, ?_, ?_, ?_⟩
    · rw [f5, f6]
      exact hrun
    · rw [e3, List.map_append, List.map_append, f1, f4]
    · refine ⟨?_, ?_, ?_, ?_, fun k hk hne => ?_⟩
      · rcases hw1 with rfl | rfl <;> rfl
      · rcases hw1 with rfl | rfl <;> rfl
      · rcases hw1 with rfl | rfl <;> rfl
      · simp [setBlock, hw1h]
      · have : k ≠ r := fun e => hne (by rw [e])
        rw [← hw1h]
        exact (heap_set hr1).2 k this
    · simp [setBlock, hw1h]
    · rw [f5, f6]
      exact run_entry_at _ r b clock seen es clock x hsr hsb (mem_left hx).1 hs.2.1
end

/-! ### at the operation, for the walk -/
section
variable {α : Type} {P : Program} {K e : TypeId} {enc : α → Value} {ok : α → Prop} {b : Nat} {l : List (α × Value)} {key : α}
variable (w : World) {ops : Array Oper} {rest : List Oper} {o : Oper} {a : Act} {Q : Exit → Act → World → Prop}
/-- m[k] -/
theorem wpList_mlookup [DecidableEq α] (hg : o.guard = none) (m x : Operand) (t : TypeId) (hop : o.op = Op.lookup t m x false) (E : Enc P K enc ok) (ht : P.underlying t = some (.map K e)) {z : Value} (hz : ∀ w : World, (zeroValue e).run P w = .ok z w)
    (hm : a.eval m = .map (some b)) (h : MapOf enc ok w b l) (hx : a.eval x = enc key) (hk : ok key) (hK : wpList P ops Q rest (a.put o.dst ((mget l key).getD z)) w) : wpList P ops Q (o :: rest) a w := by
  refine wpList_plain hg fun K' hK' => ?_
  have hrun := h.lookup E ht hz hk false
  unfold Oper.wp
  simp [execOp, hop, hm, hx, hrun, Result.andThen]
  exact hK' _ _ hK
theorem wpList_mlookup_ok [DecidableEq α] (hg : o.guard = none) (m x : Operand) (t : TypeId) (hop : o.op = Op.lookup t m x true) (E : Enc P K enc ok) (ht : P.underlying t = some (.map K e)) {z : Value} (hz : ∀ w : World, (zeroValue e).run P w = .ok z w)
    (hm : a.eval m = .map (some b)) (h : MapOf enc ok w b l) (hx : a.eval x = enc key) (hk : ok key) (hK : wpList P ops Q rest (a.put o.dst (.tuple #[(mget l key).getD z, .bool (mget l key).isSome])) w) : wpList P ops Q (o :: rest) a w := by
  refine wpList_plain hg fun K' hK' => ?_
  have hrun := h.lookup E ht hz hk true
  unfold Oper.wp
  simp [execOp, hop, hm, hx, hrun, Result.andThen]
  exact hK' _ _ hK
/-- m[k] = v -/
theorem wpList_mupdate [DecidableEq α] (hg : o.guard = none) (m x v : Operand) (t : TypeId) (hop : o.op = Op.mapUpdate t m x v) (E : Enc P K enc ok) (ht : P.underlying t = some (.map K e))
    (hm : a.eval m = .map (some b)) (h : MapOf enc ok w b l) (hx : a.eval x = enc key) (hk : ok key) (hK : ∀ w', MapOf enc ok w' b (mput l key (a.eval v)) → w.grownBy w' (some b) → wpList P ops Q rest (a.put o.dst undef) w') : wpList P ops Q (o :: rest) a w := by
  refine wpList_plain hg fun K' hK' => ?_
  obtain ⟨w', hrun, r1, r2⟩ := h.update E ht hk (a.eval v)
  unfold Oper.wp
  simp [execOp, hop, hm, hx, hrun, Result.andThen]
  exact hK' _ _ (hK w' r1 r2)
theorem wpList_mdelete [DecidableEq α] (hg : o.guard = none) (m x : Operand) (t : TypeId) (hop : o.op = Op.call { callee := Callee.builtin Builtin.delete, args := #[m, x], argTypes := #[t, K] }) (E : Enc P K enc ok) (ht : P.underlying t = some (.map K e))
    (hm : a.eval m = .map (some b)) (h : MapOf enc ok w b l) (hx : a.eval x = enc key) (hk : ok key) (hK : ∀ w', MapOf enc ok w' b (mdel l key) → w.grownBy w' (some b) → wpList P ops Q rest (a.put o.dst (.tuple #[])) w') : wpList P ops Q (o :: rest) a w := by
  refine wpList_plain hg fun K' hK' => ?_
  obtain ⟨w', hrun, r1, r2⟩ := h.delete E ht hk o.type
  unfold Oper.wp
  simp [execOp, hop, resolve, invoke, builtin, hm, hx, hrun, Result.andThen]
  exact hK' _ _ (hK w' r1 r2)
theorem wpList_mlen (hg : o.guard = none) (m : Operand) (t : TypeId) (hop : o.op = Op.call { callee := Callee.builtin Builtin.len, args := #[m], argTypes := #[t] }) (ht : P.underlying t = some (.map K e))
    (hm : a.eval m = .map (some b)) (h : MapOf enc ok w b l) (hK : wpList P ops Q rest (a.put o.dst (.int .i64 l.length)) w) : wpList P ops Q (o :: rest) a w := by
  refine wpList_plain hg fun K' hK' => ?_
  unfold Oper.wp
  simp [execOp, hop, resolve, invoke, builtin, hm, h.len ht o.type, Result.andThen]
  exact hK' _ _ hK
theorem wpList_mrange (hg : o.guard = none) (m : Operand) (t : TypeId) (hop : o.op = Op.range t m) (ht : P.underlying t = some (.map K e)) (hm : a.eval m = .map (some b)) (h : MapOf enc ok w b l)
    (hK : ∀ w', IterOf enc ok w' b w.heap.size l l → Below w.heap.size w w' → w'.heap.size = w.heap.size + 1 → wpList P ops Q rest (a.put o.dst (.pointer (some ⟨w.heap.size, 0, none⟩))) w') : wpList P ops Q (o :: rest) a w := by
  refine wpList_plain hg fun K' hK' => ?_
  obtain ⟨ob, hrun, r1⟩ := h.range (P := P) ht
  unfold Oper.wp
  simp [execOp, hop, hm, hrun, Result.andThen]
  exact hK' _ _ (hK _ r1 ((Below.refl _ _).alloc (Nat.le_refl _) _) (by simp))
theorem wpList_mnext (hg : o.guard = none) (it : Operand) (hop : o.op = Op.next it false) {r : Nat} {left : List (α × Value)} (hit : a.eval it = .pointer (some ⟨r, 0, none⟩)) (h : IterOf enc ok w b r l left) (hbr : b ≠ r)
    (hDone : left = [] → wpList P ops Q rest (a.put o.dst (.tuple #[.bool false])) w)
    (hMore : ∀ (x : α) (v : Value) (l1 l2 : List (α × Value)) (w' : World), left = l1 ++ (x, v) :: l2 → IterOf enc ok w' b r l (l1 ++ l2) → w.grownBy w' (some r) → w'.heap.size = w.heap.size → (Instr.entry (.pointer (some ⟨r, 0, none⟩))).run P w' = .ok (.tuple #[enc x, v]) w' → wpList P ops Q rest (a.put o.dst (.tuple #[.bool true, enc x, v])) w') :
    wpList P ops Q (o :: rest) a w := by
  refine wpList_plain hg fun K' hK' => ?_
  unfold Oper.wp
  rcases h.next (P := P) hbr o.type with ⟨h0, hrun⟩ | ⟨⟨x, v⟩, l1, l2, w', h0, hrun, r1, r2, r3, r4⟩
  · simp [execOp, hop, hit, hrun, Result.andThen]
    exact hK' _ _ (hDone h0)
  · simp [execOp, hop, hit, hrun, Result.andThen]
    exact hK' _ _ (hMore x v l1 l2 w' h0 r1 r2 r3 r4)
end
end Go.Mem
