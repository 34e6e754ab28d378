/- m[k] op= v of maps in memory, over any program: the entry is found or made, and stored into. No condition. -/
import Derived.Test.YtlpkgheggbcidaaDoorMap
import Derived.WideKeyEntry
set_option linter.unusedVariables false
namespace Go.Mem
open Go.RowKit Go.Maps Go.MapKept
open Go.ChangeMaps (setBlock)
section
variable {α : Type} {P : Program} {K e t : TypeId} {enc : α → Value} {ok : α → Prop} {w w' : World} {b : Nat} {l : List (α × Value)} {a : α} {v : Value}
/-- block b is a map with the entries l; the entry of key a bears the stamp c and the value v -/
def EntryOf (enc : α → Value) (ok : α → Prop) (w : World) (b : Nat) (l : List (α × Value)) (a : α) (v : Value) (c : Int) : Prop :=
  ∃ (es : Array MapEntry) (clock j : Nat) (x : MapEntry), w.heap[b]? = some (.map es clock) ∧ Stamped es clock ∧ es.toList.map (fun e => (e.key, e.val)) = l.map (fun p => (enc p.1, p.2)) ∧ (∀ p ∈ l, ok p.1) ∧ es.toList[j]? = some x ∧ x.key = enc a ∧ ((x.born : Nat) : Int) = c ∧ l[j]? = some (a, v)
theorem EntryOf.map {c : Int} (h : EntryOf enc ok w b l a v c) : MapOf enc ok w b l := by
  obtain ⟨es, clock, j, x, hb, hs, he, hl, _⟩ := h
  exact ⟨es, clock, hb, hs, he, hl⟩
theorem EntryOf.same {c : Int} (h : EntryOf enc ok w b l a v c) (hk : w'.heap[b]? = w.heap[b]?) : EntryOf enc ok w' b l a v c := by
  obtain ⟨es, clock, j, x, hb, r⟩ := h
  exact ⟨es, clock, j, x, hk.trans hb, r⟩
theorem set_same_map {γ δ : Type} (f : γ → δ) {L : List γ} {j : Nat} {x y : γ} (h : L[j]? = some x) (hxy : f y = f x) : (L.set j y).map f = L.map f := by
  rw [List.map_set]
  apply List.ext_getElem?
  intro i
  by_cases hi : i = j
  · subst hi
    rw [List.getElem?_set_self (by have := (List.getElem?_eq_some_iff.1 h).1; simpa using this), List.getElem?_map, h, hxy]
    rfl
  · rw [List.getElem?_set_ne (by omega)]
theorem stamped_of {es es' : Array MapEntry} {clock : Nat} (hs : Stamped es clock) (eb : es'.toList.map (·.born) = es.toList.map (·.born)) (ek : es'.toList.map (·.key) = es.toList.map (·.key)) : Stamped es' clock := by
  obtain ⟨s1, s2, s3⟩ := hs
  refine ⟨fun y hy => ?_, by rw [eb]; exact s2, by rw [ek]; exact s3⟩
  have : y.born ∈ es.toList.map (·.born) := by rw [← eb]; exact List.mem_map.2 ⟨y, hy, rfl⟩
  obtain ⟨z, hz, ez⟩ := List.mem_map.1 this
  rw [← ez]
  exact s1 z hz
theorem put_set [DecidableEq α] (hn : (l.map (·.1)).Nodup) {j : Nat} {u : Value} (h5 : l[j]? = some (a, u)) (v : Value) : mput l a v = l.set j (a, v) := by
  have h2 := mget_at hn (List.mem_of_getElem? h5)
  unfold mput
  rw [if_pos (by simp [h2])]
  apply List.ext_getElem?
  intro i
  by_cases hi : i = j
  · subst hi
    rw [List.getElem?_set_self (List.getElem?_eq_some_iff.1 h5).1, List.getElem?_map, h5]
    simp
  · rw [List.getElem?_set_ne (by omega), List.getElem?_map]
    cases hli : l[i]? with
    | none => rfl
    | some p =>
      have hne : p.1 ≠ a := by
        intro e2
        exact hi (nodup_at hn (x := a) (by rw [List.getElem?_map, hli]; simp [e2]) (by rw [List.getElem?_map, h5]; rfl))
      simp [hne]
theorem put_self [DecidableEq α] (hn : (l.map (·.1)).Nodup) {u : Value} (h : mget l a = some u) : mput l a u = l := by
  obtain ⟨j, hj, e⟩ := List.mem_iff_getElem.1 (mget_mem h)
  have h5 : l[j]? = some (a, u) := by rw [List.getElem?_eq_getElem hj, e]
  rw [put_set hn h5 u]
  apply List.ext_getElem?
  intro i
  by_cases hi : i = j
  · subst hi
    rw [List.getElem?_set_self hj, h5]
  · rw [List.getElem?_set_ne (by omega)]
/-- the entry is found, or made -/
theorem MapOf.entry [DecidableEq α] (E : Enc P K enc ok) (h : MapOf enc ok w b l) (ht : P.underlying t = some (.map K e)) {z : Value} (hz : ∀ w : World, (zeroValue e).run P w = .ok z w) (ha : ok a) :
    ∃ c w', (Instr.mapEntry t (.map (some b)) (enc a)).run P w = .ok (.tuple #[(mget l a).getD z, .int .i64 c]) w' ∧ EntryOf enc ok w' b (mput l a ((mget l a).getD z)) a ((mget l a).getD z) c ∧ w.grownBy w' (some b) := by
  have hn := h.keys E
  obtain ⟨es, clock, hb, hs, he, hl⟩ := h
  obtain ⟨ka, hka⟩ := E.key a ha
  have hc := E.keyed.check w false hka
  rcases MapOf.find E hs he hl hn ha w with ⟨h1, h2⟩ | ⟨j, x, h1, h3, h4, h5, h2⟩
  · refine ⟨(clock : Nat), setBlock w b (.map (es.push ⟨enc a, z, clock⟩) (clock + 1)), ?_, ⟨_, _, es.size, ⟨enc a, z, clock⟩, (heap_set hb).1, ?_, ?_, ?_, ?_, rfl, rfl, ?_⟩, grownBy_setBlock hb _⟩
    · simp [Instr.mapEntry, run_underlying ht, MapKept.run_getObj_map hb, hc, h1, h2, hz, goInt, MapKept.run_setObj_map _ hb, Result.andThen, setBlock]
    · obtain ⟨s1, s2, s3⟩ := hs
      refine ⟨fun x hx => ?_, ?_, ?_⟩
      · simp only [Array.toList_push, List.mem_append, List.mem_singleton] at hx
        rcases hx with hx | rfl
        · have := s1 x hx; omega
        · simp
      · simp only [Array.toList_push, List.map_append, List.map_cons, List.map_nil]
        refine List.nodup_append.2 ⟨s2, by simp, fun x hx y hy => ?_⟩
        obtain ⟨z, hz, rfl⟩ := List.mem_map.1 hx
        have := s1 z hz
        simp at hy
        omega
      · simp only [Array.toList_push, List.map_append, List.map_cons, List.map_nil]
        refine List.nodup_append.2 ⟨s3, by simp, fun x hx y hy => ?_⟩
        obtain ⟨z, hz, rfl⟩ := List.mem_map.1 hx
        simp only [List.mem_singleton] at hy
        subst hy
        intro e2
        have : (z.key, z.val) ∈ l.map (fun p => (enc p.1, p.2)) := by rw [← he]; exact List.mem_map.2 ⟨z, hz, rfl⟩
        obtain ⟨p, hp, ep⟩ := List.mem_map.1 this
        injection ep with ep _
        exact mget_none.1 h2 p hp (E.inj _ _ (ep.trans e2))
    · unfold mput
      rw [if_neg (by simp [h2])]
      simp [he, h2]
    · unfold mput
      rw [if_neg (by simp [h2])]
      intro p hp
      rcases List.mem_append.1 hp with hp | hp
      · exact hl p hp
      · simp only [List.mem_singleton] at hp
        subst hp
        exact ha
    · simp
    · unfold mput
      rw [if_neg (by simp [h2])]
      have : es.size = l.length := by
        have := congrArg List.length he
        simpa using this
      rw [this]
      simp
  · have hst := E.keyed.stays w hka
    have h3' : es[j]? = some x := by simpa using h3
    have em : (es.modify j fun y => { y with key := enc a }).toList = es.toList.set j ⟨enc a, x.val, x.born⟩ := modify_set h3' _
    rw [h2]
    simp only [Option.getD_some]
    rw [put_self hn h2]
    refine ⟨(x.born : Nat), setBlock w b (.map (es.modify j fun y => { y with key := enc a }) clock), ?_, ⟨_, _, j, ⟨enc a, x.val, x.born⟩, (heap_set hb).1, ?_, ?_, hl, ?_, rfl, rfl, h5⟩, grownBy_setBlock hb _⟩
    · simp [Instr.mapEntry, run_underlying ht, MapKept.run_getObj_map hb, hc, h1, h3', h4, hst, goInt, MapKept.run_setObj_map _ hb, Result.andThen, setBlock]
    · exact stamped_of hs (by rw [em]; exact set_same_map _ h3 rfl) (by rw [em]; exact set_same_map _ h3 h4.symm)
    · rw [em, ← he]
      exact set_same_map _ h3 (by rw [h4])
    · rw [em, List.getElem?_set_self (List.getElem?_eq_some_iff.1 h3).1]
/-- the value is stored into the entry -/
theorem EntryOf.store [DecidableEq α] (E : Enc P K enc ok) {c : Int} {u : Value} (h : EntryOf enc ok w b l a u c) (v : Value) :
    ∃ w', (Instr.entryStore t (.map (some b)) (.int .i64 c) v).run P w = .ok () w' ∧ MapOf enc ok w' b (mput l a v) ∧ w.grownBy w' (some b) := by
  have hn := h.map.keys E
  obtain ⟨es, clock, j, x, hb, hs, he, hl, h3, h4, rfl, h5⟩ := h
  have h3' : es[j]? = some x := by simpa using h3
  have em : (es.modify j fun y => { y with val := v }).toList = es.toList.set j ⟨x.key, v, x.born⟩ := modify_set h3' _
  have hf : es.findIdx? (fun e => ((e.born : Nat) : Int) == ((x.born : Nat) : Int)) = some j := by rw [Go.WideElems.findIdx_arr]; exact Go.WideElems.findIdx_born hs.2.1 h3
  refine ⟨setBlock w b (.map (es.modify j fun y => { y with val := v }) clock), ?_, ⟨_, _, (heap_set hb).1, ?_, ?_, ?_⟩, grownBy_setBlock hb _⟩
  · simp [Instr.entryStore, asInt, asIntOf, MapKept.run_getObj_map hb, hf, MapKept.run_setObj_map _ hb, Result.andThen, setBlock]
  · exact stamped_of hs (by rw [em]; exact set_same_map _ h3 rfl) (by rw [em]; exact set_same_map _ h3 rfl)
  · rw [em, List.map_set, he, put_set hn h5, List.map_set, h4]
  · rw [put_set hn h5]
    intro p hp
    rcases List.mem_or_eq_of_mem_set hp with hp | rfl
    · exact hl p hp
    · exact hl (a, u) (List.mem_of_getElem? h5)
end
end Go.Mem
