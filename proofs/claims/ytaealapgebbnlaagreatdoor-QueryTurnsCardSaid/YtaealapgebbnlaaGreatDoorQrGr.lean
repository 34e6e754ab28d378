/- The graph of a module in memory: a map of names to sets, a map of names to names; what one set's change leaves. No condition. -/
import Derived.Test.YtaealapgebbnlaaGreatDoorQrMap
import Derived.Test.YtaealapgebbnlaaGreatDoorQrMod
set_option linter.unusedVariables false
namespace Go.Md
open Go.RowKit Go.Mem
def zipU (nm : List Bs) (bs : List Nat) : List (Bs × Value) := nm.zip (bs.map fun b => Value.map (some b))
theorem zipU_fst {nm : List Bs} {bs : List Nat} (h : bs.length = nm.length) : (zipU nm bs).map (·.1) = nm := by
  unfold zipU
  rw [List.map_fst_zip]
  simp [h]
theorem zipU_get {nm : List Bs} {bs : List Nat} (h : bs.length = nm.length) (hn : nm.Nodup) {k : Nat} (hk : k < nm.length) : mget (zipU nm bs) nm[k] = some (.map (some (bs[k]'(by omega)))) := by
  refine mget_at (by rw [zipU_fst h]; exact hn) ?_
  have : (zipU nm bs)[k]'(by simp [zipU]; omega) = (nm[k], Value.map (some (bs[k]'(by omega)))) := by simp [zipU]
  rw [← this]
  exact List.getElem_mem _
theorem zipU_none {nm : List Bs} {bs : List Nat} (h : bs.length = nm.length) {s : Bs} (hs : s ∉ nm) : mget (zipU nm bs) s = none := by
  refine mget_none.2 fun p hp e => hs ?_
  rw [← zipU_fst h, ← e]
  exact List.mem_map.2 ⟨p, hp, rfl⟩
/-- what a set becomes behind an add of t by the name n -/
def insF (t : Bs) (l : List Bs) : List Bs := if t ∈ l then l else l ++ [t]
def addF (n t : Bs) (l : List Bs) : List Bs := if t = n then l else insF t l
theorem mget_set (l : List Bs) (t : Bs) : mget (l.map fun s => (s, Value.bool true)) t = if t ∈ l then some (.bool true) else none := by
  by_cases h : t ∈ l
  · rw [if_pos h]
    induction l with
    | nil => simp at h
    | cons x r ih =>
      rw [List.map_cons, mget_cons]
      by_cases e : x = t
      · simp [e]
      · rw [if_neg e]
        exact ih (by rcases List.mem_cons.1 h with h | h; exact absurd h.symm e; exact h)
  · rw [if_neg h]
    refine mget_none.2 fun p hp e => h ?_
    obtain ⟨s, hs, rfl⟩ := List.mem_map.1 hp
    exact e ▸ hs
theorem mput_set (l : List Bs) (t : Bs) : mput (l.map fun s => (s, Value.bool true)) t (.bool true) = (insF t l).map fun s => (s, Value.bool true) := by
  unfold mput insF
  rw [mget_set]
  by_cases h : t ∈ l
  · rw [if_pos h, if_pos (show (some (Value.bool true)).isSome = true from rfl), if_pos h, List.map_map]
    apply List.map_congr_left
    intro s _
    by_cases e : s = t <;> simp [e]
  · rw [if_neg h, if_neg (by simp), if_neg h]
    simp
theorem insF_nodup {t : Bs} {l : List Bs} (h : l.Nodup) : (insF t l).Nodup := by
  unfold insF
  split
  · exact h
  · next ht => exact List.nodup_append.2 ⟨h, by simp, fun x hx y hy => by simp at hy; subst hy; intro e; exact ht (e ▸ hx)⟩
theorem addF_nodup {n t : Bs} {l : List Bs} (h : l.Nodup) : (addF n t l).Nodup := by
  unfold addF
  split
  · exact h
  · exact insF_nodup h
theorem mem_insF {t s : Bs} {l : List Bs} : s ∈ insF t l ↔ s ∈ l ∨ s = t := by
  unfold insF
  split
  · next h => exact ⟨.inl, fun h' => h'.elim id fun e => e ▸ h⟩
  · simp
theorem mem_addF {n t s : Bs} {l : List Bs} : s ∈ addF n t l ↔ s ∈ l ∨ (s = t ∧ t ≠ n) := by
  unfold addF
  split
  · next h => exact ⟨.inl, fun h' => h'.elim id fun e => absurd h e.2⟩
  · next h => rw [mem_insF]; exact ⟨fun h' => h'.imp id fun e => ⟨e, h⟩, fun h' => h'.imp id fun e => e.1⟩
end Go.Md
namespace Go.Proofs.YtaealapgebbnlaaGreatDoor
open Go.RowKit Go.Mem Go.Md Go.Maps
/-- the graph in block G: names nm with sets ls in blocks bs; im: names of other entries -/
structure Gr (w : World) (G U I : Nat) (acts : Value) (nm : List Bs) (im : List (Bs × Value)) (bs : List Nat) (ls : List (List Bs)) : Prop where
  g : Blk w G 67 [.map (some U), .map (some I), acts]
  u : MapOf bst okB w U (zipU nm bs)
  i : MapOf bst okB w I im
  lb : bs.length = nm.length
  ll : ls.length = nm.length
  nn : nm.Nodup
  s : ∀ (k : Nat) (b : Nat) (l : List Bs), bs[k]? = some b → ls[k]? = some l → SetAt w b l
  nd : (G :: U :: I :: bs).Nodup
theorem Gr.below {w w' : World} {G U I : Nat} {acts : Value} {nm : List Bs} {im : List (Bs × Value)} {bs : List Nat} {ls : List (List Bs)} (h : Gr w G U I acts nm im bs ls) (hb : Below w.heap.size w w') : Gr w' G U I acts nm im bs ls :=
  ⟨h.g.below hb h.g.lt, h.u.below hb, h.i.below hb, h.lb, h.ll, h.nn, fun k b l h1 h2 => (h.s k b l h1 h2).below hb, h.nd⟩
/-- one set has changed -/
theorem Gr.put {w w' : World} {G U I : Nat} {acts : Value} {nm : List Bs} {im : List (Bs × Value)} {bs : List Nat} {ls : List (List Bs)} (h : Gr w G U I acts nm im bs ls) {k b : Nat} {l' : List Bs} (hk : bs[k]? = some b)
    (hg : GrownIn (fun x => x = b) w w') (hs : SetAt w' b l') : Gr w' G U I acts nm im bs (ls.set k l') := by
  have hkb : k < bs.length := (List.getElem?_eq_some_iff.1 hk).1
  have hm : b ∈ bs := List.mem_of_getElem? hk
  obtain ⟨n1, n2, n3, n4⟩ := (by simpa [List.nodup_cons] using h.nd : ¬ (G = U ∨ G = I ∨ G ∈ bs) ∧ ¬ (U = I ∨ U ∈ bs) ∧ I ∉ bs ∧ bs.Nodup)
  have hG : G ≠ b := fun e => n1 (.inr (.inr (e ▸ hm)))
  have hU : U ≠ b := fun e => n2 (.inr (e ▸ hm))
  have hI : I ≠ b := fun e => n3 (e ▸ hm)
  refine ⟨?_, h.u.same (hg.block U h.u.lt hU), h.i.same (hg.block I h.i.lt hI), h.lb, by simpa using h.ll, h.nn, fun j c l h1 h2 => ?_, h.nd⟩
  · exact (hg.block G h.g.lt hG).trans h.g
  · by_cases e : k = j
    · subst e
      rw [hk] at h1
      injection h1 with h1
      subst h1
      rw [List.getElem?_set_self (by have := h.lb; have := h.ll; omega)] at h2
      injection h2 with h2
      subst h2
      exact hs
    · rw [List.getElem?_set_ne e] at h2
      have hne : c ≠ b := fun e2 => e (nodup_at n4 hk (e2 ▸ h1))
      have := h.s j c l h1 h2
      exact MapOf.same this (hg.block c (MapOf.lt this) hne)
theorem zero_set (w : World) : (zeroValue 63).run Tryz.prog w = .ok (.map none) w := Tryz.zeroValue63 w
theorem zero_str (w : World) : (zeroValue 9).run Tryz.prog w = .ok (.string ⟨#[]⟩) w := Tryz.zeroValue9 w
theorem zero_bl (w : World) : (zeroValue 4).run Tryz.prog w = .ok (.bool false) w := Tryz.zeroValue4 w
theorem Gr.get {w : World} {G U I : Nat} {acts : Value} {nm : List Bs} {im : List (Bs × Value)} {bs : List Nat} {ls : List (List Bs)} (h : Gr w G U I acts nm im bs ls) {k b : Nat} {n : Bs} (hn : nm[k]? = some n) (hb : bs[k]? = some b) (c : Bool) (V : World) (hV : V.heap = w.heap) :
    (Instr.lookup 64 (.map (some U)) (bst n) c).run Tryz.prog V = .ok (if c then .tuple #[.map (some b), .bool true] else .map (some b)) V := by
  obtain ⟨hk, rfl⟩ := List.getElem?_eq_some_iff.1 hn
  obtain ⟨hkb, rfl⟩ := List.getElem?_eq_some_iff.1 hb
  have hok : okB nm[k] := by
    obtain ⟨_, _, _, _, _, ho⟩ := h.u
    have e := zipU_get h.lb h.nn hk
    exact ho _ (mget_mem e)
  have := (h.u.same (w' := V) (by rw [hV])).lookup enc_B Tryz.underlying64 zero_set (a := nm[k]) hok c
  rw [zipU_get h.lb h.nn hk] at this
  exact this
theorem Gr.miss {w : World} {G U I : Nat} {acts : Value} {nm : List Bs} {im : List (Bs × Value)} {bs : List Nat} {ls : List (List Bs)} (h : Gr w G U I acts nm im bs ls) {n : Bs} (hn : n ∉ nm) (ho : okB n) (V : World) (hV : V.heap = w.heap) :
    (Instr.lookup 64 (.map (some U)) (bst n) true).run Tryz.prog V = .ok (.tuple #[.map none, .bool false]) V := by
  have := (h.u.same (w' := V) (by rw [hV])).lookup enc_B Tryz.underlying64 zero_set (a := n) ho true
  rw [zipU_none h.lb hn] at this
  exact this
theorem Gr.in_ {w : World} {G U I : Nat} {acts : Value} {nm : List Bs} {im : List (Bs × Value)} {bs : List Nat} {ls : List (List Bs)} (h : Gr w G U I acts nm im bs ls) {n t : Bs} (hn : mget im n = some (bst t)) (ho : okB n) (V : World) (hV : V.heap = w.heap) :
    (Instr.lookup 65 (.map (some I)) (bst n) true).run Tryz.prog V = .ok (.tuple #[bst t, .bool true]) V := by
  have := (h.i.same (w' := V) (by rw [hV])).lookup enc_B Tryz.underlying65 zero_str (a := n) ho true
  rw [hn] at this
  exact this
/-- uses[n][t] = true -/
theorem Gr.set {w : World} {G U I : Nat} {acts : Value} {nm : List Bs} {im : List (Bs × Value)} {bs : List Nat} {ls : List (List Bs)} (h : Gr w G U I acts nm im bs ls) {k b : Nat} {l : List Bs} (hb : bs[k]? = some b) (hl : ls[k]? = some l) {t : Bs} (ho : okB t) (V : World) (hV : V.heap = w.heap) :
    ∃ w', (Instr.mapUpdate 63 (.map (some b)) (bst t) (.bool true)).run Tryz.prog V = .ok () w' ∧ SetAt w' b (insF t l) ∧ V.grownBy w' (some b) := by
  have h0 : SetAt V b l := MapOf.same (h.s k b l hb hl) (by rw [hV])
  obtain ⟨w', h1, h2, h3⟩ := MapOf.update enc_B h0 Tryz.underlying63 ho (.bool true)
  rw [mput_set] at h2
  exact ⟨w', h1, h2, h3⟩
end Go.Proofs.YtaealapgebbnlaaGreatDoor
