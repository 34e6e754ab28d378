/- More of the graph in memory: a new name, a new other entry; what newGraph carries. -/
import Derived.Test.YtaealapgebbnlaaGreatDoorQrFns
set_option linter.unusedVariables false
namespace Go.Proofs.YtaealapgebbnlaaGreatDoor
open Go.RowKit Go.Mem Go.Md Go.Maps
section
variable {w : World} {G U I : Nat} {acts : Value} {nm : List Bs} {im : List (Bs × Value)} {bs : List Nat} {ls : List (List Bs)}
theorem Gr.heap {w' : World} (h : Gr w G U I acts nm im bs ls) (e : w'.heap = w.heap) : Gr w' G U I acts nm im bs ls :=
  ⟨h.g.of_heap e, h.u.same (by rw [e]), h.i.same (by rw [e]), h.lb, h.ll, h.nn, fun k b l h1 h2 => MapOf.same (h.s k b l h1 h2) (by rw [e]), h.nd⟩
theorem Gr.blk_lt (h : Gr w G U I acts nm im bs ls) {b : Nat} (hb : b ∈ bs) : b < w.heap.size := by
  obtain ⟨k, hk, rfl⟩ := List.mem_iff_getElem.1 hb
  have e1 := h.lb
  have e2 := h.ll
  exact MapOf.lt (h.s k _ (ls[k]'(by omega)) (List.getElem?_eq_getElem hk) (List.getElem?_eq_getElem (by omega)))
theorem Gr.parts (h : Gr w G U I acts nm im bs ls) : G ≠ U ∧ G ≠ I ∧ U ≠ I ∧ G ∉ bs ∧ U ∉ bs ∧ I ∉ bs ∧ bs.Nodup := by
  obtain ⟨n1, n2, n3, n4⟩ := (by simpa [List.nodup_cons] using h.nd : ¬ (G = U ∨ G = I ∨ G ∈ bs) ∧ ¬ (U = I ∨ U ∈ bs) ∧ I ∉ bs ∧ bs.Nodup)
  exact ⟨fun e => n1 (.inl e), fun e => n1 (.inr (.inl e)), fun e => n2 (.inl e), fun e => n1 (.inr (.inr e)), fun e => n2 (.inr e), n3, n4⟩
/-- uses[n] = set{} -/
theorem Gr.add (h : Gr w G U I acts nm im bs ls) {n : Bs} (hn : n ∉ nm) (ho : okB n) (V : World) (hV : V.heap = w.heap) :
    ∃ w', (Instr.mapUpdate 64 (.map (some U)) (bst n) (.map (some V.heap.size))).run Tryz.prog (V.alloc (.map #[] 0)) = .ok () w' ∧ Gr w' G U I acts (nm ++ [n]) im (bs ++ [V.heap.size]) (ls ++ [[]]) ∧ GrownIn (fun x => x = U) V w' := by
  have h1 := h.heap hV
  have ba : Below V.heap.size V (V.alloc (.map #[] 0)) := (Below.refl _ _).alloc (Nat.le_refl _) _
  have h2 := h1.below ba
  obtain ⟨w', up, hm, hg⟩ := MapOf.update enc_B h2.u Tryz.underlying64 ho (.map (some V.heap.size))
  obtain ⟨n1, n2, n3, n4, n5, n6, n7⟩ := h.parts
  have keep : ∀ x, x < (V.alloc (.map #[] 0)).heap.size → x ≠ U → w'.heap[x]? = (V.alloc (.map #[] 0)).heap[x]? := fun x hx hne => hg.block x hx (fun e => hne (Option.some.inj e))
  have g2 : GrownIn (fun x => x = U) (V.alloc (.map #[] 0)) w' := GrownIn.of_grown hg (fun k e => (Option.some.inj e).symm)
  have hvl : V.heap.size < (V.alloc (.map #[] 0)).heap.size := by rw [World.size_alloc]; omega
  have hbl := fun b hb => h1.blk_lt (b := b) hb
  have l1 := h.lb
  have l2 := h.ll
  refine ⟨w', up, ⟨(keep G h2.g.lt n1).trans h2.g, ?_, h2.i.same (keep I h2.i.lt n3.symm), by simp [l1], by simp [l2], ?_, ?_, ?_⟩, (GrownIn.of_below ba).trans g2 fun b h => .inl h⟩
  · have e : mput (zipU nm bs) n (.map (some V.heap.size)) = zipU (nm ++ [n]) (bs ++ [V.heap.size]) := by
      unfold mput
      rw [zipU_none h.lb hn]
      simp only [Option.isSome_none, Bool.false_eq_true, if_false, zipU, List.map_append]
      rw [List.zip_append (by simp [l1])]
      rfl
    rw [e] at hm
    exact hm
  · exact List.nodup_append.2 ⟨h.nn, by simp, fun x hx y hy => by simp at hy; subst hy; intro e; exact hn (e ▸ hx)⟩
  · intro k b l hb hl
    by_cases hk : k < bs.length
    · rw [List.getElem?_append_left hk] at hb
      rw [List.getElem?_append_left (by omega)] at hl
      have hs := h2.s k b l hb hl
      exact MapOf.same hs (keep b (MapOf.lt hs) (fun e => n5 (e ▸ List.mem_of_getElem? hb)))
    · rw [List.getElem?_append_right (by omega)] at hb
      rw [List.getElem?_append_right (by omega)] at hl
      have e0 : k - bs.length = 0 := by
        rcases Nat.eq_zero_or_pos (k - bs.length) with e | e
        · exact e
        · rw [List.getElem?_eq_none (by simp; omega)] at hb; cases hb
      rw [e0] at hb
      rw [show k - ls.length = 0 by omega] at hl
      simp at hb hl
      subst hb
      subst hl
      have hs : MapOf bst okB (V.alloc (.map #[] 0)) V.heap.size ([] : List (Bs × Value)) := MapOf.new V
      exact MapOf.same hs (keep _ hvl (fun e => by have := h1.u.lt; omega))
  · have hnd : ((G :: U :: I :: bs) ++ [V.heap.size]).Nodup := List.nodup_append.2 ⟨h.nd, by simp, fun x hx y hy => by
      simp at hy
      subst hy
      have a1 := h1.g.lt
      have a2 := h1.u.lt
      have a3 := h1.i.lt
      intro e
      subst e
      simp only [List.mem_cons] at hx
      rcases hx with e | e | e | e
      · omega
      · omega
      · omega
      · have := hbl _ e
        omega⟩
    simpa using hnd
/-- in[n] = t -/
theorem Gr.addIn (h : Gr w G U I acts nm im bs ls) {n t : Bs} (hn : mget im n = none) (ho : okB n) (V : World) (hV : V.heap = w.heap) :
    ∃ w', (Instr.mapUpdate 65 (.map (some I)) (bst n) (bst t)).run Tryz.prog V = .ok () w' ∧ Gr w' G U I acts nm (im ++ [(n, bst t)]) bs ls ∧ GrownIn (fun x => x = I) V w' := by
  have h1 := h.heap hV
  obtain ⟨w', up, hm, hg⟩ := MapOf.update enc_B h1.i Tryz.underlying65 ho (bst t)
  obtain ⟨n1, n2, n3, n4, n5, n6, n7⟩ := h.parts
  have keep : ∀ x, x < V.heap.size → x ≠ I → w'.heap[x]? = V.heap[x]? := fun x hx hne => hg.block x hx (fun e => hne (Option.some.inj e))
  refine ⟨w', up, ⟨(keep G h1.g.lt n2).trans h1.g, h1.u.same (keep U h1.u.lt n3), ?_, h.lb, h.ll, h.nn, ?_, h.nd⟩, GrownIn.of_grown hg (fun k e => (Option.some.inj e).symm)⟩
  · unfold mput at hm
    rw [hn] at hm
    exact hm
  · intro k b l hb hl
    have hs := h1.s k b l hb hl
    exact MapOf.same hs (keep b (MapOf.lt hs) (fun e => n6 (e ▸ List.mem_of_getElem? hb)))
theorem Gr.missIn (h : Gr w G U I acts nm im bs ls) {n : Bs} (hn : mget im n = none) (ho : okB n) (V : World) (hV : V.heap = w.heap) :
    (Instr.lookup 65 (.map (some I)) (bst n) true).run Tryz.prog V = .ok (.tuple #[.string ⟨#[]⟩, .bool false]) V := by
  have := (h.i.same (w' := V) (by rw [hV])).lookup enc_B Tryz.underlying65 zero_str (a := n) ho true
  rw [hn] at this
  exact this
/-- the graph's actors are stored -/
theorem Gr.actsPut {v : Value} (h : Gr w G U I acts nm im bs ls) : Gr (w.setCell ⟨G, 2, none⟩ v) G U I v nm im bs ls := by
  obtain ⟨n1, n2, n3, n4, n5, n6, n7⟩ := h.parts
  have keep : ∀ x, x ≠ G → (w.setCell ⟨G, 2, none⟩ v).heap[x]? = w.heap[x]? := fun x hne => Below.heap_setCell w ⟨G, 2, none⟩ v x hne
  refine ⟨h.g.put 2 v, h.u.same (keep U n1.symm), h.i.same (keep I n2.symm), h.lb, h.ll, h.nn, ?_, h.nd⟩
  intro k b l hb hl
  exact MapOf.same (h.s k b l hb hl) (keep b (fun e => n4 (e ▸ List.mem_of_getElem? hb)))
end
/-- what newGraph carries behind a world W1 -/
def NgInv (W1 wr : World) (G U I : Nat) (acts : Value) (nm : List Bs) (im : List (Bs × Value)) (ls : List (List Bs)) : Prop :=
  ∃ bs, Gr wr G U I acts nm im bs ls ∧ (∀ b ∈ bs, W1.heap.size ≤ b) ∧ GrownIn (fun x => x = G ∨ x = U ∨ x = I) W1 wr
theorem NgInv.below {W1 wr w' : World} {G U I : Nat} {acts : Value} {nm : List Bs} {im : List (Bs × Value)} {ls : List (List Bs)} (h : NgInv W1 wr G U I acts nm im ls) (hb : Below wr.heap.size wr w') : NgInv W1 w' G U I acts nm im ls := by
  obtain ⟨bs, h1, h2, h3⟩ := h
  exact ⟨bs, h1.below hb, h2, h3.trans (GrownIn.of_below (own := fun _ => False) hb) (fun _ h => h.elim)⟩
theorem NgInv.put {W1 wr w' : World} {G U I : Nat} {acts : Value} {nm : List Bs} {im : List (Bs × Value)} {bs : List Nat} {ls : List (List Bs)} {k b : Nat} {l' : List Bs} (h1 : Gr wr G U I acts nm im bs ls) (h2 : ∀ b ∈ bs, W1.heap.size ≤ b) (h3 : GrownIn (fun x => x = G ∨ x = U ∨ x = I) W1 wr)
    (hk : bs[k]? = some b) (hg : GrownIn (fun x => x = b) wr w') (hs : SetAt w' b l') : NgInv W1 w' G U I acts nm im (ls.set k l') :=
  ⟨bs, h1.put hk hg hs, h2, h3.trans hg (fun x e => .inr (by have := h2 b (List.mem_of_getElem? hk); omega))⟩
/-- the names and the other entries of the first entries of the page -/
def nmE (k : Nat) : List Bs := ((allE.take k).filter fun e => e.in_.isEmpty).map fun e => [e.ch]
def imE (k : Nat) : List (Bs × Value) := if k < 2 then [] else [([75], bst [68])]
theorem allE_case : ∀ k, k < 11 → (((allE[k]?.getD default).in_ = [] ∧ k ≠ 1 ∧ [(allE[k]?.getD default).ch] ∉ nmE k ∧ nmE (k + 1) = nmE k ++ [[(allE[k]?.getD default).ch]]) ∨ k = 1) := by decide +kernel
theorem imE_next {k : Nat} (h : k ≠ 1) : imE (k + 1) = imE k := by
  unfold imE
  by_cases e : k < 2
  · rw [if_pos e, if_pos (by omega)]
  · rw [if_neg e, if_neg (by omega)]
/-- all names; where K stands -/
def nmA : List Bs := [[68], [90], [97], [98], [99], [100], [101], [102], [103], [104]]
def imA : List (Bs × Value) := [([75], bst [68])]
theorem nmE_all : nmE 11 = nmA := by decide +kernel
/-- a body's letters are names -/
def BdOk : Bd → Prop
  | none => True
  | some (x, y) => [x] ∈ nmA ∧ [y] ∈ nmA
/-- who uses whom -/
def usesF (fs : List Md.Fn) (z : Bd) (k : Nat) : List (List Bs) := [] :: [] :: ((fs.take k).map fun f => addAll f.1 (heads f.2) []) ++ List.replicate (8 - k) []
def usesA (fs : List Md.Fn) (z : Bd) : List (List Bs) := [] :: addAll [90] (heads z) [] :: (fs.map fun f => addAll f.1 (heads f.2) [])
theorem nmA_at : ∀ k, k < 8 → nmA[k + 2]? = some (nmI k) := by decide +kernel
theorem usesF_at (fs : List Md.Fn) (z : Bd) (k : Nat) (hf : fs.length = 8) (hk : k < 8) : (usesF fs z k)[k + 2]? = some [] := by
  unfold usesF
  rw [List.cons_append, List.cons_append, List.getElem?_cons_succ, List.getElem?_cons_succ, List.getElem?_append_right (by simp; omega)]
  rw [List.getElem?_replicate, if_pos (by simp; omega)]
theorem usesF_set (fs : List Md.Fn) (z : Bd) (k : Nat) (hf : fs.length = 8) (hk : k < 8) (hkl : k < fs.length) : (usesF fs z k).set (k + 2) (addAll (fs[k]).1 (heads (fs[k]).2) []) = usesF fs z (k + 1) := by
  unfold usesF
  rw [List.cons_append, List.cons_append, List.set_cons_succ, List.set_cons_succ, List.cons_append, List.cons_append]
  congr 2
  have e1 : ((fs.take k).map fun f => addAll f.1 (heads f.2) []).length = k := by simp; omega
  rw [List.set_append_right _ _ (by omega), e1, Nat.sub_self]
  rw [show 8 - k = (8 - (k + 1)) + 1 by omega, List.replicate_succ, List.set_cons_zero]
  rw [List.take_add_one, List.getElem?_eq_getElem hkl, List.map_append]
  simp
theorem usesF_end (fs : List Md.Fn) (z : Bd) (hf : fs.length = 8) : (usesF fs z 8).set 1 (addAll [90] (heads z) []) = usesA fs z := by
  unfold usesF usesA
  rw [List.take_of_length_le (by omega)]
  simp
theorem bdOk_res {b : Bd} (h : BdOk b) : ∀ (i : Nat) (s t : Bs), (texts b)[i]? = some s → (heads b)[i]? = some t → (∃ j : Nat, nmA[j]? = some t) ∧ (s = t ∨ s ∉ nmA ∧ okB s ∧ mget imA s = some (bst t)) := by
  intro i s t h1 h2
  rcases b with _ | ⟨x, y⟩
  · rcases i with _ | i
    · simp [texts] at h1
      simp [heads] at h2
      subst h1
      subst h2
      exact ⟨⟨0, rfl⟩, .inr ⟨by decide, by unfold okB; simp, rfl⟩⟩
    · simp [texts] at h1
  · have : s = t := by
      rcases i with _ | _ | i
      · simp [texts] at h1
        simp [heads] at h2
        rw [← h1, ← h2]
      · simp [texts] at h1
        simp [heads] at h2
        rw [← h1, ← h2]
      · simp [texts] at h1
    subst this
    refine ⟨?_, .inl rfl⟩
    have hm : s ∈ nmA := by
      rcases i with _ | _ | i
      · simp [texts] at h1
        rw [← h1]
        exact h.1
      · simp [texts] at h1
        rw [← h1]
        exact h.2
      · simp [texts] at h1
    obtain ⟨j, hj, e⟩ := List.mem_iff_getElem.1 hm
    exact ⟨j, by rw [List.getElem?_eq_getElem hj, e]⟩
end Go.Proofs.YtaealapgebbnlaaGreatDoor
