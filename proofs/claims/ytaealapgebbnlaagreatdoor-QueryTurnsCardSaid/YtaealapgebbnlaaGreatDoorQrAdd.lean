/- Contracts of the graph's adder and of the functions that it returns. -/
import Derived.Test.YtaealapgebbnlaaGreatDoorQrGr
import Derived.Test.YtaealapgebbnlaaGreatDoorHeldG
import Derived.Deep.RegionHeld3
set_option linter.unusedVariables false
namespace Go.Proofs.YtaealapgebbnlaaGreatDoor
open Go.RowKit Go.Mem Go.Md Go.Maps
/-- what a call of add does: one set has changed -/
def AddPost (w : World) (b : Nat) (l' : List Bs) (e : Ending) (w' : World) : Prop := e = .returned (.tuple #[]) ∧ SetAt w' b l' ∧ GrownIn (fun x => x = b) w w'
theorem strq_eq (a b : ByteArray) : (a.toList == b.toList) = decide (a = b) := by
  rw [ByteArray.toList_eq, ByteArray.toList_eq, Bool.eq_iff_iff]
  simp only [beq_iff_eq, decide_eq_true_eq]
  exact ⟨fun h => Go.WideShapes.bytes_inj h, fun h => by rw [h]⟩
theorem GB {w w' : World} {row : Option Nat} (h : w.drew.grownBy w' row) : w.grownBy w' row := ⟨h.os, h.tape, h.output, h.size, h.block⟩
set_option maxRecDepth 100000 in
set_option maxHeartbeats 4000000 in
theorem add_any (p1 p2 : Nat) (w : World) (G U I : Nat) (acts : Value) (nm : List Bs) (im : List (Bs × Value)) (bs : List Nat) (ls : List (List Bs)) (h : Gr w G U I acts nm im bs ls)
    (h1 : w.cell? ⟨p1, 0, none⟩ = some (.pointer (some ⟨G, 0, none⟩))) (n t s : Bs) (h2 : w.cell? ⟨p2, 0, none⟩ = some (bst n)) (k b : Nat) (l : List Bs) (hk : nm[k]? = some n) (hb : bs[k]? = some b) (hl : ls[k]? = some l)
    (j : Nat) (hj : nm[j]? = some t) (hs : s = t ∨ s ∉ nm ∧ okB s ∧ mget im s = some (bst t)) :
    Calls Tryz.prog 49 #[bst s, .pointer (some ⟨p1, 0, none⟩), .pointer (some ⟨p2, 0, none⟩)] w (AddPost w b (addF n t l)) := by
  have hjl : j < nm.length := (List.getElem?_eq_some_iff.1 hj).1
  obtain ⟨c, hc⟩ : ∃ c, bs[j]? = some c := ⟨bs[j]'(by have := h.lb; omega), List.getElem?_eq_getElem _⟩
  have g0 := h.g.cell 0
  have g1 := h.g.cell 1
  simp only [List.getElem?_cons_zero, List.getElem?_cons_succ] at g0 g1
  have hot : okB t := by
    obtain ⟨_, _, _, _, _, ho⟩ := h.u
    obtain ⟨hx, rfl⟩ := List.getElem?_eq_some_iff.1 hj
    exact ho _ (mget_mem (zipU_get h.lb h.nn hx))
  have lk5 := h.get hj hc true w rfl
  simp only [if_true] at lk5
  have l1 := lt_of_cell h1
  have l2 := lt_of_cell h2
  have lg := lt_of_cell g0
  obtain ⟨w', up, hs', hg'⟩ := h.set hb hl hot w.drew rfl
  have lk7 := h.get hk hb false w.drew rfl
  simp only [Bool.false_eq_true, if_false] at lk7
  have H0 := Lib.hid (h.s k b l hb hl)
  have FIN := Lib.hid (And.intro hs' hg')
  obtain ⟨S, hS⟩ : ∃ S : ByteArray, S = ⟨s.toArray⟩ := ⟨_, rfl⟩
  obtain ⟨T, hT⟩ : ∃ S : ByteArray, S = ⟨t.toArray⟩ := ⟨_, rfl⟩
  obtain ⟨N, hN⟩ : ∃ S : ByteArray, S = ⟨n.toArray⟩ := ⟨_, rfl⟩
  have eTN : T = N ↔ t = n := by
    rw [hT, hN]
    constructor
    · intro e
      injection e with e
      have := congrArg Array.toList e
      simpa using this
    · rintro rfl; rfl
  have hcase : (S = T ∧ True) ∨ ((Instr.lookup 64 (.map (some U)) (.string S) true).run Tryz.prog w = .ok (.tuple #[.map none, .bool false]) w ∧ (Instr.lookup 65 (.map (some I)) (.string S) true).run Tryz.prog w = .ok (.tuple #[.string T, .bool true]) w) := by
    rcases hs with rfl | ⟨m1, m2, m3⟩
    · exact .inl ⟨by rw [hS, hT], trivial⟩
    · rw [hS, hT]
      exact .inr ⟨h.miss m1 m2 w rfl, h.in_ m3 m2 w rfl⟩
  rw [show bst t = .string T from by rw [hT]] at lk5 up
  rw [show bst n = .string N from by rw [hN]] at lk7 h2
  rw [show bst s = .string S from by rw [hS]]
  by_cases et : t = n
  · have HE := Lib.hid (show addF n t l = l from by rw [addF, if_pos et])
    have eN := eTN.2 et
    clear hs hT hN hS h hot hk hb hl hj hjl hc eTN hs' hg' et up lk7
    subst eN
    go_enter Tryz.func49, Tryz.ntmps49
    rcases hcase with ⟨rfl, _⟩ | ⟨k1, k2⟩
    all_goals
      go_wp2_with (fail)
      go_end0
      exact ⟨rfl, by rw [HE.out]; exact H0.out, GrownIn.refl _ _⟩
  · have HE := Lib.hid (show addF n t l = insF t l from by rw [addF, if_neg et])
    have hne : (T.toList == N.toList) = false := by rw [strq_eq]; exact decide_eq_false fun e => et (eTN.1 e)
    clear hs hT hN hS h hot hk hb hl hj hjl hc eTN hs' hg' et
    go_enter Tryz.func49, Tryz.ntmps49
    rcases hcase with ⟨rfl, _⟩ | ⟨k1, k2⟩
    all_goals
      go_wp2_with (fail)
      refine wp_region_g (S := fun w' => w' = w.drew) (m := 7) (by kernel_rfl) ?_
      have hS : w.drew = w.drew := rfl
      repeat (first | (refine wpAnyG_take (i := 0) (v := .pointer (some ⟨G, 0, none⟩)) rfl ?_ ?_ ?_ (fun _ _ _ h => h) (Or.inl ⟨by rfl, ?_⟩) hS ?_; (· decide +kernel); (· decide +kernel); (· decide +kernel); (· (intro w' hS'; subst hS'; go_simp))) | (refine wpAnyG_take (i := 1) (v := .pointer (some ⟨G, 0, none⟩)) rfl ?_ ?_ ?_ (fun _ _ _ h => h) (Or.inl ⟨by rfl, ?_⟩) hS ?_; (· decide +kernel); (· decide +kernel); (· decide +kernel); (· (intro w' hS'; subst hS'; go_simp))) | (refine wpAnyG_take (i := 2) (v := .pointer (some ⟨G, 0, none⟩)) rfl ?_ ?_ ?_ (fun _ _ _ h => h) (Or.inl ⟨by rfl, ?_⟩) hS ?_; (· decide +kernel); (· decide +kernel); (· decide +kernel); (· (intro w' hS'; subst hS'; go_simp))) | (refine wpAnyG_take (i := 3) (v := .map (some U)) rfl ?_ ?_ ?_ (fun _ _ _ h => h) (Or.inl ⟨by rfl, ?_⟩) hS ?_; (· decide +kernel); (· decide +kernel); (· decide +kernel); (· (intro w' hS'; subst hS'; go_simp))) | (refine wpAnyG_take (i := 4) (v := .string N) rfl ?_ ?_ ?_ (fun _ _ _ h => h) (Or.inl ⟨by rfl, ?_⟩) hS ?_; (· decide +kernel); (· decide +kernel); (· decide +kernel); (· (intro w' hS'; subst hS'; go_simp))) | (refine wpAnyG_take (i := 6) (v := .string T) rfl ?_ ?_ ?_ (fun _ _ _ h => h) (Or.inl ⟨by rfl, ?_⟩) hS ?_; (· decide +kernel); (· decide +kernel); (· decide +kernel); (· (intro w' hS'; subst hS'; go_simp))) | (refine wpAnyG_take (i := 6) (v := .string S) rfl ?_ ?_ ?_ (fun _ _ _ h => h) (Or.inl ⟨by rfl, ?_⟩) hS ?_; (· decide +kernel); (· decide +kernel); (· decide +kernel); (· (intro w' hS'; subst hS'; go_simp))))
      refine wpAnyG_ready (rs := [5]) (by decide +kernel) (by simp) ?_
      refine AllReadyG.cons rfl (fun K hK => ?_) AllReadyG.nil
      go_simp
      refine hK _ _ (fun _ => hS) ?_
      clear hK K
      refine wpAnyG_ready (rs := [7]) (by decide +kernel) (by simp) ?_
      refine AllReadyG.cons rfl (fun K hK => ?_) AllReadyG.nil
      go_simp
      refine hK _ _ (fun h => absurd h (by omega)) ?_
      clear hK K
      refine wpAnyG_done (by decide +kernel) ?_ _
      go_end0
      exact ⟨rfl, by rw [HE.out]; exact FIN.out.1, GrownIn.of_grown (GB FIN.out.2) fun x e => by injection e with e; exact e.symm⟩
end Go.Proofs.YtaealapgebbnlaaGreatDoor
