/- Contracts of cmp.Less and slices.IsSorted at strings. (Printed by qtsorted.py.) -/
import Derived.Test.YtaealapgebbnlaaGreatDoorQrAdd
import Derived.Deep.LoopGhost
import Derived.Test.YtaealapgebbnlaaGreatDoorQrCmp
set_option linter.unusedVariables false
namespace Go.Proofs.YtaealapgebbnlaaGreatDoor
open Go.RowKit Go.Mem Go.Md Go.Maps Go.Sort
theorem srt_le (l : List Bs) {j : Nat} {x y : Bs} (hx : (srt l)[j]? = some x) (hy : (srt l)[j + 1]? = some y) : ¬ y < x := by
  have hp : (srt l).Pairwise fun a b => leB a b = true := List.pairwise_mergeSort (le := leB) (fun a b c h1 h2 => by
    simp only [leB, decide_eq_true_eq] at h1 h2 ⊢
    exact List.le_trans h1 h2) (fun a b => by
    simp only [leB, Bool.or_eq_true, decide_eq_true_eq]
    exact List.le_total a b) l
  obtain ⟨h1, e1⟩ := List.getElem?_eq_some_iff.1 hx
  obtain ⟨h2, e2⟩ := List.getElem?_eq_some_iff.1 hy
  have h3 := (List.pairwise_iff_getElem.1 hp) j (j + 1) h1 h2 (by omega)
  rw [e1, e2] at h3
  simp only [leB, decide_eq_true_eq] at h3
  exact List.not_lt.2 h3
theorem notLess_any (x y : Bs) (h : ¬ x < y) (w : World) : Calls Tryz.prog 24 #[bst x, bst y] w fun e w' => e = .returned (.bool false) ∧ w = w' := by
  have n1 := nan_any ⟨x.toArray⟩ w
  have b1 : Op.bytesLess x y = false := by rw [bytesLess_eq]; exact decide_eq_false h
  clear h
  go_enter Tryz.func24, Tryz.ntmps24
  go_wp2_with (fail)
  refine n1.mono ?_
  rintro e w' ⟨rfl, rfl⟩
  go_wp2_with (fail)
  go_ret
  exact ⟨rfl, rfl⟩
set_option maxRecDepth 100000 in
theorem isSorted_any (D : Nat → Prop) (A : Option Addr) (n c : Nat) (l : List Bs) (w : World) (hr : Reads w D 1 A n ((srt l).map bst)) (hn10 : n ≤ 10) :
    Calls Tryz.prog 11 #[.slice A n c] w fun e w' => e = .returned (.bool true) ∧ Below w.heap.size w w' := by
  have hl : n = (srt l).length := by have := hr.1; simpa using this.symm
  have HR := Lib.hid (And.intro hr hl)
  have hw1 : IntKind.i64.wrap ((n : Int) - 1) = (n : Int) - 1 := IntWalk.i64_in _ (by omega)
  clear hr hl
  go_enter Tryz.func11, Tryz.ntmps11
  go_wp2_with (fail)
  clear hw1
  go_loopg [3] n (fun g v wr => v = .int .i64 ((g : Int) - 1) ∧ g ≤ n ∧ Hid (Below w.heap.size w wr))
  case atStart => exact ⟨rfl, Nat.le_refl _, Below.refl _ _⟩
  case round =>
    obtain ⟨rfl, hg, HB⟩ := hrel
    by_cases h2 : 2 ≤ gk
    · obtain ⟨i, hi⟩ : ∃ i, gk = i + 2 := ⟨gk - 2, by omega⟩
      have rd := HR.out.1.keep (Same.of_below (HB.out) fun _ _ h => h)
      obtain ⟨b, o, x, rfl, _, hx, px⟩ := rd.at_ (k := i) (by omega)
      have hc := (rd.2 (by omega))
      obtain ⟨b', o', e, _, hc⟩ := hc
      injection e with e
      injection e with e1 e2
      subst e1
      subst e2
      obtain ⟨s, hs⟩ : ∃ s, (srt l)[i]? = some s := ⟨_, List.getElem?_eq_getElem (by have := HR.out.2; omega)⟩
      obtain ⟨t, ht⟩ : ∃ s, (srt l)[i + 1]? = some s := ⟨_, List.getElem?_eq_getElem (by have := HR.out.2; omega)⟩
      obtain ⟨S, hS0⟩ : ∃ S : ByteArray, S = ⟨s.toArray⟩ := ⟨_, rfl⟩
      obtain ⟨T, hT0⟩ : ∃ S : ByteArray, S = ⟨t.toArray⟩ := ⟨_, rfl⟩
      have es : bst s = .string S := by rw [hS0]
      have et : bst t = .string T := by rw [hT0]
      have p0 : wr.cell? ⟨b, o + i, none⟩ = some (.string S) := hc i _ (by rw [List.getElem?_map, hs, ← es]; rfl)
      have p1 : wr.cell? ⟨b, o + (i + 1), none⟩ = some (.string T) := hc (i + 1) _ (by rw [List.getElem?_map, ht, ← et]; rfl)
      have NL := notLess_any t s (srt_le l hs ht) wr.drew
      rw [es, et] at NL
      replace NL := Lib.hid NL
      have lp := lt_of_cell p0
      have hv : ((gk : Int) - 1) = (i : Int) + 1 := by omega
      have hwi : IntKind.i64.wrap (i : Int) = (i : Int) := IntWalk.i64_in _ (by omega)
      have hj1 : ¬ ((n : Int) ≤ (i : Int)) := by omega
      have hj3 : ¬ ((i : Int) + 1 < 0) := by omega
      have hj2 : ¬ ((n : Int) ≤ (i : Int) + 1) := by omega
      have HGI := Lib.hid hi
      rw [hv]
      clear hi hv rd hx px hc hs ht hS0 hT0 es et h2
      go_wp2_with (fail)
      refine wp_region_g (S := fun Y => Y = wr.drew) (m := 10) (by kernel_rfl) ?_
      have hS : wr.drew = wr.drew := rfl
      repeat (first | (refine wpAnyG_take (i := 0) (v := .slice (some ⟨b, o, none⟩) n c) rfl ?_ ?_ ?_ (fun _ _ _ h => h) (Or.inl ⟨by rfl, ?_⟩) hS ?_; (· decide +kernel); (· decide +kernel); (· decide +kernel); (· (intro w' hS'; subst hS'; go_simp))) | (refine wpAnyG_take (i := 1) (v := .int .i64 ((i : Int) + 1)) rfl ?_ ?_ ?_ (fun _ _ _ h => h) (Or.inl ⟨by rfl, ?_⟩) hS ?_; (· decide +kernel); (· decide +kernel); (· decide +kernel); (· (intro w' hS'; subst hS'; go_simp))) | (refine wpAnyG_take (i := 2) (v := .pointer (some ⟨b, o + (i + 1), none⟩)) rfl ?_ ?_ ?_ (fun _ _ _ h => h) (Or.inl ⟨by rfl, ?_⟩) hS ?_; (· decide +kernel); (· decide +kernel); (· decide +kernel); (· (intro w' hS'; subst hS'; go_simp))) | (refine wpAnyG_take (i := 3) (v := .string T) rfl ?_ ?_ ?_ (fun _ _ _ h => h) (Or.inl ⟨by rfl, ?_⟩) hS ?_; (· decide +kernel); (· decide +kernel); (· decide +kernel); (· (intro w' hS'; subst hS'; go_simp))) | (refine wpAnyG_take (i := 4) (v := .slice (some ⟨b, o, none⟩) n c) rfl ?_ ?_ ?_ (fun _ _ _ h => h) (Or.inl ⟨by rfl, ?_⟩) hS ?_; (· decide +kernel); (· decide +kernel); (· decide +kernel); (· (intro w' hS'; subst hS'; go_simp))) | (refine wpAnyG_take (i := 5) (v := .int .i64 ((i : Int) + 1)) rfl ?_ ?_ ?_ (fun _ _ _ h => h) (Or.inl ⟨by rfl, ?_⟩) hS ?_; (· decide +kernel); (· decide +kernel); (· decide +kernel); (· (intro w' hS'; subst hS'; go_simp))) | (refine wpAnyG_take (i := 6) (v := .int .i64 (i : Int)) rfl ?_ ?_ ?_ (fun _ _ _ h => h) (Or.inl ⟨by rfl, ?_⟩) hS ?_; (· decide +kernel); (· decide +kernel); (· decide +kernel); (· (intro w' hS'; subst hS'; go_simp))) | (refine wpAnyG_take (i := 7) (v := .pointer (some ⟨b, o + i, none⟩)) rfl ?_ ?_ ?_ (fun _ _ _ h => h) (Or.inl ⟨by rfl, ?_⟩) hS ?_; (· decide +kernel); (· decide +kernel); (· decide +kernel); (· (intro w' hS'; subst hS'; go_simp))) | (refine wpAnyG_take (i := 8) (v := .string S) rfl ?_ ?_ ?_ (fun _ _ _ h => h) (Or.inl ⟨by rfl, ?_⟩) hS ?_; (· decide +kernel); (· decide +kernel); (· decide +kernel); (· (intro w' hS'; subst hS'; go_simp))))
      refine wpAnyG_ready (rs := [9]) (by decide +kernel) (by simp) ?_
      refine AllReadyG.cons rfl (fun K hK => ?_) AllReadyG.nil
      go_simp
      refine NL.out.mono ?_
      rintro e w' ⟨rfl, rfl⟩
      try dsimp only
      refine hK _ _ (fun _ => rfl) ?_
      clear hK K
      refine wpAnyG_done (by decide +kernel) ?_ _
      clear hS p0 p1 lp
      go_wp2_with (fail)
      go_roundg (i + 1)
      case measure => have := HGI.out; omega
      case rel => exact ⟨by rw [Int.natCast_add]; simp, by have := HGI.out; omega, HB.out.drew⟩
    · have hv : ¬ (0 < (gk : Int) - 1) := by omega
      go_wp2_with (fail)
      go_ret
      exact ⟨rfl, HB.out⟩
end Go.Proofs.YtaealapgebbnlaaGreatDoor
