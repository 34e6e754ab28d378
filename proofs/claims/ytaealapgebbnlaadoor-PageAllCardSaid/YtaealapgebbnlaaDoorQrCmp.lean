/- Contracts of cmp.Compare at single letters, cmp.Or at two ints, and of the page's comparison. (The first ones: lines of XSvMem.) -/
import Derived.Test.YtaealapgebbnlaaDoorQrMem
import Derived.Deep.RegionHeld3
import Derived.Deep.CutBlock
import Derived.Deep.QuietTactic
import Derived.BigQuiet
import Derived.StringKeys
import Derived.KernelRfl
import Derived.WalkSpells
import Derived.Laws.Cover1
import Derived.Shelf.SlSortCmp.InsertionK
set_option linter.unusedVariables false
namespace Go.Proofs.YtaealapgebbnlaaDoor
open Go.RowKit Go.Mem Go.Md Go.Sort
theorem lt_one (a b : UInt8) : ([a] : List UInt8) < [b] ↔ a < b := by
  rw [List.cons_lt_cons_iff]
  simp
theorem nan_any (s : ByteArray) (w : World) : Calls Tryd.prog 38 #[.string s] w fun e w' => e = .returned (.bool false) ∧ w = w' := by
  go_enter Tryd.func38, Tryd.ntmps38
  go_wp2_with (fail)
  go_ret
  exact ⟨rfl, rfl⟩
theorem bytes_one (a b : UInt8) : Op.bytesLess [a] [b] = decide (a < b) := by
  rw [bytesLess_eq]
  exact decide_eq_decide.2 (lt_one a b)
theorem compare_any (a b : UInt8) (r : Int) (w : World) (hr : r = if a < b then -1 else if b < a then 1 else 0) : Calls Tryd.prog 27 #[bst [a], bst [b]] w fun e w' => e = .returned (.int .i64 r) ∧ w = w' := by
  have n1 := nan_any ⟨[a].toArray⟩ w
  have n2 := nan_any ⟨[b].toArray⟩ w
  have e1 : decide (a < b) = true ∨ decide (a < b) = false := by cases decide (a < b) <;> simp
  rcases e1 with e1 | e1
  · have hr2 : r = -1 := by rw [hr, if_pos (by simpa using e1)]
    have b1 := bytes_one a b
    rw [e1] at b1
    subst hr2
    clear hr e1
    go_enter Tryd.func27, Tryd.ntmps27
    go_wp2_with (fail)
    refine n1.mono ?_
    rintro e w' ⟨rfl, rfl⟩
    go_wp2_with (fail)
    refine n2.mono ?_
    rintro e w' ⟨rfl, rfl⟩
    go_wp2_with (fail)
    go_ret
    exact ⟨rfl, rfl⟩
  · have b1 := bytes_one a b
    rw [e1] at b1
    have hab : ¬ a < b := by simpa using e1
    by_cases hba : b < a
    · have hr2 : r = 1 := by rw [hr, if_neg hab, if_pos hba]
      have hne : ([a] == [b]) = false := by simp; rintro rfl; exact hab hba
      subst hr2
      clear hr e1 hab hba
      go_enter Tryd.func27, Tryd.ntmps27
      go_wp2_with (fail)
      refine n1.mono ?_
      rintro e w' ⟨rfl, rfl⟩
      go_wp2_with (fail)
      refine n2.mono ?_
      rintro e w' ⟨rfl, rfl⟩
      go_wp2_with (fail)
      go_ret
      exact ⟨rfl, rfl⟩
    · have hr2 : r = 0 := by rw [hr, if_neg hab, if_neg hba]
      have hne : a = b := by
        have h1 : ¬ a.toNat < b.toNat := hab
        have h2 : ¬ b.toNat < a.toNat := hba
        exact UInt8.toNat_inj.1 (by omega)
      subst hr2 hne
      clear hr e1 hab hba
      go_enter Tryd.func27, Tryd.ntmps27
      go_wp2_with (fail)
      refine n1.mono ?_
      rintro e w' ⟨rfl, rfl⟩
      go_wp2_with (fail)
      refine n2.mono ?_
      rintro e w' ⟨rfl, rfl⟩
      go_wp2_with (fail)
      go_ret
      exact ⟨rfl, rfl⟩

theorem or_any (g : Nat) (x y z : Int) (w : World) (h0 : w.cell? ⟨g, 0, none⟩ = some (.int .i64 x)) (h1 : w.cell? ⟨g, 1, none⟩ = some (.int .i64 y)) (lg : g < w.heap.size) (hz : z = if x = 0 then y else x) :
    Calls Tryd.prog 26 #[.slice (some ⟨g, 0, none⟩) 2 2] w fun e w' => e = .returned (.int .i64 z) ∧ w = w' := by
  by_cases hx : x = 0
  · subst hx
    rw [if_pos rfl] at hz
    subst hz
    by_cases hy : z = 0
    · subst hy
      go_enter Tryd.func26, Tryd.ntmps26
      go_wp2_with (fail)
      refine wp_loop_rounds 3 ?_
      rw [rounds_succ]
      go_wp2_with (fail)
      rw [rounds_succ]
      go_wp2_with (fail)
      rw [rounds_succ]
      go_wp2_with (fail)
      go_ret
      exact ⟨rfl, rfl⟩
    · have g2 : (z != 0) = true := by simpa using hy
      clear hy
      go_enter Tryd.func26, Tryd.ntmps26
      go_wp2_with (fail)
      refine wp_loop_rounds 3 ?_
      rw [rounds_succ]
      go_wp2_with (fail)
      rw [rounds_succ]
      go_wp2_with (fail)
      go_ret
      exact ⟨rfl, rfl⟩
  · rw [if_neg hx] at hz
    subst hz
    have g2 : (z != 0) = true := by simpa using hx
    clear hx
    go_enter Tryd.func26, Tryd.ntmps26
    go_wp2_with (fail)
    refine wp_loop_rounds 3 ?_
    rw [rounds_succ]
    go_wp2_with (fail)
    go_ret
    exact ⟨rfl, rfl⟩
theorem lin1 (w : World) (o p : Obj) : (w.alloc o).alloc p = grow w #[o, p] := by rw [alloc_eq_grow, alloc_eq_grow, grow_grow]; rfl
set_option maxRecDepth 100000 in
set_option maxHeartbeats 2000000 in
theorem cmpE_any (x y : En) (w : World) : Calls Tryd.prog 25 #[.agg (encE x).toArray, .agg (encE y).toArray] w fun e w' => e = .returned (.int .i64 (cfE x y)) ∧ ∃ q os', w' = grow (w.drewN q) os' := by
  obtain ⟨a, ⟨i, hi⟩, xi, xl⟩ := x
  obtain ⟨b, ⟨j, hj⟩, yi, yl⟩ := y
  obtain ⟨z, hz⟩ : ∃ z, z = cfE ⟨a, ⟨i, hi⟩, xi, xl⟩ ⟨b, ⟨j, hj⟩, yi, yl⟩ := ⟨_, rfl⟩
  obtain ⟨r, hr⟩ : ∃ r, r = cmpU a b := ⟨_, rfl⟩
  have hz2 : z = if r = 0 then ((i : Int) - (j : Int)) else r := by rw [hz, hr]; rfl
  rw [← hz]
  have ew : IntKind.i64.wrap ((i : Int) - (j : Int)) = (i : Int) - (j : Int) := IntWalk.i64_in _ (by omega)
  obtain ⟨W, hW⟩ : ∃ W, W = (w.alloc (.cells #[bst [a], .int .i64 (i : Nat), bst xi, bst xl] 48)).alloc (.cells #[bst [b], .int .i64 (j : Nat), bst yi, bst yl] 48) := ⟨_, rfl⟩
  have hX : Blk W w.heap.size 48 [bst [a], .int .i64 (i : Nat), bst xi, bst xl] := by rw [hW]; exact (Blk.new w _ _).alloc _
  have hY : Blk W (w.heap.size + 1) 48 [bst [b], .int .i64 (j : Nat), bst yi, bst yl] := by
    rw [hW]
    have := Blk.new (w.alloc (.cells #[bst [a], .int .i64 (i : Nat), bst xi, bst xl] 48)) 48 [bst [b], .int .i64 (j : Nat), bst yi, bst yl]
    rwa [World.size_alloc] at this
  obtain ⟨X, hXe⟩ : ∃ X, X = w.heap.size := ⟨_, rfl⟩
  obtain ⟨Y, hYe⟩ : ∃ Y, Y = w.heap.size + 1 := ⟨_, rfl⟩
  have HW := Lib.hid (show W = grow w #[.cells #[bst [a], .int .i64 (i : Nat), bst xi, bst xl] 48, .cells #[bst [b], .int .i64 (j : Nat), bst yi, bst yl] 48] from hW.trans (lin1 _ _ _))
  rw [← hXe] at hX
  rw [← hYe] at hY
  have CM := fun V => Lib.hid (compare_any a b r V hr)
  have ORH := Lib.hid (fun (V : World) => Lib.hid (or_any V.heap.size r ((i : Int) - (j : Int)) z (V.alloc (.cells #[.int .i64 r, .int .i64 ((i : Int) - (j : Int))] 3)) ((Blk.new V 3 [.int .i64 r, .int .i64 ((i : Int) - (j : Int))]).cell 0) ((Blk.new V 3 [.int .i64 r, .int .i64 ((i : Int) - (j : Int))]).cell 1) (Blk.new V 3 [.int .i64 r, .int .i64 ((i : Int) - (j : Int))]).lt hz2))
  have x0 := hX.cell 0
  have x1 := hX.cell 1
  have y0 := hY.cell 0
  have y1 := hY.cell 1
  simp only [List.getElem?_cons_zero, List.getElem?_cons_succ] at x0 x1 y0 y1
  have lX := hX.lt
  have lY := hY.lt
  simp only [encE]
  clear hX hY hz hz2 hr hi hj
  go_enter Tryd.func25, Tryd.ntmps25
  go_upto_region 1 with (fail)
  rw [← hW, ← hYe, ← hXe]
  clear hW hXe hYe
  go_region_held3 (fun w' => w'.cell? ⟨X, 0, none⟩ = some (bst [a]) ∧ w'.cell? ⟨X, 1, none⟩ = some (.int .i64 (i : Nat)) ∧ w'.cell? ⟨Y, 0, none⟩ = some (bst [b]) ∧ w'.cell? ⟨Y, 1, none⟩ = some (.int .i64 (j : Nat)))
    (first | go_keep)
    (first
      | (go_at_call 27; refine (CM _).out.mono ?_; rintro e w' ⟨rfl, rfl⟩)
      | (go_at_call 26; refine (ORH.out W.drew).out.mono ?_; rintro e w' ⟨rfl, rfl⟩))
  all_goals
    go_wp2_with (fail)
    go_ret
    refine ⟨rfl, 1, #[.cells #[bst [a], .int .i64 (i : Nat), bst xi, bst xl] 48, .cells #[bst [b], .int .i64 (j : Nat), bst yi, bst yl] 48] ++ #[.cells #[.int .i64 r, .int .i64 ((i : Int) - (j : Int))] 3], ?_⟩
    rw [HW.out, alloc_eq_grow]
    exact grow_grow w.drew #[.cells #[bst [a], .int .i64 (i : Nat), bst xi, bst xl] 48, .cells #[bst [b], .int .i64 (j : Nat), bst yi, bst yl] 48] #[.cells #[.int .i64 r, .int .i64 ((i : Int) - (j : Int))] 3]
end Go.Proofs.YtaealapgebbnlaaDoor
