/- Contracts of slices.Grow of nil and slices.Concat of two at ranges of versions. -/
import Derived.Test.YtfndalfiojdhdaaVerNot
import Derived.Lib.AppendZerosOnto
import Derived.Lib.Walk
import Derived.Lib.SliceRun
set_option linter.unusedVariables false
namespace Go.Proofs.Ytfndalfiojdhdaa
open Go.RowKit Go.Mem Go.Ver
set_option maxRecDepth 100000 in
set_option maxHeartbeats 1000000 in
theorem grow_any (n : Nat) (w : World) (hn : n ≤ 1099511627776) :
    Calls Try.prog 26 #[.slice none 0 0, .int .i64 (n : Nat)] w fun e w' => ∃ A c, e = .returned (.slice A 0 c) ∧ OwnR w w' [] A c := by
  by_cases h0 : n = 0
  · subst h0
    go_enter Try.func26, Try.ntmps26
    go_wp2
    go_ret
    exact ⟨none, 0, rfl, OwnR.nil w⟩
  · obtain ⟨i0, hi0, hz0, hz1, hz2⟩ := info_parts info_rg
    have hrz : ∀ ty, (Builtin.append_ #[22, 3] ty #[.slice none 0 0, .int .i64 (n : Nat)]).run Try.prog w = .ok (.slice (some ⟨w.heap.size, 0, none⟩) n (grownCap w n 0 34))
        (w.drew.alloc (.cells (#[] ++ Builtin.zeroCells (Value.agg #[.int .i64 0, .int .i64 0]).cells n ++ Builtin.zeroCells (Value.agg #[.int .i64 0, .int .i64 0]).cells (grownCap w n 0 34 - n)) 34)) := fun ty => by
      have h := Lib.run_append_grow_zeros w 22 3 ty 34 i0 _ .i64 .i64 Try.underlying22 Try.underlying3 hi0 hz0 none 0 0 [] (by exact run_firstCells_none w.drew i0.size 0 0 0) n (by omega) (by omega) (by omega) (by omega) (by rw [hz2]; omega) (growslice_fits (by omega) (by rw [hz2]; omega))
      simpa using h
    have hGn := grownCap_ge w n 0 34
    have hGm := grownCap_le_maxLen w n 0 34 (by unfold maxLen; omega)
    generalize grownCap w n 0 34 = G at hrz hGn hGm
    have hG63 : G ≤ 9223372036854775807 := by unfold maxLen at hGm; omega
    go_enter Try.func26, Try.ntmps26
    go_wp2_with (at_builtin; refine Lib.wpList_append_run _ rfl _ _ _ _ rfl _ _ rfl rfl _ _ (hrz _) ?_)
    all_goals go_ret
    refine ⟨_, _, rfl, ⟨rfl, .inr ⟨w.heap.size, G, _, rfl, Nat.le_refl _, heap_alloc_new _ _, Nat.zero_le _, hGm, ?_, rfl⟩⟩, ?_⟩
    · rw [Array.size_append, size_zeroCells, size_zeroCells]
      simp only [List.size_toArray, List.length_cons, List.length_nil]
      omega
    · exact ⟨rfl, rfl, rfl, by simp [World.drew], fun b hb => Below.heap_alloc w _ b hb⟩
theorem OwnR.app2 {w0 w w' : World} {l r : List Rg} {A A' : Option Addr} {c c' : Nat} (h : OwnR w0 w l A c) (hown : w'.ownsRow w0.heap.size 34 2 (.slice A' (l.length + r.length) c') (l.length + r.length) (rgs l ++ rgs r)) (hg : w.grownBy w' (Value.slice A l.length c).ownBlock) : OwnR w0 w' (l ++ r) A' c' := by
  refine ⟨?_, h.2.grown hg h.2.size fun k hk => (h.1.lt k hk).1⟩
  rw [rgs_append]
  simpa using hown
set_option maxRecDepth 100000 in
set_option maxHeartbeats 1000000 in
theorem concat_any (g : Nat) (A B : Option Addr) (n c m d : Nat) (a b : List Rg) (w : World) (h0 : w.cell? ⟨g, 0, none⟩ = some (.slice A n c)) (h1 : w.cell? ⟨g, 1, none⟩ = some (.slice B m d)) (lg : g < w.heap.size) (hr : Reads w Any 2 A n (rgs a)) (hn : n = a.length) (hs : Reads w Any 2 B m (rgs b)) (hm : m = b.length) (h50 : n + m ≤ 100) :
    Calls Try.prog 16 #[.slice (some ⟨g, 0, none⟩) 2 2] w fun e w' => ∃ A c, e = .returned (.slice A (a ++ b).length c) ∧ Ver.Holds w' (a ++ b) A c ∧ Below w.heap.size w w' := by
  have Hn := Lib.hid hn
  have Hm := Lib.hid hm
  have HR := Lib.hid hr
  have HS := Lib.hid hs
  have w1 : IntKind.i64.wrap ((n : Int) + (m : Int)) = ((n + m : Nat) : Int) := (IntWalk.i64_in _ (by omega)).trans (by omega)
  have gg := fun W => grow_any (n + m) W (by omega)
  rw [Int.natCast_add] at gg
  have G := Lib.hid gg
  clear gg
  clear hr hn hs hm
  go_enter Try.func16, Try.ntmps16
  go_wp2_with (fail)
  refine wp_loop_rounds 3 ?_
  rw [rounds_succ]
  go_wp2_with (fail)
  rw [rounds_succ]
  go_wp2_with (fail)
  rw [rounds_succ]
  go_wp2_with (fail)
  refine (G.out w).mono ?_
  rintro e w1 ⟨A1, c1, rfl, hO1⟩
  have HO1 := Lib.hid hO1
  have hb := hO1.2
  have HR1 := Lib.hid (HR.out.keep (Same.any hb))
  have q0 := (hb.cell (p := ⟨g, 0, none⟩) lg).trans h0
  have q1 := (hb.cell (p := ⟨g, 1, none⟩) lg).trans h1
  have lg1 : g < w1.heap.size := by have := hb.size; omega
  have hbs := hb.size
  clear hO1 hb h0 h1 HR G
  go_wp2_with (fail)
  refine wp_loop_rounds 3 ?_
  rw [rounds_succ]
  go_wp2_with (at_builtin; refine app_rg _ rfl (.tmp 31) (.tmp 32) rfl (n := 0) (xs := []) HO1.out.1 rfl HR1.out rfl (rgs_ones a) (by omega) (by omega) ?_; intro v2 w2 hown2 hg2 hat2; rw [Nat.zero_add, List.nil_append] at hown2; obtain ⟨A9, c9, rfl, _⟩ := own_form hown2; have hb2 := HO1.out.2.grown hg2 HO1.out.2.size (fun k hk => (HO1.out.1.lt k hk).1); have hne : some g ≠ (Value.slice A1 0 c1).ownBlock := fun e => (by have := (HO1.out.1.lt _ e.symm).1; omega); have q1' := hg2.cell q1 hne; have HO2 := Lib.hid hown2; have HS2 := Lib.hid (HS.out.keep (Same.any hb2)); have HB2 := Lib.hid hb2; have lg2 : g < w2.heap.size := lt_of_cell q1'; have hbs2 := hb2.size; clear hown2 hg2 hat2 hb2)
  rw [rounds_succ]
  go_wp2_with (at_builtin; refine app_rg _ rfl (.tmp 31) (.tmp 32) rfl HO2.out rfl HS2.out rfl (rgs_ones b) (by omega) (by omega) ?_; intro v3 w3 hown3 hg3 hat3; obtain ⟨A8, c8, rfl, _⟩ := own_form hown3; have HO3 := Lib.hid hown3; have HB3 := Lib.hid (HB2.out.grown hg3 HB2.out.size (fun k hk => (HO2.out.lt k hk).1)); clear hown3 hg3 hat3)
  rw [rounds_succ]
  go_wp2_with (fail)
  go_ret
  have hl : n + m = (a ++ b).length := by rw [List.length_append, Hn.out, Hm.out]
  have h4 := HO3.out
  rw [← rgs_append, hl] at h4
  exact ⟨A8, c8, by rw [← hl]; rfl, OwnR.holds ⟨h4, HB3.out⟩, HB3.out⟩
end Go.Proofs.Ytfndalfiojdhdaa
