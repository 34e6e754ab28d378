/- Contracts of slices.Grow of nil and slices.Concat of three at pieces. -/
import Derived.Test.YtdbpgofabbpadaaLyDel
import Derived.Lib.AppendZerosOnto
import Derived.Lib.Walk
set_option linter.unusedVariables false
namespace Go.Proofs.Ytdbpgofabbpadaa
open Go.RowKit Go.Mem Go.Ly
set_option maxRecDepth 100000 in
set_option maxHeartbeats 1000000 in
theorem grow_any (n : Nat) (w : World) (hn0 : 0 < n) (hn : n ≤ 1000) :
    Calls Try.prog 13 #[.slice none 0 0, .int .i64 (n : Nat)] w fun e w' => ∃ A c, e = .returned (.slice A 0 c) ∧ OwnD w w' [] A c := by
  obtain ⟨i0, hi0, hz0, hz1, hz2⟩ := info_of info_pc
  have hrz : ∀ ty, (Builtin.append_ #[23, 3] ty #[.slice none 0 0, .int .i64 (n : Nat)]).run Try.prog w = .ok (.slice (some ⟨w.heap.size, 0, none⟩) n (grownCap w n 0 26))
      (w.drew.alloc (.cells (#[] ++ Builtin.zeroCells (Value.agg #[.int .i64 0, .int .i64 0, .string ⟨#[]⟩]).cells n ++ Builtin.zeroCells (Value.agg #[.int .i64 0, .int .i64 0, .string ⟨#[]⟩]).cells (grownCap w n 0 26 - n)) 26)) := fun ty => by
    have h := Lib.run_append_grow_zeros w 23 3 ty 26 i0 _ .i64 .i64 Try.underlying23 Try.underlying3 hi0 hz0 none 0 0 [] (by exact run_firstCells_none w.drew i0.size 0 0 0) n (by omega) (by omega) (by omega) (by omega) (by rw [hz2]; omega) (growslice_fits (by omega) (by rw [hz2]; omega))
    simpa using h
  have hGn := grownCap_ge w n 0 26
  have hGm := grownCap_le_maxLen w n 0 26 (by unfold maxLen; omega)
  generalize grownCap w n 0 26 = G at hrz hGn hGm
  have hG63 : G ≤ 9223372036854775807 := by unfold maxLen at hGm; omega
  go_enter Try.func13, Try.ntmps13
  go_wp2_with (at_builtin; refine Lib.wpList_append_run _ rfl _ _ _ _ rfl _ _ rfl rfl _ _ (hrz _) ?_)
  all_goals go_ret
  refine ⟨_, _, rfl, ⟨rfl, .inr ⟨w.heap.size, G, _, rfl, Nat.le_refl _, heap_alloc_new _ _, Nat.zero_le _, hGm, ?_, rfl⟩⟩, ?_⟩
  · rw [Array.size_append, size_zeroCells, size_zeroCells]
    simp only [List.size_toArray, List.length_cons, List.length_nil]
    omega
  · exact ⟨rfl, rfl, rfl, by simp [World.drew], fun b hb => Below.heap_alloc w _ b hb⟩
set_option maxRecDepth 100000 in
set_option maxHeartbeats 2000000 in
theorem concat_any (g : Nat) (A B C : Option Addr) (n c m e k f : Nat) (a b z : List Pc) (w : World) (h0 : w.cell? ⟨g, 0, none⟩ = some (.slice A n c)) (h1 : w.cell? ⟨g, 1, none⟩ = some (.slice B m e)) (h2 : w.cell? ⟨g, 2, none⟩ = some (.slice C k f)) (lg : g < w.heap.size) (hr : DocAt w Any A n c a) (hs : DocAt w Any B m e b) (hz : DocAt w Any C k f z) (hpos : 0 < n) (h50 : n + m + k ≤ 100) :
    Calls Try.prog 7 #[.slice (some ⟨g, 0, none⟩) 3 3] w fun e w' => ∃ A c, e = .returned (.slice A (a ++ b ++ z).length c) ∧ DocAt w' Any A (a ++ b ++ z).length c (a ++ b ++ z) ∧ Below w.heap.size w w' := by
  have HR := Lib.hid hr
  have HS := Lib.hid hs
  have HZ := Lib.hid hz
  have w1 : IntKind.i64.wrap ((n : Int) + (m : Int)) = (n : Int) + (m : Int) := IntWalk.i64_in _ (by omega)
  have w2 : IntKind.i64.wrap ((n : Int) + (m : Int) + (k : Int)) = (n : Int) + (m : Int) + (k : Int) := IntWalk.i64_in _ (by omega)
  have gg := fun W => grow_any (n + m + k) W (by omega) (by omega)
  rw [Int.natCast_add, Int.natCast_add] at gg
  have G := Lib.hid gg
  clear gg hr hs hz
  go_enter Try.func7, Try.ntmps7
  go_wp2_with (fail)
  refine wp_loop_rounds 4 ?_
  rw [rounds_succ]
  go_wp2_with (fail)
  rw [rounds_succ]
  go_wp2_with (fail)
  rw [rounds_succ]
  go_wp2_with (fail)
  rw [rounds_succ]
  go_wp2_with (fail)
  refine (G.out w).mono ?_
  rintro e w1 ⟨A1, c1, rfl, hO1⟩
  have HO1 := Lib.hid hO1
  have hb := hO1.2
  have HR1 := Lib.hid (HR.out.keep (Same.any hb))
  have q0 := (hb.cell (p := ⟨g, 0, none⟩) lg).trans h0
  have q1 := (hb.cell (p := ⟨g, 1, none⟩) lg).trans h1
  have q2 := (hb.cell (p := ⟨g, 2, none⟩) lg).trans h2
  have lg1 : g < w1.heap.size := by have := hb.size; omega
  have hbs := hb.size
  clear hO1 hb h0 h1 h2 HR G
  go_wp2_with (fail)
  refine wp_loop_rounds 4 ?_
  rw [rounds_succ]
  go_wp2_with (at_builtin; refine app_pc _ rfl (.tmp 31) (.tmp 32) rfl (n := 0) (xs := []) HO1.out.1 rfl HR1.out.2.2.2.2 rfl (pcs_ones a) (by omega) (by omega) ?_; intro v2 w2 hown2 hg2 hat2; rw [Nat.zero_add, List.nil_append] at hown2; obtain ⟨A9, c9, rfl, _⟩ := own_form hown2; have hb2 := HO1.out.2.grown hg2 HO1.out.2.size (fun k hk => (HO1.out.1.lt k hk).1); have hne : some g ≠ (Value.slice A1 0 c1).ownBlock := fun e => (by have := (HO1.out.1.lt _ e.symm).1; omega); have q1' := hg2.cell q1 hne; have q2' := hg2.cell q2 hne; have HO2 := Lib.hid hown2; have HS2 := Lib.hid (HS.out.keep (Same.any hb2)); have HB2 := Lib.hid hb2; have lg2 : g < w2.heap.size := lt_of_cell q1'; have hbs2 := hb2.size; clear hown2 hg2 hat2 hb2)
  rw [rounds_succ]
  go_wp2_with (at_builtin; refine app_pc _ rfl (.tmp 31) (.tmp 32) rfl HO2.out rfl HS2.out.2.2.2.2 rfl (pcs_ones b) (by omega) (by omega) ?_; intro v3 w3 hown3 hg3 hat3; obtain ⟨A8, c8, rfl, _⟩ := own_form hown3; have hb3 := HB2.out.grown hg3 HB2.out.size (fun k hk => (HO2.out.lt k hk).1); have hne3 : some g ≠ (Value.slice A9 n c9).ownBlock := fun e => (by have := (HO2.out.lt _ e.symm).1; omega); have q2'' := hg3.cell q2' hne3; have HO3 := Lib.hid hown3; have HZ3 := Lib.hid (HZ.out.keep (Same.any hb3)); have HB3 := Lib.hid hb3; have lg3 : g < w3.heap.size := lt_of_cell q2''; have hbs3 := hb3.size; clear hown3 hg3 hat3 hb3)
  rw [rounds_succ]
  go_wp2_with (at_builtin; refine app_pc _ rfl (.tmp 31) (.tmp 32) rfl HO3.out rfl HZ3.out.2.2.2.2 rfl (pcs_ones z) (by omega) (by omega) ?_; intro v4 w4 hown4 hg4 hat4; obtain ⟨A7, c7, rfl, _⟩ := own_form hown4; have HO4 := Lib.hid hown4; have HB4 := Lib.hid (HB3.out.grown hg4 HB3.out.size (fun k hk => (HO3.out.lt k hk).1)); clear hown4 hg4 hat4)
  rw [rounds_succ]
  go_wp2_with (fail)
  go_ret
  have hl : n + m + k = (a ++ b ++ z).length := by rw [List.length_append, List.length_append, HR1.out.1, HS.out.1, HZ.out.1]
  have h4 := HO4.out
  rw [← pcs_app, ← pcs_app, hl] at h4
  obtain ⟨o1, o2, o3⟩ := own_reads (by omega) h4
  exact ⟨A7, c7, by rw [← hl]; rfl, ⟨rfl, o1, o2, by omega, o3.imp (by omega) fun _ _ _ => trivial⟩, HB4.out⟩
end Go.Proofs.Ytdbpgofabbpadaa
