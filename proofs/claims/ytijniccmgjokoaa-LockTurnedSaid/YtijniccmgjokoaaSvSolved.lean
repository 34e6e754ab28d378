/- Contract of the laws' solved: a closed fact. -/
import Derived.Test.YtijniccmgjokoaaSvBest
set_option linter.unusedVariables false
namespace Go.Proofs.Ytijniccmgjokoaa
open Go.RowKit Go.Mem Go.Sv Go.Maps
def msS : List Md := [⟨[97], 1, []⟩, ⟨[97], 2, [⟨[98], 1, 9⟩]⟩, ⟨[98], 3, []⟩]
def rtS : List Us := [⟨[97], 1, 9⟩]
theorem solved_law : bestF msS rtS [] = some [([97], 2), ([98], 3)] := by
  have t1 : completeF msS [] rtS 31 [] = some [⟨[97], 2, [⟨[98], 1, 9⟩]⟩, ⟨[98], 3, []⟩] := by decide +kernel
  have t2 : sorted [[97], [98]] = [[97], [98]] := List.mergeSort_of_pairwise (by simp; decide)
  unfold bestF
  rw [t1]
  simp only [Option.map_some, picksF, List.map_cons, List.map_nil]
  rw [t2]
  decide +kernel
theorem msS_ok : MsOk msS := by
  have ha : Letter [97] := ⟨97, rfl, by decide, by decide⟩
  have hb : Letter [98] := ⟨98, rfl, by decide, by decide⟩
  refine ⟨?_, ?_, ?_, ?_, by decide⟩
  · intro m hm
    simp [msS] at hm
    rcases hm with rfl | rfl | rfl
    · exact ha
    · exact ha
    · exact hb
  · intro m hm
    simp [msS] at hm
    rcases hm with rfl | rfl | rfl <;> simp
  · intro m hm
    simp [msS] at hm
    rcases hm with rfl | rfl | rfl
    · simp
    · refine ⟨by simp, fun u hu => ?_⟩
      simp at hu
      subst hu
      exact ⟨hb, by simp, by simp, by simp⟩
    · simp
  · unfold msS
    simp only [List.pairwise_cons, List.mem_cons, List.not_mem_nil, or_false, forall_eq_or_imp, forall_eq, List.Pairwise.nil, and_true, false_implies, implies_true]
    refine ⟨⟨.inr ⟨rfl, by simp⟩, .inl (by decide)⟩, .inl (by decide)⟩
theorem rtS_ok : ∀ u ∈ rtS, UsOk u := by
  intro u hu
  simp [rtS] at hu
  subst hu
  exact ⟨⟨97, rfl, by decide, by decide⟩, by simp, by simp, by simp⟩
def cellsS (g : Nat) : List (List Value) := [[str [97], .int .i64 ((1 : Nat) : Int), .slice none 0 0], [str [97], .int .i64 ((2 : Nat) : Int), .slice (some ⟨g, 0, none⟩) 1 1], [str [98], .int .i64 ((3 : Nat) : Int), .slice none 0 0]]
theorem mdsS (w : World) : MdsAt ((w.alloc (.cells (usc ⟨[98], 1, 9⟩).toArray 47)).alloc (.cells (cellsS w.heap.size).flatten.toArray 45)) Any (some ⟨w.heap.size + 1, 0, none⟩) 3 3 msS := by
  have r1 : Reads ((w.alloc (.cells (usc ⟨[98], 1, 9⟩).toArray 47)).alloc (.cells (cellsS w.heap.size).flatten.toArray 45)) Any 3 (some ⟨w.heap.size, 0, none⟩) 1 (uss [⟨[98], 1, 9⟩]) :=
    (Reads.new w (usc ⟨[98], 1, 9⟩) 3 1 47 Any trivial rfl).keep (Same.alloc _ _ _)
  have r2 := Reads.new (w.alloc (.cells (usc ⟨[98], 1, 9⟩).toArray 47)) (cellsS w.heap.size).flatten 3 3 45 Any trivial rfl
  rw [show (w.alloc (.cells (usc ⟨[98], 1, 9⟩).toArray 47)).heap.size = w.heap.size + 1 by simp] at r2
  refine ⟨cellsS w.heap.size, rfl, Nat.le_refl _, by unfold maxLen; omega, r2, ?_⟩
  exact All2.cons_mk ⟨none, 0, 0, rfl, rfl, Nat.le_refl _, Nat.zero_le _, Reads.empty⟩ (All2.cons_mk ⟨_, 1, 1, rfl, rfl, Nat.le_refl _, by unfold maxLen; omega, r1⟩ (All2.cons_mk ⟨none, 0, 0, rfl, rfl, Nat.le_refl _, Nat.zero_le _, Reads.empty⟩ All2.nil))
set_option maxRecDepth 100000 in
set_option maxHeartbeats 1000000 in
theorem solved_any (w : World) : Calls Try.prog 16 #[] w fun e w' => e = .returned (.bool true) ∧ Below w.heap.size w w' := by
  obtain ⟨W, hW⟩ : ∃ W, W = ((w.alloc (.cells (usc ⟨[98], 1, 9⟩).toArray 47)).alloc (.cells (cellsS w.heap.size).flatten.toArray 45)).alloc (.cells (usc ⟨[97], 1, 9⟩).toArray 47) := ⟨_, rfl⟩
  have hbW : Below w.heap.size w W := by rw [hW]; exact (((Below.refl _ _).alloc (Nat.le_refl _) _).alloc (by simp) _).alloc (by simp; omega) _
  have B := best_any W (some ⟨w.heap.size + 1, 0, none⟩) 3 3 msS (some ⟨w.heap.size + 1 + 1, 0, none⟩) 1 1 rtS none 0 0 [] (by rw [hW]; exact (mdsS w).keep (Same.alloc _ _ _)) msS_ok (by
    rw [hW]
    have := Reads.new ((w.alloc (.cells (usc ⟨[98], 1, 9⟩).toArray 47)).alloc (.cells (cellsS w.heap.size).flatten.toArray 45)) (usc ⟨[97], 1, 9⟩) 3 1 47 Any trivial rfl
    have e : uss rtS = usc ⟨[97], 1, 9⟩ := rfl
    rw [e]
    simpa using this) rfl (Nat.le_refl _) (by unfold maxLen; omega) (by omega) rtS_ok Reads.empty rfl (by omega)
  rw [solved_law] at B
  unfold BestPost at B
  have HB := Lib.hid B
  have HBW := Lib.hid hbW
  clear B hbW
  go_enter Try.func16, Try.ntmps16
  go_wp2_with (fail)
  have HBx := HB.out
  have hbw := HBW.out
  rw [hW] at HBx hbw
  clear HB HBW hW
  refine HBx.mono ?_
  rintro e w2 ⟨hb2, _, hs⟩
  obtain ⟨A, c, rfl, h1, h2, hr⟩ := hs _ rfl
  have HB2 := Lib.hid (hbw.trans (hb2.mono hbw.size))
  have EQ := Lib.hid (equal_pks A (some ⟨w2.heap.size, 0, none⟩) 2 c 2 [([97], 2), ([98], 3)] (w2.alloc (.cells (pks [([97], 2), ([98], 3)]).toArray 27)) ((hr.imp (by omega) fun _ _ _ => trivial).keep (Same.alloc _ _ _)) (Reads.new w2 (pks [([97], 2), ([98], 3)]) 2 2 27 Any trivial rfl) (by omega) rfl)
  clear HBx hbw hb2 hs h1 h2 hr
  go_wp2_with (fail)
  refine EQ.out.mono ?_
  rintro e w3 ⟨rfl, hb3⟩
  go_wp2_with (fail)
  go_ret
  exact ⟨rfl, HB2.out.trans (Below.mono ((Below.alloc (Below.refl _ _) (Nat.le_refl _) _).trans (hb3.mono (by simp))) HB2.out.size)⟩
end Go.Proofs.Ytijniccmgjokoaa
