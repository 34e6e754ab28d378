/- Contract of the laws' closed fact moved. -/
import Derived.Test.YtckkelppdeampaaHarbRun
import Derived.Test.YtckkelppdeampaaGots
import Derived.Deep.RegionHeld3
import Derived.Outline
set_option linter.unusedVariables false
namespace Go.Proofs.Ytckkelppdeampaa
open Go.RowKit Go.Mem Go.Mv Go.Maps
def dsV : List Dv := [⟨1, 2, 0, 0, 7⟩, ⟨2, 0, 2, 0, 0⟩, ⟨3, 2, 1, 0, 0⟩, ⟨3, 1, 2, 0, 0⟩, ⟨3, 1, 2, 0, 0⟩, ⟨3, 1, 2, 0, 0⟩]
theorem gotV : (runF (newF 2 [1]) dsV).got = [[(2, 7)]] := by decide +kernel
theorem atV : (runF (newF 2 [1]) dsV).at_ = [2] := by decide +kernel
theorem blk_readsV {w : World} {g : Nat} {t : TypeId} {cs : List Value} (h : Blk w g t cs) (size n : Nat) (hl : cs.length = n * size) : Reads w Any size (some ⟨g, 0, none⟩) n cs :=
  ⟨hl, fun _ => ⟨g, 0, rfl, trivial, fun j u hu => by rw [Nat.zero_add, h.cell]; exact hu⟩⟩
theorem own_reads2 {w : World} {col : Nat → Mc} {c : Mc} {n : Nat} {v : Value} {xs : List Value} (h : RowAt w col c 62 2 n v xs) : ∃ A cp, v = .slice A n cp ∧ n ≤ cp ∧ cp ≤ maxLen ∧ Reads w Any 2 A n xs := by
  obtain ⟨A, cp, e, h1, h2, hr⟩ := h.1.reads
  exact ⟨A, cp, e, h1, h2, hr.imp (by omega) fun _ _ _ => trivial⟩
set_option maxRecDepth 100000 in
set_option maxHeartbeats 4000000 in
theorem moved_any (w : World) : Calls Try.prog 7 #[] w fun e w' => e = .returned (.bool true) ∧ Below w.heap.size w w' := by
  go_enter Try.func7, Try.ntmps7
  go_wp2_with (fail)
  obtain ⟨W, hW⟩ : ∃ W, W = (w.alloc (.cells #[.int .i64 1] 3)).alloc (.cells #[.int .i64 1, .int .i64 2, .int .i64 0, .int .i64 0, .int .i64 7, .int .i64 2, .int .i64 0, .int .i64 2, .int .i64 0, .int .i64 0, .int .i64 3, .int .i64 2, .int .i64 1, .int .i64 0, .int .i64 0, .int .i64 3, .int .i64 1, .int .i64 2, .int .i64 0, .int .i64 0, .int .i64 3, .int .i64 1, .int .i64 2, .int .i64 0, .int .i64 0, .int .i64 3, .int .i64 1, .int .i64 2, .int .i64 0, .int .i64 0] 35) := ⟨_, rfl⟩
  have hC : Reads W Any 1 (some ⟨w.heap.size, 0, none⟩) 1 (natv [1]) := by
    rw [hW]
    exact blk_readsV ((Blk.new w 3 [.int .i64 1]).alloc _) 1 1 rfl
  have hD : Reads W Any 5 (some ⟨w.heap.size + 1, 0, none⟩) 6 (dvcs dsV) := by
    rw [hW]
    have := Blk.new (w.alloc (.cells #[.int .i64 1] 3)) 35 (dvcs dsV)
    rw [show (w.alloc (.cells #[.int .i64 1] 3)).heap.size = w.heap.size + 1 by simp] at this
    exact blk_readsV this 5 6 rfl
  have hbW : Below w.heap.size w W := by rw [hW]; exact ((Below.refl _ _).alloc (Nat.le_refl _) _).alloc (by simp) _
  rw [← hW]
  have HBW := Lib.hid hbW
  clear hW hbW
  refine (mvrun_any W 2 [1] (some ⟨w.heap.size, 0, none⟩) 1 1 (some ⟨w.heap.size + 1, 0, none⟩) 6 6 dsV ⟨by omega, by omega⟩ rfl (by omega) (by omega) (by intro x hx; simp at hx; omega) hC rfl (by omega) hD (by intro d hd; simp [dsV] at hd; rcases hd with rfl | rfl | rfl | rfl <;> simp [DOk])).mono ?_
  rintro e w1 ⟨col, m, B, ways, waits, K, rfl, hh, hB, hb1, -⟩
  have hg0 := hh.eG 0 [(2, 7)] (by rw [gotV]; rfl)
  obtain ⟨v0, hv0, hrow⟩ := hg0
  obtain ⟨A0, c0, rfl, _, _, hrd⟩ := own_reads2 hrow
  have gg := (hh.hG.cell 0).trans hv0
  have ga := hh.at_cell (x := 0) (by rw [atV]; simp)
  rw [atV] at ga
  rw [gotV, atV]
  simp only [List.length_cons, List.length_nil, Nat.zero_add, List.getD_cons_zero] at ga gg hrd ⊢
  have lG := hh.hG.lt
  have lA := hh.hA.lt
  have HB1 := Lib.hid (HBW.out.trans (hb1.mono HBW.out.size))
  have HRD := Lib.hid hrd
  clear hC hD HBW hh hB hb1 hv0 hrow hrd
  go_wp2_with (fail)
  obtain ⟨W2, hW2⟩ : ∃ W, W = w1.alloc (.cells #[.slice (some ⟨m.GT, 0, none⟩) 1 m.cG, .slice (some ⟨m.AT, 0, none⟩) 1 m.cA, .int .i64 (ways : Nat), .int .i64 (waits : Nat)] 28) := ⟨_, rfl⟩
  rw [← hW2]
  have hS : Blk W2 w1.heap.size 28 [.slice (some ⟨m.GT, 0, none⟩) 1 m.cG, .slice (some ⟨m.AT, 0, none⟩) 1 m.cA, .int .i64 (ways : Nat), .int .i64 (waits : Nat)] := by rw [hW2]; exact Blk.new w1 _ _
  have hb2 : Below w1.heap.size w1 W2 := by rw [hW2]; exact (Below.refl _ _).alloc (Nat.le_refl _) _
  have hz2 : W2.heap.size = w1.heap.size + 1 := by rw [hW2]; simp
  clear hW2
  rw [← hz2]
  have hb3 : Below W2.heap.size W2 (W2.alloc (.cells #[.int .i64 2, .int .i64 7] 62)) := (Below.refl _ _).alloc (Nat.le_refl _) _
  refine (equal_gots A0 (some ⟨W2.heap.size, 0, none⟩) 1 c0 1 [(2, 7)] Any Any _ (HRD.out.keep (Same.any (hb2.trans (hb3.mono hb2.size)))) (blk_readsV (Blk.new W2 62 [.int .i64 2, .int .i64 7]) 2 1 rfl) (by omega) rfl).mono ?_
  rintro e w3 ⟨rfl, hq3⟩
  have hB3 : Below W2.heap.size W2 w3 := hb3.trans (hq3.mono hb3.size)
  have hS3 := hS.below hB3 hS.lt
  have hw13 : Below w1.heap.size w1 w3 := hb2.trans (hB3.mono hb2.size)
  have s0 := hS3.cell 0
  have s1 := hS3.cell 1
  simp only [List.getElem?_cons_zero, List.getElem?_cons_succ] at s0 s1
  have lS := hS3.lt
  have ga3 := (hw13.cell (p := ⟨m.AT, 0, none⟩) lA).trans ga
  have lA3 : m.AT < w3.heap.size := by have := hw13.size; omega
  have HF := Lib.hid (HB1.out.trans (hw13.mono HB1.out.size))
  clear hq3 hB3 hS3 hb3 hb2 hw13 hS gg ga lG lA hz2
  dsimp only
  go_wp2_with (fail)
  go_ret
  exact ⟨rfl, HF.out⟩
end Go.Proofs.Ytckkelppdeampaa
