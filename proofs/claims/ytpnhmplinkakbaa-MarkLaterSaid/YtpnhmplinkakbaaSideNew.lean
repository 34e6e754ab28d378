/- Contract of mark.New at two peers. -/
import Derived.Test.YtpnhmplinkakbaaSide3
import Derived.Deep.RegionWith
import Derived.Test.YtpnhmplinkakbaaSlice
set_option linter.unusedVariables false
namespace Go.Proofs.Ytpnhmplinkakbaa
open Go.RowKit Go.Mem

def NewPost (w : World) (p q : Int) (e : Ending) (w' : World) : Prop :=
  ∃ S, e = .returned (.tuple #[.pointer (some ⟨S, 0, none⟩), .int .i64 0]) ∧ Side w' S (fun b => w.heap.size ≤ b) ⟨[p, q], false, 0, [false, false], [[], []]⟩ ∧ Below w.heap.size w w'

theorem own_low {w : World} {base base' : Nat} {e : TypeId} {size n : Nat} {v : Value} {xs : List Value} (h : w.ownsRow base e size v n xs) (hb : base' ≤ base) : w.ownsRow base' e size v n xs := by
  refine ⟨h.1, ?_⟩
  rcases h.2 with hn | ⟨g, cap, cur, rfl, hb2, rest⟩
  · exact .inl hn
  · exact .inr ⟨g, cap, cur, rfl, by omega, rest⟩
theorem below2 {w w1 : World} (h : Below w.heap.size w w1) (o1 o2 : Obj) : Below w.heap.size w ((w1.alloc o1).alloc o2) := (h.alloc h.size o1).alloc (by have := h.size; simp; omega) o2
theorem blk2 (w1 : World) (o : Obj) (t : TypeId) (cs : List Value) : Blk ((w1.alloc o).alloc (.cells cs.toArray t)) (w1.heap.size + 1) t cs := by simpa using Blk.new (w1.alloc o) t cs
theorem new_end {w X : World} {p q : Int} {M Y B : Nat} {A1 : Option Addr} {c1 : Nat} (hM : Blk X M 4 [.bool false, .bool false]) (hY : Blk X Y 22 [.slice none 0 0, .slice none 0 0]) (ho : X.ownsRow B 3 1 (.slice A1 2 c1) 2 (nums [p, q])) (hB : w.heap.size ≤ B) (hb : Below w.heap.size w X) (hMw : w.heap.size ≤ M) (hYw : w.heap.size ≤ Y) (S : Nat) (hSX : S = X.heap.size) :
    NewPost w p q (.returned (.tuple #[.pointer (some ⟨S, 0, none⟩), .int .i64 0])) (X.alloc (.cells #[.slice A1 2 c1, .bool false, .int .i64 0, .slice (some ⟨M, 0, none⟩) 2 2, .slice (some ⟨Y, 0, none⟩) 2 2] 73)) := by
  subst hSX
  obtain ⟨A', c', e, h1, h2, hr⟩ := Reads.of_own ho
  injection e with e1 e2 e3
  subst e1 e3
  have hlt := ho.lt
  have hnM := own_ne ho hM (by decide)
  have hnY := own_ne ho hY (by decide)
  have hrW := (hr.imp (D' := fun b => w.heap.size ≤ b ∧ b ≠ X.heap.size ∧ b ≠ M ∧ b ≠ Y ∧ ∀ (i : Nat) v, [Value.slice none 0 0, .slice none 0 0][i]? = some v → v.ownBlock ≠ some b) (by omega) fun b hb' hl => ⟨by have := (hlt b hb').1; omega, by omega, fun e => hnM (e ▸ hb'), fun e => hnY (e ▸ hb'), fun i v hv => by
    match i, hv with
    | 0, hv => simp at hv; subst hv; simp [Value.ownBlock]
    | 1, hv => simp at hv; subst hv; simp [Value.ownBlock]
    | i + 2, hv => simp at hv⟩).keep (Same.alloc _ X (.cells #[.slice A1 2 c1, .bool false, .int .i64 0, .slice (some ⟨M, 0, none⟩) 2 2, .slice (some ⟨Y, 0, none⟩) 2 2] 73))
  refine ⟨X.heap.size, rfl, ⟨A1, c1, M, Y, [.slice none 0 0, .slice none 0 0], Blk.new X _ _, hrW, by simp, hM.alloc _, hY.alloc _, rfl, rfl, hb.size, hMw, hYw, ⟨rfl, fun i v l hv hl => ?_, fun i j v v' hij hv hv' => ?_⟩, ?_⟩, hb.alloc hb.size _⟩
  · match i, hv, hl with
    | 0, hv, hl => simp at hv hl; subst hv hl; exact ⟨World.ownsRow_nil _ _ _ _, fun b hb => by simp [Value.ownBlock] at hb⟩
    | 1, hv, hl => simp at hv hl; subst hv hl; exact ⟨World.ownsRow_nil _ _ _ _, fun b hb => by simp [Value.ownBlock] at hb⟩
    | i + 2, hv, _ => simp at hv
  · match i, hv with
    | 0, hv => simp at hv; subst hv; exact .inl rfl
    | 1, hv => simp at hv; subst hv; exact .inl rfl
    | i + 2, hv => simp at hv
  · intro l hl
    simp at hl
    subst hl
    simp
set_option maxRecDepth 100000 in
set_option maxHeartbeats 1000000 in
theorem new_two (w : World) (p q : Int) (hpq : p ≠ q) (b o c : Nat) (hc2 : 2 ≤ c) (hr : Reads w Any 1 (some ⟨b, o, none⟩) 2 (nums [p, q])) :
    Calls Try.prog 10 #[.slice (some ⟨b, o, none⟩) 2 c] w (NewPost w p q) := by
  have hm1 : ∀ w : World, (Instr.makeSlice 71 (.int .i64 2) (.int .i64 2)).run Try.prog w = .ok (.slice (some ⟨w.heap.size, 0, none⟩) 2 2) (w.alloc (.cells #[.bool false, .bool false] 4)) := fun _ => by kernel_rfl
  have hm2 : ∀ w : World, (Instr.makeSlice 30 (.int .i64 2) (.int .i64 2)).run Try.prog w = .ok (.slice (some ⟨w.heap.size, 0, none⟩) 2 2) (w.alloc (.cells #[.slice none 0 0, .slice none 0 0] 22)) := fun _ => by kernel_rfl
  obtain ⟨b', o', e, _, hc⟩ := hr.2 (by omega)
  injection e with e
  injection e with e1 e2
  subst e1 e2
  have c0 : w.cell? ⟨b, o, none⟩ = some (.int .i64 p) := hc 0 _ rfl
  have c1 : w.cell? ⟨b, o + 1, none⟩ = some (.int .i64 q) := hc 1 _ rfl
  obtain ⟨hs0, hr0⟩ := slice_h 22 3 Try.underlying22 size_int hr hc2 0 (by omega) 0 rfl
  obtain ⟨hs1, hr1⟩ := slice_h 22 3 Try.underlying22 size_int hr hc2 1 (by omega) 1 rfl
  have CT0 := Lib.hid (contains_ints (some ⟨b, o, none⟩) 0 c [] p Any w hr0 (by omega))
  have CT1 := Lib.hid (contains_ints (some ⟨b, o, none⟩) 1 c [p] q Any w hr1 (by omega))
  have CL := Lib.hid (fun w' (hb : Below w.heap.size w w') => clone_ints (some ⟨b, o, none⟩) 2 c [p, q] Any w' (hr.keep (Same.any hb)) (by omega))
  have Hpq := Lib.hid (show decide (q ∈ [p]) = false by simpa using fun h => hpq h.symm)
  clear hr0 hr1 hr hc hpq
  go_enter Try.func10, Try.ntmps10
  go_wp2_with (fail)
  go_loop [11] (fun v11 => ∃ k : Nat, k ≤ 2 ∧ v11 = .int .i64 k) (fun v11 => 2 - (intOf v11).toNat)
  case atStart => exact ⟨0, by omega, rfl⟩
  case round =>
    obtain ⟨k, hk, rfl⟩ := hrel
    rcases (by omega : k = 0 ∨ k = 1 ∨ k = 2) with rfl | rfl | rfl
    · go_wp2_with (fail)
      refine CT0.out.mono ?_
      rintro e w' ⟨rfl, rfl⟩
      go_wp2_with (fail)
      exact ⟨⟨1, by omega, rfl⟩, by simp [intOf]⟩
    · go_wp2_with (fail)
      refine CT1.out.mono ?_
      rintro e w' ⟨rfl, rfl⟩
      rw [Hpq.out]
      go_wp2_with (fail)
      exact ⟨⟨2, by omega, rfl⟩, by simp [intOf]⟩
    · clear hs0 hs1 CT0 CT1
      go_wp2_with (fail)
      go_region_with (first
        | (go_at_call 28; refine (CL.out _ ?_).mono ?_; (first | exact (Below.refl _ _).drew | exact ((Below.refl _ _).alloc (Nat.le_refl _) _).drew | exact (((Below.refl _ _).alloc (Nat.le_refl _) _).alloc (by simp) _).drew); rintro e w1 ⟨A1, c1, rfl, ho1, hb1⟩; have hb1' : Below w.heap.size w w1 := Below.trans (by first | exact (Below.refl _ _).drew | exact ((Below.refl _ _).alloc (Nat.le_refl _) _).drew | exact (((Below.refl _ _).alloc (Nat.le_refl _) _).alloc (by simp) _).drew) (hb1.mono (by simp <;> omega)); have ho1' := own_low ho1 (show w.heap.size ≤ _ by simp <;> omega)))
      all_goals go_wp2_with (fail)
      all_goals go_ret2
      · exact new_end (X := (w1.alloc (.cells #[.bool false, .bool false] 4)).alloc (.cells #[.slice none 0 0, .slice none 0 0] 22)) (B := w.heap.size) ((Blk.new w1 _ _).alloc _) (blk2 w1 _ _ _) ((ho1'.alloc _).alloc _) (Nat.le_refl _) (below2 hb1' _ _) hb1'.size (by have := hb1'.size; omega) _ (by simp)
      · exact new_end (X := (w1.alloc (.cells #[.slice none 0 0, .slice none 0 0] 22)).alloc (.cells #[.bool false, .bool false] 4)) (B := w.heap.size) (blk2 w1 _ _ _) ((Blk.new w1 _ _).alloc _) ((ho1'.alloc _).alloc _) (Nat.le_refl _) (below2 hb1' _ _) (by have := hb1'.size; omega) hb1'.size _ (by simp)
      · exact new_end (X := w1.alloc (.cells #[.slice none 0 0, .slice none 0 0] 22)) (B := w.heap.size) (Blk.alloc (Blk.below (by exact Blk.new w 4 [.bool false, .bool false]) hb1 (by simp)) _) (Blk.new w1 _ _) (ho1'.alloc _) (Nat.le_refl _) (hb1'.alloc hb1'.size _) (Nat.le_refl _) hb1'.size _ (by simp)
      · exact new_end (X := w1) (B := w.heap.size) (Blk.below (by exact (Blk.new w 4 [.bool false, .bool false]).alloc (.cells #[.slice none 0 0, .slice none 0 0] 22)) hb1 (by simp; omega)) (Blk.below (by exact blk2 w (.cells #[.bool false, .bool false] 4) 22 [.slice none 0 0, .slice none 0 0]) hb1 (by simp)) ho1' (Nat.le_refl _) hb1' (Nat.le_refl _) (by omega) _ rfl
      · exact new_end (X := w1.alloc (.cells #[.bool false, .bool false] 4)) (B := w.heap.size) (Blk.new w1 _ _) (Blk.alloc (Blk.below (by exact Blk.new w 22 [.slice none 0 0, .slice none 0 0]) hb1 (by simp)) _) (ho1'.alloc _) (Nat.le_refl _) (hb1'.alloc hb1'.size _) hb1'.size (Nat.le_refl _) _ (by simp)
      · exact new_end (X := w1) (B := w.heap.size) (Blk.below (by exact blk2 w (.cells #[.slice none 0 0, .slice none 0 0] 22) 4 [.bool false, .bool false]) hb1 (by simp)) (Blk.below (by exact (Blk.new w 22 [.slice none 0 0, .slice none 0 0]).alloc (.cells #[.bool false, .bool false] 4)) hb1 (by simp; omega)) ho1' (Nat.le_refl _) hb1' (by omega) (Nat.le_refl _) _ rfl
end Go.Proofs.Ytpnhmplinkakbaa
