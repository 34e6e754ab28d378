/- Contract of mark.New at any peers that differ. -/
import Derived.Test.YtpnhmplinkakbaaSideNew
set_option linter.unusedVariables false
namespace Go.Proofs.Ytpnhmplinkakbaa
open Go.RowKit Go.Mem

def NewPostN (w : World) (peers : List Int) (e : Ending) (w' : World) : Prop :=
  ∃ S, e = .returned (.tuple #[.pointer (some ⟨S, 0, none⟩), .int .i64 0]) ∧ Side w' S (fun b => w.heap.size ≤ b) ⟨peers, false, 0, List.replicate peers.length false, List.replicate peers.length []⟩ ∧ Below w.heap.size w w'
theorem flags_rep (n : Nat) : flags (List.replicate n false) = List.replicate n (.bool false) := by simp [flags]
theorem new_endN {w X : World} {peers : List Int} {M Y B n : Nat} {A1 : Option Addr} {c1 : Nat} (hn : n = peers.length) (hn8 : n ≤ 8) (hM : Blk X M 4 (List.replicate n (.bool false))) (hY : Blk X Y 22 (List.replicate n (.slice none 0 0))) (ho : X.ownsRow B 3 1 (.slice A1 n c1) n (nums peers)) (hB : w.heap.size ≤ B) (hb : Below w.heap.size w X) (hMw : w.heap.size ≤ M) (hYw : w.heap.size ≤ Y) (S : Nat) (hSX : S = X.heap.size) :
    NewPostN w peers (.returned (.tuple #[.pointer (some ⟨S, 0, none⟩), .int .i64 0])) (X.alloc (.cells #[.slice A1 n c1, .bool false, .int .i64 0, .slice (some ⟨M, 0, none⟩) n n, .slice (some ⟨Y, 0, none⟩) n n] 73)) := by
  subst hSX hn
  obtain ⟨A', c', e, h1, h2, hr⟩ := Reads.of_own ho
  injection e with e1 e2 e3
  subst e1 e3
  have hlt := ho.lt
  have hnM := own_ne ho hM (by decide)
  have hnY := own_ne ho hY (by decide)
  have hrep : ∀ (i : Nat) v, (List.replicate peers.length (Value.slice none 0 0))[i]? = some v → v = .slice none 0 0 := fun i v hv => by
    rw [List.getElem?_replicate] at hv
    split at hv
    · injection hv with hv; exact hv.symm
    · cases hv
  have hrW := (hr.imp (D' := fun b => w.heap.size ≤ b ∧ b ≠ X.heap.size ∧ b ≠ M ∧ b ≠ Y ∧ ∀ (i : Nat) v, (List.replicate peers.length (Value.slice none 0 0))[i]? = some v → v.ownBlock ≠ some b) (by omega) fun b hb' hl => ⟨by have := (hlt b hb').1; omega, by omega, fun e => hnM (e ▸ hb'), fun e => hnY (e ▸ hb'), fun i v hv => by
    rw [hrep i v hv]
    simp [Value.ownBlock]⟩).keep (Same.alloc _ X (.cells #[.slice A1 peers.length c1, .bool false, .int .i64 0, .slice (some ⟨M, 0, none⟩) peers.length peers.length, .slice (some ⟨Y, 0, none⟩) peers.length peers.length] 73))
  refine ⟨X.heap.size, rfl, ⟨A1, c1, M, Y, List.replicate peers.length (.slice none 0 0), Blk.new X _ _, hrW, hn8, by rw [flags_rep]; exact hM.alloc _, hY.alloc _, by simp, by simp, hb.size, hMw, hYw, ⟨by simp, fun i v l hv hl => ?_, fun i j v v' hij hv hv' => ?_⟩, ?_⟩, hb.alloc hb.size _⟩
  · rw [hrep i v hv]
    simp only [List.getElem?_replicate] at hl
    split at hl
    · injection hl with hl
      subst hl
      exact ⟨World.ownsRow_nil _ _ _ _, fun b hb => by simp [Value.ownBlock] at hb⟩
    · cases hl
  · rw [hrep i v hv]
    exact .inl rfl
  · intro l hl
    rw [(List.mem_replicate.1 hl).2]
    simp
set_option maxRecDepth 100000 in
theorem make_flags (n : Nat) (hn : n ≤ 7) : ∀ w : World, (Instr.makeSlice 71 (.int .i64 n) (.int .i64 n)).run Try.prog w = .ok (.slice (some ⟨w.heap.size, 0, none⟩) n n) (w.alloc (.cells (List.replicate n (.bool false)).toArray 4)) := by
  have h0 : ∀ w : World, (Instr.makeSlice 71 (.int .i64 0) (.int .i64 0)).run Try.prog w = .ok (.slice (some ⟨w.heap.size, 0, none⟩) 0 0) (w.alloc (.cells #[] 4)) := fun _ => by kernel_rfl
  have h1 : ∀ w : World, (Instr.makeSlice 71 (.int .i64 1) (.int .i64 1)).run Try.prog w = .ok (.slice (some ⟨w.heap.size, 0, none⟩) 1 1) (w.alloc (.cells #[.bool false] 4)) := fun _ => by kernel_rfl
  have h2 : ∀ w : World, (Instr.makeSlice 71 (.int .i64 2) (.int .i64 2)).run Try.prog w = .ok (.slice (some ⟨w.heap.size, 0, none⟩) 2 2) (w.alloc (.cells #[.bool false, .bool false] 4)) := fun _ => by kernel_rfl
  have h3 : ∀ w : World, (Instr.makeSlice 71 (.int .i64 3) (.int .i64 3)).run Try.prog w = .ok (.slice (some ⟨w.heap.size, 0, none⟩) 3 3) (w.alloc (.cells #[.bool false, .bool false, .bool false] 4)) := fun _ => by kernel_rfl
  have h4 : ∀ w : World, (Instr.makeSlice 71 (.int .i64 4) (.int .i64 4)).run Try.prog w = .ok (.slice (some ⟨w.heap.size, 0, none⟩) 4 4) (w.alloc (.cells #[.bool false, .bool false, .bool false, .bool false] 4)) := fun _ => by kernel_rfl
  have h5 : ∀ w : World, (Instr.makeSlice 71 (.int .i64 5) (.int .i64 5)).run Try.prog w = .ok (.slice (some ⟨w.heap.size, 0, none⟩) 5 5) (w.alloc (.cells #[.bool false, .bool false, .bool false, .bool false, .bool false] 4)) := fun _ => by kernel_rfl
  have h6 : ∀ w : World, (Instr.makeSlice 71 (.int .i64 6) (.int .i64 6)).run Try.prog w = .ok (.slice (some ⟨w.heap.size, 0, none⟩) 6 6) (w.alloc (.cells #[.bool false, .bool false, .bool false, .bool false, .bool false, .bool false] 4)) := fun _ => by kernel_rfl
  have h7 : ∀ w : World, (Instr.makeSlice 71 (.int .i64 7) (.int .i64 7)).run Try.prog w = .ok (.slice (some ⟨w.heap.size, 0, none⟩) 7 7) (w.alloc (.cells #[.bool false, .bool false, .bool false, .bool false, .bool false, .bool false, .bool false] 4)) := fun _ => by kernel_rfl
  match n, hn with
  | 0, _ => exact h0
  | 1, _ => exact h1
  | 2, _ => exact h2
  | 3, _ => exact h3
  | 4, _ => exact h4
  | 5, _ => exact h5
  | 6, _ => exact h6
  | 7, _ => exact h7
  | n + 8, hn => omega
set_option maxRecDepth 100000 in
theorem make_rows (n : Nat) (hn : n ≤ 7) : ∀ w : World, (Instr.makeSlice 30 (.int .i64 n) (.int .i64 n)).run Try.prog w = .ok (.slice (some ⟨w.heap.size, 0, none⟩) n n) (w.alloc (.cells (List.replicate n (.slice none 0 0)).toArray 22)) := by
  have h0 : ∀ w : World, (Instr.makeSlice 30 (.int .i64 0) (.int .i64 0)).run Try.prog w = .ok (.slice (some ⟨w.heap.size, 0, none⟩) 0 0) (w.alloc (.cells #[] 22)) := fun _ => by kernel_rfl
  have h1 : ∀ w : World, (Instr.makeSlice 30 (.int .i64 1) (.int .i64 1)).run Try.prog w = .ok (.slice (some ⟨w.heap.size, 0, none⟩) 1 1) (w.alloc (.cells #[.slice none 0 0] 22)) := fun _ => by kernel_rfl
  have h2 : ∀ w : World, (Instr.makeSlice 30 (.int .i64 2) (.int .i64 2)).run Try.prog w = .ok (.slice (some ⟨w.heap.size, 0, none⟩) 2 2) (w.alloc (.cells #[.slice none 0 0, .slice none 0 0] 22)) := fun _ => by kernel_rfl
  have h3 : ∀ w : World, (Instr.makeSlice 30 (.int .i64 3) (.int .i64 3)).run Try.prog w = .ok (.slice (some ⟨w.heap.size, 0, none⟩) 3 3) (w.alloc (.cells #[.slice none 0 0, .slice none 0 0, .slice none 0 0] 22)) := fun _ => by kernel_rfl
  have h4 : ∀ w : World, (Instr.makeSlice 30 (.int .i64 4) (.int .i64 4)).run Try.prog w = .ok (.slice (some ⟨w.heap.size, 0, none⟩) 4 4) (w.alloc (.cells #[.slice none 0 0, .slice none 0 0, .slice none 0 0, .slice none 0 0] 22)) := fun _ => by kernel_rfl
  have h5 : ∀ w : World, (Instr.makeSlice 30 (.int .i64 5) (.int .i64 5)).run Try.prog w = .ok (.slice (some ⟨w.heap.size, 0, none⟩) 5 5) (w.alloc (.cells #[.slice none 0 0, .slice none 0 0, .slice none 0 0, .slice none 0 0, .slice none 0 0] 22)) := fun _ => by kernel_rfl
  have h6 : ∀ w : World, (Instr.makeSlice 30 (.int .i64 6) (.int .i64 6)).run Try.prog w = .ok (.slice (some ⟨w.heap.size, 0, none⟩) 6 6) (w.alloc (.cells #[.slice none 0 0, .slice none 0 0, .slice none 0 0, .slice none 0 0, .slice none 0 0, .slice none 0 0] 22)) := fun _ => by kernel_rfl
  have h7 : ∀ w : World, (Instr.makeSlice 30 (.int .i64 7) (.int .i64 7)).run Try.prog w = .ok (.slice (some ⟨w.heap.size, 0, none⟩) 7 7) (w.alloc (.cells #[.slice none 0 0, .slice none 0 0, .slice none 0 0, .slice none 0 0, .slice none 0 0, .slice none 0 0, .slice none 0 0] 22)) := fun _ => by kernel_rfl
  match n, hn with
  | 0, _ => exact h0
  | 1, _ => exact h1
  | 2, _ => exact h2
  | 3, _ => exact h3
  | 4, _ => exact h4
  | 5, _ => exact h5
  | 6, _ => exact h6
  | 7, _ => exact h7
  | n + 8, hn => omega
theorem blk2' (w1 : World) (o : Obj) (t : TypeId) (cs : List Value) : Blk ((w1.alloc o).alloc (.cells cs.toArray t)) (w1.heap.size + 1) t cs := blk2 w1 o t cs

set_option maxRecDepth 100000 in
set_option maxHeartbeats 1000000 in
theorem new_any (w : World) (A : Option Addr) (n c : Nat) (peers : List Int) (hn : n = peers.length) (hn7 : n ≤ 7) (hnc : n ≤ c) (hd : peers.Nodup) (hr : Reads w Any 1 A n (nums peers)) :
    Calls Try.prog 10 #[.slice A n c] w (NewPostN w peers) := by
  have hm1 := make_flags n hn7
  have hm2 := make_rows n hn7
  have Hn := Lib.hid hn
  have SL := Lib.hid (fun (k : Nat) (hk : k ≤ n) => slice_h (P := Try.prog) (c := c) 22 3 Try.underlying22 size_int hr hnc k hk (k : Int) rfl)
  have CT := Lib.hid (fun (k : Nat) (hk : k ≤ n) (x : Int) => contains_ints A k c (peers.take k) x Any w (by
    have := (hr.first (m := k) hk)
    rw [Nat.mul_one, nums_take] at this
    exact this) (by omega))
  have CL := Lib.hid (fun w' (hb : Below w.heap.size w w') => clone_ints A n c peers Any w' (hr.keep (Same.any hb)) (by omega))
  have Hd := Lib.hid hd
  have Hr := Lib.hid hr
  generalize hF : List.replicate n (Value.bool false) = F at hm1
  generalize hZ : List.replicate n (Value.slice none 0 0) = Z at hm2
  have HF := Lib.hid hF
  have HZ := Lib.hid hZ
  clear hr hd hn hF hZ
  go_enter Try.func10, Try.ntmps10
  go_wp2_with (fail)
  go_loop [11] (fun v11 => ∃ k : Nat, k ≤ n ∧ v11 = .int .i64 k) (fun v11 => n - (intOf v11).toNat)
  case atStart => exact ⟨0, by omega, rfl⟩
  case round =>
    obtain ⟨k, hk, rfl⟩ := hrel
    by_cases hlt : k < n
    · obtain ⟨b, off, u0, rfl, _, hu, hc⟩ := Hr.out.at_ hlt
      have hkl : k < peers.length := by have := Hn.out; omega
      rw [nums_at peers k hkl] at hu
      injection hu with hu
      subst hu
      have hno : decide (peers[k] ∈ peers.take k) = false := by
        simp only [decide_eq_false_iff_not]
        intro hm
        obtain ⟨j, hj, e⟩ := List.mem_iff_getElem.1 hm
        simp only [List.length_take] at hj
        rw [List.getElem_take] at e
        have := (List.getElem_inj Hd.out).1 e
        omega
      have Hno := Lib.hid hno
      have hsl := (SL.out k hk).1
      have CTk := Lib.hid (CT.out k hk peers[k])
      generalize peers[k] = x at hc Hno CTk
      clear hno hm1 hm2
      go_wp2_with (fail)
      refine CTk.out.mono ?_
      rintro e w' ⟨rfl, rfl⟩
      rw [Hno.out]
      go_wp2_with (fail)
      exact ⟨⟨k + 1, by omega, by go_num⟩, by simp [intOf]; omega⟩
    · obtain rfl : k = n := by omega
      clear hlt SL CT
      go_wp2_with (fail)
      go_region_with (first
        | (go_at_call 28; refine (CL.out _ ?_).mono ?_; (first | exact (Below.refl _ _).drew | exact ((Below.refl _ _).alloc (Nat.le_refl _) _).drew | exact (((Below.refl _ _).alloc (Nat.le_refl _) _).alloc (by simp) _).drew); rintro e w1 ⟨A1, c1, rfl, ho1, hb1⟩; have hb1' : Below w.heap.size w w1 := Below.trans (by first | exact (Below.refl _ _).drew | exact ((Below.refl _ _).alloc (Nat.le_refl _) _).drew | exact (((Below.refl _ _).alloc (Nat.le_refl _) _).alloc (by simp) _).drew) (hb1.mono (by simp <;> omega)); have ho1' := own_low ho1 (show w.heap.size ≤ _ by simp <;> omega)))
      all_goals go_wp2_with (fail)
      all_goals go_ret2
      all_goals (have hF := HF.out; have hZ := HZ.out; subst hF hZ)
      · exact new_endN (X := (w1.alloc (.cells (List.replicate k (.bool false)).toArray 4)).alloc (.cells (List.replicate k (.slice none 0 0)).toArray 22)) (B := w.heap.size) Hn.out (by omega) ((Blk.new w1 _ _).alloc _) (blk2 w1 _ _ _) ((ho1'.alloc _).alloc _) (Nat.le_refl _) (below2 hb1' _ _) hb1'.size (by have := hb1'.size; omega) (w1.heap.size + 1 + 1) (by simp)
      · exact new_endN (X := (w1.alloc (.cells (List.replicate k (.slice none 0 0)).toArray 22)).alloc (.cells (List.replicate k (.bool false)).toArray 4)) (B := w.heap.size) Hn.out (by omega) (blk2 w1 _ _ _) ((Blk.new w1 _ _).alloc _) ((ho1'.alloc _).alloc _) (Nat.le_refl _) (below2 hb1' _ _) (by have := hb1'.size; omega) hb1'.size (w1.heap.size + 1 + 1) (by simp)
      · exact new_endN (X := w1.alloc (.cells (List.replicate k (.slice none 0 0)).toArray 22)) (B := w.heap.size) Hn.out (by omega) (Blk.alloc (Blk.below (by exact Blk.new w 4 (List.replicate k (.bool false))) hb1 (by simp)) _) (Blk.new w1 _ _) (ho1'.alloc _) (Nat.le_refl _) (hb1'.alloc hb1'.size _) (Nat.le_refl _) hb1'.size (w1.heap.size + 1) (by simp)
      · exact new_endN (X := w1) (B := w.heap.size) Hn.out (by omega) (Blk.below (by exact (Blk.new w 4 (List.replicate k (.bool false))).alloc (.cells (List.replicate k (.slice none 0 0)).toArray 22)) hb1 (by simp; omega)) (Blk.below (by exact blk2 w (.cells (List.replicate k (.bool false)).toArray 4) 22 (List.replicate k (.slice none 0 0))) hb1 (by simp)) ho1' (Nat.le_refl _) hb1' (Nat.le_refl _) (by omega) _ rfl
      · exact new_endN (X := w1.alloc (.cells (List.replicate k (.bool false)).toArray 4)) (B := w.heap.size) Hn.out (by omega) (Blk.new w1 _ _) (Blk.alloc (Blk.below (by exact Blk.new w 22 (List.replicate k (.slice none 0 0))) hb1 (by simp)) _) (ho1'.alloc _) (Nat.le_refl _) (hb1'.alloc hb1'.size _) hb1'.size (Nat.le_refl _) (w1.heap.size + 1) (by simp)
      · exact new_endN (X := w1) (B := w.heap.size) Hn.out (by omega) (Blk.below (by exact blk2 w (.cells (List.replicate k (.slice none 0 0)).toArray 22) 4 (List.replicate k (.bool false))) hb1 (by simp)) (Blk.below (by exact (Blk.new w 22 (List.replicate k (.slice none 0 0))).alloc (.cells (List.replicate k (.bool false)).toArray 4)) hb1 (by simp; omega)) ho1' (Nat.le_refl _) hb1' (by omega) (Nat.le_refl _) _ rfl
end Go.Proofs.Ytpnhmplinkakbaa
