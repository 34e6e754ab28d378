/- Contract of page.function at a function of the module. (Printed by qrfun.py.) -/
import Derived.Test.YtaealapgebbnlaaDoorQrSmall
import Derived.Deep.RegionHeld3
import Derived.Deep.CutBlock
set_option linter.unusedVariables false
namespace Go.Proofs.YtaealapgebbnlaaDoor
open Go.RowKit Go.Mem Go.Md
theorem below_next {a b c : World} (h : Below b.heap.size b c) (k : Below a.heap.size a b) : Below a.heap.size a c := k.trans (h.mono k.size)
set_option maxRecDepth 100000 in
set_option maxHeartbeats 2000000 in
theorem fun_any (n : Bs) (hn : n.length = 1) (N : ByteArray) (hN : N = ⟨n.toArray⟩) (k : Int) (tx : ByteArray) (A : Option Addr) (m c : Nat) (w : World) :
    Calls Tryd.prog 21 #[.agg #[.string N, .slice none 0 0, .slice none 0 0, .slice none 0 0, .int .i64 1, .string ⟨#[]⟩, .slice none 0 0, .int .i64 k, .int .i64 0, .string tx, .slice none 0 0, .slice none 0 0, .slice A m c, .slice none 0 0, .int .i64 0]] w fun e w' => e = .returned (.string ⟨(funL n).toArray⟩) ∧ Below w.heap.size w w' := by
  have hN9 : N.size = 1 := by rw [hN]; simpa [ByteArray.size] using hn
  have HF := Lib.hid (show ((((ByteArray.mk #[102, 117, 110, 32] ++ N) ++ ByteArray.mk #[]) ++ ByteArray.mk #[40, 41]) ++ ByteArray.mk #[58, 32]) ++ ByteArray.mk #[105, 110, 116] = ⟨(funL n).toArray⟩ from by
    rw [hN]
    apply ByteArray.ext
    simp [funL])
  obtain ⟨W, hW⟩ : ∃ W, W = w.alloc (.cells #[.string N, .slice none 0 0, .slice none 0 0, .slice none 0 0, .int .i64 1, .string ⟨#[]⟩, .slice none 0 0, .int .i64 k, .int .i64 0, .string tx, .slice none 0 0, .slice none 0 0, .slice A m c, .slice none 0 0, .int .i64 0] 42) := ⟨_, rfl⟩
  obtain ⟨B, hB⟩ : ∃ B, B = w.heap.size := ⟨_, rfl⟩
  have fB : Blk W B 42 [.string N, .slice none 0 0, .slice none 0 0, .slice none 0 0, .int .i64 1, .string ⟨#[]⟩, .slice none 0 0, .int .i64 k, .int .i64 0, .string tx, .slice none 0 0, .slice none 0 0, .slice A m c, .slice none 0 0, .int .i64 0] := by rw [hW, hB]; exact Blk.new w _ _
  have HW := Lib.hid (show Below w.heap.size w W from by rw [hW]; exact (Below.refl _ _).alloc (Nat.le_refl _) _)
  have mk : ∀ w', Below W.heap.size W w' → (Below W.heap.size W w' ∧ w'.cell? ⟨B, 0, none⟩ = some (.string N) ∧ w'.cell? ⟨B, 1, none⟩ = some (.slice none 0 0) ∧ w'.cell? ⟨B, 2, none⟩ = some (.slice none 0 0) ∧ w'.cell? ⟨B, 3, none⟩ = some (.slice none 0 0) ∧ w'.cell? ⟨B, 4, none⟩ = some (.int .i64 1) ∧ w'.cell? ⟨B, 5, none⟩ = some (.string ⟨#[]⟩) ∧ w'.cell? ⟨B, 6, none⟩ = some (.slice none 0 0)) := fun w' hb => by
    refine ⟨hb, (hb.cell (p := ⟨B, 0, none⟩) fB.lt).trans (fB.cell 0), (hb.cell (p := ⟨B, 1, none⟩) fB.lt).trans (fB.cell 1), (hb.cell (p := ⟨B, 2, none⟩) fB.lt).trans (fB.cell 2), (hb.cell (p := ⟨B, 3, none⟩) fB.lt).trans (fB.cell 3), (hb.cell (p := ⟨B, 4, none⟩) fB.lt).trans (fB.cell 4), (hb.cell (p := ⟨B, 5, none⟩) fB.lt).trans (fB.cell 5), (hb.cell (p := ⟨B, 6, none⟩) fB.lt).trans (fB.cell 6)⟩
  have MK := Lib.hid mk
  clear mk
  have CP := Lib.hid (fun V => params_nil V)
  have CF := Lib.hid (fun V => fields_nil V)
  have CT := Lib.hid (fun V => typeInt_any V)
  clear hN fB
  go_enter Tryd.func21, Tryd.ntmps21
  go_upto_region 1 with (fail)
  rw [← hW, ← hB]
  clear hW hB
  obtain ⟨hbe0, z0, z1, z2, z3, z4, z5, z6⟩ := MK.out W (Below.refl _ _)
  have hbd : Below W.heap.size W W.drew := ⟨rfl, rfl, rfl, Nat.le_refl _, fun _ _ => rfl⟩
  go_region_held3 (fun w' => Below W.heap.size W w' ∧ w'.cell? ⟨B, 0, none⟩ = some (.string N) ∧ w'.cell? ⟨B, 1, none⟩ = some (.slice none 0 0) ∧ w'.cell? ⟨B, 2, none⟩ = some (.slice none 0 0) ∧ w'.cell? ⟨B, 3, none⟩ = some (.slice none 0 0) ∧ w'.cell? ⟨B, 4, none⟩ = some (.int .i64 1) ∧ w'.cell? ⟨B, 5, none⟩ = some (.string ⟨#[]⟩) ∧ w'.cell? ⟨B, 6, none⟩ = some (.slice none 0 0)) (exact MK.out _ (by assumption))
    (first
      | (go_at_call 34; (with_reducible refine (CP.out _).mono ?_); rintro e w' ⟨rfl, hbx⟩; have hbn : Below W.heap.size W w' := below_next hbx (by assumption); clear hbx)
      | (go_at_call 22; (with_reducible refine (CF.out _).mono ?_); rintro e w' ⟨rfl, hbx⟩; have hbn : Below W.heap.size W w' := below_next hbx (by assumption); clear hbx)
      | (go_at_call 23; (with_reducible refine (CT.out _).mono ?_); rintro e w' ⟨rfl, hbx⟩; have hbn : Below W.heap.size W w' := below_next hbx (by assumption); clear hbx))
  all_goals
    go_wp2_with (fail)
    go_ret
    exact ⟨by rw [← HF.out]; rfl, below_next (by assumption) HW.out⟩
end Go.Proofs.YtaealapgebbnlaaDoor
