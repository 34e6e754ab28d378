/- Contract of slices.IsSortedFunc at the sorted entries, with the law's comparison. (Printed by qrpsort.py.) -/
import Derived.Test.YtaealapgebbnlaaDoorPaShelf
import Derived.Test.YtaealapgebbnlaaDoorQrSort
import Derived.Test.YtaealapgebbnlaaDoorQrFun
import Derived.Test.YtaealapgebbnlaaDoorHeldG
import Derived.Test.YtaealapgebbnlaaDoorNumD
import Derived.Deep.LoopGhost
set_option linter.unusedVariables false
namespace Go.Proofs.YtaealapgebbnlaaDoor
open Go.RowKit Go.Mem Go.Md
theorem entry_le : ∀ i, i < 10 → (Lib.compareBytes [(allE[i + 1]?.getD default).ch] [(allE[i]?.getD default).ch] < 0) = False := by
  have h : ∀ i, i < 10 → decide (Lib.compareBytes [(allE[i + 1]?.getD default).ch] [(allE[i]?.getD default).ch] < 0) = false := by decide +kernel
  intro i hi
  simpa using h i hi
set_option maxRecDepth 100000 in
theorem nameCmp_any (a b : UInt8) (A B : ByteArray) (hA : A = ⟨[a].toArray⟩) (hB : B = ⟨[b].toArray⟩) (I1 L1 I2 L2 : ByteArray) (s1 s2 : Int) (w : World) :
    Calls Tryd.prog 10 #[.agg #[.string A, .int .i64 s1, .string I1, .string L1], .agg #[.string B, .int .i64 s2, .string I2, .string L2]] w fun e w' => e = .returned (.int .i64 (Lib.compareBytes [a] [b])) ∧ Below w.heap.size w w' := by
  have C := Lib.hid (fun (V : World) => Tryd.strings_Compare A B V)
  have e1 : A.data.toList = [a] := by rw [hA]
  have e2 : B.data.toList = [b] := by rw [hB]
  rw [e1, e2] at C
  clear hA hB e1 e2
  go_enter Tryd.func10, Tryd.ntmps10
  go_wp2_with (fail)
  refine (C.out _).mono ?_
  rintro e w1 ⟨rfl, rfl⟩
  go_wp2_with (fail)
  go_ret
  exact ⟨rfl, ((Below.refl _ _).alloc (Nat.le_refl _) _).alloc (by simp) _⟩
set_option maxRecDepth 100000 in
set_option maxHeartbeats 4000000 in
theorem isSortedF_any (D : Nat → Prop) (A : Option Addr) (c : Nat) (w : World) (hr : Reads w D 4 A 11 (ensC allE)) :
    Calls Tryd.prog 9 #[.slice A 11 c, .func (.func 10) #[] #[]] w fun e w' => e = .returned (.bool true) ∧ Below w.heap.size w w' := by
  have HR := Lib.hid hr
  clear hr
  go_enter Tryd.func9, Tryd.ntmps9
  go_wp2_with (fail)
  go_loopg [5] 10 (fun g v wr => v = .int .i64 (g : Int) ∧ g ≤ 10 ∧ Hid (Below w.heap.size w wr))
  case atStart => exact ⟨rfl, Nat.le_refl _, Below.refl _ _⟩
  case round =>
    obtain ⟨rfl, hg, HB⟩ := hrel
    by_cases h2 : gk = 0
    · subst h2
      go_wp2_with (fail)
      go_ret
      exact ⟨rfl, HB.out⟩
    · obtain ⟨i, hi⟩ : ∃ i, gk = i + 1 := ⟨gk - 1, by omega⟩
      have rd := HR.out.keep (Same.of_below HB.out fun _ _ h => h)
      obtain ⟨b, o, rfl, _, hc⟩ := rd.2 (by omega)
      have ce : ∀ (k : Nat) (hk : k < 11) (j : Nat), j < 4 → wr.cell? ⟨b, o + (k * 4 + j), none⟩ = (encE (allE[k]?.getD default))[j]? := fun k hk j hj => by
        have h1 := ensC_at allE k j hk hj
        rw [show allE[k]?.getD default = allE[k]'hk from by rw [List.getElem?_eq_getElem (show k < allE.length from hk)]; rfl]
        have h3 : j < (encE (allE[k]'hk)).length := hj
        rw [List.getElem?_eq_getElem h3] at h1 ⊢
        exact hc _ _ h1
      have x := ce i (by omega)
      have y := ce (i + 1) (by omega)
      have hle := entry_le i (by omega)
      generalize (allE[i]?.getD default) = e1 at x hle
      generalize (allE[i + 1]?.getD default) = e2 at y hle
      obtain ⟨N1, hN1⟩ : ∃ N : ByteArray, N = ⟨[e1.ch].toArray⟩ := ⟨_, rfl⟩
      obtain ⟨I1, hI1⟩ : ∃ N : ByteArray, N = ⟨(e1.in_).toArray⟩ := ⟨_, rfl⟩
      obtain ⟨L1, hL1⟩ : ∃ N : ByteArray, N = ⟨(e1.line).toArray⟩ := ⟨_, rfl⟩
      obtain ⟨s1, hs1⟩ : ∃ so : Int, so = (e1.sort.val : Nat) := ⟨_, rfl⟩
      obtain ⟨N2, hN2⟩ : ∃ N : ByteArray, N = ⟨[e2.ch].toArray⟩ := ⟨_, rfl⟩
      obtain ⟨I2, hI2⟩ : ∃ N : ByteArray, N = ⟨(e2.in_).toArray⟩ := ⟨_, rfl⟩
      obtain ⟨L2, hL2⟩ : ∃ N : ByteArray, N = ⟨(e2.line).toArray⟩ := ⟨_, rfl⟩
      obtain ⟨s2, hs2⟩ : ∃ so : Int, so = (e2.sort.val : Nat) := ⟨_, rfl⟩
      have f0 : wr.cell? ⟨b, o + i * 4, none⟩ = some (.string N1) := by rw [hN1]; exact x 0 (by omega)
      have f1 : wr.cell? ⟨b, o + i * 4 + 1, none⟩ = some (.int .i64 s1) := by rw [hs1]; exact x 1 (by omega)
      have f2 : wr.cell? ⟨b, o + i * 4 + 2, none⟩ = some (.string I1) := by rw [hI1]; exact x 2 (by omega)
      have f3 : wr.cell? ⟨b, o + i * 4 + 3, none⟩ = some (.string L1) := by rw [hL1]; exact x 3 (by omega)
      have y0 : wr.cell? ⟨b, o + (i + 1) * 4, none⟩ = some (.string N2) := by rw [hN2]; exact y 0 (by omega)
      have y1 : wr.cell? ⟨b, o + (i + 1) * 4 + 1, none⟩ = some (.int .i64 s2) := by rw [hs2]; exact y 1 (by omega)
      have y2 : wr.cell? ⟨b, o + (i + 1) * 4 + 2, none⟩ = some (.string I2) := by rw [hI2]; exact y 2 (by omega)
      have y3 : wr.cell? ⟨b, o + (i + 1) * 4 + 3, none⟩ = some (.string L2) := by rw [hL2]; exact y 3 (by omega)
      have lf := lt_of_cell f0
      have NC := Lib.hid (nameCmp_any e2.ch e1.ch N2 N1 hN2 hN1 I2 L2 I1 L1 s2 s1 wr.drew)
      obtain ⟨r, hr⟩ : ∃ r : Int, r = Lib.compareBytes [e2.ch] [e1.ch] := ⟨_, rfl⟩
      rw [← hr] at NC hle
      have hv : (gk : Int) = (i : Int) + 1 := by omega
      have hwi : IntKind.i64.wrap (i : Int) = (i : Int) := IntWalk.i64_in _ (by omega)
      have hj1 : ¬ ((11 : Int) ≤ (i : Int)) := by omega
      have hj2 : ¬ ((10 : Int) ≤ (i : Int)) := by omega
      have hj3 : ¬ ((i : Int) + 1 < 0) := by omega
      have hj4 : ¬ ((11 : Int) ≤ (i : Int) + 1) := by omega
      have hrn : ¬ (r < 0) := by intro h; rw [hle] at h; exact h
      have HGI := Lib.hid hi
      rw [hv]
      clear hi hv rd hc ce x y hN1 hI1 hL1 hs1 hN2 hI2 hL2 hs2 hr hle h2
      go_wp2_with (fail)
      refine wp_region_g (S := fun Y => (Y.cell? ⟨b, o + i * 4, none⟩ = some (.string N1) ∧ Y.cell? ⟨b, o + i * 4 + 1, none⟩ = some (.int .i64 s1) ∧ Y.cell? ⟨b, o + i * 4 + 2, none⟩ = some (.string I1) ∧ Y.cell? ⟨b, o + i * 4 + 3, none⟩ = some (.string L1)) ∧ Y = wr.drew) (m := 10) (by kernel_rfl) ?_
      have hS : (wr.drew.cell? ⟨b, o + i * 4, none⟩ = some (.string N1) ∧ wr.drew.cell? ⟨b, o + i * 4 + 1, none⟩ = some (.int .i64 s1) ∧ wr.drew.cell? ⟨b, o + i * 4 + 2, none⟩ = some (.string I1) ∧ wr.drew.cell? ⟨b, o + i * 4 + 3, none⟩ = some (.string L1)) ∧ wr.drew = wr.drew := ⟨⟨f0, f1, f2, f3⟩, rfl⟩
      repeat (first | (refine wpAnyG_take (i := 0) (v := .func (.func 10) #[] #[]) rfl ?_ ?_ ?_ (fun _ _ _ h => h) (Or.inl ⟨by rfl, ?_⟩) hS ?_; (· decide +kernel); (· decide +kernel); (· decide +kernel); (· (intro w' hS'; obtain ⟨_, hS'⟩ := hS'; subst hS'; go_simp))) | (refine wpAnyG_take (i := 1) (v := .slice (some ⟨b, o, none⟩) 11 c) rfl ?_ ?_ ?_ (fun _ _ _ h => h) (Or.inl ⟨by rfl, ?_⟩) hS ?_; (· decide +kernel); (· decide +kernel); (· decide +kernel); (· (intro w' hS'; obtain ⟨_, hS'⟩ := hS'; subst hS'; go_simp))) | (refine wpAnyG_take (i := 2) (v := .int .i64 ((i : Int) + 1)) rfl ?_ ?_ ?_ (fun _ _ _ h => h) (Or.inl ⟨by rfl, ?_⟩) hS ?_; (· decide +kernel); (· decide +kernel); (· decide +kernel); (· (intro w' hS'; obtain ⟨_, hS'⟩ := hS'; subst hS'; go_simp))) | (refine wpAnyG_take (i := 3) (v := .pointer (some ⟨b, o + (i + 1) * 4, none⟩)) rfl ?_ ?_ ?_ (fun _ _ _ h => h) (Or.inl ⟨by rfl, ?_⟩) hS ?_; (· decide +kernel); (· decide +kernel); (· decide +kernel); (· (intro w' hS'; obtain ⟨_, hS'⟩ := hS'; subst hS'; go_simp))) | (refine wpAnyG_take (i := 4) (v := .agg #[.string N2, .int .i64 s2, .string I2, .string L2]) rfl ?_ ?_ ?_ (fun _ _ _ h => h) (Or.inl ⟨by rfl, ?_⟩) hS ?_; (· decide +kernel); (· decide +kernel); (· decide +kernel); (· (intro w' hS'; obtain ⟨_, hS'⟩ := hS'; subst hS'; go_simp))) | (refine wpAnyG_take (i := 5) (v := .slice (some ⟨b, o, none⟩) 11 c) rfl ?_ ?_ ?_ (fun _ _ _ h => h) (Or.inl ⟨by rfl, ?_⟩) hS ?_; (· decide +kernel); (· decide +kernel); (· decide +kernel); (· (intro w' hS'; obtain ⟨_, hS'⟩ := hS'; subst hS'; go_simp))) | (refine wpAnyG_take (i := 6) (v := .int .i64 ((i : Int) + 1)) rfl ?_ ?_ ?_ (fun _ _ _ h => h) (Or.inl ⟨by rfl, ?_⟩) hS ?_; (· decide +kernel); (· decide +kernel); (· decide +kernel); (· (intro w' hS'; obtain ⟨_, hS'⟩ := hS'; subst hS'; go_simp))) | (refine wpAnyG_take (i := 7) (v := .int .i64 (i : Int)) rfl ?_ ?_ ?_ (fun _ _ _ h => h) (Or.inl ⟨by rfl, ?_⟩) hS ?_; (· decide +kernel); (· decide +kernel); (· decide +kernel); (· (intro w' hS'; obtain ⟨_, hS'⟩ := hS'; subst hS'; go_simp))) | (refine wpAnyG_take (i := 8) (v := .pointer (some ⟨b, o + i * 4, none⟩)) rfl ?_ ?_ ?_ (fun _ _ _ h => h) (Or.inl ⟨by rfl, ?_⟩) hS ?_; (· decide +kernel); (· decide +kernel); (· decide +kernel); (· (intro w' hS'; obtain ⟨_, hS'⟩ := hS'; subst hS'; go_simp))) | (refine wpAnyG_take (i := 9) (v := .agg #[.string N1, .int .i64 s1, .string I1, .string L1]) rfl ?_ ?_ ?_ (fun _ _ _ h => h) (Or.inl ⟨by rfl, ?_⟩) hS ?_; (· decide +kernel); (· decide +kernel); (· decide +kernel); (· (intro w' hS'; obtain ⟨_, hS'⟩ := hS'; subst hS'; go_simp))))
      refine wpAnyG_ready (rs := [10]) (by decide +kernel) (by simp) ?_
      refine AllReadyG.cons rfl (fun K hK => ?_) AllReadyG.nil
      go_simp
      refine NC.out.mono ?_
      rintro e w5 ⟨rfl, hb5⟩
      have B5 := Lib.hid (below_next hb5 (below_next (Below.refl _ _).drew HB.out))
      clear hb5
      try dsimp only
      refine hK _ _ (fun h => absurd h (by omega)) ?_
      clear hK K hS f0 f1 f2 f3 y0 y1 y2 y3 lf
      refine wpAnyG_ready (rs := [11]) (by decide +kernel) (by simp) ?_
      refine AllReadyG.cons rfl (fun K hK => ?_) AllReadyG.nil
      go_simp
      refine hK _ _ (fun h => absurd h (by omega)) ?_
      clear hK K
      refine wpAnyG_done (by decide +kernel) ?_ _
      go_wp2_with (fail)
      go_roundg i
      case measure => have := HGI.out; omega
      case rel => exact ⟨rfl, by omega, B5.out⟩
end Go.Proofs.YtaealapgebbnlaaDoor
