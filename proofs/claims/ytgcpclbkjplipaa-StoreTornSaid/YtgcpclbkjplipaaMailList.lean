/- Contracts of the writing of lists of inputs and letters (printed by maillist.py). -/
import Derived.Test.YtgcpclbkjplipaaMailEnc
set_option linter.unusedVariables false
namespace Go.Proofs.Ytgcpclbkjplipaa
open Go.RowKit Go.Mem Go.Val
theorem Grew.apartS {β : Type} {size : Nat} {R : World → (Nat → Prop) → List Value → β → Prop} (hS : Stable size R) {w w1 : World} {base : Nat} {v v1 : Value} {xs : List Value} {a : List UInt8} (h : Grew w base v xs w1 v1 a) {cs : List Value} {x : β} (hx : R w (fun b => v.ownBlock ≠ some b) cs x) : R w1 (fun b => v1.ownBlock ≠ some b) cs x := by
  have h1 : R w (fun b => v.ownBlock ≠ some b ∧ b < w.heap.size) cs x := hS.imp hx fun b hb hl => ⟨hb, hl⟩
  refine hS.imp (hS.keep h1 (Same.of_grown h.2.1 fun b hb _ e => hb.1 e.symm)) fun b hb _ e => ?_
  rcases h.2.2 with h3 | h3
  · rw [h3] at e; exact hb.1 e
  · have := h3 b e; omega

set_option maxRecDepth 100000 in
set_option maxHeartbeats 1000000 in
theorem listI_any (d : Nat) (bv : Value) (A : Option Addr) (n c : Nat) (l : List In) (vss : List (List Value)) (xs : List Value) (base : Nat) (w : World) (hown : w.ownsRow base 5 1 bv xs.length xs) (hb : base ≤ w.heap.size) (hn : n = l.length) (hn2 : n ≤ 4194304)
    (hr : Reads w (fun b => bv.ownBlock ≠ some b) 5 A n vss.flatten) (ha : All2 (InCells d w (fun b => bv.ownBlock ≠ some b)) vss l) (hok : ∀ x ∈ l, 0 ≤ x.kind ∧ x.kind ≤ 255) (hx : xs.length + (listE (encI d) l).length ≤ 1099511627776) :
    Calls Try.prog 111 #[bv, .slice A n c, .func (.func 112) #[] #[]] w (GrewPost w base bv xs (listE (encI d) l)) := by
  have Hx := Lib.hid hx
  have Hn := Lib.hid hn
  have Hok := Lib.hid hok
  clear hx hn hok
  go_enter Try.func111, Try.ntmps111
  go_wp2_with (fail)
  refine (nat_any bv n xs base w (by omega) hown hb (by have := Hx.out; omega)).mono ?_
  rintro e w1 ⟨A1, c1, rfl, hg1⟩
  go_wp2_with (fail)
  go_loopw [0, 15] (fun v1 i wr => ∃ k : Nat, k ≤ n ∧ i = .int .i64 k ∧ Grew w base bv xs wr v1 (natE n ++ (l.take k).flatMap (encI d))) (fun _ i _ => n - (intOf i).toNat)
  case atStart => exact ⟨0, Nat.zero_le _, rfl, by simpa using hg1⟩
  case round =>
    obtain ⟨k, hk, rfl, hg⟩ := hrel
    by_cases hlt : k < n
    · have hkl : k < l.length := by have := Hn.out; omega
      obtain ⟨b, off, cs, rfl, hD, hv, hcell⟩ := hr.elem (InCells.stable d) ha Hn.out hkl
      have hv2 := hg.apartS (InCells.stable d) hv
      have hsame : Same (fun b => bv.ownBlock ≠ some b) w wr := Same.of_grown hg.2.1 fun b hb _ e => hb e.symm
      have Hft := Lib.hid (flat_take (encI d) l k hkl)
      have Hfl := Lib.hid (flat_take_le (encI d) l (k + 1))
      have hokk := Hok.out _ (List.getElem_mem hkl)
      generalize hxx : l[k] = X at hv hv2 hokk
      have HX := Lib.hid hxx
      clear hxx
      obtain ⟨ik, ⟨vk, vn, vt, va⟩⟩ := X
      obtain ⟨vs, rfl, hfit, hvv⟩ := hv
      obtain ⟨A4, c4, rfl⟩ := hvv.form
      simp only [V.kind, V.num, V.text, V.args] at hcell hv2 hokk
      have g0 := hsame.cell hD (hcell 0 _ rfl)
      have g1 := hsame.cell hD (hcell 1 _ rfl)
      have g2 := hsame.cell hD (hcell 2 _ rfl)
      have g3 := hsame.cell hD (hcell 3 _ rfl)
      have g4 := hsame.cell hD (hcell 4 _ rfl)
      simp only [Nat.add_zero, ← Nat.add_assoc] at g0 g1 g2 g3 g4
      have l4 := lt_of_cell g0
      clear hcell
      have Hokk := Lib.hid hokk
      clear hokk
      go_wp2_with (fail)
      have hg' := hg.alloc (.cells #[.int .i64 ik, .int .i64 vk, .int .i64 vn, .string vt, .slice A4 va.length c4] 130)
      have hlen : (xs ++ u8s (natE n ++ (l.take k).flatMap (encI d))).length + (encI d ⟨ik, V.mk vk vn vt va⟩).length ≤ 1099511627776 := by
        have h1 := Hfl.out
        have h2 := Hx.out
        rw [Hft.out, HX.out] at h1
        simp only [listE, List.length_append, u8s_length] at h1 h2 ⊢
        have := Hn.out
        subst this
        omega
      refine (ai_any d u0 ⟨ik, V.mk vk vn vt va⟩ [.int .i64 ik, .int .i64 vk, .int .i64 vn, .string vt, .slice A4 va.length c4] _ base _ hg'.own (by have := hg'.2.1.size; omega) ((InCells.stable d).keep hv2 (Same.alloc _ _ _)) Hokk.out hlen).mono ?_
      rintro e w2 ⟨A2, c2, rfl, hg2⟩
      generalize Value.slice A2 ((xs ++ u8s (natE n ++ (l.take k).flatMap (encI d))).length + (encI d ⟨ik, V.mk vk vn vt va⟩).length) c2 = v2 at hg2 ⊢
      go_wp2_with (fail)
      refine ⟨⟨k + 1, by omega, by go_num, ?_⟩, by simp [intOf]; omega⟩
      rw [Hft.out, HX.out, ← List.append_assoc]
      exact hg'.trans hg2
    · go_wp2
      go_ret
      obtain rfl : k = n := by omega
      have e : (natE k ++ (l.take k).flatMap (encI d)) = listE (encI d) l := by
        have := Hn.out
        subst this
        rw [List.take_length, listE]
      rw [e] at hg
      obtain ⟨A2, c2, rfl⟩ := hg.form
      exact ⟨A2, c2, rfl, hg⟩


set_option maxRecDepth 100000 in
set_option maxHeartbeats 1000000 in
theorem listL_any (d : Nat) (bv : Value) (A : Option Addr) (n c : Nat) (l : List L) (vss : List (List Value)) (xs : List Value) (base : Nat) (w : World) (hown : w.ownsRow base 5 1 bv xs.length xs) (hb : base ≤ w.heap.size) (hn : n = l.length) (hn2 : n ≤ 4194304)
    (hr : Reads w (fun b => bv.ownBlock ≠ some b) 9 A n vss.flatten) (ha : All2 (LCells d w (fun b => bv.ownBlock ≠ some b)) vss l) (hok : ∀ x ∈ l, (0 ≤ x.kind ∧ x.kind ≤ 255) ∧ okN x.from_ ∧ okN x.to_ ∧ okN x.num) (hx : xs.length + (listE (encL d) l).length ≤ 1099511627776) :
    Calls Try.prog 107 #[bv, .slice A n c, .func (.func 65) #[] #[]] w (GrewPost w base bv xs (listE (encL d) l)) := by
  have Hx := Lib.hid hx
  have Hn := Lib.hid hn
  have Hok := Lib.hid hok
  clear hx hn hok
  go_enter Try.func107, Try.ntmps107
  go_wp2_with (fail)
  refine (nat_any bv n xs base w (by omega) hown hb (by have := Hx.out; omega)).mono ?_
  rintro e w1 ⟨A1, c1, rfl, hg1⟩
  go_wp2_with (fail)
  go_loopw [0, 15] (fun v1 i wr => ∃ k : Nat, k ≤ n ∧ i = .int .i64 k ∧ Grew w base bv xs wr v1 (natE n ++ (l.take k).flatMap (encL d))) (fun _ i _ => n - (intOf i).toNat)
  case atStart => exact ⟨0, Nat.zero_le _, rfl, by simpa using hg1⟩
  case round =>
    obtain ⟨k, hk, rfl, hg⟩ := hrel
    by_cases hlt : k < n
    · have hkl : k < l.length := by have := Hn.out; omega
      obtain ⟨b, off, cs, rfl, hD, hv, hcell⟩ := hr.elem (LCells.stable d) ha Hn.out hkl
      have hv2 := hg.apartS (LCells.stable d) hv
      have hsame : Same (fun b => bv.ownBlock ≠ some b) w wr := Same.of_grown hg.2.1 fun b hb _ e => hb e.symm
      have Hft := Lib.hid (flat_take (encL d) l k hkl)
      have Hfl := Lib.hid (flat_take_le (encL d) l (k + 1))
      have hokk := Hok.out _ (List.getElem_mem hkl)
      generalize hxx : l[k] = X at hv hv2 hokk
      have HX := Lib.hid hxx
      clear hxx
      obtain ⟨lk, lf, lt, ln, ls, ⟨vk, vn, vt, va⟩⟩ := X
      obtain ⟨vs, rfl, hfit, hvv⟩ := hv
      obtain ⟨A4, c4, rfl⟩ := hvv.form
      simp only [V.kind, V.num, V.text, V.args] at hcell hv2 hokk
      have g0 := hsame.cell hD (hcell 0 _ rfl)
      have g1 := hsame.cell hD (hcell 1 _ rfl)
      have g2 := hsame.cell hD (hcell 2 _ rfl)
      have g3 := hsame.cell hD (hcell 3 _ rfl)
      have g4 := hsame.cell hD (hcell 4 _ rfl)
      have g5 := hsame.cell hD (hcell 5 _ rfl)
      have g6 := hsame.cell hD (hcell 6 _ rfl)
      have g7 := hsame.cell hD (hcell 7 _ rfl)
      have g8 := hsame.cell hD (hcell 8 _ rfl)
      simp only [Nat.add_zero, ← Nat.add_assoc] at g0 g1 g2 g3 g4 g5 g6 g7 g8
      have l4 := lt_of_cell g0
      clear hcell
      have Hokk := Lib.hid hokk
      clear hokk
      go_wp2_with (fail)
      have hg' := hg.alloc (.cells #[.int .i64 lk, .int .i64 lf, .int .i64 lt, .int .i64 ln, .string ls, .int .i64 vk, .int .i64 vn, .string vt, .slice A4 va.length c4] 61)
      have hlen : (xs ++ u8s (natE n ++ (l.take k).flatMap (encL d))).length + (encL d ⟨lk, lf, lt, ln, ls, V.mk vk vn vt va⟩).length ≤ 1099511627776 := by
        have h1 := Hfl.out
        have h2 := Hx.out
        rw [Hft.out, HX.out] at h1
        simp only [listE, List.length_append, u8s_length] at h1 h2 ⊢
        have := Hn.out
        subst this
        omega
      refine (al_any d u0 ⟨lk, lf, lt, ln, ls, V.mk vk vn vt va⟩ [.int .i64 lk, .int .i64 lf, .int .i64 lt, .int .i64 ln, .string ls, .int .i64 vk, .int .i64 vn, .string vt, .slice A4 va.length c4] _ base _ hg'.own (by have := hg'.2.1.size; omega) ((LCells.stable d).keep hv2 (Same.alloc _ _ _)) Hokk.out.1 Hokk.out.2.1 Hokk.out.2.2.1 Hokk.out.2.2.2 hlen).mono ?_
      rintro e w2 ⟨A2, c2, rfl, hg2⟩
      generalize Value.slice A2 ((xs ++ u8s (natE n ++ (l.take k).flatMap (encL d))).length + (encL d ⟨lk, lf, lt, ln, ls, V.mk vk vn vt va⟩).length) c2 = v2 at hg2 ⊢
      go_wp2_with (fail)
      refine ⟨⟨k + 1, by omega, by go_num, ?_⟩, by simp [intOf]; omega⟩
      rw [Hft.out, HX.out, ← List.append_assoc]
      exact hg'.trans hg2
    · go_wp2
      go_ret
      obtain rfl : k = n := by omega
      have e : (natE k ++ (l.take k).flatMap (encL d)) = listE (encL d) l := by
        have := Hn.out
        subst this
        rw [List.take_length, listE]
      rw [e] at hg
      obtain ⟨A2, c2, rfl⟩ := hg.form
      exact ⟨A2, c2, rfl, hg⟩

end Go.Proofs.Ytgcpclbkjplipaa
