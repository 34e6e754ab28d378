/- Contract of shape.First. -/
import Derived.Test.YtoddjdajjmcliaaJShFirst
set_option linter.unusedVariables false
namespace Go.Proofs.Ytoddjdajjmcliaa
open Go.RowKit Go.Mem Go.Sh Go.Maps Go.Val
theorem first_all : ∀ k, k ≤ 100 → FirstTo k
  | 0, h => first_at 0 h (fun j hj => by omega)
  | k + 1, h => first_at (k + 1) h (fun j hj => by obtain rfl : j = k := by omega
                                                   exact first_all _ (by omega))
theorem FirstPost.form {dv : Nat} {w : World} {r : Option V} {e : Ending} {w' : World} (h : FirstPost dv w r e w') : ∃ k n t A m c ok, e = .returned (.tuple #[.agg #[.int .i64 k, .int .i64 n, .string t, .slice A m c], .bool ok]) := by
  cases r with
  | none => obtain ⟨_, k, A, n, c, e⟩ := h; exact ⟨k, 0, ⟨#[]⟩, A, n, c, false, e⟩
  | some v => obtain ⟨_, A, c, e, _⟩ := h; exact ⟨_, _, _, A, _, c, true, e⟩
theorem FirstPost.below {dv : Nat} {w : World} {r : Option V} {e : Ending} {w' : World} (h : FirstPost dv w r e w') : Below w.heap.size w w' := by
  cases r with
  | none => exact h.1
  | some l => exact h.1
theorem FirstPost.bad {dv : Nat} {w : World} {r : Option V} {x : Value} {w' : World} (h : FirstPost dv w r (.returned (.tuple #[x, .bool false])) w') : r = none := by
  cases r with
  | none => rfl
  | some l => obtain ⟨_, A, c, e, _⟩ := h; injection e with e; injection e with e; simp at e
theorem FirstPost.good {dv : Nat} {w : World} {r : Option V} {k n : Int} {t : ByteArray} {A : Option Addr} {m c : Nat} {w' : World} (h : FirstPost dv w r (.returned (.tuple #[.agg #[.int .i64 k, .int .i64 n, .string t, .slice A m c], .bool true])) w') : ∃ v, r = some v ∧ [Value.int .i64 k, .int .i64 n, .string t, .slice A m c] = vl v A c ∧ VCells dv w' (fun b => w.heap.size ≤ b) (vl v A c) v := by
  cases r with
  | none => obtain ⟨_, k, A, n, c, e⟩ := h; injection e with e; injection e with e; simp at e
  | some l =>
    obtain ⟨_, A', c', e, h⟩ := h
    injection e with e
    injection e with e
    simp only [Array.mk.injEq, List.cons.injEq, Value.agg.injEq, Value.slice.injEq, Value.int.injEq, Value.string.injEq, and_true, true_and] at e
    obtain ⟨rfl, rfl, rfl, rfl, rfl, rfl⟩ := e
    exact ⟨l, rfl, rfl, h⟩
/-- what First hands back -/
def FirstEPost (w : World) : Option V → Ending → World → Prop
  | some v, e, w' => Below w.heap.size w w' ∧ ∃ A c, e = .returned (.tuple #[.agg #[.int .i64 v.kind, .int .i64 v.num, .string v.text, .slice A v.args.length c], .int .i64 0]) ∧ VCells 4 w' (fun b => w.heap.size ≤ b) (vl v A c) v
  | none, e, w' => Below w.heap.size w w' ∧ e = .returned (.tuple #[.agg #[.int .i64 0, .int .i64 0, .string ⟨#[]⟩, .slice none 0 0], .int .i64 4])
-- BEGIN
set_option maxRecDepth 100000 in
set_option maxHeartbeats 4000000 in
theorem First_any (d : Nat) (w : World) (p : Pg) (P : List Dt) (t : Ty) (A : Option Addr) (m c : Nat) (r : Option V)
    (hp : DtsAt d w Any p.A p.n p.c P) (ht : TyAt d w Any t.kind t.name A m c t) (hf : firstU P t 4 0 = some r) :
    Calls Try.prog 18 #[.agg p.cells.toArray, .agg #[.int .i64 (t.kind : Nat), str t.name, .slice A m c]] w (FirstEPost w r) := by
  have HT := Lib.hid (And.intro hp ht)
  have HF := Lib.hid hf
  have C0 := fun (k : Nat) (hk : k ≤ 100) (W : World) (q : Option V) h1 h2 => first_all k hk d W p P t A m c .nil none q h1 h2 rfl
  have HC := Lib.hid C0
  clear hp ht hf C0
  generalize hkt : t.kind = kt at HC ⊢
  generalize hnt : t.name = nt at HC ⊢
  have HK := Lib.hid (And.intro hkt hnt)
  clear hkt hnt
  obtain ⟨FA, hFA⟩ : ∃ FA, FA = w.heap.size := ⟨_, rfl⟩
  obtain ⟨FB, hFB⟩ : ∃ FB, FB = w.heap.size + 1 := ⟨_, rfl⟩
  obtain ⟨FC, hFC⟩ : ∃ FC, FC = w.heap.size + 1 + 1 := ⟨_, rfl⟩
  have HFs := Lib.hid (show FA = w.heap.size ∧ FB = w.heap.size + 1 ∧ FC = w.heap.size + 1 + 1 from ⟨hFA, hFB, hFC⟩)
  clear hFA hFB hFC
  unfold Pg.cells pvs
  go_enter Try.func18, Try.ntmps18
  go_wp2_with (fail)
  obtain ⟨W3, hW3⟩ : ∃ W3, W3 = ((w.alloc (.cells #[str [109], .int .i64 1, .slice none 0 0, .slice p.A p.n p.c, .slice none 0 0, .slice none 0 0, .slice none 0 0, .slice p.B p.m p.e] 29)).alloc (.cells #[.int .i64 (kt : Nat), str nt, .slice A m c] 34)).alloc (.cells #[.int .i64 0, .int .i64 0, .string ⟨#[]⟩, .slice none 0 0] 47) := ⟨_, rfl⟩
  have hb := blks3 w 29 34 47 p.cells [.int .i64 (kt : Nat), str nt, .slice A m c] [.int .i64 0, .int .i64 0, .string ⟨#[]⟩, .slice none 0 0] W3 hW3
  rw [← hW3]
  clear hW3
  rw [← HFs.out.2.2, ← HFs.out.2.1, ← HFs.out.1] at hb
  rw [← HFs.out.2.2, ← HFs.out.2.1, ← HFs.out.1]
  have hb : FirAt d w W3 p P FA FB FC t A m c .nil none := by
    obtain ⟨h1, h2, h3, h4, h5⟩ := hb
    have hbe : Below w.heap.size w W3 := by rw [HFs.out.1] at h4; exact h4
    exact ⟨hbe, ⟨by have := HFs.out; omega, h3.lt⟩, h1, by rw [HK.out.1, HK.out.2]; exact h2, h3, HT.out.1.keep (Same.any hbe), HT.out.2.keep (Same.any hbe), rfl⟩
  have HB := Lib.hid hb
  clear hb
  go_loopw [9] (fun i wr => ∃ (j : Nat), j ≤ 4 ∧ i = .int .i64 j ∧ Hid (firstU P t (4 - j) j = some r ∧ Below W3.heap.size W3 wr)) (fun i _ => 4 - (intOf i).toNat)
  case atStart => exact ⟨0, by omega, rfl, HF.out, Below.refl _ _⟩
  case round =>
    obtain ⟨j, hj, rfl, HI⟩ := hrel
    have HA := Lib.hid (HB.out.below HI.out.2)
    have c0 := HA.out.bc.cell 0
    have c1 := HA.out.bc.cell 1
    have c2' := HA.out.bc.cell 2
    have c3' := HA.out.bc.cell 3
    have z0 := HA.out.bc.frozen 0
    have z1 := HA.out.bc.frozen 1
    have z2 := HA.out.bc.frozen 2
    have z3 := HA.out.bc.frozen 3
    have lC := HA.out.bc.lt
    have b0 := HA.out.bb.cell 0
    have b1 := HA.out.bb.cell 1
    have b2 := HA.out.bb.cell 2
    have lB := HA.out.bb.lt
    have a0 := HA.out.ba.cell 0
    have a1 := HA.out.ba.cell 1
    have a2 := HA.out.ba.cell 2
    have a3 := HA.out.ba.cell 3
    have a4 := HA.out.ba.cell 4
    have a5 := HA.out.ba.cell 5
    have a6 := HA.out.ba.cell 6
    have a7 := HA.out.ba.cell 7
    have lA := HA.out.ba.lt
    simp only [HK.out.1, HK.out.2, Pg.cells, pvs, List.getElem?_cons_zero, List.getElem?_cons_succ] at c0 c1 c2' c3' b0 b1 b2 a0 a1 a2 a3 a4 a5 a6 a7
    by_cases hlt : j < 4
    · obtain ⟨u, hu⟩ : ∃ u, 4 - j = u + 1 := ⟨3 - j, by omega⟩
      have hin := HI.out.1
      rw [hu] at hin
      unfold firstU at hin
      obtain ⟨q, hq⟩ : ∃ q, firstF P j .nil t = some q := by
        cases h : firstF P j .nil t with
        | none => rw [h] at hin; cases hin
        | some q => exact ⟨q, rfl⟩
      rw [hq] at hin
      have C := Lib.hid (HC.out j (by omega) wr q HA.out.hp (by have h := HA.out.ht; rw [HK.out.1, HK.out.2] at h; exact h) hq)
      have HQ := Lib.hid (And.intro hin (show u = 4 - (j + 1) by omega))
      simp only [Pg.cells, pvs] at C
      clear hq hin hu
      go_upto_region 5 with (go_at_call 32; refine C.out.mono ?_; intro e w4 h4; have H4 := Lib.hid h4; clear h4; obtain ⟨kk, nn, tt, A4, m4, c4, ok4, rfl⟩ : ∃ k n t A m c ok, e = .returned (.tuple #[.agg #[.int .i64 k, .int .i64 n, .string t, .slice A m c], .bool ok]) := FirstPost.form H4.out)
      clear C c0 c1 c2' c3' z0 z1 z2 z3 lC b0 b1 b2 lB a0 a1 a2 a3 a4 a5 a6 a7 lA
      obtain ⟨w5, hw5⟩ : ∃ w5, w5 = w4.alloc (.cells #[.int .i64 kk, .int .i64 nn, .string tt, .slice A4 m4 c4] 47) := ⟨_, rfl⟩
      obtain ⟨BV, hBV⟩ : ∃ BV, BV = w4.heap.size := ⟨_, rfl⟩
      rw [← hw5, ← hBV]
      have hbv : Blk w5 BV 47 [.int .i64 kk, .int .i64 nn, .string tt, .slice A4 m4 c4] := by rw [hw5, hBV]; exact Blk.new _ _ _
      have h45 : Below w4.heap.size w4 w5 := by rw [hw5]; exact (Below.refl _ _).alloc (Nat.le_refl _) _
      have hb5 : Below wr.heap.size wr w5 := (FirstPost.below H4.out).trans (h45.mono (FirstPost.below H4.out).size)
      have H5 := Lib.hid (And.intro h45 (And.intro hb5 hbv))
      clear hw5 hBV hbv h45 hb5
      cases ok4 with
      | false =>
        have HB5 := Lib.hid (HI.out.2.trans (H5.out.2.1.mono HI.out.2.size))
        have HS := Lib.hid (show firstU P t (4 - (j + 1)) (j + 1) = some r by
          have h := HQ.out.1
          rw [FirstPost.bad H4.out, HQ.out.2] at h
          exact h)
        clear HQ
        go_wp2_with (fail)
        exact ⟨⟨j + 1, by omega, by go_num, HS.out, HB5.out⟩, by simp [intOf]; omega⟩
      | true =>
        have HA5 := Lib.hid (HA.out.below H5.out.2.1)
        have v0 := H5.out.2.2.cell 0
        have v1 := H5.out.2.2.cell 1
        have v2 := H5.out.2.2.cell 2
        have v3 := H5.out.2.2.cell 3
        have lV := H5.out.2.2.lt
        have c0 := HA5.out.bc.cell 0
        have c1 := HA5.out.bc.cell 1
        have c2' := HA5.out.bc.cell 2
        have c3' := HA5.out.bc.cell 3
        have z0 := HA5.out.bc.frozen 0
        have z1 := HA5.out.bc.frozen 1
        have z2 := HA5.out.bc.frozen 2
        have z3 := HA5.out.bc.frozen 3
        have lC := HA5.out.bc.lt
        simp only [List.getElem?_cons_zero, List.getElem?_cons_succ] at c0 c1 c2' c3' v0 v1 v2 v3
        have hE := Lib.hid (fir_end rfl HA5.out.be HA5.out.lo.1 HA5.out.bc (.int .i64 kk) (.int .i64 nn) (.string tt) (.slice A4 m4 c4))
        go_wp2_with (fail)
        refine ret_blk_tmp rfl rfl hE.out.1 Try.underlying47 (by kernel_rfl) rfl ?_
        obtain ⟨v, hv, he, hc⟩ := FirstPost.good H4.out
        subst hv
        have h := HQ.out.1
        simp only at h
        injection h with h
        subst h
        simp only [vl, List.cons.injEq, Value.slice.injEq, Value.int.injEq, Value.string.injEq, and_true, true_and] at he
        obtain ⟨rfl, rfl, rfl, rfl⟩ := he
        refine ⟨hE.out.2.1, A4, c4, rfl, ?_⟩
        have hc5 := VCells.le (show j + 1 ≤ 4 by omega) (hc.keep (Same.of_below H5.out.1 fun b _ hl => hl))
        exact (hc5.keep (hE.out.2.2 _ fun b hb e => by have := HA.out.lo.2; have hb' : wr.heap.size ≤ b := hb; omega)).imp fun b hb _ => by have h1 := HA.out.be.size; have hb' : wr.heap.size ≤ b := hb; show w.heap.size ≤ b; omega
    · have hend := HI.out.1
      rw [show 4 - j = 0 by omega] at hend
      unfold firstU at hend
      have HR := Lib.hid (Option.some.inj hend)
      have hE := Lib.hid (fir_end rfl HA.out.be HA.out.lo.1 HA.out.bc (.int .i64 0) (.int .i64 0) (.string ⟨#[]⟩) (.slice none 0 0))
      clear hend
      go_wp2_with (fail)
      refine ret_blk_tmp rfl rfl hE.out.1 Try.underlying47 (by kernel_rfl) rfl ?_
      rw [← HR.out]
      exact ⟨hE.out.2.1, rfl⟩
end Go.Proofs.Ytoddjdajjmcliaa
