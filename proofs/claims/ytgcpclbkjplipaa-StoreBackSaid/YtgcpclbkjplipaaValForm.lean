/- Contract of value.formed, value.Check: what they answer of a value in memory. -/
import Derived.Test.YtgcpclbkjplipaaValFits
import Derived.Deep.QuietTactic
import Derived.BigQuiet
import Derived.Deep.DeepCutAuto
import Derived.Deep.CutBlock
set_option linter.unusedVariables false
namespace Go.Proofs.Ytgcpclbkjplipaa
open Go.RowKit Go.Mem Go.Val

set_option maxRecDepth 100000 in
set_option maxHeartbeats 1000000 in
theorem formed_any : ∀ (d : Nat) (x : V) (cs : List Value) (w : World), VCells d w Any cs x →
    Calls Try.prog 93 #[.agg cs.toArray] w fun e w' => e = .returned (.bool (formF d x)) ∧ Below w.heap.size w w'
  | 0, x, cs, w, hv => hv.elim
  | d + 1, x, cs, w, hv => by
    have ih := formed_any d
    have IH := Lib.hid ih
    clear ih
    obtain ⟨vk, vn, vt, va⟩ := x
    obtain ⟨A, c, vss, rfl, hk, hn, ht, hal, hac, hcm, hr, ha⟩ := hv
    obtain ⟨n, hnl⟩ : ∃ n, n = va.length := ⟨_, rfl⟩
    rw [← hnl] at hr hal hac ⊢
    have Hn := Lib.hid hnl
    clear hnl
    go_enter Try.func93, Try.ntmps93
    go_wp2_with (fail)
    go_quiet (fail)
    have hb0 := (Blk.new w 35 [.int .i64 vk, .int .i64 vn, .string vt, .slice A n c]).drewN nq
    have hbe : Below w.heap.size w ((w.alloc (.cells #[.int .i64 vk, .int .i64 vn, .string vt, .slice A n c] 35)).drewN nq) := by
      have h := (Below.refl w.heap.size w).alloc (Nat.le_refl _) (.cells #[.int .i64 vk, .int .i64 vn, .string vt, .slice A n c] 35)
      exact ⟨h.os, h.tape, h.output, h.size, h.block⟩
    have HB := Lib.hid (And.intro hb0 hbe)
    clear hb0 hbe
    go_upto_block 0 with (fail)
    go_cut [3, 4, 5] (fun s3 s4 s5 wc => ∃ b3 b4 b5 : Bool, s3 = .bool b3 ∧ s4 = .bool b4 ∧ s5 = .bool b5 ∧ Hid (headOk vk vn vt n = (b3 && b4 && b5)) ∧ Hid (Blk wc w.heap.size 35 [.int .i64 vk, .int .i64 vn, .string vt, .slice A n c] ∧ Below w.heap.size w wc))
    case first =>
      by_cases k1 : vk = 1
      · subst k1
        go_wp2_with (fail)
        go_meet
        exact ⟨_, _, _, rfl, rfl, rfl, by unfold Hid headOk; simp, HB⟩
      by_cases k2 : vk = 2
      · subst k2
        go_wp2_with (fail)
        go_meet
        exact ⟨_, _, _, rfl, rfl, rfl, by unfold Hid headOk; simp, HB⟩
      by_cases k6 : vk = 6
      · subst k6
        go_wp2_with (fail)
        go_meet
        exact ⟨_, _, _, rfl, rfl, rfl, by unfold Hid headOk; simp, HB⟩
      by_cases k3 : vk = 3
      · subst k3
        by_cases n0 : vn = 0
        · subst n0
          go_wp2_with (fail)
          go_meet
          exact ⟨_, _, _, rfl, rfl, rfl, by unfold Hid headOk; simp, HB⟩
        · have q0 : (vn == 0) = false := by simpa using n0
          clear n0
          go_wp2_with (fail)
          go_meet
          exact ⟨_, _, _, rfl, rfl, rfl, by unfold Hid headOk; simp [q0], HB⟩
      by_cases k4 : vk = 4
      · subst k4
        go_wp2_with (fail)
        go_meet
        exact ⟨_, _, _, rfl, rfl, rfl, by unfold Hid headOk; simp, HB⟩
      by_cases k5 : vk = 5
      · subst k5
        go_wp2_with (fail)
        go_meet
        exact ⟨_, _, _, rfl, rfl, rfl, by unfold Hid headOk; simp, HB⟩
      by_cases k7 : vk = 7
      · subst k7
        go_wp2_with (fail)
        go_meet
        exact ⟨_, _, _, rfl, rfl, rfl, by unfold Hid headOk; simp, HB⟩
      by_cases k8 : vk = 8
      · subst k8
        go_wp2_with (fail)
        go_meet
        exact ⟨_, _, _, rfl, rfl, rfl, by unfold Hid headOk; simp, HB⟩
      have e : Hid (formF (d + 1) (V.mk vk vn vt va) = false) := by
        unfold Hid formF headOk
        simp [k1, k2, k3, k4, k5, k6, k7, k8]
      have q1 : (vk == 1) = false := by simpa using k1
      have q2 : (vk == 2) = false := by simpa using k2
      have q3 : (vk == 3) = false := by simpa using k3
      have q4 : (vk == 4) = false := by simpa using k4
      have q5 : (vk == 5) = false := by simpa using k5
      have q6 : (vk == 6) = false := by simpa using k6
      have q7 : (vk == 7) = false := by simpa using k7
      have q8 : (vk == 8) = false := by simpa using k8
      clear k1 k2 k3 k4 k5 k6 k7 k8
      go_wp2_with (fail)
      go_ret
      rw [e.out]
      exact ⟨rfl, HB.out.2⟩
    case rest =>
      obtain ⟨b3, b4, b5, rfl, rfl, rfl, hh, HB2⟩ := hcut
      have hB3 := HB2.out.1
      have t3 := hB3.cell 3
      simp only [List.getElem?_cons_succ, List.getElem?_cons_zero] at t3
      clear hB3 HB
      by_cases hall : (b3 && b4 && b5) = true
      · obtain ⟨⟨rfl, rfl⟩, rfl⟩ : (b3 = true ∧ b4 = true) ∧ b5 = true := by simpa using hall
        have hh2 : Hid (headOk vk vn vt va.length = true) := by
          unfold Hid
          rw [← Hn.out, hh.out]
          rfl
        clear hall hh
        go_wp2_with (fail)
        go_loopw [62] (fun i wr => ∃ k : Nat, k ≤ n ∧ i = .int .i64 k ∧ Hid (formF (d + 1) (V.mk vk vn vt va) = (va.drop k).all (formF d)) ∧ Below w.heap.size w wr) (fun i _ => n - (intOf i).toNat)
        case atStart => exact ⟨0, Nat.zero_le _, rfl, by unfold Hid; simp [formF, hh2.out], HB2.out.2⟩
        case round =>
          obtain ⟨k, hk', rfl, hcur, hbe⟩ := hrel
          clear t3
          by_cases hlt : k < n
          · have hkl : k < va.length := by have := Hn.out; omega
            obtain ⟨b, off, cs, rfl, hD, hv, hcell⟩ := hr.elem (VCells.stable d) ha Hn.out hkl
            have hsame : Same Any w wr := Same.any hbe
            have hv2 := hv.keep hsame
            generalize hxx : va[k] = X at hv hv2
            have HX : Hid (va.drop k = X :: va.drop (k + 1)) := by unfold Hid; rw [List.drop_eq_getElem_cons hkl, hxx]
            clear hxx
            obtain ⟨xk, xn, xt, xa⟩ := X
            obtain ⟨A4, c4, rfl⟩ := hv.form
            simp only [V.kind, V.num, V.text, V.args] at hcell hv hv2
            have g0 := hsame.cell hD (hcell 0 _ rfl)
            have g1 := hsame.cell hD (hcell 1 _ rfl)
            have g2 := hsame.cell hD (hcell 2 _ rfl)
            have g3 := hsame.cell hD (hcell 3 _ rfl)
            simp only [Nat.add_zero, ← Nat.add_assoc] at g0 g1 g2 g3
            have l4 := lt_of_cell g0
            clear hcell
            go_wp2_with (fail)
            refine (IH.out (V.mk xk xn xt xa) [.int .i64 xk, .int .i64 xn, .string xt, .slice A4 xa.length c4] _ (hv2.keep (Same.alloc _ _ _))).mono ?_
            rintro e w2 ⟨rfl, hb2⟩
            have hstep : Hid (formF (d + 1) (V.mk vk vn vt va) = (formF d (V.mk xk xn xt xa) && (va.drop (k + 1)).all (formF d))) := by
              unfold Hid
              rw [hcur.out, HX.out]
              rfl
            have hbe2 : Below w.heap.size w w2 := (hbe.alloc hbe.size _).trans (hb2.mono (by have := hbe.size; simp; omega))
            generalize formF d (V.mk xk xn xt xa) = R at hstep ⊢
            clear hv hv2 g0 g1 g2 g3 hcur HX
            cases R with
            | true =>
              go_wp2_with (fail)
              refine ⟨⟨k + 1, by omega, by go_num, ?_, hbe2⟩, by simp [intOf]; omega⟩
              unfold Hid
              rw [hstep.out]
              rfl
            | false =>
              go_wp2_with (fail)
              go_ret
              rw [hstep.out]
              exact ⟨rfl, hbe2⟩
          · go_wp2
            go_ret
            rw [hcur.out, List.drop_of_length_le (by have := Hn.out; omega)]
            exact ⟨rfl, hbe⟩
      · have e : Hid (formF (d + 1) (V.mk vk vn vt va) = false) := by
          unfold Hid formF
          rw [← Hn.out, hh.out]
          simp [Bool.eq_false_iff.2 hall]
        clear hh
        cases b3
        · go_wp2_with (fail)
          go_ret
          rw [e.out]
          exact ⟨rfl, HB2.out.2⟩
        cases b4
        · go_wp2_with (fail)
          go_ret
          rw [e.out]
          exact ⟨rfl, HB2.out.2⟩
        cases b5
        · go_wp2_with (fail)
          go_ret
          rw [e.out]
          exact ⟨rfl, HB2.out.2⟩
        · exact absurd rfl hall
end Go.Proofs.Ytgcpclbkjplipaa
