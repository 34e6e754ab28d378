/- Contract of value.formed, value.Check: what they answer of a value in memory. · Contracts of value.Check, value.written and value.Bytes: the encoding of a value that is right. -/
import Derived.Test.YtgcpclbkjplipaaValFits
import Derived.Deep.QuietTactic
import Derived.BigQuiet
import Derived.Deep.DeepCutAuto
import Derived.Deep.CutBlock
import Derived.Test.YtgcpclbkjplipaaValEnc
set_option linter.unusedVariables false
namespace Go.Proofs.Ytgcpclbkjplipaa
open Go.RowKit Go.Mem Go.Val

set_option maxRecDepth 100000 in
set_option maxHeartbeats 1000000 in
theorem formed_any : ∀ (d : Nat) (x : V) (cs : List Value) (w : World), VCells d w Any cs x →
    Calls Try.prog 93 #[.agg cs.toArray] w fun e w' => e = .returned (.bool (formF d x)) ∧ Below w.heap.size w w'
  | 0, x, cs, w, hv => hv.elim
  | d + 1, x, cs, w, hv => by
    have ih := formed_any d
    have IH := Lib.hid ih
    clear ih
    obtain ⟨vk, vn, vt, va⟩ := x
    obtain ⟨A, c, vss, rfl, hk, hn, ht, hal, hac, hcm, hr, ha⟩ := hv
    obtain ⟨n, hnl⟩ : ∃ n, n = va.length := ⟨_, rfl⟩
    rw [← hnl] at hr hal hac ⊢
    have Hn := Lib.hid hnl
    clear hnl
    go_enter Try.func93, Try.ntmps93
    go_wp2_with (fail)
    go_quiet (fail)
    have hb0 := (Blk.new w 35 [.int .i64 vk, .int .i64 vn, .string vt, .slice A n c]).drewN nq
    have hbe : Below w.heap.size w ((w.alloc (.cells #[.int .i64 vk, .int .i64 vn, .string vt, .slice A n c] 35)).drewN nq) := by
      have h := (Below.refl w.heap.size w).alloc (Nat.le_refl _) (.cells #[.int .i64 vk, .int .i64 vn, .string vt, .slice A n c] 35)
      exact ⟨h.os, h.tape, h.output, h.size, h.block⟩
    have HB := Lib.hid (And.intro hb0 hbe)
    clear hb0 hbe
    go_upto_block 0 with (fail)
    go_cut [3, 4, 5] (fun s3 s4 s5 wc => ∃ b3 b4 b5 : Bool, s3 = .bool b3 ∧ s4 = .bool b4 ∧ s5 = .bool b5 ∧ Hid (headOk vk vn vt n = (b3 && b4 && b5)) ∧ Hid (Blk wc w.heap.size 35 [.int .i64 vk, .int .i64 vn, .string vt, .slice A n c] ∧ Below w.heap.size w wc))
    case first =>
      by_cases k1 : vk = 1
      · subst k1
        go_wp2_with (fail)
        go_meet
        exact ⟨_, _, _, rfl, rfl, rfl, by unfold Hid headOk; simp, HB⟩
      by_cases k2 : vk = 2
      · subst k2
        go_wp2_with (fail)
        go_meet
        exact ⟨_, _, _, rfl, rfl, rfl, by unfold Hid headOk; simp, HB⟩
      by_cases k6 : vk = 6
      · subst k6
        go_wp2_with (fail)
        go_meet
        exact ⟨_, _, _, rfl, rfl, rfl, by unfold Hid headOk; simp, HB⟩
      by_cases k3 : vk = 3
      · subst k3
        by_cases n0 : vn = 0
        · subst n0
          go_wp2_with (fail)
          go_meet
          exact ⟨_, _, _, rfl, rfl, rfl, by unfold Hid headOk; simp, HB⟩
        · have q0 : (vn == 0) = false := by simpa using n0
          clear n0
          go_wp2_with (fail)
          go_meet
          exact ⟨_, _, _, rfl, rfl, rfl, by unfold Hid headOk; simp [q0], HB⟩
      by_cases k4 : vk = 4
      · subst k4
        go_wp2_with (fail)
        go_meet
        exact ⟨_, _, _, rfl, rfl, rfl, by unfold Hid headOk; simp, HB⟩
      by_cases k5 : vk = 5
      · subst k5
        go_wp2_with (fail)
        go_meet
        exact ⟨_, _, _, rfl, rfl, rfl, by unfold Hid headOk; simp, HB⟩
      by_cases k7 : vk = 7
      · subst k7
        go_wp2_with (fail)
        go_meet
        exact ⟨_, _, _, rfl, rfl, rfl, by unfold Hid headOk; simp, HB⟩
      by_cases k8 : vk = 8
      · subst k8
        go_wp2_with (fail)
        go_meet
        exact ⟨_, _, _, rfl, rfl, rfl, by unfold Hid headOk; simp, HB⟩
      have e : Hid (formF (d + 1) (V.mk vk vn vt va) = false) := by
        unfold Hid formF headOk
        simp [k1, k2, k3, k4, k5, k6, k7, k8]
      have q1 : (vk == 1) = false := by simpa using k1
      have q2 : (vk == 2) = false := by simpa using k2
      have q3 : (vk == 3) = false := by simpa using k3
      have q4 : (vk == 4) = false := by simpa using k4
      have q5 : (vk == 5) = false := by simpa using k5
      have q6 : (vk == 6) = false := by simpa using k6
      have q7 : (vk == 7) = false := by simpa using k7
      have q8 : (vk == 8) = false := by simpa using k8
      clear k1 k2 k3 k4 k5 k6 k7 k8
      go_wp2_with (fail)
      go_ret
      rw [e.out]
      exact ⟨rfl, HB.out.2⟩
    case rest =>
      obtain ⟨b3, b4, b5, rfl, rfl, rfl, hh, HB2⟩ := hcut
      have hB3 := HB2.out.1
      have t3 := hB3.cell 3
      simp only [List.getElem?_cons_succ, List.getElem?_cons_zero] at t3
      clear hB3 HB
      by_cases hall : (b3 && b4 && b5) = true
      · obtain ⟨⟨rfl, rfl⟩, rfl⟩ : (b3 = true ∧ b4 = true) ∧ b5 = true := by simpa using hall
        have hh2 : Hid (headOk vk vn vt va.length = true) := by
          unfold Hid
          rw [← Hn.out, hh.out]
          rfl
        clear hall hh
        go_wp2_with (fail)
        go_loopw [62] (fun i wr => ∃ k : Nat, k ≤ n ∧ i = .int .i64 k ∧ Hid (formF (d + 1) (V.mk vk vn vt va) = (va.drop k).all (formF d)) ∧ Below w.heap.size w wr) (fun i _ => n - (intOf i).toNat)
        case atStart => exact ⟨0, Nat.zero_le _, rfl, by unfold Hid; simp [formF, hh2.out], HB2.out.2⟩
        case round =>
          obtain ⟨k, hk', rfl, hcur, hbe⟩ := hrel
          clear t3
          by_cases hlt : k < n
          · have hkl : k < va.length := by have := Hn.out; omega
            obtain ⟨b, off, cs, rfl, hD, hv, hcell⟩ := hr.elem (VCells.stable d) ha Hn.out hkl
            have hsame : Same Any w wr := Same.any hbe
            have hv2 := hv.keep hsame
            generalize hxx : va[k] = X at hv hv2
            have HX : Hid (va.drop k = X :: va.drop (k + 1)) := by unfold Hid; rw [List.drop_eq_getElem_cons hkl, hxx]
            clear hxx
            obtain ⟨xk, xn, xt, xa⟩ := X
            obtain ⟨A4, c4, rfl⟩ := hv.form
            simp only [V.kind, V.num, V.text, V.args] at hcell hv hv2
            have g0 := hsame.cell hD (hcell 0 _ rfl)
            have g1 := hsame.cell hD (hcell 1 _ rfl)
            have g2 := hsame.cell hD (hcell 2 _ rfl)
            have g3 := hsame.cell hD (hcell 3 _ rfl)
            simp only [Nat.add_zero, ← Nat.add_assoc] at g0 g1 g2 g3
            have l4 := lt_of_cell g0
            clear hcell
            go_wp2_with (fail)
            refine (IH.out (V.mk xk xn xt xa) [.int .i64 xk, .int .i64 xn, .string xt, .slice A4 xa.length c4] _ (hv2.keep (Same.alloc _ _ _))).mono ?_
            rintro e w2 ⟨rfl, hb2⟩
            have hstep : Hid (formF (d + 1) (V.mk vk vn vt va) = (formF d (V.mk xk xn xt xa) && (va.drop (k + 1)).all (formF d))) := by
              unfold Hid
              rw [hcur.out, HX.out]
              rfl
            have hbe2 : Below w.heap.size w w2 := (hbe.alloc hbe.size _).trans (hb2.mono (by have := hbe.size; simp; omega))
            generalize formF d (V.mk xk xn xt xa) = R at hstep ⊢
            clear hv hv2 g0 g1 g2 g3 hcur HX
            cases R with
            | true =>
              go_wp2_with (fail)
              refine ⟨⟨k + 1, by omega, by go_num, ?_, hbe2⟩, by simp [intOf]; omega⟩
              unfold Hid
              rw [hstep.out]
              rfl
            | false =>
              go_wp2_with (fail)
              go_ret
              rw [hstep.out]
              exact ⟨rfl, hbe2⟩
          · go_wp2
            go_ret
            rw [hcur.out, List.drop_of_length_le (by have := Hn.out; omega)]
            exact ⟨rfl, hbe⟩
      · have e : Hid (formF (d + 1) (V.mk vk vn vt va) = false) := by
          unfold Hid formF
          rw [← Hn.out, hh.out]
          simp [Bool.eq_false_iff.2 hall]
        clear hh
        cases b3
        · go_wp2_with (fail)
          go_ret
          rw [e.out]
          exact ⟨rfl, HB2.out.2⟩
        cases b4
        · go_wp2_with (fail)
          go_ret
          rw [e.out]
          exact ⟨rfl, HB2.out.2⟩
        cases b5
        · go_wp2_with (fail)
          go_ret
          rw [e.out]
          exact ⟨rfl, HB2.out.2⟩
        · exact absurd rfl hall
end Go.Proofs.Ytgcpclbkjplipaa
set_option linter.unusedVariables false
namespace Go.Proofs.Ytgcpclbkjplipaa
open Go.RowKit Go.Mem Go.Val

/-- what Check answers -/
def checkF (d : Nat) (x : V) : Int := if (fitsF d x 400 1).1 = true then (if formF d x = true then 0 else 3) else 2

set_option maxRecDepth 100000 in
theorem check_any (d : Nat) (x : V) (cs : List Value) (w : World) (hd : d ≤ 900) (hv : VCells d w Any cs x) :
    Calls Try.prog 55 #[.agg cs.toArray] w fun e w' => e = .returned (.int .i64 (checkF d x)) ∧ Below w.heap.size w w' := by
  obtain ⟨A, c, rfl⟩ := hv.form
  obtain ⟨vk, vn, vt, va⟩ := x
  simp only [V.kind, V.num, V.text, V.args] at hv ⊢
  go_enter Try.func55, Try.ntmps55
  go_wp2_with (fail)
  have hb2 := Blk.new (w.alloc (.cells #[.int .i64 vk, .int .i64 vn, .string vt, .slice A va.length c] 35)) 3 [.int .i64 400]
  have hb1 := (Blk.new w 35 [.int .i64 vk, .int .i64 vn, .string vt, .slice A va.length c]).alloc (.cells #[.int .i64 400] 3)
  have hbel : Below w.heap.size w ((w.alloc (.cells #[.int .i64 vk, .int .i64 vn, .string vt, .slice A va.length c] 35)).alloc (.cells #[.int .i64 400] 3)) := ((Below.refl _ _).alloc (Nat.le_refl _) _).alloc (by simp) _
  have hs : ((w.alloc (.cells #[.int .i64 vk, .int .i64 vn, .string vt, .slice A va.length c] 35)).alloc (.cells #[.int .i64 400] 3)).heap.size = w.heap.size + 2 := by simp
  have hsz : (w.alloc (.cells #[.int .i64 vk, .int .i64 vn, .string vt, .slice A va.length c] 35)).heap.size = w.heap.size + 1 := by simp
  rw [hsz] at hb2
  have hb2' : Blk ((w.alloc (.cells #[.int .i64 vk, .int .i64 vn, .string vt, .slice A va.length c] 35)).alloc (.cells #[.int .i64 400] 3)) (w.heap.size + 1) 3 [.int .i64 400] := hb2
  generalize (w.alloc (.cells #[.int .i64 vk, .int .i64 vn, .string vt, .slice A va.length c] 35)).alloc (.cells #[.int .i64 400] 3) = W at hb1 hb2' hbel hs ⊢
  have hvW : VCells d W (fun b => b ≠ w.heap.size + 1) [.int .i64 vk, .int .i64 vn, .string vt, .slice A va.length c] (V.mk vk vn vt va) := (hv.imp fun b _ hl => by omega).keep (Same.any hbel)
  clear hb2 hsz
  refine (fits_any d (V.mk vk vn vt va) [.int .i64 vk, .int .i64 vn, .string vt, .slice A va.length c] 400 1 (w.heap.size + 1) W hvW hb2' (by omega) (by omega) (by omega) (by omega)).mono ?_
  rintro e w1 ⟨rfl, hb3, hg1⟩
  have hw1 : Below w.heap.size w w1 := hbel.trans ⟨hg1.os, hg1.tape, hg1.output, hg1.size, fun k hk => hg1.block k (by omega) (by simp; omega)⟩
  have hbv := hb1.grown hg1 (by simp)
  have t0 := hbv.cell 0
  have t1 := hbv.cell 1
  have t2 := hbv.cell 2
  have t3 := hbv.cell 3
  simp only [List.getElem?_cons_succ, List.getElem?_cons_zero] at t0 t1 t2 t3
  have hc : Hid (checkF d (V.mk vk vn vt va) = if (fitsF d (V.mk vk vn vt va) 400 1).1 = true then (if formF d (V.mk vk vn vt va) = true then 0 else 3) else 2) := rfl
  generalize (fitsF d (V.mk vk vn vt va) 400 1) = R at hc hb3 ⊢
  obtain ⟨rb, rl⟩ := R
  simp only at hc ⊢
  clear hb3
  cases rb with
  | false =>
    go_wp2_with (fail)
    go_ret
    rw [hc.out]
    exact ⟨rfl, hw1⟩
  | true =>
    go_wp2_with (fail)
    refine (formed_any d (V.mk vk vn vt va) [.int .i64 vk, .int .i64 vn, .string vt, .slice A va.length c] w1 (hv.keep (Same.any hw1))).mono ?_
    rintro e w2 ⟨rfl, hb4⟩
    have hw2 : Below w.heap.size w w2 := hw1.trans (hb4.mono hw1.size)
    generalize formF d (V.mk vk vn vt va) = F at hc ⊢
    cases F with
    | false =>
      go_wp2_with (fail)
      go_ret
      rw [hc.out]
      exact ⟨rfl, hw2⟩
    | true =>
      go_wp2_with (fail)
      go_ret
      rw [hc.out]
      exact ⟨rfl, hw2⟩

/-- what Bytes gives -/
def BytesPost (w : World) (d : Nat) (x : V) (e : Ending) (w' : World) : Prop :=
  (checkF d x = 0 → ∃ A c, e = .returned (.tuple #[.slice A (encV d x).length c, .int .i64 0]) ∧ w'.ownsRow w.heap.size 5 1 (.slice A (encV d x).length c) (encV d x).length (u8s (encV d x))) ∧
  (checkF d x ≠ 0 → e = .returned (.tuple #[.slice none 0 0, .int .i64 (checkF d x)])) ∧ Below w.heap.size w w'

set_option maxRecDepth 100000 in
theorem written_any (d : Nat) (x : V) (cs : List Value) (w : World) (hd : d ≤ 900) (hv : VCells d w Any cs x) (hx : (encV d x).length ≤ 1099511627776) :
    Calls Try.prog 54 #[.agg cs.toArray, .func (.func 55) #[] #[], .func (.func 56) #[] #[]] w (BytesPost w d x) := by
  obtain ⟨A, c, rfl⟩ := hv.form
  obtain ⟨vk, vn, vt, va⟩ := x
  simp only [V.kind, V.num, V.text, V.args] at hv ⊢
  have Hx := Lib.hid hx
  clear hx
  have hb1 := Blk.new w 35 [.int .i64 vk, .int .i64 vn, .string vt, .slice A va.length c]
  have hbel : Below w.heap.size w (w.alloc (.cells #[.int .i64 vk, .int .i64 vn, .string vt, .slice A va.length c] 35)) := (Below.refl _ _).alloc (Nat.le_refl _) _
  go_enter Try.func54, Try.ntmps54
  go_wp2_with (fail)
  generalize w.alloc (.cells #[.int .i64 vk, .int .i64 vn, .string vt, .slice A va.length c] 35) = W at hb1 hbel ⊢
  refine (check_any d (V.mk vk vn vt va) [.int .i64 vk, .int .i64 vn, .string vt, .slice A va.length c] W hd (hv.keep (Same.any hbel))).mono ?_
  rintro e w1 ⟨rfl, hb2⟩
  have hw1 : Below w.heap.size w w1 := hbel.trans (hb2.mono hbel.size)
  have hbv := hb1.below hb2 hb1.lt
  have t0 := hbv.cell 0
  have t1 := hbv.cell 1
  have t2 := hbv.cell 2
  have t3 := hbv.cell 3
  simp only [List.getElem?_cons_succ, List.getElem?_cons_zero] at t0 t1 t2 t3
  obtain ⟨r, hr⟩ : ∃ r, r = checkF d (V.mk vk vn vt va) := ⟨_, rfl⟩
  have Hr := Lib.hid hr
  rw [← hr]
  clear hr
  by_cases h0 : r = 0
  · subst h0
    go_wp2_with (fail)
    refine (av_any d (.slice none 0 0) (V.mk vk vn vt va) [.int .i64 vk, .int .i64 vn, .string vt, .slice A va.length c] [] w.heap.size w1 (World.ownsRow_nil _ _ _ _) hw1.size ((hv.keep (Same.any hw1)).imp fun _ _ _ => by simp [Value.ownBlock]) (by have := Hx.out; simpa using this)).mono ?_
    rintro e w2 ⟨A2, c2, rfl, hg2⟩
    go_wp2_with (fail)
    go_ret2
    have hg3 : Below w.heap.size w w2 := hw1.grown hg2.2.1 hw1.size (by simp [Value.ownBlock])
    refine ⟨fun _ => ⟨A2, c2, by simp, by simpa using hg2.1⟩, fun h => absurd Hr.out.symm h, hg3⟩
  · have h1 : (r != 0) = true := by simpa using h0
    have h2 : (r == 0) = false := by simpa using h0
    go_wp2_with (fail)
    go_ret2
    refine ⟨fun h => absurd (Hr.out.trans h) h0, fun _ => by rw [← Hr.out]; rfl, hw1⟩

set_option maxRecDepth 100000 in
theorem bytes_any (d : Nat) (x : V) (cs : List Value) (w : World) (hd : d ≤ 900) (hv : VCells d w Any cs x) (hx : (encV d x).length ≤ 1099511627776) :
    Calls Try.prog 19 #[.agg cs.toArray] w (BytesPost w d x) := by
  obtain ⟨A, c, rfl⟩ := hv.form
  obtain ⟨vk, vn, vt, va⟩ := x
  simp only [V.kind, V.num, V.text, V.args] at hv ⊢
  have hbel : Below w.heap.size w (w.alloc (.cells #[.int .i64 vk, .int .i64 vn, .string vt, .slice A va.length c] 35)) := (Below.refl _ _).alloc (Nat.le_refl _) _
  have hs : (w.alloc (.cells #[.int .i64 vk, .int .i64 vn, .string vt, .slice A va.length c] 35)).heap.size = w.heap.size + 1 := by simp
  go_enter Try.func19, Try.ntmps19
  go_wp2_with (fail)
  generalize w.alloc (.cells #[.int .i64 vk, .int .i64 vn, .string vt, .slice A va.length c] 35) = W at hbel hs ⊢
  refine (written_any d (V.mk vk vn vt va) [.int .i64 vk, .int .i64 vn, .string vt, .slice A va.length c] W hd (hv.keep (Same.any hbel)) hx).mono ?_
  rintro e w1 ⟨p1, p2, p3⟩
  have hw1 : Below w.heap.size w w1 := hbel.trans (p3.mono hbel.size)
  by_cases h0 : checkF d (V.mk vk vn vt va) = 0
  · obtain ⟨A2, c2, rfl, ho⟩ := p1 h0
    have H0 := Lib.hid h0
    clear h0 p1 p2
    generalize hL : (encV d (V.mk vk vn vt va)).length = L at ho ⊢
    have HL := Lib.hid hL
    clear hL
    go_wp2_with (fail)
    go_ret2
    refine ⟨fun _ => ⟨A2, c2, by rw [HL.out]; rfl, ?_⟩, fun h => absurd H0.out h, hw1⟩
    rw [HL.out]
    refine ⟨ho.1, ?_⟩
    rcases ho.2 with h | ⟨g, cap, cur, h1, h2, h3⟩
    · exact .inl h
    · exact .inr ⟨g, cap, cur, h1, by omega, h3⟩
  · obtain rfl := p2 h0
    have H0 := Lib.hid h0
    clear h0 p1 p2
    generalize hr : checkF d (V.mk vk vn vt va) = r
    have Hr := Lib.hid hr
    clear hr
    go_wp2_with (fail)
    go_ret2
    refine ⟨fun h => absurd h H0.out, fun _ => by rw [Hr.out]; rfl, hw1⟩
end Go.Proofs.Ytgcpclbkjplipaa
