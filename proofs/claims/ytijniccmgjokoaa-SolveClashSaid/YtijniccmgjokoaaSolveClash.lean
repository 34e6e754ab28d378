/- SolveClash's walk. -/
import Derived.Test.YtijniccmgjokoaaSolveGood
set_option linter.unusedVariables false
namespace Go.Proofs.Ytijniccmgjokoaa
open Go.RowKit Go.Mem Go.Sv Go.Maps
theorem reads_new9 (w : World) (o : Obj) (cs : List Value) (size n : Nat) (e : TypeId) (hl : cs.length = n * size) : Reads ((w.alloc o).alloc (.cells cs.toArray e)) Any size (some ⟨w.heap.size + 1, 0, none⟩) n cs := by
  have := Reads.new (D := Any) (w.alloc o) cs size n e trivial hl
  simpa using this
set_option maxRecDepth 100000 in
set_option maxHeartbeats 2000000 in
theorem solveClash_any (w : World) (A0 : Option Addr) (n0 c0 : Nat) (s0 : List Int) (A1 : Option Addr) (n1 c1 : Nat) (s1 : List Int) (a2 : Int)
    (hn0 : n0 = s0.length) (hm0 : n0 ≤ maxLen) (hr0 : Reads w Any 1 A0 n0 (nums s0)) (hl0 : ∀ x ∈ s0, I64 x) (hn1 : n1 = s1.length) (hm1 : n1 ≤ maxLen) (hr1 : Reads w Any 1 A1 n1 (nums s1)) (hl1 : ∀ x ∈ s1, I64 x) (h2 : I64 a2) :
    Calls Try.prog 7 #[.slice A0 n0 c0, .slice A1 n1 c1, .int .i64 a2] w fun e w' => e = .returned (.bool true) ∧ Below w.heap.size w w' := by
  have RG := Lib.hid (registerOf_any A0 n0 c0 s0 w hr0 hn0 hm0 hl0)
  have RT := Lib.hid (fun w1 (hb : Below w.heap.size w w1) => rootOf_any A1 n1 c1 s1 w1 (hr1.keep (Same.any hb)) hn1 hm1 hl1)
  have HA2 := Lib.hid h2
  clear hn0 hm0 hr0 hl0 hn1 hm1 hr1 hl1 h2
  go_enter Try.func7, Try.ntmps7
  go_wp2_with (fail)
  refine RG.out.mono ?_
  rintro e w1 ⟨A, c, ms, rfl, hrow, hreg, hb1⟩
  have HB1 := Lib.hid hb1
  have H1 := Lib.hid (And.intro (RegRow.mds hrow) hreg)
  clear hrow hreg hb1 RG
  go_wp2_with (fail)
  refine (RT.out w1 HB1.out).mono ?_
  rintro e w2 ⟨B, d, root, rfl, hown, h3, hae⟩
  have HB2 := Lib.hid (HB1.out.trans (hown.2.mono HB1.out.size))
  have G2 := Lib.hid (show Got w2 A c ms B d root from ⟨H1.out.1.keep (Same.any hown.2), hown.holds, H1.out.2, h3, hae⟩)
  clear hown h3 hae RT H1
  go_wp2_with (fail)
  refine (G2.out.best (A2 := none) (c2 := 0) (first := []) Reads.empty (by simp)).mono ?_
  obtain ⟨R, hR⟩ : ∃ R, R = bestF ms root [] := ⟨_, rfl⟩
  rw [← hR]
  have HR := Lib.hid hR
  clear hR
  unfold BestPost
  rintro e w3 ⟨hb3, hnone, hsome⟩
  have HB3 := Lib.hid (HB2.out.trans (hb3.mono HB2.out.size))
  have G3 := Lib.hid (G2.out.below hb3)
  have he : ∃ A9 n9 c9 z, e = .returned (.tuple #[.slice A9 n9 c9, .int .i64 z]) ∧ (z = 0 ∨ (z = 22 ∧ R = none)) := by
    cases R with
    | none => exact ⟨_, _, _, _, hnone rfl, .inr ⟨rfl, rfl⟩⟩
    | some x =>
      obtain ⟨A2, c2, he, _⟩ := hsome x rfl
      exact ⟨_, _, _, _, he, .inl rfl⟩
  obtain ⟨A9, n9, c9, z, rfl, hz⟩ := he
  have HZ := Lib.hid hz
  clear hb3 hnone hsome hz
  go_wp2_with (fail)
  go_loopw [2, 11, 12, 13, 24] (fun v2 v11 _ _ v wr => ∃ (i : Nat) (n : Int) (A5 : Option Addr) (c5 : Nat) (l : List Pk), v2 = .int .i64 n ∧ v11 = .slice A5 l.length c5 ∧ v = .int .i64 i ∧ i ≤ 5 ∧ l.length ≤ i ∧ Hid (I64 n ∧ wr.ownsRow w3.heap.size 27 2 (.slice A5 l.length c5) l.length (pks l) ∧ Below w3.heap.size w3 wr)) (fun _ _ _ _ v _ => 5 - (intOf v).toNat)
  case atStart => exact ⟨0, a2, none, 0, [], rfl, rfl, rfl, by omega, by simp, HA2.out, World.ownsRow_nil _ _ _ _, Below.refl _ _⟩
  case round =>
    obtain ⟨i, n, A5, c5, l, rfl, rfl, rfl, hi, hl, HI⟩ := hrel
    by_cases h5 : i < 5
    · have R0 := Lib.hid (fun W => rest_q n 5 W ((rsN n 5 : Nat) : Int) HI.out.1 (by omega) (by omega) (rsN_eq _ _ (by omega)))
      have R1 := Lib.hid (fun W => rest_q n 1099511627776 W ((rsN n 1099511627776 : Nat) : Int) HI.out.1 (by omega) (by omega) (rsN_eq _ _ (by omega)))
      have b0 := rsN_lt n 5 (by omega)
      have b1 := rsN_lt n 1099511627776 (by omega)
      generalize rsN n 5 = q0 at R0 b0
      generalize rsN n 1099511627776 = q1 at R1 b1
      have d1 : (q1 : Int).tdiv 5 = ((q1 / 5 : Nat) : Int) := by rw [Int.tdiv_eq_ediv_of_nonneg (by omega)]; omega
      obtain ⟨q5, hq5⟩ : ∃ q, q = q1 / 5 := ⟨_, rfl⟩
      rw [← hq5] at d1
      have d2 : (q1 : Int) / 5 = (q5 : Int) := by omega
      have hq5l : q5 ≤ 1099511627776 := by omega
      have w0 : IntKind.i64.wrap (q5 : Int) = (q5 : Int) := IntWalk.i64_in _ (by omega)
      have w1' : IntKind.i64.wrap (97 + (i : Int)) = 97 + (i : Int) := IntWalk.i64_in _ (by omega)
      have w5 : IntKind.u8.wrap (97 + (i : Int)) = 97 + (i : Int) := IntWalk.u8_in _ (by omega)
      have cv : (convert 24 9 (.slice (some ⟨wr.heap.size, 0, none⟩) 1 1)).run Try.prog (wr.alloc (.cells #[.int .u8 (97 + (i : Int))] 5)) = .ok (str [chr i]) (wr.alloc (.cells #[.int .u8 (97 + (i : Int))] 5)) := by
        have := chr_cv wr i 5
        rw [chr_val i (by omega)] at this
        exact this
      have HI5 := Lib.hid (show I64 (q5 : Int) by unfold I64; omega)
      have h3s := HI.out.2.2.size
      clear hq5 hq5l b1
      by_cases hq : 0 < q0
      · have g1 : decide ((q0 : Int) > 0) = true := decide_eq_true (by omega)
        go_wp2_with (fail)
        refine (R0.out _).mono ?_
        rintro e w' ⟨rfl, rfl⟩
        go_wp2_with ((at_builtin; refine app_pk _ rfl (.tmp 31) (.tmp 39) _ Try.underlying23 rfl ((HI.out.2.1.alloc (.cells #[.int .u8 (97 + (i : Int))] 5)).alloc (.cells (pkc ([chr i], q0)).toArray 27)) rfl (reads_new9 wr (.cells #[.int .u8 (97 + (i : Int))] 5) (pkc ([chr i], q0)) 2 1 27 rfl) rfl (by simp [pkc, Value.oneCell']) (by omega) (by simp; omega) ?_; intro v5 w5' hown5 hg5 hat5; obtain ⟨A6, c6, rfl, _⟩ := own_form hown5; have fin := Lib.hid (show I64 (q5 : Int) ∧ w5'.ownsRow w3.heap.size 27 2 (.slice A6 (l.length + 1) c6) (l.length + 1) (pks (l ++ [([chr i], q0)])) ∧ Below w3.heap.size w3 w5' from ⟨HI5.out, by rw [pks_append, pks_one]; exact hown5, HI.out.2.2.grown (grown_of_alloc (grown_of_alloc hg5)) h3s (fun k hk => (HI.out.2.1.lt k hk).1)⟩); clear hown5 hg5 hat5))
        refine (R1.out _).mono ?_
        rintro e w' ⟨rfl, rfl⟩
        go_wp2_with (fail)
        exact ⟨⟨i + 1, q5, A6, c6, l ++ [([chr i], q0)], rfl, by rw [List.length_append, List.length_singleton], by go_num, by omega, by rw [List.length_append, List.length_singleton]; omega, by rw [List.length_append, List.length_singleton]; exact fin⟩, by simp [intOf]; omega⟩
      · have g1 : decide ((q0 : Int) > 0) = false := decide_eq_false (by omega)
        have g2 : decide (0 < q0) = false := decide_eq_false (by omega)
        have fin := Lib.hid (show I64 (q5 : Int) ∧ wr.ownsRow w3.heap.size 27 2 (.slice A5 l.length c5) l.length (pks l) ∧ Below w3.heap.size w3 wr from ⟨HI5.out, HI.out.2.1, HI.out.2.2⟩)
        go_wp2_with (fail)
        refine (R0.out _).mono ?_
        rintro e w' ⟨rfl, rfl⟩
        go_wp2_with (fail)
        refine (R1.out _).mono ?_
        rintro e w' ⟨rfl, rfl⟩
        go_wp2_with (fail)
        exact ⟨⟨i + 1, q5, A5, c5, l, rfl, rfl, by go_num, by omega, by omega, fin⟩, by simp [intOf]; omega⟩
    · have hbl := HI.out.2.2
      have SV := solved_any wr
      obtain ⟨_, _, hrd⟩ := own_reads (by omega) HI.out.2.1
      have HP := Lib.hid (hrd.imp (D' := Any) (by omega) fun _ _ _ => trivial)
      have HBr := Lib.hid (HB3.out.trans (hbl.mono HB3.out.size))
      have Gr := Lib.hid (G3.out.below hbl)
      clear hbl hrd
      go_wp2_with (fail)
      refine SV.mono ?_
      rintro e w4 ⟨rfl, hb4⟩
      have HB4 := Lib.hid (HBr.out.trans (hb4.mono HBr.out.size))
      have RI := Lib.hid ((Gr.out.below hb4).right (c2 := c5) (HP.out.keep (Same.any hb4)) (by omega))
      clear hb4
      rcases HZ.out with rfl | ⟨rfl, hRn⟩
      · go_wp2_with (fail)
        go_ret
        exact ⟨rfl, HB4.out⟩
      · have hno := best_none (picks := l) G3.out.ok.ms (HR.out.symm.trans hRn)
        have HNo := Lib.hid hno
        clear hno hRn
        go_wp2_with (fail)
        refine RI.out.mono ?_
        rintro e w5 ⟨b, rfl, hbr, hb5⟩
        have hbf : b = false := by
          cases b with
          | false => rfl
          | true => exact absurd (hbr.1 rfl) HNo.out
        subst hbf
        clear hbr
        go_wp2_with (fail)
        go_ret
        exact ⟨rfl, HB4.out.trans (hb5.mono HB4.out.size)⟩
end Go.Proofs.Ytijniccmgjokoaa
