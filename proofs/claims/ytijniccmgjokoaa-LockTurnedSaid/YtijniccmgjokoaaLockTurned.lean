/- LockTurned's walk. -/
import Derived.Test.YtijniccmgjokoaaLkTurned0
import Derived.Deep.DeepCutAuto
import Derived.Deep.CutBlock
import Derived.Deep.LoopGhost
set_option linter.unusedVariables false
namespace Go.Proofs.Ytijniccmgjokoaa
open Go.RowKit Go.Mem Go.Sv Go.Maps
/-- the law's map of versions -/
def OutW (w wr : World) (M : Nat) (f : Nm → Nat) : Prop := ∃ L, MapOf str okS wr M L ∧ OutAt L f ∧ Below w.heap.size w wr
theorem zero_i64 : ∀ w : World, (zeroValue 3).run Try.prog w = .ok (.int .i64 0) w := fun _ => by kernel_rfl
theorem _root_.Go.Sv.TurnsOk.letter {a b : List Pk} {ts : List Tr} (h : TurnsOk a b ts) (ha : PkOk a) (hb : PkOk b) {t : Tr} (ht : t ∈ ts) : Letter t.1 := by
  obtain ⟨h1, h2, h3⟩ := (h.mem t).1 ht
  rcases Classical.em (∃ q ∈ a, q.1 = t.1) with ⟨q, hq, e⟩ | ha'
  · rw [← e]
    exact ha.nm q hq
  · rcases Classical.em (∃ q ∈ b, q.1 = t.1) with ⟨q, hq, e⟩ | hb'
    · rw [← e]
      exact hb.nm q hq
    · refine absurd ?_ h3
      rw [h1, h2, vOf_none fun q hq e => ha' ⟨q, hq, e⟩, vOf_none fun q hq e => hb' ⟨q, hq, e⟩]
set_option maxRecDepth 100000 in
set_option maxHeartbeats 4000000 in
theorem lockTurned_any (w : World) (A0 : Option Addr) (n0 c0 : Nat) (s0 : List Int) (A1 : Option Addr) (n1 c1 : Nat) (s1 : List Int)
    (hn0 : n0 = s0.length) (hm0 : n0 ≤ maxLen) (hr0 : Reads w Any 1 A0 n0 (nums s0)) (hl0 : ∀ x ∈ s0, I64 x) (hn1 : n1 = s1.length) (hm1 : n1 ≤ maxLen) (hr1 : Reads w Any 1 A1 n1 (nums s1)) (hl1 : ∀ x ∈ s1, I64 x) :
    Calls Try.prog 3 #[.slice A0 n0 c0, .slice A1 n1 c1] w fun e w' => e = .returned (.bool true) ∧ Below w.heap.size w w' := by
  have H0 := Lib.hid (And.intro hn0 (And.intro hr0 hl0))
  have H1 := Lib.hid (And.intro hn1 (And.intro hr1 hl1))
  have HM := Lib.hid (And.intro hm0 hm1)
  clear hn0 hm0 hr0 hl0 hn1 hm1 hr1 hl1
  go_enter Try.func3, Try.ntmps3
  go_wp2_with (fail)
  go_loopg [5, 6, 7, 8, 24] 8 (fun g v5 v6 _ _ v wr => ∃ (i : Nat) (A : Option Addr) (c : Nat) (a : List Pk) (B : Option Addr) (d : Nat) (b : List Pk), i + g = 8 ∧ v5 = .slice A a.length c ∧ v6 = .slice B b.length d ∧ v = .int .i64 i ∧ a.length ≤ i ∧ b.length ≤ i ∧ Hid (TwoAt w wr A c a B d b i i))
  case atStart => exact ⟨0, none, 0, [], none, 0, [], rfl, rfl, rfl, rfl, by simp, by simp, TwoAt.nil⟩
  case round =>
    obtain ⟨i, A, c, a, B, d, b, hg, rfl, rfl, rfl, hal, hbl, HI⟩ := hrel
    by_cases h8 : i < 8
    · have w1' : IntKind.i64.wrap (97 + (i : Int)) = 97 + (i : Int) := IntWalk.i64_in _ (by omega)
      have w5 : IntKind.u8.wrap (97 + (i : Int)) = 97 + (i : Int) := IntWalk.u8_in _ (by omega)
      have cv : (convert 24 9 (.slice (some ⟨wr.heap.size, 0, none⟩) 1 1)).run Try.prog (wr.alloc (.cells #[.int .u8 (97 + (i : Int))] 5)) = .ok (str [chr i]) (wr.alloc (.cells #[.int .u8 (97 + (i : Int))] 5)) := by
        have := chr_cv wr i 5
        rw [chr_val i (by omega)] at this
        exact this
      go_upto_region 6 with (fail)
      have HT0 := Lib.hid (HI.out.alloc (.cells #[.int .u8 (97 + (i : Int))] 5))
      generalize wr.alloc (.cells #[.int .u8 (97 + (i : Int))] 5) = W1 at HT0
      obtain ⟨qa, hqa⟩ : ∃ q, q = (decide (i < n0) && ((s0[i]?.getD 0).tmod 3 != 0)) := ⟨_, rfl⟩
      have HQa := Lib.hid hqa
      clear hqa cv HI
      go_cut [5, 6, 7, 8, 24, 43] (fun v5 v6 v7 v8 v24 v43 wc => v5 = .slice A a.length c ∧ v6 = .slice B b.length d ∧ v7 = .int .i64 i ∧ v8 = str [chr i] ∧ v24 = .int .i64 i ∧ v43 = .bool qa ∧ wc = W1)
      case first =>
        by_cases hin : i < n0
        · obtain ⟨b1, o1, u, rfl, _, hu, p0⟩ := (H0.out.2.1.keep (Same.any HT0.out.be)).at_ hin
          have hil : i < s0.length := by have := H0.out.1; omega
          rw [nums_at s0 i hil] at hu
          injection hu with hu
          subst hu
          have hq := HQa.out
          rw [decide_eq_true hin, List.getElem?_eq_getElem hil, Option.getD_some, Bool.true_and] at hq
          generalize s0[i] = x at p0 hq
          have i0 : (0 : Int) ≤ (i : Int) := by omega
          have i1 : (i : Int) < (n0 : Int) := by omega
          have hlt0 : decide ((i : Int) < (n0 : Int)) = true := decide_eq_true i1
          have hlt0' : decide (i < n0) = true := decide_eq_true hin
          subst hq
          go_wp2_with (fail)
          go_meet
          exact ⟨rfl, rfl, rfl, rfl, rfl, rfl, rfl⟩
        · have hq := HQa.out
          rw [decide_eq_false hin, Bool.false_and] at hq
          subst hq
          have hlt0 : decide ((i : Int) < (n0 : Int)) = false := decide_eq_false (by omega)
          have hlt0' : decide (i < n0) = false := decide_eq_false hin
          go_wp2_with (fail)
          go_meet
          exact ⟨rfl, rfl, rfl, rfl, rfl, rfl, rfl⟩
      case rest =>
        obtain ⟨rfl, rfl, rfl, rfl, rfl, rfl, rfl⟩ := hcut
        go_upto_if 43 with (fail)
        go_cut [5, 6, 7, 8, 24] (fun v5 v6 v7 v8 v24 wc => ∃ (A9 : Option Addr) (c9 : Nat) (a9 : List Pk), v5 = .slice A9 a9.length c9 ∧ v6 = .slice B b.length d ∧ v7 = .int .i64 i ∧ v8 = str [chr i] ∧ v24 = .int .i64 i ∧ a9.length ≤ i + 1 ∧ Hid (TwoAt w wc A9 c9 a9 B d b (i + 1) i))
        case first =>
          cases qa
          · go_wp2_with (fail)
            go_meet
            exact ⟨A, c, a, rfl, rfl, rfl, rfl, rfl, by omega, HT0.out.wideA⟩
          · have hin : i < n0 := by
              have := HQa.out
              rcases Nat.lt_or_ge i n0 with h | h
              · exact h
              · rw [decide_eq_false (by omega)] at this
                cases this
            obtain ⟨b1, o1, u, rfl, _, hu, p0⟩ := (H0.out.2.1.keep (Same.any HT0.out.be)).at_ hin
            have hil : i < s0.length := by have := H0.out.1; omega
            rw [nums_at s0 i hil] at hu
            injection hu with hu
            subst hu
            have hx := H0.out.2.2 _ (List.getElem_mem hil)
            generalize s0[i] = x at p0 hx
            have i0 : (0 : Int) ≤ (i : Int) := by omega
            have i1 : (i : Int) < (n0 : Int) := by omega
            have R0 := Lib.hid (fun W => rest_q x 4 W ((rsN x 4 : Nat) : Int) hx (by omega) (by omega) (rsN_eq _ _ (by omega)))
            have b0 := rsN_lt x 4 (by omega)
            generalize rsN x 4 = q0 at R0 b0
            have w9 : IntKind.i64.wrap (1 + (q0 : Int)) = 1 + (q0 : Int) := IntWalk.i64_in _ (by omega)
            clear hx
            go_wp2_with (fail)
            refine (R0.out _).mono ?_
            rintro e w' ⟨rfl, rfl⟩
            go_wp2_with ((at_builtin; refine app_pk _ rfl (.tmp 44) (.tmp 53) _ Try.underlying23 rfl (HT0.out.oa.alloc (.cells (pkc ([chr i], 1 + q0)).toArray 27)) rfl (Reads.new _ (pkc ([chr i], 1 + q0)) 2 1 27 Any trivial rfl) rfl (by simp [pkc, Value.oneCell']) (by omega) (by have := HT0.out.be.size; simp; omega) ?_; intro v5 w5' hown5 hg5 hat5; obtain ⟨A6, c6, rfl, _⟩ := own_form hown5; have fin := Lib.hid ((HT0.out.alloc _).appA (by omega) (v := 1 + q0) (by omega) hown5 hg5 hat5); clear hown5 hg5 hat5))
            go_meet
            exact ⟨A6, c6, a ++ [([chr i], 1 + q0)], by rw [List.length_append]; rfl, rfl, rfl, rfl, rfl, by rw [List.length_append, List.length_singleton]; omega, fin⟩
        case rest =>
          obtain ⟨A9, c9, a9, rfl, rfl, rfl, rfl, rfl, hal9, HT1⟩ := hcut
          go_upto_region 8 with (fail)
          rename World => W2
          have HT2 := HT1
          clear HT1 HT0 HQa
          obtain ⟨qb, hqb⟩ : ∃ q, q = (decide (i < n1) && ((s1[i]?.getD 0).tmod 3 != 0)) := ⟨_, rfl⟩
          have HQb := Lib.hid hqb
          clear hqb
          go_cut [5, 6, 7, 8, 24, 66] (fun v5 v6 v7 v8 v24 v66 wc2 => v5 = .slice A9 a9.length c9 ∧ v6 = .slice B b.length d ∧ v7 = .int .i64 i ∧ v8 = str [chr i] ∧ v24 = .int .i64 i ∧ v66 = .bool qb ∧ wc2 = W2)
          case first =>
            by_cases hin : i < n1
            · obtain ⟨b1, o1, u, rfl, _, hu, p0⟩ := (H1.out.2.1.keep (Same.any HT2.out.be)).at_ hin
              have hil : i < s1.length := by have := H1.out.1; omega
              rw [nums_at s1 i hil] at hu
              injection hu with hu
              subst hu
              have hq := HQb.out
              rw [decide_eq_true hin, List.getElem?_eq_getElem hil, Option.getD_some, Bool.true_and] at hq
              generalize s1[i] = x at p0 hq
              have i0 : (0 : Int) ≤ (i : Int) := by omega
              have i1 : (i : Int) < (n1 : Int) := by omega
              have hlt0 : decide ((i : Int) < (n1 : Int)) = true := decide_eq_true i1
              have hlt0' : decide (i < n1) = true := decide_eq_true hin
              subst hq
              go_wp2_with (fail)
              go_meet
              exact ⟨rfl, rfl, rfl, rfl, rfl, rfl, rfl⟩
            · have hq := HQb.out
              rw [decide_eq_false hin, Bool.false_and] at hq
              subst hq
              have hlt0 : decide ((i : Int) < (n1 : Int)) = false := decide_eq_false (by omega)
              have hlt0' : decide (i < n1) = false := decide_eq_false hin
              go_wp2_with (fail)
              go_meet
              exact ⟨rfl, rfl, rfl, rfl, rfl, rfl, rfl⟩
          case rest =>
            obtain ⟨rfl, rfl, rfl, rfl, rfl, rfl, rfl⟩ := hcut
            cases qb
            · go_wp2_with (fail)
              go_roundg (8 - (i + 1))
              case measure => omega
              case rel => exact ⟨i + 1, A9, c9, a9, B, d, b, by omega, rfl, rfl, by go_num, hal9, by omega, HT2.out.swap.wideA.swap⟩
            · have hin : i < n1 := by
                have := HQb.out
                rcases Nat.lt_or_ge i n1 with h | h
                · exact h
                · rw [decide_eq_false (by omega)] at this
                  cases this
              obtain ⟨b1, o1, u, rfl, _, hu, p0⟩ := (H1.out.2.1.keep (Same.any HT2.out.be)).at_ hin
              have hil : i < s1.length := by have := H1.out.1; omega
              rw [nums_at s1 i hil] at hu
              injection hu with hu
              subst hu
              have hx := H1.out.2.2 _ (List.getElem_mem hil)
              generalize s1[i] = x at p0 hx
              have i0 : (0 : Int) ≤ (i : Int) := by omega
              have i1 : (i : Int) < (n1 : Int) := by omega
              have R0 := Lib.hid (fun W => rest_q x 4 W ((rsN x 4 : Nat) : Int) hx (by omega) (by omega) (rsN_eq _ _ (by omega)))
              have b0 := rsN_lt x 4 (by omega)
              generalize rsN x 4 = q0 at R0 b0
              have w9 : IntKind.i64.wrap (1 + (q0 : Int)) = 1 + (q0 : Int) := IntWalk.i64_in _ (by omega)
              clear hx
              go_wp2_with (fail)
              refine (R0.out _).mono ?_
              rintro e w' ⟨rfl, rfl⟩
              go_wp2_with (at_builtin; refine app_pk _ rfl (.tmp 67) (.tmp 76) _ Try.underlying23 rfl (HT2.out.ob.alloc (.cells (pkc ([chr i], 1 + q0)).toArray 27)) rfl (Reads.new _ (pkc ([chr i], 1 + q0)) 2 1 27 Any trivial rfl) rfl (by simp [pkc, Value.oneCell']) (by omega) (by have := HT2.out.be.size; simp; omega) ?_; intro v5 w5' hown5 hg5 hat5; obtain ⟨A6, c6, rfl, _⟩ := own_form hown5; have fin := Lib.hid (((HT2.out.alloc _).swap.appA (by omega) (v := 1 + q0) (by omega) hown5 hg5 hat5).swap); clear hown5 hg5 hat5)
              go_roundg (8 - (i + 1))
              case measure => omega
              case rel => exact ⟨i + 1, A9, c9, a9, A6, c6, b ++ [([chr i], 1 + q0)], by omega, rfl, by rw [List.length_append]; rfl, by go_num, hal9, by rw [List.length_append, List.length_singleton]; omega, fin⟩
    · obtain rfl : i = 8 := by omega
      obtain ⟨_, _, ra⟩ := own_reads (by omega) HI.out.oa
      obtain ⟨_, _, rb⟩ := own_reads (by omega) HI.out.ob
      have HAB := Lib.hid (And.intro HI.out.sa.ok HI.out.sb.ok)
      have HR := Lib.hid (And.intro (ra.imp (D' := Any) (by omega) fun _ _ _ => trivial) (rb.imp (D' := Any) (by omega) fun _ _ _ => trivial))
      have HB0 := Lib.hid HI.out.be
      have hm1 := Lib.hid (@run_makeMap Try.prog)
      clear ra rb HI
      have T1 := Lib.hid (turns_any wr A a.length c a B b.length d b HR.out.1 rfl HAB.out.1 HR.out.2 rfl HAB.out.2)
      go_wp2_with (fail)
      refine T1.out.mono ?_
      unfold TurnsPost
      rintro e w1 ⟨hb1, A3, c3, ts, rfl, hts, htl, hrt⟩
      have HB1 := Lib.hid (HB0.out.trans (hb1.mono HB0.out.size))
      have HR1 := Lib.hid (And.intro (HR.out.1.keep (Same.any hb1)) (And.intro (HR.out.2.keep (Same.any hb1)) hrt))
      have HTs := Lib.hid hts
      clear hb1 hts hrt HR T1
      have T2 := Lib.hid (turns_any w1 A a.length c a A a.length c a HR1.out.1 rfl HAB.out.1 HR1.out.1 rfl HAB.out.1)
      go_wp2_with (fail)
      refine T2.out.mono ?_
      unfold TurnsPost
      rintro e w2 ⟨hb2, A4, c4, ts2, rfl, hts2, _, hrt2⟩
      obtain rfl := hts2.same
      have HB2 := Lib.hid (HB1.out.trans (hb2.mono HB1.out.size))
      have HR2 := Lib.hid (And.intro (HR1.out.1.keep (Same.any hb2)) (And.intro (HR1.out.2.1.keep (Same.any hb2)) (HR1.out.2.2.keep (Same.any hb2))))
      clear hb2 hts2 hrt2 HR1 T2
      have HBa := Lib.hid (show Below w2.heap.size w2 (w2.alloc (.cells #[str [97], .int .i64 2] 27)) from (Below.refl _ _).alloc (Nat.le_refl _) _)
      have hr3 : Reads (w2.alloc (.cells #[str [97], .int .i64 2] 27)) Any 2 (some ⟨w2.heap.size, 0, none⟩) 1 (pks [([97], 2)]) := Reads.new (D := Any) w2 (pks [([97], 2)]) 2 1 27 trivial rfl
      have T3 := Lib.hid (turns_any _ none 0 0 [] (some ⟨w2.heap.size, 0, none⟩) 1 1 [([97], 2)] Reads.empty rfl ⟨by simp, by simp, by simp, fun i h => absurd h (by simp)⟩ hr3 rfl ⟨by simp, fun p hp => by (simp at hp; subst hp; exact ⟨97, rfl, by decide, by decide⟩), fun p hp => by (simp at hp; subst hp; simp), fun i h => absurd h (by simp)⟩)
      clear hr3
      go_wp2_with (fail)
      refine T3.out.mono ?_
      unfold TurnsPost
      rintro e w3 ⟨hb3, A5, c5, ts3, rfl, hts3, _, hrt3⟩
      obtain rfl := hts3.one (by omega)
      have hb23 := HBa.out.trans (hb3.mono HBa.out.size)
      have HB3 := Lib.hid (HB2.out.trans (hb23.mono HB2.out.size))
      have HR3 := Lib.hid (And.intro (HR2.out.1.keep (Same.any hb23)) (And.intro (HR2.out.2.1.keep (Same.any hb23)) (And.intro (HR2.out.2.2.keep (Same.any hb23)) hrt3)))
      clear hb23 hb3 hts3 hrt3 HR2 T3
      have HBb := Lib.hid (show Below w3.heap.size w3 (w3.alloc (.cells #[str [97], .int .i64 0, .int .i64 2] 34)) from (Below.refl _ _).alloc (Nat.le_refl _) _)
      have hr4 : Reads (w3.alloc (.cells #[str [97], .int .i64 0, .int .i64 2] 34)) Any 3 (some ⟨w3.heap.size, 0, none⟩) 1 (trs [([97], 0, 2)]) := Reads.new (D := Any) w3 (trs [([97], 0, 2)]) 3 1 34 trivial rfl
      have EQ := Lib.hid (equal_trs A5 (some ⟨w3.heap.size, 0, none⟩) 1 c5 1 [([97], 0, 2)] _ (HR3.out.2.2.2.keep (Same.any HBb.out)) hr4 (by omega) rfl)
      clear hr4
      go_wp2_with (fail)
      refine EQ.out.mono ?_
      rintro e w4 ⟨rfl, hb4⟩
      have hb34 := HBb.out.trans (hb4.mono HBb.out.size)
      have HB4 := Lib.hid (HB3.out.trans (hb34.mono HB3.out.size))
      have HR4 := Lib.hid (And.intro (HR3.out.1.keep (Same.any hb34)) (And.intro (HR3.out.2.1.keep (Same.any hb34)) (HR3.out.2.2.1.keep (Same.any hb34))))
      clear hb34 hb4 HR3 EQ
      have hmm := hm1.out
      go_wp2_with (fail)
      obtain ⟨M, hM⟩ : ∃ M, M = w4.heap.size := ⟨_, rfl⟩
      have HW := Lib.hid (show OutW w4 (w4.alloc (.map #[] 0)) M (vOf (a.take 0)) from ⟨[], by rw [hM]; exact MapOf.new w4, OutAt.nil, (Below.refl _ _).alloc (Nat.le_refl _) _⟩)
      have HMw := Lib.hid (show w4.heap.size ≤ M by omega)
      rw [← hM]
      clear hM hmm hm1
      generalize w4.alloc (.map #[] 0) = W5 at HW ⊢
      go_loopw [122] (fun v wr => ∃ j : Nat, j ≤ a.length ∧ v = .int .i64 j ∧ Hid (OutW w4 wr M (vOf (a.take j)))) (fun v _ => a.length - (intOf v).toNat)
      case atStart => exact ⟨0, Nat.zero_le _, rfl, HW.out⟩
      case round =>
        rename World => wq
        obtain ⟨j, hj, rfl, HI⟩ := hrel
        by_cases hlt : j < a.length
        · obtain ⟨L, hL, hG, hb⟩ := HI.out
          obtain ⟨b1, o1, rfl, _, p0, p1⟩ := pks_cells (HR4.out.1.keep (Same.any hb)) hlt rfl
          have hok := okS_letter (HAB.out.1.nm _ (List.getElem_mem hlt))
          have hnx : OutAt (mput L (a[j]).1 (.int .i64 ((a[j]).2 : Nat))) (vOf (a.take (j + 1))) := (hG.put (a[j]).1 (a[j]).2).congr fun n => by rw [List.take_succ_eq_append_getElem hlt, vOf_snoc (asc_take HAB.out.1.asc hlt)]
          generalize a[j] = y at p0 p1 hok hnx
          obtain ⟨yn, yv⟩ := y
          simp only at p0 p1 hok hnx
          have HG := Lib.hid (And.intro hnx hok)
          have HL := Lib.hid (And.intro hL hb)
          clear hok hnx hL hG hb
          go_wp2_with (refine wpList_mupdate _ rfl (.tmp 126) (.tmp 128) (.tmp 130) _ rfl enc_S Try.underlying35 (b := M) (key := yn) rfl (by exact HL.out.1.alloc _) rfl HG.out.2 ?_; intro w6 hm6 hg6; have fin := Lib.hid (show OutW w4 w6 M (vOf (a.take (j + 1))) from ⟨_, hm6, HG.out.1, (HL.out.2.alloc HL.out.2.size _).grown hg6 (by have := HL.out.2.size; simp; omega) (fun k hk => by injection hk with hk; have := HMw.out; omega)⟩); clear hm6 hg6)
          exact ⟨⟨j + 1, by omega, by go_num, fin⟩, by simp [intOf]; omega⟩
        · have hfin : OutW w4 wq M (turnF a b (ts.take 0)) := by
            obtain ⟨L, h1, h2, h3⟩ := HI.out
            exact ⟨L, h1, h2.congr fun n => by rw [List.take_of_length_le (by omega)]; rfl, h3⟩
          have HF := Lib.hid hfin
          clear hfin HI HW
          go_wp2_with (fail)
          go_loopw [134] (fun v wr => ∃ j : Nat, j ≤ ts.length ∧ v = .int .i64 j ∧ Hid (OutW w4 wr M (turnF a b (ts.take j)))) (fun v _ => ts.length - (intOf v).toNat)
          case atStart => exact ⟨0, Nat.zero_le _, rfl, HF.out⟩
          case round =>
            rename World => wt
            obtain ⟨i, hi, rfl, HI⟩ := hrel
            by_cases hlt2 : i < ts.length
            · obtain ⟨L, hL, hG, hb⟩ := HI.out
              obtain ⟨b1, o1, rfl, _, p0, p1, p2⟩ := trs_cells (HR4.out.2.2.keep (Same.any hb)) hlt2 rfl
              have hok := okS_letter (HTs.out.letter HAB.out.1 HAB.out.2 (List.getElem_mem hlt2))
              obtain ⟨e1, e2, e3⟩ := (HTs.out.mem _).1 (List.getElem_mem hlt2)
              have hnx : OutAt (mput L (ts[i]).1 (.int .i64 ((ts[i]).2.2 : Nat))) (turnF a b (ts.take (i + 1))) := (hG.put (ts[i]).1 (ts[i]).2.2).congr fun n => by rw [List.take_succ_eq_append_getElem hlt2]; exact turnF_snoc e2 n
              have hcur := hG (ts[i]).1
              rw [turnF_old (not_mem_take HTs.out.nd hlt2), ← e1] at hcur
              have lk := fun o => ((hL.alloc o).lookup enc_S Try.underlying35 zero_i64 (a := (ts[i]).1) hok false)
              rw [hcur] at lk
              clear e1 e2 hcur
              generalize ts[i] = y at p0 p1 p2 hok hnx lk e3
              obtain ⟨yn, yo, yv⟩ := y
              simp only at p0 p1 p2 hok hnx lk e3
              have LK := lk (.cells #[str yn, .int .i64 (yo : Nat), .int .i64 (yv : Nat)] 34)
              have g1 : ((yo : Int) == (yv : Int)) = false := by simp; omega
              have g2 : (yo == yv) = false := by simp [e3]
              have HG := Lib.hid (And.intro hnx hok)
              have HL := Lib.hid (And.intro hL hb)
              clear hok hnx hL hG hb lk e3
              go_wp2_with (refine wpList_mupdate _ rfl (.tmp 152) (.tmp 154) (.tmp 156) _ rfl enc_S Try.underlying35 (b := M) (key := yn) rfl (by exact HL.out.1.alloc _) rfl HG.out.2 ?_; intro w6 hm6 hg6; have fin := Lib.hid (show OutW w4 w6 M (turnF a b (ts.take (i + 1))) from ⟨_, hm6, HG.out.1, (HL.out.2.alloc HL.out.2.size _).grown hg6 (by have := HL.out.2.size; simp; omega) (fun k hk => by injection hk with hk; have := HMw.out; omega)⟩); clear hm6 hg6)
              exact ⟨⟨i + 1, by omega, by go_num, fin⟩, by simp [intOf]; omega⟩
            · have hfin : OutW w4 wt M (goneF b (b.take 0)) := by
                obtain ⟨L, h1, h2, h3⟩ := HI.out
                exact ⟨L, h1, h2.congr fun n => by rw [List.take_of_length_le (by omega), turnF_all HTs.out]; rfl, h3⟩
              have HF2 := Lib.hid hfin
              clear hfin HI HF
              go_wp2_with (fail)
              go_loopw [160] (fun v wr => ∃ j : Nat, j ≤ b.length ∧ v = .int .i64 j ∧ Hid (OutW w4 wr M (goneF b (b.take j)))) (fun v _ => b.length - (intOf v).toNat)
              case atStart => exact ⟨0, Nat.zero_le _, rfl, HF2.out⟩
              case round =>
                rename World => wu
                obtain ⟨q, hq, rfl, HI⟩ := hrel
                by_cases hlt3 : q < b.length
                · obtain ⟨L, hL, hG, hb⟩ := HI.out
                  obtain ⟨b1, o1, rfl, _, p0, p1⟩ := pks_cells (HR4.out.2.1.keep (Same.any hb)) hlt3 rfl
                  have hok := okS_letter (HAB.out.2.nm _ (List.getElem_mem hlt3))
                  have hnx : OutAt (mdel L (b[q]).1) (goneF b (b.take (q + 1))) := (hG.del (b[q]).1).congr fun n => by rw [List.take_succ_eq_append_getElem hlt3]; exact goneF_snoc n
                  have hcur := hG (b[q]).1
                  have e1 : goneF b (b.take q) (b[q]).1 = (b[q]).2 := (if_neg (not_mem_take HAB.out.2.asc.nd hlt3)).trans (vOf_mem HAB.out.2.asc (List.getElem_mem hlt3))
                  rw [e1] at hcur
                  have lk := fun o => ((hL.alloc o).lookup enc_S Try.underlying35 zero_i64 (a := (b[q]).1) hok false)
                  rw [hcur] at lk
                  clear e1 hcur
                  generalize b[q] = y at p0 p1 hok hnx lk
                  obtain ⟨yn, yv⟩ := y
                  simp only at p0 p1 hok hnx lk
                  have LK := lk (.cells #[str yn, .int .i64 (yv : Nat)] 27)
                  have HG := Lib.hid (And.intro hnx hok)
                  have HL := Lib.hid (And.intro hL hb)
                  clear hok hnx hL hG hb lk
                  go_wp2_with (refine wpList_mdelete _ rfl (.tmp 171) (.tmp 173) _ rfl enc_S Try.underlying35 (b := M) (key := yn) rfl (by exact HL.out.1.alloc _) rfl HG.out.2 ?_; intro w6 hm6 hg6; have fin := Lib.hid (show OutW w4 w6 M (goneF b (b.take (q + 1))) from ⟨_, hm6, HG.out.1, (HL.out.2.alloc HL.out.2.size _).grown hg6 (by have := HL.out.2.size; simp; omega) (fun k hk => by injection hk with hk; have := HMw.out; omega)⟩); clear hm6 hg6)
                  exact ⟨⟨q + 1, by omega, by go_num, fin⟩, by simp [intOf]; omega⟩
                · obtain ⟨L, hL, hG, hb⟩ := HI.out
                  have hz : ∀ p ∈ L, p.2 = .int .i64 0 := fun p hp => hG.zero (fun n => by rw [List.take_of_length_le (by omega)]; exact goneF_all b n) (MapOf.keys enc_S hL) (n := p.1) hp
                  have HL := Lib.hid (And.intro hL (And.intro hb hz))
                  have HS := Lib.hid (show Below w.heap.size w wu from HB4.out.trans (hb.mono HB4.out.size))
                  clear hL hG hb hz HI HF2
                  go_wp2_with (refine wpList_mrange _ rfl (.tmp 175) _ rfl Try.underlying35 rfl (by exact HL.out.1) ?_; intro w7 hit hb7 hsz)
                  go_frame
                  obtain ⟨R, hR⟩ : ∃ R, R = wu.heap.size := ⟨_, rfl⟩
                  rw [← hR] at hit ⊢
                  have HI7 := Lib.hid hit
                  have HB7 := Lib.hid (HS.out.trans (hb7.mono HS.out.size))
                  have hMR : M ≠ R := by have := HL.out.1.lt; omega
                  have HRr := Lib.hid (show w.heap.size ≤ R by have := HS.out.size; omega)
                  clear hit hb7 hsz hR
                  go_loopg [23] L.length (fun g _ wr => ∃ left, Hid (left.length = g ∧ IterOf str okS wr M R L left ∧ (∀ p ∈ left, p ∈ L) ∧ Below w.heap.size w wr))
                  case atStart => exact ⟨L, rfl, HI7.out, fun _ h => h, HB7.out⟩
                  case round =>
                    obtain ⟨left, HJ⟩ := hrel
                    go_wp2_with (refine wpList_mnext _ rfl (.tmp 176) rfl rfl HJ.out.2.1 hMR (fun h0 => ?_) ?_; rotate_left; intro x v l1 l2 w8 h0 hit8 hg8 hs8 hent; obtain rfl : v = .int .i64 0 := HL.out.2.2 (x, v) (HJ.out.2.2.1 (x, v) (by rw [h0]; simp)); have hb8 : Below w.heap.size w w8 := (HJ.out.2.2.2.grown hg8 HJ.out.2.2.2.size (fun q hq => by injection hq with hq; have := HRr.out; omega)); have H8 := Lib.hid hb8; have H0 := Lib.hid h0; have HIT := Lib.hid hit8; clear h0 hb8 hit8 hg8 hs8)
                    · go_roundg (l1 ++ l2).length
                      case measure =>
                        have e1 := HJ.out.1
                        rw [H0.out] at e1
                        simp at e1 ⊢
                        omega
                      case rel =>
                        exact ⟨l1 ++ l2, rfl, HIT.out, fun p hp => HJ.out.2.2.1 p (by rw [H0.out]; rcases List.mem_append.1 hp with hp | hp; exact List.mem_append_left _ hp; exact List.mem_append_right _ (List.mem_cons_of_mem _ hp)), H8.out⟩
                    · go_ret
                      exact ⟨rfl, HJ.out.2.2.2⟩
end Go.Proofs.Ytijniccmgjokoaa
