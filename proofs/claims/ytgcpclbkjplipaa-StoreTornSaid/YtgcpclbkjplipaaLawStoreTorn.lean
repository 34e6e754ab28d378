/- StoreTorn returns true for every input, and leaves its argument as it was. No condition. -/
import Derived.Test.YtgcpclbkjplipaaRows
import Derived.Test.YtgcpclbkjplipaaPart52
import Derived.Deep.RegionHeld3
set_option linter.unusedVariables false
namespace Go.Proofs.Ytgcpclbkjplipaa
open Go.RowKit Go.Mem Go.Val Go.Chunk

theorem used_uniq (ss : List Snp) (q j k : Nat) (hj : j ≤ ss.length) (hk : k ≤ ss.length) (h1 : usedE ss j ≤ q) (h2 : j < ss.length → q < usedE ss (j + 1)) (h3 : usedE ss k ≤ q) (h4 : k < ss.length → q < usedE ss (k + 1)) : j = k := by
  have mono : ∀ a b, a ≤ b → b ≤ ss.length → usedE ss a ≤ usedE ss b := fun a b h hl => by
    rcases Nat.lt_or_ge a b with h5 | h5
    · exact Nat.le_of_lt (usedE_lt ss a b h5 hl)
    · rw [show a = b by omega]; exact Nat.le_refl _
  rcases Nat.lt_trichotomy j k with h | h | h
  · have := mono (j + 1) k h hk
    have := h2 (by omega)
    omega
  · exact h
  · have := mono (k + 1) j h hj
    have := h4 (by omega)
    omega

set_option maxRecDepth 100000 in
set_option maxHeartbeats 8000000 in
theorem storeTorn_any (A : Option Addr) (n c : Nat) (l : List Raw) (rss : List (List Value)) (m0 n0 : Int) (w : World) (hn : n = l.length) (hnc : n ≤ c) (hcm : c ≤ maxLen) (hr : Reads w Any 4 A n rss.flatten) (ha : All2 (RawCells w Any) rss l) (hi : I64 m0) (hk0 : I64 n0) :
    Calls Try.prog 12 #[.slice A n c, .int .i64 m0, .int .i64 n0] w fun e w' => e = .returned (.bool true) ∧ Below w.heap.size w w' := by
  have Hn := Lib.hid hn
  clear hn
  have hcm9 : c ≤ 9223372036854775807 := by unfold maxLen at hcm; omega
  have hm0 := restI_bd m0 4 (by omega)
  obtain ⟨m1, hm1⟩ : ∃ t : Nat, restI m0 4 = (t : Int) := ⟨(restI m0 4).toNat, by omega⟩
  have R0 := Lib.hid (fun W => rest_q m0 4 W (m1 : Int) hi (by omega) (by omega) hm1)
  rw [hm1] at hm0
  obtain ⟨M, hM⟩ : ∃ M, M = 1 + m1 := ⟨_, rfl⟩
  have hM' : (1 : Int) + (m1 : Int) = (M : Int) := by omega
  have hM4 : M ≤ 4 := by omega
  have hM1 : 1 ≤ M := by omega
  clear hm1 hM hm0
  obtain ⟨B, hB⟩ : ∃ B, B = w.heap.size := ⟨_, rfl⟩
  have HB := Lib.hid hB
  go_enter Try.func12, Try.ntmps12
  go_wp2_with (go_at_call 17; refine (R0.out _).mono ?_; rintro e w' ⟨rfl, rfl⟩)
  try rw [hM']
  try rw [← hB]
  clear hM' hB R0
  go_loopw [24, 7, 9, 8] (fun i lg al en wr => ∃ (k nl cl : Nat) (Al : Option Addr), k ≤ M ∧ i = .int .i64 (k : Nat) ∧ lg = .slice Al nl cl ∧ B ≤ wr.heap.size ∧ Hid (TornSt l B w wr k Al nl cl al en)) (fun i _ _ _ _ => M - (intOf i).toNat)
  case atStart =>
    refine ⟨0, 0, 0, none, by omega, rfl, rfl, by have := HB.out; simp; omega, ?_⟩
    have h1 : (1 : Nat) ≤ maxLen := by unfold maxLen; omega
    have := own_new w [.int .i64 0] 3 B (by rw [HB.out]; omega) h1
    refine ⟨⟨[], World.ownsRow_nil _ _ _ _, All2.nil⟩, by rw [HB.out]; rw [HB.out] at this; simpa [endsV, tornS, usedE] using this, Reads.empty, Nat.le_refl _, Nat.zero_le _, by simp [Value.ownBlock], by rw [HB.out]; exact (Below.refl _ _).alloc (Nat.le_refl _) _, by simp [tornS]⟩
  case round =>
    obtain ⟨k, nl, cl, Al, hk, rfl, rfl, hBw, HS⟩ := hrel
    have hnl := HS.out.small (by omega)
    obtain ⟨Aa, ca, Ae, ce, rfl, rfl⟩ := HS.out.forms
    by_cases hlt : k < M
    · have hwr : Below w.heap.size w wr := by rw [← HB.out]; exact HS.out.bel
      have hsame : Same Any w wr := Same.any hwr
      obtain ⟨mn, hmn⟩ : ∃ mn, mn = min n k := ⟨_, rfl⟩
      have hmin : ∀ (ts : Array TypeId) (t : TypeId) (W : World), (Builtin.min_ ts t #[.int .i64 (n : Int), .int .i64 (k : Int)]).run Try.prog W = .ok (.int .i64 (mn : Int)) W := fun ts t W => by
        rw [run_min_int2]
        have : (if (k : Int) < (n : Int) then (k : Int) else (n : Int)) = (mn : Int) := by split <;> omega
        rw [this]
      have hdrop : l.drop mn = l.drop k := by
        rcases Nat.lt_or_ge k n with h | h
        · rw [show mn = k by omega]
        · rw [List.drop_of_length_le (by have := Hn.out; omega), List.drop_of_length_le (by have := Hn.out; omega)]
      obtain ⟨A', m, rss', hsl, hm, hmc, hr', ha'⟩ := tail_raws Hn.out hnc hcm hr ha mn (mn : Int) (by omega) rfl
      rw [hdrop] at hm ha'
      have hw13 : IntKind.i64.wrap ((k : Int) * 13) = (k : Int) * 13 := IntWalk.i64_in _ (by omega)
      have SN := Lib.hid (fun (W : World) (hW : W.heap = wr.heap) => snapOf_any ((k : Int) * 13) (l.drop k) A' m (c - mn) rss' W ⟨by omega, by omega⟩ hm hmc (by unfold maxLen; omega) ((hr'.keep hsame).keep (Same.of_heap hW)) ((ha'.imp fun _ _ h => RawCells.stable.keep h hsame).imp fun _ _ h => RawCells.stable.keep h (Same.of_heap hW)))
      have hmn2 : mn ≤ n := by omega
      clear hr' ha' hm hdrop hmn hw13
      go_wp2_with (fail)
      refine (SN.out wr rfl).mono ?_
      rintro e1 w1 ⟨cs1, rfl, hv1, hb1⟩
      have hnice := snF_nice hv1
      obtain ⟨P1, p1, P2, p2, rfl⟩ := SnCells.out hv1
      obtain ⟨s, hs⟩ : ∃ s, s = snF (l.drop k) ((k : Int) * 13) := ⟨_, rfl⟩
      have HSs := Lib.hid hs
      rw [← hs] at hv1 hnice ⊢
      clear SN hs hsl hmin hsame
      obtain ⟨w2, hw2⟩ : ∃ w2, w2 = w1.alloc (.cells #[.int .i64 s.time, .slice P1 s.parcels.length p1, .slice P2 s.ways.length p2] 85) := ⟨_, rfl⟩
      have bS : Blk w2 w1.heap.size 85 [.int .i64 s.time, .slice P1 s.parcels.length p1, .slice P2 s.ways.length p2] := by rw [hw2]; exact Blk.new w1 _ _
      have hb2 : Below w1.heap.size w1 w2 := by rw [hw2]; exact (Below.refl _ _).alloc (Nat.le_refl _) _
      have hr2 : Below wr.heap.size wr w2 := hb1.trans (hb2.mono hb1.size)
      have hv2 := (SnCells.stable 41).keep hv1 (Same.any hb2)
      have AD := Lib.hid (add_any Al nl cl (logE (tornS l k)) s _ w2 ((HS.out.log.keep (Same.any hr2)).imp (by omega) fun _ _ _ => trivial) (by omega) ((SnCells.stable 41).imp hv2 fun _ _ _ => trivial) hnice)
      have HNl := Lib.hid HS.out.nl_eq
      have Hnice := Lib.hid hnice
      obtain ⟨G, hG⟩ : ∃ G, G = w1.heap.size := ⟨_, rfl⟩
      have lG : w1.heap.size < w2.heap.size := bS.lt
      have lg1 := hb1.size
      rw [← hG] at bS lG lg1
      have s0 := bS.cell 0
      have s1 := bS.cell 1
      have s2 := bS.cell 2
      simp only [List.getElem?_cons_succ, List.getElem?_cons_zero] at s0 s1 s2
      have HG := Lib.hid hG
      have HW2 := Lib.hid hw2
      clear hv1 hnice hw2 hG hb1 hb2
      go_wp2_with (fail)
      rw [← HW2.out, ← HG.out]
      clear HW2 HG
      go_wp2_with (fail)
      refine AD.out.mono ?_
      rintro e3 w3 ⟨A3, c3, rfl, ho3, hb3⟩
      have hlen : Hid ((logE (tornS l k) ++ partE (snapE 41 s)).length = nl + (4 + (snapE 41 s).length)) := by unfold Hid; rw [List.length_append, partE_len, ← HNl.out]
      have hmax := snapE_max s Hnice.out
      obtain ⟨hnc3, hcm3, hr3⟩ := own_reads (by omega) ho3
      obtain ⟨n3, hn3⟩ : ∃ n3, n3 = (logE (tornS l k) ++ partE (snapE 41 s)).length := ⟨_, rfl⟩
      rw [← hn3] at hnc3 hr3 hlen ⊢
      have hd : decide ((n3 : Int) ≤ (nl : Int)) = false := by have := hlen.out; simp; omega
      have hlt3 : nl < n3 := by have := hlen.out; omega
      have hle3 : n3 ≤ 200000000 := by have := hlen.out; omega
      have hb23 : Below wr.heap.size wr w3 := hr2.trans (hb3.mono hr2.size)
      have hv3 := (SnCells.stable 41).imp ((SnCells.stable 41).keep hv2 (Same.any hb3)) (D' := fun b => wr.heap.size ≤ b) fun b hb _ => hb
      have bS3 := bS.below hb3 bS.lt
      have r3 := hr3.imp (by omega) (D' := fun b => wr.heap.size ≤ b) fun b hb _ => by have := hr2.size; omega
      have hz23 := hb23.size
      have t0 := bS3.cell 0
      have t1 := bS3.cell 1
      have t2 := bS3.cell 2
      simp only [List.getElem?_cons_succ, List.getElem?_cons_zero] at t0 t1 t2
      have lG3 := bS3.lt
      obtain ⟨vss, hoa, hall⟩ := HS.out.all
      have hoa3 := hoa.kept (row := none) (World.grownBy.mk hb23.os hb23.tape hb23.output hb23.size fun i hi _ => hb23.block i hi) (by simp only [Value.ownBlock]; cases Aa <;> simp)
      have hoe3 := HS.out.ends.kept (row := none) (World.grownBy.mk hb23.os hb23.tape hb23.output hb23.size fun i hi _ => hb23.block i hi) (by simp only [Value.ownBlock]; cases Ae <;> simp)
      have HV3 := Lib.hid hv3
      have HR3 := Lib.hid r3
      have HA := Lib.hid hall
      have HB3 := Lib.hid hb23
      have HO3 := Lib.hid hn3
      have Hc3 := Lib.hid hcm3
      have hcm3' : c3 ≤ 9223372036854775807 := by unfold maxLen at hcm3; omega
      clear AD hr2 hb3 hb23 hv2 hv3 bS bS3 s0 s1 s2 hall ho3 hr3 r3 hn3 hmax lG hcm3
      have hne := Lib.hid HS.out.ne
      have kee : ∀ v4 w4, (w3.alloc (.cells #[.int .i64 s.time, .slice P1 s.parcels.length p1, .slice P2 s.ways.length p2] 85)).grownBy w4 (Value.slice Aa k ca).ownBlock → w4.ownsRow B 85 3 v4 (k + 1) (vss.flatten ++ [.int .i64 s.time, .slice P1 s.parcels.length p1, .slice P2 s.ways.length p2]) →
          w4.ownsRow B 3 1 (.slice Ae (k + 1) ce) (k + 1) (endsV (tornS l k)) ∧ B ≤ w4.heap.size ∧ ∃ A4 c4, v4 = .slice A4 (k + 1) c4 := fun v4 w4 hg4 ho4 => by
        refine ⟨(hoe3.alloc (.cells #[.int .i64 s.time, .slice P1 s.parcels.length p1, .slice P2 s.ways.length p2] 85)).kept hg4 ?_, ?_, ?_⟩
        · have hne := hne.out
          cases hab : (Value.slice Aa k ca).ownBlock with
          | none => cases (Value.slice Ae (k + 1) ce).ownBlock <;> simp
          | some b => exact .inr (hne b hab)
        · have := hg4.size
          simp at this
          omega
        · obtain ⟨A4, c4, e, _⟩ := own_form ho4
          exact ⟨A4, c4, e⟩
      have Kee := Lib.hid kee
      clear kee hoe3
      go_wp2_with (first
        | (at_builtin; refine app_Sn _ rfl (.tmp 52) (.tmp 54) rfl (hoa3.alloc _) rfl (Reads.new (D := Any) _ [.int .i64 s.time, .slice P1 s.parcels.length p1, .slice P2 s.ways.length p2] 3 1 _ trivial rfl) rfl (by simp [Value.oneCell']) (by omega) (by simp; omega) ?_; intro v4 w4 hown4 hg4 hat4; obtain ⟨hoe4, hz4, A4, c4, rfl⟩ := Kee.out _ _ hg4 hown4; have HA4 := Lib.hid (And.intro hown4 (And.intro hg4 hat4)); clear hown4 hg4 hat4 hoa3)
        | (at_builtin; refine app_in _ rfl (.tmp 56) (.tmp 59) rfl (hoe4.alloc _) rfl (Reads.new (D := Any) _ [.int .i64 (n3 : Nat)] 1 1 _ trivial rfl) rfl (by simp [Value.oneCell']) (by omega) (by simp; omega) ?_; intro v5 w5 hown5 hg5 hat5; have HA5 := Lib.hid (And.intro hown5 (And.intro hg5 hat5)); have hz5 := hg5.size; simp at hz5; clear hown5 hg5 hat5 hoe4))
      refine ⟨⟨k + 1, n3, c3, A3, by omega, by go_num, rfl, by omega, ?_⟩, by simp [intOf]; omega⟩
      obtain ⟨g1, g2, g3⟩ := HA4.out
      obtain ⟨g4, g5, g6⟩ := HA5.out
      have es := HSs.out
      subst es
      have hr3 := HR3.out
      exact HS.out.next hBw HB3.out HV3.out Hnice.out hr3 hnc3 Hc3.out vss HA.out g1 g2 g3 g4 g5 g6
    · obtain rfl : k = M := by omega
      obtain ⟨ss, hss⟩ : ∃ ss, ss = tornS l k := ⟨_, rfl⟩
      have hsl : ss.length = k := by rw [hss, tornS_len]
      obtain ⟨vss, hoa, hall⟩ := HS.out.all
      have hends := HS.out.ends
      have hlog := HS.out.log
      have hnice := HS.out.nice
      have hnle := HS.out.nl_eq
      have hnc' := HS.out.nc
      have hcm' := HS.out.cm
      have hbel := HS.out.bel
      rw [← hss] at hall hends hlog hnice hnle
      have huse : usedE ss k = nl := by rw [hnle, ← usedE_all, hsl]
      obtain ⟨hec, hem, her⟩ := own_reads (by omega) hends
      obtain ⟨hac, ham, har⟩ := own_reads (by omega) hoa
      have hcl9 : cl ≤ 9223372036854775807 := by unfold maxLen at hcm'; omega
      have hq0 := restI_bd n0 ((nl : Int) + 1) (by omega)
      obtain ⟨q, hq⟩ : ∃ q : Nat, restI n0 ((nl : Int) + 1) = (q : Int) := ⟨(restI n0 ((nl : Int) + 1)).toNat, by omega⟩
      have RQ := Lib.hid (fun W => rest_q n0 ((nl : Int) + 1) W (q : Int) hk0 (by omega) (by omega) hq)
      rw [hq] at hq0
      have hqn : q ≤ nl := by omega
      have hlq : Reads wr Any 1 Al q (u8s (((ss.map (snapE 41)).flatMap partE).take q)) := by
        have h1 := (hlog.imp (by omega) (D' := Any) fun _ _ _ => trivial).first (m := q) (by omega)
        rw [Nat.mul_one, u8s_take] at h1
        exact h1
      obtain ⟨hsl1, _⟩ := slice_h (P := Try.prog) (c := cl) _ _ Try.underlying23 (by kernel_rfl) hlog hnc' q (by omega) (q : Int) rfl
      have LT := Lib.hid (last_any ss hnice q Al cl wr (by rw [hsl, huse]; exact hqn) (by omega) (by omega) (by omega) (by unfold maxLen; omega) hlq)
      have Hsl := Lib.hid hsl
      have Huse := Lib.hid huse
      have hce : ∃ b off, Ae = some ⟨b, off, none⟩ ∧ ∀ i, i ≤ k → wr.cell? ⟨b, off + i, none⟩ = some (.int .i64 (usedE ss i : Nat)) := by
        obtain ⟨b, off, e, _, hc⟩ := her.2 (by omega)
        exact ⟨b, off, e, fun i hi => hc i _ (endsV_at ss i (by omega))⟩
      obtain ⟨bE, oE, rfl, hce⟩ := hce
      have Hce := Lib.hid hce
      have Hall := Lib.hid (And.intro har (hall.imp (S := SnCells 41 wr (fun b => B ≤ b)) fun x y h => (SnCells.stable 41).imp h fun b hb _ => hb.1))
      have Hbel := Lib.hid hbel
      have Hss := Lib.hid hss
      clear hq hq0 hlq hlog hends hoa hall hnice hnle huse hsl hbel har her hce hss hec hem hac ham hr ha
      go_wp2_with (go_at_call 17; refine (RQ.out _).mono ?_; rintro e w' ⟨rfl, rfl⟩)
      clear RQ
      go_loop [14] (fun v => ∃ j : Nat, j ≤ k ∧ v = .int .i64 (j : Nat) ∧ Hid (usedE ss j ≤ q)) (fun v => k - (intOf v).toNat)
      case atStart => exact ⟨0, by omega, rfl, by unfold Hid; rw [usedE_zero]; omega⟩
      case round =>
        obtain ⟨j, hj, rfl, hu⟩ := hrel
        by_cases hc : j < k ∧ usedE ss (j + 1) ≤ q
        · obtain ⟨hjk, huj⟩ := hc
          have hcell := Hce.out (j + 1) (by omega)
          have Huj := Lib.hid huj
          generalize usedE ss (j + 1) = U at hcell huj
          have hdu : decide ((U : Int) ≤ (q : Int)) = true := by simp; omega
          have i1 : (0 : Int) ≤ (j : Int) + 1 := by omega
          have i2 : (j : Int) + 1 < ((k + 1 : Nat) : Int) := by omega
          go_wp2_with (fail)
          go_round
          case rel => exact ⟨j + 1, by omega, by go_num, Huj⟩
          case measure => simp [intOf]; omega
        · have Hj : Hid (usedE ss j ≤ q ∧ (j < k → q < usedE ss (j + 1))) := ⟨hu.out, fun h => by
            rcases Nat.lt_or_ge q (usedE ss (j + 1)) with h2 | h2
            · exact h2
            · exact absurd ⟨h, h2⟩ hc⟩
          clear hc hu
          by_cases hjk : j < k
          case' pos =>
            have hcell := Hce.out (j + 1) (by omega)
            have hgt := Hj.out.2 hjk
            generalize usedE ss (j + 1) = U at hcell hgt
            have hdu : decide ((U : Int) ≤ (q : Int)) = false := by simp; omega
            have i1 : (0 : Int) ≤ (j : Int) + 1 := by omega
            have i2 : (j : Int) + 1 < ((k + 1 : Nat) : Int) := by omega
            go_wp2_with (fail)
            clear hcell hdu i1 i2 hgt
          case' neg => go_wp2_with (fail)
          all_goals
            refine LT.out.mono ?_
            rintro e5 w5 ⟨k', l1, l2, l3, hb5, (⟨rfl, rfl⟩ | ⟨s, cs, hk0, hs, rfl, hv5⟩)⟩
            · have hj0 : j = 0 := used_uniq ss q j 0 (by have := Hsl.out; omega) (by omega) Hj.out.1 (fun h => Hj.out.2 (by have := Hsl.out; omega)) l2 l3
              have hbf : Below w.heap.size w w5 := by rw [← HB.out]; exact Hbel.out.trans (hb5.mono hBw)
              have Hbf := Lib.hid hbf
              subst hj0
              clear l1 l2 l3 hb5 hbf
              rw [show ((0 : Nat) : Int) = 0 from rfl]
              first
                | exact absurd hM1 (by omega)
                | (go_wp2_with (fail)
                   go_ret
                   exact ⟨by simp, Hbf.out.alloc Hbf.out.size _⟩)
            · have hjj : j = k' := used_uniq ss q j k' (by have := Hsl.out; omega) l1 Hj.out.1 (fun h => Hj.out.2 (by have := Hsl.out; omega)) l2 l3
              subst hjj
              obtain ⟨i, rfl⟩ : ∃ i, j = i + 1 := ⟨j - 1, by omega⟩
              simp only [Nat.add_sub_cancel] at hs
              obtain ⟨har, hall⟩ := Hall.out
              have hil : i < ss.length := by have := Hsl.out; omega
              obtain ⟨gA, oA, csA, rfl, _, hvA, hcA⟩ := har.elem (SnCells.stable 41) hall Hsl.out.symm hil
              have hsi : ss[i] = s := by rw [List.getElem?_eq_getElem hil] at hs; injection hs
              rw [hsi] at hvA
              have hcE := Hce.out (i + 1) (by omega)
              obtain ⟨T1, t1, T2, t2, rfl⟩ := SnCells.out hv5
              obtain ⟨Q1, y1, Q2, y2, rfl⟩ := SnCells.out hvA
              have sm5 : ∀ D : Nat → Prop, Same D wr w5 := fun D => Same.any hb5
              obtain ⟨w6, hw6⟩ : ∃ w6, w6 = w5.alloc (.cells #[.int .i64 s.time, .slice T1 s.parcels.length t1, .slice T2 s.ways.length t2] 85) := ⟨_, rfl⟩
              have bT : Blk w6 w5.heap.size 85 [.int .i64 s.time, .slice T1 s.parcels.length t1, .slice T2 s.ways.length t2] := by rw [hw6]; exact Blk.new w5 _ _
              have hb6 : Below w5.heap.size w5 w6 := by rw [hw6]; exact (Below.refl _ _).alloc (Nat.le_refl _) _
              have hb56 : Below wr.heap.size wr w6 := hb5.trans (hb6.mono hb5.size)
              have sm6 : ∀ D : Nat → Prop, Same D wr w6 := fun D => Same.any hb56
              have hbf : Below w.heap.size w w6 := by rw [← HB.out]; exact Hbel.out.trans (hb56.mono hBw)
              have c1 := (sm6 Any).cell trivial hcE
              have a0 := (sm6 Any).cell trivial (hcA 0 _ rfl)
              have a1 := (sm6 Any).cell trivial (hcA 1 _ rfl)
              have a2 := (sm6 Any).cell trivial (hcA 2 _ rfl)
              simp only [Nat.add_zero, ← Nat.add_assoc] at a0 a1 a2
              have t0 := bT.cell 0
              have t1' := bT.cell 1
              have t2' := bT.cell 2
              simp only [List.getElem?_cons_succ, List.getElem?_cons_zero] at t0 t1' t2'
              have lT := bT.lt
              have SE := Lib.hid (fun (W : World) (hW : W.heap = w6.heap) => sameSn_eq s _ _ W ((SnCells.stable 41).imp ((SnCells.stable 41).keep ((SnCells.stable 41).keep hv5 (Same.any hb6)) (Same.of_heap hW)) (D' := Any) fun _ _ _ => trivial) ((SnCells.stable 41).imp ((SnCells.stable 41).keep ((SnCells.stable 41).keep hvA (sm6 _)) (Same.of_heap hW)) (D' := Any) fun _ _ _ => trivial))
              obtain ⟨G, hG⟩ : ∃ G, G = w5.heap.size := ⟨_, rfl⟩
              rw [← hG] at t0 t1' t2' lT
              have Hbf := Lib.hid hbf
              have HW6 := Lib.hid hw6
              have HG := Lib.hid hG
              obtain ⟨U, hU⟩ : ∃ U, U = usedE ss (i + 1) := ⟨_, rfl⟩
              rw [← hU] at c1 ⊢
              have hik : i + 1 ≤ k := by have := Hsl.out; omega
              clear hs hsi hv5 hvA hcA hcE har hall l1 l2 l3 hb5 sm5 sm6 bT hb6 hb56 hbf hw6 hG hU LT
              go_wp2_with (fail)
              rw [← HW6.out, ← HG.out]
              clear HW6 HG
              have i0 : (0 : Int) ≤ (i : Int) := by omega
              have i1 : (i : Int) < (k : Int) := by omega
              have i2 : (0 : Int) ≤ (i : Int) + 1 := by omega
              have i3 : (i : Int) + 1 < ((k + 1 : Nat) : Int) := by omega
              have lE := lt_of_cell c1
              have lA := lt_of_cell a0
              have hw1 : IntKind.i64.wrap ((i : Int) + 1 - 1) = (i : Int) := by rw [IntWalk.i64_in _ (by omega)]; omega
              have hw2 : IntKind.i64.wrap (((i + 1 : Nat) : Int) - 1) = (i : Int) := by rw [IntWalk.i64_in _ (by omega)]; omega
              have hw3 : IntKind.i64.wrap (i : Int) = (i : Int) := IntWalk.i64_in _ (by omega)
              go_region_held3 (fun w' => w'.cell? ⟨G, 0, none⟩ = some (.int .i64 s.time) ∧ w'.cell? ⟨G, 1, none⟩ = some (.slice T1 s.parcels.length t1) ∧ w'.cell? ⟨G, 2, none⟩ = some (.slice T2 s.ways.length t2) ∧ w'.cell? ⟨bE, oE + (i + 1), none⟩ = some (.int .i64 (U : Nat)) ∧ w'.cell? ⟨gA, oA + i * 3, none⟩ = some (.int .i64 s.time) ∧ w'.cell? ⟨gA, oA + i * 3 + 1, none⟩ = some (.slice Q1 s.parcels.length y1) ∧ w'.cell? ⟨gA, oA + i * 3 + 2, none⟩ = some (.slice Q2 s.ways.length y2)) (go_keep) ((go_at_call 44; refine (SE.out (World.drew w6) rfl).mono ?_; rintro e7 w7 ⟨rfl, hb7⟩; have k0 := (hb7.cell (p := ⟨G, 0, none⟩) lT).trans t0; have k1 := (hb7.cell (p := ⟨G, 1, none⟩) lT).trans t1'; have k2 := (hb7.cell (p := ⟨G, 2, none⟩) lT).trans t2'; have k3 := (hb7.cell (p := ⟨bE, oE + (i + 1), none⟩) lE).trans c1; have k4 := (hb7.cell (p := ⟨gA, oA + i * 3, none⟩) lA).trans a0; have k5 := (hb7.cell (p := ⟨gA, oA + i * 3 + 1, none⟩) lA).trans a1; have k6 := (hb7.cell (p := ⟨gA, oA + i * 3 + 2, none⟩) lA).trans a2))
              go_wp2_with (fail)
              go_ret
              exact ⟨by simp, Hbf.out.trans ((below_d hb7).mono Hbf.out.size)⟩
end Go.Proofs.Ytgcpclbkjplipaa
namespace Go.Proofs.Ytgcpclbkjplipaa.storeTorn
open Go.ChangeShapes Go.WideShapes Go.ChangeAt Go.RowKit Go.Mem Go.Law

theorem own : ownKnob Try.prog.godebug = none := by kernel_rfl
theorem laidOut : laidOutB Try.prog = true := by kernel_rfl

set_option maxRecDepth 100000 in
theorem lifted (os : Os) (started : os.Started) (H : Type) (enc : TypeId × Value → H) :
    ReturnsInHanded {} Try.checked os 12 .any (Rows.storeTornSpec.pre6 enc Try.prog Try.f12 Rows.storeTornRow.domain false) (Rows.storeTornSpec.post enc Try.prog Try.f12 false true false false) := by
  refine returnsInHanded_of_change (C := Try.checked) own started (by kernel_rfl) Try.func12
    (ChangeSpec.witness6 (enc := enc) (C := Try.checked) false ⟨#[], #[.slice none 0 0, .int .i64 0, .int .i64 0], []⟩ 8 (by kernel_rfl) (by kernel_rfl) (by kernel_rfl) (by kernel_rfl)) ?_
  intro W base args ds gs before hval0 hW hcnd _
  have hval : ∀ (j : Nat) t v, Try.f12.params[j]? = some t → args[j]? = some v → Value.okWide Try.prog W .any base t v := hval0
  have hW' : DataW.Whole enc Try.prog Try.f12.params.toList Rows.storeTornSpec.vars false W args.toList ds gs before := hW
  obtain ⟨p, q, hA0, hV, rfl, hfz, hnd⟩ := hW
  have hA : DataW.TrodAll enc Try.prog W 0 (fun _ => true) true Try.f12.params.toList args.toList ds p := hA0
  rw [Try.params12] at hA hval
  obtain ⟨v0, vs0, d0, ds0, p0, q0, hargs, rfl, rfl, h0, r0⟩ := trodAll_cons hA
  obtain ⟨v1, vs1, d1, ds1, p1, q1, rfl, rfl, rfl, h1, r1⟩ := trodAll_cons r0
  obtain ⟨v2, vs2, d2, ds2, p2, q2, rfl, rfl, rfl, h2, r2⟩ := trodAll_cons r1
  obtain ⟨rfl, rfl, rfl⟩ := trodAll_nil r2
  obtain rfl : args = #[v0, v1, v2] := by cases args; simp_all
  obtain ⟨rfl, rfl⟩ := trodVars_none hV
  obtain ⟨A0, n0, c0, s0, l0, rfl, hn0, hc0, hd0, hr0, hl0⟩ := open_raws Try.underlying32 Try.underlying109 (by kernel_rfl) (by kernel_rfl) (by kernel_rfl) (by kernel_rfl) (by kernel_rfl) (by kernel_rfl) (by kernel_rfl) (hval 0 _ v0 rfl rfl) h0
  obtain ⟨a1, rfl, rfl, rfl, x1⟩ := open_int Try.underlying3 (hval 1 _ v1 rfl rfl) h1
  have w1 := i64_of_wf x1
  obtain ⟨a2, rfl, rfl, rfl, x2⟩ := open_int Try.underlying3 (hval 2 _ v2 rfl rfl) h2
  have w2 := i64_of_wf x2
  clear hA0 hval0
  refine (storeTorn_any A0 n0 c0 l0 s0 a1 a2 W hn0 hc0 hd0 hr0 hl0 w1 w2).mono fun e W' ⟨he, bel⟩ => ?_
  subst he
  exact ⟨_, rfl, law_post (tb := 4) laidOut Try.underlying4 (by kernel_rfl) (by kernel_rfl) rfl rfl hW' bel⟩

/-- ████ THE STATEMENT ████ -/
theorem proved : Rows.StoreTornSaid :=
  OpenClaim.holds_of_wide 12 Try.f12 rfl rfl rfl rfl rfl rfl rfl ⟨rfl, rfl, rfl, rfl, rfl⟩ rfl rfl rfl rfl rfl (by kernel_rfl) Try.func12 (by kernel_rfl)
    (of_decide_eq_true (by kernel_rfl)) (by unfold Func.isWrapper; first | (rw [if_pos (by decide +kernel)]; kernel_rfl) | (rw [if_neg (by decide +kernel)]; exact ⟨rfl, rfl⟩))
    (fun os started H enc _ => lifted os started H enc)
#print axioms proved
end Go.Proofs.Ytgcpclbkjplipaa.storeTorn
