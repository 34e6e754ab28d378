/- StoreKeeps: the walk. (Printed by storekeeps.py.) -/
import Derived.Test.YteojmmjanjilaaaPart51
import Derived.Deep.CutBlock
import Derived.Deep.DeepCutAuto
set_option linter.unusedVariables false
namespace Go.Proofs.Yteojmmjanjilaaa
open Go.RowKit Go.Mem Go.Val Go.Chunk Go.Maps
theorem mem_all {l : List Nat} {i : Nat} {p : Nat → Bool} (hi : i ∈ l) (h : l.all p = true) : p i = true := List.all_eq_true.1 h i hi
theorem head_raws {l : List Raw} {A : Option Addr} {n : Nat} {rss : List (List Value)} {w : World} (hr : Reads w Any 4 A n rss.flatten) (ha : All2 (RawCells w Any) rss l) (k : Nat) (hk : k ≤ n) :
    Reads w Any 4 A k (rss.take k).flatten ∧ All2 (RawCells w Any) (rss.take k) (l.take k) := by
  refine ⟨?_, ha.take k⟩
  rw [← flat_take4 rss k (ha.lens RawCells.stable)]
  exact hr.first hk
def KsI (w : World) (s t : Snp) (n0 m0 : Int) (A A' : Option Addr) (n c k j m : Nat) (listed : Array Bool) (a : Act) (W : World) : Prop :=
  ∃ (b2 b9 b10 b11 : Bool) (x33 x40 x7 x8 : Value), listed = #[true, true, b2, true, true, true, true, true, true, b9, b10, b11, false, false] ∧ a = { tmps := #[.int .i64 n0, .int .i64 m0, .slice A k c, undef, undef, undef, .bool false, x7, x8, undef, undef, undef, undef, undef, undef, undef, undef, undef, undef, undef, undef, undef, undef, undef, undef, undef, .slice A n c, .slice A n c, .int .i64 (n : Nat), .int .i64 (k : Nat), .slice A k c, .int .i64 n0, .slice A k c, x33, .int .i64 m0, .slice A k c, .slice A k c, .int .i64 (k : Nat), .int .i64 (j : Nat), (.slice A' m (c - j)), x40, undef, undef, undef, undef, undef, undef, undef, undef, undef, undef, undef, undef, undef, undef, undef, undef, undef, undef, undef, undef, undef, undef, undef, undef, undef, undef, undef, undef, undef, undef, undef, undef, undef, undef, undef, undef, undef, undef, undef, undef, undef, undef, undef, undef, undef, undef, undef, undef, undef, undef, undef, undef, undef, undef, undef, undef, undef, undef, undef, undef, undef, undef, undef, undef, undef, undef, undef, undef, undef, undef, undef, undef, undef, undef, undef, undef, undef, undef, undef, undef, undef, undef, undef, undef, undef, undef, undef, undef, undef, undef, undef, undef, undef, undef, undef, undef, undef, undef, undef, undef, undef, undef, undef, undef, undef, undef, undef, undef, undef, undef, undef, undef, undef, undef, undef, undef, undef, undef, undef, undef, undef, undef, undef, undef, undef, undef, undef, undef, undef, undef, undef, undef, undef, undef, undef, undef, undef, undef, undef, undef, undef, undef, undef, undef, undef, undef, undef, undef, undef], defers := [] } ∧ (b9 = true → b2 = true) ∧ Hid (KsAt w W x33 x40 x7 x8 b2 b9 b10 b11 s t)
set_option maxRecDepth 100000 in
set_option maxHeartbeats 8000000 in
theorem storeKeeps_any (n0 m0 : Int) (A : Option Addr) (n c : Nat) (l : List Raw) (rss : List (List Value)) (w : World) (hi : I64 n0) (hj : I64 m0) (hn : n = l.length) (hnc : n ≤ c) (hcm : c ≤ maxLen) (hr : Reads w Any 4 A n rss.flatten) (ha : All2 (RawCells w Any) rss l) :
    Calls Try.prog 3 #[.int .i64 n0, .int .i64 m0, .slice A n c] w fun e w' => e = .returned (.bool true) ∧ Below w.heap.size w w' := by
  -- the first four
  obtain ⟨k, hk⟩ : ∃ k, k = min n 4 := ⟨_, rfl⟩
  have hmin4 : ∀ (ts : Array TypeId) (t : TypeId) (W : World), (Builtin.min_ ts t #[.int .i64 (n : Int), .int .i64 4]).run Try.prog W = .ok (.int .i64 (k : Int)) W := fun ts t W => by
    rw [run_min_int2]
    have : (if (4 : Int) < (n : Int) then (4 : Int) else (n : Int)) = (k : Int) := by split <;> omega
    rw [this]
  have hsl4 := (slice_h 22 80 Try.underlying22 (by kernel_rfl) hr hnc k (by omega) (k : Int) rfl).1
  obtain ⟨hr1, ha1⟩ := head_raws hr ha k (by omega)
  have hl1 : k = (l.take k).length := by rw [List.length_take]; omega
  have hk4 : k ≤ 4 := by omega
  have hkc : k ≤ c := by omega
  generalize l.take k = l1 at ha1 hl1
  generalize rss.take k = rs1 at hr1 ha1
  -- those behind the second
  obtain ⟨j, hj2⟩ : ∃ j, j = min k 2 := ⟨_, rfl⟩
  have hmin2 : ∀ (ts : Array TypeId) (t : TypeId) (W : World), (Builtin.min_ ts t #[.int .i64 (k : Int), .int .i64 2]).run Try.prog W = .ok (.int .i64 (j : Int)) W := fun ts t W => by
    rw [run_min_int2]
    have : (if (2 : Int) < (k : Int) then (2 : Int) else (k : Int)) = (j : Int) := by split <;> omega
    rw [this]
  obtain ⟨A', m, rs2, hsl2, hm, hmc, hr2, ha2⟩ := tail_raws hl1 hkc hcm hr1 ha1 j (j : Int) (by omega) rfl
  have hl2 : (l1.drop j).length ≤ 2 := by rw [List.length_drop]; omega
  have hsub : ∀ r ∈ l1.drop j, r ∈ l1 := fun r hr => List.mem_of_mem_drop hr
  have hmm : m ≤ 2 := by omega
  generalize l1.drop j = l2 at hm ha2 hl2 hsub
  have SA := Lib.hid (fun (W : World) (hW : Below w.heap.size w W) => snapOf_any n0 l1 A k c rs1 W hi hl1 hkc hcm (hr1.keep (Same.any hW)) (ha1.imp fun _ _ h => RawCells.stable.keep h (Same.any hW)))
  have SBB := Lib.hid (fun (W : World) (hW : Below w.heap.size w W) => snapOf_any m0 l2 A' m (c - j) rs2 W hj hm hmc (by unfold maxLen at hcm ⊢; omega) (hr2.keep (Same.any hW)) (ha2.imp fun _ _ h => RawCells.stable.keep h (Same.any hW)))
  have hnm : n ≤ 9223372036854775807 := by unfold maxLen at hcm; omega
  have hl14 : l1.length ≤ 4 := by omega
  have HL := Lib.hid (And.intro hl14 (And.intro hl2 hsub))
  clear hr ha hr1 ha1 hr2 ha2 hn hl1 hm hj2 hk hi hj hl14 hl2 hsub
  go_enter Try.func3, Try.ntmps3
  go_upto_region 2 with (fail)
  go_cut [7, 8] (fun v7 v8 wc => ∃ F G, v7 = .pointer (some ⟨F, 0, none⟩) ∧ v8 = .pointer (some ⟨G, 0, none⟩) ∧ Hid (TwoSn w wc F G (snF l1 n0) (snF l2 m0)))
  case first =>
    refine wp_region_any (by kernel_rfl) ?_
    change wpAny _ _ _ _ _ _ _ (World.drew _)
    refine wpAny_take (i := 0) (v := .int .i64 n0) rfl ?_ ?_ ?_ (fun _ _ _ h => h) (Or.inl ⟨by rfl, ?_⟩) ?_; (· decide +kernel); (· decide +kernel); (· decide +kernel); (· (intro w; go_simp))
    refine wpAny_take (i := 1) (v := .slice A k c) rfl ?_ ?_ ?_ (fun _ _ _ h => h) (Or.inl ⟨by rfl, ?_⟩) ?_; (· decide +kernel); (· decide +kernel); (· decide +kernel); (· (intro w; go_simp))
    refine wpAny_take (i := 3) (v := .int .i64 m0) rfl ?_ ?_ ?_ (fun _ _ _ h => h) (Or.inl ⟨by rfl, ?_⟩) ?_; (· decide +kernel); (· decide +kernel); (· decide +kernel); (· (intro w; go_simp))
    refine wpAny_take (i := 4) (v := .slice A k c) rfl ?_ ?_ ?_ (fun _ _ _ h => h) (Or.inl ⟨by rfl, ?_⟩) ?_; (· decide +kernel); (· decide +kernel); (· decide +kernel); (· (intro w; go_simp))
    refine wpAny_take (i := 5) (v := .slice A k c) rfl ?_ ?_ ?_ (fun _ _ _ h => h) (Or.inl ⟨by rfl, ?_⟩) ?_; (· decide +kernel); (· decide +kernel); (· decide +kernel); (· (intro w; go_simp))
    refine wpAny_take (i := 6) (v := .int .i64 (k : Nat)) rfl ?_ ?_ ?_ (fun _ _ _ h => h) (Or.inl ⟨by rfl, ?_⟩) ?_; (· decide +kernel); (· decide +kernel); (· decide +kernel); (· (intro w; go_simp))
    refine wpAny_take (i := 7) (v := .int .i64 (j : Nat)) rfl ?_ ?_ ?_ (fun _ _ _ h => h) (Or.inl ⟨by rfl, ?_⟩) ?_; (· decide +kernel); (· decide +kernel); (· decide +kernel); (· (intro w; go_simp))
    refine wpAny_take (i := 8) (v := .slice A' m (c - j)) rfl ?_ ?_ ?_ (fun _ _ _ h => h) (Or.inl ⟨by rfl, ?_⟩) ?_; (· decide +kernel); (· decide +kernel); (· decide +kernel); (· (intro w; go_simp))
    clear hmin4 hmin2 hsl4 hsl2
    refine wpAny_until (I := KsI w (snF l1 n0) (snF l2 m0) n0 m0 A A' n c k j m) (fin := #[true, true, true, true, true, true, true, true, true, true, true, true, false, false]) (k := 2) ?cnt ?step ?stuck ?after _ _ _ _ ?cnt2 ?start
    case cnt => decide +kernel
    case cnt2 => decide +kernel
    case start => exact ⟨false, false, false, false, undef, undef, undef, undef, rfl, rfl, (by intro h; cases h), KsAt.start (by intro q h; cases h) w undef undef _ _⟩
    case stuck =>
      rintro listed a W ⟨b2, b9, b10, b11, x33, x40, x7, x8, rfl, h⟩ hne
      have h29 := h.2.1
      clear h
      clear SA SBB HL hnm hmm hkc hk4 hmc hcm hnc
      revert hne h29
      revert b2 b9 b10 b11
      decide +kernel
    case after =>
      rintro a W ⟨b2, b9, b10, b11, x33, x40, x7, x8, hl, rfl, _, hI⟩
      obtain ⟨rfl, rfl, rfl, rfl⟩ : true = b2 ∧ true = b9 ∧ true = b10 ∧ true = b11 := by simpa using hl
      obtain ⟨F, G, P1, p1, P2, p2, Q1, q1, Q2, q2, rfl, rfl, rfl, rfl, bF, bG, fin⟩ := hI.out.last
      have HF := Lib.hid fin
      have HG := Lib.hid bG
      clear fin bG hI hl
      have f0 := bF.cell 0
      have f1 := bF.cell 1
      have f2 := bF.cell 2
      have g0 := bF.frozen 0
      have g1 := bF.frozen 1
      have g2 := bF.frozen 2
      have lF := bF.lt
      simp only [zSnap, List.getElem?_cons_succ, List.getElem?_cons_zero] at f0 f1 f2
      refine wpAny_ready (rs := [12]) (by decide +kernel) (by simp) ?_; refine AllReady.cons rfl (fun K hK => ?_) AllReady.nil; go_simp; refine hK _ _ ?_; clear hK K
      obtain ⟨W1, hW1⟩ : ∃ W1, W1 = setRow W F 0 [.int .i64 (snF l1 n0).time, .slice P1 (snF l1 n0).parcels.length p1, .slice P2 (snF l1 n0).ways.length p2] := ⟨_, rfl⟩
      rw [← hW1] at HG HF
      simp only [setRow, Nat.reduceAdd] at hW1
      rw [← hW1]
      clear hW1 f0 f1 f2 g0 g1 g2 lF bF
      have bG := HG.out
      have f0 := bG.cell 0
      have f1 := bG.cell 1
      have f2 := bG.cell 2
      have g0 := bG.frozen 0
      have g1 := bG.frozen 1
      have g2 := bG.frozen 2
      have lF := bG.lt
      simp only [zSnap, List.getElem?_cons_succ, List.getElem?_cons_zero] at f0 f1 f2
      refine wpAny_ready (rs := [13]) (by decide +kernel) (by simp) ?_; refine AllReady.cons rfl (fun K hK => ?_) AllReady.nil; go_simp; refine hK _ _ ?_; clear hK K
      refine wpAny_done (by decide +kernel) ?_ _
      go_wp2_with (fail)
      go_meet
      have fin := HF.out
      simp only [setRow, Nat.reduceAdd] at fin
      exact ⟨F, G, rfl, rfl, fin⟩
    case step =>
      rintro listed a W i ⟨b2, b9, b10, b11, x33, x40, x7, x8, rfl, rfl, h29, hI⟩ hne hi
      have hc := mem_all (p := fun i => (i == 2 && !b2) || (i == 9 && b2 && !b9) || (i == 10 && !b10) || (i == 11 && !b11) || (i == 12 && b2 && b9 && b10 && b11)) hi (by
        clear hI SA SBB HL hne hi hnm hmm hkc hk4 hmc hcm hnc
        revert h29
        revert b2 b9 b10 b11
        decide +kernel)
      have hcase : (i = 2 ∧ b2 = false) ∨ (i = 9 ∧ b2 = true ∧ b9 = false) ∨ (i = 10 ∧ b10 = false) ∨ (i = 11 ∧ b11 = false) := by
        simp only [Bool.or_eq_true, Bool.and_eq_true, beq_iff_eq, Bool.not_eq_true'] at hc
        rcases hc with (((h | h) | h) | h) | h
        · exact .inl h
        · exact .inr (.inl ⟨h.1.1, h.1.2, h.2⟩)
        · exact .inr (.inr (.inl h))
        · exact .inr (.inr (.inr h))
        · obtain ⟨⟨⟨⟨_, rfl⟩, rfl⟩, rfl⟩, rfl⟩ := h
          exact absurd rfl hne
      clear hi hne hc
      rcases hcase with ⟨rfl, rfl⟩ | ⟨rfl, rfl, rfl⟩ | ⟨rfl, rfl⟩ | ⟨rfl, rfl⟩
      · refine wpOp_step rfl (fun K hK => ?_)
        go_simp
        refine (SA.out W hI.out.bel).mono ?_
        rintro e W1 ⟨cs, rfl, hv, hb⟩
        try dsimp only
        refine hK _ _ ?_
        clear hK K
        exact ⟨true, b9, b10, b11, .agg cs.toArray, x40, x7, x8, rfl, rfl, fun _ => rfl, hI.out.call1 hv hb⟩
      · refine wpOp_step rfl (fun K hK => ?_)
        go_simp
        refine (SBB.out W hI.out.bel).mono ?_
        rintro e W1 ⟨cs, rfl, hv, hb⟩
        try dsimp only
        refine hK _ _ ?_
        clear hK K
        exact ⟨true, true, b10, b11, x33, .agg cs.toArray, x7, x8, rfl, rfl, fun _ => rfl, hI.out.call2 hv hb⟩
      · refine wpOp_step rfl (fun K hK => ?_)
        go_simp
        refine hK _ _ ?_
        clear hK K
        exact ⟨b2, b9, true, b11, x33, x40, toB W.heap.size, x8, rfl, rfl, h29, hI.out.alloc7⟩
      · refine wpOp_step rfl (fun K hK => ?_)
        go_simp
        refine hK _ _ ?_
        clear hK K
        exact ⟨b2, b9, b10, true, x33, x40, x7, toB W.heap.size, rfl, rfl, h29, hI.out.alloc8⟩
  case rest =>
    clear hmin4 hmin2 hsl4 hsl2 SA SBB hnm hmm hkc hk4 hmc hcm hnc
    obtain ⟨F, G, rfl, rfl, HT0⟩ := hcut
    obtain ⟨a, b, la, lb, KF, HT⟩ : ∃ a b la lb, Hid (KpF a b la lb) ∧ Hid (TwoSn w wc F G a b) := by
      obtain ⟨cs0, ds0, _, _, hva, hvb, _⟩ := HT0.out
      exact ⟨_, _, _, _, kpF HL.out.1 HL.out.2.1 HL.out.2.2 (snF_nice hva) (snF_nice hvb), HT0⟩
    have BW : Hid (Below w.heap.size w wc) := by
      obtain ⟨_, _, _, _, _, _, hbw⟩ := HT0.out
      exact hbw
    clear HT0 HL
    go_upto_region 3 with (fail)
    go_wp2_with (fail)
    refine (newstore_any wc).mono ?_
    rintro e w1 ⟨T, M, S, P, N, rfl, hst, hT, hM, hS, hP, hN, hb⟩
    have K := Lib.hid (show Kw wc w1 T M S P N ⟨[], []⟩ [] from ⟨hb, ⟨hM, hP, hN⟩, hst⟩)
    clear hst hT hM hS hP hN hb
    -- Keep a
    obtain ⟨Pf1, pf1, Pf2, pf2, f0, f1, f2, lF, hvF⟩ := (HT.out.seen K.out.bel).1
    have HVF := Lib.hid hvF
    clear hvF
    go_wp2_with (fail)
    refine (keepK (l := la) (PP := la ++ lb) (H := fun _ => 0) (x := a) 1 1 0 rfl rfl KF.out.few K.out empty_ok HVF.out KF.out.na KF.out.ea KF.out.eqa rows0 (by omega) (fun b h => absurd h (by simp)) (fun b hb => List.mem_append.2 (.inl hb)) (fun b => by simp)).mono ?_
    rintro e w2 ⟨A1, c1, o1, s1, rfl, hrel, hk, hg, hr⟩
    clear f0 f1 f2 lF HVF
    replace K := Lib.hid (show Kw wc w2 T M S P N s1 [(1, .slice (some A1) o1.length c1)] from hk)
    have R1 := Lib.hid hr
    have Rel1 := Lib.hid hrel
    have ok1 := Lib.hid (hrel.ok empty_ok).1
    have hH1 : Hid (∀ b, 0 < pluss (fun _ => 0) la b → b ∈ la ++ lb) := fun b h => List.mem_append.2 (.inl (List.count_pos_iff.1 (by rw [pluss_zero] at h; exact h)))
    have rm1 := Lib.hid (roomed KF.out.few empty_ok (fun b h => absurd h (by simp)) (fun b hb => List.mem_append.2 (.inl hb)) hrel)
    clear hrel hk hg hr
    obtain ⟨k1, hk1⟩ : ∃ k, k = s1.ps.length := ⟨_, rfl⟩
    obtain ⟨z1, hz1⟩ : ∃ z, z = sizeB s1.ps := ⟨_, rfl⟩
    have HK1 := Lib.hid (And.intro hk1 hz1)
    clear hk1 hz1
    go_wp2_with (fail)
    refine (sizeK 1 (k1 : Nat) (z1 : Nat) K.out ok1.out rm1.out rfl (by omega) (by rw [HK1.out.1]) (by rw [HK1.out.2])).mono ?_
    rintro e w3 ⟨rfl, hk, hb⟩
    replace K := Lib.hid hk
    have hg : GrownIn (OwnMPN M P N) _ _ := GrownIn.of_below hb
    replace R1 := Lib.hid (R1.out.keep (same_in hg (fun q hq => hq)))
    clear hk hb hg
    -- Keep a again
    obtain ⟨Pf1, pf1, Pf2, pf2, f0, f1, f2, lF, hvF⟩ := (HT.out.seen K.out.bel).1
    have HVF := Lib.hid hvF
    clear hvF
    go_wp2_with (fail)
    refine (keepK (l := la) (PP := la ++ lb) (H := pluss (fun _ => 0) la) (x := a) 2 2 1 rfl rfl KF.out.few K.out ok1.out HVF.out KF.out.na KF.out.ea KF.out.eqa (rows1 _ _ _) (by omega) hH1.out (fun b hb => List.mem_append.2 (.inl hb)) (fun b => by rw [pluss_zero]; have := List.count_le_length (a := b) (l := la); have := KF.out.ka; omega)).mono ?_
    rintro e w4 ⟨A2, c2, o2, s2, rfl, hrel, hk, hg, hr⟩
    clear f0 f1 f2 lF HVF
    obtain ⟨rfl, l2, z2⟩ := twice Rel1.out hrel
    replace K := Lib.hid (show Kw wc w4 T M S P N s2 [(1, .slice (some A1) o2.length c1), (2, .slice (some A2) o2.length c2)] from hk)
    replace R1 := Lib.hid (R1.out.keep (same_in hg (fun q hq => hq)))
    have R2 := Lib.hid hr
    have Rel2 := Lib.hid hrel
    have ok2 := Lib.hid (hrel.ok ok1.out).1
    have hH2 : Hid (∀ b, 0 < pluss (pluss (fun _ => 0) la) la b → b ∈ la ++ lb) := fun b h => List.mem_append.2 (.inl (List.count_pos_iff.1 (by unfold pluss at h; dsimp only at h; omega)))
    have HZ := Lib.hid (And.intro (l2.trans HK1.out.1.symm) (z2.trans HK1.out.2.symm))
    have rm2 := Lib.hid (show s2.ps.length < 500 from by rw [l2]; exact rm1.out)
    clear hrel hk hg hr l2 z2
    go_wp2_with (fail)
    refine (sizeK 2 (k1 : Nat) (z1 : Nat) K.out ok2.out rm2.out rfl (by omega) (by rw [HZ.out.1]) (by rw [HZ.out.2])).mono ?_
    rintro e w5 ⟨rfl, hk, hb⟩
    replace K := Lib.hid hk
    have hg : GrownIn (OwnMPN M P N) _ _ := GrownIn.of_below hb
    replace R1 := Lib.hid (R1.out.keep (same_in hg (fun q hq => hq)))
    replace R2 := Lib.hid (R2.out.keep (same_in hg (fun q hq => hq)))
    clear hk hb hg
    -- Keep b
    obtain ⟨Pg1, pg1, Pg2, pg2, g0, g1, g2, lG, hvG⟩ := (HT.out.seen K.out.bel).2
    have HVG := Lib.hid hvG
    clear hvG
    go_wp2_with (fail)
    refine (keepK (l := lb) (PP := la ++ lb) (H := pluss (pluss (fun _ => 0) la) la) (x := b) 3 3 2 rfl rfl KF.out.few K.out ok2.out HVG.out KF.out.nb KF.out.eb KF.out.eqb (rows2 _ _ _ _ _ _) (by omega) hH2.out (fun b hb => List.mem_append.2 (.inr hb)) (fun b => by unfold pluss; dsimp only; have := List.count_le_length (a := b) (l := la); have := KF.out.ka; omega)).mono ?_
    rintro e w6 ⟨A3, c3, o3, s3, rfl, hrel, hk, hg, hr⟩
    clear g0 g1 g2 lG HVG
    replace K := Lib.hid (show Kw wc w6 T M S P N s3 [(1, .slice (some A1) o2.length c1), (2, .slice (some A2) o2.length c2), (3, .slice (some A3) o3.length c3)] from hk)
    replace R1 := Lib.hid (R1.out.keep (same_in hg (fun q hq => hq)))
    replace R2 := Lib.hid (R2.out.keep (same_in hg (fun q hq => hq)))
    have R3 := Lib.hid hr
    have ST := Lib.hid (story (a := []) (b := []) KF.out.nla Rel1.out Rel2.out hrel ⟨by have := KF.out.ka; omega, by have := KF.out.kb; omega⟩)
    clear hrel hk hg hr Rel1 Rel2 ok1 ok2 rm1 rm2 hH1 hH2
    have hlt := K.out.lt
    -- Load x
    go_wp2_with (fail)
    refine (loadK (x := a) 1 1 rfl (by omega) K.out rfl ST.out.ok3 ST.out.na R1.out KF.out.ka KF.out.ea KF.out.fa KF.out.na).mono ?_
    rintro e w8 ⟨Pa1, pa1, Pa2, pa2, rfl, hv, hk, hb⟩
    replace K := Lib.hid hk
    have hg : GrownIn (OwnMPN M P N) _ _ := GrownIn.of_below hb
    replace R1 := Lib.hid (R1.out.keep (same_in hg (fun q hq => hq)))
    replace R2 := Lib.hid (R2.out.keep (same_in hg (fun q hq => hq)))
    replace R3 := Lib.hid (R3.out.keep (same_in hg (fun q hq => hq)))
    clear hg hk hb
    obtain ⟨w9, hw9⟩ : ∃ W, W = w8.alloc (.cells #[.int .i64 a.time, .slice Pa1 a.parcels.length pa1, .slice Pa2 a.ways.length pa2] 26) := ⟨_, rfl⟩
    obtain ⟨hX, hk, hb⟩ := SnAt.new hv K.out hlt hw9
    replace R2 := Lib.hid (R2.out.imp (D' := fun q => NoMPN M P N q ∧ q ≠ w8.heap.size) (by omega) fun q hq hl => ⟨hq, by omega⟩)
    obtain ⟨X, hXe⟩ : ∃ X, X = w8.heap.size := ⟨_, rfl⟩
    rw [← hXe] at hX R2
    replace K := Lib.hid hk
    have hg : GrownIn (OwnMPN M P N) _ _ := GrownIn.of_below hb
    replace R1 := Lib.hid (R1.out.keep (same_in hg (fun q hq => hq)))
    replace R2 := Lib.hid (R2.out.keep (same_in hg (fun q hq => hq.1)))
    replace R3 := Lib.hid (R3.out.keep (same_in hg (fun q hq => hq)))
    have HX := Lib.hid hX
    clear hX hk hb hg hv hlt
    go_upto_region 10 with (fail)
    rw [← hw9, ← hXe]
    clear hw9 hXe
    have hlt := K.out.lt
    -- Load z
    go_wp2_with (fail)
    refine (loadK (x := b) 3 3 rfl (by omega) K.out rfl ST.out.ok3 ST.out.nb R3.out KF.out.kb KF.out.eb KF.out.fb KF.out.nb).mono ?_
    rintro e w10 ⟨Pb1, pb1, Pb2, pb2, rfl, hv, hk, hb⟩
    replace K := Lib.hid hk
    have hg : GrownIn (OwnMPN M P N) _ _ := GrownIn.of_below hb
    replace R1 := Lib.hid (R1.out.keep (same_in hg (fun q hq => hq)))
    replace R2 := Lib.hid (R2.out.keep (same_in hg (fun q hq => hq.1)))
    replace R3 := Lib.hid (R3.out.keep (same_in hg (fun q hq => hq)))
    replace HX := Lib.hid (HX.out.keep hg (fun q hq => hq))
    clear hg hk hb
    obtain ⟨w11, hw11⟩ : ∃ W, W = w10.alloc (.cells #[.int .i64 b.time, .slice Pb1 b.parcels.length pb1, .slice Pb2 b.ways.length pb2] 26) := ⟨_, rfl⟩
    obtain ⟨hY, hk, hb⟩ := SnAt.new hv K.out hlt hw11
    obtain ⟨Y, hYe⟩ : ∃ X, X = w10.heap.size := ⟨_, rfl⟩
    rw [← hYe] at hY
    replace K := Lib.hid hk
    have hg : GrownIn (OwnMPN M P N) _ _ := GrownIn.of_below hb
    replace R1 := Lib.hid (R1.out.keep (same_in hg (fun q hq => hq)))
    replace R2 := Lib.hid (R2.out.keep (same_in hg (fun q hq => hq.1)))
    replace R3 := Lib.hid (R3.out.keep (same_in hg (fun q hq => hq)))
    replace HX := Lib.hid (HX.out.keep hg (fun q hq => hq))
    have HY := Lib.hid hY
    clear hY hk hb hg hv hlt
    go_upto_region 11 with (fail)
    rw [← hw11, ← hYe]
    clear hw11 hYe
    -- the great condition
    obtain ⟨Px1, px1, Px2, px2, x0, x1, x2, lX, hvX⟩ := HX.out.seen
    have HVX := Lib.hid hvX
    clear hvX
    obtain ⟨Pf1, pf1, Pf2, pf2, f0, f1, f2, lF, hvF⟩ := (HT.out.seen K.out.bel).1
    have HVF := Lib.hid hvF
    clear hvF
    go_wp2_with (fail)
    refine (sameSn_eq a _ _ w11 HVX.out HVF.out).mono ?_
    rintro e w12 ⟨rfl, hb⟩
    clear x0 x1 x2 lX HVX f0 f1 f2 lF HVF
    replace K := Lib.hid (K.out.below hb)
    have hg : GrownIn (OwnMPN M P N) _ _ := GrownIn.of_below hb
    replace R1 := Lib.hid (R1.out.keep (same_in hg (fun q hq => hq)))
    replace R2 := Lib.hid (R2.out.keep (same_in hg (fun q hq => hq.1)))
    replace R3 := Lib.hid (R3.out.keep (same_in hg (fun q hq => hq)))
    replace HX := Lib.hid (HX.out.keep hg (fun q hq => hq))
    replace HY := Lib.hid (HY.out.keep hg (fun q hq => hq))
    clear hb hg
    obtain ⟨Px1, px1, Px2, px2, x0, x1, x2, lX, hvX⟩ := HY.out.seen
    have HVX := Lib.hid hvX
    clear hvX
    obtain ⟨Pg1, pg1, Pg2, pg2, g0, g1, g2, lG, hvG⟩ := (HT.out.seen K.out.bel).2
    have HVG := Lib.hid hvG
    clear hvG
    go_wp2_with (fail)
    refine (sameSn_eq b _ _ w12 HVX.out HVG.out).mono ?_
    rintro e w13 ⟨rfl, hb⟩
    clear x0 x1 x2 lX HVX g0 g1 g2 lG HVG
    replace K := Lib.hid (K.out.below hb)
    have hg : GrownIn (OwnMPN M P N) _ _ := GrownIn.of_below hb
    replace R1 := Lib.hid (R1.out.keep (same_in hg (fun q hq => hq)))
    replace R2 := Lib.hid (R2.out.keep (same_in hg (fun q hq => hq.1)))
    replace R3 := Lib.hid (R3.out.keep (same_in hg (fun q hq => hq)))
    replace HX := Lib.hid (HX.out.keep hg (fun q hq => hq))
    replace HY := Lib.hid (HY.out.keep hg (fun q hq => hq))
    clear hb hg
    -- Drop x, Drop z, Drop x
    go_wp2_with (fail)
    refine (dropK 1 1 rfl (by omega) K.out rfl (m' := [(2, .slice (some A2) o2.length c2), (3, .slice (some A3) o3.length c3)]) rfl ST.out.ok3 ST.out.na ST.out.ca KF.out.pa ST.out.h6 R1.out (fun q hq => hq) KF.out.ka).mono ?_
    rintro e w14 ⟨rfl, hk, hg⟩
    replace K := Lib.hid hk
    replace R1 := Lib.hid (R1.out.keep (same_in hg (fun q hq => hq)))
    replace R2 := Lib.hid (R2.out.keep (same_in hg (fun q hq => hq.1)))
    replace R3 := Lib.hid (R3.out.keep (same_in hg (fun q hq => hq)))
    replace HX := Lib.hid (HX.out.keep hg (fun q hq => hq))
    replace HY := Lib.hid (HY.out.keep hg (fun q hq => hq))
    clear hk hg
    go_wp2_with (fail)
    refine (dropK 3 3 rfl (by omega) K.out rfl (m' := [(2, .slice (some A2) o2.length c2)]) rfl ST.out.ok4 ST.out.nb4 ST.out.cb KF.out.pb (fun x => Nat.le_trans (by unfold minuss; omega) (ST.out.h6 x)) R3.out (fun q hq => hq) KF.out.kb).mono ?_
    rintro e w15 ⟨rfl, hk, hg⟩
    replace K := Lib.hid hk
    replace R1 := Lib.hid (R1.out.keep (same_in hg (fun q hq => hq)))
    replace R2 := Lib.hid (R2.out.keep (same_in hg (fun q hq => hq.1)))
    replace R3 := Lib.hid (R3.out.keep (same_in hg (fun q hq => hq)))
    replace HX := Lib.hid (HX.out.keep hg (fun q hq => hq))
    replace HY := Lib.hid (HY.out.keep hg (fun q hq => hq))
    clear hk hg R1 R3 HY
    go_wp2_with (fail)
    refine (noneK 1 1 rfl (by omega) K.out rfl).mono ?_
    rintro e w15' ⟨rfl, rfl⟩
    have hlt := K.out.lt
    have hltX := HX.out.lt
    -- Load y
    go_wp2_with (fail)
    refine (loadK (x := a) 2 2 rfl (by omega) K.out rfl ST.out.ok5 ST.out.na5 R2.out KF.out.ka KF.out.ea KF.out.fa KF.out.na).mono ?_
    rintro e w16 ⟨Pa1, pa1, Pa2, pa2, rfl, hv, hk, hb⟩
    replace K := Lib.hid hk
    have hg : GrownIn (OwnMPN M P N) _ _ := GrownIn.of_below hb
    replace R2 := Lib.hid (R2.out.keep (same_in hg (fun q hq => hq.1)))
    replace HX := Lib.hid (HX.out.keep hg (fun q hq => hq))
    obtain ⟨hX, hk2⟩ := SnAt.over HX.out K.out hv ⟨hltX, hlt⟩
    obtain ⟨u0, u1, u2, x0, x1, x2, y0, y1, y2, lX⟩ := HX.out.cells
    obtain ⟨w17, hw17⟩ : ∃ W, W = setRow w16 X 0 [.int .i64 a.time, .slice Pa1 a.parcels.length pa1, .slice Pa2 a.ways.length pa2] := ⟨_, rfl⟩
    replace R2 := Lib.hid (R2.out.keep (setRow_same (g := X) (fun h => h.2 rfl) [.int .i64 a.time, .slice Pa1 a.parcels.length pa1, .slice Pa2 a.ways.length pa2] w16 0))
    rw [← hw17] at hX hk2 R2
    replace K := Lib.hid hk2
    replace HX := Lib.hid hX
    simp only [setRow, Nat.reduceAdd] at hw17
    clear hX hk hk2 hb hg hv hlt hltX
    go_upto_region 16 with (fail)
    rw [← hw17]
    clear hw17 x0 x1 x2 y0 y1 y2 lX
    -- the condition
    obtain ⟨Px1, px1, Px2, px2, x0, x1, x2, lX, hvX⟩ := HX.out.seen
    have HVX := Lib.hid hvX
    clear hvX
    obtain ⟨Pf1, pf1, Pf2, pf2, f0, f1, f2, lF, hvF⟩ := (HT.out.seen K.out.bel).1
    have HVF := Lib.hid hvF
    clear hvF
    go_wp2_with (fail)
    refine (sameSn_eq a _ _ w17 HVX.out HVF.out).mono ?_
    rintro e w18 ⟨rfl, hb⟩
    clear x0 x1 x2 lX HVX f0 f1 f2 lF HVF
    replace K := Lib.hid (K.out.below hb)
    have hg : GrownIn (OwnMPN M P N) _ _ := GrownIn.of_below hb
    replace R2 := Lib.hid (R2.out.keep (same_in hg (fun q hq => hq.1)))
    replace HX := Lib.hid (HX.out.keep hg (fun q hq => hq))
    clear hb hg
    go_wp2_with (fail)
    refine (dropK 2 2 rfl (by omega) K.out rfl (m' := []) rfl ST.out.ok5 ST.out.na5 ST.out.ca5 KF.out.pa (fun x => Nat.le_trans (by unfold minuss; omega) (ST.out.h6 x)) R2.out (fun q hq => hq.1) KF.out.ka).mono ?_
    rintro e w19 ⟨rfl, hk, hg⟩
    replace K := Lib.hid hk
    have ok6 := Lib.hid (ST.out.ok5.freeL ST.out.na5 ST.out.ca5).1
    clear hk hg
    go_wp2_with (fail)
    refine (sizeK 0 0 0 K.out ok6.out (by rw [ST.out.em]; simp) rfl (by omega) (by rw [ST.out.em]; rfl) (by rw [ST.out.em]; rfl)).mono ?_
    rintro e w20 ⟨rfl, hk, hb⟩
    go_wp2_with (fail)
    go_ret
    exact ⟨by simp, BW.out.trans (hk.bel.mono BW.out.size)⟩
end Go.Proofs.Yteojmmjanjilaaa
