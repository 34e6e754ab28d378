/- The law ReplayChoices: its walk. -/
import Derived.Test.YtlpkgheggbcidaaRpToys
set_option linter.unusedVariables false
namespace Go.Proofs.Ytlpkgheggbcidaa
open Go.RowKit Go.Mem Go.Rp Go.Maps
theorem i64_tdiv {x : Int} (h : I64 x) (d : Int) (hd : 1 ≤ d) : I64 (x.tdiv d) ∧ IntKind.i64.wrap (x.tdiv d) = x.tdiv d := by
  have hb : I64 (x.tdiv d) := by
    obtain ⟨h1, h2⟩ := h
    rcases Int.lt_or_le x 0 with hx | hx
    · have e : x.tdiv d = -((-x).tdiv d) := by rw [Int.neg_tdiv, Int.neg_neg]
      have e2 : (-x).tdiv d = (-x) / d := Int.tdiv_eq_ediv_of_nonneg (by omega)
      have h3 : (-x) / d ≤ -x := Int.ediv_le_self _ (by omega)
      have h4 : 0 ≤ (-x) / d := Int.ediv_nonneg (by omega) (by omega)
      unfold I64
      rw [e, e2]
      omega
    · have e2 : x.tdiv d = x / d := Int.tdiv_eq_ediv_of_nonneg hx
      have h3 : x / d ≤ x := Int.ediv_le_self _ hx
      have h4 : 0 ≤ x / d := Int.ediv_nonneg hx (by omega)
      unfold I64
      rw [e2]
      omega
  refine ⟨hb, IntWalk.i64_in _ ?_⟩
  unfold I64 at hb
  omega
theorem play_inv : ∀ (ps : List Int) {s : Wd} {n : Nat}, Inv s n → Inv (playF s ps).1 (n + ps.length)
  | [], s, n, h => by simpa [playF] using h
  | p :: r, s, n, h => by
    unfold playF
    split
    · exact h.le (by omega)
    · rename_i c hc
      have := play_inv r (h.step c)
      simp only [List.length_cons]
      exact this.le (by omega)
set_option maxRecDepth 100000 in
set_option maxHeartbeats 8000000 in
theorem replayChoices_any (w : World) (A0 : Option Addr) (n0 c0 : Nat) (tv : List (List Int)) (hn0 : n0 = tv.length) (h0 : TvAt w w.heap.size A0 c0 tv) (A1 : Option Addr) (n1 c1 : Nat) (st : List Int) (hn1 : n1 = st.length) (hc1 : n1 ≤ c1) (hm1 : c1 ≤ maxLen) (hr1 : Reads w Any 1 A1 n1 (nums st)) (hi1 : ∀ x ∈ st, I64 x)
    (A2 : Option Addr) (n2 c2 : Nat) (pk : List Int) (hn2 : n2 = pk.length) (hc2 : n2 ≤ c2) (hr2 : Reads w Any 1 A2 n2 (nums pk)) (a : Int) (ha : I64 a) :
    Calls Try.prog 3 #[.slice A0 n0 c0, .slice A1 n1 c1, .slice A2 n2 c2, .int .i64 a] w fun e w' => e = .returned (.bool true) ∧ Below w.heap.size w w' := by
  obtain ⟨k, hk⟩ : ∃ k, k = min n2 60 := ⟨_, rfl⟩
  have hmin : ∀ (ts : Array TypeId) (t : TypeId) (W : World), (Builtin.min_ ts t #[.int .i64 (n2 : Int), .int .i64 60]).run Try.prog W = .ok (.int .i64 (k : Int)) W := fun ts t W => by
    rw [run_min_int2]
    have : (if (60 : Int) < (n2 : Int) then (60 : Int) else (n2 : Int)) = (k : Int) := by split <;> omega
    rw [this]
  have hsl := fun (W : World) => cut_h (P := Try.prog) (n := n2) (c := c2) (A := A2) 23 3 Try.underlying23 (size := 1) (by kernel_rfl) k (by omega) W
  have rp : Reads w (fun b => b < w.heap.size) 1 A2 k (nums (pk.take k)) := by
    have := (hr2.first (m := k) (by omega)).imp (D' := fun b => b < w.heap.size) (by omega) fun b _ hl => hl
    rw [Nat.mul_one, nums_take] at this
    exact this
  have TY := Lib.hid (toys_any w w.heap.size (Nat.le_refl _) A0 n0 c0 tv hn0 h0 A1 n1 c1 st hn1 (by unfold maxLen at hm1; omega) (hr1.imp (by omega) fun b _ hl => hl) hi1)
  have HP := Lib.hid (And.intro rp (show k = (pk.take k).length by rw [List.length_take]; omega))
  have hk60 : k ≤ 60 := by omega
  obtain ⟨s0, hs0⟩ : ∃ s, s = toysF (tv.take 5) st := ⟨_, rfl⟩
  rw [← hs0] at TY
  have hI0 : Inv s0 5 := by rw [hs0]; exact toys_inv _ _
  have HI := Lib.hid hI0
  clear hI0 hs0 rp hr2 hr1 h0 hn0 hn1 hn2 hk hi1
  go_enter Try.func3, Try.ntmps3
  go_wp2_with (fail)
  refine TY.out.mono ?_
  rintro e w1 ⟨T, col, rfl, hW, _, hb1⟩
  have rp1 := HP.out.1.keep (Same.of_below hb1 fun b hb _ => hb)
  have PL := Lib.hid (play_any w1 w.heap.size T col s0 hW HI.out A2 k c2 (pk.take k) HP.out.2 (by omega) (by omega) rp1)
  have H1 := Lib.hid (And.intro hW hb1)
  clear hW hb1 rp1 TY
  go_wp2_with (fail)
  refine PL.out.mono ?_
  rintro e w2 ⟨PA, pc, col2, rfl, hW2, st2, _, _, _⟩
  obtain ⟨s2, hs2⟩ : ∃ s, s = (playF s0 (pk.take k)).1 := ⟨_, rfl⟩
  have hI2 : Inv s2 65 := by
    rw [hs2]
    exact (play_inv (pk.take k) HI.out).le (by rw [← HP.out.2]; omega)
  rw [← hs2] at hW2
  have low := H1.out.1.low
  have hb2 : Below w.heap.size w w2 := H1.out.2.trans (st2.below_of low H1.out.1.lB)
  obtain ⟨A, c, av, ps, M, l, sv, hw2⟩ := hW2
  have CHO := Lib.hid (choices_any w2 w.heap.size T col2 s2 hw2 hI2.acs (fun k => Nat.le_trans (hI2.ways k) (by omega)) (fun i a ha => Nat.le_trans (hI2.box i a ha) (by omega)))
  have H2 := Lib.hid (And.intro hw2 (And.intro hb2 hI2))
  generalize (playF s0 (pk.take k)).2.length = plen
  clear hs2 hI2 hb2 hw2 st2 PL low H1 HP HI hmin hsl
  go_wp2_with (fail)
  refine CHO.out.mono ?_
  rintro e w3 ⟨CA, cn, cc, rfl, hcn, hcc, hcm, hcr, hb3⟩
  have H3 := Lib.hid (And.intro hcn (And.intro hcr hb3))
  clear hcn hcr hb3 CHO
  -- the choice that is asked for
  obtain ⟨d3, w3'⟩ := i64_tdiv ha 3 (by omega)
  obtain ⟨d24, w24⟩ := i64_tdiv ha 24 (by omega)
  obtain ⟨q1, hq1⟩ : ∃ q, q = restI a 3 := ⟨_, rfl⟩
  obtain ⟨q2, hq2⟩ : ∃ q, q = restI (a.tdiv 3) 8 := ⟨_, rfl⟩
  obtain ⟨q3, hq3⟩ : ∃ q, q = restI (a.tdiv 24) 8 := ⟨_, rfl⟩
  have R1 := Lib.hid (rest_q a 3 w3 q1 ha (by omega) (by omega) hq1.symm)
  have R2 := Lib.hid (rest_q (a.tdiv 3) 8 w3 q2 d3 (by omega) (by omega) hq2.symm)
  have R3 := Lib.hid (rest_q (a.tdiv 24) 8 w3 q3 d24 (by omega) (by omega) hq3.symm)
  have b1 := restI_bd a 3 (by omega)
  have b2 := restI_bd (a.tdiv 3) 8 (by omega)
  have b3 := restI_bd (a.tdiv 24) 8 (by omega)
  rw [← hq1] at b1
  rw [← hq2] at b2
  rw [← hq3] at b3
  obtain ⟨b10, b11⟩ := b1
  obtain ⟨b20, b21⟩ := b2
  obtain ⟨b30, b31⟩ := b3
  clear hq1 hq2 hq3 d3 d24 ha
  go_wp2_with (fail)
  refine R1.out.mono ?_
  rintro e w' ⟨rfl, rfl⟩
  go_wp2_with (fail)
  refine R2.out.mono ?_
  rintro e w' ⟨rfl, rfl⟩
  go_wp2_with (fail)
  refine R3.out.mono ?_
  rintro e w' ⟨rfl, rfl⟩
  obtain ⟨w4, hw4⟩ : ∃ W, W = w3.alloc (.cells #[.int .i64 (1 + q1), .int .i64 q2, .int .i64 q3] 34) := ⟨_, rfl⟩
  obtain ⟨X, hX⟩ : ∃ X, X = w3.heap.size := ⟨_, rfl⟩
  have b34 : Below w3.heap.size w3 w4 := by rw [hw4]; exact (Below.refl _ _).alloc (Nat.le_refl _) _
  have b24 : Below w2.heap.size w2 w4 := H3.out.2.2.trans (b34.mono H3.out.2.2.size)
  have fX : Blk w4 X 34 [.int .i64 (1 + q1), .int .i64 q2, .int .i64 q3] := by rw [hw4, hX]; exact Blk.new w3 _ _
  have cn2 : cn ≤ 2000 := by rw [H3.out.1]; exact choices_len H2.out.2.2.acs
  have rd4 := H3.out.2.1.keep (Same.any b34)
  have CON := contains_any CA cn cc (choicesF s2) ⟨1 + q1, q2, q3⟩ w4 (rd4.imp (by omega) fun _ _ _ => trivial) H3.out.1 (by omega)
  obtain ⟨r, hr⟩ : ∃ r, r = decide ((⟨1 + q1, q2, q3⟩ : Ch) ∈ choicesF s2) := ⟨_, rfl⟩
  rw [← hr] at CON
  have HC := Lib.hid CON
  have HRr := Lib.hid hr
  have x0 := fX.cell 0
  have x1 := fX.cell 1
  have x2 := fX.cell 2
  simp only [List.getElem?_cons_succ, List.getElem?_cons_zero] at x0 x1 x2
  have lX := fX.lt
  have H4 := Lib.hid (And.intro b24 (And.intro fX rd4))
  have HW4 := Lib.hid hw4
  have HX := Lib.hid hX
  clear CON hr hw4 hX b34 b24 fX rd4 R1 R2 R3
  go_wp2_with (fail)
  rw [← HW4.out, ← HX.out]
  refine HC.out.mono ?_
  rintro e w5 ⟨rfl, hb5⟩
  have b25 : Below w2.heap.size w2 w5 := H4.out.1.trans (hb5.mono H4.out.1.size)
  have fX5 := H4.out.2.1.below hb5 H4.out.2.1.lt
  have hw5 := H2.out.1.below b25 .out
  have rd5 := H4.out.2.2.keep (Same.any hb5)
  have rowlow : ∀ b, w2.heap.size ≤ b → recol col2 w2.heap.size .out b = .out := fun b hb => recol_new hb
  have TK := take_any w5 w.heap.size T _ s2 ⟨_, _, _, _, _, _, _, hw5⟩ H2.out.2.2 (by omega) ⟨1 + q1, q2, q3⟩
  have HT := Lib.hid TK
  have y0 := fX5.cell 0
  have y1 := fX5.cell 1
  have y2 := fX5.cell 2
  simp only [List.getElem?_cons_succ, List.getElem?_cons_zero] at y0 y1 y2
  have lX5 := fX5.lt
  have H5 := Lib.hid (And.intro b25 (And.intro hw5 (And.intro rd5 rowlow)))
  clear TK b25 fX5 hw5 hb5 HC x0 x1 x2 lX rd5 rowlow
  have bw5 : Below w.heap.size w w5 := H2.out.2.1.trans (H5.out.1.mono H2.out.2.1.size)
  have HB5 := Lib.hid bw5
  clear bw5
  by_cases hm : (⟨1 + q1, q2, q3⟩ : Ch) ∈ choicesF s2
  · have hr1 : r = true := by rw [HRr.out, decide_eq_true hm]
    have TK2 := HT.out
    rw [if_pos hm, if_pos hm] at TK2
    have HT2 := Lib.hid TK2
    subst hr1
    clear TK2 HT hm
    go_wp2_with (fail)
    refine HT2.out.mono ?_
    rintro e w6 ⟨rfl, col6, h6, st6⟩
    have HF := Lib.hid (HB5.out.trans (st6.below_of H5.out.2.1.low HB5.out.size))
    clear h6 st6 y0 y1 y2
    go_wp2_with (fail)
    go_ret
    exact ⟨rfl, HF.out⟩
  · have hr1 : r = false := by rw [HRr.out, decide_eq_false hm]
    have TK2 := HT.out
    rw [if_neg hm, if_neg hm] at TK2
    have HT2 := Lib.hid TK2
    subst hr1
    clear TK2 HT hm
    go_wp2_with (fail)
    refine HT2.out.mono ?_
    rintro e w6 ⟨rfl, col6, h6, st6⟩
    obtain ⟨A6, c6, av6, ps6, M6, l6, sv6, h6⟩ := h6
    have CH6 := Lib.hid (choices_any w6 w.heap.size T col6 s2 h6 H2.out.2.2.acs (fun k => Nat.le_trans (H2.out.2.2.ways k) (by omega)) (fun i a ha => Nat.le_trans (H2.out.2.2.box i a ha) (by omega)))
    have rd6 : Reads w6 Any 3 CA cn (cat chC (choicesF s2)) := (H5.out.2.2.1.keep (Same.of_in st6.g fun b hb _ hc => hc (H5.out.2.2.2 b hb))).imp (by omega) fun _ _ _ => trivial
    have HF := Lib.hid (And.intro (HB5.out.trans (st6.below_of H5.out.2.1.low HB5.out.size)) rd6)
    clear h6 st6 y0 y1 y2 rd6
    go_wp2_with (fail)
    refine CH6.out.mono ?_
    rintro e w7 ⟨CB, cn7, cc7, rfl, hcn7, hcc7, hcm7, hcr7, hb7⟩
    have en : cn7 = cn := by rw [hcn7, H3.out.1]
    subst en
    have EQ := Lib.hid (equal_ch CA CB cn7 cc cc7 (choicesF s2) w7 (HF.out.2.keep (Same.any hb7)) (hcr7.imp (by omega) fun _ _ _ => trivial) (by omega) hcn7)
    have HG := Lib.hid (HF.out.1.trans (hb7.mono HF.out.1.size))
    clear hcn7 hcr7 hb7
    go_wp2_with (fail)
    refine EQ.out.mono ?_
    rintro e w8 ⟨rfl, hb8⟩
    have HG2 := Lib.hid (HG.out.trans (hb8.mono HG.out.size))
    clear hb8
    go_wp2_with (fail)
    go_ret
    exact ⟨rfl, HG2.out⟩
end Go.Proofs.Ytlpkgheggbcidaa
