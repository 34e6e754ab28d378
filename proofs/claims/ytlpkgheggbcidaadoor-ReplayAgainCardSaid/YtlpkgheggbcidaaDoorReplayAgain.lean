/- The law ReplayAgain: its walk. -/
import Derived.Test.YtlpkgheggbcidaaDoorRaRead
set_option linter.unusedVariables false
namespace Go.Proofs.YtlpkgheggbcidaaDoor
open Go.RowKit Go.Mem Go.Rp Go.Maps
set_option maxRecDepth 100000 in
set_option maxHeartbeats 8000000 in
theorem replayAgain_any (w : World) (hv : Env w) (A0 : Option Addr) (n0 c0 : Nat) (tv : List (List Int)) (hn0 : n0 = tv.length) (h0 : TvAt w w.heap.size A0 c0 tv) (A1 : Option Addr) (n1 c1 : Nat) (st : List Int) (hn1 : n1 = st.length) (hc1 : n1 ≤ c1) (hm1 : c1 ≤ maxLen) (hr1 : Reads w Any 1 A1 n1 (nums st)) (hi1 : ∀ x ∈ st, I64 x)
    (A2 : Option Addr) (n2 c2 : Nat) (pk : List Int) (hn2 : n2 = pk.length) (hc2 : n2 ≤ c2) (hr2 : Reads w Any 1 A2 n2 (nums pk)) :
    Calls Tryd.prog 3 #[.slice A0 n0 c0, .slice A1 n1 c1, .slice A2 n2 c2] w fun e w' => e = .returned (.bool true) ∧ Below w.heap.size w w' := by
  obtain ⟨k, hk⟩ : ∃ k, k = min n2 150 := ⟨_, rfl⟩
  have hmin : ∀ (ts : Array TypeId) (t : TypeId) (W : World), (Builtin.min_ ts t #[.int .i64 (n2 : Int), .int .i64 150]).run Tryd.prog W = .ok (.int .i64 (k : Int)) W := fun ts t W => by
    rw [run_min_int2]
    have : (if (150 : Int) < (n2 : Int) then (150 : Int) else (n2 : Int)) = (k : Int) := by split <;> omega
    rw [this]
  have hsl := fun (W : World) => cut_h (P := Tryd.prog) (n := n2) (c := c2) (A := A2) 23 3 Tryd.underlying23 (size := 1) (by kernel_rfl) k (by omega) W
  have rp : Reads w (fun b => b < w.heap.size) 1 A2 k (nums (pk.take k)) := by
    have := (hr2.first (m := k) (by omega)).imp (D' := fun b => b < w.heap.size) (by omega) fun b _ hl => hl
    rw [Nat.mul_one, nums_take] at this
    exact this
  have rs : Reads w (fun b => b < w.heap.size) 1 A1 n1 (nums st) := hr1.imp (by omega) fun b _ hl => hl
  have hsm : n1 ≤ 9223372036854775807 := by unfold maxLen at hm1; omega
  have TY := Lib.hid (toys_any w w.heap.size (Nat.le_refl _) A0 n0 c0 tv hn0 h0 A1 n1 c1 st hn1 hsm rs hi1)
  have TY2 := Lib.hid (fun (W : World) (hW : Below w.heap.size w W) => toys_any W w.heap.size hW.size A0 n0 c0 tv hn0 (h0.keep (Same.of_below hW fun b hb _ => hb)) A1 n1 c1 st hn1 hsm ((rs.keep (Same.of_below hW fun b hb _ => hb)).imp (by omega) fun b _ hl => hl) hi1)
  have HP := Lib.hid (And.intro rp (show k = (pk.take k).length by rw [List.length_take]; omega))
  have hk150 : k ≤ 150 := by omega
  obtain ⟨s0, hs0⟩ : ∃ s, s = toysF (tv.take 5) st := ⟨_, rfl⟩
  rw [← hs0] at TY TY2
  have hI0 : Inv s0 5 := by rw [hs0]; exact toys_inv _ _
  have HI := Lib.hid hI0
  have HV := Lib.hid hv
  clear hI0 hs0 rp hr2 hr1 h0 hn0 hn1 hn2 hk hi1 rs hsm hv
  go_enter Tryd.func3, Tryd.ntmps3
  go_wp2_with (fail)
  refine TY.out.mono ?_
  rintro e w1 ⟨Ta, ca, rfl, hW, hlow, hb1⟩
  have H1 := Lib.hid (And.intro hW (And.intro hlow hb1))
  clear hW hlow hb1 TY
  go_wp2_with (fail)
  refine (TY2.out w1 H1.out.2.2).mono ?_
  rintro e w2 ⟨Tb, cb, rfl, hW2, hlow2, hb2⟩
  have T2 : Two w w2 w.heap.size Ta Tb (recol ca w1.heap.size .out) cb s0 s0 := by
    refine ⟨H1.out.1.below hb2 .out, hW2, fun b hb => ?_, (H1.out.1.below hb2 .out).low, hW2.low, H1.out.2.2.trans (hb2.mono H1.out.2.2.size)⟩
    rcases Nat.lt_or_ge b w1.heap.size with hl | hl
    · exact .inr (hlow2 b hl)
    · exact .inl (recol_new hl)
  generalize recol ca w1.heap.size .out = ca at T2
  have rp2 := HP.out.1.keep (Same.of_below T2.bel fun b hb _ => hb)
  have PL := Lib.hid (play_any w2 w.heap.size Ta ca s0 T2.a HI.out A2 k c2 (pk.take k) HP.out.2 (by omega) (by omega) rp2)
  have H2 := Lib.hid T2
  clear T2 hW2 hlow2 hb2 rp2 TY2 H1
  go_wp2_with (fail)
  refine PL.out.mono ?_
  rintro e w3 ⟨PA, pc, ca3, rfl, hW3, st3, hpc, hpm, hrd⟩
  have T3 := H2.out.stepA hW3 st3
  have hcol : ∀ b, w2.heap.size ≤ b → recol cb w2.heap.size .out b = .out := fun b hb => recol_new hb
  generalize recol cb w2.heap.size .out = cb3 at T3 hcol
  have hrd3 : Reads w3 (fun b => cb3 b = .out) 3 PA (playF s0 (pk.take k)).2.length (cat chC (playF s0 (pk.take k)).2) := hrd.imp (by omega) fun b hb _ => hcol b hb.2
  have hpl := play_len (pk.take k) s0
  rw [← HP.out.2] at hpl
  have hok := play_okc (pk.take k) HI.out
  have hag := play_again (pk.take k) s0
  have hIa := (play_inv (pk.take k) HI.out).le (m := 200) (by rw [← HP.out.2]; omega)
  generalize hpf : playF s0 (pk.take k) = pf at hrd3 hpl hok hag hIa T3 hpc hrd
  obtain ⟨sa, out⟩ := pf
  simp only at hrd3 hpl hok hag hIa T3 hpc ⊢
  obtain ⟨N, hN⟩ : ∃ N, N = out.length := ⟨_, rfl⟩
  rw [← hN] at hrd3 hpl hpc ⊢
  -- the text of the choices
  have hv3 := HV.out.below T3.bel
  have TX := Lib.hid (text_any PA N pc out w3 hv3 (hrd3.imp (by omega) fun _ _ _ => trivial) hN hok (by omega))
  have RD := Lib.hid (fun (V : World) (hV : Env V) => read_any out V hV hok (by omega))
  have HG := Lib.hid (And.intro hIa hag)
  have H3 := Lib.hid (And.intro T3 (And.intro hrd3 hv3))
  have HN := Lib.hid hN
  clear hrd3 hrd hok hag hIa T3 hcol hpf hN hv3 hW3 st3 H2 PL HP hmin hsl
  obtain ⟨TT, hTT⟩ : ∃ t : ByteArray, t = ⟨(textC out).toArray⟩ := ⟨_, rfl⟩
  rw [← hTT] at TX RD
  clear hTT
  go_wp2_with (fail)
  refine TX.out.mono ?_
  rintro e w4 ⟨rfl, hb4⟩
  have T4 := H3.out.1.below hb4
  have rd4 := rd_out (n := w3.heap.size) (H3.out.2.1.keep (Same.any hb4)) (by omega)
  generalize recol ca3 w3.heap.size .out = ca4 at T4
  generalize recol cb3 w3.heap.size .out = cb4 at T4 rd4
  have H4 := Lib.hid (And.intro T4 rd4)
  have RD4 := Lib.hid (RD.out w4 (H3.out.2.2.below hb4))
  clear T4 rd4 hb4 TX RD H3
  go_wp2_with (fail)
  refine RD4.out.mono ?_
  rintro e w5 ⟨RA, rc, rfl, hrc, hrm, rr5, hb5⟩
  rw [← HN.out] at hrc rr5 ⊢
  have T5 := H4.out.1.below hb5
  have rd5 := rd_out (n := w4.heap.size) (H4.out.2.keep (Same.any hb5)) (by omega)
  have rr5' : Reads w5 (fun b => recol cb4 w4.heap.size .out b = .out) 3 RA N (cat chC out) := rr5.imp (by omega) fun b hb _ => recol_new hb
  generalize recol ca4 w4.heap.size .out = ca5 at T5
  generalize recol cb4 w4.heap.size .out = cb5 at T5 rd5 rr5'
  have EQ := Lib.hid (equal_ch PA RA N pc rc out w5 (rd5.imp (by omega) fun _ _ _ => trivial) (rr5'.imp (by omega) fun _ _ _ => trivial) (by omega) HN.out)
  have H5 := Lib.hid (And.intro T5 rr5')
  clear T5 rd5 rr5 rr5' hb5 RD4 H4
  go_wp2_with (fail)
  refine EQ.out.mono ?_
  rintro e w6 ⟨rfl, hb6⟩
  have T6 := H5.out.1.below hb6
  have rr6 := rd_out (n := w5.heap.size) (H5.out.2.keep (Same.any hb6)) (by omega)
  generalize recol ca5 w5.heap.size .out = ca6 at T6
  generalize recol cb5 w5.heap.size .out = cb6 at T6 rr6
  have AG := again_any w6 w.heap.size Tb cb6 s0 T6.b HI.out RA N rc out HN.out (by omega) (by omega) rr6
  rw [HG.out.2] at AG
  have HAG := Lib.hid AG
  have H6 := Lib.hid T6
  clear T6 rr6 hb6 AG EQ H5 HI
  go_wp2_with (fail)
  refine HAG.out.mono ?_
  rintro e w7 ⟨rfl, cb7, h7, st7⟩
  simp only at h7
  rw [← HN.out]
  have T7 := H6.out.stepB h7 st7
  generalize recol ca6 w6.heap.size .out = ca7 at T7
  have H7 := Lib.hid T7
  obtain ⟨A7, c7, av7, ps7, M7, l7, sv7, ha7⟩ := T7.a
  have TA := Lib.hid (told_any w7 w.heap.size Ta ca7 sa ha7 HG.out.1 (by omega))
  clear h7 st7 T7 ha7 HAG H6
  go_wp2_with (fail)
  refine TA.out.mono ?_
  rintro e w8 ⟨XA, xc, XH, xhc, rfl, x1, x2, x3, y1, y2, y3, hb8⟩
  have T8 := H7.out.below hb8
  have rx8 := x3.imp (D' := Any) (by omega) fun _ _ _ => trivial
  have ry8 := y3.imp (D' := Any) (by omega) fun _ _ _ => trivial
  generalize recol ca7 w7.heap.size .out = ca8 at T8
  generalize recol cb7 w7.heap.size .out = cb8 at T8
  have H8 := Lib.hid (And.intro T8 (And.intro rx8 ry8))
  obtain ⟨A8, c8, av8, ps8, M8, l8, sv8, hb8'⟩ := T8.b
  have TB := Lib.hid (told_any w8 w.heap.size Tb cb8 sa hb8' HG.out.1 (by omega))
  clear T8 hb8' hb8 TA x3 y3 H7 rx8 ry8
  go_wp2_with (fail)
  refine TB.out.mono ?_
  rintro e w9 ⟨YA, yc, YH, yhc, rfl, z1, z2, z3, u1, u2, u3, hb9⟩
  have T9 := H8.out.1.below hb9
  have rx9 := H8.out.2.1.keep (Same.any hb9)
  have ry9 := H8.out.2.2.keep (Same.any hb9)
  have rz9 := z3.imp (D' := Any) (by omega) fun _ _ _ => trivial
  have ru9 := u3.imp (D' := Any) (by omega) fun _ _ _ => trivial
  generalize recol ca8 w8.heap.size .out = ca9 at T9
  generalize recol cb8 w8.heap.size .out = cb9 at T9
  obtain ⟨NS, hNS⟩ : ∃ n, n = sa.said.length := ⟨_, rfl⟩
  obtain ⟨NH, hNH⟩ : ∃ n, n = sa.acs.length := ⟨_, rfl⟩
  rw [← hNS] at rx9 rz9 x1 z1 ⊢
  rw [← hNH] at ry9 ru9 y1 u1 ⊢
  have bS : NS ≤ 1000 := by rw [hNS]; have := HG.out.1.said; omega
  have bH : NH ≤ 30 := by rw [hNH]; exact HG.out.1.acs
  have E1 := Lib.hid (equal_sd XA YA NS xc yc sa.said w9 rx9 rz9 (by omega) hNS)
  have E2 := Lib.hid (fun (V : World) (hV : Below w9.heap.size w9 V) => equal_st XH YH NH xhc yhc (hows sa) V (ry9.keep (Same.any hV)) (ru9.keep (Same.any hV)) (by omega) (by rw [hNH]; unfold hows; rw [List.length_map]))
  have H9 := Lib.hid T9
  have ggn : ((N : Int) == (N : Int)) = true := by simp
  have ggd : decide ((N : Int) = (N : Int)) = true := by simp
  clear T9 rx9 ry9 rz9 ru9 z3 u3 hb9 TB H8 hNS hNH
  go_wp2_with (fail)
  refine E1.out.mono ?_
  rintro e w10 ⟨rfl, hb10⟩
  have E2' := Lib.hid (E2.out w10 hb10)
  have T10 := H9.out.below hb10
  generalize recol ca9 w9.heap.size .out = ca10 at T10
  generalize recol cb9 w9.heap.size .out = cb10 at T10
  have H10 := Lib.hid T10
  clear T10 hb10 E1 E2 H9
  go_wp2_with (fail)
  refine E2'.out.mono ?_
  rintro e w11 ⟨rfl, hb11⟩
  have T11 := H10.out.below hb11
  generalize recol ca10 w10.heap.size .out = ca11 at T11
  generalize recol cb10 w10.heap.size .out = cb11 at T11
  have H11 := Lib.hid T11
  obtain ⟨A11, c11, av11, ps11, M11, l11, sv11, ha11⟩ := T11.a
  have CA := Lib.hid (choices_any w11 w.heap.size Ta ca11 sa ha11 HG.out.1.acs (fun k => Nat.le_trans (HG.out.1.ways k) (by omega)) (fun i a ha => Nat.le_trans (HG.out.1.box i a ha) (by omega)))
  clear T11 ha11 hb11 E2' H10
  go_wp2_with (fail)
  refine CA.out.mono ?_
  rintro e w12 ⟨CX, cn, cc, rfl, hcn, hcc, hcm, hcr, hb12⟩
  have T12 := H11.out.below hb12
  have rc12 := hcr.imp (D' := Any) (by omega) fun _ _ _ => trivial
  generalize recol ca11 w11.heap.size .out = ca12 at T12
  generalize recol cb11 w11.heap.size .out = cb12 at T12
  have H12 := Lib.hid (And.intro T12 rc12)
  obtain ⟨A12, c12, av12, ps12, M12, l12, sv12, ha12⟩ := T12.b
  have CB := Lib.hid (choices_any w12 w.heap.size Tb cb12 sa ha12 HG.out.1.acs (fun k => Nat.le_trans (HG.out.1.ways k) (by omega)) (fun i a ha => Nat.le_trans (HG.out.1.box i a ha) (by omega)))
  have HCN := Lib.hid hcn
  clear T12 rc12 ha12 hb12 hcr hcn CA H11
  go_wp2_with (fail)
  refine CB.out.mono ?_
  rintro e w13 ⟨CY, dn, dc, rfl, hdn, hdc, hdm, hdr, hb13⟩
  obtain rfl : dn = cn := by rw [hdn]; exact HCN.out.symm
  have rc13 := H12.out.2.keep (Same.any hb13)
  have rd13 := hdr.imp (D' := Any) (by omega) fun _ _ _ => trivial
  have cbd := choices_len HG.out.1.acs
  have E3 := Lib.hid (equal_ch CX CY dn cc dc (choicesF sa) w13 rc13 rd13 (by omega) hdn)
  have HB13 := Lib.hid (H12.out.1.bel.trans (hb13.mono H12.out.1.bel.size))
  clear rc13 rd13 hdr hb13 cbd CB H12 hdn
  go_wp2_with (fail)
  refine E3.out.mono ?_
  rintro e w14 ⟨rfl, hb14⟩
  have HF := Lib.hid (HB13.out.trans (hb14.mono HB13.out.size))
  clear hb14
  go_wp2_with (fail)
  go_ret
  exact ⟨rfl, HF.out⟩
end Go.Proofs.YtlpkgheggbcidaaDoor
