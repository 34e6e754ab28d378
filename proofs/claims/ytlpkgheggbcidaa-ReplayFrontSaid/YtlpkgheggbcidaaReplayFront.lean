/- The law ReplayFront: its walk. -/
import Derived.Test.YtlpkgheggbcidaaReplayChoices
set_option linter.unusedVariables false
namespace Go.Rp
open Go.Mem Go.RowKit
theorem again_inv : ∀ (l : List Ch) {s : Wd} {n : Nat}, Inv s n → Inv (againF s l).1 (n + l.length)
  | [], s, n, h => by simpa [againF] using h
  | c :: r, s, n, h => by
    unfold againF
    split
    · have := again_inv r (h.step c)
      simp only [List.length_cons]
      exact this.le (by omega)
    · exact h.le (by omega)
theorem play_len : ∀ (ps : List Int) (s : Wd), (playF s ps).2.length ≤ ps.length
  | [], s => Nat.le_refl _
  | p :: r, s => by
    unfold playF
    split
    · simp
    · rename_i c hc
      have := play_len r (stepF s c)
      simp only [List.length_cons]
      omega
theorem no_99 {s : Wd} (h : s.acs.length ≤ 30) : againF s [⟨1, 99, 0⟩] = (s, 0, false) := by
  have hn : (⟨1, 99, 0⟩ : Ch) ∉ choicesF s := fun hc => by
    rcases mem_choices hc with ⟨i, a, ha, _, e⟩ | ⟨a, b, _, _, _, e⟩ | ⟨i, a, ha, _, e⟩
    · injection e with _ e _
      have := (List.getElem?_eq_some_iff.1 ha).1
      omega
    · injection e with e _ _
      omega
    · injection e with e _ _
      omega
  simp [againF, if_neg hn]
end Go.Rp
namespace Go.Proofs.Ytlpkgheggbcidaa
open Go.RowKit Go.Mem Go.Rp Go.Maps
/-- no block is of two worlds -/
def Dis (col colO : Nat → Cl) (w : World) : Prop := ∀ b, b < w.heap.size → col b = .out ∨ colO b = .out
theorem Dis.symm {col colO : Nat → Cl} {w : World} (h : Dis col colO w) : Dis colO col w := fun b hb => (h b hb).symm
theorem Dis.step {col colO colO' : Nat → Cl} {w w' : World} (h : Dis col colO w) (st : Stp colO colO' w w') : Dis (recol col w.heap.size .out) colO' w' := fun b hb => by
  rcases Nat.lt_or_ge b w.heap.size with hl | hl
  · rcases h b hl with h1 | h1
    · exact .inl (by rw [recol_old hl]; exact h1)
    · exact .inr ((st.c b hl).2 h1)
  · exact .inl (recol_new hl)
theorem Dis.below {col colO : Nat → Cl} {w w' : World} (h : Dis col colO w) : Dis (recol col w.heap.size .out) (recol colO w.heap.size .out) w' := fun b hb => by
  rcases Nat.lt_or_ge b w.heap.size with hl | hl
  · rw [recol_old hl, recol_old hl]
    exact h b hl
  · exact .inl (recol_new hl)
theorem WdAt.other {w w' : World} {B T : Nat} {col colO colO' : Nat → Cl} {s : Wd} (h : WdAt w B T col s) (st : Stp colO colO' w w') (hd : Dis col colO w) (hO : ∀ b, b < B → colO b = .out) : WdAt w' B T (recol col w.heap.size .out) s := by
  have low := h.low
  have lB := h.lB
  obtain ⟨A, c, av, ps, M, l, sv, h⟩ := h
  have own : ∀ b, b < w.heap.size → col b ≠ .out → w'.heap[b]? = w.heap[b]? := fun b hb hc => st.g.block b hb (fun hO => by
    rcases hd b hb with h1 | h1
    · exact hc h1
    · exact hO h1)
  exact ⟨_, _, _, _, _, _, _, h.keep st.g.size (fun b hb hl => st.g.block b hl (fun hc => hc (hO b hb))) (fun b hb hc => ⟨own b hb hc, recol_old hb⟩) (fun b hb => by rw [recol_old (by omega)]; exact low b hb)⟩
theorem rd_out {w : World} {col : Nat → Cl} {size n m : Nat} {A : Option Addr} {xs : List Value} (h : Reads w (fun b => col b = .out) size A m xs) (hz : 0 < size) : Reads w (fun b => recol col n .out b = .out) size A m xs :=
  h.imp hz fun b hb _ => by
    rcases Nat.lt_or_ge b n with hl | hl
    · rw [recol_old hl]; exact hb
    · exact recol_new hl
/-- two worlds -/
structure Two (w0 w : World) (B Ta Tb : Nat) (ca cb : Nat → Cl) (sa sb : Wd) : Prop where
  a : WdAt w B Ta ca sa
  b : WdAt w B Tb cb sb
  d : Dis ca cb w
  la : ∀ q, q < B → ca q = .out
  lb : ∀ q, q < B → cb q = .out
  bel : Below B w0 w
section
variable {w0 w w' : World} {B Ta Tb : Nat} {ca ca' cb cb' : Nat → Cl} {sa sa' sb sb' : Wd}
theorem Two.stepA (h : Two w0 w B Ta Tb ca cb sa sb) (ha : WdAt w' B Ta ca' sa') (st : Stp ca ca' w w') : Two w0 w' B Ta Tb ca' (recol cb w.heap.size .out) sa' sb :=
  ⟨ha, h.b.other st h.d.symm h.la, (h.d.symm.step st).symm, ha.low, (h.b.other st h.d.symm h.la).low, h.bel.trans (st.below_of h.la h.a.lB)⟩
theorem Two.stepB (h : Two w0 w B Ta Tb ca cb sa sb) (hb : WdAt w' B Tb cb' sb') (st : Stp cb cb' w w') : Two w0 w' B Ta Tb (recol ca w.heap.size .out) cb' sa sb' :=
  ⟨h.a.other st h.d h.lb, hb, h.d.step st, (h.a.other st h.d h.lb).low, hb.low, h.bel.trans (st.below_of h.lb h.a.lB)⟩
theorem Two.below (h : Two w0 w B Ta Tb ca cb sa sb) (hb : Below w.heap.size w w') : Two w0 w' B Ta Tb (recol ca w.heap.size .out) (recol cb w.heap.size .out) sa sb :=
  ⟨h.a.below hb .out, h.b.below hb .out, h.d.below, (h.a.below hb .out).low, (h.b.below hb .out).low, h.bel.trans (hb.mono h.a.lB)⟩
end
set_option maxRecDepth 100000 in
set_option maxHeartbeats 8000000 in
theorem replayFront_any (w : World) (A0 : Option Addr) (n0 c0 : Nat) (tv : List (List Int)) (hn0 : n0 = tv.length) (h0 : TvAt w w.heap.size A0 c0 tv) (A1 : Option Addr) (n1 c1 : Nat) (st : List Int) (hn1 : n1 = st.length) (hc1 : n1 ≤ c1) (hm1 : c1 ≤ maxLen) (hr1 : Reads w Any 1 A1 n1 (nums st)) (hi1 : ∀ x ∈ st, I64 x)
    (A2 : Option Addr) (n2 c2 : Nat) (pk : List Int) (hn2 : n2 = pk.length) (hc2 : n2 ≤ c2) (hr2 : Reads w Any 1 A2 n2 (nums pk)) (a : Int) (ha : I64 a) :
    Calls Try.prog 4 #[.slice A0 n0 c0, .slice A1 n1 c1, .slice A2 n2 c2, .int .i64 a] w fun e w' => e = .returned (.bool true) ∧ Below w.heap.size w w' := by
  obtain ⟨k, hk⟩ : ∃ k, k = min n2 150 := ⟨_, rfl⟩
  have hmin : ∀ (ts : Array TypeId) (t : TypeId) (W : World), (Builtin.min_ ts t #[.int .i64 (n2 : Int), .int .i64 150]).run Try.prog W = .ok (.int .i64 (k : Int)) W := fun ts t W => by
    rw [run_min_int2]
    have : (if (150 : Int) < (n2 : Int) then (150 : Int) else (n2 : Int)) = (k : Int) := by split <;> omega
    rw [this]
  have hsl := fun (W : World) => cut_h (P := Try.prog) (n := n2) (c := c2) (A := A2) 23 3 Try.underlying23 (size := 1) (by kernel_rfl) k (by omega) W
  have rp : Reads w (fun b => b < w.heap.size) 1 A2 k (nums (pk.take k)) := by
    have := (hr2.first (m := k) (by omega)).imp (D' := fun b => b < w.heap.size) (by omega) fun b _ hl => hl
    rw [Nat.mul_one, nums_take] at this
    exact this
  have rs : Reads w (fun b => b < w.heap.size) 1 A1 n1 (nums st) := hr1.imp (by omega) fun b _ hl => hl
  have hsm : n1 ≤ 9223372036854775807 := by unfold maxLen at hm1; omega
  have TY := Lib.hid (toys_any w w.heap.size (Nat.le_refl _) A0 n0 c0 tv hn0 h0 A1 n1 c1 st hn1 hsm rs hi1)
  have TY2 := Lib.hid (fun (W : World) (hW : Below w.heap.size w W) => toys_any W w.heap.size hW.size A0 n0 c0 tv hn0 (h0.keep (Same.of_below hW fun b hb _ => hb)) A1 n1 c1 st hn1 hsm ((rs.keep (Same.of_below hW fun b hb _ => hb)).imp (by omega) fun b _ hl => hl) hi1)
  have HP := Lib.hid (And.intro rp (show k = (pk.take k).length by rw [List.length_take]; omega))
  have hk150 : k ≤ 150 := by omega
  obtain ⟨s0, hs0⟩ : ∃ s, s = toysF (tv.take 5) st := ⟨_, rfl⟩
  rw [← hs0] at TY TY2
  have hI0 : Inv s0 5 := by rw [hs0]; exact toys_inv _ _
  have HI := Lib.hid hI0
  clear hI0 hs0 rp hr2 hr1 h0 hn0 hn1 hn2 hk hi1 rs hsm
  go_enter Try.func4, Try.ntmps4
  go_wp2_with (fail)
  refine TY.out.mono ?_
  rintro e w1 ⟨Ta, ca, rfl, hW, hlow, hb1⟩
  have H1 := Lib.hid (And.intro hW (And.intro hlow hb1))
  clear hW hlow hb1 TY
  go_wp2_with (fail)
  refine (TY2.out w1 H1.out.2.2).mono ?_
  rintro e w2 ⟨Tb, cb, rfl, hW2, hlow2, hb2⟩
  have T2 : Two w w2 w.heap.size Ta Tb (recol ca w1.heap.size .out) cb s0 s0 := by
    refine ⟨H1.out.1.below hb2 .out, hW2, fun b hb => ?_, (H1.out.1.below hb2 .out).low, hW2.low, H1.out.2.2.trans (hb2.mono H1.out.2.2.size)⟩
    rcases Nat.lt_or_ge b w1.heap.size with hl | hl
    · exact .inr (hlow2 b hl)
    · exact .inl (recol_new hl)
  generalize recol ca w1.heap.size .out = ca at T2
  have rp2 := HP.out.1.keep (Same.of_below T2.bel fun b hb _ => hb)
  have PL := Lib.hid (play_any w2 w.heap.size Ta ca s0 T2.a HI.out A2 k c2 (pk.take k) HP.out.2 (by omega) (by omega) rp2)
  have H2 := Lib.hid T2
  clear T2 hW2 hlow2 hb2 rp2 TY2 H1
  go_wp2_with (fail)
  refine PL.out.mono ?_
  rintro e w3 ⟨PA, pc, ca3, rfl, hW3, st3, hpc, hpm, hrd⟩
  have T3 := H2.out.stepA hW3 st3
  have hcol : ∀ b, w2.heap.size ≤ b → recol cb w2.heap.size .out b = .out := fun b hb => recol_new hb
  generalize recol cb w2.heap.size .out = cb3 at T3 hcol
  have hrd3 : Reads w3 (fun b => cb3 b = .out) 3 PA (playF s0 (pk.take k)).2.length (cat chC (playF s0 (pk.take k)).2) := hrd.imp (by omega) fun b hb _ => hcol b hb.2
  have hpl := play_len (pk.take k) s0
  rw [← HP.out.2] at hpl
  have FR := Lib.hid (fun n hn => And.intro (play_front (pk.take k) s0 n hn) (said_front (pk.take k) s0 n))
  have hIa := (play_inv (pk.take k) HI.out).le (m := 200) (by rw [← HP.out.2]; omega)
  generalize hpf : playF s0 (pk.take k) = pf at hrd3 hpl FR hIa T3 hpc hrd
  obtain ⟨sa, out⟩ := pf
  simp only at hrd3 hpl FR hIa T3 hpc ⊢
  obtain ⟨N, hN⟩ : ∃ N, N = out.length := ⟨_, rfl⟩
  rw [← hN] at hrd3 hpl hpc ⊢
  -- how many choices are taken again
  obtain ⟨q, hq⟩ : ∃ q, q = restI a ((N : Int) + 1) := ⟨_, rfl⟩
  have hqb := restI_bd a ((N : Int) + 1) (by omega)
  rw [← hq] at hqb
  obtain ⟨m, rfl⟩ := Int.eq_ofNat_of_zero_le hqb.1
  have hmN : m ≤ N := by omega
  have RS := Lib.hid (rest_q a ((N : Int) + 1) w3 (m : Int) ha (by omega) (by omega) hq.symm)
  have hsl2 := fun (W : World) => cut_h (P := Try.prog) (n := N) (c := pc) (A := PA) 27 34 Try.underlying27 (size := 3) (by kernel_rfl) m (by omega) W
  have rdm : Reads w3 (fun b => cb3 b = .out) 3 PA m (cat chC (out.take m)) := by
    have := hrd3.first hmN
    rw [cat_take chC_len] at this
    exact this
  have AG := again_any w3 w.heap.size Tb cb3 s0 T3.b HI.out PA m pc (out.take m) (by rw [List.length_take]; omega) (by omega) (by omega) rdm
  obtain ⟨g1, g2⟩ := FR.out m (by omega)
  have hIb := (again_inv (out.take m) HI.out).le (m := 200) (by rw [List.length_take]; omega)
  generalize againF s0 (out.take m) = ag at AG g1 g2 hIb
  obtain ⟨sb, gn, gb⟩ := ag
  simp only [Prod.mk.injEq] at g1 g2 hIb
  obtain ⟨rfl, rfl⟩ := g1
  have HAG := Lib.hid AG
  have H3 := Lib.hid T3
  have HI3 := Lib.hid (And.intro hIa (And.intro hIb g2))
  clear AG T3 g2 hIa hIb rdm hrd3 hrd hW3 st3 hcol FR hpf hN hq hqb ha H2 PL HI HP hmin hsl
  go_wp2_with (fail)
  refine RS.out.mono ?_
  rintro e w' ⟨rfl, rfl⟩
  go_wp2_with (fail)
  refine HAG.out.mono ?_
  rintro e w4 ⟨rfl, cb4, h4, st4⟩
  simp only at h4
  have T4 := H3.out.stepB h4 st4
  generalize recol ca3 w3.heap.size .out = ca4 at T4
  have H4 := Lib.hid T4
  obtain ⟨A4, c4, av4, ps4, M4, l4, sv4, ha4⟩ := T4.a
  have TA := Lib.hid (told_any w4 w.heap.size Ta ca4 sa ha4 HI3.out.1 (by omega))
  clear h4 st4 T4 ha4 HAG RS hsl2
  go_wp2_with (fail)
  refine TA.out.mono ?_
  rintro e w5 ⟨XA, xc, XH, xhc, rfl, x1, x2, x3, _, _, _, hb5⟩
  have T5 := H4.out.below hb5
  have rx5 : Reads w5 (fun b => recol cb4 w4.heap.size .out b = .out) 2 XA sa.said.length (cat sdC sa.said) := x3.imp (by omega) fun b hb _ => recol_new hb
  generalize recol ca4 w4.heap.size .out = ca5 at T5
  generalize recol cb4 w4.heap.size .out = cb5 at T5 rx5
  have H5 := Lib.hid T5
  obtain ⟨A5, c5, av5, ps5, M5, l5, sv5, hb5'⟩ := T5.b
  have TB := Lib.hid (told_any w5 w.heap.size Tb cb5 sb hb5' HI3.out.2.1 (by omega))
  have HX := Lib.hid rx5
  clear T5 hb5' hb5 TA x3 H4 rx5
  go_wp2_with (fail)
  refine TB.out.mono ?_
  rintro e w6 ⟨YA, yc, YH, yhc, rfl, y1, y2, y3, _, _, _, hb6⟩
  have T6 := H5.out.below hb6
  have rx6 : Reads w6 (fun b => recol cb5 w5.heap.size .out b = .out) 2 XA sa.said.length (cat sdC sa.said) := rd_out (HX.out.keep (Same.any hb6)) (by omega)
  have ry6 : Reads w6 (fun b => recol cb5 w5.heap.size .out b = .out) 2 YA sb.said.length (cat sdC sb.said) := y3.imp (by omega) fun b hb _ => recol_new hb
  generalize recol ca5 w5.heap.size .out = ca6 at T6
  generalize recol cb5 w5.heap.size .out = cb6 at T6 rx6 ry6
  obtain ⟨w7, hw7⟩ : ∃ W, W = w6.alloc (.cells #[.int .i64 1, .int .i64 99, .int .i64 0] 34) := ⟨_, rfl⟩
  have b67 : Below w6.heap.size w6 w7 := by rw [hw7]; exact (Below.refl _ _).alloc (Nat.le_refl _) _
  have T7 := T6.below b67
  have rd7 : Reads w7 (fun b => recol cb6 w6.heap.size .out b = .out) 3 (some ⟨w6.heap.size, 0, none⟩) 1 (cat chC [⟨1, 99, 0⟩]) := by
    rw [hw7, cat_one]
    exact Reads.new w6 (chC ⟨1, 99, 0⟩) 3 1 _ _ (recol_new (Nat.le_refl _)) rfl
  have AG := again_any w7 w.heap.size Tb _ sb T7.b HI3.out.2.1 (some ⟨w6.heap.size, 0, none⟩) 1 1 [⟨1, 99, 0⟩] rfl (by omega) (by omega) rd7
  rw [no_99 HI3.out.2.1.acs] at AG
  have HAG := Lib.hid AG
  have H7 := Lib.hid T7
  have HW7 := Lib.hid hw7
  have HX7 := Lib.hid (rd_out (n := w6.heap.size) (rx6.keep (Same.any b67)) (by omega))
  have HY7 := Lib.hid (rd_out (n := w6.heap.size) (ry6.keep (Same.any b67)) (by omega))
  clear AG T7 hw7 rd7 b67 T6 hb6 TB y3 HX rx6 ry6 H5
  go_wp2_with (fail)
  rw [← HW7.out]
  refine HAG.out.mono ?_
  rintro e w8 ⟨rfl, cb8, h8, st8⟩
  have same8 : Same (fun b => recol cb6 w6.heap.size .out b = .out) w7 w8 := Same.of_in st8.g fun b hb _ hc => hc hb
  have rx8 := (HX7.out.keep same8).imp (D' := Any) (by omega) fun _ _ _ => trivial
  have ry8 := (HY7.out.keep same8).imp (D' := Any) (by omega) fun _ _ _ => trivial
  have b08 := H7.out.bel.trans (st8.below_of H7.out.lb H7.out.b.lB)
  have hle := HI3.out.2.2.length_le
  obtain ⟨NX, hNX⟩ : ∃ n, n = sa.said.length := ⟨_, rfl⟩
  obtain ⟨NY, hNY⟩ : ∃ n, n = sb.said.length := ⟨_, rfl⟩
  have ry9 := ry8
  rw [← hNX] at rx8 hle x1 ⊢
  rw [← hNY] at ry8 hle y1 ⊢
  have hNY2 : NY ≤ 1000 := by rw [hNY]; have := HI3.out.2.1.said; omega
  have hsl3 := fun (W : World) => cut_h (P := Try.prog) (n := NX) (c := xc) (A := XA) 41 47 Try.underlying41 (size := 2) (by kernel_rfl) NY (by omega) W
  have rxy : Reads w8 Any 2 XA NY (cat sdC sb.said) := by
    have := rx8.first hle
    rw [cat_take sdC_len] at this
    obtain ⟨z, hz⟩ := HI3.out.2.2
    rw [← hz, hNY, List.take_left] at this
    rw [hNY]
    exact this
  have EQ := Lib.hid (equal_sd YA XA NY yc xc sb.said w8 ry8 rxy (by omega) hNY)
  have HB := Lib.hid b08
  have hle2 : decide ((NY : Int) ≤ (NX : Int)) = true := by simp; omega
  have hle3 : decide (NY ≤ NX) = true := by simpa using hle
  have ggn : ((gn : Int) == (gn : Int)) = true := by simp
  clear same8 rx8 ry8 ry9 b08 hNX hNY rxy h8 st8 H7 HX7 HY7 HAG
  go_wp2_with (fail)
  refine EQ.out.mono ?_
  rintro e w9 ⟨rfl, hb9⟩
  have HF := Lib.hid (HB.out.trans (hb9.mono HB.out.size))
  clear hb9
  go_wp2_with (fail)
  go_ret
  exact ⟨rfl, HF.out⟩
end Go.Proofs.Ytlpkgheggbcidaa
