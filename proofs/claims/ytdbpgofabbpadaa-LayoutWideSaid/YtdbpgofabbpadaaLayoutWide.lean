/- LayoutWide's walk. -/
import Derived.Test.YtdbpgofabbpadaaLyCat
import Derived.Test.YtdbpgofabbpadaaLyLay
set_option linter.unusedVariables false
namespace Go.Ly
def okB (d : List Pc) : Bool := decide (d.length ≤ 100) && d.all (fun p => decide (1 ≤ p.kind) && decide (p.kind ≤ 6) && decide (p.n ≤ 3) && decide (p.s.length ≤ 8) && (decide (p.kind = 1) || p.s.isEmpty) && (decide (p.kind = 5) || decide (p.n = 0)) && p.s.all (fun b => decide (97 ≤ b.toNat) && decide (b.toNat ≤ 99))) && decide (dep 0 d = some 0)
theorem ok_of {d : List Pc} (h : okB d = true) : Ok d := by
  unfold okB at h
  simp only [Bool.and_eq_true, decide_eq_true_eq, List.all_eq_true, Bool.or_eq_true] at h
  obtain ⟨⟨h1, h2⟩, h3⟩ := h
  refine ⟨h1, fun p hp => ?_, h3⟩
  obtain ⟨⟨⟨⟨⟨⟨a, b⟩, c⟩, e⟩, f⟩, g⟩, i⟩ := h2 p hp
  refine ⟨⟨a, b⟩, c, e, fun hk => ?_, fun hk => ?_, i⟩
  · rcases f with f | f
    · exact absurd f hk
    · simpa using f
  · rcases g with g | g
    · exact absurd g hk
    · exact g
def cst1 : List Pc := [⟨5, 0, []⟩, ⟨2, 0, []⟩, ⟨6, 0, []⟩]
def cst2 : List Pc := [⟨1, 0, [97]⟩, ⟨2, 0, []⟩, ⟨1, 0, [98]⟩]
theorem cst1_ok : Ok cst1 := ok_of (by decide +kernel)
theorem cst2_ok : Ok cst2 := ok_of (by decide +kernel)
end Go.Ly
namespace Go.Proofs.Ytdbpgofabbpadaa
open Go.RowKit Go.Mem Go.Ly
theorem doc_new (w : World) (d : List Pc) (n : Nat) (hn : n = d.length) (h : d.length ≤ 100) : DocAt (w.alloc (.cells (pcs d).toArray 26)) Any (some ⟨w.heap.size, 0, none⟩) n n d := by
  subst hn
  exact ⟨rfl, Nat.le_refl _, by unfold maxLen; omega, h, Reads.new w (pcs d) 3 d.length _ Any trivial (pcs_len d)⟩
theorem concat3 (w2 : World) (A2 : Option Addr) (m c2 : Nat) (s : List Pc) (hd : DocAt w2 Any A2 m c2 s) (hm : m ≤ 80) :
    Calls Try.prog 7 #[.slice (some ⟨w2.heap.size + 1 + 1, 0, none⟩) 3 3]
      (((w2.alloc (.cells #[.int .i64 5, .int .i64 0, .string ⟨#[]⟩] 26)).alloc (.cells #[.int .i64 6, .int .i64 0, .string ⟨#[]⟩] 26)).alloc (.cells #[.slice (some ⟨w2.heap.size, 0, none⟩) 1 1, .slice A2 m c2, .slice (some ⟨w2.heap.size + 1, 0, none⟩) 1 1] 23))
      fun e w' => ∃ A c, e = .returned (.slice A (m + 2) c) ∧ DocAt w' Any A (m + 2) c (wideD s) ∧ Below w2.heap.size w2 w' := by
  have f1 := Blk.new w2 26 [.int .i64 5, .int .i64 0, .string ⟨#[]⟩]
  have b1 := (Below.refl w2.heap.size w2).alloc (Nat.le_refl _) (.cells #[.int .i64 5, .int .i64 0, .string ⟨#[]⟩] 26)
  have d1 := doc_new w2 [⟨5, 0, []⟩] 1 rfl (by simp)
  have k1 := Same.alloc Any w2 (.cells #[.int .i64 5, .int .i64 0, .string ⟨#[]⟩] 26)
  change DocAt (w2.alloc (.cells #[.int .i64 5, .int .i64 0, .string ⟨#[]⟩] 26)) Any (some ⟨w2.heap.size, 0, none⟩) 1 1 [⟨5, 0, []⟩] at d1
  have z1 : (w2.alloc (.cells #[.int .i64 5, .int .i64 0, .string ⟨#[]⟩] 26)).heap.size = w2.heap.size + 1 := by simp
  have e0 := hd.keep k1
  clear k1 f1 hd
  generalize w2.alloc (.cells #[.int .i64 5, .int .i64 0, .string ⟨#[]⟩] 26) = u1 at *
  have b2 := b1.alloc b1.size (.cells #[.int .i64 6, .int .i64 0, .string ⟨#[]⟩] 26)
  have d2 := doc_new u1 [⟨6, 0, []⟩] 1 rfl (by simp)
  have k2 := Same.alloc Any u1 (.cells #[.int .i64 6, .int .i64 0, .string ⟨#[]⟩] 26)
  change DocAt (u1.alloc (.cells #[.int .i64 6, .int .i64 0, .string ⟨#[]⟩] 26)) Any (some ⟨u1.heap.size, 0, none⟩) 1 1 [⟨6, 0, []⟩] at d2
  have z2 : (u1.alloc (.cells #[.int .i64 6, .int .i64 0, .string ⟨#[]⟩] 26)).heap.size = w2.heap.size + 1 + 1 := by simp [z1]
  have e1 := e0.keep k2
  have d1' := d1.keep k2
  clear k2 e0 d1 b1
  generalize u1.alloc (.cells #[.int .i64 6, .int .i64 0, .string ⟨#[]⟩] 26) = u2 at *
  rw [z1] at d2
  clear z1
  have f3 := Blk.new u2 23 [.slice (some ⟨w2.heap.size, 0, none⟩) 1 1, .slice A2 m c2, .slice (some ⟨w2.heap.size + 1, 0, none⟩) 1 1]
  have b3 := b2.alloc b2.size (.cells #[.slice (some ⟨w2.heap.size, 0, none⟩) 1 1, .slice A2 m c2, .slice (some ⟨w2.heap.size + 1, 0, none⟩) 1 1] 23)
  have k3 := Same.alloc Any u2 (.cells #[.slice (some ⟨w2.heap.size, 0, none⟩) 1 1, .slice A2 m c2, .slice (some ⟨w2.heap.size + 1, 0, none⟩) 1 1] 23)
  rw [z2] at f3
  have g1 := d1'.keep k3
  have g2 := e1.keep k3
  have g3 := d2.keep k3
  refine (concat_any (w2.heap.size + 1 + 1) _ _ _ 1 1 m c2 1 1 _ s _ _ (f3.cell 0) (f3.cell 1) (f3.cell 2) f3.lt g1 g2 g3 (by omega) (by omega)).mono ?_
  rintro e w' ⟨A, c, rfl, h1, h2⟩
  have hl : ([(⟨5, 0, []⟩ : Pc)] ++ s ++ [(⟨6, 0, []⟩ : Pc)]).length = m + 2 := by have := e1.1; simp; omega
  rw [hl] at h1 ⊢
  exact ⟨A, c, rfl, h1, b3.trans (h2.mono b3.size)⟩
theorem lay1 (W : World) : Calls Try.prog 8 #[.slice (some ⟨W.heap.size, 0, none⟩) 3 3, .int .i64 9] (W.alloc (.cells #[.int .i64 5, .int .i64 0, .string ⟨#[]⟩, .int .i64 2, .int .i64 0, .string ⟨#[]⟩, .int .i64 6, .int .i64 0, .string ⟨#[]⟩] 26))
    fun e w' => e = .returned (.tuple #[.string ⟨#[32]⟩, .int .i64 0]) ∧ Below W.heap.size W w' := by
  have h := lay_any (some ⟨W.heap.size, 0, none⟩) 3 3 cst1 9 (W.alloc (.cells (pcs cst1).toArray 26)) (doc_new W cst1 3 rfl (by decide)) cst1_ok (by omega)
  refine h.mono ?_
  rintro e w' ⟨rfl, hb⟩
  exact ⟨by rw [show layF cst1 9 = [32] from lay_const.2.1], ((Below.refl _ W).alloc (Nat.le_refl _) _).trans (hb.mono (by simp))⟩
theorem lay2 (W : World) : Calls Try.prog 8 #[.slice (some ⟨W.heap.size, 0, none⟩) 3 3, .int .i64 99] (W.alloc (.cells #[.int .i64 1, .int .i64 0, .string ⟨#[97]⟩, .int .i64 2, .int .i64 0, .string ⟨#[]⟩, .int .i64 1, .int .i64 0, .string ⟨#[98]⟩] 26))
    fun e w' => e = .returned (.tuple #[.string ⟨#[97, 10, 98]⟩, .int .i64 0]) ∧ Below W.heap.size W w' := by
  have h := lay_any (some ⟨W.heap.size, 0, none⟩) 3 3 cst2 99 (W.alloc (.cells (pcs cst2).toArray 26)) (doc_new W cst2 3 rfl (by decide)) cst2_ok (by omega)
  refine h.mono ?_
  rintro e w' ⟨rfl, hb⟩
  exact ⟨by rw [show layF cst2 99 = [97, 10, 98] from lay_const.2.2], ((Below.refl _ W).alloc (Nat.le_refl _) _).trans (hb.mono (by simp))⟩
theorem sum_next {d : List Pc} {k : Nat} (hk : k < d.length) : sumF (d.take (k + 1)) = sumF (d.take k) + lenF d[k] := by
  unfold sumF
  rw [List.take_succ_eq_append_getElem hk, List.map_append, List.sum_append]
  simp
theorem sum_le {d : List Pc} (h : ∀ p ∈ d, POk p) : sumF d ≤ 8 * d.length := by
  induction d with
  | nil => simp [sumF]
  | cons p r ih =>
    have i := ih fun q hq => h q (by simp [hq])
    have := lenF_le (h p (by simp))
    unfold sumF at i ⊢
    simp only [List.map_cons, List.sum_cons, List.length_cons]
    omega
set_option maxRecDepth 100000 in
set_option maxHeartbeats 8000000 in
theorem layoutWide_any (w : World) (A : Option Addr) (n c : Nat) (l : List Int) (hr : Reads w Any 1 A n (nums l)) (hn : n = l.length) (hx : ∀ x ∈ l, I64 x) (hnm : n ≤ maxLen) :
    Calls Try.prog 3 #[.slice A n c] w fun e w' => e = .returned (.bool true) ∧ Below w.heap.size w w' := by
  have CP := Lib.hid (piecesOf_any A n c l w hr hn hx hnm)
  have HP := Lib.hid (pieces_ok l)
  clear hr hn hx hnm
  generalize piecesF l = d at CP HP
  go_enter Try.func3, Try.ntmps3
  go_upto_region 2 with (first | (go_at_call 5; refine CP.out.mono ?_; rintro e w1 ⟨A1, c1, rfl, hO1⟩; have CD := Lib.hid (delete_any w w1 A1 d.length c1 d rfl hO1 HP.out.2); clear hO1) | (go_at_call 4; refine CD.out.mono ?_; rintro e w2 ⟨A2, c2, rfl, hd2, hb2⟩; have H2 := Lib.hid (And.intro hd2 hb2); clear hd2 hb2))
  have HS := Lib.hid (soft_ok HP.out.1)
  have hm80 : (softD d).length ≤ 80 := by have := HS.out.2.1; have := HP.out.2; omega
  clear CP CD
  generalize softD d = s at H2 HS hm80 ⊢
  obtain ⟨m, hm⟩ : ∃ m, m = s.length := ⟨_, rfl⟩
  rw [← hm] at hm80 ⊢
  have HD2 := Lib.hid (show DocAt w2 Any A2 m c2 s from by rw [hm]; exact H2.out.1)
  have HM := Lib.hid hm
  clear hm
  go_wp2_with (go_at_call 7; go_loud (refine (concat3 w2 A2 m c2 s HD2.out hm80).mono ?_; rintro e w3 ⟨A3, c3, rfl, h3, hb3⟩; have H3 := Lib.hid (And.intro h3 (And.intro (HD2.out.keep (Same.any hb3)) (H2.out.2.trans (hb3.mono H2.out.2.size)))); clear h3 hb3))
  go_loopw [5, 26] (fun s5 i wr => ∃ k, k ≤ m ∧ i = .int .i64 (k : Nat) ∧ s5 = .int .i64 (sumF (s.take k) : Nat) ∧ Hid (Below w3.heap.size w3 wr)) (fun _ i _ => m - (intOf i).toNat)
  case atStart => exact ⟨0, Nat.zero_le _, rfl, rfl, Below.refl _ _⟩
  case round =>
    obtain ⟨k, hk, rfl, rfl, HB⟩ := hrel
    by_cases hlt : k < m
    · have hkl : k < s.length := by have := HM.out; omega
      obtain ⟨b, off, rfl, _, c0, c1, c2⟩ := (H3.out.2.1.keep (Same.any HB.out)).cells hlt hkl
      have lb := lt_of_cell c0
      have hsn := Lib.hid (sum_next hkl)
      have hsl := sum_le (d := s.take k) fun p hp => HS.out.1.pc p (List.mem_of_mem_take hp)
      have hsl2 : sumF (s.take k) ≤ 640 := by have : (s.take k).length ≤ k := List.length_take_le _ _; omega
      have hp := HS.out.1.pc _ (List.getElem_mem hkl)
      clear hsl
      generalize s[k] = p at c0 c1 c2 hp hsn
      obtain ⟨kd, nn, x⟩ := p
      obtain ⟨⟨p1, p2⟩, p3, p4, p5, p6, p7⟩ := hp
      simp only at p1 p2 p3 p4 p5 p6 p7 c0 c1 c2 hsn
      have es := sv_len x
      unfold sv at c2
      generalize sumF (s.take k) = q at hsn hsl2 ⊢
      generalize hq1 : sumF (s.take (k + 1)) = q1 at hsn
      have HQ1 := Lib.hid hq1
      have hb2 := Lib.hid (HB.out.alloc HB.out.size (.cells #[.int .i64 (kd : Nat), .int .i64 (nn : Nat), .string ⟨x.toArray⟩] 26))
      have HP5 := Lib.hid p5
      clear hq1 p5 p6 p7
      by_cases h2 : kd = 2
      · subst h2
        obtain rfl : x = [] := HP5.out (by omega)
        have e1 : q1 = q + 1 := hsn.out
        have ed : ((q : Int) + 1) = ((q1 : Nat) : Int) := by omega
        have hq1 : q1 ≤ 1000 := by omega
        clear hsn e1
        go_wp2_with (fail)
        exact ⟨⟨k + 1, by omega, by go_num, by rw [HQ1.out], hb2.out⟩, by simp [intOf]; omega⟩
      · have e1 : q1 = q + x.length := by have := hsn.out; unfold lenF at this; rw [if_neg h2] at this; exact this
        have ed : ((q : Int) + (x.length : Int)) = ((q1 : Nat) : Int) := by omega
        have t2 : (((kd : Nat) : Int) == 2) = false := by simp; omega
        have hq1 : q1 ≤ 1000 := by omega
        clear hsn e1 h2
        go_wp2_with (fail)
        exact ⟨⟨k + 1, by omega, by go_num, by rw [HQ1.out], hb2.out⟩, by simp [intOf]; omega⟩
    · have hks : s.take k = s := List.take_of_length_le (by have := HM.out; omega)
      rw [hks]
      have hsl2 : sumF s ≤ 640 := by have := sum_le HS.out.1.pc; have := HM.out; omega
      have L1 := Lib.hid (fun W => lay1 W)
      have L2 := Lib.hid (fun W => lay2 W)
      clear hks
      have hw80 : s.length ≤ 80 := by have := HM.out; omega
      have hlay := wide HS.out.1 hw80 HS.out.2.2
      have hlen := txt_len HS.out.1.pc
      have hno := txt_no HS.out.1.pc
      have CL := Lib.hid (fun (hN : 1 ≤ sumF s ∧ sumF s ≤ 200) W (hW : Below w3.heap.size w3 W) => lay_any A3 (m + 2) c3 (wideD s) (sumF s) W (H3.out.1.keep (Same.any hW)) (wide_ok HS.out.1 hw80) hN)
      rw [hlay] at CL
      generalize hX : (s.map txtF).flatten = X at CL hlen hno
      clear hlay hX
      generalize sumF s = N at *
      have esN : (ByteArray.mk X.toArray).size = N := by rw [sv_len]; exact hlen
      have CN := Lib.hid (fun W => contains_no X W hno)
      unfold sv at CN
      have BH := Lib.hid (H3.out.2.2)
      clear hno hlen hw80
      have hz : w.heap.size ≤ w3.heap.size := BH.out.size
      have hzr : w3.heap.size ≤ wr.heap.size := HB.out.size
      by_cases h1 : N < 1
      · obtain rfl : N = 0 := by omega
        clear h1
        go_wp2_with (go_at_call 8; refine (L1.out wr).mono ?_; rintro e w4 ⟨rfl, hb4⟩)
        go_ret
        exact ⟨rfl, BH.out.trans ((HB.out.trans (hb4.mono HB.out.size)).mono hz)⟩
      · by_cases h2 : 200 < N
        · go_wp2_with (go_at_call 8; refine (L1.out wr).mono ?_; rintro e w4 ⟨rfl, hb4⟩)
          go_ret
          exact ⟨rfl, BH.out.trans ((HB.out.trans (hb4.mono HB.out.size)).mono hz)⟩
        · have t1 : decide ((N : Int) < 1) = false := by simp; omega
          have t2 : decide ((N : Int) > 200) = false := by simp; omega
          have CL' := Lib.hid (CL.out ⟨by omega, by omega⟩)
          clear CL
          go_upto_region 12 with (go_at_call 8; refine (L1.out wr).mono ?_; rintro e w4 ⟨rfl, hb4⟩; have H4 := Lib.hid (HB.out.trans (hb4.mono HB.out.size)); clear hb4)
          go_upto_region 17 with (go_at_call 8; refine (CL'.out w4 H4.out).mono ?_; rintro e w5 ⟨rfl, hb5⟩; have H5 := Lib.hid (H4.out.trans (hb5.mono H4.out.size)); clear hb5)
          go_upto_region 19 with (go_at_call 9; (with_reducible refine (CN.out _).mono ?_); rintro e w' ⟨rfl, rfl⟩)
          go_wp2_with (go_at_call 8; refine (L2.out _).mono ?_; rintro e w6 ⟨rfl, hb6⟩)
          go_ret
          exact ⟨rfl, BH.out.trans ((H5.out.trans (hb6.mono H5.out.size)).mono hz)⟩
end Go.Proofs.Ytdbpgofabbpadaa
