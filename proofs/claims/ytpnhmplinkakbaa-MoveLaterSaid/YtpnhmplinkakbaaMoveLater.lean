/- MoveLater's walk: it returns true at every input. -/
import Derived.Test.YtpnhmplinkakbaaHarbMoved
import Derived.Test.YtpnhmplinkakbaaHarbour
import Derived.Test.YtpnhmplinkakbaaSlice
set_option linter.unusedVariables false
namespace Go.Proofs.Ytpnhmplinkakbaa
open Go.RowKit Go.Mem Go.Mv Go.Maps
theorem own_anyL {w : World} {base : Nat} {e : TypeId} {size n c : Nat} {A : Option Addr} {xs : List Value} (hz : 0 < size) (h : w.ownsRow base e size (.slice A n c) n xs) : n ≤ c ∧ c ≤ maxLen ∧ Reads w Any size A n xs := by
  obtain ⟨h1, h2, h3⟩ := own_reads hz h
  exact ⟨h1, h2, h3.imp hz fun _ _ _ => trivial⟩
theorem size_mdeed : (Try.prog.info? 46).map (·.size) = some 5 := by kernel_rfl
theorem size_mgot : (Try.prog.info? 48).map (·.size) = some 2 := by kernel_rfl
theorem dvcs_take (D : List Dv) (k : Nat) : (dvcs D).take (k * 5) = dvcs (D.take k) := by
  have h : ∀ (D : List Dv) (k : Nat), (dvcs D).take (k * 5) = dvcs (D.take k) := by
    intro D
    induction D with
    | nil => intro k; simp [dvcs]
    | cons d r ih =>
      intro k
      cases k with
      | zero => simp [dvcs]
      | succ k =>
        have e : dvcs (d :: r) = dvc d ++ dvcs r := by simp [dvcs]
        rw [e, List.take_append, List.take_of_length_le (by simp [dvc]; omega)]
        rw [show (k + 1) * 5 - (dvc d).length = k * 5 by simp [dvc]; omega, ih k]
        simp [dvcs]
  exact h D k
theorem gtcs_len (l : List (Nat × Nat)) : (gtcs l).length = l.length * 2 := by
  induction l with
  | nil => rfl
  | cons d r ih =>
    unfold gtcs at ih ⊢
    rw [List.flatMap_cons, List.length_append, ih]
    simp [gtc]
    omega
theorem gtcs_pre {r1 r2 : List (Nat × Nat)} (h : r1 <+: r2) : (gtcs r2).take (r1.length * 2) = gtcs r1 := by
  obtain ⟨t, rfl⟩ := h
  rw [gtcs_app, List.take_append_of_le_length (by rw [gtcs_len]; exact Nat.le_refl _), List.take_of_length_le (by rw [gtcs_len]; exact Nat.le_refl _)]
set_option maxRecDepth 100000 in
set_option maxHeartbeats 4000000 in
theorem moveLater_any (w : World) (x : Int) (hx : I64 x) (A : Option Addr) (n c : Nat) (at_ : List Int) (A2 : Option Addr) (m c2 : Nat) (l : List Fv) (y : Int) (hy : I64 y) (hn : n = at_.length) (hc : ∀ x ∈ at_, I64 x) (hnc : n ≤ c) (hcm : c ≤ maxLen) (hr : Reads w Any 1 A n (nums at_)) (hm : m = l.length) (hmc : m ≤ c2) (hc2 : c2 ≤ maxLen) (hrd : Reads w Any 5 A2 m (fivcs l)) (hl : ∀ x ∈ l, I64V x) :
    Calls Try.prog 6 #[.int .i64 x, .slice A n c, .slice A2 m c2, .int .i64 y] w fun e w' => e = .returned (.bool true) ∧ Below w.heap.size w w' := by
  have HB := Lib.hid (harbour_any w x hx A n c at_ A2 m c2 l 150 (by omega) hn hc hnc hcm hr hm hmc hc2 hrd hl)
  have nb := ndF_bd x
  have wl := whereF_len (ndF x) at_
  have wb := whereF_bd (ndF x) (by omega) at_
  have db := deedsF_ok (ndF x) (whereF (ndF x) at_).length 150 (by omega) wl.2 l
  have dl := deedsF_len (ndF x) (whereF (ndF x) at_).length 150 l
  unfold HarbourPost at HB
  generalize deedsF (ndF x) (whereF (ndF x) at_).length 150 l = D at HB db dl
  generalize whereF (ndF x) at_ = C at HB wl wb db
  generalize ndF x = nd at HB nb wb db
  obtain ⟨wl3, wl0⟩ := wl
  obtain ⟨nd1, nd3⟩ := nb
  have Wb := Lib.hid wb
  have Db := Lib.hid db
  obtain ⟨W, hW⟩ : ∃ W, W = C.length := ⟨_, rfl⟩
  obtain ⟨q, hq⟩ : ∃ q, q = D.length := ⟨_, rfl⟩
  rw [← hW] at HB wl3 wl0 Db
  rw [← hq] at HB dl
  have hkk := rs_lt y (q + 1) (by omega)
  obtain ⟨kk, hkke⟩ : ∃ kk, kk = rs y ((q + 1 : Nat) : Int) := ⟨_, rfl⟩
  rw [← hkke] at hkk
  have RS := Lib.hid (fun W => rest_q y ((q : Int) + 1) W (kk : Int) hy (by omega) (by omega) (by have := rs_eq y ((q + 1 : Nat) : Int) (by omega); rw [← hkke] at this; rw [← this]; rfl))
  have hDl : (D.take kk).length = kk := by rw [List.length_take]; omega
  have hpre : ∀ (i : Nat) (r1 r2 : List (Nat × Nat)), (runF (newF nd C) (D.take kk)).got[i]? = some r1 → (runF (newF nd C) D).got[i]? = some r2 → r1 <+: r2 := by
    have h := pre_run (D.drop kk) (runF (newF nd C) (D.take kk))
    rw [← run_app, List.take_append_drop] at h
    exact h.2
  have Dk := Lib.hid (fun d (hd : d ∈ D.take kk) => db d (List.mem_of_mem_take hd))
  rw [← hW] at Dk
  have HW := Lib.hid hW
  have Hq := Lib.hid hq
  have HDl := Lib.hid hDl
  have Hpre := Lib.hid hpre
  clear wb db hn hc hnc hcm hr hm hmc hc2 hrd hl hx hW hq hy hDl hpre hkke
  go_enter Try.func6, Try.ntmps6
  go_wp2_with (fail)
  refine HB.out.mono ?_
  rintro e w1 ⟨A1, c1, A3, c3, rfl, ho1, ho2, hb1⟩
  dsimp only
  obtain ⟨_, _, r1⟩ := own_anyL (by omega) ho1
  obtain ⟨hqc, _, r2⟩ := own_anyL (by omega) ho2
  obtain ⟨hsl, rsl⟩ := slice_h (P := Try.prog) (c := c3) 35 46 Try.underlying35 size_mdeed r2 hqc kk (by omega) (kk : Int) rfl
  rw [dvcs_take] at rsl
  have RN1 := Lib.hid (mvrun_any w1 nd C A1 W c1 A3 kk c3 (D.take kk) ⟨nd1, by omega⟩ HW.out wl0 (by omega) Wb.out r1 HDl.out.symm (by omega) rsl (by rw [← HW.out]; exact Dk.out))
  have RN2 := Lib.hid (fun (w' : World) (hb : Below w1.heap.size w1 w') => mvrun_any w' nd C A1 W c1 A3 q c3 D ⟨nd1, by omega⟩ HW.out wl0 (by omega) Wb.out (r1.keep (Same.any hb)) Hq.out (by omega) (r2.keep (Same.any hb)) (by rw [← HW.out]; exact Db.out))
  have HB1 := Lib.hid hb1
  clear HB ho1 ho2 hb1 r1 r2 rsl hqc
  go_wp2_with (fail)
  refine (RS.out _).mono ?_
  rintro e w' ⟨rfl, rfl⟩
  dsimp only
  go_wp2_with (fail)
  refine RN1.out.mono ?_
  rintro e w2 ⟨col, mh, B, ways, waits, K, rfl, hh, hB, hb2, -⟩
  dsimp only
  have hg1 : (runF (newF nd C) (D.take kk)).got.length = W := by
    have := (run_core (D.take kk) (new_core nd C ⟨nd1, by omega⟩ Wb.out) (fun d hd => by rw [← HW.out]; exact (Dk.out d hd).1)).gl
    rw [this, HW.out]
  have hsz1 : ∀ (who : Nat) (row : List (Nat × Nat)), (runF (newF nd C) (D.take kk)).got[who]? = some row → row.length ≤ 10000 := by
    intro who row hr
    have hsz := (runs_at ⟨nd1, by omega⟩ Wb.out (fun d hd => by rw [← HW.out]; exact (Db.out d hd).1) (by have := Hq.out; omega) kk (by rw [← Hq.out]; omega))
    obtain ⟨k1, k2, _⟩ := hsz
    obtain ⟨b1, b2⟩ := k2
    have b3 : 402 * kk ≤ 402 * 400 := Nat.mul_le_mul_left _ (by omega)
    exact (k1.sz (by omega) (by omega) (by omega)).got row (List.mem_of_getElem? hr)
  rw [hg1]
  generalize hS : runF (newF nd C) (D.take kk) = s1 at hh hg1 hsz1 Hpre ⊢
  have HH1 := Lib.hid hh
  have HB12 := Lib.hid hb2
  have Hsz1 := Lib.hid hsz1
  have Hg1 := Lib.hid hg1
  clear RN1 hh hB hb2 hg1 hS hsz1
  go_wp2_with (fail)
  obtain ⟨W3, hW3⟩ : ∃ W3, W3 = w2.alloc (.cells #[.slice (some ⟨mh.GT, 0, none⟩) W mh.cG, .slice (some ⟨mh.AT, 0, none⟩) s1.at_.length mh.cA, .int .i64 (ways : Nat), .int .i64 (waits : Nat)] 40) := ⟨_, rfl⟩
  rw [← hW3]
  have hO : Blk W3 w2.heap.size 40 [.slice (some ⟨mh.GT, 0, none⟩) W mh.cG, .slice (some ⟨mh.AT, 0, none⟩) s1.at_.length mh.cA, .int .i64 (ways : Nat), .int .i64 (waits : Nat)] := by rw [hW3]; exact Blk.new w2 _ _
  have hb3 : Below w2.heap.size w2 W3 := by rw [hW3]; exact (Below.refl _ _).alloc (Nat.le_refl _) _
  obtain ⟨O, hOe⟩ : ∃ O, O = w2.heap.size := ⟨_, rfl⟩
  rw [← hOe] at hO ⊢
  have HO := Lib.hid hO
  have HB23 := Lib.hid hb3
  clear hW3 hO hb3 hOe
  refine (RN2.out W3 (HB12.out.trans (HB23.out.mono HB12.out.size))).mono ?_
  rintro e w4 ⟨col2, mh2, B2, ways2, waits2, K2, rfl, hh, hB, hb2, -⟩
  dsimp only
  have hg2 : (runF (newF nd C) D).got.length = W := by
    have := (run_core D (new_core nd C ⟨nd1, by omega⟩ Wb.out) (fun d hd => by rw [← HW.out]; exact (Db.out d hd).1)).gl
    rw [this, HW.out]
  rw [hg2]
  generalize hS : runF (newF nd C) D = s2 at hh hg2 Hpre ⊢
  have HH2 := Lib.hid hh
  have HB34 := Lib.hid hb2
  have Hg2 := Lib.hid hg2
  clear RN2 hh hB hb2 hg2 hS
  go_wp2_with (fail)
  obtain ⟨W5, hW5⟩ : ∃ W5, W5 = w4.alloc (.cells #[.slice (some ⟨mh2.GT, 0, none⟩) W mh2.cG, .slice (some ⟨mh2.AT, 0, none⟩) s2.at_.length mh2.cA, .int .i64 (ways2 : Nat), .int .i64 (waits2 : Nat)] 40) := ⟨_, rfl⟩
  rw [← hW5]
  have hP : Blk W5 w4.heap.size 40 [.slice (some ⟨mh2.GT, 0, none⟩) W mh2.cG, .slice (some ⟨mh2.AT, 0, none⟩) s2.at_.length mh2.cA, .int .i64 (ways2 : Nat), .int .i64 (waits2 : Nat)] := by rw [hW5]; exact Blk.new w4 _ _
  have hb5 : Below w4.heap.size w4 W5 := by rw [hW5]; exact (Below.refl _ _).alloc (Nat.le_refl _) _
  obtain ⟨P, hPe⟩ : ∃ P, P = w4.heap.size := ⟨_, rfl⟩
  rw [← hPe] at hP ⊢
  clear hW5 hPe
  refine (moved_any W5).mono ?_
  rintro e w6 ⟨rfl, hb6⟩
  dsimp only
  have hP6 := hP.below hb6 hP.lt
  have hb46 : Below w4.heap.size w4 w6 := hb5.trans (hb6.mono hb5.size)
  have hb36 : Below W3.heap.size W3 w6 := HB34.out.trans (hb46.mono HB34.out.size)
  have hb26 : Below w2.heap.size w2 w6 := HB23.out.trans (hb36.mono HB23.out.size)
  have hO6 := HO.out.below hb36 HO.out.lt
  have o0 := hO6.cell 0
  have p0 := hP6.cell 0
  simp only [List.getElem?_cons_zero] at o0 p0
  have lO := hO6.lt
  have lP := hP6.lt
  have d1 : ((W : Int) != (W : Int)) = false := by simp
  have d1' : (W != W) = false := by simp
  have HB46 := Lib.hid hb46
  have HB26 := Lib.hid hb26
  have HP6 := Lib.hid hP6
  clear hP hb5 hb6 hP6 hb46 hb36 hb26 hO6
  go_wp2_with (fail)
  clear d1 d1'
  go_loopw [75] (fun i wr => ∃ k, k ≤ W ∧ i = .int .i64 (k : Nat) ∧ Hid (Below w6.heap.size w6 wr)) (fun i _ => W - (intOf i).toNat)
  case atStart => exact ⟨0, Nat.zero_le _, rfl, Below.refl _ _⟩
  case round =>
    obtain ⟨k, hk, rfl, HK⟩ := hrel
    by_cases hlt : k < W
    · have hkg : k < s1.got.length := by rw [Hg1.out]; exact hlt
      have hkg2 : k < s2.got.length := by rw [Hg2.out]; exact hlt
      obtain ⟨v, hv, hsg⟩ := HH1.out.eG k _ (List.getElem?_eq_getElem hkg)
      obtain ⟨A5, c5, rfl, hlc5, _, hrd5⟩ := own_reads2 hsg
      obtain ⟨v2, hv2, hsg2⟩ := HH2.out.eG k _ (List.getElem?_eq_getElem hkg2)
      obtain ⟨A6, c6, rfl, hlc6, _, hrd6⟩ := own_reads2 hsg2
      have hrl := Hsz1.out k _ (List.getElem?_eq_getElem hkg)
      have hpr := Hpre.out k _ _ (List.getElem?_eq_getElem hkg) (List.getElem?_eq_getElem hkg2)
      generalize s1.got[k] = row1 at hv hrd5 hrl hpr hlc5
      generalize s2.got[k] = row2 at hv2 hrd6 hpr hlc6
      have hle := hpr.length_le
      have hgp := gtcs_pre hpr
      obtain ⟨r, hre⟩ : ∃ r, r = row1.length := ⟨_, rfl⟩
      obtain ⟨r2, hre2⟩ : ∃ r2, r2 = row2.length := ⟨_, rfl⟩
      rw [← hre] at hv hrd5 hrl hle hlc5 hgp
      rw [← hre2] at hv2 hrd6 hle hlc6
      have gv := (HK.out.cell (p := ⟨mh.GT, k, none⟩) (by have := HH1.out.hG.lt; have := HB26.out.size; show mh.GT < _; omega)).trans ((HB26.out.cell (p := ⟨mh.GT, k, none⟩) HH1.out.hG.lt).trans ((HH1.out.hG.cell k).trans hv))
      have gv2 := (HK.out.cell (p := ⟨mh2.GT, k, none⟩) (by have := HH2.out.hG.lt; have := HB46.out.size; show mh2.GT < _; omega)).trans ((HB46.out.cell (p := ⟨mh2.GT, k, none⟩) HH2.out.hG.lt).trans ((HH2.out.hG.cell k).trans hv2))
      have lG : mh.GT < wr.heap.size := by have := HH1.out.hG.lt; have := HB26.out.size; have := HK.out.size; omega
      have lG2 : mh2.GT < wr.heap.size := by have := HH2.out.hG.lt; have := HB46.out.size; have := HK.out.size; omega
      have q0 := (HK.out.cell (p := ⟨P, 0, none⟩) lP).trans p0
      have lP2 : P < wr.heap.size := by have := HK.out.size; omega
      have ra := (hrd5.keep (Same.any (D := Any) HB26.out)).keep (Same.any (D := Any) HK.out)
      have rb := (hrd6.keep (Same.any (D := Any) HB46.out)).keep (Same.any (D := Any) HK.out)
      obtain ⟨hsl, rsl⟩ := slice_h (P := Try.prog) (c := c6) 44 48 Try.underlying44 size_mgot rb hlc6 r hle (r : Int) rfl
      rw [hgp] at rsl
      have EQ := Lib.hid (equal_gots A5 A6 r c5 c6 row1 Any Any wr ra rsl (by omega) hre)
      have dgt : decide ((r2 : Int) < (r : Int)) = false := by simp; omega
      have dgt' : decide (r2 < r) = false := by simp; omega
      clear hv hsg hv2 hsg2 hrd5 hrd6 hpr hgp hre hre2 ra rb rsl hlc5 hlc6 o0 p0
      go_wp2_with (fail)
      refine EQ.out.mono ?_
      rintro e w9 ⟨rfl, hb9⟩
      dsimp only
      go_wp2_with (fail)
      go_roundw
      case rel => exact ⟨k + 1, by omega, by go_num, HK.out.trans (hb9.mono HK.out.size)⟩
      case measure => simp [intOf]; omega
    · obtain rfl : k = W := by omega
      go_wp2_with (fail)
      go_ret
      have h1 : Below w.heap.size w w2 := HB1.out.trans (HB12.out.mono HB1.out.size)
      exact ⟨rfl, h1.trans ((HB26.out.trans (HK.out.mono HB26.out.size)).mono h1.size)⟩
end Go.Proofs.Ytpnhmplinkakbaa
