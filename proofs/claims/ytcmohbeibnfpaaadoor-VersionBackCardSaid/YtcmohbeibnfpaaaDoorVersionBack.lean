/- VersionBack's walk. -/
import Derived.Test.YtcmohbeibnfpaaaDoorVerOf
import Derived.Test.YtcmohbeibnfpaaaDoorVbEnds
set_option linter.unusedVariables false
namespace Go.Proofs.YtcmohbeibnfpaaaDoor
open Go.RowKit Go.Mem Go.Ver
theorem one_ok : Ver.Ok [((1 : Nat), 3)] := ⟨by simp [right], by simp⟩
theorem one_text : textF [((1 : Nat), 3)] = [49, 45, 51] := by
  have e1 : Lib.decDigits 1 = [49] := by rw [Lib.decDigits]; rfl
  have e3 : Lib.decDigits 3 = [51] := by rw [Lib.decDigits]; rfl
  unfold textF parts Ver.part
  simp [Lib.join_one, e1, e3]
theorem text1_any (V : World) (hV : Env V) : Calls Tryd.prog 5 #[.slice (some ⟨V.heap.size, 0, none⟩) 1 1] (V.alloc (.cells #[.int .i64 1, .int .i64 3] 34)) fun e w' => e = .returned (.tuple #[.string ⟨#[49, 45, 51]⟩, .int .i64 0]) ∧ Below V.heap.size V w' := by
  have hb : Below V.heap.size V (V.alloc (.cells #[.int .i64 1, .int .i64 3] 34)) := (Below.refl _ _).alloc (Nat.le_refl _) _
  have h := text_any (some ⟨V.heap.size, 0, none⟩) 1 1 [((1 : Nat), 3)] (V.alloc (.cells #[.int .i64 1, .int .i64 3] 34)) (hV.below hb) (Reads.new (D := Any) V [.int .i64 1, .int .i64 3] 2 1 34 trivial rfl) rfl one_ok (by omega)
  rw [one_text] at h
  refine h.mono ?_
  rintro e w' ⟨rfl, h2⟩
  exact ⟨rfl, hb.trans (h2.mono hb.size)⟩
set_option maxRecDepth 100000 in
set_option maxHeartbeats 8000000 in
theorem versionBack_any (A : Option Addr) (n c : Nat) (l : List Pr) (w : World) (hv : Env w) (hr : Reads w Any 2 A n (prs l)) (hn : n = l.length) (hnc : n ≤ c) (hc : c ≤ maxLen) (hl : ∀ p ∈ l, I64 p.1 ∧ I64 p.2) :
    Calls Tryd.prog 3 #[.slice A n c] w fun e w' => e = .returned (.bool true) ∧ Below w.heap.size w w' := by
  have C1 := Lib.hid (setOf_any A n c l w hr hn hnc hc hl)
  have HV := Lib.hid hv
  clear hr hn hnc hc hl hv
  go_enter Tryd.func3, Tryd.ntmps3
  go_wp2_with (fail)
  refine C1.out.mono ?_
  rintro e w1 ⟨A1, c1, m, rfl, hok, hin, hlen, hh1, hb1⟩
  dsimp only
  have HB1 := Lib.hid hb1
  have HO := Lib.hid hok
  have HH := Lib.hid hh1
  have HV1 := Lib.hid (HV.out.below hb1)
  obtain ⟨k, hk⟩ : ∃ k, k = m.length := ⟨_, rfl⟩
  rw [← hk] at hlen ⊢
  have HK := Lib.hid hk
  have CT := Lib.hid (text_any A1 k c1 m w1 HV1.out (by rw [hk]; exact hh1.2.2) hk hok (by omega))
  clear C1 hin hh1 hb1 hok hk
  go_wp2_with (fail)
  refine CT.out.mono ?_
  rintro e w2 ⟨rfl, hb2⟩
  dsimp only
  have CR := Lib.hid (read_any m w2 (HV1.out.below hb2) HO.out (by have := HK.out; omega))
  have HH2 := Lib.hid (HH.out.later hb2 (Nat.le_refl _))
  have HB2 := Lib.hid (HB1.out.trans (hb2.mono HB1.out.size))
  clear CT hb2 HH
  unfold RgPost at CR
  generalize textF m = T at CR ⊢
  go_wp2_with (fail)
  refine CR.out.mono ?_
  rintro e w3 ⟨A3, c3, rfl, hh3, hb3⟩
  dsimp only
  have HH3 := Lib.hid hh3
  have HA3 := Lib.hid (HH2.out.later hb3 (Nat.le_refl _))
  have HB3 := Lib.hid (HB2.out.trans (hb3.mono HB2.out.size))
  have HV3 := Lib.hid (HV.out.below HB3.out)
  clear CR hb3 hh3 HH2 HB2 HB1 HV1
  rw [show m.length = k from HK.out.symm]
  have hd3 : (w3.heap.size : Nat) = w3.heap.size := rfl
  by_cases h0 : k = 0
  · have hm : m = [] := List.eq_nil_of_length_eq_zero (by have := HK.out; omega)
    subst hm
    subst h0
    have CE := Lib.hid (ends_none A1 c1 w3)
    have HV3' := HV3
    clear hlen hd3
    go_wp2_with (fail)
    refine CE.out.mono ?_
    rintro e w4 ⟨rfl, hb4⟩
    dsimp only
    have HA4 := Lib.hid (HA3.out.later hb4 (Nat.le_refl _))
    have HH4 := Lib.hid (HH3.out.later hb4 (Nat.le_refl _))
    have HB4 := Lib.hid (HB3.out.trans (hb4.mono HB3.out.size))
    have CQ := Lib.hid (equal_rgs A1 A3 0 c1 c3 [] w4 HA4.out.2.2 HH4.out.2.2 (by omega) rfl)
    have CX := Lib.hid (fun V (hV : Below w.heap.size w V) => text1_any V (HV.out.below hV))
    clear CE hb4
    go_upto_region 10 with (first | (go_at_call 8; refine CQ.out.mono ?_; rintro e w5 ⟨rfl, hb5⟩; have HB5 := Lib.hid (HB4.out.trans (hb5.mono HB4.out.size)); clear hb5) | (go_at_call 5; refine (CX.out w5 HB5.out).mono ?_; rintro e w6 ⟨rfl, hb6⟩; have HB6 := Lib.hid (HB5.out.trans (hb6.mono HB5.out.size)); clear hb6))
    go_wp2_with (fail)
    go_ret
    exact ⟨rfl, HB6.out⟩
  · obtain ⟨p, rfl⟩ : ∃ p, k = p + 1 := ⟨k - 1, by omega⟩
    have hp : p < m.length := by have := HK.out; omega
    have CE := Lib.hid (ends_any A1 p c1 m w3 (by rw [HK.out]; exact HA3.out.2.2) HK.out HO.out (by omega))
    have L1 := Lib.hid (show inB m (m[0]'(by omega)).1 = true ∧ inB m ((m[0]'(by omega)).1 - 1) = false from by
      cases m with
      | nil => simp at hp
      | cons r m' => exact ends_low HO.out)
    have L2 := Lib.hid (show inB m (m[p]'hp).2 = true ∧ inB m ((m[p]'hp).2 + 1) = false from by
      rcases List.eq_nil_or_concat m with rfl | ⟨m', q, rfl⟩
      · simp at hp
      · have hl := HK.out
        rw [List.concat_eq_append] at *
        have hpm : p = m'.length := by simp at hl; omega
        subst hpm
        have := ends_high HO.out
        simpa using this)
    have r0 := HO.out.1 _ (List.getElem_mem (show 0 < m.length by omega))
    have rp := HO.out.1 _ (List.getElem_mem hp)
    obtain ⟨a1, a2, a3⟩ := r0
    obtain ⟨q1, q2, q3⟩ := rp
    generalize (m[0]).1 = lo at CE L1 a1 a3
    generalize (m[p]).2 = hi at CE L2 q2 q3
    obtain ⟨lm, hlm⟩ : ∃ lm, lm = lo - 1 := ⟨_, rfl⟩
    obtain ⟨hp1, hhp⟩ : ∃ hp1, hp1 = hi + 1 := ⟨_, rfl⟩
    rw [← hlm] at L1
    rw [← hhp] at L2
    have el : (lo : Int) - 1 = ((lm : Nat) : Int) := by omega
    have eh : (hi : Int) + 1 = ((hp1 : Nat) : Int) := by omega
    have hlo : lo ≤ 9999 := by omega
    have hhi : hi ≤ 9999 := by omega
    have hhp1 : hp1 ≤ 10000 := by omega
    have CX := Lib.hid (fun V (hV : Below w.heap.size w V) => text1_any V (HV.out.below hV))
    clear hlm hhp a1 a2 a3 q1 q2 q3 hp hd3
    go_wp2_with (fail)
    refine CE.out.mono ?_
    rintro e w4 ⟨rfl, hb4⟩
    dsimp only
    have HA4 := Lib.hid (HA3.out.later hb4 (Nat.le_refl _))
    have HH4 := Lib.hid (HH3.out.later hb4 (Nat.le_refl _))
    have HB4 := Lib.hid (HB3.out.trans (hb4.mono HB3.out.size))
    have CQ := Lib.hid (equal_rgs A1 A3 (p + 1) c1 c3 m w4 (by rw [HK.out]; exact HA4.out.2.2) (by rw [HK.out]; exact HH4.out.2.2) (by omega) HK.out)
    clear CE hb4
    go_upto_region 10 with (first | (go_at_call 8; refine CQ.out.mono ?_; rintro e w5 ⟨rfl, hb5⟩; have HB5 := Lib.hid (HB4.out.trans (hb5.mono HB4.out.size)); have HA5 := Lib.hid (HA4.out.later hb5 (Nat.le_refl _)); clear hb5) | (go_at_call 5; refine (CX.out w5 HB5.out).mono ?_; rintro e w6 ⟨rfl, hb6⟩; have HB6 := Lib.hid (HB5.out.trans (hb6.mono HB5.out.size)); have HA6 := Lib.hid (HA5.out.later hb6 (Nat.le_refl _)); clear hb6))
    have CI := Lib.hid (fun V (hV : Below w6.heap.size w6 V) (v : Nat) (q : Bool) (hq : inB m v = q) => (by
      have := in_any A1 (p + 1) c1 m v V (by rw [HK.out]; exact (HA6.out.later hV (Nat.le_refl _)).2.2) HK.out (by omega)
      rw [hq] at this
      exact this : Calls Tryd.prog 9 #[.slice A1 (p + 1) c1, .int .i64 (v : Nat)] V fun e w' => e = .returned (.bool q) ∧ Below V.heap.size V w'))
    have hlk : p + 1 ≤ 12 := hlen
    go_wp2_with (fail)
    refine (CI.out w6 (Below.refl _ _) lo true L1.out.1).mono ?_
    rintro e w7 ⟨rfl, hb7⟩
    dsimp only
    have HB7 := Lib.hid hb7
    clear hb7
    go_wp2_with (fail)
    refine (CI.out w7 HB7.out hi true L2.out.1).mono ?_
    rintro e w8 ⟨rfl, hb8⟩
    dsimp only
    have HB8 := Lib.hid (HB7.out.trans (hb8.mono HB7.out.size))
    clear hb8
    go_wp2_with (fail)
    refine (CI.out w8 HB8.out lm false L1.out.2).mono ?_
    rintro e w9 ⟨rfl, hb9⟩
    dsimp only
    have HB9 := Lib.hid (HB8.out.trans (hb9.mono HB8.out.size))
    clear hb9
    go_wp2_with (fail)
    refine (CI.out w9 HB9.out hp1 false L2.out.2).mono ?_
    rintro e w10 ⟨rfl, hb10⟩
    dsimp only
    have HB10 := Lib.hid (HB9.out.trans (hb10.mono HB9.out.size))
    clear hb10
    go_wp2_with (fail)
    go_ret
    exact ⟨rfl, HB6.out.trans (HB10.out.mono HB6.out.size)⟩
end Go.Proofs.YtcmohbeibnfpaaaDoor
