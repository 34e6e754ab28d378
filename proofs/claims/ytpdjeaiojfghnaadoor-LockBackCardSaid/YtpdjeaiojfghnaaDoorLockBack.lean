/- LockBack's walk. -/
import Derived.Test.YtpdjeaiojfghnaaDoorLbGot
import Derived.Test.YtpdjeaiojfghnaaDoorLbRead
import Derived.Deep.DeepCutAuto
import Derived.Deep.CutBlock
set_option linter.unusedVariables false
namespace Go.Proofs.YtpdjeaiojfghnaaDoor
open Go.RowKit Go.Mem Go.Sv Go.Maps Go.Txt
/-- picks that may be, in memory -/
structure PkIn (w wc : World) (L : List Pk) (A : Option Addr) (c : Nat) : Prop where
  ok : PkOk L
  lc : L.length ≤ c
  cm : c ≤ maxLen
  rd : Reads wc Any 2 A L.length (pks L)
  be : Below w.heap.size w wc
theorem ok_q : PkOk [([113], 7)] := by
  refine ⟨by simp, ?_, ?_, ?_⟩
  · intro p hp
    have e : p = ([113], 7) := by simpa using hp
    rw [e]
    exact ⟨113, rfl, by decide, by decide⟩
  · intro p hp
    have e : p = ([113], 7) := by simpa using hp
    rw [e]
    decide
  · intro i hi
    simp at hi
theorem below_drewN' (w : World) : ∀ n, Below w.heap.size w (w.drewN n)
  | 0 => Below.refl _ _
  | n + 1 => (below_drewN' w n).drew
set_option maxRecDepth 100000 in
set_option maxHeartbeats 2000000 in
theorem lockBack_any (w : World) (hv : Env w) (A0 : Option Addr) (n0 c0 : Nat) (s0 : List Int) (A1 : Option Addr) (n1 c1 : Nat) (s1 : List Int)
    (hn0 : n0 = s0.length) (hm0 : n0 ≤ maxLen) (hr0 : Reads w Any 1 A0 n0 (nums s0)) (hl0 : ∀ x ∈ s0, I64 x) (hn1 : n1 = s1.length) (hm1 : n1 ≤ maxLen) (hr1 : Reads w Any 1 A1 n1 (nums s1)) (hl1 : ∀ x ∈ s1, I64 x) :
    Calls Tryd.prog 3 #[.slice A0 n0 c0, .slice A1 n1 c1] w fun e w' => e = .returned (.bool true) ∧ Below w.heap.size w w' := by
  have RG := Lib.hid (registerOf_any A0 n0 c0 s0 w hr0 hn0 hm0 hl0)
  have RT := Lib.hid (fun w1 (hb : Below w.heap.size w w1) => rootOf_any A1 n1 c1 s1 w1 (hr1.keep (Same.any hb)) hn1 hm1 hl1)
  have HV := Lib.hid hv
  clear hn0 hm0 hr0 hl0 hn1 hm1 hr1 hl1 hv
  go_enter Tryd.func3, Tryd.ntmps3
  go_wp2_with (fail)
  refine RG.out.mono ?_
  rintro e w1 ⟨A, c, ms, rfl, hrow, hreg, hb1⟩
  have HB1 := Lib.hid hb1
  have H1 := Lib.hid (And.intro (RegRow.mds hrow) hreg)
  clear hrow hreg hb1 RG
  go_wp2_with (fail)
  refine (RT.out w1 HB1.out).mono ?_
  rintro e w2 ⟨B, d, root, rfl, hown, h3, hae⟩
  have HB2 := Lib.hid (HB1.out.trans (hown.2.mono HB1.out.size))
  have G2 := Lib.hid (show Got w2 A c ms B d root from ⟨H1.out.1.keep (Same.any hown.2), hown.holds, H1.out.2, h3, hae⟩)
  clear hown h3 hae RT H1
  go_wp2_with (fail)
  refine (G2.out.best (A2 := none) (c2 := 0) (first := []) Reads.empty (by simp)).mono ?_
  obtain ⟨R, hR⟩ : ∃ R, R = bestF ms root [] := ⟨_, rfl⟩
  rw [← hR]
  have HR := Lib.hid hR
  clear hR
  unfold BestPost
  rintro e w3 ⟨hb3, hnone, hsome⟩
  have HB3 := Lib.hid (HB2.out.trans (hb3.mono HB2.out.size))
  have G3 := Lib.hid (G2.out.below hb3)
  have HN := Lib.hid (And.intro hnone hsome)
  clear hnone hsome hb3
  have key : ∃ (v : Value) (z : Int), e = .returned (.tuple #[v, .int .i64 z]) ∧ ((v = .slice none 0 0 ∧ z = 22) ∨ (z = 0 ∧ ∃ A2 c2 x, v = .slice A2 x.length c2 ∧ PkIn w w3 x A2 c2)) := by
    cases R with
    | none => exact ⟨_, _, HN.out.1 rfl, .inl ⟨rfl, rfl⟩⟩
    | some x =>
      obtain ⟨A2, c2, he, hxc, hxm, hxr⟩ := HN.out.2 x rfl
      exact ⟨_, _, he, .inr ⟨rfl, A2, c2, x, rfl, (best_pkok G3.out.ok HR.out.symm).1, hxc, hxm, hxr.imp (by omega) fun _ _ _ => trivial, HB3.out⟩⟩
  obtain ⟨v, z, rfl, hvz⟩ := key
  rcases hvz with ⟨rfl, rfl⟩ | ⟨rfl, A2, c2, x, rfl, hx⟩
  · have PK0 : Hid (PkIn w (w3.alloc (.cells #[.string ⟨#[113]⟩, .int .i64 7] 32)) [([113], 7)] (some ⟨w3.heap.size, 0, none⟩) 1) :=
      ⟨ok_q, by simp, by unfold maxLen; simp, Reads.new (D := Any) w3 (pks [([113], 7)]) 2 1 32 trivial rfl, HB3.out.alloc HB3.out.size _⟩
    go_wp2_with (fail)
    obtain ⟨wc, hwc⟩ : ∃ W, W = w3.alloc (.cells #[.string ⟨#[113]⟩, .int .i64 7] 32) := ⟨_, rfl⟩
    rw [← hwc] at PK0 ⊢
    obtain ⟨Q, hQ⟩ : ∃ Q : List Pk, Q = [([113], 7)] := ⟨_, rfl⟩
    have hQl : Q.length = 1 := by rw [hQ]; rfl
    rw [← hQ] at PK0
    have PK := PK0
    clear PK0 hwc hQ HN
    have e1 : Value.slice (some ⟨w3.heap.size, 0, none⟩) 1 1 = Value.slice (some ⟨w3.heap.size, 0, none⟩) Q.length 1 := by rw [hQl]
    rw [e1]
    clear e1 hQl
    have hl30 := PK.out.ok.ln
    obtain ⟨T, hT⟩ : ∃ T : ByteArray, T = ⟨(textF Q).toArray⟩ := ⟨_, rfl⟩
    have hT9 : T.size ≤ 210 := by
      have := text_len Q fun p hp => ⟨PK.out.ok.nm p hp, (PK.out.ok.vr p hp).2⟩
      rw [hT, ba_size]
      omega
    have TX := Lib.hid (text_any (some ⟨w3.heap.size, 0, none⟩) Q.length 1 Q wc (HV.out.below PK.out.be) PK.out.rd rfl PK.out.ok)
    have RD := Lib.hid (fun V (hV : Below w.heap.size w V) => read_any false Q PK.out.ok T (by rw [hT]; simp [sOf]) V (HV.out.below hV))
    have RX := Lib.hid (fun V (hV : Below w.heap.size w V) => read_any true Q PK.out.ok (T ++ ⟨#[120]⟩) (by
      rw [hT]
      apply ByteArray.ext
      simp [sOf]) V (HV.out.below hV))
    have CN := Lib.hid (fun V => count_gen Q PK.out.ok.nm V)
    rw [← hT] at TX CN
    clear hT
    refine TX.out.mono ?_
    rintro e w4 ⟨rfl, hb4⟩
    have B4 := Lib.hid (PK.out.be.trans (hb4.mono PK.out.be.size))
    have X4 := Lib.hid (PK.out.rd.keep (Same.any hb4))
    clear hb4 TX
    go_wp2_with (fail)
    refine (RD.out w4 B4.out).mono ?_
    rintro e w5 ⟨hok, _, hb5⟩
    obtain ⟨A5, c5, rfl, _, _, hy⟩ := hok rfl
    have B5 := Lib.hid (B4.out.trans (hb5.mono B4.out.size))
    have X5 := Lib.hid (X4.out.keep (Same.any hb5))
    have Y5 := Lib.hid (hy.imp (D' := Any) (by omega) fun _ _ _ => trivial)
    clear hok hb5 hy RD
    go_wp2_with (fail)
    refine (RX.out w5 B5.out).mono ?_
    rintro e w6 ⟨_, hbad, hb6⟩
    obtain rfl := hbad rfl
    have B6 := Lib.hid (B5.out.trans (hb6.mono B5.out.size))
    have X6 := Lib.hid (X5.out.keep (Same.any hb6))
    have Y6 := Lib.hid (Y5.out.keep (Same.any hb6))
    clear hbad hb6 RX
    go_wp2_with (fail)
    refine (equal_pks (some ⟨w3.heap.size, 0, none⟩) A5 Q.length 1 c5 Q w6 X6.out Y6.out (by omega) rfl).mono ?_
    rintro e w7 ⟨rfl, hb7⟩
    have B7 := Lib.hid (B6.out.trans (hb7.mono B6.out.size))
    clear hb7
    go_wp2_with (fail)
    refine (CN.out w7).mono ?_
    rintro e w' ⟨rfl, rfl⟩
    go_wp2_with (fail)
    go_ret
    exact ⟨by simp, B7.out⟩
  · have PK := Lib.hid hx
    clear hx HN
    obtain ⟨wc, hwc⟩ : ∃ W, W = w3 := ⟨_, rfl⟩
    rw [← hwc] at PK ⊢
    clear hwc
    go_wp2_with (fail)
    have hl30 := PK.out.ok.ln
    obtain ⟨T, hT⟩ : ∃ T : ByteArray, T = ⟨(textF x).toArray⟩ := ⟨_, rfl⟩
    have hT9 : T.size ≤ 210 := by
      have := text_len x fun p hp => ⟨PK.out.ok.nm p hp, (PK.out.ok.vr p hp).2⟩
      rw [hT, ba_size]
      omega
    have TX := Lib.hid (text_any A2 x.length c2 x wc (HV.out.below PK.out.be) PK.out.rd rfl PK.out.ok)
    have RD := Lib.hid (fun V (hV : Below w.heap.size w V) => read_any false x PK.out.ok T (by rw [hT]; simp [sOf]) V (HV.out.below hV))
    have RX := Lib.hid (fun V (hV : Below w.heap.size w V) => read_any true x PK.out.ok (T ++ ⟨#[120]⟩) (by
      rw [hT]
      apply ByteArray.ext
      simp [sOf]) V (HV.out.below hV))
    have CN := Lib.hid (fun V => count_gen x PK.out.ok.nm V)
    rw [← hT] at TX CN
    clear hT
    refine TX.out.mono ?_
    rintro e w4 ⟨rfl, hb4⟩
    have B4 := Lib.hid (PK.out.be.trans (hb4.mono PK.out.be.size))
    have X4 := Lib.hid (PK.out.rd.keep (Same.any hb4))
    clear hb4 TX
    go_wp2_with (fail)
    refine (RD.out w4 B4.out).mono ?_
    rintro e w5 ⟨hok, _, hb5⟩
    obtain ⟨A5, c5, rfl, _, _, hy⟩ := hok rfl
    have B5 := Lib.hid (B4.out.trans (hb5.mono B4.out.size))
    have X5 := Lib.hid (X4.out.keep (Same.any hb5))
    have Y5 := Lib.hid (hy.imp (D' := Any) (by omega) fun _ _ _ => trivial)
    clear hok hb5 hy RD
    go_wp2_with (fail)
    refine (RX.out w5 B5.out).mono ?_
    rintro e w6 ⟨_, hbad, hb6⟩
    obtain rfl := hbad rfl
    have B6 := Lib.hid (B5.out.trans (hb6.mono B5.out.size))
    have X6 := Lib.hid (X5.out.keep (Same.any hb6))
    have Y6 := Lib.hid (Y5.out.keep (Same.any hb6))
    clear hbad hb6 RX
    go_wp2_with (fail)
    refine (equal_pks A2 A5 x.length c2 c5 x w6 X6.out Y6.out (by omega) rfl).mono ?_
    rintro e w7 ⟨rfl, hb7⟩
    have B7 := Lib.hid (B6.out.trans (hb7.mono B6.out.size))
    clear hb7
    go_wp2_with (fail)
    refine (CN.out w7).mono ?_
    rintro e w' ⟨rfl, rfl⟩
    go_wp2_with (fail)
    go_ret
    exact ⟨by simp, B7.out⟩
end Go.Proofs.YtpdjeaiojfghnaaDoor
