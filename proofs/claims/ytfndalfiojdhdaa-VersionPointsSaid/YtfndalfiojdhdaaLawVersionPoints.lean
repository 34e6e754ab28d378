/- VersionPoints returns true for every input, and leaves its arguments as they were. No condition. -/
import Derived.Test.YtfndalfiojdhdaaRows
import Derived.Test.YtfndalfiojdhdaaLaw
import Derived.Test.YtfndalfiojdhdaaVerOpen
import Derived.Deep.CutBlock
set_option linter.unusedVariables false
namespace Go.Proofs.Ytfndalfiojdhdaa
open Go.RowKit Go.Mem Go.Ver
theorem in_q (A : Option Addr) (n c : Nat) (l : List Rg) (v : Nat) (r : Bool) (w : World) (hr : Reads w Any 2 A n (rgs l)) (hn : n = l.length) (hn1 : n ≤ 1099511627776) (h : inB l v = r) :
    Calls Try.prog 11 #[.slice A n c, .int .i64 (v : Nat)] w fun e w' => e = .returned (.bool r) ∧ Below w.heap.size w w' := by
  subst h
  exact in_any A n c l v w hr hn hn1
set_option maxRecDepth 100000 in
set_option maxHeartbeats 4000000 in
theorem versionPoints_any (w : World) (X0 : Option Addr) (n0 d0 : Nat) (l0 : List Pr) (hr0 : Reads w Any 2 X0 n0 (prs l0)) (hn0 : n0 = l0.length) (hc0 : n0 ≤ d0) (hd0 : d0 ≤ maxLen) (hl0 : ∀ p ∈ l0, I64 p.1 ∧ I64 p.2) (X1 : Option Addr) (n1 d1 : Nat) (l1 : List Pr) (hr1 : Reads w Any 2 X1 n1 (prs l1)) (hn1 : n1 = l1.length) (hc1 : n1 ≤ d1) (hd1 : d1 ≤ maxLen) (hl1 : ∀ p ∈ l1, I64 p.1 ∧ I64 p.2) (v : Int) (hv : I64 v) :
    Calls Try.prog 3 #[.slice X0 n0 d0, .slice X1 n1 d1, .int .i64 v] w fun e w' => e = .returned (.bool true) ∧ Below w.heap.size w w' := by  
  have HX0 := Lib.hid hr0
  have HN0 := Lib.hid (And.intro hn0 (And.intro hc0 (And.intro hd0 hl0)))
  clear hr0 hn0 hc0 hd0 hl0
  have HX1 := Lib.hid hr1
  have HN1 := Lib.hid (And.intro hn1 (And.intro hc1 (And.intro hd1 hl1)))
  clear hr1 hn1 hc1 hd1 hl1
  have HB := Lib.hid (Below.refl w.heap.size w)
  go_enter Try.func3, Try.ntmps3
  go_wp2_with (fail)
  refine (setOf_any X0 n0 d0 l0 w HX0.out HN0.out.1 HN0.out.2.1 HN0.out.2.2.1 HN0.out.2.2.2).mono ?_
  rintro e w1 ⟨Aa, ca, a, rfl, oka, hia, lea, hh, hb⟩
  replace HX0 := Lib.hid (HX0.out.keep (Same.any hb))
  replace HX1 := Lib.hid (HX1.out.keep (Same.any hb))
  replace HB := Lib.hid (HB.out.trans (hb.mono HB.out.size))
  clear hb
  have Ha := Lib.hid hh.2.2
  have Ka := Lib.hid (And.intro oka (And.intro hia lea))
  clear hh oka hia lea
  go_wp2_with (fail)
  refine (setOf_any X1 n1 d1 l1 w1 HX1.out HN1.out.1 HN1.out.2.1 HN1.out.2.2.1 HN1.out.2.2.2).mono ?_
  rintro e w2 ⟨Ab, cb, b, rfl, okb, hib, leb, hh, hb⟩
  replace HX0 := Lib.hid (HX0.out.keep (Same.any hb))
  replace HX1 := Lib.hid (HX1.out.keep (Same.any hb))
  replace Ha := Lib.hid (Ha.out.keep (Same.any hb))
  replace HB := Lib.hid (HB.out.trans (hb.mono HB.out.size))
  clear hb
  have Hb := Lib.hid hh.2.2
  have Kb := Lib.hid (And.intro okb (And.intro hib leb))
  clear hh okb hib leb
  go_wp2_with (fail)
  have R0 := Lib.hid (rest_q v 250 w2 ((rsN v 250 : Nat) : Int) hv (by omega) (by omega) (rsN_eq _ _ (by omega)))
  have b0 := rsN_lt v 250 (by omega)
  generalize rsN v 250 = q at R0 b0
  have k0 : IntKind.i64.wrap (1 + (q : Int)) = ((1 + q : Nat) : Int) := (IntWalk.i64_in _ (by omega)).trans (by omega)
  have hx : 1 ≤ 1 + q ∧ 1 + q ≤ 9999 := by omega
  obtain ⟨x, hxq⟩ : ∃ x, x = 1 + q := ⟨_, rfl⟩
  rw [← hxq] at k0 hx
  clear hxq hv
  refine R0.out.mono ?_
  rintro e w3 ⟨rfl, rfl⟩
  go_wp2_with (fail)
  refine (either_any Aa Ab a.length ca b.length cb a b w2 Ha.out rfl Ka.out.1 Hb.out rfl Kb.out.1 (by have := Ka.out.2.2; have := Kb.out.2.2; omega)).mono ?_
  rintro e w3 ⟨As, cs, s, rfl, oks, ins, les, hh, hb⟩
  replace HX0 := Lib.hid (HX0.out.keep (Same.any hb))
  replace HX1 := Lib.hid (HX1.out.keep (Same.any hb))
  replace Ha := Lib.hid (Ha.out.keep (Same.any hb))
  replace Hb := Lib.hid (Hb.out.keep (Same.any hb))
  replace HB := Lib.hid (HB.out.trans (hb.mono HB.out.size))
  clear hb
  have Hs := Lib.hid hh.2.2
  have Ks := Lib.hid (And.intro oks (And.intro ins les))
  clear hh oks ins les
  go_wp2_with (fail)
  refine (both_any Aa Ab a.length ca b.length cb a b w3 Ha.out rfl Ka.out.1 Hb.out rfl Kb.out.1 (by have := Ka.out.2.2; have := Kb.out.2.2; omega)).mono ?_
  rintro e w4 ⟨Af, cf, rfl, hh, hb⟩
  replace HX0 := Lib.hid (HX0.out.keep (Same.any hb))
  replace HX1 := Lib.hid (HX1.out.keep (Same.any hb))
  replace Ha := Lib.hid (Ha.out.keep (Same.any hb))
  replace Hb := Lib.hid (Hb.out.keep (Same.any hb))
  replace Hs := Lib.hid (Hs.out.keep (Same.any hb))
  replace HB := Lib.hid (HB.out.trans (hb.mono HB.out.size))
  clear hb
  have Hf := Lib.hid hh.2.2
  clear hh
  go_wp2_with (fail)
  refine (notN_any Aa a.length ca a w4 Ha.out rfl Ka.out.1 (by have := Ka.out.2.2; omega)).mono ?_
  rintro e w5 ⟨Ag, cg, rfl, hh, hb⟩
  replace HX0 := Lib.hid (HX0.out.keep (Same.any hb))
  replace HX1 := Lib.hid (HX1.out.keep (Same.any hb))
  replace Ha := Lib.hid (Ha.out.keep (Same.any hb))
  replace Hb := Lib.hid (Hb.out.keep (Same.any hb))
  replace Hs := Lib.hid (Hs.out.keep (Same.any hb))
  replace Hf := Lib.hid (Hf.out.keep (Same.any hb))
  replace HB := Lib.hid (HB.out.trans (hb.mono HB.out.size))
  clear hb
  have Hg := Lib.hid hh.2.2
  clear hh
  go_wp2_with (fail)
  obtain ⟨P, hP⟩ : ∃ P, inB a x = P := ⟨_, rfl⟩
  obtain ⟨Q, hQ⟩ : ∃ Q, inB b x = Q := ⟨_, rfl⟩
  have hS : inB s x = (P || Q) := by rw [← hP, ← hQ, Bool.eq_iff_iff, inB_iff, Ks.out.2.1, in_app, Bool.or_eq_true, inB_iff, inB_iff]
  have hF : inB (bothF a b) x = (P && Q) := by rw [← hP, ← hQ, Bool.eq_iff_iff, inB_iff, both_mem, Bool.and_eq_true, inB_iff, inB_iff]
  have hG : inB (notF a) x = !P := by
    rw [← hP, Bool.eq_iff_iff, inB_iff, (notF_spec Ka.out.1).2.1, Bool.not_eq_true', ← Bool.not_eq_true, inB_iff]
    exact ⟨fun h => h.2, fun h => ⟨hx, h⟩⟩
  have hE : inB (notF a) 5000 = true := by
    rw [inB_iff, (notF_spec Ka.out.1).2.1]
    exact ⟨by omega, fun h => by have := Ka.out.2.1 _ h; omega⟩
  have le1 : s.length ≤ 1099511627776 := by have h1 := Ks.out.2.2; rw [List.length_append] at h1; have := Ka.out.2.2; have := Kb.out.2.2; omega
  have le2 : (bothF a b).length ≤ 1099511627776 := by have := both_len Ka.out.1 Kb.out.1; have := Ka.out.2.2; have := Kb.out.2.2; omega
  have le3 : (notF a).length ≤ 1099511627776 := by have := (notF_spec Ka.out.1).2.2; have := Ka.out.2.2; omega
  have KK := Lib.hid (And.intro hP (And.intro hQ (And.intro hS (And.intro hF (And.intro hG (And.intro hE (And.intro le1 (And.intro le2 le3))))))))
  clear hP hQ hS hF hG hE le1 le2 le3
  refine (in_q Aa a.length ca a x _ w5 Ha.out rfl (by have := Ka.out.2.2; omega) KK.out.1).mono ?_
  rintro e w6 ⟨rfl, hb⟩
  replace HX0 := Lib.hid (HX0.out.keep (Same.any hb))
  replace HX1 := Lib.hid (HX1.out.keep (Same.any hb))
  replace Ha := Lib.hid (Ha.out.keep (Same.any hb))
  replace Hb := Lib.hid (Hb.out.keep (Same.any hb))
  replace Hs := Lib.hid (Hs.out.keep (Same.any hb))
  replace Hf := Lib.hid (Hf.out.keep (Same.any hb))
  replace Hg := Lib.hid (Hg.out.keep (Same.any hb))
  replace HB := Lib.hid (HB.out.trans (hb.mono HB.out.size))
  clear hb
  go_wp2_with (fail)
  refine (in_q Ab b.length cb b x _ w6 Hb.out rfl (by have := Kb.out.2.2; omega) KK.out.2.1).mono ?_
  rintro e w7 ⟨rfl, hb⟩
  replace HX0 := Lib.hid (HX0.out.keep (Same.any hb))
  replace HX1 := Lib.hid (HX1.out.keep (Same.any hb))
  replace Ha := Lib.hid (Ha.out.keep (Same.any hb))
  replace Hb := Lib.hid (Hb.out.keep (Same.any hb))
  replace Hs := Lib.hid (Hs.out.keep (Same.any hb))
  replace Hf := Lib.hid (Hf.out.keep (Same.any hb))
  replace Hg := Lib.hid (Hg.out.keep (Same.any hb))
  replace HB := Lib.hid (HB.out.trans (hb.mono HB.out.size))
  clear hb
  go_wp2_with (fail)
  cases P <;> cases Q
  · refine (in_q As s.length cs s x _ w7 Hs.out rfl KK.out.2.2.2.2.2.2.1 KK.out.2.2.1).mono ?_
    rintro e w8 ⟨rfl, hb⟩
    replace HX0 := Lib.hid (HX0.out.keep (Same.any hb))
    replace HX1 := Lib.hid (HX1.out.keep (Same.any hb))
    replace Ha := Lib.hid (Ha.out.keep (Same.any hb))
    replace Hb := Lib.hid (Hb.out.keep (Same.any hb))
    replace Hs := Lib.hid (Hs.out.keep (Same.any hb))
    replace Hf := Lib.hid (Hf.out.keep (Same.any hb))
    replace Hg := Lib.hid (Hg.out.keep (Same.any hb))
    replace HB := Lib.hid (HB.out.trans (hb.mono HB.out.size))
    clear hb
    go_wp2_with (fail)
    refine (in_q Af (bothF a b).length cf (bothF a b) x _ w8 Hf.out rfl KK.out.2.2.2.2.2.2.2.1 KK.out.2.2.2.1).mono ?_
    rintro e w9 ⟨rfl, hb⟩
    replace HX0 := Lib.hid (HX0.out.keep (Same.any hb))
    replace HX1 := Lib.hid (HX1.out.keep (Same.any hb))
    replace Ha := Lib.hid (Ha.out.keep (Same.any hb))
    replace Hb := Lib.hid (Hb.out.keep (Same.any hb))
    replace Hs := Lib.hid (Hs.out.keep (Same.any hb))
    replace Hf := Lib.hid (Hf.out.keep (Same.any hb))
    replace Hg := Lib.hid (Hg.out.keep (Same.any hb))
    replace HB := Lib.hid (HB.out.trans (hb.mono HB.out.size))
    clear hb
    go_wp2_with (fail)
    refine (in_q Ag (notF a).length cg (notF a) x _ w9 Hg.out rfl KK.out.2.2.2.2.2.2.2.2 KK.out.2.2.2.2.1).mono ?_
    rintro e w10 ⟨rfl, hb⟩
    replace HX0 := Lib.hid (HX0.out.keep (Same.any hb))
    replace HX1 := Lib.hid (HX1.out.keep (Same.any hb))
    replace Ha := Lib.hid (Ha.out.keep (Same.any hb))
    replace Hb := Lib.hid (Hb.out.keep (Same.any hb))
    replace Hs := Lib.hid (Hs.out.keep (Same.any hb))
    replace Hf := Lib.hid (Hf.out.keep (Same.any hb))
    replace Hg := Lib.hid (Hg.out.keep (Same.any hb))
    replace HB := Lib.hid (HB.out.trans (hb.mono HB.out.size))
    clear hb
    go_wp2_with (fail)
    refine (in_q Ag (notF a).length cg (notF a) 5000 _ w10 Hg.out rfl KK.out.2.2.2.2.2.2.2.2 KK.out.2.2.2.2.2.1).mono ?_
    rintro e w11 ⟨rfl, hb⟩
    replace HX0 := Lib.hid (HX0.out.keep (Same.any hb))
    replace HX1 := Lib.hid (HX1.out.keep (Same.any hb))
    replace Ha := Lib.hid (Ha.out.keep (Same.any hb))
    replace Hb := Lib.hid (Hb.out.keep (Same.any hb))
    replace Hs := Lib.hid (Hs.out.keep (Same.any hb))
    replace Hf := Lib.hid (Hf.out.keep (Same.any hb))
    replace Hg := Lib.hid (Hg.out.keep (Same.any hb))
    replace HB := Lib.hid (HB.out.trans (hb.mono HB.out.size))
    clear hb
    go_wp2_with (fail)
    go_ret
    exact ⟨rfl, HB.out⟩
  · refine (in_q As s.length cs s x _ w7 Hs.out rfl KK.out.2.2.2.2.2.2.1 KK.out.2.2.1).mono ?_
    rintro e w8 ⟨rfl, hb⟩
    replace HX0 := Lib.hid (HX0.out.keep (Same.any hb))
    replace HX1 := Lib.hid (HX1.out.keep (Same.any hb))
    replace Ha := Lib.hid (Ha.out.keep (Same.any hb))
    replace Hb := Lib.hid (Hb.out.keep (Same.any hb))
    replace Hs := Lib.hid (Hs.out.keep (Same.any hb))
    replace Hf := Lib.hid (Hf.out.keep (Same.any hb))
    replace Hg := Lib.hid (Hg.out.keep (Same.any hb))
    replace HB := Lib.hid (HB.out.trans (hb.mono HB.out.size))
    clear hb
    go_wp2_with (fail)
    refine (in_q Af (bothF a b).length cf (bothF a b) x _ w8 Hf.out rfl KK.out.2.2.2.2.2.2.2.1 KK.out.2.2.2.1).mono ?_
    rintro e w9 ⟨rfl, hb⟩
    replace HX0 := Lib.hid (HX0.out.keep (Same.any hb))
    replace HX1 := Lib.hid (HX1.out.keep (Same.any hb))
    replace Ha := Lib.hid (Ha.out.keep (Same.any hb))
    replace Hb := Lib.hid (Hb.out.keep (Same.any hb))
    replace Hs := Lib.hid (Hs.out.keep (Same.any hb))
    replace Hf := Lib.hid (Hf.out.keep (Same.any hb))
    replace Hg := Lib.hid (Hg.out.keep (Same.any hb))
    replace HB := Lib.hid (HB.out.trans (hb.mono HB.out.size))
    clear hb
    go_wp2_with (fail)
    refine (in_q Ag (notF a).length cg (notF a) x _ w9 Hg.out rfl KK.out.2.2.2.2.2.2.2.2 KK.out.2.2.2.2.1).mono ?_
    rintro e w10 ⟨rfl, hb⟩
    replace HX0 := Lib.hid (HX0.out.keep (Same.any hb))
    replace HX1 := Lib.hid (HX1.out.keep (Same.any hb))
    replace Ha := Lib.hid (Ha.out.keep (Same.any hb))
    replace Hb := Lib.hid (Hb.out.keep (Same.any hb))
    replace Hs := Lib.hid (Hs.out.keep (Same.any hb))
    replace Hf := Lib.hid (Hf.out.keep (Same.any hb))
    replace Hg := Lib.hid (Hg.out.keep (Same.any hb))
    replace HB := Lib.hid (HB.out.trans (hb.mono HB.out.size))
    clear hb
    go_wp2_with (fail)
    refine (in_q Ag (notF a).length cg (notF a) 5000 _ w10 Hg.out rfl KK.out.2.2.2.2.2.2.2.2 KK.out.2.2.2.2.2.1).mono ?_
    rintro e w11 ⟨rfl, hb⟩
    replace HX0 := Lib.hid (HX0.out.keep (Same.any hb))
    replace HX1 := Lib.hid (HX1.out.keep (Same.any hb))
    replace Ha := Lib.hid (Ha.out.keep (Same.any hb))
    replace Hb := Lib.hid (Hb.out.keep (Same.any hb))
    replace Hs := Lib.hid (Hs.out.keep (Same.any hb))
    replace Hf := Lib.hid (Hf.out.keep (Same.any hb))
    replace Hg := Lib.hid (Hg.out.keep (Same.any hb))
    replace HB := Lib.hid (HB.out.trans (hb.mono HB.out.size))
    clear hb
    go_wp2_with (fail)
    go_ret
    exact ⟨rfl, HB.out⟩
  · refine (in_q As s.length cs s x _ w7 Hs.out rfl KK.out.2.2.2.2.2.2.1 KK.out.2.2.1).mono ?_
    rintro e w8 ⟨rfl, hb⟩
    replace HX0 := Lib.hid (HX0.out.keep (Same.any hb))
    replace HX1 := Lib.hid (HX1.out.keep (Same.any hb))
    replace Ha := Lib.hid (Ha.out.keep (Same.any hb))
    replace Hb := Lib.hid (Hb.out.keep (Same.any hb))
    replace Hs := Lib.hid (Hs.out.keep (Same.any hb))
    replace Hf := Lib.hid (Hf.out.keep (Same.any hb))
    replace Hg := Lib.hid (Hg.out.keep (Same.any hb))
    replace HB := Lib.hid (HB.out.trans (hb.mono HB.out.size))
    clear hb
    go_wp2_with (fail)
    refine (in_q Af (bothF a b).length cf (bothF a b) x _ w8 Hf.out rfl KK.out.2.2.2.2.2.2.2.1 KK.out.2.2.2.1).mono ?_
    rintro e w9 ⟨rfl, hb⟩
    replace HX0 := Lib.hid (HX0.out.keep (Same.any hb))
    replace HX1 := Lib.hid (HX1.out.keep (Same.any hb))
    replace Ha := Lib.hid (Ha.out.keep (Same.any hb))
    replace Hb := Lib.hid (Hb.out.keep (Same.any hb))
    replace Hs := Lib.hid (Hs.out.keep (Same.any hb))
    replace Hf := Lib.hid (Hf.out.keep (Same.any hb))
    replace Hg := Lib.hid (Hg.out.keep (Same.any hb))
    replace HB := Lib.hid (HB.out.trans (hb.mono HB.out.size))
    clear hb
    go_wp2_with (fail)
    refine (in_q Ag (notF a).length cg (notF a) x _ w9 Hg.out rfl KK.out.2.2.2.2.2.2.2.2 KK.out.2.2.2.2.1).mono ?_
    rintro e w10 ⟨rfl, hb⟩
    replace HX0 := Lib.hid (HX0.out.keep (Same.any hb))
    replace HX1 := Lib.hid (HX1.out.keep (Same.any hb))
    replace Ha := Lib.hid (Ha.out.keep (Same.any hb))
    replace Hb := Lib.hid (Hb.out.keep (Same.any hb))
    replace Hs := Lib.hid (Hs.out.keep (Same.any hb))
    replace Hf := Lib.hid (Hf.out.keep (Same.any hb))
    replace Hg := Lib.hid (Hg.out.keep (Same.any hb))
    replace HB := Lib.hid (HB.out.trans (hb.mono HB.out.size))
    clear hb
    go_wp2_with (fail)
    refine (in_q Ag (notF a).length cg (notF a) 5000 _ w10 Hg.out rfl KK.out.2.2.2.2.2.2.2.2 KK.out.2.2.2.2.2.1).mono ?_
    rintro e w11 ⟨rfl, hb⟩
    replace HX0 := Lib.hid (HX0.out.keep (Same.any hb))
    replace HX1 := Lib.hid (HX1.out.keep (Same.any hb))
    replace Ha := Lib.hid (Ha.out.keep (Same.any hb))
    replace Hb := Lib.hid (Hb.out.keep (Same.any hb))
    replace Hs := Lib.hid (Hs.out.keep (Same.any hb))
    replace Hf := Lib.hid (Hf.out.keep (Same.any hb))
    replace Hg := Lib.hid (Hg.out.keep (Same.any hb))
    replace HB := Lib.hid (HB.out.trans (hb.mono HB.out.size))
    clear hb
    go_wp2_with (fail)
    go_ret
    exact ⟨rfl, HB.out⟩
  · refine (in_q As s.length cs s x _ w7 Hs.out rfl KK.out.2.2.2.2.2.2.1 KK.out.2.2.1).mono ?_
    rintro e w8 ⟨rfl, hb⟩
    replace HX0 := Lib.hid (HX0.out.keep (Same.any hb))
    replace HX1 := Lib.hid (HX1.out.keep (Same.any hb))
    replace Ha := Lib.hid (Ha.out.keep (Same.any hb))
    replace Hb := Lib.hid (Hb.out.keep (Same.any hb))
    replace Hs := Lib.hid (Hs.out.keep (Same.any hb))
    replace Hf := Lib.hid (Hf.out.keep (Same.any hb))
    replace Hg := Lib.hid (Hg.out.keep (Same.any hb))
    replace HB := Lib.hid (HB.out.trans (hb.mono HB.out.size))
    clear hb
    go_wp2_with (fail)
    refine (in_q Af (bothF a b).length cf (bothF a b) x _ w8 Hf.out rfl KK.out.2.2.2.2.2.2.2.1 KK.out.2.2.2.1).mono ?_
    rintro e w9 ⟨rfl, hb⟩
    replace HX0 := Lib.hid (HX0.out.keep (Same.any hb))
    replace HX1 := Lib.hid (HX1.out.keep (Same.any hb))
    replace Ha := Lib.hid (Ha.out.keep (Same.any hb))
    replace Hb := Lib.hid (Hb.out.keep (Same.any hb))
    replace Hs := Lib.hid (Hs.out.keep (Same.any hb))
    replace Hf := Lib.hid (Hf.out.keep (Same.any hb))
    replace Hg := Lib.hid (Hg.out.keep (Same.any hb))
    replace HB := Lib.hid (HB.out.trans (hb.mono HB.out.size))
    clear hb
    go_wp2_with (fail)
    refine (in_q Ag (notF a).length cg (notF a) x _ w9 Hg.out rfl KK.out.2.2.2.2.2.2.2.2 KK.out.2.2.2.2.1).mono ?_
    rintro e w10 ⟨rfl, hb⟩
    replace HX0 := Lib.hid (HX0.out.keep (Same.any hb))
    replace HX1 := Lib.hid (HX1.out.keep (Same.any hb))
    replace Ha := Lib.hid (Ha.out.keep (Same.any hb))
    replace Hb := Lib.hid (Hb.out.keep (Same.any hb))
    replace Hs := Lib.hid (Hs.out.keep (Same.any hb))
    replace Hf := Lib.hid (Hf.out.keep (Same.any hb))
    replace Hg := Lib.hid (Hg.out.keep (Same.any hb))
    replace HB := Lib.hid (HB.out.trans (hb.mono HB.out.size))
    clear hb
    go_wp2_with (fail)
    refine (in_q Ag (notF a).length cg (notF a) 5000 _ w10 Hg.out rfl KK.out.2.2.2.2.2.2.2.2 KK.out.2.2.2.2.2.1).mono ?_
    rintro e w11 ⟨rfl, hb⟩
    replace HX0 := Lib.hid (HX0.out.keep (Same.any hb))
    replace HX1 := Lib.hid (HX1.out.keep (Same.any hb))
    replace Ha := Lib.hid (Ha.out.keep (Same.any hb))
    replace Hb := Lib.hid (Hb.out.keep (Same.any hb))
    replace Hs := Lib.hid (Hs.out.keep (Same.any hb))
    replace Hf := Lib.hid (Hf.out.keep (Same.any hb))
    replace Hg := Lib.hid (Hg.out.keep (Same.any hb))
    replace HB := Lib.hid (HB.out.trans (hb.mono HB.out.size))
    clear hb
    go_wp2_with (fail)
    go_ret
    exact ⟨rfl, HB.out⟩
end Go.Proofs.Ytfndalfiojdhdaa
namespace Go.Proofs.Ytfndalfiojdhdaa.versionPoints
open Go.Ver Go.ChangeShapes Go.WideShapes Go.ChangeAt Go.RowKit Go.Mem Go.Law

theorem own : ownKnob Try.prog.godebug = none := by kernel_rfl
theorem laidOut : laidOutB Try.prog = true := by kernel_rfl

set_option maxRecDepth 100000 in
theorem lifted (os : Os) (started : os.Started) (H : Type) (enc : TypeId × Value → H) :
    ReturnsInHanded {} Try.checked os 3 .any (Rows.versionPointsSpec.pre6 enc Try.prog Try.f3 Rows.versionPointsRow.domain false) (Rows.versionPointsSpec.post enc Try.prog Try.f3 false true false false) := by
  refine returnsInHanded_of_change (C := Try.checked) own started (by kernel_rfl) Try.func3
    (ChangeSpec.witness6 (enc := enc) (C := Try.checked) false ⟨#[], #[.slice none 0 0, .slice none 0 0, .int .i64 0], []⟩ 8 (by kernel_rfl) (by kernel_rfl) (by kernel_rfl) (by kernel_rfl)) ?_
  intro W base args ds gs before hval0 hW hcnd _
  have hval : ∀ (j : Nat) t v, Try.f3.params[j]? = some t → args[j]? = some v → Value.okWide Try.prog W .any base t v := hval0
  have hW' : DataW.Whole enc Try.prog Try.f3.params.toList Rows.versionPointsSpec.vars false W args.toList ds gs before := hW
  obtain ⟨p, q, hA0, hV, rfl, hfz, hnd⟩ := hW
  have hA : DataW.TrodAll enc Try.prog W 0 (fun _ => true) true Try.f3.params.toList args.toList ds p := hA0
  rw [Try.params3] at hA hval
  obtain ⟨v0, vs0, d0, ds0, p0, q0, hargs, rfl, rfl, h0, r0⟩ := trodAll_cons hA
  obtain ⟨v1, vs1, d1, ds1, p1, q1, rfl, rfl, rfl, h1, r1⟩ := trodAll_cons r0
  obtain ⟨v2, vs2, d2, ds2, p2, q2, rfl, rfl, rfl, h2, r2⟩ := trodAll_cons r1
  obtain ⟨rfl, rfl, rfl⟩ := trodAll_nil r2
  obtain rfl : args = #[v0, v1, v2] := by cases args; simp_all
  obtain ⟨rfl, rfl⟩ := trodVars_none hV
  obtain ⟨A0, n0, c0, l0, rfl, hn0, hc0, hd0, hr0, hl0⟩ := open_prs Try.underlying22 Try.underlying34 (by kernel_rfl) (by kernel_rfl) (by kernel_rfl) (by kernel_rfl) (by kernel_rfl) (hval 0 _ v0 rfl rfl) h0
  obtain ⟨A1, n1, c1, l1, rfl, hn1, hc1, hd1, hr1, hl1⟩ := open_prs Try.underlying22 Try.underlying34 (by kernel_rfl) (by kernel_rfl) (by kernel_rfl) (by kernel_rfl) (by kernel_rfl) (hval 1 _ v1 rfl rfl) h1
  obtain ⟨a2, rfl, rfl, rfl, x2⟩ := open_int Try.underlying3 (hval 2 _ v2 rfl rfl) h2
  have w2 := i64_of_wf x2
  clear hA0 hval0
  refine (versionPoints_any W A0 n0 c0 l0 hr0 hn0 hc0 hd0 hl0 A1 n1 c1 l1 hr1 hn1 hc1 hd1 hl1 a2 w2).mono fun e W' ⟨he, bel⟩ => ?_
  subst he
  exact ⟨_, rfl, law_post (tb := 4) laidOut Try.underlying4 (by kernel_rfl) (by kernel_rfl) rfl rfl hW' bel⟩

/-- ████ THE STATEMENT ████ -/
theorem proved : Rows.VersionPointsSaid :=
  OpenClaim.holds_of_wide 3 Try.f3 rfl rfl rfl rfl rfl rfl rfl ⟨rfl, rfl, rfl, rfl, rfl⟩ rfl rfl rfl rfl rfl (by kernel_rfl) Try.func3 (by kernel_rfl)
    (of_decide_eq_true (by kernel_rfl)) (by unfold Func.isWrapper; first | (rw [if_pos (by decide +kernel)]; kernel_rfl) | (rw [if_neg (by decide +kernel)]; exact ⟨rfl, rfl⟩))
    (fun os started H enc _ => lifted os started H enc)
#print axioms proved
end Go.Proofs.Ytfndalfiojdhdaa.versionPoints
