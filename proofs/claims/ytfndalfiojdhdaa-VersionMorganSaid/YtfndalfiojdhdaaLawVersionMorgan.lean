/- VersionMorgan returns true for every input, and leaves its arguments as they were. No condition. -/
import Derived.Test.YtfndalfiojdhdaaRows
import Derived.Test.YtfndalfiojdhdaaLaw
import Derived.Test.YtfndalfiojdhdaaVerOpen
import Derived.Deep.CutBlock
set_option linter.unusedVariables false
namespace Go.Proofs.Ytfndalfiojdhdaa
open Go.RowKit Go.Mem Go.Ver
theorem in_q (A : Option Addr) (n c : Nat) (l : List Rg) (v : Nat) (r : Bool) (w : World) (hr : Reads w Any 2 A n (rgs l)) (hn : n = l.length) (hn1 : n ≤ 1099511627776) (h : inB l v = r) :
    Calls Try.prog 11 #[.slice A n c, .int .i64 (v : Nat)] w fun e w' => e = .returned (.bool r) ∧ Below w.heap.size w w' := by
  subst h
  exact in_any A n c l v w hr hn hn1
set_option maxRecDepth 100000 in
set_option maxHeartbeats 4000000 in
theorem versionMorgan_any (w : World) (X0 : Option Addr) (n0 d0 : Nat) (l0 : List Pr) (hr0 : Reads w Any 2 X0 n0 (prs l0)) (hn0 : n0 = l0.length) (hc0 : n0 ≤ d0) (hd0 : d0 ≤ maxLen) (hl0 : ∀ p ∈ l0, I64 p.1 ∧ I64 p.2) (X1 : Option Addr) (n1 d1 : Nat) (l1 : List Pr) (hr1 : Reads w Any 2 X1 n1 (prs l1)) (hn1 : n1 = l1.length) (hc1 : n1 ≤ d1) (hd1 : d1 ≤ maxLen) (hl1 : ∀ p ∈ l1, I64 p.1 ∧ I64 p.2) :
    Calls Try.prog 4 #[.slice X0 n0 d0, .slice X1 n1 d1] w fun e w' => e = .returned (.bool true) ∧ Below w.heap.size w w' := by  
  have HX0 := Lib.hid hr0
  have HN0 := Lib.hid (And.intro hn0 (And.intro hc0 (And.intro hd0 hl0)))
  clear hr0 hn0 hc0 hd0 hl0
  have HX1 := Lib.hid hr1
  have HN1 := Lib.hid (And.intro hn1 (And.intro hc1 (And.intro hd1 hl1)))
  clear hr1 hn1 hc1 hd1 hl1
  have HB := Lib.hid (Below.refl w.heap.size w)
  go_enter Try.func4, Try.ntmps4
  go_wp2_with (fail)
  refine (setOf_any X0 n0 d0 l0 w HX0.out HN0.out.1 HN0.out.2.1 HN0.out.2.2.1 HN0.out.2.2.2).mono ?_
  rintro e w1 ⟨Aa, ca, a, rfl, oka, hia, lea, hh, hb⟩
  replace HX0 := Lib.hid (HX0.out.keep (Same.any hb))
  replace HX1 := Lib.hid (HX1.out.keep (Same.any hb))
  replace HB := Lib.hid (HB.out.trans (hb.mono HB.out.size))
  clear hb
  have Ha := Lib.hid hh.2.2
  have Ka := Lib.hid (And.intro oka (And.intro hia lea))
  clear hh oka hia lea
  go_wp2_with (fail)
  refine (setOf_any X1 n1 d1 l1 w1 HX1.out HN1.out.1 HN1.out.2.1 HN1.out.2.2.1 HN1.out.2.2.2).mono ?_
  rintro e w2 ⟨Ab, cb, b, rfl, okb, hib, leb, hh, hb⟩
  replace HX0 := Lib.hid (HX0.out.keep (Same.any hb))
  replace HX1 := Lib.hid (HX1.out.keep (Same.any hb))
  replace Ha := Lib.hid (Ha.out.keep (Same.any hb))
  replace HB := Lib.hid (HB.out.trans (hb.mono HB.out.size))
  clear hb
  have Hb := Lib.hid hh.2.2
  have Kb := Lib.hid (And.intro okb (And.intro hib leb))
  clear hh okb hib leb
  go_wp2_with (fail)
  refine (notN_any none 0 0 [] w2 Reads.empty rfl Ok.nil (by omega)).mono ?_
  rintro e w3 ⟨Az, cz, rfl, hh, hb⟩
  replace HX0 := Lib.hid (HX0.out.keep (Same.any hb))
  replace HX1 := Lib.hid (HX1.out.keep (Same.any hb))
  replace Ha := Lib.hid (Ha.out.keep (Same.any hb))
  replace Hb := Lib.hid (Hb.out.keep (Same.any hb))
  replace HB := Lib.hid (HB.out.trans (hb.mono HB.out.size))
  clear hb
  clear hh
  rw [show (notF []).length = 1 from rfl]
  go_wp2_with (fail)
  refine (either_any Aa Ab a.length ca b.length cb a b w3 Ha.out rfl Ka.out.1 Hb.out rfl Kb.out.1 (by have := Ka.out.2.2; have := Kb.out.2.2; omega)).mono ?_
  rintro e w4 ⟨As, cs, s, rfl, oks, ins, les, hh, hb⟩
  replace HX0 := Lib.hid (HX0.out.keep (Same.any hb))
  replace HX1 := Lib.hid (HX1.out.keep (Same.any hb))
  replace Ha := Lib.hid (Ha.out.keep (Same.any hb))
  replace Hb := Lib.hid (Hb.out.keep (Same.any hb))
  replace HB := Lib.hid (HB.out.trans (hb.mono HB.out.size))
  clear hb
  have Hs := Lib.hid hh.2.2
  have Ks := Lib.hid (And.intro oks (And.intro ins les))
  clear hh oks ins les
  go_wp2_with (fail)
  refine (notN_any As s.length cs s w4 Hs.out rfl Ks.out.1 (by have h1 := Ks.out.2.2; rw [List.length_append] at h1; have := Ka.out.2.2; have := Kb.out.2.2; omega)).mono ?_
  rintro e w5 ⟨Af, cf, rfl, hh, hb⟩
  replace HX0 := Lib.hid (HX0.out.keep (Same.any hb))
  replace HX1 := Lib.hid (HX1.out.keep (Same.any hb))
  replace Ha := Lib.hid (Ha.out.keep (Same.any hb))
  replace Hb := Lib.hid (Hb.out.keep (Same.any hb))
  replace Hs := Lib.hid (Hs.out.keep (Same.any hb))
  replace HB := Lib.hid (HB.out.trans (hb.mono HB.out.size))
  clear hb
  have Hf := Lib.hid hh.2.2
  clear hh
  go_wp2_with (fail)
  refine (notN_any Aa a.length ca a w5 Ha.out rfl Ka.out.1 (by have := Ka.out.2.2; omega)).mono ?_
  rintro e w6 ⟨Ag, cg, rfl, hh, hb⟩
  replace HX0 := Lib.hid (HX0.out.keep (Same.any hb))
  replace HX1 := Lib.hid (HX1.out.keep (Same.any hb))
  replace Ha := Lib.hid (Ha.out.keep (Same.any hb))
  replace Hb := Lib.hid (Hb.out.keep (Same.any hb))
  replace Hs := Lib.hid (Hs.out.keep (Same.any hb))
  replace Hf := Lib.hid (Hf.out.keep (Same.any hb))
  replace HB := Lib.hid (HB.out.trans (hb.mono HB.out.size))
  clear hb
  have Hg := Lib.hid hh.2.2
  clear hh
  go_wp2_with (fail)
  refine (notN_any Ab b.length cb b w6 Hb.out rfl Kb.out.1 (by have := Kb.out.2.2; omega)).mono ?_
  rintro e w7 ⟨Ah, ch, rfl, hh, hb⟩
  replace HX0 := Lib.hid (HX0.out.keep (Same.any hb))
  replace HX1 := Lib.hid (HX1.out.keep (Same.any hb))
  replace Ha := Lib.hid (Ha.out.keep (Same.any hb))
  replace Hb := Lib.hid (Hb.out.keep (Same.any hb))
  replace Hs := Lib.hid (Hs.out.keep (Same.any hb))
  replace Hf := Lib.hid (Hf.out.keep (Same.any hb))
  replace Hg := Lib.hid (Hg.out.keep (Same.any hb))
  replace HB := Lib.hid (HB.out.trans (hb.mono HB.out.size))
  clear hb
  have Hh := Lib.hid hh.2.2
  clear hh
  go_wp2_with (fail)
  refine (both_any Ag Ah (notF a).length cg (notF b).length ch (notF a) (notF b) w7 Hg.out rfl (notF_spec Ka.out.1).1 Hh.out rfl (notF_spec Kb.out.1).1 (by have := (notF_spec Ka.out.1).2.2; have := (notF_spec Kb.out.1).2.2; have := Ka.out.2.2; have := Kb.out.2.2; omega)).mono ?_
  rintro e w8 ⟨At, ct, rfl, hh, hb⟩
  replace HX0 := Lib.hid (HX0.out.keep (Same.any hb))
  replace HX1 := Lib.hid (HX1.out.keep (Same.any hb))
  replace Ha := Lib.hid (Ha.out.keep (Same.any hb))
  replace Hb := Lib.hid (Hb.out.keep (Same.any hb))
  replace Hs := Lib.hid (Hs.out.keep (Same.any hb))
  replace Hf := Lib.hid (Hf.out.keep (Same.any hb))
  replace Hg := Lib.hid (Hg.out.keep (Same.any hb))
  replace Hh := Lib.hid (Hh.out.keep (Same.any hb))
  replace HB := Lib.hid (HB.out.trans (hb.mono HB.out.size))
  clear hb
  have Ht := Lib.hid hh.2.2
  clear hh
  go_wp2_with (fail)
  refine (notN_any Ag (notF a).length cg (notF a) w8 Hg.out rfl (notF_spec Ka.out.1).1 (by have := (notF_spec Ka.out.1).2.2; have := Ka.out.2.2; omega)).mono ?_
  rintro e w9 ⟨Au, cu, rfl, hh, hb⟩
  replace HX0 := Lib.hid (HX0.out.keep (Same.any hb))
  replace HX1 := Lib.hid (HX1.out.keep (Same.any hb))
  replace Ha := Lib.hid (Ha.out.keep (Same.any hb))
  replace Hb := Lib.hid (Hb.out.keep (Same.any hb))
  replace Hs := Lib.hid (Hs.out.keep (Same.any hb))
  replace Hf := Lib.hid (Hf.out.keep (Same.any hb))
  replace Hg := Lib.hid (Hg.out.keep (Same.any hb))
  replace Hh := Lib.hid (Hh.out.keep (Same.any hb))
  replace Ht := Lib.hid (Ht.out.keep (Same.any hb))
  replace HB := Lib.hid (HB.out.trans (hb.mono HB.out.size))
  clear hb
  have Hu := Lib.hid hh.2.2
  clear hh
  go_wp2_with (fail)
  have e1 : notF s = bothF (notF a) (notF b) := morgan Ka.out.1 Kb.out.1 Ks.out.1 fun v => by rw [Ks.out.2.1, in_app]
  have e2 : notF (notF a) = a := not_not Ka.out.1
  have le1 : (bothF (notF a) (notF b)).length ≤ 1099511627776 := by
    rw [← e1]
    have := (notF_spec Ks.out.1).2.2
    have h1 := Ks.out.2.2
    rw [List.length_append] at h1
    have := Ka.out.2.2
    have := Kb.out.2.2
    omega
  have hf := Hf.out
  have hu := Hu.out
  rw [e1] at hf ⊢
  rw [e2] at hu ⊢
  replace Hf := Lib.hid hf
  replace Hu := Lib.hid hu
  have LE1 := Lib.hid le1
  clear e1 e2 le1 hf hu
  refine (equal_rgs Af At _ cf ct (bothF (notF a) (notF b)) w9 Hf.out Ht.out LE1.out rfl).mono ?_
  rintro e w10 ⟨rfl, hb⟩
  replace HX0 := Lib.hid (HX0.out.keep (Same.any hb))
  replace HX1 := Lib.hid (HX1.out.keep (Same.any hb))
  replace Ha := Lib.hid (Ha.out.keep (Same.any hb))
  replace Hb := Lib.hid (Hb.out.keep (Same.any hb))
  replace Hs := Lib.hid (Hs.out.keep (Same.any hb))
  replace Hf := Lib.hid (Hf.out.keep (Same.any hb))
  replace Hg := Lib.hid (Hg.out.keep (Same.any hb))
  replace Hh := Lib.hid (Hh.out.keep (Same.any hb))
  replace Ht := Lib.hid (Ht.out.keep (Same.any hb))
  replace Hu := Lib.hid (Hu.out.keep (Same.any hb))
  replace HB := Lib.hid (HB.out.trans (hb.mono HB.out.size))
  clear hb
  go_wp2_with (fail)
  refine (equal_rgs Au Aa _ cu ca a w10 Hu.out Ha.out (by have := Ka.out.2.2; omega) rfl).mono ?_
  rintro e w11 ⟨rfl, hb⟩
  replace HX0 := Lib.hid (HX0.out.keep (Same.any hb))
  replace HX1 := Lib.hid (HX1.out.keep (Same.any hb))
  replace Ha := Lib.hid (Ha.out.keep (Same.any hb))
  replace Hb := Lib.hid (Hb.out.keep (Same.any hb))
  replace Hs := Lib.hid (Hs.out.keep (Same.any hb))
  replace Hf := Lib.hid (Hf.out.keep (Same.any hb))
  replace Hg := Lib.hid (Hg.out.keep (Same.any hb))
  replace Hh := Lib.hid (Hh.out.keep (Same.any hb))
  replace Ht := Lib.hid (Ht.out.keep (Same.any hb))
  replace Hu := Lib.hid (Hu.out.keep (Same.any hb))
  replace HB := Lib.hid (HB.out.trans (hb.mono HB.out.size))
  clear hb
  go_wp2_with (fail)
  go_ret
  exact ⟨rfl, HB.out⟩
end Go.Proofs.Ytfndalfiojdhdaa
namespace Go.Proofs.Ytfndalfiojdhdaa.versionMorgan
open Go.Ver Go.ChangeShapes Go.WideShapes Go.ChangeAt Go.RowKit Go.Mem Go.Law

theorem own : ownKnob Try.prog.godebug = none := by kernel_rfl
theorem laidOut : laidOutB Try.prog = true := by kernel_rfl

set_option maxRecDepth 100000 in
theorem lifted (os : Os) (started : os.Started) (H : Type) (enc : TypeId × Value → H) :
    ReturnsInHanded {} Try.checked os 4 .any (Rows.versionMorganSpec.pre6 enc Try.prog Try.f4 Rows.versionMorganRow.domain false) (Rows.versionMorganSpec.post enc Try.prog Try.f4 false true false false) := by
  refine returnsInHanded_of_change (C := Try.checked) own started (by kernel_rfl) Try.func4
    (ChangeSpec.witness6 (enc := enc) (C := Try.checked) false ⟨#[], #[.slice none 0 0, .slice none 0 0], []⟩ 8 (by kernel_rfl) (by kernel_rfl) (by kernel_rfl) (by kernel_rfl)) ?_
  intro W base args ds gs before hval0 hW hcnd _
  have hval : ∀ (j : Nat) t v, Try.f4.params[j]? = some t → args[j]? = some v → Value.okWide Try.prog W .any base t v := hval0
  have hW' : DataW.Whole enc Try.prog Try.f4.params.toList Rows.versionMorganSpec.vars false W args.toList ds gs before := hW
  obtain ⟨p, q, hA0, hV, rfl, hfz, hnd⟩ := hW
  have hA : DataW.TrodAll enc Try.prog W 0 (fun _ => true) true Try.f4.params.toList args.toList ds p := hA0
  rw [Try.params4] at hA hval
  obtain ⟨v0, vs0, d0, ds0, p0, q0, hargs, rfl, rfl, h0, r0⟩ := trodAll_cons hA
  obtain ⟨v1, vs1, d1, ds1, p1, q1, rfl, rfl, rfl, h1, r1⟩ := trodAll_cons r0
  obtain ⟨rfl, rfl, rfl⟩ := trodAll_nil r1
  obtain rfl : args = #[v0, v1] := by cases args; simp_all
  obtain ⟨rfl, rfl⟩ := trodVars_none hV
  obtain ⟨A0, n0, c0, l0, rfl, hn0, hc0, hd0, hr0, hl0⟩ := open_prs Try.underlying22 Try.underlying34 (by kernel_rfl) (by kernel_rfl) (by kernel_rfl) (by kernel_rfl) (by kernel_rfl) (hval 0 _ v0 rfl rfl) h0
  obtain ⟨A1, n1, c1, l1, rfl, hn1, hc1, hd1, hr1, hl1⟩ := open_prs Try.underlying22 Try.underlying34 (by kernel_rfl) (by kernel_rfl) (by kernel_rfl) (by kernel_rfl) (by kernel_rfl) (hval 1 _ v1 rfl rfl) h1
  clear hA0 hval0
  refine (versionMorgan_any W A0 n0 c0 l0 hr0 hn0 hc0 hd0 hl0 A1 n1 c1 l1 hr1 hn1 hc1 hd1 hl1).mono fun e W' ⟨he, bel⟩ => ?_
  subst he
  exact ⟨_, rfl, law_post (tb := 4) laidOut Try.underlying4 (by kernel_rfl) (by kernel_rfl) rfl rfl hW' bel⟩

/-- ████ THE STATEMENT ████ -/
theorem proved : Rows.VersionMorganSaid :=
  OpenClaim.holds_of_wide 4 Try.f4 rfl rfl rfl rfl rfl rfl rfl ⟨rfl, rfl, rfl, rfl, rfl⟩ rfl rfl rfl rfl rfl (by kernel_rfl) Try.func4 (by kernel_rfl)
    (of_decide_eq_true (by kernel_rfl)) (by unfold Func.isWrapper; first | (rw [if_pos (by decide +kernel)]; kernel_rfl) | (rw [if_neg (by decide +kernel)]; exact ⟨rfl, rfl⟩))
    (fun os started H enc _ => lifted os started H enc)
#print axioms proved
end Go.Proofs.Ytfndalfiojdhdaa.versionMorgan
