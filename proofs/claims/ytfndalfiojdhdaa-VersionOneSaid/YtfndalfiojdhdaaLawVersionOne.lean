/- VersionOne returns true for every input, and leaves its arguments as they were. No condition. -/
import Derived.Test.YtfndalfiojdhdaaRows
import Derived.Test.YtfndalfiojdhdaaLaw
import Derived.Test.YtfndalfiojdhdaaVerOpen
import Derived.Deep.CutBlock
set_option linter.unusedVariables false
namespace Go.Proofs.Ytfndalfiojdhdaa
open Go.RowKit Go.Mem Go.Ver
theorem in_q (A : Option Addr) (n c : Nat) (l : List Rg) (v : Nat) (r : Bool) (w : World) (hr : Reads w Any 2 A n (rgs l)) (hn : n = l.length) (hn1 : n ≤ 1099511627776) (h : inB l v = r) :
    Calls Try.prog 11 #[.slice A n c, .int .i64 (v : Nat)] w fun e w' => e = .returned (.bool r) ∧ Below w.heap.size w w' := by
  subst h
  exact in_any A n c l v w hr hn hn1
set_option maxRecDepth 100000 in
set_option maxHeartbeats 4000000 in
theorem versionOne_any (w : World) (X0 : Option Addr) (n0 d0 : Nat) (l0 : List Pr) (hr0 : Reads w Any 2 X0 n0 (prs l0)) (hn0 : n0 = l0.length) (hc0 : n0 ≤ d0) (hd0 : d0 ≤ maxLen) (hl0 : ∀ p ∈ l0, I64 p.1 ∧ I64 p.2) :
    Calls Try.prog 5 #[.slice X0 n0 d0] w fun e w' => e = .returned (.bool true) ∧ Below w.heap.size w w' := by  
  have HX0 := Lib.hid hr0
  have HN0 := Lib.hid (And.intro hn0 (And.intro hc0 (And.intro hd0 hl0)))
  clear hr0 hn0 hc0 hd0 hl0
  have HB := Lib.hid (Below.refl w.heap.size w)
  go_enter Try.func5, Try.ntmps5
  go_wp2_with (fail)
  refine (setOf_any X0 n0 d0 l0 w HX0.out HN0.out.1 HN0.out.2.1 HN0.out.2.2.1 HN0.out.2.2.2).mono ?_
  rintro e w1 ⟨Aa, ca, a, rfl, oka, hia, lea, hh, hb⟩
  replace HX0 := Lib.hid (HX0.out.keep (Same.any hb))
  replace HB := Lib.hid (HB.out.trans (hb.mono HB.out.size))
  clear hb
  have Ha := Lib.hid hh.2.2
  have Ka := Lib.hid (And.intro oka (And.intro hia lea))
  clear hh oka hia lea
  go_wp2_with (fail)
  refine (set_any Aa a.length ca a w1 Ha.out rfl Ka.out.1.1 (by have := Ka.out.2.2; omega)).mono ?_
  rintro e w2 ⟨Ab, cb, b, rfl, okb, inb, leb, hh, hb⟩
  replace HX0 := Lib.hid (HX0.out.keep (Same.any hb))
  replace Ha := Lib.hid (Ha.out.keep (Same.any hb))
  replace HB := Lib.hid (HB.out.trans (hb.mono HB.out.size))
  clear hb
  have Hb := Lib.hid hh.2.2
  have Kb := Lib.hid (And.intro okb (And.intro inb leb))
  clear hh okb inb leb
  go_wp2_with (fail)
  refine (either_any Aa Aa a.length ca a.length ca a a w2 Ha.out rfl Ka.out.1 Ha.out rfl Ka.out.1 (by have := Ka.out.2.2; omega)).mono ?_
  rintro e w3 ⟨Ac, cc, c, rfl, okc, inc, lec, hh, hb⟩
  replace HX0 := Lib.hid (HX0.out.keep (Same.any hb))
  replace Ha := Lib.hid (Ha.out.keep (Same.any hb))
  replace Hb := Lib.hid (Hb.out.keep (Same.any hb))
  replace HB := Lib.hid (HB.out.trans (hb.mono HB.out.size))
  clear hb
  have Hc := Lib.hid hh.2.2
  have Kc := Lib.hid (And.intro okc (And.intro inc lec))
  clear hh okc inc lec
  go_wp2_with (fail)
  refine (both_any Aa Aa a.length ca a.length ca a a w3 Ha.out rfl Ka.out.1 Ha.out rfl Ka.out.1 (by have := Ka.out.2.2; omega)).mono ?_
  rintro e w4 ⟨Ad, cd, rfl, hh, hb⟩
  replace HX0 := Lib.hid (HX0.out.keep (Same.any hb))
  replace Ha := Lib.hid (Ha.out.keep (Same.any hb))
  replace Hb := Lib.hid (Hb.out.keep (Same.any hb))
  replace Hc := Lib.hid (Hc.out.keep (Same.any hb))
  replace HB := Lib.hid (HB.out.trans (hb.mono HB.out.size))
  clear hb
  have Hd := Lib.hid hh.2.2
  clear hh
  go_wp2_with (fail)
  refine (notN_any none 0 0 [] w4 Reads.empty rfl Ok.nil (by omega)).mono ?_
  rintro e w5 ⟨Az, cz, rfl, hh, hb⟩
  replace HX0 := Lib.hid (HX0.out.keep (Same.any hb))
  replace Ha := Lib.hid (Ha.out.keep (Same.any hb))
  replace Hb := Lib.hid (Hb.out.keep (Same.any hb))
  replace Hc := Lib.hid (Hc.out.keep (Same.any hb))
  replace Hd := Lib.hid (Hd.out.keep (Same.any hb))
  replace HB := Lib.hid (HB.out.trans (hb.mono HB.out.size))
  clear hb
  have Hz := Lib.hid (show Reads w5 Any 2 Az 1 (rgs [(1, 9999)]) from hh.2.2)
  clear hh
  rw [show (notF []).length = 1 from rfl]
  go_wp2_with (fail)
  refine (both_any Aa Az a.length ca 1 cz a [(1, 9999)] w5 Ha.out rfl Ka.out.1 Hz.out rfl all_ok (by have := Ka.out.2.2; omega)).mono ?_
  rintro e w6 ⟨Ax, cx, rfl, hh, hb⟩
  replace HX0 := Lib.hid (HX0.out.keep (Same.any hb))
  replace Ha := Lib.hid (Ha.out.keep (Same.any hb))
  replace Hb := Lib.hid (Hb.out.keep (Same.any hb))
  replace Hc := Lib.hid (Hc.out.keep (Same.any hb))
  replace Hd := Lib.hid (Hd.out.keep (Same.any hb))
  replace Hz := Lib.hid (Hz.out.keep (Same.any hb))
  replace HB := Lib.hid (HB.out.trans (hb.mono HB.out.size))
  clear hb
  have Hx := Lib.hid hh.2.2
  clear hh
  go_wp2_with (fail)
  refine (either_any Aa Az a.length ca 1 cz a [(1, 9999)] w6 Ha.out rfl Ka.out.1 Hz.out rfl all_ok (by have := Ka.out.2.2; omega)).mono ?_
  rintro e w7 ⟨Ay, cy, y, rfl, oky, iny, ley, hh, hb⟩
  replace HX0 := Lib.hid (HX0.out.keep (Same.any hb))
  replace Ha := Lib.hid (Ha.out.keep (Same.any hb))
  replace Hb := Lib.hid (Hb.out.keep (Same.any hb))
  replace Hc := Lib.hid (Hc.out.keep (Same.any hb))
  replace Hd := Lib.hid (Hd.out.keep (Same.any hb))
  replace Hz := Lib.hid (Hz.out.keep (Same.any hb))
  replace Hx := Lib.hid (Hx.out.keep (Same.any hb))
  replace HB := Lib.hid (HB.out.trans (hb.mono HB.out.size))
  clear hb
  have Hy := Lib.hid hh.2.2
  have Ky := Lib.hid (And.intro oky (And.intro iny ley))
  clear hh oky iny ley
  go_wp2_with (fail)
  refine (both_any Aa none a.length ca 0 0 a [] w7 Ha.out rfl Ka.out.1 Reads.empty rfl Ok.nil (by have := Ka.out.2.2; omega)).mono ?_
  rintro e w8 ⟨Aq, cq, rfl, hh, hb⟩
  replace HX0 := Lib.hid (HX0.out.keep (Same.any hb))
  replace Ha := Lib.hid (Ha.out.keep (Same.any hb))
  replace Hb := Lib.hid (Hb.out.keep (Same.any hb))
  replace Hc := Lib.hid (Hc.out.keep (Same.any hb))
  replace Hd := Lib.hid (Hd.out.keep (Same.any hb))
  replace Hz := Lib.hid (Hz.out.keep (Same.any hb))
  replace Hx := Lib.hid (Hx.out.keep (Same.any hb))
  replace Hy := Lib.hid (Hy.out.keep (Same.any hb))
  replace HB := Lib.hid (HB.out.trans (hb.mono HB.out.size))
  clear hb
  clear hh
  have eb : a = b := (set_self Ka.out.1 Kb.out.1 Kb.out.2.1).symm
  have ec : a = c := (either_self Ka.out.1 Kc.out.1 fun v => by rw [Kc.out.2.1, in_app]).symm
  have ed : bothF a a = a := both_self Ka.out.1
  have ex : bothF a [(1, 9999)] = a := both_all Ka.out.1
  have ey : y = [(1, 9999)] := either_all Ka.out.1 Ky.out.1 fun v => by rw [Ky.out.2.1, in_app]
  have eq0 : bothF a [] = [] := both_nil a
  clear Kb Kc Ky
  subst eb
  subst ec
  subst ey
  have hd := Hd.out
  have hx := Hx.out
  rw [ed] at hd ⊢
  rw [ex] at hx ⊢
  rw [eq0]
  replace Hd := Lib.hid hd
  replace Hx := Lib.hid hx
  have LE := Lib.hid (show a.length ≤ 1099511627776 by have := Ka.out.2.2; omega)
  simp only [List.length_nil, List.length_cons, Nat.zero_add] at Hy ⊢
  clear ed ex eq0 hd hx
  go_wp2_with (fail)
  refine (equal_rgs Aa Ab _ ca cb a w8 Ha.out Hb.out LE.out rfl).mono ?_
  rintro e w9 ⟨rfl, hb⟩
  replace HX0 := Lib.hid (HX0.out.keep (Same.any hb))
  replace Ha := Lib.hid (Ha.out.keep (Same.any hb))
  replace Hb := Lib.hid (Hb.out.keep (Same.any hb))
  replace Hc := Lib.hid (Hc.out.keep (Same.any hb))
  replace Hd := Lib.hid (Hd.out.keep (Same.any hb))
  replace Hz := Lib.hid (Hz.out.keep (Same.any hb))
  replace Hx := Lib.hid (Hx.out.keep (Same.any hb))
  replace Hy := Lib.hid (Hy.out.keep (Same.any hb))
  replace HB := Lib.hid (HB.out.trans (hb.mono HB.out.size))
  clear hb
  go_wp2_with (fail)
  refine (equal_rgs Aa Ac _ ca cc a w9 Ha.out Hc.out LE.out rfl).mono ?_
  rintro e w10 ⟨rfl, hb⟩
  replace HX0 := Lib.hid (HX0.out.keep (Same.any hb))
  replace Ha := Lib.hid (Ha.out.keep (Same.any hb))
  replace Hb := Lib.hid (Hb.out.keep (Same.any hb))
  replace Hc := Lib.hid (Hc.out.keep (Same.any hb))
  replace Hd := Lib.hid (Hd.out.keep (Same.any hb))
  replace Hz := Lib.hid (Hz.out.keep (Same.any hb))
  replace Hx := Lib.hid (Hx.out.keep (Same.any hb))
  replace Hy := Lib.hid (Hy.out.keep (Same.any hb))
  replace HB := Lib.hid (HB.out.trans (hb.mono HB.out.size))
  clear hb
  go_wp2_with (fail)
  refine (equal_rgs Aa Ad _ ca cd a w10 Ha.out Hd.out LE.out rfl).mono ?_
  rintro e w11 ⟨rfl, hb⟩
  replace HX0 := Lib.hid (HX0.out.keep (Same.any hb))
  replace Ha := Lib.hid (Ha.out.keep (Same.any hb))
  replace Hb := Lib.hid (Hb.out.keep (Same.any hb))
  replace Hc := Lib.hid (Hc.out.keep (Same.any hb))
  replace Hd := Lib.hid (Hd.out.keep (Same.any hb))
  replace Hz := Lib.hid (Hz.out.keep (Same.any hb))
  replace Hx := Lib.hid (Hx.out.keep (Same.any hb))
  replace Hy := Lib.hid (Hy.out.keep (Same.any hb))
  replace HB := Lib.hid (HB.out.trans (hb.mono HB.out.size))
  clear hb
  go_wp2_with (fail)
  refine (equal_rgs Aa Ax _ ca cx a w11 Ha.out Hx.out LE.out rfl).mono ?_
  rintro e w12 ⟨rfl, hb⟩
  replace HX0 := Lib.hid (HX0.out.keep (Same.any hb))
  replace Ha := Lib.hid (Ha.out.keep (Same.any hb))
  replace Hb := Lib.hid (Hb.out.keep (Same.any hb))
  replace Hc := Lib.hid (Hc.out.keep (Same.any hb))
  replace Hd := Lib.hid (Hd.out.keep (Same.any hb))
  replace Hz := Lib.hid (Hz.out.keep (Same.any hb))
  replace Hx := Lib.hid (Hx.out.keep (Same.any hb))
  replace Hy := Lib.hid (Hy.out.keep (Same.any hb))
  replace HB := Lib.hid (HB.out.trans (hb.mono HB.out.size))
  clear hb
  go_wp2_with (fail)
  refine (equal_rgs Az Ay 1 cz cy [(1, 9999)] w12 Hz.out Hy.out (by omega) rfl).mono ?_
  rintro e w13 ⟨rfl, hb⟩
  replace HX0 := Lib.hid (HX0.out.keep (Same.any hb))
  replace Ha := Lib.hid (Ha.out.keep (Same.any hb))
  replace Hb := Lib.hid (Hb.out.keep (Same.any hb))
  replace Hc := Lib.hid (Hc.out.keep (Same.any hb))
  replace Hd := Lib.hid (Hd.out.keep (Same.any hb))
  replace Hz := Lib.hid (Hz.out.keep (Same.any hb))
  replace Hx := Lib.hid (Hx.out.keep (Same.any hb))
  replace Hy := Lib.hid (Hy.out.keep (Same.any hb))
  replace HB := Lib.hid (HB.out.trans (hb.mono HB.out.size))
  clear hb
  go_wp2_with (fail)
  go_ret
  exact ⟨rfl, HB.out⟩
end Go.Proofs.Ytfndalfiojdhdaa
namespace Go.Proofs.Ytfndalfiojdhdaa.versionOne
open Go.Ver Go.ChangeShapes Go.WideShapes Go.ChangeAt Go.RowKit Go.Mem Go.Law

theorem own : ownKnob Try.prog.godebug = none := by kernel_rfl
theorem laidOut : laidOutB Try.prog = true := by kernel_rfl

set_option maxRecDepth 100000 in
theorem lifted (os : Os) (started : os.Started) (H : Type) (enc : TypeId × Value → H) :
    ReturnsInHanded {} Try.checked os 5 .any (Rows.versionOneSpec.pre6 enc Try.prog Try.f5 Rows.versionOneRow.domain false) (Rows.versionOneSpec.post enc Try.prog Try.f5 false true false false) := by
  refine returnsInHanded_of_change (C := Try.checked) own started (by kernel_rfl) Try.func5
    (ChangeSpec.witness6 (enc := enc) (C := Try.checked) false ⟨#[], #[.slice none 0 0], []⟩ 8 (by kernel_rfl) (by kernel_rfl) (by kernel_rfl) (by kernel_rfl)) ?_
  intro W base args ds gs before hval0 hW hcnd _
  have hval : ∀ (j : Nat) t v, Try.f5.params[j]? = some t → args[j]? = some v → Value.okWide Try.prog W .any base t v := hval0
  have hW' : DataW.Whole enc Try.prog Try.f5.params.toList Rows.versionOneSpec.vars false W args.toList ds gs before := hW
  obtain ⟨p, q, hA0, hV, rfl, hfz, hnd⟩ := hW
  have hA : DataW.TrodAll enc Try.prog W 0 (fun _ => true) true Try.f5.params.toList args.toList ds p := hA0
  rw [Try.params5] at hA hval
  obtain ⟨v0, vs0, d0, ds0, p0, q0, hargs, rfl, rfl, h0, r0⟩ := trodAll_cons hA
  obtain ⟨rfl, rfl, rfl⟩ := trodAll_nil r0
  obtain rfl : args = #[v0] := by cases args; simp_all
  obtain ⟨rfl, rfl⟩ := trodVars_none hV
  obtain ⟨A0, n0, c0, l0, rfl, hn0, hc0, hd0, hr0, hl0⟩ := open_prs Try.underlying22 Try.underlying34 (by kernel_rfl) (by kernel_rfl) (by kernel_rfl) (by kernel_rfl) (by kernel_rfl) (hval 0 _ v0 rfl rfl) h0
  clear hA0 hval0
  refine (versionOne_any W A0 n0 c0 l0 hr0 hn0 hc0 hd0 hl0).mono fun e W' ⟨he, bel⟩ => ?_
  subst he
  exact ⟨_, rfl, law_post (tb := 4) laidOut Try.underlying4 (by kernel_rfl) (by kernel_rfl) rfl rfl hW' bel⟩

/-- ████ THE STATEMENT ████ -/
theorem proved : Rows.VersionOneSaid :=
  OpenClaim.holds_of_wide 5 Try.f5 rfl rfl rfl rfl rfl rfl rfl ⟨rfl, rfl, rfl, rfl, rfl⟩ rfl rfl rfl rfl rfl (by kernel_rfl) Try.func5 (by kernel_rfl)
    (of_decide_eq_true (by kernel_rfl)) (by unfold Func.isWrapper; first | (rw [if_pos (by decide +kernel)]; kernel_rfl) | (rw [if_neg (by decide +kernel)]; exact ⟨rfl, rfl⟩))
    (fun os started H enc _ => lifted os started H enc)
#print axioms proved
end Go.Proofs.Ytfndalfiojdhdaa.versionOne
