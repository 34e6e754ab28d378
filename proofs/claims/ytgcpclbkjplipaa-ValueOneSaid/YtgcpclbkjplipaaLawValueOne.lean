/- ValueOne returns true for every input, and leaves its arguments as they were. No condition. -/
import Derived.Test.YtgcpclbkjplipaaRows
import Derived.Test.YtgcpclbkjplipaaLawRaw
import Derived.Test.YtgcpclbkjplipaaValOf
import Derived.Test.YtgcpclbkjplipaaValChk
import Derived.Test.YtgcpclbkjplipaaValGood
set_option linter.unusedVariables false
namespace Go.Proofs.Ytgcpclbkjplipaa
open Go.RowKit Go.Mem Go.Val

theorem check_val (l : List Raw) : checkF 21 (valF l) = 0 := by
  have h1 := Good.fits 21 (valF l) 400 1 (valF_good l) (by have := valF_nodes l; omega) (by omega)
  have h2 := Good.form 21 (valF l) (valF_good l)
  unfold checkF
  rw [h1, h2]
  rfl

set_option maxRecDepth 100000 in
set_option maxHeartbeats 2000000 in
theorem valueOne_any (A B : Option Addr) (n m c e : Nat) (l k : List Raw) (rss uss : List (List Value)) (w : World) (hn : n = l.length) (hnc : n ≤ c) (hcm : c ≤ maxLen) (hr : Reads w Any 4 A n rss.flatten) (ha : All2 (RawCells w Any) rss l)
    (hm : m = k.length) (hme : m ≤ e) (hem : e ≤ maxLen) (hr' : Reads w Any 4 B m uss.flatten) (ha' : All2 (RawCells w Any) uss k) :
    Calls Try.prog 4 #[.slice A n c, .slice B m e] w fun e w' => e = .returned (.bool true) ∧ Below w.heap.size w w' := by
  have Hn := Lib.hid hn
  have Hm := Lib.hid hm
  clear hn hm
  go_enter Try.func4, Try.ntmps4
  go_wp2_with (fail)
  refine (valueOf_any l A n c rss w Hn.out hnc hcm hr ha).mono ?_
  rintro e1 w1 ⟨A1, c1, rfl, hv1, hb1⟩
  have hlen1 := valF_len l
  have hck1 := check_val l
  have Hl := Lib.hid (valF_good l)
  generalize hvl : valF l = X at hv1 hlen1 hck1 ⊢
  have HX := Lib.hid hvl
  clear hvl
  obtain ⟨xk, xn, xt, xa⟩ := X
  simp only [vagg, vcells, V.kind, V.num, V.text, V.args] at hv1 ⊢
  go_wp2_with (fail)
  refine (valueOf_any k B m e uss w1 Hm.out hme hem (hr'.keep (Same.any hb1)) (ha'.imp fun _ _ h => h)).mono ?_
  rintro e2 w2 ⟨A2, c2, rfl, hv2, hb2⟩
  have hlen2 := valF_len k
  have hck2 := check_val k
  generalize hvk : valF k = Y at hv2 hlen2 hck2 ⊢
  have HY := Lib.hid hvk
  clear hvk
  obtain ⟨yk, yn, yt, ya⟩ := Y
  simp only [vagg, vcells, V.kind, V.num, V.text, V.args] at hv2 ⊢
  have hw2 : Below w.heap.size w w2 := hb1.trans (hb2.mono hb1.size)
  have hvx2 := hv1.keep (Same.any (D := fun b => w.heap.size ≤ b) hb2)
  clear hr ha hr' ha' Hn Hm
  go_wp2_with (fail)
  obtain ⟨W, hW⟩ : ∃ W, W = (w2.alloc (.cells [.int .i64 xk, .int .i64 xn, .string xt, .slice A1 xa.length c1].toArray 35)).alloc (.cells [.int .i64 yk, .int .i64 yn, .string yt, .slice A2 ya.length c2].toArray 35) := ⟨_, rfl⟩
  obtain ⟨b1, b2, hbW, hsW⟩ := blks2 _ _ _ _ _ W hW
  rw [← hW]
  clear hW
  have hX1 : VCells 21 W Any [.int .i64 xk, .int .i64 xn, .string xt, .slice A1 xa.length c1] (V.mk xk xn xt xa) := (hvx2.imp fun _ _ _ => trivial).keep (Same.any hbW)
  have hY1 : VCells 21 W Any [.int .i64 yk, .int .i64 yn, .string yt, .slice A2 ya.length c2] (V.mk yk yn yt ya) := (hv2.imp fun _ _ _ => trivial).keep (Same.any hbW)
  have hwW : Below w.heap.size w W := hw2.trans (hbW.mono hw2.size)
  have hokx := hX1.ok
  have hoky := hY1.ok
  refine (bytes_any 21 (V.mk xk xn xt xa) [.int .i64 xk, .int .i64 xn, .string xt, .slice A1 xa.length c1] W (by omega) hX1 (by omega)).mono ?_
  rintro e3 w3 ⟨p1, p2, p3⟩
  obtain ⟨A3, c3, rfl, ho3⟩ := p1 hck1
  clear p1 p2
  obtain ⟨_, _, hr3⟩ := own_reads (by omega) ho3
  have hlen4 := encV_len1 21 _ hokx
  generalize hL1 : (encV 21 (V.mk xk xn xt xa)).length = L1 at hr3 hlen4 hlen1 ⊢
  have b1' := b1.below p3 b1.lt
  have b2' := b2.below p3 b2.lt
  have t0 := b2'.cell 0
  have t1 := b2'.cell 1
  have t2 := b2'.cell 2
  have t3 := b2'.cell 3
  simp only [List.getElem?_cons_succ, List.getElem?_cons_zero] at t0 t1 t2 t3
  clear hL1 ho3 hvx2 hv2 hv1
  go_wp2_with (fail)
  refine (bytes_any 21 (V.mk yk yn yt ya) [.int .i64 yk, .int .i64 yn, .string yt, .slice A2 ya.length c2] w3 (by omega) (hY1.keep (Same.any p3)) (by omega)).mono ?_
  rintro e4 w4 ⟨q1, q2, q3⟩
  obtain ⟨A4, c4, rfl, ho4⟩ := q1 hck2
  clear q1 q2
  obtain ⟨_, _, hr4⟩ := own_reads (by omega) ho4
  generalize hL2 : (encV 21 (V.mk yk yn yt ya)).length = L2 at hr4 ⊢
  have hw4 : Below w.heap.size w w4 := (hwW.trans (p3.mono hwW.size)).trans (q3.mono (by have := hwW.size; have := p3.size; omega))
  have b1'' := b1'.below q3 b1'.lt
  have b2'' := b2'.below q3 b2'.lt
  have hX4 := (hX1.keep (Same.any (D := Any) p3)).keep (Same.any (D := Any) q3)
  have hY4 := (hY1.keep (Same.any (D := Any) p3)).keep (Same.any (D := Any) q3)
  have hr3' := hr3.keep (Same.any q3)
  clear t0 t1 t2 t3 hL2 ho4 hr3 b1 b2 b1' b2' hX1 hY1 p3 q3 hwW hbW hw2 hb1 hb2
  have hiff : decide ((⟨(encV 21 (V.mk xk xn xt xa)).toArray⟩ : ByteArray) = ⟨(encV 21 (V.mk yk yn yt ya)).toArray⟩) = sameF 21 (V.mk xk xn xt xa) (V.mk yk yn yt ya) := by
    rw [Bool.eq_iff_iff, decide_eq_true_eq, sameF_iff 21 _ _ hokx hoky, ← enc_inj 21 _ _ hokx hoky]
    constructor
    · intro h
      have := congrArg (fun b : ByteArray => b.data.toList) h
      simpa using this
    · intro h
      rw [h]
  generalize hE1 : (⟨(encV 21 (V.mk xk xn xt xa)).toArray⟩ : ByteArray) = E1 at hiff
  generalize hE2 : (⟨(encV 21 (V.mk yk yn yt ya)).toArray⟩ : ByteArray) = E2 at hiff
  rw [← str_eq] at hiff
  have CV1 : ∀ w', Below w4.heap.size w4 w' → (convert 23 9 (.slice A3 L1 c3)).run Try.prog w' = .ok (.string E1) w' := fun w' hb => by
    rw [← hE1]
    exact run_convert_reads _ _ _ _ Try.underlying23 Try.underlying5 Try.underlying9 (hr3'.keep (Same.any hb))
  have CV2 : ∀ w', Below w4.heap.size w4 w' → (convert 23 9 (.slice A4 L2 c4)).run Try.prog w' = .ok (.string E2) w' := fun w' hb => by
    rw [← hE2]
    exact run_convert_reads _ _ _ _ Try.underlying23 Try.underlying5 Try.underlying9 (hr4.keep (Same.any hb))
  have CX : ∀ w', Below w4.heap.size w4 w' → (w'.cell? ⟨w2.heap.size, 0, none⟩ = some (.int .i64 xk) ∧ w'.cell? ⟨w2.heap.size, 1, none⟩ = some (.int .i64 xn) ∧ w'.cell? ⟨w2.heap.size, 2, none⟩ = some (.string xt) ∧ w'.cell? ⟨w2.heap.size, 3, none⟩ = some (.slice A1 xa.length c1)) ∧
      (w'.cell? ⟨w2.heap.size + 1, 0, none⟩ = some (.int .i64 yk) ∧ w'.cell? ⟨w2.heap.size + 1, 1, none⟩ = some (.int .i64 yn) ∧ w'.cell? ⟨w2.heap.size + 1, 2, none⟩ = some (.string yt) ∧ w'.cell? ⟨w2.heap.size + 1, 3, none⟩ = some (.slice A2 ya.length c2)) := fun w' hb => by
    have h1 := b1''.below hb b1''.lt
    have h2 := b2''.below hb b2''.lt
    exact ⟨⟨h1.cell 0, h1.cell 1, h1.cell 2, h1.cell 3⟩, h2.cell 0, h2.cell 1, h2.cell 2, h2.cell 3⟩
  have Hiff := Lib.hid hiff
  have HCV := Lib.hid (fun w' hb => And.intro (CV1 w' hb) (And.intro (CV2 w' hb) (CX w' hb)))
  clear hiff hE1 hE2 CV1 CV2 CX b1'' b2'' hr3' hr4
  have hS0 := HCV.out w4.drew (Below.refl _ _).drew
  have SV1 := Lib.hid (fun w' (hb : Below w4.heap.size w4 w') => same_any 21 (V.mk xk xn xt xa) (V.mk yk yn yt ya) [.int .i64 xk, .int .i64 xn, .string xt, .slice A1 xa.length c1] [.int .i64 yk, .int .i64 yn, .string yt, .slice A2 ya.length c2] w' (hX4.keep (Same.any hb)) (hY4.keep (Same.any hb)))
  clear hX4 hY4 hokx hoky hck1 hck2
  have hz1 : decide ((0:Int) < (L1:Int)) = true := by simp; omega
  have hz2 : decide (0 < L1) = true := by simp; omega
  have hz3 : ((0:Int) == 0) = true := rfl
  go_wp2_with (fail)
  go_region_held3 (fun w' => (convert 23 9 (.slice A3 L1 c3)).run Try.prog w' = .ok (.string E1) w' ∧ (convert 23 9 (.slice A4 L2 c4)).run Try.prog w' = .ok (.string E2) w' ∧ (w'.cell? ⟨w2.heap.size, 0, none⟩ = some (.int .i64 xk) ∧ w'.cell? ⟨w2.heap.size, 1, none⟩ = some (.int .i64 xn) ∧ w'.cell? ⟨w2.heap.size, 2, none⟩ = some (.string xt) ∧ w'.cell? ⟨w2.heap.size, 3, none⟩ = some (.slice A1 xa.length c1)) ∧
      (w'.cell? ⟨w2.heap.size + 1, 0, none⟩ = some (.int .i64 yk) ∧ w'.cell? ⟨w2.heap.size + 1, 1, none⟩ = some (.int .i64 yn) ∧ w'.cell? ⟨w2.heap.size + 1, 2, none⟩ = some (.string yt) ∧ w'.cell? ⟨w2.heap.size + 1, 3, none⟩ = some (.slice A2 ya.length c2))) (first | (exact hS0) | (exact hS1) | fail)
    (first | (go_at_call 20; refine (SV1.out w4.drew (Below.refl _ _).drew).mono ?_; rintro e5 w5 ⟨rfl, hb5⟩; have hS1 := HCV.out w5 ((Below.refl _ _).drew.trans hb5)))
  rw [Hiff.out]
  go_wp2_with (fail)
  go_ret
  refine ⟨by simp, hw4.trans (((Below.refl _ _).drew.trans hb5).mono hw4.size)⟩
end Go.Proofs.Ytgcpclbkjplipaa
namespace Go.Proofs.Ytgcpclbkjplipaa.valueOne
open Go.ChangeShapes Go.WideShapes Go.ChangeAt Go.RowKit Go.Mem Go.Law

theorem own : ownKnob Try.prog.godebug = none := by kernel_rfl
theorem laidOut : laidOutB Try.prog = true := by kernel_rfl

set_option maxRecDepth 100000 in
theorem lifted (os : Os) (started : os.Started) (H : Type) (enc : TypeId × Value → H) :
    ReturnsInHanded {} Try.checked os 4 .any (Rows.valueOneSpec.pre6 enc Try.prog Try.f4 Rows.valueOneRow.domain false) (Rows.valueOneSpec.post enc Try.prog Try.f4 false true false false) := by
  refine returnsInHanded_of_change (C := Try.checked) own started (by kernel_rfl) Try.func4
    (ChangeSpec.witness6 (enc := enc) (C := Try.checked) false ⟨#[], #[.slice none 0 0, .slice none 0 0], []⟩ 8 (by kernel_rfl) (by kernel_rfl) (by kernel_rfl) (by kernel_rfl)) ?_
  intro W base args ds gs before hval0 hW hcnd _
  have hval : ∀ (j : Nat) t v, Try.f4.params[j]? = some t → args[j]? = some v → Value.okWide Try.prog W .any base t v := hval0
  have hW' : DataW.Whole enc Try.prog Try.f4.params.toList Rows.valueOneSpec.vars false W args.toList ds gs before := hW
  obtain ⟨p, q, hA0, hV, rfl, hfz, hnd⟩ := hW
  have hA : DataW.TrodAll enc Try.prog W 0 (fun _ => true) true Try.f4.params.toList args.toList ds p := hA0
  rw [Try.params4] at hA hval
  obtain ⟨v0, vs0, d0, ds0, p0, q0, hargs, rfl, rfl, h0, r0⟩ := trodAll_cons hA
  obtain ⟨v1, vs1, d1, ds1, p1, q1, rfl, rfl, rfl, h1, r1⟩ := trodAll_cons r0
  obtain ⟨rfl, rfl, rfl⟩ := trodAll_nil r1
  obtain rfl : args = #[v0, v1] := by cases args; simp_all
  obtain ⟨rfl, rfl⟩ := trodVars_none hV
  obtain ⟨A, n, c, rss, l, rfl, hn, hc, hc2, hr, hl⟩ := open_raws Try.underlying32 Try.underlying109 (by kernel_rfl) (by kernel_rfl) (by kernel_rfl) (by kernel_rfl) (by kernel_rfl) (by kernel_rfl) (by kernel_rfl) (hval 0 _ v0 rfl rfl) h0
  obtain ⟨B, m, e, uss, k, rfl, hm, he, he2, hr2, hk⟩ := open_raws Try.underlying32 Try.underlying109 (by kernel_rfl) (by kernel_rfl) (by kernel_rfl) (by kernel_rfl) (by kernel_rfl) (by kernel_rfl) (by kernel_rfl) (hval 1 _ v1 rfl rfl) h1
  clear hA0 hval0
  refine (valueOne_any A B n m c e l k rss uss W hn hc hc2 hr hl hm he he2 hr2 hk).mono fun e W' ⟨he, bel⟩ => ?_
  subst he
  exact ⟨_, rfl, law_post (tb := 4) laidOut Try.underlying4 (by kernel_rfl) (by kernel_rfl) rfl rfl hW' bel⟩

/-- ████ THE STATEMENT ████ -/
theorem proved : Rows.ValueOneSaid :=
  OpenClaim.holds_of_wide 4 Try.f4 rfl rfl rfl rfl rfl rfl rfl ⟨rfl, rfl, rfl, rfl, rfl⟩ rfl rfl rfl rfl rfl (by kernel_rfl) Try.func4 (by kernel_rfl)
    (of_decide_eq_true (by kernel_rfl)) (by unfold Func.isWrapper; first | (rw [if_pos (by decide +kernel)]; kernel_rfl) | (rw [if_neg (by decide +kernel)]; exact ⟨rfl, rfl⟩))
    (fun os started H enc _ => lifted os started H enc)
#print axioms proved
end Go.Proofs.Ytgcpclbkjplipaa.valueOne
