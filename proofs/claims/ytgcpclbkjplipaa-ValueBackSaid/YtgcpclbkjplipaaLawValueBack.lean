/- ValueBack returns true for every input, and leaves its argument as it was. No condition. -/
import Derived.Test.YtgcpclbkjplipaaRows
import Derived.Test.YtgcpclbkjplipaaLawRaw
import Derived.Test.YtgcpclbkjplipaaValOf
import Derived.Test.YtgcpclbkjplipaaRdLaw
set_option linter.unusedVariables false
namespace Go.Proofs.Ytgcpclbkjplipaa
open Go.RowKit Go.Mem Go.Val

theorem valF_check (l : List Raw) : checkF 21 (valF l) = 0 := by
  have h1 := Good.fits 21 (valF l) 400 1 (valF_good l) (by have := valF_nodes l; omega) (by omega)
  have h2 := Good.form 21 (valF l) (valF_good l)
  unfold checkF
  rw [h1, h2]
  rfl

set_option maxRecDepth 100000 in
set_option maxHeartbeats 2000000 in
theorem valueBack_any (A : Option Addr) (n c : Nat) (l : List Raw) (rss : List (List Value)) (w : World) (hn : n = l.length) (hnc : n ≤ c) (hcm : c ≤ maxLen) (hr : Reads w Any 4 A n rss.flatten) (ha : All2 (RawCells w Any) rss l) :
    Calls Try.prog 9 #[.slice A n c] w fun e w' => e = .returned (.bool true) ∧ Below w.heap.size w w' := by
  have Hn := Lib.hid hn
  clear hn
  go_enter Try.func9, Try.ntmps9
  go_wp2_with (fail)
  refine (valueOf_any l A n c rss w Hn.out hnc hcm hr ha).mono ?_
  rintro e1 w1 ⟨A1, c1, rfl, hv1, hb1⟩
  have hlen1 := valF_len l
  have hck1 := valF_check l
  generalize hvl : valF l = X at hv1 hlen1 hck1 ⊢
  clear hvl hr ha Hn
  obtain ⟨xk, xn, xt, xa⟩ := X
  simp only [vagg, vcells, V.kind, V.num, V.text, V.args] at hv1 ⊢
  have hok := hv1.ok
  have Hck := Lib.hid hck1
  have Hrd := Lib.hid (readF_enc (by omega) (V.mk xk xn xt xa) hok hck1)
  have Hsm := Lib.hid ((sameF_iff 41 (V.mk xk xn xt xa) (V.mk xk xn xt xa) (le_up (by omega) _ hok).1 (le_up (by omega) _ hok).1).2 rfl)
  have hlen4 := encV_len1 21 _ hok
  clear hck1
  go_wp2_with (fail)
  obtain ⟨W, hW⟩ : ∃ W, W = w1.alloc (.cells #[.int .i64 xk, .int .i64 xn, .string xt, .slice A1 xa.length c1] 35) := ⟨_, rfl⟩
  have hbW : Blk W w1.heap.size 35 [.int .i64 xk, .int .i64 xn, .string xt, .slice A1 xa.length c1] := by rw [hW]; exact Blk.new w1 _ _
  have hwW : Below w.heap.size w W := by rw [hW]; exact hb1.alloc hb1.size _
  have hvW : VCells 21 W Any [.int .i64 xk, .int .i64 xn, .string xt, .slice A1 xa.length c1] (V.mk xk xn xt xa) := by rw [hW]; exact (hv1.imp fun _ _ _ => trivial).keep (Same.alloc _ _ _)
  rw [← hW]
  clear hW hv1 hb1
  refine (bytes_any 21 (V.mk xk xn xt xa) [.int .i64 xk, .int .i64 xn, .string xt, .slice A1 xa.length c1] W (by omega) hvW (by omega)).mono ?_
  rintro e3 w3 ⟨p1, p2, p3⟩
  obtain ⟨A3, c3, rfl, ho3⟩ := p1 Hck.out
  clear p1 p2
  obtain ⟨hc3, hm3, hr3⟩ := own_reads (by omega) ho3
  generalize hL1 : (encV 21 (V.mk xk xn xt xa)).length = L1 at hr3 hlen4 hlen1 hc3 ⊢
  have HL1 := Lib.hid hL1
  have hw3 := hwW.trans (p3.mono hwW.size)
  have hb3 := hbW.below p3 hbW.lt
  have hv3 := hvW.keep (Same.any (D := Any) p3)
  clear hL1 ho3 p3 hwW hbW hvW
  go_wp2_with (fail)
  refine (Read_any A3 L1 c3 (encV 21 (V.mk xk xn xt xa)) w3 HL1.out.symm hc3 hm3 (hr3.imp (by omega) fun _ _ _ => trivial) (by have := HL1.out; omega)).mono ?_
  rintro e2 w2 (⟨x, A2, c2, hx, rfl, hv2, hb2⟩ | ⟨hx, rfl, hb2⟩)
  · rw [Hrd.out] at hx
    injection hx with hx
    subst hx
    simp only [vagg, vcells, V.kind, V.num, V.text, V.args] at hv2 ⊢
    have hw2 := hw3.trans (hb2.mono hw3.size)
    have hb2' := hb3.below hb2 hb3.lt
    have hv2' := hv3.keep (Same.any (D := Any) hb2)
    clear hr3 Hrd hb3 hv3 hb2 hw3
    have k0 := hb2'.cell 0
    have k1 := hb2'.cell 1
    have k2 := hb2'.cell 2
    have k3 := hb2'.cell 3
    simp only [List.getElem?_cons_succ, List.getElem?_cons_zero] at k0 k1 k2 k3
    have l2 := hb2'.lt
    have hz1 : decide ((4:Int) ≤ (L1:Int)) = true := by simp; omega
    have SV := Lib.hid (same_any 41 (V.mk xk xn xt xa) (V.mk xk xn xt xa) [.int .i64 xk, .int .i64 xn, .string xt, .slice A1 xa.length c1] [.int .i64 xk, .int .i64 xn, .string xt, .slice A2 xa.length c2] (w2.alloc (.cells #[.int .i64 xk, .int .i64 xn, .string xt, .slice A2 xa.length c2] 35)) ((hv2'.le (by omega)).keep (Same.alloc _ _ _)) ((hv2.imp fun _ _ _ => trivial).keep (Same.alloc _ _ _)))
    clear hv2 hv2' hb2'
    go_wp2_with (fail)
    refine SV.out.mono ?_
    rintro e5 w5 ⟨rfl, hb5⟩
    rw [Hsm.out]
    go_wp2_with (fail)
    go_ret
    exact ⟨by simp, (hw2.alloc hw2.size _).trans (hb5.mono (by have := hw2.size; simp; omega))⟩
  · rw [Hrd.out] at hx
    cases hx
end Go.Proofs.Ytgcpclbkjplipaa
namespace Go.Proofs.Ytgcpclbkjplipaa.valueBack
open Go.ChangeShapes Go.WideShapes Go.ChangeAt Go.RowKit Go.Mem Go.Law

theorem own : ownKnob Try.prog.godebug = none := by kernel_rfl
theorem laidOut : laidOutB Try.prog = true := by kernel_rfl

set_option maxRecDepth 100000 in
theorem lifted (os : Os) (started : os.Started) (H : Type) (enc : TypeId × Value → H) :
    ReturnsInHanded {} Try.checked os 9 .any (Rows.valueBackSpec.pre6 enc Try.prog Try.f9 Rows.valueBackRow.domain false) (Rows.valueBackSpec.post enc Try.prog Try.f9 false true false false) := by
  refine returnsInHanded_of_change (C := Try.checked) own started (by kernel_rfl) Try.func9
    (ChangeSpec.witness6 (enc := enc) (C := Try.checked) false ⟨#[], #[.slice none 0 0], []⟩ 8 (by kernel_rfl) (by kernel_rfl) (by kernel_rfl) (by kernel_rfl)) ?_
  intro W base args ds gs before hval0 hW hcnd _
  have hval : ∀ (j : Nat) t v, Try.f9.params[j]? = some t → args[j]? = some v → Value.okWide Try.prog W .any base t v := hval0
  have hW' : DataW.Whole enc Try.prog Try.f9.params.toList Rows.valueBackSpec.vars false W args.toList ds gs before := hW
  obtain ⟨p, q, hA0, hV, rfl, hfz, hnd⟩ := hW
  have hA : DataW.TrodAll enc Try.prog W 0 (fun _ => true) true Try.f9.params.toList args.toList ds p := hA0
  rw [Try.params9] at hA hval
  obtain ⟨v0, vs0, d0, ds0, p0, q0, hargs, rfl, rfl, h0, r0⟩ := trodAll_cons hA
  obtain ⟨rfl, rfl, rfl⟩ := trodAll_nil r0
  obtain rfl : args = #[v0] := by cases args; simp_all
  obtain ⟨rfl, rfl⟩ := trodVars_none hV
  obtain ⟨A0, n0, c0, s0, l0, rfl, hn0, hc0, hd0, hr0, hl0⟩ := open_raws Try.underlying32 Try.underlying109 (by kernel_rfl) (by kernel_rfl) (by kernel_rfl) (by kernel_rfl) (by kernel_rfl) (by kernel_rfl) (by kernel_rfl) (hval 0 _ v0 rfl rfl) h0
  clear hA0 hval0
  refine (valueBack_any A0 n0 c0 l0 s0 W hn0 hc0 hd0 hr0 hl0).mono fun e W' ⟨he, bel⟩ => ?_
  subst he
  exact ⟨_, rfl, law_post (tb := 4) laidOut Try.underlying4 (by kernel_rfl) (by kernel_rfl) rfl rfl hW' bel⟩

/-- ████ THE STATEMENT ████ -/
theorem proved : Rows.ValueBackSaid :=
  OpenClaim.holds_of_wide 9 Try.f9 rfl rfl rfl rfl rfl rfl rfl ⟨rfl, rfl, rfl, rfl, rfl⟩ rfl rfl rfl rfl rfl (by kernel_rfl) Try.func9 (by kernel_rfl)
    (of_decide_eq_true (by kernel_rfl)) (by unfold Func.isWrapper; first | (rw [if_pos (by decide +kernel)]; kernel_rfl) | (rw [if_neg (by decide +kernel)]; exact ⟨rfl, rfl⟩))
    (fun os started H enc _ => lifted os started H enc)
#print axioms proved
end Go.Proofs.Ytgcpclbkjplipaa.valueBack
