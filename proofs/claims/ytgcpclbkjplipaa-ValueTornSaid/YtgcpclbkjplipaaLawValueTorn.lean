/- ValueTorn returns true for every input, and leaves its arguments as they were. No condition. -/
import Derived.Test.YtgcpclbkjplipaaRows
import Derived.Test.YtgcpclbkjplipaaLawRaw
import Derived.Test.YtgcpclbkjplipaaValOf
import Derived.Test.YtgcpclbkjplipaaRdLaw
import Derived.Laws.OwnMore
set_option linter.unusedVariables false
namespace Go.Proofs.Ytgcpclbkjplipaa
open Go.RowKit Go.Mem Go.Val Go.Law

theorem valF_check (l : List Raw) : checkF 21 (valF l) = 0 := by
  have h1 := Good.fits 21 (valF l) 400 1 (valF_good l) (by have := valF_nodes l; omega) (by omega)
  have h2 := Good.form 21 (valF l) (valF_good l)
  unfold checkF
  rw [h1, h2]
  rfl
/-- an owned row that is not empty lies at a block's beginning -/
theorem own_at {w : World} {base : Nat} {e : TypeId} {size n c : Nat} {A : Option Addr} {xs : List Value} (h : w.ownsRow base e size (.slice A n c) n xs) (hn : 0 < n) : ∃ g, A = some ⟨g, 0, none⟩ ∧ base ≤ g ∧ g < w.heap.size := by
  rcases h.2 with ⟨h', h0⟩ | ⟨g, cap, cur, h', hb, hg, _⟩
  · subst h0; omega
  · injection h' with h1
    exact ⟨g, h1, hb, (Array.getElem?_eq_some_iff.1 hg).1⟩
theorem xor_u8 (x y : Int) : ∃ z : UInt8, bits .xor .u8 x y = (z.toNat : Int) := by
  have h : 0 ≤ bits .xor .u8 x y ∧ bits .xor .u8 x y < 256 := by
    show 0 ≤ IntKind.u8.wrap _ ∧ IntKind.u8.wrap _ < 256
    rw [IntKind.wrap_u8]
    omega
  refine ⟨UInt8.ofNat (bits .xor .u8 x y).toNat, ?_⟩
  rw [ofNat_toNat (by omega)]
  omega
theorem u8s_set (bs : List UInt8) (k : Nat) (z : UInt8) : (u8s bs).set k (.int .u8 (z.toNat : Int)) = u8s (bs.set k z) := by
  simp [u8s, List.map_set]

set_option maxRecDepth 100000 in
set_option maxHeartbeats 4000000 in
theorem valueTorn_any (A : Option Addr) (n c : Nat) (l : List Raw) (rss : List (List Value)) (tn : Int) (tc : UInt8) (tat : Int) (tby : Int) (w : World) (hn : n = l.length) (hnc : n ≤ c) (hcm : c ≤ maxLen) (hr : Reads w Any 4 A n rss.flatten) (ha : All2 (RawCells w Any) rss l) (htn : I64 tn) (hta : I64 tat) :
    Calls Try.prog 8 #[.slice A n c, .int .i64 tn, .int .u8 (tc.toNat : Int), .int .i64 tat, .int .u8 tby] w fun e w' => e = .returned (.bool true) ∧ Below w.heap.size w w' := by
  have Hn := Lib.hid hn
  have Htn := Lib.hid htn
  have Hta := Lib.hid hta
  clear hn htn hta
  go_enter Try.func8, Try.ntmps8
  go_wp2_with (fail)
  refine (valueOf_any l A n c rss w Hn.out hnc hcm hr ha).mono ?_
  rintro e1 w1 ⟨A1, c1, rfl, hv1, hb1⟩
  have hlen1 := valF_len l
  have hck1 := valF_check l
  generalize hvl : valF l = X at hv1 hlen1 hck1 ⊢
  clear hvl hr ha Hn
  obtain ⟨xk, xn, xt, xa⟩ := X
  simp only [vagg, vcells, V.kind, V.num, V.text, V.args] at hv1 ⊢
  have hok := hv1.ok
  have Hck := Lib.hid hck1
  have hlen4 := encV_len1 21 _ hok
  have Hless := Lib.hid (readF_less (by omega) (V.mk xk xn xt xa) hok)
  have Hmore := Lib.hid (readF_more (by omega) (V.mk xk xn xt xa) hok)
  clear hck1 hok
  go_wp2_with (fail)
  refine (bytes_any 21 (V.mk xk xn xt xa) [.int .i64 xk, .int .i64 xn, .string xt, .slice A1 xa.length c1] w1 (by omega) (hv1.imp fun _ _ _ => trivial) (by omega)).mono ?_
  rintro e3 w3 ⟨p1, p2, p3⟩
  obtain ⟨A3, c3, rfl, ho3⟩ := p1 Hck.out
  clear p1 p2 Hck hv1
  obtain ⟨hc3, hm3, hr3⟩ := own_reads (by omega) ho3
  have hw3 := hb1.trans (p3.mono hb1.size)
  clear p3 hb1 ho3
  generalize hE : encV 21 (V.mk xk xn xt xa) = E at hr3 hlen4 hlen1 hc3 Hless Hmore ⊢
  clear hE
  generalize hL1 : E.length = L1 at hr3 hlen4 hlen1 hc3 ⊢
  have HL := Lib.hid hL1
  clear hL1
  have hr3' : Reads w3 Any 1 A3 L1 (u8s E) := hr3.imp (by omega) fun _ _ _ => trivial
  clear hr3
  have hz1 : decide ((L1 : Int) < 4) = false := by simp; omega
  have hz2 : decide (L1 < 4) = false := by simp; omega
  go_wp2_with (fail)
  obtain ⟨k, hk⟩ : ∃ k : Nat, restI tn (L1 : Int) = k := ⟨(restI tn L1).toNat, by have := restI_bd tn L1 (by omega); omega⟩
  have hkb : k < L1 := by have := restI_bd tn L1 (by omega); omega
  refine (rest_q tn L1 w3 k Htn.out (by omega) (by omega) hk).mono ?_
  rintro e4 w4 ⟨rfl, rfl⟩
  clear hk Htn
  obtain ⟨hs4, hr4⟩ := slice_h 23 5 Try.underlying23 size_u8 hr3' hc3 k (by omega) k rfl
  rw [Nat.mul_one, u8s_take] at hr4
  have R1 := Lib.hid (Read_any A3 k c3 (E.take k) w3 (by rw [List.length_take]; have := HL.out; omega) (by omega) hm3 hr4 (by rw [List.length_take]; omega))
  clear hr4
  go_wp2_with (fail)
  refine R1.out.mono ?_
  clear R1 hs4
  rintro e5 w5 (⟨x, A5, c5, hx, rfl, hv5, hb5⟩ | ⟨hx, rfl, hb5⟩)
  · exfalso
    rw [Hless.out k (by rw [HL.out]; exact hkb)] at hx
    cases hx
  clear hx Hless hkb
  have hw5 := hw3.trans (hb5.mono hw3.size)
  have hr5 := hr3'.keep (Same.any (D := Any) hb5)
  clear hb5 hw3 hr3'
  go_wp2_with (fail)
  have hW : Below w.heap.size w (w5.alloc (.cells #[.int .i64 0, .int .i64 0, .string ⟨#[]⟩, .slice none 0 0] 35)) := hw5.alloc hw5.size _
  have hrW := hr5.keep (Same.alloc Any w5 (.cells #[.int .i64 0, .int .i64 0, .string ⟨#[]⟩, .slice none 0 0] 35))
  generalize w5.alloc (.cells #[.int .i64 0, .int .i64 0, .string ⟨#[]⟩, .slice none 0 0] 35) = W at hW hrW ⊢
  clear hw5 hr5
  have hrL : Reads W (fun b => b < W.heap.size) 1 A3 L1 (u8s E) := hrW.imp (by omega) fun _ _ h => h
  have hsW := hW.size
  refine (clone_any A3 L1 c3 (u8s E) Any W hrW (u8s_one E) (by omega)).mono ?_
  rintro e6 w6 ⟨A6, c6, rfl, ho6, hb6⟩
  have hw6 := hW.trans (hb6.mono hW.size)
  have hr6 := hrL.keep (Same.any hb6)
  have hs6 := hb6.size
  have hlt6 := ho6.lt
  clear hW hrW hrL hb6
  go_wp2_with (at_builtin; refine app_u8 _ rfl (.tmp 47) (.tmp 49) rfl (ho6.alloc _) rfl (Reads.new (D := Any) _ [.int .u8 (tc.toNat : Int)] 1 1 _ trivial rfl) rfl (by simp [Value.oneCell']) (by omega) (by simp; omega) ?_; intro v7 w7 hown7 hg7 hat7)
  obtain ⟨A7, c7, rfl, hc7, hm7⟩ := own_form hown7
  obtain ⟨_, _, hr7⟩ := own_reads (by omega) hown7
  have hw7 : Below w.heap.size w w7 := (hw6.alloc hw6.size _).grown hg7 (by have := hw6.size; simp; omega) (fun i hi => by have := (hlt6 i hi).1; omega)
  have hr7' : Reads w7 (fun b => b < W.heap.size) 1 A3 L1 (u8s E) := (hr6.keep (Same.alloc _ _ _)).keep (Same.of_grown hg7 fun b hb _ e => by have := (hlt6 b e.symm).1; omega)
  have hs7 : W.heap.size ≤ w7.heap.size := by have := hg7.size; simp at this; omega
  have R2 := Lib.hid (Read_any A7 (L1 + 1) c7 (E ++ [tc]) w7 (by rw [List.length_append, HL.out]; rfl) hc7 hm7 ((hr7.imp (by omega) fun _ _ _ => trivial : Reads w7 Any 1 A7 (L1 + 1) (u8s E ++ [.int .u8 (tc.toNat : Int)])) |> fun h => by rw [u8s_append]; exact h) (by rw [List.length_append, HL.out]; simp; omega))
  clear hown7 hg7 hat7 hr7 hr6 hw6 ho6 hlt6 hs6
  go_wp2_with (fail)
  refine R2.out.mono ?_
  clear R2 hc7 hm7
  rintro e8 w8 (⟨x, A8, c8, hx, rfl, hv8, hb8⟩ | ⟨hx, rfl, hb8⟩)
  · exfalso
    rw [Hmore.out tc []] at hx
    cases hx
  clear hx Hmore
  have hw8 := hw7.trans (hb8.mono hw7.size)
  have hr8 := hr7'.keep (Same.any hb8)
  have hs8 := hb8.size
  clear hb8 hw7 hr7'
  go_wp2_with (fail)
  have hV : Below w.heap.size w (w8.alloc (.cells #[.int .i64 0, .int .i64 0, .string ⟨#[]⟩, .slice none 0 0] 35)) := hw8.alloc hw8.size _
  have hrV := hr8.keep (Same.alloc _ w8 (.cells #[.int .i64 0, .int .i64 0, .string ⟨#[]⟩, .slice none 0 0] 35))
  generalize w8.alloc (.cells #[.int .i64 0, .int .i64 0, .string ⟨#[]⟩, .slice none 0 0] 35) = W9 at hV hrV ⊢
  clear hw8 hr8 hs8 hs7
  refine (clone_any A3 L1 c3 (u8s E) _ W9 hrV (u8s_one E) (by omega)).mono ?_
  rintro e9 w9 ⟨A9, c9, rfl, ho9, hb9⟩
  have hw9 := hV.trans (hb9.mono hV.size)
  have hs9 := hV.size
  clear hrV hV hb9
  obtain ⟨g, rfl, hg9, hl9⟩ := own_at ho9 (by omega)
  obtain ⟨j, hj⟩ : ∃ k : Nat, restI tat (L1 : Int) = k := ⟨(restI tat L1).toNat, by have := restI_bd tat L1 (by omega); omega⟩
  have hjb : j < L1 := by have := restI_bd tat L1 (by omega); omega
  have hjE : j < E.length := by rw [HL.out]; exact hjb
  have cj := ho9.cellAt j (by omega)
  rw [u8s_at E j hjE] at cj
  have fj := ho9.frozenAt j
  obtain ⟨z, hz⟩ := xor_u8 ((E[j]'hjE).toNat : Int) tby
  have hst := ho9.stored j (.int .u8 (z.toNat : Int))
  rw [u8s_set] at hst
  obtain ⟨ho10, hg10⟩ := hst
  have hw10 : Below w.heap.size w (w9.setCell ⟨g, j, none⟩ (.int .u8 (z.toNat : Int))) := hw9.grown hg10 hw9.size (fun i hi => by injection hi with hi; omega)
  obtain ⟨hc10, hm10, hr10⟩ := own_reads (by omega) ho10
  have hx8 : ∀ y : Int, y = ((E[j]'hjE).toNat : Int) → bits .xor .u8 y tby = (z.toNat : Int) := fun y hy => by rw [hy]; exact hz
  have Hz := Lib.hid hz
  have Hj := Lib.hid hj
  have hEj := UInt8.toNat_lt (E[j]'hjE)
  generalize hEv : ((E[j]'hjE).toNat : Int) = ej at cj Hz hx8 hEj
  clear hEv hx8 hj hz
  obtain ⟨W10, hW10⟩ : ∃ W10, W10 = w9.setCell ⟨g, j, none⟩ (.int .u8 (z.toNat : Int)) := ⟨_, rfl⟩
  rw [← hW10] at hw10 hr10 ho10
  have HW10 := Lib.hid hW10
  clear hW10 ho9 hg10 hw9
  have hEl : (E.set j z).length = L1 := by rw [List.length_set]; exact HL.out
  generalize E.set j z = G at hr10 ho10 hEl
  have HG := Lib.hid hEl
  clear hEl
  go_wp2_with (fail)
  refine (rest_q tat L1 w9 j Hta.out (by omega) (by omega) Hj.out).mono ?_
  rintro e11 w11 ⟨rfl, rfl⟩
  go_wp2_with (fail)
  rw [Hz.out, ← HW10.out]
  refine (Read_any (some ⟨g, 0, none⟩) L1 c9 G W10 HG.out.symm hc10 hm10 (hr10.imp (by omega) fun _ _ _ => trivial) (by rw [HG.out]; omega)).mono ?_
  rintro e12 w12 (⟨x, A12, c12, hx, rfl, hv12, hb12⟩ | ⟨hx, rfl, hb12⟩)
  · obtain ⟨hok12, hck12, hen12⟩ := readF_some hx
    obtain ⟨vk, vn, vt, va⟩ := x
    simp only [vagg, vcells, V.kind, V.num, V.text, V.args] at hv12 ⊢
    have hw12 := hw10.trans (hb12.mono hw10.size)
    have hr12 := hr10.keep (Same.any (D := fun b => W9.heap.size ≤ b) hb12)
    have Hck := Lib.hid hck12
    have Hen := Lib.hid hen12
    have B12 := Lib.hid (bytes_any 41 (V.mk vk vn vt va) [.int .i64 vk, .int .i64 vn, .string vt, .slice A12 va.length c12] (w12.alloc (.cells #[.int .i64 vk, .int .i64 vn, .string vt, .slice A12 va.length c12] 35)) (by omega) ((hv12.imp fun _ _ _ => trivial).keep (Same.alloc _ _ _)) (by rw [hen12, HG.out]; omega))
    have hrV : Reads (w12.alloc (.cells #[.int .i64 vk, .int .i64 vn, .string vt, .slice A12 va.length c12] 35)) (fun b => W9.heap.size ≤ b) 1 (some ⟨g, 0, none⟩) L1 (u8s G) := hr12.keep (Same.alloc _ _ _)
    have hwV : Below w.heap.size w (w12.alloc (.cells #[.int .i64 vk, .int .i64 vn, .string vt, .slice A12 va.length c12] 35)) := hw12.alloc hw12.size _
    have HrV := Lib.hid hrV
    have HwV := Lib.hid hwV
    clear hx hok12 hck12 hen12 hv12 hw10 hb12 hr10 ho10 hw12 hr12 hrV hwV HW10 Hz Hj Hta cj fj
    go_wp2_with (fail)
    refine B12.out.mono ?_
    rintro e13 w13 ⟨p1, p2, p3⟩
    obtain ⟨A13, c13, rfl, ho13⟩ := p1 Hck.out
    clear p1 p2
    obtain ⟨hc13, hm13, hr13⟩ := own_reads (by omega) ho13
    have hw13 := HwV.out.trans (p3.mono HwV.out.size)
    have hrG := HrV.out.keep (Same.any p3)
    rw [Hen.out] at hr13 ⊢
    rw [HG.out] at hr13 ⊢
    clear ho13 hc13 p3 HwV HrV B12
    have CV1 : (convert 23 9 (.slice A13 L1 c13)).run Try.prog w13 = .ok (.string ⟨G.toArray⟩) w13 := run_convert_reads _ _ _ _ Try.underlying23 Try.underlying5 Try.underlying9 hr13
    have CV2 : (convert 23 9 (.slice (some ⟨g, 0, none⟩) L1 c9)).run Try.prog w13 = .ok (.string ⟨G.toArray⟩) w13 := run_convert_reads _ _ _ _ Try.underlying23 Try.underlying5 Try.underlying9 hrG
    generalize (⟨G.toArray⟩ : ByteArray) = S at CV1 CV2
    clear hr13 hrG
    go_wp2_with (fail)
    go_ret
    exact ⟨by simp, hw13⟩
  · have hw12 := hw10.trans (hb12.mono hw10.size)
    clear hx hb12 hw10 hr10 ho10 HW10 Hz Hj Hta cj fj
    go_wp2_with (fail)
    go_ret
    exact ⟨by simp, hw12.alloc hw12.size _⟩
end Go.Proofs.Ytgcpclbkjplipaa
namespace Go.Proofs.Ytgcpclbkjplipaa.valueTorn
open Go.ChangeShapes Go.WideShapes Go.ChangeAt Go.RowKit Go.Mem Go.Law

theorem own : ownKnob Try.prog.godebug = none := by kernel_rfl
theorem laidOut : laidOutB Try.prog = true := by kernel_rfl

set_option maxRecDepth 100000 in
theorem lifted (os : Os) (started : os.Started) (H : Type) (enc : TypeId × Value → H) :
    ReturnsInHanded {} Try.checked os 8 .any (Rows.valueTornSpec.pre6 enc Try.prog Try.f8 Rows.valueTornRow.domain false) (Rows.valueTornSpec.post enc Try.prog Try.f8 false true false false) := by
  refine returnsInHanded_of_change (C := Try.checked) own started (by kernel_rfl) Try.func8
    (ChangeSpec.witness6 (enc := enc) (C := Try.checked) false ⟨#[], #[.slice none 0 0, .int .i64 0, .int .u8 0, .int .i64 0, .int .u8 0], []⟩ 8 (by kernel_rfl) (by kernel_rfl) (by kernel_rfl) (by kernel_rfl)) ?_
  intro W base args ds gs before hval0 hW hcnd _
  have hval : ∀ (j : Nat) t v, Try.f8.params[j]? = some t → args[j]? = some v → Value.okWide Try.prog W .any base t v := hval0
  have hW' : DataW.Whole enc Try.prog Try.f8.params.toList Rows.valueTornSpec.vars false W args.toList ds gs before := hW
  obtain ⟨p, q, hA0, hV, rfl, hfz, hnd⟩ := hW
  have hA : DataW.TrodAll enc Try.prog W 0 (fun _ => true) true Try.f8.params.toList args.toList ds p := hA0
  rw [Try.params8] at hA hval
  obtain ⟨v0, vs0, d0, ds0, p0, q0, hargs, rfl, rfl, h0, r0⟩ := trodAll_cons hA
  obtain ⟨v1, vs1, d1, ds1, p1, q1, rfl, rfl, rfl, h1, r1⟩ := trodAll_cons r0
  obtain ⟨v2, vs2, d2, ds2, p2, q2, rfl, rfl, rfl, h2, r2⟩ := trodAll_cons r1
  obtain ⟨v3, vs3, d3, ds3, p3, q3, rfl, rfl, rfl, h3, r3⟩ := trodAll_cons r2
  obtain ⟨v4, vs4, d4, ds4, p4, q4, rfl, rfl, rfl, h4, r4⟩ := trodAll_cons r3
  obtain ⟨rfl, rfl, rfl⟩ := trodAll_nil r4
  obtain rfl : args = #[v0, v1, v2, v3, v4] := by cases args; simp_all
  obtain ⟨rfl, rfl⟩ := trodVars_none hV
  obtain ⟨A0, n0, c0, s0, l0, rfl, hn0, hc0, hd0, hr0, hl0⟩ := open_raws Try.underlying32 Try.underlying109 (by kernel_rfl) (by kernel_rfl) (by kernel_rfl) (by kernel_rfl) (by kernel_rfl) (by kernel_rfl) (by kernel_rfl) (hval 0 _ v0 rfl rfl) h0
  obtain ⟨a1, rfl, rfl, rfl, x1⟩ := open_int Try.underlying3 (hval 1 _ v1 rfl rfl) h1
  have w1 := i64_of_wf x1
  obtain ⟨b2, rfl, rfl, rfl, w2⟩ := open_int Try.underlying5 (hval 2 _ v2 rfl rfl) h2
  obtain ⟨a3, rfl, rfl, rfl, x3⟩ := open_int Try.underlying3 (hval 3 _ v3 rfl rfl) h3
  have w3 := i64_of_wf x3
  obtain ⟨b4, rfl, rfl, rfl, w4⟩ := open_int Try.underlying5 (hval 4 _ v4 rfl rfl) h4
  clear hA0 hval0
  rw [← b8_back w2] at hW' ⊢
  refine (valueTorn_any A0 n0 c0 l0 s0 a1 (b8 b2) a3 b4 W hn0 hc0 hd0 hr0 hl0 w1 w3).mono fun e W' ⟨he, bel⟩ => ?_
  subst he
  exact ⟨_, rfl, law_post (tb := 4) laidOut Try.underlying4 (by kernel_rfl) (by kernel_rfl) rfl rfl hW' bel⟩

/-- ████ THE STATEMENT ████ -/
theorem proved : Rows.ValueTornSaid :=
  OpenClaim.holds_of_wide 8 Try.f8 rfl rfl rfl rfl rfl rfl rfl ⟨rfl, rfl, rfl, rfl, rfl⟩ rfl rfl rfl rfl rfl (by kernel_rfl) Try.func8 (by kernel_rfl)
    (of_decide_eq_true (by kernel_rfl)) (by unfold Func.isWrapper; first | (rw [if_pos (by decide +kernel)]; kernel_rfl) | (rw [if_neg (by decide +kernel)]; exact ⟨rfl, rfl⟩))
    (fun os started H enc _ => lifted os started H enc)
#print axioms proved
end Go.Proofs.Ytgcpclbkjplipaa.valueTorn
