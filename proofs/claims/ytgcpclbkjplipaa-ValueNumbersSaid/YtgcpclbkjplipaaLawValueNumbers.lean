/- ValueNumbers returns true for every input. No condition. -/
import Derived.Test.YtgcpclbkjplipaaRows
import Derived.Test.YtgcpclbkjplipaaLaw
import Derived.Test.YtgcpclbkjplipaaRdLaw
set_option linter.unusedVariables false
namespace Go.Val
def numV (n : Int) : V := .mk 2 n ⟨#[]⟩ []
theorem numV_ok (n : Int) (h : Fits64 n) : okV 1 (numV n) := ⟨⟨by omega, by omega⟩, h, by decide, by decide, fun x hx => by simp at hx⟩
theorem numV_enc (n : Int) : encV 1 (numV n) = 2 :: (intE n ++ [0, 0]) := by
  simp only [numV, encV]
  rfl
theorem numV_len (n : Int) : (encV 1 (numV n)).length = 3 + (intE n).length := by
  rw [numV_enc]
  simp
  omega
theorem small_len (n : Int) (h : -64 ≤ n ∧ n < 64) : (intE n).length = 1 := by
  unfold intE natE natG
  have : zz n < 128 := by unfold zz; split <;> omega
  rw [if_pos this]
  rfl
end Go.Val
namespace Go.Proofs.Ytgcpclbkjplipaa
open Go.RowKit Go.Mem Go.Val
theorem numV_check (n : Int) (h : Fits64 n) : checkF 1 (numV n) = 0 := by
  unfold checkF
  have h1 : fitsF 1 (numV n) 400 1 = (true, 399) := by
    unfold numV fitsF
    rw [if_neg (by simp; decide)]
    rfl
  have h2 : formF 1 (numV n) = true := by
    unfold numV formF
    simp [headOk, ByteArray.toList_eq]
  rw [h1, h2]
  rfl
theorem numV_cells (n : Int) (h : Fits64 n) (w : World) : VCells 1 w Any [.int .i64 2, .int .i64 n, .string ⟨#[]⟩, .slice none 0 0] (numV n) :=
  ⟨none, 0, [], rfl, ⟨by omega, by omega⟩, h, by decide, by decide, Nat.le_refl _, Nat.zero_le _, Reads.empty, All2.nil⟩

set_option maxRecDepth 100000 in
set_option maxHeartbeats 1000000 in
theorem valueNumbers_any (n small : Int) (w : World) (hn : Fits64 n) (hs : Fits64 small) :
    Calls Try.prog 7 #[.int .i64 n, .int .i64 small] w fun e w' => e = .returned (.bool true) ∧ Below w.heap.size w w' := by
  have hl1 := numV_len n
  have hl2 := natE_len (zz n)
  have hl3 : (encV 1 (numV n)).length ≤ 13 := by rw [hl1]; unfold intE; omega
  have B1 := Lib.hid (bytes_any 1 (numV n) [.int .i64 2, .int .i64 n, .string ⟨#[]⟩, .slice none 0 0] w (by omega) (numV_cells n hn w) (by omega))
  have Hck := Lib.hid (numV_check n hn)
  have Hrd := Lib.hid (readF_enc (by omega) (numV n) (numV_ok n hn) (numV_check n hn))
  have Hn := Lib.hid hn
  have Hs := Lib.hid hs
  obtain ⟨q, hq⟩ : ∃ q, restI small 128 = q := ⟨_, rfl⟩
  have hqb := restI_bd small 128 (by omega)
  rw [hq] at hqb
  obtain ⟨hq1, hq2⟩ := hqb
  have Hq := Lib.hid hq
  have hsm : Fits64 (q - 64) := ⟨by omega, by omega⟩
  have Hl4 := Lib.hid ((numV_len (q - 64)).trans (by rw [small_len (q - 64) ⟨by omega, by omega⟩]))
  have Hck2 := Lib.hid (numV_check (q - 64) hsm)
  have B2 := Lib.hid (fun w => bytes_any 1 (numV (q - 64)) [.int .i64 2, .int .i64 (q - 64), .string ⟨#[]⟩, .slice none 0 0] w (by omega) (numV_cells (q - 64) hsm w) (by rw [Hl4.out]; omega))
  clear hl1 hl2 hn hs hq hsm
  go_enter Try.func7, Try.ntmps7
  go_wp2_with (fail)
  refine B1.out.mono ?_
  rintro e1 w1 ⟨p1, p2, p3⟩
  obtain ⟨A1, c1, rfl, ho1⟩ := p1 Hck.out
  clear p1 p2
  obtain ⟨hc1, hm1, hr1⟩ := own_reads (by omega) ho1
  generalize hL1 : (encV 1 (numV n)).length = L1 at hr1 hl3 hc1 ⊢
  have HL1 := Lib.hid hL1
  clear hL1 ho1 B1
  go_wp2_with (fail)
  refine (Read_any A1 L1 c1 (encV 1 (numV n)) w1 HL1.out.symm hc1 hm1 (hr1.imp (by omega) fun _ _ _ => trivial) (by have := HL1.out; omega)).mono ?_
  rintro e2 w2 (⟨x, A2, c2, hx, rfl, hv2, hb2⟩ | ⟨hx, rfl, hb2⟩)
  · rw [Hrd.out] at hx
    injection hx with hx
    subst hx
    simp only [vagg, vcells, numV, V.kind, V.num, V.text, V.args, List.length_nil] at hv2 ⊢
    have hw2 : Below w.heap.size w w2 := p3.trans (hb2.mono p3.size)
    clear hv2 hb2 hr1 Hrd
    go_wp2_with (fail)
    obtain ⟨W, hW⟩ : ∃ W, W = w2.alloc (.cells #[.int .i64 2, .int .i64 n, .string ⟨#[]⟩, .slice A2 0 c2] 35) := ⟨_, rfl⟩
    have hbW : Blk W w2.heap.size 35 [.int .i64 2, .int .i64 n, .string ⟨#[]⟩, .slice A2 0 c2] := by rw [hW]; exact Blk.new w2 _ _
    have hwW : Below w.heap.size w W := by rw [hW]; exact hw2.alloc hw2.size _
    rw [← hW]
    clear hW
    refine (rest_q small 128 W q Hs.out (by omega) (by omega) Hq.out).mono ?_
    rintro e3 w3 ⟨rfl, rfl⟩
    go_wp2_with (fail)
    refine (B2.out W).mono ?_
    rintro e4 w4 ⟨q1, q2, q3⟩
    obtain ⟨A4, c4, rfl, ho4⟩ := q1 Hck2.out
    clear q1 q2 ho4
    rw [Hl4.out]
    have hb4 := hbW.below q3 hbW.lt
    have k0 := hb4.cell 0
    have k1 := hb4.cell 1
    simp only [List.getElem?_cons_succ, List.getElem?_cons_zero] at k0 k1
    have hw4 := hwW.trans (q3.mono hwW.size)
    clear hb4 hbW q3 hwW hw2 p3
    go_wp2_with (fail)
    go_ret
    exact ⟨by simp, hw4⟩
  · rw [Hrd.out] at hx
    cases hx
end Go.Proofs.Ytgcpclbkjplipaa
namespace Go.Proofs.Ytgcpclbkjplipaa.valueNumbers
open Go.ChangeShapes Go.WideShapes Go.ChangeAt Go.RowKit Go.Mem Go.Law

theorem own : ownKnob Try.prog.godebug = none := by kernel_rfl
theorem laidOut : laidOutB Try.prog = true := by kernel_rfl

set_option maxRecDepth 100000 in
theorem lifted (os : Os) (started : os.Started) (H : Type) (enc : TypeId × Value → H) :
    ReturnsInHanded {} Try.checked os 7 .any (Rows.valueNumbersSpec.pre6 enc Try.prog Try.f7 Rows.valueNumbersRow.domain false) (Rows.valueNumbersSpec.post enc Try.prog Try.f7 false true false false) := by
  refine returnsInHanded_of_change (C := Try.checked) own started (by kernel_rfl) Try.func7
    (ChangeSpec.witness6 (enc := enc) (C := Try.checked) false ⟨#[], #[.int .i64 0, .int .i64 0], []⟩ 8 (by kernel_rfl) (by kernel_rfl) (by kernel_rfl) (by kernel_rfl)) ?_
  intro W base args ds gs before hval0 hW hcnd _
  have hval : ∀ (j : Nat) t v, Try.f7.params[j]? = some t → args[j]? = some v → Value.okWide Try.prog W .any base t v := hval0
  have hW' : DataW.Whole enc Try.prog Try.f7.params.toList Rows.valueNumbersSpec.vars false W args.toList ds gs before := hW
  obtain ⟨p, q, hA0, hV, rfl, hfz, hnd⟩ := hW
  have hA : DataW.TrodAll enc Try.prog W 0 (fun _ => true) true Try.f7.params.toList args.toList ds p := hA0
  rw [Try.params7] at hA hval
  obtain ⟨v0, vs0, d0, ds0, p0, q0, hargs, rfl, rfl, h0, r0⟩ := trodAll_cons hA
  obtain ⟨v1, vs1, d1, ds1, p1, q1, rfl, rfl, rfl, h1, r1⟩ := trodAll_cons r0
  obtain ⟨rfl, rfl, rfl⟩ := trodAll_nil r1
  obtain rfl : args = #[v0, v1] := by cases args; simp_all
  obtain ⟨rfl, rfl⟩ := trodVars_none hV
  obtain ⟨a0, rfl, rfl, rfl, x0⟩ := open_int Try.underlying3 (hval 0 _ v0 rfl rfl) h0
  have w0 := i64_of_wf x0
  obtain ⟨a1, rfl, rfl, rfl, x1⟩ := open_int Try.underlying3 (hval 1 _ v1 rfl rfl) h1
  have w1 := i64_of_wf x1
  clear hA0 hval0
  refine (valueNumbers_any a0 a1 W w0 w1).mono fun e W' ⟨he, bel⟩ => ?_
  subst he
  exact ⟨_, rfl, law_post (tb := 4) laidOut Try.underlying4 (by kernel_rfl) (by kernel_rfl) rfl rfl hW' bel⟩

/-- ████ THE STATEMENT ████ -/
theorem proved : Rows.ValueNumbersSaid :=
  OpenClaim.holds_of_wide 7 Try.f7 rfl rfl rfl rfl rfl rfl rfl ⟨rfl, rfl, rfl, rfl, rfl⟩ rfl rfl rfl rfl rfl (by kernel_rfl) Try.func7 (by kernel_rfl)
    (of_decide_eq_true (by kernel_rfl)) (by unfold Func.isWrapper; first | (rw [if_pos (by decide +kernel)]; kernel_rfl) | (rw [if_neg (by decide +kernel)]; exact ⟨rfl, rfl⟩))
    (fun os started H enc _ => lifted os started H enc)
#print axioms proved
end Go.Proofs.Ytgcpclbkjplipaa.valueNumbers
