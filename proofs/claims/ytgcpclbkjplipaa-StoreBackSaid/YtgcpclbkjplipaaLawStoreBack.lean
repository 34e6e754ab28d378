/- StoreBack returns true for every input, and leaves its argument as it was. No condition. (Printed by lawstoreback.py.) -/
import Derived.Test.YtgcpclbkjplipaaRows
import Derived.Test.YtgcpclbkjplipaaPart4
import Derived.Test.YtgcpclbkjplipaaStoreNice
import Derived.Test.YtgcpclbkjplipaaStoreEq
import Derived.Test.YtgcpclbkjplipaaStoreRead
set_option linter.unusedVariables false
namespace Go.Proofs.Ytgcpclbkjplipaa
open Go.RowKit Go.Mem Go.Val Go.Chunk

set_option maxRecDepth 100000 in
set_option maxHeartbeats 4000000 in
theorem storeBack_any (n0 : Int) (A : Option Addr) (n c : Nat) (l : List Raw) (rss : List (List Value)) (k0 : Int) (w : World) (hi : I64 n0) (hn : n = l.length) (hnc : n ≤ c) (hcm : c ≤ maxLen) (hr : Reads w Any 4 A n rss.flatten) (ha : All2 (RawCells w Any) rss l) (hk : I64 k0) :
    Calls Try.prog 11 #[.int .i64 n0, .slice A n c, .int .i64 k0] w fun e w' => e = .returned (.bool true) ∧ Below w.heap.size w w' := by
  have Hn := Lib.hid hn
  clear hn
  go_enter Try.func11, Try.ntmps11
  go_wp2_with (fail)
  refine (snapOf_any n0 l A n c rss w hi Hn.out hnc hcm hr ha).mono ?_
  rintro e1 w1 ⟨cs1, rfl, hv1, hb1⟩
  have hg := snF_nice hv1
  obtain ⟨P1, p1, P2, p2, rfl⟩ := SnCells.out hv1
  generalize snF l n0 = s at hv1 hg ⊢
  clear hr ha Hn hnc hcm
  obtain ⟨w2, hw2⟩ : ∃ w2, w2 = w1.alloc (.cells #[.int .i64 s.time, .slice P1 s.parcels.length p1, .slice P2 s.ways.length p2] 85) := ⟨_, rfl⟩
  have bS : Blk w2 w1.heap.size 85 [.int .i64 s.time, .slice P1 s.parcels.length p1, .slice P2 s.ways.length p2] := by rw [hw2]; exact Blk.new w1 _ _
  have hb2 : Below w1.heap.size w1 w2 := by rw [hw2]; exact (Below.refl _ _).alloc (Nat.le_refl _) _
  have hw02 : Below w.heap.size w w2 := hb1.trans (hb2.mono hb1.size)
  have hv2 := (SnCells.stable 41).imp ((SnCells.stable 41).keep hv1 (Same.any hb2)) (D' := Any) fun _ _ _ => trivial
  have Hg := Lib.hid hg
  have lG : w1.heap.size < w2.heap.size := bS.lt
  obtain ⟨G, hG⟩ : ∃ G, G = w1.heap.size := ⟨_, rfl⟩
  go_wp2_with (fail)
  rw [← hw2, ← hG]
  rw [← hG] at bS lG
  clear hw2 hG hb1 hb2 hv1 hg
  have s0 := bS.cell 0
  have s1 := bS.cell 1
  have s2 := bS.cell 2
  simp only [List.getElem?_cons_succ, List.getElem?_cons_zero] at s0 s1 s2
  go_wp2_with (fail)
  refine (sbytes_any s _ w2 hv2 Hg.out).mono ?_
  rintro e2 w3 ⟨A3, c3, rfl, ho3, hb3⟩
  obtain ⟨hnc3, hcm3, hr3⟩ := own_reads (by omega) ho3
  have hr3' := hr3.imp (by omega) (D' := Any) fun _ _ _ => trivial
  have hw03 : Below w.heap.size w w3 := hw02.trans (hb3.mono hw02.size)
  have hv3 := (SnCells.stable 41).keep hv2 (Same.any hb3)
  have bS3 := bS.below hb3 bS.lt
  have hlen : 10 ≤ (snapE 41 s).length := by rw [snapE_len s Hg.out]; omega
  have hlen2 : (snapE 41 s).length ≤ 20000010 := snapE_max s Hg.out
  have htk : (snapE 41 s).take (snapE 41 s).length = snapE 41 s := List.take_of_length_le (Nat.le_refl _)
  obtain ⟨L, hL⟩ : ∃ L, L = (snapE 41 s).length := ⟨_, rfl⟩
  have RD := Lib.hid (fun (W : World) (hW : Below w3.heap.size w3 W) => sRead_any s L A3 L c3 W Hg.out (by rw [hL, htk]) (by omega) (by omega) hcm3 (by rw [hL, htk]; exact hr3'.keep (Same.any hW)))
  have hrk : ∀ q : Nat, q < L → Reads w3 Any 1 A3 q (u8s ((snapE 41 s).take q)) := fun q hq => by
    have := hr3'.first (m := q) (by omega)
    rw [Nat.mul_one, u8s_take] at this
    exact this
  have hq0 := restI_bd k0 (L : Int) (by omega)
  obtain ⟨q, hq⟩ : ∃ q : Nat, restI k0 (L : Int) = (q : Int) := ⟨(restI k0 L).toNat, by omega⟩
  rw [hq] at hq0
  have hqL : q < L := by omega
  obtain ⟨hsl, _⟩ := slice_h (P := Try.prog) (c := c3) _ _ Try.underlying23 (by kernel_rfl) hr3' hnc3 q (by omega) (q : Int) rfl
  rw [← hL] at hsl hnc3 hlen hlen2 ⊢
  have RT := Lib.hid (fun W => rest_q k0 (L : Int) W (q : Int) hk (by omega) (by omega) hq)
  have RD2 := Lib.hid (fun (W : World) (hW : Below w3.heap.size w3 W) => sRead_any s q A3 q c3 W Hg.out (by rw [List.length_take]; omega) (by omega) (by omega) hcm3 ((hrk q hqL).keep (Same.any hW)))
  have HL := Lib.hid hL
  have hd : decide ((L : Int) < 10) = false := by simp; omega
  have hd2 : ((L : Int) < 10) = False := by simp; omega
  clear hL htk hrk hr3 hr3' hq hq0 ho3 hb3 hv2 hw02 bS s0 s1 s2 lG
  have hw33 := Below.refl w3.heap.size w3
  go_wp2_with (fail)
  refine (RD.out w3 hw33).mono ?_
  rintro e4 w4 (⟨_, cs4, rfl, hv4, hb4⟩ | ⟨hlt, _, _⟩)
  · obtain ⟨T1, t1, T2, t2, rfl⟩ := SnCells.out hv4
    obtain ⟨w5, hw5⟩ : ∃ w5, w5 = w4.alloc (.cells #[.int .i64 s.time, .slice T1 s.parcels.length t1, .slice T2 s.ways.length t2] 85) := ⟨_, rfl⟩
    have bT : Blk w5 w4.heap.size 85 [.int .i64 s.time, .slice T1 s.parcels.length t1, .slice T2 s.ways.length t2] := by rw [hw5]; exact Blk.new w4 _ _
    have hb5 : Below w4.heap.size w4 w5 := by rw [hw5]; exact (Below.refl _ _).alloc (Nat.le_refl _) _
    have hv5 := (SnCells.stable 41).imp ((SnCells.stable 41).keep hv4 (Same.any hb5)) (D' := Any) fun _ _ _ => trivial
    have hb35 : Below w3.heap.size w3 w5 := hb4.trans (hb5.mono hb4.size)
    obtain ⟨U, hU⟩ : ∃ U, U = w4.heap.size := ⟨_, rfl⟩
    have lU : w4.heap.size < w5.heap.size := bT.lt
    go_wp2_with (go_at_call 17; refine (RT.out _).mono ?_; rintro e w' ⟨rfl, rfl⟩)
    rw [← hw5, ← hU]
    rw [← hU] at bT lU
    clear hw5 hU hv4 hb4 hb5
    go_wp2_with (fail)
    refine (RD2.out w5 hb35).mono ?_
    rintro e6 w6 (⟨hge, _⟩ | ⟨_, rfl, hb6⟩)
    · exact absurd hge (by have := HL.out; omega)
    · have hb36 : Below w3.heap.size w3 w6 := hb35.trans (hb6.mono hb35.size)
      have bT6 := bT.below hb6 bT.lt
      have bS6 := bS3.below hb36 bS3.lt
      have t0 := bT6.cell 0
      have t1' := bT6.cell 1
      have t2' := bT6.cell 2
      have s0 := bS6.cell 0
      have s1 := bS6.cell 1
      have s2 := bS6.cell 2
      simp only [List.getElem?_cons_succ, List.getElem?_cons_zero] at s0 s1 s2 t0 t1' t2'
      have lU6 := bT6.lt
      have lG6 := bS6.lt
      have hS6 := (SnCells.stable 41).keep hv3 (Same.any hb36)
      have hT6 := (SnCells.stable 41).keep hv5 (Same.any hb6)
      have hw06 : Below w.heap.size w w6 := hw03.trans (hb36.mono hw03.size)
      have SE := Lib.hid (fun (o : Obj) => sameSn_eq s _ _ (w6.alloc o) ((SnCells.stable 41).keep hS6 (Same.alloc _ _ _)) ((SnCells.stable 41).keep hT6 (Same.alloc _ _ _)))
      clear RD RD2 RT hS6 hT6 hb35 hb36 hb6 bT bS3 bT6 bS6 hv3 hv5 hw03
      go_wp2_with (fail)
      refine (SE.out _).mono ?_
      rintro e7 w7 ⟨rfl, hb7⟩
      have hw07 : Below w.heap.size w w7 := (hw06.alloc hw06.size _).trans (hb7.mono (by have := hw06.size; simp; omega))
      go_wp2_with (fail)
      go_ret
      exact ⟨by simp, hw07⟩
  · exact absurd hlt (by have := HL.out; omega)
end Go.Proofs.Ytgcpclbkjplipaa
namespace Go.Proofs.Ytgcpclbkjplipaa.storeBack
open Go.ChangeShapes Go.WideShapes Go.ChangeAt Go.RowKit Go.Mem Go.Law

theorem own : ownKnob Try.prog.godebug = none := by kernel_rfl
theorem laidOut : laidOutB Try.prog = true := by kernel_rfl

set_option maxRecDepth 100000 in
theorem lifted (os : Os) (started : os.Started) (H : Type) (enc : TypeId × Value → H) :
    ReturnsInHanded {} Try.checked os 11 .any (Rows.storeBackSpec.pre6 enc Try.prog Try.f11 Rows.storeBackRow.domain false) (Rows.storeBackSpec.post enc Try.prog Try.f11 false true false false) := by
  refine returnsInHanded_of_change (C := Try.checked) own started (by kernel_rfl) Try.func11
    (ChangeSpec.witness6 (enc := enc) (C := Try.checked) false ⟨#[], #[.int .i64 0, .slice none 0 0, .int .i64 0], []⟩ 8 (by kernel_rfl) (by kernel_rfl) (by kernel_rfl) (by kernel_rfl)) ?_
  intro W base args ds gs before hval0 hW hcnd _
  have hval : ∀ (j : Nat) t v, Try.f11.params[j]? = some t → args[j]? = some v → Value.okWide Try.prog W .any base t v := hval0
  have hW' : DataW.Whole enc Try.prog Try.f11.params.toList Rows.storeBackSpec.vars false W args.toList ds gs before := hW
  obtain ⟨p, q, hA0, hV, rfl, hfz, hnd⟩ := hW
  have hA : DataW.TrodAll enc Try.prog W 0 (fun _ => true) true Try.f11.params.toList args.toList ds p := hA0
  rw [Try.params11] at hA hval
  obtain ⟨v0, vs0, d0, ds0, p0, q0, hargs, rfl, rfl, h0, r0⟩ := trodAll_cons hA
  obtain ⟨v1, vs1, d1, ds1, p1, q1, rfl, rfl, rfl, h1, r1⟩ := trodAll_cons r0
  obtain ⟨v2, vs2, d2, ds2, p2, q2, rfl, rfl, rfl, h2, r2⟩ := trodAll_cons r1
  obtain ⟨rfl, rfl, rfl⟩ := trodAll_nil r2
  obtain rfl : args = #[v0, v1, v2] := by cases args; simp_all
  obtain ⟨rfl, rfl⟩ := trodVars_none hV
  obtain ⟨a0, rfl, rfl, rfl, x0⟩ := open_int Try.underlying3 (hval 0 _ v0 rfl rfl) h0
  have w0 := i64_of_wf x0
  obtain ⟨A1, n1, c1, s1, l1, rfl, hn1, hc1, hd1, hr1, hl1⟩ := open_raws Try.underlying32 Try.underlying109 (by kernel_rfl) (by kernel_rfl) (by kernel_rfl) (by kernel_rfl) (by kernel_rfl) (by kernel_rfl) (by kernel_rfl) (hval 1 _ v1 rfl rfl) h1
  obtain ⟨a2, rfl, rfl, rfl, x2⟩ := open_int Try.underlying3 (hval 2 _ v2 rfl rfl) h2
  have w2 := i64_of_wf x2
  clear hA0 hval0
  refine (storeBack_any a0 A1 n1 c1 l1 s1 a2 W w0 hn1 hc1 hd1 hr1 hl1 w2).mono fun e W' ⟨he, bel⟩ => ?_
  subst he
  exact ⟨_, rfl, law_post (tb := 4) laidOut Try.underlying4 (by kernel_rfl) (by kernel_rfl) rfl rfl hW' bel⟩

/-- ████ THE STATEMENT ████ -/
theorem proved : Rows.StoreBackSaid :=
  OpenClaim.holds_of_wide 11 Try.f11 rfl rfl rfl rfl rfl rfl rfl ⟨rfl, rfl, rfl, rfl, rfl⟩ rfl rfl rfl rfl rfl (by kernel_rfl) Try.func11 (by kernel_rfl)
    (of_decide_eq_true (by kernel_rfl)) (by unfold Func.isWrapper; first | (rw [if_pos (by decide +kernel)]; kernel_rfl) | (rw [if_neg (by decide +kernel)]; exact ⟨rfl, rfl⟩))
    (fun os started H enc _ => lifted os started H enc)
#print axioms proved
end Go.Proofs.Ytgcpclbkjplipaa.storeBack

