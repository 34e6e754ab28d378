/- ChunkJoins returns true for every input, and leaves its argument as it was. No condition. -/
import Derived.Test.YtgcpclbkjplipaaRows
import Derived.Test.YtgcpclbkjplipaaLaw
import Derived.Test.YtgcpclbkjplipaaCut
import Derived.Test.YtgcpclbkjplipaaShelfContains
import Derived.Lib.SlBytesConst
set_option linter.unusedVariables false
namespace Go.Proofs.Ytgcpclbkjplipaa
open Go.RowKit Go.Mem Go.Chunk

theorem reads_new_fr (w : World) (cs : List Value) (size n : Nat) (e : TypeId) (fr : Nat × Nat) (D : Nat → Prop) (hD : D w.heap.size) (hl : cs.length = n * size) : Reads (w.alloc (.cells cs.toArray e fr)) D size (some ⟨w.heap.size, 0, none⟩) n cs :=
  ⟨hl, fun _ => ⟨w.heap.size, 0, rfl, hD, fun j u hu => by
    have hh : (w.alloc (.cells cs.toArray e fr)).heap[w.heap.size]? = some (.cells cs.toArray e fr) := heap_alloc_new w _
    rw [cell_of_row _ w.heap.size (0 + j) cs.toArray e fr hh]
    simpa using hu⟩⟩
theorem cut_three : cutF 3 [97, 10, 98] = [[97, 10], [98]] := by decide
theorem flat_next (P : List (List UInt8)) (k : Nat) (h : k < P.length) : (⟨((P.take (k + 1)).flatten).toArray⟩ : ByteArray) = ⟨((P.take k).flatten).toArray⟩ ++ ⟨(P[k]).toArray⟩ := by
  have e : (P.take (k + 1)).flatten = (P.take k).flatten ++ P[k] := by
    rw [List.take_succ_eq_append_getElem h, List.flatten_append]
    simp
  rw [e]
  apply ByteArray.ext
  simp

set_option maxRecDepth 100000 in
set_option maxHeartbeats 2000000 in
theorem chunkJoins_any (A : Option Addr) (n c : Nat) (bs : List UInt8) (w : World) (hnc : n ≤ c) (hcm : c ≤ maxLen) (hr : Reads w Any 1 A n (u8s bs)) :
    Calls Try.prog 6 #[.slice A n c] w fun e w' => e = .returned (.bool true) ∧ Below w.heap.size w w' := by
  have hnl : n = bs.length := by have := hr.len; rwa [u8s_length] at this
  have Hnl := Lib.hid hnl
  clear hnl
  have kc := fun (w : World) (C : Array Value) (n c : Nat) => Lib.run_convert_bytes_const (P := Try.prog) w 23 5 C n c Try.underlying23 Try.underlying5
  go_enter Try.func6, Try.ntmps6
  go_wp2_with (fail)
  refine (cut_any A n c (u8s bs) Any w 300 hr (u8s_one bs) hnc hcm (by omega)).mono ?_
  rintro e1 w1 ⟨A1, c1, rfl, ho1, hb1⟩
  rw [u8s_take] at ho1
  obtain ⟨hc1, hm1, hr1⟩ := own_reads (by omega) ho1
  generalize hB : bs.take 300 = B at hr1
  have hBl : min n 300 = B.length := by rw [← hB, List.length_take]; have := Hnl.out; omega
  rw [hBl] at hr1 hc1 ⊢
  have hL : B.length ≤ 300 := by omega
  clear ho1 hB hr Hnl hBl
  have hfl := cutF_flat B.length B (Nat.le_refl _)
  have hok := cutF_ok B.length B (Nat.le_refl _)
  have hPl := cutF_len B.length B
  go_wp2_with (fail)
  refine (cutc_any A1 B.length c1 B _ w1 hr1 hc1 hm1 (by omega)).mono ?_
  rintro e2 w2 ⟨A2, c2, rfl, ho2, hb2⟩
  generalize cutF B.length B = P at ho2 hfl hok hPl ⊢
  have Hfl := Lib.hid hfl
  have Hok := Lib.hid hok
  clear hfl hok
  have hw2 := hb1.trans (hb2.mono hb1.size)
  have hr2 := hr1.keep (Same.any hb2)
  clear hr1 hb1 hb2
  go_wp2_with (fail)
  have hb3 : Below w2.heap.size w2 (w2.alloc (.cells #[.int .u8 97, .int .u8 10, .int .u8 98] 5 (3, 4))) := (Below.refl _ _).alloc (Nat.le_refl _) _
  refine (cutc_any (some ⟨w2.heap.size, 0, none⟩) 3 3 [97, 10, 98] Any _ (by exact reads_new_fr w2 (u8s [97, 10, 98]) 1 3 _ (3, 4) Any trivial rfl) (by omega) (by decide) (by omega)).mono ?_
  rw [cut_three]
  rintro e4 w4 ⟨A4, c4, rfl, ho4, hb4⟩
  have hb4' : Below w2.heap.size w2 w4 := hb3.trans (hb4.mono hb3.size)
  have hw4 := hw2.trans (hb4'.mono hw2.size)
  have hr4 := hr2.keep (Same.any hb4')
  obtain ⟨vss, hvl, hvc, hvm, hvr, hva⟩ := (ho2.keep BytesCell.stable (Same.of_below hb4' fun _ _ h => h)).reads BytesCell.stable (by omega)
  obtain ⟨uss, hul, huc, hum, hur, hua⟩ := ho4.reads BytesCell.stable (by omega)
  obtain ⟨b0, o0, cs0, rfl, _, ⟨_, rfl, Ax, nx, cx, rfl, hnx, hcx, hrx⟩, hcellx⟩ := hur.elem BytesCell.stable hua hul (k := 0) (by simp)
  have g0 : w4.cell? ⟨b0, o0, none⟩ = some (.slice Ax nx cx) := by simpa using hcellx 0 _ rfl
  have CV0 : (convert 23 9 (.slice Ax nx cx)).run Try.prog w4 = .ok (.string ⟨#[97, 10]⟩) w4 := by
    have := run_convert_reads (P := Try.prog) w4 _ _ _ Try.underlying23 Try.underlying5 Try.underlying9 hrx (c := cx)
    simpa using this
  have CVB : (convert 23 9 (.slice A1 B.length c1)).run Try.prog w4 = .ok (.string ⟨B.toArray⟩) w4 := run_convert_reads _ _ _ _ Try.underlying23 Try.underlying5 Try.underlying9 hr4
  have HCVB := Lib.hid CVB
  clear hcellx hrx hur hua ho4 ho2 hr2 hr4 hb4 hb4' hb3 hw2 hul hum CVB
  go_wp2_with (fail)
  go_loop [5, 27] (fun v5 v27 => ∃ k : Nat, k ≤ P.length ∧ v27 = .int .i64 k ∧ v5 = .string ⟨((P.take k).flatten).toArray⟩) (fun _ v27 => P.length - (intOf v27).toNat)
  case atStart => exact ⟨0, Nat.zero_le _, rfl, rfl⟩
  case round =>
    obtain ⟨k, hk, rfl, rfl⟩ := hrel
    by_cases hlt : k < P.length
    · obtain ⟨bp, op, csp, rfl, _, ⟨_, rfl, Ap, np, cp, rfl, hnp, hcp, hrp⟩, hcellp⟩ := hvr.elem BytesCell.stable hva rfl hlt
      have gp : w4.cell? ⟨bp, op + k, none⟩ = some (.slice Ap np cp) := by simpa using hcellp 0 _ rfl
      obtain ⟨hp1, hp2, hp3, hp4⟩ := Hok.out k P[k] (List.getElem?_eq_getElem hlt)
      have hnp2 : np = P[k].length := by have := hrp.len; rwa [u8s_length] at this
      rw [← hnp2] at hp1 hp2 hp3 hp4
      obtain ⟨bq, oq, uq, rfl, _, huq, hcq⟩ := hrp.at_ (k := np - 1) (by omega)
      have hpl : np - 1 < P[k].length := by omega
      rw [u8s_at P[k] (np - 1) hpl] at huq
      injection huq with huq
      subst huq
      have CVp : (convert 23 9 (.slice (some ⟨bq, oq, none⟩) np cp)).run Try.prog w4 = .ok (.string ⟨P[k].toArray⟩) w4 := run_convert_reads _ _ _ _ Try.underlying23 Try.underlying5 Try.underlying9 hrp
      obtain ⟨hs1, hrs⟩ := slice_h 23 5 Try.underlying23 size_u8 hrp hnp (np - 1) (by omega) ((np : Int) - 1) (by omega)
      rw [Nat.mul_one, u8s_take] at hrs
      have CVs : (convert 23 9 (.slice (some ⟨bq, oq, none⟩) (np - 1) cp)).run Try.prog w4 = .ok (.string ⟨(P[k].take (np - 1)).toArray⟩) w4 := run_convert_reads _ _ _ _ Try.underlying23 Try.underlying5 Try.underlying9 hrs
      have hno : Lib.indexByte (P[k].take (np - 1)) 10 = -1 := indexByte_none _ _ fun i => by
        rw [List.getElem?_take]
        split
        · exact hp4 i (by omega)
        · simp
      have CT := contains_one ⟨(P[k].take (np - 1)).toArray⟩ 10 w4
      simp only [hno] at CT
      rw [show decide ((0 : Int) ≤ -1) = false from rfl] at CT
      have HCT := Lib.hid CT
      have Hnext := Lib.hid (flat_next P k hlt)
      have hlast : k + 1 < P.length → np < 32 → ((P[k][np - 1].toNat : Int) != 10) = false := fun h1 h2 => by
        have h3 := hp3 (by simp; omega) h2
        rw [List.getElem?_eq_getElem hpl] at h3
        injection h3 with h3
        rw [h3]
        rfl
      generalize (⟨(P[k].take (np - 1)).toArray⟩ : ByteArray) = S at CVs HCT
      have hXs : (⟨((P.take k).flatten).toArray⟩ : ByteArray).size ≤ 300 := by
        have h1 : ((P.take k).flatten).length ≤ P.flatten.length := by
          have h2 : P.flatten = (P.take k).flatten ++ (P.drop k).flatten := by rw [← List.flatten_append, List.take_append_drop]
          rw [h2, List.length_append]
          omega
        rw [Hfl.out] at h1
        show ((P.take k).flatten).toArray.size ≤ 300
        simp only [List.size_toArray]
        omega
      have hQs : (⟨P[k].toArray⟩ : ByteArray).size ≤ 32 := by
        show P[k].toArray.size ≤ 32
        simp only [List.size_toArray]
        omega
      generalize (⟨P[k].toArray⟩ : ByteArray) = Q at CVp Hnext hQs
      generalize (⟨((P.take k).flatten).toArray⟩ : ByteArray) = X at Hnext hXs ⊢
      have hq256 := UInt8.toNat_lt P[k][np - 1]
      generalize P[k][np - 1].toNat = q at hcq hlast hq256
      have cq : w4.cell? ⟨bq, oq + (np - 1), none⟩ = some (.int .u8 (q : Int)) := hcq
      clear CT hno hp3 hp4 hnp2 hrp hrs hcellp hcq hvr hva
      by_cases hl1 : k + 1 < P.length
      · have hd1 : decide ((k : Int) < (P.length : Int) - 1) = true := by simp; omega
        by_cases hl2 : np < 32
        · have hq := hlast hl1 hl2
          have hd2 : decide ((np : Int) < 32) = true := by simp; omega
          clear hlast
          go_wp2_with (fail)
          refine HCT.out.mono ?_
          rintro e5 w5 ⟨rfl, rfl⟩
          go_wp2_with (fail)
          go_round
          case rel => exact ⟨k + 1, by omega, by go_num, by rw [Hnext.out]⟩
          case measure => simp [intOf]; omega
        · have hd2 : decide ((np : Int) < 32) = false := by simp; omega
          clear hlast
          go_wp2_with (fail)
          refine HCT.out.mono ?_
          rintro e5 w5 ⟨rfl, rfl⟩
          go_wp2_with (fail)
          go_round
          case rel => exact ⟨k + 1, by omega, by go_num, by rw [Hnext.out]⟩
          case measure => simp [intOf]; omega
      · have hd1 : decide ((k : Int) < (P.length : Int) - 1) = false := by simp; omega
        clear hlast
        go_wp2_with (fail)
        refine HCT.out.mono ?_
        rintro e5 w5 ⟨rfl, rfl⟩
        go_wp2_with (fail)
        go_round
        case rel => exact ⟨k + 1, by omega, by go_num, by rw [Hnext.out]⟩
        case measure => simp [intOf]; omega
    · obtain rfl : k = P.length := by omega
      have hcv := HCVB.out
      have hfin : (⟨((P.take P.length).flatten).toArray⟩ : ByteArray) = ⟨B.toArray⟩ := by rw [List.take_length, Hfl.out]
      rw [hfin]
      generalize (⟨B.toArray⟩ : ByteArray) = Q at hcv
      clear hfin hvr hva
      go_wp2_with (fail)
      go_ret
      exact ⟨by simp, hw4⟩
end Go.Proofs.Ytgcpclbkjplipaa
namespace Go.Proofs.Ytgcpclbkjplipaa.chunkJoins
open Go.ChangeShapes Go.WideShapes Go.ChangeAt Go.RowKit Go.Mem Go.Law

theorem own : ownKnob Try.prog.godebug = none := by kernel_rfl
theorem laidOut : laidOutB Try.prog = true := by kernel_rfl

set_option maxRecDepth 100000 in
theorem lifted (os : Os) (started : os.Started) (H : Type) (enc : TypeId × Value → H) :
    ReturnsInHanded {} Try.checked os 6 .any (Rows.chunkJoinsSpec.pre6 enc Try.prog Try.f6 Rows.chunkJoinsRow.domain false) (Rows.chunkJoinsSpec.post enc Try.prog Try.f6 false true false false) := by
  refine returnsInHanded_of_change (C := Try.checked) own started (by kernel_rfl) Try.func6
    (ChangeSpec.witness6 (enc := enc) (C := Try.checked) false ⟨#[], #[.slice none 0 0], []⟩ 8 (by kernel_rfl) (by kernel_rfl) (by kernel_rfl) (by kernel_rfl)) ?_
  intro W base args ds gs before hval0 hW hcnd _
  have hval : ∀ (j : Nat) t v, Try.f6.params[j]? = some t → args[j]? = some v → Value.okWide Try.prog W .any base t v := hval0
  have hW' : DataW.Whole enc Try.prog Try.f6.params.toList Rows.chunkJoinsSpec.vars false W args.toList ds gs before := hW
  obtain ⟨p, q, hA0, hV, rfl, hfz, hnd⟩ := hW
  have hA : DataW.TrodAll enc Try.prog W 0 (fun _ => true) true Try.f6.params.toList args.toList ds p := hA0
  rw [Try.params6] at hA hval
  obtain ⟨v0, vs0, d0, ds0, p0, q0, hargs, rfl, rfl, h0, r0⟩ := trodAll_cons hA
  obtain ⟨rfl, rfl, rfl⟩ := trodAll_nil r0
  obtain rfl : args = #[v0] := by cases args; simp_all
  obtain ⟨rfl, rfl⟩ := trodVars_none hV
  obtain ⟨A0, n0, c0, s0, rfl, hc0, hd0, hr0⟩ := open_bytes Try.underlying23 Try.underlying5 (by kernel_rfl) (hval 0 _ v0 rfl rfl) h0
  clear hA0 hval0
  refine (chunkJoins_any A0 n0 c0 s0 W hc0 hd0 hr0).mono fun e W' ⟨he, bel⟩ => ?_
  subst he
  exact ⟨_, rfl, law_post (tb := 4) laidOut Try.underlying4 (by kernel_rfl) (by kernel_rfl) rfl rfl hW' bel⟩

/-- ████ THE STATEMENT ████ -/
theorem proved : Rows.ChunkJoinsSaid :=
  OpenClaim.holds_of_wide 6 Try.f6 rfl rfl rfl rfl rfl rfl rfl ⟨rfl, rfl, rfl, rfl, rfl⟩ rfl rfl rfl rfl rfl (by kernel_rfl) Try.func6 (by kernel_rfl)
    (of_decide_eq_true (by kernel_rfl)) (by unfold Func.isWrapper; first | (rw [if_pos (by decide +kernel)]; kernel_rfl) | (rw [if_neg (by decide +kernel)]; exact ⟨rfl, rfl⟩))
    (fun os started H enc _ => lifted os started H enc)
#print axioms proved
end Go.Proofs.Ytgcpclbkjplipaa.chunkJoins
