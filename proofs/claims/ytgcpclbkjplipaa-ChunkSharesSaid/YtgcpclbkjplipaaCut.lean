/- Contract of chunk.Cut: the pieces of bytes. -/
import Derived.Test.YtgcpclbkjplipaaChunkScan
import Derived.Test.YtgcpclbkjplipaaCutLaw
import Derived.Test.YtgcpclbkjplipaaRd
import Derived.Deep.DeepCutAuto
import Derived.Deep.CutBlock
import Derived.Deep.LoopGhost
set_option linter.unusedVariables false
namespace Go.Mem
def lenOf : Value → Nat
  | .slice _ n _ => n
  | _ => 0
end Go.Mem
namespace Go.Proofs.Ytgcpclbkjplipaa
open Go.RowKit Go.Mem Go.Chunk
theorem cutN_next (bs : List UInt8) (j : Nat) (hj : j < bs.length) (h32 : j < 32) : cutN (32 - j) (bs.drop j) = if bs[j] = 10 then 1 else 1 + cutN (32 - (j + 1)) (bs.drop (j + 1)) := by
  obtain ⟨k, hk⟩ : ∃ k, 32 - j = k + 1 := ⟨31 - j, by omega⟩
  rw [hk, List.drop_eq_getElem_cons hj, cutN, show 32 - (j + 1) = k by omega]
theorem cutN_stop (bs : List UInt8) (j : Nat) (h : ¬ (j < bs.length ∧ j < 32)) : cutN (32 - j) (bs.drop j) = 0 := by
  by_cases h32 : j < 32
  · rw [List.drop_eq_nil_of_le (by omega)]
    cases 32 - j <;> rfl
  · rw [show 32 - j = 0 by omega]
    rfl

set_option maxRecDepth 100000 in
set_option maxHeartbeats 1000000 in
theorem cutc_any (A : Option Addr) (n c : Nat) (bs : List UInt8) (D : Nat → Prop) (w : World) (hr : Reads w D 1 A n (u8s bs)) (hnc : n ≤ c) (hc : c ≤ maxLen) (hn : n ≤ 65536) :
    Calls Try.prog 27 #[.slice A n c] w fun e w' => ∃ A c, e = .returned (.slice A (cutF n bs).length c) ∧ OwnList 23 1 BytesCell w' w.heap.size (.slice A (cutF n bs).length c) (cutF n bs) ∧ Below w.heap.size w w' := by
  have hcl := cutF_len n bs
  go_enter Try.func27, Try.ntmps27
  go_wp2_with (fail)
  go_loopw [0, 3] (fun v0 v wr => ∃ (bs1 : List UInt8) (f : Nat) (out : List (List UInt8)) (A1 : Option Addr) (n1 c1 : Nat), v0 = .slice A1 n1 c1 ∧ n1 ≤ c1 ∧ c1 ≤ maxLen ∧ n1 ≤ f ∧ n1 ≤ 65536 ∧ Reads w D 1 A1 n1 (u8s bs1) ∧ Hid (cutF n bs = out ++ cutF f bs1) ∧ OwnList 23 1 BytesCell wr w.heap.size v out ∧ Below w.heap.size w wr) (fun v0 _ _ => lenOf v0)
  case atStart => exact ⟨bs, n, [], A, n, c, rfl, hnc, hc, Nat.le_refl _, hn, hr, by unfold Hid; simp, OwnList.nil _ _ _ _, Below.refl _ _⟩
  case round =>
    obtain ⟨bs1, f, out, A1, n1, c1, rfl, hn1, hc1, hf, hn5, hr1, Hsc, hown, hb⟩ := hrel
    have hnl : n1 = bs1.length := by have := hr1.len; rwa [u8s_length] at this
    have Hnl := Lib.hid hnl
    clear hnl hr
    unfold maxLen at hc1
    by_cases h0 : 0 < n1
    · have hne : bs1 ≠ [] := by rintro rfl; have := Hnl.out; simp at this; omega
      have hpos : 1 ≤ cutN 32 bs1 := cutN_pos 31 bs1 hne
      have hle := cutN_le 32 bs1
      rw [← Hnl.out] at hle
      obtain ⟨b, off, u0, rfl, hD, _, _⟩ := hr1.at_ (k := 0) h0
      have hcell : ∀ j (hj : j < bs1.length), wr.cell? ⟨b, off + j, none⟩ = some (.int .u8 (bs1[j].toNat : Int)) := fun j hj => by
        obtain ⟨b', off', u1, e, _, hu1, hc1⟩ := hr1.at_ (k := j) (by have := Hnl.out; omega)
        injection e with e
        injection e with e1 e2
        subst e1 e2
        rw [u8s_at bs1 j hj] at hu1
        injection hu1 with hu1
        subst hu1
        exact (Same.any (D := Any) hb).cell trivial hc1
      have Hcell := Lib.hid hcell
      clear hcell
      go_upto_block 2 with (fail)
      go_cut [4] (fun s4 wc => s4 = .int .i64 (cutN 32 bs1 : Nat) ∧ wc = wr)
      case first =>
        go_wp2_with (fail)
        go_loop [4] (fun v4 => ∃ j : Nat, j ≤ 32 ∧ j ≤ n1 ∧ v4 = .int .i64 j ∧ Hid (cutN 32 bs1 = j + cutN (32 - j) (bs1.drop j))) (fun v4 => 32 - (intOf v4).toNat)
        case atStart => exact ⟨0, by omega, by omega, rfl, by unfold Hid; simp⟩
        case round =>
          obtain ⟨j, hj1, hj2, rfl, Hj⟩ := hrel
          by_cases hj : j < n1 ∧ j < 32
          · obtain ⟨hj3, hj4⟩ := hj
            have hjb : j < bs1.length := by have := Hnl.out; omega
            have g0 := Hcell.out j hjb
            have e0 := cutN_next bs1 j hjb hj4
            have hb256 := UInt8.toNat_lt bs1[j]
            by_cases h10 : bs1[j] = 10
            · have e1 : cutN 32 bs1 = j + 1 := by rw [Hj.out, e0, if_pos h10]
              rw [h10] at g0
              have He1 := Lib.hid e1
              clear e0 e1 h10 hb256 Hj
              go_wp2_with (fail)
              go_meet
              exact ⟨by rw [He1.out]; go_num, rfl⟩
            · have e1 : Hid (cutN 32 bs1 = (j + 1) + cutN (32 - (j + 1)) (bs1.drop (j + 1))) := by
                unfold Hid
                rw [Hj.out, e0, if_neg h10]
                omega
              have hx : bs1[j].toNat ≠ 10 := fun h => h10 (UInt8.toNat_inj.1 (by rw [h]; rfl))
              generalize bs1[j].toNat = x at g0 hx hb256
              have hx1 : ((x : Int) == 10) = false := by simp; omega
              clear e0 h10 Hj
              go_wp2_with (fail)
              go_round
              case rel => exact ⟨j + 1, by omega, by omega, by go_num, e1⟩
              case measure => simp [intOf]; omega
          · have e1 : cutN 32 bs1 = j := by rw [Hj.out, cutN_stop bs1 j (by rw [← Hnl.out]; exact hj)]; omega
            have He1 := Lib.hid e1
            clear e1 Hj
            by_cases hj3 : j < n1
            · go_wp2_with (fail)
              go_meet
              exact ⟨by rw [He1.out], rfl⟩
            · go_wp2_with (fail)
              go_meet
              exact ⟨by rw [He1.out], rfl⟩
      case rest =>
        obtain ⟨rfl, rfl⟩ := hcut
        obtain ⟨m, hm⟩ : ∃ m, m = cutN 32 bs1 := ⟨_, rfl⟩
        rw [← hm] at hpos hle ⊢
        have Hm := Lib.hid hm
        clear hm Hcell
        obtain ⟨hs1, hr2⟩ := slice_h 23 5 Try.underlying23 size_u8 hr1 hn1 m hle.2 m rfl
        obtain ⟨A', hs2, hr3⟩ := slice_l 23 5 Try.underlying23 size_u8 hr1 hn1 m hle.2 m rfl
        simp only [Nat.mul_one, u8s_drop, u8s_take] at hr2 hr3
        have CL := Lib.hid (clone_any _ m c1 (u8s (bs1.take m)) D wc (hr2.keep (Same.any hb)) (u8s_one _) (by omega))
        clear hr2 hr1
        go_wp2_with (fail)
        refine CL.out.mono ?_
        rintro e w1 ⟨A2, c2, rfl, hv2, hb1⟩
        have hb1' : Below w.heap.size w w1 := hb.trans (hb1.mono hb.size)
        have hown1 := hown.keep BytesCell.stable (Same.of_below hb1 fun _ _ h => h)
        have hlt1 := hown.lt
        have hy : BytesCell w1 (fun b => w.heap.size ≤ b ∧ u3.ownBlock ≠ some b) [.slice A2 m c2] (bs1.take m) :=
          ⟨_, rfl, (Bytes.of_own_new hv2).imp fun b hb' _ => ⟨by have := hb.size; omega, fun e => by have := (hlt1 b e).2; omega⟩⟩
        clear hlt1 CL
        obtain ⟨vs1, ho, ha1⟩ := hown1
        have hol : out.length ≤ 65536 := by have h := congrArg List.length Hsc.out; simp at h; omega
        go_wp2_with (at_builtin; refine app_row _ rfl (.tmp 24) (.tmp 29) rfl (ho.alloc _) rfl (Reads.new (D := Any) _ [.slice A2 m c2] 1 1 _ trivial rfl) rfl (BytesCell.stable.one hy) (by omega) (by have := hb1'.size; simp; omega) ?_; intro v2 w2 hown2 hg2 hat2)
        refine ⟨⟨bs1.drop m, f - 1, out ++ [bs1.take m], A', n1 - m, c1 - m, rfl, by omega, by unfold maxLen; omega, by omega, by omega, hr3, ?_, OwnList.push BytesCell.stable ha1 hy hg2 hat2 hown2, (hb1'.alloc hb1'.size _).grown hg2 (by have := hb1'.size; simp; omega) (fun k hk => (ho.lt k hk).1)⟩, by simp [lenOf]; omega⟩
        unfold Hid
        obtain ⟨f', rfl⟩ : ∃ f', f = f' + 1 := ⟨f - 1, by omega⟩
        rw [Hsc.out, cutF_step f' bs1 hne, Hm.out]
        simp
    · obtain rfl : n1 = 0 := by omega
      have hnil : bs1 = [] := List.eq_nil_of_length_eq_zero Hnl.out.symm
      have hfin : cutF n bs = out := by rw [Hsc.out, hnil, cutF_nil, List.append_nil]
      have Hfin := Lib.hid hfin
      clear hnil hfin Hsc
      obtain ⟨A2, c2, rfl, _⟩ := hown.form
      go_wp2_with (fail)
      go_ret
      rw [Hfin.out]
      exact ⟨A2, c2, rfl, hown, hb⟩
end Go.Proofs.Ytgcpclbkjplipaa
