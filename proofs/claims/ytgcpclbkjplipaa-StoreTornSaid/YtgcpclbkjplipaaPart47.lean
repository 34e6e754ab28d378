/- The snapshot of raw ones is right. · Contract of store.Read at beginnings of a snapshot's encoding. (Printed by storeread.py.) -/
import Derived.Test.YtgcpclbkjplipaaStoreSnap
import Derived.Test.YtgcpclbkjplipaaMailGood
import Derived.Test.YtgcpclbkjplipaaStoreDec
set_option linter.unusedVariables false
namespace Go.Proofs.Ytgcpclbkjplipaa
open Go.RowKit Go.Mem Go.Val Go.Chunk
theorem LCells.ok' {d : Nat} {w : World} {D : Nat → Prop} {cs : List Value} {x : L} (h : LCells d w D cs x) : okV d x.val := by
  obtain ⟨vs, rfl, _, hv⟩ := h
  exact hv.ok
theorem snF_nice {w : World} {D : Nat → Prop} {cs : List Value} {l : List Raw} {n : Int} (h : SnCells 41 w D cs (snF l n)) : NiceSn (snF l n) := by
  obtain ⟨A1, c1, vs1, A2, c2, vs2, _, _, _, _, _, ha1, _, ha2⟩ := h
  have e1 := restI_bd n 1000 (by omega)
  have e2 := restI_bd n 3 (by omega)
  have e3 := restI_bd (n.tdiv 7) 3 (by omega)
  have t1 : restN n 1000 = restI n 1000 := rfl
  have t2 : restN n 3 = restI n 3 := rfl
  have t3 : restN (n.tdiv 7) 3 = restI (n.tdiv 7) 3 := rfl
  have lp : (snF l n).parcels.length ≤ 5 := by simp [snF, snPs, t2]; omega
  have lw : (snF l n).ways.length ≤ 5 := by simp [snF, snWs, t3]; omega
  refine ⟨by simp [snF, t1]; omega, lp, lw, ?_, ?_, ?_, ?_⟩
  · intro p hp
    obtain ⟨i, hi, rfl⟩ := List.mem_iff_getElem.1 hp
    obtain ⟨x, _, hx⟩ := ha1.at_ hi
    have e : (snF l n).parcels[i] = parF (l.drop i) (1001 + (i : Int)) := by simp [snF, snPs]
    rw [e] at hx ⊢
    exact parF_nice _ _ ⟨by omega, by omega⟩ (PcCells.oks hx)
  · intro y hy
    obtain ⟨i, hi, rfl⟩ := List.mem_iff_getElem.1 hy
    obtain ⟨x, _, hx⟩ := ha2.at_ hi
    have e : (snF l n).ways[i] = ⟨1, 2 + (i : Int), snLs l (min l.length 3)⟩ := by simp [snF, snWs]
    rw [e] at hx ⊢
    obtain ⟨_, _, vs, _, _, _, _, hl⟩ := hx
    have hll : (snLs l (min l.length 3)).length ≤ 5 := by simp [snLs]; omega
    refine ⟨⟨by simp only; omega, by simp only; omega⟩, ⟨by simp only; omega, by simp only; omega⟩, by simp only; omega, fun z hz => ?_, hll⟩
    obtain ⟨j, hj, rfl⟩ := List.mem_iff_getElem.1 hz
    obtain ⟨u, _, hu⟩ := hl.at_ hj
    have e2 : (snLs l (min l.length 3))[j] = letF ((l.drop j).take 5) := by simp [snLs]
    simp only at hu ⊢
    rw [e2] at hu ⊢
    exact letF_nice _ (LCells.ok' hu)
  · intro i p q hp hq
    have hi := (List.getElem?_eq_some_iff.1 hq).1
    have ep : p = parF (l.drop i) (1001 + (i : Int)) := by
      obtain ⟨h1, h2⟩ := List.getElem?_eq_some_iff.1 hp
      rw [← h2]
      simp [snF, snPs]
    have eq : q = parF (l.drop (i + 1)) (1001 + ((i + 1 : Nat) : Int)) := by
      obtain ⟨h1, h2⟩ := List.getElem?_eq_some_iff.1 hq
      rw [← h2]
      simp [snF, snPs]
    rw [ep, eq]
    unfold parF
    rw [(parU_len _ _ _).2, (parU_len _ _ _).2]
    omega
  · intro i x y hx hy
    have ex : x = ⟨1, 2 + (i : Int), snLs l (min l.length 3)⟩ := by
      obtain ⟨h1, h2⟩ := List.getElem?_eq_some_iff.1 hx
      rw [← h2]
      simp [snF, snWs]
    have ey : y = ⟨1, 2 + ((i + 1 : Nat) : Int), snLs l (min l.length 3)⟩ := by
      obtain ⟨h1, h2⟩ := List.getElem?_eq_some_iff.1 hy
      rw [← h2]
      simp [snF, snWs]
    rw [ex, ey]
    exact ⟨rfl, by simp only; omega⟩
theorem snapE_max (s : Snp) (h : NiceSn s) : (snapE 41 s).length ≤ 20000010 := by
  have hp := h.np
  have hw := h.nw
  have := flat_bound (headE s) (partsE 41 s) (by simp [headE, numE_len]) (by simp [partsE]; omega) (partsE_len s h) (partsE 41 s).length
  rw [List.take_of_length_le (Nat.le_refl _)] at this
  rw [snapE_eq]
  omega
end Go.Proofs.Ytgcpclbkjplipaa
set_option linter.unusedVariables false
namespace Go.Proofs.Ytgcpclbkjplipaa
open Go.RowKit Go.Mem Go.Val Go.Chunk

set_option maxRecDepth 100000 in
theorem bytesEq_any (A B : Option Addr) (n c m d : Nat) (bs : List UInt8) (D E : Nat → Prop) (w : World) (hr : Reads w D 1 A n (u8s bs)) (hs : Reads w E 1 B m (u8s bs)) :
    Calls Try.prog 86 #[.slice A n c, .slice B m d] w fun e w' => e = .returned (.bool true) ∧ w = w' := by
  have k1 := run_convert_reads (P := Try.prog) w 23 9 _ Try.underlying23 (by kernel_rfl) (by kernel_rfl) (c := c) hr
  have k2 := run_convert_reads (P := Try.prog) w 23 9 _ Try.underlying23 (by kernel_rfl) (by kernel_rfl) (c := d) hs
  generalize (⟨bs.toArray⟩ : ByteArray) = S at k1 k2
  clear hr hs
  have hb : (S == S) = true := (MapKept.bytes_beq S S).2 rfl
  go_enter Try.func86, Try.ntmps86
  go_wp2
  go_ret
  exact ⟨rfl, rfl⟩

def RdPost (w : World) (s : Snp) (K : Nat) (e : Ending) (w' : World) : Prop :=
  ((snapE 41 s).length ≤ K ∧ ∃ cs, e = .returned (.tuple #[.agg cs.toArray, .int .i64 0]) ∧ SnCells 41 w' (fun b => w.heap.size ≤ b) cs s ∧ Below w.heap.size w w') ∨
    (K < (snapE 41 s).length ∧ e = .returned (.tuple #[.agg #[.int .i64 0, .slice none 0 0, .slice none 0 0], .int .i64 3]) ∧ Below w.heap.size w w')

set_option maxRecDepth 100000 in
set_option maxHeartbeats 2000000 in
theorem sRead_any (s : Snp) (K : Nat) (A : Option Addr) (n c : Nat) (w : World) (hg : NiceSn s) (hn : n = ((snapE 41 s).take K).length) (hK : K ≤ (snapE 41 s).length) (hnc : n ≤ c) (hcm : c ≤ maxLen) (hr : Reads w Any 1 A n (u8s ((snapE 41 s).take K))) :
    Calls Try.prog 43 #[.slice A n c] w (RdPost w s K) := by
  obtain ⟨W, hW⟩ : ∃ W, W = w.alloc (.cells #[.int .i64 0, .slice none 0 0, .slice none 0 0] 85) := ⟨_, rfl⟩
  have hZ : Blk W w.heap.size 85 [.int .i64 0, .slice none 0 0, .slice none 0 0] := by rw [hW]; exact Blk.new w _ _
  have hbW : Below w.heap.size w W := by rw [hW]; exact (Below.refl _ _).alloc (Nat.le_refl _) _
  have hsW : W.heap.size = w.heap.size + 1 := by rw [hW]; simp
  have HsW := Lib.hid hsW
  have HW := Lib.hid hW
  clear hW hsW
  have DE := Lib.hid (sdec_any s K A n c W hg hn hK hnc hcm (hr.keep (Same.any hbW)))
  have Hg := Lib.hid hg
  have HK := Lib.hid hK
  clear hg hn hK
  go_enter Try.func43, Try.ntmps43
  go_wp2_with (fail)
  rw [← HW.out]
  clear HW
  refine DE.out.mono ?_
  rintro e w1 (⟨hfull, cs, rfl, hv1, hb1⟩ | ⟨hless, rfl, hb1⟩)
  · have hZ1 := hZ.below hb1 hZ.lt
    have hw1 : Below w.heap.size w w1 := hbW.trans (hb1.mono hbW.size)
    obtain ⟨A1, c1, A2, c2, rfl⟩ := SnCells.out hv1
    have SBy := fun (W : World) (cs : List Value) (h : SnCells 41 W Any cs s) => sbytes_any s cs W h Hg.out
    have HSBy := Lib.hid SBy
    have htk : (snapE 41 s).take K = snapE 41 s := List.take_of_length_le hfull
    rw [htk] at hr
    have Hfull := Lib.hid hfull
    clear SBy DE htk hfull hZ
    have hl : n = (snapE 41 s).length := by have := hr.len; rwa [u8s_length] at this
    have Hl := Lib.hid hl
    clear hl
    have HS : Hid (s.parcels.length = s.parcels.length) := rfl
    obtain ⟨W2, hW2⟩ : ∃ W2, W2 = w1.alloc (.cells #[.int .i64 s.time, .slice A1 s.parcels.length c1, .slice A2 s.ways.length c2] 85) := ⟨_, rfl⟩
    have hO2 : Blk W2 w1.heap.size 85 [.int .i64 s.time, .slice A1 s.parcels.length c1, .slice A2 s.ways.length c2] := by rw [hW2]; exact Blk.new w1 _ _
    have hb2 : Below w1.heap.size w1 W2 := by rw [hW2]; exact (Below.refl _ _).alloc (Nat.le_refl _) _
    have hv2 := (SnCells.stable 41).keep hv1 (Same.any (D := fun b => W.heap.size ≤ b) hb2)
    have hZ2 := hZ1.below hb2 hZ1.lt
    have hw2 : Below w.heap.size w W2 := hw1.trans (hb2.mono hw1.size)
    go_wp2_with (fail)
    rw [← hW2]
    clear hW2 hv1 hZ1 hb2
    refine (HSBy.out W2 _ ((SnCells.stable 41).imp hv2 fun _ _ _ => trivial)).mono ?_
    rintro e w3 ⟨A3, c3, rfl, ho3, hb3⟩
    obtain ⟨_, _, hr3⟩ := own_reads (by omega) ho3
    have hO3 := hO2.below hb3 hO2.lt
    have hZ3 := hZ2.below hb3 hZ2.lt
    have hv3 := (SnCells.stable 41).keep hv2 (Same.any (D := fun b => W.heap.size ≤ b) hb3)
    have hw3 : Below w.heap.size w w3 := hw2.trans (hb3.mono hw2.size)
    have BE := Lib.hid (bytesEq_any A3 A (snapE 41 s).length c3 n c (snapE 41 s) _ Any w3 hr3 (hr.keep (Same.any hw3)))
    generalize (snapE 41 s).length = SL at BE ⊢
    clear HSBy hO2 hZ2 hv2 ho3 hr3 hr hb3 hw2 hw1
    have zz0 := hZ3.cell 0
    have zz1 := hZ3.cell 1
    have zz2 := hZ3.cell 2
    have fz0 := hZ3.frozen 0
    have fz1 := hZ3.frozen 1
    have fz2 := hZ3.frozen 2
    simp only [List.getElem?_cons_succ, List.getElem?_cons_zero] at zz0 zz1 zz2
    have oo0 := hO3.cell 0
    have oo1 := hO3.cell 1
    have oo2 := hO3.cell 2
    simp only [List.getElem?_cons_succ, List.getElem?_cons_zero] at oo0 oo1 oo2
    have lz := hZ3.lt
    have lo := hO3.lt
    have hq := setRow_blk hZ3 [.int .i64 s.time, .slice A1 s.parcels.length c1, .slice A2 s.ways.length c2] rfl
    have hbq := setRow_below (Nat.le_refl w.heap.size) [.int .i64 s.time, .slice A1 s.parcels.length c1, .slice A2 s.ways.length c2] w3 0 hw3
    have hvq := (SnCells.stable 41).imp ((SnCells.stable 41).keep hv3 (setRow_same (g := w.heap.size) (by have := HsW.out; omega) [.int .i64 s.time, .slice A1 s.parcels.length c1, .slice A2 s.ways.length c2] w3 0)) (D' := fun b => w.heap.size ≤ b) fun b hb _ => by have := HsW.out; omega
    simp only [setRow, Nat.reduceAdd] at hq hbq hvq
    have Hq := Lib.hid hq
    have Hbq := Lib.hid hbq
    have Hvq := Lib.hid hvq
    clear hq hbq hvq hZ3 hO3 hv3 hw3
    go_wp2_with (go_at_call 86; refine BE.out.mono ?_; rintro e w' ⟨rfl, rfl⟩)
    refine ret_blk_tmp rfl rfl Hq.out Try.underlying85 (by kernel_rfl) rfl ?_
    exact .inl ⟨Hfull.out, _, rfl, Hvq.out, Hbq.out⟩
  · have hZ1 := hZ.below hb1 hZ.lt
    have hw1 : Below w.heap.size w w1 := hbW.trans (hb1.mono hbW.size)
    have Hless := Lib.hid hless
    have zz0 := hZ1.cell 0
    have zz1 := hZ1.cell 1
    have zz2 := hZ1.cell 2
    have fz0 := hZ1.frozen 0
    have fz1 := hZ1.frozen 1
    have fz2 := hZ1.frozen 2
    simp only [List.getElem?_cons_succ, List.getElem?_cons_zero] at zz0 zz1 zz2
    have lz := hZ1.lt
    have hq := (setRow_blk hZ1 [.int .i64 0, .slice none 0 0, .slice none 0 0] rfl).alloc (.cells #[.int .i64 0, .slice none 0 0, .slice none 0 0] 85)
    have hb9 := setRow_below (Nat.le_refl w.heap.size) [.int .i64 0, .slice none 0 0, .slice none 0 0] w1 0 hw1
    have hbq := hb9.alloc hb9.size (.cells #[.int .i64 0, .slice none 0 0, .slice none 0 0] 85)
    simp only [setRow, Nat.reduceAdd] at hq hbq
    have Hq := Lib.hid hq
    have Hbq := Lib.hid hbq
    clear hq hbq hb9 hZ1 hw1 hr hless DE
    go_wp2_with (fail)
    refine ret_blk_tmp rfl rfl Hq.out Try.underlying85 (by kernel_rfl) rfl ?_
    exact .inr ⟨Hless.out, rfl, Hbq.out⟩
end Go.Proofs.Ytgcpclbkjplipaa
