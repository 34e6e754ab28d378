/- Contract of store.way: the letters of a part. (Printed by storeway.py.) -/
import Derived.Test.YteojmmjanjilaaaPart29
import Derived.Test.YteojmmjanjilaaaMailRead
import Derived.Test.YteojmmjanjilaaaPart19
import Derived.Deep.RegionHeld3
set_option linter.unusedVariables false
namespace Go.Proofs.Yteojmmjanjilaaa
open Go.RowKit Go.Mem Go.Val Go.Chunk

theorem scan_pack (x : List (List UInt8)) (hx : ∀ p ∈ x, p.length ≤ 65535) (f : Nat) (hf : (packF x).length ≤ f) : scanF f (packF x) = x := by
  obtain ⟨k, hk, h1, h2, h3⟩ := scan_take x f (packF x).length hx hf
  rw [List.take_of_length_le (Nat.le_refl _)] at h1
  rw [h1]
  rcases Nat.lt_or_ge k x.length with h | h
  · have h4 := h3 h
    rw [packF_length] at h4
    have h5 : x = x.take (k + 1) ++ x.drop (k + 1) := (List.take_append_drop _ _).symm
    have h6 : sizeF x = sizeF (x.take (k + 1)) + sizeF (x.drop (k + 1)) := by rw [← sizeF_append, ← h5]
    have h7 : sizeF (x.take (k + 1)) = sizeF (x.take k) + (2 + x[k].length) := by
      rw [List.take_succ_eq_append_getElem h, sizeF_append]
      simp [sizeF]
    omega
  · exact List.take_of_length_le h

def WayPost (w : World) (y : Wy) (e : Ending) (w' : World) : Prop := ∃ cs, e = .returned (.tuple #[.agg cs.toArray, .bool true]) ∧ WyCells 41 w' (fun b => w.heap.size ≤ b) cs y ∧ Below w.heap.size w w'
def NoWay (w : World) (e : Ending) (w' : World) : Prop := e = .returned (.tuple #[.agg #[.int .i64 0, .int .i64 0, .slice none 0 0], .bool false]) ∧ Below w.heap.size w w'

set_option maxRecDepth 100000 in
set_option maxHeartbeats 1000000 in
theorem way_nil (w : World) : Calls Try.prog 58 #[.slice none 0 0] w (NoWay w) := by
  go_enter Try.func58, Try.ntmps58
  go_wp2_with (fail)
  refine ret_blk_tmp rfl rfl (Blk.new w _ [.int .i64 0, .int .i64 0, .slice none 0 0]) Try.underlying51 (by kernel_rfl) rfl ?_
  exact ⟨rfl, (Below.refl _ _).alloc (Nat.le_refl _) _⟩

set_option maxRecDepth 100000 in
set_option maxHeartbeats 4000000 in
theorem way_any (A : Option Addr) (n c : Nat) (y : Wy) (w : World) (hg : NiceW y) (hn : n = (wayE 41 y).length) (hnc : n ≤ c) (hcm : c ≤ maxLen) (hr : Reads w Any 1 A n (u8s (wayE 41 y))) :
    Calls Try.prog 58 #[.slice A n c] w (WayPost w y) := by
  obtain ⟨yf, yt, yl⟩ := y
  obtain ⟨⟨f1, f2⟩, ⟨t1, t2⟩, hne, hnl⟩ := hg
  simp only at f1 f2 t1 t2 hnl
  have HNL := Lib.hid hnl
  have hW0 : wayE 41 ⟨yf, yt, yl⟩ = UInt8.ofNat yf.toNat :: UInt8.ofNat yt.toNat :: packF (yl.map (encL 41)) := rfl
  obtain ⟨p1, p2, p3⟩ := hnl.pack
  have hsc := scan_pack _ p1 (packF (yl.map (encL 41))).length (Nat.le_refl _)
  rw [hW0] at hn hr
  have hl2 : n = (packF (yl.map (encL 41))).length + 2 := by rw [hn]; simp
  obtain ⟨b, off, rfl, _, hcl⟩ := hr.2 (by omega)
  have e0 : w.cell? ⟨b, off, none⟩ = some (.int .u8 yf) := by
    have := hcl 0 (.int .u8 yf) (by simp only [u8s, List.map_cons, List.getElem?_cons_zero]; rw [ofNat_toNat (by omega), Int.toNat_of_nonneg (by omega)])
    simpa using this
  have e1 : w.cell? ⟨b, off + 1, none⟩ = some (.int .u8 yt) := by
    refine hcl 1 (.int .u8 yt) ?_
    simp only [u8s, List.map_cons, List.getElem?_cons_succ, List.getElem?_cons_zero]
    rw [ofNat_toNat (by omega), Int.toNat_of_nonneg (by omega)]
  obtain ⟨A2, hsl2, hr2⟩ := slice_l (P := Try.prog) (c := c) _ _ Try.underlying62 (by kernel_rfl) hr hnc 2 (by omega) 2 rfl
  simp only [Nat.mul_one, u8s_drop, List.drop_succ_cons, List.drop_zero] at hr2
  have hpl : n - 2 = (packF (yl.map (encL 41))).length := by omega
  have hszp : sizeF (yl.map (encL 41)) = n - 2 := by rw [hpl, packF_length]
  have hn2 : 2 ≤ n := by omega
  have hn3 : n ≤ 70000 := by omega
  rw [← hpl] at hsc
  generalize packF (yl.map (encL 41)) = PK at hr2 hsc
  have SC := Lib.hid (fun W (hW : Below w.heap.size w W) => scan_any A2 (n - 2) (c - 2) PK Any W (hr2.keep (Same.any hW)) (by omega) (by omega) (by omega))
  have HSC := Lib.hid hsc
  have HSZ := Lib.hid hszp
  clear hsc hszp hW0 hn hcl hr2 p1 p2 p3 hr hpl hnl hl2 hne
  obtain ⟨W, hW⟩ : ∃ W, W = w.alloc (.cells #[.int .i64 0, .int .i64 0, .slice none 0 0] 51) := ⟨_, rfl⟩
  have hZ : Blk W w.heap.size 51 [.int .i64 0, .int .i64 0, .slice none 0 0] := by rw [hW]; exact Blk.new w _ _
  have hbW : Below w.heap.size w W := by rw [hW]; exact (Below.refl _ _).alloc (Nat.le_refl _) _
  have HW := Lib.hid hW
  clear hW
  go_enter Try.func58, Try.ntmps58
  go_upto_region 3 with (fail)
  rw [← HW.out]
  clear HW
  go_wp2_with (fail)
  refine (SC.out W hbW).mono ?_
  rw [HSC.out, HSZ.out]
  rintro e w1 ⟨A3, c3, rfl, hs1, hb1⟩
  have hbw1 : Below w.heap.size w w1 := hbW.trans (hb1.mono hbW.size)
  have hZ1 := hZ.below hb1 hZ.lt
  have hlp : (yl.map (encL 41)).length ≤ 5 := by rw [List.length_map]; exact HNL.out.2
  obtain ⟨vsp, _, _, _, rp, ap⟩ := hs1.reads BytesCell.stable (by omega)
  generalize hNP : (yl.map (encL 41)).length = np at rp hlp ⊢
  have HNP := Lib.hid hNP
  have g0 := (Same.any (D := Any) hbw1).cell trivial e0
  have g1 := (Same.any (D := Any) hbw1).cell trivial e1
  have hZ0 : w.heap.size < w1.heap.size := hZ1.lt
  clear SC hs1 hNP e0 e1 hZ hb1
  have dd : decide ((n : Int) < 2) = false := decide_eq_false (by omega)
  have n0 : 0 < n := by omega
  have n1 : 1 < n := by omega
  have n1i : (1 : Int) < (n : Int) := by omega
  have n0i : (0 : Int) < (n : Int) := by omega
  have wf1 : IntKind.i64.wrap yf = yf := IntWalk.i64_in _ (by omega)
  have wf2 : IntKind.i64.wrap yt = yt := IntWalk.i64_in _ (by omega)
  have lz1 := hZ1.lt
  have lb := lt_of_cell g0
  go_upto_region 4 with (fail)
  go_cut [6] (fun s6 wc => s6 = .pointer (some ⟨w1.heap.size, 0, none⟩) ∧ wc.heap.size = w1.heap.size + 1 ∧ Below w1.heap.size w1 wc ∧ Blk wc w1.heap.size 51 [.int .i64 yf, .int .i64 yt, .slice none 0 0])
  case first =>
    go_region_held3 (fun w' => w'.cell? ⟨b, off, none⟩ = some (.int .u8 yf) ∧ w'.cell? ⟨b, off + 1, none⟩ = some (.int .u8 yt)) (first | exact ⟨g0, g1⟩ | (simp [go_sem, g0, g1, lb]; done)) (fail)
    all_goals go_wp2_with (fail)
    all_goals go_meet
    all_goals exact ⟨rfl, by simp, ((Below.refl _ _).alloc (Nat.le_refl _) _).drew, Blk.new w1 _ _⟩
  case rest =>
    obtain ⟨rfl, hsc, hbc, hO⟩ := hcut
    have Hsc := Lib.hid hsc
    have hbwc : Below w.heap.size w wc := hbw1.trans (hbc.mono hbw1.size)
    have hZc := hZ1.below hbc hZ1.lt
    have rpc := (rp.imp (by omega) (D' := fun b => b < w1.heap.size) fun _ _ h => h).keep (Same.any hbc)
    have apc := ap.imp fun _ _ h => BytesCell.stable.keep (BytesCell.stable.imp h (D' := fun b => b < w1.heap.size) fun _ _ h => h) (Same.any hbc)
    have hlc := hO.lt
    clear hsc rp ap g0 g1 hZ1 lz1 hbc
    go_wp2_with (fail)
    go_loopw [32] (fun i wr => ∃ k v, k ≤ np ∧ i = .int .i64 (k : Nat) ∧ Blk wr w1.heap.size 51 [.int .i64 yf, .int .i64 yt, v] ∧ OwnList 55 9 (LCells 41) wr wc.heap.size v (yl.take k) ∧ wc.grownBy wr (some w1.heap.size)) (fun i _ => np - (intOf i).toNat)
    case atStart => exact ⟨0, _, Nat.zero_le _, rfl, hO, by simpa using OwnList.nil _ _ _ _, World.grownBy.refl _ _⟩
    case round =>
      obtain ⟨k, v, hk, rfl, hOr, hown, hgr⟩ := hrel
      obtain ⟨A5, c5, rfl, hc5⟩ := hown.form
      by_cases hlt : k < np
      · have hkl : k < (yl.map (encL 41)).length := by have := HNP.out; omega
        have hky : k < yl.length := by simpa using hkl
        have hsm : Same (fun b => b < w1.heap.size) wc wr := Same.of_grown hgr fun b hb _ e => by injection e with e; omega
        obtain ⟨bp, op, cs, rfl, hD, hv, hcell⟩ := rpc.elem BytesCell.stable apc HNP.out.symm hkl
        obtain ⟨vp, rfl, Ap, mp, cp, rfl, hmp, hcp, hrp⟩ := hv
        have hrp' := (hrp.keep hsm).imp (by omega) (D' := Any) fun _ _ _ => trivial
        have g0 := hsm.cell hD (hcell 0 _ rfl)
        simp only [Nat.mul_one, Nat.add_zero] at g0
        have hml : mp = ((yl.map (encL 41))[k]).length := by have := hrp.len; rwa [u8s_length] at this
        have hEk : (yl.map (encL 41))[k] = encL 41 yl[k] := by simp
        rw [hEk] at hml hrp'
        have hni := HNL.out.1 _ (List.getElem_mem hky)
        have htk := List.take_succ_eq_append_getElem hky
        generalize yl[k] = X at hml hrp' hni htk
        have HTK := Lib.hid htk
        have HML := Lib.hid hml
        have HNI := Lib.hid hni
        have hl12 := hni.2.2.2.2
        rw [← hml] at hl12
        have lr := hOr.lt
        have hlk : (yl.take k).length = k := by rw [List.length_take]; omega
        rw [hlk] at hown hOr hc5
        clear hcell hrp hml hEk hni htk hsm hlk
        go_wp2_with (fail)
        refine (ReadL_any Ap mp cp (encL 41 X) X wr HML.out hmp hcp hrp' (by have := HML.out; omega) (dec_nice HNI.out) HNI.out.1).mono ?_
        rintro e w2 ⟨cs2, rfl, hv2, hb2⟩
        have hOr2 := hOr.below hb2 lr
        have hown2 := hown.keep (LCells.stable 41) (Same.of_below hb2 fun _ _ h => h)
        have hol := hown.lt
        have hgr2 : wc.grownBy w2 (some w1.heap.size) := grownBy_trans hgr ⟨hb2.os, hb2.tape, hb2.output, hb2.size, fun i hi _ => hb2.block i hi⟩
        obtain ⟨lk, lf, lt, ln, ls, ⟨vk, vn, vt, va⟩⟩ := X
        obtain ⟨vs, rfl, hfit, hvv⟩ := id hv2
        obtain ⟨A6, c6, rfl⟩ := hvv.form
        simp only [V.kind, V.num, V.text, V.args] at hv2 ⊢
        have hy : LCells 41 w2 (fun b => wc.heap.size ≤ b ∧ (Value.slice A5 k c5).ownBlock ≠ some b) [.int .i64 lk, .int .i64 lf, .int .i64 lt, .int .i64 ln, .string ls, .int .i64 vk, .int .i64 vn, .string vt, .slice A6 va.length c6] (⟨lk, lf, lt, ln, ls, V.mk vk vn vt va⟩ : L) := (LCells.stable 41).imp hv2 fun b hb _ => ⟨by have := hgr.size; omega, fun e => by have := (hol b e).2; omega⟩
        obtain ⟨vs1, ho1, ha1⟩ := hown2
        have hol1 := ho1.lt
        have q2 := hOr2.cell 2
        simp only [List.getElem?_cons_succ, List.getElem?_cons_zero] at q2
        have lo2 := hOr2.lt
        have hs2 := hgr2.size
        have hlk : (yl.take k).length = k := by rw [List.length_take]; omega
        rw [hlk] at ho1
        have HLK := Lib.hid hlk
        clear hvv hfit hv2 hb2 hOr hown hlk hrp' g0
        go_wp2_with (at_builtin; refine app_Le _ rfl (.tmp 45) (.tmp 47) rfl ((ho1.alloc _).alloc _) rfl (Reads.new_at (D := Any) _ [.int .i64 lk, .int .i64 lf, .int .i64 lt, .int .i64 ln, .string ls, .int .i64 vk, .int .i64 vn, .string vt, .slice A6 va.length c6] 9 1 _ (w2.heap.size + 1) (by simp) trivial rfl) rfl (by simp [Value.oneCell']) (by omega) (by simp; omega) ?_; intro v5 w3 hown5 hg5 hat5; obtain ⟨A8, c8, rfl, hn8⟩ := own_form hown5; have hO3 := ((hOr2.alloc (.cells #[.int .i64 lk, .int .i64 lf, .int .i64 lt, .int .i64 ln, .string ls, .int .i64 vk, .int .i64 vn, .string vt, .slice A6 va.length c6] 55)).alloc (.cells #[.int .i64 lk, .int .i64 lf, .int .i64 lt, .int .i64 ln, .string ls, .int .i64 vk, .int .i64 vn, .string vt, .slice A6 va.length c6] 55)).grown hg5 (fun e => by have := (hol1 _ e.symm).1; have := Hsc.out; omega); have q3 := hO3.cell 2; simp only [List.getElem?_cons_succ, List.getElem?_cons_zero] at q3; have f3 := hO3.frozen 2; have l3 := hO3.lt)
        have hg2' : w2.grownBy (w2.alloc (.cells #[.int .i64 lk, .int .i64 lf, .int .i64 lt, .int .i64 ln, .string ls, .int .i64 vk, .int .i64 vn, .string vt, .slice A6 va.length c6] 55)) none := ⟨rfl, rfl, rfl, by simp, fun i hi _ => Below.heap_alloc w2 _ i hi⟩
        have hpush := OwnList.push (w := w2.alloc (.cells #[.int .i64 lk, .int .i64 lf, .int .i64 lt, .int .i64 ln, .string ls, .int .i64 vk, .int .i64 vn, .string vt, .slice A6 va.length c6] 55)) (LCells.stable 41) (ha1.imp fun _ _ h => (LCells.stable 41).keep h (Same.alloc _ _ _)) ((LCells.stable 41).keep hy (Same.alloc _ _ _)) hg5 hat5 (by rw [HLK.out]; exact hown5)
        refine ⟨⟨k + 1, _, by omega, by go_num, hO3.put 2 _, by rw [HTK.out]; exact hpush.keep (LCells.stable 41) (fun b hb _ => Below.heap_setCell w3 _ _ b (by show b ≠ w1.heap.size; have := Hsc.out; omega)), ?_⟩, by simp [intOf]; omega⟩
        refine ⟨hg5.os.trans hgr2.os, hg5.tape.trans hgr2.tape, hg5.output.trans hgr2.output, (by have h1 := hg5.size; have h2 := hgr2.size; simp at h1; simp; omega), fun i hi hne => ?_⟩
        rw [Below.heap_setCell w3 _ _ i (by intro e; exact hne (by rw [e]))]
        rw [hg5.block i (by simp; omega) (fun e => by have := (hol1 _ e.symm).1; omega), Below.heap_alloc _ _ i (by simp; omega), Below.heap_alloc w2 _ i (by omega)]
        exact hgr2.block i hi hne
      · obtain rfl : k = np := by omega
        have htk : yl.take k = yl := List.take_of_length_le (by have := HNP.out; simp at this; omega)
        have hky : k = yl.length := by have := HNP.out; simpa using this.symm
        rw [htk] at hown hOr
        have hZr : Blk wr w.heap.size 51 [.int .i64 0, .int .i64 0, .slice none 0 0] := hZc.grown hgr (by simp; have := hbw1.size; have := hZ0; omega)
        have hwr : Below w.heap.size w wr := ⟨hgr.os.trans hbwc.os, hgr.tape.trans hbwc.tape, hgr.output.trans hbwc.output, Nat.le_trans hbwc.size hgr.size, fun i hi => (hgr.block i (Nat.lt_of_lt_of_le hi hbwc.size) (by simp; have := hbw1.size; omega)).trans (hbwc.block i hi)⟩
        obtain ⟨vs, h1, h2, h3, h4, h5⟩ := hown.reads (LCells.stable 41) (by omega)
        have hyl : yl.length ≤ 5 := HNL.out.2
        rw [← hky] at h4 hOr
        have hz0 := hZr.cell 0
        have hz1 := hZr.cell 1
        have hz2 := hZr.cell 2
        have fz0 := hZr.frozen 0
        have fz1 := hZr.frozen 1
        have fz2 := hZr.frozen 2
        have o0 := hOr.cell 0
        have o1 := hOr.cell 1
        have o2 := hOr.cell 2
        simp only [List.getElem?_cons_succ, List.getElem?_cons_zero] at hz0 hz1 hz2 o0 o1 o2
        have lz := hZr.lt
        have lo := hOr.lt
        have hq := setRow_blk hZr [.int .i64 yf, .int .i64 yt, .slice A5 k c5] rfl
        have hbq := setRow_below (Nat.le_refl w.heap.size) [.int .i64 yf, .int .i64 yt, .slice A5 k c5] wr 0 hwr
        have hw0 : WyCells 41 wr (fun b => w.heap.size < b) [.int .i64 yf, .int .i64 yt, .slice A5 k c5] ⟨yf, yt, yl⟩ := ⟨A5, c5, vs, by rw [hky], ⟨⟨by simp only; omega, by simp only; omega⟩, ⟨by simp only; omega, by simp only; omega⟩⟩, ⟨by simp only; omega, by simp only; omega, h3⟩, by rw [← hky]; exact h4.imp (by omega) fun b hb _ => by have := Hsc.out; have := hbw1.size; omega, h5.imp fun _ _ h => (LCells.stable 41).imp h fun b hb _ => by have := Hsc.out; have := hbw1.size; omega⟩
        have hvq := (WyCells.stable 41).imp ((WyCells.stable 41).keep hw0 (setRow_same (g := w.heap.size) (by omega) [.int .i64 yf, .int .i64 yt, .slice A5 k c5] wr 0)) (D' := fun b => w.heap.size ≤ b) fun b hb _ => by omega
        simp only [setRow, Nat.reduceAdd] at hq hbq hvq
        have Hq := Lib.hid hq
        have Hbq := Lib.hid hbq
        have Hvq := Lib.hid hvq
        have hn22 : (n : Int) - 2 = ((n - 2 : Nat) : Int) := by omega
        have HN22 := Lib.hid hn22
        clear hq hbq hvq hZr hOr hown hw0 h1 h2 h3 h4 h5 htk hky hwr hgr hn22 rpc apc
        go_wp2_with (fail)
        refine ret_blk_tmp rfl rfl Hq.out Try.underlying51 (by kernel_rfl) rfl ?_
        refine ⟨_, ?_, Hvq.out, Hbq.out⟩
        have hbb : (((n - 2 : Nat) : Int) == (n : Int) - 2) = true := by rw [HN22.out]; simp
        show Ending.returned (.tuple #[.agg #[.int .i64 yf, .int .i64 yt, .slice A5 k c5], .bool (((n - 2 : Nat) : Int) == (n : Int) - 2)]) = _
        rw [hbb]
end Go.Proofs.Yteojmmjanjilaaa
