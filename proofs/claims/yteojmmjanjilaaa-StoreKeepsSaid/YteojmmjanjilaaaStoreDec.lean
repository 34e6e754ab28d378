/- Contract of store.decode at beginnings of a snapshot's encoding. (Printed by storedec.py.) -/
import Derived.Test.YteojmmjanjilaaaStoreBytes
import Derived.Test.YteojmmjanjilaaaStoreWay
import Derived.Test.YteojmmjanjilaaaPart34
set_option linter.unusedVariables false
namespace Go.Proofs.Yteojmmjanjilaaa
open Go.RowKit Go.Mem Go.Val Go.Chunk

theorem info_Pc : (Try.prog.info? 48).map (fun i => (i.zero, i.size, i.bytes)) = some (some (.agg #[.int .i64 0, .string ⟨#[]⟩, .slice none 0 0, .slice none 0 0, .slice none 0 0, .int .i64 0, .slice none 0 0, .slice none 0 0]), 8, 152) := by kernel_rfl
theorem app_Pc (w : World) {ops : Array Oper} {rest : List Oper} {o : Oper} {a : Act} {Q : Exit → Act → World → Prop} (hgd : o.guard = none) (s x : Operand)
    (ho : o.op = .call { callee := .builtin .append, args := #[s, x], argTypes := #[23, 23] })
    {base : Nat} {v : Value} {n : Nat} {xs : List Value} (hown : w.ownsRow base 48 8 v n xs) (hs : a.eval s = v)
    {D : Nat → Prop} {A : Option Addr} {m : Nat} {news : List Value} (hr : Reads w D 8 A m news) {c : Nat} (hx : a.eval x = .slice A m c) (h1 : ∀ u ∈ news, u.oneCell' = true)
    (h63 : n + m ≤ 1099511627) (hbase : base ≤ w.heap.size)
    (h : ∀ v' w', w'.ownsRow base 48 8 v' (n + m) (xs ++ news) → w.grownBy w' v.ownBlock → (v'.ownBlock = v.ownBlock ∨ v'.ownBlock = some w.heap.size) → wpList Try.prog ops Q rest (a.put o.dst v') w') : wpList Try.prog ops Q (o :: rest) a w := by
  obtain ⟨i0, hi0, hz0, hz1, hz2⟩ := info_parts info_Pc
  exact wpList_append_any w hgd s x _ ho base _ i0 _ 8 152 (by kernel_rfl) hi0 hz0 hz1 hz2 rfl (by omega) v n xs hs hown D A m c news hx hr h1 (by simp only [maxLen]; omega) (by omega) hbase h

theorem info_Wy : (Try.prog.info? 51).map (fun i => (i.zero, i.size, i.bytes)) = some (some (.agg #[.int .i64 0, .int .i64 0, .slice none 0 0]), 3, 40) := by kernel_rfl
theorem app_Wy (w : World) {ops : Array Oper} {rest : List Oper} {o : Oper} {a : Act} {Q : Exit → Act → World → Prop} (hgd : o.guard = none) (s x : Operand)
    (ho : o.op = .call { callee := .builtin .append, args := #[s, x], argTypes := #[24, 24] })
    {base : Nat} {v : Value} {n : Nat} {xs : List Value} (hown : w.ownsRow base 51 3 v n xs) (hs : a.eval s = v)
    {D : Nat → Prop} {A : Option Addr} {m : Nat} {news : List Value} (hr : Reads w D 3 A m news) {c : Nat} (hx : a.eval x = .slice A m c) (h1 : ∀ u ∈ news, u.oneCell' = true)
    (h63 : n + m ≤ 1099511627) (hbase : base ≤ w.heap.size)
    (h : ∀ v' w', w'.ownsRow base 51 3 v' (n + m) (xs ++ news) → w.grownBy w' v.ownBlock → (v'.ownBlock = v.ownBlock ∨ v'.ownBlock = some w.heap.size) → wpList Try.prog ops Q rest (a.put o.dst v') w') : wpList Try.prog ops Q (o :: rest) a w := by
  obtain ⟨i0, hi0, hz0, hz1, hz2⟩ := info_parts info_Wy
  exact wpList_append_any w hgd s x _ ho base _ i0 _ 3 40 (by kernel_rfl) hi0 hz0 hz1 hz2 rfl (by omega) v n xs hs hown D A m c news hx hr h1 (by simp only [maxLen]; omega) (by omega) hbase h

def DecPost (w : World) (s : Snp) (K : Nat) (e : Ending) (w' : World) : Prop :=
  ((snapE 41 s).length ≤ K ∧ ∃ cs, e = .returned (.tuple #[.agg cs.toArray, .bool true]) ∧ SnCells 41 w' (fun b => w.heap.size ≤ b) cs s ∧ Below w.heap.size w w') ∨
    (K < (snapE 41 s).length ∧ e = .returned (.tuple #[.agg #[.int .i64 0, .slice none 0 0, .slice none 0 0], .bool false]) ∧ Below w.heap.size w w')
/-- what is left behind i parts, of m bytes -/
def leftE (PS : List (List UInt8)) (i m : Nat) : List UInt8 := ((PS.drop i).flatMap partE).take m
theorem left_cut (PS : List (List UInt8)) (i m : Nat) (x : List UInt8) (h : PS[i]? = some x) (hx : x.length < 4294967296) : cutF (leftE PS i m) = if 4 + x.length ≤ m then some (x, leftE PS (i + 1) (m - (4 + x.length))) else none := by
  obtain ⟨hi, e⟩ := List.getElem?_eq_some_iff.1 h
  unfold leftE
  rw [List.drop_eq_getElem_cons hi, e, List.flatMap_cons, cutF_part x _ m hx]
theorem used_next (PS : List (List UInt8)) (i : Nat) (x : List UInt8) (h : PS[i]? = some x) : ((PS.take (i + 1)).flatMap partE).length = ((PS.take i).flatMap partE).length + (4 + x.length) := by
  have := flat_next [] PS i x h
  simp only [List.nil_append] at this
  rw [this, List.length_append, partE_len]
theorem used_le (PS : List (List UInt8)) (i : Nat) : ((PS.take i).flatMap partE).length ≤ (PS.flatMap partE).length := by
  have : PS.flatMap partE = (PS.take i).flatMap partE ++ (PS.drop i).flatMap partE := by rw [← List.flatMap_append, List.take_append_drop]
  rw [this, List.length_append]
  omega
theorem left_len (PS : List (List UInt8)) (i m : Nat) : (leftE PS i m).length ≤ m := by
  unfold leftE
  rw [List.length_take]
  omega
theorem snapE_len (s : Snp) (h : NiceSn s) : (snapE 41 s).length = 10 + ((partsE 41 s).flatMap partE).length := by
  simp [snapE, numE_len]
  omega
theorem snapE_take (s : Snp) (K : Nat) (h : 10 ≤ K) : (snapE 41 s).take K = headE s ++ leftE (partsE 41 s) 0 (K - 10) := by
  have hl : (headE s).length = 10 := by simp [headE, numE_len]
  rw [snapE_eq, List.take_append, hl, List.take_of_length_le (by omega)]
  rfl

set_option maxRecDepth 100000 in
set_option maxHeartbeats 4000000 in
theorem sdec_any (s : Snp) (K : Nat) (A : Option Addr) (n c : Nat) (w : World) (hg : NiceSn s) (hn : n = ((snapE 41 s).take K).length) (hK : K ≤ (snapE 41 s).length) (hnc : n ≤ c) (hcm : c ≤ maxLen) (hr : Reads w Any 1 A n (u8s ((snapE 41 s).take K))) :
    Calls Try.prog 37 #[.slice A n c] w (DecPost w s K) := by
  have hnK : n = K := by rw [hn, List.length_take]; omega
  subst hnK
  obtain ⟨W, hW⟩ : ∃ W, W = w.alloc (.cells #[.int .i64 0, .slice none 0 0, .slice none 0 0] 26) := ⟨_, rfl⟩
  have hZ : Blk W w.heap.size 26 [.int .i64 0, .slice none 0 0, .slice none 0 0] := by rw [hW]; exact Blk.new w _ _
  have hbW : Below w.heap.size w W := by rw [hW]; exact (Below.refl _ _).alloc (Nat.le_refl _) _
  have hsW : W.heap.size = w.heap.size + 1 := by rw [hW]; simp
  have HW := Lib.hid hW
  have HsW := Lib.hid hsW
  clear hW hsW
  have hlen := snapE_len s hg
  have hn20 : n ≤ 20000000 := by
    have h1 := flatMap_len partE 1000004 (partsE 41 s) (fun x hx => by rw [partE_len]; have := partsE_len s hg x hx; omega)
    have h2 : (partsE 41 s).length ≤ 10 := by have := hg.np; have := hg.nw; simp [partsE]; omega
    have h3 := Nat.mul_le_mul_right 1000004 h2
    omega
  by_cases h10 : n < 10
  · have Hf : Hid (n < (snapE 41 s).length) := by unfold Hid; omega
    clear hr hn hK hlen hg
    go_enter Try.func37, Try.ntmps37
    go_wp2_with (fail)
    rw [← HW.out]
    refine ret_blk_tmp rfl rfl hZ Try.underlying26 (by kernel_rfl) rfl ?_
    exact .inr ⟨Hf.out, rfl, hbW⟩
  · rw [snapE_take s n (by omega)] at hr
    have htm := hg.time
    have hnp := hg.np
    have hnw := hg.nw
    have Hg := Lib.hid hg
    have HL := Lib.hid hlen
    have hpl := partsE_len s hg
    have Hparts : Hid (partsE 41 s = s.parcels.map (encP 41) ++ s.ways.map (wayE 41)) := rfl
    have Hhead : Hid (headE s = numE s.time.toNat 8 ++ [UInt8.ofNat s.parcels.length, UInt8.ofNat s.ways.length]) := rfl
    generalize headE s = HD at hr Hhead
    generalize hPS : partsE 41 s = PS at hr Hparts hpl HL
    generalize hSE : (snapE 41 s).length = SL at HL hK
    have HSE := Lib.hid hSE
    have HPL := Lib.hid hpl
    clear hg hlen hn hpl hPS hSE
    obtain ⟨st, sp, sw⟩ := s
    simp only at htm hnp hnw Hparts Hhead
    obtain ⟨ht0, ht1⟩ := htm
    obtain ⟨t, rfl⟩ : ∃ t : Nat, st = (t : Int) := ⟨st.toNat, by omega⟩
    simp only [Int.toNat_natCast] at Hhead
    have hHD : u8s HD = u8s (numE t 8) ++ [.int .u8 (sp.length : Int), .int .u8 (sw.length : Int)] ∧ HD.length = 10 := by
      rw [Hhead.out, u8s_append]
      refine ⟨?_, by simp [numE_len]⟩
      congr 1
      simp only [u8s, List.map_cons, List.map_nil]
      rw [ofNat_toNat (by omega), ofNat_toNat (by omega)]
    obtain ⟨n1, h1⟩ : ∃ n1, n1 = sp.length := ⟨_, rfl⟩
    obtain ⟨n2, h2⟩ : ∃ n2, n2 = sw.length := ⟨_, rfl⟩
    rw [← h1] at hHD hnp
    rw [← h2] at hHD hnw
    have H1 := Lib.hid h1
    have H2 := Lib.hid h2
    obtain ⟨b, off, rfl, hD, hcl⟩ := hr.2 (by omega)
    have h8 : (u8s (numE t 8)).length = 8 := by rw [u8s_length, numE_len]
    have e8 : w.cell? ⟨b, off + 8, none⟩ = some (.int .u8 (n1 : Int)) := by
      refine hcl 8 _ ?_
      rw [u8s_append, hHD.1, List.append_assoc, List.getElem?_append_right (by omega), h8]
      rfl
    have e9 : w.cell? ⟨b, off + 9, none⟩ = some (.int .u8 (n2 : Int)) := by
      refine hcl 9 _ ?_
      rw [u8s_append, hHD.1, List.append_assoc, List.getElem?_append_right (by omega), h8]
      rfl
    obtain ⟨hsl8, hr8⟩ := slice_h (P := Try.prog) (c := c) _ _ Try.underlying62 (by kernel_rfl) hr hnc 8 (by omega) 8 rfl
    have ht8 : (u8s (HD ++ leftE PS 0 (n - 10))).take (8 * 1) = u8s (numE t 8) := by
      rw [u8s_append, hHD.1, List.append_assoc, List.take_append_of_le_length (by omega), List.take_of_length_le (by omega)]
    rw [ht8] at hr8
    have hrn : readN (numE t 8) = t := readN_num t 8 (Nat.lt_of_le_of_lt (show t ≤ 1000 by omega) (by decide))
    have SR := Lib.hid (fun W (hW : Below w.heap.size w W) => sread_any (some ⟨b, off, none⟩) 8 c (numE t 8) Any W (hr8.keep (Same.any hW)) (by omega) (by rw [hrn]; omega))
    rw [hrn] at SR
    obtain ⟨Ar, hsl10, hr10⟩ := slice_l (P := Try.prog) (c := c) _ _ Try.underlying62 (by kernel_rfl) hr hnc 10 (by omega) 10 rfl
    have ht10 : (u8s (HD ++ leftE PS 0 (n - 10))).drop (10 * 1) = u8s (leftE PS 0 (n - 10)) := by
      rw [u8s_drop, List.drop_append, hHD.2]
      rw [List.drop_of_length_le (by omega)]
      rfl
    rw [ht10] at hr10
    have hl10 : n - 10 = (leftE PS 0 (n - 10)).length := by have := hr10.len; rwa [u8s_length] at this
    have HL10 := Lib.hid hl10
    have hr10' := hr10.imp (by omega) (D' := fun b => b < w.heap.size) fun _ _ h => h
    have lb := lt_of_cell e8
    clear hr8 hrn ht8 ht10 hcl hHD Hhead h8 hr10 hr h1 h2 hl10
    go_enter Try.func37, Try.ntmps37
    go_upto_region 3 with (fail)
    rw [← HW.out]
    clear HW
    go_wp2_with (go_at_call 55; refine (SR.out _ hbW).mono ?_; rintro e w' ⟨rfl, rfl⟩)
    obtain ⟨W1, hW1⟩ : ∃ W1, W1 = W.alloc (.cells #[.int .i64 (t : Int), .slice none 0 0, .slice none 0 0] 26) := ⟨_, rfl⟩
    have hO : Blk W1 W.heap.size 26 [.int .i64 (t : Int), .slice none 0 0, .slice none 0 0] := by rw [hW1]; exact Blk.new W _ _
    have hbW1 : Below W.heap.size W W1 := by rw [hW1]; exact (Below.refl _ _).alloc (Nat.le_refl _) _
    have hsW1 : W1.heap.size = W.heap.size + 1 := by rw [hW1]; simp
    rw [← hW1]
    have HsW1 := Lib.hid hsW1
    clear hW1 hsW1 SR
    have hbw1 : Below w.heap.size w W1 := hbW.trans (hbW1.mono hbW.size)
    have g8 := (Same.any (D := Any) hbw1).cell trivial e8
    have g9 := (Same.any (D := Any) hbw1).cell trivial e9
    have n8 : 8 < n := by omega
    have n9 : 9 < n := by omega
    have wn1 : IntKind.i64.wrap (n1 : Int) = (n1 : Int) := IntWalk.i64_in _ (by omega)
    have wn2 : IntKind.i64.wrap (n2 : Int) = (n2 : Int) := IntWalk.i64_in _ (by omega)
    go_quiet (fail)
    have hbq : Below W1.heap.size W1 (W1.drewN nq) := ⟨rfl, rfl, rfl, Nat.le_refl _, fun _ _ => rfl⟩
    generalize hwc : W1.drewN nq = wc at hbq ⊢
    have hsc : wc.heap.size = W1.heap.size := by rw [← hwc]; rfl
    have Hsc : Hid (wc.heap.size = w.heap.size + 2) := by unfold Hid; rw [hsc, HsW1.out, HsW.out]
    have hOc := hO.below hbq hO.lt
    have hZc := (hZ.below hbW1 hZ.lt).below hbq (by have := (hZ.below hbW1 hZ.lt).lt; exact this)
    have hbwc : Below w.heap.size w wc := hbw1.trans (hbq.mono hbw1.size)
    have hGo : W.heap.size = w.heap.size + 1 := HsW.out
    rw [hGo] at hOc ⊢
    clear hwc hbq hsc hO hZ hbW1 hbw1 g8 g9 e8 e9 hbW hGo
    generalize hc10 : c - 10 = cr
    rw [hc10] at hsl10
    have hcr : cr ≤ maxLen := by omega
    have hcr2 : n - 10 ≤ cr := by omega
    clear hc10
    go_wp2_with (fail)
    go_loopw [0, 36] (fun v0 i wr => ∃ k m Ar c' v, k ≤ n1 ∧ i = .int .i64 (k : Nat) ∧ v0 = .slice Ar (leftE PS k m).length c' ∧ ((leftE PS k m).length ≤ c' ∧ c' ≤ maxLen) ∧ Reads w (fun b => b < w.heap.size) 1 Ar (leftE PS k m).length (u8s (leftE PS k m)) ∧ Hid (((PS.take k).flatMap partE).length + m = n - 10) ∧
      Blk wr (w.heap.size + 1) 26 [.int .i64 (t : Int), v, .slice none 0 0] ∧ OwnList 48 8 (PcCells 41) wr (w.heap.size + 2) v (sp.take k) ∧ wc.grownBy wr (some (w.heap.size + 1))) (fun _ i _ => n1 - (intOf i).toNat)
    case atStart => exact ⟨0, n - 10, Ar, cr, _, Nat.zero_le _, rfl, by rw [← HL10.out], ⟨by rw [← HL10.out]; exact hcr2, hcr⟩, by rw [← HL10.out]; exact hr10', by unfold Hid; simp, hOc, by simpa using OwnList.nil _ _ _ _, World.grownBy.refl _ _⟩
    case round =>
      clear hOc hr10'
      obtain ⟨k, m, Ar, c', v, hk, rfl, rfl, ⟨hc1, hc2⟩, hR, Hm, hO, hown, hgr⟩ := hrel
      have hwr : Below w.heap.size w wr := ⟨hgr.os.trans hbwc.os, hgr.tape.trans hbwc.tape, hgr.output.trans hbwc.output, Nat.le_trans hbwc.size hgr.size, fun i hi => (hgr.block i (Nat.lt_of_lt_of_le hi hbwc.size) (by simp; omega)).trans (hbwc.block i hi)⟩
      have hRr := hR.keep (Same.of_below hwr fun _ hb _ => hb)
      obtain ⟨A5, c5, rfl, hc5⟩ := hown.form
      have hZr := hZc.grown hgr (by simp)
      have hll := left_len PS k m
      have hmb : m ≤ 20000000 := by have := Hm.out; omega
      by_cases hlt : k < n1
      · have hkl : k < sp.length := by have := H1.out; omega
        have hat : PS[k]? = some (encP 41 sp[k]) := by rw [Hparts.out]; exact parts_at.1 hkl
        have hgp := Hg.out.ps _ (List.getElem_mem hkl)
        have htk := List.take_succ_eq_append_getElem hkl
        generalize sp[k] = X at hat hgp htk
        have hxl := hgp.1.2.2.2.2
        have Hcut := Lib.hid (left_cut PS k m _ hat (by omega))
        have Hus := Lib.hid (used_next PS k _ hat)
        have Htot := used_le PS (k + 1)
        have HTK := Lib.hid htk
        have HG := Lib.hid hgp
        have hlk : (sp.take k).length = k := by rw [List.length_take]; omega
        rw [hlk] at hown hO hc5
        have lr := hO.lt
        have CU := Lib.hid (scut_any Ar (leftE PS k m).length c' (leftE PS k m) (fun b => b < w.heap.size) wr hRr hc1 hc2 (by omega))
        generalize hL : (leftE PS k m).length = L at CU hc1 hll
        clear hat hgp htk hRr hR hL hlk
        go_wp2_with (fail)
        refine CU.out.mono ?_
        rintro e w2 (⟨x, r, Ax, cx, Ay, cy, hcut, rfl, ⟨hx1, hx2⟩, ⟨hy1, hy2⟩, hrx, hry, hb2⟩ | ⟨hcut, rfl, hb2⟩)
        · rw [Hcut.out] at hcut
          by_cases hfit : 4 + (encP 41 X).length ≤ m
          · rw [if_pos hfit] at hcut
            injection hcut with hcut
            injection hcut with hcx hcy
            subst hcx hcy
            have hw2 : Below w.heap.size w w2 := hwr.trans (hb2.mono hwr.size)
            have hry' := hry.keep (w' := w) (fun b hb hl => (hw2.block b hb).symm)
            have hrx' := hrx.imp (by omega) (D' := Any) fun _ _ _ => trivial
            have RP := Lib.hid (ReadP_any Ax (encP 41 X).length cx (encP 41 X) X w2 rfl hx1 hx2 hrx' (by omega) (decP_nice HG.out) HG.out.1.1)
            generalize hLx : (encP 41 X).length = Lx at RP hx1 hfit hxl Hus hy1 hry' ⊢
            have HM : Hid (((PS.take (k + 1)).flatMap partE).length + (m - (4 + Lx)) = n - 10) := by have := Hus.out; have := Hm.out; unfold Hid; omega
            generalize hLy : (leftE PS (k + 1) (m - (4 + Lx))).length = Ly at hry' hy1 ⊢
            have HLy := Lib.hid hLy
            clear hLx hLy hrx hry hrx' CU
            go_wp2_with (fail)
            refine RP.out.mono ?_
            rintro e w3 ⟨cs3, rfl, hv3, hb3⟩
            have hb23 : Below wr.heap.size wr w3 := hb2.trans (hb3.mono hb2.size)
            have hO2 := hO.below hb23 lr
            have hown2 := hown.keep (PcCells.stable 41) (Same.of_below hb23 fun _ _ h => h)
            have hol := hown.lt
            have hgr2 : wc.grownBy w3 (some (w.heap.size + 1)) := grownBy_trans hgr ⟨hb23.os, hb23.tape, hb23.output, hb23.size, fun i hi _ => hb23.block i hi⟩
            obtain ⟨P1, q1, P2, q2, P3, q3, P4, q4, P5, q5, rfl⟩ := PcCells.shape hv3
            obtain ⟨pr, ⟨sa, ss, si⟩, pb, pt, pw, pl⟩ := X
            simp only at hv3 ⊢
            have hy : PcCells 41 w3 (fun b => w.heap.size + 2 ≤ b ∧ (Value.slice A5 k c5).ownBlock ≠ some b) [.int .i64 pr, .string sa, .slice P1 ss.length q1, .slice P2 si.length q2, .slice P3 pb.length q3, .int .i64 pt, .slice P4 pw.length q4, .slice P5 pl.length q5] (⟨pr, ⟨sa, ss, si⟩, pb, pt, pw, pl⟩ : Pc) := (PcCells.stable 41).imp hv3 fun b hb _ => ⟨by have := hgr.size; have := Hsc.out; have := hb2.size; omega, fun e => by have := (hol b e).2; have := hb2.size; omega⟩
            obtain ⟨vs1, ho1, ha1⟩ := hown2
            have hol1 := ho1.lt
            have z1 := hO2.cell 1
            simp only [List.getElem?_cons_succ, List.getElem?_cons_zero] at z1
            have lo2 := hO2.lt
            have hs2 := hgr2.size
            have hlk : (sp.take k).length = k := by rw [List.length_take]; omega
            rw [hlk] at ho1
            have HLK := Lib.hid hlk
            clear hv3 hb3 hO hown hlk RP hb2 hb23
            go_wp2_with (at_builtin; refine app_Pc _ rfl (.tmp 57) (.tmp 59) rfl ((ho1.alloc _).alloc _) rfl (Reads.new_at (D := Any) _ [.int .i64 pr, .string sa, .slice P1 ss.length q1, .slice P2 si.length q2, .slice P3 pb.length q3, .int .i64 pt, .slice P4 pw.length q4, .slice P5 pl.length q5] 8 1 _ (w3.heap.size + 1) (by simp) trivial rfl) rfl (by simp [Value.oneCell']) (by omega) (by have := Hsc.out; simp; omega) ?_; intro v5 w4 hown5 hg5 hat5; obtain ⟨A8, c8, rfl, hn8⟩ := own_form hown5; have hO3 := ((hO2.alloc (.cells #[.int .i64 pr, .string sa, .slice P1 ss.length q1, .slice P2 si.length q2, .slice P3 pb.length q3, .int .i64 pt, .slice P4 pw.length q4, .slice P5 pl.length q5] 48)).alloc (.cells #[.int .i64 pr, .string sa, .slice P1 ss.length q1, .slice P2 si.length q2, .slice P3 pb.length q3, .int .i64 pt, .slice P4 pw.length q4, .slice P5 pl.length q5] 48)).grown hg5 (fun e => by have := (hol1 _ e.symm).1; omega); have y3 := hO3.cell 1; simp only [List.getElem?_cons_succ, List.getElem?_cons_zero] at y3; have f3 := hO3.frozen 1; have l3 := hO3.lt)
            have hpush := OwnList.push (w := w3.alloc (.cells #[.int .i64 pr, .string sa, .slice P1 ss.length q1, .slice P2 si.length q2, .slice P3 pb.length q3, .int .i64 pt, .slice P4 pw.length q4, .slice P5 pl.length q5] 48)) (PcCells.stable 41) (ha1.imp fun _ _ h => (PcCells.stable 41).keep h (Same.alloc _ _ _)) ((PcCells.stable 41).keep hy (Same.alloc _ _ _)) hg5 hat5 (by rw [HLK.out]; exact hown5)
            refine ⟨⟨k + 1, m - (4 + Lx), Ay, cy, _, by omega, by go_num, by rw [HLy.out], ⟨by rw [HLy.out]; exact hy1, hy2⟩, by rw [HLy.out]; exact hry', HM, hO3.put 1 _, by rw [HTK.out]; exact hpush.keep (PcCells.stable 41) (fun b hb _ => Below.heap_setCell w4 _ _ b (by show b ≠ w.heap.size + 1; omega)), ?_⟩, by simp [intOf]; omega⟩
            refine ⟨hg5.os.trans hgr2.os, hg5.tape.trans hgr2.tape, hg5.output.trans hgr2.output, (by have h1 := hg5.size; have h2 := hgr2.size; simp at h1; simp; omega), fun i hi hne => ?_⟩
            rw [Below.heap_setCell w4 _ _ i (by intro e; exact hne (by rw [e]))]
            rw [hg5.block i (by simp; omega) (fun e => by have := (hol1 _ e.symm).1; have := Hsc.out; omega), Below.heap_alloc _ _ i (by simp; omega), Below.heap_alloc w3 _ i (by omega)]
            exact hgr2.block i hi hne
          · rw [if_neg hfit] at hcut
            cases hcut
        · rw [Hcut.out] at hcut
          by_cases hfit : 4 + (encP 41 X).length ≤ m
          · rw [if_pos hfit] at hcut
            cases hcut
          · have Hf : Hid (n < (snapE 41 ⟨(t : Int), sp, sw⟩).length) := by
              unfold Hid
              rw [HSE.out, HL.out]
              have := Hus.out
              have := Hm.out
              omega
            have hw2 : Below w.heap.size w w2 := hwr.trans (hb2.mono hwr.size)
            have hZ2 := hZr.below hb2 hZr.lt
            clear hcut hfit CU hO hown Hus Htot
            go_wp2_with (fail)
            refine (ReadP_nil w2).mono ?_
            rintro e w3 ⟨rfl, hb3⟩
            simp only [zeroPc]
            have hw3 : Below w.heap.size w w3 := hw2.trans (hb3.mono hw2.size)
            have hZ3 := hZ2.below hb3 hZ2.lt
            have zz0 := hZ3.cell 0
            have zz1 := hZ3.cell 1
            have zz2 := hZ3.cell 2
            have fz0 := hZ3.frozen 0
            have fz1 := hZ3.frozen 1
            have fz2 := hZ3.frozen 2
            simp only [List.getElem?_cons_succ, List.getElem?_cons_zero] at zz0 zz1 zz2
            have lz := hZ3.lt
            have hq := (setRow_blk hZ3 [.int .i64 0, .slice none 0 0, .slice none 0 0] rfl).alloc (.cells #[.int .i64 0, .string ⟨#[]⟩, .slice none 0 0, .slice none 0 0, .slice none 0 0, .int .i64 0, .slice none 0 0, .slice none 0 0] 48)
            have hb9 := setRow_below (Nat.le_refl w.heap.size) [.int .i64 0, .slice none 0 0, .slice none 0 0] w3 0 hw3
            have hbq := hb9.alloc hb9.size (.cells #[.int .i64 0, .string ⟨#[]⟩, .slice none 0 0, .slice none 0 0, .slice none 0 0, .int .i64 0, .slice none 0 0, .slice none 0 0] 48)
            simp only [setRow, Nat.reduceAdd] at hq hbq
            have Hq := Lib.hid hq
            have Hbq := Lib.hid hbq
            clear hq hbq hb9 hZ3 hw3 hZ2 hw2 hZr hZc hb3 hb2
            go_wp2_with (fail)
            refine ret_blk_tmp rfl rfl Hq.out Try.underlying26 (by kernel_rfl) rfl ?_
            exact .inr ⟨Hf.out, rfl, Hbq.out⟩
      · obtain rfl : k = n1 := by omega
        have htk0 : sp.take k = sp := List.take_of_length_le (by have := H1.out; omega)
        rw [htk0] at hown hO hc5
        rw [← H1.out] at hO hc5
        obtain ⟨vsp, _, _, hcp, rpp, app⟩ := hown.reads (PcCells.stable 41) (by omega)
        have rpp' := rpp.imp (by omega) (D' := fun b => w.heap.size + 2 ≤ b ∧ b < wr.heap.size) fun b hb hl => ⟨hb, hl⟩
        have app' := app.imp fun _ _ h => (PcCells.stable 41).imp h (D' := fun b => w.heap.size + 2 ≤ b ∧ b < wr.heap.size) fun b hb hl => ⟨hb, hl⟩
        rw [← H1.out] at rpp'
        clear hown rpp app htk0 hRr hll hmb hlt
        obtain ⟨w5, hw5⟩ : ∃ w5, w5 = wr := ⟨_, rfl⟩
        subst hw5
        have hs5 : w.heap.size + 2 ≤ w5.heap.size := by have := hgr.size; have := Hsc.out; omega
        go_wp2_with (fail)
        go_loopw [0, 65] (fun v0 i wr => ∃ j m Ar c' v, j ≤ n2 ∧ i = .int .i64 (j : Nat) ∧ v0 = .slice Ar (leftE PS (k + j) m).length c' ∧ ((leftE PS (k + j) m).length ≤ c' ∧ c' ≤ maxLen) ∧ Reads w (fun b => b < w.heap.size) 1 Ar (leftE PS (k + j) m).length (u8s (leftE PS (k + j) m)) ∧ Hid (((PS.take (k + j)).flatMap partE).length + m = n - 10) ∧
          Blk wr (w.heap.size + 1) 26 [.int .i64 (t : Int), .slice A5 k c5, v] ∧ OwnList 51 3 (WyCells 41) wr w5.heap.size v (sw.take j) ∧ w5.grownBy wr (some (w.heap.size + 1))) (fun _ i _ => n2 - (intOf i).toNat)
        case atStart => exact ⟨0, m, Ar, c', _, Nat.zero_le _, rfl, rfl, ⟨hc1, hc2⟩, hR, Hm, hO, by simpa using OwnList.nil _ _ _ _, World.grownBy.refl _ _⟩
        case round =>
          clear hO hR Hm hc1 hc2
          obtain ⟨j, m, Ar, c', v, hj, rfl, rfl, ⟨hc1, hc2⟩, hR, Hm, hO, hown, hgr5⟩ := hrel
          have hw5r : Below w.heap.size w wr := ⟨hgr5.os.trans hwr.os, hgr5.tape.trans hwr.tape, hgr5.output.trans hwr.output, Nat.le_trans hwr.size hgr5.size, fun i hi => (hgr5.block i (Nat.lt_of_lt_of_le hi hwr.size) (by simp; omega)).trans (hwr.block i hi)⟩
          have hRr := hR.keep (Same.of_below hw5r fun _ hb _ => hb)
          obtain ⟨A7, c7, rfl, hc7⟩ := hown.form
          have hZ5 := hZr.grown hgr5 (by simp)
          have hll := left_len PS (k + j) m
          have hmb : m ≤ 20000000 := by have := Hm.out; omega
          by_cases hlt : j < n2
          · have hkl : j < sw.length := by have := H2.out; omega
            have hat : PS[k + j]? = some (wayE 41 sw[j]) := by rw [Hparts.out, H1.out]; exact parts_at.2 hkl
            have hgw := Hg.out.ws _ (List.getElem_mem hkl)
            have htk := List.take_succ_eq_append_getElem hkl
            generalize sw[j] = X at hat hgw htk
            have hxl := wayE_len X hgw
            have Hcut := Lib.hid (left_cut PS (k + j) m _ hat (by omega))
            have Hus := Lib.hid (used_next PS (k + j) _ hat)
            have Htot := used_le PS (k + j + 1)
            have HTK := Lib.hid htk
            have HG := Lib.hid hgw
            have hlk : (sw.take j).length = j := by rw [List.length_take]; omega
            rw [hlk] at hown hO hc7
            have lr := hO.lt
            have CU := Lib.hid (scut_any Ar (leftE PS (k + j) m).length c' (leftE PS (k + j) m) (fun b => b < w.heap.size) wr hRr hc1 hc2 (by omega))
            generalize hL : (leftE PS (k + j) m).length = L at CU hc1 hll
            clear hat hgw htk hRr hR hL hlk
            go_wp2_with (fail)
            refine CU.out.mono ?_
            rintro e w2 (⟨x, r, Ax, cx, Ay, cy, hcut, rfl, ⟨hx1, hx2⟩, ⟨hy1, hy2⟩, hrx, hry, hb2⟩ | ⟨hcut, rfl, hb2⟩)
            · rw [Hcut.out] at hcut
              by_cases hfit : 4 + (wayE 41 X).length ≤ m
              · rw [if_pos hfit] at hcut
                injection hcut with hcut
                injection hcut with hcx hcy
                subst hcx hcy
                have hw2 : Below w.heap.size w w2 := hw5r.trans (hb2.mono hw5r.size)
                have hry' := hry.keep (w' := w) (fun b hb hl => (hw2.block b hb).symm)
                have hrx' := hrx.imp (by omega) (D' := Any) fun _ _ _ => trivial
                have RP := Lib.hid (way_any Ax (wayE 41 X).length cx X w2 HG.out rfl hx1 hx2 hrx')
                generalize hLx : (wayE 41 X).length = Lx at RP hx1 hfit hxl Hus hy1 hry' ⊢
                have HM : Hid (((PS.take (k + j + 1)).flatMap partE).length + (m - (4 + Lx)) = n - 10) := by have := Hus.out; have := Hm.out; unfold Hid; omega
                generalize hLy : (leftE PS (k + j + 1) (m - (4 + Lx))).length = Ly at hry' hy1 ⊢
                have HLy := Lib.hid hLy
                clear hLx hLy hrx hry hrx' CU
                go_wp2_with (fail)
                refine RP.out.mono ?_
                rintro e w3 ⟨cs3, rfl, hv3, hb3⟩
                have hb23 : Below wr.heap.size wr w3 := hb2.trans (hb3.mono hb2.size)
                have hO2 := hO.below hb23 lr
                have hown2 := hown.keep (WyCells.stable 41) (Same.of_below hb23 fun _ _ h => h)
                have hol := hown.lt
                have hgr2 : w5.grownBy w3 (some (w.heap.size + 1)) := grownBy_trans hgr5 ⟨hb23.os, hb23.tape, hb23.output, hb23.size, fun i hi _ => hb23.block i hi⟩
                obtain ⟨L1, l1, rfl⟩ := WyCells.out hv3
                obtain ⟨yf, yt, yl⟩ := X
                simp only at hv3 ⊢
                have hy : WyCells 41 w3 (fun b => w5.heap.size ≤ b ∧ (Value.slice A7 j c7).ownBlock ≠ some b) [.int .i64 yf, .int .i64 yt, .slice L1 yl.length l1] (⟨yf, yt, yl⟩ : Wy) := (WyCells.stable 41).imp hv3 fun b hb _ => ⟨by have := hgr5.size; have := hb2.size; omega, fun e => by have := (hol b e).2; have := hb2.size; omega⟩
                obtain ⟨vs1, ho1, ha1⟩ := hown2
                have hol1 := ho1.lt
                have z1 := hO2.cell 2
                simp only [List.getElem?_cons_succ, List.getElem?_cons_zero] at z1
                have lo2 := hO2.lt
                have hs2 := hgr2.size
                have hlk : (sw.take j).length = j := by rw [List.length_take]; omega
                rw [hlk] at ho1
                have HLK := Lib.hid hlk
                clear hv3 hb3 hO hown hlk RP hb2 hb23
                go_wp2_with (at_builtin; refine app_Wy _ rfl (.tmp 86) (.tmp 88) rfl ((ho1.alloc _).alloc _) rfl (Reads.new_at (D := Any) _ [.int .i64 yf, .int .i64 yt, .slice L1 yl.length l1] 3 1 _ (w3.heap.size + 1) (by simp) trivial rfl) rfl (by simp [Value.oneCell']) (by omega) (by simp; omega) ?_; intro v5 w4 hown5 hg5 hat5; obtain ⟨A8, c8, rfl, hn8⟩ := own_form hown5; have hO3 := ((hO2.alloc (.cells #[.int .i64 yf, .int .i64 yt, .slice L1 yl.length l1] 51)).alloc (.cells #[.int .i64 yf, .int .i64 yt, .slice L1 yl.length l1] 51)).grown hg5 (fun e => by have := (hol1 _ e.symm).1; omega); have y3 := hO3.cell 2; simp only [List.getElem?_cons_succ, List.getElem?_cons_zero] at y3; have f3 := hO3.frozen 2; have l3 := hO3.lt)
                have hpush := OwnList.push (w := w3.alloc (.cells #[.int .i64 yf, .int .i64 yt, .slice L1 yl.length l1] 51)) (WyCells.stable 41) (ha1.imp fun _ _ h => (WyCells.stable 41).keep h (Same.alloc _ _ _)) ((WyCells.stable 41).keep hy (Same.alloc _ _ _)) hg5 hat5 (by rw [HLK.out]; exact hown5)
                refine ⟨⟨j + 1, m - (4 + Lx), Ay, cy, _, by omega, by go_num, by rw [← Nat.add_assoc, HLy.out], ⟨by rw [← Nat.add_assoc, HLy.out]; exact hy1, hy2⟩, by rw [← Nat.add_assoc, HLy.out]; exact hry', HM, hO3.put 2 _, by rw [HTK.out]; exact hpush.keep (WyCells.stable 41) (fun b hb _ => Below.heap_setCell w4 _ _ b (by show b ≠ w.heap.size + 1; omega)), ?_⟩, by simp [intOf]; omega⟩
                refine ⟨hg5.os.trans hgr2.os, hg5.tape.trans hgr2.tape, hg5.output.trans hgr2.output, (by have h1 := hg5.size; have h2 := hgr2.size; simp at h1; simp; omega), fun i hi hne => ?_⟩
                rw [Below.heap_setCell w4 _ _ i (by intro e; exact hne (by rw [e]))]
                rw [hg5.block i (by simp; omega) (fun e => by have := (hol1 _ e.symm).1; omega), Below.heap_alloc _ _ i (by simp; omega), Below.heap_alloc w3 _ i (by omega)]
                exact hgr2.block i hi hne
              · rw [if_neg hfit] at hcut
                cases hcut
            · rw [Hcut.out] at hcut
              by_cases hfit : 4 + (wayE 41 X).length ≤ m
              · rw [if_pos hfit] at hcut
                cases hcut
              · have Hf : Hid (n < (snapE 41 ⟨(t : Int), sp, sw⟩).length) := by
                  unfold Hid
                  rw [HSE.out, HL.out]
                  have := Hus.out
                  have := Hm.out
                  omega
                have hw2 : Below w.heap.size w w2 := hw5r.trans (hb2.mono hw5r.size)
                have hZ2 := hZ5.below hb2 hZ5.lt
                clear hcut hfit CU hO hown Hus Htot
                go_wp2_with (fail)
                refine (way_nil w2).mono ?_
                rintro e w3 ⟨rfl, hb3⟩
                have hw3 : Below w.heap.size w w3 := hw2.trans (hb3.mono hw2.size)
                have hZ3 := hZ2.below hb3 hZ2.lt
                have zz0 := hZ3.cell 0
                have zz1 := hZ3.cell 1
                have zz2 := hZ3.cell 2
                have fz0 := hZ3.frozen 0
                have fz1 := hZ3.frozen 1
                have fz2 := hZ3.frozen 2
                simp only [List.getElem?_cons_succ, List.getElem?_cons_zero] at zz0 zz1 zz2
                have lz := hZ3.lt
                have hq := (setRow_blk hZ3 [.int .i64 0, .slice none 0 0, .slice none 0 0] rfl).alloc (.cells #[.int .i64 0, .int .i64 0, .slice none 0 0] 51)
                have hb9 := setRow_below (Nat.le_refl w.heap.size) [.int .i64 0, .slice none 0 0, .slice none 0 0] w3 0 hw3
                have hbq := hb9.alloc hb9.size (.cells #[.int .i64 0, .int .i64 0, .slice none 0 0] 51)
                simp only [setRow, Nat.reduceAdd] at hq hbq
                have Hq := Lib.hid hq
                have Hbq := Lib.hid hbq
                clear hq hbq hb9 hZ3 hw3 hZ2 hw2 hZr hZc hb3 hb2 hZ5
                go_wp2_with (fail)
                refine ret_blk_tmp rfl rfl Hq.out Try.underlying26 (by kernel_rfl) rfl ?_
                exact .inr ⟨Hf.out, rfl, Hbq.out⟩
          · obtain rfl : j = n2 := by omega
            have hpn : PS.length = k + j := by rw [Hparts.out]; have := H1.out; have := H2.out; simp; omega
            have hl0 : leftE PS (k + j) m = [] := by unfold leftE; rw [List.drop_of_length_le (by omega)]; simp
            have hus0 : ((PS.take (k + j)).flatMap partE).length = (PS.flatMap partE).length := by rw [List.take_of_length_le (by omega)]
            have Hf : Hid ((snapE 41 ⟨(t : Int), sp, sw⟩).length ≤ n) := by
              unfold Hid
              rw [HSE.out, HL.out]
              have := Hm.out
              omega
            have htk0 : sw.take j = sw := List.take_of_length_le (by have := H2.out; omega)
            rw [htk0] at hown hO hc7
            rw [← H2.out] at hO hc7
            obtain ⟨vsw, _, _, hcw, rww, aww⟩ := hown.reads (WyCells.stable 41) (by omega)
            rw [← H2.out] at rww
            have hk1 : Same (fun b => w.heap.size + 2 ≤ b ∧ b < w5.heap.size) w5 wr := Same.of_grown hgr5 fun b hb _ e => by injection e with e; omega
            have hsn : SnCells 41 wr (fun b => w.heap.size < b) [.int .i64 (t : Int), .slice A5 k c5, .slice A7 j c7] ⟨(t : Int), sp, sw⟩ :=
              ⟨A5, c5, vsp, A7, c7, vsw, by simp only; rw [H1.out, H2.out], ⟨by simp only; omega, by simp only; omega⟩, ⟨by simp only; have := H1.out; omega, by simp only; rw [← H1.out]; exact hc5.1, hcp⟩, ⟨by simp only; have := H2.out; omega, by simp only; rw [← H2.out]; exact hc7.1, hcw⟩, by simp only; rw [← H1.out]; exact (rpp'.keep hk1).imp (by omega) fun b hb _ => by omega, app'.imp fun _ _ h => (PcCells.stable 41).imp ((PcCells.stable 41).keep h hk1) fun b hb _ => by omega, by simp only; rw [← H2.out]; exact rww.imp (by omega) fun b hb _ => by omega, aww.imp fun _ _ h => (WyCells.stable 41).imp h fun b hb _ => by omega⟩
            have zz0 := hZ5.cell 0
            have zz1 := hZ5.cell 1
            have zz2 := hZ5.cell 2
            have fz0 := hZ5.frozen 0
            have fz1 := hZ5.frozen 1
            have fz2 := hZ5.frozen 2
            simp only [List.getElem?_cons_succ, List.getElem?_cons_zero] at zz0 zz1 zz2
            have oo0 := hO.cell 0
            have oo1 := hO.cell 1
            have oo2 := hO.cell 2
            simp only [List.getElem?_cons_succ, List.getElem?_cons_zero] at oo0 oo1 oo2
            have lz := hZ5.lt
            have lo := hO.lt
            have hq := setRow_blk hZ5 [.int .i64 (t : Int), .slice A5 k c5, .slice A7 j c7] rfl
            have hbq := setRow_below (Nat.le_refl w.heap.size) [.int .i64 (t : Int), .slice A5 k c5, .slice A7 j c7] wr 0 hw5r
            have hvq := (SnCells.stable 41).imp ((SnCells.stable 41).keep hsn (setRow_same (g := w.heap.size) (by omega) [.int .i64 (t : Int), .slice A5 k c5, .slice A7 j c7] wr 0)) (D' := fun b => w.heap.size ≤ b) fun b hb _ => by omega
            simp only [setRow, Nat.reduceAdd] at hq hbq hvq
            have Hq := Lib.hid hq
            have Hbq := Lib.hid hbq
            have Hvq := Lib.hid hvq
            have hl00 : (leftE PS (k + j) m).length = 0 := by rw [hl0]; rfl
            generalize hL : (leftE PS (k + j) m).length = L at hl00 hc1 hR hRr
            subst hl00
            clear hq hbq hvq hsn hO hown rww aww hZ5 hgr5 hR hRr rpp' app' hk1 htk0 hl0 hL hw5r hus0 hpn hZr hZc
            go_wp2_with (fail)
            refine ret_blk_tmp rfl rfl Hq.out Try.underlying26 (by kernel_rfl) rfl ?_
            exact .inl ⟨Hf.out, _, rfl, Hvq.out, Hbq.out⟩
end Go.Proofs.Yteojmmjanjilaaa
