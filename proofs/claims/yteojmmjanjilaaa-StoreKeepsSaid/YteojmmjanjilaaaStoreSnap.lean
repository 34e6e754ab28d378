/- What snapOf makes of raw ones; its contract. (Printed by storesnap.py.) -/
import Derived.Test.YteojmmjanjilaaaStoreDec
import Derived.Test.YteojmmjanjilaaaMailPar
set_option linter.unusedVariables false
namespace Go.Val
open Go.RowKit Go.Mem
def snPs (l : List Raw) (k : Nat) : List Pc := (List.range k).map fun i => parF (l.drop i) (1001 + (i : Int))
def snLs (l : List Raw) (k : Nat) : List L := (List.range k).map fun i => letF ((l.drop i).take 5)
def snWs (l : List Raw) (k : Nat) : List Wy := (List.range k).map fun (i : Nat) => (⟨1, 2 + (i : Int), snLs l (min l.length 3)⟩ : Wy)
theorem snPs_next (l : List Raw) (k : Nat) : snPs l (k + 1) = snPs l k ++ [parF (l.drop k) (1001 + (k : Int))] := by simp [snPs, List.range_succ]
theorem snLs_next (l : List Raw) (k : Nat) : snLs l (k + 1) = snLs l k ++ [letF ((l.drop k).take 5)] := by simp [snLs, List.range_succ]
theorem snWs_next (l : List Raw) (k : Nat) : snWs l (k + 1) = snWs l k ++ [⟨1, 2 + (k : Int), snLs l (min l.length 3)⟩] := by simp [snWs, List.range_succ]
/-- the snapshot of raw ones -/
def snF (l : List Raw) (n : Int) : Snp := ⟨restN n 1000, snPs l (1 + (restN n 3).toNat), snWs l (restN (n.tdiv 7) 3).toNat⟩
end Go.Val
namespace Go.Proofs.Yteojmmjanjilaaa
open Go.RowKit Go.Mem Go.Val Go.Chunk

theorem step_app_Pc (w : World) {ops : Array Oper} {o : Oper} {a : Act} {K : Act → World → Prop} {Q : Exit → Act → World → Prop} {E : Prop} (hgd : o.guard = none) (s x : Operand)
    (ho : o.op = .call { callee := .builtin .append, args := #[s, x], argTypes := #[23, 23] })
    {base : Nat} {v : Value} {n : Nat} {xs : List Value} (hown : w.ownsRow base 48 8 v n xs) (hs : a.eval s = v)
    {D : Nat → Prop} {A : Option Addr} {m : Nat} {news : List Value} (hr : Reads w D 8 A m news) {c : Nat} (hx : a.eval x = .slice A m c) (h1 : ∀ u ∈ news, u.oneCell' = true)
    (h63 : n + m ≤ 1099511627) (hbase : base ≤ w.heap.size)
    (h : ∀ v' w', w'.ownsRow base 48 8 v' (n + m) (xs ++ news) → w.grownBy w' v.ownBlock → (v'.ownBlock = v.ownBlock ∨ v'.ownBlock = some w.heap.size) → K (a.put o.dst v') w') :
    if Region.wanted o (yielded ops a.tmps) = true then Oper.wp Try.prog o a w K Q else E := by
  obtain ⟨i0, hi0, hz0, hz1, hz2⟩ := info_parts info_Pc
  exact step_append_any w hgd s x _ ho base _ i0 _ 8 _ (by kernel_rfl) hi0 hz0 hz1 hz2 rfl (by omega) v n xs hs hown D A m c news hx hr h1 (by simp only [maxLen]; omega) (by omega) hbase h
/-- l[k:] -/
theorem tail_raws {l : List Raw} {A : Option Addr} {n c : Nat} {rss : List (List Value)} {w : World} (hn : n = l.length) (hnc : n ≤ c) (hcm : c ≤ maxLen) (hr : Reads w Any 4 A n rss.flatten) (ha : All2 (RawCells w Any) rss l) (k : Nat) (h : Int) (hk : k ≤ n) (hh : h = (k : Int)) :
    ∃ A' m rss', (∀ W : World, (Instr.slice 22 (.slice A n c) (some (.int .i64 h)) none none).run Try.prog W = .ok (.slice A' m (c - k)) W) ∧ m = (l.drop k).length ∧ m ≤ c - k ∧ Reads w Any 4 A' m rss'.flatten ∧ All2 (RawCells w Any) rss' (l.drop k) := by
  have hl := ha.lens RawCells.stable
  obtain ⟨A', h1, h2⟩ := slice_l 22 80 Try.underlying22 (by kernel_rfl) hr hnc k hk h hh
  refine ⟨A', n - k, rss.drop k, h1, by rw [List.length_drop, hn], by omega, ?_, ha.drop k⟩
  rw [flat_drop rss k hl] at h2
  exact h2

/-- l[k:min(len(l), k+5)] -/
theorem sub_raws5 {l : List Raw} {A : Option Addr} {n c : Nat} {rss : List (List Value)} {w : World} (hn : n = l.length) (hnc : n ≤ c) (hcm : c ≤ maxLen) (hr : Reads w Any 4 A n rss.flatten) (ha : All2 (RawCells w Any) rss l) (k : Nat) (hk : k < n) (h : Int) (hh : h = ((min n (k + 5) : Nat) : Int)) :
    ∃ A' m rss', (∀ W : World, (Instr.slice 22 (.slice A n c) (some (.int .i64 (k : Int))) (some (.int .i64 h)) none).run Try.prog W = .ok (.slice A' m (c - k)) W) ∧ m = ((l.drop k).take 5).length ∧ m ≤ c - k ∧ Reads w Any 4 A' m rss'.flatten ∧ All2 (RawCells w Any) rss' ((l.drop k).take 5) := by
  have hl := ha.lens RawCells.stable
  obtain ⟨A', h1, h2⟩ := slice_lh 22 80 Try.underlying22 (by kernel_rfl) hr hnc k (min n (k + 5) - k) (by omega) (k : Int) h rfl (by rw [hh]; congr 1; omega)
  have e : (l.drop k).take (min n (k + 5) - k) = (l.drop k).take 5 := by
    rcases Nat.lt_or_ge n (k + 5) with h6 | h6
    · rw [List.take_of_length_le (by rw [List.length_drop]; omega), List.take_of_length_le (by rw [List.length_drop]; omega)]
    · congr 1; omega
  refine ⟨A', min n (k + 5) - k, (rss.drop k).take (min n (k + 5) - k), h1, by rw [← e, List.length_take, List.length_drop]; omega, by omega, ?_, ?_⟩
  · rw [flat_drop rss k hl, flat_take4 _ _ fun c hc => hl c (List.mem_of_mem_drop hc)] at h2
    exact h2
  · rw [← e]
    exact (ha.drop k).take _
def SnPost (w : World) (s : Snp) (e : Ending) (w' : World) : Prop := ∃ cs, e = .returned (.agg cs.toArray) ∧ SnCells 41 w' (fun b => w.heap.size ≤ b) cs s ∧ Below w.heap.size w w'

set_option maxRecDepth 100000 in
set_option maxHeartbeats 60000000 in
theorem snapOf_any (n0 : Int) (l : List Raw) (A : Option Addr) (n c : Nat) (rss : List (List Value)) (w : World) (hi : I64 n0) (hn : n = l.length) (hnc : n ≤ c) (hcm : c ≤ maxLen) (hr : Reads w Any 4 A n rss.flatten) (ha : All2 (RawCells w Any) rss l) :
    Calls Try.prog 4 #[.int .i64 n0, .slice A n c] w (SnPost w (snF l n0)) := by
  have Hn := Lib.hid hn
  clear hn
  have hcm' : c ≤ 9223372036854775807 := by unfold maxLen at hcm; omega
  have q1 := restI_bd n0 1000 (by omega)
  have q2 := restI_bd n0 3 (by omega)
  have q3 := restI_bd (n0.tdiv 7) 3 (by omega)
  have HF : Hid (snF l n0 = ⟨restI n0 1000, snPs l (1 + (restI n0 3).toNat), snWs l (restI (n0.tdiv 7) 3).toNat⟩) := rfl
  generalize snF l n0 = S at HF ⊢
  obtain ⟨t, h1⟩ : ∃ t : Nat, restI n0 1000 = (t : Int) := ⟨(restI n0 1000).toNat, by omega⟩
  obtain ⟨r2, h2⟩ : ∃ t : Nat, restI n0 3 = (t : Int) := ⟨(restI n0 3).toNat, by omega⟩
  obtain ⟨nw, h3⟩ : ∃ t : Nat, restI (n0.tdiv 7) 3 = (t : Int) := ⟨(restI (n0.tdiv 7) 3).toNat, by omega⟩
  rw [h1, h2, h3] at HF
  rw [h1] at q1
  rw [h2] at q2
  rw [h3] at q3
  simp only [Int.toNat_natCast] at HF
  have R1 := Lib.hid (fun W => rest_q n0 1000 W (t : Int) hi (by omega) (by omega) h1)
  have R2 := Lib.hid (fun W => rest_q n0 3 W (r2 : Int) hi (by omega) (by omega) h2)
  have hi7 : I64 (n0.tdiv 7) := by
    obtain ⟨a1, a2⟩ := hi
    unfold I64
    rcases Int.le_total 0 n0 with h | h
    · rw [Int.tdiv_eq_ediv_of_nonneg h]
      omega
    · have e : n0.tdiv 7 = -((-n0).tdiv 7) := by rw [Int.neg_tdiv]; simp
      rw [e, Int.tdiv_eq_ediv_of_nonneg (by omega)]
      omega
  have R3 := Lib.hid (fun W => rest_q (n0.tdiv 7) 3 W (nw : Int) hi7 (by omega) (by omega) h3)
  clear h1 h2 h3
  obtain ⟨q1a, q1b⟩ := q1
  obtain ⟨q2a, q2b⟩ := q2
  obtain ⟨q3a, q3b⟩ := q3
  go_enter Try.func4, Try.ntmps4
  go_wp2_with (first | (go_at_call 11; (with_reducible refine (R1.out _).mono ?_); rintro e w' ⟨rfl, rfl⟩) | (go_at_call 11; (with_reducible refine (R2.out _).mono ?_); rintro e w' ⟨rfl, rfl⟩))
  obtain ⟨wc, hwc⟩ : ∃ wc, wc = (w.alloc (.cells #[.int .i64 0, .slice none 0 0, .slice none 0 0] 26)).alloc (.cells #[.int .i64 (t : Int), .slice none 0 0, .slice none 0 0] 26) := ⟨_, rfl⟩
  obtain ⟨hZc, hOc, hbwc, hsc⟩ := blks2 w 26 26 [.int .i64 0, .slice none 0 0, .slice none 0 0] [.int .i64 (t : Int), .slice none 0 0, .slice none 0 0] wc hwc
  have Hsc : Hid (wc.heap.size = w.heap.size + 2) := hsc
  rw [← hwc]
  clear hwc hsc
  obtain ⟨np, hnp⟩ : ∃ np, np = 1 + r2 := ⟨_, rfl⟩
  have hnp' : (1 : Int) + (r2 : Int) = (np : Int) := by omega
  rw [hnp']
  rw [← hnp] at HF
  have hnp3 : np ≤ 3 := by omega
  clear hnp hnp' q2a q2b R2
  go_loopw [16] (fun i wr => ∃ k v, k ≤ np ∧ i = .int .i64 (k : Nat) ∧ Blk wr (w.heap.size + 1) 26 [.int .i64 (t : Int), v, .slice none 0 0] ∧ OwnList 48 8 (PcCells 41) wr (w.heap.size + 2) v (snPs l k) ∧ wc.grownBy wr (some (w.heap.size + 1))) (fun i _ => np - (intOf i).toNat)
  case atStart => exact ⟨0, _, Nat.zero_le _, rfl, hOc, OwnList.nil _ _ _ _, World.grownBy.refl _ _⟩
  case round =>
    obtain ⟨k, v, hk, rfl, hO, hown, hgr⟩ := hrel
    have hwr : Below w.heap.size w wr := ⟨hgr.os.trans hbwc.os, hgr.tape.trans hbwc.tape, hgr.output.trans hbwc.output, Nat.le_trans hbwc.size hgr.size, fun i hi => (hgr.block i (Nat.lt_of_lt_of_le hi hbwc.size) (by simp; omega)).trans (hbwc.block i hi)⟩
    have hsame : Same Any w wr := Same.any hwr
    have hlk : (snPs l k).length = k := by simp [snPs]
    have HLK := Lib.hid hlk
    obtain ⟨A5, c5, rfl, hc5⟩ := hown.form
    rw [hlk] at hown hO hc5
    have lr := hO.lt
    by_cases hlt : k < np
    · have HTK := Lib.hid (snPs_next l k)
      have m1 := hO.cell 1
      simp only [List.getElem?_cons_succ, List.getElem?_cons_zero] at m1
      have hw1 : IntKind.i64.wrap (1001 + (k : Int)) = 1001 + (k : Int) := IntWalk.i64_in _ (by omega)
      clear hlk
      · skip
        by_cases hkn : k < n
        · have EQ : ((l.drop k).length : Nat) = (l.drop k).length := rfl
          obtain ⟨A', m, rss', hsl, hm, hmc, hr', ha'⟩ := tail_raws Hn.out hnc hcm hr ha k (k : Int) (by omega) (rfl)
          have h6 : (k : Int) < (n : Int) := by omega
          have h7 : decide ((k : Int) < (n : Int)) = true := decide_eq_true (by omega)
          have h8 : decide (k < n) = true := decide_eq_true (by omega)
          have PO := Lib.hid (fun (W : World) (hW : W.heap = wr.heap) => parcelOf_any (l.drop k) (1001 + k) A' m (c - k) rss' W ⟨by omega, by omega⟩ (hm.trans EQ) hmc (by omega) ((hr'.keep hsame).keep (Same.of_heap hW)) (ha'.imp fun _ _ h => h))
          clear hr' ha' hm
          go_upto_region 5 with (fail)
          refine wp_region_any (by kernel_rfl) ?_
          change wpAny _ _ _ _ _ _ _ (World.drew _)
          repeat (first | (refine wpAny_take (i := 0) (v := .pointer (some ⟨w.heap.size + 1, 1, none⟩)) rfl ?_ ?_ ?_ (fun _ _ _ h => h) (Or.inl ⟨by rfl, ?_⟩) ?_; (· decide +kernel); (· decide +kernel); (· decide +kernel); (· (intro w; go_simp))) | (refine wpAny_take (i := 2) (v := .int .i64 k) rfl ?_ ?_ ?_ (fun _ _ _ h => h) (Or.inl ⟨by rfl, ?_⟩) ?_; (· decide +kernel); (· decide +kernel); (· decide +kernel); (· (intro w; go_simp))) | (refine wpAny_take (i := 3) (v := .int .i64 (1001 + k)) rfl ?_ ?_ ?_ (fun _ _ _ h => h) (Or.inl ⟨by rfl, ?_⟩) ?_; (· decide +kernel); (· decide +kernel); (· decide +kernel); (· (intro w; go_simp))) | (refine wpAny_take (i := 4) (v := .slice A n c) rfl ?_ ?_ ?_ (fun _ _ _ h => h) (Or.inl ⟨by rfl, ?_⟩) ?_; (· decide +kernel); (· decide +kernel); (· decide +kernel); (· (intro w; go_simp))) | (refine wpAny_take (i := 5) (v := .slice A n c) rfl ?_ ?_ ?_ (fun _ _ _ h => h) (Or.inl ⟨by rfl, ?_⟩) ?_; (· decide +kernel); (· decide +kernel); (· decide +kernel); (· (intro w; go_simp))) | (refine wpAny_take (i := 6) (v := .int .i64 n) rfl ?_ ?_ ?_ (fun _ _ _ h => h) (Or.inl ⟨by rfl, ?_⟩) ?_; (· decide +kernel); (· decide +kernel); (· decide +kernel); (· (intro w; go_simp))) | (refine wpAny_take (i := 7) (v := .int .i64 k) rfl ?_ ?_ ?_ (fun _ _ _ h => h) (Or.inl ⟨by rfl, ?_⟩) ?_; (· decide +kernel); (· decide +kernel); (· decide +kernel); (· (intro w; go_simp))) | (refine wpAny_take (i := 8) (v := .int .i64 (k : Int)) rfl ?_ ?_ ?_ (fun _ _ _ h => h) (Or.inl ⟨by rfl, ?_⟩) ?_; (· decide +kernel); (· decide +kernel); (· decide +kernel); (· (intro w; go_simp))) | (refine wpAny_take (i := 9) (v := .slice A' m (c - k)) rfl ?_ ?_ ?_ (fun _ _ _ h => h) (Or.inl ⟨by rfl, ?_⟩) ?_; (· decide +kernel); (· decide +kernel); (· decide +kernel); (· (intro w; go_simp))))
          refine wpAny_ready (rs := [1, 10]) (by decide +kernel) (by simp) ?_
          refine AllReady.cons rfl (fun K hK => ?_) (AllReady.cons rfl (fun K hK => ?_) AllReady.nil)
          · go_simp
            refine hK _ _ ?_
            clear hK K
            refine wpAny_ready (rs := [10]) (by decide +kernel) (by simp) ?_
            refine AllReady.cons rfl (fun K hK => ?_) AllReady.nil
            (rw [if_pos (by simp [Region.wanted])]; unfold Oper.wp; go_simp; go_at_call 12; refine (PO.out wr.drew rfl).mono ?_; rintro e w1 ⟨cs1, rfl, hv1, hb1⟩; dsimp only; obtain ⟨P1, q1, P2, q2, P3, q3, P4, q4, P5, q5, rfl⟩ := PcCells.shape hv1; generalize hXX : parF (l.drop k) (1001 + k) = X at hv1 HTK ⊢; clear hXX; obtain ⟨pr, ⟨sa, ss, si⟩, pb, pt, pw, pl⟩ := X; simp only at hv1 ⊢; have hb1' : Below wr.heap.size wr w1 := below_of_drew hb1; have hO1 := hO.below hb1' lr; have hown1 := hown.keep (PcCells.stable 41) (Same.of_below hb1' fun _ _ h => h); have hol := hown.lt; have hgr1 : wc.grownBy w1 (some (w.heap.size + 1)) := grownBy_trans hgr ⟨hb1'.os, hb1'.tape, hb1'.output, hb1'.size, fun i hi _ => hb1'.block i hi⟩; have hs1 : wr.heap.size ≤ w1.heap.size := hb1'.size; have hy : PcCells 41 w1 (fun b => w.heap.size + 2 ≤ b ∧ (Value.slice A5 k c5).ownBlock ≠ some b) [.int .i64 pr, .string sa, .slice P1 ss.length q1, .slice P2 si.length q2, .slice P3 pb.length q3, .int .i64 pt, .slice P4 pw.length q4, .slice P5 pl.length q5] (⟨pr, ⟨sa, ss, si⟩, pb, pt, pw, pl⟩ : Pc) := (PcCells.stable 41).imp hv1 fun b hb _ => ⟨by have hb0 : wr.heap.size ≤ b := hb; have := hgr.size; have := Hsc.out; omega, fun e => by have hb0 : wr.heap.size ≤ b := hb; have := (hol b e).2; omega⟩; obtain ⟨vs1, ho1, ha1⟩ := hown1; have hol1 := ho1.lt; rw [HLK.out] at ho1; have z1 := hO1.cell 1; have z1a := fun o => (hO1.alloc o).cell 1; simp only [List.getElem?_cons_succ, List.getElem?_cons_zero] at z1 z1a; have lo1 := hO1.lt)
            refine hK _ _ ?_
            clear hK K
            refine wpAny_ready (rs := [11]) (by decide +kernel) (by simp) ?_
            refine AllReady.cons rfl (fun K hK => ?_) AllReady.nil
            go_simp
            refine hK _ _ ?_
            clear hK K
            refine wpAny_ready (rs := [12]) (by decide +kernel) (by simp) ?_
            refine AllReady.cons rfl (fun K hK => ?_) AllReady.nil
            refine step_app_Pc _ rfl (.tmp 20) (.tmp 30) (by rfl) (ho1.alloc _) rfl (Reads.new (D := Any) _ [.int .i64 pr, .string sa, .slice P1 ss.length q1, .slice P2 si.length q2, .slice P3 pb.length q3, .int .i64 pt, .slice P4 pw.length q4, .slice P5 pl.length q5] 8 1 _ trivial rfl) rfl (by simp [Value.oneCell']) (by omega) (by have := hgr1.size; have := Hsc.out; simp; omega) ?_
            intro v2 w2 hown2 hg2 hat2
            obtain ⟨A8, c8, rfl, hn8⟩ := own_form hown2
            have hO2 := (hO1.alloc (.cells #[.int .i64 pr, .string sa, .slice P1 ss.length q1, .slice P2 si.length q2, .slice P3 pb.length q3, .int .i64 pt, .slice P4 pw.length q4, .slice P5 pl.length q5] 48)).grown hg2 (fun e => by have := (hol1 _ e.symm).1; omega)
            have y2 := hO2.cell 1
            simp only [List.getElem?_cons_succ, List.getElem?_cons_zero] at y2
            have f2 := hO2.frozen 1
            have l2 := hO2.lt
            refine hK _ _ ?_
            clear hK K
            repeat (first | (refine wpAny_take (i := 13) (v := .pointer (some ⟨w.heap.size + 1, 1, none⟩)) rfl ?_ ?_ ?_ (fun _ _ _ h => h) (Or.inl ⟨by rfl, ?_⟩) ?_; (· decide +kernel); (· decide +kernel); (· decide +kernel); (· (intro w; go_simp))))
            refine wpAny_ready (rs := [14]) (by decide +kernel) (by simp) ?_
            refine AllReady.cons rfl (fun K hK => ?_) AllReady.nil
            go_simp
            refine hK _ _ ?_
            clear hK K
            refine wpAny_done (by decide +kernel) ?_ _
            go_wp2_with (fail)
            have hpush := OwnList.push (PcCells.stable 41) ha1 hy hg2 hat2 (by rw [HLK.out]; exact hown2)
            refine ⟨⟨k + 1, _, by omega, by go_num, hO2.put 1 _, by rw [HTK.out]; exact hpush.keep (PcCells.stable 41) (fun b hb _ => Below.heap_setCell w2 _ _ b (by show b ≠ w.heap.size + 1; omega)), ?_⟩, by simp [intOf]; omega⟩
            refine ⟨hg2.os.trans hgr1.os, hg2.tape.trans hgr1.tape, hg2.output.trans hgr1.output, (by have h1 := hg2.size; have h2 := hgr1.size; simp at h1; simp; omega), fun i hi hne => ?_⟩
            rw [Below.heap_setCell w2 _ _ i (by intro e; exact hne (by rw [e]))]
            have hi1 : i < w1.heap.size := Nat.lt_of_lt_of_le hi hgr1.size
            rw [hg2.block i (by simp; omega) (fun e => by have := (hol1 _ e.symm).1; have := Hsc.out; omega), Below.heap_alloc w1 _ i hi1]
            exact hgr1.block i hi hne
          · (rw [if_pos (by simp [Region.wanted])]; unfold Oper.wp; go_simp; go_at_call 12; refine (PO.out wr.drew rfl).mono ?_; rintro e w1 ⟨cs1, rfl, hv1, hb1⟩; dsimp only; obtain ⟨P1, q1, P2, q2, P3, q3, P4, q4, P5, q5, rfl⟩ := PcCells.shape hv1; generalize hXX : parF (l.drop k) (1001 + k) = X at hv1 HTK ⊢; clear hXX; obtain ⟨pr, ⟨sa, ss, si⟩, pb, pt, pw, pl⟩ := X; simp only at hv1 ⊢; have hb1' : Below wr.heap.size wr w1 := below_of_drew hb1; have hO1 := hO.below hb1' lr; have hown1 := hown.keep (PcCells.stable 41) (Same.of_below hb1' fun _ _ h => h); have hol := hown.lt; have hgr1 : wc.grownBy w1 (some (w.heap.size + 1)) := grownBy_trans hgr ⟨hb1'.os, hb1'.tape, hb1'.output, hb1'.size, fun i hi _ => hb1'.block i hi⟩; have hs1 : wr.heap.size ≤ w1.heap.size := hb1'.size; have hy : PcCells 41 w1 (fun b => w.heap.size + 2 ≤ b ∧ (Value.slice A5 k c5).ownBlock ≠ some b) [.int .i64 pr, .string sa, .slice P1 ss.length q1, .slice P2 si.length q2, .slice P3 pb.length q3, .int .i64 pt, .slice P4 pw.length q4, .slice P5 pl.length q5] (⟨pr, ⟨sa, ss, si⟩, pb, pt, pw, pl⟩ : Pc) := (PcCells.stable 41).imp hv1 fun b hb _ => ⟨by have hb0 : wr.heap.size ≤ b := hb; have := hgr.size; have := Hsc.out; omega, fun e => by have hb0 : wr.heap.size ≤ b := hb; have := (hol b e).2; omega⟩; obtain ⟨vs1, ho1, ha1⟩ := hown1; have hol1 := ho1.lt; rw [HLK.out] at ho1; have z1 := hO1.cell 1; have z1a := fun o => (hO1.alloc o).cell 1; simp only [List.getElem?_cons_succ, List.getElem?_cons_zero] at z1 z1a; have lo1 := hO1.lt)
            refine hK _ _ ?_
            clear hK K
            refine wpAny_ready (rs := [1, 11]) (by decide +kernel) (by simp) ?_
            refine AllReady.cons rfl (fun K hK => ?_) (AllReady.cons rfl (fun K hK => ?_) AllReady.nil)
            · go_simp
              refine hK _ _ ?_
              clear hK K
              refine wpAny_ready (rs := [11]) (by decide +kernel) (by simp) ?_
              refine AllReady.cons rfl (fun K hK => ?_) AllReady.nil
              go_simp
              refine hK _ _ ?_
              clear hK K
              refine wpAny_ready (rs := [12]) (by decide +kernel) (by simp) ?_
              refine AllReady.cons rfl (fun K hK => ?_) AllReady.nil
              refine step_app_Pc _ rfl (.tmp 20) (.tmp 30) (by rfl) (ho1.alloc _) rfl (Reads.new (D := Any) _ [.int .i64 pr, .string sa, .slice P1 ss.length q1, .slice P2 si.length q2, .slice P3 pb.length q3, .int .i64 pt, .slice P4 pw.length q4, .slice P5 pl.length q5] 8 1 _ trivial rfl) rfl (by simp [Value.oneCell']) (by omega) (by have := hgr1.size; have := Hsc.out; simp; omega) ?_
              intro v2 w2 hown2 hg2 hat2
              obtain ⟨A8, c8, rfl, hn8⟩ := own_form hown2
              have hO2 := (hO1.alloc (.cells #[.int .i64 pr, .string sa, .slice P1 ss.length q1, .slice P2 si.length q2, .slice P3 pb.length q3, .int .i64 pt, .slice P4 pw.length q4, .slice P5 pl.length q5] 48)).grown hg2 (fun e => by have := (hol1 _ e.symm).1; omega)
              have y2 := hO2.cell 1
              simp only [List.getElem?_cons_succ, List.getElem?_cons_zero] at y2
              have f2 := hO2.frozen 1
              have l2 := hO2.lt
              refine hK _ _ ?_
              clear hK K
              repeat (first | (refine wpAny_take (i := 13) (v := .pointer (some ⟨w.heap.size + 1, 1, none⟩)) rfl ?_ ?_ ?_ (fun _ _ _ h => h) (Or.inl ⟨by rfl, ?_⟩) ?_; (· decide +kernel); (· decide +kernel); (· decide +kernel); (· (intro w; go_simp))))
              refine wpAny_ready (rs := [14]) (by decide +kernel) (by simp) ?_
              refine AllReady.cons rfl (fun K hK => ?_) AllReady.nil
              go_simp
              refine hK _ _ ?_
              clear hK K
              refine wpAny_done (by decide +kernel) ?_ _
              go_wp2_with (fail)
              have hpush := OwnList.push (PcCells.stable 41) ha1 hy hg2 hat2 (by rw [HLK.out]; exact hown2)
              refine ⟨⟨k + 1, _, by omega, by go_num, hO2.put 1 _, by rw [HTK.out]; exact hpush.keep (PcCells.stable 41) (fun b hb _ => Below.heap_setCell w2 _ _ b (by show b ≠ w.heap.size + 1; omega)), ?_⟩, by simp [intOf]; omega⟩
              refine ⟨hg2.os.trans hgr1.os, hg2.tape.trans hgr1.tape, hg2.output.trans hgr1.output, (by have h1 := hg2.size; have h2 := hgr1.size; simp at h1; simp; omega), fun i hi hne => ?_⟩
              rw [Below.heap_setCell w2 _ _ i (by intro e; exact hne (by rw [e]))]
              have hi1 : i < w1.heap.size := Nat.lt_of_lt_of_le hi hgr1.size
              rw [hg2.block i (by simp; omega) (fun e => by have := (hol1 _ e.symm).1; have := Hsc.out; omega), Below.heap_alloc w1 _ i hi1]
              exact hgr1.block i hi hne
            · go_simp
              refine hK _ _ ?_
              clear hK K
              refine wpAny_ready (rs := [1]) (by decide +kernel) (by simp) ?_
              refine AllReady.cons rfl (fun K hK => ?_) AllReady.nil
              go_simp
              refine hK _ _ ?_
              clear hK K
              refine wpAny_ready (rs := [12]) (by decide +kernel) (by simp) ?_
              refine AllReady.cons rfl (fun K hK => ?_) AllReady.nil
              refine step_app_Pc _ rfl (.tmp 20) (.tmp 30) (by rfl) (ho1.alloc _) rfl (Reads.new (D := Any) _ [.int .i64 pr, .string sa, .slice P1 ss.length q1, .slice P2 si.length q2, .slice P3 pb.length q3, .int .i64 pt, .slice P4 pw.length q4, .slice P5 pl.length q5] 8 1 _ trivial rfl) rfl (by simp [Value.oneCell']) (by omega) (by have := hgr1.size; have := Hsc.out; simp; omega) ?_
              intro v2 w2 hown2 hg2 hat2
              obtain ⟨A8, c8, rfl, hn8⟩ := own_form hown2
              have hO2 := (hO1.alloc (.cells #[.int .i64 pr, .string sa, .slice P1 ss.length q1, .slice P2 si.length q2, .slice P3 pb.length q3, .int .i64 pt, .slice P4 pw.length q4, .slice P5 pl.length q5] 48)).grown hg2 (fun e => by have := (hol1 _ e.symm).1; omega)
              have y2 := hO2.cell 1
              simp only [List.getElem?_cons_succ, List.getElem?_cons_zero] at y2
              have f2 := hO2.frozen 1
              have l2 := hO2.lt
              refine hK _ _ ?_
              clear hK K
              repeat (first | (refine wpAny_take (i := 13) (v := .pointer (some ⟨w.heap.size + 1, 1, none⟩)) rfl ?_ ?_ ?_ (fun _ _ _ h => h) (Or.inl ⟨by rfl, ?_⟩) ?_; (· decide +kernel); (· decide +kernel); (· decide +kernel); (· (intro w; go_simp))))
              refine wpAny_ready (rs := [14]) (by decide +kernel) (by simp) ?_
              refine AllReady.cons rfl (fun K hK => ?_) AllReady.nil
              go_simp
              refine hK _ _ ?_
              clear hK K
              refine wpAny_done (by decide +kernel) ?_ _
              go_wp2_with (fail)
              have hpush := OwnList.push (PcCells.stable 41) ha1 hy hg2 hat2 (by rw [HLK.out]; exact hown2)
              refine ⟨⟨k + 1, _, by omega, by go_num, hO2.put 1 _, by rw [HTK.out]; exact hpush.keep (PcCells.stable 41) (fun b hb _ => Below.heap_setCell w2 _ _ b (by show b ≠ w.heap.size + 1; omega)), ?_⟩, by simp [intOf]; omega⟩
              refine ⟨hg2.os.trans hgr1.os, hg2.tape.trans hgr1.tape, hg2.output.trans hgr1.output, (by have h1 := hg2.size; have h2 := hgr1.size; simp at h1; simp; omega), fun i hi hne => ?_⟩
              rw [Below.heap_setCell w2 _ _ i (by intro e; exact hne (by rw [e]))]
              have hi1 : i < w1.heap.size := Nat.lt_of_lt_of_le hi hgr1.size
              rw [hg2.block i (by simp; omega) (fun e => by have := (hol1 _ e.symm).1; have := Hsc.out; omega), Below.heap_alloc w1 _ i hi1]
              exact hgr1.block i hi hne
        · have EQ : (l.drop n).length = (l.drop k).length := by have := Hn.out; rw [List.length_drop, List.length_drop]; omega
          obtain ⟨A', m, rss', hsl, hm, hmc, hr', ha'⟩ := tail_raws Hn.out hnc hcm hr ha n (n : Int) (by omega) (rfl)
          have h6 : (n : Int) ≤ (k : Int) := by omega
          have h7 : decide ((k : Int) < (n : Int)) = false := decide_eq_false (by omega)
          have h8 : (k < n) = False := by simp; omega
          have h9 : decide (k < n) = false := decide_eq_false (by omega)
          have h10 : ((k : Int) < (n : Int)) = False := by simp; omega
          have hdk : l.drop n = l.drop k := by have := Hn.out; rw [List.drop_of_length_le (by omega), List.drop_of_length_le (by omega)]
          rw [hdk] at ha'
          have PO := Lib.hid (fun (W : World) (hW : W.heap = wr.heap) => parcelOf_any (l.drop k) (1001 + k) A' m (c - n) rss' W ⟨by omega, by omega⟩ (hm.trans EQ) hmc (by omega) ((hr'.keep hsame).keep (Same.of_heap hW)) (ha'.imp fun _ _ h => h))
          clear hr' ha' hm
          go_upto_region 5 with (fail)
          refine wp_region_any (by kernel_rfl) ?_
          change wpAny _ _ _ _ _ _ _ (World.drew _)
          repeat (first | (refine wpAny_take (i := 0) (v := .pointer (some ⟨w.heap.size + 1, 1, none⟩)) rfl ?_ ?_ ?_ (fun _ _ _ h => h) (Or.inl ⟨by rfl, ?_⟩) ?_; (· decide +kernel); (· decide +kernel); (· decide +kernel); (· (intro w; go_simp))) | (refine wpAny_take (i := 2) (v := .int .i64 k) rfl ?_ ?_ ?_ (fun _ _ _ h => h) (Or.inl ⟨by rfl, ?_⟩) ?_; (· decide +kernel); (· decide +kernel); (· decide +kernel); (· (intro w; go_simp))) | (refine wpAny_take (i := 3) (v := .int .i64 (1001 + k)) rfl ?_ ?_ ?_ (fun _ _ _ h => h) (Or.inl ⟨by rfl, ?_⟩) ?_; (· decide +kernel); (· decide +kernel); (· decide +kernel); (· (intro w; go_simp))) | (refine wpAny_take (i := 4) (v := .slice A n c) rfl ?_ ?_ ?_ (fun _ _ _ h => h) (Or.inl ⟨by rfl, ?_⟩) ?_; (· decide +kernel); (· decide +kernel); (· decide +kernel); (· (intro w; go_simp))) | (refine wpAny_take (i := 5) (v := .slice A n c) rfl ?_ ?_ ?_ (fun _ _ _ h => h) (Or.inl ⟨by rfl, ?_⟩) ?_; (· decide +kernel); (· decide +kernel); (· decide +kernel); (· (intro w; go_simp))) | (refine wpAny_take (i := 6) (v := .int .i64 n) rfl ?_ ?_ ?_ (fun _ _ _ h => h) (Or.inl ⟨by rfl, ?_⟩) ?_; (· decide +kernel); (· decide +kernel); (· decide +kernel); (· (intro w; go_simp))) | (refine wpAny_take (i := 7) (v := .int .i64 k) rfl ?_ ?_ ?_ (fun _ _ _ h => h) (Or.inl ⟨by rfl, ?_⟩) ?_; (· decide +kernel); (· decide +kernel); (· decide +kernel); (· (intro w; go_simp))) | (refine wpAny_take (i := 8) (v := .int .i64 (n : Int)) rfl ?_ ?_ ?_ (fun _ _ _ h => h) (Or.inl ⟨by rfl, ?_⟩) ?_; (· decide +kernel); (· decide +kernel); (· decide +kernel); (· (intro w; go_simp))) | (refine wpAny_take (i := 9) (v := .slice A' m (c - n)) rfl ?_ ?_ ?_ (fun _ _ _ h => h) (Or.inl ⟨by rfl, ?_⟩) ?_; (· decide +kernel); (· decide +kernel); (· decide +kernel); (· (intro w; go_simp))))
          refine wpAny_ready (rs := [1, 10]) (by decide +kernel) (by simp) ?_
          refine AllReady.cons rfl (fun K hK => ?_) (AllReady.cons rfl (fun K hK => ?_) AllReady.nil)
          · go_simp
            refine hK _ _ ?_
            clear hK K
            refine wpAny_ready (rs := [10]) (by decide +kernel) (by simp) ?_
            refine AllReady.cons rfl (fun K hK => ?_) AllReady.nil
            (rw [if_pos (by simp [Region.wanted])]; unfold Oper.wp; go_simp; go_at_call 12; refine (PO.out wr.drew rfl).mono ?_; rintro e w1 ⟨cs1, rfl, hv1, hb1⟩; dsimp only; obtain ⟨P1, q1, P2, q2, P3, q3, P4, q4, P5, q5, rfl⟩ := PcCells.shape hv1; generalize hXX : parF (l.drop k) (1001 + k) = X at hv1 HTK ⊢; clear hXX; obtain ⟨pr, ⟨sa, ss, si⟩, pb, pt, pw, pl⟩ := X; simp only at hv1 ⊢; have hb1' : Below wr.heap.size wr w1 := below_of_drew hb1; have hO1 := hO.below hb1' lr; have hown1 := hown.keep (PcCells.stable 41) (Same.of_below hb1' fun _ _ h => h); have hol := hown.lt; have hgr1 : wc.grownBy w1 (some (w.heap.size + 1)) := grownBy_trans hgr ⟨hb1'.os, hb1'.tape, hb1'.output, hb1'.size, fun i hi _ => hb1'.block i hi⟩; have hs1 : wr.heap.size ≤ w1.heap.size := hb1'.size; have hy : PcCells 41 w1 (fun b => w.heap.size + 2 ≤ b ∧ (Value.slice A5 k c5).ownBlock ≠ some b) [.int .i64 pr, .string sa, .slice P1 ss.length q1, .slice P2 si.length q2, .slice P3 pb.length q3, .int .i64 pt, .slice P4 pw.length q4, .slice P5 pl.length q5] (⟨pr, ⟨sa, ss, si⟩, pb, pt, pw, pl⟩ : Pc) := (PcCells.stable 41).imp hv1 fun b hb _ => ⟨by have hb0 : wr.heap.size ≤ b := hb; have := hgr.size; have := Hsc.out; omega, fun e => by have hb0 : wr.heap.size ≤ b := hb; have := (hol b e).2; omega⟩; obtain ⟨vs1, ho1, ha1⟩ := hown1; have hol1 := ho1.lt; rw [HLK.out] at ho1; have z1 := hO1.cell 1; have z1a := fun o => (hO1.alloc o).cell 1; simp only [List.getElem?_cons_succ, List.getElem?_cons_zero] at z1 z1a; have lo1 := hO1.lt)
            refine hK _ _ ?_
            clear hK K
            refine wpAny_ready (rs := [11]) (by decide +kernel) (by simp) ?_
            refine AllReady.cons rfl (fun K hK => ?_) AllReady.nil
            go_simp
            refine hK _ _ ?_
            clear hK K
            refine wpAny_ready (rs := [12]) (by decide +kernel) (by simp) ?_
            refine AllReady.cons rfl (fun K hK => ?_) AllReady.nil
            refine step_app_Pc _ rfl (.tmp 20) (.tmp 30) (by rfl) (ho1.alloc _) rfl (Reads.new (D := Any) _ [.int .i64 pr, .string sa, .slice P1 ss.length q1, .slice P2 si.length q2, .slice P3 pb.length q3, .int .i64 pt, .slice P4 pw.length q4, .slice P5 pl.length q5] 8 1 _ trivial rfl) rfl (by simp [Value.oneCell']) (by omega) (by have := hgr1.size; have := Hsc.out; simp; omega) ?_
            intro v2 w2 hown2 hg2 hat2
            obtain ⟨A8, c8, rfl, hn8⟩ := own_form hown2
            have hO2 := (hO1.alloc (.cells #[.int .i64 pr, .string sa, .slice P1 ss.length q1, .slice P2 si.length q2, .slice P3 pb.length q3, .int .i64 pt, .slice P4 pw.length q4, .slice P5 pl.length q5] 48)).grown hg2 (fun e => by have := (hol1 _ e.symm).1; omega)
            have y2 := hO2.cell 1
            simp only [List.getElem?_cons_succ, List.getElem?_cons_zero] at y2
            have f2 := hO2.frozen 1
            have l2 := hO2.lt
            refine hK _ _ ?_
            clear hK K
            repeat (first | (refine wpAny_take (i := 13) (v := .pointer (some ⟨w.heap.size + 1, 1, none⟩)) rfl ?_ ?_ ?_ (fun _ _ _ h => h) (Or.inl ⟨by rfl, ?_⟩) ?_; (· decide +kernel); (· decide +kernel); (· decide +kernel); (· (intro w; go_simp))))
            refine wpAny_ready (rs := [14]) (by decide +kernel) (by simp) ?_
            refine AllReady.cons rfl (fun K hK => ?_) AllReady.nil
            go_simp
            refine hK _ _ ?_
            clear hK K
            refine wpAny_done (by decide +kernel) ?_ _
            go_wp2_with (fail)
            have hpush := OwnList.push (PcCells.stable 41) ha1 hy hg2 hat2 (by rw [HLK.out]; exact hown2)
            refine ⟨⟨k + 1, _, by omega, by go_num, hO2.put 1 _, by rw [HTK.out]; exact hpush.keep (PcCells.stable 41) (fun b hb _ => Below.heap_setCell w2 _ _ b (by show b ≠ w.heap.size + 1; omega)), ?_⟩, by simp [intOf]; omega⟩
            refine ⟨hg2.os.trans hgr1.os, hg2.tape.trans hgr1.tape, hg2.output.trans hgr1.output, (by have h1 := hg2.size; have h2 := hgr1.size; simp at h1; simp; omega), fun i hi hne => ?_⟩
            rw [Below.heap_setCell w2 _ _ i (by intro e; exact hne (by rw [e]))]
            have hi1 : i < w1.heap.size := Nat.lt_of_lt_of_le hi hgr1.size
            rw [hg2.block i (by simp; omega) (fun e => by have := (hol1 _ e.symm).1; have := Hsc.out; omega), Below.heap_alloc w1 _ i hi1]
            exact hgr1.block i hi hne
          · (rw [if_pos (by simp [Region.wanted])]; unfold Oper.wp; go_simp; go_at_call 12; refine (PO.out wr.drew rfl).mono ?_; rintro e w1 ⟨cs1, rfl, hv1, hb1⟩; dsimp only; obtain ⟨P1, q1, P2, q2, P3, q3, P4, q4, P5, q5, rfl⟩ := PcCells.shape hv1; generalize hXX : parF (l.drop k) (1001 + k) = X at hv1 HTK ⊢; clear hXX; obtain ⟨pr, ⟨sa, ss, si⟩, pb, pt, pw, pl⟩ := X; simp only at hv1 ⊢; have hb1' : Below wr.heap.size wr w1 := below_of_drew hb1; have hO1 := hO.below hb1' lr; have hown1 := hown.keep (PcCells.stable 41) (Same.of_below hb1' fun _ _ h => h); have hol := hown.lt; have hgr1 : wc.grownBy w1 (some (w.heap.size + 1)) := grownBy_trans hgr ⟨hb1'.os, hb1'.tape, hb1'.output, hb1'.size, fun i hi _ => hb1'.block i hi⟩; have hs1 : wr.heap.size ≤ w1.heap.size := hb1'.size; have hy : PcCells 41 w1 (fun b => w.heap.size + 2 ≤ b ∧ (Value.slice A5 k c5).ownBlock ≠ some b) [.int .i64 pr, .string sa, .slice P1 ss.length q1, .slice P2 si.length q2, .slice P3 pb.length q3, .int .i64 pt, .slice P4 pw.length q4, .slice P5 pl.length q5] (⟨pr, ⟨sa, ss, si⟩, pb, pt, pw, pl⟩ : Pc) := (PcCells.stable 41).imp hv1 fun b hb _ => ⟨by have hb0 : wr.heap.size ≤ b := hb; have := hgr.size; have := Hsc.out; omega, fun e => by have hb0 : wr.heap.size ≤ b := hb; have := (hol b e).2; omega⟩; obtain ⟨vs1, ho1, ha1⟩ := hown1; have hol1 := ho1.lt; rw [HLK.out] at ho1; have z1 := hO1.cell 1; have z1a := fun o => (hO1.alloc o).cell 1; simp only [List.getElem?_cons_succ, List.getElem?_cons_zero] at z1 z1a; have lo1 := hO1.lt)
            refine hK _ _ ?_
            clear hK K
            refine wpAny_ready (rs := [1, 11]) (by decide +kernel) (by simp) ?_
            refine AllReady.cons rfl (fun K hK => ?_) (AllReady.cons rfl (fun K hK => ?_) AllReady.nil)
            · go_simp
              refine hK _ _ ?_
              clear hK K
              refine wpAny_ready (rs := [11]) (by decide +kernel) (by simp) ?_
              refine AllReady.cons rfl (fun K hK => ?_) AllReady.nil
              go_simp
              refine hK _ _ ?_
              clear hK K
              refine wpAny_ready (rs := [12]) (by decide +kernel) (by simp) ?_
              refine AllReady.cons rfl (fun K hK => ?_) AllReady.nil
              refine step_app_Pc _ rfl (.tmp 20) (.tmp 30) (by rfl) (ho1.alloc _) rfl (Reads.new (D := Any) _ [.int .i64 pr, .string sa, .slice P1 ss.length q1, .slice P2 si.length q2, .slice P3 pb.length q3, .int .i64 pt, .slice P4 pw.length q4, .slice P5 pl.length q5] 8 1 _ trivial rfl) rfl (by simp [Value.oneCell']) (by omega) (by have := hgr1.size; have := Hsc.out; simp; omega) ?_
              intro v2 w2 hown2 hg2 hat2
              obtain ⟨A8, c8, rfl, hn8⟩ := own_form hown2
              have hO2 := (hO1.alloc (.cells #[.int .i64 pr, .string sa, .slice P1 ss.length q1, .slice P2 si.length q2, .slice P3 pb.length q3, .int .i64 pt, .slice P4 pw.length q4, .slice P5 pl.length q5] 48)).grown hg2 (fun e => by have := (hol1 _ e.symm).1; omega)
              have y2 := hO2.cell 1
              simp only [List.getElem?_cons_succ, List.getElem?_cons_zero] at y2
              have f2 := hO2.frozen 1
              have l2 := hO2.lt
              refine hK _ _ ?_
              clear hK K
              repeat (first | (refine wpAny_take (i := 13) (v := .pointer (some ⟨w.heap.size + 1, 1, none⟩)) rfl ?_ ?_ ?_ (fun _ _ _ h => h) (Or.inl ⟨by rfl, ?_⟩) ?_; (· decide +kernel); (· decide +kernel); (· decide +kernel); (· (intro w; go_simp))))
              refine wpAny_ready (rs := [14]) (by decide +kernel) (by simp) ?_
              refine AllReady.cons rfl (fun K hK => ?_) AllReady.nil
              go_simp
              refine hK _ _ ?_
              clear hK K
              refine wpAny_done (by decide +kernel) ?_ _
              go_wp2_with (fail)
              have hpush := OwnList.push (PcCells.stable 41) ha1 hy hg2 hat2 (by rw [HLK.out]; exact hown2)
              refine ⟨⟨k + 1, _, by omega, by go_num, hO2.put 1 _, by rw [HTK.out]; exact hpush.keep (PcCells.stable 41) (fun b hb _ => Below.heap_setCell w2 _ _ b (by show b ≠ w.heap.size + 1; omega)), ?_⟩, by simp [intOf]; omega⟩
              refine ⟨hg2.os.trans hgr1.os, hg2.tape.trans hgr1.tape, hg2.output.trans hgr1.output, (by have h1 := hg2.size; have h2 := hgr1.size; simp at h1; simp; omega), fun i hi hne => ?_⟩
              rw [Below.heap_setCell w2 _ _ i (by intro e; exact hne (by rw [e]))]
              have hi1 : i < w1.heap.size := Nat.lt_of_lt_of_le hi hgr1.size
              rw [hg2.block i (by simp; omega) (fun e => by have := (hol1 _ e.symm).1; have := Hsc.out; omega), Below.heap_alloc w1 _ i hi1]
              exact hgr1.block i hi hne
            · go_simp
              refine hK _ _ ?_
              clear hK K
              refine wpAny_ready (rs := [1]) (by decide +kernel) (by simp) ?_
              refine AllReady.cons rfl (fun K hK => ?_) AllReady.nil
              go_simp
              refine hK _ _ ?_
              clear hK K
              refine wpAny_ready (rs := [12]) (by decide +kernel) (by simp) ?_
              refine AllReady.cons rfl (fun K hK => ?_) AllReady.nil
              refine step_app_Pc _ rfl (.tmp 20) (.tmp 30) (by rfl) (ho1.alloc _) rfl (Reads.new (D := Any) _ [.int .i64 pr, .string sa, .slice P1 ss.length q1, .slice P2 si.length q2, .slice P3 pb.length q3, .int .i64 pt, .slice P4 pw.length q4, .slice P5 pl.length q5] 8 1 _ trivial rfl) rfl (by simp [Value.oneCell']) (by omega) (by have := hgr1.size; have := Hsc.out; simp; omega) ?_
              intro v2 w2 hown2 hg2 hat2
              obtain ⟨A8, c8, rfl, hn8⟩ := own_form hown2
              have hO2 := (hO1.alloc (.cells #[.int .i64 pr, .string sa, .slice P1 ss.length q1, .slice P2 si.length q2, .slice P3 pb.length q3, .int .i64 pt, .slice P4 pw.length q4, .slice P5 pl.length q5] 48)).grown hg2 (fun e => by have := (hol1 _ e.symm).1; omega)
              have y2 := hO2.cell 1
              simp only [List.getElem?_cons_succ, List.getElem?_cons_zero] at y2
              have f2 := hO2.frozen 1
              have l2 := hO2.lt
              refine hK _ _ ?_
              clear hK K
              repeat (first | (refine wpAny_take (i := 13) (v := .pointer (some ⟨w.heap.size + 1, 1, none⟩)) rfl ?_ ?_ ?_ (fun _ _ _ h => h) (Or.inl ⟨by rfl, ?_⟩) ?_; (· decide +kernel); (· decide +kernel); (· decide +kernel); (· (intro w; go_simp))))
              refine wpAny_ready (rs := [14]) (by decide +kernel) (by simp) ?_
              refine AllReady.cons rfl (fun K hK => ?_) AllReady.nil
              go_simp
              refine hK _ _ ?_
              clear hK K
              refine wpAny_done (by decide +kernel) ?_ _
              go_wp2_with (fail)
              have hpush := OwnList.push (PcCells.stable 41) ha1 hy hg2 hat2 (by rw [HLK.out]; exact hown2)
              refine ⟨⟨k + 1, _, by omega, by go_num, hO2.put 1 _, by rw [HTK.out]; exact hpush.keep (PcCells.stable 41) (fun b hb _ => Below.heap_setCell w2 _ _ b (by show b ≠ w.heap.size + 1; omega)), ?_⟩, by simp [intOf]; omega⟩
              refine ⟨hg2.os.trans hgr1.os, hg2.tape.trans hgr1.tape, hg2.output.trans hgr1.output, (by have h1 := hg2.size; have h2 := hgr1.size; simp at h1; simp; omega), fun i hi hne => ?_⟩
              rw [Below.heap_setCell w2 _ _ i (by intro e; exact hne (by rw [e]))]
              have hi1 : i < w1.heap.size := Nat.lt_of_lt_of_le hi hgr1.size
              rw [hg2.block i (by simp; omega) (fun e => by have := (hol1 _ e.symm).1; have := Hsc.out; omega), Below.heap_alloc w1 _ i hi1]
              exact hgr1.block i hi hne
    · obtain rfl : k = np := by omega
      obtain ⟨vsp, hx1, hx2, hcp, rpp, app⟩ := hown.reads (PcCells.stable 41) (by omega)
      clear hx1 hx2
      have rpp' := rpp.imp (by omega) (D' := fun b => w.heap.size + 2 ≤ b ∧ b < wr.heap.size) fun b hb hl => ⟨hb, hl⟩
      have app' := app.imp fun _ _ h => (PcCells.stable 41).imp h (D' := fun b => w.heap.size + 2 ≤ b ∧ b < wr.heap.size) fun b hb hl => ⟨hb, hl⟩
      have hZr := hZc.grown hgr (by simp)
      clear hown rpp app hlt hsame hlk
      obtain ⟨w5, hw5⟩ : ∃ w5, w5 = wr := ⟨_, rfl⟩
      subst hw5
      have hs5 : w.heap.size + 2 ≤ w5.heap.size := by have := hgr.size; have := Hsc.out; omega
      go_wp2_with (fail)
      have hw7 : wrap64 (n0.tdiv 7) = n0.tdiv 7 := IntWalk.wrap64_in _ hi7
      rw [hw7]
      clear hw7
      refine (R3.out _).mono ?_
      rintro e w' ⟨rfl, rfl⟩
      go_wp2_with (fail)
      go_loopw [37] (fun i wr => ∃ j v, j ≤ nw ∧ i = .int .i64 (j : Nat) ∧ Blk wr (w.heap.size + 1) 26 [.int .i64 (t : Int), .slice A5 k c5, v] ∧ OwnList 51 3 (WyCells 41) wr w5.heap.size v (snWs l j) ∧ w5.grownBy wr (some (w.heap.size + 1))) (fun i _ => nw - (intOf i).toNat)
      case atStart => exact ⟨0, _, Nat.zero_le _, rfl, hO, OwnList.nil _ _ _ _, World.grownBy.refl _ _⟩
      case round =>
        clear hO lr
        obtain ⟨j, v, hj, rfl, hO, hown, hgr5⟩ := hrel
        have hw5r : Below w.heap.size w wr := ⟨hgr5.os.trans hwr.os, hgr5.tape.trans hwr.tape, hgr5.output.trans hwr.output, Nat.le_trans hwr.size hgr5.size, fun i hi => (hgr5.block i (Nat.lt_of_lt_of_le hi hwr.size) (by simp; omega)).trans (hwr.block i hi)⟩
        have hlj : (snWs l j).length = j := by simp [snWs]
        have HLJ := Lib.hid hlj
        obtain ⟨A7, c7, rfl, hc7⟩ := hown.form
        rw [hlj] at hown hO hc7
        by_cases hlt : j < nw
        · clear hlj
          by_cases h3 : 3 < n
          · skip
            have g3 : (3 : Int) < (n : Int) := by omega
            have g3' : decide ((3 : Int) < (n : Int)) = true := decide_eq_true (by omega)
            have HM3 : Hid (min l.length 3 = 3) := by unfold Hid; rw [← Hn.out]; omega
            have m1 := hO.cell 2
            simp only [List.getElem?_cons_succ, List.getElem?_cons_zero] at m1
            have hw2 : IntKind.i64.wrap (2 + (j : Int)) = 2 + (j : Int) := IntWalk.i64_in _ (by omega)
            go_wp2_with (fail)
            obtain ⟨W6, hW6⟩ : ∃ W6, W6 = wr.alloc (.cells #[.int .i64 1, .int .i64 (2 + (j : Int)), .slice none 0 0] 51) := ⟨_, rfl⟩
            have hG6 : Blk W6 wr.heap.size 51 [.int .i64 1, .int .i64 (2 + (j : Int)), .slice none 0 0] := by rw [hW6]; exact Blk.new wr _ _
            have hb6 : Below wr.heap.size wr W6 := by rw [hW6]; exact (Below.refl _ _).alloc (Nat.le_refl _) _
            have hs6 : W6.heap.size = wr.heap.size + 1 := by rw [hW6]; simp
            rw [← hW6]
            have Hs6 := Lib.hid hs6
            clear hW6 hs6 m1
            obtain ⟨G2, hG2⟩ : ∃ G2, G2 = wr.heap.size := ⟨_, rfl⟩
            have HG2 := Lib.hid hG2
            rw [← hG2] at hG6 ⊢
            clear hG2
            obtain ⟨w7, hw7⟩ : ∃ w7, w7 = wr := ⟨_, rfl⟩
            subst hw7
            go_loopw [46] (fun i wr => ∃ q u, q ≤ 3 ∧ i = .int .i64 (q : Nat) ∧ Blk wr G2 51 [.int .i64 1, .int .i64 (2 + (j : Int)), u] ∧ OwnList 55 9 (LCells 41) wr W6.heap.size u (snLs l q) ∧ W6.grownBy wr (some G2)) (fun i _ => 3 - (intOf i).toNat)
            case atStart => exact ⟨0, _, Nat.zero_le _, rfl, hG6, OwnList.nil _ _ _ _, World.grownBy.refl _ _⟩
            case round =>
              obtain ⟨q, u, hq, rfl, hO3, hown3, hgr3⟩ := hrel
              have hw6 : Below w.heap.size w W6 := hw5r.trans (hb6.mono hw5r.size)
              have hwr3 : Below w.heap.size w wr := ⟨hgr3.os.trans hw6.os, hgr3.tape.trans hw6.tape, hgr3.output.trans hw6.output, Nat.le_trans hw6.size hgr3.size, fun i hi => (hgr3.block i (Nat.lt_of_lt_of_le hi hw6.size) (by simp; have := HG2.out; have := hw5r.size; omega)).trans (hw6.block i hi)⟩
              have hsame3 : Same Any w wr := Same.any hwr3
              have hlq : (snLs l q).length = q := by simp [snLs]
              have HLQ := Lib.hid hlq
              obtain ⟨A9, c9, rfl, hc9⟩ := hown3.form
              rw [hlq] at hown3 hO3 hc9
              have lr3 := hO3.lt
              have HGs : G2 < W6.heap.size := hG6.lt
              by_cases hql : q < 3
              · have HTQ := Lib.hid (snLs_next l q)
                have m2 := hO3.cell 2
                simp only [List.getElem?_cons_succ, List.getElem?_cons_zero] at m2
                have hw5 : IntKind.i64.wrap ((q : Int) + 5) = (q : Int) + 5 := IntWalk.i64_in _ (by omega)
                clear hlq
                by_cases hq5 : q + 5 < n
                · skip
                  obtain ⟨A', m, rss', hsl, hm, hmc, hr', ha'⟩ := sub_raws5 Hn.out hnc hcm hr ha q (by omega) ((q : Int) + 5) (by rw [Nat.min_eq_right (by omega)]; push_cast; rfl)
                  have h6 : (q : Int) + 5 < (n : Int) := by omega
                  have h7 : decide ((q : Int) + 5 < (n : Int)) = true := decide_eq_true (by omega)
                  have LO := Lib.hid (fun (W : World) (hW : W.heap = wr.heap) => letterOf_any ((l.drop q).take 5) A' m (c - q) rss' W hm hmc (by omega) ((hr'.keep hsame3).keep (Same.of_heap hW)) (ha'.imp fun _ _ h => h))
                  clear hr' ha' hm
                  go_upto_region 14 with (fail)
                  refine wp_region_any (by kernel_rfl) ?_
                  change wpAny _ _ _ _ _ _ _ (World.drew _)
                  repeat (first | (refine wpAny_take (i := 0) (v := .pointer (some ⟨G2, 2, none⟩)) rfl ?_ ?_ ?_ (fun _ _ _ h => h) (Or.inl ⟨by rfl, ?_⟩) ?_; (· decide +kernel); (· decide +kernel); (· decide +kernel); (· (intro w; go_simp))) | (refine wpAny_take (i := 2) (v := .slice A n c) rfl ?_ ?_ ?_ (fun _ _ _ h => h) (Or.inl ⟨by rfl, ?_⟩) ?_; (· decide +kernel); (· decide +kernel); (· decide +kernel); (· (intro w; go_simp))) | (refine wpAny_take (i := 3) (v := .int .i64 q) rfl ?_ ?_ ?_ (fun _ _ _ h => h) (Or.inl ⟨by rfl, ?_⟩) ?_; (· decide +kernel); (· decide +kernel); (· decide +kernel); (· (intro w; go_simp))) | (refine wpAny_take (i := 4) (v := .slice A n c) rfl ?_ ?_ ?_ (fun _ _ _ h => h) (Or.inl ⟨by rfl, ?_⟩) ?_; (· decide +kernel); (· decide +kernel); (· decide +kernel); (· (intro w; go_simp))) | (refine wpAny_take (i := 5) (v := .int .i64 n) rfl ?_ ?_ ?_ (fun _ _ _ h => h) (Or.inl ⟨by rfl, ?_⟩) ?_; (· decide +kernel); (· decide +kernel); (· decide +kernel); (· (intro w; go_simp))) | (refine wpAny_take (i := 6) (v := .int .i64 q) rfl ?_ ?_ ?_ (fun _ _ _ h => h) (Or.inl ⟨by rfl, ?_⟩) ?_; (· decide +kernel); (· decide +kernel); (· decide +kernel); (· (intro w; go_simp))) | (refine wpAny_take (i := 7) (v := .int .i64 (q + 5)) rfl ?_ ?_ ?_ (fun _ _ _ h => h) (Or.inl ⟨by rfl, ?_⟩) ?_; (· decide +kernel); (· decide +kernel); (· decide +kernel); (· (intro w; go_simp))) | (refine wpAny_take (i := 8) (v := .int .i64 ((q : Int) + 5)) rfl ?_ ?_ ?_ (fun _ _ _ h => h) (Or.inl ⟨by rfl, ?_⟩) ?_; (· decide +kernel); (· decide +kernel); (· decide +kernel); (· (intro w; go_simp))) | (refine wpAny_take (i := 9) (v := .slice A' m (c - q)) rfl ?_ ?_ ?_ (fun _ _ _ h => h) (Or.inl ⟨by rfl, ?_⟩) ?_; (· decide +kernel); (· decide +kernel); (· decide +kernel); (· (intro w; go_simp))))
                  refine wpAny_ready (rs := [1, 10]) (by decide +kernel) (by simp) ?_
                  refine AllReady.cons rfl (fun K hK => ?_) (AllReady.cons rfl (fun K hK => ?_) AllReady.nil)
                  · go_simp
                    refine hK _ _ ?_
                    clear hK K
                    refine wpAny_ready (rs := [10]) (by decide +kernel) (by simp) ?_
                    refine AllReady.cons rfl (fun K hK => ?_) AllReady.nil
                    (rw [if_pos (by simp [Region.wanted])]; unfold Oper.wp; go_simp; go_at_call 13; refine (LO.out wr.drew rfl).mono ?_; rintro e w1 ⟨cs1, rfl, hv1, hb1⟩; dsimp only; generalize hXX : letF ((l.drop q).take 5) = X at hv1 HTQ; clear hXX; obtain ⟨lk, lf, lt, ln, ls, X⟩ := X; obtain ⟨vs9, rfl, _, hvv⟩ := id hv1; obtain ⟨A6, c6, rfl⟩ := hvv.form; obtain ⟨vk, vn, vt, va⟩ := X; simp only [V.kind, V.num, V.text, V.args] at hv1 ⊢; clear hvv; have hb1' : Below wr.heap.size wr w1 := below_of_drew hb1; have hO1 := hO3.below hb1' lr3; have hown1 := hown3.keep (LCells.stable 41) (Same.of_below hb1' fun _ _ h => h); have hol := hown3.lt; have hgr1 : W6.grownBy w1 (some G2) := grownBy_trans hgr3 ⟨hb1'.os, hb1'.tape, hb1'.output, hb1'.size, fun i hi _ => hb1'.block i hi⟩; have hs1 : wr.heap.size ≤ w1.heap.size := hb1'.size; have hy : LCells 41 w1 (fun b => W6.heap.size ≤ b ∧ (Value.slice A9 q c9).ownBlock ≠ some b) [.int .i64 lk, .int .i64 lf, .int .i64 lt, .int .i64 ln, .string ls, .int .i64 vk, .int .i64 vn, .string vt, .slice A6 va.length c6] (⟨lk, lf, lt, ln, ls, V.mk vk vn vt va⟩ : L) := (LCells.stable 41).imp hv1 fun b hb _ => ⟨by have hb0 : wr.heap.size ≤ b := hb; have := hgr3.size; omega, fun e => by have hb0 : wr.heap.size ≤ b := hb; have := (hol b e).2; omega⟩; obtain ⟨vs1, ho1, ha1⟩ := hown1; have hol1 := ho1.lt; rw [HLQ.out] at ho1; have z1 := hO1.cell 2; have z1a := fun o => (hO1.alloc o).cell 2; simp only [List.getElem?_cons_succ, List.getElem?_cons_zero] at z1 z1a; have lo1 := hO1.lt)
                    refine hK _ _ ?_
                    clear hK K
                    refine wpAny_ready (rs := [11]) (by decide +kernel) (by simp) ?_
                    refine AllReady.cons rfl (fun K hK => ?_) AllReady.nil
                    go_simp
                    refine hK _ _ ?_
                    clear hK K
                    refine wpAny_ready (rs := [12]) (by decide +kernel) (by simp) ?_
                    refine AllReady.cons rfl (fun K hK => ?_) AllReady.nil
                    refine step_app_Le _ rfl (.tmp 50) (.tmp 60) (by rfl) (ho1.alloc _) rfl (Reads.new (D := Any) _ [.int .i64 lk, .int .i64 lf, .int .i64 lt, .int .i64 ln, .string ls, .int .i64 vk, .int .i64 vn, .string vt, .slice A6 va.length c6] 9 1 _ trivial rfl) rfl (by simp [Value.oneCell']) (by omega) (by have := hgr1.size; simp; omega) ?_
                    intro v2 w2 hown2 hg2 hat2
                    obtain ⟨A8, c8, rfl, hn8⟩ := own_form hown2
                    have hO2 := (hO1.alloc (.cells #[.int .i64 lk, .int .i64 lf, .int .i64 lt, .int .i64 ln, .string ls, .int .i64 vk, .int .i64 vn, .string vt, .slice A6 va.length c6] 55)).grown hg2 (fun e => by have := (hol1 _ e.symm).1; omega)
                    have y2 := hO2.cell 2
                    simp only [List.getElem?_cons_succ, List.getElem?_cons_zero] at y2
                    have f2 := hO2.frozen 2
                    have l2 := hO2.lt
                    refine hK _ _ ?_
                    clear hK K
                    repeat (first | (refine wpAny_take (i := 13) (v := .pointer (some ⟨G2, 2, none⟩)) rfl ?_ ?_ ?_ (fun _ _ _ h => h) (Or.inl ⟨by rfl, ?_⟩) ?_; (· decide +kernel); (· decide +kernel); (· decide +kernel); (· (intro w; go_simp))))
                    refine wpAny_ready (rs := [14]) (by decide +kernel) (by simp) ?_
                    refine AllReady.cons rfl (fun K hK => ?_) AllReady.nil
                    go_simp
                    refine hK _ _ ?_
                    clear hK K
                    refine wpAny_done (by decide +kernel) ?_ _
                    go_wp2_with (fail)
                    have hpush := OwnList.push (LCells.stable 41) ha1 hy hg2 hat2 (by rw [HLQ.out]; exact hown2)
                    refine ⟨⟨q + 1, _, by omega, by go_num, hO2.put 2 _, by rw [HTQ.out]; exact hpush.keep (LCells.stable 41) (fun b hb _ => Below.heap_setCell w2 _ _ b (by show b ≠ G2; omega)), ?_⟩, by simp [intOf]; omega⟩
                    refine ⟨hg2.os.trans hgr1.os, hg2.tape.trans hgr1.tape, hg2.output.trans hgr1.output, (by have h1 := hg2.size; have h2 := hgr1.size; simp at h1; simp; omega), fun i hi hne => ?_⟩
                    rw [Below.heap_setCell w2 _ _ i (by intro e; exact hne (by rw [e]))]
                    have hi1 : i < w1.heap.size := Nat.lt_of_lt_of_le hi hgr1.size
                    rw [hg2.block i (by simp; omega) (fun e => by have := (hol1 _ e.symm).1; omega), Below.heap_alloc w1 _ i hi1]
                    exact hgr1.block i hi hne
                  · (rw [if_pos (by simp [Region.wanted])]; unfold Oper.wp; go_simp; go_at_call 13; refine (LO.out wr.drew rfl).mono ?_; rintro e w1 ⟨cs1, rfl, hv1, hb1⟩; dsimp only; generalize hXX : letF ((l.drop q).take 5) = X at hv1 HTQ; clear hXX; obtain ⟨lk, lf, lt, ln, ls, X⟩ := X; obtain ⟨vs9, rfl, _, hvv⟩ := id hv1; obtain ⟨A6, c6, rfl⟩ := hvv.form; obtain ⟨vk, vn, vt, va⟩ := X; simp only [V.kind, V.num, V.text, V.args] at hv1 ⊢; clear hvv; have hb1' : Below wr.heap.size wr w1 := below_of_drew hb1; have hO1 := hO3.below hb1' lr3; have hown1 := hown3.keep (LCells.stable 41) (Same.of_below hb1' fun _ _ h => h); have hol := hown3.lt; have hgr1 : W6.grownBy w1 (some G2) := grownBy_trans hgr3 ⟨hb1'.os, hb1'.tape, hb1'.output, hb1'.size, fun i hi _ => hb1'.block i hi⟩; have hs1 : wr.heap.size ≤ w1.heap.size := hb1'.size; have hy : LCells 41 w1 (fun b => W6.heap.size ≤ b ∧ (Value.slice A9 q c9).ownBlock ≠ some b) [.int .i64 lk, .int .i64 lf, .int .i64 lt, .int .i64 ln, .string ls, .int .i64 vk, .int .i64 vn, .string vt, .slice A6 va.length c6] (⟨lk, lf, lt, ln, ls, V.mk vk vn vt va⟩ : L) := (LCells.stable 41).imp hv1 fun b hb _ => ⟨by have hb0 : wr.heap.size ≤ b := hb; have := hgr3.size; omega, fun e => by have hb0 : wr.heap.size ≤ b := hb; have := (hol b e).2; omega⟩; obtain ⟨vs1, ho1, ha1⟩ := hown1; have hol1 := ho1.lt; rw [HLQ.out] at ho1; have z1 := hO1.cell 2; have z1a := fun o => (hO1.alloc o).cell 2; simp only [List.getElem?_cons_succ, List.getElem?_cons_zero] at z1 z1a; have lo1 := hO1.lt)
                    refine hK _ _ ?_
                    clear hK K
                    refine wpAny_ready (rs := [1, 11]) (by decide +kernel) (by simp) ?_
                    refine AllReady.cons rfl (fun K hK => ?_) (AllReady.cons rfl (fun K hK => ?_) AllReady.nil)
                    · go_simp
                      refine hK _ _ ?_
                      clear hK K
                      refine wpAny_ready (rs := [11]) (by decide +kernel) (by simp) ?_
                      refine AllReady.cons rfl (fun K hK => ?_) AllReady.nil
                      go_simp
                      refine hK _ _ ?_
                      clear hK K
                      refine wpAny_ready (rs := [12]) (by decide +kernel) (by simp) ?_
                      refine AllReady.cons rfl (fun K hK => ?_) AllReady.nil
                      refine step_app_Le _ rfl (.tmp 50) (.tmp 60) (by rfl) (ho1.alloc _) rfl (Reads.new (D := Any) _ [.int .i64 lk, .int .i64 lf, .int .i64 lt, .int .i64 ln, .string ls, .int .i64 vk, .int .i64 vn, .string vt, .slice A6 va.length c6] 9 1 _ trivial rfl) rfl (by simp [Value.oneCell']) (by omega) (by have := hgr1.size; simp; omega) ?_
                      intro v2 w2 hown2 hg2 hat2
                      obtain ⟨A8, c8, rfl, hn8⟩ := own_form hown2
                      have hO2 := (hO1.alloc (.cells #[.int .i64 lk, .int .i64 lf, .int .i64 lt, .int .i64 ln, .string ls, .int .i64 vk, .int .i64 vn, .string vt, .slice A6 va.length c6] 55)).grown hg2 (fun e => by have := (hol1 _ e.symm).1; omega)
                      have y2 := hO2.cell 2
                      simp only [List.getElem?_cons_succ, List.getElem?_cons_zero] at y2
                      have f2 := hO2.frozen 2
                      have l2 := hO2.lt
                      refine hK _ _ ?_
                      clear hK K
                      repeat (first | (refine wpAny_take (i := 13) (v := .pointer (some ⟨G2, 2, none⟩)) rfl ?_ ?_ ?_ (fun _ _ _ h => h) (Or.inl ⟨by rfl, ?_⟩) ?_; (· decide +kernel); (· decide +kernel); (· decide +kernel); (· (intro w; go_simp))))
                      refine wpAny_ready (rs := [14]) (by decide +kernel) (by simp) ?_
                      refine AllReady.cons rfl (fun K hK => ?_) AllReady.nil
                      go_simp
                      refine hK _ _ ?_
                      clear hK K
                      refine wpAny_done (by decide +kernel) ?_ _
                      go_wp2_with (fail)
                      have hpush := OwnList.push (LCells.stable 41) ha1 hy hg2 hat2 (by rw [HLQ.out]; exact hown2)
                      refine ⟨⟨q + 1, _, by omega, by go_num, hO2.put 2 _, by rw [HTQ.out]; exact hpush.keep (LCells.stable 41) (fun b hb _ => Below.heap_setCell w2 _ _ b (by show b ≠ G2; omega)), ?_⟩, by simp [intOf]; omega⟩
                      refine ⟨hg2.os.trans hgr1.os, hg2.tape.trans hgr1.tape, hg2.output.trans hgr1.output, (by have h1 := hg2.size; have h2 := hgr1.size; simp at h1; simp; omega), fun i hi hne => ?_⟩
                      rw [Below.heap_setCell w2 _ _ i (by intro e; exact hne (by rw [e]))]
                      have hi1 : i < w1.heap.size := Nat.lt_of_lt_of_le hi hgr1.size
                      rw [hg2.block i (by simp; omega) (fun e => by have := (hol1 _ e.symm).1; omega), Below.heap_alloc w1 _ i hi1]
                      exact hgr1.block i hi hne
                    · go_simp
                      refine hK _ _ ?_
                      clear hK K
                      refine wpAny_ready (rs := [1]) (by decide +kernel) (by simp) ?_
                      refine AllReady.cons rfl (fun K hK => ?_) AllReady.nil
                      go_simp
                      refine hK _ _ ?_
                      clear hK K
                      refine wpAny_ready (rs := [12]) (by decide +kernel) (by simp) ?_
                      refine AllReady.cons rfl (fun K hK => ?_) AllReady.nil
                      refine step_app_Le _ rfl (.tmp 50) (.tmp 60) (by rfl) (ho1.alloc _) rfl (Reads.new (D := Any) _ [.int .i64 lk, .int .i64 lf, .int .i64 lt, .int .i64 ln, .string ls, .int .i64 vk, .int .i64 vn, .string vt, .slice A6 va.length c6] 9 1 _ trivial rfl) rfl (by simp [Value.oneCell']) (by omega) (by have := hgr1.size; simp; omega) ?_
                      intro v2 w2 hown2 hg2 hat2
                      obtain ⟨A8, c8, rfl, hn8⟩ := own_form hown2
                      have hO2 := (hO1.alloc (.cells #[.int .i64 lk, .int .i64 lf, .int .i64 lt, .int .i64 ln, .string ls, .int .i64 vk, .int .i64 vn, .string vt, .slice A6 va.length c6] 55)).grown hg2 (fun e => by have := (hol1 _ e.symm).1; omega)
                      have y2 := hO2.cell 2
                      simp only [List.getElem?_cons_succ, List.getElem?_cons_zero] at y2
                      have f2 := hO2.frozen 2
                      have l2 := hO2.lt
                      refine hK _ _ ?_
                      clear hK K
                      repeat (first | (refine wpAny_take (i := 13) (v := .pointer (some ⟨G2, 2, none⟩)) rfl ?_ ?_ ?_ (fun _ _ _ h => h) (Or.inl ⟨by rfl, ?_⟩) ?_; (· decide +kernel); (· decide +kernel); (· decide +kernel); (· (intro w; go_simp))))
                      refine wpAny_ready (rs := [14]) (by decide +kernel) (by simp) ?_
                      refine AllReady.cons rfl (fun K hK => ?_) AllReady.nil
                      go_simp
                      refine hK _ _ ?_
                      clear hK K
                      refine wpAny_done (by decide +kernel) ?_ _
                      go_wp2_with (fail)
                      have hpush := OwnList.push (LCells.stable 41) ha1 hy hg2 hat2 (by rw [HLQ.out]; exact hown2)
                      refine ⟨⟨q + 1, _, by omega, by go_num, hO2.put 2 _, by rw [HTQ.out]; exact hpush.keep (LCells.stable 41) (fun b hb _ => Below.heap_setCell w2 _ _ b (by show b ≠ G2; omega)), ?_⟩, by simp [intOf]; omega⟩
                      refine ⟨hg2.os.trans hgr1.os, hg2.tape.trans hgr1.tape, hg2.output.trans hgr1.output, (by have h1 := hg2.size; have h2 := hgr1.size; simp at h1; simp; omega), fun i hi hne => ?_⟩
                      rw [Below.heap_setCell w2 _ _ i (by intro e; exact hne (by rw [e]))]
                      have hi1 : i < w1.heap.size := Nat.lt_of_lt_of_le hi hgr1.size
                      rw [hg2.block i (by simp; omega) (fun e => by have := (hol1 _ e.symm).1; omega), Below.heap_alloc w1 _ i hi1]
                      exact hgr1.block i hi hne
                · skip
                  obtain ⟨A', m, rss', hsl, hm, hmc, hr', ha'⟩ := sub_raws5 Hn.out hnc hcm hr ha q (by omega) (n : Int) (by rw [Nat.min_eq_left (by omega)])
                  have h6 : ((q : Int) + 5 < (n : Int)) = False := by simp; omega
                  have h7 : decide ((q : Int) + 5 < (n : Int)) = false := decide_eq_false (by omega)
                  have LO := Lib.hid (fun (W : World) (hW : W.heap = wr.heap) => letterOf_any ((l.drop q).take 5) A' m (c - q) rss' W hm hmc (by omega) ((hr'.keep hsame3).keep (Same.of_heap hW)) (ha'.imp fun _ _ h => h))
                  clear hr' ha' hm
                  go_upto_region 14 with (fail)
                  refine wp_region_any (by kernel_rfl) ?_
                  change wpAny _ _ _ _ _ _ _ (World.drew _)
                  repeat (first | (refine wpAny_take (i := 0) (v := .pointer (some ⟨G2, 2, none⟩)) rfl ?_ ?_ ?_ (fun _ _ _ h => h) (Or.inl ⟨by rfl, ?_⟩) ?_; (· decide +kernel); (· decide +kernel); (· decide +kernel); (· (intro w; go_simp))) | (refine wpAny_take (i := 2) (v := .slice A n c) rfl ?_ ?_ ?_ (fun _ _ _ h => h) (Or.inl ⟨by rfl, ?_⟩) ?_; (· decide +kernel); (· decide +kernel); (· decide +kernel); (· (intro w; go_simp))) | (refine wpAny_take (i := 3) (v := .int .i64 q) rfl ?_ ?_ ?_ (fun _ _ _ h => h) (Or.inl ⟨by rfl, ?_⟩) ?_; (· decide +kernel); (· decide +kernel); (· decide +kernel); (· (intro w; go_simp))) | (refine wpAny_take (i := 4) (v := .slice A n c) rfl ?_ ?_ ?_ (fun _ _ _ h => h) (Or.inl ⟨by rfl, ?_⟩) ?_; (· decide +kernel); (· decide +kernel); (· decide +kernel); (· (intro w; go_simp))) | (refine wpAny_take (i := 5) (v := .int .i64 n) rfl ?_ ?_ ?_ (fun _ _ _ h => h) (Or.inl ⟨by rfl, ?_⟩) ?_; (· decide +kernel); (· decide +kernel); (· decide +kernel); (· (intro w; go_simp))) | (refine wpAny_take (i := 6) (v := .int .i64 q) rfl ?_ ?_ ?_ (fun _ _ _ h => h) (Or.inl ⟨by rfl, ?_⟩) ?_; (· decide +kernel); (· decide +kernel); (· decide +kernel); (· (intro w; go_simp))) | (refine wpAny_take (i := 7) (v := .int .i64 (q + 5)) rfl ?_ ?_ ?_ (fun _ _ _ h => h) (Or.inl ⟨by rfl, ?_⟩) ?_; (· decide +kernel); (· decide +kernel); (· decide +kernel); (· (intro w; go_simp))) | (refine wpAny_take (i := 8) (v := .int .i64 (n : Int)) rfl ?_ ?_ ?_ (fun _ _ _ h => h) (Or.inl ⟨by rfl, ?_⟩) ?_; (· decide +kernel); (· decide +kernel); (· decide +kernel); (· (intro w; go_simp))) | (refine wpAny_take (i := 9) (v := .slice A' m (c - q)) rfl ?_ ?_ ?_ (fun _ _ _ h => h) (Or.inl ⟨by rfl, ?_⟩) ?_; (· decide +kernel); (· decide +kernel); (· decide +kernel); (· (intro w; go_simp))))
                  refine wpAny_ready (rs := [1, 10]) (by decide +kernel) (by simp) ?_
                  refine AllReady.cons rfl (fun K hK => ?_) (AllReady.cons rfl (fun K hK => ?_) AllReady.nil)
                  · go_simp
                    refine hK _ _ ?_
                    clear hK K
                    refine wpAny_ready (rs := [10]) (by decide +kernel) (by simp) ?_
                    refine AllReady.cons rfl (fun K hK => ?_) AllReady.nil
                    (rw [if_pos (by simp [Region.wanted])]; unfold Oper.wp; go_simp; go_at_call 13; refine (LO.out wr.drew rfl).mono ?_; rintro e w1 ⟨cs1, rfl, hv1, hb1⟩; dsimp only; generalize hXX : letF ((l.drop q).take 5) = X at hv1 HTQ; clear hXX; obtain ⟨lk, lf, lt, ln, ls, X⟩ := X; obtain ⟨vs9, rfl, _, hvv⟩ := id hv1; obtain ⟨A6, c6, rfl⟩ := hvv.form; obtain ⟨vk, vn, vt, va⟩ := X; simp only [V.kind, V.num, V.text, V.args] at hv1 ⊢; clear hvv; have hb1' : Below wr.heap.size wr w1 := below_of_drew hb1; have hO1 := hO3.below hb1' lr3; have hown1 := hown3.keep (LCells.stable 41) (Same.of_below hb1' fun _ _ h => h); have hol := hown3.lt; have hgr1 : W6.grownBy w1 (some G2) := grownBy_trans hgr3 ⟨hb1'.os, hb1'.tape, hb1'.output, hb1'.size, fun i hi _ => hb1'.block i hi⟩; have hs1 : wr.heap.size ≤ w1.heap.size := hb1'.size; have hy : LCells 41 w1 (fun b => W6.heap.size ≤ b ∧ (Value.slice A9 q c9).ownBlock ≠ some b) [.int .i64 lk, .int .i64 lf, .int .i64 lt, .int .i64 ln, .string ls, .int .i64 vk, .int .i64 vn, .string vt, .slice A6 va.length c6] (⟨lk, lf, lt, ln, ls, V.mk vk vn vt va⟩ : L) := (LCells.stable 41).imp hv1 fun b hb _ => ⟨by have hb0 : wr.heap.size ≤ b := hb; have := hgr3.size; omega, fun e => by have hb0 : wr.heap.size ≤ b := hb; have := (hol b e).2; omega⟩; obtain ⟨vs1, ho1, ha1⟩ := hown1; have hol1 := ho1.lt; rw [HLQ.out] at ho1; have z1 := hO1.cell 2; have z1a := fun o => (hO1.alloc o).cell 2; simp only [List.getElem?_cons_succ, List.getElem?_cons_zero] at z1 z1a; have lo1 := hO1.lt)
                    refine hK _ _ ?_
                    clear hK K
                    refine wpAny_ready (rs := [11]) (by decide +kernel) (by simp) ?_
                    refine AllReady.cons rfl (fun K hK => ?_) AllReady.nil
                    go_simp
                    refine hK _ _ ?_
                    clear hK K
                    refine wpAny_ready (rs := [12]) (by decide +kernel) (by simp) ?_
                    refine AllReady.cons rfl (fun K hK => ?_) AllReady.nil
                    refine step_app_Le _ rfl (.tmp 50) (.tmp 60) (by rfl) (ho1.alloc _) rfl (Reads.new (D := Any) _ [.int .i64 lk, .int .i64 lf, .int .i64 lt, .int .i64 ln, .string ls, .int .i64 vk, .int .i64 vn, .string vt, .slice A6 va.length c6] 9 1 _ trivial rfl) rfl (by simp [Value.oneCell']) (by omega) (by have := hgr1.size; simp; omega) ?_
                    intro v2 w2 hown2 hg2 hat2
                    obtain ⟨A8, c8, rfl, hn8⟩ := own_form hown2
                    have hO2 := (hO1.alloc (.cells #[.int .i64 lk, .int .i64 lf, .int .i64 lt, .int .i64 ln, .string ls, .int .i64 vk, .int .i64 vn, .string vt, .slice A6 va.length c6] 55)).grown hg2 (fun e => by have := (hol1 _ e.symm).1; omega)
                    have y2 := hO2.cell 2
                    simp only [List.getElem?_cons_succ, List.getElem?_cons_zero] at y2
                    have f2 := hO2.frozen 2
                    have l2 := hO2.lt
                    refine hK _ _ ?_
                    clear hK K
                    repeat (first | (refine wpAny_take (i := 13) (v := .pointer (some ⟨G2, 2, none⟩)) rfl ?_ ?_ ?_ (fun _ _ _ h => h) (Or.inl ⟨by rfl, ?_⟩) ?_; (· decide +kernel); (· decide +kernel); (· decide +kernel); (· (intro w; go_simp))))
                    refine wpAny_ready (rs := [14]) (by decide +kernel) (by simp) ?_
                    refine AllReady.cons rfl (fun K hK => ?_) AllReady.nil
                    go_simp
                    refine hK _ _ ?_
                    clear hK K
                    refine wpAny_done (by decide +kernel) ?_ _
                    go_wp2_with (fail)
                    have hpush := OwnList.push (LCells.stable 41) ha1 hy hg2 hat2 (by rw [HLQ.out]; exact hown2)
                    refine ⟨⟨q + 1, _, by omega, by go_num, hO2.put 2 _, by rw [HTQ.out]; exact hpush.keep (LCells.stable 41) (fun b hb _ => Below.heap_setCell w2 _ _ b (by show b ≠ G2; omega)), ?_⟩, by simp [intOf]; omega⟩
                    refine ⟨hg2.os.trans hgr1.os, hg2.tape.trans hgr1.tape, hg2.output.trans hgr1.output, (by have h1 := hg2.size; have h2 := hgr1.size; simp at h1; simp; omega), fun i hi hne => ?_⟩
                    rw [Below.heap_setCell w2 _ _ i (by intro e; exact hne (by rw [e]))]
                    have hi1 : i < w1.heap.size := Nat.lt_of_lt_of_le hi hgr1.size
                    rw [hg2.block i (by simp; omega) (fun e => by have := (hol1 _ e.symm).1; omega), Below.heap_alloc w1 _ i hi1]
                    exact hgr1.block i hi hne
                  · (rw [if_pos (by simp [Region.wanted])]; unfold Oper.wp; go_simp; go_at_call 13; refine (LO.out wr.drew rfl).mono ?_; rintro e w1 ⟨cs1, rfl, hv1, hb1⟩; dsimp only; generalize hXX : letF ((l.drop q).take 5) = X at hv1 HTQ; clear hXX; obtain ⟨lk, lf, lt, ln, ls, X⟩ := X; obtain ⟨vs9, rfl, _, hvv⟩ := id hv1; obtain ⟨A6, c6, rfl⟩ := hvv.form; obtain ⟨vk, vn, vt, va⟩ := X; simp only [V.kind, V.num, V.text, V.args] at hv1 ⊢; clear hvv; have hb1' : Below wr.heap.size wr w1 := below_of_drew hb1; have hO1 := hO3.below hb1' lr3; have hown1 := hown3.keep (LCells.stable 41) (Same.of_below hb1' fun _ _ h => h); have hol := hown3.lt; have hgr1 : W6.grownBy w1 (some G2) := grownBy_trans hgr3 ⟨hb1'.os, hb1'.tape, hb1'.output, hb1'.size, fun i hi _ => hb1'.block i hi⟩; have hs1 : wr.heap.size ≤ w1.heap.size := hb1'.size; have hy : LCells 41 w1 (fun b => W6.heap.size ≤ b ∧ (Value.slice A9 q c9).ownBlock ≠ some b) [.int .i64 lk, .int .i64 lf, .int .i64 lt, .int .i64 ln, .string ls, .int .i64 vk, .int .i64 vn, .string vt, .slice A6 va.length c6] (⟨lk, lf, lt, ln, ls, V.mk vk vn vt va⟩ : L) := (LCells.stable 41).imp hv1 fun b hb _ => ⟨by have hb0 : wr.heap.size ≤ b := hb; have := hgr3.size; omega, fun e => by have hb0 : wr.heap.size ≤ b := hb; have := (hol b e).2; omega⟩; obtain ⟨vs1, ho1, ha1⟩ := hown1; have hol1 := ho1.lt; rw [HLQ.out] at ho1; have z1 := hO1.cell 2; have z1a := fun o => (hO1.alloc o).cell 2; simp only [List.getElem?_cons_succ, List.getElem?_cons_zero] at z1 z1a; have lo1 := hO1.lt)
                    refine hK _ _ ?_
                    clear hK K
                    refine wpAny_ready (rs := [1, 11]) (by decide +kernel) (by simp) ?_
                    refine AllReady.cons rfl (fun K hK => ?_) (AllReady.cons rfl (fun K hK => ?_) AllReady.nil)
                    · go_simp
                      refine hK _ _ ?_
                      clear hK K
                      refine wpAny_ready (rs := [11]) (by decide +kernel) (by simp) ?_
                      refine AllReady.cons rfl (fun K hK => ?_) AllReady.nil
                      go_simp
                      refine hK _ _ ?_
                      clear hK K
                      refine wpAny_ready (rs := [12]) (by decide +kernel) (by simp) ?_
                      refine AllReady.cons rfl (fun K hK => ?_) AllReady.nil
                      refine step_app_Le _ rfl (.tmp 50) (.tmp 60) (by rfl) (ho1.alloc _) rfl (Reads.new (D := Any) _ [.int .i64 lk, .int .i64 lf, .int .i64 lt, .int .i64 ln, .string ls, .int .i64 vk, .int .i64 vn, .string vt, .slice A6 va.length c6] 9 1 _ trivial rfl) rfl (by simp [Value.oneCell']) (by omega) (by have := hgr1.size; simp; omega) ?_
                      intro v2 w2 hown2 hg2 hat2
                      obtain ⟨A8, c8, rfl, hn8⟩ := own_form hown2
                      have hO2 := (hO1.alloc (.cells #[.int .i64 lk, .int .i64 lf, .int .i64 lt, .int .i64 ln, .string ls, .int .i64 vk, .int .i64 vn, .string vt, .slice A6 va.length c6] 55)).grown hg2 (fun e => by have := (hol1 _ e.symm).1; omega)
                      have y2 := hO2.cell 2
                      simp only [List.getElem?_cons_succ, List.getElem?_cons_zero] at y2
                      have f2 := hO2.frozen 2
                      have l2 := hO2.lt
                      refine hK _ _ ?_
                      clear hK K
                      repeat (first | (refine wpAny_take (i := 13) (v := .pointer (some ⟨G2, 2, none⟩)) rfl ?_ ?_ ?_ (fun _ _ _ h => h) (Or.inl ⟨by rfl, ?_⟩) ?_; (· decide +kernel); (· decide +kernel); (· decide +kernel); (· (intro w; go_simp))))
                      refine wpAny_ready (rs := [14]) (by decide +kernel) (by simp) ?_
                      refine AllReady.cons rfl (fun K hK => ?_) AllReady.nil
                      go_simp
                      refine hK _ _ ?_
                      clear hK K
                      refine wpAny_done (by decide +kernel) ?_ _
                      go_wp2_with (fail)
                      have hpush := OwnList.push (LCells.stable 41) ha1 hy hg2 hat2 (by rw [HLQ.out]; exact hown2)
                      refine ⟨⟨q + 1, _, by omega, by go_num, hO2.put 2 _, by rw [HTQ.out]; exact hpush.keep (LCells.stable 41) (fun b hb _ => Below.heap_setCell w2 _ _ b (by show b ≠ G2; omega)), ?_⟩, by simp [intOf]; omega⟩
                      refine ⟨hg2.os.trans hgr1.os, hg2.tape.trans hgr1.tape, hg2.output.trans hgr1.output, (by have h1 := hg2.size; have h2 := hgr1.size; simp at h1; simp; omega), fun i hi hne => ?_⟩
                      rw [Below.heap_setCell w2 _ _ i (by intro e; exact hne (by rw [e]))]
                      have hi1 : i < w1.heap.size := Nat.lt_of_lt_of_le hi hgr1.size
                      rw [hg2.block i (by simp; omega) (fun e => by have := (hol1 _ e.symm).1; omega), Below.heap_alloc w1 _ i hi1]
                      exact hgr1.block i hi hne
                    · go_simp
                      refine hK _ _ ?_
                      clear hK K
                      refine wpAny_ready (rs := [1]) (by decide +kernel) (by simp) ?_
                      refine AllReady.cons rfl (fun K hK => ?_) AllReady.nil
                      go_simp
                      refine hK _ _ ?_
                      clear hK K
                      refine wpAny_ready (rs := [12]) (by decide +kernel) (by simp) ?_
                      refine AllReady.cons rfl (fun K hK => ?_) AllReady.nil
                      refine step_app_Le _ rfl (.tmp 50) (.tmp 60) (by rfl) (ho1.alloc _) rfl (Reads.new (D := Any) _ [.int .i64 lk, .int .i64 lf, .int .i64 lt, .int .i64 ln, .string ls, .int .i64 vk, .int .i64 vn, .string vt, .slice A6 va.length c6] 9 1 _ trivial rfl) rfl (by simp [Value.oneCell']) (by omega) (by have := hgr1.size; simp; omega) ?_
                      intro v2 w2 hown2 hg2 hat2
                      obtain ⟨A8, c8, rfl, hn8⟩ := own_form hown2
                      have hO2 := (hO1.alloc (.cells #[.int .i64 lk, .int .i64 lf, .int .i64 lt, .int .i64 ln, .string ls, .int .i64 vk, .int .i64 vn, .string vt, .slice A6 va.length c6] 55)).grown hg2 (fun e => by have := (hol1 _ e.symm).1; omega)
                      have y2 := hO2.cell 2
                      simp only [List.getElem?_cons_succ, List.getElem?_cons_zero] at y2
                      have f2 := hO2.frozen 2
                      have l2 := hO2.lt
                      refine hK _ _ ?_
                      clear hK K
                      repeat (first | (refine wpAny_take (i := 13) (v := .pointer (some ⟨G2, 2, none⟩)) rfl ?_ ?_ ?_ (fun _ _ _ h => h) (Or.inl ⟨by rfl, ?_⟩) ?_; (· decide +kernel); (· decide +kernel); (· decide +kernel); (· (intro w; go_simp))))
                      refine wpAny_ready (rs := [14]) (by decide +kernel) (by simp) ?_
                      refine AllReady.cons rfl (fun K hK => ?_) AllReady.nil
                      go_simp
                      refine hK _ _ ?_
                      clear hK K
                      refine wpAny_done (by decide +kernel) ?_ _
                      go_wp2_with (fail)
                      have hpush := OwnList.push (LCells.stable 41) ha1 hy hg2 hat2 (by rw [HLQ.out]; exact hown2)
                      refine ⟨⟨q + 1, _, by omega, by go_num, hO2.put 2 _, by rw [HTQ.out]; exact hpush.keep (LCells.stable 41) (fun b hb _ => Below.heap_setCell w2 _ _ b (by show b ≠ G2; omega)), ?_⟩, by simp [intOf]; omega⟩
                      refine ⟨hg2.os.trans hgr1.os, hg2.tape.trans hgr1.tape, hg2.output.trans hgr1.output, (by have h1 := hg2.size; have h2 := hgr1.size; simp at h1; simp; omega), fun i hi hne => ?_⟩
                      rw [Below.heap_setCell w2 _ _ i (by intro e; exact hne (by rw [e]))]
                      have hi1 : i < w1.heap.size := Nat.lt_of_lt_of_le hi hgr1.size
                      rw [hg2.block i (by simp; omega) (fun e => by have := (hol1 _ e.symm).1; omega), Below.heap_alloc w1 _ i hi1]
                      exact hgr1.block i hi hne
              · obtain rfl : q = 3 := by omega
                have htk3 : (snLs l 3).length = 3 := hlq
                obtain ⟨vs9, h91, h92, h93, h94, h95⟩ := hown3.reads (LCells.stable 41) (by omega)
                clear h91
                have hOr := (hO.below hb6 hO.lt).grown hgr3 (by simp; have := HG2.out; have := hO.lt; omega)
                have hown7 : OwnList 51 3 (WyCells 41) wr w5.heap.size (.slice A7 j c7) (snWs l j) := hown.keep (WyCells.stable 41) (fun b hb hl => (hgr3.block b (by have := Hs6.out; omega) (by intro e; injection e with e; have := HG2.out; omega)).trans (hb6.block b hl))
                have hol := hown.lt
                have hy : WyCells 41 wr (fun b => w5.heap.size ≤ b ∧ (Value.slice A7 j c7).ownBlock ≠ some b) [.int .i64 1, .int .i64 (2 + (j : Int)), .slice A9 3 c9] ⟨1, 2 + (j : Int), snLs l 3⟩ := ⟨A9, c9, vs9, by simp only; rw [htk3], ⟨⟨by simp only; omega, by simp only; omega⟩, ⟨by simp only; omega, by simp only; omega⟩⟩, ⟨by simp only; omega, by simp only; rw [htk3]; exact h92, h93⟩, by simp only; rw [htk3]; exact h94.imp (by omega) fun b hb _ => ⟨by have := Hs6.out; have := hgr5.size; omega, fun e => by have := (hol b e).2; have := Hs6.out; omega⟩, h95.imp fun _ _ h => (LCells.stable 41).imp h fun b hb _ => ⟨by have := Hs6.out; have := hgr5.size; omega, fun e => by have := (hol b e).2; have := Hs6.out; omega⟩⟩
                obtain ⟨vs1, ho1, ha1⟩ := hown7
                have hol1 := ho1.lt
                rw [HLJ.out] at ho1
                have hTJ := Lib.hid (snWs_next l j)
                have z2 := hOr.cell 2
                have p0 := hO3.cell 0
                have p1 := hO3.cell 1
                have p2 := hO3.cell 2
                simp only [List.getElem?_cons_succ, List.getElem?_cons_zero] at z2 p0 p1 p2
                have lo1 := hOr.lt
                have hss : w5.heap.size ≤ wr.heap.size := by have := hgr5.size; have := hb6.size; have := hgr3.size; omega
                clear h92 h93 h94 h95 hown3 hlq htk3
                go_wp2_with (at_builtin; refine app_Wy _ rfl (.tmp 65) (.tmp 67) rfl (ho1.alloc _) rfl (Reads.new (D := Any) _ [.int .i64 1, .int .i64 (2 + (j : Int)), .slice A9 3 c9] 3 1 _ trivial rfl) rfl (by simp [Value.oneCell']) (by omega) (by simp; omega) ?_; intro v5 w4 hown5 hg5 hat5; obtain ⟨A8, c8, rfl, hn8⟩ := own_form hown5; have hO4 := (hOr.alloc (.cells #[.int .i64 1, .int .i64 (2 + (j : Int)), .slice A9 3 c9] 51)).grown hg5 (fun e => by have := (hol1 _ e.symm).1; omega); have y3 := hO4.cell 2; simp only [List.getElem?_cons_succ, List.getElem?_cons_zero] at y3; have f3 := hO4.frozen 2; have l3 := hO4.lt)
                have hpush := OwnList.push (WyCells.stable 41) ha1 hy hg5 hat5 (by rw [HLJ.out]; exact hown5)
                refine ⟨⟨j + 1, _, by omega, by go_num, hO4.put 2 _, by rw [hTJ.out, HM3.out]; exact hpush.keep (WyCells.stable 41) (fun b hb _ => Below.heap_setCell w4 _ _ b (by show b ≠ w.heap.size + 1; omega)), ?_⟩, by simp [intOf]; omega⟩
                refine ⟨hg5.os.trans (hgr3.os.trans (hb6.os.trans hgr5.os)), hg5.tape.trans (hgr3.tape.trans (hb6.tape.trans hgr5.tape)), hg5.output.trans (hgr3.output.trans (hb6.output.trans hgr5.output)), (by have h1 := hg5.size; simp at h1; simp; omega), fun i hi hne => ?_⟩
                rw [Below.heap_setCell w4 _ _ i (by intro e; exact hne (by rw [e]))]
                have hi7 : i < w7.heap.size := Nat.lt_of_lt_of_le hi hgr5.size
                rw [hg5.block i (by simp; omega) (fun e => by have := (hol1 _ e.symm).1; omega), Below.heap_alloc wr _ i (by omega), hgr3.block i (by have := Hs6.out; omega) (by intro e; injection e with e; have := HG2.out; omega), hb6.block i hi7]
                exact hgr5.block i hi hne
          · skip
            have g3 : ((3 : Int) < (n : Int)) = False := by simp; omega
            have g3' : decide ((3 : Int) < (n : Int)) = false := decide_eq_false (by omega)
            have HM3 : Hid (min l.length 3 = n) := by unfold Hid; rw [← Hn.out]; omega
            have m1 := hO.cell 2
            simp only [List.getElem?_cons_succ, List.getElem?_cons_zero] at m1
            have hw2 : IntKind.i64.wrap (2 + (j : Int)) = 2 + (j : Int) := IntWalk.i64_in _ (by omega)
            go_wp2_with (fail)
            obtain ⟨W6, hW6⟩ : ∃ W6, W6 = wr.alloc (.cells #[.int .i64 1, .int .i64 (2 + (j : Int)), .slice none 0 0] 51) := ⟨_, rfl⟩
            have hG6 : Blk W6 wr.heap.size 51 [.int .i64 1, .int .i64 (2 + (j : Int)), .slice none 0 0] := by rw [hW6]; exact Blk.new wr _ _
            have hb6 : Below wr.heap.size wr W6 := by rw [hW6]; exact (Below.refl _ _).alloc (Nat.le_refl _) _
            have hs6 : W6.heap.size = wr.heap.size + 1 := by rw [hW6]; simp
            rw [← hW6]
            have Hs6 := Lib.hid hs6
            clear hW6 hs6 m1
            obtain ⟨G2, hG2⟩ : ∃ G2, G2 = wr.heap.size := ⟨_, rfl⟩
            have HG2 := Lib.hid hG2
            rw [← hG2] at hG6 ⊢
            clear hG2
            obtain ⟨w7, hw7⟩ : ∃ w7, w7 = wr := ⟨_, rfl⟩
            subst hw7
            go_loopw [46] (fun i wr => ∃ q u, q ≤ n ∧ i = .int .i64 (q : Nat) ∧ Blk wr G2 51 [.int .i64 1, .int .i64 (2 + (j : Int)), u] ∧ OwnList 55 9 (LCells 41) wr W6.heap.size u (snLs l q) ∧ W6.grownBy wr (some G2)) (fun i _ => n - (intOf i).toNat)
            case atStart => exact ⟨0, _, Nat.zero_le _, rfl, hG6, OwnList.nil _ _ _ _, World.grownBy.refl _ _⟩
            case round =>
              obtain ⟨q, u, hq, rfl, hO3, hown3, hgr3⟩ := hrel
              have hw6 : Below w.heap.size w W6 := hw5r.trans (hb6.mono hw5r.size)
              have hwr3 : Below w.heap.size w wr := ⟨hgr3.os.trans hw6.os, hgr3.tape.trans hw6.tape, hgr3.output.trans hw6.output, Nat.le_trans hw6.size hgr3.size, fun i hi => (hgr3.block i (Nat.lt_of_lt_of_le hi hw6.size) (by simp; have := HG2.out; have := hw5r.size; omega)).trans (hw6.block i hi)⟩
              have hsame3 : Same Any w wr := Same.any hwr3
              have hlq : (snLs l q).length = q := by simp [snLs]
              have HLQ := Lib.hid hlq
              obtain ⟨A9, c9, rfl, hc9⟩ := hown3.form
              rw [hlq] at hown3 hO3 hc9
              have lr3 := hO3.lt
              have HGs : G2 < W6.heap.size := hG6.lt
              by_cases hql : q < n
              · have HTQ := Lib.hid (snLs_next l q)
                have m2 := hO3.cell 2
                simp only [List.getElem?_cons_succ, List.getElem?_cons_zero] at m2
                have hw5 : IntKind.i64.wrap ((q : Int) + 5) = (q : Int) + 5 := IntWalk.i64_in _ (by omega)
                clear hlq
                by_cases hq5 : q + 5 < n
                · skip
                  obtain ⟨A', m, rss', hsl, hm, hmc, hr', ha'⟩ := sub_raws5 Hn.out hnc hcm hr ha q (by omega) ((q : Int) + 5) (by rw [Nat.min_eq_right (by omega)]; push_cast; rfl)
                  have h6 : (q : Int) + 5 < (n : Int) := by omega
                  have h7 : decide ((q : Int) + 5 < (n : Int)) = true := decide_eq_true (by omega)
                  have LO := Lib.hid (fun (W : World) (hW : W.heap = wr.heap) => letterOf_any ((l.drop q).take 5) A' m (c - q) rss' W hm hmc (by omega) ((hr'.keep hsame3).keep (Same.of_heap hW)) (ha'.imp fun _ _ h => h))
                  clear hr' ha' hm
                  go_upto_region 14 with (fail)
                  refine wp_region_any (by kernel_rfl) ?_
                  change wpAny _ _ _ _ _ _ _ (World.drew _)
                  repeat (first | (refine wpAny_take (i := 0) (v := .pointer (some ⟨G2, 2, none⟩)) rfl ?_ ?_ ?_ (fun _ _ _ h => h) (Or.inl ⟨by rfl, ?_⟩) ?_; (· decide +kernel); (· decide +kernel); (· decide +kernel); (· (intro w; go_simp))) | (refine wpAny_take (i := 2) (v := .slice A n c) rfl ?_ ?_ ?_ (fun _ _ _ h => h) (Or.inl ⟨by rfl, ?_⟩) ?_; (· decide +kernel); (· decide +kernel); (· decide +kernel); (· (intro w; go_simp))) | (refine wpAny_take (i := 3) (v := .int .i64 q) rfl ?_ ?_ ?_ (fun _ _ _ h => h) (Or.inl ⟨by rfl, ?_⟩) ?_; (· decide +kernel); (· decide +kernel); (· decide +kernel); (· (intro w; go_simp))) | (refine wpAny_take (i := 4) (v := .slice A n c) rfl ?_ ?_ ?_ (fun _ _ _ h => h) (Or.inl ⟨by rfl, ?_⟩) ?_; (· decide +kernel); (· decide +kernel); (· decide +kernel); (· (intro w; go_simp))) | (refine wpAny_take (i := 5) (v := .int .i64 n) rfl ?_ ?_ ?_ (fun _ _ _ h => h) (Or.inl ⟨by rfl, ?_⟩) ?_; (· decide +kernel); (· decide +kernel); (· decide +kernel); (· (intro w; go_simp))) | (refine wpAny_take (i := 6) (v := .int .i64 q) rfl ?_ ?_ ?_ (fun _ _ _ h => h) (Or.inl ⟨by rfl, ?_⟩) ?_; (· decide +kernel); (· decide +kernel); (· decide +kernel); (· (intro w; go_simp))) | (refine wpAny_take (i := 7) (v := .int .i64 (q + 5)) rfl ?_ ?_ ?_ (fun _ _ _ h => h) (Or.inl ⟨by rfl, ?_⟩) ?_; (· decide +kernel); (· decide +kernel); (· decide +kernel); (· (intro w; go_simp))) | (refine wpAny_take (i := 8) (v := .int .i64 ((q : Int) + 5)) rfl ?_ ?_ ?_ (fun _ _ _ h => h) (Or.inl ⟨by rfl, ?_⟩) ?_; (· decide +kernel); (· decide +kernel); (· decide +kernel); (· (intro w; go_simp))) | (refine wpAny_take (i := 9) (v := .slice A' m (c - q)) rfl ?_ ?_ ?_ (fun _ _ _ h => h) (Or.inl ⟨by rfl, ?_⟩) ?_; (· decide +kernel); (· decide +kernel); (· decide +kernel); (· (intro w; go_simp))))
                  refine wpAny_ready (rs := [1, 10]) (by decide +kernel) (by simp) ?_
                  refine AllReady.cons rfl (fun K hK => ?_) (AllReady.cons rfl (fun K hK => ?_) AllReady.nil)
                  · go_simp
                    refine hK _ _ ?_
                    clear hK K
                    refine wpAny_ready (rs := [10]) (by decide +kernel) (by simp) ?_
                    refine AllReady.cons rfl (fun K hK => ?_) AllReady.nil
                    (rw [if_pos (by simp [Region.wanted])]; unfold Oper.wp; go_simp; go_at_call 13; refine (LO.out wr.drew rfl).mono ?_; rintro e w1 ⟨cs1, rfl, hv1, hb1⟩; dsimp only; generalize hXX : letF ((l.drop q).take 5) = X at hv1 HTQ; clear hXX; obtain ⟨lk, lf, lt, ln, ls, X⟩ := X; obtain ⟨vs9, rfl, _, hvv⟩ := id hv1; obtain ⟨A6, c6, rfl⟩ := hvv.form; obtain ⟨vk, vn, vt, va⟩ := X; simp only [V.kind, V.num, V.text, V.args] at hv1 ⊢; clear hvv; have hb1' : Below wr.heap.size wr w1 := below_of_drew hb1; have hO1 := hO3.below hb1' lr3; have hown1 := hown3.keep (LCells.stable 41) (Same.of_below hb1' fun _ _ h => h); have hol := hown3.lt; have hgr1 : W6.grownBy w1 (some G2) := grownBy_trans hgr3 ⟨hb1'.os, hb1'.tape, hb1'.output, hb1'.size, fun i hi _ => hb1'.block i hi⟩; have hs1 : wr.heap.size ≤ w1.heap.size := hb1'.size; have hy : LCells 41 w1 (fun b => W6.heap.size ≤ b ∧ (Value.slice A9 q c9).ownBlock ≠ some b) [.int .i64 lk, .int .i64 lf, .int .i64 lt, .int .i64 ln, .string ls, .int .i64 vk, .int .i64 vn, .string vt, .slice A6 va.length c6] (⟨lk, lf, lt, ln, ls, V.mk vk vn vt va⟩ : L) := (LCells.stable 41).imp hv1 fun b hb _ => ⟨by have hb0 : wr.heap.size ≤ b := hb; have := hgr3.size; omega, fun e => by have hb0 : wr.heap.size ≤ b := hb; have := (hol b e).2; omega⟩; obtain ⟨vs1, ho1, ha1⟩ := hown1; have hol1 := ho1.lt; rw [HLQ.out] at ho1; have z1 := hO1.cell 2; have z1a := fun o => (hO1.alloc o).cell 2; simp only [List.getElem?_cons_succ, List.getElem?_cons_zero] at z1 z1a; have lo1 := hO1.lt)
                    refine hK _ _ ?_
                    clear hK K
                    refine wpAny_ready (rs := [11]) (by decide +kernel) (by simp) ?_
                    refine AllReady.cons rfl (fun K hK => ?_) AllReady.nil
                    go_simp
                    refine hK _ _ ?_
                    clear hK K
                    refine wpAny_ready (rs := [12]) (by decide +kernel) (by simp) ?_
                    refine AllReady.cons rfl (fun K hK => ?_) AllReady.nil
                    refine step_app_Le _ rfl (.tmp 50) (.tmp 60) (by rfl) (ho1.alloc _) rfl (Reads.new (D := Any) _ [.int .i64 lk, .int .i64 lf, .int .i64 lt, .int .i64 ln, .string ls, .int .i64 vk, .int .i64 vn, .string vt, .slice A6 va.length c6] 9 1 _ trivial rfl) rfl (by simp [Value.oneCell']) (by omega) (by have := hgr1.size; simp; omega) ?_
                    intro v2 w2 hown2 hg2 hat2
                    obtain ⟨A8, c8, rfl, hn8⟩ := own_form hown2
                    have hO2 := (hO1.alloc (.cells #[.int .i64 lk, .int .i64 lf, .int .i64 lt, .int .i64 ln, .string ls, .int .i64 vk, .int .i64 vn, .string vt, .slice A6 va.length c6] 55)).grown hg2 (fun e => by have := (hol1 _ e.symm).1; omega)
                    have y2 := hO2.cell 2
                    simp only [List.getElem?_cons_succ, List.getElem?_cons_zero] at y2
                    have f2 := hO2.frozen 2
                    have l2 := hO2.lt
                    refine hK _ _ ?_
                    clear hK K
                    repeat (first | (refine wpAny_take (i := 13) (v := .pointer (some ⟨G2, 2, none⟩)) rfl ?_ ?_ ?_ (fun _ _ _ h => h) (Or.inl ⟨by rfl, ?_⟩) ?_; (· decide +kernel); (· decide +kernel); (· decide +kernel); (· (intro w; go_simp))))
                    refine wpAny_ready (rs := [14]) (by decide +kernel) (by simp) ?_
                    refine AllReady.cons rfl (fun K hK => ?_) AllReady.nil
                    go_simp
                    refine hK _ _ ?_
                    clear hK K
                    refine wpAny_done (by decide +kernel) ?_ _
                    go_wp2_with (fail)
                    have hpush := OwnList.push (LCells.stable 41) ha1 hy hg2 hat2 (by rw [HLQ.out]; exact hown2)
                    refine ⟨⟨q + 1, _, by omega, by go_num, hO2.put 2 _, by rw [HTQ.out]; exact hpush.keep (LCells.stable 41) (fun b hb _ => Below.heap_setCell w2 _ _ b (by show b ≠ G2; omega)), ?_⟩, by simp [intOf]; omega⟩
                    refine ⟨hg2.os.trans hgr1.os, hg2.tape.trans hgr1.tape, hg2.output.trans hgr1.output, (by have h1 := hg2.size; have h2 := hgr1.size; simp at h1; simp; omega), fun i hi hne => ?_⟩
                    rw [Below.heap_setCell w2 _ _ i (by intro e; exact hne (by rw [e]))]
                    have hi1 : i < w1.heap.size := Nat.lt_of_lt_of_le hi hgr1.size
                    rw [hg2.block i (by simp; omega) (fun e => by have := (hol1 _ e.symm).1; omega), Below.heap_alloc w1 _ i hi1]
                    exact hgr1.block i hi hne
                  · (rw [if_pos (by simp [Region.wanted])]; unfold Oper.wp; go_simp; go_at_call 13; refine (LO.out wr.drew rfl).mono ?_; rintro e w1 ⟨cs1, rfl, hv1, hb1⟩; dsimp only; generalize hXX : letF ((l.drop q).take 5) = X at hv1 HTQ; clear hXX; obtain ⟨lk, lf, lt, ln, ls, X⟩ := X; obtain ⟨vs9, rfl, _, hvv⟩ := id hv1; obtain ⟨A6, c6, rfl⟩ := hvv.form; obtain ⟨vk, vn, vt, va⟩ := X; simp only [V.kind, V.num, V.text, V.args] at hv1 ⊢; clear hvv; have hb1' : Below wr.heap.size wr w1 := below_of_drew hb1; have hO1 := hO3.below hb1' lr3; have hown1 := hown3.keep (LCells.stable 41) (Same.of_below hb1' fun _ _ h => h); have hol := hown3.lt; have hgr1 : W6.grownBy w1 (some G2) := grownBy_trans hgr3 ⟨hb1'.os, hb1'.tape, hb1'.output, hb1'.size, fun i hi _ => hb1'.block i hi⟩; have hs1 : wr.heap.size ≤ w1.heap.size := hb1'.size; have hy : LCells 41 w1 (fun b => W6.heap.size ≤ b ∧ (Value.slice A9 q c9).ownBlock ≠ some b) [.int .i64 lk, .int .i64 lf, .int .i64 lt, .int .i64 ln, .string ls, .int .i64 vk, .int .i64 vn, .string vt, .slice A6 va.length c6] (⟨lk, lf, lt, ln, ls, V.mk vk vn vt va⟩ : L) := (LCells.stable 41).imp hv1 fun b hb _ => ⟨by have hb0 : wr.heap.size ≤ b := hb; have := hgr3.size; omega, fun e => by have hb0 : wr.heap.size ≤ b := hb; have := (hol b e).2; omega⟩; obtain ⟨vs1, ho1, ha1⟩ := hown1; have hol1 := ho1.lt; rw [HLQ.out] at ho1; have z1 := hO1.cell 2; have z1a := fun o => (hO1.alloc o).cell 2; simp only [List.getElem?_cons_succ, List.getElem?_cons_zero] at z1 z1a; have lo1 := hO1.lt)
                    refine hK _ _ ?_
                    clear hK K
                    refine wpAny_ready (rs := [1, 11]) (by decide +kernel) (by simp) ?_
                    refine AllReady.cons rfl (fun K hK => ?_) (AllReady.cons rfl (fun K hK => ?_) AllReady.nil)
                    · go_simp
                      refine hK _ _ ?_
                      clear hK K
                      refine wpAny_ready (rs := [11]) (by decide +kernel) (by simp) ?_
                      refine AllReady.cons rfl (fun K hK => ?_) AllReady.nil
                      go_simp
                      refine hK _ _ ?_
                      clear hK K
                      refine wpAny_ready (rs := [12]) (by decide +kernel) (by simp) ?_
                      refine AllReady.cons rfl (fun K hK => ?_) AllReady.nil
                      refine step_app_Le _ rfl (.tmp 50) (.tmp 60) (by rfl) (ho1.alloc _) rfl (Reads.new (D := Any) _ [.int .i64 lk, .int .i64 lf, .int .i64 lt, .int .i64 ln, .string ls, .int .i64 vk, .int .i64 vn, .string vt, .slice A6 va.length c6] 9 1 _ trivial rfl) rfl (by simp [Value.oneCell']) (by omega) (by have := hgr1.size; simp; omega) ?_
                      intro v2 w2 hown2 hg2 hat2
                      obtain ⟨A8, c8, rfl, hn8⟩ := own_form hown2
                      have hO2 := (hO1.alloc (.cells #[.int .i64 lk, .int .i64 lf, .int .i64 lt, .int .i64 ln, .string ls, .int .i64 vk, .int .i64 vn, .string vt, .slice A6 va.length c6] 55)).grown hg2 (fun e => by have := (hol1 _ e.symm).1; omega)
                      have y2 := hO2.cell 2
                      simp only [List.getElem?_cons_succ, List.getElem?_cons_zero] at y2
                      have f2 := hO2.frozen 2
                      have l2 := hO2.lt
                      refine hK _ _ ?_
                      clear hK K
                      repeat (first | (refine wpAny_take (i := 13) (v := .pointer (some ⟨G2, 2, none⟩)) rfl ?_ ?_ ?_ (fun _ _ _ h => h) (Or.inl ⟨by rfl, ?_⟩) ?_; (· decide +kernel); (· decide +kernel); (· decide +kernel); (· (intro w; go_simp))))
                      refine wpAny_ready (rs := [14]) (by decide +kernel) (by simp) ?_
                      refine AllReady.cons rfl (fun K hK => ?_) AllReady.nil
                      go_simp
                      refine hK _ _ ?_
                      clear hK K
                      refine wpAny_done (by decide +kernel) ?_ _
                      go_wp2_with (fail)
                      have hpush := OwnList.push (LCells.stable 41) ha1 hy hg2 hat2 (by rw [HLQ.out]; exact hown2)
                      refine ⟨⟨q + 1, _, by omega, by go_num, hO2.put 2 _, by rw [HTQ.out]; exact hpush.keep (LCells.stable 41) (fun b hb _ => Below.heap_setCell w2 _ _ b (by show b ≠ G2; omega)), ?_⟩, by simp [intOf]; omega⟩
                      refine ⟨hg2.os.trans hgr1.os, hg2.tape.trans hgr1.tape, hg2.output.trans hgr1.output, (by have h1 := hg2.size; have h2 := hgr1.size; simp at h1; simp; omega), fun i hi hne => ?_⟩
                      rw [Below.heap_setCell w2 _ _ i (by intro e; exact hne (by rw [e]))]
                      have hi1 : i < w1.heap.size := Nat.lt_of_lt_of_le hi hgr1.size
                      rw [hg2.block i (by simp; omega) (fun e => by have := (hol1 _ e.symm).1; omega), Below.heap_alloc w1 _ i hi1]
                      exact hgr1.block i hi hne
                    · go_simp
                      refine hK _ _ ?_
                      clear hK K
                      refine wpAny_ready (rs := [1]) (by decide +kernel) (by simp) ?_
                      refine AllReady.cons rfl (fun K hK => ?_) AllReady.nil
                      go_simp
                      refine hK _ _ ?_
                      clear hK K
                      refine wpAny_ready (rs := [12]) (by decide +kernel) (by simp) ?_
                      refine AllReady.cons rfl (fun K hK => ?_) AllReady.nil
                      refine step_app_Le _ rfl (.tmp 50) (.tmp 60) (by rfl) (ho1.alloc _) rfl (Reads.new (D := Any) _ [.int .i64 lk, .int .i64 lf, .int .i64 lt, .int .i64 ln, .string ls, .int .i64 vk, .int .i64 vn, .string vt, .slice A6 va.length c6] 9 1 _ trivial rfl) rfl (by simp [Value.oneCell']) (by omega) (by have := hgr1.size; simp; omega) ?_
                      intro v2 w2 hown2 hg2 hat2
                      obtain ⟨A8, c8, rfl, hn8⟩ := own_form hown2
                      have hO2 := (hO1.alloc (.cells #[.int .i64 lk, .int .i64 lf, .int .i64 lt, .int .i64 ln, .string ls, .int .i64 vk, .int .i64 vn, .string vt, .slice A6 va.length c6] 55)).grown hg2 (fun e => by have := (hol1 _ e.symm).1; omega)
                      have y2 := hO2.cell 2
                      simp only [List.getElem?_cons_succ, List.getElem?_cons_zero] at y2
                      have f2 := hO2.frozen 2
                      have l2 := hO2.lt
                      refine hK _ _ ?_
                      clear hK K
                      repeat (first | (refine wpAny_take (i := 13) (v := .pointer (some ⟨G2, 2, none⟩)) rfl ?_ ?_ ?_ (fun _ _ _ h => h) (Or.inl ⟨by rfl, ?_⟩) ?_; (· decide +kernel); (· decide +kernel); (· decide +kernel); (· (intro w; go_simp))))
                      refine wpAny_ready (rs := [14]) (by decide +kernel) (by simp) ?_
                      refine AllReady.cons rfl (fun K hK => ?_) AllReady.nil
                      go_simp
                      refine hK _ _ ?_
                      clear hK K
                      refine wpAny_done (by decide +kernel) ?_ _
                      go_wp2_with (fail)
                      have hpush := OwnList.push (LCells.stable 41) ha1 hy hg2 hat2 (by rw [HLQ.out]; exact hown2)
                      refine ⟨⟨q + 1, _, by omega, by go_num, hO2.put 2 _, by rw [HTQ.out]; exact hpush.keep (LCells.stable 41) (fun b hb _ => Below.heap_setCell w2 _ _ b (by show b ≠ G2; omega)), ?_⟩, by simp [intOf]; omega⟩
                      refine ⟨hg2.os.trans hgr1.os, hg2.tape.trans hgr1.tape, hg2.output.trans hgr1.output, (by have h1 := hg2.size; have h2 := hgr1.size; simp at h1; simp; omega), fun i hi hne => ?_⟩
                      rw [Below.heap_setCell w2 _ _ i (by intro e; exact hne (by rw [e]))]
                      have hi1 : i < w1.heap.size := Nat.lt_of_lt_of_le hi hgr1.size
                      rw [hg2.block i (by simp; omega) (fun e => by have := (hol1 _ e.symm).1; omega), Below.heap_alloc w1 _ i hi1]
                      exact hgr1.block i hi hne
                · skip
                  obtain ⟨A', m, rss', hsl, hm, hmc, hr', ha'⟩ := sub_raws5 Hn.out hnc hcm hr ha q (by omega) (n : Int) (by rw [Nat.min_eq_left (by omega)])
                  have h6 : ((q : Int) + 5 < (n : Int)) = False := by simp; omega
                  have h7 : decide ((q : Int) + 5 < (n : Int)) = false := decide_eq_false (by omega)
                  have LO := Lib.hid (fun (W : World) (hW : W.heap = wr.heap) => letterOf_any ((l.drop q).take 5) A' m (c - q) rss' W hm hmc (by omega) ((hr'.keep hsame3).keep (Same.of_heap hW)) (ha'.imp fun _ _ h => h))
                  clear hr' ha' hm
                  go_upto_region 14 with (fail)
                  refine wp_region_any (by kernel_rfl) ?_
                  change wpAny _ _ _ _ _ _ _ (World.drew _)
                  repeat (first | (refine wpAny_take (i := 0) (v := .pointer (some ⟨G2, 2, none⟩)) rfl ?_ ?_ ?_ (fun _ _ _ h => h) (Or.inl ⟨by rfl, ?_⟩) ?_; (· decide +kernel); (· decide +kernel); (· decide +kernel); (· (intro w; go_simp))) | (refine wpAny_take (i := 2) (v := .slice A n c) rfl ?_ ?_ ?_ (fun _ _ _ h => h) (Or.inl ⟨by rfl, ?_⟩) ?_; (· decide +kernel); (· decide +kernel); (· decide +kernel); (· (intro w; go_simp))) | (refine wpAny_take (i := 3) (v := .int .i64 q) rfl ?_ ?_ ?_ (fun _ _ _ h => h) (Or.inl ⟨by rfl, ?_⟩) ?_; (· decide +kernel); (· decide +kernel); (· decide +kernel); (· (intro w; go_simp))) | (refine wpAny_take (i := 4) (v := .slice A n c) rfl ?_ ?_ ?_ (fun _ _ _ h => h) (Or.inl ⟨by rfl, ?_⟩) ?_; (· decide +kernel); (· decide +kernel); (· decide +kernel); (· (intro w; go_simp))) | (refine wpAny_take (i := 5) (v := .int .i64 n) rfl ?_ ?_ ?_ (fun _ _ _ h => h) (Or.inl ⟨by rfl, ?_⟩) ?_; (· decide +kernel); (· decide +kernel); (· decide +kernel); (· (intro w; go_simp))) | (refine wpAny_take (i := 6) (v := .int .i64 q) rfl ?_ ?_ ?_ (fun _ _ _ h => h) (Or.inl ⟨by rfl, ?_⟩) ?_; (· decide +kernel); (· decide +kernel); (· decide +kernel); (· (intro w; go_simp))) | (refine wpAny_take (i := 7) (v := .int .i64 (q + 5)) rfl ?_ ?_ ?_ (fun _ _ _ h => h) (Or.inl ⟨by rfl, ?_⟩) ?_; (· decide +kernel); (· decide +kernel); (· decide +kernel); (· (intro w; go_simp))) | (refine wpAny_take (i := 8) (v := .int .i64 (n : Int)) rfl ?_ ?_ ?_ (fun _ _ _ h => h) (Or.inl ⟨by rfl, ?_⟩) ?_; (· decide +kernel); (· decide +kernel); (· decide +kernel); (· (intro w; go_simp))) | (refine wpAny_take (i := 9) (v := .slice A' m (c - q)) rfl ?_ ?_ ?_ (fun _ _ _ h => h) (Or.inl ⟨by rfl, ?_⟩) ?_; (· decide +kernel); (· decide +kernel); (· decide +kernel); (· (intro w; go_simp))))
                  refine wpAny_ready (rs := [1, 10]) (by decide +kernel) (by simp) ?_
                  refine AllReady.cons rfl (fun K hK => ?_) (AllReady.cons rfl (fun K hK => ?_) AllReady.nil)
                  · go_simp
                    refine hK _ _ ?_
                    clear hK K
                    refine wpAny_ready (rs := [10]) (by decide +kernel) (by simp) ?_
                    refine AllReady.cons rfl (fun K hK => ?_) AllReady.nil
                    (rw [if_pos (by simp [Region.wanted])]; unfold Oper.wp; go_simp; go_at_call 13; refine (LO.out wr.drew rfl).mono ?_; rintro e w1 ⟨cs1, rfl, hv1, hb1⟩; dsimp only; generalize hXX : letF ((l.drop q).take 5) = X at hv1 HTQ; clear hXX; obtain ⟨lk, lf, lt, ln, ls, X⟩ := X; obtain ⟨vs9, rfl, _, hvv⟩ := id hv1; obtain ⟨A6, c6, rfl⟩ := hvv.form; obtain ⟨vk, vn, vt, va⟩ := X; simp only [V.kind, V.num, V.text, V.args] at hv1 ⊢; clear hvv; have hb1' : Below wr.heap.size wr w1 := below_of_drew hb1; have hO1 := hO3.below hb1' lr3; have hown1 := hown3.keep (LCells.stable 41) (Same.of_below hb1' fun _ _ h => h); have hol := hown3.lt; have hgr1 : W6.grownBy w1 (some G2) := grownBy_trans hgr3 ⟨hb1'.os, hb1'.tape, hb1'.output, hb1'.size, fun i hi _ => hb1'.block i hi⟩; have hs1 : wr.heap.size ≤ w1.heap.size := hb1'.size; have hy : LCells 41 w1 (fun b => W6.heap.size ≤ b ∧ (Value.slice A9 q c9).ownBlock ≠ some b) [.int .i64 lk, .int .i64 lf, .int .i64 lt, .int .i64 ln, .string ls, .int .i64 vk, .int .i64 vn, .string vt, .slice A6 va.length c6] (⟨lk, lf, lt, ln, ls, V.mk vk vn vt va⟩ : L) := (LCells.stable 41).imp hv1 fun b hb _ => ⟨by have hb0 : wr.heap.size ≤ b := hb; have := hgr3.size; omega, fun e => by have hb0 : wr.heap.size ≤ b := hb; have := (hol b e).2; omega⟩; obtain ⟨vs1, ho1, ha1⟩ := hown1; have hol1 := ho1.lt; rw [HLQ.out] at ho1; have z1 := hO1.cell 2; have z1a := fun o => (hO1.alloc o).cell 2; simp only [List.getElem?_cons_succ, List.getElem?_cons_zero] at z1 z1a; have lo1 := hO1.lt)
                    refine hK _ _ ?_
                    clear hK K
                    refine wpAny_ready (rs := [11]) (by decide +kernel) (by simp) ?_
                    refine AllReady.cons rfl (fun K hK => ?_) AllReady.nil
                    go_simp
                    refine hK _ _ ?_
                    clear hK K
                    refine wpAny_ready (rs := [12]) (by decide +kernel) (by simp) ?_
                    refine AllReady.cons rfl (fun K hK => ?_) AllReady.nil
                    refine step_app_Le _ rfl (.tmp 50) (.tmp 60) (by rfl) (ho1.alloc _) rfl (Reads.new (D := Any) _ [.int .i64 lk, .int .i64 lf, .int .i64 lt, .int .i64 ln, .string ls, .int .i64 vk, .int .i64 vn, .string vt, .slice A6 va.length c6] 9 1 _ trivial rfl) rfl (by simp [Value.oneCell']) (by omega) (by have := hgr1.size; simp; omega) ?_
                    intro v2 w2 hown2 hg2 hat2
                    obtain ⟨A8, c8, rfl, hn8⟩ := own_form hown2
                    have hO2 := (hO1.alloc (.cells #[.int .i64 lk, .int .i64 lf, .int .i64 lt, .int .i64 ln, .string ls, .int .i64 vk, .int .i64 vn, .string vt, .slice A6 va.length c6] 55)).grown hg2 (fun e => by have := (hol1 _ e.symm).1; omega)
                    have y2 := hO2.cell 2
                    simp only [List.getElem?_cons_succ, List.getElem?_cons_zero] at y2
                    have f2 := hO2.frozen 2
                    have l2 := hO2.lt
                    refine hK _ _ ?_
                    clear hK K
                    repeat (first | (refine wpAny_take (i := 13) (v := .pointer (some ⟨G2, 2, none⟩)) rfl ?_ ?_ ?_ (fun _ _ _ h => h) (Or.inl ⟨by rfl, ?_⟩) ?_; (· decide +kernel); (· decide +kernel); (· decide +kernel); (· (intro w; go_simp))))
                    refine wpAny_ready (rs := [14]) (by decide +kernel) (by simp) ?_
                    refine AllReady.cons rfl (fun K hK => ?_) AllReady.nil
                    go_simp
                    refine hK _ _ ?_
                    clear hK K
                    refine wpAny_done (by decide +kernel) ?_ _
                    go_wp2_with (fail)
                    have hpush := OwnList.push (LCells.stable 41) ha1 hy hg2 hat2 (by rw [HLQ.out]; exact hown2)
                    refine ⟨⟨q + 1, _, by omega, by go_num, hO2.put 2 _, by rw [HTQ.out]; exact hpush.keep (LCells.stable 41) (fun b hb _ => Below.heap_setCell w2 _ _ b (by show b ≠ G2; omega)), ?_⟩, by simp [intOf]; omega⟩
                    refine ⟨hg2.os.trans hgr1.os, hg2.tape.trans hgr1.tape, hg2.output.trans hgr1.output, (by have h1 := hg2.size; have h2 := hgr1.size; simp at h1; simp; omega), fun i hi hne => ?_⟩
                    rw [Below.heap_setCell w2 _ _ i (by intro e; exact hne (by rw [e]))]
                    have hi1 : i < w1.heap.size := Nat.lt_of_lt_of_le hi hgr1.size
                    rw [hg2.block i (by simp; omega) (fun e => by have := (hol1 _ e.symm).1; omega), Below.heap_alloc w1 _ i hi1]
                    exact hgr1.block i hi hne
                  · (rw [if_pos (by simp [Region.wanted])]; unfold Oper.wp; go_simp; go_at_call 13; refine (LO.out wr.drew rfl).mono ?_; rintro e w1 ⟨cs1, rfl, hv1, hb1⟩; dsimp only; generalize hXX : letF ((l.drop q).take 5) = X at hv1 HTQ; clear hXX; obtain ⟨lk, lf, lt, ln, ls, X⟩ := X; obtain ⟨vs9, rfl, _, hvv⟩ := id hv1; obtain ⟨A6, c6, rfl⟩ := hvv.form; obtain ⟨vk, vn, vt, va⟩ := X; simp only [V.kind, V.num, V.text, V.args] at hv1 ⊢; clear hvv; have hb1' : Below wr.heap.size wr w1 := below_of_drew hb1; have hO1 := hO3.below hb1' lr3; have hown1 := hown3.keep (LCells.stable 41) (Same.of_below hb1' fun _ _ h => h); have hol := hown3.lt; have hgr1 : W6.grownBy w1 (some G2) := grownBy_trans hgr3 ⟨hb1'.os, hb1'.tape, hb1'.output, hb1'.size, fun i hi _ => hb1'.block i hi⟩; have hs1 : wr.heap.size ≤ w1.heap.size := hb1'.size; have hy : LCells 41 w1 (fun b => W6.heap.size ≤ b ∧ (Value.slice A9 q c9).ownBlock ≠ some b) [.int .i64 lk, .int .i64 lf, .int .i64 lt, .int .i64 ln, .string ls, .int .i64 vk, .int .i64 vn, .string vt, .slice A6 va.length c6] (⟨lk, lf, lt, ln, ls, V.mk vk vn vt va⟩ : L) := (LCells.stable 41).imp hv1 fun b hb _ => ⟨by have hb0 : wr.heap.size ≤ b := hb; have := hgr3.size; omega, fun e => by have hb0 : wr.heap.size ≤ b := hb; have := (hol b e).2; omega⟩; obtain ⟨vs1, ho1, ha1⟩ := hown1; have hol1 := ho1.lt; rw [HLQ.out] at ho1; have z1 := hO1.cell 2; have z1a := fun o => (hO1.alloc o).cell 2; simp only [List.getElem?_cons_succ, List.getElem?_cons_zero] at z1 z1a; have lo1 := hO1.lt)
                    refine hK _ _ ?_
                    clear hK K
                    refine wpAny_ready (rs := [1, 11]) (by decide +kernel) (by simp) ?_
                    refine AllReady.cons rfl (fun K hK => ?_) (AllReady.cons rfl (fun K hK => ?_) AllReady.nil)
                    · go_simp
                      refine hK _ _ ?_
                      clear hK K
                      refine wpAny_ready (rs := [11]) (by decide +kernel) (by simp) ?_
                      refine AllReady.cons rfl (fun K hK => ?_) AllReady.nil
                      go_simp
                      refine hK _ _ ?_
                      clear hK K
                      refine wpAny_ready (rs := [12]) (by decide +kernel) (by simp) ?_
                      refine AllReady.cons rfl (fun K hK => ?_) AllReady.nil
                      refine step_app_Le _ rfl (.tmp 50) (.tmp 60) (by rfl) (ho1.alloc _) rfl (Reads.new (D := Any) _ [.int .i64 lk, .int .i64 lf, .int .i64 lt, .int .i64 ln, .string ls, .int .i64 vk, .int .i64 vn, .string vt, .slice A6 va.length c6] 9 1 _ trivial rfl) rfl (by simp [Value.oneCell']) (by omega) (by have := hgr1.size; simp; omega) ?_
                      intro v2 w2 hown2 hg2 hat2
                      obtain ⟨A8, c8, rfl, hn8⟩ := own_form hown2
                      have hO2 := (hO1.alloc (.cells #[.int .i64 lk, .int .i64 lf, .int .i64 lt, .int .i64 ln, .string ls, .int .i64 vk, .int .i64 vn, .string vt, .slice A6 va.length c6] 55)).grown hg2 (fun e => by have := (hol1 _ e.symm).1; omega)
                      have y2 := hO2.cell 2
                      simp only [List.getElem?_cons_succ, List.getElem?_cons_zero] at y2
                      have f2 := hO2.frozen 2
                      have l2 := hO2.lt
                      refine hK _ _ ?_
                      clear hK K
                      repeat (first | (refine wpAny_take (i := 13) (v := .pointer (some ⟨G2, 2, none⟩)) rfl ?_ ?_ ?_ (fun _ _ _ h => h) (Or.inl ⟨by rfl, ?_⟩) ?_; (· decide +kernel); (· decide +kernel); (· decide +kernel); (· (intro w; go_simp))))
                      refine wpAny_ready (rs := [14]) (by decide +kernel) (by simp) ?_
                      refine AllReady.cons rfl (fun K hK => ?_) AllReady.nil
                      go_simp
                      refine hK _ _ ?_
                      clear hK K
                      refine wpAny_done (by decide +kernel) ?_ _
                      go_wp2_with (fail)
                      have hpush := OwnList.push (LCells.stable 41) ha1 hy hg2 hat2 (by rw [HLQ.out]; exact hown2)
                      refine ⟨⟨q + 1, _, by omega, by go_num, hO2.put 2 _, by rw [HTQ.out]; exact hpush.keep (LCells.stable 41) (fun b hb _ => Below.heap_setCell w2 _ _ b (by show b ≠ G2; omega)), ?_⟩, by simp [intOf]; omega⟩
                      refine ⟨hg2.os.trans hgr1.os, hg2.tape.trans hgr1.tape, hg2.output.trans hgr1.output, (by have h1 := hg2.size; have h2 := hgr1.size; simp at h1; simp; omega), fun i hi hne => ?_⟩
                      rw [Below.heap_setCell w2 _ _ i (by intro e; exact hne (by rw [e]))]
                      have hi1 : i < w1.heap.size := Nat.lt_of_lt_of_le hi hgr1.size
                      rw [hg2.block i (by simp; omega) (fun e => by have := (hol1 _ e.symm).1; omega), Below.heap_alloc w1 _ i hi1]
                      exact hgr1.block i hi hne
                    · go_simp
                      refine hK _ _ ?_
                      clear hK K
                      refine wpAny_ready (rs := [1]) (by decide +kernel) (by simp) ?_
                      refine AllReady.cons rfl (fun K hK => ?_) AllReady.nil
                      go_simp
                      refine hK _ _ ?_
                      clear hK K
                      refine wpAny_ready (rs := [12]) (by decide +kernel) (by simp) ?_
                      refine AllReady.cons rfl (fun K hK => ?_) AllReady.nil
                      refine step_app_Le _ rfl (.tmp 50) (.tmp 60) (by rfl) (ho1.alloc _) rfl (Reads.new (D := Any) _ [.int .i64 lk, .int .i64 lf, .int .i64 lt, .int .i64 ln, .string ls, .int .i64 vk, .int .i64 vn, .string vt, .slice A6 va.length c6] 9 1 _ trivial rfl) rfl (by simp [Value.oneCell']) (by omega) (by have := hgr1.size; simp; omega) ?_
                      intro v2 w2 hown2 hg2 hat2
                      obtain ⟨A8, c8, rfl, hn8⟩ := own_form hown2
                      have hO2 := (hO1.alloc (.cells #[.int .i64 lk, .int .i64 lf, .int .i64 lt, .int .i64 ln, .string ls, .int .i64 vk, .int .i64 vn, .string vt, .slice A6 va.length c6] 55)).grown hg2 (fun e => by have := (hol1 _ e.symm).1; omega)
                      have y2 := hO2.cell 2
                      simp only [List.getElem?_cons_succ, List.getElem?_cons_zero] at y2
                      have f2 := hO2.frozen 2
                      have l2 := hO2.lt
                      refine hK _ _ ?_
                      clear hK K
                      repeat (first | (refine wpAny_take (i := 13) (v := .pointer (some ⟨G2, 2, none⟩)) rfl ?_ ?_ ?_ (fun _ _ _ h => h) (Or.inl ⟨by rfl, ?_⟩) ?_; (· decide +kernel); (· decide +kernel); (· decide +kernel); (· (intro w; go_simp))))
                      refine wpAny_ready (rs := [14]) (by decide +kernel) (by simp) ?_
                      refine AllReady.cons rfl (fun K hK => ?_) AllReady.nil
                      go_simp
                      refine hK _ _ ?_
                      clear hK K
                      refine wpAny_done (by decide +kernel) ?_ _
                      go_wp2_with (fail)
                      have hpush := OwnList.push (LCells.stable 41) ha1 hy hg2 hat2 (by rw [HLQ.out]; exact hown2)
                      refine ⟨⟨q + 1, _, by omega, by go_num, hO2.put 2 _, by rw [HTQ.out]; exact hpush.keep (LCells.stable 41) (fun b hb _ => Below.heap_setCell w2 _ _ b (by show b ≠ G2; omega)), ?_⟩, by simp [intOf]; omega⟩
                      refine ⟨hg2.os.trans hgr1.os, hg2.tape.trans hgr1.tape, hg2.output.trans hgr1.output, (by have h1 := hg2.size; have h2 := hgr1.size; simp at h1; simp; omega), fun i hi hne => ?_⟩
                      rw [Below.heap_setCell w2 _ _ i (by intro e; exact hne (by rw [e]))]
                      have hi1 : i < w1.heap.size := Nat.lt_of_lt_of_le hi hgr1.size
                      rw [hg2.block i (by simp; omega) (fun e => by have := (hol1 _ e.symm).1; omega), Below.heap_alloc w1 _ i hi1]
                      exact hgr1.block i hi hne
              · obtain rfl : q = n := by omega
                have htk3 : (snLs l q).length = q := hlq
                obtain ⟨vs9, h91, h92, h93, h94, h95⟩ := hown3.reads (LCells.stable 41) (by omega)
                clear h91
                have hOr := (hO.below hb6 hO.lt).grown hgr3 (by simp; have := HG2.out; have := hO.lt; omega)
                have hown7 : OwnList 51 3 (WyCells 41) wr w5.heap.size (.slice A7 j c7) (snWs l j) := hown.keep (WyCells.stable 41) (fun b hb hl => (hgr3.block b (by have := Hs6.out; omega) (by intro e; injection e with e; have := HG2.out; omega)).trans (hb6.block b hl))
                have hol := hown.lt
                have hy : WyCells 41 wr (fun b => w5.heap.size ≤ b ∧ (Value.slice A7 j c7).ownBlock ≠ some b) [.int .i64 1, .int .i64 (2 + (j : Int)), .slice A9 q c9] ⟨1, 2 + (j : Int), snLs l q⟩ := ⟨A9, c9, vs9, by simp only; rw [htk3], ⟨⟨by simp only; omega, by simp only; omega⟩, ⟨by simp only; omega, by simp only; omega⟩⟩, ⟨by simp only; omega, by simp only; rw [htk3]; exact h92, h93⟩, by simp only; rw [htk3]; exact h94.imp (by omega) fun b hb _ => ⟨by have := Hs6.out; have := hgr5.size; omega, fun e => by have := (hol b e).2; have := Hs6.out; omega⟩, h95.imp fun _ _ h => (LCells.stable 41).imp h fun b hb _ => ⟨by have := Hs6.out; have := hgr5.size; omega, fun e => by have := (hol b e).2; have := Hs6.out; omega⟩⟩
                obtain ⟨vs1, ho1, ha1⟩ := hown7
                have hol1 := ho1.lt
                rw [HLJ.out] at ho1
                have hTJ := Lib.hid (snWs_next l j)
                have z2 := hOr.cell 2
                have p0 := hO3.cell 0
                have p1 := hO3.cell 1
                have p2 := hO3.cell 2
                simp only [List.getElem?_cons_succ, List.getElem?_cons_zero] at z2 p0 p1 p2
                have lo1 := hOr.lt
                have hss : w5.heap.size ≤ wr.heap.size := by have := hgr5.size; have := hb6.size; have := hgr3.size; omega
                clear h92 h93 h94 h95 hown3 hlq htk3
                go_wp2_with (at_builtin; refine app_Wy _ rfl (.tmp 65) (.tmp 67) rfl (ho1.alloc _) rfl (Reads.new (D := Any) _ [.int .i64 1, .int .i64 (2 + (j : Int)), .slice A9 q c9] 3 1 _ trivial rfl) rfl (by simp [Value.oneCell']) (by omega) (by simp; omega) ?_; intro v5 w4 hown5 hg5 hat5; obtain ⟨A8, c8, rfl, hn8⟩ := own_form hown5; have hO4 := (hOr.alloc (.cells #[.int .i64 1, .int .i64 (2 + (j : Int)), .slice A9 q c9] 51)).grown hg5 (fun e => by have := (hol1 _ e.symm).1; omega); have y3 := hO4.cell 2; simp only [List.getElem?_cons_succ, List.getElem?_cons_zero] at y3; have f3 := hO4.frozen 2; have l3 := hO4.lt)
                have hpush := OwnList.push (WyCells.stable 41) ha1 hy hg5 hat5 (by rw [HLJ.out]; exact hown5)
                refine ⟨⟨j + 1, _, by omega, by go_num, hO4.put 2 _, by rw [hTJ.out, HM3.out]; exact hpush.keep (WyCells.stable 41) (fun b hb _ => Below.heap_setCell w4 _ _ b (by show b ≠ w.heap.size + 1; omega)), ?_⟩, by simp [intOf]; omega⟩
                refine ⟨hg5.os.trans (hgr3.os.trans (hb6.os.trans hgr5.os)), hg5.tape.trans (hgr3.tape.trans (hb6.tape.trans hgr5.tape)), hg5.output.trans (hgr3.output.trans (hb6.output.trans hgr5.output)), (by have h1 := hg5.size; simp at h1; simp; omega), fun i hi hne => ?_⟩
                rw [Below.heap_setCell w4 _ _ i (by intro e; exact hne (by rw [e]))]
                have hi7 : i < w7.heap.size := Nat.lt_of_lt_of_le hi hgr5.size
                rw [hg5.block i (by simp; omega) (fun e => by have := (hol1 _ e.symm).1; omega), Below.heap_alloc wr _ i (by omega), hgr3.block i (by have := Hs6.out; omega) (by intro e; injection e with e; have := HG2.out; omega), hb6.block i hi7]
                exact hgr5.block i hi hne
        · obtain rfl : j = nw := by omega
          have hZ5 := hZr.grown hgr5 (by simp)
          obtain ⟨vsw, hx1, hx2, hcw, rww, aww⟩ := hown.reads (WyCells.stable 41) (by omega)
          clear hx1 hx2
          have hk1 : Same (fun b => w.heap.size + 2 ≤ b ∧ b < w5.heap.size) w5 wr := Same.of_grown hgr5 fun b hb _ e => by injection e with e; omega
          have hlk : (snPs l k).length = k := by simp [snPs]
          have hsn : SnCells 41 wr (fun b => w.heap.size < b) [.int .i64 (t : Int), .slice A5 k c5, .slice A7 j c7] S := by
            rw [HF.out]
            exact ⟨A5, c5, vsp, A7, c7, vsw, by simp only; rw [hlk, hlj], ⟨by simp only; omega, by simp only; omega⟩, ⟨by simp only; omega, by simp only; rw [hlk]; exact hc5.1, hcp⟩, ⟨by simp only; omega, by simp only; rw [hlj]; exact hc7.1, hcw⟩, by simp only; rw [hlk]; exact (rpp'.keep hk1).imp (by omega) fun b hb _ => by omega, app'.imp fun _ _ h => (PcCells.stable 41).imp ((PcCells.stable 41).keep h hk1) fun b hb _ => by omega, by simp only; rw [hlj]; exact rww.imp (by omega) fun b hb _ => by omega, aww.imp fun _ _ h => (WyCells.stable 41).imp h fun b hb _ => by omega⟩
          have zz0 := hZ5.cell 0
          have zz1 := hZ5.cell 1
          have zz2 := hZ5.cell 2
          have fz0 := hZ5.frozen 0
          have fz1 := hZ5.frozen 1
          have fz2 := hZ5.frozen 2
          simp only [List.getElem?_cons_succ, List.getElem?_cons_zero] at zz0 zz1 zz2
          have oo0 := hO.cell 0
          have oo1 := hO.cell 1
          have oo2 := hO.cell 2
          simp only [List.getElem?_cons_succ, List.getElem?_cons_zero] at oo0 oo1 oo2
          have lz := hZ5.lt
          have lo := hO.lt
          have hq := setRow_blk hZ5 [.int .i64 (t : Int), .slice A5 k c5, .slice A7 j c7] rfl
          have hbq := setRow_below (Nat.le_refl w.heap.size) [.int .i64 (t : Int), .slice A5 k c5, .slice A7 j c7] wr 0 hw5r
          have hvq := (SnCells.stable 41).imp ((SnCells.stable 41).keep hsn (setRow_same (g := w.heap.size) (by omega) [.int .i64 (t : Int), .slice A5 k c5, .slice A7 j c7] wr 0)) (D' := fun b => w.heap.size ≤ b) fun b hb _ => by omega
          simp only [setRow, Nat.reduceAdd] at hq hbq hvq
          have Hq := Lib.hid hq
          have Hbq := Lib.hid hbq
          have Hvq := Lib.hid hvq
          clear hq hbq hvq hsn hO hown rww aww hZ5 hgr5 rpp' app' hk1 hw5r hZr hZc hlk hlj
          go_wp2_with (fail)
          refine ret_blk rfl rfl Hq.out Try.underlying26 (by kernel_rfl) rfl ?_
          exact ⟨_, rfl, Hvq.out, Hbq.out⟩
end Go.Proofs.Yteojmmjanjilaaa
