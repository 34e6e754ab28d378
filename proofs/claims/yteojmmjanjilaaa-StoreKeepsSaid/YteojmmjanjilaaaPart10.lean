/- Contracts of the writing of inputs and letters. · Contracts of the writing of lists of inputs and letters (printed by maillist.py). -/
import Derived.Test.YteojmmjanjilaaaPart7
import Derived.Test.YteojmmjanjilaaaValEnc
set_option linter.unusedVariables false
namespace Go.Val
open Go.RowKit Go.Mem
/-- the five cells of an input -/
def InCells (d : Nat) (w : World) (D : Nat → Prop) (cs : List Value) (i : In) : Prop := ∃ vs, cs = .int .i64 i.kind :: vs ∧ Fits64 i.kind ∧ VCells d w D vs i.val
theorem InCells.stable (d : Nat) : Stable 5 (InCells d) where
  keep := fun ⟨vs, e, hk, h⟩ hs => ⟨vs, e, hk, h.keep hs⟩
  imp := fun ⟨vs, e, hk, h⟩ hs => ⟨vs, e, hk, h.imp hs⟩
  len := fun ⟨vs, e, hk, h⟩ => by rw [e, List.length_cons, (VCells.stable d).len h]
  one := fun ⟨vs, e, hk, h⟩ u hu => by
    rw [e] at hu
    rcases List.mem_cons.1 hu with rfl | hu
    · rfl
    · exact (VCells.stable d).one h u hu
/-- the nine cells of a letter -/
def LCells (d : Nat) (w : World) (D : Nat → Prop) (cs : List Value) (l : L) : Prop :=
  ∃ vs, cs = .int .i64 l.kind :: .int .i64 l.from_ :: .int .i64 l.to_ :: .int .i64 l.num :: .string l.text :: vs ∧ (Fits64 l.kind ∧ Fits64 l.from_ ∧ Fits64 l.to_ ∧ Fits64 l.num ∧ l.text.size ≤ 4611686018427387904) ∧ VCells d w D vs l.val
theorem LCells.stable (d : Nat) : Stable 9 (LCells d) where
  keep := fun ⟨vs, e, hk, h⟩ hs => ⟨vs, e, hk, h.keep hs⟩
  imp := fun ⟨vs, e, hk, h⟩ hs => ⟨vs, e, hk, h.imp hs⟩
  len := fun ⟨vs, e, hk, h⟩ => by rw [e]; simp [(VCells.stable d).len h]
  one := fun ⟨vs, e, hk, h⟩ u hu => by
    rw [e] at hu
    simp only [List.mem_cons] at hu
    rcases hu with rfl | rfl | rfl | rfl | rfl | hu
    · rfl
    · rfl
    · rfl
    · rfl
    · rfl
    · exact (VCells.stable d).one h u hu
end Go.Val
namespace Go.Proofs.Yteojmmjanjilaaa
open Go.RowKit Go.Mem Go.Val

set_option maxRecDepth 100000 in
set_option maxHeartbeats 1000000 in
theorem ai_any (d : Nat) (bv : Value) (i : In) (cs xs : List Value) (base : Nat) (w : World) (hown : w.ownsRow base 5 1 bv xs.length xs) (hb : base ≤ w.heap.size) (hv : InCells d w (fun b => bv.ownBlock ≠ some b) cs i) (hk : 0 ≤ i.kind ∧ i.kind ≤ 255) (hx : xs.length + (encI d i).length ≤ 1099511627776) :
    Calls Try.prog 79 #[bv, .agg cs.toArray] w (GrewPost w base bv xs (encI d i)) := by
  obtain ⟨vs, rfl, _, hvv⟩ := hv
  obtain ⟨A, c, rfl⟩ := hvv.form
  obtain ⟨ik, ⟨vk, vn, vt, va⟩⟩ := i
  simp only [V.kind, V.num, V.text, V.args] at hk hvv hx ⊢
  obtain ⟨hk1, hk2⟩ := hk
  have Hx := Lib.hid hx
  clear hx
  have hnb : bv.ownBlock ≠ some w.heap.size := fun e => by have := (hown.lt _ e).2; omega
  have hbx := Blk.new w 83 [.int .i64 ik, .int .i64 vk, .int .i64 vn, .string vt, .slice A va.length c]
  have HW0 := Lib.hid (fun (o1 o2 : Obj) => (((Below.refl w.heap.size w).alloc (Nat.le_refl _) o1).alloc (by simp) o2))
  have Hby : Hid ([Value.int .u8 ik] = u8s (byteE ik)) := by
    unfold Hid byteE
    simp only [u8s, List.map_cons, List.map_nil]
    rw [ofNat_toNat (by omega), Int.toNat_of_nonneg hk1]
  have hwk : IntKind.u8.wrap ik = ik := IntWalk.u8_in _ (by omega)
  have hl1 : xs.length + 1 ≤ 1099511627776 := by
    have := Hx.out
    simp only [encI, byteE, List.length_append, List.length_cons, List.length_nil] at this
    omega
  by_cases hk3 : ik = 3
  · have h3 : (ik != 3) = false := by simpa using hk3
    have hfin : Hid (encI d ⟨ik, V.mk vk vn vt va⟩ = byteE ik) := by unfold Hid encI; simp [hk3]
    clear hk3
    go_enter Try.func79, Try.ntmps79
    go_wp2_with (at_builtin; refine app_u8 _ rfl (.tmp 5) (.tmp 9) rfl ((hown.alloc _).alloc _) rfl (Reads.new_at (D := Any) _ [.int .u8 ik] 1 1 _ (w.heap.size + 1) (by simp) trivial rfl) rfl (by simp [Value.oneCell']) (by omega) (by simp; omega) ?_; intro v2 w2 hown2 hg2 hat2; have hG1 : Grew w base bv xs w2 v2 (byteE ik) := Grew.one (HW0.out _ _) rfl Hby.out hown2 hg2 hat2; have hB1 : Blk w2 w.heap.size 83 [.int .i64 ik, .int .i64 vk, .int .i64 vn, .string vt, .slice A va.length c] := (hbx.alloc _).grown hg2 (fun e => hnb e.symm); have m0 := hB1.cell 0; have m1 := hB1.cell 1; have m2 := hB1.cell 2; have m3 := hB1.cell 3; have m4 := hB1.cell 4; simp only [List.getElem?_cons_succ, List.getElem?_cons_zero] at m0 m1 m2 m3 m4; clear hown2 hg2 hat2)
    go_ret
    rw [hfin.out]
    obtain ⟨A5, c5, rfl⟩ := hG1.form
    exact ⟨A5, c5, rfl, hG1⟩
  · have h3 : (ik != 3) = true := by simpa using hk3
    have hfin : Hid (encI d ⟨ik, V.mk vk vn vt va⟩ = byteE ik ++ encV d (V.mk vk vn vt va)) := by unfold Hid encI; simp [hk3]
    have hl2 : (xs ++ u8s (byteE ik)).length + (encV d (V.mk vk vn vt va)).length ≤ 1099511627776 := by
      have := Hx.out
      rw [hfin.out] at this
      simp only [List.length_append, u8s_length] at this ⊢
      omega
    have Hl2 := Lib.hid hl2
    clear hk3 hl2
    go_enter Try.func79, Try.ntmps79
    go_wp2_with (at_builtin; refine app_u8 _ rfl (.tmp 5) (.tmp 9) rfl ((hown.alloc _).alloc _) rfl (Reads.new_at (D := Any) _ [.int .u8 ik] 1 1 _ (w.heap.size + 1) (by simp) trivial rfl) rfl (by simp [Value.oneCell']) (by omega) (by simp; omega) ?_; intro v2 w2 hown2 hg2 hat2; have hG1 : Grew w base bv xs w2 v2 (byteE ik) := Grew.one (HW0.out _ _) rfl Hby.out hown2 hg2 hat2; have hB1 : Blk w2 w.heap.size 83 [.int .i64 ik, .int .i64 vk, .int .i64 vn, .string vt, .slice A va.length c] := (hbx.alloc _).grown hg2 (fun e => hnb e.symm); have m0 := hB1.cell 0; have m1 := hB1.cell 1; have m2 := hB1.cell 2; have m3 := hB1.cell 3; have m4 := hB1.cell 4; simp only [List.getElem?_cons_succ, List.getElem?_cons_zero] at m0 m1 m2 m3 m4; clear hown2 hg2 hat2)
    have hvv2 : VCells d w2 (fun b => v2.ownBlock ≠ some b) [.int .i64 vk, .int .i64 vn, .string vt, .slice A va.length c] (V.mk vk vn vt va) := hG1.apart hvv
    refine (av_any d v2 (V.mk vk vn vt va) [.int .i64 vk, .int .i64 vn, .string vt, .slice A va.length c] (xs ++ u8s (byteE ik)) base w2 hG1.own (by have := hG1.2.1.size; omega) hvv2 Hl2.out).mono ?_
    rintro e w3 ⟨A3, c3, rfl, hg3⟩
    generalize Value.slice A3 ((xs ++ u8s (byteE ik)).length + (encV d (V.mk vk vn vt va)).length) c3 = v3 at hg3 ⊢
    have hG3 := hG1.trans hg3
    clear hvv2 hg3
    go_wp2_with (fail)
    go_ret
    rw [hfin.out]
    obtain ⟨A5, c5, rfl⟩ := hG3.form
    exact ⟨A5, c5, rfl, hG3⟩

set_option maxRecDepth 100000 in
set_option maxHeartbeats 2000000 in
theorem al_any (d : Nat) (bv : Value) (l : L) (cs xs : List Value) (base : Nat) (w : World) (hown : w.ownsRow base 5 1 bv xs.length xs) (hb : base ≤ w.heap.size) (hv : LCells d w (fun b => bv.ownBlock ≠ some b) cs l) (hk : 0 ≤ l.kind ∧ l.kind ≤ 255) (hf : okN l.from_) (ht : okN l.to_) (hn : okN l.num) (hx : xs.length + (encL d l).length ≤ 1099511627776) :
    Calls Try.prog 65 #[bv, .agg cs.toArray] w (GrewPost w base bv xs (encL d l)) := by
  obtain ⟨vs, rfl, _, hvv⟩ := hv
  obtain ⟨A, c, rfl⟩ := hvv.form
  obtain ⟨lk, lf, lt, ln, ls, ⟨vk, vn, vt, va⟩⟩ := l
  simp only [V.kind, V.num, V.text, V.args] at hk hf ht hn hvv hx ⊢
  obtain ⟨hk1, hk2⟩ := hk
  obtain ⟨f, rfl⟩ := Int.eq_ofNat_of_zero_le hf.1
  obtain ⟨t, rfl⟩ := Int.eq_ofNat_of_zero_le ht.1
  obtain ⟨nn, rfl⟩ := Int.eq_ofNat_of_zero_le hn.1
  have hf2 : f ≤ 9223372036854775807 := by have := hf.2; omega
  have ht2 : t ≤ 9223372036854775807 := by have := ht.2; omega
  have hn2 : nn ≤ 9223372036854775807 := by have := hn.2; omega
  have hlx : (encL d ⟨lk, f, t, nn, ls, V.mk vk vn vt va⟩).length = 1 + (natE f).length + (natE t).length + (natE nn).length + (textE ls).length + (if lk = 1 then encV d (V.mk vk vn vt va) else []).length := by
    simp only [encL, byteE, natI, Int.toNat_natCast, List.length_append, List.length_cons, List.length_nil]
    omega
  rw [hlx] at hx
  have hls : ls.size ≤ 1099511627776 := by
    have hl : ls.data.toList.length = ls.size := by rw [Array.length_toList]; rfl
    simp only [textE, List.length_append] at hx
    omega
  have Hx := Lib.hid hx
  clear hx hlx hf ht hn
  have hnb : bv.ownBlock ≠ some w.heap.size := fun e => by have := (hown.lt _ e).2; omega
  have hbx := Blk.new w 55 [.int .i64 lk, .int .i64 (f : Int), .int .i64 (t : Int), .int .i64 (nn : Int), .string ls, .int .i64 vk, .int .i64 vn, .string vt, .slice A va.length c]
  have HW0 := Lib.hid (fun (o1 o2 : Obj) => (((Below.refl w.heap.size w).alloc (Nat.le_refl _) o1).alloc (by simp) o2).drew)
  have Hby : Hid ([Value.int .u8 lk] = u8s (byteE lk)) := by
    unfold Hid byteE
    simp only [u8s, List.map_cons, List.map_nil]
    rw [ofNat_toNat (by omega), Int.toNat_of_nonneg hk1]
  have hwk : IntKind.u8.wrap lk = lk := IntWalk.u8_in _ (by omega)
  have hl1 : (xs ++ u8s (byteE lk)).length ≤ 1099511627776 := by
    have := Hx.out
    simp only [byteE, List.length_append, u8s_length, List.length_cons, List.length_nil]
    omega
  have hl2 : (xs ++ u8s (byteE lk ++ natE f)).length ≤ 1099511627776 := by
    have := Hx.out
    simp only [byteE, List.length_append, u8s_length, List.length_cons, List.length_nil]
    omega
  go_enter Try.func65, Try.ntmps65
  go_upto_region 1 with (fail)
  go_cut [0] (fun s0 wc => Grew w base bv xs wc s0 (byteE lk ++ natE f ++ natE t) ∧ Blk wc w.heap.size 55 [.int .i64 lk, .int .i64 (f : Int), .int .i64 (t : Int), .int .i64 (nn : Int), .string ls, .int .i64 vk, .int .i64 vn, .string vt, .slice A va.length c] ∧ s0.ownBlock ≠ some w.heap.size)
  case first =>
    go_region_law (first
      | (rw [if_pos (by simp [Region.wanted])]; unfold Oper.wp; go_simp; go_at_call 64; refine (nat_any v3 t _ base _ ht2 hG2.own (by have := hG2.2.1.size; omega) hl2).mono ?_; rintro e w4 ⟨A4, c4, rfl, hg4⟩; generalize Value.slice A4 ((xs ++ u8s (byteE lk ++ natE f)).length + (natE t).length) c4 = v4 at hg4 ⊢; dsimp only; have hB4 := hg4.blk hB2 hne2)
      | (rw [if_pos (by simp [Region.wanted])]; unfold Oper.wp; go_simp; go_at_call 64; refine (nat_any v2 f _ base _ hf2 hG1.own (by have := hG1.2.1.size; omega) hl1).mono ?_; rintro e w3 ⟨A3, c3, rfl, hg3⟩; generalize Value.slice A3 ((xs ++ u8s (byteE lk)).length + (natE f).length) c3 = v3 at hg3 ⊢; dsimp only; have hG2 := hG1.trans hg3; have hB2 := hg3.blk hB1 hne1; have hne2 : v3.ownBlock ≠ some w.heap.size := fun e => hg3.2.2.elim (fun h => hne1 (h.symm.trans e)) (fun h => by have h1 := h _ e; have h2 := hB1.lt; omega); have m2 := hB2.cell 2; simp only [List.getElem?_cons_succ, List.getElem?_cons_zero] at m2)
      | (refine step_app_u8 _ rfl (.tmp 5) (.tmp 9) (by rfl) ((hown.alloc _).alloc _) rfl (Reads.new_at (D := Any) _ [.int .u8 lk] 1 1 _ (w.heap.size + 1) (by simp) trivial rfl) rfl (by simp [Value.oneCell']) (by have := Hx.out; omega) (by simp; omega) ?_; intro v2 w2 hown2 hg2 hat2; have hG1 : Grew w base bv xs w2 v2 (byteE lk) := Grew.one (HW0.out _ _) rfl Hby.out hown2 hg2 hat2; have hB1 : Blk w2 w.heap.size 55 [.int .i64 lk, .int .i64 (f : Int), .int .i64 (t : Int), .int .i64 (nn : Int), .string ls, .int .i64 vk, .int .i64 vn, .string vt, .slice A va.length c] := ((hbx.alloc _).drew.grown hg2 fun e => hnb e.symm); have hne1 : v2.ownBlock ≠ some w.heap.size := fun e => hat2.elim (fun h => hnb (h.symm.trans e)) (fun h => by rw [h] at e; simp at e; omega); have m1 := hB1.cell 1; have m2 := hB1.cell 2; simp only [List.getElem?_cons_succ, List.getElem?_cons_zero] at m1 m2))
    all_goals go_wp2_with (fail)
    all_goals go_meet
    all_goals exact ⟨hG2.trans hg4, hB4, fun e => hg4.2.2.elim (fun h => hne2 (h.symm.trans e)) (fun h => by have h1 := h _ e; have h2 := hB2.lt; omega)⟩
  case rest =>
    obtain ⟨hG1, hB1, hne1⟩ := hcut
    have hGd := hG1.drew
    have m3 := hB1.cell 3
    have m4 := hB1.cell 4
    simp only [List.getElem?_cons_succ, List.getElem?_cons_zero] at m3 m4
    have hb1 : (xs ++ u8s (byteE lk ++ natE f ++ natE t)).length ≤ 1099511627776 ∧ (xs ++ u8s (byteE lk ++ natE f ++ natE t ++ natE nn)).length ≤ 1099511627776 := by
      have := Hx.out
      simp only [byteE, List.length_append, u8s_length, List.length_cons, List.length_nil]
      omega
    obtain ⟨hb1, hb2⟩ := hb1
    go_upto_region 2 with (fail)
    go_cut [0] (fun s0 wc' => Grew w base bv xs wc' s0 (byteE lk ++ natE f ++ natE t ++ natE nn ++ textE ls) ∧ Blk wc' w.heap.size 55 [.int .i64 lk, .int .i64 (f : Int), .int .i64 (t : Int), .int .i64 (nn : Int), .string ls, .int .i64 vk, .int .i64 vn, .string vt, .slice A va.length c])
    case first =>
      go_region_law (first
        | (rw [if_pos (by simp [Region.wanted])]; unfold Oper.wp; go_simp; go_at_call 64; refine (nat_any u0 nn _ base _ hn2 hGd.own (by have := hGd.2.1.size; omega) hb1).mono ?_; rintro e w3 ⟨A3, c3, rfl, hg3⟩; generalize Value.slice A3 ((xs ++ u8s (byteE lk ++ natE f ++ natE t)).length + (natE nn).length) c3 = v3 at hg3 ⊢; dsimp only; have hG2 := hGd.trans hg3; have hB2 : Blk w3 w.heap.size 55 [.int .i64 lk, .int .i64 (f : Int), .int .i64 (t : Int), .int .i64 (nn : Int), .string ls, .int .i64 vk, .int .i64 vn, .string vt, .slice A va.length c] := hB1.drew.grown hg3.2.1 (fun e => hne1 e.symm); have hne2 : v3.ownBlock ≠ some w.heap.size := fun e => hg3.2.2.elim (fun h => hne1 (h.symm.trans e)) (fun h => by have h1 := h _ e; have h2 := hB1.drew.lt; omega); have m4' := hB2.cell 4; simp only [List.getElem?_cons_succ, List.getElem?_cons_zero] at m4')
        | (rw [if_pos (by simp [Region.wanted])]; unfold Oper.wp; go_simp; go_at_call 77; refine (wtext_any v3 ls _ base _ hls hG2.own (by have := hG2.2.1.size; omega) hb2).mono ?_; rintro e w4 ⟨A4, c4, rfl, hg4⟩; generalize Value.slice A4 ((xs ++ u8s (byteE lk ++ natE f ++ natE t ++ natE nn)).length + (textE ls).length) c4 = v4 at hg4 ⊢; dsimp only; have hB4 := hg4.blk hB2 hne2))
      all_goals go_wp2_with (fail)
      all_goals go_meet
      all_goals exact ⟨hG2.trans hg4, hB4⟩
    case rest =>
      obtain ⟨hG4, hB4⟩ := hcut
      have k0 := hB4.cell 0
      have k5 := hB4.cell 5
      have k6 := hB4.cell 6
      have k7 := hB4.cell 7
      have k8 := hB4.cell 8
      simp only [List.getElem?_cons_succ, List.getElem?_cons_zero] at k0 k5 k6 k7 k8
      have hhead : encL d ⟨lk, f, t, nn, ls, V.mk vk vn vt va⟩ = byteE lk ++ natE f ++ natE t ++ natE nn ++ textE ls ++ (if lk = 1 then encV d (V.mk vk vn vt va) else []) := by
        simp [encL, natI]
      clear hGd hG1 hB1 m3 m4 hne1 hbx hB4
      by_cases hk1' : lk = 1
      · have h1 : (lk == 1) = true := by simpa using hk1'
        rw [if_pos hk1'] at hhead
        have hl3 : (xs ++ u8s (byteE lk ++ natE f ++ natE t ++ natE nn ++ textE ls)).length + (encV d (V.mk vk vn vt va)).length ≤ 1099511627776 := by
          have := Hx.out
          rw [if_pos hk1'] at this
          simp only [byteE, List.length_append, u8s_length, List.length_cons, List.length_nil]
          omega
        have Hhead := Lib.hid hhead
        have Hl3 := Lib.hid hl3
        have hvv4 := hG4.apart hvv
        have AVc := Lib.hid (av_any d _ (V.mk vk vn vt va) [.int .i64 vk, .int .i64 vn, .string vt, .slice A va.length c] (xs ++ u8s (byteE lk ++ natE f ++ natE t ++ natE nn ++ textE ls)) base _ hG4.own (by have := hG4.2.1.size; omega) hvv4 Hl3.out)
        clear hhead hk1' hl3 hvv4
        go_wp2_with (fail)
        refine AVc.out.mono ?_
        rintro e w5 ⟨A5, c5, rfl, hg5⟩
        generalize Value.slice A5 ((xs ++ u8s (byteE lk ++ natE f ++ natE t ++ natE nn ++ textE ls)).length + (encV d (V.mk vk vn vt va)).length) c5 = v5 at hg5 ⊢
        have hG5 := hG4.trans hg5
        clear hg5 AVc
        go_wp2_with (fail)
        go_ret
        rw [Hhead.out]
        obtain ⟨A6, c6, rfl⟩ := hG5.form
        exact ⟨A6, c6, rfl, hG5⟩
      · have h1 : (lk == 1) = false := by simpa using hk1'
        rw [if_neg hk1', List.append_nil] at hhead
        have Hhead := Lib.hid hhead
        clear hhead hk1'
        go_wp2_with (fail)
        go_ret
        rw [Hhead.out]
        obtain ⟨A5, c5, rfl⟩ := hG4.form
        exact ⟨A5, c5, rfl, hG4⟩
end Go.Proofs.Yteojmmjanjilaaa
set_option linter.unusedVariables false
namespace Go.Proofs.Yteojmmjanjilaaa
open Go.RowKit Go.Mem Go.Val
theorem Grew.apartS {β : Type} {size : Nat} {R : World → (Nat → Prop) → List Value → β → Prop} (hS : Stable size R) {w w1 : World} {base : Nat} {v v1 : Value} {xs : List Value} {a : List UInt8} (h : Grew w base v xs w1 v1 a) {cs : List Value} {x : β} (hx : R w (fun b => v.ownBlock ≠ some b) cs x) : R w1 (fun b => v1.ownBlock ≠ some b) cs x := by
  have h1 : R w (fun b => v.ownBlock ≠ some b ∧ b < w.heap.size) cs x := hS.imp hx fun b hb hl => ⟨hb, hl⟩
  refine hS.imp (hS.keep h1 (Same.of_grown h.2.1 fun b hb _ e => hb.1 e.symm)) fun b hb _ e => ?_
  rcases h.2.2 with h3 | h3
  · rw [h3] at e; exact hb.1 e
  · have := h3 b e; omega

set_option maxRecDepth 100000 in
set_option maxHeartbeats 1000000 in
theorem listI_any (d : Nat) (bv : Value) (A : Option Addr) (n c : Nat) (l : List In) (vss : List (List Value)) (xs : List Value) (base : Nat) (w : World) (hown : w.ownsRow base 5 1 bv xs.length xs) (hb : base ≤ w.heap.size) (hn : n = l.length) (hn2 : n ≤ 4194304)
    (hr : Reads w (fun b => bv.ownBlock ≠ some b) 5 A n vss.flatten) (ha : All2 (InCells d w (fun b => bv.ownBlock ≠ some b)) vss l) (hok : ∀ x ∈ l, 0 ≤ x.kind ∧ x.kind ≤ 255) (hx : xs.length + (listE (encI d) l).length ≤ 1099511627776) :
    Calls Try.prog 75 #[bv, .slice A n c, .func (.func 79) #[] #[]] w (GrewPost w base bv xs (listE (encI d) l)) := by
  have Hx := Lib.hid hx
  have Hn := Lib.hid hn
  have Hok := Lib.hid hok
  clear hx hn hok
  go_enter Try.func75, Try.ntmps75
  go_wp2_with (fail)
  refine (nat_any bv n xs base w (by omega) hown hb (by have := Hx.out; omega)).mono ?_
  rintro e w1 ⟨A1, c1, rfl, hg1⟩
  go_wp2_with (fail)
  go_loopw [0, 15] (fun v1 i wr => ∃ k : Nat, k ≤ n ∧ i = .int .i64 k ∧ Grew w base bv xs wr v1 (natE n ++ (l.take k).flatMap (encI d))) (fun _ i _ => n - (intOf i).toNat)
  case atStart => exact ⟨0, Nat.zero_le _, rfl, by simpa using hg1⟩
  case round =>
    obtain ⟨k, hk, rfl, hg⟩ := hrel
    by_cases hlt : k < n
    · have hkl : k < l.length := by have := Hn.out; omega
      obtain ⟨b, off, cs, rfl, hD, hv, hcell⟩ := hr.elem (InCells.stable d) ha Hn.out hkl
      have hv2 := hg.apartS (InCells.stable d) hv
      have hsame : Same (fun b => bv.ownBlock ≠ some b) w wr := Same.of_grown hg.2.1 fun b hb _ e => hb e.symm
      have Hft := Lib.hid (flat_take (encI d) l k hkl)
      have Hfl := Lib.hid (flat_take_le (encI d) l (k + 1))
      have hokk := Hok.out _ (List.getElem_mem hkl)
      generalize hxx : l[k] = X at hv hv2 hokk
      have HX := Lib.hid hxx
      clear hxx
      obtain ⟨ik, ⟨vk, vn, vt, va⟩⟩ := X
      obtain ⟨vs, rfl, hfit, hvv⟩ := hv
      obtain ⟨A4, c4, rfl⟩ := hvv.form
      simp only [V.kind, V.num, V.text, V.args] at hcell hv2 hokk
      have g0 := hsame.cell hD (hcell 0 _ rfl)
      have g1 := hsame.cell hD (hcell 1 _ rfl)
      have g2 := hsame.cell hD (hcell 2 _ rfl)
      have g3 := hsame.cell hD (hcell 3 _ rfl)
      have g4 := hsame.cell hD (hcell 4 _ rfl)
      simp only [Nat.add_zero, ← Nat.add_assoc] at g0 g1 g2 g3 g4
      have l4 := lt_of_cell g0
      clear hcell
      have Hokk := Lib.hid hokk
      clear hokk
      go_wp2_with (fail)
      have hg' := hg.alloc (.cells #[.int .i64 ik, .int .i64 vk, .int .i64 vn, .string vt, .slice A4 va.length c4] 83)
      have hlen : (xs ++ u8s (natE n ++ (l.take k).flatMap (encI d))).length + (encI d ⟨ik, V.mk vk vn vt va⟩).length ≤ 1099511627776 := by
        have h1 := Hfl.out
        have h2 := Hx.out
        rw [Hft.out, HX.out] at h1
        simp only [listE, List.length_append, u8s_length] at h1 h2 ⊢
        have := Hn.out
        subst this
        omega
      refine (ai_any d u0 ⟨ik, V.mk vk vn vt va⟩ [.int .i64 ik, .int .i64 vk, .int .i64 vn, .string vt, .slice A4 va.length c4] _ base _ hg'.own (by have := hg'.2.1.size; omega) ((InCells.stable d).keep hv2 (Same.alloc _ _ _)) Hokk.out hlen).mono ?_
      rintro e w2 ⟨A2, c2, rfl, hg2⟩
      generalize Value.slice A2 ((xs ++ u8s (natE n ++ (l.take k).flatMap (encI d))).length + (encI d ⟨ik, V.mk vk vn vt va⟩).length) c2 = v2 at hg2 ⊢
      go_wp2_with (fail)
      refine ⟨⟨k + 1, by omega, by go_num, ?_⟩, by simp [intOf]; omega⟩
      rw [Hft.out, HX.out, ← List.append_assoc]
      exact hg'.trans hg2
    · go_wp2
      go_ret
      obtain rfl : k = n := by omega
      have e : (natE k ++ (l.take k).flatMap (encI d)) = listE (encI d) l := by
        have := Hn.out
        subst this
        rw [List.take_length, listE]
      rw [e] at hg
      obtain ⟨A2, c2, rfl⟩ := hg.form
      exact ⟨A2, c2, rfl, hg⟩


set_option maxRecDepth 100000 in
set_option maxHeartbeats 1000000 in
theorem listL_any (d : Nat) (bv : Value) (A : Option Addr) (n c : Nat) (l : List L) (vss : List (List Value)) (xs : List Value) (base : Nat) (w : World) (hown : w.ownsRow base 5 1 bv xs.length xs) (hb : base ≤ w.heap.size) (hn : n = l.length) (hn2 : n ≤ 4194304)
    (hr : Reads w (fun b => bv.ownBlock ≠ some b) 9 A n vss.flatten) (ha : All2 (LCells d w (fun b => bv.ownBlock ≠ some b)) vss l) (hok : ∀ x ∈ l, (0 ≤ x.kind ∧ x.kind ≤ 255) ∧ okN x.from_ ∧ okN x.to_ ∧ okN x.num) (hx : xs.length + (listE (encL d) l).length ≤ 1099511627776) :
    Calls Try.prog 62 #[bv, .slice A n c, .func (.func 65) #[] #[]] w (GrewPost w base bv xs (listE (encL d) l)) := by
  have Hx := Lib.hid hx
  have Hn := Lib.hid hn
  have Hok := Lib.hid hok
  clear hx hn hok
  go_enter Try.func62, Try.ntmps62
  go_wp2_with (fail)
  refine (nat_any bv n xs base w (by omega) hown hb (by have := Hx.out; omega)).mono ?_
  rintro e w1 ⟨A1, c1, rfl, hg1⟩
  go_wp2_with (fail)
  go_loopw [0, 15] (fun v1 i wr => ∃ k : Nat, k ≤ n ∧ i = .int .i64 k ∧ Grew w base bv xs wr v1 (natE n ++ (l.take k).flatMap (encL d))) (fun _ i _ => n - (intOf i).toNat)
  case atStart => exact ⟨0, Nat.zero_le _, rfl, by simpa using hg1⟩
  case round =>
    obtain ⟨k, hk, rfl, hg⟩ := hrel
    by_cases hlt : k < n
    · have hkl : k < l.length := by have := Hn.out; omega
      obtain ⟨b, off, cs, rfl, hD, hv, hcell⟩ := hr.elem (LCells.stable d) ha Hn.out hkl
      have hv2 := hg.apartS (LCells.stable d) hv
      have hsame : Same (fun b => bv.ownBlock ≠ some b) w wr := Same.of_grown hg.2.1 fun b hb _ e => hb e.symm
      have Hft := Lib.hid (flat_take (encL d) l k hkl)
      have Hfl := Lib.hid (flat_take_le (encL d) l (k + 1))
      have hokk := Hok.out _ (List.getElem_mem hkl)
      generalize hxx : l[k] = X at hv hv2 hokk
      have HX := Lib.hid hxx
      clear hxx
      obtain ⟨lk, lf, lt, ln, ls, ⟨vk, vn, vt, va⟩⟩ := X
      obtain ⟨vs, rfl, hfit, hvv⟩ := hv
      obtain ⟨A4, c4, rfl⟩ := hvv.form
      simp only [V.kind, V.num, V.text, V.args] at hcell hv2 hokk
      have g0 := hsame.cell hD (hcell 0 _ rfl)
      have g1 := hsame.cell hD (hcell 1 _ rfl)
      have g2 := hsame.cell hD (hcell 2 _ rfl)
      have g3 := hsame.cell hD (hcell 3 _ rfl)
      have g4 := hsame.cell hD (hcell 4 _ rfl)
      have g5 := hsame.cell hD (hcell 5 _ rfl)
      have g6 := hsame.cell hD (hcell 6 _ rfl)
      have g7 := hsame.cell hD (hcell 7 _ rfl)
      have g8 := hsame.cell hD (hcell 8 _ rfl)
      simp only [Nat.add_zero, ← Nat.add_assoc] at g0 g1 g2 g3 g4 g5 g6 g7 g8
      have l4 := lt_of_cell g0
      clear hcell
      have Hokk := Lib.hid hokk
      clear hokk
      go_wp2_with (fail)
      have hg' := hg.alloc (.cells #[.int .i64 lk, .int .i64 lf, .int .i64 lt, .int .i64 ln, .string ls, .int .i64 vk, .int .i64 vn, .string vt, .slice A4 va.length c4] 55)
      have hlen : (xs ++ u8s (natE n ++ (l.take k).flatMap (encL d))).length + (encL d ⟨lk, lf, lt, ln, ls, V.mk vk vn vt va⟩).length ≤ 1099511627776 := by
        have h1 := Hfl.out
        have h2 := Hx.out
        rw [Hft.out, HX.out] at h1
        simp only [listE, List.length_append, u8s_length] at h1 h2 ⊢
        have := Hn.out
        subst this
        omega
      refine (al_any d u0 ⟨lk, lf, lt, ln, ls, V.mk vk vn vt va⟩ [.int .i64 lk, .int .i64 lf, .int .i64 lt, .int .i64 ln, .string ls, .int .i64 vk, .int .i64 vn, .string vt, .slice A4 va.length c4] _ base _ hg'.own (by have := hg'.2.1.size; omega) ((LCells.stable d).keep hv2 (Same.alloc _ _ _)) Hokk.out.1 Hokk.out.2.1 Hokk.out.2.2.1 Hokk.out.2.2.2 hlen).mono ?_
      rintro e w2 ⟨A2, c2, rfl, hg2⟩
      generalize Value.slice A2 ((xs ++ u8s (natE n ++ (l.take k).flatMap (encL d))).length + (encL d ⟨lk, lf, lt, ln, ls, V.mk vk vn vt va⟩).length) c2 = v2 at hg2 ⊢
      go_wp2_with (fail)
      refine ⟨⟨k + 1, by omega, by go_num, ?_⟩, by simp [intOf]; omega⟩
      rw [Hft.out, HX.out, ← List.append_assoc]
      exact hg'.trans hg2
    · go_wp2
      go_ret
      obtain rfl : k = n := by omega
      have e : (natE k ++ (l.take k).flatMap (encL d)) = listE (encL d) l := by
        have := Hn.out
        subst this
        rw [List.take_length, listE]
      rw [e] at hg
      obtain ⟨A2, c2, rfl⟩ := hg.form
      exact ⟨A2, c2, rfl, hg⟩

end Go.Proofs.Yteojmmjanjilaaa
