/- Contract of wire.Some at letters. (Printed by mailsome.py.) · Contract of the writing of parcels. -/
import Derived.Test.YteojmmjanjilaaaMailLetter
import Derived.Test.YteojmmjanjilaaaPart11
set_option linter.unusedVariables false
namespace Go.Proofs.Yteojmmjanjilaaa
open Go.RowKit Go.Mem Go.Val

theorem info_Le : (Try.prog.info? 55).map (fun i => (i.zero, i.size, i.bytes)) = some (some (.agg #[.int .i64 0, .int .i64 0, .int .i64 0, .int .i64 0, .string ⟨#[]⟩, .int .i64 0, .int .i64 0, .string ⟨#[]⟩, .slice none 0 0]), 9, 104) := by kernel_rfl
theorem app_Le (w : World) {ops : Array Oper} {rest : List Oper} {o : Oper} {a : Act} {Q : Exit → Act → World → Prop} (hgd : o.guard = none) (s x : Operand)
    (ho : o.op = .call { callee := .builtin .append, args := #[s, x], argTypes := #[45, 45] })
    {base : Nat} {v : Value} {n : Nat} {xs : List Value} (hown : w.ownsRow base 55 9 v n xs) (hs : a.eval s = v)
    {D : Nat → Prop} {A : Option Addr} {m : Nat} {news : List Value} (hr : Reads w D 9 A m news) {c : Nat} (hx : a.eval x = .slice A m c) (h1 : ∀ u ∈ news, u.oneCell' = true)
    (h63 : n + m ≤ 1099511627776) (hbase : base ≤ w.heap.size)
    (h : ∀ v' w', w'.ownsRow base 55 9 v' (n + m) (xs ++ news) → w.grownBy w' v.ownBlock → (v'.ownBlock = v.ownBlock ∨ v'.ownBlock = some w.heap.size) → wpList Try.prog ops Q rest (a.put o.dst v') w') : wpList Try.prog ops Q (o :: rest) a w := by
  obtain ⟨i0, hi0, hz0, hz1, hz2⟩ := info_parts info_Le
  exact wpList_append_any w hgd s x _ ho base _ i0 _ 9 _ (by kernel_rfl) hi0 hz0 hz1 hz2 rfl (by omega) v n xs hs hown D A m c news hx hr h1 (by simp only [maxLen]; omega) (by omega) hbase h

set_option maxRecDepth 100000 in
theorem someLe_bad (w : World) (R : Nat) (T : TypeId) (bs : List UInt8) (h : Rd w R T [.int .i64 0] bs true) :
    Calls Try.prog 84 #[.pointer (some ⟨R, 0, none⟩), .func (.func 85) #[.pointer (some ⟨R, 0, none⟩)] #[]] w (SmPost 55 9 (LCells 41) (decL 40) w R T bs true) := by
  go_enter Try.func84, Try.ntmps84
  go_wp2_with (fail)
  refine (rcount_any w R T [.int .i64 0] bs true h).mono ?_
  rintro e w1 ⟨x, bs1, bad1, rfl, hx, hrd, hg, hl, hh⟩
  have hb1 : bad1 = true := bad_on (β := Nat) hh.out rfl
  subst hb1
  have hfin : SmPost 55 9 (LCells 41) (decL 40) w R T bs true (.returned (.slice none 0 0)) w1 := ⟨[], none, 0, bs1, rfl, OwnList.nil _ _ _ _, by simp, hrd, hg, hl, by unfold Hid; rfl⟩
  have Hfin := Lib.hid hfin
  obtain ⟨A3, c3, hb3, _, _, hr3⟩ := id hrd
  have k1 : w1.cell? ⟨R, 1, none⟩ = some (.bool true) := hb3.cell 1
  have l1 := hb3.lt
  clear hb3 hr3 hrd hg hh hfin h
  go_wp2_with (fail)
  refine wp_loop_rounds 1 ?_
  rw [rounds_succ]
  by_cases hm0 : 0 < x
  · go_wp2_with (fail)
    go_ret
    exact Hfin.out
  · obtain rfl : x = 0 := by omega
    go_wp2_with (fail)
    go_ret
    exact Hfin.out

set_option maxRecDepth 100000 in
set_option maxHeartbeats 1000000 in
theorem someLe_good (w : World) (R : Nat) (T : TypeId) (bs : List UInt8) (hlen : bs.length ≤ 4194304) (h : Rd w R T [.int .i64 0] bs false) (hf : (listD (decL 40) bs).isSome = true) :
    Calls Try.prog 84 #[.pointer (some ⟨R, 0, none⟩), .func (.func 85) #[.pointer (some ⟨R, 0, none⟩)] #[]] w (SmPost 55 9 (LCells 41) (decL 40) w R T bs false) := by
  have Hf := Lib.hid hf
  clear hf
  have hR := h.lt
  go_enter Try.func84, Try.ntmps84
  go_wp2_with (fail)
  refine (rcount_any w R T [.int .i64 0] bs false h).mono ?_
  rintro e w1 ⟨x, bs1, bad1, rfl, hx, hrd, hg, hl, hh⟩
  obtain ⟨hb1, hcnt⟩ := list_fine hh.out Hf.out
  subst hb1
  have Hcnt := Lib.hid hcnt
  clear hcnt hh Hf
  go_wp2_with (fail)
  go_loopw [5, 6] (fun v5 v6 wr => ∃ (m : Nat) (l : List L) (bs2 : List UInt8), v6 = .int .i64 m ∧ l.length + m = x ∧ OwnList 55 9 (LCells 41) wr w.heap.size v5 l ∧ Rd wr R T [.int .i64 0] bs2 false ∧ w.grownBy wr (some R) ∧ bs2.length ≤ bs.length ∧ Hid (ManyFine (decL 40) bs m l bs2)) (fun _ v6 _ => (intOf v6).toNat)
  case atStart => exact ⟨x, [], bs1, rfl, by simp, OwnList.nil _ _ _ _, hrd, hg, hl, Hcnt⟩
  case round =>
    obtain ⟨m, l, bs2, rfl, hm, hown, hrd2, hg2, hl2, hcur⟩ := hrel
    obtain ⟨A2, c2, rfl, hc2⟩ := hown.form
    obtain ⟨A3, c3, hb3, _, _, hr3⟩ := id hrd2
    have k1 : wr.cell? ⟨R, 1, none⟩ = some (.bool false) := hb3.cell 1
    have l1 := hb3.lt
    clear hb3 hr3
    by_cases hend : m = 0
    · subst hend
      have hfin : SmPost 55 9 (LCells 41) (decL 40) w R T bs false (.returned (.slice A2 l.length c2)) wr := ⟨l, A2, c2, bs2, rfl, hown, by omega, hrd2, hg2, hl2, by unfold Hid; exact hcur.out.fin⟩
      have Hfin := Lib.hid hfin
      clear hfin hcur hown hrd2
      go_wp2_with (fail)
      go_ret
      exact Hfin.out
    · obtain ⟨m, rfl⟩ : ∃ m', m = m' + 1 := ⟨m - 1, by omega⟩
      have hdec := hcur.out.head
      have Hdec := Lib.hid hdec
      have hown' := Lib.hid hown
      have hrd2' := Lib.hid hrd2
      clear hown hrd2 hdec
      go_wp2_with (fail)
      refine (rletter_any wr R T bs2 (by omega) hrd2'.out Hdec.out).mono ?_
      rintro e w2 ⟨X, cs4, bs3, rfl, hv4, hrd3, hg3, hl3, hh3⟩
      obtain ⟨lk, lf, lt, ln, ls, X⟩ := X
      obtain ⟨vs, rfl, hfit, hvv⟩ := id hv4
      obtain ⟨A4, c4, rfl⟩ := hvv.form
      obtain ⟨vk, vn, vt, va⟩ := X
      simp only [V.kind, V.num, V.text, V.args] at hv4 ⊢
      clear hvv hfit
      have hown2 := hown'.out.keep (LCells.stable 41) (Same.of_grown hg3 fun b hb _ => by simp; omega)
      have hs3 := hg3.size
      have hs2 := hg2.size
      have hol := hown'.out.lt
      obtain ⟨vs1, ho1, ha1⟩ := hown2
      have hol1 := ho1.lt
      have hy : LCells 41 w2 (fun b => w.heap.size ≤ b ∧ (Value.slice A2 l.length c2).ownBlock ≠ some b) [.int .i64 lk, .int .i64 lf, .int .i64 lt, .int .i64 ln, .string ls, .int .i64 vk, .int .i64 vn, .string vt, .slice A4 va.length c4] ⟨lk, lf, lt, ln, ls, V.mk vk vn vt va⟩ :=
        (LCells.stable 41).imp hv4 fun b hb _ => ⟨by omega, fun e => by have := (hol b e).2; omega⟩
      go_wp2_with (at_builtin; refine app_Le _ rfl (.tmp 20) (.tmp 23) rfl (ho1.alloc _) rfl (Reads.new (D := Any) _ [.int .i64 lk, .int .i64 lf, .int .i64 lt, .int .i64 ln, .string ls, .int .i64 vk, .int .i64 vn, .string vt, .slice A4 va.length c4] 9 1 _ trivial rfl) rfl (by simp [Value.oneCell']) (by omega) (by simp; omega) ?_; intro v5 w3 hown5 hg5 hat5)
      have hpush := OwnList.push (LCells.stable 41) ha1 hy hg5 hat5 hown5
      have hlR := hrd3.lt
      have hk5 : Same (fun b => b ≤ R) w2 w3 := fun b hb hl => (hg5.block b (by simp; omega) (fun e => by have := (hol1 b e.symm).1; omega)).trans (Below.heap_alloc w2 _ b hl)
      exact ⟨⟨m, l ++ [⟨lk, lf, lt, ln, ls, V.mk vk vn vt va⟩], bs3, by go_num, by simp; omega, hpush, hrd3.keep hk5, grownBy_far (grownBy_alloc (grownBy_trans hg2 hg3) _) hg5 (fun i hi => by have := (hol1 i hi).1; omega), by omega, hcur.out.step hh3.out⟩, by simp [intOf]⟩

theorem someLe_any (w : World) (R : Nat) (T : TypeId) (bs : List UInt8) (bad : Bool) (hlen : bs.length ≤ 4194304) (h : Rd w R T [.int .i64 0] bs bad) (hf : bad = false → (listD (decL 40) bs).isSome = true) :
    Calls Try.prog 84 #[.pointer (some ⟨R, 0, none⟩), .func (.func 85) #[.pointer (some ⟨R, 0, none⟩)] #[]] w (SmPost 55 9 (LCells 41) (decL 40) w R T bs bad) := by
  cases bad with
  | true => exact someLe_bad w R T bs h
  | false => exact someLe_good w R T bs hlen h (hf rfl)

end Go.Proofs.Yteojmmjanjilaaa
set_option linter.unusedVariables false
namespace Go.Proofs.Yteojmmjanjilaaa
open Go.RowKit Go.Mem Go.Val
/-- the eight cells of a parcel -/
def PcCells (d : Nat) (w : World) (D : Nat → Prop) (cs : List Value) (p : Pc) : Prop :=
  ∃ sv A3 c3 vs3 A4 c4 A5 c5, cs = .int .i64 p.ref :: (sv ++ [.slice A3 p.box.length c3, .int .i64 p.ticks, .slice A4 p.watches.length c4, .slice A5 p.links.length c5]) ∧ Fits64 p.ref ∧ Fits64 p.ticks ∧ SvCells d w D sv p.saved ∧ (p.box.length ≤ 4194304 ∧ p.box.length ≤ c3 ∧ c3 ≤ maxLen) ∧ (p.watches.length ≤ 4194304 ∧ p.watches.length ≤ c4 ∧ c4 ≤ maxLen) ∧ (p.links.length ≤ 4194304 ∧ p.links.length ≤ c5 ∧ c5 ≤ maxLen) ∧
    Reads w D 9 A3 p.box.length vs3.flatten ∧ All2 (LCells d w D) vs3 p.box ∧ Reads w D 1 A4 p.watches.length (nums p.watches) ∧ Reads w D 1 A5 p.links.length (nums p.links)
theorem PcCells.stable (d : Nat) : Stable 8 (PcCells d) where
  keep := fun ⟨sv, A3, c3, vs3, A4, c4, A5, c5, e, h0, h1, h2, h3, h4, h5, r3, a3, r4, r5⟩ hs => ⟨sv, A3, c3, vs3, A4, c4, A5, c5, e, h0, h1, (SvCells.stable d).keep h2 hs, h3, h4, h5, r3.keep hs, a3.imp fun _ _ h => (LCells.stable d).keep h hs, r4.keep hs, r5.keep hs⟩
  imp := fun ⟨sv, A3, c3, vs3, A4, c4, A5, c5, e, h0, h1, h2, h3, h4, h5, r3, a3, r4, r5⟩ hs => ⟨sv, A3, c3, vs3, A4, c4, A5, c5, e, h0, h1, (SvCells.stable d).imp h2 hs, h3, h4, h5, r3.imp (by omega) hs, a3.imp fun _ _ h => (LCells.stable d).imp h hs, r4.imp (by omega) hs, r5.imp (by omega) hs⟩
  len := fun ⟨sv, A3, c3, vs3, A4, c4, A5, c5, e, _, _, h2, _⟩ => by rw [e]; simp [(SvCells.stable d).len h2]
  one := fun ⟨sv, A3, c3, vs3, A4, c4, A5, c5, e, _, _, h2, _⟩ u hu => by
    rw [e] at hu
    simp only [List.mem_cons, List.mem_append, List.not_mem_nil, or_false] at hu
    rcases hu with rfl | hu | rfl | rfl | rfl | rfl
    · rfl
    · exact (SvCells.stable d).one h2 u hu
    · rfl
    · rfl
    · rfl
    · rfl

set_option maxRecDepth 100000 in
set_option maxHeartbeats 4000000 in
theorem ap_any (d : Nat) (bv : Value) (p : Pc) (cs xs : List Value) (base : Nat) (w : World) (hown : w.ownsRow base 5 1 bv xs.length xs) (hb : base ≤ w.heap.size) (hv : PcCells d w (fun b => bv.ownBlock ≠ some b) cs p) (hr : okN p.ref) (hok : ∀ x ∈ p.saved.inputs, 0 ≤ x.kind ∧ x.kind ≤ 255) (hokL : ∀ x ∈ p.box, (0 ≤ x.kind ∧ x.kind ≤ 255) ∧ okN x.from_ ∧ okN x.to_ ∧ okN x.num) (hokW : ∀ x ∈ p.watches, okN x) (hokK : ∀ x ∈ p.links, okN x) (hx : xs.length + (encP d p).length ≤ 1099511627776) :
    Calls Try.prog 50 #[bv, .agg cs.toArray] w (GrewPost w base bv xs (encP d p)) := by
  obtain ⟨sv, A3, c3, vs3, A4, c4, A5, c5, rfl, _, hfit, hsv, h3, h4, h5, r3, a3, r4, r5⟩ := hv
  obtain ⟨pr0, ⟨sa, ss, si⟩, pb, pt, pw, pl⟩ := p
  have hsv' := hsv
  obtain ⟨A1, c1, vs1, A2, c2, vs2, rfl, _⟩ := hsv'
  simp only [List.cons_append, List.nil_append] at hfit hsv h3 h4 h5 r3 a3 r4 r5 hr hok hokL hokW hokK hx ⊢
  obtain ⟨pr, rfl⟩ := Int.eq_ofNat_of_zero_le hr.1
  have hr2 : pr ≤ 9223372036854775807 := by have := hr.2; omega
  have hlx : (encP d ⟨pr, ⟨sa, ss, si⟩, pb, pt, pw, pl⟩).length = (natE pr).length + (encS d ⟨sa, ss, si⟩).length + (listE (encL d) pb).length + (intE pt).length + (listE natI pw).length + (listE natI pl).length := by
    simp only [encP, natI, Int.toNat_natCast, List.length_append]
    omega
  rw [hlx] at hx
  have Hx := Lib.hid hx
  have Hok := Lib.hid hok
  have HokL := Lib.hid hokL
  have HokW := Lib.hid hokW
  have HokK := Lib.hid hokK
  clear hx hlx hok hokL hokW hokK hr
  have hnb : bv.ownBlock ≠ some w.heap.size := fun e => by have := (hown.lt _ e).2; omega
  have hbx := Blk.new w 48 [.int .i64 (pr : Int), .string sa, .slice A1 ss.length c1, .slice A2 si.length c2, .slice A3 pb.length c3, .int .i64 pt, .slice A4 pw.length c4, .slice A5 pl.length c5]
  have HG0 := Lib.hid (((Grew.refl hown).alloc (.cells #[.int .i64 (pr : Int), .string sa, .slice A1 ss.length c1, .slice A2 si.length c2, .slice A3 pb.length c3, .int .i64 pt, .slice A4 pw.length c4, .slice A5 pl.length c5] 48)).drew)
  have Hx0 : Hid ((xs ++ u8s []).length ≤ 1099511627776) := by have := Hx.out; unfold Hid; simp [u8s]; omega
  have Hx1 : Hid ((xs ++ u8s ([] ++ natE pr)).length + (encS d ⟨sa, ss, si⟩).length ≤ 1099511627776) := by have := Hx.out; unfold Hid; simp only [List.nil_append, List.length_append, u8s_length]; omega
  have Hx2 : Hid ((xs ++ u8s ([] ++ natE pr ++ encS d ⟨sa, ss, si⟩)).length + (listE (encL d) pb).length ≤ 1099511627776) := by have := Hx.out; unfold Hid; simp only [List.nil_append, List.length_append, u8s_length]; omega
  have Hx3 : Hid ((xs ++ u8s ([] ++ natE pr ++ encS d ⟨sa, ss, si⟩ ++ listE (encL d) pb)).length ≤ 1099511627776) := by have := Hx.out; unfold Hid; simp only [List.nil_append, List.length_append, u8s_length]; omega
  have Hx4 : Hid ((xs ++ u8s ([] ++ natE pr ++ encS d ⟨sa, ss, si⟩ ++ listE (encL d) pb ++ intE pt)).length + (listE natI pw).length ≤ 1099511627776) := by have := Hx.out; unfold Hid; simp only [List.nil_append, List.length_append, u8s_length]; omega
  have Hx5 : Hid ((xs ++ u8s ([] ++ natE pr ++ encS d ⟨sa, ss, si⟩ ++ listE (encL d) pb ++ intE pt ++ listE natI pw)).length + (listE natI pl).length ≤ 1099511627776) := by have := Hx.out; unfold Hid; simp only [List.nil_append, List.length_append, u8s_length]; omega
  go_enter Try.func50, Try.ntmps50
  go_upto_region 1 with (fail)
  go_cut [0] (fun s0 wc => Grew w base bv xs wc s0 ([] ++ natE pr ++ encS d ⟨sa, ss, si⟩ ++ listE (encL d) pb) ∧ Blk wc w.heap.size 48 [.int .i64 (pr : Int), .string sa, .slice A1 ss.length c1, .slice A2 si.length c2, .slice A3 pb.length c3, .int .i64 pt, .slice A4 pw.length c4, .slice A5 pl.length c5] ∧ s0.ownBlock ≠ some w.heap.size)
  case first =>
    go_region_law (first
      | (rw [if_pos (by simp [Region.wanted])]; unfold Oper.wp; go_simp; go_at_call 64; refine (nat_any bv pr (xs ++ u8s []) base _ hr2 HG0.out.own (by simp; omega) Hx0.out).mono ?_; rintro e w3 ⟨A6, c6, rfl, hg3⟩; generalize Value.slice A6 ((xs ++ u8s []).length + (natE pr).length) c6 = v3 at hg3 ⊢; dsimp only; have hG1 := HG0.out.trans hg3; have hB1 : Blk w3 w.heap.size 48 [.int .i64 (pr : Int), .string sa, .slice A1 ss.length c1, .slice A2 si.length c2, .slice A3 pb.length c3, .int .i64 pt, .slice A4 pw.length c4, .slice A5 pl.length c5] := (by exact hbx.drew : Blk (w.alloc (.cells #[.int .i64 (pr : Int), .string sa, .slice A1 ss.length c1, .slice A2 si.length c2, .slice A3 pb.length c3, .int .i64 pt, .slice A4 pw.length c4, .slice A5 pl.length c5] 48)).drew w.heap.size 48 [.int .i64 (pr : Int), .string sa, .slice A1 ss.length c1, .slice A2 si.length c2, .slice A3 pb.length c3, .int .i64 pt, .slice A4 pw.length c4, .slice A5 pl.length c5]).grown hg3.2.1 (fun e => hnb e.symm); have hne1 : v3.ownBlock ≠ some w.heap.size := fun e => hg3.2.2.elim (fun h => hnb (h.symm.trans e)) (fun h => by have h1 := h _ e; simp at h1; omega); have m1 := hB1.cell 1; have m2 := hB1.cell 2; have m3 := hB1.cell 3; have m4 := hB1.cell 4; simp only [List.getElem?_cons_succ, List.getElem?_cons_zero] at m1 m2 m3 m4)
      | (rw [if_pos (by simp [Region.wanted])]; unfold Oper.wp; go_simp; go_at_call 63; refine (as_any d v3 ⟨sa, ss, si⟩ [.string sa, .slice A1 ss.length c1, .slice A2 si.length c2] _ base _ hG1.own (by have := hG1.2.1.size; omega) (hG1.apartS (SvCells.stable d) hsv) Hok.out Hx1.out).mono ?_; rintro e w4 ⟨A7, c7, rfl, hg4⟩; generalize Value.slice A7 ((xs ++ u8s ([] ++ natE pr)).length + (encS d ⟨sa, ss, si⟩).length) c7 = v4 at hg4 ⊢; dsimp only; have hG2 := hG1.trans hg4; have hB2 := hg4.blk hB1 hne1; have hne2 : v4.ownBlock ≠ some w.heap.size := fun e => hg4.2.2.elim (fun h => hne1 (h.symm.trans e)) (fun h => by have h1 := h _ e; have h2 := hB1.lt; omega); have m4 := hB2.cell 4; simp only [List.getElem?_cons_succ, List.getElem?_cons_zero] at m4)
      | (rw [if_pos (by simp [Region.wanted])]; unfold Oper.wp; go_simp; go_at_call 62; refine (listL_any d v4 A3 pb.length c3 pb vs3 _ base _ hG2.own (by have := hG2.2.1.size; omega) rfl h3.1 (hG2.apartR (by omega) r3) (a3.imp fun _ _ h => hG2.apartS (LCells.stable d) h) HokL.out Hx2.out).mono ?_; rintro e w5 ⟨A8, c8, rfl, hg5⟩; generalize Value.slice A8 ((xs ++ u8s ([] ++ natE pr ++ encS d ⟨sa, ss, si⟩)).length + (listE (encL d) pb).length) c8 = v5 at hg5 ⊢; dsimp only; have hB5 := hg5.blk hB2 hne2))
    all_goals go_wp2_with (fail)
    all_goals go_meet
    all_goals exact ⟨hG2.trans hg5, hB5, fun e => hg5.2.2.elim (fun h => hne2 (h.symm.trans e)) (fun h => by have h1 := h _ e; have h2 := hB2.lt; omega)⟩
  case rest =>
    obtain ⟨hG3, hB3, hne3⟩ := hcut
    have hGd := hG3.drew
    have n5 := hB3.cell 5
    have n6 := hB3.cell 6
    have n7 := hB3.cell 7
    simp only [List.getElem?_cons_succ, List.getElem?_cons_zero] at n5 n6 n7
    go_wp2_with (fail)
    go_region_law (first
      | (rw [if_pos (by simp [Region.wanted])]; unfold Oper.wp; go_simp; go_at_call 67; refine (int_any u0 pt _ base _ hfit hGd.own (by have := hGd.2.1.size; omega) Hx3.out).mono ?_; rintro e w3 ⟨A6, c6, rfl, hg3⟩; generalize Value.slice A6 ((xs ++ u8s ([] ++ natE pr ++ encS d ⟨sa, ss, si⟩ ++ listE (encL d) pb)).length + (intE pt).length) c6 = v3 at hg3 ⊢; dsimp only; have hG4 := hGd.trans hg3; have hB4 : Blk w3 w.heap.size 48 [.int .i64 (pr : Int), .string sa, .slice A1 ss.length c1, .slice A2 si.length c2, .slice A3 pb.length c3, .int .i64 pt, .slice A4 pw.length c4, .slice A5 pl.length c5] := hB3.drew.grown hg3.2.1 (fun e => hne3 e.symm); have hne4 : v3.ownBlock ≠ some w.heap.size := fun e => hg3.2.2.elim (fun h => hne3 (h.symm.trans e)) (fun h => by have h1 := h _ e; have h2 := hB3.drew.lt; omega); have m6 := hB4.cell 6; have m7 := hB4.cell 7; simp only [List.getElem?_cons_succ, List.getElem?_cons_zero] at m6 m7)
      | (rw [if_pos (by simp [Region.wanted])]; unfold Oper.wp; go_simp; go_at_call 66; refine (listN_any v4 A5 pl.length c5 pl _ base _ hG5.own (by have := hG5.2.1.size; omega) h5.1 (hG5.apartR (by omega) r5) HokK.out Hx5.out).mono ?_; rintro e w5 ⟨A8, c8, rfl, hg5⟩; generalize Value.slice A8 ((xs ++ u8s ([] ++ natE pr ++ encS d ⟨sa, ss, si⟩ ++ listE (encL d) pb ++ intE pt ++ listE natI pw)).length + (listE natI pl).length) c8 = v5 at hg5 ⊢; dsimp only)
      | (rw [if_pos (by simp [Region.wanted])]; unfold Oper.wp; go_simp; go_at_call 66; refine (listN_any v3 A4 pw.length c4 pw _ base _ hG4.own (by have := hG4.2.1.size; omega) h4.1 (hG4.apartR (by omega) r4) HokW.out Hx4.out).mono ?_; rintro e w4 ⟨A7, c7, rfl, hg4⟩; generalize Value.slice A7 ((xs ++ u8s ([] ++ natE pr ++ encS d ⟨sa, ss, si⟩ ++ listE (encL d) pb ++ intE pt)).length + (listE natI pw).length) c7 = v4 at hg4 ⊢; dsimp only; have hG5 := hG4.trans hg4; have hB5 := hg4.blk hB4 hne4; have m7 := hB5.cell 7; simp only [List.getElem?_cons_succ, List.getElem?_cons_zero] at m7))
    all_goals go_wp2_with (fail)
    all_goals go_ret
    all_goals have hG6 := hG5.trans hg5
    all_goals rw [show ([] ++ natE pr ++ encS d ⟨sa, ss, si⟩ ++ listE (encL d) pb ++ intE pt ++ listE natI pw) ++ listE natI pl = encP d ⟨pr, ⟨sa, ss, si⟩, pb, pt, pw, pl⟩ by simp [encP, natI]] at hG6
    all_goals obtain ⟨A9, c9, rfl⟩ := hG6.form
    all_goals exact ⟨A9, c9, rfl, hG6⟩
end Go.Proofs.Yteojmmjanjilaaa
