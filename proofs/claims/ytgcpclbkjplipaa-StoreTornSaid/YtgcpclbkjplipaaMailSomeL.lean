/- Contract of wire.Some at letters. (Printed by mailsome.py.) -/
import Derived.Test.YtgcpclbkjplipaaMailLetter
set_option linter.unusedVariables false
namespace Go.Proofs.Ytgcpclbkjplipaa
open Go.RowKit Go.Mem Go.Val

theorem info_Le : (Try.prog.info? 61).map (fun i => (i.zero, i.size, i.bytes)) = some (some (.agg #[.int .i64 0, .int .i64 0, .int .i64 0, .int .i64 0, .string ⟨#[]⟩, .int .i64 0, .int .i64 0, .string ⟨#[]⟩, .slice none 0 0]), 9, 104) := by kernel_rfl
theorem app_Le (w : World) {ops : Array Oper} {rest : List Oper} {o : Oper} {a : Act} {Q : Exit → Act → World → Prop} (hgd : o.guard = none) (s x : Operand)
    (ho : o.op = .call { callee := .builtin .append, args := #[s, x], argTypes := #[66, 66] })
    {base : Nat} {v : Value} {n : Nat} {xs : List Value} (hown : w.ownsRow base 61 9 v n xs) (hs : a.eval s = v)
    {D : Nat → Prop} {A : Option Addr} {m : Nat} {news : List Value} (hr : Reads w D 9 A m news) {c : Nat} (hx : a.eval x = .slice A m c) (h1 : ∀ u ∈ news, u.oneCell' = true)
    (h63 : n + m ≤ 1099511627776) (hbase : base ≤ w.heap.size)
    (h : ∀ v' w', w'.ownsRow base 61 9 v' (n + m) (xs ++ news) → w.grownBy w' v.ownBlock → (v'.ownBlock = v.ownBlock ∨ v'.ownBlock = some w.heap.size) → wpList Try.prog ops Q rest (a.put o.dst v') w') : wpList Try.prog ops Q (o :: rest) a w := by
  obtain ⟨i0, hi0, hz0, hz1, hz2⟩ := info_parts info_Le
  exact wpList_append_any w hgd s x _ ho base _ i0 _ 9 _ (by kernel_rfl) hi0 hz0 hz1 hz2 rfl (by omega) v n xs hs hown D A m c news hx hr h1 (by simp only [maxLen]; omega) (by omega) hbase h

set_option maxRecDepth 100000 in
theorem someLe_bad (w : World) (R : Nat) (T : TypeId) (bs : List UInt8) (h : Rd w R T [.int .i64 0] bs true) :
    Calls Try.prog 109 #[.pointer (some ⟨R, 0, none⟩), .func (.func 67) #[.pointer (some ⟨R, 0, none⟩)] #[]] w (SmPost 61 9 (LCells 41) (decL 40) w R T bs true) := by
  go_enter Try.func109, Try.ntmps109
  go_wp2_with (fail)
  refine (rcount_any w R T [.int .i64 0] bs true h).mono ?_
  rintro e w1 ⟨x, bs1, bad1, rfl, hx, hrd, hg, hl, hh⟩
  have hb1 : bad1 = true := bad_on (β := Nat) hh.out rfl
  subst hb1
  have hfin : SmPost 61 9 (LCells 41) (decL 40) w R T bs true (.returned (.slice none 0 0)) w1 := ⟨[], none, 0, bs1, rfl, OwnList.nil _ _ _ _, by simp, hrd, hg, hl, by unfold Hid; rfl⟩
  have Hfin := Lib.hid hfin
  obtain ⟨A3, c3, hb3, _, _, hr3⟩ := id hrd
  have k1 : w1.cell? ⟨R, 1, none⟩ = some (.bool true) := hb3.cell 1
  have l1 := hb3.lt
  clear hb3 hr3 hrd hg hh hfin h
  go_wp2_with (fail)
  refine wp_loop_rounds 1 ?_
  rw [rounds_succ]
  by_cases hm0 : 0 < x
  · go_wp2_with (fail)
    go_ret
    exact Hfin.out
  · obtain rfl : x = 0 := by omega
    go_wp2_with (fail)
    go_ret
    exact Hfin.out

set_option maxRecDepth 100000 in
set_option maxHeartbeats 1000000 in
theorem someLe_good (w : World) (R : Nat) (T : TypeId) (bs : List UInt8) (hlen : bs.length ≤ 4194304) (h : Rd w R T [.int .i64 0] bs false) (hf : (listD (decL 40) bs).isSome = true) :
    Calls Try.prog 109 #[.pointer (some ⟨R, 0, none⟩), .func (.func 67) #[.pointer (some ⟨R, 0, none⟩)] #[]] w (SmPost 61 9 (LCells 41) (decL 40) w R T bs false) := by
  have Hf := Lib.hid hf
  clear hf
  have hR := h.lt
  go_enter Try.func109, Try.ntmps109
  go_wp2_with (fail)
  refine (rcount_any w R T [.int .i64 0] bs false h).mono ?_
  rintro e w1 ⟨x, bs1, bad1, rfl, hx, hrd, hg, hl, hh⟩
  obtain ⟨hb1, hcnt⟩ := list_fine hh.out Hf.out
  subst hb1
  have Hcnt := Lib.hid hcnt
  clear hcnt hh Hf
  go_wp2_with (fail)
  go_loopw [5, 6] (fun v5 v6 wr => ∃ (m : Nat) (l : List L) (bs2 : List UInt8), v6 = .int .i64 m ∧ l.length + m = x ∧ OwnList 61 9 (LCells 41) wr w.heap.size v5 l ∧ Rd wr R T [.int .i64 0] bs2 false ∧ w.grownBy wr (some R) ∧ bs2.length ≤ bs.length ∧ Hid (ManyFine (decL 40) bs m l bs2)) (fun _ v6 _ => (intOf v6).toNat)
  case atStart => exact ⟨x, [], bs1, rfl, by simp, OwnList.nil _ _ _ _, hrd, hg, hl, Hcnt⟩
  case round =>
    obtain ⟨m, l, bs2, rfl, hm, hown, hrd2, hg2, hl2, hcur⟩ := hrel
    obtain ⟨A2, c2, rfl, hc2⟩ := hown.form
    obtain ⟨A3, c3, hb3, _, _, hr3⟩ := id hrd2
    have k1 : wr.cell? ⟨R, 1, none⟩ = some (.bool false) := hb3.cell 1
    have l1 := hb3.lt
    clear hb3 hr3
    by_cases hend : m = 0
    · subst hend
      have hfin : SmPost 61 9 (LCells 41) (decL 40) w R T bs false (.returned (.slice A2 l.length c2)) wr := ⟨l, A2, c2, bs2, rfl, hown, by omega, hrd2, hg2, hl2, by unfold Hid; exact hcur.out.fin⟩
      have Hfin := Lib.hid hfin
      clear hfin hcur hown hrd2
      go_wp2_with (fail)
      go_ret
      exact Hfin.out
    · obtain ⟨m, rfl⟩ : ∃ m', m = m' + 1 := ⟨m - 1, by omega⟩
      have hdec := hcur.out.head
      have Hdec := Lib.hid hdec
      have hown' := Lib.hid hown
      have hrd2' := Lib.hid hrd2
      clear hown hrd2 hdec
      go_wp2_with (fail)
      refine (rletter_any wr R T bs2 (by omega) hrd2'.out Hdec.out).mono ?_
      rintro e w2 ⟨X, cs4, bs3, rfl, hv4, hrd3, hg3, hl3, hh3⟩
      obtain ⟨lk, lf, lt, ln, ls, X⟩ := X
      obtain ⟨vs, rfl, hfit, hvv⟩ := id hv4
      obtain ⟨A4, c4, rfl⟩ := hvv.form
      obtain ⟨vk, vn, vt, va⟩ := X
      simp only [V.kind, V.num, V.text, V.args] at hv4 ⊢
      clear hvv hfit
      have hown2 := hown'.out.keep (LCells.stable 41) (Same.of_grown hg3 fun b hb _ => by simp; omega)
      have hs3 := hg3.size
      have hs2 := hg2.size
      have hol := hown'.out.lt
      obtain ⟨vs1, ho1, ha1⟩ := hown2
      have hol1 := ho1.lt
      have hy : LCells 41 w2 (fun b => w.heap.size ≤ b ∧ (Value.slice A2 l.length c2).ownBlock ≠ some b) [.int .i64 lk, .int .i64 lf, .int .i64 lt, .int .i64 ln, .string ls, .int .i64 vk, .int .i64 vn, .string vt, .slice A4 va.length c4] ⟨lk, lf, lt, ln, ls, V.mk vk vn vt va⟩ :=
        (LCells.stable 41).imp hv4 fun b hb _ => ⟨by omega, fun e => by have := (hol b e).2; omega⟩
      go_wp2_with (at_builtin; refine app_Le _ rfl (.tmp 20) (.tmp 23) rfl (ho1.alloc _) rfl (Reads.new (D := Any) _ [.int .i64 lk, .int .i64 lf, .int .i64 lt, .int .i64 ln, .string ls, .int .i64 vk, .int .i64 vn, .string vt, .slice A4 va.length c4] 9 1 _ trivial rfl) rfl (by simp [Value.oneCell']) (by omega) (by simp; omega) ?_; intro v5 w3 hown5 hg5 hat5)
      have hpush := OwnList.push (LCells.stable 41) ha1 hy hg5 hat5 hown5
      have hlR := hrd3.lt
      have hk5 : Same (fun b => b ≤ R) w2 w3 := fun b hb hl => (hg5.block b (by simp; omega) (fun e => by have := (hol1 b e.symm).1; omega)).trans (Below.heap_alloc w2 _ b hl)
      exact ⟨⟨m, l ++ [⟨lk, lf, lt, ln, ls, V.mk vk vn vt va⟩], bs3, by go_num, by simp; omega, hpush, hrd3.keep hk5, grownBy_far (grownBy_alloc (grownBy_trans hg2 hg3) _) hg5 (fun i hi => by have := (hol1 i hi).1; omega), by omega, hcur.out.step hh3.out⟩, by simp [intOf]⟩

theorem someLe_any (w : World) (R : Nat) (T : TypeId) (bs : List UInt8) (bad : Bool) (hlen : bs.length ≤ 4194304) (h : Rd w R T [.int .i64 0] bs bad) (hf : bad = false → (listD (decL 40) bs).isSome = true) :
    Calls Try.prog 109 #[.pointer (some ⟨R, 0, none⟩), .func (.func 67) #[.pointer (some ⟨R, 0, none⟩)] #[]] w (SmPost 61 9 (LCells 41) (decL 40) w R T bs bad) := by
  cases bad with
  | true => exact someLe_bad w R T bs h
  | false => exact someLe_good w R T bs hlen h (hf rfl)

end Go.Proofs.Ytgcpclbkjplipaa
