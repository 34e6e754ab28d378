/- Contracts of wire.Some at inputs and ints. -/
import Derived.Test.YteojmmjanjilaaaPart14
set_option linter.unusedVariables false
namespace Go.Val
open Go.RowKit Go.Mem
/-- a list was read: it lies in new memory; the reader's flag is as it was -/
def SmPost {α : Type} (E : TypeId) (size : Nat) (cells : World → (Nat → Prop) → List Value → α → Prop) (dec : List UInt8 → Option (α × List UInt8)) (w : World) (R : Nat) (T : TypeId) (bs : List UInt8) (bad : Bool) (e : Ending) (w' : World) : Prop :=
  ∃ (l : List α) (A : Option Addr) (c : Nat) (bs' : List UInt8), e = .returned (.slice A l.length c) ∧ OwnList E size cells w' w.heap.size (.slice A l.length c) l ∧ l.length ≤ 4194304 ∧ Rd w' R T [.int .i64 0] bs' bad ∧ w.grownBy w' (some R) ∧ bs'.length ≤ bs.length ∧ Hid ((okS bad bs).bind (listD dec) = okS bad (l, bs'))
/-- in the midst of a list that can be read to its end -/
def ManyFine {α : Type} (dec : List UInt8 → Option (α × List UInt8)) (bs : List UInt8) (m : Nat) (l : List α) (bs2 : List UInt8) : Prop := (manyD dec m bs2).isSome = true ∧ listD dec bs = (manyD dec m bs2).map fun p => (l ++ p.1, p.2)
theorem list_fine {α : Type} {dec : List UInt8 → Option (α × List UInt8)} {bad1 : Bool} {bs bs1 : List UInt8} {x : Nat} (h : (okS false bs).bind countD = okS bad1 (x, bs1)) (hf : (listD dec bs).isSome = true) : bad1 = false ∧ ManyFine dec bs x [] bs1 := by
  simp only [okS, Bool.false_eq_true, if_false, Option.bind_some] at h
  unfold ManyFine
  unfold listD at hf ⊢
  rw [h] at hf ⊢
  cases bad1 with
  | true => simp at hf
  | false => exact ⟨rfl, by simpa using hf, by simp⟩
theorem ManyFine.fin {α : Type} {dec : List UInt8 → Option (α × List UInt8)} {bs bs2 : List UInt8} {l : List α} (h : ManyFine dec bs 0 l bs2) : (okS false bs).bind (listD dec) = okS false (l, bs2) := by
  have := h.2
  simp only [manyD, Option.map_some, List.append_nil] at this
  simpa [okS] using this
theorem ManyFine.head {α : Type} {dec : List UInt8 → Option (α × List UInt8)} {bs bs2 : List UInt8} {m : Nat} {l : List α} (h : ManyFine dec bs (m + 1) l bs2) : (dec bs2).isSome = true := by
  have := h.1
  simp only [manyD] at this
  cases hd : dec bs2 with
  | none => rw [hd] at this; simp at this
  | some p => rfl
theorem ManyFine.step {α : Type} {dec : List UInt8 → Option (α × List UInt8)} {bs bs2 bs3 : List UInt8} {m : Nat} {l : List α} {x : α} (h : ManyFine dec bs (m + 1) l bs2) (hd : dec bs2 = some (x, bs3)) : ManyFine dec bs m (l ++ [x]) bs3 := by
  obtain ⟨h1, h2⟩ := h
  simp only [manyD, hd] at h1 h2
  cases hm : manyD dec m bs3 with
  | none => rw [hm] at h1; simp at h1
  | some p =>
    rw [hm] at h2
    exact ⟨by rw [hm]; rfl, by rw [h2, hm]; simp⟩
theorem fine_ret {α : Type} {dec : List UInt8 → Option (α × List UInt8)} {bs : List UInt8} (h : (dec bs).isSome = true) : (seqD dec (fun x => retD x) bs).isSome = true := by
  unfold seqD
  cases hd : dec bs with
  | none => rw [hd] at h; simp at h
  | some p => rfl
/-- a cell that holds a number -/
def NumCell (w : World) (D : Nat → Prop) (cs : List Value) (n : Int) : Prop := cs = [.int .i64 n] ∧ Fits64 n
theorem NumCell.stable : Stable 1 NumCell where
  keep := fun h _ => h
  imp := fun h _ => h
  len := fun h => by rw [h.1]; rfl
  one := fun h u hu => by rw [h.1] at hu; simp at hu; subst hu; rfl
theorem nums_flat {w : World} {D : Nat → Prop} {l : List Int} {vss : List (List Value)} (h : All2 (NumCell w D) vss l) : vss.flatten = nums l := by
  induction l generalizing vss with
  | nil =>
    have : vss = [] := List.eq_nil_of_length_eq_zero h.1
    subst this
    rfl
  | cons n l ih =>
    cases vss with
    | nil => have := h.1; simp at this
    | cons c r =>
      have h0 := (h.2 0 c n rfl rfl).1
      have hr : All2 (NumCell w D) r l := ⟨by have := h.1; simpa using this, fun i a b h1 h2 => h.2 (i + 1) a b (by simpa using h1) (by simpa using h2)⟩
      subst h0
      simp [nums, ih hr]
end Go.Val
namespace Go.Proofs.Yteojmmjanjilaaa
open Go.RowKit Go.Mem Go.Val

theorem info_In : (Try.prog.info? 83).map (fun i => (i.zero, i.size, i.bytes)) = some (some (.agg #[.int .i64 0, .int .i64 0, .int .i64 0, .string ⟨#[]⟩, .slice none 0 0]), 5, 64) := by kernel_rfl
theorem app_In (w : World) {ops : Array Oper} {rest : List Oper} {o : Oper} {a : Act} {Q : Exit → Act → World → Prop} (hgd : o.guard = none) (s x : Operand)
    (ho : o.op = .call { callee := .builtin .append, args := #[s, x], argTypes := #[42, 42] })
    {base : Nat} {v : Value} {n : Nat} {xs : List Value} (hown : w.ownsRow base 83 5 v n xs) (hs : a.eval s = v)
    {D : Nat → Prop} {A : Option Addr} {m : Nat} {news : List Value} (hr : Reads w D 5 A m news) {c : Nat} (hx : a.eval x = .slice A m c) (h1 : ∀ u ∈ news, u.oneCell' = true)
    (h63 : n + m ≤ 1099511627776) (hbase : base ≤ w.heap.size)
    (h : ∀ v' w', w'.ownsRow base 83 5 v' (n + m) (xs ++ news) → w.grownBy w' v.ownBlock → (v'.ownBlock = v.ownBlock ∨ v'.ownBlock = some w.heap.size) → wpList Try.prog ops Q rest (a.put o.dst v') w') : wpList Try.prog ops Q (o :: rest) a w := by
  obtain ⟨i0, hi0, hz0, hz1, hz2⟩ := info_parts info_In
  exact wpList_append_any w hgd s x _ ho base _ i0 _ 5 _ (by kernel_rfl) hi0 hz0 hz1 hz2 rfl (by omega) v n xs hs hown D A m c news hx hr h1 (by simp only [maxLen]; omega) (by omega) hbase h

set_option maxRecDepth 100000 in
theorem someIn_bad (w : World) (R : Nat) (T : TypeId) (bs : List UInt8) (h : Rd w R T [.int .i64 0] bs true) :
    Calls Try.prog 93 #[.pointer (some ⟨R, 0, none⟩), .func (.func 94) #[.pointer (some ⟨R, 0, none⟩)] #[]] w (SmPost 83 5 (InCells 41) (decI 40) w R T bs true) := by
  go_enter Try.func93, Try.ntmps93
  go_wp2_with (fail)
  refine (rcount_any w R T [.int .i64 0] bs true h).mono ?_
  rintro e w1 ⟨x, bs1, bad1, rfl, hx, hrd, hg, hl, hh⟩
  have hb1 : bad1 = true := bad_on (β := Nat) hh.out rfl
  subst hb1
  have hfin : SmPost 83 5 (InCells 41) (decI 40) w R T bs true (.returned (.slice none 0 0)) w1 := ⟨[], none, 0, bs1, rfl, OwnList.nil _ _ _ _, by simp, hrd, hg, hl, by unfold Hid; rfl⟩
  have Hfin := Lib.hid hfin
  obtain ⟨A3, c3, hb3, _, _, hr3⟩ := id hrd
  have k1 : w1.cell? ⟨R, 1, none⟩ = some (.bool true) := hb3.cell 1
  have l1 := hb3.lt
  clear hb3 hr3 hrd hg hh hfin h
  go_wp2_with (fail)
  refine wp_loop_rounds 1 ?_
  rw [rounds_succ]
  by_cases hm0 : 0 < x
  · go_wp2_with (fail)
    go_ret
    exact Hfin.out
  · obtain rfl : x = 0 := by omega
    go_wp2_with (fail)
    go_ret
    exact Hfin.out

set_option maxRecDepth 100000 in
set_option maxHeartbeats 1000000 in
theorem someIn_good (w : World) (R : Nat) (T : TypeId) (bs : List UInt8) (hlen : bs.length ≤ 4194304) (h : Rd w R T [.int .i64 0] bs false) (hf : (listD (decI 40) bs).isSome = true) :
    Calls Try.prog 93 #[.pointer (some ⟨R, 0, none⟩), .func (.func 94) #[.pointer (some ⟨R, 0, none⟩)] #[]] w (SmPost 83 5 (InCells 41) (decI 40) w R T bs false) := by
  have Hf := Lib.hid hf
  clear hf
  have hR := h.lt
  go_enter Try.func93, Try.ntmps93
  go_wp2_with (fail)
  refine (rcount_any w R T [.int .i64 0] bs false h).mono ?_
  rintro e w1 ⟨x, bs1, bad1, rfl, hx, hrd, hg, hl, hh⟩
  obtain ⟨hb1, hcnt⟩ := list_fine hh.out Hf.out
  subst hb1
  have Hcnt := Lib.hid hcnt
  clear hcnt hh Hf
  go_wp2_with (fail)
  go_loopw [5, 6] (fun v5 v6 wr => ∃ (m : Nat) (l : List In) (bs2 : List UInt8), v6 = .int .i64 m ∧ l.length + m = x ∧ OwnList 83 5 (InCells 41) wr w.heap.size v5 l ∧ Rd wr R T [.int .i64 0] bs2 false ∧ w.grownBy wr (some R) ∧ bs2.length ≤ bs.length ∧ Hid (ManyFine (decI 40) bs m l bs2)) (fun _ v6 _ => (intOf v6).toNat)
  case atStart => exact ⟨x, [], bs1, rfl, by simp, OwnList.nil _ _ _ _, hrd, hg, hl, Hcnt⟩
  case round =>
    obtain ⟨m, l, bs2, rfl, hm, hown, hrd2, hg2, hl2, hcur⟩ := hrel
    obtain ⟨A2, c2, rfl, hc2⟩ := hown.form
    obtain ⟨A3, c3, hb3, _, _, hr3⟩ := id hrd2
    have k1 : wr.cell? ⟨R, 1, none⟩ = some (.bool false) := hb3.cell 1
    have l1 := hb3.lt
    clear hb3 hr3
    by_cases hend : m = 0
    · subst hend
      have hfin : SmPost 83 5 (InCells 41) (decI 40) w R T bs false (.returned (.slice A2 l.length c2)) wr := ⟨l, A2, c2, bs2, rfl, hown, by omega, hrd2, hg2, hl2, by unfold Hid; exact hcur.out.fin⟩
      have Hfin := Lib.hid hfin
      clear hfin hcur hown hrd2
      go_wp2_with (fail)
      go_ret
      exact Hfin.out
    · obtain ⟨m, rfl⟩ : ∃ m', m = m' + 1 := ⟨m - 1, by omega⟩
      have hdec := hcur.out.head
      have Hdec := Lib.hid hdec
      have hown' := Lib.hid hown
      have hrd2' := Lib.hid hrd2
      clear hown hrd2 hdec
      go_wp2_with (fail)
      refine (rinput_any wr R T bs2 (by omega) hrd2'.out Hdec.out).mono ?_
      rintro e w2 ⟨X, cs4, bs3, rfl, hv4, hrd3, hg3, hl3, hh3⟩
      obtain ⟨ik, X⟩ := X
      obtain ⟨vs, rfl, hfit, hvv⟩ := id hv4
      obtain ⟨A4, c4, rfl⟩ := hvv.form
      obtain ⟨vk, vn, vt, va⟩ := X
      simp only [V.kind, V.num, V.text, V.args] at hv4 ⊢
      clear hvv hfit
      have hown2 := hown'.out.keep (InCells.stable 41) (Same.of_grown hg3 fun b hb _ => by simp; omega)
      have hs3 := hg3.size
      have hs2 := hg2.size
      have hol := hown'.out.lt
      obtain ⟨vs1, ho1, ha1⟩ := hown2
      have hol1 := ho1.lt
      have hy : InCells 41 w2 (fun b => w.heap.size ≤ b ∧ (Value.slice A2 l.length c2).ownBlock ≠ some b) [.int .i64 ik, .int .i64 vk, .int .i64 vn, .string vt, .slice A4 va.length c4] ⟨ik, V.mk vk vn vt va⟩ :=
        (InCells.stable 41).imp hv4 fun b hb _ => ⟨by omega, fun e => by have := (hol b e).2; omega⟩
      go_wp2_with (at_builtin; refine app_In _ rfl (.tmp 20) (.tmp 23) rfl (ho1.alloc _) rfl (Reads.new (D := Any) _ [.int .i64 ik, .int .i64 vk, .int .i64 vn, .string vt, .slice A4 va.length c4] 5 1 _ trivial rfl) rfl (by simp [Value.oneCell']) (by omega) (by simp; omega) ?_; intro v5 w3 hown5 hg5 hat5)
      have hpush := OwnList.push (InCells.stable 41) ha1 hy hg5 hat5 hown5
      have hlR := hrd3.lt
      have hk5 : Same (fun b => b ≤ R) w2 w3 := fun b hb hl => (hg5.block b (by simp; omega) (fun e => by have := (hol1 b e.symm).1; omega)).trans (Below.heap_alloc w2 _ b hl)
      exact ⟨⟨m, l ++ [⟨ik, V.mk vk vn vt va⟩], bs3, by go_num, by simp; omega, hpush, hrd3.keep hk5, grownBy_far (grownBy_alloc (grownBy_trans hg2 hg3) _) hg5 (fun i hi => by have := (hol1 i hi).1; omega), by omega, hcur.out.step hh3.out⟩, by simp [intOf]⟩

theorem someIn_any (w : World) (R : Nat) (T : TypeId) (bs : List UInt8) (bad : Bool) (hlen : bs.length ≤ 4194304) (h : Rd w R T [.int .i64 0] bs bad) (hf : bad = false → (listD (decI 40) bs).isSome = true) :
    Calls Try.prog 93 #[.pointer (some ⟨R, 0, none⟩), .func (.func 94) #[.pointer (some ⟨R, 0, none⟩)] #[]] w (SmPost 83 5 (InCells 41) (decI 40) w R T bs bad) := by
  cases bad with
  | true => exact someIn_bad w R T bs h
  | false => exact someIn_good w R T bs hlen h (hf rfl)


theorem info_Nu : (Try.prog.info? 3).map (fun i => (i.zero, i.size, i.bytes)) = some (some (.int .i64 0), 1, 8) := by kernel_rfl
theorem app_Nu (w : World) {ops : Array Oper} {rest : List Oper} {o : Oper} {a : Act} {Q : Exit → Act → World → Prop} (hgd : o.guard = none) (s x : Operand)
    (ho : o.op = .call { callee := .builtin .append, args := #[s, x], argTypes := #[46, 46] })
    {base : Nat} {v : Value} {n : Nat} {xs : List Value} (hown : w.ownsRow base 3 1 v n xs) (hs : a.eval s = v)
    {D : Nat → Prop} {A : Option Addr} {m : Nat} {news : List Value} (hr : Reads w D 1 A m news) {c : Nat} (hx : a.eval x = .slice A m c) (h1 : ∀ u ∈ news, u.oneCell' = true)
    (h63 : n + m ≤ 1099511627776) (hbase : base ≤ w.heap.size)
    (h : ∀ v' w', w'.ownsRow base 3 1 v' (n + m) (xs ++ news) → w.grownBy w' v.ownBlock → (v'.ownBlock = v.ownBlock ∨ v'.ownBlock = some w.heap.size) → wpList Try.prog ops Q rest (a.put o.dst v') w') : wpList Try.prog ops Q (o :: rest) a w := by
  obtain ⟨i0, hi0, hz0, hz1, hz2⟩ := info_parts info_Nu
  exact wpList_append_any w hgd s x _ ho base _ i0 _ 1 _ (by kernel_rfl) hi0 hz0 hz1 hz2 rfl (by omega) v n xs hs hown D A m c news hx hr h1 (by simp only [maxLen]; omega) (by omega) hbase h

set_option maxRecDepth 100000 in
theorem someNu_bad (w : World) (R : Nat) (T : TypeId) (bs : List UInt8) (h : Rd w R T [.int .i64 0] bs true) :
    Calls Try.prog 87 #[.pointer (some ⟨R, 0, none⟩), .func (.func 82) #[.pointer (some ⟨R, 0, none⟩)] #[]] w (SmPost 3 1 (NumCell) (lenI) w R T bs true) := by
  go_enter Try.func87, Try.ntmps87
  go_wp2_with (fail)
  refine (rcount_any w R T [.int .i64 0] bs true h).mono ?_
  rintro e w1 ⟨x, bs1, bad1, rfl, hx, hrd, hg, hl, hh⟩
  have hb1 : bad1 = true := bad_on (β := Nat) hh.out rfl
  subst hb1
  have hfin : SmPost 3 1 (NumCell) (lenI) w R T bs true (.returned (.slice none 0 0)) w1 := ⟨[], none, 0, bs1, rfl, OwnList.nil _ _ _ _, by simp, hrd, hg, hl, by unfold Hid; rfl⟩
  have Hfin := Lib.hid hfin
  obtain ⟨A3, c3, hb3, _, _, hr3⟩ := id hrd
  have k1 : w1.cell? ⟨R, 1, none⟩ = some (.bool true) := hb3.cell 1
  have l1 := hb3.lt
  clear hb3 hr3 hrd hg hh hfin h
  go_wp2_with (fail)
  refine wp_loop_rounds 1 ?_
  rw [rounds_succ]
  by_cases hm0 : 0 < x
  · go_wp2_with (fail)
    go_ret
    exact Hfin.out
  · obtain rfl : x = 0 := by omega
    go_wp2_with (fail)
    go_ret
    exact Hfin.out

set_option maxRecDepth 100000 in
set_option maxHeartbeats 1000000 in
theorem someNu_good (w : World) (R : Nat) (T : TypeId) (bs : List UInt8) (hlen : bs.length ≤ 4194304) (h : Rd w R T [.int .i64 0] bs false) (hf : (listD (lenI) bs).isSome = true) :
    Calls Try.prog 87 #[.pointer (some ⟨R, 0, none⟩), .func (.func 82) #[.pointer (some ⟨R, 0, none⟩)] #[]] w (SmPost 3 1 (NumCell) (lenI) w R T bs false) := by
  have Hf := Lib.hid hf
  clear hf
  have hR := h.lt
  go_enter Try.func87, Try.ntmps87
  go_wp2_with (fail)
  refine (rcount_any w R T [.int .i64 0] bs false h).mono ?_
  rintro e w1 ⟨x, bs1, bad1, rfl, hx, hrd, hg, hl, hh⟩
  obtain ⟨hb1, hcnt⟩ := list_fine hh.out Hf.out
  subst hb1
  have Hcnt := Lib.hid hcnt
  clear hcnt hh Hf
  go_wp2_with (fail)
  go_loopw [5, 6] (fun v5 v6 wr => ∃ (m : Nat) (l : List Int) (bs2 : List UInt8), v6 = .int .i64 m ∧ l.length + m = x ∧ OwnList 3 1 (NumCell) wr w.heap.size v5 l ∧ Rd wr R T [.int .i64 0] bs2 false ∧ w.grownBy wr (some R) ∧ bs2.length ≤ bs.length ∧ Hid (ManyFine (lenI) bs m l bs2)) (fun _ v6 _ => (intOf v6).toNat)
  case atStart => exact ⟨x, [], bs1, rfl, by simp, OwnList.nil _ _ _ _, hrd, hg, hl, Hcnt⟩
  case round =>
    obtain ⟨m, l, bs2, rfl, hm, hown, hrd2, hg2, hl2, hcur⟩ := hrel
    obtain ⟨A2, c2, rfl, hc2⟩ := hown.form
    obtain ⟨A3, c3, hb3, _, _, hr3⟩ := id hrd2
    have k1 : wr.cell? ⟨R, 1, none⟩ = some (.bool false) := hb3.cell 1
    have l1 := hb3.lt
    clear hb3 hr3
    by_cases hend : m = 0
    · subst hend
      have hfin : SmPost 3 1 (NumCell) (lenI) w R T bs false (.returned (.slice A2 l.length c2)) wr := ⟨l, A2, c2, bs2, rfl, hown, by omega, hrd2, hg2, hl2, by unfold Hid; exact hcur.out.fin⟩
      have Hfin := Lib.hid hfin
      clear hfin hcur hown hrd2
      go_wp2_with (fail)
      go_ret
      exact Hfin.out
    · obtain ⟨m, rfl⟩ : ∃ m', m = m' + 1 := ⟨m - 1, by omega⟩
      have hdec := hcur.out.head
      have Hdec := Lib.hid hdec
      have hown' := Lib.hid hown
      have hrd2' := Lib.hid hrd2
      clear hown hrd2 hdec
      go_wp2_with (fail)
      refine (rnat_any wr R T [.int .i64 0] bs2 false hrd2'.out).mono ?_
      rintro e w2 ⟨v2, X, bs3, bad3, rfl, ⟨rfl, hX⟩, hrd3, hg3, hl3, hh3'⟩
      have hh3 := lenI_on hh3'.out
      obtain ⟨hb3, _⟩ := fine_step (k := fun x => retD x) hh3 (fun _ => fine_ret Hdec.out)
      subst hb3
      have hh3 := Lib.hid (good_on hh3)
      simp only [Bool.false_eq_true, if_false] at hh3
      clear hh3'
      have hv4 : NumCell w2 (fun b => wr.heap.size ≤ b) [.int .i64 (X : Int)] (X : Int) := ⟨rfl, by omega, by omega⟩
      have hown2 := hown'.out.keep NumCell.stable (Same.of_grown hg3 fun b hb _ => by simp; omega)
      have hs3 := hg3.size
      have hs2 := hg2.size
      have hol := hown'.out.lt
      obtain ⟨vs1, ho1, ha1⟩ := hown2
      have hol1 := ho1.lt
      have hy : NumCell w2 (fun b => w.heap.size ≤ b ∧ (Value.slice A2 l.length c2).ownBlock ≠ some b) [.int .i64 (X : Int)] (X : Int) :=
        NumCell.stable.imp hv4 fun b hb _ => ⟨by omega, fun e => by have := (hol b e).2; omega⟩
      go_wp2_with (at_builtin; refine app_Nu _ rfl (.tmp 20) (.tmp 23) rfl (ho1.alloc _) rfl (Reads.new (D := Any) _ [.int .i64 (X : Int)] 1 1 _ trivial rfl) rfl (by simp [Value.oneCell']) (by omega) (by simp; omega) ?_; intro v5 w3 hown5 hg5 hat5)
      have hpush := OwnList.push NumCell.stable ha1 hy hg5 hat5 hown5
      have hlR := hrd3.lt
      have hk5 : Same (fun b => b ≤ R) w2 w3 := fun b hb hl => (hg5.block b (by simp; omega) (fun e => by have := (hol1 b e.symm).1; omega)).trans (Below.heap_alloc w2 _ b hl)
      exact ⟨⟨m, l ++ [(X : Int)], bs3, by go_num, by simp; omega, hpush, hrd3.keep hk5, grownBy_far (grownBy_alloc (grownBy_trans hg2 hg3) _) hg5 (fun i hi => by have := (hol1 i hi).1; omega), by omega, hcur.out.step hh3.out⟩, by simp [intOf]⟩

theorem someNu_any (w : World) (R : Nat) (T : TypeId) (bs : List UInt8) (bad : Bool) (hlen : bs.length ≤ 4194304) (h : Rd w R T [.int .i64 0] bs bad) (hf : bad = false → (listD (lenI) bs).isSome = true) :
    Calls Try.prog 87 #[.pointer (some ⟨R, 0, none⟩), .func (.func 82) #[.pointer (some ⟨R, 0, none⟩)] #[]] w (SmPost 3 1 (NumCell) (lenI) w R T bs bad) := by
  cases bad with
  | true => exact someNu_bad w R T bs h
  | false => exact someNu_good w R T bs hlen h (hf rfl)

end Go.Proofs.Yteojmmjanjilaaa
