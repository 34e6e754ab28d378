/- Contracts of the reading of values: wire.Some at values, (*reader).value. -/
import Derived.Test.YtgcpclbkjplipaaRd
import Derived.Test.YtgcpclbkjplipaaValNext
set_option linter.unusedVariables false
namespace Go.Val
theorem bind_listD {α : Type} (dec : List UInt8 → Option (α × List UInt8)) (bad : Bool) (bs : List UInt8) {bad1 : Bool} {x : Nat} {bs1 : List UInt8} (h : (okS bad bs).bind countD = okS bad1 (x, bs1)) : (okS bad bs).bind (listD dec) = (okS bad1 bs1).bind fun b => (manyD dec x b).map fun p => ([] ++ p.1, p.2) := by
  cases bad with
  | true =>
    cases bad1 with
    | true => simp [okS]
    | false => simp [okS] at h
  | false =>
    simp only [okS, Bool.false_eq_true, if_false, Option.bind_some] at h ⊢
    unfold listD
    rw [h]
    cases bad1 with
    | true => simp
    | false => simp
theorem manyD_end {α : Type} (dec : List UInt8 → Option (α × List UInt8)) (bad1 : Bool) (bs1 : List UInt8) (l : List α) (m : Nat) (h : m = 0 ∨ bad1 = true) : ((okS bad1 bs1).bind fun b => (manyD dec m b).map fun p => (l ++ p.1, p.2)) = okS bad1 (l, bs1) := by
  cases bad1 with
  | true => simp [okS]
  | false =>
    obtain rfl : m = 0 := by simpa using h
    simp [okS, manyD]
theorem manyD_step {α : Type} (dec : List UInt8 → Option (α × List UInt8)) {bad2 : Bool} (bs1 : List UInt8) {bs2 : List UInt8} {x : α} (l : List α) (m : Nat) (h : (okS false bs1).bind dec = okS bad2 (x, bs2)) : ((okS false bs1).bind fun b => (manyD dec (m + 1) b).map fun p => (l ++ p.1, p.2)) = (okS bad2 bs2).bind fun b => (manyD dec m b).map fun p => (l ++ [x] ++ p.1, p.2) := by
  simp only [okS, Bool.false_eq_true, if_false, Option.bind_some] at h ⊢
  rw [manyD, h]
  cases bad2 with
  | true => simp
  | false =>
    simp only [Bool.false_eq_true, if_false, Option.bind_some]
    cases manyD dec m bs2 with
    | none => rfl
    | some p => obtain ⟨p1, p2⟩ := p; simp
end Go.Val
namespace Go.Proofs.Ytgcpclbkjplipaa
open Go.RowKit Go.Mem Go.Val

/-- append of values onto a row of the call's own -/
theorem app_val (w : World) {ops : Array Oper} {rest : List Oper} {o : Oper} {a : Act} {Q : Exit → Act → World → Prop} (hgd : o.guard = none) (s x : Operand)
    (ho : o.op = .call { callee := .builtin .append, args := #[s, x], argTypes := #[33, 33] })
    {base : Nat} {v : Value} {n : Nat} {xs : List Value} (hown : w.ownsRow base 35 4 v n xs) (hs : a.eval s = v)
    {D : Nat → Prop} {A : Option Addr} {m : Nat} {news : List Value} (hr : Reads w D 4 A m news) {c : Nat} (hx : a.eval x = .slice A m c) (h1 : ∀ u ∈ news, u.oneCell' = true)
    (h63 : n + m ≤ 1099511627776) (hbase : base ≤ w.heap.size)
    (h : ∀ v' w', w'.ownsRow base 35 4 v' (n + m) (xs ++ news) → w.grownBy w' v.ownBlock → (v'.ownBlock = v.ownBlock ∨ v'.ownBlock = some w.heap.size) → wpList Try.prog ops Q rest (a.put o.dst v') w') : wpList Try.prog ops Q (o :: rest) a w := by
  obtain ⟨i0, hi0, hz0, hz1, hz2⟩ := info_parts info_val
  exact wpList_append_any w hgd s x _ ho base _ i0 _ 4 56 Try.underlying33 hi0 hz0 hz1 hz2 rfl (by omega) v n xs hs hown D A m c news hx hr h1 (by simp only [maxLen]; omega) (by omega) hbase h

def RvPost (d : Nat) (w : World) (R : Nat) (T : TypeId) (dep : Int) (bs : List UInt8) (bad : Bool) (e : Ending) (w' : World) : Prop :=
  ∃ (x : V) (A : Option Addr) (c : Nat) (bs' : List UInt8) (bad' : Bool) (dep' : Int), e = .returned (vagg x A c) ∧ VCells (d + 1) w' (fun b => w.heap.size ≤ b) (vcells x A c) x ∧ Rd w' R T [.int .i64 dep'] bs' bad' ∧ w.grownBy w' (some R) ∧ bs'.length ≤ bs.length ∧
    Hid ((okS bad bs).bind (decV d) = okS bad' (x, bs')) ∧ dep ≤ dep' ∧ dep' ≤ dep + 1 ∧ (bad' = false → dep' = dep)
/-- the reading of a value at a depth, in a good state -/
def RV (d : Nat) : Prop := ∀ (w : World) (R : Nat) (T : TypeId) (dep : Int) (bs : List UInt8), dep + d = 40 → 0 ≤ dep → bs.length ≤ 4194304 → Rd w R T [.int .i64 dep] bs false →
  Calls Try.prog 62 #[.pointer (some ⟨R, 0, none⟩)] w (RvPost d w R T dep bs false)

def SomePost (d : Nat) (w : World) (R : Nat) (T : TypeId) (dep : Int) (bs : List UInt8) (bad : Bool) (e : Ending) (w' : World) : Prop :=
  ∃ (l : List V) (A : Option Addr) (c : Nat) (bs' : List UInt8) (bad' : Bool) (dep' : Int), e = .returned (.slice A l.length c) ∧ OwnList 35 4 (VCells (d + 1)) w' w.heap.size (.slice A l.length c) l ∧ l.length ≤ 4194304 ∧ Rd w' R T [.int .i64 dep'] bs' bad' ∧ w.grownBy w' (some R) ∧ bs'.length ≤ bs.length ∧
    Hid ((okS bad bs).bind (listD (decV d)) = okS bad' (l, bs')) ∧ dep ≤ dep' ∧ dep' ≤ dep + 1 ∧ (bad' = false → dep' = dep)

set_option maxRecDepth 100000 in
set_option maxHeartbeats 1000000 in
theorem some_any (d : Nat) (hrv : RV d) (w : World) (R : Nat) (T : TypeId) (dep : Int) (bs : List UInt8) (bad : Bool) (hd : dep + d = 40) (h0 : 0 ≤ dep) (hlen : bs.length ≤ 4194304) (h : Rd w R T [.int .i64 dep] bs bad) :
    Calls Try.prog 103 #[.pointer (some ⟨R, 0, none⟩), .func (.func 62) #[.pointer (some ⟨R, 0, none⟩)] #[]] w (SomePost d w R T dep bs bad) := by
  have Hrv := Lib.hid hrv
  have Hd := Lib.hid hd
  clear hrv hd
  have hR := h.lt
  go_enter Try.func103, Try.ntmps103
  go_wp2_with (fail)
  refine (rcount_any w R T [.int .i64 dep] bs bad h).mono ?_
  rintro e w1 ⟨x, bs1, bad1, rfl, hx, hrd, hg, hl, hh⟩
  go_wp2_with (fail)
  go_loopw [5, 6] (fun v5 v6 wr => ∃ (m : Nat) (l : List V) (bs2 : List UInt8) (bad2 : Bool) (dep2 : Int), v6 = .int .i64 m ∧ l.length + m = x ∧ OwnList 35 4 (VCells (d + 1)) wr w.heap.size v5 l ∧ Rd wr R T [.int .i64 dep2] bs2 bad2 ∧ w.grownBy wr (some R) ∧ bs2.length ≤ bs.length ∧ Hid ((okS bad bs).bind (listD (decV d)) = (okS bad2 bs2).bind fun b => (manyD (decV d) m b).map fun p => (l ++ p.1, p.2)) ∧ dep ≤ dep2 ∧ dep2 ≤ dep + 1 ∧ (bad2 = false → dep2 = dep)) (fun _ v6 _ => (intOf v6).toNat)
  case atStart => exact ⟨x, [], bs1, bad1, dep, rfl, by simp, OwnList.nil _ _ _ _, hrd, hg, hl, bind_listD (decV d) bad bs hh.out, by omega, by omega, fun _ => rfl⟩
  case round =>
    obtain ⟨m, l, bs2, bad2, dep2, rfl, hm, hown, hrd2, hg2, hl2, hcur, hd1, hd2, hd3⟩ := hrel
    obtain ⟨A2, c2, rfl, hc2⟩ := hown.form
    obtain ⟨A3, c3, hb3, _, _, hr3⟩ := id hrd2
    have k1 : wr.cell? ⟨R, 1, none⟩ = some (.bool bad2) := hb3.cell 1
    have l1 := hb3.lt
    clear hb3 hr3
    by_cases hend : m = 0 ∨ bad2 = true
    · have hfin : SomePost d w R T dep bs bad (.returned (.slice A2 l.length c2)) wr := ⟨l, A2, c2, bs2, bad2, dep2, rfl, hown, by omega, hrd2, hg2, hl2, by unfold Hid; rw [hcur.out]; exact manyD_end _ _ _ _ _ hend, hd1, hd2, hd3⟩
      have Hfin := Lib.hid hfin
      clear hfin hcur hown hrd2
      rcases hend with rfl | rfl
      · go_wp2_with (fail)
        go_ret
        exact Hfin.out
      · by_cases hm0 : 0 < m
        · go_wp2_with (fail)
          go_ret
          exact Hfin.out
        · obtain rfl : m = 0 := by omega
          go_wp2_with (fail)
          go_ret
          exact Hfin.out
    · obtain ⟨m, rfl⟩ : ∃ m', m = m' + 1 := ⟨m - 1, by omega⟩
      obtain rfl : bad2 = false := by simp at hend; exact hend
      have e2 := hd3 rfl
      subst e2
      have C := Lib.hid (Hrv.out wr R T dep2 bs2 Hd.out h0 (by omega) hrd2)
      have hown' := Lib.hid hown
      have hrd2' := Lib.hid hrd2
      clear hown hrd2
      go_wp2_with (fail)
      refine C.out.mono ?_
      rintro e w2 ⟨X, A4, c4, bs3, bad3, dep3, rfl, hv4, hrd3, hg3, hl3, hh3, hd4, hd5, hd6⟩
      obtain ⟨vk, vn, vt, va⟩ := X
      simp only [vagg, vcells, V.kind, V.num, V.text, V.args] at hv4 ⊢
      have hown2 := hown'.out.keep (VCells.stable _) (Same.of_grown hg3 fun b hb _ => by simp; omega)
      have hs3 := hg3.size
      have hs2 := hg2.size
      have hol := hown'.out.lt
      obtain ⟨vs1, ho1, ha1⟩ := hown2
      have hol1 := ho1.lt
      have hy : VCells (d + 1) w2 (fun b => w.heap.size ≤ b ∧ (Value.slice A2 l.length c2).ownBlock ≠ some b) [.int .i64 vk, .int .i64 vn, .string vt, .slice A4 va.length c4] (V.mk vk vn vt va) :=
        hv4.imp fun b hb _ => ⟨by omega, fun e => by have := (hol b e).2; omega⟩
      go_wp2_with (at_builtin; refine app_val _ rfl (.tmp 20) (.tmp 23) rfl (ho1.alloc _) rfl (Reads.new (D := Any) _ [.int .i64 vk, .int .i64 vn, .string vt, .slice A4 va.length c4] 4 1 _ trivial rfl) rfl (by simp [Value.oneCell']) (by omega) (by simp; omega) ?_; intro v5 w3 hown5 hg5 hat5)
      have hpush := OwnList.push (VCells.stable (d + 1)) ha1 hy hg5 hat5 hown5
      have hlR := hrd3.lt
      have hk5 : Same (fun b => b ≤ R) w2 w3 := fun b hb hl => (hg5.block b (by simp; omega) (fun e => by have := (hol1 b e.symm).1; omega)).trans (Below.heap_alloc w2 _ b hl)
      refine ⟨⟨m, l ++ [V.mk vk vn vt va], bs3, bad3, dep3, by go_num, by simp; omega, hpush, hrd3.keep hk5, grownBy_far (grownBy_alloc (grownBy_trans hg2 hg3) _) hg5 (fun i hi => by have := (hol1 i hi).1; omega), by omega, ?_, by omega, by omega, hd6⟩, by simp [intOf]⟩
      unfold Hid
      rw [hcur.out]
      exact manyD_step (decV d) bs2 l m hh3.out
end Go.Proofs.Ytgcpclbkjplipaa
