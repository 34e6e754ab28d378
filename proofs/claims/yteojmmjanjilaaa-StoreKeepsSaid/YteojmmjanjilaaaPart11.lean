/- Contracts of the writing of lists of ints and of saved actors. · Contracts of the reading of values: wire.Some at values, (*reader).value. -/
import Derived.Test.YteojmmjanjilaaaPart10
import Derived.Test.YteojmmjanjilaaaRd
import Derived.Test.YteojmmjanjilaaaValNext
set_option linter.unusedVariables false
namespace Go.Mem
open Go.RowKit
def nums (l : List Int) : List Value := l.map (.int .i64)
theorem nums_length (l : List Int) : (nums l).length = l.length := by simp [nums]
theorem nums_at (l : List Int) (k : Nat) (h : k < l.length) : (nums l)[k]? = some (.int .i64 l[k]) := by simp [nums, h]
end Go.Mem
namespace Go.Proofs.Yteojmmjanjilaaa
open Go.RowKit Go.Mem Go.Val

set_option maxRecDepth 100000 in
set_option maxHeartbeats 1000000 in
theorem listN_any (bv : Value) (A : Option Addr) (n c : Nat) (l : List Int) (xs : List Value) (base : Nat) (w : World) (hown : w.ownsRow base 5 1 bv xs.length xs) (hb : base ≤ w.heap.size) (hn2 : n ≤ 4194304)
    (hr : Reads w (fun b => bv.ownBlock ≠ some b) 1 A n (nums l)) (hok : ∀ x ∈ l, okN x) (hx : xs.length + (listE natI l).length ≤ 1099511627776) :
    Calls Try.prog 66 #[bv, .slice A n c, .func (.func 64) #[] #[]] w (GrewPost w base bv xs (listE natI l)) := by
  have hn : n = l.length := by have := hr.len; rwa [nums_length] at this
  have Hx := Lib.hid hx
  have Hn := Lib.hid hn
  have Hok := Lib.hid hok
  clear hx hn hok
  go_enter Try.func66, Try.ntmps66
  go_wp2_with (fail)
  refine (nat_any bv n xs base w (by omega) hown hb (by have := Hx.out; omega)).mono ?_
  rintro e w1 ⟨A1, c1, rfl, hg1⟩
  go_wp2_with (fail)
  go_loopw [0, 15] (fun v1 i wr => ∃ k : Nat, k ≤ n ∧ i = .int .i64 k ∧ Grew w base bv xs wr v1 (natE n ++ (l.take k).flatMap natI)) (fun _ i _ => n - (intOf i).toNat)
  case atStart => exact ⟨0, Nat.zero_le _, rfl, by simpa using hg1⟩
  case round =>
    obtain ⟨k, hk, rfl, hg⟩ := hrel
    by_cases hlt : k < n
    · have hkl : k < l.length := by have := Hn.out; omega
      obtain ⟨b, off, u, rfl, hD, hu, hc⟩ := hr.at_ hlt
      rw [nums_at l k hkl] at hu
      injection hu with hu
      subst hu
      have hsame : Same (fun b => bv.ownBlock ≠ some b) w wr := Same.of_grown hg.2.1 fun b hb _ e => hb e.symm
      have Hft := Lib.hid (flat_take natI l k hkl)
      have Hfl := Lib.hid (flat_take_le natI l (k + 1))
      have hokk := Hok.out _ (List.getElem_mem hkl)
      have g0 := hsame.cell hD hc
      generalize hxx : l[k] = X at g0 hokk
      have HX := Lib.hid hxx
      clear hxx hc
      obtain ⟨m, rfl⟩ := Int.eq_ofNat_of_zero_le hokk.1
      have hm : m ≤ 9223372036854775807 := by have := hokk.2; omega
      have hlen : (xs ++ u8s (natE n ++ (l.take k).flatMap natI)).length ≤ 1099511627776 := by
        have h1 := Hfl.out
        have h2 := Hx.out
        rw [Hft.out] at h1
        simp only [listE, List.length_append, u8s_length] at h1 h2 ⊢
        have := Hn.out
        subst this
        omega
      have Hlen := Lib.hid hlen
      clear hlen hokk
      go_wp2_with (fail)
      refine (nat_any u0 m _ base _ hm hg.own (by have := hg.2.1.size; omega) Hlen.out).mono ?_
      rintro e w2 ⟨A2, c2, rfl, hg2⟩
      generalize Value.slice A2 ((xs ++ u8s (natE n ++ (l.take k).flatMap natI)).length + (natE m).length) c2 = v2 at hg2 ⊢
      go_wp2_with (fail)
      refine ⟨⟨k + 1, by omega, by go_num, ?_⟩, by simp [intOf]; omega⟩
      rw [Hft.out, HX.out, ← List.append_assoc]
      exact hg.trans hg2
    · go_wp2
      go_ret
      obtain rfl : k = n := by omega
      have e : (natE k ++ (l.take k).flatMap natI) = listE natI l := by
        have := Hn.out
        subst this
        rw [List.take_length, listE]
      rw [e] at hg
      obtain ⟨A2, c2, rfl⟩ := hg.form
      exact ⟨A2, c2, rfl, hg⟩

/-- the three cells of a saved actor -/
def SvCells (d : Nat) (w : World) (D : Nat → Prop) (cs : List Value) (s : Sv) : Prop :=
  ∃ A1 c1 vs1 A2 c2 vs2, cs = [.string s.actor, .slice A1 s.state.length c1, .slice A2 s.inputs.length c2] ∧ s.actor.size ≤ 4611686018427387904 ∧ (s.state.length ≤ 4194304 ∧ s.state.length ≤ c1 ∧ c1 ≤ maxLen) ∧ (s.inputs.length ≤ 4194304 ∧ s.inputs.length ≤ c2 ∧ c2 ≤ maxLen) ∧
    Reads w D 4 A1 s.state.length vs1.flatten ∧ All2 (VCells d w D) vs1 s.state ∧ Reads w D 5 A2 s.inputs.length vs2.flatten ∧ All2 (InCells d w D) vs2 s.inputs
theorem SvCells.stable (d : Nat) : Stable 3 (SvCells d) where
  keep := fun ⟨A1, c1, vs1, A2, c2, vs2, e, h0, h1, h2, r1, a1, r2, a2⟩ hs => ⟨A1, c1, vs1, A2, c2, vs2, e, h0, h1, h2, r1.keep hs, a1.imp fun _ _ h => h.keep hs, r2.keep hs, a2.imp fun _ _ h => (InCells.stable d).keep h hs⟩
  imp := fun ⟨A1, c1, vs1, A2, c2, vs2, e, h0, h1, h2, r1, a1, r2, a2⟩ hs => ⟨A1, c1, vs1, A2, c2, vs2, e, h0, h1, h2, r1.imp (by omega) hs, a1.imp fun _ _ h => h.imp hs, r2.imp (by omega) hs, a2.imp fun _ _ h => (InCells.stable d).imp h hs⟩
  len := fun ⟨A1, c1, vs1, A2, c2, vs2, e, _⟩ => by rw [e]; rfl
  one := fun ⟨A1, c1, vs1, A2, c2, vs2, e, _⟩ u hu => by rw [e] at hu; simp at hu; rcases hu with rfl | rfl | rfl <;> rfl

set_option maxRecDepth 100000 in
set_option maxHeartbeats 2000000 in
theorem as_any (d : Nat) (bv : Value) (s : Sv) (cs xs : List Value) (base : Nat) (w : World) (hown : w.ownsRow base 5 1 bv xs.length xs) (hb : base ≤ w.heap.size) (hv : SvCells d w (fun b => bv.ownBlock ≠ some b) cs s) (hok : ∀ x ∈ s.inputs, 0 ≤ x.kind ∧ x.kind ≤ 255) (hx : xs.length + (encS d s).length ≤ 1099511627776) :
    Calls Try.prog 63 #[bv, .agg cs.toArray] w (GrewPost w base bv xs (encS d s)) := by
  obtain ⟨A1, c1, vs1, A2, c2, vs2, rfl, h0, h1, h2, r1, a1, r2, a2⟩ := hv
  obtain ⟨sa, ss, si⟩ := s
  simp only at h0 h1 h2 r1 a1 r2 a2 hx hok ⊢
  have hlx : (encS d ⟨sa, ss, si⟩).length = (textE sa).length + (listE (encV d) ss).length + (listE (encI d) si).length := by
    simp only [encS, List.length_append]
    omega
  rw [hlx] at hx
  have hls : sa.size ≤ 1099511627776 := by
    have hl : sa.data.toList.length = sa.size := by rw [Array.length_toList]; rfl
    simp only [textE, List.length_append] at hx
    omega
  have Hx := Lib.hid hx
  have Hok := Lib.hid hok
  clear hx hlx hok
  have hnb : bv.ownBlock ≠ some w.heap.size := fun e => by have := (hown.lt _ e).2; omega
  have hbx := Blk.new w 44 [.string sa, .slice A1 ss.length c1, .slice A2 si.length c2]
  have hG0 : Grew w base bv xs (w.alloc (.cells #[.string sa, .slice A1 ss.length c1, .slice A2 si.length c2] 44)).drew bv [] := ((Grew.refl hown).alloc _).drew
  have hx1 : (xs ++ u8s ([] ++ textE sa)).length + (listE (encV d) ss).length ≤ 1099511627776 := by
    have := Hx.out
    simp only [List.nil_append, List.length_append, u8s_length]
    omega
  have hx2 : (xs ++ u8s ([] ++ textE sa ++ listE (encV d) ss)).length + (listE (encI d) si).length ≤ 1099511627776 := by
    have := Hx.out
    simp only [List.nil_append, List.length_append, u8s_length]
    omega
  have hx0 : (xs ++ u8s []).length ≤ 1099511627776 := by
    have := Hx.out
    simp [u8s]
    omega
  have Hx0 := Lib.hid hx0
  have Hx1 := Lib.hid hx1
  have Hx2 := Lib.hid hx2
  have HG0 := Lib.hid hG0
  clear hx0 hx1 hx2 hG0
  go_enter Try.func63, Try.ntmps63
  go_wp2_with (fail)
  go_region_law (first
    | (rw [if_pos (by simp [Region.wanted])]; unfold Oper.wp; go_simp; go_at_call 77; refine (wtext_any bv sa (xs ++ u8s []) base _ hls HG0.out.own (by simp; omega) Hx0.out).mono ?_; rintro e w3 ⟨A3, c3, rfl, hg3⟩; generalize Value.slice A3 ((xs ++ u8s []).length + (textE sa).length) c3 = v3 at hg3 ⊢; dsimp only; have hG1 := HG0.out.trans hg3; have hB1 : Blk w3 w.heap.size 44 [.string sa, .slice A1 ss.length c1, .slice A2 si.length c2] := (by exact hbx.drew : Blk (w.alloc (.cells #[.string sa, .slice A1 ss.length c1, .slice A2 si.length c2] 44)).drew w.heap.size 44 [.string sa, .slice A1 ss.length c1, .slice A2 si.length c2]).grown hg3.2.1 (fun e => hnb e.symm); have hne1 : v3.ownBlock ≠ some w.heap.size := fun e => hg3.2.2.elim (fun h => hnb (h.symm.trans e)) (fun h => by have h1 := h _ e; simp at h1; omega); have m1 := hB1.cell 1; have m2 := hB1.cell 2; simp only [List.getElem?_cons_succ, List.getElem?_cons_zero] at m1 m2)
    | (rw [if_pos (by simp [Region.wanted])]; unfold Oper.wp; go_simp; go_at_call 76; refine (list_any d (av_any d) v3 A1 ss.length c1 ss vs1 _ base _ hG1.own (by have := hG1.2.1.size; omega) rfl h1.1 (hG1.apartR (by omega) r1) (a1.imp fun _ _ h => hG1.apart h) Hx1.out).mono ?_; rintro e w4 ⟨A4, c4, rfl, hg4⟩; generalize Value.slice A4 ((xs ++ u8s ([] ++ textE sa)).length + (listE (encV d) ss).length) c4 = v4 at hg4 ⊢; dsimp only; have hG2 := hG1.trans hg4; have hB2 := hg4.blk hB1 hne1; have m2 := hB2.cell 2; simp only [List.getElem?_cons_succ, List.getElem?_cons_zero] at m2)
    | (rw [if_pos (by simp [Region.wanted])]; unfold Oper.wp; go_simp; go_at_call 75; refine (listI_any d v4 A2 si.length c2 si vs2 _ base _ hG2.own (by have := hG2.2.1.size; omega) rfl h2.1 (hG2.apartR (by omega) r2) (a2.imp fun _ _ h => hG2.apartS (InCells.stable d) h) Hok.out Hx2.out).mono ?_; rintro e w5 ⟨A5, c5, rfl, hg5⟩; generalize Value.slice A5 ((xs ++ u8s ([] ++ textE sa ++ listE (encV d) ss)).length + (listE (encI d) si).length) c5 = v5 at hg5 ⊢; dsimp only))
  all_goals go_wp2_with (fail)
  all_goals go_ret
  all_goals have hG5 := hG2.trans hg5
  all_goals rw [show [] ++ textE sa ++ listE (encV d) ss ++ listE (encI d) si = encS d ⟨sa, ss, si⟩ by simp [encS]] at hG5
  all_goals obtain ⟨A6, c6, rfl⟩ := hG5.form
  all_goals exact ⟨A6, c6, rfl, hG5⟩
end Go.Proofs.Yteojmmjanjilaaa
set_option linter.unusedVariables false
namespace Go.Val
theorem bind_listD {α : Type} (dec : List UInt8 → Option (α × List UInt8)) (bad : Bool) (bs : List UInt8) {bad1 : Bool} {x : Nat} {bs1 : List UInt8} (h : (okS bad bs).bind countD = okS bad1 (x, bs1)) : (okS bad bs).bind (listD dec) = (okS bad1 bs1).bind fun b => (manyD dec x b).map fun p => ([] ++ p.1, p.2) := by
  cases bad with
  | true =>
    cases bad1 with
    | true => simp [okS]
    | false => simp [okS] at h
  | false =>
    simp only [okS, Bool.false_eq_true, if_false, Option.bind_some] at h ⊢
    unfold listD
    rw [h]
    cases bad1 with
    | true => simp
    | false => simp
theorem manyD_end {α : Type} (dec : List UInt8 → Option (α × List UInt8)) (bad1 : Bool) (bs1 : List UInt8) (l : List α) (m : Nat) (h : m = 0 ∨ bad1 = true) : ((okS bad1 bs1).bind fun b => (manyD dec m b).map fun p => (l ++ p.1, p.2)) = okS bad1 (l, bs1) := by
  cases bad1 with
  | true => simp [okS]
  | false =>
    obtain rfl : m = 0 := by simpa using h
    simp [okS, manyD]
theorem manyD_step {α : Type} (dec : List UInt8 → Option (α × List UInt8)) {bad2 : Bool} (bs1 : List UInt8) {bs2 : List UInt8} {x : α} (l : List α) (m : Nat) (h : (okS false bs1).bind dec = okS bad2 (x, bs2)) : ((okS false bs1).bind fun b => (manyD dec (m + 1) b).map fun p => (l ++ p.1, p.2)) = (okS bad2 bs2).bind fun b => (manyD dec m b).map fun p => (l ++ [x] ++ p.1, p.2) := by
  simp only [okS, Bool.false_eq_true, if_false, Option.bind_some] at h ⊢
  rw [manyD, h]
  cases bad2 with
  | true => simp
  | false =>
    simp only [Bool.false_eq_true, if_false, Option.bind_some]
    cases manyD dec m bs2 with
    | none => rfl
    | some p => obtain ⟨p1, p2⟩ := p; simp
end Go.Val
namespace Go.Proofs.Yteojmmjanjilaaa
open Go.RowKit Go.Mem Go.Val

/-- append of values onto a row of the call's own -/
theorem app_val (w : World) {ops : Array Oper} {rest : List Oper} {o : Oper} {a : Act} {Q : Exit → Act → World → Prop} (hgd : o.guard = none) (s x : Operand)
    (ho : o.op = .call { callee := .builtin .append, args := #[s, x], argTypes := #[41, 41] })
    {base : Nat} {v : Value} {n : Nat} {xs : List Value} (hown : w.ownsRow base 53 4 v n xs) (hs : a.eval s = v)
    {D : Nat → Prop} {A : Option Addr} {m : Nat} {news : List Value} (hr : Reads w D 4 A m news) {c : Nat} (hx : a.eval x = .slice A m c) (h1 : ∀ u ∈ news, u.oneCell' = true)
    (h63 : n + m ≤ 1099511627776) (hbase : base ≤ w.heap.size)
    (h : ∀ v' w', w'.ownsRow base 53 4 v' (n + m) (xs ++ news) → w.grownBy w' v.ownBlock → (v'.ownBlock = v.ownBlock ∨ v'.ownBlock = some w.heap.size) → wpList Try.prog ops Q rest (a.put o.dst v') w') : wpList Try.prog ops Q (o :: rest) a w := by
  obtain ⟨i0, hi0, hz0, hz1, hz2⟩ := info_parts info_val
  exact wpList_append_any w hgd s x _ ho base _ i0 _ 4 56 Try.underlying41 hi0 hz0 hz1 hz2 rfl (by omega) v n xs hs hown D A m c news hx hr h1 (by simp only [maxLen]; omega) (by omega) hbase h

def RvPost (d : Nat) (w : World) (R : Nat) (T : TypeId) (dep : Int) (bs : List UInt8) (bad : Bool) (e : Ending) (w' : World) : Prop :=
  ∃ (x : V) (A : Option Addr) (c : Nat) (bs' : List UInt8) (bad' : Bool) (dep' : Int), e = .returned (vagg x A c) ∧ VCells (d + 1) w' (fun b => w.heap.size ≤ b) (vcells x A c) x ∧ Rd w' R T [.int .i64 dep'] bs' bad' ∧ w.grownBy w' (some R) ∧ bs'.length ≤ bs.length ∧
    Hid ((okS bad bs).bind (decV d) = okS bad' (x, bs')) ∧ dep ≤ dep' ∧ dep' ≤ dep + 1 ∧ (bad' = false → dep' = dep)
/-- the reading of a value at a depth, in a good state -/
def RV (d : Nat) : Prop := ∀ (w : World) (R : Nat) (T : TypeId) (dep : Int) (bs : List UInt8), dep + d = 40 → 0 ≤ dep → bs.length ≤ 4194304 → Rd w R T [.int .i64 dep] bs false →
  Calls Try.prog 92 #[.pointer (some ⟨R, 0, none⟩)] w (RvPost d w R T dep bs false)

def SomePost (d : Nat) (w : World) (R : Nat) (T : TypeId) (dep : Int) (bs : List UInt8) (bad : Bool) (e : Ending) (w' : World) : Prop :=
  ∃ (l : List V) (A : Option Addr) (c : Nat) (bs' : List UInt8) (bad' : Bool) (dep' : Int), e = .returned (.slice A l.length c) ∧ OwnList 53 4 (VCells (d + 1)) w' w.heap.size (.slice A l.length c) l ∧ l.length ≤ 4194304 ∧ Rd w' R T [.int .i64 dep'] bs' bad' ∧ w.grownBy w' (some R) ∧ bs'.length ≤ bs.length ∧
    Hid ((okS bad bs).bind (listD (decV d)) = okS bad' (l, bs')) ∧ dep ≤ dep' ∧ dep' ≤ dep + 1 ∧ (bad' = false → dep' = dep)

set_option maxRecDepth 100000 in
set_option maxHeartbeats 1000000 in
theorem some_any (d : Nat) (hrv : RV d) (w : World) (R : Nat) (T : TypeId) (dep : Int) (bs : List UInt8) (bad : Bool) (hd : dep + d = 40) (h0 : 0 ≤ dep) (hlen : bs.length ≤ 4194304) (h : Rd w R T [.int .i64 dep] bs bad) :
    Calls Try.prog 91 #[.pointer (some ⟨R, 0, none⟩), .func (.func 92) #[.pointer (some ⟨R, 0, none⟩)] #[]] w (SomePost d w R T dep bs bad) := by
  have Hrv := Lib.hid hrv
  have Hd := Lib.hid hd
  clear hrv hd
  have hR := h.lt
  go_enter Try.func91, Try.ntmps91
  go_wp2_with (fail)
  refine (rcount_any w R T [.int .i64 dep] bs bad h).mono ?_
  rintro e w1 ⟨x, bs1, bad1, rfl, hx, hrd, hg, hl, hh⟩
  go_wp2_with (fail)
  go_loopw [5, 6] (fun v5 v6 wr => ∃ (m : Nat) (l : List V) (bs2 : List UInt8) (bad2 : Bool) (dep2 : Int), v6 = .int .i64 m ∧ l.length + m = x ∧ OwnList 53 4 (VCells (d + 1)) wr w.heap.size v5 l ∧ Rd wr R T [.int .i64 dep2] bs2 bad2 ∧ w.grownBy wr (some R) ∧ bs2.length ≤ bs.length ∧ Hid ((okS bad bs).bind (listD (decV d)) = (okS bad2 bs2).bind fun b => (manyD (decV d) m b).map fun p => (l ++ p.1, p.2)) ∧ dep ≤ dep2 ∧ dep2 ≤ dep + 1 ∧ (bad2 = false → dep2 = dep)) (fun _ v6 _ => (intOf v6).toNat)
  case atStart => exact ⟨x, [], bs1, bad1, dep, rfl, by simp, OwnList.nil _ _ _ _, hrd, hg, hl, bind_listD (decV d) bad bs hh.out, by omega, by omega, fun _ => rfl⟩
  case round =>
    obtain ⟨m, l, bs2, bad2, dep2, rfl, hm, hown, hrd2, hg2, hl2, hcur, hd1, hd2, hd3⟩ := hrel
    obtain ⟨A2, c2, rfl, hc2⟩ := hown.form
    obtain ⟨A3, c3, hb3, _, _, hr3⟩ := id hrd2
    have k1 : wr.cell? ⟨R, 1, none⟩ = some (.bool bad2) := hb3.cell 1
    have l1 := hb3.lt
    clear hb3 hr3
    by_cases hend : m = 0 ∨ bad2 = true
    · have hfin : SomePost d w R T dep bs bad (.returned (.slice A2 l.length c2)) wr := ⟨l, A2, c2, bs2, bad2, dep2, rfl, hown, by omega, hrd2, hg2, hl2, by unfold Hid; rw [hcur.out]; exact manyD_end _ _ _ _ _ hend, hd1, hd2, hd3⟩
      have Hfin := Lib.hid hfin
      clear hfin hcur hown hrd2
      rcases hend with rfl | rfl
      · go_wp2_with (fail)
        go_ret
        exact Hfin.out
      · by_cases hm0 : 0 < m
        · go_wp2_with (fail)
          go_ret
          exact Hfin.out
        · obtain rfl : m = 0 := by omega
          go_wp2_with (fail)
          go_ret
          exact Hfin.out
    · obtain ⟨m, rfl⟩ : ∃ m', m = m' + 1 := ⟨m - 1, by omega⟩
      obtain rfl : bad2 = false := by simp at hend; exact hend
      have e2 := hd3 rfl
      subst e2
      have C := Lib.hid (Hrv.out wr R T dep2 bs2 Hd.out h0 (by omega) hrd2)
      have hown' := Lib.hid hown
      have hrd2' := Lib.hid hrd2
      clear hown hrd2
      go_wp2_with (fail)
      refine C.out.mono ?_
      rintro e w2 ⟨X, A4, c4, bs3, bad3, dep3, rfl, hv4, hrd3, hg3, hl3, hh3, hd4, hd5, hd6⟩
      obtain ⟨vk, vn, vt, va⟩ := X
      simp only [vagg, vcells, V.kind, V.num, V.text, V.args] at hv4 ⊢
      have hown2 := hown'.out.keep (VCells.stable _) (Same.of_grown hg3 fun b hb _ => by simp; omega)
      have hs3 := hg3.size
      have hs2 := hg2.size
      have hol := hown'.out.lt
      obtain ⟨vs1, ho1, ha1⟩ := hown2
      have hol1 := ho1.lt
      have hy : VCells (d + 1) w2 (fun b => w.heap.size ≤ b ∧ (Value.slice A2 l.length c2).ownBlock ≠ some b) [.int .i64 vk, .int .i64 vn, .string vt, .slice A4 va.length c4] (V.mk vk vn vt va) :=
        hv4.imp fun b hb _ => ⟨by omega, fun e => by have := (hol b e).2; omega⟩
      go_wp2_with (at_builtin; refine app_val _ rfl (.tmp 20) (.tmp 23) rfl (ho1.alloc _) rfl (Reads.new (D := Any) _ [.int .i64 vk, .int .i64 vn, .string vt, .slice A4 va.length c4] 4 1 _ trivial rfl) rfl (by simp [Value.oneCell']) (by omega) (by simp; omega) ?_; intro v5 w3 hown5 hg5 hat5)
      have hpush := OwnList.push (VCells.stable (d + 1)) ha1 hy hg5 hat5 hown5
      have hlR := hrd3.lt
      have hk5 : Same (fun b => b ≤ R) w2 w3 := fun b hb hl => (hg5.block b (by simp; omega) (fun e => by have := (hol1 b e.symm).1; omega)).trans (Below.heap_alloc w2 _ b hl)
      refine ⟨⟨m, l ++ [V.mk vk vn vt va], bs3, bad3, dep3, by go_num, by simp; omega, hpush, hrd3.keep hk5, grownBy_far (grownBy_alloc (grownBy_trans hg2 hg3) _) hg5 (fun i hi => by have := (hol1 i hi).1; omega), by omega, ?_, by omega, by omega, hd6⟩, by simp [intOf]⟩
      unfold Hid
      rw [hcur.out]
      exact manyD_step (decV d) bs2 l m hh3.out
end Go.Proofs.Yteojmmjanjilaaa
