/- Contracts of the readers of package wire: they follow a plain decoder, in a good state and in a bad one. -/
import Derived.Test.YteojmmjanjilaaaPart5
import Derived.Test.YteojmmjanjilaaaPart3
set_option linter.unusedVariables false
namespace Go.Mem
open Go.RowKit
theorem slice_l {P : Program} {D : Nat → Prop} {size n c : Nat} {A : Option Addr} {xs : List Value} {w : World} (t e : TypeId) (ht : P.underlying t = some (.slice e)) (hi : (P.info? e).map (·.size) = some size) (hr : Reads w D size A n xs) (hnc : n ≤ c) (i : Nat) (him : i ≤ n) (l : Int) (hl : l = i) :
    ∃ A', (∀ W : World, (Instr.slice t (.slice A n c) (some (.int .i64 l)) none none).run P W = .ok (.slice A' (n - i) (c - i)) W) ∧ Reads w D size A' (n - i) (xs.drop (i * size)) := by
  obtain ⟨A', h1, h2⟩ := slice_lh t e ht hi hr hnc i (n - i) (by omega) l ((i + (n - i) : Nat) : Int) hl rfl
  refine ⟨A', fun W => ?_, ?_⟩
  · have e1 := h1 W
    have he : P.elem t = e := by simp [Program.elem, ht]
    rw [run_slice_lh W t A n c (by rw [he]; exact ht) .i64 .i64 _ _ (by omega) (by omega) (by omega)] at e1
    rw [run_slice_l W t A n c (by rw [he]; exact ht) .i64 _ (by omega) (by omega)]
    have e2 : (((i + (n - i) : Nat) : Int)).toNat = n := by omega
    rw [e2] at e1
    exact e1
  · have : ((xs.drop (i * size)).take ((n - i) * size)) = xs.drop (i * size) := by
      apply List.take_of_length_le
      rw [List.length_drop, hr.1, Nat.sub_mul]
      omega
    rwa [this] at h2
theorem slice_h {P : Program} {D : Nat → Prop} {size n c : Nat} {A : Option Addr} {xs : List Value} {w : World} (t e : TypeId) (ht : P.underlying t = some (.slice e)) (hi : (P.info? e).map (·.size) = some size) (hr : Reads w D size A n xs) (hnc : n ≤ c) (m : Nat) (him : m ≤ n) (h : Int) (hh : h = m) :
    (∀ W : World, (Instr.slice t (.slice A n c) none (some (.int .i64 h)) none).run P W = .ok (.slice A m c) W) ∧ Reads w D size A m (xs.take (m * size)) := by
  subst hh
  obtain ⟨inf, hinf, hsz⟩ := Option.map_eq_some_iff.1 hi
  have he : P.elem t = e := by simp [Program.elem, ht]
  refine ⟨fun W => ?_, hr.first him⟩
  rw [run_slice_h W t A n c (by rw [he]; exact ht) .i64 _ (by omega) (by omega)]
  have e0 : A.map (·.add (0 * inf.size)) = A := by
    cases A with
    | none => rfl
    | some a => simp [Addr.add]
  simp only [Nat.zero_mul] at e0
  simp [he, sizeOf, typeInfo, hinf, sliced, e0]
end Go.Mem
namespace Go.Val
open Go.RowKit Go.Mem
/-- a state, if it is a good one -/
def okS {α : Type} (bad : Bool) (x : α) : Option α := if bad then none else some x
/-- a reader in memory: what it has left, and whether it is bad; the bytes lie below it -/
def Rd (w : World) (R : Nat) (T : TypeId) (tl : List Value) (bs : List UInt8) (bad : Bool) : Prop :=
  ∃ A c, Blk w R T (.slice A bs.length c :: .bool bad :: tl) ∧ bs.length ≤ c ∧ c ≤ maxLen ∧ Reads w (fun b => b < R) 1 A bs.length (u8s bs)
/-- what was read follows the decoder -/
def RdPost {α : Type} (dec : List UInt8 → Option (α × List UInt8)) (w : World) (R : Nat) (T : TypeId) (tl : List Value) (bs : List UInt8) (bad : Bool) (p : World → Value → α → Prop) (e : Ending) (w' : World) : Prop :=
  ∃ v x bs' bad', e = .returned v ∧ p w' v x ∧ Rd w' R T tl bs' bad' ∧ w.grownBy w' (some R) ∧ bs'.length ≤ bs.length ∧ Hid ((okS bad bs).bind dec = okS bad' (x, bs'))
theorem Rd.keep {w w' : World} {R : Nat} {T : TypeId} {tl : List Value} {bs : List UInt8} {bad : Bool} (h : Rd w R T tl bs bad) (hk : Same (fun b => b ≤ R) w w') : Rd w' R T tl bs bad := by
  obtain ⟨A, c, h1, h2, h3, h4⟩ := h
  exact ⟨A, c, h1.same hk (Nat.le_refl _), h2, h3, h4.keep fun b hb hl => hk b (Nat.le_of_lt hb) hl⟩
theorem Rd.lt {w : World} {R : Nat} {T : TypeId} {tl : List Value} {bs : List UInt8} {bad : Bool} (h : Rd w R T tl bs bad) : R < w.heap.size := by
  obtain ⟨A, c, h1, _⟩ := h
  exact h1.lt
theorem Rd.badden {w : World} {R : Nat} {T : TypeId} {tl : List Value} {bs : List UInt8} {bad : Bool} (h : Rd w R T tl bs bad) : Rd (w.setCell ⟨R, 1, none⟩ (.bool true)) R T tl bs true := by
  obtain ⟨A, c, h1, h2, h3, h4⟩ := h
  exact ⟨A, c, h1.put 1 _, h2, h3, h4.keep fun b hb hl => Below.heap_setCell w _ _ b (by simp; omega)⟩
def byteD : List UInt8 → Option (Int × List UInt8)
  | [] => none
  | b :: r => some (b.toNat, r)
end Go.Val
namespace Go.Proofs.Yteojmmjanjilaaa
open Go.RowKit Go.Mem Go.Val

theorem size_u8 : (Try.prog.info? 5).map (·.size) = some 1 := by kernel_rfl

set_option maxRecDepth 100000 in
theorem byte_any (w : World) (R : Nat) (T : TypeId) (tl : List Value) (bs : List UInt8) (bad : Bool) (h : Rd w R T tl bs bad) :
    Calls Try.prog 96 #[.pointer (some ⟨R, 0, none⟩)] w (RdPost byteD w R T tl bs bad fun _ v x => v = .int .i64 x ∧ 0 ≤ x ∧ x ≤ 255) := by
  obtain ⟨A, c, hb, hc, hcm, hr⟩ := h
  have c0 : w.cell? ⟨R, 0, none⟩ = some (.slice A bs.length c) := hb.cell 0
  have c1 : w.cell? ⟨R, 1, none⟩ = some (.bool bad) := hb.cell 1
  have f0 := hb.frozen 0
  have f1 := hb.frozen 1
  have l0 := hb.lt
  cases bs with
  | nil =>
    have hfin : RdPost byteD w R T tl [] bad (fun _ v x => v = .int .i64 x ∧ 0 ≤ x ∧ x ≤ 255) (.returned (.int .i64 0)) (w.setCell ⟨R, 1, none⟩ (.bool true)) :=
      ⟨_, 0, [], true, rfl, ⟨rfl, by omega, by omega⟩, ⟨A, c, hb.put 1 _, hc, hcm, Reads.empty⟩, grownBy_setCell (World.grownBy.refl w _) (.inl rfl) _, Nat.le_refl _, by unfold Hid okS; cases bad <;> rfl⟩
    have Hfin := Lib.hid hfin
    clear hfin hb hr
    simp only [List.length_nil] at c0
    go_enter Try.func96, Try.ntmps96
    go_wp2
    go_ret
    exact Hfin.out
  | cons b t =>
    obtain ⟨A', hs, hr'⟩ := slice_l 62 5 Try.underlying62 size_u8 hr hc 1 (by simp) 1 rfl
    obtain ⟨x, o, rfl, hD, hcell⟩ := hr.2 (by simp)
    have cb := hcell 0 _ (by simp [u8s]; rfl)
    simp only [Nat.add_zero] at cb
    have lx := lt_of_cell cb
    have hbt := UInt8.toNat_lt b
    have hfin : RdPost byteD w R T tl (b :: t) bad (fun _ v x => v = .int .i64 x ∧ 0 ≤ x ∧ x ≤ 255) (.returned (.int .i64 b.toNat)) (w.setCell ⟨R, 0, none⟩ (.slice A' ((b :: t).length - 1) (c - 1))) := by
      refine ⟨_, b.toNat, t, bad, rfl, ⟨rfl, by omega, by omega⟩, ⟨A', c - 1, hb.put 0 _, by simp at hc; omega, by omega, ?_⟩, grownBy_setCell (World.grownBy.refl w _) (.inl rfl) _, by simp, by unfold Hid okS; cases bad <;> rfl⟩
      have : Reads w (fun b => b < R) 1 A' t.length (u8s t) := by simpa [u8s] using hr'
      exact this.keep fun b hb hl => Below.heap_setCell w _ _ b (by simp; omega)
    have Hfin := Lib.hid hfin
    clear hfin hb hr hr' hcell
    simp only [List.length_cons] at c0 hs Hfin
    go_enter Try.func96, Try.ntmps96
    go_wp2_with (fail)
    go_ret
    simpa using Hfin.out

theorem byte_cases {bad1 bad2 : Bool} {bs1 bs2 : List UInt8} {x : Int} (h : (okS bad1 bs1).bind byteD = okS bad2 (x, bs2)) :
    (bad2 = true ∧ ∀ {β : Type} (k : Nat) (f : Nat × List UInt8 → β), (okS bad1 bs1).bind (fun b => (natD k b).map f) = none) ∨ (bad2 = false ∧ bad1 = false ∧ ∃ b, bs1 = b :: bs2 ∧ x = b.toNat) := by
  cases bad1 with
  | true =>
    cases bad2 with
    | true => exact .inl ⟨rfl, fun _ _ => rfl⟩
    | false => simp [okS] at h
  | false =>
    cases bs1 with
    | nil =>
      cases bad2 with
      | true => exact .inl ⟨rfl, fun _ _ => by simp [okS, natD]⟩
      | false => simp [okS, byteD] at h
    | cons b t =>
      cases bad2 with
      | true => simp [okS, byteD] at h
      | false =>
        simp [okS, byteD] at h
        exact .inr ⟨rfl, rfl, b, by rw [h.2], h.1.symm⟩

theorem and127 (b : Nat) (h : b < 256) : bits .and .u64 (b : Int) 127 = ((b % 128 : Nat) : Int) := by
  have e2 : (BitVec.ofInt 64 127).toNat = 127 := by decide
  show IntKind.u64.wrap ((BitVec.ofInt 64 (b : Int) &&& BitVec.ofInt 64 127).toNat : Int) = _
  rw [BitVec.toNat_and, e2, BitVec.ofInt_natCast, BitVec.toNat_ofNat, Nat.mod_eq_of_lt (by omega : b < 2 ^ 64), show (127 : Nat) = 2 ^ 7 - 1 by rfl, Nat.and_two_pow_sub_one_eq_mod, IntKind.wrap_u64]
  omega
theorem or_shift (u x s : Nat) (hu : u < 2 ^ s) (hx : x * 2 ^ s < 18446744073709551616) (hs : s < 64) : bits .or .u64 (u : Int) (IntKind.u64.wrap ((x : Int) * 2 ^ s)) = ((u + 2 ^ s * x : Nat) : Int) := by
  have hcast : ((x : Int) * 2 ^ s) = ((x * 2 ^ s : Nat) : Int) := by push_cast; rfl
  have hu64 : u < 2 ^ 64 := Nat.lt_of_lt_of_le hu (Nat.pow_le_pow_right (by omega) (by omega))
  have hwr : IntKind.u64.wrap ((x * 2 ^ s : Nat) : Int) = ((x * 2 ^ s : Nat) : Int) := by rw [IntKind.wrap_u64]; omega
  rw [hcast, hwr]
  show IntKind.u64.wrap ((BitVec.ofInt 64 (u : Int) ||| BitVec.ofInt 64 ((x * 2 ^ s : Nat) : Int)).toNat : Int) = _
  rw [BitVec.toNat_or, BitVec.ofInt_natCast, BitVec.ofInt_natCast, BitVec.toNat_ofNat, BitVec.toNat_ofNat, Nat.mod_eq_of_lt hu64, Nat.mod_eq_of_lt (by omega : x * 2 ^ s < 2 ^ 64), Nat.or_comm, Nat.mul_comm x, ← Nat.two_pow_add_eq_or_of_lt hu, IntKind.wrap_u64]
  have : 2 ^ s * x + u < 18446744073709551616 := by
    have h1 : 2 ^ s * (x + 1) ≤ 18446744073709551616 := by
      have hd : (2 : Nat) ^ 64 = 2 ^ s * 2 ^ (64 - s) := by rw [← Nat.pow_add]; congr 1; omega
      have : x < 2 ^ (64 - s) := by
        rw [Nat.mul_comm] at hx
        have : 2 ^ s * x < 2 ^ s * 2 ^ (64 - s) := by rw [← hd]; exact hx
        exact Nat.lt_of_mul_lt_mul_left this
      calc 2 ^ s * (x + 1) ≤ 2 ^ s * 2 ^ (64 - s) := Nat.mul_le_mul_left _ this
        _ = 18446744073709551616 := by rw [← hd]
    rw [Nat.mul_add] at h1
    omega
  omega

set_option maxRecDepth 100000 in
set_option maxHeartbeats 1000000 in
theorem runsigned_any (w : World) (R : Nat) (T : TypeId) (tl : List Value) (bs : List UInt8) (bad : Bool) (h : Rd w R T tl bs bad) :
    Calls Try.prog 89 #[.pointer (some ⟨R, 0, none⟩)] w (RdPost (natD 0) w R T tl bs bad fun _ v x => v = .int .u64 x ∧ x < 18446744073709551616) := by
  go_enter Try.func89, Try.ntmps89
  go_wp2_with (fail)
  go_loopw [3, 4] (fun v2 v3 wr => ∃ (j u1 : Nat) (bs1 : List UInt8) (bad1 : Bool), j ≤ 9 ∧ v3 = .int .i64 ((7 * j : Nat) : Int) ∧ v2 = .int .u64 u1 ∧ Hid (u1 < 2 ^ (7 * j)) ∧ Rd wr R T tl bs1 bad1 ∧ w.grownBy wr (some R) ∧ bs1.length ≤ bs.length ∧ Hid ((okS bad bs).bind (natD 0) = (okS bad1 bs1).bind fun b => (natD j b).map fun p => (u1 + 2 ^ (7 * j) * p.1, p.2))) (fun _ v3 _ => 70 - (intOf v3).toNat)
  case atStart => exact ⟨0, 0, bs, bad, by omega, rfl, rfl, by unfold Hid; simp, h, World.grownBy.refl w _, Nat.le_refl _, by unfold Hid; congr 1; funext b; simp⟩
  case round =>
    obtain ⟨j, u1, bs1, bad1, hj, rfl, rfl, hu1, hrd, hgr, hlen, hcur⟩ := hrel
    have h64 : decide (((7 * j : Nat) : Int) < 64) = true := by simp; omega
    go_wp2_with (fail)
    refine (byte_any wr R T tl bs1 bad1 hrd).mono ?_
    rintro e w1 ⟨v, x, bs2, bad2, rfl, ⟨rfl, hx0, hx1⟩, hrd2, hg2, hl2, hh⟩
    have hw1 := grownBy_trans hgr hg2
    have hbd := hrd2.badden
    obtain ⟨A2, c2, hb2, _, _, hr2⟩ := id hrd2
    have k1 : w1.cell? ⟨R, 1, none⟩ = some (.bool bad2) := hb2.cell 1
    have f1 := hb2.frozen 1
    have l1 := hb2.lt
    obtain ⟨rfl, hnone⟩ | ⟨rfl, rfl, b, rfl, rfl⟩ := byte_cases hh.out
    · have hfin : RdPost (natD 0) w R T tl bs bad (fun _ v x => v = .int .u64 x ∧ x < 18446744073709551616) (.returned (.int .u64 0)) (w1.setCell ⟨R, 1, none⟩ (.bool true)) :=
        ⟨_, 0, bs2, true, rfl, ⟨rfl, by omega⟩, hbd, grownBy_setCell hw1 (.inl rfl) _, by omega, by unfold Hid; rw [hcur.out, hnone]; rfl⟩
      have Hfin := Lib.hid hfin
      clear hfin hbd hrd2 hb2 hr2 hnone hh hcur
      go_wp2_with (fail)
      go_ret
      exact Hfin.out
    · have hbt := UInt8.toNat_lt b
      have hstep : Hid ((okS bad bs).bind (natD 0) = if (j = 9 ∧ 1 < b.toNat) ∨ (0 < j ∧ b.toNat = 0) then none else if b.toNat < 128 then some (u1 + 2 ^ (7 * j) * b.toNat, bs2) else (natD (j + 1) bs2).map fun p => (u1 + 2 ^ (7 * j) * (b.toNat - 128) + 2 ^ (7 * (j + 1)) * p.1, p.2)) := by
        unfold Hid
        rw [hcur.out]
        simp only [okS, Bool.false_eq_true, if_false, Option.bind_some]
        rw [natD]
        split
        · rfl
        · split
          · rfl
          · cases natD (j + 1) bs2 with
            | none => rfl
            | some p =>
              obtain ⟨p1, p2⟩ := p
              simp only [Option.map_some, Option.some.injEq, Prod.mk.injEq, and_true]
              rw [show 7 * (j + 1) = 7 * j + 7 by omega, Nat.pow_add, Nat.mul_add, Nat.mul_assoc, show (2:Nat)^7 = 128 from rfl]
              omega
      clear hcur hh
      by_cases hC : (j = 9 ∧ 1 < b.toNat) ∨ (0 < j ∧ b.toNat = 0)
      · have hfin : RdPost (natD 0) w R T tl bs bad (fun _ v x => v = .int .u64 x ∧ x < 18446744073709551616) (.returned (.int .u64 0)) (w1.setCell ⟨R, 1, none⟩ (.bool true)) :=
          ⟨_, 0, bs2, true, rfl, ⟨rfl, by omega⟩, hbd, grownBy_setCell hw1 (.inl rfl) _, by omega, by unfold Hid; rw [hstep.out, if_pos hC]; rfl⟩
        have Hfin := Lib.hid hfin
        clear hfin hbd hrd2 hb2 hr2 hstep
        by_cases hj9 : j = 9
        · subst hj9
          have hq : (decide ((1 : Int) < (b.toNat : Int)) || ((b.toNat : Int) == 0)) = true := by simp; omega
          go_wp2_with (fail)
          all_goals (go_ret; exact Hfin.out)
        · have hq1 : ((7 * (j : Int)) == 63) = false := by simp; omega
          have hq2 : decide ((0 : Int) < 7 * (j : Int)) = true := by simp; omega
          have hq3 : ((b.toNat : Int) == 0) = true := by simp; omega
          go_wp2_with (fail)
          go_ret
          exact Hfin.out
      · have hpw : ∀ x, x < 128 → (j = 9 → x ≤ 1) → x * 2 ^ (7 * j) < 18446744073709551616 := by
          intro x hx h9
          by_cases hj9 : j = 9
          · subst hj9
            have := h9 rfl
            simp
            omega
          · have h1 : 2 ^ (7 * j) ≤ 2 ^ 56 := Nat.pow_le_pow_right (by omega) (by omega)
            calc x * 2 ^ (7 * j) ≤ 128 * 2 ^ 56 := Nat.mul_le_mul (by omega) h1
              _ < _ := by decide
        by_cases hlt : b.toNat < 128
        · have hor := or_shift u1 b.toNat (7 * j) hu1.out (hpw _ hlt (fun h9 => by omega)) (by omega)
          have hbd9 : u1 + 2 ^ (7 * j) * b.toNat < 18446744073709551616 := by
            have h0 : (0 : Int) ≤ bits .or .u64 (u1 : Int) (IntKind.u64.wrap ((b.toNat : Int) * 2 ^ (7 * j))) ∧ bits .or .u64 (u1 : Int) (IntKind.u64.wrap ((b.toNat : Int) * 2 ^ (7 * j))) < 18446744073709551616 := by
              show (0 : Int) ≤ IntKind.u64.wrap _ ∧ IntKind.u64.wrap _ < _
              rw [IntKind.wrap_u64]
              omega
            rw [hor] at h0
            omega
          have hfin : RdPost (natD 0) w R T tl bs bad (fun _ v x => v = .int .u64 x ∧ x < 18446744073709551616) (.returned (.int .u64 ((u1 + 2 ^ (7 * j) * b.toNat : Nat) : Int))) w1 :=
            ⟨_, _, bs2, false, rfl, ⟨rfl, hbd9⟩, hrd2, hw1, by omega, by unfold Hid; rw [hstep.out, if_neg hC, if_pos hlt]; rfl⟩
          have Hfin := Lib.hid hfin
          have Hor := Lib.hid hor
          clear hfin hbd hrd2 hb2 hr2 hstep hor hpw hbd9
          have hq3 : decide ((b.toNat : Int) < 128) = true := by simp; omega
          by_cases hj9 : j = 9
          · subst hj9
            have hq : (decide ((1 : Int) < (b.toNat : Int)) || ((b.toNat : Int) == 0)) = false := by simp; omega
            have hqa : decide ((1 : Int) < (b.toNat : Int)) = false := by simp; omega
            have hqb : ((b.toNat : Int) == 0) = false := by simp; omega
            have hwr : IntKind.u64.wrap ((b.toNat : Int) * 9223372036854775808) = (b.toNat : Int) * 9223372036854775808 := by rw [IntKind.wrap_u64]; omega
            go_wp2_with (fail)
            go_ret
            have h1 := Hor.out
            have h2 := Hfin.out
            rw [← h1] at h2
            rw [show ((2 : Int) ^ (7 * 9)) = 9223372036854775808 from by decide, hwr] at h2
            exact h2
          · have hq1 : ((7 * (j : Int)) == 63) = false := by simp; omega
            by_cases hj0 : j = 0
            · subst hj0
              go_wp2_with (fail)
              go_ret
              have h1 := Hor.out
              have h2 := Hfin.out
              rw [← h1] at h2
              have hwr : IntKind.u64.wrap (b.toNat : Int) = (b.toNat : Int) := by rw [IntKind.wrap_u64]; omega
              simpa [hwr] using h2
            · have hq2 : decide ((0 : Int) < 7 * (j : Int)) = true := by simp; omega
              have hqb : ((b.toNat : Int) == 0) = false := by simp; omega
              go_wp2_with (fail)
              go_ret
              have h2 := Hfin.out
              rw [← Hor.out] at h2
              exact h2
        · have hj9 : j ≠ 9 := by omega
          have hor := or_shift u1 (b.toNat - 128) (7 * j) hu1.out (hpw _ (by omega) (fun h9 => by omega)) (by omega)
          have hand := and127 b.toNat hbt
          have hq1 : ((7 * (j : Int)) == 63) = false := by simp; omega
          have hq2 : (((b.toNat : Int)) == 0) = false := by simp; omega
          have hq3 : decide ((b.toNat : Int) < 128) = false := by simp; omega
          have hnew : Hid (u1 + 2 ^ (7 * j) * (b.toNat - 128) < 2 ^ (7 * (j + 1))) := by
            unfold Hid
            have h1 := hu1.out
            rw [show 7 * (j + 1) = 7 * j + 7 by omega, Nat.pow_add, show (2:Nat)^7 = 128 from rfl]
            have h2 : 2 ^ (7 * j) * (b.toNat - 128 + 1) ≤ 2 ^ (7 * j) * 128 := Nat.mul_le_mul_left _ (by omega)
            rw [Nat.mul_add] at h2
            omega
          have hst : Hid ((okS bad bs).bind (natD 0) = (okS false bs2).bind fun b' => (natD (j + 1) b').map fun p => (u1 + 2 ^ (7 * j) * (b.toNat - 128) + 2 ^ (7 * (j + 1)) * p.1, p.2)) := by
            unfold Hid
            rw [hstep.out, if_neg hC, if_neg hlt]
            rfl
          have hval : Hid (bits .or .u64 (u1 : Int) (IntKind.u64.wrap (bits .and .u64 (b.toNat : Int) 127 * 2 ^ (7 * j))) = ((u1 + 2 ^ (7 * j) * (b.toNat - 128) : Nat) : Int)) := by
            unfold Hid
            rw [hand, ← hor]
            congr 3
            omega
          clear hor hand hstep hpw
          by_cases hj0 : j = 0
          · subst hj0
            go_wp2_with (fail)
            refine ⟨⟨1, _, bs2, false, by omega, rfl, ?_, hnew, hrd2, hw1, by omega, hst⟩, by simp [intOf]⟩
            rw [← hval.out]
            simp
          · have hq4 : decide ((0 : Int) < 7 * (j : Int)) = true := by simp; omega
            go_wp2_with (fail)
            refine ⟨⟨j + 1, _, bs2, false, by omega, by push_cast; rfl, by rw [hval.out], hnew, hrd2, hw1, by omega, hst⟩, by simp [intOf]; omega⟩

theorem bind_lenD (bad : Bool) (bs : List UInt8) {bad1 : Bool} {x : Nat} {bs1 : List UInt8} (h : (okS bad bs).bind (natD 0) = okS bad1 (x, bs1)) : (okS bad bs).bind lenD = if x ≤ 9223372036854775807 then okS bad1 (x, bs1) else none := by
  cases bad with
  | true =>
    cases bad1 with
    | true => simp [okS]
    | false => simp [okS] at h
  | false =>
    simp only [okS, Bool.false_eq_true, if_false, Option.bind_some] at h ⊢
    unfold lenD
    rw [h]
    cases bad1 with
    | true => simp
    | false => simp
theorem bind_countD (bad : Bool) (bs : List UInt8) {bad1 : Bool} {x : Nat} {bs1 : List UInt8} (h : (okS bad bs).bind lenD = okS bad1 (x, bs1)) : (okS bad bs).bind countD = if x ≤ bs1.length then okS bad1 (x, bs1) else none := by
  cases bad with
  | true =>
    cases bad1 with
    | true => simp [okS]
    | false => simp [okS] at h
  | false =>
    simp only [okS, Bool.false_eq_true, if_false, Option.bind_some] at h ⊢
    unfold countD
    rw [h]
    cases bad1 with
    | true => simp
    | false => simp
theorem bind_intD (bad : Bool) (bs : List UInt8) {bad1 : Bool} {x : Nat} {bs1 : List UInt8} (h : (okS bad bs).bind (natD 0) = okS bad1 (x, bs1)) : (okS bad bs).bind intD = okS bad1 (unzz x, bs1) := by
  cases bad with
  | true =>
    cases bad1 with
    | true => simp [okS]
    | false => simp [okS] at h
  | false =>
    simp only [okS, Bool.false_eq_true, if_false, Option.bind_some] at h ⊢
    unfold intD
    rw [h]
    cases bad1 with
    | true => simp
    | false => simp
theorem bind_textD (bad : Bool) (bs : List UInt8) {bad1 : Bool} {x : Nat} {bs1 : List UInt8} (h : (okS bad bs).bind countD = okS bad1 (x, bs1)) : (okS bad bs).bind textD = okS bad1 (⟨(bs1.take x).toArray⟩, bs1.drop x) := by
  cases bad with
  | true =>
    cases bad1 with
    | true => simp [okS]
    | false => simp [okS] at h
  | false =>
    simp only [okS, Bool.false_eq_true, if_false, Option.bind_some] at h ⊢
    unfold textD
    rw [h]
    cases bad1 with
    | true => simp
    | false => simp

set_option maxRecDepth 100000 in
theorem rnat_any (w : World) (R : Nat) (T : TypeId) (tl : List Value) (bs : List UInt8) (bad : Bool) (h : Rd w R T tl bs bad) :
    Calls Try.prog 82 #[.pointer (some ⟨R, 0, none⟩)] w (RdPost lenD w R T tl bs bad fun _ v x => v = .int .i64 x ∧ x ≤ 9223372036854775807) := by
  go_enter Try.func82, Try.ntmps82
  go_wp2_with (fail)
  refine (runsigned_any w R T tl bs bad h).mono ?_
  rintro e w1 ⟨v, x, bs1, bad1, rfl, ⟨rfl, hx⟩, hrd, hg, hl, hh⟩
  have hbd := hrd.badden
  obtain ⟨A2, c2, hb2, _, _, hr2⟩ := id hrd
  have k1 : w1.cell? ⟨R, 1, none⟩ = some (.bool bad1) := hb2.cell 1
  have f1 := hb2.frozen 1
  have l1 := hb2.lt
  have hb := bind_lenD bad bs hh.out
  by_cases hlt : x ≤ 9223372036854775807
  · have hfin : RdPost lenD w R T tl bs bad (fun _ v x => v = .int .i64 x ∧ x ≤ 9223372036854775807) (.returned (.int .i64 x)) w1 := ⟨_, x, bs1, bad1, rfl, ⟨rfl, hlt⟩, hrd, hg, hl, by unfold Hid; rw [hb, if_pos hlt]⟩
    have Hfin := Lib.hid hfin
    clear hfin hb hb2 hr2 hh hbd hrd
    go_wp2_with (fail)
    go_ret
    exact Hfin.out
  · have hfin : RdPost lenD w R T tl bs bad (fun _ v x => v = .int .i64 x ∧ x ≤ 9223372036854775807) (.returned (.int .i64 0)) (w1.setCell ⟨R, 1, none⟩ (.bool true)) := ⟨_, 0, bs1, true, rfl, ⟨rfl, by omega⟩, hbd, grownBy_setCell hg (.inl rfl) _, hl, by unfold Hid; rw [hb, if_neg hlt]; rfl⟩
    have Hfin := Lib.hid hfin
    clear hfin hb hb2 hr2 hh hbd hrd
    go_wp2_with (fail)
    go_ret
    exact Hfin.out

set_option maxRecDepth 100000 in
theorem rcount_any (w : World) (R : Nat) (T : TypeId) (tl : List Value) (bs : List UInt8) (bad : Bool) (h : Rd w R T tl bs bad) :
    Calls Try.prog 95 #[.pointer (some ⟨R, 0, none⟩)] w (fun e w' => ∃ (x : Nat) (bs' : List UInt8) (bad' : Bool), e = .returned (.int .i64 x) ∧ x ≤ bs'.length ∧ Rd w' R T tl bs' bad' ∧ w.grownBy w' (some R) ∧ bs'.length ≤ bs.length ∧ Hid ((okS bad bs).bind countD = okS bad' (x, bs'))) := by
  go_enter Try.func95, Try.ntmps95
  go_wp2_with (fail)
  refine (rnat_any w R T tl bs bad h).mono ?_
  rintro e w1 ⟨v, x, bs1, bad1, rfl, ⟨rfl, hx⟩, hrd, hg, hl, hh⟩
  have hbd := hrd.badden
  obtain ⟨A2, c2, hb2, hc2, hcm2, hr2⟩ := id hrd
  have k0 : w1.cell? ⟨R, 0, none⟩ = some (.slice A2 bs1.length c2) := hb2.cell 0
  have k1 : w1.cell? ⟨R, 1, none⟩ = some (.bool bad1) := hb2.cell 1
  have f1 := hb2.frozen 1
  have l1 := hb2.lt
  have hb := bind_countD bad bs hh.out
  by_cases hlt : x ≤ bs1.length
  · have hfin : (fun e w' => ∃ (x : Nat) (bs' : List UInt8) (bad' : Bool), e = Ending.returned (.int .i64 x) ∧ x ≤ bs'.length ∧ Rd w' R T tl bs' bad' ∧ w.grownBy w' (some R) ∧ bs'.length ≤ bs.length ∧ Hid ((okS bad bs).bind countD = okS bad' (x, bs'))) (.returned (.int .i64 x)) w1 := ⟨x, bs1, bad1, rfl, hlt, hrd, hg, hl, by unfold Hid; rw [hb, if_pos hlt]⟩
    have Hfin := Lib.hid hfin
    clear hfin hb hb2 hr2 hh hbd hrd
    go_wp2_with (fail)
    go_ret
    exact Hfin.out
  · have hfin : (fun e w' => ∃ (x : Nat) (bs' : List UInt8) (bad' : Bool), e = Ending.returned (.int .i64 x) ∧ x ≤ bs'.length ∧ Rd w' R T tl bs' bad' ∧ w.grownBy w' (some R) ∧ bs'.length ≤ bs.length ∧ Hid ((okS bad bs).bind countD = okS bad' (x, bs'))) (.returned (.int .i64 0)) (w1.setCell ⟨R, 1, none⟩ (.bool true)) := ⟨0, bs1, true, rfl, by omega, hbd, grownBy_setCell hg (.inl rfl) _, hl, by unfold Hid; rw [hb, if_neg hlt]; rfl⟩
    have Hfin := Lib.hid hfin
    clear hfin hb hb2 hr2 hh hbd hrd
    go_wp2_with (fail)
    go_ret
    exact Hfin.out

theorem unzz_bits (x : Nat) (hx : x < 18446744073709551616) : bits .xor .i64 ((x : Int) / 2) (wrap64 (-wrap64 (bits .and .u64 (x : Int) 1))) = unzz x := by
  have e1 : bits .and .u64 (x : Int) 1 = ((x % 2 : Nat) : Int) := by
    have e2 : (BitVec.ofInt 64 1).toNat = 1 := by decide
    show IntKind.u64.wrap ((BitVec.ofInt 64 (x : Int) &&& BitVec.ofInt 64 1).toNat : Int) = _
    rw [BitVec.toNat_and, e2, BitVec.ofInt_natCast, BitVec.toNat_ofNat, Nat.mod_eq_of_lt (by omega : x < 2 ^ 64), Nat.and_one_is_mod, IntKind.wrap_u64]
    omega
  have e3 : (x : Int) / 2 = ((x / 2 : Nat) : Int) := by omega
  rw [e1, e3]
  unfold unzz
  rcases Nat.mod_two_eq_zero_or_one x with h | h
  · rw [h, if_pos rfl, show wrap64 (-wrap64 ((0 : Nat) : Int)) = 0 by unfold wrap64; omega]
    show IntKind.i64.wrap ((BitVec.ofInt 64 _ ^^^ BitVec.ofInt 64 0).toNat : Int) = _
    rw [show BitVec.ofInt 64 0 = 0#64 from rfl, BitVec.xor_zero, BitVec.ofInt_natCast, BitVec.toNat_ofNat, IntKind.wrap_i64]
    omega
  · rw [h, if_neg (by omega), show wrap64 (-wrap64 ((1 : Nat) : Int)) = -1 by unfold wrap64; omega]
    show IntKind.i64.wrap ((BitVec.ofInt 64 _ ^^^ BitVec.ofInt 64 (-1)).toNat : Int) = _
    rw [show BitVec.ofInt 64 (-1) = BitVec.allOnes 64 from rfl, BitVec.xor_allOnes, BitVec.toNat_not, BitVec.ofInt_natCast, BitVec.toNat_ofNat, IntKind.wrap_i64]
    omega

set_option maxRecDepth 100000 in
theorem rint_any (w : World) (R : Nat) (T : TypeId) (tl : List Value) (bs : List UInt8) (bad : Bool) (h : Rd w R T tl bs bad) :
    Calls Try.prog 86 #[.pointer (some ⟨R, 0, none⟩)] w (RdPost intD w R T tl bs bad fun _ v x => v = .int .i64 x ∧ Fits64 x) := by
  go_enter Try.func86, Try.ntmps86
  go_wp2_with (fail)
  refine (runsigned_any w R T tl bs bad h).mono ?_
  rintro e w1 ⟨v, x, bs1, bad1, rfl, ⟨rfl, hx⟩, hrd, hg, hl, hh⟩
  have hz := Lib.hid (unzz_bits x hx)
  have hb := unzz_bd x hx
  go_wp2_with (fail)
  rw [hz.out]
  go_ret
  exact ⟨_, unzz x, bs1, bad1, rfl, ⟨rfl, hb⟩, hrd, hg, hl, bind_intD bad bs hh.out⟩

set_option maxRecDepth 100000 in
theorem rtext_any (w : World) (R : Nat) (T : TypeId) (tl : List Value) (bs : List UInt8) (bad : Bool) (h : Rd w R T tl bs bad) :
    Calls Try.prog 90 #[.pointer (some ⟨R, 0, none⟩)] w (RdPost textD w R T tl bs bad fun _ v x => v = .string x ∧ x.size ≤ bs.length) := by
  go_enter Try.func90, Try.ntmps90
  go_wp2_with (fail)
  refine (rcount_any w R T tl bs bad h).mono ?_
  rintro e w1 ⟨x, bs1, bad1, rfl, hx, hrd, hg, hl, hh⟩
  obtain ⟨A2, c2, hb2, hc2, hcm2, hr2⟩ := id hrd
  have k0 : w1.cell? ⟨R, 0, none⟩ = some (.slice A2 bs1.length c2) := hb2.cell 0
  have f0 := hb2.frozen 0
  have l1 := hb2.lt
  obtain ⟨hs1, hr3⟩ := slice_h 62 5 Try.underlying62 size_u8 hr2 hc2 x hx x rfl
  obtain ⟨A', hs2, hr4⟩ := slice_l 62 5 Try.underlying62 size_u8 hr2 hc2 x hx x rfl
  have CV : ∀ W : World, Same (fun b => b < R) w1 W → (convert 62 9 (.slice A2 x c2)).run Try.prog W = .ok (.string ⟨(bs1.take x).toArray⟩) W := fun W hk =>
    run_convert_reads _ _ _ _ Try.underlying62 Try.underlying5 Try.underlying9 (by have := hr3.keep hk; simpa [u8s_take] using this)
  have CV1 := CV w1 (Same.refl _ _)
  have hsz : (⟨(bs1.take x).toArray⟩ : ByteArray).size = x := by show (bs1.take x).toArray.size = x; simp; omega
  have hfin : RdPost textD w R T tl bs bad (fun _ v x => v = .string x ∧ x.size ≤ bs.length) (.returned (.string ⟨(bs1.take x).toArray⟩)) (w1.setCell ⟨R, 0, none⟩ (.slice A' (bs1.length - x) (c2 - x))) := by
    refine ⟨_, _, bs1.drop x, bad1, rfl, ⟨rfl, by omega⟩, ⟨A', c2 - x, by have := hb2.put 0 (.slice A' (bs1.length - x) (c2 - x)); rw [List.length_drop]; exact this, by rw [List.length_drop]; omega, by omega, ?_⟩, grownBy_setCell hg (.inl rfl) _, by rw [List.length_drop]; omega, bind_textD bad bs hh.out⟩
    rw [List.length_drop, ← u8s_drop]
    rw [Nat.mul_one] at hr4
    exact hr4.keep fun b hb hl => Below.heap_setCell w1 _ _ b (by simp; omega)
  have Hfin := Lib.hid hfin
  clear hfin hsz CV hr3 hr4 hr2 hb2 hh hrd
  generalize (⟨(bs1.take x).toArray⟩ : ByteArray) = S at CV1 Hfin
  go_wp2_with (fail)
  go_ret
  exact Hfin.out

set_option maxRecDepth 100000 in
theorem rdone_any (w : World) (R : Nat) (T : TypeId) (tl : List Value) (bs : List UInt8) (bad : Bool) (h : Rd w R T tl bs bad) :
    Calls Try.prog 81 #[.pointer (some ⟨R, 0, none⟩)] w (fun e w' => e = .returned (.bool (!bad && bs.isEmpty)) ∧ Below w.heap.size w w') := by
  obtain ⟨A2, c2, hb2, hc2, hcm2, hr2⟩ := h
  have k0 : w.cell? ⟨R, 0, none⟩ = some (.slice A2 bs.length c2) := hb2.cell 0
  have k1 : w.cell? ⟨R, 1, none⟩ = some (.bool bad) := hb2.cell 1
  have l1 := hb2.lt
  clear hb2 hr2
  cases bad with
  | true =>
    go_enter Try.func81, Try.ntmps81
    go_wp2_with (fail)
    go_ret
    exact ⟨by simp, Below.refl _ _⟩
  | false =>
    go_enter Try.func81, Try.ntmps81
    go_wp2_with (fail)
    go_ret
    refine ⟨?_, Below.refl _ _⟩
    cases bs <;> simp
    omega
end Go.Proofs.Yteojmmjanjilaaa
