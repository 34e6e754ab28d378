/- Contract of strings.Lines's iterator: it yields the lines, and keeps the rest in a cell of its own. -/
import Derived.Test.YtpdjeaiojfghnaaDoorRangeCell
import Derived.Test.YtpdjeaiojfghnaaDoorTxLines
import Derived.Test.YtpdjeaiojfghnaaDoorLbShelf
import Derived.Shelf.Abstract
import Derived.Shelf.RegionOpen
import Derived.WalkKit
import Derived.OwnWalkIn
import Derived.TacticsInMore
import Derived.LoopNIn
import Derived.LoopIn
import Derived.RangeFuncBox
import Derived.Lib.Hide
set_option linter.unusedVariables false
namespace Go.Proofs.YtpdjeaiojfghnaaDoor
open Go.RowKit Go.Shelf Go.Mem Go.Txt
attribute [local go_sem] Oper.semAt_some
def bsv (l : List UInt8) : Value := .string ⟨l.toArray⟩
def leftOf (Bs : Nat) (w : World) : Nat := match w.cell? ⟨Bs, 0, none⟩ with | some (.string b) => b.size | _ => 0
theorem leftOf_eq {Bs : Nat} {w : World} {t : TypeId} {l : List UInt8} (h : Boxed w Bs t (bsv l)) : leftOf Bs w = l.length := by
  unfold leftOf
  rw [h.cell]
  exact ba_size l
theorem grown_setdrew (w : World) (Bs : Nat) (v : Value) : w.grownBy (w.setCell ⟨Bs, 0, none⟩ v).drew (some Bs) :=
  have h := grownBy_setCell' w Bs v
  ⟨h.os, h.tape, h.output, h.size, h.block⟩
set_option maxRecDepth 100000 in
set_option maxHeartbeats 1000000 in
theorem lines1_any (m : Nat) (hm : 1 ≤ m) (Bs : Nat) (s : List UInt8) (xs : List (List UInt8)) (hx : LinesR s xs) (hs9 : s.length ≤ 1000000) (w : World) (hB : Boxed w Bs 9 (bsv s)) :
    SeqCell Fence.wide m Tryd.prog 37 #[.pointer (some ⟨Bs, 0, none⟩)] (fun x : List UInt8 => #[bsv x]) Bs (fun ys => ys = xs) (fun _ => True) (fun pre x => ∃ more, xs = pre ++ x :: more) w := by
  intro l J Jx W hW hJ hJx hY h0
  have hBW : Boxed W Bs 9 (bsv s) := (hW.block Bs hB.lt).trans hB
  have IX : ∀ (S : ByteArray) (c : Int) (V : World), CallsIn Fence.wide (m - 1) Tryd.prog 38 #[.string S, .int .u8 c] V fun e w' => e = .returned (.int .i64 (Lib.indexByte S.data.toList c.toNat.toUInt8)) ∧ V = w' := fun S c V =>
    (callsIn_wide (n := m - 1)).2 ((Tryd.strings_IndexByte S c V).mono fun e w' h => ⟨h.1, h.2.symm⟩)
  refine callsIn_of_wp Tryd.func37 rfl trivial ?_ rfl
  simp only [Tryd.ntmps37, List.size_toArray, List.length_cons, List.length_nil, Nat.reduceAdd, Nat.reduceSub, Array.replicate_succ, Array.replicate_zero, List.push_toArray, List.append_toArray, List.nil_append, List.cons_append]
  gi_wp2
  gi_loopw [3, 4] (fun v3 v4 wr => ∃ pre rest ys, xs = pre ++ ys ∧ LinesR rest ys ∧ rest.length ≤ 1000000 ∧ Boxed wr Bs 9 (bsv rest) ∧ J pre wr) (fun _ _ wr => leftOf Bs wr)
  case atStart => exact ⟨[], s, xs, rfl, hx, hs9, hBW, h0⟩
  case round =>
    obtain ⟨pre, rest, ys, hxs, hl, hr9, hb, hJs⟩ := hrel
    have hf := hb.frozen
    have hlt := hb.lt
    have lo := leftOf_eq hb
    cases hl with
    | nil =>
      have hc : wr.cell? ⟨Bs, 0, none⟩ = some (.string ⟨#[]⟩) := hb.cell
      gi_wp2
      go_end0
      exact ⟨⟨_, rfl⟩, .inl ⟨pre, by simp [hxs], hJs⟩⟩
    | @cons b r ls h10 hr =>
      obtain ⟨S, hS⟩ : ∃ S : ByteArray, S = ⟨(b ++ 10 :: r).toArray⟩ := ⟨_, rfl⟩
      obtain ⟨k, hk⟩ : ∃ k, k = b.length := ⟨_, rfl⟩
      have hc : wr.cell? ⟨Bs, 0, none⟩ = some (.string S) := by rw [hS]; exact hb.cell
      have hsz : S.size = k + 1 + r.length := by rw [hS, ba_size, hk]; simp; omega
      have g0 : (0 : Int) < (S.size : Int) := by omega
      have hix : Lib.indexByte S.data.toList (10 : Int).toNat.toUInt8 = (k : Int) := by rw [hS, hk]; exact indexByte_at 10 r b h10
      have I1 := IX S 10
      rw [hix] at I1
      have e1 : b ++ 10 :: r = (b ++ [10]) ++ r := by simp
      have s1 := fun V : World => slice_head (P := Tryd.prog) Tryd.underlying9 (b ++ [10]) r ((k : Int) + 1) (by rw [hk]; simp) V
      have s2 := fun V : World => slice_rest (P := Tryd.prog) Tryd.underlying9 (b ++ [10]) r ((k : Int) + 1) (by rw [hk]; simp) V
      rw [← e1, ← hS] at s1 s2
      have hw : IntKind.i64.wrap ((k : Int) + 1) = (k : Int) + 1 := IntWalk.i64_in _ (by rw [List.length_append] at hr9; simp at hr9; omega)
      have k0 : (0 : Int) ≤ (k : Int) := by omega
      obtain ⟨L1, hL1⟩ : ∃ L1 : ByteArray, L1 = ⟨(b ++ [10]).toArray⟩ := ⟨_, rfl⟩
      obtain ⟨R1, hR1⟩ : ∃ R1 : ByteArray, R1 = ⟨r.toArray⟩ := ⟨_, rfl⟩
      rw [← hL1] at s1
      rw [← hR1] at s2
      have hJ2 := hJ pre wr ((wr.setCell ⟨Bs, 0, none⟩ (.string R1)).drew) hJs (grown_setdrew wr Bs _)
      obtain ⟨fn, tmps, assign, body, hy, hR⟩ := hY pre (b ++ [10]) _ hJ2 ⟨_, hxs⟩
      have hb2 : Boxed ((wr.setCell ⟨Bs, 0, none⟩ (.string R1)).drew) Bs 9 (.string R1) := Boxed.set (W := wr) _ hb
      simp only [bsv, ← hL1] at hy
      have HS := Lib.hid (And.intro hS (And.intro hk (And.intro hL1 hR1)))
      have HB := Lib.hid hb
      have HJ := Lib.hid hJs
      have HX := Lib.hid (And.intro hxs (And.intro hr lo))
      have HB2 := Lib.hid hb2
      clear e1 IX hix hS hk hL1 hR1 hsz hb hJs hxs hr lo hb2 h10
      gi_wp2_with (refine ⟨trivial, ?_⟩; gi_at_call 38; refine (I1 _).mono ?_; rintro e w' ⟨rfl, rfl⟩)
      gi_region
      gi_wp2
      refine hR.mono ?_
      rintro e W3 (⟨rfl, hJ3, hk3⟩ | ⟨rfl, hJx3⟩)
      · gi_wp2
        go_roundw
        case rel =>
          refine ⟨pre ++ [b ++ [10]], r, ls, by rw [HX.out.1]; simp, HX.out.2.1, by rw [List.length_append] at hr9; simp at hr9; omega, ?_, hJ3⟩
          have := hk3.trans HB2.out
          rw [HS.out.2.2.2] at this
          exact this
        case measure =>
          have h3 : Boxed W3 Bs 9 (bsv r) := by
            have := hk3.trans HB2.out
            rw [HS.out.2.2.2] at this
            exact this
          rw [leftOf_eq h3, HX.out.2.2]
          simp
          omega
      · gi_wp2
        refine bodyPost_ret (results_none rfl _ _ _) rfl ?_
        exact ⟨⟨_, rfl⟩, .inr ⟨pre ++ [b ++ [10]], trivial, hJx3⟩⟩
    | last hne h10 =>
      obtain ⟨S, hS⟩ : ∃ S : ByteArray, S = ⟨rest.toArray⟩ := ⟨_, rfl⟩
      have hc : wr.cell? ⟨Bs, 0, none⟩ = some (.string S) := by rw [hS]; exact hb.cell
      have hsz : S.size = rest.length := by rw [hS, ba_size]
      have hpos : 0 < rest.length := List.length_pos_iff.2 hne
      have g0 : (0 : Int) < (S.size : Int) := by omega
      have hix : Lib.indexByte S.data.toList (10 : Int).toNat.toUInt8 = -1 := by rw [hS]; exact indexByte_none 10 rest h10
      have I1 := IX S 10
      rw [hix] at I1
      have hJ2 := hJ pre wr (wr.setCell ⟨Bs, 0, none⟩ (.string ⟨#[]⟩)) hJs (grownBy_setCell' wr Bs _)
      obtain ⟨fn, tmps, assign, body, hy, hR⟩ := hY pre rest _ hJ2 ⟨_, hxs⟩
      have hb2 : Boxed (wr.setCell ⟨Bs, 0, none⟩ (.string ⟨#[]⟩)) Bs 9 (bsv []) := Boxed.set (W := wr) _ hb
      simp only [bsv, ← hS] at hy
      have HB2 := Lib.hid hb2
      have HX := Lib.hid (And.intro hxs lo)
      have HP := Lib.hid hpos
      clear IX hix hS hsz hb hJs hxs lo hb2 h10 hne hpos
      gi_wp2_with (refine ⟨trivial, ?_⟩; gi_at_call 38; refine (I1 _).mono ?_; rintro e w' ⟨rfl, rfl⟩)
      refine hR.mono ?_
      rintro e W3 (⟨rfl, hJ3, hk3⟩ | ⟨rfl, hJx3⟩)
      · gi_wp2
        go_roundw
        case rel => exact ⟨pre ++ [rest], [], [], by rw [HX.out.1]; simp, .nil, Nat.zero_le _, hk3.trans HB2.out, hJ3⟩
        case measure =>
          have h3 : Boxed W3 Bs 9 (bsv []) := hk3.trans HB2.out
          rw [leftOf_eq h3, HX.out.2]
          exact HP.out
      · gi_wp2
        refine bodyPost_ret (results_none rfl _ _ _) rfl ?_
        exact ⟨⟨_, rfl⟩, .inr ⟨pre ++ [rest], trivial, hJx3⟩⟩
end Go.Proofs.YtpdjeaiojfghnaaDoor
