/- slices.Contains at names. -/
import Derived.Test.YtijniccmgjokoaaLkClone
set_option linter.unusedVariables false
namespace Go.Proofs.Ytijniccmgjokoaa
open Go.RowKit Go.Mem Go.Sv Go.Maps
def strs (l : List Nm) : List Value := l.map str
theorem strs_at (l : List Nm) (k : Nat) (h : k < l.length) : (strs l)[k]? = some (str l[k]) := by simp [strs, h]
set_option maxRecDepth 100000 in
theorem indexS_any (A : Option Addr) (n c : Nat) (l : List Nm) (x : Nm) (w : World) (hr : Reads w Any 1 A n (strs l)) (hn : n = l.length) (hn1 : n ≤ 1000) :
    Calls Try.prog 63 #[.slice A n c, str x] w fun e w' => ∃ i : Int, e = .returned (.int .i64 i) ∧ decide (0 ≤ i) = decide (x ∈ l) ∧ w = w' := by
  have Hn := Lib.hid hn
  have HR := Lib.hid hr
  clear hn hr
  go_enter Try.func63, Try.ntmps63
  go_wp2_with (fail)
  go_loopw [8] (fun v wr => ∃ j : Nat, j ≤ n ∧ v = .int .i64 j ∧ Hid (x ∉ l.take j) ∧ wr = w) (fun v _ => n - (intOf v).toNat)
  case atStart => exact ⟨0, Nat.zero_le _, rfl, by unfold Hid; simp, rfl⟩
  case round =>
    obtain ⟨j, hj, rfl, hno, rfl⟩ := hrel
    by_cases hlt : j < n
    · have hjl : j < l.length := by have := Hn.out; omega
      obtain ⟨b1, o1, u, rfl, _, hu, p0⟩ := HR.out.at_ hlt
      rw [strs_at l j hjl] at hu
      injection hu with hu
      subst hu
      have htk : l.take (j + 1) = l.take j ++ [l[j]] := List.take_succ_eq_append_getElem hjl
      have hmem : l[j] ∈ l := List.getElem_mem hjl
      generalize l[j] = y at p0 htk hmem
      by_cases e : x = y
      · have nq : (x == y) = true := (beq_nm x y).trans (decide_eq_true e)
        have HM := Lib.hid (show x ∈ l by rw [e]; exact hmem)
        clear e htk hmem hno
        go_wp2_with (fail)
        go_ret
        exact ⟨j, rfl, by rw [decide_eq_true HM.out]; simp, rfl⟩
      · have nq : (x == y) = false := (beq_nm x y).trans (decide_eq_false e)
        have HM := Lib.hid (show x ∉ l.take (j + 1) by rw [htk, List.mem_append, List.mem_singleton]; exact fun h => h.elim hno.out e)
        clear e htk hmem hno
        go_wp2_with (fail)
        exact ⟨⟨j + 1, by omega, by go_num, HM, by first | rfl | trivial⟩, by simp [intOf]; omega⟩
    · have hall : x ∉ l := by
        have := hno.out
        rwa [List.take_of_length_le (by have := Hn.out; omega)] at this
      have HM := Lib.hid hall
      clear hall hno
      go_wp2_with (fail)
      go_ret
      exact ⟨-1, rfl, by rw [decide_eq_false HM.out]; rfl, rfl⟩
theorem containsS_any (A : Option Addr) (n c : Nat) (l : List Nm) (x : Nm) (w : World) (hr : Reads w Any 1 A n (strs l)) (hn : n = l.length) (hn1 : n ≤ 1000) :
    Calls Try.prog 42 #[.slice A n c, str x] w fun e w' => e = .returned (.bool (decide (x ∈ l))) ∧ w = w' := by
  have IX := indexS_any A n c l x w hr hn hn1
  generalize decide (x ∈ l) = q at IX ⊢
  have IX := Lib.hid IX
  clear hr hn
  go_enter Try.func42, Try.ntmps42
  go_wp2_with (fail)
  refine IX.out.mono ?_
  rintro e w' ⟨i, rfl, hi, rfl⟩
  have Hi := Lib.hid hi
  clear hi
  go_wp2_with (fail)
  go_ret
  exact ⟨by rw [← Hi.out]; rfl, rfl⟩
end Go.Proofs.Ytijniccmgjokoaa
