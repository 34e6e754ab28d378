/- Contract of slices.Equal at what actors got, where both are the same. -/
import Derived.Test.YtckkelppdeampaaHarbRun0
import Derived.Laws.StructEq
import Derived.Outline
set_option linter.unusedVariables false
namespace Go.Proofs.Ytckkelppdeampaa
open Go.RowKit Go.Mem Go.Mv Go.Maps
theorem gtcs_at (l : List (Nat × Nat)) (k j : Nat) (hk : k < l.length) (hj : j < 2) : (gtcs l)[k * 2 + j]? = (gtc l[k])[j]? := by
  have e : gtcs l = (l.map gtc).flatten := by simp [gtcs, List.flatMap]
  rw [e]
  exact flatten_at (size := 2) (vss := l.map gtc) (fun c hc => by obtain ⟨d, _, rfl⟩ := List.mem_map.1 hc; rfl) (k := k) (c := gtc l[k]) (by rw [List.getElem?_map, List.getElem?_eq_getElem hk]; rfl) j hj
theorem neq_got (a b : Int) (W : World) : (binOp .neq 62 (.agg #[.int .i64 a, .int .i64 b]) (.agg #[.int .i64 a, .int .i64 b])).run Try.prog W = .ok (.bool false) W := by
  have hu : Try.prog.underlying 62 = some (.struct (Try.prog.fieldsOf 62)) := by kernel_rfl
  have hp : Try.prog.stoodInHeld 62 = false := by kernel_rfl
  have e1 := run_neq_struct (P := Try.prog) W 62 #[.int .i64 a, .int .i64 b] #[.int .i64 a, .int .i64 b]
  have e2 := run_equalIn_agg (P := Try.prog) W 9999 62 #[.int .i64 a, .int .i64 b] #[.int .i64 a, .int .i64 b] hu hp
  have hf : (Try.prog.fieldsOf 62).toList = [⟨"From", 3, 0, false, "", "", 0⟩, ⟨"N", 3, 1, false, "", "", 8⟩] := by kernel_rfl
  rw [hf] at e2
  have e3 : (Op.equalIn 10000 62 (.agg #[.int .i64 a, .int .i64 b]) (.agg #[.int .i64 a, .int .i64 b])).run Try.prog W = .ok true W := by
    refine e2.trans ?_
    have hi := Try.underlying3
    have p0 : ∀ x y : Int, (part 3 #[.int .i64 x, .int .i64 y] 0).run Try.prog W = .ok (.int .i64 x) W := fun x y => by
      unfold part
      simp [isAgg, run_underlying hi]
    have p1 : ∀ x y : Int, (part 3 #[.int .i64 x, .int .i64 y] 1).run Try.prog W = .ok (.int .i64 y) W := fun x y => by
      unfold part
      simp [isAgg, run_underlying hi]
    have q : ∀ x : Int, (Op.equalIn 9999 3 (.int .i64 x) (.int .i64 x)).run Try.prog W = .ok true W := fun x => by
      have := run_equalIn_int (P := Try.prog) W 9998 3 .i64 .i64 x x hi
      simpa using this
    simp only [Op.eqFields]
    simp [p0, p1, q, Result.andThen]
  rw [e1, e3]
  rfl
set_option maxRecDepth 100000 in
set_option maxHeartbeats 1000000 in
theorem equal_gots (A B : Option Addr) (n c d : Nat) (l : List (Nat × Nat)) (D E : Nat → Prop) (w : World) (hr : Reads w D 2 A n (gtcs l)) (hs : Reads w E 2 B n (gtcs l)) (hn : n ≤ 1099511627776) (hnl : n = l.length) :
    Calls Try.prog 14 #[.slice A n c, .slice B n d] w fun e w' => e = .returned (.bool true) ∧ Below w.heap.size w w' := by
  have Hnl := Lib.hid hnl
  clear hnl
  have ng := neq_got
  go_enter Try.func14, Try.ntmps14
  go_wp2_with (fail)
  go_loopw [13] (fun v wr => ∃ j : Nat, j ≤ n ∧ v = .int .i64 j ∧ Below w.heap.size w wr) (fun v _ => n - (intOf v).toNat)
  case atStart => exact ⟨0, Nat.zero_le _, rfl, Below.refl _ _⟩
  case round =>
    obtain ⟨j, hj, rfl, hb⟩ := hrel
    by_cases hlt : j < n
    · obtain ⟨b1, o1, rfl, _, hc1⟩ := hr.2 (by omega)
      obtain ⟨b2, o2, rfl, _, hc2⟩ := hs.2 (by omega)
      have hl : j < l.length := by have := Hnl.out; omega
      have p0 := (Same.any (D := Any) hb).cell trivial (hc1 (j * 2 + 0) _ (gtcs_at l j 0 hl (by omega)))
      have p1 := (Same.any (D := Any) hb).cell trivial (hc1 (j * 2 + 1) _ (gtcs_at l j 1 hl (by omega)))
      have q0 := (Same.any (D := Any) hb).cell trivial (hc2 (j * 2 + 0) _ (gtcs_at l j 0 hl (by omega)))
      have q1 := (Same.any (D := Any) hb).cell trivial (hc2 (j * 2 + 1) _ (gtcs_at l j 1 hl (by omega)))
      generalize l[j] = y at p0 p1 q0 q1
      obtain ⟨y0, y1⟩ := y
      simp only [Nat.add_zero, ← Nat.add_assoc] at p0 p1 q0 q1
      clear hr hs hc1 hc2
      go_wp2_with (fail)
      go_quiet (fail)
      go_wp2_with (fail)
      exact ⟨⟨j + 1, by omega, by go_num, ⟨hb.os, hb.tape, hb.output, hb.size, hb.block⟩⟩, by simp [intOf]; omega⟩
    · clear hr hs
      go_wp2_with (fail)
      go_ret
      exact ⟨rfl, hb⟩
end Go.Proofs.Ytckkelppdeampaa
