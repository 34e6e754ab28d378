/- Contracts of slices.Index and Contains at choices, and of slices.Equal at choices and at what was said. -/
import Derived.Test.YtlpkgheggbcidaaDoorRpRunW
import Derived.Laws.StructEq
set_option linter.unusedVariables false
namespace Go.Rp
open Go.Mem Go.RowKit
theorem cat_cell {α : Type} {f : α → List Value} {k : Nat} (hf : ∀ a, (f a).length = k) {w : World} {D : Nat → Prop} {A : Option Addr} {n : Nat} {l : List α} (h : Reads w D k A n (cat f l)) {i : Nat} (hi : i < n) (hn : n = l.length) :
    ∃ b off, A = some ⟨b, off, none⟩ ∧ D b ∧ ∀ j, j < k → w.cell? ⟨b, off + i * k + j, none⟩ = (f (l[i]'(by omega)))[j]? := by
  obtain ⟨b, off, e, hD, hc⟩ := h.2 (by omega)
  have hl : i < l.length := by omega
  refine ⟨b, off, e, hD, fun j hj => ?_⟩
  have h1 := cat_at hf l i j hl hj
  have h2 : j < (f l[i]).length := by rw [hf]; exact hj
  rw [List.getElem?_eq_getElem h2] at h1 ⊢
  rw [Nat.add_assoc]
  exact hc _ _ h1
end Go.Rp
namespace Go.Proofs.YtlpkgheggbcidaaDoor
open Go.RowKit Go.Mem Go.Rp Go.Maps
theorem equalIn_ch (x0 x1 x2 y0 y1 y2 : Int) (W : World) : (Op.equalIn 10000 36 (.agg #[.int .i64 x0, .int .i64 x1, .int .i64 x2]) (.agg #[.int .i64 y0, .int .i64 y1, .int .i64 y2])).run Tryd.prog W = .ok (decide (x0 = y0 ∧ x1 = y1 ∧ x2 = y2)) W := by
  have hu : Tryd.prog.underlying 36 = some (.struct (Tryd.prog.fieldsOf 36)) := by kernel_rfl
  have hp : Tryd.prog.stoodInHeld 36 = false := by kernel_rfl
  have e2 := run_equalIn_agg (P := Tryd.prog) W 9999 36 #[.int .i64 x0, .int .i64 x1, .int .i64 x2] #[.int .i64 y0, .int .i64 y1, .int .i64 y2] hu hp
  have hf : (Tryd.prog.fieldsOf 36).toList = [⟨"Kind", 3, 0, false, "", "", 0⟩, ⟨"A", 3, 1, false, "", "", 8⟩, ⟨"B", 3, 2, false, "", "", 16⟩] := by kernel_rfl
  rw [hf] at e2
  refine e2.trans ?_
  have hi := Tryd.underlying3
  have p0 : ∀ (x0 x1 x2 : Int), (part 3 #[.int .i64 x0, .int .i64 x1, .int .i64 x2] 0).run Tryd.prog W = .ok (.int .i64 x0) W := fun x0 x1 x2 => by
    unfold part
    simp [isAgg, run_underlying hi]
  have p1 : ∀ (x0 x1 x2 : Int), (part 3 #[.int .i64 x0, .int .i64 x1, .int .i64 x2] 1).run Tryd.prog W = .ok (.int .i64 x1) W := fun x0 x1 x2 => by
    unfold part
    simp [isAgg, run_underlying hi]
  have p2 : ∀ (x0 x1 x2 : Int), (part 3 #[.int .i64 x0, .int .i64 x1, .int .i64 x2] 2).run Tryd.prog W = .ok (.int .i64 x2) W := fun x0 x1 x2 => by
    unfold part
    simp [isAgg, run_underlying hi]
  have q1 : ∀ x y : Int, (Op.equalIn 9999 3 (.int .i64 x) (.int .i64 y)).run Tryd.prog W = .ok (x == y) W := fun x y => by
    have := run_equalIn_int (P := Tryd.prog) W 9998 3 .i64 .i64 x y hi
    simpa using this
  simp only [Op.eqFields]
  by_cases h0 : x0 = y0
  · subst h0
    by_cases h1 : x1 = y1
    · subst h1
      by_cases h2 : x2 = y2
      · subst h2
        simp [p0, p1, p2, q1, Result.andThen]
      · have g2 : (x2 == y2) = false := by simpa using h2
        simp [p0, p1, p2, q1, Result.andThen, h2, g2]
    · have g1 : (x1 == y1) = false := by simpa using h1
      simp [p0, p1, q1, Result.andThen, h1, g1]
  · have g0 : (x0 == y0) = false := by simpa using h0
    simp [p0, q1, Result.andThen, h0, g0]
theorem eql_ch (x0 x1 x2 y0 y1 y2 : Int) (r : Bool) (W : World) (hr : decide (x0 = y0 ∧ x1 = y1 ∧ x2 = y2) = r) : (binOp .eql 36 (.agg #[.int .i64 x0, .int .i64 x1, .int .i64 x2]) (.agg #[.int .i64 y0, .int .i64 y1, .int .i64 y2])).run Tryd.prog W = .ok (.bool r) W := by
  rw [run_eql_struct, equalIn_ch, hr]
  rfl
theorem neq_ch (x0 x1 x2 : Int) (W : World) : (binOp .neq 36 (.agg #[.int .i64 x0, .int .i64 x1, .int .i64 x2]) (.agg #[.int .i64 x0, .int .i64 x1, .int .i64 x2])).run Tryd.prog W = .ok (.bool false) W := by
  rw [run_neq_struct, equalIn_ch]
  simp
theorem equalIn_sd (x0 x1 y0 y1 : Int) (W : World) : (Op.equalIn 10000 45 (.agg #[.int .i64 x0, .int .i64 x1]) (.agg #[.int .i64 y0, .int .i64 y1])).run Tryd.prog W = .ok (decide (x0 = y0 ∧ x1 = y1)) W := by
  have hu : Tryd.prog.underlying 45 = some (.struct (Tryd.prog.fieldsOf 45)) := by kernel_rfl
  have hp : Tryd.prog.stoodInHeld 45 = false := by kernel_rfl
  have e2 := run_equalIn_agg (P := Tryd.prog) W 9999 45 #[.int .i64 x0, .int .i64 x1] #[.int .i64 y0, .int .i64 y1] hu hp
  have hf : (Tryd.prog.fieldsOf 45).toList = [⟨"Who", 3, 0, false, "", "", 0⟩, ⟨"Num", 3, 1, false, "", "", 8⟩] := by kernel_rfl
  rw [hf] at e2
  refine e2.trans ?_
  have hi := Tryd.underlying3
  have p0 : ∀ (x0 x1 : Int), (part 3 #[.int .i64 x0, .int .i64 x1] 0).run Tryd.prog W = .ok (.int .i64 x0) W := fun x0 x1 => by
    unfold part
    simp [isAgg, run_underlying hi]
  have p1 : ∀ (x0 x1 : Int), (part 3 #[.int .i64 x0, .int .i64 x1] 1).run Tryd.prog W = .ok (.int .i64 x1) W := fun x0 x1 => by
    unfold part
    simp [isAgg, run_underlying hi]
  have q1 : ∀ x y : Int, (Op.equalIn 9999 3 (.int .i64 x) (.int .i64 y)).run Tryd.prog W = .ok (x == y) W := fun x y => by
    have := run_equalIn_int (P := Tryd.prog) W 9998 3 .i64 .i64 x y hi
    simpa using this
  simp only [Op.eqFields]
  by_cases h0 : x0 = y0
  · subst h0
    by_cases h1 : x1 = y1
    · subst h1
      simp [p0, p1, q1, Result.andThen]
    · have g1 : (x1 == y1) = false := by simpa using h1
      simp [p0, p1, q1, Result.andThen, h1, g1]
  · have g0 : (x0 == y0) = false := by simpa using h0
    simp [p0, q1, Result.andThen, h0, g0]
theorem eql_sd (x0 x1 y0 y1 : Int) (r : Bool) (W : World) (hr : decide (x0 = y0 ∧ x1 = y1) = r) : (binOp .eql 45 (.agg #[.int .i64 x0, .int .i64 x1]) (.agg #[.int .i64 y0, .int .i64 y1])).run Tryd.prog W = .ok (.bool r) W := by
  rw [run_eql_struct, equalIn_sd, hr]
  rfl
theorem neq_sd (x0 x1 : Int) (W : World) : (binOp .neq 45 (.agg #[.int .i64 x0, .int .i64 x1]) (.agg #[.int .i64 x0, .int .i64 x1])).run Tryd.prog W = .ok (.bool false) W := by
  rw [run_neq_struct, equalIn_sd]
  simp
set_option maxRecDepth 100000 in
set_option maxHeartbeats 1000000 in
theorem equal_ch (A B : Option Addr) (n c d : Nat) (l : List Ch) (w : World) (hr : Reads w Any 3 A n (cat chC l)) (hs : Reads w Any 3 B n (cat chC l)) (hn : n ≤ 1099511627776) (hnl : n = l.length) :
    Calls Tryd.prog 8 #[.slice A n c, .slice B n d] w fun e w' => e = .returned (.bool true) ∧ Below w.heap.size w w' := by
  have Hnl := Lib.hid hnl
  clear hnl
  have ng := neq_ch
  go_enter Tryd.func8, Tryd.ntmps8
  go_wp2_with (fail)
  go_loopw [13] (fun v wr => ∃ j : Nat, j ≤ n ∧ v = .int .i64 j ∧ Below w.heap.size w wr) (fun v _ => n - (intOf v).toNat)
  case atStart => exact ⟨0, Nat.zero_le _, rfl, Below.refl _ _⟩
  case round =>
    obtain ⟨j, hj, rfl, hb⟩ := hrel
    by_cases hlt : j < n
    · obtain ⟨b1, o1, rfl, _, r⟩ := cat_cell chC_len (hr.keep (Same.any hb)) hlt Hnl.out
      obtain ⟨b2, o2, rfl, _, s⟩ := cat_cell chC_len (hs.keep (Same.any hb)) hlt Hnl.out
      generalize l[j]'(by have := Hnl.out; omega) = y at r s
      obtain ⟨y0, y1, y2⟩ := y
      have r0 := r 0 (by omega)
      have s0 := s 0 (by omega)
      have r1 := r 1 (by omega)
      have s1 := s 1 (by omega)
      have r2 := r 2 (by omega)
      have s2 := s 2 (by omega)
      simp only [chC, List.getElem?_cons_succ, List.getElem?_cons_zero, Nat.add_zero] at r0 s0 r1 s1 r2 s2
      have ng1 := fun W => ng y0 y1 y2 W
      clear hr hs r s ng
      go_wp2_with (fail)
      go_quiet (fail)
      go_wp2_with (fail)
      exact ⟨⟨j + 1, by omega, by go_num, ⟨hb.os, hb.tape, hb.output, hb.size, hb.block⟩⟩, by simp [intOf]; omega⟩
    · clear hr hs
      go_wp2_with (fail)
      go_ret
      exact ⟨rfl, hb⟩
set_option maxRecDepth 100000 in
set_option maxHeartbeats 1000000 in
theorem equal_sd (A B : Option Addr) (n c d : Nat) (l : List (Int × Int)) (w : World) (hr : Reads w Any 2 A n (cat sdC l)) (hs : Reads w Any 2 B n (cat sdC l)) (hn : n ≤ 1099511627776) (hnl : n = l.length) :
    Calls Tryd.prog 11 #[.slice A n c, .slice B n d] w fun e w' => e = .returned (.bool true) ∧ Below w.heap.size w w' := by
  have Hnl := Lib.hid hnl
  clear hnl
  have ng := neq_sd
  go_enter Tryd.func11, Tryd.ntmps11
  go_wp2_with (fail)
  go_loopw [13] (fun v wr => ∃ j : Nat, j ≤ n ∧ v = .int .i64 j ∧ Below w.heap.size w wr) (fun v _ => n - (intOf v).toNat)
  case atStart => exact ⟨0, Nat.zero_le _, rfl, Below.refl _ _⟩
  case round =>
    obtain ⟨j, hj, rfl, hb⟩ := hrel
    by_cases hlt : j < n
    · obtain ⟨b1, o1, rfl, _, r⟩ := cat_cell sdC_len (hr.keep (Same.any hb)) hlt Hnl.out
      obtain ⟨b2, o2, rfl, _, s⟩ := cat_cell sdC_len (hs.keep (Same.any hb)) hlt Hnl.out
      generalize l[j]'(by have := Hnl.out; omega) = y at r s
      obtain ⟨y0, y1⟩ := y
      have r0 := r 0 (by omega)
      have s0 := s 0 (by omega)
      have r1 := r 1 (by omega)
      have s1 := s 1 (by omega)
      simp only [sdC, List.getElem?_cons_succ, List.getElem?_cons_zero, Nat.add_zero] at r0 s0 r1 s1
      have ng1 := fun W => ng y0 y1 W
      clear hr hs r s ng
      go_wp2_with (fail)
      go_quiet (fail)
      go_wp2_with (fail)
      exact ⟨⟨j + 1, by omega, by go_num, ⟨hb.os, hb.tape, hb.output, hb.size, hb.block⟩⟩, by simp [intOf]; omega⟩
    · clear hr hs
      go_wp2_with (fail)
      go_ret
      exact ⟨rfl, hb⟩
set_option maxRecDepth 100000 in
set_option maxHeartbeats 2000000 in
theorem index_any (A : Option Addr) (n c : Nat) (l : List Ch) (x : Ch) (w : World) (hr : Reads w Any 3 A n (cat chC l)) (hn : n = l.length) (hn1 : n ≤ 1099511627776) :
    Calls Tryd.prog 41 #[.slice A n c, .agg #[.int .i64 x.k, .int .i64 x.a, .int .i64 x.b]] w fun e w' => ∃ i : Int, e = .returned (.int .i64 i) ∧ decide (0 ≤ i) = decide (x ∈ l) ∧ Below w.heap.size w w' := by
  obtain ⟨xk, xa, xb⟩ := x
  have Hn := Lib.hid hn
  clear hn
  obtain ⟨W0, hW0⟩ : ∃ W, W = w.alloc (.cells #[.int .i64 xk, .int .i64 xa, .int .i64 xb] 36) := ⟨_, rfl⟩
  have hbk : Blk W0 w.heap.size 36 [.int .i64 xk, .int .i64 xa, .int .i64 xb] := by rw [hW0]; exact Blk.new w _ _
  have hbW : Below w.heap.size w W0 := by rw [hW0]; exact (Below.refl _ _).alloc (Nat.le_refl _) _
  have hrW := hr.keep (Same.any hbW)
  obtain ⟨D, hD⟩ : ∃ D, D = w.heap.size := ⟨_, rfl⟩
  rw [← hD] at hbk
  go_enter Tryd.func41, Tryd.ntmps41
  go_upto_region 1 with (fail)
  have HB := Lib.hid (And.intro hbk hbW)
  rw [← hW0, ← hD]
  have lD0 := hbk.lt
  clear hW0 hr hbW hbk hD
  go_wp2_with (fail)
  go_loopw [8] (fun v wr => ∃ j : Nat, j ≤ n ∧ v = .int .i64 j ∧ Hid ((⟨xk, xa, xb⟩ : Ch) ∉ l.take j) ∧ Below W0.heap.size W0 wr) (fun v _ => n - (intOf v).toNat)
  case atStart => exact ⟨0, Nat.zero_le _, rfl, by unfold Hid; simp, Below.refl _ _⟩
  case round =>
    obtain ⟨j, hj, rfl, hno, hb⟩ := hrel
    have bkr := HB.out.1.below hb HB.out.1.lt
    have f0 := bkr.cell 0
    have f1 := bkr.cell 1
    have f2 := bkr.cell 2
    simp only [List.getElem?_cons_zero, List.getElem?_cons_succ] at f0 f1 f2
    have lDr := bkr.lt
    by_cases hlt : j < n
    · obtain ⟨b1, o1, rfl, _, r⟩ := cat_cell chC_len (hrW.keep (Same.any hb)) hlt Hn.out
      have hl : j < l.length := by have := Hn.out; omega
      have hmem := List.getElem_mem hl
      have htk := List.take_succ_eq_append_getElem hl
      generalize l[j] = y at r hmem htk
      obtain ⟨yk, ya, yb⟩ := y
      have r0 := r 0 (by omega)
      have r1 := r 1 (by omega)
      have r2 := r 2 (by omega)
      simp only [chC, List.getElem?_cons_succ, List.getElem?_cons_zero, Nat.add_zero] at r0 r1 r2
      have i1 : (j : Int) < (n : Int) := by omega
      have EQ := fun W r h => eql_ch xk xa xb yk ya yb r W h
      by_cases he : xk = yk ∧ xa = ya ∧ xb = yb
      · have EQ1 := fun W => EQ W true (decide_eq_true he)
        have HM := Lib.hid (show (⟨xk, xa, xb⟩ : Ch) ∈ l by rw [he.1, he.2.1, he.2.2]; exact hmem)
        clear hrW r EQ he hmem htk hno bkr
        go_wp2_with (fail)
        go_quiet (fail)
        go_wp2_with (fail)
        go_ret
        exact ⟨j, rfl, by rw [decide_eq_true HM.out]; simp, HB.out.2.trans (Below.mono ⟨hb.os, hb.tape, hb.output, hb.size, hb.block⟩ HB.out.2.size)⟩
      · have EQ1 := fun W => EQ W false (decide_eq_false he)
        have HM : Hid ((⟨xk, xa, xb⟩ : Ch) ∉ l.take (j + 1)) := by
          unfold Hid
          rw [htk, List.mem_append]
          rintro (h | h)
          · exact hno.out h
          · simp at h; exact he h
        clear hrW r EQ he hmem htk hno bkr
        go_wp2_with (fail)
        go_quiet (fail)
        go_wp2_with (fail)
        exact ⟨⟨j + 1, by omega, by go_num, HM, ⟨hb.os, hb.tape, hb.output, hb.size, hb.block⟩⟩, by simp [intOf]; omega⟩
    · have HM := Lib.hid (show (⟨xk, xa, xb⟩ : Ch) ∉ l by
        have := hno.out
        rwa [List.take_of_length_le (by have := Hn.out; omega)] at this)
      clear hrW hno bkr
      go_wp2_with (fail)
      go_ret
      exact ⟨-1, rfl, by rw [decide_eq_false HM.out]; simp, HB.out.2.trans (Below.mono ⟨hb.os, hb.tape, hb.output, hb.size, hb.block⟩ HB.out.2.size)⟩
set_option maxRecDepth 100000 in
theorem contains_any (A : Option Addr) (n c : Nat) (l : List Ch) (x : Ch) (w : World) (hr : Reads w Any 3 A n (cat chC l)) (hn : n = l.length) (hn1 : n ≤ 1099511627776) :
    Calls Tryd.prog 27 #[.slice A n c, .agg #[.int .i64 x.k, .int .i64 x.a, .int .i64 x.b]] w fun e w' => e = .returned (.bool (decide (x ∈ l))) ∧ Below w.heap.size w w' := by
  obtain ⟨W0, hW0⟩ : ∃ W, W = w.alloc (.cells #[.int .i64 x.k, .int .i64 x.a, .int .i64 x.b] 36) := ⟨_, rfl⟩
  have hbW : Below w.heap.size w W0 := by rw [hW0]; exact (Below.refl _ _).alloc (Nat.le_refl _) _
  have IX := Lib.hid (index_any A n c l x W0 (hr.keep (Same.any hbW)) hn hn1)
  obtain ⟨r, hrr⟩ : ∃ r, r = decide (x ∈ l) := ⟨_, rfl⟩
  have HR := Lib.hid hrr
  rw [← hrr]
  have HW := Lib.hid hW0
  have HB := Lib.hid hbW
  clear hW0 hbW hr hn hrr
  obtain ⟨xk, xa, xb⟩ := x
  go_enter Tryd.func27, Tryd.ntmps27
  go_wp2_with (fail)
  rw [← HW.out]
  refine IX.out.mono ?_
  rintro e w1 ⟨i, rfl, hi, hb⟩
  rw [← HR.out] at hi
  have HX := Lib.hid hb
  clear hb
  go_wp2_with (fail)
  go_ret
  exact ⟨rfl, HB.out.trans (HX.out.mono HB.out.size)⟩
end Go.Proofs.YtlpkgheggbcidaaDoor
