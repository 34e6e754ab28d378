/- Picks in memory; contracts of slices.Index and Contains at picks, of slices.Equal of the same. -/
import Derived.Test.YtpdjeaiojfghnaaDoorSvCat
import Derived.Test.YtpdjeaiojfghnaaDoorRightLaw
import Derived.Laws.StructEq
set_option linter.unusedVariables false
namespace Go.Sv
open Go.RowKit Go.Mem
def pkc (p : Pk) : List Value := [str p.1, .int .i64 (p.2 : Nat)]
def pks (l : List Pk) : List Value := (l.map pkc).flatten
theorem pks_at (l : List Pk) (k j : Nat) (hk : k < l.length) (hj : j < 2) : (pks l)[k * 2 + j]? = (pkc l[k])[j]? :=
  flatten_at (size := 2) (vss := l.map pkc) (fun c hc => by obtain ⟨d, _, rfl⟩ := List.mem_map.1 hc; rfl) (k := k) (c := pkc l[k]) (by rw [List.getElem?_map, List.getElem?_eq_getElem hk]; rfl) j hj
theorem pks_append (a b : List Pk) : pks (a ++ b) = pks a ++ pks b := by simp [pks]
theorem pks_one (p : Pk) : pks [p] = pkc p := by simp [pks]
theorem pks_len (l : List Pk) : (pks l).length = l.length * 2 := by
  induction l with
  | nil => rfl
  | cons d r ih =>
    simp only [pks, List.map_cons, List.flatten_cons, List.length_append] at ih ⊢
    rw [ih]
    simp [pkc]
    omega
theorem pks_ones (l : List Pk) : ∀ u ∈ pks l, u.oneCell' = true := by
  intro u hu
  obtain ⟨c, hc, hu⟩ := List.mem_flatten.1 hu
  obtain ⟨r, _, rfl⟩ := List.mem_map.1 hc
  simp [pkc] at hu
  rcases hu with rfl | rfl <;> rfl
theorem pks_cells {w : World} {D : Nat → Prop} {A : Option Addr} {n : Nat} {l : List Pk} (h : Reads w D 2 A n (pks l)) {k : Nat} (hk : k < n) (hn : n = l.length) :
    ∃ b off, A = some ⟨b, off, none⟩ ∧ D b ∧ w.cell? ⟨b, off + k * 2, none⟩ = some (str (l[k]'(by omega)).1) ∧ w.cell? ⟨b, off + k * 2 + 1, none⟩ = some (.int .i64 ((l[k]'(by omega)).2 : Nat)) := by
  obtain ⟨b, off, e, hD, hc⟩ := h.2 (by omega)
  have hl : k < l.length := by omega
  have h0 := hc (k * 2 + 0) _ (pks_at l k 0 hl (by omega))
  have h1 := hc (k * 2 + 1) _ (pks_at l k 1 hl (by omega))
  exact ⟨b, off, e, hD, h0, by rw [Nat.add_assoc]; exact h1⟩
end Go.Sv
namespace Go.Proofs.YtpdjeaiojfghnaaDoor
open Go.RowKit Go.Mem Go.Sv Go.Maps
theorem equalIn_pick (x y : Nm) (a b : Nat) (W : World) : (Op.equalIn 10000 32 (.agg #[str x, .int .i64 (a : Nat)]) (.agg #[str y, .int .i64 (b : Nat)])).run Tryd.prog W = .ok (decide ((x, a) = (y, b))) W := by
  have hu : Tryd.prog.underlying 32 = some (.struct (Tryd.prog.fieldsOf 32)) := by kernel_rfl
  have hp : Tryd.prog.stoodInHeld 32 = false := by kernel_rfl
  have e2 := run_equalIn_agg (P := Tryd.prog) W 9999 32 #[str x, .int .i64 (a : Nat)] #[str y, .int .i64 (b : Nat)] hu hp
  have hf : (Tryd.prog.fieldsOf 32).toList = [⟨"Name", 9, 0, false, "", "", 0⟩, ⟨"Version", 3, 1, false, "", "", 16⟩] := by kernel_rfl
  rw [hf] at e2
  refine e2.trans ?_
  have hi := Tryd.underlying3
  have hs := Tryd.underlying9
  have p0 : ∀ (x : Nm) (y : Int), (part 9 #[str x, .int .i64 y] 0).run Tryd.prog W = .ok (str x) W := fun x y => by
    unfold part
    simp [isAgg, run_underlying hs]
  have p1 : ∀ (x : Nm) (y : Int), (part 3 #[str x, .int .i64 y] 1).run Tryd.prog W = .ok (.int .i64 y) W := fun x y => by
    unfold part
    simp [isAgg, run_underlying hi]
  have q0 : ∀ x y : Nm, (Op.equalIn 9999 9 (str x) (str y)).run Tryd.prog W = .ok (decide (x = y)) W := fun x y => by
    have := run_equalIn_string (P := Tryd.prog) W 9998 9 ⟨x.toArray⟩ ⟨y.toArray⟩ hs
    have e : ((⟨x.toArray⟩ : ByteArray).toList == (⟨y.toArray⟩ : ByteArray).toList) = decide (x = y) := by
      rw [Bool.eq_iff_iff, beq_iff_eq, decide_eq_true_eq, Lib.toList_data, Lib.toList_data]
    rw [e] at this
    simpa using this
  have q1 : ∀ x y : Int, (Op.equalIn 9999 3 (.int .i64 x) (.int .i64 y)).run Tryd.prog W = .ok (x == y) W := fun x y => by
    have := run_equalIn_int (P := Tryd.prog) W 9998 3 .i64 .i64 x y hi
    simpa using this
  simp only [Op.eqFields]
  by_cases hxy : x = y
  · subst hxy
    by_cases hab : a = b
    · subst hab
      simp [p0, p1, q0, q1, Result.andThen]
    · have hab2 : ((a : Int) == (b : Int)) = false := by simp; omega
      simp [p0, p1, q0, q1, Result.andThen, hab, hab2]
  · simp [p0, q0, Result.andThen, hxy]
theorem eql_pick (x y : Nm) (a b : Nat) (r : Bool) (W : World) (hr : decide ((x, a) = (y, b)) = r) : (binOp .eql 32 (.agg #[str x, .int .i64 (a : Nat)]) (.agg #[str y, .int .i64 (b : Nat)])).run Tryd.prog W = .ok (.bool r) W := by
  rw [run_eql_struct, equalIn_pick, hr]
  rfl
theorem neq_pick (x : Nm) (a : Nat) (W : World) : (binOp .neq 32 (.agg #[str x, .int .i64 (a : Nat)]) (.agg #[str x, .int .i64 (a : Nat)])).run Tryd.prog W = .ok (.bool false) W := by
  rw [run_neq_struct, equalIn_pick, decide_eq_true rfl]
  rfl
set_option maxRecDepth 100000 in
set_option maxHeartbeats 1000000 in
theorem equal_pks (A B : Option Addr) (n c d : Nat) (l : List Pk) (w : World) (hr : Reads w Any 2 A n (pks l)) (hs : Reads w Any 2 B n (pks l)) (hn : n ≤ 1099511627776) (hnl : n = l.length) :
    Calls Tryd.prog 9 #[.slice A n c, .slice B n d] w fun e w' => e = .returned (.bool true) ∧ Below w.heap.size w w' := by
  have Hnl := Lib.hid hnl
  clear hnl
  have ng := neq_pick
  go_enter Tryd.func9, Tryd.ntmps9
  go_wp2_with (fail)
  go_loopw [13] (fun v wr => ∃ j : Nat, j ≤ n ∧ v = .int .i64 j ∧ Below w.heap.size w wr) (fun v _ => n - (intOf v).toNat)
  case atStart => exact ⟨0, Nat.zero_le _, rfl, Below.refl _ _⟩
  case round =>
    obtain ⟨j, hj, rfl, hb⟩ := hrel
    by_cases hlt : j < n
    · obtain ⟨b1, o1, rfl, _, r0, r1⟩ := pks_cells hr hlt Hnl.out
      obtain ⟨b2, o2, rfl, _, s0, s1⟩ := pks_cells hs hlt Hnl.out
      have p0 := (Same.any (D := Any) hb).cell trivial r0
      have p1 := (Same.any (D := Any) hb).cell trivial r1
      have q0 := (Same.any (D := Any) hb).cell trivial s0
      have q1 := (Same.any (D := Any) hb).cell trivial s1
      generalize l[j]'(by have := Hnl.out; omega) = y at p0 p1 q0 q1
      obtain ⟨y0, y1⟩ := y
      simp only at p0 p1 q0 q1
      have ng1 := fun W => ng y0 y1 W
      clear hr hs r0 r1 s0 s1 ng
      go_wp2_with (fail)
      go_quiet (fail)
      go_wp2_with (fail)
      exact ⟨⟨j + 1, by omega, by go_num, ⟨hb.os, hb.tape, hb.output, hb.size, hb.block⟩⟩, by simp [intOf]; omega⟩
    · clear hr hs
      go_wp2_with (fail)
      go_ret
      exact ⟨rfl, hb⟩
set_option maxRecDepth 100000 in
set_option maxHeartbeats 1000000 in
theorem indexPk_any (A : Option Addr) (n c : Nat) (l : List Pk) (p : Pk) (w : World) (hr : Reads w Any 2 A n (pks l)) (hn : n = l.length) (hn1 : n ≤ 1099511627776) :
    Calls Tryd.prog 63 #[.slice A n c, .agg #[str p.1, .int .i64 (p.2 : Nat)]] w fun e w' => ∃ i : Int, e = .returned (.int .i64 i) ∧ decide (0 ≤ i) = decide (p ∈ l) ∧ Below w.heap.size w w' := by
  obtain ⟨x, a⟩ := p
  simp only
  have Hn := Lib.hid hn
  clear hn
  obtain ⟨W0, hW0⟩ : ∃ W, W = w.alloc (.cells #[str x, .int .i64 (a : Nat)] 32) := ⟨_, rfl⟩
  have hbk : Blk W0 w.heap.size 32 [str x, .int .i64 (a : Nat)] := by rw [hW0]; exact Blk.new w _ _
  have hbW : Below w.heap.size w W0 := by rw [hW0]; exact (Below.refl _ _).alloc (Nat.le_refl _) _
  have hrW := hr.keep (Same.any hbW)
  obtain ⟨D, hD⟩ : ∃ D, D = w.heap.size := ⟨_, rfl⟩
  rw [← hD] at hbk
  go_enter Tryd.func63, Tryd.ntmps63
  go_upto_region 1 with (fail)
  have HB := Lib.hid (And.intro hbk hbW)
  rw [← hW0, ← hD]
  have lD0 := hbk.lt
  clear hW0 hr hbW hbk hD
  go_wp2_with (fail)
  go_loopw [8] (fun v wr => ∃ j : Nat, j ≤ n ∧ v = .int .i64 j ∧ Hid ((x, a) ∉ l.take j) ∧ Below W0.heap.size W0 wr) (fun v _ => n - (intOf v).toNat)
  case atStart => exact ⟨0, Nat.zero_le _, rfl, by unfold Hid; simp, Below.refl _ _⟩
  case round =>
    obtain ⟨j, hj, rfl, hno, hb⟩ := hrel
    have bkr := HB.out.1.below hb HB.out.1.lt
    have f0 := bkr.cell 0
    have f1 := bkr.cell 1
    simp only [List.getElem?_cons_zero, List.getElem?_cons_succ] at f0 f1
    have lDr := bkr.lt
    by_cases hlt : j < n
    · obtain ⟨b1, o1, rfl, _, r0, r1⟩ := pks_cells hrW hlt Hn.out
      have p0 := (Same.any (D := Any) hb).cell trivial r0
      have p1 := (Same.any (D := Any) hb).cell trivial r1
      have hl : j < l.length := by have := Hn.out; omega
      have hmem := List.getElem_mem hl
      have htk := List.take_succ_eq_append_getElem hl
      generalize l[j] = y at p0 p1 hmem htk
      obtain ⟨yn, yv⟩ := y
      simp only at p0 p1
      have i1 : (j : Int) < (n : Int) := by omega
      have EQ := fun W r h => eql_pick x yn a yv r W h
      by_cases he : (x, a) = (yn, yv)
      · have EQ1 := fun W => EQ W true (decide_eq_true he)
        have HM := Lib.hid (show (x, a) ∈ l by rw [he]; exact hmem)
        clear hrW r0 r1 EQ he hmem htk hno bkr
        go_wp2_with (fail)
        go_quiet (fail)
        go_wp2_with (fail)
        go_ret
        exact ⟨j, rfl, by rw [decide_eq_true HM.out]; simp, HB.out.2.trans (Below.mono ⟨hb.os, hb.tape, hb.output, hb.size, hb.block⟩ HB.out.2.size)⟩
      · have EQ1 := fun W => EQ W false (decide_eq_false he)
        have HM : Hid ((x, a) ∉ l.take (j + 1)) := by
          unfold Hid
          rw [htk, List.mem_append]
          rintro (h | h)
          · exact hno.out h
          · simp at h; exact he (Prod.ext h.1 h.2)
        clear hrW r0 r1 EQ he hmem htk hno bkr
        go_wp2_with (fail)
        go_quiet (fail)
        go_wp2_with (fail)
        exact ⟨⟨j + 1, by omega, by go_num, HM, ⟨hb.os, hb.tape, hb.output, hb.size, hb.block⟩⟩, by simp [intOf]; omega⟩
    · have HM : Hid ((x, a) ∉ l) := by
        have := hno.out
        rwa [List.take_of_length_le (by have := Hn.out; omega)] at this
      clear hrW hno bkr
      go_wp2_with (fail)
      go_ret
      exact ⟨-1, rfl, by rw [decide_eq_false HM.out]; rfl, HB.out.2.trans (hb.mono HB.out.2.size)⟩
set_option maxRecDepth 100000 in
theorem containsPk_any (A : Option Addr) (n c : Nat) (l : List Pk) (p : Pk) (r : Bool) (w : World) (hr : Reads w Any 2 A n (pks l)) (hn : n = l.length) (hn1 : n ≤ 1099511627776) (hp : decide (p ∈ l) = r) :
    Calls Tryd.prog 45 #[.slice A n c, .agg #[str p.1, .int .i64 (p.2 : Nat)]] w fun e w' => e = .returned (.bool r) ∧ Below w.heap.size w w' := by
  have hbW : Below w.heap.size w (w.alloc (.cells #[str p.1, .int .i64 (p.2 : Nat)] 32)) := (Below.refl _ _).alloc (Nat.le_refl _) _
  have IX := Lib.hid (indexPk_any A n c l p _ (hr.keep (Same.any hbW)) hn hn1)
  have HB := Lib.hid hbW
  have HP := Lib.hid hp
  clear hr hn hbW hp
  obtain ⟨x, a⟩ := p
  simp only at IX HB ⊢
  go_enter Tryd.func45, Tryd.ntmps45
  go_wp2_with (fail)
  refine IX.out.mono ?_
  rintro e w' ⟨i, rfl, hi, hb⟩
  have Hi := Lib.hid hi
  clear hi
  go_wp2_with (fail)
  go_ret
  exact ⟨by rw [← HP.out, ← Hi.out]; rfl, HB.out.trans (hb.mono HB.out.size)⟩
end Go.Proofs.YtpdjeaiojfghnaaDoor
