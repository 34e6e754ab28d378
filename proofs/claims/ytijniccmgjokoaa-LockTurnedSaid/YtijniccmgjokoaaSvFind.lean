/- Contracts of slices.IndexFunc at picks and at modules. -/
import Derived.Test.YtijniccmgjokoaaSvCand
set_option linter.unusedVariables false
namespace Go.Sv
/-- where the first is that p holds of -/
def FoundAt {α : Type} (l : List α) (p : α → Bool) (i : Int) : Prop := (l.find? p = none ∧ i = -1) ∨ ∃ (j : Nat) (h : j < l.length), i = j ∧ l.find? p = some l[j]
theorem find_take {α : Type} {l : List α} {p : α → Bool} {j : Nat} (h : j < l.length) (hn : (l.take j).find? p = none) : (p l[j] = true → l.find? p = some l[j]) ∧ (p l[j] = false → (l.take (j + 1)).find? p = none) := by
  constructor
  · intro hp
    have e1 : l = l.take j ++ l[j] :: l.drop (j + 1) := by rw [← List.drop_eq_getElem_cons h, List.take_append_drop]
    have e2 : l.find? p = (l.take j ++ l[j] :: l.drop (j + 1)).find? p := by rw [← e1]
    rw [e2, List.find?_append, hn, List.find?_cons, hp]
    rfl
  · intro hp
    rw [List.take_succ_eq_append_getElem h, List.find?_append, hn]
    simp [hp]
end Go.Sv
namespace Go.Proofs.Ytijniccmgjokoaa
open Go.RowKit Go.Mem Go.Sv
set_option maxRecDepth 100000 in
set_option maxHeartbeats 1000000 in
theorem indexFuncP_any (A : Option Addr) (n c : Nat) (l : List Pk) (p : Pk → Bool) (g : Nat) (cb : Array Value) (w : World) (hr : Reads w Any 2 A n (pks l)) (hn : n = l.length) (hn1 : n ≤ 1099511627776)
    (eg : ∀ args w, (callFunc g args).run Try.prog w = .ok (.enter g args) w)
    (hp : ∀ r ∈ l, ∀ W, Below w.heap.size w W → Calls Try.prog g (#[.agg #[str r.1, .int .i64 (r.2 : Nat)]] ++ cb) W fun e w' => e = .returned (.bool (p r)) ∧ Below W.heap.size W w') :
    Calls Try.prog 35 #[.slice A n c, .func (.func g) #[] cb] w fun e w' => ∃ i : Int, e = .returned (.int .i64 i) ∧ FoundAt l p i ∧ Below w.heap.size w w' := by
  have Hn := Lib.hid hn
  have H := Lib.hid hp
  clear hn hp
  go_enter Try.func35, Try.ntmps35
  go_wp2_with (fail)
  go_loopw [8] (fun v wr => ∃ j : Nat, j ≤ n ∧ v = .int .i64 j ∧ Hid ((l.take j).find? p = none) ∧ Below w.heap.size w wr) (fun v _ => n - (intOf v).toNat)
  case atStart => exact ⟨0, Nat.zero_le _, rfl, rfl, Below.refl _ _⟩
  case round =>
    obtain ⟨j, hj, rfl, hno, hb⟩ := hrel
    by_cases hlt : j < n
    · obtain ⟨b1, o1, rfl, _, r0, r1⟩ := pks_cells hr hlt Hn.out
      have p0 := (Same.any (D := Any) hb).cell trivial r0
      have p1 := (Same.any (D := Any) hb).cell trivial r1
      have hl : j < l.length := by have := Hn.out; omega
      have R1 := Lib.hid (H.out l[j] (List.getElem_mem hl) wr hb)
      have HF := Lib.hid (find_take hl hno.out)
      have HJ := Lib.hid hl
      generalize hy : l[j] = y at p0 p1 R1 HF
      obtain ⟨yn, yv⟩ := y
      simp only at p0 p1 R1
      generalize hq : p (yn, yv) = q at R1 HF
      have HB := Lib.hid hb
      have HY := Lib.hid hy
      clear r0 r1 hr hno hb hl hy hq
      cases q
      · go_wp2_with (go_at_fn g; refine R1.out.mono ?_; rintro e w2 ⟨rfl, hb2⟩)
        have HB2 := HB.out.trans (hb2.mono HB.out.size)
        exact ⟨⟨j + 1, by omega, by go_num, HF.out.2 (by simp), ⟨HB2.os, HB2.tape, HB2.output, HB2.size, HB2.block⟩⟩, by simp [intOf]; omega⟩
      · go_wp2_with (go_at_fn g; refine R1.out.mono ?_; rintro e w2 ⟨rfl, hb2⟩)
        have HB2 := HB.out.trans (hb2.mono HB.out.size)
        go_ret
        exact ⟨j, rfl, .inr ⟨j, HJ.out, rfl, (HF.out.1 (by simp)).trans (congrArg some HY.out.symm)⟩, HB2⟩
    · have hall : l.find? p = none := by
        have := hno.out
        rwa [List.take_of_length_le (by have := Hn.out; omega)] at this
      have Ht := Lib.hid hall
      clear hr hno hall
      go_wp2_with (fail)
      go_ret
      exact ⟨-1, rfl, .inl ⟨Ht.out, rfl⟩, hb⟩
set_option maxRecDepth 100000 in
set_option maxHeartbeats 1000000 in
theorem indexFuncM_any (A : Option Addr) (n c : Nat) (l : List Md) (p : Md → Bool) (g : Nat) (cb : Array Value) (w : World) (hr : MdsAt w Any A n c l) (hn1 : n ≤ 1099511627776)
    (eg : ∀ args w, (callFunc g args).run Try.prog w = .ok (.enter g args) w)
    (hp : ∀ r ∈ l, ∀ B m d W, Below w.heap.size w W → Calls Try.prog g (#[.agg #[str r.name, .int .i64 (r.ver : Nat), .slice B m d]] ++ cb) W fun e w' => e = .returned (.bool (p r)) ∧ Below W.heap.size W w') :
    Calls Try.prog 37 #[.slice A n c, .func (.func g) #[] cb] w fun e w' => ∃ i : Int, e = .returned (.int .i64 i) ∧ FoundAt l p i ∧ Below w.heap.size w w' := by
  have Hn := Lib.hid (show n = l.length by obtain ⟨_, h1, _⟩ := hr; exact h1)
  have H := Lib.hid hp
  clear hp
  go_enter Try.func37, Try.ntmps37
  go_wp2_with (fail)
  go_loopw [8] (fun v wr => ∃ j : Nat, j ≤ n ∧ v = .int .i64 j ∧ Hid ((l.take j).find? p = none) ∧ Below w.heap.size w wr) (fun v _ => n - (intOf v).toNat)
  case atStart => exact ⟨0, Nat.zero_le _, rfl, rfl, Below.refl _ _⟩
  case round =>
    obtain ⟨j, hj, rfl, hno, hb⟩ := hrel
    by_cases hlt : j < n
    · have hl : j < l.length := by have := Hn.out; omega
      obtain ⟨b1, o1, Au, nu, cu, rfl, _, p0, p1, p2, hr9⟩ := (hr.keep (Same.any hb)).cells hlt hl
      clear hr9
      have R1 := Lib.hid (H.out l[j] (List.getElem_mem hl) Au nu cu wr hb)
      have HF := Lib.hid (find_take hl hno.out)
      have HJ := Lib.hid hl
      generalize hy : l[j] = y at p0 p1 R1 HF
      obtain ⟨yn, yv, yu⟩ := y
      simp only at p0 p1 R1
      generalize hq : p ⟨yn, yv, yu⟩ = q at R1 HF
      have HB := Lib.hid hb
      have HY := Lib.hid hy
      clear hr hno hb hl hy hq
      cases q
      · go_wp2_with (go_at_fn g; refine R1.out.mono ?_; rintro e w2 ⟨rfl, hb2⟩)
        have HB2 := HB.out.trans (hb2.mono HB.out.size)
        exact ⟨⟨j + 1, by omega, by go_num, HF.out.2 (by simp), ⟨HB2.os, HB2.tape, HB2.output, HB2.size, HB2.block⟩⟩, by simp [intOf]; omega⟩
      · go_wp2_with (go_at_fn g; refine R1.out.mono ?_; rintro e w2 ⟨rfl, hb2⟩)
        have HB2 := HB.out.trans (hb2.mono HB.out.size)
        go_ret
        exact ⟨j, rfl, .inr ⟨j, HJ.out, rfl, (HF.out.1 (by simp)).trans (congrArg some HY.out.symm)⟩, HB2⟩
    · have hall : l.find? p = none := by
        have := hno.out
        rwa [List.take_of_length_le (by have := Hn.out; omega)] at this
      have Ht := Lib.hid hall
      clear hr hno hall
      go_wp2_with (fail)
      go_ret
      exact ⟨-1, rfl, .inl ⟨Ht.out, rfl⟩, hb⟩
end Go.Proofs.Ytijniccmgjokoaa
