/- Contracts of version.Check at a set, of slices.IndexFunc and ContainsFunc at ranges, of version.In. -/
import Derived.Test.YtcmohbeibnfpaaaDoorVerMem
import Derived.Outline
import Derived.Shelf.Abstract
set_option linter.unusedVariables false
namespace Go.Proofs.YtcmohbeibnfpaaaDoor
open Go.RowKit Go.Mem Go.Ver
set_option maxRecDepth 100000 in
set_option maxHeartbeats 1000000 in
theorem check_any (A : Option Addr) (n c : Nat) (l : List Rg) (w : World) (hr : Reads w Any 2 A n (rgs l)) (hn : n = l.length) (h : Ok l) (h50 : n ≤ 50) :
    Calls Tryd.prog 12 #[.slice A n c] w fun e w' => e = .returned (.int .i64 0) ∧ Below w.heap.size w w' := by
  have Hn := Lib.hid hn
  have H := Lib.hid h
  clear hn h
  go_enter Tryd.func12, Tryd.ntmps12
  go_wp2_with (fail)
  go_loopw [10] (fun v wr => ∃ j : Nat, j ≤ n ∧ v = .int .i64 j ∧ Below w.heap.size w wr) (fun v _ => n - (intOf v).toNat)
  case atStart => exact ⟨0, Nat.zero_le _, rfl, Below.refl _ _⟩
  case round =>
    obtain ⟨j, hj, rfl, hb⟩ := hrel
    by_cases hlt : j < n
    · obtain ⟨b1, o1, rfl, _, r0, r1⟩ := rgs_cells hr hlt Hn.out
      have p0 := (Same.any (D := Any) hb).cell trivial r0
      have p1 := (Same.any (D := Any) hb).cell trivial r1
      have hl : j < l.length := by have := Hn.out; omega
      have R1 := fun W => Lib.hid (right_any l[j] W (H.out.1 _ (List.getElem_mem hl)))
      obtain ⟨y, hy⟩ : ∃ y, y = l[j] := ⟨_, rfl⟩
      rw [← hy] at R1 p0 p1
      have Hy := Lib.hid hy
      clear hy r0 r1
      have hB0 : Below w.heap.size w (wr.alloc (.cells #[.int .i64 (y.1 : Nat), .int .i64 (y.2 : Nat)] 34)) := hb.alloc hb.size _
      by_cases h0 : j = 0
      · subst h0
        have HB := Lib.hid hB0
        simp only [Nat.zero_mul, Nat.add_zero] at p0 p1
        clear hr hB0
        go_wp2_with (fail)
        refine (R1 _).out.mono ?_
        rintro e w2 ⟨rfl, hb2⟩
        have HB2 := Lib.hid (HB.out.trans (hb2.mono HB.out.size))
        have g := hb2.cell (p := ⟨wr.heap.size, 0, none⟩) (by simp)
        go_wp2_with (fail)
        go_quiet (fail)
        go_wp2_with (fail)
        exact ⟨⟨1, by omega, by go_num, ⟨HB2.out.os, HB2.out.tape, HB2.out.output, HB2.out.size, HB2.out.block⟩⟩, by simp [intOf]; omega⟩
      · obtain ⟨m, rfl⟩ : ∃ m, j = m + 1 := ⟨j - 1, by omega⟩
        obtain ⟨b2, o2, e2, _, _, s1⟩ := rgs_cells hr (show m < n by omega) Hn.out
        injection e2 with e2
        injection e2 with e3 e4
        subst e3 e4
        have hl' : m < l.length := by omega
        have hgap : l[m].2 + 1 < y.1 := by
          rw [Hy.out]
          exact List.pairwise_iff_getElem.1 H.out.2 m (m + 1) hl' hl (by omega)
        have hle : l[m].2 ≤ 9999 := (H.out.1 _ (List.getElem_mem hl')).2.1
        generalize l[m] = x at s1 hgap hle
        have g1 : decide (((m + 1 : Nat) : Int) > 0) = true := decide_eq_true (by omega)
        have g2 : decide ((y.1 : Int) ≤ (x.2 : Int) + 1) = false := by simp; omega
        have e6 : IntKind.i64.wrap ((m : Int) + 1 - 1) = (m : Int) := (IntWalk.i64_in _ (by omega)).trans (by omega)
        have e7 : IntKind.i64.wrap (m : Int) = (m : Int) := IntWalk.i64_in _ (by omega)
        have HB := Lib.hid hB0
        have S1 := Lib.hid s1
        clear hr hB0 s1
        go_wp2_with (fail)
        refine (R1 _).out.mono ?_
        rintro e w2 ⟨rfl, hb2⟩
        have HB2 := Lib.hid (HB.out.trans (hb2.mono HB.out.size))
        have q0 : w2.cell? ⟨wr.heap.size, 0, none⟩ = some (.int .i64 (y.1 : Nat)) := by
          rw [hb2.cell (by simp)]
          exact ((Blk.new wr 34 [.int .i64 (y.1 : Nat), .int .i64 (y.2 : Nat)]).cell 0)
        have q1 := (Same.any (D := Any) HB2.out).cell trivial S1.out
        go_wp2_with (fail)
        go_quiet (fail)
        go_wp2_with (fail)
        exact ⟨⟨m + 2, by omega, by go_num, ⟨HB2.out.os, HB2.out.tape, HB2.out.output, HB2.out.size, HB2.out.block⟩⟩, by simp [intOf]; omega⟩
    · clear hr
      go_wp2_with (fail)
      go_ret
      exact ⟨rfl, hb⟩

/-- slices.IndexFunc at a function that says p of each element -/
def IxPost (w : World) (l : List Rg) (p : Rg → Bool) : Ending → World → Prop := fun e w' => ∃ i : Int, e = .returned (.int .i64 i) ∧ decide (0 ≤ i) = l.any p ∧ Below w.heap.size w w'
set_option maxRecDepth 100000 in
set_option maxHeartbeats 1000000 in
theorem indexFunc_any (A : Option Addr) (n c : Nat) (l : List Rg) (p : Rg → Bool) (g : Nat) (cb : Array Value) (w : World) (hr : Reads w Any 2 A n (rgs l)) (hn : n = l.length) (hn1 : n ≤ 1099511627776)
    (eg : ∀ args w, (callFunc g args).run Tryd.prog w = .ok (.enter g args) w)
    (hp : ∀ r ∈ l, ∀ W, Below w.heap.size w W → Calls Tryd.prog g (#[.agg #[.int .i64 (r.1 : Nat), .int .i64 (r.2 : Nat)]] ++ cb) W fun e w' => e = .returned (.bool (p r)) ∧ Below W.heap.size W w') :
    Calls Tryd.prog 34 #[.slice A n c, .func (.func g) #[] cb] w (IxPost w l p) := by
  have Hn := Lib.hid hn
  have H := Lib.hid hp
  clear hn hp
  unfold IxPost
  go_enter Tryd.func34, Tryd.ntmps34
  go_wp2_with (fail)
  go_loopw [8] (fun v wr => ∃ j : Nat, j ≤ n ∧ v = .int .i64 j ∧ Hid ((l.take j).any p = false) ∧ Below w.heap.size w wr) (fun v _ => n - (intOf v).toNat)
  case atStart => exact ⟨0, Nat.zero_le _, rfl, rfl, Below.refl _ _⟩
  case round =>
    obtain ⟨j, hj, rfl, hno, hb⟩ := hrel
    by_cases hlt : j < n
    · obtain ⟨b1, o1, rfl, _, r0, r1⟩ := rgs_cells hr hlt Hn.out
      have p0 := (Same.any (D := Any) hb).cell trivial r0
      have p1 := (Same.any (D := Any) hb).cell trivial r1
      have hl : j < l.length := by have := Hn.out; omega
      have R1 := Lib.hid (H.out l[j] (List.getElem_mem hl) wr hb)
      have ht : (l.take (j + 1)).any p = ((l.take j).any p || p l[j]) := by rw [List.take_succ_eq_append_getElem hl, List.any_append]; simp
      have hall : l.any p = ((l.take j).any p || (l.drop j).any p) := by rw [← List.any_append, List.take_append_drop]
      have hdr : (l.drop j).any p = (p l[j] || (l.drop (j + 1)).any p) := by
        have h := List.drop_eq_getElem_cons hl
        rw [h, List.any_cons]
      generalize l[j] = y at p0 p1 R1 ht hdr
      rw [hno.out] at ht hall
      rw [hdr] at hall
      generalize p y = q at R1 ht hall
      have HB := Lib.hid hb
      clear r0 r1 hr hno hdr hb
      cases q
      · have Ht := Lib.hid ht
        clear ht hall
        go_wp2_with (go_at_fn g; refine R1.out.mono ?_; rintro e w2 ⟨rfl, hb2⟩)
        have HB2 := HB.out.trans (hb2.mono HB.out.size)
        exact ⟨⟨j + 1, by omega, by go_num, Ht.out, ⟨HB2.os, HB2.tape, HB2.output, HB2.size, HB2.block⟩⟩, by simp [intOf]; omega⟩
      · have Ht := Lib.hid hall
        clear ht hall
        go_wp2_with (go_at_fn g; refine R1.out.mono ?_; rintro e w2 ⟨rfl, hb2⟩)
        have HB2 := HB.out.trans (hb2.mono HB.out.size)
        go_ret
        exact ⟨j, rfl, by rw [Ht.out]; simp, HB2⟩
    · have hall : l.any p = false := by
        have := hno.out
        rwa [List.take_of_length_le (by have := Hn.out; omega)] at this
      have Ht := Lib.hid hall
      clear hr hno hall
      go_wp2_with (fail)
      go_ret
      exact ⟨-1, rfl, by rw [Ht.out]; rfl, hb⟩
set_option maxRecDepth 100000 in
theorem containsFunc_any (A : Option Addr) (n c : Nat) (l : List Rg) (p : Rg → Bool) (g : Nat) (cb : Array Value) (w : World) (hr : Reads w Any 2 A n (rgs l)) (hn : n = l.length) (hn1 : n ≤ 1099511627776)
    (eg : ∀ args w, (callFunc g args).run Tryd.prog w = .ok (.enter g args) w)
    (hp : ∀ r ∈ l, ∀ W, Below w.heap.size w W → Calls Tryd.prog g (#[.agg #[.int .i64 (r.1 : Nat), .int .i64 (r.2 : Nat)]] ++ cb) W fun e w' => e = .returned (.bool (p r)) ∧ Below W.heap.size W w') :
    Calls Tryd.prog 18 #[.slice A n c, .func (.func g) #[] cb] w fun e w' => e = .returned (.bool (l.any p)) ∧ Below w.heap.size w w' := by
  have ix := indexFunc_any A n c l p g cb w hr hn hn1 eg hp
  unfold IxPost at ix
  generalize l.any p = q at ix ⊢
  have IX := Lib.hid ix
  clear hr hn hp eg ix
  go_enter Tryd.func18, Tryd.ntmps18
  go_wp2_with (fail)
  refine IX.out.mono ?_
  rintro e w' ⟨i, rfl, hi, hb⟩
  have Hi := Lib.hid hi
  clear hi
  go_wp2_with (fail)
  go_ret
  exact ⟨by rw [← Hi.out]; rfl, hb⟩

theorem in1_any (r : Rg) (v P : Nat) (w : World) (hP : w.cell? ⟨P, 0, none⟩ = some (.int .i64 (v : Nat))) (lP : P < w.heap.size) :
    Calls Tryd.prog 19 #[.agg #[.int .i64 (r.1 : Nat), .int .i64 (r.2 : Nat)], .pointer (some ⟨P, 0, none⟩)] w fun e w' => e = .returned (.bool (decide (r.1 ≤ v) && decide (v ≤ r.2))) ∧ Below w.heap.size w w' := by
  obtain ⟨a, b⟩ := r
  simp only
  have hB : Below w.heap.size w (w.alloc (.cells #[.int .i64 (a : Nat), .int .i64 (b : Nat)] 34)) := (Below.refl _ _).alloc (Nat.le_refl _) _
  have HB := Lib.hid hB
  clear hB
  by_cases h1 : a ≤ v
  · have g1 : decide ((a : Int) ≤ v) = true := by simp; omega
    by_cases h2 : v ≤ b
    · have g2 : decide ((v : Int) ≤ b) = true := by simp; omega
      go_enter Tryd.func19, Tryd.ntmps19
      go_wp2_with (fail)
      go_ret
      exact ⟨by simp [h1, h2], HB.out⟩
    · have g2 : decide ((v : Int) ≤ b) = false := by simp; omega
      go_enter Tryd.func19, Tryd.ntmps19
      go_wp2_with (fail)
      go_ret
      exact ⟨by simp [h1, h2], HB.out⟩
  · have g1 : decide ((a : Int) ≤ v) = false := by simp; omega
    go_enter Tryd.func19, Tryd.ntmps19
    go_wp2_with (fail)
    go_ret
    exact ⟨by simp [h1], HB.out⟩
set_option maxRecDepth 100000 in
theorem in_any (A : Option Addr) (n c : Nat) (l : List Rg) (v : Nat) (w : World) (hr : Reads w Any 2 A n (rgs l)) (hn : n = l.length) (hn1 : n ≤ 1099511627776) :
    Calls Tryd.prog 9 #[.slice A n c, .int .i64 (v : Nat)] w fun e w' => e = .returned (.bool (inB l v)) ∧ Below w.heap.size w w' := by
  have eg : ∀ args w, (callFunc 19 args).run Tryd.prog w = .ok (.enter 19 args) w := enters_of Tryd.func19 (by kernel_rfl) rfl
  have hW : Below w.heap.size w (w.alloc (.cells #[.int .i64 (v : Nat)] 3)) := (Below.refl _ _).alloc (Nat.le_refl _) _
  have hc : (w.alloc (.cells #[.int .i64 (v : Nat)] 3)).cell? ⟨w.heap.size, 0, none⟩ = some (.int .i64 (v : Nat)) := (Blk.new w 3 [.int .i64 (v : Nat)]).cell 0
  have C := Lib.hid (containsFunc_any A n c l (fun r => decide (r.1 ≤ v) && decide (v ≤ r.2)) 19 #[.pointer (some ⟨w.heap.size, 0, none⟩)] _ (hr.keep (Same.any hW)) hn hn1 eg fun r _ W hb =>
    in1_any r v w.heap.size W ((hb.cell (by simp)).trans hc) (by have := hb.size; simp at this; omega))
  have HW := Lib.hid hW
  clear hr hn hW hc eg
  unfold inB
  generalize l.any (fun r => decide (r.1 ≤ v) && decide (v ≤ r.2)) = q at C ⊢
  go_enter Tryd.func9, Tryd.ntmps9
  go_wp2_with (fail)
  refine C.out.mono ?_
  rintro e w' ⟨rfl, hb⟩
  go_wp2_with (fail)
  go_ret
  exact ⟨rfl, HW.out.trans (hb.mono HW.out.size)⟩
end Go.Proofs.YtcmohbeibnfpaaaDoor
