/- Contracts of slices.Grow of nil and slices.Concat of two, IndexFunc and ContainsFunc at wants; a row of wants of the call's own. -/
import Derived.Test.YtpdjeaiojfghnaaDoorSvMem
import Derived.Shelf.Abstract
import Derived.Lib.AppendZerosOnto
import Derived.Lib.Walk
import Derived.Lib.SliceRun
set_option linter.unusedVariables false
namespace Go.Proofs.YtpdjeaiojfghnaaDoor
open Go.RowKit Go.Mem Go.Sv
/-- a slice of wants -/
def HoldsU (w : World) (l : List Us) (A : Option Addr) (c : Nat) : Prop := l.length ≤ c ∧ c ≤ maxLen ∧ Reads w Any 3 A l.length (uss l)
theorem info_us : (Tryd.prog.info? 56).map (fun i => (i.zero, i.size, i.bytes)) = some (some (.agg #[.string ⟨#[]⟩, .int .i64 0, .int .i64 0]), 3, 32) := by kernel_rfl
/-- append of wants onto a row of the call's own -/
theorem app_us (w : World) {ops : Array Oper} {rest : List Oper} {o : Oper} {a : Act} {Q : Exit → Act → World → Prop} (hgd : o.guard = none) (s x : Operand)
    (ho : o.op = .call { callee := .builtin .append, args := #[s, x], argTypes := #[29, 29] })
    {base : Nat} {v : Value} {n : Nat} {xs : List Value} (hown : w.ownsRow base 56 3 v n xs) (hs : a.eval s = v)
    {D : Nat → Prop} {A : Option Addr} {m : Nat} {news : List Value} (hr : Reads w D 3 A m news) {c : Nat} (hx : a.eval x = .slice A m c) (h1 : ∀ u ∈ news, u.oneCell' = true)
    (h63 : n + m ≤ 1099511627776) (hbase : base ≤ w.heap.size)
    (h : ∀ v' w', w'.ownsRow base 56 3 v' (n + m) (xs ++ news) → w.grownBy w' v.ownBlock → (v'.ownBlock = v.ownBlock ∨ v'.ownBlock = some w.heap.size) → wpList Tryd.prog ops Q rest (a.put o.dst v') w') : wpList Tryd.prog ops Q (o :: rest) a w := by
  obtain ⟨i0, hi0, hz0, hz1, hz2⟩ := info_parts info_us
  exact wpList_append_any w hgd s x _ ho base _ i0 _ 3 32 Tryd.underlying29 hi0 hz0 hz1 hz2 rfl (by omega) v n xs hs hown D A m c news hx hr h1 (by simp only [maxLen]; omega) (by omega) hbase h
/-- a row of the call's own that holds wants -/
def OwnU (w0 w : World) (l : List Us) (A : Option Addr) (c : Nat) : Prop := w.ownsRow w0.heap.size 56 3 (.slice A l.length c) l.length (uss l) ∧ Below w0.heap.size w0 w
theorem OwnU.nil (w : World) : OwnU w w [] none 0 := ⟨World.ownsRow_nil _ _ _ _, Below.refl _ _⟩
theorem OwnU.holds {w0 w : World} {l : List Us} {A : Option Addr} {c : Nat} (h : OwnU w0 w l A c) : HoldsU w l A c := by
  obtain ⟨h1, h2, h3⟩ := own_reads (by omega) h.1
  exact ⟨h1, h2, h3.imp (by omega) fun _ _ _ => trivial⟩
set_option maxRecDepth 100000 in
set_option maxHeartbeats 1000000 in
theorem grow_any (n : Nat) (w : World) (hn : n ≤ 1099511627776) :
    Calls Tryd.prog 46 #[.slice none 0 0, .int .i64 (n : Nat)] w fun e w' => ∃ A c, e = .returned (.slice A 0 c) ∧ OwnU w w' [] A c := by
  by_cases h0 : n = 0
  · subst h0
    go_enter Tryd.func46, Tryd.ntmps46
    go_wp2
    go_ret
    exact ⟨none, 0, rfl, OwnU.nil w⟩
  · obtain ⟨i0, hi0, hz0, hz1, hz2⟩ := info_parts info_us
    have hrz : ∀ ty, (Builtin.append_ #[29, 3] ty #[.slice none 0 0, .int .i64 (n : Nat)]).run Tryd.prog w = .ok (.slice (some ⟨w.heap.size, 0, none⟩) n (grownCap w n 0 56))
        (w.drew.alloc (.cells (#[] ++ Builtin.zeroCells (Value.agg #[.string ⟨#[]⟩, .int .i64 0, .int .i64 0]).cells n ++ Builtin.zeroCells (Value.agg #[.string ⟨#[]⟩, .int .i64 0, .int .i64 0]).cells (grownCap w n 0 56 - n)) 56)) := fun ty => by
      have h := Lib.run_append_grow_zeros w 29 3 ty 56 i0 _ .i64 .i64 Tryd.underlying29 Tryd.underlying3 hi0 hz0 none 0 0 [] (by exact run_firstCells_none w.drew i0.size 0 0 0) n (by omega) (by omega) (by omega) (by omega) (by rw [hz2]; omega) (growslice_fits (by omega) (by rw [hz2]; omega))
      simpa using h
    have hGn := grownCap_ge w n 0 56
    have hGm := grownCap_le_maxLen w n 0 56 (by unfold maxLen; omega)
    generalize grownCap w n 0 56 = G at hrz hGn hGm
    have hG63 : G ≤ 9223372036854775807 := by unfold maxLen at hGm; omega
    go_enter Tryd.func46, Tryd.ntmps46
    go_wp2_with (at_builtin; refine Lib.wpList_append_run _ rfl _ _ _ _ rfl _ _ rfl rfl _ _ (hrz _) ?_)
    all_goals go_ret
    refine ⟨_, _, rfl, ⟨rfl, .inr ⟨w.heap.size, G, _, rfl, Nat.le_refl _, heap_alloc_new _ _, Nat.zero_le _, hGm, ?_, rfl⟩⟩, ?_⟩
    · rw [Array.size_append, size_zeroCells, size_zeroCells]
      simp only [List.size_toArray, List.length_cons, List.length_nil]
      omega
    · exact ⟨rfl, rfl, rfl, by simp [World.drew], fun b hb => Below.heap_alloc w _ b hb⟩
theorem OwnU.app2 {w0 w w' : World} {l r : List Us} {A A' : Option Addr} {c c' : Nat} (h : OwnU w0 w l A c) (hown : w'.ownsRow w0.heap.size 56 3 (.slice A' (l.length + r.length) c') (l.length + r.length) (uss l ++ uss r)) (hg : w.grownBy w' (Value.slice A l.length c).ownBlock) : OwnU w0 w' (l ++ r) A' c' := by
  refine ⟨?_, h.2.grown hg h.2.size fun k hk => (h.1.lt k hk).1⟩
  rw [uss_append]
  simpa using hown
set_option maxRecDepth 100000 in
set_option maxHeartbeats 1000000 in
theorem concat_any (g : Nat) (A B : Option Addr) (n c m d : Nat) (a b : List Us) (w : World) (h0 : w.cell? ⟨g, 0, none⟩ = some (.slice A n c)) (h1 : w.cell? ⟨g, 1, none⟩ = some (.slice B m d)) (lg : g < w.heap.size) (hr : Reads w Any 3 A n (uss a)) (hn : n = a.length) (hs : Reads w Any 3 B m (uss b)) (hm : m = b.length) (h50 : n + m ≤ 1000) :
    Calls Tryd.prog 31 #[.slice (some ⟨g, 0, none⟩) 2 2] w fun e w' => ∃ A c, e = .returned (.slice A (a ++ b).length c) ∧ OwnU w w' (a ++ b) A c := by
  have Hn := Lib.hid hn
  have Hm := Lib.hid hm
  have HR := Lib.hid hr
  have HS := Lib.hid hs
  have w1 : IntKind.i64.wrap ((n : Int) + (m : Int)) = ((n + m : Nat) : Int) := (IntWalk.i64_in _ (by omega)).trans (by omega)
  have gg := fun W => grow_any (n + m) W (by omega)
  rw [Int.natCast_add] at gg
  have G := Lib.hid gg
  clear gg
  clear hr hn hs hm
  go_enter Tryd.func31, Tryd.ntmps31
  go_wp2_with (fail)
  refine wp_loop_rounds 3 ?_
  rw [rounds_succ]
  go_wp2_with (fail)
  rw [rounds_succ]
  go_wp2_with (fail)
  rw [rounds_succ]
  go_wp2_with (fail)
  refine (G.out w).mono ?_
  rintro e w1 ⟨A1, c1, rfl, hO1⟩
  have HO1 := Lib.hid hO1
  have hb := hO1.2
  have HR1 := Lib.hid (HR.out.keep (Same.any hb))
  have q0 := (hb.cell (p := ⟨g, 0, none⟩) lg).trans h0
  have q1 := (hb.cell (p := ⟨g, 1, none⟩) lg).trans h1
  have lg1 : g < w1.heap.size := by have := hb.size; omega
  have hbs := hb.size
  clear hO1 hb h0 h1 HR G
  go_wp2_with (fail)
  refine wp_loop_rounds 3 ?_
  rw [rounds_succ]
  go_wp2_with (at_builtin; refine app_us _ rfl (.tmp 31) (.tmp 32) rfl (n := 0) (xs := []) HO1.out.1 rfl HR1.out rfl (uss_ones a) (by omega) (by omega) ?_; intro v2 w2 hown2 hg2 hat2; rw [Nat.zero_add, List.nil_append] at hown2; obtain ⟨A9, c9, rfl, _⟩ := own_form hown2; have hb2 := HO1.out.2.grown hg2 HO1.out.2.size (fun k hk => (HO1.out.1.lt k hk).1); have hne : some g ≠ (Value.slice A1 0 c1).ownBlock := fun e => (by have := (HO1.out.1.lt _ e.symm).1; omega); have q1' := hg2.cell q1 hne; have HO2 := Lib.hid hown2; have HS2 := Lib.hid (HS.out.keep (Same.any hb2)); have HB2 := Lib.hid hb2; have lg2 : g < w2.heap.size := lt_of_cell q1'; have hbs2 := hb2.size; clear hown2 hg2 hat2 hb2)
  rw [rounds_succ]
  go_wp2_with (at_builtin; refine app_us _ rfl (.tmp 31) (.tmp 32) rfl HO2.out rfl HS2.out rfl (uss_ones b) (by omega) (by omega) ?_; intro v3 w3 hown3 hg3 hat3; obtain ⟨A8, c8, rfl, _⟩ := own_form hown3; have HO3 := Lib.hid hown3; have HB3 := Lib.hid (HB2.out.grown hg3 HB2.out.size (fun k hk => (HO2.out.lt k hk).1)); clear hown3 hg3 hat3)
  rw [rounds_succ]
  go_wp2_with (fail)
  go_ret
  have hl : n + m = (a ++ b).length := by rw [List.length_append, Hn.out, Hm.out]
  have h4 := HO3.out
  rw [← uss_append, hl] at h4
  exact ⟨A8, c8, by rw [← hl]; rfl, h4, HB3.out⟩
/-- slices.IndexFunc at a function that says p of each element -/
def IxPost (w : World) (l : List Us) (p : Us → Bool) : Ending → World → Prop := fun e w' => ∃ i : Int, e = .returned (.int .i64 i) ∧ decide (0 ≤ i) = l.any p ∧ Below w.heap.size w w'
set_option maxRecDepth 100000 in
set_option maxHeartbeats 1000000 in
theorem indexFunc_any (A : Option Addr) (n c : Nat) (l : List Us) (p : Us → Bool) (g : Nat) (cb : Array Value) (w : World) (hr : Reads w Any 3 A n (uss l)) (hn : n = l.length) (hn1 : n ≤ 1099511627776)
    (eg : ∀ args w, (callFunc g args).run Tryd.prog w = .ok (.enter g args) w)
    (hp : ∀ r ∈ l, ∀ W, Below w.heap.size w W → Calls Tryd.prog g (#[.agg #[str r.name, .int .i64 (r.low : Nat), .int .i64 (r.high : Nat)]] ++ cb) W fun e w' => e = .returned (.bool (p r)) ∧ Below W.heap.size W w') :
    Calls Tryd.prog 64 #[.slice A n c, .func (.func g) #[] cb] w (IxPost w l p) := by
  have Hn := Lib.hid hn
  have H := Lib.hid hp
  clear hn hp
  unfold IxPost
  go_enter Tryd.func64, Tryd.ntmps64
  go_wp2_with (fail)
  go_loopw [8] (fun v wr => ∃ j : Nat, j ≤ n ∧ v = .int .i64 j ∧ Hid ((l.take j).any p = false) ∧ Below w.heap.size w wr) (fun v _ => n - (intOf v).toNat)
  case atStart => exact ⟨0, Nat.zero_le _, rfl, rfl, Below.refl _ _⟩
  case round =>
    obtain ⟨j, hj, rfl, hno, hb⟩ := hrel
    by_cases hlt : j < n
    · obtain ⟨b1, o1, rfl, _, r0, r1, r2⟩ := uss_cells hr hlt Hn.out
      have p0 := (Same.any (D := Any) hb).cell trivial r0
      have p1 := (Same.any (D := Any) hb).cell trivial r1
      have p2 := (Same.any (D := Any) hb).cell trivial r2
      have hl : j < l.length := by have := Hn.out; omega
      have R1 := Lib.hid (H.out l[j] (List.getElem_mem hl) wr hb)
      have ht : (l.take (j + 1)).any p = ((l.take j).any p || p l[j]) := by rw [List.take_succ_eq_append_getElem hl, List.any_append]; simp
      have hall : l.any p = ((l.take j).any p || (l.drop j).any p) := by rw [← List.any_append, List.take_append_drop]
      have hdr : (l.drop j).any p = (p l[j] || (l.drop (j + 1)).any p) := by
        have h := List.drop_eq_getElem_cons hl
        rw [h, List.any_cons]
      generalize l[j] = y at p0 p1 p2 R1 ht hdr
      rw [hno.out] at ht hall
      rw [hdr] at hall
      generalize p y = q at R1 ht hall
      have HB := Lib.hid hb
      clear r0 r1 r2 hr hno hdr hb
      cases q
      · have Ht := Lib.hid ht
        clear ht hall
        go_wp2_with (go_at_fn g; refine R1.out.mono ?_; rintro e w2 ⟨rfl, hb2⟩)
        have HB2 := HB.out.trans (hb2.mono HB.out.size)
        exact ⟨⟨j + 1, by omega, by go_num, Ht.out, ⟨HB2.os, HB2.tape, HB2.output, HB2.size, HB2.block⟩⟩, by simp [intOf]; omega⟩
      · have Ht := Lib.hid hall
        clear ht hall
        go_wp2_with (go_at_fn g; refine R1.out.mono ?_; rintro e w2 ⟨rfl, hb2⟩)
        have HB2 := HB.out.trans (hb2.mono HB.out.size)
        go_ret
        exact ⟨j, rfl, by rw [Ht.out]; simp, HB2⟩
    · have hall : l.any p = false := by
        have := hno.out
        rwa [List.take_of_length_le (by have := Hn.out; omega)] at this
      have Ht := Lib.hid hall
      clear hr hno hall
      go_wp2_with (fail)
      go_ret
      exact ⟨-1, rfl, by rw [Ht.out]; rfl, hb⟩
set_option maxRecDepth 100000 in
theorem containsFunc_any (A : Option Addr) (n c : Nat) (l : List Us) (p : Us → Bool) (g : Nat) (cb : Array Value) (w : World) (hr : Reads w Any 3 A n (uss l)) (hn : n = l.length) (hn1 : n ≤ 1099511627776)
    (eg : ∀ args w, (callFunc g args).run Tryd.prog w = .ok (.enter g args) w)
    (hp : ∀ r ∈ l, ∀ W, Below w.heap.size w W → Calls Tryd.prog g (#[.agg #[str r.name, .int .i64 (r.low : Nat), .int .i64 (r.high : Nat)]] ++ cb) W fun e w' => e = .returned (.bool (p r)) ∧ Below W.heap.size W w') :
    Calls Tryd.prog 47 #[.slice A n c, .func (.func g) #[] cb] w fun e w' => e = .returned (.bool (l.any p)) ∧ Below w.heap.size w w' := by
  have ix := indexFunc_any A n c l p g cb w hr hn hn1 eg hp
  unfold IxPost at ix
  generalize l.any p = q at ix ⊢
  have IX := Lib.hid ix
  clear hr hn hp eg ix
  go_enter Tryd.func47, Tryd.ntmps47
  go_wp2_with (fail)
  refine IX.out.mono ?_
  rintro e w' ⟨i, rfl, hi, hb⟩
  have Hi := Lib.hid hi
  clear hi
  go_wp2_with (fail)
  go_ret
  exact ⟨by rw [← Hi.out]; rfl, hb⟩

end Go.Proofs.YtpdjeaiojfghnaaDoor
