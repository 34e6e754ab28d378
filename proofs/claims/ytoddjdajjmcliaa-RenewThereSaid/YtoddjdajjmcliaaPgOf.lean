/- Contract of programOf. -/
import Derived.Test.YtoddjdajjmcliaaShNum
import Derived.Deep.DeepCutAuto
import Derived.Deep.CutBlock
import Derived.Deep.LoopGhost
set_option linter.unusedVariables false
namespace Go.Proofs.Ytoddjdajjmcliaa
open Go.RowKit Go.Mem Go.Sh Go.Maps
theorem info_dt : (Try.prog.info? 83).map (fun i => (i.zero, i.size, i.bytes)) = some (some (.agg #[.string ⟨#[]⟩, .slice none 0 0, .slice none 0 0]), 3, 64) := by kernel_rfl
theorem info_parts {P : Program} {t : TypeId} {z : Value} {s b : Nat} (h : (P.info? t).map (fun i => (i.zero, i.size, i.bytes)) = some (some z, s, b)) : ∃ i, P.info? t = some i ∧ i.zero = some z ∧ i.size = s ∧ i.bytes = b := by
  obtain ⟨i, h1, h2⟩ := Option.map_eq_some_iff.1 h
  injection h2 with h2 h3
  injection h3 with h3 h4
  exact ⟨i, h1, h2, h3, h4⟩
theorem step_app_dt (w : World) {ops : Array Oper} {o : Oper} {a : Act} {K : Act → World → Prop} {Q : Exit → Act → World → Prop} {E : Prop} (hgd : o.guard = none) (s x : Operand)
    (ho : o.op = .call { callee := .builtin .append, args := #[s, x], argTypes := #[23, 23] })
    {base : Nat} {v : Value} {n : Nat} {xs : List Value} (hown : w.ownsRow base 83 3 v n xs) (hs : a.eval s = v)
    {D : Nat → Prop} {A : Option Addr} {m : Nat} {news : List Value} (hr : Reads w D 3 A m news) {c : Nat} (hx : a.eval x = .slice A m c) (h1 : ∀ u ∈ news, u.oneCell' = true)
    (h63 : n + m ≤ 100000000) (hbase : base ≤ w.heap.size)
    (h : ∀ v' w', w'.ownsRow base 83 3 v' (n + m) (xs ++ news) → w.grownBy w' v.ownBlock → (v'.ownBlock = v.ownBlock ∨ v'.ownBlock = some w.heap.size) → K (a.put o.dst v') w') :
    if Region.wanted o (yielded ops a.tmps) = true then Oper.wp Try.prog o a w K Q else E := by
  obtain ⟨i0, hi0, hz0, hz1, hz2⟩ := info_parts info_dt
  exact step_append_any w hgd s x _ ho base _ i0 _ 3 64 Try.underlying23 hi0 hz0 hz1 hz2 rfl (by omega) v n xs hs hown D A m c news hx hr h1 (by simp only [maxLen]; omega) (by omega) hbase h
set_option maxRecDepth 100000 in
set_option maxHeartbeats 40000000 in
theorem programOf_any (n : Int) (w : World) (hn : I64 n) :
    Calls Try.prog 11 #[.int .i64 n] w (PgPost w) := by
  have R0 := Lib.hid (fun W => rest_q n 2 W ((rsN n 2 : Nat) : Int) hn (by omega) (by omega) (rsN_eq _ _ (by omega)))
  have b0 := rsN_lt n 2 (by omega)
  have x2 := I64.tdiv hn 2 (by omega)
  have R1 := Lib.hid (fun W => rest_q (n.tdiv 2) 4 W ((rsN (n.tdiv 2) 4 : Nat) : Int) x2.1 (by omega) (by omega) (rsN_eq _ _ (by omega)))
  have k2 : IntKind.i64.wrap (n.tdiv 2) = n.tdiv 2 := IntWalk.i64_in _ (by have := x2.2; omega)
  generalize rsN (n.tdiv 2) 4 = q1 at R1
  have x8 := I64.tdiv hn 8 (by omega)
  have R2 := Lib.hid (fun W => rest_q (n.tdiv 8) 2 W ((rsN (n.tdiv 8) 2 : Nat) : Int) x8.1 (by omega) (by omega) (rsN_eq _ _ (by omega)))
  have k8 : IntKind.i64.wrap (n.tdiv 8) = n.tdiv 8 := IntWalk.i64_in _ (by have := x8.2; omega)
  have b2 := rsN_lt (n.tdiv 8) 2 (by omega)
  generalize rsN (n.tdiv 8) 2 = q2 at R2 b2
  have x16 := I64.tdiv hn 16 (by omega)
  have R3 := Lib.hid (fun W => rest_q (n.tdiv 16) 511 W ((rsN (n.tdiv 16) 511 : Nat) : Int) x16.1 (by omega) (by omega) (rsN_eq _ _ (by omega)))
  have k16 : IntKind.i64.wrap (n.tdiv 16) = n.tdiv 16 := IntWalk.i64_in _ (by have := x16.2; omega)
  have b3 := rsN_lt (n.tdiv 16) 511 (by omega)
  obtain ⟨bits, hbits⟩ : ∃ y, y = 1 + rsN (n.tdiv 16) 511 := ⟨_, rfl⟩
  have wbits : IntKind.i64.wrap (1 + ((rsN (n.tdiv 16) 511 : Nat) : Int)) = (bits : Int) := (IntWalk.i64_in _ (by omega)).trans (by omega)
  have hbits2 : 1 ≤ bits ∧ bits ≤ 511 := by omega
  have HBits := Lib.hid hbits
  generalize rsN (n.tdiv 16) 511 = q3 at R3 b3 wbits HBits
  clear x8 x16 hbits
  obtain ⟨bad, hbad⟩ : ∃ b : Bool, b = decide (q1 = 0) := ⟨_, rfl⟩
  have HBad := Lib.hid hbad
  clear hbad
  clear x2
  obtain ⟨y, hy⟩ : ∃ y, y = 1 + rsN n 2 := ⟨_, rfl⟩
  have hy9 : y ≤ 9 := by omega
  have wy : IntKind.i64.wrap (1 + ((rsN n 2 : Nat) : Int)) = (y : Int) := (IntWalk.i64_in _ (by omega)).trans (by omega)
  have HY := Lib.hid hy
  clear hy
  generalize rsN n 2 = q0 at R0 b0 wy HY
  go_enter Try.func11, Try.ntmps11
  go_upto_region 4 with (fail)
  have fRB := (Blk.new w 29 zcell).alloc (.cells #[.string ⟨#[109]⟩, .int .i64 1, .slice none 0 0, .slice none 0 0, .slice none 0 0, .slice none 0 0, .slice none 0 0, .slice none 0 0] 29)
  have fPB := Blk.new (w.alloc (.cells #[.string ⟨#[]⟩, .int .i64 0, .slice none 0 0, .slice none 0 0, .slice none 0 0, .slice none 0 0, .slice none 0 0, .slice none 0 0] 29)) 29 (pcell none 0 0)
  rw [show (w.alloc (.cells #[.string ⟨#[]⟩, .int .i64 0, .slice none 0 0, .slice none 0 0, .slice none 0 0, .slice none 0 0, .slice none 0 0, .slice none 0 0] 29)).heap.size = w.heap.size + 1 by simp] at fPB
  have HB : Below w.heap.size w ((w.alloc (.cells #[.string ⟨#[]⟩, .int .i64 0, .slice none 0 0, .slice none 0 0, .slice none 0 0, .slice none 0 0, .slice none 0 0, .slice none 0 0] 29)).alloc (.cells #[.string ⟨#[109]⟩, .int .i64 1, .slice none 0 0, .slice none 0 0, .slice none 0 0, .slice none 0 0, .slice none 0 0, .slice none 0 0] 29)) := ((Below.refl _ _).alloc (Nat.le_refl _) _).alloc (by simp) _
  obtain ⟨N0, hN0⟩ : ∃ N, N = w.heap.size + 2 := ⟨_, rfl⟩
  obtain ⟨PB, hPB⟩ : ∃ N, N = w.heap.size + 1 := ⟨_, rfl⟩
  obtain ⟨RB, hRB⟩ : ∃ N, N = w.heap.size := ⟨_, rfl⟩
  rw [← hPB, ← hRB]
  rw [← hRB] at fRB
  rw [← hPB] at fPB
  have hN : N0 ≤ ((w.alloc (.cells #[.string ⟨#[]⟩, .int .i64 0, .slice none 0 0, .slice none 0 0, .slice none 0 0, .slice none 0 0, .slice none 0 0, .slice none 0 0] 29)).alloc (.cells #[.string ⟨#[109]⟩, .int .i64 1, .slice none 0 0, .slice none 0 0, .slice none 0 0, .slice none 0 0, .slice none 0 0, .slice none 0 0] 29)).heap.size := by simp; omega
  have AP := Lib.hid (show RB ≠ PB ∧ RB < N0 ∧ PB < N0 ∧ w.heap.size ≤ RB ∧ w.heap.size ≤ PB ∧ w.heap.size ≤ N0 by omega)
  replace hN0 : w.heap.size ≤ N0 := by omega
  clear hPB hRB
  replace fRB : Blk ((w.alloc (.cells #[.string ⟨#[]⟩, .int .i64 0, .slice none 0 0, .slice none 0 0, .slice none 0 0, .slice none 0 0, .slice none 0 0, .slice none 0 0] 29)).alloc (.cells #[.string ⟨#[109]⟩, .int .i64 1, .slice none 0 0, .slice none 0 0, .slice none 0 0, .slice none 0 0, .slice none 0 0, .slice none 0 0] 29)) RB 29 zcell := fRB
  replace fPB : Blk ((w.alloc (.cells #[.string ⟨#[]⟩, .int .i64 0, .slice none 0 0, .slice none 0 0, .slice none 0 0, .slice none 0 0, .slice none 0 0, .slice none 0 0] 29)).alloc (.cells #[.string ⟨#[109]⟩, .int .i64 1, .slice none 0 0, .slice none 0 0, .slice none 0 0, .slice none 0 0, .slice none 0 0, .slice none 0 0] 29)) PB 29 (pcell none 0 0) := fPB
  generalize (w.alloc (.cells #[.string ⟨#[]⟩, .int .i64 0, .slice none 0 0, .slice none 0 0, .slice none 0 0, .slice none 0 0, .slice none 0 0, .slice none 0 0] 29)).alloc (.cells #[.string ⟨#[109]⟩, .int .i64 1, .slice none 0 0, .slice none 0 0, .slice none 0 0, .slice none 0 0, .slice none 0 0, .slice none 0 0] 29) = W at *
  go_cut [5] (fun s5 wc => s5 = .pointer (some ⟨PB, 0, none⟩) ∧ ∃ A c, Hid (PgBk w wc N0 RB PB A 1 c ∧ DtsOwn wc N0 (.slice A 1 c) [dD y]))
  case first =>
    refine wp_region_g (S := fun w' => w'.cell? ⟨PB, 3, none⟩ = some (.slice none 0 0)) (m := 19) (by kernel_rfl) ?_
    replace fRB := fRB.drew
    replace fPB := fPB.drew
    replace HB : Below w.heap.size w (World.drew W) := ⟨HB.os, HB.tape, HB.output, HB.size, HB.block⟩
    replace hN : N0 ≤ (World.drew W).heap.size := hN
    generalize World.drew W = W0 at *
    have hS : W0.cell? ⟨PB, 3, none⟩ = some (.slice none 0 0) := fPB.cell 3
    repeat (first | (refine wpAnyG_take (i := 0) (v := .pointer (some ⟨PB, 3, none⟩)) rfl ?_ ?_ ?_ (fun _ _ _ h => h) (Or.inl ⟨by rfl, ?_⟩) hS ?_; (· decide +kernel); (· decide +kernel); (· decide +kernel); (· (intro w' hS'; go_simp))) | (refine wpAnyG_take (i := 1) (v := .slice none 0 0) rfl ?_ ?_ ?_ (fun _ _ _ h => h) (Or.inl ⟨by rfl, ?_⟩) hS ?_; (· decide +kernel); (· decide +kernel); (· decide +kernel); (· (intro w' hS'; go_simp))) | (refine wpAnyG_take (i := 2) (v := .func (.func 27) #[] #[]) rfl ?_ ?_ ?_ (fun _ _ _ h => h) (Or.inl ⟨by rfl, ?_⟩) hS ?_; (· decide +kernel); (· decide +kernel); (· decide +kernel); (· (intro w' hS'; go_simp))) | (refine wpAnyG_take (i := 6) (v := .func (.func 26) #[] #[]) rfl ?_ ?_ ?_ (fun _ _ _ h => h) (Or.inl ⟨by rfl, ?_⟩) hS ?_; (· decide +kernel); (· decide +kernel); (· decide +kernel); (· (intro w' hS'; go_simp))) | (refine wpAnyG_take (i := 7) (v := .int .i64 n) rfl ?_ ?_ ?_ (fun _ _ _ h => h) (Or.inl ⟨by rfl, ?_⟩) hS ?_; (· decide +kernel); (· decide +kernel); (· decide +kernel); (· (intro w' hS'; go_simp))) | (refine wpAnyG_take (i := 13) (v := .agg #[str [90], .slice none 0 0]) rfl ?_ ?_ ?_ (fun _ _ _ h => h) (Or.inl ⟨by rfl, ?_⟩) hS ?_; (· decide +kernel); (· decide +kernel); (· decide +kernel); (· (intro w' hS'; go_simp))))
    refine wpAnyG_ready (rs := [3]) (by decide +kernel) (by simp) ?_
    refine AllReadyG.cons rfl (fun K hK => ?_) AllReadyG.nil
    go_simp
    refine (named_any [68] none 0 0 _).mono ?_
    rintro e w' ⟨rfl, rfl⟩
    try dsimp only
    replace fRB := fRB.alloc (.cells #[.int .i64 6, str [68], .slice none 0 0] 34)
    replace fPB := fPB.alloc (.cells #[.int .i64 6, str [68], .slice none 0 0] 34)
    replace HB := HB.alloc (Nat.le_trans hN0 hN) (.cells #[.int .i64 6, str [68], .slice none 0 0] 34)
    replace hN : N0 ≤ (W0.alloc (.cells #[.int .i64 6, str [68], .slice none 0 0] 34)).heap.size := by simp; omega
    clear hS
    generalize W0.alloc (.cells #[.int .i64 6, str [68], .slice none 0 0] 34) = W1 at *
    have hS := (show W1.cell? ⟨PB, 3, none⟩ = some (.slice none 0 0) from fPB.cell 3)
    refine hK _ _ (fun _ => hS) ?_
    clear hK K
    refine wpAnyG_ready (rs := [4, 8]) (by decide +kernel) (by simp) ?_
    refine AllReadyG.cons rfl (fun K hK => ?_) (AllReadyG.cons rfl (fun K hK => ?_) AllReadyG.nil)
    · go_simp
      have fB16 := Blk.new W1 34 [.int .i64 6, str [68], .slice none 0 0]
      have nB16 : N0 ≤ W1.heap.size := hN
      replace fRB := fRB.alloc (.cells #[.int .i64 6, str [68], .slice none 0 0] 34)
      replace fPB := fPB.alloc (.cells #[.int .i64 6, str [68], .slice none 0 0] 34)
      replace HB := HB.alloc (Nat.le_trans hN0 hN) (.cells #[.int .i64 6, str [68], .slice none 0 0] 34)
      replace hN : N0 ≤ (W1.alloc (.cells #[.int .i64 6, str [68], .slice none 0 0] 34)).heap.size := by simp; omega
      clear hS
      generalize W1.alloc (.cells #[.int .i64 6, str [68], .slice none 0 0] 34) = W2 at *
      generalize W1.heap.size = B16 at *
      have hS := (show W2.cell? ⟨PB, 3, none⟩ = some (.slice none 0 0) from fPB.cell 3)
      refine hK _ _ (fun _ => hS) ?_
      clear hK K
      repeat (first | (refine wpAnyG_take (i := 5) (v := .agg #[str [88], .slice (some ⟨B16, 0, none⟩) 1 1]) rfl ?_ ?_ ?_ (fun _ _ _ h => h) (Or.inl ⟨by rfl, ?_⟩) hS ?_; (· decide +kernel); (· decide +kernel); (· decide +kernel); (· (intro w' hS'; go_simp))))
      refine wpAnyG_ready (rs := [8]) (by decide +kernel) (by simp) ?_
      refine AllReadyG.cons rfl (fun K hK => ?_) AllReadyG.nil
      go_simp
      refine (R0.out _).mono ?_
      rintro e w' ⟨rfl, rfl⟩
      try dsimp only
      refine hK _ _ (fun _ => hS) ?_
      clear hK K
      repeat (first | (refine wpAnyG_take (i := 9) (v := .int .i64 (y : Nat)) rfl ?_ ?_ ?_ (fun _ _ _ h => h) (Or.inl ⟨by rfl, ?_⟩) hS ?_; (· decide +kernel); (· decide +kernel); (· decide +kernel); (· (intro w' hS'; go_simp))))
      refine wpAnyG_ready (rs := [10]) (by decide +kernel) (by simp) ?_
      refine AllReadyG.cons rfl (fun K hK => ?_) AllReadyG.nil
      go_simp
      refine (one_any y _).mono ?_
      rintro e w' ⟨rfl, rfl⟩
      try dsimp only
      replace fRB := fRB.alloc (.cells #[.int .i64 (y : Nat), str [], .slice none 0 0] 34)
      replace fPB := fPB.alloc (.cells #[.int .i64 (y : Nat), str [], .slice none 0 0] 34)
      replace fB16 := fB16.alloc (.cells #[.int .i64 (y : Nat), str [], .slice none 0 0] 34)
      replace HB := HB.alloc (Nat.le_trans hN0 hN) (.cells #[.int .i64 (y : Nat), str [], .slice none 0 0] 34)
      replace hN : N0 ≤ (W2.alloc (.cells #[.int .i64 (y : Nat), str [], .slice none 0 0] 34)).heap.size := by simp; omega
      clear hS
      generalize W2.alloc (.cells #[.int .i64 (y : Nat), str [], .slice none 0 0] 34) = W3 at *
      have hS := (show W3.cell? ⟨PB, 3, none⟩ = some (.slice none 0 0) from fPB.cell 3)
      refine hK _ _ (fun _ => hS) ?_
      clear hK K
      refine wpAnyG_ready (rs := [11]) (by decide +kernel) (by simp) ?_
      refine AllReadyG.cons rfl (fun K hK => ?_) AllReadyG.nil
      go_simp
      have fB23 := Blk.new W3 34 [.int .i64 (y : Nat), str [], .slice none 0 0]
      have nB23 : N0 ≤ W3.heap.size := hN
      replace fRB := fRB.alloc (.cells #[.int .i64 (y : Nat), str [], .slice none 0 0] 34)
      replace fPB := fPB.alloc (.cells #[.int .i64 (y : Nat), str [], .slice none 0 0] 34)
      replace fB16 := fB16.alloc (.cells #[.int .i64 (y : Nat), str [], .slice none 0 0] 34)
      replace HB := HB.alloc (Nat.le_trans hN0 hN) (.cells #[.int .i64 (y : Nat), str [], .slice none 0 0] 34)
      replace hN : N0 ≤ (W3.alloc (.cells #[.int .i64 (y : Nat), str [], .slice none 0 0] 34)).heap.size := by simp; omega
      clear hS
      generalize W3.alloc (.cells #[.int .i64 (y : Nat), str [], .slice none 0 0] 34) = W4 at *
      generalize W3.heap.size = B23 at *
      have hS := (show W4.cell? ⟨PB, 3, none⟩ = some (.slice none 0 0) from fPB.cell 3)
      refine hK _ _ (fun _ => hS) ?_
      clear hK K
      repeat (first | (refine wpAnyG_take (i := 12) (v := .agg #[str [89], .slice (some ⟨B23, 0, none⟩) 1 1]) rfl ?_ ?_ ?_ (fun _ _ _ h => h) (Or.inl ⟨by rfl, ?_⟩) hS ?_; (· decide +kernel); (· decide +kernel); (· decide +kernel); (· (intro w' hS'; go_simp))))
      refine wpAnyG_ready (rs := [14]) (by decide +kernel) (by simp) ?_
      refine AllReadyG.cons rfl (fun K hK => ?_) AllReadyG.nil
      go_simp
      have fB26 := Blk.new W4 80 [str [88], .slice (some ⟨B16, 0, none⟩) 1 1, str [89], .slice (some ⟨B23, 0, none⟩) 1 1, str [90], .slice none 0 0]
      have nB26 : N0 ≤ W4.heap.size := hN
      replace fRB := fRB.alloc (.cells #[str [88], .slice (some ⟨B16, 0, none⟩) 1 1, str [89], .slice (some ⟨B23, 0, none⟩) 1 1, str [90], .slice none 0 0] 80)
      replace fPB := fPB.alloc (.cells #[str [88], .slice (some ⟨B16, 0, none⟩) 1 1, str [89], .slice (some ⟨B23, 0, none⟩) 1 1, str [90], .slice none 0 0] 80)
      replace fB16 := fB16.alloc (.cells #[str [88], .slice (some ⟨B16, 0, none⟩) 1 1, str [89], .slice (some ⟨B23, 0, none⟩) 1 1, str [90], .slice none 0 0] 80)
      replace fB23 := fB23.alloc (.cells #[str [88], .slice (some ⟨B16, 0, none⟩) 1 1, str [89], .slice (some ⟨B23, 0, none⟩) 1 1, str [90], .slice none 0 0] 80)
      replace HB := HB.alloc (Nat.le_trans hN0 hN) (.cells #[str [88], .slice (some ⟨B16, 0, none⟩) 1 1, str [89], .slice (some ⟨B23, 0, none⟩) 1 1, str [90], .slice none 0 0] 80)
      replace hN : N0 ≤ (W4.alloc (.cells #[str [88], .slice (some ⟨B16, 0, none⟩) 1 1, str [89], .slice (some ⟨B23, 0, none⟩) 1 1, str [90], .slice none 0 0] 80)).heap.size := by simp; omega
      clear hS
      generalize W4.alloc (.cells #[str [88], .slice (some ⟨B16, 0, none⟩) 1 1, str [89], .slice (some ⟨B23, 0, none⟩) 1 1, str [90], .slice none 0 0] 80) = W5 at *
      generalize W4.heap.size = B26 at *
      have hS := (show W5.cell? ⟨PB, 3, none⟩ = some (.slice none 0 0) from fPB.cell 3)
      refine hK _ _ (fun _ => hS) ?_
      clear hK K
      repeat (first | (refine wpAnyG_take (i := 15) (v := .agg #[str [68], .slice none 0 0, .slice (some ⟨B26, 0, none⟩) 3 3]) rfl ?_ ?_ ?_ (fun _ _ _ h => h) (Or.inl ⟨by rfl, ?_⟩) hS ?_; (· decide +kernel); (· decide +kernel); (· decide +kernel); (· (intro w' hS'; go_simp))))
      refine wpAnyG_ready (rs := [16]) (by decide +kernel) (by simp) ?_
      refine AllReadyG.cons rfl (fun K hK => ?_) AllReadyG.nil
      go_simp
      have fB28 := Blk.new W5 83 [str [68], .slice none 0 0, .slice (some ⟨B26, 0, none⟩) 3 3]
      have nB28 : N0 ≤ W5.heap.size := hN
      replace fRB := fRB.alloc (.cells #[str [68], .slice none 0 0, .slice (some ⟨B26, 0, none⟩) 3 3] 83)
      replace fPB := fPB.alloc (.cells #[str [68], .slice none 0 0, .slice (some ⟨B26, 0, none⟩) 3 3] 83)
      replace fB16 := fB16.alloc (.cells #[str [68], .slice none 0 0, .slice (some ⟨B26, 0, none⟩) 3 3] 83)
      replace fB23 := fB23.alloc (.cells #[str [68], .slice none 0 0, .slice (some ⟨B26, 0, none⟩) 3 3] 83)
      replace fB26 := fB26.alloc (.cells #[str [68], .slice none 0 0, .slice (some ⟨B26, 0, none⟩) 3 3] 83)
      replace HB := HB.alloc (Nat.le_trans hN0 hN) (.cells #[str [68], .slice none 0 0, .slice (some ⟨B26, 0, none⟩) 3 3] 83)
      replace hN : N0 ≤ (W5.alloc (.cells #[str [68], .slice none 0 0, .slice (some ⟨B26, 0, none⟩) 3 3] 83)).heap.size := by simp; omega
      clear hS
      generalize W5.alloc (.cells #[str [68], .slice none 0 0, .slice (some ⟨B26, 0, none⟩) 3 3] 83) = W6 at *
      generalize W5.heap.size = B28 at *
      have hS := (show W6.cell? ⟨PB, 3, none⟩ = some (.slice none 0 0) from fPB.cell 3)
      refine hK _ _ (fun _ => hS) ?_
      clear hK K
      refine wpAnyG_ready (rs := [17]) (by decide +kernel) (by simp) ?_
      refine AllReadyG.cons rfl (fun K hK => ?_) AllReadyG.nil
      have hd : DtCells 4 W6 (fun b => N0 ≤ b) [str [68], .slice none 0 0, .slice (some ⟨B26, 0, none⟩) 3 3] (dD y) := dtD (d := 3) hy9 fB16 fB23 fB26 nB16 nB23 nB26
      refine step_app_dt _ rfl (.tmp 13) (.tmp 28) (by rfl) (base := N0) (v := .slice none 0 0) (n := 0) (xs := []) (World.ownsRow_nil _ _ _ _) rfl (D := Any) (A := some ⟨B28, 0, none⟩) (m := 1) (news := [str [68], .slice none 0 0, .slice (some ⟨B26, 0, none⟩) 3 3]) (c := 1) (fB28.reads trivial rfl) (by first | rfl | simp) (by simp [Value.oneCell']) (by omega) hN ?_
      intro v2 W9 hown2 hg2 hat2
      obtain ⟨A9, c9, rfl, _⟩ := own_form hown2
      replace fRB := fRB.grown hg2 (by simp [Value.ownBlock])
      replace fPB := fPB.grown hg2 (by simp [Value.ownBlock])
      replace HB := HB.grown hg2 (Nat.le_trans hN0 hN) (by simp [Value.ownBlock])
      have hol : DtsOwn W9 N0 (.slice A9 1 c9) [dD y] := dts_push (vss := []) (l := []) All2.nil ((DtCells.stable 4).imp hd fun b hb _ => ⟨hb, by simp [Value.ownBlock]⟩) hg2 hat2 hown2
      replace hN : N0 ≤ W9.heap.size := Nat.le_trans hN hg2.size
      clear hd hown2 hg2 hat2 hS fB16 fB23 fB26 fB28
      have hS : W9.cell? ⟨PB, 3, none⟩ = some (.slice none 0 0) := fPB.cell 3
      have z3 := fPB.frozen 3
      have lz := fPB.lt
      refine hK _ _ (fun _ => hS) ?_
      clear hK K
      repeat (first | (refine wpAnyG_take (i := 18) (v := .pointer (some ⟨PB, 3, none⟩)) rfl ?_ ?_ ?_ (fun _ _ _ h => h) (Or.inl ⟨by rfl, ?_⟩) hS ?_; (· decide +kernel); (· decide +kernel); (· decide +kernel); (· (intro w' hS'; go_simp))))
      refine wpAnyG_ready (rs := [19]) (by decide +kernel) (by simp) ?_
      refine AllReadyG.cons rfl (fun K hK => ?_) AllReadyG.nil
      go_simp
      refine hK _ _ (fun h => absurd h (by decide)) ?_
      clear hK K
      refine wpAnyG_done (by decide +kernel) ?_ _
      have fin := Lib.hid (And.intro (PgBk.put (A' := A9) (k' := 1) (c' := c9) HB hN fRB fPB AP.out) (dts_put (PB := PB) (i := 3) (x := .slice A9 1 c9) hol AP.out.2.2.1))
      clear hS z3 lz hol HB hN fRB fPB
      go_wp2_with (fail)
      go_meet
      exact ⟨rfl, A9, c9, fin⟩
    · go_simp
      refine (R0.out _).mono ?_
      rintro e w' ⟨rfl, rfl⟩
      try dsimp only
      refine hK _ _ (fun _ => hS) ?_
      clear hK K
      repeat (first | (refine wpAnyG_take (i := 9) (v := .int .i64 (y : Nat)) rfl ?_ ?_ ?_ (fun _ _ _ h => h) (Or.inl ⟨by rfl, ?_⟩) hS ?_; (· decide +kernel); (· decide +kernel); (· decide +kernel); (· (intro w' hS'; go_simp))))
      refine wpAnyG_ready (rs := [4, 10]) (by decide +kernel) (by simp) ?_
      refine AllReadyG.cons rfl (fun K hK => ?_) (AllReadyG.cons rfl (fun K hK => ?_) AllReadyG.nil)
      · go_simp
        have fB16 := Blk.new W1 34 [.int .i64 6, str [68], .slice none 0 0]
        have nB16 : N0 ≤ W1.heap.size := hN
        replace fRB := fRB.alloc (.cells #[.int .i64 6, str [68], .slice none 0 0] 34)
        replace fPB := fPB.alloc (.cells #[.int .i64 6, str [68], .slice none 0 0] 34)
        replace HB := HB.alloc (Nat.le_trans hN0 hN) (.cells #[.int .i64 6, str [68], .slice none 0 0] 34)
        replace hN : N0 ≤ (W1.alloc (.cells #[.int .i64 6, str [68], .slice none 0 0] 34)).heap.size := by simp; omega
        clear hS
        generalize W1.alloc (.cells #[.int .i64 6, str [68], .slice none 0 0] 34) = W2 at *
        generalize W1.heap.size = B16 at *
        have hS := (show W2.cell? ⟨PB, 3, none⟩ = some (.slice none 0 0) from fPB.cell 3)
        refine hK _ _ (fun _ => hS) ?_
        clear hK K
        repeat (first | (refine wpAnyG_take (i := 5) (v := .agg #[str [88], .slice (some ⟨B16, 0, none⟩) 1 1]) rfl ?_ ?_ ?_ (fun _ _ _ h => h) (Or.inl ⟨by rfl, ?_⟩) hS ?_; (· decide +kernel); (· decide +kernel); (· decide +kernel); (· (intro w' hS'; go_simp))))
        refine wpAnyG_ready (rs := [10]) (by decide +kernel) (by simp) ?_
        refine AllReadyG.cons rfl (fun K hK => ?_) AllReadyG.nil
        go_simp
        refine (one_any y _).mono ?_
        rintro e w' ⟨rfl, rfl⟩
        try dsimp only
        replace fRB := fRB.alloc (.cells #[.int .i64 (y : Nat), str [], .slice none 0 0] 34)
        replace fPB := fPB.alloc (.cells #[.int .i64 (y : Nat), str [], .slice none 0 0] 34)
        replace fB16 := fB16.alloc (.cells #[.int .i64 (y : Nat), str [], .slice none 0 0] 34)
        replace HB := HB.alloc (Nat.le_trans hN0 hN) (.cells #[.int .i64 (y : Nat), str [], .slice none 0 0] 34)
        replace hN : N0 ≤ (W2.alloc (.cells #[.int .i64 (y : Nat), str [], .slice none 0 0] 34)).heap.size := by simp; omega
        clear hS
        generalize W2.alloc (.cells #[.int .i64 (y : Nat), str [], .slice none 0 0] 34) = W3 at *
        have hS := (show W3.cell? ⟨PB, 3, none⟩ = some (.slice none 0 0) from fPB.cell 3)
        refine hK _ _ (fun _ => hS) ?_
        clear hK K
        refine wpAnyG_ready (rs := [11]) (by decide +kernel) (by simp) ?_
        refine AllReadyG.cons rfl (fun K hK => ?_) AllReadyG.nil
        go_simp
        have fB23 := Blk.new W3 34 [.int .i64 (y : Nat), str [], .slice none 0 0]
        have nB23 : N0 ≤ W3.heap.size := hN
        replace fRB := fRB.alloc (.cells #[.int .i64 (y : Nat), str [], .slice none 0 0] 34)
        replace fPB := fPB.alloc (.cells #[.int .i64 (y : Nat), str [], .slice none 0 0] 34)
        replace fB16 := fB16.alloc (.cells #[.int .i64 (y : Nat), str [], .slice none 0 0] 34)
        replace HB := HB.alloc (Nat.le_trans hN0 hN) (.cells #[.int .i64 (y : Nat), str [], .slice none 0 0] 34)
        replace hN : N0 ≤ (W3.alloc (.cells #[.int .i64 (y : Nat), str [], .slice none 0 0] 34)).heap.size := by simp; omega
        clear hS
        generalize W3.alloc (.cells #[.int .i64 (y : Nat), str [], .slice none 0 0] 34) = W4 at *
        generalize W3.heap.size = B23 at *
        have hS := (show W4.cell? ⟨PB, 3, none⟩ = some (.slice none 0 0) from fPB.cell 3)
        refine hK _ _ (fun _ => hS) ?_
        clear hK K
        repeat (first | (refine wpAnyG_take (i := 12) (v := .agg #[str [89], .slice (some ⟨B23, 0, none⟩) 1 1]) rfl ?_ ?_ ?_ (fun _ _ _ h => h) (Or.inl ⟨by rfl, ?_⟩) hS ?_; (· decide +kernel); (· decide +kernel); (· decide +kernel); (· (intro w' hS'; go_simp))))
        refine wpAnyG_ready (rs := [14]) (by decide +kernel) (by simp) ?_
        refine AllReadyG.cons rfl (fun K hK => ?_) AllReadyG.nil
        go_simp
        have fB26 := Blk.new W4 80 [str [88], .slice (some ⟨B16, 0, none⟩) 1 1, str [89], .slice (some ⟨B23, 0, none⟩) 1 1, str [90], .slice none 0 0]
        have nB26 : N0 ≤ W4.heap.size := hN
        replace fRB := fRB.alloc (.cells #[str [88], .slice (some ⟨B16, 0, none⟩) 1 1, str [89], .slice (some ⟨B23, 0, none⟩) 1 1, str [90], .slice none 0 0] 80)
        replace fPB := fPB.alloc (.cells #[str [88], .slice (some ⟨B16, 0, none⟩) 1 1, str [89], .slice (some ⟨B23, 0, none⟩) 1 1, str [90], .slice none 0 0] 80)
        replace fB16 := fB16.alloc (.cells #[str [88], .slice (some ⟨B16, 0, none⟩) 1 1, str [89], .slice (some ⟨B23, 0, none⟩) 1 1, str [90], .slice none 0 0] 80)
        replace fB23 := fB23.alloc (.cells #[str [88], .slice (some ⟨B16, 0, none⟩) 1 1, str [89], .slice (some ⟨B23, 0, none⟩) 1 1, str [90], .slice none 0 0] 80)
        replace HB := HB.alloc (Nat.le_trans hN0 hN) (.cells #[str [88], .slice (some ⟨B16, 0, none⟩) 1 1, str [89], .slice (some ⟨B23, 0, none⟩) 1 1, str [90], .slice none 0 0] 80)
        replace hN : N0 ≤ (W4.alloc (.cells #[str [88], .slice (some ⟨B16, 0, none⟩) 1 1, str [89], .slice (some ⟨B23, 0, none⟩) 1 1, str [90], .slice none 0 0] 80)).heap.size := by simp; omega
        clear hS
        generalize W4.alloc (.cells #[str [88], .slice (some ⟨B16, 0, none⟩) 1 1, str [89], .slice (some ⟨B23, 0, none⟩) 1 1, str [90], .slice none 0 0] 80) = W5 at *
        generalize W4.heap.size = B26 at *
        have hS := (show W5.cell? ⟨PB, 3, none⟩ = some (.slice none 0 0) from fPB.cell 3)
        refine hK _ _ (fun _ => hS) ?_
        clear hK K
        repeat (first | (refine wpAnyG_take (i := 15) (v := .agg #[str [68], .slice none 0 0, .slice (some ⟨B26, 0, none⟩) 3 3]) rfl ?_ ?_ ?_ (fun _ _ _ h => h) (Or.inl ⟨by rfl, ?_⟩) hS ?_; (· decide +kernel); (· decide +kernel); (· decide +kernel); (· (intro w' hS'; go_simp))))
        refine wpAnyG_ready (rs := [16]) (by decide +kernel) (by simp) ?_
        refine AllReadyG.cons rfl (fun K hK => ?_) AllReadyG.nil
        go_simp
        have fB28 := Blk.new W5 83 [str [68], .slice none 0 0, .slice (some ⟨B26, 0, none⟩) 3 3]
        have nB28 : N0 ≤ W5.heap.size := hN
        replace fRB := fRB.alloc (.cells #[str [68], .slice none 0 0, .slice (some ⟨B26, 0, none⟩) 3 3] 83)
        replace fPB := fPB.alloc (.cells #[str [68], .slice none 0 0, .slice (some ⟨B26, 0, none⟩) 3 3] 83)
        replace fB16 := fB16.alloc (.cells #[str [68], .slice none 0 0, .slice (some ⟨B26, 0, none⟩) 3 3] 83)
        replace fB23 := fB23.alloc (.cells #[str [68], .slice none 0 0, .slice (some ⟨B26, 0, none⟩) 3 3] 83)
        replace fB26 := fB26.alloc (.cells #[str [68], .slice none 0 0, .slice (some ⟨B26, 0, none⟩) 3 3] 83)
        replace HB := HB.alloc (Nat.le_trans hN0 hN) (.cells #[str [68], .slice none 0 0, .slice (some ⟨B26, 0, none⟩) 3 3] 83)
        replace hN : N0 ≤ (W5.alloc (.cells #[str [68], .slice none 0 0, .slice (some ⟨B26, 0, none⟩) 3 3] 83)).heap.size := by simp; omega
        clear hS
        generalize W5.alloc (.cells #[str [68], .slice none 0 0, .slice (some ⟨B26, 0, none⟩) 3 3] 83) = W6 at *
        generalize W5.heap.size = B28 at *
        have hS := (show W6.cell? ⟨PB, 3, none⟩ = some (.slice none 0 0) from fPB.cell 3)
        refine hK _ _ (fun _ => hS) ?_
        clear hK K
        refine wpAnyG_ready (rs := [17]) (by decide +kernel) (by simp) ?_
        refine AllReadyG.cons rfl (fun K hK => ?_) AllReadyG.nil
        have hd : DtCells 4 W6 (fun b => N0 ≤ b) [str [68], .slice none 0 0, .slice (some ⟨B26, 0, none⟩) 3 3] (dD y) := dtD (d := 3) hy9 fB16 fB23 fB26 nB16 nB23 nB26
        refine step_app_dt _ rfl (.tmp 13) (.tmp 28) (by rfl) (base := N0) (v := .slice none 0 0) (n := 0) (xs := []) (World.ownsRow_nil _ _ _ _) rfl (D := Any) (A := some ⟨B28, 0, none⟩) (m := 1) (news := [str [68], .slice none 0 0, .slice (some ⟨B26, 0, none⟩) 3 3]) (c := 1) (fB28.reads trivial rfl) (by first | rfl | simp) (by simp [Value.oneCell']) (by omega) hN ?_
        intro v2 W9 hown2 hg2 hat2
        obtain ⟨A9, c9, rfl, _⟩ := own_form hown2
        replace fRB := fRB.grown hg2 (by simp [Value.ownBlock])
        replace fPB := fPB.grown hg2 (by simp [Value.ownBlock])
        replace HB := HB.grown hg2 (Nat.le_trans hN0 hN) (by simp [Value.ownBlock])
        have hol : DtsOwn W9 N0 (.slice A9 1 c9) [dD y] := dts_push (vss := []) (l := []) All2.nil ((DtCells.stable 4).imp hd fun b hb _ => ⟨hb, by simp [Value.ownBlock]⟩) hg2 hat2 hown2
        replace hN : N0 ≤ W9.heap.size := Nat.le_trans hN hg2.size
        clear hd hown2 hg2 hat2 hS fB16 fB23 fB26 fB28
        have hS : W9.cell? ⟨PB, 3, none⟩ = some (.slice none 0 0) := fPB.cell 3
        have z3 := fPB.frozen 3
        have lz := fPB.lt
        refine hK _ _ (fun _ => hS) ?_
        clear hK K
        repeat (first | (refine wpAnyG_take (i := 18) (v := .pointer (some ⟨PB, 3, none⟩)) rfl ?_ ?_ ?_ (fun _ _ _ h => h) (Or.inl ⟨by rfl, ?_⟩) hS ?_; (· decide +kernel); (· decide +kernel); (· decide +kernel); (· (intro w' hS'; go_simp))))
        refine wpAnyG_ready (rs := [19]) (by decide +kernel) (by simp) ?_
        refine AllReadyG.cons rfl (fun K hK => ?_) AllReadyG.nil
        go_simp
        refine hK _ _ (fun h => absurd h (by decide)) ?_
        clear hK K
        refine wpAnyG_done (by decide +kernel) ?_ _
        have fin := Lib.hid (And.intro (PgBk.put (A' := A9) (k' := 1) (c' := c9) HB hN fRB fPB AP.out) (dts_put (PB := PB) (i := 3) (x := .slice A9 1 c9) hol AP.out.2.2.1))
        clear hS z3 lz hol HB hN fRB fPB
        go_wp2_with (fail)
        go_meet
        exact ⟨rfl, A9, c9, fin⟩
      · go_simp
        refine (one_any y _).mono ?_
        rintro e w' ⟨rfl, rfl⟩
        try dsimp only
        replace fRB := fRB.alloc (.cells #[.int .i64 (y : Nat), str [], .slice none 0 0] 34)
        replace fPB := fPB.alloc (.cells #[.int .i64 (y : Nat), str [], .slice none 0 0] 34)
        replace HB := HB.alloc (Nat.le_trans hN0 hN) (.cells #[.int .i64 (y : Nat), str [], .slice none 0 0] 34)
        replace hN : N0 ≤ (W1.alloc (.cells #[.int .i64 (y : Nat), str [], .slice none 0 0] 34)).heap.size := by simp; omega
        clear hS
        generalize W1.alloc (.cells #[.int .i64 (y : Nat), str [], .slice none 0 0] 34) = W2 at *
        have hS := (show W2.cell? ⟨PB, 3, none⟩ = some (.slice none 0 0) from fPB.cell 3)
        refine hK _ _ (fun _ => hS) ?_
        clear hK K
        refine wpAnyG_ready (rs := [4, 11]) (by decide +kernel) (by simp) ?_
        refine AllReadyG.cons rfl (fun K hK => ?_) (AllReadyG.cons rfl (fun K hK => ?_) AllReadyG.nil)
        · go_simp
          have fB16 := Blk.new W2 34 [.int .i64 6, str [68], .slice none 0 0]
          have nB16 : N0 ≤ W2.heap.size := hN
          replace fRB := fRB.alloc (.cells #[.int .i64 6, str [68], .slice none 0 0] 34)
          replace fPB := fPB.alloc (.cells #[.int .i64 6, str [68], .slice none 0 0] 34)
          replace HB := HB.alloc (Nat.le_trans hN0 hN) (.cells #[.int .i64 6, str [68], .slice none 0 0] 34)
          replace hN : N0 ≤ (W2.alloc (.cells #[.int .i64 6, str [68], .slice none 0 0] 34)).heap.size := by simp; omega
          clear hS
          generalize W2.alloc (.cells #[.int .i64 6, str [68], .slice none 0 0] 34) = W3 at *
          generalize W2.heap.size = B16 at *
          have hS := (show W3.cell? ⟨PB, 3, none⟩ = some (.slice none 0 0) from fPB.cell 3)
          refine hK _ _ (fun _ => hS) ?_
          clear hK K
          repeat (first | (refine wpAnyG_take (i := 5) (v := .agg #[str [88], .slice (some ⟨B16, 0, none⟩) 1 1]) rfl ?_ ?_ ?_ (fun _ _ _ h => h) (Or.inl ⟨by rfl, ?_⟩) hS ?_; (· decide +kernel); (· decide +kernel); (· decide +kernel); (· (intro w' hS'; go_simp))))
          refine wpAnyG_ready (rs := [11]) (by decide +kernel) (by simp) ?_
          refine AllReadyG.cons rfl (fun K hK => ?_) AllReadyG.nil
          go_simp
          have fB23 := Blk.new W3 34 [.int .i64 (y : Nat), str [], .slice none 0 0]
          have nB23 : N0 ≤ W3.heap.size := hN
          replace fRB := fRB.alloc (.cells #[.int .i64 (y : Nat), str [], .slice none 0 0] 34)
          replace fPB := fPB.alloc (.cells #[.int .i64 (y : Nat), str [], .slice none 0 0] 34)
          replace fB16 := fB16.alloc (.cells #[.int .i64 (y : Nat), str [], .slice none 0 0] 34)
          replace HB := HB.alloc (Nat.le_trans hN0 hN) (.cells #[.int .i64 (y : Nat), str [], .slice none 0 0] 34)
          replace hN : N0 ≤ (W3.alloc (.cells #[.int .i64 (y : Nat), str [], .slice none 0 0] 34)).heap.size := by simp; omega
          clear hS
          generalize W3.alloc (.cells #[.int .i64 (y : Nat), str [], .slice none 0 0] 34) = W4 at *
          generalize W3.heap.size = B23 at *
          have hS := (show W4.cell? ⟨PB, 3, none⟩ = some (.slice none 0 0) from fPB.cell 3)
          refine hK _ _ (fun _ => hS) ?_
          clear hK K
          repeat (first | (refine wpAnyG_take (i := 12) (v := .agg #[str [89], .slice (some ⟨B23, 0, none⟩) 1 1]) rfl ?_ ?_ ?_ (fun _ _ _ h => h) (Or.inl ⟨by rfl, ?_⟩) hS ?_; (· decide +kernel); (· decide +kernel); (· decide +kernel); (· (intro w' hS'; go_simp))))
          refine wpAnyG_ready (rs := [14]) (by decide +kernel) (by simp) ?_
          refine AllReadyG.cons rfl (fun K hK => ?_) AllReadyG.nil
          go_simp
          have fB26 := Blk.new W4 80 [str [88], .slice (some ⟨B16, 0, none⟩) 1 1, str [89], .slice (some ⟨B23, 0, none⟩) 1 1, str [90], .slice none 0 0]
          have nB26 : N0 ≤ W4.heap.size := hN
          replace fRB := fRB.alloc (.cells #[str [88], .slice (some ⟨B16, 0, none⟩) 1 1, str [89], .slice (some ⟨B23, 0, none⟩) 1 1, str [90], .slice none 0 0] 80)
          replace fPB := fPB.alloc (.cells #[str [88], .slice (some ⟨B16, 0, none⟩) 1 1, str [89], .slice (some ⟨B23, 0, none⟩) 1 1, str [90], .slice none 0 0] 80)
          replace fB16 := fB16.alloc (.cells #[str [88], .slice (some ⟨B16, 0, none⟩) 1 1, str [89], .slice (some ⟨B23, 0, none⟩) 1 1, str [90], .slice none 0 0] 80)
          replace fB23 := fB23.alloc (.cells #[str [88], .slice (some ⟨B16, 0, none⟩) 1 1, str [89], .slice (some ⟨B23, 0, none⟩) 1 1, str [90], .slice none 0 0] 80)
          replace HB := HB.alloc (Nat.le_trans hN0 hN) (.cells #[str [88], .slice (some ⟨B16, 0, none⟩) 1 1, str [89], .slice (some ⟨B23, 0, none⟩) 1 1, str [90], .slice none 0 0] 80)
          replace hN : N0 ≤ (W4.alloc (.cells #[str [88], .slice (some ⟨B16, 0, none⟩) 1 1, str [89], .slice (some ⟨B23, 0, none⟩) 1 1, str [90], .slice none 0 0] 80)).heap.size := by simp; omega
          clear hS
          generalize W4.alloc (.cells #[str [88], .slice (some ⟨B16, 0, none⟩) 1 1, str [89], .slice (some ⟨B23, 0, none⟩) 1 1, str [90], .slice none 0 0] 80) = W5 at *
          generalize W4.heap.size = B26 at *
          have hS := (show W5.cell? ⟨PB, 3, none⟩ = some (.slice none 0 0) from fPB.cell 3)
          refine hK _ _ (fun _ => hS) ?_
          clear hK K
          repeat (first | (refine wpAnyG_take (i := 15) (v := .agg #[str [68], .slice none 0 0, .slice (some ⟨B26, 0, none⟩) 3 3]) rfl ?_ ?_ ?_ (fun _ _ _ h => h) (Or.inl ⟨by rfl, ?_⟩) hS ?_; (· decide +kernel); (· decide +kernel); (· decide +kernel); (· (intro w' hS'; go_simp))))
          refine wpAnyG_ready (rs := [16]) (by decide +kernel) (by simp) ?_
          refine AllReadyG.cons rfl (fun K hK => ?_) AllReadyG.nil
          go_simp
          have fB28 := Blk.new W5 83 [str [68], .slice none 0 0, .slice (some ⟨B26, 0, none⟩) 3 3]
          have nB28 : N0 ≤ W5.heap.size := hN
          replace fRB := fRB.alloc (.cells #[str [68], .slice none 0 0, .slice (some ⟨B26, 0, none⟩) 3 3] 83)
          replace fPB := fPB.alloc (.cells #[str [68], .slice none 0 0, .slice (some ⟨B26, 0, none⟩) 3 3] 83)
          replace fB16 := fB16.alloc (.cells #[str [68], .slice none 0 0, .slice (some ⟨B26, 0, none⟩) 3 3] 83)
          replace fB23 := fB23.alloc (.cells #[str [68], .slice none 0 0, .slice (some ⟨B26, 0, none⟩) 3 3] 83)
          replace fB26 := fB26.alloc (.cells #[str [68], .slice none 0 0, .slice (some ⟨B26, 0, none⟩) 3 3] 83)
          replace HB := HB.alloc (Nat.le_trans hN0 hN) (.cells #[str [68], .slice none 0 0, .slice (some ⟨B26, 0, none⟩) 3 3] 83)
          replace hN : N0 ≤ (W5.alloc (.cells #[str [68], .slice none 0 0, .slice (some ⟨B26, 0, none⟩) 3 3] 83)).heap.size := by simp; omega
          clear hS
          generalize W5.alloc (.cells #[str [68], .slice none 0 0, .slice (some ⟨B26, 0, none⟩) 3 3] 83) = W6 at *
          generalize W5.heap.size = B28 at *
          have hS := (show W6.cell? ⟨PB, 3, none⟩ = some (.slice none 0 0) from fPB.cell 3)
          refine hK _ _ (fun _ => hS) ?_
          clear hK K
          refine wpAnyG_ready (rs := [17]) (by decide +kernel) (by simp) ?_
          refine AllReadyG.cons rfl (fun K hK => ?_) AllReadyG.nil
          have hd : DtCells 4 W6 (fun b => N0 ≤ b) [str [68], .slice none 0 0, .slice (some ⟨B26, 0, none⟩) 3 3] (dD y) := dtD (d := 3) hy9 fB16 fB23 fB26 nB16 nB23 nB26
          refine step_app_dt _ rfl (.tmp 13) (.tmp 28) (by rfl) (base := N0) (v := .slice none 0 0) (n := 0) (xs := []) (World.ownsRow_nil _ _ _ _) rfl (D := Any) (A := some ⟨B28, 0, none⟩) (m := 1) (news := [str [68], .slice none 0 0, .slice (some ⟨B26, 0, none⟩) 3 3]) (c := 1) (fB28.reads trivial rfl) (by first | rfl | simp) (by simp [Value.oneCell']) (by omega) hN ?_
          intro v2 W9 hown2 hg2 hat2
          obtain ⟨A9, c9, rfl, _⟩ := own_form hown2
          replace fRB := fRB.grown hg2 (by simp [Value.ownBlock])
          replace fPB := fPB.grown hg2 (by simp [Value.ownBlock])
          replace HB := HB.grown hg2 (Nat.le_trans hN0 hN) (by simp [Value.ownBlock])
          have hol : DtsOwn W9 N0 (.slice A9 1 c9) [dD y] := dts_push (vss := []) (l := []) All2.nil ((DtCells.stable 4).imp hd fun b hb _ => ⟨hb, by simp [Value.ownBlock]⟩) hg2 hat2 hown2
          replace hN : N0 ≤ W9.heap.size := Nat.le_trans hN hg2.size
          clear hd hown2 hg2 hat2 hS fB16 fB23 fB26 fB28
          have hS : W9.cell? ⟨PB, 3, none⟩ = some (.slice none 0 0) := fPB.cell 3
          have z3 := fPB.frozen 3
          have lz := fPB.lt
          refine hK _ _ (fun _ => hS) ?_
          clear hK K
          repeat (first | (refine wpAnyG_take (i := 18) (v := .pointer (some ⟨PB, 3, none⟩)) rfl ?_ ?_ ?_ (fun _ _ _ h => h) (Or.inl ⟨by rfl, ?_⟩) hS ?_; (· decide +kernel); (· decide +kernel); (· decide +kernel); (· (intro w' hS'; go_simp))))
          refine wpAnyG_ready (rs := [19]) (by decide +kernel) (by simp) ?_
          refine AllReadyG.cons rfl (fun K hK => ?_) AllReadyG.nil
          go_simp
          refine hK _ _ (fun h => absurd h (by decide)) ?_
          clear hK K
          refine wpAnyG_done (by decide +kernel) ?_ _
          have fin := Lib.hid (And.intro (PgBk.put (A' := A9) (k' := 1) (c' := c9) HB hN fRB fPB AP.out) (dts_put (PB := PB) (i := 3) (x := .slice A9 1 c9) hol AP.out.2.2.1))
          clear hS z3 lz hol HB hN fRB fPB
          go_wp2_with (fail)
          go_meet
          exact ⟨rfl, A9, c9, fin⟩
        · go_simp
          have fB23 := Blk.new W2 34 [.int .i64 (y : Nat), str [], .slice none 0 0]
          have nB23 : N0 ≤ W2.heap.size := hN
          replace fRB := fRB.alloc (.cells #[.int .i64 (y : Nat), str [], .slice none 0 0] 34)
          replace fPB := fPB.alloc (.cells #[.int .i64 (y : Nat), str [], .slice none 0 0] 34)
          replace HB := HB.alloc (Nat.le_trans hN0 hN) (.cells #[.int .i64 (y : Nat), str [], .slice none 0 0] 34)
          replace hN : N0 ≤ (W2.alloc (.cells #[.int .i64 (y : Nat), str [], .slice none 0 0] 34)).heap.size := by simp; omega
          clear hS
          generalize W2.alloc (.cells #[.int .i64 (y : Nat), str [], .slice none 0 0] 34) = W3 at *
          generalize W2.heap.size = B23 at *
          have hS := (show W3.cell? ⟨PB, 3, none⟩ = some (.slice none 0 0) from fPB.cell 3)
          refine hK _ _ (fun _ => hS) ?_
          clear hK K
          repeat (first | (refine wpAnyG_take (i := 12) (v := .agg #[str [89], .slice (some ⟨B23, 0, none⟩) 1 1]) rfl ?_ ?_ ?_ (fun _ _ _ h => h) (Or.inl ⟨by rfl, ?_⟩) hS ?_; (· decide +kernel); (· decide +kernel); (· decide +kernel); (· (intro w' hS'; go_simp))))
          refine wpAnyG_ready (rs := [4]) (by decide +kernel) (by simp) ?_
          refine AllReadyG.cons rfl (fun K hK => ?_) AllReadyG.nil
          go_simp
          have fB16 := Blk.new W3 34 [.int .i64 6, str [68], .slice none 0 0]
          have nB16 : N0 ≤ W3.heap.size := hN
          replace fRB := fRB.alloc (.cells #[.int .i64 6, str [68], .slice none 0 0] 34)
          replace fPB := fPB.alloc (.cells #[.int .i64 6, str [68], .slice none 0 0] 34)
          replace fB23 := fB23.alloc (.cells #[.int .i64 6, str [68], .slice none 0 0] 34)
          replace HB := HB.alloc (Nat.le_trans hN0 hN) (.cells #[.int .i64 6, str [68], .slice none 0 0] 34)
          replace hN : N0 ≤ (W3.alloc (.cells #[.int .i64 6, str [68], .slice none 0 0] 34)).heap.size := by simp; omega
          clear hS
          generalize W3.alloc (.cells #[.int .i64 6, str [68], .slice none 0 0] 34) = W4 at *
          generalize W3.heap.size = B16 at *
          have hS := (show W4.cell? ⟨PB, 3, none⟩ = some (.slice none 0 0) from fPB.cell 3)
          refine hK _ _ (fun _ => hS) ?_
          clear hK K
          repeat (first | (refine wpAnyG_take (i := 5) (v := .agg #[str [88], .slice (some ⟨B16, 0, none⟩) 1 1]) rfl ?_ ?_ ?_ (fun _ _ _ h => h) (Or.inl ⟨by rfl, ?_⟩) hS ?_; (· decide +kernel); (· decide +kernel); (· decide +kernel); (· (intro w' hS'; go_simp))))
          refine wpAnyG_ready (rs := [14]) (by decide +kernel) (by simp) ?_
          refine AllReadyG.cons rfl (fun K hK => ?_) AllReadyG.nil
          go_simp
          have fB26 := Blk.new W4 80 [str [88], .slice (some ⟨B16, 0, none⟩) 1 1, str [89], .slice (some ⟨B23, 0, none⟩) 1 1, str [90], .slice none 0 0]
          have nB26 : N0 ≤ W4.heap.size := hN
          replace fRB := fRB.alloc (.cells #[str [88], .slice (some ⟨B16, 0, none⟩) 1 1, str [89], .slice (some ⟨B23, 0, none⟩) 1 1, str [90], .slice none 0 0] 80)
          replace fPB := fPB.alloc (.cells #[str [88], .slice (some ⟨B16, 0, none⟩) 1 1, str [89], .slice (some ⟨B23, 0, none⟩) 1 1, str [90], .slice none 0 0] 80)
          replace fB23 := fB23.alloc (.cells #[str [88], .slice (some ⟨B16, 0, none⟩) 1 1, str [89], .slice (some ⟨B23, 0, none⟩) 1 1, str [90], .slice none 0 0] 80)
          replace fB16 := fB16.alloc (.cells #[str [88], .slice (some ⟨B16, 0, none⟩) 1 1, str [89], .slice (some ⟨B23, 0, none⟩) 1 1, str [90], .slice none 0 0] 80)
          replace HB := HB.alloc (Nat.le_trans hN0 hN) (.cells #[str [88], .slice (some ⟨B16, 0, none⟩) 1 1, str [89], .slice (some ⟨B23, 0, none⟩) 1 1, str [90], .slice none 0 0] 80)
          replace hN : N0 ≤ (W4.alloc (.cells #[str [88], .slice (some ⟨B16, 0, none⟩) 1 1, str [89], .slice (some ⟨B23, 0, none⟩) 1 1, str [90], .slice none 0 0] 80)).heap.size := by simp; omega
          clear hS
          generalize W4.alloc (.cells #[str [88], .slice (some ⟨B16, 0, none⟩) 1 1, str [89], .slice (some ⟨B23, 0, none⟩) 1 1, str [90], .slice none 0 0] 80) = W5 at *
          generalize W4.heap.size = B26 at *
          have hS := (show W5.cell? ⟨PB, 3, none⟩ = some (.slice none 0 0) from fPB.cell 3)
          refine hK _ _ (fun _ => hS) ?_
          clear hK K
          repeat (first | (refine wpAnyG_take (i := 15) (v := .agg #[str [68], .slice none 0 0, .slice (some ⟨B26, 0, none⟩) 3 3]) rfl ?_ ?_ ?_ (fun _ _ _ h => h) (Or.inl ⟨by rfl, ?_⟩) hS ?_; (· decide +kernel); (· decide +kernel); (· decide +kernel); (· (intro w' hS'; go_simp))))
          refine wpAnyG_ready (rs := [16]) (by decide +kernel) (by simp) ?_
          refine AllReadyG.cons rfl (fun K hK => ?_) AllReadyG.nil
          go_simp
          have fB28 := Blk.new W5 83 [str [68], .slice none 0 0, .slice (some ⟨B26, 0, none⟩) 3 3]
          have nB28 : N0 ≤ W5.heap.size := hN
          replace fRB := fRB.alloc (.cells #[str [68], .slice none 0 0, .slice (some ⟨B26, 0, none⟩) 3 3] 83)
          replace fPB := fPB.alloc (.cells #[str [68], .slice none 0 0, .slice (some ⟨B26, 0, none⟩) 3 3] 83)
          replace fB23 := fB23.alloc (.cells #[str [68], .slice none 0 0, .slice (some ⟨B26, 0, none⟩) 3 3] 83)
          replace fB16 := fB16.alloc (.cells #[str [68], .slice none 0 0, .slice (some ⟨B26, 0, none⟩) 3 3] 83)
          replace fB26 := fB26.alloc (.cells #[str [68], .slice none 0 0, .slice (some ⟨B26, 0, none⟩) 3 3] 83)
          replace HB := HB.alloc (Nat.le_trans hN0 hN) (.cells #[str [68], .slice none 0 0, .slice (some ⟨B26, 0, none⟩) 3 3] 83)
          replace hN : N0 ≤ (W5.alloc (.cells #[str [68], .slice none 0 0, .slice (some ⟨B26, 0, none⟩) 3 3] 83)).heap.size := by simp; omega
          clear hS
          generalize W5.alloc (.cells #[str [68], .slice none 0 0, .slice (some ⟨B26, 0, none⟩) 3 3] 83) = W6 at *
          generalize W5.heap.size = B28 at *
          have hS := (show W6.cell? ⟨PB, 3, none⟩ = some (.slice none 0 0) from fPB.cell 3)
          refine hK _ _ (fun _ => hS) ?_
          clear hK K
          refine wpAnyG_ready (rs := [17]) (by decide +kernel) (by simp) ?_
          refine AllReadyG.cons rfl (fun K hK => ?_) AllReadyG.nil
          have hd : DtCells 4 W6 (fun b => N0 ≤ b) [str [68], .slice none 0 0, .slice (some ⟨B26, 0, none⟩) 3 3] (dD y) := dtD (d := 3) hy9 fB16 fB23 fB26 nB16 nB23 nB26
          refine step_app_dt _ rfl (.tmp 13) (.tmp 28) (by rfl) (base := N0) (v := .slice none 0 0) (n := 0) (xs := []) (World.ownsRow_nil _ _ _ _) rfl (D := Any) (A := some ⟨B28, 0, none⟩) (m := 1) (news := [str [68], .slice none 0 0, .slice (some ⟨B26, 0, none⟩) 3 3]) (c := 1) (fB28.reads trivial rfl) (by first | rfl | simp) (by simp [Value.oneCell']) (by omega) hN ?_
          intro v2 W9 hown2 hg2 hat2
          obtain ⟨A9, c9, rfl, _⟩ := own_form hown2
          replace fRB := fRB.grown hg2 (by simp [Value.ownBlock])
          replace fPB := fPB.grown hg2 (by simp [Value.ownBlock])
          replace HB := HB.grown hg2 (Nat.le_trans hN0 hN) (by simp [Value.ownBlock])
          have hol : DtsOwn W9 N0 (.slice A9 1 c9) [dD y] := dts_push (vss := []) (l := []) All2.nil ((DtCells.stable 4).imp hd fun b hb _ => ⟨hb, by simp [Value.ownBlock]⟩) hg2 hat2 hown2
          replace hN : N0 ≤ W9.heap.size := Nat.le_trans hN hg2.size
          clear hd hown2 hg2 hat2 hS fB16 fB23 fB26 fB28
          have hS : W9.cell? ⟨PB, 3, none⟩ = some (.slice none 0 0) := fPB.cell 3
          have z3 := fPB.frozen 3
          have lz := fPB.lt
          refine hK _ _ (fun _ => hS) ?_
          clear hK K
          repeat (first | (refine wpAnyG_take (i := 18) (v := .pointer (some ⟨PB, 3, none⟩)) rfl ?_ ?_ ?_ (fun _ _ _ h => h) (Or.inl ⟨by rfl, ?_⟩) hS ?_; (· decide +kernel); (· decide +kernel); (· decide +kernel); (· (intro w' hS'; go_simp))))
          refine wpAnyG_ready (rs := [19]) (by decide +kernel) (by simp) ?_
          refine AllReadyG.cons rfl (fun K hK => ?_) AllReadyG.nil
          go_simp
          refine hK _ _ (fun h => absurd h (by decide)) ?_
          clear hK K
          refine wpAnyG_done (by decide +kernel) ?_ _
          have fin := Lib.hid (And.intro (PgBk.put (A' := A9) (k' := 1) (c' := c9) HB hN fRB fPB AP.out) (dts_put (PB := PB) (i := 3) (x := .slice A9 1 c9) hol AP.out.2.2.1))
          clear hS z3 lz hol HB hN fRB fPB
          go_wp2_with (fail)
          go_meet
          exact ⟨rfl, A9, c9, fin⟩
  case rest =>
    obtain ⟨rfl, A, c, HP⟩ := hcut
    rename World => W
    go_upto_region 5 with (fail)
    go_cut [5] (fun s5 wc => s5 = .pointer (some ⟨PB, 0, none⟩) ∧ ∃ A c b33 b38 b40 b42, Hid (PgBk w wc N0 RB PB A 2 c ∧ PgL wc N0 A c y b33 b38 b40 b42))
    case first =>
      obtain ⟨hbk, hol⟩ := HP.out
      obtain ⟨vss, how, hal⟩ := hol
      obtain ⟨cs, rfl, hcs⟩ : ∃ cs, vss = [cs] ∧ DtCells 4 W (fun b => N0 ≤ b ∧ (Value.slice A 1 c).ownBlock ≠ some b) cs (dD y) := by
        match vss, hal with
        | [cs], h => exact ⟨cs, rfl, h.2 0 cs (dD y) rfl rfl⟩
        | [], h => exact absurd h.1 (by simp)
        | a :: b :: r, h => exact absurd h.1 (by simp)
      refine wp_region_g (S := fun w' => w'.cell? ⟨PB, 3, none⟩ = some (.slice A 1 c)) (m := 16) (by kernel_rfl) ?_
      have fRB := hbk.rb.drew
      have fPB := hbk.pb.drew
      have HB : Below w.heap.size w (World.drew W) := ⟨hbk.be.os, hbk.be.tape, hbk.be.output, hbk.be.size, hbk.be.block⟩
      obtain ⟨L0, hL0'⟩ : ∃ L, L = W.heap.size := ⟨_, rfl⟩
      have hN : L0 ≤ (World.drew W).heap.size := by rw [hL0']; exact Nat.le_refl _
      have hNL : N0 ≤ L0 := by rw [hL0']; exact hbk.lo
      have hL0 : w.heap.size ≤ L0 := by rw [hL0']; exact hbk.be.size
      have hoL : ∀ k, (Value.slice A 1 c).ownBlock = some k → k < L0 := fun k hk => by rw [hL0']; exact (how.lt k hk).2
      have how' : W.ownsRow N0 83 3 (.slice A 1 c) 1 cs := by simpa using how
      have fOW : (World.drew W).ownsRow N0 83 3 (.slice A 1 c) 1 cs := how'
      have fDD : DtCells 4 (World.drew W) (fun b => N0 ≤ b ∧ (Value.slice A 1 c).ownBlock ≠ some b ∧ b < L0) cs (dD y) := (DtCells.stable 4).keep ((DtCells.stable 4).imp hcs fun b hb hl => ⟨hb.1, hb.2, by rw [hL0']; exact hl⟩) fun b _ _ => rfl
      clear hL0' hal hcs how how' hbk HP
      generalize World.drew W = W0 at *
      have hS : W0.cell? ⟨PB, 3, none⟩ = some (.slice A 1 c) := fPB.cell 3
      repeat (first | (refine wpAnyG_take (i := 0) (v := .pointer (some ⟨PB, 3, none⟩)) rfl ?_ ?_ ?_ (fun _ _ _ h => h) (Or.inl ⟨by rfl, ?_⟩) hS ?_; (· decide +kernel); (· decide +kernel); (· decide +kernel); (· (intro w' hS'; go_simp))) | (refine wpAnyG_take (i := 1) (v := .slice A 1 c) rfl ?_ ?_ ?_ (fun _ _ _ h => h) (Or.inl ⟨by rfl, ?_⟩) hS ?_; (· decide +kernel); (· decide +kernel); (· decide +kernel); (· (intro w' hS'; go_simp))) | (refine wpAnyG_take (i := 3) (v := .agg #[str [78], .slice none 0 0]) rfl ?_ ?_ ?_ (fun _ _ _ h => h) (Or.inl ⟨by rfl, ?_⟩) hS ?_; (· decide +kernel); (· decide +kernel); (· decide +kernel); (· (intro w' hS'; go_simp))) | (refine wpAnyG_take (i := 4) (v := .agg #[.int .i64 5, str [97], .slice none 0 0]) rfl ?_ ?_ ?_ (fun _ _ _ h => h) (Or.inl ⟨by rfl, ?_⟩) hS ?_; (· decide +kernel); (· decide +kernel); (· decide +kernel); (· (intro w' hS'; go_simp))) | (refine wpAnyG_take (i := 5) (v := .func (.func 27) #[] #[]) rfl ?_ ?_ ?_ (fun _ _ _ h => h) (Or.inl ⟨by rfl, ?_⟩) hS ?_; (· decide +kernel); (· decide +kernel); (· decide +kernel); (· (intro w' hS'; go_simp))) | (refine wpAnyG_take (i := 6) (v := .agg #[.int .i64 5, str [97], .slice none 0 0]) rfl ?_ ?_ ?_ (fun _ _ _ h => h) (Or.inl ⟨by rfl, ?_⟩) hS ?_; (· decide +kernel); (· decide +kernel); (· decide +kernel); (· (intro w' hS'; go_simp))))
      refine wpAnyG_ready (rs := [2, 7]) (by decide +kernel) (by simp) ?_
      refine AllReadyG.cons rfl (fun K hK => ?_) (AllReadyG.cons rfl (fun K hK => ?_) AllReadyG.nil)
      · go_simp
        have fB33 := Blk.new W0 9 [str [97]]
        have nB33 : L0 ≤ W0.heap.size := hN
        replace fRB := fRB.alloc (.cells #[str [97]] 9)
        replace fPB := fPB.alloc (.cells #[str [97]] 9)
        replace fOW := fOW.alloc (.cells #[str [97]] 9)
        replace fDD := dt_alloc fDD (.cells #[str [97]] 9)
        replace HB := HB.alloc (Nat.le_trans hL0 hN) (.cells #[str [97]] 9)
        replace hN : L0 ≤ (W0.alloc (.cells #[str [97]] 9)).heap.size := by simp; omega
        clear hS
        generalize W0.alloc (.cells #[str [97]] 9) = W1 at *
        generalize W0.heap.size = B33 at *
        have hS := (show W1.cell? ⟨PB, 3, none⟩ = some (.slice A 1 c) from fPB.cell 3)
        refine hK _ _ (fun _ => hS) ?_
        clear hK K
        refine wpAnyG_ready (rs := [7]) (by decide +kernel) (by simp) ?_
        refine AllReadyG.cons rfl (fun K hK => ?_) AllReadyG.nil
        go_simp
        have fB38 := Blk.new W1 34 [.int .i64 5, str [97], .slice none 0 0]
        have nB38 : L0 ≤ W1.heap.size := hN
        replace fRB := fRB.alloc (.cells #[.int .i64 5, str [97], .slice none 0 0] 34)
        replace fPB := fPB.alloc (.cells #[.int .i64 5, str [97], .slice none 0 0] 34)
        replace fOW := fOW.alloc (.cells #[.int .i64 5, str [97], .slice none 0 0] 34)
        replace fDD := dt_alloc fDD (.cells #[.int .i64 5, str [97], .slice none 0 0] 34)
        replace fB33 := fB33.alloc (.cells #[.int .i64 5, str [97], .slice none 0 0] 34)
        replace HB := HB.alloc (Nat.le_trans hL0 hN) (.cells #[.int .i64 5, str [97], .slice none 0 0] 34)
        replace hN : L0 ≤ (W1.alloc (.cells #[.int .i64 5, str [97], .slice none 0 0] 34)).heap.size := by simp; omega
        clear hS
        generalize W1.alloc (.cells #[.int .i64 5, str [97], .slice none 0 0] 34) = W2 at *
        generalize W1.heap.size = B38 at *
        have hS := (show W2.cell? ⟨PB, 3, none⟩ = some (.slice A 1 c) from fPB.cell 3)
        refine hK _ _ (fun _ => hS) ?_
        clear hK K
        refine wpAnyG_ready (rs := [8]) (by decide +kernel) (by simp) ?_
        refine AllReadyG.cons rfl (fun K hK => ?_) AllReadyG.nil
        go_simp
        refine (named_any [76] (some ⟨B38, 0, none⟩) 1 1 _).mono ?_
        rintro e w' ⟨rfl, rfl⟩
        try dsimp only
        replace fRB := fRB.alloc (.cells #[.int .i64 6, str [76], .slice (some ⟨B38, 0, none⟩) 1 1] 34)
        replace fPB := fPB.alloc (.cells #[.int .i64 6, str [76], .slice (some ⟨B38, 0, none⟩) 1 1] 34)
        replace fOW := fOW.alloc (.cells #[.int .i64 6, str [76], .slice (some ⟨B38, 0, none⟩) 1 1] 34)
        replace fDD := dt_alloc fDD (.cells #[.int .i64 6, str [76], .slice (some ⟨B38, 0, none⟩) 1 1] 34)
        replace fB33 := fB33.alloc (.cells #[.int .i64 6, str [76], .slice (some ⟨B38, 0, none⟩) 1 1] 34)
        replace fB38 := fB38.alloc (.cells #[.int .i64 6, str [76], .slice (some ⟨B38, 0, none⟩) 1 1] 34)
        replace HB := HB.alloc (Nat.le_trans hL0 hN) (.cells #[.int .i64 6, str [76], .slice (some ⟨B38, 0, none⟩) 1 1] 34)
        replace hN : L0 ≤ (W2.alloc (.cells #[.int .i64 6, str [76], .slice (some ⟨B38, 0, none⟩) 1 1] 34)).heap.size := by simp; omega
        clear hS
        generalize W2.alloc (.cells #[.int .i64 6, str [76], .slice (some ⟨B38, 0, none⟩) 1 1] 34) = W3 at *
        have hS := (show W3.cell? ⟨PB, 3, none⟩ = some (.slice A 1 c) from fPB.cell 3)
        refine hK _ _ (fun _ => hS) ?_
        clear hK K
        refine wpAnyG_ready (rs := [9]) (by decide +kernel) (by simp) ?_
        refine AllReadyG.cons rfl (fun K hK => ?_) AllReadyG.nil
        go_simp
        have fB40 := Blk.new W3 34 [.int .i64 5, str [97], .slice none 0 0, .int .i64 6, str [76], .slice (some ⟨B38, 0, none⟩) 1 1]
        have nB40 : L0 ≤ W3.heap.size := hN
        replace fRB := fRB.alloc (.cells #[.int .i64 5, str [97], .slice none 0 0, .int .i64 6, str [76], .slice (some ⟨B38, 0, none⟩) 1 1] 34)
        replace fPB := fPB.alloc (.cells #[.int .i64 5, str [97], .slice none 0 0, .int .i64 6, str [76], .slice (some ⟨B38, 0, none⟩) 1 1] 34)
        replace fOW := fOW.alloc (.cells #[.int .i64 5, str [97], .slice none 0 0, .int .i64 6, str [76], .slice (some ⟨B38, 0, none⟩) 1 1] 34)
        replace fDD := dt_alloc fDD (.cells #[.int .i64 5, str [97], .slice none 0 0, .int .i64 6, str [76], .slice (some ⟨B38, 0, none⟩) 1 1] 34)
        replace fB33 := fB33.alloc (.cells #[.int .i64 5, str [97], .slice none 0 0, .int .i64 6, str [76], .slice (some ⟨B38, 0, none⟩) 1 1] 34)
        replace fB38 := fB38.alloc (.cells #[.int .i64 5, str [97], .slice none 0 0, .int .i64 6, str [76], .slice (some ⟨B38, 0, none⟩) 1 1] 34)
        replace HB := HB.alloc (Nat.le_trans hL0 hN) (.cells #[.int .i64 5, str [97], .slice none 0 0, .int .i64 6, str [76], .slice (some ⟨B38, 0, none⟩) 1 1] 34)
        replace hN : L0 ≤ (W3.alloc (.cells #[.int .i64 5, str [97], .slice none 0 0, .int .i64 6, str [76], .slice (some ⟨B38, 0, none⟩) 1 1] 34)).heap.size := by simp; omega
        clear hS
        generalize W3.alloc (.cells #[.int .i64 5, str [97], .slice none 0 0, .int .i64 6, str [76], .slice (some ⟨B38, 0, none⟩) 1 1] 34) = W4 at *
        generalize W3.heap.size = B40 at *
        have hS := (show W4.cell? ⟨PB, 3, none⟩ = some (.slice A 1 c) from fPB.cell 3)
        refine hK _ _ (fun _ => hS) ?_
        clear hK K
        repeat (first | (refine wpAnyG_take (i := 10) (v := .agg #[str [67], .slice (some ⟨B40, 0, none⟩) 2 2]) rfl ?_ ?_ ?_ (fun _ _ _ h => h) (Or.inl ⟨by rfl, ?_⟩) hS ?_; (· decide +kernel); (· decide +kernel); (· decide +kernel); (· (intro w' hS'; go_simp))))
        refine wpAnyG_ready (rs := [11]) (by decide +kernel) (by simp) ?_
        refine AllReadyG.cons rfl (fun K hK => ?_) AllReadyG.nil
        go_simp
        have fB42 := Blk.new W4 80 [str [78], .slice none 0 0, str [67], .slice (some ⟨B40, 0, none⟩) 2 2]
        have nB42 : L0 ≤ W4.heap.size := hN
        replace fRB := fRB.alloc (.cells #[str [78], .slice none 0 0, str [67], .slice (some ⟨B40, 0, none⟩) 2 2] 80)
        replace fPB := fPB.alloc (.cells #[str [78], .slice none 0 0, str [67], .slice (some ⟨B40, 0, none⟩) 2 2] 80)
        replace fOW := fOW.alloc (.cells #[str [78], .slice none 0 0, str [67], .slice (some ⟨B40, 0, none⟩) 2 2] 80)
        replace fDD := dt_alloc fDD (.cells #[str [78], .slice none 0 0, str [67], .slice (some ⟨B40, 0, none⟩) 2 2] 80)
        replace fB33 := fB33.alloc (.cells #[str [78], .slice none 0 0, str [67], .slice (some ⟨B40, 0, none⟩) 2 2] 80)
        replace fB38 := fB38.alloc (.cells #[str [78], .slice none 0 0, str [67], .slice (some ⟨B40, 0, none⟩) 2 2] 80)
        replace fB40 := fB40.alloc (.cells #[str [78], .slice none 0 0, str [67], .slice (some ⟨B40, 0, none⟩) 2 2] 80)
        replace HB := HB.alloc (Nat.le_trans hL0 hN) (.cells #[str [78], .slice none 0 0, str [67], .slice (some ⟨B40, 0, none⟩) 2 2] 80)
        replace hN : L0 ≤ (W4.alloc (.cells #[str [78], .slice none 0 0, str [67], .slice (some ⟨B40, 0, none⟩) 2 2] 80)).heap.size := by simp; omega
        clear hS
        generalize W4.alloc (.cells #[str [78], .slice none 0 0, str [67], .slice (some ⟨B40, 0, none⟩) 2 2] 80) = W5 at *
        generalize W4.heap.size = B42 at *
        have hS := (show W5.cell? ⟨PB, 3, none⟩ = some (.slice A 1 c) from fPB.cell 3)
        refine hK _ _ (fun _ => hS) ?_
        clear hK K
        repeat (first | (refine wpAnyG_take (i := 12) (v := .agg #[str [76], .slice (some ⟨B33, 0, none⟩) 1 1, .slice (some ⟨B42, 0, none⟩) 2 2]) rfl ?_ ?_ ?_ (fun _ _ _ h => h) (Or.inl ⟨by rfl, ?_⟩) hS ?_; (· decide +kernel); (· decide +kernel); (· decide +kernel); (· (intro w' hS'; go_simp))))
        refine wpAnyG_ready (rs := [13]) (by decide +kernel) (by simp) ?_
        refine AllReadyG.cons rfl (fun K hK => ?_) AllReadyG.nil
        go_simp
        have fB44 := Blk.new W5 83 [str [76], .slice (some ⟨B33, 0, none⟩) 1 1, .slice (some ⟨B42, 0, none⟩) 2 2]
        have nB44 : L0 ≤ W5.heap.size := hN
        replace fRB := fRB.alloc (.cells #[str [76], .slice (some ⟨B33, 0, none⟩) 1 1, .slice (some ⟨B42, 0, none⟩) 2 2] 83)
        replace fPB := fPB.alloc (.cells #[str [76], .slice (some ⟨B33, 0, none⟩) 1 1, .slice (some ⟨B42, 0, none⟩) 2 2] 83)
        replace fOW := fOW.alloc (.cells #[str [76], .slice (some ⟨B33, 0, none⟩) 1 1, .slice (some ⟨B42, 0, none⟩) 2 2] 83)
        replace fDD := dt_alloc fDD (.cells #[str [76], .slice (some ⟨B33, 0, none⟩) 1 1, .slice (some ⟨B42, 0, none⟩) 2 2] 83)
        replace fB33 := fB33.alloc (.cells #[str [76], .slice (some ⟨B33, 0, none⟩) 1 1, .slice (some ⟨B42, 0, none⟩) 2 2] 83)
        replace fB38 := fB38.alloc (.cells #[str [76], .slice (some ⟨B33, 0, none⟩) 1 1, .slice (some ⟨B42, 0, none⟩) 2 2] 83)
        replace fB40 := fB40.alloc (.cells #[str [76], .slice (some ⟨B33, 0, none⟩) 1 1, .slice (some ⟨B42, 0, none⟩) 2 2] 83)
        replace fB42 := fB42.alloc (.cells #[str [76], .slice (some ⟨B33, 0, none⟩) 1 1, .slice (some ⟨B42, 0, none⟩) 2 2] 83)
        replace HB := HB.alloc (Nat.le_trans hL0 hN) (.cells #[str [76], .slice (some ⟨B33, 0, none⟩) 1 1, .slice (some ⟨B42, 0, none⟩) 2 2] 83)
        replace hN : L0 ≤ (W5.alloc (.cells #[str [76], .slice (some ⟨B33, 0, none⟩) 1 1, .slice (some ⟨B42, 0, none⟩) 2 2] 83)).heap.size := by simp; omega
        clear hS
        generalize W5.alloc (.cells #[str [76], .slice (some ⟨B33, 0, none⟩) 1 1, .slice (some ⟨B42, 0, none⟩) 2 2] 83) = W6 at *
        generalize W5.heap.size = B44 at *
        have hS := (show W6.cell? ⟨PB, 3, none⟩ = some (.slice A 1 c) from fPB.cell 3)
        refine hK _ _ (fun _ => hS) ?_
        clear hK K
        refine wpAnyG_ready (rs := [14]) (by decide +kernel) (by simp) ?_
        refine AllReadyG.cons rfl (fun K hK => ?_) AllReadyG.nil
        refine step_app_dt _ rfl (.tmp 32) (.tmp 44) (by rfl) (base := N0) (v := .slice A 1 c) (n := 1) (xs := cs) fOW rfl (D := Any) (A := some ⟨B44, 0, none⟩) (m := 1) (news := [str [76], .slice (some ⟨B33, 0, none⟩) 1 1, .slice (some ⟨B42, 0, none⟩) 2 2]) (c := 1) (fB44.reads trivial rfl) (by first | rfl | simp) (by simp [Value.oneCell']) (by omega) (Nat.le_trans hNL hN) ?_
        intro v2 W9 hown2 hg2 hat2
        obtain ⟨A9, c9, rfl, _⟩ := own_form hown2
        have hne : ∀ b, L0 ≤ b → some b ≠ (Value.slice A 1 c).ownBlock := fun b hb e => by have := hoL b e.symm; omega
        have hne0 : ∀ b, b < N0 → some b ≠ (Value.slice A 1 c).ownBlock := fun b hb e => by have := (fOW.lt b e.symm).1; omega
        have hne9 : ∀ b, L0 ≤ b → b < W6.heap.size → (Value.slice A9 2 c9).ownBlock ≠ some b := fun b hb hl e => by
          rcases hat2 with h | h
          · rw [h] at e; exact hne b hb e.symm
          · rw [h] at e; injection e with e; omega
        have l33 := fB33.lt
        have l38 := fB38.lt
        have l40 := fB40.lt
        have l42 := fB42.lt
        replace fRB := fRB.grown hg2 (hne0 _ AP.out.2.1)
        replace fPB := fPB.grown hg2 (hne0 _ AP.out.2.2.1)
        replace HB := HB.grown hg2 (Nat.le_trans hL0 hN) (fun k hk => Nat.le_trans AP.out.2.2.2.2.2 (fOW.lt k hk).1)
        have hpl : PgL W9 N0 A9 c9 y B33 B38 B40 B42 := by
          refine ⟨⟨cs, hown2, ?_⟩, fB33.grown hg2 (hne _ nB33), fB38.grown hg2 (hne _ nB38), fB40.grown hg2 (hne _ nB40), fB42.grown hg2 (hne _ nB42), ⟨by omega, hne9 _ nB33 l33⟩, ⟨by omega, hne9 _ nB38 l38⟩, ⟨by omega, hne9 _ nB40 l40⟩, ⟨by omega, hne9 _ nB42 l42⟩⟩
          have h2 := (DtCells.stable 4).keep (w' := W9) fDD (fun b hb hl => hg2.block b hl (fun e => hb.2.1 e.symm))
          refine (DtCells.stable 4).imp h2 fun b hb _ => ⟨hb.1, fun e => ?_, by omega⟩
          rcases hat2 with h | h
          · rw [h] at e; exact hb.2.1 e
          · rw [h] at e; injection e with e; omega
        replace hN : N0 ≤ W9.heap.size := Nat.le_trans (Nat.le_trans hNL hN) hg2.size
        clear fOW fDD hne hne0 hne9 l33 l38 l40 l42 hown2 hg2 hat2 hS fB33 fB38 fB40 fB42 fB44 hoL
        have hS : W9.cell? ⟨PB, 3, none⟩ = some (.slice A 1 c) := fPB.cell 3
        have z3 := fPB.frozen 3
        have lz := fPB.lt
        refine hK _ _ (fun _ => hS) ?_
        clear hK K
        repeat (first | (refine wpAnyG_take (i := 15) (v := .pointer (some ⟨PB, 3, none⟩)) rfl ?_ ?_ ?_ (fun _ _ _ h => h) (Or.inl ⟨by rfl, ?_⟩) hS ?_; (· decide +kernel); (· decide +kernel); (· decide +kernel); (· (intro w' hS'; go_simp))))
        refine wpAnyG_ready (rs := [16]) (by decide +kernel) (by simp) ?_
        refine AllReadyG.cons rfl (fun K hK => ?_) AllReadyG.nil
        go_simp
        refine hK _ _ (fun h => absurd h (by decide)) ?_
        clear hK K
        refine wpAnyG_done (by decide +kernel) ?_ _
        have fin := Lib.hid (And.intro (PgBk.put (A' := A9) (k' := 2) (c' := c9) HB hN fRB fPB AP.out) (hpl.put (PB := PB) (i := 3) (x := .slice A9 2 c9) AP.out.2.2.1))
        clear hS z3 lz hpl HB hN fRB fPB
        go_wp2_with (fail)
        go_meet
        exact ⟨rfl, A9, c9, B33, B38, B40, B42, fin⟩
      · go_simp
        have fB38 := Blk.new W0 34 [.int .i64 5, str [97], .slice none 0 0]
        have nB38 : L0 ≤ W0.heap.size := hN
        replace fRB := fRB.alloc (.cells #[.int .i64 5, str [97], .slice none 0 0] 34)
        replace fPB := fPB.alloc (.cells #[.int .i64 5, str [97], .slice none 0 0] 34)
        replace fOW := fOW.alloc (.cells #[.int .i64 5, str [97], .slice none 0 0] 34)
        replace fDD := dt_alloc fDD (.cells #[.int .i64 5, str [97], .slice none 0 0] 34)
        replace HB := HB.alloc (Nat.le_trans hL0 hN) (.cells #[.int .i64 5, str [97], .slice none 0 0] 34)
        replace hN : L0 ≤ (W0.alloc (.cells #[.int .i64 5, str [97], .slice none 0 0] 34)).heap.size := by simp; omega
        clear hS
        generalize W0.alloc (.cells #[.int .i64 5, str [97], .slice none 0 0] 34) = W1 at *
        generalize W0.heap.size = B38 at *
        have hS := (show W1.cell? ⟨PB, 3, none⟩ = some (.slice A 1 c) from fPB.cell 3)
        refine hK _ _ (fun _ => hS) ?_
        clear hK K
        refine wpAnyG_ready (rs := [2, 8]) (by decide +kernel) (by simp) ?_
        refine AllReadyG.cons rfl (fun K hK => ?_) (AllReadyG.cons rfl (fun K hK => ?_) AllReadyG.nil)
        · go_simp
          have fB33 := Blk.new W1 9 [str [97]]
          have nB33 : L0 ≤ W1.heap.size := hN
          replace fRB := fRB.alloc (.cells #[str [97]] 9)
          replace fPB := fPB.alloc (.cells #[str [97]] 9)
          replace fOW := fOW.alloc (.cells #[str [97]] 9)
          replace fDD := dt_alloc fDD (.cells #[str [97]] 9)
          replace fB38 := fB38.alloc (.cells #[str [97]] 9)
          replace HB := HB.alloc (Nat.le_trans hL0 hN) (.cells #[str [97]] 9)
          replace hN : L0 ≤ (W1.alloc (.cells #[str [97]] 9)).heap.size := by simp; omega
          clear hS
          generalize W1.alloc (.cells #[str [97]] 9) = W2 at *
          generalize W1.heap.size = B33 at *
          have hS := (show W2.cell? ⟨PB, 3, none⟩ = some (.slice A 1 c) from fPB.cell 3)
          refine hK _ _ (fun _ => hS) ?_
          clear hK K
          refine wpAnyG_ready (rs := [8]) (by decide +kernel) (by simp) ?_
          refine AllReadyG.cons rfl (fun K hK => ?_) AllReadyG.nil
          go_simp
          refine (named_any [76] (some ⟨B38, 0, none⟩) 1 1 _).mono ?_
          rintro e w' ⟨rfl, rfl⟩
          try dsimp only
          replace fRB := fRB.alloc (.cells #[.int .i64 6, str [76], .slice (some ⟨B38, 0, none⟩) 1 1] 34)
          replace fPB := fPB.alloc (.cells #[.int .i64 6, str [76], .slice (some ⟨B38, 0, none⟩) 1 1] 34)
          replace fOW := fOW.alloc (.cells #[.int .i64 6, str [76], .slice (some ⟨B38, 0, none⟩) 1 1] 34)
          replace fDD := dt_alloc fDD (.cells #[.int .i64 6, str [76], .slice (some ⟨B38, 0, none⟩) 1 1] 34)
          replace fB38 := fB38.alloc (.cells #[.int .i64 6, str [76], .slice (some ⟨B38, 0, none⟩) 1 1] 34)
          replace fB33 := fB33.alloc (.cells #[.int .i64 6, str [76], .slice (some ⟨B38, 0, none⟩) 1 1] 34)
          replace HB := HB.alloc (Nat.le_trans hL0 hN) (.cells #[.int .i64 6, str [76], .slice (some ⟨B38, 0, none⟩) 1 1] 34)
          replace hN : L0 ≤ (W2.alloc (.cells #[.int .i64 6, str [76], .slice (some ⟨B38, 0, none⟩) 1 1] 34)).heap.size := by simp; omega
          clear hS
          generalize W2.alloc (.cells #[.int .i64 6, str [76], .slice (some ⟨B38, 0, none⟩) 1 1] 34) = W3 at *
          have hS := (show W3.cell? ⟨PB, 3, none⟩ = some (.slice A 1 c) from fPB.cell 3)
          refine hK _ _ (fun _ => hS) ?_
          clear hK K
          refine wpAnyG_ready (rs := [9]) (by decide +kernel) (by simp) ?_
          refine AllReadyG.cons rfl (fun K hK => ?_) AllReadyG.nil
          go_simp
          have fB40 := Blk.new W3 34 [.int .i64 5, str [97], .slice none 0 0, .int .i64 6, str [76], .slice (some ⟨B38, 0, none⟩) 1 1]
          have nB40 : L0 ≤ W3.heap.size := hN
          replace fRB := fRB.alloc (.cells #[.int .i64 5, str [97], .slice none 0 0, .int .i64 6, str [76], .slice (some ⟨B38, 0, none⟩) 1 1] 34)
          replace fPB := fPB.alloc (.cells #[.int .i64 5, str [97], .slice none 0 0, .int .i64 6, str [76], .slice (some ⟨B38, 0, none⟩) 1 1] 34)
          replace fOW := fOW.alloc (.cells #[.int .i64 5, str [97], .slice none 0 0, .int .i64 6, str [76], .slice (some ⟨B38, 0, none⟩) 1 1] 34)
          replace fDD := dt_alloc fDD (.cells #[.int .i64 5, str [97], .slice none 0 0, .int .i64 6, str [76], .slice (some ⟨B38, 0, none⟩) 1 1] 34)
          replace fB38 := fB38.alloc (.cells #[.int .i64 5, str [97], .slice none 0 0, .int .i64 6, str [76], .slice (some ⟨B38, 0, none⟩) 1 1] 34)
          replace fB33 := fB33.alloc (.cells #[.int .i64 5, str [97], .slice none 0 0, .int .i64 6, str [76], .slice (some ⟨B38, 0, none⟩) 1 1] 34)
          replace HB := HB.alloc (Nat.le_trans hL0 hN) (.cells #[.int .i64 5, str [97], .slice none 0 0, .int .i64 6, str [76], .slice (some ⟨B38, 0, none⟩) 1 1] 34)
          replace hN : L0 ≤ (W3.alloc (.cells #[.int .i64 5, str [97], .slice none 0 0, .int .i64 6, str [76], .slice (some ⟨B38, 0, none⟩) 1 1] 34)).heap.size := by simp; omega
          clear hS
          generalize W3.alloc (.cells #[.int .i64 5, str [97], .slice none 0 0, .int .i64 6, str [76], .slice (some ⟨B38, 0, none⟩) 1 1] 34) = W4 at *
          generalize W3.heap.size = B40 at *
          have hS := (show W4.cell? ⟨PB, 3, none⟩ = some (.slice A 1 c) from fPB.cell 3)
          refine hK _ _ (fun _ => hS) ?_
          clear hK K
          repeat (first | (refine wpAnyG_take (i := 10) (v := .agg #[str [67], .slice (some ⟨B40, 0, none⟩) 2 2]) rfl ?_ ?_ ?_ (fun _ _ _ h => h) (Or.inl ⟨by rfl, ?_⟩) hS ?_; (· decide +kernel); (· decide +kernel); (· decide +kernel); (· (intro w' hS'; go_simp))))
          refine wpAnyG_ready (rs := [11]) (by decide +kernel) (by simp) ?_
          refine AllReadyG.cons rfl (fun K hK => ?_) AllReadyG.nil
          go_simp
          have fB42 := Blk.new W4 80 [str [78], .slice none 0 0, str [67], .slice (some ⟨B40, 0, none⟩) 2 2]
          have nB42 : L0 ≤ W4.heap.size := hN
          replace fRB := fRB.alloc (.cells #[str [78], .slice none 0 0, str [67], .slice (some ⟨B40, 0, none⟩) 2 2] 80)
          replace fPB := fPB.alloc (.cells #[str [78], .slice none 0 0, str [67], .slice (some ⟨B40, 0, none⟩) 2 2] 80)
          replace fOW := fOW.alloc (.cells #[str [78], .slice none 0 0, str [67], .slice (some ⟨B40, 0, none⟩) 2 2] 80)
          replace fDD := dt_alloc fDD (.cells #[str [78], .slice none 0 0, str [67], .slice (some ⟨B40, 0, none⟩) 2 2] 80)
          replace fB38 := fB38.alloc (.cells #[str [78], .slice none 0 0, str [67], .slice (some ⟨B40, 0, none⟩) 2 2] 80)
          replace fB33 := fB33.alloc (.cells #[str [78], .slice none 0 0, str [67], .slice (some ⟨B40, 0, none⟩) 2 2] 80)
          replace fB40 := fB40.alloc (.cells #[str [78], .slice none 0 0, str [67], .slice (some ⟨B40, 0, none⟩) 2 2] 80)
          replace HB := HB.alloc (Nat.le_trans hL0 hN) (.cells #[str [78], .slice none 0 0, str [67], .slice (some ⟨B40, 0, none⟩) 2 2] 80)
          replace hN : L0 ≤ (W4.alloc (.cells #[str [78], .slice none 0 0, str [67], .slice (some ⟨B40, 0, none⟩) 2 2] 80)).heap.size := by simp; omega
          clear hS
          generalize W4.alloc (.cells #[str [78], .slice none 0 0, str [67], .slice (some ⟨B40, 0, none⟩) 2 2] 80) = W5 at *
          generalize W4.heap.size = B42 at *
          have hS := (show W5.cell? ⟨PB, 3, none⟩ = some (.slice A 1 c) from fPB.cell 3)
          refine hK _ _ (fun _ => hS) ?_
          clear hK K
          repeat (first | (refine wpAnyG_take (i := 12) (v := .agg #[str [76], .slice (some ⟨B33, 0, none⟩) 1 1, .slice (some ⟨B42, 0, none⟩) 2 2]) rfl ?_ ?_ ?_ (fun _ _ _ h => h) (Or.inl ⟨by rfl, ?_⟩) hS ?_; (· decide +kernel); (· decide +kernel); (· decide +kernel); (· (intro w' hS'; go_simp))))
          refine wpAnyG_ready (rs := [13]) (by decide +kernel) (by simp) ?_
          refine AllReadyG.cons rfl (fun K hK => ?_) AllReadyG.nil
          go_simp
          have fB44 := Blk.new W5 83 [str [76], .slice (some ⟨B33, 0, none⟩) 1 1, .slice (some ⟨B42, 0, none⟩) 2 2]
          have nB44 : L0 ≤ W5.heap.size := hN
          replace fRB := fRB.alloc (.cells #[str [76], .slice (some ⟨B33, 0, none⟩) 1 1, .slice (some ⟨B42, 0, none⟩) 2 2] 83)
          replace fPB := fPB.alloc (.cells #[str [76], .slice (some ⟨B33, 0, none⟩) 1 1, .slice (some ⟨B42, 0, none⟩) 2 2] 83)
          replace fOW := fOW.alloc (.cells #[str [76], .slice (some ⟨B33, 0, none⟩) 1 1, .slice (some ⟨B42, 0, none⟩) 2 2] 83)
          replace fDD := dt_alloc fDD (.cells #[str [76], .slice (some ⟨B33, 0, none⟩) 1 1, .slice (some ⟨B42, 0, none⟩) 2 2] 83)
          replace fB38 := fB38.alloc (.cells #[str [76], .slice (some ⟨B33, 0, none⟩) 1 1, .slice (some ⟨B42, 0, none⟩) 2 2] 83)
          replace fB33 := fB33.alloc (.cells #[str [76], .slice (some ⟨B33, 0, none⟩) 1 1, .slice (some ⟨B42, 0, none⟩) 2 2] 83)
          replace fB40 := fB40.alloc (.cells #[str [76], .slice (some ⟨B33, 0, none⟩) 1 1, .slice (some ⟨B42, 0, none⟩) 2 2] 83)
          replace fB42 := fB42.alloc (.cells #[str [76], .slice (some ⟨B33, 0, none⟩) 1 1, .slice (some ⟨B42, 0, none⟩) 2 2] 83)
          replace HB := HB.alloc (Nat.le_trans hL0 hN) (.cells #[str [76], .slice (some ⟨B33, 0, none⟩) 1 1, .slice (some ⟨B42, 0, none⟩) 2 2] 83)
          replace hN : L0 ≤ (W5.alloc (.cells #[str [76], .slice (some ⟨B33, 0, none⟩) 1 1, .slice (some ⟨B42, 0, none⟩) 2 2] 83)).heap.size := by simp; omega
          clear hS
          generalize W5.alloc (.cells #[str [76], .slice (some ⟨B33, 0, none⟩) 1 1, .slice (some ⟨B42, 0, none⟩) 2 2] 83) = W6 at *
          generalize W5.heap.size = B44 at *
          have hS := (show W6.cell? ⟨PB, 3, none⟩ = some (.slice A 1 c) from fPB.cell 3)
          refine hK _ _ (fun _ => hS) ?_
          clear hK K
          refine wpAnyG_ready (rs := [14]) (by decide +kernel) (by simp) ?_
          refine AllReadyG.cons rfl (fun K hK => ?_) AllReadyG.nil
          refine step_app_dt _ rfl (.tmp 32) (.tmp 44) (by rfl) (base := N0) (v := .slice A 1 c) (n := 1) (xs := cs) fOW rfl (D := Any) (A := some ⟨B44, 0, none⟩) (m := 1) (news := [str [76], .slice (some ⟨B33, 0, none⟩) 1 1, .slice (some ⟨B42, 0, none⟩) 2 2]) (c := 1) (fB44.reads trivial rfl) (by first | rfl | simp) (by simp [Value.oneCell']) (by omega) (Nat.le_trans hNL hN) ?_
          intro v2 W9 hown2 hg2 hat2
          obtain ⟨A9, c9, rfl, _⟩ := own_form hown2
          have hne : ∀ b, L0 ≤ b → some b ≠ (Value.slice A 1 c).ownBlock := fun b hb e => by have := hoL b e.symm; omega
          have hne0 : ∀ b, b < N0 → some b ≠ (Value.slice A 1 c).ownBlock := fun b hb e => by have := (fOW.lt b e.symm).1; omega
          have hne9 : ∀ b, L0 ≤ b → b < W6.heap.size → (Value.slice A9 2 c9).ownBlock ≠ some b := fun b hb hl e => by
            rcases hat2 with h | h
            · rw [h] at e; exact hne b hb e.symm
            · rw [h] at e; injection e with e; omega
          have l33 := fB33.lt
          have l38 := fB38.lt
          have l40 := fB40.lt
          have l42 := fB42.lt
          replace fRB := fRB.grown hg2 (hne0 _ AP.out.2.1)
          replace fPB := fPB.grown hg2 (hne0 _ AP.out.2.2.1)
          replace HB := HB.grown hg2 (Nat.le_trans hL0 hN) (fun k hk => Nat.le_trans AP.out.2.2.2.2.2 (fOW.lt k hk).1)
          have hpl : PgL W9 N0 A9 c9 y B33 B38 B40 B42 := by
            refine ⟨⟨cs, hown2, ?_⟩, fB33.grown hg2 (hne _ nB33), fB38.grown hg2 (hne _ nB38), fB40.grown hg2 (hne _ nB40), fB42.grown hg2 (hne _ nB42), ⟨by omega, hne9 _ nB33 l33⟩, ⟨by omega, hne9 _ nB38 l38⟩, ⟨by omega, hne9 _ nB40 l40⟩, ⟨by omega, hne9 _ nB42 l42⟩⟩
            have h2 := (DtCells.stable 4).keep (w' := W9) fDD (fun b hb hl => hg2.block b hl (fun e => hb.2.1 e.symm))
            refine (DtCells.stable 4).imp h2 fun b hb _ => ⟨hb.1, fun e => ?_, by omega⟩
            rcases hat2 with h | h
            · rw [h] at e; exact hb.2.1 e
            · rw [h] at e; injection e with e; omega
          replace hN : N0 ≤ W9.heap.size := Nat.le_trans (Nat.le_trans hNL hN) hg2.size
          clear fOW fDD hne hne0 hne9 l33 l38 l40 l42 hown2 hg2 hat2 hS fB33 fB38 fB40 fB42 fB44 hoL
          have hS : W9.cell? ⟨PB, 3, none⟩ = some (.slice A 1 c) := fPB.cell 3
          have z3 := fPB.frozen 3
          have lz := fPB.lt
          refine hK _ _ (fun _ => hS) ?_
          clear hK K
          repeat (first | (refine wpAnyG_take (i := 15) (v := .pointer (some ⟨PB, 3, none⟩)) rfl ?_ ?_ ?_ (fun _ _ _ h => h) (Or.inl ⟨by rfl, ?_⟩) hS ?_; (· decide +kernel); (· decide +kernel); (· decide +kernel); (· (intro w' hS'; go_simp))))
          refine wpAnyG_ready (rs := [16]) (by decide +kernel) (by simp) ?_
          refine AllReadyG.cons rfl (fun K hK => ?_) AllReadyG.nil
          go_simp
          refine hK _ _ (fun h => absurd h (by decide)) ?_
          clear hK K
          refine wpAnyG_done (by decide +kernel) ?_ _
          have fin := Lib.hid (And.intro (PgBk.put (A' := A9) (k' := 2) (c' := c9) HB hN fRB fPB AP.out) (hpl.put (PB := PB) (i := 3) (x := .slice A9 2 c9) AP.out.2.2.1))
          clear hS z3 lz hpl HB hN fRB fPB
          go_wp2_with (fail)
          go_meet
          exact ⟨rfl, A9, c9, B33, B38, B40, B42, fin⟩
        · go_simp
          refine (named_any [76] (some ⟨B38, 0, none⟩) 1 1 _).mono ?_
          rintro e w' ⟨rfl, rfl⟩
          try dsimp only
          replace fRB := fRB.alloc (.cells #[.int .i64 6, str [76], .slice (some ⟨B38, 0, none⟩) 1 1] 34)
          replace fPB := fPB.alloc (.cells #[.int .i64 6, str [76], .slice (some ⟨B38, 0, none⟩) 1 1] 34)
          replace fOW := fOW.alloc (.cells #[.int .i64 6, str [76], .slice (some ⟨B38, 0, none⟩) 1 1] 34)
          replace fDD := dt_alloc fDD (.cells #[.int .i64 6, str [76], .slice (some ⟨B38, 0, none⟩) 1 1] 34)
          replace fB38 := fB38.alloc (.cells #[.int .i64 6, str [76], .slice (some ⟨B38, 0, none⟩) 1 1] 34)
          replace HB := HB.alloc (Nat.le_trans hL0 hN) (.cells #[.int .i64 6, str [76], .slice (some ⟨B38, 0, none⟩) 1 1] 34)
          replace hN : L0 ≤ (W1.alloc (.cells #[.int .i64 6, str [76], .slice (some ⟨B38, 0, none⟩) 1 1] 34)).heap.size := by simp; omega
          clear hS
          generalize W1.alloc (.cells #[.int .i64 6, str [76], .slice (some ⟨B38, 0, none⟩) 1 1] 34) = W2 at *
          have hS := (show W2.cell? ⟨PB, 3, none⟩ = some (.slice A 1 c) from fPB.cell 3)
          refine hK _ _ (fun _ => hS) ?_
          clear hK K
          refine wpAnyG_ready (rs := [2, 9]) (by decide +kernel) (by simp) ?_
          refine AllReadyG.cons rfl (fun K hK => ?_) (AllReadyG.cons rfl (fun K hK => ?_) AllReadyG.nil)
          · go_simp
            have fB33 := Blk.new W2 9 [str [97]]
            have nB33 : L0 ≤ W2.heap.size := hN
            replace fRB := fRB.alloc (.cells #[str [97]] 9)
            replace fPB := fPB.alloc (.cells #[str [97]] 9)
            replace fOW := fOW.alloc (.cells #[str [97]] 9)
            replace fDD := dt_alloc fDD (.cells #[str [97]] 9)
            replace fB38 := fB38.alloc (.cells #[str [97]] 9)
            replace HB := HB.alloc (Nat.le_trans hL0 hN) (.cells #[str [97]] 9)
            replace hN : L0 ≤ (W2.alloc (.cells #[str [97]] 9)).heap.size := by simp; omega
            clear hS
            generalize W2.alloc (.cells #[str [97]] 9) = W3 at *
            generalize W2.heap.size = B33 at *
            have hS := (show W3.cell? ⟨PB, 3, none⟩ = some (.slice A 1 c) from fPB.cell 3)
            refine hK _ _ (fun _ => hS) ?_
            clear hK K
            refine wpAnyG_ready (rs := [9]) (by decide +kernel) (by simp) ?_
            refine AllReadyG.cons rfl (fun K hK => ?_) AllReadyG.nil
            go_simp
            have fB40 := Blk.new W3 34 [.int .i64 5, str [97], .slice none 0 0, .int .i64 6, str [76], .slice (some ⟨B38, 0, none⟩) 1 1]
            have nB40 : L0 ≤ W3.heap.size := hN
            replace fRB := fRB.alloc (.cells #[.int .i64 5, str [97], .slice none 0 0, .int .i64 6, str [76], .slice (some ⟨B38, 0, none⟩) 1 1] 34)
            replace fPB := fPB.alloc (.cells #[.int .i64 5, str [97], .slice none 0 0, .int .i64 6, str [76], .slice (some ⟨B38, 0, none⟩) 1 1] 34)
            replace fOW := fOW.alloc (.cells #[.int .i64 5, str [97], .slice none 0 0, .int .i64 6, str [76], .slice (some ⟨B38, 0, none⟩) 1 1] 34)
            replace fDD := dt_alloc fDD (.cells #[.int .i64 5, str [97], .slice none 0 0, .int .i64 6, str [76], .slice (some ⟨B38, 0, none⟩) 1 1] 34)
            replace fB38 := fB38.alloc (.cells #[.int .i64 5, str [97], .slice none 0 0, .int .i64 6, str [76], .slice (some ⟨B38, 0, none⟩) 1 1] 34)
            replace fB33 := fB33.alloc (.cells #[.int .i64 5, str [97], .slice none 0 0, .int .i64 6, str [76], .slice (some ⟨B38, 0, none⟩) 1 1] 34)
            replace HB := HB.alloc (Nat.le_trans hL0 hN) (.cells #[.int .i64 5, str [97], .slice none 0 0, .int .i64 6, str [76], .slice (some ⟨B38, 0, none⟩) 1 1] 34)
            replace hN : L0 ≤ (W3.alloc (.cells #[.int .i64 5, str [97], .slice none 0 0, .int .i64 6, str [76], .slice (some ⟨B38, 0, none⟩) 1 1] 34)).heap.size := by simp; omega
            clear hS
            generalize W3.alloc (.cells #[.int .i64 5, str [97], .slice none 0 0, .int .i64 6, str [76], .slice (some ⟨B38, 0, none⟩) 1 1] 34) = W4 at *
            generalize W3.heap.size = B40 at *
            have hS := (show W4.cell? ⟨PB, 3, none⟩ = some (.slice A 1 c) from fPB.cell 3)
            refine hK _ _ (fun _ => hS) ?_
            clear hK K
            repeat (first | (refine wpAnyG_take (i := 10) (v := .agg #[str [67], .slice (some ⟨B40, 0, none⟩) 2 2]) rfl ?_ ?_ ?_ (fun _ _ _ h => h) (Or.inl ⟨by rfl, ?_⟩) hS ?_; (· decide +kernel); (· decide +kernel); (· decide +kernel); (· (intro w' hS'; go_simp))))
            refine wpAnyG_ready (rs := [11]) (by decide +kernel) (by simp) ?_
            refine AllReadyG.cons rfl (fun K hK => ?_) AllReadyG.nil
            go_simp
            have fB42 := Blk.new W4 80 [str [78], .slice none 0 0, str [67], .slice (some ⟨B40, 0, none⟩) 2 2]
            have nB42 : L0 ≤ W4.heap.size := hN
            replace fRB := fRB.alloc (.cells #[str [78], .slice none 0 0, str [67], .slice (some ⟨B40, 0, none⟩) 2 2] 80)
            replace fPB := fPB.alloc (.cells #[str [78], .slice none 0 0, str [67], .slice (some ⟨B40, 0, none⟩) 2 2] 80)
            replace fOW := fOW.alloc (.cells #[str [78], .slice none 0 0, str [67], .slice (some ⟨B40, 0, none⟩) 2 2] 80)
            replace fDD := dt_alloc fDD (.cells #[str [78], .slice none 0 0, str [67], .slice (some ⟨B40, 0, none⟩) 2 2] 80)
            replace fB38 := fB38.alloc (.cells #[str [78], .slice none 0 0, str [67], .slice (some ⟨B40, 0, none⟩) 2 2] 80)
            replace fB33 := fB33.alloc (.cells #[str [78], .slice none 0 0, str [67], .slice (some ⟨B40, 0, none⟩) 2 2] 80)
            replace fB40 := fB40.alloc (.cells #[str [78], .slice none 0 0, str [67], .slice (some ⟨B40, 0, none⟩) 2 2] 80)
            replace HB := HB.alloc (Nat.le_trans hL0 hN) (.cells #[str [78], .slice none 0 0, str [67], .slice (some ⟨B40, 0, none⟩) 2 2] 80)
            replace hN : L0 ≤ (W4.alloc (.cells #[str [78], .slice none 0 0, str [67], .slice (some ⟨B40, 0, none⟩) 2 2] 80)).heap.size := by simp; omega
            clear hS
            generalize W4.alloc (.cells #[str [78], .slice none 0 0, str [67], .slice (some ⟨B40, 0, none⟩) 2 2] 80) = W5 at *
            generalize W4.heap.size = B42 at *
            have hS := (show W5.cell? ⟨PB, 3, none⟩ = some (.slice A 1 c) from fPB.cell 3)
            refine hK _ _ (fun _ => hS) ?_
            clear hK K
            repeat (first | (refine wpAnyG_take (i := 12) (v := .agg #[str [76], .slice (some ⟨B33, 0, none⟩) 1 1, .slice (some ⟨B42, 0, none⟩) 2 2]) rfl ?_ ?_ ?_ (fun _ _ _ h => h) (Or.inl ⟨by rfl, ?_⟩) hS ?_; (· decide +kernel); (· decide +kernel); (· decide +kernel); (· (intro w' hS'; go_simp))))
            refine wpAnyG_ready (rs := [13]) (by decide +kernel) (by simp) ?_
            refine AllReadyG.cons rfl (fun K hK => ?_) AllReadyG.nil
            go_simp
            have fB44 := Blk.new W5 83 [str [76], .slice (some ⟨B33, 0, none⟩) 1 1, .slice (some ⟨B42, 0, none⟩) 2 2]
            have nB44 : L0 ≤ W5.heap.size := hN
            replace fRB := fRB.alloc (.cells #[str [76], .slice (some ⟨B33, 0, none⟩) 1 1, .slice (some ⟨B42, 0, none⟩) 2 2] 83)
            replace fPB := fPB.alloc (.cells #[str [76], .slice (some ⟨B33, 0, none⟩) 1 1, .slice (some ⟨B42, 0, none⟩) 2 2] 83)
            replace fOW := fOW.alloc (.cells #[str [76], .slice (some ⟨B33, 0, none⟩) 1 1, .slice (some ⟨B42, 0, none⟩) 2 2] 83)
            replace fDD := dt_alloc fDD (.cells #[str [76], .slice (some ⟨B33, 0, none⟩) 1 1, .slice (some ⟨B42, 0, none⟩) 2 2] 83)
            replace fB38 := fB38.alloc (.cells #[str [76], .slice (some ⟨B33, 0, none⟩) 1 1, .slice (some ⟨B42, 0, none⟩) 2 2] 83)
            replace fB33 := fB33.alloc (.cells #[str [76], .slice (some ⟨B33, 0, none⟩) 1 1, .slice (some ⟨B42, 0, none⟩) 2 2] 83)
            replace fB40 := fB40.alloc (.cells #[str [76], .slice (some ⟨B33, 0, none⟩) 1 1, .slice (some ⟨B42, 0, none⟩) 2 2] 83)
            replace fB42 := fB42.alloc (.cells #[str [76], .slice (some ⟨B33, 0, none⟩) 1 1, .slice (some ⟨B42, 0, none⟩) 2 2] 83)
            replace HB := HB.alloc (Nat.le_trans hL0 hN) (.cells #[str [76], .slice (some ⟨B33, 0, none⟩) 1 1, .slice (some ⟨B42, 0, none⟩) 2 2] 83)
            replace hN : L0 ≤ (W5.alloc (.cells #[str [76], .slice (some ⟨B33, 0, none⟩) 1 1, .slice (some ⟨B42, 0, none⟩) 2 2] 83)).heap.size := by simp; omega
            clear hS
            generalize W5.alloc (.cells #[str [76], .slice (some ⟨B33, 0, none⟩) 1 1, .slice (some ⟨B42, 0, none⟩) 2 2] 83) = W6 at *
            generalize W5.heap.size = B44 at *
            have hS := (show W6.cell? ⟨PB, 3, none⟩ = some (.slice A 1 c) from fPB.cell 3)
            refine hK _ _ (fun _ => hS) ?_
            clear hK K
            refine wpAnyG_ready (rs := [14]) (by decide +kernel) (by simp) ?_
            refine AllReadyG.cons rfl (fun K hK => ?_) AllReadyG.nil
            refine step_app_dt _ rfl (.tmp 32) (.tmp 44) (by rfl) (base := N0) (v := .slice A 1 c) (n := 1) (xs := cs) fOW rfl (D := Any) (A := some ⟨B44, 0, none⟩) (m := 1) (news := [str [76], .slice (some ⟨B33, 0, none⟩) 1 1, .slice (some ⟨B42, 0, none⟩) 2 2]) (c := 1) (fB44.reads trivial rfl) (by first | rfl | simp) (by simp [Value.oneCell']) (by omega) (Nat.le_trans hNL hN) ?_
            intro v2 W9 hown2 hg2 hat2
            obtain ⟨A9, c9, rfl, _⟩ := own_form hown2
            have hne : ∀ b, L0 ≤ b → some b ≠ (Value.slice A 1 c).ownBlock := fun b hb e => by have := hoL b e.symm; omega
            have hne0 : ∀ b, b < N0 → some b ≠ (Value.slice A 1 c).ownBlock := fun b hb e => by have := (fOW.lt b e.symm).1; omega
            have hne9 : ∀ b, L0 ≤ b → b < W6.heap.size → (Value.slice A9 2 c9).ownBlock ≠ some b := fun b hb hl e => by
              rcases hat2 with h | h
              · rw [h] at e; exact hne b hb e.symm
              · rw [h] at e; injection e with e; omega
            have l33 := fB33.lt
            have l38 := fB38.lt
            have l40 := fB40.lt
            have l42 := fB42.lt
            replace fRB := fRB.grown hg2 (hne0 _ AP.out.2.1)
            replace fPB := fPB.grown hg2 (hne0 _ AP.out.2.2.1)
            replace HB := HB.grown hg2 (Nat.le_trans hL0 hN) (fun k hk => Nat.le_trans AP.out.2.2.2.2.2 (fOW.lt k hk).1)
            have hpl : PgL W9 N0 A9 c9 y B33 B38 B40 B42 := by
              refine ⟨⟨cs, hown2, ?_⟩, fB33.grown hg2 (hne _ nB33), fB38.grown hg2 (hne _ nB38), fB40.grown hg2 (hne _ nB40), fB42.grown hg2 (hne _ nB42), ⟨by omega, hne9 _ nB33 l33⟩, ⟨by omega, hne9 _ nB38 l38⟩, ⟨by omega, hne9 _ nB40 l40⟩, ⟨by omega, hne9 _ nB42 l42⟩⟩
              have h2 := (DtCells.stable 4).keep (w' := W9) fDD (fun b hb hl => hg2.block b hl (fun e => hb.2.1 e.symm))
              refine (DtCells.stable 4).imp h2 fun b hb _ => ⟨hb.1, fun e => ?_, by omega⟩
              rcases hat2 with h | h
              · rw [h] at e; exact hb.2.1 e
              · rw [h] at e; injection e with e; omega
            replace hN : N0 ≤ W9.heap.size := Nat.le_trans (Nat.le_trans hNL hN) hg2.size
            clear fOW fDD hne hne0 hne9 l33 l38 l40 l42 hown2 hg2 hat2 hS fB33 fB38 fB40 fB42 fB44 hoL
            have hS : W9.cell? ⟨PB, 3, none⟩ = some (.slice A 1 c) := fPB.cell 3
            have z3 := fPB.frozen 3
            have lz := fPB.lt
            refine hK _ _ (fun _ => hS) ?_
            clear hK K
            repeat (first | (refine wpAnyG_take (i := 15) (v := .pointer (some ⟨PB, 3, none⟩)) rfl ?_ ?_ ?_ (fun _ _ _ h => h) (Or.inl ⟨by rfl, ?_⟩) hS ?_; (· decide +kernel); (· decide +kernel); (· decide +kernel); (· (intro w' hS'; go_simp))))
            refine wpAnyG_ready (rs := [16]) (by decide +kernel) (by simp) ?_
            refine AllReadyG.cons rfl (fun K hK => ?_) AllReadyG.nil
            go_simp
            refine hK _ _ (fun h => absurd h (by decide)) ?_
            clear hK K
            refine wpAnyG_done (by decide +kernel) ?_ _
            have fin := Lib.hid (And.intro (PgBk.put (A' := A9) (k' := 2) (c' := c9) HB hN fRB fPB AP.out) (hpl.put (PB := PB) (i := 3) (x := .slice A9 2 c9) AP.out.2.2.1))
            clear hS z3 lz hpl HB hN fRB fPB
            go_wp2_with (fail)
            go_meet
            exact ⟨rfl, A9, c9, B33, B38, B40, B42, fin⟩
          · go_simp
            have fB40 := Blk.new W2 34 [.int .i64 5, str [97], .slice none 0 0, .int .i64 6, str [76], .slice (some ⟨B38, 0, none⟩) 1 1]
            have nB40 : L0 ≤ W2.heap.size := hN
            replace fRB := fRB.alloc (.cells #[.int .i64 5, str [97], .slice none 0 0, .int .i64 6, str [76], .slice (some ⟨B38, 0, none⟩) 1 1] 34)
            replace fPB := fPB.alloc (.cells #[.int .i64 5, str [97], .slice none 0 0, .int .i64 6, str [76], .slice (some ⟨B38, 0, none⟩) 1 1] 34)
            replace fOW := fOW.alloc (.cells #[.int .i64 5, str [97], .slice none 0 0, .int .i64 6, str [76], .slice (some ⟨B38, 0, none⟩) 1 1] 34)
            replace fDD := dt_alloc fDD (.cells #[.int .i64 5, str [97], .slice none 0 0, .int .i64 6, str [76], .slice (some ⟨B38, 0, none⟩) 1 1] 34)
            replace fB38 := fB38.alloc (.cells #[.int .i64 5, str [97], .slice none 0 0, .int .i64 6, str [76], .slice (some ⟨B38, 0, none⟩) 1 1] 34)
            replace HB := HB.alloc (Nat.le_trans hL0 hN) (.cells #[.int .i64 5, str [97], .slice none 0 0, .int .i64 6, str [76], .slice (some ⟨B38, 0, none⟩) 1 1] 34)
            replace hN : L0 ≤ (W2.alloc (.cells #[.int .i64 5, str [97], .slice none 0 0, .int .i64 6, str [76], .slice (some ⟨B38, 0, none⟩) 1 1] 34)).heap.size := by simp; omega
            clear hS
            generalize W2.alloc (.cells #[.int .i64 5, str [97], .slice none 0 0, .int .i64 6, str [76], .slice (some ⟨B38, 0, none⟩) 1 1] 34) = W3 at *
            generalize W2.heap.size = B40 at *
            have hS := (show W3.cell? ⟨PB, 3, none⟩ = some (.slice A 1 c) from fPB.cell 3)
            refine hK _ _ (fun _ => hS) ?_
            clear hK K
            repeat (first | (refine wpAnyG_take (i := 10) (v := .agg #[str [67], .slice (some ⟨B40, 0, none⟩) 2 2]) rfl ?_ ?_ ?_ (fun _ _ _ h => h) (Or.inl ⟨by rfl, ?_⟩) hS ?_; (· decide +kernel); (· decide +kernel); (· decide +kernel); (· (intro w' hS'; go_simp))))
            refine wpAnyG_ready (rs := [2, 11]) (by decide +kernel) (by simp) ?_
            refine AllReadyG.cons rfl (fun K hK => ?_) (AllReadyG.cons rfl (fun K hK => ?_) AllReadyG.nil)
            · go_simp
              have fB33 := Blk.new W3 9 [str [97]]
              have nB33 : L0 ≤ W3.heap.size := hN
              replace fRB := fRB.alloc (.cells #[str [97]] 9)
              replace fPB := fPB.alloc (.cells #[str [97]] 9)
              replace fOW := fOW.alloc (.cells #[str [97]] 9)
              replace fDD := dt_alloc fDD (.cells #[str [97]] 9)
              replace fB38 := fB38.alloc (.cells #[str [97]] 9)
              replace fB40 := fB40.alloc (.cells #[str [97]] 9)
              replace HB := HB.alloc (Nat.le_trans hL0 hN) (.cells #[str [97]] 9)
              replace hN : L0 ≤ (W3.alloc (.cells #[str [97]] 9)).heap.size := by simp; omega
              clear hS
              generalize W3.alloc (.cells #[str [97]] 9) = W4 at *
              generalize W3.heap.size = B33 at *
              have hS := (show W4.cell? ⟨PB, 3, none⟩ = some (.slice A 1 c) from fPB.cell 3)
              refine hK _ _ (fun _ => hS) ?_
              clear hK K
              refine wpAnyG_ready (rs := [11]) (by decide +kernel) (by simp) ?_
              refine AllReadyG.cons rfl (fun K hK => ?_) AllReadyG.nil
              go_simp
              have fB42 := Blk.new W4 80 [str [78], .slice none 0 0, str [67], .slice (some ⟨B40, 0, none⟩) 2 2]
              have nB42 : L0 ≤ W4.heap.size := hN
              replace fRB := fRB.alloc (.cells #[str [78], .slice none 0 0, str [67], .slice (some ⟨B40, 0, none⟩) 2 2] 80)
              replace fPB := fPB.alloc (.cells #[str [78], .slice none 0 0, str [67], .slice (some ⟨B40, 0, none⟩) 2 2] 80)
              replace fOW := fOW.alloc (.cells #[str [78], .slice none 0 0, str [67], .slice (some ⟨B40, 0, none⟩) 2 2] 80)
              replace fDD := dt_alloc fDD (.cells #[str [78], .slice none 0 0, str [67], .slice (some ⟨B40, 0, none⟩) 2 2] 80)
              replace fB38 := fB38.alloc (.cells #[str [78], .slice none 0 0, str [67], .slice (some ⟨B40, 0, none⟩) 2 2] 80)
              replace fB40 := fB40.alloc (.cells #[str [78], .slice none 0 0, str [67], .slice (some ⟨B40, 0, none⟩) 2 2] 80)
              replace fB33 := fB33.alloc (.cells #[str [78], .slice none 0 0, str [67], .slice (some ⟨B40, 0, none⟩) 2 2] 80)
              replace HB := HB.alloc (Nat.le_trans hL0 hN) (.cells #[str [78], .slice none 0 0, str [67], .slice (some ⟨B40, 0, none⟩) 2 2] 80)
              replace hN : L0 ≤ (W4.alloc (.cells #[str [78], .slice none 0 0, str [67], .slice (some ⟨B40, 0, none⟩) 2 2] 80)).heap.size := by simp; omega
              clear hS
              generalize W4.alloc (.cells #[str [78], .slice none 0 0, str [67], .slice (some ⟨B40, 0, none⟩) 2 2] 80) = W5 at *
              generalize W4.heap.size = B42 at *
              have hS := (show W5.cell? ⟨PB, 3, none⟩ = some (.slice A 1 c) from fPB.cell 3)
              refine hK _ _ (fun _ => hS) ?_
              clear hK K
              repeat (first | (refine wpAnyG_take (i := 12) (v := .agg #[str [76], .slice (some ⟨B33, 0, none⟩) 1 1, .slice (some ⟨B42, 0, none⟩) 2 2]) rfl ?_ ?_ ?_ (fun _ _ _ h => h) (Or.inl ⟨by rfl, ?_⟩) hS ?_; (· decide +kernel); (· decide +kernel); (· decide +kernel); (· (intro w' hS'; go_simp))))
              refine wpAnyG_ready (rs := [13]) (by decide +kernel) (by simp) ?_
              refine AllReadyG.cons rfl (fun K hK => ?_) AllReadyG.nil
              go_simp
              have fB44 := Blk.new W5 83 [str [76], .slice (some ⟨B33, 0, none⟩) 1 1, .slice (some ⟨B42, 0, none⟩) 2 2]
              have nB44 : L0 ≤ W5.heap.size := hN
              replace fRB := fRB.alloc (.cells #[str [76], .slice (some ⟨B33, 0, none⟩) 1 1, .slice (some ⟨B42, 0, none⟩) 2 2] 83)
              replace fPB := fPB.alloc (.cells #[str [76], .slice (some ⟨B33, 0, none⟩) 1 1, .slice (some ⟨B42, 0, none⟩) 2 2] 83)
              replace fOW := fOW.alloc (.cells #[str [76], .slice (some ⟨B33, 0, none⟩) 1 1, .slice (some ⟨B42, 0, none⟩) 2 2] 83)
              replace fDD := dt_alloc fDD (.cells #[str [76], .slice (some ⟨B33, 0, none⟩) 1 1, .slice (some ⟨B42, 0, none⟩) 2 2] 83)
              replace fB38 := fB38.alloc (.cells #[str [76], .slice (some ⟨B33, 0, none⟩) 1 1, .slice (some ⟨B42, 0, none⟩) 2 2] 83)
              replace fB40 := fB40.alloc (.cells #[str [76], .slice (some ⟨B33, 0, none⟩) 1 1, .slice (some ⟨B42, 0, none⟩) 2 2] 83)
              replace fB33 := fB33.alloc (.cells #[str [76], .slice (some ⟨B33, 0, none⟩) 1 1, .slice (some ⟨B42, 0, none⟩) 2 2] 83)
              replace fB42 := fB42.alloc (.cells #[str [76], .slice (some ⟨B33, 0, none⟩) 1 1, .slice (some ⟨B42, 0, none⟩) 2 2] 83)
              replace HB := HB.alloc (Nat.le_trans hL0 hN) (.cells #[str [76], .slice (some ⟨B33, 0, none⟩) 1 1, .slice (some ⟨B42, 0, none⟩) 2 2] 83)
              replace hN : L0 ≤ (W5.alloc (.cells #[str [76], .slice (some ⟨B33, 0, none⟩) 1 1, .slice (some ⟨B42, 0, none⟩) 2 2] 83)).heap.size := by simp; omega
              clear hS
              generalize W5.alloc (.cells #[str [76], .slice (some ⟨B33, 0, none⟩) 1 1, .slice (some ⟨B42, 0, none⟩) 2 2] 83) = W6 at *
              generalize W5.heap.size = B44 at *
              have hS := (show W6.cell? ⟨PB, 3, none⟩ = some (.slice A 1 c) from fPB.cell 3)
              refine hK _ _ (fun _ => hS) ?_
              clear hK K
              refine wpAnyG_ready (rs := [14]) (by decide +kernel) (by simp) ?_
              refine AllReadyG.cons rfl (fun K hK => ?_) AllReadyG.nil
              refine step_app_dt _ rfl (.tmp 32) (.tmp 44) (by rfl) (base := N0) (v := .slice A 1 c) (n := 1) (xs := cs) fOW rfl (D := Any) (A := some ⟨B44, 0, none⟩) (m := 1) (news := [str [76], .slice (some ⟨B33, 0, none⟩) 1 1, .slice (some ⟨B42, 0, none⟩) 2 2]) (c := 1) (fB44.reads trivial rfl) (by first | rfl | simp) (by simp [Value.oneCell']) (by omega) (Nat.le_trans hNL hN) ?_
              intro v2 W9 hown2 hg2 hat2
              obtain ⟨A9, c9, rfl, _⟩ := own_form hown2
              have hne : ∀ b, L0 ≤ b → some b ≠ (Value.slice A 1 c).ownBlock := fun b hb e => by have := hoL b e.symm; omega
              have hne0 : ∀ b, b < N0 → some b ≠ (Value.slice A 1 c).ownBlock := fun b hb e => by have := (fOW.lt b e.symm).1; omega
              have hne9 : ∀ b, L0 ≤ b → b < W6.heap.size → (Value.slice A9 2 c9).ownBlock ≠ some b := fun b hb hl e => by
                rcases hat2 with h | h
                · rw [h] at e; exact hne b hb e.symm
                · rw [h] at e; injection e with e; omega
              have l33 := fB33.lt
              have l38 := fB38.lt
              have l40 := fB40.lt
              have l42 := fB42.lt
              replace fRB := fRB.grown hg2 (hne0 _ AP.out.2.1)
              replace fPB := fPB.grown hg2 (hne0 _ AP.out.2.2.1)
              replace HB := HB.grown hg2 (Nat.le_trans hL0 hN) (fun k hk => Nat.le_trans AP.out.2.2.2.2.2 (fOW.lt k hk).1)
              have hpl : PgL W9 N0 A9 c9 y B33 B38 B40 B42 := by
                refine ⟨⟨cs, hown2, ?_⟩, fB33.grown hg2 (hne _ nB33), fB38.grown hg2 (hne _ nB38), fB40.grown hg2 (hne _ nB40), fB42.grown hg2 (hne _ nB42), ⟨by omega, hne9 _ nB33 l33⟩, ⟨by omega, hne9 _ nB38 l38⟩, ⟨by omega, hne9 _ nB40 l40⟩, ⟨by omega, hne9 _ nB42 l42⟩⟩
                have h2 := (DtCells.stable 4).keep (w' := W9) fDD (fun b hb hl => hg2.block b hl (fun e => hb.2.1 e.symm))
                refine (DtCells.stable 4).imp h2 fun b hb _ => ⟨hb.1, fun e => ?_, by omega⟩
                rcases hat2 with h | h
                · rw [h] at e; exact hb.2.1 e
                · rw [h] at e; injection e with e; omega
              replace hN : N0 ≤ W9.heap.size := Nat.le_trans (Nat.le_trans hNL hN) hg2.size
              clear fOW fDD hne hne0 hne9 l33 l38 l40 l42 hown2 hg2 hat2 hS fB33 fB38 fB40 fB42 fB44 hoL
              have hS : W9.cell? ⟨PB, 3, none⟩ = some (.slice A 1 c) := fPB.cell 3
              have z3 := fPB.frozen 3
              have lz := fPB.lt
              refine hK _ _ (fun _ => hS) ?_
              clear hK K
              repeat (first | (refine wpAnyG_take (i := 15) (v := .pointer (some ⟨PB, 3, none⟩)) rfl ?_ ?_ ?_ (fun _ _ _ h => h) (Or.inl ⟨by rfl, ?_⟩) hS ?_; (· decide +kernel); (· decide +kernel); (· decide +kernel); (· (intro w' hS'; go_simp))))
              refine wpAnyG_ready (rs := [16]) (by decide +kernel) (by simp) ?_
              refine AllReadyG.cons rfl (fun K hK => ?_) AllReadyG.nil
              go_simp
              refine hK _ _ (fun h => absurd h (by decide)) ?_
              clear hK K
              refine wpAnyG_done (by decide +kernel) ?_ _
              have fin := Lib.hid (And.intro (PgBk.put (A' := A9) (k' := 2) (c' := c9) HB hN fRB fPB AP.out) (hpl.put (PB := PB) (i := 3) (x := .slice A9 2 c9) AP.out.2.2.1))
              clear hS z3 lz hpl HB hN fRB fPB
              go_wp2_with (fail)
              go_meet
              exact ⟨rfl, A9, c9, B33, B38, B40, B42, fin⟩
            · go_simp
              have fB42 := Blk.new W3 80 [str [78], .slice none 0 0, str [67], .slice (some ⟨B40, 0, none⟩) 2 2]
              have nB42 : L0 ≤ W3.heap.size := hN
              replace fRB := fRB.alloc (.cells #[str [78], .slice none 0 0, str [67], .slice (some ⟨B40, 0, none⟩) 2 2] 80)
              replace fPB := fPB.alloc (.cells #[str [78], .slice none 0 0, str [67], .slice (some ⟨B40, 0, none⟩) 2 2] 80)
              replace fOW := fOW.alloc (.cells #[str [78], .slice none 0 0, str [67], .slice (some ⟨B40, 0, none⟩) 2 2] 80)
              replace fDD := dt_alloc fDD (.cells #[str [78], .slice none 0 0, str [67], .slice (some ⟨B40, 0, none⟩) 2 2] 80)
              replace fB38 := fB38.alloc (.cells #[str [78], .slice none 0 0, str [67], .slice (some ⟨B40, 0, none⟩) 2 2] 80)
              replace fB40 := fB40.alloc (.cells #[str [78], .slice none 0 0, str [67], .slice (some ⟨B40, 0, none⟩) 2 2] 80)
              replace HB := HB.alloc (Nat.le_trans hL0 hN) (.cells #[str [78], .slice none 0 0, str [67], .slice (some ⟨B40, 0, none⟩) 2 2] 80)
              replace hN : L0 ≤ (W3.alloc (.cells #[str [78], .slice none 0 0, str [67], .slice (some ⟨B40, 0, none⟩) 2 2] 80)).heap.size := by simp; omega
              clear hS
              generalize W3.alloc (.cells #[str [78], .slice none 0 0, str [67], .slice (some ⟨B40, 0, none⟩) 2 2] 80) = W4 at *
              generalize W3.heap.size = B42 at *
              have hS := (show W4.cell? ⟨PB, 3, none⟩ = some (.slice A 1 c) from fPB.cell 3)
              refine hK _ _ (fun _ => hS) ?_
              clear hK K
              refine wpAnyG_ready (rs := [2]) (by decide +kernel) (by simp) ?_
              refine AllReadyG.cons rfl (fun K hK => ?_) AllReadyG.nil
              go_simp
              have fB33 := Blk.new W4 9 [str [97]]
              have nB33 : L0 ≤ W4.heap.size := hN
              replace fRB := fRB.alloc (.cells #[str [97]] 9)
              replace fPB := fPB.alloc (.cells #[str [97]] 9)
              replace fOW := fOW.alloc (.cells #[str [97]] 9)
              replace fDD := dt_alloc fDD (.cells #[str [97]] 9)
              replace fB38 := fB38.alloc (.cells #[str [97]] 9)
              replace fB40 := fB40.alloc (.cells #[str [97]] 9)
              replace fB42 := fB42.alloc (.cells #[str [97]] 9)
              replace HB := HB.alloc (Nat.le_trans hL0 hN) (.cells #[str [97]] 9)
              replace hN : L0 ≤ (W4.alloc (.cells #[str [97]] 9)).heap.size := by simp; omega
              clear hS
              generalize W4.alloc (.cells #[str [97]] 9) = W5 at *
              generalize W4.heap.size = B33 at *
              have hS := (show W5.cell? ⟨PB, 3, none⟩ = some (.slice A 1 c) from fPB.cell 3)
              refine hK _ _ (fun _ => hS) ?_
              clear hK K
              repeat (first | (refine wpAnyG_take (i := 12) (v := .agg #[str [76], .slice (some ⟨B33, 0, none⟩) 1 1, .slice (some ⟨B42, 0, none⟩) 2 2]) rfl ?_ ?_ ?_ (fun _ _ _ h => h) (Or.inl ⟨by rfl, ?_⟩) hS ?_; (· decide +kernel); (· decide +kernel); (· decide +kernel); (· (intro w' hS'; go_simp))))
              refine wpAnyG_ready (rs := [13]) (by decide +kernel) (by simp) ?_
              refine AllReadyG.cons rfl (fun K hK => ?_) AllReadyG.nil
              go_simp
              have fB44 := Blk.new W5 83 [str [76], .slice (some ⟨B33, 0, none⟩) 1 1, .slice (some ⟨B42, 0, none⟩) 2 2]
              have nB44 : L0 ≤ W5.heap.size := hN
              replace fRB := fRB.alloc (.cells #[str [76], .slice (some ⟨B33, 0, none⟩) 1 1, .slice (some ⟨B42, 0, none⟩) 2 2] 83)
              replace fPB := fPB.alloc (.cells #[str [76], .slice (some ⟨B33, 0, none⟩) 1 1, .slice (some ⟨B42, 0, none⟩) 2 2] 83)
              replace fOW := fOW.alloc (.cells #[str [76], .slice (some ⟨B33, 0, none⟩) 1 1, .slice (some ⟨B42, 0, none⟩) 2 2] 83)
              replace fDD := dt_alloc fDD (.cells #[str [76], .slice (some ⟨B33, 0, none⟩) 1 1, .slice (some ⟨B42, 0, none⟩) 2 2] 83)
              replace fB38 := fB38.alloc (.cells #[str [76], .slice (some ⟨B33, 0, none⟩) 1 1, .slice (some ⟨B42, 0, none⟩) 2 2] 83)
              replace fB40 := fB40.alloc (.cells #[str [76], .slice (some ⟨B33, 0, none⟩) 1 1, .slice (some ⟨B42, 0, none⟩) 2 2] 83)
              replace fB42 := fB42.alloc (.cells #[str [76], .slice (some ⟨B33, 0, none⟩) 1 1, .slice (some ⟨B42, 0, none⟩) 2 2] 83)
              replace fB33 := fB33.alloc (.cells #[str [76], .slice (some ⟨B33, 0, none⟩) 1 1, .slice (some ⟨B42, 0, none⟩) 2 2] 83)
              replace HB := HB.alloc (Nat.le_trans hL0 hN) (.cells #[str [76], .slice (some ⟨B33, 0, none⟩) 1 1, .slice (some ⟨B42, 0, none⟩) 2 2] 83)
              replace hN : L0 ≤ (W5.alloc (.cells #[str [76], .slice (some ⟨B33, 0, none⟩) 1 1, .slice (some ⟨B42, 0, none⟩) 2 2] 83)).heap.size := by simp; omega
              clear hS
              generalize W5.alloc (.cells #[str [76], .slice (some ⟨B33, 0, none⟩) 1 1, .slice (some ⟨B42, 0, none⟩) 2 2] 83) = W6 at *
              generalize W5.heap.size = B44 at *
              have hS := (show W6.cell? ⟨PB, 3, none⟩ = some (.slice A 1 c) from fPB.cell 3)
              refine hK _ _ (fun _ => hS) ?_
              clear hK K
              refine wpAnyG_ready (rs := [14]) (by decide +kernel) (by simp) ?_
              refine AllReadyG.cons rfl (fun K hK => ?_) AllReadyG.nil
              refine step_app_dt _ rfl (.tmp 32) (.tmp 44) (by rfl) (base := N0) (v := .slice A 1 c) (n := 1) (xs := cs) fOW rfl (D := Any) (A := some ⟨B44, 0, none⟩) (m := 1) (news := [str [76], .slice (some ⟨B33, 0, none⟩) 1 1, .slice (some ⟨B42, 0, none⟩) 2 2]) (c := 1) (fB44.reads trivial rfl) (by first | rfl | simp) (by simp [Value.oneCell']) (by omega) (Nat.le_trans hNL hN) ?_
              intro v2 W9 hown2 hg2 hat2
              obtain ⟨A9, c9, rfl, _⟩ := own_form hown2
              have hne : ∀ b, L0 ≤ b → some b ≠ (Value.slice A 1 c).ownBlock := fun b hb e => by have := hoL b e.symm; omega
              have hne0 : ∀ b, b < N0 → some b ≠ (Value.slice A 1 c).ownBlock := fun b hb e => by have := (fOW.lt b e.symm).1; omega
              have hne9 : ∀ b, L0 ≤ b → b < W6.heap.size → (Value.slice A9 2 c9).ownBlock ≠ some b := fun b hb hl e => by
                rcases hat2 with h | h
                · rw [h] at e; exact hne b hb e.symm
                · rw [h] at e; injection e with e; omega
              have l33 := fB33.lt
              have l38 := fB38.lt
              have l40 := fB40.lt
              have l42 := fB42.lt
              replace fRB := fRB.grown hg2 (hne0 _ AP.out.2.1)
              replace fPB := fPB.grown hg2 (hne0 _ AP.out.2.2.1)
              replace HB := HB.grown hg2 (Nat.le_trans hL0 hN) (fun k hk => Nat.le_trans AP.out.2.2.2.2.2 (fOW.lt k hk).1)
              have hpl : PgL W9 N0 A9 c9 y B33 B38 B40 B42 := by
                refine ⟨⟨cs, hown2, ?_⟩, fB33.grown hg2 (hne _ nB33), fB38.grown hg2 (hne _ nB38), fB40.grown hg2 (hne _ nB40), fB42.grown hg2 (hne _ nB42), ⟨by omega, hne9 _ nB33 l33⟩, ⟨by omega, hne9 _ nB38 l38⟩, ⟨by omega, hne9 _ nB40 l40⟩, ⟨by omega, hne9 _ nB42 l42⟩⟩
                have h2 := (DtCells.stable 4).keep (w' := W9) fDD (fun b hb hl => hg2.block b hl (fun e => hb.2.1 e.symm))
                refine (DtCells.stable 4).imp h2 fun b hb _ => ⟨hb.1, fun e => ?_, by omega⟩
                rcases hat2 with h | h
                · rw [h] at e; exact hb.2.1 e
                · rw [h] at e; injection e with e; omega
              replace hN : N0 ≤ W9.heap.size := Nat.le_trans (Nat.le_trans hNL hN) hg2.size
              clear fOW fDD hne hne0 hne9 l33 l38 l40 l42 hown2 hg2 hat2 hS fB33 fB38 fB40 fB42 fB44 hoL
              have hS : W9.cell? ⟨PB, 3, none⟩ = some (.slice A 1 c) := fPB.cell 3
              have z3 := fPB.frozen 3
              have lz := fPB.lt
              refine hK _ _ (fun _ => hS) ?_
              clear hK K
              repeat (first | (refine wpAnyG_take (i := 15) (v := .pointer (some ⟨PB, 3, none⟩)) rfl ?_ ?_ ?_ (fun _ _ _ h => h) (Or.inl ⟨by rfl, ?_⟩) hS ?_; (· decide +kernel); (· decide +kernel); (· decide +kernel); (· (intro w' hS'; go_simp))))
              refine wpAnyG_ready (rs := [16]) (by decide +kernel) (by simp) ?_
              refine AllReadyG.cons rfl (fun K hK => ?_) AllReadyG.nil
              go_simp
              refine hK _ _ (fun h => absurd h (by decide)) ?_
              clear hK K
              refine wpAnyG_done (by decide +kernel) ?_ _
              have fin := Lib.hid (And.intro (PgBk.put (A' := A9) (k' := 2) (c' := c9) HB hN fRB fPB AP.out) (hpl.put (PB := PB) (i := 3) (x := .slice A9 2 c9) AP.out.2.2.1))
              clear hS z3 lz hpl HB hN fRB fPB
              go_wp2_with (fail)
              go_meet
              exact ⟨rfl, A9, c9, B33, B38, B40, B42, fin⟩
    case rest =>
      obtain ⟨rfl, A, c, b33, b38, b40, b42, HP⟩ := hcut
      rename World => W
      go_wp2_with (fail)
      refine (R1.out _).mono ?_
      rintro e w' ⟨rfl, rfl⟩
      go_upto_if 50 with (fail)
      go_cut [5] (fun s5 wc => s5 = .pointer (some ⟨PB, 0, none⟩) ∧ Hid (PgBk w wc N0 RB PB A 2 c ∧ DtsOwn wc N0 (.slice A 2 c) [dD y, dL bad]))
      case first =>
        by_cases hq : q1 = 0
        · have gq : ((q1 : Int) == 0) = true := by simp; omega
          have gq' : (q1 == 0) = true := by simp; omega
          obtain rfl : bad = true := HBad.out.trans (decide_eq_true hq)
          clear hq
          go_upto_region 7 with (fail)
          obtain ⟨hbk, hpl⟩ := HP.out
          obtain ⟨g, rfl, hgN, hgl, hg5⟩ := hpl.at_
          refine wp_region_g (S := fun w' => w'.cell? ⟨PB, 3, none⟩ = some (.slice (some ⟨g, 0, none⟩) 2 c) ∧ w'.cell? ⟨g, 5, none⟩ = some (.slice (some ⟨b42, 0, none⟩) 2 2)) (m := 10) (by kernel_rfl) ?_
          have fRB := hbk.rb.drew
          have fPB := hbk.pb.drew
          have fPL := hpl.drew
          have HB : Below w.heap.size w (World.drew W) := ⟨hbk.be.os, hbk.be.tape, hbk.be.output, hbk.be.size, hbk.be.block⟩
          have hN : N0 ≤ (World.drew W).heap.size := hbk.lo
          have hgl' : g < (World.drew W).heap.size := hgl
          have hg5' : (World.drew W).cell? ⟨g, 5, none⟩ = some (.slice (some ⟨b42, 0, none⟩) 2 2) := hg5
          clear hbk hpl hgl hg5 HP
          generalize World.drew W = W0 at *
          have hS : W0.cell? ⟨PB, 3, none⟩ = some (.slice (some ⟨g, 0, none⟩) 2 c) ∧ W0.cell? ⟨g, 5, none⟩ = some (.slice (some ⟨b42, 0, none⟩) 2 2) := ⟨fPB.cell 3, hg5'⟩
          repeat (first | (refine wpAnyG_take (i := 0) (v := .pointer (some ⟨PB, 3, none⟩)) rfl ?_ ?_ ?_ (fun _ _ _ h => h) (Or.inl ⟨by rfl, ?_⟩) hS ?_; (· decide +kernel); (· decide +kernel); (· decide +kernel); (· (intro w' hS'; obtain ⟨hS1, hS2⟩ := hS'; go_simp))) | (refine wpAnyG_take (i := 1) (v := .slice (some ⟨g, 0, none⟩) 2 c) rfl ?_ ?_ ?_ (fun _ _ _ h => h) (Or.inl ⟨by rfl, ?_⟩) hS ?_; (· decide +kernel); (· decide +kernel); (· decide +kernel); (· (intro w' hS'; obtain ⟨hS1, hS2⟩ := hS'; go_simp))) | (refine wpAnyG_take (i := 2) (v := .pointer (some ⟨g, 3, none⟩)) rfl ?_ ?_ ?_ (fun _ _ _ h => h) (Or.inl ⟨by rfl, ?_⟩) hS ?_; (· decide +kernel); (· decide +kernel); (· decide +kernel); (· (intro w' hS'; obtain ⟨hS1, hS2⟩ := hS'; go_simp))) | (refine wpAnyG_take (i := 3) (v := .pointer (some ⟨g, 5, none⟩)) rfl ?_ ?_ ?_ (fun _ _ _ h => h) (Or.inl ⟨by rfl, ?_⟩) hS ?_; (· decide +kernel); (· decide +kernel); (· decide +kernel); (· (intro w' hS'; obtain ⟨hS1, hS2⟩ := hS'; go_simp))) | (refine wpAnyG_take (i := 4) (v := .slice (some ⟨b42, 0, none⟩) 2 2) rfl ?_ ?_ ?_ (fun _ _ _ h => h) (Or.inl ⟨by rfl, ?_⟩) hS ?_; (· decide +kernel); (· decide +kernel); (· decide +kernel); (· (intro w' hS'; obtain ⟨hS1, hS2⟩ := hS'; go_simp))) | (refine wpAnyG_take (i := 5) (v := .func (.func 27) #[] #[]) rfl ?_ ?_ ?_ (fun _ _ _ h => h) (Or.inl ⟨by rfl, ?_⟩) hS ?_; (· decide +kernel); (· decide +kernel); (· decide +kernel); (· (intro w' hS'; obtain ⟨hS1, hS2⟩ := hS'; go_simp))) | (refine wpAnyG_take (i := 9) (v := .pointer (some ⟨b42, 0, none⟩)) rfl ?_ ?_ ?_ (fun _ _ _ h => h) (Or.inl ⟨by rfl, ?_⟩) hS ?_; (· decide +kernel); (· decide +kernel); (· decide +kernel); (· (intro w' hS'; obtain ⟨hS1, hS2⟩ := hS'; go_simp))))
          refine wpAnyG_ready (rs := [6]) (by decide +kernel) (by simp) ?_
          refine AllReadyG.cons rfl (fun K hK => ?_) AllReadyG.nil
          go_simp
          refine (named_any [68] none 0 0 _).mono ?_
          rintro e w' ⟨rfl, rfl⟩
          try dsimp only
          have hb1 : Below W0.heap.size W0 (W0.alloc (.cells #[.int .i64 6, str [68], .slice none 0 0] 34)) := (Below.refl _ _).alloc (Nat.le_refl _) _
          have hS : (W0.alloc (.cells #[.int .i64 6, str [68], .slice none 0 0] 34)).cell? ⟨PB, 3, none⟩ = some (.slice (some ⟨g, 0, none⟩) 2 c) ∧ (W0.alloc (.cells #[.int .i64 6, str [68], .slice none 0 0] 34)).cell? ⟨g, 5, none⟩ = some (.slice (some ⟨b42, 0, none⟩) 2 2) := ⟨(fPB.alloc _).cell 3, (hb1.cell (p := ⟨g, 5, none⟩) hgl').trans hg5'⟩
          refine hK _ _ (fun _ => hS) ?_
          clear hK K
          refine wpAnyG_ready (rs := [7]) (by decide +kernel) (by simp) ?_
          refine AllReadyG.cons rfl (fun K hK => ?_) AllReadyG.nil
          go_simp
          have hb2 : Below W0.heap.size W0 ((W0.alloc (.cells #[.int .i64 6, str [68], .slice none 0 0] 34)).alloc (.cells #[.int .i64 6, str [68], .slice none 0 0] 34)) := hb1.alloc (by simp) _
          have fB58 := Blk.new (W0.alloc (.cells #[.int .i64 6, str [68], .slice none 0 0] 34)) 34 [.int .i64 6, str [68], .slice none 0 0]
          obtain ⟨B58, hB58⟩ : ∃ B, B = W0.heap.size + 1 := ⟨_, rfl⟩
          rw [show (W0.alloc (.cells #[.int .i64 6, str [68], .slice none 0 0] 34)).heap.size = B58 by simp [hB58]] at fB58
          rw [← hB58]
          replace fRB := (fRB.alloc (.cells #[.int .i64 6, str [68], .slice none 0 0] 34)).alloc (.cells #[.int .i64 6, str [68], .slice none 0 0] 34)
          replace fPB := (fPB.alloc (.cells #[.int .i64 6, str [68], .slice none 0 0] 34)).alloc (.cells #[.int .i64 6, str [68], .slice none 0 0] 34)
          replace fPL := (fPL.alloc (.cells #[.int .i64 6, str [68], .slice none 0 0] 34)).alloc (.cells #[.int .i64 6, str [68], .slice none 0 0] 34)
          replace HB : Below w.heap.size w ((W0.alloc (.cells #[.int .i64 6, str [68], .slice none 0 0] 34)).alloc (.cells #[.int .i64 6, str [68], .slice none 0 0] 34)) := HB.trans (hb2.mono HB.size)
          have hN2 : N0 ≤ ((W0.alloc (.cells #[.int .i64 6, str [68], .slice none 0 0] 34)).alloc (.cells #[.int .i64 6, str [68], .slice none 0 0] 34)).heap.size := by simp; omega
          have hg5'' : ((W0.alloc (.cells #[.int .i64 6, str [68], .slice none 0 0] 34)).alloc (.cells #[.int .i64 6, str [68], .slice none 0 0] 34)).cell? ⟨g, 5, none⟩ = some (.slice (some ⟨b42, 0, none⟩) 2 2) := (hb2.cell (p := ⟨g, 5, none⟩) hgl').trans hg5'
          have n58 : N0 ≤ B58 ∧ (Value.slice (some ⟨g, 0, none⟩) 2 c).ownBlock ≠ some B58 := ⟨by omega, fun e => by have e2 : some g = some B58 := e; injection e2 with e2; omega⟩
          clear hS hB58 hg5' hN hb1 hb2 hgl'
          generalize (W0.alloc (.cells #[.int .i64 6, str [68], .slice none 0 0] 34)).alloc (.cells #[.int .i64 6, str [68], .slice none 0 0] 34) = W2 at *
          have hS : W2.cell? ⟨PB, 3, none⟩ = some (.slice (some ⟨g, 0, none⟩) 2 c) ∧ W2.cell? ⟨g, 5, none⟩ = some (.slice (some ⟨b42, 0, none⟩) 2 2) := ⟨fPB.cell 3, hg5''⟩
          refine hK _ _ (fun _ => hS) ?_
          clear hK K
          repeat (first | (refine wpAnyG_take (i := 8) (v := .agg #[str [78], .slice (some ⟨B58, 0, none⟩) 1 1]) rfl ?_ ?_ ?_ (fun _ _ _ h => h) (Or.inl ⟨by rfl, ?_⟩) hS ?_; (· decide +kernel); (· decide +kernel); (· decide +kernel); (· (intro w' hS'; obtain ⟨hS1, hS2⟩ := hS'; go_simp))) | (refine wpAnyG_take (i := 9) (v := .pointer (some ⟨b42, 0, none⟩)) rfl ?_ ?_ ?_ (fun _ _ _ h => h) (Or.inl ⟨by rfl, ?_⟩) hS ?_; (· decide +kernel); (· decide +kernel); (· decide +kernel); (· (intro w' hS'; obtain ⟨hS1, hS2⟩ := hS'; go_simp))))
          refine wpAnyG_ready (rs := [10]) (by decide +kernel) (by simp) ?_
          refine AllReadyG.cons rfl (fun K hK => ?_) AllReadyG.nil
          have y0 := fPL.h42.cell 0
          have y1 := fPL.h42.cell 1
          have z0 := fPL.h42.frozen 0
          have z1 := fPL.h42.frozen 1
          have lz := fPL.h42.lt
          simp only [List.getElem?_cons_zero, List.getElem?_cons_succ] at y0 y1
          have hne := fPL.n42.1
          have fin := Lib.hid (show PgBk w ((W2.setCell ⟨b42, 0, none⟩ (str [78])).setCell ⟨b42, 1, none⟩ (.slice (some ⟨B58, 0, none⟩) 1 1)) N0 RB PB (some ⟨g, 0, none⟩) 2 c ∧ DtsOwn ((W2.setCell ⟨b42, 0, none⟩ (str [78])).setCell ⟨b42, 1, none⟩ (.slice (some ⟨B58, 0, none⟩) 1 1)) N0 (.slice (some ⟨g, 0, none⟩) 2 c) [dD y, dL true] from by
            have hk : ∀ b, b ≠ b42 → ((W2.setCell ⟨b42, 0, none⟩ (str [78])).setCell ⟨b42, 1, none⟩ (.slice (some ⟨B58, 0, none⟩) 1 1)).heap[b]? = W2.heap[b]? := fun b hb => (Below.heap_setCell _ ⟨b42, 1, none⟩ _ b hb).trans (Below.heap_setCell W2 ⟨b42, 0, none⟩ _ b hb)
            have hap := AP.out
            refine ⟨⟨(HB.setCell (p := ⟨b42, 0, none⟩) (by show w.heap.size ≤ b42; omega) _).setCell (p := ⟨b42, 1, none⟩) (by show w.heap.size ≤ b42; omega) _, by simp [World.setCell]; exact hN2, (hk RB (by omega)).trans fRB, (hk PB (by omega)).trans fPB, hap⟩, fPL.dts1 fB58 n58⟩)
          go_simp
          refine hK _ _ (fun h => absurd h (by decide)) ?_
          clear hK K
          refine wpAnyG_done (by decide +kernel) ?_ _
          clear hS y0 y1 z0 z1 lz HB hN2 fRB fPB fPL fB58
          go_wp2_with (fail)
          go_meet
          exact ⟨rfl, fin⟩
        · have gq : ((q1 : Int) == 0) = false := by simp; omega
          have gq' : (q1 == 0) = false := by simp; omega
          obtain rfl : bad = false := HBad.out.trans (decide_eq_false hq)
          clear hq
          go_wp2_with (fail)
          go_meet
          exact ⟨rfl, HP.out.1, HP.out.2.dts0⟩
      case rest =>
        obtain ⟨rfl, HP⟩ := hcut
        rename World => W
        go_upto_region 8 with (fail)
        go_cut [5] (fun s5 wc => s5 = .pointer (some ⟨PB, 0, none⟩) ∧ ∃ A c, Hid (PgBk w wc N0 RB PB A 3 c ∧ DtsOwn wc N0 (.slice A 3 c) [dD y, dL bad, dE]))
        case first =>
          obtain ⟨hbk, hol⟩ := HP.out
          refine wp_region_g (S := fun w' => w'.cell? ⟨PB, 3, none⟩ = some (.slice A 2 c)) (m := 16) (by kernel_rfl) ?_
          have fRB := hbk.rb.drew
          have fPB := hbk.pb.drew
          have HB : Below w.heap.size w (World.drew W) := ⟨hbk.be.os, hbk.be.tape, hbk.be.output, hbk.be.size, hbk.be.block⟩
          obtain ⟨L0, hL0'⟩ : ∃ L, L = W.heap.size := ⟨_, rfl⟩
          have hN : L0 ≤ (World.drew W).heap.size := by rw [hL0']; exact Nat.le_refl _
          have hNL : N0 ≤ L0 := by rw [hL0']; exact hbk.lo
          have hL0 : w.heap.size ≤ L0 := by rw [hL0']; exact hbk.be.size
          have hoL : ∀ k, (Value.slice A 2 c).ownBlock = some k → k < L0 := fun k hk => by rw [hL0']; exact (hol.lt k hk).2
          have fOL := dts_drew hol
          clear hL0' hol hbk HP
          generalize World.drew W = W0 at *
          have hS : W0.cell? ⟨PB, 3, none⟩ = some (.slice A 2 c) := fPB.cell 3
          repeat (first | (refine wpAnyG_take (i := 0) (v := .pointer (some ⟨PB, 3, none⟩)) rfl ?_ ?_ ?_ (fun _ _ _ h => h) (Or.inl ⟨by rfl, ?_⟩) hS ?_; (· decide +kernel); (· decide +kernel); (· decide +kernel); (· (intro w' hS'; go_simp))) | (refine wpAnyG_take (i := 1) (v := .slice A 2 c) rfl ?_ ?_ ?_ (fun _ _ _ h => h) (Or.inl ⟨by rfl, ?_⟩) hS ?_; (· decide +kernel); (· decide +kernel); (· decide +kernel); (· (intro w' hS'; go_simp))) | (refine wpAnyG_take (i := 2) (v := .func (.func 27) #[] #[]) rfl ?_ ?_ ?_ (fun _ _ _ h => h) (Or.inl ⟨by rfl, ?_⟩) hS ?_; (· decide +kernel); (· decide +kernel); (· decide +kernel); (· (intro w' hS'; go_simp))) | (refine wpAnyG_take (i := 3) (v := .func (.func 27) #[] #[]) rfl ?_ ?_ ?_ (fun _ _ _ h => h) (Or.inl ⟨by rfl, ?_⟩) hS ?_; (· decide +kernel); (· decide +kernel); (· decide +kernel); (· (intro w' hS'; go_simp))) | (refine wpAnyG_take (i := 7) (v := .func (.func 26) #[] #[]) rfl ?_ ?_ ?_ (fun _ _ _ h => h) (Or.inl ⟨by rfl, ?_⟩) hS ?_; (· decide +kernel); (· decide +kernel); (· decide +kernel); (· (intro w' hS'; go_simp))))
          refine wpAnyG_ready (rs := [4]) (by decide +kernel) (by simp) ?_
          refine AllReadyG.cons rfl (fun K hK => ?_) AllReadyG.nil
          go_simp
          refine (named_any [68] none 0 0 _).mono ?_
          rintro e w' ⟨rfl, rfl⟩
          try dsimp only
          replace fRB := fRB.alloc (.cells #[.int .i64 6, str [68], .slice none 0 0] 34)
          replace fPB := fPB.alloc (.cells #[.int .i64 6, str [68], .slice none 0 0] 34)
          replace fOL := dts_alloc fOL (.cells #[.int .i64 6, str [68], .slice none 0 0] 34)
          replace HB := HB.alloc (Nat.le_trans hL0 hN) (.cells #[.int .i64 6, str [68], .slice none 0 0] 34)
          replace hN : L0 ≤ (W0.alloc (.cells #[.int .i64 6, str [68], .slice none 0 0] 34)).heap.size := by simp; omega
          clear hS
          generalize W0.alloc (.cells #[.int .i64 6, str [68], .slice none 0 0] 34) = W1 at *
          have hS := (show W1.cell? ⟨PB, 3, none⟩ = some (.slice A 2 c) from fPB.cell 3)
          refine hK _ _ (fun _ => hS) ?_
          clear hK K
          refine wpAnyG_ready (rs := [5]) (by decide +kernel) (by simp) ?_
          refine AllReadyG.cons rfl (fun K hK => ?_) AllReadyG.nil
          go_simp
          have fB66 := Blk.new W1 34 [.int .i64 6, str [68], .slice none 0 0]
          have nB66 : L0 ≤ W1.heap.size := hN
          replace fRB := fRB.alloc (.cells #[.int .i64 6, str [68], .slice none 0 0] 34)
          replace fPB := fPB.alloc (.cells #[.int .i64 6, str [68], .slice none 0 0] 34)
          replace fOL := dts_alloc fOL (.cells #[.int .i64 6, str [68], .slice none 0 0] 34)
          replace HB := HB.alloc (Nat.le_trans hL0 hN) (.cells #[.int .i64 6, str [68], .slice none 0 0] 34)
          replace hN : L0 ≤ (W1.alloc (.cells #[.int .i64 6, str [68], .slice none 0 0] 34)).heap.size := by simp; omega
          clear hS
          generalize W1.alloc (.cells #[.int .i64 6, str [68], .slice none 0 0] 34) = W2 at *
          generalize W1.heap.size = B66 at *
          have hS := (show W2.cell? ⟨PB, 3, none⟩ = some (.slice A 2 c) from fPB.cell 3)
          refine hK _ _ (fun _ => hS) ?_
          clear hK K
          refine wpAnyG_ready (rs := [6]) (by decide +kernel) (by simp) ?_
          refine AllReadyG.cons rfl (fun K hK => ?_) AllReadyG.nil
          go_simp
          refine (named_any [76] (some ⟨B66, 0, none⟩) 1 1 _).mono ?_
          rintro e w' ⟨rfl, rfl⟩
          try dsimp only
          replace fRB := fRB.alloc (.cells #[.int .i64 6, str [76], .slice (some ⟨B66, 0, none⟩) 1 1] 34)
          replace fPB := fPB.alloc (.cells #[.int .i64 6, str [76], .slice (some ⟨B66, 0, none⟩) 1 1] 34)
          replace fOL := dts_alloc fOL (.cells #[.int .i64 6, str [76], .slice (some ⟨B66, 0, none⟩) 1 1] 34)
          replace fB66 := fB66.alloc (.cells #[.int .i64 6, str [76], .slice (some ⟨B66, 0, none⟩) 1 1] 34)
          replace HB := HB.alloc (Nat.le_trans hL0 hN) (.cells #[.int .i64 6, str [76], .slice (some ⟨B66, 0, none⟩) 1 1] 34)
          replace hN : L0 ≤ (W2.alloc (.cells #[.int .i64 6, str [76], .slice (some ⟨B66, 0, none⟩) 1 1] 34)).heap.size := by simp; omega
          clear hS
          generalize W2.alloc (.cells #[.int .i64 6, str [76], .slice (some ⟨B66, 0, none⟩) 1 1] 34) = W3 at *
          have hS := (show W3.cell? ⟨PB, 3, none⟩ = some (.slice A 2 c) from fPB.cell 3)
          refine hK _ _ (fun _ => hS) ?_
          clear hK K
          refine wpAnyG_ready (rs := [8]) (by decide +kernel) (by simp) ?_
          refine AllReadyG.cons rfl (fun K hK => ?_) AllReadyG.nil
          go_simp
          refine (one_any 3 _).mono ?_
          rintro e w' ⟨rfl, rfl⟩
          try dsimp only
          replace fRB := fRB.alloc (.cells #[.int .i64 3, str [], .slice none 0 0] 34)
          replace fPB := fPB.alloc (.cells #[.int .i64 3, str [], .slice none 0 0] 34)
          replace fOL := dts_alloc fOL (.cells #[.int .i64 3, str [], .slice none 0 0] 34)
          replace fB66 := fB66.alloc (.cells #[.int .i64 3, str [], .slice none 0 0] 34)
          replace HB := HB.alloc (Nat.le_trans hL0 hN) (.cells #[.int .i64 3, str [], .slice none 0 0] 34)
          replace hN : L0 ≤ (W3.alloc (.cells #[.int .i64 3, str [], .slice none 0 0] 34)).heap.size := by simp; omega
          clear hS
          generalize W3.alloc (.cells #[.int .i64 3, str [], .slice none 0 0] 34) = W4 at *
          have hS := (show W4.cell? ⟨PB, 3, none⟩ = some (.slice A 2 c) from fPB.cell 3)
          refine hK _ _ (fun _ => hS) ?_
          clear hK K
          refine wpAnyG_ready (rs := [9]) (by decide +kernel) (by simp) ?_
          refine AllReadyG.cons rfl (fun K hK => ?_) AllReadyG.nil
          go_simp
          have fB70 := Blk.new W4 34 [.int .i64 6, str [76], .slice (some ⟨B66, 0, none⟩) 1 1, .int .i64 3, str [], .slice none 0 0]
          have nB70 : L0 ≤ W4.heap.size := hN
          replace fRB := fRB.alloc (.cells #[.int .i64 6, str [76], .slice (some ⟨B66, 0, none⟩) 1 1, .int .i64 3, str [], .slice none 0 0] 34)
          replace fPB := fPB.alloc (.cells #[.int .i64 6, str [76], .slice (some ⟨B66, 0, none⟩) 1 1, .int .i64 3, str [], .slice none 0 0] 34)
          replace fOL := dts_alloc fOL (.cells #[.int .i64 6, str [76], .slice (some ⟨B66, 0, none⟩) 1 1, .int .i64 3, str [], .slice none 0 0] 34)
          replace fB66 := fB66.alloc (.cells #[.int .i64 6, str [76], .slice (some ⟨B66, 0, none⟩) 1 1, .int .i64 3, str [], .slice none 0 0] 34)
          replace HB := HB.alloc (Nat.le_trans hL0 hN) (.cells #[.int .i64 6, str [76], .slice (some ⟨B66, 0, none⟩) 1 1, .int .i64 3, str [], .slice none 0 0] 34)
          replace hN : L0 ≤ (W4.alloc (.cells #[.int .i64 6, str [76], .slice (some ⟨B66, 0, none⟩) 1 1, .int .i64 3, str [], .slice none 0 0] 34)).heap.size := by simp; omega
          clear hS
          generalize W4.alloc (.cells #[.int .i64 6, str [76], .slice (some ⟨B66, 0, none⟩) 1 1, .int .i64 3, str [], .slice none 0 0] 34) = W5 at *
          generalize W4.heap.size = B70 at *
          have hS := (show W5.cell? ⟨PB, 3, none⟩ = some (.slice A 2 c) from fPB.cell 3)
          refine hK _ _ (fun _ => hS) ?_
          clear hK K
          repeat (first | (refine wpAnyG_take (i := 10) (v := .agg #[str [87], .slice (some ⟨B70, 0, none⟩) 2 2]) rfl ?_ ?_ ?_ (fun _ _ _ h => h) (Or.inl ⟨by rfl, ?_⟩) hS ?_; (· decide +kernel); (· decide +kernel); (· decide +kernel); (· (intro w' hS'; go_simp))))
          refine wpAnyG_ready (rs := [11]) (by decide +kernel) (by simp) ?_
          refine AllReadyG.cons rfl (fun K hK => ?_) AllReadyG.nil
          go_simp
          have fB72 := Blk.new W5 80 [str [87], .slice (some ⟨B70, 0, none⟩) 2 2]
          have nB72 : L0 ≤ W5.heap.size := hN
          replace fRB := fRB.alloc (.cells #[str [87], .slice (some ⟨B70, 0, none⟩) 2 2] 80)
          replace fPB := fPB.alloc (.cells #[str [87], .slice (some ⟨B70, 0, none⟩) 2 2] 80)
          replace fOL := dts_alloc fOL (.cells #[str [87], .slice (some ⟨B70, 0, none⟩) 2 2] 80)
          replace fB66 := fB66.alloc (.cells #[str [87], .slice (some ⟨B70, 0, none⟩) 2 2] 80)
          replace fB70 := fB70.alloc (.cells #[str [87], .slice (some ⟨B70, 0, none⟩) 2 2] 80)
          replace HB := HB.alloc (Nat.le_trans hL0 hN) (.cells #[str [87], .slice (some ⟨B70, 0, none⟩) 2 2] 80)
          replace hN : L0 ≤ (W5.alloc (.cells #[str [87], .slice (some ⟨B70, 0, none⟩) 2 2] 80)).heap.size := by simp; omega
          clear hS
          generalize W5.alloc (.cells #[str [87], .slice (some ⟨B70, 0, none⟩) 2 2] 80) = W6 at *
          generalize W5.heap.size = B72 at *
          have hS := (show W6.cell? ⟨PB, 3, none⟩ = some (.slice A 2 c) from fPB.cell 3)
          refine hK _ _ (fun _ => hS) ?_
          clear hK K
          repeat (first | (refine wpAnyG_take (i := 12) (v := .agg #[str [69], .slice none 0 0, .slice (some ⟨B72, 0, none⟩) 1 1]) rfl ?_ ?_ ?_ (fun _ _ _ h => h) (Or.inl ⟨by rfl, ?_⟩) hS ?_; (· decide +kernel); (· decide +kernel); (· decide +kernel); (· (intro w' hS'; go_simp))))
          refine wpAnyG_ready (rs := [13]) (by decide +kernel) (by simp) ?_
          refine AllReadyG.cons rfl (fun K hK => ?_) AllReadyG.nil
          go_simp
          have fB74 := Blk.new W6 83 [str [69], .slice none 0 0, .slice (some ⟨B72, 0, none⟩) 1 1]
          have nB74 : L0 ≤ W6.heap.size := hN
          replace fRB := fRB.alloc (.cells #[str [69], .slice none 0 0, .slice (some ⟨B72, 0, none⟩) 1 1] 83)
          replace fPB := fPB.alloc (.cells #[str [69], .slice none 0 0, .slice (some ⟨B72, 0, none⟩) 1 1] 83)
          replace fOL := dts_alloc fOL (.cells #[str [69], .slice none 0 0, .slice (some ⟨B72, 0, none⟩) 1 1] 83)
          replace fB66 := fB66.alloc (.cells #[str [69], .slice none 0 0, .slice (some ⟨B72, 0, none⟩) 1 1] 83)
          replace fB70 := fB70.alloc (.cells #[str [69], .slice none 0 0, .slice (some ⟨B72, 0, none⟩) 1 1] 83)
          replace fB72 := fB72.alloc (.cells #[str [69], .slice none 0 0, .slice (some ⟨B72, 0, none⟩) 1 1] 83)
          replace HB := HB.alloc (Nat.le_trans hL0 hN) (.cells #[str [69], .slice none 0 0, .slice (some ⟨B72, 0, none⟩) 1 1] 83)
          replace hN : L0 ≤ (W6.alloc (.cells #[str [69], .slice none 0 0, .slice (some ⟨B72, 0, none⟩) 1 1] 83)).heap.size := by simp; omega
          clear hS
          generalize W6.alloc (.cells #[str [69], .slice none 0 0, .slice (some ⟨B72, 0, none⟩) 1 1] 83) = W7 at *
          generalize W6.heap.size = B74 at *
          have hS := (show W7.cell? ⟨PB, 3, none⟩ = some (.slice A 2 c) from fPB.cell 3)
          refine hK _ _ (fun _ => hS) ?_
          clear hK K
          refine wpAnyG_ready (rs := [14]) (by decide +kernel) (by simp) ?_
          refine AllReadyG.cons rfl (fun K hK => ?_) AllReadyG.nil
          obtain ⟨vss, how, hal⟩ := fOL
          refine step_app_dt _ rfl (.tmp 62) (.tmp 74) (by rfl) (base := N0) (v := .slice A 2 c) (n := 2) (xs := vss.flatten) how rfl (D := Any) (A := some ⟨B74, 0, none⟩) (m := 1) (news := [str [69], .slice none 0 0, .slice (some ⟨B72, 0, none⟩) 1 1]) (c := 1) (fB74.reads trivial rfl) (by first | rfl | simp) (by simp [Value.oneCell']) (by omega) (Nat.le_trans hNL hN) ?_
          intro v2 W9 hown2 hg2 hat2
          obtain ⟨A9, c9, rfl, _⟩ := own_form hown2
          have hne : ∀ b, L0 ≤ b → (Value.slice A 2 c).ownBlock ≠ some b := fun b hb e => by have := hoL b e; omega
          have hne0 : ∀ b, b < N0 → some b ≠ (Value.slice A 2 c).ownBlock := fun b hb e => by have := (how.lt b e.symm).1; omega
          have hde : DtCells 4 W7 (fun b => N0 ≤ b ∧ (Value.slice A 2 c).ownBlock ≠ some b) [str [69], .slice none 0 0, .slice (some ⟨B72, 0, none⟩) 1 1] dE := dtE (d := 2) fB66 fB70 fB72 ⟨by omega, hne _ nB66⟩ ⟨by omega, hne _ nB70⟩ ⟨by omega, hne _ nB72⟩
          have hol9 : DtsOwn W9 N0 (.slice A9 3 c9) [dD y, dL bad, dE] := dts_push (l := [dD y, dL bad]) hal hde hg2 hat2 hown2
          replace fRB := fRB.grown hg2 (hne0 _ AP.out.2.1)
          replace fPB := fPB.grown hg2 (hne0 _ AP.out.2.2.1)
          replace HB := HB.grown hg2 (Nat.le_trans hL0 hN) (fun k hk => Nat.le_trans AP.out.2.2.2.2.2 (how.lt k hk).1)
          replace hN : N0 ≤ W9.heap.size := Nat.le_trans (Nat.le_trans hNL hN) hg2.size
          clear hne hne0 hown2 hg2 hat2 hS fB66 fB70 fB72 fB74 hoL hde how hal
          have hS : W9.cell? ⟨PB, 3, none⟩ = some (.slice A 2 c) := fPB.cell 3
          have z3 := fPB.frozen 3
          have lz := fPB.lt
          refine hK _ _ (fun _ => hS) ?_
          clear hK K
          repeat (first | (refine wpAnyG_take (i := 15) (v := .pointer (some ⟨PB, 3, none⟩)) rfl ?_ ?_ ?_ (fun _ _ _ h => h) (Or.inl ⟨by rfl, ?_⟩) hS ?_; (· decide +kernel); (· decide +kernel); (· decide +kernel); (· (intro w' hS'; go_simp))))
          refine wpAnyG_ready (rs := [16]) (by decide +kernel) (by simp) ?_
          refine AllReadyG.cons rfl (fun K hK => ?_) AllReadyG.nil
          go_simp
          refine hK _ _ (fun h => absurd h (by decide)) ?_
          clear hK K
          refine wpAnyG_done (by decide +kernel) ?_ _
          have fin := Lib.hid (And.intro (PgBk.put (A' := A9) (k' := 3) (c' := c9) HB hN fRB fPB AP.out) (dts_put (PB := PB) (i := 3) (x := .slice A9 3 c9) hol9 AP.out.2.2.1))
          clear hS z3 lz hol9 HB hN fRB fPB
          go_wp2_with (fail)
          go_meet
          exact ⟨rfl, A9, c9, fin⟩
        case rest =>
          obtain ⟨rfl, A3, c3, HP3⟩ := hcut
          rename World => W
          have HC : Below W.heap.size W W := Below.refl _ _
          clear HP
          go_wp2_with (fail)
          refine (one_b 1 W).mono ?_
          rintro e v1 ⟨rfl, hb⟩
          replace HC := HC.trans (hb.mono HC.size)
          clear hb
          go_wp2_with (fail)
          refine (one_b 2 v1).mono ?_
          rintro e v2 ⟨rfl, hb⟩
          replace HC := HC.trans (hb.mono HC.size)
          clear hb
          go_wp2_with (fail)
          refine (one_b 3 v2).mono ?_
          rintro e v3 ⟨rfl, hb⟩
          replace HC := HC.trans (hb.mono HC.size)
          clear hb
          go_wp2_with (fail)
          refine (one_b 4 v3).mono ?_
          rintro e v4 ⟨rfl, hb⟩
          replace HC := HC.trans (hb.mono HC.size)
          clear hb
          go_wp2_with (fail)
          refine (named_b [68] none 0 0 v4).mono ?_
          rintro e v5 ⟨rfl, hb⟩
          replace HC := HC.trans (hb.mono HC.size)
          clear hb
          go_wp2_with (fail)
          refine (one_b 1 v5).mono ?_
          rintro e v6 ⟨rfl, hb⟩
          replace HC := HC.trans (hb.mono HC.size)
          clear hb
          go_wp2_with (fail)
          have fB90 := Blk.new v6 34 [.int .i64 1, str [], .slice none 0 0]
          have nB90 : W.heap.size ≤ v6.heap.size := HC.size
          replace HC := HC.alloc HC.size (.cells #[.int .i64 1, str [], .slice none 0 0] 34)
          generalize v6.alloc (.cells #[.int .i64 1, str [], .slice none 0 0] 34) = u7 at *
          generalize v6.heap.size = B90 at *
          refine (named_b [76] (some ⟨B90, 0, none⟩) 1 1 u7).mono ?_
          rintro e v7 ⟨rfl, hb⟩
          replace HC := HC.trans (hb.mono HC.size)
          replace fB90 := fB90.below hb fB90.lt
          clear hb
          go_wp2_with (fail)
          refine (named_b [68] none 0 0 v7).mono ?_
          rintro e v8 ⟨rfl, hb⟩
          replace HC := HC.trans (hb.mono HC.size)
          replace fB90 := fB90.below hb fB90.lt
          clear hb
          go_wp2_with (fail)
          have fB96 := Blk.new v8 34 [.int .i64 6, str [68], .slice none 0 0]
          have nB96 : W.heap.size ≤ v8.heap.size := HC.size
          replace HC := HC.alloc HC.size (.cells #[.int .i64 6, str [68], .slice none 0 0] 34)
          replace fB90 := fB90.alloc (.cells #[.int .i64 6, str [68], .slice none 0 0] 34)
          generalize v8.alloc (.cells #[.int .i64 6, str [68], .slice none 0 0] 34) = u9 at *
          generalize v8.heap.size = B96 at *
          refine (named_b [76] (some ⟨B96, 0, none⟩) 1 1 u9).mono ?_
          rintro e v9 ⟨rfl, hb⟩
          replace HC := HC.trans (hb.mono HC.size)
          replace fB90 := fB90.below hb fB90.lt
          replace fB96 := fB96.below hb fB96.lt
          clear hb
          go_wp2_with (fail)
          have fB98 := Blk.new v9 34 [.int .i64 6, str [76], .slice (some ⟨B96, 0, none⟩) 1 1]
          have nB98 : W.heap.size ≤ v9.heap.size := HC.size
          replace HC := HC.alloc HC.size (.cells #[.int .i64 6, str [76], .slice (some ⟨B96, 0, none⟩) 1 1] 34)
          replace fB90 := fB90.alloc (.cells #[.int .i64 6, str [76], .slice (some ⟨B96, 0, none⟩) 1 1] 34)
          replace fB96 := fB96.alloc (.cells #[.int .i64 6, str [76], .slice (some ⟨B96, 0, none⟩) 1 1] 34)
          generalize v9.alloc (.cells #[.int .i64 6, str [76], .slice (some ⟨B96, 0, none⟩) 1 1] 34) = u10 at *
          generalize v9.heap.size = B98 at *
          refine (named_b [76] (some ⟨B98, 0, none⟩) 1 1 u10).mono ?_
          rintro e v10 ⟨rfl, hb⟩
          replace HC := HC.trans (hb.mono HC.size)
          replace fB90 := fB90.below hb fB90.lt
          replace fB96 := fB96.below hb fB96.lt
          replace fB98 := fB98.below hb fB98.lt
          clear hb
          go_wp2_with (fail)
          refine (named_b [69] none 0 0 v10).mono ?_
          rintro e v11 ⟨rfl, hb⟩
          replace HC := HC.trans (hb.mono HC.size)
          replace fB90 := fB90.below hb fB90.lt
          replace fB96 := fB96.below hb fB96.lt
          replace fB98 := fB98.below hb fB98.lt
          clear hb
          go_wp2_with (fail)
          refine (named_b [68] none 0 0 v11).mono ?_
          rintro e v12 ⟨rfl, hb⟩
          replace HC := HC.trans (hb.mono HC.size)
          replace fB90 := fB90.below hb fB90.lt
          replace fB96 := fB96.below hb fB96.lt
          replace fB98 := fB98.below hb fB98.lt
          clear hb
          go_wp2_with (fail)
          have fB104 := Blk.new v12 34 [.int .i64 6, str [68], .slice none 0 0]
          have nB104 : W.heap.size ≤ v12.heap.size := HC.size
          replace HC := HC.alloc HC.size (.cells #[.int .i64 6, str [68], .slice none 0 0] 34)
          replace fB90 := fB90.alloc (.cells #[.int .i64 6, str [68], .slice none 0 0] 34)
          replace fB96 := fB96.alloc (.cells #[.int .i64 6, str [68], .slice none 0 0] 34)
          replace fB98 := fB98.alloc (.cells #[.int .i64 6, str [68], .slice none 0 0] 34)
          have hsz : (v12.alloc (.cells #[.int .i64 6, str [68], .slice none 0 0] 34)).heap.size = v12.heap.size + 1 := by simp
          rw [← hsz]
          clear hsz
          generalize v12.alloc (.cells #[.int .i64 6, str [68], .slice none 0 0] 34) = t1 at *
          generalize v12.heap.size = B104 at *
          have fB106 := Blk.new t1 34 [.int .i64 1, str [], .slice none 0 0, .int .i64 2, str [], .slice none 0 0, .int .i64 3, str [], .slice none 0 0, .int .i64 4, str [], .slice none 0 0, .int .i64 6, str [68], .slice none 0 0, .int .i64 6, str [76], .slice (some ⟨B90, 0, none⟩) 1 1, .int .i64 6, str [76], .slice (some ⟨B98, 0, none⟩) 1 1, .int .i64 6, str [69], .slice none 0 0, .int .i64 9, str [], .slice (some ⟨B104, 0, none⟩) 1 1]
          have nB106 : W.heap.size ≤ t1.heap.size := HC.size
          replace HC := HC.alloc HC.size (.cells #[.int .i64 1, str [], .slice none 0 0, .int .i64 2, str [], .slice none 0 0, .int .i64 3, str [], .slice none 0 0, .int .i64 4, str [], .slice none 0 0, .int .i64 6, str [68], .slice none 0 0, .int .i64 6, str [76], .slice (some ⟨B90, 0, none⟩) 1 1, .int .i64 6, str [76], .slice (some ⟨B98, 0, none⟩) 1 1, .int .i64 6, str [69], .slice none 0 0, .int .i64 9, str [], .slice (some ⟨B104, 0, none⟩) 1 1] 34)
          replace fB90 := fB90.alloc (.cells #[.int .i64 1, str [], .slice none 0 0, .int .i64 2, str [], .slice none 0 0, .int .i64 3, str [], .slice none 0 0, .int .i64 4, str [], .slice none 0 0, .int .i64 6, str [68], .slice none 0 0, .int .i64 6, str [76], .slice (some ⟨B90, 0, none⟩) 1 1, .int .i64 6, str [76], .slice (some ⟨B98, 0, none⟩) 1 1, .int .i64 6, str [69], .slice none 0 0, .int .i64 9, str [], .slice (some ⟨B104, 0, none⟩) 1 1] 34)
          replace fB96 := fB96.alloc (.cells #[.int .i64 1, str [], .slice none 0 0, .int .i64 2, str [], .slice none 0 0, .int .i64 3, str [], .slice none 0 0, .int .i64 4, str [], .slice none 0 0, .int .i64 6, str [68], .slice none 0 0, .int .i64 6, str [76], .slice (some ⟨B90, 0, none⟩) 1 1, .int .i64 6, str [76], .slice (some ⟨B98, 0, none⟩) 1 1, .int .i64 6, str [69], .slice none 0 0, .int .i64 9, str [], .slice (some ⟨B104, 0, none⟩) 1 1] 34)
          replace fB98 := fB98.alloc (.cells #[.int .i64 1, str [], .slice none 0 0, .int .i64 2, str [], .slice none 0 0, .int .i64 3, str [], .slice none 0 0, .int .i64 4, str [], .slice none 0 0, .int .i64 6, str [68], .slice none 0 0, .int .i64 6, str [76], .slice (some ⟨B90, 0, none⟩) 1 1, .int .i64 6, str [76], .slice (some ⟨B98, 0, none⟩) 1 1, .int .i64 6, str [69], .slice none 0 0, .int .i64 9, str [], .slice (some ⟨B104, 0, none⟩) 1 1] 34)
          replace fB104 := fB104.alloc (.cells #[.int .i64 1, str [], .slice none 0 0, .int .i64 2, str [], .slice none 0 0, .int .i64 3, str [], .slice none 0 0, .int .i64 4, str [], .slice none 0 0, .int .i64 6, str [68], .slice none 0 0, .int .i64 6, str [76], .slice (some ⟨B90, 0, none⟩) 1 1, .int .i64 6, str [76], .slice (some ⟨B98, 0, none⟩) 1 1, .int .i64 6, str [69], .slice none 0 0, .int .i64 9, str [], .slice (some ⟨B104, 0, none⟩) 1 1] 34)
          generalize t1.alloc (.cells #[.int .i64 1, str [], .slice none 0 0, .int .i64 2, str [], .slice none 0 0, .int .i64 3, str [], .slice none 0 0, .int .i64 4, str [], .slice none 0 0, .int .i64 6, str [68], .slice none 0 0, .int .i64 6, str [76], .slice (some ⟨B90, 0, none⟩) 1 1, .int .i64 6, str [76], .slice (some ⟨B98, 0, none⟩) 1 1, .int .i64 6, str [69], .slice none 0 0, .int .i64 9, str [], .slice (some ⟨B104, 0, none⟩) 1 1] 34) = t2 at *
          generalize t1.heap.size = B106 at *
          have hts := types_at (D := fun b => W.heap.size ≤ b) fB90 fB96 fB98 fB104 fB106 nB90 nB96 nB98 nB104 nB106
          have hms : t2.cell? ⟨B106, q2 * 3, none⟩ = some (.int .i64 ((1 + q2 : Nat) : Int)) ∧ t2.cell? ⟨B106, q2 * 3 + 1, none⟩ = some (str []) ∧ t2.cell? ⟨B106, q2 * 3 + 2, none⟩ = some (.slice none 0 0) := by
            have hq : q2 = 0 ∨ q2 = 1 := by omega
            rcases hq with rfl | rfl
            · exact ⟨fB106.cell 0, fB106.cell 1, fB106.cell 2⟩
            · exact ⟨fB106.cell 3, fB106.cell 4, fB106.cell 5⟩
          obtain ⟨m0, m1, m2⟩ := hms
          have i0 : (0 : Int) ≤ (q2 : Int) := by omega
          have i1 : (q2 : Int) < 9 := by omega
          have l106 := fB106.lt
          have HTS := Lib.hid (And.intro hts nB106)
          have HCC := Lib.hid HC
          clear hts fB90 fB96 fB98 fB104 fB106 nB90 nB96 nB98 nB104 HC nB106
          refine (R2.out _).mono ?_
          rintro e w' ⟨rfl, rfl⟩
          go_wp2_with (fail)
          obtain ⟨AB, hAB⟩ : ∃ b, b = t2.heap.size := ⟨_, rfl⟩
          obtain ⟨t3, ht3⟩ : ∃ t, t = t2.alloc (.cells #[.string ⟨#[65]⟩, .slice none 0 0, .slice none 0 0, .int .i64 (1 + (q2 : Int)), .string ⟨#[]⟩, .slice none 0 0, .int .i64 1, .int .i64 0, .string ⟨#[]⟩, .slice none 0 0, .slice none 0 0, .slice none 0 0, .slice none 0 0, .int .i64 0] 40) := ⟨_, rfl⟩
          rw [← ht3, ← hAB]
          have fAB : Blk t3 AB 40 (acell none 0 0 none 0 q2) := by rw [ht3, hAB]; exact Blk.new t2 40 (acell none 0 0 none 0 q2)
          have hb3 : Below t2.heap.size t2 t3 := by rw [ht3]; exact (Below.refl _ _).alloc (Nat.le_refl _) _
          have hts3 : TsAt 4 t3 (fun b => W.heap.size ≤ b ∧ b < AB) (some ⟨B106, 0, none⟩) 9 9 typesF := (HTS.out.1.imp (D' := fun b => W.heap.size ≤ b ∧ b < AB) fun b hb hl => ⟨hb, by omega⟩).keep fun b hb hl => hb3.block b hl
          have HC3 := Lib.hid (show Below W.heap.size W t3 ∧ W.heap.size ≤ AB from ⟨HCC.out.trans (hb3.mono HCC.out.size), by rw [hAB]; exact HCC.out.size⟩)
          have H3 := Lib.hid (And.intro fAB hts3)
          clear ht3 fAB hts3 hb3 hAB m0 m1 m2 i0 i1 l106 HTS HCC
          refine (R3.out _).mono ?_
          rintro e w' ⟨rfl, rfl⟩
          go_wp2_with (fail)
          obtain ⟨N1, hN1⟩ : ∃ N, N = t3.heap.size := ⟨_, rfl⟩
          have HN1 := Lib.hid hN1
          clear hN1
          go_loopg [9, 10, 121] 9 (fun g _ _ v wr => ∃ (i : Nat) (An : Option Addr) (cn : Nat) (At : Option Addr) (ct : Nat), i + g = 9 ∧ v = .int .i64 i ∧ Hid (ActAt t3 wr N1 AB (fun b => W.heap.size ≤ b ∧ b < AB) An cn At ct q2 (idxF bits i)))
          case atStart => exact ⟨0, none, 0, none, 0, rfl, rfl, World.grownBy.refl _ _, H3.out.1, World.ownsRow_nil _ _ _ _, [], World.ownsRow_nil _ _ _ _, All2.nil⟩
          case round =>
            obtain ⟨i, An, cn, At, ct, hg, rfl, HI⟩ := hrel
            by_cases hi9 : i < 9
            · have hts := H3.out.2.keep (w' := wr) fun b hb hl => HI.out.gr.block b hl (fun e => by injection e with e; omega)
              obtain ⟨b1, o1, B1, m1, e1, hbo, _, p0, p1, p2, ht⟩ := hts.cells hi9 (show i < typesF.length by simp [typesF]; omega)
              injection hbo with hbo
              injection hbo with hb1 ho1
              subst hb1 ho1
              simp only [Nat.zero_add] at p0 p1 p2
              have lb := lt_of_cell p0
              have x1 := HI.out.ab.cell 1
              simp only [acell, List.getElem?_cons_zero, List.getElem?_cons_succ] at x1
              have lAB := HI.out.ab.lt
              have i0 : (0 : Int) ≤ (i : Int) := by omega
              have i1 : (i : Int) < 9 := by omega
              have HTy := Lib.hid ht
              clear hts ht
              have gr6 : ∀ r, bits / 2 ^ i % 2 = r → Go.bits .and .i64 ((bits : Int) / 2 ^ i) 1 = (r : Int) := fun r h => bit_at bits i r h
              have hr2 : bits / 2 ^ i % 2 = 0 ∨ bits / 2 ^ i % 2 = 1 := by omega
              have hk6 := (idxF_le bits i).1
              have hidx : idxF bits (i + 1) = if bits / 2 ^ i % 2 = 1 ∧ (idxF bits i).length < 6 then idxF bits i ++ [i] else idxF bits i := rfl
              generalize idxF bits i = L at HI hk6 hidx x1
              have HIx := Lib.hid hidx
              clear hidx
              by_cases htk : bits / 2 ^ i % 2 = 1 ∧ L.length < 6
              · have gb : Go.bits .and .i64 ((bits : Int) / 2 ^ i) 1 = 1 := gr6 1 htk.1
                have gk : decide ((L.length : Int) < 6) = true := decide_eq_true (by omega)
                have gk' : decide (L.length < 6) = true := decide_eq_true htk.2
                have HTk := Lib.hid htk
                clear gr6 hr2 htk
                go_upto_region 16 with (fail)
                have htl : i < typesF.length := by simp [typesF]; omega
                have htc := TyAt.tcells HTy.out
                have HChr := Lib.hid (chr5 i hi9)
                have wi : IntKind.i64.wrap (102 + (i : Int)) = 102 + (i : Int) := IntWalk.i64_in _ (by omega)
                have wu : IntKind.u8.wrap (102 + (i : Int)) = 102 + (i : Int) := IntWalk.u8_in _ (by omega)
                generalize typesF[i].kind = kt at p0 htc ⊢
                generalize typesF[i].name = nt at p1 htc ⊢
                rw [← tyF_at htl] at htc
                obtain ⟨hgr, hab, hon, vss, hot, hal⟩ := HI.out
                have hABN : AB < N1 := by have := H3.out.1.lt; have := HN1.out; omega
                obtain ⟨BT, hBT⟩ : ∃ b, b = wr.heap.size := ⟨_, rfl⟩
                refine wp_region_g (S := fun w' => w'.cell? ⟨AB, 1, none⟩ = some (.slice An L.length cn) ∧ w'.cell? ⟨AB, 2, none⟩ = some (.slice At L.length ct) ∧ w'.cell? ⟨BT, 0, none⟩ = some (.int .i64 (kt : Nat)) ∧ w'.cell? ⟨BT, 1, none⟩ = some (str nt) ∧ w'.cell? ⟨BT, 2, none⟩ = some (.slice B1 m1 e1)) (m := 15) (by kernel_rfl) ?_
                rw [← hBT]
                have TOBJ := True.intro
                have fAB : Blk (World.drew (wr.alloc (.cells #[.int .i64 (kt : Nat), str nt, .slice B1 m1 e1] 34))) AB 40 (acell An L.length cn At ct q2) := (hab.alloc _).drew
                have fBT : Blk (World.drew (wr.alloc (.cells #[.int .i64 (kt : Nat), str nt, .slice B1 m1 e1] 34))) BT 34 [.int .i64 (kt : Nat), str nt, .slice B1 m1 e1] := by rw [hBT]; exact (Blk.new wr _ _).drew
                have fON : (World.drew (wr.alloc (.cells #[.int .i64 (kt : Nat), str nt, .slice B1 m1 e1] 34))).ownsRow N1 9 1 (.slice An L.length cn) L.length (strs (L.map nmF)) := hon.alloc _
                have fOT : (World.drew (wr.alloc (.cells #[.int .i64 (kt : Nat), str nt, .slice B1 m1 e1] 34))).ownsRow N1 34 3 (.slice At L.length ct) L.length vss.flatten := hot.alloc _
                have fTD : All2 (TCells 4 (World.drew (wr.alloc (.cells #[.int .i64 (kt : Nat), str nt, .slice B1 m1 e1] 34))) (fun b => W.heap.size ≤ b ∧ b < AB)) vss (L.map tyF) := (tys_alloc hal _).imp fun x y hxy => hxy.keep fun b _ _ => rfl
                have fTC : TCells 4 (World.drew (wr.alloc (.cells #[.int .i64 (kt : Nat), str nt, .slice B1 m1 e1] 34))) (fun b => W.heap.size ≤ b ∧ b < AB) [.int .i64 (kt : Nat), str nt, .slice B1 m1 e1] (tyF i) := (htc.keep fun b _ hl => Below.heap_alloc wr (.cells #[.int .i64 (kt : Nat), str nt, .slice B1 m1 e1] 34) b hl).keep fun b _ _ => rfl
                have fGR : t3.grownBy (World.drew (wr.alloc (.cells #[.int .i64 (kt : Nat), str nt, .slice B1 m1 e1] 34))) (some AB) := grownBy_drew (grownBy_trans hgr (World.grownBy_alloc wr _ _))
                have hN : BT ≤ (World.drew (wr.alloc (.cells #[.int .i64 (kt : Nat), str nt, .slice B1 m1 e1] 34))).heap.size := by rw [hBT]; simp [World.drew]
                have hob : ∀ k, (Value.slice An L.length cn).ownBlock = some k → N1 ≤ k ∧ k < BT := fun k hk => by rw [hBT]; exact hon.lt k hk
                have hotb : ∀ k, (Value.slice At L.length ct).ownBlock = some k → N1 ≤ k ∧ k < BT := fun k hk => by rw [hBT]; exact hot.lt k hk
                have hN1t : t3.heap.size ≤ N1 := by have := HN1.out; omega
                clear hgr hab hon hot hal htc hBT HI HTy p0 p1 p2 lb x1 lAB gb gk gk' i0 i1
                generalize World.drew (wr.alloc (.cells #[.int .i64 (kt : Nat), str nt, .slice B1 m1 e1] 34)) = W0 at *
                have hS : W0.cell? ⟨AB, 1, none⟩ = some (.slice An L.length cn) ∧ W0.cell? ⟨AB, 2, none⟩ = some (.slice At L.length ct) ∧ W0.cell? ⟨BT, 0, none⟩ = some (.int .i64 (kt : Nat)) ∧ W0.cell? ⟨BT, 1, none⟩ = some (str nt) ∧ W0.cell? ⟨BT, 2, none⟩ = some (.slice B1 m1 e1) := ⟨fAB.cell 1, fAB.cell 2, fBT.cell 0, fBT.cell 1, fBT.cell 2⟩
                repeat (first | (refine wpAnyG_take (i := 0) (v := .pointer (some ⟨AB, 1, none⟩)) rfl ?_ ?_ ?_ (fun _ _ _ h => h) (Or.inl ⟨by rfl, ?_⟩) hS ?_; (· decide +kernel); (· decide +kernel); (· decide +kernel); (· (intro w' hS'; obtain ⟨hS1, hS2, hS3, hS4, hS5⟩ := hS'; go_simp))) | (refine wpAnyG_take (i := 1) (v := .slice An L.length cn) rfl ?_ ?_ ?_ (fun _ _ _ h => h) (Or.inl ⟨by rfl, ?_⟩) hS ?_; (· decide +kernel); (· decide +kernel); (· decide +kernel); (· (intro w' hS'; obtain ⟨hS1, hS2, hS3, hS4, hS5⟩ := hS'; go_simp))) | (refine wpAnyG_take (i := 2) (v := .int .i64 i) rfl ?_ ?_ ?_ (fun _ _ _ h => h) (Or.inl ⟨by rfl, ?_⟩) hS ?_; (· decide +kernel); (· decide +kernel); (· decide +kernel); (· (intro w' hS'; obtain ⟨hS1, hS2, hS3, hS4, hS5⟩ := hS'; go_simp))) | (refine wpAnyG_take (i := 3) (v := .int .i64 (102 + (i : Int))) rfl ?_ ?_ ?_ (fun _ _ _ h => h) (Or.inl ⟨by rfl, ?_⟩) hS ?_; (· decide +kernel); (· decide +kernel); (· decide +kernel); (· (intro w' hS'; obtain ⟨hS1, hS2, hS3, hS4, hS5⟩ := hS'; go_simp))) | (refine wpAnyG_take (i := 4) (v := .int .u8 (102 + (i : Int))) rfl ?_ ?_ ?_ (fun _ _ _ h => h) (Or.inl ⟨by rfl, ?_⟩) hS ?_; (· decide +kernel); (· decide +kernel); (· decide +kernel); (· (intro w' hS'; obtain ⟨hS1, hS2, hS3, hS4, hS5⟩ := hS'; go_simp))) | (refine wpAnyG_take (i := 9) (v := .pointer (some ⟨AB, 2, none⟩)) rfl ?_ ?_ ?_ (fun _ _ _ h => h) (Or.inl ⟨by rfl, ?_⟩) hS ?_; (· decide +kernel); (· decide +kernel); (· decide +kernel); (· (intro w' hS'; obtain ⟨hS1, hS2, hS3, hS4, hS5⟩ := hS'; go_simp))) | (refine wpAnyG_take (i := 10) (v := .slice At L.length ct) rfl ?_ ?_ ?_ (fun _ _ _ h => h) (Or.inl ⟨by rfl, ?_⟩) hS ?_; (· decide +kernel); (· decide +kernel); (· decide +kernel); (· (intro w' hS'; obtain ⟨hS1, hS2, hS3, hS4, hS5⟩ := hS'; go_simp))) | (refine wpAnyG_take (i := 11) (v := .agg #[.int .i64 (kt : Nat), str nt, .slice B1 m1 e1]) rfl ?_ ?_ ?_ (fun _ _ _ h => h) (Or.inl ⟨by rfl, ?_⟩) hS ?_; (· decide +kernel); (· decide +kernel); (· decide +kernel); (· (intro w' hS'; obtain ⟨hS1, hS2, hS3, hS4, hS5⟩ := hS'; go_simp))))
                refine wpAnyG_ready (rs := [5, 12]) (by decide +kernel) (by simp) ?_
                refine AllReadyG.cons rfl (fun K hK => ?_) (AllReadyG.cons rfl (fun K hK => ?_) AllReadyG.nil)
                · go_simp
                  have fBy := Blk.new W0 5 [.int .u8 (102 + (i : Int))]
                  have nBy : BT ≤ W0.heap.size := hN
                  replace fAB := fAB.alloc (.cells #[.int .u8 (102 + (i : Int))] 5)
                  replace fBT := fBT.alloc (.cells #[.int .u8 (102 + (i : Int))] 5)
                  replace fON := fON.alloc (.cells #[.int .u8 (102 + (i : Int))] 5)
                  replace fOT := fOT.alloc (.cells #[.int .u8 (102 + (i : Int))] 5)
                  replace fTD := tys_alloc fTD (.cells #[.int .u8 (102 + (i : Int))] 5)
                  replace fTC := fTC.keep (fun b _ hl => Below.heap_alloc W0 (.cells #[.int .u8 (102 + (i : Int))] 5) b hl)
                  replace fGR := grownBy_trans fGR (World.grownBy_alloc W0 (.cells #[.int .u8 (102 + (i : Int))] 5) _)
                  replace hN : BT ≤ (W0.alloc (.cells #[.int .u8 (102 + (i : Int))] 5)).heap.size := by simp; omega
                  clear hS
                  generalize W0.alloc (.cells #[.int .u8 (102 + (i : Int))] 5) = W1 at *
                  generalize W0.heap.size = By at *
                  have hS := (show W1.cell? ⟨AB, 1, none⟩ = some (.slice An L.length cn) ∧ W1.cell? ⟨AB, 2, none⟩ = some (.slice At L.length ct) ∧ W1.cell? ⟨BT, 0, none⟩ = some (.int .i64 (kt : Nat)) ∧ W1.cell? ⟨BT, 1, none⟩ = some (str nt) ∧ W1.cell? ⟨BT, 2, none⟩ = some (.slice B1 m1 e1) from ⟨fAB.cell 1, fAB.cell 2, fBT.cell 0, fBT.cell 1, fBT.cell 2⟩)
                  refine hK _ _ (fun _ => hS) ?_
                  clear hK K
                  refine wpAnyG_ready (rs := [6, 12]) (by decide +kernel) (by simp) ?_
                  refine AllReadyG.cons rfl (fun K hK => ?_) (AllReadyG.cons rfl (fun K hK => ?_) AllReadyG.nil)
                  · have cv := cv_blk HChr.out fBy
                    go_simp
                    refine hK _ _ (fun _ => hS) ?_
                    clear hK K cv
                    refine wpAnyG_ready (rs := [7, 12]) (by decide +kernel) (by simp) ?_
                    refine AllReadyG.cons rfl (fun K hK => ?_) (AllReadyG.cons rfl (fun K hK => ?_) AllReadyG.nil)
                    · go_simp
                      have fBs := Blk.new W1 9 [str [chr (5 + i)]]
                      have nBs : BT ≤ W1.heap.size := hN
                      replace fAB := fAB.alloc (.cells #[str [chr (5 + i)]] 9)
                      replace fBT := fBT.alloc (.cells #[str [chr (5 + i)]] 9)
                      replace fON := fON.alloc (.cells #[str [chr (5 + i)]] 9)
                      replace fOT := fOT.alloc (.cells #[str [chr (5 + i)]] 9)
                      replace fTD := tys_alloc fTD (.cells #[str [chr (5 + i)]] 9)
                      replace fTC := fTC.keep (fun b _ hl => Below.heap_alloc W1 (.cells #[str [chr (5 + i)]] 9) b hl)
                      replace fGR := grownBy_trans fGR (World.grownBy_alloc W1 (.cells #[str [chr (5 + i)]] 9) _)
                      replace fBy := fBy.alloc (.cells #[str [chr (5 + i)]] 9)
                      replace hN : BT ≤ (W1.alloc (.cells #[str [chr (5 + i)]] 9)).heap.size := by simp; omega
                      clear hS
                      generalize W1.alloc (.cells #[str [chr (5 + i)]] 9) = W2 at *
                      generalize W1.heap.size = Bs at *
                      have hS := (show W2.cell? ⟨AB, 1, none⟩ = some (.slice An L.length cn) ∧ W2.cell? ⟨AB, 2, none⟩ = some (.slice At L.length ct) ∧ W2.cell? ⟨BT, 0, none⟩ = some (.int .i64 (kt : Nat)) ∧ W2.cell? ⟨BT, 1, none⟩ = some (str nt) ∧ W2.cell? ⟨BT, 2, none⟩ = some (.slice B1 m1 e1) from ⟨fAB.cell 1, fAB.cell 2, fBT.cell 0, fBT.cell 1, fBT.cell 2⟩)
                      refine hK _ _ (fun _ => hS) ?_
                      clear hK K
                      refine wpAnyG_ready (rs := [8, 12]) (by decide +kernel) (by simp) ?_
                      refine AllReadyG.cons rfl (fun K hK => ?_) (AllReadyG.cons rfl (fun K hK => ?_) AllReadyG.nil)
                      · refine step_app_st _ rfl (.tmp 138) (.tmp 144) (by rfl) (base := N1) (v := .slice An L.length cn) (n := L.length) (xs := strs (L.map nmF)) fON rfl (D := Any) (A := some ⟨Bs, 0, none⟩) (m := 1) (news := [str [chr (5 + i)]]) (c := 1) (fBs.reads trivial rfl) (by first | rfl | simp) (by simp [Value.oneCell']) (by omega) (by have := HN1.out; have := fGR.size; omega) ?_
                        intro v2 V3 hown2 hg2 hat2
                        obtain ⟨An9, cn9, rfl, _⟩ := own_form hown2
                        have hap := own_kept fOT fON
                        replace fOT := fOT.kept hg2 (hap (by decide))
                        replace fAB := fAB.grown hg2 (fun e => by have := (hob _ e.symm).1; omega)
                        replace fBT := fBT.grown hg2 (fun e => by have := (hob _ e.symm).2; omega)
                        replace fTD := fTD.imp fun x y hxy => TCells.keep hxy fun b hb hl => hg2.block b hl (fun e => by have := (hob _ e.symm).1; omega)
                        replace fTC := fTC.keep fun b hb hl => hg2.block b hl (fun e => by have := (hob _ e.symm).1; omega)
                        replace fGR := grownBy_far fGR hg2 (fun k hk => by have := (hob k hk).1; omega)
                        replace fBy := fBy.grown hg2 (fun e => by have := (hob _ e.symm).2; omega)
                        replace fBs := fBs.grown hg2 (fun e => by have := (hob _ e.symm).2; omega)
                        replace hN := Nat.le_trans hN hg2.size
                        clear fON
                        have fON := hown2
                        clear hS hap hown2 hg2 hat2
                        have hS := (show V3.cell? ⟨AB, 1, none⟩ = some (.slice An L.length cn) ∧ V3.cell? ⟨AB, 2, none⟩ = some (.slice At L.length ct) ∧ V3.cell? ⟨BT, 0, none⟩ = some (.int .i64 (kt : Nat)) ∧ V3.cell? ⟨BT, 1, none⟩ = some (str nt) ∧ V3.cell? ⟨BT, 2, none⟩ = some (.slice B1 m1 e1) from ⟨fAB.cell 1, fAB.cell 2, fBT.cell 0, fBT.cell 1, fBT.cell 2⟩)
                        refine hK _ _ (fun _ => hS) ?_
                        clear hK K
                        repeat (first | (refine wpAnyG_take (i := 14) (v := .pointer (some ⟨AB, 1, none⟩)) rfl ?_ ?_ ?_ (fun _ _ _ h => h) (Or.inl ⟨by rfl, ?_⟩) hS ?_; (· decide +kernel); (· decide +kernel); (· decide +kernel); (· (intro w' hS'; obtain ⟨hS1, hS2, hS3, hS4, hS5⟩ := hS'; go_simp))))
                        refine wpAnyG_ready (rs := [12]) (by decide +kernel) (by simp) ?_
                        refine AllReadyG.cons rfl (fun K hK => ?_) AllReadyG.nil
                        go_simp
                        have fB12 := Blk.new V3 34 [.int .i64 (kt : Nat), str nt, .slice B1 m1 e1]
                        have nB12 : BT ≤ V3.heap.size := hN
                        replace fAB := fAB.alloc (.cells #[.int .i64 (kt : Nat), str nt, .slice B1 m1 e1] 34)
                        replace fBT := fBT.alloc (.cells #[.int .i64 (kt : Nat), str nt, .slice B1 m1 e1] 34)
                        replace fON := fON.alloc (.cells #[.int .i64 (kt : Nat), str nt, .slice B1 m1 e1] 34)
                        replace fOT := fOT.alloc (.cells #[.int .i64 (kt : Nat), str nt, .slice B1 m1 e1] 34)
                        replace fTD := tys_alloc fTD (.cells #[.int .i64 (kt : Nat), str nt, .slice B1 m1 e1] 34)
                        replace fTC := fTC.keep (fun b _ hl => Below.heap_alloc V3 (.cells #[.int .i64 (kt : Nat), str nt, .slice B1 m1 e1] 34) b hl)
                        replace fGR := grownBy_trans fGR (World.grownBy_alloc V3 (.cells #[.int .i64 (kt : Nat), str nt, .slice B1 m1 e1] 34) _)
                        replace fBy := fBy.alloc (.cells #[.int .i64 (kt : Nat), str nt, .slice B1 m1 e1] 34)
                        replace fBs := fBs.alloc (.cells #[.int .i64 (kt : Nat), str nt, .slice B1 m1 e1] 34)
                        replace hN : BT ≤ (V3.alloc (.cells #[.int .i64 (kt : Nat), str nt, .slice B1 m1 e1] 34)).heap.size := by simp; omega
                        clear hS
                        generalize V3.alloc (.cells #[.int .i64 (kt : Nat), str nt, .slice B1 m1 e1] 34) = W4 at *
                        generalize V3.heap.size = B12 at *
                        have hS := (show W4.cell? ⟨AB, 1, none⟩ = some (.slice An L.length cn) ∧ W4.cell? ⟨AB, 2, none⟩ = some (.slice At L.length ct) ∧ W4.cell? ⟨BT, 0, none⟩ = some (.int .i64 (kt : Nat)) ∧ W4.cell? ⟨BT, 1, none⟩ = some (str nt) ∧ W4.cell? ⟨BT, 2, none⟩ = some (.slice B1 m1 e1) from ⟨fAB.cell 1, fAB.cell 2, fBT.cell 0, fBT.cell 1, fBT.cell 2⟩)
                        refine hK _ _ (fun _ => hS) ?_
                        clear hK K
                        refine wpAnyG_ready (rs := [13]) (by decide +kernel) (by simp) ?_
                        refine AllReadyG.cons rfl (fun K hK => ?_) AllReadyG.nil
                        refine step_app_ty _ rfl (.tmp 147) (.tmp 149) (by rfl) (base := N1) (v := .slice At L.length ct) (n := L.length) (xs := vss.flatten) fOT rfl (D := Any) (A := some ⟨B12, 0, none⟩) (m := 1) (news := [.int .i64 (kt : Nat), str nt, .slice B1 m1 e1]) (c := 1) (fB12.reads trivial rfl) (by first | rfl | simp) (by simp [Value.oneCell']) (by omega) (by have := HN1.out; have := fGR.size; omega) ?_
                        intro v2 V5 hown2 hg2 hat2
                        obtain ⟨At9, ct9, rfl, _⟩ := own_form hown2
                        have hap := own_kept fON fOT
                        replace fON := fON.kept hg2 (hap (by decide))
                        replace fAB := fAB.grown hg2 (fun e => by have := (hotb _ e.symm).1; omega)
                        replace fBT := fBT.grown hg2 (fun e => by have := (hotb _ e.symm).2; omega)
                        replace fTD := fTD.imp fun x y hxy => TCells.keep hxy fun b hb hl => hg2.block b hl (fun e => by have := (hotb _ e.symm).1; omega)
                        replace fTC := fTC.keep fun b hb hl => hg2.block b hl (fun e => by have := (hotb _ e.symm).1; omega)
                        replace fGR := grownBy_far fGR hg2 (fun k hk => by have := (hotb k hk).1; omega)
                        replace fBy := fBy.grown hg2 (fun e => by have := (hotb _ e.symm).2; omega)
                        replace fBs := fBs.grown hg2 (fun e => by have := (hotb _ e.symm).2; omega)
                        replace fB12 := fB12.grown hg2 (fun e => by have := (hotb _ e.symm).2; omega)
                        replace hN := Nat.le_trans hN hg2.size
                        clear fOT
                        have fOT := hown2
                        clear hS hap hown2 hg2 hat2
                        have hS := (show V5.cell? ⟨AB, 1, none⟩ = some (.slice An L.length cn) ∧ V5.cell? ⟨AB, 2, none⟩ = some (.slice At L.length ct) ∧ V5.cell? ⟨BT, 0, none⟩ = some (.int .i64 (kt : Nat)) ∧ V5.cell? ⟨BT, 1, none⟩ = some (str nt) ∧ V5.cell? ⟨BT, 2, none⟩ = some (.slice B1 m1 e1) from ⟨fAB.cell 1, fAB.cell 2, fBT.cell 0, fBT.cell 1, fBT.cell 2⟩)
                        refine hK _ _ (fun _ => hS) ?_
                        clear hK K
                        refine wpAnyG_ready (rs := [15]) (by decide +kernel) (by simp) ?_
                        refine AllReadyG.cons rfl (fun K hK => ?_) AllReadyG.nil
                        have z1 := fAB.frozen 1
                        have y1 := fAB.cell 1
                        have lAB := fAB.lt
                        go_simp
                        have fin := Lib.hid (show ActAt t3 ((V5.setCell ⟨AB, 1, none⟩ (.slice An9 (L.length + 1) cn9)).setCell ⟨AB, 2, none⟩ (.slice At9 (L.length + 1) ct9)) N1 AB (fun b => W.heap.size ≤ b ∧ b < AB) An9 cn9 At9 ct9 q2 (idxF bits (i + 1)) from by
                          rw [HIx.out, if_pos HTk.out]
                          exact act_put fGR fAB fON fOT fTD fTC rfl hABN)
                        refine hK _ _ (fun h => absurd h (by decide)) ?_
                        clear hK K y1 z1 lAB hS
                        replace fAB := fAB.put 1 (.slice An9 (L.length + 1) cn9)
                        clear fON fOT fTD fTC fGR fBT fBy fBs fB12 hN
                        refine wpAnyG_ready (rs := [16]) (by decide +kernel) (by simp) ?_
                        refine AllReadyG.cons rfl (fun K hK => ?_) AllReadyG.nil
                        go_simp
                        refine hK _ _ (fun h => absurd h (by decide)) ?_
                        clear hK K
                        have z2 := fAB.frozen 2
                        have y2 := fAB.cell 2
                        have lAB := fAB.lt
                        refine wpAnyG_ready (rs := [17]) (by decide +kernel) (by simp) ?_
                        refine AllReadyG.cons rfl (fun K hK => ?_) AllReadyG.nil
                        go_simp
                        refine hK _ _ (fun h => absurd h (by decide)) ?_
                        clear hK K
                        refine wpAnyG_done (by decide +kernel) ?_ _
                        clear y2 z2 lAB fAB
                        go_wp2_with (fail)
                        go_roundg (9 - (i + 1))
                        case measure => omega
                        case rel => exact ⟨i + 1, An9, cn9, At9, ct9, by omega, by go_num, fin⟩
                      · go_simp
                        have fB12 := Blk.new W2 34 [.int .i64 (kt : Nat), str nt, .slice B1 m1 e1]
                        have nB12 : BT ≤ W2.heap.size := hN
                        replace fAB := fAB.alloc (.cells #[.int .i64 (kt : Nat), str nt, .slice B1 m1 e1] 34)
                        replace fBT := fBT.alloc (.cells #[.int .i64 (kt : Nat), str nt, .slice B1 m1 e1] 34)
                        replace fON := fON.alloc (.cells #[.int .i64 (kt : Nat), str nt, .slice B1 m1 e1] 34)
                        replace fOT := fOT.alloc (.cells #[.int .i64 (kt : Nat), str nt, .slice B1 m1 e1] 34)
                        replace fTD := tys_alloc fTD (.cells #[.int .i64 (kt : Nat), str nt, .slice B1 m1 e1] 34)
                        replace fTC := fTC.keep (fun b _ hl => Below.heap_alloc W2 (.cells #[.int .i64 (kt : Nat), str nt, .slice B1 m1 e1] 34) b hl)
                        replace fGR := grownBy_trans fGR (World.grownBy_alloc W2 (.cells #[.int .i64 (kt : Nat), str nt, .slice B1 m1 e1] 34) _)
                        replace fBy := fBy.alloc (.cells #[.int .i64 (kt : Nat), str nt, .slice B1 m1 e1] 34)
                        replace fBs := fBs.alloc (.cells #[.int .i64 (kt : Nat), str nt, .slice B1 m1 e1] 34)
                        replace hN : BT ≤ (W2.alloc (.cells #[.int .i64 (kt : Nat), str nt, .slice B1 m1 e1] 34)).heap.size := by simp; omega
                        clear hS
                        generalize W2.alloc (.cells #[.int .i64 (kt : Nat), str nt, .slice B1 m1 e1] 34) = W3 at *
                        generalize W2.heap.size = B12 at *
                        have hS := (show W3.cell? ⟨AB, 1, none⟩ = some (.slice An L.length cn) ∧ W3.cell? ⟨AB, 2, none⟩ = some (.slice At L.length ct) ∧ W3.cell? ⟨BT, 0, none⟩ = some (.int .i64 (kt : Nat)) ∧ W3.cell? ⟨BT, 1, none⟩ = some (str nt) ∧ W3.cell? ⟨BT, 2, none⟩ = some (.slice B1 m1 e1) from ⟨fAB.cell 1, fAB.cell 2, fBT.cell 0, fBT.cell 1, fBT.cell 2⟩)
                        refine hK _ _ (fun _ => hS) ?_
                        clear hK K
                        refine wpAnyG_ready (rs := [8]) (by decide +kernel) (by simp) ?_
                        refine AllReadyG.cons rfl (fun K hK => ?_) AllReadyG.nil
                        refine step_app_st _ rfl (.tmp 138) (.tmp 144) (by rfl) (base := N1) (v := .slice An L.length cn) (n := L.length) (xs := strs (L.map nmF)) fON rfl (D := Any) (A := some ⟨Bs, 0, none⟩) (m := 1) (news := [str [chr (5 + i)]]) (c := 1) (fBs.reads trivial rfl) (by first | rfl | simp) (by simp [Value.oneCell']) (by omega) (by have := HN1.out; have := fGR.size; omega) ?_
                        intro v2 V4 hown2 hg2 hat2
                        obtain ⟨An9, cn9, rfl, _⟩ := own_form hown2
                        have hap := own_kept fOT fON
                        replace fOT := fOT.kept hg2 (hap (by decide))
                        replace fAB := fAB.grown hg2 (fun e => by have := (hob _ e.symm).1; omega)
                        replace fBT := fBT.grown hg2 (fun e => by have := (hob _ e.symm).2; omega)
                        replace fTD := fTD.imp fun x y hxy => TCells.keep hxy fun b hb hl => hg2.block b hl (fun e => by have := (hob _ e.symm).1; omega)
                        replace fTC := fTC.keep fun b hb hl => hg2.block b hl (fun e => by have := (hob _ e.symm).1; omega)
                        replace fGR := grownBy_far fGR hg2 (fun k hk => by have := (hob k hk).1; omega)
                        replace fBy := fBy.grown hg2 (fun e => by have := (hob _ e.symm).2; omega)
                        replace fBs := fBs.grown hg2 (fun e => by have := (hob _ e.symm).2; omega)
                        replace fB12 := fB12.grown hg2 (fun e => by have := (hob _ e.symm).2; omega)
                        replace hN := Nat.le_trans hN hg2.size
                        clear fON
                        have fON := hown2
                        clear hS hap hown2 hg2 hat2
                        have hS := (show V4.cell? ⟨AB, 1, none⟩ = some (.slice An L.length cn) ∧ V4.cell? ⟨AB, 2, none⟩ = some (.slice At L.length ct) ∧ V4.cell? ⟨BT, 0, none⟩ = some (.int .i64 (kt : Nat)) ∧ V4.cell? ⟨BT, 1, none⟩ = some (str nt) ∧ V4.cell? ⟨BT, 2, none⟩ = some (.slice B1 m1 e1) from ⟨fAB.cell 1, fAB.cell 2, fBT.cell 0, fBT.cell 1, fBT.cell 2⟩)
                        refine hK _ _ (fun _ => hS) ?_
                        clear hK K
                        repeat (first | (refine wpAnyG_take (i := 14) (v := .pointer (some ⟨AB, 1, none⟩)) rfl ?_ ?_ ?_ (fun _ _ _ h => h) (Or.inl ⟨by rfl, ?_⟩) hS ?_; (· decide +kernel); (· decide +kernel); (· decide +kernel); (· (intro w' hS'; obtain ⟨hS1, hS2, hS3, hS4, hS5⟩ := hS'; go_simp))))
                        refine wpAnyG_ready (rs := [13]) (by decide +kernel) (by simp) ?_
                        refine AllReadyG.cons rfl (fun K hK => ?_) AllReadyG.nil
                        refine step_app_ty _ rfl (.tmp 147) (.tmp 149) (by rfl) (base := N1) (v := .slice At L.length ct) (n := L.length) (xs := vss.flatten) fOT rfl (D := Any) (A := some ⟨B12, 0, none⟩) (m := 1) (news := [.int .i64 (kt : Nat), str nt, .slice B1 m1 e1]) (c := 1) (fB12.reads trivial rfl) (by first | rfl | simp) (by simp [Value.oneCell']) (by omega) (by have := HN1.out; have := fGR.size; omega) ?_
                        intro v2 V5 hown2 hg2 hat2
                        obtain ⟨At9, ct9, rfl, _⟩ := own_form hown2
                        have hap := own_kept fON fOT
                        replace fON := fON.kept hg2 (hap (by decide))
                        replace fAB := fAB.grown hg2 (fun e => by have := (hotb _ e.symm).1; omega)
                        replace fBT := fBT.grown hg2 (fun e => by have := (hotb _ e.symm).2; omega)
                        replace fTD := fTD.imp fun x y hxy => TCells.keep hxy fun b hb hl => hg2.block b hl (fun e => by have := (hotb _ e.symm).1; omega)
                        replace fTC := fTC.keep fun b hb hl => hg2.block b hl (fun e => by have := (hotb _ e.symm).1; omega)
                        replace fGR := grownBy_far fGR hg2 (fun k hk => by have := (hotb k hk).1; omega)
                        replace fBy := fBy.grown hg2 (fun e => by have := (hotb _ e.symm).2; omega)
                        replace fBs := fBs.grown hg2 (fun e => by have := (hotb _ e.symm).2; omega)
                        replace fB12 := fB12.grown hg2 (fun e => by have := (hotb _ e.symm).2; omega)
                        replace hN := Nat.le_trans hN hg2.size
                        clear fOT
                        have fOT := hown2
                        clear hS hap hown2 hg2 hat2
                        have hS := (show V5.cell? ⟨AB, 1, none⟩ = some (.slice An L.length cn) ∧ V5.cell? ⟨AB, 2, none⟩ = some (.slice At L.length ct) ∧ V5.cell? ⟨BT, 0, none⟩ = some (.int .i64 (kt : Nat)) ∧ V5.cell? ⟨BT, 1, none⟩ = some (str nt) ∧ V5.cell? ⟨BT, 2, none⟩ = some (.slice B1 m1 e1) from ⟨fAB.cell 1, fAB.cell 2, fBT.cell 0, fBT.cell 1, fBT.cell 2⟩)
                        refine hK _ _ (fun _ => hS) ?_
                        clear hK K
                        refine wpAnyG_ready (rs := [15]) (by decide +kernel) (by simp) ?_
                        refine AllReadyG.cons rfl (fun K hK => ?_) AllReadyG.nil
                        have z1 := fAB.frozen 1
                        have y1 := fAB.cell 1
                        have lAB := fAB.lt
                        go_simp
                        have fin := Lib.hid (show ActAt t3 ((V5.setCell ⟨AB, 1, none⟩ (.slice An9 (L.length + 1) cn9)).setCell ⟨AB, 2, none⟩ (.slice At9 (L.length + 1) ct9)) N1 AB (fun b => W.heap.size ≤ b ∧ b < AB) An9 cn9 At9 ct9 q2 (idxF bits (i + 1)) from by
                          rw [HIx.out, if_pos HTk.out]
                          exact act_put fGR fAB fON fOT fTD fTC rfl hABN)
                        refine hK _ _ (fun h => absurd h (by decide)) ?_
                        clear hK K y1 z1 lAB hS
                        replace fAB := fAB.put 1 (.slice An9 (L.length + 1) cn9)
                        clear fON fOT fTD fTC fGR fBT fBy fBs fB12 hN
                        refine wpAnyG_ready (rs := [16]) (by decide +kernel) (by simp) ?_
                        refine AllReadyG.cons rfl (fun K hK => ?_) AllReadyG.nil
                        go_simp
                        refine hK _ _ (fun h => absurd h (by decide)) ?_
                        clear hK K
                        have z2 := fAB.frozen 2
                        have y2 := fAB.cell 2
                        have lAB := fAB.lt
                        refine wpAnyG_ready (rs := [17]) (by decide +kernel) (by simp) ?_
                        refine AllReadyG.cons rfl (fun K hK => ?_) AllReadyG.nil
                        go_simp
                        refine hK _ _ (fun h => absurd h (by decide)) ?_
                        clear hK K
                        refine wpAnyG_done (by decide +kernel) ?_ _
                        clear y2 z2 lAB fAB
                        go_wp2_with (fail)
                        go_roundg (9 - (i + 1))
                        case measure => omega
                        case rel => exact ⟨i + 1, An9, cn9, At9, ct9, by omega, by go_num, fin⟩
                    · go_simp
                      have fB12 := Blk.new W1 34 [.int .i64 (kt : Nat), str nt, .slice B1 m1 e1]
                      have nB12 : BT ≤ W1.heap.size := hN
                      replace fAB := fAB.alloc (.cells #[.int .i64 (kt : Nat), str nt, .slice B1 m1 e1] 34)
                      replace fBT := fBT.alloc (.cells #[.int .i64 (kt : Nat), str nt, .slice B1 m1 e1] 34)
                      replace fON := fON.alloc (.cells #[.int .i64 (kt : Nat), str nt, .slice B1 m1 e1] 34)
                      replace fOT := fOT.alloc (.cells #[.int .i64 (kt : Nat), str nt, .slice B1 m1 e1] 34)
                      replace fTD := tys_alloc fTD (.cells #[.int .i64 (kt : Nat), str nt, .slice B1 m1 e1] 34)
                      replace fTC := fTC.keep (fun b _ hl => Below.heap_alloc W1 (.cells #[.int .i64 (kt : Nat), str nt, .slice B1 m1 e1] 34) b hl)
                      replace fGR := grownBy_trans fGR (World.grownBy_alloc W1 (.cells #[.int .i64 (kt : Nat), str nt, .slice B1 m1 e1] 34) _)
                      replace fBy := fBy.alloc (.cells #[.int .i64 (kt : Nat), str nt, .slice B1 m1 e1] 34)
                      replace hN : BT ≤ (W1.alloc (.cells #[.int .i64 (kt : Nat), str nt, .slice B1 m1 e1] 34)).heap.size := by simp; omega
                      clear hS
                      generalize W1.alloc (.cells #[.int .i64 (kt : Nat), str nt, .slice B1 m1 e1] 34) = W2 at *
                      generalize W1.heap.size = B12 at *
                      have hS := (show W2.cell? ⟨AB, 1, none⟩ = some (.slice An L.length cn) ∧ W2.cell? ⟨AB, 2, none⟩ = some (.slice At L.length ct) ∧ W2.cell? ⟨BT, 0, none⟩ = some (.int .i64 (kt : Nat)) ∧ W2.cell? ⟨BT, 1, none⟩ = some (str nt) ∧ W2.cell? ⟨BT, 2, none⟩ = some (.slice B1 m1 e1) from ⟨fAB.cell 1, fAB.cell 2, fBT.cell 0, fBT.cell 1, fBT.cell 2⟩)
                      refine hK _ _ (fun _ => hS) ?_
                      clear hK K
                      refine wpAnyG_ready (rs := [7]) (by decide +kernel) (by simp) ?_
                      refine AllReadyG.cons rfl (fun K hK => ?_) AllReadyG.nil
                      go_simp
                      have fBs := Blk.new W2 9 [str [chr (5 + i)]]
                      have nBs : BT ≤ W2.heap.size := hN
                      replace fAB := fAB.alloc (.cells #[str [chr (5 + i)]] 9)
                      replace fBT := fBT.alloc (.cells #[str [chr (5 + i)]] 9)
                      replace fON := fON.alloc (.cells #[str [chr (5 + i)]] 9)
                      replace fOT := fOT.alloc (.cells #[str [chr (5 + i)]] 9)
                      replace fTD := tys_alloc fTD (.cells #[str [chr (5 + i)]] 9)
                      replace fTC := fTC.keep (fun b _ hl => Below.heap_alloc W2 (.cells #[str [chr (5 + i)]] 9) b hl)
                      replace fGR := grownBy_trans fGR (World.grownBy_alloc W2 (.cells #[str [chr (5 + i)]] 9) _)
                      replace fBy := fBy.alloc (.cells #[str [chr (5 + i)]] 9)
                      replace fB12 := fB12.alloc (.cells #[str [chr (5 + i)]] 9)
                      replace hN : BT ≤ (W2.alloc (.cells #[str [chr (5 + i)]] 9)).heap.size := by simp; omega
                      clear hS
                      generalize W2.alloc (.cells #[str [chr (5 + i)]] 9) = W3 at *
                      generalize W2.heap.size = Bs at *
                      have hS := (show W3.cell? ⟨AB, 1, none⟩ = some (.slice An L.length cn) ∧ W3.cell? ⟨AB, 2, none⟩ = some (.slice At L.length ct) ∧ W3.cell? ⟨BT, 0, none⟩ = some (.int .i64 (kt : Nat)) ∧ W3.cell? ⟨BT, 1, none⟩ = some (str nt) ∧ W3.cell? ⟨BT, 2, none⟩ = some (.slice B1 m1 e1) from ⟨fAB.cell 1, fAB.cell 2, fBT.cell 0, fBT.cell 1, fBT.cell 2⟩)
                      refine hK _ _ (fun _ => hS) ?_
                      clear hK K
                      refine wpAnyG_ready (rs := [8]) (by decide +kernel) (by simp) ?_
                      refine AllReadyG.cons rfl (fun K hK => ?_) AllReadyG.nil
                      refine step_app_st _ rfl (.tmp 138) (.tmp 144) (by rfl) (base := N1) (v := .slice An L.length cn) (n := L.length) (xs := strs (L.map nmF)) fON rfl (D := Any) (A := some ⟨Bs, 0, none⟩) (m := 1) (news := [str [chr (5 + i)]]) (c := 1) (fBs.reads trivial rfl) (by first | rfl | simp) (by simp [Value.oneCell']) (by omega) (by have := HN1.out; have := fGR.size; omega) ?_
                      intro v2 V4 hown2 hg2 hat2
                      obtain ⟨An9, cn9, rfl, _⟩ := own_form hown2
                      have hap := own_kept fOT fON
                      replace fOT := fOT.kept hg2 (hap (by decide))
                      replace fAB := fAB.grown hg2 (fun e => by have := (hob _ e.symm).1; omega)
                      replace fBT := fBT.grown hg2 (fun e => by have := (hob _ e.symm).2; omega)
                      replace fTD := fTD.imp fun x y hxy => TCells.keep hxy fun b hb hl => hg2.block b hl (fun e => by have := (hob _ e.symm).1; omega)
                      replace fTC := fTC.keep fun b hb hl => hg2.block b hl (fun e => by have := (hob _ e.symm).1; omega)
                      replace fGR := grownBy_far fGR hg2 (fun k hk => by have := (hob k hk).1; omega)
                      replace fBy := fBy.grown hg2 (fun e => by have := (hob _ e.symm).2; omega)
                      replace fB12 := fB12.grown hg2 (fun e => by have := (hob _ e.symm).2; omega)
                      replace fBs := fBs.grown hg2 (fun e => by have := (hob _ e.symm).2; omega)
                      replace hN := Nat.le_trans hN hg2.size
                      clear fON
                      have fON := hown2
                      clear hS hap hown2 hg2 hat2
                      have hS := (show V4.cell? ⟨AB, 1, none⟩ = some (.slice An L.length cn) ∧ V4.cell? ⟨AB, 2, none⟩ = some (.slice At L.length ct) ∧ V4.cell? ⟨BT, 0, none⟩ = some (.int .i64 (kt : Nat)) ∧ V4.cell? ⟨BT, 1, none⟩ = some (str nt) ∧ V4.cell? ⟨BT, 2, none⟩ = some (.slice B1 m1 e1) from ⟨fAB.cell 1, fAB.cell 2, fBT.cell 0, fBT.cell 1, fBT.cell 2⟩)
                      refine hK _ _ (fun _ => hS) ?_
                      clear hK K
                      repeat (first | (refine wpAnyG_take (i := 14) (v := .pointer (some ⟨AB, 1, none⟩)) rfl ?_ ?_ ?_ (fun _ _ _ h => h) (Or.inl ⟨by rfl, ?_⟩) hS ?_; (· decide +kernel); (· decide +kernel); (· decide +kernel); (· (intro w' hS'; obtain ⟨hS1, hS2, hS3, hS4, hS5⟩ := hS'; go_simp))))
                      refine wpAnyG_ready (rs := [13]) (by decide +kernel) (by simp) ?_
                      refine AllReadyG.cons rfl (fun K hK => ?_) AllReadyG.nil
                      refine step_app_ty _ rfl (.tmp 147) (.tmp 149) (by rfl) (base := N1) (v := .slice At L.length ct) (n := L.length) (xs := vss.flatten) fOT rfl (D := Any) (A := some ⟨B12, 0, none⟩) (m := 1) (news := [.int .i64 (kt : Nat), str nt, .slice B1 m1 e1]) (c := 1) (fB12.reads trivial rfl) (by first | rfl | simp) (by simp [Value.oneCell']) (by omega) (by have := HN1.out; have := fGR.size; omega) ?_
                      intro v2 V5 hown2 hg2 hat2
                      obtain ⟨At9, ct9, rfl, _⟩ := own_form hown2
                      have hap := own_kept fON fOT
                      replace fON := fON.kept hg2 (hap (by decide))
                      replace fAB := fAB.grown hg2 (fun e => by have := (hotb _ e.symm).1; omega)
                      replace fBT := fBT.grown hg2 (fun e => by have := (hotb _ e.symm).2; omega)
                      replace fTD := fTD.imp fun x y hxy => TCells.keep hxy fun b hb hl => hg2.block b hl (fun e => by have := (hotb _ e.symm).1; omega)
                      replace fTC := fTC.keep fun b hb hl => hg2.block b hl (fun e => by have := (hotb _ e.symm).1; omega)
                      replace fGR := grownBy_far fGR hg2 (fun k hk => by have := (hotb k hk).1; omega)
                      replace fBy := fBy.grown hg2 (fun e => by have := (hotb _ e.symm).2; omega)
                      replace fB12 := fB12.grown hg2 (fun e => by have := (hotb _ e.symm).2; omega)
                      replace fBs := fBs.grown hg2 (fun e => by have := (hotb _ e.symm).2; omega)
                      replace hN := Nat.le_trans hN hg2.size
                      clear fOT
                      have fOT := hown2
                      clear hS hap hown2 hg2 hat2
                      have hS := (show V5.cell? ⟨AB, 1, none⟩ = some (.slice An L.length cn) ∧ V5.cell? ⟨AB, 2, none⟩ = some (.slice At L.length ct) ∧ V5.cell? ⟨BT, 0, none⟩ = some (.int .i64 (kt : Nat)) ∧ V5.cell? ⟨BT, 1, none⟩ = some (str nt) ∧ V5.cell? ⟨BT, 2, none⟩ = some (.slice B1 m1 e1) from ⟨fAB.cell 1, fAB.cell 2, fBT.cell 0, fBT.cell 1, fBT.cell 2⟩)
                      refine hK _ _ (fun _ => hS) ?_
                      clear hK K
                      refine wpAnyG_ready (rs := [15]) (by decide +kernel) (by simp) ?_
                      refine AllReadyG.cons rfl (fun K hK => ?_) AllReadyG.nil
                      have z1 := fAB.frozen 1
                      have y1 := fAB.cell 1
                      have lAB := fAB.lt
                      go_simp
                      have fin := Lib.hid (show ActAt t3 ((V5.setCell ⟨AB, 1, none⟩ (.slice An9 (L.length + 1) cn9)).setCell ⟨AB, 2, none⟩ (.slice At9 (L.length + 1) ct9)) N1 AB (fun b => W.heap.size ≤ b ∧ b < AB) An9 cn9 At9 ct9 q2 (idxF bits (i + 1)) from by
                        rw [HIx.out, if_pos HTk.out]
                        exact act_put fGR fAB fON fOT fTD fTC rfl hABN)
                      refine hK _ _ (fun h => absurd h (by decide)) ?_
                      clear hK K y1 z1 lAB hS
                      replace fAB := fAB.put 1 (.slice An9 (L.length + 1) cn9)
                      clear fON fOT fTD fTC fGR fBT fBy fBs fB12 hN
                      refine wpAnyG_ready (rs := [16]) (by decide +kernel) (by simp) ?_
                      refine AllReadyG.cons rfl (fun K hK => ?_) AllReadyG.nil
                      go_simp
                      refine hK _ _ (fun h => absurd h (by decide)) ?_
                      clear hK K
                      have z2 := fAB.frozen 2
                      have y2 := fAB.cell 2
                      have lAB := fAB.lt
                      refine wpAnyG_ready (rs := [17]) (by decide +kernel) (by simp) ?_
                      refine AllReadyG.cons rfl (fun K hK => ?_) AllReadyG.nil
                      go_simp
                      refine hK _ _ (fun h => absurd h (by decide)) ?_
                      clear hK K
                      refine wpAnyG_done (by decide +kernel) ?_ _
                      clear y2 z2 lAB fAB
                      go_wp2_with (fail)
                      go_roundg (9 - (i + 1))
                      case measure => omega
                      case rel => exact ⟨i + 1, An9, cn9, At9, ct9, by omega, by go_num, fin⟩
                  · go_simp
                    have fB12 := Blk.new W1 34 [.int .i64 (kt : Nat), str nt, .slice B1 m1 e1]
                    have nB12 : BT ≤ W1.heap.size := hN
                    replace fAB := fAB.alloc (.cells #[.int .i64 (kt : Nat), str nt, .slice B1 m1 e1] 34)
                    replace fBT := fBT.alloc (.cells #[.int .i64 (kt : Nat), str nt, .slice B1 m1 e1] 34)
                    replace fON := fON.alloc (.cells #[.int .i64 (kt : Nat), str nt, .slice B1 m1 e1] 34)
                    replace fOT := fOT.alloc (.cells #[.int .i64 (kt : Nat), str nt, .slice B1 m1 e1] 34)
                    replace fTD := tys_alloc fTD (.cells #[.int .i64 (kt : Nat), str nt, .slice B1 m1 e1] 34)
                    replace fTC := fTC.keep (fun b _ hl => Below.heap_alloc W1 (.cells #[.int .i64 (kt : Nat), str nt, .slice B1 m1 e1] 34) b hl)
                    replace fGR := grownBy_trans fGR (World.grownBy_alloc W1 (.cells #[.int .i64 (kt : Nat), str nt, .slice B1 m1 e1] 34) _)
                    replace fBy := fBy.alloc (.cells #[.int .i64 (kt : Nat), str nt, .slice B1 m1 e1] 34)
                    replace hN : BT ≤ (W1.alloc (.cells #[.int .i64 (kt : Nat), str nt, .slice B1 m1 e1] 34)).heap.size := by simp; omega
                    clear hS
                    generalize W1.alloc (.cells #[.int .i64 (kt : Nat), str nt, .slice B1 m1 e1] 34) = W2 at *
                    generalize W1.heap.size = B12 at *
                    have hS := (show W2.cell? ⟨AB, 1, none⟩ = some (.slice An L.length cn) ∧ W2.cell? ⟨AB, 2, none⟩ = some (.slice At L.length ct) ∧ W2.cell? ⟨BT, 0, none⟩ = some (.int .i64 (kt : Nat)) ∧ W2.cell? ⟨BT, 1, none⟩ = some (str nt) ∧ W2.cell? ⟨BT, 2, none⟩ = some (.slice B1 m1 e1) from ⟨fAB.cell 1, fAB.cell 2, fBT.cell 0, fBT.cell 1, fBT.cell 2⟩)
                    refine hK _ _ (fun _ => hS) ?_
                    clear hK K
                    refine wpAnyG_ready (rs := [6]) (by decide +kernel) (by simp) ?_
                    refine AllReadyG.cons rfl (fun K hK => ?_) AllReadyG.nil
                    have cv := cv_blk HChr.out fBy
                    go_simp
                    refine hK _ _ (fun _ => hS) ?_
                    clear hK K cv
                    refine wpAnyG_ready (rs := [7]) (by decide +kernel) (by simp) ?_
                    refine AllReadyG.cons rfl (fun K hK => ?_) AllReadyG.nil
                    go_simp
                    have fBs := Blk.new W2 9 [str [chr (5 + i)]]
                    have nBs : BT ≤ W2.heap.size := hN
                    replace fAB := fAB.alloc (.cells #[str [chr (5 + i)]] 9)
                    replace fBT := fBT.alloc (.cells #[str [chr (5 + i)]] 9)
                    replace fON := fON.alloc (.cells #[str [chr (5 + i)]] 9)
                    replace fOT := fOT.alloc (.cells #[str [chr (5 + i)]] 9)
                    replace fTD := tys_alloc fTD (.cells #[str [chr (5 + i)]] 9)
                    replace fTC := fTC.keep (fun b _ hl => Below.heap_alloc W2 (.cells #[str [chr (5 + i)]] 9) b hl)
                    replace fGR := grownBy_trans fGR (World.grownBy_alloc W2 (.cells #[str [chr (5 + i)]] 9) _)
                    replace fBy := fBy.alloc (.cells #[str [chr (5 + i)]] 9)
                    replace fB12 := fB12.alloc (.cells #[str [chr (5 + i)]] 9)
                    replace hN : BT ≤ (W2.alloc (.cells #[str [chr (5 + i)]] 9)).heap.size := by simp; omega
                    clear hS
                    generalize W2.alloc (.cells #[str [chr (5 + i)]] 9) = W3 at *
                    generalize W2.heap.size = Bs at *
                    have hS := (show W3.cell? ⟨AB, 1, none⟩ = some (.slice An L.length cn) ∧ W3.cell? ⟨AB, 2, none⟩ = some (.slice At L.length ct) ∧ W3.cell? ⟨BT, 0, none⟩ = some (.int .i64 (kt : Nat)) ∧ W3.cell? ⟨BT, 1, none⟩ = some (str nt) ∧ W3.cell? ⟨BT, 2, none⟩ = some (.slice B1 m1 e1) from ⟨fAB.cell 1, fAB.cell 2, fBT.cell 0, fBT.cell 1, fBT.cell 2⟩)
                    refine hK _ _ (fun _ => hS) ?_
                    clear hK K
                    refine wpAnyG_ready (rs := [8]) (by decide +kernel) (by simp) ?_
                    refine AllReadyG.cons rfl (fun K hK => ?_) AllReadyG.nil
                    refine step_app_st _ rfl (.tmp 138) (.tmp 144) (by rfl) (base := N1) (v := .slice An L.length cn) (n := L.length) (xs := strs (L.map nmF)) fON rfl (D := Any) (A := some ⟨Bs, 0, none⟩) (m := 1) (news := [str [chr (5 + i)]]) (c := 1) (fBs.reads trivial rfl) (by first | rfl | simp) (by simp [Value.oneCell']) (by omega) (by have := HN1.out; have := fGR.size; omega) ?_
                    intro v2 V4 hown2 hg2 hat2
                    obtain ⟨An9, cn9, rfl, _⟩ := own_form hown2
                    have hap := own_kept fOT fON
                    replace fOT := fOT.kept hg2 (hap (by decide))
                    replace fAB := fAB.grown hg2 (fun e => by have := (hob _ e.symm).1; omega)
                    replace fBT := fBT.grown hg2 (fun e => by have := (hob _ e.symm).2; omega)
                    replace fTD := fTD.imp fun x y hxy => TCells.keep hxy fun b hb hl => hg2.block b hl (fun e => by have := (hob _ e.symm).1; omega)
                    replace fTC := fTC.keep fun b hb hl => hg2.block b hl (fun e => by have := (hob _ e.symm).1; omega)
                    replace fGR := grownBy_far fGR hg2 (fun k hk => by have := (hob k hk).1; omega)
                    replace fBy := fBy.grown hg2 (fun e => by have := (hob _ e.symm).2; omega)
                    replace fB12 := fB12.grown hg2 (fun e => by have := (hob _ e.symm).2; omega)
                    replace fBs := fBs.grown hg2 (fun e => by have := (hob _ e.symm).2; omega)
                    replace hN := Nat.le_trans hN hg2.size
                    clear fON
                    have fON := hown2
                    clear hS hap hown2 hg2 hat2
                    have hS := (show V4.cell? ⟨AB, 1, none⟩ = some (.slice An L.length cn) ∧ V4.cell? ⟨AB, 2, none⟩ = some (.slice At L.length ct) ∧ V4.cell? ⟨BT, 0, none⟩ = some (.int .i64 (kt : Nat)) ∧ V4.cell? ⟨BT, 1, none⟩ = some (str nt) ∧ V4.cell? ⟨BT, 2, none⟩ = some (.slice B1 m1 e1) from ⟨fAB.cell 1, fAB.cell 2, fBT.cell 0, fBT.cell 1, fBT.cell 2⟩)
                    refine hK _ _ (fun _ => hS) ?_
                    clear hK K
                    repeat (first | (refine wpAnyG_take (i := 14) (v := .pointer (some ⟨AB, 1, none⟩)) rfl ?_ ?_ ?_ (fun _ _ _ h => h) (Or.inl ⟨by rfl, ?_⟩) hS ?_; (· decide +kernel); (· decide +kernel); (· decide +kernel); (· (intro w' hS'; obtain ⟨hS1, hS2, hS3, hS4, hS5⟩ := hS'; go_simp))))
                    refine wpAnyG_ready (rs := [13]) (by decide +kernel) (by simp) ?_
                    refine AllReadyG.cons rfl (fun K hK => ?_) AllReadyG.nil
                    refine step_app_ty _ rfl (.tmp 147) (.tmp 149) (by rfl) (base := N1) (v := .slice At L.length ct) (n := L.length) (xs := vss.flatten) fOT rfl (D := Any) (A := some ⟨B12, 0, none⟩) (m := 1) (news := [.int .i64 (kt : Nat), str nt, .slice B1 m1 e1]) (c := 1) (fB12.reads trivial rfl) (by first | rfl | simp) (by simp [Value.oneCell']) (by omega) (by have := HN1.out; have := fGR.size; omega) ?_
                    intro v2 V5 hown2 hg2 hat2
                    obtain ⟨At9, ct9, rfl, _⟩ := own_form hown2
                    have hap := own_kept fON fOT
                    replace fON := fON.kept hg2 (hap (by decide))
                    replace fAB := fAB.grown hg2 (fun e => by have := (hotb _ e.symm).1; omega)
                    replace fBT := fBT.grown hg2 (fun e => by have := (hotb _ e.symm).2; omega)
                    replace fTD := fTD.imp fun x y hxy => TCells.keep hxy fun b hb hl => hg2.block b hl (fun e => by have := (hotb _ e.symm).1; omega)
                    replace fTC := fTC.keep fun b hb hl => hg2.block b hl (fun e => by have := (hotb _ e.symm).1; omega)
                    replace fGR := grownBy_far fGR hg2 (fun k hk => by have := (hotb k hk).1; omega)
                    replace fBy := fBy.grown hg2 (fun e => by have := (hotb _ e.symm).2; omega)
                    replace fB12 := fB12.grown hg2 (fun e => by have := (hotb _ e.symm).2; omega)
                    replace fBs := fBs.grown hg2 (fun e => by have := (hotb _ e.symm).2; omega)
                    replace hN := Nat.le_trans hN hg2.size
                    clear fOT
                    have fOT := hown2
                    clear hS hap hown2 hg2 hat2
                    have hS := (show V5.cell? ⟨AB, 1, none⟩ = some (.slice An L.length cn) ∧ V5.cell? ⟨AB, 2, none⟩ = some (.slice At L.length ct) ∧ V5.cell? ⟨BT, 0, none⟩ = some (.int .i64 (kt : Nat)) ∧ V5.cell? ⟨BT, 1, none⟩ = some (str nt) ∧ V5.cell? ⟨BT, 2, none⟩ = some (.slice B1 m1 e1) from ⟨fAB.cell 1, fAB.cell 2, fBT.cell 0, fBT.cell 1, fBT.cell 2⟩)
                    refine hK _ _ (fun _ => hS) ?_
                    clear hK K
                    refine wpAnyG_ready (rs := [15]) (by decide +kernel) (by simp) ?_
                    refine AllReadyG.cons rfl (fun K hK => ?_) AllReadyG.nil
                    have z1 := fAB.frozen 1
                    have y1 := fAB.cell 1
                    have lAB := fAB.lt
                    go_simp
                    have fin := Lib.hid (show ActAt t3 ((V5.setCell ⟨AB, 1, none⟩ (.slice An9 (L.length + 1) cn9)).setCell ⟨AB, 2, none⟩ (.slice At9 (L.length + 1) ct9)) N1 AB (fun b => W.heap.size ≤ b ∧ b < AB) An9 cn9 At9 ct9 q2 (idxF bits (i + 1)) from by
                      rw [HIx.out, if_pos HTk.out]
                      exact act_put fGR fAB fON fOT fTD fTC rfl hABN)
                    refine hK _ _ (fun h => absurd h (by decide)) ?_
                    clear hK K y1 z1 lAB hS
                    replace fAB := fAB.put 1 (.slice An9 (L.length + 1) cn9)
                    clear fON fOT fTD fTC fGR fBT fBy fBs fB12 hN
                    refine wpAnyG_ready (rs := [16]) (by decide +kernel) (by simp) ?_
                    refine AllReadyG.cons rfl (fun K hK => ?_) AllReadyG.nil
                    go_simp
                    refine hK _ _ (fun h => absurd h (by decide)) ?_
                    clear hK K
                    have z2 := fAB.frozen 2
                    have y2 := fAB.cell 2
                    have lAB := fAB.lt
                    refine wpAnyG_ready (rs := [17]) (by decide +kernel) (by simp) ?_
                    refine AllReadyG.cons rfl (fun K hK => ?_) AllReadyG.nil
                    go_simp
                    refine hK _ _ (fun h => absurd h (by decide)) ?_
                    clear hK K
                    refine wpAnyG_done (by decide +kernel) ?_ _
                    clear y2 z2 lAB fAB
                    go_wp2_with (fail)
                    go_roundg (9 - (i + 1))
                    case measure => omega
                    case rel => exact ⟨i + 1, An9, cn9, At9, ct9, by omega, by go_num, fin⟩
                · go_simp
                  have fB12 := Blk.new W0 34 [.int .i64 (kt : Nat), str nt, .slice B1 m1 e1]
                  have nB12 : BT ≤ W0.heap.size := hN
                  replace fAB := fAB.alloc (.cells #[.int .i64 (kt : Nat), str nt, .slice B1 m1 e1] 34)
                  replace fBT := fBT.alloc (.cells #[.int .i64 (kt : Nat), str nt, .slice B1 m1 e1] 34)
                  replace fON := fON.alloc (.cells #[.int .i64 (kt : Nat), str nt, .slice B1 m1 e1] 34)
                  replace fOT := fOT.alloc (.cells #[.int .i64 (kt : Nat), str nt, .slice B1 m1 e1] 34)
                  replace fTD := tys_alloc fTD (.cells #[.int .i64 (kt : Nat), str nt, .slice B1 m1 e1] 34)
                  replace fTC := fTC.keep (fun b _ hl => Below.heap_alloc W0 (.cells #[.int .i64 (kt : Nat), str nt, .slice B1 m1 e1] 34) b hl)
                  replace fGR := grownBy_trans fGR (World.grownBy_alloc W0 (.cells #[.int .i64 (kt : Nat), str nt, .slice B1 m1 e1] 34) _)
                  replace hN : BT ≤ (W0.alloc (.cells #[.int .i64 (kt : Nat), str nt, .slice B1 m1 e1] 34)).heap.size := by simp; omega
                  clear hS
                  generalize W0.alloc (.cells #[.int .i64 (kt : Nat), str nt, .slice B1 m1 e1] 34) = W1 at *
                  generalize W0.heap.size = B12 at *
                  have hS := (show W1.cell? ⟨AB, 1, none⟩ = some (.slice An L.length cn) ∧ W1.cell? ⟨AB, 2, none⟩ = some (.slice At L.length ct) ∧ W1.cell? ⟨BT, 0, none⟩ = some (.int .i64 (kt : Nat)) ∧ W1.cell? ⟨BT, 1, none⟩ = some (str nt) ∧ W1.cell? ⟨BT, 2, none⟩ = some (.slice B1 m1 e1) from ⟨fAB.cell 1, fAB.cell 2, fBT.cell 0, fBT.cell 1, fBT.cell 2⟩)
                  refine hK _ _ (fun _ => hS) ?_
                  clear hK K
                  refine wpAnyG_ready (rs := [5]) (by decide +kernel) (by simp) ?_
                  refine AllReadyG.cons rfl (fun K hK => ?_) AllReadyG.nil
                  go_simp
                  have fBy := Blk.new W1 5 [.int .u8 (102 + (i : Int))]
                  have nBy : BT ≤ W1.heap.size := hN
                  replace fAB := fAB.alloc (.cells #[.int .u8 (102 + (i : Int))] 5)
                  replace fBT := fBT.alloc (.cells #[.int .u8 (102 + (i : Int))] 5)
                  replace fON := fON.alloc (.cells #[.int .u8 (102 + (i : Int))] 5)
                  replace fOT := fOT.alloc (.cells #[.int .u8 (102 + (i : Int))] 5)
                  replace fTD := tys_alloc fTD (.cells #[.int .u8 (102 + (i : Int))] 5)
                  replace fTC := fTC.keep (fun b _ hl => Below.heap_alloc W1 (.cells #[.int .u8 (102 + (i : Int))] 5) b hl)
                  replace fGR := grownBy_trans fGR (World.grownBy_alloc W1 (.cells #[.int .u8 (102 + (i : Int))] 5) _)
                  replace fB12 := fB12.alloc (.cells #[.int .u8 (102 + (i : Int))] 5)
                  replace hN : BT ≤ (W1.alloc (.cells #[.int .u8 (102 + (i : Int))] 5)).heap.size := by simp; omega
                  clear hS
                  generalize W1.alloc (.cells #[.int .u8 (102 + (i : Int))] 5) = W2 at *
                  generalize W1.heap.size = By at *
                  have hS := (show W2.cell? ⟨AB, 1, none⟩ = some (.slice An L.length cn) ∧ W2.cell? ⟨AB, 2, none⟩ = some (.slice At L.length ct) ∧ W2.cell? ⟨BT, 0, none⟩ = some (.int .i64 (kt : Nat)) ∧ W2.cell? ⟨BT, 1, none⟩ = some (str nt) ∧ W2.cell? ⟨BT, 2, none⟩ = some (.slice B1 m1 e1) from ⟨fAB.cell 1, fAB.cell 2, fBT.cell 0, fBT.cell 1, fBT.cell 2⟩)
                  refine hK _ _ (fun _ => hS) ?_
                  clear hK K
                  refine wpAnyG_ready (rs := [6]) (by decide +kernel) (by simp) ?_
                  refine AllReadyG.cons rfl (fun K hK => ?_) AllReadyG.nil
                  have cv := cv_blk HChr.out fBy
                  go_simp
                  refine hK _ _ (fun _ => hS) ?_
                  clear hK K cv
                  refine wpAnyG_ready (rs := [7]) (by decide +kernel) (by simp) ?_
                  refine AllReadyG.cons rfl (fun K hK => ?_) AllReadyG.nil
                  go_simp
                  have fBs := Blk.new W2 9 [str [chr (5 + i)]]
                  have nBs : BT ≤ W2.heap.size := hN
                  replace fAB := fAB.alloc (.cells #[str [chr (5 + i)]] 9)
                  replace fBT := fBT.alloc (.cells #[str [chr (5 + i)]] 9)
                  replace fON := fON.alloc (.cells #[str [chr (5 + i)]] 9)
                  replace fOT := fOT.alloc (.cells #[str [chr (5 + i)]] 9)
                  replace fTD := tys_alloc fTD (.cells #[str [chr (5 + i)]] 9)
                  replace fTC := fTC.keep (fun b _ hl => Below.heap_alloc W2 (.cells #[str [chr (5 + i)]] 9) b hl)
                  replace fGR := grownBy_trans fGR (World.grownBy_alloc W2 (.cells #[str [chr (5 + i)]] 9) _)
                  replace fB12 := fB12.alloc (.cells #[str [chr (5 + i)]] 9)
                  replace fBy := fBy.alloc (.cells #[str [chr (5 + i)]] 9)
                  replace hN : BT ≤ (W2.alloc (.cells #[str [chr (5 + i)]] 9)).heap.size := by simp; omega
                  clear hS
                  generalize W2.alloc (.cells #[str [chr (5 + i)]] 9) = W3 at *
                  generalize W2.heap.size = Bs at *
                  have hS := (show W3.cell? ⟨AB, 1, none⟩ = some (.slice An L.length cn) ∧ W3.cell? ⟨AB, 2, none⟩ = some (.slice At L.length ct) ∧ W3.cell? ⟨BT, 0, none⟩ = some (.int .i64 (kt : Nat)) ∧ W3.cell? ⟨BT, 1, none⟩ = some (str nt) ∧ W3.cell? ⟨BT, 2, none⟩ = some (.slice B1 m1 e1) from ⟨fAB.cell 1, fAB.cell 2, fBT.cell 0, fBT.cell 1, fBT.cell 2⟩)
                  refine hK _ _ (fun _ => hS) ?_
                  clear hK K
                  refine wpAnyG_ready (rs := [8]) (by decide +kernel) (by simp) ?_
                  refine AllReadyG.cons rfl (fun K hK => ?_) AllReadyG.nil
                  refine step_app_st _ rfl (.tmp 138) (.tmp 144) (by rfl) (base := N1) (v := .slice An L.length cn) (n := L.length) (xs := strs (L.map nmF)) fON rfl (D := Any) (A := some ⟨Bs, 0, none⟩) (m := 1) (news := [str [chr (5 + i)]]) (c := 1) (fBs.reads trivial rfl) (by first | rfl | simp) (by simp [Value.oneCell']) (by omega) (by have := HN1.out; have := fGR.size; omega) ?_
                  intro v2 V4 hown2 hg2 hat2
                  obtain ⟨An9, cn9, rfl, _⟩ := own_form hown2
                  have hap := own_kept fOT fON
                  replace fOT := fOT.kept hg2 (hap (by decide))
                  replace fAB := fAB.grown hg2 (fun e => by have := (hob _ e.symm).1; omega)
                  replace fBT := fBT.grown hg2 (fun e => by have := (hob _ e.symm).2; omega)
                  replace fTD := fTD.imp fun x y hxy => TCells.keep hxy fun b hb hl => hg2.block b hl (fun e => by have := (hob _ e.symm).1; omega)
                  replace fTC := fTC.keep fun b hb hl => hg2.block b hl (fun e => by have := (hob _ e.symm).1; omega)
                  replace fGR := grownBy_far fGR hg2 (fun k hk => by have := (hob k hk).1; omega)
                  replace fB12 := fB12.grown hg2 (fun e => by have := (hob _ e.symm).2; omega)
                  replace fBy := fBy.grown hg2 (fun e => by have := (hob _ e.symm).2; omega)
                  replace fBs := fBs.grown hg2 (fun e => by have := (hob _ e.symm).2; omega)
                  replace hN := Nat.le_trans hN hg2.size
                  clear fON
                  have fON := hown2
                  clear hS hap hown2 hg2 hat2
                  have hS := (show V4.cell? ⟨AB, 1, none⟩ = some (.slice An L.length cn) ∧ V4.cell? ⟨AB, 2, none⟩ = some (.slice At L.length ct) ∧ V4.cell? ⟨BT, 0, none⟩ = some (.int .i64 (kt : Nat)) ∧ V4.cell? ⟨BT, 1, none⟩ = some (str nt) ∧ V4.cell? ⟨BT, 2, none⟩ = some (.slice B1 m1 e1) from ⟨fAB.cell 1, fAB.cell 2, fBT.cell 0, fBT.cell 1, fBT.cell 2⟩)
                  refine hK _ _ (fun _ => hS) ?_
                  clear hK K
                  repeat (first | (refine wpAnyG_take (i := 14) (v := .pointer (some ⟨AB, 1, none⟩)) rfl ?_ ?_ ?_ (fun _ _ _ h => h) (Or.inl ⟨by rfl, ?_⟩) hS ?_; (· decide +kernel); (· decide +kernel); (· decide +kernel); (· (intro w' hS'; obtain ⟨hS1, hS2, hS3, hS4, hS5⟩ := hS'; go_simp))))
                  refine wpAnyG_ready (rs := [13]) (by decide +kernel) (by simp) ?_
                  refine AllReadyG.cons rfl (fun K hK => ?_) AllReadyG.nil
                  refine step_app_ty _ rfl (.tmp 147) (.tmp 149) (by rfl) (base := N1) (v := .slice At L.length ct) (n := L.length) (xs := vss.flatten) fOT rfl (D := Any) (A := some ⟨B12, 0, none⟩) (m := 1) (news := [.int .i64 (kt : Nat), str nt, .slice B1 m1 e1]) (c := 1) (fB12.reads trivial rfl) (by first | rfl | simp) (by simp [Value.oneCell']) (by omega) (by have := HN1.out; have := fGR.size; omega) ?_
                  intro v2 V5 hown2 hg2 hat2
                  obtain ⟨At9, ct9, rfl, _⟩ := own_form hown2
                  have hap := own_kept fON fOT
                  replace fON := fON.kept hg2 (hap (by decide))
                  replace fAB := fAB.grown hg2 (fun e => by have := (hotb _ e.symm).1; omega)
                  replace fBT := fBT.grown hg2 (fun e => by have := (hotb _ e.symm).2; omega)
                  replace fTD := fTD.imp fun x y hxy => TCells.keep hxy fun b hb hl => hg2.block b hl (fun e => by have := (hotb _ e.symm).1; omega)
                  replace fTC := fTC.keep fun b hb hl => hg2.block b hl (fun e => by have := (hotb _ e.symm).1; omega)
                  replace fGR := grownBy_far fGR hg2 (fun k hk => by have := (hotb k hk).1; omega)
                  replace fB12 := fB12.grown hg2 (fun e => by have := (hotb _ e.symm).2; omega)
                  replace fBy := fBy.grown hg2 (fun e => by have := (hotb _ e.symm).2; omega)
                  replace fBs := fBs.grown hg2 (fun e => by have := (hotb _ e.symm).2; omega)
                  replace hN := Nat.le_trans hN hg2.size
                  clear fOT
                  have fOT := hown2
                  clear hS hap hown2 hg2 hat2
                  have hS := (show V5.cell? ⟨AB, 1, none⟩ = some (.slice An L.length cn) ∧ V5.cell? ⟨AB, 2, none⟩ = some (.slice At L.length ct) ∧ V5.cell? ⟨BT, 0, none⟩ = some (.int .i64 (kt : Nat)) ∧ V5.cell? ⟨BT, 1, none⟩ = some (str nt) ∧ V5.cell? ⟨BT, 2, none⟩ = some (.slice B1 m1 e1) from ⟨fAB.cell 1, fAB.cell 2, fBT.cell 0, fBT.cell 1, fBT.cell 2⟩)
                  refine hK _ _ (fun _ => hS) ?_
                  clear hK K
                  refine wpAnyG_ready (rs := [15]) (by decide +kernel) (by simp) ?_
                  refine AllReadyG.cons rfl (fun K hK => ?_) AllReadyG.nil
                  have z1 := fAB.frozen 1
                  have y1 := fAB.cell 1
                  have lAB := fAB.lt
                  go_simp
                  have fin := Lib.hid (show ActAt t3 ((V5.setCell ⟨AB, 1, none⟩ (.slice An9 (L.length + 1) cn9)).setCell ⟨AB, 2, none⟩ (.slice At9 (L.length + 1) ct9)) N1 AB (fun b => W.heap.size ≤ b ∧ b < AB) An9 cn9 At9 ct9 q2 (idxF bits (i + 1)) from by
                    rw [HIx.out, if_pos HTk.out]
                    exact act_put fGR fAB fON fOT fTD fTC rfl hABN)
                  refine hK _ _ (fun h => absurd h (by decide)) ?_
                  clear hK K y1 z1 lAB hS
                  replace fAB := fAB.put 1 (.slice An9 (L.length + 1) cn9)
                  clear fON fOT fTD fTC fGR fBT fBy fBs fB12 hN
                  refine wpAnyG_ready (rs := [16]) (by decide +kernel) (by simp) ?_
                  refine AllReadyG.cons rfl (fun K hK => ?_) AllReadyG.nil
                  go_simp
                  refine hK _ _ (fun h => absurd h (by decide)) ?_
                  clear hK K
                  have z2 := fAB.frozen 2
                  have y2 := fAB.cell 2
                  have lAB := fAB.lt
                  refine wpAnyG_ready (rs := [17]) (by decide +kernel) (by simp) ?_
                  refine AllReadyG.cons rfl (fun K hK => ?_) AllReadyG.nil
                  go_simp
                  refine hK _ _ (fun h => absurd h (by decide)) ?_
                  clear hK K
                  refine wpAnyG_done (by decide +kernel) ?_ _
                  clear y2 z2 lAB fAB
                  go_wp2_with (fail)
                  go_roundg (9 - (i + 1))
                  case measure => omega
                  case rel => exact ⟨i + 1, An9, cn9, At9, ct9, by omega, by go_num, fin⟩
              · have hidx2 : idxF bits (i + 1) = L := HIx.out.trans (if_neg htk)
                have fin := Lib.hid (show ActAt t3 (wr.alloc (.cells #[.int .i64 (typesF[i].kind : Nat), str typesF[i].name, .slice B1 m1 e1] 34)) N1 AB (fun b => W.heap.size ≤ b ∧ b < AB) An cn At ct q2 (idxF bits (i + 1)) from by
                  rw [hidx2]
                  obtain ⟨h1, h2, h3, vss, h4, h5⟩ := HI.out
                  exact ⟨grownBy_trans h1 (World.grownBy_alloc wr _ _), h2.alloc _, h3.alloc _, vss, h4.alloc _, tys_alloc h5 _⟩)
                have HDone := True.intro
                rcases hr2 with hb | hb
                · have gb : Go.bits .and .i64 ((bits : Int) / 2 ^ i) 1 = 0 := gr6 0 hb
                  clear gr6 htk hb
                  go_wp2_with (fail)
                  go_roundg (9 - (i + 1))
                  case measure => omega
                  case rel => exact ⟨i + 1, An, cn, At, ct, by omega, by go_num, fin⟩
                · have gb : Go.bits .and .i64 ((bits : Int) / 2 ^ i) 1 = 1 := gr6 1 hb
                  have hk : L.length = 6 := by omega
                  have gk : decide ((L.length : Int) < 6) = false := decide_eq_false (by omega)
                  have gk' : decide (L.length < 6) = false := decide_eq_false (by omega)
                  clear gr6 htk hb hk
                  go_wp2_with (fail)
                  go_roundg (9 - (i + 1))
                  case measure => omega
                  case rel => exact ⟨i + 1, An, cn, At, ct, by omega, by go_num, fin⟩
            · obtain rfl : i = 9 := by omega
              obtain ⟨hgr, hab, hon, vss, hot, hal⟩ := HI.out
              have hL6 := (idxF_le bits 9).1
              have hk : ∀ b, b < W.heap.size → wr.heap[b]? = W.heap[b]? := fun b hb => (hgr.block b (by have := HC3.out.1.size; omega) (fun e => by injection e with e; have := HC3.out.2; omega)).trans (HC3.out.1.block b hb)
              have hap := AP.out
              have hlo := HP3.out.1.lo
              have fPB : Blk wr PB 29 (pcell A3 3 c3) := (hk PB (by omega)).trans HP3.out.1.pb
              have fRB : Blk wr RB 29 zcell := (hk RB (by omega)).trans HP3.out.1.rb
              have hdo : DtsOwn wr N0 (.slice A3 3 c3) [dD y, dL bad, dE] := by
                have h := HP3.out.2
                obtain ⟨vs, h1, h2⟩ := h
                refine ⟨vs, ⟨h1.1, ?_⟩, h2.imp fun x z hxz => (DtCells.stable 4).keep hxz fun b hb hl => hk b hl⟩
                rcases h1.2 with hn | ⟨g, cap, cur, e, hb, hg, rest⟩
                · exact .inl hn
                · exact .inr ⟨g, cap, cur, e, hb, (hk g (Array.getElem?_eq_some_iff.1 hg).1).trans hg, rest⟩
              have HBe : Below w.heap.size w wr := ⟨(hgr.os.trans HC3.out.1.os).trans HP3.out.1.be.os, (hgr.tape.trans HC3.out.1.tape).trans HP3.out.1.be.tape, (hgr.output.trans HC3.out.1.output).trans HP3.out.1.be.output, Nat.le_trans HP3.out.1.be.size (Nat.le_trans HC3.out.1.size hgr.size), fun b hb => (hk b (by have := HP3.out.1.be.size; omega)).trans (HP3.out.1.be.block b hb)⟩
              have FA := Lib.hid (And.intro hab (And.intro hon (And.intro (show ∃ vss : List (List Value), wr.ownsRow N1 34 3 (.slice At (idxF bits 9).length ct) (idxF bits 9).length vss.flatten ∧ All2 (TCells 4 wr (fun b => W.heap.size ≤ b ∧ b < AB)) vss ((idxF bits 9).map tyF) from ⟨vss, hot, hal⟩) (And.intro hdo HBe))))
              generalize hL9 : idxF bits 9 = L at hab FA hL6
              have HL9 := Lib.hid hL9.symm
              clear hL9
              have HPR := Lib.hid (And.intro fPB fRB)
              have a0 := hab.cell 0
              have a1 := hab.cell 1
              have a2 := hab.cell 2
              have a3 := hab.cell 3
              have a4 := hab.cell 4
              have a5 := hab.cell 5
              have a6 := hab.cell 6
              have a7 := hab.cell 7
              have a8 := hab.cell 8
              have a9 := hab.cell 9
              have a10 := hab.cell 10
              have a11 := hab.cell 11
              have a12 := hab.cell 12
              have a13 := hab.cell 13
              have lPB := fPB.lt
              have lRB := fRB.lt
              have lAB := hab.lt
              have p0 := fPB.cell 0
              have p1 := fPB.cell 1
              have p2 := fPB.cell 2
              have p3 := fPB.cell 3
              have p4 := fPB.cell 4
              have p5 := fPB.cell 5
              have p6 := fPB.cell 6
              have p7 := fPB.cell 7
              have f7 := fPB.frozen 7
              have r0 := fRB.cell 0
              have z0 := fRB.frozen 0
              have r1 := fRB.cell 1
              have z1 := fRB.frozen 1
              have r2 := fRB.cell 2
              have z2 := fRB.frozen 2
              have r3 := fRB.cell 3
              have z3 := fRB.frozen 3
              have r4 := fRB.cell 4
              have z4 := fRB.frozen 4
              have r5 := fRB.cell 5
              have z5 := fRB.frozen 5
              have r6 := fRB.cell 6
              have z6 := fRB.frozen 6
              have r7 := fRB.cell 7
              have z7 := fRB.frozen 7
              simp only [acell, pcell, zcell, List.getElem?_cons_zero, List.getElem?_cons_succ] at *
              have nRP := hap.1
              have nRP2 : PB ≠ RB := fun e => hap.1 e.symm
              clear hgr hab hon hot hal hk hdo HBe fPB fRB HI hlo
              have fin := Lib.hid (pgm_end (RB := RB) (PB := PB) (N0 := N0) (bits := bits) (y := y) (q := q2) AP.out HPR.out.2 FA.out.2.2.2.1 FA.out.2.1 FA.out.2.2.1 FA.out.2.2.2.2 (by have := HN1.out; have := HC3.out.1.size; have := HP3.out.1.lo; omega) HP3.out.1.lo hL6 HL9.out (by have := HY.out; omega) (by omega) hbits2)
              go_wp2_with (fail)
              refine ret_blk rfl rfl fin.out.1 Try.underlying29 (by kernel_rfl) rfl ?_
              exact fin.out.2
          end Go.Proofs.Ytoddjdajjmcliaa
