/- Contract of package mark's do. -/
import Derived.Test.YtpnhmplinkakbaaTownCome
import Derived.Test.YtpnhmplinkakbaaMapEntry
import Derived.StillTailTactics
set_option linter.unusedVariables false
namespace Go.Proofs.Ytpnhmplinkakbaa
open Go.RowKit Go.Mem Go.Maps

set_option maxRecDepth 100000 in
theorem there_yes (w : World) (T C n cC i : Nat) (h : w.cell? ⟨T, 0, none⟩ = some (.slice (some ⟨C, 0, none⟩) n cC)) (hi : i < n) :
    Calls Try.prog 48 #[.pointer (some ⟨T, 0, none⟩), .int .i64 i] w fun e w' => e = .returned (.bool true) ∧ w = w' := by
  have hi0 : (0 : Int) ≤ (i : Int) := by omega
  have hi1 : (i : Int) < (n : Int) := by omega
  have lT := lt_of_cell h
  go_enter Try.func48, Try.ntmps48
  go_wp2_with (fail)
  go_ret
  exact ⟨by simp, rfl⟩
set_option maxRecDepth 100000 in
theorem there_no (w : World) (T C n cC : Nat) (i : Int) (h : w.cell? ⟨T, 0, none⟩ = some (.slice (some ⟨C, 0, none⟩) n cC)) (hi : ¬ (0 ≤ i ∧ i < (n : Int))) :
    Calls Try.prog 48 #[.pointer (some ⟨T, 0, none⟩), .int .i64 i] w fun e w' => e = .returned (.bool false) ∧ w = w' := by
  have lT := lt_of_cell h
  by_cases h0 : 0 ≤ i
  · have h1 : ¬ (i < (n : Int)) := fun e => hi ⟨h0, e⟩
    have h2 : (i < (n : Int)) = False := by simpa using h1
    have h3 : decide (i < (n : Int)) = false := by simpa using h1
    clear hi h1
    go_enter Try.func48, Try.ntmps48
    go_wp2_with (fail)
    go_ret
    exact ⟨rfl, rfl⟩
  · have h1 : (0 ≤ i) = False := by simpa using h0
    have h3 : decide (0 ≤ i) = false := by simpa using h0
    clear hi h0
    go_enter Try.func48, Try.ntmps48
    go_wp2_with (fail)
    go_ret
    exact ⟨rfl, rfl⟩

theorem map_ne {w : World} {m : Nat} {l : List ((Nat × Nat) × Value)} (h : MapOf encK okK w m l) {g : Nat} {t : TypeId} {cs : List Value} (hb : Blk w g t cs) : g ≠ m := by
  rintro rfl
  obtain ⟨es, clock, h1, _⟩ := h
  unfold Blk at hb
  rw [h1] at hb
  cases hb
theorem put_put {α β : Type} [DecidableEq α] (l : List (α × β)) (a : α) (u v : β) : mput (mput l a u) a v = mput l a v := by
  have h1 : mget (mput l a u) a = some u := mget_put_same l a u
  unfold mput at h1 ⊢
  by_cases h : (mget l a).isSome
  · rw [if_pos h] at h1 ⊢
    rw [if_pos (by rw [h1]; rfl), if_pos h, List.map_map]
    apply List.map_congr_left
    intro p _
    by_cases hp : p.1 = a <;> simp [hp]
  · rw [if_neg h] at h1 ⊢
    rw [if_pos (by rw [h1]; rfl), if_neg h, List.map_append]
    have h0 : mget l a = none := by simpa using h
    rw [mget_none] at h0
    congr 1
    · conv => rhs; rw [← List.map_id l]
      apply List.map_congr_left
      intro p hp
      simp [h0 p hp]
    · simp
theorem four_keep {w w' : World} {T Y D : Nat} {v0 v1 v2 v3 : Value} (kT : w'.heap[T]? = w.heap[T]?) (kY : w'.heap[Y]? = w.heap[Y]?) (kD : w'.heap[D]? = w.heap[D]?) (e0 : w.cell? ⟨T, 2, none⟩ = some v0) (e1 : w.cell? ⟨Y, 0, none⟩ = some v1) (e2 : w.cell? ⟨Y, 1, none⟩ = some v2) (e3 : w.cell? ⟨D, 3, none⟩ = some v3) :
    w'.cell? ⟨T, 2, none⟩ = some v0 ∧ w'.cell? ⟨Y, 0, none⟩ = some v1 ∧ w'.cell? ⟨Y, 1, none⟩ = some v2 ∧ w'.cell? ⟨D, 3, none⟩ = some v3 :=
  ⟨(World.cell?_of_block (w := w) kT).trans e0, (World.cell?_of_block (w := w) kY).trans e1, (World.cell?_of_block (w := w) kY).trans e2, (World.cell?_of_block (w := w) kD).trans e3⟩
theorem seg_ne {w : World} {n : Nat} {v : Value} {xs : List Value} (h : Seg w 3 1 v n xs) {g : Nat} {t : TypeId} {cs : List Value} (hb : Blk w g t cs) (ht : t ≠ 3) : v.ownBlock ≠ some g := fun e => by
  obtain ⟨cur, hg⟩ := h.kind e
  exact hg.ne_ hb (fun e => ht e.symm) rfl
theorem entry_way {w : World} {m : Nat} {l : List ((Nat × Nat) × Value)} (h : MapOf encK okK w m l) (a b : Nat) (ha : a < 1000) (hb : b < 1000) :
    ∃ c w', (Instr.mapEntry 110 (.map (some m)) (.agg #[.int .i64 (a : Nat), .int .i64 (b : Nat)])).run Try.prog w = .ok (.tuple #[(mget l (a, b)).getD (.slice none 0 0), .int .i64 c]) w' ∧ EntryOf encK okK w' m (mput l (a, b) ((mget l (a, b)).getD (.slice none 0 0))) (a, b) ((mget l (a, b)).getD (.slice none 0 0)) c ∧ w.grownBy w' (some m) :=
  h.entry enc_ways Try.underlying110 zero_row (a := (a, b)) ⟨ha, hb⟩
/-- the entry of a channel is found or made, its row appended to in the world after, and stored back -/
theorem entry_row {wr w5 w7 w8 : World} {B T : Nat} {col : Nat → Col} {s : Tn} {C cC : Nat} {curC : List Value} {S cS : Nat} {curS : List Value} {m : Nat} {l : List ((Nat × Nat) × Value)} (h : TownW wr B T col s C cC curC S cS curS m l) (hB : B ≤ wr.heap.size) {k : Nat × Nat} {v v2 : Value} {c : List Int}
    (hcol : ∀ b, v.ownBlock = some b → col b = .way k) (hg5 : wr.grownBy w5 (some m)) (hg7 : w5.grownBy w7 v.ownBlock) (hseg : Seg w7 3 1 v2 c.length (nums c)) (hat : ∀ b, v2.ownBlock = some b → v.ownBlock = some b ∨ wr.heap.size ≤ b) (hm8 : MapOf encK okK w8 m (mput l k v2)) (hg8 : w7.grownBy w8 (some m)) :
    TownW w8 B T (recol col wr.heap.size (.way k)) ⟨s.coins, s.sides, mput s.ways k c⟩ C cC curC S cS curS m (mput l k v2) ∧ GrownIn (fun b => B ≤ b) wr w8 := by
  have hm : ∀ b, some m = some b → b = m := fun b e => by injection e with e; exact e.symm
  have hg : GrownIn (fun b => col b = .way k ∨ b = m) wr w8 :=
    ((GrownIn.of_grown hg5 fun b hb => .inr (hm b hb)).trans (own' := fun b => col b = .way k) (GrownIn.of_grown hg7 fun b hb => hcol b hb) fun b hb => .inl (.inl hb)).trans (own' := fun b => b = m) (GrownIn.of_grown hg8 fun b hb => hm b hb) fun b hb => .inl (.inr hb)
  refine ⟨h.way hB hg hm8 (hseg.keep fun b hb => hg8.block b (hseg.lt b hb) fun e => ?_) fun b hb => (hat b hb).imp (hcol b) id, ⟨hg.os, hg.tape, hg.output, hg.size, fun b hb hn => hg.block b hb fun e => hn ?_⟩⟩
  · injection e with e
    subst e
    rcases hat b hb with e | e
    · have := hcol b e
      rw [h.cm] at this
      cases this
    · have := h.m_lt
      omega
  · rcases e with e | rfl
    · exact h.own (by simp) b e
    · exact h.own (by simp) b h.cm
def deedV (d : Dd) : Value := .agg #[.int .i64 d.kind, .int .i64 d.from_, .int .i64 d.to_, .int .i64 d.n]
/-- the world when the deed has been boxed -/
structure Boxed (w W : World) (B T D : Nat) (s : Tn) (n : Nat) (d : Dd) (col : Nat → Col) (C cC : Nat) (curC : List Value) (S cS : Nat) (curS : List Value) (m : Nat) (l : List ((Nat × Nat) × Value)) : Prop where
  town : TownW W B T col s C cC curC S cS curS m l
  deed : Blk W D 64 [.int .i64 d.kind, .int .i64 d.from_, .int .i64 d.to_, .int .i64 d.n]
  grown : GrownIn (fun b => B ≤ b) w W
  low : B ≤ W.heap.size
  own : B ≤ D
  cD : col D = .base
theorem boxed {w : World} {B T : Nat} {s : Tn} {n : Nat} {d : Dd} {col : Nat → Col} {C cC : Nat} {curC : List Value} {S cS : Nat} {curS : List Value} {m : Nat} {l : List ((Nat × Nat) × Value)} (h : TownW w B T col s C cC curC S cS curS m l) (hB : B ≤ w.heap.size) (W : World) (hW : W = w.alloc (.cells #[.int .i64 d.kind, .int .i64 d.from_, .int .i64 d.to_, .int .i64 d.n] 64)) :
    Boxed w W B T w.heap.size s n d (recol col w.heap.size .base) C cC curC S cS curS m l := by
  subst hW
  have hb : Below w.heap.size w (w.alloc (.cells #[.int .i64 d.kind, .int .i64 d.from_, .int .i64 d.to_, .int .i64 d.n] 64)) := (Below.refl _ _).alloc (Nat.le_refl _) _
  exact ⟨h.below hb hB, Blk.new w _ _, GrownIn.of_below hb, Nat.le_trans hB hb.size, hB, recol_new (Nat.le_refl _)⟩

set_option maxRecDepth 100000 in
set_option maxHeartbeats 1000000 in
theorem do_out (w : World) (B T : Nat) (col : Nat → Col) (s : Tn) (n : Nat) (d : Dd) (h : TownAt w B T col s) (hB : B ≤ w.heap.size) (hf : Fine n s) (h0 : ¬ (0 ≤ d.from_ ∧ d.from_ < (n : Int))) :
    Calls Try.prog 39 #[.pointer (some ⟨T, 0, none⟩), deedV d] w (DoPost w B T s) := by
  obtain ⟨C, cC, curC, S, cS, curS, m, l, h⟩ := h
  have HB := Lib.hid (fun W => boxed (n := n) (d := d) h hB W)
  have hlc := hf.lc
  obtain ⟨kd, fr, tt, nn⟩ := d
  simp only [deedV] at h0 HB ⊢
  clear h hf
  go_enter Try.func39, Try.ntmps39
  go_wp2_with (fail)
  obtain ⟨W, hW⟩ : ∃ W, W = w.alloc (.cells #[.int .i64 kd, .int .i64 fr, .int .i64 tt, .int .i64 nn] 64) := ⟨_, rfl⟩
  have bx := HB.out W hW
  rw [← hW]
  have c0 := bx.town.blk.cell 0
  simp only [List.getElem?_cons_zero] at c0
  rw [hlc] at c0
  refine (there_no W T C n cC fr c0 h0).mono ?_
  rintro e w2 ⟨rfl, rfl⟩
  have Bx := Lib.hid bx
  clear bx hW HB c0 h0 hlc
  go_wp2_with (fail)
  go_end0
  exact ⟨_, rfl, ⟨_, _, _, _, _, _, _, _, Bx.out.town⟩, Bx.out.grown⟩

set_option maxRecDepth 100000 in
set_option maxHeartbeats 1000000 in
theorem do_begin (w : World) (B T : Nat) (col : Nat → Col) (s : Tn) (n a : Nat) (tt nn : Int) (h : TownAt w B T col s) (hB : B ≤ w.heap.size) (hf : Fine n s) (ha : a < n) :
    Calls Try.prog 39 #[.pointer (some ⟨T, 0, none⟩), .agg #[.int .i64 3, .int .i64 a, .int .i64 tt, .int .i64 nn]] w (DoPost w B T (beginT s a)) := by
  obtain ⟨C, cC, curC, S, cS, curS, m, l, h⟩ := h
  have HB := Lib.hid (fun W => boxed (n := n) (d := ⟨3, a, tt, nn⟩) h hB W)
  have hlc := hf.lc
  have hls := hf.ls
  have Hal := Lib.hid (show a < s.sides.length by omega)
  have Hac := Lib.hid (show a < s.coins.length by omega)
  have n8 := hf.n8
  have Hll := Lib.hid hf.ll
  have hsp : ∀ x', spreadK a s.coins.length s.ways = spreadK a (⟨s.coins, s.sides.set a x', s.ways⟩ : Tn).coins.length s.ways := fun _ => rfl
  cases hst : (sd s a).started
  case' true =>
    have e1 : beginT s a = s := by unfold beginT; rw [if_pos hst]
    have e2 : beginF (sd s a) (co s a) = (sd s a, 8) := by simp [beginF, hst]
  case' false =>
    have e1 : beginT s a = ⟨s.coins, s.sides.set a (beginF (sd s a) (co s a)).1, spreadK a s.coins.length s.ways⟩ := by unfold beginT; rw [if_neg (by simp [hst])]
    have e2 : beginF (sd s a) (co s a) = ((beginF (sd s a) (co s a)).1, 0) := by simp [beginF, hst]
  all_goals
    rw [e1]
    have He2 := Lib.hid e2
    clear h hf hsp hst e1 e2
    have a0 : (0 : Int) ≤ (a : Int) := by omega
    have a1 : (a : Int) < (n : Int) := by omega
    go_enter Try.func39, Try.ntmps39
    go_wp2_with (fail)
    obtain ⟨W, hW⟩ : ∃ W, W = w.alloc (.cells #[.int .i64 3, .int .i64 a, .int .i64 tt, .int .i64 nn] 64) := ⟨_, rfl⟩
    have bx := HB.out W hW
    rw [← hW]
    generalize w.heap.size = D at bx ⊢
    generalize recol col D .base = col1 at bx
    have c0 := bx.town.blk.cell 0
    have c1 := bx.town.blk.cell 1
    have d0 := bx.deed.cell 0
    have d1 := bx.deed.cell 1
    simp only [List.getElem?_cons_zero, List.getElem?_cons_succ] at c0 c1 d0 d1
    rw [hlc] at c0
    rw [hls] at c1
    obtain ⟨S0, q1, q2, q3⟩ := side_cell bx.town Hal.out
    have p1 := coin_cell bx.town Hac.out
    have BG := Lib.hid (fun W' (hW : W'.heap = W.heap) => begin_any W' S0 _ (sd s a) (co s a) (q3.keep (Same.of_heap hW)))
    rw [He2.out] at BG
    have lT := bx.town.blk.lt
    have lS := bx.town.hS.lt
    have lC := bx.town.hC.lt
    have lD := bx.deed.lt
    generalize hv : co s a = v at p1 BG He2
    have Hv := Lib.hid hv
    clear hv
    have Bx := Lib.hid bx
    have Hq := Lib.hid q1
    clear q1 q3 bx HB hW He2
    refine (there_yes W T C n cC a c0 ha).mono ?_
    rintro e w2 ⟨rfl, rfl⟩
    go_wp2_with (fail)
    go_region_held3 (fun w' => w'.cell? ⟨T, 0, none⟩ = some (.slice (some ⟨C, 0, none⟩) n cC) ∧ w'.cell? ⟨T, 1, none⟩ = some (.slice (some ⟨S, 0, none⟩) n cS) ∧ w'.cell? ⟨S, a, none⟩ = some (.pointer (some ⟨S0, 0, none⟩)) ∧ w'.cell? ⟨C, a, none⟩ = some (.int .i64 v) ∧ w'.cell? ⟨D, 1, none⟩ = some (.int .i64 (a : Nat)))
      (first | exact ⟨hkeep.out.1, hkeep.out.2.1, hkeep.out.2.2.1, hkeep.out.2.2.2, hD2⟩ | go_keep)
      ((go_at_call 30; refine (BG.out W.drew rfl).mono ?_; rintro e w2 ⟨own', rfl, hs2, hg2, ho2⟩; have hgw : GrownIn (fun b_1 => col1 b_1 = .rows a) W w2 := ⟨hg2.os, hg2.tape, hg2.output, hg2.size, hg2.block⟩; have h2 := Bx.out.town.side Bx.out.low Hq.out Hal.out hgw hs2 ho2; have H2 := Lib.hid h2; have hkeep := Lib.hid (town_keep Bx.out.town hgw c0 c1 q2 p1); have hD2 : w2.cell? ⟨D, 1, none⟩ = some (.int .i64 (a : Nat)) := (World.cell?_of_block (w := W) (hgw.block D lD (by rw [Bx.out.cD]; simp))).trans d1; clear h2 hs2 hg2))
  · have hgB : GrownIn (fun b => B ≤ b) W w2 := hgw.wide fun b' e => Bx.out.town.own (by simp) b' e
    have hlD2 : D < w2.heap.size := by have := hgw.size; omega
    go_wp2_with (fail)
    refine (spread_any w2 B T _ _ a ⟨_, _, _, _, _, _, _, _, H2.out⟩ (Nat.le_trans Bx.out.low hgw.size) Hac.out (by show s.coins.length ≤ 8; omega) (Hll.out a)).mono ?_
    rintro e w3 ⟨col3, rfl, h3, hg3⟩
    go_wp2_with (fail)
    go_end0
    rw [Hv.out]
    exact ⟨col3, rfl, h3, (Bx.out.grown.trans hgB fun b' e => .inl e).trans hg3 fun b' e => .inl e⟩
  · have hgB : GrownIn (fun b => B ≤ b) W w2 := hgw.wide fun b' e => Bx.out.town.own (by simp) b' e
    go_wp2_with (fail)
    go_end0
    have e3 : s.sides.set a (sd s a) = s.sides := set_getD _ _ _
    have h3 := H2.out
    rw [e3] at h3
    exact ⟨_, rfl, ⟨_, _, _, _, _, _, _, _, h3⟩, Bx.out.grown.trans hgB fun b' e => .inl e⟩

set_option maxRecDepth 100000 in
set_option maxHeartbeats 1000000 in
theorem do_still (w : World) (B T : Nat) (col : Nat → Col) (s : Tn) (n a : Nat) (kd tt nn : Int) (h : TownAt w B T col s) (hB : B ≤ w.heap.size) (hf : Fine n s) (ha : a < n) (hk : kd ≠ 3) (ht : ¬ (0 ≤ tt ∧ tt < (n : Int)) ∨ tt = (a : Int)) :
    Calls Try.prog 39 #[.pointer (some ⟨T, 0, none⟩), .agg #[.int .i64 kd, .int .i64 a, .int .i64 tt, .int .i64 nn]] w (DoPost w B T s) := by
  obtain ⟨C, cC, curC, S, cS, curS, m, l, h⟩ := h
  have HB := Lib.hid (fun W => boxed (n := n) (d := ⟨kd, a, tt, nn⟩) h hB W)
  have hlc := hf.lc
  have hk1 : (kd == 3) = false := by simpa using hk
  clear h hf hk
  go_enter Try.func39, Try.ntmps39
  go_wp2_with (fail)
  obtain ⟨W, hW⟩ : ∃ W, W = w.alloc (.cells #[.int .i64 kd, .int .i64 a, .int .i64 tt, .int .i64 nn] 64) := ⟨_, rfl⟩
  have bx := HB.out W hW
  rw [← hW]
  generalize w.heap.size = D at bx ⊢
  generalize recol col D .base = col1 at bx
  have c0 := bx.town.blk.cell 0
  have d0 := bx.deed.cell 0
  have d1 := bx.deed.cell 1
  have d2 := bx.deed.cell 2
  simp only [List.getElem?_cons_zero, List.getElem?_cons_succ] at c0 d0 d1 d2
  rw [hlc] at c0
  have lD := bx.deed.lt
  have lT := bx.town.blk.lt
  have Bx := Lib.hid bx
  clear bx HB hW
  refine (there_yes W T C n cC a c0 ha).mono ?_
  rintro e w2 ⟨rfl, rfl⟩
  by_cases ht0 : 0 ≤ tt ∧ tt < (n : Int)
  · have hta : tt = (a : Int) := ht.elim (fun h => absurd ht0 h) id
    subst hta
    clear ht ht0
    go_wp2_with (go_at_call 48; (with_reducible refine (there_yes W T C n cC a c0 ha).mono ?_); rintro e w2 ⟨rfl, rfl⟩)
    go_end0
    exact ⟨_, rfl, ⟨_, _, _, _, _, _, _, _, Bx.out.town⟩, Bx.out.grown⟩
  · have Ht := Lib.hid ht0
    clear ht ht0
    go_wp2_with (go_at_call 48; (with_reducible refine (there_no W T C n cC tt c0 Ht.out).mono ?_); rintro e w2 ⟨rfl, rfl⟩)
    go_end0
    exact ⟨_, rfl, ⟨_, _, _, _, _, _, _, _, Bx.out.town⟩, Bx.out.grown⟩

set_option maxRecDepth 100000 in
set_option maxHeartbeats 1000000 in
theorem do_none (w : World) (B T : Nat) (col : Nat → Col) (s : Tn) (n a b : Nat) (kd nn : Int) (h : TownAt w B T col s) (hB : B ≤ w.heap.size) (hf : Fine n s) (ha : a < n) (hb : b < n) (hab : a ≠ b) (hk : kd ≠ 3 ∧ kd ≠ 1 ∧ kd ≠ 2) :
    Calls Try.prog 39 #[.pointer (some ⟨T, 0, none⟩), .agg #[.int .i64 kd, .int .i64 a, .int .i64 b, .int .i64 nn]] w (DoPost w B T s) := by
  obtain ⟨C, cC, curC, S, cS, curS, m, l, h⟩ := h
  have HB := Lib.hid (fun W => boxed (n := n) (d := ⟨kd, a, b, nn⟩) h hB W)
  have hlc := hf.lc
  have hk1 : (kd == 3) = false := by simpa using hk.1
  have hk2 : (kd == 1) = false := by simpa using hk.2.1
  have hk3 : (kd == 2) = false := by simpa using hk.2.2
  have hba : ((b : Int) == (a : Int)) = false := by simp; omega
  clear h hf hk hab
  go_enter Try.func39, Try.ntmps39
  go_wp2_with (fail)
  obtain ⟨W, hW⟩ : ∃ W, W = w.alloc (.cells #[.int .i64 kd, .int .i64 a, .int .i64 b, .int .i64 nn] 64) := ⟨_, rfl⟩
  have bx := HB.out W hW
  rw [← hW]
  generalize w.heap.size = D at bx ⊢
  generalize recol col D .base = col1 at bx
  have c0 := bx.town.blk.cell 0
  have d0 := bx.deed.cell 0
  have d1 := bx.deed.cell 1
  have d2 := bx.deed.cell 2
  simp only [List.getElem?_cons_zero, List.getElem?_cons_succ] at c0 d0 d1 d2
  rw [hlc] at c0
  have lD := bx.deed.lt
  have lT := bx.town.blk.lt
  have Bx := Lib.hid bx
  clear bx HB hW
  refine (there_yes W T C n cC a c0 ha).mono ?_
  rintro e w2 ⟨rfl, rfl⟩
  go_wp2_with (go_at_call 48; (with_reducible refine (there_yes W T C n cC b c0 hb).mono ?_); rintro e w2 ⟨rfl, rfl⟩)
  go_end0
  exact ⟨_, rfl, ⟨_, _, _, _, _, _, _, _, Bx.out.town.below ((Below.refl _ _).alloc (Nat.le_refl _) _) Bx.out.low⟩, Bx.out.grown.alloc _⟩

set_option maxRecDepth 100000 in
set_option maxHeartbeats 1000000 in
theorem do_come_any (w : World) (B T : Nat) (col : Nat → Col) (s : Tn) (n a b : Nat) (nn : Int) (h : TownAt w B T col s) (hB : B ≤ w.heap.size) (hf : Fine n s) (ha : a < n) (hb : b < n) (hab : a ≠ b) :
    Calls Try.prog 39 #[.pointer (some ⟨T, 0, none⟩), .agg #[.int .i64 2, .int .i64 a, .int .i64 b, .int .i64 nn]] w (DoPost w B T (comeT s a b)) := by
  obtain ⟨C, cC, curC, S, cS, curS, m, l, h⟩ := h
  have HB := Lib.hid (fun W => boxed (n := n) (d := ⟨2, a, b, nn⟩) h hB W)
  have hlc := hf.lc
  have n8 := hf.n8
  have hba : ((b : Int) == (a : Int)) = false := by simp; omega
  have Hf := Lib.hid hf
  have Hab := Lib.hid hab
  clear h hf hab
  go_enter Try.func39, Try.ntmps39
  go_wp2_with (fail)
  obtain ⟨W, hW⟩ : ∃ W, W = w.alloc (.cells #[.int .i64 2, .int .i64 a, .int .i64 b, .int .i64 nn] 64) := ⟨_, rfl⟩
  have bx := HB.out W hW
  rw [← hW]
  generalize w.heap.size = D at bx ⊢
  generalize recol col D .base = col1 at bx
  have c0 := bx.town.blk.cell 0
  have d0 := bx.deed.cell 0
  have d1 := bx.deed.cell 1
  have c2 := bx.town.blk.cell 2
  have d2 := bx.deed.cell 2
  simp only [List.getElem?_cons_zero, List.getElem?_cons_succ] at c0 c2 d0 d1 d2
  rw [hlc] at c0
  have lD := bx.deed.lt
  have lT := bx.town.blk.lt
  have Bx := Lib.hid bx
  clear bx HB hW
  refine (there_yes W T C n cC a c0 ha).mono ?_
  rintro e w2 ⟨rfl, rfl⟩
  go_wp2_with (go_at_call 48; (with_reducible refine (there_yes W T C n cC b c0 hb).mono ?_); rintro e w2 ⟨rfl, rfl⟩)
  obtain ⟨W2, hW2⟩ : ∃ W2, W2 = W.alloc (.cells #[.int .i64 (a : Nat), .int .i64 (b : Nat)] 89) := ⟨_, rfl⟩
  have hY : Blk W2 W.heap.size 89 [.int .i64 (a : Nat), .int .i64 (b : Nat)] := by rw [hW2]; exact Blk.new W _ _
  have hb2 : Below W.heap.size W W2 := by rw [hW2]; exact (Below.refl _ _).alloc (Nat.le_refl _) _
  have ht2 := Bx.out.town.below hb2 Bx.out.low
  have hD2 := Bx.out.deed.below hb2 lD
  have hg2 : GrownIn (fun b => B ≤ b) w W2 := Bx.out.grown.trans (own' := fun b => B ≤ b) (GrownIn.of_below hb2) fun b' e => .inl e
  have lo2 : B ≤ W2.heap.size := Nat.le_trans Bx.out.low hb2.size
  rw [← hW2]
  generalize recol col1 W.heap.size .base = col2 at ht2
  generalize W.heap.size = Y at hY ⊢
  clear hW2 hb2 c0 c2 d0 d1 d2 lD lT Bx
  have c2 := ht2.blk.cell 2
  have d1 := hD2.cell 1
  have d2 := hD2.cell 2
  have y0 := hY.cell 0
  have y1 := hY.cell 1
  simp only [List.getElem?_cons_zero, List.getElem?_cons_succ] at c2 d1 d2 y0 y1
  have lT := ht2.blk.lt
  have lD := hD2.lt
  have lY := hY.lt
  obtain ⟨hseg, hcol⟩ := ht2.ws.at_ a b
  have HLK := Lib.hid (fun W' hW => look_way ht2.mp a b (by omega) (by omega) W' hW)
  cases hch : chan s.ways a b with
  | nil =>
    have e1 : comeT s a b = s := by unfold comeT; rw [hch]
    have He1 := Lib.hid e1
    rw [hch] at hseg
    obtain ⟨A1, n1, e2⟩ : ∃ A1 n1, (mget l (a, b)).getD (.slice none 0 0) = .slice A1 0 n1 := by
      obtain ⟨A1, c1, e1, _⟩ := hseg.form
      exact ⟨A1, c1, e1⟩
    rw [e2] at HLK
    have HT2 := Lib.hid ht2
    clear hch e1 e2 hseg hcol ht2 hD2 hY
    have hlk := HLK.out W2.drew rfl
    go_region_held3 (fun w' => w'.cell? ⟨T, 2, none⟩ = some (.map (some m)) ∧ w'.cell? ⟨Y, 0, none⟩ = some (.int .i64 (a : Nat)) ∧ w'.cell? ⟨Y, 1, none⟩ = some (.int .i64 (b : Nat))) (go_keep) (fail)
    go_wp2_with (fail)
    go_end0
    rw [He1.out]
    exact ⟨_, rfl, ⟨_, _, _, _, _, _, _, _, HT2.out.below ((Below.refl _ _).drew) lo2⟩, hg2.drew⟩
  | cons x r =>
    have e1 : comeT s a b = come1 ⟨s.coins, s.sides, mput s.ways (a, b) r⟩ a b x := by
      unfold comeT
      rw [hch]
      show (if x = -1 then markT s a b r else coinT s a b x r) = _
      unfold come1 markT coinT
      split <;> rfl
    have He1 := Lib.hid e1
    rw [hch] at hseg
    obtain ⟨A1, n1, e2⟩ : ∃ A1 n1, (mget l (a, b)).getD (.slice none 0 0) = .slice A1 (r.length + 1) n1 := by
      obtain ⟨A1, c1, e1, _⟩ := hseg.form
      exact ⟨A1, c1, e1⟩
    rw [e2] at HLK hseg hcol
    have hx := Hf.out.el a b x (by rw [hch]; simp)
    have hrl : r.length ≤ 1000 := by have := Hf.out.ll a b; rw [hch] at this; simp at this; omega
    have Hf3 : Hid (Fine n ⟨s.coins, s.sides, mput s.ways (a, b) r⟩) := by
      have hf := Hf.out
      refine ⟨hf.lc, hf.ls, hf.n8, hf.pe, hf.c0, fun c d => ?_, fun c d y hy => ?_⟩
      · show (chan (mput s.ways (a, b) r) c d).length ≤ 1000
        rw [chan_put]
        split
        · exact hrl
        · exact hf.ll c d
      · have hy2 : y ∈ chan (mput s.ways (a, b) r) c d := hy
        rw [chan_put] at hy2
        split at hy2
        · exact hf.el a b y (by rw [hch]; exact List.mem_cons_of_mem _ hy2)
        · exact hf.el c d y hy2
    obtain ⟨v3, hsl, hseg3, hown3⟩ := hseg.tail (P := Try.prog) 22 Try.underlying22 size_int
    obtain ⟨As, cs, es, q5, q6, hrd⟩ := hseg.reads
    injection es with es1 esl es2
    subst es1 es2
    clear esl q5 q6
    obtain ⟨g, off, u0, eA, q9, hu0, hcell⟩ := hrd.at_ (k := 0) (by simp)
    clear q9
    simp [nums] at hu0
    subst hu0 eA
    have x0 : W2.cell? ⟨g, off, none⟩ = some (.int .i64 x) := hcell
    have lg := lt_of_cell x0
    have HTm := Lib.hid (map_ne ht2.mp hY)
    have HDm := Lib.hid (map_ne ht2.mp hD2)
    have HY := Lib.hid hY
    have HD := Lib.hid hD2
    have HT2 := Lib.hid ht2
    have Hseg3 := Lib.hid hseg3
    have Hcol := Lib.hid hcol
    have Hown3 := Lib.hid hown3
    obtain ⟨A3, c3, e3, q7, q8⟩ := hseg3.form
    subst e3
    have Hx := Lib.hid hx
    clear q7 q8 hx
    clear hch e1 e2 hseg hcol ht2 hD2 hY hseg3 hown3 hrd hcell Hf
    have hlk := HLK.out W2.drew rfl
    go_region_held3 (fun w' => w'.cell? ⟨T, 2, none⟩ = some (.map (some m)) ∧ w'.cell? ⟨Y, 0, none⟩ = some (.int .i64 (a : Nat)) ∧ w'.cell? ⟨Y, 1, none⟩ = some (.int .i64 (b : Nat))) (go_keep) (fail)
    go_wp2_with (fail)
    have hlk2 := HLK.out W2.drew.drew rfl
    go_region_held3 (fun w' => w'.cell? ⟨T, 2, none⟩ = some (.map (some m)) ∧ w'.cell? ⟨Y, 0, none⟩ = some (.int .i64 (a : Nat)) ∧ w'.cell? ⟨Y, 1, none⟩ = some (.int .i64 (b : Nat)) ∧ w'.cell? ⟨g, off, none⟩ = some (.int .i64 x)) (go_keep) (fail)
    go_wp2_with (fail)
    have hlk3 := HLK.out W2.drew.drew.drew rfl
    obtain ⟨w3, hup, hm3, hg3⟩ := put_way (w := W2.drew.drew.drew) (HT2.out.mp.same rfl) a b (by omega) (by omega) (.slice A3 r.length c3)
    have hT3 := (HT2.out.blk.drew.drew.drew.grown hg3 (fun e => HT2.out.Tm (by injection e))).cell 2
    simp only [List.getElem?_cons_zero, List.getElem?_cons_succ] at hT3
    have mY : Y ≠ m := HTm.out
    have Hg3 := Lib.hid hg3
    have yB : Y < W2.heap.size := lY
    have z0 : w3.cell? ⟨Y, 0, none⟩ = some (.int .i64 (a : Nat)) := (HY.out.drew.drew.drew.grown hg3 (fun e => mY (by injection e))).cell 0
    have z1 : w3.cell? ⟨Y, 1, none⟩ = some (.int .i64 (b : Nat)) := (HY.out.drew.drew.drew.grown hg3 (fun e => mY (by injection e))).cell 1
    have zD := HD.out.drew.drew.drew.grown hg3 (fun e => HDm.out (by injection e))
    have z2 : w3.cell? ⟨D, 1, none⟩ = some (.int .i64 (a : Nat)) := zD.cell 1
    have z3 : w3.cell? ⟨D, 2, none⟩ = some (.int .i64 (b : Nat)) := zD.cell 2
    have lD3 := zD.lt
    have hsz : W2.heap.size ≤ w3.heap.size := hg3.size
    obtain ⟨hr1, hr2⟩ := town_row (wr := W2.drew.drew.drew) (w2 := W2.drew.drew.drew) (w3 := w3) (HT2.out.below (((Below.refl _ _).drew).drew).drew lo2) lo2 (k := (a, b)) (v := .slice (some ⟨g, off, none⟩) (r.length + 1) n1) (c := r)
      (fun b' e => by have e2 := Hcol.out b' e; rw [recol_old]; exact e2; simp [Value.ownBlock] at e; omega) (World.grownBy.refl _ _) (Hseg3.out.keep fun _ _ => rfl) (fun b' e => .inl (by rw [← Hown3.out]; exact e)) hm3 hg3
    have Hr1 := Lib.hid hr1
    have CM := Lib.hid (come_any w3 B T _ ⟨s.coins, s.sides, mput s.ways (a, b) r⟩ n a b x ⟨_, _, _, _, _, _, _, _, hr1⟩ (Nat.le_trans lo2 hsz) Hf3.out ha hb Hab.out Hx.out)
    clear hr1 zD mY hg3
    go_region_held3 (fun w' => w'.cell? ⟨T, 2, none⟩ = some (.map (some m)) ∧ w'.cell? ⟨Y, 0, none⟩ = some (.int .i64 (a : Nat)) ∧ w'.cell? ⟨Y, 1, none⟩ = some (.int .i64 (b : Nat))) (first | exact ⟨hT3, z0, z1⟩ | go_keep) (fail)
    go_wp2_with (fail)
    refine CM.out.mono ?_
    rintro e w4 ⟨col4, rfl, h4, hg4⟩
    go_wp2_with (fail)
    go_end0
    rw [He1.out]
    exact ⟨col4, rfl, h4, (hg2.trans (own' := fun b => B ≤ b) ⟨hr2.os, hr2.tape, hr2.output, hr2.size, hr2.block⟩ fun b' e => .inl e).trans hg4 fun b' e => .inl e⟩

set_option maxRecDepth 100000 in
set_option maxHeartbeats 2000000 in
theorem do_pay_any (w : World) (B T : Nat) (col : Nat → Col) (s : Tn) (n a b : Nat) (nn : Int) (h : TownAt w B T col s) (hB : B ≤ w.heap.size) (hf : Fine n s) (ha : a < n) (hb : b < n) (hab : a ≠ b) (hnn : nn ≤ 1000000000000 ∧ -1000000000000 ≤ nn) :
    Calls Try.prog 39 #[.pointer (some ⟨T, 0, none⟩), .agg #[.int .i64 1, .int .i64 a, .int .i64 b, .int .i64 nn]] w (DoPost w B T (payT s a b nn)) := by
  obtain ⟨C, cC, curC, S, cS, curS, m, l, h⟩ := h
  have HB := Lib.hid (fun W => boxed (n := n) (d := ⟨1, a, b, nn⟩) h hB W)
  have hlc := hf.lc
  have n8 := hf.n8
  have hba : ((b : Int) == (a : Int)) = false := by simp; omega
  have Hf := Lib.hid hf
  have Hab := Lib.hid hab
  have Hac := Lib.hid (show a < s.coins.length by omega)
  obtain ⟨nn1, nn2⟩ := hnn
  have a0 : (0 : Int) ≤ (a : Int) := by omega
  have a1 : (a : Int) < (n : Int) := by omega
  clear h hf hab
  go_enter Try.func39, Try.ntmps39
  go_wp2_with (fail)
  obtain ⟨W, hW⟩ : ∃ W, W = w.alloc (.cells #[.int .i64 1, .int .i64 a, .int .i64 b, .int .i64 nn] 64) := ⟨_, rfl⟩
  have bx := HB.out W hW
  rw [← hW]
  generalize w.heap.size = D at bx ⊢
  generalize recol col D .base = col1 at bx
  have c0 := bx.town.blk.cell 0
  have d0 := bx.deed.cell 0
  have d1 := bx.deed.cell 1
  have c2 := bx.town.blk.cell 2
  have d2 := bx.deed.cell 2
  simp only [List.getElem?_cons_zero, List.getElem?_cons_succ] at c0 c2 d0 d1 d2
  rw [hlc] at c0
  have lD := bx.deed.lt
  have lT := bx.town.blk.lt
  have Bx := Lib.hid bx
  clear bx HB hW
  refine (there_yes W T C n cC a c0 ha).mono ?_
  rintro e w2 ⟨rfl, rfl⟩
  go_wp2_with (go_at_call 48; (with_reducible refine (there_yes W T C n cC b c0 hb).mono ?_); rintro e w2 ⟨rfl, rfl⟩)
  obtain ⟨W2, hW2⟩ : ∃ W2, W2 = W.alloc (.cells #[.int .i64 (a : Nat), .int .i64 (b : Nat)] 89) := ⟨_, rfl⟩
  have hY : Blk W2 W.heap.size 89 [.int .i64 (a : Nat), .int .i64 (b : Nat)] := by rw [hW2]; exact Blk.new W _ _
  have hb2 : Below W.heap.size W W2 := by rw [hW2]; exact (Below.refl _ _).alloc (Nat.le_refl _) _
  have ht2 := Bx.out.town.below hb2 Bx.out.low
  have hD2 := Bx.out.deed.below hb2 lD
  have hg2 : GrownIn (fun b => B ≤ b) w W2 := Bx.out.grown.trans (own' := fun b => B ≤ b) (GrownIn.of_below hb2) fun b' e => .inl e
  have lo2 : B ≤ W2.heap.size := Nat.le_trans Bx.out.low hb2.size
  rw [← hW2]
  generalize recol col1 W.heap.size .base = col2 at ht2
  generalize W.heap.size = Y at hY ⊢
  clear hW2 hb2 c0 c2 d0 d1 d2 lD lT Bx
  have c2 := ht2.blk.cell 2
  have d1 := hD2.cell 1
  have d2 := hD2.cell 2
  have d3 := hD2.cell 3
  have c0 := ht2.blk.cell 0
  have y0 := hY.cell 0
  have y1 := hY.cell 1
  simp only [List.getElem?_cons_zero, List.getElem?_cons_succ] at c0 c2 d1 d2 d3 y0 y1
  rw [hlc] at c0
  have lT := ht2.blk.lt
  have lD := hD2.lt
  have lY := hY.lt
  obtain ⟨hseg, hcol⟩ := ht2.ws.at_ a b
  have HLK := Lib.hid (fun W' hW => look_way ht2.mp a b (by omega) (by omega) W' hW)
  have p1 := coin_cell ht2 Hac.out
  have hv := Hf.out.c0 a
  have hcl := Hf.out.ll a b
  have HP : Hid (payT s a b nn = if 1 ≤ nn ∧ nn ≤ co s a ∧ (chan s.ways a b).length < 200 then ⟨s.coins.set a (co s a - nn), s.sides, push s.ways a b nn⟩ else s) := rfl
  generalize hvv : co s a = v at p1 hv HP
  obtain ⟨A1, n1, e2⟩ : ∃ A1 n1, (mget l (a, b)).getD (.slice none 0 0) = .slice A1 (chan s.ways a b).length n1 := by
    obtain ⟨A1, c1, e1, _⟩ := hseg.form
    exact ⟨A1, c1, e1⟩
  rw [e2] at HLK hseg hcol
  generalize hL : (chan s.ways a b).length = L at HLK hseg hcol HP hcl
  have lC := ht2.hC.lt
  have fC := ht2.hC.frozen a
  have HTm := Lib.hid (map_ne ht2.mp hY)
  have HDm := Lib.hid (map_ne ht2.mp hD2)
  have HY := Lib.hid hY
  have HD := Lib.hid hD2
  have HT2 := Lib.hid ht2
  have Hseg := Lib.hid hseg
  have Hcol := Lib.hid hcol
  have HL := Lib.hid hL
  have Hvv := Lib.hid hvv
  have E22 := Lib.hid e2
  obtain ⟨hv0, hv1⟩ := hv
  clear e2 hseg hcol ht2 hD2 hY hL hvv
  have hlk := HLK.out W2.drew rfl
  have hlk0 := HLK.out W2 rfl
  have hlkN := fun k => HLK.out (W2.drewN k) rfl
  have fin : payT s a b nn = s → ∀ k e, e = Ending.returned (.tuple #[]) → DoPost w B T (payT s a b nn) e (W2.drewN k) := fun hs k e he => by
    rw [hs]
    exact ⟨_, he, ⟨_, _, _, _, _, _, _, _, HT2.out.below ⟨rfl, rfl, rfl, Nat.le_refl _, fun _ _ => rfl⟩ lo2⟩, hg2.os, hg2.tape, hg2.output, hg2.size, hg2.block⟩
  have Fin := Lib.hid fin
  clear fin
  by_cases k1 : 1 ≤ nn
  · by_cases k2 : nn ≤ v
    · by_cases k3 : L < 200
      · have e3 : payT s a b nn = ⟨s.coins.set a (v - nn), s.sides, push s.ways a b nn⟩ := by rw [HP.out, if_pos ⟨k1, k2, k3⟩]
        have He3 := Lib.hid e3
        have f1 : decide (1 ≤ nn) = true := by simpa using k1
        have f2 : decide (nn ≤ v) = true := by simpa using k2
        have f3 : decide ((L : Int) < 200) = true := by simp; omega
        clear e3 HP
        go_quiet (fail)
        go_wp2_with (fail)
        obtain ⟨W3, hW3⟩ : ∃ W3, W3 = W2.drewN nq := ⟨_, rfl⟩
        have hh : W3.heap = W2.heap := by rw [hW3]; rfl
        have hbl : Below W2.heap.size W2 W3 := by rw [hW3]; exact ⟨rfl, rfl, rfl, Nat.le_refl _, fun _ _ => rfl⟩
        have ht3 := HT2.out.below hbl lo2
        have hD3 : Blk W3 D 64 [.int .i64 1, .int .i64 a, .int .i64 b, .int .i64 nn] := HD.out.of_heap hh
        have hY3 : Blk W3 Y 89 [.int .i64 (a : Nat), .int .i64 (b : Nat)] := HY.out.of_heap hh
        have hseg3 := Hseg.out.keep (w' := W3) fun b' _ => by rw [hh]
        have hg3 : GrownIn (fun b => B ≤ b) w W3 := hg2.trans (own' := fun b => B ≤ b) (GrownIn.of_below hbl) fun b' e => .inl e
        have lo3 : B ≤ W3.heap.size := by rw [hh]; exact lo2
        have hcol3 : ∀ g, (Value.slice A1 L n1).ownBlock = some g → recol col2 W2.heap.size .base g = .way (a, b) := fun g e => by rw [recol_old (Hseg.out.lt g e)]; exact Hcol.out g e
        have hlk3 := fun W' hW => look_way ht3.mp a b (by omega) (by omega) W' hW
        have e22 : (mget l (a, b)).getD (.slice none 0 0) = .slice A1 L n1 := by rw [← HL.out]; exact E22.out
        rw [e22] at hlk3
        have HLK3 := Lib.hid hlk3
        generalize recol col2 W2.heap.size .base = col3 at ht3 hcol3
        rw [← hW3]
        clear hW3 hlk hlk0 hlkN hh hbl HT2 HD HY Hseg Hcol hg2 lo2 HLK hlk3 c0 c2 d1 d2 d3 y0 y1 p1 lT lD lY lC fC e22
        have c0 := ht3.blk.cell 0
        have c2 := ht3.blk.cell 2
        have d1 := hD3.cell 1
        have d3 := hD3.cell 3
        simp only [List.getElem?_cons_zero, List.getElem?_cons_succ] at c0 c2 d1 d3
        rw [hlc] at c0
        have p1 := coin_cell ht3 Hac.out
        rw [Hvv.out] at p1
        have fC := ht3.hC.frozen a
        have lT := ht3.blk.lt
        have lD := hD3.lt
        have lC := ht3.hC.lt
        have HT3 := Lib.hid ht3
        have HD3 := Lib.hid hD3
        have HY3 := Lib.hid hY3
        have HS3 := Lib.hid hseg3
        have HC3 := Lib.hid hcol3
        clear ht3 hD3 hY3 hseg3 hcol3
        have hw : IntKind.i64.wrap (v - nn) = v - nn := IntWalk.i64_in _ (by omega)
        go_still_tail 12, (by kernel_rfl)
        change wpList _ _ _ _ _ (World.drew W3)
        go_wp2_with (fail)
        obtain ⟨W4, hW4⟩ : ∃ W4, W4 = (W3.setCell ⟨C, a, none⟩ (.int .i64 (v - nn))).drew := ⟨_, rfl⟩
        have ht4 : TownW W4 B T (recol col3 W3.heap.size .base) ⟨s.coins.set a (v - nn), s.sides, s.ways⟩ C cC (curC.set a (.int .i64 (v - nn))) S cS curS m l := by
          have h1 := (HT3.out.coin Hac.out (v - nn)).below (w' := W4) (by rw [hW4]; exact ⟨rfl, rfl, rfl, Nat.le_refl _, fun _ _ => rfl⟩) (by simpa [World.setCell] using lo3)
          simpa [World.setCell] using h1
        have nDC : D ≠ C := HD3.out.ne_ HT3.out.hC (by decide)
        have nYC : Y ≠ C := HY3.out.ne_ HT3.out.hC (by decide)
        have hD4 : Blk W4 D 64 [.int .i64 1, .int .i64 a, .int .i64 b, .int .i64 nn] := by rw [hW4]; exact HD3.out.far nDC _
        have hY4 : Blk W4 Y 89 [.int .i64 (a : Nat), .int .i64 (b : Nat)] := by rw [hW4]; exact HY3.out.far nYC _
        have hs4 : W4.heap.size = W3.heap.size := by rw [hW4]; simp [World.setCell]
        have nVC : (Value.slice A1 L n1).ownBlock ≠ some C := fun e => by have := HC3.out C e; rw [HT3.out.cC] at this; cases this
        have hseg4 := HS3.out.keep (w' := W4) fun b' e => by
          rw [hW4]
          exact Below.heap_setCell W3 ⟨C, a, none⟩ _ b' (by rintro rfl; exact nVC e)
        have hg4 : GrownIn (fun b => B ≤ b) w W4 := by
          rw [hW4]
          exact (hg3.set (p := ⟨C, a, none⟩) (HT3.out.own (c := .coins) (by simp) C HT3.out.cC) _).drew
        have lo4 : B ≤ W4.heap.size := by rw [hs4]; exact lo3
        have hcol4 : ∀ g, (Value.slice A1 L n1).ownBlock = some g → recol col3 W3.heap.size .base g = .way (a, b) := fun g e => by rw [recol_old (HS3.out.lt g e)]; exact HC3.out g e
        generalize recol col3 W3.heap.size .base = col4 at ht4 hcol4
        rw [← hW4]
        clear hW4 hs4 nVC nDC nYC HT3 HD3 HY3 HS3 HC3 hg3 lo3 HLK3 c0 c2 d1 d3 p1 lT lD lC fC hw
        have c2 := ht4.blk.cell 2
        have d3 := hD4.cell 3
        have y0 := hY4.cell 0
        have y1 := hY4.cell 1
        simp only [List.getElem?_cons_zero, List.getElem?_cons_succ] at c2 d3 y0 y1
        have lT := ht4.blk.lt
        have lD := hD4.lt
        have lY := hY4.lt
        have lm := ht4.m_lt
        have nTm := ht4.Tm
        have nDm := map_ne ht4.mp hD4
        have nYm := map_ne ht4.mp hY4
        have nTV := seg_ne hseg4 ht4.blk (by decide)
        have nDV := seg_ne hseg4 hD4 (by decide)
        have nYV := seg_ne hseg4 hY4 (by decide)
        have nmV : (Value.slice A1 L n1).ownBlock ≠ some m := fun e => by have := hcol4 m e; rw [ht4.cm] at this; cases this
        have hsm : ∀ b, some b = some m → b = m := fun b e => by injection e
        have EN := fun (W : World) (hW : W.heap[m]? = W4.heap[m]?) => entry_way (ht4.mp.same hW) a b (by omega) (by omega)
        have e22 : (mget l (a, b)).getD (.slice none 0 0) = .slice A1 L n1 := by rw [← HL.out]; exact E22.out
        rw [e22] at EN
        obtain ⟨k5, w5, hup5, he5, hg5⟩ := EN W4.drew rfl
        obtain ⟨k6, w6, hup6, he6, hg6⟩ := EN ((W4.alloc (.cells #[.int .i64 nn] 3)).drew) (Below.heap_alloc W4 _ _ lm)
        have hg5' : W4.grownBy w5 (some m) := ⟨hg5.os, hg5.tape, hg5.output, hg5.size, hg5.block⟩
        have hg6' : W4.grownBy w6 (some m) := grown_of_allocd hg6
        have HA6 : Blk w6 W4.heap.size 3 [.int .i64 nn] := Blk.grown (by exact Blk.new W4 3 [.int .i64 nn]) hg6 (fun e => by have := hsm _ e; omega)
        have f5 := four_keep (hg5'.block T lT (fun e => nTm (hsm _ e))) (hg5'.block Y lY (fun e => nYm (hsm _ e))) (hg5'.block D lD (fun e => nDm (hsm _ e))) c2 y0 y1 d3
        have f6 := four_keep (hg6'.block T lT (fun e => nTm (hsm _ e))) (hg6'.block Y lY (fun e => nYm (hsm _ e))) (hg6'.block D lD (fun e => nDm (hsm _ e))) c2 y0 y1 d3
        have s5 := hseg4.keep (w' := w5) fun b' e => hg5'.block b' (hseg4.lt b' e) (fun e2 => nmV (by rw [e]; exact e2))
        have s6 := hseg4.keep (w' := w6) fun b' e => hg6'.block b' (hseg4.lt b' e) (fun e2 => nmV (by rw [e]; exact e2))
        have z5 : W4.heap.size ≤ w5.heap.size := hg5'.size
        have z6 : W4.heap.size < w6.heap.size := HA6.lt
        have HS5 := Lib.hid s5
        have HS6 := Lib.hid s6
        have HA6' := Lib.hid HA6
        have HT4 := Lib.hid ht4
        have HE5 := Lib.hid he5
        have HE6 := Lib.hid he6
        have HC4 := Lib.hid hcol4
        have HN := Lib.hid (show T ≠ m ∧ Y ≠ m ∧ D ≠ m from ⟨nTm, nYm, nDm⟩)
        have HV := Lib.hid (show (Value.slice A1 L n1).ownBlock ≠ some T ∧ (Value.slice A1 L n1).ownBlock ≠ some Y ∧ (Value.slice A1 L n1).ownBlock ≠ some D ∧ (Value.slice A1 L n1).ownBlock ≠ some m from ⟨nTV, nYV, nDV, nmV⟩)
        have Hf5 := Lib.hid f5
        have Hf6 := Lib.hid f6
        have Hg5 := Lib.hid hg5'
        have Hg6 := Lib.hid hg6'
        have hsm' := Lib.hid hsm
        obtain ⟨f50, f51, f52, f53⟩ := f5
        obtain ⟨f60, f61, f62, f63⟩ := f6
        have Hk3 := Lib.hid k3
        have lT5 : T < w5.heap.size := by omega
        have lY5 : Y < w5.heap.size := by omega
        have lD5 : D < w5.heap.size := by omega
        have hcl' : (chan s.ways a b ++ [nn]).length = L + 1 := by rw [List.length_append, HL.out]; rfl
        have Hcl := Lib.hid hcl'
        clear EN e22 s5 s6 HA6 ht4 hseg4 hcol4 hY4 hD4 he5 he6 hg5 hg6 hg5' hg6' nTm nDm nYm nTV nDV nYV nmV hsm hcl' k1 k2 k3
        go_region_held3 (fun w' => w'.cell? ⟨T, 2, none⟩ = some (.map (some m)) ∧ w'.cell? ⟨Y, 0, none⟩ = some (.int .i64 (a : Nat)) ∧ w'.cell? ⟨Y, 1, none⟩ = some (.int .i64 (b : Nat)) ∧ w'.cell? ⟨D, 3, none⟩ = some (.int .i64 nn))
          (first | exact f8.out | exact f7.out | exact Hf5.out | exact Hf6.out | go_keep)
          (first
            | (refine step_app_seg _ rfl (.tmp 100) (.tmp 103) (by rfl) (v := .slice A1 L n1) (n := L) (xs := nums (chan s.ways a b)) (A := some ⟨W4.heap.size, 0, none⟩) (m := 1) (news := [.int .i64 nn]) (c := 1) (D := Any) HS6.out rfl ⟨rfl, fun _ => ⟨W4.heap.size, 0, rfl, trivial, fun j u hu => by rw [HA6'.out.cell]; simpa using hu⟩⟩ rfl (by simp [Value.oneCell']) (by omega) (by omega) ?_; intro v2 w7 hseg7 hg7 hat7; have hg7' : w6.grownBy w7 (Value.slice A1 L n1).ownBlock := hg7; have f7 := Lib.hid (four_keep (hg7'.block T (by omega) (fun e => HV.out.1 e.symm)) (hg7'.block Y (by omega) (fun e => HV.out.2.1 e.symm)) (hg7'.block D (by omega) (fun e => HV.out.2.2.1 e.symm)) f60 f61 f62 f63); have he7 := HE6.out.same (hg7'.block m (by omega) (fun e => HV.out.2.2.2 e.symm)); obtain ⟨w8, hst, hm8, hg8⟩ := he7.store (t := 110) enc_ways v2; rw [put_put] at hm8; have hat7' := Lib.hid (show ∀ b, v2.ownBlock = some b → (Value.slice A1 L n1).ownBlock = some b ∨ W4.heap.size ≤ b from fun b hb => (hat7 b hb).imp id fun e => by omega); have f8 := Lib.hid (four_keep (hg8.block T (by have := hg7'.size; omega) (fun e => HN.out.1 (hsm'.out _ e))) (hg8.block Y (by have := hg7'.size; omega) (fun e => HN.out.2.1 (hsm'.out _ e))) (hg8.block D (by have := hg7'.size; omega) (fun e => HN.out.2.2 (hsm'.out _ e))) f7.out.1 f7.out.2.1 f7.out.2.2.1 f7.out.2.2.2); have hfin := Lib.hid (entry_row HT4.out lo4 (c := chan s.ways a b ++ [nn]) HC4.out Hg6.out hg7' (by rw [Hcl.out, nums_append]; exact hseg7) hat7'.out hm8 hg8); clear hg7 hat7 he7 hm8 hg8 hseg7)
            | (refine step_app_seg _ rfl (.tmp 100) (.tmp 103) (by rfl) (v := .slice A1 L n1) (n := L) (xs := nums (chan s.ways a b)) (A := some ⟨w5.heap.size, 0, none⟩) (m := 1) (news := [.int .i64 nn]) (c := 1) (D := Any) (by exact Seg.alloc HS5.out (.cells #[.int .i64 nn] 3)) rfl (by exact Reads.new (D := Any) w5 [.int .i64 nn] 1 1 3 trivial rfl) rfl (by simp [Value.oneCell']) (by omega) (by omega) ?_; intro v2 w7 hseg7 hg7 hat7; have hg7' : w5.grownBy w7 (Value.slice A1 L n1).ownBlock := grown_of_alloc hg7; have f7 := Lib.hid (four_keep (hg7'.block T (by omega) (fun e => HV.out.1 e.symm)) (hg7'.block Y (by omega) (fun e => HV.out.2.1 e.symm)) (hg7'.block D (by omega) (fun e => HV.out.2.2.1 e.symm)) f50 f51 f52 f53); have he7 := HE5.out.same (hg7'.block m (by omega) (fun e => HV.out.2.2.2 e.symm)); obtain ⟨w8, hst, hm8, hg8⟩ := he7.store (t := 110) enc_ways v2; rw [put_put] at hm8; have hat7' := Lib.hid (show ∀ b, v2.ownBlock = some b → (Value.slice A1 L n1).ownBlock = some b ∨ W4.heap.size ≤ b from fun b hb => (hat7 b hb).imp id fun e => by simp at e; omega); have f8 := Lib.hid (four_keep (hg8.block T (by have := hg7'.size; omega) (fun e => HN.out.1 (hsm'.out _ e))) (hg8.block Y (by have := hg7'.size; omega) (fun e => HN.out.2.1 (hsm'.out _ e))) (hg8.block D (by have := hg7'.size; omega) (fun e => HN.out.2.2 (hsm'.out _ e))) f7.out.1 f7.out.2.1 f7.out.2.2.1 f7.out.2.2.2); have hfin := Lib.hid (entry_row HT4.out lo4 (c := chan s.ways a b ++ [nn]) HC4.out Hg5.out hg7' (by rw [Hcl.out, nums_append]; exact hseg7) hat7'.out hm8 hg8); clear hg7 hat7 he7 hm8 hg8 hseg7))
        all_goals
          go_wp2_with (fail)
          go_end0
          rw [He3.out]
          exact ⟨_, rfl, ⟨_, _, _, _, _, _, _, _, hfin.out.1⟩, hg4.trans hfin.out.2 fun b' e => .inl e⟩
      · have e3 : payT s a b nn = s := by rw [HP.out, if_neg (fun h => k3 h.2.2)]
        have He3 := Lib.hid e3
        have f1 : decide (1 ≤ nn) = true := by simpa using k1
        have f2 : decide (nn ≤ v) = true := by simpa using k2
        have f3 : decide ((L : Int) < 200) = false := by simp; omega
        clear e3 k1 k2 k3 HP
        go_quiet (fail)
        go_wp2_with (fail)
        go_end0
        exact Fin.out He3.out _ _ rfl
    · have e3 : payT s a b nn = s := by rw [HP.out, if_neg (fun h => k2 h.2.1)]
      have He3 := Lib.hid e3
      have f1 : decide (1 ≤ nn) = true := by simpa using k1
      have f2 : decide (nn ≤ v) = false := by simpa using k2
      clear e3 k1 k2 HP
      go_quiet (fail)
      go_wp2_with (fail)
      go_end0
      exact Fin.out He3.out _ _ rfl
  · have e3 : payT s a b nn = s := by rw [HP.out, if_neg (fun h => k1 h.1)]
    have He3 := Lib.hid e3
    have f1 : decide (1 ≤ nn) = false := by simpa using k1
    clear e3 k1 HP
    go_quiet (fail)
    go_wp2_with (fail)
    go_end0
    exact Fin.out He3.out _ _ rfl

theorem do_any (w : World) (B T : Nat) (col : Nat → Col) (s : Tn) (n : Nat) (d : Dd) (h : TownAt w B T col s) (hB : B ≤ w.heap.size) (hf : Fine n s) (hd : d.n ≤ 1000000000000 ∧ -1000000000000 ≤ d.n) :
    Calls Try.prog 39 #[.pointer (some ⟨T, 0, none⟩), deedV d] w (DoPost w B T (doF s d)) := by
  unfold doF
  rw [hf.lc]
  by_cases h0 : 0 ≤ d.from_ ∧ d.from_ < (n : Int)
  · rw [if_pos h0]
    obtain ⟨kd, fr, tt, nn⟩ := d
    simp only [deedV] at h0 hd ⊢
    obtain ⟨a, rfl⟩ : ∃ a : Nat, fr = (a : Int) := ⟨fr.toNat, by omega⟩
    have ha : a < n := by omega
    simp only [Int.toNat_natCast]
    by_cases h3 : kd = 3
    · subst h3
      rw [if_pos rfl]
      exact do_begin w B T col s n a tt nn h hB hf ha
    · rw [if_neg h3]
      by_cases ht : (0 ≤ tt ∧ tt < (n : Int)) ∧ tt ≠ (a : Int)
      · rw [if_pos ht]
        obtain ⟨b, rfl⟩ : ∃ b : Nat, tt = (b : Int) := ⟨tt.toNat, by omega⟩
        have hb : b < n := by omega
        have hab : a ≠ b := by omega
        simp only [Int.toNat_natCast]
        by_cases h1 : kd = 1
        · subst h1
          rw [if_pos rfl]
          exact do_pay_any w B T col s n a b nn h hB hf ha hb hab hd
        · rw [if_neg h1]
          by_cases h2 : kd = 2
          · subst h2
            rw [if_pos rfl]
            exact do_come_any w B T col s n a b nn h hB hf ha hb hab
          · rw [if_neg h2]
            exact do_none w B T col s n a b kd nn h hB hf ha hb hab ⟨h3, h1, h2⟩
      · rw [if_neg ht]
        exact do_still w B T col s n a kd tt nn h hB hf ha h3 (by omega)
  · rw [if_neg h0]
    exact do_out w B T col s n d h hB hf h0
end Go.Proofs.Ytpnhmplinkakbaa
