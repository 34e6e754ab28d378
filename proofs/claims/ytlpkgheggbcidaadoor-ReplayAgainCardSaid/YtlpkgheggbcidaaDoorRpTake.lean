/- Contract of package replay's Take. -/
import Derived.Test.YtlpkgheggbcidaaDoorRpCho
set_option linter.unusedVariables false
namespace Go.Mem
open Go.RowKit
theorem setCell_comm (w : World) {p q : Addr} (u v : Value) (h : p.block ≠ q.block) : (w.setCell p u).setCell q v = (w.setCell q v).setCell p u := by
  have e : ∀ (f g : Obj → Obj), ((w.heap.modify p.block f).modify q.block g) = ((w.heap.modify q.block g).modify p.block f) := fun f g => by
    apply Array.ext_getElem?
    intro i
    simp only [Array.getElem?_modify]
    by_cases h1 : p.block = i
    · have h2 : ¬ q.block = i := fun e => h (h1.trans e.symm)
      simp [h1, h2]
    · simp [h1]
  unfold World.setCell
  simp only [e]
theorem setCells_comm {p : Addr} {g : Nat} (u : Value) (h : p.block ≠ g) : ∀ (vs : List Value) (o : Nat) (w : World), (w.setCell p u).setCells g o vs = (w.setCells g o vs).setCell p u
  | [], o, w => rfl
  | v :: r, o, w => by
    show ((w.setCell p u).setCell ⟨g, o, none⟩ v).setCells g (o + 1) r = ((w.setCell ⟨g, o, none⟩ v).setCells g (o + 1) r).setCell p u
    rw [setCell_comm w u v (by exact h), setCells_comm u h r]
/-- where all numbers below m have come up, S is asked no more -/
theorem wpAnyG_of_any {P : Program} {ops : Array Oper} {Q : Exit → Act → World → Prop} {md : Region.Mode} {S : World → Prop} {m : Nat} : ∀ (fuel : Nat) (listed : Array Bool) (a : Act) (w : World), (∀ j, j < m → listed.getD j true = true) → wpAny P md ops Q fuel listed a w → wpAnyG P md ops Q S m fuel listed a w
  | 0, _, _, _, _, h => h
  | fuel + 1, listed, a, w, hl, h => by
    refine ⟨h.1, fun i hi => wpOp_mono (fun a' w' h' => ?_) (h.2 i hi)⟩
    refine ⟨fun him => ?_, wpAnyG_of_any fuel _ a' w' (fun j hj => ?_) h'⟩
    · have h1 := (mem_ready.1 hi).1
      rw [hl i him] at h1
      cases h1
    · by_cases e : i = j
      · subst e
        rcases Nat.lt_or_ge i listed.size with h0 | h0
        · simp [h0]
        · rw [Array.setIfInBounds_eq_of_size_le h0]
          exact hl i hj
      · rw [getD_set_ne true e]
        exact hl j hj
/-- the last element of a part of a row is set -/
theorem Seg.setLast {w : World} {e : TypeId} {size n g off c : Nat} {xs ys zs : List Value} (h : Seg w e size (.slice (some ⟨g, off, none⟩) (n + 1) c) (n + 1) (xs ++ ys)) (hx : xs.length = n * size) (hz : zs.length = size) : Seg (w.setCells g (off + n * size) zs) e size (.slice (some ⟨g, off, none⟩) (n + 1) c) (n + 1) (xs ++ zs) := by
  have hl := h.1
  rw [List.length_append, hx, Nat.add_mul, Nat.one_mul] at hl
  have hy : ys.length = size := by omega
  refine ⟨by rw [List.length_append, hx, hz, Nat.add_mul, Nat.one_mul], ?_⟩
  rcases h.2 with ⟨h0, _⟩ | ⟨g', off', c', cur, e1, hb, hnc, hcm, hcs, htake⟩
  · cases h0
  injection e1 with e1 _ e3
  injection e1 with e1
  injection e1 with e1 e2
  subst e1 e2 e3
  have hsz : (n + 1) * size ≤ c * size := Nat.mul_le_mul_right _ hnc
  rw [Nat.add_mul, Nat.one_mul] at hsz
  refine .inr ⟨g, off, c, _, rfl, hb.puts zs _, hnc, hcm, by rw [sets_len]; exact hcs, ?_⟩
  apply List.ext_getElem?
  intro j
  rw [List.getElem?_take, Nat.add_mul, Nat.one_mul]
  split
  · rename_i hj
    rw [List.getElem?_drop, sets_at _ _ _ (by rw [hz]; omega)]
    by_cases h1 : j < n * size
    · rw [if_neg (by omega), List.getElem?_append_left (by omega)]
      have : ((cur.drop off).take ((n + 1) * size))[j]? = (xs ++ ys)[j]? := by rw [htake]
      rw [List.getElem?_take, if_pos (by rw [Nat.add_mul]; omega), List.getElem?_drop, List.getElem?_append_left (by omega)] at this
      exact this
    · rw [if_pos (by rw [hz]; omega), List.getElem?_append_right (by omega), hx]
      congr 1
      omega
  · rename_i hj
    rw [List.getElem?_eq_none]
    rw [List.length_append, hx, hz]
    omega
end Go.Mem
namespace Go.Proofs.YtlpkgheggbcidaaDoor
open Go.RowKit Go.Mem Go.Rp Go.Maps
theorem ActAt.mono {w : World} {B : Nat} {own own' : Nat → Prop} {S : Nat} {x : Ac} (h : ActAt w B own S x) (k : ∀ b, own b → own' b) : ActAt w B own' S x := by
  obtain ⟨T, bv, h⟩ := h
  exact ⟨T, bv, h.blk, h.box, h.toy, k _ h.oS, k _ h.oT, fun b hb => k _ (h.ob b hb)⟩
theorem WdW.heapEq {w w' : World} {B T : Nat} {col : Nat → Cl} {s : Wd} {A : Option Addr} {c : Nat} {av : Value} {ps : List Value} {M : Nat} {l : List ((Nat × Nat) × Value)} {sv : Value} (h : WdW w B T col s A c av ps M l sv) (e : w'.heap = w.heap) : WdW w' B T col s A c av ps M l sv :=
  h.keep (by rw [e]; exact Nat.le_refl _) (fun b _ _ => by rw [e]) (fun b _ _ => ⟨by rw [e], rfl⟩) h.low
theorem Stp.drewN {col col' : Nat → Cl} {w w' : World} (h : Stp col col' w w') (n : Nat) : Stp col col' w (w'.drewN n) := ⟨⟨h.g.os, h.g.tape, h.g.output, h.g.size, h.g.block⟩, h.c⟩
theorem ActW.heapEq {w w' : World} {B : Nat} {own : Nat → Prop} {S T : Nat} {bv : Value} {x : Ac} (h : ActW w B own S T bv x) (e : w'.heap = w.heap) : ActW w' B own S T bv x :=
  ⟨h.blk.of_heap e, h.box.keep fun b _ => by rw [e], h.toy.keep (fun b _ _ => by rw [e]) (by rw [e]), h.oS, h.oT, h.ob⟩
/-- the pointer to actor i -/
theorem WdW.ptr {w : World} {B T : Nat} {col : Nat → Cl} {s : Wd} {A : Option Addr} {c : Nat} {AA : Option Addr} {ac : Nat} {ps : List Value} {M : Nat} {l : List ((Nat × Nat) × Value)} {sv : Value} (h : WdW w B T col s A c (.slice AA s.acs.length ac) ps M l sv) {i : Nat} {a : Ac} (ha : s.acs[i]? = some a) :
    ∃ b off S Y bv, AA = some ⟨b, off, none⟩ ∧ w.cell? ⟨b, off + i, none⟩ = some (.pointer (some ⟨S, 0, none⟩)) ∧ ps[i]? = some (.pointer (some ⟨S, 0, none⟩)) ∧ ActW w B (fun b => col b = .act i) S Y bv a := by
  have hl := (List.getElem?_eq_some_iff.1 ha).1
  obtain ⟨S, hp, Y, bv, hA⟩ := h.acts.2 i a ha
  have sg := h.rw_
  rcases id sg.2 with ⟨_, h0⟩ | ⟨g, off, c', cur, e1, _⟩
  · omega
  · injection e1 with e1 _ e3
    subst e1 e3
    exact ⟨g, off, S, Y, bv, rfl, sg.cells i _ hp, hp, hA⟩
set_option maxRecDepth 100000 in
set_option maxHeartbeats 4000000 in
theorem take_no (w : World) (B T : Nat) (col : Nat → Cl) (s : Wd) {A : Option Addr} {c : Nat} {av : Value} {ps : List Value} {M : Nat} {l : List ((Nat × Nat) × Value)} {sv : Value} (h : WdW w B T col s A c av ps M l sv) {n : Nat} (hI : Inv s n) (hn : n ≤ 300000) (x : Ch) (hx : x ∉ choicesF s) :
    Calls Tryd.prog 18 #[.pointer (some ⟨T, 0, none⟩), .agg #[.int .i64 x.k, .int .i64 x.a, .int .i64 x.b]] w (WPost w B T col (s) (.int .i64 4)) := by
  obtain ⟨w1, hw1⟩ : ∃ w1, w1 = w.alloc (.cells #[.int .i64 x.k, .int .i64 x.a, .int .i64 x.b] 36) := ⟨_, rfl⟩
  obtain ⟨X, hX⟩ : ∃ X, X = w.heap.size := ⟨_, rfl⟩
  obtain ⟨wd, hwd⟩ : ∃ wd, wd = w1.drew := ⟨_, rfl⟩
  have b1 : Below w.heap.size w w1 := by rw [hw1]; exact (Below.refl _ _).alloc (Nat.le_refl _) _
  have bd : Below w.heap.size w wd := by rw [hwd]; exact b1.drew
  have fX : Blk w1 X 36 [.int .i64 x.k, .int .i64 x.a, .int .i64 x.b] := by rw [hw1, hX]; exact Blk.new w _ _
  have fXd : Blk wd X 36 [.int .i64 x.k, .int .i64 x.a, .int .i64 x.b] := by rw [hwd]; exact fX.drew
  have hd := h.below bd .base
  have CHO := Lib.hid (choices_any wd B T _ s hd hI.acs (fun k => Nat.le_trans (hI.ways k) (by omega)) (fun i a ha => Nat.le_trans (hI.box i a ha) (by omega)))
  have x0 := fXd.cell 0
  have x1 := fXd.cell 1
  have x2 := fXd.cell 2
  simp only [List.getElem?_cons_succ, List.getElem?_cons_zero] at x0 x1 x2
  have lX := fXd.lt
  have HW1 := Lib.hid hw1
  have HWD := Lib.hid hwd
  have HX := Lib.hid hX
  have H := Lib.hid (And.intro h (And.intro bd fXd))
  have HI := Lib.hid (And.intro hI hn)
  clear hw1 hwd hX b1 bd fX fXd hd h hI hn
  go_enter Tryd.func18, Tryd.ntmps18
  go_wp2_with (fail)
  rw [← HW1.out, ← HX.out]
  refine wp_region_g (S := fun W => W.cell? ⟨X, 0, none⟩ = some (.int .i64 x.k) ∧ W.cell? ⟨X, 1, none⟩ = some (.int .i64 x.a) ∧ W.cell? ⟨X, 2, none⟩ = some (.int .i64 x.b)) (m := 3) (by kernel_rfl) ?_
  rw [← HWD.out]
  have hS : wd.cell? ⟨X, 0, none⟩ = some (.int .i64 x.k) ∧ wd.cell? ⟨X, 1, none⟩ = some (.int .i64 x.a) ∧ wd.cell? ⟨X, 2, none⟩ = some (.int .i64 x.b) := ⟨x0, x1, x2⟩
  repeat (first | (refine wpAnyG_take (i := 0) (v := .pointer (some ⟨T, 0, none⟩)) rfl ?_ ?_ ?_ (fun _ _ _ h => h) (Or.inl ⟨by rfl, ?_⟩) hS ?_; (· decide +kernel); (· decide +kernel); (· decide +kernel); (· (intro w' hS'; obtain ⟨hS0, hS1, hS2⟩ := hS'; go_simp))) | (refine wpAnyG_take (i := 2) (v := .agg #[.int .i64 x.k, .int .i64 x.a, .int .i64 x.b]) rfl ?_ ?_ ?_ (fun _ _ _ h => h) (Or.inl ⟨by rfl, ?_⟩) hS ?_; (· decide +kernel); (· decide +kernel); (· decide +kernel); (· (intro w' hS'; obtain ⟨hS0, hS1, hS2⟩ := hS'; go_simp))))
  refine wpAnyG_ready (rs := [1]) (by decide +kernel) (by simp) ?_
  refine AllReadyG.cons rfl (fun K hK => ?_) AllReadyG.nil
  go_simp
  refine CHO.out.mono ?_
  rintro e w2 ⟨CA, cn, cc, rfl, hcn, hcc, hcm, hcr, hb2⟩
  try dsimp only
  have hS2 : w2.cell? ⟨X, 0, none⟩ = some (.int .i64 x.k) ∧ w2.cell? ⟨X, 1, none⟩ = some (.int .i64 x.a) ∧ w2.cell? ⟨X, 2, none⟩ = some (.int .i64 x.b) := ⟨(hb2.cell (p := ⟨X, 0, none⟩) lX).trans x0, (hb2.cell (p := ⟨X, 1, none⟩) lX).trans x1, (hb2.cell (p := ⟨X, 2, none⟩) lX).trans x2⟩
  have CON := contains_any CA cn cc (choicesF s) ⟨x.k, x.a, x.b⟩ w2 (hcr.imp (by omega) fun _ _ _ => trivial) hcn (by have := choices_len HI.out.1.acs; omega)
  rw [decide_eq_false (show (⟨x.k, x.a, x.b⟩ : Ch) ∉ choicesF s from hx)] at CON
  have HC := Lib.hid CON
  have HB2 := Lib.hid hb2
  refine hK _ _ (fun _ => hS2) ?_
  clear hK K hcn hcc hcm hcr hb2 CON CHO x0 x1 x2 hS hS2
  refine wpAnyG_ready (rs := [3]) (by decide +kernel) (by simp) ?_
  refine AllReadyG.cons rfl (fun K hK => ?_) AllReadyG.nil
  go_simp
  refine HC.out.mono ?_
  rintro e w3 ⟨rfl, hb3⟩
  try dsimp only
  obtain ⟨hw, bd, fXd⟩ := H.out
  have hbX : Below w.heap.size w w3 := (bd.trans (HB2.out.mono bd.size)).trans (hb3.mono (Nat.le_trans bd.size HB2.out.size))
  have fX3 := (fXd.below HB2.out fXd.lt).below hb3 (Nat.lt_of_lt_of_le fXd.lt HB2.out.size)
  have h3 := hw.below hbX .base
  have st3 := Stp.below (col := col) hbX .base
  have x0 := fX3.cell 0
  have x1 := fX3.cell 1
  have x2 := fX3.cell 2
  have t1 := h3.blk.cell 1
  have t2 := h3.blk.cell 2
  simp only [List.getElem?_cons_succ, List.getElem?_cons_zero] at x0 x1 x2 t1 t2
  have lX3 := fX3.lt
  have lT3 := h3.blk.lt
  have nXT : X ≠ T := fX3.ne_ h3.blk (by decide)
  generalize recol col w.heap.size .base = col3 at h3 st3
  have H3 := Lib.hid (And.intro h3 (And.intro st3 fX3))
  refine hK _ _ (fun h => absurd h (by decide)) ?_
  clear hK K hw bd fXd hbX fX3 h3 st3 hb3 HB2 HC H lX HW1 HWD
  refine wpAnyG_ready (rs := [4]) (by decide +kernel) (by simp) ?_
  refine AllReadyG.cons rfl (fun K hK => ?_) AllReadyG.nil
  go_simp
  refine hK _ _ (fun h => absurd h (by decide)) ?_
  clear hK K
  refine wpAnyG_done (by decide +kernel) ?_ _
  go_wp2_with (fail)
  go_ret
  exact ⟨rfl, col3, ⟨_, _, _, _, _, _, _, H3.out.1⟩, H3.out.2.1⟩
set_option maxRecDepth 100000 in
set_option maxHeartbeats 4000000 in
theorem take_run (w : World) (B T : Nat) (col : Nat → Cl) (s : Wd) {A : Option Addr} {c : Nat} {av : Value} {ps : List Value} {M : Nat} {l : List ((Nat × Nat) × Value)} {sv : Value} (h : WdW w B T col s A c av ps M l sv) {n : Nat} (hI : Inv s n) (hn : n ≤ 300000) (i : Nat) (a : Ac) (ha : s.acs[i]? = some a) (hg : goes a = true) (hwt : a.waiting = false) (hm : (⟨1, (i : Int) + 1, 0⟩ : Ch) ∈ choicesF s) :
    Calls Tryd.prog 18 #[.pointer (some ⟨T, 0, none⟩), .agg #[.int .i64 1, .int .i64 ((i : Int) + 1), .int .i64 0]] w (WPost w B T col (runF s i a) (.int .i64 0)) := by
  obtain ⟨w1, hw1⟩ : ∃ w1, w1 = w.alloc (.cells #[.int .i64 1, .int .i64 ((i : Int) + 1), .int .i64 0] 36) := ⟨_, rfl⟩
  obtain ⟨X, hX⟩ : ∃ X, X = w.heap.size := ⟨_, rfl⟩
  obtain ⟨wd, hwd⟩ : ∃ wd, wd = w1.drew := ⟨_, rfl⟩
  have b1 : Below w.heap.size w w1 := by rw [hw1]; exact (Below.refl _ _).alloc (Nat.le_refl _) _
  have bd : Below w.heap.size w wd := by rw [hwd]; exact b1.drew
  have fX : Blk w1 X 36 [.int .i64 1, .int .i64 ((i : Int) + 1), .int .i64 0] := by rw [hw1, hX]; exact Blk.new w _ _
  have fXd : Blk wd X 36 [.int .i64 1, .int .i64 ((i : Int) + 1), .int .i64 0] := by rw [hwd]; exact fX.drew
  have hd := h.below bd .base
  have CHO := Lib.hid (choices_any wd B T _ s hd hI.acs (fun k => Nat.le_trans (hI.ways k) (by omega)) (fun i a ha => Nat.le_trans (hI.box i a ha) (by omega)))
  have x0 := fXd.cell 0
  have x1 := fXd.cell 1
  have x2 := fXd.cell 2
  simp only [List.getElem?_cons_succ, List.getElem?_cons_zero] at x0 x1 x2
  have lX := fXd.lt
  have HW1 := Lib.hid hw1
  have HWD := Lib.hid hwd
  have HX := Lib.hid hX
  have H := Lib.hid (And.intro h (And.intro bd fXd))
  have HI := Lib.hid (And.intro hI hn)
  clear hw1 hwd hX b1 bd fX fXd hd h hI hn
  go_enter Tryd.func18, Tryd.ntmps18
  go_wp2_with (fail)
  rw [← HW1.out, ← HX.out]
  refine wp_region_g (S := fun W => W.cell? ⟨X, 0, none⟩ = some (.int .i64 1) ∧ W.cell? ⟨X, 1, none⟩ = some (.int .i64 ((i : Int) + 1)) ∧ W.cell? ⟨X, 2, none⟩ = some (.int .i64 0)) (m := 3) (by kernel_rfl) ?_
  rw [← HWD.out]
  have hS : wd.cell? ⟨X, 0, none⟩ = some (.int .i64 1) ∧ wd.cell? ⟨X, 1, none⟩ = some (.int .i64 ((i : Int) + 1)) ∧ wd.cell? ⟨X, 2, none⟩ = some (.int .i64 0) := ⟨x0, x1, x2⟩
  repeat (first | (refine wpAnyG_take (i := 0) (v := .pointer (some ⟨T, 0, none⟩)) rfl ?_ ?_ ?_ (fun _ _ _ h => h) (Or.inl ⟨by rfl, ?_⟩) hS ?_; (· decide +kernel); (· decide +kernel); (· decide +kernel); (· (intro w' hS'; obtain ⟨hS0, hS1, hS2⟩ := hS'; go_simp))) | (refine wpAnyG_take (i := 2) (v := .agg #[.int .i64 1, .int .i64 ((i : Int) + 1), .int .i64 0]) rfl ?_ ?_ ?_ (fun _ _ _ h => h) (Or.inl ⟨by rfl, ?_⟩) hS ?_; (· decide +kernel); (· decide +kernel); (· decide +kernel); (· (intro w' hS'; obtain ⟨hS0, hS1, hS2⟩ := hS'; go_simp))))
  refine wpAnyG_ready (rs := [1]) (by decide +kernel) (by simp) ?_
  refine AllReadyG.cons rfl (fun K hK => ?_) AllReadyG.nil
  go_simp
  refine CHO.out.mono ?_
  rintro e w2 ⟨CA, cn, cc, rfl, hcn, hcc, hcm, hcr, hb2⟩
  try dsimp only
  have hS2 : w2.cell? ⟨X, 0, none⟩ = some (.int .i64 1) ∧ w2.cell? ⟨X, 1, none⟩ = some (.int .i64 ((i : Int) + 1)) ∧ w2.cell? ⟨X, 2, none⟩ = some (.int .i64 0) := ⟨(hb2.cell (p := ⟨X, 0, none⟩) lX).trans x0, (hb2.cell (p := ⟨X, 1, none⟩) lX).trans x1, (hb2.cell (p := ⟨X, 2, none⟩) lX).trans x2⟩
  have CON := contains_any CA cn cc (choicesF s) ⟨1, ((i : Int) + 1), 0⟩ w2 (hcr.imp (by omega) fun _ _ _ => trivial) hcn (by have := choices_len HI.out.1.acs; omega)
  rw [decide_eq_true hm] at CON
  have HC := Lib.hid CON
  have HB2 := Lib.hid hb2
  refine hK _ _ (fun _ => hS2) ?_
  clear hK K hcn hcc hcm hcr hb2 CON CHO x0 x1 x2 hS hS2
  refine wpAnyG_ready (rs := [3]) (by decide +kernel) (by simp) ?_
  refine AllReadyG.cons rfl (fun K hK => ?_) AllReadyG.nil
  go_simp
  refine HC.out.mono ?_
  rintro e w3 ⟨rfl, hb3⟩
  try dsimp only
  obtain ⟨hw, bd, fXd⟩ := H.out
  have hbX : Below w.heap.size w w3 := (bd.trans (HB2.out.mono bd.size)).trans (hb3.mono (Nat.le_trans bd.size HB2.out.size))
  have fX3 := (fXd.below HB2.out fXd.lt).below hb3 (Nat.lt_of_lt_of_le fXd.lt HB2.out.size)
  have h3 := hw.below hbX .base
  have st3 := Stp.below (col := col) hbX .base
  have x0 := fX3.cell 0
  have x1 := fX3.cell 1
  have x2 := fX3.cell 2
  have t1 := h3.blk.cell 1
  have t2 := h3.blk.cell 2
  simp only [List.getElem?_cons_succ, List.getElem?_cons_zero] at x0 x1 x2 t1 t2
  have lX3 := fX3.lt
  have lT3 := h3.blk.lt
  have nXT : X ≠ T := fX3.ne_ h3.blk (by decide)
  generalize recol col w.heap.size .base = col3 at h3 st3
  have H3 := Lib.hid (And.intro h3 (And.intro st3 fX3))
  refine hK _ _ (fun h => absurd h (by decide)) ?_
  clear hK K hw bd fXd hbX fX3 h3 st3 hb3 HB2 HC H lX HW1 HWD
  refine wpAnyG_ready (rs := [4]) (by decide +kernel) (by simp) ?_
  refine AllReadyG.cons rfl (fun K hK => ?_) AllReadyG.nil
  go_simp
  refine hK _ _ (fun h => absurd h (by decide)) ?_
  clear hK K
  refine wpAnyG_done (by decide +kernel) ?_ _
  have h3 := H3.out.1
  obtain ⟨AA, ac, rfl, hac, _⟩ := h3.rw_.form
  obtain ⟨L, hLe⟩ : ∃ L, L = s.acs.length := ⟨_, rfl⟩
  obtain ⟨b, off, S, Y, bv, rfl, hcell, hp, hA⟩ := h3.ptr ha
  have hil := (List.getElem?_eq_some_iff.1 ha).1
  rw [← hLe] at t1 hac hil
  have hL30 : L ≤ 30 := by rw [hLe]; exact HI.out.1.acs
  have i1 : (i : Int) < (L : Int) := by omega
  have i0 : (0 : Int) ≤ (i : Int) := by omega
  have iw : IntKind.i64.wrap (i : Int) = (i : Int) := IntWalk.i64_in _ (by omega)
  have iw2 : IntKind.i64.wrap ((i : Int) + 1 - 1) = (i : Int) := by rw [show (i : Int) + 1 - 1 = (i : Int) by omega]; exact iw
  have s2 := hA.blk.cell 2
  simp only [acC, List.getElem?_cons_succ, List.getElem?_cons_zero] at s2
  have lS := hA.blk.lt
  have lb := lt_of_cell hcell
  have HA := Lib.hid (And.intro hA (And.intro hp ha))
  have HL := Lib.hid hLe
  rw [hwt] at s2
  have WR := Lib.hid (fun (W : World) (hW : W.heap = w3.heap) => wrun_any W B T col3 s (h3.heapEq hW) HI.out.1 (by have := HI.out.2; omega) i a S hp ha)
  clear hA hp ha hLe h3 hwt hg hm
  go_wp2_with (fail)
  go_quiet (fail)
  go_wp2_with (fail)
  refine (WR.out (w3.drewN nq) rfl).mono ?_
  rintro e w4 ⟨rfl, col', h4, st4⟩
  have HF := Lib.hid (And.intro h4 ((H3.out.2.1.drewN nq).trans st4))
  clear h4 st4
  go_wp2_with (fail)
  go_ret
  exact ⟨rfl, col', HF.out.1, HF.out.2⟩
set_option maxRecDepth 100000 in
set_option maxHeartbeats 4000000 in
theorem take_wait (w : World) (B T : Nat) (col : Nat → Cl) (s : Wd) {A : Option Addr} {c : Nat} {av : Value} {ps : List Value} {M : Nat} {l : List ((Nat × Nat) × Value)} {sv : Value} (h : WdW w B T col s A c av ps M l sv) {n : Nat} (hI : Inv s n) (hn : n ≤ 300000) (i : Nat) (a : Ac) (ha : s.acs[i]? = some a) (hg : goes a = true) (hwt : a.waiting = true) (hm : (⟨1, (i : Int) + 1, 0⟩ : Ch) ∈ choicesF s) :
    Calls Tryd.prog 18 #[.pointer (some ⟨T, 0, none⟩), .agg #[.int .i64 1, .int .i64 ((i : Int) + 1), .int .i64 0]] w (WPost w B T col (setA s i (offerF a)) (.int .i64 0)) := by
  obtain ⟨w1, hw1⟩ : ∃ w1, w1 = w.alloc (.cells #[.int .i64 1, .int .i64 ((i : Int) + 1), .int .i64 0] 36) := ⟨_, rfl⟩
  obtain ⟨X, hX⟩ : ∃ X, X = w.heap.size := ⟨_, rfl⟩
  obtain ⟨wd, hwd⟩ : ∃ wd, wd = w1.drew := ⟨_, rfl⟩
  have b1 : Below w.heap.size w w1 := by rw [hw1]; exact (Below.refl _ _).alloc (Nat.le_refl _) _
  have bd : Below w.heap.size w wd := by rw [hwd]; exact b1.drew
  have fX : Blk w1 X 36 [.int .i64 1, .int .i64 ((i : Int) + 1), .int .i64 0] := by rw [hw1, hX]; exact Blk.new w _ _
  have fXd : Blk wd X 36 [.int .i64 1, .int .i64 ((i : Int) + 1), .int .i64 0] := by rw [hwd]; exact fX.drew
  have hd := h.below bd .base
  have CHO := Lib.hid (choices_any wd B T _ s hd hI.acs (fun k => Nat.le_trans (hI.ways k) (by omega)) (fun i a ha => Nat.le_trans (hI.box i a ha) (by omega)))
  have x0 := fXd.cell 0
  have x1 := fXd.cell 1
  have x2 := fXd.cell 2
  simp only [List.getElem?_cons_succ, List.getElem?_cons_zero] at x0 x1 x2
  have lX := fXd.lt
  have HW1 := Lib.hid hw1
  have HWD := Lib.hid hwd
  have HX := Lib.hid hX
  have H := Lib.hid (And.intro h (And.intro bd fXd))
  have HI := Lib.hid (And.intro hI hn)
  clear hw1 hwd hX b1 bd fX fXd hd h hI hn
  go_enter Tryd.func18, Tryd.ntmps18
  go_wp2_with (fail)
  rw [← HW1.out, ← HX.out]
  refine wp_region_g (S := fun W => W.cell? ⟨X, 0, none⟩ = some (.int .i64 1) ∧ W.cell? ⟨X, 1, none⟩ = some (.int .i64 ((i : Int) + 1)) ∧ W.cell? ⟨X, 2, none⟩ = some (.int .i64 0)) (m := 3) (by kernel_rfl) ?_
  rw [← HWD.out]
  have hS : wd.cell? ⟨X, 0, none⟩ = some (.int .i64 1) ∧ wd.cell? ⟨X, 1, none⟩ = some (.int .i64 ((i : Int) + 1)) ∧ wd.cell? ⟨X, 2, none⟩ = some (.int .i64 0) := ⟨x0, x1, x2⟩
  repeat (first | (refine wpAnyG_take (i := 0) (v := .pointer (some ⟨T, 0, none⟩)) rfl ?_ ?_ ?_ (fun _ _ _ h => h) (Or.inl ⟨by rfl, ?_⟩) hS ?_; (· decide +kernel); (· decide +kernel); (· decide +kernel); (· (intro w' hS'; obtain ⟨hS0, hS1, hS2⟩ := hS'; go_simp))) | (refine wpAnyG_take (i := 2) (v := .agg #[.int .i64 1, .int .i64 ((i : Int) + 1), .int .i64 0]) rfl ?_ ?_ ?_ (fun _ _ _ h => h) (Or.inl ⟨by rfl, ?_⟩) hS ?_; (· decide +kernel); (· decide +kernel); (· decide +kernel); (· (intro w' hS'; obtain ⟨hS0, hS1, hS2⟩ := hS'; go_simp))))
  refine wpAnyG_ready (rs := [1]) (by decide +kernel) (by simp) ?_
  refine AllReadyG.cons rfl (fun K hK => ?_) AllReadyG.nil
  go_simp
  refine CHO.out.mono ?_
  rintro e w2 ⟨CA, cn, cc, rfl, hcn, hcc, hcm, hcr, hb2⟩
  try dsimp only
  have hS2 : w2.cell? ⟨X, 0, none⟩ = some (.int .i64 1) ∧ w2.cell? ⟨X, 1, none⟩ = some (.int .i64 ((i : Int) + 1)) ∧ w2.cell? ⟨X, 2, none⟩ = some (.int .i64 0) := ⟨(hb2.cell (p := ⟨X, 0, none⟩) lX).trans x0, (hb2.cell (p := ⟨X, 1, none⟩) lX).trans x1, (hb2.cell (p := ⟨X, 2, none⟩) lX).trans x2⟩
  have CON := contains_any CA cn cc (choicesF s) ⟨1, ((i : Int) + 1), 0⟩ w2 (hcr.imp (by omega) fun _ _ _ => trivial) hcn (by have := choices_len HI.out.1.acs; omega)
  rw [decide_eq_true hm] at CON
  have HC := Lib.hid CON
  have HB2 := Lib.hid hb2
  refine hK _ _ (fun _ => hS2) ?_
  clear hK K hcn hcc hcm hcr hb2 CON CHO x0 x1 x2 hS hS2
  refine wpAnyG_ready (rs := [3]) (by decide +kernel) (by simp) ?_
  refine AllReadyG.cons rfl (fun K hK => ?_) AllReadyG.nil
  go_simp
  refine HC.out.mono ?_
  rintro e w3 ⟨rfl, hb3⟩
  try dsimp only
  obtain ⟨hw, bd, fXd⟩ := H.out
  have hbX : Below w.heap.size w w3 := (bd.trans (HB2.out.mono bd.size)).trans (hb3.mono (Nat.le_trans bd.size HB2.out.size))
  have fX3 := (fXd.below HB2.out fXd.lt).below hb3 (Nat.lt_of_lt_of_le fXd.lt HB2.out.size)
  have h3 := hw.below hbX .base
  have st3 := Stp.below (col := col) hbX .base
  have x0 := fX3.cell 0
  have x1 := fX3.cell 1
  have x2 := fX3.cell 2
  have t1 := h3.blk.cell 1
  have t2 := h3.blk.cell 2
  simp only [List.getElem?_cons_succ, List.getElem?_cons_zero] at x0 x1 x2 t1 t2
  have lX3 := fX3.lt
  have lT3 := h3.blk.lt
  have nXT : X ≠ T := fX3.ne_ h3.blk (by decide)
  generalize recol col w.heap.size .base = col3 at h3 st3
  have H3 := Lib.hid (And.intro h3 (And.intro st3 fX3))
  refine hK _ _ (fun h => absurd h (by decide)) ?_
  clear hK K hw bd fXd hbX fX3 h3 st3 hb3 HB2 HC H lX HW1 HWD
  refine wpAnyG_ready (rs := [4]) (by decide +kernel) (by simp) ?_
  refine AllReadyG.cons rfl (fun K hK => ?_) AllReadyG.nil
  go_simp
  refine hK _ _ (fun h => absurd h (by decide)) ?_
  clear hK K
  refine wpAnyG_done (by decide +kernel) ?_ _
  have h3 := H3.out.1
  obtain ⟨AA, ac, rfl, hac, _⟩ := h3.rw_.form
  obtain ⟨L, hLe⟩ : ∃ L, L = s.acs.length := ⟨_, rfl⟩
  obtain ⟨b, off, S, Y, bv, rfl, hcell, hp, hA⟩ := h3.ptr ha
  have hil := (List.getElem?_eq_some_iff.1 ha).1
  rw [← hLe] at t1 hac hil
  have hL30 : L ≤ 30 := by rw [hLe]; exact HI.out.1.acs
  have i1 : (i : Int) < (L : Int) := by omega
  have i0 : (0 : Int) ≤ (i : Int) := by omega
  have iw : IntKind.i64.wrap (i : Int) = (i : Int) := IntWalk.i64_in _ (by omega)
  have iw2 : IntKind.i64.wrap ((i : Int) + 1 - 1) = (i : Int) := by rw [show (i : Int) + 1 - 1 = (i : Int) by omega]; exact iw
  have s2 := hA.blk.cell 2
  simp only [acC, List.getElem?_cons_succ, List.getElem?_cons_zero] at s2
  have lS := hA.blk.lt
  have lb := lt_of_cell hcell
  have HA := Lib.hid (And.intro hA (And.intro hp ha))
  have HL := Lib.hid hLe
  rw [hwt] at s2
  have hoff : a.off < a.box.length := by
    unfold goes at hg
    rw [hwt] at hg
    simp at hg
    exact hg.2
  have OF := Lib.hid (fun (W : World) (hW : W.heap = w3.heap) => offer_any W B (fun b => col3 b = .act i) S Y bv a a.box[a.off] (hA.heapEq hW) (h3.own (k := .act i) (by simp)) (by rw [hW]; exact h3.lB) (List.getElem?_eq_getElem hoff) (Nat.le_trans (HI.out.1.box i a ha) (by have := HI.out.2; omega)))
  clear hA hp ha hLe h3 hwt hg hm hoff
  go_wp2_with (fail)
  go_quiet (fail)
  go_wp2_with (fail)
  refine (OF.out (w3.drewN nq) rfl).mono ?_
  rintro e w4 ⟨rfl, hact, hg4⟩
  have h3d := H3.out.1.heapEq (w' := w3.drewN nq) rfl
  have hx : ActAt w4 B (fun b => recol col3 (w3.drewN nq).heap.size (.act i) b = .act i) S (offerF a) := hact.mono fun b hb => by
    rcases hb with hb | hb
    · rcases Nat.lt_or_ge b (w3.drewN nq).heap.size with hl | hl
      · rw [recol_old hl]; exact hb
      · exact recol_new hl
    · exact recol_new hb
  have FIN := h3d.act (by rw [← HL.out]; exact hil) HA.out.2.1 hg4 hx
  have HF := Lib.hid (And.intro FIN.1 ((H3.out.2.1.drewN nq).trans FIN.2))
  clear hact hg4 h3d hx FIN
  go_wp2_with (fail)
  go_ret
  exact ⟨rfl, _, ⟨_, _, _, _, _, _, _, HF.out.1⟩, HF.out.2⟩
set_option maxRecDepth 100000 in
set_option maxHeartbeats 4000000 in
theorem take_late (w : World) (B T : Nat) (col : Nat → Cl) (s : Wd) {A : Option Addr} {c : Nat} {av : Value} {ps : List Value} {M : Nat} {l : List ((Nat × Nat) × Value)} {sv : Value} (h : WdW w B T col s A c av ps M l sv) {n : Nat} (hI : Inv s n) (hn : n ≤ 300000) (i : Nat) (a : Ac) (ha : s.acs[i]? = some a) (hlt : late a = true) (hm : (⟨3, (i : Int) + 1, 0⟩ : Ch) ∈ choicesF s) :
    Calls Tryd.prog 18 #[.pointer (some ⟨T, 0, none⟩), .agg #[.int .i64 3, .int .i64 ((i : Int) + 1), .int .i64 0]] w (WPost w B T col (setA s i { a with ty := lateT a.ty, waiting := false }) (.int .i64 0)) := by
  obtain ⟨w1, hw1⟩ : ∃ w1, w1 = w.alloc (.cells #[.int .i64 3, .int .i64 ((i : Int) + 1), .int .i64 0] 36) := ⟨_, rfl⟩
  obtain ⟨X, hX⟩ : ∃ X, X = w.heap.size := ⟨_, rfl⟩
  obtain ⟨wd, hwd⟩ : ∃ wd, wd = w1.drew := ⟨_, rfl⟩
  have b1 : Below w.heap.size w w1 := by rw [hw1]; exact (Below.refl _ _).alloc (Nat.le_refl _) _
  have bd : Below w.heap.size w wd := by rw [hwd]; exact b1.drew
  have fX : Blk w1 X 36 [.int .i64 3, .int .i64 ((i : Int) + 1), .int .i64 0] := by rw [hw1, hX]; exact Blk.new w _ _
  have fXd : Blk wd X 36 [.int .i64 3, .int .i64 ((i : Int) + 1), .int .i64 0] := by rw [hwd]; exact fX.drew
  have hd := h.below bd .base
  have CHO := Lib.hid (choices_any wd B T _ s hd hI.acs (fun k => Nat.le_trans (hI.ways k) (by omega)) (fun i a ha => Nat.le_trans (hI.box i a ha) (by omega)))
  have x0 := fXd.cell 0
  have x1 := fXd.cell 1
  have x2 := fXd.cell 2
  simp only [List.getElem?_cons_succ, List.getElem?_cons_zero] at x0 x1 x2
  have lX := fXd.lt
  have HW1 := Lib.hid hw1
  have HWD := Lib.hid hwd
  have HX := Lib.hid hX
  have H := Lib.hid (And.intro h (And.intro bd fXd))
  have HI := Lib.hid (And.intro hI hn)
  clear hw1 hwd hX b1 bd fX fXd hd h hI hn
  go_enter Tryd.func18, Tryd.ntmps18
  go_wp2_with (fail)
  rw [← HW1.out, ← HX.out]
  refine wp_region_g (S := fun W => W.cell? ⟨X, 0, none⟩ = some (.int .i64 3) ∧ W.cell? ⟨X, 1, none⟩ = some (.int .i64 ((i : Int) + 1)) ∧ W.cell? ⟨X, 2, none⟩ = some (.int .i64 0)) (m := 3) (by kernel_rfl) ?_
  rw [← HWD.out]
  have hS : wd.cell? ⟨X, 0, none⟩ = some (.int .i64 3) ∧ wd.cell? ⟨X, 1, none⟩ = some (.int .i64 ((i : Int) + 1)) ∧ wd.cell? ⟨X, 2, none⟩ = some (.int .i64 0) := ⟨x0, x1, x2⟩
  repeat (first | (refine wpAnyG_take (i := 0) (v := .pointer (some ⟨T, 0, none⟩)) rfl ?_ ?_ ?_ (fun _ _ _ h => h) (Or.inl ⟨by rfl, ?_⟩) hS ?_; (· decide +kernel); (· decide +kernel); (· decide +kernel); (· (intro w' hS'; obtain ⟨hS0, hS1, hS2⟩ := hS'; go_simp))) | (refine wpAnyG_take (i := 2) (v := .agg #[.int .i64 3, .int .i64 ((i : Int) + 1), .int .i64 0]) rfl ?_ ?_ ?_ (fun _ _ _ h => h) (Or.inl ⟨by rfl, ?_⟩) hS ?_; (· decide +kernel); (· decide +kernel); (· decide +kernel); (· (intro w' hS'; obtain ⟨hS0, hS1, hS2⟩ := hS'; go_simp))))
  refine wpAnyG_ready (rs := [1]) (by decide +kernel) (by simp) ?_
  refine AllReadyG.cons rfl (fun K hK => ?_) AllReadyG.nil
  go_simp
  refine CHO.out.mono ?_
  rintro e w2 ⟨CA, cn, cc, rfl, hcn, hcc, hcm, hcr, hb2⟩
  try dsimp only
  have hS2 : w2.cell? ⟨X, 0, none⟩ = some (.int .i64 3) ∧ w2.cell? ⟨X, 1, none⟩ = some (.int .i64 ((i : Int) + 1)) ∧ w2.cell? ⟨X, 2, none⟩ = some (.int .i64 0) := ⟨(hb2.cell (p := ⟨X, 0, none⟩) lX).trans x0, (hb2.cell (p := ⟨X, 1, none⟩) lX).trans x1, (hb2.cell (p := ⟨X, 2, none⟩) lX).trans x2⟩
  have CON := contains_any CA cn cc (choicesF s) ⟨3, ((i : Int) + 1), 0⟩ w2 (hcr.imp (by omega) fun _ _ _ => trivial) hcn (by have := choices_len HI.out.1.acs; omega)
  rw [decide_eq_true hm] at CON
  have HC := Lib.hid CON
  have HB2 := Lib.hid hb2
  refine hK _ _ (fun _ => hS2) ?_
  clear hK K hcn hcc hcm hcr hb2 CON CHO x0 x1 x2 hS hS2
  refine wpAnyG_ready (rs := [3]) (by decide +kernel) (by simp) ?_
  refine AllReadyG.cons rfl (fun K hK => ?_) AllReadyG.nil
  go_simp
  refine HC.out.mono ?_
  rintro e w3 ⟨rfl, hb3⟩
  try dsimp only
  obtain ⟨hw, bd, fXd⟩ := H.out
  have hbX : Below w.heap.size w w3 := (bd.trans (HB2.out.mono bd.size)).trans (hb3.mono (Nat.le_trans bd.size HB2.out.size))
  have fX3 := (fXd.below HB2.out fXd.lt).below hb3 (Nat.lt_of_lt_of_le fXd.lt HB2.out.size)
  have h3 := hw.below hbX .base
  have st3 := Stp.below (col := col) hbX .base
  have x0 := fX3.cell 0
  have x1 := fX3.cell 1
  have x2 := fX3.cell 2
  have t1 := h3.blk.cell 1
  have t2 := h3.blk.cell 2
  simp only [List.getElem?_cons_succ, List.getElem?_cons_zero] at x0 x1 x2 t1 t2
  have lX3 := fX3.lt
  have lT3 := h3.blk.lt
  have nXT : X ≠ T := fX3.ne_ h3.blk (by decide)
  generalize recol col w.heap.size .base = col3 at h3 st3
  have H3 := Lib.hid (And.intro h3 (And.intro st3 fX3))
  refine hK _ _ (fun h => absurd h (by decide)) ?_
  clear hK K hw bd fXd hbX fX3 h3 st3 hb3 HB2 HC H lX HW1 HWD
  refine wpAnyG_ready (rs := [4]) (by decide +kernel) (by simp) ?_
  refine AllReadyG.cons rfl (fun K hK => ?_) AllReadyG.nil
  go_simp
  refine hK _ _ (fun h => absurd h (by decide)) ?_
  clear hK K
  refine wpAnyG_done (by decide +kernel) ?_ _
  have h3 := H3.out.1
  obtain ⟨AA, ac, rfl, hac, _⟩ := h3.rw_.form
  obtain ⟨L, hLe⟩ : ∃ L, L = s.acs.length := ⟨_, rfl⟩
  obtain ⟨b, off, S, Y, bv, rfl, hcell, hp, hA⟩ := h3.ptr ha
  have hil := (List.getElem?_eq_some_iff.1 ha).1
  rw [← hLe] at t1 hac hil
  have hL30 : L ≤ 30 := by rw [hLe]; exact HI.out.1.acs
  have i1 : (i : Int) < (L : Int) := by omega
  have i0 : (0 : Int) ≤ (i : Int) := by omega
  have iw : IntKind.i64.wrap (i : Int) = (i : Int) := IntWalk.i64_in _ (by omega)
  have iw2 : IntKind.i64.wrap ((i : Int) + 1 - 1) = (i : Int) := by rw [show (i : Int) + 1 - 1 = (i : Int) by omega]; exact iw
  have s2 := hA.blk.cell 2
  simp only [acC, List.getElem?_cons_succ, List.getElem?_cons_zero] at s2
  have lS := hA.blk.lt
  have lb := lt_of_cell hcell
  have HA := Lib.hid (And.intro hA (And.intro hp ha))
  have HL := Lib.hid hLe
  have s0 := hA.blk.cell 0
  simp only [acC, List.getElem?_cons_zero] at s0
  have hM := fun f W => meth_late f Y W
  have LT := Lib.hid (fun (W : World) (hW : W.heap = w3.heap) => late_any W B Y a.ty (hA.heapEq hW).toy (h3.own (k := .act i) (by simp) Y hA.oT))
  clear hA hp ha hLe h3 hm hlt
  go_wp2_with (fail)
  go_quiet (fail)
  go_wp2_with (fail)
  refine (LT.out (w3.drewN nq) rfl).mono ?_
  rintro e w4 ⟨rfl, ht4, hg4⟩
  have h3d := H3.out.1.heapEq (w' := w3.drewN nq) rfl
  obtain ⟨hA4, h4, st4⟩ := h3d.toy HA.out.2.2 HA.out.2.1 (HA.out.1.heapEq (w' := w3.drewN nq) rfl) hg4 ht4 (Below.refl _ _)
  have s4 := hA4.blk.cell 2
  have g4 := hA4.blk.frozen 2
  simp only [acC, List.getElem?_cons_succ, List.getElem?_cons_zero] at s4
  have lS4 := hA4.blk.lt
  have H4 := Lib.hid (And.intro h4 (And.intro hA4 ((H3.out.2.1.drewN nq).trans st4)))
  clear ht4 hg4 h3d hA4 h4 st4 hM
  go_wp2_with (fail)
  go_ret
  have hl : i < s.acs.length := (List.getElem?_eq_some_iff.1 HA.out.2.2).1
  have e1 : (setA s i { a with ty := lateT a.ty }).acs[i]? = some { a with ty := lateT a.ty } := by simp [setA, hl]
  have hb := H4.out.2.1.blk.put 2 (.bool false)
  have this := H4.out.1.cellsA (a' := { a with ty := lateT a.ty, waiting := false }) e1 HA.out.2.1 H4.out.2.1 (grown_put (World.grownBy.refl w4 _) 2 _) (by simpa [acC] using hb) rfl rfl
  have e2 : setA (setA s i { a with ty := lateT a.ty }) i { a with ty := lateT a.ty, waiting := false } = setA s i { a with ty := lateT a.ty, waiting := false } := by simp [setA]
  rw [e2] at this
  exact ⟨rfl, _, ⟨_, _, _, _, _, _, _, this.1⟩, H4.out.2.2.trans this.2⟩
set_option maxRecDepth 100000 in
set_option maxHeartbeats 4000000 in
theorem take_come0 (w : World) (B T : Nat) (col : Nat → Cl) (s : Wd) {A : Option Addr} {c : Nat} {av : Value} {ps : List Value} {M : Nat} {l : List ((Nat × Nat) × Value)} {sv : Value} (h : WdW w B T col s A c av ps M l sv) {n : Nat} (hI : Inv s n) (hn : n ≤ 300000) (f t : Nat) (v : Vl) (r : List Vl) (a : Ac) (hf : f ≤ s.acs.length) (ha : s.acs[t]? = some a) (hwv : wayF s (f, t + 1) = v :: r) (hen : a.ended = true) (hm : (⟨2, (f : Int), (t : Int) + 1⟩ : Ch) ∈ choicesF s) :
    Calls Tryd.prog 18 #[.pointer (some ⟨T, 0, none⟩), .agg #[.int .i64 2, .int .i64 (f : Nat), .int .i64 ((t : Int) + 1)]] w (WPost w B T col ({ s with ways := mput s.ways (f, t + 1) r }) (.int .i64 0)) := by
  obtain ⟨w1, hw1⟩ : ∃ w1, w1 = w.alloc (.cells #[.int .i64 2, .int .i64 (f : Nat), .int .i64 ((t : Int) + 1)] 36) := ⟨_, rfl⟩
  obtain ⟨X, hX⟩ : ∃ X, X = w.heap.size := ⟨_, rfl⟩
  obtain ⟨wd, hwd⟩ : ∃ wd, wd = w1.drew := ⟨_, rfl⟩
  have b1 : Below w.heap.size w w1 := by rw [hw1]; exact (Below.refl _ _).alloc (Nat.le_refl _) _
  have bd : Below w.heap.size w wd := by rw [hwd]; exact b1.drew
  have fX : Blk w1 X 36 [.int .i64 2, .int .i64 (f : Nat), .int .i64 ((t : Int) + 1)] := by rw [hw1, hX]; exact Blk.new w _ _
  have fXd : Blk wd X 36 [.int .i64 2, .int .i64 (f : Nat), .int .i64 ((t : Int) + 1)] := by rw [hwd]; exact fX.drew
  have hd := h.below bd .base
  have CHO := Lib.hid (choices_any wd B T _ s hd hI.acs (fun k => Nat.le_trans (hI.ways k) (by omega)) (fun i a ha => Nat.le_trans (hI.box i a ha) (by omega)))
  have x0 := fXd.cell 0
  have x1 := fXd.cell 1
  have x2 := fXd.cell 2
  simp only [List.getElem?_cons_succ, List.getElem?_cons_zero] at x0 x1 x2
  have lX := fXd.lt
  have HW1 := Lib.hid hw1
  have HWD := Lib.hid hwd
  have HX := Lib.hid hX
  have H := Lib.hid (And.intro h (And.intro bd fXd))
  have HI := Lib.hid (And.intro hI hn)
  clear hw1 hwd hX b1 bd fX fXd hd h hI hn
  go_enter Tryd.func18, Tryd.ntmps18
  go_wp2_with (fail)
  rw [← HW1.out, ← HX.out]
  refine wp_region_g (S := fun W => W.cell? ⟨X, 0, none⟩ = some (.int .i64 2) ∧ W.cell? ⟨X, 1, none⟩ = some (.int .i64 (f : Nat)) ∧ W.cell? ⟨X, 2, none⟩ = some (.int .i64 ((t : Int) + 1))) (m := 3) (by kernel_rfl) ?_
  rw [← HWD.out]
  have hS : wd.cell? ⟨X, 0, none⟩ = some (.int .i64 2) ∧ wd.cell? ⟨X, 1, none⟩ = some (.int .i64 (f : Nat)) ∧ wd.cell? ⟨X, 2, none⟩ = some (.int .i64 ((t : Int) + 1)) := ⟨x0, x1, x2⟩
  repeat (first | (refine wpAnyG_take (i := 0) (v := .pointer (some ⟨T, 0, none⟩)) rfl ?_ ?_ ?_ (fun _ _ _ h => h) (Or.inl ⟨by rfl, ?_⟩) hS ?_; (· decide +kernel); (· decide +kernel); (· decide +kernel); (· (intro w' hS'; obtain ⟨hS0, hS1, hS2⟩ := hS'; go_simp))) | (refine wpAnyG_take (i := 2) (v := .agg #[.int .i64 2, .int .i64 (f : Nat), .int .i64 ((t : Int) + 1)]) rfl ?_ ?_ ?_ (fun _ _ _ h => h) (Or.inl ⟨by rfl, ?_⟩) hS ?_; (· decide +kernel); (· decide +kernel); (· decide +kernel); (· (intro w' hS'; obtain ⟨hS0, hS1, hS2⟩ := hS'; go_simp))))
  refine wpAnyG_ready (rs := [1]) (by decide +kernel) (by simp) ?_
  refine AllReadyG.cons rfl (fun K hK => ?_) AllReadyG.nil
  go_simp
  refine CHO.out.mono ?_
  rintro e w2 ⟨CA, cn, cc, rfl, hcn, hcc, hcm, hcr, hb2⟩
  try dsimp only
  have hS2 : w2.cell? ⟨X, 0, none⟩ = some (.int .i64 2) ∧ w2.cell? ⟨X, 1, none⟩ = some (.int .i64 (f : Nat)) ∧ w2.cell? ⟨X, 2, none⟩ = some (.int .i64 ((t : Int) + 1)) := ⟨(hb2.cell (p := ⟨X, 0, none⟩) lX).trans x0, (hb2.cell (p := ⟨X, 1, none⟩) lX).trans x1, (hb2.cell (p := ⟨X, 2, none⟩) lX).trans x2⟩
  have CON := contains_any CA cn cc (choicesF s) ⟨2, (f : Nat), ((t : Int) + 1)⟩ w2 (hcr.imp (by omega) fun _ _ _ => trivial) hcn (by have := choices_len HI.out.1.acs; omega)
  rw [decide_eq_true hm] at CON
  have HC := Lib.hid CON
  have HB2 := Lib.hid hb2
  refine hK _ _ (fun _ => hS2) ?_
  clear hK K hcn hcc hcm hcr hb2 CON CHO x0 x1 x2 hS hS2
  refine wpAnyG_ready (rs := [3]) (by decide +kernel) (by simp) ?_
  refine AllReadyG.cons rfl (fun K hK => ?_) AllReadyG.nil
  go_simp
  refine HC.out.mono ?_
  rintro e w3 ⟨rfl, hb3⟩
  try dsimp only
  obtain ⟨hw, bd, fXd⟩ := H.out
  have hbX : Below w.heap.size w w3 := (bd.trans (HB2.out.mono bd.size)).trans (hb3.mono (Nat.le_trans bd.size HB2.out.size))
  have fX3 := (fXd.below HB2.out fXd.lt).below hb3 (Nat.lt_of_lt_of_le fXd.lt HB2.out.size)
  have h3 := hw.below hbX .base
  have st3 := Stp.below (col := col) hbX .base
  have x0 := fX3.cell 0
  have x1 := fX3.cell 1
  have x2 := fX3.cell 2
  have t1 := h3.blk.cell 1
  have t2 := h3.blk.cell 2
  simp only [List.getElem?_cons_succ, List.getElem?_cons_zero] at x0 x1 x2 t1 t2
  have lX3 := fX3.lt
  have lT3 := h3.blk.lt
  have nXT : X ≠ T := fX3.ne_ h3.blk (by decide)
  generalize recol col w.heap.size .base = col3 at h3 st3
  have H3 := Lib.hid (And.intro h3 (And.intro st3 fX3))
  refine hK _ _ (fun h => absurd h (by decide)) ?_
  clear hK K hw bd fXd hbX fX3 h3 st3 hb3 HB2 HC H lX HW1 HWD
  refine wpAnyG_ready (rs := [4]) (by decide +kernel) (by simp) ?_
  refine AllReadyG.cons rfl (fun K hK => ?_) AllReadyG.nil
  go_simp
  refine hK _ _ (fun h => absurd h (by decide)) ?_
  clear hK K
  refine wpAnyG_done (by decide +kernel) ?_ _
  obtain ⟨vk, vn⟩ := v
  have h3 := H3.out.1
  obtain ⟨w4, hw4⟩ : ∃ W, W = w3.alloc (.cells #[.int .i64 (f : Nat), .int .i64 ((t : Int) + 1)] 82) := ⟨_, rfl⟩
  obtain ⟨KB, hKB⟩ : ∃ b, b = w3.heap.size := ⟨_, rfl⟩
  obtain ⟨w5, hw5⟩ : ∃ W, W = w4.drew := ⟨_, rfl⟩
  obtain ⟨VB, hVB⟩ : ∃ b, b = w5.heap.size := ⟨_, rfl⟩
  obtain ⟨w6, hw6⟩ : ∃ W, W = w5.alloc (.cells #[.int .i64 vk, .int .i64 vn, .string ⟨#[]⟩, .slice none 0 0] 56) := ⟨_, rfl⟩
  obtain ⟨w7, hw7⟩ : ∃ W, W = w6.drew := ⟨_, rfl⟩
  have b34 : Below w3.heap.size w3 w4 := by rw [hw4]; exact (Below.refl _ _).alloc (Nat.le_refl _) _
  have b35 : Below w3.heap.size w3 w5 := by rw [hw5]; exact b34.drew
  have b56 : Below w5.heap.size w5 w6 := by rw [hw6]; exact (Below.refl _ _).alloc (Nat.le_refl _) _
  have b57 : Below w5.heap.size w5 w7 := by rw [hw7]; exact b56.drew
  have b37 : Below w3.heap.size w3 w7 := b35.trans (b57.mono b35.size)
  have fK4 : Blk w4 KB 82 [.int .i64 (f : Nat), .int .i64 ((t : Int) + 1)] := by rw [hw4, hKB]; exact Blk.new w3 _ _
  have fK5 : Blk w5 KB 82 [.int .i64 (f : Nat), .int .i64 ((t : Int) + 1)] := by rw [hw5]; exact fK4.drew
  have fK7 := fK5.below b57 fK5.lt
  have fV6 : Blk w6 VB 56 [.int .i64 vk, .int .i64 vn, .string ⟨#[]⟩, .slice none 0 0] := by rw [hw6, hVB]; exact Blk.new w5 _ _
  have fV7 : Blk w7 VB 56 [.int .i64 vk, .int .i64 vn, .string ⟨#[]⟩, .slice none 0 0] := by rw [hw7]; exact fV6.drew
  obtain ⟨q, hq⟩ : ∃ q, q = (mget l (f, t + 1)).getD (.slice none 0 0) := ⟨_, rfl⟩
  have h30 := HI.out.1.acs
  have ht30 : t < 30 := by have := (List.getElem?_eq_some_iff.1 ha).1; omega
  obtain ⟨hws, hcol⟩ := h3.ws.at_ (f, t + 1)
  rw [← hq, hwv] at hws
  rw [← hq] at hcol
  obtain ⟨n1, hn1⟩ : ∃ n1, n1 = r.length := ⟨_, rfl⟩
  rw [List.length_cons, ← hn1] at hws
  rcases id hws.2 with ⟨_, h0⟩ | ⟨g, off, c6, cur, rfl, bG, _⟩
  · omega
  have LK := fun (W : World) (hW : W.heap[M]? = w3.heap[M]?) => look_way h3.mp f (t + 1) (by omega) (by omega) W hW
  rw [← hq, show ((t + 1 : Nat) : Int) = (t : Int) + 1 by simp] at LK
  have lk5 := LK w5 (b35.block M h3.m_lt)
  have lk7 := LK w7 (b37.block M h3.m_lt)
  have v0 := hws.cells 0 (.int .i64 vk) rfl
  have v1 := hws.cells 1 (.int .i64 vn) rfl
  have v2 := hws.cells 2 (.string ⟨#[]⟩) rfl
  have v3 := hws.cells 3 (.slice none 0 0) rfl
  have lG := bG.lt
  rw [Nat.add_zero] at v0
  have c5 : ∀ (p : Nat) (j : Nat) (u : Value), p < w3.heap.size → w3.cell? ⟨p, j, none⟩ = some u → w5.cell? ⟨p, j, none⟩ = some u := fun p j u hp hu => (b35.cell (p := ⟨p, j, none⟩) hp).trans hu
  have c7 : ∀ (p : Nat) (j : Nat) (u : Value), p < w3.heap.size → w3.cell? ⟨p, j, none⟩ = some u → w7.cell? ⟨p, j, none⟩ = some u := fun p j u hp hu => (b37.cell (p := ⟨p, j, none⟩) hp).trans hu
  have k0 := fK5.cell 0
  have k1 := fK5.cell 1
  have k70 := fK7.cell 0
  have k71 := fK7.cell 1
  simp only [List.getElem?_cons_succ, List.getElem?_cons_zero] at k0 k1 k70 k71
  have hS5 : w5.cell? ⟨T, 2, none⟩ = some (.map (some M)) ∧ w5.cell? ⟨KB, 0, none⟩ = some (.int .i64 (f : Nat)) ∧ w5.cell? ⟨KB, 1, none⟩ = some (.int .i64 ((t : Int) + 1)) ∧ (Instr.lookup 73 (.map (some M)) (.agg #[.int .i64 (f : Nat), .int .i64 ((t : Int) + 1)]) false).run Tryd.prog w5 = .ok (.slice (some ⟨g, off, none⟩) (n1 + 1) c6) w5 ∧ w5.cell? ⟨g, off, none⟩ = some (.int .i64 vk) ∧ w5.cell? ⟨g, off + 1, none⟩ = some (.int .i64 vn) ∧ w5.cell? ⟨g, off + 2, none⟩ = some (.string ⟨#[]⟩) ∧ w5.cell? ⟨g, off + 3, none⟩ = some (.slice none 0 0) := ⟨c5 T 2 _ lT3 t2, k0, k1, lk5, c5 g off _ lG v0, c5 g _ _ lG v1, c5 g _ _ lG v2, c5 g _ _ lG v3⟩
  have hS7 : w7.cell? ⟨T, 2, none⟩ = some (.map (some M)) ∧ w7.cell? ⟨KB, 0, none⟩ = some (.int .i64 (f : Nat)) ∧ w7.cell? ⟨KB, 1, none⟩ = some (.int .i64 ((t : Int) + 1)) ∧ (Instr.lookup 73 (.map (some M)) (.agg #[.int .i64 (f : Nat), .int .i64 ((t : Int) + 1)]) false).run Tryd.prog w7 = .ok (.slice (some ⟨g, off, none⟩) (n1 + 1) c6) w7 := ⟨c7 T 2 _ lT3 t2, k70, k71, lk7⟩
  have lkz := LK (w5.alloc (.cells #[.int .i64 0, .int .i64 0, .string ⟨#[]⟩, .slice none 0 0] 56)) ((Below.heap_alloc w5 _ M (Nat.lt_of_lt_of_le h3.m_lt b35.size)).trans (b35.block M h3.m_lt))
  have az : ∀ (p : Nat) (j : Nat) (u : Value), p < w5.heap.size → w5.cell? ⟨p, j, none⟩ = some u → (w5.alloc (.cells #[.int .i64 0, .int .i64 0, .string ⟨#[]⟩, .slice none 0 0] 56)).cell? ⟨p, j, none⟩ = some u := fun p j u hp hu => (World.cell?_of_block (w := w5) (Below.heap_alloc w5 _ p hp)).trans hu
  have lT5 := Nat.lt_of_lt_of_le lT3 b35.size
  have lG5 := Nat.lt_of_lt_of_le lG b35.size
  have hSz : (w5.alloc (.cells #[.int .i64 0, .int .i64 0, .string ⟨#[]⟩, .slice none 0 0] 56)).cell? ⟨T, 2, none⟩ = some (.map (some M)) ∧ (w5.alloc (.cells #[.int .i64 0, .int .i64 0, .string ⟨#[]⟩, .slice none 0 0] 56)).cell? ⟨KB, 0, none⟩ = some (.int .i64 (f : Nat)) ∧ (w5.alloc (.cells #[.int .i64 0, .int .i64 0, .string ⟨#[]⟩, .slice none 0 0] 56)).cell? ⟨KB, 1, none⟩ = some (.int .i64 ((t : Int) + 1)) ∧ (Instr.lookup 73 (.map (some M)) (.agg #[.int .i64 (f : Nat), .int .i64 ((t : Int) + 1)]) false).run Tryd.prog (w5.alloc (.cells #[.int .i64 0, .int .i64 0, .string ⟨#[]⟩, .slice none 0 0] 56)) = .ok (.slice (some ⟨g, off, none⟩) (n1 + 1) c6) (w5.alloc (.cells #[.int .i64 0, .int .i64 0, .string ⟨#[]⟩, .slice none 0 0] 56)) ∧ (w5.alloc (.cells #[.int .i64 0, .int .i64 0, .string ⟨#[]⟩, .slice none 0 0] 56)).cell? ⟨g, off, none⟩ = some (.int .i64 vk) ∧ (w5.alloc (.cells #[.int .i64 0, .int .i64 0, .string ⟨#[]⟩, .slice none 0 0] 56)).cell? ⟨g, off + 1, none⟩ = some (.int .i64 vn) ∧ (w5.alloc (.cells #[.int .i64 0, .int .i64 0, .string ⟨#[]⟩, .slice none 0 0] 56)).cell? ⟨g, off + 2, none⟩ = some (.string ⟨#[]⟩) ∧ (w5.alloc (.cells #[.int .i64 0, .int .i64 0, .string ⟨#[]⟩, .slice none 0 0] 56)).cell? ⟨g, off + 3, none⟩ = some (.slice none 0 0) := ⟨az T 2 _ lT5 hS5.1, az KB 0 _ fK5.lt k0, az KB 1 _ fK5.lt k1, lkz, az g off _ lG5 hS5.2.2.2.2.1, az g _ _ lG5 hS5.2.2.2.2.2.1, az g _ _ lG5 hS5.2.2.2.2.2.2.1, az g _ _ lG5 hS5.2.2.2.2.2.2.2⟩
  -- the way's tail
  obtain ⟨v', hsl, sgt, owt⟩ := Seg.tail (P := Tryd.prog) 54 Tryd.underlying54 (by kernel_rfl) (n := n1) hws
  have ed : (cat vlC (⟨vk, vn⟩ :: r)).drop 4 = cat vlC r := rfl
  rw [ed] at sgt
  obtain ⟨w8, hup, hm8, hg8⟩ := put_way (h3.mp.below b37) f (t + 1) (by omega) (by omega) v'
  rw [show ((t + 1 : Nat) : Int) = (t : Int) + 1 by simp] at hup
  have h7 := h3.below b37 (.way (f, t + 1))
  have hcol7 : ∀ b, v'.ownBlock = some b → recol col3 w3.heap.size (.way (f, t + 1)) b = .way (f, t + 1) := fun b hb => by
    rw [owt] at hb
    rw [recol_old (hws.lt b hb)]
    exact hcol b hb
  have sg7 : Seg w7 56 4 v' n1 (cat vlC r) := sgt.keep fun b hb => b37.block b (sgt.lt b hb)
  have nVM : ∀ b, v'.ownBlock = some b → b ≠ M := fun b hb => by
    obtain ⟨cur, hk⟩ := sg7.kind hb
    exact MapOf.no_blk h7.mp hk
  have sg8 : Seg w8 56 4 v' r.length (cat vlC r) := by
    rw [← hn1]
    exact sg7.keep fun b hb => hg8.block b (sg7.lt b hb) (fun e => nVM b hb (by injection e))
  obtain ⟨h8, st8⟩ := h7.way (f, t + 1) (v := v') (x := r) (GrownIn.of_grown (own := fun b => recol col3 w3.heap.size (.way (f, t + 1)) b = .way (f, t + 1) ∨ b = M) hg8 fun b hb => .inr (by injection hb with hb; exact hb.symm)) hm8 sg8 (fun b hb => by rw [recol_old (sg7.lt b hb)]; exact hcol7 b hb)
  have st38 := (H3.out.2.1.trans (Stp.below b37 (.way (f, t + 1)))).trans st8
  have cV8 : recol (recol col3 w3.heap.size (.way (f, t + 1))) w7.heap.size (.way (f, t + 1)) VB = .way (f, t + 1) := by
    rw [recol_old fV7.lt, recol_new (by rw [hVB]; exact b35.size)]
  generalize recol (recol col3 w3.heap.size (.way (f, t + 1))) w7.heap.size (.way (f, t + 1)) = col8 at h8 st38 cV8
  have nXM : X ≠ M := MapOf.no_blk h3.mp H3.out.2.2
  have fX8 : Blk w8 X 36 [.int .i64 2, .int .i64 (f : Nat), .int .i64 ((t : Int) + 1)] := (H3.out.2.2.below b37 H3.out.2.2.lt).grown hg8 (fun e => nXM (by injection e))
  have nVBM : VB ≠ M := MapOf.no_blk h7.mp fV7
  have fV8 := fV7.grown hg8 (fun e => nVBM (by injection e))
  have ha8 : ({ s with ways := mput s.ways (f, t + 1) r } : Wd).acs[t]? = some a := ha
  obtain ⟨AA, ac, rfl, hac, _⟩ := h8.rw_.form
  obtain ⟨ba, oa, S, Y, bv, rfl, hcell, hp, hA⟩ := h8.ptr ha8
  obtain ⟨L, hLe⟩ : ∃ L, L = s.acs.length := ⟨_, rfl⟩
  have t81 := h8.blk.cell 1
  have x82 := fX8.cell 2
  simp only [List.getElem?_cons_succ, List.getElem?_cons_zero] at t81 x82
  have htl : t < L := by rw [hLe]; exact (List.getElem?_eq_some_iff.1 ha).1
  have eL : ({ s with ways := mput s.ways (f, t + 1) r } : Wd).acs.length = L := hLe.symm
  rw [eL] at t81 hac
  have i1 : (t : Int) < (L : Int) := by omega
  have i0 : (0 : Int) ≤ (t : Int) := by omega
  have iw : IntKind.i64.wrap (t : Int) = (t : Int) := IntWalk.i64_in _ (by omega)
  have n0 : (0 : Int) < ((n1 : Int) + 1) := by omega
  have s85 := hA.blk.cell 5
  have s81 := hA.blk.cell 1
  simp only [acC, List.getElem?_cons_succ, List.getElem?_cons_zero] at s85 s81
  have lS8 := hA.blk.lt
  have lba := lt_of_cell hcell
  have lX8 := fX8.lt
  have lT8 := h8.blk.lt
  rw [hen] at s85
  have HX8 := Lib.hid cV8
  have H8 := Lib.hid (And.intro h8 (And.intro hA (And.intro st38 (And.intro hp (And.intro fV8 ha8)))))
  have HW4 := Lib.hid hw4
  have HKB := Lib.hid hKB
  have HW5 := Lib.hid hw5
  have HVB := Lib.hid hVB
  have HW6 := Lib.hid hw6
  have HW7 := Lib.hid hw7
  have HLe := Lib.hid hLe
  have HN1 := Lib.hid hn1
  clear hw4 hKB hw5 hVB hw6 hw7 b34 b35 b56 b57 b37 fK4 fK5 fK7 fV6 fV7 hq hws hcol hwv LK lk5 lk7 v0 v1 v2 v3 c5 c7 k0 k1 k70 k71 lkz az lT5 lG5 lG ed sgt owt hm8 hg8 h7 hcol7 sg7 nVM sg8 h8 st8 nXM fX8 nVBM fV8 ha8 hLe eL hA hp st38 cV8 bG hm ha h3 hn1 hf t1 t2 hac
  go_wp2_with (fail)
  rw [← HW4.out, ← HKB.out]
  refine wp_region_g (S := fun W => W.cell? ⟨T, 2, none⟩ = some (.map (some M)) ∧ W.cell? ⟨KB, 0, none⟩ = some (.int .i64 (f : Nat)) ∧ W.cell? ⟨KB, 1, none⟩ = some (.int .i64 ((t : Int) + 1)) ∧ (Instr.lookup 73 (.map (some M)) (.agg #[.int .i64 (f : Nat), .int .i64 ((t : Int) + 1)]) false).run Tryd.prog W = .ok (.slice (some ⟨g, off, none⟩) (n1 + 1) c6) W ∧ W.cell? ⟨g, off, none⟩ = some (.int .i64 vk) ∧ W.cell? ⟨g, off + 1, none⟩ = some (.int .i64 vn) ∧ W.cell? ⟨g, off + 2, none⟩ = some (.string ⟨#[]⟩) ∧ W.cell? ⟨g, off + 3, none⟩ = some (.slice none 0 0)) (m := 9) (by kernel_rfl) ?_
  rw [← HW5.out]
  have hS := hS5
  repeat (first | (refine wpAnyG_take (i := 0) (v := .pointer (some ⟨T, 0, none⟩)) rfl ?_ ?_ ?_ (fun _ _ _ h => h) (Or.inl ⟨by rfl, ?_⟩) hS ?_; (· decide +kernel); (· decide +kernel); (· decide +kernel); (· (intro w' hS'; obtain ⟨hS0, hS1, hS2, hS3, hS4, hS5, hS6, hS7⟩ := hS'; go_simp))) | (refine wpAnyG_take (i := 1) (v := .pointer (some ⟨T, 0, none⟩)) rfl ?_ ?_ ?_ (fun _ _ _ h => h) (Or.inl ⟨by rfl, ?_⟩) hS ?_; (· decide +kernel); (· decide +kernel); (· decide +kernel); (· (intro w' hS'; obtain ⟨hS0, hS1, hS2, hS3, hS4, hS5, hS6, hS7⟩ := hS'; go_simp))) | (refine wpAnyG_take (i := 2) (v := .pointer (some ⟨T, 2, none⟩)) rfl ?_ ?_ ?_ (fun _ _ _ h => h) (Or.inl ⟨by rfl, ?_⟩) hS ?_; (· decide +kernel); (· decide +kernel); (· decide +kernel); (· (intro w' hS'; obtain ⟨hS0, hS1, hS2, hS3, hS4, hS5, hS6, hS7⟩ := hS'; go_simp))) | (refine wpAnyG_take (i := 3) (v := .map (some M)) rfl ?_ ?_ ?_ (fun _ _ _ h => h) (Or.inl ⟨by rfl, ?_⟩) hS ?_; (· decide +kernel); (· decide +kernel); (· decide +kernel); (· (intro w' hS'; obtain ⟨hS0, hS1, hS2, hS3, hS4, hS5, hS6, hS7⟩ := hS'; go_simp))) | (refine wpAnyG_take (i := 4) (v := .agg #[.int .i64 (f : Nat), .int .i64 ((t : Int) + 1)]) rfl ?_ ?_ ?_ (fun _ _ _ h => h) (Or.inl ⟨by rfl, ?_⟩) hS ?_; (· decide +kernel); (· decide +kernel); (· decide +kernel); (· (intro w' hS'; obtain ⟨hS0, hS1, hS2, hS3, hS4, hS5, hS6, hS7⟩ := hS'; go_simp))) | (refine wpAnyG_take (i := 5) (v := .slice (some ⟨g, off, none⟩) (n1 + 1) c6) rfl ?_ ?_ ?_ (fun _ _ _ h => h) (Or.inl ⟨by rfl, ?_⟩) hS ?_; (· decide +kernel); (· decide +kernel); (· decide +kernel); (· (intro w' hS'; obtain ⟨hS0, hS1, hS2, hS3, hS4, hS5, hS6, hS7⟩ := hS'; go_simp))) | (refine wpAnyG_take (i := 6) (v := .pointer (some ⟨g, off, none⟩)) rfl ?_ ?_ ?_ (fun _ _ _ h => h) (Or.inl ⟨by rfl, ?_⟩) hS ?_; (· decide +kernel); (· decide +kernel); (· decide +kernel); (· (intro w' hS'; obtain ⟨hS0, hS1, hS2, hS3, hS4, hS5, hS6, hS7⟩ := hS'; go_simp))) | (refine wpAnyG_take (i := 7) (v := .agg #[.int .i64 vk, .int .i64 vn, .string ⟨#[]⟩, .slice none 0 0]) rfl ?_ ?_ ?_ (fun _ _ _ h => h) (Or.inl ⟨by rfl, ?_⟩) hS ?_; (· decide +kernel); (· decide +kernel); (· decide +kernel); (· (intro w' hS'; obtain ⟨hS0, hS1, hS2, hS3, hS4, hS5, hS6, hS7⟩ := hS'; go_simp))))
  refine wpAnyG_ready (rs := [8]) (by decide +kernel) (by simp) ?_
  refine AllReadyG.cons rfl (fun K hK => ?_) AllReadyG.nil
  go_simp
  refine hK _ _ (fun _ => hSz) ?_
  clear hK K hS hS5 hSz
  refine wpAnyG_ready (rs := [9]) (by decide +kernel) (by simp) ?_
  refine AllReadyG.cons rfl (fun K hK => ?_) AllReadyG.nil
  go_simp
  refine hK _ _ (fun h => absurd h (by decide)) ?_
  clear hK K
  refine wpAnyG_done (by decide +kernel) ?_ _
  rw [← HVB.out, ← HW6.out]
  go_wp2_with (fail)
  refine wp_region_g (S := fun W => W.cell? ⟨T, 2, none⟩ = some (.map (some M)) ∧ W.cell? ⟨KB, 0, none⟩ = some (.int .i64 (f : Nat)) ∧ W.cell? ⟨KB, 1, none⟩ = some (.int .i64 ((t : Int) + 1)) ∧ (Instr.lookup 73 (.map (some M)) (.agg #[.int .i64 (f : Nat), .int .i64 ((t : Int) + 1)]) false).run Tryd.prog W = .ok (.slice (some ⟨g, off, none⟩) (n1 + 1) c6) W) (m := 12) (by kernel_rfl) ?_
  rw [← HW7.out]
  have hS := hS7
  repeat (first | (refine wpAnyG_take (i := 0) (v := .pointer (some ⟨T, 0, none⟩)) rfl ?_ ?_ ?_ (fun _ _ _ h => h) (Or.inl ⟨by rfl, ?_⟩) hS ?_; (· decide +kernel); (· decide +kernel); (· decide +kernel); (· (intro w' hS'; obtain ⟨hS0, hS1, hS2, hS3⟩ := hS'; go_simp))) | (refine wpAnyG_take (i := 1) (v := .pointer (some ⟨T, 0, none⟩)) rfl ?_ ?_ ?_ (fun _ _ _ h => h) (Or.inl ⟨by rfl, ?_⟩) hS ?_; (· decide +kernel); (· decide +kernel); (· decide +kernel); (· (intro w' hS'; obtain ⟨hS0, hS1, hS2, hS3⟩ := hS'; go_simp))) | (refine wpAnyG_take (i := 2) (v := .pointer (some ⟨T, 2, none⟩)) rfl ?_ ?_ ?_ (fun _ _ _ h => h) (Or.inl ⟨by rfl, ?_⟩) hS ?_; (· decide +kernel); (· decide +kernel); (· decide +kernel); (· (intro w' hS'; obtain ⟨hS0, hS1, hS2, hS3⟩ := hS'; go_simp))) | (refine wpAnyG_take (i := 3) (v := .map (some M)) rfl ?_ ?_ ?_ (fun _ _ _ h => h) (Or.inl ⟨by rfl, ?_⟩) hS ?_; (· decide +kernel); (· decide +kernel); (· decide +kernel); (· (intro w' hS'; obtain ⟨hS0, hS1, hS2, hS3⟩ := hS'; go_simp))) | (refine wpAnyG_take (i := 4) (v := .agg #[.int .i64 (f : Nat), .int .i64 ((t : Int) + 1)]) rfl ?_ ?_ ?_ (fun _ _ _ h => h) (Or.inl ⟨by rfl, ?_⟩) hS ?_; (· decide +kernel); (· decide +kernel); (· decide +kernel); (· (intro w' hS'; obtain ⟨hS0, hS1, hS2, hS3⟩ := hS'; go_simp))) | (refine wpAnyG_take (i := 5) (v := .pointer (some ⟨T, 0, none⟩)) rfl ?_ ?_ ?_ (fun _ _ _ h => h) (Or.inl ⟨by rfl, ?_⟩) hS ?_; (· decide +kernel); (· decide +kernel); (· decide +kernel); (· (intro w' hS'; obtain ⟨hS0, hS1, hS2, hS3⟩ := hS'; go_simp))) | (refine wpAnyG_take (i := 6) (v := .pointer (some ⟨T, 0, none⟩)) rfl ?_ ?_ ?_ (fun _ _ _ h => h) (Or.inl ⟨by rfl, ?_⟩) hS ?_; (· decide +kernel); (· decide +kernel); (· decide +kernel); (· (intro w' hS'; obtain ⟨hS0, hS1, hS2, hS3⟩ := hS'; go_simp))) | (refine wpAnyG_take (i := 7) (v := .pointer (some ⟨T, 2, none⟩)) rfl ?_ ?_ ?_ (fun _ _ _ h => h) (Or.inl ⟨by rfl, ?_⟩) hS ?_; (· decide +kernel); (· decide +kernel); (· decide +kernel); (· (intro w' hS'; obtain ⟨hS0, hS1, hS2, hS3⟩ := hS'; go_simp))) | (refine wpAnyG_take (i := 8) (v := .map (some M)) rfl ?_ ?_ ?_ (fun _ _ _ h => h) (Or.inl ⟨by rfl, ?_⟩) hS ?_; (· decide +kernel); (· decide +kernel); (· decide +kernel); (· (intro w' hS'; obtain ⟨hS0, hS1, hS2, hS3⟩ := hS'; go_simp))) | (refine wpAnyG_take (i := 9) (v := .agg #[.int .i64 (f : Nat), .int .i64 ((t : Int) + 1)]) rfl ?_ ?_ ?_ (fun _ _ _ h => h) (Or.inl ⟨by rfl, ?_⟩) hS ?_; (· decide +kernel); (· decide +kernel); (· decide +kernel); (· (intro w' hS'; obtain ⟨hS0, hS1, hS2, hS3⟩ := hS'; go_simp))) | (refine wpAnyG_take (i := 10) (v := .slice (some ⟨g, off, none⟩) (n1 + 1) c6) rfl ?_ ?_ ?_ (fun _ _ _ h => h) (Or.inl ⟨by rfl, ?_⟩) hS ?_; (· decide +kernel); (· decide +kernel); (· decide +kernel); (· (intro w' hS'; obtain ⟨hS0, hS1, hS2, hS3⟩ := hS'; go_simp))) | (refine wpAnyG_take (i := 11) (v := v') rfl ?_ ?_ ?_ (fun _ _ _ h => h) (Or.inl ⟨by rfl, ?_⟩) hS ?_; (· decide +kernel); (· decide +kernel); (· decide +kernel); (· (intro w' hS'; obtain ⟨hS0, hS1, hS2, hS3⟩ := hS'; go_simp))))
  refine wpAnyG_ready (rs := [12]) (by decide +kernel) (by simp) ?_
  refine AllReadyG.cons rfl (fun K hK => ?_) AllReadyG.nil
  go_simp
  refine hK _ _ (fun h => absurd h (by decide)) ?_
  clear hK K hS hS7 hup hsl
  refine wpAnyG_done (by decide +kernel) ?_ _
  go_wp2_with (fail)
  go_quiet (fail)
  go_wp2_with (fail)
  go_ret
  exact ⟨rfl, col8, ⟨_, _, _, _, _, _, _, H8.out.1.heapEq rfl⟩, H8.out.2.2.1.drewN nq⟩
set_option maxRecDepth 100000 in
set_option maxHeartbeats 4000000 in
theorem take_come1 (w : World) (B T : Nat) (col : Nat → Cl) (s : Wd) {A : Option Addr} {c : Nat} {av : Value} {ps : List Value} {M : Nat} {l : List ((Nat × Nat) × Value)} {sv : Value} (h : WdW w B T col s A c av ps M l sv) {n : Nat} (hI : Inv s n) (hn : n ≤ 300000) (f t : Nat) (v : Vl) (r : List Vl) (a : Ac) (hf : f ≤ s.acs.length) (ha : s.acs[t]? = some a) (hwv : wayF s (f, t + 1) = v :: r) (hen : a.ended = false) (hm : (⟨2, (f : Int), (t : Int) + 1⟩ : Ch) ∈ choicesF s) :
    Calls Tryd.prog 18 #[.pointer (some ⟨T, 0, none⟩), .agg #[.int .i64 2, .int .i64 (f : Nat), .int .i64 ((t : Int) + 1)]] w (WPost w B T col (setA { s with ways := mput s.ways (f, t + 1) r } t { a with box := a.box ++ [v] }) (.int .i64 0)) := by
  obtain ⟨w1, hw1⟩ : ∃ w1, w1 = w.alloc (.cells #[.int .i64 2, .int .i64 (f : Nat), .int .i64 ((t : Int) + 1)] 36) := ⟨_, rfl⟩
  obtain ⟨X, hX⟩ : ∃ X, X = w.heap.size := ⟨_, rfl⟩
  obtain ⟨wd, hwd⟩ : ∃ wd, wd = w1.drew := ⟨_, rfl⟩
  have b1 : Below w.heap.size w w1 := by rw [hw1]; exact (Below.refl _ _).alloc (Nat.le_refl _) _
  have bd : Below w.heap.size w wd := by rw [hwd]; exact b1.drew
  have fX : Blk w1 X 36 [.int .i64 2, .int .i64 (f : Nat), .int .i64 ((t : Int) + 1)] := by rw [hw1, hX]; exact Blk.new w _ _
  have fXd : Blk wd X 36 [.int .i64 2, .int .i64 (f : Nat), .int .i64 ((t : Int) + 1)] := by rw [hwd]; exact fX.drew
  have hd := h.below bd .base
  have CHO := Lib.hid (choices_any wd B T _ s hd hI.acs (fun k => Nat.le_trans (hI.ways k) (by omega)) (fun i a ha => Nat.le_trans (hI.box i a ha) (by omega)))
  have x0 := fXd.cell 0
  have x1 := fXd.cell 1
  have x2 := fXd.cell 2
  simp only [List.getElem?_cons_succ, List.getElem?_cons_zero] at x0 x1 x2
  have lX := fXd.lt
  have HW1 := Lib.hid hw1
  have HWD := Lib.hid hwd
  have HX := Lib.hid hX
  have H := Lib.hid (And.intro h (And.intro bd fXd))
  have HI := Lib.hid (And.intro hI hn)
  clear hw1 hwd hX b1 bd fX fXd hd h hI hn
  go_enter Tryd.func18, Tryd.ntmps18
  go_wp2_with (fail)
  rw [← HW1.out, ← HX.out]
  refine wp_region_g (S := fun W => W.cell? ⟨X, 0, none⟩ = some (.int .i64 2) ∧ W.cell? ⟨X, 1, none⟩ = some (.int .i64 (f : Nat)) ∧ W.cell? ⟨X, 2, none⟩ = some (.int .i64 ((t : Int) + 1))) (m := 3) (by kernel_rfl) ?_
  rw [← HWD.out]
  have hS : wd.cell? ⟨X, 0, none⟩ = some (.int .i64 2) ∧ wd.cell? ⟨X, 1, none⟩ = some (.int .i64 (f : Nat)) ∧ wd.cell? ⟨X, 2, none⟩ = some (.int .i64 ((t : Int) + 1)) := ⟨x0, x1, x2⟩
  repeat (first | (refine wpAnyG_take (i := 0) (v := .pointer (some ⟨T, 0, none⟩)) rfl ?_ ?_ ?_ (fun _ _ _ h => h) (Or.inl ⟨by rfl, ?_⟩) hS ?_; (· decide +kernel); (· decide +kernel); (· decide +kernel); (· (intro w' hS'; obtain ⟨hS0, hS1, hS2⟩ := hS'; go_simp))) | (refine wpAnyG_take (i := 2) (v := .agg #[.int .i64 2, .int .i64 (f : Nat), .int .i64 ((t : Int) + 1)]) rfl ?_ ?_ ?_ (fun _ _ _ h => h) (Or.inl ⟨by rfl, ?_⟩) hS ?_; (· decide +kernel); (· decide +kernel); (· decide +kernel); (· (intro w' hS'; obtain ⟨hS0, hS1, hS2⟩ := hS'; go_simp))))
  refine wpAnyG_ready (rs := [1]) (by decide +kernel) (by simp) ?_
  refine AllReadyG.cons rfl (fun K hK => ?_) AllReadyG.nil
  go_simp
  refine CHO.out.mono ?_
  rintro e w2 ⟨CA, cn, cc, rfl, hcn, hcc, hcm, hcr, hb2⟩
  try dsimp only
  have hS2 : w2.cell? ⟨X, 0, none⟩ = some (.int .i64 2) ∧ w2.cell? ⟨X, 1, none⟩ = some (.int .i64 (f : Nat)) ∧ w2.cell? ⟨X, 2, none⟩ = some (.int .i64 ((t : Int) + 1)) := ⟨(hb2.cell (p := ⟨X, 0, none⟩) lX).trans x0, (hb2.cell (p := ⟨X, 1, none⟩) lX).trans x1, (hb2.cell (p := ⟨X, 2, none⟩) lX).trans x2⟩
  have CON := contains_any CA cn cc (choicesF s) ⟨2, (f : Nat), ((t : Int) + 1)⟩ w2 (hcr.imp (by omega) fun _ _ _ => trivial) hcn (by have := choices_len HI.out.1.acs; omega)
  rw [decide_eq_true hm] at CON
  have HC := Lib.hid CON
  have HB2 := Lib.hid hb2
  refine hK _ _ (fun _ => hS2) ?_
  clear hK K hcn hcc hcm hcr hb2 CON CHO x0 x1 x2 hS hS2
  refine wpAnyG_ready (rs := [3]) (by decide +kernel) (by simp) ?_
  refine AllReadyG.cons rfl (fun K hK => ?_) AllReadyG.nil
  go_simp
  refine HC.out.mono ?_
  rintro e w3 ⟨rfl, hb3⟩
  try dsimp only
  obtain ⟨hw, bd, fXd⟩ := H.out
  have hbX : Below w.heap.size w w3 := (bd.trans (HB2.out.mono bd.size)).trans (hb3.mono (Nat.le_trans bd.size HB2.out.size))
  have fX3 := (fXd.below HB2.out fXd.lt).below hb3 (Nat.lt_of_lt_of_le fXd.lt HB2.out.size)
  have h3 := hw.below hbX .base
  have st3 := Stp.below (col := col) hbX .base
  have x0 := fX3.cell 0
  have x1 := fX3.cell 1
  have x2 := fX3.cell 2
  have t1 := h3.blk.cell 1
  have t2 := h3.blk.cell 2
  simp only [List.getElem?_cons_succ, List.getElem?_cons_zero] at x0 x1 x2 t1 t2
  have lX3 := fX3.lt
  have lT3 := h3.blk.lt
  have nXT : X ≠ T := fX3.ne_ h3.blk (by decide)
  generalize recol col w.heap.size .base = col3 at h3 st3
  have H3 := Lib.hid (And.intro h3 (And.intro st3 fX3))
  refine hK _ _ (fun h => absurd h (by decide)) ?_
  clear hK K hw bd fXd hbX fX3 h3 st3 hb3 HB2 HC H lX HW1 HWD
  refine wpAnyG_ready (rs := [4]) (by decide +kernel) (by simp) ?_
  refine AllReadyG.cons rfl (fun K hK => ?_) AllReadyG.nil
  go_simp
  refine hK _ _ (fun h => absurd h (by decide)) ?_
  clear hK K
  refine wpAnyG_done (by decide +kernel) ?_ _
  obtain ⟨vk, vn⟩ := v
  have h3 := H3.out.1
  obtain ⟨w4, hw4⟩ : ∃ W, W = w3.alloc (.cells #[.int .i64 (f : Nat), .int .i64 ((t : Int) + 1)] 82) := ⟨_, rfl⟩
  obtain ⟨KB, hKB⟩ : ∃ b, b = w3.heap.size := ⟨_, rfl⟩
  obtain ⟨w5, hw5⟩ : ∃ W, W = w4.drew := ⟨_, rfl⟩
  obtain ⟨VB, hVB⟩ : ∃ b, b = w5.heap.size := ⟨_, rfl⟩
  obtain ⟨w6, hw6⟩ : ∃ W, W = w5.alloc (.cells #[.int .i64 vk, .int .i64 vn, .string ⟨#[]⟩, .slice none 0 0] 56) := ⟨_, rfl⟩
  obtain ⟨w7, hw7⟩ : ∃ W, W = w6.drew := ⟨_, rfl⟩
  have b34 : Below w3.heap.size w3 w4 := by rw [hw4]; exact (Below.refl _ _).alloc (Nat.le_refl _) _
  have b35 : Below w3.heap.size w3 w5 := by rw [hw5]; exact b34.drew
  have b56 : Below w5.heap.size w5 w6 := by rw [hw6]; exact (Below.refl _ _).alloc (Nat.le_refl _) _
  have b57 : Below w5.heap.size w5 w7 := by rw [hw7]; exact b56.drew
  have b37 : Below w3.heap.size w3 w7 := b35.trans (b57.mono b35.size)
  have fK4 : Blk w4 KB 82 [.int .i64 (f : Nat), .int .i64 ((t : Int) + 1)] := by rw [hw4, hKB]; exact Blk.new w3 _ _
  have fK5 : Blk w5 KB 82 [.int .i64 (f : Nat), .int .i64 ((t : Int) + 1)] := by rw [hw5]; exact fK4.drew
  have fK7 := fK5.below b57 fK5.lt
  have fV6 : Blk w6 VB 56 [.int .i64 vk, .int .i64 vn, .string ⟨#[]⟩, .slice none 0 0] := by rw [hw6, hVB]; exact Blk.new w5 _ _
  have fV7 : Blk w7 VB 56 [.int .i64 vk, .int .i64 vn, .string ⟨#[]⟩, .slice none 0 0] := by rw [hw7]; exact fV6.drew
  obtain ⟨q, hq⟩ : ∃ q, q = (mget l (f, t + 1)).getD (.slice none 0 0) := ⟨_, rfl⟩
  have h30 := HI.out.1.acs
  have ht30 : t < 30 := by have := (List.getElem?_eq_some_iff.1 ha).1; omega
  obtain ⟨hws, hcol⟩ := h3.ws.at_ (f, t + 1)
  rw [← hq, hwv] at hws
  rw [← hq] at hcol
  obtain ⟨n1, hn1⟩ : ∃ n1, n1 = r.length := ⟨_, rfl⟩
  rw [List.length_cons, ← hn1] at hws
  rcases id hws.2 with ⟨_, h0⟩ | ⟨g, off, c6, cur, rfl, bG, _⟩
  · omega
  have LK := fun (W : World) (hW : W.heap[M]? = w3.heap[M]?) => look_way h3.mp f (t + 1) (by omega) (by omega) W hW
  rw [← hq, show ((t + 1 : Nat) : Int) = (t : Int) + 1 by simp] at LK
  have lk5 := LK w5 (b35.block M h3.m_lt)
  have lk7 := LK w7 (b37.block M h3.m_lt)
  have v0 := hws.cells 0 (.int .i64 vk) rfl
  have v1 := hws.cells 1 (.int .i64 vn) rfl
  have v2 := hws.cells 2 (.string ⟨#[]⟩) rfl
  have v3 := hws.cells 3 (.slice none 0 0) rfl
  have lG := bG.lt
  rw [Nat.add_zero] at v0
  have c5 : ∀ (p : Nat) (j : Nat) (u : Value), p < w3.heap.size → w3.cell? ⟨p, j, none⟩ = some u → w5.cell? ⟨p, j, none⟩ = some u := fun p j u hp hu => (b35.cell (p := ⟨p, j, none⟩) hp).trans hu
  have c7 : ∀ (p : Nat) (j : Nat) (u : Value), p < w3.heap.size → w3.cell? ⟨p, j, none⟩ = some u → w7.cell? ⟨p, j, none⟩ = some u := fun p j u hp hu => (b37.cell (p := ⟨p, j, none⟩) hp).trans hu
  have k0 := fK5.cell 0
  have k1 := fK5.cell 1
  have k70 := fK7.cell 0
  have k71 := fK7.cell 1
  simp only [List.getElem?_cons_succ, List.getElem?_cons_zero] at k0 k1 k70 k71
  have hS5 : w5.cell? ⟨T, 2, none⟩ = some (.map (some M)) ∧ w5.cell? ⟨KB, 0, none⟩ = some (.int .i64 (f : Nat)) ∧ w5.cell? ⟨KB, 1, none⟩ = some (.int .i64 ((t : Int) + 1)) ∧ (Instr.lookup 73 (.map (some M)) (.agg #[.int .i64 (f : Nat), .int .i64 ((t : Int) + 1)]) false).run Tryd.prog w5 = .ok (.slice (some ⟨g, off, none⟩) (n1 + 1) c6) w5 ∧ w5.cell? ⟨g, off, none⟩ = some (.int .i64 vk) ∧ w5.cell? ⟨g, off + 1, none⟩ = some (.int .i64 vn) ∧ w5.cell? ⟨g, off + 2, none⟩ = some (.string ⟨#[]⟩) ∧ w5.cell? ⟨g, off + 3, none⟩ = some (.slice none 0 0) := ⟨c5 T 2 _ lT3 t2, k0, k1, lk5, c5 g off _ lG v0, c5 g _ _ lG v1, c5 g _ _ lG v2, c5 g _ _ lG v3⟩
  have hS7 : w7.cell? ⟨T, 2, none⟩ = some (.map (some M)) ∧ w7.cell? ⟨KB, 0, none⟩ = some (.int .i64 (f : Nat)) ∧ w7.cell? ⟨KB, 1, none⟩ = some (.int .i64 ((t : Int) + 1)) ∧ (Instr.lookup 73 (.map (some M)) (.agg #[.int .i64 (f : Nat), .int .i64 ((t : Int) + 1)]) false).run Tryd.prog w7 = .ok (.slice (some ⟨g, off, none⟩) (n1 + 1) c6) w7 := ⟨c7 T 2 _ lT3 t2, k70, k71, lk7⟩
  have lkz := LK (w5.alloc (.cells #[.int .i64 0, .int .i64 0, .string ⟨#[]⟩, .slice none 0 0] 56)) ((Below.heap_alloc w5 _ M (Nat.lt_of_lt_of_le h3.m_lt b35.size)).trans (b35.block M h3.m_lt))
  have az : ∀ (p : Nat) (j : Nat) (u : Value), p < w5.heap.size → w5.cell? ⟨p, j, none⟩ = some u → (w5.alloc (.cells #[.int .i64 0, .int .i64 0, .string ⟨#[]⟩, .slice none 0 0] 56)).cell? ⟨p, j, none⟩ = some u := fun p j u hp hu => (World.cell?_of_block (w := w5) (Below.heap_alloc w5 _ p hp)).trans hu
  have lT5 := Nat.lt_of_lt_of_le lT3 b35.size
  have lG5 := Nat.lt_of_lt_of_le lG b35.size
  have hSz : (w5.alloc (.cells #[.int .i64 0, .int .i64 0, .string ⟨#[]⟩, .slice none 0 0] 56)).cell? ⟨T, 2, none⟩ = some (.map (some M)) ∧ (w5.alloc (.cells #[.int .i64 0, .int .i64 0, .string ⟨#[]⟩, .slice none 0 0] 56)).cell? ⟨KB, 0, none⟩ = some (.int .i64 (f : Nat)) ∧ (w5.alloc (.cells #[.int .i64 0, .int .i64 0, .string ⟨#[]⟩, .slice none 0 0] 56)).cell? ⟨KB, 1, none⟩ = some (.int .i64 ((t : Int) + 1)) ∧ (Instr.lookup 73 (.map (some M)) (.agg #[.int .i64 (f : Nat), .int .i64 ((t : Int) + 1)]) false).run Tryd.prog (w5.alloc (.cells #[.int .i64 0, .int .i64 0, .string ⟨#[]⟩, .slice none 0 0] 56)) = .ok (.slice (some ⟨g, off, none⟩) (n1 + 1) c6) (w5.alloc (.cells #[.int .i64 0, .int .i64 0, .string ⟨#[]⟩, .slice none 0 0] 56)) ∧ (w5.alloc (.cells #[.int .i64 0, .int .i64 0, .string ⟨#[]⟩, .slice none 0 0] 56)).cell? ⟨g, off, none⟩ = some (.int .i64 vk) ∧ (w5.alloc (.cells #[.int .i64 0, .int .i64 0, .string ⟨#[]⟩, .slice none 0 0] 56)).cell? ⟨g, off + 1, none⟩ = some (.int .i64 vn) ∧ (w5.alloc (.cells #[.int .i64 0, .int .i64 0, .string ⟨#[]⟩, .slice none 0 0] 56)).cell? ⟨g, off + 2, none⟩ = some (.string ⟨#[]⟩) ∧ (w5.alloc (.cells #[.int .i64 0, .int .i64 0, .string ⟨#[]⟩, .slice none 0 0] 56)).cell? ⟨g, off + 3, none⟩ = some (.slice none 0 0) := ⟨az T 2 _ lT5 hS5.1, az KB 0 _ fK5.lt k0, az KB 1 _ fK5.lt k1, lkz, az g off _ lG5 hS5.2.2.2.2.1, az g _ _ lG5 hS5.2.2.2.2.2.1, az g _ _ lG5 hS5.2.2.2.2.2.2.1, az g _ _ lG5 hS5.2.2.2.2.2.2.2⟩
  -- the way's tail
  obtain ⟨v', hsl, sgt, owt⟩ := Seg.tail (P := Tryd.prog) 54 Tryd.underlying54 (by kernel_rfl) (n := n1) hws
  have ed : (cat vlC (⟨vk, vn⟩ :: r)).drop 4 = cat vlC r := rfl
  rw [ed] at sgt
  obtain ⟨w8, hup, hm8, hg8⟩ := put_way (h3.mp.below b37) f (t + 1) (by omega) (by omega) v'
  rw [show ((t + 1 : Nat) : Int) = (t : Int) + 1 by simp] at hup
  have h7 := h3.below b37 (.way (f, t + 1))
  have hcol7 : ∀ b, v'.ownBlock = some b → recol col3 w3.heap.size (.way (f, t + 1)) b = .way (f, t + 1) := fun b hb => by
    rw [owt] at hb
    rw [recol_old (hws.lt b hb)]
    exact hcol b hb
  have sg7 : Seg w7 56 4 v' n1 (cat vlC r) := sgt.keep fun b hb => b37.block b (sgt.lt b hb)
  have nVM : ∀ b, v'.ownBlock = some b → b ≠ M := fun b hb => by
    obtain ⟨cur, hk⟩ := sg7.kind hb
    exact MapOf.no_blk h7.mp hk
  have sg8 : Seg w8 56 4 v' r.length (cat vlC r) := by
    rw [← hn1]
    exact sg7.keep fun b hb => hg8.block b (sg7.lt b hb) (fun e => nVM b hb (by injection e))
  obtain ⟨h8, st8⟩ := h7.way (f, t + 1) (v := v') (x := r) (GrownIn.of_grown (own := fun b => recol col3 w3.heap.size (.way (f, t + 1)) b = .way (f, t + 1) ∨ b = M) hg8 fun b hb => .inr (by injection hb with hb; exact hb.symm)) hm8 sg8 (fun b hb => by rw [recol_old (sg7.lt b hb)]; exact hcol7 b hb)
  have st38 := (H3.out.2.1.trans (Stp.below b37 (.way (f, t + 1)))).trans st8
  have cV8 : recol (recol col3 w3.heap.size (.way (f, t + 1))) w7.heap.size (.way (f, t + 1)) VB = .way (f, t + 1) := by
    rw [recol_old fV7.lt, recol_new (by rw [hVB]; exact b35.size)]
  generalize recol (recol col3 w3.heap.size (.way (f, t + 1))) w7.heap.size (.way (f, t + 1)) = col8 at h8 st38 cV8
  have nXM : X ≠ M := MapOf.no_blk h3.mp H3.out.2.2
  have fX8 : Blk w8 X 36 [.int .i64 2, .int .i64 (f : Nat), .int .i64 ((t : Int) + 1)] := (H3.out.2.2.below b37 H3.out.2.2.lt).grown hg8 (fun e => nXM (by injection e))
  have nVBM : VB ≠ M := MapOf.no_blk h7.mp fV7
  have fV8 := fV7.grown hg8 (fun e => nVBM (by injection e))
  have ha8 : ({ s with ways := mput s.ways (f, t + 1) r } : Wd).acs[t]? = some a := ha
  obtain ⟨AA, ac, rfl, hac, _⟩ := h8.rw_.form
  obtain ⟨ba, oa, S, Y, bv, rfl, hcell, hp, hA⟩ := h8.ptr ha8
  obtain ⟨L, hLe⟩ : ∃ L, L = s.acs.length := ⟨_, rfl⟩
  have t81 := h8.blk.cell 1
  have x82 := fX8.cell 2
  simp only [List.getElem?_cons_succ, List.getElem?_cons_zero] at t81 x82
  have htl : t < L := by rw [hLe]; exact (List.getElem?_eq_some_iff.1 ha).1
  have eL : ({ s with ways := mput s.ways (f, t + 1) r } : Wd).acs.length = L := hLe.symm
  rw [eL] at t81 hac
  have i1 : (t : Int) < (L : Int) := by omega
  have i0 : (0 : Int) ≤ (t : Int) := by omega
  have iw : IntKind.i64.wrap (t : Int) = (t : Int) := IntWalk.i64_in _ (by omega)
  have n0 : (0 : Int) < ((n1 : Int) + 1) := by omega
  have s85 := hA.blk.cell 5
  have s81 := hA.blk.cell 1
  simp only [acC, List.getElem?_cons_succ, List.getElem?_cons_zero] at s85 s81
  have lS8 := hA.blk.lt
  have lba := lt_of_cell hcell
  have lX8 := fX8.lt
  have lT8 := h8.blk.lt
  rw [hen] at s85
  have HX8 := Lib.hid cV8
  have H8 := Lib.hid (And.intro h8 (And.intro hA (And.intro st38 (And.intro hp (And.intro fV8 ha8)))))
  have HW4 := Lib.hid hw4
  have HKB := Lib.hid hKB
  have HW5 := Lib.hid hw5
  have HVB := Lib.hid hVB
  have HW6 := Lib.hid hw6
  have HW7 := Lib.hid hw7
  have HLe := Lib.hid hLe
  have HN1 := Lib.hid hn1
  clear hw4 hKB hw5 hVB hw6 hw7 b34 b35 b56 b57 b37 fK4 fK5 fK7 fV6 fV7 hq hws hcol hwv LK lk5 lk7 v0 v1 v2 v3 c5 c7 k0 k1 k70 k71 lkz az lT5 lG5 lG ed sgt owt hm8 hg8 h7 hcol7 sg7 nVM sg8 h8 st8 nXM fX8 nVBM fV8 ha8 hLe eL hA hp st38 cV8 bG hm ha h3 hn1 hf t1 t2 hac
  go_wp2_with (fail)
  rw [← HW4.out, ← HKB.out]
  refine wp_region_g (S := fun W => W.cell? ⟨T, 2, none⟩ = some (.map (some M)) ∧ W.cell? ⟨KB, 0, none⟩ = some (.int .i64 (f : Nat)) ∧ W.cell? ⟨KB, 1, none⟩ = some (.int .i64 ((t : Int) + 1)) ∧ (Instr.lookup 73 (.map (some M)) (.agg #[.int .i64 (f : Nat), .int .i64 ((t : Int) + 1)]) false).run Tryd.prog W = .ok (.slice (some ⟨g, off, none⟩) (n1 + 1) c6) W ∧ W.cell? ⟨g, off, none⟩ = some (.int .i64 vk) ∧ W.cell? ⟨g, off + 1, none⟩ = some (.int .i64 vn) ∧ W.cell? ⟨g, off + 2, none⟩ = some (.string ⟨#[]⟩) ∧ W.cell? ⟨g, off + 3, none⟩ = some (.slice none 0 0)) (m := 9) (by kernel_rfl) ?_
  rw [← HW5.out]
  have hS := hS5
  repeat (first | (refine wpAnyG_take (i := 0) (v := .pointer (some ⟨T, 0, none⟩)) rfl ?_ ?_ ?_ (fun _ _ _ h => h) (Or.inl ⟨by rfl, ?_⟩) hS ?_; (· decide +kernel); (· decide +kernel); (· decide +kernel); (· (intro w' hS'; obtain ⟨hS0, hS1, hS2, hS3, hS4, hS5, hS6, hS7⟩ := hS'; go_simp))) | (refine wpAnyG_take (i := 1) (v := .pointer (some ⟨T, 0, none⟩)) rfl ?_ ?_ ?_ (fun _ _ _ h => h) (Or.inl ⟨by rfl, ?_⟩) hS ?_; (· decide +kernel); (· decide +kernel); (· decide +kernel); (· (intro w' hS'; obtain ⟨hS0, hS1, hS2, hS3, hS4, hS5, hS6, hS7⟩ := hS'; go_simp))) | (refine wpAnyG_take (i := 2) (v := .pointer (some ⟨T, 2, none⟩)) rfl ?_ ?_ ?_ (fun _ _ _ h => h) (Or.inl ⟨by rfl, ?_⟩) hS ?_; (· decide +kernel); (· decide +kernel); (· decide +kernel); (· (intro w' hS'; obtain ⟨hS0, hS1, hS2, hS3, hS4, hS5, hS6, hS7⟩ := hS'; go_simp))) | (refine wpAnyG_take (i := 3) (v := .map (some M)) rfl ?_ ?_ ?_ (fun _ _ _ h => h) (Or.inl ⟨by rfl, ?_⟩) hS ?_; (· decide +kernel); (· decide +kernel); (· decide +kernel); (· (intro w' hS'; obtain ⟨hS0, hS1, hS2, hS3, hS4, hS5, hS6, hS7⟩ := hS'; go_simp))) | (refine wpAnyG_take (i := 4) (v := .agg #[.int .i64 (f : Nat), .int .i64 ((t : Int) + 1)]) rfl ?_ ?_ ?_ (fun _ _ _ h => h) (Or.inl ⟨by rfl, ?_⟩) hS ?_; (· decide +kernel); (· decide +kernel); (· decide +kernel); (· (intro w' hS'; obtain ⟨hS0, hS1, hS2, hS3, hS4, hS5, hS6, hS7⟩ := hS'; go_simp))) | (refine wpAnyG_take (i := 5) (v := .slice (some ⟨g, off, none⟩) (n1 + 1) c6) rfl ?_ ?_ ?_ (fun _ _ _ h => h) (Or.inl ⟨by rfl, ?_⟩) hS ?_; (· decide +kernel); (· decide +kernel); (· decide +kernel); (· (intro w' hS'; obtain ⟨hS0, hS1, hS2, hS3, hS4, hS5, hS6, hS7⟩ := hS'; go_simp))) | (refine wpAnyG_take (i := 6) (v := .pointer (some ⟨g, off, none⟩)) rfl ?_ ?_ ?_ (fun _ _ _ h => h) (Or.inl ⟨by rfl, ?_⟩) hS ?_; (· decide +kernel); (· decide +kernel); (· decide +kernel); (· (intro w' hS'; obtain ⟨hS0, hS1, hS2, hS3, hS4, hS5, hS6, hS7⟩ := hS'; go_simp))) | (refine wpAnyG_take (i := 7) (v := .agg #[.int .i64 vk, .int .i64 vn, .string ⟨#[]⟩, .slice none 0 0]) rfl ?_ ?_ ?_ (fun _ _ _ h => h) (Or.inl ⟨by rfl, ?_⟩) hS ?_; (· decide +kernel); (· decide +kernel); (· decide +kernel); (· (intro w' hS'; obtain ⟨hS0, hS1, hS2, hS3, hS4, hS5, hS6, hS7⟩ := hS'; go_simp))))
  refine wpAnyG_ready (rs := [8]) (by decide +kernel) (by simp) ?_
  refine AllReadyG.cons rfl (fun K hK => ?_) AllReadyG.nil
  go_simp
  refine hK _ _ (fun _ => hSz) ?_
  clear hK K hS hS5 hSz
  refine wpAnyG_ready (rs := [9]) (by decide +kernel) (by simp) ?_
  refine AllReadyG.cons rfl (fun K hK => ?_) AllReadyG.nil
  go_simp
  refine hK _ _ (fun h => absurd h (by decide)) ?_
  clear hK K
  refine wpAnyG_done (by decide +kernel) ?_ _
  rw [← HVB.out, ← HW6.out]
  go_wp2_with (fail)
  refine wp_region_g (S := fun W => W.cell? ⟨T, 2, none⟩ = some (.map (some M)) ∧ W.cell? ⟨KB, 0, none⟩ = some (.int .i64 (f : Nat)) ∧ W.cell? ⟨KB, 1, none⟩ = some (.int .i64 ((t : Int) + 1)) ∧ (Instr.lookup 73 (.map (some M)) (.agg #[.int .i64 (f : Nat), .int .i64 ((t : Int) + 1)]) false).run Tryd.prog W = .ok (.slice (some ⟨g, off, none⟩) (n1 + 1) c6) W) (m := 12) (by kernel_rfl) ?_
  rw [← HW7.out]
  have hS := hS7
  repeat (first | (refine wpAnyG_take (i := 0) (v := .pointer (some ⟨T, 0, none⟩)) rfl ?_ ?_ ?_ (fun _ _ _ h => h) (Or.inl ⟨by rfl, ?_⟩) hS ?_; (· decide +kernel); (· decide +kernel); (· decide +kernel); (· (intro w' hS'; obtain ⟨hS0, hS1, hS2, hS3⟩ := hS'; go_simp))) | (refine wpAnyG_take (i := 1) (v := .pointer (some ⟨T, 0, none⟩)) rfl ?_ ?_ ?_ (fun _ _ _ h => h) (Or.inl ⟨by rfl, ?_⟩) hS ?_; (· decide +kernel); (· decide +kernel); (· decide +kernel); (· (intro w' hS'; obtain ⟨hS0, hS1, hS2, hS3⟩ := hS'; go_simp))) | (refine wpAnyG_take (i := 2) (v := .pointer (some ⟨T, 2, none⟩)) rfl ?_ ?_ ?_ (fun _ _ _ h => h) (Or.inl ⟨by rfl, ?_⟩) hS ?_; (· decide +kernel); (· decide +kernel); (· decide +kernel); (· (intro w' hS'; obtain ⟨hS0, hS1, hS2, hS3⟩ := hS'; go_simp))) | (refine wpAnyG_take (i := 3) (v := .map (some M)) rfl ?_ ?_ ?_ (fun _ _ _ h => h) (Or.inl ⟨by rfl, ?_⟩) hS ?_; (· decide +kernel); (· decide +kernel); (· decide +kernel); (· (intro w' hS'; obtain ⟨hS0, hS1, hS2, hS3⟩ := hS'; go_simp))) | (refine wpAnyG_take (i := 4) (v := .agg #[.int .i64 (f : Nat), .int .i64 ((t : Int) + 1)]) rfl ?_ ?_ ?_ (fun _ _ _ h => h) (Or.inl ⟨by rfl, ?_⟩) hS ?_; (· decide +kernel); (· decide +kernel); (· decide +kernel); (· (intro w' hS'; obtain ⟨hS0, hS1, hS2, hS3⟩ := hS'; go_simp))) | (refine wpAnyG_take (i := 5) (v := .pointer (some ⟨T, 0, none⟩)) rfl ?_ ?_ ?_ (fun _ _ _ h => h) (Or.inl ⟨by rfl, ?_⟩) hS ?_; (· decide +kernel); (· decide +kernel); (· decide +kernel); (· (intro w' hS'; obtain ⟨hS0, hS1, hS2, hS3⟩ := hS'; go_simp))) | (refine wpAnyG_take (i := 6) (v := .pointer (some ⟨T, 0, none⟩)) rfl ?_ ?_ ?_ (fun _ _ _ h => h) (Or.inl ⟨by rfl, ?_⟩) hS ?_; (· decide +kernel); (· decide +kernel); (· decide +kernel); (· (intro w' hS'; obtain ⟨hS0, hS1, hS2, hS3⟩ := hS'; go_simp))) | (refine wpAnyG_take (i := 7) (v := .pointer (some ⟨T, 2, none⟩)) rfl ?_ ?_ ?_ (fun _ _ _ h => h) (Or.inl ⟨by rfl, ?_⟩) hS ?_; (· decide +kernel); (· decide +kernel); (· decide +kernel); (· (intro w' hS'; obtain ⟨hS0, hS1, hS2, hS3⟩ := hS'; go_simp))) | (refine wpAnyG_take (i := 8) (v := .map (some M)) rfl ?_ ?_ ?_ (fun _ _ _ h => h) (Or.inl ⟨by rfl, ?_⟩) hS ?_; (· decide +kernel); (· decide +kernel); (· decide +kernel); (· (intro w' hS'; obtain ⟨hS0, hS1, hS2, hS3⟩ := hS'; go_simp))) | (refine wpAnyG_take (i := 9) (v := .agg #[.int .i64 (f : Nat), .int .i64 ((t : Int) + 1)]) rfl ?_ ?_ ?_ (fun _ _ _ h => h) (Or.inl ⟨by rfl, ?_⟩) hS ?_; (· decide +kernel); (· decide +kernel); (· decide +kernel); (· (intro w' hS'; obtain ⟨hS0, hS1, hS2, hS3⟩ := hS'; go_simp))) | (refine wpAnyG_take (i := 10) (v := .slice (some ⟨g, off, none⟩) (n1 + 1) c6) rfl ?_ ?_ ?_ (fun _ _ _ h => h) (Or.inl ⟨by rfl, ?_⟩) hS ?_; (· decide +kernel); (· decide +kernel); (· decide +kernel); (· (intro w' hS'; obtain ⟨hS0, hS1, hS2, hS3⟩ := hS'; go_simp))) | (refine wpAnyG_take (i := 11) (v := v') rfl ?_ ?_ ?_ (fun _ _ _ h => h) (Or.inl ⟨by rfl, ?_⟩) hS ?_; (· decide +kernel); (· decide +kernel); (· decide +kernel); (· (intro w' hS'; obtain ⟨hS0, hS1, hS2, hS3⟩ := hS'; go_simp))))
  refine wpAnyG_ready (rs := [12]) (by decide +kernel) (by simp) ?_
  refine AllReadyG.cons rfl (fun K hK => ?_) AllReadyG.nil
  go_simp
  refine hK _ _ (fun h => absurd h (by decide)) ?_
  clear hK K hS hS7 hup hsl
  refine wpAnyG_done (by decide +kernel) ?_ _
  go_wp2_with (fail)
  go_quiet (fail)
  clear t81 x82 hcell
  go_wp2_with (fail)
  obtain ⟨wA, hwA⟩ : ∃ W, W = (w8.drewN nq).drew := ⟨_, rfl⟩
  obtain ⟨wB, hwB⟩ : ∃ W, W = wA.alloc (.cells #[.int .i64 0, .int .i64 0, .string ⟨#[]⟩, .slice none 0 0] 56) := ⟨_, rfl⟩
  have eA : wA.heap = w8.heap := by rw [hwA]; rfl
  have hAA := H8.out.2.1.heapEq eA
  have h8A := H8.out.1.heapEq eA
  have fVA := H8.out.2.2.2.2.1.of_heap eA
  have bAB : Below wA.heap.size wA wB := by rw [hwB]; exact (Below.refl _ _).alloc (Nat.le_refl _) _
  have fVB := fVA.below bAB fVA.lt
  obtain ⟨BA, bc, rfl, hbc, hbm⟩ := hAA.box.form
  obtain ⟨bn, hbn⟩ : ∃ n, n = a.box.length := ⟨_, rfl⟩
  have sgB : Seg wB 56 4 (.slice BA a.box.length bc) a.box.length (cat vlC a.box) := hAA.box.keep fun b hb => bAB.block b (hAA.box.lt b hb)
  have rdB : Reads wB Any 4 (some ⟨wA.heap.size, 0, none⟩) 1 (vlC ⟨0, 0⟩) := by rw [hwB]; exact Reads.new wA (vlC ⟨0, 0⟩) 4 1 _ Any trivial rfl
  have hbx : a.box.length ≤ 400000 := by have := HI.out.1.box t a H8.out.2.2.2.2.2; have := HI.out.2; omega
  obtain ⟨vC, wC, hap, sgC, hgC, hatC⟩ := sgB.app el_vl rdB (by omega) (vlC_one _) (by omega) (c := 1) 54
  have bS8 := hAA.blk
  have nSb : ∀ b, (Value.slice BA a.box.length bc).ownBlock = some b → b ≠ S := fun b hb e => seg_own hAA.box hAA.blk (by decide) (e ▸ hb)
  have nVb : ∀ b, (Value.slice BA a.box.length bc).ownBlock = some b → b ≠ VB := fun b hb e => by
    have h1 := hAA.ob b hb
    rw [e, HX8.out] at h1
    cases h1
  have bSB := bS8.below bAB bS8.lt
  have bSC := bSB.grown hgC (fun e => nSb S e.symm rfl)
  have fVC := fVB.grown hgC (fun e => nVb VB e.symm rfl)
  have sA := bS8.cell 1
  have sB := bSB.cell 1
  have sC := bSC.cell 1
  have gC := bSC.frozen 1
  have a0 := fVA.cell 0
  have a1 := fVA.cell 1
  have a2 := fVA.cell 2
  have a3 := fVA.cell 3
  have b0 := fVB.cell 0
  have b1' := fVB.cell 1
  have b2' := fVB.cell 2
  have b3' := fVB.cell 3
  have d0 := fVC.cell 0
  have d1 := fVC.cell 1
  have d2 := fVC.cell 2
  have d3 := fVC.cell 3
  simp only [acC, List.getElem?_cons_succ, List.getElem?_cons_zero] at sA sB sC a0 a1 a2 a3 b0 b1' b2' b3' d0 d1 d2 d3
  rw [← hbn] at sA sB sC hap sgC
  have hSA : wA.cell? ⟨S, 1, none⟩ = some (.slice BA bn bc) ∧ wA.cell? ⟨VB, 0, none⟩ = some (.int .i64 vk) ∧ wA.cell? ⟨VB, 1, none⟩ = some (.int .i64 vn) ∧ wA.cell? ⟨VB, 2, none⟩ = some (.string ⟨#[]⟩) ∧ wA.cell? ⟨VB, 3, none⟩ = some (.slice none 0 0) := ⟨sA, a0, a1, a2, a3⟩
  have hSB : wB.cell? ⟨S, 1, none⟩ = some (.slice BA bn bc) ∧ wB.cell? ⟨VB, 0, none⟩ = some (.int .i64 vk) ∧ wB.cell? ⟨VB, 1, none⟩ = some (.int .i64 vn) ∧ wB.cell? ⟨VB, 2, none⟩ = some (.string ⟨#[]⟩) ∧ wB.cell? ⟨VB, 3, none⟩ = some (.slice none 0 0) := ⟨sB, b0, b1', b2', b3'⟩
  have hSC : wC.cell? ⟨S, 1, none⟩ = some (.slice BA bn bc) ∧ wC.cell? ⟨VB, 0, none⟩ = some (.int .i64 vk) ∧ wC.cell? ⟨VB, 1, none⟩ = some (.int .i64 vn) ∧ wC.cell? ⟨VB, 2, none⟩ = some (.string ⟨#[]⟩) ∧ wC.cell? ⟨VB, 3, none⟩ = some (.slice none 0 0) := ⟨sC, d0, d1, d2, d3⟩
  rcases id sgC.2 with ⟨_, h0⟩ | ⟨gc, oc, cc7, cur7, rfl, bC, hnC, hmC, hsC, _⟩
  · omega
  have z0 := sgC.cells (bn * 4 + 0) (.int .i64 0) (by rw [hbn, List.getElem?_append_right (by rw [cat_len vlC_len]; omega), cat_len vlC_len]; simp [vlC])
  have z1 := sgC.cells (bn * 4 + 1) (.int .i64 0) (by rw [hbn, List.getElem?_append_right (by rw [cat_len vlC_len]; omega), cat_len vlC_len]; simp [vlC])
  have z2 := sgC.cells (bn * 4 + 2) (.string ⟨#[]⟩) (by rw [hbn, List.getElem?_append_right (by rw [cat_len vlC_len]; omega), cat_len vlC_len]; simp [vlC])
  have z3 := sgC.cells (bn * 4 + 3) (.slice none 0 0) (by rw [hbn, List.getElem?_append_right (by rw [cat_len vlC_len]; omega), cat_len vlC_len]; simp [vlC])
  simp only [Nat.add_zero, ← Nat.add_assoc] at z0 z1 z2 z3
  have y0 := bC.frozen (oc + bn * 4)
  have y1 := bC.frozen (oc + bn * 4 + 1)
  have y2 := bC.frozen (oc + bn * 4 + 2)
  have y3 := bC.frozen (oc + bn * 4 + 3)
  have lC := bC.lt
  have lSC := bSC.lt
  have nSg : S ≠ gc := bSC.ne_ bC (by decide)
  have ngS : gc ≠ S := fun e => nSg e.symm
  have ib : (bn : Int) < ((bn : Int) + 1) := by omega
  have ib0 : (0 : Int) ≤ (bn : Int) := by omega
  have ib2 : (bn : Int) ≤ 400000 := by omega
  obtain ⟨wD, hwD⟩ : ∃ W, W = wC.setCells gc (oc + bn * 4) (vlC ⟨vk, vn⟩) := ⟨_, rfl⟩
  obtain ⟨wE, hwE⟩ : ∃ W, W = wD.setCell ⟨S, 1, none⟩ (.slice (some ⟨gc, oc, none⟩) (bn + 1) cc7) := ⟨_, rfl⟩
  have sgD : Seg wD 56 4 (.slice (some ⟨gc, oc, none⟩) (bn + 1) cc7) (bn + 1) (cat vlC a.box ++ vlC ⟨vk, vn⟩) := by
    rw [hwD]
    have hs : Seg wC 56 4 (.slice (some ⟨gc, oc, none⟩) (bn + 1) cc7) (bn + 1) (cat vlC a.box ++ vlC ⟨0, 0⟩) := by rw [hbn]; rw [hbn] at sgC; exact sgC
    exact hs.setLast (by rw [cat_len vlC_len, hbn]) rfl
  have far : ∀ b, b ≠ gc → wD.heap[b]? = wC.heap[b]? := fun b hb => by
    rw [hwD]
    have hg := grownBy_setCells gc (vlC ⟨vk, vn⟩) (oc + bn * 4) wC
    rcases Nat.lt_or_ge b wC.heap.size with hl | hl
    · exact hg.block b hl (fun e => hb (by injection e))
    · have hsz : (wC.setCells gc (oc + bn * 4) (vlC ⟨vk, vn⟩)).heap.size = wC.heap.size := setCells_size _ _ _ _
      rw [Array.getElem?_eq_none (by omega), Array.getElem?_eq_none hl]
  have bSD : Blk wD S 80 (acC Y 166 (.slice BA a.box.length bc) a) := (far S nSg).trans bSC
  have bSE := bSD.put 1 (.slice (some ⟨gc, oc, none⟩) (bn + 1) cc7)
  rw [← hwE] at bSE
  have hgcB : ∀ b, gc = b → col8 b = .act t ∨ wA.heap.size ≤ b := fun b hb => by
    rcases hatC b (by rw [← hb]; rfl) with h1 | h1
    · exact .inl (hAA.ob b h1)
    · exact .inr (Nat.le_trans bAB.size h1)
  have hinC : GrownIn (fun b => col8 b = .act t) wA wC := (GrownIn.of_below bAB).trans (GrownIn.of_grown (own := fun b => col8 b = .act t) hgC fun k hk => hAA.ob k hk) fun b hb => .inl hb
  have hinD : GrownIn (fun b => col8 b = .act t) wA wD := by
    rw [hwD]
    exact hinC.trans (GrownIn.of_grown (own := fun b => b = gc) (grownBy_setCells gc _ _ wC) fun k hk => by injection hk with hk; exact hk.symm) fun b hb => hgcB b hb.symm
  have hinE : GrownIn (fun b => col8 b = .act t) wA wE := by rw [hwE]; exact hinD.set hAA.oS _
  have nYb : ∀ b, (Value.slice BA a.box.length bc).ownBlock = some b → b ≠ Y := fun b hb e => by
    obtain ⟨_, _, _, _, _, hb2, _⟩ := hAA.toy
    exact seg_own hAA.box hb2 (by decide) (e ▸ hb)
  have nYg : Y ≠ gc := by
    obtain ⟨_, _, _, _, _, hb2, _⟩ := hAA.toy
    exact ((hb2.below bAB hb2.lt).grown hgC (fun e => nYb Y e.symm rfl)).ne_ bC (by decide)
  have nSY : S ≠ Y := by
    obtain ⟨_, _, _, _, _, hb2, _⟩ := hAA.toy
    exact hAA.blk.ne_ hb2 (by decide)
  have toyE : ToyAt wE B Y a.ty := by
    refine hAA.toy.keep (h8A.same_own hinE fun b hb => by rw [hb]; simp) ?_
    rw [hwE]
    exact (Below.heap_setCell wD _ _ Y (fun e => nSY e.symm)).trans ((far Y nYg).trans ((hgC.block Y (Nat.lt_of_lt_of_le hAA.toy.lt bAB.size) (fun e => nYb Y e.symm rfl)).trans (bAB.block Y hAA.toy.lt)))
  have old : ∀ b, b < wA.heap.size → recol col8 wA.heap.size (.act t) b = col8 b := fun b hb => recol_old hb
  have actE : ActAt wE B (fun b => recol col8 wA.heap.size (.act t) b = .act t) S { a with box := a.box ++ [⟨vk, vn⟩] } := by
    refine ⟨Y, .slice (some ⟨gc, oc, none⟩) (bn + 1) cc7, ?_, ?_, toyE, ?_, ?_, fun b hb => ?_⟩
    · simpa [acC] using bSE
    · show Seg _ _ 4 _ (a.box ++ [(⟨vk, vn⟩ : Vl)]).length (cat vlC (a.box ++ [(⟨vk, vn⟩ : Vl)]))
      rw [cat_app, cat_one, List.length_append, List.length_singleton, ← hbn, hwE]
      exact sgD.keep fun b hb => by
        have e : gc = b := by injection hb
        subst e
        exact Below.heap_setCell wD _ _ gc ngS
    · rw [old S hAA.blk.lt]; exact hAA.oS
    · rw [old Y hAA.toy.lt]; exact hAA.oT
    · have e : gc = b := by injection hb
      rcases hgcB b e with h1 | h1
      · rcases Nat.lt_or_ge b wA.heap.size with hl | hl
        · rw [old b hl]; exact h1
        · exact recol_new hl
      · exact recol_new h1
  have FIN := h8A.act (i := t) (x := { a with box := a.box ++ [⟨vk, vn⟩] }) (List.getElem?_eq_some_iff.1 H8.out.2.2.2.2.2).1 H8.out.2.2.2.1 hinE actE
  have stA : Stp col col8 w wA := by rw [hwA]; exact (H8.out.2.2.1.drewN nq).drew
  have HF := Lib.hid (And.intro FIN.1 (stA.trans FIN.2))
  have HWA := Lib.hid hwA
  have HWB := Lib.hid hwB
  have HWD := Lib.hid hwD
  have HWE := Lib.hid hwE
  have HBN := Lib.hid hbn
  clear hwA hwB hwD hwE eA hAA h8A fVA bAB fVB hbc hbm sgB rdB hbx sgC hgC hatC bS8 nSb nVb bSB bSC fVC sA sB d0 d1 d2 d3 a0 a1 a2 a3 b0 b1' b2' b3' bC hnC hmC hsC sgD far bSD bSE hgcB hinC hinD hinE nYb nYg nSY toyE old actE FIN stA hbn s85 s81
  refine wp_region_g (S := fun W => W.cell? ⟨S, 1, none⟩ = some (.slice BA bn bc) ∧ W.cell? ⟨VB, 0, none⟩ = some (.int .i64 vk) ∧ W.cell? ⟨VB, 1, none⟩ = some (.int .i64 vn) ∧ W.cell? ⟨VB, 2, none⟩ = some (.string ⟨#[]⟩) ∧ W.cell? ⟨VB, 3, none⟩ = some (.slice none 0 0)) (m := 8) (by kernel_rfl) ?_
  rw [← HWA.out]
  have hS := hSA
  repeat (first | (refine wpAnyG_take (i := 0) (v := .pointer (some ⟨S, 0, none⟩)) rfl ?_ ?_ ?_ (fun _ _ _ h => h) (Or.inl ⟨by rfl, ?_⟩) hS ?_; (· decide +kernel); (· decide +kernel); (· decide +kernel); (· (intro w' hS'; obtain ⟨hS0, hS1, hS2, hS3, hS4⟩ := hS'; go_simp))) | (refine wpAnyG_take (i := 1) (v := .pointer (some ⟨S, 0, none⟩)) rfl ?_ ?_ ?_ (fun _ _ _ h => h) (Or.inl ⟨by rfl, ?_⟩) hS ?_; (· decide +kernel); (· decide +kernel); (· decide +kernel); (· (intro w' hS'; obtain ⟨hS0, hS1, hS2, hS3, hS4⟩ := hS'; go_simp))) | (refine wpAnyG_take (i := 2) (v := .pointer (some ⟨S, 1, none⟩)) rfl ?_ ?_ ?_ (fun _ _ _ h => h) (Or.inl ⟨by rfl, ?_⟩) hS ?_; (· decide +kernel); (· decide +kernel); (· decide +kernel); (· (intro w' hS'; obtain ⟨hS0, hS1, hS2, hS3, hS4⟩ := hS'; go_simp))) | (refine wpAnyG_take (i := 3) (v := .slice BA bn bc) rfl ?_ ?_ ?_ (fun _ _ _ h => h) (Or.inl ⟨by rfl, ?_⟩) hS ?_; (· decide +kernel); (· decide +kernel); (· decide +kernel); (· (intro w' hS'; obtain ⟨hS0, hS1, hS2, hS3, hS4⟩ := hS'; go_simp))) | (refine wpAnyG_take (i := 4) (v := .agg #[.int .i64 vk, .int .i64 vn, .string ⟨#[]⟩, .slice none 0 0]) rfl ?_ ?_ ?_ (fun _ _ _ h => h) (Or.inl ⟨by rfl, ?_⟩) hS ?_; (· decide +kernel); (· decide +kernel); (· decide +kernel); (· (intro w' hS'; obtain ⟨hS0, hS1, hS2, hS3, hS4⟩ := hS'; go_simp))) | (refine wpAnyG_take (i := 5) (v := .int .i64 (bn : Nat)) rfl ?_ ?_ ?_ (fun _ _ _ h => h) (Or.inl ⟨by rfl, ?_⟩) hS ?_; (· decide +kernel); (· decide +kernel); (· decide +kernel); (· (intro w' hS'; obtain ⟨hS0, hS1, hS2, hS3, hS4⟩ := hS'; go_simp))))
  refine wpAnyG_ready (rs := [6]) (by decide +kernel) (by simp) ?_
  refine AllReadyG.cons rfl (fun K hK => ?_) AllReadyG.nil
  go_simp
  rw [← HWB.out]
  refine hK _ _ (fun _ => hSB) ?_
  clear hK K hS hSA
  refine wpAnyG_ready (rs := [7]) (by decide +kernel) (by simp) ?_
  refine AllReadyG.cons rfl (fun K hK => ?_) AllReadyG.nil
  refine step_app_run rfl (.tmp 83) (.tmp 86) rfl rfl rfl hap ?_
  refine hK _ _ (fun _ => hSC) ?_
  clear hK K hap hSB hSC
  refine wpAnyG_of_any _ _ _ _ (by decide +kernel) ?_
  refine wpAny_take (i := 8) (v := .pointer (some ⟨gc, oc + bn * 4, none⟩)) rfl ?_ ?_ ?_ (fun _ _ _ h => h) (Or.inl ⟨by rfl, ?_⟩) ?_; (· decide +kernel); (· decide +kernel); (· decide +kernel); (· (intro w; go_simp))
  refine wpAny_take (i := 10) (v := .pointer (some ⟨S, 0, none⟩)) rfl ?_ ?_ ?_ (fun _ _ _ h => h) (Or.inl ⟨by rfl, ?_⟩) ?_; (· decide +kernel); (· decide +kernel); (· decide +kernel); (· (intro w; go_simp))
  refine wpAny_take (i := 11) (v := .pointer (some ⟨S, 1, none⟩)) rfl ?_ ?_ ?_ (fun _ _ _ h => h) (Or.inl ⟨by rfl, ?_⟩) ?_; (· decide +kernel); (· decide +kernel); (· decide +kernel); (· (intro w; go_simp))
  have eDE : wE = (((((wC.setCell ⟨S, 1, none⟩ (.slice (some ⟨gc, oc, none⟩) (bn + 1) cc7)).setCell ⟨gc, oc + bn * 4, none⟩ (.int .i64 vk)).setCell ⟨gc, oc + bn * 4 + 1, none⟩ (.int .i64 vn)).setCell ⟨gc, oc + bn * 4 + 2, none⟩ (.string ⟨#[]⟩)).setCell ⟨gc, oc + bn * 4 + 3, none⟩ (.slice none 0 0)) := by
    have := setCells_comm (p := ⟨S, 1, none⟩) (.slice (some ⟨gc, oc, none⟩) (bn + 1) cc7) (g := gc) nSg (vlC ⟨vk, vn⟩) (oc + bn * 4) wC
    rw [HWE.out, HWD.out, ← this]
    rfl
  have eDE2 : wE = ((((((wC.setCell ⟨gc, oc + bn * 4, none⟩ (.int .i64 vk)).setCell ⟨gc, oc + bn * 4 + 1, none⟩ (.int .i64 vn)).setCell ⟨gc, oc + bn * 4 + 2, none⟩ (.string ⟨#[]⟩)).setCell ⟨gc, oc + bn * 4 + 3, none⟩ (.slice none 0 0)).setCell ⟨S, 1, none⟩ (.slice (some ⟨gc, oc, none⟩) (bn + 1) cc7))) := by
    rw [HWE.out, HWD.out]
    rfl
  have HE1 := Lib.hid eDE
  have HE2 := Lib.hid eDE2
  clear eDE eDE2
  clear ib ib0 ib2
  have fin : ∀ (W : World), W = wE → WPost w B T col (setA { s with ways := mput s.ways (f, t + 1) r } t { a with box := a.box ++ [⟨vk, vn⟩] }) (.int .i64 0) (.returned (.int .i64 0)) W := by
    intro W hW
    subst hW
    exact ⟨rfl, _, ⟨_, _, _, _, _, _, _, HF.out.1⟩, HF.out.2⟩
  refine wpAny_ready (rs := [9, 12]) (by decide +kernel) (by simp) ?_
  refine AllReady.cons rfl (fun K hK => ?_) (AllReady.cons rfl (fun K hK => ?_) AllReady.nil)
  · go_simp
    refine hK _ _ ?_
    clear hK K
    refine wpAny_ready (rs := [12]) (by decide +kernel) (by simp) ?_
    refine AllReady.cons rfl (fun K hK => ?_) AllReady.nil
    go_simp
    refine hK _ _ ?_
    clear hK K
    refine wpAny_done (by decide +kernel) ?_ _
    rw [← HE2.out]
    go_wp2_with (fail)
    go_ret
    exact fin wE rfl
  · go_simp
    refine hK _ _ ?_
    clear hK K
    refine wpAny_ready (rs := [9]) (by decide +kernel) (by simp) ?_
    refine AllReady.cons rfl (fun K hK => ?_) AllReady.nil
    go_simp
    refine hK _ _ ?_
    clear hK K
    refine wpAny_done (by decide +kernel) ?_ _
    rw [← HE1.out]
    go_wp2_with (fail)
    go_ret
    exact fin wE rfl
theorem stepF_goes {s : Wd} {i : Nat} {a : Ac} (ha : s.acs[i]? = some a) : stepF s ⟨1, (i : Int) + 1, 0⟩ = if a.waiting then setA s i (offerF a) else runF s i a := by
  unfold stepF
  have e : ((i : Int) + 1 - 1).toNat = i := by omega
  simp only [e, ha, if_true]
theorem stepF_late {s : Wd} {i : Nat} {a : Ac} (ha : s.acs[i]? = some a) : stepF s ⟨3, (i : Int) + 1, 0⟩ = setA s i { a with ty := lateT a.ty, waiting := false } := by
  unfold stepF
  have e : ((i : Int) + 1 - 1).toNat = i := by omega
  have e1 : ¬ ((3 : Int) = 1) := by decide
  have e2 : ¬ ((3 : Int) = 2) := by decide
  simp only [e, ha, if_true, if_neg e1, if_neg e2]
theorem stepF_come {s : Wd} {f t : Nat} {a : Ac} {v : Vl} {r : List Vl} (ha : s.acs[t]? = some a) (hw : wayF s (f, t + 1) = v :: r) : stepF s ⟨2, (f : Int), (t : Int) + 1⟩ = if a.ended then { s with ways := mput s.ways (f, t + 1) r } else setA { s with ways := mput s.ways (f, t + 1) r } t { a with box := a.box ++ [v] } := by
  unfold stepF
  have e : ((t : Int) + 1 - 1).toNat = t := by omega
  have e0 : ((t : Int) + 1).toNat = t + 1 := by omega
  have e1 : ¬ ((2 : Int) = 1) := by decide
  have e3 : ((f : Nat) : Int).toNat = f := by omega
  simp only [e, e0, e3, ha, hw, if_true, if_neg e1]
theorem take_any (w : World) (B T : Nat) (col : Nat → Cl) (s : Wd) (h : WdAt w B T col s) {n : Nat} (hI : Inv s n) (hn : n ≤ 300000) (x : Ch) :
    Calls Tryd.prog 18 #[.pointer (some ⟨T, 0, none⟩), .agg #[.int .i64 x.k, .int .i64 x.a, .int .i64 x.b]] w (WPost w B T col (if x ∈ choicesF s then stepF s x else s) (.int .i64 (if x ∈ choicesF s then 0 else 4))) := by
  obtain ⟨A, c, av, ps, M, l, sv, h⟩ := h
  by_cases hx : x ∈ choicesF s
  · rw [if_pos hx, if_pos hx]
    rcases mem_choices hx with ⟨i, a, ha, hg, rfl⟩ | ⟨f, t, hf, ht, hp, rfl⟩ | ⟨i, a, ha, hg, rfl⟩
    · rw [stepF_goes ha]
      cases hwt : a.waiting with
      | true => exact take_wait w B T col s h hI hn i a ha hg hwt hx
      | false => exact take_run w B T col s h hI hn i a ha hg hwt hx
    · have ha : s.acs[t]? = some s.acs[t] := List.getElem?_eq_getElem ht
      obtain ⟨v, r, hw⟩ := List.exists_cons_of_length_pos hp
      rw [stepF_come ha hw]
      by_cases hen : (s.acs[t]).ended = true
      · rw [if_pos hen]
        exact take_come0 w B T col s h hI hn f t v r _ hf ha hw hen hx
      · rw [if_neg hen]
        exact take_come1 w B T col s h hI hn f t v r _ hf ha hw (by simpa using hen) hx
    · rw [stepF_late ha]
      exact take_late w B T col s h hI hn i a ha hg hx
  · rw [if_neg hx, if_neg hx]
    exact take_no w B T col s h hI hn x hx
end Go.Proofs.YtlpkgheggbcidaaDoor
