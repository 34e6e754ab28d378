/- Contracts of package replay's put and Send. -/
import Derived.Test.YtlpkgheggbcidaaDoorRpOps
import Derived.Test.YtlpkgheggbcidaaDoorHeldG
import Derived.Deep.RegionHeld3
import Derived.Deep.QuietTactic
import Derived.BigQuiet
set_option linter.unusedVariables false
namespace Go.Proofs.YtlpkgheggbcidaaDoor
open Go.RowKit Go.Mem Go.Rp Go.Maps
theorem Stp.drew {col col' : Nat → Cl} {w w' : World} (h : Stp col col' w w') : Stp col col' w w'.drew := ⟨h.g.drew, h.c⟩
/-- what the loads of put's region read -/
def PutS (T KB X M f t : Nat) (k n : Int) (W : World) : Prop := W.cell? ⟨T, 2, none⟩ = some (.map (some M)) ∧ W.cell? ⟨KB, 0, none⟩ = some (.int .i64 (f : Nat)) ∧ W.cell? ⟨KB, 1, none⟩ = some (.int .i64 (t : Nat)) ∧ W.cell? ⟨X, 0, none⟩ = some (.int .i64 k) ∧ W.cell? ⟨X, 1, none⟩ = some (.int .i64 n) ∧ W.cell? ⟨X, 2, none⟩ = some (.string ⟨#[]⟩) ∧ W.cell? ⟨X, 3, none⟩ = some (.slice none 0 0)
theorem PutS.same {T KB X M f t : Nat} {k n : Int} {W W' : World} (h : PutS T KB X M f t k n W) (hT : W'.heap[T]? = W.heap[T]?) (hK : W'.heap[KB]? = W.heap[KB]?) (hX : W'.heap[X]? = W.heap[X]?) : PutS T KB X M f t k n W' := by
  obtain ⟨h1, h2, h3, h4, h5, h6, h7⟩ := h
  exact ⟨(World.cell?_of_block (w := W) hT).trans h1, (World.cell?_of_block (w := W) hK).trans h2, (World.cell?_of_block (w := W) hK).trans h3, (World.cell?_of_block (w := W) hX).trans h4, (World.cell?_of_block (w := W) hX).trans h5, (World.cell?_of_block (w := W) hX).trans h6, (World.cell?_of_block (w := W) hX).trans h7⟩
/-- a way has got a value: the world at the region's end -/
theorem put_end {w w5 w7 w8 : World} {B T : Nat} {col : Nat → Cl} {s : Wd} {A : Option Addr} {c : Nat} {av : Value} {ps : List Value} {M : Nat} {l : List ((Nat × Nat) × Value)} {sv : Value} (h : WdW w B T col s A c av ps M l sv) (k : Nat × Nat) (v : Vl) {v2 : Value}
    (hg5 : w.grownBy w5 (some M)) (hs : Seg w7 56 4 v2 ((wayF s k).length + 1) (cat vlC (wayF s k) ++ vlC v)) (hg7 : w5.grownBy w7 ((mget l k).getD (.slice none 0 0)).ownBlock) (hat : ∀ b, v2.ownBlock = some b → ((mget l k).getD (.slice none 0 0)).ownBlock = some b ∨ w5.heap.size ≤ b)
    (hm : MapOf encK okK w8 M (mput l k v2)) (hg8 : w7.grownBy w8 (some M)) (hM : M < w.heap.size) : ∃ col', WdAt w8 B T col' { s with ways := mput s.ways k (wayF s k ++ [v]) } ∧ Stp col col' w w8 := by
  obtain ⟨hold, hcol⟩ := h.ws.at_ k
  have hin : GrownIn (fun b => col b = .way k ∨ b = M) w w8 := by
    refine ⟨hg8.os.trans (hg7.os.trans hg5.os), hg8.tape.trans (hg7.tape.trans hg5.tape), hg8.output.trans (hg7.output.trans hg5.output), Nat.le_trans hg5.size (Nat.le_trans hg7.size hg8.size), fun b hb hn => ?_⟩
    have h1 : b < w5.heap.size := Nat.lt_of_lt_of_le hb hg5.size
    have hne : b ≠ M := fun e => hn (.inr e)
    refine (hg8.block b (Nat.lt_of_lt_of_le h1 hg7.size) (fun e => hne (by injection e))).trans ((hg7.block b h1 (fun e => hn (.inl (hcol b e.symm)))).trans (hg5.block b hb (fun e => hne (by injection e))))
  have v2M : ∀ b, v2.ownBlock = some b → b ≠ M := fun b hb e => by
    obtain ⟨cur, hk⟩ := hs.kind hb
    have hm7 : MapOf encK okK w5 M ([] : List ((Nat × Nat) × Value)) ∨ True := .inr trivial
    subst e
    rcases hat b hb with h1 | h1
    · obtain ⟨cur2, hk2⟩ := hold.kind h1
      exact MapOf.no_blk h.mp hk2 rfl
    · have := hg5.size
      omega
  have hs8 : Seg w8 56 4 v2 (wayF s k ++ [v]).length (cat vlC (wayF s k ++ [v])) := by
    rw [cat_app, cat_one, List.length_append, List.length_singleton]
    exact hs.keep fun b hb => hg8.block b (hs.lt b hb) (fun e => v2M b hb (by injection e))
  have hc : ∀ b, v2.ownBlock = some b → recol col w.heap.size (.way k) b = .way k := fun b hb => by
    rcases hat b hb with h1 | h1
    · rw [recol_old (hold.lt b h1)]
      exact hcol b h1
    · exact recol_new (Nat.le_trans hg5.size h1)
  have := h.way k (v := v2) (x := wayF s k ++ [v]) hin hm hs8 hc
  exact ⟨_, ⟨_, _, _, _, _, _, _, this.1⟩, this.2⟩
set_option maxRecDepth 100000 in
set_option maxHeartbeats 2000000 in
theorem put_yes (w : World) (B T : Nat) (col : Nat → Cl) (s : Wd) (h : WdAt w B T col s) (f t : Nat) (hf : f < 1000) (ht : 1 ≤ t ∧ t ≤ s.acs.length) (ht2 : t < 1000) (v : Vl) (hw : (wayF s (f, t)).length ≤ 500000) :
    Calls Tryd.prog 26 #[.pointer (some ⟨T, 0, none⟩), .int .i64 (f : Nat), .int .i64 (t : Nat), vlV v] w (WPost w B T col { s with ways := mput s.ways (f, t) (wayF s (f, t) ++ [v]) } (.int .i64 0)) := by
  obtain ⟨A, c, av, ps, M, l, sv, h⟩ := h
  obtain ⟨AA, ac, rfl, hac, hcm⟩ := h.rw_.form
  obtain ⟨k, n⟩ := v
  obtain ⟨w1, hw1⟩ : ∃ w1, w1 = w.alloc (.cells #[.int .i64 k, .int .i64 n, .string ⟨#[]⟩, .slice none 0 0] 56) := ⟨_, rfl⟩
  obtain ⟨w2, hw2⟩ : ∃ w2, w2 = w1.alloc (.cells #[.int .i64 (f : Nat), .int .i64 (t : Nat)] 82) := ⟨_, rfl⟩
  obtain ⟨X, hX⟩ : ∃ X, X = w.heap.size := ⟨_, rfl⟩
  obtain ⟨KB, hK⟩ : ∃ b, b = w1.heap.size := ⟨_, rfl⟩
  have b1 : Below w.heap.size w w1 := by rw [hw1]; exact (Below.refl _ _).alloc (Nat.le_refl _) _
  have b12 : Below w1.heap.size w1 w2 := by rw [hw2]; exact (Below.refl _ _).alloc (Nat.le_refl _) _
  have b2 : Below w.heap.size w w2 := b1.trans (b12.mono b1.size)
  have h1 := h.below b1 (.way (f, t))
  have h2 := h.below b2 (.way (f, t))
  have st2 : Stp col (recol col w.heap.size (.way (f, t))) w w2 := Stp.below b2 _
  have fX : Blk w1 X 56 [.int .i64 k, .int .i64 n, .string ⟨#[]⟩, .slice none 0 0] := by rw [hw1, hX]; exact Blk.new w _ _
  have fX2 := fX.below b12 fX.lt
  have fK : Blk w2 KB 82 [.int .i64 (f : Nat), .int .i64 (t : Nat)] := by rw [hw2, hK]; exact Blk.new w1 _ _
  have hd2 : WdW w2.drew B T (recol col w.heap.size (.way (f, t))) s A c (.slice AA s.acs.length ac) ps M l sv := h2.keep (by simp) (Same.any (Below.refl _ _).drew) (fun b _ _ => ⟨rfl, rfl⟩) (low_recol h _)
  have c1 := h1.blk.cell 1
  simp only [List.getElem?_cons_succ, List.getElem?_cons_zero] at c1
  have t2 := h2.blk.cell 2
  have x0 := fX2.cell 0
  have x1 := fX2.cell 1
  have x2 := fX2.cell 2
  have x3 := fX2.cell 3
  have k0 := fK.cell 0
  have k1 := fK.cell 1
  simp only [List.getElem?_cons_succ, List.getElem?_cons_zero] at t2 x0 x1 x2 x3 k0 k1
  have lT := h2.blk.lt
  have lX := fX2.lt
  have lK := fK.lt
  have TH := Lib.hid (there_any w1 T (t : Int) _ _ _ c1 h1.blk.lt)
  have hd : decide (1 ≤ (t : Int) ∧ (t : Int) ≤ (s.acs.length : Int)) = true := by simp; omega
  rw [hd] at TH
  unfold vlV
  have HW1 := Lib.hid hw1
  have HW2 := Lib.hid hw2
  have HX := Lib.hid hX
  have HK := Lib.hid hK
  have HL0 := Lib.hid (h.ws.at_ (f, t)).1.lt
  have HF := Lib.hid (And.intro fX2 fK)
  have HH := Lib.hid (And.intro hd2 (And.intro h2.m_lt st2))
  clear hd c1 hw1 hw2 hX hK h h1 h2 hd2 st2 fX fX2 fK b1 b12 b2
  go_enter Tryd.func26, Tryd.ntmps26
  go_wp2_with (fail)
  rw [← HW1.out, ← HX.out]
  refine TH.out.mono ?_
  rintro e w' ⟨rfl, rfl⟩
  go_wp2_with (fail)
  rw [← HW2.out, ← HK.out]
  refine wp_region_g (S := fun W => PutS T KB X M f t k n W) (m := 12) (by kernel_rfl) ?_
  have hS : PutS T KB X M f t k n (World.drew w2) := ⟨t2, k0, k1, x0, x1, x2, x3⟩
  repeat (first | (refine wpAnyG_take (i := 0) (v := .pointer (some ⟨T, 0, none⟩)) rfl ?_ ?_ ?_ (fun _ _ _ h => h) (Or.inl ⟨by rfl, ?_⟩) hS ?_; (· decide +kernel); (· decide +kernel); (· decide +kernel); (· (intro w' hS'; obtain ⟨hS0, hS1, hS2, hS3, hS4, hS5, hS6⟩ := hS'; go_simp))) | (refine wpAnyG_take (i := 1) (v := .pointer (some ⟨T, 0, none⟩)) rfl ?_ ?_ ?_ (fun _ _ _ h => h) (Or.inl ⟨by rfl, ?_⟩) hS ?_; (· decide +kernel); (· decide +kernel); (· decide +kernel); (· (intro w' hS'; obtain ⟨hS0, hS1, hS2, hS3, hS4, hS5, hS6⟩ := hS'; go_simp))) | (refine wpAnyG_take (i := 2) (v := .pointer (some ⟨T, 2, none⟩)) rfl ?_ ?_ ?_ (fun _ _ _ h => h) (Or.inl ⟨by rfl, ?_⟩) hS ?_; (· decide +kernel); (· decide +kernel); (· decide +kernel); (· (intro w' hS'; obtain ⟨hS0, hS1, hS2, hS3, hS4, hS5, hS6⟩ := hS'; go_simp))) | (refine wpAnyG_take (i := 3) (v := .map (some M)) rfl ?_ ?_ ?_ (fun _ _ _ h => h) (Or.inl ⟨by rfl, ?_⟩) hS ?_; (· decide +kernel); (· decide +kernel); (· decide +kernel); (· (intro w' hS'; obtain ⟨hS0, hS1, hS2, hS3, hS4, hS5, hS6⟩ := hS'; go_simp))) | (refine wpAnyG_take (i := 4) (v := .agg #[.int .i64 (f : Nat), .int .i64 (t : Nat)]) rfl ?_ ?_ ?_ (fun _ _ _ h => h) (Or.inl ⟨by rfl, ?_⟩) hS ?_; (· decide +kernel); (· decide +kernel); (· decide +kernel); (· (intro w' hS'; obtain ⟨hS0, hS1, hS2, hS3, hS4, hS5, hS6⟩ := hS'; go_simp))) | (refine wpAnyG_take (i := 5) (v := .agg #[.int .i64 k, .int .i64 n, .string ⟨#[]⟩, .slice none 0 0]) rfl ?_ ?_ ?_ (fun _ _ _ h => h) (Or.inl ⟨by rfl, ?_⟩) hS ?_; (· decide +kernel); (· decide +kernel); (· decide +kernel); (· (intro w' hS'; obtain ⟨hS0, hS1, hS2, hS3, hS4, hS5, hS6⟩ := hS'; go_simp))))
  refine wpAnyG_ready (rs := [6]) (by decide +kernel) (by simp) ?_
  refine AllReadyG.cons rfl (fun K hK => ?_) AllReadyG.nil
  go_simp
  refine (copy_any ⟨k, n⟩ _).mono ?_
  rintro e w3 ⟨rfl, hb3⟩
  try dsimp only [vlV]
  obtain ⟨hd2, lM, st2⟩ := HH.out
  obtain ⟨w4, hw4⟩ : ∃ w4, w4 = w3.alloc (.cells #[.int .i64 k, .int .i64 n, .string ⟨#[]⟩, .slice none 0 0] 56) := ⟨_, rfl⟩
  have hb34 : Below w3.heap.size w3 w4 := by rw [hw4]; exact (Below.refl _ _).alloc (Nat.le_refl _) _
  have hb4 : Below w2.drew.heap.size w2.drew w4 := hb3.trans (hb34.mono hb3.size)
  have hd4 := hd2.below hb4 (.way (f, t))
  obtain ⟨hold, hcol⟩ := hd4.ws.at_ (f, t)
  obtain ⟨c5, w5, he, hE, hg5⟩ := entry_way hd4.mp f t hf ht2
  obtain ⟨ov, hov⟩ : ∃ ov, ov = (mget l (f, t)).getD (.slice none 0 0) := ⟨_, rfl⟩
  rw [← hov] at he hE hold hcol
  have nM : ∀ b, ov.ownBlock = some b → b ≠ M := fun b hb e => by
    obtain ⟨cur, hk⟩ := hold.kind hb
    exact MapOf.no_blk hd4.mp hk e
  have hold5 : Seg w5 56 4 ov (wayF s (f, t)).length (cat vlC (wayF s (f, t))) := hold.keep fun b hb => hg5.block b (hold.lt b hb) (fun e => nM b hb (by injection e))
  have hr4 : Reads w4 Any 4 (some ⟨w3.heap.size, 0, none⟩) 1 (vlC ⟨k, n⟩) := by rw [hw4]; exact Reads.new w3 (vlC ⟨k, n⟩) 4 1 _ Any trivial rfl
  have b4 : Blk w4 w3.heap.size 56 (vlC ⟨k, n⟩) := by rw [hw4]; exact Blk.new w3 _ _
  have nM3 : w3.heap.size ≠ M := MapOf.no_blk hd4.mp b4
  have hr5 : Reads w5 Any 4 (some ⟨w3.heap.size, 0, none⟩) 1 (vlC ⟨k, n⟩) := by
    refine ⟨rfl, fun _ => ⟨_, _, rfl, trivial, fun j u hu => ?_⟩⟩
    rw [World.cell?_of_block (w := w4) (hg5.block _ b4.lt (fun e => nM3 (by injection e)))]
    rw [b4.cell, Nat.zero_add]
    exact hu
  obtain ⟨v7, w7, hap, hs7, hg7, hat7⟩ := hold5.app el_vl hr5 (by omega) (vlC_one _) (by omega) (c := 1) 54
  have nM7 : some M ≠ ov.ownBlock := fun e => nM M e.symm rfl
  have hE7 : EntryOf encK okK w7 M (mput l (f, t) ov) (f, t) ov c5 := hE.same (hg7.block M (Nat.lt_of_lt_of_le hd4.m_lt hg5.size) nM7)
  obtain ⟨w8, hst, hm8, hg8⟩ := store_way hE7 v7
  have l4 : w2.heap.size ≤ w4.heap.size := hb4.size
  have nT : T ≠ M := MapOf.no_blk hd4.mp hd4.blk
  have old_lt : ∀ b, ov.ownBlock = some b → b < X ∧ b ≠ T := fun b hb => ⟨by rw [HX.out]; exact HL0.out b (by rw [← hov]; exact hb), fun e => by
    have h1 := hcol b hb
    rw [e, hd4.cT] at h1
    cases h1⟩
  have lXK : X < KB := by
    have := HX.out
    have h1 := HK.out
    rw [HW1.out] at h1
    simp at h1
    omega
  have fX4 := (HF.out.1.drew).below hb4 HF.out.1.lt
  have fK4 := (HF.out.2.drew).below hb4 HF.out.2.lt
  have nX : X ≠ M := MapOf.no_blk hd4.mp fX4
  have nK : KB ≠ M := MapOf.no_blk hd4.mp fK4
  have hS3 : PutS T KB X M f t k n w3 := hS.same (hb3.block T lT) (hb3.block KB lK) (hb3.block X lX)
  have hS4 : PutS T KB X M f t k n w4 := hS.same (hb4.block T lT) (hb4.block KB lK) (hb4.block X lX)
  have hS5 : PutS T KB X M f t k n w5 := hS4.same (hg5.block T hd4.blk.lt (fun e => nT (by injection e))) (hg5.block KB fK4.lt (fun e => nK (by injection e))) (hg5.block X fX4.lt (fun e => nX (by injection e)))
  have hS7 : PutS T KB X M f t k n w7 := hS5.same (hg7.block T (Nat.lt_of_lt_of_le hd4.blk.lt hg5.size) (fun e => (old_lt T e.symm).2 rfl)) (hg7.block KB (Nat.lt_of_lt_of_le fK4.lt hg5.size) (fun e => by have := (old_lt KB e.symm).1; omega)) (hg7.block X (Nat.lt_of_lt_of_le fX4.lt hg5.size) (fun e => by have := (old_lt X e.symm).1; omega))
  have FIN := Lib.hid (put_end hd4 (f, t) ⟨k, n⟩ hg5 hs7 (by rw [← hov]; exact hg7) (by rw [← hov]; exact hat7) hm8 hg8 hd4.m_lt)
  have ST4 := Lib.hid ((st2.drew).trans (Stp.below hb4 (.way (f, t))))
  have HW4 := Lib.hid hw4
  refine hK _ _ (fun _ => hS3) ?_
  clear hK K hw4 hb34 hb4 hd4 hold hcol hE hg5 nM hold5 hr4 b4 nM3 hr5 hs7 hg7 hat7 nM7 hE7 hm8 hg8 l4 nT old_lt lXK fX4 fK4 nX nK hS3 hb3 hd2 st2 hov
  refine wpAnyG_ready (rs := [7]) (by decide +kernel) (by simp) ?_
  refine AllReadyG.cons rfl (fun K hK => ?_) AllReadyG.nil
  go_simp
  rw [← HW4.out]
  refine hK _ _ (fun _ => hS4) ?_
  clear hK K
  refine wpAnyG_ready (rs := [8]) (by decide +kernel) (by simp) ?_
  refine AllReadyG.cons rfl (fun K hK => ?_) AllReadyG.nil
  go_simp
  refine hK _ _ (fun _ => hS5) ?_
  clear hK K hS4 he
  have hS := hS5
  repeat (first | (refine wpAnyG_take (i := 9) (v := ov) rfl ?_ ?_ ?_ (fun _ _ _ h => h) (Or.inl ⟨by rfl, ?_⟩) hS ?_; (· decide +kernel); (· decide +kernel); (· decide +kernel); (· (intro w' hS'; skip; go_simp))) | (refine wpAnyG_take (i := 11) (v := .int .i64 c5) rfl ?_ ?_ ?_ (fun _ _ _ h => h) (Or.inl ⟨by rfl, ?_⟩) hS ?_; (· decide +kernel); (· decide +kernel); (· decide +kernel); (· (intro w' hS'; skip; go_simp))))
  refine wpAnyG_ready (rs := [10]) (by decide +kernel) (by simp) ?_
  refine AllReadyG.cons rfl (fun K hK => ?_) AllReadyG.nil
  refine step_app_run rfl (.tmp 22) (.tmp 25) rfl rfl rfl hap ?_
  refine hK _ _ (fun _ => hS7) ?_
  clear hK K hap
  refine wpAnyG_ready (rs := [12]) (by decide +kernel) (by simp) ?_
  refine AllReadyG.cons rfl (fun K hK => ?_) AllReadyG.nil
  go_simp
  refine hK _ _ (fun h => absurd h (by decide)) ?_
  clear hK K hst
  refine wpAnyG_done (by decide +kernel) ?_ _
  go_wp2_with (fail)
  go_ret
  obtain ⟨col', h8, st8⟩ := FIN.out
  exact ⟨rfl, col', h8, ST4.out.trans st8⟩
def WPostE (w : World) (B T : Nat) (col : Nat → Cl) (s' : Wd) (e : Ending) (w' : World) : Prop := ∃ k : Int, WPost w B T col s' (.int .i64 k) e w'
set_option maxRecDepth 100000 in
theorem put_no (w : World) (B T : Nat) (col : Nat → Cl) (s : Wd) (h : WdAt w B T col s) (f t : Int) (ht : ¬ (1 ≤ t ∧ t ≤ s.acs.length)) (v : Vl) :
    Calls Tryd.prog 26 #[.pointer (some ⟨T, 0, none⟩), .int .i64 f, .int .i64 t, vlV v] w (WPost w B T col s (.int .i64 4)) := by
  obtain ⟨A, c, av, ps, M, l, sv, h⟩ := h
  obtain ⟨AA, ac, rfl, hac, hcm⟩ := h.rw_.form
  obtain ⟨k, n⟩ := v
  obtain ⟨w1, hw1⟩ : ∃ w1, w1 = w.alloc (.cells #[.int .i64 k, .int .i64 n, .string ⟨#[]⟩, .slice none 0 0] 56) := ⟨_, rfl⟩
  have b1 : Below w.heap.size w w1 := by rw [hw1]; exact (Below.refl _ _).alloc (Nat.le_refl _) _
  have h1 := h.below b1 .base
  have c1 := h1.blk.cell 1
  simp only [List.getElem?_cons_succ, List.getElem?_cons_zero] at c1
  have TH := Lib.hid (there_any w1 T t _ _ _ c1 h1.blk.lt)
  have hd : decide (1 ≤ t ∧ t ≤ (s.acs.length : Int)) = false := by simp; omega
  rw [hd] at TH
  unfold vlV
  have HW1 := Lib.hid hw1
  have HH := Lib.hid (And.intro h1 (Stp.below (col := col) b1 .base))
  clear hd c1 hw1 h h1 b1 ht
  go_enter Tryd.func26, Tryd.ntmps26
  go_wp2_with (fail)
  rw [← HW1.out]
  refine TH.out.mono ?_
  rintro e w' ⟨rfl, rfl⟩
  go_wp2_with (fail)
  go_ret
  exact ⟨rfl, _, ⟨_, _, _, _, _, _, _, HH.out.1⟩, HH.out.2⟩
theorem put_any (w : World) (B T : Nat) (col : Nat → Cl) (s : Wd) (h : WdAt w B T col s) (f : Nat) (hf : f < 1000) (t : Int) (v : Vl) (hL : s.acs.length ≤ 30) (hw : ∀ k, (wayF s k).length ≤ 500000) :
    Calls Tryd.prog 26 #[.pointer (some ⟨T, 0, none⟩), .int .i64 (f : Nat), .int .i64 t, vlV v] w (WPostE w B T col (putF s f t v)) := by
  unfold putF
  by_cases ht : 1 ≤ t ∧ t ≤ s.acs.length
  · obtain ⟨n, rfl⟩ := Int.eq_ofNat_of_zero_le (show 0 ≤ t by omega)
    rw [if_pos ht]
    exact (put_yes w B T col s h f n hf (by omega) (by omega) v (hw _)).mono fun _ _ h => ⟨0, h⟩
  · rw [if_neg ht]
    exact (put_no w B T col s h f t ht v).mono fun _ _ h => ⟨4, h⟩
set_option maxRecDepth 100000 in
theorem send_any (w : World) (B T : Nat) (col : Nat → Cl) (s : Wd) (h : WdAt w B T col s) (t : Int) (v : Vl) (hL : s.acs.length ≤ 30) (hw : ∀ k, (wayF s k).length ≤ 500000) :
    Calls Tryd.prog 17 #[.pointer (some ⟨T, 0, none⟩), .int .i64 t, vlV v] w (WPostE w B T col (putF s 0 t v)) := by
  obtain ⟨w1, hw1⟩ : ∃ w1, w1 = w.alloc (.cells (vlC v).toArray 56) := ⟨_, rfl⟩
  have b1 : Below w.heap.size w w1 := by rw [hw1]; exact (Below.refl _ _).alloc (Nat.le_refl _) _
  have h1 : WdAt w1 B T (recol col w.heap.size .base) s := by
    obtain ⟨A, c, av, ps, M, l, sv, h⟩ := h
    exact ⟨_, _, _, _, _, _, _, h.below b1 .base⟩
  have C := put_any w1 B T _ s h1 0 (by omega) t v hL hw
  have ST := Lib.hid (Stp.below (col := col) b1 .base)
  obtain ⟨k, n⟩ := v
  unfold vlV at C ⊢
  unfold vlC at hw1
  have HC := Lib.hid C
  have HW1 := Lib.hid hw1
  clear C hw1 h h1 hw b1
  go_enter Tryd.func17, Tryd.ntmps17
  go_wp2_with (fail)
  rw [← HW1.out]
  refine HC.out.mono ?_
  rintro e w' ⟨k2, rfl, col', h', st'⟩
  have HF := Lib.hid (And.intro h' st')
  clear h' st'
  go_wp2_with (fail)
  go_ret
  exact ⟨k2, rfl, col', HF.out.1, ST.out.trans HF.out.2⟩
end Go.Proofs.YtlpkgheggbcidaaDoor
