/- Contract of shape.Same at programs of the laws. -/
import Derived.Test.YtoddjdajjmcliaaShSame
set_option linter.unusedVariables false
namespace Go.Proofs.Ytoddjdajjmcliaa
open Go.RowKit Go.Mem Go.Sh Go.Maps
set_option maxRecDepth 100000 in
set_option maxHeartbeats 2000000 in
theorem sameC_any (f dd d : Nat) (w : World) (p : Pg) (P : List Dt) (q : Pg) (Q : List Dt) (a b : Ty) (A1 : Option Addr) (m1 c1 : Nat) (A2 : Option Addr) (m2 c2 : Nat) (r : Bool) (s' : List Nm)
    (hp : DtsAt dd w Any p.A p.n p.c P) (hq : DtsAt dd w Any q.A q.n q.c Q) (ha : TyAt d w Any a.kind a.name A1 m1 c1 a) (hb : TyAt d w Any b.kind b.name A2 m2 c2 b) (hf : sameF P Q f [] a b [] [] = some (r, s')) :
    Calls Try.prog 13 #[.agg p.cells.toArray, .agg q.cells.toArray, .agg #[.int .i64 (a.kind : Nat), str a.name, .slice A1 m1 c1], .agg #[.int .i64 (b.kind : Nat), str b.name, .slice A2 m2 c2]] w fun e w' => e = .returned (.bool r) ∧ Below w.heap.size w w' := by
  have hm1 := @run_makeMap Try.prog
  have H := Lib.hid (And.intro hp (And.intro hq (And.intro ha (And.intro hb hf))))
  clear hp hq ha hb hf
  generalize hk1 : a.kind = k1 at H ⊢
  generalize hx1 : a.name = x1 at H ⊢
  generalize hk2 : b.kind = k2 at H ⊢
  generalize hx2 : b.name = x2 at H ⊢
  have HE := Lib.hid (And.intro hk1 (And.intro hx1 (And.intro hk2 hx2)))
  clear hk1 hx1 hk2 hx2
  unfold Pg.cells pvs
  go_enter Try.func13, Try.ntmps13
  go_wp2_with (fail)
  obtain ⟨W4, hW4⟩ : ∃ W4, W4 = (((w.alloc (.cells #[str [109], .int .i64 1, .slice none 0 0, .slice p.A p.n p.c, .slice none 0 0, .slice none 0 0, .slice none 0 0, .slice p.B p.m p.e] 29)).alloc (.cells #[str [109], .int .i64 1, .slice none 0 0, .slice q.A q.n q.c, .slice none 0 0, .slice none 0 0, .slice none 0 0, .slice q.B q.m q.e] 29)).alloc (.cells #[.int .i64 (k1 : Nat), str x1, .slice A1 m1 c1] 34)).alloc (.cells #[.int .i64 (k2 : Nat), str x2, .slice A2 m2 c2] 34) := ⟨_, rfl⟩
  have hsz : W4.heap.size = w.heap.size + 1 + 1 + 1 + 1 := by rw [hW4]; simp
  have hb4 : Below w.heap.size w W4 := by rw [hW4]; exact ((((Below.refl _ _).alloc (Nat.le_refl _) _).alloc (by simp) _).alloc (by simp; omega) _).alloc (by simp; omega) _
  rw [← hW4, ← hsz]
  clear hW4
  have HB4 := Lib.hid hb4
  have hg : Blk ((W4.alloc (.map #[] 0)).alloc (.cells (p.cells ++ q.cells ++ [Value.map (some W4.heap.size)]).toArray 88)) (W4.heap.size + 1) 88 (p.cells ++ q.cells ++ [Value.map (some W4.heap.size)]) := by
    have h := Blk.new (W4.alloc (.map #[] 0)) 88 (p.cells ++ q.cells ++ [Value.map (some W4.heap.size)])
    rw [show (W4.alloc (.map #[] 0)).heap.size = W4.heap.size + 1 by simp] at h
    exact h
  have hb6 : Below W4.heap.size W4 ((W4.alloc (.map #[] 0)).alloc (.cells (p.cells ++ q.cells ++ [Value.map (some W4.heap.size)]).toArray 88)) := ((Below.refl _ _).alloc (Nat.le_refl _) _).alloc (by simp) _
  have hoff : ∀ b, Any b → b < W4.heap.size → Off W4.heap.size b := fun b _ hl => by show b ≠ _; omega
  obtain ⟨hp, hq, ha, hb, hf⟩ := H.out
  have hp6 := ((hp.keep (Same.any hb4)).imp hoff).keep (Same.any hb6 : Same Any _ _).off
  have hq6 := ((hq.keep (Same.any hb4)).imp hoff).keep (Same.any hb6 : Same Any _ _).off
  have ha6 := ((ha.keep (Same.any hb4)).imp hoff).keep (Same.any hb6 : Same Any _ _).off
  have hb6' := ((hb.keep (Same.any hb4)).imp hoff).keep (Same.any hb6 : Same Any _ _).off
  have hs6 : SeenAt ((W4.alloc (.map #[] 0)).alloc (.cells (p.cells ++ q.cells ++ [Value.map (some W4.heap.size)]).toArray 88)) ((W4.alloc (.map #[] 0)).alloc (.cells (p.cells ++ q.cells ++ [Value.map (some W4.heap.size)]).toArray 88)) W4.heap.size [] := ⟨World.grownBy.refl _ _, (MapOf.new W4).alloc _⟩
  obtain ⟨e1, e2, e3, e4⟩ := HE.out
  subst e1 e2 e3 e4
  have R := same_any f dd d _ (W4.heap.size + 1) W4.heap.size p P q Q [] a b A1 m1 c1 A2 m2 c2 none 0 [] none 0 [] r s' ⟨hg, hp6, hq6, by omega⟩ hs6 ha6 hb6' Reads.empty (by simp) Reads.empty (by simp) hf
  refine R.mono ?_
  clear R hg hp6 hq6 ha6 hb6' hp hq ha hb hf hs6 hoff
  rintro e w7 ⟨rfl, hs7⟩
  have HB7 := Lib.hid (hb4.trans (((hb6.mono (Nat.le_refl _)).grown hs7.1 (by simp; omega) (fun k hk => by injection hk with hk; omega)).mono hb4.size))
  go_wp2_with (fail)
  go_ret
  exact ⟨rfl, HB7.out⟩
end Go.Proofs.Ytoddjdajjmcliaa
