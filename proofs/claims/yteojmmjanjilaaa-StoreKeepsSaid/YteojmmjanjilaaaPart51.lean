/- StoreKeeps: the state of the region that makes the two snapshots, in whatever order its calls and allotments come. · A region that draws its order, over any program: a condition that every operation keeps, in whatever order they come, holds at the end. No condition. -/
import Derived.Test.YteojmmjanjilaaaKpWalk
import Derived.RegionTactic
set_option linter.unusedVariables false
namespace Go.Proofs.Yteojmmjanjilaaa
open Go.RowKit Go.Mem Go.Val Go.Chunk Go.Maps
/-- a pointer to a block -/
def toB (q : Nat) : Value := .pointer (some ⟨q, 0, none⟩)
theorem toB_inj {p q : Nat} (h : toB p = toB q) : p = q := by
  unfold toB at h
  injection h with h
  injection h with h
  injection h with h
/-- an empty snapshot's cells -/
def zSnap : List Value := [.int .i64 0, .slice none 0 0, .slice none 0 0]
structure KsAt (w W : World) (x33 x40 x7 x8 : Value) (b2 b9 b10 b11 : Bool) (s t : Snp) : Prop where
  bel : Below w.heap.size w W
  p7 : b10 = true → ∃ F, x7 = toB F ∧ w.heap.size ≤ F ∧ Blk W F 26 zSnap
  p8 : b11 = true → ∃ G, x8 = toB G ∧ w.heap.size ≤ G ∧ Blk W G 26 zSnap
  l7 : ∀ q, x7 = toB q → q < W.heap.size
  l8 : ∀ q, x8 = toB q → q < W.heap.size
  ne : ∀ q, x7 = toB q → x8 = toB q → False
  v1 : b2 = true → ∃ cs, x33 = .agg cs.toArray ∧ SnCells 41 W (fun q => x7 ≠ toB q ∧ x8 ≠ toB q) cs s
  v2 : b9 = true → ∃ cs, x40 = .agg cs.toArray ∧ SnCells 41 W (fun q => x7 ≠ toB q ∧ x8 ≠ toB q) cs t
section
variable {w W W' : World} {x33 x40 x7 x8 : Value} {b2 b9 b10 b11 : Bool} {s t : Snp}
theorem KsAt.start {u : Value} (hu : ∀ q, u ≠ toB q) (w : World) (x33 x40 : Value) (s t : Snp) : KsAt w w.drew x33 x40 u u false false false false s t :=
  ⟨(Below.refl _ _).drew, by simp, by simp, fun q h => absurd h (hu q), fun q h => absurd h (hu q), fun q h => absurd h (hu q), by simp, by simp⟩
theorem KsAt.grow (h : KsAt w W x33 x40 x7 x8 b2 b9 b10 b11 s t) (hb : Below W.heap.size W W') : KsAt w W' x33 x40 x7 x8 b2 b9 b10 b11 s t :=
  ⟨h.bel.trans (hb.mono h.bel.size), fun e => by obtain ⟨F, h1, h2, h3⟩ := h.p7 e; exact ⟨F, h1, h2, h3.below hb h3.lt⟩, fun e => by obtain ⟨F, h1, h2, h3⟩ := h.p8 e; exact ⟨F, h1, h2, h3.below hb h3.lt⟩,
    fun q hq => Nat.lt_of_lt_of_le (h.l7 q hq) hb.size, fun q hq => Nat.lt_of_lt_of_le (h.l8 q hq) hb.size, h.ne,
    fun e => by obtain ⟨cs, h1, h2⟩ := h.v1 e; exact ⟨cs, h1, (SnCells.stable 41).imp ((SnCells.stable 41).keep h2 (Same.of_in (GrownIn.of_below (own := fun _ => False) hb) fun _ _ _ h => h)) fun _ hq _ => hq⟩,
    fun e => by obtain ⟨cs, h1, h2⟩ := h.v2 e; exact ⟨cs, h1, (SnCells.stable 41).imp ((SnCells.stable 41).keep h2 (Same.of_in (GrownIn.of_below (own := fun _ => False) hb) fun _ _ _ h => h)) fun _ hq _ => hq⟩⟩
theorem KsAt.call1 (h : KsAt w W x33 x40 x7 x8 b2 b9 b10 b11 s t) {cs : List Value} (hv : SnCells 41 W' (fun q => W.heap.size ≤ q) cs s) (hb : Below W.heap.size W W') : KsAt w W' (.agg cs.toArray) x40 x7 x8 true b9 b10 b11 s t :=
  have g := h.grow hb
  ⟨g.bel, g.p7, g.p8, g.l7, g.l8, g.ne, fun _ => ⟨cs, rfl, (SnCells.stable 41).imp hv fun q hq _ => ⟨fun e => by have := h.l7 q e; omega, fun e => by have := h.l8 q e; omega⟩⟩, g.v2⟩
theorem KsAt.call2 (h : KsAt w W x33 x40 x7 x8 b2 b9 b10 b11 s t) {cs : List Value} (hv : SnCells 41 W' (fun q => W.heap.size ≤ q) cs t) (hb : Below W.heap.size W W') : KsAt w W' x33 (.agg cs.toArray) x7 x8 b2 true b10 b11 s t :=
  have g := h.grow hb
  ⟨g.bel, g.p7, g.p8, g.l7, g.l8, g.ne, g.v1, fun _ => ⟨cs, rfl, (SnCells.stable 41).imp hv fun q hq _ => ⟨fun e => by have := h.l7 q e; omega, fun e => by have := h.l8 q e; omega⟩⟩⟩
theorem sn_new {W : World} {o : Obj} {p : Nat → Prop} {cs : List Value} {s : Snp} {x8 : Value} (h : SnCells 41 W p cs s) (hp : ∀ q, p q → x8 ≠ toB q) : SnCells 41 (W.alloc o) (fun q => toB W.heap.size ≠ toB q ∧ x8 ≠ toB q) cs s := by
  have h2 := (SnCells.stable 41).imp h (D' := fun q => p q ∧ q < W.heap.size) fun q a b => ⟨a, b⟩
  exact (SnCells.stable 41).imp ((SnCells.stable 41).keep h2 (Same.alloc _ _ _)) fun q hq _ => ⟨fun e => by have := toB_inj e; have := hq.2; omega, hp q hq.1⟩
theorem KsAt.alloc7 (h : KsAt w W x33 x40 x7 x8 b2 b9 b10 b11 s t) : KsAt w (W.alloc (.cells zSnap.toArray 26)) x33 x40 (toB W.heap.size) x8 b2 b9 true b11 s t :=
  have g := h.grow (W' := W.alloc (.cells zSnap.toArray 26)) ((Below.refl _ _).alloc (Nat.le_refl _) _)
  ⟨g.bel, fun _ => ⟨_, rfl, h.bel.size, Blk.new W _ _⟩, g.p8, fun q e => by have := toB_inj e; simp; omega, g.l8, fun q e e' => by have := toB_inj e; have := h.l8 q e'; omega,
    fun e => by obtain ⟨cs, h1, h2⟩ := h.v1 e; exact ⟨cs, h1, sn_new h2 fun q hq => hq.2⟩, fun e => by obtain ⟨cs, h1, h2⟩ := h.v2 e; exact ⟨cs, h1, sn_new h2 fun q hq => hq.2⟩⟩
theorem KsAt.alloc8 (h : KsAt w W x33 x40 x7 x8 b2 b9 b10 b11 s t) : KsAt w (W.alloc (.cells zSnap.toArray 26)) x33 x40 x7 (toB W.heap.size) b2 b9 b10 true s t :=
  have g := h.grow (W' := W.alloc (.cells zSnap.toArray 26)) ((Below.refl _ _).alloc (Nat.le_refl _) _)
  ⟨g.bel, g.p7, fun _ => ⟨_, rfl, h.bel.size, Blk.new W _ _⟩, g.l7, fun q e => by have := toB_inj e; simp; omega, fun q e' e => by have := toB_inj e; have := h.l7 q e'; omega,
    fun e => by obtain ⟨cs, h1, h2⟩ := h.v1 e; exact ⟨cs, h1, (SnCells.stable 41).imp (sn_new (x8 := x7) h2 fun q hq => hq.1) fun q hq _ => ⟨hq.2, hq.1⟩⟩, fun e => by obtain ⟨cs, h1, h2⟩ := h.v2 e; exact ⟨cs, h1, (SnCells.stable 41).imp (sn_new (x8 := x7) h2 fun q hq => hq.1) fun q hq _ => ⟨hq.2, hq.1⟩⟩⟩
/-- all has come: the blocks that the two are put into, and what holds when they have been -/
theorem KsAt.last (h : KsAt w W x33 x40 x7 x8 true true true true s t) : ∃ F G P1 p1 P2 p2 Q1 q1 Q2 q2, x7 = .pointer (some ⟨F, 0, none⟩) ∧ x8 = .pointer (some ⟨G, 0, none⟩) ∧
    x33 = .agg #[.int .i64 s.time, .slice P1 s.parcels.length p1, .slice P2 s.ways.length p2] ∧ x40 = .agg #[.int .i64 t.time, .slice Q1 t.parcels.length q1, .slice Q2 t.ways.length q2] ∧
    Blk W F 26 zSnap ∧ Blk (setRow W F 0 [.int .i64 s.time, .slice P1 s.parcels.length p1, .slice P2 s.ways.length p2]) G 26 zSnap ∧
    TwoSn w (setRow (setRow W F 0 [.int .i64 s.time, .slice P1 s.parcels.length p1, .slice P2 s.ways.length p2]) G 0 [.int .i64 t.time, .slice Q1 t.parcels.length q1, .slice Q2 t.ways.length q2]) F G s t := by
  obtain ⟨F, rfl, hF, bF⟩ := h.p7 rfl
  obtain ⟨G, rfl, hG, bG⟩ := h.p8 rfl
  have hne : F ≠ G := fun e => h.ne F rfl (by rw [e])
  obtain ⟨cs, rfl, hv⟩ := h.v1 rfl
  obtain ⟨ds, rfl, hw⟩ := h.v2 rfl
  obtain ⟨P1, p1, P2, p2, rfl⟩ := SnCells.out hv
  obtain ⟨Q1, q1, Q2, q2, rfl⟩ := SnCells.out hw
  have b1 : ∀ vs : List Value, Blk (setRow W F 0 vs) G 26 zSnap := fun vs => (Go.Mem.setRow_heap (fun e => hne e.symm) vs W 0).trans bG
  have kk : ∀ {cs vs us : List Value} {x : Snp}, SnCells 41 W (fun q => toB F ≠ toB q ∧ toB G ≠ toB q) cs x → SnCells 41 (setRow (setRow W F 0 vs) G 0 us) Any cs x := fun {cs vs us x} hx =>
    (SnCells.stable 41).imp ((SnCells.stable 41).keep ((SnCells.stable 41).keep hx (setRow_same (g := F) (fun hh => hh.1 rfl) vs W 0)) (setRow_same (g := G) (fun hh => hh.2 rfl) us _ 0)) fun _ _ _ => trivial
  exact ⟨F, G, P1, p1, P2, p2, Q1, q1, Q2, q2, rfl, rfl, rfl, rfl, bF, b1 _, _, _, (Go.Mem.setRow_heap hne _ _ 0).trans (setRow_blk bF _ rfl), setRow_blk (b1 _) _ rfl, kk hv, kk hw, setRow_below hG _ _ 0 (setRow_below hF _ W 0 h.bel)⟩
end
end Go.Proofs.Yteojmmjanjilaaa
set_option linter.unusedVariables false
namespace Go.Mem
open Go
section
variable {P : Program} {ops : Array Oper} {Q : Exit → Act → World → Prop} {md : Region.Mode}
/-- how many operations have not come up -/
def unlisted (ops : Array Oper) (listed : Array Bool) : Nat := (List.range ops.size).countP fun i => !listed.getD i true
theorem countP_less {p q : Nat → Bool} {i : Nat} : ∀ {l : List Nat}, (∀ x, q x = true → p x = true) → i ∈ l → p i = true → q i = false → l.countP q < l.countP p
  | [], _, h, _, _ => by cases h
  | x :: r, hpq, h, h1, h2 => by
    have hle : r.countP q ≤ r.countP p := List.countP_mono_left fun y _ hy => hpq y hy
    rw [List.countP_cons, List.countP_cons]
    rcases List.mem_cons.1 h with rfl | h
    · rw [h1, h2]
      simp
      omega
    · have ih := countP_less hpq h h1 h2
      by_cases hq : q x = true
      · rw [if_pos hq, if_pos (hpq x hq)]
        omega
      · rw [if_neg hq]
        split <;> omega
theorem unlisted_set {listed : Array Bool} {i : Nat} (hi : i ∈ Region.ready md ops listed) : unlisted ops (listed.setIfInBounds i true) < unlisted ops listed := by
  unfold Region.ready at hi
  obtain ⟨h1, h2⟩ := List.mem_filter.1 hi
  simp only [Bool.and_eq_true, Bool.not_eq_true'] at h2
  have hs : i < listed.size := by
    rcases Nat.lt_or_ge i listed.size with h | h
    · exact h
    · have := h2.1
      simp [Array.getElem?_eq_none h] at this
  refine countP_less (fun x hx => ?_) h1 (by rw [h2.1]; rfl) (by simp [hs])
  by_cases e : i = x
  · subst e
    simp [hs] at hx
  · simpa [Array.getElem?_setIfInBounds_ne e] using hx
theorem wpAny_inv {I : Array Bool → Act → World → Prop} (step : ∀ listed a w i, I listed a w → i ∈ Region.ready md ops listed → wpOp P ops Q i (fun a' w' => I (listed.setIfInBounds i true) a' w') a w)
    (done : ∀ listed a w, I listed a w → Region.ready md ops listed = [] → Q .normal a w) : ∀ (fuel : Nat) (listed : Array Bool) (a : Act) (w : World), unlisted ops listed ≤ fuel → I listed a w → wpAny P md ops Q fuel listed a w
  | 0, listed, a, w, hf, h => by
    have hr : Region.ready md ops listed = [] := by
      rw [List.eq_nil_iff_forall_not_mem]
      intro i hi
      have := unlisted_set hi
      omega
    exact ⟨hr, done _ _ _ h hr⟩
  | fuel + 1, listed, a, w, hf, h => ⟨done _ _ _ h, fun i hi => wpOp_mono (fun a' w' h' => wpAny_inv step done fuel _ a' w' (by have := unlisted_set hi; omega) h') (step _ _ _ i h hi)⟩
theorem wpAny_more : ∀ (fuel : Nat) (listed : Array Bool) (a : Act) (w : World), wpAny P md ops Q fuel listed a w → wpAny P md ops Q (fuel + 1) listed a w
  | 0, listed, a, w, h => ⟨fun _ => h.2, fun i hi => by rw [h.1] at hi; cases hi⟩
  | fuel + 1, listed, a, w, h => ⟨h.1, fun i hi => wpOp_mono (fun a' w' h' => wpAny_more fuel _ a' w' h') (h.2 i hi)⟩
theorem wpAny_le {fuel fuel' : Nat} (hf : fuel ≤ fuel') {listed : Array Bool} {a : Act} {w : World} (h : wpAny P md ops Q fuel listed a w) : wpAny P md ops Q fuel' listed a w := by
  induction hf with
  | refl => exact h
  | step _ ih => exact wpAny_more _ _ _ _ ih
/-- .. until a state of the region from which it goes on otherwise -/
theorem wpAny_until {I : Array Bool → Act → World → Prop} {fin : Array Bool} {k : Nat} (hk : unlisted ops fin = k) (step : ∀ listed a w i, I listed a w → listed ≠ fin → i ∈ Region.ready md ops listed → wpOp P ops Q i (fun a' w' => I (listed.setIfInBounds i true) a' w') a w)
    (stuck : ∀ listed a w, I listed a w → listed ≠ fin → Region.ready md ops listed ≠ []) (after : ∀ a w, I fin a w → wpAny P md ops Q k fin a w) :
    ∀ (fuel : Nat) (listed : Array Bool) (a : Act) (w : World), unlisted ops listed ≤ fuel → I listed a w → wpAny P md ops Q fuel listed a w
  | 0, listed, a, w, hf, h => by
    have hr : Region.ready md ops listed = [] := by
      rw [List.eq_nil_iff_forall_not_mem]
      intro i hi
      have := unlisted_set hi
      omega
    by_cases e : listed = fin
    · subst e
      exact wpAny_le (by omega) (after a w h)
    · exact absurd hr (stuck _ _ _ h e)
  | fuel + 1, listed, a, w, hf, h => by
    by_cases e : listed = fin
    · subst e
      exact wpAny_le (by omega) (after a w h)
    · exact ⟨fun h0 => absurd h0 (stuck _ _ _ h e), fun i hi => wpOp_mono (fun a' w' h' => wpAny_until hk step stuck after fuel _ a' w' (by have := unlisted_set hi; omega) h') (step _ _ _ i h e hi)⟩
end
end Go.Mem
