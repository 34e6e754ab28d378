/- What layout.Lay holds in memory while it lays a document: the stack of groups, the map, the builder. -/
import Derived.Test.YtdbpgofabbpadaaDoorLyMeas
set_option linter.unusedVariables false
namespace Go.Ly
open Go.Mem Go.RowKit
def gcs (l : List Grp) : List Value := (l.map gcell).flatten
theorem gcs_app (a b : List Grp) : gcs (a ++ b) = gcs a ++ gcs b := by simp [gcs]
theorem gcs_len (l : List Grp) : (gcs l).length = l.length * 5 := by
  induction l with
  | nil => rfl
  | cons p r ih =>
    unfold gcs at ih ⊢
    rw [List.map_cons, List.flatten_cons, List.length_append, ih]
    simp [gcell]
    omega
theorem gcs_at (l : List Grp) (k : Nat) (hk : k < l.length) (j : Nat) (hj : j < 5) : (gcs l)[k * 5 + j]? = (gcell l[k])[j]? := by
  unfold gcs
  refine flatten_at (size := 5) ?_ (k := k) (c := gcell l[k]) ?_ j hj
  · intro c hc
    obtain ⟨p, _, rfl⟩ := List.mem_map.1 hc
    rfl
  · rw [List.getElem?_map, List.getElem?_eq_getElem hk]
    rfl
theorem mget_mapv {α β γ : Type} [DecidableEq α] (l : List (α × β)) (f : β → γ) (a : α) : mget (l.map fun p => (p.1, f p.2)) a = (mget l a).map f := by
  induction l with
  | nil => rfl
  | cons p r ih =>
    rw [List.map_cons, mget_cons, ih, mget_cons]
    by_cases h : p.1 = a <;> simp [h]
theorem look_gr (G : List (Nat × Grp)) (k : Nat) : (mget (G.map fun p => (p.1, gval p.2)) k).getD (gval zeroG) = gval ((mget G k).getD zeroG) := by
  rw [mget_mapv]
  cases mget G k <;> rfl
end Go.Ly
namespace Go.Proofs.YtdbpgofabbpadaaDoor
open Go.RowKit Go.Mem Go.Ly Go.Maps
theorem info_gr : (Tryd.prog.info? 42).map (fun i => (i.zero, i.size, i.bytes)) = some (some (.agg #[.int .i64 0, .int .i64 0, .bool false, .bool false, .int .i64 0]), 5, 32) := by kernel_rfl
/-- append of groups onto a row of the call's own -/
theorem app_gr (w : World) {ops : Array Oper} {rest : List Oper} {o : Oper} {a : Act} {Q : Exit → Act → World → Prop} (hgd : o.guard = none) (s x : Operand)
    (ho : o.op = .call { callee := .builtin .append, args := #[s, x], argTypes := #[43, 43] })
    {base : Nat} {v : Value} {n : Nat} {xs : List Value} (hown : w.ownsRow base 42 5 v n xs) (hs : a.eval s = v)
    {D : Nat → Prop} {A : Option Addr} {m : Nat} {news : List Value} (hr : Reads w D 5 A m news) {c : Nat} (hx : a.eval x = .slice A m c) (h1 : ∀ u ∈ news, u.oneCell' = true)
    (h63 : n + m ≤ 1000000) (hbase : base ≤ w.heap.size)
    (h : ∀ v' w', w'.ownsRow base 42 5 v' (n + m) (xs ++ news) → w.grownBy w' v.ownBlock → (v'.ownBlock = v.ownBlock ∨ v'.ownBlock = some w.heap.size) → wpList Tryd.prog ops Q rest (a.put o.dst v') w') : wpList Tryd.prog ops Q (o :: rest) a w := by
  obtain ⟨i0, hi0, hz0, hz1, hz2⟩ := info_of info_gr
  exact wpList_append_any w hgd s x _ ho base _ i0 _ 5 32 Tryd.underlying43 hi0 hz0 hz1 hz2 rfl (by omega) v n xs hs hown D A m c news hx hr h1 (by simp only [maxLen]; omega) (by omega) hbase h
theorem BldAt.below {B b : Nat} {l : List UInt8} {w w' : World} (h : BldAt B b l w) (hb : Below w.heap.size w w') : BldAt B b l w' := by
  have go : ∀ p, Lib.BuilderAtF 40 5 B b p (Lib.byteCells l) w → Lib.BuilderAtF 40 5 B b p (Lib.byteCells l) w' := by
    rintro p ⟨hB, v, hv, hown, hne⟩
    have hlt : b < w.heap.size := (Array.getElem?_eq_some_iff.1 hv).1
    exact ⟨hB, v, (hb.block b hlt).trans hv, hown.kept (row := none) ⟨hb.os, hb.tape, hb.output, hb.size, fun k hk _ => hb.block k hk⟩ (Classical.em _), hne⟩
  exact Or.imp (go _) (go _) h
theorem BldAt.blk {B b : Nat} {l : List UInt8} {w : World} (h : BldAt B b l w) : ∃ p v, Blk w b 40 [p, v] := by
  rcases h with ⟨_, v, hv, _⟩ | ⟨_, v, hv, _⟩
  · exact ⟨_, v, hv⟩
  · exact ⟨_, v, hv⟩
theorem BldAt.grown {B b : Nat} {l : List UInt8} {w w' : World} {row : Option Nat} (h : BldAt B b l w) (hg : w.grownBy w' row) (hr : ∀ g, row = some g → ∃ cs, Blk w g 42 cs) : BldAt B b l w' := by
  have t1 : (42 : TypeId) ≠ 40 := by decide
  have t2 : (42 : TypeId) ≠ 5 := by decide
  have go : ∀ p, Lib.BuilderAtF 40 5 B b p (Lib.byteCells l) w → Lib.BuilderAtF 40 5 B b p (Lib.byteCells l) w' := by
    rintro p ⟨hB, v, hv, hown, hne⟩
    have hlt : b < w.heap.size := (Array.getElem?_eq_some_iff.1 hv).1
    refine ⟨hB, v, (hg.block b hlt fun e => ?_).trans hv, hown.kept hg ?_, hne⟩
    · obtain ⟨cs, hc⟩ := hr b e.symm
      unfold Blk at hc
      rw [hv] at hc
      simp only [Option.some.injEq, Obj.cells.injEq] at hc
      exact t1 hc.2.1.symm
    · rcases hown.2 with ⟨rfl, _⟩ | ⟨g, cap, cur, fz, rfl, _, hgg, _⟩
      · exact .inl rfl
      · refine .inr fun e => ?_
        obtain ⟨cs, hc⟩ := hr g (by rw [← e]; rfl)
        unfold Blk at hc
        rw [hgg] at hc
        simp only [Option.some.injEq, Obj.cells.injEq] at hc
        exact t2 hc.2.1.symm
  exact Or.imp (go _) (go _) h
theorem OthersKept.blk {w w' : World} {b g : Nat} {t : TypeId} {cs : List Value} (h : Lib.OthersKept 5 (some b) w w') (hb : Blk w g t cs) (h1 : g ≠ b) (h2 : t ≠ 5) : Blk w' g t cs :=
  h g _ hb (fun e => h1 (by injection e)) fun c fz e => by
    simp only [Obj.cells.injEq] at e
    exact h2 e.2.1
theorem OthersKept.own {w w' : World} {b B : Nat} {t : TypeId} {size n : Nat} {v : Value} {xs : List Value} (h : Lib.OthersKept 5 (some b) w w') (ho : w.ownsRow B t size v n xs) (h1 : some b ≠ v.ownBlock) (h2 : t ≠ 5) : w'.ownsRow B t size v n xs := by
  refine ⟨ho.1, ?_⟩
  rcases ho.2 with h0 | ⟨g, cap, cur, rfl, hb, hg, r⟩
  · exact .inl h0
  · refine .inr ⟨g, cap, cur, rfl, hb, h g _ hg (fun e => h1 (by rw [← e]; rfl)) (fun c fz e => ?_), r⟩
    simp only [Obj.cells.injEq] at e
    exact h2 e.2.1
/-- while a document is laid -/
structure LyAt (w wr : World) (B BB M : Nat) (G : List (Nat × Grp)) (A : Option Addr) (c : Nat) (l : Ls) : Prop where
  own : wr.ownsRow B 42 5 (.slice A l.stack.length c) l.stack.length (gcs l.stack)
  mp : MapOf encN okN wr M (G.map fun p => (p.1, gval p.2))
  bld : BldAt B BB l.out wr
  lt : M < B ∧ B ≤ wr.heap.size ∧ w.heap.size ≤ B
  be : Below w.heap.size w wr
section
variable {w wr W : World} {B BB M : Nat} {G : List (Nat × Grp)} {A : Option Addr} {c : Nat} {l : Ls}
theorem LyAt.below (h : LyAt w wr B BB M G A c l) (hb : Below wr.heap.size wr W) : LyAt w W B BB M G A c l :=
  ⟨own_below h.own hb, h.mp.below hb, h.bld.below hb, ⟨h.lt.1, Nat.le_trans h.lt.2.1 hb.size, h.lt.2.2⟩, h.be.trans (hb.mono h.be.size)⟩
theorem LyAt.kind (h : LyAt w wr B BB M G A c l) : ∀ g, (Value.slice A l.stack.length c).ownBlock = some g → ∃ cs, Blk wr g 42 cs := by
  intro g hg
  rcases h.own.2 with ⟨e, _⟩ | ⟨g', cap, cur, e, _, hc, _⟩
  · rw [e] at hg; simp [Value.ownBlock] at hg
  · rw [e] at hg
    simp only [Value.ownBlock, Option.some.injEq] at hg
    subst hg
    exact ⟨cur.toList, by unfold Blk; simpa using hc⟩
theorem LyAt.app {A9 : Option Addr} {c9 : Nat} {g : Grp} (h : LyAt w wr B BB M G A c l) (hown : W.ownsRow B 42 5 (.slice A9 (l.stack.length + 1) c9) (l.stack.length + 1) (gcs l.stack ++ gcell g)) (hg : wr.grownBy W (Value.slice A l.stack.length c).ownBlock) : LyAt w W B BB M G A9 c9 ⟨l.out, l.col, l.stack ++ [g]⟩ := by
  refine ⟨?_, h.mp.grown hg (fun e => ?_), h.bld.grown hg h.kind, ⟨h.lt.1, Nat.le_trans h.lt.2.1 hg.size, h.lt.2.2⟩, h.be.grown hg h.be.size fun k hk => ?_⟩
  · rw [gcs_app, show gcs [g] = gcell g from by simp [gcs]]
    simpa using hown
  · have := (h.own.lt M e.symm).1
    have := h.lt
    omega
  · have := (h.own.lt k hk).1
    have := h.lt
    omega
theorem LyAt.cut {out : List UInt8} {col : Nat} {r : List Grp} {g : Grp} (h : LyAt w wr B BB M G A c ⟨out, col, r ++ [g]⟩) : LyAt w wr B BB M G A c ⟨out, col, r⟩ := by
  have h1 := own_cut h.own r.length (by simp)
  simp only at h1
  rw [gcs_app, List.take_append_of_le_length (by rw [gcs_len]; exact Nat.le_refl _), List.take_of_length_le (by rw [gcs_len]; exact Nat.le_refl _)] at h1
  exact ⟨h1, h.mp, h.bld, h.lt, h.be⟩
theorem LyAt.write {x : List UInt8} (h : LyAt w wr B BB M G A c l) (hb : BldAt B BB (l.out ++ x) W) (hl : Below B wr W) (hk : Lib.OthersKept 5 (some BB) wr W) (col : Nat) : LyAt w W B BB M G A c ⟨l.out ++ x, col, l.stack⟩ := by
  obtain ⟨p, v, fb⟩ := h.bld.blk
  refine ⟨OthersKept.own hk h.own (own_ne h.own fb (by decide)) (by decide), h.mp.same (hl.block M h.lt.1), hb, ⟨h.lt.1, Nat.le_trans h.lt.2.1 hl.size, h.lt.2.2⟩, h.be.trans (hl.mono h.lt.2.2)⟩
theorem LyAt.col (h : LyAt w wr B BB M G A c l) (k : Nat) : LyAt w wr B BB M G A c ⟨l.out, k, l.stack⟩ := ⟨h.own, h.mp, h.bld, h.lt, h.be⟩
end
end Go.Proofs.YtdbpgofabbpadaaDoor
