/- Words for memory, over any program: a slice that reads as a list of cells in blocks that fulfil a predicate; how that is kept when the world grows. No condition. -/
import Derived.WalkKit
import Derived.Maps.AppendAt
import Derived.Deep.Draws
import Derived.Lib.Hide
set_option linter.unusedVariables false
namespace Go.Mem
open Go.RowKit

/-- The slice with address A and n elements of 'size' cells reads as the cells xs, in a block that fulfils D. -/
def Reads (w : World) (D : Nat → Prop) (size : Nat) (A : Option Addr) (n : Nat) (xs : List Value) : Prop :=
  xs.length = n * size ∧ (0 < n → ∃ b off, A = some ⟨b, off, none⟩ ∧ D b ∧ ∀ j u, xs[j]? = some u → w.cell? ⟨b, off + j, none⟩ = some u)

/-- Blocks that fulfil D are as they were. -/
def Same (D : Nat → Prop) (w w' : World) : Prop := ∀ b, D b → b < w.heap.size → w'.heap[b]? = w.heap[b]?

theorem lt_of_cell {w : World} {b o : Nat} {u : Value} (h : w.cell? ⟨b, o, none⟩ = some u) : b < w.heap.size := World.block_lt_of_cell? w ⟨b, o, none⟩ h

section
variable {w w' w'' : World} {D D' : Nat → Prop} {size n : Nat} {A : Option Addr} {xs : List Value}

theorem Same.refl (D : Nat → Prop) (w : World) : Same D w w := fun _ _ _ => rfl
theorem Same.trans (h : Same D w w') (hs : w.heap.size ≤ w'.heap.size) (k : Same D w' w'') : Same D w w'' :=
  fun b hb hl => (k b hb (by omega)).trans (h b hb hl)
theorem Same.of_below {B : Nat} (h : Below B w w') (hD : ∀ b, D b → b < w.heap.size → b < B) : Same D w w' := fun b hb hl => h.block b (hD b hb hl)
theorem Same.of_grown {row : Option Nat} (h : w.grownBy w' row) (hD : ∀ b, D b → b < w.heap.size → some b ≠ row) : Same D w w' := fun b hb hl => h.block b hl (hD b hb hl)
theorem Same.alloc (D : Nat → Prop) (w : World) (o : Obj) : Same D w (w.alloc o) := fun b _ hl => Below.heap_alloc w o b hl
theorem Same.cell (h : Same D w w') {b o : Nat} {u : Value} (hb : D b) (hc : w.cell? ⟨b, o, none⟩ = some u) : w'.cell? ⟨b, o, none⟩ = some u :=
  (World.cell?_of_block (w := w) (h b hb (lt_of_cell hc))).trans hc

theorem Reads.empty : Reads w D size A 0 [] := ⟨by simp, fun h => absurd h (by omega)⟩
theorem Reads.keep (h : Reads w D size A n xs) (hk : Same D w w') : Reads w' D size A n xs :=
  ⟨h.1, fun hn => by
    obtain ⟨b, off, e, hb, hc⟩ := h.2 hn
    exact ⟨b, off, e, hb, fun j u hu => hk.cell hb (hc j u hu)⟩⟩
theorem Reads.imp (h : Reads w D size A n xs) (hsz : 0 < size) (hk : ∀ b, D b → b < w.heap.size → D' b) : Reads w D' size A n xs :=
  ⟨h.1, fun hn => by
    obtain ⟨b, off, e, hb, hc⟩ := h.2 hn
    have hl : 0 < xs.length := by rw [h.1]; exact Nat.mul_pos hn hsz
    exact ⟨b, off, e, hk b hb (lt_of_cell (hc 0 xs[0] (List.getElem?_eq_getElem hl))), hc⟩⟩
theorem Reads.nil_len (h : Reads w D size none n xs) : n = 0 := by
  rcases Nat.eq_zero_or_pos n with h0 | h0
  · exact h0
  · obtain ⟨_, _, e, _⟩ := h.2 h0
    cases e
theorem Reads.nil_eq (h : Reads w D size A 0 xs) : xs = [] := List.eq_nil_of_length_eq_zero (by simpa using h.1)
/-- The first m of the elements. -/
theorem Reads.first (h : Reads w D size A n xs) {m : Nat} (hm : m ≤ n) : Reads w D size A m (xs.take (m * size)) := by
  refine ⟨?_, fun h0 => ?_⟩
  · rw [List.length_take, h.1]
    exact Nat.min_eq_left (Nat.mul_le_mul_right _ hm)
  · obtain ⟨b, off, e, hb, hc⟩ := h.2 (by omega)
    refine ⟨b, off, e, hb, fun j u hu => hc j u ?_⟩
    rw [List.getElem?_take] at hu
    split at hu
    · exact hu
    · cases hu
theorem Reads.drewN (h : Reads w D size A n xs) (k : Nat) : Reads (w.drewN k) D size A n xs := h
theorem Reads.drew (h : Reads w D size A n xs) : Reads w.drew D size A n xs := h
theorem Reads.len (h : Reads w D 1 A n xs) : n = xs.length := by have := h.1; omega
theorem Reads.at_ (h : Reads w D 1 A n xs) {k : Nat} (hk : k < n) : ∃ b off u, A = some ⟨b, off, none⟩ ∧ D b ∧ xs[k]? = some u ∧ w.cell? ⟨b, off + k, none⟩ = some u := by
  obtain ⟨b, off, e, hb, hc⟩ := h.2 (by omega)
  have hl : k < xs.length := by have := h.1; omega
  exact ⟨b, off, xs[k], e, hb, List.getElem?_eq_getElem hl, hc k _ (List.getElem?_eq_getElem hl)⟩
/-- A cut of a slice that is not nil. -/
theorem Reads.cut {b off : Nat} (h : Reads w D size (some ⟨b, off, none⟩) n xs) {i m : Nat} (him : i + m ≤ n) :
    Reads w D size (some ⟨b, off + i * size, none⟩) m ((xs.drop (i * size)).take (m * size)) := by
  refine ⟨?_, fun hm => ?_⟩
  · rw [List.length_take, List.length_drop, h.1, ← Nat.sub_mul]
    exact Nat.min_eq_left (Nat.mul_le_mul_right _ (by omega))
  · obtain ⟨b', off', e, hb, hc⟩ := h.2 (by omega)
    injection e with e
    injection e with e1 e2
    subst e1 e2
    refine ⟨b, off + i * size, rfl, hb, fun j u hu => ?_⟩
    rw [List.getElem?_take] at hu
    split at hu
    · rw [List.getElem?_drop] at hu
      have := hc _ u hu
      rwa [show off + i * size + j = off + (i * size + j) by omega]
    · cases hu
theorem own_form {base : Nat} {e : TypeId} {v : Value} (h : w.ownsRow base e size v n xs) : ∃ A c, v = .slice A n c ∧ n ≤ c ∧ c ≤ maxLen := by
  rcases h.2 with ⟨rfl, rfl⟩ | ⟨g, cap, cur, rfl, hb, hg, hnc, hcm, _⟩
  · exact ⟨none, 0, rfl, Nat.le_refl _, Nat.zero_le _⟩
  · exact ⟨_, _, rfl, hnc, hcm⟩
/-- An owned row reads as its cells. -/
theorem Reads.of_own {base : Nat} {e : TypeId} {v : Value} (h : w.ownsRow base e size v n xs) : ∃ A c, v = .slice A n c ∧ n ≤ c ∧ c ≤ maxLen ∧ Reads w (fun b => v.ownBlock = some b) size A n xs := by
  obtain ⟨h1, h2⟩ := h
  rcases h2 with ⟨rfl, rfl⟩ | ⟨g, cap, cur, rfl, hb, hg, hnc, hcm, hcs, htake⟩
  · exact ⟨none, 0, rfl, Nat.le_refl _, Nat.zero_le _, h1, fun h => absurd h (by omega)⟩
  · refine ⟨_, _, rfl, hnc, hcm, h1, fun hn => ⟨g, 0, rfl, rfl, fun j u hu => ?_⟩⟩
    rw [cell_of_row w g (0 + j) cur e (0, 0) hg]
    rw [← htake, List.getElem?_take] at hu
    split at hu
    · simpa using hu
    · cases hu
end

theorem own_reads {w : World} {base : Nat} {e : TypeId} {size n c : Nat} {A : Option Addr} {xs : List Value} (hz : 0 < size) (h : w.ownsRow base e size (.slice A n c) n xs) : n ≤ c ∧ c ≤ maxLen ∧ Reads w (fun b => base ≤ b) size A n xs := by
  obtain ⟨A', c', e, h1, h2, hr⟩ := Reads.of_own h
  injection e with e1 _ e3
  subst e1 e3
  exact ⟨h1, h2, hr.imp hz fun b hb _ => (h.lt b hb).1⟩

section
variable {P : Program} (w : World)

theorem run_append_of_nil (base : Nat) (t ty e : TypeId) (i : TypeInfo) (size : Nat) (ht : P.underlying t = some (.slice e)) (hi : P.info? e = some i)
    (v : Value) (n : Nat) (xs : List Value) (hown : w.ownsRow base e size v n xs) (c : Nat) : (Builtin.append_ #[t, t] ty #[v, .slice none 0 c]).run P w = .ok v w := by
  rcases hown.2 with ⟨rfl, rfl⟩ | ⟨g, cap, cur, rfl, _, _, hnc, _⟩
  · simp [Builtin.append_, run_underlying ht, sizeOf, typeInfo, hi, Builtin.lenOf, Builtin.firstCells]
  · simp [Builtin.append_, run_underlying ht, sizeOf, typeInfo, hi, Builtin.lenOf, Builtin.firstCells, hnc, storeCells]

/-- append onto a row of the call's own, from whatever source that reads. -/
theorem run_append_any (base : Nat) (t ty e : TypeId) (i : TypeInfo) (z : Value) (size bytes : Nat) (ht : P.underlying t = some (.slice e)) (hi : P.info? e = some i) (hz : i.zero = some z)
    (hsize : i.size = size) (hby : i.bytes = bytes) (hzs : z.cells.size = size) (hsz : 0 < size)
    (v : Value) (n : Nat) (xs : List Value) (hown : w.ownsRow base e size v n xs)
    (D : Nat → Prop) (A : Option Addr) (m c : Nat) (news : List Value) (hr : Reads w D size A m news) (h1 : ∀ u ∈ news, u.oneCell' = true)
    (h63 : n + m ≤ maxLen) (hbytes : (n + m) * bytes ≤ 140737488355328) (hbase : base ≤ w.heap.size) :
    ∃ v' w', (Builtin.append_ #[t, t] ty #[v, .slice A m c]).run P w = .ok v' w' ∧ w'.ownsRow base e size v' (n + m) (xs ++ news) ∧ w.grownBy w' v.ownBlock ∧
      (v'.ownBlock = v.ownBlock ∨ v'.ownBlock = some w.heap.size) := by
  rcases A with _ | ad
  · have hm : m = 0 := by
      rcases Nat.eq_zero_or_pos m with h0 | h0
      · exact h0
      · obtain ⟨_, _, h, _⟩ := hr.2 h0
        cases h
    subst hm
    have hn : news = [] := List.eq_nil_of_length_eq_zero (by simpa using hr.1)
    subst hn
    exact ⟨v, w, run_append_of_nil w base t ty e i size ht hi v n xs hown c, by simpa using hown, World.grownBy.refl w _, .inl rfl⟩
  · have hcells : ∀ j u, news[j]? = some u → w.cell? (ad.add j) = some u := by
      intro j u hu
      rcases Nat.eq_zero_or_pos m with h0 | h0
      · subst h0
        have hn : news = [] := List.eq_nil_of_length_eq_zero (by simpa using hr.1)
        subst hn
        simp at hu
      · obtain ⟨b, off, h, _, hc⟩ := hr.2 h0
        injection h with h
        subst h
        rw [Addr.add_lit]
        exact hc j u hu
    obtain ⟨v', w', hrun, h2, h3, _, h5⟩ := run_append_own_at (P := P) w base t ty e i z size bytes ht hi hz hsize hby hzs hsz v n xs hown ad m c news hr.1 hcells h1 h63 hbytes hbase
    exact ⟨v', w', hrun, h2, h3, h5⟩

theorem wp_append_any {o : Oper} {a : Act} {K : Act → World → Prop} {Q : Exit → Act → World → Prop} (s x : Operand) (t : TypeId)
    (ho : o.op = .call { callee := .builtin .append, args := #[s, x], argTypes := #[t, t] })
    (base : Nat) (e : TypeId) (i : TypeInfo) (z : Value) (size bytes : Nat) (ht : P.underlying t = some (.slice e)) (hi : P.info? e = some i) (hz : i.zero = some z)
    (hsize : i.size = size) (hby : i.bytes = bytes) (hzs : z.cells.size = size) (hsz : 0 < size)
    (v : Value) (n : Nat) (xs : List Value) (hs : a.eval s = v) (hown : w.ownsRow base e size v n xs)
    (D : Nat → Prop) (A : Option Addr) (m c : Nat) (news : List Value) (hx : a.eval x = .slice A m c) (hr : Reads w D size A m news) (h1 : ∀ u ∈ news, u.oneCell' = true)
    (h63 : n + m ≤ maxLen) (hbytes : (n + m) * bytes ≤ 140737488355328) (hbase : base ≤ w.heap.size)
    (h : ∀ v' w', w'.ownsRow base e size v' (n + m) (xs ++ news) → w.grownBy w' v.ownBlock → (v'.ownBlock = v.ownBlock ∨ v'.ownBlock = some w.heap.size) → K (a.put o.dst v') w') : o.wp P a w K Q := by
  obtain ⟨v', w', hrun, h2, h3, h4⟩ := run_append_any (P := P) w base t o.type e i z size bytes ht hi hz hsize hby hzs hsz v n xs hown D A m c news hr h1 h63 hbytes hbase
  unfold Oper.wp execOp
  simp only [ho, resolve, invoke, builtin, Sem.run_bind, Sem.run_pure, Result.andThen_ok, List.map_toArray, List.map_cons, List.map_nil, hs, hx, hrun]
  exact h v' w' h2 h3 h4

/-- .. in a region that draws its order -/
theorem step_append_any {ops : Array Oper} {o : Oper} {a : Act} {K : Act → World → Prop} {Q : Exit → Act → World → Prop} {E : Prop} (hgd : o.guard = none) (s x : Operand) (t : TypeId)
    (ho : o.op = .call { callee := .builtin .append, args := #[s, x], argTypes := #[t, t] })
    (base : Nat) (e : TypeId) (i : TypeInfo) (z : Value) (size bytes : Nat) (ht : P.underlying t = some (.slice e)) (hi : P.info? e = some i) (hz : i.zero = some z)
    (hsize : i.size = size) (hby : i.bytes = bytes) (hzs : z.cells.size = size) (hsz : 0 < size)
    (v : Value) (n : Nat) (xs : List Value) (hs : a.eval s = v) (hown : w.ownsRow base e size v n xs)
    (D : Nat → Prop) (A : Option Addr) (m c : Nat) (news : List Value) (hx : a.eval x = .slice A m c) (hr : Reads w D size A m news) (h1 : ∀ u ∈ news, u.oneCell' = true)
    (h63 : n + m ≤ maxLen) (hbytes : (n + m) * bytes ≤ 140737488355328) (hbase : base ≤ w.heap.size)
    (h : ∀ v' w', w'.ownsRow base e size v' (n + m) (xs ++ news) → w.grownBy w' v.ownBlock → (v'.ownBlock = v.ownBlock ∨ v'.ownBlock = some w.heap.size) → K (a.put o.dst v') w') :
    if Region.wanted o (yielded ops a.tmps) = true then Oper.wp P o a w K Q else E := by
  have hw : Region.wanted o (yielded ops a.tmps) = true := by simp [Region.wanted, hgd]
  rw [if_pos hw]
  exact wp_append_any w s x t ho base e i z size bytes ht hi hz hsize hby hzs hsz v n xs hs hown D A m c news hx hr h1 h63 hbytes hbase h

theorem wpList_append_any {ops : Array Oper} {rest : List Oper} {o : Oper} {a : Act} {Q : Exit → Act → World → Prop} (hgd : o.guard = none) (s x : Operand) (t : TypeId)
    (ho : o.op = .call { callee := .builtin .append, args := #[s, x], argTypes := #[t, t] })
    (base : Nat) (e : TypeId) (i : TypeInfo) (z : Value) (size bytes : Nat) (ht : P.underlying t = some (.slice e)) (hi : P.info? e = some i) (hz : i.zero = some z)
    (hsize : i.size = size) (hby : i.bytes = bytes) (hzs : z.cells.size = size) (hsz : 0 < size)
    (v : Value) (n : Nat) (xs : List Value) (hs : a.eval s = v) (hown : w.ownsRow base e size v n xs)
    (D : Nat → Prop) (A : Option Addr) (m c : Nat) (news : List Value) (hx : a.eval x = .slice A m c) (hr : Reads w D size A m news) (h1 : ∀ u ∈ news, u.oneCell' = true)
    (h63 : n + m ≤ maxLen) (hbytes : (n + m) * bytes ≤ 140737488355328) (hbase : base ≤ w.heap.size)
    (h : ∀ v' w', w'.ownsRow base e size v' (n + m) (xs ++ news) → w.grownBy w' v.ownBlock → (v'.ownBlock = v.ownBlock ∨ v'.ownBlock = some w.heap.size) → wpList P ops Q rest (a.put o.dst v') w') : wpList P ops Q (o :: rest) a w :=
  wpList_plain hgd fun _ hK => wp_append_any w s x t ho base e i z size bytes ht hi hz hsize hby hzs hsz v n xs hs hown D A m c news hx hr h1 h63 hbytes hbase fun v' w' h2 h3 h4 => hK _ _ (h v' w' h2 h3 h4)
end

/-- x[l:h] of a slice that reads: under a name of its own, so that the case 'l = cap' parts nothing. -/
theorem slice_lh {P : Program} {D : Nat → Prop} {size n c : Nat} {A : Option Addr} {xs : List Value} {w : World} (t e : TypeId) (ht : P.underlying t = some (.slice e)) (hi : (P.info? e).map (·.size) = some size) (hr : Reads w D size A n xs) (hnc : n ≤ c) (i m : Nat) (him : i + m ≤ n) (l h : Int) (hl : l = i) (hh : h = ((i + m : Nat) : Int)) :
    ∃ A', (∀ W : World, (Instr.slice t (.slice A n c) (some (.int .i64 l)) (some (.int .i64 h)) none).run P W = .ok (.slice A' m (c - i)) W) ∧ Reads w D size A' m ((xs.drop (i * size)).take (m * size)) := by
  subst hl hh
  obtain ⟨inf, hinf, hsz⟩ := Option.map_eq_some_iff.1 hi
  have he : P.elem t = e := by simp [Program.elem, ht]
  refine ⟨if c = i then A else A.map (·.add (i * size)), fun W => ?_, ?_⟩
  · rw [run_slice_lh W t A n c (by rw [he]; exact ht) .i64 .i64 _ _ (by omega) (by omega) (by omega)]
    simp [he, sizeOf, typeInfo, hinf, hsz, sliced]
    omega
  · rcases Nat.eq_zero_or_pos m with h0 | h0
    · subst h0
      simpa using (Reads.empty (w := w) (D := D) (size := size))
    · obtain ⟨b, off, rfl, hD, hc⟩ := hr.2 (by omega)
      rw [if_neg (by omega)]
      have := hr.cut him
      simpa [Addr.add_lit] using this

/-- A new block of cells reads as its cells. -/
theorem Reads.new (w : World) (cs : List Value) (size n : Nat) (e : TypeId) (D : Nat → Prop) (hD : D w.heap.size) (hl : cs.length = n * size) : Reads (w.alloc (.cells cs.toArray e)) D size (some ⟨w.heap.size, 0, none⟩) n cs :=
  ⟨hl, fun _ => ⟨w.heap.size, 0, rfl, hD, fun j u hu => by
    have hh : (w.alloc (.cells cs.toArray e)).heap[w.heap.size]? = some (.cells cs.toArray e) := heap_alloc_new w _
    rw [cell_of_row _ w.heap.size (0 + j) cs.toArray e (0, 0) hh]
    simpa using hu⟩⟩

/-! ### A block that is known whole -/
def Blk (w : World) (g : Nat) (t : TypeId) (cs : List Value) : Prop := w.heap[g]? = some (.cells cs.toArray t (0, 0))
section
variable {w w' : World} {g : Nat} {t : TypeId} {cs : List Value}
theorem Blk.lt (h : Blk w g t cs) : g < w.heap.size := (Array.getElem?_eq_some_iff.1 h).1
theorem Blk.cell (h : Blk w g t cs) (i : Nat) : w.cell? ⟨g, i, none⟩ = cs[i]? := by
  rw [cell_of_row w g i cs.toArray t (0, 0) h]
  simp
theorem Blk.frozen (h : Blk w g t cs) (i : Nat) : w.frozen? ⟨g, i, none⟩ = false := by
  unfold Blk at h
  simp [World.frozen?, h]
theorem Blk.new (w : World) (t : TypeId) (cs : List Value) : Blk (w.alloc (.cells cs.toArray t)) w.heap.size t cs := heap_alloc_new w _
theorem Blk.drew (h : Blk w g t cs) : Blk w.drew g t cs := h
theorem Blk.drewN (h : Blk w g t cs) (n : Nat) : Blk (w.drewN n) g t cs := h
theorem Blk.alloc (h : Blk w g t cs) (o : Obj) : Blk (w.alloc o) g t cs := (Below.heap_alloc w o g h.lt).trans h
theorem Blk.put (h : Blk w g t cs) (i : Nat) (u : Value) : Blk (w.setCell ⟨g, i, none⟩ u) g t (cs.set i u) := by
  unfold Blk at h ⊢
  simp [World.setCell, Array.getElem?_modify, h]
theorem Blk.far (h : Blk w g t cs) {p : Addr} (hp : g ≠ p.block) (u : Value) : Blk (w.setCell p u) g t cs := (Below.heap_setCell w p u g hp).trans h
theorem Blk.below {B : Nat} (h : Blk w g t cs) (hb : Below B w w') (hg : g < B) : Blk w' g t cs := (hb.block g hg).trans h
theorem Blk.grown {row : Option Nat} (h : Blk w g t cs) (hb : w.grownBy w' row) (hg : some g ≠ row) : Blk w' g t cs := (hb.block g h.lt hg).trans h
theorem Blk.same {D : Nat → Prop} (h : Blk w g t cs) (hb : Same D w w') (hg : D g) : Blk w' g t cs := (hb g hg h.lt).trans h
theorem Blk.ne_ {g' : Nat} {t' : TypeId} {cs' : List Value} (h : Blk w g t cs) (h' : Blk w g' t' cs') (hne : t ≠ t') : g ≠ g' := by
  rintro rfl
  unfold Blk at h h'
  rw [h] at h'
  injection h' with h'
  injection h' with _ ht
  exact hne ht
end
theorem Blk.of_heap {w w' : World} {g : Nat} {t : TypeId} {cs : List Value} (h : Blk w g t cs) (e : w'.heap = w.heap) : Blk w' g t cs := by unfold Blk at h ⊢; rw [e]; exact h
theorem Same.of_heap {w w' : World} {D : Nat → Prop} (e : w'.heap = w.heap) : Same D w w' := fun b _ _ => by rw [e]
theorem grownBy_drewN {a w : World} {row : Option Nat} (h : a.grownBy w row) (n : Nat) : a.grownBy (w.drewN n) row := ⟨h.os, h.tape, h.output, h.size, h.block⟩
theorem grownBy_alloc {a w : World} {row : Option Nat} (h : a.grownBy w row) (o : Obj) : a.grownBy (w.alloc o) row :=
  ⟨h.os, h.tape, h.output, Nat.le_trans h.size (by simp), fun i hi hne => (Below.heap_alloc w o i (Nat.lt_of_lt_of_le hi h.size)).trans (h.block i hi hne)⟩
theorem grownBy_setCell {a w : World} {g : Nat} (h : a.grownBy w (some g)) {p : Addr} (hp : p.block = g ∨ a.heap.size ≤ p.block) (u : Value) : a.grownBy (w.setCell p u) (some g) :=
  ⟨h.os, h.tape, h.output, by simpa [World.setCell] using h.size, fun i hi hne => (Below.heap_setCell w p u i (by
    rintro rfl
    rcases hp with hp | hp
    · exact hne (by rw [hp])
    · omega)).trans (h.block i hi hne)⟩
theorem grownBy_trans {a b c : World} {g : Nat} (h : a.grownBy b (some g)) (k : b.grownBy c (some g)) : a.grownBy c (some g) :=
  ⟨k.os.trans h.os, k.tape.trans h.tape, k.output.trans h.output, Nat.le_trans h.size k.size, fun i hi hne => (k.block i (Nat.lt_of_lt_of_le hi h.size) hne).trans (h.block i hi hne)⟩
theorem grownBy_below {a b c : World} {row : Option Nat} (h : a.grownBy b row) (k : Below b.heap.size b c) : a.grownBy c row :=
  ⟨k.os.trans h.os, k.tape.trans h.tape, k.output.trans h.output, Nat.le_trans h.size k.size, fun i hi hne => (k.block i (Nat.lt_of_lt_of_le hi h.size)).trans (h.block i hi hne)⟩

/-- a change of a row from a's size on is no change of what a had -/
theorem grownBy_far {a b c : World} {g : Nat} {row : Option Nat} (h : a.grownBy b (some g)) (k : b.grownBy c row) (hr : ∀ i, row = some i → a.heap.size ≤ i) : a.grownBy c (some g) :=
  ⟨k.os.trans h.os, k.tape.trans h.tape, k.output.trans h.output, Nat.le_trans h.size k.size, fun i hi hne => (k.block i (Nat.lt_of_lt_of_le hi h.size) (fun e => by have := hr i e.symm; omega)).trans (h.block i hi hne)⟩
theorem grownBy_drew {a w : World} {row : Option Nat} (h : a.grownBy w row) : a.grownBy w.drew row := ⟨h.os, h.tape, h.output, h.size, h.block⟩

theorem blks4 (w : World) (t1 t2 t3 t4 : TypeId) (c1 c2 c3 c4 : List Value) (W : World) (hW : W = (((w.alloc (.cells c1.toArray t1)).alloc (.cells c2.toArray t2)).alloc (.cells c3.toArray t3)).alloc (.cells c4.toArray t4)) :
    Blk W w.heap.size t1 c1 ∧ Blk W (w.heap.size + 1) t2 c2 ∧ Blk W (w.heap.size + 1 + 1) t3 c3 ∧ Blk W (w.heap.size + 1 + 1 + 1) t4 c4 ∧ Below w.heap.size w W ∧ W.heap.size = w.heap.size + 1 + 1 + 1 + 1 := by
  subst hW
  have b1 := Blk.new w t1 c1
  have b2 := Blk.new (w.alloc (.cells c1.toArray t1)) t2 c2
  have b3 := Blk.new ((w.alloc (.cells c1.toArray t1)).alloc (.cells c2.toArray t2)) t3 c3
  have b4 := Blk.new (((w.alloc (.cells c1.toArray t1)).alloc (.cells c2.toArray t2)).alloc (.cells c3.toArray t3)) t4 c4
  refine ⟨((b1.alloc _).alloc _).alloc _, ?_, ?_, ?_, ?_, by simp⟩
  · simpa using (b2.alloc (.cells c3.toArray t3)).alloc (.cells c4.toArray t4)
  · simpa using b3.alloc (.cells c4.toArray t4)
  · simpa using b4
  · exact ((((Below.refl _ _).alloc (Nat.le_refl _) _).alloc (by simp) _).alloc (by simp; omega) _).alloc (by simp; omega) _

/-! ### A struct that is handed back out of a block -/
theorem run_loadVar_blk {P : Program} {w : World} {g : Nat} {te ty : TypeId} {cs : List Value} {fs : Array Field} (h : Blk w g te cs) (hu : P.underlying ty = some (.struct fs)) (hsz : (P.info? ty).map (·.size) = some cs.length) :
    (loadVar ty ⟨g, 0, none⟩).run P w = .ok (.agg cs.toArray) w := by
  obtain ⟨inf, hinf, hz⟩ := Option.map_eq_some_iff.1 hsz
  have hl := run_loadCells_list (P := P) w ⟨g, 0, none⟩ cs (fun j v hj => by rw [Addr.add_lit, h.cell]; simpa using hj)
  simp [loadVar, isAgg, run_underlying hu, sizeOf, typeInfo, hinf, hz, hl]
theorem ret_blk {P : Program} {fn : Func} {R : Ending → World → Prop} {a : Act} {w : World} {g : Nat} {te ty : TypeId} {p : Tmp} {cs : List Value} {fs : Array Field} (hres : fn.results = #[.cell p ty]) (hp : a.tmps.getD p undef = .pointer (some ⟨g, 0, none⟩)) (h : Blk w g te cs)
    (hu : P.underlying ty = some (.struct fs)) (hsz : (P.info? ty).map (·.size) = some cs.length) (hd : a.defers = []) (hR : R (.returned (.agg cs.toArray)) w) : bodyPost P fn R .ret a w := by
  refine bodyPost_ret (v := .agg cs.toArray) ?_ hd hR
  have := run_loadVar_blk (P := P) h hu hsz
  have hp' : a.tmps[p]?.getD undef = .pointer (some ⟨g, 0, none⟩) := by simpa using hp
  simp only [results, hres]
  simp [hp', asAddr, this]
theorem ret_blk_tmp {P : Program} {fn : Func} {R : Ending → World → Prop} {a : Act} {w : World} {g : Nat} {te ty : TypeId} {p u : Tmp} {cs : List Value} {fs : Array Field} (hres : fn.results = #[.cell p ty, .tmp u]) (hp : a.tmps.getD p undef = .pointer (some ⟨g, 0, none⟩)) (h : Blk w g te cs)
    (hu : P.underlying ty = some (.struct fs)) (hsz : (P.info? ty).map (·.size) = some cs.length) (hd : a.defers = []) (hR : R (.returned (.tuple #[.agg cs.toArray, a.tmps.getD u undef])) w) : bodyPost P fn R .ret a w := by
  refine bodyPost_ret (v := .tuple #[.agg cs.toArray, a.tmps.getD u undef]) ?_ hd hR
  have := run_loadVar_blk (P := P) h hu hsz
  rw [results_cell_tmp hres, hp]
  simp [asAddr, this]

/-! ### Lists of things -/
def All2 {α β : Type} (R : α → β → Prop) (xs : List α) (ys : List β) : Prop := xs.length = ys.length ∧ ∀ (i : Nat) (x : α) (y : β), xs[i]? = some x → ys[i]? = some y → R x y
section
variable {α β : Type} {R S : α → β → Prop} {xs : List α} {ys : List β}
theorem All2.nil : All2 R [] [] := ⟨rfl, fun i x y h => by simp at h⟩
theorem All2.imp (h : All2 R xs ys) (hk : ∀ x y, R x y → S x y) : All2 S xs ys := ⟨h.1, fun i x y h1 h2 => hk x y (h.2 i x y h1 h2)⟩
theorem All2.snoc (h : All2 R xs ys) {x : α} {y : β} (hr : R x y) : All2 R (xs ++ [x]) (ys ++ [y]) := by
  refine ⟨by simp [h.1], fun i a b h1 h2 => ?_⟩
  have hl := h.1
  by_cases hi : i < xs.length
  · rw [List.getElem?_append_left hi] at h1
    rw [List.getElem?_append_left (by omega)] at h2
    exact h.2 i a b h1 h2
  · rw [List.getElem?_append_right (by omega)] at h1
    rw [List.getElem?_append_right (by omega), ← hl] at h2
    rcases Nat.eq_zero_or_pos (i - xs.length) with h0 | h0
    · rw [h0] at h1 h2
      simp at h1 h2
      subst h1 h2
      exact hr
    · rw [List.getElem?_eq_none (by simp; omega)] at h1; cases h1
theorem All2.at_ (h : All2 R xs ys) {k : Nat} (hk : k < ys.length) : ∃ x, xs[k]? = some x ∧ R x ys[k] := by
  have hl := h.1
  exact ⟨xs[k]'(by omega), List.getElem?_eq_getElem (by omega), h.2 k _ _ (List.getElem?_eq_getElem (by omega)) (List.getElem?_eq_getElem hk)⟩
theorem All2.cons_mk {x : α} {y : β} (hr : R x y) (h : All2 R xs ys) : All2 R (x :: xs) (y :: ys) := by
  refine ⟨by simp [h.1], fun i a b h1 h2 => ?_⟩
  cases i with
  | zero => simp at h1 h2; subst h1 h2; exact hr
  | succ i => simp at h1 h2; exact h.2 i a b h1 h2
theorem All2.take (h : All2 R xs ys) (k : Nat) : All2 R (xs.take k) (ys.take k) := by
  refine ⟨by simp [h.1], fun i a b h1 h2 => ?_⟩
  rw [List.getElem?_take] at h1 h2
  split at h1
  · rename_i hi
    rw [if_pos hi] at h2
    exact h.2 i a b h1 h2
  · cases h1
end

/-- What a reading of cells as a thing must bear: it is kept where its blocks are kept, and its blocks may be told otherwise. -/
structure Stable {β : Type} (size : Nat) (R : World → (Nat → Prop) → List Value → β → Prop) : Prop where
  keep : ∀ {w w' : World} {D : Nat → Prop} {cs : List Value} {y : β}, R w D cs y → Same D w w' → R w' D cs y
  imp : ∀ {w : World} {D D' : Nat → Prop} {cs : List Value} {y : β}, R w D cs y → (∀ b, D b → b < w.heap.size → D' b) → R w D' cs y
  len : ∀ {w : World} {D : Nat → Prop} {cs : List Value} {y : β}, R w D cs y → cs.length = size
  one : ∀ {w : World} {D : Nat → Prop} {cs : List Value} {y : β}, R w D cs y → ∀ u ∈ cs, u.oneCell' = true

/-- The slice value v reads as the list l of things R of 'size' cells. -/
def ListAt {β : Type} (size : Nat) (R : World → (Nat → Prop) → List Value → β → Prop) (w : World) (D : Nat → Prop) (v : Value) (l : List β) : Prop :=
  ∃ A c vss, v = .slice A l.length c ∧ l.length ≤ c ∧ c ≤ maxLen ∧ Reads w D size A l.length vss.flatten ∧ All2 (R w D) vss l
/-- The slice value v owns a row from block base on, its things lie in other blocks from base on. -/
def OwnList {β : Type} (e : TypeId) (size : Nat) (R : World → (Nat → Prop) → List Value → β → Prop) (w : World) (base : Nat) (v : Value) (l : List β) : Prop :=
  ∃ vss, w.ownsRow base e size v l.length vss.flatten ∧ All2 (R w (fun b => base ≤ b ∧ v.ownBlock ≠ some b)) vss l

theorem flatten_at {size : Nat} : ∀ {vss : List (List Value)}, (∀ c ∈ vss, c.length = size) → ∀ {k : Nat} {c : List Value}, vss[k]? = some c → ∀ j, j < size → vss.flatten[k * size + j]? = c[j]?
  | [], _, k, c, h, _, _ => by simp at h
  | a :: r, hl, 0, c, h, j, hj => by
    simp at h
    subst h
    have := hl a (by simp)
    simp only [List.flatten_cons, Nat.zero_mul, Nat.zero_add]
    rw [List.getElem?_append_left (by omega)]
  | a :: r, hl, k + 1, c, h, j, hj => by
    have ha := hl a (by simp)
    simp at h
    have := flatten_at (vss := r) (fun c hc => hl c (by simp [hc])) h j hj
    simp only [List.flatten_cons]
    rw [List.getElem?_append_right (by rw [ha, Nat.add_mul]; omega), ← this]
    congr 1
    rw [ha, Nat.add_mul]
    omega
section
variable {β : Type} {size : Nat} {R : World → (Nat → Prop) → List Value → β → Prop} {w w' : World} {D D' : Nat → Prop} {v : Value} {l : List β} {base : Nat} {e : TypeId}
theorem All2.lens (hS : Stable size R) {vss : List (List Value)} (h : All2 (R w D) vss l) : ∀ c ∈ vss, c.length = size := by
  intro c hc
  obtain ⟨i, hi, rfl⟩ := List.mem_iff_getElem.1 hc
  have hl := h.1
  exact hS.len (h.2 i _ _ (List.getElem?_eq_getElem hi) (List.getElem?_eq_getElem (by omega)))
theorem ListAt.keep (hS : Stable size R) (h : ListAt size R w D v l) (hk : Same D w w') : ListAt size R w' D v l := by
  obtain ⟨A, c, vss, e, h1, h2, hr, ha⟩ := h
  exact ⟨A, c, vss, e, h1, h2, hr.keep hk, ha.imp fun x y hxy => hS.keep hxy hk⟩
theorem ListAt.imp (hS : Stable size R) (hz : 0 < size) (h : ListAt size R w D v l) (hk : ∀ b, D b → b < w.heap.size → D' b) : ListAt size R w D' v l := by
  obtain ⟨A, c, vss, e, h1, h2, hr, ha⟩ := h
  exact ⟨A, c, vss, e, h1, h2, hr.imp hz hk, ha.imp fun x y hxy => hS.imp hxy hk⟩
/-- element k: its cells, and what they read as -/
theorem Reads.elem (hS : Stable size R) {A : Option Addr} {n : Nat} {vss : List (List Value)} (hr : Reads w D size A n vss.flatten) (ha : All2 (R w D) vss l) (hn : n = l.length) {k : Nat} (hk : k < l.length) :
    ∃ b off cs, A = some ⟨b, off, none⟩ ∧ D b ∧ R w D cs l[k] ∧ ∀ j u, cs[j]? = some u → w.cell? ⟨b, off + (k * size + j), none⟩ = some u := by
  obtain ⟨b, off, e, hb, hc⟩ := hr.2 (by omega)
  obtain ⟨cs, h1, h2⟩ := ha.at_ hk
  refine ⟨b, off, cs, e, hb, h2, fun j u hu => hc _ u ?_⟩
  have hj : j < size := by
    rw [← hS.len h2]
    rcases Nat.lt_or_ge j cs.length with h | h
    · exact h
    · rw [List.getElem?_eq_none h] at hu; cases hu
  rw [flatten_at (ha.lens hS) h1 j hj]
  exact hu
theorem OwnList.nil (w : World) (base : Nat) (e : TypeId) (size : Nat) : OwnList e size R w base (.slice none 0 0) [] := ⟨[], World.ownsRow_nil _ _ _ _, All2.nil⟩
theorem OwnList.lt (h : OwnList e size R w base v l) : ∀ k, v.ownBlock = some k → base ≤ k ∧ k < w.heap.size := by
  obtain ⟨vss, h1, _⟩ := h
  exact h1.lt
theorem OwnList.form (h : OwnList e size R w base v l) : ∃ A c, v = .slice A l.length c ∧ l.length ≤ c ∧ c ≤ maxLen := by
  obtain ⟨vss, h1, _⟩ := h
  exact own_form h1
/-- kept where all blocks from base on are as they were -/
theorem OwnList.keep (hS : Stable size R) (h : OwnList e size R w base v l) (hk : Same (fun b => base ≤ b) w w') : OwnList e size R w' base v l := by
  obtain ⟨vss, h1, h2⟩ := h
  refine ⟨vss, ⟨h1.1, ?_⟩, h2.imp fun x y hxy => hS.keep hxy fun b hb => hk b hb.1⟩
  rcases h1.2 with hn | ⟨g, cap, cur, rfl, hb, hg, rest⟩
  · exact .inl hn
  · exact .inr ⟨g, cap, cur, rfl, hb, (hk g hb (Array.getElem?_eq_some_iff.1 hg).1).trans hg, rest⟩
theorem OwnList.listAt (hS : Stable size R) (hz : 0 < size) (h : OwnList e size R w base v l) : ListAt size R w (fun b => base ≤ b) v l := by
  obtain ⟨vss, h1, h2⟩ := h
  obtain ⟨A, c, e1, h3, h4, hr⟩ := Reads.of_own h1
  exact ⟨A, c, vss, e1, h3, h4, hr.imp hz fun b hb _ => (h1.lt b hb).1, h2.imp fun x y hxy => hS.imp hxy fun b hb _ => hb.1⟩
theorem OwnList.reads (hS : Stable size R) (hz : 0 < size) {A : Option Addr} {n c : Nat} (h : OwnList e size R w base (.slice A n c) l) :
    ∃ vss, n = l.length ∧ n ≤ c ∧ c ≤ maxLen ∧ Reads w (fun b => base ≤ b) size A n vss.flatten ∧ All2 (R w (fun b => base ≤ b)) vss l := by
  obtain ⟨A', c', vss, e, h1, h2, hr, ha⟩ := h.listAt hS hz
  injection e with e1 e2 e3
  subst e1 e2 e3
  exact ⟨vss, rfl, h1, h2, hr, ha⟩
/-- behind an append of one thing: the world wa (with the new one-thing block) has grown to w' -/
theorem OwnList.push (hS : Stable size R) {vss : List (List Value)} {y : β} {cs : List Value} {o : Obj} {v' : Value} (ha : All2 (R w (fun b => base ≤ b ∧ v.ownBlock ≠ some b)) vss l)
    (hy : R w (fun b => base ≤ b ∧ v.ownBlock ≠ some b) cs y) (hg : (w.alloc o).grownBy w' v.ownBlock) (hat : v'.ownBlock = v.ownBlock ∨ v'.ownBlock = some (w.alloc o).heap.size)
    (hown : w'.ownsRow base e size v' (l.length + 1) (vss.flatten ++ cs)) : OwnList e size R w' base v' (l ++ [y]) := by
  have each : ∀ x z, R w (fun b => base ≤ b ∧ v.ownBlock ≠ some b) x z → R w' (fun b => base ≤ b ∧ v'.ownBlock ≠ some b) x z := by
    intro x z hxz
    have h1 : R w (fun b => base ≤ b ∧ v.ownBlock ≠ some b ∧ b < w.heap.size) x z := hS.imp hxz fun b hb hl => ⟨hb.1, hb.2, hl⟩
    have h2 := hS.keep (w' := w') h1 (fun b hb hl => (hg.block b (by simp; omega) (fun e => hb.2.1 e.symm)).trans (Below.heap_alloc w o b hl))
    refine hS.imp h2 fun b hb _ => ⟨hb.1, fun e => ?_⟩
    rcases hat with h | h
    · rw [h] at e; exact hb.2.1 e
    · rw [h] at e; simp at e; omega
  refine ⟨vss ++ [cs], ?_, (ha.imp each).snoc (each _ _ hy)⟩
  simpa using hown
end

/-- Every block. -/
def Any : Nat → Prop := fun _ => True
theorem Same.any {D : Nat → Prop} {w w' : World} (h : Below w.heap.size w w') : Same D w w' := Same.of_below h fun _ _ hl => hl

/-! ### Bytes -/
def u8s (bs : List UInt8) : List Value := bs.map fun b => .int .u8 (b.toNat : Int)
theorem u8s_length (bs : List UInt8) : (u8s bs).length = bs.length := by simp [u8s]
theorem u8s_append (a b : List UInt8) : u8s (a ++ b) = u8s a ++ u8s b := by simp [u8s]
theorem u8s_take (a : List UInt8) (k : Nat) : (u8s a).take k = u8s (a.take k) := by simp [u8s]
theorem u8s_drop (a : List UInt8) (k : Nat) : (u8s a).drop k = u8s (a.drop k) := by simp [u8s]
theorem u8s_one (bs : List UInt8) : ∀ u ∈ u8s bs, u.oneCell' = true := by
  intro u hu
  obtain ⟨b, _, rfl⟩ := List.mem_map.1 hu
  rfl
theorem u8s_at (bs : List UInt8) (k : Nat) (h : k < bs.length) : (u8s bs)[k]? = some (.int .u8 (bs[k].toNat : Int)) := by simp [u8s, h]

/-- The slice value v reads as the bytes bs, in blocks that fulfil D. -/
def Bytes (w : World) (D : Nat → Prop) (v : Value) (bs : List UInt8) : Prop := ∃ A n c, v = .slice A n c ∧ n ≤ c ∧ c ≤ maxLen ∧ Reads w D 1 A n (u8s bs)
section
variable {w w' : World} {D D' : Nat → Prop} {v : Value} {bs : List UInt8}
theorem Bytes.keep (h : Bytes w D v bs) (hk : Same D w w') : Bytes w' D v bs := by
  obtain ⟨A, n, c, e, h1, h2, hr⟩ := h
  exact ⟨A, n, c, e, h1, h2, hr.keep hk⟩
theorem Bytes.imp (h : Bytes w D v bs) (hk : ∀ b, D b → b < w.heap.size → D' b) : Bytes w D' v bs := by
  obtain ⟨A, n, c, e, h1, h2, hr⟩ := h
  exact ⟨A, n, c, e, h1, h2, hr.imp (by omega) hk⟩
theorem Bytes.drewN (h : Bytes w D v bs) (k : Nat) : Bytes (w.drewN k) D v bs := h
theorem Bytes.of_own {base : Nat} {e : TypeId} {n : Nat} (h : w.ownsRow base e 1 v n (u8s bs)) : Bytes w (fun b => v.ownBlock = some b) v bs := by
  obtain ⟨A, c, e, h1, h2, hr⟩ := Reads.of_own h
  exact ⟨A, n, c, e, h1, h2, hr⟩
theorem Bytes.of_own_new {w0 : World} {e : TypeId} {n : Nat} (h : w.ownsRow w0.heap.size e 1 v n (u8s bs)) : Bytes w (fun b => w0.heap.size ≤ b) v bs :=
  (Bytes.of_own h).imp fun b hb _ => (h.lt b hb).1
end

/-- One cell that holds a slice of bytes. -/
def BytesCell (w : World) (D : Nat → Prop) (cs : List Value) (bs : List UInt8) : Prop := ∃ v, cs = [v] ∧ Bytes w D v bs
theorem BytesCell.stable : Stable 1 BytesCell where
  keep := fun ⟨v, e, h⟩ hk => ⟨v, e, h.keep hk⟩
  imp := fun ⟨v, e, h⟩ hk => ⟨v, e, h.imp hk⟩
  len := fun ⟨v, e, _⟩ => by simp [e]
  one := fun ⟨v, e, _, _, _, h, _⟩ u hu => by subst e; simp at hu; subst hu h; rfl

/-- string(b) of bytes that read. -/
theorem run_convert_reads {P : Program} (w : World) (src dst e : TypeId) (hs : P.underlying src = some (.slice e)) (he : P.underlying e = some (.int .u8)) (hd : P.underlying dst = some .string)
    {D : Nat → Prop} {A : Option Addr} {n c : Nat} {bs : List UInt8} (h : Reads w D 1 A n (u8s bs)) : (convert src dst (.slice A n c)).run P w = .ok (.string ⟨bs.toArray⟩) w := by
  rcases A with _ | ad
  · have h0 := h.nil_len
    subst h0
    have hb : bs = [] := by have := h.nil_eq; simpa [u8s] using this
    subst hb
    exact run_convert_bytes_nil w src e hs he 0 c dst hd
  · rw [run_convert_bytes_string w src dst e _ n c hs he hd]
    have hn : n = bs.length := by have := h.len; rwa [u8s_length] at this
    have hl : (loadCells ad n).run P w = .ok ((bs.map fun b => (b.toNat : Int)).map (Value.int .u8)).toArray w := by
      have := run_loadCells_list (P := P) w ad (u8s bs) (fun j v hj => by
        have hjl : j < bs.length := by
          rcases Nat.lt_or_ge j bs.length with h | h
          · exact h
          · rw [List.getElem?_eq_none (by rw [u8s_length]; exact h)] at hj; cases hj
        obtain ⟨b, off, e, _, hc⟩ := h.2 (by omega)
        injection e with e
        subst e
        rw [Addr.add_lit]
        exact hc j v hj)
      rw [u8s_length, ← hn] at this
      rw [this]
      simp [u8s]
    rw [run_bytesToString w _ n c _ hl, foldl_push_bytes]
    have e : (bs.map fun b => (b.toNat : Int)).map (fun n => UInt8.ofNat n.toNat) = bs := by simp [Function.comp_def]
    rw [e]
    congr 2
    simp [ByteArray.empty, ByteArray.emptyWithCapacity]
    rfl
end Go.Mem
