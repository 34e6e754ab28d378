/- append onto a part of a row, from whatever source, none too; slices.Clone at strings. -/
import Derived.Test.YtaealapgebbnlaaGreatDoorQrNew
import Derived.Test.YtaealapgebbnlaaGreatDoorQrStr
import Derived.Test.YtaealapgebbnlaaGreatDoorSeg
set_option linter.unusedVariables false
namespace Go.Mem
open Go.RowKit
section
variable {P : Program} {w : World} {e : TypeId} {size n : Nat} {v : Value} {xs : List Value}
theorem Seg.append_all (t ty : TypeId) (i : TypeInfo) (z : Value) (bytes : Nat) (ht : P.underlying t = some (.slice e)) (hi : P.info? e = some i) (hz : i.zero = some z) (hsize : i.size = size) (hby : i.bytes = bytes) (hzs : z.cells.size = size) (hsz : 0 < size)
    (h : Seg w e size v n xs) {D : Nat → Prop} {A : Option Addr} {m c : Nat} {news : List Value} (hr : Reads w D size A m news) (h1 : ∀ u ∈ news, u.oneCell' = true) (h63 : n + m ≤ maxLen) (hbytes : (n + m) * bytes ≤ 140737488355328) :
    ∃ v' w', (Builtin.append_ #[t, t] ty #[v, .slice A m c]).run P w = .ok v' w' ∧ Seg w' e size v' (n + m) (xs ++ news) ∧ w.grownBy w' v.ownBlock ∧ (∀ b, v'.ownBlock = some b → v.ownBlock = some b ∨ w.heap.size ≤ b) := by
  rcases Nat.eq_zero_or_pos m with h0 | h0
  · subst h0
    have hn : news = [] := List.eq_nil_of_length_eq_zero (by simpa using hr.1)
    subst hn
    rcases id h.2 with ⟨rfl, rfl⟩ | ⟨g, off, cap, cur, rfl, hg, hnc, hcm, hcs, htake⟩
    · have hx : xs = [] := List.eq_nil_of_length_eq_zero (by simpa using h.1)
      subst hx
      obtain ⟨v', w', hrun, h2, h3, h4⟩ := run_append_any (P := P) w w.heap.size t ty e i z size bytes ht hi hz hsize hby hzs hsz _ 0 [] (World.ownsRow_nil _ _ _ _) D A 0 c [] hr h1 h63 hbytes (Nat.le_refl _)
      exact ⟨v', w', hrun, Seg.of_own h2, h3, fun b hb => .inr (h2.lt b hb).1⟩
    · rcases A with _ | ad
      · refine ⟨.slice (some ⟨g, off, none⟩) n cap, w, ?_, by simpa using h, World.grownBy.refl w _, fun b hb => .inl hb⟩
        simp [Builtin.append_, run_underlying ht, sizeOf, typeInfo, hi, Builtin.lenOf, Builtin.firstCells, hnc, storeCells]
      · have hrun := run_append_room_cells (P := P) w t ty e i ht hi g off n cap ad 0 c [] (by simp) (by simp) (by simp) (by simpa using hnc) (by simp) (by simp)
        exact ⟨_, _, hrun, by simpa [World.setCells] using h, World.grownBy.refl w _, fun b hb => .inl hb⟩
  · exact h.append t ty i z bytes ht hi hz hsize hby hzs hsz hr h0 h1 h63 hbytes
/-- v[1:] written out -/
theorem Seg.tail1 {g off c : Nat} (t : TypeId) (ht : P.underlying t = some (.slice e)) (hi : (P.info? e).map (·.size) = some size) (h : Seg w e size (.slice (some ⟨g, off, none⟩) (n + 1) c) (n + 1) xs) :
    Seg w e size (.slice (if c = 1 then some ⟨g, off, none⟩ else some ⟨g, off + size, none⟩) n (c - 1)) n (xs.drop size) ∧ (Value.slice (if c = 1 then some ⟨g, off, none⟩ else some ⟨g, off + size, none⟩) n (c - 1)).ownBlock = some g := by
  obtain ⟨v', h1, h2, h3⟩ := h.tail t ht hi
  obtain ⟨inf, hinf, hsz⟩ := Option.map_eq_some_iff.1 hi
  have he : P.elem t = e := by simp [Program.elem, ht]
  obtain ⟨A, c', hf, hnc, _⟩ := h.form
  injection hf with _ _ hc
  have hrun : (Instr.slice t (.slice (some ⟨g, off, none⟩) (n + 1) c) (some (.int .i64 1)) none none).run P w = .ok (.slice (if c = 1 then some ⟨g, off, none⟩ else some ⟨g, off + size, none⟩) n (c - 1)) w := by
    rw [run_slice_l w t (some ⟨g, off, none⟩) (n + 1) c (by rw [he]; exact ht) .i64 1 (by omega) (by omega)]
    simp [he, sizeOf, typeInfo, hinf, hsz, sliced, Addr.add_lit]
  have e1 := (h1 w).symm.trans hrun
  injection e1 with e1
  rw [← e1]
  exact ⟨h2, h3⟩
theorem Seg.block (h : Seg w e size v n xs) (hn : 0 < n) : ∃ g off c, v = .slice (some ⟨g, off, none⟩) n c := by
  rcases h.2 with ⟨_, h0⟩ | ⟨g, off, c, cur, rfl, _⟩
  · omega
  · exact ⟨g, off, c, rfl⟩
theorem wpList_append_seg {ops : Array Oper} {rest : List Oper} {o : Oper} {a : Act} {Q : Exit → Act → World → Prop} (w : World) (hgd : o.guard = none) (s x : Operand) (t : TypeId)
    (ho : o.op = .call { callee := .builtin .append, args := #[s, x], argTypes := #[t, t] }) (i : TypeInfo) (z : Value) (bytes : Nat) (ht : P.underlying t = some (.slice e)) (hi : P.info? e = some i) (hz : i.zero = some z) (hsize : i.size = size) (hby : i.bytes = bytes) (hzs : z.cells.size = size) (hsz : 0 < size)
    (h : Seg w e size v n xs) (hs : a.eval s = v) {D : Nat → Prop} {A : Option Addr} {m c : Nat} {news : List Value} (hx : a.eval x = .slice A m c) (hr : Reads w D size A m news) (h1 : ∀ u ∈ news, u.oneCell' = true) (h63 : n + m ≤ maxLen) (hbytes : (n + m) * bytes ≤ 140737488355328)
    (hK : ∀ v' w', Seg w' e size v' (n + m) (xs ++ news) → w.grownBy w' v.ownBlock → (∀ b, v'.ownBlock = some b → v.ownBlock = some b ∨ w.heap.size ≤ b) → wpList P ops Q rest (a.put o.dst v') w') : wpList P ops Q (o :: rest) a w := by
  refine wpList_plain hgd fun K' hK' => ?_
  obtain ⟨v', w', hrun, h2, h3, h4⟩ := h.append_all t o.type i z bytes ht hi hz hsize hby hzs hsz hr h1 h63 hbytes (c := c)
  unfold Oper.wp
  simp [execOp, ho, resolve, invoke, builtin, hs, hx, hrun, Result.andThen]
  exact hK' _ _ (hK v' w' h2 h3 h4)
end
end Go.Mem
namespace Go.Proofs.YtaealapgebbnlaaGreatDoor
open Go.RowKit Go.Mem Go.Md
theorem app_strg (w : World) {ops : Array Oper} {rest : List Oper} {o : Oper} {a : Act} {Q : Exit → Act → World → Prop} (hgd : o.guard = none) (s x : Operand)
    (ho : o.op = .call { callee := .builtin .append, args := #[s, x], argTypes := #[32, 32] }) {v : Value} {n : Nat} {xs : List Value}
    (h : Seg w 9 1 v n xs) (hs : a.eval s = v) {D : Nat → Prop} {A : Option Addr} {m c : Nat} {news : List Value} (hx : a.eval x = .slice A m c) (hr : Reads w D 1 A m news) (h1 : ∀ u ∈ news, u.oneCell' = true) (h63 : n + m ≤ 1099511627776)
    (hK : ∀ v' w', Seg w' 9 1 v' (n + m) (xs ++ news) → w.grownBy w' v.ownBlock → (∀ b, v'.ownBlock = some b → v.ownBlock = some b ∨ w.heap.size ≤ b) → wpList Tryz.prog ops Q rest (a.put o.dst v') w') : wpList Tryz.prog ops Q (o :: rest) a w := by
  obtain ⟨i0, hi0, hz0, hz1, hz2⟩ := info_parts info_str
  exact wpList_append_seg w hgd s x _ ho i0 _ 16 Tryz.underlying32 hi0 hz0 hz1 hz2 rfl (by omega) h hs hx hr h1 (by simp only [maxLen]; omega) (by omega) hK
theorem strs_one (l : List Bs) : ∀ u ∈ l.map bst, u.oneCell' = true := by
  intro u hu
  obtain ⟨s, _, rfl⟩ := List.mem_map.1 hu
  rfl
theorem strs_cells {w : World} {D : Nat → Prop} {b off : Nat} {n : Nat} {l : List Bs} (hr : Reads w D 1 (some ⟨b, off, none⟩) n (l.map bst)) (hn : 0 < n) : ∀ j, j < (l.map fun s => ByteArray.mk s.toArray).length → w.cell? ⟨b, off + j, none⟩ = some (.string ((l.map fun s => ByteArray.mk s.toArray).getD j ByteArray.empty)) := by
  intro j hj
  obtain ⟨b', o', e, _, hc⟩ := hr.2 (by omega)
  injection e with e
  injection e with e1 e2
  subst e1
  subst e2
  have hj2 : j < l.length := by simpa using hj
  refine hc j _ ?_
  rw [List.getElem?_map, List.getElem?_eq_getElem hj2, List.getD_eq_getElem?_getD, List.getElem?_map, List.getElem?_eq_getElem hj2]
  rfl
/-- slices.Clone -/
theorem clone_str (A : Option Addr) (n c : Nat) (l : List Bs) (D : Nat → Prop) (w : World) (hr : Reads w D 1 A n (l.map bst)) (hn : n ≤ 100000) :
    Calls Tryz.prog 59 #[.slice A n c] w fun e w' => ∃ A c, e = .returned (.slice A n c) ∧ w'.ownsRow w.heap.size 9 1 (.slice A n c) n (l.map bst) ∧ Below w.heap.size w w' := by
  have hl : n = l.length := by have := hr.1; simpa using this.symm
  rcases A with _ | ⟨b, off, t⟩
  · obtain rfl := hr.nil_len
    obtain rfl : l = [] := List.eq_nil_of_length_eq_zero hl.symm
    refine (Tryz.slices_Clone_string_nil 0 c w).mono ?_
    rintro e w' ⟨rfl, rfl⟩
    exact ⟨none, 0, rfl, World.ownsRow_nil _ _ _ _, Below.refl _ _⟩
  · rcases Nat.eq_zero_or_pos n with h0 | h0
    · subst h0
      obtain rfl : l = [] := List.eq_nil_of_length_eq_zero hl.symm
      refine (Tryz.slices_Clone_string_zero ⟨b, off, t⟩ c w).mono ?_
      rintro e w' ⟨v', rfl, h1, _, h2⟩
      obtain ⟨A', c', rfl, _⟩ := own_form h1
      exact ⟨A', c', rfl, h1, h2⟩
    · obtain ⟨b', o', e, _, hc⟩ := hr.2 (by omega)
      injection e with e
      injection e with e1 e2 e3
      subst e1
      subst e2
      subst e3
      refine (Tryz.slices_Clone_string b off n c (l.map fun s => ByteArray.mk s.toArray) w (by simp; omega) (by omega) (strs_cells hr h0)).mono ?_
      rintro e w' ⟨v', rfl, h1, _, h2⟩
      have e9 : ((l.map fun s => ByteArray.mk s.toArray).take n).map Value.string = l.map bst := by
        rw [List.take_of_length_le (by simp; omega), List.map_map]
        rfl
      rw [e9] at h1
      obtain ⟨A', c', rfl, _⟩ := own_form h1
      exact ⟨A', c', rfl, h1, h2⟩
end Go.Proofs.YtaealapgebbnlaaGreatDoor
