/- Words for a slice that is appended to at its end and cut at its front, over any program: a part of a row. No condition. -/
import Derived.Test.YtlpkgheggbcidaaDoorMem
import Derived.ArgAppend
set_option linter.unusedVariables false
namespace Go.Mem
open Go.RowKit

/-- cells written one behind the other -/
def sets : List Value → Nat → List Value → List Value
  | cs, _, [] => cs
  | cs, o, v :: r => sets (cs.set o v) (o + 1) r
theorem sets_len : ∀ (vs cs : List Value) (o : Nat), (sets cs o vs).length = cs.length
  | [], cs, o => rfl
  | v :: r, cs, o => by rw [sets, sets_len r]; simp
theorem sets_at : ∀ (vs cs : List Value) (o : Nat), o + vs.length ≤ cs.length → ∀ j, (sets cs o vs)[j]? = if o ≤ j ∧ j < o + vs.length then vs[j - o]? else cs[j]?
  | [], cs, o, h, j => by
    rw [if_neg (by simp only [List.length_nil]; omega)]
    rfl
  | v :: r, cs, o, h, j => by
    simp only [List.length_cons] at h
    rw [sets, sets_at r (cs.set o v) (o + 1) (by simp; omega) j]
    by_cases h1 : o + 1 ≤ j ∧ j < o + 1 + r.length
    · rw [if_pos h1, if_pos (by simp; omega)]
      rw [show j - o = (j - (o + 1)) + 1 by omega, List.getElem?_cons_succ]
    · rw [if_neg h1]
      by_cases h2 : j = o
      · subst h2
        rw [if_pos (by simp), List.getElem?_set_self (by omega)]
        simp
      · rw [if_neg (by simp; omega), List.getElem?_set_ne (by omega)]
theorem Blk.puts {g : Nat} {t : TypeId} : ∀ (vs : List Value) {w : World} {cs : List Value} (o : Nat), Blk w g t cs → Blk (w.setCells g o vs) g t (sets cs o vs)
  | [], w, cs, o, h => h
  | v :: r, w, cs, o, h => Blk.puts r (o + 1) (h.put o v)
theorem grownBy_setCells (g : Nat) : ∀ (vs : List Value) (o : Nat) (w : World), w.grownBy (w.setCells g o vs) (some g)
  | [], o, w => World.grownBy.refl w _
  | v :: r, o, w => grownBy_trans (grownBy_setCell (World.grownBy.refl w _) (.inl rfl) v) (grownBy_setCells g r (o + 1) _)

/-- v is a part of a row of elements of type e (size cells each) that reads as xs; no mark stands on the row -/
def Seg (w : World) (e : TypeId) (size : Nat) (v : Value) (n : Nat) (xs : List Value) : Prop :=
  xs.length = n * size ∧ ((v = .slice none 0 0 ∧ n = 0) ∨ ∃ g off c cur, v = .slice (some ⟨g, off, none⟩) n c ∧ Blk w g e cur ∧ n ≤ c ∧ c ≤ maxLen ∧ off + c * size ≤ cur.length ∧ (cur.drop off).take (n * size) = xs)

section
variable {P : Program} {w w' : World} {e : TypeId} {size n : Nat} {v : Value} {xs : List Value}
theorem Seg.nil (w : World) (e : TypeId) (size : Nat) : Seg w e size (.slice none 0 0) 0 [] := ⟨by simp, .inl ⟨rfl, rfl⟩⟩
theorem Seg.of_own {base : Nat} (h : w.ownsRow base e size v n xs) : Seg w e size v n xs := by
  refine ⟨h.1, ?_⟩
  rcases h.2 with ⟨rfl, rfl⟩ | ⟨g, cap, cur, rfl, hb, hg, hnc, hcm, hcs, htake⟩
  · exact .inl ⟨rfl, rfl⟩
  · exact .inr ⟨g, 0, cap, cur.toList, rfl, by unfold Blk; simpa using hg, hnc, hcm, by simp; omega, by simpa using htake⟩
theorem Seg.form (h : Seg w e size v n xs) : ∃ A c, v = .slice A n c ∧ n ≤ c ∧ c ≤ maxLen := by
  rcases h.2 with ⟨rfl, rfl⟩ | ⟨g, off, c, cur, rfl, _, hnc, hcm, _⟩
  · exact ⟨none, 0, rfl, Nat.le_refl _, Nat.zero_le _⟩
  · exact ⟨_, _, rfl, hnc, hcm⟩
theorem Seg.kind (h : Seg w e size v n xs) {g : Nat} (hv : v.ownBlock = some g) : ∃ cur, Blk w g e cur := by
  rcases h.2 with ⟨rfl, _⟩ | ⟨g', off, c, cur, rfl, hg, r⟩
  · simp [Value.ownBlock] at hv
  · simp [Value.ownBlock] at hv
    subst hv
    exact ⟨cur, hg⟩
theorem Seg.lt (h : Seg w e size v n xs) : ∀ b, v.ownBlock = some b → b < w.heap.size := by
  intro b hb
  obtain ⟨cur, hg⟩ := h.kind hb
  exact hg.lt
theorem Seg.keep (h : Seg w e size v n xs) (hk : ∀ b, v.ownBlock = some b → w'.heap[b]? = w.heap[b]?) : Seg w' e size v n xs := by
  refine ⟨h.1, ?_⟩
  rcases h.2 with h0 | ⟨g, off, c, cur, rfl, hg, r⟩
  · exact .inl h0
  · exact .inr ⟨g, off, c, cur, rfl, (hk g rfl).trans hg, r⟩
theorem Seg.cells {g off c : Nat} (h : Seg w e size (.slice (some ⟨g, off, none⟩) n c) n xs) : ∀ j u, xs[j]? = some u → w.cell? ⟨g, off + j, none⟩ = some u := by
  intro j u hu
  rcases h.2 with ⟨h0, _⟩ | ⟨g', off', c', cur, e1, hg, hnc, hcm, hsz, htake⟩
  · cases h0
  · injection e1 with e1 _ e3
    injection e1 with e1
    injection e1 with e1 e2
    subst e1 e2 e3
    rw [hg.cell]
    rw [← htake, List.getElem?_take] at hu
    split at hu
    · rwa [List.getElem?_drop] at hu
    · cases hu
theorem Seg.reads (h : Seg w e size v n xs) : ∃ A c, v = .slice A n c ∧ n ≤ c ∧ c ≤ maxLen ∧ Reads w (fun b => v.ownBlock = some b) size A n xs := by
  rcases id h.2 with ⟨rfl, rfl⟩ | ⟨g, off, c, cur, rfl, hg, hnc, hcm, _⟩
  · exact ⟨none, 0, rfl, Nat.le_refl _, Nat.zero_le _, h.1, fun h0 => absurd h0 (by omega)⟩
  · exact ⟨_, _, rfl, hnc, hcm, h.1, fun _ => ⟨g, off, rfl, rfl, h.cells⟩⟩
/-- v[1:], elements of any size -/
theorem Seg.tail (t : TypeId) (ht : P.underlying t = some (.slice e)) (hi : (P.info? e).map (·.size) = some size) (h : Seg w e size v (n + 1) xs) :
    ∃ v', (∀ W : World, (Instr.slice t v (some (.int .i64 1)) none none).run P W = .ok v' W) ∧ Seg w e size v' n (xs.drop size) ∧ v'.ownBlock = v.ownBlock := by
  obtain ⟨inf, hinf, hsz⟩ := Option.map_eq_some_iff.1 hi
  have he : P.elem t = e := by simp [Program.elem, ht]
  have hl : xs.length = n * size + size := by rw [h.1, Nat.add_mul]; omega
  rcases h.2 with ⟨_, h0⟩ | ⟨g, off, c, cur, rfl, hg, hnc, hcm, hcs, htake⟩
  · omega
  · have hrun : ∀ W : World, (Instr.slice t (.slice (some ⟨g, off, none⟩) (n + 1) c) (some (.int .i64 1)) none none).run P W = .ok (.slice (if c = 1 then some ⟨g, off, none⟩ else some ⟨g, off + size, none⟩) n (c - 1)) W := by
      intro W
      rw [run_slice_l W t (some ⟨g, off, none⟩) (n + 1) c (by rw [he]; exact ht) .i64 1 (by omega) (by omega)]
      simp [he, sizeOf, typeInfo, hinf, hsz, sliced, Addr.add_lit]
    refine ⟨_, hrun, ⟨by rw [List.length_drop]; omega, .inr ?_⟩, ?_⟩
    · have hd : (cur.drop (off + size)).take (n * size) = xs.drop size := by
        rw [← htake, List.drop_take, List.drop_drop]
        congr 1
        rw [Nat.add_mul]
        omega
      by_cases h1 : c = 1
      · have hn0 : n = 0 := by omega
        subst hn0
        rw [if_pos h1]
        refine ⟨g, off, c - 1, cur, rfl, hg, by omega, by omega, by rw [h1]; omega, ?_⟩
        rw [← hd]
        simp
      · rw [if_neg h1]
        refine ⟨g, off + size, c - 1, cur, rfl, hg, by omega, by omega, ?_, hd⟩
        obtain ⟨c', rfl⟩ : ∃ c', c = c' + 1 := ⟨c - 1, by omega⟩
        rw [Nat.add_mul] at hcs
        simp only [Nat.add_sub_cancel]
        omega
    · split <;> rfl
/-- append(v, ..news) from a row that reads -/
theorem Seg.append (t ty : TypeId) (i : TypeInfo) (z : Value) (bytes : Nat) (ht : P.underlying t = some (.slice e)) (hi : P.info? e = some i) (hz : i.zero = some z) (hsize : i.size = size) (hby : i.bytes = bytes) (hzs : z.cells.size = size) (hsz : 0 < size)
    (h : Seg w e size v n xs) {D : Nat → Prop} {A : Option Addr} {m c : Nat} {news : List Value} (hr : Reads w D size A m news) (hm : 0 < m) (h1 : ∀ u ∈ news, u.oneCell' = true) (h63 : n + m ≤ maxLen) (hbytes : (n + m) * bytes ≤ 140737488355328) :
    ∃ v' w', (Builtin.append_ #[t, t] ty #[v, .slice A m c]).run P w = .ok v' w' ∧ Seg w' e size v' (n + m) (xs ++ news) ∧ w.grownBy w' v.ownBlock ∧ (∀ b, v'.ownBlock = some b → v.ownBlock = some b ∨ w.heap.size ≤ b) := by
  rcases id h.2 with ⟨rfl, rfl⟩ | ⟨g, off, cap, cur, rfl, hg, hnc, hcm, hcs, htake⟩
  · have hx : xs = [] := List.eq_nil_of_length_eq_zero (by simpa using h.1)
    subst hx
    obtain ⟨v', w', hrun, h2, h3, h4⟩ := run_append_any (P := P) w w.heap.size t ty e i z size bytes ht hi hz hsize hby hzs hsz _ 0 [] (World.ownsRow_nil _ _ _ _) D A m c news hr h1 h63 hbytes (Nat.le_refl _)
    exact ⟨v', w', hrun, Seg.of_own h2, h3, fun b hb => .inr (h2.lt b hb).1⟩
  · obtain ⟨b, o, rfl, _, hc⟩ := hr.2 hm
    have hnews : ∀ j u, news[j]? = some u → w.cell? ((⟨b, o, none⟩ : Addr).add j) = some u := fun j u hu => by rw [Addr.add_lit]; exact hc j u hu
    by_cases hroom : n + m ≤ cap
    · have hnl : news.length = m * size := hr.1
      have hin : off + n * size + news.length ≤ cur.length := by
        have : (n + m) * size ≤ cap * size := Nat.mul_le_mul_right _ hroom
        rw [Nat.add_mul] at this
        omega
      have hcl : ∀ j, j < news.length → (w.cell? ⟨g, off + n * i.size + j, none⟩).isSome = true := by
        intro j hj
        rw [hsize, hg.cell, List.getElem?_eq_getElem (by omega)]
        rfl
      have hfr : ∀ j, j < news.length → w.frozen? ⟨g, off + n * i.size + j, none⟩ = false := fun j _ => hg.frozen _
      have hrun := run_append_room_cells (P := P) w t ty e i ht hi g off n cap ⟨b, o, none⟩ m c news (by rw [hsize]; exact hnl) hnews h1 hroom hcl hfr
      refine ⟨_, _, hrun, ⟨by rw [List.length_append, h.1, hnl, Nat.add_mul], .inr ⟨g, off, cap, _, rfl, hg.puts news _, hroom, hcm, by rw [sets_len]; exact hcs, ?_⟩⟩, grownBy_setCells _ _ _ _, fun b hb => .inl hb⟩
      apply List.ext_getElem?
      intro j
      rw [List.getElem?_take]
      have hxl := h.1
      split
      · rename_i hj
        rw [List.getElem?_drop, hsize, sets_at _ _ _ hin]
        by_cases hjx : j < n * size
        · rw [if_neg (by omega), List.getElem?_append_left (by omega), ← htake, List.getElem?_take, if_pos hjx, List.getElem?_drop]
        · rw [Nat.add_mul] at hj
          rw [if_pos (by omega), List.getElem?_append_right (by omega)]
          congr 1
          omega
      · rename_i hj
        rw [List.getElem?_eq_none]
        rw [List.length_append, hxl, hnl, ← Nat.add_mul]
        omega
    · obtain ⟨v', w', hrun, h2, h3⟩ := run_append_arg_grows (P := P) w t ty e i z size bytes ht hi hz hsize hby hzs hsz ⟨g, off, none⟩ n cap xs h.1 (fun j u hu => by rw [Addr.add_lit]; exact h.cells j u hu) ⟨b, o, none⟩ m c news hr.1 hnews (by omega) h63 hbytes
      exact ⟨v', w', hrun, Seg.of_own h2, ⟨h3.os, h3.tape, h3.output, h3.size, fun k hk _ => h3.block k hk (by simp)⟩, fun b hb => .inr (h2.lt b hb).1⟩
end
end Go.Mem
