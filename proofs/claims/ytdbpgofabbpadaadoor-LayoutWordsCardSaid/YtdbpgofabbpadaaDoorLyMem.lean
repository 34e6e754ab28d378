/- Pieces of documents in memory; the library's contracts that package layout calls, in our words. -/
import Derived.Test.YtdbpgofabbpadaaDoorProg
import Derived.Test.YtdbpgofabbpadaaDoorRest
import Derived.Test.YtdbpgofabbpadaaDoorLyLaw
import Derived.Test.YtdbpgofabbpadaaDoorLyShelf
import Derived.Shelf.Strings.BuilderK
import Derived.Deep.QuietTactic
import Derived.BigQuiet
set_option linter.unusedVariables false
namespace Go.Ly
open Go.Mem Go.RowKit
def sv (s : List UInt8) : Value := .string ⟨s.toArray⟩
def pcell (p : Pc) : List Value := [.int .i64 (p.kind : Nat), .int .i64 (p.n : Nat), sv p.s]
def pcs (d : List Pc) : List Value := (d.map pcell).flatten
theorem pcs_len (d : List Pc) : (pcs d).length = d.length * 3 := by
  induction d with
  | nil => rfl
  | cons p r ih =>
    unfold pcs at ih ⊢
    rw [List.map_cons, List.flatten_cons, List.length_append, ih]
    simp [pcell]
    omega
theorem pcs_app (a b : List Pc) : pcs (a ++ b) = pcs a ++ pcs b := by simp [pcs]
theorem pcs_ones (d : List Pc) : ∀ u ∈ pcs d, u.oneCell' = true := by
  intro u hu
  obtain ⟨l, hl, hu⟩ := List.mem_flatten.1 hu
  obtain ⟨p, _, rfl⟩ := List.mem_map.1 hl
  simp only [pcell, List.mem_cons, List.not_mem_nil, or_false] at hu
  rcases hu with rfl | rfl | rfl <;> rfl
theorem pcs_at (d : List Pc) (k : Nat) (hk : k < d.length) (j : Nat) (hj : j < 3) : (pcs d)[k * 3 + j]? = (pcell d[k])[j]? := by
  unfold pcs
  refine flatten_at (size := 3) ?_ (k := k) (c := pcell d[k]) ?_ j hj
  · intro c hc
    obtain ⟨p, _, rfl⟩ := List.mem_map.1 hc
    rfl
  · rw [List.getElem?_map, List.getElem?_eq_getElem hk]
    rfl
theorem pcs_text (q r : Nat) (b : UInt8) (h : UInt8.ofNat (97 + q) = b) : pcs [⟨1, 0, List.replicate (1 + r) (UInt8.ofNat (97 + q))⟩] = [.int .i64 1, .int .i64 0, .string ⟨(Lib.repeatL [b] (1 + r)).toArray⟩] := by
  rw [h]
  have e := Lib.repeatL_replicate b 1 (1 + r)
  rw [Nat.mul_one] at e
  have e2 : List.replicate 1 b = [b] := rfl
  rw [e2] at e
  rw [e]
  rfl
/-- a document that a slice shows -/
def DocAt (w : World) (D : Nat → Prop) (A : Option Addr) (n c : Nat) (d : List Pc) : Prop := n = d.length ∧ n ≤ c ∧ c ≤ maxLen ∧ n ≤ 100 ∧ Reads w D 3 A n (pcs d)
theorem DocAt.keep {w w' : World} {D : Nat → Prop} {A : Option Addr} {n c : Nat} {d : List Pc} (h : DocAt w D A n c d) (k : Same D w w') : DocAt w' D A n c d := ⟨h.1, h.2.1, h.2.2.1, h.2.2.2.1, h.2.2.2.2.keep k⟩
theorem DocAt.imp {w : World} {D D' : Nat → Prop} {A : Option Addr} {n c : Nat} {d : List Pc} (h : DocAt w D A n c d) (k : ∀ b, D b → b < w.heap.size → D' b) : DocAt w D' A n c d := ⟨h.1, h.2.1, h.2.2.1, h.2.2.2.1, h.2.2.2.2.imp (by omega) k⟩
theorem DocAt.cells {w : World} {D : Nat → Prop} {A : Option Addr} {n c : Nat} {d : List Pc} (h : DocAt w D A n c d) {k : Nat} (hk : k < n) (hl : k < d.length) :
    ∃ b off, A = some ⟨b, off, none⟩ ∧ D b ∧ w.cell? ⟨b, off + k * 3, none⟩ = some (.int .i64 (d[k].kind : Nat)) ∧ w.cell? ⟨b, off + k * 3 + 1, none⟩ = some (.int .i64 (d[k].n : Nat)) ∧ w.cell? ⟨b, off + k * 3 + 2, none⟩ = some (sv d[k].s) := by
  obtain ⟨h1, h2, h3, h4, hr⟩ := h
  obtain ⟨hlen, hA⟩ := hr
  obtain ⟨b, off, rfl, hD, hc⟩ := hA (by omega)
  refine ⟨b, off, rfl, hD, ?_, ?_, ?_⟩
  · have := hc (k * 3 + 0) _ (pcs_at d k hl 0 (by omega)); exact this
  · have := hc (k * 3 + 1) _ (pcs_at d k hl 1 (by omega)); exact this
  · have := hc (k * 3 + 2) _ (pcs_at d k hl 2 (by omega)); exact this
end Go.Ly
namespace Go.Proofs.YtdbpgofabbpadaaDoor
open Go.RowKit Go.Mem Go.Ly
theorem rst_eq (n many : Int) (h : 0 < many) : restI n many = ((rst n many : Nat) : Int) := by
  have := restI_bd n many h
  unfold rst
  unfold restI at this ⊢
  split <;> rename_i h0
  · rw [if_pos h0] at this
    omega
  · rw [if_neg h0] at this
    omega
theorem info_pc : (Tryd.prog.info? 30).map (fun i => (i.zero, i.size, i.bytes)) = some (some (.agg #[.int .i64 0, .int .i64 0, .string ⟨#[]⟩]), 3, 32) := by kernel_rfl
theorem info_of {T : TypeId} {z : Value} {s b : Nat} (h : (Tryd.prog.info? T).map (fun i => (i.zero, i.size, i.bytes)) = some (some z, s, b)) : ∃ i, Tryd.prog.info? T = some i ∧ i.zero = some z ∧ i.size = s ∧ i.bytes = b := by
  cases e : Tryd.prog.info? T with
  | none => rw [e] at h; cases h
  | some i =>
    rw [e] at h
    simp only [Option.map_some, Option.some.injEq, Prod.mk.injEq] at h
    exact ⟨i, rfl, h.1, h.2.1, h.2.2⟩
/-- append of pieces onto a row of the call's own -/
theorem app_pc (w : World) {ops : Array Oper} {rest : List Oper} {o : Oper} {a : Act} {Q : Exit → Act → World → Prop} (hgd : o.guard = none) (s x : Operand)
    (ho : o.op = .call { callee := .builtin .append, args := #[s, x], argTypes := #[23, 23] })
    {base : Nat} {v : Value} {n : Nat} {xs : List Value} (hown : w.ownsRow base 30 3 v n xs) (hs : a.eval s = v)
    {D : Nat → Prop} {A : Option Addr} {m : Nat} {news : List Value} (hr : Reads w D 3 A m news) {c : Nat} (hx : a.eval x = .slice A m c) (h1 : ∀ u ∈ news, u.oneCell' = true)
    (h63 : n + m ≤ 1000000) (hbase : base ≤ w.heap.size)
    (h : ∀ v' w', w'.ownsRow base 30 3 v' (n + m) (xs ++ news) → w.grownBy w' v.ownBlock → (v'.ownBlock = v.ownBlock ∨ v'.ownBlock = some w.heap.size) → wpList Tryd.prog ops Q rest (a.put o.dst v') w') : wpList Tryd.prog ops Q (o :: rest) a w := by
  obtain ⟨i0, hi0, hz0, hz1, hz2⟩ := info_of info_pc
  exact wpList_append_any w hgd s x _ ho base _ i0 _ 3 32 Tryd.underlying23 hi0 hz0 hz1 hz2 rfl (by omega) v n xs hs hown D A m c news hx hr h1 (by simp only [maxLen]; omega) (by omega) hbase h
/-- .. as a step of a drawn region -/
theorem step_app_pc (w : World) {ops : Array Oper} {o : Oper} {a : Act} {K : Act → World → Prop} {Q : Exit → Act → World → Prop} {E : Prop} (hgd : o.guard = none) (s x : Operand)
    (ho : o.op = .call { callee := .builtin .append, args := #[s, x], argTypes := #[23, 23] })
    {base : Nat} {v : Value} {n : Nat} {xs : List Value} (hown : w.ownsRow base 30 3 v n xs) (hs : a.eval s = v)
    {D : Nat → Prop} {A : Option Addr} {m : Nat} {news : List Value} (hr : Reads w D 3 A m news) {c : Nat} (hx : a.eval x = .slice A m c) (h1 : ∀ u ∈ news, u.oneCell' = true)
    (h63 : n + m ≤ 1000000) (hbase : base ≤ w.heap.size)
    (h : ∀ v' w', w'.ownsRow base 30 3 v' (n + m) (xs ++ news) → w.grownBy w' v.ownBlock → (v'.ownBlock = v.ownBlock ∨ v'.ownBlock = some w.heap.size) → K (a.put o.dst v') w') :
    if Region.wanted o (yielded ops a.tmps) = true then Oper.wp Tryd.prog o a w K Q else E := by
  obtain ⟨i0, hi0, hz0, hz1, hz2⟩ := info_of info_pc
  exact step_append_any w hgd s x _ ho base _ i0 _ 3 32 Tryd.underlying23 hi0 hz0 hz1 hz2 rfl (by omega) v n xs hs hown D A m c news hx hr h1 (by simp only [maxLen]; omega) (by omega) hbase h
/-- a builder that the call has made: it holds l -/
def BldAt (B b : Nat) (l : List UInt8) (w : World) : Prop := Lib.IsBuilderF 40 5 B b (Lib.byteCells l) w
theorem lays_ws : Go.Proofs.Lays.n166 Tryd.prog Tryd.lays105_ren := { Tryd.lays105 with }
theorem write_any (B b : Nat) (l s : List UInt8) (w : World) (h : BldAt B b l w) (hlen : l.length + s.length ≤ 140737488355328) (hB : B ≤ w.heap.size) :
    Calls Tryd.prog 11 #[.pointer (some ⟨b, 0, none⟩), sv s] w fun e w' => e = .returned (.tuple #[.int .i64 (s.length : Nat), .nilIface]) ∧ BldAt B b (l ++ s) w' ∧ Below B w w' ∧ Lib.OthersKept 5 (some b) w w' := by
  have es : (ByteArray.mk s.toArray).size = s.length := by simp [ByteArray.size]
  have := Any.Builder_WriteString_k lays_ws Tryd.Builder_Extra_105 B b (Lib.byteCells l) ⟨s.toArray⟩ w h (by rw [Lib.byteCells_length, es]; exact hlen) hB
  refine Calls.mono this ?_
  rintro e w' ⟨rfl, h1, h2, h3⟩
  refine ⟨by rw [es], .inr ?_, h2, h3⟩
  rw [Lib.byteCells_append]
  exact h1
theorem string_any (B b : Nat) (l : List UInt8) (w : World) (h : BldAt B b l w) (hB : B ≤ w.heap.size) :
    Calls Tryd.prog 12 #[.pointer (some ⟨b, 0, none⟩)] w fun e w' => e = .returned (sv l) ∧ Below B w w' := by
  refine (Tryd.Builder_String_any_k B b l w h hB).mono ?_
  rintro e w' ⟨rfl, _, h2, _⟩
  exact ⟨rfl, h2⟩
theorem repeat_any (s : List UInt8) (c : Nat) (w : World) (hlen : s.length * c ≤ 140737488355328) (hc : c ≤ 9223372036854775807) :
    Calls Tryd.prog 8 #[sv s, .int .i64 (c : Nat)] w fun e w' => e = .returned (sv (Lib.repeatL s c)) ∧ Below w.heap.size w w' := by
  have es : (ByteArray.mk s.toArray).size = s.length := by simp [ByteArray.size]
  refine (Tryd.strings_Repeat ⟨s.toArray⟩ c w hc (by rw [es]; exact hlen)).mono ?_
  rintro e w' ⟨rfl, h⟩
  exact ⟨rfl, h⟩
theorem contains_no (s : List UInt8) (w : World) (h : ∀ b ∈ s, b ≠ 10) : Calls Tryd.prog 19 #[sv s, .string ⟨#[10]⟩] w fun e w' => e = .returned (.bool false) ∧ w' = w := by
  refine (Tryd.strings_Contains_one ⟨s.toArray⟩ 10 w).mono ?_
  rintro e w' ⟨rfl, rfl⟩
  have hi : ∀ s : List UInt8, (∀ b ∈ s, b ≠ 10) → Lib.indexByte s 10 = -1 := by
    intro s
    induction s with
    | nil => intro _; rfl
    | cons x r ih =>
      intro h
      have hx : x ≠ 10 := h x (by simp)
      have ir := ih fun b hb => h b (by simp [hb])
      unfold Lib.indexByte
      simp [hx, ir]
  have h2 := hi s h
  exact ⟨by rw [show (ByteArray.mk s.toArray).data.toList = s from rfl, h2]; rfl, rfl⟩
end Go.Proofs.YtdbpgofabbpadaaDoor
