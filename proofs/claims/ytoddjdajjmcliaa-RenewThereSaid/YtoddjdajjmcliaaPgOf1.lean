/- The programs of the laws, in plain Lean and in memory. -/
import Derived.Test.YtoddjdajjmcliaaPgOf0
import Derived.Test.YtoddjdajjmcliaaHeldG
set_option linter.unusedVariables false
namespace Go.Sh
open Go.Mem Go.RowKit
def oneT (k : Nat) : Ty := .mk k [] []
def namedT (n : Nm) (l : List Ty) : Ty := .mk 6 n l
def tD : Ty := namedT [68] []
def tVar : Ty := .mk 5 [97] []
def dD (y : Nat) : Dt := ⟨[68], [], [⟨[88], [tD]⟩, ⟨[89], [oneT y]⟩, ⟨[90], []⟩]⟩
def dL (bad : Bool) : Dt := ⟨[76], [[97]], [⟨[78], if bad then [tD] else []⟩, ⟨[67], [tVar, namedT [76] [tVar]]⟩]⟩
def dE : Dt := ⟨[69], [], [⟨[87], [namedT [76] [tD], oneT 3]⟩]⟩
def typesF : List Ty := [oneT 1, oneT 2, oneT 3, oneT 4, tD, namedT [76] [oneT 1], namedT [76] [namedT [76] [tD]], namedT [69] [], .mk 9 [] [tD]]
theorem all2_append {α β : Type} {R : α → β → Prop} {xs xs' : List α} {ys ys' : List β} (h : All2 R xs ys) (k : All2 R xs' ys') : All2 R (xs ++ xs') (ys ++ ys') := by
  refine ⟨by simp [h.1, k.1], fun i x y h1 h2 => ?_⟩
  rw [List.getElem?_append] at h1 h2
  by_cases e : i < xs.length
  · rw [if_pos e] at h1
    rw [if_pos (by rw [← h.1]; exact e)] at h2
    exact h.2 i x y h1 h2
  · rw [if_neg e] at h1
    rw [if_neg (by rw [← h.1]; exact e)] at h2
    exact k.2 _ x y h1 (by rw [h.1]; exact h2)
theorem all2_one {α β : Type} {R : α → β → Prop} {x : α} {y : β} (h : R x y) : All2 R [x] [y] := All2.cons_mk h All2.nil
section
variable {w : World} {D : Nat → Prop} {d b : Nat} {t : TypeId}
/-- a row of cells in a block of its own -/
theorem _root_.Go.Mem.Blk.reads {cs : List Value} (h : Blk w b t cs) (hD : D b) {size n : Nat} (hl : cs.length = n * size) : Reads w D size (some ⟨b, 0, none⟩) n cs :=
  ⟨hl, fun _ => ⟨b, 0, rfl, hD, fun j u hu => by rw [Nat.zero_add, h.cell]; exact hu⟩⟩
theorem TCells.one {k : Nat} (hk : k ≤ 9) : TCells (d + 1) w D [.int .i64 (k : Nat), str [], .slice none 0 0] (oneT k) := ⟨none, 0, [], rfl, hk, by simp, by simp, Nat.le_refl _, Nat.zero_le _, Reads.empty, All2.nil⟩
theorem TCells.lone {k : Nat} {n : Nm} (hk : k ≤ 9) (hn : n.length ≤ 1000) : TCells (d + 1) w D [.int .i64 (k : Nat), str n, .slice none 0 0] (.mk k n []) := ⟨none, 0, [], rfl, hk, hn, by simp, Nat.le_refl _, Nat.zero_le _, Reads.empty, All2.nil⟩
theorem TCells.with1 {k : Nat} {n : Nm} {cs : List Value} {x : Ty} (hk : k ≤ 9) (hn : n.length ≤ 1000) (h : Blk w b t cs) (hD : D b) (hx : TCells d w D cs x) : TCells (d + 1) w D [.int .i64 (k : Nat), str n, .slice (some ⟨b, 0, none⟩) 1 1] (.mk k n [x]) := by
  have hl : cs.length = 1 * 3 := (TCells.stable d).len hx
  exact ⟨_, 1, [cs], rfl, hk, hn, by simp, Nat.le_refl _, by decide, by simpa using h.reads hD hl, all2_one hx⟩
theorem TsAt.row1 {cs : List Value} {x : Ty} (h : Blk w b t cs) (hD : D b) (hx : TCells d w D cs x) : TsAt d w D (some ⟨b, 0, none⟩) 1 1 [x] := by
  have hl : cs.length = 1 * 3 := (TCells.stable d).len hx
  exact ⟨[cs], rfl, by omega, Nat.le_refl _, by decide, by simpa using h.reads hD hl, all2_one hx⟩
theorem TsAt.row2 {cs cs' : List Value} {x y : Ty} (h : Blk w b t (cs ++ cs')) (hD : D b) (hx : TCells d w D cs x) (hy : TCells d w D cs' y) : TsAt d w D (some ⟨b, 0, none⟩) 2 2 [x, y] := by
  have hl : cs.length = 3 := (TCells.stable d).len hx
  have hl' : cs'.length = 3 := (TCells.stable d).len hy
  exact ⟨[cs, cs'], rfl, by omega, Nat.le_refl _, by decide, by simpa using h.reads hD (by rw [List.length_append, hl, hl']), all2_append (all2_one hx) (all2_one hy)⟩
theorem MksAt.row1 {cs : List Value} {x : Mk} (h : Blk w b t cs) (hD : D b) (hx : MkCells d w D cs x) : MksAt d w D (some ⟨b, 0, none⟩) 1 1 [x] := by
  have hl : cs.length = 1 * 2 := (MkCells.stable d).len hx
  exact ⟨[cs], rfl, by omega, Nat.le_refl _, by decide, by simpa using h.reads hD hl, all2_one hx⟩
theorem MksAt.row2 {c1 c2 : List Value} {x y : Mk} (h : Blk w b t (c1 ++ c2)) (hD : D b) (hx : MkCells d w D c1 x) (hy : MkCells d w D c2 y) : MksAt d w D (some ⟨b, 0, none⟩) 2 2 [x, y] := by
  have hl : c1.length = 2 := (MkCells.stable d).len hx
  have hl' : c2.length = 2 := (MkCells.stable d).len hy
  exact ⟨[c1, c2], rfl, by omega, Nat.le_refl _, by decide, by simpa using h.reads hD (by rw [List.length_append, hl, hl']), all2_append (all2_one hx) (all2_one hy)⟩
theorem MksAt.row3 {c1 c2 c3 : List Value} {x y z : Mk} (h : Blk w b t (c1 ++ (c2 ++ c3))) (hD : D b) (hx : MkCells d w D c1 x) (hy : MkCells d w D c2 y) (hz : MkCells d w D c3 z) : MksAt d w D (some ⟨b, 0, none⟩) 3 3 [x, y, z] := by
  have hl : c1.length = 2 := (MkCells.stable d).len hx
  have hl' : c2.length = 2 := (MkCells.stable d).len hy
  have hl3 : c3.length = 2 := (MkCells.stable d).len hz
  exact ⟨[c1, c2, c3], rfl, by omega, Nat.le_refl _, by decide, by simpa using h.reads hD (by simp [hl, hl', hl3]), all2_append (all2_one hx) (all2_append (all2_one hy) (all2_one hz))⟩
theorem MkCells.of {A : Option Addr} {n c : Nat} {x : Nm} {l : List Ty} (hx : x.length ≤ 1000) (h : TsAt d w D A n c l) : MkCells d w D [str x, .slice A n c] ⟨x, l⟩ := ⟨A, n, c, rfl, hx, h⟩
/-- the data D -/
theorem dtD {y : Nat} {b16 b23 b26 : Nat} {t1 t2 t3 : TypeId} (hy : y ≤ 9) (h16 : Blk w b16 t1 [.int .i64 6, str [68], .slice none 0 0]) (h23 : Blk w b23 t2 [.int .i64 (y : Nat), str [], .slice none 0 0])
    (h26 : Blk w b26 t3 [str [88], .slice (some ⟨b16, 0, none⟩) 1 1, str [89], .slice (some ⟨b23, 0, none⟩) 1 1, str [90], .slice none 0 0]) (d16 : D b16) (d23 : D b23) (d26 : D b26) :
    DtCells (d + 1) w D [str [68], .slice none 0 0, .slice (some ⟨b26, 0, none⟩) 3 3] (dD y) :=
  ⟨none, 0, _, _, _, rfl, by simp [dD], by simp [dD], Reads.empty, MksAt.row3 (c1 := [_, _]) (c2 := [_, _]) (c3 := [_, _]) h26 d26 (MkCells.of (by simp) (TsAt.row1 h16 d16 (TCells.lone (k := 6) (by omega) (by simp)))) (MkCells.of (by simp) (TsAt.row1 h23 d23 (TCells.one hy))) (MkCells.of (by simp) TsAt.nil)⟩
/-- the data L -/
theorem dtL0 {b33 b38 b40 b42 : Nat} {t1 t2 t3 t4 : TypeId} (h33 : Blk w b33 t1 [str [97]]) (h38 : Blk w b38 t2 [.int .i64 5, str [97], .slice none 0 0]) (h40 : Blk w b40 t3 [.int .i64 5, str [97], .slice none 0 0, .int .i64 6, str [76], .slice (some ⟨b38, 0, none⟩) 1 1])
    (h42 : Blk w b42 t4 [str [78], .slice none 0 0, str [67], .slice (some ⟨b40, 0, none⟩) 2 2]) (d33 : D b33) (d38 : D b38) (d40 : D b40) (d42 : D b42) :
    DtCells (d + 2) w D [str [76], .slice (some ⟨b33, 0, none⟩) 1 1, .slice (some ⟨b42, 0, none⟩) 2 2] (dL false) :=
  ⟨some ⟨b33, 0, none⟩, 1, _, _, _, rfl, by simp [dL], by simp [dL], h33.reads d33 rfl, MksAt.row2 (c1 := [_, _]) (c2 := [_, _]) h42 d42 (MkCells.of (by simp) TsAt.nil) (MkCells.of (by simp) (TsAt.row2 (cs := [_, _, _]) (cs' := [_, _, _]) h40 d40 (TCells.lone (k := 5) (by omega) (by simp)) (TCells.with1 (k := 6) (by omega) (by simp) h38 d38 (TCells.lone (k := 5) (by omega) (by simp)))))⟩
theorem dtL1 {b33 b38 b40 b42 b58 : Nat} {t1 t2 t3 t4 t5 : TypeId} (h33 : Blk w b33 t1 [str [97]]) (h38 : Blk w b38 t2 [.int .i64 5, str [97], .slice none 0 0]) (h40 : Blk w b40 t3 [.int .i64 5, str [97], .slice none 0 0, .int .i64 6, str [76], .slice (some ⟨b38, 0, none⟩) 1 1])
    (h42 : Blk w b42 t4 [str [78], .slice (some ⟨b58, 0, none⟩) 1 1, str [67], .slice (some ⟨b40, 0, none⟩) 2 2]) (h58 : Blk w b58 t5 [.int .i64 6, str [68], .slice none 0 0]) (d33 : D b33) (d38 : D b38) (d40 : D b40) (d42 : D b42) (d58 : D b58) :
    DtCells (d + 2) w D [str [76], .slice (some ⟨b33, 0, none⟩) 1 1, .slice (some ⟨b42, 0, none⟩) 2 2] (dL true) :=
  ⟨some ⟨b33, 0, none⟩, 1, _, _, _, rfl, by simp [dL], by simp [dL], h33.reads d33 rfl, MksAt.row2 (c1 := [_, _]) (c2 := [_, _]) h42 d42 (MkCells.of (by simp) (TsAt.row1 h58 d58 (TCells.lone (k := 6) (by omega) (by simp)))) (MkCells.of (by simp) (TsAt.row2 (cs := [_, _, _]) (cs' := [_, _, _]) h40 d40 (TCells.lone (k := 5) (by omega) (by simp)) (TCells.with1 (k := 6) (by omega) (by simp) h38 d38 (TCells.lone (k := 5) (by omega) (by simp)))))⟩
/-- the data E -/
theorem dtE {b66 b70 b72 : Nat} {t1 t2 t3 : TypeId} (h66 : Blk w b66 t1 [.int .i64 6, str [68], .slice none 0 0]) (h70 : Blk w b70 t2 [.int .i64 6, str [76], .slice (some ⟨b66, 0, none⟩) 1 1, .int .i64 3, str [], .slice none 0 0]) (h72 : Blk w b72 t3 [str [87], .slice (some ⟨b70, 0, none⟩) 2 2]) (d66 : D b66) (d70 : D b70) (d72 : D b72) :
    DtCells (d + 2) w D [str [69], .slice none 0 0, .slice (some ⟨b72, 0, none⟩) 1 1] dE :=
  ⟨none, 0, _, _, _, rfl, by simp [dE], by simp [dE], Reads.empty, MksAt.row1 h72 d72 (MkCells.of (by simp) (TsAt.row2 (cs := [_, _, _]) (cs' := [_, _, _]) h70 d70 (TCells.with1 (k := 6) (by omega) (by simp) h66 d66 (TCells.lone (k := 6) (by omega) (by simp))) (TCells.one (k := 3) (by omega))))⟩
end
end Go.Sh
