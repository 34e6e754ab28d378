/- The shelf's contract of strings.Contains at a substring of one byte, laid at this dump (written by the kit's lay-shelf and lay-plain). No condition. -/
import Derived.Shelf.Strings.Search3
import Derived.Test.YtgcpclbkjplipaaProg
namespace Go.Proofs
open Go.Shelf
def Try.lays144_ren : Go.Shelf.Ren := ⟨fun | 144 => 28 | 143 => 60 | 219 => 98 | 217 => 120 | 225 => 121 | 224 => 122 | 267 => 123 | 266 => 126 | 314 => 127 | n => n, fun | 9 => 9 | 4 => 4 | 3 => 3 | 5 => 5 | 46 => 106 | 146 => 203 | 51 => 202 | n => n, fun | 1 => 0 | n => n⟩
theorem Try.lays144 : Go.Proofs.Lays.n144 Try.prog Try.lays144_ren := {
  mixed := by kernel_rfl
  f143 := Try.func60.trans (congrArg some (by kernel_rfl))
  f144 := Try.func28.trans (congrArg some (by kernel_rfl))
  f217 := Try.func120.trans (congrArg some (by kernel_rfl))
  f219 := Try.func98.trans (congrArg some (by kernel_rfl))
  f224 := Try.func122.trans (congrArg some (by kernel_rfl))
  f225 := Try.func121.trans (congrArg some (by kernel_rfl))
  f266 := Try.func126.trans (congrArg some (by kernel_rfl))
  f267 := Try.func123.trans (congrArg some (by kernel_rfl))
  f314 := Try.func127.trans (congrArg some (by kernel_rfl))
  t3 := Try.underlying3
  a3 := Try.isAgg3
  z3 := Try.sizeOf3
  v3 := Try.zeroValue3
  t4 := Try.underlying4
  a4 := Try.isAgg4
  z4 := Try.sizeOf4
  v4 := Try.zeroValue4
  t5 := Try.underlying5
  a5 := Try.isAgg5
  z5 := Try.sizeOf5
  v5 := Try.zeroValue5
  t9 := Try.underlying9
  a9 := Try.isAgg9
  z9 := Try.sizeOf9
  v9 := Try.zeroValue9
  t46 := Try.underlying106
  a46 := Try.isAgg106
  z46 := Try.sizeOf106
  v46 := Try.zeroValue106
  t51 := Try.underlying202
  a51 := Try.isAgg202
  z51 := Try.sizeOf202
  v51 := Try.zeroValue202
  t146 := Try.underlying203
  a146 := Try.isAgg203
  z146 := Try.sizeOf203
  v146 := Try.zeroValue203
  g1 := by kernel_rfl }
end Go.Proofs
namespace Go.Proofs.Ytgcpclbkjplipaa
open Go.RowKit
theorem contains_one (s : ByteArray) (c : UInt8) (w : World) :
    Calls Try.prog 28 #[.string s, .string ⟨#[c]⟩] w fun e w' => e = .returned (.bool (decide (0 ≤ Lib.indexByte s.data.toList c))) ∧ w = w' :=
  (Any.strings_Contains_one Try.lays144 s c w).mono fun _ _ h => ⟨h.1, h.2.symm⟩
theorem indexByte_none : ∀ (l : List UInt8) (c : UInt8), (∀ i : Nat, l[i]? ≠ some c) → Lib.indexByte l c = -1
  | [], _, _ => rfl
  | b :: l, c, h => by
    have h0 : (b == c) = false := by have := h 0; simpa using this
    have h1 := indexByte_none l c fun i => by have := h (i + 1); simpa using this
    simp [Lib.indexByte, h0, h1]
end Go.Proofs.Ytgcpclbkjplipaa
