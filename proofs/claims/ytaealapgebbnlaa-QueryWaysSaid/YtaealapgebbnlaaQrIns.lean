/- The shelf's contract of the insertion sort by a comparison, laid at this dump (written by the kit's lay-plain from 'shelf_lay_g SlLaysF0.n20 Slsf 20 at Try 60'; literal numbers). No condition. -/
import Derived.Shelf.SlGeneric
import Derived.Shelf.SlSortCmp.InsertionK
import Derived.Ground.SlsfProg
import Derived.Test.YtaealapgebbnlaaProg
set_option linter.unusedVariables false
namespace Go.Proofs
open Go.Shelf
def Try.insQr_ren : Go.Shelf.Ren := ⟨fun | 20 => 60 | n => n, fun | 24 => 80 | 22 => 77 | 3 => 3 | 25 => 105 | 4 => 4 | 0 => 0 | n => n, fun | n => n⟩
theorem Try.insQr : Go.Proofs.SlLaysF0.n20 Try.prog Try.insQr_ren := {
  mixed := by kernel_rfl
  f20 := ⟨Try.f60.name, by decide, Try.func60.trans (congrArg some (by kernel_rfl))⟩
  t0 := Try.underlying0
  a0 := Try.isAgg0
  z0 := Try.sizeOf0
  v0 := Try.zeroValue0
  t3 := Try.underlying3
  a3 := Try.isAgg3
  z3 := Try.sizeOf3
  v3 := Try.zeroValue3
  t4 := Try.underlying4
  a4 := Try.isAgg4
  z4 := Try.sizeOf4
  v4 := Try.zeroValue4
  t22 := Try.underlying77
  a22 := Try.isAgg77
  z22 := Try.sizeOf77
  v22 := Try.zeroValue77
  t25 := Try.underlying105
  a25 := Try.isAgg105
  z25 := Try.sizeOf105
  v25 := Try.zeroValue105 }
end Go.Proofs
