/- Generic functions of the library laid at this seat's translation by the kit's own command, in plain words. No condition. -/
import Derived.Shelf.SlGeneric
import Derived.Ground.GgzProg
import Derived.Shelf.SlLaysZ
import Derived.Test.YtbliiipcjbmbiaaGreatDoorProg
namespace Go.Proofs
open Go.Shelf
def Tryz.appendSeqS_ren : Go.Shelf.Ren := ⟨fun | 11 => 274 | n => n, fun | 24 => 22 | 26 => 9 | 28 => 297 | 0 => 0 | 33 => 76 | 4 => 4 | n => n, fun | n => n⟩
theorem Tryz.appendSeqS : Go.Proofs.SlLaysZ.n11 Tryz.prog Tryz.appendSeqS_ren := {
  mixed := by kernel_rfl
  f11 := ⟨Tryz.f274.name, by decide, Tryz.func274.trans (congrArg some (by kernel_rfl))⟩
  t0 := Tryz.underlying0
  a0 := Tryz.isAgg0
  z0 := Tryz.sizeOf0
  v0 := Tryz.zeroValue0
  t24 := Tryz.underlying22
  a24 := Tryz.isAgg22
  z24 := Tryz.sizeOf22
  v24 := Tryz.zeroValue22
  t26 := Tryz.underlying9
  a26 := Tryz.isAgg9
  z26 := Tryz.sizeOf9
  v26 := Tryz.zeroValue9
  t28 := Tryz.underlying297
  a28 := Tryz.isAgg297
  z28 := Tryz.sizeOf297
  v28 := Tryz.zeroValue297
  i26 := by kernel_rfl }
end Go.Proofs
