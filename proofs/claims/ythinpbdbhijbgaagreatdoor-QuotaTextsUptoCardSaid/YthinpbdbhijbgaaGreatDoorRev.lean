/- The contract of the library on turning a slice of texts round that the kit has proved, laid at this translation by the kit's own tool. -/
import Derived.Shelf.Slices.ReverseS
import Derived.Ground.Names2Prog
import Derived.Test.YthinpbdbhijbgaaGreatDoorProg
namespace Go.Proofs
open Go.Shelf
def Tryz.revS_ren : Go.Shelf.Ren := ⟨fun | 17 => 226 | n => n, fun | 24 => 56 | 9 => 9 | 3 => 3 | 4 => 4 | 0 => 0 | n => n, fun | n => n⟩
theorem Tryz.revS : Go.Proofs.Lays2.n17 Tryz.prog Tryz.revS_ren := {
  mixed := by kernel_rfl
  f17 := Tryz.func226.trans (congrArg some (by kernel_rfl))
  t0 := Tryz.underlying0
  a0 := Tryz.isAgg0
  z0 := Tryz.sizeOf0
  v0 := Tryz.zeroValue0
  t3 := Tryz.underlying3
  a3 := Tryz.isAgg3
  z3 := Tryz.sizeOf3
  v3 := Tryz.zeroValue3
  t4 := Tryz.underlying4
  a4 := Tryz.isAgg4
  z4 := Tryz.sizeOf4
  v4 := Tryz.zeroValue4
  t9 := Tryz.underlying9
  a9 := Tryz.isAgg9
  z9 := Tryz.sizeOf9
  v9 := Tryz.zeroValue9
  t24 := Tryz.underlying56
  a24 := Tryz.isAgg56
  z24 := Tryz.sizeOf56
  v24 := Tryz.zeroValue56 }
end Go.Proofs
