/- The contract of the library on the keys of a map that the kit has proved, laid at this translation by the kit's own tool. -/
import Derived.Shelf.SlIter.Nil
import Derived.Ground.GgzProg
import Derived.Test.YthinpbdbhijbgaaGreatDoorProg
namespace Go.Proofs
open Go.Shelf
def Tryz.keysQ_ren : Go.Shelf.Ren := ⟨fun | 7 => 159 | 10 => 197 | n => n, fun | 23 => 163 | 26 => 9 | 3 => 107 | 28 => 208 | 0 => 0 | 27 => 207 | 33 => 202 | 4 => 4 | n => n, fun | n => n⟩
theorem Tryz.keysQ : Go.Proofs.SlLaysZ.n7 Tryz.prog Tryz.keysQ_ren := {
  mixed := by kernel_rfl
  f7 := ⟨Tryz.f159.name, by decide, Tryz.func159.trans (congrArg some (by kernel_rfl))⟩
  f10 := ⟨Tryz.f197.name, by decide, Tryz.func197.trans (congrArg some (by kernel_rfl))⟩
  t0 := Tryz.underlying0
  a0 := Tryz.isAgg0
  z0 := Tryz.sizeOf0
  v0 := Tryz.zeroValue0
  t4 := Tryz.underlying4
  a4 := Tryz.isAgg4
  z4 := Tryz.sizeOf4
  v4 := Tryz.zeroValue4
  t23 := Tryz.underlying163
  a23 := Tryz.isAgg163
  z23 := Tryz.sizeOf163
  v23 := Tryz.zeroValue163
  t26 := Tryz.underlying9
  a26 := Tryz.isAgg9
  z26 := Tryz.sizeOf9
  v26 := Tryz.zeroValue9
  t27 := Tryz.underlying207
  a27 := Tryz.isAgg207
  z27 := Tryz.sizeOf207
  v27 := Tryz.zeroValue207
  t28 := Tryz.underlying208
  a28 := Tryz.isAgg208
  z28 := Tryz.sizeOf208
  v28 := Tryz.zeroValue208
  t33 := Tryz.underlying202
  a33 := Tryz.isAgg202
  z33 := Tryz.sizeOf202
  v33 := Tryz.zeroValue202 }
end Go.Proofs
