/- The contract of the library on the keys of a map that the kit has proved, laid at this translation by the kit's own tool. -/
import Derived.Shelf.SlIter.Nil
import Derived.Ground.GgzProg
import Derived.Test.YtamolbegmkngdaaGreatDoorProg
namespace Go.Proofs
open Go.Shelf
def Tryz.keysQ_ren : Go.Shelf.Ren := ⟨fun | 7 => 127 | 10 => 162 | n => n, fun | 23 => 149 | 26 => 9 | 3 => 110 | 28 => 178 | 0 => 0 | 27 => 177 | 33 => 152 | 4 => 4 | n => n, fun | n => n⟩
theorem Tryz.keysQ : Go.Proofs.SlLaysZ.n7 Tryz.prog Tryz.keysQ_ren := {
  mixed := by kernel_rfl
  f7 := ⟨Tryz.f127.name, by decide, Tryz.func127.trans (congrArg some (by kernel_rfl))⟩
  f10 := ⟨Tryz.f162.name, by decide, Tryz.func162.trans (congrArg some (by kernel_rfl))⟩
  t0 := Tryz.underlying0
  a0 := Tryz.isAgg0
  z0 := Tryz.sizeOf0
  v0 := Tryz.zeroValue0
  t4 := Tryz.underlying4
  a4 := Tryz.isAgg4
  z4 := Tryz.sizeOf4
  v4 := Tryz.zeroValue4
  t23 := Tryz.underlying149
  a23 := Tryz.isAgg149
  z23 := Tryz.sizeOf149
  v23 := Tryz.zeroValue149
  t26 := Tryz.underlying9
  a26 := Tryz.isAgg9
  z26 := Tryz.sizeOf9
  v26 := Tryz.zeroValue9
  t27 := Tryz.underlying177
  a27 := Tryz.isAgg177
  z27 := Tryz.sizeOf177
  v27 := Tryz.zeroValue177
  t28 := Tryz.underlying178
  a28 := Tryz.isAgg178
  z28 := Tryz.sizeOf178
  v28 := Tryz.zeroValue178
  t33 := Tryz.underlying152
  a33 := Tryz.isAgg152
  z33 := Tryz.sizeOf152
  v33 := Tryz.zeroValue152 }
end Go.Proofs
