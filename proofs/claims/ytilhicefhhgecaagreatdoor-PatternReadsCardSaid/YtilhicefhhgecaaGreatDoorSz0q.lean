/- What the shelf of the library proves of the library functions that this program calls, in plain declarations (written by the kit's tools lay-shelf and lay-plain). -/
import Derived.Shelf.Strings.AsciiSet
import Derived.Test.YtilhicefhhgecaaGreatDoorProg
namespace Go.Proofs
open Go.Shelf
def Tryz.lays227_ren : Go.Shelf.Ren := ⟨fun | 227 => 241 | n => n, fun | 9 => 9 | 116 => 294 | 4 => 4 | 0 => 0 | 3 => 3 | 5 => 5 | n => n, fun | n => n⟩
theorem Tryz.lays227 : Go.Proofs.Lays.n227 Tryz.prog Tryz.lays227_ren := {
  mixed := by kernel_rfl
  f227 := Tryz.func241.trans (congrArg some (by kernel_rfl))
  t0 := Tryz.underlying0
  a0 := Tryz.isAgg0
  z0 := Tryz.sizeOf0
  v0 := Tryz.zeroValue0
  t3 := Tryz.underlying3
  a3 := Tryz.isAgg3
  z3 := Tryz.sizeOf3
  v3 := Tryz.zeroValue3
  t4 := Tryz.underlying4
  a4 := Tryz.isAgg4
  z4 := Tryz.sizeOf4
  v4 := Tryz.zeroValue4
  t5 := Tryz.underlying5
  a5 := Tryz.isAgg5
  z5 := Tryz.sizeOf5
  v5 := Tryz.zeroValue5
  t9 := Tryz.underlying9
  a9 := Tryz.isAgg9
  z9 := Tryz.sizeOf9
  v9 := Tryz.zeroValue9
  t116 := Tryz.underlying294
  a116 := Tryz.isAgg294
  z116 := Tryz.sizeOf294 }
end Go.Proofs
