/- Contracts of the library's functions, laid at this program (each field checked by the kernel). -/
import Derived.Shelf.Spec.TrailingZeros
import Derived.Test.YtigbdoicgdmliaaDoorChecked
set_option linter.unusedVariables false
set_option maxRecDepth 100000
namespace Go.Proofs.YtigbdoicgdmliaaDoor.S04
open Go Go.Proofs Go.Shelf
def lays_tz_ren : Go.Shelf.Ren := ⟨fun | 29 => 68 | n => n, fun | 22 => 45 | 3 => 3 | 4 => 4 | 25 => 115 | 54 => 122 | 0 => 0 | 5 => 5 | n => n, fun | 1 => 0 | n => n⟩
theorem lays_tz : Go.Proofs.Lays7.n29 Tryd.prog lays_tz_ren where
  mixed := by kernel_rfl
  f29 := Tryd.func68.trans (congrArg some (by kernel_rfl))
  t0 := Tryd.underlying0
  a0 := Tryd.isAgg0
  z0 := Tryd.sizeOf0
  v0 := Tryd.zeroValue0
  i0 := by kernel_rfl
  t3 := Tryd.underlying3
  a3 := Tryd.isAgg3
  z3 := Tryd.sizeOf3
  v3 := Tryd.zeroValue3
  i3 := by kernel_rfl
  t4 := Tryd.underlying4
  a4 := Tryd.isAgg4
  z4 := Tryd.sizeOf4
  v4 := Tryd.zeroValue4
  i4 := by kernel_rfl
  t5 := Tryd.underlying5
  a5 := Tryd.isAgg5
  z5 := Tryd.sizeOf5
  v5 := Tryd.zeroValue5
  i5 := by kernel_rfl
  t22 := Tryd.underlying45
  a22 := Tryd.isAgg45
  z22 := Tryd.sizeOf45
  v22 := Tryd.zeroValue45
  i22 := by kernel_rfl
  t25 := Tryd.underlying115
  a25 := Tryd.isAgg115
  z25 := Tryd.sizeOf115
  v25 := Tryd.zeroValue115
  i25 := by kernel_rfl
  t54 := Tryd.underlying122
  a54 := Tryd.isAgg122
  z54 := Tryd.sizeOf122
  g1 := by kernel_rfl
end Go.Proofs.YtigbdoicgdmliaaDoor.S04

