/- bits.Len64 of the library, laid in plain words. Conditions: none. -/
import Derived.Test.YtodmhdfenpkbdaaGreatFs
import Derived.Shelf.Strconv.Itoa0
set_option linter.unusedVariables false
namespace Go.Proofs
open Go.Shelf
def Tryz.len64_ren : Go.Shelf.Ren := ⟨fun | 129 => 294 | n => n, fun | 53 => 218 | 3 => 3 | 4 => 4 | 46 => 340 | 5 => 5 | 9 => 9 | n => n, fun | n => n⟩
theorem Tryz.len64 : Go.Proofs.Lays.n129 Tryz.prog Tryz.len64_ren := {
  mixed := by kernel_rfl
  f129 := Tryz.func294.trans (congrArg some (by kernel_rfl))
  t3 := Tryz.underlying3
  a3 := Tryz.isAgg3
  z3 := Tryz.sizeOf3
  v3 := Tryz.zeroValue3
  t4 := Tryz.underlying4
  a4 := Tryz.isAgg4
  z4 := Tryz.sizeOf4
  v4 := Tryz.zeroValue4
  t5 := Tryz.underlying5
  a5 := Tryz.isAgg5
  z5 := Tryz.sizeOf5
  v5 := Tryz.zeroValue5
  t9 := Tryz.underlying9
  a9 := Tryz.isAgg9
  z9 := Tryz.sizeOf9
  v9 := Tryz.zeroValue9
  t46 := Tryz.underlying340
  a46 := Tryz.isAgg340
  z46 := Tryz.sizeOf340
  v46 := Tryz.zeroValue340
  t53 := Tryz.underlying218
  a53 := Tryz.isAgg218
  z53 := Tryz.sizeOf218
  v53 := Tryz.zeroValue218 }
end Go.Proofs
