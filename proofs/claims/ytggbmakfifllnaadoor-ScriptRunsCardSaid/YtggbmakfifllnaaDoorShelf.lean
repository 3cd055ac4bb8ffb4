/- Functions of the library at this seat: what the shelf says of them, in plain words (written by the kit's lay-plain). -/
import Derived.Shelf.Strings.Search1
import Derived.Test.YtggbmakfifllnaaDoorGenC
namespace Go.Proofs
open Go.Shelf
def Tryd.layIndexByte_ren : Go.Shelf.Ren := ⟨fun | 217 => 61 | 266 => 66 | n => n, fun | 9 => 9 | 5 => 5 | 3 => 3 | n => n, fun | n => n⟩
theorem Tryd.layIndexByte : Go.Proofs.Lays.n217 Tryd.prog Tryd.layIndexByte_ren := {
  mixed := by kernel_rfl
  f217 := Tryd.func61.trans (congrArg some (by kernel_rfl))
  f266 := Tryd.func66.trans (congrArg some (by kernel_rfl))
  t3 := Tryd.underlying3
  a3 := Tryd.isAgg3
  z3 := Tryd.sizeOf3
  v3 := Tryd.zeroValue3
  t5 := Tryd.underlying5
  a5 := Tryd.isAgg5
  z5 := Tryd.sizeOf5
  v5 := Tryd.zeroValue5
  t9 := Tryd.underlying9
  a9 := Tryd.isAgg9
  z9 := Tryd.sizeOf9
  v9 := Tryd.zeroValue9 }
end Go.Proofs
