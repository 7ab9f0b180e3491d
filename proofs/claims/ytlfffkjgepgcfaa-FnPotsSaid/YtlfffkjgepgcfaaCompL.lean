/-
  slices.Compact at []int64: its laying, the numbers written out (by the kit's program that writes layings in plain words). Conditions: none.
-/
import Derived.Shelf.SlLaysN
import Derived.Test.YtlfffkjgepgcfaaRows
namespace Go.Proofs.Ytlfffkjgepgcfaa.chance
open Go.Shelf
def compRen : Go.Shelf.Ren := ⟨fun | 43 => 73 | n => n, fun | 22 => 35 | 23 => 2 | 3 => 3 | 4 => 4 | 0 => 0 | n => n, fun | n => n⟩
theorem compL : Go.Proofs.SlLaysN.n43 Try.prog compRen := {
  mixed := by kernel_rfl
  f43 := ⟨Try.f73.name, by decide, Try.func73.trans (congrArg some (by kernel_rfl))⟩
  t0 := Try.underlying0
  a0 := Try.isAgg0
  z0 := Try.sizeOf0
  v0 := Try.zeroValue0
  t3 := Try.underlying3
  a3 := Try.isAgg3
  z3 := Try.sizeOf3
  v3 := Try.zeroValue3
  t4 := Try.underlying4
  a4 := Try.isAgg4
  z4 := Try.sizeOf4
  v4 := Try.zeroValue4
  t22 := Try.underlying35
  a22 := Try.isAgg35
  z22 := Try.sizeOf35
  v22 := Try.zeroValue35
  t23 := Try.underlying2
  a23 := Try.isAgg2
  z23 := Try.sizeOf2
  v23 := Try.zeroValue2
  i23 := by kernel_rfl }
end Go.Proofs.Ytlfffkjgepgcfaa.chance
