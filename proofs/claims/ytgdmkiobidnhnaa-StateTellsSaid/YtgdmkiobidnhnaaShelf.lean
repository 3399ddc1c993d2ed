/-
  The library's Insert, Delete and BinarySearch stand in this program. Conditions: none.
-/
import Derived.Shelf.Slices.Cells
import Derived.Shelf.Spec.SlicesInsert
import Derived.Shelf.Spec.SlicesInsertGrow
import Derived.Shelf.Spec.SearchS
import Derived.Test.YtgdmkiobidnhnaaProg
namespace Go.Proofs.Ytgdmkiobidnhnaa
open Go.Shelf
def Try.lays2_22_ren : Go.Shelf.Ren := ⟨fun | 22 => 55 | 29 => 71 | 30 => 72 | 36 => 81 | 17 => 84 | n => n, fun | 24 => 26 | 9 => 9 | 3 => 3 | 4 => 4 | 0 => 0 | n => n, fun | n => n⟩
theorem Try.lays2_22 : Go.Proofs.Lays2.n22 Try.prog Try.lays2_22_ren := {
  mixed := by kernel_rfl
  f17 := Try.func84.trans (congrArg some (by kernel_rfl))
  f22 := Try.func55.trans (congrArg some (by kernel_rfl))
  f29 := Try.func71.trans (congrArg some (by kernel_rfl))
  f30 := Try.func72.trans (congrArg some (by kernel_rfl))
  f36 := Try.func81.trans (congrArg some (by kernel_rfl))
  t0 := Try.underlying0
  a0 := Try.isAgg0
  z0 := Try.sizeOf0
  v0 := Try.zeroValue0
  t3 := Try.underlying3
  a3 := Try.isAgg3
  z3 := Try.sizeOf3
  v3 := Try.zeroValue3
  t4 := Try.underlying4
  a4 := Try.isAgg4
  z4 := Try.sizeOf4
  v4 := Try.zeroValue4
  t9 := Try.underlying9
  a9 := Try.isAgg9
  z9 := Try.sizeOf9
  v9 := Try.zeroValue9
  t24 := Try.underlying26
  a24 := Try.isAgg26
  z24 := Try.sizeOf26
  v24 := Try.zeroValue26
  i9 := by kernel_rfl }
def Try.lays2_21_ren : Go.Shelf.Ren := ⟨fun | 21 => 82 | 27 => 85 | 28 => 86 | 35 => 87 | 39 => 88 | n => n, fun | 22 => 101 | 3 => 3 | 4 => 4 | 0 => 0 | n => n, fun | n => n⟩
theorem Try.lays2_21 : Go.Proofs.Lays2.n21 Try.prog Try.lays2_21_ren := {
  mixed := by kernel_rfl
  f21 := Try.func82.trans (congrArg some (by kernel_rfl))
  f27 := Try.func85.trans (congrArg some (by kernel_rfl))
  f28 := Try.func86.trans (congrArg some (by kernel_rfl))
  f35 := Try.func87.trans (congrArg some (by kernel_rfl))
  f39 := Try.func88.trans (congrArg some (by kernel_rfl))
  t0 := Try.underlying0
  a0 := Try.isAgg0
  z0 := Try.sizeOf0
  v0 := Try.zeroValue0
  t3 := Try.underlying3
  a3 := Try.isAgg3
  z3 := Try.sizeOf3
  v3 := Try.zeroValue3
  t4 := Try.underlying4
  a4 := Try.isAgg4
  z4 := Try.sizeOf4
  v4 := Try.zeroValue4
  t22 := Try.underlying101
  a22 := Try.isAgg101
  z22 := Try.sizeOf101
  v22 := Try.zeroValue101
  i3 := by kernel_rfl }
def Try.lays2_24_ren : Go.Shelf.Ren := ⟨fun | 24 => 56 | n => n, fun | 24 => 26 | 9 => 9 | 3 => 3 | 4 => 4 | 0 => 0 | n => n, fun | n => n⟩
theorem Try.lays2_24 : Go.Proofs.Lays2.n24 Try.prog Try.lays2_24_ren := {
  mixed := by kernel_rfl
  f24 := Try.func56.trans (congrArg some (by kernel_rfl))
  t0 := Try.underlying0
  a0 := Try.isAgg0
  z0 := Try.sizeOf0
  v0 := Try.zeroValue0
  t3 := Try.underlying3
  a3 := Try.isAgg3
  z3 := Try.sizeOf3
  v3 := Try.zeroValue3
  t4 := Try.underlying4
  a4 := Try.isAgg4
  z4 := Try.sizeOf4
  v4 := Try.zeroValue4
  t9 := Try.underlying9
  a9 := Try.isAgg9
  z9 := Try.sizeOf9
  v9 := Try.zeroValue9
  t24 := Try.underlying26
  a24 := Try.isAgg26
  z24 := Try.sizeOf26
  v24 := Try.zeroValue26
  i9 := by kernel_rfl }
def Try.lays2_26_ren : Go.Shelf.Ren := ⟨fun | 26 => 54 | 33 => 69 | 34 => 70 | 38 => 80 | n => n, fun | 24 => 26 | 9 => 9 | 3 => 3 | 4 => 4 | 40 => 89 | 0 => 0 | n => n, fun | n => n⟩
theorem Try.lays2_26 : Go.Proofs.Lays2.n26 Try.prog Try.lays2_26_ren := {
  mixed := by kernel_rfl
  f26 := Try.func54.trans (congrArg some (by kernel_rfl))
  f33 := Try.func69.trans (congrArg some (by kernel_rfl))
  f34 := Try.func70.trans (congrArg some (by kernel_rfl))
  f38 := Try.func80.trans (congrArg some (by kernel_rfl))
  t0 := Try.underlying0
  a0 := Try.isAgg0
  z0 := Try.sizeOf0
  v0 := Try.zeroValue0
  t3 := Try.underlying3
  a3 := Try.isAgg3
  z3 := Try.sizeOf3
  v3 := Try.zeroValue3
  t4 := Try.underlying4
  a4 := Try.isAgg4
  z4 := Try.sizeOf4
  v4 := Try.zeroValue4
  t9 := Try.underlying9
  a9 := Try.isAgg9
  z9 := Try.sizeOf9
  v9 := Try.zeroValue9
  t24 := Try.underlying26
  a24 := Try.isAgg26
  z24 := Try.sizeOf26
  v24 := Try.zeroValue26
  t40 := Try.underlying89
  a40 := Try.isAgg89
  z40 := Try.sizeOf89
  v40 := Try.zeroValue89 }
end Go.Proofs.Ytgdmkiobidnhnaa
