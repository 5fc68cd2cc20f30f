/- The shelf's layings for slices.Sorted and the iterator of maps.Keys, in plain words, as the kit's own tools (shelf_lay_g, lay-plain) write them at this dump. -/
import Derived.Shelf.SlIterI.Sorted
import Derived.Shelf.SlGeneric
import Derived.Test.YtnooagipikedeaaProg
namespace Go.Proofs
open Go.Shelf
def Try.sortedG_ren : Go.Shelf.Ren := ⟨fun | 6 => 29 | 8 => 38 | 9 => 39 | 11 => 51 | 13 => 45 | 12 => 52 | 23 => 67 | 24 => 68 | 14 => 75 | 15 => 76 | 16 => 77 | 17 => 78 | 18 => 79 | 19 => 80 | 20 => 81 | 21 => 82 | 22 => 83 | 25 => 95 | 26 => 87 | 27 => 88 | 28 => 96 | 29 => 97 | 30 => 98 | 31 => 104 | n => n, fun | 26 => 3 | 28 => 56 | 24 => 29 | 0 => 0 | 3 => 3 | 37 => 68 | 48 => 85 | 50 => 87 | 4 => 4 | 40 => 78 | 39 => 77 | 45 => 61 | 5 => 5 | 9 => 9 | 51 => 97 | 55 => 101 | 57 => 108 | 58 => 109 | 33 => 63 | n => n, fun | n => n⟩
theorem Try.sortedG : Go.Proofs.SlLaysZI.n6 Try.prog Try.sortedG_ren := {
  mixed := by kernel_rfl
  f6 := ⟨Try.f29.name, by decide, Try.func29.trans (congrArg some (by kernel_rfl))⟩
  f8 := ⟨Try.f38.name, by decide, Try.func38.trans (congrArg some (by kernel_rfl))⟩
  f11 := ⟨Try.f51.name, by decide, Try.func51.trans (congrArg some (by kernel_rfl))⟩
  t0 := Try.underlying0
  a0 := Try.isAgg0
  z0 := Try.sizeOf0
  v0 := Try.zeroValue0
  t24 := Try.underlying29
  a24 := Try.isAgg29
  z24 := Try.sizeOf29
  v24 := Try.zeroValue29
  t26 := Try.underlying3
  a26 := Try.isAgg3
  z26 := Try.sizeOf3
  v26 := Try.zeroValue3
  t28 := Try.underlying56
  a28 := Try.isAgg56
  z28 := Try.sizeOf56
  v28 := Try.zeroValue56
  i26 := by kernel_rfl }
def Try.keysG_ren : Go.Shelf.Ren := ⟨fun | 10 => 40 | n => n, fun | 33 => 63 | 23 => 51 | 0 => 0 | 4 => 4 | 26 => 3 | 3 => 4 | n => n, fun | n => n⟩
theorem Try.keysG : Go.Proofs.SlLaysZI.n10 Try.prog Try.keysG_ren := {
  mixed := by kernel_rfl
  f10 := ⟨Try.f40.name, by decide, Try.func40.trans (congrArg some (by kernel_rfl))⟩
  t0 := Try.underlying0
  a0 := Try.isAgg0
  z0 := Try.sizeOf0
  v0 := Try.zeroValue0
  t4 := Try.underlying4
  a4 := Try.isAgg4
  z4 := Try.sizeOf4
  v4 := Try.zeroValue4
  t23 := Try.underlying51
  a23 := Try.isAgg51
  z23 := Try.sizeOf51
  v23 := Try.zeroValue51
  t26 := Try.underlying3
  a26 := Try.isAgg3
  z26 := Try.sizeOf3
  v26 := Try.zeroValue3
  t33 := Try.underlying63
  a33 := Try.isAgg63
  z33 := Try.sizeOf63
  v33 := Try.zeroValue63 }
end Go.Proofs
