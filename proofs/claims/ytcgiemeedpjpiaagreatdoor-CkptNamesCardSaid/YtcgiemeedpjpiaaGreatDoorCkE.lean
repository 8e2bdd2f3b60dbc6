/- The shelf's structures at this program: maps.Keys, slices.Sorted, slices.Sort; the interpreter with slices.Sorted(maps.Keys(m)) by its contract. -/
import Derived.Test.YtcgiemeedpjpiaaGreatDoorRows
import Derived.Test.YtcgiemeedpjpiaaGreatDoorAbU
import Derived.Shelf.SortM.Plain
import Derived.Shelf.SortM.SortNone
import Derived.WalkKit
namespace Go.Proofs.YtcgiemeedpjpiaaGreatDoor
open Go.RowKit Go.Maps Go.Sort Go.Shelf Go.Proofs

def keys_ren : Go.Shelf.Ren := ⟨fun | 10 => 395 | n => n, fun | 33 => 179 | 23 => 173 | 0 => 0 | 4 => 4 | 26 => 3 | 3 => 191 | n => n, fun | n => n⟩
theorem keys : SlLaysZI.n10 Tryz.prog keys_ren where
  mixed := by kernel_rfl
  f10 := ⟨"maps.Keys[map[int]carryall/tree.proc,int,carryall/tree.proc]$1", by decide, Tryz.func395.trans (congrArg some (by kernel_rfl))⟩
  t0 := Tryz.underlying0
  a0 := Tryz.isAgg0
  z0 := Tryz.sizeOf0
  v0 := Tryz.zeroValue0
  t4 := Tryz.underlying4
  a4 := Tryz.isAgg4
  z4 := Tryz.sizeOf4
  v4 := Tryz.zeroValue4
  t23 := Tryz.underlying173
  a23 := Tryz.isAgg173
  z23 := Tryz.sizeOf173
  v23 := Tryz.zeroValue173
  t26 := Tryz.underlying3
  a26 := Tryz.isAgg3
  z26 := Tryz.sizeOf3
  v26 := Tryz.zeroValue3
  t33 := Tryz.underlying179
  a33 := Tryz.isAgg179
  z33 := Tryz.sizeOf179
  v33 := Tryz.zeroValue179
def sorted_ren : Go.Shelf.Ren := ⟨fun | 6 => 259 | 8 => 326 | 9 => 195 | 11 => 374 | 13 => 267 | 12 => 266 | 23 => 342 | 24 => 343 | 14 => 333 | 15 => 334 | 16 => 335 | 17 => 336 | 18 => 337 | 19 => 338 | 20 => 339 | 21 => 340 | 22 => 341 | 25 => 377 | 26 => 378 | 27 => 379 | 28 => 380 | 29 => 381 | 30 => 382 | 31 => 396 | n => n, fun | 26 => 3 | 28 => 99 | 24 => 29 | 0 => 0 | 3 => 3 | 37 => 209 | 48 => 45 | 50 => 261 | 4 => 4 | 40 => 449 | 39 => 448 | 45 => 149 | 5 => 5 | 9 => 9 | 51 => 481 | 55 => 286 | 57 => 495 | 58 => 496 | 33 => 179 | n => n, fun | n => n⟩
theorem sorted : SlLaysZI.n6 Tryz.prog sorted_ren where
  mixed := by kernel_rfl
  f6 := ⟨"slices.Sorted[int]", by decide, Tryz.func259.trans (congrArg some (by kernel_rfl))⟩
  f8 := ⟨"slices.Collect[int]", by decide, Tryz.func326.trans (congrArg some (by kernel_rfl))⟩
  f11 := ⟨"slices.AppendSeq[[]int,int]", by decide, Tryz.func374.trans (congrArg some (by kernel_rfl))⟩
  t0 := Tryz.underlying0
  a0 := Tryz.isAgg0
  z0 := Tryz.sizeOf0
  v0 := Tryz.zeroValue0
  t24 := Tryz.underlying29
  a24 := Tryz.isAgg29
  z24 := Tryz.sizeOf29
  v24 := Tryz.zeroValue29
  t26 := Tryz.underlying3
  a26 := Tryz.isAgg3
  z26 := Tryz.sizeOf3
  v26 := Tryz.zeroValue3
  t28 := Tryz.underlying99
  a28 := Tryz.isAgg99
  z28 := Tryz.sizeOf99
  v28 := Tryz.zeroValue99
  i26 := by kernel_rfl
def sort_ren : Go.Shelf.Ren := ⟨fun | 5 => 195 | 8 => 267 | 7 => 266 | 19 => 342 | 20 => 343 | 10 => 333 | 11 => 334 | 12 => 335 | 13 => 336 | 14 => 337 | 15 => 338 | 16 => 339 | 17 => 340 | 18 => 341 | 30 => 377 | 31 => 378 | 32 => 379 | 33 => 380 | 34 => 381 | 35 => 382 | 40 => 396 | n => n, fun | 23 => 29 | 25 => 3 | 3 => 3 | 32 => 209 | 22 => 29 | 0 => 0 | 44 => 45 | 46 => 261 | 4 => 4 | 36 => 449 | 35 => 448 | 41 => 149 | 5 => 5 | 9 => 9 | 53 => 481 | 57 => 286 | 63 => 495 | 64 => 496 | n => n, fun | n => n⟩
theorem sort : SlLaysM.n5 Tryz.prog sort_ren where
  mixed := by kernel_rfl
  f5 := ⟨"slices.Sort[[]int,int]", by decide, Tryz.func195.trans (congrArg some (by kernel_rfl))⟩
  f7 := ⟨"slices.pdqsortOrdered[int]", by decide, Tryz.func266.trans (congrArg some (by kernel_rfl))⟩
  f8 := Tryz.func267.trans (congrArg some (by kernel_rfl))
  f10 := ⟨"slices.insertionSortOrdered[int]", by decide, Tryz.func333.trans (congrArg some (by kernel_rfl))⟩
  f11 := ⟨"slices.heapSortOrdered[int]", by decide, Tryz.func334.trans (congrArg some (by kernel_rfl))⟩
  f12 := ⟨"slices.breakPatternsOrdered[int]", by decide, Tryz.func335.trans (congrArg some (by kernel_rfl))⟩
  f13 := ⟨"slices.choosePivotOrdered[int]", by decide, Tryz.func336.trans (congrArg some (by kernel_rfl))⟩
  f14 := ⟨"slices.reverseRangeOrdered[int]", by decide, Tryz.func337.trans (congrArg some (by kernel_rfl))⟩
  f15 := ⟨"slices.partialInsertionSortOrdered[int]", by decide, Tryz.func338.trans (congrArg some (by kernel_rfl))⟩
  f16 := ⟨"cmp.Less[int]", by decide, Tryz.func339.trans (congrArg some (by kernel_rfl))⟩
  f17 := ⟨"slices.partitionEqualOrdered[int]", by decide, Tryz.func340.trans (congrArg some (by kernel_rfl))⟩
  f18 := ⟨"slices.partitionOrdered[int]", by decide, Tryz.func341.trans (congrArg some (by kernel_rfl))⟩
  f19 := Tryz.func342.trans (congrArg some (by kernel_rfl))
  f20 := Tryz.func343.trans (congrArg some (by kernel_rfl))
  f30 := ⟨"slices.siftDownOrdered[int]", by decide, Tryz.func377.trans (congrArg some (by kernel_rfl))⟩
  f31 := Tryz.func378.trans (congrArg some (by kernel_rfl))
  f32 := Tryz.func379.trans (congrArg some (by kernel_rfl))
  f33 := ⟨"slices.medianAdjacentOrdered[int]", by decide, Tryz.func380.trans (congrArg some (by kernel_rfl))⟩
  f34 := ⟨"slices.medianOrdered[int]", by decide, Tryz.func381.trans (congrArg some (by kernel_rfl))⟩
  f35 := ⟨"cmp.isNaN[int]", by decide, Tryz.func382.trans (congrArg some (by kernel_rfl))⟩
  f40 := ⟨"slices.order2Ordered[int]", by decide, Tryz.func396.trans (congrArg some (by kernel_rfl))⟩
  t0 := Tryz.underlying0
  a0 := Tryz.isAgg0
  z0 := Tryz.sizeOf0
  v0 := Tryz.zeroValue0
  t3 := Tryz.underlying3
  a3 := Tryz.isAgg3
  z3 := Tryz.sizeOf3
  v3 := Tryz.zeroValue3
  t4 := Tryz.underlying4
  a4 := Tryz.isAgg4
  z4 := Tryz.sizeOf4
  v4 := Tryz.zeroValue4
  t5 := Tryz.underlying5
  a5 := Tryz.isAgg5
  z5 := Tryz.sizeOf5
  v5 := Tryz.zeroValue5
  t9 := Tryz.underlying9
  a9 := Tryz.isAgg9
  z9 := Tryz.sizeOf9
  v9 := Tryz.zeroValue9
  t22 := Tryz.underlying29
  a22 := Tryz.isAgg29
  z22 := Tryz.sizeOf29
  v22 := Tryz.zeroValue29
  t23 := Tryz.underlying29
  a23 := Tryz.isAgg29
  z23 := Tryz.sizeOf29
  v23 := Tryz.zeroValue29
  t25 := Tryz.underlying3
  a25 := Tryz.isAgg3
  z25 := Tryz.sizeOf3
  v25 := Tryz.zeroValue3
  t32 := Tryz.underlying209
  a32 := Tryz.isAgg209
  z32 := Tryz.sizeOf209
  v32 := Tryz.zeroValue209
  t35 := Tryz.underlying448
  a35 := Tryz.isAgg448
  z35 := Tryz.sizeOf448
  v35 := Tryz.zeroValue448
  t36 := Tryz.underlying449
  a36 := Tryz.isAgg449
  z36 := Tryz.sizeOf449
  v36 := Tryz.zeroValue449
  t41 := Tryz.underlying149
  a41 := Tryz.isAgg149
  z41 := Tryz.sizeOf149
  v41 := Tryz.zeroValue149
  t44 := Tryz.underlying45
  a44 := Tryz.isAgg45
  z44 := Tryz.sizeOf45
  v44 := Tryz.zeroValue45
  t46 := Tryz.underlying261
  a46 := Tryz.isAgg261
  z46 := Tryz.sizeOf261
  v46 := Tryz.zeroValue261
  t53 := Tryz.underlying481
  a53 := Tryz.isAgg481
  z53 := Tryz.sizeOf481
  v53 := Tryz.zeroValue481
  t57 := Tryz.underlying286
  a57 := Tryz.isAgg286
  z57 := Tryz.sizeOf286
  v57 := Tryz.zeroValue286
  t63 := Tryz.underlying495
  a63 := Tryz.isAgg495
  z63 := Tryz.sizeOf495
  v63 := Tryz.zeroValue495
  t64 := Tryz.underlying496
  a64 := Tryz.isAgg496
  z64 := Tryz.sizeOf496
  v64 := Tryz.zeroValue496

theorem sorts (m : Nat) : AnyZI.SortsIn Tryz.prog sorted_ren Fence.wide m :=
  ⟨fun blk off cap ss W hH hblk hsz => callsIn_wide.2 (AnyM.slices_Sort_int sort blk off cap ss W hH hblk hsz),
   fun p cap W => callsIn_wide.2 (AnyM.slices_Sort_int_none sort p cap W)⟩

theorem E_sure {σ : Ab.Sig} : Ab.Sure σ (Ab.envS Tryz.prog 259 395) :=
  Ab.envS_sure (ρk := keys_ren) (ρs := sorted_ren) (by kernel_rfl) keys sorted (sorts 4) (enters_of Tryz.func195 (by kernel_rfl) rfl) (enters_of Tryz.func395 (by kernel_rfl) rfl)
end Go.Proofs.YtcgiemeedpjpiaaGreatDoor
