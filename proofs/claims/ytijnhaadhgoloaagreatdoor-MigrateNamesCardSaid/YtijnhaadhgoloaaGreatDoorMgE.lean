/- The shelf's structures at this program: maps.Keys, slices.Sorted, slices.Sort; the interpreter with slices.Sorted(maps.Keys(m)) by its contract. -/
import Derived.Test.YtijnhaadhgoloaaGreatDoorRows
import Derived.Test.YtijnhaadhgoloaaGreatDoorAbU
import Derived.Shelf.SortM.Plain
import Derived.Shelf.SortM.SortNone
import Derived.WalkKit
namespace Go.Proofs.YtijnhaadhgoloaaGreatDoor
open Go.RowKit Go.Maps Go.Sort Go.Shelf Go.Proofs

def keys_ren : Go.Shelf.Ren := ⟨fun | 10 => 374 | n => n, fun | 33 => 161 | 23 => 181 | 0 => 0 | 4 => 4 | 26 => 3 | 3 => 180 | n => n, fun | n => n⟩
theorem keys : SlLaysZI.n10 Tryz.prog keys_ren where
  mixed := by kernel_rfl
  f10 := ⟨"maps.Keys[map[int]carryall/tree.proc,int,carryall/tree.proc]$1", by decide, Tryz.func374.trans (congrArg some (by kernel_rfl))⟩
  t0 := Tryz.underlying0
  a0 := Tryz.isAgg0
  z0 := Tryz.sizeOf0
  v0 := Tryz.zeroValue0
  t4 := Tryz.underlying4
  a4 := Tryz.isAgg4
  z4 := Tryz.sizeOf4
  v4 := Tryz.zeroValue4
  t23 := Tryz.underlying181
  a23 := Tryz.isAgg181
  z23 := Tryz.sizeOf181
  v23 := Tryz.zeroValue181
  t26 := Tryz.underlying3
  a26 := Tryz.isAgg3
  z26 := Tryz.sizeOf3
  v26 := Tryz.zeroValue3
  t33 := Tryz.underlying161
  a33 := Tryz.isAgg161
  z33 := Tryz.sizeOf161
  v33 := Tryz.zeroValue161
def sorted_ren : Go.Shelf.Ren := ⟨fun | 6 => 227 | 8 => 297 | 9 => 176 | 11 => 353 | 13 => 66 | 12 => 241 | 23 => 129 | 24 => 130 | 14 => 309 | 15 => 310 | 16 => 311 | 17 => 312 | 18 => 313 | 19 => 314 | 20 => 315 | 21 => 316 | 22 => 317 | 25 => 358 | 26 => 185 | 27 => 186 | 28 => 359 | 29 => 360 | 30 => 67 | 31 => 375 | n => n, fun | 26 => 3 | 28 => 217 | 24 => 64 | 0 => 0 | 3 => 3 | 37 => 160 | 48 => 28 | 50 => 251 | 4 => 4 | 40 => 245 | 39 => 244 | 45 => 93 | 5 => 5 | 9 => 9 | 51 => 318 | 55 => 260 | 57 => 364 | 58 => 365 | 33 => 161 | n => n, fun | n => n⟩
theorem sorted : SlLaysZI.n6 Tryz.prog sorted_ren where
  mixed := by kernel_rfl
  f6 := ⟨"slices.Sorted[int]", by decide, Tryz.func227.trans (congrArg some (by kernel_rfl))⟩
  f8 := ⟨"slices.Collect[int]", by decide, Tryz.func297.trans (congrArg some (by kernel_rfl))⟩
  f11 := ⟨"slices.AppendSeq[[]int,int]", by decide, Tryz.func353.trans (congrArg some (by kernel_rfl))⟩
  t0 := Tryz.underlying0
  a0 := Tryz.isAgg0
  z0 := Tryz.sizeOf0
  v0 := Tryz.zeroValue0
  t24 := Tryz.underlying64
  a24 := Tryz.isAgg64
  z24 := Tryz.sizeOf64
  v24 := Tryz.zeroValue64
  t26 := Tryz.underlying3
  a26 := Tryz.isAgg3
  z26 := Tryz.sizeOf3
  v26 := Tryz.zeroValue3
  t28 := Tryz.underlying217
  a28 := Tryz.isAgg217
  z28 := Tryz.sizeOf217
  v28 := Tryz.zeroValue217
  i26 := by kernel_rfl
def sort_ren : Go.Shelf.Ren := ⟨fun | 5 => 176 | 8 => 66 | 7 => 241 | 19 => 129 | 20 => 130 | 10 => 309 | 11 => 310 | 12 => 311 | 13 => 312 | 14 => 313 | 15 => 314 | 16 => 315 | 17 => 316 | 18 => 317 | 30 => 358 | 31 => 185 | 32 => 186 | 33 => 359 | 34 => 360 | 35 => 67 | 40 => 375 | n => n, fun | 23 => 64 | 25 => 3 | 3 => 3 | 32 => 160 | 22 => 64 | 0 => 0 | 44 => 28 | 46 => 251 | 4 => 4 | 36 => 245 | 35 => 244 | 41 => 93 | 5 => 5 | 9 => 9 | 53 => 318 | 57 => 260 | 63 => 364 | 64 => 365 | n => n, fun | n => n⟩
theorem sort : SlLaysM.n5 Tryz.prog sort_ren where
  mixed := by kernel_rfl
  f5 := ⟨"slices.Sort[[]int,int]", by decide, Tryz.func176.trans (congrArg some (by kernel_rfl))⟩
  f7 := ⟨"slices.pdqsortOrdered[int]", by decide, Tryz.func241.trans (congrArg some (by kernel_rfl))⟩
  f8 := Tryz.func66.trans (congrArg some (by kernel_rfl))
  f10 := ⟨"slices.insertionSortOrdered[int]", by decide, Tryz.func309.trans (congrArg some (by kernel_rfl))⟩
  f11 := ⟨"slices.heapSortOrdered[int]", by decide, Tryz.func310.trans (congrArg some (by kernel_rfl))⟩
  f12 := ⟨"slices.breakPatternsOrdered[int]", by decide, Tryz.func311.trans (congrArg some (by kernel_rfl))⟩
  f13 := ⟨"slices.choosePivotOrdered[int]", by decide, Tryz.func312.trans (congrArg some (by kernel_rfl))⟩
  f14 := ⟨"slices.reverseRangeOrdered[int]", by decide, Tryz.func313.trans (congrArg some (by kernel_rfl))⟩
  f15 := ⟨"slices.partialInsertionSortOrdered[int]", by decide, Tryz.func314.trans (congrArg some (by kernel_rfl))⟩
  f16 := ⟨"cmp.Less[int]", by decide, Tryz.func315.trans (congrArg some (by kernel_rfl))⟩
  f17 := ⟨"slices.partitionEqualOrdered[int]", by decide, Tryz.func316.trans (congrArg some (by kernel_rfl))⟩
  f18 := ⟨"slices.partitionOrdered[int]", by decide, Tryz.func317.trans (congrArg some (by kernel_rfl))⟩
  f19 := Tryz.func129.trans (congrArg some (by kernel_rfl))
  f20 := Tryz.func130.trans (congrArg some (by kernel_rfl))
  f30 := ⟨"slices.siftDownOrdered[int]", by decide, Tryz.func358.trans (congrArg some (by kernel_rfl))⟩
  f31 := Tryz.func185.trans (congrArg some (by kernel_rfl))
  f32 := Tryz.func186.trans (congrArg some (by kernel_rfl))
  f33 := ⟨"slices.medianAdjacentOrdered[int]", by decide, Tryz.func359.trans (congrArg some (by kernel_rfl))⟩
  f34 := ⟨"slices.medianOrdered[int]", by decide, Tryz.func360.trans (congrArg some (by kernel_rfl))⟩
  f35 := ⟨"cmp.isNaN[int]", by decide, Tryz.func67.trans (congrArg some (by kernel_rfl))⟩
  f40 := ⟨"slices.order2Ordered[int]", by decide, Tryz.func375.trans (congrArg some (by kernel_rfl))⟩
  t0 := Tryz.underlying0
  a0 := Tryz.isAgg0
  z0 := Tryz.sizeOf0
  v0 := Tryz.zeroValue0
  t3 := Tryz.underlying3
  a3 := Tryz.isAgg3
  z3 := Tryz.sizeOf3
  v3 := Tryz.zeroValue3
  t4 := Tryz.underlying4
  a4 := Tryz.isAgg4
  z4 := Tryz.sizeOf4
  v4 := Tryz.zeroValue4
  t5 := Tryz.underlying5
  a5 := Tryz.isAgg5
  z5 := Tryz.sizeOf5
  v5 := Tryz.zeroValue5
  t9 := Tryz.underlying9
  a9 := Tryz.isAgg9
  z9 := Tryz.sizeOf9
  v9 := Tryz.zeroValue9
  t22 := Tryz.underlying64
  a22 := Tryz.isAgg64
  z22 := Tryz.sizeOf64
  v22 := Tryz.zeroValue64
  t23 := Tryz.underlying64
  a23 := Tryz.isAgg64
  z23 := Tryz.sizeOf64
  v23 := Tryz.zeroValue64
  t25 := Tryz.underlying3
  a25 := Tryz.isAgg3
  z25 := Tryz.sizeOf3
  v25 := Tryz.zeroValue3
  t32 := Tryz.underlying160
  a32 := Tryz.isAgg160
  z32 := Tryz.sizeOf160
  v32 := Tryz.zeroValue160
  t35 := Tryz.underlying244
  a35 := Tryz.isAgg244
  z35 := Tryz.sizeOf244
  v35 := Tryz.zeroValue244
  t36 := Tryz.underlying245
  a36 := Tryz.isAgg245
  z36 := Tryz.sizeOf245
  v36 := Tryz.zeroValue245
  t41 := Tryz.underlying93
  a41 := Tryz.isAgg93
  z41 := Tryz.sizeOf93
  v41 := Tryz.zeroValue93
  t44 := Tryz.underlying28
  a44 := Tryz.isAgg28
  z44 := Tryz.sizeOf28
  v44 := Tryz.zeroValue28
  t46 := Tryz.underlying251
  a46 := Tryz.isAgg251
  z46 := Tryz.sizeOf251
  v46 := Tryz.zeroValue251
  t53 := Tryz.underlying318
  a53 := Tryz.isAgg318
  z53 := Tryz.sizeOf318
  v53 := Tryz.zeroValue318
  t57 := Tryz.underlying260
  a57 := Tryz.isAgg260
  z57 := Tryz.sizeOf260
  v57 := Tryz.zeroValue260
  t63 := Tryz.underlying364
  a63 := Tryz.isAgg364
  z63 := Tryz.sizeOf364
  v63 := Tryz.zeroValue364
  t64 := Tryz.underlying365
  a64 := Tryz.isAgg365
  z64 := Tryz.sizeOf365
  v64 := Tryz.zeroValue365

theorem sorts (m : Nat) : AnyZI.SortsIn Tryz.prog sorted_ren Fence.wide m :=
  ⟨fun blk off cap ss W hH hblk hsz => callsIn_wide.2 (AnyM.slices_Sort_int sort blk off cap ss W hH hblk hsz),
   fun p cap W => callsIn_wide.2 (AnyM.slices_Sort_int_none sort p cap W)⟩

theorem E_sure {σ : Ab.Sig} : Ab.Sure σ (Ab.envS Tryz.prog 227 374) :=
  Ab.envS_sure (ρk := keys_ren) (ρs := sorted_ren) (by kernel_rfl) keys sorted (sorts 4) (enters_of Tryz.func176 (by kernel_rfl) rfl) (enters_of Tryz.func374 (by kernel_rfl) rfl)
end Go.Proofs.YtijnhaadhgoloaaGreatDoor
