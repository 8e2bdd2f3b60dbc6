/- The shelf's structures at this program: maps.Keys, slices.Sorted, slices.Sort; the interpreter with slices.Sorted(maps.Keys(m)) by its contract. -/
import Derived.Test.YtmdneohkagkfpaaGreatDoorRows
import Derived.Test.YtmdneohkagkfpaaGreatDoorAbU
import Derived.Shelf.SortM.Plain
import Derived.Shelf.SortM.SortNone
import Derived.WalkKit
namespace Go.Proofs.YtmdneohkagkfpaaGreatDoor
open Go.RowKit Go.Maps Go.Sort Go.Shelf Go.Proofs

def keys_ren : Go.Shelf.Ren := ⟨fun | 10 => 154 | n => n, fun | 33 => 107 | 23 => 123 | 0 => 0 | 4 => 4 | 26 => 3 | 3 => 122 | n => n, fun | n => n⟩
theorem keys : SlLaysZI.n10 Tryz.prog keys_ren where
  mixed := by kernel_rfl
  f10 := ⟨"maps.Keys[map[int]carryall/tree.proc,int,carryall/tree.proc]$1", by decide, Tryz.func154.trans (congrArg some (by kernel_rfl))⟩
  t0 := Tryz.underlying0
  a0 := Tryz.isAgg0
  z0 := Tryz.sizeOf0
  v0 := Tryz.zeroValue0
  t4 := Tryz.underlying4
  a4 := Tryz.isAgg4
  z4 := Tryz.sizeOf4
  v4 := Tryz.zeroValue4
  t23 := Tryz.underlying123
  a23 := Tryz.isAgg123
  z23 := Tryz.sizeOf123
  v23 := Tryz.zeroValue123
  t26 := Tryz.underlying3
  a26 := Tryz.isAgg3
  z26 := Tryz.sizeOf3
  v26 := Tryz.zeroValue3
  t33 := Tryz.underlying107
  a33 := Tryz.isAgg107
  z33 := Tryz.sizeOf107
  v33 := Tryz.zeroValue107
def sorted_ren : Go.Shelf.Ren := ⟨fun | 6 => 84 | 8 => 153 | 9 => 134 | 11 => 225 | 13 => 206 | 12 => 205 | 23 => 262 | 24 => 263 | 14 => 253 | 15 => 254 | 16 => 255 | 17 => 256 | 18 => 257 | 19 => 258 | 20 => 259 | 21 => 260 | 22 => 261 | 25 => 285 | 26 => 286 | 27 => 287 | 28 => 288 | 29 => 289 | 30 => 290 | 31 => 304 | n => n, fun | 26 => 3 | 28 => 186 | 24 => 34 | 0 => 0 | 3 => 3 | 37 => 154 | 48 => 26 | 50 => 371 | 4 => 4 | 40 => 365 | 39 => 364 | 45 => 137 | 5 => 5 | 9 => 9 | 51 => 390 | 55 => 381 | 57 => 404 | 58 => 405 | 33 => 107 | n => n, fun | n => n⟩
theorem sorted : SlLaysZI.n6 Tryz.prog sorted_ren where
  mixed := by kernel_rfl
  f6 := ⟨"slices.Sorted[int]", by decide, Tryz.func84.trans (congrArg some (by kernel_rfl))⟩
  f8 := ⟨"slices.Collect[int]", by decide, Tryz.func153.trans (congrArg some (by kernel_rfl))⟩
  f11 := ⟨"slices.AppendSeq[[]int,int]", by decide, Tryz.func225.trans (congrArg some (by kernel_rfl))⟩
  t0 := Tryz.underlying0
  a0 := Tryz.isAgg0
  z0 := Tryz.sizeOf0
  v0 := Tryz.zeroValue0
  t24 := Tryz.underlying34
  a24 := Tryz.isAgg34
  z24 := Tryz.sizeOf34
  v24 := Tryz.zeroValue34
  t26 := Tryz.underlying3
  a26 := Tryz.isAgg3
  z26 := Tryz.sizeOf3
  v26 := Tryz.zeroValue3
  t28 := Tryz.underlying186
  a28 := Tryz.isAgg186
  z28 := Tryz.sizeOf186
  v28 := Tryz.zeroValue186
  i26 := by kernel_rfl
def sort_ren : Go.Shelf.Ren := ⟨fun | 5 => 134 | 8 => 206 | 7 => 205 | 19 => 262 | 20 => 263 | 10 => 253 | 11 => 254 | 12 => 255 | 13 => 256 | 14 => 257 | 15 => 258 | 16 => 259 | 17 => 260 | 18 => 261 | 30 => 285 | 31 => 286 | 32 => 287 | 33 => 288 | 34 => 289 | 35 => 290 | 40 => 304 | n => n, fun | 23 => 34 | 25 => 3 | 3 => 3 | 32 => 154 | 22 => 34 | 0 => 0 | 44 => 26 | 46 => 371 | 4 => 4 | 36 => 365 | 35 => 364 | 41 => 137 | 5 => 5 | 9 => 9 | 53 => 390 | 57 => 381 | 63 => 404 | 64 => 405 | n => n, fun | n => n⟩
theorem sort : SlLaysM.n5 Tryz.prog sort_ren where
  mixed := by kernel_rfl
  f5 := ⟨"slices.Sort[[]int,int]", by decide, Tryz.func134.trans (congrArg some (by kernel_rfl))⟩
  f7 := ⟨"slices.pdqsortOrdered[int]", by decide, Tryz.func205.trans (congrArg some (by kernel_rfl))⟩
  f8 := Tryz.func206.trans (congrArg some (by kernel_rfl))
  f10 := ⟨"slices.insertionSortOrdered[int]", by decide, Tryz.func253.trans (congrArg some (by kernel_rfl))⟩
  f11 := ⟨"slices.heapSortOrdered[int]", by decide, Tryz.func254.trans (congrArg some (by kernel_rfl))⟩
  f12 := ⟨"slices.breakPatternsOrdered[int]", by decide, Tryz.func255.trans (congrArg some (by kernel_rfl))⟩
  f13 := ⟨"slices.choosePivotOrdered[int]", by decide, Tryz.func256.trans (congrArg some (by kernel_rfl))⟩
  f14 := ⟨"slices.reverseRangeOrdered[int]", by decide, Tryz.func257.trans (congrArg some (by kernel_rfl))⟩
  f15 := ⟨"slices.partialInsertionSortOrdered[int]", by decide, Tryz.func258.trans (congrArg some (by kernel_rfl))⟩
  f16 := ⟨"cmp.Less[int]", by decide, Tryz.func259.trans (congrArg some (by kernel_rfl))⟩
  f17 := ⟨"slices.partitionEqualOrdered[int]", by decide, Tryz.func260.trans (congrArg some (by kernel_rfl))⟩
  f18 := ⟨"slices.partitionOrdered[int]", by decide, Tryz.func261.trans (congrArg some (by kernel_rfl))⟩
  f19 := Tryz.func262.trans (congrArg some (by kernel_rfl))
  f20 := Tryz.func263.trans (congrArg some (by kernel_rfl))
  f30 := ⟨"slices.siftDownOrdered[int]", by decide, Tryz.func285.trans (congrArg some (by kernel_rfl))⟩
  f31 := Tryz.func286.trans (congrArg some (by kernel_rfl))
  f32 := Tryz.func287.trans (congrArg some (by kernel_rfl))
  f33 := ⟨"slices.medianAdjacentOrdered[int]", by decide, Tryz.func288.trans (congrArg some (by kernel_rfl))⟩
  f34 := ⟨"slices.medianOrdered[int]", by decide, Tryz.func289.trans (congrArg some (by kernel_rfl))⟩
  f35 := ⟨"cmp.isNaN[int]", by decide, Tryz.func290.trans (congrArg some (by kernel_rfl))⟩
  f40 := ⟨"slices.order2Ordered[int]", by decide, Tryz.func304.trans (congrArg some (by kernel_rfl))⟩
  t0 := Tryz.underlying0
  a0 := Tryz.isAgg0
  z0 := Tryz.sizeOf0
  v0 := Tryz.zeroValue0
  t3 := Tryz.underlying3
  a3 := Tryz.isAgg3
  z3 := Tryz.sizeOf3
  v3 := Tryz.zeroValue3
  t4 := Tryz.underlying4
  a4 := Tryz.isAgg4
  z4 := Tryz.sizeOf4
  v4 := Tryz.zeroValue4
  t5 := Tryz.underlying5
  a5 := Tryz.isAgg5
  z5 := Tryz.sizeOf5
  v5 := Tryz.zeroValue5
  t9 := Tryz.underlying9
  a9 := Tryz.isAgg9
  z9 := Tryz.sizeOf9
  v9 := Tryz.zeroValue9
  t22 := Tryz.underlying34
  a22 := Tryz.isAgg34
  z22 := Tryz.sizeOf34
  v22 := Tryz.zeroValue34
  t23 := Tryz.underlying34
  a23 := Tryz.isAgg34
  z23 := Tryz.sizeOf34
  v23 := Tryz.zeroValue34
  t25 := Tryz.underlying3
  a25 := Tryz.isAgg3
  z25 := Tryz.sizeOf3
  v25 := Tryz.zeroValue3
  t32 := Tryz.underlying154
  a32 := Tryz.isAgg154
  z32 := Tryz.sizeOf154
  v32 := Tryz.zeroValue154
  t35 := Tryz.underlying364
  a35 := Tryz.isAgg364
  z35 := Tryz.sizeOf364
  v35 := Tryz.zeroValue364
  t36 := Tryz.underlying365
  a36 := Tryz.isAgg365
  z36 := Tryz.sizeOf365
  v36 := Tryz.zeroValue365
  t41 := Tryz.underlying137
  a41 := Tryz.isAgg137
  z41 := Tryz.sizeOf137
  v41 := Tryz.zeroValue137
  t44 := Tryz.underlying26
  a44 := Tryz.isAgg26
  z44 := Tryz.sizeOf26
  v44 := Tryz.zeroValue26
  t46 := Tryz.underlying371
  a46 := Tryz.isAgg371
  z46 := Tryz.sizeOf371
  v46 := Tryz.zeroValue371
  t53 := Tryz.underlying390
  a53 := Tryz.isAgg390
  z53 := Tryz.sizeOf390
  v53 := Tryz.zeroValue390
  t57 := Tryz.underlying381
  a57 := Tryz.isAgg381
  z57 := Tryz.sizeOf381
  v57 := Tryz.zeroValue381
  t63 := Tryz.underlying404
  a63 := Tryz.isAgg404
  z63 := Tryz.sizeOf404
  v63 := Tryz.zeroValue404
  t64 := Tryz.underlying405
  a64 := Tryz.isAgg405
  z64 := Tryz.sizeOf405
  v64 := Tryz.zeroValue405

theorem sorts (m : Nat) : AnyZI.SortsIn Tryz.prog sorted_ren Fence.wide m :=
  ⟨fun blk off cap ss W hH hblk hsz => callsIn_wide.2 (AnyM.slices_Sort_int sort blk off cap ss W hH hblk hsz),
   fun p cap W => callsIn_wide.2 (AnyM.slices_Sort_int_none sort p cap W)⟩

theorem E_sure {σ : Ab.Sig} : Ab.Sure σ (Ab.envS Tryz.prog 84 154) :=
  Ab.envS_sure (ρk := keys_ren) (ρs := sorted_ren) (by kernel_rfl) keys sorted (sorts 4) (enters_of Tryz.func134 (by kernel_rfl) rfl) (enters_of Tryz.func154 (by kernel_rfl) rfl)
end Go.Proofs.YtmdneohkagkfpaaGreatDoor
