/- The shelf's structure of maps.Clone at this program. -/
import Derived.Test.YtojfkjjacaellaaRows
import Derived.Test.YtojfkjjacaellaaTQ
namespace Go.Proofs.Ytojfkjjacaellaa
open Go.RowKit Go.Maps Go.Shelf Go.Proofs

def clone_ren : Go.Shelf.Ren := ⟨fun | 5 => 25 | 7 => 29 | n => n, fun | 23 => 25 | 25 => 3 | 3 => 30 | 4 => 4 | 20 => 20 | n => n, fun | n => n⟩
theorem clone : SlLaysW.n5 Try.prog clone_ren where
  mixed := by kernel_rfl
  f5 := ⟨"maps.Clone[map[int]uint32,int,uint32]", by decide, Try.func25.trans (congrArg some (by kernel_rfl))⟩
  f7 := Try.func29.trans (congrArg some (by kernel_rfl))
  t4 := Try.underlying4
  a4 := Try.isAgg4
  z4 := Try.sizeOf4
  v4 := Try.zeroValue4
  t20 := Try.underlying20
  a20 := Try.isAgg20
  z20 := Try.sizeOf20
  v20 := Try.zeroValue20
  t23 := Try.underlying25
  a23 := Try.isAgg25
  z23 := Try.sizeOf25
  v23 := Try.zeroValue25

end Go.Proofs.Ytojfkjjacaellaa
