/- Sleep: a number that comes in. -/
import Derived.Test.YtojfkjjacaellaaSmL
import Derived.Test.YtojfkjjacaellaaSmRT
namespace Go.Ab
open Go.Proofs Go.RowKit Go.ChangeShapes
theorem open_int {w : World} {v : Value} {r : Reach} {b0 : Nat} (hval : Value.okWide Try.prog w r b0 3 v) : ∃ n, v = .int .i64 n := WideShapes.okWide_int (by kernel_rfl) hval
theorem traces_x {m : Mem} {l : Value} {n : Nat} {x1 : Int} (hm : Fresh m) (hl : Ops m l n) : ∃ m', Con EE.P 7 [l, In x1] m (.bool true) m' := traces_ok hm hl
end Go.Ab
