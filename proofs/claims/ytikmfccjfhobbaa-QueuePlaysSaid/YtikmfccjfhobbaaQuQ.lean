/- Queue: what the laws' plain arguments are, and that they read as before behind a call that leaves the old blocks alone. -/
import Derived.Test.YtikmfccjfhobbaaQuA
import Derived.Test.YtikmfccjfhobbaaTJ
import Derived.Test.YtikmfccjfhobbaaRows
namespace Go.Ab
open Go.Proofs Go.RowKit Go.ChangeShapes
section
variable {H : Type} {enc : TypeId × Value → H} {w : World} {base : Nat} {spare : Nat → Bool} {held : Bool} {v : Value} {d : DataW H} {p : List MemPlace} {r : Reach} {b0 : Nat}
theorem open_u8 (hval : Value.okWide Try.prog w r b0 5 v) (h : DataW.Trod enc Try.prog w base spare held 5 v d p) : ∃ b : Nat, b < 256 ∧ v = .int .u8 b := by
  have u5 : Try.prog.underlying 5 = some (.int .u8) := by kernel_rfl
  obtain ⟨n, rfl⟩ := WideShapes.okWide_int u5 hval
  obtain ⟨fuel, h⟩ := h
  obtain ⟨m, hc, hx, hw⟩ := DataW.trod_int u5 h
  simp only [Value.cells, List.cons.injEq, and_true, Value.int.injEq, true_and] at hc
  subst hc
  obtain ⟨h1, h2⟩ := bounds_u8 hw
  exact ⟨n.toNat, by omega, by rw [Int.toNat_of_nonneg h1]⟩
theorem open_int (hval : Value.okWide Try.prog w r b0 3 v) : ∃ n, v = .int .i64 n := WideShapes.okWide_int (by kernel_rfl) hval
theorem open_u32 (hval : Value.okWide Try.prog w r b0 29 v) (h : DataW.Trod enc Try.prog w base spare held 29 v d p) : ∃ a : BitVec 32, v = .int .u32 (a.toNat : Int) := by
  have u29 : Try.prog.underlying 29 = some (.int .u32) := by kernel_rfl
  obtain ⟨n, rfl⟩ := WideShapes.okWide_int u29 hval
  obtain ⟨fuel, h⟩ := h
  obtain ⟨m, hc, hx, hw⟩ := DataW.trod_int u29 h
  simp only [Value.cells, List.cons.injEq, and_true, Value.int.injEq, true_and] at hc
  subst hc
  have h1 : 0 ≤ n ∧ n ≤ 4294967295 := by
    simp [Lit.wf, IntKind.min, IntKind.max, IntKind.signed, IntKind.bits] at hw
    omega
  refine ⟨BitVec.ofNat 32 n.toNat, ?_⟩
  rw [BitVec.toNat_ofNat]
  congr 1
  omega
theorem stays_p {t : TypeId} (hr : Try.prog.readableRec t = true) (ht : t < Try.prog.types.size) {W W' : World} (h : DataW.Trod enc Try.prog W 0 (fun _ => true) true t v d p) (hb : Below W.heap.size W W') :
    DataW.Trod enc Try.prog W' 0 (fun b => decide (b < W.heap.size)) true t v d p :=
  Below.trod (by kernel_rfl) hr ht h hb (fun x hx => by obtain ⟨n, h⟩ := h; exact DataW.trod_lt n _ _ _ h x hx)
theorem own : ownKnob Try.prog.godebug = none := by kernel_rfl
end
end Go.Ab
