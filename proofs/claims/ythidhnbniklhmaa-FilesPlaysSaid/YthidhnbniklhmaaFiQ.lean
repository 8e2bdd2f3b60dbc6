/- Files: what the laws' arguments are, and that they read as before behind a call that leaves the old blocks alone. -/
import Derived.Test.YthidhnbniklhmaaFiP
import Derived.Test.YthidhnbniklhmaaRows
namespace Go.Ab
open Go.Proofs Go.RowKit Go.ChangeShapes
section
variable {H : Type} {enc : TypeId × Value → H} {w : World} {base : Nat} {spare : Nat → Bool} {held : Bool} {v : Value} {d : DataW H} {p : List MemPlace} {r : Reach} {b0 : Nat}
theorem open_u8 (hval : Value.okWide Try.prog w r b0 5 v) (h : DataW.Trod enc Try.prog w base spare held 5 v d p) : ∃ b : Nat, b < 256 ∧ v = .int .u8 b := by
  have u5 : Try.prog.underlying 5 = some (.int .u8) := by kernel_rfl
  obtain ⟨n, rfl⟩ := WideShapes.okWide_int u5 hval
  obtain ⟨fuel, h⟩ := h
  obtain ⟨m, hc, hx, hw⟩ := DataW.trod_int u5 h
  simp only [Value.cells, List.cons.injEq, and_true, Value.int.injEq, true_and] at hc
  subst hc
  obtain ⟨h1, h2⟩ := bounds_u8 hw
  exact ⟨n.toNat, by omega, by rw [Int.toNat_of_nonneg h1]⟩
theorem open_bool (hval : Value.okWide Try.prog w r b0 4 v) : ∃ b, v = .bool b := WideShapes.okWide_bool (by kernel_rfl) hval
theorem open_file (h : DataW.Trod enc Try.prog w base spare held 34 v d p) : ∃ a b, v = .agg #[In a, .bool b] := by
  obtain ⟨fuel, h⟩ := h
  have hl : v.cells.toList.length = 2 := by
    obtain ⟨_, _, _, _, h2, _⟩ := DataW.trod_struct u34s h
    exact h2.trans z46.2.1
  obtain ⟨a, b, e⟩ : ∃ a b, v.cells.toList = [a, b] := by
    match hc : v.cells.toList, hl with
    | [a, b], _ => exact ⟨a, b, rfl⟩
  rw [e] at h
  obtain ⟨x, y, rfl, rfl⟩ := trod34 h
  refine ⟨x, y, ?_⟩
  cases v with
  | agg cs =>
    have e : cs.toList = [In x, .bool y] := e
    rw [← Array.toArray_toList (xs := cs), e]
  | _ => exact absurd (congrArg List.length e) (by simp [Value.cells])
theorem rel_file {σ : Sig} {ρ : Rho} (a : Int) (b : Bool) : VRel σ ρ (.agg [In a, .bool b].toArray) (.agg #[In a, .bool b]) := by
  refine .agg rfl fun i hi => ?_
  rcases i with _ | _ | i
  · exact .int _ _
  · exact .bool _
  · exact absurd hi (by simp)
theorem stays_p {t : TypeId} (hr : Try.prog.readableRec t = true) (ht : t < Try.prog.types.size) {W W' : World} (h : DataW.Trod enc Try.prog W 0 (fun _ => true) true t v d p) (hb : Below W.heap.size W W') :
    DataW.Trod enc Try.prog W' 0 (fun b => decide (b < W.heap.size)) true t v d p :=
  Below.trod (by kernel_rfl) hr ht h hb (fun x hx => by obtain ⟨n, h⟩ := h; exact DataW.trod_lt n _ _ _ h x hx)
theorem own : ownKnob Try.prog.godebug = none := by kernel_rfl
end
end Go.Ab
