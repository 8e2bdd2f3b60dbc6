/- Signals: what comes in: values of the laws' parameters. -/
import Derived.Test.YthpncefkklojlaaSgD
import Derived.WalkKit
import Derived.ProofKit
import Derived.OpenShut
import Derived.ChangeOld
import Derived.Carry
namespace Go.Proofs.Ythpncefkklojlaa.sig
open Go.Ab Go.RowKit Go.ChangeShapes
set_option linter.unusedVariables false

section
variable {H : Type} {enc : TypeId × Value → H} {w : World} {base : Nat} {spare : Nat → Bool} {held : Bool} {fuel : Nat} {cs : List Value} {x : DataW H × List MemPlace}

theorem of_wf32 {n : Int} (h : (Lit.int .u32 n).wf = true) : ∃ b : BitVec 32, n = (b.toNat : Int) := by
  obtain ⟨h1, h2⟩ := bounds_u32 h
  refine ⟨BitVec.ofNat 32 n.toNat, ?_⟩
  rw [BitVec.toNat_ofNat, Nat.mod_eq_of_lt (by omega)]
  omega
theorem of_wf8 {n : Int} (h : (Lit.int .u8 n).wf = true) : ∃ b : BitVec 8, n = (b.toNat : Int) := by
  obtain ⟨h1, h2⟩ := bounds_u8 h
  refine ⟨BitVec.ofNat 8 n.toNat, ?_⟩
  rw [BitVec.toNat_ofNat, Nat.mod_eq_of_lt (by omega)]
  omega
theorem trod_u32 (h : DataW.trod enc Try.prog w base spare held fuel 22 cs = some x) : ∃ b : BitVec 32, cs = [U b] ∧ x.2 = [] := by
  obtain ⟨n, rfl, rfl, hw⟩ := DataW.trod_int u22 h
  obtain ⟨b, rfl⟩ := of_wf32 hw
  exact ⟨b, rfl, rfl⟩
theorem one_of {l : List Value} {i : Nat} {v : Value} (h : (l.drop i).take 1 = [v]) : l[i]? = some v := by
  have := congrArg (·[0]?) h
  simpa using this

theorem trod_S (h : DataW.trod enc Try.prog w base spare held fuel 25 cs = some x) : ∃ s : S, cs = cells s ∧ x.2 = [] := by
  have hu : Try.prog.underlying 25 = some (.struct (Try.prog.fieldsOf 25)) := by kernel_rfl
  have hf : (Try.prog.fieldsOf 25).toList.map (fun f => (f.type, f.offset)) = [(22, 0), (22, 1), (23, 2), (4, 18)] := by kernel_rfl
  obtain ⟨xs, n, rfl, rfl, hlen, hxs, hfs⟩ := DataW.trod_struct hu h
  rw [c25] at hlen
  have hsz : (Try.prog.fieldsOf 25).size = 4 := by kernel_rfl
  have key : ∀ (i : Nat) (t : TypeId) (o : Nat), [((22 : TypeId), 0), (22, 1), (23, 2), (4, 18)][i]? = some (t, o) → ∃ y, xs[i]? = some y ∧ DataW.trod enc Try.prog w base spare held n t ((cs.drop o).take (Try.prog.cellsOf t)) = some y := by
    intro i t o hi
    rw [← hf, List.getElem?_map] at hi
    cases hfi : (Try.prog.fieldsOf 25).toList[i]? with
    | none => rw [hfi] at hi; cases hi
    | some f =>
      rw [hfi] at hi
      simp only [Option.map_some, Option.some.injEq, Prod.mk.injEq] at hi
      obtain ⟨rfl, rfl⟩ := hi
      have hlt : i < xs.length := by
        have := (List.getElem?_eq_some_iff.1 hfi).1
        simp at this
        omega
      have := hfs i f (by simpa using hfi)
      rw [List.getElem?_eq_getElem hlt] at this
      exact ⟨_, List.getElem?_eq_getElem hlt, this⟩
  obtain ⟨y0, e0, t0⟩ := key 0 22 0 rfl
  obtain ⟨y1, e1, t1⟩ := key 1 22 1 rfl
  obtain ⟨y2, e2, t2⟩ := key 2 23 2 rfl
  obtain ⟨y3, e3, t3⟩ := key 3 4 18 rfl
  rw [c22] at t0 t1
  rw [c23] at t2
  rw [c4] at t3
  obtain ⟨p, hp, p0⟩ := trod_u32 t0
  obtain ⟨m, hm, p1⟩ := trod_u32 t1
  obtain ⟨zs, k, rfl, rfl, hl2, hz, hzs⟩ := DataW.trod_array u23 t2
  obtain ⟨b, hb, rfl⟩ := DataW.trod_bool (show Try.prog.underlying 4 = some .bool by kernel_rfl) t3
  have hh : ∀ i, i < 16 → ∃ b : BitVec 32, cs[2 + i]? = some (U b) ∧ ∃ z, zs[i]? = some z ∧ z.2 = [] := by
    intro i hi
    have hlt : i < zs.length := by omega
    have := hzs i hi
    rw [c22, List.getElem?_eq_getElem hlt] at this
    obtain ⟨b, hb, hpl⟩ := trod_u32 this
    refine ⟨b, ?_, _, List.getElem?_eq_getElem hlt, hpl⟩
    have h1 := one_of hb
    rw [List.getElem?_take_of_lt (by omega), List.getElem?_drop] at h1
    simpa using h1
  have hz0 : zs.flatMap (·.2) = [] := by
    rw [List.flatMap_eq_nil_iff]
    intro z hz'
    obtain ⟨i, hi, rfl⟩ := List.getElem_of_mem hz'
    obtain ⟨_, _, z, e, hz2⟩ := hh i (by omega)
    rw [List.getElem?_eq_getElem hi] at e
    cases e
    exact hz2
  obtain ⟨a0, g0, _⟩ := hh 0 (by decide)
  obtain ⟨a1, g1, _⟩ := hh 1 (by decide)
  obtain ⟨a2, g2, _⟩ := hh 2 (by decide)
  obtain ⟨a3, g3, _⟩ := hh 3 (by decide)
  obtain ⟨a4, g4, _⟩ := hh 4 (by decide)
  obtain ⟨a5, g5, _⟩ := hh 5 (by decide)
  obtain ⟨a6, g6, _⟩ := hh 6 (by decide)
  obtain ⟨a7, g7, _⟩ := hh 7 (by decide)
  obtain ⟨a8, g8, _⟩ := hh 8 (by decide)
  obtain ⟨a9, g9, _⟩ := hh 9 (by decide)
  obtain ⟨a10, g10, _⟩ := hh 10 (by decide)
  obtain ⟨a11, g11, _⟩ := hh 11 (by decide)
  obtain ⟨a12, g12, _⟩ := hh 12 (by decide)
  obtain ⟨a13, g13, _⟩ := hh 13 (by decide)
  obtain ⟨a14, g14, _⟩ := hh 14 (by decide)
  obtain ⟨a15, g15, _⟩ := hh 15 (by decide)
  have f0 := one_of hp
  have f1 := one_of hm
  have f18 := one_of hb
  refine ⟨⟨p, m, a0, a1, a2, a3, a4, a5, a6, a7, a8, a9, a10, a11, a12, a13, a14, a15, b⟩, ?_, ?_⟩
  · apply List.ext_getElem?
    intro i
    by_cases hi : i < 19
    · have : i = 0 ∨ i = 1 ∨ i = 2 ∨ i = 3 ∨ i = 4 ∨ i = 5 ∨ i = 6 ∨ i = 7 ∨ i = 8 ∨ i = 9 ∨ i = 10 ∨ i = 11 ∨ i = 12 ∨ i = 13 ∨ i = 14 ∨ i = 15 ∨ i = 16 ∨ i = 17 ∨ i = 18 := by omega
      rcases this with rfl | rfl | rfl | rfl | rfl | rfl | rfl | rfl | rfl | rfl | rfl | rfl | rfl | rfl | rfl | rfl | rfl | rfl | rfl <;> assumption
    · rw [List.getElem?_eq_none (by omega), List.getElem?_eq_none (by simp [cells]; omega)]
  · show xs.flatMap (·.2) = []
    rw [List.flatMap_eq_nil_iff]
    intro z hz'
    obtain ⟨i, hi, rfl⟩ := List.getElem_of_mem hz'
    have hi4 : i < 4 := by omega
    have : i = 0 ∨ i = 1 ∨ i = 2 ∨ i = 3 := by omega
    rcases this with rfl | rfl | rfl | rfl
    · rw [List.getElem?_eq_getElem hi] at e0; cases e0; exact p0
    · rw [List.getElem?_eq_getElem hi] at e1; cases e1; exact p1
    · rw [List.getElem?_eq_getElem hi] at e2; rw [Option.some.inj e2]; exact hz0
    · rw [List.getElem?_eq_getElem hi] at e3; rw [Option.some.inj e3]
end

variable {H : Type} {enc : TypeId × Value → H} {w : World} {base : Nat} {spare : Nat → Bool} {held : Bool} {v : Value} {d : DataW H} {p : List MemPlace}
theorem open_S (h : DataW.Trod enc Try.prog w base spare held 25 v d p) : ∃ s : S, v = V s ∧ p = [] := by
  obtain ⟨fuel, h⟩ := h
  obtain ⟨s, hc, hp⟩ := trod_S h
  refine ⟨s, ?_, hp⟩
  cases v with
  | agg cs =>
    have hc : cs.toList = cells s := hc
    rw [← Array.toArray_toList (xs := cs), hc]
  | _ => exact absurd (congrArg List.length hc) (by simp [Value.cells, cells])
theorem open_u32 {r : Reach} {b0 : Nat} (hval : Value.okWide Try.prog w r b0 22 v) (h : DataW.Trod enc Try.prog w base spare held 22 v d p) : ∃ b : BitVec 32, v = U b ∧ p = [] := by
  obtain ⟨n, rfl⟩ := WideShapes.okWide_int u22 hval
  obtain ⟨fuel, h⟩ := h
  obtain ⟨b, hc, hp⟩ := trod_u32 h
  simp only [Value.cells, List.cons.injEq, and_true] at hc
  exact ⟨b, hc, hp⟩
theorem open_u8 {r : Reach} {b0 : Nat} (hval : Value.okWide Try.prog w r b0 5 v) (h : DataW.Trod enc Try.prog w base spare held 5 v d p) : ∃ b : BitVec 8, v = U8 b ∧ p = [] := by
  have u5 : Try.prog.underlying 5 = some (.int .u8) := by kernel_rfl
  obtain ⟨n, rfl⟩ := WideShapes.okWide_int u5 hval
  obtain ⟨fuel, h⟩ := h
  obtain ⟨m, hc, hx, hw⟩ := DataW.trod_int u5 h
  obtain ⟨_, rfl⟩ := Prod.mk.inj hx
  obtain ⟨b, rfl⟩ := of_wf8 hw
  simp only [Value.cells, List.cons.injEq, and_true] at hc
  exact ⟨b, hc, rfl⟩

/-- What comes in reads as it did. -/
theorem stays {t : TypeId} (hr : Try.prog.readableRec t = true) (ht : t < Try.prog.types.size) {W W' : World} {v : Value} {d : DataW H} (h : DataW.Trod enc Try.prog W 0 (fun _ => true) true t v d []) (hb : Below W.heap.size W W') :
    DataW.Trod enc Try.prog W' 0 (fun b => decide (b < W.heap.size)) true t v d [] :=
  Below.trod (by kernel_rfl) hr ht h hb (fun x hx => by cases hx)

theorem own : ownKnob Try.prog.godebug = none := by kernel_rfl
/-- A pure function's call. -/
theorem PureOk.calls {f : FuncId} {args : List Value} {v : Value} (h : PureOk Try.prog f args v) (W : World) : Calls Try.prog f args.toArray W fun e w' => e = .returned v ∧ Below W.heap.size W w' := callsIn_wide.1 (h W)
end Go.Proofs.Ythpncefkklojlaa.sig
