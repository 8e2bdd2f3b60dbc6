/- Tree: calls that come in: where they lie, as a memory of one block. -/
import Derived.WalkKit
import Derived.ProofKit
import Derived.OpenShut
import Derived.ChangeOld
import Derived.Carry
import Derived.Test.YtjajeeoahbidlaaTrL
import Derived.Test.YtjajeeoahbidlaaTJ
import Derived.Test.YtjajeeoahbidlaaRows
namespace Go.Ab
open Go.Proofs Go.RowKit Go.ChangeShapes
noncomputable section
set_option maxHeartbeats 1000000
def fl30 : List Field := match EE.P.underlying 30 with
  | some (.struct fs) => fs.toList
  | _ => []
def f300 : Field := fl30.getD 0 default
def f301 : Field := fl30.getD 1 default
def f302 : Field := fl30.getD 2 default
def f303 : Field := fl30.getD 3 default
def f304 : Field := fl30.getD 4 default
theorem ww22 : EE.P.underlying 22 = some (.slice 30) := by kernel_rfl
theorem ww30 : EE.P.underlying 30 = some (.struct #[f300, f301, f302, f303, f304]) := by kernel_rfl
theorem ww3 : EE.P.underlying 3 = some (.int .i64) := by kernel_rfl
theorem ww23 : EE.P.underlying 23 = some (.int .u32) := by kernel_rfl
theorem t30 : f300.type = 3 ∧ f301.type = 3 ∧ f302.type = 3 ∧ f303.type = 3 ∧ f304.type = 23 := ⟨by kernel_rfl, by kernel_rfl, by kernel_rfl, by kernel_rfl, by kernel_rfl⟩
theorem o30 : f300.offset = 0 ∧ f301.offset = 1 ∧ f302.offset = 2 ∧ f303.offset = 3 ∧ f304.offset = 4 := ⟨by kernel_rfl, by kernel_rfl, by kernel_rfl, by kernel_rfl, by kernel_rfl⟩
theorem z30 : EE.P.cellsOf 30 = 5 ∧ EE.P.cellsOf 3 = 1 ∧ EE.P.cellsOf 23 = 1 := ⟨by kernel_rfl, by kernel_rfl, by kernel_rfl⟩
section
variable {H : Type} {enc : TypeId × Value → H} {w : World} {base : Nat} {spare : Nat → Bool} {held : Bool}
theorem u32_of {n : Int} (hw : (Lit.int .u32 n).wf = true) : ∃ a : BitVec 32, (Value.int .u32 n) = .int .u32 (a.toNat : Int) := by
  have h1 : 0 ≤ n ∧ n ≤ 4294967295 := by
    simp [Lit.wf, IntKind.min, IntKind.max, IntKind.signed, IntKind.bits] at hw
    omega
  refine ⟨BitVec.ofNat 32 n.toNat, ?_⟩
  rw [BitVec.toNat_ofNat]
  congr 1
  omega
theorem trod30 {n : Nat} {a b c d e : Value} {y : DataW H × List MemPlace} (h : DataW.trod enc EE.P w base spare held n 30 [a, b, c, d, e] = some y) : ∃ (k p r st : Int) (f : BitVec 32), a = In k ∧ b = In p ∧ c = In r ∧ d = In st ∧ e = Um f := by
  obtain ⟨xs, k, _, _, _, hx, hf⟩ := DataW.trod_struct ww30 h
  have hx : xs.length = 5 := hx
  have h0 := hf 0 f300 (by kernel_rfl)
  have h1 := hf 1 f301 (by kernel_rfl)
  have h2 := hf 2 f302 (by kernel_rfl)
  have h3 := hf 3 f303 (by kernel_rfl)
  have h4 := hf 4 f304 (by kernel_rfl)
  rw [t30.1, o30.1, z30.2.1, List.getElem?_eq_getElem (by omega)] at h0
  rw [t30.2.1, o30.2.1, z30.2.1, List.getElem?_eq_getElem (by omega)] at h1
  rw [t30.2.2.1, o30.2.2.1, z30.2.1, List.getElem?_eq_getElem (by omega)] at h2
  rw [t30.2.2.2.1, o30.2.2.2.1, z30.2.1, List.getElem?_eq_getElem (by omega)] at h3
  rw [t30.2.2.2.2, o30.2.2.2.2, z30.2.2, List.getElem?_eq_getElem (by omega)] at h4
  simp only [List.drop_succ_cons, List.drop_zero, List.take_succ_cons, List.take_zero] at h0 h1 h2 h3 h4
  obtain ⟨k, e0, _⟩ := DataW.trod_int ww3 h0
  obtain ⟨p, e1, _⟩ := DataW.trod_int ww3 h1
  obtain ⟨r, e2, _⟩ := DataW.trod_int ww3 h2
  obtain ⟨st, e3, _⟩ := DataW.trod_int ww3 h3
  obtain ⟨f, e4, _, hw⟩ := DataW.trod_int ww23 h4
  obtain ⟨f', hf'⟩ := u32_of hw
  simp only [List.cons.injEq, and_true] at e0 e1 e2 e3 e4
  exact ⟨k, p, r, st, f', e0, e1, e2, e3, e4.trans hf'⟩
theorem open_ops {v : Value} {d : DataW H} {p : List MemPlace} {r : Reach} {b0 : Nat} (hval : Value.okWide EE.P w r b0 22 v) (h : DataW.Trod enc EE.P w base spare held 22 v d p) :
    ∃ (m : Mem) (l : Value) (ρ : Rho) (n : Nat), Rel Sig.none ρ m w ∧ Sealed m ∧ Fresh m ∧ VRel Sig.none ρ l v ∧ Ops m l n := by
  have hcell : ∃ a len cap, v = .slice a len cap ∧ (a = none → len = 0 ∧ cap = 0) ∧ len ≤ cap := by
    obtain ⟨a, len, cap, rfl⟩ := WideShapes.okWide_slice ww22 hval
    obtain ⟨fuel, h1⟩ := id h
    refine ⟨a, len, cap, rfl, ?_⟩
    rcases DataW.trod_slice ww22 h1 with ⟨e, _⟩ | ⟨a, len, cap, _, _, _, _, e, _, _, hle, _⟩
    · simp only [Value.cells, List.cons.injEq, and_true, Value.slice.injEq] at e
      obtain ⟨rfl, rfl, rfl⟩ := e
      exact ⟨fun _ => ⟨rfl, rfl⟩, Nat.le_refl _⟩
    · simp only [Value.cells, List.cons.injEq, and_true, Value.slice.injEq] at e
      obtain ⟨rfl, rfl, rfl⟩ := e
      exact ⟨fun e => (by cases e), hle⟩
  obtain ⟨a, len, cap, rfl, hn, hle⟩ := hcell
  rcases trod_cells (sz := 5) ww22 (by kernel_rfl) (by decide) h with rfl | ⟨k, off, cs, tt, fz, rfl, h1, h2, h3⟩
  · cases a with
    | none =>
      obtain ⟨_, rfl⟩ := hn rfl
      exact ⟨m0, .slice none 0 0, ρ0, 0, m0_rel w, m0_sealed, m0_fresh, .nilSlice, _, _, rfl, .inl rfl⟩
    | some a => exact ⟨m0, .slice (some ⟨0, 0, some 0⟩) 0 0, ρ0, 0, m0_rel w, m0_sealed, m0_fresh, .lost a cap, _, _, rfl, .inl rfl⟩
  · have hel : ∀ i, i < len → ∃ (k p r st : Int) (f : BitVec 32), (List.range 5).map (fun j => cs.getD (off + (i * 5 + j)) undef) = [In k, In p, In r, In st, Um f] := fun i hi => by
      obtain ⟨n, y, h4⟩ := h3 i hi
      obtain ⟨k, p, r, st, f, e0, e1, e2, e3, e4⟩ := trod30 h4
      refine ⟨k, p, r, st, f, ?_⟩
      show [_, _, _, _, _] = _
      rw [e0, e1, e2, e3, e4]
    have hget : ∀ i j, i < len → j < 5 → ∃ (k p r st : Int) (f : BitVec 32), cs.getD (off + (i * 5 + j)) undef = [In k, In p, In r, In st, Um f].getD j undef := fun i j hi hj => by
      obtain ⟨k, p, r, st, f, e⟩ := hel i hi
      refine ⟨k, p, r, st, f, ?_⟩
      rw [← e]
      simp [List.getD_eq_getElem?_getD, hj]
    have hC : ∀ i, i < len * 5 → (Cells.ofList ((List.range (len * 5)).map fun j => cs.getD (off + j) undef)).get i = cs.getD (off + i) undef := fun i hi => by
      rw [get_ofList (by simpa using hi)]
      simp [List.getD_eq_getElem?_getD, hi]
    have hn : (Cells.ofList ((List.range (len * 5)).map fun j => cs.getD (off + j) undef)).n = len * 5 := by rw [ofList_n, List.length_map, List.length_range]
    refine ⟨memI (Cells.ofList ((List.range (len * 5)).map fun j => cs.getD (off + j) undef)), .slice (some ⟨64, 0, none⟩) len cap, ρI k off, len, memI_rel h1 (by rw [hn]; exact h2) (fun i hi => ?_), memI_sealed, memI_fresh, ?_, _, _, rfl, .inr ⟨64, _, _, _, rfl, by rw [memI_get, if_pos rfl], fun i hi => ?_⟩⟩
    · rw [hn] at hi
      rw [hC i hi]
      obtain ⟨k, p, r, st, f, e⟩ := hget (i / 5) (i % 5) (by omega) (Nat.mod_lt _ (by decide))
      rw [show i / 5 * 5 + i % 5 = i by omega] at e
      rw [e]
      have : i % 5 = 0 ∨ i % 5 = 1 ∨ i % 5 = 2 ∨ i % 5 = 3 ∨ i % 5 = 4 := by omega
      rcases this with g | g | g | g | g <;> rw [g]
      · exact .int _ _
      · exact .int _ _
      · exact .int _ _
      · exact .int _ _
      · exact .int _ _
    · exact .slice (b' := k) (off := off) (sl := 0) (by simp [ρI]) (.inl rfl) hle
    · obtain ⟨k, p, r, st, f, e⟩ := hel i hi
      refine ⟨k, p, r, st, f, ?_⟩
      refine sub_get rfl (by rw [hn]; omega) fun j hj => ?_
      rw [hC _ (by omega), ← e]
      simp [List.getD_eq_getElem?_getD, hj]
theorem stays_p {v : Value} {d : DataW H} {p : List MemPlace} {t : TypeId} (hr : Try.prog.readableRec t = true) (ht : t < Try.prog.types.size) {W W' : World} (h : DataW.Trod enc Try.prog W 0 (fun _ => true) true t v d p) (hb : Below W.heap.size W W') :
    DataW.Trod enc Try.prog W' 0 (fun b => decide (b < W.heap.size)) true t v d p :=
  Below.trod (by kernel_rfl) hr ht h hb (fun x hx => by obtain ⟨n, h⟩ := h; exact DataW.trod_lt n _ _ _ h x hx)
theorem open_int {w : World} {v : Value} {r : Reach} {b0 : Nat} (hval : Value.okWide Try.prog w r b0 3 v) : ∃ n, v = .int .i64 n := WideShapes.okWide_int (by kernel_rfl) hval
theorem open_u32 {v : Value} {d : DataW H} {p : List MemPlace} {r : Reach} {b0 : Nat} (hval : Value.okWide Try.prog w r b0 23 v) (h : DataW.Trod enc Try.prog w base spare held 23 v d p) : ∃ a : BitVec 32, v = .int .u32 (a.toNat : Int) := by
  have u23 : Try.prog.underlying 23 = some (.int .u32) := by kernel_rfl
  obtain ⟨n, rfl⟩ := WideShapes.okWide_int u23 hval
  obtain ⟨fuel, h⟩ := h
  obtain ⟨m, hc, hx, hw⟩ := DataW.trod_int u23 h
  simp only [Value.cells, List.cons.injEq, and_true, Value.int.injEq, true_and] at hc
  subst hc
  have h1 : 0 ≤ n ∧ n ≤ 4294967295 := by
    simp [Lit.wf, IntKind.min, IntKind.max, IntKind.signed, IntKind.bits] at hw
    omega
  refine ⟨BitVec.ofNat 32 n.toNat, ?_⟩
  rw [BitVec.toNat_ofNat]
  congr 1
  omega
theorem own : ownKnob Try.prog.godebug = none := by kernel_rfl
end
end
end Go.Ab
