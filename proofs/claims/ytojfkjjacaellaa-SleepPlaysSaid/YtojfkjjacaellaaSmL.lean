/- Sleep: calls that come in: where they lie, as a memory of one block. -/
import Derived.WalkKit
import Derived.ProofKit
import Derived.OpenShut
import Derived.ChangeOld
import Derived.Carry
import Derived.Test.YtojfkjjacaellaaSmI
import Derived.Test.YtojfkjjacaellaaTJ
import Derived.Test.YtojfkjjacaellaaRows
namespace Go.Ab
open Go.Proofs Go.RowKit Go.ChangeShapes
noncomputable section
set_option maxHeartbeats 1000000
def fl51 : List Field := match EE.P.underlying 51 with
  | some (.struct fs) => fs.toList
  | _ => []
def f510 : Field := fl51.getD 0 default
def f511 : Field := fl51.getD 1 default
def f512 : Field := fl51.getD 2 default
theorem w39 : EE.P.underlying 39 = some (.slice 51) := by kernel_rfl
theorem w51 : EE.P.underlying 51 = some (.struct #[f510, f511, f512]) := by kernel_rfl
theorem w3i : EE.P.underlying 3 = some (.int .i64) := by kernel_rfl
theorem w30 : EE.P.underlying 30 = some (.int .u32) := by kernel_rfl
theorem t51 : f510.type = 3 ∧ f511.type = 3 ∧ f512.type = 30 := ⟨by kernel_rfl, by kernel_rfl, by kernel_rfl⟩
theorem o51 : f510.offset = 0 ∧ f511.offset = 1 ∧ f512.offset = 2 := ⟨by kernel_rfl, by kernel_rfl, by kernel_rfl⟩
theorem z51 : EE.P.cellsOf 51 = 3 ∧ EE.P.cellsOf 3 = 1 ∧ EE.P.cellsOf 30 = 1 := ⟨by kernel_rfl, by kernel_rfl, by kernel_rfl⟩
section
variable {H : Type} {enc : TypeId × Value → H} {w : World} {base : Nat} {spare : Nat → Bool} {held : Bool}
theorem u32_of {n : Int} (hw : (Lit.int .u32 n).wf = true) : ∃ a : BitVec 32, (Value.int .u32 n) = .int .u32 (a.toNat : Int) := by
  have h1 : 0 ≤ n ∧ n ≤ 4294967295 := by
    simp [Lit.wf, IntKind.min, IntKind.max, IntKind.signed, IntKind.bits] at hw
    omega
  refine ⟨BitVec.ofNat 32 n.toNat, ?_⟩
  rw [BitVec.toNat_ofNat]
  congr 1
  omega
theorem trod51 {n : Nat} {a b c : Value} {y : DataW H × List MemPlace} (h : DataW.trod enc EE.P w base spare held n 51 [a, b, c] = some y) : ∃ (k p : Int) (f : BitVec 32), a = In k ∧ b = In p ∧ c = Um f ∧ (Lit.int .i64 p).wf = true := by
  obtain ⟨xs, k, _, _, _, hx, hf⟩ := DataW.trod_struct w51 h
  have hx : xs.length = 3 := hx
  have h0 := hf 0 f510 (by kernel_rfl)
  have h1 := hf 1 f511 (by kernel_rfl)
  have h2 := hf 2 f512 (by kernel_rfl)
  rw [t51.1, o51.1, z51.2.1, List.getElem?_eq_getElem (by omega)] at h0
  rw [t51.2.1, o51.2.1, z51.2.1, List.getElem?_eq_getElem (by omega)] at h1
  rw [t51.2.2, o51.2.2, z51.2.2, List.getElem?_eq_getElem (by omega)] at h2
  simp only [List.drop_succ_cons, List.drop_zero, List.take_succ_cons, List.take_zero] at h0 h1 h2
  obtain ⟨k, e0, _⟩ := DataW.trod_int w3i h0
  obtain ⟨p, e1, _, hp⟩ := DataW.trod_int w3i h1
  obtain ⟨f, e4, _, hw⟩ := DataW.trod_int w30 h2
  obtain ⟨f', hf'⟩ := u32_of hw
  simp only [List.cons.injEq, and_true] at e0 e1 e4
  exact ⟨k, p, f', e0, e1, e4.trans hf', hp⟩
theorem open_ops {v : Value} {d : DataW H} {p : List MemPlace} {r : Reach} {b0 : Nat} (hval : Value.okWide EE.P w r b0 39 v) (h : DataW.Trod enc EE.P w base spare held 39 v d p) :
    ∃ (m : Mem) (l : Value) (ρ : Rho) (n : Nat), Rel Sig.none ρ m w ∧ Sealed m ∧ Fresh m ∧ VRel Sig.none ρ l v ∧ Ops m l n := by
  have hcell : ∃ a len cap, v = .slice a len cap ∧ (a = none → len = 0 ∧ cap = 0) ∧ len ≤ cap := by
    obtain ⟨a, len, cap, rfl⟩ := WideShapes.okWide_slice w39 hval
    obtain ⟨fuel, h1⟩ := id h
    refine ⟨a, len, cap, rfl, ?_⟩
    rcases DataW.trod_slice w39 h1 with ⟨e, _⟩ | ⟨a, len, cap, _, _, _, _, e, _, _, hle, _⟩
    · simp only [Value.cells, List.cons.injEq, and_true, Value.slice.injEq] at e
      obtain ⟨rfl, rfl, rfl⟩ := e
      exact ⟨fun _ => ⟨rfl, rfl⟩, Nat.le_refl _⟩
    · simp only [Value.cells, List.cons.injEq, and_true, Value.slice.injEq] at e
      obtain ⟨rfl, rfl, rfl⟩ := e
      exact ⟨fun e => (by cases e), hle⟩
  obtain ⟨a, len, cap, rfl, hn, hle⟩ := hcell
  rcases trod_cells (sz := 3) w39 (by kernel_rfl) (by decide) h with rfl | ⟨k, off, cs, tt, fz, rfl, h1, h2, h3⟩
  · cases a with
    | none =>
      obtain ⟨_, rfl⟩ := hn rfl
      exact ⟨m0, .slice none 0 0, ρ0, 0, m0_rel w, m0_sealed, m0_fresh, .nilSlice, _, _, rfl, .inl rfl⟩
    | some a => exact ⟨m0, .slice (some ⟨0, 0, some 0⟩) 0 0, ρ0, 0, m0_rel w, m0_sealed, m0_fresh, .lost a cap, _, _, rfl, .inl rfl⟩
  · have hel : ∀ i, i < len → ∃ (k p : Int) (f : BitVec 32), (List.range 3).map (fun j => cs.getD (off + (i * 3 + j)) undef) = [In k, In p, Um f] ∧ (Lit.int .i64 p).wf = true := fun i hi => by
      obtain ⟨n, y, h4⟩ := h3 i hi
      obtain ⟨k, p, f, e0, e1, e2, hp⟩ := trod51 h4
      refine ⟨k, p, f, ?_, hp⟩
      show [_, _, _] = _
      rw [e0, e1, e2]
    have hget : ∀ i j, i < len → j < 3 → ∃ (k p : Int) (f : BitVec 32), cs.getD (off + (i * 3 + j)) undef = [In k, In p, Um f].getD j undef := fun i j hi hj => by
      obtain ⟨k, p, f, e, _⟩ := hel i hi
      refine ⟨k, p, f, ?_⟩
      rw [← e]
      simp [List.getD_eq_getElem?_getD, hj]
    have hC : ∀ i, i < len * 3 → (Cells.ofList ((List.range (len * 3)).map fun j => cs.getD (off + j) undef)).get i = cs.getD (off + i) undef := fun i hi => by
      rw [get_ofList (by simpa using hi)]
      simp [List.getD_eq_getElem?_getD, hi]
    have hn : (Cells.ofList ((List.range (len * 3)).map fun j => cs.getD (off + j) undef)).n = len * 3 := by rw [ofList_n, List.length_map, List.length_range]
    refine ⟨memI (Cells.ofList ((List.range (len * 3)).map fun j => cs.getD (off + j) undef)), .slice (some ⟨64, 0, none⟩) len cap, ρI k off, len, memI_rel h1 (by rw [hn]; exact h2) (fun i hi => ?_), memI_sealed, memI_fresh, ?_, _, _, rfl, .inr ⟨64, _, _, _, rfl, by rw [memI_get, if_pos rfl], fun i hi => ?_⟩⟩
    · rw [hn] at hi
      rw [hC i hi]
      obtain ⟨k, p, f, e⟩ := hget (i / 3) (i % 3) (by omega) (Nat.mod_lt _ (by decide))
      rw [show i / 3 * 3 + i % 3 = i by omega] at e
      rw [e]
      have : i % 3 = 0 ∨ i % 3 = 1 ∨ i % 3 = 2 := by omega
      rcases this with g | g | g <;> rw [g]
      · exact .int _ _
      · exact .int _ _
      · exact .int _ _
    · exact .slice (b' := k) (off := off) (sl := 0) (by simp [ρI]) (.inl rfl) hle
    · obtain ⟨k, p, f, e, hp⟩ := hel i hi
      refine ⟨k, p, f, ?_, hp⟩
      refine sub_get rfl (by rw [hn]; omega) fun j hj => ?_
      rw [hC _ (by omega), ← e]
      simp [List.getD_eq_getElem?_getD, hj]
theorem stays_p {v : Value} {d : DataW H} {p : List MemPlace} {t : TypeId} (hr : Try.prog.readableRec t = true) (ht : t < Try.prog.types.size) {W W' : World} (h : DataW.Trod enc Try.prog W 0 (fun _ => true) true t v d p) (hb : Below W.heap.size W W') :
    DataW.Trod enc Try.prog W' 0 (fun b => decide (b < W.heap.size)) true t v d p :=
  Below.trod (by kernel_rfl) hr ht h hb (fun x hx => by obtain ⟨n, h⟩ := h; exact DataW.trod_lt n _ _ _ h x hx)
theorem own : ownKnob Try.prog.godebug = none := by kernel_rfl
end
end
end Go.Ab
