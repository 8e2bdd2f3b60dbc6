/- Files: calls that come in: where they lie, as a memory of one block. -/
import Derived.Test.YthidhnbniklhmaaFiL
import Derived.Test.YthidhnbniklhmaaTJ
namespace Go.Ab
open Go.Proofs Go.RowKit Go.ChangeShapes
noncomputable section
set_option maxHeartbeats 1000000
def fl46 : List Field := match EE.P.underlying 46 with
  | some (.struct fs) => fs.toList
  | _ => []
def f460 : Field := fl46.getD 0 default
def f461 : Field := fl46.getD 1 default
def f462 : Field := fl46.getD 2 default
def f463 : Field := fl46.getD 3 default
theorem u46 : EE.P.underlying 46 = some (.struct #[f460, f461, f462, f463]) := by kernel_rfl
theorem u34s : EE.P.underlying 34 = some (.struct #[f340, f341]) := by kernel_rfl
theorem u3i : EE.P.underlying 3 = some (.int .i64) := by kernel_rfl
theorem u4b : EE.P.underlying 4 = some .bool := by kernel_rfl
theorem t46 : f460.type = 3 ∧ f461.type = 34 ∧ f462.type = 3 ∧ f463.type = 3 := ⟨by kernel_rfl, by kernel_rfl, by kernel_rfl, by kernel_rfl⟩
theorem o46 : f460.offset = 0 ∧ f461.offset = 1 ∧ f462.offset = 3 ∧ f463.offset = 4 := ⟨by kernel_rfl, by kernel_rfl, by kernel_rfl, by kernel_rfl⟩
theorem z46 : EE.P.cellsOf 46 = 5 ∧ EE.P.cellsOf 34 = 2 ∧ EE.P.cellsOf 3 = 1 ∧ EE.P.cellsOf 4 = 1 := ⟨by kernel_rfl, by kernel_rfl, by kernel_rfl, by kernel_rfl⟩
section
variable {H : Type} {enc : TypeId × Value → H} {w : World} {base : Nat} {spare : Nat → Bool} {held : Bool}
theorem trod34 {n : Nat} {a b : Value} {y : DataW H × List MemPlace} (h : DataW.trod enc EE.P w base spare held n 34 [a, b] = some y) : ∃ p ww, a = In p ∧ b = .bool ww := by
  obtain ⟨xs, k, _, _, _, hx, hf⟩ := DataW.trod_struct u34s h
  have hx : xs.length = 2 := hx
  have h0 := hf 0 f340 rfl
  have h1 := hf 1 f341 rfl
  rw [t340, o340, z46.2.2.1, List.getElem?_eq_getElem (by omega)] at h0
  rw [t341, o341, z46.2.2.2, List.getElem?_eq_getElem (by omega)] at h1
  obtain ⟨p, e1, _⟩ := DataW.trod_int u3i h0
  obtain ⟨ww, e2, _⟩ := DataW.trod_bool u4b h1
  simp only [List.drop_zero, List.take_succ_cons, List.take_zero, List.cons.injEq, and_true] at e1
  simp only [List.drop_succ_cons, List.drop_zero, List.take_succ_cons, List.take_zero, List.cons.injEq, and_true] at e2
  exact ⟨p, ww, e1, e2⟩
theorem trod46 {n : Nat} {a b c d e : Value} {y : DataW H × List MemPlace} (h : DataW.trod enc EE.P w base spare held n 46 [a, b, c, d, e] = some y) : ∃ k p ww m f, a = In k ∧ b = In p ∧ c = .bool ww ∧ d = In m ∧ e = In f := by
  obtain ⟨xs, k, _, _, _, hx, hf⟩ := DataW.trod_struct u46 h
  have hx : xs.length = 4 := hx
  have h0 := hf 0 f460 rfl
  have h1 := hf 1 f461 rfl
  have h2 := hf 2 f462 rfl
  have h3 := hf 3 f463 rfl
  rw [t46.1, o46.1, z46.2.2.1, List.getElem?_eq_getElem (by omega)] at h0
  rw [t46.2.1, o46.2.1, z46.2.1, List.getElem?_eq_getElem (by omega)] at h1
  rw [t46.2.2.1, o46.2.2.1, z46.2.2.1, List.getElem?_eq_getElem (by omega)] at h2
  rw [t46.2.2.2, o46.2.2.2, z46.2.2.1, List.getElem?_eq_getElem (by omega)] at h3
  simp only [List.drop_succ_cons, List.drop_zero, List.take_succ_cons, List.take_zero] at h0 h1 h2 h3
  obtain ⟨k, e0, _⟩ := DataW.trod_int u3i h0
  obtain ⟨p, ww, e1, e2⟩ := trod34 h1
  obtain ⟨m, e3, _⟩ := DataW.trod_int u3i h2
  obtain ⟨f, e4, _⟩ := DataW.trod_int u3i h3
  simp only [List.cons.injEq, and_true] at e0 e3 e4
  exact ⟨k, p, ww, m, f, e0, e1, e2, e3, e4⟩
theorem open_ops {v : Value} {d : DataW H} {p : List MemPlace} {r : Reach} {b0 : Nat} (hval : Value.okWide EE.P w r b0 22 v) (h : DataW.Trod enc EE.P w base spare held 22 v d p) :
    ∃ (m : Mem) (l : Value) (ρ : Rho) (n : Nat), Rel Sig.none ρ m w ∧ Sealed m ∧ Fresh m ∧ VRel Sig.none ρ l v ∧ Ops m l n := by
  have hcell : ∃ a len cap, v = .slice a len cap ∧ (a = none → len = 0 ∧ cap = 0) ∧ len ≤ cap := by
    obtain ⟨a, len, cap, rfl⟩ := WideShapes.okWide_slice und_22 hval
    obtain ⟨fuel, h1⟩ := id h
    refine ⟨a, len, cap, rfl, ?_⟩
    rcases DataW.trod_slice und_22 h1 with ⟨e, _⟩ | ⟨a, len, cap, _, _, _, _, e, _, _, hle, _⟩
    · simp only [Value.cells, List.cons.injEq, and_true, Value.slice.injEq] at e
      obtain ⟨rfl, rfl, rfl⟩ := e
      exact ⟨fun _ => ⟨rfl, rfl⟩, Nat.le_refl _⟩
    · simp only [Value.cells, List.cons.injEq, and_true, Value.slice.injEq] at e
      obtain ⟨rfl, rfl, rfl⟩ := e
      exact ⟨fun e => (by cases e), hle⟩
  obtain ⟨a, len, cap, rfl, hn, hle⟩ := hcell
  rcases trod_cells (sz := 5) und_22 (by kernel_rfl) (by decide) h with rfl | ⟨k, off, cs, tt, fz, rfl, h1, h2, h3⟩
  · cases a with
    | none =>
      obtain ⟨_, rfl⟩ := hn rfl
      exact ⟨m0, .slice none 0 0, ρ0, 0, m0_rel w, m0_sealed, m0_fresh, .nilSlice, _, _, rfl, .inl rfl⟩
    | some a => exact ⟨m0, .slice (some ⟨0, 0, some 0⟩) 0 0, ρ0, 0, m0_rel w, m0_sealed, m0_fresh, .lost a cap, _, _, rfl, .inl rfl⟩
  · have hel : ∀ i, i < len → ∃ k pp ww nn fd, (List.range 5).map (fun j => cs.getD (off + (i * 5 + j)) undef) = [In k, In pp, .bool ww, In nn, In fd] := fun i hi => by
      obtain ⟨n, y, h4⟩ := h3 i hi
      obtain ⟨k, p, ww, m, f, e0, e1, e2, e3, e4⟩ := trod46 h4
      refine ⟨k, p, ww, m, f, ?_⟩
      show [_, _, _, _, _] = _
      rw [e0, e1, e2, e3, e4]
    have hget : ∀ i j, i < len → j < 5 → ∃ k pp ww nn fd, cs.getD (off + (i * 5 + j)) undef = [In k, In pp, .bool ww, In nn, In fd].getD j undef := fun i j hi hj => by
      obtain ⟨k, pp, ww, nn, fd, e⟩ := hel i hi
      refine ⟨k, pp, ww, nn, fd, ?_⟩
      rw [← e]
      simp [List.getD_eq_getElem?_getD, hj]
    have hC : ∀ i, i < len * 5 → (Cells.ofList ((List.range (len * 5)).map fun j => cs.getD (off + j) undef)).get i = cs.getD (off + i) undef := fun i hi => by
      rw [get_ofList (by simpa using hi)]
      simp [List.getD_eq_getElem?_getD, hi]
    have hn : (Cells.ofList ((List.range (len * 5)).map fun j => cs.getD (off + j) undef)).n = len * 5 := by rw [ofList_n, List.length_map, List.length_range]
    refine ⟨memI (Cells.ofList ((List.range (len * 5)).map fun j => cs.getD (off + j) undef)), .slice (some ⟨64, 0, none⟩) len cap, ρI k off, len, memI_rel h1 (by rw [hn]; exact h2) (fun i hi => ?_), memI_sealed, memI_fresh, ?_, _, _, rfl, .inr ⟨64, _, _, _, rfl, by rw [memI_get, if_pos rfl], fun i hi => ?_⟩⟩
    · rw [hn] at hi
      rw [hC i hi]
      obtain ⟨k, pp, ww, nn, fd, e⟩ := hget (i / 5) (i % 5) (by omega) (Nat.mod_lt _ (by decide))
      rw [show i / 5 * 5 + i % 5 = i by omega] at e
      rw [e]
      have : i % 5 = 0 ∨ i % 5 = 1 ∨ i % 5 = 2 ∨ i % 5 = 3 ∨ i % 5 = 4 := by omega
      rcases this with g | g | g | g | g <;> rw [g]
      · exact .int _ _
      · exact .int _ _
      · exact .bool _
      · exact .int _ _
      · exact .int _ _
    · exact .slice (b' := k) (off := off) (sl := 0) (by simp [ρI]) (.inl rfl) hle
    · obtain ⟨k, pp, ww, nn, fd, e⟩ := hel i hi
      refine ⟨k, pp, ww, nn, fd, ?_⟩
      refine sub_get rfl (by rw [hn]; omega) fun j hj => ?_
      rw [hC _ (by omega), ← e]
      simp [List.getD_eq_getElem?_getD, hj]
end
end
end Go.Ab
