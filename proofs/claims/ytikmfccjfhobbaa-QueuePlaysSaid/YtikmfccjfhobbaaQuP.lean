/- Queue: calls that come in: where they lie, as a memory of one block. -/
import Derived.Test.YtikmfccjfhobbaaQuN
import Derived.Test.YtikmfccjfhobbaaQuQ
namespace Go.Ab
open Go.Proofs Go.RowKit Go.ChangeShapes
noncomputable section
set_option maxHeartbeats 1000000
def fl36 : List Field := match EE.P.underlying 36 with
  | some (.struct fs) => fs.toList
  | _ => []
def f360 : Field := fl36.getD 0 default
def f361 : Field := fl36.getD 1 default
def f362 : Field := fl36.getD 2 default
def f363 : Field := fl36.getD 3 default
theorem u34 : EE.P.underlying 34 = some (.slice 36) := by kernel_rfl
theorem u36 : EE.P.underlying 36 = some (.struct #[f360, f361, f362, f363]) := by kernel_rfl
theorem u3i : EE.P.underlying 3 = some (.int .i64) := by kernel_rfl
theorem u29 : EE.P.underlying 29 = some (.int .u32) := by kernel_rfl
theorem t36 : f360.type = 3 ∧ f361.type = 3 ∧ f362.type = 3 ∧ f363.type = 29 := ⟨by kernel_rfl, by kernel_rfl, by kernel_rfl, by kernel_rfl⟩
theorem o36 : f360.offset = 0 ∧ f361.offset = 1 ∧ f362.offset = 2 ∧ f363.offset = 3 := ⟨by kernel_rfl, by kernel_rfl, by kernel_rfl, by kernel_rfl⟩
theorem z36 : EE.P.cellsOf 36 = 4 ∧ EE.P.cellsOf 3 = 1 ∧ EE.P.cellsOf 29 = 1 := ⟨by kernel_rfl, by kernel_rfl, by kernel_rfl⟩
section
variable {H : Type} {enc : TypeId × Value → H} {w : World} {base : Nat} {spare : Nat → Bool} {held : Bool}
theorem u32_of {n : Int} (hw : (Lit.int .u32 n).wf = true) : ∃ a : BitVec 32, (Value.int .u32 n) = .int .u32 (a.toNat : Int) := by
  have h1 : 0 ≤ n ∧ n ≤ 4294967295 := by
    simp [Lit.wf, IntKind.min, IntKind.max, IntKind.signed, IntKind.bits] at hw
    omega
  refine ⟨BitVec.ofNat 32 n.toNat, ?_⟩
  rw [BitVec.toNat_ofNat]
  congr 1
  omega
theorem trod36 {n : Nat} {a b c d : Value} {y : DataW H × List MemPlace} (h : DataW.trod enc EE.P w base spare held n 36 [a, b, c, d] = some y) : ∃ (k p m : Int) (f : BitVec 32), a = In k ∧ b = In p ∧ c = In m ∧ d = Um f := by
  obtain ⟨xs, k, _, _, _, hx, hf⟩ := DataW.trod_struct u36 h
  have hx : xs.length = 4 := hx
  have h0 := hf 0 f360 (by kernel_rfl)
  have h1 := hf 1 f361 (by kernel_rfl)
  have h2 := hf 2 f362 (by kernel_rfl)
  have h3 := hf 3 f363 (by kernel_rfl)
  rw [t36.1, o36.1, z36.2.1, List.getElem?_eq_getElem (by omega)] at h0
  rw [t36.2.1, o36.2.1, z36.2.1, List.getElem?_eq_getElem (by omega)] at h1
  rw [t36.2.2.1, o36.2.2.1, z36.2.1, List.getElem?_eq_getElem (by omega)] at h2
  rw [t36.2.2.2, o36.2.2.2, z36.2.2, List.getElem?_eq_getElem (by omega)] at h3
  simp only [List.drop_succ_cons, List.drop_zero, List.take_succ_cons, List.take_zero] at h0 h1 h2 h3
  obtain ⟨k, e0, _⟩ := DataW.trod_int u3i h0
  obtain ⟨p, e1, _⟩ := DataW.trod_int u3i h1
  obtain ⟨m, e3, _⟩ := DataW.trod_int u3i h2
  obtain ⟨f, e4, _, hw⟩ := DataW.trod_int u29 h3
  obtain ⟨f', hf'⟩ := u32_of hw
  simp only [List.cons.injEq, and_true] at e0 e1 e3 e4
  exact ⟨k, p, m, f', e0, e1, e3, e4.trans hf'⟩
theorem open_ops {v : Value} {d : DataW H} {p : List MemPlace} {r : Reach} {b0 : Nat} (hval : Value.okWide EE.P w r b0 34 v) (h : DataW.Trod enc EE.P w base spare held 34 v d p) :
    ∃ (m : Mem) (l : Value) (ρ : Rho) (n : Nat), Rel Sig.none ρ m w ∧ Sealed m ∧ Fresh m ∧ VRel Sig.none ρ l v ∧ Ops m l n := by
  have hcell : ∃ a len cap, v = .slice a len cap ∧ (a = none → len = 0 ∧ cap = 0) ∧ len ≤ cap := by
    obtain ⟨a, len, cap, rfl⟩ := WideShapes.okWide_slice u34 hval
    obtain ⟨fuel, h1⟩ := id h
    refine ⟨a, len, cap, rfl, ?_⟩
    rcases DataW.trod_slice u34 h1 with ⟨e, _⟩ | ⟨a, len, cap, _, _, _, _, e, _, _, hle, _⟩
    · simp only [Value.cells, List.cons.injEq, and_true, Value.slice.injEq] at e
      obtain ⟨rfl, rfl, rfl⟩ := e
      exact ⟨fun _ => ⟨rfl, rfl⟩, Nat.le_refl _⟩
    · simp only [Value.cells, List.cons.injEq, and_true, Value.slice.injEq] at e
      obtain ⟨rfl, rfl, rfl⟩ := e
      exact ⟨fun e => (by cases e), hle⟩
  obtain ⟨a, len, cap, rfl, hn, hle⟩ := hcell
  rcases trod_cells (sz := 4) u34 (by kernel_rfl) (by decide) h with rfl | ⟨k, off, cs, tt, fz, rfl, h1, h2, h3⟩
  · cases a with
    | none =>
      obtain ⟨_, rfl⟩ := hn rfl
      exact ⟨m0, .slice none 0 0, ρ0, 0, m0_rel w, m0_sealed, m0_fresh, .nilSlice, _, _, rfl, .inl rfl⟩
    | some a => exact ⟨m0, .slice (some ⟨0, 0, some 0⟩) 0 0, ρ0, 0, m0_rel w, m0_sealed, m0_fresh, .lost a cap, _, _, rfl, .inl rfl⟩
  · have hel : ∀ i, i < len → ∃ (k p m : Int) (f : BitVec 32), (List.range 4).map (fun j => cs.getD (off + (i * 4 + j)) undef) = [In k, In p, In m, Um f] := fun i hi => by
      obtain ⟨n, y, h4⟩ := h3 i hi
      obtain ⟨k, p, m, f, e0, e1, e2, e3⟩ := trod36 h4
      refine ⟨k, p, m, f, ?_⟩
      show [_, _, _, _] = _
      rw [e0, e1, e2, e3]
    have hget : ∀ i j, i < len → j < 4 → ∃ (k p m : Int) (f : BitVec 32), cs.getD (off + (i * 4 + j)) undef = [In k, In p, In m, Um f].getD j undef := fun i j hi hj => by
      obtain ⟨k, p, m, f, e⟩ := hel i hi
      refine ⟨k, p, m, f, ?_⟩
      rw [← e]
      simp [List.getD_eq_getElem?_getD, hj]
    have hC : ∀ i, i < len * 4 → (Cells.ofList ((List.range (len * 4)).map fun j => cs.getD (off + j) undef)).get i = cs.getD (off + i) undef := fun i hi => by
      rw [get_ofList (by simpa using hi)]
      simp [List.getD_eq_getElem?_getD, hi]
    have hn : (Cells.ofList ((List.range (len * 4)).map fun j => cs.getD (off + j) undef)).n = len * 4 := by rw [ofList_n, List.length_map, List.length_range]
    refine ⟨memI (Cells.ofList ((List.range (len * 4)).map fun j => cs.getD (off + j) undef)), .slice (some ⟨64, 0, none⟩) len cap, ρI k off, len, memI_rel h1 (by rw [hn]; exact h2) (fun i hi => ?_), memI_sealed, memI_fresh, ?_, _, _, rfl, .inr ⟨64, _, _, _, rfl, by rw [memI_get, if_pos rfl], fun i hi => ?_⟩⟩
    · rw [hn] at hi
      rw [hC i hi]
      obtain ⟨k, p, m, f, e⟩ := hget (i / 4) (i % 4) (by omega) (Nat.mod_lt _ (by decide))
      rw [show i / 4 * 4 + i % 4 = i by omega] at e
      rw [e]
      have : i % 4 = 0 ∨ i % 4 = 1 ∨ i % 4 = 2 ∨ i % 4 = 3 := by omega
      rcases this with g | g | g | g <;> rw [g]
      · exact .int _ _
      · exact .int _ _
      · exact .int _ _
      · exact .int _ _
    · exact .slice (b' := k) (off := off) (sl := 0) (by simp [ρI]) (.inl rfl) hle
    · obtain ⟨k, p, m, f, e⟩ := hel i hi
      refine ⟨k, p, m, f, ?_⟩
      refine sub_get rfl (by rw [hn]; omega) fun j hj => ?_
      rw [hC _ (by omega), ← e]
      simp [List.getD_eq_getElem?_getD, hj]
end
end
end Go.Ab
