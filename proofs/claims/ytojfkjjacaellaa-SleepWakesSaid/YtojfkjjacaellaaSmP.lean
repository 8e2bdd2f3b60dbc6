/- Sleep: pairs of bytes that come in: where they lie, as a memory of one block. -/
import Derived.Test.YtojfkjjacaellaaSmL
import Derived.Test.YtojfkjjacaellaaSmNO
namespace Go.Ab
open Go.Proofs Go.RowKit Go.ChangeShapes
noncomputable section
set_option maxHeartbeats 1000000
theorem w22 : EE.P.underlying 22 = some (.slice 29) := by kernel_rfl
theorem w29 : EE.P.underlying 29 = some (.array 2 5) := by kernel_rfl
theorem w5 : EE.P.underlying 5 = some (.int .u8) := by kernel_rfl
theorem zz5 : EE.P.cellsOf 5 = 1 := by kernel_rfl
section
variable {H : Type} {enc : TypeId × Value → H} {w : World} {base : Nat} {spare : Nat → Bool} {held : Bool}
theorem u8_of {n : Int} (hw : (Lit.int .u8 n).wf = true) : ∃ a : Nat, a < 256 ∧ (Value.int .u8 n) = .int .u8 (a : Int) := by
  obtain ⟨h1, h2⟩ := bounds_u8 hw
  exact ⟨n.toNat, by omega, by rw [Int.toNat_of_nonneg h1]⟩
theorem trod29 {n : Nat} {a b : Value} {y : DataW H × List MemPlace} (h : DataW.trod enc EE.P w base spare held n 29 [a, b] = some y) : ∃ fa fb : Nat, fa < 256 ∧ fb < 256 ∧ a = .int .u8 (fa : Int) ∧ b = .int .u8 (fb : Int) := by
  obtain ⟨zs, k, rfl, rfl, hl2, hz, hzs⟩ := DataW.trod_array w29 h
  have h0 := hzs 0 (by decide)
  have h1 := hzs 1 (by decide)
  rw [zz5, List.getElem?_eq_getElem (by omega)] at h0 h1
  simp only [Nat.zero_mul, Nat.one_mul, List.drop_succ_cons, List.drop_zero, List.take_succ_cons, List.take_zero] at h0 h1
  obtain ⟨k, e0, _, q0⟩ := DataW.trod_int w5 h0
  obtain ⟨p, e1, _, q1⟩ := DataW.trod_int w5 h1
  simp only [List.cons.injEq, and_true] at e0 e1
  obtain ⟨fa, a1, a2⟩ := u8_of q0
  obtain ⟨fb, b1, b2⟩ := u8_of q1
  exact ⟨fa, fb, a1, b1, e0.trans a2, e1.trans b2⟩
theorem open_ops2 {v : Value} {d : DataW H} {p : List MemPlace} {r : Reach} {b0 : Nat} (hval : Value.okWide EE.P w r b0 22 v) (h : DataW.Trod enc EE.P w base spare held 22 v d p) :
    ∃ (m : Mem) (l : Value) (ρ : Rho) (n : Nat), Rel Sig.none ρ m w ∧ Sealed m ∧ Fresh m ∧ VRel Sig.none ρ l v ∧ Ops2 m l n := by
  have hcell : ∃ a len cap, v = .slice a len cap ∧ (a = none → len = 0 ∧ cap = 0) ∧ len ≤ cap := by
    obtain ⟨a, len, cap, rfl⟩ := WideShapes.okWide_slice w22 hval
    obtain ⟨fuel, h1⟩ := id h
    refine ⟨a, len, cap, rfl, ?_⟩
    rcases DataW.trod_slice w22 h1 with ⟨e, _⟩ | ⟨a, len, cap, _, _, _, _, e, _, _, hle, _⟩
    · simp only [Value.cells, List.cons.injEq, and_true, Value.slice.injEq] at e
      obtain ⟨rfl, rfl, rfl⟩ := e
      exact ⟨fun _ => ⟨rfl, rfl⟩, Nat.le_refl _⟩
    · simp only [Value.cells, List.cons.injEq, and_true, Value.slice.injEq] at e
      obtain ⟨rfl, rfl, rfl⟩ := e
      exact ⟨fun e => (by cases e), hle⟩
  obtain ⟨a, len, cap, rfl, hn, hle⟩ := hcell
  rcases trod_cells (sz := 2) w22 (by kernel_rfl) (by decide) h with rfl | ⟨k, off, cs, tt, fz, rfl, h1, h2, h3⟩
  · cases a with
    | none =>
      obtain ⟨_, rfl⟩ := hn rfl
      exact ⟨m0, .slice none 0 0, ρ0, 0, m0_rel w, m0_sealed, m0_fresh, .nilSlice, _, _, rfl, .inl rfl⟩
    | some a => exact ⟨m0, .slice (some ⟨0, 0, some 0⟩) 0 0, ρ0, 0, m0_rel w, m0_sealed, m0_fresh, .lost a cap, _, _, rfl, .inl rfl⟩
  · have hel : ∀ i, i < len → ∃ fa fb : Nat, fa < 256 ∧ fb < 256 ∧ (List.range 2).map (fun j => cs.getD (off + (i * 2 + j)) undef) = [.int .u8 (fa : Int), .int .u8 (fb : Int)] := fun i hi => by
      obtain ⟨n, y, h4⟩ := h3 i hi
      obtain ⟨fa, fb, a1, b1, e0, e1⟩ := trod29 h4
      refine ⟨fa, fb, a1, b1, ?_⟩
      show [_, _] = _
      rw [e0, e1]
    have hget : ∀ i j, i < len → j < 2 → ∃ fa fb : Nat, cs.getD (off + (i * 2 + j)) undef = [Value.int .u8 (fa : Int), .int .u8 (fb : Int)].getD j undef := fun i j hi hj => by
      obtain ⟨fa, fb, _, _, e⟩ := hel i hi
      refine ⟨fa, fb, ?_⟩
      rw [← e]
      simp [List.getD_eq_getElem?_getD, hj]
    have hC : ∀ i, i < len * 2 → (Cells.ofList ((List.range (len * 2)).map fun j => cs.getD (off + j) undef)).get i = cs.getD (off + i) undef := fun i hi => by
      rw [get_ofList (by simpa using hi)]
      simp [List.getD_eq_getElem?_getD, hi]
    have hn : (Cells.ofList ((List.range (len * 2)).map fun j => cs.getD (off + j) undef)).n = len * 2 := by rw [ofList_n, List.length_map, List.length_range]
    have hch : ∃ fa fb : Nat → Nat, ∀ i, i < len → fa i < 256 ∧ fb i < 256 ∧ (List.range 2).map (fun j => cs.getD (off + (i * 2 + j)) undef) = [.int .u8 (fa i : Int), .int .u8 (fb i : Int)] := by
      have h1 : ∀ i, ∃ q : Nat × Nat, i < len → q.1 < 256 ∧ q.2 < 256 ∧ (List.range 2).map (fun j => cs.getD (off + (i * 2 + j)) undef) = [.int .u8 (q.1 : Int), .int .u8 (q.2 : Int)] := fun i => by
        by_cases hi : i < len
        · obtain ⟨fa, fb, h⟩ := hel i hi
          exact ⟨(fa, fb), fun _ => h⟩
        · exact ⟨(0, 0), fun h => absurd h hi⟩
      exact ⟨fun i => (Classical.choose (h1 i)).1, fun i => (Classical.choose (h1 i)).2, fun i hi => Classical.choose_spec (h1 i) hi⟩
    obtain ⟨fa, fb, hf⟩ := hch
    refine ⟨memI (Cells.ofList ((List.range (len * 2)).map fun j => cs.getD (off + j) undef)), .slice (some ⟨64, 0, none⟩) len cap, ρI k off, len, memI_rel h1 (by rw [hn]; exact h2) (fun i hi => ?_), memI_sealed, memI_fresh, ?_, _, _, rfl, .inr ⟨64, _, _, _, rfl, by rw [memI_get, if_pos rfl], fa, fb, fun i hi => ?_⟩⟩
    · rw [hn] at hi
      rw [hC i hi]
      obtain ⟨fa, fb, e⟩ := hget (i / 2) (i % 2) (by omega) (Nat.mod_lt _ (by decide))
      rw [show i / 2 * 2 + i % 2 = i by omega] at e
      rw [e]
      have : i % 2 = 0 ∨ i % 2 = 1 := by omega
      rcases this with g | g <;> rw [g]
      · exact .int _ _
      · exact .int _ _
    · exact .slice (b' := k) (off := off) (sl := 0) (by simp [ρI]) (.inl rfl) hle
    · obtain ⟨a1, b1, e⟩ := hf i hi
      refine ⟨a1, b1, ?_⟩
      refine sub_get rfl (by rw [hn]; omega) fun j hj => ?_
      rw [hC _ (by omega), ← e]
      simp [List.getD_eq_getElem?_getD, hj]
end
end
end Go.Ab
