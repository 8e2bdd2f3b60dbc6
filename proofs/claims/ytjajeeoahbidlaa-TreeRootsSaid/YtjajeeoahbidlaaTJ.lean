/- Runs on open terms: slices that come in: what the reading of an argument says of its cells; a memory with one block that came in. -/
import Derived.Test.YtjajeeoahbidlaaTI
import Derived.WalkKit
import Derived.ProofKit
import Derived.OpenShut
import Derived.ChangeOld
import Derived.Carry
namespace Go.Ab
open Go.RowKit Go.ChangeShapes
section
variable {H : Type} {enc : TypeId × Value → H} {P : Program} {w : World} {base : Nat} {spare : Nat → Bool} {held : Bool}

theorem cell_of {w : World} {a : Addr} {v : Value} (h : w.cell? a = some v) : ∃ cs t fz, w.heap[a.block]? = some (.cells cs t fz) ∧ a.spot = none ∧ cs[a.off]? = some v := by
  unfold World.cell? at h
  split at h
  · rename_i cs t fz hh
    split at h
    · cases h
    · rename_i hs
      exact ⟨cs, t, fz, hh, by simpa using hs, h⟩
  · cases h
theorem add_block (a : Addr) (n : Nat) : (a.add n).block = a.block := by unfold Addr.add; split <;> rfl
theorem add_off (a : Addr) (n : Nat) : (a.add n).off = a.off + n := by unfold Addr.add; split <;> simp_all

/-- A slice: its elements' cells, and where they lie. -/
theorem trod_cells {t e : TypeId} {sz : Nat} {a : Option Addr} {len cap : Nat} {d : DataW H} {ps : List MemPlace} (ht : P.underlying t = some (.slice e)) (hc : P.cellsOf e = sz) (hsz : 0 < sz) (h : DataW.Trod enc P w base spare held t (.slice a len cap) d ps) :
    (len = 0) ∨ ∃ k off cs tt fz, a = some ⟨k, off, none⟩ ∧ w.heap[k]? = some (.cells cs tt fz) ∧ off + len * sz ≤ cs.size ∧
      ∀ i, i < len → ∃ n y, DataW.trod enc P w base spare held n e ((List.range sz).map fun j => cs.getD (off + (i * sz + j)) undef) = some y := by
  obtain ⟨fuel, h⟩ := h
  rcases DataW.trod_slice ht h with ⟨h1, _⟩ | ⟨a', len', cap', elems, rest, n, rfl, h1, _, _, _, _, hl, hel, _⟩
  · simp only [Value.cells, List.cons.injEq, and_true, Value.slice.injEq] at h1
    exact .inl h1.2.1
  · simp only [Value.cells, List.cons.injEq, and_true, Value.slice.injEq] at h1
    obtain ⟨rfl, rfl, rfl⟩ := h1
    rcases Nat.eq_zero_or_pos len with h0 | hpos
    · exact .inl h0
    right
    rw [hc] at hel
    -- one element
    have key : ∀ i, i < len → ∃ y l, w.cells? base (a'.add (i * sz)) sz = some l ∧ DataW.trod enc P w base spare held n e l = some y ∧ l.length = sz ∧ ∀ j, j < sz → w.cell? ((a'.add (i * sz)).add j) = l[j]? := by
      intro i hi
      have h2 := hel i hi
      rw [List.getElem?_eq_getElem (by omega), Option.bind_eq_some_iff] at h2
      obtain ⟨l, h3, h4⟩ := h2
      have h5 := h3
      unfold World.cells? at h5
      split at h5
      · refine ⟨_, l, h3, h4, by simpa using mapM_some_length h5, fun j hj => ?_⟩
        exact mapM_some_get h5 j j (by simp [hj])
      · cases h5
    -- where they lie
    obtain ⟨y, l, _, _, hl0, hc0⟩ := key 0 hpos
    have hz := hc0 0 hsz
    rw [List.getElem?_eq_getElem (by omega)] at hz
    obtain ⟨cs, tt, fz, g1, g2, _⟩ := cell_of hz
    have hb : ((a'.add (0 * sz)).add 0).block = a'.block := by rw [add_block, add_block]
    rw [hb] at g1
    have hspot : a'.spot = none := by simpa [Addr.add] using g2
    have hcell : ∀ i, i < len → ∃ y l, DataW.trod enc P w base spare held n e l = some y ∧ l.length = sz ∧ ∀ j, j < sz → cs[a'.off + (i * sz + j)]? = l[j]? := by
      intro i hi
      obtain ⟨y, l, _, h4, hl1, hj⟩ := key i hi
      refine ⟨y, l, h4, hl1, fun j hj' => ?_⟩
      have hc := hj j hj'
      rw [List.getElem?_eq_getElem (by omega)] at hc
      obtain ⟨cs', _, _, k1, _, k3⟩ := cell_of hc
      rw [add_block, add_block, g1] at k1
      cases k1
      rw [add_off, add_off] at k3
      rw [List.getElem?_eq_getElem (by omega), ← k3, Nat.add_assoc]
    refine ⟨a'.block, a'.off, cs, tt, fz, by cases a'; simp_all, g1, ?_, fun i hi => ?_⟩
    · obtain ⟨_, l, _, hl1, hj⟩ := hcell (len - 1) (by omega)
      have := hj (sz - 1) (by omega)
      rw [List.getElem?_eq_getElem (by omega)] at this
      have hlt := (Array.getElem?_eq_some_iff.1 this).1
      have e1 : (len - 1) * sz + sz = len * sz := by rw [← Nat.succ_mul]; congr 1; omega
      omega
    · obtain ⟨y, l, h4, hl1, hj⟩ := hcell i hi
      have e : ((List.range sz).map fun j => cs.getD (a'.off + (i * sz + j)) undef) = l := by
        apply List.ext_getElem
        · simp [hl1]
        · intro j h1 h2
          have hj' : j < sz := by simpa using h1
          have := hj j hj'
          rw [List.getElem?_eq_getElem (by omega)] at this
          simp only [List.getElem_map, List.getElem_range]
          rw [Array.getD_eq_getD_getElem?, this]
          rfl
      exact ⟨n, y, by rw [e]; exact h4⟩
end
/-- Block 64 is the slice's. -/
def ρI (k off : Nat) : Rho := fun b => if b < 64 then some (b, 0, 0) else if b = 64 then some (k, off, 0) else none
noncomputable section
def memI (C : Cells) : Mem := (m0.put 64 (.cells C false 1)).bump 1
theorem memI_get {C : Cells} (b : Nat) : (memI C).get b = if b = 64 then some (.cells C false 1) else none := by
  unfold memI
  rw [Mem.get_bump, Mem.get_put]
  rfl
theorem memI_next {C : Cells} : (memI C).next = 65 := rfl
theorem memI_sealed {C : Cells} : Sealed (memI C) := fun b o hb => by
  rw [memI_get] at hb
  split at hb
  · cases hb; rfl
  · cases hb
theorem memI_fresh {C : Cells} : Fresh (memI C) := ⟨by rw [memI_next]; decide, fun b hb => by
  rw [memI_next] at hb
  rw [memI_get, if_neg (by omega)]⟩
theorem m0_fresh : Fresh m0 := ⟨Nat.le_refl _, fun _ _ => rfl⟩
theorem memI_rel {C : Cells} {w : World} {k off : Nat} {cs : Array Value} {t : TypeId} {fz : Nat × Nat} (h1 : w.heap[k]? = some (.cells cs t fz)) (h2 : off + C.n ≤ cs.size) (h3 : ∀ i, i < C.n → VRel Sig.none (ρI k off) (C.get i) (cs.getD (off + i) undef)) :
    Rel Sig.none (ρI k off) (memI C) w := by
  refine ⟨fun b hb => ?_, fun g hg => by simp [ρI, hg], fun b o x hb hx => ?_, fun b1 b2 o1 o2 x1 x2 hne g1 g2 k1 k2 hw => ?_, fun b hb => ?_⟩
  · have hb : 65 ≤ b := hb
    have e1 : ¬ b < 64 := by omega
    have e2 : b ≠ 64 := by omega
    simp [ρI, e1, e2]
  · rw [memI_get] at hb
    split at hb
    · rename_i e
      subst e
      cases hb
      simp [ρI] at hx
      subst hx
      refine ⟨cs, t, fz, h1, by rw [Cells.list_length]; simpa using h2, ⟨fun e => (by cases e), fun e => (by cases e)⟩, fun i hi => ?_⟩
      rw [Cells.list_length] at hi
      rw [list_getD _ hi]
      exact h3 i hi
    · cases hb
  · rw [memI_get] at g1
    split at g1
    · cases g1; cases hw
    · cases g1
  · exact memI_fresh.none b hb
/-- A law's call. -/
theorem Con.calls {P : Program} {f : FuncId} {args : List Value} {args' : Array Value} {m m' : Mem} {b : Bool} {ρ : Rho} {w : World} (h : Con P f args m (.bool b) m') (hs : Sealed m) (hR : Rel Sig.none ρ m w) (ha : LRel Sig.none ρ args args'.toList) :
    CallsIn Fence.wide 0 P f args' w fun e w' => e = .returned (.bool b) ∧ RowKit.Below w.heap.size w w' := by
  refine (h.1 ρ w args' hR ha).mono ?_
  rintro e w' ⟨v', ρ', rfl, hr, hp, _⟩
  cases hr
  exact ⟨rfl, hp.below hs⟩
end
end Go.Ab
