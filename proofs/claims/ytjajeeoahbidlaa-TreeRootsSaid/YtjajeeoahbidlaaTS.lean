/- Runs on open terms: slices.Sort of numbers, by the shelf's contract. -/
import Derived.Test.YtjajeeoahbidlaaTI
import Derived.Test.YtjajeeoahbidlaaAbU
import Derived.Shelf.SortM.Plain
import Derived.Shelf.SortM.SortNone
namespace Go.Ab
open Go.Shelf Go.Proofs Go.RowKit Go.Sort
noncomputable section
variable {P : Program} {ρs : Ren}
theorem isort_len (l : List Int) : (isort l).length = l.length := (isort_perm l).length_eq
/-- A slice of numbers, sorted in its place. -/
theorem sort_call (Ly : SlLaysM.n5 P ρs) {m : Mem} {b c : Nat} {cb : Cells} {l : List Int} (hb : m.get b = some (.cells cb true 1)) (hn : cb.n = c) (hlc : l.length ≤ c) (hc : ∀ x, x < l.length → cb.get x = .int .i64 (l.getD x 0)) (hl : l.length < 4294967296) :
    Con P (ρs.f 5) [.slice (some ⟨b, 0, none⟩) l.length c] m (.tuple [].toArray) (m.put b (.cells (cb.write 0 ((isort l).map fun n => .int .i64 n)) true 1)) := by
  refine ⟨fun ρ w args' hR ha => ?_, by simp, fun y hy e => ?_⟩
  · obtain ⟨x', hx'⟩ : ∃ x', args'.toList = [x'] := by
      have h1 := ha.1
      match hl : args'.toList with
      | [x'] => exact ⟨x', rfl⟩
      | [] => rw [hl] at h1; simp at h1
      | _ :: _ :: _ => rw [hl] at h1; simp at h1
    rw [hx'] at ha
    obtain rfl := arr_one hx'
    obtain ⟨B, off, sl, c', hρ, rfl, hcc, _⟩ := ha.head.slice_inv
    obtain ⟨cs, t, fz, h1, h2, h3, h4⟩ := (hR.obj b _ _ hb hρ : CellsRel Sig.none ρ w (B, off, sl) cb.list true 1)
    obtain rfl := h3.1 rfl
    rw [Cells.list_length] at h2 h4
    simp only at h1 h2 h4
    have hcell : ∀ j, j < l.length → cs[off + j]? = some (.int .i64 (l.getD j 0)) := fun j hj => by
      have := h4 j (by omega)
      rw [list_getD _ (by omega), hc j hj] at this
      have e := this.int_inv
      have hlt : off + j < cs.size := by omega
      rw [Array.getD_eq_getD_getElem?, Array.getElem?_eq_getElem hlt] at e
      rw [Array.getElem?_eq_getElem hlt]
      exact congrArg some e
    have hH : Holds (Value.int .i64) w B off l.toArray := fun j hj => by
      have hj' : j < l.length := by simpa using hj
      refine ⟨?_, ?_⟩
      · simp only [World.cell?, h1, Option.isSome_none, Bool.false_eq_true, if_false]
        rw [hcell j hj']
        congr 2
        rw [List.getD_eq_getElem?_getD]
        simp [hj']
      · simp only [World.frozen?, h1]
        simp
    have hB : B < w.heap.size := (Array.getElem?_eq_some_iff.1 h1).1
    refine callsIn_wide.2 ((AnyM.slices_Sort_int Ly B off c' l w hH hB (by omega)).mono ?_)
    rintro e w' ⟨rfl, n, os, rfl⟩
    have hsrt : l.mergeSort (fun x y => decide (x ≤ y)) = isort l := by rw [isort_eq]
    rw [hsrt]
    have hsl := isort_len l
    generalize isort l = s at hsl
    have ht : Turned w (putRow (Value.int .i64) (Sort.ahead w n) B off s.toArray) B (.cells (putCells (Value.int .i64) off s.toArray cs) t (0, 0)) := by
      refine ⟨?_, fun j hj => ?_, by simp [putRow, mapBlock, Sort.ahead], rfl, rfl, rfl⟩
      · simp [putRow, mapBlock, Sort.ahead, Array.getElem?_modify, h1, onCells]
      · simp only [putRow, mapBlock, Sort.ahead, Array.getElem?_modify]
        rw [if_neg fun e => hj e.symm]
    have hob : CellsRel Sig.none ρ (putRow (Value.int .i64) (Sort.ahead w n) B off s.toArray) (B, off, sl) (cb.write 0 (s.map fun n => .int .i64 n)).list true 1 := by
      refine ⟨_, t, (0, 0), ht.at_, ?_, ⟨fun _ => rfl, h3.2⟩, fun i hi => ?_⟩
      · rw [Cells.list_length, write_n]
        simpa [putCells] using h2
      · rw [Cells.list_length, write_n] at hi
        have hlt : off + i < cs.size := by omega
        rw [list_getD _ (by rw [write_n]; exact hi), get_write]
        have e1 : (putCells (Value.int .i64) off s.toArray cs).getD (off + i) undef = if i < s.length then .int .i64 (s.getD i 0) else cs.getD (off + i) undef := by
          rw [Array.getD_eq_getD_getElem?, Array.getD_eq_getD_getElem?]
          unfold putCells
          rw [Array.getElem?_mapIdx, Array.getElem?_eq_getElem hlt]
          simp only [Option.map_some, Option.getD_some, List.size_toArray]
          by_cases h : i < s.length
          · rw [if_pos (by omega), if_pos h, Nat.add_sub_cancel_left]
            congr 1
            rw [List.getD_eq_getElem?_getD]
            simp [h]
          · rw [if_neg (by omega), if_neg h]
        rw [e1]
        by_cases h : i < s.length
        · rw [if_pos (by simpa using h), if_pos h, Nat.sub_zero]
          rw [show (s.map fun n => Value.int .i64 n).getD i undef = .int .i64 (s.getD i 0) by simp [List.getD_eq_getElem?_getD, h]]
          exact .int _ _
        · rw [if_neg (by simpa using h), if_neg h]
          have := h4 i hi
          rw [list_getD _ hi] at this
          exact this
    have hp := Post.turn (ob' := .cells (cb.write 0 (s.map fun n => .int .i64 n)) true 1) hR hb hρ rfl ht hob
    refine ⟨_, ρ, rfl, .tuple rfl fun i hi => absurd hi (by simp), hp.trans (Post.under hp.rel ⟨rfl, rfl, rfl, by simp [grow], fun k hk => ?_⟩), fun _ _ e => e⟩
    simp only [grow]
    rw [Array.getElem?_append_left hk]
  · have : y ≠ b := fun e2 => by rw [e2, hb] at e; cases e
    rw [Mem.get_put, if_neg this, e]
/-- No elements. -/
theorem sort_none (Ly : SlLaysM.n5 P ρs) {m : Mem} {v : Value} (hv : v = .slice none 0 0 ∨ ∃ b c, v = .slice (some ⟨b, 0, none⟩) 0 c) : Con P (ρs.f 5) [v] m (.tuple [].toArray) m := by
  refine ⟨fun ρ w args' hR ha => ?_, Grow.rfl⟩
  obtain ⟨x', hx'⟩ : ∃ x', args'.toList = [x'] := by
    have h1 := ha.1
    match hl : args'.toList with
    | [x'] => exact ⟨x', rfl⟩
    | [] => rw [hl] at h1; simp at h1
    | _ :: _ :: _ => rw [hl] at h1; simp at h1
  rw [hx'] at ha
  obtain rfl := arr_one hx'
  obtain ⟨p, cap, rfl⟩ : ∃ p cap, x' = .slice p 0 cap := by
    rcases hv with rfl | ⟨b, c, rfl⟩
    · have h := ha.head
      cases h with
      | nilSlice => exact ⟨_, _, rfl⟩
    · obtain ⟨B, off, sl, c', hρ, rfl, _, _⟩ := ha.head.slice_inv
      exact ⟨_, _, rfl⟩
  refine callsIn_wide.2 ((AnyM.slices_Sort_int_none Ly p cap w).mono ?_)
  rintro e w' ⟨rfl, rfl⟩
  exact ⟨_, ρ, rfl, .tuple rfl fun i hi => absurd hi (by simp), Post.refl hR, fun _ _ e => e⟩
end
end Go.Ab
