/- Runs on open terms: slices.Grow of no slice, by the shelf's contract. -/
import Derived.Test.YtikmfccjfhobbaaTS
import Derived.Shelf.Spec.SlicesGrow
namespace Go.Ab
open Go.Shelf Go.Proofs Go.RowKit
noncomputable section
variable {P : Program} {ρs : Ren}
theorem zc_get {n i : Nat} (h : i < n) : (Builtin.zeroCells #[Value.int .i64 0] n)[i]? = some (.int .i64 0) := by
  unfold Builtin.zeroCells
  rw [Array.getElem?_map]
  simp [h, Nat.mod_one]
theorem zc_size {n : Nat} : (Builtin.zeroCells #[Value.int .i64 0] n).size = n := by
  unfold Builtin.zeroCells
  simp
theorem grow_call (L : Lays8.n4 P ρs) {i0 : TypeInfo} (hi0 : P.info? (ρs.t 25) = some i0) (hz0 : i0.zero = some (.int .i64 0)) (hs0 : i0.size = 1) (hb0 : i0.bytes = 8) {m : Mem} {n : Nat} (hn : 0 < n) (hn2 : n < 4294967296) :
    Con P (ρs.f 4) [.slice none 0 0, .int .i64 n] m (.slice (some ⟨m.next, 0, none⟩) 0 n) ((m.bump 1).put m.next (.cells (Cells.ofList (List.replicate n (.int .i64 0))) true 1)) := by
  refine ⟨fun ρ w args' hR ha => ?_, by simp, fun y hy e => ?_⟩
  · obtain ⟨x1, x2, hx'⟩ : ∃ x1 x2, args'.toList = [x1, x2] := by
      have h1 := ha.1
      match hl : args'.toList with
      | [x1, x2] => exact ⟨x1, x2, rfl⟩
      | [] => rw [hl] at h1; simp at h1
      | [_] => rw [hl] at h1; simp at h1
      | _ :: _ :: _ :: _ => rw [hl] at h1; simp at h1
    have hargs : args' = #[x1, x2] := by
      apply Array.toList_inj.1
      simpa using hx'
    rw [hx'] at ha
    have e1 : x1 = .slice none 0 0 := by
      have h := ha.2 0 (by simp)
      simp only [List.getD_cons_zero] at h
      cases h; rfl
    have e2 : x2 = .int .i64 n := by
      have h := ha.2 1 (by simp)
      simp only [List.getD_cons_succ, List.getD_cons_zero] at h
      exact h.int_inv
    subst e1 e2 hargs
    refine callsIn_wide.2 ((Any8.slices_Grow_grow L i0 (.int .i64 0) hi0 hz0 (by omega) none 0 0 n [] w (Nat.le_refl _) (by omega) (by rw [hb0]; omega) (by omega) (by simp) (fun _ => rfl) (fun a ha => by cases ha)).mono ?_)
    rintro e w' ⟨rfl, rfl⟩
    rw [Nat.zero_add]
    have hgc := grownCap_le w n 0 (ρs.t 25)
    obtain ⟨gc, hg⟩ : ∃ gc, gc = grownCap w n 0 (ρs.t 25) := ⟨_, rfl⟩
    rw [← hg] at hgc ⊢
    have hid := hR.dom m.next (Nat.le_refl _)
    have hB : RowKit.Below w.heap.size w (w.drew.alloc (.cells ([].toArray ++ Builtin.zeroCells #[Value.int .i64 0] (n - 0) ++ Builtin.zeroCells #[Value.int .i64 0] (gc - n)) (ρs.t 25))) :=
      ⟨rfl, rfl, rfl, by simp only [World.alloc, World.drew, Array.size_push]; omega, fun k hk => by
        simp only [World.alloc, World.drew, Array.getElem?_push]
        rw [if_neg (by omega)]⟩
    refine ⟨_, upd ρ m.next (w.heap.size, 0, gc - n), rfl, ?_, (Post.bump hR 1).trans (Post.lay (hR.bump 1) hB hid (by simp) (Nat.le_refl _) ?_), fun b hb e => ?_⟩
    · have := VRel.slice (σ := Sig.none) (o := 0) (upd_same ρ m.next (w.heap.size, 0, gc - n)) (n := 0) (c := n) (c' := gc) (.inr (by omega)) (Nat.zero_le _)
      simpa using this
    · show CellsRel _ _ _ _ (Cells.ofList _).list true 1
      rw [Cells.ofList_list]
      refine ⟨_, _, (0, 0), by simp only [World.alloc, World.drew, Array.getElem?_push, if_true]; rfl, ?_, ⟨fun _ => rfl, fun e => absurd e (by omega)⟩, fun i hi => ?_⟩
      · simp only [List.length_replicate]
        show 0 + n + (gc - n) * 1 ≤ _
        have e3 : (Value.cells (.int .i64 0)) = #[Value.int .i64 0] := rfl
        simp only [e3, Array.size_append, zc_size, List.size_toArray, List.length_nil]
        omega
      · simp only [List.length_replicate] at hi
        rw [List.getD_eq_getElem?_getD, List.getElem?_replicate, if_pos hi, Array.getD_eq_getD_getElem?]
        show VRel _ _ _ ((_ : Option Value).getD undef)
        rw [show (w.heap.size, 0, gc - n).snd.fst + i = i from Nat.zero_add i]
        rw [Array.getElem?_append_left (by rw [Array.size_append, zc_size]; simp; omega)]
        rw [show ([].toArray ++ Builtin.zeroCells #[Value.int .i64 0] (n - 0)) = Builtin.zeroCells #[Value.int .i64 0] n by simp, zc_get hi]
        exact .int _ _
    · have : b ≠ m.next := by omega
      simpa [upd, this] using e
  · rw [Mem.get_put, if_neg (by omega)]; exact e
theorem grow_zero (L : Lays8.n4 P ρs) {m : Mem} : Con P (ρs.f 4) [.slice none 0 0, .int .i64 0] m (.slice none 0 0) m := by
  refine ⟨fun ρ w args' hR ha => ?_, Grow.rfl⟩
  obtain ⟨x1, x2, hx'⟩ : ∃ x1 x2, args'.toList = [x1, x2] := by
    have h1 := ha.1
    match hl : args'.toList with
    | [x1, x2] => exact ⟨x1, x2, rfl⟩
    | [] => rw [hl] at h1; simp at h1
    | [_] => rw [hl] at h1; simp at h1
    | _ :: _ :: _ :: _ => rw [hl] at h1; simp at h1
  have hargs : args' = #[x1, x2] := by
    apply Array.toList_inj.1
    simpa using hx'
  rw [hx'] at ha
  have e1 : x1 = .slice none 0 0 := by
    have h := ha.2 0 (by simp)
    simp only [List.getD_cons_zero] at h
    cases h; rfl
  have e2 : x2 = .int .i64 ((0 : Nat) : Int) := by
    have h := ha.2 1 (by simp)
    simp only [List.getD_cons_succ, List.getD_cons_zero] at h
    exact h.int_inv
  subst e1 e2 hargs
  refine callsIn_wide.2 ((Any8.slices_Grow_room L none 0 0 0 w (Nat.le_refl _) (by omega) (by omega) (by omega)).mono ?_)
  rintro e w' ⟨rfl, rfl⟩
  exact ⟨_, ρ, rfl, .nilSlice, Post.refl hR, fun _ _ e => e⟩
end
end Go.Ab
