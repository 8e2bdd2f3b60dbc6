/- Runs on open terms: maps.Clone, by the shelf's contract. -/
import Derived.Test.YtojfkjjacaellaaTO
import Derived.Test.YtojfkjjacaellaaAbU
import Derived.Shelf.SlMaps.Clone
namespace Go.Ab
open Go.Shelf Go.Proofs Go.RowKit
noncomputable section
variable {P : Program} {ρs : Ren}
theorem clone_map (L : SlLaysW.n5 P ρs) {m : Mem} {b : Nat} {es : List (Value × Value)} {rw_ : Bool} (hb : m.get b = some (.map es rw_)) : Con P (ρs.f 5) [.map (some b)] m (.map (some m.next)) ((m.bump 1).put m.next (.map es true)) := by
  refine ⟨fun ρ w args' hR ha => ?_, by simp, fun y hy e => ?_⟩
  · obtain ⟨x1, hx'⟩ : ∃ x1, args'.toList = [x1] := by
      have h1 := ha.1
      match hl : args'.toList with
      | [x1] => exact ⟨x1, rfl⟩
      | [] => rw [hl] at h1; simp at h1
      | _ :: _ :: _ => rw [hl] at h1; simp at h1
    have hargs : args' = #[x1] := by
      apply Array.toList_inj.1
      simpa using hx'
    rw [hx'] at ha
    have h := ha.2 0 (by simp)
    simp only [List.getD_cons_zero] at h
    subst hargs
    cases h with
    | map hp =>
      obtain ⟨es', ck, g1, g2, g3, g4⟩ := hR.obj b _ _ hb hp
      refine callsIn_wide.2 ((AnyW.maps_Clone L _ es' ck w g1).mono ?_)
      rintro e w' ⟨rfl, rfl⟩
      have hid := hR.dom m.next (Nat.le_refl _)
      have hB : Below w.heap.size w (w.alloc (.map es' ck)) := (Below.refl _ w).alloc (Nat.le_refl _) _
      have hext : Ext ρ (upd ρ m.next (w.heap.size, 0, 0)) := fun y x hy => by
        have : y ≠ m.next := fun e => by rw [e, hid] at hy; cases hy
        simpa [upd, this] using hy
      refine ⟨_, upd ρ m.next (w.heap.size, 0, 0), rfl, .map (upd_same ρ m.next (w.heap.size, 0, 0)), (Post.bump hR 1).trans (Post.lay (hR.bump 1) hB hid (by simp) (Nat.le_refl _) ?_), fun y hy e => ?_⟩
      · refine ⟨es', ck, (MapKept.heap_alloc w _).1, g2, g3, fun i e he => ?_⟩
        obtain ⟨e', k1, k2, k3⟩ := g4 i e he
        exact ⟨e', k1, k2.mono hext, k3.mono hext⟩
      · have : y ≠ m.next := by omega
        simpa [upd, this] using e
  · rw [Mem.get_put, if_neg (by omega)]; exact e
theorem clone_nil (L : SlLaysW.n5 P ρs) {m : Mem} : Con P (ρs.f 5) [.map none] m (.map none) m := by
  refine ⟨fun ρ w args' hR ha => ?_, Grow.rfl⟩
  obtain ⟨x1, hx'⟩ : ∃ x1, args'.toList = [x1] := by
    have h1 := ha.1
    match hl : args'.toList with
    | [x1] => exact ⟨x1, rfl⟩
    | [] => rw [hl] at h1; simp at h1
    | _ :: _ :: _ => rw [hl] at h1; simp at h1
  have hargs : args' = #[x1] := by
    apply Array.toList_inj.1
    simpa using hx'
  rw [hx'] at ha
  have h := ha.2 0 (by simp)
  simp only [List.getD_cons_zero] at h
  subst hargs
  cases h
  refine callsIn_wide.2 ((AnyW.maps_Clone_nil L w).mono ?_)
  rintro e w' ⟨rfl, rfl⟩
  exact ⟨_, ρ, rfl, .nilMap, Post.refl hR, fun _ _ e => e⟩
end
end Go.Ab
