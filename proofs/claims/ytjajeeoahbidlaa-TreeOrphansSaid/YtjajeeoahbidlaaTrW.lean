/- Tree: trees of children: plain laws. -/
import Derived.Test.YtjajeeoahbidlaaTrBD
namespace Go.Ab
noncomputable section
section
variable {L : TL} {p q x a pid : Int} {i j k : Nat}
theorem nodup_le : ∀ {l m : List Int}, l.Nodup → (∀ x ∈ l, x ∈ m) → l.length ≤ m.length
  | [], _, _, _ => Nat.zero_le _
  | y :: l, m, h, hs => by
    obtain ⟨h1, h2⟩ := List.nodup_cons.1 h
    have hy : y ∈ m := hs y List.mem_cons_self
    have ih := nodup_le (l := l) (m := m.erase y) h2 fun x hx => (List.mem_erase_of_ne (fun e => h1 (by rw [← e]; exact hx))).2 (hs x (List.mem_cons_of_mem _ hx))
    rw [List.length_erase_of_mem hy] at ih
    have : 0 < m.length := List.length_pos_of_mem hy
    simp only [List.length_cons]
    omega
theorem mem_ks : x ∈ ks L ↔ x ∈ mkeys L := (isort_perm _).mem_iff
theorem mem_kids : x ∈ kids L a ↔ x ∈ mkeys L ∧ 0 < a ∧ (at_ L x).1 = a := by
  unfold kids
  rw [List.mem_filter, mem_ks]
  unfold kid
  rw [Bool.and_eq_true, decide_eq_true_eq, decide_eq_true_eq]
/-- Parents are there, and less. -/
structure Par (L : TL) : Prop where
  nd : (mkeys L).Nodup
  pos : ∀ q ∈ mkeys L, 1 ≤ q
  one : (at_ L 1).1 = 0
  par : ∀ q ∈ mkeys L, q ≠ 1 → (at_ L q).1 ∈ mkeys L ∧ (at_ L q).1 < q
theorem Par.lt (h : Par L) (hq : q ∈ mkeys L) : (at_ L q).1 < q := by
  by_cases e : q = 1
  · rw [e, h.one]; omega
  · exact (h.par q hq e).2
theorem ks_nodup (h : (mkeys L).Nodup) : (ks L).Nodup := (isort_perm _).nodup_iff.2 h
theorem kids_nodup (h : (mkeys L).Nodup) : (kids L a).Nodup := (ks_nodup h).sublist List.filter_sublist
/-- The tree, as it grows. -/
def bst (L : TL) (pid : Int) : Nat → List Int
  | 0 => [pid]
  | i + 1 => bst L pid i ++ (if i < (bst L pid i).length then kids L ((bst L pid i).getD i 0) else [])
theorem bst_more (h : i < (bst L pid i).length) : bst L pid (i + 1) = bst L pid i ++ kids L ((bst L pid i).getD i 0) := by
  conv => lhs; unfold bst
  rw [if_pos h]
theorem bst_stop (h : ¬ i < (bst L pid i).length) : bst L pid (i + 1) = bst L pid i := by
  conv => lhs; unfold bst
  rw [if_neg h, List.append_nil]
theorem getD_mem {l : List Int} (h : i < l.length) : l.getD i 0 ∈ l := by
  rw [List.getD_eq_getElem?_getD, List.getElem?_eq_getElem h]
  exact List.getElem_mem h
theorem getD_app {l m : List Int} (h : i < l.length) : (l ++ m).getD i 0 = l.getD i 0 := by
  rw [List.getD_eq_getElem?_getD, List.getD_eq_getElem?_getD, List.getElem?_append_left h]
theorem nodup_getD {l : List Int} (h : l.Nodup) (hi : i < l.length) (hj : j < l.length) (e : l.getD i 0 = l.getD j 0) : i = j := by
  rw [List.getD_eq_getElem?_getD, List.getD_eq_getElem?_getD, List.getElem?_eq_getElem hi, List.getElem?_eq_getElem hj] at e
  have e2 : l[i] = l[j] := e
  rcases Nat.lt_trichotomy i j with h1 | h1 | h1
  · exact absurd e2 (List.pairwise_iff_getElem.1 h i j hi hj h1)
  · exact h1
  · exact absurd e2.symm (List.pairwise_iff_getElem.1 h j i hj hi h1)
structure BI (L : TL) (pid : Int) (i : Nat) (l : List Int) : Prop where
  nd : l.Nodup
  mem : ∀ x ∈ l, x ∈ mkeys L ∧ pid ≤ x ∧ (x = pid ∨ ∃ j, j < i ∧ j < l.length ∧ l.getD j 0 = (at_ L x).1)
  top : pid ∈ l
  clo : ∀ j, j < i → j < l.length → ∀ c ∈ kids L (l.getD j 0), c ∈ l
theorem bst_inv (hP : Par L) (hp : pid ∈ mkeys L) : ∀ i, BI L pid i (bst L pid i)
  | 0 => ⟨List.nodup_cons.2 ⟨fun h => (by cases h), List.nodup_nil⟩, fun x hx => by
      have : x = pid := List.mem_singleton.1 hx
      subst this
      exact ⟨hp, Int.le_refl _, .inl rfl⟩, List.mem_singleton.2 rfl, fun j hj => absurd hj (Nat.not_lt_zero _)⟩
  | i + 1 => by
    have ih := bst_inv hP hp i
    by_cases hi : i < (bst L pid i).length
    · rw [bst_more hi]
      generalize hl : bst L pid i = l at ih hi
      have ha := getD_mem hi
      obtain ⟨a1, a2, _⟩ := ih.mem _ ha
      have hdis : ∀ x ∈ l, x ∉ kids L (l.getD i 0) := fun x hx hk => by
        obtain ⟨k1, k2, k3⟩ := mem_kids.1 hk
        obtain ⟨x1, x2, x3 | ⟨j, j1, j2, j3⟩⟩ := ih.mem x hx
        · have := hP.lt x1
          omega
        · have := nodup_getD ih.nd j2 hi (j3.trans k3)
          omega
      refine ⟨List.nodup_append.2 ⟨ih.nd, kids_nodup hP.nd, fun x hx y hy e => hdis x hx (e ▸ hy)⟩, fun x hx => ?_, List.mem_append.2 (.inl ih.top), fun j hj hj2 c hc => ?_⟩
      · rcases List.mem_append.1 hx with hx | hx
        · obtain ⟨x1, x2, x3⟩ := ih.mem x hx
          refine ⟨x1, x2, x3.imp id fun ⟨j, j1, j2, j3⟩ => ⟨j, by omega, by rw [List.length_append]; omega, by rw [getD_app j2, j3]⟩⟩
        · obtain ⟨k1, k2, k3⟩ := mem_kids.1 hx
          have := hP.lt k1
          exact ⟨k1, by omega, .inr ⟨i, by omega, by rw [List.length_append]; omega, by rw [getD_app hi, k3]⟩⟩
      · by_cases e : j = i
        · subst e
          rw [getD_app hi] at hc
          exact List.mem_append.2 (.inr hc)
        · by_cases h2 : j < l.length
          · rw [getD_app h2] at hc
            exact List.mem_append.2 (.inl (ih.clo j (by omega) h2 c hc))
          · omega
    · rw [bst_stop hi]
      exact ⟨ih.nd, fun x hx => by
        obtain ⟨x1, x2, x3⟩ := ih.mem x hx
        exact ⟨x1, x2, x3.imp id fun ⟨j, j1, j2, j3⟩ => ⟨j, by omega, j2, j3⟩⟩, ih.top, fun j hj hj2 c hc => ih.clo j (by omega) hj2 c hc⟩
theorem bst_len (hP : Par L) (hp : pid ∈ mkeys L) : (bst L pid i).length ≤ L.length := by
  have h := bst_inv hP hp i
  have := nodup_le h.nd fun x hx => (h.mem x hx).1
  rwa [List.length_map] at this
theorem bst_end (hi : ¬ i < (bst L pid i).length) : ∀ k, bst L pid (i + k) = bst L pid i
  | 0 => rfl
  | k + 1 => by
    have ih := bst_end hi k
    rw [show i + (k + 1) = (i + k) + 1 by omega, bst_stop (by rw [ih]; omega), ih]
/-- A process' tree, rising. -/
def treeL (L : TL) (pid : Int) : List Int := if (at_ L pid).2.1 = 0 then [] else isort (bst L pid L.length)
theorem tree_at (hP : Par L) (hp : pid ∈ mkeys L) (hi : i ≤ L.length) (hs : ¬ i < (bst L pid i).length) : bst L pid L.length = bst L pid i := by
  have := bst_end hs (L.length - i)
  rwa [show i + (L.length - i) = L.length by omega] at this
theorem tree_mem (hP : Par L) (hp : pid ∈ mkeys L) : BI L pid L.length (bst L pid L.length) ∧ ∀ x ∈ bst L pid L.length, ∀ c ∈ kids L x, c ∈ bst L pid L.length := by
  have h := bst_inv hP hp L.length
  have hl := bst_len hP hp (i := L.length)
  refine ⟨h, fun x hx c hc => ?_⟩
  obtain ⟨j, h1, h2⟩ := List.mem_iff_getElem.1 hx
  refine h.clo j (by omega) h1 c ?_
  rw [List.getD_eq_getElem?_getD, List.getElem?_eq_getElem h1]
  rw [← h2] at hc
  exact hc
end
end
end Go.Ab
