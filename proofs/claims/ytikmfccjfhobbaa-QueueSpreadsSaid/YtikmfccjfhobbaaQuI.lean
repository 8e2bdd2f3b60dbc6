/- Queue: the plain law of QueueSpreads: lists of pids, no program in sight. -/
import Derived.Test.YtikmfccjfhobbaaQuH
namespace Go.Ab
def tot (c : Nat) (l : Nat → List Int) : Nat := ((List.range c).map fun k => (l k).length).sum
theorem tot_succ {c : Nat} {l : Nat → List Int} : tot (c + 1) l = tot c l + (l c).length := by
  unfold tot
  rw [List.range_succ, List.map_append, List.sum_append]
  simp
theorem tot_same {l l2 : Nat → List Int} : ∀ {c : Nat}, (∀ k, k < c → l2 k = l k) → tot c l2 = tot c l
  | 0, _ => rfl
  | c + 1, h => by rw [tot_succ, tot_succ, tot_same fun k hk => h k (by omega), h c (by omega)]
theorem tot_upd {l : Nat → List Int} {k : Nat} {l' : List Int} : ∀ {c : Nat}, k < c → tot c (updL l k l') + (l k).length = tot c l + l'.length
  | 0, h => absurd h (Nat.not_lt_zero _)
  | c + 1, h => by
    rw [tot_succ, tot_succ]
    by_cases e : k = c
    · subst e
      rw [tot_same (l := l) fun j hj => by unfold updL; rw [if_neg (by omega)]]
      have : updL l k l' k = l' := by unfold updL; rw [if_pos rfl]
      rw [this]
      omega
    · have := tot_upd (l := l) (l' := l') (k := k) (c := c) (by omega)
      have e2 : updL l k l' c = l c := by unfold updL; rw [if_neg fun e' => e e'.symm]
      rw [e2]
      omega
theorem len_tot {l : Nat → List Int} {k : Nat} : ∀ {c : Nat}, k < c → (l k).length ≤ tot c l
  | 0, h => absurd h (Nat.not_lt_zero _)
  | c + 1, h => by
    rw [tot_succ]
    by_cases e : k = c
    · subst e; omega
    · have := len_tot (l := l) (k := k) (c := c) (by omega); omega
theorem tot_nil : ∀ {c : Nat}, tot c (fun _ => []) = 0
  | 0 => rfl
  | c + 1 => by rw [tot_succ, tot_nil]; rfl
theorem tot_one {l : Nat → List Int} {k : Nat} : ∀ {c : Nat}, k < c → (∀ j, j < c → j ≠ k → l j = []) → tot c l = (l k).length
  | 0, h, _ => absurd h (Nat.not_lt_zero _)
  | c + 1, h, h2 => by
    rw [tot_succ]
    by_cases e : k = c
    · subst e
      have : tot k l = 0 := by
        have : tot k l = tot k (fun _ => []) := tot_same fun j hj => h2 j (by omega) (by omega)
        rw [this, tot_nil]
      omega
    · rw [tot_one (k := k) (by omega) fun j hj hne => h2 j (by omega) hne, h2 c (by omega) fun e' => e e'.symm]
      rfl
section
variable {l : Nat → List Int} {a : BitVec 32} {c p : Nat}
theorem few_all : ∀ {n : Nat}, 0 < n → (∀ j, j < n → mb a j = true) → ∃ f : Nat, f < n ∧ fewTo l a n = f ∧ ∀ j, j < n → (l f).length ≤ (l j).length
  | 0, h, _ => absurd h (Nat.not_lt_zero _)
  | n + 1, _, hb => by
    rw [fewTo_succ]
    unfold fewStep
    rw [if_pos (hb n (by omega))]
    by_cases h0 : n = 0
    · subst h0
      refine ⟨0, by omega, by rw [if_pos (.inl (by unfold fewTo; simp))], fun j hj => ?_⟩
      have : j = 0 := by omega
      subst this; exact Nat.le_refl _
    · obtain ⟨f, h1, h2, h3⟩ := few_all (n := n) (by omega) fun j hj => hb j (by omega)
      rw [h2, Int.toNat_natCast]
      by_cases hl : (l n).length < (l f).length
      · refine ⟨n, by omega, by rw [if_pos (.inr hl)], fun j hj => ?_⟩
        by_cases e : j = n
        · subst e; exact Nat.le_refl _
        · have := h3 j (by omega); omega
      · refine ⟨f, by omega, by rw [if_neg]; rintro (e | e); omega; exact hl e, fun j hj => ?_⟩
        by_cases e : j = n
        · subst e; omega
        · exact h3 j (by omega)
theorem few_one {k : Nat} : ∀ {n : Nat}, (∀ j, j < n → mb a j = decide (j = k)) → fewTo l a n = if k < n then (k : Int) else -1
  | 0, _ => by unfold fewTo; simp
  | n + 1, hb => by
    rw [fewTo_succ, few_one (n := n) fun j hj => hb j (by omega)]
    unfold fewStep
    rw [hb n (by omega)]
    by_cases e : n = k
    · subst e
      have e0 : (if n < n then (n : Int) else -1) = -1 := if_neg (by omega)
      rw [if_pos (by simp), e0, if_pos (.inl (by omega)), if_pos (by omega)]
    · rw [if_neg (by simpa using e)]
      by_cases h : k < n
      · rw [if_pos h, if_pos (by omega)]
      · rw [if_neg h, if_neg (by omega)]
theorem mb255 {j : Nat} (h : j < 8) : mb 255#32 j = true := by
  have : ∀ j : Fin 8, mb 255#32 j.1 = true := by decide
  exact this ⟨j, h⟩
theorem mbpow {j k : Nat} (h : j < 8) (hk : k < 8) : mb (BitVec.ofNat 32 (2 ^ k)) j = decide (j = k) := by
  have : ∀ j k : Fin 8, mb (BitVec.ofNat 32 (2 ^ k.1)) j.1 = decide (j.1 = k.1) := by decide
  exact this ⟨j, h⟩ ⟨k, hk⟩
theorem pow_nat {k : Nat} (hk : k < 8) : (BitVec.ofNat 32 (2 ^ k)).toNat = 2 ^ k := by
  have : ∀ k : Fin 8, (BitVec.ofNat 32 (2 ^ k.1)).toNat = 2 ^ k.1 := by decide
  exact this ⟨k, hk⟩
/-- Pids 1 to p are there, each once. -/
structure P0 (c : Nat) (l : Nat → List Int) (p : Nat) : Prop where
  rng : ∀ k, k < c → ∀ x ∈ l k, 1 ≤ x ∧ x ≤ p
  tot : tot c l = p
  nd : ∀ k, k < c → (l k).Nodup
  dis : ∀ i j, i < c → j < c → i ≠ j → ∀ x ∈ l i, x ∉ l j
  has : ∀ x : Int, 1 ≤ x → x ≤ p → ∃ k, k < c ∧ x ∈ l k
  emp : ∀ k, c ≤ k → l k = []
theorem P0.sh (h : P0 c l p) (hp : p < 100) : Sh l := fun k => by
  by_cases hk : k < c
  · have := len_tot (l := l) hk; rw [h.tot] at this; omega
  · rw [h.emp k (by omega)]; decide
theorem P0.start : P0 c (fun _ => []) 0 := by
  exact ⟨fun _ _ x hx => (by cases hx), tot_nil, fun _ _ => List.nodup_nil, fun _ _ _ _ _ x hx => (by cases hx), fun x _ _ => by omega, fun _ _ => rfl⟩
theorem P0.push (h : P0 c l p) {f : Nat} (hf : f < c) : P0 c (updL l f (l f ++ [((p + 1 : Nat) : Int)])) (p + 1) := by
  have hnot : ∀ k, k < c → ((p + 1 : Nat) : Int) ∉ l k := fun k hk e => by have := (h.rng k hk _ e).2; omega
  refine ⟨fun k hk x hx => ?_, ?_, fun k hk => ?_, fun i j hi hj hne x hx hx' => ?_, fun x h1 h2 => ?_, fun k hk => ?_⟩
  · unfold updL at hx
    split at hx
    · rcases List.mem_append.1 hx with hx | hx
      · have := h.rng f hf x hx; omega
      · rw [List.mem_singleton] at hx; omega
    · have := h.rng k hk x hx; omega
  · have := tot_upd (l := l) (k := f) (l' := l f ++ [((p + 1 : Nat) : Int)]) hf
    rw [h.tot, List.length_append, List.length_singleton] at this
    omega
  · unfold updL
    split
    · exact List.nodup_append.2 ⟨h.nd f hf, by simp, fun x hx y hy e => by rw [List.mem_singleton] at hy; exact hnot f hf (by rw [← hy, ← e]; exact hx)⟩
    · exact h.nd k hk
  · unfold updL at hx hx'
    split at hx
    · rename_i e
      subst e
      rw [if_neg (fun e => hne e.symm)] at hx'
      rcases List.mem_append.1 hx with hx | hx
      · exact h.dis i j hi hj hne x hx hx'
      · rw [List.mem_singleton] at hx; exact hnot j hj (hx ▸ hx')
    · split at hx'
      · rename_i e
        subst e
        rcases List.mem_append.1 hx' with hx' | hx'
        · exact h.dis i j hi hj hne x hx hx'
        · rw [List.mem_singleton] at hx'; exact hnot i hi (hx' ▸ hx)
      · exact h.dis i j hi hj hne x hx hx'
  · by_cases e : x ≤ p
    · obtain ⟨k, hk, hx⟩ := h.has x h1 e
      refine ⟨k, hk, ?_⟩
      unfold updL
      split
      · rename_i e2; subst e2; exact List.mem_append_left _ hx
      · exact hx
    · refine ⟨f, hf, ?_⟩
      unfold updL
      rw [if_pos rfl]
      exact List.mem_append_right _ (by rw [List.mem_singleton]; omega)
  · unfold updL
    rw [if_neg (by omega)]; exact h.emp k hk
def Bal (c : Nat) (l : Nat → List Int) : Prop := ∀ i j, i < c → j < c → (l i).length ≤ (l j).length + 1
theorem Bal.push (h : Bal c l) {f : Nat} {x : Int} (hmin : ∀ j, j < c → (l f).length ≤ (l j).length) : Bal c (updL l f (l f ++ [x])) := fun i j hi hj => by
  unfold updL
  by_cases ei : i = f
  · subst ei
    rw [if_pos rfl, List.length_append, List.length_singleton]
    split
    · simp
    · have := hmin j hj; omega
  · rw [if_neg ei]
    by_cases ej : j = f
    · subst ej
      rw [if_pos rfl, List.length_append]
      have := h i j hi hj; omega
    · rw [if_neg ej]; exact h i j hi hj
theorem P0.free (h : P0 c l p) {x : Int} (hx : (p : Int) < x) : whQ c l x = -1 := by
  rcases whQ_spec (c := c) (l := l) (x := x) with ⟨h1, _⟩ | ⟨j, h1, h2, _⟩
  · exact h1
  · have := (h.rng j h1 x h2).2; omega
theorem P0.at_ (h : P0 c l p) {x : Int} (h1 : 1 ≤ x) (h2 : x ≤ p) : ∃ w, w < c ∧ x ∈ l w ∧ whQ c l x = w := by
  obtain ⟨k, hk, hx⟩ := h.has x h1 h2
  rcases whQ_spec (c := c) (l := l) (x := x) with ⟨_, h3⟩ | ⟨j, h3, h4, h5, _⟩
  · exact absurd hx (h3 k hk)
  · exact ⟨j, h3, h4, h5⟩
theorem erase_at {x : Int} : ∀ {l : List Int} {i j : Nat}, idxFrom x l i = (i + j : Nat) → l.eraseIdx j = l.erase x
  | [], _, _, _ => rfl
  | y :: l, i, j, h => by
    unfold idxFrom at h
    by_cases e : y = x
    · rw [if_pos e] at h
      have : j = 0 := by omega
      subst this
      subst e
      simp
    · rw [if_neg e] at h
      have hj : j ≠ 0 := by
        rintro rfl
        rcases idxFrom_spec (x := x) (l := l) (i := i + 1) with ⟨h1, _⟩ | ⟨k, _, _, h1, _⟩ <;> rw [h1] at h <;> omega
      obtain ⟨j, rfl⟩ := Nat.exists_eq_succ_of_ne_zero hj
      have := erase_at (x := x) (l := l) (i := i + 1) (j := j) (by rw [h]; congr 1; omega)
      rw [List.erase_cons_tail (by simpa using e), ← this]
      rfl
/-- While they are moved to core k. -/
structure P2 (c k n : Nat) (was : List Int) (l : Nat → List Int) (p : Nat) : Prop where
  p0 : P0 c l n
  low : ∀ j, j < c → j ≠ k → ∀ x ∈ l j, (p : Int) ≤ x
  ext : ∃ e, l k = was ++ e ∧ (∀ i, i + 1 < e.length → e.getD i 0 < e.getD (i + 1) 0) ∧ ∀ x ∈ e, x < (p : Int)
theorem P2.start {k : Nat} (h : P0 c l p) : P2 c k p (l k) l 1 := ⟨h, fun j hj _ x hx => (h.rng j hj x hx).1, [], by simp, by simp, by simp⟩
theorem P2.stay {k n : Nat} {was : List Int} (h : P2 c k n was l p) (hk : k < c) (hin : (p : Int) ∈ l k) : P2 c k n was l (p + 1) := by
  obtain ⟨e, h1, h2, h3⟩ := h.ext
  refine ⟨h.p0, fun j hj hne x hx => ?_, e, h1, h2, fun x hx => by have := h3 x hx; omega⟩
  have := h.low j hj hne x hx
  by_cases e : x = p
  · subst e; exact absurd hin (h.p0.dis j k hj hk hne _ hx)
  · omega
theorem P2.move {k n w : Nat} {was : List Int} (h : P2 c k n was l p) (hk : k < c) (hw : w < c) (hwk : w ≠ k) (hin : (p : Int) ∈ l w) : P2 c k n was (updL (updL l w ((l w).erase p)) k (updL l w ((l w).erase p) k ++ [(p : Int)])) (p + 1) := by
  have hkk : updL l w ((l w).erase p) k = l k := by unfold updL; rw [if_neg fun e => hwk e.symm]
  rw [hkk]
  have hnk : (p : Int) ∉ l k := h.p0.dis w k hw hk hwk _ hin
  have hrng := h.p0.rng w hw _ hin
  have hget : ∀ j, updL (updL l w ((l w).erase p)) k (l k ++ [(p : Int)]) j = if j = k then l k ++ [(p : Int)] else if j = w then (l w).erase p else l j := fun j => rfl
  have hmem : ∀ j x, j < c → x ∈ updL (updL l w ((l w).erase p)) k (l k ++ [(p : Int)]) j → (j = k ∧ x = p) ∨ (x ≠ p ∧ x ∈ l j) := fun j x hj hx => by
    rw [hget] at hx
    split at hx
    · rename_i e
      rcases List.mem_append.1 hx with hx | hx
      · exact .inr ⟨fun e2 => hnk (e2 ▸ hx), e ▸ hx⟩
      · exact .inl ⟨e, List.mem_singleton.1 hx⟩
    · split at hx
      · rename_i e
        have := (List.Nodup.mem_erase_iff (h.p0.nd w hw)).1 hx
        exact .inr ⟨this.1, e ▸ this.2⟩
      · rename_i e
        exact .inr ⟨fun e2 => h.p0.dis j w hj hw e x hx (by rw [e2]; exact hin), hx⟩
  refine ⟨⟨fun j hj x hx => ?_, ?_, fun j hj => ?_, fun i j hi hj hne x hx hx' => ?_, fun x h1 h2 => ?_, fun j hj => ?_⟩, fun j hj hne x hx => ?_, ?_⟩
  · rcases hmem j x hj hx with ⟨_, rfl⟩ | ⟨_, hx⟩
    · exact hrng
    · exact h.p0.rng j hj x hx
  · have t1 := tot_upd (l := l) (k := w) (l' := (l w).erase p) hw
    have t2 := tot_upd (l := updL l w ((l w).erase p)) (k := k) (l' := l k ++ [(p : Int)]) hk
    rw [hkk, List.length_append, List.length_singleton] at t2
    rw [h.p0.tot, List.length_erase_of_mem hin] at t1
    have := List.length_pos_of_mem hin
    omega
  · rw [hget]
    split
    · exact List.nodup_append.2 ⟨h.p0.nd k hk, by simp, fun x hx y hy e => by rw [List.mem_singleton] at hy; exact hnk (by rw [← hy, ← e]; exact hx)⟩
    · split
      · exact (h.p0.nd w hw).erase _
      · exact h.p0.nd j hj
  · rcases hmem i x hi hx with ⟨e1, e2⟩ | ⟨e1, e2⟩ <;> rcases hmem j x hj hx' with ⟨f1, f2⟩ | ⟨f1, f2⟩
    · exact hne (e1.trans f1.symm)
    · exact f1 e2
    · exact e1 f2
    · exact h.p0.dis i j hi hj hne x e2 f2
  · by_cases e : x = p
    · exact ⟨k, hk, by rw [hget, if_pos rfl]; exact List.mem_append_right _ (by rw [e]; simp)⟩
    · obtain ⟨j, hj, hx⟩ := h.p0.has x h1 h2
      refine ⟨j, hj, ?_⟩
      rw [hget]
      split
      · rename_i e2; exact List.mem_append_left _ (e2 ▸ hx)
      · split
        · rename_i e2; exact (List.Nodup.mem_erase_iff (h.p0.nd w hw)).2 ⟨e, e2 ▸ hx⟩
        · exact hx
  · rw [hget, if_neg (by omega), if_neg (by omega)]; exact h.p0.emp j hj
  · rcases hmem j x hj hx with ⟨e1, _⟩ | ⟨e1, e2⟩
    · exact absurd e1 hne
    · have := h.low j hj hne x e2; omega
  · obtain ⟨e, h1, h2, h3⟩ := h.ext
    refine ⟨e ++ [(p : Int)], by rw [hget, if_pos rfl, h1, List.append_assoc], fun i hi => ?_, fun x hx => ?_⟩
    · rw [List.length_append, List.length_singleton] at hi
      by_cases hh : i + 1 < e.length
      · have := h2 i hh
        simp only [List.getD_eq_getElem?_getD, List.getElem?_append_left hh, List.getElem?_append_left (show i < e.length by omega)] at this ⊢
        exact this
      · have hi2 : i + 1 = e.length := by omega
        have : e.getD i 0 < (p : Int) := h3 _ (by rw [List.getD_eq_getElem?_getD, List.getElem?_eq_getElem (by omega)]; exact List.getElem_mem _)
        simp only [List.getD_eq_getElem?_getD] at this
        simp only [List.getD_eq_getElem?_getD, List.getElem?_append_left (show i < e.length by omega)]
        rw [List.getElem?_append_right (by omega), hi2, Nat.sub_self]
        exact this
    · rcases List.mem_append.1 hx with hx | hx
      · have := h3 x hx; omega
      · rw [List.mem_singleton] at hx; omega
theorem P2.done {k n : Nat} {was : List Int} (h : P2 c k n was l (n + 1)) (hk : k < c) : (l k).length = n := by
  rw [← tot_one hk fun j hj hne => ?_, h.p0.tot]
  cases hl : l j with
  | nil => rfl
  | cons x t =>
    have h1 := h.low j hj hne x (by rw [hl]; simp)
    have h2 := (h.p0.rng j hj x (by rw [hl]; simp)).2
    omega
end
end Go.Ab
