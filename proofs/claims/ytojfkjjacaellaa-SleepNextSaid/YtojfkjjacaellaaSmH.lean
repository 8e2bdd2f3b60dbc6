/- Sleep: what ticks come to: plain laws. -/
import Derived.Test.YtojfkjjacaellaaSmE
namespace Go.Ab
noncomputable section
section
variable {L : SL} {p q : Int} {n : BitVec 32} {i j : Nat}
theorem wfL_keys : wfL L ↔ ∀ q ∈ mkeys L, (Lit.int .i64 q).wf = true := by
  constructor
  · intro h q hq
    obtain ⟨x, hx, rfl⟩ := List.mem_map.1 hq
    exact h x hx
  · intro h x hx
    exact h x.1 (List.mem_map_of_mem hx)
theorem keyI_at (hq : q ∈ mkeys L) : ∃ j, j < L.length ∧ keyI L j = q := by
  have h1 := (isort_perm (mkeys L)).mem_iff.2 hq
  obtain ⟨j, hj, e⟩ := List.mem_iff_getElem.1 h1
  refine ⟨j, by rw [isort_len, List.length_map] at hj; exact hj, ?_⟩
  unfold keyI
  rw [List.getD_eq_getElem?_getD, List.getElem?_eq_getElem hj, ← e]; rfl
theorem keys_set_sub {v : BitVec 32} (h : q ∈ mkeys (mset L p v)) : q = p ∨ q ∈ mkeys L := by
  rw [keys_set] at h
  split at h
  · exact .inr h
  · rcases List.mem_append.1 h with h | h
    · exact .inr h
    · exact .inl (List.mem_singleton.1 h)
theorem tk_sub : ∀ {i : Nat}, i ≤ L.length → ∀ q ∈ mkeys (tkL L i), q ∈ mkeys L
  | 0, _, q, h => h
  | i + 1, hi, q, h => by
    have ih := tk_sub (i := i) (by omega)
    have hk := keyI_mem (L := L) (i := i) (by omega)
    have key : ∀ v, q ∈ mkeys (mset (tkL L i) (keyI L i) v) → q ∈ mkeys L := fun v hv => by
      rcases keys_set_sub hv with rfl | hv
      · exact hk
      · exact ih q hv
    unfold tkL at h
    split at h
    · exact key _ (keys_del.subset h)
    · exact key _ h
theorem tk_done (hd : (mkeys L).Nodup) : ∀ {i : Nat}, i ≤ L.length → ∀ j, j < i → mget (tkL L i) (keyI L j) = if valI L j = 1#32 then none else some (valI L j - 1#32)
  | 0, _, j, hj => absurd hj (Nat.not_lt_zero _)
  | i + 1, hi, j, hj => by
    by_cases e : j = i
    · subst e
      unfold tkL
      split
      · exact mget_del_self (nodup_set (nodup_tk hd))
      · rw [mget_set, if_pos rfl]
    · have ih := tk_done hd (i := i) (by omega) j (by omega)
      have hne := key_ne hd (show j < L.length by omega) (show i < L.length by omega) e
      rw [← ih]
      conv => lhs; unfold tkL
      split
      · rw [mget_del hne, mget_set, if_neg hne]
      · rw [mget_set, if_neg hne]
/-- One tick. -/
def tickL (L : SL) : SL := tkL L L.length
def wakeL (L : SL) : List Int := wkL L L.length
theorem tick_get (hd : (mkeys L).Nodup) : mget (tickL L) q = (mget L q).bind fun n => if n = 1#32 then none else some (n - 1#32) := by
  by_cases hq : q ∈ mkeys L
  · obtain ⟨j, hj, rfl⟩ := keyI_at hq
    rw [tickL, tk_done hd (Nat.le_refl _) j hj, valI_get hj]
    rfl
  · rw [tickL, tk_get hd (fun j hj e => hq (by rw [e]; exact keyI_mem hj)), mget_none hq]
    rfl
theorem tick_nodup (hd : (mkeys L).Nodup) : (mkeys (tickL L)).Nodup := nodup_tk hd
theorem tick_sub : ∀ q ∈ mkeys (tickL L), q ∈ mkeys L := tk_sub (Nat.le_refl _)
theorem set_len {v : BitVec 32} : ∀ {L : SL}, (mset L p v).length = if p ∈ mkeys L then L.length else L.length + 1
  | [] => rfl
  | (x, u) :: L => by
    have ih := set_len (v := v) (L := L)
    show (mset ((x, u) :: L) p v).length = if p ∈ x :: mkeys L then L.length + 1 else L.length + 1 + 1
    unfold mset
    by_cases e : p = x
    · rw [if_pos e, if_pos (by rw [e]; exact List.mem_cons_self)]; rfl
    · rw [if_neg e, List.length_cons, ih]
      by_cases hm : p ∈ mkeys L
      · rw [if_pos hm, if_pos (List.mem_cons_of_mem _ hm)]
      · rw [if_neg hm, if_neg (fun h => by rcases List.mem_cons.1 h with h | h; exact e h; exact hm h)]
theorem del_len : ∀ {L : SL}, p ∈ mkeys L → (mdel L p).length + 1 = L.length
  | [], h => by cases h
  | (x, u) :: L, h => by
    unfold mdel
    by_cases e : p = x
    · rw [if_pos e]; rfl
    · rw [if_neg e, List.length_cons, List.length_cons]
      rcases List.mem_cons.1 h with h | h
      · exact absurd h e
      · have := del_len (L := L) h
        omega
theorem tk_key (hd : (mkeys L).Nodup) (hi : i < L.length) : keyI L i ∈ mkeys (tkL L i) := by
  rw [mem_keys, tk_get hd (fun j hj => key_ne hd hi (by omega) (by omega)), valI_get hi]; rfl
theorem tk_len (hd : (mkeys L).Nodup) : ∀ {i : Nat}, i ≤ L.length → (tkL L i).length + (wkL L i).length = L.length
  | 0, _ => rfl
  | i + 1, hi => by
    have ih := tk_len hd (i := i) (by omega)
    have hk := tk_key hd (i := i) (by omega)
    unfold tkL wkL
    split
    · have h1 : keyI L i ∈ mkeys (mset (tkL L i) (keyI L i) (valI L i - 1#32)) := by rw [keys_set, if_pos hk]; exact hk
      have h2 := del_len h1
      rw [set_len, if_pos hk] at h2
      rw [List.length_append, List.length_cons, List.length_nil]
      omega
    · rw [set_len, if_pos hk, List.append_nil]; exact ih
theorem tick_len (hd : (mkeys L).Nodup) : (tickL L).length + (wakeL L).length = L.length := tk_len hd (Nat.le_refl _)
theorem wk_mem : ∀ {i : Nat}, q ∈ wkL L i ↔ ∃ j, j < i ∧ valI L j = 1#32 ∧ keyI L j = q
  | 0 => ⟨fun h => (by cases h), fun ⟨_, h, _⟩ => absurd h (Nat.not_lt_zero _)⟩
  | i + 1 => by
    unfold wkL
    rw [List.mem_append, wk_mem (i := i)]
    constructor
    · rintro (⟨j, h1, h2⟩ | h)
      · exact ⟨j, by omega, h2⟩
      · split at h
        · rename_i hv
          exact ⟨i, by omega, hv, (List.mem_singleton.1 h).symm⟩
        · cases h
    · rintro ⟨j, h1, h2, h3⟩
      by_cases e : j = i
      · subst e
        right
        rw [if_pos h2]
        exact List.mem_singleton.2 h3.symm
      · exact .inl ⟨j, by omega, h2, h3⟩
theorem wake_mem (hd : (mkeys L).Nodup) (h : q ∈ wakeL L) : mget L q = some 1#32 := by
  obtain ⟨j, h1, h2, rfl⟩ := wk_mem.1 h
  rw [valI_get h1, h2]
/-- Keys rise. -/
theorem key_lt (hd : (mkeys L).Nodup) (hij : i < j) (hj : j < L.length) : keyI L i < keyI L j := by
  have l1 : i < (isort (mkeys L)).length := by rw [isort_len, List.length_map]; omega
  have l2 : j < (isort (mkeys L)).length := by rw [isort_len, List.length_map]; exact hj
  have hs := List.pairwise_iff_getElem.1 (isort_sorted (mkeys L)) i j l1 l2 hij
  have hne := key_ne hd (show i < L.length by omega) hj (by omega)
  have e1 : keyI L i = (isort (mkeys L))[i] := by unfold keyI; rw [List.getD_eq_getElem?_getD, List.getElem?_eq_getElem l1]; rfl
  have e2 : keyI L j = (isort (mkeys L))[j] := by unfold keyI; rw [List.getD_eq_getElem?_getD, List.getElem?_eq_getElem l2]; rfl
  rw [e1, e2] at hne ⊢
  omega
theorem wk_rise (hd : (mkeys L).Nodup) : ∀ {i : Nat}, i ≤ L.length → (wkL L i).Pairwise (· < ·)
  | 0, _ => List.Pairwise.nil
  | i + 1, hi => by
    have ih := wk_rise hd (i := i) (by omega)
    unfold wkL
    refine List.pairwise_append.2 ⟨ih, ?_, fun x hx y hy => ?_⟩
    · split
      · exact List.pairwise_singleton _ _
      · exact List.Pairwise.nil
    · split at hy
      · rw [List.mem_singleton.1 hy]
        obtain ⟨j, h1, h2, rfl⟩ := wk_mem.1 hx
        exact key_lt hd h1 (by omega)
      · cases hy
theorem wake_rise (hd : (mkeys L).Nodup) {k : Nat} (h1 : k + 1 < (wakeL L).length) : (wakeL L).getD k 0 < (wakeL L).getD (k + 1) 0 := by
  have := List.pairwise_iff_getElem.1 (wk_rise hd (Nat.le_refl L.length)) k (k + 1) (show k < (wkL L L.length).length from by unfold wakeL at h1; omega) h1 (by omega)
  rw [List.getD_eq_getElem?_getD, List.getElem?_eq_getElem (show k < (wakeL L).length by omega), List.getD_eq_getElem?_getD, List.getElem?_eq_getElem h1]
  exact this
/-! ### lists that may be -/
structure Gd (L : SL) (k : Nat) : Prop where
  nd : (mkeys L).Nodup
  wf : wfL L
  nz : ∀ p n, mget L p = some n → n ≠ 0#32
  len : L.length ≤ k
theorem Gd.nil {k : Nat} : Gd [] k := ⟨List.nodup_nil, fun _ h => (by cases h), fun _ _ h => (by cases h), Nat.zero_le _⟩
theorem Gd.mono {k k' : Nat} (h : Gd L k) (hk : k ≤ k') : Gd L k' := ⟨h.nd, h.wf, h.nz, Nat.le_trans h.len hk⟩
theorem Gd.set {k : Nat} (h : Gd L k) (hp : (Lit.int .i64 p).wf = true) (hn : n ≠ 0#32) : Gd (mset L p n) (k + 1) := by
  refine ⟨nodup_set h.nd, wfL_keys.2 fun q hq => ?_, fun q x hx => ?_, ?_⟩
  · rcases keys_set_sub hq with rfl | hq
    · exact hp
    · exact wfL_keys.1 h.wf q hq
  · rw [mget_set] at hx
    split at hx
    · cases hx; exact hn
    · exact h.nz q x hx
  · have := h.len
    rw [set_len]
    split <;> omega
theorem Gd.del {k : Nat} (h : Gd L k) : Gd (mdel L p) k := by
  refine ⟨nodup_del h.nd, wfL_keys.2 fun q hq => wfL_keys.1 h.wf q (keys_del.subset hq), fun q x hx => ?_, ?_⟩
  · by_cases e : q = p
    · rw [e, mget_del_self h.nd] at hx; cases hx
    · rw [mget_del e] at hx; exact h.nz q x hx
  · have h1 := (keys_del (L := L) (p := p)).length_le
    rw [List.length_map, List.length_map] at h1
    exact Nat.le_trans h1 h.len
theorem Gd.tick {k : Nat} (h : Gd L k) : Gd (tickL L) k := by
  refine ⟨tick_nodup h.nd, wfL_keys.2 fun q hq => wfL_keys.1 h.wf q (tick_sub q hq), fun q x hx => ?_, ?_⟩
  · rw [tick_get h.nd] at hx
    cases hg : mget L q with
    | none => rw [hg] at hx; cases hx
    | some y =>
      rw [hg] at hx
      simp only [Option.bind_some] at hx
      split at hx
      · cases hx
      · rename_i hy
        cases hx
        intro e
        exact hy (by have := BitVec.sub_add_cancel y 1#32; rw [e] at this; simpa using this.symm)
  · have := tick_len h.nd; have := h.len; omega
end
end
end Go.Ab
