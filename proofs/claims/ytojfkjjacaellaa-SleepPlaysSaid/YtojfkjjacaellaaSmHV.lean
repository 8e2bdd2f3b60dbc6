/- Sleep: what ticks come to: plain laws. -/
import Derived.Test.YtojfkjjacaellaaSmDF
namespace Go.Ab
noncomputable section
section
variable {L : SL} {p q : Int} {n : BitVec 32} {i j : Nat}
theorem wfL_keys : wfL L ↔ ∀ q ∈ mkeys L, (Lit.int .i64 q).wf = true := by
  constructor
  · intro h q hq
    obtain ⟨x, hx, rfl⟩ := List.mem_map.1 hq
    exact h x hx
  · intro h x hx
    exact h x.1 (List.mem_map_of_mem hx)
theorem keyI_at (hq : q ∈ mkeys L) : ∃ j, j < L.length ∧ keyI L j = q := by
  have h1 := (isort_perm (mkeys L)).mem_iff.2 hq
  obtain ⟨j, hj, e⟩ := List.mem_iff_getElem.1 h1
  refine ⟨j, by rw [isort_len, List.length_map] at hj; exact hj, ?_⟩
  unfold keyI
  rw [List.getD_eq_getElem?_getD, List.getElem?_eq_getElem hj, ← e]; rfl
theorem keys_set_sub {v : BitVec 32} (h : q ∈ mkeys (mset L p v)) : q = p ∨ q ∈ mkeys L := by
  rw [keys_set] at h
  split at h
  · exact .inr h
  · rcases List.mem_append.1 h with h | h
    · exact .inr h
    · exact .inl (List.mem_singleton.1 h)
theorem tk_sub : ∀ {i : Nat}, i ≤ L.length → ∀ q ∈ mkeys (tkL L i), q ∈ mkeys L
  | 0, _, q, h => h
  | i + 1, hi, q, h => by
    have ih := tk_sub (i := i) (by omega)
    have hk := keyI_mem (L := L) (i := i) (by omega)
    have key : ∀ v, q ∈ mkeys (mset (tkL L i) (keyI L i) v) → q ∈ mkeys L := fun v hv => by
      rcases keys_set_sub hv with rfl | hv
      · exact hk
      · exact ih q hv
    unfold tkL at h
    split at h
    · exact key _ (keys_del.subset h)
    · exact key _ h
theorem tk_done (hd : (mkeys L).Nodup) : ∀ {i : Nat}, i ≤ L.length → ∀ j, j < i → mget (tkL L i) (keyI L j) = if valI L j = 1#32 then none else some (valI L j - 1#32)
  | 0, _, j, hj => absurd hj (Nat.not_lt_zero _)
  | i + 1, hi, j, hj => by
    by_cases e : j = i
    · subst e
      unfold tkL
      split
      · exact mget_del_self (nodup_set (nodup_tk hd))
      · rw [mget_set, if_pos rfl]
    · have ih := tk_done hd (i := i) (by omega) j (by omega)
      have hne := key_ne hd (show j < L.length by omega) (show i < L.length by omega) e
      rw [← ih]
      conv => lhs; unfold tkL
      split
      · rw [mget_del hne, mget_set, if_neg hne]
      · rw [mget_set, if_neg hne]
/-- One tick. -/
def tickL (L : SL) : SL := tkL L L.length
def wakeL (L : SL) : List Int := wkL L L.length
theorem tick_get (hd : (mkeys L).Nodup) : mget (tickL L) q = (mget L q).bind fun n => if n = 1#32 then none else some (n - 1#32) := by
  by_cases hq : q ∈ mkeys L
  · obtain ⟨j, hj, rfl⟩ := keyI_at hq
    rw [tickL, tk_done hd (Nat.le_refl _) j hj, valI_get hj]
    rfl
  · rw [tickL, tk_get hd (fun j hj e => hq (by rw [e]; exact keyI_mem hj)), mget_none hq]
    rfl
theorem tick_nodup (hd : (mkeys L).Nodup) : (mkeys (tickL L)).Nodup := nodup_tk hd
theorem tick_sub : ∀ q ∈ mkeys (tickL L), q ∈ mkeys L := tk_sub (Nat.le_refl _)
theorem set_len {v : BitVec 32} : ∀ {L : SL}, (mset L p v).length = if p ∈ mkeys L then L.length else L.length + 1
  | [] => rfl
  | (x, u) :: L => by
    have ih := set_len (v := v) (L := L)
    show (mset ((x, u) :: L) p v).length = if p ∈ x :: mkeys L then L.length + 1 else L.length + 1 + 1
    unfold mset
    by_cases e : p = x
    · rw [if_pos e, if_pos (by rw [e]; exact List.mem_cons_self)]; rfl
    · rw [if_neg e, List.length_cons, ih]
      by_cases hm : p ∈ mkeys L
      · rw [if_pos hm, if_pos (List.mem_cons_of_mem _ hm)]
      · rw [if_neg hm, if_neg (fun h => by rcases List.mem_cons.1 h with h | h; exact e h; exact hm h)]
theorem del_len : ∀ {L : SL}, p ∈ mkeys L → (mdel L p).length + 1 = L.length
  | [], h => by cases h
  | (x, u) :: L, h => by
    unfold mdel
    by_cases e : p = x
    · rw [if_pos e]; rfl
    · rw [if_neg e, List.length_cons, List.length_cons]
      rcases List.mem_cons.1 h with h | h
      · exact absurd h e
      · have := del_len (L := L) h
        omega
theorem tk_key (hd : (mkeys L).Nodup) (hi : i < L.length) : keyI L i ∈ mkeys (tkL L i) := by
  rw [mem_keys, tk_get hd (fun j hj => key_ne hd hi (by omega) (by omega)), valI_get hi]; rfl
theorem tk_len (hd : (mkeys L).Nodup) : ∀ {i : Nat}, i ≤ L.length → (tkL L i).length + (wkL L i).length = L.length
  | 0, _ => rfl
  | i + 1, hi => by
    have ih := tk_len hd (i := i) (by omega)
    have hk := tk_key hd (i := i) (by omega)
    unfold tkL wkL
    split
    · have h1 : keyI L i ∈ mkeys (mset (tkL L i) (keyI L i) (valI L i - 1#32)) := by rw [keys_set, if_pos hk]; exact hk
      have h2 := del_len h1
      rw [set_len, if_pos hk] at h2
      rw [List.length_append, List.length_cons, List.length_nil]
      omega
    · rw [set_len, if_pos hk, List.append_nil]; exact ih
theorem tick_len (hd : (mkeys L).Nodup) : (tickL L).length + (wakeL L).length = L.length := tk_len hd (Nat.le_refl _)
theorem wk_mem : ∀ {i : Nat}, q ∈ wkL L i ↔ ∃ j, j < i ∧ valI L j = 1#32 ∧ keyI L j = q
  | 0 => ⟨fun h => (by cases h), fun ⟨_, h, _⟩ => absurd h (Nat.not_lt_zero _)⟩
  | i + 1 => by
    unfold wkL
    rw [List.mem_append, wk_mem (i := i)]
    constructor
    · rintro (⟨j, h1, h2⟩ | h)
      · exact ⟨j, by omega, h2⟩
      · split at h
        · rename_i hv
          exact ⟨i, by omega, hv, (List.mem_singleton.1 h).symm⟩
        · cases h
    · rintro ⟨j, h1, h2, h3⟩
      by_cases e : j = i
      · subst e
        right
        rw [if_pos h2]
        exact List.mem_singleton.2 h3.symm
      · exact .inl ⟨j, by omega, h2, h3⟩
theorem wake_mem (hd : (mkeys L).Nodup) (h : q ∈ wakeL L) : mget L q = some 1#32 := by
  obtain ⟨j, h1, h2, rfl⟩ := wk_mem.1 h
  rw [valI_get h1, h2]
/-- Keys rise. -/
theorem key_lt (hd : (mkeys L).Nodup) (hij : i < j) (hj : j < L.length) : keyI L i < keyI L j := by
  have l1 : i < (isort (mkeys L)).length := by rw [isort_len, List.length_map]; omega
  have l2 : j < (isort (mkeys L)).length := by rw [isort_len, List.length_map]; exact hj
  have hs := List.pairwise_iff_getElem.1 (isort_sorted (mkeys L)) i j l1 l2 hij
  have hne := key_ne hd (show i < L.length by omega) hj (by omega)
  have e1 : keyI L i = (isort (mkeys L))[i] := by unfold keyI; rw [List.getD_eq_getElem?_getD, List.getElem?_eq_getElem l1]; rfl
  have e2 : keyI L j = (isort (mkeys L))[j] := by unfold keyI; rw [List.getD_eq_getElem?_getD, List.getElem?_eq_getElem l2]; rfl
  rw [e1, e2] at hne ⊢
  omega
theorem wk_rise (hd : (mkeys L).Nodup) : ∀ {i : Nat}, i ≤ L.length → (wkL L i).Pairwise (· < ·)
  | 0, _ => List.Pairwise.nil
  | i + 1, hi => by
    have ih := wk_rise hd (i := i) (by omega)
    unfold wkL
    refine List.pairwise_append.2 ⟨ih, ?_, fun x hx y hy => ?_⟩
    · split
      · exact List.pairwise_singleton _ _
      · exact List.Pairwise.nil
    · split at hy
      · rw [List.mem_singleton.1 hy]
        obtain ⟨j, h1, h2, rfl⟩ := wk_mem.1 hx
        exact key_lt hd h1 (by omega)
      · cases hy
theorem wake_rise (hd : (mkeys L).Nodup) {k : Nat} (h1 : k + 1 < (wakeL L).length) : (wakeL L).getD k 0 < (wakeL L).getD (k + 1) 0 := by
  have := List.pairwise_iff_getElem.1 (wk_rise hd (Nat.le_refl L.length)) k (k + 1) (show k < (wkL L L.length).length from by unfold wakeL at h1; omega) h1 (by omega)
  rw [List.getD_eq_getElem?_getD, List.getElem?_eq_getElem (show k < (wakeL L).length by omega), List.getD_eq_getElem?_getD, List.getElem?_eq_getElem h1]
  exact this
/-! ### lists that may be -/
structure Gd (L : SL) (k : Nat) : Prop where
  nd : (mkeys L).Nodup
  wf : wfL L
  nz : ∀ p n, mget L p = some n → n ≠ 0#32
  len : L.length ≤ k
  pos : ∀ p ∈ mkeys L, 1 ≤ p
theorem Gd.nil {k : Nat} : Gd [] k := ⟨List.nodup_nil, fun _ h => (by cases h), fun _ _ h => (by cases h), Nat.zero_le _, fun _ h => (by cases h)⟩
theorem Gd.mono {k k' : Nat} (h : Gd L k) (hk : k ≤ k') : Gd L k' := ⟨h.nd, h.wf, h.nz, Nat.le_trans h.len hk, h.pos⟩
theorem Gd.set {k : Nat} (h : Gd L k) (hp : (Lit.int .i64 p).wf = true) (h1 : 1 ≤ p) (hn : n ≠ 0#32) : Gd (mset L p n) (k + 1) := by
  refine ⟨nodup_set h.nd, wfL_keys.2 fun q hq => ?_, fun q x hx => ?_, ?_, fun q hq => ?_⟩
  · rcases keys_set_sub hq with rfl | hq
    · exact hp
    · exact wfL_keys.1 h.wf q hq
  · rw [mget_set] at hx
    split at hx
    · cases hx; exact hn
    · exact h.nz q x hx
  · have := h.len
    rw [set_len]
    split <;> omega
  · rcases keys_set_sub hq with rfl | hq
    · exact h1
    · exact h.pos q hq
theorem Gd.del {k : Nat} (h : Gd L k) : Gd (mdel L p) k := by
  refine ⟨nodup_del h.nd, wfL_keys.2 fun q hq => wfL_keys.1 h.wf q (keys_del.subset hq), fun q x hx => ?_, ?_, fun q hq => h.pos q (keys_del.subset hq)⟩
  · by_cases e : q = p
    · rw [e, mget_del_self h.nd] at hx; cases hx
    · rw [mget_del e] at hx; exact h.nz q x hx
  · have h1 := (keys_del (L := L) (p := p)).length_le
    rw [List.length_map, List.length_map] at h1
    exact Nat.le_trans h1 h.len
theorem Gd.tick {k : Nat} (h : Gd L k) : Gd (tickL L) k := by
  refine ⟨tick_nodup h.nd, wfL_keys.2 fun q hq => wfL_keys.1 h.wf q (tick_sub q hq), fun q x hx => ?_, ?_, fun q hq => h.pos q (tick_sub q hq)⟩
  · rw [tick_get h.nd] at hx
    cases hg : mget L q with
    | none => rw [hg] at hx; cases hx
    | some y =>
      rw [hg] at hx
      simp only [Option.bind_some] at hx
      split at hx
      · cases hx
      · rename_i hy
        cases hx
        intro e
        exact hy (by have := BitVec.sub_add_cancel y 1#32; rw [e] at this; simpa using this.symm)
  · have := tick_len h.nd; have := h.len; omega
end
end
end Go.Ab
/- Sleep: the least that is left, and ticks until then: plain laws. -/
namespace Go.Ab
noncomputable section
section
variable {L A B : SL} {p q : Int} {n x d : BitVec 32} {i j k : Nat}
theorem val_nz (h : Gd L k) (hi : i < L.length) : valI L i ≠ 0#32 := h.nz _ _ (valI_get hi)
theorem min_spec (h : Gd L k) : ∀ {i : Nat}, i ≤ L.length → 0 < i → minU L i ≠ 0#32 ∧ (∃ j, j < i ∧ valI L j = minU L i) ∧ ∀ j, j < i → (minU L i).toNat ≤ (valI L j).toNat
  | 0, _, h0 => absurd h0 (Nat.not_lt_zero _)
  | i + 1, hi, _ => by
    have hv := val_nz h (show i < L.length by omega)
    by_cases e : i = 0
    · subst e
      have : minU L 1 = valI L 0 := by unfold minU; rw [if_pos (.inl rfl)]
      rw [this]
      exact ⟨hv, ⟨0, by omega, rfl⟩, fun j hj => by obtain rfl : j = 0 := by omega
                                                    exact Nat.le_refl _⟩
    · obtain ⟨g1, ⟨j0, g2, g3⟩, g4⟩ := min_spec h (i := i) (by omega) (by omega)
      unfold minU
      by_cases c : (valI L i).toNat < (minU L i).toNat
      · rw [if_pos (.inr c)]
        refine ⟨hv, ⟨i, by omega, rfl⟩, fun j hj => ?_⟩
        by_cases e2 : j = i
        · rw [e2]; exact Nat.le_refl _
        · have := g4 j (by omega); omega
      · rw [if_neg (by rintro (h | h); exact g1 h; exact c h)]
        refine ⟨g1, ⟨j0, by omega, g3⟩, fun j hj => ?_⟩
        by_cases e2 : j = i
        · rw [e2]; omega
        · exact g4 j (by omega)
/-- Keys of so much, of the first i. -/
def fiL (L : SL) (x : BitVec 32) : Nat → List Int
  | 0 => []
  | i + 1 => fiL L x i ++ (if valI L i = x then [keyI L i] else [])
theorem fiL_len : ∀ {i : Nat}, (fiL L x i).length ≤ i
  | 0 => Nat.le_refl _
  | i + 1 => by
    have := fiL_len (i := i)
    unfold fiL
    rw [List.length_append]
    split
    · simp only [List.length_cons, List.length_nil]; omega
    · simp only [List.length_nil]; omega
theorem fiL_t (h : valI L i = x) : fiL L x (i + 1) = fiL L x i ++ [keyI L i] := by rw [fiL, if_pos h]
theorem fiL_f (h : valI L i ≠ x) : fiL L x (i + 1) = fiL L x i := by rw [fiL, if_neg h, List.append_nil]
theorem fiL_pos (hj : j < i) (h : valI L j = x) : 0 < (fiL L x i).length := by
  induction i with
  | zero => omega
  | succ i ih =>
    by_cases e : j = i
    · subst e; rw [fiL_t h, List.length_append]; simp
    · have := ih (by omega)
      unfold fiL
      rw [List.length_append]; omega
/-- So much less is left to each. -/
def decL (L : SL) (d : BitVec 32) : SL := L.map fun p => (p.1, p.2 - d)
theorem dec_keys : mkeys (decL L d) = mkeys L := by unfold decL mkeys; rw [List.map_map]; rfl
theorem dec_len : (decL L d).length = L.length := by unfold decL; rw [List.length_map]
theorem dec_zero : decL L 0#32 = L := by
  unfold decL
  induction L with
  | nil => rfl
  | cons p L ih => rw [List.map_cons, ih]; simp
theorem dec_dec {e : BitVec 32} : decL (decL L d) e = decL L (d + e) := by
  unfold decL
  rw [List.map_map]
  congr 1
  funext p
  show (p.1, p.2 - d - e) = (p.1, p.2 - (d + e))
  rw [BitVec.sub_sub]
theorem mget_dec : ∀ {L : SL}, mget (decL L d) q = (mget L q).map (· - d)
  | [] => rfl
  | (x, u) :: L => by
    have ih := mget_dec (L := L)
    show mget ((x, u - d) :: decL L d) q = _
    unfold mget
    rw [ih]
    split <;> rfl
theorem dec_key : keyI (decL L d) i = keyI L i := by unfold keyI; rw [dec_keys]
theorem dec_val (hi : i < L.length) : valI (decL L d) i = valI L i - d := by
  unfold valI
  rw [dec_key, mget_dec]
  have := valI_get hi
  rw [this]; rfl
theorem ext_ml : ∀ {A B : SL}, mkeys A = mkeys B → (mkeys A).Nodup → (∀ q, mget A q = mget B q) → A = B
  | [], [], _, _, _ => rfl
  | [], _ :: _, h, _, _ => by cases h
  | _ :: _, [], h, _, _ => by cases h
  | (x, u) :: A, (y, w) :: B, h, hn, hg => by
    have h' : x :: mkeys A = y :: mkeys B := h
    have hx := (List.cons.inj h').1
    have ht := (List.cons.inj h').2
    have hn' : x ∉ mkeys A ∧ (mkeys A).Nodup := List.nodup_cons.1 hn
    have h0 := hg x
    unfold mget at h0
    rw [if_pos rfl, if_pos hx] at h0
    have hu := Option.some.inj h0
    subst hx
    rw [hu, ext_ml ht hn'.2 fun q => ?_]
    by_cases e : q = x
    · rw [e, mget_none hn'.1, mget_none (ht ▸ hn'.1)]
    · have := hg q
      unfold mget at this
      rwa [if_neg e, if_neg e] at this
theorem tk_keys (hd : (mkeys L).Nodup) (hno : ∀ j, j < L.length → valI L j ≠ 1#32) : ∀ {i : Nat}, i ≤ L.length → mkeys (tkL L i) = mkeys L
  | 0, _ => rfl
  | i + 1, hi => by
    have ih := tk_keys hd hno (i := i) (by omega)
    unfold tkL
    rw [if_neg (hno i (by omega)), keys_set, if_pos (tk_key hd (by omega)), ih]
theorem tick_none (h : Gd L k) (hno : ∀ j, j < L.length → valI L j ≠ 1#32) : tickL L = decL L 1#32 := by
  have hk := tk_keys h.nd hno (Nat.le_refl L.length)
  refine ext_ml (hk.trans dec_keys.symm) (by rw [tickL, hk]; exact h.nd) fun q => ?_
  rw [tick_get h.nd, mget_dec]
  cases hg : mget L q with
  | none => rfl
  | some y =>
    have hq : q ∈ mkeys L := mem_keys.2 (by rw [hg]; rfl)
    obtain ⟨j, hj, rfl⟩ := keyI_at hq
    rw [valI_get hj] at hg
    cases hg
    simp only [Option.bind_some, Option.map_some, if_neg (hno j hj)]
theorem wk_none (hno : ∀ j, j < L.length → valI L j ≠ 1#32) : ∀ {i : Nat}, i ≤ L.length → wkL L i = []
  | 0, _ => rfl
  | i + 1, hi => by
    rw [wkL, wk_none hno (i := i) (by omega), if_neg (hno i (by omega))]; rfl
theorem wk_dec (hx : ∀ y : BitVec 32, y - d = 1#32 ↔ y = x) : ∀ {i : Nat}, i ≤ L.length → wkL (decL L d) i = fiL L x i
  | 0, _ => rfl
  | i + 1, hi => by
    have ih := wk_dec hx (i := i) (by omega)
    rw [wkL, fiL, ih, dec_val (by omega), dec_key]
    by_cases e : valI L i = x
    · rw [if_pos e, if_pos ((hx _).2 e)]
    · rw [if_neg e, if_neg fun h => e ((hx _).1 h)]
theorem sub_one {y : BitVec 32} : y - (x - 1#32) = 1#32 ↔ y = x := by
  constructor
  · intro h
    have h2 := congrArg (· + (x - 1#32)) h
    simp only [BitVec.sub_add_cancel] at h2
    rw [h2, BitVec.add_comm, BitVec.sub_add_cancel]
  · intro h
    rw [h]
    apply BitVec.eq_of_toNat_eq
    have := x.isLt
    simp only [BitVec.toNat_sub, BitVec.toNat_ofNat]
    omega
/-- Before the last one, none wakes. -/
theorem dec_no (h : Gd L k) (hmin : ∀ j, j < L.length → x.toNat ≤ (valI L j).toNat) (hi : i + 1 < x.toNat) : ∀ j, j < (decL L (BitVec.ofNat 32 i)).length → valI (decL L (BitVec.ofNat 32 i)) j ≠ 1#32 := fun j hj => by
  rw [dec_len] at hj
  rw [dec_val hj]
  intro e
  have h1 := hmin j hj
  have h2 := congrArg BitVec.toNat e
  have := (valI L j).isLt
  have := x.isLt
  simp only [BitVec.toNat_sub, BitVec.toNat_ofNat] at h2
  omega
theorem Gd.dec (h : Gd L k) (hmin : ∀ j, j < L.length → x.toNat ≤ (valI L j).toNat) (hi : i < x.toNat) : Gd (decL L (BitVec.ofNat 32 i)) k := by
  refine ⟨by rw [dec_keys]; exact h.nd, wfL_keys.2 (by rw [dec_keys]; exact wfL_keys.1 h.wf), fun p n hn => ?_, by rw [dec_len]; exact h.len, by rw [dec_keys]; exact h.pos⟩
  rw [mget_dec] at hn
  cases hg : mget L p with
  | none => rw [hg] at hn; cases hn
  | some y =>
    have hq : p ∈ mkeys L := mem_keys.2 (by rw [hg]; rfl)
    obtain ⟨j, hj, rfl⟩ := keyI_at hq
    rw [valI_get hj] at hg
    cases hg
    rw [valI_get hj] at hn
    simp only [Option.map_some, Option.some.injEq] at hn
    intro e
    rw [e] at hn
    have h1 := hmin j hj
    have h2 := congrArg BitVec.toNat hn
    have := (valI L j).isLt
    have := x.isLt
    simp only [BitVec.toNat_sub, BitVec.toNat_ofNat] at h2
    omega
theorem topL_getD (hi : i < L.length) : (topL L L.length).getD i (0, 0) = (keyI L i, valI L i) := by
  unfold topL
  rw [List.getD_eq_getElem?_getD, List.getElem?_map, List.getElem?_range hi]; rfl
end
end
end Go.Ab
/- Sleep: who is added, and wakes: plain laws. -/
namespace Go.Ab
noncomputable section
/-- What is wanted of sleepers. -/
def wantL (L : SL) : List (Int × Int) := L.map fun p => (p.1, (p.2.toNat : Int))
section
variable {L A B : SL} {p q : Int} {n x : BitVec 32} {i j k : Nat}
theorem want_set : ∀ {L : SL}, wantL (mset L p n) = mset (wantL L) p (n.toNat : Int)
  | [] => rfl
  | (y, u) :: L => by
    have ih := want_set (L := L)
    show wantL (mset ((y, u) :: L) p n) = mset ((y, (u.toNat : Int)) :: wantL L) p n.toNat
    unfold mset
    by_cases e : p = y
    · rw [if_pos e, if_pos e]; rfl
    · rw [if_neg e, if_neg e, ← ih]; rfl
theorem want_get : ∀ {L : SL}, mget (wantL L) p = (mget L p).map fun x => (x.toNat : Int)
  | [] => rfl
  | (y, u) :: L => by
    have ih := want_get (L := L)
    show mget ((y, (u.toNat : Int)) :: wantL L) p = _
    unfold mget
    rw [ih]
    split <;> rfl
theorem want_len : (wantL L).length = L.length := by unfold wantL; rw [List.length_map]
/-- Two rising lists of the same are the same. -/
theorem rise_ext : ∀ {A B : List Int}, A.Pairwise (· < ·) → B.Pairwise (· < ·) → (∀ x, x ∈ A ↔ x ∈ B) → A = B
  | [], [], _, _, _ => rfl
  | [], b :: B, _, _, h => absurd ((h b).2 List.mem_cons_self) (by simp)
  | a :: A, [], _, _, h => absurd ((h a).1 List.mem_cons_self) (by simp)
  | a :: A, b :: B, hA, hB, h => by
    obtain ⟨a1, a2⟩ := List.pairwise_cons.1 hA
    obtain ⟨b1, b2⟩ := List.pairwise_cons.1 hB
    have e : a = b := by
      rcases List.mem_cons.1 ((h a).1 List.mem_cons_self) with h1 | h1
      · exact h1
      · rcases List.mem_cons.1 ((h b).2 List.mem_cons_self) with h2 | h2
        · exact h2.symm
        · have := a1 b h2; have := b1 a h1; omega
    subst e
    rw [rise_ext a2 b2 fun x => ?_]
    constructor
    · intro hx
      rcases List.mem_cons.1 ((h x).1 (List.mem_cons_of_mem _ hx)) with h1 | h1
      · have := a1 x hx; omega
      · exact h1
    · intro hx
      rcases List.mem_cons.1 ((h x).2 (List.mem_cons_of_mem _ hx)) with h1 | h1
      · have := b1 x hx; omega
      · exact h1
theorem isort_rise (hd : (mkeys L).Nodup) : (isort (mkeys L)).Pairwise (· < ·) := by
  rw [List.pairwise_iff_getElem]
  intro i j hi hj hij
  have h1 : i < L.length := by rw [isort_len, List.length_map] at hi; exact hi
  have h2 : j < L.length := by rw [isort_len, List.length_map] at hj; exact hj
  have := key_lt hd hij h2
  unfold keyI at this
  rwa [List.getD_eq_getElem?_getD, List.getElem?_eq_getElem hi, List.getD_eq_getElem?_getD, List.getElem?_eq_getElem hj] at this
/-- Lists that tell the same come to the same, in rising order. -/
theorem top_same (ha : (mkeys A).Nodup) (hb : (mkeys B).Nodup) (h : ∀ q, mget A q = mget B q) : A.length = B.length ∧ topL A A.length = topL B B.length := by
  have hs : isort (mkeys A) = isort (mkeys B) := by
    refine rise_ext (isort_rise ha) (isort_rise hb) fun x => ?_
    rw [(isort_perm _).mem_iff, (isort_perm _).mem_iff, mem_keys, mem_keys, h x]
  have hl : A.length = B.length := by
    have := congrArg List.length hs
    rwa [isort_len, isort_len, List.length_map, List.length_map] at this
  refine ⟨hl, ?_⟩
  unfold topL
  rw [hl]
  apply List.map_congr_left
  intro j _
  have e : keyI A j = keyI B j := by unfold keyI; rw [hs]
  unfold valI
  rw [e, h]
/-- So many ticks. -/
def tickN (L : SL) : Nat → SL
  | 0 => L
  | k + 1 => tickL (tickN L k)
theorem Gd.tickN {k : Nat} (h : Gd L k) : ∀ {n : Nat}, Gd (tickN L n) k
  | 0 => h
  | n + 1 => Gd.tick (Gd.tickN h)
theorem tickN_get {k : Nat} (h : Gd L k) : ∀ {n : Nat}, mget (tickN L n) q = (mget L q).bind fun x => if n < x.toNat then some (x - BitVec.ofNat 32 n) else none
  | 0 => by
    show mget L q = _
    cases hg : mget L q with
    | none => rfl
    | some y =>
      have : y.toNat ≠ 0 := fun e => h.nz q y hg (BitVec.eq_of_toNat_eq (by simpa using e))
      simp only [Option.bind_some]
      rw [if_pos (by omega)]
      simp
  | n + 1 => by
    show mget (tickL (Go.Ab.tickN L n)) q = _
    rw [tick_get (h.tickN).nd, tickN_get h (n := n)]
    cases hg : mget L q with
    | none => rfl
    | some y =>
      have hy := y.isLt
      simp only [Option.bind_some]
      by_cases c : n < y.toNat
      · rw [if_pos c]
        simp only [Option.bind_some]
        by_cases c2 : n + 1 < y.toNat
        · rw [if_neg, if_pos c2]
          · congr 1
            apply BitVec.eq_of_toNat_eq
            simp only [BitVec.toNat_sub, BitVec.toNat_ofNat]
            omega
          · intro e
            have := congrArg BitVec.toNat e
            simp only [BitVec.toNat_sub, BitVec.toNat_ofNat] at this
            omega
        · rw [if_pos, if_neg c2]
          apply BitVec.eq_of_toNat_eq
          simp only [BitVec.toNat_sub, BitVec.toNat_ofNat]
          omega
      · rw [if_neg c, if_neg (by omega)]; rfl
/-- Who wakes at the n-th tick was added with n. -/
theorem wake_want {k n : Nat} (h : Gd L k) (hq : q ∈ wakeL (tickN L n)) : mget (wantL L) q = some ((n + 1 : Nat) : Int) := by
  have h1 := wake_mem (h.tickN).nd hq
  rw [tickN_get h] at h1
  rw [want_get]
  cases hg : mget L q with
  | none => rw [hg] at h1; cases h1
  | some y =>
    rw [hg] at h1
    simp only [Option.bind_some] at h1
    split at h1
    · rename_i c
      simp only [Option.some.injEq] at h1
      have hy := y.isLt
      have := congrArg BitVec.toNat h1
      simp only [BitVec.toNat_sub, BitVec.toNat_ofNat] at this
      simp only [Option.map_some, Option.some.injEq]
      omega
    · cases h1
theorem tickN_end {k n : Nat} (h : Gd L k) (hb : ∀ p x, mget L p = some x → x.toNat ≤ n) : (tickN L n).length = 0 := by
  cases e : tickN L n with
  | nil => rfl
  | cons a A =>
    have hm : a.1 ∈ mkeys (tickN L n) := by rw [e]; exact List.mem_cons_self
    have h2 := mem_keys.1 hm
    rw [tickN_get h] at h2
    cases hg : mget L a.1 with
    | none => rw [hg] at h2; cases h2
    | some y =>
      have := hb _ _ hg
      rw [hg, Option.bind_some, if_neg (by omega)] at h2
      cases h2
theorem tickN_len {k n : Nat} (h : Gd L k) : (tickN L (n + 1)).length + (wakeL (tickN L n)).length = (tickN L n).length := tick_len (h.tickN).nd
end
end
end Go.Ab
/- Sleep: a list without one; what is dropped and added again: plain laws. -/
namespace Go.Ab
noncomputable section
section
variable {L A B : SL} {p q : Int} {n x : BitVec 32} {i j k : Nat}
theorem top_map : topL L L.length = (isort (mkeys L)).map fun q => (q, (mget L q).getD 0) := by
  have hl : (isort (mkeys L)).length = L.length := by rw [isort_len, List.length_map]
  apply List.ext_getElem?
  intro i
  unfold topL
  rw [List.getElem?_map, List.getElem?_map]
  by_cases hi : i < L.length
  · have e : keyI L i = (isort (mkeys L))[i]'(by omega) := by unfold keyI; rw [List.getD_eq_getElem?_getD, List.getElem?_eq_getElem (by omega)]; rfl
    rw [List.getElem?_range hi, List.getElem?_eq_getElem (by omega)]
    show some (keyI L i, valI L i) = some _
    unfold valI
    rw [e]
  · rw [List.getElem?_eq_none (by simp; omega), List.getElem?_eq_none (by omega)]; rfl
theorem keys_without (hd : (mkeys L).Nodup) : q ∈ mkeys (mdel L p) ↔ q ∈ mkeys L ∧ q ≠ p := by
  rw [mem_keys, mem_keys]
  by_cases e : q = p
  · rw [e, mget_del_self hd]
    simp
  · rw [mget_del e]
    simp [e]
/-- Without one. -/
def without (L : SL) (p : Int) : SL := if (mget L p).isSome then mdel L p else L
theorem without_get (hd : (mkeys L).Nodup) : mget (without L p) q = if q = p then none else mget L q := by
  unfold without
  split
  · by_cases e : q = p
    · rw [if_pos e, e, mget_del_self hd]
    · rw [if_neg e, mget_del e]
  · rename_i h
    by_cases e : q = p
    · rw [if_pos e, e]
      cases hg : mget L p with
      | none => rfl
      | some y => rw [hg] at h; exact absurd rfl h
    · rw [if_neg e]
theorem without_nodup (hd : (mkeys L).Nodup) : (mkeys (without L p)).Nodup := by
  unfold without
  split
  · exact nodup_del hd
  · exact hd
theorem top_without (hd : (mkeys L).Nodup) : topL (without L p) (without L p).length = (topL L L.length).filter fun x => decide (x.1 ≠ p) := by
  rw [top_map, top_map, List.filter_map]
  have hk : isort (mkeys (without L p)) = (isort (mkeys L)).filter fun q => decide (q ≠ p) := by
    refine rise_ext (isort_rise (without_nodup hd)) ((isort_rise hd).sublist List.filter_sublist) fun q => ?_
    rw [(isort_perm _).mem_iff, List.mem_filter, (isort_perm _).mem_iff, mem_keys, without_get hd, mem_keys, decide_eq_true_eq]
    by_cases e : q = p
    · rw [if_pos e]; simp [e]
    · rw [if_neg e]; simp [e]
  rw [hk]
  apply List.map_congr_left
  intro q hq
  have := (List.mem_filter.1 hq).2
  rw [decide_eq_true_eq] at this
  rw [without_get hd, if_neg this]
theorem filt_f {F : SL} {pr : Int × BitVec 32 → Bool} (hi : i < F.length) (h : pr (F.getD i (0, 0)) = false) : ((F.take (i + 1)).filter pr).length = ((F.take i).filter pr).length := by
  rw [List.take_add_one, List.getElem?_eq_getElem hi, List.filter_append]
  rw [List.getD_eq_getElem?_getD, List.getElem?_eq_getElem hi] at h
  simp only [Option.getD_some] at h
  simp [h]
theorem filt_t {F : SL} {pr : Int × BitVec 32 → Bool} (hi : i < F.length) (h : pr (F.getD i (0, 0)) = true) : ((F.take (i + 1)).filter pr).length = ((F.take i).filter pr).length + 1 ∧ ((F.take i).filter pr).length < (F.filter pr).length ∧ (F.filter pr).getD ((F.take i).filter pr).length (0, 0) = F.getD i (0, 0) := by
  have h' : pr F[i] = true := by
    rw [List.getD_eq_getElem?_getD, List.getElem?_eq_getElem hi] at h
    exact h
  have e : F = F.take i ++ F[i] :: F.drop (i + 1) := by
    rw [← List.drop_eq_getElem_cons hi, List.take_append_drop]
  have ef : F.filter pr = (F.take i).filter pr ++ F[i] :: (F.drop (i + 1)).filter pr := by
    conv => lhs; rw [e]
    rw [List.filter_append, List.filter_cons_of_pos h']
  refine ⟨?_, ?_, ?_⟩
  · rw [List.take_add_one, List.getElem?_eq_getElem hi, List.filter_append]
    simp [h']
  · rw [ef, List.length_append, List.length_cons]; omega
  · rw [ef, List.getD_eq_getElem?_getD, List.getElem?_append_right (Nat.le_refl _), Nat.sub_self, List.getD_eq_getElem?_getD, List.getElem?_eq_getElem hi]
    rfl
theorem wake_iff (hd : (mkeys L).Nodup) : q ∈ wakeL L ↔ mget L q = some 1#32 := by
  constructor
  · exact wake_mem hd
  · intro h
    have hq : q ∈ mkeys L := mem_keys.2 (by rw [h]; rfl)
    obtain ⟨j, hj, rfl⟩ := keyI_at hq
    rw [valI_get hj] at h
    exact wk_mem.2 ⟨j, hj, Option.some.inj h, rfl⟩
theorem wake_same (ha : (mkeys A).Nodup) (hb : (mkeys B).Nodup) (h : ∀ q, mget A q = mget B q) : wakeL A = wakeL B :=
  rise_ext (wk_rise ha (Nat.le_refl _)) (wk_rise hb (Nat.le_refl _)) fun q => by
    show q ∈ wakeL A ↔ q ∈ wakeL B
    rw [wake_iff ha, wake_iff hb, h]
theorem tick_same (ha : (mkeys A).Nodup) (hb : (mkeys B).Nodup) (h : ∀ q, mget A q = mget B q) : ∀ q, mget (tickL A) q = mget (tickL B) q := fun q => by
  rw [tick_get ha, tick_get hb, h]
theorem Gd.without (h : Gd L k) : Gd (without L p) k := by
  unfold Go.Ab.without
  split
  · exact h.del
  · exact h
end
end
end Go.Ab
/- Sleep: the document's list: plain laws. -/
namespace Go.Ab
noncomputable section
section
variable {L A B R : SL} {p q : Int} {n x : BitVec 32} {i j k : Nat}
/-- All, in rising order. -/
def topA (L : SL) : SL := topL L L.length
theorem topA_len : (topA L).length = L.length := topL_len
theorem topA_at (hi : i < L.length) : (topA L).getD i (0, 0) = (keyI L i, valI L i) := topL_getD hi
theorem topA_keys : mkeys (topA L) = isort (mkeys L) := by
  unfold topA
  rw [top_map]
  unfold mkeys
  rw [List.map_map]
  exact List.map_id _
theorem mget_map {f : Int → BitVec 32} : ∀ {l : List Int}, mget (l.map fun q => (q, f q)) p = if p ∈ l then some (f p) else none
  | [] => rfl
  | a :: l => by
    have ih := mget_map (f := f) (l := l)
    show mget ((a, f a) :: l.map fun q => (q, f q)) p = _
    unfold mget
    rw [ih]
    by_cases e : p = a
    · rw [if_pos e, if_pos (by rw [e]; exact List.mem_cons_self), e]
    · rw [if_neg e]
      by_cases h : p ∈ l
      · rw [if_pos h, if_pos (List.mem_cons_of_mem _ h)]
      · rw [if_neg h, if_neg fun h' => by rcases List.mem_cons.1 h' with h' | h'; exact e h'; exact h h']
theorem topA_get : mget (topA L) q = mget L q := by
  unfold topA
  rw [top_map, mget_map]
  by_cases h : q ∈ mkeys L
  · rw [if_pos ((isort_perm _).mem_iff.2 h)]
    have := mem_keys.1 h
    cases hg : mget L q with
    | none => rw [hg] at this; cases this
    | some y => rfl
  · rw [if_neg fun h' => h ((isort_perm _).mem_iff.1 h'), mget_none h]
theorem topA_rise (hd : (mkeys L).Nodup) : (mkeys (topA L)).Pairwise (· < ·) := by
  rw [topA_keys]; exact isort_rise hd
theorem rise_nodup {l : List Int} (h : l.Pairwise (· < ·)) : l.Nodup := h.imp fun h e => by omega
/-- Two rising lists that tell the same are the same. -/
theorem rise_ml (ha : (mkeys A).Pairwise (· < ·)) (hb : (mkeys B).Pairwise (· < ·)) (h : ∀ q, mget A q = mget B q) : A = B :=
  ext_ml (rise_ext ha hb fun x => by rw [mem_keys, mem_keys, h]) (rise_nodup ha) h
theorem topA_eq (hd : (mkeys L).Nodup) (hr : (mkeys R).Pairwise (· < ·)) (h : ∀ q, mget R q = mget L q) : R = topA L :=
  rise_ml hr (topA_rise hd) fun q => by rw [h, topA_get]
theorem mget_at : ∀ {R : SL} {i : Nat}, i < R.length → (∀ j, j < i → (R.getD j (0, 0)).1 ≠ p) → (R.getD i (0, 0)).1 = p → mget R p = some (R.getD i (0, 0)).2
  | [], i, h, _, _ => absurd h (Nat.not_lt_zero _)
  | (y, u) :: R, 0, _, _, h => by
    unfold mget
    rw [if_pos (show p = y from h.symm)]; rfl
  | (y, u) :: R, i + 1, hi, hj, h => by
    unfold mget
    have h0 := hj 0 (by omega)
    rw [if_neg (show ¬ p = y from fun e => h0 e.symm)]
    exact mget_at (R := R) (by simpa using hi) (fun j hj' => hj (j + 1) (by omega)) h
theorem mget_no : ∀ {R : SL}, (∀ j, j < R.length → (R.getD j (0, 0)).1 ≠ p) → mget R p = none
  | [], _ => rfl
  | (y, u) :: R, hj => by
    unfold mget
    have h0 := hj 0 (by simp)
    rw [if_neg (show ¬ p = y from fun e => h0 e.symm)]
    exact mget_no (R := R) fun j hj' => hj (j + 1) (by simp; omega)
/-! ### one more -/
def insR : SL → Int → BitVec 32 → SL
  | [], p, n => [(p, n)]
  | (y, u) :: R, p, n => if p < y then (p, n) :: (y, u) :: R else (y, u) :: insR R p n
theorem ins_app_t : ∀ {A : SL} {x : Int × BitVec 32}, (∃ a ∈ A, p < a.1) → insR (A ++ [x]) p n = insR A p n ++ [x]
  | [], x, h => by obtain ⟨a, h, _⟩ := h; cases h
  | (y, u) :: A, x, h => by
    show insR ((y, u) :: (A ++ [x])) p n = _
    unfold insR
    by_cases c : p < y
    · rw [if_pos c, if_pos c]; rfl
    · rw [if_neg c, if_neg c, ins_app_t (A := A) (by
        obtain ⟨a, h1, h2⟩ := h
        rcases List.mem_cons.1 h1 with rfl | h1
        · exact absurd h2 c
        · exact ⟨a, h1, h2⟩)]
      rfl
theorem ins_app_f : ∀ {A : SL} {B : SL}, (∀ a ∈ A, ¬ p < a.1) → insR (A ++ B) p n = A ++ insR B p n
  | [], B, _ => rfl
  | (y, u) :: A, B, h => by
    show insR ((y, u) :: (A ++ B)) p n = _
    conv => lhs; unfold insR
    rw [if_neg (h _ List.mem_cons_self), ins_app_f (A := A) fun a ha => h a (List.mem_cons_of_mem _ ha)]
    rfl
theorem ins_get : ∀ {R : SL}, mget R p = none → mget (insR R p n) q = if q = p then some n else mget R q
  | [], _ => rfl
  | (y, u) :: R, h => by
    have hy : ¬ p = y := fun e => by
      unfold mget at h
      rw [if_pos e] at h; cases h
    have h' : mget R p = none := by
      unfold mget at h
      rwa [if_neg hy] at h
    unfold insR
    by_cases c : p < y
    · rw [if_pos c]
      show mget ((p, n) :: (y, u) :: R) q = _
      conv => lhs; unfold mget
    · rw [if_neg c]
      show mget ((y, u) :: insR R p n) q = _
      unfold mget
      rw [ins_get h']
      by_cases e : q = y
      · rw [if_pos e, if_pos e, if_neg (by rw [e]; exact fun h => hy h.symm)]
      · rw [if_neg e, if_neg e]
theorem ins_key : ∀ {R : SL}, q ∈ mkeys (insR R p n) → q = p ∨ q ∈ mkeys R
  | [], h => .inl (List.mem_singleton.1 h)
  | (y, u) :: R, h => by
    unfold insR at h
    by_cases c : p < y
    · rw [if_pos c] at h
      rcases List.mem_cons.1 (show q ∈ p :: y :: mkeys R from h) with h | h
      · exact .inl h
      · exact .inr h
    · rw [if_neg c] at h
      rcases List.mem_cons.1 (show q ∈ y :: mkeys (insR R p n) from h) with h | h
      · exact .inr (by rw [h]; exact List.mem_cons_self)
      · rcases ins_key h with h | h
        · exact .inl h
        · exact .inr (List.mem_cons_of_mem _ h)
theorem ins_rise : ∀ {R : SL}, mget R p = none → (mkeys R).Pairwise (· < ·) → (mkeys (insR R p n)).Pairwise (· < ·)
  | [], _, _ => List.pairwise_singleton _ _
  | (y, u) :: R, h, hr => by
    have hy : ¬ p = y := fun e => by
      unfold mget at h
      rw [if_pos e] at h; cases h
    have h' : mget R p = none := by
      unfold mget at h
      rwa [if_neg hy] at h
    obtain ⟨r1, r2⟩ := List.pairwise_cons.1 (show (y :: mkeys R).Pairwise (· < ·) from hr)
    unfold insR
    by_cases c : p < y
    · rw [if_pos c]
      show (p :: y :: mkeys R).Pairwise (· < ·)
      refine List.pairwise_cons.2 ⟨fun z hz => ?_, hr⟩
      rcases List.mem_cons.1 hz with rfl | hz
      · exact c
      · have := r1 z hz; omega
    · rw [if_neg c]
      show (y :: mkeys (insR R p n)).Pairwise (· < ·)
      refine List.pairwise_cons.2 ⟨fun z hz => ?_, ins_rise h' r2⟩
      rcases ins_key hz with rfl | hz
      · omega
      · exact r1 z hz
theorem ins_top {k : Nat} (h : Gd L k) (hp : mget L p = none) : insR (topA L) p n = topA (mset L p n) :=
  topA_eq (nodup_set h.nd) (ins_rise (by rw [topA_get]; exact hp) (topA_rise h.nd)) fun q => by
    rw [ins_get (by rw [topA_get]; exact hp), topA_get, mget_set]
theorem without_top {k : Nat} (h : Gd L k) : (topA L).filter (fun x => decide (x.1 ≠ p)) = topA (without L p) := (top_without h.nd).symm
/-! ### a tick -/
def tlL (L : SL) : Nat → SL
  | 0 => []
  | i + 1 => tlL L i ++ (if valI L i = 1#32 then [] else [(keyI L i, valI L i - 1#32)])
theorem tlL_len : ∀ {i : Nat}, (tlL L i).length ≤ i
  | 0 => Nat.le_refl _
  | i + 1 => by
    have := tlL_len (i := i)
    unfold tlL
    rw [List.length_append]
    split
    · simp only [List.length_nil]; omega
    · simp only [List.length_cons, List.length_nil]; omega
theorem tl_mem : ∀ {i : Nat}, q ∈ mkeys (tlL L i) → ∃ j, j < i ∧ keyI L j = q
  | 0, h => by cases h
  | i + 1, h => by
    unfold tlL mkeys at h
    rw [List.map_append, List.mem_append] at h
    rcases h with h | h
    · obtain ⟨j, h1, h2⟩ := tl_mem h
      exact ⟨j, by omega, h2⟩
    · split at h
      · cases h
      · exact ⟨i, by omega, (List.mem_singleton.1 h).symm⟩
theorem tl_rise (hd : (mkeys L).Nodup) : ∀ {i : Nat}, i ≤ L.length → (mkeys (tlL L i)).Pairwise (· < ·)
  | 0, _ => List.Pairwise.nil
  | i + 1, hi => by
    have ih := tl_rise hd (i := i) (by omega)
    unfold tlL mkeys
    rw [List.map_append]
    refine List.pairwise_append.2 ⟨ih, ?_, fun x hx y hy => ?_⟩
    · split
      · exact List.Pairwise.nil
      · exact List.pairwise_singleton _ _
    · split at hy
      · cases hy
      · rw [List.mem_singleton.1 hy]
        obtain ⟨j, h1, rfl⟩ := tl_mem hx
        exact key_lt hd h1 (by omega)
theorem mget_app : ∀ {A B : SL}, mget (A ++ B) q = match mget A q with | some y => some y | none => mget B q
  | [], B => rfl
  | (y, u) :: A, B => by
    have ih := mget_app (A := A) (B := B)
    show (if q = y then some u else mget (A ++ B) q) = match (if q = y then some u else mget A q) with | some y => some y | none => mget B q
    by_cases e : q = y
    · rw [if_pos e, if_pos e]
    · rw [if_neg e, if_neg e]
      exact ih
theorem tl_get (hd : (mkeys L).Nodup) : ∀ {i : Nat}, i ≤ L.length → ∀ j, j < i → mget (tlL L i) (keyI L j) = if valI L j = 1#32 then none else some (valI L j - 1#32)
  | 0, _, j, hj => absurd hj (Nat.not_lt_zero _)
  | i + 1, hi, j, hj => by
    rw [tlL, mget_app]
    by_cases e : j = i
    · subst e
      have : mget (tlL L j) (keyI L j) = none := by
        refine mget_none fun h => ?_
        obtain ⟨k, h1, h2⟩ := tl_mem h
        exact key_ne hd (by omega) (by omega) (by omega) h2
      rw [this]
      by_cases c : valI L j = 1#32
      · rw [if_pos c, if_pos c]; rfl
      · rw [if_neg c, if_neg c]
        show mget [(keyI L j, valI L j - 1#32)] (keyI L j) = _
        unfold mget
        rw [if_pos rfl]
    · rw [tl_get hd (i := i) (by omega) j (by omega)]
      have hne := key_ne hd (show j < L.length by omega) (show i < L.length by omega) e
      by_cases c : valI L j = 1#32
      · rw [if_pos c]
        show mget (if valI L i = 1#32 then [] else [(keyI L i, valI L i - 1#32)]) (keyI L j) = none
        by_cases c2 : valI L i = 1#32
        · rw [if_pos c2]; rfl
        · rw [if_neg c2]
          show (if keyI L j = keyI L i then some (valI L i - 1#32) else none) = none
          rw [if_neg hne]
      · rw [if_neg c]
theorem tl_top {k : Nat} (h : Gd L k) : tlL L L.length = topA (tickL L) :=
  topA_eq (tick_nodup h.nd) (tl_rise h.nd (Nat.le_refl _)) fun q => by
    rw [tick_get h.nd]
    by_cases hq : q ∈ mkeys L
    · obtain ⟨j, hj, rfl⟩ := keyI_at hq
      rw [tl_get h.nd (Nat.le_refl _) j hj, valI_get hj]
      rfl
    · rw [mget_none hq, mget_none fun h' => hq (by obtain ⟨j, h1, rfl⟩ := tl_mem h'; exact keyI_mem h1)]
      rfl
end
end
end Go.Ab
