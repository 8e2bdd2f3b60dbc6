/- Sleep: the least that is left, and ticks until then: plain laws. -/
import Derived.Test.YtojfkjjacaellaaSmF
import Derived.Test.YtojfkjjacaellaaSmH
namespace Go.Ab
noncomputable section
section
variable {L A B : SL} {p q : Int} {n x d : BitVec 32} {i j k : Nat}
theorem val_nz (h : Gd L k) (hi : i < L.length) : valI L i ≠ 0#32 := h.nz _ _ (valI_get hi)
theorem min_spec (h : Gd L k) : ∀ {i : Nat}, i ≤ L.length → 0 < i → minU L i ≠ 0#32 ∧ (∃ j, j < i ∧ valI L j = minU L i) ∧ ∀ j, j < i → (minU L i).toNat ≤ (valI L j).toNat
  | 0, _, h0 => absurd h0 (Nat.not_lt_zero _)
  | i + 1, hi, _ => by
    have hv := val_nz h (show i < L.length by omega)
    by_cases e : i = 0
    · subst e
      have : minU L 1 = valI L 0 := by unfold minU; rw [if_pos (.inl rfl)]
      rw [this]
      exact ⟨hv, ⟨0, by omega, rfl⟩, fun j hj => by obtain rfl : j = 0 := by omega
                                                    exact Nat.le_refl _⟩
    · obtain ⟨g1, ⟨j0, g2, g3⟩, g4⟩ := min_spec h (i := i) (by omega) (by omega)
      unfold minU
      by_cases c : (valI L i).toNat < (minU L i).toNat
      · rw [if_pos (.inr c)]
        refine ⟨hv, ⟨i, by omega, rfl⟩, fun j hj => ?_⟩
        by_cases e2 : j = i
        · rw [e2]; exact Nat.le_refl _
        · have := g4 j (by omega); omega
      · rw [if_neg (by rintro (h | h); exact g1 h; exact c h)]
        refine ⟨g1, ⟨j0, by omega, g3⟩, fun j hj => ?_⟩
        by_cases e2 : j = i
        · rw [e2]; omega
        · exact g4 j (by omega)
/-- Keys of so much, of the first i. -/
def fiL (L : SL) (x : BitVec 32) : Nat → List Int
  | 0 => []
  | i + 1 => fiL L x i ++ (if valI L i = x then [keyI L i] else [])
theorem fiL_len : ∀ {i : Nat}, (fiL L x i).length ≤ i
  | 0 => Nat.le_refl _
  | i + 1 => by
    have := fiL_len (i := i)
    unfold fiL
    rw [List.length_append]
    split
    · simp only [List.length_cons, List.length_nil]; omega
    · simp only [List.length_nil]; omega
theorem fiL_t (h : valI L i = x) : fiL L x (i + 1) = fiL L x i ++ [keyI L i] := by rw [fiL, if_pos h]
theorem fiL_f (h : valI L i ≠ x) : fiL L x (i + 1) = fiL L x i := by rw [fiL, if_neg h, List.append_nil]
theorem fiL_pos (hj : j < i) (h : valI L j = x) : 0 < (fiL L x i).length := by
  induction i with
  | zero => omega
  | succ i ih =>
    by_cases e : j = i
    · subst e; rw [fiL_t h, List.length_append]; simp
    · have := ih (by omega)
      unfold fiL
      rw [List.length_append]; omega
/-- So much less is left to each. -/
def decL (L : SL) (d : BitVec 32) : SL := L.map fun p => (p.1, p.2 - d)
theorem dec_keys : mkeys (decL L d) = mkeys L := by unfold decL mkeys; rw [List.map_map]; rfl
theorem dec_len : (decL L d).length = L.length := by unfold decL; rw [List.length_map]
theorem dec_zero : decL L 0#32 = L := by
  unfold decL
  induction L with
  | nil => rfl
  | cons p L ih => rw [List.map_cons, ih]; simp
theorem dec_dec {e : BitVec 32} : decL (decL L d) e = decL L (d + e) := by
  unfold decL
  rw [List.map_map]
  congr 1
  funext p
  show (p.1, p.2 - d - e) = (p.1, p.2 - (d + e))
  rw [BitVec.sub_sub]
theorem mget_dec : ∀ {L : SL}, mget (decL L d) q = (mget L q).map (· - d)
  | [] => rfl
  | (x, u) :: L => by
    have ih := mget_dec (L := L)
    show mget ((x, u - d) :: decL L d) q = _
    unfold mget
    rw [ih]
    split <;> rfl
theorem dec_key : keyI (decL L d) i = keyI L i := by unfold keyI; rw [dec_keys]
theorem dec_val (hi : i < L.length) : valI (decL L d) i = valI L i - d := by
  unfold valI
  rw [dec_key, mget_dec]
  have := valI_get hi
  rw [this]; rfl
theorem ext_ml : ∀ {A B : SL}, mkeys A = mkeys B → (mkeys A).Nodup → (∀ q, mget A q = mget B q) → A = B
  | [], [], _, _, _ => rfl
  | [], _ :: _, h, _, _ => by cases h
  | _ :: _, [], h, _, _ => by cases h
  | (x, u) :: A, (y, w) :: B, h, hn, hg => by
    have h' : x :: mkeys A = y :: mkeys B := h
    have hx := (List.cons.inj h').1
    have ht := (List.cons.inj h').2
    have hn' : x ∉ mkeys A ∧ (mkeys A).Nodup := List.nodup_cons.1 hn
    have h0 := hg x
    unfold mget at h0
    rw [if_pos rfl, if_pos hx] at h0
    have hu := Option.some.inj h0
    subst hx
    rw [hu, ext_ml ht hn'.2 fun q => ?_]
    by_cases e : q = x
    · rw [e, mget_none hn'.1, mget_none (ht ▸ hn'.1)]
    · have := hg q
      unfold mget at this
      rwa [if_neg e, if_neg e] at this
theorem tk_keys (hd : (mkeys L).Nodup) (hno : ∀ j, j < L.length → valI L j ≠ 1#32) : ∀ {i : Nat}, i ≤ L.length → mkeys (tkL L i) = mkeys L
  | 0, _ => rfl
  | i + 1, hi => by
    have ih := tk_keys hd hno (i := i) (by omega)
    unfold tkL
    rw [if_neg (hno i (by omega)), keys_set, if_pos (tk_key hd (by omega)), ih]
theorem tick_none (h : Gd L k) (hno : ∀ j, j < L.length → valI L j ≠ 1#32) : tickL L = decL L 1#32 := by
  have hk := tk_keys h.nd hno (Nat.le_refl L.length)
  refine ext_ml (hk.trans dec_keys.symm) (by rw [tickL, hk]; exact h.nd) fun q => ?_
  rw [tick_get h.nd, mget_dec]
  cases hg : mget L q with
  | none => rfl
  | some y =>
    have hq : q ∈ mkeys L := mem_keys.2 (by rw [hg]; rfl)
    obtain ⟨j, hj, rfl⟩ := keyI_at hq
    rw [valI_get hj] at hg
    cases hg
    simp only [Option.bind_some, Option.map_some, if_neg (hno j hj)]
theorem wk_none (hno : ∀ j, j < L.length → valI L j ≠ 1#32) : ∀ {i : Nat}, i ≤ L.length → wkL L i = []
  | 0, _ => rfl
  | i + 1, hi => by
    rw [wkL, wk_none hno (i := i) (by omega), if_neg (hno i (by omega))]; rfl
theorem wk_dec (hx : ∀ y : BitVec 32, y - d = 1#32 ↔ y = x) : ∀ {i : Nat}, i ≤ L.length → wkL (decL L d) i = fiL L x i
  | 0, _ => rfl
  | i + 1, hi => by
    have ih := wk_dec hx (i := i) (by omega)
    rw [wkL, fiL, ih, dec_val (by omega), dec_key]
    by_cases e : valI L i = x
    · rw [if_pos e, if_pos ((hx _).2 e)]
    · rw [if_neg e, if_neg fun h => e ((hx _).1 h)]
theorem sub_one {y : BitVec 32} : y - (x - 1#32) = 1#32 ↔ y = x := by
  constructor
  · intro h
    have h2 := congrArg (· + (x - 1#32)) h
    simp only [BitVec.sub_add_cancel] at h2
    rw [h2, BitVec.add_comm, BitVec.sub_add_cancel]
  · intro h
    rw [h]
    apply BitVec.eq_of_toNat_eq
    have := x.isLt
    simp only [BitVec.toNat_sub, BitVec.toNat_ofNat]
    omega
/-- Before the last one, none wakes. -/
theorem dec_no (h : Gd L k) (hmin : ∀ j, j < L.length → x.toNat ≤ (valI L j).toNat) (hi : i + 1 < x.toNat) : ∀ j, j < (decL L (BitVec.ofNat 32 i)).length → valI (decL L (BitVec.ofNat 32 i)) j ≠ 1#32 := fun j hj => by
  rw [dec_len] at hj
  rw [dec_val hj]
  intro e
  have h1 := hmin j hj
  have h2 := congrArg BitVec.toNat e
  have := (valI L j).isLt
  have := x.isLt
  simp only [BitVec.toNat_sub, BitVec.toNat_ofNat] at h2
  omega
theorem Gd.dec (h : Gd L k) (hmin : ∀ j, j < L.length → x.toNat ≤ (valI L j).toNat) (hi : i < x.toNat) : Gd (decL L (BitVec.ofNat 32 i)) k := by
  refine ⟨by rw [dec_keys]; exact h.nd, wfL_keys.2 (by rw [dec_keys]; exact wfL_keys.1 h.wf), fun p n hn => ?_, by rw [dec_len]; exact h.len⟩
  rw [mget_dec] at hn
  cases hg : mget L p with
  | none => rw [hg] at hn; cases hn
  | some y =>
    have hq : p ∈ mkeys L := mem_keys.2 (by rw [hg]; rfl)
    obtain ⟨j, hj, rfl⟩ := keyI_at hq
    rw [valI_get hj] at hg
    cases hg
    rw [valI_get hj] at hn
    simp only [Option.map_some, Option.some.injEq] at hn
    intro e
    rw [e] at hn
    have h1 := hmin j hj
    have h2 := congrArg BitVec.toNat hn
    have := (valI L j).isLt
    have := x.isLt
    simp only [BitVec.toNat_sub, BitVec.toNat_ofNat] at h2
    omega
theorem topL_getD (hi : i < L.length) : (topL L L.length).getD i (0, 0) = (keyI L i, valI L i) := by
  unfold topL
  rw [List.getD_eq_getElem?_getD, List.getElem?_map, List.getElem?_range hi]; rfl
end
end
end Go.Ab
