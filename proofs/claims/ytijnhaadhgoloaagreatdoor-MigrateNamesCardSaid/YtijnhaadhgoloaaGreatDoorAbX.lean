/- An interpreter of our own: package-level tables of texts. -/
import Derived.Test.YtijnhaadhgoloaaGreatDoorAbS
import Derived.OpenShut
import Derived.LaidMore
namespace Go.Ab
variable {σ : Sig}

/-- One table, and nothing else. -/
noncomputable def gMem (g : Nat) (cells : List Value) : Mem := ⟨64, Tr.put g .leaf g (some (.cells (.ofList cells) false 1))⟩

theorem gMem_get (g : Nat) (cells : List Value) (b : Nat) : (gMem g cells).get b = if b = g then some (.cells (.ofList cells) false 1) else none := by
  show (Tr.put g .leaf g _).get b = _
  rw [Tr.get_put _ _ _ _ _ (Nat.le_refl g), Tr.get_leaf]

theorem gMem_sealed (g : Nat) (cells : List Value) : Sealed (gMem g cells) := fun b o h => by
  rw [gMem_get] at h
  split at h
  · cases h; rfl
  · cases h

theorem gMem_rel {g : Nat} {cells : List Value} {w : World} (hg : g < 64) (hne : cells ≠ []) (hp : cells.all plain = true) (h : ∀ (i : Nat) v, cells[i]? = some v → w.cell? ⟨g, i, none⟩ = some v) : Rel σ ρ0 (gMem g cells) w := by
  refine ⟨(m0_rel (σ := σ) w).dom, (m0_rel (σ := σ) w).glob, fun b o x hb hx => ?_, fun b1 b2 o1 o2 x1 x2 _ h1 _ _ _ hw => ?_, fun b hb => ?_⟩
  · rw [gMem_get] at hb
    split at hb
    · rename_i hbg
      subst hbg
      cases hb
      have hρ : ρ0 b = some (b, 0, 0) := by simp [ρ0, hg]
      rw [hρ] at hx
      cases hx
      show CellsRel σ ρ0 w (b, 0, 0) (Cells.ofList cells).list false 1
      rw [Cells.ofList_list]
      obtain ⟨v0, hv0⟩ : ∃ v0, cells[0]? = some v0 := by
        cases cells with
        | nil => exact absurd rfl hne
        | cons v l => exact ⟨v, rfl⟩
      have h0 := h 0 v0 hv0
      unfold World.cell? at h0
      cases hb2 : w.heap[b]? with
      | none => simp [hb2] at h0
      | some ob =>
        cases ob with
        | cells cs' t fz =>
          have hall : ∀ (i : Nat) v, cells[i]? = some v → cs'[i]? = some v := fun i v hv => by
            have := h i v hv
            simpa [World.cell?, hb2] using this
          refine ⟨cs', t, fz, hb2, ?_, ⟨fun e => (by cases e), fun _ => rfl⟩, fun i hi => ?_⟩
          · have hl : cells.length - 1 < cells.length := by
              have := List.length_pos_iff.2 hne
              omega
            have := hall (cells.length - 1) _ (List.getElem?_eq_getElem hl)
            have := (Array.getElem?_eq_some_iff.1 this).1
            simp only
            omega
          · have h1 := List.getElem?_eq_getElem hi
            have h2 := hall i _ h1
            rw [List.getD_eq_getElem?_getD, h1, Array.getD_eq_getD_getElem?, Nat.zero_add, h2]
            exact plain_refl ρ0 (List.all_eq_true.1 hp _ (List.getElem_mem hi))
        | _ => simp [hb2] at h0
    · cases hb
  · rw [gMem_sealed g cells b1 o1 h1] at hw
    cases hw
  · rw [gMem_get, if_neg (by simp [gMem] at hb; omega)]

/-- A table of texts that a row lists. -/
theorem strs_of_laid {P : Program} {W : World} {n : String} {g t te k : Nat} (hgl : P.globalNamed n = some g) (htg : (P.globals[g]?).map (·.type) = some t) (hta : P.underlying t = some (.array k te)) (hts : P.underlying te = some .string)
    (hce : P.cellsOf te = 1) {bs : List (List UInt8)} (h : laidMet P [(n, .agg (bs.map fun b => .lit (.string b)))] W) : ∀ (i : Nat) v, (bs.map fun b => Value.string ⟨b.toArray⟩)[i]? = some v → W.cell? ⟨g, i, none⟩ = some v := by
  intro i v hi
  obtain ⟨ps, ⟨g0, t0, cs0, f0, p0, q0, hg0, ht0, hv0, hd0, _, _⟩, _, _⟩ := h
  obtain rfl := Option.some.inj (hgl.symm.trans hg0)
  obtain rfl := Option.some.inj (htg.symm.trans ht0)
  obtain ⟨xs, m, rfl, hx, hlen, hn, hel⟩ := DataW.trod_array hta hd0
  simp only [Prod.mk.injEq, DataW.agg.injEq] at hx
  rw [List.getElem?_map] at hi
  cases hb : bs[i]? with
  | none => rw [hb] at hi; cases hi
  | some b =>
    rw [hb] at hi
    simp only [Option.map_some, Option.some.injEq] at hi
    subst hi
    have h1 : (xs.map (·.1))[i]? = some (.lit (.string b)) := by rw [← hx.1, List.getElem?_map, hb]; rfl
    rw [List.getElem?_map] at h1
    cases hxi : xs[i]? with
    | none => rw [hxi] at h1; cases h1
    | some x =>
      rw [hxi] at h1
      simp only [Option.map_some, Option.some.injEq] at h1
      have hik : i < k := by rw [← hn]; exact (List.getElem?_eq_some_iff.1 hxi).1
      have h2 := hel i hik
      rw [hxi, hce, Nat.mul_one] at h2
      obtain ⟨s, e1, e2, _⟩ := DataW.trod_string hts h2
      rw [e2] at h1
      simp only [DataW.lit.injEq, Lit.string.injEq] at h1
      have hs : s = ⟨b.toArray⟩ := by rw [← h1]
      have h3 : cs0.toList[i]? = some (.string s) := by
        have : ((cs0.toList.drop i).take 1)[0]? = some (.string s) := by rw [e1]; rfl
        rw [List.getElem?_take_of_lt (by omega), List.getElem?_drop] at this
        simpa using this
      rw [World.var?_cell hg0 hv0 i, ← Array.getElem?_toList, h3, hs]
end Go.Ab
