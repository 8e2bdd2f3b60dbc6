/- An interpreter of our own: package-level tables of plain data. -/
import Derived.Test.YtijnhaadhgoloaaGreatDoorAbX
namespace Go.Ab
variable {σ : Sig}

def arrCells (f : DataW Unit → Option (List Value)) (k : Nat) : List (DataW Unit) → Option (List Value)
  | [] => some []
  | d :: ds => match f d, arrCells f k ds with
    | some a, some b => if a.length = k then some (a ++ b) else none
    | _, _ => none
def strCells (P : Program) (f : TypeId → DataW Unit → Option (List Value)) : List Field → List (DataW Unit) → Nat → Option (List Value)
  | [], [], _ => some []
  | x :: fs, d :: ds, off => match f x.type d, strCells P f fs ds (off + P.cellsOf x.type) with
    | some a, some b => if x.offset = off ∧ a.length = P.cellsOf x.type then some (a ++ b) else none
    | _, _ => none
  | _, _, _ => none
/-- The cells of a plain datum. -/
def dataCells (P : Program) : Nat → TypeId → DataW Unit → Option (List Value)
  | 0, _, _ => none
  | n + 1, t, d => match P.underlying t, d with
    | some (.int k), .lit (.int j a) => if k = j then some [.int k a] else none
    | some .bool, .lit (.bool b) => some [.bool b]
    | some .string, .lit (.string s) => some [.string ⟨s.toArray⟩]
    | some (.array len e), .agg ds => if ds.length = len ∧ P.cellsOf t = len * P.cellsOf e then arrCells (dataCells P n e) (P.cellsOf e) ds else none
    | some (.struct fs), .agg ds => match strCells P (dataCells P n) fs.toList ds 0 with
      | some l => if l.length = P.cellsOf t then some l else none
      | none => none
    | _, _ => none

theorem arr_eq {f : DataW Unit → Option (List Value)} {k : Nat} : ∀ {ds : List (DataW Unit)} {l cs : List Value}, arrCells f k ds = some l → cs.length = ds.length * k →
    (∀ (i : Nat) d a, ds[i]? = some d → f d = some a → (cs.drop (i * k)).take k = a) → cs = l
  | [], l, cs, h, hl, _ => by
    simp only [arrCells, Option.some.injEq] at h
    subst h
    exact List.eq_nil_of_length_eq_zero (by simpa using hl)
  | d :: ds, l, cs, h, hl, hc => by
    simp only [arrCells] at h
    split at h
    · rename_i a b ha hb
      split at h
      · rename_i hk
        simp only [Option.some.injEq] at h
        subst h
        have h0 : cs.take k = a := by simpa using hc 0 d a (by simp) ha
        have hl' : cs.length = ds.length * k + k := by rw [hl, List.length_cons, Nat.add_mul, Nat.one_mul]
        have h1 : cs.drop k = b := arr_eq hb (by rw [List.length_drop]; omega) fun i d' a' hd hf => by
          have := hc (i + 1) d' a' (by simpa using hd) hf
          rw [List.drop_drop]
          rw [Nat.add_mul, Nat.one_mul, Nat.add_comm] at this
          exact this
        rw [← List.take_append_drop k cs, h0, h1]
      · cases h
    · cases h

theorem str_eq {P : Program} {f : TypeId → DataW Unit → Option (List Value)} : ∀ {fs : List Field} {ds : List (DataW Unit)} {off : Nat} {l cs : List Value}, strCells P f fs ds off = some l → cs.length = off + l.length →
    (∀ (i : Nat) x d a, fs[i]? = some x → ds[i]? = some d → f x.type d = some a → (cs.drop x.offset).take (P.cellsOf x.type) = a) → cs.drop off = l
  | [], [], off, l, cs, h, hl, _ => by
    simp only [strCells, Option.some.injEq] at h
    subst h
    exact List.drop_eq_nil_of_le (by simpa using Nat.le_of_eq hl)
  | x :: fs, d :: ds, off, l, cs, h, hl, hc => by
    simp only [strCells] at h
    split at h
    · rename_i a b ha hb
      split at h
      · rename_i hk
        obtain ⟨ho, hk⟩ := hk
        simp only [Option.some.injEq] at h
        subst h
        have h0 : (cs.drop off).take (P.cellsOf x.type) = a := by
          have := hc 0 x d a (by simp) (by simp) ha
          rwa [ho] at this
        rw [List.length_append] at hl
        have h1 : cs.drop (off + P.cellsOf x.type) = b := str_eq hb (by omega) fun i x' d' a' hx hd hf => hc (i + 1) x' d' a' (by simpa using hx) (by simpa using hd) hf
        rw [← List.take_append_drop (P.cellsOf x.type) (cs.drop off), h0, List.drop_drop, h1]
      · cases h
    · cases h
  | [], _ :: _, _, _, _, h, _, _ => by simp [strCells] at h
  | _ :: _, [], _, _, _, h, _, _ => by simp [strCells] at h

theorem data_eq {P : Program} {W : World} {enc : TypeId × Value → Unit} {base : Nat} {sp : Nat → Bool} {held : Bool} : ∀ (n : Nat) {t : TypeId} {d : DataW Unit} {l cs : List Value} {fuel : Nat} {p : List MemPlace},
    dataCells P n t d = some l → DataW.trod enc P W base sp held fuel t cs = some (d, p) → cs = l
  | 0, t, d, l, cs, fuel, p, h, _ => by simp [dataCells] at h
  | n + 1, t, d, l, cs, fuel, p, h, ht => by
    simp only [dataCells] at h
    split at h
    · rename_i k j a hu
      split at h
      · rename_i hkj
        subst hkj
        simp only [Option.some.injEq] at h
        subst h
        obtain ⟨x, e1, e2, _⟩ := DataW.trod_int hu ht
        simp only [Prod.mk.injEq, DataW.lit.injEq, Lit.int.injEq] at e2
        rw [e1, e2.1.2]
      · cases h
    · rename_i b hu
      simp only [Option.some.injEq] at h
      subst h
      obtain ⟨x, e1, e2⟩ := DataW.trod_bool hu ht
      simp only [Prod.mk.injEq, DataW.lit.injEq, Lit.bool.injEq] at e2
      rw [e1, e2.1]
    · rename_i s hu
      simp only [Option.some.injEq] at h
      subst h
      obtain ⟨x, e1, e2, _⟩ := DataW.trod_string hu ht
      simp only [Prod.mk.injEq, DataW.lit.injEq, Lit.string.injEq] at e2
      rw [e1, e2.1]
    · rename_i len e ds hu
      split at h
      · rename_i hc
        obtain ⟨hc1, hc2⟩ := hc
        obtain ⟨xs, m, rfl, hx, hlen, hn, hel⟩ := DataW.trod_array hu ht
        simp only [Prod.mk.injEq, DataW.agg.injEq] at hx
        refine arr_eq h (by rw [hlen, hc2, hc1]) fun i d' a hd hf => ?_
        have hil : i < len := by rw [← hc1]; exact (List.getElem?_eq_some_iff.1 hd).1
        have h1 : (xs.map (·.1))[i]? = some d' := by rw [← hx.1]; exact hd
        rw [List.getElem?_map] at h1
        cases hxi : xs[i]? with
        | none => rw [hxi] at h1; cases h1
        | some x =>
          rw [hxi] at h1
          simp only [Option.map_some, Option.some.injEq] at h1
          have h2 := hel i hil
          rw [hxi] at h2
          obtain ⟨x1, x2⟩ := x
          simp only at h1
          subst h1
          exact data_eq n hf h2
      · cases h
    · rename_i fs ds hu
      split at h
      · rename_i l' hl'
        split at h
        · rename_i hlen'
          simp only [Option.some.injEq] at h
          subst h
          obtain ⟨xs, m, rfl, hx, hlen, hn, hel⟩ := DataW.trod_struct hu ht
          simp only [Prod.mk.injEq, DataW.agg.injEq] at hx
          have := str_eq (cs := cs) hl' (by rw [hlen, hlen', Nat.zero_add]) fun i x d' a hxf hd hf => ?_
          · simpa using this
          · have h1 : (xs.map (·.1))[i]? = some d' := by rw [← hx.1]; exact hd
            rw [List.getElem?_map] at h1
            cases hxi : xs[i]? with
            | none => rw [hxi] at h1; cases h1
            | some y =>
              rw [hxi] at h1
              simp only [Option.map_some, Option.some.injEq] at h1
              have h2 := hel i x (by simpa using hxf)
              rw [hxi] at h2
              obtain ⟨y1, y2⟩ := y
              simp only at h1
              subst h1
              exact data_eq n hf h2
        · cases h
      · cases h
    · cases h

/-- The tables that a row lists: number and cells. -/
def tabsOf (P : Program) : List (String × DataW Unit) → Option (List (Nat × List Value))
  | [] => some []
  | (n, d) :: r => match P.globalNamed n with
    | none => none
    | some g => match (P.globals[g]?).map (·.type) with
      | none => none
      | some t => match dataCells P 8 t d, tabsOf P r with
        | some (v :: l), some tl => if g < 64 ∧ (v :: l).all plain = true then some ((g, v :: l) :: tl) else none
        | _, _ => none

theorem tabs_laid {P : Program} {W : World} : ∀ {laid : List (String × DataW Unit)} {tabs : List (Nat × List Value)} {ps : List MemPlace}, tabsOf P laid = some tabs → DataW.LaidVars P W laid ps →
    ∀ q ∈ tabs, q.1 < 64 ∧ q.2 ≠ [] ∧ q.2.all plain = true ∧ ∀ (i : Nat) v, q.2[i]? = some v → W.cell? ⟨q.1, i, none⟩ = some v
  | [], tabs, ps, h, _ => by
    simp only [tabsOf, Option.some.injEq] at h
    subst h
    intro q hq
    cases hq
  | (n, d) :: r, tabs, ps, h, hl => by
    obtain ⟨g0, t0, cs0, f0, p0, q0, hg0, ht0, hv0, hd0, hr, _⟩ := hl
    simp only [tabsOf] at h
    rw [hg0] at h
    simp only at h
    rw [ht0] at h
    simp only at h
    split at h
    · rename_i v l tl hdc htl
      split at h
      · rename_i hc
        simp only [Option.some.injEq] at h
        subst h
        intro q hq
        rcases List.mem_cons.1 hq with rfl | hq
        · refine ⟨hc.1, by simp, hc.2, fun i u hu => ?_⟩
          have hcs := data_eq 8 hdc hd0
          rw [World.var?_cell hg0 hv0 i, ← Array.getElem?_toList, hcs]
          exact hu
        · exact tabs_laid htl hr q hq
      · cases h
    · cases h

noncomputable def gMems (tabs : List (Nat × List Value)) : Tr AObj := match tabs with
  | [] => .leaf
  | (g, l) :: r => Tr.put g (gMems r) g (some (.cells (.ofList l) false 1))
noncomputable def tabMem (tabs : List (Nat × List Value)) : Mem := ⟨64, gMems tabs⟩

theorem gMems_get : ∀ {tabs : List (Nat × List Value)} {b : Nat} {o : AObj}, (gMems tabs).get b = some o → ∃ l, (b, l) ∈ tabs ∧ o = .cells (.ofList l) false 1
  | [], b, o, h => by rw [gMems, Tr.get_leaf] at h; cases h
  | (g, l) :: r, b, o, h => by
    rw [gMems, Tr.get_put _ _ _ _ _ (Nat.le_refl g)] at h
    split at h
    · rename_i e
      cases h
      exact ⟨l, by simp [e], rfl⟩
    · obtain ⟨l', h1, h2⟩ := gMems_get h
      exact ⟨l', List.mem_cons_of_mem _ h1, h2⟩

theorem tabMem_sealed (tabs : List (Nat × List Value)) : Sealed (tabMem tabs) := fun b o h => by
  obtain ⟨l, _, rfl⟩ := gMems_get (tabs := tabs) h
  rfl

theorem tabMem_rel {tabs : List (Nat × List Value)} {w : World} (h : ∀ q ∈ tabs, q.1 < 64 ∧ q.2 ≠ [] ∧ q.2.all plain = true ∧ ∀ (i : Nat) v, q.2[i]? = some v → w.cell? ⟨q.1, i, none⟩ = some v) : Rel σ ρ0 (tabMem tabs) w := by
  refine ⟨(m0_rel (σ := σ) w).dom, (m0_rel (σ := σ) w).glob, fun b o x hb hx => ?_, fun b1 b2 o1 o2 x1 x2 _ h1 _ _ _ hw => ?_, fun b hb => ?_⟩
  · obtain ⟨l, hm, rfl⟩ := gMems_get (tabs := tabs) hb
    obtain ⟨q1, q2, q3, q4⟩ := h _ hm
    have := (gMem_rel (σ := σ) q1 q2 q3 q4).obj b (.cells (.ofList l) false 1) x (by rw [gMem_get, if_pos rfl]) hx
    exact this
  · rw [tabMem_sealed tabs b1 o1 h1] at hw
    cases hw
  · cases hg : (tabMem tabs).get b with
    | none => rfl
    | some o =>
      obtain ⟨l, hm, _⟩ := gMems_get (tabs := tabs) hg
      have := (h _ hm).1
      simp [tabMem] at hb
      omega
end Go.Ab
