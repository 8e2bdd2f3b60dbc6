/- Runs on open terms: slices that are made, and grown. -/
import Derived.Test.YtjajeeoahbidlaaTF
namespace Go.Ab
noncomputable section
variable {P : Program} {E : Env}
section
variable {base i : Nat} {rest : List (Nat × SOp)} {L : List Inst} {t : List Value} {m : Mem} {K : KI} {ty rt : TypeId} {d : Tmp}
def bsV (P : Program) (ty : TypeId) (len : Nat) (parts : List (Nat × Value)) : Option (List Value × Nat) := match P.underlying ty with
  | some (.slice e) => match szOf P e, zeroOf P e with
    | some s, some z => if plain z && decide (len * s ≤ 2 ^ 24) && z.cells.size == s && decide (0 < s) then
        (fillA (fun i => some (i * s, s)) (zeros z.cells.toList (len * s)) parts).map fun cs => (cs, s)
      else none
    | _, _ => none
  | _ => none
theorem X_bs {n : Nat} {ps : Array (Nat × Operand)} : XWi E base ((i, ⟨some d, .buildSlice ty n ps, rt, none⟩) :: rest) L t m (Q := K) =
    okI (bsV E.P ty n (ps.toList.map fun p => (p.1, ev p.2 t))) (k := ⟨fun q => XWi E base rest L (t.set d (.slice (some ⟨base + i, 0, none⟩) n n)) (m.put (base + i) (.cells (.ofList q.1) true q.2)) (Q := K)⟩) := by
  rw [X_buildSlice]
  have : makeA E.P ⟨some d, .buildSlice ty n ps, rt, none⟩ (ev · t) = (bsV E.P ty n (ps.toList.map fun p => (p.1, ev p.2 t))).map fun q => (.cells (.ofList q.1) true q.2, fun id => .slice (some ⟨id, 0, none⟩) n n) := by
    simp only [makeA, bsV, partsOf]
    cases hu : E.P.underlying ty with
    | none => rfl
    | some u =>
      cases u with
      | slice e =>
        simp only
        cases szOf E.P e with
        | none => rfl
        | some s =>
          cases zeroOf E.P e with
          | none => rfl
          | some z =>
            simp only
            split
            · cases fillA (fun i => some (i * s, s)) (zeros z.cells.toList (n * s)) (ps.toList.map fun p => (p.1, ev p.2 t)) <;> rfl
            · rfl
      | _ => rfl
  rw [this]
  refine propext ?_
  unfold okI
  rw [okP_map]
  rfl
end
/-! append -/
def srcC (o : Option AObj) (off k n : Nat) : Option (List Value × Nat) := match o with
  | some (.cells cs _ _) => (cs.sub off k).map fun l => (l, n)
  | _ => none
theorem src_at {sz b o n c : Nat} {m : Mem} : srcA sz (.slice (some ⟨b, o, none⟩) n c) m = srcC (m.get b) o (n * sz) n := by
  unfold srcA srcC
  simp only
  split
  · rename_i cs w z h; rw [h]
  · rename_i h
    split
    · rename_i cs w z h2; exact absurd h2 (h _ _ _)
    · rfl
theorem src_nil {sz c : Nat} {m : Mem} : srcA sz (.slice none 0 c) m = some ([], 0) := rfl
theorem srcC_cells {cs : Cells} {w : Bool} {z off k n : Nat} : srcC (some (.cells cs w z)) off k n = (cs.sub off k).map fun l => (l, n) := rfl
def apG (sz bytes id : Nat) (b n : Nat) (new : List Value) (k : Nat) (m : Mem) (o : Option AObj) : Option (Value × Mem) := match o with
  | some (.cells cs true z) => if n * sz = cs.n ∧ z = sz ∧ (n + k) * bytes ≤ 2 ^ 40 ∧ n + k ≤ 2 ^ 40 then some (.slice (some ⟨id, 0, none⟩) (n + k) (n + k), (m.kill b).put id (.cells (cs.more 0 new) true sz)) else none
  | _ => none
def apF (sz bytes id : Nat) (s : Value) (src : Option (List Value × Nat)) (m : Mem) : Option (Value × Mem) := match src with
  | some (new, k) => if k = 0 then some (s, m) else if new.all oneCell = false ∨ new.length ≠ k * sz then none else match s with
    | .slice none 0 0 => if k * bytes ≤ 2 ^ 40 ∧ k ≤ 2 ^ 40 then some (.slice (some ⟨id, 0, none⟩) k k, m.put id (.cells (.ofList new) true sz)) else none
    | .slice (some ⟨b, 0, none⟩) n c => if n = c then apG sz bytes id b n new k m (m.get b) else none
    | _ => none
  | none => none
/-- What is known of a slice's element. -/
structure ElemOk (P : Program) (ts e : TypeId) (sz bytes : Nat) : Prop where
  und : P.underlying ts = some (.slice e)
  info : ∃ i, P.info? e = some i ∧ i.size = sz ∧ i.bytes = bytes
  pos : sz ≠ 0
  zero : ∃ z, zeroOf P e = some z ∧ plain z = true ∧ z.cells.size = sz
theorem ElemOk.of {ts e sz bytes : Nat} {z : List Value} (h1 : P.underlying ts = some (.slice e)) (h2 : (P.info? e).map (fun i => (i.size, i.bytes)) = some (sz, bytes)) (h3 : zeroL P e = some z) (h4 : z.length = sz) (h5 : sz ≠ 0) : ElemOk P ts e sz bytes := by
  refine ⟨h1, ?_, h5, ?_⟩
  · cases hi : P.info? e with
    | none => rw [hi] at h2; cases h2
    | some i => rw [hi] at h2; cases h2; exact ⟨i, rfl, rfl, rfl⟩
  · unfold zeroL at h3
    split at h3
    · rename_i v hv
      split at h3
      · rename_i hp
        cases h3
        exact ⟨v, hv, hp, by rw [← h4, Array.length_toList]⟩
      · cases h3
    · cases h3
theorem app_eq {ts e sz bytes id : Nat} {n c : Nat} {base : Option Addr} {x : Value} {m : Mem} (h : ElemOk P ts e sz bytes) (hf : (apF sz bytes id (.slice base n c) (srcA sz x m) m).isSome = true) (hnc : n ≤ c) :
    appendA P id #[ts, ts] (.slice base n c) x m = apF sz bytes id (.slice base n c) (srcA sz x m) m := by
  obtain ⟨h1, ⟨i, h2, h3, h4⟩, h5, z, h6, h7, h8⟩ := h
  subst h3 h4
  unfold appendA
  simp only [List.getElem?_toArray, List.getElem?_cons_zero, List.getElem?_cons_succ, h1, h2]
  cases hs : srcA i.size x m with
  | none => rw [hs] at hf; cases hf
  | some q =>
    obtain ⟨new, k⟩ := q
    rw [hs] at hf
    simp only [apF] at hf ⊢
    by_cases hk : k = 0
    · rw [if_pos hk, if_pos hk, if_pos hnc]
    rw [if_neg hk] at hf ⊢
    rw [if_neg hk]
    by_cases hg : new.all oneCell = false ∨ new.length ≠ k * i.size
    · rw [if_pos hg] at hf; cases hf
    rw [if_neg hg] at hf ⊢
    rw [if_neg hg]
    cases base with
    | none =>
      rcases n with _ | n <;> rcases c with _ | c <;> try (simp at hf; done)
      rw [if_neg (by omega)]
      simp only at hf ⊢
      by_cases hb : k * i.bytes ≤ 2 ^ 40 ∧ k ≤ 2 ^ 40
      · rw [if_pos hb, if_neg (by simp only [Nat.zero_add]; rintro (h | h | h); exact h5 h; exact h hb.1; exact h hb.2), h6]
        simp only [h7, h8]
        simp
      · rw [if_neg hb] at hf; cases hf
    | some a =>
      obtain ⟨b, o, p⟩ := a
      cases p with
      | some p => cases o <;> cases hf
      | none =>
        cases o with
        | succ o => cases hf
        | zero =>
          simp only at hf ⊢
          by_cases hnc : n = c
          · subst hnc
            rw [if_pos rfl] at hf ⊢
            rw [if_neg (by omega)]
            cases hb : m.get b with
            | none => rw [hb] at hf; cases hf
            | some ob =>
              rw [hb] at hf
              cases ob with
              | cells cs w s =>
                cases w with
                | false => cases hf
                | true =>
                  simp only [apG] at hf ⊢
                  by_cases hh : n * i.size = cs.n ∧ s = i.size ∧ (n + k) * i.bytes ≤ 2 ^ 40 ∧ n + k ≤ 2 ^ 40
                  · rw [if_pos hh, if_neg (by rintro (h | h | h); exact h5 h; exact h hh.2.2.1; exact h hh.2.2.2), h6]
                    simp only [h7, h8]
                    simp [hh.1, hh.2.1]
                  · rw [if_neg hh] at hf; cases hf
              | _ => cases hf
          · rw [if_neg hnc] at hf; cases hf
theorem kill_bump (m : Mem) (a b : Nat) : (m.bump a).kill b = (m.kill b).bump a := rfl
theorem more_n {c : Cells} {l : List Value} : (c.more 0 l).n = c.n + l.length := rfl
theorem more_get {c : Cells} {l : List Value} {i : Nat} : (c.more 0 l).get i = if c.n ≤ i ∧ i < c.n + l.length then l.getD (i - c.n) undef else c.get i := by
  have e : c.more 0 l = ⟨c.n + l.length, c.d, Cells.putAll c.t c.n l⟩ := rfl
  rw [e]
  unfold Cells.get
  simp only
  rw [Cells.putAll_get]
  by_cases h : c.n ≤ i ∧ i < c.n + l.length
  · rw [if_pos h, if_pos h, List.getElem?_eq_getElem (by omega), List.getD_eq_getElem?_getD, List.getElem?_eq_getElem (by omega)]
    rfl
  · rw [if_neg h, if_neg h]
end
end Go.Ab
