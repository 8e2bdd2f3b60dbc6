/- An interpreter of our own: a region that draws its order: any order does as the one. -/
import Derived.Test.YtijnhaadhgoloaaGreatDoorAbP
namespace Go.Ab
variable {σ : Sig}

/-- What stands of a region's run in the one order. -/
structure Run (E : Env) (slf : Self) (base : Nat) (ops : Array Oper) (sl : List SOp) (ord : List (Nat × List Nat)) (T : Nat → List Value) (M : Nat → Mem) : Prop where
  chk : Chk ops.toList sl ord
  tr : Trace E slf base sl ord T M
  strip : ∀ (i : Nat) (s : SOp), sl[i]? = some s → ∃ o', ops[i]? = some o' ∧ Strip ops o' s
  grow : ∀ tk m o m', slf tk m = some (o, m') → Grow m m'
  free : ∀ i, i < ops.size → (M 0).get (base + i) = none
  next : base + ops.size ≤ (M 0).next

section
variable {E : Env} {self : Self} {base : Nat} {ops : Array Oper} {sl : List SOp} {ord : List (Nat × List Nat)} {T : Nat → List Value} {M : Nat → Mem}

theorem Run.olen (R : Run E self base ops sl ord T M) : ord.length = ops.size := by simpa using R.chk.olen
theorem Run.lt (R : Run E self base ops sl ord T M) {k i : Nat} {re : List Nat} (h : ord[k]? = some (i, re)) : i < ops.size := by simpa using R.chk.lt k i re h
theorem Run.klt (R : Run E self base ops sl ord T M) {k i : Nat} {re : List Nat} (h : ord[k]? = some (i, re)) : k < ops.size := by
  have := (List.getElem?_eq_some_iff.1 h).1
  rw [R.olen] at this
  exact this
theorem Run.at_ (R : Run E self base ops sl ord T M) {k : Nat} (h : k < ops.size) : ∃ i re, ord[k]? = some (i, re) := by
  have : k < ord.length := by rw [R.olen]; exact h
  exact ⟨_, _, List.getElem?_eq_getElem this⟩

theorem Run.next_ge (R : Run E self base ops sl ord T M) : ∀ k, k ≤ ops.size → base + ops.size ≤ (M k).next
  | 0, _ => R.next
  | k + 1, hk => by
    obtain ⟨i, re, hi⟩ := R.at_ (k := k) (by omega)
    obtain ⟨o, h1, h2, _⟩ := R.tr.step k i re hi
    have := (stepOp_grow R.grow h2).1
    have := R.next_ge k (by omega)
    omega

theorem Run.fresh (R : Run E self base ops sl ord T M) : ∀ k, k ≤ ops.size → ∀ (k2 i : Nat) re, k ≤ k2 → ord[k2]? = some (i, re) → (M k).get (base + i) = none
  | 0, _, k2, i, re, _, h => R.free i (R.lt h)
  | k + 1, hk, k2, i, re, hle, h => by
    obtain ⟨i1, re1, hi⟩ := R.at_ (k := k) (by omega)
    obtain ⟨o, h1, h2, _⟩ := R.tr.step k i1 re1 hi
    have h3 := R.fresh k (by omega) k2 i re (by omega) h
    have h4 := R.next_ge k (by omega)
    have h5 := R.lt h
    refine (stepOp_grow R.grow h2).2 (base + i) (by omega) (fun e => ?_) h3
    have : i = i1 := by omega
    subst this
    have := R.chk.uniq k k2 i re1 re hi h
    omega

theorem putT_length (d : Option Tmp) (v : Value) (t : List Value) : (putT d v t).length = t.length := by cases d <;> simp [putT]
theorem putT_other {d : Option Tmp} {x : Tmp} (h : d ≠ some x) (v : Value) (t : List Value) : (putT d v t).getD x undef = t.getD x undef := by
  cases d with
  | none => rfl
  | some y =>
    have : y ≠ x := fun e => h (by rw [e])
    simp [putT, List.getD_eq_getElem?_getD, List.getElem?_set_ne this]

theorem Run.tlen (R : Run E self base ops sl ord T M) : ∀ k, k ≤ ops.size → (T k).length = (T 0).length
  | 0, _ => rfl
  | k + 1, hk => by
    obtain ⟨i, re, hi⟩ := R.at_ (k := k) (by omega)
    obtain ⟨o, _, h2, _⟩ := R.tr.step k i re hi
    obtain ⟨v, h3, _⟩ := stepOp_put h2
    rw [h3, putT_length, R.tlen k (by omega)]

theorem Run.keep (R : Run E self base ops sl ord T M) {x : Tmp} {k : Nat} : ∀ d, k + d ≤ ops.size → (∀ (p i : Nat) re o, k ≤ p → p < k + d → ord[p]? = some (i, re) → sl[i]? = some o → o.dst ≠ some x) → (T (k + d)).getD x undef = (T k).getD x undef
  | 0, _, _ => rfl
  | d + 1, hk, h => by
    obtain ⟨i, re, hi⟩ := R.at_ (k := k + d) (by omega)
    obtain ⟨o, h1, h2, _⟩ := R.tr.step (k + d) i re hi
    obtain ⟨v, h3, _⟩ := stepOp_put h2
    rw [← Nat.add_assoc, h3, putT_other (h _ i re o (by omega) (by omega) hi h1), R.keep d (by omega) fun p i re o h1 h2 => h p i re o h1 (by omega)]

/-- A slot ahead of the operation that writes it, and behind it. -/
theorem Run.before (R : Run E self base ops sl ord T M) {x : Tmp} {p i : Nat} {re : List Nat} {o : SOp} (hp : ord[p]? = some (i, re)) (ho : sl[i]? = some o) (hd : o.dst = some x) {k : Nat} (hk : k ≤ p) : (T k).getD x undef = (T 0).getD x undef := by
  have hpl := R.klt hp
  have := R.keep (x := x) (k := 0) k (by omega) fun p' i' re' o' _ h2 h3 h4 h5 => by
    have := R.chk.ssa i i' o o' x ho h4 hd h5
    subst this
    have := R.chk.uniq p p' i re re' hp h3
    omega
  rwa [Nat.zero_add] at this
theorem Run.after (R : Run E self base ops sl ord T M) {x : Tmp} {p i : Nat} {re : List Nat} {o : SOp} (hp : ord[p]? = some (i, re)) (ho : sl[i]? = some o) (hd : o.dst = some x) {k : Nat} (hk : p < k) (hkn : k ≤ ops.size) : (T k).getD x undef = (T ops.size).getD x undef := by
  have := R.keep (x := x) (k := k) (ops.size - k) (by omega) fun p' i' re' o' h1 h2 h3 h4 h5 => by
    have := R.chk.ssa i i' o o' x ho h4 hd h5
    subst this
    have := R.chk.uniq p p' i re re' hp h3
    omega
  rw [show k + (ops.size - k) = ops.size from by omega] at this
  exact this.symm
theorem Run.never (R : Run E self base ops sl ord T M) {x : Tmp} (h : ∀ (i : Nat) (o : SOp), sl[i]? = some o → o.dst ≠ some x) {k : Nat} (hk : k ≤ ops.size) : (T k).getD x undef = (T 0).getD x undef := by
  have := R.keep (x := x) (k := 0) k (by omega) fun p i re o _ _ _ h4 => h i o h4
  rwa [Nat.zero_add] at this

/-! ### the memory with the blocks to come -/
def MadeAt (base : Nat) (sl : List SOp) (ord : List (Nat × List Nat)) (M : Nat → Mem) (k b : Nat) (o : AObj) : Prop :=
  ∃ i re, ord[k]? = some (i, re) ∧ clsAt sl i = .make ∧ b = base + i ∧ (M (k + 1)).get b = some o

def WSpec (base : Nat) (sl : List SOp) (ord : List (Nat × List Nat)) (M : Nat → Mem) (n q : Nat) (V : Mem) : Prop :=
  V.next = (M q).next ∧ ∀ b o, V.get b = some o ↔ ((M q).get b = some o ∨ ∃ k, q ≤ k ∧ k < n ∧ MadeAt base sl ord M k b o)

theorem Run.exists_W (R : Run E self base ops sl ord T M) {q : Nat} (hq : q ≤ ops.size) : ∃ V, WSpec base sl ord M ops.size q V := by
  have key : ∀ r, q + r ≤ ops.size → ∃ V : Mem, V.next = (M q).next ∧ ∀ b o, V.get b = some o ↔ ((M q).get b = some o ∨ ∃ k, q ≤ k ∧ k < q + r ∧ MadeAt base sl ord M k b o) := by
    intro r
    induction r with
    | zero => exact fun _ => ⟨M q, rfl, fun b o => ⟨.inl, fun h => h.elim id fun ⟨k, h1, h2, _⟩ => by omega⟩⟩
    | succ r ih =>
      intro hr
      obtain ⟨V, h1, h2⟩ := ih (by omega)
      obtain ⟨i, re, hi⟩ := R.at_ (k := q + r) (by omega)
      by_cases hm : clsAt sl i = .make ∧ ∃ o, (M (q + r + 1)).get (base + i) = some o
      · obtain ⟨hm, o0, ho0⟩ := hm
        refine ⟨V.put (base + i) o0, h1, fun b o => ?_⟩
        rw [Mem.get_put]
        by_cases hb : b = base + i
        · rw [if_pos hb]
          constructor
          · intro h
            cases h
            exact .inr ⟨q + r, by omega, by omega, i, re, hi, hm, hb, hb ▸ ho0⟩
          · rintro (h | ⟨k, g1, g2, i', re', g3, g4, g5, g6⟩)
            · rw [hb, R.fresh q hq (q + r) i re (by omega) hi] at h
              cases h
            · have : i' = i := by omega
              subst this
              have := R.chk.uniq k (q + r) i' re' re g3 hi
              subst this
              rw [hb, ho0] at g6
              exact g6
        · rw [if_neg hb, h2]
          constructor
          · rintro (h | ⟨k, g1, g2, g3⟩)
            · exact .inl h
            · exact .inr ⟨k, g1, by omega, g3⟩
          · rintro (h | ⟨k, g1, g2, i', re', g3, g4, g5, g6⟩)
            · exact .inl h
            · refine .inr ⟨k, g1, ?_, i', re', g3, g4, g5, g6⟩
              rcases Nat.lt_or_ge k (q + r) with hk | hk
              · exact hk
              · have : k = q + r := by omega
                subst this
                rw [hi] at g3
                cases g3
                exact absurd g5 hb
      · refine ⟨V, h1, fun b o => ?_⟩
        rw [h2]
        constructor
        · rintro (h | ⟨k, g1, g2, g3⟩)
          · exact .inl h
          · exact .inr ⟨k, g1, by omega, g3⟩
        · rintro (h | ⟨k, g1, g2, i', re', g3, g4, g5, g6⟩)
          · exact .inl h
          · refine .inr ⟨k, g1, ?_, i', re', g3, g4, g5, g6⟩
            rcases Nat.lt_or_ge k (q + r) with hk | hk
            · exact hk
            · have : k = q + r := by omega
              subst this
              rw [hi] at g3
              cases g3
              exact absurd ⟨g4, o, g5 ▸ g6⟩ hm
  obtain ⟨V, h1, h2⟩ := key (ops.size - q) (by omega)
  refine ⟨V, h1, fun b o => ?_⟩
  rw [h2, show q + (ops.size - q) = ops.size from by omega]

/-- A position whose operation has no effect. -/
def Calm (sl : List SOp) (ord : List (Nat × List Nat)) (T : Nat → List Value) (k : Nat) : Prop :=
  ∃ i re o, ord[k]? = some (i, re) ∧ sl[i]? = some o ∧ (isEff sl i = false ∨ wanted o.guard (T k) = false)

theorem clsAt_eq {sl : List SOp} {i : Nat} {o : SOp} (h : sl[i]? = some o) : clsAt sl i = cls o.op := by simp [clsAt, h]

theorem Run.calm (R : Run E self base ops sl ord T M) {k : Nat} (h : Calm sl ord T k) : (M (k + 1)).next = (M k).next ∧ ∀ b o, (M (k + 1)).get b = some o ↔ ((M k).get b = some o ∨ MadeAt base sl ord M k b o) := by
  obtain ⟨i, re, o, hi, ho, hc⟩ := h
  obtain ⟨o2, h1, h2, _⟩ := R.tr.step k i re hi
  rw [ho] at h1
  cases h1
  have hk := R.klt hi
  have same : M (k + 1) = M k → (M (k + 1)).next = (M k).next ∧ ∀ b o, (M (k + 1)).get b = some o ↔ ((M k).get b = some o ∨ MadeAt base sl ord M k b o) := fun e => by
    refine ⟨by rw [e], fun b ob => ⟨fun h => .inl (e ▸ h), ?_⟩⟩
    rintro (h | ⟨i', re', _, _, _, g4⟩)
    · rw [e]; exact h
    · exact g4
  obtain ⟨v, _, h3⟩ := stepOp_put h2
  rcases h3 with ⟨hw, h3⟩ | ⟨hw, _, h3⟩
  · have hne : isEff sl i = false := hc.resolve_right (by rw [hw]; simp)
    have hcls : cls o.op ≠ .eff := by
      intro e
      simp [isEff, clsAt_eq ho, e] at hne
    unfold opA at h3
    split at h3
    · split at h3
      · simp only [Option.some.injEq, Prod.mk.injEq] at h3
        exact same h3.2.symm
      · cases h3
    · split at h3
      · simp only [Option.some.injEq, Prod.mk.injEq] at h3
        exact same h3.2.symm
      · cases h3
    · rename_i hmk
      split at h3
      · rename_i ob mk hm
        simp only [Option.some.injEq, Prod.mk.injEq] at h3
        have e := h3.2.symm
        refine ⟨by rw [e]; rfl, fun b o' => ?_⟩
        constructor
        · intro h
          have h' := h
          rw [e, Mem.get_put] at h
          split at h
          · rename_i hb
            exact .inr ⟨i, re, hi, by rw [clsAt_eq ho, hmk], hb, h'⟩
          · exact .inl h
        · rintro (h | ⟨i', re', _, _, _, g4⟩)
          · rw [e, Mem.get_put]
            split
            · rename_i hb
              rw [hb, R.fresh k (by omega) k i re (Nat.le_refl _) hi] at h
              cases h
            · exact h
          · exact g4
      · cases h3
    · rename_i hef
      exact absurd hef hcls
  · exact same h3

theorem Run.adv (R : Run E self base ops sl ord T M) {q : Nat} {V : Mem} (hq : q < ops.size) (h : Calm sl ord T q) (hW : WSpec base sl ord M ops.size q V) : WSpec base sl ord M ops.size (q + 1) V := by
  obtain ⟨h1, h2⟩ := R.calm h
  refine ⟨hW.1.trans h1.symm, fun b o => ?_⟩
  rw [hW.2, h2]
  constructor
  · rintro (g | ⟨k, g1, g2, g3⟩)
    · exact .inl (.inl g)
    · rcases Nat.lt_or_ge q k with hk | hk
      · exact .inr ⟨k, hk, g2, g3⟩
      · have : k = q := by omega
        subst this
        exact .inl (.inr g3)
  · rintro ((g | g) | ⟨k, g1, g2, g3⟩)
    · exact .inl g
    · exact .inr ⟨q, Nat.le_refl _, hq, g⟩
    · exact .inr ⟨k, by omega, g2, g3⟩

theorem Run.adv_many (R : Run E self base ops sl ord T M) {q : Nat} {V : Mem} (hW : WSpec base sl ord M ops.size q V) : ∀ d, q + d ≤ ops.size → (∀ p, q ≤ p → p < q + d → Calm sl ord T p) → WSpec base sl ord M ops.size (q + d) V
  | 0, _, _ => hW
  | d + 1, hd, h => R.adv (q := q + d) (by omega) (h _ (by omega) (by omega)) (R.adv_many hW d (by omega) fun p h1 h2 => h p h1 (by omega))

theorem Run.adv_to (R : Run E self base ops sl ord T M) {q p : Nat} {V : Mem} (hW : WSpec base sl ord M ops.size q V) (hqp : q ≤ p) (hp : p ≤ ops.size) (h : ∀ k, q ≤ k → k < p → Calm sl ord T k) : WSpec base sl ord M ops.size p V := by
  have := R.adv_many hW (p - q) (by omega) fun k h1 h2 => h k h1 (by omega)
  rwa [show q + (p - q) = p from by omega] at this

theorem WSpec.rel {q n : Nat} {V : Mem} {ρ : Rho} {w : World} (hW : WSpec base sl ord M n q V) (hR : Rel σ ρ V w) : Rel σ ρ (M q) w := hR.sub (fun b o h => (hW.2 b o).2 (.inl h)) hW.1.symm
end

end Go.Ab
