/- An interpreter of our own: it lays blocks at new numbers alone. -/
import Derived.Test.YtijnhaadhgoloaaGreatDoorAbB
namespace Go.Ab
variable {P : Program}

def GrowBut (id : Nat) (m m' : Mem) : Prop := m.next ≤ m'.next ∧ ∀ b, b < m.next → b ≠ id → m.get b = none → m'.get b = none
def GrowLo (lo : Nat) (m m' : Mem) : Prop := m.next ≤ m'.next ∧ ∀ b, b < m.next → b < lo → m.get b = none → m'.get b = none
def Grow (m m' : Mem) : Prop := m.next ≤ m'.next ∧ ∀ b, b < m.next → m.get b = none → m'.get b = none

theorem Grow.refl (m : Mem) : Grow m m := ⟨Nat.le_refl _, fun _ _ h => h⟩
theorem Grow.trans {a b c : Mem} (h : Grow a b) (k : Grow b c) : Grow a c := ⟨Nat.le_trans h.1 k.1, fun x hx e => k.2 x (Nat.lt_of_lt_of_le hx h.1) (h.2 x hx e)⟩
theorem Grow.but {m m' : Mem} (h : Grow m m') (id : Nat) : GrowBut id m m' := ⟨h.1, fun b hb _ e => h.2 b hb e⟩
theorem Grow.lo {m m' : Mem} (h : Grow m m') (lo : Nat) : GrowLo lo m m' := ⟨h.1, fun b hb _ e => h.2 b hb e⟩
theorem GrowBut.lo {id lo : Nat} {m m' : Mem} (h : GrowBut id m m') (hl : lo ≤ id) : GrowLo lo m m' := ⟨h.1, fun b hb hlo e => h.2 b hb (by omega) e⟩
theorem GrowLo.refl (lo : Nat) (m : Mem) : GrowLo lo m m := ⟨Nat.le_refl _, fun _ _ _ h => h⟩
theorem GrowLo.trans {lo : Nat} {a b c : Mem} (h : GrowLo lo a b) (k : GrowLo lo b c) : GrowLo lo a c := ⟨Nat.le_trans h.1 k.1, fun x hx hlo e => k.2 x (Nat.lt_of_lt_of_le hx h.1) hlo (h.2 x hx hlo e)⟩
theorem GrowLo.bumped {m m' : Mem} {n : Nat} (h : GrowLo m.next (m.bump n) m') : Grow m m' := ⟨by have := h.1; simp at this; omega, fun b hb e => h.2 b (by simp; omega) hb e⟩

theorem Grow.put {m : Mem} {b : Nat} {o o' : AObj} (h : m.get b = some o) : Grow m (m.put b o') := ⟨Nat.le_refl _, fun c _ e => by
  rw [Mem.get_put]
  split
  · rename_i hc
    rw [hc, h] at e
    cases e
  · exact e⟩
theorem GrowBut.put (m : Mem) (id : Nat) (o : AObj) : GrowBut id m (m.put id o) := ⟨Nat.le_refl _, fun c _ hc e => by
  rw [Mem.get_put, if_neg hc]
  exact e⟩
theorem Grow.kill (m : Mem) (b : Nat) : Grow m (m.kill b) := ⟨Nat.le_refl _, fun c _ e => by
  rw [Mem.get_kill]
  split
  · rfl
  · exact e⟩
theorem Grow.then {m m1 m' : Mem} {id : Nat} (h : Grow m m1) (k : GrowBut id m1 m') : GrowBut id m m' := ⟨Nat.le_trans h.1 k.1, fun c hc hi e => k.2 c (Nat.lt_of_lt_of_le hc h.1) hi (h.2 c hc e)⟩

theorem storeA_grow {t : TypeId} {a v : Value} {m m' : Mem} (h : storeA P t a v m = some m') : Grow m m' := by
  unfold storeA at h
  repeat' split at h
  all_goals first
    | (cases h; done)
    | (cases h; apply Grow.put; assumption)

theorem mapSetA_grow {t : TypeId} {mp k v : Value} {m m' : Mem} (h : mapSetA P t mp k v m = some m') : Grow m m' := by
  unfold mapSetA at h
  repeat' split at h
  all_goals first
    | (cases h; done)
    | (simp only [Option.map_eq_some_iff] at h; obtain ⟨_, _, rfl⟩ := h; apply Grow.put; assumption)

theorem deleteA_grow {at_ : Array TypeId} {mp k : Value} {m m' : Mem} (h : deleteA P at_ mp k m = some m') : Grow m m' := by
  unfold deleteA at h
  repeat' split at h
  all_goals first
    | (cases h; done)
    | (simp only [Option.map_eq_some_iff] at h; obtain ⟨_, _, rfl⟩ := h; first | exact Grow.refl _ | (apply Grow.put; assumption))

theorem clearA_grow {at_ : Array TypeId} {x : Value} {m m' : Mem} (h : clearA P at_ x m = some m') : Grow m m' := by
  unfold clearA at h
  repeat' split at h
  all_goals first
    | (cases h; done)
    | (simp only [Option.some.injEq] at h; subst h; first | exact Grow.refl _ | (apply Grow.put; assumption))

theorem copyA_grow {at_ : Array TypeId} {d x v : Value} {m m' : Mem} (h : copyA P at_ d x m = some (v, m')) : Grow m m' := by
  unfold copyA at h
  simp only at h
  repeat' split at h
  all_goals first
    | (cases h; done)
    | (simp only [Option.some.injEq, Prod.mk.injEq] at h; obtain ⟨_, rfl⟩ := h; first | exact Grow.refl _ | (apply Grow.put; assumption))

theorem appendA_grow {id : Nat} {at_ : Array TypeId} {s x v : Value} {m m' : Mem} (h : appendA P id at_ s x m = some (v, m')) : GrowBut id m m' := by
  unfold appendA at h
  repeat' split at h
  all_goals first
    | (cases h; done)
    | (simp only [Option.some.injEq, Prod.mk.injEq] at h; obtain ⟨_, rfl⟩ := h
       first
       | exact (Grow.refl _).but _
       | exact GrowBut.put _ _ _
       | exact (Grow.kill _ _).then (GrowBut.put _ _ _)
       | (refine Grow.but ?_ _; apply Grow.put; assumption))

theorem nextA_grow {it v : Value} {m m' : Mem} (h : nextA it m = some (v, m')) : Grow m m' := by
  unfold nextA at h
  repeat' split at h
  all_goals first
    | (cases h; done)
    | (rename_i hm _
       simp only [Option.some.injEq, Prod.mk.injEq] at h
       obtain ⟨_, rfl⟩ := h
       first
         | exact Grow.put hm
         | exact Grow.refl _)

theorem effA_grow {id : Nat} {o : SOp} {r : Operand → Value} {m m' : Mem} {q : Req} (h : effA P id o r m = some (q, m')) : GrowBut id m m' := by
  unfold effA at h
  repeat' split at h
  all_goals first
    | (cases h; done)
    | (simp only [Option.map_eq_some_iff, Prod.mk.injEq] at h
       obtain ⟨z, hz, _, rfl⟩ := h
       first
       | exact (storeA_grow hz).but _
       | exact (mapSetA_grow hz).but _
       | exact (deleteA_grow hz).but _
       | exact (clearA_grow hz).but _
       | exact appendA_grow (v := z.1) hz
       | exact (copyA_grow (v := z.1) hz).but _
       | exact (nextA_grow (v := z.1) hz).but _)
    | (simp only [Option.some.injEq, Prod.mk.injEq] at h; obtain ⟨_, rfl⟩ := h; exact (Grow.refl _).but _)

variable {E : Env} {self : Self}

theorem opA_grow (hs : ∀ tk m o m', self tk m = some (o, m') → Grow m m') {id : Nat} {o : SOp} {t : List Value} {m m' : Mem} {v : Value} (h : opA E self id o t m = some (v, m')) : GrowBut id m m' := by
  unfold opA at h
  split at h
  · split at h
    · simp only [Option.some.injEq, Prod.mk.injEq] at h; obtain ⟨_, rfl⟩ := h; exact (Grow.refl _).but _
    · cases h
  · split at h
    · simp only [Option.some.injEq, Prod.mk.injEq] at h; obtain ⟨_, rfl⟩ := h; exact (Grow.refl _).but _
    · cases h
  · split at h
    · simp only [Option.some.injEq, Prod.mk.injEq] at h; obtain ⟨_, rfl⟩ := h; exact GrowBut.put _ _ _
    · cases h
  · split at h
    · rename_i he; simp only [Option.some.injEq, Prod.mk.injEq] at h; obtain ⟨_, rfl⟩ := h; exact effA_grow he
    · rename_i he
      split at h
      · rename_i hc
        simp only [Option.some.injEq, Prod.mk.injEq] at h; obtain ⟨_, rfl⟩ := h
        have h1 := effA_grow he
        have h2 := hs _ _ _ _ hc
        exact ⟨Nat.le_trans h1.1 h2.1, fun b hb hi e => h2.2 b (Nat.lt_of_lt_of_le hb h1.1) (h1.2 b hb hi e)⟩
      · cases h
    · rename_i he
      split at h
      · rename_i hc
        simp only [Option.some.injEq, Prod.mk.injEq] at h; obtain ⟨_, rfl⟩ := h
        have h1 := effA_grow he
        have h2 := hs _ _ _ _ hc
        exact ⟨Nat.le_trans h1.1 h2.1, fun b hb hi e => h2.2 b (Nat.lt_of_lt_of_le hb h1.1) (h1.2 b hb hi e)⟩
      · cases h
    · cases h

theorem stepOp_grow (hs : ∀ tk m o m', self tk m = some (o, m') → Grow m m') {id : Nat} {o : SOp} {t t' : List Value} {m m' : Mem} (h : stepOp E self id o t m = some (t', m')) : GrowBut id m m' := by
  unfold stepOp at h
  split at h
  · cases h
  split at h
  · split at h
    · rename_i ho
      simp only [Option.some.injEq, Prod.mk.injEq] at h; obtain ⟨_, rfl⟩ := h
      exact opA_grow hs ho
    · cases h
  · simp only [Option.some.injEq, Prod.mk.injEq] at h; obtain ⟨_, rfl⟩ := h; exact (Grow.refl _).but _

theorem seqOps_grow (hs : ∀ tk m o m', self tk m = some (o, m') → Grow m m') {lo : Nat} : ∀ {l : List SOp} {id : Nat} {t t' : List Value} {m m' : Mem}, lo ≤ id → seqOps E self id l t m = some (t', m') → GrowLo lo m m'
  | [], id, t, t', m, m', _, h => by
    simp only [seqOps, Option.some.injEq, Prod.mk.injEq] at h; obtain ⟨_, rfl⟩ := h; exact GrowLo.refl _ _
  | o :: l, id, t, t', m, m', hl, h => by
    simp only [seqOps] at h
    split at h
    · rename_i h1
      exact ((stepOp_grow hs h1).lo hl).trans (seqOps_grow hs (by omega) h)
    · cases h

theorem drOps_grow (hs : ∀ tk m o m', self tk m = some (o, m') → Grow m m') {base : Nat} {ops : List SOp} : ∀ {l : List (Nat × List Nat)} {hist : List (Nat × Mem)} {t t' : List Value} {m m' : Mem}, drOps E self base ops l hist t m = some (t', m') → GrowLo base m m'
  | [], hist, t, t', m, m', h => by
    simp only [drOps, Option.some.injEq, Prod.mk.injEq] at h; obtain ⟨_, rfl⟩ := h; exact GrowLo.refl _ _
  | (i, re) :: l, hist, t, t', m, m', h => by
    simp only [drOps] at h
    split at h
    · cases h
    · split at h
      · split at h
        · rename_i h1
          exact ((stepOp_grow hs h1).lo (by omega)).trans (drOps_grow hs h)
        · cases h
      · cases h

theorem stepCode_grow (hs : ∀ tk m o m', self tk m = some (o, m') → Grow m m') {rd : Option Nat} {c : SCode} {t : List Value} {m m' : Mem} {o : Out} (h : stepCode E self rd c t m = some (o, m')) : Grow m m' := by
  cases c with
  | skip => simp only [stepCode, Option.some.injEq, Prod.mk.injEq] at h; obtain ⟨_, rfl⟩ := h; exact Grow.refl _
  | exit => simp only [stepCode, Option.some.injEq, Prod.mk.injEq] at h; obtain ⟨_, rfl⟩ := h; exact Grow.refl _
  | ret => simp only [stepCode, Option.some.injEq, Prod.mk.injEq] at h; obtain ⟨_, rfl⟩ := h; exact Grow.refl _
  | seq a b =>
    simp only [stepCode] at h
    split at h
    · rename_i h1; exact (hs _ _ _ _ h1).trans (hs _ _ _ _ h)
    · exact hs _ _ _ _ h
  | cond =>
    simp only [stepCode] at h
    split at h
    · exact hs _ _ _ _ h
    · exact hs _ _ _ _ h
    · cases h
  | block =>
    simp only [stepCode] at h
    split at h
    · rename_i h1
      simp only [Option.some.injEq, Prod.mk.injEq] at h; obtain ⟨_, rfl⟩ := h
      exact hs _ _ _ _ h1
    · exact hs _ _ _ _ h
  | loop =>
    simp only [stepCode] at h
    split at h
    · rename_i h1; exact (hs _ _ _ _ h1).trans (hs _ _ _ _ h)
    · exact hs _ _ _ _ h
  | label => simp only [stepCode, Option.some.injEq, Prod.mk.injEq] at h; obtain ⟨_, rfl⟩ := h; exact Grow.refl _
  | goto => simp only [stepCode, Option.some.injEq, Prod.mk.injEq] at h; obtain ⟨_, rfl⟩ := h; exact Grow.refl _
  | scope b =>
    simp only [stepCode] at h
    split at h
    · rename_i h1
      split at h
      · exact (hs _ _ _ _ h1).trans (hs _ _ _ _ h)
      · simp only [Option.some.injEq, Prod.mk.injEq] at h; obtain ⟨_, rfl⟩ := h; exact hs _ _ _ _ h1
    · exact hs _ _ _ _ h
  | again b r =>
    simp only [stepCode] at h
    split at h
    · rename_i h1
      split at h
      · exact (hs _ _ _ _ h1).trans (hs _ _ _ _ h)
      · simp only [Option.some.injEq, Prod.mk.injEq] at h; obtain ⟨_, rfl⟩ := h; exact hs _ _ _ _ h1
    · exact hs _ _ _ _ h
  | reg =>
    simp only [stepCode] at h
    split at h
    · rename_i h1
      simp only [Option.some.injEq, Prod.mk.injEq] at h; obtain ⟨_, rfl⟩ := h
      exact (seqOps_grow hs (Nat.le_refl _) h1).bumped
    · cases h
  | dreg =>
    simp only [stepCode] at h
    split at h
    · rename_i h1
      simp only [Option.some.injEq, Prod.mk.injEq] at h; obtain ⟨_, rfl⟩ := h
      exact (drOps_grow hs h1).bumped
    · cases h
  | rfn f ps as bd =>
    simp only [stepCode] at h
    split at h
    · rename_i g first cap hev
      generalize (callable E.P g && _) = bb at h
      cases bb with
      | true =>
        simp only [if_true] at h
        split at h
        · rename_i h1
          have g1 := hs _ _ _ _ h1
          have g0 : ∀ o, Grow m ((m.bump 1).put m.next o) := fun o => ⟨by simp, fun b hb e => by rw [Mem.get_put, if_neg (by omega)]; exact e⟩
          split at h
          · rename_i hr
            split at h
            · cases h
            · split at h
              · simp only [Option.some.injEq, Prod.mk.injEq] at h; obtain ⟨_, rfl⟩ := h
                exact ((g0 _).trans g1).trans (Grow.put hr)
              · split at h
                · simp only [Option.some.injEq, Prod.mk.injEq] at h; obtain ⟨_, rfl⟩ := h
                  exact ((g0 _).trans g1).trans (Grow.put hr)
                · cases h
          · cases h
        · cases h
      | false => simp at h
    · cases h

theorem step_grow (hs : ∀ tk m o m', self tk m = some (o, m') → Grow m m') (hp : ∀ f p args m v m', E.prim f = some p → p args m = some (v, m') → Grow m m') {tk : Task} {m m' : Mem} {o : Out} (h : step E self tk m = some (o, m')) : Grow m m' := by
  cases tk with
  | code rd c t => exact stepCode_grow hs h
  | call f args =>
    simp only [step] at h
    split at h
    · rename_i p hpr
      split at h
      · rename_i h1
        simp only [Option.some.injEq, Prod.mk.injEq] at h; obtain ⟨_, rfl⟩ := h
        exact hp _ _ _ _ _ _ hpr h1
      · cases h
    · split at h
      · cases h
      · split at h
        · rename_i x t' m2 h1
          have g1 := hs _ _ _ _ h1
          have : m' = m2 := by
            cases hr : resA E.P t' m2 (by assumption : SFunc).results with
            | none => rw [hr] at h; cases x <;> simp at h
            | some vs => rw [hr] at h; cases x <;> simp at h <;> exact h.2.symm
          exact this ▸ g1
        · cases h
  | round l args =>
    simp only [step] at h
    split at h
    · split at h
      · split at h
        · rename_i h1
          have g1 := hs _ _ _ _ h1
          split at h
          · rename_i hr1
            split at h
            · split at h
              · rename_i h2
                have g2 := hs _ _ _ _ h2
                split at h
                · rename_i hr3
                  have g3 : ∀ o, Grow m _ := fun o => ((g1.trans (Grow.put hr1)).trans g2).trans (Grow.put (o' := o) hr3)
                  split at h <;> first | (cases h; done) | (simp only [Option.some.injEq, Prod.mk.injEq] at h; obtain ⟨_, rfl⟩ := h; exact g3 _)
                · cases h
              · cases h
            · cases h
          · cases h
        · cases h
      · cases h
    · cases h

theorem run_grow (hp : ∀ f p args m v m', E.prim f = some p → p args m = some (v, m') → Grow m m') : ∀ (n : Nat) tk m o m', run E n tk m = some (o, m') → Grow m m'
  | 0, _, _, _, _, h => by cases h
  | n + 1, _, _, _, _, h => step_grow (run_grow hp n) hp h

end Go.Ab
