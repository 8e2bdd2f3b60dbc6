/- An interpreter of our own: a region that draws its order. -/
import Derived.Test.YtijnhaadhgoloaaGreatDoorAbO
import Derived.Test.YtijnhaadhgoloaaGreatDoorAbN
namespace Go.Ab
variable {σ : Sig}
variable {P : Program}

/-! ### the run in the one order -/
structure Trace (E : Env) (slf : Self) (base : Nat) (sl : List SOp) (ord : List (Nat × List Nat)) (T : Nat → List Value) (M : Nat → Mem) : Prop where
  step : ∀ (k i : Nat) re, ord[k]? = some (i, re) → ∃ o, sl[i]? = some o ∧ stepOp E slf (base + i) o (T k) (M k) = some (T (k + 1), M (k + 1)) ∧
    (wanted o.guard (T k) = true → ∀ e ∈ re, ∃ (k' : Nat) (re' : List Nat), k' < k ∧ ord[k']? = some (e, re') ∧
      ∃ v u, readE E o (ev · (T k)) (M k) = some v ∧ readE E o (ev · (T k)) (M k') = some u ∧ E.eqv v u = true)

theorem drOps_trace {E : Env} {self : Self} {base : Nat} {sl : List SOp} : ∀ {ord : List (Nat × List Nat)} {hist : List (Nat × Mem)} {t t' : List Value} {m m' : Mem}, drOps E self base sl ord hist t m = some (t', m') →
    ∃ (T : Nat → List Value) (M : Nat → Mem), T 0 = t ∧ M 0 = m ∧ T ord.length = t' ∧ M ord.length = m' ∧
      ∀ (k i : Nat) re, ord[k]? = some (i, re) → ∃ o, sl[i]? = some o ∧ stepOp E self (base + i) o (T k) (M k) = some (T (k + 1), M (k + 1)) ∧
        (wanted o.guard (T k) = true → ∀ e ∈ re, ∃ me, ((∃ (k' : Nat) (re' : List Nat), k' < k ∧ ord[k']? = some (e, re') ∧ me = M k') ∨ lookH hist e = some me) ∧
          ∃ v u, readE E o (ev · (T k)) (M k) = some v ∧ readE E o (ev · (T k)) me = some u ∧ E.eqv v u = true)
  | [], hist, t, t', m, m', h => by
    simp only [drOps, Option.some.injEq, Prod.mk.injEq] at h
    obtain ⟨rfl, rfl⟩ := h
    exact ⟨fun _ => t, fun _ => m, rfl, rfl, rfl, rfl, fun k i re hk => by simp at hk⟩
  | (i0, re0) :: ord, hist, t, t', m, m', h => by
    simp only [drOps] at h
    split at h
    · cases h
    · rename_i o ho
      split at h
      · rename_i hok
        split at h
        · rename_i t1 m1 h1
          obtain ⟨T, M, g1, g2, g3, g4, g5⟩ := drOps_trace h
          refine ⟨fun k => match k with | 0 => t | k + 1 => T k, fun k => match k with | 0 => m | k + 1 => M k, rfl, rfl, by simpa using g3, by simpa using g4, fun k i re hk => ?_⟩
          cases k with
          | zero =>
            simp only [List.getElem?_cons_zero, Option.some.injEq, Prod.mk.injEq] at hk
            obtain ⟨rfl, rfl⟩ := hk
            refine ⟨o, ho, by simp only [g1, g2]; exact h1, fun hw e he => ?_⟩
            rcases hok with hok | hok
            · rw [hok] at hw; cases hw
            · have := List.all_eq_true.1 hok e he
              split at this
              · rename_i me hme
                split at this
                · rename_i v u hv hu
                  exact ⟨me, .inr hme, v, u, hv, hu, this⟩
                · cases this
              · cases this
          | succ k =>
            obtain ⟨o', k1, k2, k3⟩ := g5 k i re (by simpa using hk)
            refine ⟨o', k1, k2, fun hw e he => ?_⟩
            obtain ⟨me, h2, h3⟩ := k3 hw e he
            refine ⟨me, ?_, h3⟩
            rcases h2 with ⟨k', re', q1, q2, q3⟩ | h2
            · exact .inl ⟨k' + 1, re', by omega, by simpa using q2, q3⟩
            · simp only [lookH] at h2
              split at h2
              · rename_i hie
                simp only [Option.some.injEq] at h2
                subst h2 hie
                exact .inl ⟨0, re0, by omega, rfl, rfl⟩
              · exact .inr h2
        · cases h
      · cases h

theorem stepOp_put {E : Env} {self : Self} {id : Nat} {o : SOp} {t t' : List Value} {m m' : Mem} (h : stepOp E self id o t m = some (t', m')) :
    ∃ v, t' = putT o.dst v t ∧ ((wanted o.guard t = true ∧ opA E self id o t m = some (v, m')) ∨ (wanted o.guard t = false ∧ v = undef ∧ m' = m)) := by
  unfold stepOp at h
  split at h
  · cases h
  split at h
  · rename_i hw
    split at h
    · rename_i v m1 ho
      simp only [Option.some.injEq, Prod.mk.injEq] at h
      obtain ⟨rfl, rfl⟩ := h
      exact ⟨v, rfl, .inl ⟨hw, ho⟩⟩
    · cases h
  · rename_i hw
    simp only [Option.some.injEq, Prod.mk.injEq] at h
    obtain ⟨rfl, rfl⟩ := h
    exact ⟨undef, rfl, .inr ⟨by simpa using hw, rfl, rfl⟩⟩

theorem stepOp_gOk {E : Env} {self : Self} {id : Nat} {o : SOp} {t : List Value} {m : Mem} {q : List Value × Mem} (h : stepOp E self id o t m = some q) : gOk o.guard t = true := by
  unfold stepOp at h
  split at h
  · cases h
  · rename_i hg
    simpa using hg

/-! ### memories alike -/
theorem Rel.sub {ρ : Rho} {m V : Mem} {w : World} (hR : Rel σ ρ V w) (hsub : ∀ b o, m.get b = some o → V.get b = some o) (hn : m.next = V.next) : Rel σ ρ m w :=
  ⟨fun b hb => hR.dom b (hn ▸ hb), hR.glob, fun b o x hb hx => hR.obj b o x (hsub b o hb) hx, fun b1 b2 o1 o2 x1 x2 hne h1 h2 g1 g2 hw => hR.inj b1 b2 o1 o2 x1 x2 hne (hsub _ _ h1) (hsub _ _ h2) g1 g2 hw,
    fun b hb => by
      cases hm : m.get b with
      | none => rfl
      | some o => have h1 := hsub b o hm; rw [hR.fresh b (hn ▸ hb)] at h1; cases h1⟩

theorem Post.congr {ρ ρ' : Rho} {m m1 m2 : Mem} {w w' : World} (h : Post σ ρ m w ρ' m1 w') (hg : ∀ b o, m2.get b = some o → m1.get b = some o) (hn : m2.next = m1.next) : Post σ ρ m w ρ' m2 w' :=
  ⟨h.rel.sub hg hn, h.ext, hn ▸ h.next, h.size, h.os, h.tape, h.output, h.frame, fun b o x hb hx hlt => h.img b o x (hg b o hb) hx hlt⟩

/-- Blocks more, that nothing in the world stands for. -/
theorem Post.more {ρ ρ' : Rho} {m m1 m2 : Mem} {w w' : World} (h : Post σ ρ m w ρ' m1 w') (hg : ∀ b o x, m2.get b = some o → ρ' b = some x → m1.get b = some o) (hn : m2.next = m1.next) (hf : ∀ b, m2.next ≤ b → m2.get b = none) : Post σ ρ m w ρ' m2 w' :=
  ⟨⟨fun b hb => h.rel.dom b (hn ▸ hb), h.rel.glob, fun b o x hb hx => h.rel.obj b o x (hg b o x hb hx) hx, fun b1 b2 o1 o2 x1 x2 hne h1 h2 g1 g2 hw => h.rel.inj b1 b2 o1 o2 x1 x2 hne (hg _ _ _ h1 g1) (hg _ _ _ h2 g2) g1 g2 hw, hf⟩,
    h.ext, hn ▸ h.next, h.size, h.os, h.tape, h.output, h.frame, fun b o x hb hx hlt => h.img b o x (hg b o x hb hx) hx hlt⟩

theorem Post.beside {ρ ρ' : Rho} {M M' V V' : Mem} {w w' : World} {id : Nat} {D : Nat → AObj → Prop} (h : Post σ ρ M w ρ' M' w') (hR : Rel σ ρ V w) (hold : OldBut M.next id ρ ρ')
    (hV : ∀ b o, V.get b = some o ↔ (M.get b = some o ∨ D b o)) (hV' : ∀ b o, V'.get b = some o ↔ (M'.get b = some o ∨ D b o)) (hn : V.next = M.next) (hn' : V'.next = M'.next)
    (hD : ∀ b o, D b o → M.get b = none ∧ M'.get b = none ∧ wr o = true ∧ b ≠ id ∧ b < M.next) : Post σ ρ V w ρ' V' w' := by
  have back : ∀ b o x, D b o → ρ' b = some x → ρ b = some x := fun b o x hd hx => by
    obtain ⟨_, _, _, h1, h2⟩ := hD b o hd
    cases hb : ρ b with
    | none => rw [hold b h2 h1 hb] at hx; cases hx
    | some y => rw [h.ext b y hb] at hx; exact hx ▸ rfl
  have apart : ∀ b1 o1 x1 b2 o2 x2, M'.get b1 = some o1 → ρ' b1 = some x1 → D b2 o2 → ρ' b2 = some x2 → x1.1 ≠ x2.1 := by
    intro b1 o1 x1 b2 o2 x2 h1 g1 h2 g2 e
    have g2' := back _ _ _ h2 g2
    have hv2 := (hV b2 o2).2 (.inr h2)
    have hlt := (hR.obj b2 o2 x2 hv2 g2').lt
    obtain ⟨b0, o0, x0, k1, k2, k3, _⟩ := h.img b1 o1 x1 h1 g1 (e ▸ hlt)
    have hne : b2 ≠ b0 := fun e0 => by
      have := (hD b2 o2 h2).1
      rw [e0, k1] at this
      cases this
    exact hR.inj b2 b0 o2 o0 x2 x0 hne hv2 ((hV b0 o0).2 (.inl k1)) g2' k2 (hD b2 o2 h2).2.2.1 (e.symm.trans k3.symm)
  refine ⟨⟨fun b hb => h.rel.dom b (hn' ▸ hb), h.rel.glob, fun b o x hb hx => ?_, fun b1 b2 o1 o2 x1 x2 hne h1 h2 g1 g2 hw => ?_, fun b hb => ?_⟩, h.ext, by rw [hn, hn']; exact h.next, h.size, h.os, h.tape, h.output, fun k hk hf => ?_, fun b o x hb hx hlt => ?_⟩
  · rcases (hV' b o).1 hb with hb | hb
    · exact h.rel.obj b o x hb hx
    · have hx' := back b o x hb hx
      have ho := hR.obj b o x ((hV b o).2 (.inr hb)) hx'
      refine ho.keep h.ext (h.frame _ ho.lt fun b0 o0 x0 k1 k2 k3 e => ?_)
      have hne : b0 ≠ b := fun e0 => by
        have := (hD b o hb).1
        rw [← e0, k1] at this
        cases this
      exact hR.inj b0 b o0 o x0 x hne ((hV b0 o0).2 (.inl k1)) ((hV b o).2 (.inr hb)) k3 hx' k2 e
  · rcases (hV' b1 o1).1 h1 with k1 | k1
    · rcases (hV' b2 o2).1 h2 with k2 | k2
      · exact h.rel.inj b1 b2 o1 o2 x1 x2 hne k1 k2 g1 g2 hw
      · exact apart _ _ _ _ _ _ k1 g1 k2 g2
    · rcases (hV' b2 o2).1 h2 with k2 | k2
      · exact fun e => apart _ _ _ _ _ _ k2 g2 k1 g1 e.symm
      · exact hR.inj b1 b2 o1 o2 x1 x2 hne ((hV _ _).2 (.inr k1)) ((hV _ _).2 (.inr k2)) (back _ _ _ k1 g1) (back _ _ _ k2 g2) hw
  · cases hm : V'.get b with
    | none => rfl
    | some o =>
      rcases (hV' b o).1 hm with k | k
      · rw [h.rel.fresh b (hn' ▸ hb)] at k; cases k
      · have := (hD b o k).2.2.2.2
        have := h.next
        omega
  · exact h.frame k hk fun b o x hb hw hx => hf b o x ((hV b o).2 (.inl hb)) hw hx
  · rcases (hV' b o).1 hb with k | k
    · obtain ⟨b0, o0, x0, k1, k2, k3, k4⟩ := h.img b o x k hx hlt
      exact ⟨b0, o0, x0, (hV _ _).2 (.inl k1), k2, k3, k4⟩
    · exact ⟨b, o, x, (hV _ _).2 (.inr k), back _ _ _ k hx, rfl, fun hw => hw⟩

theorem makeA_wr {o : SOp} {r : Operand → Value} {ob : AObj} {mk : Nat → Value} (h : makeA P o r = some (ob, mk)) : wr ob = true := by
  unfold makeA at h
  repeat' split at h
  all_goals first
    | (cases h; done)
    | (simp only [Option.some.injEq, Prod.mk.injEq] at h; obtain ⟨rfl, _⟩ := h; rfl)
    | (simp only [Option.map_eq_some_iff, Prod.mk.injEq] at h; obtain ⟨_, _, rfl, _⟩ := h; rfl)

end Go.Ab
