/- An interpreter of our own: a region that draws its order: the walk. -/
import Derived.Test.YtijnhaadhgoloaaGreatDoorAbQ
import Derived.OrdersIn
namespace Go.Ab
variable {σ : Sig}

section
variable {E : Env} {self : Self} {base : Nat} {ops : Array Oper} {sl : List SOp} {ord : List (Nat × List Nat)} {T : Nat → List Value} {M : Nat → Mem}

theorem Run.made_wr (R : Run E self base ops sl ord T M) {k b : Nat} {ob : AObj} (h : MadeAt base sl ord M k b ob) : wr ob = true := by
  obtain ⟨i, re, hi, hm, hb, hg⟩ := h
  obtain ⟨o, h1, h2, _⟩ := R.tr.step k i re hi
  have hc : cls o.op = .make := by rw [← clsAt_eq h1]; exact hm
  obtain ⟨v, _, h3⟩ := stepOp_put h2
  rcases h3 with ⟨_, h3⟩ | ⟨_, _, h3⟩
  · simp only [opA, hc] at h3
    split at h3
    · rename_i ob' mk hmk
      simp only [Option.some.injEq, Prod.mk.injEq] at h3
      rw [← h3.2, Mem.get_put, if_pos hb] at hg
      cases hg
      exact makeA_wr hmk
    · cases h3
  · rw [h3, hb, R.fresh k (Nat.le_of_lt (R.klt hi)) k i re (Nat.le_refl _) hi] at hg
    cases hg

/-- Post, with the blocks to come laid beside. -/
theorem Run.beside (R : Run E self base ops sl ord T M) {p q2 k i : Nat} {re : List Nat} {o : SOp} {V V2 : Mem} {ρ ρ' : Rho} {w w' : World} (hi : ord[k]? = some (i, re)) (ho : sl[i]? = some o) (hc : cls o.op ≠ .make)
    (hp : p ≤ ops.size) (hpq : p ≤ q2) (hq2 : q2 ≤ ops.size) (hW : WSpec base sl ord M ops.size p V) (hW2 : WSpec base sl ord M ops.size q2 V2) (hno : ∀ k2, p ≤ k2 → k2 < q2 → ∀ b ob, ¬ MadeAt base sl ord M k2 b ob)
    (hR : Rel σ ρ V w) (h : Post σ ρ (M p) w ρ' (M q2) w') (hold : OldBut (M p).next (base + i) ρ ρ') : Post σ ρ V w ρ' V2 w' := by
  refine Post.beside (id := base + i) (D := fun b ob => ∃ k2, q2 ≤ k2 ∧ k2 < ops.size ∧ MadeAt base sl ord M k2 b ob) h hR hold (fun b ob => ?_) (fun b ob => hW2.2 b ob) hW.1 hW2.1 ?_
  · rw [hW.2]
    constructor
    · rintro (h | ⟨k2, g1, g2, g3⟩)
      · exact .inl h
      · rcases Nat.lt_or_ge k2 q2 with hk | hk
        · exact absurd g3 (hno k2 g1 hk b ob)
        · exact .inr ⟨k2, hk, g2, g3⟩
    · rintro (h | ⟨k2, g1, g2, g3⟩)
      · exact .inl h
      · exact .inr ⟨k2, by omega, g2, g3⟩
  · rintro b ob ⟨k2, g1, g2, g3⟩
    have hwr := R.made_wr g3
    obtain ⟨i2, re2, j1, j2, j3, j4⟩ := g3
    have hlt := R.lt j1
    have := R.next_ge p hp
    refine ⟨j3 ▸ R.fresh p hp k2 i2 re2 (by omega) j1, j3 ▸ R.fresh q2 hq2 k2 i2 re2 g1 j1, hwr, fun e => ?_, by omega⟩
    have : i2 = i := by omega
    subst this
    rw [clsAt_eq ho] at j2
    exact hc j2

/-- What holds of a walk on its way. -/
structure Way (σ : Sig) (base : Nat) (ops : Array Oper) (sl : List SOp) (ord : List (Nat × List Nat)) (T : Nat → List Value) (M : Nat → Mem) (ρ0 : Rho) (w0 : World) (ds : List Deferred) (S : Nat → Prop) (a : Act) (w : World) (ρ : Rho) (q : Nat) (V : Mem) : Prop where
  spec : WSpec base sl ord M ops.size q V
  qle : q ≤ ops.size
  done : ∀ (k i : Nat) re, k < q → ord[k]? = some (i, re) → S i
  rest : ∀ (k i : Nat) re, q ≤ k → ord[k]? = some (i, re) → S i → Calm sl ord T k
  closed : Closed ops.toList S
  none : ∀ i, i < ops.size → ¬ S i → ρ (base + i) = none
  post : Post σ ρ0 (M 0) w0 ρ V w
  old : ∀ b, b < base → ρ0 b = .none → ρ b = .none
  size : a.tmps.size = (T 0).length
  slotD : ∀ x, (∃ (i : Nat) (o : SOp), S i ∧ sl[i]? = some o ∧ o.dst = some x) → VRel σ ρ ((T ops.size).getD x undef) (a.tmps.getD x undef)
  slotN : ∀ x, (∀ (i : Nat) (o : SOp), sl[i]? = some o → o.dst = some x → ¬ S i) → VRel σ ρ ((T 0).getD x undef) (a.tmps.getD x undef)
  defers : a.defers = ds

variable {ρ0 : Rho} {w0 : World} {ds : List Deferred} {S : Nat → Prop} {a : Act} {w : World} {ρ : Rho} {q : Nat} {V : Mem}

theorem Run.prefix_closed (R : Run E self base ops sl ord T M) (k : Nat) : Closed ops.toList (fun j => ∃ (k' : Nat) (re : List Nat), k' < k ∧ ord[k']? = some (j, re)) := by
  rintro i ⟨k1, re, h1, h2⟩ p hp
  obtain ⟨k', re', h3, h4⟩ := R.chk.lin k1 i re h2 p hp
  exact ⟨k', re', by omega, h4⟩

/-- What an operation looks at is what it saw in the one order. -/
theorem Run.look (R : Run E self base ops sl ord T M) (W : Way σ base ops sl ord T M ρ0 w0 ds S a w ρ q V) {k i : Nat} {re : List Nat} {o : SOp} (hi : ord[k]? = some (i, re)) (ho : sl[i]? = some o) (hS : ¬ S i)
    (hpr : ∀ p ∈ (ops.toList.map preds).getD i [], S p) {x : Tmp} (hx : x ∈ looks o) : VRel σ ρ ((T k).getD x undef) (a.tmps.getD x undef) := by
  have hk := R.klt hi
  by_cases hw : ∃ (j : Nat) (oj : SOp), sl[j]? = some oj ∧ oj.dst = some x
  · obtain ⟨j, oj, hj, hd⟩ := hw
    have hjl : j < ops.size := by
      have h1 := (List.getElem?_eq_some_iff.1 hj).1
      have h2 := R.chk.len
      simp at h2
      omega
    obtain ⟨p, rp, hp⟩ := R.chk.all j (by simpa using hjl)
    have only : ∀ (i' : Nat) (o' : SOp), sl[i']? = some o' → o'.dst = some x → i' = j := fun i' o' h1 h2 => R.chk.ssa i' j o' oj x h1 hj h2 hd
    rcases R.chk.tmp i o ho x hx j oj hj hd with h | h | h
    · subst h
      have := R.chk.uniq k p i re rp hi hp
      subst this
      rw [R.before hp hj hd (Nat.le_refl _)]
      exact W.slotN x fun i' o' h1 h2 => only i' o' h1 h2 ▸ hS
    · have hSj := anc_closed W.closed i j hpr h
      obtain ⟨k', re', h1, h2⟩ := anc_closed (R.prefix_closed k) i j (fun p hp => R.chk.lin k i re hi p hp) h
      have := R.chk.uniq k' p j re' rp h2 hp
      subst this
      rw [R.after hp hj hd h1 (by omega)]
      exact W.slotD x ⟨j, oj, hSj, hj, hd⟩
    · have hSj : ¬ S j := fun hSj => hS (anc_closed W.closed j i (W.closed j hSj) h)
      obtain ⟨k', re', h1, h2⟩ := anc_closed (R.prefix_closed p) j i (fun p' hp' => R.chk.lin p j rp hp p' hp') h
      have := R.chk.uniq k' k i re' re h2 hi
      subst this
      rw [R.before hp hj hd (by omega)]
      exact W.slotN x fun i' o' h1 h2 => only i' o' h1 h2 ▸ hSj
  · rw [R.never (fun i' o' h1 h2 => hw ⟨i', o', h1, h2⟩) (by omega)]
    exact W.slotN x fun i' o' h1 h2 => absurd ⟨i', o', h1, h2⟩ hw

/-- The one step: in which memory the operation does what it did. -/
theorem Run.pick (R : Run E self base ops sl ord T M) (heq : ∀ v u, E.eqv v u = true → v = u) (W : Way σ base ops sl ord T M ρ0 w0 ds S a w ρ q V) {k i : Nat} {re : List Nat} {o : SOp} {v : Value} (hi : ord[k]? = some (i, re)) (ho : sl[i]? = some o) (hS : ¬ S i)
    (hpr : ∀ p ∈ (ops.toList.map preds).getD i [], S p) (hw : wanted o.guard (T k) = true) (hop : opA E self (base + i) o (T k) (M k) = some (v, M (k + 1)))
    (hre : ∀ e ∈ re, ∃ (k' : Nat) (re' : List Nat), k' < k ∧ ord[k']? = some (e, re') ∧ ∃ v u, readE E o (ev · (T k)) (M k) = some v ∧ readE E o (ev · (T k)) (M k') = some u ∧ E.eqv v u = true) :
    ∃ m1 m2 V2 q2, opA E self (base + i) o (T k) m1 = some (v, m2) ∧ Rel σ ρ m1 w ∧ base + ops.size ≤ m1.next ∧ q ≤ q2 ∧ q2 ≤ ops.size ∧ WSpec base sl ord M ops.size q2 V2 ∧
      (∀ (k' i' : Nat) re', k' < q2 → ord[k']? = some (i', re') → S i' ∨ i' = i) ∧ (∀ (k' i' : Nat) re', q2 ≤ k' → ord[k']? = some (i', re') → S i' ∨ i' = i → Calm sl ord T k') ∧
      ∀ ρ' w', Post σ ρ m1 w ρ' m2 w' → OldBut m1.next (base + i) ρ ρ' → Post σ ρ V w ρ' V2 w' := by
  have hk := R.klt hi
  have hqk : q ≤ k := by
    rcases Nat.lt_or_ge k q with h | h
    · exact absurd (W.done k i re h hi) hS
    · exact h
  have hVn : base + ops.size ≤ V.next := by rw [W.spec.1]; exact R.next_ge q W.qle
  have hdone : ∀ (k' i' : Nat) re', k' < q → ord[k']? = some (i', re') → S i' ∨ i' = i := fun k' i' re' h1 h2 => .inl (W.done k' i' re' h1 h2)
  have calmk : cls o.op ≠ .eff → Calm sl ord T k := fun hc => ⟨i, re, o, hi, ho, .inl (by simp [isEff, clsAt_eq ho, hc])⟩
  have hrest : Calm sl ord T k → ∀ (k' i' : Nat) re', q ≤ k' → ord[k']? = some (i', re') → S i' ∨ i' = i → Calm sl ord T k' := fun hck k' i' re' h1 h2 h3 => by
    rcases h3 with h3 | h3
    · exact W.rest k' i' re' h1 h2 h3
    · subst h3
      have := R.chk.uniq k' k i' re' re h2 hi
      subst this
      exact hck
  have hop0 := hop
  unfold opA at hop
  split at hop
  · rename_i hc
    split at hop
    · rename_i u hu
      simp only [Option.some.injEq, Prod.mk.injEq] at hop
      obtain ⟨rfl, _⟩ := hop
      refine ⟨V, V, V, q, by simp only [opA, hc, hu], W.post.rel, hVn, Nat.le_refl _, W.qle, W.spec, hdone, hrest (calmk (by rw [hc]; simp)), fun ρ' w' h _ => h⟩
    · cases hop
  · rename_i hc
    split at hop
    · rename_i u hu
      simp only [Option.some.injEq, Prod.mk.injEq] at hop
      obtain ⟨rfl, _⟩ := hop
      have hck : Calm sl ord T k := calmk (by rw [hc]; simp)
      -- the first position, from q on, that is not calm; none ahead of k: k
      have first : ∃ p, q ≤ p ∧ p ≤ k ∧ (∀ k', q ≤ k' → k' < p → Calm sl ord T k') ∧ (p = k ∨ ¬ Calm sl ord T p) := by
        have : ∀ d, q + d ≤ k → (∃ p, q ≤ p ∧ p ≤ k ∧ (∀ k', q ≤ k' → k' < p → Calm sl ord T k') ∧ (p = k ∨ ¬ Calm sl ord T p)) ∨ (∀ k', q ≤ k' → k' < q + d → Calm sl ord T k') := by
          intro d
          induction d with
          | zero => exact fun _ => .inr fun k' h1 h2 => by omega
          | succ d ih =>
            intro hd
            rcases ih (by omega) with h | h
            · exact .inl h
            · by_cases hcalm : Calm sl ord T (q + d)
              · refine .inr fun k' h1 h2 => ?_
                rcases Nat.lt_or_ge k' (q + d) with h3 | h3
                · exact h k' h1 h3
                · have : k' = q + d := by omega
                  exact this ▸ hcalm
              · exact .inl ⟨q + d, by omega, by omega, h, .inr hcalm⟩
        rcases this (k - q) (by omega) with h | h
        · exact h
        · exact ⟨k, hqk, Nat.le_refl _, fun k' h1 h2 => h k' h1 (by omega), .inl rfl⟩
      obtain ⟨p, hqp, hpk, hcalm, hlast⟩ := first
      have hread : readE E o (ev · (T k)) (M p) = some u := by
        rcases hlast with rfl | hnc
        · exact hu
        · obtain ⟨e, re', he⟩ := R.at_ (k := p) (by omega)
          have hpk' : p < k := by
            rcases Nat.lt_or_ge p k with h | h
            · exact h
            · have : p = k := by omega
              subst this
              exact absurd hck hnc
          obtain ⟨oe, he1, _⟩ := R.tr.step p e re' he
          have heff : isEff sl e = true := by
            cases hx : isEff sl e with
            | true => rfl
            | false => exact absurd ⟨e, re', oe, he, he1, .inl hx⟩ hnc
          rcases R.chk.read k i re p e re' hi (by rw [clsAt_eq ho, hc]) hpk' he heff with h | h
          · exact absurd (W.rest p e re' hqp he (anc_closed W.closed i e hpr h)) hnc
          · obtain ⟨k', re2, h1, h2, v2, u2, h3, h4, h5⟩ := hre e h
            have := R.chk.uniq k' p e re2 re' h2 he
            subst this
            rw [hu] at h3
            cases h3
            rw [h4, heq _ _ h5]
      have hpn : p ≤ ops.size := by omega
      have hWp := R.adv_to W.spec hqp hpn hcalm
      refine ⟨M p, M p, V, q, by simp only [opA, hc, hread], hWp.rel W.post.rel, R.next_ge p hpn, Nat.le_refl _, W.qle, W.spec, hdone, hrest hck, fun ρ' w' h hold => ?_⟩
      exact R.beside hi ho (by rw [hc]; simp) hpn (Nat.le_refl _) hpn hWp hWp (fun k2 h1 h2 => by omega) W.post.rel h hold
    · cases hop
  · rename_i hc
    split at hop
    · rename_i ob mk hu
      simp only [Option.some.injEq, Prod.mk.injEq] at hop
      obtain ⟨hv, hM⟩ := hop
      refine ⟨V, V.put (base + i) ob, V, q, by simp only [opA, hc, hu, hv], W.post.rel, hVn, Nat.le_refl _, W.qle, W.spec, hdone, hrest (calmk (by rw [hc]; simp)), fun ρ' w' h _ => h.congr (fun b o' hb => ?_) rfl⟩
      rw [Mem.get_put]
      split
      · rename_i hbi
        rcases (W.spec.2 b o').1 hb with h1 | ⟨k2, h1, h2, i2, re2, h3, h4, h5, h6⟩
        · rw [hbi, R.fresh q W.qle k i re hqk hi] at h1
          cases h1
        · have : i2 = i := by omega
          subst this
          have := R.chk.uniq k2 k i2 re2 re h3 hi
          subst this
          rw [← hM, Mem.get_put, if_pos hbi] at h6
          exact h6
      · exact hb
    · cases hop
  · rename_i hc
    have hce : isEff sl i = true := by simp [isEff, clsAt_eq ho, hc]
    have hbefore : ∀ (k' i' : Nat) re', k' < k → ord[k']? = some (i', re') → S i' := fun k' i' re' h1 h2 => anc_closed W.closed i i' hpr (R.chk.eff k i re k' i' re' hi hce h1 h2)
    have hcalm : ∀ k', q ≤ k' → k' < k → Calm sl ord T k' := fun k' h1 h2 => by
      obtain ⟨i', re', h3⟩ := R.at_ (k := k') (by omega)
      exact W.rest k' i' re' h1 h3 (hbefore k' i' re' h2 h3)
    have hWk := R.adv_to W.spec hqk (by omega) hcalm
    obtain ⟨V2, hV2⟩ := R.exists_W (q := k + 1) (by omega)
    refine ⟨M k, M (k + 1), V2, k + 1, hop0, hWk.rel W.post.rel, R.next_ge k (by omega), by omega, by omega, hV2, fun k' i' re' h1 h2 => ?_, fun k' i' re' h1 h2 h3 => ?_, fun ρ' w' h hold => ?_⟩
    · rcases Nat.lt_or_ge k' k with h3 | h3
      · exact .inl (hbefore k' i' re' h3 h2)
      · have : k' = k := by omega
        subst this
        rw [hi] at h2
        cases h2
        exact .inr rfl
    · rcases h3 with h3 | h3
      · exact W.rest k' i' re' (by omega) h2 h3
      · subst h3
        have := R.chk.uniq k' k i' re' re h2 hi
        omega
    · refine R.beside hi ho (by rw [hc]; simp) (by omega) (by omega) (by omega) hWk hV2 (fun k2 h1 h2 b ob hm => ?_) W.post.rel h hold
      have : k2 = k := by omega
      subst this
      obtain ⟨i2, re2, h3, h4, _⟩ := hm
      rw [hi] at h3
      cases h3
      rw [clsAt_eq ho, hc] at h4
      cases h4

theorem closed_add {l : List Oper} {S S' : Nat → Prop} {i : Nat} (hS : Closed l S) (hpr : ∀ p ∈ (l.map preds).getD i [], S p) (h : ∀ j, S' j ↔ (S j ∨ j = i)) : Closed l S' := by
  intro j hj p hp
  rw [h] at hj ⊢
  rcases hj with hj | rfl
  · exact .inl (hS j hj p hp)
  · exact .inl (hpr p hp)

theorem set_slot {ρ : Rho} {t : List Value} {c : Array Value} (hl : c.size = t.length) {v v' : Value} (hv : VRel σ ρ v v') (x : Tmp) : VRel σ ρ ((t.set x v).getD x undef) ((c.setIfInBounds x v').getD x undef) := by
  rw [List.getD_eq_getElem?_getD, Array.getD_eq_getD_getElem?]
  by_cases hx : x < t.length
  · simp [hx, hl, hv]
  · have h1 : (t.set x v)[x]? = none := List.getElem?_eq_none (by rw [List.length_set]; exact Nat.le_of_not_lt hx)
    have h2 : (c.setIfInBounds x v')[x]? = none := Array.getElem?_eq_none (by rw [Array.size_setIfInBounds, hl]; exact Nat.le_of_not_lt hx)
    rw [h1, h2]
    exact VRel.undef ρ

/-- The way goes on behind an operation. -/
theorem Run.onward (R : Run E self base ops sl ord T M) (W : Way σ base ops sl ord T M ρ0 w0 ds S a w ρ q V) {k i : Nat} {re : List Nat} {o : SOp} {v v' : Value} (hi : ord[k]? = some (i, re)) (ho : sl[i]? = some o)
    (hpr : ∀ p ∈ (ops.toList.map preds).getD i [], S p) (hT : T (k + 1) = putT o.dst v (T k)) {S' : Nat → Prop} (hS' : ∀ j, S' j ↔ (S j ∨ j = i)) {ρ' : Rho} {w' : World} {q2 : Nat} {V2 : Mem} (hv : VRel σ ρ' v v') (hp : Post σ ρ V w ρ' V2 w') (hold : OldBut (base + ops.size) (base + i) ρ ρ')
    (h1 : q2 ≤ ops.size) (h2 : WSpec base sl ord M ops.size q2 V2) (h3 : ∀ (k' i' : Nat) re', k' < q2 → ord[k']? = some (i', re') → S i' ∨ i' = i) (h4 : ∀ (k' i' : Nat) re', q2 ≤ k' → ord[k']? = some (i', re') → S i' ∨ i' = i → Calm sl ord T k') :
    Way σ base ops sl ord T M ρ0 w0 ds S' (a.put o.dst v') w' ρ' q2 V2 := by
  have hk := R.klt hi
  refine ⟨h2, h1, fun k' i' re' g1 g2 => (hS' i').2 (h3 k' i' re' g1 g2), fun k' i' re' g1 g2 g3 => h4 k' i' re' g1 g2 ((hS' i').1 g3), closed_add W.closed hpr hS', fun j hj hn => ?_, W.post.trans hp, fun b hb e => ?_, ?_, fun x hx => ?_, fun x hx => ?_, by rw [put_defers]; exact W.defers⟩
  · rw [hS'] at hn
    exact hold _ (by omega) (fun e => hn (.inr (by omega))) (W.none j hj fun h => hn (.inl h))
  · exact hold _ (by omega) (by omega) (W.old b hb e)
  · cases hd : o.dst with
    | none => exact W.size
    | some x => simpa [Act.put] using W.size
  · by_cases hd : o.dst = some x
    · rw [← R.after hi ho hd (Nat.lt_succ_self k) (by omega), hT, hd]
      have hl : a.tmps.size = (T k).length := by rw [R.tlen k (by omega)]; exact W.size
      exact set_slot hl hv x
    · have : (a.put o.dst v').tmps.getD x undef = a.tmps.getD x undef := by
        cases hdd : o.dst with
        | none => rfl
        | some y =>
          have : y ≠ x := fun e => hd (by rw [hdd, e])
          simp [Act.put, Array.getD_eq_getD_getElem?, Array.getElem?_setIfInBounds_ne this]
      rw [this]
      obtain ⟨i', o', g1, g2, g3⟩ := hx
      rcases (hS' i').1 g1 with g1 | rfl
      · exact (W.slotD x ⟨i', o', g1, g2, g3⟩).mono hp.ext
      · rw [ho] at g2
        cases g2
        exact absurd g3 hd
  · have hd : o.dst ≠ some x := fun hd => hx i o ho hd ((hS' i).2 (.inr rfl))
    have : (a.put o.dst v').tmps.getD x undef = a.tmps.getD x undef := by
      cases hdd : o.dst with
      | none => rfl
      | some y =>
        have : y ≠ x := fun e => hd (by rw [hdd, e])
        simp [Act.put, Array.getD_eq_getD_getElem?, Array.getElem?_setIfInBounds_ne this]
    rw [this]
    exact (W.slotN x fun i' o' g1 g2 g3 => hx i' o' g1 g2 ((hS' i').2 (.inl g3))).mono hp.ext

/-- Which operations a walk has come through. -/
abbrev Listed (listed : Array Bool) (i : Nat) : Prop := listed.getD i false = true

theorem listed_set {listed : Array Bool} {i : Nat} (hi : i < listed.size) (j : Nat) : Listed (listed.setIfInBounds i true) j ↔ (Listed listed j ∨ j = i) := by
  unfold Listed
  rw [Array.getD_eq_getD_getElem?, Array.getD_eq_getD_getElem?]
  by_cases h : j = i
  · subst h
    simp [hi]
  · rw [Array.getElem?_setIfInBounds_ne (fun e => h e.symm)]
    simp [h]

theorem Run.any_ok (R : Run E self base ops sl ord T M) (hSy : SymOk σ E) (hs : SelfOk σ E.P self) (heq : ∀ v u, E.eqv v u = true → v = u) {l : Option Nat} {Q : Exit → Act → World → Prop}
    (hQ : ∀ a w ρ, LRel σ ρ (T ops.size) a.tmps.toList → a.defers = ds → Post σ ρ0 (M 0) w0 ρ (M ops.size) w → (∀ b, b < base → ρ0 b = none → ρ b = none) → Q .normal a w) :
    ∀ (fuel : Nat) (listed : Array Bool) (a : Act) (w : World) (ρ : Rho) (q : Nat) (V : Mem), listed.size = ops.size → listed.toList.count false ≤ fuel → Way σ base ops sl ord T M ρ0 w0 ds (Listed listed) a w ρ q V →
      wpAnyIn (Fr l) 0 E.P .any ops Q fuel listed a w := by
  have preds_at : ∀ (i : Nat) (o' : Oper), ops[i]? = some o' → (ops.toList.map preds).getD i [] = preds o' := fun i o' h => by
    rw [List.getD_eq_getElem?_getD, List.getElem?_map, Array.getElem?_toList, h]
    rfl
  have ready_preds : ∀ (listed : Array Bool) (i : Nat) (o' : Oper), ops[i]? = some o' → ((∀ e ∈ o'.after, Region.binds .any e = true → listed.getD e.on false = true) ↔ ∀ p ∈ (ops.toList.map preds).getD i [], Listed listed p) := fun listed i o' h => by
    rw [preds_at i o' h]
    constructor
    · intro g p hp
      obtain ⟨e, h1, rfl⟩ := List.mem_map.1 hp
      obtain ⟨h2, h3⟩ := List.mem_filter.1 h1
      exact g e (by simpa using h2) h3
    · intro g e he hb
      exact g e.on (List.mem_map.2 ⟨e, List.mem_filter.2 ⟨by simpa using he, hb⟩, rfl⟩)
  -- nothing ready: all are listed
  have allOf : ∀ (listed : Array Bool), listed.size = ops.size → Region.ready .any ops listed = [] → ∀ i, i < ops.size → Listed listed i := by
    intro listed hsz hr i
    induction i using Nat.strongRecOn with
    | _ i ih =>
      intro hi
      obtain ⟨o', ho'⟩ : ∃ o', ops[i]? = some o' := ⟨_, Array.getElem?_eq_getElem hi⟩
      cases hl : listed.getD i false with
      | true => exact hl
      | false =>
        have hm : i ∈ Region.ready .any ops listed := by
          refine mem_ready.2 ⟨?_, o', ho', (ready_preds listed i o' ho').2 fun p hp => ?_⟩
          · rw [Array.getD_eq_getD_getElem?, Array.getElem?_eq_getElem (by omega)] at hl ⊢
            exact hl
          · have hlt := R.chk.pred_lt i p hp
            exact ih p hlt (by omega)
        rw [hr] at hm
        cases hm
  have ended : ∀ (listed : Array Bool) (a : Act) (w : World) (ρ : Rho) (q : Nat) (V : Mem), listed.size = ops.size → Region.ready .any ops listed = [] → Way σ base ops sl ord T M ρ0 w0 ds (Listed listed) a w ρ q V → Q .normal a w := by
    intro listed a w ρ q V hsz hr W
    have hall := allOf listed hsz hr
    have hcalm : ∀ k, q ≤ k → k < ops.size → Calm sl ord T k := fun k h1 h2 => by
      obtain ⟨i, re, hi⟩ := R.at_ h2
      exact W.rest k i re h1 hi (hall i (R.lt hi))
    have hW := R.adv_to W.spec W.qle (Nat.le_refl _) hcalm
    refine hQ a w ρ ⟨?_, fun x hx => ?_⟩ W.defers (W.post.congr (fun b o h => (hW.2 b o).2 (.inl h)) hW.1.symm) W.old
    · rw [R.tlen _ (Nat.le_refl _)]
      simpa using W.size.symm
    · rw [← getD_toList a.tmps]
      by_cases hw : ∃ (i : Nat) (o : SOp), sl[i]? = some o ∧ o.dst = some x
      · obtain ⟨i, o, h1, h2⟩ := hw
        have hil : i < ops.size := by
          have h3 := (List.getElem?_eq_some_iff.1 h1).1
          have h4 := R.chk.len
          simp at h4
          omega
        exact W.slotD x ⟨i, o, hall i hil, h1, h2⟩
      · rw [R.never (fun i o h1 h2 => hw ⟨i, o, h1, h2⟩) (Nat.le_refl _)]
        exact W.slotN x fun i o h1 h2 => absurd ⟨i, o, h1, h2⟩ hw
  intro fuel
  induction fuel with
  | zero =>
    intro listed a w ρ q V hsz hc W
    have hr : Region.ready .any ops listed = [] := by
      cases hrr : Region.ready .any ops listed with
      | nil => rfl
      | cons i rs =>
        have hm : i ∈ Region.ready .any ops listed := by rw [hrr]; simp
        obtain ⟨h1, o', h2, _⟩ := mem_ready.1 hm
        have hi : i < listed.size := by rw [hsz]; exact (Array.getElem?_eq_some_iff.1 h2).1
        rw [Array.getD_eq_getD_getElem?, Array.getElem?_eq_getElem hi] at h1
        have : false ∈ listed.toList := by
          have h3 : listed[i] = false := h1
          rw [← h3]
          simp
        have := List.count_pos_iff.2 this
        omega
    exact ⟨hr, ended listed a w ρ q V hsz hr W⟩
  | succ fuel ih =>
    intro listed a w ρ q V hsz hc W
    refine ⟨fun hr => ended listed a w ρ q V hsz hr W, fun i hm => ?_⟩
    obtain ⟨h1, o', h2, h3⟩ := mem_ready.1 hm
    have hil : i < ops.size := (Array.getElem?_eq_some_iff.1 h2).1
    have hi : i < listed.size := by omega
    have hlist : listed[i] = false := by rwa [Array.getD_eq_getD_getElem?, Array.getElem?_eq_getElem hi] at h1
    have hS : ¬ Listed listed i := by
      unfold Listed
      rw [Array.getD_eq_getD_getElem?, Array.getElem?_eq_getElem hi, Option.getD_some, hlist]
      simp
    have hpr := (ready_preds listed i o' h2).1 h3
    obtain ⟨k, re, hk⟩ := R.chk.all i (by simpa using hil)
    obtain ⟨o, ho, hstep, hre⟩ := R.tr.step k i re hk
    obtain ⟨o2, ho2, hst⟩ := R.strip i o ho
    rw [h2] at ho2
    cases ho2
    have hcnt : (listed.setIfInBounds i true).toList.count false ≤ fuel := by
      rw [Array.toList_setIfInBounds, List.count_set (by simpa using hi)]
      have : listed.toList[i]'(by simpa using hi) = false := by simpa using hlist
      rw [this]
      have e1 : (false == false) = true := rfl
      have e2 : (true == false) = false := rfl
      rw [e1, e2, if_pos rfl, if_neg (by simp)]
      omega
    have hsz' : (listed.setIfInBounds i true).size = ops.size := by simpa using hsz
    have hset := listed_set (listed := listed) hi
    have hg : ∀ x b, o.guard = some (x, b) → VRel σ ρ ((T k).getD x undef) (a.tmps.getD x undef) := fun x b hgd => R.look W hk ho hS hpr (by simp [looks, hgd])
    have hwant := wanted_rel' hst (stepOp_gOk hstep) hg
    have hr : ∀ x ∈ o.op.operands.toList, VRel σ ρ (ev x (T k)) (a.eval x) := fun x hx => by
      cases x with
      | tmp y => exact R.look W hk ho hS hpr (by simp only [looks, List.mem_append, List.mem_filterMap]; exact .inl ⟨_, hx, rfl⟩)
      | const v => exact plain_refl (σ := σ) ρ (hst.plain _ hx)
      | global g =>
        have hg := W.post.rel.glob g (by simpa [plainOpd] using hst.plain _ hx)
        have := VRel.ptr (σ := σ) (o := 0) hg
        simpa [ev, Act.eval] using this
      | func f => exact .func (fun l => by simp) (fun n => by simp) rfl (fun i hi => absurd hi (by simp)) rfl (fun i hi => absurd hi (by simp))
    obtain ⟨v, hT, hcase⟩ := stepOp_put hstep
    unfold wpOpIn
    simp only [h2]
    rw [hwant]
    rcases hcase with ⟨hw, hop⟩ | ⟨hw, rfl, hMM⟩
    · simp only [hw, if_true]
      obtain ⟨m1, m2, V2, q2, g1, g2, g3, _, g5, g6, g7, g8, g9⟩ := R.pick heq W hk ho hS hpr hw hop (hre hw)
      refine op_ok' rfl hSy hs hst g2 hr (W.none i hil hS) (by omega) g1 fun v' w' ρ' k1 k2 k3 => ?_
      rw [hst.dst]
      exact ih _ _ _ ρ' q2 V2 hsz' hcnt (R.onward W hk ho hpr hT hset k1 (g9 ρ' w' k2 k3) (fun b hb hne e => k3 b (by omega) hne e) g5 g6 g7 g8)
    · simp only [hw, Bool.false_eq_true, if_false]
      refine ⟨fun _ _ => trivial, ?_⟩
      rw [hst.dst]
      have hcalm : Calm sl ord T k := ⟨i, re, o, hk, ho, .inr hw⟩
      refine ih _ _ _ ρ q V hsz' hcnt (R.onward W hk ho hpr hT hset (VRel.undef ρ) (Post.refl W.post.rel) (fun _ _ _ e => e) W.qle W.spec (fun k' i' re' j1 j2 => .inl (W.done k' i' re' j1 j2)) fun k' i' re' j1 j2 j3 => ?_)
      rcases j3 with j3 | j3
      · exact W.rest k' i' re' j1 j2 j3
      · subst j3
        have := R.chk.uniq k' k i' re' re j2 hk
        subst this
        exact hcalm
end

theorem dreg_ok {E : Env} {self : Self} (hSy : SymOk σ E) (hs : SelfOk σ E.P self) (hg : ∀ tk m o m', self tk m = some (o, m') → Grow m m') (heq : ∀ v u, E.eqv v u = true → v = u) (hmix : E.P.follows .mixedOrders = true) : DregOk σ E self := by
  intro ops sl ord n hst hord rd l lo ρ m m' w a t t' hR ht hm h
  have hchk := chk_of hord
  simp only [stepCode] at h
  split at h
  · rename_i t1 m1 hdr
    simp only [Option.some.injEq, Prod.mk.injEq, Out.exit.injEq, true_and] at h
    obtain ⟨rfl, rfl⟩ := h
    obtain ⟨T, M, g1, g2, g3, g4, g5⟩ := drOps_trace hdr
    obtain ⟨q1, q2⟩ := stripAll_at hst
    have hlen : sl.length = ops.size := by simpa using q1
    have R : Run E self m.next ops sl ord T M := by
      refine ⟨hchk, ⟨fun k i re hk => ?_⟩, fun i s hi => ?_, hg, fun i hi => ?_, ?_⟩
      · obtain ⟨o, h1, h2, h3⟩ := g5 k i re hk
        refine ⟨o, h1, h2, fun hw e he => ?_⟩
        obtain ⟨me, h4, v, u, h5, h6, h7⟩ := h3 hw e he
        rcases h4 with ⟨k', re', j1, j2, rfl⟩ | h4
        · exact ⟨k', re', j1, j2, v, u, h5, h6, h7⟩
        · cases h4
      · have hil : i < ops.toList.length := by have := (List.getElem?_eq_some_iff.1 hi).1; omega
        obtain ⟨s', k1, k2⟩ := q2 i _ (List.getElem?_eq_getElem hil)
        rw [hi] at k1
        cases k1
        exact ⟨_, by rw [← Array.getElem?_toList]; exact List.getElem?_eq_getElem hil, k2⟩
      · rw [g2]
        exact hR.fresh _ (by omega)
      · rw [g2]
        simp only [Mem.next_bump]
        omega
    have hn : ord.length = ops.size := R.olen
    rw [hn] at g3 g4
    apply wpIn_region_any hmix
    obtain ⟨V, hV⟩ := R.exists_W (q := 0) (by omega)
    have hp0 : Post σ ρ m w ρ (M 0) w.drew := by
      rw [g2]
      exact (Post.bump hR _).trans (Post.drew (hR.bump _))
    have hfreshV : ∀ b, V.next ≤ b → V.get b = none := fun b hb => by
      cases hg : V.get b with
      | none => rfl
      | some ob =>
        rw [hV.1] at hb
        rcases (hV.2 b ob).1 hg with h1 | ⟨k, _, h2, i, re, h3, _, h5, _⟩
        · rw [hp0.rel.fresh b hb] at h1; cases h1
        · have := R.lt h3
          have := R.next
          omega
    have hpV : Post σ ρ (M 0) w.drew ρ V w.drew := by
      refine (Post.refl hp0.rel).more (fun b o x hb hx => ?_) hV.1 hfreshV
      rcases (hV.2 b o).1 hb with h1 | ⟨k, _, h2, i, re, h3, _, h5, _⟩
      · exact h1
      · rw [hR.dom b (by omega)] at hx
        cases hx
    refine R.any_ok hSy hs heq (ρ0 := ρ) (w0 := w.drew) (ds := a.defers) ?_ ops.size _ a _ ρ 0 V (by simp) (by simp) ?_
    · intro a' w' ρ' k1 k2 k3 k4
      rw [g3] at k1
      rw [g4] at k3
      exact ⟨rfl, rfl, ρ', k1, k2 ▸ hm.post hR (hp0.trans k3), hp0.trans k3, k4⟩
    · have hnone : ∀ i, ¬ Listed (Array.replicate ops.size false) i := fun i h => by
        unfold Listed at h
        rw [Array.getD_eq_getD_getElem?] at h
        by_cases hi : i < ops.size
        · simp [hi] at h
        · rw [Array.getElem?_eq_none (by simp; omega)] at h
          cases h
      have hl : a.tmps.size = t.length := by have := ht.1; simp at this; omega
      refine ⟨hV, by omega, fun k i re hk => by omega, fun k i re _ _ h => absurd h (hnone i), fun i h => absurd h (hnone i), fun i _ _ => hR.dom _ (by omega), hpV, fun b _ e => e, by rw [g1]; exact hl, fun x h => ?_, fun x _ => ?_, rfl⟩
      · obtain ⟨i, o, h1, _⟩ := h
        exact absurd h1 (hnone i)
      · rw [g1, getD_toList]
        exact ht.at_ x
  · cases h

end Go.Ab
