/- An interpreter of our own: its operations that read memory. -/
import Derived.Test.YtijnhaadhgoloaaGreatDoorAbE
namespace Go.Ab
variable {σ : Sig} {P : Program} {ρ : Rho} {r r' : Operand → Value}

/-! ### maps -/
theorem keyKind_inv {k : TypeId} {x : Value} {kd : TypeDesc} (h : keyKind P k x = some kd) : P.underlying k = some kd ∧ (∀ x', VRel σ ρ x x' → x' = x) ∧
    ∀ (e : Bool) (w : World), (Instr.checkKey e 10000 k x).run P w = .ok () w := by
  unfold keyKind at h
  split at h
  · rename_i q j n hu
    simp only [Option.some.injEq] at h; subst h
    have h : ∀ d e w, (Instr.checkKey e (d + 1) k (.int j n)).run P w = .ok () w := fun d e w => by simp [Instr.checkKey, und_run hu]
    exact ⟨hu, fun x' hx => hx.int_inv, h 9999⟩
  · rename_i s hu
    simp only [Option.some.injEq] at h; subst h
    have h : ∀ n e w, (Instr.checkKey e (n + 1) k (.string s)).run P w = .ok () w := fun n e w => by simp [Instr.checkKey, und_run hu]
    exact ⟨hu, fun x' hx => hx.string_inv, h 9999⟩
  · rename_i b hu
    simp only [Option.some.injEq] at h; subst h
    have h : ∀ n e w, (Instr.checkKey e (n + 1) k (.bool b)).run P w = .ok () w := fun n e w => by simp [Instr.checkKey, und_run hu]
    exact ⟨hu, fun x' hx => hx.bool_inv, h 9999⟩
  · cases h

theorem sameNow_rel {kd : TypeDesc} {x y y' : Value} {b : Bool} (hy : VRel σ ρ y y') (h : Instr.sameNow kd x y = some b) : Instr.sameNow kd x y' = some b := by
  cases hy with
  | int => exact h
  | string => exact h
  | bool => exact h
  | _ => cases kd <;> cases x <;> simp [Instr.sameNow] at h

/-- Entries against entries. -/
def ERel (σ : Sig) (ρ : Rho) (es : List (Value × Value)) (es' : List MapEntry) : Prop :=
  es.length = es'.length ∧ ∀ (i : Nat) (e : Value × Value), es[i]? = some e → ∃ e' : MapEntry, es'[i]? = some e' ∧ VRel σ ρ e.1 e'.key ∧ VRel σ ρ e.2 e'.val
theorem ERel.cons_inv {e : Value × Value} {es : List (Value × Value)} {es' : List MapEntry} (h : ERel σ ρ (e :: es) es') :
    ∃ e' l, es' = e' :: l ∧ VRel σ ρ e.1 e'.key ∧ VRel σ ρ e.2 e'.val ∧ ERel σ ρ es l := by
  cases es' with
  | nil => exact absurd h.1 (by simp)
  | cons e' l =>
    obtain ⟨e'', h1, h2, h3⟩ := h.2 0 e (by simp)
    simp only [List.getElem?_cons_zero, Option.some.injEq] at h1
    subst h1
    exact ⟨e', l, rfl, h2, h3, by simpa using h.1, fun i e he => by simpa using h.2 (i + 1) e (by simpa using he)⟩
theorem ERel.nil_inv {es' : List MapEntry} (h : ERel σ ρ [] es') : es' = [] := by
  cases es' with
  | nil => rfl
  | cons => exact absurd h.1 (by simp)
theorem ERel.cons {e : Value × Value} {e' : MapEntry} {es : List (Value × Value)} {es' : List MapEntry} (h1 : VRel σ ρ e.1 e'.key) (h2 : VRel σ ρ e.2 e'.val) (h : ERel σ ρ es es') : ERel σ ρ (e :: es) (e' :: es') :=
  ⟨by simp [h.1], fun i x hx => by
    cases i with
    | zero => simp only [List.getElem?_cons_zero, Option.some.injEq] at hx; subst hx; exact ⟨e', by simp, h1, h2⟩
    | succ i => simpa using h.2 i x (by simpa using hx)⟩
theorem ERel.nil : ERel σ ρ [] [] := ⟨rfl, fun i e h => by simp at h⟩

theorem find_sound {kd : TypeDesc} {x : Value} : ∀ {es : List (Value × Value)} {es' : List MapEntry} {f : Option Value} (n : Nat), ERel σ ρ es es' → findA kd x es = some f →
    (f = none ∧ Instr.findNow kd x es' n = some none) ∨ (∃ v v' i, f = some v ∧ VRel σ ρ v v' ∧ Instr.findNow kd x es' n = some (some (n + i, v')) ∧ (es'[i]?).map (·.val) = some v') := by
  intro es
  induction es with
  | nil =>
    intro es' f n he h
    rw [he.nil_inv]
    simp only [findA, Option.some.injEq] at h
    subst h
    exact .inl ⟨rfl, rfl⟩
  | cons e es ih =>
    intro es' f n he h
    obtain ⟨e', l, rfl, h1, h2, h3⟩ := he.cons_inv
    obtain ⟨y, u⟩ := e
    simp only [findA] at h
    cases hs : Instr.sameNow kd x y with
    | none => rw [hs] at h; cases h
    | some b =>
      rw [hs] at h
      have hs' := sameNow_rel h1 hs
      cases b with
      | true =>
        simp only [Option.some.injEq] at h
        subst h
        exact .inr ⟨u, e'.val, 0, rfl, h2, by simp [Instr.findNow, hs'], by simp⟩
      | false =>
        rcases ih (n + 1) h3 h with ⟨g1, g2⟩ | ⟨v, v', i, g1, g2, g3, g4⟩
        · exact .inl ⟨g1, by simp [Instr.findNow, hs', g2]⟩
        · exact .inr ⟨v, v', i + 1, g1, g2, by simp only [Instr.findNow, hs', g3]; congr 3; omega, by simpa using g4⟩

theorem findKey_run {k : TypeId} {kd : TypeDesc} {x : Value} {es' : List MapEntry} {f : Option (Nat × Value)} (hu : P.underlying k = some kd) (h : Instr.findNow kd x es' 0 = some f) (w : World) :
    (Instr.findKey k x es').run P w = .ok f w := by
  unfold Instr.findKey
  simp [und_run hu, h]

/-! ### keys that are structs -/
theorem keyS_inv {k : TypeId} {x : Value} (h : keyS P k x = true) : (∃ fs, P.underlying k = some (.struct fs)) ∧ (∀ x', VRel σ ρ x x' → x' = x) ∧
    ∀ (e : Bool) (w : World), (Instr.checkKey e 10000 k x).run P w = .ok () w := by
  unfold keyS at h
  split at h
  · rename_i fs cs hu
    simp only [Bool.and_eq_true] at h
    obtain ⟨⟨h1, h2⟩, h3⟩ := h
    refine ⟨⟨_, hu⟩, fun x' hx => (plain_eq h1 hx).symm, fun e w => ?_⟩
    obtain ⟨u, hu1⟩ := Option.isSome_iff_exists.1 h2
    obtain ⟨v, hu2⟩ := Option.isSome_iff_exists.1 h3
    cases e
    · exact runP_run _ hu2 w
    · exact runP_run _ hu1 w
  · cases h
theorem findS_sound {k : TypeId} {x : Value} : ∀ {es : List (Value × Value)} {es' : List MapEntry} {f : Option Value} (n : Nat), ERel σ ρ es es' → findS P k x es = some f → ∀ w : World,
    (f = none ∧ (Instr.findAsking k x es' n).run P w = .ok none w) ∨ (∃ v v' i, f = some v ∧ VRel σ ρ v v' ∧ (Instr.findAsking k x es' n).run P w = .ok (some (n + i, v')) w ∧ (es'[i]?).map (·.val) = some v') := by
  intro es
  induction es with
  | nil =>
    intro es' f n he h w
    rw [he.nil_inv]
    simp only [findS, Option.some.injEq] at h
    subst h
    exact .inl ⟨rfl, rfl⟩
  | cons e es ih =>
    intro es' f n he h w
    obtain ⟨e', l, rfl, h1, h2, h3⟩ := he.cons_inv
    obtain ⟨y, u⟩ := e
    simp only [findS] at h
    cases hs : sameS P k x y with
    | none => rw [hs] at h; cases h
    | some b =>
      rw [hs] at h
      unfold sameS at hs
      split at hs
      · rename_i hp
        obtain rfl := plain_eq hp h1
        have hr := runP_run _ hs w
        cases b with
        | true =>
          simp only [Option.some.injEq] at h
          subst h
          exact .inr ⟨u, e'.val, 0, rfl, h2, by simp [Instr.findAsking, hr], by simp⟩
        | false =>
          rcases ih (n + 1) h3 h w with ⟨g1, g2⟩ | ⟨v, v', i, g1, g2, g3, g4⟩
          · exact .inl ⟨g1, by simp [Instr.findAsking, hr, g2]⟩
          · exact .inr ⟨v, v', i + 1, g1, g2, by simp [Instr.findAsking, hr, g3]; omega, by simpa using g4⟩
      · cases hs
theorem findKeyS_run {k : TypeId} {x : Value} {fs : Array Field} {es' : List MapEntry} {f : Option (Nat × Value)} (hu : P.underlying k = some (.struct fs)) {w : World} (h : (Instr.findAsking k x es').run P w = .ok f w) :
    (Instr.findKey k x es').run P w = .ok f w := by
  unfold Instr.findKey
  cases es' with
  | nil => simp [und_run hu, Instr.findNow]; simpa [Instr.findAsking] using h
  | cons e l => simp [und_run hu, Instr.findNow, Instr.sameNow, h]

theorem map_obj' {m : Mem} {w : World} (hR : Rel σ ρ m w) {b : Nat} {x : Nat × Nat × Nat} {es : List (Value × Value)} {rw_ : Bool} (hm : m.get b = some (.map es rw_)) (hρ : ρ b = some x) :
    ∃ es' clock, w.heap[x.1]? = some (.map es' clock) ∧ ERel σ ρ es es'.toList ∧ MapKept.Stamped es' clock := by
  obtain ⟨es', c, h1, hst, h2, h3⟩ := (hR.obj b _ _ hm hρ : ORel σ ρ w x (.map es rw_))
  exact ⟨es', c, h1, ⟨by simpa using h2, fun i e he => by simpa using h3 i e he⟩, hst⟩
theorem map_obj {m : Mem} {w : World} (hR : Rel σ ρ m w) {b : Nat} {x : Nat × Nat × Nat} {es : List (Value × Value)} {rw_ : Bool} (hm : m.get b = some (.map es rw_)) (hρ : ρ b = some x) :
    ∃ es' clock, w.heap[x.1]? = some (.map es' clock) ∧ ERel σ ρ es es'.toList := by
  obtain ⟨es', c, h1, h2, _⟩ := map_obj' hR hm hρ
  exact ⟨es', c, h1, h2⟩

theorem lookup_sound {t : TypeId} {mp mp' k k' v : Value} {ok : Bool} {m : Mem} {w : World} (hR : Rel σ ρ m w) (hm : VRel σ ρ mp mp') (hk : VRel σ ρ k k') (h : lookupA P t mp k ok m = some v) :
    ∃ v', VRel σ ρ v v' ∧ (Instr.lookup t mp' k' ok).run P w = .ok v' w := by
  unfold lookupA at h
  split at h
  · rename_i kt et hu
    split at h
    · rename_i kd z hkd hz
      obtain ⟨hku, hkx, hck⟩ := keyKind_inv (ρ := ρ) hkd
      obtain rfl := hkx k' hk
      split at h
      · rename_i hp
        have hzz := zero_run hz w
        have key : ∀ (es : List (Value × Value)) (es' : Array MapEntry), ERel σ ρ es es'.toList → (match findA kd k' es with | none => none | some f => some (if ok then .tuple #[f.getD z, .bool f.isSome] else f.getD z) : Option Value) = some v →
            ∃ v', VRel σ ρ v v' ∧ ∃ f, (Instr.findKey kt k' es'.toList).run P w = .ok f w ∧ ((match f with | some (_, u) => pure (u, true) | none => do pure (← zeroValue et, false) : Sem (Value × Bool)).run P w).andThen (fun a w => .ok (if ok then .tuple #[a.1, .bool a.2] else a.1) w) = .ok v' w := by
          intro es es' he hf
          cases hff : findA kd k' es with
          | none => rw [hff] at hf; cases hf
          | some f =>
            rw [hff] at hf
            simp only [Option.some.injEq] at hf
            subst hf
            rcases find_sound 0 he hff with ⟨g1, g2⟩ | ⟨u, u', i, g1, g2, g3, _⟩
            · subst g1
              refine ⟨if ok then .tuple #[z, .bool false] else z, ?_, none, findKey_run hku g2 w, by simp [hzz]⟩
              cases ok
              · exact plain_refl (σ := σ) ρ hp
              · exact LRel.tuple (LRel.cons (plain_refl (σ := σ) ρ hp) (LRel.cons (.bool _) (LRel.nil ρ)))
            · subst g1
              refine ⟨if ok then .tuple #[u', .bool true] else u', ?_, some (0 + i, u'), findKey_run hku g3 w, by simp⟩
              cases ok
              · exact g2
              · exact LRel.tuple (LRel.cons g2 (LRel.cons (.bool _) (LRel.nil ρ)))
        cases mp with
        | map q =>
          cases q with
          | none =>
            simp only at h
            obtain ⟨v', hv, f, g1, g2⟩ := key [] #[] (by simpa using ERel.nil) h
            cases hm
            refine ⟨v', hv, ?_⟩
            simp only at g1
            simp [Instr.lookup, und_run hu, hck, g1]
            cases f with
            | none => simpa [hzz] using g2
            | some p => simpa using g2
          | some b =>
            cases hm with
            | map hρ =>
              cases hmb : m.get b with
              | none => simp [hmb] at h
              | some ob =>
                cases ob with
                | map es rw_ =>
                  simp only [hmb] at h
                  obtain ⟨es', clock, g0, he⟩ := map_obj hR hmb hρ
                  obtain ⟨v', hv, f, g1, g2⟩ := key es es' he h
                  refine ⟨v', hv, ?_⟩
                  simp only at g0
                  have hget : ∀ b', w.heap[b']? = some (Obj.map es' clock) → (getObj b').run P w = .ok (.map es' clock) w := fun b' hb => by simp [getObj, Sem.run, hb]
                  simp [Instr.lookup, und_run hu, hget _ g0, hck, g1]
                  cases f with
                  | none => simpa [hzz] using g2
                  | some p => simpa using g2
                | _ => simp [hmb] at h
        | _ => simp at h
      · cases h
    · rename_i z hkd hz
      split at h
      · rename_i hpk
        simp only [Bool.and_eq_true] at hpk
        obtain ⟨hp, hks⟩ := hpk
        obtain ⟨⟨fs, hku⟩, hkx, hck⟩ := keyS_inv (ρ := ρ) hks
        obtain rfl := hkx k' hk
        have hzz := zero_run hz w
        have key : ∀ (es : List (Value × Value)) (es' : Array MapEntry), ERel σ ρ es es'.toList → (match findS P kt k' es with | none => none | some f => some (if ok then .tuple #[f.getD z, .bool f.isSome] else f.getD z) : Option Value) = some v →
            ∃ v', VRel σ ρ v v' ∧ ∃ f, (Instr.findKey kt k' es'.toList).run P w = .ok f w ∧ ((match f with | some (_, u) => pure (u, true) | none => do pure (← zeroValue et, false) : Sem (Value × Bool)).run P w).andThen (fun a w => .ok (if ok then .tuple #[a.1, .bool a.2] else a.1) w) = .ok v' w := by
          intro es es' he hf
          cases hff : findS P kt k' es with
          | none => rw [hff] at hf; cases hf
          | some f =>
            rw [hff] at hf
            simp only [Option.some.injEq] at hf
            subst hf
            rcases findS_sound 0 he hff w with ⟨g1, g2⟩ | ⟨u, u', i, g1, g2, g3, _⟩
            · subst g1
              refine ⟨if ok then .tuple #[z, .bool false] else z, ?_, none, findKeyS_run hku g2, by simp [hzz]⟩
              cases ok
              · exact plain_refl (σ := σ) ρ hp
              · exact LRel.tuple (LRel.cons (plain_refl (σ := σ) ρ hp) (LRel.cons (.bool _) (LRel.nil ρ)))
            · subst g1
              refine ⟨if ok then .tuple #[u', .bool true] else u', ?_, some (0 + i, u'), findKeyS_run hku g3, by simp⟩
              cases ok
              · exact g2
              · exact LRel.tuple (LRel.cons g2 (LRel.cons (.bool _) (LRel.nil ρ)))
        cases mp with
        | map q =>
          cases q with
          | none =>
            simp only at h
            obtain ⟨v', hv, f, g1, g2⟩ := key [] #[] (by simpa using ERel.nil) h
            cases hm
            refine ⟨v', hv, ?_⟩
            simp only at g1
            simp [Instr.lookup, und_run hu, hck, g1]
            cases f with
            | none => simpa [hzz] using g2
            | some p => simpa using g2
          | some b =>
            cases hm with
            | map hρ =>
              cases hmb : m.get b with
              | none => simp [hmb] at h
              | some ob =>
                cases ob with
                | map es rw_ =>
                  simp only [hmb] at h
                  obtain ⟨es', clock, g0, he⟩ := map_obj hR hmb hρ
                  obtain ⟨v', hv, f, g1, g2⟩ := key es es' he h
                  refine ⟨v', hv, ?_⟩
                  simp only at g0
                  have hget : ∀ b', w.heap[b']? = some (Obj.map es' clock) → (getObj b').run P w = .ok (.map es' clock) w := fun b' hb => by simp [getObj, Sem.run, hb]
                  simp [Instr.lookup, und_run hu, hget _ g0, hck, g1]
                  cases f with
                  | none => simpa [hzz] using g2
                  | some p => simpa using g2
                | _ => simp [hmb] at h
        | _ => simp at h
      · cases h
    · cases h
  · cases h

/-! ### len -/
theorem len_sound {t : TypeId} {x x' v : Value} {m : Mem} {w : World} {at_ : Array TypeId} {ty : TypeId} (hat : at_[0]? = some t) (hR : Rel σ ρ m w) (hx : VRel σ ρ x x') (h : lenA P t x m = some v) (rest : Array Value) (hr : rest[0]? = some x') :
    VRel σ ρ v v ∧ (Builtin.len_ at_ ty rest).run P w = .ok v w := by
  unfold lenA at h
  split at h
  · rename_i s hu
    simp only [Option.some.injEq] at h; subst h
    obtain rfl := hx.string_inv
    exact ⟨.int _ _, by simp [Builtin.len_, hat, hr, und_run hu, goInt]⟩
  · rename_i n e hu
    simp only [Option.some.injEq] at h; subst h
    exact ⟨.int _ _, by simp [Builtin.len_, hat, hr, und_run hu, goInt]⟩
  · rename_i e a n c hu
    simp only [Option.some.injEq] at h; subst h
    have : ∃ a' c', x' = .slice a' n c' := by cases hx <;> exact ⟨_, _, rfl⟩
    obtain ⟨a', c', rfl⟩ := this
    exact ⟨.int _ _, by simp [Builtin.len_, hat, hr, und_run hu, goInt]⟩
  · rename_i k e hu
    simp only [Option.some.injEq] at h; subst h
    cases hx
    exact ⟨.int _ _, by simp [Builtin.len_, hat, hr, und_run hu, goInt]⟩
  · rename_i k e b hu
    split at h
    · rename_i es rw_ hm
      simp only [Option.some.injEq] at h; subst h
      cases hx with
      | map hρ =>
        obtain ⟨es', clock, g0, he⟩ := map_obj hR hm hρ
        simp only at g0
        refine ⟨.int _ _, ?_⟩
        have hsz : es'.size = es.length := by simpa using he.1.symm
        simp [Builtin.len_, hat, hr, und_run hu, goInt, getObj, Sem.run, g0, hsz]
    · cases h
  · cases h

end Go.Ab
