/- An interpreter of our own: its operations without an effect stand to the model's, second part. -/
import Derived.Test.YtijnhaadhgoloaaGreatDoorAbC
namespace Go.Ab
variable {σ : Sig} {P : Program} {ρ : Rho} {r r' : Operand → Value}

def ORelV (σ : Sig) (ρ : Rho) (v v' : Option Value) : Prop := (v = none → v' = none) ∧ ∀ x, v = some x → ∃ x', v' = some x' ∧ VRel σ ρ x x'

theorem bounds_sound {b : Bool} {lo lo' hi hi' : Option Value} {n c c' h l : Nat} (hlo : ORelV σ ρ lo lo') (hhi : ORelV σ ρ hi hi') (hn : n ≤ c) (hc : c ≤ c')
    (h1 : bndA hi c n = some h) (h2 : bndA lo h 0 = some l) (w : World) : l ≤ h ∧ h ≤ c ∧ (Instr.sliceBounds b n c' lo' hi' none).run P w = .ok (l, h, c') w := by
  rcases bnd_sound (P := P) (code := if b then .sliceAcap else .sliceAlen) hhi.2 hhi.1 h1 hc w with ⟨_, g2, g3⟩ | ⟨x', g2, g3, g4⟩
  · subst g2 g3
    rcases bnd_sound (P := P) (code := .sliceB) hlo.2 hlo.1 h2 (Nat.le_refl h) w with ⟨_, k2, k3⟩ | ⟨y', k2, k3, k4⟩
    · subst k2 k3
      exact ⟨Nat.zero_le _, hn, by simp [Instr.sliceBounds]⟩
    · subst k2
      exact ⟨k3, hn, by simp [Instr.sliceBounds, k4]⟩
  · subst g2
    rcases bnd_sound (P := P) (code := .sliceB) hlo.2 hlo.1 h2 (Nat.le_refl h) w with ⟨_, k2, k3⟩ | ⟨y', k2, k3, k4⟩
    · subst k2 k3
      exact ⟨Nat.zero_le _, g3, by simp [Instr.sliceBounds, g4]⟩
    · subst k2
      exact ⟨k3, g3, by simp [Instr.sliceBounds, g4, k4]⟩

theorem ORelV.of {x : Option Operand} (h : ∀ y, x = some y → VRel σ ρ (r y) (r' y)) : ORelV σ ρ (x.map r) (x.map r') := by
  cases x with
  | none => exact ⟨fun _ => rfl, fun _ h => (nomatch h)⟩
  | some y => exact ⟨fun h => (nomatch h), fun z hz => ⟨_, rfl, by simp only [Option.map_some, Option.some.injEq] at hz; subst hz; exact h y rfl⟩⟩

theorem slice_run {t : TypeId} {d : TypeDesc} (hu : P.underlying t = some d) (hd : ∀ n e, d ≠ .array n e) (x : Value) (lo hi : Option Value) (w : World) (mx : Option Value := none) :
    (Instr.sliceAt t x lo hi mx).run P w = (Instr.slice t x lo hi mx).run P w := by
  unfold Instr.sliceAt
  simp only [Sem.run_bind, und_run hu, Result.andThen_ok]

theorem sliceA_sound {t : TypeId} {x x' : Value} {lo lo' hi hi' : Option Value} {v : Value} (hx : VRel σ ρ x x') (hlo : ORelV σ ρ lo lo') (hhi : ORelV σ ρ hi hi') (h : sliceA P t x lo hi = some v) (w : World) :
    ∃ v', VRel σ ρ v v' ∧ (Instr.sliceAt t x' lo' hi' none).run P w = .ok v' w := by
  unfold sliceA at h
  split at h
  · rename_i s hu
    split at h
    · cases h
    · rename_i hh h1
      split at h
      · cases h
      · rename_i l h2
        simp only [Option.some.injEq] at h
        subst h
        obtain rfl := hx.string_inv
        obtain ⟨_, _, hb⟩ := bounds_sound (P := P) (b := false) hlo hhi (Nat.le_refl _) (Nat.le_refl _) h1 h2 w
        refine ⟨_, .string _, ?_⟩
        rw [slice_run hu (fun _ _ e => by cases e)]
        simp [Instr.slice, und_run hu, hb]
  · rename_i e a n c hu
    split at h
    · cases h
    · rename_i hh h1
      split at h
      · cases h
      · rename_i l h2
        rw [slice_run hu (fun _ _ e => by cases e)]
        split at h
        · rename_i sz hs
          simp only [Option.some.injEq] at h
          subst h
          cases hx with
          | nilSlice =>
            obtain ⟨g1, g2, hb⟩ := bounds_sound (P := P) (b := true) hlo hhi (Nat.le_refl _) (Nat.le_refl _) h1 h2 w
            obtain rfl : hh = 0 := by omega
            obtain rfl : l = 0 := by omega
            exact ⟨_, .nilSlice, by simp [Instr.slice, und_run hu, hb, sz_run hs]⟩
        · rename_i sz b o hs
          cases hx with
          | slice hρ hc hn =>
            rename_i b' off sl c'
            obtain ⟨g1, g2, hb⟩ := bounds_sound (P := P) (b := true) hlo hhi hn (show c ≤ c' by omega) h1 h2 w
            have hrun : (Instr.slice t (.slice (some ⟨b', off + o, none⟩) n c') lo' hi' none).run P w =
                .ok (.slice (if c' = l then some ⟨b', off + o, none⟩ else some ⟨b', off + o + l * sz, none⟩) (hh - l) (c' - l)) w := by
              simp [Instr.slice, und_run hu, hb, sz_run hs, addr_add]
            split at h
            · rename_i hl
              subst hl
              simp only [Option.some.injEq] at h
              subst h
              refine ⟨_, .slice hρ hc g2, ?_⟩
              rw [hrun]
              split <;> simp
            · split at h
              · rename_i hl
                simp only [Option.some.injEq] at h
                subst h
                refine ⟨.slice (some ⟨b', off + (o + l * sz), none⟩) (hh - l) (c' - l), .slice hρ (by omega) (by omega), ?_⟩
                rw [hrun, if_neg (by omega), Nat.add_assoc]
              · split at h
                · rename_i hl
                  simp only [Option.some.injEq] at h
                  subst h
                  subst hl
                  refine ⟨_, .lost (if c' = hh then ⟨b', off + o, none⟩ else ⟨b', off + o + hh * sz, none⟩) (c' - hh), ?_⟩
                  rw [hrun]
                  split <;> simp
                · cases h
        · rename_i sz b o q hs
          split at h
          · rename_i hl
            subst hl
            simp only [Option.some.injEq] at h
            subst h
            cases hx with
            | lost a c' =>
              obtain ⟨g1, g2, hb⟩ := bounds_sound (P := P) (b := true) hlo hhi (Nat.le_refl 0) (Nat.zero_le c') h1 h2 w
              obtain rfl : hh = 0 := by omega
              refine ⟨_, .lost a c', ?_⟩
              simp [Instr.slice, und_run hu, hb, sz_run hs, Addr.add]
          · cases h
        · cases h
  · rename_i n e b o hu
    split at h
    · cases h
    · rename_i hh h1
      split at h
      · cases h
      · rename_i l h2
        split at h
        · cases h
        · rename_i sz hs
          simp only [Option.some.injEq] at h
          subst h
          obtain ⟨b', off, sl, hρ, rfl⟩ := hx.ptr_inv
          obtain ⟨g1, g2, hb⟩ := bounds_sound (P := P) (b := false) hlo hhi (Nat.le_refl n) (Nat.le_refl n) h1 h2 w
          have hrun : (Instr.sliceAt t (.pointer (some ⟨b', off + o, none⟩)) lo' hi' none).run P w =
              .ok (.slice (some (if n = l then ⟨b', off + o, none⟩ else ⟨b', off + o + l * sz, none⟩)) (hh - l) (n - l)) w := by
            simp [Instr.sliceAt, und_run hu, hb, sz_run hs, Instr.sureAddr, addr_add]
          by_cases hl : n = l
          · rw [if_pos hl]
            refine ⟨.slice (some ⟨b', off + o, none⟩) (hh - l) (n - l), .slice hρ (.inl rfl) (by omega), ?_⟩
            rw [hrun, if_pos hl]
          · rw [if_neg hl]
            refine ⟨.slice (some ⟨b', off + (o + l * sz), none⟩) (hh - l) (n - l), .slice hρ (.inl rfl) (by omega), ?_⟩
            rw [hrun, if_neg hl, Nat.add_assoc]
  · cases h

theorem slice3A_sound {t : TypeId} {x x' hi hi' mx mx' : Value} {lo lo' : Option Value} {v : Value} (hx : VRel σ ρ x x') (hlo : ORelV σ ρ lo lo') (hhi : VRel σ ρ hi hi') (hmx : VRel σ ρ mx mx') (h : slice3A P t x lo hi mx = some v) (w : World) :
    ∃ v', VRel σ ρ v v' ∧ (Instr.sliceAt t x' lo' (some hi') (some mx')).run P w = .ok v' w := by
  have one : ∀ {y y' : Value}, VRel σ ρ y y' → ∀ x, some y = some x → ∃ x', some y' = some x' ∧ VRel σ ρ x x' := fun hy x e => by cases e; exact ⟨_, rfl, hy⟩
  unfold slice3A at h
  split at h
  · rename_i e a n c hu
    split at h
    · cases h
    · rename_i k h0
      split at h
      · cases h
      · rename_i hh h1
        split at h
        · cases h
        · rename_i l h2
          rw [slice_run hu (fun _ _ e => by cases e) (mx := some mx')]
          have bounds : ∀ c', c ≤ c' → k ≤ c ∧ hh ≤ k ∧ l ≤ hh ∧ (Instr.sliceBounds true n c' lo' (some hi') (some mx')).run P w = .ok (l, hh, k) w := by
            intro c' hc
            rcases bnd_sound (P := P) (code := .slice3Acap) (v' := some mx') (one hmx) (fun e => by cases e) h0 hc w with ⟨e, _⟩ | ⟨y, e1, g1, g2⟩
            · cases e
            · cases e1
              rcases bnd_sound (P := P) (code := .slice3B) (v' := some hi') (one hhi) (fun e => by cases e) h1 (Nat.le_refl k) w with ⟨e, _⟩ | ⟨y, e1, g3, g4⟩
              · cases e
              · cases e1
                rcases bnd_sound (P := P) (code := .slice3C) hlo.2 hlo.1 h2 (Nat.le_refl hh) w with ⟨_, k2, k3⟩ | ⟨y', k2, k3, k4⟩
                · subst k2 k3
                  exact ⟨g1, g3, Nat.zero_le _, by simp [Instr.sliceBounds, g2, g4]⟩
                · subst k2
                  exact ⟨g1, g3, k3, by simp [Instr.sliceBounds, g2, g4, k4]⟩
          split at h
          · rename_i sz hs
            simp only [Option.some.injEq] at h
            subst h
            cases hx with
            | nilSlice =>
              obtain ⟨g1, g2, g3, hb⟩ := bounds 0 (Nat.le_refl 0)
              obtain rfl : k = 0 := by omega
              obtain rfl : hh = 0 := by omega
              obtain rfl : l = 0 := by omega
              exact ⟨_, .nilSlice, by simp [Instr.slice, und_run hu, hb, sz_run hs]⟩
          · rename_i sz b o hs
            simp only [Option.some.injEq] at h
            subst h
            cases hx with
            | slice hρ hc hn =>
              rename_i b' off sl c'
              obtain ⟨g1, g2, g3, hb⟩ := bounds c' (by omega)
              by_cases hl : k = l
              · subst hl
                refine ⟨.slice (some ⟨b', off + o, none⟩) (hh - k) (k - k), ?_, ?_⟩
                · rw [if_pos rfl]
                  exact .slice hρ (.inl rfl) (by omega)
                · simp [Instr.slice, und_run hu, hb, sz_run hs]
              · refine ⟨.slice (some ⟨b', off + (o + l * sz), none⟩) (hh - l) (k - l), ?_, ?_⟩
                · rw [if_neg hl]
                  exact .slice hρ (.inl rfl) (by omega)
                · simp [Instr.slice, und_run hu, hb, sz_run hs, addr_add, hl, Nat.add_assoc]
          · cases h
  · cases h

theorem slice3_sound {o' : Oper} {t : TypeId} {x hi mx : Operand} {lo : Option Operand} {v : Value} {w : World} (ho : o'.op = .slice t x lo (some hi) (some mx)) (hr : ∀ x ∈ o'.op.operands.toList, VRel σ ρ (r x) (r' x))
    (h : slice3A P t (r x) (lo.map r) (r hi) (r mx) = some v) : Gives σ P ρ o' r' w v := by
  rw [ho] at hr
  have hx := hr x (by simp [Op.operands])
  have h1 : ORelV σ ρ (lo.map r) (lo.map r') := .of fun y hy => hr y (by subst hy; simp [Op.operands])
  obtain ⟨v', hv, hrun⟩ := slice3A_sound hx h1 (hr hi (by simp [Op.operands])) (hr mx (by simp [Op.operands])) h w
  exact ⟨v', hv, by simp [execOp, ho, hrun]⟩

theorem slice_sound {o' : Oper} {t : TypeId} {x : Operand} {lo hi : Option Operand} {v : Value} {w : World} (ho : o'.op = .slice t x lo hi none) (hr : ∀ x ∈ o'.op.operands.toList, VRel σ ρ (r x) (r' x))
    (h : sliceA P t (r x) (lo.map r) (hi.map r) = some v) : Gives σ P ρ o' r' w v := by
  rw [ho] at hr
  have hx := hr x (by simp [Op.operands])
  have h1 : ORelV σ ρ (lo.map r) (lo.map r') := .of fun y hy => hr y (by subst hy; simp [Op.operands])
  have h2 : ORelV σ ρ (hi.map r) (hi.map r') := .of fun y hy => hr y (by subst hy; simp [Op.operands])
  obtain ⟨v', hv, hrun⟩ := sliceA_sound hx h1 h2 h w
  exact ⟨v', hv, by simp [execOp, ho, hrun]⟩

theorem parts_rel {parts : Array (Nat × Operand)} (h : ∀ p ∈ parts.toList, VRel σ ρ (r p.2) (r' p.2)) :
    (partsOf r parts).length = (parts.map fun p => (p.1, r' p.2)).toList.length ∧
    ∀ (i : Nat) (p : Nat × Value), (partsOf r parts)[i]? = some p → ∃ v', (parts.map fun p => (p.1, r' p.2)).toList[i]? = some (p.1, v') ∧ VRel σ ρ p.2 v' := by
  rw [Array.toList_map]
  unfold partsOf
  refine ⟨by simp, fun i p hp => ?_⟩
  rw [List.getElem?_map] at hp ⊢
  cases hq : parts.toList[i]? with
  | none => rw [hq] at hp; cases hp
  | some q =>
    rw [hq] at hp
    simp only [Option.map_some, Option.some.injEq] at hp
    subst hp
    exact ⟨r' q.2, rfl, h q (List.mem_of_getElem? hq)⟩

theorem places_run (w : World) : ∀ (l : List Field), (l.map fun f => (szOf P f.type).map fun s => (f.offset, s)).all (·.isSome) = true →
    ∃ ps : List (Nat × Nat), (l.mapM fun f => Prod.mk f.offset <$> sizeOf f.type).run P w = .ok ps w ∧ (l.map fun f => (szOf P f.type).map fun s => (f.offset, s)) = ps.map some := by
  intro l
  induction l with
  | nil => intro _; exact ⟨[], rfl, rfl⟩
  | cons f l ih =>
    intro h
    simp only [List.map_cons, List.all_cons, Bool.and_eq_true] at h
    cases hs : szOf P f.type with
    | none => rw [hs] at h; simp at h
    | some s =>
      obtain ⟨ps, h1, h2⟩ := ih h.2
      exact ⟨(f.offset, s) :: ps, by simp [List.mapM_cons, sz_run hs, h1], by simp [hs, h2]⟩

theorem places_at {fs : Array Field} (w : World) (h : (structPlaces P fs).all (·.isSome) = true) :
    ∃ ps : List (Nat × Nat), (fs.toList.mapM fun f => Prod.mk f.offset <$> sizeOf f.type).run P w = .ok ps w ∧ ∀ (i : Nat) (p : Nat × Nat), ((structPlaces P fs)[i]?).join = some p → ps.toArray[i]? = some p := by
  obtain ⟨ps, h1, h2⟩ := places_run w fs.toList h
  refine ⟨ps, h1, fun i p hp => ?_⟩
  have : structPlaces P fs = ps.map some := h2
  rw [this, List.getElem?_map] at hp
  cases hq : ps[i]? with
  | none => rw [hq] at hp; cases hp
  | some q => rw [hq] at hp; simpa [hq] using hp

theorem build_sound {o' : Oper} {t : TypeId} {parts : Array (Nat × Operand)} {v : Value} {w : World} (ho : o'.op = .build t parts) (hr : ∀ x ∈ o'.op.operands.toList, VRel σ ρ (r x) (r' x))
    (h : buildA P t (partsOf r parts) = some v) : Gives σ P ρ o' r' w v := by
  rw [ho] at hr
  obtain ⟨hl1, hl2⟩ := parts_rel (r := r) (r' := r') (parts := parts) fun p hp => hr p.2 (by simp only [Op.operands]; exact List.mem_map.2 ⟨p, hp, rfl⟩)
  unfold buildA at h
  split at h
  · rename_i z fs hz hu
    split at h
    · rename_i hc
      simp only [Bool.and_eq_true] at hc
      obtain ⟨ps, hps, hpp⟩ := places_at w hc.2
      simp only [Option.map_eq_some_iff] at h
      obtain ⟨out, hf, rfl⟩ := h
      have hzr := (plain_refl (σ := σ) ρ hc.1).cells (plain_noJunk hc.1)
      obtain ⟨out', ho', hf'⟩ := fill_sound (place' := (ps.toArray[·]?)) hzr (fun i p hp => hpp i p hp) hl1 hl2 hf
      refine ⟨.agg out', LRel.agg (by simpa using ho'), ?_⟩
      simp only [Array.toArray_toList, Array.toList_map] at hf'
      simp only [List.getElem?_toArray] at hf'
      simp [execOp, ho, Instr.build, zero_run hz, und_run hu, Array.mapM_eq_mapM_toList, hps, hf']
    · cases h
  · rename_i z n e hz hu
    split at h
    · rename_i s hs
      split at h
      · rename_i hc
        simp only [Option.map_eq_some_iff] at h
        obtain ⟨out, hf, rfl⟩ := h
        have hzr := (plain_refl (σ := σ) ρ hc).cells (plain_noJunk hc)
        obtain ⟨out', ho', hf'⟩ := fill_sound (place' := fun i => some (i * s, s)) hzr (fun i p hp => hp) hl1 hl2 hf
        refine ⟨.agg out', LRel.agg (by simpa using ho'), ?_⟩
        simp only [Array.toArray_toList, Array.toList_map] at hf'
        simp [execOp, ho, Instr.build, zero_run hz, und_run hu, sz_run hs, hf']
      · cases h
    · cases h
  · cases h

end Go.Ab
