/- An interpreter of our own: append, copy; all effects. -/
import Derived.Test.YtijnhaadhgoloaaGreatDoorAbI
namespace Go.Ab
variable {σ : Sig} {P : Program} {ρ : Rho} {r r' : Operand → Value}

theorem src_sound {sz k : Nat} {x x' : Value} {m : Mem} {new : List Value} {w : World} (hR : Rel σ ρ m w) (hx : VRel σ ρ x x') (h : srcA sz x m = some (new, k)) :
    ∃ new' : List Value, LRel σ ρ new new' ∧ (∀ w', (Builtin.lenOf x').run P w' = .ok k w') ∧ (Builtin.firstCells sz k x').run P w = .ok new'.toArray w ∧ (k = 0 → new = []) := by
  unfold srcA at h
  split at h
  · simp only [Option.some.injEq, Prod.mk.injEq] at h
    obtain ⟨rfl, rfl⟩ := h
    cases hx
    exact ⟨[], LRel.nil ρ, fun w' => rfl, rfl, fun _ => rfl⟩
  · rename_i b o n c
    obtain ⟨b', off, sl, c', hρ, rfl, _, _⟩ := hx.slice_inv
    split at h
    · rename_i cs rw_ s2 hm
      simp only [Option.map_eq_some_iff, Prod.mk.injEq] at h
      obtain ⟨l, hsub, rfl, rfl⟩ := h
      obtain ⟨cs', hl, hcell⟩ := (hR.obj b _ _ hm hρ : CellsRel σ ρ w (b', off, sl) cs.list rw_ s2).list
      rw [Cells.sub_eq] at hsub
      obtain ⟨out', ho1, ho2, ho3⟩ := sub_rel hl hsub
      refine ⟨out', ho1, fun w' => rfl, ?_, fun hk => ?_⟩
      · have hrun := loadCells_run (P := P) (a := ⟨b', off + o, none⟩) (w := w) out' 0 #[] (fun j v hj => by
          rw [addr_add _ rfl]
          have := hcell (o + j) v (ho3 j v hj)
          simpa [Nat.add_assoc] using this)
        rw [ho2] at hrun
        simpa [Builtin.firstCells, loadCells] using hrun
      · subst hk
        simp only [Nat.zero_mul] at ho2
        exact List.eq_nil_of_length_eq_zero (by rw [ho1.1, ho2])
    · cases h
  · simp only [Option.some.injEq, Prod.mk.injEq] at h
    obtain ⟨rfl, rfl⟩ := h
    cases hx with
    | lost a c' => exact ⟨[], LRel.nil ρ, fun w' => rfl, by simp [Builtin.firstCells, loadCells, loadCellsFrom], fun _ => rfl⟩
  · rename_i s
    simp only [Option.some.injEq, Prod.mk.injEq] at h
    obtain ⟨rfl, rfl⟩ := h
    obtain rfl := hx.string_inv
    refine ⟨_, plainL s, fun w' => rfl, ?_, fun hk => ?_⟩
    · simp only [Builtin.firstCells, Sem.run_pure, Result.ok.injEq, and_true]
      have : s.extract 0 s.size = s := by simp
      rw [this]
      simp [← Array.toList_map]
    · have : s.data.toList.length = 0 := by simpa using hk
      rw [List.eq_nil_of_length_eq_zero this]
      rfl
  · cases h
where
  plainL (s : ByteArray) : LRel σ ρ (s.data.toList.map fun b => Value.int .u8 b.toNat) (s.data.toList.map fun b => Value.int .u8 b.toNat) := by
    induction s.data.toList with
    | nil => exact LRel.nil ρ
    | cons b l ih => exact LRel.cons (.int _ _) ih

/-- What is behind an append. -/
def AppPost (σ : Sig) (P : Program) (ρ : Rho) (m : Mem) (w : World) (id : Nat) (at_ : Array TypeId) (ty : TypeId) (args : Array Value) (v : Value) (m' : Mem) : Prop :=
  ∃ v' w' ρ', (Builtin.append_ at_ ty args).run P w = .ok v' w' ∧ VRel σ ρ' v v' ∧ Post σ ρ m w ρ' m' w' ∧ OldBut m.next id ρ ρ'

theorem app_fits {at_ : Array TypeId} {ty ts tx e : TypeId} {d : TypeDesc} {i : TypeInfo} {args : Array Value} {base : Option Addr} {n c k : Nat} {x : Value} {w : World} {new' : List Value}
    (h0 : at_[0]? = some ts) (h1 : at_[1]? = some tx) (hu : P.underlying ts = some (.slice e)) (hux : P.underlying tx = some d) (hd : ∀ q, d ≠ .int q) (hi : P.info? e = some i)
    (ha0 : args[0]? = some (.slice base n c)) (ha1 : args[1]? = some x) (hk : ∀ w', (Builtin.lenOf x).run P w' = .ok k w') (hc : n + k ≤ c) (hf : (Builtin.firstCells i.size k x).run P w = .ok new'.toArray w) :
    (Builtin.append_ at_ ty args).run P w = (match base with | some a => (storeCells (a.add (n * i.size)) new').run P w | none => .ok () w).andThen fun _ w' => .ok (.slice base (n + k) c) w' := by
  have hsz : ∀ w, (sizeOf e).run P w = .ok i.size w := fun w => by simp [sizeOf, info_run hi]
  cases base with
  | none => simp [Builtin.append_, h0, h1, ha0, ha1, und_run hu, und_run hux, hsz, hk, hc, hf]
  | some a => simp [Builtin.append_, h0, h1, ha0, ha1, und_run hu, und_run hux, hsz, hk, hc, hf]

theorem app_grows {at_ : Array TypeId} {ty ts tx e : TypeId} {d : TypeDesc} {i : TypeInfo} {z : Value} {args : Array Value} {base : Option Addr} {n c k : Nat} {x : Value} {w : World} {old' new' : List Value}
    (h0 : at_[0]? = some ts) (h1 : at_[1]? = some tx) (hu : P.underlying ts = some (.slice e)) (hux : P.underlying tx = some d) (hd : ∀ q, d ≠ .int q) (hi : P.info? e = some i) (hz : zeroOf P e = some z)
    (ha0 : args[0]? = some (.slice base n c)) (ha1 : args[1]? = some x) (hk : ∀ w', (Builtin.lenOf x).run P w' = .ok k w') (hc : c < n + k) (hb : (n + k) * i.bytes ≤ 2 ^ 40) (hn : n + k ≤ 2 ^ 40)
    (ho : (Builtin.firstCells i.size n (.slice base n c)).run P w.drew = .ok old'.toArray w.drew) (hf : (Builtin.firstCells i.size k x).run P w.drew = .ok new'.toArray w.drew) :
    (Builtin.append_ at_ ty args).run P w = .ok (.slice (some ⟨w.heap.size, 0, none⟩) (n + k) (grownCap w (n + k) c e))
      (w.drew.alloc (.cells (old'.toArray ++ new'.toArray ++ Builtin.zeroCells z.cells (grownCap w (n + k) c e - (n + k))) e)) := by
  have hsz : ∀ w, (sizeOf e).run P w = .ok i.size w := fun w => by simp [sizeOf, info_run hi]
  have hc' : ¬ n + k ≤ c := by omega
  have h63 : ¬ (9223372036854775807 < ((n : Int) + (k : Int))) := by omega
  have h48 : ¬ (281474976710656 < Builtin.nextslicecap (n + k) c * i.bytes) := by
    have := growslice_fits (need := n + k) (old := c) (bytes := i.bytes) hc (by omega)
    omega
  have hzz : ∀ w, (zeroValue e).run P w = .ok z w := fun w => zero_run hz w
  simp [Builtin.append_, h0, h1, ha0, ha1, und_run hu, und_run hux, hsz, hk, hc', hf, ho, info_run hi, h63, h48, hzz, newRow, Question.forced, grownCap]
  congr 2
  apply Array.toList_inj.1
  simp

theorem grownCap_le (w : World) (need old : Nat) (e : TypeId) : need ≤ grownCap w need old e := by
  simp only [grownCap, Question.cut]
  omega

/-- An abstract block is given up. -/
theorem Rel.kill {m : Mem} {w : World} (hR : Rel σ ρ m w) (b : Nat) : Rel σ ρ (m.kill b) w := by
  have key : ∀ c o, (m.kill b).get c = some o → m.get c = some o := fun c o h => by
    rw [Mem.get_kill] at h
    split at h
    · cases h
    · exact h
  exact ⟨hR.dom, hR.glob, fun c o x hc hx => hR.obj c o x (key c o hc) hx, fun b1 b2 o1 o2 x1 x2 hne h1 h2 g1 g2 hw => hR.inj b1 b2 o1 o2 x1 x2 hne (key _ _ h1) (key _ _ h2) g1 g2 hw, fun c hc => by
    rw [Mem.get_kill]
    split
    · rfl
    · exact hR.fresh c hc⟩
theorem Post.kill {m : Mem} {w : World} (hR : Rel σ ρ m w) (b : Nat) : Post σ ρ m w ρ (m.kill b) w :=
  ⟨hR.kill b, Ext.refl ρ, Nat.le_refl _, Nat.le_refl _, rfl, rfl, rfl, fun _ _ _ => rfl, fun c o x hc hx _ => by
    rw [Mem.get_kill] at hc
    split at hc
    · cases hc
    · exact ⟨c, o, x, hc, hx, rfl, id⟩⟩

/-- A new abstract block takes over the place of one that is given up. -/
theorem Post.take {m : Mem} {w w' : World} (hR : Rel σ ρ m w) {b id : Nat} {ob ob' : AObj} {x y : Nat × Nat × Nat} {o : Obj} (hm : m.get b = some ob) (hρ : ρ b = some x) (hw : wr ob = true) (hid : ρ id = none) (hlt : id < m.next)
    (hy : y.1 = x.1) (ht : Turned w w' x.1 o) (hob : ORel σ (upd ρ id y) w' y ob') : Post σ ρ m w (upd ρ id y) ((m.kill b).put id ob') w' := by
  have he := upd_ext hid y
  have hne : id ≠ b := fun e => by rw [e, hρ] at hid; cases hid
  have hge : 64 ≤ id := by
    rcases Nat.lt_or_ge id 64 with hl | hl
    · rw [hR.glob id hl] at hid; cases hid
    · exact hl
  have key : ∀ {c oc z}, ((m.kill b).put id ob').get c = some oc → upd ρ id y c = some z → (c = id ∧ oc = ob' ∧ z = y) ∨ (c ≠ id ∧ c ≠ b ∧ m.get c = some oc ∧ ρ c = some z) := fun {c oc z} hc hz => by
    rw [Mem.get_put] at hc
    by_cases e : c = id
    · subst e
      rw [if_pos rfl] at hc
      cases hc
      rw [upd_same] at hz
      cases hz
      exact .inl ⟨rfl, rfl, rfl⟩
    · rw [if_neg e, Mem.get_kill] at hc
      split at hc
      · cases hc
      · rename_i e2
        exact .inr ⟨e, e2, hc, by simpa [upd, e] using hz⟩
  refine ⟨⟨fun c hc => ?_, fun g hg => ?_, fun c oc z hc hz => ?_, fun b1 b2 o1 o2 x1 x2 hne' h1 h2 g1 g2 hww => ?_, fun c hc => ?_⟩, he, Nat.le_refl _, Nat.le_of_eq ht.size.symm, ht.os, ht.tape, ht.output, fun k _ hf => ?_, fun c oc z hc hz hlt' => ?_⟩
  · have : c ≠ id := by simp at hc; omega
    simp only [upd, this, if_false]
    exact hR.dom c hc
  · have : g ≠ id := by omega
    simp only [upd, this, if_false]
    exact hR.glob g hg
  · rcases key hc hz with ⟨rfl, rfl, rfl⟩ | ⟨_, k2, k3, k4⟩
    · exact hob
    · refine (hR.obj c oc z k3 k4).keep he (ht.far _ ?_)
      exact fun e' => hR.inj b c ob oc x z (fun e'' => k2 e''.symm) hm k3 hρ k4 hw e'.symm
  · rcases key h1 g1 with ⟨rfl, rfl, rfl⟩ | ⟨_, k2, k3, k4⟩
    · rcases key h2 g2 with ⟨rfl, _, _⟩ | ⟨_, j2, j3, j4⟩
      · exact absurd rfl hne'
      · rw [hy]
        exact hR.inj b b2 ob o2 x x2 (fun e => j2 e.symm) hm j3 hρ j4 hw
    · rcases key h2 g2 with ⟨rfl, rfl, rfl⟩ | ⟨_, j2, j3, j4⟩
      · rw [hy]
        exact fun e => hR.inj b b1 ob o1 x x1 (fun e => k2 e.symm) hm k3 hρ k4 hw e.symm
      · exact hR.inj b1 b2 o1 o2 x1 x2 hne' k3 j3 k4 j4 hww
  · rw [Mem.get_put, if_neg (by simp at hc; omega), Mem.get_kill]
    split
    · rfl
    · exact hR.fresh c hc
  · exact ht.far k (fun e => hf b ob x hm hw hρ e.symm)
  · rcases key hc hz with ⟨rfl, rfl, rfl⟩ | ⟨_, k2, k3, k4⟩
    · exact ⟨b, ob, x, hm, hρ, hy.symm, fun _ => hw⟩
    · exact ⟨c, oc, z, k3, k4, rfl, fun hw => hw⟩

theorem all_rel {new new' : List Value} (hn : LRel σ ρ new new') (hall : new.all oneCell = true) : new'.all oneCell = true := by
  rw [List.all_eq_true] at hall ⊢
  intro v hv
  obtain ⟨i, hi⟩ := List.getElem?_of_mem hv
  have hlt : i < new.length := by rw [hn.1]; exact (List.getElem?_eq_some_iff.1 hi).1
  obtain ⟨v', g1, g2⟩ := hn.get? (List.getElem?_eq_getElem hlt)
  rw [hi] at g1
  cases g1
  exact g2.oneCell (hall _ (List.getElem_mem hlt))

theorem append_sound {id : Nat} {at_ : Array TypeId} {ty : TypeId} {args : Array Value} {s s' x x' v : Value} {m m' : Mem} {w : World} (hR : Rel σ ρ m w) (hs : VRel σ ρ s s') (hx : VRel σ ρ x x') (hid : ρ id = none) (hlt : id < m.next)
    (ha0 : args[0]? = some s') (ha1 : args[1]? = some x') (h : appendA P id at_ s x m = some (v, m')) : AppPost σ P ρ m w id at_ ty args v m' := by
  unfold appendA at h
  split at h
  · rename_i ts tx h0 h1
    split at h
    · cases h
    · rename_i e d base n c hni hu hux
      have hd : ∀ q, d ≠ .int q := fun q hq => hni q hq
      split at h
      · cases h
      · rename_i i hi
        split at h
        · cases h
        · rename_i new k hsrc
          obtain ⟨new', hn1, hn2, hn3, hn4⟩ := src_sound (P := P) hR hx hsrc
          obtain ⟨new2, hn1', _, hn3', _⟩ := src_sound (P := P) hR.drew hx hsrc
          split at h
          · rename_i hk0
            split at h
            · rename_i hnc
              simp only [Option.some.injEq, Prod.mk.injEq] at h
              obtain ⟨rfl, rfl⟩ := h
              have hnil := hn4 hk0
              subst hnil
              have : new' = [] := List.eq_nil_of_length_eq_zero (by rw [← hn1.1]; rfl)
              subst this
              have hsv : ∃ base' c', s' = .slice base' n c' ∧ c ≤ c' := by
                cases hs with
                | nilSlice => exact ⟨_, _, rfl, Nat.le_refl _⟩
                | slice _ hc _ => exact ⟨_, _, rfl, by omega⟩
                | lost a c' => exact ⟨_, _, rfl, Nat.zero_le _⟩
              obtain ⟨base', c', rfl, hcc⟩ := hsv
              have hf := app_fits (ty := ty) h0 h1 hu hux hd hi ha0 ha1 hn2 (by omega) hn3
              refine ⟨.slice base' n c', w, ρ, ?_, hs, Post.refl hR, fun _ _ _ h => h⟩
              rw [hf, hk0]
              cases base' <;> rfl
            · cases h
          · rename_i hk0
            split at h
            · cases h
            · rename_i hgood
              simp only [not_or, Bool.not_eq_false, Classical.not_not] at hgood
              obtain ⟨hall, hlen⟩ := hgood
              split at h
              · rename_i hfit
                split at h
                · rename_i b o
                  obtain ⟨b', off, sl, c', hρ, rfl, hcc, hnc⟩ := hs.slice_inv
                  split at h
                  · rename_i cs sz hm
                    split at h
                    · rename_i hbound
                      simp only [Option.some.injEq, Prod.mk.injEq] at h
                      obtain ⟨rfl, rfl⟩ := h
                      have hf := app_fits (ty := ty) h0 h1 hu hux hd hi ha0 ha1 hn2 (by omega) hn3
                      obtain ⟨w', g1, g2⟩ := cells_write (P := P) (o := o + n * i.size) hR hm hρ hn1 (by rw [hlen]; rw [Nat.add_mul] at hbound; omega) hall
                      refine ⟨.slice (some ⟨b', off + o, none⟩) (n + k) c', w', ρ, ?_, .slice hρ hcc hfit, g2, fun _ _ _ h => h⟩
                      rw [hf]
                      simp only [addr_add ⟨b', off + o, none⟩ rfl]
                      simp only [Nat.add_assoc] at g1 ⊢
                      rw [g1]
                      rfl
                    · cases h
                  · cases h
                · cases h
              · rename_i hfit
                split at h
                · cases h
                · rename_i hbnd
                  simp only [not_or, Classical.not_not] at hbnd
                  obtain ⟨hs0, hb40, hn40⟩ := hbnd
                  split at h
                  · cases h
                  · rename_i z hz
                    split at h
                    · cases h
                    · rename_i hzc
                      simp only [not_or, Classical.not_not] at hzc
                      -- the three shapes of the slice
                      have grow : ∀ {base' : Option Addr} {c' : Nat} {old old' : List Value} {mk : Mem} {cg : Cells}, cg.list = old ++ new → args[0]? = some (.slice base' n c') → c' < n + k → LRel σ ρ old old' → old.length = n * i.size →
                          (Builtin.firstCells i.size n (.slice base' n c')).run P w.drew = .ok old'.toArray w.drew → Post σ ρ m w ρ mk w → mk.next = m.next →
                          AppPost σ P ρ m w id at_ ty args (.slice (some ⟨id, 0, none⟩) (n + k) (n + k)) (mk.put id (.cells cg true i.size)) := by
                        intro base' c' old old' mk cg hcg hb hc' ho hol hfo hmk hnext
                        have hg := app_grows (ty := ty) h0 h1 hu hux hd hi hz hb ha1 hn2 hc' hb40 hn40 hfo hn3'
                        have hcap := grownCap_le w (n + k) c' e
                        generalize grownCap w (n + k) c' e = cap at hg hcap
                        have hlr : LRel σ ρ (old ++ new) (old' ++ new2) := ho.append hn1'
                        refine ⟨_, _, upd ρ id (w.drew.heap.size, 0, cap - (n + k)), hg, ?_, ?_, old_upd⟩
                        · have := VRel.slice (σ := σ) (o := 0) (upd_same ρ id (w.drew.heap.size, 0, cap - (n + k))) (c := n + k) (c' := cap) (.inr (by omega)) (Nat.le_refl _)
                          simpa using this
                        · have hmk' : Rel σ ρ mk w.drew := hmk.rel.drew
                          have hpm := Post.make (co := .cells (old'.toArray ++ new2.toArray ++ Builtin.zeroCells z.cells (cap - (n + k))) e) (ob := .cells cg true i.size) (x := (w.drew.heap.size, 0, cap - (n + k))) hmk' hid (by rw [hnext]; exact hlt) rfl ?_
                          · refine (hmk.trans ⟨hmk', Ext.refl ρ, Nat.le_refl _, Nat.le_refl _, rfl, rfl, rfl, fun _ _ _ => rfl, fun b o x hb hx _ => ⟨b, o, x, hb, hx, rfl, fun h => h⟩⟩).trans hpm
                          · show CellsRel _ _ _ _ cg.list true i.size
                            rw [hcg]
                            refine ⟨old'.toArray ++ new2.toArray ++ Builtin.zeroCells z.cells (cap - (n + k)), e, (0, 0), Array.getElem?_push_size, ?_, ⟨fun _ => rfl, fun _ => rfl⟩, fun j hj => ?_⟩
                            · have hl := hlr.1
                              simp only [List.length_append] at hl ⊢
                              have hzl : (Builtin.zeroCells z.cells (cap - (n + k))).size = (cap - (n + k)) * i.size := by simp [Builtin.zeroCells, hzc.2]
                              simp only [Array.size_append, hzl, List.size_toArray]
                              omega
                            · have hj2 : j < (old' ++ new2).length := by rw [← hlr.1]; exact hj
                              rw [getD_toList]
                              simp only [Array.toList_append, Nat.zero_add]
                              rw [List.getD_eq_getElem?_getD (l := old' ++ new2 ++ _), List.getElem?_append_left hj2, ← List.getD_eq_getElem?_getD]
                              exact (hlr.2 j hj).mono (upd_ext hid _)
                      split at h
                      · split at h
                        · rename_i hn0
                          simp only [Option.some.injEq, Prod.mk.injEq] at h
                          obtain ⟨rfl, rfl⟩ := h
                          subst hn0
                          cases hs with
                          | nilSlice =>
                            have := grow (old := []) (old' := []) (mk := m) (cg := .ofList new) (Cells.ofList_list _) ha0 (by omega) (LRel.nil ρ) (by simp) (by simp [Builtin.firstCells]) (Post.refl hR) rfl
                            simpa using this
                        · cases h
                      · rename_i b o
                        obtain ⟨b', off, sl, c', hρ, rfl, hcc, hnc⟩ := hs.slice_inv
                        split at h
                        · rename_i cs sz hm
                          split at h
                          · rename_i hfr
                            obtain ⟨hnc2, hend, hsz⟩ := hfr
                            simp only [Option.some.injEq, Prod.mk.injEq] at h
                            obtain ⟨rfl, rfl⟩ := h
                            subst hsz
                            by_cases hin : n + k ≤ c'
                            · -- in place
                              have hf := app_fits (ty := ty) h0 h1 hu hux hd hi ha0 ha1 hn2 hin hn3
                              obtain ⟨ca, t, fz, q1, q2, q3, q4⟩ := (hR.obj b _ _ hm hρ : CellsRel σ ρ w (b', off, sl) cs.list true i.size)
                              have hcl := cs.list_length
                              rw [q3.1 rfl] at q1
                              simp only at q1 q2 q4
                              have hksl : k * i.size ≤ sl * i.size := Nat.mul_le_mul_right _ (by omega)
                              have hall' := all_rel hn1 hall
                              have hl1 := hn1.1
                              obtain ⟨w', ca', g1, g2, g3⟩ := storeCells_run (P := P) (off := off + o + n * i.size) new' 0 w ca q1 (by omega) hall'
                              rw [Nat.add_zero] at g3
                              have hca : ca'.size = ca.size := by
                                rw [← Array.length_toList, g3]
                                simp [splice]
                                omega
                              refine ⟨.slice (some ⟨b', off + o, none⟩) (n + k) c', w', upd ρ id (b', off + o, sl - k), ?_, ?_, Post.take (y := (b', off + o, sl - k)) hR hm hρ rfl hid hlt rfl g2 (show CellsRel σ (upd ρ id (b', off + o, sl - k)) w' (b', off + o, sl - k) (cs.more o new).list true i.size from (Cells.more_list cs o new).symm ▸ ⟨ca', t, (0, 0), g2.at_, ?_, ⟨fun _ => rfl, fun e => absurd e (by omega)⟩, fun j hj => ?_⟩), old_upd⟩
                              · rw [hf]
                                simp only [addr_add ⟨b', off + o, none⟩ rfl]
                                rw [g1]
                                rfl
                              · have := VRel.slice (σ := σ) (o := 0) (upd_same ρ id (b', off + o, sl - k)) (c := n + k) (c' := c') (.inr (by omega)) (Nat.le_refl _)
                                simpa using this
                              · have e1 : (sl - k) * i.size = sl * i.size - k * i.size := Nat.sub_mul _ _ _
                                simp only [List.length_append, List.length_drop]
                                omega
                              · simp only [List.length_append, List.length_drop] at hj
                                have hcs : ca.toList.length = ca.size := by simp
                                rw [getD_toList, g3]
                                simp only
                                unfold splice
                                rw [List.getD_eq_getElem?_getD (l := _ ++ _ ++ _), three (n := off + o + n * i.size) (by rw [List.length_take]; omega)]
                                by_cases c1 : j < n * i.size
                                · rw [if_pos (by omega), List.getElem?_take_of_lt (by omega)]
                                  rw [List.getD_eq_getElem?_getD, List.getElem?_append_left (by simp; omega), List.getElem?_drop]
                                  have := q4 (o + j) (by omega)
                                  rw [getD_toList, List.getD_eq_getElem?_getD, List.getD_eq_getElem?_getD] at this
                                  rw [show off + o + j = off + (o + j) from by omega]
                                  exact this.mono (upd_ext hid _)
                                · rw [if_neg (by omega), if_pos (by omega)]
                                  rw [List.getD_eq_getElem?_getD, List.getElem?_append_right (by simp; omega)]
                                  have := hn1.at_ (j - n * i.size)
                                  rw [List.getD_eq_getElem?_getD, List.getD_eq_getElem?_getD] at this
                                  rw [show j - (cs.list.drop o).length = j - n * i.size from by rw [List.length_drop]; omega, show off + o + j - (off + o + n * i.size) = j - n * i.size from by omega]
                                  exact this.mono (upd_ext hid _)
                            · obtain ⟨cs', hl, hcell⟩ := (hR.obj b _ _ hm hρ : CellsRel σ ρ w (b', off, sl) cs.list true i.size).list
                              have hcl := cs.list_length
                              have hlo := hl.drop o
                              refine grow (old' := cs'.drop o) (mk := m.kill b) (Cells.more_list cs o new) ha0 (by omega) hlo (by rw [List.length_drop]; omega) ?_ (Post.kill hR b) rfl
                              have hrun := loadCells_run (P := P) (a := ⟨b', off + o, none⟩) (w := w.drew) (cs'.drop o) 0 #[] (fun j v hj => by
                                rw [addr_add _ rfl]
                                rw [List.getElem?_drop] at hj
                                have := hcell (o + j) v hj
                                simpa [Nat.add_assoc] using this)
                              have hlen2 : (cs'.drop o).length = n * i.size := by rw [← hlo.1, List.length_drop]; omega
                              rw [hlen2] at hrun
                              simpa [Builtin.firstCells, loadCells] using hrun
                          · cases h
                        · cases h
                      · cases h
    · cases h
  · cases h

end Go.Ab
