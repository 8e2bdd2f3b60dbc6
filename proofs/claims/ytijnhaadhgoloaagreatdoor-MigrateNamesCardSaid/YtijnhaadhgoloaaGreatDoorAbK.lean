/- An interpreter of our own: copy; all effects together. -/
import Derived.Test.YtijnhaadhgoloaaGreatDoorAbJ
namespace Go.Ab
variable {σ : Sig} {P : Program} {ρ : Rho} {r r' : Operand → Value}

theorem copy_sound {at_ : Array TypeId} {ty : TypeId} {args : Array Value} {s s' x x' v : Value} {m m' : Mem} {w : World} (hR : Rel σ ρ m w) (hs : VRel σ ρ s s') (hx : VRel σ ρ x x')
    (ha0 : args[0]? = some s') (ha1 : args[1]? = some x') (h : copyA P at_ s x m = some (v, m')) : ∃ w', (Builtin.copy_ at_ ty args).run P w = .ok v w' ∧ VRel σ ρ v v ∧ Post σ ρ m w ρ m' w' := by
  unfold copyA at h
  split at h
  · rename_i td hat
    split at h
    · rename_i e base n c a k ck hu
      split at h
      · rename_i sz hsz
        simp only at h
        have hsv : ∃ base' c', s' = .slice base' n c' := by cases hs <;> exact ⟨_, _, rfl⟩
        have hxv : ∃ a' ck', x' = .slice a' k ck' := by cases hx <;> exact ⟨_, _, rfl⟩
        obtain ⟨a', ck', rfl⟩ := hxv
        split at h
        · rename_i hq
          simp only [Option.some.injEq, Prod.mk.injEq] at h
          obtain ⟨rfl, rfl⟩ := h
          obtain ⟨base', c', rfl⟩ := hsv
          refine ⟨w, ?_, .int _ _, Post.refl hR⟩
          have hfc : ∀ w, (Builtin.firstCells sz 0 (.slice a' k ck')).run P w = .ok #[] w := fun w => by
            cases a' <;> simp [Builtin.firstCells, loadCells, loadCellsFrom]
          have hl : ∀ w, (Builtin.lenOf (.slice a' k ck')).run P w = .ok k w := fun w => rfl
          cases base' <;> simp [Builtin.copy_, hat, ha0, ha1, und_run hu, sz_run hsz, hl, hq, hfc, storeCells, goInt]
        · rename_i hq
          have hqk : Nat.min k n ≤ k := Nat.min_le_left _ _
          have hx2 : VRel σ ρ (.slice a (Nat.min k n) ck) (.slice a' (Nat.min k n) ck') := by
            cases hx with
            | nilSlice => exact absurd (Nat.eq_zero_of_le_zero hqk) hq
            | slice hρ hc hn => exact .slice hρ hc (by omega)
            | lost => exact absurd (Nat.eq_zero_of_le_zero hqk) hq
          split at h
          · rename_i new k2 hsrc
            obtain ⟨new', hn1, _, hn3, _⟩ := src_sound (P := P) hR hx2 hsrc
            have hk2 : k2 = Nat.min k n := by
              unfold srcA at hsrc
              split at hsrc
              · rename_i e0
                injection e0 with _ e1 _
                exact absurd e1 hq
              · rename_i e0
                injection e0 with _ e1 _
                subst e1
                split at hsrc
                · simp only [Option.map_eq_some_iff, Prod.mk.injEq] at hsrc
                  obtain ⟨_, _, _, rfl⟩ := hsrc
                  rfl
                · cases hsrc
              · rename_i e0
                injection e0 with _ e1 _
                exact absurd e1 hq
              · rename_i e0; cases e0
              · cases hsrc
            subst hk2
            split at h
            · rename_i b o
              obtain ⟨b', off, sl, c', hρ, rfl, _, _⟩ := hs.slice_inv
              split at h
              · rename_i cs s2 hm
                split at h
                · rename_i hb
                  obtain ⟨hb1, hb2, hb3⟩ := hb
                  simp only [Option.some.injEq, Prod.mk.injEq] at h
                  obtain ⟨rfl, rfl⟩ := h
                  obtain ⟨w', g1, g2⟩ := cells_write (P := P) (o := o) hR hm hρ hn1 (by omega) hb2
                  refine ⟨w', ?_, .int _ _, g2⟩
                  have hfc : (Builtin.firstCells sz (Nat.min k n) (.slice a' k ck')).run P w = .ok new'.toArray w := by
                    rw [← hn3]
                    cases a' <;> rfl
                  have hl : ∀ w, (Builtin.lenOf (.slice a' k ck')).run P w = .ok k w := fun w => rfl
                  simp only at g1
                  simp [Builtin.copy_, hat, ha0, ha1, und_run hu, sz_run hsz, hl, hfc, g1, goInt]
                · cases h
              · cases h
            · cases h
          · cases h
      · cases h
    · cases h
  · cases h

theorem clear_sound {at_ : Array TypeId} {ty : TypeId} {args : Array Value} {x x' : Value} {m m' : Mem} {w : World} (hR : Rel σ ρ m w) (hx : VRel σ ρ x x') (ha : args[0]? = some x') (h : clearA P at_ x m = some m') :
    ∃ w', (Builtin.clear_ at_ ty args).run P w = .ok (.tuple #[]) w' ∧ Post σ ρ m w ρ m' w' := by
  unfold clearA at h
  split at h
  · rename_i t hat
    split at h
    · rename_i hu
      cases hx
      cases h
      exact ⟨w, by simp [Builtin.clear_, hat, ha, und_run hu], Post.refl hR⟩
    · rename_i e n c hu
      have : ∃ n' c', x' = .slice none n' c' := by cases hx; exact ⟨_, _, rfl⟩
      obtain ⟨n', c', rfl⟩ := this
      cases h
      exact ⟨w, by simp [Builtin.clear_, hat, ha, und_run hu], Post.refl hR⟩
    · rename_i e b o n c hu
      obtain ⟨b', off, sl, c', hρ, rfl, _, _⟩ := hx.slice_inv
      split at h
      · rename_i hn
        subst hn
        cases h
        exact ⟨w, by simp [Builtin.clear_, hat, ha, und_run hu], Post.refl hR⟩
      · rename_i hn
        split at h
        · rename_i z cs sz hz hm
          split at h
          · rename_i hb
            obtain ⟨hb1, hb2, hb3, hb4⟩ := hb
            cases h
            have hzr := zeros_rel (σ := σ) (ρ := ρ) (n := n * z.cells.size) hb1 rfl hb2
            have hlen : (zeros z.cells.toList (n * z.cells.size)).length = n * z.cells.size := by simp [zeros, Cells.zeros1]
            obtain ⟨w', g1, g2⟩ := cells_write (P := P) (o := o) hR hm hρ hzr (by omega) hb4
            refine ⟨w', ?_, g2⟩
            simp only at g1
            have hn' : ∃ k, n = k + 1 := ⟨n - 1, by omega⟩
            obtain ⟨k, rfl⟩ := hn'
            simp [Builtin.clear_, hat, ha, und_run hu, zero_run hz, Builtin.zeroCells] at g1 ⊢
            rw [g1]
            rfl
          · cases h
        · cases h
    · rename_i b hu
      split at h
      · rename_i es hm
        cases h
        cases hx with
        | map hρ =>
          rename_i b' off sl
          obtain ⟨es', clock, h1, _, _⟩ := hR.obj b _ _ hm hρ
          refine ⟨w.putObj b' (.map #[] clock), ?_, Post.turn hR hm hρ rfl (putObj_turned h1) ⟨#[], clock, (putObj_turned h1).at_, MapKept.stamped_empty clock, rfl, fun i e he => by simp at he⟩⟩
          simp [Builtin.clear_, hat, ha, und_run hu, getObj, setObj, Sem.run, h1, World.putObj, Result.andThen]
      · cases h
    · cases h
  · cases h

theorem callFunc_run {f : FuncId} {args : Array Value} {w : World} (h : callable P f = true) : (callFunc f args).run P w = .ok (.enter f args) w := by
  unfold callable at h
  cases hf : P.funcs[f]? with
  | none => rw [hf] at h; simp at h
  | some fn =>
    rw [hf] at h
    simp only [Bool.and_eq_true, bne_iff_ne, ne_eq] at h
    obtain ⟨h1, h2⟩ := h
    cases hb : fn.body with
    | none => rw [hb] at h1; simp at h1
    | some c => simp [callFunc, hf, h2, hb]

theorem method_run {t : TypeId} {v : Value} {name : String} {f : FuncId} {n : Nat} {w : World} (h : methodA P t name = some f) : (method (n + 1) t v name).run P w = .ok (f, v) w := by
  unfold methodA at h
  split at h
  · rename_i i hi
    split at h
    · rename_i m hm
      split at h
      · rename_i hp
        have hpath : m.path.toList = [] := List.isEmpty_iff.1 hp
        split at h
        · rename_i g e hf hu
          simp only [Option.some.injEq] at h
          subst h
          simp [method, info_run hi, hm, hpath, follow, hf, receiverAt, und_run hu, Place.get]
        · cases h
        · rename_i g d hne hf hu
          simp only [Option.some.injEq] at h
          subst h
          simp [method, info_run hi, hm, hpath, follow, hf, receiverAt, und_run hu, Place.get]
        · cases h
      · cases h
    · cases h
  · cases h

/-- What is shown of an operation with an effect. -/
def EffPost (σ : Sig) (P : Program) (ρ : Rho) (m : Mem) (w : World) (o' : Oper) (r' : Operand → Value) (id : Nat) (m' : Mem) : Req → Prop
  | .val v => GivesM σ P ρ m w o' r' id v m'
  | .call f args => m' = m ∧ callable P f = true ∧ ∃ args' : Array Value, LRel σ ρ args args'.toList ∧ (execOp r' o').run P w = .ok (.enter f args') w
  | .round l args => m' = m ∧ ∃ (l' off sl : Nat) (args' : Array Value), ρ l = some (l', off, sl) ∧ LRel σ ρ args args'.toList ∧ (execOp r' o').run P w = (Instr.yield l' args').run P w

theorem resolve_builtin2 {o' : Oper} {c : Call} {b : Builtin} {s : Sem Value} {v : Value} {w w' : World} (ho : o'.op = .call c) (hc : c.callee = .builtin b)
    (hb : ∀ cs, builtin b c.argTypes o'.type cs (c.args.map r') = (do pure (.value (← s)))) (hs : s.run P w = .ok v w') : (execOp r' o').run P w = .ok (.value v) w' := by
  simp [execOp, ho, resolve, hc, invoke, hb, hs]

theorem eff_sound {o : SOp} {o' : Oper} {q : Req} {m m' : Mem} {w : World} {id : Nat} (h1 : o'.op = o.op) (hr : ∀ x ∈ o.op.operands.toList, VRel σ ρ (r x) (r' x)) (hR : Rel σ ρ m w) (hid : ρ id = none) (hlt : id < m.next)
    (h : effA P id o r m = some (q, m')) : EffPost σ P ρ m w o' r' id m' q := by
  rw [← h1] at hr
  have map_case : ∀ {t : TypeId} {mp k x : Operand}, (o'.op = .mapUpdate t mp k x ∨ o'.op = .insert t mp k x) → ((mapSetA P t (r mp) (r k) (r x) m).map fun m' => (Req.val undef, m')) = some (q, m') → EffPost σ P ρ m w o' r' id m' q := by
    intro t mp k x ho h
    simp only [Option.map_eq_some_iff, Prod.mk.injEq] at h
    obtain ⟨m2, hm, rfl, rfl⟩ := h
    have hmem : VRel σ ρ (r mp) (r' mp) ∧ VRel σ ρ (r k) (r' k) ∧ VRel σ ρ (r x) (r' x) := by
      rcases ho with ho | ho <;> rw [ho] at hr <;> exact ⟨hr mp (by simp [Op.operands]), hr k (by simp [Op.operands]), hr x (by simp [Op.operands])⟩
    obtain ⟨w', g1, g2⟩ := mapSet_sound (P := P) hR hmem.1 hmem.2.1 hmem.2.2 hm
    exact ⟨.skip, undef, w', ρ, by rcases ho with ho | ho <;> simp [execOp, ho, g1], .inr ⟨rfl, rfl⟩, VRel.undef ρ, g2, fun _ _ _ h => h⟩
  cases hop : o.op with
  | store t a x =>
    rw [hop] at h1
    simp only [effA, hop, Option.map_eq_some_iff, Prod.mk.injEq] at h
    obtain ⟨m2, hm, rfl, rfl⟩ := h
    obtain ⟨w', g1, g2⟩ := store_sound (P := P) hR (hr a (by simp [h1, Op.operands])) (hr x (by simp [h1, Op.operands])) hm
    exact ⟨.skip, undef, w', ρ, by simp [execOp, h1, g1], .inr ⟨rfl, rfl⟩, VRel.undef ρ, g2, fun _ _ _ h => h⟩
  | mapUpdate t mp k x => exact map_case (.inl (h1.trans hop)) (by simp only [effA, hop] at h; exact h)
  | insert t mp k x => exact map_case (.inr (h1.trans hop)) (by simp only [effA, hop] at h; exact h)
  | next it isS =>
    rw [hop] at h1
    simp only [effA, hop] at h
    split at h
    · rename_i hS
      subst hS
      simp only [Option.map_eq_some_iff, Prod.mk.injEq] at h
      obtain ⟨⟨v, m2⟩, hn, rfl, rfl⟩ := h
      have hi := hr it (by simp [h1, Op.operands])
      unfold nextA at hn
      split at hn
      · rename_i b hit
        rw [hit] at hi
        obtain ⟨b', off, sl, hρ, hp⟩ := hi.ptr_inv
        split at hn
        · rename_i s pos hm
          obtain ⟨g0, g1⟩ := (hR.obj b _ _ hm hρ : ORel σ ρ w (b', off, sl) (.strIter s pos))
          simp only at g0 g1
          subst g1
          have hget : (getObj b').run P w = .ok (.stringIter s pos) w := by simp [getObj, Sem.run, g0]
          have hset : ∀ o', (setObj b' o').run P w = .ok () (w.putObj b' o') := fun o' => by simp [setObj, Sem.run, g0, World.putObj]
          split at hn
          · rename_i hlt2
            simp only [Option.some.injEq, Prod.mk.injEq] at hn
            obtain ⟨rfl, rfl⟩ := hn
            have ht := putObj_turned (o' := .stringIter s (pos + (Utf8.decode s pos).2)) g0
            refine ⟨_, .tuple #[.bool true, .int .i64 pos, .int .i32 (Utf8.decode s pos).1], _, ρ, ?_, .inl rfl, LRel.tuple (LRel.cons (.bool _) (LRel.cons (.int _ _) (LRel.cons (.int _ _) (LRel.nil ρ)))), Post.turn hR hm hρ rfl ht ⟨ht.at_, rfl⟩, fun _ _ _ h => h⟩
            simp [execOp, h1, Instr.next, hp, hget, hlt2, hset, goInt]
          · rename_i hlt2
            simp only [Option.some.injEq, Prod.mk.injEq] at hn
            obtain ⟨rfl, rfl⟩ := hn
            refine ⟨_, .tuple #[.bool false], w, ρ, ?_, .inl rfl, LRel.tuple (LRel.cons (.bool _) (LRel.nil ρ)), Post.refl hR, fun _ _ _ h => h⟩
            simp [execOp, h1, Instr.next, hp, hget, hlt2]
        · cases hn
      · cases hn
    · cases h
  | call c =>
    rw [hop] at h1
    rw [h1] at hr
    simp only [effA, hop] at h
    have harg : ∀ (j : Nat) x, c.args[j]? = some x → VRel σ ρ (r x) (r' x) ∧ (c.args.map r')[j]? = some (r' x) := fun j x hx => by
      have : c.args.toList[j]? = some x := by simpa using hx
      exact ⟨hr x (by simp only [Op.operands, Call.operands, Array.toList_append, List.mem_append]; exact .inr (List.mem_of_getElem? this)), by simp [hx]⟩
    split at h
    · rename_i hc
      split at h
      · rename_i s x hs hx
        simp only [Option.map_eq_some_iff, Prod.mk.injEq] at h
        obtain ⟨⟨v, m2⟩, hm, rfl, rfl⟩ := h
        obtain ⟨v', w', ρ', g1, g2, g3, g4⟩ := append_sound (P := P) (ty := o'.type) hR (harg 0 s hs).1 (harg 1 x hx).1 hid hlt (harg 0 s hs).2 (harg 1 x hx).2 hm
        exact ⟨_, v', w', ρ', resolve_builtin2 h1 hc (fun cs => rfl) g1, .inl rfl, g2, g3, g4⟩
      · cases h
    · rename_i hc
      split at h
      · rename_i s x hs hx
        simp only [Option.map_eq_some_iff, Prod.mk.injEq] at h
        obtain ⟨⟨v, m2⟩, hm, rfl, rfl⟩ := h
        obtain ⟨w', g1, g2, g3⟩ := copy_sound (P := P) (ty := o'.type) hR (harg 0 s hs).1 (harg 1 x hx).1 (harg 0 s hs).2 (harg 1 x hx).2 hm
        exact ⟨_, v, w', ρ, resolve_builtin2 h1 hc (fun cs => rfl) g1, .inl rfl, g2, g3, fun _ _ _ h => h⟩
      · cases h
    · rename_i hc
      split at h
      · rename_i x hx
        simp only [Option.map_eq_some_iff, Prod.mk.injEq] at h
        obtain ⟨m2, hm, rfl, rfl⟩ := h
        obtain ⟨w', g1, g2⟩ := clear_sound (P := P) (ty := o'.type) hR (harg 0 x hx).1 (harg 0 x hx).2 hm
        exact ⟨_, .tuple #[], w', ρ, resolve_builtin2 h1 hc (fun cs => rfl) g1, .inl rfl, VRel.undef ρ, g2, fun _ _ _ h => h⟩
      · cases h
    · rename_i hc
      split at h
      · rename_i s x hs hx
        simp only [Option.map_eq_some_iff, Prod.mk.injEq] at h
        obtain ⟨m2, hm, rfl, rfl⟩ := h
        obtain ⟨w', g1, g2⟩ := delete_sound (P := P) (ty := o'.type) hR (harg 0 s hs).1 (harg 1 x hx).1 (harg 0 s hs).2 (harg 1 x hx).2 hm
        exact ⟨_, .tuple #[], w', ρ, resolve_builtin2 h1 hc (fun cs => rfl) g1, .inl rfl, VRel.undef ρ, g2, fun _ _ _ h => h⟩
      · cases h
    · rename_i f hc
      have hf := hr f (by simp [Op.operands, Call.operands, hc])
      have hargs := map_rel (r := r) (r' := r') (xs := c.args) fun x hx => hr x (by simp only [Op.operands, Call.operands, Array.toList_append, List.mem_append]; exact .inr hx)
      split at h
      · rename_i g fs cp hrf
        split at h
        · rename_i hcall
          simp only [Option.some.injEq, Prod.mk.injEq] at h
          obtain ⟨rfl, rfl⟩ := h
          rw [hrf] at hf
          generalize hff : r' f = ff at hf
          cases hf with
          | func hy hm k1 k2 k3 k4 =>
            rename_i fs' cp'
            refine ⟨rfl, hcall, fs' ++ c.args.map r' ++ cp', ?_, ?_⟩
            · simp only [Array.toList_append]
              exact ((lrel_of k1 k2).append hargs).append (lrel_of k3 k4)
            · simp [execOp, h1, resolve, hc, hff, Deferred.ofValue, invoke, callFunc_run hcall]
        · split at h
          · rename_i v hx
            simp only [Option.some.injEq, Prod.mk.injEq] at h
            obtain ⟨rfl, rfl⟩ := h
            unfold externA at hx
            split at hx
            · rename_i hpl
              split at hx
              · rename_i u hrun
                split at hx
                · rename_i hpv
                  simp only [Option.some.injEq] at hx
                  subst hx
                  rw [hrf] at hf
                  generalize hff : r' f = ff at hf
                  cases hf with
                  | func hy hm k1 k2 k3 k4 =>
                    rename_i fs' cp'
                    have hall : LRel σ ρ (fs.toList ++ (c.args.map r).toList ++ cp.toList) (fs' ++ c.args.map r' ++ cp').toList := by
                      simp only [Array.toList_append]
                      exact ((lrel_of k1 k2).append hargs).append (lrel_of k3 k4)
                    have heq : fs.toList ++ (c.args.map r).toList ++ cp.toList = (fs' ++ c.args.map r' ++ cp').toList := list_ext_getD hall.1 fun i hi => plain_eq (all_getD hpl hi) (hall.2 i hi)
                    rw [heq] at hrun
                    have hrun2 := runP_run _ hrun w
                    rw [Array.toArray_toList, Array.append_assoc] at hrun2
                    exact ⟨_, u, w, ρ, by simp [execOp, h1, resolve, hc, hff, Deferred.ofValue, invoke, hrun2], .inl rfl, plain_refl ρ hpv, Post.refl hR, fun _ _ _ h => h⟩
                · cases hx
              · cases hx
            · cases hx
          · cases h
      · rename_i l fs cp hrf
        simp only [Option.some.injEq, Prod.mk.injEq] at h
        obtain ⟨rfl, rfl⟩ := h
        rw [hrf] at hf
        generalize hff : r' f = ff at hf
        cases hf with
        | func hy => exact absurd rfl (hy l)
        | yield hρ =>
          refine ⟨rfl, _, _, _, c.args.map r', hρ, by simpa using hargs, ?_⟩
          simp [execOp, h1, resolve, hc, hff, Deferred.ofValue, invoke]
      · cases h
    · rename_i x name hc
      have hx := hr x (by simp [Op.operands, Call.operands, hc])
      have hargs := map_rel (r := r) (r' := r') (xs := c.args) fun x hx => hr x (by simp only [Op.operands, Call.operands, Array.toList_append, List.mem_append]; exact .inr hx)
      split at h
      · rename_i t v hrx
        split at h
        · rename_i f hm
          split at h
          · rename_i hcall
            simp only [Option.some.injEq, Prod.mk.injEq] at h
            obtain ⟨rfl, rfl⟩ := h
            rw [hrx] at hx
            generalize hff : r' x = ff at hx
            cases hx with
            | iface _ hv =>
              rename_i v'
              refine ⟨rfl, hcall, #[v'] ++ c.args.map r', ?_, ?_⟩
              · simp only [Array.toList_append]
                exact LRel.cons hv hargs
              · have hmr : ∀ n, (method (n + 1) t v' name).run P w = .ok (f, v') w := fun n => method_run hm
                obtain ⟨n, hn⟩ : ∃ n, P.types.size + Made.depth = n + 1 := ⟨P.types.size + Made.depth - 1, by unfold Made.depth; omega⟩
                have e0 : (#[Value.iface t v'] ++ c.args.map r')[0]? = some (.iface t v') := by simp [Array.getElem?_append]
                have e1 : (c.args.map r').extract 0 c.args.size = c.args.map r' := by simp
                simp [execOp, h1, resolve, hc, hff, invoke, callMethod, e0, e1, hn, hmr, callFunc_run hcall]
          · cases h
        · cases h
      · cases h
    · cases h
  | _ => simp [effA, hop] at h

end Go.Ab
