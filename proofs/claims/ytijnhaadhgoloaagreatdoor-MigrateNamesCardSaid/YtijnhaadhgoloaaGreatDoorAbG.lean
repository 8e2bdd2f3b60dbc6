/- An interpreter of our own: equality, conversions; all reading operations; blocks that are made. -/
import Derived.Test.YtijnhaadhgoloaaGreatDoorAbF
namespace Go.Ab
variable {σ : Sig} {P : Program} {ρ : Rho} {r r' : Operand → Value}

theorem eqGuard_any {op : BinOp} {t : TypeId} {xo yo : Operand} {x y : Value} (h1 : ¬ (x = .nilIface ∧ y = .nilIface)) (h2 : ∀ a b, ¬ (x = .agg a ∧ y = .agg b)) (w : World) :
    (eqGuard op t xo yo x y).run P w = .ok () w := by
  unfold eqGuard
  cases op <;> first | rfl | skip
  all_goals
    cases x <;> cases y <;> first | rfl | (exact absurd ⟨rfl, rfl⟩ h1) | (exact absurd ⟨rfl, rfl⟩ (h2 _ _))

/-- The answer of an equality that is known. -/
def ansA (op : BinOp) (b : Bool) : Option Value := match op with
  | .eql => some (.bool b)
  | .neq => some (.bool !b)
  | _ => none

theorem eq_run {op : BinOp} {t : TypeId} {xo yo : Operand} {x y v : Value} {b : Bool} {w : World} (ha : ansA op b = some v) (hb : ∀ op', (op' = .eql ∨ op' = .neq) → binOp op' t x y = (match op' with | .eql => (do pure (.bool (← Op.equal t x y))) | _ => (do pure (.bool (!(← Op.equal t x y)))) : Sem Value))
    (he : ∀ d, (Op.equalIn (d + 1) t x y).run P w = .ok b w) (h1 : ¬ (x = .nilIface ∧ y = .nilIface)) (h2 : ∀ a b, ¬ (x = .agg a ∧ y = .agg b)) :
    VRel σ ρ v v ∧ (do eqGuard op t xo yo x y; binOp op t x y : Sem Value).run P w = .ok v w := by
  have heq : (Op.equal t x y).run P w = .ok b w := he 9999
  cases op <;> first | (simp [ansA] at ha; done) | skip
  · simp only [ansA, Option.some.injEq] at ha; subst ha
    exact ⟨.bool _, by simp [eqGuard_any h1 h2, hb .eql (.inl rfl), heq]⟩
  · simp only [ansA, Option.some.injEq] at ha; subst ha
    exact ⟨.bool _, by simp [eqGuard_any h1 h2, hb .neq (.inr rfl), heq]⟩

theorem binOp_eq_free {t : TypeId} {x y : Value} (hx : match x with | .pointer _ | .slice .. | .map _ | .nilFunc | .func .. | .nilIface | .iface .. => True | _ => False) :
    ∀ op', (op' = BinOp.eql ∨ op' = BinOp.neq) → binOp op' t x y = (match op' with | .eql => (do pure (.bool (← Op.equal t x y))) | _ => (do pure (.bool (!(← Op.equal t x y)))) : Sem Value) := by
  intro op' h
  rcases h with rfl | rfl
  · cases x <;> first | exact absurd hx id | (cases y <;> rfl)
  · cases x <;> first | exact absurd hx id | (cases y <;> rfl)

theorem eq_sound {op : BinOp} {t : TypeId} {xo yo : Operand} {x x' y y' v : Value} {m : Mem} {w : World} (hR : Rel σ ρ m w) (hx : VRel σ ρ x x') (hy : VRel σ ρ y y') (h : eqA P op t xo yo x y m = some v) :
    VRel σ ρ v v ∧ (do eqGuard op t xo yo x' y'; binOp op t x' y' : Sem Value).run P w = .ok v w := by
  unfold eqA at h
  simp only at h
  split at h
  · rename_i hp
    simp only [Bool.and_eq_true] at hp
    obtain rfl := plain_eq hp.1 hx
    obtain rfl := plain_eq hp.2 hy
    obtain ⟨hv, hrun⟩ := runV_run (σ := σ) (ρ := ρ) h
    exact ⟨hv, hrun w⟩
  · rename_i hnp
    clear hnp
    split at h
    · rename_i e b o b2 o2 hu
      obtain ⟨c, off, sl, hρ, rfl⟩ := hx.ptr_inv
      obtain ⟨c2, off2, sl2, hρ2, rfl⟩ := hy.ptr_inv
      split at h
      · rename_i k hs
        split at h
        · rename_i hbb
          subst hbb
          rw [hρ] at hρ2
          simp only [Option.some.injEq, Prod.mk.injEq] at hρ2
          obtain ⟨rfl, rfl, rfl⟩ := hρ2
          refine eq_run (b := o == o2) h (binOp_eq_free trivial) (fun d => ?_) (by simp) (by simp)
          have : (sameAddr ⟨c, off + o, none⟩ ⟨c, off + o2, none⟩).run P w = .ok (o == o2) w := by
            unfold sameAddr
            simp only [beq_self_eq_true, if_true]
            have e : ((⟨c, off + o, none⟩ : Addr) == ⟨c, off + o2, none⟩) = (o == o2) := by
              rw [Bool.eq_iff_iff]
              simp
            rw [e]
            rfl
          simp [Op.equalIn, und_run hu, sz_run hs, this]
        · rename_i hbb
          split at h
          · rename_i cs sz cs2 sz2 hm hm2
            obtain ⟨ca, ta, fa, g1, _, g3, _⟩ := (hR.obj b _ _ hm hρ : CellsRel σ ρ w (c, off, sl) cs.list true sz)
            obtain ⟨cb, tb, fb, k1, _, k3, _⟩ := (hR.obj b2 _ _ hm2 hρ2 : CellsRel σ ρ w (c2, off2, sl2) cs2.list true sz2)
            have hne := hR.inj b b2 _ _ _ _ hbb hm hm2 hρ hρ2 rfl
            simp only at hne g1 k1
            rw [g3.1 rfl] at g1
            rw [k3.1 rfl] at k1
            refine eq_run (b := false) h (binOp_eq_free trivial) (fun d => ?_) (by simp) (by simp)
            have : (sameAddr ⟨c, off + o, none⟩ ⟨c2, off2 + o2, none⟩).run P w = .ok false w :=
              run_sameAddr_other w (fun e => hne (by simpa using congrArg Addr.block e)) g1 k1
            simp [Op.equalIn, und_run hu, sz_run hs, this]
          · cases h
      · cases h
    · rename_i e a hu
      cases hx
      have : ∃ a', y' = .pointer (some a') := by cases hy; exact ⟨_, rfl⟩
      obtain ⟨a', rfl⟩ := this
      exact eq_run (b := false) h (binOp_eq_free trivial) (fun d => by simp [Op.equalIn, und_run hu]) (by simp) (by simp)
    · rename_i e a hu
      cases hy
      have : ∃ a', x' = .pointer (some a') := by cases hx; exact ⟨_, rfl⟩
      obtain ⟨a', rfl⟩ := this
      exact eq_run (b := false) h (binOp_eq_free trivial) (fun d => by simp [Op.equalIn, und_run hu]) (by simp) (by simp)
    · rename_i e n c a n2 c2 hu
      cases hx
      have : ∃ a' c', y' = .slice (some a') n2 c' := by cases hy <;> exact ⟨_, _, rfl⟩
      obtain ⟨a', c', rfl⟩ := this
      exact eq_run (b := false) h (binOp_eq_free trivial) (fun d => by simp [Op.equalIn, und_run hu]) (by simp) (by simp)
    · rename_i e a n c n2 c2 hu
      cases hy
      have : ∃ a' c', x' = .slice (some a') n c' := by cases hx <;> exact ⟨_, _, rfl⟩
      obtain ⟨a', c', rfl⟩ := this
      exact eq_run (b := false) h (binOp_eq_free trivial) (fun d => by simp [Op.equalIn, und_run hu]) (by simp) (by simp)
    · rename_i k e a hu
      cases hx
      have : ∃ a', y' = .map (some a') := by cases hy; exact ⟨_, rfl⟩
      obtain ⟨a', rfl⟩ := this
      exact eq_run (b := false) h (binOp_eq_free trivial) (fun d => by simp [Op.equalIn, und_run hu]) (by simp) (by simp)
    · rename_i k e a hu
      cases hy
      have : ∃ a', x' = .map (some a') := by cases hx; exact ⟨_, rfl⟩
      obtain ⟨a', rfl⟩ := this
      exact eq_run (b := false) h (binOp_eq_free trivial) (fun d => by simp [Op.equalIn, und_run hu]) (by simp) (by simp)
    · rename_i hu
      cases hx
      have : ∃ f a c, y' = .func f a c := by cases hy <;> exact ⟨_, _, _, rfl⟩
      obtain ⟨f, a, c, rfl⟩ := this
      exact eq_run (b := false) h (binOp_eq_free trivial) (fun d => by simp [Op.equalIn, und_run hu]) (by simp) (by simp)
    · rename_i hu
      cases hy
      have : ∃ f a c, x' = .func f a c := by cases hx <;> exact ⟨_, _, _, rfl⟩
      obtain ⟨f, a, c, rfl⟩ := this
      exact eq_run (b := false) h (binOp_eq_free trivial) (fun d => by simp [Op.equalIn, und_run hu]) (by simp) (by simp)
    · rename_i ms t2 v2 hu
      cases hx
      have : ∃ a, y' = .iface t2 a := by cases hy; exact ⟨_, rfl⟩
      obtain ⟨a, rfl⟩ := this
      exact eq_run (b := false) h (binOp_eq_free trivial) (fun d => by simp [Op.equalIn, und_run hu]) (by simp) (by simp)
    · rename_i ms t2 v2 hu
      cases hy
      have : ∃ a, x' = .iface t2 a := by cases hx; exact ⟨_, rfl⟩
      obtain ⟨a, rfl⟩ := this
      exact eq_run (b := false) h (binOp_eq_free trivial) (fun d => by simp [Op.equalIn, und_run hu]) (by simp) (by simp)
    · cases h

theorem bytes_loop {ρ : Rho} (f : Value → ByteArray → Sem (ForInStep ByteArray)) (hf : ∀ n s, f (.int .u8 n) s = pure (.yield (s.push (UInt8.ofNat n.toNat)))) (w : World) : ∀ {l l' : List Value} {s out : ByteArray}, LRel σ ρ l l' → bytesOf l s = some out →
    (forIn l' s f).run P w = .ok out w
  | [], l', s, out, hl, h => by
    cases l' with
    | nil => simp only [bytesOf, Option.some.injEq] at h; subst h; simp
    | cons => exact absurd hl.1 (by simp)
  | v :: l, l', s, out, hl, h => by
    cases l' with
    | nil => exact absurd hl.1 (by simp)
    | cons v' l' =>
      have hv := hl.head
      unfold bytesOf at h
      split at h
      · rename_i e; cases e
      · rename_i e
        simp only [List.cons.injEq] at e
        obtain ⟨rfl, rfl⟩ := e
        rw [hv.int_inv, List.forIn_cons, hf]
        simpa using bytes_loop f hf w hl.tail h
      · cases h

theorem bytes_sound {s d : TypeId} {x x' v : Value} {m : Mem} {w : World} (hR : Rel σ ρ m w) (h : (match P.underlying s, P.underlying d, x with
      | some (.slice e), some .string, .slice (some ⟨b, o, none⟩) n _ => match P.underlying e, m.get b with
        | some (.int .u8), some (.cells cs _ _) => match cs.sub o n with
          | some l => (bytesOf l .empty).map .string
          | none => none
        | _, _ => none
      | _, _, _ => none) = some v) (hx : VRel σ ρ x x') : ∃ v', VRel σ ρ v v' ∧ (convert s d x').run P w = .ok v' w := by
  split at h
  · rename_i e b o n c hs hd
    split at h
    · rename_i cs rw_ sz he hm
      split at h
      · rename_i l hl
        simp only [Option.map_eq_some_iff] at h
        obtain ⟨out, hout, rfl⟩ := h
        obtain ⟨b', off, sl, c', hρ, rfl, _, _⟩ := hx.slice_inv
        obtain ⟨cs', hcs, hcell⟩ := (hR.obj b _ _ hm hρ : CellsRel σ ρ w (b', off, sl) cs.list rw_ sz).list
        rw [Cells.sub_eq] at hl
        obtain ⟨l', hl1, hl2, hl3⟩ := sub_rel hcs hl
        refine ⟨_, .string _, ?_⟩
        have hload : (loadCells ⟨b', off + o, none⟩ n).run P w = .ok l'.toArray w := by
          have := loadCells_run (P := P) (a := ⟨b', off + o, none⟩) (w := w) l' 0 #[] fun j v hj => by
            have h3 := hcell (o + j) v (hl3 j v hj)
            rw [addr_add _ rfl]
            simpa [Nat.add_assoc] using h3
          rw [hl2] at this
          simpa [loadCells] using this
        simp [convert, und_run hs, und_run hd, und_run he, Conv.bytesToString, hload]
        rw [bytes_loop (σ := σ) (ρ := ρ) _ (fun _ _ => rfl) w hl1 hout]
        rfl
      · cases h
    · cases h
  · cases h

theorem read_sound {o : SOp} {o' : Oper} {v : Value} {m : Mem} {w : World} (h1 : o'.op = o.op) (hr : ∀ x ∈ o.op.operands.toList, VRel σ ρ (r x) (r' x)) (hR : Rel σ ρ m w) (h : readA P o r m = some v) :
    Gives σ P ρ o' r' w v := by
  rw [← h1] at hr
  cases hop : o.op with
  | load t a =>
    rw [hop] at h1
    simp only [readA, hop] at h
    obtain ⟨v', hv, hrun⟩ := load_sound (P := P) hR (hr a (by simp [h1, Op.operands])) h
    exact ⟨v', hv, by simp [execOp, h1, hrun]⟩
  | lookup t mp k ok =>
    rw [hop] at h1
    simp only [readA, hop] at h
    obtain ⟨v', hv, hrun⟩ := lookup_sound (P := P) hR (hr mp (by simp [h1, Op.operands])) (hr k (by simp [h1, Op.operands])) h
    exact ⟨v', hv, by simp [execOp, h1, hrun]⟩
  | binOp op t x y u =>
    rw [hop] at h1
    simp only [readA, hop] at h
    obtain ⟨hv, hrun⟩ := eq_sound (P := P) hR (hr x (by simp [h1, Op.operands])) (hr y (by simp [h1, Op.operands])) h
    refine ⟨v, hv, ?_⟩
    have e : (execOp r' o').run P w = ((do eqGuard op t x y (r' x) (r' y); binOp op t (r' x) (r' y) : Sem Value).run P w).andThen fun a w' => .ok (.value a) w' := by
      simp only [execOp, h1, Sem.run_bind, Sem.run_pure]
    rw [e, hrun]
    rfl
  | convert s d x =>
    rw [hop] at h1
    simp only [readA, hop] at h
    split at h
    · rename_i hp
      have hx := plain_eq hp (hr x (by simp [h1, Op.operands]))
      have h' : runV P (convert s d (r x)) = some v := by
        split at h
        · cases h
        · exact h
      obtain ⟨hv, hrun⟩ := runV_run (σ := σ) (ρ := ρ) h'
      refine ⟨v, hv, ?_⟩
      rw [hx] at hrun
      simp [execOp, h1, hrun]
    · obtain ⟨v', hv, hrun⟩ := bytes_sound (P := P) hR h (hr x (by simp [h1, Op.operands]))
      exact ⟨v', hv, by simp [execOp, h1, hrun]⟩
  | call c =>
    rw [hop] at h1
    simp only [readA, hop] at h
    split at h
    · rename_i t x hc hat hx
      have hmem : x ∈ c.args.toList := by
        have : c.args.toList[0]? = some x := by simpa using hx
        exact List.mem_of_getElem? this
      have hxr := hr x (by rw [h1]; simpa [Op.operands, Call.operands, hc] using hmem)
      obtain ⟨hv, hrun⟩ := len_sound (P := P) (ty := o'.type) hat hR hxr h (c.args.map r') (by simp [hx])
      exact ⟨v, hv, resolve_builtin h1 hc (fun cs => rfl) hrun⟩
    · cases h
  | _ => simp [readA, hop] at h

end Go.Ab
