/- An interpreter of our own: what is shown of its tasks; one operation; a region in its written order. -/
import Derived.Test.YtijnhaadhgoloaaGreatDoorAbK
import Derived.RangeFuncCalls
namespace Go.Ab
variable {σ : Sig}
variable {P : Program}

/-- No fence; of a round's frame or of a plain one. -/
abbrev Fr (l : Option Nat) : Fence := { Fence.wide with round := l }

/-- What is handed over with a value. -/
def Ret (σ : Sig) (ρ : Rho) (m : Mem) (w : World) (v : Value) (m' : Mem) (e : Ending) (w' : World) : Prop :=
  ∃ v' ρ', e = .returned v' ∧ VRel σ ρ' v v' ∧ Post σ ρ m w ρ' m' w' ∧ Old m.next ρ ρ'

def CallOk (σ : Sig) (P : Program) (f : FuncId) (args : List Value) (m : Mem) (v : Value) (m' : Mem) : Prop :=
  ∀ ρ w (args' : Array Value), Rel σ ρ m w → LRel σ ρ args args'.toList → CallsIn Fence.wide 0 P f args' w (Ret σ ρ m w v m')

def RoundOk (σ : Sig) (P : Program) (l : Nat) (args : List Value) (m : Mem) (v : Value) (m' : Mem) : Prop :=
  ∀ ρ w (args' : Array Value) l' off sl, Rel σ ρ m w → ρ l = some (l', off, sl) → LRel σ ρ args args'.toList →
    ∃ fn tmps asg bd, (Instr.yield l' args').run P w = .ok (.round l' fn tmps asg bd) w ∧ RoundIn Fence.wide 0 P l' fn tmps asg bd w (Ret σ ρ m w v m')

/-- The marks that an activation has laid among its deferred calls. -/
def Marks (lo : Nat) (w : World) : List Deferred → Prop
  | [] => True
  | d :: ds => (∃ r, d.target = .collected r ∧ lo ≤ r ∧ w.heap[r]? = some (.deferred (some [])) ∧ ∀ d' ∈ ds, d'.target ≠ .collected r) ∧ Marks lo w ds

def RdRel (ρ : Rho) : Option Nat → Option Nat → Prop
  | none, none => True
  | some b, some l => ∃ off sl, ρ b = some (l, off, sl)
  | _, _ => False

def okX : Exit → Bool
  | .normal | .ret | .exit _ | .goto _ => true
  | _ => false

def CPost (σ : Sig) (ρ : Rho) (m : Mem) (w : World) (lo : Nat) (x : Exit) (t : List Value) (m' : Mem) (e : Exit) (a : Act) (w' : World) : Prop :=
  e = x ∧ okX x = true ∧ ∃ ρ', LRel σ ρ' t a.tmps.toList ∧ Marks lo w' a.defers ∧ Post σ ρ m w ρ' m' w' ∧ Old m.next ρ ρ'

def CodeOk (σ : Sig) (P : Program) (rd : Option Nat) (c : SCode) (t : List Value) (m : Mem) (x : Exit) (t' : List Value) (m' : Mem) : Prop :=
  ∀ (k : Code) ρ w (a : Act) l lo, comp k = some c → Rel σ ρ m w → LRel σ ρ t a.tmps.toList → Marks lo w a.defers → lo ≤ w.heap.size → RdRel ρ rd l →
    k.wpIn (Fr l) 0 P (CPost σ ρ m w lo x t' m') a w

structure SelfOk (σ : Sig) (P : Program) (slf : Self) : Prop where
  call : ∀ f args m v m', slf (.call f args) m = some (.val v, m') → CallOk σ P f args m v m'
  round : ∀ l args m v m', slf (.round l args) m = some (.val v, m') → RoundOk σ P l args m v m'
  code : ∀ rd c t m x t' m', slf (.code rd c t) m = some (.exit x t', m') → CodeOk σ P rd c t m x t' m'

/-! ### small change -/
theorem RdRel.mono {ρ ρ' : Rho} (he : Ext ρ ρ') {rd l : Option Nat} (h : RdRel ρ rd l) : RdRel ρ' rd l := by
  cases rd <;> cases l <;> first | exact h | skip
  obtain ⟨o, s, h⟩ := h
  exact ⟨o, s, he _ _ h⟩

theorem ORel.not_deferred {ρ : Rho} {w : World} {x : Nat × Nat × Nat} {o : AObj} (h : ORel σ ρ w x o) {ds : Option (List Deferred)} : w.heap[x.1]? ≠ some (.deferred ds) := by
  intro e
  cases o with
  | cells cs rw sz => obtain ⟨cs', t, fz, h1, _⟩ := h; rw [h1] at e; cases e
  | map es rw => obtain ⟨es', c, h1, _⟩ := h; rw [h1] at e; cases e
  | strIter s pos => rw [h.1] at e; cases e
  | loop r => obtain ⟨r', h1, _⟩ := h; rw [h1] at e; cases e
  | frz tag => obtain ⟨C, cs', t, fz, _, h1, _⟩ := h; rw [h1] at e; cases e

theorem Marks.keep {lo : Nat} {w w' : World} : ∀ {ds : List Deferred}, Marks lo w ds → (∀ r : Nat, w.heap[r]? = some (.deferred (some [])) → w'.heap[r]? = some (.deferred (some []))) → Marks lo w' ds
  | [], _, _ => trivial
  | _ :: _, ⟨⟨r, h1, h2, h3, h4⟩, h5⟩, h => ⟨⟨r, h1, h2, h r h3, h4⟩, h5.keep h⟩

theorem Post.deferred {ρ ρ' : Rho} {m m' : Mem} {w w' : World} (hR : Rel σ ρ m w) (h : Post σ ρ m w ρ' m' w') {r : Nat} {ds : Option (List Deferred)} (hr : w.heap[r]? = some (.deferred ds)) : w'.heap[r]? = some (.deferred ds) := by
  have hlt : r < w.heap.size := (Array.getElem?_eq_some_iff.1 hr).1
  rw [h.frame r hlt fun b o x hb _ hx he => (hR.obj b o x hb hx).not_deferred (he ▸ hr)]
  exact hr

theorem Marks.post {ρ ρ' : Rho} {m m' : Mem} {w w' : World} {lo : Nat} {ds : List Deferred} (h : Marks lo w ds) (hR : Rel σ ρ m w) (hp : Post σ ρ m w ρ' m' w') : Marks lo w' ds :=
  h.keep fun _ hr => hp.deferred hR hr

theorem Old.refl (n : Nat) (ρ : Rho) : Old n ρ ρ := fun _ _ h => h
theorem Old.trans {n n' : Nat} {ρ ρ1 ρ2 : Rho} (h : Old n ρ ρ1) (k : Old n' ρ1 ρ2) (hle : n ≤ n') : Old n ρ ρ2 := fun b hb e => k b (by omega) (h b hb e)
theorem Old.but {n i : Nat} {ρ ρ' : Rho} (h : Old n ρ ρ') : OldBut n i ρ ρ' := fun b hb _ e => h b hb e

theorem Post.bump {ρ : Rho} {m : Mem} {w : World} (h : Rel σ ρ m w) (n : Nat) : Post σ ρ m w ρ (m.bump n) w :=
  ⟨h.bump n, Ext.refl ρ, by simp, Nat.le_refl _, rfl, rfl, rfl, fun _ _ _ => rfl, fun b o x hb hx _ => ⟨b, o, x, hb, hx, rfl, id⟩⟩
theorem Post.drew {ρ : Rho} {m : Mem} {w : World} (h : Rel σ ρ m w) : Post σ ρ m w ρ m w.drew :=
  ⟨h.drew, Ext.refl ρ, Nat.le_refl _, Nat.le_refl _, rfl, rfl, rfl, fun _ _ _ => rfl, fun b o x hb hx _ => ⟨b, o, x, hb, hx, rfl, id⟩⟩

/-! ### operands -/
theorem ev_rel {ρ : Rho} {m : Mem} {w : World} (hR : Rel σ ρ m w) {t : List Value} {a : Act} (ht : LRel σ ρ t a.tmps.toList) {x : Operand} (hx : plainOpd x = true) : VRel σ ρ (ev x t) (a.eval x) := by
  cases x with
  | tmp k =>
    show VRel σ ρ (t.getD k undef) (a.tmps.getD k undef)
    rw [getD_toList]
    exact ht.at_ k
  | const v => exact plain_refl (σ := σ) ρ hx
  | global g =>
    have hg := hR.glob g (by simpa [plainOpd] using hx)
    have := VRel.ptr (σ := σ) (o := 0) hg
    simpa [ev, Act.eval] using this
  | func f => exact .func (fun l => by simp) (fun n => by simp) rfl (fun i hi => absurd hi (by simp)) rfl (fun i hi => absurd hi (by simp))

theorem putT_rel {ρ : Rho} {t : List Value} {a : Act} (ht : LRel σ ρ t a.tmps.toList) {v v' : Value} (hv : VRel σ ρ v v') (d : Option Tmp) : LRel σ ρ (putT d v t) (a.put d v').tmps.toList := by
  cases d with
  | none => exact ht
  | some k =>
    show LRel σ ρ (t.set k v) (a.tmps.setIfInBounds k v').toList
    rw [Array.toList_setIfInBounds]
    exact ht.set hv k

@[simp] theorem put_defers (a : Act) (d : Option Tmp) (v : Value) : (a.put d v).defers = a.defers := by cases d <;> rfl

/-! ### operations and their stripped form -/
structure Strip (ops : Array Oper) (o' : Oper) (o : SOp) : Prop where
  op : o'.op = o.op
  type : o'.type = o.type
  dst : o'.dst = o.dst
  plain : ∀ x ∈ o.op.operands.toList, plainOpd x = true
  guard : (o'.guard = none ∧ o.guard = none) ∨ (∃ j b t, o'.guard = some (j, b) ∧ o.guard = some (t, b) ∧ (ops[j]?).bind (·.dst) = some t)

theorem strip_of {ops : Array Oper} {o' : Oper} {o : SOp} (h : stripOp ops o' = some o) : Strip ops o' o := by
  unfold stripOp at h
  split at h
  · rename_i hp
    have hp' : ∀ x ∈ o'.op.operands.toList, plainOpd x = true := List.all_eq_true.1 hp
    split at h
    · rename_i hg
      simp only [Option.some.injEq] at h
      subst h
      exact ⟨rfl, rfl, rfl, hp', .inl ⟨hg, rfl⟩⟩
    · rename_i j b hg
      split at h
      · rename_i t ht
        simp only [Option.some.injEq] at h
        subst h
        exact ⟨rfl, rfl, rfl, hp', .inr ⟨j, b, t, hg, rfl, ht⟩⟩
      · cases h
  · cases h

theorem stripAll_at {ops : Array Oper} : ∀ {l : List Oper} {sl : List SOp}, stripAll ops l = some sl → sl.length = l.length ∧ ∀ (i : Nat) (o : Oper), l[i]? = some o → ∃ s, sl[i]? = some s ∧ Strip ops o s
  | [], sl, h => by
    simp only [stripAll, Option.some.injEq] at h
    subst h
    exact ⟨rfl, fun i o hi => by simp at hi⟩
  | o :: l, sl, h => by
    simp only [stripAll] at h
    split at h
    · rename_i x xs h1 h2
      simp only [Option.some.injEq] at h
      subst h
      obtain ⟨g1, g2⟩ := stripAll_at h2
      refine ⟨by simp [g1], fun i o' hi => ?_⟩
      cases i with
      | zero =>
        simp only [List.getElem?_cons_zero, Option.some.injEq] at hi
        subst hi
        exact ⟨x, rfl, strip_of h1⟩
      | succ i => simpa using g2 i o' (by simpa using hi)
    · cases h

theorem wanted_rel' {ρ : Rho} {t : List Value} {a : Act} {ops : Array Oper} {o' : Oper} {o : SOp} (hs : Strip ops o' o) (hok : gOk o.guard t = true) (hg : ∀ k b, o.guard = some (k, b) → VRel σ ρ (t.getD k undef) (a.tmps.getD k undef)) :
    Region.wanted o' (yielded ops a.tmps) = wanted o.guard t := by
  rcases hs.guard with ⟨h1, h2⟩ | ⟨j, b, k, h1, h2, h3⟩
  · simp [Region.wanted, h1, h2, wanted]
  · rw [h2] at hok
    simp only [gOk] at hok
    simp only [Region.wanted, h1, h2, wanted, yielded, h3, Option.bind_some]
    have hk := hg k b h2
    rw [Array.getD_eq_getD_getElem?] at hk
    generalize hu : t.getD k undef = u at hk hok
    cases hc : a.tmps[k]? with
    | none =>
      rw [hc] at hk
      cases hk <;> first | rfl | (cases hok; done) | simp
    | some c =>
      rw [hc] at hk
      cases hk <;> first | (cases hok; done) | (simp [Option.getD] at *; done) | (simp [Option.getD] at *; simp_all)
theorem wanted_rel {ρ : Rho} {t : List Value} {a : Act} (ht : LRel σ ρ t a.tmps.toList) {ops : Array Oper} {o' : Oper} {o : SOp} (hs : Strip ops o' o) (hok : gOk o.guard t = true) :
    Region.wanted o' (yielded ops a.tmps) = wanted o.guard t :=
  wanted_rel' hs hok fun k _ _ => by rw [getD_toList]; exact ht.at_ k

/-- One operation's own code is no defer statement. -/
theorem cls_gives_sem {l : Option Nat} {o' : Oper} {r' : Operand → Value} (h : ∀ c, o'.op ≠ .defer c) : o'.semAt (Fr l).round r' = execOp r' o' := Oper.semAt_eq _ _ _ h

/-- What is known of symbolic values is true. -/
def SymOk (σ : Sig) (E : Env) : Prop := ∀ o r v, E.sym o r = some v → ∀ (o' : Oper) (r' : Operand → Value) ρ m w, o'.op = o.op → o'.type = o.type → Rel σ ρ m w → (∀ x ∈ o.op.operands.toList, VRel σ ρ (r x) (r' x)) → Gives σ E.P ρ o' r' w v

theorem pureE_sound {E : Env} (hE : E.P = P) (hS : SymOk σ E) {o' : Oper} {o : SOp} (h1 : o'.op = o.op) (h2 : o'.type = o.type) (hc : cls o.op = .pure) {r r' : Operand → Value} {ρ : Rho} {m : Mem} {w : World}
    (hr : ∀ x ∈ o.op.operands.toList, VRel σ ρ (r x) (r' x)) (hR : Rel σ ρ m w) {v : Value} (h : pureE E o r = some v) : Gives σ P ρ o' r' w v := by
  subst hE
  unfold pureE at h
  split at h
  · rename_i u hu
    cases h
    exact pure_sound h1 h2 hc hr hu w
  · exact hS _ _ _ h o' r' ρ m w h1 h2 hR hr
theorem readE_sound {E : Env} (hE : E.P = P) (hS : SymOk σ E) {o' : Oper} {o : SOp} (h1 : o'.op = o.op) (h2 : o'.type = o.type) {r r' : Operand → Value} {ρ : Rho} {m : Mem} {w : World}
    (hr : ∀ x ∈ o.op.operands.toList, VRel σ ρ (r x) (r' x)) (hR : Rel σ ρ m w) {v : Value} (h : readE E o r m = some v) : Gives σ P ρ o' r' w v := by
  subst hE
  unfold readE at h
  split at h
  · rename_i u hu
    cases h
    exact read_sound h1 hr hR hu
  · exact hS _ _ _ h o' r' ρ m w h1 h2 hR hr

theorem opA_not_defer {E : Env} {self : Self} {id : Nat} {o : SOp} {t : List Value} {m : Mem} {q : Value × Mem} (h : opA E self id o t m = some q) : ∀ c, o.op ≠ .defer c := by
  intro c hc
  simp [opA, cls, hc, effA] at h

/-- One operation; asked of its operands alone. -/
theorem op_ok' {E : Env} {self : Self} (hE : E.P = P) (hS : SymOk σ E) (hs : SelfOk σ P self) {ops : Array Oper} {o' : Oper} {o : SOp} (ho : Strip ops o' o) {ρ : Rho} {m m' : Mem} {w : World} {a : Act} {t : List Value} {id : Nat} {v : Value} {l : Option Nat}
    (hR : Rel σ ρ m w) (hr : ∀ x ∈ o.op.operands.toList, VRel σ ρ (ev x t) (a.eval x)) (hid : ρ id = none) (hlt : id < m.next) (h : opA E self id o t m = some (v, m'))
    {next : Act → World → Prop} {Q : Exit → Act → World → Prop} (hn : ∀ v' w' ρ', VRel σ ρ' v v' → Post σ ρ m w ρ' m' w' → OldBut m.next id ρ ρ' → next (a.put o'.dst v') w') : o'.wpIn (Fr l) 0 P a w next Q := by
  have hnd := opA_not_defer h
  refine ⟨fun _ _ => trivial, ?_⟩
  rw [cls_gives_sem (by rw [ho.op]; exact hnd)]
  have fin : GivesM σ P ρ m w o' a.eval id v m' → o'.uponIn (Fr l) 0 P a next Q ((execOp a.eval o').run P w) := by
    rintro ⟨x, v', w', ρ', g1, g2, g3, g4, g5⟩
    rw [g1]
    rcases g2 with rfl | ⟨rfl, rfl⟩
    · exact hn _ _ _ g3 g4 g5
    · exact hn _ _ _ g3 g4 g5
  have fin0 : m' = m → Gives σ P ρ o' a.eval w v → o'.uponIn (Fr l) 0 P a next Q ((execOp a.eval o').run P w) := by
    rintro rfl ⟨v', g1, g2⟩
    exact fin ⟨_, v', w, ρ, g2, .inl rfl, g1, Post.refl hR, fun _ _ _ e => e⟩
  unfold opA at h
  split at h
  · rename_i hc
    split at h
    · rename_i u hu
      simp only [Option.some.injEq, Prod.mk.injEq] at h
      obtain ⟨rfl, rfl⟩ := h
      exact fin0 rfl (pureE_sound hE hS ho.op ho.type hc hr hR hu)
    · cases h
  · split at h
    · rename_i u hu
      simp only [Option.some.injEq, Prod.mk.injEq] at h
      obtain ⟨rfl, rfl⟩ := h
      exact fin0 rfl (readE_sound hE hS ho.op ho.type hr hR hu)
    · cases h
  · split at h
    · rename_i ob mk hu
      simp only [Option.some.injEq, Prod.mk.injEq] at h
      obtain ⟨rfl, rfl⟩ := h
      exact fin (make_sound ho.op hr hR hid hlt (hE ▸ hu))
    · cases h
  · split at h
    · rename_i u m2 hu
      simp only [Option.some.injEq, Prod.mk.injEq] at h
      obtain ⟨rfl, rfl⟩ := h
      exact fin (eff_sound (P := P) (q := .val _) ho.op hr hR hid hlt (hE ▸ hu))
    · rename_i f args m2 hu
      obtain ⟨rfl, _, args', g2, g3⟩ := eff_sound (P := P) ho.op hr hR hid hlt (hE ▸ hu)
      split at h
      · rename_i u m3 hcall
        simp only [Option.some.injEq, Prod.mk.injEq] at h
        obtain ⟨rfl, rfl⟩ := h
        rw [g3]
        refine ⟨fun hd => by simp [Fence.wide] at hd, CallsIn.mono (SelfOk.call hs _ _ _ _ _ hcall ρ w args' hR g2) ?_⟩
        rintro e w' ⟨v', ρ', rfl, k1, k2, k3⟩
        exact hn _ _ _ k1 k2 k3.but
      · cases h
    · rename_i l0 args m2 hu
      obtain ⟨rfl, l', off, sl, args', g1, g2, g3⟩ := eff_sound (P := P) ho.op hr hR hid hlt (hE ▸ hu)
      split at h
      · rename_i u m3 hcall
        simp only [Option.some.injEq, Prod.mk.injEq] at h
        obtain ⟨rfl, rfl⟩ := h
        obtain ⟨fn, tmps, asg, bd, k0, kk⟩ := SelfOk.round hs _ _ _ _ _ hcall ρ w args' l' off sl hR g1 g2
        rw [g3, k0]
        refine ⟨fun hd => by simp [Fence.wide] at hd, RoundIn.mono kk ?_⟩
        rintro e w' ⟨v', ρ', rfl, k1, k2, k3⟩
        exact hn _ _ _ k1 k2 k3.but
      · cases h
    · cases h

theorem op_ok {E : Env} {self : Self} (hE : E.P = P) (hS : SymOk σ E) (hs : SelfOk σ P self) {ops : Array Oper} {o' : Oper} {o : SOp} (ho : Strip ops o' o) {ρ : Rho} {m m' : Mem} {w : World} {a : Act} {t : List Value} {id : Nat} {v : Value} {l : Option Nat}
    (hR : Rel σ ρ m w) (ht : LRel σ ρ t a.tmps.toList) (hid : ρ id = none) (hlt : id < m.next) (h : opA E self id o t m = some (v, m'))
    {next : Act → World → Prop} {Q : Exit → Act → World → Prop} (hn : ∀ v' w' ρ', VRel σ ρ' v v' → Post σ ρ m w ρ' m' w' → OldBut m.next id ρ ρ' → next (a.put o'.dst v') w') : o'.wpIn (Fr l) 0 P a w next Q :=
  op_ok' hE hS hs ho hR (fun x hx => ev_rel hR ht (ho.plain x hx)) hid hlt h hn

/-- A region in its written order. -/
theorem seq_ok {E : Env} {self : Self} (hE : E.P = P) (hS : SymOk σ E) (hs : SelfOk σ P self) {ops : Array Oper} {l : Option Nat} {Q : Exit → Act → World → Prop} : ∀ (sl : List SOp) (i id : Nat),
    (∀ j s, sl[j]? = some s → ∃ o', ops[i + j]? = some o' ∧ Strip ops o' s) → ∀ {ρ : Rho} {m m' : Mem} {w : World} {a : Act} {t t' : List Value},
    Rel σ ρ m w → LRel σ ρ t a.tmps.toList → (∀ b, id ≤ b → b < id + sl.length → ρ b = none) → id + sl.length ≤ m.next → seqOps E self id sl t m = some (t', m') →
    (∀ a' w' ρ', LRel σ ρ' t' a'.tmps.toList → a'.defers = a.defers → Post σ ρ m w ρ' m' w' → (∀ b, b < m.next → (b < id ∨ id + sl.length ≤ b) → ρ b = none → ρ' b = none) → Q .normal a' w') →
    wpOpsIn (Fr l) 0 P ops Q (List.range' i sl.length) a w
  | [], i, id, hops, ρ, m, m', w, a, t, t', hR, ht, hfree, hnext, h, hQ => by
    simp only [seqOps, Option.some.injEq, Prod.mk.injEq] at h
    obtain ⟨rfl, rfl⟩ := h
    exact hQ a w ρ ht rfl (Post.refl hR) fun _ _ _ e => e
  | s :: sl, i, id, hops, ρ, m, m', w, a, t, t', hR, ht, hfree, hnext, h, hQ => by
    simp only [List.length_cons] at hnext hfree hQ
    obtain ⟨o', ho, hst⟩ := hops 0 s rfl
    simp only [Nat.add_zero] at ho
    have hops' : ∀ j s', sl[j]? = some s' → ∃ o', ops[i + 1 + j]? = some o' ∧ Strip ops o' s' := fun j s' hj => by
      have := hops (j + 1) s' (by simpa using hj)
      rwa [show i + 1 + j = i + (j + 1) from by omega]
    simp only [seqOps] at h
    simp only [List.length_cons, List.range'_succ]
    simp only [wpOpsIn, ho]
    unfold stepOp at h
    by_cases hgk : gOk s.guard t = false
    · simp only [hgk, if_true] at h
      cases h
    rw [if_neg hgk] at h
    rw [wanted_rel ht hst (by simpa using hgk)]
    by_cases hw : wanted s.guard t = true
    · simp only [hw, if_true] at h ⊢
      split at h
      · rename_i t1 m1 h1
        split at h1
        · rename_i v1 m2 h2
          simp only [Option.some.injEq, Prod.mk.injEq] at h1
          obtain ⟨rfl, rfl⟩ := h1
          refine op_ok hE hS hs hst hR ht (hfree id (Nat.le_refl _) (by omega)) (by omega) h2 fun v' w' ρ' g1 g2 g3 => ?_
          have hnn := g2.next
          refine seq_ok hE hS hs sl (i + 1) (id + 1) hops' g2.rel (hst.dst ▸ putT_rel (ht.mono g2.ext) g1 o'.dst) (fun b h3 h4 => g3 b (by omega) (by omega) (hfree b (by omega) (by omega))) (by omega) h
            fun a' w'' ρ'' k1 k2 k3 k4 => ?_
          refine hQ a' w'' ρ'' k1 (k2.trans (put_defers _ _ _)) (g2.trans k3) fun b h3 h4 h5 => ?_
          exact k4 b (by omega) (by omega) (g3 b h3 (by omega) h5)
        · cases h1
      · cases h
    · have hw' : wanted s.guard t = false := by simpa using hw
      simp only [hw', if_false, Bool.false_eq_true] at h ⊢
      refine ⟨fun _ _ => trivial, ?_⟩
      refine seq_ok hE hS hs sl (i + 1) (id + 1) hops' hR (hst.dst ▸ putT_rel ht (VRel.undef ρ) o'.dst) (fun b h3 h4 => hfree b (by omega) (by omega)) (by omega) h
            fun a' w'' ρ'' k1 k2 k3 k4 => ?_
      exact hQ a' w'' ρ'' k1 (k2.trans (put_defers _ _ _)) k3 fun b h3 h4 h5 => k4 b h3 (by omega) h5

theorem reg_ok {E : Env} {self : Self} (hE : E.P = P) (hS : SymOk σ E) (hs : SelfOk σ P self) {ops : Array Oper} {n : Nat} {sl : List SOp} (hst : stripAll ops ops.toList = some sl) {rd : Option Nat} {l : Option Nat} {lo : Nat} {ρ : Rho} {m m' : Mem} {w : World} {a : Act} {t t' : List Value}
    (hR : Rel σ ρ m w) (ht : LRel σ ρ t a.tmps.toList) (hm : Marks lo w a.defers) (h : stepCode E self rd (.reg sl) t m = some (.exit .normal t', m')) :
    (Code.region n ops false).wpIn (Fr l) 0 P (CPost σ ρ m w lo .normal t' m') a w := by
  apply wpIn_region
  obtain ⟨h1, h2⟩ := stripAll_at hst
  simp only [stepCode] at h
  split at h
  · rename_i t1 m1 hseq
    simp only [Option.some.injEq, Prod.mk.injEq, Out.exit.injEq, true_and] at h
    obtain ⟨rfl, rfl⟩ := h
    have hlen : ops.size = sl.length := by simpa using h1.symm
    rw [hlen, List.range_eq_range']
    refine seq_ok hE hS hs sl 0 m.next (fun j s hj => ?_) (hR.bump sl.length) ht (fun b hb _ => hR.dom b hb) (Nat.le_refl _) hseq fun a' w' ρ' g1 g2 g3 g4 => ?_
    · have hj' : j < ops.toList.length := by have := (List.getElem?_eq_some_iff.1 hj).1; omega
      obtain ⟨s', k1, k2⟩ := h2 j _ (List.getElem?_eq_getElem hj')
      rw [hj] at k1
      cases k1
      exact ⟨_, by rw [Nat.zero_add, ← Array.getElem?_toList]; exact List.getElem?_eq_getElem hj', k2⟩
    · exact ⟨rfl, rfl, ρ', g1, g2 ▸ hm.post hR ((Post.bump hR _).trans g3), (Post.bump hR _).trans g3, fun b hb e => g4 b (by simp; omega) (.inl hb) e⟩
  · cases h

end Go.Ab
