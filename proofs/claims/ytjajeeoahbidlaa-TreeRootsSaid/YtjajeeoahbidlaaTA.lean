/- Runs on open terms: what a piece of code comes to, as a proposition that 'simp' unfolds; its soundness. -/
import Derived.Test.YtjajeeoahbidlaaAbZ5
namespace Go.Ab
noncomputable section
variable {P : Program} {E : Env} {n0 : Nat}

/-! ### calls that are shown elsewhere -/
structure Inst where
  tk : Task
  m : Mem
  v : Value
  m' : Mem
def Inst.Ok (P : Program) (c : Inst) : Prop := Grow c.m c.m' ∧ match c.tk with
  | .call f args => CallOk Sig.none P f args c.m c.v c.m'
  | .round l args => RoundOk Sig.none P l args c.m c.v c.m'
  | .code .. => False
open Classical in
def tab : List Inst → Self
  | [], _, _ => none
  | c :: L, tk, m => if tk = c.tk ∧ m = c.m then some (.val c.v, c.m') else tab L tk m
def Good (P : Program) (L : List Inst) : Prop := (∀ c ∈ L, c.Ok P) ∧ ∀ c ∈ L, ∀ d ∈ L, c.tk = d.tk → c.m = d.m → c.v = d.v ∧ c.m' = d.m'

theorem tab_mem : ∀ {L : List Inst} {tk : Task} {m m' : Mem} {o : Out}, tab L tk m = some (o, m') → ∃ c ∈ L, tk = c.tk ∧ m = c.m ∧ o = .val c.v ∧ m' = c.m'
  | [], _, _, _, _, h => by cases h
  | c :: L, tk, m, m', o, h => by
    unfold tab at h
    split at h
    · rename_i hc
      cases h
      exact ⟨c, by simp, hc.1, hc.2, rfl, rfl⟩
    · obtain ⟨d, h1, h2⟩ := tab_mem h
      exact ⟨d, by simp [h1], h2⟩
theorem tab_at : ∀ {L : List Inst}, (∀ c ∈ L, ∀ d ∈ L, c.tk = d.tk → c.m = d.m → c.v = d.v ∧ c.m' = d.m') → ∀ c ∈ L, tab L c.tk c.m = some (.val c.v, c.m')
  | [], _, c, h => by cases h
  | d :: L, hg, c, h => by
    unfold tab
    by_cases e : c.tk = d.tk ∧ c.m = d.m
    · rw [if_pos e]
      obtain ⟨h1, h2⟩ := hg c h d (by simp) e.1 e.2
      rw [h1, h2]
    · rw [if_neg e]
      rcases List.mem_cons.1 h with rfl | h
      · exact absurd ⟨rfl, rfl⟩ e
      · exact tab_at (fun a ha b hb => hg a (by simp [ha]) b (by simp [hb])) c h
theorem tab_ok {L : List Inst} (h : Good P L) : SelfOk Sig.none P (tab L) := by
  refine ⟨fun f args m v m' hr => ?_, fun l args m v m' hr => ?_, fun rd c t m x t' m' hr => ?_⟩
  · obtain ⟨c, hc, h1, rfl, h3, rfl⟩ := tab_mem hr
    have := (h.1 c hc).2
    rw [← h1] at this
    cases h3
    exact this
  · obtain ⟨c, hc, h1, rfl, h3, rfl⟩ := tab_mem hr
    have := (h.1 c hc).2
    rw [← h1] at this
    cases h3
    exact this
  · obtain ⟨c, hc, h1, rfl, h3, rfl⟩ := tab_mem hr
    cases h3
theorem tab_grow {L : List Inst} (h : Good P L) : ∀ tk m o m', tab L tk m = some (o, m') → Grow m m' := by
  intro tk m o m' hr
  obtain ⟨c, hc, h1, rfl, h3, rfl⟩ := tab_mem hr
  exact (h.1 c hc).1

/-! ### operations in a row -/
def runX (E : Env) (self : Self) (base : Nat) : List (Nat × SOp) → List Value → Mem → Option (List Value × Mem)
  | [], t, m => some (t, m)
  | (i, o) :: rest, t, m => match stepOp E self (base + i) o t m with
    | some (t', m') => runX E self base rest t' m'
    | none => none

/-- The task that an operation asks for. -/
def reqA (P : Program) (o : SOp) (r : Operand → Value) (m : Mem) : Option (Task × Mem) := match cls o.op with
  | .eff => match effA P 0 o r m with
    | some (.call f args, m1) => some (.call f args, m1)
    | some (.round l args, m1) => some (.round l args, m1)
    | _ => none
  | _ => none

abbrev noSelf : Self := fun _ _ => none

def StepX (E : Env) (L : List Inst) (id : Nat) (o : SOp) (t : List Value) (m : Mem) (K : List Inst → Value → Mem → Prop) : Prop :=
  (∃ v m', opA E noSelf id o t m = some (v, m') ∧ K L v m') ∨
  (∃ tk m1 v m2, reqA E.P o (ev · t) m = some (tk, m1) ∧ (⟨tk, m1, v, m2⟩ : Inst).Ok E.P ∧ (∀ c ∈ L, c.tk = tk → c.m = m1 → c.v = v ∧ c.m' = m2) ∧ K (⟨tk, m1, v, m2⟩ :: L) v m2)

def XW (E : Env) (base : Nat) : List (Nat × SOp) → List Inst → List Value → Mem → (List Inst → List Value → Mem → Prop) → Prop
  | [], L, t, m, Q => Q L t m
  | (i, o) :: rest, L, t, m, Q => gOk o.guard t = true ∧
    ((wanted o.guard t = true ∧ StepX E L (base + i) o t m fun L' v m' => XW E base rest L' (putT o.dst v t) m' Q) ∨ (wanted o.guard t = false ∧ XW E base rest L (putT o.dst undef t) m Q))

theorem opA_self {self : Self} {id : Nat} {o : SOp} {t : List Value} {m : Mem} {r : Value × Mem} (h : opA E noSelf id o t m = some r) : opA E self id o t m = some r := by
  unfold opA at h ⊢
  split at h
  · exact h
  · exact h
  · exact h
  · split at h
    · exact h
    · cases h
    · cases h
    · cases h
theorem effA_id {id : Nat} {o : SOp} {r : Operand → Value} {m m1 : Mem} {q : Req} (hq : ∀ v, q ≠ .val v) (h : effA P 0 o r m = some (q, m1)) : effA P id o r m = some (q, m1) := by
  unfold effA at h ⊢
  split at h <;> first | exact h | skip
  split at h <;> first | exact h | skip
  split at h <;> first | exact h | skip
  rename_i s x _ _
  cases hap : appendA P 0 _ (r s) (r x) m with
  | none => rw [hap] at h; cases h
  | some q' => rw [hap] at h; cases h; exact absurd rfl (hq _)
theorem opA_req {L : List Inst} {id : Nat} {o : SOp} {t : List Value} {m m1 : Mem} {tk : Task} {v : Value} {m2 : Mem} (h : reqA E.P o (ev · t) m = some (tk, m1)) (hl : tab L tk m1 = some (.val v, m2)) : opA E (tab L) id o t m = some (v, m2) := by
  unfold reqA at h
  split at h
  · rename_i hc
    unfold opA
    rw [hc]
    simp only
    split at h
    · rename_i f args m1' he
      cases h
      rw [effA_id (id := id) (fun v => by simp) he]
      simp only [hl]
    · rename_i l args m1' he
      cases h
      rw [effA_id (id := id) (fun v => by simp) he]
      simp only [hl]
    · cases h
  · cases h

theorem Good.cons {L : List Inst} {c : Inst} (h : Good P L) (hc : c.Ok P) (hk : ∀ d ∈ L, d.tk = c.tk → d.m = c.m → d.v = c.v ∧ d.m' = c.m') : Good P (c :: L) := by
  refine ⟨fun d hd => ?_, fun a ha b hb e1 e2 => ?_⟩
  · rcases List.mem_cons.1 hd with rfl | hd
    · exact hc
    · exact h.1 d hd
  · rcases List.mem_cons.1 ha with ia | ia <;> rcases List.mem_cons.1 hb with ib | ib
    · subst ia; subst ib; exact ⟨rfl, rfl⟩
    · subst ia
      obtain ⟨h1, h2⟩ := hk b ib e1.symm e2.symm
      exact ⟨h1.symm, h2.symm⟩
    · subst ib; exact hk a ia e1 e2
    · exact h.2 a ia b ib e1 e2

theorem XW.run {base : Nat} {Q : List Inst → List Value → Mem → Prop} : ∀ {xs : List (Nat × SOp)} {L : List Inst} {t : List Value} {m : Mem}, Good E.P L → XW E base xs L t m Q →
    ∃ L' t' m', (∀ c ∈ L, c ∈ L') ∧ Good E.P L' ∧ runX E (tab L') base xs t m = some (t', m') ∧ Q L' t' m'
  | [], L, t, m, hL, h => ⟨L, t, m, fun _ h => h, hL, rfl, h⟩
  | (i, o) :: rest, L, t, m, hL, h => by
    obtain ⟨hg, ⟨hw, hs⟩ | ⟨hw, hs⟩⟩ := h
    · rcases hs with ⟨v, m', ho, hk⟩ | ⟨tk, m1, v, m2, hr, hok, hc, hk⟩
      · obtain ⟨L', t', m'', h1, h2, h3, h4⟩ := XW.run hL hk
        refine ⟨L', t', m'', h1, h2, ?_, h4⟩
        unfold runX stepOp
        rw [if_neg (by simp [hg]), if_pos hw, opA_self ho]
        exact h3
      · obtain ⟨L', t', m'', h1, h2, h3, h4⟩ := XW.run (hL.cons hok hc) hk
        refine ⟨L', t', m'', fun c hc => h1 c (by simp [hc]), h2, ?_, h4⟩
        unfold runX stepOp
        rw [if_neg (by simp [hg]), if_pos hw, opA_req hr (tab_at h2.2 ⟨tk, m1, v, m2⟩ (h1 _ (List.mem_cons_self)))]
        exact h3
    · obtain ⟨L', t', m'', h1, h2, h3, h4⟩ := XW.run hL hs
      refine ⟨L', t', m'', h1, h2, ?_, h4⟩
      unfold runX stepOp
      rw [if_neg (by simp [hg]), if_neg (by simp [hw])]
      exact h3

def enumF : Nat → List SOp → List (Nat × SOp)
  | _, [] => []
  | i, o :: l => (i, o) :: enumF (i + 1) l
theorem seq_runX {self : Self} : ∀ {ops : List SOp} {base i : Nat} {t : List Value} {m : Mem}, seqOps E self (base + i) ops t m = runX E self base (enumF i ops) t m
  | [], _, _, _, _ => rfl
  | o :: l, base, i, t, m => by
    unfold seqOps enumF runX
    cases stepOp E self (base + i) o t m with
    | none => rfl
    | some q => exact seq_runX (i := i + 1)
/-- In this order, nothing is read again. -/
def pickX (ops : List SOp) : List (Nat × List Nat) → Option (List (Nat × SOp))
  | [] => some []
  | (i, re) :: l => match ops[i]?, pickX ops l with
    | some o, some xs => if re.isEmpty then some ((i, o) :: xs) else none
    | _, _ => none
theorem dr_runX {self : Self} {base : Nat} {ops : List SOp} : ∀ {ord : List (Nat × List Nat)} {xs : List (Nat × SOp)} {hist : List (Nat × Mem)} {t : List Value} {m : Mem}, pickX ops ord = some xs → drOps E self base ops ord hist t m = runX E self base xs t m
  | [], xs, hist, t, m, h => by cases h; rfl
  | (i, re) :: l, xs, hist, t, m, h => by
    unfold pickX at h
    split at h
    · rename_i o xs' ho hx
      split at h
      · rename_i he
        cases h
        have he : re = [] := by simpa using he
        subst he
        unfold drOps runX
        simp only [ho]
        rw [if_pos (.inr rfl)]
        cases stepOp E self (base + i) o t m with
        | none => rfl
        | some q => exact dr_runX hx
      · cases h
    · cases h

/-! ### operations in a row, some of which read again -/
def lookK : List (Nat × Option Mem) → Nat → Option Mem
  | [], _ => none
  | (i, x) :: l, k => if i = k then x else lookK l k
/-- What is read is read alike ahead of the effects. -/
def reP (E : Env) (o : SOp) (t : List Value) (m : Mem) (h : List (Nat × Option Mem)) : List Nat → Prop
  | [] => True
  | e :: l => (∃ v, readE E o (ev · t) m = some v ∧ ∃ me, lookK h e = some me ∧ ∃ u, readE E o (ev · t) me = some u ∧ E.eqv v u = true) ∧ reP E o t m h l
def ReW (E : Env) (o : SOp) (t : List Value) (m : Mem) (h : List (Nat × Option Mem)) : List Nat → Prop
  | [] => True
  | e :: l => gOk o.guard t = true ∧ (wanted o.guard t = true → reP E o t m h (e :: l))
def keepM : Bool → Mem → Option Mem
  | true, m => some m
  | false, _ => none
def YW (E : Env) (base : Nat) : List (Nat × SOp × List Nat × Bool) → List (Nat × Option Mem) → List Inst → List Value → Mem → (List Inst → List Value → Mem → Prop) → Prop
  | [], _, L, t, m, Q => Q L t m
  | (i, o, re, keep) :: rest, h, L, t, m, Q => ReW E o t m h re ∧ XW E base [(i, o)] L t m fun L' t' m' => YW E base rest ((i, keepM keep m) :: h) L' t' m' Q
def drY (E : Env) (self : Self) (base : Nat) : List (Nat × SOp × List Nat × Bool) → List (Nat × Mem) → List Value → Mem → Option (List Value × Mem)
  | [], _, t, m => some (t, m)
  | (i, o, re, _) :: rest, H, t, m => if wanted o.guard t = false ∨ reOk E o t m H re = true then match stepOp E self (base + i) o t m with
    | some (t', m') => drY E self base rest ((i, m) :: H) t' m'
    | none => none
    else none
def HistOk : List (Nat × Option Mem) → List (Nat × Mem) → Prop
  | [], [] => True
  | (i, x) :: h, (j, m) :: H => i = j ∧ (x = none ∨ x = some m) ∧ HistOk h H
  | _, _ => False
theorem HistOk.look : ∀ {h : List (Nat × Option Mem)} {H : List (Nat × Mem)} {k : Nat} {m : Mem}, HistOk h H → lookK h k = some m → lookH H k = some m
  | [], [], _, _, _, h => by cases h
  | [], _ :: _, _, _, hh, _ => hh.elim
  | _ :: _, [], _, _, hh, _ => by unfold HistOk at hh; exact hh.elim
  | (i, x) :: h, (j, y) :: H, k, m, hh, hk => by
    obtain ⟨rfl, h2, h3⟩ := hh
    unfold lookK at hk
    unfold lookH
    split at hk
    · rw [if_pos (by assumption)]
      rcases h2 with rfl | rfl
      · cases hk
      · exact hk
    · rw [if_neg (by assumption)]
      exact h3.look hk
theorem reP.ok {o : SOp} {t : List Value} {m : Mem} {h : List (Nat × Option Mem)} {H : List (Nat × Mem)} (hh : HistOk h H) : ∀ {re : List Nat}, reP E o t m h re → reOk E o t m H re = true
  | [], _ => rfl
  | e :: l, hr => by
    obtain ⟨⟨v, h1, me, h2, u, h3, h4⟩, h5⟩ := hr
    have := reP.ok hh h5
    unfold reOk at this ⊢
    rw [List.all_cons, this, Bool.and_true]
    simp only [hh.look h2, h1, h3, h4]
theorem ReW.ok {o : SOp} {t : List Value} {m : Mem} {h : List (Nat × Option Mem)} {H : List (Nat × Mem)} (hh : HistOk h H) {re : List Nat} (hr : ReW E o t m h re) : wanted o.guard t = false ∨ reOk E o t m H re = true := by
  cases re with
  | nil => exact .inr rfl
  | cons e l =>
    cases hw : wanted o.guard t with
    | false => exact .inl rfl
    | true => exact .inr (reP.ok hh (hr.2 hw))
theorem keep_ok (k : Bool) (m : Mem) : keepM k m = none ∨ keepM k m = some m := by cases k <;> simp [keepM]
theorem HistOk.cons {i : Nat} {k : Bool} {m : Mem} {h : List (Nat × Option Mem)} {H : List (Nat × Mem)} (hh : HistOk h H) : HistOk ((i, keepM k m) :: h) ((i, m) :: H) := by
  unfold HistOk
  exact ⟨rfl, keep_ok k m, hh⟩
theorem YW.run {base : Nat} {Q : List Inst → List Value → Mem → Prop} : ∀ {ys : List (Nat × SOp × List Nat × Bool)} {h : List (Nat × Option Mem)} {H : List (Nat × Mem)} {L : List Inst} {t : List Value} {m : Mem}, Good E.P L → HistOk h H → YW E base ys h L t m Q →
    ∃ L' t' m', (∀ c ∈ L, c ∈ L') ∧ Good E.P L' ∧ drY E (tab L') base ys H t m = some (t', m') ∧ Q L' t' m'
  | [], h, H, L, t, m, hL, _, hh => ⟨L, t, m, fun _ h => h, hL, rfl, hh⟩
  | (i, o, re, k) :: rest, h, H, L, t, m, hL, hH, hh => by
    obtain ⟨hre, hg, ⟨hw, hs⟩ | ⟨hw, hs⟩⟩ := hh
    · rcases hs with ⟨v, m', ho, hk⟩ | ⟨tk, m1, v, m2, hr, hok, hc, hk⟩
      · obtain ⟨L', t', m'', h1, h2, h3, h4⟩ := YW.run (H := (i, m) :: H) hL hH.cons hk
        refine ⟨L', t', m'', h1, h2, ?_, h4⟩
        unfold drY stepOp
        rw [if_pos (hre.ok hH), if_neg (by simp [hg]), if_pos hw, opA_self ho]
        exact h3
      · obtain ⟨L', t', m'', h1, h2, h3, h4⟩ := YW.run (H := (i, m) :: H) (hL.cons hok hc) hH.cons hk
        refine ⟨L', t', m'', fun c hc => h1 c (by simp [hc]), h2, ?_, h4⟩
        unfold drY stepOp
        rw [if_pos (hre.ok hH), if_neg (by simp [hg]), if_pos hw, opA_req hr (tab_at h2.2 ⟨tk, m1, v, m2⟩ (h1 _ (List.mem_cons_self)))]
        exact h3
    · obtain ⟨L', t', m'', h1, h2, h3, h4⟩ := YW.run (H := (i, m) :: H) hL hH.cons hs
      refine ⟨L', t', m'', h1, h2, ?_, h4⟩
      unfold drY stepOp
      rw [if_pos (hre.ok hH), if_neg (by simp [hg]), if_neg (by simp [hw])]
      exact h3
def pickY (ops : List SOp) : List (Nat × List Nat) → Option (List (Nat × SOp × List Nat × Bool))
  | [] => some []
  | (i, re) :: l => match ops[i]?, pickY ops l with
    | some o, some ys => some ((i, o, re, l.any fun p => p.2.contains i) :: ys)
    | _, _ => none
theorem dr_runY {self : Self} {base : Nat} {ops : List SOp} : ∀ {ord : List (Nat × List Nat)} {ys : List (Nat × SOp × List Nat × Bool)} {hist : List (Nat × Mem)} {t : List Value} {m : Mem}, pickY ops ord = some ys → drOps E self base ops ord hist t m = drY E self base ys hist t m
  | [], ys, hist, t, m, h => by cases h; rfl
  | (i, re) :: l, ys, hist, t, m, h => by
    unfold pickY at h
    split at h
    · rename_i o ys' ho hx
      cases h
      unfold drOps drY
      simp only [ho]
      split
      · cases stepOp E self (base + i) o t m with
        | none => rfl
        | some q => exact dr_runY hx
      · rfl
    · cases h

/-! ### code -/
def bump (m : Mem) (n : Nat) : Mem := m.bump n
/-- Rounds of a loop; ahead of each one, and behind the last one, the state may be looked at anew. -/
def LW (n0 : Nat) (rd : Option Nat) (B : List Value → Mem → (Exit → List Value → Mem → Prop) → Prop) : Nat → List Value → Mem → (Exit → List Value → Mem → Prop) → Prop
  | 0, _, _, _ => False
  | N + 1, t, m, Q => ∃ t1 m1, View Sig.none Sig.none n0 rd t m t1 m1 ∧ B t1 m1 fun x t' m' => match x with
    | .normal => LW n0 rd B N t' m' Q
    | x => ∃ t2 m2, View Sig.none Sig.none n0 rd t' m' t2 m2 ∧ Q x t2 m2

def WX (E : Env) (n0 : Nat) (rd : Option Nat) : SCode → List Value → Mem → (Exit → List Value → Mem → Prop) → Prop
  | .skip, t, m, Q => Q .normal t m
  | .exit i, t, m, Q => Q (.exit i) t m
  | .ret, t, m, Q => Q .ret t m
  | .seq a b, t, m, Q => WX E n0 rd a t m fun x t' m' => match x with
    | .normal => WX E n0 rd b t' m' Q
    | x => Q x t' m'
  | .cond c a b, t, m, Q => match ev c t with
    | .bool v => (v = true → WX E n0 rd a t m Q) ∧ (v = false → WX E n0 rd b t m Q)
    | _ => False
  | .block i b, t, m, Q => WX E n0 rd b t m fun x t' m' => Q (match x with | .exit k => if k = i then .normal else .exit k | x => x) t' m'
  | .loop b, t, m, Q => ∃ N, LW n0 rd (WX E n0 rd b) N t m Q
  | .reg ops, t, m, Q => n0 ≤ m.next ∧ XW E m.next (enumF 0 ops) [] t (m.bump ops.length) fun _ => Q .normal
  | .dreg ops ord, t, m, Q => n0 ≤ m.next ∧ match pickX ops ord with
    | some xs => XW E m.next xs [] t (m.bump ops.length) fun _ => Q .normal
    | none => match pickY ops ord with
      | some ys => YW E m.next ys [] [] t (m.bump ops.length) fun _ => Q .normal
      | none => False
  | .scope b, t, m, Q => WX E n0 rd b t m fun x t' m' => (∀ l, x ≠ .goto l) ∧ Q x t' m'
  | .label _, t, m, Q => Q .normal t m
  | .rfn f ps sa sb, t, m, Q => ∃ x t' m', TOk Sig.none Sig.none E.P n0 rd (.rfn f ps sa sb) t m x t' m' ∧ Q x t' m'
  | _, _, _, _ => False

/-- What is known of the environment. -/
structure EnvOk (E : Env) : Prop where
  eqv : ∀ v u, E.eqv v u = true → v = u
  sym : SymOk Sig.none E
  mixed : E.P.follows .mixedOrders = true

theorem TRounds_of {b : SCode} {rd : Option Nat} {Q : Exit → List Value → Mem → Prop} (hB : ∀ {t : List Value} {m : Mem} {Q : Exit → List Value → Mem → Prop}, WX E n0 rd b t m Q → ∃ x t' m', TOk Sig.none Sig.none E.P n0 rd b t m x t' m' ∧ Q x t' m') :
    ∀ {N : Nat} {t : List Value} {m : Mem}, LW n0 rd (WX E n0 rd b) N t m Q → ∃ K x t' m', TRounds Sig.none Sig.none E.P n0 rd b K t m x t' m' ∧ Q x t' m'
  | 0, _, _, h => h.elim
  | N + 1, t, m, h => by
    obtain ⟨t1, m1, hv, hb⟩ := h
    obtain ⟨x, t2, m2, h1, h2⟩ := hB hb
    by_cases hx : x = .normal
    · subst hx
      obtain ⟨K, x, t3, m3, h3, h4⟩ := TRounds_of hB h2
      exact ⟨K + 1, x, t3, m3, TRounds.pre hv (TRounds.more h1 h3), h4⟩
    · have h2 : ∃ t3 m3, View Sig.none Sig.none n0 rd t2 m2 t3 m3 ∧ Q x t3 m3 := by
        cases x <;> first | exact absurd rfl hx | exact h2
      obtain ⟨t3, m3, h3, h4⟩ := h2
      exact ⟨1, x, t3, m3, TRounds.pre hv (TRounds.last (TOk.view h1 h3) hx), h4⟩

theorem WX.ok (hE : EnvOk E) {rd : Option Nat} : ∀ {c : SCode} {t : List Value} {m : Mem} {Q : Exit → List Value → Mem → Prop}, WX E n0 rd c t m Q → ∃ x t' m', TOk Sig.none Sig.none E.P n0 rd c t m x t' m' ∧ Q x t' m' := by
  intro c
  induction c with
  | skip =>
    intro t m Q h
    refine ⟨.normal, t, m, ?_, h⟩
    intro k ρ w a l lo h1 h2 h3 h4 h5 h6
    rw [comp_skip h1]
    exact wpIn_skip ⟨rfl, rfl, ρ, h3, h4, (Post.refl h2).fpost, h6, fun _ _ => rfl⟩
  | exit i =>
    intro t m Q h
    refine ⟨.exit i, t, m, ?_, h⟩
    intro k ρ w a l lo h1 h2 h3 h4 h5 h6
    rw [comp_exit h1]
    exact wpIn_exit ⟨rfl, rfl, ρ, h3, h4, (Post.refl h2).fpost, h6, fun _ _ => rfl⟩
  | ret =>
    intro t m Q h
    refine ⟨.ret, t, m, ?_, h⟩
    intro k ρ w a l lo h1 h2 h3 h4 h5 h6
    rw [comp_ret h1]
    exact wpIn_ret ⟨rfl, rfl, ρ, h3, h4, (Post.refl h2).fpost, h6, fun _ _ => rfl⟩
  | seq a b iha ihb =>
    intro t m Q h
    obtain ⟨x, t1, m1, h1, h2⟩ := iha h
    by_cases hx : x = .normal
    · subst hx
      obtain ⟨x, t2, m2, h3, h4⟩ := ihb h2
      exact ⟨x, t2, m2, TOk.seq h1 h3, h4⟩
    · refine ⟨x, t1, m1, TOk.seq_out h1 hx, ?_⟩
      cases x <;> first | exact absurd rfl hx | exact h2
  | cond c a b iha ihb =>
    intro t m Q h
    simp only [WX] at h
    split at h
    · rename_i v hv
      cases v with
      | true =>
        obtain ⟨x, t1, m1, h1, h2⟩ := iha (h.1 rfl)
        exact ⟨x, t1, m1, TOk.cond true hv h1, h2⟩
      | false =>
        obtain ⟨x, t1, m1, h1, h2⟩ := ihb (h.2 rfl)
        exact ⟨x, t1, m1, TOk.cond false hv h1, h2⟩
    · exact h.elim
  | block i b ih =>
    intro t m Q h
    obtain ⟨x, t1, m1, h1, h2⟩ := ih h
    refine ⟨_, t1, m1, TOk.block h1, ?_⟩
    cases x <;> exact h2
  | loop b ih =>
    intro t m Q h
    obtain ⟨N, h⟩ := h
    obtain ⟨K, x, t1, m1, h1, h2⟩ := TRounds_of (fun h => ih h) h
    exact ⟨x, t1, m1, TOk.loop h1, h2⟩
  | reg ops =>
    intro t m Q h
    obtain ⟨hn, h⟩ := h
    obtain ⟨L, t', m', _, h2, h3, h4⟩ := XW.run ⟨by simp, by simp⟩ h
    refine ⟨.normal, t', m', TOk.of_code hn ?_, h4⟩
    intro k ρ w a l lo k1 k2 k3 k4 k5 k6
    obtain ⟨n, ops', rfl, hst⟩ := comp_reg k1
    refine reg_ok rfl hE.sym (tab_ok h2) hst k2 k3 k4 ?_ (rd := rd)
    have := seq_runX (E := E) (self := tab L) (ops := ops) (base := m.next) (i := 0) (t := t) (m := m.bump ops.length)
    rw [h3] at this
    simp only [stepCode]
    rw [show m.next = m.next + 0 from rfl, this]
  | dreg ops ord =>
    intro t m Q h
    obtain ⟨hn, h⟩ := h
    split at h
    · rename_i xs hx
      obtain ⟨L, t', m', _, h2, h3, h4⟩ := XW.run ⟨by simp, by simp⟩ h
      refine ⟨.normal, t', m', TOk.of_code hn ?_, h4⟩
      intro k ρ w a l lo k1 k2 k3 k4 k5 k6
      obtain ⟨n, ops', rfl, hst, ho⟩ := comp_dreg k1
      refine dreg_ok (E := E) (self := tab L) hE.sym (tab_ok h2) (tab_grow h2) hE.eqv hE.mixed hst ho k2 k3 k4 ?_ (rd := rd)
      simp only [stepCode]
      rw [dr_runX hx, h3]
    · split at h
      · rename_i ys hx
        obtain ⟨L', t', m', _, h2, h3, h4⟩ := YW.run (H := []) ⟨by simp, by simp⟩ (by unfold HistOk; trivial) h
        refine ⟨.normal, t', m', TOk.of_code hn ?_, h4⟩
        intro k ρ w a l lo k1 k2 k3 k4 k5 k6
        obtain ⟨n, ops', rfl, hst, ho⟩ := comp_dreg k1
        refine dreg_ok (E := E) (self := tab L') hE.sym (tab_ok h2) (tab_grow h2) hE.eqv hE.mixed hst ho k2 k3 k4 ?_ (rd := rd)
        simp only [stepCode]
        rw [dr_runY hx, h3]
      · exact h.elim
  | scope b ih =>
    intro t m Q h
    obtain ⟨x, t1, m1, h1, h2, h3⟩ := ih h
    exact ⟨x, t1, m1, TOk.scope h1 h2, h3⟩
  | label i =>
    intro t m Q h
    refine ⟨.normal, t, m, ?_, h⟩
    intro k ρ w a l lo h1 h2 h3 h4 h5 h6
    obtain rfl := comp_label h1
    exact wpIn_label ⟨rfl, rfl, ρ, h3, h4, (Post.refl h2).fpost, h6, fun _ _ => rfl⟩
  | goto => intro t m Q h; exact h.elim
  | again => intro t m Q h; exact h.elim
  | rfn f ps sa sb => intro t m Q h; exact h
end
end Go.Ab
