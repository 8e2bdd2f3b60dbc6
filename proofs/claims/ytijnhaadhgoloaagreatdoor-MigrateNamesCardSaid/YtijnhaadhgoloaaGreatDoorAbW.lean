/- An interpreter of our own: what the fast form answers, the interpreter answers. -/
import Derived.Test.YtijnhaadhgoloaaGreatDoorAbV
namespace Go.Ab

theorem oStore_eq (self : SelfF) (x : Option Mem) : oStore x = oEff self (x.map fun m' => (.val undef, m')) := by cases x <;> rfl

theorem opF_eq (P : Program) (self : SelfF) (id : Nat) (o : SOp) (r : Operand → Value) (m : Mem) : opF P self id o.op o.type r m = (match cls o.op with
    | .pure => oPure (pureA P o r) m
    | .read => oPure (readA P o r m) m
    | .make => oMake (makeA P o r) id m
    | .eff => oEff self (effA P id o r m)) := by
  obtain ⟨d, op, ty, g⟩ := o
  cases op with
  | binOp op t x y g =>
    cases op with
    | eql => exact oEq_eq P (.inl rfl) t x y (r x) (r y) m
    | neq => exact oEq_eq P (.inr rfl) t x y (r x) (r y) m
    | _ => rfl
  | store t a x => exact oStore_eq self _
  | mapUpdate t mp k x => exact oStore_eq self _
  | insert t mp k x => exact oStore_eq self _
  | call c =>
    obtain ⟨callee, args, at_⟩ := c
    cases callee with
    | builtin b => cases b <;> rfl
    | _ => rfl
  | box e v =>
    show (if isJunk (r v) then none else some (ptr id 0, m.put id (.cells (.ofList (r v).cells.toList) true 0))) = oMake (if isJunk (r v) then none else some (.cells (.ofList (r v).cells.toList) true 0, fun id => ptr id 0)) id m
    cases isJunk (r v) <;> rfl
  | _ => rfl

structure Sim (sF : SelfF) (s : Self) : Prop where
  code : ∀ {rd c t l m x t' m'}, TL t l → sF (.code rd c t) m = some (.exit x t', m') → ∃ l', TL t' l' ∧ s (.code rd c l) m = some (.exit x l', m')
  call : ∀ {f args m v m'}, sF (.call f args) m = some (.val v, m') → s (.call f args) m = some (.val v, m')
  round : ∀ {k args m v m'}, sF (.round k args) m = some (.val v, m') → s (.round k args) m = some (.val v, m')

variable {E : Env} {sF : SelfF} {s : Self}

theorem oVal_some {x : Option (OutF × Mem)} {q : Value × Mem} (h : oVal x = some q) : x = some (.val q.1, q.2) := by
  unfold oVal at h
  split at h
  · cases h; rfl
  · cases h

theorem op_sim (hs : Sim sF s) {t : T} {l : List Value} (ht : TL t l) {id : Nat} {o : SOp} {m : Mem} {q : Value × Mem} (h : opF E.P sF id o.op o.type (fun x => evF x t) m = some q) : opA E s id o l m = some q := by
  rw [opF_eq, evF_eq ht] at h
  unfold opA
  cases hc : cls o.op with
  | pure =>
    rw [hc] at h
    simp only at h ⊢
    cases hx : pureA E.P o (fun x => ev x l) with
    | none => rw [hx] at h; cases h
    | some v => rw [hx] at h; simp only [pureE, hx]; exact h
  | read =>
    rw [hc] at h
    simp only at h ⊢
    cases hx : readA E.P o (fun x => ev x l) m with
    | none => rw [hx] at h; cases h
    | some v => rw [hx] at h; simp only [readE, hx]; exact h
  | make =>
    rw [hc] at h
    simp only at h ⊢
    cases hx : makeA E.P o (fun x => ev x l) with
    | none => rw [hx] at h; cases h
    | some v => rw [hx] at h; exact h
  | eff =>
    rw [hc] at h
    simp only at h ⊢
    cases hx : effA E.P id o (fun x => ev x l) m with
    | none => rw [hx] at h; cases h
    | some v =>
      rw [hx] at h
      obtain ⟨rq, m1⟩ := v
      cases rq with
      | val v => exact h
      | call f args =>
        have h1 := hs.call (oVal_some h)
        simp only [h1]
      | round k args =>
        have h1 := hs.round (oVal_some h)
        simp only [h1]

theorem seqF_cons (P : Program) (self : SelfF) (o : SOp) (ops : List SOp) (id : Nat) (t : T) (m : Mem) : seqF P self (o :: ops) id t m = (match gF o.guard t with
    | none => none
    | some false => seqF P self ops (id + 1) (T.put? o.dst undef t) m
    | some true => match opF P self id o.op o.type (fun x => evF x t) m with
      | none => none
      | some (v, m') => seqF P self ops (id + 1) (T.put? o.dst v t) m') := by
  show Option.rec (motive := fun _ => Option (T × Mem)) none _ (gF o.guard t) = _
  cases gF o.guard t with
  | none => rfl
  | some b => cases b with
    | false => rfl
    | true =>
      show Option.rec (motive := fun _ => Option (T × Mem)) none _ (opF P self id o.op o.type (fun x => evF x t) m) = _
      cases opF P self id o.op o.type (fun x => evF x t) m with
      | none => rfl
      | some q => rfl

theorem step_sim (hs : Sim sF s) {t : T} {l : List Value} (ht : TL t l) {id : Nat} {o : SOp} {m : Mem} :
    (∀ {q : Value × Mem}, gF o.guard t = some true → opF E.P sF id o.op o.type (fun x => evF x t) m = some q → stepOp E s id o l m = some (putT o.dst q.1 l, q.2)) ∧
    (gF o.guard t = some false → stepOp E s id o l m = some (putT o.dst undef l, m)) := by
  rw [gF_eq ht]
  unfold stepOp
  by_cases hg : gOk o.guard l = false
  · simp [hg]
  · simp only [hg]
    refine ⟨fun {q} h1 h2 => ?_, fun h1 => ?_⟩
    · have hw : wanted o.guard l = true := by simpa using h1
      simp only [hw, op_sim hs ht h2]
      rfl
    · have hw : wanted o.guard l = false := by simpa using h1
      simp [hw]

theorem seq_sim (hs : Sim sF s) : ∀ {ops : List SOp} {id : Nat} {t t' : T} {l : List Value} {m m' : Mem}, TL t l → seqF E.P sF ops id t m = some (t', m') → ∃ l', TL t' l' ∧ seqOps E s id ops l m = some (l', m')
  | [], id, t, t', l, m, m', ht, h => by
    have h : some (t, m) = some (t', m') := h
    cases h
    exact ⟨l, ht, rfl⟩
  | o :: ops, id, t, t', l, m, m', ht, h => by
    rw [seqF_cons] at h
    simp only [seqOps]
    cases hg : gF o.guard t with
    | none => rw [hg] at h; cases h
    | some b =>
      rw [hg] at h
      cases b with
      | false =>
        simp only at h
        rw [(step_sim hs ht).2 hg]
        exact seq_sim hs (ht.put? o.dst undef) h
      | true =>
        simp only at h
        cases ho : opF E.P sF id o.op o.type (fun x => evF x t) m with
        | none => rw [ho] at h; cases h
        | some q =>
          rw [ho] at h
          rw [(step_sim hs ht).1 hg ho]
          exact seq_sim hs (ht.put? o.dst q.1) h

theorem dr_sim (hs : Sim sF s) {base : Nat} {ops : List SOp} : ∀ {ord : List (Nat × List Nat)} {hist : List (Nat × Mem)} {t t' : T} {l : List Value} {m m' : Mem}, TL t l → drF E sF base ops ord hist t m = some (t', m') →
    ∃ l', TL t' l' ∧ drOps E s base ops ord hist l m = some (l', m')
  | [], hist, t, t', l, m, m', ht, h => by
    have h : some (t, m) = some (t', m') := h
    cases h
    exact ⟨l, ht, rfl⟩
  | (i, re) :: ord, hist, t, t', l, m, m', ht, h => by
    simp only [drF] at h
    simp only [drOps]
    cases hi : ops[i]? with
    | none => rw [hi] at h; cases h
    | some o =>
      rw [hi] at h
      simp only at h ⊢
      have hgw := gF_eq ht o.guard
      cases hg : gF o.guard t with
      | none => rw [hg] at h; cases h
      | some b =>
        rw [hg] at h hgw
        have hwb : wanted o.guard l = b := by
          by_cases hok : gOk o.guard l = false
          · simp [hok] at hgw
          · simpa [hok] using hgw.symm
        cases b with
        | false =>
          simp only at h
          rw [if_pos (.inl hwb), (step_sim hs ht).2 hg]
          exact dr_sim hs (ht.put? o.dst undef) h
        | true =>
          simp only at h
          cases hre : reF E o (fun x => evF x t) m hist re with
          | false => rw [hre] at h; cases h
          | true =>
            rw [hre] at h
            simp only [cond_true] at h
            have hre' : reOk E o l m hist re = true := by
              rw [evF_eq ht] at hre
              exact hre
            rw [if_pos (.inr hre')]
            cases ho : opF E.P sF (base + i) o.op o.type (fun x => evF x t) m with
            | none => rw [ho] at h; cases h
            | some q =>
              rw [ho] at h
              rw [(step_sim hs ht).1 hg ho]
              exact dr_sim hs (ht.put? o.dst q.1) h

theorem res_sim {P : Program} {t : T} {l : List Value} (ht : TL t l) {m : Mem} : ∀ (rs : List ResultVar), resF P t m rs = resA P l m rs
  | [] => rfl
  | .tmp k :: rs => by simp only [resF, resA, res_sim ht rs, ht.2 k]; rfl
  | .cell k ty :: rs => by simp only [resF, resA, res_sim ht rs, ht.2 k]; rfl

theorem stepC_sim (hs : Sim sF s) {rd : Option Nat} {c : SCode} {t t' : T} {l : List Value} {m m' : Mem} {x : Exit} (ht : TL t l) (h : stepCF E sF rd c t m = some (.exit x t', m')) : ∃ l', TL t' l' ∧ stepCode E s rd c l m = some (.exit x l', m') := by
  cases c with
  | skip => cases h; exact ⟨l, ht, rfl⟩
  | exit i => cases h; exact ⟨l, ht, rfl⟩
  | ret => cases h; exact ⟨l, ht, rfl⟩
  | seq a b =>
    simp only [stepCF] at h
    simp only [stepCode]
    unfold cSeq at h
    split at h
    · rename_i t1 m1 h1
      obtain ⟨l1, g1, g2⟩ := hs.code ht h1
      obtain ⟨l2, g3, g4⟩ := hs.code g1 h
      exact ⟨l2, g3, by rw [g2]; exact g4⟩
    · rename_i hne
      obtain ⟨l1, g1, g2⟩ := hs.code ht h
      refine ⟨l1, g1, ?_⟩
      rw [g2]
      cases x with
      | normal => exact absurd h (fun e => hne _ _ e)
      | _ => rfl
  | loop b =>
    simp only [stepCF] at h
    simp only [stepCode]
    unfold cSeq at h
    split at h
    · rename_i t1 m1 h1
      obtain ⟨l1, g1, g2⟩ := hs.code ht h1
      obtain ⟨l2, g3, g4⟩ := hs.code g1 h
      exact ⟨l2, g3, by rw [g2]; exact g4⟩
    · rename_i hne
      obtain ⟨l1, g1, g2⟩ := hs.code ht h
      refine ⟨l1, g1, ?_⟩
      rw [g2]
      cases x with
      | normal => exact absurd h (fun e => hne _ _ e)
      | _ => rfl
  | cond c a b =>
    simp only [stepCF] at h
    simp only [stepCode]
    have e : evF c t = ev c l := congrFun (evF_eq ht) c
    rw [e] at h
    unfold cCond at h
    split at h
    · rename_i hv
      obtain ⟨l1, g1, g2⟩ := hs.code ht h
      exact ⟨l1, g1, by rw [hv]; exact g2⟩
    · rename_i hv
      obtain ⟨l1, g1, g2⟩ := hs.code ht h
      exact ⟨l1, g1, by rw [hv]; exact g2⟩
    · cases h
  | block i b =>
    simp only [stepCF] at h
    simp only [stepCode]
    unfold cBlock at h
    split at h
    · rename_i k t1 m1 h1
      obtain ⟨l1, g1, g2⟩ := hs.code ht h1
      simp only [Option.some.injEq, Prod.mk.injEq, OutF.exit.injEq] at h
      obtain ⟨⟨rfl, rfl⟩, rfl⟩ := h
      exact ⟨l1, g1, by rw [g2]⟩
    · rename_i hne
      obtain ⟨l1, g1, g2⟩ := hs.code ht h
      refine ⟨l1, g1, ?_⟩
      rw [g2]
      cases x with
      | exit k => exact absurd h (fun e => hne _ _ _ e)
      | _ => rfl
  | label i => cases h; exact ⟨l, ht, rfl⟩
  | goto i => cases h; exact ⟨l, ht, rfl⟩
  | scope b =>
    simp only [stepCF] at h
    simp only [stepCode]
    unfold cScope at h
    split at h
    · rename_i k t1 m1 h1
      obtain ⟨l1, g1, g2⟩ := hs.code ht h1
      rw [g2]
      simp only
      cases hf : sFind b k with
      | none =>
        rw [hf] at h
        simp only [Option.some.injEq, Prod.mk.injEq, OutF.exit.injEq] at h
        obtain ⟨⟨rfl, rfl⟩, rfl⟩ := h
        exact ⟨l1, g1, rfl⟩
      | some r1 =>
        rw [hf] at h
        exact hs.code g1 h
    · rename_i hne
      obtain ⟨l1, g1, g2⟩ := hs.code ht h
      refine ⟨l1, g1, ?_⟩
      rw [g2]
      cases x with
      | goto k => exact absurd h (fun e => hne _ _ _ e)
      | _ => rfl
  | again b r =>
    simp only [stepCF] at h
    simp only [stepCode]
    unfold cScope at h
    split at h
    · rename_i k t1 m1 h1
      obtain ⟨l1, g1, g2⟩ := hs.code ht h1
      rw [g2]
      simp only
      cases hf : sFind b k with
      | none =>
        rw [hf] at h
        simp only [Option.some.injEq, Prod.mk.injEq, OutF.exit.injEq] at h
        obtain ⟨⟨rfl, rfl⟩, rfl⟩ := h
        exact ⟨l1, g1, rfl⟩
      | some r1 =>
        rw [hf] at h
        exact hs.code g1 h
    · rename_i hne
      obtain ⟨l1, g1, g2⟩ := hs.code ht h
      refine ⟨l1, g1, ?_⟩
      rw [g2]
      cases x with
      | goto k => exact absurd h (fun e => hne _ _ _ e)
      | _ => rfl
  | reg ops =>
    simp only [stepCF] at h
    simp only [stepCode]
    unfold cReg at h
    split at h
    · rename_i t1 m1 h1
      cases h
      obtain ⟨l1, g1, g2⟩ := seq_sim hs ht h1
      exact ⟨l1, g1, by rw [g2]⟩
    · cases h
  | dreg ops ord =>
    simp only [stepCF] at h
    simp only [stepCode]
    unfold cReg at h
    split at h
    · rename_i t1 m1 h1
      cases h
      obtain ⟨l1, g1, g2⟩ := dr_sim hs ht h1
      exact ⟨l1, g1, by rw [g2]⟩
    · cases h
  | rfn f ps asg bd =>
    simp only [stepCF] at h
    simp only [stepCode]
    have e : evF f t = ev f l := congrFun (evF_eq ht) f
    rw [e] at h
    unfold cRfn at h
    split at h
    · rename_i g first cap hv
      rw [hv]
      rw [ht.toList] at h
      have fin : ∀ b : Bool, (if b = true then cRfn1 m.next t (sF (.call g (first.toList ++ [.func (.yield m.next) #[] #[]] ++ cap.toList)) ((m.bump 1).put m.next (.loop { state := .ready, pend := none, tmps := l, ps := ps, assign := asg, body := bd }))) else none) = some (.exit x t', m') →
          ∃ l', TL t' l' ∧ (if b = true then
            match s (.call g (first.toList ++ [.func (.yield m.next) #[] #[]] ++ cap.toList)) ((m.bump 1).put m.next (.loop { state := .ready, pend := none, tmps := l, ps := ps, assign := asg, body := bd })) with
            | some (.val _, m2) => match m2.get m.next with
              | some (.loop r) => if r.state = .busy then none else
                match r.pend with
                | none => some (Out.exit .normal l, m2.put m.next (.loop { r with state := .exhausted }))
                | some x => if pendX x then some (.exit x l, m2.put m.next (.loop { r with state := .exhausted })) else none
              | _ => none
            | _ => none
            else none) = some (.exit x l', m') := by
        intro b h
        cases b with
        | false => cases h
        | true =>
          simp only [if_true] at h ⊢
          unfold cRfn1 at h
          split at h
          · rename_i v m2 h1
            rw [hs.call h1]
            simp only
            split at h
            · rename_i r hr
              simp only [hr]
              split at h
              · cases h
              · rename_i hb
                rw [if_neg hb]
                split at h
                · rename_i hp
                  cases h
                  exact ⟨l, ht, by simp only [hp]⟩
                · rename_i x' hp
                  split at h
                  · rename_i hpx
                    cases h
                    exact ⟨l, ht, by simp only [hp, hpx, if_true]⟩
                  · cases h
            · cases h
          · cases h
      exact fin _ h
    · cases h

theorem sim_succ (hs : Sim sF s) : Sim (stepF E sF) (step E s) := by
  refine ⟨fun {rd c t l m x t' m'} ht h => stepC_sim hs ht h, fun {f args m v m'} h => ?_, fun {k args m v m'} h => ?_⟩
  · simp only [stepF] at h
    simp only [step]
    cases hp : E.prim f with
    | some p =>
      rw [hp] at h
      simp only [fPrim] at h
      cases hq : p args m with
      | none => rw [hq] at h; cases h
      | some q => rw [hq] at h; cases h; simp only [hq]
    | none =>
      rw [hp] at h
      simp only [fCall] at h
      cases hf : fnOf E.P f with
      | none => rw [hf] at h; cases h
      | some fn =>
        rw [hf] at h
        simp only at h ⊢
        have key : ∀ {x : Exit} {t' : T} {m2 : Mem} {l' : List Value}, x = .normal ∨ x = .ret → TL t' l' → s (.code none fn.body (args ++ List.replicate (fn.ntmps - args.length) undef)) m = some (.exit x l', m2) →
            (match resF E.P t' m2 fn.results with | some vs => some (OutF.val (oneOr vs), m2) | none => none) = some (OutF.val v, m') →
            (match s (.code none fn.body (args ++ List.replicate (fn.ntmps - args.length) undef)) m with
              | some (.exit x t', m') => if x matches .normal | .ret then
                  match resA E.P t' m' fn.results with
                  | some vs => some (Out.val (oneOr vs), m')
                  | none => none
                else none
              | _ => none) = some (Out.val v, m') := by
          intro x t2 m2 l2 hx hl hrun hr
          rw [hrun]
          rw [res_sim hl] at hr
          rcases hx with rfl | rfl
          · simp only [if_true]
            cases hv : resA E.P l2 m2 fn.results with
            | none => rw [hv] at hr; cases hr
            | some vs => rw [hv] at hr; cases hr; rfl
          · simp only [if_true]
            cases hv : resA E.P l2 m2 fn.results with
            | none => rw [hv] at hr; cases hr
            | some vs => rw [hv] at hr; cases hr; rfl
        unfold fRet at h
        split at h
        · rename_i t2 m2 h1
          obtain ⟨l2, g1, g2⟩ := hs.code (ofArgs_list fn.ntmps args) h1
          exact key (.inl rfl) g1 g2 h
        · rename_i t2 m2 h1
          obtain ⟨l2, g1, g2⟩ := hs.code (ofArgs_list fn.ntmps args) h1
          exact key (.inr rfl) g1 g2 h
        · cases h
  · simp only [stepF, fRound] at h
    simp only [step]
    split at h
    · rename_i r hr
      simp only [hr]
      split at h
      · rename_i hc
        rw [if_pos hc]
        unfold fRound2 at h
        split at h
        · rename_i t1 m1 h1
          have h0 : TL (T.ofArgs 0 (setAll r.ps args r.tmps)) (setAll r.ps args r.tmps) := by
            have := ofArgs_list 0 (setAll r.ps args r.tmps)
            simpa using this
          obtain ⟨l1, g1, g2⟩ := hs.code h0 h1
          rw [g2]
          simp only
          split at h
          · rename_i r1 hr1
            simp only [hr1]
            split at h
            · rename_i hc1
              rw [if_pos hc1]
              unfold fRound3 at h
              split at h
              · rename_i x t3 m3 h3
                obtain ⟨l3, g3, g4⟩ := hs.code g1 h3
                rw [g4]
                simp only
                split at h
                · rename_i r3 hr3
                  simp only [hr3]
                  cases x <;> first | (cases h; rfl) | (cases h; done)
                · cases h
              · cases h
            · cases h
          · cases h
        · cases h
      · cases h
    · cases h

theorem runF_sim (E : Env) : ∀ n, Sim (runF E n) (run E n)
  | 0 => { code := fun _ h => (by cases h), call := fun h => (by cases h), round := fun h => (by cases h) }
  | n + 1 => sim_succ (runF_sim E n)

theorem runF_call {E : Env} {n : Nat} {f : FuncId} {args : List Value} {m m' : Mem} {v : Value} (h : runF E n (.call f args) m = some (.val v, m')) : run E n (.call f args) m = some (.val v, m') := (runF_sim E n).call h

/-- The fast form of a call answers true. -/
def isTrueF : Option (OutF × Mem) → Bool
  | some (.val (.bool true), _) => true
  | _ => false
theorem isTrueF_run {E : Env} {n : Nat} {f : FuncId} {m : Mem} (h : isTrueF (runF E n (.call f []) m) = true) : ∃ m', run E n (.call f []) m = some (.val (.bool true), m') := by
  cases hr : runF E n (.call f []) m with
  | none => rw [hr] at h; cases h
  | some q =>
    obtain ⟨o, m'⟩ := q
    rw [hr] at h
    unfold isTrueF at h
    split at h
    · rename_i e
      cases e
      exact ⟨_, runF_call hr⟩
    · cases h
end Go.Ab
