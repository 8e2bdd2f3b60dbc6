/- An interpreter of our own: control, calls, loops over functions. -/
import Derived.Test.YtijnhaadhgoloaaGreatDoorAbL
import Derived.LoopNIn
import Derived.RangeFuncRecord
namespace Go.Ab
variable {σ : Sig}
variable {P : Program}

/-! ### rules of control that the library has not -/
/-- Within a scope, at a piece of code of it. -/
def InSc (F : Fence) (n : Nat) (P : Program) (c r : Code) (Q : Exit → Act → World → Prop) (a : Act) (w : World) : Prop :=
  ∀ (b : Frame) (k : List Item) (cs : List Frame), b.roundOf = F.round → F.fn b.fn → F.room (cs.length + 1 + n) →
    ∃ e a' w', Q e a' w' ∧ ArrivesIn (Machine.fenced P F) P (lone (b.atR a (.code r :: .inScope c :: k)) cs w) b k cs e a' w'

theorem inSc_of {F : Fence} {n : Nat} {Q Q1 : Exit → Act → World → Prop} {a : Act} {w : World} {c r : Code} (h : r.wpIn F n P Q1 a w) (hok : ∀ e a w, Q1 e a w → okX e = true)
    (hg : ∀ l rest a1 w1, Q1 (.goto l) a1 w1 → findLabel c l = some rest → InSc F n P c rest Q a1 w1)
    (hq : ∀ e a1 w1, Q1 e a1 w1 → (∀ l, e = .goto l → findLabel c l = none) → Q e a1 w1) : InSc F n P c r Q a w := by
  intro b k cs hro hb hr
  obtain ⟨e, a₁, w₁, hQ, harr⟩ := h b (.inScope c :: k) cs hro hb hr
  have hx := hok _ _ _ hQ
  cases e with
  | normal =>
    exact ⟨.normal, a₁, w₁, hq _ _ _ hQ (fun l e => by cases e), StepsIn.trans harr (.one (fenced_calm hb hr rfl) (step_lone_go (by simp [stepG, stepG.exec, Frame.atR])))⟩
  | exit id =>
    have hx : ∀ k, exitTo id (.inScope c :: k) = exitTo id k := fun k => by simp [exitTo]
    exact ⟨.exit id, a₁, w₁, hq _ _ _ hQ (fun l e => by cases e), fun k' hk => harr.1 k' (by rw [hx]; exact hk),
      fun hr' hk => harr.2 hr' (by rw [hx]; exact hk)⟩
  | ret => exact ⟨_, a₁, w₁, hq _ _ _ hQ (fun l e => by cases e), harr⟩
  | goto l =>
    cases hf : findLabel c l with
    | some rest =>
      have hgo : gotoIn l (.inScope c :: k) = some (.code rest :: .inScope c :: k) := by simp [gotoIn, hf]
      obtain ⟨e2, a₂, w₂, hQ2, harr2⟩ := hg l rest a₁ w₁ hQ hf b k cs hro hb hr
      exact ⟨e2, a₂, w₂, hQ2, .of_steps (harr.1 _ hgo) harr2⟩
    | none =>
      have hgo : gotoIn l (.inScope c :: k) = gotoIn l k := by simp [gotoIn, hf]
      exact ⟨.goto l, a₁, w₁, hq _ _ _ hQ (fun l' e => by cases e; exact hf), fun k' hk => harr.1 k' (by rw [hgo]; exact hk),
        fun hr' hk => harr.2 hr' (by rw [hgo]; exact hk)⟩
  | panic ch => cases hx
  | outgrown => cases hx

theorem InSc.mono {F : Fence} {n : Nat} {Q Q' : Exit → Act → World → Prop} {a : Act} {w : World} {c r : Code} (h : InSc F n P c r Q a w) (hq : ∀ e a w, Q e a w → Q' e a w) : InSc F n P c r Q' a w :=
  fun b k cs h1 h2 h3 => let ⟨e, a', w', g1, g2⟩ := h b k cs h1 h2 h3; ⟨e, a', w', hq _ _ _ g1, g2⟩

theorem wpIn_scope {F : Fence} {n : Nat} {Q : Exit → Act → World → Prop} {a : Act} {w : World} {c : Code} (h : InSc F n P c c Q a w) : (Code.scope c).wpIn F n P Q a w := by
  intro b k cs hro hb hr
  have h0 : (lone (b.atR a (.code (.scope c) :: k)) cs w).fenced P F := fenced_calm hb hr rfl
  have s0 : Go.step P (lone (b.atR a (.code (.scope c) :: k)) cs w) = .next (lone (b.atR a (.code c :: .inScope c :: k)) cs w) := step_lone_go (by simp [stepG, stepG.exec, Frame.atR])
  obtain ⟨e, a₁, w₁, hQ, harr⟩ := h b k cs hro hb hr
  exact ⟨e, a₁, w₁, hQ, .of_steps (.one h0 s0) harr⟩

theorem roundsIn_mono {F : Fence} {n : Nat} {c : Code} {Q Q' : Exit → Act → World → Prop} (hq : ∀ e a w, Q e a w → Q' e a w) : ∀ (m : Nat) {a : Act} {w : World}, Code.roundsIn F n P c Q m a w → Code.roundsIn F n P c Q' m a w
  | 0, _, _, h => h.elim
  | m + 1, a, w, h => by
    rw [roundsIn_succ] at h ⊢
    refine wpIn_mono h fun e a w hh => ?_
    cases e with
    | normal => exact roundsIn_mono hq m hh
    | _ => exact hq _ _ _ hh

/-- A loop's own: so many rounds. -/
def wpx (N : Nat) (F : Fence) (P : Program) (k : Code) (Q : Exit → Act → World → Prop) (a : Act) (w : World) : Prop := match k with
  | .loop c => c.roundsIn F 0 P Q N a w
  | k => k.wpIn F 0 P Q a w

theorem wpx_wp {N : Nat} {F : Fence} {k : Code} {Q : Exit → Act → World → Prop} {a : Act} {w : World} (h : wpx N F P k Q a w) : k.wpIn F 0 P Q a w := by
  cases k <;> first | exact h | skip
  exact wpIn_loop_rounds N h

def CodeOk2 (σ : Sig) (P : Program) (rd : Option Nat) (c : SCode) (t : List Value) (m : Mem) (x : Exit) (t' : List Value) (m' : Mem) : Prop :=
  ∃ N, ∀ (k : Code) ρ w (a : Act) l lo, comp k = some c → Rel σ ρ m w → LRel σ ρ t a.tmps.toList → Marks lo w a.defers → lo ≤ w.heap.size → RdRel ρ rd l →
    wpx N (Fr l) P k (CPost σ ρ m w lo x t' m') a w

structure SelfOk2 (σ : Sig) (P : Program) (slf : Self) : Prop extends SelfOk σ P slf where
  code2 : ∀ rd c t m x t' m', slf (.code rd c t) m = some (.exit x t', m') → CodeOk2 σ P rd c t m x t' m'

def AgainOk (σ : Sig) (P : Program) (rd : Option Nat) (b r : SCode) (t : List Value) (m : Mem) (x : Exit) (t' : List Value) (m' : Mem) : Prop :=
  ∀ (kb kr : Code) ρ w (a : Act) l lo, comp kb = some b → comp kr = some r → Rel σ ρ m w → LRel σ ρ t a.tmps.toList → Marks lo w a.defers → lo ≤ w.heap.size → RdRel ρ rd l →
    InSc (Fr l) 0 P kb kr (CPost σ ρ m w lo x t' m') a w

structure SelfOk3 (σ : Sig) (P : Program) (slf : Self) : Prop extends SelfOk2 σ P slf where
  again : ∀ rd b r t m x t' m', slf (.code rd (.again b r) t) m = some (.exit x t', m') → AgainOk σ P rd b r t m x t' m'

theorem CodeOk2.one {rd : Option Nat} {c : SCode} {t : List Value} {m : Mem} {x : Exit} {t' : List Value} {m' : Mem} (h : CodeOk2 σ P rd c t m x t' m') : CodeOk σ P rd c t m x t' m' := by
  obtain ⟨N, h⟩ := h
  exact fun k ρ w a l lo h1 h2 h3 h4 h5 h6 => wpx_wp (h k ρ w a l lo h1 h2 h3 h4 h5 h6)

theorem CPost.trans {ρ ρ1 : Rho} {m m1 m' : Mem} {w w1 w' : World} {lo : Nat} {x e : Exit} {t' : List Value} {a' : Act} (hp : Post σ ρ m w ρ1 m1 w1) (ho : Old m.next ρ ρ1) (h : CPost σ ρ1 m1 w1 lo x t' m' e a' w') :
    CPost σ ρ m w lo x t' m' e a' w' := by
  obtain ⟨h1, h2, ρ', h3, h4, h5, h6⟩ := h
  exact ⟨h1, h2, ρ', h3, h4, hp.trans h5, ho.trans h6 hp.next⟩

theorem CPost.here {ρ : Rho} {m : Mem} {w : World} {lo : Nat} {x : Exit} {t : List Value} {a : Act} (hx : okX x = true) (hR : Rel σ ρ m w) (ht : LRel σ ρ t a.tmps.toList) (hm : Marks lo w a.defers) : CPost σ ρ m w lo x t m x a w :=
  ⟨rfl, hx, ρ, ht, hm, Post.refl hR, Old.refl _ _⟩

/-! ### leaving a function -/
def resOne (tmps : Array Value) (r : ResultVar) : Sem Value := match r with
  | .tmp t => pure (tmps.getD t undef)
  | .cell a t => do loadVar t (← asAddr (tmps.getD a undef))
theorem results_eq (fn : Func) (tmps : Array Value) : results fn tmps = (do
    let vs ← fn.results.mapM (resOne tmps)
    pure (if h : vs.size = 1 then vs[0] else .tuple vs)) := by
  unfold results
  congr 1
theorem results_ok {ρ : Rho} {m : Mem} {w : World} (hR : Rel σ ρ m w) {t : List Value} {tmps : Array Value} (ht : LRel σ ρ t tmps.toList) {fn : Func} {vs : List Value} (h : resA P t m fn.results.toList = some vs) :
    ∃ v', (results fn tmps).run P w = .ok v' w ∧ VRel σ ρ (oneOr vs) v' := by
  have key : ∀ (rs : List ResultVar) (vs : List Value), resA P t m rs = some vs → ∃ vs' : List Value, LRel σ ρ vs vs' ∧
      (rs.mapM (resOne tmps)).run P w = .ok vs' w := by
    intro rs
    induction rs with
    | nil => intro vs h; simp only [resA, Option.some.injEq] at h; subst h; exact ⟨[], LRel.nil ρ, by simp⟩
    | cons r rs ih =>
      intro vs h
      have ht' : ∀ k, VRel σ ρ (t.getD k undef) (tmps.getD k undef) := fun k => by rw [getD_toList]; exact ht.at_ k
      cases r with
      | tmp k =>
        simp only [resA] at h
        split at h
        · rename_i us hus
          simp only [Option.some.injEq] at h
          subst h
          obtain ⟨vs', g1, g2⟩ := ih _ hus
          exact ⟨_, LRel.cons (ht' k) g1, by simp only [List.mapM_cons, resOne, Sem.run_bind, Sem.run_pure, g2, Result.andThen]⟩
        · cases h
      | cell k ty =>
        simp only [resA] at h
        split at h
        · rename_i v us hv hus
          simp only [Option.some.injEq] at h
          subst h
          obtain ⟨vs', g1, g2⟩ := ih _ hus
          obtain ⟨v', g3, g4⟩ := load_sound (P := P) hR (ht' k) hv
          refine ⟨_, LRel.cons g3 g1, ?_⟩
          have : (do loadVar ty (← asAddr (tmps.getD k undef)) : Sem Value).run P w = .ok v' w := by
            have hk := ht' k
            unfold loadA at hv
            split at hv
            · rename_i b o e
              rw [e] at hk
              obtain ⟨b', off, sl, _, e2⟩ := hk.ptr_inv
              rw [e2] at g4 ⊢
              simpa [Instr.loadAt, Instr.sureAddr, asAddr] using g4
            · cases hv
          have this2 : (resOne tmps (.cell k ty)).run P w = .ok v' w := this
          simp only [List.mapM_cons, Sem.run_bind]
          rw [this2]
          simp only [g2, Result.andThen, Sem.run_pure]
        · cases h
  obtain ⟨vs', g1, g2⟩ := key _ _ h
  refine ⟨if h : vs'.toArray.size = 1 then vs'.toArray[0] else .tuple vs'.toArray, ?_, ?_⟩
  · rw [results_eq, Array.mapM_eq_mapM_toList]
    simp only [Sem.run_bind, map_eq_pure_bind, g2, Result.andThen, Sem.run_pure]
  · cases vs with
    | nil => cases vs' with
      | nil => exact LRel.tuple (LRel.nil ρ)
      | cons => exact absurd g1.1 (by simp)
    | cons v vs => cases vs' with
      | nil => exact absurd g1.1 (by simp)
      | cons v' vs' =>
        cases vs with
        | nil => cases vs' with
          | nil => simpa [oneOr] using g1.head
          | cons => exact absurd g1.1 (by simp)
        | cons u vs => cases vs' with
          | nil => exact absurd g1.1 (by simp)
          | cons u' vs' => simpa [oneOr] using LRel.tuple (cs := (v :: u :: vs).toArray) (cs' := (v' :: u' :: vs').toArray) g1

/-- A mark is shut: nothing that the abstract memory speaks of has turned. -/
theorem Post.shut {ρ ρ' : Rho} {m m' : Mem} {w w' : World} (h : Post σ ρ m w ρ' m' w') {r : Nat} (hr : w'.heap[r]? = some (.deferred (some []))) (hlo : w.heap.size ≤ r) : Post σ ρ m w ρ' m' (w'.putObj r (.deferred none)) := by
  have hfar : ∀ k, k ≠ r → (w'.putObj r (.deferred none)).heap[k]? = w'.heap[k]? := fun k hk => World.putObj_heap_other hk
  refine ⟨⟨h.rel.dom, h.rel.glob, fun b o x hb hx => ?_, h.rel.inj, h.rel.fresh⟩, h.ext, h.next, by simpa using h.size, h.os, h.tape, h.output, fun k hk hf => ?_, h.img⟩
  · have := h.rel.obj b o x hb hx
    exact this.keep (Ext.refl _) (hfar _ fun e => this.not_deferred (e ▸ hr))
  · rw [hfar k (by omega)]
    exact h.frame k hk hf

theorem leaves_ok {ρ ρ' : Rho} {m m' : Mem} {w : World} {fn : Func} {tmps : Array Value} {t vs : List Value} (ht : LRel σ ρ' t tmps.toList) (hold : Old m.next ρ ρ') (h : resA P t m' fn.results.toList = some vs) :
    ∀ (ds : List Deferred) (w' : World), Marks w.heap.size w' ds → Post σ ρ m w ρ' m' w' → LeavesInM Fence.wide 0 P fn tmps (Ret σ ρ m w (oneOr vs) m') ds .returning w'
  | [], w', _, hp => by
    obtain ⟨v', g1, g2⟩ := results_ok hp.rel ht h
    exact ⟨v', g1, v', ρ', rfl, g2, hp, hold⟩
  | d :: ds, w', hm, hp => by
    obtain ⟨⟨r, h1, h2, h3, h4⟩, h5⟩ := hm
    refine ⟨by simp, .inl ⟨r, _, h1, run_takeDeferred h3, ?_⟩⟩
    refine leaves_ok ht hold h ds _ ?_ (hp.shut h3 h2)
    have : ∀ (l : List Deferred), (∀ d' ∈ l, d'.target ≠ .collected r) → Marks w.heap.size w' l → Marks w.heap.size (w'.putObj r (.deferred none)) l := by
      intro l
      induction l with
      | nil => exact fun _ _ => trivial
      | cons d' l ih =>
        rintro hne ⟨⟨r', k1, k2, k3, k4⟩, k5⟩
        have hrr : r' ≠ r := fun e => hne d' (by simp) (e ▸ k1)
        exact ⟨⟨r', k1, k2, (World.putObj_heap_other hrr).trans k3, k4⟩, ih (fun d'' hd => hne d'' (by simp [hd])) k5⟩
    exact this ds h4 h5

theorem call_ok {E : Env} {self : Self} (hE : E.P = P) (hs : SelfOk σ P self) (hprim : ∀ f p args m v m', E.prim f = some p → p args m = some (v, m') → CallOk σ P f args m v m') {f : FuncId} {args : List Value} {m m' : Mem} {v : Value}
    (h : step E self (.call f args) m = some (.val v, m')) : CallOk σ P f args m v m' := by
  subst hE
  simp only [step] at h
  split at h
  · rename_i p hp
    split at h
    · rename_i u m2 hu
      simp only [Option.some.injEq, Prod.mk.injEq, Out.val.injEq] at h
      obtain ⟨rfl, rfl⟩ := h
      exact hprim _ _ _ _ _ _ hp hu
    · cases h
  · split at h
    · cases h
    · rename_i s hf
      split at h
      · rename_i x t' m2 hb
        have key : (x = .normal ∨ x = .ret) ∧ ∃ vs, resA E.P t' m2 s.results = some vs ∧ oneOr vs = v ∧ m2 = m' := by
          cases hr : resA E.P t' m2 s.results with
          | none => rw [hr] at h; cases x <;> simp at h
          | some vs => rw [hr] at h; cases x <;> simp at h <;> simp [h]
        obtain ⟨hx, vs, hvs, rfl, rfl⟩ := key
        clear h
        unfold fnOf at hf
        split at hf
        · rename_i fn hfn
          split at hf
          · rename_i c hc
            split at hf
            · rename_i sc hsc
              simp only [Option.some.injEq] at hf
              subst hf
              intro ρ w args' hR hargs
              refine callsIn_of_wp_marks hfn hc trivial ?_ rfl
              have hlen : args.length = args'.size := by simpa using hargs.1
              refine wpIn_mono (hs.code _ _ _ _ _ _ _ hb c ρ w _ none w.heap.size hsc hR ?_ trivial (Nat.le_refl _) trivial) ?_
              · simp only [Array.toList_append, Array.toList_replicate]
                refine hargs.append ?_
                rw [hlen]
                exact LRel.replicate ρ (VRel.undef ρ) _
              · rintro e a' w' ⟨rfl, hok, ρ', g1, g2, g3, g4⟩
                rcases hx with rfl | rfl
                · exact leaves_ok g1 g4 hvs _ _ g2 g3
                · exact leaves_ok g1 g4 hvs _ _ g2 g3
            · cases hf
          · cases hf
        · cases hf
      · cases h

/-! ### one round -/
theorem setAll_rel {ρ : Rho} : ∀ (ps : List Tmp) (as as' : List Value) (t : List Value) (t' : Array Value), LRel σ ρ as as' → LRel σ ρ t t'.toList →
    LRel σ ρ (setAll ps as t) ((ps.zip as').foldl (fun tmps (p : Tmp × Value) => tmps.setIfInBounds p.1 p.2) t').toList
  | [], as, as', t, t', _, ht => by simpa [setAll] using ht
  | p :: ps, [], as', t, t', ha, ht => by
    cases as' with
    | nil => simpa [setAll] using ht
    | cons => exact absurd ha.1 (by simp)
  | p :: ps, a :: as, as', t, t', ha, ht => by
    cases as' with
    | nil => exact absurd ha.1 (by simp)
    | cons a' as' =>
      simp only [setAll, List.zip_cons_cons, List.foldl_cons]
      refine setAll_rel ps as as' _ _ ha.tail ?_
      rw [Array.toList_setIfInBounds]
      exact ht.set ha.head p

theorem round_ok {E : Env} {self : Self} (hs : SelfOk σ P self) {l : Nat} {args : List Value} {m m' : Mem} {v : Value}
    (h : step E self (.round l args) m = some (.val v, m')) : RoundOk σ P l args m v m' := by
  intro ρ w args' l' off sl hR hl hargs
  simp only [step] at h
  split at h
  · rename_i r hr
    split at h
    · rename_i hrs
      obtain ⟨hps, hst⟩ := hrs
      obtain ⟨r', k1, k2, k3, k4, k5, k6, k7⟩ := hR.obj l _ _ hr hl
      have hsize : args'.size = r'.params.size := by
        have h1 := hargs.1
        have h2 : r'.params.toList.length = r.ps.length := by rw [k5]
        simp at h1 h2
        omega
      refine ⟨_, _, _, _, run_yield k1 hsize, ?_⟩
      split at h
      · rename_i t1 m1 hasg
        split at h
        · rename_i r1 hr1
          split at h
          · rename_i hready
            refine roundIn_of_wpIn trivial ?_
            have ht0 : LRel σ ρ (setAll r.ps args r.tmps) ((r'.params.zip args').foldl (fun tmps (p : Tmp × Value) => tmps.setIfInBounds p.1 p.2) r'.tmps).toList := by
              rw [← Array.foldl_toList, Array.toList_zip, k5]
              exact setAll_rel _ _ _ _ _ hargs k4
            have hwp := hs.code _ _ _ _ _ _ _ hasg r'.assign ρ w { tmps := _, defers := [] } (some l') w.heap.size k6 hR ht0 trivial (Nat.le_refl _) ⟨off, sl, hl⟩
            refine wpIn_mono hwp ?_
            rintro e a1 w1 ⟨rfl, _, ρ1, g1, g2, g3, g4⟩
            have hl1 := g3.ext _ _ hl
            obtain ⟨r1', q1, q2, q3, q4, q5, q6, q7⟩ := g3.rel.obj l _ _ hr1 hl1
            refine ⟨_, run_beginRound q1 (q2.trans hready), ?_⟩
            have hp1 := Post.turn g3.rel hr1 hl1 rfl (putObj_turned (o' := .loop { r1' with state := .busy }) q1) (ob' := .loop { r1 with state := .busy }) ⟨_, (putObj_turned q1).at_, rfl, q3, q4, q5, q6, q7⟩
            have hpp := g3.trans hp1
            split at h
            · rename_i x t3 m3 hbody
              split at h
              · rename_i r3 hr3
                have hlo : w.heap.size ≤ (w1.putObj l' (.loop { r1' with state := .busy })).heap.size := hpp.size
                refine wpIn_mono (hs.code _ _ _ _ _ _ _ hbody r'.body ρ1 _ a1 (some l') w.heap.size k7 hpp.rel g1 (g2.post g3.rel hp1) hlo ⟨off, sl, hl1⟩) ?_
                rintro e a3 w3 ⟨rfl, hokx, ρ3, j1, j2, j3, j4⟩
                have hl3 := j3.ext _ _ hl1
                obtain ⟨r3', i1, i2, i3, i4, i5, i6, i7⟩ := j3.rel.obj l _ _ hr3 hl3
                have old : Old m.next ρ ρ3 := g4.trans j4 hpp.next
                have fin : ∀ (jump : Option Code) (jp : Option Exit) (st : LoopState) (b : Bool), st = (if jump.isNone then .ready else .done) → b = jump.isNone → PendRel jp jump →
                    some (Out.val (.bool b), m3.put l (.loop { r3 with state := st, pend := jp })) = some (Out.val v, m') →
                    ∃ v0 w', (Instr.endRound l' jump).run P w3 = .ok v0 w' ∧ Ret σ ρ m w v m' (.returned v0) w' := by
                  intro jump jp st b hst hb hj heq
                  simp only [Option.some.injEq, Prod.mk.injEq, Out.val.injEq] at heq
                  obtain ⟨rfl, rfl⟩ := heq
                  subst hb hst
                  refine ⟨_, _, run_endRound jump i1, _, ρ3, rfl, .bool _, ?_, old⟩
                  refine (hpp.trans j3).trans (Post.turn j3.rel hr3 hl3 rfl (putObj_turned i1) ⟨_, (putObj_turned i1).at_, rfl, hj, i4, i5, i6, i7⟩)
                split at h
                · exact fin none none _ _ rfl rfl trivial h
                · exact fin (some .ret) (some .ret) _ _ rfl rfl trivial h
                · exact fin (some (.exit _)) (some (.exit _)) _ _ rfl rfl rfl h
                · cases h
              · cases h
            · cases h
          · cases h
        · cases h
      · cases h
    · cases h
  · cases h

/-! ### the statement 'for .. range f' -/
theorem Post.far {ρ : Rho} {m : Mem} {w : World} (hR : Rel σ ρ m w) (co : Obj) : Post σ ρ m w ρ m (w.alloc co) := by
  have hold : ∀ k, k < w.heap.size → (w.alloc co).heap[k]? = w.heap[k]? := fun k hk => by
    show (w.heap.push co)[k]? = _
    rw [Array.getElem?_push, if_neg (by omega)]
  refine ⟨⟨hR.dom, hR.glob, fun b o x hb hx => ?_, hR.inj, hR.fresh⟩, Ext.refl _, Nat.le_refl _, by simp, rfl, rfl, rfl, fun k hk _ => hold k hk, fun b o x hb hx _ => ⟨b, o, x, hb, hx, rfl, id⟩⟩
  have := hR.obj b o x hb hx
  exact this.keep (Ext.refl _) (hold _ this.lt)

/-- The statement's record is laid. -/
theorem enter_ok {ρ : Rho} {m : Mem} {w : World} {lo : Nat} {a : Act} {t : List Value} {rd l : Option Nat} (fn : FuncId) {ps : Array Tmp} {asg body : Code} {sa sb : SCode} (hR : Rel σ ρ m w) (ht : LRel σ ρ t a.tmps.toList) (hm : Marks lo w a.defers) (hlo : lo ≤ w.heap.size)
    (hloop : (match rd with | none => true | some l0 => isLoop (m.get l0)) = true) (hrd : RdRel ρ rd l) (h1 : comp asg = some sa) (h2 : comp body = some sb) :
    ∃ l' mark w1 ρ1, (Instr.enterLoop fn a.tmps ps asg body l).run P w = .ok (l', mark) w1 ∧ ρ1 m.next = some (l', 0, 0) ∧ Old m.next ρ ρ1 ∧
      Post σ ρ m w ρ1 ((m.bump 1).put m.next (.loop { state := .ready, pend := none, tmps := t, ps := ps.toList, assign := sa, body := sb })) w1 ∧ Marks lo w1 (mark ++ a.defers) := by
  have hid : ρ m.next = none := hR.dom _ (Nat.le_refl _)
  have mk : ∀ (w0 : World) (d : Nat), Rel σ ρ m w0 → ∃ ρ1, ρ1 m.next = some (w0.heap.size, 0, 0) ∧ Old m.next ρ ρ1 ∧
      Post σ ρ m w0 ρ1 ((m.bump 1).put m.next (.loop { state := .ready, pend := none, tmps := t, ps := ps.toList, assign := sa, body := sb })) (w0.alloc (.loop { state := .ready, pending := none, fn, tmps := a.tmps, params := ps, assign := asg, body, defers := d })) := by
    intro w0 d hR0
    refine ⟨upd ρ m.next (w0.heap.size, 0, 0), upd_same _ _ _, fun b hb e => by simp [upd, Nat.ne_of_lt hb, e], (Post.bump hR0 1).trans ?_⟩
    refine Post.make (hR0.bump 1) hid (by simp) rfl ⟨_, World.alloc_heap_new _ _, rfl, trivial, ht.mono (upd_ext hid _), rfl, h1, h2⟩
  cases rd with
  | none =>
    cases l with
    | some l => exact hrd.elim
    | none =>
      obtain ⟨ρ1, g1, g2, g3⟩ := mk (w.alloc (.deferred (some []))) w.heap.size (Post.far hR _).rel
      refine ⟨_, _, _, ρ1, run_enterLoop_outer fn a.tmps ps asg body, by simpa using g1, g2, (Post.far hR _).trans g3, ?_⟩
      have hnew : (w.alloc (.deferred (some []))).heap[w.heap.size]? = some (.deferred (some [])) := World.alloc_heap_new _ _
      refine ⟨⟨w.heap.size, rfl, hlo, g3.deferred (Post.far hR _).rel hnew, ?_⟩, hm.post hR ((Post.far hR _).trans g3)⟩
      have : ∀ (ds : List Deferred), Marks lo w ds → ∀ d' ∈ ds, d'.target ≠ .collected w.heap.size := by
        intro ds
        induction ds with
        | nil => intro _ d' hd; cases hd
        | cons d ds ih =>
          rintro ⟨⟨r, k1, k2, k3, k4⟩, k5⟩ d' hd
          rcases List.mem_cons.1 hd with rfl | hd
          · rw [k1]
            intro e
            injection e with e
            have := (Array.getElem?_eq_some_iff.1 k3).1
            omega
          · exact ih k5 d' hd
      exact this _ hm
  | some b =>
    cases l with
    | none => exact hrd.elim
    | some l =>
      obtain ⟨off, sl, hb⟩ := hrd
      simp only at hloop
      cases hg : m.get b with
      | none => rw [hg] at hloop; cases hloop
      | some ob =>
        rw [hg] at hloop
        cases ob with
        | loop r =>
          obtain ⟨r', k1, _⟩ := hR.obj b _ _ hg hb
          obtain ⟨ρ1, g1, g2, g3⟩ := mk w r'.defers hR
          refine ⟨w.heap.size, [], _, ρ1, ?_, g1, g2, g3, hm.post hR g3⟩
          unfold Instr.enterLoop
          simp only [Sem.run_bind, run_getLoop k1, run_newObj_alloc, Result.andThen, Sem.run_pure]
        | _ => cases hloop

theorem rfn_ok {E : Env} {self : Self} (hE : E.P = P) (hs : SelfOk σ P self) {f : Operand} {ps : Array Tmp} {asg body : Code} {sa sb : SCode} (hf : plainOpd f = true) (h1 : comp asg = some sa) (h2 : comp body = some sb) {rd l : Option Nat} {lo : Nat} {ρ : Rho} {m m' : Mem} {w : World} {a : Act} {t t' : List Value} {x : Exit}
    (hR : Rel σ ρ m w) (ht : LRel σ ρ t a.tmps.toList) (hm : Marks lo w a.defers) (hlo : lo ≤ w.heap.size) (hrd : RdRel ρ rd l) (h : stepCode E self rd (.rfn f ps.toList sa sb) t m = some (.exit x t', m')) :
    (Code.rangeFunc f ps asg body).wpIn (Fr l) 0 P (CPost σ ρ m w lo x t' m') a w := by
  subst hE
  simp only [stepCode] at h
  split at h
  · rename_i g first cap hev
    generalize hcond : (callable E.P g && _) = bb at h
    cases bb with
    | true =>
      simp only [if_true] at h
      rw [Bool.and_eq_true] at hcond
      obtain ⟨hcall, hloop⟩ := hcond
      split at h
      · rename_i v m2 hc
        split at h
        · rename_i r hr
          apply wpIn_rangeFunc
          intro fn _
          obtain ⟨l', mark, w1, ρ1, g1, g2, g3, g4, g5⟩ := enter_ok (P := E.P) fn hR ht hm hlo hloop hrd h1 h2 (ps := ps)
          have hfv := (ev_rel hR ht hf).mono g4.ext
          rw [hev] at hfv
          generalize hff : a.eval f = ff at hfv
          cases hfv with
          | func hy hm k1 k2 k3 k4 =>
            rename_i fs' cp'
            refine ⟨l', mark, w1, { target := .fn (.func g) cp', args := fs' ++ #[.func (.yield l') #[] #[]] }, w1, g, fs' ++ #[.func (.yield l') #[] #[]] ++ cp', w1, g1, ?_, fun _ _ => trivial, ?_, fun hd => by simp [Fence.wide] at hd, ?_⟩
            · have hc0 : ∀ v, a.eval (.const v) = v := fun _ => rfl
              simp [resolve, hff, Deferred.ofValue, hc0]
            · simp [invoke, callFunc_run hcall]
            · have hargs : LRel σ ρ1 (first.toList ++ [.func (.yield m.next) #[] #[]] ++ cap.toList) (fs' ++ #[Value.func (.yield l') #[] #[]] ++ cp').toList := by
                simp only [Array.toList_append]
                exact ((lrel_of k1 k2).append (LRel.cons (.yield g2) (LRel.nil _))).append (lrel_of k3 k4)
              refine CallsIn.mono (hs.call _ _ _ _ _ hc ρ1 w1 _ g4.rel hargs) ?_
              rintro e w3 ⟨v', ρ3, rfl, j1, j2, j3⟩
              have hl3 := j2.ext _ _ g2
              obtain ⟨r', i1, i2, i3, i4, i5, i6, i7⟩ := j2.rel.obj _ _ _ hr hl3
              have hturn : ∀ st, Post σ ρ3 m2 w3 ρ3 (m2.put m.next (.loop { r with state := st })) (w3.putObj l' (.loop { r' with state := st })) := fun st =>
                Post.turn j2.rel hr hl3 rfl (putObj_turned i1) ⟨_, (putObj_turned i1).at_, rfl, i3, i4, i5, i6, i7⟩
              split at h
              · cases h
              · rename_i hbusy
                have hb' : r'.state ≠ .busy := by rw [i2]; exact hbusy
                have hp := (g4.trans j2).trans (hturn .exhausted)
                have hold : Old m.next ρ ρ3 := g3.trans j3 g4.next
                have hmk : Marks lo (w3.putObj l' (.loop { r' with state := .exhausted })) (mark ++ a.defers) := g5.post g4.rel (j2.trans (hturn .exhausted))
                have htt : LRel σ ρ3 t a.tmps.toList := ht.mono (g4.ext.trans j2.ext)
                have base : ∀ x0, okX x0 = true → CPost σ ρ m w lo x0 t (m2.put m.next (.loop { r with state := .exhausted })) x0 { a with defers := mark ++ a.defers } (w3.putObj l' (.loop { r' with state := .exhausted })) :=
                  fun x0 hx0 => ⟨rfl, hx0, ρ3, htt, hmk, hp, hold⟩
                refine ⟨r'.pending, _, run_endLoop i1 hb', ?_⟩
                cases hpd : r.pend with
                | none =>
                  rw [hpd] at h i3 base
                  simp only [Option.some.injEq, Prod.mk.injEq, Out.exit.injEq] at h
                  obtain ⟨⟨rfl, rfl⟩, rfl⟩ := h
                  cases hpp : r'.pending with
                  | none => rw [hpp] at base; exact base .normal rfl
                  | some c => rw [hpp] at i3; exact i3.elim
                | some y =>
                  rw [hpd] at h i3 base
                  simp only at h
                  split at h
                  · simp only [Option.some.injEq, Prod.mk.injEq, Out.exit.injEq] at h
                    obtain ⟨⟨rfl, rfl⟩, rfl⟩ := h
                    cases hpp : r'.pending with
                    | none => rw [hpp] at i3; cases y <;> exact i3.elim
                    | some c =>
                      rw [hpp] at i3 base
                      cases y with
                      | ret => cases c <;> first | (exact i3.elim) | skip
                               exact wpIn_ret (base .ret rfl)
                      | exit i => cases c <;> first | (exact i3.elim) | skip
                                  rename_i j
                                  have : i = j := i3
                                  subst this
                                  exact wpIn_exit (base (.exit _) rfl)
                      | _ => cases c <;> exact i3.elim
                  · cases h
        · cases h
      · cases h
    | false => simp at h
  · cases h

/-! ### what code a compiled piece comes of -/
theorem comp_skip {k : Code}  (h1 : comp k = some (.skip)) : k = .skip := by
  cases k <;> simp only [comp] at h1 <;> (try split at h1) <;> (try split at h1) <;> (try split at h1) <;> (try cases h1)
  rfl
theorem comp_label {k : Code} {i : Nat} (h1 : comp k = some (.label i)) : k = .label i := by
  cases k <;> simp only [comp] at h1 <;> (try split at h1) <;> (try split at h1) <;> (try split at h1) <;> (try cases h1)
  rfl
theorem comp_goto {k : Code} {i : Nat} (h1 : comp k = some (.goto i)) : k = .goto i := by
  cases k <;> simp only [comp] at h1 <;> (try split at h1) <;> (try split at h1) <;> (try split at h1) <;> (try cases h1)
  rfl
theorem comp_again {k : Code} {b r : SCode} (h1 : comp k = some (.again b r)) : False := by
  cases k <;> simp only [comp] at h1 <;> (try split at h1) <;> (try split at h1) <;> (try split at h1) <;> (try cases h1)
theorem comp_exit {k : Code} {i : Nat} (h1 : comp k = some (.exit i)) : k = .exit i := by
  cases k <;> simp only [comp] at h1 <;> (try split at h1) <;> (try split at h1) <;> (try split at h1) <;> (try cases h1)
  rfl
theorem comp_ret {k : Code}  (h1 : comp k = some (.ret)) : k = .ret := by
  cases k <;> simp only [comp] at h1 <;> (try split at h1) <;> (try split at h1) <;> (try split at h1) <;> (try cases h1)
  rfl
theorem comp_seq {k : Code} {a b : SCode} (h1 : comp k = some (.seq a b)) : ∃ ka kb, k = .seq ka kb ∧ comp ka = some a ∧ comp kb = some b := by
  cases k <;> simp only [comp] at h1 <;> (try split at h1) <;> (try split at h1) <;> (try split at h1) <;> (try cases h1)
  exact ⟨_, _, rfl, by assumption, by assumption⟩
theorem comp_cond {k : Code} {o : Operand} {a b : SCode} (h1 : comp k = some (.cond o a b)) : ∃ ka kb, k = .cond o ka kb ∧ plainOpd o = true ∧ comp ka = some a ∧ comp kb = some b := by
  cases k <;> simp only [comp] at h1 <;> (try split at h1) <;> (try split at h1) <;> (try split at h1) <;> (try cases h1)
  exact ⟨_, _, rfl, by assumption, by assumption, by assumption⟩
theorem comp_block {k : Code} {i : Nat} {b : SCode} (h1 : comp k = some (.block i b)) : ∃ kb, k = .block i kb ∧ comp kb = some b := by
  cases k <;> simp only [comp] at h1 <;> (try split at h1) <;> (try split at h1) <;> (try split at h1) <;> (try cases h1)
  exact ⟨_, rfl, by assumption⟩
theorem comp_loop {k : Code} {b : SCode} (h1 : comp k = some (.loop b)) : ∃ kb, k = .loop kb ∧ comp kb = some b := by
  cases k <;> simp only [comp] at h1 <;> (try split at h1) <;> (try split at h1) <;> (try split at h1) <;> (try cases h1)
  exact ⟨_, rfl, by assumption⟩
theorem comp_scope {k : Code} {b : SCode} (h1 : comp k = some (.scope b)) : ∃ kb, k = .scope kb ∧ comp kb = some b := by
  cases k <;> simp only [comp] at h1 <;> (try split at h1) <;> (try split at h1) <;> (try split at h1) <;> (try cases h1)
  exact ⟨_, rfl, by assumption⟩
theorem comp_reg {k : Code} {sl : List SOp} (h1 : comp k = some (.reg sl)) : ∃ n ops, k = .region n ops false ∧ stripAll ops ops.toList = some sl := by
  cases k <;> simp only [comp] at h1 <;> (try split at h1) <;> (try split at h1) <;> (try split at h1) <;> (try cases h1)
  rename_i n ops draw _ hd hst
  cases draw
  · exact ⟨_, _, rfl, hst⟩
  · exact absurd rfl hd
theorem comp_dreg {k : Code} {sl : List SOp} {ord : List (Nat × List Nat)} (h1 : comp k = some (.dreg sl ord)) : ∃ n ops, k = .region n ops true ∧ stripAll ops ops.toList = some sl ∧ orderOf ops sl = some ord := by
  cases k <;> simp only [comp] at h1 <;> (try split at h1) <;> (try split at h1) <;> (try split at h1) <;> (try cases h1)
  rename_i n ops draw _ hd _ hst ho
  exact ⟨n, ops, by rw [hd], hst, ho⟩
theorem comp_rfn {k : Code} {f : Operand} {ps : List Tmp} {a b : SCode} (h1 : comp k = some (.rfn f ps a b)) : ∃ pa ka kb, k = .rangeFunc f pa ka kb ∧ pa.toList = ps ∧ plainOpd f = true ∧ comp ka = some a ∧ comp kb = some b := by
  cases k <;> simp only [comp] at h1 <;> (try split at h1) <;> (try split at h1) <;> (try split at h1) <;> (try cases h1)
  exact ⟨_, _, _, rfl, rfl, by assumption, by assumption, by assumption⟩
theorem sFind_comp : ∀ {c : Code} {s : SCode} (l : Nat), comp c = some s → (findLabel c l = none ∧ sFind s l = none) ∨ ∃ rest r, findLabel c l = some rest ∧ sFind s l = some r ∧ comp rest = some r
  | .seq a b, s, l, h => by
    simp only [comp] at h
    split at h
    · rename_i x y hx hy
      simp only [Option.some.injEq] at h
      subst h
      rcases sFind_comp l hx with ⟨g1, g2⟩ | ⟨rest, r, g1, g2, g3⟩
      · rcases sFind_comp l hy with ⟨k1, k2⟩ | ⟨rest, r, k1, k2, k3⟩
        · exact .inl ⟨by simp [findLabel, g1, k1], by simp [sFind, g2, k2]⟩
        · exact .inr ⟨rest, r, by simp [findLabel, g1, k1], by simp [sFind, g2, k2], k3⟩
      · exact .inr ⟨.seq rest b, .seq r y, by simp [findLabel, g1], by simp [sFind, g2], by simp [comp, g3, hy]⟩
    · cases h
  | .label k, s, l, h => by
    simp only [comp, Option.some.injEq] at h
    subst h
    by_cases e : (k == l) = true
    · exact .inr ⟨.skip, .skip, by simp only [findLabel, e, if_true], by simp only [sFind, e, if_true], rfl⟩
    · exact .inl ⟨by simp [findLabel, e], by simp [sFind, e]⟩
  | .skip, s, l, h => by simp only [comp, Option.some.injEq] at h; subst h; exact .inl ⟨rfl, rfl⟩
  | .exit _, s, l, h => by simp only [comp, Option.some.injEq] at h; subst h; exact .inl ⟨rfl, rfl⟩
  | .ret, s, l, h => by simp only [comp, Option.some.injEq] at h; subst h; exact .inl ⟨rfl, rfl⟩
  | .goto _, s, l, h => by simp only [comp, Option.some.injEq] at h; subst h; exact .inl ⟨rfl, rfl⟩
  | .refuse _, s, l, h => by simp [comp] at h
  | .cond _ _ _, s, l, h => by
    simp only [comp] at h
    split at h
    · split at h
      · simp only [Option.some.injEq] at h; subst h; exact .inl ⟨rfl, rfl⟩
      · cases h
    · cases h
  | .block _ _, s, l, h => by
    simp only [comp] at h
    split at h
    · simp only [Option.some.injEq] at h; subst h; exact .inl ⟨rfl, rfl⟩
    · cases h
  | .loop _, s, l, h => by
    simp only [comp] at h
    split at h
    · simp only [Option.some.injEq] at h; subst h; exact .inl ⟨rfl, rfl⟩
    · cases h
  | .scope _, s, l, h => by
    simp only [comp] at h
    split at h
    · simp only [Option.some.injEq] at h; subst h; exact .inl ⟨rfl, rfl⟩
    · cases h
  | .region _ _ _, s, l, h => by
    simp only [comp] at h
    split at h
    · cases h
    · split at h
      · split at h
        · simp only [Option.some.injEq] at h; subst h; exact .inl ⟨rfl, rfl⟩
        · cases h
      · simp only [Option.some.injEq] at h; subst h; exact .inl ⟨rfl, rfl⟩
  | .rangeFunc _ _ _ _, s, l, h => by
    simp only [comp] at h
    split at h
    · split at h
      · simp only [Option.some.injEq] at h; subst h; exact .inl ⟨rfl, rfl⟩
      · cases h
    · cases h

/-! ### code -/
def DregOk (σ : Sig) (E : Env) (self : Self) : Prop := ∀ {ops : Array Oper} {sl : List SOp} {ord : List (Nat × List Nat)} {n : Nat}, stripAll ops ops.toList = some sl → orderOf ops sl = some ord →
  ∀ {rd l : Option Nat} {lo : Nat} {ρ : Rho} {m m' : Mem} {w : World} {a : Act} {t t' : List Value}, Rel σ ρ m w → LRel σ ρ t a.tmps.toList → Marks lo w a.defers →
    stepCode E self rd (.dreg sl ord) t m = some (.exit .normal t', m') → (Code.region n ops true).wpIn (Fr l) 0 E.P (CPost σ ρ m w lo .normal t' m') a w

theorem CPost.okx {ρ : Rho} {m m' : Mem} {w w' : World} {lo : Nat} {x e : Exit} {t' : List Value} {a' : Act} (h : CPost σ ρ m w lo x t' m' e a' w') : okX e = true := by
  obtain ⟨rfl, h, _⟩ := h
  exact h

/-- A piece of a scope, and what it may jump to. -/
theorem again_ok {self : Self} (hs : SelfOk3 σ P self) {rd : Option Nat} {b r : SCode} {t t' : List Value} {m m' : Mem} {x : Exit}
    (h : (match self (.code rd r t) m with
      | some (.exit (.goto l) t', m') => match sFind b l with
        | some r => self (.code rd (.again b r) t') m'
        | none => some (.exit (.goto l) t', m')
      | r => r) = some (.exit x t', m')) : AgainOk σ P rd b r t m x t' m' := by
  intro kb kr ρ w a l lo hkb hkr h2 h3 h4 h5 h6
  split at h
  · rename_i l1 t1 m1 hb
    have hw := hs.code _ _ _ _ _ _ _ hb kr ρ w a l lo hkr h2 h3 h4 h5 h6
    rcases sFind_comp l1 hkb with ⟨g1, g2⟩ | ⟨rest, r1, g1, g2, g3⟩
    · rw [g2] at h
      simp only [Option.some.injEq, Prod.mk.injEq, Out.exit.injEq] at h
      obtain ⟨⟨rfl, rfl⟩, rfl⟩ := h
      refine inSc_of hw (fun e a w hc => hc.okx) (fun l2 rest a1 w1 hc hf => ?_) fun e a1 w1 hc _ => hc
      obtain ⟨e, _⟩ := hc
      cases e
      rw [g1] at hf
      cases hf
    · rw [g2] at h
      refine inSc_of hw (fun e a w hc => hc.okx) (fun l2 rest2 a1 w1 hc hf => ?_) fun e a1 w1 hc hn => ?_
      · obtain ⟨e, _, ρ1, k1, k2, k3, k4⟩ := hc
        cases e
        rw [g1] at hf
        cases hf
        refine (hs.again _ _ _ _ _ _ _ _ h kb rest ρ1 w1 a1 l lo hkb g3 k3.rel k1 k2 (Nat.le_trans h5 k3.size) (h6.mono k3.ext)).mono ?_
        exact fun e a w hc => hc.trans k3 k4
      · obtain ⟨rfl, _⟩ := id hc
        have := hn l1 rfl
        rw [g1] at this
        cases this
  · rename_i hne
    have hw := hs.code _ _ _ _ _ _ _ h kr ρ w a l lo hkr h2 h3 h4 h5 h6
    refine inSc_of hw (fun e a w hc => hc.okx) (fun l2 rest a1 w1 hc hf => ?_) fun e a1 w1 hc _ => hc
    obtain ⟨e, _⟩ := hc
    subst e
    exact absurd h (hne _ _ _)

theorem code_ok {E : Env} {self : Self} (hE : E.P = P) (hS : SymOk σ E) (hs : SelfOk3 σ P self) (hd : DregOk σ E self) {rd : Option Nat} {c : SCode} {t t' : List Value} {m m' : Mem} {x : Exit}
    (h : step E self (.code rd c t) m = some (.exit x t', m')) : CodeOk2 σ P rd c t m x t' m' := by
  subst hE
  simp only [step] at h
  have one : (∀ b, c ≠ .loop b) → (∀ (k : Code) ρ w (a : Act) l lo, comp k = some c → Rel σ ρ m w → LRel σ ρ t a.tmps.toList → Marks lo w a.defers → lo ≤ w.heap.size → RdRel ρ rd l →
    k.wpIn (Fr l) 0 E.P (CPost σ ρ m w lo x t' m') a w) → CodeOk2 σ E.P rd c t m x t' m' := by
    intro hn hk
    refine ⟨0, fun k ρ w a l lo h1 h2 h3 h4 h5 h6 => ?_⟩
    have := hk k ρ w a l lo h1 h2 h3 h4 h5 h6
    cases k <;> first | exact this | skip
    simp only [comp] at h1
    split at h1
    · simp only [Option.some.injEq] at h1
      exact absurd h1.symm (hn _)
    · cases h1
  cases c with
  | loop b =>
    simp only [stepCode] at h
    split at h
    · rename_i t1 m1 hb
      obtain ⟨N, hN⟩ := hs.code2 _ _ _ _ _ _ _ h
      refine ⟨N + 1, fun k ρ w a l lo h1 h2 h3 h4 h5 h6 => ?_⟩
      obtain ⟨kb, rfl, hkb⟩ := comp_loop h1
      show Code.roundsIn (Fr l) 0 E.P kb _ (N + 1) a w
      rw [roundsIn_succ]
      refine wpIn_mono (hs.code _ _ _ _ _ _ _ hb kb ρ w a l lo hkb h2 h3 h4 h5 h6) ?_
      rintro e a1 w1 ⟨rfl, _, ρ1, g1, g2, g3, g4⟩
      refine roundsIn_mono ?_ N (hN (.loop kb) ρ1 w1 a1 l lo (by simp only [comp, hkb]) g3.rel g1 g2 (Nat.le_trans h5 g3.size) (h6.mono g3.ext))
      exact fun e a w hc => hc.trans g3 g4
    · rename_i hne
      refine ⟨1, fun k ρ w a l lo h1 h2 h3 h4 h5 h6 => ?_⟩
      obtain ⟨kb, rfl, hkb⟩ := comp_loop h1
      show Code.roundsIn (Fr l) 0 E.P kb _ 1 a w
      rw [roundsIn_succ]
      refine wpIn_mono (hs.code _ _ _ _ _ _ _ h kb ρ w a l lo hkb h2 h3 h4 h5 h6) ?_
      intro e a1 w1 hc
      obtain ⟨rfl, _⟩ := id hc
      cases e with
      | normal => exact absurd h (hne _ _)
      | _ => exact hc
  | skip =>
    refine one (fun _ e => by cases e) fun k ρ w a l lo h1 h2 h3 h4 h5 h6 => ?_
    simp only [stepCode, Option.some.injEq, Prod.mk.injEq, Out.exit.injEq] at h
    obtain ⟨⟨rfl, rfl⟩, rfl⟩ := h
    obtain rfl := comp_skip h1
    exact wpIn_skip (.here rfl h2 h3 h4)
  | label i =>
    refine one (fun _ e => by cases e) fun k ρ w a l lo h1 h2 h3 h4 h5 h6 => ?_
    simp only [stepCode, Option.some.injEq, Prod.mk.injEq, Out.exit.injEq] at h
    obtain ⟨⟨rfl, rfl⟩, rfl⟩ := h
    obtain rfl := comp_label h1
    exact wpIn_label (.here rfl h2 h3 h4)
  | goto i =>
    refine one (fun _ e => by cases e) fun k ρ w a l lo h1 h2 h3 h4 h5 h6 => ?_
    simp only [stepCode, Option.some.injEq, Prod.mk.injEq, Out.exit.injEq] at h
    obtain ⟨⟨rfl, rfl⟩, rfl⟩ := h
    obtain rfl := comp_goto h1
    exact wpIn_goto (.here rfl h2 h3 h4)
  | again b r => exact one (fun _ e => by cases e) fun k ρ w a l lo h1 _ _ _ _ _ => (comp_again h1).elim
  | exit i =>
    refine one (fun _ e => by cases e) fun k ρ w a l lo h1 h2 h3 h4 h5 h6 => ?_
    simp only [stepCode, Option.some.injEq, Prod.mk.injEq, Out.exit.injEq] at h
    obtain ⟨⟨rfl, rfl⟩, rfl⟩ := h
    obtain rfl := comp_exit h1
    exact wpIn_exit (.here rfl h2 h3 h4)
  | ret =>
    refine one (fun _ e => by cases e) fun k ρ w a l lo h1 h2 h3 h4 h5 h6 => ?_
    simp only [stepCode, Option.some.injEq, Prod.mk.injEq, Out.exit.injEq] at h
    obtain ⟨⟨rfl, rfl⟩, rfl⟩ := h
    obtain rfl := comp_ret h1
    exact wpIn_ret (.here rfl h2 h3 h4)
  | seq c1 c2 =>
    refine one (fun _ e => by cases e) fun k ρ w a l lo h1 h2 h3 h4 h5 h6 => ?_
    simp only [stepCode] at h
    obtain ⟨k1, k2, rfl, hk1, hk2⟩ := comp_seq h1
    apply wpIn_seq
    split at h
    · rename_i t1 m1 hb
      refine wpIn_mono (hs.code _ _ _ _ _ _ _ hb k1 ρ w a l lo hk1 h2 h3 h4 h5 h6) ?_
      rintro e a1 w1 ⟨rfl, _, ρ1, g1, g2, g3, g4⟩
      refine wpIn_mono (hs.code _ _ _ _ _ _ _ h k2 ρ1 w1 a1 l lo hk2 g3.rel g1 g2 (Nat.le_trans h5 g3.size) (h6.mono g3.ext)) ?_
      exact fun e a w hc => hc.trans g3 g4
    · rename_i hne
      refine wpIn_mono (hs.code _ _ _ _ _ _ _ h k1 ρ w a l lo hk1 h2 h3 h4 h5 h6) ?_
      intro e a1 w1 hc
      obtain ⟨rfl, _⟩ := id hc
      cases e with
      | normal => exact absurd h (hne _ _)
      | _ => exact hc
  | cond o c1 c2 =>
    refine one (fun _ e => by cases e) fun k ρ w a l lo h1 h2 h3 h4 h5 h6 => ?_
    simp only [stepCode] at h
    obtain ⟨k1, k2, rfl, hp, hk1, hk2⟩ := comp_cond h1
    have hv := ev_rel h2 h3 hp
    split at h
    · rename_i he
      rw [he] at hv
      exact wpIn_cond_true hv.bool_inv (hs.code _ _ _ _ _ _ _ h k1 ρ w a l lo hk1 h2 h3 h4 h5 h6)
    · rename_i he
      rw [he] at hv
      exact wpIn_cond_false hv.bool_inv (hs.code _ _ _ _ _ _ _ h k2 ρ w a l lo hk2 h2 h3 h4 h5 h6)
    · cases h
  | block i b =>
    refine one (fun _ e => by cases e) fun k ρ w a l lo h1 h2 h3 h4 h5 h6 => ?_
    simp only [stepCode] at h
    obtain ⟨kb, rfl, hkb⟩ := comp_block h1
    apply wpIn_block
    split at h
    · rename_i j t1 m1 hb
      simp only [Option.some.injEq, Prod.mk.injEq, Out.exit.injEq] at h
      obtain ⟨⟨rfl, rfl⟩, rfl⟩ := h
      refine wpIn_mono (hs.code _ _ _ _ _ _ _ hb kb ρ w a l lo hkb h2 h3 h4 h5 h6) ?_
      rintro e a1 w1 ⟨rfl, _, rest⟩
      simp only [Exit.inBlock]
      by_cases hj : j = i
      · simp only [hj, if_true]; exact ⟨rfl, rfl, rest⟩
      · simp only [hj, if_false]; exact ⟨rfl, rfl, rest⟩
    · rename_i hne
      refine wpIn_mono (hs.code _ _ _ _ _ _ _ h kb ρ w a l lo hkb h2 h3 h4 h5 h6) ?_
      intro e a1 w1 hc
      obtain ⟨rfl, _⟩ := id hc
      cases e with
      | exit j => exact absurd h (hne _ _ _)
      | _ => exact hc
  | scope b =>
    refine one (fun _ e => by cases e) fun k ρ w a l lo h1 h2 h3 h4 h5 h6 => ?_
    simp only [stepCode] at h
    obtain ⟨kb, rfl, hkb⟩ := comp_scope h1
    exact wpIn_scope (again_ok hs h kb kb ρ w a l lo hkb hkb h2 h3 h4 h5 h6)
  | reg sl =>
    refine one (fun _ e => by cases e) fun k ρ w a l lo h1 h2 h3 h4 h5 h6 => ?_
    have hx : x = .normal := by
      simp only [stepCode] at h
      split at h
      · simp only [Option.some.injEq, Prod.mk.injEq, Out.exit.injEq] at h
        exact h.1.1.symm
      · cases h
    subst hx
    obtain ⟨n, ops, rfl, hst⟩ := comp_reg h1
    exact reg_ok rfl hS hs.toSelfOk hst (rd := rd) h2 h3 h4 h
  | dreg sl ord =>
    refine one (fun _ e => by cases e) fun k ρ w a l lo h1 h2 h3 h4 h5 h6 => ?_
    have hx : x = .normal := by
      simp only [stepCode] at h
      split at h
      · simp only [Option.some.injEq, Prod.mk.injEq, Out.exit.injEq] at h
        exact h.1.1.symm
      · cases h
    subst hx
    obtain ⟨n, ops, rfl, hst, hord⟩ := comp_dreg h1
    exact hd hst hord h2 h3 h4 h
  | rfn f ps sa sb =>
    refine one (fun _ e => by cases e) fun k ρ w a l lo h1 h2 h3 h4 h5 h6 => ?_
    obtain ⟨pa, ka, kb, rfl, rfl, hp, hka, hkb⟩ := comp_rfn h1
    exact rfn_ok rfl hs.toSelfOk hp hka hkb h2 h3 h4 h5 h6 h

end Go.Ab
