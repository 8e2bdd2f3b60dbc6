/- An interpreter of our own: runs on symbolic values, by facts; contracts of functions that turn nothing. -/
import Derived.Test.YthpncefkklojlaaAbZ2
namespace Go.Ab
noncomputable section

/-- A function that turns nothing and answers so. -/
def PureOk (P : Program) (f : FuncId) (args : List Value) (v : Value) : Prop :=
  ∀ w, CallsIn Fence.wide 0 P f args.toArray w fun e w' => e = .returned v ∧ RowKit.Below w.heap.size w w'

inductive Fact where
  | bin (op : BinOp) (t : TypeId) (x y v : Value)
  | un (op : UnOp) (x v : Value)
  | conv (s d : TypeId) (x v : Value)
  | call (f : FuncId) (args : List Value) (v : Value)

def isCmp : BinOp → Bool
  | .eql | .neq => true
  | _ => false

def simAll : List Value → List Value → Bool
  | [], [] => true
  | a :: l, b :: k => vSim 6 a b && simAll l k
  | _, _ => false

/-- What the facts know of an operation. -/
def lookF (len : Nat) (fs : List Fact) (o : Op) (r : Operand → Value) : Option Value := match o with
  | .binOp op t x y _ => if plainL len 6 (r x) && plainL len 6 (r y) then fs.findSome? fun
      | .bin op' t' x' y' v => if decide (op = op') && t == t' && vSim 6 (r x) x' && vSim 6 (r y) y' then some v else none
      | _ => none
    else none
  | .unOp op _ x => if plainL len 6 (r x) then fs.findSome? fun
      | .un op' x' v => if decide (op = op') && vSim 6 (r x) x' then some v else none
      | _ => none
    else none
  | .convert s d x => if plainL len 6 (r x) then fs.findSome? fun
      | .conv s' d' x' v => if s == s' && d == d' && vSim 6 (r x) x' then some v else none
      | _ => none
    else none
  | _ => none
def lookC (fs : List Fact) (f : FuncId) (args : List Value) : Option Value := fs.findSome? fun
  | .call f' args' v => if f == f' && simAll args args' then some v else none
  | _ => none
def hasCall (fs : List Fact) (f : FuncId) : Bool := fs.any fun
  | .call f' _ _ => f == f'
  | _ => false

def slices (P : Program) (t : TypeId) : Bool := match P.underlying t with
  | some (.slice _) => true
  | _ => false

def Fact.Holds (P : Program) (ds : List Value) : Fact → Prop
  | .bin op t x y v => plainL ds.length 6 v = true ∧ match isCmp op with
    | true => ∀ xo yo w, (do eqGuard op t xo yo (er ds x) (er ds y); binOp op t (er ds x) (er ds y) : Sem Value).run P w = .ok (er ds v) w
    | false => runV P (binOp op t (er ds x) (er ds y)) = some (er ds v)
  | .un op x v => plainL ds.length 6 v = true ∧ runV P (Op.unary op (er ds x)) = some (er ds v)
  | .conv s d x v => plainL ds.length 6 v = true ∧ slices P d = false ∧ runV P (convert s d (er ds x)) = some (er ds v)
  | .call f args v => plainL ds.length 6 v = true ∧ PureOk P f (args.map (er ds)) (er ds v)

def arrEq (eq : Value → Value → Bool) (a b : Array Value) : Bool := a.size == b.size && (List.range a.size).all fun i => eq (a.getD i undef) (b.getD i undef)
def vEqL : Nat → Value → Value → Bool
  | n + 1, .func (.method a) fs cs, .func (.method b) gs ds => a == b && arrEq (vEqL n) fs gs && arrEq (vEqL n) cs ds
  | n + 1, .iface s a, .iface t b => s == t && vEqL n a b
  | n + 1, .agg a, .agg b => arrEq (vEqL n) a b
  | n + 1, .tuple a, .tuple b => arrEq (vEqL n) a b
  | _, a, b => vEq a b

theorem arrEq_eq {eq : Value → Value → Bool} (h : ∀ a b, eq a b = true → a = b) {a b : Array Value} (H : arrEq eq a b = true) : a = b := by
  simp only [arrEq, Bool.and_eq_true, beq_iff_eq, List.all_eq_true, List.mem_range] at H
  exact arr_ext H.1 fun i hi => h _ _ (H.2 i hi)
theorem vEqL_eq : ∀ (n : Nat) (a b : Value), vEqL n a b = true → a = b := by
  intro n
  induction n with
  | zero =>
    intro a b h
    unfold vEqL at h
    exact vEq_eq h
  | succ n ih =>
    intro a b h
    unfold vEqL at h
    split at h
    · rename_i hn
      cases hn
      simp only [Bool.and_eq_true, beq_iff_eq] at h
      rw [h.1.1, arrEq_eq ih h.1.2, arrEq_eq ih h.2]
    · rename_i hn
      cases hn
      simp only [Bool.and_eq_true, beq_iff_eq] at h
      rw [h.1, ih _ _ h.2]
    · rename_i hn
      cases hn
      rw [arrEq_eq ih h]
    · rename_i hn
      cases hn
      rw [arrEq_eq ih h]
    · exact vEq_eq h

def envF (P : Program) (len : Nat) (fs : List Fact) : Env :=
  { P := P, eqv := vEqL 8, prim := fun f => if hasCall fs f then some fun args m => if args.all (plainL len 6) then (lookC fs f args).map (·, m) else none else none, sym := fun o r => lookF len fs o.op r }

theorem below_post {σ : Sig} {ρ : Rho} {m : Mem} {w w' : World} (hR : Rel σ ρ m w) (hb : RowKit.Below w.heap.size w w') : Post σ ρ m w ρ m w' := by
  obtain ⟨h1, h2, h3, h4, h5⟩ := hb
  refine ⟨⟨hR.dom, hR.glob, fun b o x hb hx => ?_, hR.inj, hR.fresh⟩, Ext.refl _, Nat.le_refl _, h4, h1, h2, h3, fun k hk _ => h5 k hk, fun b o x hb hx _ => ⟨b, o, x, hb, hx, rfl, id⟩⟩
  have := hR.obj b o x hb hx
  exact this.keep (Ext.refl _) (h5 _ this.lt)

theorem find_mem {α β : Type} {g : α → Option β} {l : List α} {v : β} (h : l.findSome? g = some v) : ∃ a ∈ l, g a = some v := List.exists_of_findSome?_eq_some h

theorem simAll_er {ds : List Value} : ∀ {a b : List Value}, simAll a b = true → a.map (er ds) = b.map (er ds)
  | [], [], _ => rfl
  | a :: l, b :: k, h => by
    simp only [simAll, Bool.and_eq_true] at h
    simp only [List.map_cons, simAll_er h.2]
    rw [er, er, vSim_er 6 a b h.1]
  | [], _ :: _, h => by cases h
  | _ :: _, [], h => by cases h

theorem args_er {ds : List Value} {ρ : Rho} : ∀ {a b : List Value}, a.all (plainL ds.length 6) = true → LRel (sigOf ds) ρ a b → b = a.map (er ds)
  | [], [], _, _ => rfl
  | a :: l, b :: k, h, hr => by
    simp only [List.all_cons, Bool.and_eq_true] at h
    rw [List.map_cons, ← args_er h.2 hr.tail, er_eq 6 a b h.1 hr.head]
    rfl
  | [], _ :: _, _, h => absurd h.1 (by simp)
  | _ :: _, [], _, h => absurd h.1 (by simp)
theorem er_args {ds : List Value} {ρ : Rho} (hd : ∀ d ∈ ds, dataB d = true) : ∀ {a : List Value}, a.all (plainL ds.length 6) = true → LRel (sigOf ds) ρ a (a.map (er ds))
  | [], _ => LRel.nil _
  | a :: l, h => by
    simp only [List.all_cons, Bool.and_eq_true] at h
    exact LRel.cons (rel_er hd 6 a h.1) (er_args hd h.2)

theorem plain_gives {P : Program} {ds : List Value} {ρ : Rho} {o' : Oper} {r' : Operand → Value} {w : World} {v : Value} (hd : ∀ d ∈ ds, dataB d = true) (hv : plainL ds.length 6 v = true) (h : Gives (sigOf ds) P ρ o' r' w (er ds v)) : Gives (sigOf ds) P ρ o' r' w v := by
  obtain ⟨v', h1, h2⟩ := h
  have := plainN_eq 6 _ _ (er_plain hd 6 v hv) h1
  subst this
  exact ⟨_, rel_er hd 6 v hv, h2⟩

theorem symF {P : Program} {ds : List Value} {fs : List Fact} (hd : ∀ d ∈ ds, dataB d = true) (H : ∀ f ∈ fs, f.Holds P ds) : SymOk (sigOf ds) (envF P ds.length fs) := by
  intro o r v h o' r' ρ m w h1 h2 hR hr
  have plr : ∀ x, plainL ds.length 6 (r x) = true → VRel (sigOf ds) ρ (r x) (r' x) → VRel (sigOf ds) ρ (r' x) (r' x) ∧ plain (r' x) = true ∧ r' x = er ds (r x) := fun x hp hv => by
    have e := er_eq 6 _ _ hp hv
    have hp' := er_plain hd 6 _ hp
    rw [e]
    exact ⟨plain_refl ρ hp', hp', rfl⟩
  have h : lookF ds.length fs o.op r = some v := h
  unfold lookF at h
  split at h
  · rename_i op t x y b ho
    have hops : ∀ z ∈ o.op.operands.toList, z = x ∨ z = y := by
      intro z hz
      rw [ho] at hz
      simpa [Op.operands] using hz
    have hxy : VRel (sigOf ds) ρ (r x) (r' x) ∧ VRel (sigOf ds) ρ (r y) (r' y) := ⟨hr x (by rw [ho]; simp [Op.operands]), hr y (by rw [ho]; simp [Op.operands])⟩
    split at h
    · rename_i hp
      rw [Bool.and_eq_true] at hp
      obtain ⟨k1, k2, k3⟩ := plr x hp.1 hxy.1
      obtain ⟨j1, j2, j3⟩ := plr y hp.2 hxy.2
      obtain ⟨f, hf, hg⟩ := find_mem h
      split at hg
      · rename_i op' t' x' y' u
        split at hg
        · rename_i hc
          simp only [Bool.and_eq_true, decide_eq_true_eq, beq_iff_eq] at hc
          obtain ⟨⟨⟨rfl, rfl⟩, hx⟩, hy⟩ := hc
          cases hg
          obtain ⟨hv, hh⟩ := H _ hf
          have ex : er ds x' = r' x := by rw [k3, er, er, vSim_er 6 _ _ hx]
          have ey : er ds y' = r' y := by rw [j3, er, er, vSim_er 6 _ _ hy]
          rw [ex, ey] at hh
          refine plain_gives hd hv ?_
          have hrr : ∀ z ∈ o.op.operands.toList, VRel (sigOf ds) ρ (r' z) (r' z) := fun z hz => by rcases hops z hz with rfl | rfl <;> assumption
          cases hcm : isCmp op with
          | true =>
            rw [hcm] at hh
            rw [ho] at h1
            have e : (execOp r' o').run P w = ((do eqGuard op t x y (r' x) (r' y); binOp op t (r' x) (r' y) : Sem Value).run P w).andThen fun a w' => .ok (.value a) w' := by
              simp only [execOp, h1, Sem.run_bind, Sem.run_pure]
            refine ⟨er ds v, plain_refl _ (er_plain hd 6 v hv), ?_⟩
            show (execOp r' o').run P w = _
            rw [e, hh x y w]
            rfl
          | false =>
            rw [hcm] at hh
            refine pure_sound h1 h2 ?_ hrr ?_ w
            · rw [ho]
              cases op <;> first | rfl | cases hcm
            · unfold pureA
              rw [ho]
              simp only [k2, j2, Bool.and_self, if_true]
              exact hh
        · cases hg
      · cases hg
    · cases h
  · rename_i op t x ho
    have hops : ∀ z ∈ o.op.operands.toList, z = x := by
      intro z hz
      rw [ho] at hz
      simpa [Op.operands] using hz
    have hx0 : VRel (sigOf ds) ρ (r x) (r' x) := hr x (by rw [ho]; simp [Op.operands])
    split at h
    · rename_i hp
      obtain ⟨k1, k2, k3⟩ := plr x hp hx0
      obtain ⟨f, hf, hg⟩ := find_mem h
      split at hg
      · rename_i op' x' u
        split at hg
        · rename_i hc
          simp only [Bool.and_eq_true, decide_eq_true_eq] at hc
          obtain ⟨rfl, hx⟩ := hc
          cases hg
          obtain ⟨hv, hh⟩ := H _ hf
          have ex : er ds x' = r' x := by rw [k3, er, er, vSim_er 6 _ _ hx]
          rw [ex] at hh
          refine plain_gives hd hv ?_
          refine pure_sound h1 h2 ?_ (fun z hz => by rw [hops z hz]; exact k1) ?_ w
          · rw [ho]; rfl
          · unfold pureA
            rw [ho]
            simp only [k2, if_true]
            exact hh
        · cases hg
      · cases hg
    · cases h
  · rename_i s d x ho
    have hops : ∀ z ∈ o.op.operands.toList, z = x := by
      intro z hz
      rw [ho] at hz
      simpa [Op.operands] using hz
    have hx0 : VRel (sigOf ds) ρ (r x) (r' x) := hr x (by rw [ho]; simp [Op.operands])
    split at h
    · rename_i hp
      obtain ⟨k1, k2, k3⟩ := plr x hp hx0
      obtain ⟨f, hf, hg⟩ := find_mem h
      split at hg
      · rename_i s' d' x' u
        split at hg
        · rename_i hc
          simp only [Bool.and_eq_true, beq_iff_eq] at hc
          obtain ⟨⟨rfl, rfl⟩, hx⟩ := hc
          cases hg
          obtain ⟨hv, hsl, hh⟩ := H _ hf
          have ex : er ds x' = r' x := by rw [k3, er, er, vSim_er 6 _ _ hx]
          rw [ex] at hh
          refine plain_gives hd hv ?_
          refine read_sound (m := m) h1 (fun z hz => by rw [hops z hz]; exact k1) hR ?_
          unfold readA
          rw [ho]
          simp only [k2, if_true]
          unfold slices at hsl
          split
          · rename_i he
            have he : P.underlying d = _ := he
            rw [he] at hsl
            cases hsl
          · exact hh
        · cases hg
      · cases hg
    · cases h
  · cases h

theorem sureF {P : Program} {ds : List Value} {fs : List Fact} (hmix : P.follows .mixedOrders = true) (hd : ∀ d ∈ ds, dataB d = true) (H : ∀ f ∈ fs, f.Holds P ds) : Sure (sigOf ds) (envF P ds.length fs) := by
  have key : ∀ f p args m v m', (envF P ds.length fs).prim f = some p → p args m = some (v, m') → m' = m ∧ args.all (plainL ds.length 6) = true ∧ lookC fs f args = some v := by
    intro f p args m v m' h1 h2
    simp only [envF] at h1
    split at h1
    · simp only [Option.some.injEq] at h1
      subst h1
      simp only at h2
      split at h2
      · rename_i ha
        cases hl : lookC fs f args with
        | none => rw [hl] at h2; cases h2
        | some u =>
          rw [hl] at h2
          simp only [Option.map_some, Option.some.injEq, Prod.mk.injEq] at h2
          obtain ⟨rfl, rfl⟩ := h2
          exact ⟨rfl, ha, rfl⟩
      · cases h2
    · cases h1
  refine ⟨fun v u => vEqL_eq 8 v u, symF hd H, hmix, fun f p args m v m' h1 h2 => ?_, fun f p args m v m' h1 h2 => ?_⟩
  · obtain ⟨rfl, ha, hl⟩ := key f p args m v m' h1 h2
    obtain ⟨ft, hf, hg⟩ := find_mem hl
    split at hg
    · rename_i f' args' u
      split at hg
      · rename_i hc
        simp only [Bool.and_eq_true, beq_iff_eq] at hc
        obtain ⟨rfl, hs⟩ := hc
        cases hg
        obtain ⟨hv, hp⟩ := H _ hf
        intro ρ w argsW hR hargs
        have e := args_er ha hargs
        rw [simAll_er hs] at e
        have := hp w
        rw [← e, Array.toArray_toList] at this
        refine this.mono ?_
        rintro e w' ⟨rfl, hb⟩
        exact ⟨_, ρ, rfl, rel_er hd 6 _ hv, below_post hR hb, Old.refl _ _⟩
      · cases hg
    · cases hg
  · obtain ⟨rfl, _, _⟩ := key f p args m v m' h1 h2
    exact Grow.refl _

/-- A run on symbolic values: a contract. -/
def valIs (v : Value) : Option (Out × Mem) → Bool
  | some (.val u, _) => vEqL 8 u v
  | _ => false

theorem pure_of_run {P : Program} {ds : List Value} {fs : List Fact} {len n : Nat} {f : FuncId} {args : List Value} {v : Value} (hmix : P.follows .mixedOrders = true) (hlen : ds.length = len) (hd : ds.all dataB = true)
    (hr : (valIs v (run (envF P len fs) n (.call f args) m0) && (args.all (plainL len 6) && plainL len 6 v)) = true) (H : ∀ f ∈ fs, f.Holds P ds) : PureOk P f (args.map (er ds)) (er ds v) := by
  subst hlen
  have hd' : ∀ d ∈ ds, dataB d = true := fun d h => List.all_eq_true.1 hd d h
  simp only [Bool.and_eq_true] at hr
  obtain ⟨h1, h2, h3⟩ := hr
  unfold valIs at h1
  split at h1
  · rename_i u m' hrun
    have := vEqL_eq 8 _ _ h1
    subst this
    intro w
    refine (callsIn_wide.2 (call_sound (sureF hmix hd' H) hrun (m0_rel w) (args' := (args.map (er ds)).toArray) (by simpa using er_args hd' h2))).mono ?_
    rintro e w' ⟨v', ρ', rfl, hv, hp⟩
    exact ⟨by rw [er_eq 6 _ _ h3 hv]; rfl, hp.below m0_sealed⟩
  · cases h1
end
end Go.Ab
