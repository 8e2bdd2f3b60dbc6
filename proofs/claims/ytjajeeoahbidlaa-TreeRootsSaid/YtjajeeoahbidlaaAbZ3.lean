/- An interpreter of our own: runs on symbolic values, by facts; contracts of functions that turn nothing. -/
import Derived.Test.YtjajeeoahbidlaaAbZ2
namespace Go.Ab
noncomputable section

/-- A function that turns nothing and answers so. -/
def PureOk (P : Program) (f : FuncId) (args : List Value) (v : Value) : Prop :=
  ∀ w, CallsIn Fence.wide 0 P f args.toArray w fun e w' => e = .returned v ∧ RowKit.Below w.heap.size w w'

inductive Fact where
  | bin (op : BinOp) (t : TypeId) (x y v : Value)
  | un (op : UnOp) (x v : Value)
  | conv (s d : TypeId) (x v : Value)
  | call (f : FuncId) (args : List Value) (v : Value)

def isCmp : BinOp → Bool
  | .eql | .neq => true
  | _ => false

def simAll : List Value → List Value → Bool
  | [], [] => true
  | a :: l, b :: k => vSim 6 a b && simAll l k
  | _, _ => false

/-- What the facts know of an operation. -/
def lookF (len : Nat) (fs : List Fact) (o : Op) (r : Operand → Value) : Option Value := match o with
  | .binOp op t x y _ => if plainL len 6 (r x) && plainL len 6 (r y) then fs.findSome? fun
      | .bin op' t' x' y' v => if decide (op = op') && t == t' && vSim 6 (r x) x' && vSim 6 (r y) y' then some v else none
      | _ => none
    else none
  | .unOp op _ x => if plainL len 6 (r x) then fs.findSome? fun
      | .un op' x' v => if decide (op = op') && vSim 6 (r x) x' then some v else none
      | _ => none
    else none
  | .convert s d x => if plainL len 6 (r x) then fs.findSome? fun
      | .conv s' d' x' v => if s == s' && d == d' && vSim 6 (r x) x' then some v else none
      | _ => none
    else none
  | _ => none
def lookC (fs : List Fact) (f : FuncId) (args : List Value) : Option Value := fs.findSome? fun
  | .call f' args' v => if f == f' && simAll args args' then some v else none
  | _ => none
def hasCall (fs : List Fact) (f : FuncId) : Bool := fs.any fun
  | .call f' _ _ => f == f'
  | _ => false

def slices (P : Program) (t : TypeId) : Bool := match P.underlying t with
  | some (.slice _) => true
  | _ => false

def Fact.Holds (P : Program) (ds : List Value) : Fact → Prop
  | .bin op t x y v => plainL ds.length 6 v = true ∧ match isCmp op with
    | true => ∀ xo yo w, (do eqGuard op t xo yo (er ds x) (er ds y); binOp op t (er ds x) (er ds y) : Sem Value).run P w = .ok (er ds v) w
    | false => runV P (binOp op t (er ds x) (er ds y)) = some (er ds v)
  | .un op x v => plainL ds.length 6 v = true ∧ runV P (Op.unary op (er ds x)) = some (er ds v)
  | .conv s d x v => plainL ds.length 6 v = true ∧ slices P d = false ∧ runV P (convert s d (er ds x)) = some (er ds v)
  | .call f args v => plainL ds.length 6 v = true ∧ PureOk P f (args.map (er ds)) (er ds v)

/-- What is known of a slice whose length and elements are symbolic. -/
inductive TFact where
  | len (t : TypeId) (j : Nat) (v : Value)
  | idx (t : TypeId) (j : Nat) (i : Value) (b : Nat)
def TFact.Holds (P : Program) (ds : List Value) (ts : List Tie) : TFact → Prop
  | .len t j v => plainL ds.length 6 v = true ∧ slices P t = true ∧ ∃ q, ts[j]? = some q ∧ er ds v = .int .i64 q.L
  | .idx t j i b => ∃ q e n, ts[j]? = some q ∧ n < q.L ∧ (b, n) ∈ q.elems ∧ er ds i = .int .i64 (n : Nat) ∧ P.underlying t = some (.slice e) ∧ szOf P e = some q.sz
def lookT (len : Nat) (fs : List TFact) (o : Op) (r : Operand → Value) : Option Value := match o with
  | .indexAddr t x i => match r x with
    | .chan (some (j + 1)) => if plainL len 6 (r i) then fs.findSome? fun
        | .idx t' j' i' b => if t == t' && j == j' && vSim 6 (r i) i' then some (ptr b 0) else none
        | _ => none
      else none
    | _ => none
  | .call c => match c.callee, c.argTypes[0]?, c.args[0]? with
    | .builtin .len, some t, some x => match r x with
      | .chan (some (j + 1)) => fs.findSome? fun
        | .len t' j' v => if t == t' && j == j' then some v else none
        | _ => none
      | _ => none
    | _, _, _ => none
  | _ => none

def arrEq (eq : Value → Value → Bool) (a b : Array Value) : Bool := a.size == b.size && (List.range a.size).all fun i => eq (a.getD i undef) (b.getD i undef)
def vEqL : Nat → Value → Value → Bool
  | n + 1, .func (.method a) fs cs, .func (.method b) gs ds => a == b && arrEq (vEqL n) fs gs && arrEq (vEqL n) cs ds
  | n + 1, .iface s a, .iface t b => s == t && vEqL n a b
  | n + 1, .agg a, .agg b => arrEq (vEqL n) a b
  | n + 1, .tuple a, .tuple b => arrEq (vEqL n) a b
  | _, a, b => vEq a b

theorem arrEq_eq {eq : Value → Value → Bool} (h : ∀ a b, eq a b = true → a = b) {a b : Array Value} (H : arrEq eq a b = true) : a = b := by
  simp only [arrEq, Bool.and_eq_true, beq_iff_eq, List.all_eq_true, List.mem_range] at H
  exact arr_ext H.1 fun i hi => h _ _ (H.2 i hi)
theorem vEqL_eq : ∀ (n : Nat) (a b : Value), vEqL n a b = true → a = b := by
  intro n
  induction n with
  | zero =>
    intro a b h
    unfold vEqL at h
    exact vEq_eq h
  | succ n ih =>
    intro a b h
    unfold vEqL at h
    split at h
    · rename_i hn
      cases hn
      simp only [Bool.and_eq_true, beq_iff_eq] at h
      rw [h.1.1, arrEq_eq ih h.1.2, arrEq_eq ih h.2]
    · rename_i hn
      cases hn
      simp only [Bool.and_eq_true, beq_iff_eq] at h
      rw [h.1, ih _ _ h.2]
    · rename_i hn
      cases hn
      rw [arrEq_eq ih h]
    · rename_i hn
      cases hn
      rw [arrEq_eq ih h]
    · exact vEq_eq h

/-- Calls of functions that take or make slices of symbolic length: one that makes block b (number j), one that reads the blocks that are named and answers so. -/
inductive XFact where
  | mk (f : FuncId) (args : List Value) (j b : Nat)
  | use (f : FuncId) (args : List Value) (bs : List (Nat × Nat)) (v : Value)

def simX : Value → Value → Bool
  | .chan (some (i + 1)), .chan (some (j + 1)) => i == j
  | a, b => vSim 6 a b
def simXs : List Value → List Value → Bool
  | [], [] => true
  | a :: l, b :: k => simX a b && simXs l k
  | _, _ => false
def plainX (len : Nat) : Value → Bool
  | .chan (some (_ + 1)) => true
  | a => plainL len 6 a
def frzAt (m : Mem) (e : Nat × Nat) : Bool := match m.get e.2 with
  | some (.frz t) => t == e.1
  | _ => false
def lookX1 (len : Nat) (f : FuncId) (args : List Value) (m : Mem) : XFact → Option (Value × Mem)
  | .mk f' args' j b => if f == f' && args.all (plainL len 6) && simAll args args' && m.next == b then some (.chan (some (j + 1)), (m.bump 1).put b (.frz j)) else none
  | .use f' args' bs v => if f == f' && args.all (plainX len) && simXs args args' && bs.all (frzAt m) then some (v, m) else none
def lookX (len : Nat) (xf : List XFact) (f : FuncId) (args : List Value) (m : Mem) : Option (Value × Mem) := xf.findSome? (lookX1 len f args m)
def hasX (xf : List XFact) (f : FuncId) : Bool := xf.any fun
  | .mk f' _ _ _ => f == f'
  | .use f' _ _ _ => f == f'
/-- It makes the slice q. -/
def MakesOk (P : Program) (f : FuncId) (args : List Value) (q : Tie) : Prop :=
  ∀ w, CallsIn Fence.wide 0 P f args.toArray w fun e w' => ∃ k off C cs t fz, e = .returned (.slice (some ⟨k, off, none⟩) q.L C) ∧ RowKit.Below w.heap.size w w' ∧ w.heap.size ≤ k ∧ w'.heap[k]? = some (.cells cs t fz) ∧
    off + q.cells.length ≤ cs.size ∧ ∀ i, i < q.cells.length → cs.getD (off + i) undef = q.cells.getD i undef
/-- It reads the slices alone. -/
def UsesOk (P : Program) (ds : List Value) (ts : List Tie) (f : FuncId) (args : List Value) (bs : List (Nat × Nat)) (v : Value) : Prop :=
  ∀ ρ m w (args' : Array Value), (∀ e ∈ bs, m.get e.2 = some (.frz e.1)) → Rel (sigOf ds ts) ρ m w → LRel (sigOf ds ts) ρ args args'.toList → CallsIn Fence.wide 0 P f args' w fun e w' => e = .returned (er ds v) ∧ RowKit.Below w.heap.size w w'
def XFact.Holds (P : Program) (ds : List Value) (ts : List Tie) : XFact → Prop
  | .mk f args j b => ∃ q, ts[j]? = some q ∧ q.whole = b ∧ q.elems = [] ∧ MakesOk P f (args.map (er ds)) q
  | .use f args bs v => plainL ds.length 6 v = true ∧ UsesOk P ds ts f args bs v

def envF (P : Program) (len : Nat) (fs : List Fact) (tf : List TFact := []) (xf : List XFact := []) : Env :=
  { P := P, eqv := vEqL 8, prim := fun f => if hasX xf f then some (lookX len xf f) else if hasCall fs f then some fun args m => if args.all (plainL len 6) then (lookC fs f args).map (·, m) else none else none, sym := fun o r => match lookF len fs o.op r with
    | some v => some v
    | none => lookT len tf o.op r }

theorem below_post {σ : Sig} {ρ : Rho} {m : Mem} {w w' : World} (hR : Rel σ ρ m w) (hb : RowKit.Below w.heap.size w w') : Post σ ρ m w ρ m w' := by
  obtain ⟨h1, h2, h3, h4, h5⟩ := hb
  refine ⟨⟨hR.dom, hR.glob, fun b o x hb hx => ?_, hR.inj, hR.fresh⟩, Ext.refl _, Nat.le_refl _, h4, h1, h2, h3, fun k hk _ => h5 k hk, fun b o x hb hx _ => ⟨b, o, x, hb, hx, rfl, id⟩⟩
  have := hR.obj b o x hb hx
  exact this.keep (Ext.refl _) (h5 _ this.lt)

theorem find_mem {α β : Type} {g : α → Option β} {l : List α} {v : β} (h : l.findSome? g = some v) : ∃ a ∈ l, g a = some v := List.exists_of_findSome?_eq_some h

theorem simAll_er {ds : List Value} : ∀ {a b : List Value}, simAll a b = true → a.map (er ds) = b.map (er ds)
  | [], [], _ => rfl
  | a :: l, b :: k, h => by
    simp only [simAll, Bool.and_eq_true] at h
    simp only [List.map_cons, simAll_er h.2]
    rw [er, er, vSim_er 6 a b h.1]
  | [], _ :: _, h => by cases h
  | _ :: _, [], h => by cases h

theorem args_er {ds : List Value} {ts : List Tie} {ρ : Rho} : ∀ {a b : List Value}, a.all (plainL ds.length 6) = true → LRel (sigOf ds ts) ρ a b → b = a.map (er ds)
  | [], [], _, _ => rfl
  | a :: l, b :: k, h, hr => by
    simp only [List.all_cons, Bool.and_eq_true] at h
    rw [List.map_cons, ← args_er h.2 hr.tail, er_eq 6 a b h.1 hr.head]
    rfl
  | [], _ :: _, _, h => absurd h.1 (by simp)
  | _ :: _, [], _, h => absurd h.1 (by simp)
theorem er_args {ds : List Value} {ts : List Tie} {ρ : Rho} (hd : ∀ d ∈ ds, dataB d = true) : ∀ {a : List Value}, a.all (plainL ds.length 6) = true → LRel (sigOf ds ts) ρ a (a.map (er ds))
  | [], _ => LRel.nil _
  | a :: l, h => by
    simp only [List.all_cons, Bool.and_eq_true] at h
    exact LRel.cons (rel_er hd 6 a h.1) (er_args hd h.2)

theorem plain_gives {P : Program} {ds : List Value} {ts : List Tie} {ρ : Rho} {o' : Oper} {r' : Operand → Value} {w : World} {v : Value} (hd : ∀ d ∈ ds, dataB d = true) (hv : plainL ds.length 6 v = true) (h : Gives (sigOf ds ts) P ρ o' r' w (er ds v)) : Gives (sigOf ds ts) P ρ o' r' w v := by
  obtain ⟨v', h1, h2⟩ := h
  have := plainN_eq 6 _ _ (er_plain hd 6 v hv) h1
  subst this
  exact ⟨_, rel_er hd 6 v hv, h2⟩

theorem symF0 {P : Program} {ds : List Value} {ts : List Tie} {fs : List Fact} (hd : ∀ d ∈ ds, dataB d = true) (H : ∀ f ∈ fs, f.Holds P ds) {o : SOp} {r r' : Operand → Value} {v : Value} (h : lookF ds.length fs o.op r = some v) {o' : Oper} {ρ : Rho} {m : Mem} {w : World}
    (h1 : o'.op = o.op) (h2 : o'.type = o.type) (hR : Rel (sigOf ds ts) ρ m w) (hr : ∀ x ∈ o.op.operands.toList, VRel (sigOf ds ts) ρ (r x) (r' x)) : Gives (sigOf ds ts) P ρ o' r' w v := by
  have plr : ∀ x, plainL ds.length 6 (r x) = true → VRel (sigOf ds ts) ρ (r x) (r' x) → VRel (sigOf ds ts) ρ (r' x) (r' x) ∧ plain (r' x) = true ∧ r' x = er ds (r x) := fun x hp hv => by
    have e := er_eq 6 _ _ hp hv
    have hp' := er_plain hd 6 _ hp
    rw [e]
    exact ⟨plain_refl ρ hp', hp', rfl⟩
  unfold lookF at h
  split at h
  · rename_i op t x y b ho
    have hops : ∀ z ∈ o.op.operands.toList, z = x ∨ z = y := by
      intro z hz
      rw [ho] at hz
      simpa [Op.operands] using hz
    have hxy : VRel (sigOf ds ts) ρ (r x) (r' x) ∧ VRel (sigOf ds ts) ρ (r y) (r' y) := ⟨hr x (by rw [ho]; simp [Op.operands]), hr y (by rw [ho]; simp [Op.operands])⟩
    split at h
    · rename_i hp
      rw [Bool.and_eq_true] at hp
      obtain ⟨k1, k2, k3⟩ := plr x hp.1 hxy.1
      obtain ⟨j1, j2, j3⟩ := plr y hp.2 hxy.2
      obtain ⟨f, hf, hg⟩ := find_mem h
      split at hg
      · rename_i op' t' x' y' u
        split at hg
        · rename_i hc
          simp only [Bool.and_eq_true, decide_eq_true_eq, beq_iff_eq] at hc
          obtain ⟨⟨⟨rfl, rfl⟩, hx⟩, hy⟩ := hc
          cases hg
          obtain ⟨hv, hh⟩ := H _ hf
          have ex : er ds x' = r' x := by rw [k3, er, er, vSim_er 6 _ _ hx]
          have ey : er ds y' = r' y := by rw [j3, er, er, vSim_er 6 _ _ hy]
          rw [ex, ey] at hh
          refine plain_gives hd hv ?_
          have hrr : ∀ z ∈ o.op.operands.toList, VRel (sigOf ds ts) ρ (r' z) (r' z) := fun z hz => by rcases hops z hz with rfl | rfl <;> assumption
          cases hcm : isCmp op with
          | true =>
            rw [hcm] at hh
            rw [ho] at h1
            have e : (execOp r' o').run P w = ((do eqGuard op t x y (r' x) (r' y); binOp op t (r' x) (r' y) : Sem Value).run P w).andThen fun a w' => .ok (.value a) w' := by
              simp only [execOp, h1, Sem.run_bind, Sem.run_pure]
            refine ⟨er ds v, plain_refl _ (er_plain hd 6 v hv), ?_⟩
            show (execOp r' o').run P w = _
            rw [e, hh x y w]
            rfl
          | false =>
            rw [hcm] at hh
            refine pure_sound h1 h2 ?_ hrr ?_ w
            · rw [ho]
              cases op <;> first | rfl | cases hcm
            · unfold pureA
              rw [ho]
              simp only [k2, j2, Bool.and_self, if_true]
              exact hh
        · cases hg
      · cases hg
    · cases h
  · rename_i op t x ho
    have hops : ∀ z ∈ o.op.operands.toList, z = x := by
      intro z hz
      rw [ho] at hz
      simpa [Op.operands] using hz
    have hx0 : VRel (sigOf ds ts) ρ (r x) (r' x) := hr x (by rw [ho]; simp [Op.operands])
    split at h
    · rename_i hp
      obtain ⟨k1, k2, k3⟩ := plr x hp hx0
      obtain ⟨f, hf, hg⟩ := find_mem h
      split at hg
      · rename_i op' x' u
        split at hg
        · rename_i hc
          simp only [Bool.and_eq_true, decide_eq_true_eq] at hc
          obtain ⟨rfl, hx⟩ := hc
          cases hg
          obtain ⟨hv, hh⟩ := H _ hf
          have ex : er ds x' = r' x := by rw [k3, er, er, vSim_er 6 _ _ hx]
          rw [ex] at hh
          refine plain_gives hd hv ?_
          refine pure_sound h1 h2 ?_ (fun z hz => by rw [hops z hz]; exact k1) ?_ w
          · rw [ho]; rfl
          · unfold pureA
            rw [ho]
            simp only [k2, if_true]
            exact hh
        · cases hg
      · cases hg
    · cases h
  · rename_i s d x ho
    have hops : ∀ z ∈ o.op.operands.toList, z = x := by
      intro z hz
      rw [ho] at hz
      simpa [Op.operands] using hz
    have hx0 : VRel (sigOf ds ts) ρ (r x) (r' x) := hr x (by rw [ho]; simp [Op.operands])
    split at h
    · rename_i hp
      obtain ⟨k1, k2, k3⟩ := plr x hp hx0
      obtain ⟨f, hf, hg⟩ := find_mem h
      split at hg
      · rename_i s' d' x' u
        split at hg
        · rename_i hc
          simp only [Bool.and_eq_true, beq_iff_eq] at hc
          obtain ⟨⟨rfl, rfl⟩, hx⟩ := hc
          cases hg
          obtain ⟨hv, hsl, hh⟩ := H _ hf
          have ex : er ds x' = r' x := by rw [k3, er, er, vSim_er 6 _ _ hx]
          rw [ex] at hh
          refine plain_gives hd hv ?_
          refine read_sound (m := m) h1 (fun z hz => by rw [hops z hz]; exact k1) hR ?_
          unfold readA
          rw [ho]
          simp only [k2, if_true]
          unfold slices at hsl
          split
          · rename_i he
            have he : P.underlying d = _ := he
            rw [he] at hsl
            cases hsl
          · exact hh
        · cases hg
      · cases hg
    · cases h
  · cases h


theorem symT0 {P : Program} {ds : List Value} {ts : List Tie} {tf : List TFact} (hd : ∀ d ∈ ds, dataB d = true) (H : ∀ f ∈ tf, f.Holds P ds ts) {o : SOp} {r r' : Operand → Value} {v : Value} (h : lookT ds.length tf o.op r = some v) {o' : Oper} {ρ : Rho} {w : World}
    (h1 : o'.op = o.op) (hr : ∀ x ∈ o.op.operands.toList, VRel (sigOf ds ts) ρ (r x) (r' x)) : Gives (sigOf ds ts) P ρ o' r' w v := by
  unfold lookT at h
  split at h
  · rename_i t x i ho
    have hx := hr x (by rw [ho]; simp [Op.operands])
    have hi := hr i (by rw [ho]; simp [Op.operands])
    split at h
    · rename_i j hrx
      split at h
      · rename_i hp
        obtain ⟨f, hf, hg⟩ := find_mem h
        split at hg
        · rename_i t' j' i' b
          split at hg
          · rename_i hc
            simp only [Bool.and_eq_true, beq_iff_eq] at hc
            obtain ⟨⟨rfl, rfl⟩, hs⟩ := hc
            cases hg
            obtain ⟨q, e, n, hq, hnL, he, hei, hu, hsz⟩ := H _ hf
            rw [hrx] at hx
            cases hx with
            | tie ht =>
              obtain ⟨q', hq', hnil⟩ := ht
              rw [hq] at hq'
              cases hq'
              rcases hnil with hnil | ⟨qk, qoff, qC, ht1, _, ht3⟩
              · omega
              obtain ⟨hlt, sl, hρ⟩ := ht3 _ he
              have hiv : r' i = .int .i64 (n : Nat) := by
                rw [er_eq 6 _ _ hp hi, ← hei, er, vSim_er 6 _ _ hs]
              refine ⟨ptr qk (qoff + n * q.sz), ?_, ?_⟩
              · have := VRel.ptr (σ := sigOf ds ts) (o := 0) hρ
                simpa [ptr] using this
              · rw [ho] at h1
                have hb : (0 : Int) ≤ (n : Nat) ∧ ((n : Nat) : Int) < (q.L : Nat) := ⟨by omega, by simpa using hlt⟩
                simp [execOp, h1, ht1, hiv, Instr.indexAt, asIntOf, und_run hu, hb, hlt, sz_run hsz, addr_add, ptr]
          · cases hg
        · cases hg
      · cases h
    · cases h
  · rename_i c ho
    split at h
    · rename_i t x hcal hat hargs
      split at h
      · rename_i j hrx
        obtain ⟨f, hf, hg⟩ := find_mem h
        split at hg
        · rename_i t' j' u
          split at hg
          · rename_i hc
            simp only [Bool.and_eq_true, beq_iff_eq] at hc
            obtain ⟨rfl, rfl⟩ := hc
            cases hg
            obtain ⟨hpl, hsl, q, hq, hev⟩ := H _ hf
            have hmem : x ∈ c.args.toList := by
              have : c.args.toList[0]? = some x := by simpa using hargs
              exact List.mem_of_getElem? this
            have hx := hr x (by rw [ho]; simpa [Op.operands, Call.operands, hcal] using hmem)
            rw [hrx] at hx
            cases hx with
            | tie ht =>
              obtain ⟨q', hq', hnil⟩ := ht
              rw [hq] at hq'
              cases hq'
              rw [ho] at h1
              have hu : ∃ e, P.underlying t = some (.slice e) := by
                unfold slices at hsl
                split at hsl
                · exact ⟨_, ‹_›⟩
                · cases hsl
              obtain ⟨e, hu⟩ := hu
              refine plain_gives hd hpl ⟨er ds v, plain_refl ρ (er_plain hd 6 v hpl), ?_⟩
              rw [hev]
              obtain ⟨qa, qC, hr0⟩ : ∃ qa qC, (c.args.map r')[0]? = some (.slice qa q.L qC) := by
                rcases hnil with ⟨hL, qa, qC, ht1⟩ | ⟨qk, qoff, qC, ht1, _, _⟩
                · exact ⟨qa, qC, by simp [hargs, ht1, hL]⟩
                · exact ⟨some ⟨qk, qoff, none⟩, qC, by simp [hargs, ht1]⟩
              exact resolve_builtin h1 hcal (fun cs => rfl) (by simp [Builtin.len_, hat, hr0, und_run hu, goInt])
          · cases hg
        · cases hg
      · cases h
    · cases h
  · cases h

theorem symF {P : Program} {ds : List Value} {ts : List Tie} {fs : List Fact} (hd : ∀ d ∈ ds, dataB d = true) (H : ∀ f ∈ fs, f.Holds P ds) {tf : List TFact} (HT : ∀ f ∈ tf, f.Holds P ds ts) {xf : List XFact} : SymOk (sigOf ds ts) (envF P ds.length fs tf xf) := by
  intro o r v h o' r' ρ m w h1 h2 hR hr
  have h : (match lookF ds.length fs o.op r with | some v => some v | none => lookT ds.length tf o.op r) = some v := h
  split at h
  · rename_i u hu
    cases h
    exact symF0 hd H hu h1 h2 hR hr
  · exact symT0 hd HT h h1 hr

theorem simX_rel {ds : List Value} {ts : List Tie} {ρ : Rho} (hd : ∀ d ∈ ds, dataB d = true) {a b v : Value} (hp : plainX ds.length a = true) (hq : plainX ds.length b = true) (h : simX a b = true) (hv : VRel (sigOf ds ts) ρ a v) : VRel (sigOf ds ts) ρ b v := by
  unfold simX at h
  split at h
  · obtain rfl := eq_of_beq h
    exact hv
  · have hp' : plainL ds.length 6 a = true := by
      unfold plainX at hp
      split at hp
      · cases b <;> first | (simp [vSim] at h; done) | skip
      · exact hp
    have hq' : plainL ds.length 6 b = true := by
      unfold plainX at hq
      split at hq
      · cases a <;> first | (simp [vSim] at h; done) | skip
      · exact hq
    rw [er_eq 6 _ _ hp' hv, vSim_er 6 _ _ h]
    exact rel_er hd 6 _ hq'

/-- The same arguments, by other names. -/
theorem simXs_rel {ds : List Value} {ts : List Tie} {ρ : Rho} (hd : ∀ d ∈ ds, dataB d = true) : ∀ {a b l : List Value}, a.all (plainX ds.length) = true → b.all (plainX ds.length) = true → simXs a b = true → LRel (sigOf ds ts) ρ a l → LRel (sigOf ds ts) ρ b l
  | [], [], _, _, _, _, h => h
  | x :: a, y :: b, l, hp, hq, hs, h => by
    simp only [List.all_cons, Bool.and_eq_true] at hp hq
    simp only [simXs, Bool.and_eq_true] at hs
    cases l with
    | nil => exact absurd h.1 (by simp)
    | cons z l => exact LRel.cons (simX_rel hd hp.1 hq.1 hs.1 h.head) (simXs_rel hd hp.2 hq.2 hs.2 h.tail)
  | [], _ :: _, _, _, _, h, _ => by cases h
  | _ :: _, [], _, _, _, h, _ => by cases h

def XFact.plain (len : Nat) : XFact → Bool
  | .mk _ args _ _ => args.all (plainL len 6)
  | .use _ args _ _ => args.all (plainX len)

theorem makes_ok {P : Program} {ds : List Value} {ts : List Tie} {f : FuncId} {args : List Value} {j : Nat} {q : Tie} {m : Mem} (hq : ts[j]? = some q) (hn : m.next = q.whole) (he : q.elems = []) (h64 : 64 ≤ m.next) (hM : ∀ ρ w (args' : Array Value), LRel (sigOf ds ts) ρ args args'.toList → CallsIn Fence.wide 0 P f args' w fun e w' => ∃ k off C cs t fz, e = .returned (.slice (some ⟨k, off, none⟩) q.L C) ∧ RowKit.Below w.heap.size w w' ∧ w.heap.size ≤ k ∧ w'.heap[k]? = some (.cells cs t fz) ∧
    off + q.cells.length ≤ cs.size ∧ ∀ i, i < q.cells.length → cs.getD (off + i) undef = q.cells.getD i undef) : CallOk (sigOf ds ts) P f args m (.chan (some (j + 1))) ((m.bump 1).put q.whole (.frz j)) := by
  intro ρ w args' hR ha
  refine (hM ρ w args' ha).mono ?_
  rintro e w' ⟨k, off, C, cs, t, fz, rfl, hb, hk, h1, h2, h3⟩
  have hnone : ρ q.whole = none := hR.dom _ (by omega)
  have hext : Ext ρ (upd ρ q.whole (k, off, 0)) := upd_ext hnone _
  obtain ⟨hb1, hb2, hb3, hb4, hb5⟩ := hb
  have hget : ∀ b, ((m.bump 1).put q.whole (.frz j)).get b = if b = q.whole then some (.frz j) else m.get b := fun b => by
    rw [Mem.get_put]; rfl
  have hlt : ∀ b o x, m.get b = some o → ρ b = some x → x.1 < w.heap.size := fun b o x hb hx => (hR.obj b o x hb hx).lt
  refine ⟨_, upd ρ q.whole (k, off, 0), rfl, .tie ⟨q, hq, .inr ⟨k, off, C, rfl, ⟨0, upd_same _ _ _⟩, fun e h => by rw [he] at h; cases h⟩⟩, ⟨⟨fun b hb => ?_, fun g hg => ?_, fun b o x hb hx => ?_, fun b1 b2 o1 o2 x1 x2 hne g1 g2 k1 k2 hw => ?_, fun b hb => ?_⟩, hext, ?_, hb4, hb1, hb2, hb3, fun k hk _ => hb5 k hk, fun b o x hb hx hlt' => ?_⟩, fun b hb hne => ?_⟩
  · have hb : m.next + 1 ≤ b := hb
    have : b ≠ q.whole := by omega
    simp only [upd, this, if_false]
    exact hR.dom b (by omega)
  · have : g ≠ q.whole := by omega
    simp only [upd, this, if_false]
    exact hR.glob g hg
  · rw [hget] at hb
    by_cases e : b = q.whole
    · rw [if_pos e] at hb
      cases hb
      subst e
      rw [upd_same] at hx
      cases hx
      refine ⟨q.cells, cs, t, fz, ?_, h1, by simpa using h2, h3⟩
      show (ts[j]?).map (·.cells) = _
      rw [hq]
      rfl
    · rw [if_neg e] at hb
      have hx' : ρ b = some x := by simpa [upd, e] using hx
      have := hR.obj b o x hb hx'
      exact this.keep hext (hb5 _ this.lt)
  · rw [hget] at g1 g2
    by_cases e1 : b1 = q.whole
    · rw [if_pos e1] at g1
      cases g1
      cases hw
    · rw [if_neg e1] at g1
      have k1' : ρ b1 = some x1 := by simpa [upd, e1] using k1
      by_cases e2 : b2 = q.whole
      · subst e2
        rw [upd_same] at k2
        cases k2
        have := hlt _ _ _ g1 k1'
        simp only
        omega
      · rw [if_neg e2] at g2
        have k2' : ρ b2 = some x2 := by simpa [upd, e2] using k2
        exact hR.inj b1 b2 o1 o2 x1 x2 hne g1 g2 k1' k2' hw
  · have hb : m.next + 1 ≤ b := hb
    rw [hget, if_neg (by omega)]
    exact hR.fresh b (by omega)
  · show m.next ≤ m.next + 1
    omega
  · rw [hget] at hb
    by_cases e : b = q.whole
    · subst e
      rw [upd_same] at hx
      cases hx
      simp only at hlt'
      omega
    · rw [if_neg e] at hb
      exact ⟨b, o, x, hb, by simpa [upd, e] using hx, rfl, id⟩
  · have : b ≠ q.whole := by omega
    simpa [upd, this] using hne

theorem sureFT {P : Program} {ds : List Value} {ts : List Tie} {fs : List Fact} (hmix : P.follows .mixedOrders = true) (hd : ∀ d ∈ ds, dataB d = true) (H : ∀ f ∈ fs, f.Holds P ds) {tf : List TFact} (HT : ∀ f ∈ tf, f.Holds P ds ts) {xf : List XFact} (HX : ∀ f ∈ xf, f.plain ds.length = true ∧ f.Holds P ds ts) : Sure (sigOf ds ts) (envF P ds.length fs tf xf) := by
  have key : ∀ f p args m v m', (envF P ds.length fs tf xf).prim f = some p → p args m = some (v, m') → lookX ds.length xf f args m = some (v, m') ∨ (m' = m ∧ args.all (plainL ds.length 6) = true ∧ lookC fs f args = some v) := by
    intro f p args m v m' h1 h2
    simp only [envF] at h1
    split at h1
    · cases h1
      exact .inl h2
    · split at h1
      · simp only [Option.some.injEq] at h1
        subst h1
        simp only at h2
        split at h2
        · rename_i ha
          cases hl : lookC fs f args with
          | none => rw [hl] at h2; cases h2
          | some u =>
            rw [hl] at h2
            simp only [Option.map_some, Option.some.injEq, Prod.mk.injEq] at h2
            obtain ⟨rfl, rfl⟩ := h2
            exact .inr ⟨rfl, ha, rfl⟩
        · cases h2
      · cases h1
  refine ⟨fun v u => vEqL_eq 8 v u, symF hd H HT, hmix, fun f p args m v m' h1 h2 => ?_, fun f p args m v m' h1 h2 => ?_⟩
  · rcases key f p args m v m' h1 h2 with hl | ⟨rfl, ha, hl⟩
    · obtain ⟨ft, hf, hg⟩ := find_mem hl
      obtain ⟨hpl, hh⟩ := HX _ hf
      unfold lookX1 at hg
      split at hg
      · rename_i f' args' j b
        split at hg
        · rename_i hc
          simp only [Bool.and_eq_true, beq_iff_eq] at hc
          obtain ⟨⟨⟨rfl, ha⟩, hs⟩, hn⟩ := hc
          cases hg
          obtain ⟨q, hq, hw, he, hM⟩ := hh
          subst hw
          intro ρ w argsW hR hargs
          have h64 : 64 ≤ m.next := by
            rcases Nat.lt_or_ge m.next 64 with h | h
            · have := hR.glob m.next h
              rw [hR.dom _ (Nat.le_refl _)] at this
              cases this
            · exact h
          refine makes_ok hq hn he h64 (fun ρ w argsW hargs => ?_) ρ w argsW hR hargs
          have e := args_er ha hargs
          rw [simAll_er hs] at e
          have := hM w
          rw [← e, Array.toArray_toList] at this
          exact this
        · cases hg
      · rename_i f' args' bs u
        split at hg
        · rename_i hc
          simp only [Bool.and_eq_true, beq_iff_eq] at hc
          obtain ⟨⟨⟨rfl, ha⟩, hs⟩, hb⟩ := hc
          cases hg
          obtain ⟨hv, hU⟩ := hh
          intro ρ w argsW hR hargs
          refine (hU ρ m w argsW (fun e he => ?_) hR (simXs_rel hd ha hpl hs hargs)).mono ?_
          · have := List.all_eq_true.1 hb e he
            unfold frzAt at this
            split at this
            · rename_i t ht
              rw [ht, eq_of_beq this]
            · cases this
          · rintro e w' ⟨rfl, hbl⟩
            exact ⟨_, ρ, rfl, rel_er hd 6 _ hv, below_post hR hbl, Old.refl _ _⟩
        · cases hg
    · obtain ⟨ft, hf, hg⟩ := find_mem hl
      split at hg
      · rename_i f' args' u
        split at hg
        · rename_i hc
          simp only [Bool.and_eq_true, beq_iff_eq] at hc
          obtain ⟨rfl, hs⟩ := hc
          cases hg
          obtain ⟨hv, hp⟩ := H _ hf
          intro ρ w argsW hR hargs
          have e := args_er ha hargs
          rw [simAll_er hs] at e
          have := hp w
          rw [← e, Array.toArray_toList] at this
          refine this.mono ?_
          rintro e w' ⟨rfl, hb⟩
          exact ⟨_, ρ, rfl, rel_er hd 6 _ hv, below_post hR hb, Old.refl _ _⟩
        · cases hg
      · cases hg
  · rcases key f p args m v m' h1 h2 with hl | ⟨rfl, _, _⟩
    · obtain ⟨ft, hf, hg⟩ := find_mem hl
      unfold lookX1 at hg
      split at hg
      · split at hg
        · rename_i hc
          simp only [Bool.and_eq_true, beq_iff_eq] at hc
          cases hg
          refine ⟨Nat.le_succ _, fun b hb hnone => ?_⟩
          rw [Mem.get_put, if_neg (by omega)]
          exact hnone
        · cases hg
      · split at hg
        · cases hg
          exact Grow.refl _
        · cases hg
    · exact Grow.refl _

theorem sureF {P : Program} {ds : List Value} {fs : List Fact} (hmix : P.follows .mixedOrders = true) (hd : ∀ d ∈ ds, dataB d = true) (H : ∀ f ∈ fs, f.Holds P ds) : Sure (sigOf ds) (envF P ds.length fs) := sureFT hmix hd H (tf := []) (fun f h => by cases h) (xf := []) (fun f h => by cases h)

/-- A run on symbolic values: a contract. -/
def valIs (v : Value) : Option (Out × Mem) → Bool
  | some (.val u, _) => vEqL 8 u v
  | _ => false

theorem pure_of_run {P : Program} {ds : List Value} {fs : List Fact} {len n : Nat} {f : FuncId} {args : List Value} {v : Value} (hmix : P.follows .mixedOrders = true) (hlen : ds.length = len) (hd : ds.all dataB = true)
    (hr : (valIs v (run (envF P len fs) n (.call f args) m0) && (args.all (plainL len 6) && plainL len 6 v)) = true) (H : ∀ f ∈ fs, f.Holds P ds) : PureOk P f (args.map (er ds)) (er ds v) := by
  subst hlen
  have hd' : ∀ d ∈ ds, dataB d = true := fun d h => List.all_eq_true.1 hd d h
  simp only [Bool.and_eq_true] at hr
  obtain ⟨h1, h2, h3⟩ := hr
  unfold valIs at h1
  split at h1
  · rename_i u m' hrun
    have := vEqL_eq 8 _ _ h1
    subst this
    intro w
    refine (callsIn_wide.2 (call_sound (sureF hmix hd' H) hrun (m0_rel w) (args' := (args.map (er ds)).toArray) (by simpa using er_args hd' h2))).mono ?_
    rintro e w' ⟨v', ρ', rfl, hv, hp⟩
    exact ⟨by rw [er_eq 6 _ _ h3 hv]; rfl, hp.below m0_sealed⟩
  · cases h1
end
end Go.Ab
