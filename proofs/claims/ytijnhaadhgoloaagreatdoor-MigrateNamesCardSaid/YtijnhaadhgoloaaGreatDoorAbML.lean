/- An interpreter of our own: loops over maps, in whichever order their entries come; every way to a function's end. -/
import Derived.Test.YtijnhaadhgoloaaGreatDoorAbPU
import Derived.Maps.RangeRun
namespace Go.Ab
open Go.ChangeMaps (setBlock)
noncomputable section
variable {σ : Sig} {P : Program}

abbrev MWay := Exit × List Value × Mem

/-- 'for k, v := range m': its parts. -/
structure ML where
  pre : List SOp
  tR : TypeId
  ty : TypeId
  x : Operand
  ti : Tmp
  bid : Nat
  nT : TypeId
  xT : TypeId
  tn : Tmp
  c : Tmp
  k : Nat
  te : Option Tmp
  eT : TypeId
  er : List SOp
  body : SCode
def ML.rng (L : ML) : SOp := ⟨some L.ti, .range L.ty L.x, L.tR, none⟩
def ML.nx (L : ML) : List SOp := [⟨some L.tn, .next (.tmp L.ti) false, L.nT, none⟩, ⟨some L.c, .extract (.tmp L.tn) 0, L.xT, none⟩]
def ML.en (L : ML) : List SOp := ⟨L.te, .entry (.tmp L.ti), L.eT, none⟩ :: L.er
def ML.round (L : ML) : SCode := .seq (.reg L.nx) (.seq (.cond (.tmp L.c) .skip (.exit L.bid)) (.block L.k (.seq (.reg L.en) L.body)))
def ML.code (L : ML) : SCode := .seq (.reg (L.pre ++ [L.rng])) (.block L.bid (.loop L.round))

def mlOf : SCode → Option ML
  | .seq (.reg rops) (.block bid (.loop (.seq (.reg [⟨some tn, .next (.tmp ti2) false, nT, none⟩, ⟨some c2, .extract (.tmp tn2) 0, xT, none⟩]) (.seq (.cond (.tmp c) .skip (.exit bid2)) (.block k (.seq (.reg (⟨te, .entry (.tmp ti3), eT, none⟩ :: er)) body)))))) =>
    match rops.getLast? with
    | some ⟨some ti, .range ty x, tR, none⟩ => if ti2 = ti ∧ ti3 = ti ∧ c2 = c ∧ tn2 = tn ∧ bid2 = bid then
        some { pre := rops.dropLast, tR, ty, x, ti, bid, nT, xT, tn, c, k, te, eT, er, body } else none
    | _ => none
  | _ => none
theorem mlOf_ok {c : SCode} {L : ML} (h : mlOf c = some L) : c = L.code := by
  unfold mlOf at h
  split at h
  · split at h
    · rename_i hl
      split at h
      · rename_i he
        obtain ⟨rfl, rfl, rfl, rfl, rfl⟩ := he
        cases h
        obtain ⟨l, rfl⟩ := List.getLast?_eq_some_iff.1 hl
        simp [ML.code, ML.rng, ML.round, ML.nx, ML.en]
      · cases h
    · cases h
  · cases h

def blk (i : Nat) : Exit → Exit
  | .exit j => if j = i then .normal else .exit j
  | x => x
def allW {α : Type} (f : α → Option (List MWay)) : List α → Option (List MWay)
  | [] => some []
  | a :: l => match f a with
    | some x => match allW f l with
      | some y => some (x ++ y)
      | none => none
    | none => none
theorem allW_mem {α : Type} {f : α → Option (List MWay)} : ∀ {l : List α} {ws : List MWay}, allW f l = some ws → ∀ a ∈ l, ∃ x, f a = some x ∧ ∀ q ∈ x, q ∈ ws
  | [], _, _, a, ha => by cases ha
  | b :: l, ws, h, a, ha => by
    simp only [allW] at h
    split at h
    · rename_i x hx
      split at h
      · rename_i y hy
        cases h
        rcases List.mem_cons.1 ha with rfl | ha
        · exact ⟨x, hx, fun q hq => List.mem_append_left _ hq⟩
        · obtain ⟨z, h1, h2⟩ := allW_mem hy a ha
          exact ⟨z, h1, fun q hq => List.mem_append_right _ (h2 q hq)⟩
      · cases h
    · cases h

/-- Is the iterator still where it was laid? -/
def iterAt (idR : Nat) (v : Value) : Bool := match v with
  | .pointer (some ⟨b, 0, none⟩) => Nat.beq b idR
  | _ => false
theorem iterAt_eq {idR : Nat} {v : Value} (h : iterAt idR v = true) : v = ptr idR 0 := by
  unfold iterAt at h
  split at h
  · rw [Nat.eq_of_beq_eq_true h]
  · cases h

def mround (E : Env) (self : Self) (L : ML) (e : Value × Value) (t : List Value) (m : Mem) : Option MWay :=
  match seqOps E self (m.next + 3) L.er (putT L.te (.tuple #[e.1, e.2]) ((t.set L.tn (.tuple #[.bool true, e.1, e.2])).set L.c (.bool true))) (m.bump (L.er.length + 3)) with
  | some (t2, m2) => match self (.code none L.body t2) m2 with
    | some (.exit x t3, m3) => some (blk L.k x, t3, m3)
    | _ => none
  | none => none
def mrounds (E : Env) (self : Self) (L : ML) (idR : Nat) (es : List (Value × Value)) : Nat → List Nat → List Value → Mem → Option (List MWay)
  | n, left, t, m => if iterAt idR (t.getD L.ti undef) && decide (L.ti ≠ L.tn ∧ L.ti ≠ L.c ∧ L.tn < t.length ∧ L.c < t.length) then (match left with
    | [] => some [(.exit L.bid, (t.set L.tn (.tuple #[.bool false])).set L.c (.bool false), m.bump 2)]
    | i :: l => match n with
      | 0 => none
      | n + 1 => allW (fun j => match es[j]? with
        | none => none
        | some e => match mround E self L e t m with
          | none => none
          | some (x, t', m') => match x with
            | .normal => mrounds E self L idR es n ((i :: l).filter (· != j)) t' m'
            | x => some [(x, t', m')]) (i :: l)) else none
def mloop (E : Env) (self : Self) (L : ML) (t : List Value) (m : Mem) : Option (List MWay) :=
  match seqOps E self m.next L.pre t (m.bump (L.pre.length + 1)) with
  | some (t1, m1) => match ev L.x t1, E.P.underlying L.ty with
    | .map (some b), some (.map _ _) => match m1.get b with
      | some (.map es true) => match mrounds E self L (m.next + L.pre.length) es es.length (List.range es.length) (t1.set L.ti (ptr (m.next + L.pre.length) 0)) ((m1.kill b).kill (m.next + L.pre.length)) with
        | some ws => some (ws.map fun q => (blk L.bid q.1, q.2.1, q.2.2.put b (.map es true)))
        | none => none
      | _ => none
    | _, _ => none
  | none => none
def mcode (E : Env) (self : Self) : SCode → List Value → Mem → Option (List MWay)
  | .seq a b, t, m => match mlOf (.seq a b) with
    | some L => mloop E self L t m
    | none => match mcode E self a t m with
      | some ws => allW (fun q => match q with
        | (.normal, t', m') => mcode E self b t' m'
        | q => some [q]) ws
      | none => none
  | c, t, m => match self (.code none c t) m with
    | some (.exit x t', m') => some [(x, t', m')]
    | _ => none

/-! ### what it means -/
def WPost (σ : Sig) (ρ : Rho) (m : Mem) (w : World) (lo : Nat) (ws : List MWay) (e : Exit) (a : Act) (w' : World) : Prop :=
  ∃ q ∈ ws, CPost σ ρ m w lo q.1 q.2.1 q.2.2 e a w'
def CodeOkL (σ : Sig) (P : Program) (c : SCode) (t : List Value) (m : Mem) (ws : List MWay) : Prop :=
  ∀ (k : Code) ρ w (a : Act) l lo, comp k = some c → Rel σ ρ m w → LRel σ ρ t a.tmps.toList → Marks lo w a.defers → lo ≤ w.heap.size → RdRel ρ none l →
    k.wpIn (Fr l) 0 P (WPost σ ρ m w lo ws) a w

def WPostN (σ : Sig) (n0 : Nat) (ρ : Rho) (m : Mem) (w : World) (lo : Nat) (ws : List MWay) (e : Exit) (a : Act) (w' : World) : Prop :=
  ∃ q ∈ ws, e = q.1 ∧ okX q.1 = true ∧ ∃ ρ', LRel σ ρ' q.2.1 a.tmps.toList ∧ Marks lo w' a.defers ∧ Post σ ρ m w ρ' q.2.2 w' ∧ Old n0 ρ ρ'
/-- No block of the abstract memory lies at r. -/
def Off (ρ : Rho) (m : Mem) (r : Nat) : Prop := ∀ b o x, m.get b = some o → ρ b = some x → x.1 ≠ r
theorem Off.post {ρ ρ' : Rho} {m m' : Mem} {w w' : World} {r : Nat} (h : Off ρ m r) (hr : r < w.heap.size) (hp : Post σ ρ m w ρ' m' w') : Off ρ' m' r := fun b o x hb hx e => by
  obtain ⟨b0, o0, x0, h1, h2, h3, _⟩ := hp.img b o x hb hx (e ▸ hr)
  exact h b0 o0 x0 h1 h2 (h3.trans e)
theorem Off.still {ρ ρ' : Rho} {m m' : Mem} {w w' : World} {r : Nat} (h : Off ρ m r) (hr : r < w.heap.size) (hp : Post σ ρ m w ρ' m' w') : w'.heap[r]? = w.heap[r]? :=
  hp.frame r hr fun b o x hb _ hx => h b o x hb hx
/-- A block that no abstract one stands for has turned. -/
theorem Post.iter {ρ0 ρ : Rho} {m0 m : Mem} {w0 w w1 : World} {r : Nat} (h : Post σ ρ0 m0 w0 ρ m w) (hr : w0.heap.size ≤ r) (ho : Off ρ m r) (hw : w1 = w ∨ w1 = w.drew) (o : Obj) : Post σ ρ0 m0 w0 ρ m (setBlock w1 r o) := by
  have hw1 : w1.heap = w.heap := by rcases hw with rfl | rfl <;> rfl
  have hh : ∀ k, k ≠ r → (setBlock w1 r o).heap[k]? = w.heap[k]? := fun k hk => by
    simp [setBlock, hw1, Ne.symm hk]
  have hs : (setBlock w1 r o).heap.size = w.heap.size := by simp [setBlock, hw1]
  refine ⟨⟨h.rel.dom, h.rel.glob, fun b ob x hb hx => ?_, h.rel.inj, h.rel.fresh⟩, h.ext, h.next, hs ▸ h.size, ?_, ?_, ?_, fun k hk hf => ?_, h.img⟩
  · exact (h.rel.obj b ob x hb hx).keep (Ext.refl _) (hh _ (ho b ob x hb hx))
  · rcases hw with rfl | rfl <;> exact h.os
  · rcases hw with rfl | rfl <;> exact h.tape
  · rcases hw with rfl | rfl <;> exact h.output
  · rw [hh k (by omega)]
    exact h.frame k hk hf

theorem setBlock_same {w w1 : World} {r : Nat} {o o1 : Obj} (hw : w1 = w ∨ w1 = w.drew) (h : w.heap[r]? = some o1) : (setBlock w1 r o).heap[r]? = some o := by
  have hw1 : w1.heap = w.heap := by rcases hw with rfl | rfl <;> rfl
  have := (Array.getElem?_eq_some_iff.1 h).1
  simp [setBlock, hw1, this]
theorem setBlock_other {w w1 : World} {r k : Nat} {o : Obj} (hw : w1 = w ∨ w1 = w.drew) (hk : k ≠ r) : (setBlock w1 r o).heap[k]? = w.heap[k]? := by
  have hw1 : w1.heap = w.heap := by rcases hw with rfl | rfl <;> rfl
  simp [setBlock, hw1, Ne.symm hk]

/-- The region that asks for the next entry. -/
theorem next_reg {L : ML} {n : Nat} {ops : Array Oper} (hst : stripAll ops ops.toList = some L.nx) {l : Option Nat} {Q : Exit → Act → World → Prop} {a : Act} {w w1 : World} {b : Bool} {xs : List Value}
    (h1 : L.tn < a.tmps.size) (hrun : ∀ ty, (Instr.next (a.eval (.tmp L.ti)) false ty).run P w = .ok (.tuple (.bool b :: xs).toArray) w1)
    (hQ : Q .normal ((a.put (some L.tn) (.tuple (.bool b :: xs).toArray)).put (some L.c) (.bool b)) w1) : (Code.region n ops false).wpIn (Fr l) 0 P Q a w := by
  apply wpIn_region
  obtain ⟨g1, g2⟩ := stripAll_at hst
  have hs : ops.size = 2 := by simpa [ML.nx] using g1.symm
  have at_ : ∀ i, i < 2 → ∃ o, ops[i]? = some o := fun i hi => ⟨_, Array.getElem?_eq_getElem (by omega)⟩
  obtain ⟨o1, e1⟩ := at_ 0 (by omega)
  obtain ⟨o2, e2⟩ := at_ 1 (by omega)
  obtain ⟨s1, k1, p1⟩ := g2 0 o1 (by rw [Array.getElem?_toList]; exact e1)
  obtain ⟨s2, k2, p2⟩ := g2 1 o2 (by rw [Array.getElem?_toList]; exact e2)
  simp only [ML.nx, List.getElem?_cons_zero, List.getElem?_cons_succ, Option.some.injEq] at k1 k2
  subst k1 k2
  have w1' : ∀ y, Region.wanted o1 y = true := fun y => by rcases p1.guard with ⟨q, _⟩ | ⟨j, b, t, _, q, _⟩ <;> simp_all [Region.wanted]
  have w2' : ∀ y, Region.wanted o2 y = true := fun y => by rcases p2.guard with ⟨q, _⟩ | ⟨j, b, t, _, q, _⟩ <;> simp_all [Region.wanted]
  have u1 : o1.op = .next (.tmp L.ti) false := p1.op
  have u2 : o2.op = .extract (.tmp L.tn) 0 := p2.op
  have d1 : o1.dst = some L.tn := p1.dst
  have d2 : o2.dst = some L.c := p2.dst
  rw [hs]
  simp only [List.range_succ_eq_map, List.range_zero, List.map_nil, List.map_cons, wpOpsIn, e1, e2, w1', w2', if_true]
  refine ⟨fun _ _ => trivial, ?_⟩
  rw [cls_gives_sem (by rw [u1]; intro c hc; cases hc)]
  have r1 : (execOp a.eval o1).run P w = .ok (.value (.tuple (.bool b :: xs).toArray)) w1 := by
    simp [execOp, u1, hrun]
  rw [r1]
  show Oper.wpIn _ _ _ _ _ _ _ _
  refine ⟨fun _ _ => trivial, ?_⟩
  rw [cls_gives_sem (by rw [u2]; intro c hc; cases hc)]
  have ev2 : (a.put o1.dst (.tuple (.bool b :: xs).toArray)).eval (.tmp L.tn) = .tuple (.bool b :: xs).toArray := by
    rw [d1]
    show (a.tmps.setIfInBounds L.tn _).getD L.tn undef = _
    simp [Array.getD_eq_getD_getElem?, h1]
  have r2 : (execOp (a.put o1.dst (.tuple (.bool b :: xs).toArray)).eval o2).run P w1 = .ok (.value (.bool b)) w1 := by
    simp [execOp, u2, ev2, Instr.extract]
  rw [r2]
  show Q .normal _ _
  rw [d1, d2]
  exact hQ

/-- The region that begins with the entry. -/
theorem entry_reg {E : Env} {self : Self} (hE : E.P = P) (hS : SymOk σ E) (hs : SelfOk σ P self) {L : ML} {n : Nat} {ops : Array Oper} (hst : stripAll ops ops.toList = some L.en) {l : Option Nat} {Q : Exit → Act → World → Prop} {ρ : Rho} {m m' : Mem} {a : Act} {w : World} {t t' : List Value} {e : Value × Value} {kv vv : Value}
    (hR : Rel σ ρ m w) (ht : LRel σ ρ t a.tmps.toList) (hrun : (Instr.entry (a.eval (.tmp L.ti))).run P w = .ok (.tuple #[kv, vv]) w) (h1 : VRel σ ρ e.1 kv) (h2 : VRel σ ρ e.2 vv)
    (h : seqOps E self (m.next + 1) L.er (putT L.te (.tuple #[e.1, e.2]) t) (m.bump (L.er.length + 1)) = some (t', m'))
    (hQ : ∀ a' w' ρ', LRel σ ρ' t' a'.tmps.toList → a'.defers = a.defers → Post σ ρ m w ρ' m' w' → Old m.next ρ ρ' → Q .normal a' w') : (Code.region n ops false).wpIn (Fr l) 0 P Q a w := by
  apply wpIn_region
  obtain ⟨g1, g2⟩ := stripAll_at hst
  have hsz : ops.size = L.er.length + 1 := by simpa [ML.en] using g1.symm
  obtain ⟨o1, e1⟩ : ∃ o, ops[0]? = some o := ⟨_, Array.getElem?_eq_getElem (by omega)⟩
  obtain ⟨s1, k1, p1⟩ := g2 0 o1 (by rw [Array.getElem?_toList]; exact e1)
  simp only [ML.en, List.getElem?_cons_zero, Option.some.injEq] at k1
  subst k1
  have w1' : ∀ y, Region.wanted o1 y = true := fun y => by rcases p1.guard with ⟨q, _⟩ | ⟨j, b, t, _, q, _⟩ <;> simp_all [Region.wanted]
  have u1 : o1.op = .entry (.tmp L.ti) := p1.op
  have d1 : o1.dst = L.te := p1.dst
  rw [hsz, List.range_eq_range', List.range'_succ]
  simp only [wpOpsIn, e1, w1', if_true]
  refine ⟨fun _ _ => trivial, ?_⟩
  rw [cls_gives_sem (by rw [u1]; intro c hc; cases hc)]
  have r1 : (execOp a.eval o1).run P w = .ok (.value (.tuple #[kv, vv])) w := by
    simp [execOp, u1, hrun]
  rw [r1]
  show wpOpsIn _ _ _ _ _ _ _ _
  rw [d1]
  refine seq_ok hE hS hs L.er 1 (m.next + 1) (fun j s hj => ?_) (hR.bump (L.er.length + 1)) (putT_rel ht (LRel.tuple (LRel.cons h1 (LRel.cons h2 (LRel.nil ρ)))) L.te) (fun b hb _ => hR.dom b (by omega)) (by simp only [Mem.next_bump]; omega) h fun a' w' ρ' k1 k2 k3 k4 => ?_
  · have hj' : j + 1 < ops.size := by have := (List.getElem?_eq_some_iff.1 hj).1; omega
    obtain ⟨s', q1, q2⟩ := g2 (j + 1) _ (by rw [Array.getElem?_toList]; exact Array.getElem?_eq_getElem hj')
    simp only [ML.en, List.getElem?_cons_succ] at q1
    rw [hj] at q1
    cases q1
    exact ⟨_, by rw [Nat.add_comm 1 j]; exact Array.getElem?_eq_getElem hj', q2⟩
  · exact hQ a' w' ρ' k1 (k2.trans (put_defers _ _ _)) ((Post.bump hR _).trans k3) fun b hb he => k4 b (by simp only [Mem.next_bump]; omega) (.inl (by omega)) he

theorem CPost.inBlk {ρ : Rho} {m m' : Mem} {w w' : World} {lo i : Nat} {x e : Exit} {t' : List Value} {a' : Act} (h : CPost σ ρ m w lo x t' m' e a' w') :
    Exit.inBlock i (fun e a w1 => CPost σ ρ m w lo (blk i x) t' m' e a w1) e a' w' := by
  obtain ⟨rfl, h2, rest⟩ := h
  cases e with
  | exit j =>
    simp only [Exit.inBlock, blk]
    by_cases hj : j = i
    · simp only [hj, if_true]; exact ⟨rfl, rfl, rest⟩
    · simp only [hj, if_false]; exact ⟨rfl, rfl, rest⟩
  | _ => exact ⟨rfl, h2, rest⟩


theorem round_code {L : ML} {kb : Code} (hk : comp kb = some L.round) : ∃ n1 ops1 n2 ops2 kb2, kb = .seq (.region n1 ops1 false) (.seq (.cond (.tmp L.c) .skip (.exit L.bid)) (.block L.k (.seq (.region n2 ops2 false) kb2))) ∧
    stripAll ops1 ops1.toList = some L.nx ∧ stripAll ops2 ops2.toList = some L.en ∧ comp kb2 = some L.body := by
  obtain ⟨k1, k2, rfl, h1, h2⟩ := comp_seq hk
  obtain ⟨k3, k4, rfl, h3, h4⟩ := comp_seq h2
  obtain ⟨n1, ops1, rfl, s1⟩ := comp_reg h1
  obtain ⟨k5, k6, rfl, _, h5, h6⟩ := comp_cond h3
  obtain rfl := comp_skip h5
  obtain rfl := comp_exit h6
  obtain ⟨k7, rfl, h7⟩ := comp_block h4
  obtain ⟨k8, k9, rfl, h8, h9⟩ := comp_seq h7
  obtain ⟨n2, ops2, rfl, s2⟩ := comp_reg h8
  exact ⟨_, _, _, _, _, rfl, s1, s2, h9⟩

theorem getD_set2 {t : List Value} {i j k : Nat} {u v : Value} (h1 : k ≠ i) (h2 : k ≠ j) : ((t.set i u).set j v).getD k undef = t.getD k undef := by
  simp [List.getD_eq_getElem?_getD, Ne.symm h1, Ne.symm h2]
theorem Marks.iter {lo r : Nat} {w w1 : World} {ds : List Deferred} {m0 : Option Nat} {s c : Nat} {sn : Array Nat} {o : Obj} (h : Marks lo w ds) (hr : w.heap[r]? = some (.mapIter m0 s sn c)) (hw : w1 = w ∨ w1 = w.drew) : Marks lo (setBlock w1 r o) ds :=
  h.keep fun k hk => by
    have : k ≠ r := fun e => by rw [e, hr] at hk; cases hk
    rw [setBlock_other hw this]
    exact hk

theorem mrounds_ok {E : Env} {self : Self} (hE : E.P = P) (hS : SymOk σ E) (hs : SelfOk σ P self) {L : ML} {idR : Nat} {es : List (Value × Value)} {es' : Array MapEntry} {clock r mb lo n0 : Nat} {ρ0 : Rho} {m0 : Mem} {w0 : World} (hr0 : w0.heap.size ≤ r) (hn0 : n0 ≤ m0.next) (hsp : MapKept.Stamped es' clock) {kb : Code} (hk : comp kb = some L.round) {l : Option Nat} (hlen : es.length = es'.size) :
    ∀ (n : Nat) (left : List Nat) (t : List Value) (m : Mem) (ws : List MWay), mrounds E self L idR es n left t m = some ws → ∀ ρ w (a : Act) (seen : Array Nat), Post σ ρ0 m0 w0 ρ m w → Old n0 ρ0 ρ → LRel σ ρ t a.tmps.toList → Marks lo w a.defers → lo ≤ w.heap.size → RdRel ρ none l →
    ρ idR = some (r, 0, 0) → w.heap[r]? = some (.mapIter (some mb) clock seen clock) → w.heap[mb]? = some (.map es' clock) → Off ρ m r → Off ρ m mb →
    (∀ (i : Nat) (e : Value × Value), es[i]? = some e → ∃ e' : MapEntry, es'[i]? = some e' ∧ VRel σ ρ e.1 e'.key ∧ VRel σ ρ e.2 e'.val) →
    (∀ (i : Nat) (e' : MapEntry), es'[i]? = some e' → (i ∈ left ↔ seen.contains e'.born = false)) → (∀ i ∈ left, i < es'.size) → Code.roundsIn (Fr l) 0 P kb (WPostN σ n0 ρ0 m0 w0 lo ws) (n + 1) a w := by
  obtain ⟨hborn, hnd, hkeys⟩ := hsp
  obtain ⟨n1, ops1, n2, ops2, kb2, rfl, s1, s2, hk2⟩ := round_code hk
  have inj : ∀ (i j : Nat) (e1 e2 : MapEntry), es'[i]? = some e1 → es'[j]? = some e2 → e1.born = e2.born → i = j := by
    intro i j e1 e2 h1 h2 h3
    have a1 : (es'.toList.map (·.born))[i]? = some e1.born := by rw [List.getElem?_map, Array.getElem?_toList, h1]; rfl
    have a2 : (es'.toList.map (·.born))[j]? = some e1.born := by rw [List.getElem?_map, Array.getElem?_toList, h2, h3]; rfl
    have hi : i < (es'.toList.map (·.born)).length := (List.getElem?_eq_some_iff.1 a1).1
    exact (List.getElem?_inj hi hnd).1 (a1.trans a2.symm)
  -- behind the last entry
  have over : ∀ (n : Nat) (t : List Value) (m : Mem) ρ w (a : Act) (seen : Array Nat), iterAt idR (t.getD L.ti undef) = true → (L.ti ≠ L.tn ∧ L.ti ≠ L.c ∧ L.tn < t.length ∧ L.c < t.length) → Post σ ρ0 m0 w0 ρ m w → Old n0 ρ0 ρ → LRel σ ρ t a.tmps.toList → Marks lo w a.defers →
      ρ idR = some (r, 0, 0) → w.heap[r]? = some (.mapIter (some mb) clock seen clock) → w.heap[mb]? = some (.map es' clock) →
      (∀ (i : Nat) (e' : MapEntry), es'[i]? = some e' → (i ∈ [] ↔ seen.contains e'.born = false)) → Code.roundsIn (Fr l) 0 P (.seq (.region n1 ops1 false) (.seq (.cond (.tmp L.c) .skip (.exit L.bid)) (.block L.k (.seq (.region n2 ops2 false) kb2)))) (WPostN σ n0 ρ0 m0 w0 lo [(.exit L.bid, (t.set L.tn (.tuple #[.bool false])).set L.c (.bool false), m.bump 2)]) (n + 1) a w := by
    intro n t m ρ w a seen hit hc hP hO ht hm hid hir himb hleft
    obtain ⟨c1, c2, c3, c4⟩ := hc
    have htl : t.length = a.tmps.size := by simpa using ht.1
    have hti : a.eval (.tmp L.ti) = .pointer (some ⟨r, 0, none⟩) := by
      have h1 := ev_rel hP.rel ht (x := .tmp L.ti) rfl
      have h2 : ev (.tmp L.ti) t = ptr idR 0 := iterAt_eq hit
      rw [h2] at h1
      obtain ⟨b', off, sl, h3, h4⟩ := h1.ptr_inv
      rw [hid] at h3
      cases h3
      exact h4
    rw [roundsIn_succ]
    apply wpIn_seq
    have hrun : ∀ ty, (Instr.next (a.eval (.tmp L.ti)) false ty).run P w = .ok (.tuple #[.bool false]) w := fun ty => by
      rw [hti]
      rcases run_next_at w ty r mb clock clock seen es' clock hir himb hborn (Nat.le_refl _) with ⟨_, h⟩ | ⟨e, he, _⟩
      · exact h
      · obtain ⟨h1, h2⟩ := mem_left he
        obtain ⟨i, hi⟩ := List.getElem?_of_mem h1
        rw [Array.getElem?_toList] at hi
        exact absurd ((hleft i e hi).2 h2) (by simp)
    refine next_reg s1 (htl ▸ c3) (b := false) (xs := []) hrun ?_
    have ht2 : LRel σ ρ ((t.set L.tn (.tuple #[.bool false])).set L.c (.bool false)) ((a.put (some L.tn) (.tuple #[.bool false])).put (some L.c) (.bool false)).tmps.toList :=
      putT_rel (a := a.put (some L.tn) (.tuple #[.bool false])) (putT_rel ht (LRel.tuple (LRel.cons (.bool _) (LRel.nil ρ))) (some L.tn)) (.bool _) (some L.c)
    show Code.wpIn _ _ _ _ _ _ _
    apply wpIn_seq
    have hc : ((a.put (some L.tn) (.tuple #[.bool false])).put (some L.c) (.bool false)).eval (.tmp L.c) = .bool false := by
      have h1 := ev_rel hP.rel ht2 (x := .tmp L.c) rfl
      have h2 : ev (.tmp L.c) ((t.set L.tn (.tuple #[.bool false])).set L.c (.bool false)) = .bool false := by
        simp [ev, List.getD_eq_getElem?_getD, c4]
      rw [h2] at h1
      exact h1.bool_inv
    refine wpIn_cond_false hc (wpIn_exit ?_)
    exact ⟨_, List.mem_cons_self, rfl, rfl, ρ, ht2, hm, hP.trans (Post.bump hP.rel 2), hO⟩
  intro n
  induction n with
  | zero =>
    intro left t m ws h ρ w a seen hP hO ht hm hlo hrd hid hir himb hor hom hes hleft hin
    unfold mrounds at h
    split at h
    · rename_i hc
      simp only [Bool.and_eq_true, decide_eq_true_eq] at hc
      cases left with
      | cons i left => cases h
      | nil => cases h; exact over 0 t m ρ w a seen hc.1 hc.2 hP hO ht hm hid hir himb hleft
    · cases h
  | succ n ih =>
    intro left t m ws h ρ w a seen hP hO ht hm hlo hrd hid hir himb hor hom hes hleft hin
    unfold mrounds at h
    split at h
    · rename_i hc
      simp only [Bool.and_eq_true, decide_eq_true_eq] at hc
      cases left with
      | nil => cases h; exact over (n + 1) t m ρ w a seen hc.1 hc.2 hP hO ht hm hid hir himb hleft
      | cons i0 left0 =>
        simp only at h
        generalize hL : i0 :: left0 = left at h hleft hin
        obtain ⟨hit, c1, c2, c3, c4⟩ := hc
        have htl : t.length = a.tmps.size := by simpa using ht.1
        have hti : a.eval (.tmp L.ti) = .pointer (some ⟨r, 0, none⟩) := by
          have h1 := ev_rel hP.rel ht (x := .tmp L.ti) rfl
          have h2 : ev (.tmp L.ti) t = ptr idR 0 := iterAt_eq hit
          rw [h2] at h1
          obtain ⟨b', off, sl, h3, h4⟩ := h1.ptr_inv
          rw [hid] at h3
          cases h3
          exact h4
        rw [roundsIn_succ]
        apply wpIn_seq
        rcases run_next_at (P := P) w 0 r mb clock clock seen es' clock hir himb hborn (Nat.le_refl _) with ⟨hz, _⟩ | ⟨e, he, w1, hw1, hnext⟩
        · have h1 : i0 ∈ left := hL ▸ List.mem_cons_self
          have h2 := hin i0 h1
          have h3 := (hleft i0 _ (Array.getElem?_eq_getElem h2)).1 h1
          have h4 := all_seen es' seen hz es'[i0] (Array.getElem_mem_toList h2)
          rw [h3] at h4
          cases h4
        obtain ⟨hmem, hns⟩ := mem_left he
        obtain ⟨i, hi⟩ := List.getElem?_of_mem hmem
        rw [Array.getElem?_toList] at hi
        have hil : i ∈ left := (hleft i e hi).2 hns
        have hilt : i < es.length := by rw [hlen]; exact (Array.getElem?_eq_some_iff.1 hi).1
        obtain ⟨x, hx, hsub⟩ := allW_mem h i hil
        rw [List.getElem?_eq_getElem hilt] at hx
        simp only at hx
        obtain ⟨e2, g1, g2, g3⟩ := hes i _ (List.getElem?_eq_getElem hilt)
        rw [hi] at g1
        cases g1
        generalize hee : es[i] = ee at hx g2 g3
        generalize hmr : mround E self L ee t m = mr at hx
        cases mr with
        | none => cases hx
        | some q =>
          obtain ⟨x1, t3, m3⟩ := q
          simp only at hx
          unfold mround at hmr
          split at hmr
          · rename_i t2 m2 hseq
            split at hmr
            · rename_i x0 t3' m3' hbody
              simp only [Option.some.injEq, Prod.mk.injEq] at hmr
              obtain ⟨rfl, rfl, rfl⟩ := hmr
              -- the world behind the step
              obtain ⟨w2, hw2⟩ : ∃ w2, w2 = setBlock w1 r (.mapIter (some mb) clock (seen.push e.born) clock) := ⟨_, rfl⟩
              have hr2 : w2.heap[r]? = some (.mapIter (some mb) clock (seen.push e.born) clock) := hw2 ▸ setBlock_same hw1 hir
              have hmr' : mb ≠ r := fun e => by rw [e, hir] at himb; cases himb
              have hb2 : w2.heap[mb]? = some (.map es' clock) := by rw [hw2, setBlock_other hw1 hmr']; exact himb
              have hP2 : Post σ ρ0 m0 w0 ρ m w2 := hw2 ▸ hP.iter hr0 hor hw1 _
              have hP3 : Post σ ρ0 m0 w0 ρ (m.bump 2) w2 := hP2.trans (Post.bump hP2.rel 2)
              have hm2 : Marks lo w2 a.defers := hw2 ▸ hm.iter hir hw1
              have hs2 : w2.heap.size = w.heap.size := by
                have : w1.heap = w.heap := by rcases hw1 with rfl | rfl <;> rfl
                rw [hw2]; simp [setBlock, this]
              refine next_reg s1 (htl ▸ c3) (b := true) (xs := [e.key, e.val]) (w1 := w2) (fun ty => by rw [hti, hw2]; exact hnext) ?_
              have ht2 : LRel σ ρ ((t.set L.tn (.tuple #[.bool true, ee.1, ee.2])).set L.c (.bool true)) ((a.put (some L.tn) (.tuple #[.bool true, e.key, e.val])).put (some L.c) (.bool true)).tmps.toList :=
                putT_rel (a := a.put (some L.tn) (.tuple #[.bool true, e.key, e.val])) (putT_rel ht (LRel.tuple (LRel.cons (.bool _) (LRel.cons g2 (LRel.cons g3 (LRel.nil ρ))))) (some L.tn)) (.bool _) (some L.c)
              obtain ⟨a2, ha2⟩ : ∃ a2, a2 = (a.put (some L.tn) (.tuple #[.bool true, e.key, e.val])).put (some L.c) (.bool true) := ⟨_, rfl⟩
              have hd2 : a2.defers = a.defers := by rw [ha2]; rfl
              show Code.wpIn _ _ _ _ _ ((a.put (some L.tn) (.tuple #[.bool true, e.key, e.val])).put (some L.c) (.bool true)) _
              rw [← ha2] at ht2 ⊢
              apply wpIn_seq
              have hc : a2.eval (.tmp L.c) = .bool true := by
                have h1 := ev_rel hP.rel ht2 (x := .tmp L.c) rfl
                have h2 : ev (.tmp L.c) ((t.set L.tn (.tuple #[.bool true, ee.1, ee.2])).set L.c (.bool true)) = .bool true := by
                  simp [ev, List.getD_eq_getElem?_getD, c4]
                rw [h2] at h1
                exact h1.bool_inv
              have hti2 : a2.eval (.tmp L.ti) = .pointer (some ⟨r, 0, none⟩) := by
                have h1 := ev_rel hP.rel ht2 (x := .tmp L.ti) rfl
                have h2 : ev (.tmp L.ti) ((t.set L.tn (.tuple #[.bool true, ee.1, ee.2])).set L.c (.bool true)) = ptr idR 0 := (getD_set2 c1 c2).trans (iterAt_eq hit)
                rw [h2] at h1
                obtain ⟨b', off, sl, h3, h4⟩ := h1.ptr_inv
                rw [hid] at h3
                cases h3
                exact h4
              refine wpIn_cond_true hc (wpIn_skip ?_)
              show Code.wpIn _ _ _ _ _ _ _
              have hbm : (m.bump 2).bump (L.er.length + 1) = m.bump (L.er.length + 3) := by
                cases m; simp only [Mem.bump, Mem.mk.injEq, and_true]; omega
              refine wpIn_mono (Q := fun e a w' => CPost σ ρ (m.bump 2) w2 lo (blk L.k x0) t3' m3' e a w') (wpIn_block (wpIn_seq ?_)) ?_
              · refine entry_reg hE hS hs s2 (e := ee) (m := m.bump 2) (m' := m2) (t' := t2) hP3.rel ht2 (by rw [hti2]; exact run_entry_at w2 r mb clock seen es' clock e hr2 hb2 hmem hnd) g2 g3 (by rw [hbm]; exact hseq) fun a3 w3 ρ3 k1 k2 k3 k4 => ?_
                show Code.wpIn _ _ _ _ _ _ _
                have k2' : a3.defers = a.defers := k2.trans hd2
                refine wpIn_mono (hs.code _ _ _ _ _ _ _ hbody kb2 ρ3 w3 a3 l lo hk2 k3.rel k1 (k2' ▸ hm2.post hP3.rel k3) (by have := k3.size; omega) (hrd.mono k3.ext)) fun e a w hc => ?_
                exact (hc.trans k3 k4).inBlk
              · intro e4 a4 w4 hc4
                obtain ⟨rfl, ox, ρ4, j1, j2, j3, j4⟩ := hc4
                have hP4 := hP3.trans j3
                have hO4 : Old n0 ρ0 ρ4 := hO.trans j4 (Nat.le_trans hn0 hP3.next)
                have rl : r < w2.heap.size := (Array.getElem?_eq_some_iff.1 hr2).1
                have ml : mb < w2.heap.size := (Array.getElem?_eq_some_iff.1 hb2).1
                have hor2 : Off ρ (m.bump 2) r := hor
                have hom2 : Off ρ (m.bump 2) mb := hom
                generalize hxx : blk L.k x0 = xx at hx ox
                cases xx with
                | normal =>
                  simp only at hx
                  refine roundsIn_mono ?_ _ (ih _ _ _ _ hx ρ4 w4 a4 (seen.push e.born) hP4 hO4 j1 j2 (by have := j3.size; omega) (hrd.mono j3.ext) (j3.ext _ _ hid) ((hor2.still rl j3).trans hr2) ((hom2.still ml j3).trans hb2) (hor2.post rl j3) (hom2.post ml j3) (fun i e hi => ?_) (fun j e2 hj => ?_) (fun j hj => ?_))
                  · rintro e a w ⟨q, hq, hc⟩
                    exact ⟨q, hsub q hq, hc⟩
                  · obtain ⟨e', q1, q2, q3⟩ := hes i e hi
                    exact ⟨e', q1, q2.mono j3.ext, q3.mono j3.ext⟩
                  · rw [List.mem_filter, hleft j e2 hj]
                    by_cases hji : j = i
                    · subst hji
                      rw [hi] at hj
                      cases hj
                      simp
                    · have hne : e2.born ≠ e.born := fun hb => hji (inj j i e2 e hj hi hb)
                      simp [hji, hne]
                  · exact hin j (List.mem_filter.1 hj).1
                | _ =>
                  simp only [Option.some.injEq] at hx
                  subst hx
                  exact ⟨_, hsub _ List.mem_cons_self, rfl, ox, ρ4, j1, j2, hP4, hO4⟩
            · cases hmr
          · cases hmr
    · cases h

/-- A region's first part, in its written order. -/
theorem seq_ok2 {E : Env} {self : Self} (hE : E.P = P) (hS : SymOk σ E) (hs : SelfOk σ P self) {ops : Array Oper} {l : Option Nat} {Q : Exit → Act → World → Prop} {rest : List Nat} : ∀ (sl : List SOp) (i id : Nat),
    (∀ j s, sl[j]? = some s → ∃ o', ops[i + j]? = some o' ∧ Strip ops o' s) → ∀ {ρ : Rho} {m m' : Mem} {w : World} {a : Act} {t t' : List Value},
    Rel σ ρ m w → LRel σ ρ t a.tmps.toList → (∀ b, id ≤ b → b < id + sl.length → ρ b = none) → id + sl.length ≤ m.next → seqOps E self id sl t m = some (t', m') →
    (∀ a' w' ρ', LRel σ ρ' t' a'.tmps.toList → a'.defers = a.defers → Post σ ρ m w ρ' m' w' → (∀ b, b < m.next → (b < id ∨ id + sl.length ≤ b) → ρ b = none → ρ' b = none) → wpOpsIn (Fr l) 0 P ops Q rest a' w') →
    wpOpsIn (Fr l) 0 P ops Q (List.range' i sl.length ++ rest) a w
  | [], i, id, hops, ρ, m, m', w, a, t, t', hR, ht, hfree, hnext, h, hQ => by
    simp only [seqOps, Option.some.injEq, Prod.mk.injEq] at h
    obtain ⟨rfl, rfl⟩ := h
    exact hQ a w ρ ht rfl (Post.refl hR) fun _ _ _ e => e
  | s :: sl, i, id, hops, ρ, m, m', w, a, t, t', hR, ht, hfree, hnext, h, hQ => by
    simp only [List.length_cons] at hnext hfree hQ
    obtain ⟨o', ho, hst⟩ := hops 0 s rfl
    simp only [Nat.add_zero] at ho
    have hops' : ∀ j s', sl[j]? = some s' → ∃ o', ops[i + 1 + j]? = some o' ∧ Strip ops o' s' := fun j s' hj => by
      have := hops (j + 1) s' (by simpa using hj)
      rwa [show i + 1 + j = i + (j + 1) from by omega]
    simp only [seqOps] at h
    simp only [List.length_cons, List.range'_succ, List.cons_append]
    simp only [wpOpsIn, ho]
    unfold stepOp at h
    by_cases hgk : gOk s.guard t = false
    · simp only [hgk, if_true] at h
      cases h
    rw [if_neg hgk] at h
    rw [wanted_rel ht hst (by simpa using hgk)]
    by_cases hw : wanted s.guard t = true
    · simp only [hw, if_true] at h ⊢
      split at h
      · rename_i t1 m1 h1
        split at h1
        · rename_i v1 m2 h2
          simp only [Option.some.injEq, Prod.mk.injEq] at h1
          obtain ⟨rfl, rfl⟩ := h1
          refine op_ok hE hS hs hst hR ht (hfree id (Nat.le_refl _) (by omega)) (by omega) h2 fun v' w' ρ' g1 g2 g3 => ?_
          have hnn := g2.next
          refine seq_ok2 hE hS hs sl (i + 1) (id + 1) hops' g2.rel (hst.dst ▸ putT_rel (ht.mono g2.ext) g1 o'.dst) (fun b h3 h4 => g3 b (by omega) (by omega) (hfree b (by omega) (by omega))) (by omega) h
            fun a' w'' ρ'' k1 k2 k3 k4 => ?_
          refine hQ a' w'' ρ'' k1 (k2.trans (put_defers _ _ _)) (g2.trans k3) fun b h3 h4 h5 => ?_
          exact k4 b (by omega) (by omega) (g3 b h3 (by omega) h5)
        · cases h1
      · cases h
    · have hw' : wanted s.guard t = false := by simpa using hw
      simp only [hw', if_false, Bool.false_eq_true] at h ⊢
      refine ⟨fun _ _ => trivial, ?_⟩
      refine seq_ok2 hE hS hs sl (i + 1) (id + 1) hops' hR (hst.dst ▸ putT_rel ht (VRel.undef ρ) o'.dst) (fun b h3 h4 => hfree b (by omega) (by omega)) (by omega) h
            fun a' w'' ρ'' k1 k2 k3 k4 => ?_
      exact hQ a' w'' ρ'' k1 (k2.trans (put_defers _ _ _)) k3 fun b h3 h4 h5 => k4 b h3 (by omega) h5

/-- A number for a block of the model's that no abstract one stands for. -/
theorem Post.ghost {ρ : Rho} {m : Mem} {w : World} (hR : Rel σ ρ m w) {id : Nat} (hid : ρ id = none) (hlt : id < m.next) (hg : m.get id = none) (co : Obj) : Post σ ρ m w (upd ρ id (w.heap.size, 0, 0)) m (w.alloc co) := by
  have he := upd_ext hid (w.heap.size, 0, 0)
  have hold : ∀ k, k < w.heap.size → (w.alloc co).heap[k]? = w.heap[k]? := fun k hk => by
    show (w.heap.push co)[k]? = _
    rw [Array.getElem?_push, if_neg (by omega)]
  have ne : ∀ {b o}, m.get b = some o → b ≠ id := fun {b o} h e => by rw [e, hg] at h; cases h
  have up : ∀ {b x}, b ≠ id → upd ρ id (w.heap.size, 0, 0) b = some x → ρ b = some x := fun {b x} h e => by simpa [upd, h] using e
  refine ⟨⟨fun b hb => ?_, fun g hg' => he _ _ (hR.glob g hg'), fun b o x hb hx => ?_, fun b1 b2 o1 o2 x1 x2 hne h1 h2 g1 g2 hw => hR.inj b1 b2 o1 o2 x1 x2 hne h1 h2 (up (ne h1) g1) (up (ne h2) g2) hw, hR.fresh⟩, he, Nat.le_refl _, by simp, rfl, rfl, rfl, fun k hk _ => hold k hk, fun b o x hb hx _ => ⟨b, o, x, hb, up (ne hb) hx, rfl, fun h => h⟩⟩
  · have : b ≠ id := by omega
    simp only [upd, this, if_false]
    exact hR.dom b hb
  · have := hR.obj b o x hb (up (ne hb) hx)
    exact this.keep he (hold _ this.lt)

/-- A map that was out of sight is put back. -/
theorem Post.back {ρ ρ' : Rho} {m m' : Mem} {w w' : World} {b k : Nat} {es : List (Value × Value)} {x : Nat × Nat × Nat} (hR : Rel σ ρ m w) (hb : m.get b = some (.map es true)) (hx : ρ b = some x) (h : Post σ ρ ((m.kill b).kill k) w ρ' m' w') : Post σ ρ m w ρ' (m'.put b (.map es true)) w' := by
  have sub : ∀ {c o}, ((m.kill b).kill k).get c = some o → m.get c = some o ∧ c ≠ b := fun {c o} hc => by
    rw [Mem.get_kill] at hc
    split at hc
    · cases hc
    · rw [Mem.get_kill] at hc
      split at hc
      · cases hc
      · rename_i h2; exact ⟨hc, h2⟩
  have off : Off ρ ((m.kill b).kill k) x.1 := fun c o y hc hy e => by
    obtain ⟨h1, h2⟩ := sub hc
    exact hR.inj b c _ _ x y (Ne.symm h2) hb h1 hx hy rfl e.symm
  have hlt := (hR.obj b _ x hb hx).lt
  have off' := off.post hlt h
  have hx' := h.ext _ _ hx
  have hbn : b < m.next := Nat.lt_of_not_le fun hn => by rw [hR.fresh b hn] at hb; cases hb
  have hbn' : b < m'.next := Nat.lt_of_lt_of_le hbn h.next
  refine ⟨⟨fun c hc => h.rel.dom c hc, h.rel.glob, fun c o y hc hy => ?_, fun b1 b2 o1 o2 x1 x2 hne h1 h2 g1 g2 hw => ?_, fun c hc => ?_⟩, h.ext, h.next, h.size, h.os, h.tape, h.output, fun j hj hf => ?_, fun c o y hc hy hl => ?_⟩
  · rw [Mem.get_put] at hc
    split at hc
    · rename_i e
      subst e
      cases hc
      rw [hx'] at hy
      cases hy
      exact (hR.obj c _ x hb hx).keep h.ext (off.still hlt h)
    · exact h.rel.obj c o y hc hy
  · rw [Mem.get_put] at h1 h2
    split at h1
    · rename_i e1
      subst e1
      rw [if_neg (Ne.symm hne)] at h2
      rw [hx'] at g1
      cases g1
      exact fun e => off' b2 o2 x2 h2 g2 e.symm
    · split at h2
      · rename_i e2
        subst e2
        rw [hx'] at g2
        cases g2
        exact off' b1 o1 x1 h1 g1
      · exact h.rel.inj b1 b2 o1 o2 x1 x2 hne h1 h2 g1 g2 hw
  · have hc' : m'.next ≤ c := hc
    rw [Mem.get_put, if_neg (by omega)]
    exact h.rel.fresh c hc'
  · exact h.frame j hj fun c o y hc hw hy => hf c o y (sub hc).1 hw hy
  · rw [Mem.get_put] at hc
    split at hc
    · rename_i e
      subst e
      cases hc
      rw [hx'] at hy
      cases hy
      exact ⟨c, _, x, hb, hx, rfl, fun _ => rfl⟩
    · obtain ⟨c0, o0, x0, i1, i2, i3, i4⟩ := h.img c o y hc hy hl
      exact ⟨c0, o0, x0, (sub i1).1, i2, i3, i4⟩

theorem mloop_ok {E : Env} {self : Self} (hE : E.P = P) (hS : SymOk σ E) (hs : SelfOk σ P self) {L : ML} {t : List Value} {m : Mem} {ws : List MWay} (h : mloop E self L t m = some ws) : CodeOkL σ P L.code t m ws := by
  intro k ρ w a l lo hk hR ht hm hlo hrd
  obtain ⟨ka, kb, rfl, hka, hkb⟩ := comp_seq hk
  obtain ⟨n0, ops, rfl, hst⟩ := comp_reg hka
  obtain ⟨kc, rfl, hkc⟩ := comp_block hkb
  obtain ⟨kd, rfl, hkd⟩ := comp_loop hkc
  unfold mloop at h
  split at h
  · rename_i t1 m1 hseq
    split at h
    · rename_i b _ _ hev hund
      split at h
      · rename_i es hb
        split at h
        · rename_i ws0 hmr
          cases h
          apply wpIn_seq
          apply wpIn_region
          obtain ⟨g1, g2⟩ := stripAll_at hst
          have hsz : ops.size = L.pre.length + 1 := by simpa using g1.symm
          have hat : ∀ j s, (L.pre ++ [L.rng])[j]? = some s → ∃ o', ops[0 + j]? = some o' ∧ Strip ops o' s := fun j s hj => by
            have hj' : j < ops.toList.length := by have := (List.getElem?_eq_some_iff.1 hj).1; omega
            obtain ⟨s', k1, k2⟩ := g2 j _ (List.getElem?_eq_getElem hj')
            rw [hj] at k1
            cases k1
            exact ⟨_, by rw [Nat.zero_add, ← Array.getElem?_toList]; exact List.getElem?_eq_getElem hj', k2⟩
          rw [hsz, List.range_eq_range', ← List.range'_append_1]
          refine seq_ok2 hE hS hs L.pre 0 m.next (fun j s hj => hat j s (by rw [List.getElem?_append_left (List.getElem?_eq_some_iff.1 hj).1]; exact hj)) (hR.bump (L.pre.length + 1)) ht (fun c hc _ => hR.dom c hc) (by simp only [Mem.next_bump]; omega) hseq fun a1 w1 ρ1 q1 q2 q3 q4 => ?_
          obtain ⟨oR, hoR, pR⟩ := hat L.pre.length L.rng (by simp)
          rw [Nat.zero_add] at hoR
          have wR : ∀ y, Region.wanted oR y = true := fun y => by rcases pR.guard with ⟨q, _⟩ | ⟨j, b, t, _, q, _⟩ <;> simp_all [Region.wanted, ML.rng]
          have uR : oR.op = .range L.ty L.x := pR.op
          have dR : oR.dst = some L.ti := pR.dst
          simp only [Nat.zero_add, List.range'_one, wpOpsIn, hoR, wR, if_true]
          refine ⟨fun _ _ => trivial, ?_⟩
          rw [cls_gives_sem (by rw [uR]; intro c hc; cases hc)]
          have hx : VRel σ ρ1 (ev L.x t1) (a1.eval L.x) := ev_rel q3.rel q1 (pR.plain L.x (by simp [ML.rng, Op.operands]))
          rw [hev] at hx
          generalize hax : a1.eval L.x = ax at hx
          cases hx with
          | map hρb =>
            rename_i mb off sl
            obtain ⟨es', clock, o1, o2, o3, o4⟩ := q3.rel.obj b _ _ hb hρb
            have r1 : (execOp a1.eval oR).run P w1 = .ok (.value (.pointer (some ⟨w1.heap.size, 0, none⟩))) (w1.alloc (.mapIter (some mb) clock #[] clock)) := by
              have hget : (getObj mb).run P w1 = .ok (.map es' clock) w1 := by simp [getObj, Sem.run, o1]
              simp [execOp, uR, hax, Instr.range, und_run (hE ▸ hund), hget]
            rw [r1]
            show Code.wpIn _ _ _ _ _ _ _
            rw [dR]
            apply wpIn_block
            apply wpIn_loop_rounds (es.length + 1)
            have hR1 := q3.rel
            have hkk := (hR1.kill b).kill (m.next + L.pre.length)
            have hid : ρ1 (m.next + L.pre.length) = none := q4 _ (by simp only [Mem.next_bump]; omega) (.inr (by omega)) (hR.dom _ (by omega))
            have hnx := q3.next
            simp only [Mem.next_bump] at hnx
            have hg := Post.ghost hkk hid (by simp only [Mem.next_kill]; omega) (by rw [Mem.get_kill, if_pos rfl]) (.mapIter (some mb) clock #[] clock)
            have hnew : (w1.alloc (.mapIter (some mb) clock #[] clock)).heap[w1.heap.size]? = some (.mapIter (some mb) clock #[] clock) := World.alloc_heap_new _ _
            have hlt : mb < w1.heap.size := (Array.getElem?_eq_some_iff.1 o1).1
            have hmb : (w1.alloc (.mapIter (some mb) clock #[] clock)).heap[mb]? = some (.map es' clock) := by
              show (w1.heap.push _)[mb]? = _
              rw [Array.getElem?_push, if_neg (by omega)]
              exact o1
            have sub : ∀ {c o}, ((m1.kill b).kill (m.next + L.pre.length)).get c = some o → m1.get c = some o ∧ c ≠ b := fun {c o} hc => by
              rw [Mem.get_kill] at hc
              split at hc
              · cases hc
              · rw [Mem.get_kill] at hc
                split at hc
                · cases hc
                · rename_i h2; exact ⟨hc, h2⟩
            have offb : Off ρ1 ((m1.kill b).kill (m.next + L.pre.length)) mb := fun c o y hc hy e => by
              obtain ⟨h1, h2⟩ := sub hc
              exact hR1.inj b c _ _ _ y (Ne.symm h2) hb h1 hρb hy rfl e.symm
            have offr : Off (upd ρ1 (m.next + L.pre.length) (w1.heap.size, 0, 0)) ((m1.kill b).kill (m.next + L.pre.length)) w1.heap.size := fun c o y hc hy e => by
              have hcid : c ≠ m.next + L.pre.length := fun e => by rw [e, Mem.get_kill, if_pos rfl] at hc; cases hc
              have hy' : ρ1 c = some y := by simpa [upd, hcid] using hy
              have := (hR1.obj c o y (sub hc).1 hy').lt
              omega
            have hord : Old m.next ρ ρ1 := fun c hc he => q4 c (by simp only [Mem.next_bump]; omega) (.inl hc) he
            have hm1 : Marks lo w1 a1.defers := q2 ▸ hm.post hR ((Post.bump hR _).trans q3)
            refine roundsIn_mono ?_ _ (mrounds_ok hE hS hs (n0 := m.next) (Nat.le_refl _) (by simp only [Mem.next_kill]; omega) o2 hkd (l := l) (lo := lo) o3 es.length (List.range es.length) _ _ ws0 hmr _ _ (a1.put (some L.ti) (.pointer (some ⟨w1.heap.size, 0, none⟩))) #[] hg (fun c hc he => ?_) (putT_rel (q1.mono hg.ext) (.ptr (o := 0) (upd_same _ _ _)) (some L.ti)) (hm1.post hkk hg) ?_ (hrd.mono (q3.ext.trans hg.ext)) (upd_same _ _ _) hnew hmb offr (offb.post hlt hg) (fun i e hi => ?_) (fun i e' hi => ?_) (fun i hi => ?_))
            · rintro e a4 w4 ⟨q, hq, hc⟩
              refine (show Exit.inBlock L.bid _ e a4 w4 from ?_)
              obtain ⟨c1, c2, ρ4, c3, c4, c5, c6⟩ := hc
              have hp : Post σ ρ m w ρ4 (q.2.2.put b (.map es true)) w4 := ((Post.bump hR _).trans q3).trans (Post.back hR1 hb hρb c5)
              have hol : Old m.next ρ ρ4 := hord.trans c6 (Nat.le_refl _)
              have hcp : CPost σ ρ m w lo q.1 q.2.1 (q.2.2.put b (.map es true)) e a4 w4 := ⟨c1, c2, ρ4, c3, c4, hp, hol⟩
              have hbk := hcp.inBlk (i := L.bid)
              have hmem : ((blk L.bid q.1, q.2.1, q.2.2.put b (.map es true)) : MWay) ∈ ws0.map fun q => (blk L.bid q.1, q.2.1, q.2.2.put b (.map es true)) := List.mem_map_of_mem hq
              cases e with
              | exit j =>
                simp only [Exit.inBlock] at hbk ⊢
                split <;> rename_i hj
                · rw [if_pos hj] at hbk; exact ⟨_, hmem, hbk⟩
                · rw [if_neg hj] at hbk; exact ⟨_, hmem, hbk⟩
              | _ => exact ⟨_, hmem, hbk⟩
            · have hcid : c ≠ m.next + L.pre.length := by omega
              simpa [upd, hcid] using he
            · have := q3.size; simp; omega
            · obtain ⟨e', h1, h2, h3⟩ := o4 i e hi
              exact ⟨e', h1, h2.mono hg.ext, h3.mono hg.ext⟩
            · have : i < es'.size := (Array.getElem?_eq_some_iff.1 hi).1
              simp [o3]; omega
            · rw [← o3]; exact List.mem_range.1 hi
        · cases h
      · cases h
    · cases h
  · cases h

theorem mcode_ok {E : Env} {self : Self} (hE : E.P = P) (hS : SymOk σ E) (hs : SelfOk σ P self) : ∀ (c : SCode) (t : List Value) (m : Mem) (ws : List MWay), mcode E self c t m = some ws → CodeOkL σ P c t m ws := by
  have leaf : ∀ (c : SCode) (t : List Value) (m : Mem) (ws : List MWay), (match self (.code none c t) m with
      | some (.exit x t', m') => some [(x, t', m')]
      | _ => none) = some ws → CodeOkL σ P c t m ws := by
    intro c t m ws h k ρ w a l lo h1 h2 h3 h4 h5 h6
    split at h
    · rename_i x t' m' hb
      cases h
      exact wpIn_mono (hs.code _ _ _ _ _ _ _ hb k ρ w a l lo h1 h2 h3 h4 h5 h6) fun e a w hc => ⟨_, List.mem_cons_self, hc⟩
    · cases h
  intro c
  induction c with
  | seq c1 c2 ih1 ih2 =>
    intro t m ws h
    simp only [mcode] at h
    split at h
    · rename_i L hL
      rw [mlOf_ok hL]
      exact mloop_ok hE hS hs h
    · split at h
      · rename_i ws1 hw1
        intro k ρ w a l lo h1 h2 h3 h4 h5 h6
        obtain ⟨k1, k2, rfl, hk1, hk2⟩ := comp_seq h1
        apply wpIn_seq
        refine wpIn_mono (ih1 t m ws1 hw1 k1 ρ w a l lo hk1 h2 h3 h4 h5 h6) ?_
        rintro e a1 w1 ⟨⟨x, t1, m1⟩, hq, he, ox, ρ1, g1, g2, g3, g4⟩
        simp only at he
        subst he
        obtain ⟨ws2, hf, hsub⟩ := allW_mem h _ hq
        cases e with
        | normal =>
          simp only at hf
          refine wpIn_mono (ih2 t1 m1 ws2 hf k2 ρ1 w1 a1 l lo hk2 g3.rel g1 g2 (Nat.le_trans h5 g3.size) (h6.mono g3.ext)) ?_
          rintro e a w ⟨q, hq2, hc⟩
          exact ⟨q, hsub q hq2, hc.trans g3 g4⟩
        | _ =>
          simp only [Option.some.injEq] at hf
          subst hf
          exact ⟨_, hsub _ List.mem_cons_self, rfl, ox, ρ1, g1, g2, g3, g4⟩
      · cases h
  | _ => intro t m ws h; exact leaf _ t m ws (by simpa only [mcode] using h)

/-! ### a call -/
def mret (P : Program) (rs : List ResultVar) (q : MWay) : Option (Value × Mem) := match q.1 with
  | .normal | .ret => match resA P q.2.1 q.2.2 rs with
    | some vs => some (oneOr vs, q.2.2)
    | none => none
  | _ => none
/-- What all ways leave. -/
def joinT (e : Entry) : Tr AObj := putL .leaf ((e.outs.filterMap fun q => q.2.map fun o => (q.1, o)) ++ e.need.filter fun q => !hasK e.outs q.1)
/-- Each way to the end comes to what the entry says. -/
def endB (P : Program) (rs : List ResultVar) (e : Entry) (q : MWay) : Bool := match mret P rs q with
  | some (v, ⟨nx, t⟩) => vQ v e.v && (Nat.ble nx e.next' && (subO t e.outs && keptL e.outs t e.need))
  | none => false
/-- The fast form as a self: for the calls, and the code between loops over maps. -/
def fastS (E : Env) (n : Nat) : Self := fun tk m => match tk with
  | .call f args => match runF E n (.call f args) m with
    | some (.val v, m') => some (.val v, m')
    | _ => none
  | .round l args => match runF E n (.round l args) m with
    | some (.val v, m') => some (.val v, m')
    | _ => none
  | .code rd c l => match runF E n (.code rd c (T.ofArgs 0 l)) m with
    | some (.exit x t, m') => some (.exit x t.toList, m')
    | _ => none
theorem fastS_ok {E : Env} (h : Sure σ E) (n : Nat) : SelfOk σ E.P (fastS E n) := by
  have hr := run_ok h n
  refine ⟨fun f args m v m' hh => ?_, fun l args m v m' hh => ?_, fun rd c t m x t' m' hh => ?_⟩
  · unfold fastS at hh
    simp only at hh
    split at hh
    · rename_i u w e
      cases hh
      exact hr.call _ _ _ _ _ ((runF_sim E n).call e)
    · cases hh
  · unfold fastS at hh
    simp only at hh
    split at hh
    · rename_i u w e
      cases hh
      exact hr.round _ _ _ _ _ ((runF_sim E n).round e)
    · cases hh
  · unfold fastS at hh
    simp only at hh
    split at hh
    · rename_i y u w e
      cases hh
      have ht : TL (T.ofArgs 0 t) t := by simpa using ofArgs_list 0 t
      obtain ⟨l', g1, g2⟩ := (runF_sim E n).code ht e
      rw [g1.toList]
      exact hr.code _ _ _ _ _ _ _ g2
    · cases hh
def partM (E : Env) (n : Nat) (f : FuncId) (e : Entry) : Bool := match fnOf E.P f with
  | some s => match mcode E (fastS E n) s.body (e.args ++ List.replicate (s.ntmps - e.args.length) undef) e.mem with
    | some ws => ws.all (endB E.P s.results e) && (Nat.ble e.next e.next' && (okOuts e e.outs && (subO (joinT e) e.outs && keptL e.outs (joinT e) e.need)))
    | none => false
  | none => false

theorem Post.part {ρ ρ' : Rho} {m m1 m' : Mem} {w w' : World} (h : Post σ ρ m w ρ' m1 w') (hn : m1.next ≤ m'.next) (hs : ∀ b o, m'.get b = some o → m1.get b = some o) : Post σ ρ m w ρ' m' w' :=
  ⟨⟨fun b hb => h.rel.dom b (Nat.le_trans hn hb), h.rel.glob, fun b o x hb hx => h.rel.obj b o x (hs b o hb) hx, fun b1 b2 o1 o2 x1 x2 hne h1 h2 => h.rel.inj b1 b2 o1 o2 x1 x2 hne (hs _ _ h1) (hs _ _ h2), fun b hb => by
    cases hg : m'.get b with
    | none => rfl
    | some o => have h1 := hs b o hg; rw [h.rel.fresh b (Nat.le_trans hn hb)] at h1; cases h1⟩, h.ext, Nat.le_trans h.next hn, h.size, h.os, h.tape, h.output, h.frame, fun b o x hb hx hl => h.img b o x (hs b o hb) hx hl⟩

theorem leaves_ok2 {R : Ending → World → Prop} {ρ ρ' : Rho} {m m' : Mem} {w : World} {fn : Func} {tmps : Array Value} {t vs : List Value} (ht : LRel σ ρ' t tmps.toList) (hold : Old m.next ρ ρ') (h : resA P t m' fn.results.toList = some vs) (hR : ∀ e w', Ret σ ρ m w (oneOr vs) m' e w' → R e w') :
    ∀ (ds : List Deferred) (w' : World), Marks w.heap.size w' ds → Post σ ρ m w ρ' m' w' → LeavesInM Fence.wide 0 P fn tmps R ds .returning w'
  | [], w', _, hp => by
    obtain ⟨v', g1, g2⟩ := results_ok hp.rel ht h
    exact ⟨v', g1, hR _ _ ⟨v', ρ', rfl, g2, hp, hold⟩⟩
  | d :: ds, w', hm, hp => by
    obtain ⟨⟨r, h1, h2, h3, h4⟩, h5⟩ := hm
    refine ⟨by simp, .inl ⟨r, _, h1, run_takeDeferred h3, ?_⟩⟩
    refine leaves_ok2 ht hold h hR ds _ ?_ (hp.shut h3 h2)
    have : ∀ (l : List Deferred), (∀ d' ∈ l, d'.target ≠ .collected r) → Marks w.heap.size w' l → Marks w.heap.size (w'.putObj r (.deferred none)) l := by
      intro l
      induction l with
      | nil => exact fun _ _ => trivial
      | cons d' l ih =>
        rintro hne ⟨⟨r', k1, k2, k3, k4⟩, k5⟩
        have hrr : r' ≠ r := fun e => hne d' (by simp) (e ▸ k1)
        exact ⟨⟨r', k1, k2, (World.putObj_heap_other hrr).trans k3, k4⟩, ih (fun d'' hd => hne d'' (by simp [hd])) k5⟩
    exact this ds h4 h5

theorem partM_ok {E : Env} (h : Sure σ E) {n : Nat} {f : FuncId} {e : Entry} (hp : partM E n f e = true) : EntryOk σ E.P f e := by
  unfold partM at hp
  split at hp
  · rename_i s hf
    split at hp
    · rename_i ws hws
      simp only [Bool.and_eq_true] at hp
      obtain ⟨h1, h2, h3, h4, h5⟩ := hp
      have hall := List.all_eq_true.1 h1
      refine ⟨⟨⟨e.next', joinT e⟩, ?_, rfl, subO_get h4, keptL_get h5⟩, Nat.le_of_ble_eq_true h2, okOuts_mem h3⟩
      unfold fnOf at hf
      split at hf
      · rename_i fn hfn
        split at hf
        · rename_i c hc
          split at hf
          · rename_i sc hsc
            simp only [Option.some.injEq] at hf
            subst hf
            intro ρ w args' hR hargs
            refine callsIn_of_wp_marks hfn hc trivial ?_ rfl
            have hlen : e.args.length = args'.size := by simpa using hargs.1
            refine wpIn_mono (mcode_ok rfl h.sym (fastS_ok h n) _ _ _ _ hws c ρ w _ none w.heap.size hsc hR ?_ trivial (Nat.le_refl _) trivial) ?_
            · simp only [Array.toList_append, Array.toList_replicate]
              refine hargs.append ?_
              rw [hlen]
              exact LRel.replicate ρ (VRel.undef ρ) _
            · rintro x a' w' ⟨⟨y, t', m'⟩, hq, he, hok, ρ', g1, g2, g3, g4⟩
              simp only at he
              subst he
              have hend := hall _ hq
              unfold endB at hend
              split at hend
              · rename_i v nx tt hmr
                simp only [Bool.and_eq_true] at hend
                obtain ⟨i1, i2, i3, i4⟩ := hend
                have key : (x = .normal ∨ x = .ret) ∧ ∃ vs, resA E.P t' m' fn.results.toList = some vs ∧ oneOr vs = v ∧ m' = ⟨nx, tt⟩ := by
                  unfold mret at hmr
                  cases hr : resA E.P t' m' fn.results.toList with
                  | none => simp only [hr] at hmr; cases x <;> simp at hmr
                  | some vs => simp only [hr] at hmr; cases x <;> simp at hmr <;> simp [hmr]
                obtain ⟨hx, vs, hvs, rfl, rfl⟩ := key
                have hfin : ∀ e1 w1, Ret σ ρ e.mem w (oneOr vs) ⟨nx, tt⟩ e1 w1 → Ret σ ρ e.mem w e.v ⟨e.next', joinT e⟩ e1 w1 := by
                  rintro e1 w1 ⟨v', ρ1, rfl, j1, j2, j3⟩
                  rw [vQ_eq i1] at j1
                  refine ⟨v', ρ1, rfl, j1, j2.part (Nat.le_of_ble_eq_true i2) fun b o hb => ?_, j3⟩
                  have hb' : (joinT e).get b = some o := hb
                  rcases List.mem_append.1 (get_putL hb') with hb1 | hb1
                  · obtain ⟨⟨b2, o2⟩, k1, k2⟩ := List.mem_filterMap.1 hb1
                    cases o2 with
                    | none => cases k2
                    | some o3 =>
                      simp only [Option.map_some, Option.some.injEq, Prod.mk.injEq] at k2
                      obtain ⟨rfl, rfl⟩ := k2
                      exact subO_get i3 _ _ k1
                  · obtain ⟨k1, k2⟩ := List.mem_filter.1 hb1
                    exact keptL_get i4 _ k1 (by simpa using k2)
                rcases hx with rfl | rfl
                · exact leaves_ok2 g1 g4 hvs hfin _ _ g2 g3
                · exact leaves_ok2 g1 g4 hvs hfin _ _ g2 g3
              · cases hend
          · cases hf
        · cases hf
      · cases hf
    · cases hp
  · cases hp
end
end Go.Ab
