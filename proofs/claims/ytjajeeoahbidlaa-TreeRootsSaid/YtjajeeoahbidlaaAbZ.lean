/- An interpreter of our own: triples whose ends may be looked at anew: blocks get other numbers, symbolic values other names. -/
import Derived.Test.YtjajeeoahbidlaaAbS
namespace Go.Ab
variable {P : Program} {σ σ1 σ2 σ3 : Sig} {n0 : Nat}

/-! ### what is left of 'Post' where numbers may change -/
structure FPost (σ : Sig) (ρ : Rho) (m : Mem) (w : World) (ρ' : Rho) (m' : Mem) (w' : World) : Prop where
  rel : Rel σ ρ' m' w'
  size : w.heap.size ≤ w'.heap.size
  os : w'.os = w.os
  tape : w'.tape = w.tape
  output : w'.output = w.output
  frame : ∀ k, k < w.heap.size → (∀ b o x, m.get b = some o → wr o = true → ρ b = some x → x.1 ≠ k) → w'.heap[k]? = w.heap[k]?
  img : ∀ b o x, m'.get b = some o → ρ' b = some x → x.1 < w.heap.size → ∃ b0 o0 x0, m.get b0 = some o0 ∧ ρ b0 = some x0 ∧ x0.1 = x.1 ∧ (wr o = true → wr o0 = true)

theorem Post.fpost {ρ ρ' : Rho} {m m' : Mem} {w w' : World} (h : Post σ ρ m w ρ' m' w') : FPost σ ρ m w ρ' m' w' :=
  ⟨h.rel, h.size, h.os, h.tape, h.output, h.frame, h.img⟩

theorem FPost.trans {ρ ρ1 ρ2 : Rho} {m m1 m2 : Mem} {w w1 w2 : World} (h : FPost σ1 ρ m w ρ1 m1 w1) (k : FPost σ2 ρ1 m1 w1 ρ2 m2 w2) : FPost σ2 ρ m w ρ2 m2 w2 :=
  ⟨k.rel, Nat.le_trans h.size k.size, k.os.trans h.os, k.tape.trans h.tape, k.output.trans h.output,
    fun i hi hf => by
      refine (k.frame i (Nat.lt_of_lt_of_le hi h.size) ?_).trans (h.frame i hi hf)
      intro b o x hb hw hx hk
      obtain ⟨b0, o0, x0, h1, h2, h3, h4⟩ := h.img b o x hb hx (hk ▸ hi)
      exact hf b0 o0 x0 h1 (h4 hw) h2 (h3.trans hk),
    fun b o x hb hx hlt => by
      obtain ⟨b1, o1, x1, h1, h2, h3, h4⟩ := k.img b o x hb hx (Nat.lt_of_lt_of_le hlt h.size)
      obtain ⟨b0, o0, x0, g1, g2, g3, g4⟩ := h.img b1 o1 x1 h1 h2 (h3 ▸ hlt)
      exact ⟨b0, o0, x0, g1, g2, g3.trans h3, fun hw => g4 (h4 hw)⟩⟩

theorem FPost.deferred {ρ ρ' : Rho} {m m' : Mem} {w w' : World} (hR : Rel σ1 ρ m w) (h : FPost σ2 ρ m w ρ' m' w') {r : Nat} {ds : Option (List Deferred)} (hr : w.heap[r]? = some (.deferred ds)) : w'.heap[r]? = some (.deferred ds) := by
  have hlt : r < w.heap.size := (Array.getElem?_eq_some_iff.1 hr).1
  rw [h.frame r hlt fun b o x hb _ hx he => (hR.obj b o x hb hx).not_deferred (he ▸ hr)]
  exact hr
theorem Marks.fpost {ρ ρ' : Rho} {m m' : Mem} {w w' : World} {lo : Nat} {ds : List Deferred} (h : Marks lo w ds) (hR : Rel σ1 ρ m w) (hp : FPost σ2 ρ m w ρ' m' w') : Marks lo w' ds :=
  h.keep fun _ hr => hp.deferred hR hr

theorem FPost.below {ρ ρ' : Rho} {m m' : Mem} {w w' : World} (h : FPost σ ρ m w ρ' m' w') (hs : Sealed m) : RowKit.Below w.heap.size w w' :=
  ⟨h.os, h.tape, h.output, h.size, fun k hk => h.frame k hk fun b o x hb hw _ => by rw [hs b o hb] at hw; cases hw⟩

/-! ### triples -/
def TPost (σ : Sig) (n0 : Nat) (ρ : Rho) (m : Mem) (w : World) (lo : Nat) (rd l : Option Nat) (x : Exit) (t : List Value) (m' : Mem) (e : Exit) (a : Act) (w' : World) : Prop :=
  e = x ∧ okX x = true ∧ ∃ ρ', LRel σ ρ' t a.tmps.toList ∧ Marks lo w' a.defers ∧ FPost σ ρ m w ρ' m' w' ∧ RdRel ρ' rd l ∧ ∀ b, b < n0 → ρ' b = ρ b

def TOk (σ1 σ2 : Sig) (P : Program) (n0 : Nat) (rd : Option Nat) (c : SCode) (t : List Value) (m : Mem) (x : Exit) (t' : List Value) (m' : Mem) : Prop :=
  ∀ (k : Code) ρ w (a : Act) l lo, comp k = some c → Rel σ1 ρ m w → LRel σ1 ρ t a.tmps.toList → Marks lo w a.defers → lo ≤ w.heap.size → RdRel ρ rd l →
    k.wpIn (Fr l) 0 P (TPost σ2 n0 ρ m w lo rd l x t' m') a w

/-- So many rounds of a loop. -/
def TRounds (σ1 σ2 : Sig) (P : Program) (n0 : Nat) (rd : Option Nat) (b : SCode) (N : Nat) (t : List Value) (m : Mem) (x : Exit) (t' : List Value) (m' : Mem) : Prop :=
  ∀ (k : Code) ρ w (a : Act) l lo, comp k = some b → Rel σ1 ρ m w → LRel σ1 ρ t a.tmps.toList → Marks lo w a.defers → lo ≤ w.heap.size → RdRel ρ rd l →
    Code.roundsIn (Fr l) 0 P k (TPost σ2 n0 ρ m w lo rd l x t' m') N a w

theorem TPost.trans {ρ ρ1 : Rho} {m m1 m' : Mem} {w w1 w' : World} {lo : Nat} {rd l : Option Nat} {x e : Exit} {t' : List Value} {a' : Act} (hp : FPost σ1 ρ m w ρ1 m1 w1) (hk : ∀ b, b < n0 → ρ1 b = ρ b) (h : TPost σ2 n0 ρ1 m1 w1 lo rd l x t' m' e a' w') :
    TPost σ2 n0 ρ m w lo rd l x t' m' e a' w' := by
  obtain ⟨h1, h2, ρ', h3, h4, h5, h6, h7⟩ := h
  exact ⟨h1, h2, ρ', h3, h4, hp.trans h5, h6, fun b hb => (h7 b hb).trans (hk b hb)⟩

theorem keep_of {ρ ρ1 : Rho} {n : Nat} (he : Ext ρ ρ1) (ho : Old n ρ ρ1) (b : Nat) (hb : b < n) : ρ1 b = ρ b := by
  cases h : ρ b with
  | none => exact ho b hb h
  | some x => exact he b x h

theorem TOk.of_code {rd : Option Nat} {c : SCode} {t t' : List Value} {m m' : Mem} {x : Exit} (hn : n0 ≤ m.next) (h : CodeOk σ P rd c t m x t' m') : TOk σ σ P n0 rd c t m x t' m' := by
  intro k ρ w a l lo h1 h2 h3 h4 h5 h6
  refine wpIn_mono (h k ρ w a l lo h1 h2 h3 h4 h5 h6) ?_
  rintro e a1 w1 ⟨rfl, ho, ρ1, g1, g2, g3, g4⟩
  exact ⟨rfl, ho, ρ1, g1, g2, g3.fpost, h6.mono g3.ext, fun b hb => keep_of g3.ext g4 b (Nat.lt_of_lt_of_le hb hn)⟩

theorem TOk.of_run {E : Env} (hE : Sure σ E) {n : Nat} {rd : Option Nat} {c : SCode} {t t' : List Value} {m m' : Mem} {x : Exit} (hn : n0 ≤ m.next) (h : run E n (.code rd c t) m = some (.exit x t', m')) : TOk σ σ E.P n0 rd c t m x t' m' :=
  .of_code hn ((run_ok hE n).code _ _ _ _ _ _ _ h)

theorem TOk.seq {rd : Option Nat} {a b : SCode} {t t1 t2 : List Value} {m m1 m2 : Mem} {x : Exit} (h : TOk σ1 σ2 P n0 rd a t m .normal t1 m1) (k : TOk σ2 σ3 P n0 rd b t1 m1 x t2 m2) : TOk σ1 σ3 P n0 rd (.seq a b) t m x t2 m2 := by
  intro kk ρ w ac l lo h1 h2 h3 h4 h5 h6
  obtain ⟨k1, k2, rfl, hk1, hk2⟩ := comp_seq h1
  apply wpIn_seq
  refine wpIn_mono (h k1 ρ w ac l lo hk1 h2 h3 h4 h5 h6) ?_
  rintro e a1 w1 ⟨rfl, _, ρ1, g1, g2, g3, g4, g5⟩
  refine wpIn_mono (k k2 ρ1 w1 a1 l lo hk2 g3.rel g1 g2 (Nat.le_trans h5 g3.size) g4) ?_
  exact fun e a w hc => hc.trans g3 g5

theorem TOk.seq_out {rd : Option Nat} {a b : SCode} {t t1 : List Value} {m m1 : Mem} {x : Exit} (h : TOk σ1 σ2 P n0 rd a t m x t1 m1) (hx : x ≠ .normal) : TOk σ1 σ2 P n0 rd (.seq a b) t m x t1 m1 := by
  intro kk ρ w ac l lo h1 h2 h3 h4 h5 h6
  obtain ⟨k1, k2, rfl, hk1, hk2⟩ := comp_seq h1
  apply wpIn_seq
  refine wpIn_mono (h k1 ρ w ac l lo hk1 h2 h3 h4 h5 h6) ?_
  intro e a1 w1 hc
  obtain ⟨rfl, _⟩ := id hc
  cases e with
  | normal => exact absurd rfl hx
  | _ => exact hc

theorem TOk.block {rd : Option Nat} {i : Nat} {b : SCode} {t t1 : List Value} {m m1 : Mem} {x : Exit} (h : TOk σ1 σ2 P n0 rd b t m x t1 m1) :
    TOk σ1 σ2 P n0 rd (.block i b) t m (match x with | .exit k => if k = i then .normal else .exit k | x => x) t1 m1 := by
  intro kk ρ w ac l lo h1 h2 h3 h4 h5 h6
  obtain ⟨kb, rfl, hkb⟩ := comp_block h1
  apply wpIn_block
  refine wpIn_mono (h kb ρ w ac l lo hkb h2 h3 h4 h5 h6) ?_
  rintro e a1 w1 ⟨rfl, ho, rest⟩
  cases e with
  | exit k =>
    simp only [Exit.inBlock]
    by_cases hj : k = i
    · simp only [hj, if_true]; exact ⟨rfl, rfl, rest⟩
    · simp only [hj, if_false]; exact ⟨rfl, rfl, rest⟩
  | _ => exact ⟨rfl, ho, rest⟩

theorem TOk.cond {rd : Option Nat} {o : Operand} {a b : SCode} {t t1 : List Value} {m m1 : Mem} {x : Exit} (v : Bool) (hv : ev o t = .bool v) (h : TOk σ1 σ2 P n0 rd (if v then a else b) t m x t1 m1) : TOk σ1 σ2 P n0 rd (.cond o a b) t m x t1 m1 := by
  intro kk ρ w ac l lo h1 h2 h3 h4 h5 h6
  obtain ⟨k1, k2, rfl, hp, hk1, hk2⟩ := comp_cond h1
  have he := ev_rel h2 h3 hp
  rw [hv] at he
  cases v with
  | true => exact wpIn_cond_true he.bool_inv (h k1 ρ w ac l lo (by simpa using hk1) h2 h3 h4 h5 h6)
  | false => exact wpIn_cond_false he.bool_inv (h k2 ρ w ac l lo (by simpa using hk2) h2 h3 h4 h5 h6)

theorem TRounds.more {rd : Option Nat} {b : SCode} {N : Nat} {t t1 t2 : List Value} {m m1 m2 : Mem} {x : Exit} (h : TOk σ1 σ2 P n0 rd b t m .normal t1 m1) (k : TRounds σ2 σ3 P n0 rd b N t1 m1 x t2 m2) : TRounds σ1 σ3 P n0 rd b (N + 1) t m x t2 m2 := by
  intro kb ρ w ac l lo h1 h2 h3 h4 h5 h6
  rw [roundsIn_succ]
  refine wpIn_mono (h kb ρ w ac l lo h1 h2 h3 h4 h5 h6) ?_
  rintro e a1 w1 ⟨rfl, _, ρ1, g1, g2, g3, g4, g5⟩
  refine roundsIn_mono ?_ N (k kb ρ1 w1 a1 l lo h1 g3.rel g1 g2 (Nat.le_trans h5 g3.size) g4)
  exact fun e a w hc => hc.trans g3 g5

theorem TRounds.last {rd : Option Nat} {b : SCode} {t t1 : List Value} {m m1 : Mem} {x : Exit} (h : TOk σ1 σ2 P n0 rd b t m x t1 m1) (hx : x ≠ .normal) : TRounds σ1 σ2 P n0 rd b 1 t m x t1 m1 := by
  intro kb ρ w ac l lo h1 h2 h3 h4 h5 h6
  rw [roundsIn_succ]
  refine wpIn_mono (h kb ρ w ac l lo h1 h2 h3 h4 h5 h6) ?_
  intro e a1 w1 hc
  obtain ⟨rfl, _⟩ := id hc
  cases e with
  | normal => exact absurd rfl hx
  | _ => exact hc

theorem TOk.loop {rd : Option Nat} {b : SCode} {N : Nat} {t t1 : List Value} {m m1 : Mem} {x : Exit} (h : TRounds σ1 σ2 P n0 rd b N t m x t1 m1) : TOk σ1 σ2 P n0 rd (.loop b) t m x t1 m1 := by
  intro kk ρ w ac l lo h1 h2 h3 h4 h5 h6
  obtain ⟨kb, rfl, hkb⟩ := comp_loop h1
  exact wpIn_loop_rounds N (h kb ρ w ac l lo hkb h2 h3 h4 h5 h6)

/-! ### looking anew -/
/-- The second state is the first one, looked at anew: who stands to the first stands to the second. -/
def View (σ1 σ2 : Sig) (n0 : Nat) (rd : Option Nat) (t1 : List Value) (m1 : Mem) (t2 : List Value) (m2 : Mem) : Prop :=
  ∀ ρ w (ts : List Value) l, Rel σ1 ρ m1 w → LRel σ1 ρ t1 ts → RdRel ρ rd l → ∃ ρ2, Rel σ2 ρ2 m2 w ∧ LRel σ2 ρ2 t2 ts ∧ RdRel ρ2 rd l ∧ (∀ b, b < n0 → ρ2 b = ρ b) ∧
    ∀ b o x, m2.get b = some o → ρ2 b = some x → ∃ b0 o0 x0, m1.get b0 = some o0 ∧ ρ b0 = some x0 ∧ x0.1 = x.1 ∧ wr o0 = wr o

theorem FPost.view {ρ ρ1 ρ2 : Rho} {m m1 m2 : Mem} {w w1 : World} (h : FPost σ1 ρ m w ρ1 m1 w1) (hR : Rel σ2 ρ2 m2 w1) (hv : ∀ b o x, m2.get b = some o → ρ2 b = some x → ∃ b0 o0 x0, m1.get b0 = some o0 ∧ ρ1 b0 = some x0 ∧ x0.1 = x.1 ∧ wr o0 = wr o) :
    FPost σ2 ρ m w ρ2 m2 w1 :=
  ⟨hR, h.size, h.os, h.tape, h.output, h.frame, fun b o x hb hx hlt => by
    obtain ⟨b0, o0, x0, g1, g2, g0, g3⟩ := hv b o x hb hx
    obtain ⟨b1, o1, x1, k1, k2, k3, k4⟩ := h.img b0 o0 x0 g1 g2 (g0 ▸ hlt)
    exact ⟨b1, o1, x1, k1, k2, k3.trans g0, fun hw => k4 (g3.trans hw)⟩⟩

theorem TOk.view {rd : Option Nat} {c : SCode} {t t1 t2 : List Value} {m m1 m2 : Mem} {x : Exit} (h : TOk σ1 σ2 P n0 rd c t m x t1 m1) (hv : View σ2 σ3 n0 rd t1 m1 t2 m2) : TOk σ1 σ3 P n0 rd c t m x t2 m2 := by
  intro k ρ w a l lo h1 h2 h3 h4 h5 h6
  refine wpIn_mono (h k ρ w a l lo h1 h2 h3 h4 h5 h6) ?_
  rintro e a1 w1 ⟨rfl, ho, ρ1, g1, g2, g3, g4, g5⟩
  obtain ⟨ρ2, k1, k2, k3, k5, k4⟩ := hv ρ1 w1 _ l g3.rel g1 g4
  exact ⟨rfl, ho, ρ2, k2, g2, g3.view k1 k4, k3, fun b hb => (k5 b hb).trans (g5 b hb)⟩

theorem TRounds.view {rd : Option Nat} {b : SCode} {N : Nat} {t t1 t2 : List Value} {m m1 m2 : Mem} {x : Exit} (h : TRounds σ1 σ2 P n0 rd b N t m x t1 m1) (hv : View σ2 σ3 n0 rd t1 m1 t2 m2) : TRounds σ1 σ3 P n0 rd b N t m x t2 m2 := by
  intro k ρ w a l lo h1 h2 h3 h4 h5 h6
  refine roundsIn_mono ?_ N (h k ρ w a l lo h1 h2 h3 h4 h5 h6)
  rintro e a1 w1 ⟨rfl, ho, ρ1, g1, g2, g3, g4, g5⟩
  obtain ⟨ρ2, k1, k2, k3, k5, k4⟩ := hv ρ1 w1 _ l g3.rel g1 g4
  exact ⟨rfl, ho, ρ2, k2, g2, g3.view k1 k4, k3, fun b hb => (k5 b hb).trans (g5 b hb)⟩

theorem RPost_self {ρ ρ2 : Rho} {m m2 : Mem} {w : World} (hR : Rel σ2 ρ2 m2 w) (hv : ∀ b o x, m2.get b = some o → ρ2 b = some x → ∃ b0 o0 x0, m.get b0 = some o0 ∧ ρ b0 = some x0 ∧ x0.1 = x.1 ∧ wr o0 = wr o) : FPost σ2 ρ m w ρ2 m2 w :=
  ⟨hR, Nat.le_refl _, rfl, rfl, rfl, fun _ _ _ => rfl, fun b o x hb hx hlt => by
    obtain ⟨b0, o0, x0, g1, g2, g0, g3⟩ := hv b o x hb hx
    exact ⟨b0, o0, x0, g1, g2, g0, fun hw => g3.trans hw⟩⟩

/-- The state ahead, looked at anew. -/
theorem TOk.pre {rd : Option Nat} {c : SCode} {t t1 t2 : List Value} {m m1 m2 : Mem} {x : Exit} (hv : View σ1 σ2 n0 rd t m t1 m1) (h : TOk σ2 σ3 P n0 rd c t1 m1 x t2 m2) : TOk σ1 σ3 P n0 rd c t m x t2 m2 := by
  intro k ρ w a l lo h1 h2 h3 h4 h5 h6
  obtain ⟨ρ2, k1, k2, k3, k5, k4⟩ := hv ρ w _ l h2 h3 h6
  refine wpIn_mono (h k ρ2 w a l lo h1 k1 k2 h4 h5 k3) ?_
  exact fun e a w hc => hc.trans (RPost_self k1 k4) k5
theorem TRounds.pre {rd : Option Nat} {b : SCode} {N : Nat} {t t1 t2 : List Value} {m m1 m2 : Mem} {x : Exit} (hv : View σ1 σ2 n0 rd t m t1 m1) (h : TRounds σ2 σ3 P n0 rd b N t1 m1 x t2 m2) : TRounds σ1 σ3 P n0 rd b N t m x t2 m2 := by
  intro k ρ w a l lo h1 h2 h3 h4 h5 h6
  obtain ⟨ρ2, k1, k2, k3, k5, k4⟩ := hv ρ w _ l h2 h3 h6
  refine roundsIn_mono ?_ N (h k ρ2 w a l lo h1 k1 k2 h4 h5 k3)
  exact fun e a w hc => hc.trans (RPost_self k1 k4) k5

/-! ### a call -/
def TRet (σ : Sig) (n0 : Nat) (ρ : Rho) (m : Mem) (w : World) (v : Value) (m' : Mem) (e : Ending) (w' : World) : Prop :=
  ∃ v' ρ', e = .returned v' ∧ VRel σ ρ' v v' ∧ FPost σ ρ m w ρ' m' w' ∧ ∀ b, b < n0 → ρ' b = ρ b

def TCall (σ1 σ2 : Sig) (P : Program) (n0 : Nat) (f : FuncId) (args : List Value) (m : Mem) (v : Value) (m' : Mem) : Prop :=
  ∀ ρ w (args' : Array Value), Rel σ1 ρ m w → LRel σ1 ρ args args'.toList → CallsIn Fence.wide 0 P f args' w (TRet σ2 n0 ρ m w v m')

theorem FPost.shut {ρ ρ' : Rho} {m m' : Mem} {w w' : World} (h : FPost σ ρ m w ρ' m' w') {r : Nat} (hr : w'.heap[r]? = some (.deferred (some []))) (hlo : w.heap.size ≤ r) : FPost σ ρ m w ρ' m' (w'.putObj r (.deferred none)) := by
  have hfar : ∀ k, k ≠ r → (w'.putObj r (.deferred none)).heap[k]? = w'.heap[k]? := fun k hk => World.putObj_heap_other hk
  refine ⟨⟨h.rel.dom, h.rel.glob, fun b o x hb hx => ?_, h.rel.inj, h.rel.fresh⟩, by simpa using h.size, h.os, h.tape, h.output, fun k hk hf => ?_, h.img⟩
  · have := h.rel.obj b o x hb hx
    exact this.keep (Ext.refl _) (hfar _ fun e => this.not_deferred (e ▸ hr))
  · rw [hfar k (by omega)]
    exact h.frame k hk hf

theorem tleaves_ok {ρ ρ' : Rho} {m m' : Mem} {w : World} {fn : Func} {tmps : Array Value} {t vs : List Value} (ht : LRel σ ρ' t tmps.toList) (hk : ∀ b, b < n0 → ρ' b = ρ b) (h : resA P t m' fn.results.toList = some vs) :
    ∀ (ds : List Deferred) (w' : World), Marks w.heap.size w' ds → FPost σ ρ m w ρ' m' w' → LeavesInM Fence.wide 0 P fn tmps (TRet σ n0 ρ m w (oneOr vs) m') ds .returning w'
  | [], w', _, hp => by
    obtain ⟨v', g1, g2⟩ := results_ok hp.rel ht h
    exact ⟨v', g1, v', ρ', rfl, g2, hp, hk⟩
  | d :: ds, w', hm, hp => by
    obtain ⟨⟨r, h1, h2, h3, h4⟩, h5⟩ := hm
    refine ⟨by simp, .inl ⟨r, _, h1, run_takeDeferred h3, ?_⟩⟩
    refine tleaves_ok ht hk h ds _ ?_ (hp.shut h3 h2)
    have : ∀ (l : List Deferred), (∀ d' ∈ l, d'.target ≠ .collected r) → Marks w.heap.size w' l → Marks w.heap.size (w'.putObj r (.deferred none)) l := by
      intro l
      induction l with
      | nil => exact fun _ _ => trivial
      | cons d' l ih =>
        rintro hne ⟨⟨r', k1, k2, k3, k4⟩, k5⟩
        have hrr : r' ≠ r := fun e => hne d' (by simp) (e ▸ k1)
        exact ⟨⟨r', k1, k2, (World.putObj_heap_other hrr).trans k3, k4⟩, ih (fun d'' hd => hne d'' (by simp [hd])) k5⟩
    exact this ds h4 h5

theorem TCall.of_code {f : FuncId} {s : SFunc} {args : List Value} {m m' : Mem} {x : Exit} {t' vs : List Value} (hf : fnOf P f = some s) (hx : x = .normal ∨ x = .ret)
    (h : TOk σ1 σ2 P n0 none s.body (args ++ List.replicate (s.ntmps - args.length) undef) m x t' m') (hvs : resA P t' m' s.results = some vs) : TCall σ1 σ2 P n0 f args m (oneOr vs) m' := by
  unfold fnOf at hf
  split at hf
  · rename_i fn hfn
    split at hf
    · rename_i c hc
      split at hf
      · rename_i sc hsc
        simp only [Option.some.injEq] at hf
        subst hf
        intro ρ w args' hR hargs
        refine callsIn_of_wp_marks hfn hc trivial ?_ rfl
        have hlen : args.length = args'.size := by simpa using hargs.1
        refine wpIn_mono (h c ρ w _ none w.heap.size hsc hR ?_ trivial (Nat.le_refl _) trivial) ?_
        · simp only [Array.toList_append, Array.toList_replicate]
          refine hargs.append ?_
          rw [hlen]
          exact LRel.replicate ρ (VRel.undef ρ) _
        · rintro e a' w' ⟨rfl, hok, ρ', g1, g2, g3, _, g5⟩
          rcases hx with rfl | rfl
          · exact tleaves_ok g1 g5 hvs _ _ g2 g3
          · exact tleaves_ok g1 g5 hvs _ _ g2 g3
      · cases hf
    · cases hf
  · cases hf

/-- Where the numbers ahead keep their blocks, the call is one of the interpreter's own. -/
theorem CallOk.of_t {f : FuncId} {args : List Value} {m m' : Mem} {v : Value} (h : TCall σ σ P m.next f args m v m') (hn : m.next ≤ m'.next) : CallOk σ P f args m v m' := by
  intro ρ w args' hR ha
  refine (h ρ w args' hR ha).mono ?_
  rintro e w' ⟨v', ρ', rfl, g1, g2, g3⟩
  have he : Ext ρ ρ' := fun b x hb => by
    rcases Nat.lt_or_ge b m.next with hlt | hge
    · rw [g3 b hlt]; exact hb
    · rw [hR.dom b hge] at hb; cases hb
  exact ⟨v', ρ', rfl, g1, ⟨g2.rel, he, hn, g2.size, g2.os, g2.tape, g2.output, g2.frame, g2.img⟩, fun b hb e => (g3 b hb).trans e⟩

theorem TCall.of_call {f : FuncId} {args : List Value} {m m' : Mem} {v : Value} (hn : n0 ≤ m.next) (h : CallOk σ P f args m v m') : TCall σ σ P n0 f args m v m' := by
  intro ρ w args' hR ha
  refine (h ρ w args' hR ha).mono ?_
  rintro e w' ⟨v', ρ', rfl, g1, g2, g3⟩
  exact ⟨v', ρ', rfl, g1, g2.fpost, fun b hb => keep_of g2.ext g3 b (Nat.lt_of_lt_of_le hb hn)⟩

/-- A scope that is not left by a jump. -/
theorem TOk.scope {rd : Option Nat} {b : SCode} {t t1 : List Value} {m m1 : Mem} {x : Exit} (h : TOk σ1 σ2 P n0 rd b t m x t1 m1) (hx : ∀ l, x ≠ .goto l) : TOk σ1 σ2 P n0 rd (.scope b) t m x t1 m1 := by
  intro kk ρ w ac l lo h1 h2 h3 h4 h5 h6
  obtain ⟨kb, rfl, hkb⟩ := comp_scope h1
  refine wpIn_scope (inSc_of (h kb ρ w ac l lo hkb h2 h3 h4 h5 h6) (fun e a w hc => by obtain ⟨rfl, k, _⟩ := hc; exact k) (fun l rest a1 w1 hc _ => ?_) fun e a1 w1 hc _ => hc)
  obtain ⟨e, _⟩ := hc
  exact absurd e.symm (hx l)

theorem TOk.anti {n1 : Nat} {rd : Option Nat} {c : SCode} {t t1 : List Value} {m m1 : Mem} {x : Exit} (hn : n1 ≤ n0) (h : TOk σ1 σ2 P n0 rd c t m x t1 m1) : TOk σ1 σ2 P n1 rd c t m x t1 m1 := by
  intro k ρ w a l lo h1 h2 h3 h4 h5 h6
  refine wpIn_mono (h k ρ w a l lo h1 h2 h3 h4 h5 h6) ?_
  rintro e a1 w1 ⟨rfl, ho, ρ1, g1, g2, g3, g4, g5⟩
  exact ⟨rfl, ho, ρ1, g1, g2, g3, g4, fun b hb => g5 b (Nat.lt_of_lt_of_le hb hn)⟩
theorem View.anti {n1 : Nat} {rd : Option Nat} {t1 t2 : List Value} {m1 m2 : Mem} (hn : n1 ≤ n0) (h : View σ1 σ2 n0 rd t1 m1 t2 m2) : View σ1 σ2 n1 rd t1 m1 t2 m2 := by
  intro ρ w ts l h1 h2 h3
  obtain ⟨ρ2, k1, k2, k3, k5, k4⟩ := h ρ w ts l h1 h2 h3
  exact ⟨ρ2, k1, k2, k3, fun b hb => k5 b (Nat.lt_of_lt_of_le hb hn), k4⟩
theorem TCall.anti {n1 : Nat} {f : FuncId} {args : List Value} {m m1 : Mem} {v : Value} (hn : n1 ≤ n0) (h : TCall σ1 σ2 P n0 f args m v m1) : TCall σ1 σ2 P n1 f args m v m1 := by
  intro ρ w args' hR ha
  refine (h ρ w args' hR ha).mono ?_
  rintro e w' ⟨v', ρ', rfl, g1, g2, g3⟩
  exact ⟨v', ρ', rfl, g1, g2, fun b hb => g3 b (Nat.lt_of_lt_of_le hb hn)⟩

/-- The loop over a function. -/
theorem TOk.rfn {rd : Option Nat} {f : Operand} {ps : List Tmp} {sa sb : SCode} {t t2 : List Value} {m m2 : Mem} {g : FuncId} {first cap : Array Value} {v : Value} {r : ALoop} {x : Exit} (hn : n0 ≤ m.next)
    (hev : ev f t = .func (.func g) first cap) (hcall : callable P g = true) (hloop : (match rd with | none => true | some l0 => isLoop (m.get l0)) = true)
    (hc : TCall σ1 σ2 P (m.next + 1) g (first.toList ++ [.func (.yield m.next) #[] #[]] ++ cap.toList) ((m.bump 1).put m.next (.loop { state := .ready, pend := none, tmps := t, ps := ps, assign := sa, body := sb })) v m2)
    (hv : ∀ (ρ ρ' : Rho) (ts : List Value), (∀ b, b < m.next + 1 → ρ' b = ρ b) → LRel σ1 ρ t ts → LRel σ2 ρ' t2 ts)
    (hr : m2.get m.next = some (.loop r)) (hbusy : r.state ≠ .busy) (hx : (match r.pend with | none => x = .normal | some y => pendX y = true ∧ x = y)) :
    TOk σ1 σ2 P n0 rd (.rfn f ps sa sb) t m x t2 (m2.put m.next (.loop { r with state := .exhausted })) := by
  intro kk ρ w a l lo hk hR ht hm hlo hrd
  obtain ⟨pa, ka, kb, rfl, rfl, hf, h1, h2⟩ := comp_rfn hk
  apply wpIn_rangeFunc
  intro fn _
  obtain ⟨l', mark, w1, ρ1, g1, g2, g3, g4, g5⟩ := enter_ok (P := P) fn hR ht hm hlo hloop hrd h1 h2 (ps := pa)
  have hfv := (ev_rel hR ht hf).mono g4.ext
  rw [hev] at hfv
  generalize hff : a.eval f = ff at hfv
  cases hfv with
  | func hy hmm k1 k2 k3 k4 =>
    rename_i fs' cp'
    refine ⟨l', mark, w1, { target := .fn (.func g) cp', args := fs' ++ #[.func (.yield l') #[] #[]] }, w1, g, fs' ++ #[.func (.yield l') #[] #[]] ++ cp', w1, g1, ?_, fun _ _ => trivial, ?_, fun hd => by simp [Fence.wide] at hd, ?_⟩
    · have hc0 : ∀ v, a.eval (.const v) = v := fun _ => rfl
      simp [resolve, hff, Deferred.ofValue, hc0]
    · simp [invoke, callFunc_run hcall]
    · have hargs : LRel σ1 ρ1 (first.toList ++ [.func (.yield m.next) #[] #[]] ++ cap.toList) (fs' ++ #[Value.func (.yield l') #[] #[]] ++ cp').toList := by
        simp only [Array.toList_append]
        exact ((lrel_of k1 k2).append (LRel.cons (.yield g2) (LRel.nil _))).append (lrel_of k3 k4)
      refine CallsIn.mono (hc ρ1 w1 _ g4.rel hargs) ?_
      rintro e w3 ⟨v', ρ3, rfl, j1, j2, j3⟩
      have hl3 : ρ3 m.next = some (l', 0, 0) := (j3 _ (Nat.lt_succ_self _)).trans g2
      have he3 : Ext ρ1 ρ3 := fun b y hb => by
        rcases Nat.lt_or_ge b (m.next + 1) with hlt | hge
        · rw [j3 b hlt]; exact hb
        · rw [g4.rel.dom b (by simpa using hge)] at hb; cases hb
      obtain ⟨r', i1, i2, i3, i4, i5, i6, i7⟩ := j2.rel.obj _ _ _ hr hl3
      have hturn : FPost σ2 ρ3 m2 w3 ρ3 (m2.put m.next (.loop { r with state := .exhausted })) (w3.putObj l' (.loop { r' with state := .exhausted })) :=
        (Post.turn (ob' := .loop { r with state := .exhausted }) j2.rel hr hl3 rfl (putObj_turned (o' := .loop { r' with state := .exhausted }) i1) ⟨_, (putObj_turned i1).at_, rfl, i3, i4, i5, i6, i7⟩).fpost
      have hb' : r'.state ≠ .busy := by rw [i2]; exact hbusy
      have hp := (g4.fpost.trans j2).trans hturn
      have hmk : Marks lo (w3.putObj l' (.loop { r' with state := .exhausted })) (mark ++ a.defers) := g5.fpost g4.rel (j2.trans hturn)
      have htt : LRel σ2 ρ3 t2 a.tmps.toList := hv ρ1 ρ3 _ j3 (ht.mono g4.ext)
      have hkeep : ∀ b, b < n0 → ρ3 b = ρ b := fun b hb => (j3 b (by omega)).trans (keep_of g4.ext g3 b (by omega))
      have base : ∀ x0, okX x0 = true → TPost σ2 n0 ρ m w lo rd l x0 t2 (m2.put m.next (.loop { r with state := .exhausted })) x0 { a with defers := mark ++ a.defers } (w3.putObj l' (.loop { r' with state := .exhausted })) :=
        fun x0 hx0 => ⟨rfl, hx0, ρ3, htt, hmk, hp, hrd.mono (g4.ext.trans he3), hkeep⟩
      refine ⟨r'.pending, _, run_endLoop i1 hb', ?_⟩
      cases hpd : r.pend with
      | none =>
        rw [hpd] at hx i3 base
        simp only at hx
        subst hx
        cases hpp : r'.pending with
        | none => rw [hpp] at base; exact base .normal rfl
        | some c => rw [hpp] at i3; exact i3.elim
      | some y =>
        rw [hpd] at hx i3 base
        simp only at hx
        obtain ⟨hx1, rfl⟩ := hx
        cases hpp : r'.pending with
        | none => rw [hpp] at i3; cases x <;> exact i3.elim
        | some c =>
          rw [hpp] at i3 base
          cases x with
          | ret => cases c <;> first | (exact i3.elim) | skip
                   exact wpIn_ret (base .ret rfl)
          | exit i => cases c <;> first | (exact i3.elim) | skip
                      rename_i j
                      have : i = j := i3
                      subst this
                      exact wpIn_exit (base (.exit _) rfl)
          | _ => cases hx1
end Go.Ab
