/- Runs on open terms: functions as values, loops over functions. -/
import Derived.Test.YtjajeeoahbidlaaTE
namespace Go.Ab
noncomputable section
variable {P : Program} {E : Env} {n0 : Nat} {rd : Option Nat}

theorem CodeOk.of_t {σ : Sig} {c : SCode} {t t' : List Value} {m m' : Mem} {x : Exit} (h : TOk σ σ P m.next rd c t m x t' m') (hn : m.next ≤ m'.next) : CodeOk σ P rd c t m x t' m' := by
  intro k ρ w a l lo h1 h2 h3 h4 h5 h6
  refine wpIn_mono (h k ρ w a l lo h1 h2 h3 h4 h5 h6) ?_
  rintro e a' w' ⟨rfl, g0, ρ', g1, g2, g3, g4, g5⟩
  have he : Ext ρ ρ' := fun b x hb => by
    rcases Nat.lt_or_ge b m.next with hlt | hge
    · rw [g5 b hlt]; exact hb
    · rw [h2.dom b hge] at hb; cases hb
  exact ⟨rfl, g0, ρ', g1, g2, ⟨g3.rel, he, hn, g3.size, g3.os, g3.tape, g3.output, g3.frame, g3.img⟩, fun b hb e => (g5 b hb).trans e⟩

open Classical in
def codeSelf (c1 : SCode) (t1 : List Value) (m1 : Mem) (o1 : Out × Mem) (c2 : SCode) (t2 : List Value) (m2 : Mem) (o2 : Out × Mem) (l : Nat) : Self := fun tk m =>
  if tk = .code (some l) c1 t1 ∧ m = m1 then some o1 else if tk = .code (some l) c2 t2 ∧ m = m2 then some o2 else none

/-- The end of a round. -/
def roundC (l : Nat) (r : ALoop) (m : Mem) (k : Value → Mem → Prop) (x : Exit) : Prop := match x with
  | .normal => k (.bool true) (m.put l (.loop { r with state := .ready, pend := none }))
  | .ret => k (.bool false) (m.put l (.loop { r with state := .done, pend := some .ret }))
  | .exit id => k (.bool false) (m.put l (.loop { r with state := .done, pend := some (.exit id) }))
  | _ => False
def roundQ2 (l : Nat) (n : Nat) (k : Value → Mem → Prop) (x : Exit) (_ : List Value) (m3 : Mem) : Prop := n ≤ m3.next ∧ ∃ r3, m3.get l = some (.loop r3) ∧ roundC l r3 m3 k x
def roundQ1 (E : Env) (l : Nat) (n : Nat) (b : SCode) (k : Value → Mem → Prop) (x : Exit) (t1 : List Value) (m1 : Mem) : Prop := x = .normal ∧ n ≤ m1.next ∧ ∃ r1, m1.get l = some (.loop r1) ∧ r1.state = .ready ∧
  WX E m1.next (some l) b t1 (m1.put l (.loop { r1 with state := .busy })) (roundQ2 l m1.next k)

theorem RoundOk.of_wx (hE : EnvOk E) {l : Nat} {r : ALoop} {args : List Value} {m : Mem} {k : Value → Mem → Prop} (hl : m.get l = some (.loop r)) (hps : r.ps.length = args.length) (hst : r.state = .ready)
    (h : WX E m.next (some l) r.assign (setAll r.ps args r.tmps) m (roundQ1 E l m.next r.body k)) : ∃ v m', RoundOk Sig.none E.P l args m v m' ∧ k v m' := by
  obtain ⟨x, t1, m1, h1, rfl, h2, r1, h3, h4, h5⟩ := WX.ok hE h
  obtain ⟨x2, t2, m3, h6, h7, r3, h8, h9⟩ := WX.ok hE h5
  let slf := codeSelf r.assign (setAll r.ps args r.tmps) m (.exit .normal t1, m1) r.body t1 (m1.put l (.loop { r1 with state := .busy })) (.exit x2 t2, m3) l
  have hs : SelfOk Sig.none E.P slf := by
    refine ⟨fun f a m v m' hh => ?_, fun f a m v m' hh => ?_, fun rd c t m' x t' m'' hh => ?_⟩
    · simp only [slf, codeSelf, reduceCtorEq, false_and, if_false] at hh
    · simp only [slf, codeSelf, reduceCtorEq, false_and, if_false] at hh
    · simp only [slf, codeSelf] at hh
      split at hh
      · rename_i e
        obtain ⟨e1, rfl⟩ := e
        cases e1
        cases hh
        exact CodeOk.of_t h1 h2
      · split at hh
        · rename_i e
          obtain ⟨e1, rfl⟩ := e
          cases e1
          cases hh
          exact CodeOk.of_t h6 h7
        · cases hh
  have q1 : slf (.code (some l) r.assign (setAll r.ps args r.tmps)) m = some (.exit .normal t1, m1) := by
    simp only [slf, codeSelf, and_self, if_true]
  have q2 : slf (.code (some l) r.body t1) (m1.put l (.loop { r1 with state := .busy })) = some (.exit x2 t2, m3) := by
    simp only [slf, codeSelf]
    rw [if_neg]
    · simp
    · rintro ⟨e1, e2⟩
      have : m.get l = some (.loop { r1 with state := .busy }) := by rw [← e2, Mem.get_put, if_pos rfl]
      rw [hl] at this
      simp only [Option.some.injEq, AObj.loop.injEq] at this
      rw [this] at hst
      cases hst
  have key : ∀ v m', step E slf (.round l args) m = some (.val v, m') → RoundOk Sig.none E.P l args m v m' := fun v m' hh => round_ok hs hh
  have hstep : step E slf (.round l args) m = match x2 with
      | .normal => some (.val (.bool true), m3.put l (.loop { r3 with state := .ready, pend := none }))
      | .ret => some (.val (.bool false), m3.put l (.loop { r3 with state := .done, pend := some .ret }))
      | .exit id => some (.val (.bool false), m3.put l (.loop { r3 with state := .done, pend := some (.exit id) }))
      | _ => none := by
    simp only [step, hl, hps, hst, and_self, if_true, q1, h3, h4, q2, h8]
    cases x2 <;> rfl
  cases x2 <;> first | exact h9.elim | exact ⟨_, _, key _ _ hstep, h9⟩

theorem CallI.round (hE : EnvOk E) {L : List Inst} {l : Nat} {r : ALoop} {args : List Value} {m : Mem} {K : List Inst → Value → Mem → Prop} (hl : m.get l = some (.loop r)) (hps : r.ps.length = args.length) (hst : r.state = .ready) (hL : ∀ c ∈ L, c.tk ≠ .round l args)
    (h : WXi E m.next (some l) r.assign (setAll r.ps args r.tmps) m (Q := ⟨roundQ1 E l m.next r.body fun v m' => Grow m m' ∧ K (⟨.round l args, m, v, m'⟩ :: L) v m'⟩)) : CallI E L (.round l args) m (K := ⟨K⟩) := by
  obtain ⟨v, m', h1, h2, h3⟩ := RoundOk.of_wx hE hl hps hst h
  exact ⟨v, m', ⟨h2, h1⟩, fun c hc e => absurd e (hL c hc), h3⟩

def loopI (o : Option AObj) [k : VI ALoop] : Prop := match o with
  | some (.loop r) => k.k r
  | _ => False
theorem loopI_some {r : ALoop} {k : ALoop → Prop} : loopI (some (.loop r)) (k := ⟨k⟩) = k r := rfl
theorem loopI_iff {o : Option AObj} {k : ALoop → Prop} : loopI o (k := ⟨k⟩) ↔ ∃ r, o = some (.loop r) ∧ k r := by
  constructor
  · intro h
    unfold loopI at h
    split at h
    · exact ⟨_, rfl, h⟩
    · exact h.elim
  · rintro ⟨r, rfl, h⟩; exact h
section
variable {l n : Nat} {b : SCode} {k : Value → Mem → Prop} {t : List Value} {m : Mem}
theorem roundQ1_normal : roundQ1 E l n b k .normal t m = (n ≤ m.next ∧ loopI (m.get l) (k := ⟨fun r1 => r1.state = .ready ∧ WXi E m.next (some l) b t (m.put l (.loop { r1 with state := .busy })) (Q := ⟨roundQ2 l m.next k⟩)⟩)) := by
  refine propext ⟨fun h => ⟨h.2.1, loopI_iff.2 h.2.2⟩, fun h => ⟨rfl, h.1, loopI_iff.1 h.2⟩⟩
theorem roundQ2_normal : roundQ2 l n k .normal t m = (n ≤ m.next ∧ loopI (m.get l) (k := ⟨fun r => k (.bool true) (m.put l (.loop { r with state := .ready, pend := none }))⟩)) :=
  propext ⟨fun h => ⟨h.1, loopI_iff.2 h.2⟩, fun h => ⟨h.1, loopI_iff.1 h.2⟩⟩
theorem roundQ2_ret : roundQ2 l n k .ret t m = (n ≤ m.next ∧ loopI (m.get l) (k := ⟨fun r => k (.bool false) (m.put l (.loop { r with state := .done, pend := some .ret }))⟩)) :=
  propext ⟨fun h => ⟨h.1, loopI_iff.2 h.2⟩, fun h => ⟨h.1, loopI_iff.1 h.2⟩⟩
theorem roundQ2_exit {i : Nat} : roundQ2 l n k (.exit i) t m = (n ≤ m.next ∧ loopI (m.get l) (k := ⟨fun r => k (.bool false) (m.put l (.loop { r with state := .done, pend := some (.exit i) }))⟩)) :=
  propext ⟨fun h => ⟨h.1, loopI_iff.2 h.2⟩, fun h => ⟨h.1, loopI_iff.1 h.2⟩⟩
end
theorem setAll1 {p : Tmp} {a : Value} {t : List Value} : setAll [p] [a] t = t.set p a := rfl
theorem setAll2 {p q : Tmp} {a b : Value} {t : List Value} : setAll [p, q] [a, b] t = (t.set p a).set q b := rfl
theorem setAll0 {t : List Value} : setAll [] [] t = t := rfl
/-! functions as values -/
def yieldOf : Value → Option (Nat × Array Value)
  | .func (.yield l) a _ => some (l, a)
  | _ => none
theorem yieldOf_y {l : Nat} {a c : Array Value} : yieldOf (.func (.yield l) a c) = some (l, a) := rfl
def fnV : Value → Option (FuncId × Array Value × Array Value)
  | .func (.func g) a c => some (g, a, c)
  | _ => none
theorem fnV_f {g : FuncId} {a c : Array Value} : fnV (.func (.func g) a c) = some (g, a, c) := rfl
section
variable {base i : Nat} {rest : List (Nat × SOp)} {L : List Inst} {t : List Value} {m : Mem} {K : KI} {rt : TypeId}
theorem X_yield {dst : Option Tmp} {f : Tmp} {args : Array Operand} {ts : Array TypeId} (h : (yieldOf (ev (.tmp f) t)).isSome = true) : XWi E base ((i, ⟨dst, .call ⟨.value (.tmp f), args, ts⟩, rt, none⟩) :: rest) L t m (Q := K) =
    CallI E L (.round ((yieldOf (ev (.tmp f) t)).getD (0, #[])).1 (((yieldOf (ev (.tmp f) t)).getD (0, #[])).2.toList ++ args.toList.map (ev · t))) m (K := ⟨fun L' v m' => XWi E base rest L' (putT dst v t) m' (Q := K)⟩) := by
  have hr : reqA E.P ⟨dst, .call ⟨.value (.tmp f), args, ts⟩, rt, none⟩ (ev · t) m = some (.round ((yieldOf (ev (.tmp f) t)).getD (0, #[])).1 (((yieldOf (ev (.tmp f) t)).getD (0, #[])).2.toList ++ args.toList.map (ev · t)), m) ∧ opA E noSelf (base + i) ⟨dst, .call ⟨.value (.tmp f), args, ts⟩, rt, none⟩ t m = none := by
    cases hv : ev (.tmp f) t <;> simp only [hv, yieldOf] at h <;> first | cases h | skip
    rename_i g a c
    split at h
    · rename_i l c' e
      cases e
      simp [reqA, opA, cls, effA, hv, yieldOf]
    · cases h
  refine propext ⟨fun h => ?_, XW_task rfl hr.1⟩
  obtain ⟨_, ⟨_, h⟩ | ⟨h, _⟩⟩ := h
  · rcases h with ⟨v, m', h1, _⟩ | ⟨tk, m1, v, m2, h1, h2, h3, h4⟩
    · rw [hr.2] at h1; cases h1
    · rw [hr.1] at h1
      cases h1
      exact ⟨v, m2, h2, h3, h4⟩
  · cases h
theorem X_callf {dst : Option Tmp} {f : Tmp} {args : Array Operand} {ts : Array TypeId} (h : (fnV (ev (.tmp f) t)).isSome = true) (hc : callable E.P ((fnV (ev (.tmp f) t)).getD (0, #[], #[])).1 = true) : XWi E base ((i, ⟨dst, .call ⟨.value (.tmp f), args, ts⟩, rt, none⟩) :: rest) L t m (Q := K) =
    CallI E L (.call ((fnV (ev (.tmp f) t)).getD (0, #[], #[])).1 (((fnV (ev (.tmp f) t)).getD (0, #[], #[])).2.1.toList ++ args.toList.map (ev · t) ++ ((fnV (ev (.tmp f) t)).getD (0, #[], #[])).2.2.toList)) m (K := ⟨fun L' v m' => XWi E base rest L' (putT dst v t) m' (Q := K)⟩) := by
  have hr : reqA E.P ⟨dst, .call ⟨.value (.tmp f), args, ts⟩, rt, none⟩ (ev · t) m = some (.call ((fnV (ev (.tmp f) t)).getD (0, #[], #[])).1 (((fnV (ev (.tmp f) t)).getD (0, #[], #[])).2.1.toList ++ args.toList.map (ev · t) ++ ((fnV (ev (.tmp f) t)).getD (0, #[], #[])).2.2.toList), m) ∧ opA E noSelf (base + i) ⟨dst, .call ⟨.value (.tmp f), args, ts⟩, rt, none⟩ t m = none := by
    cases hv : ev (.tmp f) t <;> simp only [hv, fnV] at h <;> first | cases h | skip
    rename_i g a c
    split at h
    · rename_i l a' c' e
      cases e
      rw [hv] at hc
      simp only [fnV, Option.getD_some] at hc
      simp [reqA, opA, cls, effA, hv, fnV, hc]
    · cases h
  refine propext ⟨fun h => ?_, XW_task rfl hr.1⟩
  obtain ⟨_, ⟨_, h⟩ | ⟨h, _⟩⟩ := h
  · rcases h with ⟨v, m', h1, _⟩ | ⟨tk, m1, v, m2, h1, h2, h3, h4⟩
    · rw [hr.2] at h1; cases h1
    · rw [hr.1] at h1
      cases h1
      exact ⟨v, m2, h2, h3, h4⟩
  · cases h
end

/-- A loop over a function. -/
def rfnQ (l0 : Nat) (Q : Exit → List Value → Mem → Prop) (t : List Value) (m2 : Mem) : Prop := ∃ r, m2.get l0 = some (.loop r) ∧ r.state ≠ .busy ∧ match r.pend with
  | none => Q .normal t (m2.put l0 (.loop { r with state := .exhausted }))
  | some y => pendX y = true ∧ Q y t (m2.put l0 (.loop { r with state := .exhausted }))
theorem W_rfn {f : Operand} {ps : List Tmp} {sa sb : SCode} {n : Nat} {l l' : List (Nat × Value)} {m m2 : Mem} {g : FuncId} {first cap : Array Value} {v : Value} {Q : Exit → List Value → Mem → Prop} (hn : n0 ≤ m.next)
    (hev : ev f (T n l) = .func (.func g) first cap) (hcall : callable E.P g = true)
    (hc : Con E.P g (first.toList ++ [.func (.yield m.next) #[] #[]] ++ cap.toList) ((m.put m.next (.loop { state := .ready, pend := none, tmps := T n l, ps := ps, assign := sa, body := sb })).bump 1) v m2)
    (hv : ∀ p ∈ l', RV (m.next + 1) [] (lk l p.1) p.2) (hQ : rfnQ m.next Q (T n l') m2) :
    WXi E n0 none (.rfn f ps sa sb) (T n l) m (Q := ⟨Q⟩) := by
  obtain ⟨⟨st, pend, tm, qs, as, bd⟩, h1, h2, h3⟩ := hQ
  have hT : TCall Sig.none Sig.none E.P (m.next + 1) g (first.toList ++ [.func (.yield m.next) #[] #[]] ++ cap.toList) ((m.bump 1).put m.next (.loop { state := .ready, pend := none, tmps := T n l, ps := ps, assign := sa, body := sb })) v m2 :=
    TCall.of_call (Nat.le_refl _) hc.1
  have hvv : ∀ (ρ ρ' : Rho) (ts : List Value), (∀ b, b < m.next + 1 → ρ' b = ρ b) → LRel Sig.none ρ (T n l) ts → LRel Sig.none ρ' (T n l') ts := fun ρ ρ' ts he ht => rv_T hv he (by simp) ht
  cases pend with
  | none =>
    exact ⟨.normal, T n l', _, TOk.rfn hn hev hcall rfl hT hvv h1 h2 rfl, h3⟩
  | some y =>
    exact ⟨y, T n l', _, TOk.rfn hn hev hcall rfl hT hvv h1 h2 ⟨h3.1, rfl⟩, h3.2⟩
theorem W_rfn' {f : Operand} {ps : List Tmp} {sa sb : SCode} {n : Nat} {l l' : List (Nat × Value)} {m m2 mr : Mem} {l0 : Nat} {g : FuncId} (first cap : List Value) {v : Value} {Q : Exit → List Value → Mem → Prop} (hn : n0 ≤ m.next)
    (hev : ev f (T n l) = .func (.func g) first.toArray cap.toArray) (hcall : callable E.P g = true) (h0 : m.next = l0) (hmr : (m.put l0 (.loop { state := .ready, pend := none, tmps := T n l, ps := ps, assign := sa, body := sb })).bump 1 = mr)
    (hc : Con E.P g (first ++ [.func (.yield l0) #[] #[]] ++ cap) mr v m2)
    (hv : ∀ p ∈ l', RV (l0 + 1) [] (lk l p.1) p.2) (hQ : rfnQ l0 Q (T n l') m2) :
    WXi E n0 none (.rfn f ps sa sb) (T n l) m (Q := ⟨Q⟩) := by
  subst h0 hmr
  exact W_rfn hn hev hcall (by simpa using hc) hv hQ
theorem rfnQ_normal {l0 : Nat} {Q : Exit → List Value → Mem → Prop} {t : List Value} {m2 : Mem} {tm : List Value} {qs : List Tmp} {sa bd : SCode} (h1 : m2.get l0 = some (.loop ⟨.ready, none, tm, qs, sa, bd⟩)) (h2 : Q .normal t (m2.put l0 (.loop ⟨.exhausted, none, tm, qs, sa, bd⟩))) : rfnQ l0 Q t m2 :=
  ⟨_, h1, by simp, h2⟩
end
end Go.Ab
