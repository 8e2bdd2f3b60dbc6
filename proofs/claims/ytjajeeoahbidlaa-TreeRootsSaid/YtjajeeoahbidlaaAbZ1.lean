/- An interpreter of our own: one state looked at as another one, computed. -/
import Derived.Test.YtjajeeoahbidlaaAbZ
namespace Go.Ab
variable {σ1 σ2 : Sig} {n0 : Nat}
noncomputable section

/-- Of a new number the old one; the program's variables keep theirs. -/
def phi (n0 : Nat) (φ : Tr Nat) (b : Nat) : Option Nat := if b < n0 then some b else φ.get b

def fnSame : Fn → Fn → Bool
  | .func f, .func g => f == g
  | _, _ => false

/-- The first value (of the old state), looked at as the second one. -/
def vReab (n0 : Nat) (φ : Tr Nat) (lf : Value → Value → Bool) : Nat → Value → Value → Bool
  | _, _, .chan (some 0) => true
  | _, .chan (some (i + 1)), .chan (some (j + 1)) => i == j
  | _, .bool a, .bool b => a == b
  | _, .int k a, .int l b => k == l && a == b
  | _, .string a, .string b => a == b
  | _, .float k a, .float l b => k == l && a == b
  | _, .complex k a b, .complex l c d => k == l && a == c && b == d
  | _, .nilIface, .nilIface | _, .nilFunc, .nilFunc | _, .map none, .map none | _, .pointer none, .pointer none => true
  | _, .pointer (some ⟨a, o, none⟩), .pointer (some ⟨b, p, none⟩) => phi n0 φ b == some a && o == p
  | _, .map (some a), .map (some b) => phi n0 φ b == some a
  | _, .slice none n c, .slice none k d => n == k && c == d
  | _, .slice (some ⟨0, 0, some 0⟩) 0 0, .slice (some ⟨0, 0, some 0⟩) 0 0 => true
  | _, .slice (some ⟨a, o, none⟩) n c, .slice (some ⟨b, p, none⟩) k d => phi n0 φ b == some a && o == p && n == k && c == d
  | _, .func (.yield a) _ _, .func (.yield b) fs cs => phi n0 φ b == some a && fs.size == 0 && cs.size == 0
  | _, a, .func (.method nm) fs cs => lf a (.func (.method nm) fs cs)
  | _, .func (.method nm) fs cs, b => lf (.func (.method nm) fs cs) b
  | n + 1, .func f fs cs, .func g gs ds => fnSame f g && fs.size == gs.size && cs.size == ds.size && ((List.range fs.size).all fun i => vReab n0 φ lf n (fs.getD i undef) (gs.getD i undef)) && ((List.range cs.size).all fun i => vReab n0 φ lf n (cs.getD i undef) (ds.getD i undef))
  | n + 1, .iface s a, .iface t b => s == t && vReab n0 φ lf n a b
  | n + 1, .agg a, .agg b => a.size == b.size && (List.range a.size).all fun i => vReab n0 φ lf n (a.getD i undef) (b.getD i undef)
  | n + 1, .tuple a, .tuple b => a.size == b.size && (List.range a.size).all fun i => vReab n0 φ lf n (a.getD i undef) (b.getD i undef)
  | _, _, _ => false

def rho2 (n0 : Nat) (φ : Tr Nat) (ρ : Rho) : Rho := fun b => (phi n0 φ b).bind ρ

/-- What a value stood for, its new name (or its value) stands for. -/
structure LfOk (σ1 σ2 : Sig) (n0 : Nat) (φ : Tr Nat) (lf : Value → Value → Bool) : Prop where
  lf : ∀ a b, lf a b = true → ∀ (ρ : Rho) v, VRel σ1 ρ a v → VRel σ2 (rho2 n0 φ ρ) b v
  tie : ∀ j (ρ : Rho) v, σ1.T j ρ v → σ2.T j (rho2 n0 φ ρ) v
  frz : ∀ tag C, σ1.F tag = some C → σ2.F tag = some C

theorem vReab_ok {φ : Tr Nat} {lf : Value → Value → Bool} (hl : LfOk σ1 σ2 n0 φ lf) {ρ : Rho} : ∀ (n : Nat) (a b v : Value), vReab n0 φ lf n a b = true → VRel σ1 ρ a v → VRel σ2 (rho2 n0 φ ρ) b v := by
  intro n
  induction n with
  | zero =>
    intro a b v h hv
    unfold vReab at h
    split at h <;> first
      | exact .junk
      | (obtain rfl := eq_of_beq h; cases hv with | tie ht => exact .tie (hl.tie _ _ _ ht))
      | (simp only [beq_iff_eq, Bool.and_eq_true] at h; cases hv; simp only [← h]; constructor; done)
      | (simp only [beq_iff_eq, Bool.and_eq_true] at h; obtain ⟨rfl, rfl⟩ := h; cases hv; constructor; done)
      | (simp only [beq_iff_eq, Bool.and_eq_true] at h; obtain ⟨⟨rfl, rfl⟩, rfl⟩ := h; cases hv; constructor; done)
      | (rw [← ba_eq h]; cases hv; constructor; done)
      | (cases hv; constructor; done)
      | (rename_i hn _ _; omega)
      | (simp at h; done)
      | skip
    · simp only [beq_iff_eq, Bool.and_eq_true] at h
      obtain ⟨h1, rfl⟩ := h
      cases hv with
      | ptr hb => exact .ptr (by simp [rho2, h1]; exact hb)
    · simp only [beq_iff_eq] at h
      cases hv with
      | map hb => exact .map (by simp [rho2, h]; exact hb)
    · simp only [beq_iff_eq, Bool.and_eq_true] at h
      obtain ⟨⟨⟨h1, rfl⟩, rfl⟩, rfl⟩ := h
      cases hv with
      | slice hb hc hn => exact .slice (by simp [rho2, h1]; exact hb) hc hn
    · simp only [beq_iff_eq, Bool.and_eq_true] at h
      obtain ⟨⟨h1, h2⟩, h3⟩ := h
      obtain rfl := Array.size_eq_zero_iff.1 h2
      obtain rfl := Array.size_eq_zero_iff.1 h3
      cases hv with
      | yield hb => exact .yield (by simp [rho2, h1]; exact hb)
      | func hy => exact absurd rfl (hy _)
    · exact hl.lf _ _ h _ _ hv
    · exact hl.lf _ _ h _ _ hv
  | succ n ih =>
    intro a b v h hv
    unfold vReab at h
    split at h <;> first
      | exact .junk
      | (obtain rfl := eq_of_beq h; cases hv with | tie ht => exact .tie (hl.tie _ _ _ ht))
      | (simp only [beq_iff_eq, Bool.and_eq_true] at h; cases hv; simp only [← h]; constructor; done)
      | (simp only [beq_iff_eq, Bool.and_eq_true] at h; obtain ⟨rfl, rfl⟩ := h; cases hv; constructor; done)
      | (simp only [beq_iff_eq, Bool.and_eq_true] at h; obtain ⟨⟨rfl, rfl⟩, rfl⟩ := h; cases hv; constructor; done)
      | (rw [← ba_eq h]; cases hv; constructor; done)
      | (cases hv; constructor; done)
      | (simp at h; done)
      | skip
    · simp only [beq_iff_eq, Bool.and_eq_true] at h
      obtain ⟨h1, rfl⟩ := h
      cases hv with
      | ptr hb => exact .ptr (by simp [rho2, h1]; exact hb)
    · simp only [beq_iff_eq] at h
      cases hv with
      | map hb => exact .map (by simp [rho2, h]; exact hb)
    · simp only [beq_iff_eq, Bool.and_eq_true] at h
      obtain ⟨⟨⟨h1, rfl⟩, rfl⟩, rfl⟩ := h
      cases hv with
      | slice hb hc hn => exact .slice (by simp [rho2, h1]; exact hb) hc hn
    · simp only [beq_iff_eq, Bool.and_eq_true] at h
      obtain ⟨⟨h1, h2⟩, h3⟩ := h
      obtain rfl := Array.size_eq_zero_iff.1 h2
      obtain rfl := Array.size_eq_zero_iff.1 h3
      cases hv with
      | yield hb => exact .yield (by simp [rho2, h1]; exact hb)
      | func hy => exact absurd rfl (hy _)
    · exact hl.lf _ _ h _ _ hv
    · exact hl.lf _ _ h _ _ hv
    · rename_i f fs cs g gs ds hn1 hn2 hn3
      cases hn3
      simp only [beq_iff_eq, Bool.and_eq_true, List.all_eq_true, List.mem_range] at h
      obtain ⟨⟨⟨⟨h1, h2⟩, h3⟩, h4⟩, h5⟩ := h
      cases hv with
      | func hy hm k1 k2 k3 k4 =>
        unfold fnSame at h1
        split at h1
        · obtain rfl := eq_of_beq h1
          exact .func hy hm (h2.symm.trans k1) (fun i hi => ih _ _ _ (h4 i (h2 ▸ hi)) (k2 i (h2 ▸ hi))) (h3.symm.trans k3) (fun i hi => ih _ _ _ (h5 i (h3 ▸ hi)) (k4 i (h3 ▸ hi)))
        · cases h1
      | sym hs => cases h1
      | yield hb => cases h1
    · rename_i hn
      cases hn
      simp only [beq_iff_eq, Bool.and_eq_true] at h
      obtain ⟨rfl, h⟩ := h
      cases hv with
      | iface _ k => exact .iface _ (ih _ _ _ h k)
    · rename_i hn
      cases hn
      simp only [beq_iff_eq, Bool.and_eq_true, List.all_eq_true, List.mem_range] at h
      cases hv with
      | agg k1 k2 => exact .agg (h.1.symm.trans k1) fun i hi => ih _ _ _ (h.2 i (h.1 ▸ hi)) (k2 i (h.1 ▸ hi))
    · rename_i hn
      cases hn
      simp only [beq_iff_eq, Bool.and_eq_true, List.all_eq_true, List.mem_range] at h
      cases hv with
      | tuple k1 k2 => exact .tuple (h.1.symm.trans k1) fun i hi => ih _ _ _ (h.2 i (h.1 ▸ hi)) (k2 i (h.1 ▸ hi))

/-! ### memories -/
def lReab2 (n0 : Nat) (φ : Tr Nat) (lf : Value → Value → Bool) : List Value → List Value → Bool
  | [], [] => true
  | a :: l, b :: k => vReab n0 φ lf 8 a b && lReab2 n0 φ lf l k
  | _, _ => false
theorem lReab2_ok {φ : Tr Nat} {lf : Value → Value → Bool} (hl : LfOk σ1 σ2 n0 φ lf) {ρ : Rho} : ∀ {a b v : List Value}, lReab2 n0 φ lf a b = true → LRel σ1 ρ a v → LRel σ2 (rho2 n0 φ ρ) b v
  | [], [], v, _, hv => by
    have := hv.1
    cases v with
    | nil => exact LRel.nil _
    | cons => simp at this
  | a :: l, b :: k, v, h, hv => by
    simp only [lReab2, Bool.and_eq_true] at h
    cases v with
    | nil => have := hv.1; simp at this
    | cons x v => exact LRel.cons (vReab_ok hl _ _ _ _ h.1 hv.head) (lReab2_ok hl h.2 hv.tail)
  | [], _ :: _, _, h, _ => by cases h
  | _ :: _, [], _, h, _ => by cases h

def eReab (n0 : Nat) (φ : Tr Nat) (lf : Value → Value → Bool) : List (Value × Value) → List (Value × Value) → Bool
  | [], [] => true
  | a :: l, b :: k => vReab n0 φ lf 8 a.1 b.1 && vReab n0 φ lf 8 a.2 b.2 && eReab n0 φ lf l k
  | _, _ => false

def pendSame : Option Exit → Option Exit → Bool
  | none, none => true
  | some .ret, some .ret => true
  | some (.exit i), some (.exit j) => i == j
  | _, _ => false
theorem pendSame_ok {a b : Option Exit} {c : Option Code} (h : pendSame a b = true) (hp : PendRel a c) : PendRel b c := by
  unfold pendSame at h
  split at h
  · exact hp
  · exact hp
  · obtain rfl := eq_of_beq h
    exact hp
  · cases h
def oReab (n0 : Nat) (φ : Tr Nat) (lf : Value → Value → Bool) : AObj → AObj → Bool
  | .cells c rw sz, .cells c' rw' sz' => c.n == c'.n && rw == rw' && sz == sz' && (List.range c.n).all fun i => vReab n0 φ lf 8 (c.get i) (c'.get i)
  | .map es rw, .map es' rw' => rw == rw' && eReab n0 φ lf es es'
  | .strIter s p, .strIter s' p' => s == s' && p == p'
  | .frz a, .frz b => a == b
  | .loop r, .loop r' => decide (r.state = r'.state) && pendSame r.pend r'.pend && decide (r.ps = r'.ps) && lReab2 n0 φ lf r.tmps r'.tmps
  | _, _ => false

def codesOf : AObj → Option (SCode × SCode)
  | .loop r => some (r.assign, r.body)
  | _ => none

theorem eReab_ok {φ : Tr Nat} {lf : Value → Value → Bool} (hl : LfOk σ1 σ2 n0 φ lf) {ρ : Rho} : ∀ {a b : List (Value × Value)}, eReab n0 φ lf a b = true → a.length = b.length ∧
    ∀ (i : Nat) (e : Value × Value), b[i]? = some e → ∃ e0, a[i]? = some e0 ∧ (∀ v, VRel σ1 ρ e0.1 v → VRel σ2 (rho2 n0 φ ρ) e.1 v) ∧ (∀ v, VRel σ1 ρ e0.2 v → VRel σ2 (rho2 n0 φ ρ) e.2 v)
  | [], [], _ => ⟨rfl, fun i e h => by simp at h⟩
  | a :: l, b :: k, h => by
    simp only [eReab, Bool.and_eq_true] at h
    obtain ⟨h1, h2⟩ := eReab_ok hl (ρ := ρ) h.2
    refine ⟨by simp [h1], fun i e he => ?_⟩
    cases i with
    | zero =>
      simp only [List.getElem?_cons_zero, Option.some.injEq] at he
      subst he
      exact ⟨a, rfl, fun v hv => vReab_ok hl _ _ _ _ h.1.1 hv, fun v hv => vReab_ok hl _ _ _ _ h.1.2 hv⟩
    | succ i => exact h2 i e (by simpa using he)
  | [], _ :: _, h => by cases h
  | _ :: _, [], h => by cases h

theorem oReab_ok {φ : Tr Nat} {lf : Value → Value → Bool} (hl : LfOk σ1 σ2 n0 φ lf) {ρ : Rho} {w : World} {x : Nat × Nat × Nat} {o o' : AObj} (h : oReab n0 φ lf o o' = true) (hc : codesOf o = codesOf o') (hR : ORel σ1 ρ w x o) : ORel σ2 (rho2 n0 φ ρ) w x o' ∧ wr o = wr o' := by
  unfold oReab at h
  split at h
  · rename_i c rw sz c' rw' sz'
    simp only [Bool.and_eq_true, beq_iff_eq, List.all_eq_true, List.mem_range] at h
    obtain ⟨⟨⟨h1, rfl⟩, rfl⟩, h4⟩ := h
    obtain ⟨cs', t, fz, g1, g2, g3, g4⟩ := hR
    refine ⟨⟨cs', t, fz, g1, by rw [Cells.list_length] at g2 ⊢; rw [← h1]; exact g2, g3, fun i hi => ?_⟩, rfl⟩
    rw [Cells.list_length, ← h1] at hi
    have k := g4 i (by rw [Cells.list_length]; exact hi)
    have e1 : ∀ (c : Cells), i < c.n → c.list.getD i undef = c.get i := fun c hc => by rw [List.getD_eq_getElem?_getD, Cells.list_get, if_pos hc]; rfl
    rw [e1 c hi] at k
    rw [e1 c' (h1 ▸ hi)]
    exact vReab_ok hl _ _ _ _ (h4 i hi) k
  · rename_i es rw es' rw'
    simp only [Bool.and_eq_true, beq_iff_eq] at h
    obtain ⟨rfl, h2⟩ := h
    obtain ⟨k1, k2⟩ := eReab_ok hl (ρ := ρ) h2
    obtain ⟨es1, c, g1, g2, g3, g4⟩ := hR
    refine ⟨⟨es1, c, g1, g2, k1.symm.trans g3, fun i e he => ?_⟩, rfl⟩
    obtain ⟨e0, j1, j2, j3⟩ := k2 i e he
    obtain ⟨e', i1, i2, i3⟩ := g4 i e0 j1
    exact ⟨e', i1, j2 _ i2, j3 _ i3⟩
  · simp only [Bool.and_eq_true, beq_iff_eq] at h
    obtain ⟨h1, rfl⟩ := h
    rw [ba_eq h1] at hR
    exact ⟨hR, rfl⟩
  · obtain rfl := eq_of_beq h
    obtain ⟨C, cs', t, fz, g1, g2, g3, g4⟩ := hR
    exact ⟨⟨C, cs', t, fz, hl.frz _ _ g1, g2, g3, g4⟩, rfl⟩
  · rename_i r r'
    simp only [Bool.and_eq_true, decide_eq_true_eq] at h
    obtain ⟨⟨⟨h1, h2⟩, h3⟩, h4⟩ := h
    simp only [codesOf, Option.some.injEq, Prod.mk.injEq] at hc
    obtain ⟨rr, g1, g2, g3, g4, g5, g6, g7⟩ := hR
    exact ⟨⟨rr, g1, g2.trans h1, pendSame_ok h2 g3, lReab2_ok hl h4 g4, g5.trans h3, g6.trans (by rw [hc.1]), g7.trans (by rw [hc.2])⟩, rfl⟩
  · cases h

/-! ### the whole state -/
def trOf : List (Nat × Nat) → Tr Nat
  | [] => .leaf
  | (n, o) :: l => Tr.put n (trOf l) n (some o)
theorem trOf_mem : ∀ {l : List (Nat × Nat)} {n o : Nat}, (trOf l).get n = some o → (n, o) ∈ l
  | [], n, o, h => by rw [trOf, Tr.get_leaf] at h; cases h
  | (a, b) :: l, n, o, h => by
    rw [trOf, Tr.get_put _ _ _ _ _ (Nat.le_refl _)] at h
    split at h
    · rename_i e
      simp only [Option.some.injEq] at h
      subst e h
      exact List.mem_cons_self
    · exact List.mem_cons_of_mem _ (trOf_mem h)

abbrev Spec := List (Nat × Nat × AObj)
def trObj : Spec → Tr AObj
  | [] => .leaf
  | (n, _, o) :: l => Tr.put n (trObj l) n (some o)
theorem trObj_mem : ∀ {l : Spec} {n : Nat} {o : AObj}, (trObj l).get n = some o → ∃ a, (n, a, o) ∈ l
  | [], n, o, h => by rw [trObj, Tr.get_leaf] at h; cases h
  | (a, b, c) :: l, n, o, h => by
    rw [trObj, Tr.get_put _ _ _ _ _ (Nat.le_refl _)] at h
    split at h
    · rename_i e
      simp only [Option.some.injEq] at h
      subst e h
      exact ⟨b, List.mem_cons_self⟩
    · obtain ⟨x, hx⟩ := trObj_mem h
      exact ⟨x, List.mem_cons_of_mem _ hx⟩
/-- The memory of the new blocks. -/
def memOf (next : Nat) (L : Spec) : Mem := ⟨next, trObj L⟩

def objAt (n0 : Nat) (m : Mem) (φ ψ : Tr Nat) (lf : Value → Value → Bool) (next : Nat) (e : Nat × Nat × AObj) : Bool :=
  (phi n0 φ e.1 == some e.2.1) && (match ψ.get e.2.1 with | some n => n == e.1 | none => false) && decide (e.1 < next) && match m.get e.2.1 with
  | some o => oReab n0 φ lf o e.2.2
  | none => false

def viewB (n0 : Nat) (lf : Value → Value → Bool) (Φ : List (Nat × Nat)) (Ψ : List (Nat × Nat)) (rd : Option Nat) (t1 : List Value) (m1 : Mem) (t2 : List Value) (next : Nat) (L : Spec) : Bool :=
  lReab2 n0 (trOf Φ) lf t1 t2 && L.all (objAt n0 m1 (trOf Φ) (trOf Ψ) lf next) && (Φ.all fun e => decide (e.1 < next)) && decide (64 ≤ n0) && decide (n0 ≤ next) && match rd with
  | none => true
  | some b => phi n0 (trOf Φ) b == some b

def codesAt (m : Mem) (L : Spec) : List (Option (SCode × SCode)) := L.map fun e => match m.get e.2.1 with
  | some o => codesOf o
  | none => none
def codesIn (L : Spec) : List (Option (SCode × SCode)) := L.map fun e => codesOf e.2.2

theorem view_ok {lf : Value → Value → Bool} {Φ Ψ : List (Nat × Nat)} (hl : LfOk σ1 σ2 n0 (trOf Φ) lf) {rd : Option Nat} {t1 t2 : List Value} {m1 : Mem} {next : Nat} {L : Spec} (h : viewB n0 lf Φ Ψ rd t1 m1 t2 next L = true) (hc : codesAt m1 L = codesIn L) :
    View σ1 σ2 n0 rd t1 m1 t2 (memOf next L) := by
  intro ρ w ts l hR ht hrd
  simp only [viewB, Bool.and_eq_true, List.all_eq_true, decide_eq_true_eq] at h
  obtain ⟨⟨⟨⟨⟨h1, h2⟩, h3⟩, h40⟩, h4⟩, h5⟩ := h
  have key : ∀ b o, (memOf next L).get b = some o → ∃ a o1, phi n0 (trOf Φ) b = some a ∧ (trOf Ψ).get a = some b ∧ True ∧ b < next ∧ m1.get a = some o1 ∧ rho2 n0 (trOf Φ) ρ b = ρ a ∧ (oReab n0 (trOf Φ) lf o1 o = true ∧ codesOf o1 = codesOf o) := by
    intro b o hb
    obtain ⟨a, ha⟩ := trObj_mem (show (trObj L).get b = some o from hb)
    have hx := h2 _ ha
    simp only [objAt, Bool.and_eq_true, decide_eq_true_eq] at hx
    obtain ⟨⟨⟨x1, x2⟩, x4⟩, x5⟩ := hx
    have y1 : phi n0 (trOf Φ) b = some a := eq_of_beq x1
    have y2 : (trOf Ψ).get a = some b := by
      split at x2
      · rename_i e; rw [e, eq_of_beq x2]
      · cases x2
    cases hm : m1.get a with
    | none => simp only [hm] at x5; cases x5
    | some o1 =>
      simp only [hm] at x5
      refine ⟨a, o1, y1, y2, trivial, x4, hm, ?_, x5, ?_⟩
      · simp only [rho2, y1, Option.bind_some]
      · obtain ⟨i, hi, he⟩ := List.getElem_of_mem ha
        have := congrArg (·[i]?) hc
        simp only [codesAt, codesIn, List.getElem?_map, List.getElem?_eq_getElem hi, he, Option.map_some, hm, Option.some.injEq] at this
        exact this
  refine ⟨rho2 n0 (trOf Φ) ρ, ⟨fun b hb => ?_, fun g hg => ?_, fun b o x hb hx => ?_, fun b1 b2 o1 o2 x1 x2 hne g1 g2 k1 k2 hw => ?_, fun b hb => ?_⟩, lReab2_ok hl h1 ht, ?_, fun b hb => by simp only [rho2, phi, if_pos hb, Option.bind_some], fun b o x hb hx => ?_⟩
  · have hb : next ≤ b := hb
    simp only [rho2, phi]
    rw [if_neg (by omega)]
    cases hg : (trOf Φ).get b with
    | none => rfl
    | some o => have := h3 _ (trOf_mem hg); simp only at this; omega
  · simp only [rho2, phi]
    rw [if_pos (by omega)]
    exact hR.glob g hg
  · obtain ⟨a, o1, y1, y2, y3, y4, y5, y6, y7⟩ := key b o hb
    rw [y6] at hx
    exact (oReab_ok hl y7.1 y7.2 (hR.obj a o1 x y5 hx)).1
  · obtain ⟨a1, p1, y1, y2, y3, y4, y5, y6, y7⟩ := key b1 o1 g1
    obtain ⟨a2, p2, z1, z2, z3, z4, z5, z6, z7⟩ := key b2 o2 g2
    rw [y6] at k1
    rw [z6] at k2
    have hne' : a1 ≠ a2 := fun e => by subst e; rw [y2] at z2; cases z2; exact hne rfl
    refine hR.inj a1 a2 p1 p2 x1 x2 hne' y5 z5 k1 k2 ?_
    rw [(oReab_ok hl y7.1 y7.2 (hR.obj a1 p1 x1 y5 k1)).2]
    exact hw
  · have hb : next ≤ b := hb
    cases hg : (memOf next L).get b with
    | none => rfl
    | some o =>
      obtain ⟨a, o1, y1, y2, y3, y4, _⟩ := key b o hg
      omega
  · cases rd with
    | none => cases l with
      | none => trivial
      | some l => exact hrd.elim
    | some b =>
      cases l with
      | none => exact hrd.elim
      | some l =>
        obtain ⟨off, sl, hx⟩ := hrd
        simp only [beq_iff_eq] at h5
        exact ⟨off, sl, by simp only [rho2, h5, Option.bind_some]; exact hx⟩
  · obtain ⟨a, o1, y1, y2, y3, y4, y5, y6, y7⟩ := key b o hb
    rw [y6] at hx
    exact ⟨a, o1, x, y5, hx, rfl, (oReab_ok hl y7.1 y7.2 (hR.obj a o1 x y5 hx)).2⟩

end
end Go.Ab
