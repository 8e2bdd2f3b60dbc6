/- An interpreter of our own: calls of a great run that were shown apart from it, in a table. -/
import Derived.Test.YtijnhaadhgoloaaGreatDoorAbPT
namespace Go.Ab
noncomputable section
variable {σ : Sig} {P : Program}

/-! ### equality -/
def kN : IntKind → Nat
  | .i8 => 0 | .i16 => 1 | .i32 => 2 | .i64 => 3 | .u8 => 4 | .u16 => 5 | .u32 => 6 | .u64 => 7
theorem kN_eq {k l : IntKind} (h : Nat.beq (kN k) (kN l) = true) : k = l := by
  have := Nat.eq_of_beq_eq_true h
  cases k <;> cases l <;> first | rfl | (exfalso; revert this; decide)
def iQ (a b : Int) : Bool := match a, b with
  | .ofNat x, .ofNat y => Nat.beq x y
  | .negSucc x, .negSucc y => Nat.beq x y
  | _, _ => false
theorem iQ_eq {a b : Int} (h : iQ a b = true) : a = b := by
  unfold iQ at h
  split at h
  · rw [Nat.eq_of_beq_eq_true h]
  · rw [Nat.eq_of_beq_eq_true h]
  · cases h
def adQ (a b : Option Addr) : Bool := match a, b with
  | none, none => true
  | some ⟨x, o, none⟩, some ⟨y, p, none⟩ => Nat.beq x y && Nat.beq o p
  | _, _ => false
theorem adQ_eq {a b : Option Addr} (h : adQ a b = true) : a = b := by
  unfold adQ at h
  split at h
  · rfl
  · simp only [Bool.and_eq_true] at h
    rw [Nat.eq_of_beq_eq_true h.1, Nat.eq_of_beq_eq_true h.2]
  · cases h
def vQ (a b : Value) : Bool := match a with
  | .int k x => (match b with
    | .int l y => iQ x y && Nat.beq (kN k) (kN l)
    | _ => false)
  | .pointer x => (match b with
    | .pointer y => adQ x y
    | _ => false)
  | .bool x => (match b with
    | .bool y => x == y
    | _ => false)
  | .slice x n c => (match b with
    | .slice y n' c' => adQ x y && (Nat.beq n n' && Nat.beq c c')
    | _ => false)
  | a => vEq a b
theorem vQ_eq {a b : Value} (h : vQ a b = true) : a = b := by
  unfold vQ at h
  split at h
  · split at h
    · simp only [Bool.and_eq_true] at h
      rw [iQ_eq h.1, kN_eq h.2]
    · cases h
  · split at h
    · rw [adQ_eq h]
    · cases h
  · split at h
    · simp only [beq_iff_eq] at h
      rw [h]
    · cases h
  · split at h
    · simp only [Bool.and_eq_true] at h
      rw [adQ_eq h.1, Nat.eq_of_beq_eq_true h.2.1, Nat.eq_of_beq_eq_true h.2.2]
    · cases h
  · exact vEq_eq h
def vsQ : List Value → List Value → Bool
  | [], [] => true
  | a :: l, b :: k => vQ a b && vsQ l k
  | _, _ => false
theorem vsQ_eq : ∀ {a b : List Value}, vsQ a b = true → a = b
  | [], [], _ => rfl
  | [], _ :: _, h => by cases h
  | _ :: _, [], h => by cases h
  | a :: l, b :: k, h => by
    simp only [vsQ, Bool.and_eq_true] at h
    rw [vQ_eq h.1, vsQ_eq h.2]
def oQ (a b : Option Value) : Bool := match a, b with
  | none, none => true
  | some x, some y => vQ x y
  | _, _ => false
theorem oQ_eq {a b : Option Value} (h : oQ a b = true) : a = b := by
  unfold oQ at h
  split at h
  · rfl
  · rw [vQ_eq h]
  · cases h
def trQ (t : Tr Value) : Tr Value → Bool :=
  Tr.rec (motive := fun _ => Tr Value → Bool)
    (fun u => Tr.rec (motive := fun _ => Bool) true (fun _ _ _ _ _ => false) u)
    (fun v _ _ hl hr u => Tr.rec (motive := fun _ => Bool) false (fun w l r _ _ => oQ v w && (hl l && hr r)) u) t
theorem trQ_eq : ∀ {t u : Tr Value}, trQ t u = true → t = u := by
  intro t
  induction t with
  | leaf => intro u h; cases u with
    | leaf => rfl
    | node => cases h
  | node v l r h1 h2 => intro u h; cases u with
    | leaf => cases h
    | node w l' r' =>
      have h' : (oQ v w && (trQ l l' && trQ r r')) = true := h
      simp only [Bool.and_eq_true] at h'
      rw [oQ_eq h'.1, h1 h'.2.1, h2 h'.2.2]
def esQ : List (Value × Value) → List (Value × Value) → Bool
  | [], [] => true
  | a :: l, b :: k => vQ a.1 b.1 && (vQ a.2 b.2 && esQ l k)
  | _, _ => false
theorem esQ_eq : ∀ {a b : List (Value × Value)}, esQ a b = true → a = b
  | [], [], _ => rfl
  | [], _ :: _, h => by cases h
  | _ :: _, [], h => by cases h
  | (a, a') :: l, (b, b') :: k, h => by
    simp only [esQ, Bool.and_eq_true] at h
    rw [vQ_eq h.1, vQ_eq h.2.1, esQ_eq h.2.2]
def abQ (a b : AObj) : Bool := match a, b with
  | .cells ⟨n, d, t⟩ w s, .cells ⟨n', d', t'⟩ w' s' => Nat.beq n n' && (vQ d d' && (trQ t t' && (w == w' && Nat.beq s s')))
  | .map es w, .map es' w' => esQ es es' && w == w'
  | _, _ => false
theorem abQ_eq {a b : AObj} (h : abQ a b = true) : a = b := by
  unfold abQ at h
  split at h
  · simp only [Bool.and_eq_true, beq_iff_eq] at h
    rw [Nat.eq_of_beq_eq_true h.1, vQ_eq h.2.1, trQ_eq h.2.2.1, h.2.2.2.1, Nat.eq_of_beq_eq_true h.2.2.2.2]
  · simp only [Bool.and_eq_true, beq_iff_eq] at h
    rw [esQ_eq h.1, h.2]
  · cases h

/-! ### short words -/
abbrev wI (n : Int) : Value := .int .i64 n
abbrev wU (n : Int) : Value := .int .u32 n
abbrev wB (n : Int) : Value := .int .u8 n
abbrev wP : Value := .pointer none
abbrev wA (b o : Nat) : Value := .pointer (some ⟨b, o, none⟩)
abbrev wL (b o n c : Nat) : Value := .slice (some ⟨b, o, none⟩) n c
abbrev wS (l : List UInt8) : Value := .string ⟨l.toArray⟩
def runs : List (Nat × Value) → List Value
  | [] => []
  | (n, v) :: l => List.replicate n v ++ runs l
def oF (l : List (Nat × Value)) (d : Value) (w : Bool) (s : Nat) : AObj := match runs l with
  | r => .cells ⟨r.length, d, Cells.putAll .leaf 0 r⟩ w s
def putS : List (Nat × Value) → Tr Value
  | [] => .leaf
  | (i, v) :: l => Tr.put i (putS l) i (some v)
def oS (n : Nat) (d : Value) (l : List (Nat × Value)) (w : Bool) (s : Nat) : AObj := .cells ⟨n, d, putS l⟩ w s

/-! ### blocks in a list -/
abbrev Blks := List (Nat × AObj)
abbrev BlkO := List (Nat × Option AObj)
def putL (t : Tr AObj) : Blks → Tr AObj
  | [] => t
  | (b, o) :: l => Tr.put b (putL t l) b (some o)
theorem get_putL : ∀ {l : Blks} {b : Nat} {o : AObj}, (putL .leaf l).get b = some o → (b, o) ∈ l
  | [], b, o, h => by rw [putL, Tr.get_leaf] at h; cases h
  | (c, x) :: l, b, o, h => by
    rw [putL, Tr.get_put _ _ _ _ _ (Nat.le_refl c)] at h
    split at h
    · rename_i e
      cases h
      simp [e]
    · exact List.mem_cons_of_mem _ (get_putL h)
def putO (t : Tr AObj) : BlkO → Tr AObj
  | [] => t
  | (b, o) :: l => Tr.put b (putO t l) b o
theorem get_putO {t : Tr AObj} : ∀ {l : BlkO} {b : Nat} {o : AObj}, (putO t l).get b = some o → (b, some o) ∈ l ∨ (t.get b = some o ∧ ∀ o', (b, o') ∉ l)
  | [], b, o, h => .inr ⟨h, fun _ h => by cases h⟩
  | (c, x) :: l, b, o, h => by
    rw [putO, Tr.get_put _ _ _ _ _ (Nat.le_refl c)] at h
    split at h
    · rename_i e
      exact .inl (by simp [e, ← h])
    · rename_i e
      rcases get_putO h with h1 | ⟨h1, h2⟩
      · exact .inl (List.mem_cons_of_mem _ h1)
      · exact .inr ⟨h1, fun o' ho => (List.mem_cons.1 ho).elim (fun e2 => by cases e2; exact e rfl) (h2 o')⟩
theorem putO_none {t : Tr AObj} : ∀ {l : BlkO} {b : Nat}, t.get b = none → (∀ o, (b, o) ∉ l) → (putO t l).get b = none
  | [], _, h, _ => h
  | (c, x) :: l, b, h, hn => by
    rw [putO, Tr.get_put _ _ _ _ _ (Nat.le_refl c), if_neg (fun e => hn x (by simp [e]))]
    exact putO_none h fun o ho => hn o (List.mem_cons_of_mem _ ho)
def subL (t : Tr AObj) : Blks → Bool
  | [] => true
  | (b, o) :: l => (match t.get b with
    | some o' => abQ o' o
    | none => false) && subL t l
theorem subL_get {t : Tr AObj} : ∀ {l : Blks}, subL t l = true → ∀ q ∈ l, t.get q.1 = some q.2
  | [], _, q, hq => by cases hq
  | (b, o) :: l, h, q, hq => by
    simp only [subL, Bool.and_eq_true] at h
    rcases List.mem_cons.1 hq with rfl | hq
    · cases hg : t.get b with
      | none => rw [hg] at h; exact absurd h.1 (by simp)
      | some o' => rw [hg] at h; rw [abQ_eq h.1]
    · exact subL_get h.2 q hq
def subO (t : Tr AObj) : BlkO → Bool
  | [] => true
  | (b, o) :: l => (match o with
    | none => true
    | some o => match t.get b with
      | some o' => abQ o' o
      | none => false) && subO t l
theorem subO_get {t : Tr AObj} : ∀ {l : BlkO}, subO t l = true → ∀ b o, (b, some o) ∈ l → t.get b = some o
  | [], _, _, _, hq => by cases hq
  | (b, x) :: l, h, c, o, hq => by
    simp only [subO, Bool.and_eq_true] at h
    rcases List.mem_cons.1 hq with e | hq
    · cases e
      cases hg : t.get b with
      | none => rw [hg] at h; exact absurd h.1 (by simp)
      | some o' => rw [hg] at h; rw [abQ_eq h.1]
    · exact subO_get h.2 c o hq
def hasK {α : Type} (l : List (Nat × α)) (b : Nat) : Bool := match l with
  | [] => false
  | (c, _) :: l => Nat.beq c b || hasK l b
theorem hasK_iff {α : Type} : ∀ {l : List (Nat × α)} {b : Nat}, hasK l b = true ↔ ∃ o, (b, o) ∈ l
  | [], b => by simp [hasK]
  | (c, x) :: l, b => by
    simp only [hasK, Bool.or_eq_true, hasK_iff, List.mem_cons, Prod.mk.injEq]
    constructor
    · rintro (h | ⟨o, h⟩)
      · exact ⟨x, .inl ⟨(Nat.eq_of_beq_eq_true h).symm, rfl⟩⟩
      · exact ⟨o, .inr h⟩
    · rintro ⟨o, ⟨rfl, rfl⟩ | h⟩
      · exact .inl (Nat.beq_refl _)
      · exact .inr ⟨o, h⟩

/-! ### a call, as it was shown -/
structure Entry where
  next : Nat
  args : List Value
  need : Blks
  v : Value
  next' : Nat
  outs : BlkO
def Entry.mem (e : Entry) : Mem := ⟨e.next, putL .leaf e.need⟩
def Entry.out (e : Entry) (m : Mem) : Mem := ⟨e.next', putO m.tr e.outs⟩
def keptL (outs : BlkO) (t : Tr AObj) : Blks → Bool
  | [] => true
  | (b, o) :: l => (hasK outs b || (match t.get b with
    | some o' => abQ o' o
    | none => false)) && keptL outs t l
theorem keptL_get {outs : BlkO} {t : Tr AObj} : ∀ {l : Blks}, keptL outs t l = true → ∀ q ∈ l, hasK outs q.1 = false → t.get q.1 = some q.2
  | [], _, q, hq, _ => by cases hq
  | (b, o) :: l, h, q, hq, hn => by
    simp only [keptL, Bool.and_eq_true] at h
    rcases List.mem_cons.1 hq with rfl | hq
    · rw [hn] at h
      cases hg : t.get b with
      | none => rw [hg] at h; exact absurd h.1 (by simp)
      | some o' =>
        rw [hg] at h
        have h1 : abQ o' o = true := by simpa using h.1
        rw [abQ_eq h1]
    · exact keptL_get h.2 q hq hn
def okOuts (e : Entry) : BlkO → Bool
  | [] => true
  | (b, _) :: l => (Nat.ble e.next b || hasK e.need b) && okOuts e l
theorem okOuts_mem {e : Entry} : ∀ {l : BlkO}, okOuts e l = true → ∀ q ∈ l, e.next ≤ q.1 ∨ hasK e.need q.1 = true
  | [], _, q, hq => by cases hq
  | (b, o) :: l, h, q, hq => by
    simp only [okOuts, Bool.and_eq_true, Bool.or_eq_true] at h
    rcases List.mem_cons.1 hq with rfl | hq
    · exact h.1.imp Nat.le_of_ble_eq_true id
    · exact okOuts_mem h.2 q hq
/-- The call, run in a memory that holds but what it needs, comes to what the entry says. -/
def partB (E : Env) (n : Nat) (f : FuncId) (e : Entry) : Bool := match runF E n (.call f e.args) e.mem with
  | some (.val v, ⟨nx, t⟩) => vQ v e.v && (Nat.beq nx e.next' && (Nat.ble e.next e.next' && (subO t e.outs && (keptL e.outs t e.need && okOuts e e.outs))))
  | _ => false
structure EntryOk (σ : Sig) (P : Program) (f : FuncId) (e : Entry) : Prop where
  call : ∃ m', CallOk σ P f e.args e.mem e.v m' ∧ m'.next = e.next' ∧ (∀ b o, (b, some o) ∈ e.outs → m'.get b = some o) ∧ ∀ q ∈ e.need, hasK e.outs q.1 = false → m'.get q.1 = some q.2
  le : e.next ≤ e.next'
  outs : ∀ q ∈ e.outs, e.next ≤ q.1 ∨ hasK e.need q.1 = true
theorem partB_ok {E : Env} (h : Sure σ E) {n : Nat} {f : FuncId} {e : Entry} (hp : partB E n f e = true) : EntryOk σ E.P f e := by
  unfold partB at hp
  split at hp
  · rename_i v nx t hr
    simp only [Bool.and_eq_true] at hp
    obtain ⟨h1, h2, h3, h4, h5, h6⟩ := hp
    obtain rfl := vQ_eq h1
    obtain rfl := Nat.eq_of_beq_eq_true h2
    exact ⟨⟨_, (run_ok h n).call f _ _ _ _ (runF_call hr), rfl, subO_get h4, keptL_get h5⟩, Nat.le_of_ble_eq_true h3, okOuts_mem h6⟩
  · cases hp
def findE : List Entry → Nat → Option Entry
  | [], _ => none
  | e :: l, k => bif Nat.beq e.next k then some e else findE l k
theorem findE_mem : ∀ {l : List Entry} {k : Nat} {e : Entry}, findE l k = some e → e ∈ l ∧ e.next = k
  | [], _, _, h => by cases h
  | x :: l, k, e, h => by
    unfold findE at h
    cases hb : Nat.beq x.next k with
    | true =>
      rw [hb] at h
      cases h
      exact ⟨List.mem_cons_self, Nat.eq_of_beq_eq_true hb⟩
    | false =>
      rw [hb] at h
      obtain ⟨h1, h2⟩ := findE_mem h
      exact ⟨List.mem_cons_of_mem _ h1, h2⟩
/-- Of one function: its calls, as they were shown. -/
def tabP (tab : List Entry) (args : List Value) (m : Mem) : Option (Value × Mem) := match findE tab m.next with
  | some e => bif vsQ e.args args && subL m.tr e.need then some (e.v, e.out m) else none
  | none => none
theorem Entry.grow {f : FuncId} {e : Entry} (he : EntryOk σ P f e) {m : Mem} (hn : e.next = m.next) (hs : subL m.tr e.need = true) : Grow m (e.out m) := by
  refine ⟨hn ▸ he.le, fun b hb hm => putO_none hm fun o ho => ?_⟩
  rcases he.outs _ ho with h1 | h1
  · have h2 : e.next ≤ b := h1
    omega
  · obtain ⟨o', h2⟩ := hasK_iff.1 h1
    have := subL_get hs _ h2
    have h3 : m.get b = some o' := this
    rw [h3] at hm
    cases hm
theorem EntryOk.lift {f : FuncId} {e : Entry} (he : EntryOk σ P f e) {m : Mem} (hn : e.next = m.next) (hs : subL m.tr e.need = true) : CallOk σ P f e.args m e.v (e.out m) := by
  obtain ⟨m', h1, h2, h3, h4⟩ := he.call
  have hg : ∀ b o, e.mem.get b = some o → (b, o) ∈ e.need := fun b o h => get_putL h
  refine h1.lift ⟨hn, fun b o hb => ⟨o, subL_get hs _ (hg b o hb), OSim.rfl⟩⟩ ⟨h2.symm, fun b o hb => ?_⟩
  rcases get_putO (l := e.outs) (t := m.tr) hb with h5 | ⟨h5, h6⟩
  · exact .inl ⟨o, h3 _ _ h5, OSim.rfl⟩
  · cases h7 : e.mem.get b with
    | none => exact .inr ⟨h5, rfl⟩
    | some o0 =>
      have h8 := hg b o0 h7
      have h9 : m.get b = some o0 := subL_get hs _ h8
      have h10 : m.get b = some o := h5
      rw [h9] at h10
      cases h10
      refine .inl ⟨_, h4 _ h8 ?_, OSim.rfl⟩
      cases hk : hasK e.outs b with
      | false => rfl
      | true => obtain ⟨o', h11⟩ := hasK_iff.1 hk; exact absurd h11 (h6 o')
theorem tabP_ok {f : FuncId} {tab : List Entry} (ht : ∀ e ∈ tab, EntryOk σ P f e) {args : List Value} {m m' : Mem} {v : Value} (h : tabP tab args m = some (v, m')) : CallOk σ P f args m v m' ∧ Grow m m' := by
  unfold tabP at h
  split at h
  · rename_i e he
    obtain ⟨h1, h2⟩ := findE_mem he
    cases hb : vsQ e.args args && subL m.tr e.need with
    | false => rw [hb] at h; cases h
    | true =>
      rw [hb] at h
      simp only [Bool.and_eq_true] at hb
      cases h
      rw [← vsQ_eq hb.1]
      exact ⟨(ht e h1).lift h2 hb.2, Entry.grow (ht e h1) h2 hb.2⟩
  · cases h
/-- The interpreter, some function's calls by a table. -/
def withTab (E : Env) (f : FuncId) (tab : List Entry) : Env := { E with prim := fun g => bif Nat.beq g f then some (tabP tab) else E.prim g }
theorem withTab_sure {E : Env} (h : Sure σ E) (hs : E.sym = fun _ _ => none) {f : FuncId} {tab : List Entry} (ht : ∀ e ∈ tab, EntryOk σ E.P f e) : Sure σ (withTab E f tab) := by
  have key : ∀ g p args m v m', (withTab E f tab).prim g = some p → p args m = some (v, m') → CallOk σ E.P g args m v m' ∧ Grow m m' := fun g p args m v m' h1 h2 => by
    simp only [withTab] at h1
    cases hb : Nat.beq g f with
    | true =>
      rw [hb] at h1
      simp only [cond_true, Option.some.injEq] at h1
      subst h1
      obtain rfl := Nat.eq_of_beq_eq_true hb
      exact tabP_ok ht h2
    | false =>
      rw [hb] at h1
      simp only [cond_false] at h1
      exact ⟨h.prim g p args m v m' h1 h2, h.grow g p args m v m' h1 h2⟩
  exact ⟨h.eqv, fun o r v hv => (by have : E.sym o r = some v := hv; rw [hs] at this; cases this), h.mixed, fun g p args m v m' h1 h2 => (key g p args m v m' h1 h2).1, fun g p args m v m' h1 h2 => (key g p args m v m' h1 h2).2⟩
end
end Go.Ab
