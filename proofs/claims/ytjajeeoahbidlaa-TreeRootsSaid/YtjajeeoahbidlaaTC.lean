/- Runs on open terms: one operation after the other, for 'simp'. -/
import Derived.Test.YtjajeeoahbidlaaTB
import Derived.Test.YtjajeeoahbidlaaAbZ4
namespace Go.Ab
noncomputable section
variable {P : Program} {E : Env} {n0 : Nat} {base i : Nat} {rest : List (Nat × SOp)} {L : List Inst} {t : List Value} {m : Mem} {Q : List Inst → List Value → Mem → Prop} {ty rt : TypeId} {d : Tmp}

def okP {α : Type} (x : Option α) (k : α → Prop) : Prop := match x with
  | some a => k a
  | none => False
theorem okP_some {α : Type} (a : α) (k : α → Prop) : okP (some a) k = k a := rfl
theorem okP_iff {α : Type} {x : Option α} {k : α → Prop} : okP x k ↔ ∃ a, x = some a ∧ k a := by
  cases x <;> simp [okP]
theorem okP_map {α β : Type} {x : Option α} {f : α → β} {k : β → Prop} : okP (x.map f) k ↔ okP x fun a => k (f a) := by
  cases x <;> simp [okP]

theorem XW_nil : XW E base [] L t m Q = Q L t m := rfl
theorem reqA_none {o : SOp} (h : cls o.op ≠ .eff) (r : Operand → Value) : reqA P o r m = none := by
  unfold reqA
  split
  · rename_i hc; exact absurd hc h
  · rfl
theorem XW_pure {o : SOp} (hg : o.guard = none) (hc : cls o.op = .pure) : XW E base ((i, o) :: rest) L t m Q ↔ okP (pureE E o (ev · t)) fun v => XW E base rest L (putT o.dst v t) m Q := by
  rw [XW, hg, okP_iff]
  simp only [gOk, wanted, StepX, opA, hc, reqA_none (o := o) (by rw [hc]; simp), true_and, Bool.true_eq_false, false_and, or_false, reduceCtorEq, exists_false]
  constructor
  · rintro ⟨v, m', h1, h2⟩
    split at h1
    · rename_i u hu
      cases h1
      exact ⟨_, hu, h2⟩
    · cases h1
  · rintro ⟨v, h1, h2⟩
    exact ⟨v, m, by rw [h1], h2⟩
theorem XW_read {o : SOp} (hg : o.guard = none) (hc : cls o.op = .read) : XW E base ((i, o) :: rest) L t m Q ↔ okP (readE E o (ev · t) m) fun v => XW E base rest L (putT o.dst v t) m Q := by
  rw [XW, hg, okP_iff]
  simp only [gOk, wanted, StepX, opA, hc, reqA_none (o := o) (by rw [hc]; simp), true_and, Bool.true_eq_false, false_and, or_false, reduceCtorEq, exists_false]
  constructor
  · rintro ⟨v, m', h1, h2⟩
    split at h1
    · rename_i u hu
      cases h1
      exact ⟨_, hu, h2⟩
    · cases h1
  · rintro ⟨v, h1, h2⟩
    exact ⟨v, m, by rw [h1], h2⟩
theorem XW_make {o : SOp} (hg : o.guard = none) (hc : cls o.op = .make) : XW E base ((i, o) :: rest) L t m Q ↔ okP (makeA E.P o (ev · t)) fun q => XW E base rest L (putT o.dst (q.2 (base + i)) t) (m.put (base + i) q.1) Q := by
  rw [XW, hg, okP_iff]
  simp only [gOk, wanted, StepX, opA, hc, reqA_none (o := o) (by rw [hc]; simp), true_and, Bool.true_eq_false, false_and, or_false, reduceCtorEq, exists_false]
  constructor
  · rintro ⟨v, m', h1, h2⟩
    split at h1
    · rename_i u hu
      cases h1
      exact ⟨_, hu, h2⟩
    · cases h1
  · rintro ⟨v, h1, h2⟩
    exact ⟨_, _, by rw [h1], h2⟩
/-- An operation that turns memory, no call. -/
theorem XW_val {o : SOp} {q : Option (Value × Mem)} (hg : o.guard = none) (hc : cls o.op = .eff) (he : effA E.P (base + i) o (ev · t) m = q.map fun p => (.val p.1, p.2)) (hr : reqA E.P o (ev · t) m = none) :
    XW E base ((i, o) :: rest) L t m Q ↔ okP q fun p => XW E base rest L (putT o.dst p.1 t) p.2 Q := by
  rw [XW, hg, okP_iff]
  simp only [gOk, wanted, StepX, opA, hc, hr, he, true_and, Bool.true_eq_false, false_and, or_false, reduceCtorEq, exists_false]
  constructor
  · rintro ⟨v, m', h1, h2⟩
    cases q with
    | none => cases h1
    | some p => cases h1; exact ⟨p, rfl, h2⟩
  · rintro ⟨p, rfl, h2⟩
    exact ⟨p.1, p.2, rfl, h2⟩
/-- A call. -/
def CallW (E : Env) (L : List Inst) (tk : Task) (m : Mem) (K : List Inst → Value → Mem → Prop) : Prop := ∃ v m2, (⟨tk, m, v, m2⟩ : Inst).Ok E.P ∧ (∀ c ∈ L, c.tk = tk → c.m = m → c.v = v ∧ c.m' = m2) ∧ K (⟨tk, m, v, m2⟩ :: L) v m2
theorem XW_task {o : SOp} {tk : Task} {m1 : Mem} (hg : o.guard = none) (hr : reqA E.P o (ev · t) m = some (tk, m1)) (h : CallW E L tk m1 fun L' v m' => XW E base rest L' (putT o.dst v t) m' Q) : XW E base ((i, o) :: rest) L t m Q := by
  rw [XW, hg]
  obtain ⟨v, m2, h1, h2, h3⟩ := h
  exact ⟨rfl, .inl ⟨rfl, .inr ⟨tk, m1, v, m2, hr, h1, h2, h3⟩⟩⟩

/-! the single operations -/
theorem XW_move {x : Operand} : XW E base ((i, ⟨some d, .move x, ty, none⟩) :: rest) L t m Q ↔ XW E base rest L (t.set d (ev x t)) m Q := XW_pure rfl rfl
theorem XW_assign {x : Operand} : XW E base ((i, ⟨some d, .assign x, ty, none⟩) :: rest) L t m Q ↔ XW E base rest L (t.set d (ev x t)) m Q := XW_pure rfl rfl
def pickV (c a b : Value) : Option Value := match c with
  | .bool c => some (if c then a else b)
  | _ => none
theorem pickV_bool {c : Bool} {a b : Value} : pickV (.bool c) a b = some (if c then a else b) := rfl
theorem pureE_none {o : SOp} {r : Operand → Value} (hs : ∀ o r, E.sym o r = none) : pureE E o r = pureA E.P o r := by
  unfold pureE
  cases pureA E.P o r with
  | none => exact hs o r
  | some v => rfl
theorem readE_none {o : SOp} {r : Operand → Value} (hs : ∀ o r, E.sym o r = none) : readE E o r m = readA E.P o r m := by
  unfold readE
  cases readA E.P o r m with
  | none => exact hs o r
  | some v => rfl
variable (hs : ∀ o r, E.sym o r = none)
include hs
/-! guards -/
def GD (c : Value) (b : Bool) (A B : Prop) : Prop := gOk (some (0, b)) [c] = true ∧ match c with
  | .bool c => (c = b → A) ∧ (c ≠ b → B)
  | _ => B
omit hs in
theorem GD_bool (c b : Bool) (A B : Prop) : GD (.bool c) b A B ↔ ((c = b → A) ∧ (c ≠ b → B)) := by
  unfold GD
  exact ⟨fun h => h.2, fun h => ⟨rfl, h⟩⟩
theorem opA_guard {self : Self} {id : Nat} {dst : Option Tmp} {op : Op} {g : Option (Tmp × Bool)} : opA E self id ⟨dst, op, ty, g⟩ t m = opA E self id ⟨dst, op, ty, none⟩ t m := by
  unfold opA
  simp only [pureE_none hs, readE_none hs]
  rfl
omit hs in
theorem reqA_guard {dst : Option Tmp} {op : Op} {g : Option (Tmp × Bool)} {r : Operand → Value} : reqA P ⟨dst, op, ty, g⟩ r m = reqA P ⟨dst, op, ty, none⟩ r m := rfl
theorem XW_guard {dst : Option Tmp} {op : Op} {g : Tmp} {b : Bool} : XW E base ((i, ⟨dst, op, ty, some (g, b)⟩) :: rest) L t m Q ↔ GD (t.getD g undef) b (XW E base ((i, ⟨dst, op, ty, none⟩) :: rest) L t m Q) (XW E base rest L (putT dst undef t) m Q) := by
  have e1 : gOk (some (g, b)) t = gOk (some (0, b)) [t.getD g undef] := rfl
  have e2 : wanted (some (g, b)) t = wanted (some (0, b)) [t.getD g undef] := rfl
  have e3 : ∀ K, StepX E L (base + i) ⟨dst, op, ty, some (g, b)⟩ t m K ↔ StepX E L (base + i) ⟨dst, op, ty, none⟩ t m K := fun K => by
    unfold StepX
    rw [opA_guard hs, reqA_guard]
  have hx : ∀ (o : SOp), XW E base ((i, o) :: rest) L t m Q = (gOk o.guard t = true ∧ ((wanted o.guard t = true ∧ StepX E L (base + i) o t m fun L' v m' => XW E base rest L' (putT o.dst v t) m' Q) ∨ (wanted o.guard t = false ∧ XW E base rest L (putT o.dst undef t) m Q))) := fun _ => rfl
  rw [hx, hx]
  simp only [e1, e2, e3]
  generalize XW E base rest L (putT dst undef t) m Q = B
  generalize (StepX E L (base + i) { dst := dst, op := op, type := ty, guard := none } t m fun L' v m' => XW E base rest L' (putT dst v t) m' Q) = A
  unfold GD
  simp only [gOk, wanted, true_and, Bool.true_eq_false, false_and, or_false]
  refine and_congr_right fun hg => ?_
  cases hc : t.getD g undef with
  | bool c =>
    simp only [List.getD_cons_zero]
    by_cases e : c = b
    · simp [e]
    · simp [e]
  | _ => simp
theorem XW_pick {a b c : Operand} : XW E base ((i, ⟨some d, .pick c a b, ty, none⟩) :: rest) L t m Q ↔ okP (pickV (ev c t) (ev a t) (ev b t)) fun v => XW E base rest L (t.set d v) m Q := by
  rw [XW_pure rfl rfl, pureE_none hs]
  cases h : ev c t <;> simp only [pureA, h, pickV] <;> rfl
def binV (P : Program) (op : BinOp) (ty : TypeId) (x y : Value) : Option Value := if plain x && plain y then runV P (binOp op ty x y) else none
theorem XW_bin {op : BinOp} {yt : TypeId} {x y : Operand} (h : isCmp op = false) : XW E base ((i, ⟨some d, .binOp op ty x y yt, rt, none⟩) :: rest) L t m Q ↔ okP (binV E.P op ty (ev x t) (ev y t)) fun v => XW E base rest L (t.set d v) m Q := by
  rw [XW_pure rfl (by cases op <;> first | rfl | cases h), pureE_none hs]
  rfl
theorem XW_eql {yt : TypeId} {x y : Operand} : XW E base ((i, ⟨some d, .binOp .eql ty x y yt, rt, none⟩) :: rest) L t m Q ↔ okP (eqA E.P .eql ty x y (ev x t) (ev y t) m) fun v => XW E base rest L (t.set d v) m Q := by
  rw [XW_read rfl rfl, readE_none hs]
  rfl
theorem XW_neq {yt : TypeId} {x y : Operand} : XW E base ((i, ⟨some d, .binOp .neq ty x y yt, rt, none⟩) :: rest) L t m Q ↔ okP (eqA E.P .neq ty x y (ev x t) (ev y t) m) fun v => XW E base rest L (t.set d v) m Q := by
  rw [XW_read rfl rfl, readE_none hs]
  rfl
def unV (P : Program) (op : UnOp) (x : Value) : Option Value := if plain x then runV P (Op.unary op x) else none
theorem XW_un {op : UnOp} {x : Operand} : XW E base ((i, ⟨some d, .unOp op ty x, rt, none⟩) :: rest) L t m Q ↔ okP (unV E.P op (ev x t)) fun v => XW E base rest L (t.set d v) m Q := by
  rw [XW_pure rfl rfl, pureE_none hs]
  rfl
def nilV : Value → Option Value
  | .pointer (some a) => some (.pointer (some a))
  | .func (.func f) a c => some (.func (.func f) a c)
  | .func (.yield l) a c => some (.func (.yield l) a c)
  | _ => none
theorem XW_nilCheck {x : Operand} : XW E base ((i, ⟨some d, .nilCheck x, ty, none⟩) :: rest) L t m Q ↔ okP (nilV (ev x t)) fun v => XW E base rest L (t.set d v) m Q := by
  rw [XW_pure rfl rfl, pureE_none hs]
  rfl
/-- Where a field lies. -/
def fieldOff (P : Program) (s f : Nat) : Option Nat := match P.underlying s with
  | some (.struct fs) => match fs[f]? with
    | some fl => match szOf P fl.type with
      | some (_ + 1) => some fl.offset
      | _ => none
    | none => none
  | _ => none
def offV (v : Value) (n : Nat) : Option Value := match v with
  | .pointer (some ⟨b, o, none⟩) => some (.pointer (some ⟨b, o + n, none⟩))
  | _ => none
omit hs in
theorem offV_ptr {b o n : Nat} : offV (.pointer (some ⟨b, o, none⟩)) n = some (.pointer (some ⟨b, o + n, none⟩)) := rfl
theorem XW_fieldAddr {x : Operand} {f off : Nat} (hf : fieldOff E.P ty f = some off) : XW E base ((i, ⟨some d, .fieldAddr ty x f, rt, none⟩) :: rest) L t m Q ↔ okP (offV (ev x t) off) fun v => XW E base rest L (t.set d v) m Q := by
  rw [XW_pure rfl rfl, pureE_none hs]
  have : pureA E.P ⟨some d, .fieldAddr ty x f, rt, none⟩ (ev · t) = offV (ev x t) off := by
    simp only [pureA]
    unfold fieldOff at hf
    split at hf
    · rename_i fs hu
      split at hf
      · rename_i fl hfl
        split at hf
        · rename_i n hz
          cases hf
          rw [hu]
          unfold offV
          split
          · rename_i h1 h2
            cases h1
            simp only [h2, hfl, hz]
          · rename_i h1
            split
            · rename_i b o h2; exact absurd h2 (h1 _ _ _ rfl)
            · rfl
        · cases hf
      · cases hf
    · cases hf
  rw [this]
  rfl
theorem XW_field {x : Operand} {f : Nat} : XW E base ((i, ⟨some d, .field ty x f, rt, none⟩) :: rest) L t m Q ↔ okP (pureA E.P ⟨some d, .field ty x f, rt, none⟩ (ev · t)) fun v => XW E base rest L (t.set d v) m Q := by
  rw [XW_pure rfl rfl, pureE_none hs]
  rfl
/-- An element's place. -/
def idxV (P : Program) (ty : TypeId) (x i : Value) : Option Value := match P.underlying ty, x, i with
  | some (.array len e), .pointer (some ⟨b, o, none⟩), .int _ n => if 0 ≤ n ∧ n < len then match szOf P e with
      | some s => some (ptr b (o + n.toNat * s))
      | none => none
    else none
  | some (.slice e), .slice (some ⟨b, o, none⟩) len _, .int _ n => if 0 ≤ n ∧ n < len then match szOf P e with
      | some s => some (ptr b (o + n.toNat * s))
      | none => none
    else none
  | _, _, _ => none
theorem XW_indexAddr {x y : Operand} : XW E base ((i, ⟨some d, .indexAddr ty x y, rt, none⟩) :: rest) L t m Q ↔ okP (idxV E.P ty (ev x t) (ev y t)) fun v => XW E base rest L (t.set d v) m Q := by
  rw [XW_pure rfl rfl, pureE_none hs]
  rfl
omit hs in
theorem idxV_arr {e : TypeId} {len s b o : Nat} {k : IntKind} {n : Int} (hu : P.underlying ty = some (.array len e)) (hz : szOf P e = some s) (h1 : 0 ≤ n) (h2 : n < len) : idxV P ty (.pointer (some ⟨b, o, none⟩)) (.int k n) = some (.pointer (some ⟨b, o + n.toNat * s, none⟩)) := by
  unfold idxV
  simp only [hu, hz, h1, h2, and_self, if_true]
omit hs in
theorem idxV_slice {e : TypeId} {len c s b o : Nat} {k : IntKind} {n : Int} (hu : P.underlying ty = some (.slice e)) (hz : szOf P e = some s) (h1 : 0 ≤ n) (h2 : n < len) : idxV P ty (.slice (some ⟨b, o, none⟩) len c) (.int k n) = some (.pointer (some ⟨b, o + n.toNat * s, none⟩)) := by
  unfold idxV
  simp only [hu, hz, h1, h2, and_self, if_true]
theorem XW_extract {x : Operand} {k : Nat} : XW E base ((i, ⟨some d, .extract x k, ty, none⟩) :: rest) L t m Q ↔ okP (match ev x t with | .tuple vs => vs[k]? | _ => none) fun v => XW E base rest L (t.set d v) m Q := by
  rw [XW_pure rfl rfl, pureE_none hs]
  rfl
theorem XW_makeFunc {f : FuncId} {a c : Array Operand} : XW E base ((i, ⟨some d, .makeFunc (.func f) a c, ty, none⟩) :: rest) L t m Q ↔ XW E base rest L (t.set d (.func (.func f) (a.map (ev · t)) (c.map (ev · t)))) m Q := by
  rw [XW_pure rfl rfl, pureE_none hs]
  rfl
theorem XW_build {ps : Array (Nat × Operand)} : XW E base ((i, ⟨some d, .build ty ps, rt, none⟩) :: rest) L t m Q ↔ okP (buildA E.P ty (ps.toList.map fun p => (p.1, ev p.2 t))) fun v => XW E base rest L (t.set d v) m Q := by
  rw [XW_pure rfl rfl, pureE_none hs]
  rfl
theorem XW_slice {x : Operand} {l h : Option Operand} : XW E base ((i, ⟨some d, .slice ty x l h none, rt, none⟩) :: rest) L t m Q ↔ okP (sliceA E.P ty (ev x t) (l.map (ev · t)) (h.map (ev · t))) fun v => XW E base rest L (t.set d v) m Q := by
  rw [XW_pure rfl rfl, pureE_none hs]
  rfl
theorem XW_load {a : Operand} : XW E base ((i, ⟨some d, .load ty a, rt, none⟩) :: rest) L t m Q ↔ okP (loadA E.P ty (ev a t) m) fun v => XW E base rest L (t.set d v) m Q := by
  rw [XW_read rfl rfl, readE_none hs]
  rfl
theorem XW_lookup {x k : Operand} {ok : Bool} : XW E base ((i, ⟨some d, .lookup ty x k ok, rt, none⟩) :: rest) L t m Q ↔ okP (lookupA E.P ty (ev x t) (ev k t) ok m) fun v => XW E base rest L (t.set d v) m Q := by
  rw [XW_read rfl rfl, readE_none hs]
  rfl
def convV (P : Program) (s e : TypeId) (x : Value) (m : Mem) : Option Value := readA P ⟨none, .convert s e (.const x), 0, none⟩ (ev · []) m
theorem XW_convert {s e : TypeId} {x : Operand} : XW E base ((i, ⟨some d, .convert s e x, rt, none⟩) :: rest) L t m Q ↔ okP (convV E.P s e (ev x t) m) fun v => XW E base rest L (t.set d v) m Q := by
  rw [XW_read rfl rfl, readE_none hs]
  rfl
theorem XW_len {x : Operand} : XW E base ((i, ⟨some d, .call ⟨.builtin .len, #[x], #[ty]⟩, rt, none⟩) :: rest) L t m Q ↔ okP (lenA E.P ty (ev x t) m) fun v => XW E base rest L (t.set d v) m Q := by
  rw [XW_read rfl rfl, readE_none hs]
  rfl
omit hs
/-- The cells of a type's zero. -/
def zeroL (P : Program) (t : TypeId) : Option (List Value) := match zeroOf P t with
  | some z => if plain z then some z.cells.toList else none
  | none => none
theorem XW_alloc : XW E base ((i, ⟨some d, .alloc ty, rt, none⟩) :: rest) L t m Q ↔ okP (zeroL E.P ty) fun z => XW E base rest L (t.set d (.pointer (some ⟨base + i, 0, none⟩))) (m.put (base + i) (.cells (.ofList z) true 0)) Q := by
  rw [XW_make rfl rfl]
  have : makeA E.P ⟨some d, .alloc ty, rt, none⟩ (ev · t) = (zeroL E.P ty).map fun z => (.cells (.ofList z) true 0, fun id => ptr id 0) := by
    simp only [makeA, zeroL]
    cases zeroOf E.P ty with
    | none => rfl
    | some z => cases h : plain z <;> simp
  rw [this, okP_map]
  rfl
def boxL (v : Value) : Option (List Value) := if isJunk v then none else some v.cells.toList
theorem XW_box {x : Operand} : XW E base ((i, ⟨some d, .box ty x, rt, none⟩) :: rest) L t m Q ↔ okP (boxL (ev x t)) fun z => XW E base rest L (t.set d (.pointer (some ⟨base + i, 0, none⟩))) (m.put (base + i) (.cells (.ofList z) true 0)) Q := by
  rw [XW_make rfl rfl]
  have : makeA E.P ⟨some d, .box ty x, rt, none⟩ (ev · t) = (boxL (ev x t)).map fun z => (.cells (.ofList z) true 0, fun id => ptr id 0) := by
    simp only [makeA, boxL]
    cases h : isJunk (ev x t) <;> simp
  rw [this, okP_map]
  rfl
theorem XW_buildSlice {n : Nat} {ps : Array (Nat × Operand)} : XW E base ((i, ⟨some d, .buildSlice ty n ps, rt, none⟩) :: rest) L t m Q ↔ okP (makeA E.P ⟨some d, .buildSlice ty n ps, rt, none⟩ (ev · t)) fun q => XW E base rest L (t.set d (q.2 (base + i))) (m.put (base + i) q.1) Q := XW_make rfl rfl
theorem XW_makeMap : XW E base ((i, ⟨some d, .makeMap ty none, rt, none⟩) :: rest) L t m Q ↔ XW E base rest L (t.set d (.map (some (base + i)))) (m.put (base + i) (.map [] true)) Q := XW_make rfl rfl
theorem XW_makeSlice {l c : Operand} : XW E base ((i, ⟨some d, .makeSlice ty l c, rt, none⟩) :: rest) L t m Q ↔ okP (makeA E.P ⟨some d, .makeSlice ty l c, rt, none⟩ (ev · t)) fun q => XW E base rest L (t.set d (q.2 (base + i))) (m.put (base + i) q.1) Q := XW_make rfl rfl
theorem XW_store {a x : Operand} : XW E base ((i, ⟨none, .store ty a x, rt, none⟩) :: rest) L t m Q ↔ okP (storeA E.P ty (ev a t) (ev x t) m) fun m' => XW E base rest L t m' Q := by
  rw [XW_val (q := (storeA E.P ty (ev a t) (ev x t) m).map fun m' => (undef, m')) rfl rfl, okP_map]
  · rfl
  · simp only [effA]; cases storeA E.P ty (ev a t) (ev x t) m <;> rfl
  · simp only [reqA, cls, effA]; cases storeA E.P ty (ev a t) (ev x t) m <;> rfl
theorem XW_mapUpdate {a k x : Operand} : XW E base ((i, ⟨none, .mapUpdate ty a k x, rt, none⟩) :: rest) L t m Q ↔ okP (mapSetA E.P ty (ev a t) (ev k t) (ev x t) m) fun m' => XW E base rest L t m' Q := by
  rw [XW_val (q := (mapSetA E.P ty (ev a t) (ev k t) (ev x t) m).map fun m' => (undef, m')) rfl rfl, okP_map]
  · rfl
  · simp only [effA]; cases mapSetA E.P ty (ev a t) (ev k t) (ev x t) m <;> rfl
  · simp only [reqA, cls, effA]; cases mapSetA E.P ty (ev a t) (ev k t) (ev x t) m <;> rfl
theorem XW_append {a x : Operand} {ts : Array TypeId} : XW E base ((i, ⟨some d, .call ⟨.builtin .append, #[a, x], ts⟩, rt, none⟩) :: rest) L t m Q ↔ okP (appendA E.P (base + i) ts (ev a t) (ev x t) m) fun q => XW E base rest L (t.set d q.1) q.2 Q := by
  rw [XW_val (q := appendA E.P (base + i) ts (ev a t) (ev x t) m) rfl rfl]
  · rfl
  · simp [effA]
  · simp only [reqA, cls, effA]; cases h : appendA E.P 0 ts (ev a t) (ev x t) m <;> simp [h]
theorem XW_delete {a x : Operand} {ts : Array TypeId} {dst : Option Tmp} : XW E base ((i, ⟨dst, .call ⟨.builtin .delete, #[a, x], ts⟩, rt, none⟩) :: rest) L t m Q ↔ okP (deleteA E.P ts (ev a t) (ev x t) m) fun m' => XW E base rest L (putT dst (.tuple #[]) t) m' Q := by
  rw [XW_val (q := (deleteA E.P ts (ev a t) (ev x t) m).map fun m' => (.tuple #[], m')) rfl rfl, okP_map]
  · simp only [effA]; cases h : deleteA E.P ts (ev a t) (ev x t) m <;> simp [h]
  · simp only [reqA, cls, effA]; cases h : deleteA E.P ts (ev a t) (ev x t) m <;> simp [h]
theorem XW_call {dst : Option Tmp} {f : FuncId} {args : Array Operand} {ts : Array TypeId} (hc : callable E.P f = true) : XW E base ((i, ⟨dst, .call ⟨.value (.func f), args, ts⟩, rt, none⟩) :: rest) L t m Q ↔ CallW E L (.call f (args.toList.map (ev · t))) m fun L' v m' => XW E base rest L' (putT dst v t) m' Q := by
  have hr : reqA E.P ⟨dst, .call ⟨.value (.func f), args, ts⟩, rt, none⟩ (ev · t) m = some (.call f (args.toList.map (ev · t)), m) := by simp [reqA, cls, effA, ev, hc]
  refine ⟨fun h => ?_, XW_task rfl hr⟩
  obtain ⟨_, ⟨_, h⟩ | ⟨h, _⟩⟩ := h
  · rcases h with ⟨v, m', h1, _⟩ | ⟨tk, m1, v, m2, h1, h2, h3, h4⟩
    · simp [opA, cls, effA, ev, hc] at h1
    · rw [hr] at h1
      cases h1
      exact ⟨v, m2, h2, h3, h4⟩
  · cases h
/-- The call of a function that was shown elsewhere. -/
theorem CallW.of {f : FuncId} {args : List Value} {v : Value} {m' : Mem} {K : List Inst → Value → Mem → Prop} (h : CallOk Sig.none E.P f args m v m' ∧ Grow m m') (hL : ∀ c ∈ L, c.tk = .call f args → c.m = m → c.v = v ∧ c.m' = m') (hK : K (⟨.call f args, m, v, m'⟩ :: L) v m') : CallW E L (.call f args) m K :=
  ⟨v, m', ⟨h.2, h.1⟩, hL, hK⟩

/-! ### values -/
section
variable {k : IntKind} {a b : Int}
theorem bin_lss : binV P .lss ty (.int k a) (.int k b) = some (.bool (decide (a < b))) := by cases k <;> rfl
theorem bin_leq : binV P .leq ty (.int k a) (.int k b) = some (.bool (decide (a ≤ b))) := by cases k <;> rfl
theorem bin_gtr : binV P .gtr ty (.int k a) (.int k b) = some (.bool (decide (b < a))) := by cases k <;> rfl
theorem bin_geq : binV P .geq ty (.int k a) (.int k b) = some (.bool (decide (b ≤ a))) := by cases k <;> rfl
theorem bin_add : binV P .add ty (.int k a) (.int k b) = some (.int k (k.wrap (a + b))) := by cases k <;> rfl
theorem bin_sub : binV P .sub ty (.int k a) (.int k b) = some (.int k (k.wrap (a - b))) := by cases k <;> rfl
theorem bin_mul : binV P .mul ty (.int k a) (.int k b) = some (.int k (k.wrap (a * b))) := by cases k <;> rfl
theorem bin_rem (h : b ≠ 0) : binV P .rem ty (.int k a) (.int k b) = some (.int k (a.tmod b)) := by
  have e : binOp .rem ty (.int k a) (.int k b) = Op.intDiv .rem k a b := by cases k <;> rfl
  show runV P (binOp .rem ty (.int k a) (.int k b)) = _
  rw [e]
  unfold Op.intDiv
  rw [if_neg h]; rfl
theorem eq_int {x y : Operand} : eqA P .eql ty x y (.int k a) (.int k b) m = some (.bool (decide (a = b))) := by cases k <;> rfl
theorem neq_int {x y : Operand} : eqA P .neq ty x y (.int k a) (.int k b) m = some (.bool (!decide (a = b))) := by cases k <;> rfl
theorem un_not {a : Bool} : unV P .not (.bool a) = some (.bool (!a)) := rfl
theorem runP_bind {α β : Type} (s : Sem α) (f : α → Sem β) {a : α} (h : runP P s = some a) : runP P (s >>= f) = runP P (f a) := by
  induction s with
  | pure x => simp only [runP, Option.some.injEq] at h; subst h; rfl
  | program k ih => exact ih P h
  | mark e k ih => exact ih h
  | _ => simp [runP] at h
theorem runP_und {t : TypeId} {d : TypeDesc} (h : P.underlying t = some d) : runP P (underlying t) = some d := by
  show runP P (match P.underlying t with | some d => pure d | none => stuck "no such type") = _
  rw [h]
  rfl
theorem conv_int {s e : TypeId} {k k' j : IntKind} {n : Int} (h : P.underlying e = some (.int k)) (h' : P.underlying s = some (.int j)) : convV P s e (.int k' n) m = some (.int k (k.wrap n)) := by
  have hp : plain (.int k' n) = true := rfl
  have hc : runV P (convert s e (.int k' n)) = some (.int k (k.wrap n)) := by
    unfold runV convert
    rw [runP_bind _ _ (runP_und h'), runP_bind _ _ (runP_und h)]
    rfl
  unfold convV readA
  simp only [ev, hp, if_true, h]
  exact hc
theorem len_slice {e : TypeId} {p : Option Addr} {n c : Nat} (h : P.underlying ty = some (.slice e)) : lenA P ty (.slice p n c) m = some (.int .i64 n) := by
  unfold lenA; rw [h]
end
/-! pointers -/
theorem eq_ptr_nil {e : TypeId} {x y : Operand} {p : Addr} (h : P.underlying ty = some (.pointer e)) : eqA P .eql ty x y (.pointer (some p)) (.pointer none) m = some (.bool false) := by
  unfold eqA
  simp [h, plain, plainN]
theorem neq_ptr_nil {e : TypeId} {x y : Operand} {p : Addr} (h : P.underlying ty = some (.pointer e)) : eqA P .neq ty x y (.pointer (some p)) (.pointer none) m = some (.bool true) := by
  unfold eqA
  simp [h, plain, plainN]

/-! ### memory -/
def ld1 (o : Option AObj) (n : Nat) : Option Value := match o with
  | some (.cells c _ _) => c.nth n
  | _ => none
def ldN (o : Option AObj) (n k : Nat) : Option Value := match o with
  | some (.cells c _ _) => (c.sub n k).map fun l => .agg l.toArray
  | _ => none
theorem load1 {b o : Nat} (h : lay P ty = some none) : loadA P ty (.pointer (some ⟨b, o, none⟩)) m = ld1 (m.get b) o := by
  unfold loadA ld1
  rw [h]
  rfl
theorem loadN {b o n : Nat} (h : lay P ty = some (some n)) : loadA P ty (.pointer (some ⟨b, o, none⟩)) m = ldN (m.get b) o n := by
  unfold loadA ldN
  rw [h]
  simp only
  split
  · rename_i c _ _ hc
    simp only [hc]
    cases c.sub o n <;> rfl
  · rename_i hc
    split
    · rename_i h2; exact absurd h2 (hc _ _ _)
    · rfl
theorem ld1_cells {c : Cells} {w : Bool} {sz n : Nat} : ld1 (some (.cells c w sz)) n = c.nth n := rfl
theorem ldN_cells {c : Cells} {w : Bool} {sz n k : Nat} : ldN (some (.cells c w sz)) n k = (c.sub n k).map fun l => .agg l.toArray := rfl
theorem nth_lt {c : Cells} {n : Nat} (h : n < c.n) : c.nth n = some (c.get n) := by unfold Cells.nth; rw [if_pos h]
theorem nth_ofList {l : List Value} {n : Nat} : (Cells.ofList l).nth n = l[n]? := by rw [Cells.nth_eq, Cells.ofList_list]
theorem sub_lt {c : Cells} {o n : Nat} (h : o + n ≤ c.n) : c.sub o n = some (c.seg o n) := by unfold Cells.sub; rw [if_pos h]
theorem write_n {c : Cells} {o : Nat} {l : List Value} : (c.write o l).n = c.n := rfl
theorem get_write {c : Cells} {o n : Nat} {l : List Value} : (c.write o l).get n = if o ≤ n ∧ n < o + l.length then l.getD (n - o) undef else c.get n := by
  have e : (c.write o l).t = Cells.putAll c.t o l := rfl
  have ed : (c.write o l).d = c.d := rfl
  unfold Cells.get
  rw [e, ed, Cells.putAll_get]
  by_cases h : o ≤ n ∧ n < o + l.length
  · rw [if_pos h, if_pos h, List.getElem?_eq_getElem (by omega), List.getD_eq_getElem?_getD, List.getElem?_eq_getElem (by omega)]
    rfl
  · rw [if_neg h, if_neg h]
theorem ofList_n {l : List Value} : (Cells.ofList l).n = l.length := rfl
theorem get_ofList {l : List Value} {n : Nat} (h : n < l.length) : (Cells.ofList l).get n = l.getD n undef := by
  have := nth_ofList (l := l) (n := n)
  rw [nth_lt (by exact h)] at this
  rw [List.getD_eq_getElem?_getD, ← this]; rfl
def st1 (o : Option AObj) (b n k : Nat) (l : List Value) (m : Mem) : Option Mem := match o with
  | some (.cells c true sz) => if l.length = k ∧ n + k ≤ c.n ∧ l.all oneCell = true then some (m.put b (.cells (c.write n l) true sz)) else none
  | _ => none
theorem store1 {b o n : Nat} {v : Value} (h : szOf P ty = some n) : storeA P ty (.pointer (some ⟨b, o, none⟩)) v m = st1 (m.get b) b o n v.cells.toList m := by
  unfold storeA st1
  rw [h]
  simp only [Array.length_toList]
  rfl
theorem st1_cells {c : Cells} {sz b n k : Nat} {l : List Value} : st1 (some (.cells c true sz)) b n k l m = if l.length = k ∧ n + k ≤ c.n ∧ l.all oneCell = true then some (m.put b (.cells (c.write n l) true sz)) else none := rfl
theorem cells_agg {l : List Value} : (Value.agg l.toArray).cells.toList = l := by simp [Value.cells]
theorem cells_int {k : IntKind} {n : Int} : (Value.int k n).cells.toList = [.int k n] := rfl
theorem cells_bool {b : Bool} : (Value.bool b).cells.toList = [.bool b] := rfl
theorem cells_ptr {p : Option Addr} : (Value.pointer p).cells.toList = [.pointer p] := rfl
theorem cells_slice {p : Option Addr} {n c : Nat} : (Value.slice p n c).cells.toList = [.slice p n c] := rfl
theorem cells_map {p : Option Nat} : (Value.map p).cells.toList = [.map p] := rfl
theorem box_agg {l : List Value} : boxL (.agg l.toArray) = some l := by simp [boxL, isJunk, Value.cells]
theorem box_int {k : IntKind} {n : Int} : boxL (.int k n) = some [.int k n] := rfl
theorem box_ptr {p : Option Addr} : boxL (.pointer p) = some [.pointer p] := rfl
theorem box_slice {p : Option Addr} {n c : Nat} : boxL (.slice p n c) = some [.slice p n c] := rfl
theorem bump_bump (m : Mem) (a b : Nat) : (m.bump a).bump b = m.bump (a + b) := by
  show (⟨_, _⟩ : Mem) = ⟨_, _⟩
  rw [Nat.add_assoc]
theorem put_bump (m : Mem) (a b : Nat) (o : AObj) : (m.bump a).put b o = (m.put b o).bump a := rfl
theorem get_ne {m : Mem} {b k : Nat} {o : AObj} (h : k ≠ b) : (m.put b o).get k = m.get k := by rw [Mem.get_put, if_neg h]
theorem get_eq {m : Mem} {b : Nat} {o : AObj} : (m.put b o).get b = some o := by rw [Mem.get_put, if_pos rfl]
theorem get_mk {m : Mem} {b j : Nat} {o : AObj} (h : b < m.next) : (m.put (m.next + j) o).get b = m.get b := get_ne (by omega)
end
end Go.Ab
