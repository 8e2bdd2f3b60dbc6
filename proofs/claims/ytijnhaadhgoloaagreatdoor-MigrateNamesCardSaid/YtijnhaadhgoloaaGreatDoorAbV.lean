/- An interpreter of our own: the same, made to be evaluated fast by the kernel (temporaries in a tree, small functions). -/
import Derived.Test.YtijnhaadhgoloaaGreatDoorAbS
namespace Go.Ab
noncomputable section


/-! ### temporaries -/
def getR {α : Type} (t : Tr α) : Pa → Option α :=
  Tr.rec (motive := fun _ => Pa → Option α) (fun _ => none) (fun v _ _ gl gr p => Pa.rec (motive := fun _ => Option α) v (fun p' _ => gl p') (fun p' _ => gr p') p) t
def putR {α : Type} (v : Option α) (p : Pa) : Tr α → Tr α :=
  Pa.rec (motive := fun _ => Tr α → Tr α)
    (fun t => Tr.rec (motive := fun _ => Tr α) (.node v .leaf .leaf) (fun _ l r _ _ => .node v l r) t)
    (fun _ ih t => Tr.rec (motive := fun _ => Tr α) (.node none (ih .leaf) .leaf) (fun w l r _ _ => .node w (ih l) r) t)
    (fun _ ih t => Tr.rec (motive := fun _ => Tr α) (.node none .leaf (ih .leaf)) (fun w l r _ _ => .node w l (ih r)) t) p
theorem getR_eq {α : Type} (t : Tr α) (p : Pa) : getR t p = getP t p := by
  induction t generalizing p with
  | leaf => rw [getP_leaf]; rfl
  | node v l r h1 h2 => cases p with
    | e => rfl
    | o p => exact h1 p
    | i p => exact h2 p
theorem putR_eq {α : Type} (v : Option α) (p : Pa) (t : Tr α) : putR v p t = putP v p t := by
  induction p generalizing t with
  | e => cases t <;> rfl
  | o p ih => cases t with
    | leaf => show Tr.node none (putR v p .leaf) .leaf = _; rw [ih]; rfl
    | node w l r => show Tr.node w (putR v p l) r = _; rw [ih]; rfl
  | i p ih => cases t with
    | leaf => show Tr.node none .leaf (putR v p .leaf) = _; rw [ih]; rfl
    | node w l r => show Tr.node w l (putR v p r) = _; rw [ih]; rfl

structure T where
  n : Nat
  tr : Tr Value
def T.get (t : T) (k : Nat) : Value :=
  T.rec (motive := fun _ => Value) (fun _ tr => Option.rec (motive := fun _ => Value) undef (fun v => v) (getR tr (pa k k))) t
def T.put (t : T) (k : Nat) (v : Value) : T :=
  T.rec (motive := fun _ => T) (fun n tr => Bool.rec (motive := fun _ => T) ⟨n, tr⟩ ⟨n, putR (some v) (pa k k) tr⟩ (Nat.ble (Nat.succ k) n)) t
def T.put? (d : Option Tmp) (v : Value) (t : T) : T := Option.rec (motive := fun _ => T) t (fun k => T.put t k v) d
def T.load : List Value → Nat → T → T
  | [], _, t => t
  | v :: l, k, t => T.load l (Nat.succ k) (t.put k v)
def T.ofArgs (n : Nat) (args : List Value) : T := T.load args 0 ⟨Nat.max n args.length, .leaf⟩
def T.toList (t : T) : List Value := (List.range t.n).map t.get

/-- The tree stands for the list. -/
def TL (t : T) (l : List Value) : Prop := t.n = l.length ∧ ∀ k, t.get k = l.getD k undef

theorem get_mk (n : Nat) (tr : Tr Value) (k : Nat) : T.get ⟨n, tr⟩ k = (getP tr (pa k k)).getD undef := by
  show Option.rec (motive := fun _ => Value) undef (fun v => v) (getR tr (pa k k)) = _
  rw [getR_eq]
  cases getP tr (pa k k) <;> rfl
theorem TL.toList {t : T} {l : List Value} (h : TL t l) : t.toList = l := by
  apply list_ext_getD
  · simp [T.toList, h.1]
  · intro i hi
    have hi' : i < t.n := by simpa [T.toList] using hi
    rw [← h.2 i]
    simp [T.toList, List.getD_eq_getElem?_getD, List.getElem?_map, List.getElem?_range hi']
theorem TL.put {t : T} {l : List Value} (h : TL t l) (k : Nat) (v : Value) : TL (t.put k v) (l.set k v) := by
  obtain ⟨n, tr⟩ := t
  have h1 : n = l.length := h.1
  show TL (Bool.rec (motive := fun _ => T) ⟨n, tr⟩ ⟨n, putR (some v) (pa k k) tr⟩ (Nat.ble (Nat.succ k) n)) _
  cases hb : Nat.ble (Nat.succ k) n with
  | true =>
    have hk : k < n := Nat.le_of_ble_eq_true hb
    refine ⟨by simp [h1], fun j => ?_⟩
    simp only [get_mk, putR_eq, getP_putP]
    by_cases e : j = k
    · subst e
      have : j < l.length := by rw [← h1]; exact hk
      simp [List.getD_eq_getElem?_getD, this]
    · rw [if_neg fun e' => e (pa_inj _ _ _ _ (Nat.le_refl _) (Nat.le_refl _) e')]
      have := h.2 j
      simp only [get_mk] at this
      rw [this, List.getD_eq_getElem?_getD, List.getD_eq_getElem?_getD, List.getElem?_set_ne (fun e' => e e'.symm)]
  | false =>
    have hk : ¬ k < n := fun hk => by rw [Nat.ble_eq_true_of_le hk] at hb; cases hb
    show TL ⟨n, tr⟩ _
    rw [List.set_eq_of_length_le (by omega)]
    exact h
theorem TL.put? {t : T} {l : List Value} (h : TL t l) (d : Option Tmp) (v : Value) : TL (T.put? d v t) (putT d v l) := by
  cases d with
  | none => exact h
  | some k => exact h.put k v
theorem load_list : ∀ (a : List Value) (k : Nat) (t : T) (l : List Value), TL t l → k + a.length ≤ l.length → TL (T.load a k t) (l.take k ++ a ++ l.drop (k + a.length))
  | [], k, t, l, h, _ => by simpa [T.load] using h
  | v :: a, k, t, l, h, hk => by
    simp only [List.length_cons] at hk
    have := load_list a (k + 1) (t.put k v) (l.set k v) (h.put k v) (by simp; omega)
    simp only [T.load]
    have e : (l.set k v).take (k + 1) ++ a ++ (l.set k v).drop (k + 1 + a.length) = l.take k ++ v :: a ++ l.drop (k + (v :: a).length) := by
      rw [List.take_set, List.drop_set_of_lt (by omega)]
      have hlt : k < l.length := by omega
      rw [List.take_succ_eq_append_getElem hlt, List.set_append_right _ _ (by rw [List.length_take]; omega)]
      simp [Nat.min_eq_left (Nat.le_of_lt hlt), Nat.add_assoc, Nat.add_comm 1]
    rw [e] at this
    exact this
theorem ofArgs_list (n : Nat) (args : List Value) : TL (T.ofArgs n args) (args ++ List.replicate (n - args.length) undef) := by
  have h0 : TL ⟨Nat.max n args.length, .leaf⟩ (List.replicate (Nat.max n args.length) undef) := by
    refine ⟨by simp, fun k => ?_⟩
    have : T.get ⟨Nat.max n args.length, .leaf⟩ k = undef := by simp [get_mk, getP_leaf]
    rw [this, List.getD_eq_getElem?_getD, List.getElem?_replicate]
    split <;> rfl
  have := load_list args 0 _ _ h0 (by simp; exact Nat.le_max_right _ _)
  simp only [List.take_zero, List.nil_append, Nat.zero_add, List.drop_replicate] at this
  have e : Nat.max n args.length - args.length = n - args.length := by
    show max n args.length - args.length = _
    omega
  rw [e] at this
  exact this

def evF (x : Operand) (t : T) : Value :=
  Operand.rec (motive := fun _ => Value) (fun k => T.get t k) (fun v => v) (fun g => ptr g 0) (fun f => .func (.func f) #[] #[]) x
theorem evF_eq {t : T} {l : List Value} (h : TL t l) : (fun x => evF x t) = fun x => ev x l := by
  funext x
  cases x <;> first | rfl | exact h.2 _

def gV (b : Bool) (v : Value) : Option Bool := match v with
  | .bool c => some (c == b)
  | .func (.method _) _ _ => none
  | .chan _ => none
  | _ => some false
def gF (g : Option (Tmp × Bool)) (t : T) : Option Bool :=
  Option.rec (motive := fun _ => Option Bool) (some true) (fun p => Prod.rec (motive := fun _ => Option Bool) (fun k b => gV b (T.get t k)) p) g
theorem gF_eq {t : T} {l : List Value} (h : TL t l) (g : Option (Tmp × Bool)) : gF g t = if gOk g l = false then none else some (wanted g l) := by
  cases g with
  | none => rfl
  | some p =>
    obtain ⟨k, b⟩ := p
    show gV b (T.get t k) = _
    rw [h.2 k]
    have key : ∀ v, l.getD k undef = v → gV b v = if gOk (some (k, b)) l = false then none else some (wanted (some (k, b)) l) := by
      intro v hv
      unfold gOk wanted gV
      simp only [hv]
      cases v with
      | func fn _ _ => cases fn <;> rfl
      | _ => rfl
    exact key _ rfl

/-! ### operations, by small functions -/
def pPick (r : Operand → Value) (c a b : Operand) : Option Value := match r c with
  | .bool t => some (if t then r a else r b)
  | _ => none
def pNil (v : Value) : Option Value := match v with
  | .pointer (some a) => some (.pointer (some a))
  | .func (.func f) a c => some (.func (.func f) a c)
  | .func (.yield l) a c => some (.func (.yield l) a c)
  | _ => none
def pUn (P : Program) (op : UnOp) (v : Value) : Option Value := if plain v then runV P (Op.unary op v) else none
def pBin (P : Program) (op : BinOp) (t : TypeId) (v w : Value) : Option Value := if plain v && plain w then runV P (binOp op t v w) else none
def pIface (P : Program) (t : TypeId) (v : Value) : Option Value := match P.underlying t with
  | some (.interface _) => none
  | some _ => some (.iface t v)
  | none => none
def pFunc (fn : Fn) (a b : Array Value) : Option Value := match fn with
  | .yield _ | .method _ => none
  | _ => some (.func fn a b)
def pFieldAddr (P : Program) (s : TypeId) (v : Value) (f : Nat) : Option Value := match P.underlying s, v with
  | some (.struct fs), .pointer (some ⟨b, o, none⟩) => match fs[f]? with
    | some fl => match szOf P fl.type with
      | some (_ + 1) => some (ptr b (o + fl.offset))
      | _ => none
    | none => none
  | _, _ => none
def pField (P : Program) (t : TypeId) (v : Value) (f : Nat) : Option Value := match P.underlying t, v with
  | some (.struct fs), .agg cs => match fs[f]? with
    | some fl => partA P fl.type cs fl.offset
    | none => none
  | _, _ => none
def pIndex (P : Program) (t : TypeId) (v w : Value) : Option Value := match P.underlying t, v, w with
  | some (.array len e), .agg cs, .int _ n => if 0 ≤ n ∧ n < len then match szOf P e with
      | some s => partA P e cs (n.toNat * s)
      | none => none
    else none
  | some .string, .string s, .int _ n => if 0 ≤ n then match s[n.toNat]? with
      | some b => some (.int .u8 b.toNat)
      | none => none
    else none
  | _, _, _ => none
def pIndexAddr (P : Program) (t : TypeId) (v w : Value) : Option Value := match P.underlying t, v, w with
  | some (.array len e), .pointer (some ⟨b, o, none⟩), .int _ n => if 0 ≤ n ∧ n < len then match szOf P e with
      | some s => some (ptr b (o + n.toNat * s))
      | none => none
    else none
  | some (.slice e), .slice (some ⟨b, o, none⟩) len _, .int _ n => if 0 ≤ n ∧ n < len then match szOf P e with
      | some s => some (ptr b (o + n.toNat * s))
      | none => none
    else none
  | _, _, _ => none
def pSlice (P : Program) (t : TypeId) (r : Operand → Value) (x : Operand) (lo hi mx : Option Operand) : Option Value := match mx, hi with
  | some y, some z => slice3A P t (r x) (lo.map r) (r z) (r y)
  | some _, none => none
  | none, _ => sliceA P t (r x) (lo.map r) (hi.map r)
def pExtract (v : Value) (i : Nat) : Option Value := match v with
  | .tuple vs => vs[i]?
  | _ => none
def pCall (P : Program) (ty : TypeId) (r : Operand → Value) (c : Call) : Option Value := match c.callee with
  | .builtin b => if (c.args.map r).toList.all plain then match b with
      | .min => runV P (Builtin.min_ c.argTypes ty (c.args.map r))
      | .max => runV P (Builtin.max_ c.argTypes ty (c.args.map r))
      | .real => runV P (Builtin.real_ c.argTypes ty (c.args.map r))
      | .imag => runV P (Builtin.imag_ c.argTypes ty (c.args.map r))
      | .complex => runV P (Builtin.complex_ c.argTypes ty (c.args.map r))
      | _ => none
    else none
  | _ => none
def pureF (P : Program) (op : Op) (ty : TypeId) (r : Operand → Value) : Option Value := match op with
  | .move x | .assign x => some (r x)
  | .pick c a b => pPick r c a b
  | .nilCheck x => pNil (r x)
  | .unOp op _ x => pUn P op (r x)
  | .binOp op t x y _ => pBin P op t (r x) (r y)
  | .makeInterface t x => pIface P t (r x)
  | .makeFunc fn first cap => pFunc fn (first.map r) (cap.map r)
  | .fieldAddr s x f => pFieldAddr P s (r x) f
  | .field t x f => pField P t (r x) f
  | .index t x i => pIndex P t (r x) (r i)
  | .indexAddr t x i => pIndexAddr P t (r x) (r i)
  | .slice t x lo hi mx => pSlice P t r x lo hi mx
  | .build t parts => buildA P t (partsOf r parts)
  | .extract x i => pExtract (r x) i
  | .call c => pCall P ty r c
  | _ => none
theorem pureF_eq (P : Program) (o : SOp) (r : Operand → Value) : pureF P o.op o.type r = pureA P o r := by
  obtain ⟨d, op, ty, g⟩ := o
  cases op <;> rfl

def rConv (P : Program) (s d : TypeId) (v : Value) (m : Mem) : Option Value :=
  if plain v then match P.underlying d with
      | some (.slice _) => none
      | _ => runV P (convert s d v)
    else match P.underlying s, P.underlying d, v with
      | some (.slice e), some .string, .slice (some ⟨b, o, none⟩) n _ => match P.underlying e, m.get b with
        | some (.int .u8), some (.cells cs _ _) => match cs.sub o n with
          | some l => (bytesOf l .empty).map .string
          | none => none
        | _, _ => none
      | _, _, _ => none
def rCall (P : Program) (r : Operand → Value) (c : Call) (m : Mem) : Option Value := match c.callee, c.argTypes[0]?, c.args[0]? with
  | .builtin .len, some t, some x => lenA P t (r x) m
  | _, _, _ => none
def readF (P : Program) (op : Op) (r : Operand → Value) (m : Mem) : Option Value := match op with
  | .load t a => loadA P t (r a) m
  | .lookup t mp k ok => lookupA P t (r mp) (r k) ok m
  | .binOp op t x y _ => eqA P op t x y (r x) (r y) m
  | .convert s d x => rConv P s d (r x) m
  | .call c => rCall P r c m
  | _ => none
theorem readF_eq (P : Program) (o : SOp) (r : Operand → Value) (m : Mem) : readF P o.op r m = readA P o r m := by
  obtain ⟨d, op, ty, g⟩ := o
  cases op <;> rfl

def mAlloc (P : Program) (t : TypeId) : Option (AObj × (Nat → Value)) := match zeroOf P t with
  | some z => if plain z then some (.cells (.ofList z.cells.toList) true 0, fun id => ptr id 0) else none
  | none => none
def mBuild (P : Program) (t : TypeId) (len : Nat) (r : Operand → Value) (parts : Array (Nat × Operand)) : Option (AObj × (Nat → Value)) := match P.underlying t with
  | some (.slice e) => match szOf P e, zeroOf P e with
    | some s, some z => if plain z && decide (len * s ≤ 2 ^ 24) && z.cells.size == s && decide (0 < s) then
        (fillA (fun i => some (i * s, s)) (zeros z.cells.toList (len * s)) (partsOf r parts)).map fun cs => (.cells (.ofList cs) true s, fun id => .slice (some ⟨id, 0, none⟩) len len)
      else none
    | _, _ => none
  | _ => none
def mMap (P : Program) (t : TypeId) (h : Option Operand) (r : Operand → Value) : Option (AObj × (Nat → Value)) := match h with
  | none => some (.map [] true, fun id => .map (some id))
  | some x => match P.underlying t, r x with
    | some (.map _ _), .int _ _ => some (.map [] true, fun id => .map (some id))
    | _, _ => none
def mSlice (P : Program) (t : TypeId) (l c : Value) : Option (AObj × (Nat → Value)) := match P.underlying t, l, c with
  | some (.slice e), .int .i64 n, .int .i64 k => match P.info? e, zeroOf P e with
    | some i, some z => if plain z && decide (0 ≤ n) && decide (n ≤ k) && decide (k ≤ 2 ^ 40) && decide (i.bytes * k ≤ 2 ^ 48) && z.cells.size == i.size && decide (0 < i.size) then
        some (.cells (.fill z.cells.toList (k.toNat * i.size)) true i.size, fun id => .slice (some ⟨id, 0, none⟩) n.toNat k.toNat)
      else none
    | _, _ => none
  | _, _, _ => none
def mRange (P : Program) (t : TypeId) (v : Value) : Option (AObj × (Nat → Value)) := match P.underlying t, v with
  | some .string, .string s => some (.strIter s 0, fun id => ptr id 0)
  | _, _ => none
def makeF (P : Program) (op : Op) (r : Operand → Value) : Option (AObj × (Nat → Value)) := match op with
  | .alloc t => mAlloc P t
  | .box _ x => if isJunk (r x) then none else some (.cells (.ofList (r x).cells.toList) true 0, fun id => ptr id 0)
  | .buildSlice t len parts => mBuild P t len r parts
  | .makeMap t h => mMap P t h r
  | .makeSlice t l c => mSlice P t (r l) (r c)
  | .range t x => mRange P t (r x)
  | _ => none
theorem makeF_eq (P : Program) (o : SOp) (r : Operand → Value) : makeF P o.op r = makeA P o r := by
  obtain ⟨d, op, ty, g⟩ := o
  cases op <;> rfl

def eMap (x : Option Mem) (v : Value) : Option (Req × Mem) := x.map fun m' => (.val v, m')
def eVal (x : Option (Value × Mem)) : Option (Req × Mem) := x.map fun q => (.val q.1, q.2)
def eApp (P : Program) (id : Nat) (r : Operand → Value) (c : Call) (m : Mem) : Option (Req × Mem) := match c.args[0]?, c.args[1]? with
  | some s, some x => eVal (appendA P id c.argTypes (r s) (r x) m)
  | _, _ => none
def eCopy (P : Program) (r : Operand → Value) (c : Call) (m : Mem) : Option (Req × Mem) := match c.args[0]?, c.args[1]? with
  | some s, some x => eVal (copyA P c.argTypes (r s) (r x) m)
  | _, _ => none
def eClear (P : Program) (r : Operand → Value) (c : Call) (m : Mem) : Option (Req × Mem) := match c.args[0]? with
  | some x => eMap (clearA P c.argTypes (r x) m) (.tuple #[])
  | none => none
def eDel (P : Program) (r : Operand → Value) (c : Call) (m : Mem) : Option (Req × Mem) := match c.args[0]?, c.args[1]? with
  | some s, some x => eMap (deleteA P c.argTypes (r s) (r x) m) (.tuple #[])
  | _, _ => none
def eFun (P : Program) (v : Value) (args : List Value) (m : Mem) : Option (Req × Mem) := match v with
  | .func (.func g) first cap => if callable P g then some (.call g (first.toList ++ args ++ cap.toList), m) else match externA P g (first.toList ++ args ++ cap.toList) with
    | some v => some (.val v, m)
    | none => none
  | .func (.yield l) first _ => some (.round l (first.toList ++ args), m)
  | _ => none
def eInv (P : Program) (v : Value) (name : String) (args : List Value) (m : Mem) : Option (Req × Mem) := match v with
  | .iface t v => match methodA P t name with
    | some f => if callable P f then some (.call f (v :: args), m) else none
    | none => none
  | _ => none
def eCall (P : Program) (id : Nat) (r : Operand → Value) (c : Call) (m : Mem) : Option (Req × Mem) := match c.callee with
  | .builtin .append => eApp P id r c m
  | .builtin .copy => eCopy P r c m
  | .builtin .clear => eClear P r c m
  | .builtin .delete => eDel P r c m
  | .value f => eFun P (r f) (c.args.map r).toList m
  | .invoke x name => eInv P (r x) name (c.args.map r).toList m
  | _ => none
def effF (P : Program) (id : Nat) (op : Op) (r : Operand → Value) (m : Mem) : Option (Req × Mem) := match op with
  | .store t a x => eMap (storeA P t (r a) (r x) m) undef
  | .mapUpdate t mp k x | .insert t mp k x => eMap (mapSetA P t (r mp) (r k) (r x) m) undef
  | .next it s => if s then eVal (nextA (r it) m) else none
  | .call c => eCall P id r c m
  | _ => none
theorem effF_eq (P : Program) (id : Nat) (o : SOp) (r : Operand → Value) (m : Mem) : effF P id o.op r m = effA P id o r m := by
  obtain ⟨d, op, ty, g⟩ := o
  cases op with
  | call c =>
    obtain ⟨callee, args, at_⟩ := c
    cases callee with
    | builtin b => cases b <;> rfl
    | _ => rfl
  | _ => rfl

/-! ### the interpreter -/
inductive TaskF where
  | code (rd : Option Nat) (c : SCode) (t : T)
  | call (f : FuncId) (args : List Value)
  | round (l : Nat) (args : List Value)
inductive OutF where
  | exit (x : Exit) (t : T)
  | val (v : Value)
abbrev SelfF := TaskF → Mem → Option (OutF × Mem)

def oVal (x : Option (OutF × Mem)) : Option (Value × Mem) := match x with
  | some (.val v, m) => some (v, m)
  | _ => none
def oPure (x : Option Value) (m : Mem) : Option (Value × Mem) := match x with
  | some v => some (v, m)
  | none => none
def oMake (x : Option (AObj × (Nat → Value))) (id : Nat) (m : Mem) : Option (Value × Mem) := match x with
  | some (ob, mk) => some (mk id, m.put id ob)
  | none => none
def oEff (self : SelfF) (x : Option (Req × Mem)) : Option (Value × Mem) := match x with
  | some (.val v, m') => some (v, m')
  | some (.call f args, m') => oVal (self (.call f args) m')
  | some (.round l args, m') => oVal (self (.round l args) m')
  | none => none
def oStore (x : Option Mem) : Option (Value × Mem) := match x with
  | some m => some (undef, m)
  | none => none
def bEq : List UInt8 → List UInt8 → Bool
  | [], [] => true
  | a :: l, b :: k => bif Nat.beq a.toNat b.toNat then bEq l k else false
  | _, _ => false
theorem bEq_iff : ∀ l k : List UInt8, bEq l k = true ↔ l = k
  | [], [] => by simp [bEq]
  | [], _ :: _ => by simp [bEq]
  | _ :: _, [] => by simp [bEq]
  | a :: l, b :: k => by
    simp only [bEq]
    cases h : Nat.beq a.toNat b.toNat with
    | true =>
      have hab : a = b := UInt8.toNat_inj.1 (Nat.eq_of_beq_eq_true h)
      simp [bEq_iff l k, hab]
    | false =>
      have hab : a ≠ b := fun e => by subst e; rw [Nat.beq_refl] at h; cases h
      simp [hab]
theorem bEq_eq (a b : ByteArray) : bEq a.data.toList b.data.toList = (a.toList == b.toList) := by
  rw [ByteArray.toList_eq, ByteArray.toList_eq, Bool.eq_iff_iff, bEq_iff, beq_iff_eq]
def oStr (op : BinOp) (a b : ByteArray) (m : Mem) : Option (Value × Mem) := match op with
  | .eql => some (.bool (bEq a.data.toList b.data.toList), m)
  | .neq => some (.bool (!bEq a.data.toList b.data.toList), m)
  | _ => none
def oEq (P : Program) (op : BinOp) (t : TypeId) (xo yo : Operand) (x y : Value) (m : Mem) : Option (Value × Mem) := match x, y with
  | .string a, .string b => oStr op a b m
  | x, y => oPure (eqA P op t xo yo x y m) m
theorem oEq_eq (P : Program) {op : BinOp} (h : op = .eql ∨ op = .neq) (t : TypeId) (xo yo : Operand) (x y : Value) (m : Mem) : oEq P op t xo yo x y m = oPure (eqA P op t xo yo x y m) m := by
  unfold oEq
  split
  · rename_i a b
    rcases h with rfl | rfl
    · show some (Value.bool (bEq a.data.toList b.data.toList), m) = _
      rw [bEq_eq]
      have hp : ∀ c : ByteArray, plain (.string c) = true := fun _ => rfl
      unfold eqA
      simp only [hp, Bool.and_self, if_true]
      rfl
    · show some (Value.bool (!bEq a.data.toList b.data.toList), m) = _
      rw [bEq_eq]
      have hp : ∀ c : ByteArray, plain (.string c) = true := fun _ => rfl
      unfold eqA
      simp only [hp, Bool.and_self, if_true]
      rfl
  · rfl
def oBin (P : Program) (op : BinOp) (t : TypeId) (xo yo : Operand) (x y : Value) (m : Mem) : Option (Value × Mem) := match op with
  | .eql | .neq => oEq P op t xo yo x y m
  | _ => oPure (pBin P op t x y) m
def oCall (P : Program) (self : SelfF) (id : Nat) (ty : TypeId) (r : Operand → Value) (c : Call) (m : Mem) : Option (Value × Mem) := match c.callee with
  | .builtin b => match b with
    | .len => oPure (rCall P r c m) m
    | .min | .max | .real | .imag | .complex => oPure (pCall P ty r c) m
    | _ => oEff self (eCall P id r c m)
  | .value f => oEff self (eFun P (r f) (c.args.map r).toList m)
  | .invoke x name => oEff self (eInv P (r x) name (c.args.map r).toList m)
def opF (P : Program) (self : SelfF) (id : Nat) (op : Op) (ty : TypeId) (r : Operand → Value) (m : Mem) : Option (Value × Mem) := match op with
  | .move x | .assign x => some (r x, m)
  | .pick c a b => oPure (pPick r c a b) m
  | .nilCheck x => oPure (pNil (r x)) m
  | .unOp op _ x => oPure (pUn P op (r x)) m
  | .binOp op t x y _ => oBin P op t x y (r x) (r y) m
  | .makeInterface t x => oPure (pIface P t (r x)) m
  | .makeFunc fn first cap => oPure (pFunc fn (first.map r) (cap.map r)) m
  | .fieldAddr s x f => oPure (pFieldAddr P s (r x) f) m
  | .field t x f => oPure (pField P t (r x) f) m
  | .index t x i => oPure (pIndex P t (r x) (r i)) m
  | .indexAddr t x i => oPure (pIndexAddr P t (r x) (r i)) m
  | .slice t x lo hi mx => oPure (pSlice P t r x lo hi mx) m
  | .build t parts => oPure (buildA P t (partsOf r parts)) m
  | .extract x i => oPure (pExtract (r x) i) m
  | .load t a => oPure (loadA P t (r a) m) m
  | .lookup t mp k ok => oPure (lookupA P t (r mp) (r k) ok m) m
  | .convert s d x => oPure (rConv P s d (r x) m) m
  | .alloc t => oMake (mAlloc P t) id m
  | .box _ x => if isJunk (r x) then none else some (ptr id 0, m.put id (.cells (.ofList (r x).cells.toList) true 0))
  | .buildSlice t len parts => oMake (mBuild P t len r parts) id m
  | .makeMap t h => oMake (mMap P t h r) id m
  | .makeSlice t l c => oMake (mSlice P t (r l) (r c)) id m
  | .range t x => oMake (mRange P t (r x)) id m
  | .next it s => oEff self (if s then eVal (nextA (r it) m) else none)
  | .store t a x => oStore (storeA P t (r a) (r x) m)
  | .mapUpdate t mp k x | .insert t mp k x => oStore (mapSetA P t (r mp) (r k) (r x) m)
  | .call c => oCall P self id ty r c m
  | _ => none

def seqF (P : Program) (self : SelfF) (ops : List SOp) : Nat → T → Mem → Option (T × Mem) :=
  List.rec (motive := fun _ => Nat → T → Mem → Option (T × Mem)) (fun _ t m => some (t, m))
    (fun o _ ih id t m => Option.rec (motive := fun _ => Option (T × Mem)) none
      (fun b => Bool.rec (motive := fun _ => Option (T × Mem))
        (ih (Nat.succ id) (T.put? o.dst undef t) m)
        (Option.rec (motive := fun _ => Option (T × Mem)) none (fun q => Prod.rec (motive := fun _ => Option (T × Mem)) (fun v m' => ih (Nat.succ id) (T.put? o.dst v t) m') q) (opF P self id o.op o.type (fun x => evF x t) m))
        b) (gF o.guard t)) ops

def reF (E : Env) (o : SOp) (r : Operand → Value) (m : Mem) (hist : List (Nat × Mem)) (re : List Nat) : Bool :=
  re.all fun e => match lookH hist e with
    | some me => match readE E o r m, readE E o r me with
      | some v, some u => E.eqv v u
      | _, _ => false
    | none => false
def drF (E : Env) (self : SelfF) (base : Nat) (ops : List SOp) : List (Nat × List Nat) → List (Nat × Mem) → T → Mem → Option (T × Mem)
  | [], _, t, m => some (t, m)
  | (i, re) :: rest, hist, t, m => match ops[i]? with
    | none => none
    | some o => match gF o.guard t with
      | some true => bif reF E o (fun x => evF x t) m hist re then match opF E.P self (base + i) o.op o.type (fun x => evF x t) m with
          | some (v, m') => drF E self base ops rest ((i, m) :: hist) (T.put? o.dst v t) m'
          | none => none
        else none
      | some false => drF E self base ops rest ((i, m) :: hist) (T.put? o.dst undef t) m
      | none => none

def resF (P : Program) (t : T) (m : Mem) : List ResultVar → Option (List Value)
  | [] => some []
  | .tmp k :: l => match resF P t m l with
    | some vs => some (t.get k :: vs)
    | none => none
  | .cell k ty :: l => match loadA P ty (t.get k) m, resF P t m l with
    | some v, some vs => some (v :: vs)
    | _, _ => none

def cSeq (self : SelfF) (rd : Option Nat) (b : SCode) (x : Option (OutF × Mem)) : Option (OutF × Mem) := match x with
  | some (.exit .normal t', m') => self (.code rd b t') m'
  | r => r
def cCond (self : SelfF) (rd : Option Nat) (v : Value) (a b : SCode) (t : T) (m : Mem) : Option (OutF × Mem) := match v with
  | .bool true => self (.code rd a t) m
  | .bool false => self (.code rd b t) m
  | _ => none
def cBlock (id : Nat) (x : Option (OutF × Mem)) : Option (OutF × Mem) := match x with
  | some (.exit (.exit k) t', m') => some (.exit (if k = id then .normal else .exit k) t', m')
  | r => r
def cScope (self : SelfF) (rd : Option Nat) (b : SCode) (x : Option (OutF × Mem)) : Option (OutF × Mem) := match x with
  | some (.exit (.goto l) t', m') => match sFind b l with
    | some r => self (.code rd (.again b r) t') m'
    | none => some (.exit (.goto l) t', m')
  | r => r
def cReg (x : Option (T × Mem)) : Option (OutF × Mem) := match x with
  | some (t', m') => some (.exit .normal t', m')
  | none => none
def cRfn1 (l : Nat) (t : T) (x : Option (OutF × Mem)) : Option (OutF × Mem) := match x with
  | some (.val _, m2) => match m2.get l with
    | some (.loop r) => if r.state = .busy then none else
      match r.pend with
      | none => some (.exit .normal t, m2.put l (.loop { r with state := .exhausted }))
      | some x => if pendX x then some (.exit x t, m2.put l (.loop { r with state := .exhausted })) else none
    | _ => none
  | _ => none
def cRfn (P : Program) (self : SelfF) (rd : Option Nat) (v : Value) (ps : List Tmp) (asg bd : SCode) (t : T) (m : Mem) : Option (OutF × Mem) := match v with
  | .func (.func g) first cap =>
    if callable P g && (match rd with | none => true | some l0 => isLoop (m.get l0)) then
      cRfn1 m.next t (self (.call g (first.toList ++ [.func (.yield m.next) #[] #[]] ++ cap.toList)) ((m.bump 1).put m.next (.loop { state := .ready, pend := none, tmps := t.toList, ps := ps, assign := asg, body := bd })))
    else none
  | _ => none
def stepCF (E : Env) (self : SelfF) (rd : Option Nat) (c : SCode) (t : T) (m : Mem) : Option (OutF × Mem) := match c with
  | .skip => some (.exit .normal t, m)
  | .exit id => some (.exit (.exit id) t, m)
  | .ret => some (.exit .ret t, m)
  | .seq a b => cSeq self rd b (self (.code rd a t) m)
  | .cond c a b => cCond self rd (evF c t) a b t m
  | .block id b => cBlock id (self (.code rd b t) m)
  | .loop b => cSeq self rd (.loop b) (self (.code rd b t) m)
  | .label _ => some (.exit .normal t, m)
  | .goto l => some (.exit (.goto l) t, m)
  | .scope b => cScope self rd b (self (.code rd b t) m)
  | .again b r => cScope self rd b (self (.code rd r t) m)
  | .reg ops => cReg (seqF E.P self ops m.next t (m.bump ops.length))
  | .dreg ops ord => cReg (drF E self m.next ops ord [] t (m.bump ops.length))
  | .rfn f ps asg bd => cRfn E.P self rd (evF f t) ps asg bd t m

def fRet (P : Program) (rs : List ResultVar) (x : Option (OutF × Mem)) : Option (OutF × Mem) := match x with
  | some (.exit .normal t', m') | some (.exit .ret t', m') => match resF P t' m' rs with
    | some vs => some (.val (oneOr vs), m')
    | none => none
  | _ => none
def fCall (E : Env) (self : SelfF) (f : FuncId) (args : List Value) (m : Mem) : Option (OutF × Mem) := match fnOf E.P f with
  | none => none
  | some s => fRet E.P s.results (self (.code none s.body (T.ofArgs s.ntmps args)) m)
def fPrim (x : Option (Value × Mem)) : Option (OutF × Mem) := match x with
  | some (v, m') => some (.val v, m')
  | none => none
def fRound3 (l : Nat) (x : Option (OutF × Mem)) : Option (OutF × Mem) := match x with
  | some (.exit x _, m3) => match m3.get l with
    | some (.loop r3) => match x with
      | .normal => some (.val (.bool true), m3.put l (.loop { r3 with state := .ready, pend := none }))
      | .ret => some (.val (.bool false), m3.put l (.loop { r3 with state := .done, pend := some .ret }))
      | .exit id => some (.val (.bool false), m3.put l (.loop { r3 with state := .done, pend := some (.exit id) }))
      | _ => none
    | _ => none
  | _ => none
def fRound2 (self : SelfF) (l : Nat) (body : SCode) (x : Option (OutF × Mem)) : Option (OutF × Mem) := match x with
  | some (.exit .normal t1, m1) => match m1.get l with
    | some (.loop r1) => if r1.state = .ready then fRound3 l (self (.code (some l) body t1) (m1.put l (.loop { r1 with state := .busy }))) else none
    | _ => none
  | _ => none
def fRound (self : SelfF) (l : Nat) (args : List Value) (m : Mem) : Option (OutF × Mem) := match m.get l with
  | some (.loop r) => if r.ps.length = args.length ∧ r.state = .ready then
      fRound2 self l r.body (self (.code (some l) r.assign (T.ofArgs 0 (setAll r.ps args r.tmps))) m)
    else none
  | _ => none
def stepF (E : Env) (self : SelfF) : TaskF → Mem → Option (OutF × Mem)
  | .code rd c t, m => stepCF E self rd c t m
  | .call f args, m => match E.prim f with
    | some p => fPrim (p args m)
    | none => fCall E self f args m
  | .round l args, m => fRound self l args m
def runF (E : Env) (n : Nat) : SelfF := Nat.rec (motive := fun _ => SelfF) (fun _ _ => none) (fun _ ih => stepF E ih) n
end
end Go.Ab
