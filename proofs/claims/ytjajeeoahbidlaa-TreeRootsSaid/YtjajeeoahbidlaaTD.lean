/- Runs on open terms: rules for 'simp'. What follows an operation is hidden, as an instance: 'simp' does not look into it. -/
import Derived.Test.YtjajeeoahbidlaaTC
namespace Go.Ab
noncomputable section
variable {P : Program} {E : Env} {n0 : Nat} {rd : Option Nat}

class PI where
  p : Prop
class KI where
  k : List Inst → List Value → Mem → Prop
class VI (α : Type) where
  k : α → Prop
class QI where
  k : Exit → List Value → Mem → Prop
class CI where
  k : List Inst → Value → Mem → Prop
def XWi (E : Env) (base : Nat) (xs : List (Nat × SOp)) (L : List Inst) (t : List Value) (m : Mem) [Q : KI] : Prop := XW E base xs L t m Q.k
def YWi (E : Env) (base : Nat) (ys : List (Nat × SOp × List Nat × Bool)) (h : List (Nat × Option Mem)) (L : List Inst) (t : List Value) (m : Mem) [Q : KI] : Prop := YW E base ys h L t m Q.k
def TDi (b : Bool) [A : PI] : Prop := b = true ∧ A.p
theorem TDi_t {A : Prop} : TDi true (A := ⟨A⟩) = A := by simp [TDi]
def okI {α : Type} (x : Option α) [k : VI α] : Prop := okP x k.k
def GDi (c : Value) (b : Bool) [A : PI] [B : PI] : Prop := GD c b A.p B.p
def CallI (E : Env) (L : List Inst) (tk : Task) (m : Mem) [K : CI] : Prop := CallW E L tk m K.k
def CDi (c : Value) [A : PI] [B : PI] : Prop := match c with
  | .bool v => (v = true → A.p) ∧ (v = false → B.p)
  | _ => False
def WXi (E : Env) (n0 : Nat) (rd : Option Nat) (c : SCode) (t : List Value) (m : Mem) [Q : QI] : Prop := WX E n0 rd c t m Q.k
theorem okI_some {α : Type} {a : α} {k : α → Prop} : okI (some a) (k := ⟨k⟩) = k a := rfl
theorem nilV_ptr {a : Addr} : nilV (.pointer (some a)) = some (.pointer (some a)) := rfl
theorem nilV_func {f : FuncId} {a c : Array Value} : nilV (.func (.func f) a c) = some (.func (.func f) a c) := rfl
theorem nilV_yield {f : Nat} {a c : Array Value} : nilV (.func (.yield f) a c) = some (.func (.yield f) a c) := rfl
theorem GDi_tt {A B : Prop} : GDi (.bool true) true (A := ⟨A⟩) (B := ⟨B⟩) = A := by
  unfold GDi; rw [GD_bool]; simp
theorem GDi_tf {A B : Prop} : GDi (.bool true) false (A := ⟨A⟩) (B := ⟨B⟩) = B := by
  unfold GDi; rw [GD_bool]; simp
theorem GDi_ft {A B : Prop} : GDi (.bool false) true (A := ⟨A⟩) (B := ⟨B⟩) = B := by
  unfold GDi; rw [GD_bool]; simp
theorem GDi_ff {A B : Prop} : GDi (.bool false) false (A := ⟨A⟩) (B := ⟨B⟩) = A := by
  unfold GDi; rw [GD_bool]; simp
theorem CDi_t {A B : Prop} : CDi (.bool true) (A := ⟨A⟩) (B := ⟨B⟩) = A := by simp [CDi]
theorem CDi_f {A B : Prop} : CDi (.bool false) (A := ⟨A⟩) (B := ⟨B⟩) = B := by simp [CDi]
theorem CDi_split {v : Bool} {A B : PI} (h1 : v = true → A.p) (h2 : v = false → B.p) : CDi (.bool v) (A := A) (B := B) := ⟨h1, h2⟩
theorem GDi_split {v b : Bool} {A B : PI} (h1 : v = b → A.p) (h2 : v ≠ b → B.p) : GDi (.bool v) b (A := A) (B := B) := (GD_bool _ _ _ _).2 ⟨h1, h2⟩
section
variable {base i : Nat} {rest : List (Nat × SOp)} {L : List Inst} {t : List Value} {m : Mem} {K : KI} {ty rt : TypeId} {d : Tmp}
theorem X_nil {k : List Inst → List Value → Mem → Prop} : XWi E base [] L t m (Q := ⟨k⟩) = k L t m := rfl
section
variable (hs : ∀ o r, E.sym o r = none)
include hs
theorem X_guard {dst : Option Tmp} {op : Op} {g : Tmp} {b : Bool} : XWi E base ((i, ⟨dst, op, ty, some (g, b)⟩) :: rest) L t m (Q := K) = GDi (t.getD g undef) b (A := ⟨XWi E base ((i, ⟨dst, op, ty, none⟩) :: rest) L t m (Q := K)⟩) (B := ⟨XWi E base rest L (putT dst undef t) m (Q := K)⟩) := propext (XW_guard hs)
theorem X_pick  {a b c : Operand} : XWi E base ((i, ⟨some d, .pick c a b, ty, none⟩) :: rest) L t m (Q := K) = okI (pickV (ev c t) (ev a t) (ev b t)) (k := ⟨fun v => XWi E base rest L (t.set d v) m (Q := K)⟩) := propext (XW_pick hs)
theorem X_bin  {op : BinOp} {yt : TypeId} {x y : Operand} (h : isCmp op = false) : XWi E base ((i, ⟨some d, .binOp op ty x y yt, rt, none⟩) :: rest) L t m (Q := K) = okI (binV E.P op ty (ev x t) (ev y t)) (k := ⟨fun v => XWi E base rest L (t.set d v) m (Q := K)⟩) := propext (XW_bin hs h)
theorem X_eql  {yt : TypeId} {x y : Operand} : XWi E base ((i, ⟨some d, .binOp .eql ty x y yt, rt, none⟩) :: rest) L t m (Q := K) = okI (eqA E.P .eql ty x y (ev x t) (ev y t) m) (k := ⟨fun v => XWi E base rest L (t.set d v) m (Q := K)⟩) := propext (XW_eql hs)
theorem X_neq  {yt : TypeId} {x y : Operand} : XWi E base ((i, ⟨some d, .binOp .neq ty x y yt, rt, none⟩) :: rest) L t m (Q := K) = okI (eqA E.P .neq ty x y (ev x t) (ev y t) m) (k := ⟨fun v => XWi E base rest L (t.set d v) m (Q := K)⟩) := propext (XW_neq hs)
theorem X_un  {op : UnOp} {x : Operand} : XWi E base ((i, ⟨some d, .unOp op ty x, rt, none⟩) :: rest) L t m (Q := K) = okI (unV E.P op (ev x t)) (k := ⟨fun v => XWi E base rest L (t.set d v) m (Q := K)⟩) := propext (XW_un hs)
theorem X_nilCheck  {x : Operand} : XWi E base ((i, ⟨some d, .nilCheck x, ty, none⟩) :: rest) L t m (Q := K) = okI (nilV (ev x t)) (k := ⟨fun v => XWi E base rest L (t.set d v) m (Q := K)⟩) := propext (XW_nilCheck hs)
theorem X_fieldAddr  {x : Operand} {f off : Nat} (hf : fieldOff E.P ty f = some off) : XWi E base ((i, ⟨some d, .fieldAddr ty x f, rt, none⟩) :: rest) L t m (Q := K) = okI (offV (ev x t) off) (k := ⟨fun v => XWi E base rest L (t.set d v) m (Q := K)⟩) := propext (XW_fieldAddr hs hf)
theorem X_field  {x : Operand} {f : Nat} : XWi E base ((i, ⟨some d, .field ty x f, rt, none⟩) :: rest) L t m (Q := K) = okI (pureA E.P ⟨some d, .field ty x f, rt, none⟩ (ev · t)) (k := ⟨fun v => XWi E base rest L (t.set d v) m (Q := K)⟩) := propext (XW_field hs)
theorem X_indexAddr  {x y : Operand} : XWi E base ((i, ⟨some d, .indexAddr ty x y, rt, none⟩) :: rest) L t m (Q := K) = okI (idxV E.P ty (ev x t) (ev y t)) (k := ⟨fun v => XWi E base rest L (t.set d v) m (Q := K)⟩) := propext (XW_indexAddr hs)
theorem X_extract  {x : Operand} {k : Nat} : XWi E base ((i, ⟨some d, .extract x k, ty, none⟩) :: rest) L t m (Q := K) = okI (match ev x t with | .tuple vs => vs[k]? | _ => none) (k := ⟨fun v => XWi E base rest L (t.set d v) m (Q := K)⟩) := propext (XW_extract hs)
theorem X_makeFunc  {f : FuncId} {a c : Array Operand} : XWi E base ((i, ⟨some d, .makeFunc (.func f) a c, ty, none⟩) :: rest) L t m (Q := K) = XWi E base rest L (t.set d (.func (.func f) (a.map (ev · t)) (c.map (ev · t)))) m (Q := K) := propext (XW_makeFunc hs)
theorem X_build  {ps : Array (Nat × Operand)} : XWi E base ((i, ⟨some d, .build ty ps, rt, none⟩) :: rest) L t m (Q := K) = okI (buildA E.P ty (ps.toList.map fun p => (p.1, ev p.2 t))) (k := ⟨fun v => XWi E base rest L (t.set d v) m (Q := K)⟩) := propext (XW_build hs)
theorem X_slice  {x : Operand} {l h : Option Operand} : XWi E base ((i, ⟨some d, .slice ty x l h none, rt, none⟩) :: rest) L t m (Q := K) = okI (sliceA E.P ty (ev x t) (l.map (ev · t)) (h.map (ev · t))) (k := ⟨fun v => XWi E base rest L (t.set d v) m (Q := K)⟩) := propext (XW_slice hs)
theorem X_load  {a : Operand} : XWi E base ((i, ⟨some d, .load ty a, rt, none⟩) :: rest) L t m (Q := K) = okI (loadA E.P ty (ev a t) m) (k := ⟨fun v => XWi E base rest L (t.set d v) m (Q := K)⟩) := propext (XW_load hs)
theorem X_lookup  {x k : Operand} {ok : Bool} : XWi E base ((i, ⟨some d, .lookup ty x k ok, rt, none⟩) :: rest) L t m (Q := K) = okI (lookupA E.P ty (ev x t) (ev k t) ok m) (k := ⟨fun v => XWi E base rest L (t.set d v) m (Q := K)⟩) := propext (XW_lookup hs)
theorem X_convert  {s e : TypeId} {x : Operand} : XWi E base ((i, ⟨some d, .convert s e x, rt, none⟩) :: rest) L t m (Q := K) = okI (convV E.P s e (ev x t) m) (k := ⟨fun v => XWi E base rest L (t.set d v) m (Q := K)⟩) := propext (XW_convert hs)
theorem X_len  {x : Operand} : XWi E base ((i, ⟨some d, .call ⟨.builtin .len, #[x], #[ty]⟩, rt, none⟩) :: rest) L t m (Q := K) = okI (lenA E.P ty (ev x t) m) (k := ⟨fun v => XWi E base rest L (t.set d v) m (Q := K)⟩) := propext (XW_len hs)
end
theorem X_move  {x : Operand} : XWi E base ((i, ⟨some d, .move x, ty, none⟩) :: rest) L t m (Q := K) = XWi E base rest L (t.set d (ev x t)) m (Q := K) := propext (XW_move)
theorem X_assign  {x : Operand} : XWi E base ((i, ⟨some d, .assign x, ty, none⟩) :: rest) L t m (Q := K) = XWi E base rest L (t.set d (ev x t)) m (Q := K) := propext (XW_assign)
theorem X_alloc  : XWi E base ((i, ⟨some d, .alloc ty, rt, none⟩) :: rest) L t m (Q := K) = okI (zeroL E.P ty) (k := ⟨fun z => XWi E base rest L (t.set d (.pointer (some ⟨base + i, 0, none⟩))) (m.put (base + i) (.cells (.ofList z) true 0)) (Q := K)⟩) := propext (XW_alloc)
theorem X_box  {x : Operand} : XWi E base ((i, ⟨some d, .box ty x, rt, none⟩) :: rest) L t m (Q := K) = okI (boxL (ev x t)) (k := ⟨fun z => XWi E base rest L (t.set d (.pointer (some ⟨base + i, 0, none⟩))) (m.put (base + i) (.cells (.ofList z) true 0)) (Q := K)⟩) := propext (XW_box)
theorem X_buildSlice  {n : Nat} {ps : Array (Nat × Operand)} : XWi E base ((i, ⟨some d, .buildSlice ty n ps, rt, none⟩) :: rest) L t m (Q := K) = okI (makeA E.P ⟨some d, .buildSlice ty n ps, rt, none⟩ (ev · t)) (k := ⟨fun q => XWi E base rest L (t.set d (q.2 (base + i))) (m.put (base + i) q.1) (Q := K)⟩) := propext (XW_buildSlice)
theorem X_makeMap  : XWi E base ((i, ⟨some d, .makeMap ty none, rt, none⟩) :: rest) L t m (Q := K) = XWi E base rest L (t.set d (.map (some (base + i)))) (m.put (base + i) (.map [] true)) (Q := K) := propext (XW_makeMap)
theorem X_makeSlice  {l c : Operand} : XWi E base ((i, ⟨some d, .makeSlice ty l c, rt, none⟩) :: rest) L t m (Q := K) = okI (makeA E.P ⟨some d, .makeSlice ty l c, rt, none⟩ (ev · t)) (k := ⟨fun q => XWi E base rest L (t.set d (q.2 (base + i))) (m.put (base + i) q.1) (Q := K)⟩) := propext (XW_makeSlice)
theorem X_store  {a x : Operand} : XWi E base ((i, ⟨none, .store ty a x, rt, none⟩) :: rest) L t m (Q := K) = okI (storeA E.P ty (ev a t) (ev x t) m) (k := ⟨fun m' => XWi E base rest L t m' (Q := K)⟩) := propext (XW_store)
theorem X_mapUpdate  {a k x : Operand} : XWi E base ((i, ⟨none, .mapUpdate ty a k x, rt, none⟩) :: rest) L t m (Q := K) = okI (mapSetA E.P ty (ev a t) (ev k t) (ev x t) m) (k := ⟨fun m' => XWi E base rest L t m' (Q := K)⟩) := propext (XW_mapUpdate)
theorem X_append  {a x : Operand} {ts : Array TypeId} : XWi E base ((i, ⟨some d, .call ⟨.builtin .append, #[a, x], ts⟩, rt, none⟩) :: rest) L t m (Q := K) = okI (appendA E.P (base + i) ts (ev a t) (ev x t) m) (k := ⟨fun q => XWi E base rest L (t.set d q.1) q.2 (Q := K)⟩) := propext (XW_append)
theorem X_delete  {a x : Operand} {ts : Array TypeId} {dst : Option Tmp} : XWi E base ((i, ⟨dst, .call ⟨.builtin .delete, #[a, x], ts⟩, rt, none⟩) :: rest) L t m (Q := K) = okI (deleteA E.P ts (ev a t) (ev x t) m) (k := ⟨fun m' => XWi E base rest L (putT dst (.tuple #[]) t) m' (Q := K)⟩) := propext (XW_delete)
/-! regions that read again -/
theorem Y_nil {h : List (Nat × Option Mem)} {k : List Inst → List Value → Mem → Prop} : YWi E base [] h L t m (Q := ⟨k⟩) = k L t m := rfl
section
variable {h : List (Nat × Option Mem)} {ys : List (Nat × SOp × List Nat × Bool)} {kp : Bool} {e : Nat} {l : List Nat}
theorem Y_0 {o : SOp} : YWi E base ((i, o, [], kp) :: ys) h L t m (Q := K) = XWi E base [(i, o)] L t m (Q := ⟨fun L' t' m' => YWi E base ys ((i, keepM kp m) :: h) L' t' m' (Q := K)⟩) := by
  refine propext ⟨fun h => h.2, fun h => ⟨trivial, h⟩⟩
theorem Y_re {dst : Option Tmp} {op : Op} : YWi E base ((i, ⟨dst, op, ty, none⟩, e :: l, kp) :: ys) h L t m (Q := K) =
    okI (readE E ⟨dst, op, ty, none⟩ (ev · t) m) (k := ⟨fun v => okI (lookK h e) (k := ⟨fun me => okI (readE E ⟨dst, op, ty, none⟩ (ev · t) me) (k := ⟨fun u => TDi (E.eqv v u) (A := ⟨YWi E base ((i, ⟨dst, op, ty, none⟩, l, kp) :: ys) h L t m (Q := K)⟩)⟩)⟩)⟩) := by
  refine propext (Iff.trans ?_ okP_iff.symm)
  constructor
  · rintro ⟨⟨_, h1⟩, h2⟩
    obtain ⟨⟨v, a1, me, a2, u, a3, a4⟩, a5⟩ := h1 rfl
    exact ⟨v, a1, okP_iff.2 ⟨me, a2, okP_iff.2 ⟨u, a3, a4, by cases l with | nil => trivial | cons _ _ => exact ⟨rfl, fun _ => a5⟩, h2⟩⟩⟩
  · rintro ⟨v, a1, h1⟩
    obtain ⟨me, a2, h1⟩ := okP_iff.1 h1
    obtain ⟨u, a3, a4, a5, a6⟩ := okP_iff.1 h1
    refine ⟨⟨rfl, fun _ => ⟨⟨v, a1, me, a2, u, a3, a4⟩, ?_⟩⟩, a6⟩
    cases l with
    | nil => trivial
    | cons _ _ => exact a5.2 rfl
variable (hs : ∀ o r, E.sym o r = none)
include hs
theorem reP_guard {dst : Option Tmp} {op : Op} {g : Option (Tmp × Bool)} : ∀ {l : List Nat}, reP E ⟨dst, op, ty, g⟩ t m h l ↔ reP E ⟨dst, op, ty, none⟩ t m h l
  | [] => Iff.rfl
  | e :: l => by
    have hr : ∀ m, readE E ⟨dst, op, ty, g⟩ (ev · t) m = readE E ⟨dst, op, ty, none⟩ (ev · t) m := fun m => by
      simp only [readE_none hs]
      rfl
    unfold reP
    simp only [hr]
    exact and_congr_right fun _ => reP_guard
theorem Y_guard {dst : Option Tmp} {op : Op} {g : Tmp} {b : Bool} : YWi E base ((i, ⟨dst, op, ty, some (g, b)⟩, e :: l, kp) :: ys) h L t m (Q := K) =
    GDi (t.getD g undef) b (A := ⟨YWi E base ((i, ⟨dst, op, ty, none⟩, e :: l, kp) :: ys) h L t m (Q := K)⟩) (B := ⟨YWi E base ys ((i, keepM kp m) :: h) L (putT dst undef t) m (Q := K)⟩) := by
  have e1 : gOk (some (g, b)) t = gOk (some (0, b)) [t.getD g undef] := rfl
  have e2 : wanted (some (g, b)) t = wanted (some (0, b)) [t.getD g undef] := rfl
  refine propext ?_
  show ReW E ⟨dst, op, ty, some (g, b)⟩ t m h (e :: l) ∧ XW E base [(i, ⟨dst, op, ty, some (g, b)⟩)] L t m _ ↔ GD _ _ (ReW E ⟨dst, op, ty, none⟩ t m h (e :: l) ∧ XW E base [(i, ⟨dst, op, ty, none⟩)] L t m _) _
  have k1 : ReW E ⟨dst, op, ty, some (g, b)⟩ t m h (e :: l) ↔ (gOk (some (0, b)) [t.getD g undef] = true ∧ (wanted (some (0, b)) [t.getD g undef] = true → reP E ⟨dst, op, ty, none⟩ t m h (e :: l))) := by
    rw [← e1, ← e2, ← reP_guard hs (g := some (g, b))]
    exact Iff.rfl
  have k2 : ReW E ⟨dst, op, ty, none⟩ t m h (e :: l) ↔ reP E ⟨dst, op, ty, none⟩ t m h (e :: l) := ⟨fun h => h.2 rfl, fun h => ⟨rfl, fun _ => h⟩⟩
  rw [XW_guard hs, k1, k2]
  generalize XW E base [(i, ⟨dst, op, ty, none⟩)] L t m _ = A
  generalize reP E ⟨dst, op, ty, none⟩ t m h (e :: l) = R
  show _ ∧ GD _ _ A (YW E base ys ((i, keepM kp m) :: h) L (putT dst undef t) m K.k) ↔ GD _ _ _ (YW E base ys ((i, keepM kp m) :: h) L (putT dst undef t) m K.k)
  generalize YW E base ys ((i, keepM kp m) :: h) L (putT dst undef t) m K.k = B
  unfold GD
  simp only [gOk, wanted, List.getD_cons_zero]
  cases hc : t.getD g undef with
  | bool c =>
    by_cases e : c = b
    · simp [e]
    · simp [e]
  | func f _ _ => cases f <;> simp
  | _ => simp
theorem RE_load {dst : Option Tmp} {g : Option (Tmp × Bool)} {a : Operand} : readE E ⟨dst, .load ty a, rt, g⟩ (ev · t) m = loadA E.P ty (ev a t) m := by
  rw [readE_none hs]; rfl
theorem RE_lookup {dst : Option Tmp} {g : Option (Tmp × Bool)} {x k : Operand} {ok : Bool} : readE E ⟨dst, .lookup ty x k ok, rt, g⟩ (ev · t) m = lookupA E.P ty (ev x t) (ev k t) ok m := by
  rw [readE_none hs]; rfl
end
theorem keepM_t : keepM true m = some m := rfl
theorem keepM_f : keepM false m = none := rfl
theorem lookK_cons {j k : Nat} {x : Option Mem} {h : List (Nat × Option Mem)} : lookK ((j, x) :: h) k = if j = k then x else lookK h k := rfl
theorem X_call {dst : Option Tmp} {f : FuncId} {args : Array Operand} {ts : Array TypeId} (hc : callable E.P f = true) : XWi E base ((i, ⟨dst, .call ⟨.value (.func f), args, ts⟩, rt, none⟩) :: rest) L t m (Q := K) = CallI E L (.call f (args.toList.map (ev · t))) m (K := ⟨fun L' v m' => XWi E base rest L' (putT dst v t) m' (Q := K)⟩) := propext (XW_call hc)
end
section
variable {t : List Value} {m : Mem} {Q : Exit → List Value → Mem → Prop} {a b : SCode} {i : Nat}
theorem W_skip : WXi E n0 rd .skip t m (Q := ⟨Q⟩) = Q .normal t m := rfl
theorem W_exit : WXi E n0 rd (.exit i) t m (Q := ⟨Q⟩) = Q (.exit i) t m := rfl
theorem W_ret : WXi E n0 rd .ret t m (Q := ⟨Q⟩) = Q .ret t m := rfl
def thenQ (E : Env) (n0 : Nat) (rd : Option Nat) (b : SCode) (Q : Exit → List Value → Mem → Prop) (x : Exit) (t : List Value) (m : Mem) : Prop := match x with
  | .normal => WX E n0 rd b t m Q
  | x => Q x t m
theorem W_seq : WXi E n0 rd (.seq a b) t m (Q := ⟨Q⟩) = WXi E n0 rd a t m (Q := ⟨thenQ E n0 rd b Q⟩) := rfl
theorem W_label : WXi E n0 rd (.label i) t m (Q := ⟨Q⟩) = Q .normal t m := rfl
theorem thenQ_normal : thenQ E n0 rd b Q .normal t m = WXi E n0 rd b t m (Q := ⟨Q⟩) := rfl
theorem thenQ_ret : thenQ E n0 rd b Q .ret t m = Q .ret t m := rfl
theorem thenQ_exit : thenQ E n0 rd b Q (.exit i) t m = Q (.exit i) t m := rfl
theorem W_cond {c : Operand} : WXi E n0 rd (.cond c a b) t m (Q := ⟨Q⟩) = CDi (ev c t) (A := ⟨WXi E n0 rd a t m (Q := ⟨Q⟩)⟩) (B := ⟨WXi E n0 rd b t m (Q := ⟨Q⟩)⟩) := rfl
def blockQ (i : Nat) (Q : Exit → List Value → Mem → Prop) (x : Exit) (t : List Value) (m : Mem) : Prop := Q (match x with | .exit k => if k = i then .normal else .exit k | x => x) t m
theorem W_block : WXi E n0 rd (.block i b) t m (Q := ⟨Q⟩) = WXi E n0 rd b t m (Q := ⟨blockQ i Q⟩) := rfl
theorem blockQ_normal : blockQ i Q .normal t m = Q .normal t m := rfl
theorem blockQ_ret : blockQ i Q .ret t m = Q .ret t m := rfl
theorem blockQ_exit {k : Nat} : blockQ i Q (.exit k) t m = Q (if k = i then .normal else .exit k) t m := rfl
def scopeQ (Q : Exit → List Value → Mem → Prop) (x : Exit) (t : List Value) (m : Mem) : Prop := (∀ l, x ≠ .goto l) ∧ Q x t m
theorem W_scope : WXi E n0 rd (.scope b) t m (Q := ⟨Q⟩) = WXi E n0 rd b t m (Q := ⟨scopeQ Q⟩) := rfl
theorem scopeQ_normal : scopeQ Q .normal t m = Q .normal t m := by simp [scopeQ]
theorem scopeQ_ret : scopeQ Q .ret t m = Q .ret t m := by simp [scopeQ]
theorem scopeQ_exit {k : Nat} : scopeQ Q (.exit k) t m = Q (.exit k) t m := by simp [scopeQ]
end

/-- The end of a function. -/
def FinC (P : Program) (rs : List ResultVar) (m : Mem) (v : Value) (m' : Mem) (x : Exit) (t : List Value) (m1 : Mem) : Prop :=
  (x = .normal ∨ x = .ret) ∧ ∃ vs, resA P t m1 rs = some vs ∧ ∃ Φ, Tidy m m1 (oneOr vs) v m' Φ
/-- What is left behind a call. -/
def TidyE (m m1 : Mem) (v1 v : Value) (m' : Mem) : Prop := ∃ Φ, Tidy m m1 v1 v m' Φ
section
variable {rs : List ResultVar} {m m' m1 : Mem} {v v1 : Value} {t vs : List Value}
theorem FinC_ret : FinC P rs m v m' .ret t m1 = okI (resA P t m1 rs) (k := ⟨fun vs => TidyE m m1 (oneOr vs) v m'⟩) := by
  refine propext (Iff.trans ?_ okP_iff.symm)
  exact ⟨fun h => h.2, fun h => ⟨.inr rfl, h⟩⟩
theorem FinC_normal : FinC P rs m v m' .normal t m1 = okI (resA P t m1 rs) (k := ⟨fun vs => TidyE m m1 (oneOr vs) v m'⟩) := by
  refine propext (Iff.trans ?_ okP_iff.symm)
  exact ⟨fun h => h.2, fun h => ⟨.inl rfl, h⟩⟩
end

structure Fresh (m : Mem) : Prop where
  n64 : 64 ≤ m.next
  none : ∀ b, m.next ≤ b → m.get b = none
theorem Fresh.lt {m : Mem} (h : Fresh m) {b : Nat} {o : AObj} (hb : m.get b = some o) : b < m.next := by
  rcases Nat.lt_or_ge b m.next with h1 | h1
  · exact h1
  · rw [h.none b h1] at hb; cases hb
theorem fresh_of {σ : Sig} {ρ : Rho} {m : Mem} {w : World} (hR : Rel σ ρ m w) : Fresh m := by
  refine ⟨?_, hR.fresh⟩
  rcases Nat.lt_or_ge m.next 64 with h | h
  · have := hR.glob m.next h
    rw [hR.dom _ (Nat.le_refl _)] at this
    cases this
  · exact h

/-- What a call comes to. -/
def Con (P : Program) (f : FuncId) (args : List Value) (m : Mem) (v : Value) (m' : Mem) : Prop := CallOk Sig.none P f args m v m' ∧ Grow m m'

theorem Con.of (hE : EnvOk E) {f : FuncId} {s : SFunc} {args : List Value} {m m' : Mem} {v : Value} (hf : fnOf E.P f = some s) (hl : args.length ≤ s.ntmps) (hg : Grow m m')
    (h : Fresh m → WXi E m.next none s.body (T s.ntmps (enumV 0 args)) m (Q := ⟨FinC E.P s.results m v m'⟩)) : Con E.P f args m v m' := by
  by_cases hm : Fresh m
  · exact WX.call hE hf ⟨hl, h hm⟩
  · refine ⟨fun ρ w args' hR ha => ?_, hg⟩
    exact absurd (fresh_of hR) hm
theorem Grow.rfl {m : Mem} : Grow m m := ⟨Nat.le_refl _, fun _ _ e => e⟩
theorem CallI.con {L : List Inst} {f : FuncId} {args : List Value} {m m' : Mem} {v : Value} {K : List Inst → Value → Mem → Prop} (h : Con E.P f args m v m') (hL : ∀ c ∈ L, c.tk = .call f args → c.m = m → c.v = v ∧ c.m' = m') (hK : K (⟨.call f args, m, v, m'⟩ :: L) v m') : CallI E L (.call f args) m (K := ⟨K⟩) := CallW.of h hL hK
theorem CallI.con0 {f : FuncId} {args : List Value} {m m' : Mem} {v : Value} {K : List Inst → Value → Mem → Prop} (h : Con E.P f args m v m') (hK : K [⟨.call f args, m, v, m'⟩] v m') : CallI E [] (.call f args) m (K := ⟨K⟩) := CallW.of h (by simp) hK

theorem StepX.mono {L : List Inst} {id : Nat} {o : SOp} {t : List Value} {m : Mem} {K K' : List Inst → Value → Mem → Prop} (hk : ∀ L v m, K L v m → K' L v m) (h : StepX E L id o t m K) : StepX E L id o t m K' := by
  rcases h with ⟨v, m', h1, h2⟩ | ⟨tk, m1, v, m2, h1, h2, h3, h4⟩
  · exact .inl ⟨v, m', h1, hk _ _ _ h2⟩
  · exact .inr ⟨tk, m1, v, m2, h1, h2, h3, hk _ _ _ h4⟩
theorem XW.mono {base : Nat} {Q Q' : List Inst → List Value → Mem → Prop} (hq : ∀ L t m, Q L t m → Q' L t m) : ∀ {xs : List (Nat × SOp)} {L : List Inst} {t : List Value} {m : Mem}, XW E base xs L t m Q → XW E base xs L t m Q'
  | [], _, _, _, h => hq _ _ _ h
  | (_, _) :: _, _, _, _, h => ⟨h.1, h.2.imp (fun h => ⟨h.1, StepX.mono (fun _ _ _ h => XW.mono hq h) h.2⟩) fun h => ⟨h.1, XW.mono hq h.2⟩⟩
theorem YW.mono {base : Nat} {Q Q' : List Inst → List Value → Mem → Prop} (hq : ∀ L t m, Q L t m → Q' L t m) : ∀ {ys : List (Nat × SOp × List Nat × Bool)} {h : List (Nat × Option Mem)} {L : List Inst} {t : List Value} {m : Mem}, YW E base ys h L t m Q → YW E base ys h L t m Q'
  | [], _, _, _, _, h => hq _ _ _ h
  | (_, _, _, _) :: _, _, _, _, _, h => ⟨h.1, XW.mono (fun _ _ _ h => YW.mono hq h) h.2⟩
theorem LW.mono {B : List Value → Mem → (Exit → List Value → Mem → Prop) → Prop} (hB : ∀ t m (Q Q' : Exit → List Value → Mem → Prop), (∀ x t m, Q x t m → Q' x t m) → B t m Q → B t m Q') {Q Q' : Exit → List Value → Mem → Prop} (hq : ∀ x t m, Q x t m → Q' x t m) : ∀ {N : Nat} {t : List Value} {m : Mem}, LW n0 rd B N t m Q → LW n0 rd B N t m Q'
  | 0, _, _, h => h.elim
  | N + 1, t, m, h => by
    obtain ⟨t1, m1, h1, h2⟩ := h
    refine ⟨t1, m1, h1, hB _ _ _ _ (fun x t m hx => ?_) h2⟩
    cases x with
    | normal => exact LW.mono hB hq hx
    | _ => obtain ⟨t2, m2, h3, h4⟩ := hx; exact ⟨t2, m2, h3, hq _ _ _ h4⟩
theorem WX.mono : ∀ {c : SCode} {t : List Value} {m : Mem} {Q Q' : Exit → List Value → Mem → Prop}, (∀ x t m, Q x t m → Q' x t m) → WX E n0 rd c t m Q → WX E n0 rd c t m Q' := by
  intro c
  induction c with
  | skip => intro t m Q Q' hq h; exact hq _ _ _ h
  | exit i => intro t m Q Q' hq h; exact hq _ _ _ h
  | ret => intro t m Q Q' hq h; exact hq _ _ _ h
  | seq a b iha ihb =>
    intro t m Q Q' hq h
    refine iha (fun x t m hx => ?_) h
    cases x with
    | normal => exact ihb hq hx
    | _ => exact hq _ _ _ hx
  | cond c a b iha ihb =>
    intro t m Q Q' hq h
    simp only [WX] at h ⊢
    split at h
    · exact ⟨fun e => iha hq (h.1 e), fun e => ihb hq (h.2 e)⟩
    · exact h.elim
  | block i b ih =>
    intro t m Q Q' hq h
    exact ih (fun x t m hx => hq _ _ _ hx) h
  | loop b ih =>
    intro t m Q Q' hq h
    obtain ⟨N, h⟩ := h
    exact ⟨N, LW.mono (B := WX E n0 rd b) (fun _ _ _ _ hq h => ih hq h) hq h⟩
  | reg ops =>
    intro t m Q Q' hq h
    exact ⟨h.1, XW.mono (fun _ t m h => hq _ _ _ h) h.2⟩
  | dreg ops ord =>
    intro t m Q Q' hq h
    refine ⟨h.1, ?_⟩
    have h2 := h.2
    split at h2
    · exact XW.mono (fun _ t m h => hq _ _ _ h) h2
    · split at h2
      · exact YW.mono (fun _ t m h => hq _ _ _ h) h2
      · exact h2.elim
  | scope b ih =>
    intro t m Q Q' hq h
    exact ih (fun x t m hx => ⟨hx.1, hq _ _ _ hx.2⟩) h
  | label => intro t m Q Q' hq h; exact hq _ _ _ h
  | goto => intro t m Q Q' hq h; exact h.elim
  | again => intro t m Q Q' hq h; exact h.elim
  | rfn => intro t m Q Q' hq h; obtain ⟨x, t', m', h1, h2⟩ := h; exact ⟨x, t', m', h1, hq _ _ _ h2⟩

theorem View.refl {t : List Value} {m : Mem} : View Sig.none Sig.none n0 rd t m t m := fun ρ _ _ _ hR ht hr => ⟨ρ, hR, ht, hr, fun _ _ => rfl, fun b o x hb hx => ⟨b, o, x, hb, hx, rfl, rfl⟩⟩
theorem View.trans {t t1 t2 : List Value} {m m1 m2 : Mem} (h : View Sig.none Sig.none n0 rd t m t1 m1) (k : View Sig.none Sig.none n0 rd t1 m1 t2 m2) : View Sig.none Sig.none n0 rd t m t2 m2 := by
  intro ρ w ts l hR ht hr
  obtain ⟨ρ1, a1, a2, a3, a4, a5⟩ := h ρ w ts l hR ht hr
  obtain ⟨ρ2, b1, b2, b3, b4, b5⟩ := k ρ1 w ts l a1 a2 a3
  refine ⟨ρ2, b1, b2, b3, fun b hb => (b4 b hb).trans (a4 b hb), fun b o x hb hx => ?_⟩
  obtain ⟨c, o1, x1, e1, e2, e3, e4⟩ := b5 b o x hb hx
  obtain ⟨d, o2, x2, f1, f2, f3, f4⟩ := a5 c o1 x1 e1 e2
  exact ⟨d, o2, x2, f1, f2, f3.trans e3, f4.trans e4⟩

/-- What follows a round. -/
def roundQ (n0 : Nat) (rd : Option Nat) (I : Nat → List Value → Mem → Prop) (k : Nat) (Q : Exit → List Value → Mem → Prop) (x : Exit) (t : List Value) (m : Mem) : Prop := match x with
  | .normal => ∃ k' t1 m1, k' < k ∧ View Sig.none Sig.none n0 rd t m t1 m1 ∧ I k' t1 m1
  | x => Q x t m
theorem roundQ_normal {I : Nat → List Value → Mem → Prop} {k : Nat} {Q : Exit → List Value → Mem → Prop} {t : List Value} {m : Mem} : roundQ n0 rd I k Q .normal t m = ∃ k' t1 m1, k' < k ∧ View Sig.none Sig.none n0 rd t m t1 m1 ∧ I k' t1 m1 := rfl
theorem roundQ_exit {I : Nat → List Value → Mem → Prop} {k i : Nat} {Q : Exit → List Value → Mem → Prop} {t : List Value} {m : Mem} : roundQ n0 rd I k Q (.exit i) t m = Q (.exit i) t m := rfl
theorem roundQ_ret {I : Nat → List Value → Mem → Prop} {k : Nat} {Q : Exit → List Value → Mem → Prop} {t : List Value} {m : Mem} : roundQ n0 rd I k Q .ret t m = Q .ret t m := rfl
/-- A loop, by an invariant and a measure. -/
theorem WX.loop_of {b : SCode} {Q : Exit → List Value → Mem → Prop} (I : Nat → List Value → Mem → Prop)
    (step : ∀ k t m, I k t m → WXi E n0 rd b t m (Q := ⟨roundQ n0 rd I k Q⟩))
    {k : Nat} {t t1 : List Value} {m m1 : Mem} (hv : View Sig.none Sig.none n0 rd t m t1 m1) (h : I k t1 m1) : WXi E n0 rd (.loop b) t m (Q := ⟨Q⟩) := by
  have key : ∀ N k, k < N → ∀ t m t1 m1, View Sig.none Sig.none n0 rd t m t1 m1 → I k t1 m1 → LW n0 rd (WX E n0 rd b) N t m Q := by
    intro N
    induction N with
    | zero => intro k hk; omega
    | succ N ih =>
      intro k hk t m t1 m1 hv h
      refine ⟨t1, m1, hv, WX.mono (fun x t m hx => ?_) (step k t1 m1 h)⟩
      cases x with
      | normal =>
        obtain ⟨k', t2, m2, h1, h2, h3⟩ := hx
        exact ih k' (by omega) _ _ _ _ h2 h3
      | _ => exact ⟨t, m, View.refl, hx⟩
  exact ⟨k + 1, key _ k (Nat.lt_succ_self _) _ _ _ _ hv h⟩
end
end Go.Ab
