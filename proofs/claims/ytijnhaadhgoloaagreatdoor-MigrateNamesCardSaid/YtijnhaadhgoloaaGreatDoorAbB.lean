/- An interpreter of our own over an abstract memory: how its values and memories stand to the model's. -/
import Derived.Test.YtijnhaadhgoloaaGreatDoorAbA
import Derived.MapKept
namespace Go.Ab

/-! ### cells -/
namespace Cells
theorem list_length (c : Cells) : c.list.length = c.n := by simp [list]
theorem list_get (c : Cells) (i : Nat) : c.list[i]? = if i < c.n then some (c.get i) else none := by
  unfold list
  rw [List.getElem?_map]
  by_cases h : i < c.n
  · rw [if_pos h, List.getElem?_range h]; rfl
  · rw [if_neg h, List.getElem?_eq_none (by simp; omega)]; rfl
theorem nth_eq (c : Cells) (i : Nat) : c.nth i = c.list[i]? := by rw [list_get]; rfl
theorem seg_get (c : Cells) : ∀ (k o i : Nat), (c.seg o k)[i]? = if i < k then some (c.get (o + i)) else none
  | 0, o, i => by simp [seg]
  | k + 1, o, i => by
    cases i with
    | zero => simp [seg]
    | succ i =>
      simp only [seg, List.getElem?_cons_succ, seg_get c k (o + 1) i]
      rw [show o + 1 + i = o + (i + 1) from by omega]
      by_cases h : i < k
      · rw [if_pos h, if_pos (by omega)]
      · rw [if_neg h, if_neg (by omega)]
theorem sub_eq (c : Cells) (o n : Nat) : c.sub o n = Ab.sub c.list o n := by
  unfold sub Ab.sub
  rw [list_length]
  by_cases h : o + n ≤ c.n
  · rw [if_pos h, if_pos h]
    congr 1
    apply List.ext_getElem?
    intro i
    rw [seg_get]
    by_cases hi : i < n
    · rw [if_pos hi, List.getElem?_take_of_lt hi, List.getElem?_drop, list_get, if_pos (by omega)]
    · rw [if_neg hi, List.getElem?_eq_none (by simp; omega)]
  · rw [if_neg h, if_neg h]
theorem putAll_get : ∀ (l : List Value) (t : Tr Value) (o i : Nat), (putAll t o l).get i = if o ≤ i ∧ i < o + l.length then l[i - o]? else t.get i
  | [], t, o, i => by simp [putAll]; omega
  | v :: l, t, o, i => by
    rw [putAll, putAll_get l _ (o + 1) i, Tr.get_put _ _ _ _ _ (Nat.le_refl o)]
    by_cases h : i = o
    · subst h
      rw [if_neg (by omega), if_pos rfl, if_pos ⟨Nat.le_refl _, by simp⟩]
      simp
    · by_cases h2 : o + 1 ≤ i ∧ i < o + 1 + l.length
      · rw [if_pos h2, if_pos ⟨by omega, by simp; omega⟩, show i - o = (i - (o + 1)) + 1 from by omega]
        simp
      · rw [if_neg h2, if_neg h, if_neg (by simp; omega)]
theorem get_of {t : Tr Value} {n i : Nat} {d v : Value} (h : t.get i = some v) : (⟨n, d, t⟩ : Cells).get i = v := by simp [get, h]
theorem get_else {t : Tr Value} {n i : Nat} {d : Value} (h : t.get i = none) : (⟨n, d, t⟩ : Cells).get i = d := by simp [get, h]
theorem write_list {c : Cells} {o : Nat} {new : List Value} (h : o + new.length ≤ c.n) : (c.write o new).list = splice c.list o new := by
  apply List.ext_getElem?
  intro i
  have hl : c.list.length = c.n := c.list_length
  rw [list_get]
  show (if i < c.n then some ((⟨c.n, c.d, putAll c.t o new⟩ : Cells).get i) else none) = _
  unfold splice
  by_cases hi : i < c.n
  · rw [if_pos hi]
    by_cases h1 : i < o
    · rw [List.append_assoc, List.getElem?_append_left (by simp; omega), List.getElem?_take_of_lt h1, list_get, if_pos hi]
      unfold get
      rw [putAll_get, if_neg (by omega)]
    · by_cases h2 : i < o + new.length
      · rw [List.append_assoc, List.getElem?_append_right (by simp; omega), List.getElem?_append_left (by simp; omega)]
        have e : i - (List.take o c.list).length = i - o := by simp; omega
        rw [e, List.getElem?_eq_getElem (by omega)]
        refine congrArg some (get_of ?_)
        rw [putAll_get, if_pos ⟨by omega, h2⟩, List.getElem?_eq_getElem (by omega)]
      · rw [List.getElem?_append_right (by simp; omega), List.getElem?_drop]
        have e : o + new.length + (i - (List.take o c.list ++ new).length) = i := by simp; omega
        rw [e, list_get, if_pos hi]
        unfold get
        rw [putAll_get, if_neg (by omega)]
  · rw [if_neg hi, List.getElem?_eq_none (by simp; omega)]
theorem ofList_list (l : List Value) : (ofList l).list = l := by
  apply List.ext_getElem?
  intro i
  rw [list_get]
  show (if i < l.length then some ((⟨l.length, undef, putAll .leaf 0 l⟩ : Cells).get i) else none) = _
  by_cases hi : i < l.length
  · rw [if_pos hi, List.getElem?_eq_getElem hi]
    refine congrArg some (get_of ?_)
    rw [putAll_get, if_pos ⟨by omega, by omega⟩, Nat.sub_zero, List.getElem?_eq_getElem hi]
  · rw [if_neg hi, List.getElem?_eq_none (by omega)]
theorem fill_list (z : List Value) (n : Nat) : (fill z n).list = zeros1 z n := by
  unfold fill
  split
  · rename_i v
    unfold list zeros1
    apply List.map_congr_left
    intro i _
    simp [get, Tr.get_leaf, Nat.mod_one]
  · exact ofList_list _
theorem more_list (c : Cells) (o : Nat) (new : List Value) : (c.more o new).list = c.list.drop o ++ new := by
  unfold more
  split
  · rename_i h
    subst h
    apply List.ext_getElem?
    intro i
    have hl : c.list.length = c.n := c.list_length
    rw [list_get, List.drop_zero]
    show (if i < c.n + new.length then some ((⟨c.n + new.length, c.d, putAll c.t c.n new⟩ : Cells).get i) else none) = _
    by_cases hi : i < c.n
    · rw [if_pos (by omega), List.getElem?_append_left (by omega), list_get, if_pos hi]
      unfold get
      rw [putAll_get, if_neg (by omega)]
    · by_cases h2 : i < c.n + new.length
      · rw [if_pos h2, List.getElem?_append_right (by omega), hl, List.getElem?_eq_getElem (by omega)]
        refine congrArg some (get_of ?_)
        rw [putAll_get, if_pos ⟨by omega, h2⟩, List.getElem?_eq_getElem (by omega)]
      · rw [if_neg h2, List.getElem?_eq_none (by simp; omega)]
  · exact ofList_list _
end Cells

/-- Of an abstract block: the model's block, the first cell there, how many elements more there is room for. -/
abbrev Rho := Nat → Option (Nat × Nat × Nat)

def Ext (ρ ρ' : Rho) : Prop := ∀ b x, ρ b = some x → ρ' b = some x

/-- What symbolic values stand for: whole numbers, truths, texts; and values that hang together with blocks. -/
structure Sig where
  S : Value → Value → Prop
  data : ∀ e v, S e v → (∃ k n, v = .int k n) ∨ (∃ b, v = .bool b) ∨ (∃ s, v = .string s)
  /-- Blocks that are not looked into: what is in them. -/
  F : Nat → Option (List Value) := fun _ => none
  T : Nat → Rho → Value → Prop := fun _ _ _ => False
  mono : ∀ j ρ ρ' v, Ext ρ ρ' → T j ρ v → T j ρ' v := by intro _ _ _ _ _ h; exact h.elim

inductive VRel (σ : Sig) (ρ : Rho) : Value → Value → Prop
  | bool (b : Bool) : VRel σ ρ (.bool b) (.bool b)
  | int (k : IntKind) (n : Int) : VRel σ ρ (.int k n) (.int k n)
  | float (k : FloatKind) (n : Nat) : VRel σ ρ (.float k n) (.float k n)
  | complex (k : FloatKind) (a b : Nat) : VRel σ ρ (.complex k a b) (.complex k a b)
  | string (s : ByteArray) : VRel σ ρ (.string s) (.string s)
  | nilFunc : VRel σ ρ .nilFunc .nilFunc
  | nilIface : VRel σ ρ .nilIface .nilIface
  | nilMap : VRel σ ρ (.map none) (.map none)
  | nilPtr : VRel σ ρ (.pointer none) (.pointer none)
  | nilSlice : VRel σ ρ (.slice none 0 0) (.slice none 0 0)
  | ptr {b b' o off sl : Nat} (h : ρ b = some (b', off, sl)) : VRel σ ρ (.pointer (some ⟨b, o, none⟩)) (.pointer (some ⟨b', off + o, none⟩))
  | slice {b b' o off sl n c c' : Nat} (h : ρ b = some (b', off, sl)) (hc : c' = c ∨ c' = c + sl) (hn : n ≤ c) :
      VRel σ ρ (.slice (some ⟨b, o, none⟩) n c) (.slice (some ⟨b', off + o, none⟩) n c')
  | lost (a : Addr) (c : Nat) : VRel σ ρ (.slice (some ⟨0, 0, some 0⟩) 0 0) (.slice (some a) 0 c)
  | map {b b' off sl : Nat} (h : ρ b = some (b', off, sl)) : VRel σ ρ (.map (some b)) (.map (some b'))
  | iface (t : TypeId) {v v' : Value} (h : VRel σ ρ v v') : VRel σ ρ (.iface t v) (.iface t v')
  | sym {nm : String} {args cap : Array Value} {v : Value} (h : σ.S (.func (.method nm) args cap) v) : VRel σ ρ (.func (.method nm) args cap) v
  | func {f : Fn} (hy : ∀ l, f ≠ .yield l) (hm : ∀ n, f ≠ .method n) {fs fs' cp cp' : Array Value} (h1 : fs.size = fs'.size) (h2 : ∀ i, i < fs.size → VRel σ ρ (fs.getD i undef) (fs'.getD i undef))
      (h3 : cp.size = cp'.size) (h4 : ∀ i, i < cp.size → VRel σ ρ (cp.getD i undef) (cp'.getD i undef)) : VRel σ ρ (.func f fs cp) (.func f fs' cp')
  | yield {l l' off sl : Nat} (h : ρ l = some (l', off, sl)) : VRel σ ρ (.func (.yield l) #[] #[]) (.func (.yield l') #[] #[])
  | junk {v : Value} : VRel σ ρ (.chan (some 0)) v
  | tie {j : Nat} {v : Value} (h : σ.T j ρ v) : VRel σ ρ (.chan (some (j + 1))) v
  | agg {cs cs' : Array Value} (h1 : cs.size = cs'.size) (h2 : ∀ i, i < cs.size → VRel σ ρ (cs.getD i undef) (cs'.getD i undef)) : VRel σ ρ (.agg cs) (.agg cs')
  | tuple {cs cs' : Array Value} (h1 : cs.size = cs'.size) (h2 : ∀ i, i < cs.size → VRel σ ρ (cs.getD i undef) (cs'.getD i undef)) : VRel σ ρ (.tuple cs) (.tuple cs')

variable {σ : Sig}

/-- Lists of values. -/
def LRel (σ : Sig) (ρ : Rho) (l l' : List Value) : Prop := l.length = l'.length ∧ ∀ i, i < l.length → VRel σ ρ (l.getD i undef) (l'.getD i undef)

theorem Ext.refl (ρ : Rho) : Ext ρ ρ := fun _ _ h => h
theorem Ext.trans {a b c : Rho} (h : Ext a b) (k : Ext b c) : Ext a c := fun x y e => k x y (h x y e)

theorem VRel.mono {ρ ρ' : Rho} (he : Ext ρ ρ') {v v' : Value} (h : VRel σ ρ v v') : VRel σ ρ' v v' := by
  induction h with
  | bool b => exact .bool b
  | int k n => exact .int k n
  | float k n => exact .float k n
  | complex k a b => exact .complex k a b
  | string s => exact .string s
  | nilFunc => exact .nilFunc
  | nilIface => exact .nilIface
  | nilMap => exact .nilMap
  | nilPtr => exact .nilPtr
  | nilSlice => exact .nilSlice
  | ptr h => exact .ptr (he _ _ h)
  | slice h hc hn => exact .slice (he _ _ h) hc hn
  | lost a c => exact .lost a c
  | map h => exact .map (he _ _ h)
  | iface t _ ih => exact .iface t ih
  | sym h => exact .sym h
  | func hy hm h1 _ h3 _ ih2 ih4 => exact .func hy hm h1 ih2 h3 ih4
  | yield h => exact .yield (he _ _ h)
  | junk => exact .junk
  | tie h => exact .tie (σ.mono _ _ _ _ he h)
  | agg h1 _ ih => exact .agg h1 ih
  | tuple h1 _ ih => exact .tuple h1 ih

theorem LRel.mono {ρ ρ' : Rho} (he : Ext ρ ρ') {l l' : List Value} (h : LRel σ ρ l l') : LRel σ ρ' l l' := ⟨h.1, fun i hi => (h.2 i hi).mono he⟩

theorem getD_toList (a : Array Value) (i : Nat) : a.getD i undef = a.toList.getD i undef := by
  rw [Array.getD_eq_getD_getElem?, List.getD_eq_getElem?_getD, Array.getElem?_toList]

theorem VRel.undef (ρ : Rho) : VRel σ ρ undef undef := .tuple rfl fun i h => absurd h (by simp)

theorem LRel.nil (ρ : Rho) : LRel σ ρ [] [] := ⟨rfl, fun _ h => absurd h (by simp)⟩
theorem LRel.cons {ρ : Rho} {v v' : Value} {l l' : List Value} (h : VRel σ ρ v v') (hl : LRel σ ρ l l') : LRel σ ρ (v :: l) (v' :: l') :=
  ⟨by simp [hl.1], fun i hi => by
    cases i with
    | zero => simpa using h
    | succ i => simpa using hl.2 i (by simpa using hi)⟩
theorem LRel.head {ρ : Rho} {v v' : Value} {l l' : List Value} (h : LRel σ ρ (v :: l) (v' :: l')) : VRel σ ρ v v' := by simpa using h.2 0 (by simp)
theorem LRel.tail {ρ : Rho} {v v' : Value} {l l' : List Value} (h : LRel σ ρ (v :: l) (v' :: l')) : LRel σ ρ l l' :=
  ⟨by simpa using h.1, fun i hi => by simpa using h.2 (i + 1) (by simpa using hi)⟩
theorem LRel.at_ {ρ : Rho} {l l' : List Value} (h : LRel σ ρ l l') (i : Nat) : VRel σ ρ (l.getD i Go.undef) (l'.getD i Go.undef) := by
  by_cases hi : i < l.length
  · exact h.2 i hi
  · have h1 : l.getD i Go.undef = Go.undef := by rw [List.getD_eq_getElem?_getD, List.getElem?_eq_none (by omega)]; rfl
    have h2 : l'.getD i Go.undef = Go.undef := by rw [List.getD_eq_getElem?_getD, List.getElem?_eq_none (by have := h.1; omega)]; rfl
    rw [h1, h2]
    exact VRel.undef ρ
theorem LRel.append {ρ : Rho} {a a' b b' : List Value} (h : LRel σ ρ a a') (k : LRel σ ρ b b') : LRel σ ρ (a ++ b) (a' ++ b') := by
  induction a generalizing a' with
  | nil =>
    cases a' with
    | nil => simpa using k
    | cons => exact absurd h.1 (by simp)
  | cons x a ih =>
    cases a' with
    | nil => exact absurd h.1 (by simp)
    | cons x' a' => exact LRel.cons h.head (ih h.tail)
theorem LRel.drop {ρ : Rho} {a a' : List Value} (h : LRel σ ρ a a') (n : Nat) : LRel σ ρ (a.drop n) (a'.drop n) := by
  induction n generalizing a a' with
  | zero => simpa using h
  | succ n ih =>
    cases a with
    | nil => cases a' with
      | nil => simpa using h
      | cons => exact absurd h.1 (by simp)
    | cons x a => cases a' with
      | nil => exact absurd h.1 (by simp)
      | cons x' a' => simpa using ih h.tail
theorem LRel.take {ρ : Rho} {a a' : List Value} (h : LRel σ ρ a a') (n : Nat) : LRel σ ρ (a.take n) (a'.take n) := by
  induction n generalizing a a' with
  | zero => simpa using LRel.nil ρ
  | succ n ih =>
    cases a with
    | nil => cases a' with
      | nil => simpa using h
      | cons => exact absurd h.1 (by simp)
    | cons x a => cases a' with
      | nil => exact absurd h.1 (by simp)
      | cons x' a' => simpa using LRel.cons h.head (ih h.tail)
theorem LRel.set {ρ : Rho} {a a' : List Value} {v v' : Value} (h : LRel σ ρ a a') (hv : VRel σ ρ v v') (n : Nat) : LRel σ ρ (a.set n v) (a'.set n v') := by
  induction n generalizing a a' with
  | zero =>
    cases a with
    | nil => cases a' with
      | nil => simpa using h
      | cons => exact absurd h.1 (by simp)
    | cons x a => cases a' with
      | nil => exact absurd h.1 (by simp)
      | cons x' a' => simpa using LRel.cons hv h.tail
  | succ n ih =>
    cases a with
    | nil => cases a' with
      | nil => simpa using h
      | cons => exact absurd h.1 (by simp)
    | cons x a => cases a' with
      | nil => exact absurd h.1 (by simp)
      | cons x' a' => simpa using LRel.cons h.head (ih h.tail)
theorem LRel.replicate (ρ : Rho) {v v' : Value} (h : VRel σ ρ v v') (n : Nat) : LRel σ ρ (List.replicate n v) (List.replicate n v') := by
  induction n with
  | zero => simpa using LRel.nil ρ
  | succ n ih => simpa [List.replicate_succ] using LRel.cons h ih
theorem LRel.get? {ρ : Rho} {a a' : List Value} (h : LRel σ ρ a a') {i : Nat} {v : Value} (hi : a[i]? = some v) : ∃ v', a'[i]? = some v' ∧ VRel σ ρ v v' := by
  have hlt : i < a.length := (List.getElem?_eq_some_iff.1 hi).1
  have hlt' : i < a'.length := by have := h.1; omega
  have := h.2 i hlt
  rw [List.getD_eq_getElem?_getD, List.getD_eq_getElem?_getD, hi, List.getElem?_eq_getElem hlt'] at this
  exact ⟨_, List.getElem?_eq_getElem hlt', this⟩

theorem LRel.agg {ρ : Rho} {cs cs' : Array Value} (h : LRel σ ρ cs.toList cs'.toList) : VRel σ ρ (.agg cs) (.agg cs') :=
  .agg (by simpa using h.1) fun i hi => by rw [getD_toList, getD_toList]; exact h.2 i (by simpa using hi)
theorem LRel.tuple {ρ : Rho} {cs cs' : Array Value} (h : LRel σ ρ cs.toList cs'.toList) : VRel σ ρ (.tuple cs) (.tuple cs') :=
  .tuple (by simpa using h.1) fun i hi => by rw [getD_toList, getD_toList]; exact h.2 i (by simpa using hi)
theorem lrel_of {ρ : Rho} {cs cs' : Array Value} (h1 : cs.size = cs'.size) (h2 : ∀ i, i < cs.size → VRel σ ρ (cs.getD i undef) (cs'.getD i undef)) : LRel σ ρ cs.toList cs'.toList :=
  ⟨by simpa using h1, fun i hi => by have := h2 i (by simpa using hi); rwa [getD_toList, getD_toList] at this⟩
theorem VRel.agg_inv {ρ : Rho} {cs : Array Value} {v : Value} (h : VRel σ ρ (.agg cs) v) : ∃ cs', v = .agg cs' ∧ LRel σ ρ cs.toList cs'.toList := by
  cases h with
  | agg h1 h2 => exact ⟨_, rfl, lrel_of h1 h2⟩
theorem VRel.tuple_inv {ρ : Rho} {cs : Array Value} {v : Value} (h : VRel σ ρ (.tuple cs) v) : ∃ cs', v = .tuple cs' ∧ LRel σ ρ cs.toList cs'.toList := by
  cases h with
  | tuple h1 h2 => exact ⟨_, rfl, lrel_of h1 h2⟩

theorem VRel.cells {ρ : Rho} {v v' : Value} (h : VRel σ ρ v v') (hj : isJunk v = false) : LRel σ ρ v.cells.toList v'.cells.toList := by
  cases h with
  | agg h1 h2 => exact lrel_of h1 h2
  | sym h =>
    have hv : VRel σ ρ (.func (.method _) _ _) v' := .sym h
    rcases σ.data _ _ h with ⟨k, n, rfl⟩ | ⟨b, rfl⟩ | ⟨s, rfl⟩ <;> exact LRel.cons hv (LRel.nil ρ)
  | junk => cases hj
  | tie => cases hj
  | _ => exact LRel.cons (by first | assumption | (constructor <;> assumption)) (LRel.nil ρ)

theorem VRel.oneCell {ρ : Rho} {v v' : Value} (h : VRel σ ρ v v') (h1 : oneCell v = true) : oneCell v' = true := by
  cases h with
  | sym h => rcases σ.data _ _ h with ⟨k, n, rfl⟩ | ⟨b, rfl⟩ | ⟨s, rfl⟩ <;> rfl
  | junk => cases h1
  | tie => cases h1
  | _ => first | rfl | cases h1

/-! ### values without addresses -/
theorem all_getD {p : Value → Bool} {l : List Value} (h : l.all p = true) {i : Nat} (hi : i < l.length) : p (l.getD i undef) = true := by
  rw [List.getD_eq_getElem?_getD, List.getElem?_eq_getElem hi]
  exact List.all_eq_true.1 h _ (List.getElem_mem hi)

theorem plainN_refl (ρ : Rho) : ∀ (n : Nat) (v : Value), plainN n v = true → VRel σ ρ v v := by
  intro n
  induction n with
  | zero =>
    intro v h
    cases v with
    | bool => exact .bool _
    | int => exact .int _ _
    | float => exact .float _ _
    | complex => exact .complex _ _ _
    | string => exact .string _
    | nilFunc => exact .nilFunc
    | nilIface => exact .nilIface
    | map r => cases r with
      | none => exact .nilMap
      | some r => simp [plainN] at h
    | pointer a => cases a with
      | none => exact .nilPtr
      | some a => simp [plainN] at h
    | slice a n c => cases a with
      | none => simp [plainN] at h; obtain ⟨rfl, rfl⟩ := h; exact .nilSlice
      | some a => simp [plainN] at h
    | _ => simp [plainN] at h
  | succ n ih =>
    intro v h
    cases v with
    | bool => exact .bool _
    | int => exact .int _ _
    | float => exact .float _ _
    | complex => exact .complex _ _ _
    | string => exact .string _
    | nilFunc => exact .nilFunc
    | nilIface => exact .nilIface
    | map r => cases r with
      | none => exact .nilMap
      | some r => simp [plainN] at h
    | pointer a => cases a with
      | none => exact .nilPtr
      | some a => simp [plainN] at h
    | slice a n c => cases a with
      | none => simp [plainN] at h; obtain ⟨rfl, rfl⟩ := h; exact .nilSlice
      | some a => simp [plainN] at h
    | iface t v => exact .iface t (ih v (by simpa [plainN] using h))
    | agg cs => exact LRel.agg ⟨rfl, fun i hi => ih _ (all_getD (by simpa only [plainN] using h) hi)⟩
    | tuple cs => exact LRel.tuple ⟨rfl, fun i hi => ih _ (all_getD (by simpa only [plainN] using h) hi)⟩
    | _ => simp [plainN] at h
theorem plain_refl (ρ : Rho) {v : Value} (h : plain v = true) : VRel σ ρ v v := plainN_refl ρ 6 v h

theorem list_ext_getD {l l' : List Value} (h1 : l.length = l'.length) (h : ∀ i, i < l.length → l.getD i undef = l'.getD i undef) : l = l' := by
  apply List.ext_getElem h1
  intro i hi hi'
  have := h i hi
  rwa [List.getD_eq_getElem?_getD, List.getD_eq_getElem?_getD, List.getElem?_eq_getElem hi, List.getElem?_eq_getElem hi'] at this

theorem plain_noJunk {v : Value} (h : plain v = true) : isJunk v = false := by
  cases v <;> first | rfl | (simp [plain, plainN] at h; done)
theorem noJunk_of {v : Value} (h : v.cells.toList.all oneCell = true) : isJunk v = false := by
  cases v <;> first | rfl | (simp [Value.cells, oneCell] at h; done)
theorem plainN_eq {ρ : Rho} : ∀ (n : Nat) (v v' : Value), plainN n v = true → VRel σ ρ v v' → v = v' := by
  intro n
  induction n with
  | zero =>
    intro v v' h hr
    cases hr <;> first | rfl | (simp [plainN] at h)
  | succ n ih =>
    intro v v' h hr
    cases hr with
    | iface t hv => rw [ih _ _ (by simpa [plainN] using h) hv]
    | agg h1 h2 =>
      have hl := lrel_of h1 h2
      congr 1
      apply Array.toList_inj.1
      exact list_ext_getD hl.1 fun i hi => ih _ _ (all_getD (by simpa only [plainN] using h) hi) (hl.2 i hi)
    | tuple h1 h2 =>
      have hl := lrel_of h1 h2
      congr 1
      apply Array.toList_inj.1
      exact list_ext_getD hl.1 fun i hi => ih _ _ (all_getD (by simpa only [plainN] using h) hi) (hl.2 i hi)
    | _ => first | rfl | (simp [plainN] at h)
theorem plain_eq {ρ : Rho} {v v' : Value} (h : plain v = true) (hr : VRel σ ρ v v') : v = v' := plainN_eq 6 v v' h hr

/-! ### memories -/
def wr : AObj → Bool
  | .cells _ rw _ => rw
  | .map _ rw => rw
  | .strIter _ _ => true
  | .loop _ => true
  | .frz _ => false

def PendRel : Option Exit → Option Code → Prop
  | none, none => True
  | some .ret, some .ret => True
  | some (.exit i), some (.exit j) => i = j
  | _, _ => False

def CellsRel (σ : Sig) (ρ : Rho) (w : World) (x : Nat × Nat × Nat) (cs : List Value) (rw : Bool) (sz : Nat) : Prop :=
  ∃ cs' t fz, w.heap[x.1]? = some (.cells cs' t fz) ∧ x.2.1 + cs.length + x.2.2 * sz ≤ cs'.size ∧ ((rw = true → fz = (0, 0)) ∧ (sz = 0 → x.2.1 = 0)) ∧
    ∀ i, i < cs.length → VRel σ ρ (cs.getD i undef) (cs'.getD (x.2.1 + i) undef)

def ORel (σ : Sig) (ρ : Rho) (w : World) (x : Nat × Nat × Nat) : AObj → Prop
  | .cells cs rw sz => CellsRel σ ρ w x cs.list rw sz
  | .map es _ => ∃ es' clock, w.heap[x.1]? = some (.map es' clock) ∧ MapKept.Stamped es' clock ∧ es.length = es'.size ∧
      ∀ (i : Nat) (e : Value × Value), es[i]? = some e → ∃ e' : MapEntry, es'[i]? = some e' ∧ VRel σ ρ e.1 e'.key ∧ VRel σ ρ e.2 e'.val
  | .strIter s pos => w.heap[x.1]? = some (.stringIter s pos) ∧ x.2.1 = 0
  | .loop r => ∃ r', w.heap[x.1]? = some (.loop r') ∧ r'.state = r.state ∧ PendRel r.pend r'.pending ∧ LRel σ ρ r.tmps r'.tmps.toList ∧ r'.params.toList = r.ps ∧
      comp r'.assign = some r.assign ∧ comp r'.body = some r.body
  | .frz tag => ∃ C cs' t fz, σ.F tag = some C ∧ w.heap[x.1]? = some (.cells cs' t fz) ∧ x.2.1 + C.length + x.2.2 ≤ cs'.size ∧ ∀ i, i < C.length → cs'.getD (x.2.1 + i) undef = C.getD i undef

structure Rel (σ : Sig) (ρ : Rho) (m : Mem) (w : World) : Prop where
  dom : ∀ b, m.next ≤ b → ρ b = none
  glob : ∀ g, g < 64 → ρ g = some (g, 0, 0)
  obj : ∀ b o x, m.get b = some o → ρ b = some x → ORel σ ρ w x o
  inj : ∀ b1 b2 o1 o2 x1 x2, b1 ≠ b2 → m.get b1 = some o1 → m.get b2 = some o2 → ρ b1 = some x1 → ρ b2 = some x2 → wr o1 = true → x1.1 ≠ x2.1
  fresh : ∀ b, m.next ≤ b → m.get b = none

structure Post (σ : Sig) (ρ : Rho) (m : Mem) (w : World) (ρ' : Rho) (m' : Mem) (w' : World) : Prop where
  rel : Rel σ ρ' m' w'
  ext : Ext ρ ρ'
  next : m.next ≤ m'.next
  size : w.heap.size ≤ w'.heap.size
  os : w'.os = w.os
  tape : w'.tape = w.tape
  output : w'.output = w.output
  frame : ∀ k, k < w.heap.size → (∀ b o x, m.get b = some o → wr o = true → ρ b = some x → x.1 ≠ k) → w'.heap[k]? = w.heap[k]?
  img : ∀ b o x, m'.get b = some o → ρ' b = some x → x.1 < w.heap.size → ∃ b0 o0 x0, m.get b0 = some o0 ∧ ρ b0 = some x0 ∧ x0.1 = x.1 ∧ (wr o = true → wr o0 = true)

theorem Post.refl {ρ : Rho} {m : Mem} {w : World} (h : Rel σ ρ m w) : Post σ ρ m w ρ m w :=
  ⟨h, Ext.refl ρ, Nat.le_refl _, Nat.le_refl _, rfl, rfl, rfl, fun _ _ _ => rfl, fun b o x hb hx _ => ⟨b, o, x, hb, hx, rfl, id⟩⟩

/-- The numbers below n that were free stay free (but one). -/
def Old (n : Nat) (ρ ρ' : Rho) : Prop := ∀ b, b < n → ρ b = none → ρ' b = none
def OldBut (n i : Nat) (ρ ρ' : Rho) : Prop := ∀ b, b < n → b ≠ i → ρ b = none → ρ' b = none

theorem Post.trans {ρ ρ1 ρ2 : Rho} {m m1 m2 : Mem} {w w1 w2 : World} (h : Post σ ρ m w ρ1 m1 w1) (k : Post σ ρ1 m1 w1 ρ2 m2 w2) : Post σ ρ m w ρ2 m2 w2 :=
  ⟨k.rel, h.ext.trans k.ext, Nat.le_trans h.next k.next, Nat.le_trans h.size k.size,
    k.os.trans h.os, k.tape.trans h.tape, k.output.trans h.output,
    fun i hi hf => by
      refine (k.frame i (Nat.lt_of_lt_of_le hi h.size) ?_).trans (h.frame i hi hf)
      intro b o x hb hw hx hk
      obtain ⟨b0, o0, x0, h1, h2, h3, h4⟩ := h.img b o x hb hx (hk ▸ hi)
      exact hf b0 o0 x0 h1 (h4 hw) h2 (h3.trans hk),
    fun b o x hb hx hlt => by
      obtain ⟨b1, o1, x1, h1, h2, h3, h4⟩ := k.img b o x hb hx (Nat.lt_of_lt_of_le hlt h.size)
      obtain ⟨b0, o0, x0, g1, g2, g3, g4⟩ := h.img b1 o1 x1 h1 h2 (h3 ▸ hlt)
      exact ⟨b0, o0, x0, g1, g2, g3.trans h3, fun hw => g4 (h4 hw)⟩⟩

/-! ### the objects under a change of the world -/
theorem ORel.keep {ρ ρ' : Rho} {w w' : World} {x : Nat × Nat × Nat} {o : AObj} (h : ORel σ ρ w x o) (he : Ext ρ ρ') (hh : w'.heap[x.1]? = w.heap[x.1]?) : ORel σ ρ' w' x o := by
  cases o with
  | cells cs rw sz =>
    obtain ⟨cs', t, fz, h1, h2, h3, h4⟩ := h
    exact ⟨cs', t, fz, hh.trans h1, h2, h3, fun i hi => (h4 i hi).mono he⟩
  | map es rw =>
    obtain ⟨es', c, h1, hst, h2, h3⟩ := h
    exact ⟨es', c, hh.trans h1, hst, h2, fun i e hi => let ⟨e', g1, g2, g3⟩ := h3 i e hi; ⟨e', g1, g2.mono he, g3.mono he⟩⟩
  | strIter s pos => exact ⟨hh.trans h.1, h.2⟩
  | loop r =>
    obtain ⟨r', h1, h2, h3, h4, h5, h6, h7⟩ := h
    exact ⟨r', hh.trans h1, h2, h3, h4.mono he, h5, h6, h7⟩
  | frz tag =>
    obtain ⟨C, cs', t, fz, h1, h2, h3, h4⟩ := h
    exact ⟨C, cs', t, fz, h1, hh.trans h2, h3, h4⟩

theorem ORel.lt {ρ : Rho} {w : World} {x : Nat × Nat × Nat} {o : AObj} (h : ORel σ ρ w x o) : x.1 < w.heap.size := by
  have key : ∀ y : Obj, w.heap[x.1]? = some y → x.1 < w.heap.size := fun y hy => (Array.getElem?_eq_some_iff.1 hy).1
  cases o with
  | cells cs rw sz => obtain ⟨cs', t, fz, h1, _⟩ := h; exact key _ h1
  | map es rw => obtain ⟨es', c, h1, _⟩ := h; exact key _ h1
  | strIter s pos => exact key _ h.1
  | loop r => obtain ⟨r', h1, _⟩ := h; exact key _ h1
  | frz tag => obtain ⟨C, cs', t, fz, _, h1, _⟩ := h; exact key _ h1

/-- Only the count of draws has moved. -/
theorem Rel.drew {ρ : Rho} {m : Mem} {w : World} (h : Rel σ ρ m w) : Rel σ ρ m w.drew :=
  ⟨h.dom, h.glob, fun b o x hb hx => (h.obj b o x hb hx).keep (Ext.refl ρ) rfl, h.inj, h.fresh⟩
theorem Rel.bump {ρ : Rho} {m : Mem} {w : World} (h : Rel σ ρ m w) (n : Nat) : Rel σ ρ (m.bump n) w :=
  ⟨fun b hb => h.dom b (by simp at hb; omega), h.glob, h.obj, h.inj, fun b hb => h.fresh b (by simp at hb; omega)⟩

/-- A new block of the model's for an abstract one that had none. -/
def upd (ρ : Rho) (b : Nat) (x : Nat × Nat × Nat) : Rho := fun k => if k = b then some x else ρ k
theorem upd_same (ρ : Rho) (b : Nat) (x : Nat × Nat × Nat) : upd ρ b x b = some x := by simp [upd]
theorem upd_ext {ρ : Rho} {b : Nat} (h : ρ b = none) (x : Nat × Nat × Nat) : Ext ρ (upd ρ b x) := by
  intro k y hk
  have : k ≠ b := fun e => by rw [e, h] at hk; cases hk
  simp [upd, this, hk]

/-- A block is made. -/
theorem Post.make {ρ : Rho} {m : Mem} {w : World} (h : Rel σ ρ m w) {id : Nat} (hid : ρ id = none) (hlt : id < m.next) {ob : AObj} {co : Obj} {x : Nat × Nat × Nat} (hx : x.1 = w.heap.size)
    (hob : ORel σ (upd ρ id x) (w.alloc co) x ob) : Post σ ρ m w (upd ρ id x) (m.put id ob) (w.alloc co) := by
  have he := upd_ext hid x
  have hge : 64 ≤ id := by
    rcases Nat.lt_or_ge id 64 with hl | hl
    · rw [h.glob id hl] at hid; cases hid
    · exact hl
  have hold : ∀ k, k < w.heap.size → (w.alloc co).heap[k]? = w.heap[k]? := fun k hk => by
    show (w.heap.push co)[k]? = _
    rw [Array.getElem?_push, if_neg (by omega)]
  refine ⟨⟨fun b hb => ?_, fun g hg => ?_, fun b o y hb hy => ?_, ?_, fun b hb => by rw [Mem.get_put, if_neg (by simp at hb; omega)]; exact h.fresh b hb⟩, he, Nat.le_refl _, by simp, rfl, rfl, rfl, fun k hk _ => hold k hk, fun b o y hb hy hlt' => ?_⟩
  · have : b ≠ id := by simp at hb; omega
    simp only [upd, this, if_false]
    exact h.dom b hb
  · have : g ≠ id := by omega
    simp only [upd, this, if_false]
    exact h.glob g hg
  · rw [Mem.get_put] at hb
    by_cases e : b = id
    · subst e
      rw [if_pos rfl] at hb
      cases hb
      rw [upd_same] at hy
      cases hy
      exact hob
    · rw [if_neg e] at hb
      have hy' : ρ b = some y := by simpa [upd, e] using hy
      have := h.obj b o y hb hy'
      exact this.keep he (hold _ this.lt)
  · intro b1 b2 o1 o2 x1 x2 hne h1 h2 g1 g2 hw
    rw [Mem.get_put] at h1 h2
    by_cases e1 : b1 = id
    · subst e1
      rw [upd_same] at g1
      cases g1
      rw [if_neg (fun e => hne e.symm)] at h2
      have e' : b2 ≠ b1 := fun e => hne e.symm
      have g2' : ρ b2 = some x2 := by simpa [upd, e'] using g2
      have := (h.obj b2 o2 x2 h2 g2').lt
      omega
    · rw [if_neg e1] at h1
      have g1' : ρ b1 = some x1 := by simpa [upd, e1] using g1
      by_cases e2 : b2 = id
      · subst e2
        rw [upd_same] at g2
        cases g2
        have := (h.obj b1 o1 x1 h1 g1').lt
        omega
      · rw [if_neg e2] at h2
        have g2' : ρ b2 = some x2 := by simpa [upd, e2] using g2
        exact h.inj b1 b2 o1 o2 x1 x2 hne h1 h2 g1' g2' hw
  · rw [Mem.get_put] at hb
    by_cases e : b = id
    · subst e
      rw [upd_same] at hy
      cases hy
      omega
    · rw [if_neg e] at hb
      exact ⟨b, o, y, hb, by simpa [upd, e] using hy, rfl, fun hw => hw⟩
end Go.Ab
