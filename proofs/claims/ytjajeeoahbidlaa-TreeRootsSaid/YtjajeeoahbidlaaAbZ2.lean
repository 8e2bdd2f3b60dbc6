/- An interpreter of our own: what is known of symbolic values, as a list of facts; calls of pure functions. -/
import Derived.Test.YtjajeeoahbidlaaAbZ1
namespace Go.Ab
noncomputable section

def dataB : Value → Bool
  | .int .. | .bool _ | .string _ => true
  | _ => false

/-- A symbolic value: its number. -/
def leaf (k : Nat) : Value := .func (.method "") #[.int .i64 k] #[]
def leafNo (fs : Array Value) : Nat := match fs.getD 0 undef with
  | .int _ n => n.toNat
  | _ => 0

/-- A slice of which length and elements are symbolic: its length, cells of an element; the block (here) of all its cells; blocks (here) of single elements, with their indexes; what is in its cells. -/
structure Tie where
  (L sz whole : Nat)
  elems : List (Nat × Nat) := []
  cells : List Value := []
def Tie.rel (t : Tie) (ρ : Rho) (v : Value) : Prop :=
  (t.L = 0 ∧ ∃ a C, v = .slice a 0 C) ∨ ∃ k off C, v = .slice (some ⟨k, off, none⟩) t.L C ∧ (∃ sl, ρ t.whole = some (k, off, sl)) ∧ ∀ e ∈ t.elems, e.2 < t.L ∧ ∃ sl, ρ e.1 = some (k, off + e.2 * t.sz, sl)

/-- The symbolic values stand for these. -/
def sigOf (ds : List Value) (ts : List Tie := []) : Sig where
  S e v := ∃ nm fs cs, e = .func (.method nm) fs cs ∧ v = ds.getD (leafNo fs) undef ∧ dataB v = true
  data e v h := by
    obtain ⟨_, _, _, _, _, h⟩ := h
    cases v <;> first | (cases h; done) | skip
    · exact .inr (.inl ⟨_, rfl⟩)
    · exact .inl ⟨_, _, rfl⟩
    · exact .inr (.inr ⟨_, rfl⟩)
  F j := (ts[j]?).map (·.cells)
  T j ρ v := ∃ t, ts[j]? = some t ∧ t.rel ρ v
  mono j ρ ρ' v he h := by
    obtain ⟨t, h1, hn | ⟨k, off, C, h2, h3, h4⟩⟩ := h
    · exact ⟨t, h1, .inl hn⟩
    exact ⟨t, h1, .inr ⟨k, off, C, h2, h3.imp fun sl h => he _ _ h, fun e he' => ⟨(h4 e he').1, (h4 e he').2.imp fun sl h => he _ _ h⟩⟩⟩

/-- What a value stands for. -/
def erN (ds : List Value) : Nat → Value → Value
  | _, .func (.method _) fs _ => ds.getD (leafNo fs) undef
  | n + 1, .iface t v => .iface t (erN ds n v)
  | n + 1, .agg cs => .agg (cs.toList.map (erN ds n)).toArray
  | n + 1, .tuple cs => .tuple (cs.toList.map (erN ds n)).toArray
  | _, v => v
def er (ds : List Value) (v : Value) : Value := erN ds 6 v

/-- Values that hold no address, symbolic ones among them. -/
def plainL (len : Nat) : Nat → Value → Bool
  | _, .func (.method _) fs _ => decide (leafNo fs < len)
  | _, .bool _ | _, .int .. | _, .float .. | _, .complex .. | _, .string _ | _, .nilFunc | _, .nilIface | _, .map none => true
  | _, .pointer a => a.isNone
  | _, .slice a n c => a.isNone && n == 0 && c == 0
  | n + 1, .iface _ v => plainL len n v
  | n + 1, .agg cs => cs.toList.all (plainL len n)
  | n + 1, .tuple cs => cs.toList.all (plainL len n)
  | _, _ => false

variable {ds : List Value} {ts : List Tie} {ρ : Rho}

theorem dataB_self {σ : Sig} {v : Value} (h : dataB v = true) : VRel σ ρ v v := by
  cases v <;> first | (cases h; done) | constructor
theorem dataB_eq {σ : Sig} {v v' : Value} (h : dataB v = true) (hv : VRel σ ρ v v') : v' = v := by
  cases v <;> first | (cases h; done) | (cases hv; rfl)
theorem dataB_plain {n : Nat} {v : Value} (h : dataB v = true) : plainN n v = true := by
  cases v <;> first | (cases h; done) | (cases n <;> rfl)

theorem getD_map {f : Value → Value} (cs : Array Value) (i : Nat) (hi : i < cs.size) : (cs.toList.map f).toArray.getD i undef = f (cs.getD i undef) := by
  have h1 : i < cs.toList.length := by simpa using hi
  rw [getD_toList, getD_toList, List.getD_eq_getElem?_getD, List.getD_eq_getElem?_getD]
  simp [hi]

theorem rel_er (hd : ∀ d ∈ ds, dataB d = true) : ∀ (n : Nat) (v : Value), plainL ds.length n v = true → VRel (sigOf ds ts) ρ v (erN ds n v) := by
  have lf : ∀ nm fs cs, leafNo fs < ds.length → VRel (sigOf ds ts) ρ (.func (.method nm) fs cs) (ds.getD (leafNo fs) undef) := fun nm fs cs h =>
    .sym ⟨nm, fs, cs, rfl, rfl, hd _ (by rw [List.getD_eq_getElem?_getD, List.getElem?_eq_getElem h]; exact List.getElem_mem h)⟩
  intro n
  induction n with
  | zero =>
    intro v h
    cases v with
    | func f fs cs =>
      cases f with
      | method nm => exact lf _ _ _ (by simpa [plainL] using h)
      | _ => simp [plainL] at h
    | pointer a => cases a with
      | none => exact .nilPtr
      | some a => simp [plainL] at h
    | slice a n c => cases a with
      | none => simp [plainL] at h; obtain ⟨rfl, rfl⟩ := h; exact .nilSlice
      | some a => simp [plainL] at h
    | map r => cases r with
      | none => exact .nilMap
      | some r => simp [plainL] at h
    | bool => exact .bool _
    | int => exact .int _ _
    | float => exact .float _ _
    | complex => exact .complex _ _ _
    | string => exact .string _
    | nilFunc => exact .nilFunc
    | nilIface => exact .nilIface
    | _ => simp [plainL] at h
  | succ n ih =>
    intro v h
    cases v with
    | func f fs cs =>
      cases f with
      | method nm => exact lf _ _ _ (by simpa [plainL] using h)
      | _ => simp [plainL] at h
    | pointer a => cases a with
      | none => exact .nilPtr
      | some a => simp [plainL] at h
    | slice a n c => cases a with
      | none => simp [plainL] at h; obtain ⟨rfl, rfl⟩ := h; exact .nilSlice
      | some a => simp [plainL] at h
    | map r => cases r with
      | none => exact .nilMap
      | some r => simp [plainL] at h
    | bool => exact .bool _
    | int => exact .int _ _
    | float => exact .float _ _
    | complex => exact .complex _ _ _
    | string => exact .string _
    | nilFunc => exact .nilFunc
    | nilIface => exact .nilIface
    | iface t v => exact .iface _ (ih _ (by simpa [plainL] using h))
    | agg cs =>
      simp only [plainL, List.all_eq_true] at h
      refine .agg (by simp) fun i hi => ?_
      rw [getD_map cs i hi]
      refine ih _ (h _ ?_)
      rw [getD_toList, List.getD_eq_getElem?_getD, List.getElem?_eq_getElem (by simpa using hi)]
      exact List.getElem_mem _
    | tuple cs =>
      simp only [plainL, List.all_eq_true] at h
      refine .tuple (by simp) fun i hi => ?_
      rw [getD_map cs i hi]
      refine ih _ (h _ ?_)
      rw [getD_toList, List.getD_eq_getElem?_getD, List.getElem?_eq_getElem (by simpa using hi)]
      exact List.getElem_mem _
    | _ => simp [plainL] at h

theorem er_plain (hd : ∀ d ∈ ds, dataB d = true) : ∀ (n : Nat) (v : Value), plainL ds.length n v = true → plainN n (erN ds n v) = true := by
  have lf : ∀ n fs, leafNo fs < ds.length → plainN n (ds.getD (leafNo fs) undef) = true := fun n fs h =>
    dataB_plain (hd _ (by rw [List.getD_eq_getElem?_getD, List.getElem?_eq_getElem h]; exact List.getElem_mem h))
  intro n
  induction n with
  | zero =>
    intro v h
    cases v with
    | func f fs cs =>
      cases f with
      | method nm => exact lf _ _ (by simpa [plainL] using h)
      | _ => simp [plainL] at h
    | map r => cases r <;> simp [plainL] at h <;> simp [erN, plainN]
    | pointer a => cases a <;> simp [plainL] at h <;> simp [erN, plainN]
    | slice a k c => cases a <;> simp [plainL] at h <;> simp [erN, plainN, h]
    | _ => first | (simp [plainL] at h; done) | simp [erN, plainN]
  | succ n ih =>
    intro v h
    cases v with
    | func f fs cs =>
      cases f with
      | method nm => exact lf _ _ (by simpa [plainL] using h)
      | _ => simp [plainL] at h
    | map r => cases r <;> simp [plainL] at h <;> simp [erN, plainN]
    | iface t v => simp only [erN, plainN]; exact ih _ (by simpa [plainL] using h)
    | agg cs =>
      simp only [plainL, List.all_eq_true] at h
      simp only [erN, plainN, List.all_eq_true, List.mem_map]
      rintro _ ⟨v, hv, rfl⟩
      exact ih _ (h v hv)
    | tuple cs =>
      simp only [plainL, List.all_eq_true] at h
      simp only [erN, plainN, List.all_eq_true, List.mem_map]
      rintro _ ⟨v, hv, rfl⟩
      exact ih _ (h v hv)
    | pointer a => cases a <;> simp [plainL] at h <;> simp [erN, plainN]
    | slice a k c => cases a <;> simp [plainL] at h <;> simp [erN, plainN, h]
    | _ => first | (simp [plainL] at h; done) | simp [erN, plainN]

theorem er_eq : ∀ (n : Nat) (v v' : Value), plainL ds.length n v = true → VRel (sigOf ds ts) ρ v v' → v' = erN ds n v := by
  have lf : ∀ n nm fs cs v', VRel (sigOf ds ts) ρ (.func (.method nm) fs cs) v' → v' = erN ds n (.func (.method nm) fs cs) := by
    intro n nm fs cs v' h
    cases h with
    | sym h =>
      obtain ⟨nm', fs', cs', e, h, _⟩ := h
      cases e
      cases n <;> exact h
    | func _ hm => exact absurd rfl (hm _)
  intro n
  induction n with
  | zero =>
    intro v v' h hv
    cases v with
    | func f fs cs =>
      cases f with
      | method nm => exact lf _ _ _ _ _ hv
      | _ => simp [plainL] at h
    | pointer a => cases a with
      | none => cases hv; rfl
      | some a => simp [plainL] at h
    | slice a n c => cases a with
      | none => cases hv; rfl
      | some a => simp [plainL] at h
    | map r => cases r with
      | none => cases hv; rfl
      | some r => simp [plainL] at h
    | _ => first | (simp [plainL] at h; done) | (cases hv; rfl)
  | succ n ih =>
    intro v v' h hv
    have arr : ∀ (cs cs' : Array Value), (∀ x ∈ cs.toList, plainL ds.length n x = true) → cs.size = cs'.size → (∀ i, i < cs.size → VRel (sigOf ds ts) ρ (cs.getD i undef) (cs'.getD i undef)) → cs' = (cs.toList.map (erN ds n)).toArray := by
      intro cs cs' hp h1 h2
      refine arr_ext (by simp [h1]) fun i hi => ?_
      rw [getD_map cs i (h1 ▸ hi)]
      refine ih _ _ (hp _ ?_) (h2 i (h1 ▸ hi))
      rw [getD_toList, List.getD_eq_getElem?_getD, List.getElem?_eq_getElem (by simpa [h1] using hi)]
      exact List.getElem_mem _
    cases v with
    | func f fs cs =>
      cases f with
      | method nm => exact lf _ _ _ _ _ hv
      | _ => simp [plainL] at h
    | pointer a => cases a with
      | none => cases hv; rfl
      | some a => simp [plainL] at h
    | slice a n c => cases a with
      | none => cases hv; rfl
      | some a => simp [plainL] at h
    | map r => cases r with
      | none => cases hv; rfl
      | some r => simp [plainL] at h
    | iface t v => cases hv with
      | iface _ hv => simp only [erN]; rw [ih _ _ (by simpa [plainL] using h) hv]
    | agg cs => cases hv with
      | agg h1 h2 =>
        simp only [plainL, List.all_eq_true] at h
        simp only [erN]
        rw [arr _ _ h h1 h2]
    | tuple cs => cases hv with
      | tuple h1 h2 =>
        simp only [plainL, List.all_eq_true] at h
        simp only [erN]
        rw [arr _ _ h h1 h2]
    | _ => first | (simp [plainL] at h; done) | (cases hv; rfl)

/-! ### equality up to names -/
def vSim : Nat → Value → Value → Bool
  | _, .func (.method _) fs _, .func (.method _) gs _ => leafNo fs == leafNo gs
  | _, .bool a, .bool b => a == b
  | _, .int k a, .int l b => k == l && a == b
  | _, .string a, .string b => a == b
  | _, .nilIface, .nilIface | _, .nilFunc, .nilFunc | _, .map none, .map none | _, .pointer none, .pointer none | _, .slice none 0 0, .slice none 0 0 => true
  | n + 1, .iface s a, .iface t b => s == t && vSim n a b
  | n + 1, .agg a, .agg b => a.size == b.size && (List.range a.size).all fun i => vSim n (a.getD i undef) (b.getD i undef)
  | n + 1, .tuple a, .tuple b => a.size == b.size && (List.range a.size).all fun i => vSim n (a.getD i undef) (b.getD i undef)
  | _, _, _ => false

theorem vSim_er : ∀ (n : Nat) (a b : Value), vSim n a b = true → erN ds n a = erN ds n b := by
  intro n
  induction n with
  | zero =>
    intro a b h
    unfold vSim at h
    split at h <;> first
      | rfl
      | (simp at h; done)
      | (simp only [beq_iff_eq, Bool.and_eq_true] at h; simp [erN, h]; done)
      | (rw [ba_eq h]; done)
      | (rename_i hn; cases hn; done)
      | skip
  | succ n ih =>
    intro a b h
    unfold vSim at h
    have arr : ∀ (cs cs' : Array Value), cs.size = cs'.size → (∀ i, i < cs.size → vSim n (cs.getD i undef) (cs'.getD i undef) = true) → (cs.toList.map (erN ds n)).toArray = (cs'.toList.map (erN ds n)).toArray := by
      intro cs cs' h1 h2
      refine arr_ext (by simp [h1]) fun i hi => ?_
      have hi : i < cs.size := by simpa using hi
      rw [getD_map cs i hi, getD_map cs' i (h1 ▸ hi)]
      exact ih _ _ (h2 i hi)
    split at h <;> first
      | rfl
      | (simp at h; done)
      | (simp only [beq_iff_eq, Bool.and_eq_true] at h; simp [erN, h]; done)
      | (rw [ba_eq h]; done)
      | skip
    · rename_i hn
      cases hn
      simp only [Bool.and_eq_true, beq_iff_eq] at h
      simp only [erN, h.1, ih _ _ h.2]
    · rename_i hn
      cases hn
      simp only [Bool.and_eq_true, beq_iff_eq, List.all_eq_true, List.mem_range] at h
      simp only [erN, arr _ _ h.1 h.2]
    · rename_i hn
      cases hn
      simp only [Bool.and_eq_true, beq_iff_eq, List.all_eq_true, List.mem_range] at h
      simp only [erN, arr _ _ h.1 h.2]
end
end Go.Ab
