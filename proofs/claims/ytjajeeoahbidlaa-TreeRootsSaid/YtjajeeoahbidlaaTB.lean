/- Runs on open terms: temporaries by name; what is left of a state when it is looked at anew; whole functions. -/
import Derived.Test.YtjajeeoahbidlaaTA
namespace Go.Ab
noncomputable section
variable {P : Program} {E : Env} {n0 : Nat}

/-! ### temporaries -/
/-- Nothing is known of it. -/
abbrev JJ : Value := .chan (some 0)
def lk : List (Nat × Value) → Nat → Value
  | [], _ => JJ
  | (k, v) :: l, n => if k = n then v else lk l n
def T (n : Nat) (l : List (Nat × Value)) : List Value := (List.range n).map (lk l)
theorem lk_cons (k : Nat) (v : Value) (l : List (Nat × Value)) (n : Nat) : lk ((k, v) :: l) n = if k = n then v else lk l n := rfl
theorem T_get {n k : Nat} {l : List (Nat × Value)} (h : k < n) : (T n l).getD k undef = lk l k := by
  simp [T, List.getD_eq_getElem?_getD, h]
theorem T_length (n : Nat) (l : List (Nat × Value)) : (T n l).length = n := by simp [T]
theorem ev_T {n k : Nat} {l : List (Nat × Value)} (h : k < n) : ev (.tmp k) (T n l) = lk l k := T_get h
theorem ev_const (t : List Value) (v : Value) : ev (.const v) t = v := rfl
theorem ev_func (t : List Value) (f : FuncId) : ev (.func f) t = .func (.func f) #[] #[] := rfl
theorem ev_global (t : List Value) (g : Nat) : ev (.global g) t = ptr g 0 := rfl
theorem T_set {n k : Nat} {l : List (Nat × Value)} {v : Value} (h : k < n) : (T n l).set k v = T n ((k, v) :: l) := by
  apply List.ext_getElem?
  intro i
  rw [List.getElem?_set]
  by_cases e : k = i
  · subst e
    simp [T, lk, h]
  · rw [if_neg e]
    simp only [T, List.getElem?_map]
    rcases Nat.lt_or_ge i n with hi | hi
    · rw [List.getElem?_range hi]
      simp [lk, e]
    · rw [List.getElem?_eq_none (by simpa using hi)]
      rfl
def enumV : Nat → List Value → List (Nat × Value)
  | _, [] => []
  | i, v :: l => (i, v) :: enumV (i + 1) l
theorem lk_enumV : ∀ (l : List Value) (i k : Nat), lk (enumV i l) k = if i ≤ k ∧ k < i + l.length then l.getD (k - i) undef else JJ
  | [], i, k => by simp [enumV, lk]; omega
  | v :: l, i, k => by
    rw [enumV, lk_cons, lk_enumV l (i + 1) k]
    by_cases h : i = k
    · subst h; simp
    · rw [if_neg h]
      by_cases h2 : i + 1 ≤ k ∧ k < i + 1 + l.length
      · rw [if_pos h2, if_pos ⟨by omega, by simp; omega⟩]
        have : k - i = (k - (i + 1)) + 1 := by omega
        rw [this]
        simp
      · rw [if_neg h2, if_neg (by simp; omega)]

/-! ### values looked at anew: numbers below n0 stay, those of Φ turn -/
def RV (n0 : Nat) (Φ : List (Nat × Nat)) (v v' : Value) : Prop := ∀ (ρ ρ' : Rho) (w : Value), (∀ b, b < n0 → ρ' b = ρ b) → (∀ p ∈ Φ, ρ' p.2 = ρ p.1) → VRel Sig.none ρ v w → VRel Sig.none ρ' v' w
def rb (n0 : Nat) (Φ : List (Nat × Nat)) (a b : Nat) : Prop := (a = b ∧ b < n0) ∨ (a, b) ∈ Φ
theorem rb.eq {Φ : List (Nat × Nat)} {a b : Nat} (h : rb n0 Φ a b) {ρ ρ' : Rho} (h1 : ∀ b, b < n0 → ρ' b = ρ b) (h2 : ∀ p ∈ Φ, ρ' p.2 = ρ p.1) : ρ' b = ρ a := by
  rcases h with ⟨rfl, h⟩ | h
  · exact h1 _ h
  · exact h2 _ h
section
variable {Φ : List (Nat × Nat)}
theorem rv_J (v : Value) : RV n0 Φ v JJ := fun _ _ _ _ _ _ => .junk
theorem rv_int (k : IntKind) (n : Int) : RV n0 Φ (.int k n) (.int k n) := fun _ _ _ _ _ h => by cases h; exact .int _ _
theorem rv_bool (b : Bool) : RV n0 Φ (.bool b) (.bool b) := fun _ _ _ _ _ h => by cases h; exact .bool _
theorem rv_string (b : ByteArray) : RV n0 Φ (.string b) (.string b) := fun _ _ _ _ _ h => by cases h; exact .string _
theorem rv_nilPtr : RV n0 Φ (.pointer none) (.pointer none) := fun _ _ _ _ _ h => by cases h; exact .nilPtr
theorem rv_nilFunc : RV n0 Φ .nilFunc .nilFunc := fun _ _ _ _ _ h => by cases h; exact .nilFunc
theorem rv_nilIface : RV n0 Φ .nilIface .nilIface := fun _ _ _ _ _ h => by cases h; exact .nilIface
theorem rv_nilMap : RV n0 Φ (.map none) (.map none) := fun _ _ _ _ _ h => by cases h; exact .nilMap
theorem rv_nilSlice : RV n0 Φ (.slice none 0 0) (.slice none 0 0) := fun _ _ _ _ _ h => by cases h; exact .nilSlice
theorem rv_ptr {a b o : Nat} (h : rb n0 Φ a b) : RV n0 Φ (.pointer (some ⟨a, o, none⟩)) (.pointer (some ⟨b, o, none⟩)) := fun ρ ρ' _ h1 h2 hv => by
  cases hv with
  | ptr hp => exact .ptr ((h.eq h1 h2).trans hp)
theorem rv_slice {a b o n c : Nat} (h : rb n0 Φ a b) : RV n0 Φ (.slice (some ⟨a, o, none⟩) n c) (.slice (some ⟨b, o, none⟩) n c) := fun ρ ρ' _ h1 h2 hv => by
  cases hv with
  | slice hp hc hn => exact .slice ((h.eq h1 h2).trans hp) hc hn
theorem rv_map {a b : Nat} (h : rb n0 Φ a b) : RV n0 Φ (.map (some a)) (.map (some b)) := fun ρ ρ' _ h1 h2 hv => by
  cases hv with
  | map hp => exact .map ((h.eq h1 h2).trans hp)
theorem rv_yield {a b : Nat} (h : rb n0 Φ a b) : RV n0 Φ (.func (.yield a) #[] #[]) (.func (.yield b) #[] #[]) := fun ρ ρ' _ h1 h2 hv => by
  cases hv with
  | func hy => exact absurd rfl (hy _)
  | yield hp => exact .yield ((h.eq h1 h2).trans hp)
theorem rv_iface {t : TypeId} {v v' : Value} (h : RV n0 Φ v v') : RV n0 Φ (.iface t v) (.iface t v') := fun ρ ρ' _ h1 h2 hv => by
  cases hv with
  | iface t hv => exact .iface t (h _ _ _ h1 h2 hv)
def LRV (n0 : Nat) (Φ : List (Nat × Nat)) : List Value → List Value → Prop
  | [], [] => True
  | a :: l, b :: k => RV n0 Φ a b ∧ LRV n0 Φ l k
  | _, _ => False
theorem LRV.rel {ρ ρ' : Rho} (h1 : ∀ b, b < n0 → ρ' b = ρ b) (h2 : ∀ p ∈ Φ, ρ' p.2 = ρ p.1) : ∀ {a b v : List Value}, LRV n0 Φ a b → LRel Sig.none ρ a v → LRel Sig.none ρ' b v
  | [], [], _, _, h => ⟨h.1, fun i hi => absurd hi (by simp)⟩
  | a :: l, b :: k, v, hh, h => by
    cases v with
    | nil => exact absurd h.1 (by simp)
    | cons v vs => exact LRel.cons (hh.1 _ _ _ h1 h2 h.head) (LRV.rel h1 h2 hh.2 h.tail)
  | [], _ :: _, _, h, _ => h.elim
  | _ :: _, [], _, h, _ => h.elim
theorem rv_tuple {l k : List Value} (h : LRV n0 Φ l k) : RV n0 Φ (.tuple l.toArray) (.tuple k.toArray) := fun ρ ρ' _ h1 h2 hv => by
  obtain ⟨cs, rfl, hr⟩ := hv.tuple_inv
  exact LRel.tuple (h.rel h1 h2 hr)
theorem rv_agg {l k : List Value} (h : LRV n0 Φ l k) : RV n0 Φ (.agg l.toArray) (.agg k.toArray) := fun ρ ρ' _ h1 h2 hv => by
  obtain ⟨cs, rfl, hr⟩ := hv.agg_inv
  exact LRel.agg (h.rel h1 h2 hr)
theorem rv_func {f : FuncId} {l k a b : List Value} (h : LRV n0 Φ l k) (h' : LRV n0 Φ a b) : RV n0 Φ (.func (.func f) l.toArray a.toArray) (.func (.func f) k.toArray b.toArray) := fun ρ ρ' _ h1 h2 hv => by
  cases hv with
  | func hy hm e1 e2 e3 e4 =>
    have i1 := h.rel h1 h2 (lrel_of e1 e2)
    have i2 := h'.rel h1 h2 (lrel_of e3 e4)
    refine .func (fun l h => by cases h) (fun l h => by cases h) (by simpa using i1.1) (fun i hi => ?_) (by simpa using i2.1) (fun i hi => ?_)
    · rw [getD_toList, getD_toList]; exact i1.2 i (by simpa using hi)
    · rw [getD_toList, getD_toList]; exact i2.2 i (by simpa using hi)
theorem rv_plain {v : Value} (h : plain v = true) : RV n0 Φ v v := fun ρ ρ' w h1 h2 hv => by
  rw [← plain_eq h hv]; exact plain_refl _ h

theorem rv_T {n : Nat} {l l' : List (Nat × Value)} (h : ∀ p ∈ l', RV n0 Φ (lk l p.1) p.2) {ρ ρ' : Rho} (h1 : ∀ b, b < n0 → ρ' b = ρ b) (h2 : ∀ p ∈ Φ, ρ' p.2 = ρ p.1) {v : List Value} (hv : LRel Sig.none ρ (T n l) v) : LRel Sig.none ρ' (T n l') v := by
  refine ⟨by rw [← hv.1, T_length, T_length], fun i hi => ?_⟩
  rw [T_length] at hi
  have hr := hv.2 i (by rwa [T_length])
  rw [T_get hi] at hr ⊢
  have key : ∀ l' : List (Nat × Value), (∀ p ∈ l', RV n0 Φ (lk l p.1) p.2) → RV n0 Φ (lk l i) (lk l' i) := by
    intro l'
    induction l' with
    | nil => exact fun _ => rv_J _
    | cons p l' ih =>
      intro h
      obtain ⟨k, v⟩ := p
      rw [lk_cons]
      by_cases e : k = i
      · subst e; rw [if_pos rfl]; exact h (k, v) (by simp)
      · rw [if_neg e]; exact ih fun q hq => h q (by simp [hq])
  exact key l' h _ _ _ h1 h2 hr

/-! ### blocks -/
def RO (n0 : Nat) (Φ : List (Nat × Nat)) : AObj → AObj → Prop
  | .cells c rw sz, .cells c' rw' sz' => rw = rw' ∧ sz = sz' ∧ c.n = c'.n ∧ ∀ i, i < c.n → RV n0 Φ (c.get i) (c'.get i)
  | .map es rw, .map es' rw' => rw = rw' ∧ es.length = es'.length ∧ ∀ (i : Nat) (e e' : Value × Value), es[i]? = some e → es'[i]? = some e' → RV n0 Φ e.1 e'.1 ∧ RV n0 Φ e.2 e'.2
  | _, _ => False
theorem list_getD (c : Cells) {i : Nat} (h : i < c.n) : c.list.getD i undef = c.get i := by
  rw [List.getD_eq_getElem?_getD, Cells.list_get, if_pos h]; rfl
theorem RO.rel {ρ ρ' : Rho} (h1 : ∀ b, b < n0 → ρ' b = ρ b) (h2 : ∀ p ∈ Φ, ρ' p.2 = ρ p.1) {w : World} {x : Nat × Nat × Nat} {o o' : AObj} (h : RO n0 Φ o o') (hR : ORel Sig.none ρ w x o) : ORel Sig.none ρ' w x o' ∧ wr o = wr o' := by
  cases o with
  | cells c rw sz =>
    cases o' with
    | cells c' rw' sz' =>
      obtain ⟨rfl, rfl, hn, h⟩ := h
      obtain ⟨cs, t, fz, g1, g2, g3, g4⟩ := hR
      rw [Cells.list_length] at g2 g4
      refine ⟨⟨cs, t, fz, g1, by rw [Cells.list_length, ← hn]; exact g2, g3, fun i hi => ?_⟩, rfl⟩
      rw [Cells.list_length, ← hn] at hi
      have := g4 i hi
      rw [list_getD c hi] at this
      rw [list_getD c' (hn ▸ hi)]
      exact h i hi _ _ _ h1 h2 this
    | _ => exact h.elim
  | map es rw =>
    cases o' with
    | map es' rw' =>
      obtain ⟨rfl, hn, h⟩ := h
      obtain ⟨es2, ck, g1, g2, g3, g4⟩ := hR
      refine ⟨⟨es2, ck, g1, g2, hn ▸ g3, fun i e he => ?_⟩, rfl⟩
      have hi : i < es.length := hn ▸ (List.getElem?_eq_some_iff.1 he).1
      obtain ⟨e2, k1, k2, k3⟩ := g4 i _ (List.getElem?_eq_getElem hi)
      obtain ⟨j1, j2⟩ := h i _ _ (List.getElem?_eq_getElem hi) he
      exact ⟨e2, k1, j1 _ _ _ h1 h2 k2, j2 _ _ _ h1 h2 k3⟩
    | _ => exact h.elim
  | _ => exact h.elim
end

/-! ### blocks that nobody turned -/
theorem VRel.restrict {ρ ρ1 ρ2 : Rho} (hd : ∀ b x, ρ b = some x → ρ2 b = ρ1 b) {v u u1 : Value} (h : VRel Sig.none ρ v u) (h1 : VRel Sig.none ρ1 v u1) : VRel Sig.none ρ2 v u1 := by
  induction h generalizing u1 with
  | bool b => cases h1; exact .bool _
  | int k n => cases h1; exact .int _ _
  | float k n => cases h1; exact .float _ _
  | complex k a b => cases h1; exact .complex _ _ _
  | string s => cases h1; exact .string _
  | nilFunc => cases h1; exact .nilFunc
  | nilIface => cases h1; exact .nilIface
  | nilMap => cases h1; exact .nilMap
  | nilPtr => cases h1; exact .nilPtr
  | nilSlice => cases h1; exact .nilSlice
  | ptr h => cases h1 with | ptr h' => exact .ptr ((hd _ _ h).trans h')
  | slice h hc hn => cases h1 with | slice h' hc' hn' => exact .slice ((hd _ _ h).trans h') hc' hn'
  | lost a c => cases h1 with | lost a c => exact .lost a c
  | map h => cases h1 with | map h' => exact .map ((hd _ _ h).trans h')
  | iface t _ ih => cases h1 with | iface t h' => exact .iface t (ih h')
  | sym h => exact h.elim
  | func hy hm e1 _ e3 _ ih2 ih4 => cases h1 with
    | sym h => exact h.elim
    | func hy' hm' f1 f2 f3 f4 => exact .func hy' hm' f1 (fun i hi => ih2 i hi (f2 i hi)) f3 (fun i hi => ih4 i hi (f4 i hi))
    | yield h => exact absurd rfl (hy _)
  | yield h => cases h1 with
    | func hy => exact absurd rfl (hy _)
    | yield h' => exact .yield ((hd _ _ h).trans h')
  | junk => exact .junk
  | tie h => exact h.elim
  | agg e1 _ ih => cases h1 with | agg f1 f2 => exact .agg f1 fun i hi => ih i hi (f2 i hi)
  | tuple e1 _ ih => cases h1 with | tuple f1 f2 => exact .tuple f1 fun i hi => ih i hi (f2 i hi)
theorem LRel.restrict {ρ ρ1 ρ2 : Rho} (hd : ∀ b x, ρ b = some x → ρ2 b = ρ1 b) {l u u1 : List Value} (h : LRel Sig.none ρ l u) (h1 : LRel Sig.none ρ1 l u1) : LRel Sig.none ρ2 l u1 := ⟨h1.1, fun i hi => (h.2 i hi).restrict hd (h1.2 i hi)⟩
theorem ORel.restrict {ρ ρ1 ρ2 : Rho} (hd : ∀ b x, ρ b = some x → ρ2 b = ρ1 b) {w w1 : World} {x : Nat × Nat × Nat} {o : AObj} (h : ORel Sig.none ρ w x o) (h1 : ORel Sig.none ρ1 w1 x o) : ORel Sig.none ρ2 w1 x o := by
  cases o with
  | cells c rw sz =>
    obtain ⟨_, _, _, _, _, _, g4⟩ := h
    obtain ⟨cs', t, fz, k1, k2, k3, k4⟩ := h1
    exact ⟨cs', t, fz, k1, k2, k3, fun i hi => (g4 i hi).restrict hd (k4 i hi)⟩
  | map es rw =>
    obtain ⟨es', c, _, _, _, g4⟩ := h
    obtain ⟨es2, c2, k1, k2, k3, k4⟩ := h1
    exact ⟨es2, c2, k1, k2, k3, fun i e he => by
      obtain ⟨_, _, f1, f2⟩ := g4 i e he
      obtain ⟨e', j1, j2, j3⟩ := k4 i e he
      exact ⟨e', j1, f1.restrict hd j2, f2.restrict hd j3⟩⟩
  | strIter s pos => exact h1
  | loop r =>
    obtain ⟨_, _, _, _, g4, _⟩ := h
    obtain ⟨r', k1, k2, k3, k4, k5⟩ := h1
    exact ⟨r', k1, k2, k3, g4.restrict hd k4, k5⟩
  | frz tag => exact h1

/-! ### whole functions -/
/-- What is left of a memory behind a call: garbage aside, the blocks that the call made by new numbers. -/
structure Tidy (m m1 : Mem) (v1 v : Value) (m' : Mem) (Φ : List (Nat × Nat)) : Prop where
  next : m.next ≤ m'.next
  new : ∀ p ∈ Φ, m.next ≤ p.1 ∧ m.next ≤ p.2 ∧ p.2 < m'.next
  nodup : (Φ.map (·.2)).Nodup
  nodup1 : (Φ.map (·.1)).Nodup
  val : RV m.next Φ v1 v
  get : (∀ b, m.next ≤ b → m.get b = none) → ∀ b o, m'.get b = some o → (b < m.next ∧ ∃ o1, m1.get b = some o1 ∧ ((o1 = o ∧ m.get b = some o) ∨ RO m.next Φ o1 o)) ∨ (∃ a, (a, b) ∈ Φ ∧ ∃ o1, m1.get a = some o1 ∧ RO m.next Φ o1 o)
  grow : ∀ b, b < m.next → m.get b = none → m'.get b = none

def reρ (n : Nat) (Φ : List (Nat × Nat)) (ρ ρ1 : Rho) : Rho := fun b => if b < n then ρ b else match Φ.find? (fun p => p.2 == b) with
  | some p => ρ1 p.1
  | none => none
theorem find_nodup : ∀ {Φ : List (Nat × Nat)} {p : Nat × Nat}, (Φ.map (·.2)).Nodup → p ∈ Φ → Φ.find? (fun q => q.2 == p.2) = some p
  | [], p, _, h => by cases h
  | q :: Φ, p, hn, h => by
    simp only [List.map_cons, List.nodup_cons] at hn
    rw [List.find?_cons]
    rcases List.mem_cons.1 h with rfl | h
    · simp
    · have : q.2 ≠ p.2 := fun e => hn.1 (e ▸ List.mem_map_of_mem h)
      rw [show (q.2 == p.2) = false by simpa using this]
      exact find_nodup hn.2 h
theorem reρ_new {n : Nat} {Φ : List (Nat × Nat)} {ρ ρ1 : Rho} (hn : (Φ.map (·.2)).Nodup) {p : Nat × Nat} (hp : p ∈ Φ) (hge : n ≤ p.2) : reρ n Φ ρ ρ1 p.2 = ρ1 p.1 := by
  unfold reρ
  rw [if_neg (by omega), find_nodup hn hp]
theorem reρ_some {n : Nat} {Φ : List (Nat × Nat)} {ρ ρ1 : Rho} {b : Nat} {x : Nat × Nat × Nat} (h : reρ n Φ ρ ρ1 b = some x) (hb : ¬ b < n) : ∃ a, (a, b) ∈ Φ ∧ ρ1 a = some x := by
  unfold reρ at h
  rw [if_neg hb] at h
  split at h
  · rename_i p hp
    have h1 := List.mem_of_find?_eq_some hp
    have h2 : p.2 = b := by simpa using List.find?_some hp
    exact ⟨p.1, by rw [← h2]; exact h1, h⟩
  · cases h

theorem fst_inj : ∀ {Φ : List (Nat × Nat)} {a b c : Nat}, (Φ.map (·.1)).Nodup → (a, b) ∈ Φ → (a, c) ∈ Φ → b = c
  | [], _, _, _, _, h, _ => by cases h
  | q :: Φ, a, b, c, hn, h1, h2 => by
    simp only [List.map_cons, List.nodup_cons] at hn
    rcases List.mem_cons.1 h1 with e1 | h1 <;> rcases List.mem_cons.1 h2 with e2 | h2
    · exact (Prod.mk.inj (e1.trans e2.symm)).2
    · exact absurd (List.mem_map_of_mem (f := (·.1)) h2) (by rw [← e1] at hn; exact hn.1)
    · exact absurd (List.mem_map_of_mem (f := (·.1)) h1) (by rw [← e2] at hn; exact hn.1)
    · exact fst_inj hn.2 h1 h2

theorem Tidy.ret {m m1 m' : Mem} {v1 v : Value} {Φ : List (Nat × Nat)} (ht : Tidy m m1 v1 v m' Φ) {ρ : Rho} {w : World} (hR : Rel Sig.none ρ m w) {e : Ending} {w1 : World} (h : TRet Sig.none m.next ρ m w v1 m1 e w1) : Ret Sig.none ρ m w v m' e w1 := by
  obtain ⟨u, ρ1, rfl, hu, hp, hk⟩ := h
  have hlow : ∀ b, b < m.next → reρ m.next Φ ρ ρ1 b = ρ1 b := fun b hb => by unfold reρ; rw [if_pos hb, hk b hb]
  have hlow' : ∀ b, b < m.next → reρ m.next Φ ρ ρ1 b = ρ b := fun b hb => by unfold reρ; rw [if_pos hb]
  have hnew : ∀ p ∈ Φ, reρ m.next Φ ρ ρ1 p.2 = ρ1 p.1 := fun p hp => reρ_new ht.nodup hp (ht.new p hp).2.1
  have h64 : 64 ≤ m.next := by
    rcases Nat.lt_or_ge m.next 64 with h | h
    · have := hR.glob m.next h
      rw [hR.dom _ (Nat.le_refl _)] at this
      cases this
    · exact h
  have hdom : ∀ b x, ρ b = some x → b < m.next := fun b x hb => by
    rcases Nat.lt_or_ge b m.next with h | h
    · exact h
    · rw [hR.dom b h] at hb; cases hb
  -- of a block where it comes from
  have src : ∀ b o x, m'.get b = some o → reρ m.next Φ ρ ρ1 b = some x → ∃ a o1, m1.get a = some o1 ∧ ρ1 a = some x ∧ wr o1 = wr o ∧ ORel Sig.none (reρ m.next Φ ρ ρ1) w1 x o ∧ ((a = b ∧ b < m.next) ∨ ((a, b) ∈ Φ ∧ m.next ≤ a)) := by
    intro b o x hb hx
    rcases ht.get hR.fresh b o hb with ⟨hlt, o1, g1, g2⟩ | ⟨a, ha, o1, g1, g2⟩
    · rw [hlow b hlt] at hx
      have hobj := hp.rel.obj b o1 x g1 hx
      rcases g2 with ⟨rfl, g2⟩ | g2
      · refine ⟨b, o1, g1, hx, rfl, ?_, .inl ⟨rfl, hlt⟩⟩
        have h0 := hR.obj b o1 x g2 (by rw [← hk b hlt]; exact hx)
        exact h0.restrict (fun c y hc => hlow c (hdom c y hc)) hobj
      · obtain ⟨k1, k2⟩ := g2.rel hlow hnew hobj
        exact ⟨b, o1, g1, hx, k2, k1, .inl ⟨rfl, hlt⟩⟩
    · rw [hnew _ ha] at hx
      obtain ⟨k1, k2⟩ := g2.rel hlow hnew (hp.rel.obj a o1 x g1 hx)
      exact ⟨a, o1, g1, hx, k2, k1, .inr ⟨ha, (ht.new _ ha).1⟩⟩
  have bnd : ∀ b o, m'.get b = some o → b < m'.next := fun b o hb => by
    rcases ht.get hR.fresh b o hb with ⟨hlt, _⟩ | ⟨a, ha, _⟩
    · exact Nat.lt_of_lt_of_le hlt ht.next
    · exact (ht.new _ ha).2.2
  refine ⟨u, reρ m.next Φ ρ ρ1, rfl, ht.val _ _ _ hlow hnew hu, ⟨⟨fun b hb => ?_, fun g hg => ?_, fun b o x hb hx => ?_, fun b1 b2 o1 o2 x1 x2 hne g1 g2 k1 k2 hw => ?_, fun b hb => ?_⟩, fun b x hb => ?_, ht.next, hp.size, hp.os, hp.tape, hp.output, hp.frame, fun b o x hb hx hlt => ?_⟩, fun b hb e => ?_⟩
  · cases hx : reρ m.next Φ ρ ρ1 b with
    | none => rfl
    | some x =>
      obtain ⟨a, ha, _⟩ := reρ_some hx (by have := ht.next; omega)
      have := (ht.new _ ha).2.2
      simp only at this
      omega
  · rw [hlow' g (by omega)]; exact hR.glob g hg
  · obtain ⟨a, o1, _, _, _, k, _⟩ := src b o x hb hx
    exact k
  · obtain ⟨a1, p1, i1, i2, i3, _, i4⟩ := src b1 o1 x1 g1 k1
    obtain ⟨a2, p2, j1, j2, j3, _, j4⟩ := src b2 o2 x2 g2 k2
    refine hp.rel.inj a1 a2 p1 p2 x1 x2 (fun e => hne ?_) i1 j1 i2 j2 (i3.trans hw)
    subst e
    rcases i4 with ⟨rfl, i4⟩ | ⟨i4, i5⟩ <;> rcases j4 with ⟨rfl, j4⟩ | ⟨j4, j5⟩
    · rfl
    · omega
    · omega
    · exact fst_inj ht.nodup1 i4 j4
  · cases hx : m'.get b with
    | none => rfl
    | some o => have := bnd b o hx; omega
  · rw [hlow' b (hdom b x hb)]; exact hb
  · obtain ⟨a, o1, i1, i2, i3, _, _⟩ := src b o x hb hx
    obtain ⟨b0, o0, x0, q1, q2, q3, q4⟩ := hp.img a o1 x i1 i2 hlt
    exact ⟨b0, o0, x0, q1, q2, q3, fun hw => q4 (i3.trans hw)⟩
  · rw [hlow' b hb]; exact e

theorem Tidy.call {f : FuncId} {args : List Value} {m m1 m' : Mem} {v1 v : Value} {Φ : List (Nat × Nat)} (ht : Tidy m m1 v1 v m' Φ) (h : TCall Sig.none Sig.none P m.next f args m v1 m1) : CallOk Sig.none P f args m v m' ∧ Grow m m' :=
  ⟨fun ρ w args' hR ha => (h ρ w args' hR ha).mono fun _ _ h => ht.ret hR h, ht.next, ht.grow⟩

theorem tidy_pure {m m1 : Mem} {v1 v : Value} (hv : RV m.next [] v1 v) (h : ∀ b, b < m.next → m1.get b = m.get b) : ∃ Φ, Tidy m m1 v1 v m Φ := by
  refine ⟨[], Nat.le_refl _, by simp, by simp, by simp, hv, fun hf b o hb => ?_, fun b _ e => e⟩
  rcases Nat.lt_or_ge b m.next with hlt | hge
  · exact .inl ⟨hlt, o, (h b hlt).trans hb, .inl ⟨rfl, hb⟩⟩
  · rw [hf b hge] at hb; cases hb
theorem tidy_put {m m1 : Mem} {v1 v : Value} {b0 : Nat} {o1 o0 : AObj} (hv : RV m.next [] v1 v) (hb0 : b0 < m.next) (hm : m.get b0 ≠ none) (h0 : m1.get b0 = some o1) (hr : RO m.next [] o1 o0) (h : ∀ b, b < m.next → b ≠ b0 → m1.get b = m.get b) : ∃ Φ, Tidy m m1 v1 v (m.put b0 o0) Φ := by
  refine ⟨[], Nat.le_refl _, by simp, by simp, by simp, hv, fun hf b o hb => ?_, fun b _ e => ?_⟩
  · rw [Mem.get_put] at hb
    by_cases e : b = b0
    · subst e
      rw [if_pos rfl] at hb
      cases hb
      exact .inl ⟨hb0, o1, h0, .inr hr⟩
    · rw [if_neg e] at hb
      rcases Nat.lt_or_ge b m.next with hlt | hge
      · exact .inl ⟨hlt, o, (h b hlt e).trans hb, .inl ⟨rfl, hb⟩⟩
      · rw [hf b hge] at hb; cases hb
  · have hne : b ≠ b0 := fun e' => hm (by rw [← e']; exact e)
    rw [Mem.get_put, if_neg hne, e]
/-- One new block. -/
theorem tidy_new {m m1 : Mem} {v1 v : Value} {a : Nat} {o1 o0 : AObj} (ha : m.next ≤ a) (hv : RV m.next [(a, m.next)] v1 v) (h0 : m1.get a = some o1) (hr : RO m.next [(a, m.next)] o1 o0) (h : ∀ b, b < m.next → m1.get b = m.get b) : ∃ Φ, Tidy m m1 v1 v ((m.bump 1).put m.next o0) Φ := by
  refine ⟨[(a, m.next)], by simp, by simp; omega, by simp, by simp, hv, fun hf b o hb => ?_, fun b hb e => ?_⟩
  · rw [Mem.get_put] at hb
    by_cases e : b = m.next
    · subst e
      rw [if_pos rfl] at hb
      cases hb
      exact .inr ⟨a, by simp, o1, h0, hr⟩
    · rw [if_neg e, Mem.get_bump] at hb
      rcases Nat.lt_or_ge b m.next with hlt | hge
      · exact .inl ⟨hlt, o, (h b hlt).trans hb, .inl ⟨rfl, hb⟩⟩
      · rw [hf b hge] at hb; cases hb
  · rw [Mem.get_put, if_neg (by omega), Mem.get_bump, e]
theorem ro_plain {n0 : Nat} {Φ : List (Nat × Nat)} {c : Cells} {w : Bool} {sz : Nat} (h : ∀ i, i < c.n → plain (c.get i) = true) : RO n0 Φ (.cells c w sz) (.cells c w sz) := ⟨rfl, rfl, rfl, fun i hi => rv_plain (h i hi)⟩

/-- A function: its body on open terms. -/
theorem WX.call (hE : EnvOk E) {f : FuncId} {s : SFunc} {args : List Value} {m m' : Mem} {v : Value} (hf : fnOf E.P f = some s)
    (h : args.length ≤ s.ntmps ∧ WX E m.next none s.body (T s.ntmps (enumV 0 args)) m fun x t m1 => (x = .normal ∨ x = .ret) ∧ ∃ vs, resA E.P t m1 s.results = some vs ∧ ∃ Φ, Tidy m m1 (oneOr vs) v m' Φ) : CallOk Sig.none E.P f args m v m' ∧ Grow m m' := by
  obtain ⟨hl, h⟩ := h
  obtain ⟨x, t, m1, h1, h2, vs, h3, Φ, h4⟩ := WX.ok hE h
  refine h4.call (TCall.of_code hf h2 (TOk.pre ?_ h1) h3)
  intro ρ w ts l hR ht hrd
  refine ⟨ρ, hR, ⟨by rw [← ht.1, T_length]; simp; omega, fun i hi => ?_⟩, hrd, fun _ _ => rfl, fun b o x hb hx => ⟨b, o, x, hb, hx, rfl, rfl⟩⟩
  rw [T_length] at hi
  rw [T_get hi, lk_enumV]
  split
  · rename_i hh
    have := ht.2 i (by simp; omega)
    rw [List.getD_eq_getElem?_getD, List.getElem?_append_left (by omega), ← List.getD_eq_getElem?_getD] at this
    simpa using this
  · exact .junk

/-- A state looked at anew, all of its blocks. -/
theorem look {n0 : Nat} {rd : Option Nat} {n : Nat} {l l' : List (Nat × Value)} {m1 m2 : Mem} {Φ : List (Nat × Nat)} (h64 : 64 ≤ n0) (hn : n0 ≤ m2.next) (hrd : ∀ b, rd = some b → b < n0)
    (hnew : ∀ p ∈ Φ, n0 ≤ p.1 ∧ n0 ≤ p.2 ∧ p.2 < m2.next) (hnd : (Φ.map (·.2)).Nodup) (hnd1 : (Φ.map (·.1)).Nodup) (ht : ∀ p ∈ l', RV n0 Φ (lk l p.1) p.2)
    (hg : ∀ b o, m2.get b = some o → ∃ a o1, rb n0 Φ a b ∧ m1.get a = some o1 ∧ RO n0 Φ o1 o) : View Sig.none Sig.none n0 rd (T n l) m1 (T n l') m2 := by
  intro ρ w ts lr hR hts hlr
  have hlow : ∀ b, b < n0 → reρ n0 Φ ρ ρ b = ρ b := fun b hb => by unfold reρ; rw [if_pos hb]
  have hnw : ∀ p ∈ Φ, reρ n0 Φ ρ ρ p.2 = ρ p.1 := fun p hp => reρ_new hnd hp (hnew p hp).2.1
  have src : ∀ b o x, m2.get b = some o → reρ n0 Φ ρ ρ b = some x → ∃ a o1, rb n0 Φ a b ∧ m1.get a = some o1 ∧ ρ a = some x ∧ wr o1 = wr o ∧ ORel Sig.none (reρ n0 Φ ρ ρ) w x o := by
    intro b o x hb hx
    obtain ⟨a, o1, g1, g2, g3⟩ := hg b o hb
    rw [g1.eq hlow hnw] at hx
    obtain ⟨k1, k2⟩ := g3.rel hlow hnw (hR.obj a o1 x g2 hx)
    exact ⟨a, o1, g1, g2, hx, k2, k1⟩
  have bnd : ∀ b o, m2.get b = some o → b < m2.next := fun b o hb => by
    obtain ⟨a, _, g1, _⟩ := hg b o hb
    rcases g1 with ⟨_, h⟩ | h
    · omega
    · exact (hnew _ h).2.2
  refine ⟨reρ n0 Φ ρ ρ, ⟨fun b hb => ?_, fun g hg => ?_, fun b o x hb hx => ?_, fun b1 b2 o1 o2 x1 x2 hne g1 g2 k1 k2 hw => ?_, fun b hb => ?_⟩, rv_T ht hlow hnw hts, ?_, hlow, fun b o x hb hx => ?_⟩
  · cases hx : reρ n0 Φ ρ ρ b with
    | none => rfl
    | some x =>
      obtain ⟨a, ha, _⟩ := reρ_some hx (by omega)
      have := (hnew _ ha).2.2
      simp only at this
      omega
  · rw [hlow g (by omega)]; exact hR.glob g hg
  · obtain ⟨a, o1, _, _, _, _, k⟩ := src b o x hb hx
    exact k
  · obtain ⟨a1, p1, i0, i1, i2, i3, _⟩ := src b1 o1 x1 g1 k1
    obtain ⟨a2, p2, j0, j1, j2, j3, _⟩ := src b2 o2 x2 g2 k2
    refine hR.inj a1 a2 p1 p2 x1 x2 (fun e => hne ?_) i1 j1 i2 j2 (i3.trans hw)
    subst e
    rcases i0 with ⟨rfl, i0⟩ | i0 <;> rcases j0 with ⟨rfl, j0⟩ | j0
    · rfl
    · have := (hnew _ j0).1; simp only at this; omega
    · have := (hnew _ i0).1; simp only at this; omega
    · exact fst_inj hnd1 i0 j0
  · cases hx : m2.get b with
    | none => rfl
    | some o => have := bnd b o hx; omega
  · cases rd with
    | none => cases lr <;> exact hlr
    | some b => cases lr with
      | none => exact hlr
      | some r => obtain ⟨o, s, h⟩ := hlr; exact ⟨o, s, (hlow b (hrd b rfl)).trans h⟩
  · obtain ⟨a, o1, _, h1, h2, h3, _⟩ := src b o x hb hx
    exact ⟨a, o1, x, h1, h2, rfl, h3⟩

theorem resA_nil {t : List Value} {m : Mem} : resA P t m [] = some [] := rfl
theorem resA_tmp {t : List Value} {m : Mem} {k : Nat} {l : List ResultVar} : resA P t m (.tmp k :: l) = (resA P t m l).map (t.getD k undef :: ·) := by
  show (match resA P t m l with | some vs => some (t.getD k undef :: vs) | none => none) = _
  cases resA P t m l <;> rfl
theorem resA_cell {t : List Value} {m : Mem} {k : Nat} {ty : TypeId} {l : List ResultVar} : resA P t m (.cell k ty :: l) = (loadA P ty (t.getD k undef) m).bind fun v => (resA P t m l).map (v :: ·) := by
  show (match loadA P ty (t.getD k undef) m, resA P t m l with | some v, some vs => some (v :: vs) | _, _ => none) = _
  cases loadA P ty (t.getD k undef) m <;> cases resA P t m l <;> rfl
theorem oneOr1 {v : Value} : oneOr [v] = v := rfl
theorem oneOr2 {a b : Value} {l : List Value} : oneOr (a :: b :: l) = .tuple (a :: b :: l).toArray := rfl
end
end Go.Ab
