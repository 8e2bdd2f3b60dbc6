/- An interpreter of our own: segments: a run on symbolic values from one state to another one, checked at once. -/
import Derived.Test.YthpncefkklojlaaAbZ5
namespace Go.Ab
noncomputable section
variable {P : Program} {n0 : Nat}

/-- Nothing is known of it. -/
abbrev J : Value := .chan (some 0)
/-- n temporaries: these, of the others nothing is known. -/
def tl (n : Nat) (l : List (Nat × Value)) : List Value := (List.range n).map fun i => match l.find? (·.1 == i) with
  | some p => p.2
  | none => J

/-- The first symbolic values keep their names; the others by pairs. -/
def lfOf (npre : Nat) (lm : List (Value × Value)) (a b : Value) : Bool :=
  (match a, b with
    | .func (.method _) fs _, .func (.method _) gs _ => leafNo fs == leafNo gs && decide (leafNo fs < npre)
    | _, _ => false) || lm.any fun p => vEqL 2 a p.1 && vEqL 2 b p.2

def LMok (ds ds' : List Value) : List (Value × Value) → Prop
  | [] => True
  | p :: l => VV (sigOf ds) (sigOf ds') 0 p.1 p.2 ∧ LMok ds ds' l
theorem LMok.at_ {ds ds' : List Value} : ∀ {l : List (Value × Value)}, LMok ds ds' l → ∀ p ∈ l, VV (sigOf ds) (sigOf ds') 0 p.1 p.2
  | [], _, p, h => by cases h
  | q :: l, ⟨h1, h2⟩, p, h => by
    rcases List.mem_cons.1 h with rfl | h
    · exact h1
    · exact h2.at_ p h

theorem lfOf_ok {ds ds' : List Value} {npre : Nat} {lm : List (Value × Value)} (hpre : ds'.take npre = ds.take npre) (hm : LMok ds ds' lm) : LfOk (sigOf ds) (sigOf ds') (lfOf npre lm) := by
  intro a b h ρ ρ' v hv
  unfold lfOf at h
  rw [Bool.or_eq_true] at h
  rcases h with h | h
  · split at h
    · rename_i nm fs cs nm' gs cs'
      simp only [Bool.and_eq_true, beq_iff_eq, decide_eq_true_eq] at h
      cases hv with
      | sym hs =>
        obtain ⟨_, _, _, e, h1, h2⟩ := hs
        cases e
        refine .sym ⟨_, _, _, rfl, ?_, h2⟩
        rw [h1, ← h.1, ← getD_take h.2, ← hpre, getD_take h.2]
      | func _ hm => exact absurd rfl (hm _)
    · cases h
  · rw [List.any_eq_true] at h
    obtain ⟨p, hp, he⟩ := h
    rw [Bool.and_eq_true] at he
    rw [vEqL_eq 2 _ _ he.1] at hv
    rw [vEqL_eq 2 _ _ he.2]
    exact hm.at_ p hp ρ ρ' v (fun b hb => by omega) hv

/-- Blocks, with their numbers in the state ahead. -/
def mkSpec : Blocks → List Nat → Spec
  | (n, o) :: bs, a :: ol => (n, a, o) :: mkSpec bs ol
  | _, _ => []
theorem mkSpec_mem {next : Nat} : ∀ {bs : Blocks} {ol : List Nat}, bs.length = ol.length → memOf next (mkSpec bs ol) = memB next bs := by
  have : ∀ {bs : Blocks} {ol : List Nat}, bs.length = ol.length → trObj (mkSpec bs ol) = trB bs := by
    intro bs
    induction bs with
    | nil => intro ol _; cases ol <;> rfl
    | cons b bs ih =>
      intro ol h
      cases ol with
      | nil => simp at h
      | cons a ol => obtain ⟨n, o⟩ := b; simp only [mkSpec, trObj, trB, ih (by simpa using h)]
  intro bs ol h
  simp only [memOf, memB, this h]

def noLoop1 : AObj → Bool
  | .loop _ => false
  | _ => true
def noLoops (l : Blocks) : Bool := l.all fun e => noLoop1 e.2
def exitEq : Exit → Exit → Bool
  | .normal, .normal => true
  | .ret, .ret => true
  | .exit i, .exit j => i == j
  | _, _ => false
theorem exitEq_eq {x y : Exit} (h : exitEq x y = true) : x = y := by
  unfold exitEq at h
  split at h <;> first | rfl | (rw [eq_of_beq h]) | cases h

/-- One state looked at as another one: all that is to be computed. -/
def vwB (n0 npre : Nat) (lm : List (Value × Value)) (t1 : List Value) (m1 : Mem) (t2 : List Value) (next : Nat) (bs : Blocks) (ol : List Nat) : Bool :=
  viewB n0 (lfOf npre lm) ((bs.map (·.1)).zip ol) (ol.zip (bs.map (·.1))) none t1 m1 t2 next (mkSpec bs ol) && noLoops bs && bs.length == ol.length

theorem codes_of {m : Mem} {φ ψ : Tr Nat} {lf : Value → Value → Bool} {next : Nat} : ∀ {bs : Blocks} {ol : List Nat}, (mkSpec bs ol).all (objAt n0 m φ ψ lf next) = true → noLoops bs = true → codesAt m (mkSpec bs ol) = codesIn (mkSpec bs ol) := by
  intro bs
  induction bs with
  | nil => intro ol _ _; cases ol <;> rfl
  | cons b bs ih =>
    intro ol h hn
    obtain ⟨n, o⟩ := b
    cases ol with
    | nil => rfl
    | cons a ol =>
      simp only [mkSpec, List.all_cons, Bool.and_eq_true] at h
      simp only [noLoops, List.all_cons, Bool.and_eq_true] at hn
      have ih' := ih h.2 hn.2
      simp only [codesAt, codesIn] at ih'
      simp only [mkSpec, codesAt, codesIn, List.map_cons, ih', List.cons.injEq, and_true]
      have hx := h.1
      simp only [objAt, Bool.and_eq_true] at hx
      obtain ⟨_, hx⟩ := hx
      cases hm : m.get a with
      | none => rw [hm] at hx; cases hx
      | some o1 =>
        rw [hm] at hx
        simp only at hx
        cases o with
        | loop r => exact absurd hn.1 (by simp [noLoop1])
        | _ => cases o1 <;> first | rfl | (simp [oReab] at hx; done)

theorem vw_ok {ds ds' : List Value} {npre : Nat} {lm : List (Value × Value)} {t1 t2 : List Value} {m1 : Mem} {next : Nat} {bs : Blocks} {ol : List Nat} (hpre : ds'.take npre = ds.take npre) (hm : LMok ds ds' lm) (h : vwB n0 npre lm t1 m1 t2 next bs ol = true) :
    View (sigOf ds) (sigOf ds') n0 none t1 m1 t2 (memB next bs) := by
  simp only [vwB, Bool.and_eq_true, beq_iff_eq] at h
  obtain ⟨⟨h1, h2⟩, h3⟩ := h
  have h1' := h1
  simp only [viewB, Bool.and_eq_true] at h1'
  rw [← mkSpec_mem h3]
  exact view_ok (lfOf_ok hpre hm) h1 (codes_of h1'.1.1.1.1.2 h2)

/-- The run of a piece of code, from one state to another one. -/
def segB (P : Program) (len : Nat) (fs : List Fact) (fuel n0 : Nat) (c : SCode) (pre : Nat) (t : List Value) (next : Nat) (bs : Blocks) (x : Exit) (npre : Nat) (lm : List (Value × Value)) (t2 : List Value) (next2 : Nat) (bs2 : Blocks) (ol : List Nat) : Bool :=
  vwB n0 pre [] t (memB next bs) t next bs (bs.map (·.1)) && decide (n0 ≤ next) && match run (envF P len fs) fuel (.code none c t) (memB next bs) with
    | some (.exit y t1, m1) => exitEq x y && vwB n0 npre lm t1 m1 t2 next2 bs2 ol
    | _ => false

theorem seg_ok {ds ds2 ds' : List Value} {len fuel pre npre next next2 : Nat} {fs : List Fact} {c : SCode} {t t2 : List Value} {bs bs2 : Blocks} {x : Exit} {lm : List (Value × Value)} {ol : List Nat}
    (h : segB P len fs fuel n0 c pre t next bs x npre lm t2 next2 bs2 ol = true) (hmix : P.follows .mixedOrders = true) (hlen : ds2.length = len) (hd : ds2.all dataB = true) (h0 : ds2.take pre = ds.take pre) (hpre : ds'.take npre = ds2.take npre)
    (H : AllHold P ds2 fs) (hm : LMok ds2 ds' lm) : TOk (sigOf ds) (sigOf ds') P n0 none c t (memB next bs) x t2 (memB next2 bs2) := by
  subst hlen
  simp only [segB, Bool.and_eq_true, decide_eq_true_eq] at h
  obtain ⟨⟨h1, h2⟩, h3⟩ := h
  split at h3
  · rename_i y t1 m1 hr
    rw [Bool.and_eq_true] at h3
    obtain rfl := exitEq_eq h3.1
    have hE := sureF hmix (fun d h => List.all_eq_true.1 hd d h) (allHold H)
    exact TOk.pre (vw_ok (lm := []) h0 trivial h1) (TOk.view (TOk.of_run hE h2 hr) (vw_ok hpre hm h3.2))
  · cases h3

/-- Some steps into a sequence, from one state to another one. -/
def advB (P : Program) (len : Nat) (fs : List Fact) (fuel n0 k : Nat) (c : SCode) (pre : Nat) (t : List Value) (next : Nat) (bs : Blocks) (npre : Nat) (lm : List (Value × Value)) (t2 : List Value) (next2 : Nat) (bs2 : Blocks) (ol : List Nat) : Bool :=
  vwB n0 pre [] t (memB next bs) t next bs (bs.map (·.1)) && decide (n0 ≤ next) && match adv (envF P len fs) fuel none k c t (memB next bs) with
    | some (_, t1, m1) => vwB n0 npre lm t1 m1 t2 next2 bs2 ol
    | none => false

theorem adv_seg {ds ds2 ds' : List Value} {len fuel pre npre next next2 k : Nat} {fs : List Fact} {c c' : SCode} {t t2 t3 : List Value} {m3 : Mem} {bs bs2 : Blocks} {x : Exit} {lm : List (Value × Value)} {ol : List Nat} {σ' : Sig}
    (h : advB P len fs fuel n0 k c pre t next bs npre lm t2 next2 bs2 ol = true) (hc : (adv (envF P len fs) fuel none k c t (memB next bs)).map (·.1) = some c') (hmix : P.follows .mixedOrders = true) (hlen : ds2.length = len) (hd : ds2.all dataB = true)
    (h0 : ds2.take pre = ds.take pre) (hpre : ds'.take npre = ds2.take npre) (H : AllHold P ds2 fs) (hm : LMok ds2 ds' lm) (hx : ∀ l, x ≠ .goto l) (hrest : TOk (sigOf ds') σ' P n0 none c' t2 (memB next2 bs2) x t3 m3) :
    TOk (sigOf ds) σ' P n0 none c t (memB next bs) x t3 m3 := by
  subst hlen
  simp only [advB, Bool.and_eq_true, decide_eq_true_eq] at h
  obtain ⟨⟨h1, h2⟩, h3⟩ := h
  split at h3
  · rename_i c1 t1 m1 hr
    rw [hr] at hc
    simp only [Option.map_some, Option.some.injEq] at hc
    subst hc
    have hE := sureF hmix (fun d h => List.all_eq_true.1 hd d h) (allHold H)
    exact TOk.pre (vw_ok (lm := []) h0 trivial h1) (adv_ok hE hx k h2 hr fun _ => TOk.pre (vw_ok hpre hm h3) hrest)
  · cases h3
end
end Go.Ab
