/- An interpreter of our own: segments: a run on symbolic values from one state to another one, checked at once. -/
import Derived.Test.YthpncefkklojlaaAbZ5
namespace Go.Ab
noncomputable section
variable {P : Program} {n0 : Nat}

/-- Nothing is known of it. -/
abbrev J : Value := .chan (some 0)
/-- n temporaries: these, of the others nothing is known. -/
def tl (n : Nat) (l : List (Nat × Value)) : List Value := (List.range n).map fun i => match l.find? (·.1 == i) with
  | some p => p.2
  | none => J

/-- The first symbolic values keep their names; the others by pairs. -/
def lfOf (npre : Nat) (lm : List (Value × Value)) (a b : Value) : Bool :=
  (match a, b with
    | .func (.method _) fs _, .func (.method _) gs _ => leafNo fs == leafNo gs && decide (leafNo fs < npre)
    | _, _ => false) || lm.any fun p => vEqL 2 a p.1 && vEqL 2 b p.2

def LMok (ds ds' : List Value) (ts ts' : List Tie) : List (Value × Value) → Prop
  | [] => True
  | p :: l => VV (sigOf ds ts) (sigOf ds' ts') 0 p.1 p.2 ∧ LMok ds ds' ts ts' l
theorem LMok.at_ {ds ds' : List Value} {ts ts' : List Tie} : ∀ {l : List (Value × Value)}, LMok ds ds' ts ts' l → ∀ p ∈ l, VV (sigOf ds ts) (sigOf ds' ts') 0 p.1 p.2
  | [], _, p, h => by cases h
  | q :: l, ⟨h1, h2⟩, p, h => by
    rcases List.mem_cons.1 h with rfl | h
    · exact h1
    · exact h2.at_ p h

/-- What hangs together still does. -/
structure TieStep (n0 : Nat) (Φ : List (Nat × Nat)) (ts ts' : List Tie) : Prop where
  tie : ∀ j (ρ : Rho) v, (sigOf [] ts).T j ρ v → (sigOf [] ts').T j (rho2 n0 (trOf Φ) ρ) v
  frz : ∀ tag C, (sigOf [] ts).F tag = some C → (sigOf [] ts').F tag = some C
theorem TieStep.nil {Φ : List (Nat × Nat)} : TieStep n0 Φ [] [] := ⟨fun j ρ v h => by
  obtain ⟨t, h, _⟩ := h
  simp at h, fun _ _ h => h⟩
/-- Slices: the same ones (some may come to them); blocks that keep their numbers. -/
def TStep (n0 : Nat) (Φ : List (Nat × Nat)) : List Tie → List Tie → Prop
  | [], _ => True
  | t :: l, t' :: l' => (t'.whole = t.whole ∧ t'.L = t.L ∧ t'.sz = t.sz ∧ t'.cells = t.cells ∧ phi n0 (trOf Φ) t.whole = some t.whole ∧ ∀ e ∈ t'.elems, e ∈ t.elems ∧ phi n0 (trOf Φ) e.1 = some e.1) ∧ TStep n0 Φ l l'
  | _ :: _, [] => False
theorem TStep.at_ {Φ : List (Nat × Nat)} : ∀ {l l' : List Tie} {j : Nat} {t : Tie}, TStep n0 Φ l l' → l[j]? = some t → ∃ t', l'[j]? = some t' ∧ t'.whole = t.whole ∧ t'.L = t.L ∧ t'.sz = t.sz ∧ t'.cells = t.cells ∧ phi n0 (trOf Φ) t.whole = some t.whole ∧ ∀ e ∈ t'.elems, e ∈ t.elems ∧ phi n0 (trOf Φ) e.1 = some e.1
  | [], _, j, t, _, h => by simp at h
  | q :: l, q' :: l', j, t, h, hj => by
    cases j with
    | zero =>
      simp only [List.getElem?_cons_zero, Option.some.injEq] at hj
      subst hj
      exact ⟨q', rfl, h.1⟩
    | succ j =>
      obtain ⟨t', h1, h2⟩ := h.2.at_ (by simpa using hj)
      exact ⟨t', by simpa using h1, h2⟩
  | _ :: _, [], _, _, h, _ => h.elim
theorem TieStep.of {Φ : List (Nat × Nat)} {ts ts' : List Tie} (H : TStep n0 Φ ts ts') : TieStep n0 Φ ts ts' := by
  refine ⟨fun j ρ v h => ?_, fun tag C h => ?_⟩
  · obtain ⟨q, hq, hn⟩ := h
    obtain ⟨q', h0, h1, h2, h3, h4, h5, h6⟩ := H.at_ hq
    rcases hn with hn | ⟨k, off, C, g1, g2, g3⟩
    · exact ⟨q', h0, .inl ⟨h2.trans hn.1, hn.2⟩⟩
    refine ⟨q', h0, .inr ⟨k, off, C, h2 ▸ g1, ?_, fun e he => ?_⟩⟩
    · obtain ⟨sl, hs⟩ := g2
      exact ⟨sl, by simp only [rho2, h1, h5, Option.bind_some]; exact hs⟩
    · obtain ⟨k1, k2⟩ := h6 e he
      obtain ⟨hl, sl, hs⟩ := g3 e k1
      exact ⟨h2 ▸ hl, sl, by simp only [rho2, k2, Option.bind_some, h3]; exact hs⟩
  · have h : (ts[tag]?).map (·.cells) = some C := h
    cases hq : ts[tag]? with
    | none => rw [hq] at h; cases h
    | some q =>
      rw [hq] at h
      obtain ⟨q', h0, _, _, _, h4, _⟩ := H.at_ hq
      show (ts'[tag]?).map (·.cells) = some C
      rw [h0]
      simpa [h4] using h

theorem lfOf_ok {ds ds' : List Value} {ts ts' : List Tie} {npre : Nat} {lm : List (Value × Value)} {Φ : List (Nat × Nat)} (hpre : ds'.take npre = ds.take npre) (hm : LMok ds ds' ts ts' lm) (ht : TieStep n0 Φ ts ts') :
    LfOk (sigOf ds ts) (sigOf ds' ts') n0 (trOf Φ) (lfOf npre lm) := by
  refine ⟨fun a b h ρ v hv => ?_, fun j ρ v h => ht.tie j ρ v h, fun tag C h => ht.frz tag C h⟩
  unfold lfOf at h
  rw [Bool.or_eq_true] at h
  rcases h with h | h
  · split at h
    · rename_i nm fs cs nm' gs cs'
      simp only [Bool.and_eq_true, beq_iff_eq, decide_eq_true_eq] at h
      cases hv with
      | sym hs =>
        obtain ⟨_, _, _, e, h1, h2⟩ := hs
        cases e
        refine .sym ⟨_, _, _, rfl, ?_, h2⟩
        rw [h1, ← h.1, ← getD_take h.2, ← hpre, getD_take h.2]
      | func _ hm => exact absurd rfl (hm _)
    · cases h
  · rw [List.any_eq_true] at h
    obtain ⟨p, hp, he⟩ := h
    rw [Bool.and_eq_true] at he
    rw [vEqL_eq 2 _ _ he.1] at hv
    rw [vEqL_eq 2 _ _ he.2]
    exact hm.at_ p hp ρ _ v (fun b hb => by omega) hv

/-- Blocks, with their numbers in the state ahead. -/
def mkSpec : Blocks → List Nat → Spec
  | (n, o) :: bs, a :: ol => (n, a, o) :: mkSpec bs ol
  | _, _ => []
theorem mkSpec_mem {next : Nat} : ∀ {bs : Blocks} {ol : List Nat}, bs.length = ol.length → memOf next (mkSpec bs ol) = memB next bs := by
  have : ∀ {bs : Blocks} {ol : List Nat}, bs.length = ol.length → trObj (mkSpec bs ol) = trB bs := by
    intro bs
    induction bs with
    | nil => intro ol _; cases ol <;> rfl
    | cons b bs ih =>
      intro ol h
      cases ol with
      | nil => simp at h
      | cons a ol => obtain ⟨n, o⟩ := b; simp only [mkSpec, trObj, trB, ih (by simpa using h)]
  intro bs ol h
  simp only [memOf, memB, this h]

def noLoop1 : AObj → Bool
  | .loop _ => false
  | _ => true
def noLoops (l : Blocks) : Bool := l.all fun e => noLoop1 e.2
def exitEq : Exit → Exit → Bool
  | .normal, .normal => true
  | .ret, .ret => true
  | .exit i, .exit j => i == j
  | _, _ => false
theorem exitEq_eq {x y : Exit} (h : exitEq x y = true) : x = y := by
  unfold exitEq at h
  split at h <;> first | rfl | (rw [eq_of_beq h]) | cases h

/-- One state looked at as another one: all that is to be computed. -/
def vwB (n0 npre : Nat) (lm : List (Value × Value)) (t1 : List Value) (m1 : Mem) (t2 : List Value) (next : Nat) (bs : Blocks) (ol : List Nat) : Bool :=
  viewB n0 (lfOf npre lm) ((bs.map (·.1)).zip ol) (ol.zip (bs.map (·.1))) none t1 m1 t2 next (mkSpec bs ol) && noLoops bs && bs.length == ol.length

theorem codes_of {m : Mem} {φ ψ : Tr Nat} {lf : Value → Value → Bool} {next : Nat} : ∀ {bs : Blocks} {ol : List Nat}, (mkSpec bs ol).all (objAt n0 m φ ψ lf next) = true → noLoops bs = true → codesAt m (mkSpec bs ol) = codesIn (mkSpec bs ol) := by
  intro bs
  induction bs with
  | nil => intro ol _ _; cases ol <;> rfl
  | cons b bs ih =>
    intro ol h hn
    obtain ⟨n, o⟩ := b
    cases ol with
    | nil => rfl
    | cons a ol =>
      simp only [mkSpec, List.all_cons, Bool.and_eq_true] at h
      simp only [noLoops, List.all_cons, Bool.and_eq_true] at hn
      have ih' := ih h.2 hn.2
      simp only [codesAt, codesIn] at ih'
      simp only [mkSpec, codesAt, codesIn, List.map_cons, ih', List.cons.injEq, and_true]
      have hx := h.1
      simp only [objAt, Bool.and_eq_true] at hx
      obtain ⟨_, hx⟩ := hx
      cases hm : m.get a with
      | none => rw [hm] at hx; cases hx
      | some o1 =>
        rw [hm] at hx
        simp only at hx
        cases o with
        | loop r => exact absurd hn.1 (by simp [noLoop1])
        | _ => cases o1 <;> first | rfl | (simp [oReab] at hx; done)

theorem vw_ok {ds ds' : List Value} {ts ts' : List Tie} {npre : Nat} {lm : List (Value × Value)} {t1 t2 : List Value} {m1 : Mem} {next : Nat} {bs : Blocks} {ol : List Nat} (hpre : ds'.take npre = ds.take npre) (hm : LMok ds ds' ts ts' lm) (ht : TieStep n0 ((bs.map (·.1)).zip ol) ts ts')
    (h : vwB n0 npre lm t1 m1 t2 next bs ol = true) : View (sigOf ds ts) (sigOf ds' ts') n0 none t1 m1 t2 (memB next bs) := by
  simp only [vwB, Bool.and_eq_true, beq_iff_eq] at h
  obtain ⟨⟨h1, h2⟩, h3⟩ := h
  have h1' := h1
  simp only [viewB, Bool.and_eq_true] at h1'
  rw [← mkSpec_mem h3]
  exact view_ok (lfOf_ok hpre hm ht) h1 (codes_of h1'.1.1.1.1.2 h2)

/-- The run of a piece of code, from one state to another one. -/
def segB (P : Program) (len : Nat) (fs : List Fact) (fuel n0 : Nat) (c : SCode) (pre : Nat) (t : List Value) (next : Nat) (bs : Blocks) (x : Exit) (npre : Nat) (lm : List (Value × Value)) (t2 : List Value) (next2 : Nat) (bs2 : Blocks) (ol : List Nat) (tf : List TFact := []) (xf : List XFact := []) : Bool :=
  vwB n0 pre [] t (memB next bs) t next bs (bs.map (·.1)) && decide (n0 ≤ next) && match run (envF P len fs tf xf) fuel (.code none c t) (memB next bs) with
    | some (.exit y t1, m1) => exitEq x y && vwB n0 npre lm t1 m1 t2 next2 bs2 ol
    | _ => false
def AllT (P : Program) (ds : List Value) (ts : List Tie) : List TFact → Prop
  | [] => True
  | f :: l => f.Holds P ds ts ∧ AllT P ds ts l
theorem AllT.at_ {ds : List Value} {ts : List Tie} : ∀ {l : List TFact}, AllT P ds ts l → ∀ f ∈ l, f.Holds P ds ts
  | [], _, f, h => by cases h
  | g :: l, ⟨h1, h2⟩, f, h => by
    rcases List.mem_cons.1 h with rfl | h
    · exact h1
    · exact h2.at_ f h
def AllX (P : Program) (ds : List Value) (ts : List Tie) : List XFact → Prop
  | [] => True
  | f :: l => (f.plain ds.length = true ∧ f.Holds P ds ts) ∧ AllX P ds ts l
theorem AllX.at_ {ds : List Value} {ts : List Tie} : ∀ {l : List XFact}, AllX P ds ts l → ∀ f ∈ l, f.plain ds.length = true ∧ f.Holds P ds ts
  | [], _, f, h => by cases h
  | g :: l, ⟨h1, h2⟩, f, h => by
    rcases List.mem_cons.1 h with rfl | h
    · exact h1
    · exact h2.at_ f h

theorem seg_okX {ds ds2 ds' : List Value} {ts ts2 ts' : List Tie} {len fuel pre npre next next2 : Nat} {fs : List Fact} {tf : List TFact} {xf : List XFact} {c : SCode} {t t2 : List Value} {bs bs2 : Blocks} {x : Exit} {lm : List (Value × Value)} {ol : List Nat}
    (h : segB P len fs fuel n0 c pre t next bs x npre lm t2 next2 bs2 ol tf xf = true) (hmix : P.follows .mixedOrders = true) (hlen : ds2.length = len) (hd : ds2.all dataB = true) (h0 : ds2.take pre = ds.take pre) (hpre : ds'.take npre = ds2.take npre)
    (H : AllHold P ds2 fs) (hm : LMok ds2 ds' ts2 ts' lm) (HT : AllT P ds2 ts2 tf) (HX : AllX P ds2 ts2 xf) (ht0 : TieStep n0 ((bs.map (·.1)).zip (bs.map (·.1))) ts ts2) (ht : TieStep n0 ((bs2.map (·.1)).zip ol) ts2 ts') :
    TOk (sigOf ds ts) (sigOf ds' ts') P n0 none c t (memB next bs) x t2 (memB next2 bs2) := by
  subst hlen
  simp only [segB, Bool.and_eq_true, decide_eq_true_eq] at h
  obtain ⟨⟨h1, h2⟩, h3⟩ := h
  split at h3
  · rename_i y t1 m1 hr
    rw [Bool.and_eq_true] at h3
    obtain rfl := exitEq_eq h3.1
    have hE := sureFT (ts := ts2) (tf := tf) hmix (fun d h => List.all_eq_true.1 hd d h) (allHold H) HT.at_ HX.at_
    exact TOk.pre (vw_ok (lm := []) h0 trivial ht0 h1) (TOk.view (TOk.of_run hE h2 hr) (vw_ok hpre hm ht h3.2))
  · cases h3
theorem seg_okT {ds ds2 ds' : List Value} {ts ts' : List Tie} {len fuel pre npre next next2 : Nat} {fs : List Fact} {tf : List TFact} {c : SCode} {t t2 : List Value} {bs bs2 : Blocks} {x : Exit} {lm : List (Value × Value)} {ol : List Nat}
    (h : segB P len fs fuel n0 c pre t next bs x npre lm t2 next2 bs2 ol tf = true) (hmix : P.follows .mixedOrders = true) (hlen : ds2.length = len) (hd : ds2.all dataB = true) (h0 : ds2.take pre = ds.take pre) (hpre : ds'.take npre = ds2.take npre)
    (H : AllHold P ds2 fs) (hm : LMok ds2 ds' ts ts' lm) (HT : AllT P ds2 ts tf) (ht0 : TieStep n0 ((bs.map (·.1)).zip (bs.map (·.1))) ts ts) (ht : TieStep n0 ((bs2.map (·.1)).zip ol) ts ts') :
    TOk (sigOf ds ts) (sigOf ds' ts') P n0 none c t (memB next bs) x t2 (memB next2 bs2) :=
  seg_okX h hmix hlen hd h0 hpre H hm HT trivial ht0 ht
theorem seg_ok {ds ds2 ds' : List Value} {len fuel pre npre next next2 : Nat} {fs : List Fact} {c : SCode} {t t2 : List Value} {bs bs2 : Blocks} {x : Exit} {lm : List (Value × Value)} {ol : List Nat}
    (h : segB P len fs fuel n0 c pre t next bs x npre lm t2 next2 bs2 ol = true) (hmix : P.follows .mixedOrders = true) (hlen : ds2.length = len) (hd : ds2.all dataB = true) (h0 : ds2.take pre = ds.take pre) (hpre : ds'.take npre = ds2.take npre)
    (H : AllHold P ds2 fs) (hm : LMok ds2 ds' [] [] lm) : TOk (sigOf ds) (sigOf ds') P n0 none c t (memB next bs) x t2 (memB next2 bs2) :=
  seg_okT h hmix hlen hd h0 hpre H hm trivial TieStep.nil TieStep.nil

/-- Some steps into a sequence, from one state to another one. -/
def advB (P : Program) (len : Nat) (fs : List Fact) (fuel n0 k : Nat) (c : SCode) (pre : Nat) (t : List Value) (next : Nat) (bs : Blocks) (npre : Nat) (lm : List (Value × Value)) (t2 : List Value) (next2 : Nat) (bs2 : Blocks) (ol : List Nat) (tf : List TFact := []) (xf : List XFact := []) : Bool :=
  vwB n0 pre [] t (memB next bs) t next bs (bs.map (·.1)) && decide (n0 ≤ next) && match adv (envF P len fs tf xf) fuel none k c t (memB next bs) with
    | some (_, t1, m1) => vwB n0 npre lm t1 m1 t2 next2 bs2 ol
    | none => false

theorem adv_segX {ds ds2 ds' : List Value} {ts ts2 ts' : List Tie} {len fuel pre npre next next2 k : Nat} {fs : List Fact} {tf : List TFact} {xf : List XFact} {c c' : SCode} {t t2 t3 : List Value} {m3 : Mem} {bs bs2 : Blocks} {x : Exit} {lm : List (Value × Value)} {ol : List Nat} {σ' : Sig}
    (h : advB P len fs fuel n0 k c pre t next bs npre lm t2 next2 bs2 ol tf xf = true) (hc : (adv (envF P len fs tf xf) fuel none k c t (memB next bs)).map (·.1) = some c') (hmix : P.follows .mixedOrders = true) (hlen : ds2.length = len) (hd : ds2.all dataB = true)
    (h0 : ds2.take pre = ds.take pre) (hpre : ds'.take npre = ds2.take npre) (H : AllHold P ds2 fs) (hm : LMok ds2 ds' ts2 ts' lm) (HT : AllT P ds2 ts2 tf) (HX : AllX P ds2 ts2 xf) (ht0 : TieStep n0 ((bs.map (·.1)).zip (bs.map (·.1))) ts ts2) (ht : TieStep n0 ((bs2.map (·.1)).zip ol) ts2 ts')
    (hx : ∀ l, x ≠ .goto l) (hrest : TOk (sigOf ds' ts') σ' P n0 none c' t2 (memB next2 bs2) x t3 m3) : TOk (sigOf ds ts) σ' P n0 none c t (memB next bs) x t3 m3 := by
  subst hlen
  simp only [advB, Bool.and_eq_true, decide_eq_true_eq] at h
  obtain ⟨⟨h1, h2⟩, h3⟩ := h
  split at h3
  · rename_i c1 t1 m1 hr
    rw [hr] at hc
    simp only [Option.map_some, Option.some.injEq] at hc
    subst hc
    have hE := sureFT (ts := ts2) (tf := tf) hmix (fun d h => List.all_eq_true.1 hd d h) (allHold H) HT.at_ HX.at_
    exact TOk.pre (vw_ok (lm := []) h0 trivial ht0 h1) (adv_ok hE hx k h2 hr fun _ => TOk.pre (vw_ok hpre hm ht h3) hrest)
  · cases h3
theorem adv_segT {ds ds2 ds' : List Value} {ts ts' : List Tie} {len fuel pre npre next next2 k : Nat} {fs : List Fact} {tf : List TFact} {c c' : SCode} {t t2 t3 : List Value} {m3 : Mem} {bs bs2 : Blocks} {x : Exit} {lm : List (Value × Value)} {ol : List Nat} {σ' : Sig}
    (h : advB P len fs fuel n0 k c pre t next bs npre lm t2 next2 bs2 ol tf = true) (hc : (adv (envF P len fs tf) fuel none k c t (memB next bs)).map (·.1) = some c') (hmix : P.follows .mixedOrders = true) (hlen : ds2.length = len) (hd : ds2.all dataB = true)
    (h0 : ds2.take pre = ds.take pre) (hpre : ds'.take npre = ds2.take npre) (H : AllHold P ds2 fs) (hm : LMok ds2 ds' ts ts' lm) (HT : AllT P ds2 ts tf) (ht0 : TieStep n0 ((bs.map (·.1)).zip (bs.map (·.1))) ts ts) (ht : TieStep n0 ((bs2.map (·.1)).zip ol) ts ts')
    (hx : ∀ l, x ≠ .goto l) (hrest : TOk (sigOf ds' ts') σ' P n0 none c' t2 (memB next2 bs2) x t3 m3) : TOk (sigOf ds ts) σ' P n0 none c t (memB next bs) x t3 m3 :=
  adv_segX h hc hmix hlen hd h0 hpre H hm HT trivial ht0 ht hx hrest
theorem adv_seg {ds ds2 ds' : List Value} {len fuel pre npre next next2 k : Nat} {fs : List Fact} {c c' : SCode} {t t2 t3 : List Value} {m3 : Mem} {bs bs2 : Blocks} {x : Exit} {lm : List (Value × Value)} {ol : List Nat} {σ' : Sig}
    (h : advB P len fs fuel n0 k c pre t next bs npre lm t2 next2 bs2 ol = true) (hc : (adv (envF P len fs) fuel none k c t (memB next bs)).map (·.1) = some c') (hmix : P.follows .mixedOrders = true) (hlen : ds2.length = len) (hd : ds2.all dataB = true)
    (h0 : ds2.take pre = ds.take pre) (hpre : ds'.take npre = ds2.take npre) (H : AllHold P ds2 fs) (hm : LMok ds2 ds' [] [] lm) (hx : ∀ l, x ≠ .goto l) (hrest : TOk (sigOf ds') σ' P n0 none c' t2 (memB next2 bs2) x t3 m3) :
    TOk (sigOf ds) σ' P n0 none c t (memB next bs) x t3 m3 :=
  adv_segT h hc hmix hlen hd h0 hpre H hm trivial TieStep.nil TieStep.nil hx hrest
end
end Go.Ab
