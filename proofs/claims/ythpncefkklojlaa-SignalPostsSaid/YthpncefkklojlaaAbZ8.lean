/- An interpreter of our own: segments whose states hold loops' records; small views; what a call leaves that makes a slice. -/
import Derived.Test.YthpncefkklojlaaAbZ7
namespace Go.Ab
noncomputable section
variable {P : Program} {σ σ' : Sig} {n0 : Nat}

/-- One state looked at as another one; loops' records may be among the blocks. -/
def vwC (n0 npre : Nat) (lm : List (Value × Value)) (t1 : List Value) (m1 : Mem) (t2 : List Value) (next : Nat) (bs : Blocks) (ol : List Nat) : Bool :=
  viewB n0 (lfOf npre lm) ((bs.map (·.1)).zip ol) (ol.zip (bs.map (·.1))) none t1 m1 t2 next (mkSpec bs ol) && bs.length == ol.length
theorem vw_okC {ds ds' : List Value} {ts ts' : List Tie} {npre : Nat} {lm : List (Value × Value)} {t1 t2 : List Value} {m1 : Mem} {next : Nat} {bs : Blocks} {ol : List Nat} (hpre : ds'.take npre = ds.take npre) (hm : LMok ds ds' ts ts' lm) (ht : TieStep n0 ((bs.map (·.1)).zip ol) ts ts')
    (h : vwC n0 npre lm t1 m1 t2 next bs ol = true) (hc : codesAt m1 (mkSpec bs ol) = codesIn (mkSpec bs ol)) : View (sigOf ds ts) (sigOf ds' ts') n0 none t1 m1 t2 (memB next bs) := by
  simp only [vwC, Bool.and_eq_true, beq_iff_eq] at h
  rw [← mkSpec_mem h.2]
  exact view_ok (lfOf_ok hpre hm ht) h.1 hc

def segC (P : Program) (len : Nat) (fs : List Fact) (fuel n0 : Nat) (c : SCode) (pre : Nat) (t : List Value) (next : Nat) (bs : Blocks) (x : Exit) (npre : Nat) (lm : List (Value × Value)) (t2 : List Value) (next2 : Nat) (bs2 : Blocks) (ol : List Nat) (tf : List TFact := []) (xf : List XFact := []) : Bool :=
  vwC n0 pre [] t (memB next bs) t next bs (bs.map (·.1)) && decide (n0 ≤ next) && match run (envF P len fs tf xf) fuel (.code none c t) (memB next bs) with
    | some (.exit y t1, m1) => exitEq x y && vwC n0 npre lm t1 m1 t2 next2 bs2 ol
    | _ => false
theorem seg_okC {ds ds2 ds' : List Value} {ts ts2 ts' : List Tie} {len fuel pre npre next next2 : Nat} {fs : List Fact} {tf : List TFact} {xf : List XFact} {c : SCode} {t t2 : List Value} {bs bs2 : Blocks} {x : Exit} {lm : List (Value × Value)} {ol : List Nat}
    (h : segC P len fs fuel n0 c pre t next bs x npre lm t2 next2 bs2 ol tf xf = true) (hc1 : codesAt (memB next bs) (mkSpec bs (bs.map (·.1))) = codesIn (mkSpec bs (bs.map (·.1)))) (hc2 : codesAt (outM (run (envF P len fs tf xf) fuel (.code none c t) (memB next bs))) (mkSpec bs2 ol) = codesIn (mkSpec bs2 ol))
    (hmix : P.follows .mixedOrders = true) (hlen : ds2.length = len) (hd : ds2.all dataB = true) (h0 : ds2.take pre = ds.take pre) (hpre : ds'.take npre = ds2.take npre)
    (H : AllHold P ds2 fs) (hm : LMok ds2 ds' ts2 ts' lm) (HT : AllT P ds2 ts2 tf) (HX : AllX P ds2 ts2 xf) (ht0 : TieStep n0 ((bs.map (·.1)).zip (bs.map (·.1))) ts ts2) (ht : TieStep n0 ((bs2.map (·.1)).zip ol) ts2 ts') :
    TOk (sigOf ds ts) (sigOf ds' ts') P n0 none c t (memB next bs) x t2 (memB next2 bs2) := by
  subst hlen
  simp only [segC, Bool.and_eq_true, decide_eq_true_eq] at h
  obtain ⟨⟨h1, h2⟩, h3⟩ := h
  split at h3
  · rename_i y t1 m1 hr
    rw [Bool.and_eq_true] at h3
    obtain rfl := exitEq_eq h3.1
    have hE := sureFT (ts := ts2) (tf := tf) hmix (fun d h => List.all_eq_true.1 hd d h) (allHold H) HT.at_ HX.at_
    rw [hr] at hc2
    exact TOk.pre (vw_okC (lm := []) h0 trivial ht0 h1 hc1) (TOk.view (TOk.of_run hE h2 hr) (vw_okC hpre hm ht h3.2 hc2))
  · cases h3
/-- Some steps into a sequence. -/
def outA (r : Option (SCode × List Value × Mem)) : Mem := match r with
  | some (_, _, m) => m
  | none => m0
def advC (P : Program) (len : Nat) (fs : List Fact) (fuel n0 k : Nat) (c : SCode) (pre : Nat) (t : List Value) (next : Nat) (bs : Blocks) (npre : Nat) (lm : List (Value × Value)) (t2 : List Value) (next2 : Nat) (bs2 : Blocks) (ol : List Nat) (tf : List TFact := []) (xf : List XFact := []) : Bool :=
  vwC n0 pre [] t (memB next bs) t next bs (bs.map (·.1)) && decide (n0 ≤ next) && match adv (envF P len fs tf xf) fuel none k c t (memB next bs) with
    | some (_, t1, m1) => vwC n0 npre lm t1 m1 t2 next2 bs2 ol
    | none => false
theorem adv_segC {ds ds2 ds' : List Value} {ts ts2 ts' : List Tie} {len fuel pre npre next next2 k : Nat} {fs : List Fact} {tf : List TFact} {xf : List XFact} {c c' : SCode} {t t2 t3 : List Value} {m3 : Mem} {bs bs2 : Blocks} {x : Exit} {lm : List (Value × Value)} {ol : List Nat} {σ' : Sig}
    (h : advC P len fs fuel n0 k c pre t next bs npre lm t2 next2 bs2 ol tf xf = true) (hc1 : codesAt (memB next bs) (mkSpec bs (bs.map (·.1))) = codesIn (mkSpec bs (bs.map (·.1)))) (hc2 : codesAt (outA (adv (envF P len fs tf xf) fuel none k c t (memB next bs))) (mkSpec bs2 ol) = codesIn (mkSpec bs2 ol))
    (hc : (adv (envF P len fs tf xf) fuel none k c t (memB next bs)).map (·.1) = some c') (hmix : P.follows .mixedOrders = true) (hlen : ds2.length = len) (hd : ds2.all dataB = true)
    (h0 : ds2.take pre = ds.take pre) (hpre : ds'.take npre = ds2.take npre) (H : AllHold P ds2 fs) (hm : LMok ds2 ds' ts2 ts' lm) (HT : AllT P ds2 ts2 tf) (HX : AllX P ds2 ts2 xf) (ht0 : TieStep n0 ((bs.map (·.1)).zip (bs.map (·.1))) ts ts2) (ht : TieStep n0 ((bs2.map (·.1)).zip ol) ts2 ts')
    (hx : ∀ l, x ≠ .goto l) (hrest : TOk (sigOf ds' ts') σ' P n0 none c' t2 (memB next2 bs2) x t3 m3) : TOk (sigOf ds ts) σ' P n0 none c t (memB next bs) x t3 m3 := by
  subst hlen
  simp only [advC, Bool.and_eq_true, decide_eq_true_eq] at h
  obtain ⟨⟨h1, h2⟩, h3⟩ := h
  split at h3
  · rename_i c1 t1 m1 hr
    rw [hr] at hc hc2
    simp only [Option.map_some, Option.some.injEq] at hc
    subst hc
    have hE := sureFT (ts := ts2) (tf := tf) hmix (fun d h => List.all_eq_true.1 hd d h) (allHold H) HT.at_ HX.at_
    exact TOk.pre (vw_okC (lm := []) h0 trivial ht0 h1 hc1) (adv_ok hE hx k h2 hr fun _ => TOk.pre (vw_okC hpre hm ht h3 hc2) hrest)
  · cases h3

/-! ### small views -/
theorem vv_J {v : Value} : VV σ σ' n0 v J := fun _ _ _ _ _ => .junk
theorem trB_cons (b : Nat) (o : AObj) (l : Blocks) (k : Nat) : (trB ((b, o) :: l)).get k = if k = b then some o else (trB l).get k := by
  rw [trB, Tr.get_put _ _ _ _ _ (Nat.le_refl _)]
theorem memB_put (n b : Nat) (o : AObj) (l : Blocks) : (memB n l).put b o = memB n ((b, o) :: l) := rfl
/-- Fewer blocks. -/
theorem View.drop {t : List Value} {m m' : Mem} (hn : m'.next = m.next) (h : ∀ b o, m'.get b = some o → m.get b = some o) : View σ σ n0 none t m t m' := by
  intro ρ w ts l hR ht hl
  refine ⟨ρ, ⟨fun b hb => hR.dom b (hn ▸ hb), hR.glob, fun b o x hb hx => hR.obj b o x (h b o hb) hx, fun b1 b2 o1 o2 x1 x2 hne g1 g2 k1 k2 hw => hR.inj b1 b2 o1 o2 x1 x2 hne (h _ _ g1) (h _ _ g2) k1 k2 hw, fun b hb => ?_⟩, ht, hl, fun b hb => rfl, fun b o x hb hx => ⟨b, o, x, h b o hb, hx, rfl, rfl⟩⟩
  cases hm : m'.get b with
  | none => rfl
  | some o => rw [← hR.fresh b (hn ▸ hb)]; exact (h b o hm).symm
theorem drop_head {b n : Nat} {o o' : AObj} {l : Blocks} (h : (trB l).get b = none) : ∀ k x, (memB n l).get k = some x → (memB n ((b, o) :: (b, o') :: l)).get k = some x := by
  intro k x hk
  show (trB _).get k = _
  have hk : (trB l).get k = some x := hk
  have : k ≠ b := fun e => by rw [e, h] at hk; cases hk
  rw [trB_cons, if_neg this, trB_cons, if_neg this, hk]

theorem VRel.more {ds x : List Value} {ts : List Tie} {e v : Value} (h : (sigOf ds ts).S e v) : (sigOf (ds ++ x) ts).S e v := by
  obtain ⟨nm, fs, cs, h1, h2, h3⟩ := h
  refine ⟨nm, fs, cs, h1, ?_, h3⟩
  rw [h2, List.getD_eq_getElem?_getD, List.getD_eq_getElem?_getD]
  by_cases hl : leafNo fs < ds.length
  · rw [List.getElem?_append_left hl]
  · rw [h2, List.getD_eq_getElem?_getD, List.getElem?_eq_none (by omega)] at h3
    cases h3
/-- More names. -/
theorem View.names {ds x : List Value} {ts : List Tie} {t : List Value} {m : Mem} : View (sigOf ds ts) (sigOf (ds ++ x) ts) n0 none t m t m := by
  intro ρ w ts' l hR ht hl
  exact ⟨ρ, ⟨hR.dom, hR.glob, fun b o y hb hy => (hR.obj b o y hb hy).turn (fun _ _ => VRel.more) (fun _ _ h => h) (fun _ _ h => h) (Ext.refl _), hR.inj, hR.fresh⟩, ht.turn (fun _ _ => VRel.more) (fun _ _ h => h) (Ext.refl _), hl, fun b hb => rfl, fun b o x hb hx => ⟨b, o, x, hb, hx, rfl, rfl⟩⟩

/-! ### a call that makes a slice -/
theorem makes_of {ds ds' : List Value} {ts' : List Tie} {f : FuncId} {args es : List Value} {n b next : Nat} {rw_ : Bool} {q : Tie} (hd : ∀ d ∈ ds, dataB d = true) (ha : args.all (plainL ds.length 6) = true)
    (h : TCall (sigOf ds) (sigOf ds' ts') P n0 f args m0 (.slice (some ⟨b, 0, none⟩) n n) (memB next [(b, .cells (.ofList es) rw_ q.sz)])) (hL : q.L = n) (hp : es.all (plainL ds'.length 6) = true) (hc : q.cells = es.map (er ds')) :
    MakesOk P f (args.map (er ds)) q := by
  intro w
  refine (h ρ0 w (args.map (er ds)).toArray (m0_rel w) (by simpa using er_args hd ha)).mono ?_
  rintro e w' ⟨v', ρ', rfl, hr, hp', _⟩
  have hg : (memB next [(b, AObj.cells (.ofList es) rw_ q.sz)]).get b = some (.cells (.ofList es) rw_ q.sz) := by
    show (trB _).get b = _
    rw [trB_cons, if_pos rfl]
  cases hr with
  | slice hb hcc hn =>
    rename_i k off sl c'
    obtain ⟨cs, t, fz, h1, h2, h3, h4⟩ := hp'.rel.obj _ _ _ hg hb
    rw [Cells.ofList_list] at h2
    have hk : w.heap.size ≤ k := by
      rcases Nat.lt_or_ge k w.heap.size with hlt | hge
      · obtain ⟨b0, o0, x0, g1, _⟩ := hp'.img b _ _ hg hb hlt
        exact absurd g1 (by rw [show m0.get b0 = none from Tr.get_leaf b0]; simp)
      · exact hge
    refine ⟨k, off + 0, c', cs, t, fz, by rw [hL], hp'.below m0_sealed, hk, h1, ?_, fun i hi => ?_⟩
    · rw [hc, List.length_map]
      simp only at h2
      omega
    · rw [hc, List.length_map] at hi
      have h5 := h4 i (by rw [Cells.ofList_list]; exact hi)
      rw [Cells.ofList_list] at h5
      have hmem : es.getD i undef ∈ es := by
        rw [List.getD_eq_getElem?_getD, List.getElem?_eq_getElem hi]; exact List.getElem_mem _
      have h6 := er_eq 6 _ _ (List.all_eq_true.1 hp _ hmem) h5
      simp only at h6
      rw [Nat.add_zero, h6, hc, show (es.map (er ds')).getD i undef = er ds' (es.getD i undef) by simp [List.getD_eq_getElem?_getD, hi]]
      rfl
end
end Go.Ab
