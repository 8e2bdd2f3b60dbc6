/- Queue: the core with the fewest. -/
import Derived.Test.YtikmfccjfhobbaaQuB
namespace Go.Ab
open Go.Proofs
noncomputable section
set_option maxHeartbeats 2000000
abbrev Um (a : BitVec 32) : Value := .int .u32 (a.toNat : Int)
def fewStep (l : Nat → List Int) (a : BitVec 32) (best : Int) (k : Nat) : Int := if mb a k = true then (if best < 0 ∨ (l k).length < (l best.toNat).length then (k : Int) else best) else best
def fewTo (l : Nat → List Int) (a : BitVec 32) (n : Nat) : Int := (List.range n).foldl (fewStep l a) (-1)
theorem fewTo_succ {l : Nat → List Int} {a : BitVec 32} {n : Nat} : fewTo l a (n + 1) = fewStep l a (fewTo l a n) n := by
  unfold fewTo
  rw [List.range_succ, List.foldl_append]; rfl
theorem fewTo_lt {l : Nat → List Int} {a : BitVec 32} : ∀ {n : Nat}, -1 ≤ fewTo l a n ∧ fewTo l a n < n
  | 0 => by unfold fewTo; simp
  | n + 1 => by
    have := fewTo_lt (l := l) (a := a) (n := n)
    rw [fewTo_succ]
    unfold fewStep
    split
    · split <;> omega
    · omega
theorem boxU {n : Int} : boxL (.int .u32 n) = some [.int .u32 n] := rfl
section
variable {m : Mem} {b : Nat} {O : Nat → Prop} {sl : Nat → Value} {cs : Cells} {c : Nat} {l : Nat → List Int} {a : BitVec 32}
/-- Behind some cores. -/
structure FewI (mr : Mem) (lp o zo : Nat) (tl : List (Nat × Value)) (r : Int) (M : Mem) : Prop where
  next : mr.next ≤ M.next
  low : Low M M.next
  old : ∀ y, y < mr.next → y ≠ o → y ≠ lp → M.get y = mr.get y
  loop : M.get lp = some (.loop ⟨.ready, none, T 32 tl, [10], c32_4, c32_9⟩)
  out : ∃ co, M.get o = some (.cells co true zo) ∧ co.n = 1 ∧ co.nth 0 = some (In r)
theorem FewI.bump {mr M : Mem} {lp o zo : Nat} {tl : List (Nat × Value)} {r : Int} (h : FewI mr lp o zo tl r M) (j : Nat) : FewI mr lp o zo tl r (M.bump j) :=
  ⟨by rw [Mem.next_bump]; exact Nat.le_add_right_of_le h.next, Low.up (Low.bump h.low) (by rw [Mem.next_bump]; omega), h.old, h.loop, h.out⟩
theorem FewI.grow {mr M : Mem} {lp o zo : Nat} {tl : List (Nat × Value)} {r : Int} (h : FewI mr lp o zo tl r M) (hl : mr.get lp ≠ none) (ho : mr.get o ≠ none) : Grow mr M :=
  ⟨h.next, fun y hy e => by rw [h.old y hy (fun e2 => ho (e2 ▸ e)) (fun e2 => hl (e2 ▸ e)), e]⟩
theorem few_it {mr : Mem} {lp bx x y o zo zb zx zy : Nat} {tl : List (Nat × Value)} {co0 : Cells} (hmr : Fresh mr)
    (hl : mr.get lp = some (.loop ⟨.ready, none, T 32 tl, [10], c32_4, c32_9⟩)) (h2 : lk tl 2 = PT bx) (h5 : lk tl 5 = PT o)
    (hx : mr.get x = some (.cells (Cells.ofList [PT b]) true zx)) (hbx : mr.get bx = some (.cells (Cells.ofList [PT b]) true zb)) (hy : mr.get y = some (.cells (Cells.ofList [Um a]) true zy))
    (ho : mr.get o = some (.cells co0 true zo)) (hco : co0.n = 1) (hco0 : co0.nth 0 = some (In (-1)))
    (hxo : x ≠ o) (hbo : bx ≠ o) (hyo : y ≠ o) (hOo : ¬ O o) (hOl : ¬ O lp) (h : QAt mr b O sl cs c l) (hs : Short l) :
    ∃ v m2, Con EE.P 47 [.func (.yield lp) #[] #[], PT x, PT y] mr v m2 ∧ FewI mr lp o zo tl (fewTo l a c) m2 := by
  refine Con.raw EE_ok fn47 (Nat.le_of_ble_eq_true rfl) _ ?_
  simp only [f47, enumV, Nat.zero_add, Nat.reduceAdd, w47, W_scope, w47_9, W_seq, W_label, thenQ_normal, w47_0, Nat.le_refl, X_load EE_sym, Nat.reduceLT, ev_T, lk_cons, Nat.reduceEqDiff, if_false, if_true, load1 lay_23, Mem.get_bump, hx, ld1_cells, nth_ofList, List.getElem?_cons_zero, okI_some, T_set, X_call ca_29, List.map_cons, List.map_nil, true_and]
  refine CallI.con0 (cores_ok (h.bump _)) ?_
  simp only [putT, Nat.reduceLT, T_set, X_move, ev_const, X_nil, thenQ_normal, W_block, w47_8]
  have hc8 := h.c8
  refine WX.loop_of (fun x' t M => ∃ i : Nat, i ≤ c ∧ x' = c - i ∧ t = T 20 [(7, In i), (6, In c), (0, .func (.yield lp) #[] #[]), (1, PT x), (2, PT y)] ∧ FewI mr lp o zo tl (fewTo l a i) M) ?_ (k := c) (t1 := T 20 [(7, In (0 : Nat)), (6, In c), (0, .func (.yield lp) #[] #[]), (1, PT x), (2, PT y)]) (View.temps ⟨rfl, rfl, rfl, rfl, rfl, trivial⟩) ⟨0, by omega, rfl, rfl, FewI.bump (M := mr) ⟨Nat.le_refl _, hmr.none, fun _ _ _ _ => rfl, hl, co0, ho, hco, hco0⟩ _⟩
  rintro x' t M ⟨i, hi, rfl, rfl, hI⟩
  have hnx := hI.next
  by_cases hi2 : i < c
  · have q1 : (i : Int) < (c : Int) := by omega
    have q2 : (0 : Int) ≤ i := by omega
    have q8 : (i : Int) < ((8 : Nat) : Int) := by omega
    have hw : IntKind.i64.wrap ((i : Int) + 1) = ((i + 1 : Nat) : Int) := by rw [wrap_i64 (by omega) (by omega)]; omega
    have hlx : ∀ z w cc, mr.get z = some (.cells cc true w) → z ≠ lp := fun z w cc hz e => by rw [e, hl] at hz; cases hz
    have My : M.get y = some (.cells (Cells.ofList [Um a]) true zy) := by rw [hI.old y (hmr.lt hy) hyo (hlx _ _ _ hy), hy]
    cases hb : mb a i with
    | false =>
      have e0 := mb_f0 hb
      simp only [w47_7, W_seq, w47_1, hnx, X_bin EE_sym (op := .lss) rfl, Nat.reduceLT, ev_T, lk_cons, Nat.reduceEqDiff, if_false, if_true, bin_lss, q1, decide_true, okI_some, T_set, X_nil, thenQ_normal, W_cond, CDi_t, W_skip, W_block, w47_5, w47_2, Mem.next_bump, Nat.le_add_right_of_le, bump_bump, Nat.reduceAdd, X_move, X_assign, w47_3, X_load EE_sym, load1 lay_29, Mem.get_bump, My, ld1_cells, nth_ofList, List.getElem?_cons_zero, X_bin EE_sym (op := .shr) rfl, q2, bin_shr32, Int.toNat_natCast, X_bin EE_sym (op := .and) rfl, ev_const, bin_and1, X_eql EE_sym, eq_int, e0, W_exit, thenQ_exit, blockQ_exit, w47_6, X_bin EE_sym (op := .add) rfl, bin_add, hw, roundQ_normal, true_and]
      refine ⟨c - (i + 1), _, _, by omega, View.temps (l' := [(7, In ((i + 1 : Nat) : Int)), (6, In c), (0, .func (.yield lp) #[] #[]), (1, PT x), (2, PT y)]) ⟨rfl, rfl, rfl, rfl, rfl, trivial⟩, i + 1, by omega, rfl, rfl, ?_⟩
      rw [fewTo_succ, fewStep, if_neg (by rw [hb]; decide)]
      exact hI.bump _
    | true =>
      have e0 := mb_t0 hb
      have Ml := hI.loop
      obtain ⟨co, Mo, k1, k2⟩ := hI.out
      have hol : ¬ o = lp := hlx _ _ _ ho
      have hlo : ¬ lp = o := fun e => hol e.symm
      have Mb : M.get bx = some (.cells (Cells.ofList [PT b]) true zb) := by rw [hI.old bx (hmr.lt hbx) hbo (hlx _ _ _ hbx), hbx]
      have bl : ¬ bx = lp := hlx _ _ _ hbx
      have Mq : QAt M b O sl cs c l := h.keep fun z w hz hw => by rw [hI.old z (hmr.lt hw) (fun e => hOo (e ▸ hz)) (fun e => hOl (e ▸ hz)), hw]
      have bq : ¬ b = lp := hlx _ _ _ h.at_
      have hl1 : ∀ M, lenA EE.P 30 (sl i) M = some (In (l i).length) := fun M => (h.sls i (by omega)).lenA und_30
      have hlt : lp < M.next := Nat.lt_of_lt_of_le (hmr.lt hl) hnx
      have hot : o < M.next := Nat.lt_of_lt_of_le (hmr.lt ho) hnx
      simp only [w47_7, W_seq, w47_1, hnx, X_bin EE_sym (op := .lss) rfl, Nat.reduceLT, ev_T, lk_cons, Nat.reduceEqDiff, if_false, if_true, bin_lss, q1, decide_true, okI_some, T_set, X_nil, thenQ_normal, W_cond, CDi_t, W_skip, W_block, w47_5, w47_2, Mem.next_bump, Nat.le_add_right_of_le, bump_bump, Nat.reduceAdd, X_move, X_assign, w47_3, X_load EE_sym, load1 lay_29, Mem.get_bump, My, ld1_cells, nth_ofList, List.getElem?_cons_zero, X_bin EE_sym (op := .shr) rfl, q2, bin_shr32, Int.toNat_natCast, X_bin EE_sym (op := .and) rfl, ev_const, bin_and1, X_eql EE_sym, eq_int, e0, CDi_f, w47_4, Nat.one_ne_zero, yieldOf_y, Option.isSome_some, X_yield, Option.getD_some, List.toList_toArray, List.map_cons, List.map_nil, List.nil_append, true_and]
      refine CallI.round EE_ok (r := ⟨.ready, none, T 32 tl, [10], c32_4, c32_9⟩) (by simp only [Mem.get_bump, Ml]) rfl rfl (by simp) ?_
      have q3 := h.ck i (by omega)
      by_cases hneg : fewTo l a i < 0
      · have hcond : fewTo l a i < 0 ∨ (l i).length < (l (fewTo l a i).toNat).length := .inl hneg
        simp only [Mem.next_bump, setAll1, Nat.reduceLT, T_set, w32_4, w32_3, Nat.le_refl, bump_bump, Nat.reduceAdd, X_assign, ev_T, lk_cons, if_true, X_nil, putT, X_un EE_sym, Nat.reduceEqDiff, if_false, roundQ1_normal, Nat.add_le_add_iff_left, Nat.reduceLeDiff, Mem.get_bump, Ml, loopI_some, put_bump, w32_9, W_block, w32_8, W_seq, w32_5, Mem.next_put, X_load EE_sym, h5, load1 lay_3, Mem.get_put, hol, Mo, ld1_cells, k2, okI_some, X_bin EE_sym (op := .lss) rfl, ev_const, bin_lss, hneg, decide_true, X_move, X_guard EE_sym, T_get, GDi_tf, X_pick EE_sym, pickV_bool, thenQ_normal, W_cond, CDi_t, w32_7, w32_6, X_store, store1 sz_3, cells_int, st1_cells, List.length_cons, List.length_nil, Nat.zero_add, k1, List.all_cons, oneCell, List.all_nil, Bool.and_self, and_self, blockQ_normal, roundQ2_normal, hlo, un_not, Bool.not_true, CDi_f, W_skip, true_and]
        refine ⟨⟨by simp only [Mem.next_bump, Mem.next_put]; omega, fun x hx e => ?_⟩, ?_⟩
        · simp only [Mem.next_bump, Mem.get_bump] at hx e
          have x1 : ¬ x = lp := fun e2 => by rw [e2, Ml] at e; cases e
          have x2 : ¬ x = o := fun e2 => by rw [e2, Mo] at e; cases e
          simp only [Mem.get_bump, Mem.get_put, x1, x2, if_false, e]
        simp only [w47_6, Mem.next_bump, Mem.next_put, hnx, Nat.le_add_right_of_le, bump_bump, Nat.reduceAdd, X_bin EE_sym (op := .add) rfl, Nat.reduceLT, ev_T, lk_cons, Nat.reduceEqDiff, if_false, if_true, ev_const, bin_add, hw, okI_some, T_set, X_move, X_nil, roundQ_normal, true_and]
        refine ⟨c - (i + 1), _, _, by omega, View.temps (l' := [(7, In ((i + 1 : Nat) : Int)), (6, In c), (0, .func (.yield lp) #[] #[]), (1, PT x), (2, PT y)]) ⟨rfl, rfl, rfl, rfl, rfl, trivial⟩, i + 1, by omega, rfl, rfl, ?_⟩
        rw [fewTo_succ, fewStep, if_pos hb, if_pos hcond]
        refine ⟨by simp only [Mem.next_bump, Mem.next_put]; omega, ?_, fun z hz hzo hzl => ?_, ?_, co.write 0 [In i], ?_, by rw [write_n, k1], by rw [nth_write, if_pos ⟨by omega, by simp, by omega⟩]; rfl⟩
        · (repeat (first | exact Low.up hI.low (by (try simp only [Mem.next_bump, Mem.next_put]); omega) | refine Low.put ?_ (by (try simp only [Mem.next_bump, Mem.next_put]); omega) | refine Low.bump ?_))
        · simp only [Mem.get_bump, Mem.get_put, hzo, hzl, if_false]
          exact hI.old z hz hzo hzl
        · simp only [Mem.get_bump, Mem.get_put, hlo, if_false, if_true, Ml]
        · simp only [Mem.get_bump, Mem.get_put, hol, if_false, if_true, Mo]
      obtain ⟨j, hj⟩ : ∃ j : Nat, fewTo l a i = j := ⟨(fewTo l a i).toNat, by omega⟩
      have hj8 : j < 8 := by have := fewTo_lt (l := l) (a := a) (n := i); omega
      have q5 : (0 : Int) ≤ j := by omega
      have q6 : (j : Int) < ((8 : Nat) : Int) := by omega
      have q7 := h.ck j hj8
      have hl2 : ∀ M, lenA EE.P 30 (sl j) M = some (In (l j).length) := fun M => (h.sls j hj8).lenA und_30
      have hneg' : ¬ (j : Int) < 0 := by omega
      by_cases hless : (l i).length < (l j).length
      · have hcond : fewTo l a i < 0 ∨ (l i).length < (l (fewTo l a i).toNat).length := .inr (by rw [hj]; exact hless)
        have hless' : ((l i).length : Int) < ((l j).length : Int) := by omega
        rw [hj] at k2
        simp only [Mem.next_bump, setAll1, Nat.reduceLT, T_set, w32_4, w32_3, Nat.le_refl, bump_bump, Nat.reduceAdd, X_assign, ev_T, lk_cons, if_true, X_nil, putT, X_un EE_sym, Nat.reduceEqDiff, if_false, roundQ1_normal, Nat.add_le_add_iff_left, Nat.reduceLeDiff, Mem.get_bump, Ml, loopI_some, put_bump, w32_9, W_block, w32_8, W_seq, w32_5, Mem.next_put, X_load EE_sym, h5, load1 lay_3, Mem.get_put, hol, Mo, ld1_cells, k2, okI_some, X_bin EE_sym (op := .lss) rfl, ev_const, bin_lss, hneg', decide_false, X_move, X_guard EE_sym, T_get, GDi_ff, h2, load1 lay_23, bl, Mb, nth_ofList, List.getElem?_cons_zero, X_nilCheck EE_sym, nilV_ptr, X_fieldAddr EE_sym fo_57_1, offV_ptr, Nat.zero_add, X_indexAddr EE_sym, q2, q8, idxV_arr und_55 sz_30, Int.toNat_natCast, Nat.mul_one, load1 lay_30, bq, Mq.at_, q3, X_len EE_sym, hl1, q5, q6, q7, hl2, hless', decide_true, X_pick EE_sym, pickV_bool, Bool.false_eq_true, thenQ_normal, W_cond, CDi_t, w32_7, w32_6, X_store, store1 sz_3, cells_int, st1_cells, List.length_cons, List.length_nil, k1, List.all_cons, oneCell, List.all_nil, Bool.and_self, and_self, blockQ_normal, roundQ2_normal, hlo, un_not, Bool.not_true, CDi_f, W_skip, true_and]
        refine ⟨⟨by simp only [Mem.next_bump, Mem.next_put]; omega, fun x hx e => ?_⟩, ?_⟩
        · simp only [Mem.next_bump, Mem.get_bump] at hx e
          have x1 : ¬ x = lp := fun e2 => by rw [e2, Ml] at e; cases e
          have x2 : ¬ x = o := fun e2 => by rw [e2, Mo] at e; cases e
          simp only [Mem.get_bump, Mem.get_put, x1, x2, if_false, e]
        simp only [w47_6, Mem.next_bump, Mem.next_put, hnx, Nat.le_add_right_of_le, bump_bump, Nat.reduceAdd, X_bin EE_sym (op := .add) rfl, Nat.reduceLT, ev_T, lk_cons, Nat.reduceEqDiff, if_false, if_true, ev_const, bin_add, hw, okI_some, T_set, X_move, X_nil, roundQ_normal, true_and]
        refine ⟨c - (i + 1), _, _, by omega, View.temps (l' := [(7, In ((i + 1 : Nat) : Int)), (6, In c), (0, .func (.yield lp) #[] #[]), (1, PT x), (2, PT y)]) ⟨rfl, rfl, rfl, rfl, rfl, trivial⟩, i + 1, by omega, rfl, rfl, ?_⟩
        rw [fewTo_succ, fewStep, if_pos hb, if_pos hcond]
        refine ⟨by simp only [Mem.next_bump, Mem.next_put]; omega, ?_, fun z hz hzo hzl => ?_, ?_, co.write 0 [In i], ?_, by rw [write_n, k1], by rw [nth_write, if_pos ⟨by omega, by simp, by omega⟩]; rfl⟩
        · (repeat (first | exact Low.up hI.low (by (try simp only [Mem.next_bump, Mem.next_put]); omega) | refine Low.put ?_ (by (try simp only [Mem.next_bump, Mem.next_put]); omega) | refine Low.bump ?_))
        · simp only [Mem.get_bump, Mem.get_put, hzo, hzl, if_false]
          exact hI.old z hz hzo hzl
        · simp only [Mem.get_bump, Mem.get_put, hlo, if_false, if_true, Ml]
        · simp only [Mem.get_bump, Mem.get_put, hol, if_false, if_true, Mo]
      · have hcond : ¬ (fewTo l a i < 0 ∨ (l i).length < (l (fewTo l a i).toNat).length) := by rw [hj]; exact fun e => e.elim hneg' hless
        have hless' : ¬ ((l i).length : Int) < ((l j).length : Int) := by omega
        rw [hj] at k2
        simp only [Mem.next_bump, setAll1, Nat.reduceLT, T_set, w32_4, w32_3, Nat.le_refl, bump_bump, Nat.reduceAdd, X_assign, ev_T, lk_cons, if_true, X_nil, putT, X_un EE_sym, Nat.reduceEqDiff, if_false, roundQ1_normal, Nat.add_le_add_iff_left, Nat.reduceLeDiff, Mem.get_bump, Ml, loopI_some, put_bump, w32_9, W_block, w32_8, W_seq, w32_5, Mem.next_put, X_load EE_sym, h5, load1 lay_3, Mem.get_put, hol, Mo, ld1_cells, k2, okI_some, X_bin EE_sym (op := .lss) rfl, ev_const, bin_lss, hneg', decide_false, X_move, X_guard EE_sym, T_get, GDi_ff, h2, load1 lay_23, bl, Mb, nth_ofList, List.getElem?_cons_zero, X_nilCheck EE_sym, nilV_ptr, X_fieldAddr EE_sym fo_57_1, offV_ptr, Nat.zero_add, X_indexAddr EE_sym, q2, q8, idxV_arr und_55 sz_30, Int.toNat_natCast, Nat.mul_one, load1 lay_30, bq, Mq.at_, q3, X_len EE_sym, hl1, q5, q6, q7, hl2, hless', X_pick EE_sym, pickV_bool, Bool.false_eq_true, thenQ_normal, W_cond, CDi_f, W_skip, blockQ_normal, roundQ2_normal, un_not, Bool.not_true, true_and]
        refine ⟨⟨by simp only [Mem.next_bump, Mem.next_put]; omega, fun x hx e => ?_⟩, ?_⟩
        · simp only [Mem.next_bump, Mem.get_bump] at hx e
          have x1 : ¬ x = lp := fun e2 => by rw [e2, Ml] at e; cases e
          have x2 : ¬ x = o := fun e2 => by rw [e2, Mo] at e; cases e
          simp only [Mem.get_bump, Mem.get_put, x1, if_false, e]
        simp only [w47_6, Mem.next_bump, Mem.next_put, hnx, Nat.le_add_right_of_le, bump_bump, Nat.reduceAdd, X_bin EE_sym (op := .add) rfl, Nat.reduceLT, ev_T, lk_cons, Nat.reduceEqDiff, if_false, if_true, ev_const, bin_add, hw, okI_some, T_set, X_move, X_nil, roundQ_normal, true_and]
        refine ⟨c - (i + 1), _, _, by omega, View.temps (l' := [(7, In ((i + 1 : Nat) : Int)), (6, In c), (0, .func (.yield lp) #[] #[]), (1, PT x), (2, PT y)]) ⟨rfl, rfl, rfl, rfl, rfl, trivial⟩, i + 1, by omega, rfl, rfl, ?_⟩
        rw [fewTo_succ, fewStep, if_pos hb, if_neg hcond]
        refine ⟨by simp only [Mem.next_bump, Mem.next_put]; omega, ?_, fun z hz hzo hzl => ?_, ?_, co, ?_, k1, by rw [hj]; exact k2⟩
        · (repeat (first | exact Low.up hI.low (by (try simp only [Mem.next_bump, Mem.next_put]); omega) | refine Low.put ?_ (by (try simp only [Mem.next_bump, Mem.next_put]); omega) | refine Low.bump ?_))
        · simp only [Mem.get_bump, Mem.get_put, hzl, if_false]
          exact hI.old z hz hzo hzl
        · simp only [Mem.get_bump, Mem.get_put, if_true, Ml]
        · simp only [Mem.get_bump, Mem.get_put, hol, if_false, Mo]
  · have hi3 : i = c := by omega
    subst hi3
    have q1 : ¬ (i : Int) < (i : Int) := by omega
    simp only [w47_7, W_seq, w47_1, hnx, X_bin EE_sym (op := .lss) rfl, Nat.reduceLT, ev_T, lk_cons, Nat.reduceEqDiff, if_false, if_true, bin_lss, q1, decide_false, okI_some, T_set, X_nil, thenQ_normal, W_cond, CDi_f, W_exit, thenQ_exit, roundQ_exit, blockQ_exit, scopeQ_normal, FinX_normal, resA_nil, oneOr0, true_and]
    exact ⟨(hI.bump _).grow (by rw [hl]; simp) (by rw [ho]; simp), hI.bump _⟩
theorem ca_47 : callable EE.P 47 = true := by kernel_rfl
theorem of_ok (hm : Fresh m) : ∃ v m', Con EE.P 42 [PT b, Um a] m v m' ∧ ∃ x y, v = .func (.func 47) #[] [PT x, PT y].toArray ∧ m.next ≤ x ∧ m.next ≤ y ∧ (∃ zx, m'.get x = some (.cells (Cells.ofList [PT b]) true zx)) ∧ (∃ zy, m'.get y = some (.cells (Cells.ofList [Um a]) true zy)) ∧ Nx m m' := by
  refine Con.raw EE_ok fn42 (Nat.le_of_ble_eq_true rfl) _ ?_
  simp only [f42, enumV, Nat.zero_add, w42, W_seq, w42_0, Nat.le_refl, X_box, Nat.reduceLT, ev_T, lk_cons, Nat.one_ne_zero, if_false, if_true, box_ptr, okI_some, Nat.add_zero, T_set, put_bump, Nat.reduceEqDiff, box_int, X_assign, ev_const, X_nil, thenQ_normal, w42_1, Mem.next_bump, Mem.next_put, Nat.le_add_right, bump_bump, Nat.reduceAdd, X_makeFunc EE_sym, List.map_toArray, List.map_nil, List.map_cons, W_ret, FinX_ret, resA_tmp, T_get, resA_nil, Option.map_some, oneOr1, true_and]
  have hn : Nx m (((m.put m.next (AObj.cells (Cells.ofList [PT b]) true 0)).put (m.next + 1) (AObj.cells (Cells.ofList [Um a]) true 0)).bump 5) := ⟨by (try simp only [Mem.next_bump, Mem.next_put]); omega, Fresh.of_low (by have := hm.n64; (try simp only [Mem.next_bump, Mem.next_put]); omega) (by repeat (first | exact Low.of hm (by (try simp only [Mem.next_bump, Mem.next_put]); omega) | refine Low.put ?_ (by (try simp only [Mem.next_bump, Mem.next_put]); omega) | refine Low.bump ?_)), fun y hy => by simp only [Mem.get_bump, Mem.get_put, ne_new hy, ne_new0 hy, if_false]⟩
  exact hn.raw ⟨m.next, m.next + 1, rfl, Nat.le_refl _, by omega, ⟨0, by simp only [Mem.get_bump, Mem.get_put, Nat.left_eq_add, Nat.one_ne_zero, if_false, if_true]⟩, ⟨0, by simp only [Mem.get_bump, Mem.get_put, if_true]⟩, hn⟩
theorem few_ok (h : QAt m b O sl cs c l) (hs : Short l) (hO : ∀ y, O y → y < m.next) : Con EE.P 32 [PT b, Um a] m (In (fewTo l a c)) m := by
  refine Con.of EE_ok fn32 (Nat.le_of_ble_eq_true rfl) Grow.rfl fun hm => ?_
  have hbn := hm.ne h.at_
  simp only [f32, enumV, Nat.zero_add, w32, W_seq, w32_0, Nat.le_refl, X_box, Nat.reduceLT, ev_T, lk_cons, Nat.one_ne_zero, if_false, if_true, box_ptr, okI_some, Nat.add_zero, T_set, put_bump, X_assign, ev_const, X_nil, thenQ_normal, w32_1, Mem.next_bump, Mem.next_put, Nat.le_add_right, bump_bump, Nat.reduceAdd, X_alloc, zero_3, X_store, Nat.reduceEqDiff, store1 sz_3, Mem.get_bump, Mem.get_put, Nat.add_eq_left, cells_int, st1_cells, List.length_cons, List.length_nil, ofList_n, List.all_cons, oneCell, List.all_nil, Bool.and_self, and_self, w32_2, X_load EE_sym, load1 lay_23, Nat.left_eq_add, ld1_cells, nth_ofList, List.getElem?_cons_zero, X_move, X_call ca_42, List.map_cons, List.map_nil, true_and]
  refine CallI.ex2 (of_ok ?_) fun v m1 hv => ?_
  · exact Fresh.of_low (by have := hm.n64; (try simp only [Mem.next_bump, Mem.next_put]); omega) (by repeat (first | exact Low.of hm (by (try simp only [Mem.next_bump, Mem.next_put]); omega) | refine Low.put ?_ (by (try simp only [Mem.next_bump, Mem.next_put]); omega) | refine Low.bump ?_))
  obtain ⟨x, y, rfl, x1, y1, ⟨zx, hx⟩, ⟨zy, hy⟩, hn⟩ := hv
  simp only [Mem.next_bump, Mem.next_put] at x1 y1
  have n1 := hn.next
  simp only [Mem.next_bump, Mem.next_put] at n1
  have o1 : ∀ z, z < m.next → m1.get z = m.get z := fun z hz => by
    rw [hn.old z (by simp only [Mem.next_bump, Mem.next_put]; omega)]
    simp only [Mem.get_bump, Mem.get_put, ne_new hz, ne_new0 hz, if_false]
  have hbx : m1.get m.next = some (.cells (Cells.ofList [PT b]) true 0) := by
    rw [hn.old _ (by simp only [Mem.next_bump, Mem.next_put]; omega)]
    simp only [Mem.get_bump, Mem.get_put, Nat.left_eq_add, Nat.reduceEqDiff, if_false, if_true]
  have ho : m1.get (m.next + 2) = some (.cells ((Cells.ofList [In 0]).write 0 [In (-1)]) true 0) := by
    rw [hn.old _ (by simp only [Mem.next_bump, Mem.next_put]; omega)]
    simp only [Mem.get_bump, Mem.get_put, if_true]
  have hq : QAt m1 b O sl cs c l := h.keep fun z w hz hw => by rw [o1 z (hO z hz), hw]
  have n1' : m.next ≤ m1.next := by omega
  simp only [putT, Nat.reduceLT, T_set, X_nil, thenQ_normal, W_block, w32_10]
  have lx := hn.fresh.lt hx
  have ly := hn.fresh.lt hy
  refine W_rfnx (l' := [(5, PT (m.next + 2))]) (R := fun _ m2 => FewI ((m1.put m1.next (.loop _)).bump 1) m1.next (m.next + 2) 0 _ (fewTo l a c) m2) [] [PT x, PT y] (by omega) (by simp only [ev_T, lk_cons, Nat.reduceLT, Nat.reduceEqDiff, reduceIte]) ca_47 (few_it (bx := m.next) (O := O) (co0 := (Cells.ofList [In 0]).write 0 [In (-1)]) ?_ get_eq_b rfl rfl (by simp only [Mem.get_bump, Mem.get_put, Nat.ne_of_lt lx, if_false]; exact hx) (by simp only [Mem.get_bump, Mem.get_put, show ¬ m.next = m1.next by omega, if_false]; exact hbx) (by simp only [Mem.get_bump, Mem.get_put, Nat.ne_of_lt ly, if_false]; exact hy) (by simp only [Mem.get_bump, Mem.get_put, show ¬ m.next + 2 = m1.next by omega, if_false]; exact ho) rfl (by rw [nth_write, if_pos ⟨by omega, by simp, by decide⟩]; rfl) (by omega) (by omega) (by omega) (fun e => by have := hO _ e; omega) (fun e => by have := hO _ e; omega) (hq.keep fun z w hz hw => ?_) hs) (fun p hp => ?_) (fun v m2 hI => ?_)
  · exact Fresh.of_low (by have := hn.fresh.n64; (try simp only [Mem.next_bump, Mem.next_put]); omega) (by repeat (first | exact Low.of hn.fresh (by (try simp only [Mem.next_bump, Mem.next_put]); omega) | refine Low.put ?_ (by (try simp only [Mem.next_bump, Mem.next_put]); omega) | refine Low.bump ?_))
  · have := hO _ hz
    simp only [Mem.get_bump, Mem.get_put, show ¬ z = m1.next by omega, if_false]
    exact hw
  · simp only [List.mem_singleton] at hp
    subst hp
    exact rv_ptr (.inl ⟨rfl, by omega⟩)
  · have n2 := hI.next
    simp only [Mem.next_bump, Mem.next_put] at n2
    obtain ⟨co, k1, k2, k3⟩ := hI.out
    have k4 : ¬ m.next + 2 = m1.next := by omega
    refine rfnQ_normal hI.loop ?_
    have n2' : m.next ≤ m2.next := by omega
    simp only [blockQ_normal, thenQ_normal, W_seq, w32_11, Mem.next_put, n2', X_load EE_sym, Nat.reduceLT, ev_T, lk_cons, if_true, load1 lay_3, Mem.get_bump, Mem.get_put, k4, k1, if_false, ld1_cells, k3, okI_some, T_set, X_assign, Nat.reduceEqDiff, X_nil, W_ret, FinC_ret, resA_tmp, T_get, resA_nil, Option.map_some, oneOr1, true_and]
    refine TidyE.pure rfl fun z hz => ?_
    have z1 : ¬ z = m1.next := by omega
    simp only [Mem.get_bump, Mem.get_put, z1, if_false]
    rw [hI.old z (by simp only [Mem.next_bump, Mem.next_put]; omega) (by omega) z1]
    simp only [Mem.get_bump, Mem.get_put, z1, if_false]
    exact o1 z hz
theorem may_ok (h : QAt m b O sl cs c l) (hs : Short l) (hO : ∀ y, O y → y < m.next) : Con EE.P 24 [PT b, Um a] m (.bool (decide (0 ≤ fewTo l a c))) m := by
  refine Con.of EE_ok fn24 (Nat.le_of_ble_eq_true rfl) Grow.rfl fun hm => ?_
  simp only [f24, enumV, Nat.zero_add, w24, W_seq, w24_0, Nat.le_refl, X_assign, ev_const, Nat.reduceLT, T_set, X_nil, thenQ_normal, w24_1, Mem.next_bump, Nat.le_add_right, bump_bump, Nat.reduceAdd, X_move, ev_T, lk_cons, Nat.reduceEqDiff, Nat.one_ne_zero, if_false, if_true, X_call ca_32, List.map_cons, List.map_nil, true_and]
  refine CallI.con0 (few_ok (h.bump _) hs fun y hy => by rw [Mem.next_bump]; have := hO y hy; omega) ?_
  simp only [putT, Nat.reduceLT, T_set, X_bin EE_sym (op := .geq) rfl, ev_T, lk_cons, Nat.reduceEqDiff, if_false, if_true, ev_const, bin_geq, okI_some, X_assign, X_nil, thenQ_normal, W_ret, FinC_ret, resA_tmp, T_get, resA_nil, Option.map_some, oneOr1]
  exact TidyE.pure rfl fun _ _ => rfl
end
end
end Go.Ab
