/- Files: which numbers are open. -/
import Derived.Test.YthidhnbniklhmaaFiB
import Derived.Test.YthidhnbniklhmaaTG
namespace Go.Ab
open Go.Proofs
noncomputable section
set_option maxHeartbeats 1000000
section
variable {m : Mem} {b sz : Nat} {s : FS} {n : Int}
theorem used_fn (hb : FAt m b sz s) : Con EE.P 43 [PT b] m (.func (.func 49) [].toArray [PT m.next].toArray) ((m.put m.next (.cells (Cells.ofList [PT b]) true 0)).bump 1) := by
  refine Con.of EE_ok fn43 (Nat.le_of_ble_eq_true rfl) Grow.new fun hm => ?_
  simp only [f43, enumV, w43, W_seq, w43_0, Nat.le_refl, X_box, Nat.reduceLT, ev_T, lk_cons, if_true, box_ptr, okI_some, Nat.add_zero, T_set, put_bump, X_assign, ev_const, X_nil, thenQ_normal, w43_1, Mem.next_bump, Mem.next_put, Nat.le_add_right, bump_bump, Nat.reduceAdd, X_makeFunc EE_sym, List.map_toArray, List.map_nil, List.map_cons, Nat.reduceEqDiff, if_false, W_ret, FinC_ret, resA_tmp, T_get, resA_nil, Option.map_some, oneOr1, true_and]
  exact tidy_new (o1 := .cells (Cells.ofList [PT b]) true 0) (by omega) (rv_func (l := []) (k := []) trivial ⟨rv_new, trivial⟩) (by simp only [Mem.get_bump, Mem.get_put, if_true]) ⟨rfl, rfl, rfl, fun i hi => by
    rw [ofList_n] at hi
    rw [get_ofList hi]
    rcases i with _ | i
    · exact rv_ptr (.inl ⟨rfl, hm.lt hb⟩)
    · simp at hi⟩ fun k hk => by simp only [Mem.get_bump, Mem.get_put, ne_new0 hk, if_false]
def usedL (s : FS) (i : Nat) : List Nat := (List.range i).filter fun k => decide (s.r k ≠ 0)
theorem usedL_succ (s : FS) (i : Nat) : usedL s (i + 1) = usedL s i ++ (if s.r i ≠ 0 then [i] else []) := by
  unfold usedL
  rw [List.range_succ, List.filter_append]
  congr 1
  by_cases h : s.r i = 0 <;> simp [h]
theorem usedL_len (s : FS) (i : Nat) : (usedL s i).length ≤ i := by
  unfold usedL
  exact Nat.le_trans (List.length_filter_le _ _) (by simp)
/-- A memory in which a cell holds a slice of these numbers. -/
def SlAt (M : Mem) (n0 o zo : Nat) (l : List Nat) : Prop := ∃ co, M.get o = some (.cells co true zo) ∧ co.n = 1 ∧
  ((l = [] ∧ co.get 0 = .slice none 0 0) ∨ (l ≠ [] ∧ ∃ N cN, n0 ≤ N ∧ N < M.next ∧ M.get N = some (.cells cN true 1) ∧ cN.n = l.length ∧ (∀ x, x < l.length → cN.get x = In (l.getD x 0)) ∧ co.get 0 = .slice (some ⟨N, 0, none⟩) l.length l.length))
structure UsedI (mr : Mem) (o zo : Nat) (l : List Nat) (M : Mem) : Prop where
  next : mr.next ≤ M.next
  old : ∀ x, x < mr.next → x ≠ o → M.get x = mr.get x
  at_ : SlAt M mr.next o zo l
theorem UsedI.bump {mr M : Mem} {o zo : Nat} {l : List Nat} (h : UsedI mr o zo l M) (j : Nat) : UsedI mr o zo l (M.bump j) := by
  obtain ⟨h1, h2, co, k1, k2, k3⟩ := h
  refine ⟨by simp; omega, h2, co, k1, k2, ?_⟩
  rcases k3 with k3 | ⟨k3, N, cN, k5, k6, k7⟩
  · exact .inl k3
  · exact .inr ⟨k3, N, cN, k5, by simp; omega, k7⟩
theorem used_it {mr : Mem} {l c o zo zc : Nat} {tl : List (Nat × Value)} (hl : mr.get l = some (.loop ⟨.ready, none, T 13 tl, [7], c19_4, c19_7⟩)) (htl : lk tl 3 = PT o)
    (hc : mr.get c = some (.cells (Cells.ofList [PT b]) true zc)) (hb : FAt mr b sz s) (ho : SlAt mr mr.next o zo []) (hco : c ≠ o) (M2 : Mem) (hg : Grow mr M2) (hM2 : ∀ M, Fresh mr → UsedI mr o zo (usedL s 64) M → TidyE mr M (.tuple #[]) (.tuple #[]) M2) :
    Con EE.P 49 [.func (.yield l) #[] #[], PT c] mr (.tuple #[]) M2 := by
  refine Con.of EE_ok fn49 (Nat.le_of_ble_eq_true rfl) hg fun hm => ?_
  simp only [f49, enumV, Nat.zero_add, w49, W_scope, w49_9, W_seq, W_label, thenQ_normal, w49_0, Nat.le_refl, X_move, ev_const, Nat.reduceLT, T_set, X_nil, W_block, w49_8, true_and]
  refine WX.loop_of (fun x t M => ∃ i : Nat, i ≤ 64 ∧ x = 64 - i ∧ t = T 16 [(4, In i), (0, .func (.yield l) #[] #[]), (1, PT c)] ∧ UsedI mr o zo (usedL s i) M) ?_ (k := 64) (t1 := T 16 [(4, In (0 : Nat)), (0, .func (.yield l) #[] #[]), (1, PT c)]) (View.temps ⟨rfl, rfl, rfl, trivial⟩) ⟨0, by omega, rfl, rfl, ?_⟩
  · rintro x t M ⟨i, hi, rfl, rfl, hI⟩
    by_cases hi2 : i < 64
    · have g1 : (i : Int) < 64 := by omega
      have hbo : b ≠ o := by
        rintro rfl
        obtain ⟨co, e1, e2, _⟩ := ho
        rw [hb] at e1
        simp only [Option.some.injEq, AObj.cells.injEq] at e1
        rw [← e1.1, fC_n] at e2
        omega
      have hbM : FAt M b sz s := by
        rw [FAt, hI.old b (hm.lt hb) hbo]; exact hb
      have hcM : M.get c = some (.cells (Cells.ofList [PT b]) true zc) := by
        rw [hI.old c (hm.lt hc) hco]; exact hc
      have hw : IntKind.i64.wrap ((i : Int) + 1) = ((i + 1 : Nat) : Int) := by rw [wrap_i64 (by omega) (by omega)]; omega
      have hnx := hI.next
      by_cases h4 : s.r i = 0
      · have hno : ¬ isO s i := fun h => h.2.2 (by simpa using h4)
        simp only [w49_7, W_seq, w49_1, hnx, X_bin EE_sym (op := .lss) rfl, Nat.reduceLT, ev_T, lk_cons, Nat.reduceEqDiff, if_false, if_true, ev_const, bin_lss, g1, decide_true, okI_some, T_set, X_nil, thenQ_normal, W_cond, CDi_t, W_skip, W_block, w49_5, w49_2, Mem.next_bump, Nat.le_add_right_of_le, bump_bump, Nat.reduceAdd, X_move, X_assign, w49_3, X_load EE_sym, load1 lay_26, Mem.get_bump, hcM, ld1_cells, nth_ofList, List.getElem?_cons_zero, X_call ca_34, List.map_cons, List.map_nil, true_and]
        refine CallI.con0 (may_not (s := s) (sz := sz) (by simp only [FAt, Mem.get_bump, hbM]) hno) ?_
        simp only [putT, Nat.reduceLT, T_set, X_neq EE_sym, ev_T, lk_cons, Nat.reduceEqDiff, if_false, if_true, ev_const, neq_int, Int.reduceEq, decide_false, Bool.not_false, okI_some, X_nil, thenQ_normal, W_cond, CDi_t, W_exit, thenQ_exit, blockQ_exit, w49_6, Mem.next_bump, hnx, Nat.le_add_right_of_le, bump_bump, Nat.reduceAdd, X_bin EE_sym (op := .add) rfl, bin_add, hw, X_move, roundQ_normal, true_and]
        refine ⟨64 - (i + 1), _, _, by omega, View.temps (l' := [(4, In ((i + 1 : Nat) : Int)), (0, .func (.yield l) #[] #[]), (1, PT c)]) ⟨rfl, rfl, rfl, trivial⟩, i + 1, by omega, rfl, rfl, ?_⟩
        rw [usedL_succ, if_neg (by simpa using h4), List.append_nil]
        exact hI.bump 9
      · have hyes : isO s i := ⟨by omega, g1, by simpa using h4⟩
        have hlo : ¬ l = o := fun e => by
          rw [e, ho.choose_spec.1] at hl; cases hl
        have hlM : M.get l = some (.loop ⟨.ready, none, T 13 tl, [7], c19_4, c19_7⟩) := by
          rw [hI.old l (hm.lt hl) hlo]; exact hl
        have hol : ¬ o = l := fun e => hlo e.symm
        have hlt : l < M.next := Nat.lt_of_lt_of_le (hm.lt hl) hnx
        have hot : o < M.next := Nat.lt_of_lt_of_le (hm.lt ho.choose_spec.1) hnx
        have n1 := lt_ne hlt
        have n2 := lt_ne' hlt
        have n3 := lt_ne hot
        have n4 := lt_ne' hot
        simp only [w49_7, W_seq, w49_1, hnx, X_bin EE_sym (op := .lss) rfl, Nat.reduceLT, ev_T, lk_cons, Nat.reduceEqDiff, if_false, if_true, ev_const, bin_lss, g1, decide_true, okI_some, T_set, X_nil, thenQ_normal, W_cond, CDi_t, W_skip, W_block, w49_5, w49_2, Mem.next_bump, Nat.le_add_right_of_le, bump_bump, Nat.reduceAdd, X_move, X_assign, w49_3, X_load EE_sym, load1 lay_26, Mem.get_bump, hcM, ld1_cells, nth_ofList, List.getElem?_cons_zero, X_call ca_34, List.map_cons, List.map_nil, true_and]
        refine CallI.con0 (may_open (s := s) (sz := sz) (by simp only [FAt, Mem.get_bump, hbM]) hyes) ?_
        simp only [putT, Nat.reduceLT, T_set, X_neq EE_sym, ev_T, lk_cons, Nat.reduceEqDiff, if_false, if_true, ev_const, neq_int, decide_true, Bool.not_true, okI_some, X_nil, thenQ_normal, W_cond, CDi_f, W_skip, W_seq, w49_4, Mem.next_bump, hnx, Nat.le_add_right_of_le, bump_bump, Nat.reduceAdd, X_move, Nat.one_ne_zero, yieldOf_y, Option.isSome_some, X_yield, Option.getD_some, List.toList_toArray, List.map_cons, List.map_nil, List.nil_append, true_and]
        refine CallI.round EE_ok (r := ⟨.ready, none, T 13 tl, [7], c19_4, c19_7⟩) (by simp only [Mem.get_bump, hlM]) rfl rfl (by simp) ?_
        obtain ⟨co, k1, k2, ⟨k3, k4⟩ | ⟨k3, N, cN, k5, k6, k7, k8, k9, k10⟩⟩ := hI.at_
        · have k11 : co.nth 0 = some (.slice none 0 0) := by rw [nth_lt (by omega), k4]
          simp only [Mem.next_bump, setAll1, Nat.reduceLT, T_set, w19_4, w19_3, Nat.le_refl, bump_bump, Nat.reduceAdd, X_assign, ev_T, lk_cons, if_true, X_nil, putT, X_un EE_sym, Nat.reduceEqDiff, if_false, roundQ1_normal, Nat.add_le_add_iff_left, Nat.reduceLeDiff, Mem.get_bump, hlM, loopI_some, put_bump, w19_7, W_block, w19_6, w19_5, Mem.next_put, X_load EE_sym, htl, load1 lay_47, Mem.get_put, hol, k1, ld1_cells, k11, okI_some, X_move, X_bs, List.map_cons, List.map_nil, bs47, Nat.add_assoc, X_append, apF, src_at, n2, Nat.mul_one, srcC_cells, Nat.zero_add, List.length_cons, List.length_nil, sub_ofList, List.drop_zero, List.take_succ_cons, List.take_nil, Option.map_some, Nat.one_ne_zero, List.all_cons, oneCell, List.all_nil, Bool.and_self, Bool.true_eq_false, ne_eq, not_true_eq_false, or_self, Nat.one_mul, Nat.reducePow, and_self, Option.isSome_some, app_eq eo47, X_store, store1 sz_47, n3, cells_slice, st1_cells, k2, blockQ_normal, roundQ2_normal, hlo, n1, un_not, Bool.not_true, thenQ_normal, W_cond, CDi_f, W_skip, true_and]
          refine ⟨⟨by simp only [Mem.next_bump, Mem.next_put]; omega, fun x hx e => ?_⟩, ?_⟩
          · simp only [Mem.next_bump, Mem.get_bump] at hx e
            have x1 : ¬ x = l := fun e2 => by rw [e2, hlM] at e; cases e
            have x2 : ¬ x = o := fun e2 => by rw [e2, k1] at e; cases e
            have x3 : ¬ x = M.next + 14 := by omega
            have x4 : ¬ x = M.next + 15 := by omega
            simp only [Mem.get_bump, Mem.get_put, x1, x2, x3, x4, if_false, e]
          simp only [w49_6, Mem.next_bump, Mem.next_put, hnx, Nat.le_add_right_of_le, bump_bump, Nat.reduceAdd, X_bin EE_sym (op := .add) rfl, Nat.reduceLT, ev_T, lk_cons, Nat.reduceEqDiff, if_false, if_true, ev_const, bin_add, hw, okI_some, T_set, X_move, X_nil, roundQ_normal, true_and]
          refine ⟨64 - (i + 1), _, _, by omega, View.temps (l' := [(4, In ((i + 1 : Nat) : Int)), (0, .func (.yield l) #[] #[]), (1, PT c)]) ⟨rfl, rfl, rfl, trivial⟩, i + 1, by omega, rfl, rfl, ?_⟩
          rw [usedL_succ, if_pos (by simpa using h4)]
          refine ⟨by simp only [Mem.next_bump, Mem.next_put]; omega, fun x hx hxo => ?_, co.write 0 [.slice (some ⟨M.next + 15, 0, none⟩) 1 1], by simp only [Mem.get_bump, Mem.get_put, hol, n3, if_false, if_true], k2, .inr ⟨by simp, M.next + 15, Cells.ofList [In i], by omega, by simp only [Mem.next_bump, Mem.next_put]; omega, by simp only [Mem.get_bump, Mem.get_put, n2, n4, if_false, if_true], ?_, ?_, ?_⟩⟩
          · by_cases hxl : x = l
            · subst hxl
              simp only [Mem.get_bump, Mem.get_put, if_true, hl]
            · have x3 := lt_ne (Nat.lt_of_lt_of_le hx hnx)
              simp only [Mem.get_bump, Mem.get_put, hxl, hxo, x3, if_false]
              exact hI.old x hx hxo
          · rw [k3]; rfl
          · intro x hx
            rw [k3] at hx ⊢
            simp only [List.nil_append, List.length_cons, List.length_nil] at hx
            rw [get_ofList (by simpa using hx)]
            rcases x with _ | x
            · rfl
            · omega
          · rw [get_write, if_pos (by simp), k3]; rfl
        · have hN : N < M.next := k6
          have n5 := lt_ne hN
          have n6 := lt_ne' hN
          have k11 : co.nth 0 = some (.slice (some ⟨N, 0, none⟩) (usedL s i).length (usedL s i).length) := by rw [nth_lt (by omega), k10]
          have k12 : ((usedL s i).length + 1) * 8 ≤ 1099511627776 := by have := usedL_len s i; omega
          have k13 : (usedL s i).length + 1 ≤ 1099511627776 := by omega
          have hNo : ¬ N = o := fun e => by
            have := hm.lt ho.choose_spec.1
            omega
          have hoN : ¬ o = N := fun e => hNo e.symm
          have hNl : ¬ N = l := fun e => by rw [e, hlM] at k7; cases k7
          have hlN : ¬ l = N := fun e => hNl e.symm
          simp only [Mem.next_bump, setAll1, Nat.reduceLT, T_set, w19_4, w19_3, Nat.le_refl, bump_bump, Nat.reduceAdd, X_assign, ev_T, lk_cons, if_true, X_nil, putT, X_un EE_sym, Nat.reduceEqDiff, if_false, roundQ1_normal, Nat.add_le_add_iff_left, Nat.reduceLeDiff, Mem.get_bump, hlM, loopI_some, put_bump, w19_7, W_block, w19_6, w19_5, Mem.next_put, X_load EE_sym, htl, load1 lay_47, Mem.get_put, hol, k1, ld1_cells, k11, okI_some, X_move, X_bs, List.map_cons, List.map_nil, bs47, Nat.add_assoc, X_append, apF, src_at, n2, Nat.mul_one, srcC_cells, Nat.zero_add, List.length_cons, List.length_nil, sub_ofList, List.drop_zero, List.take_succ_cons, List.take_nil, Option.map_some, Nat.one_ne_zero, List.all_cons, oneCell, List.all_nil, Bool.and_self, Bool.true_eq_false, ne_eq, not_true_eq_false, or_self, apG, n5, hNl, k7, k8, Nat.reducePow, k12, k13, and_self, kill_bump, Option.isSome_some, app_eq eo47, X_store, store1 sz_47, n3, Mem.get_kill, hoN, cells_slice, st1_cells, k2, blockQ_normal, roundQ2_normal, Mem.next_kill, hlo, n1, hlN, un_not, Bool.not_true, thenQ_normal, W_cond, CDi_f, W_skip, true_and]
          refine ⟨⟨by simp only [Mem.next_bump, Mem.next_put, Mem.next_kill]; omega, fun x hx e => ?_⟩, ?_⟩
          · simp only [Mem.next_bump, Mem.get_bump] at hx e
            have x1 : ¬ x = l := fun e2 => by rw [e2, hlM] at e; cases e
            have x2 : ¬ x = o := fun e2 => by rw [e2, k1] at e; cases e
            have x3 : ¬ x = M.next + 14 := by omega
            have x4 : ¬ x = M.next + 15 := by omega
            simp only [Mem.get_bump, Mem.get_put, Mem.get_kill, x1, x2, x3, x4, if_false, e, ite_self]
          simp only [w49_6, Mem.next_bump, Mem.next_put, Mem.next_kill, hnx, Nat.le_add_right_of_le, bump_bump, Nat.reduceAdd, X_bin EE_sym (op := .add) rfl, Nat.reduceLT, ev_T, lk_cons, Nat.reduceEqDiff, if_false, if_true, ev_const, bin_add, hw, okI_some, T_set, X_move, X_nil, roundQ_normal, true_and]
          refine ⟨64 - (i + 1), _, _, by omega, View.temps (l' := [(4, In ((i + 1 : Nat) : Int)), (0, .func (.yield l) #[] #[]), (1, PT c)]) ⟨rfl, rfl, rfl, trivial⟩, i + 1, by omega, rfl, rfl, ?_⟩
          rw [usedL_succ, if_pos (by simpa using h4)]
          refine ⟨by simp only [Mem.next_bump, Mem.next_put, Mem.next_kill]; omega, fun x hx hxo => ?_, co.write 0 [.slice (some ⟨M.next + 15, 0, none⟩) ((usedL s i).length + 1) ((usedL s i).length + 1)], by simp only [Mem.get_bump, Mem.get_put, Mem.get_kill, hol, n3, if_false, if_true], k2, .inr ⟨by simp, M.next + 15, cN.more 0 [In i], by omega, by simp only [Mem.next_bump, Mem.next_put, Mem.next_kill]; omega, by simp only [Mem.get_bump, Mem.get_put, Mem.get_kill, n2, n4, if_false, if_true], ?_, ?_, ?_⟩⟩
          · by_cases hxl : x = l
            · subst hxl
              simp only [Mem.get_bump, Mem.get_put, Mem.get_kill, if_true, hl]
            · have x3 := lt_ne (Nat.lt_of_lt_of_le hx hnx)
              have hxN : ¬ x = N := by omega
              simp only [Mem.get_bump, Mem.get_put, Mem.get_kill, hxl, hxo, x3, hxN, if_false]
              exact hI.old x hx hxo
          · rw [more_n, k8, List.length_append]; rfl
          · intro x hx
            rw [List.length_append] at hx
            rw [more_get, k8]
            by_cases hxx : x < (usedL s i).length
            · rw [if_neg (by omega), k9 x hxx]
              simp only [List.getD_eq_getElem?_getD, List.getElem?_append_left hxx]
            · simp only [List.length_cons, List.length_nil] at hx
              have : x = (usedL s i).length := by omega
              subst this
              rw [if_pos (by simp)]
              simp [List.getD_eq_getElem?_getD]
          · rw [get_write, if_pos (by simp), List.length_append]; rfl
    · have g1 : ¬ (i : Int) < 64 := by omega
      have hi3 : i = 64 := by omega
      subst hi3
      simp only [w49_7, W_seq, w49_1, X_bin EE_sym (op := .lss) rfl, Nat.reduceLT, ev_T, lk_cons, Nat.reduceEqDiff, if_false, if_true, ev_const, bin_lss, g1, decide_false, okI_some, T_set, X_nil, Nat.reduceSub, thenQ_normal, W_cond, CDi_f, W_exit, thenQ_exit, roundQ_exit, blockQ_exit, scopeQ_normal, FinC_normal, resA_nil, oneOr0]
      exact ⟨hI.next, hM2 _ hm (hI.bump 1)⟩
  · exact UsedI.bump (M := mr) ⟨Nat.le_refl _, fun _ _ _ => rfl, ho⟩ 1
theorem used_it0 {mr : Mem} {l c o zo zc : Nat} {tl : List (Nat × Value)} {c0 : Cells} (hu : usedL s 64 = []) (hl : mr.get l = some (.loop ⟨.ready, none, T 13 tl, [7], c19_4, c19_7⟩)) (htl : lk tl 3 = PT o)
    (hc : mr.get c = some (.cells (Cells.ofList [PT b]) true zc)) (hb : FAt mr b sz s) (ho : mr.get o = some (.cells c0 true zo)) (h1 : c0.n = 1) (h0 : c0.get 0 = .slice none 0 0) (hco : c ≠ o) :
    Con EE.P 49 [.func (.yield l) #[] #[], PT c] mr (.tuple #[]) mr := by
  refine used_it hl htl hc hb ⟨c0, ho, h1, .inl ⟨rfl, h0⟩⟩ hco mr Grow.rfl fun M hm hI => ?_
  obtain ⟨g1, g2, co, k1, k2, k3⟩ := hI
  rw [hu] at k3
  have k4 : co.get 0 = .slice none 0 0 := by
    rcases k3 with k3 | k3
    · exact k3.2
    · exact absurd rfl k3.1
  refine ⟨[], Nat.le_refl _, by simp, by simp, by simp, rv_plain rfl, fun hf x ob hx => .inl ⟨hm.lt hx, ?_⟩, fun _ _ e => e⟩
  by_cases hxo : x = o
  · subst hxo
    rw [ho] at hx
    cases hx
    refine ⟨_, k1, .inr ⟨rfl, rfl, by rw [k2, h1], fun i hi => ?_⟩⟩
    have : i = 0 := by omega
    subst this
    rw [k4, h0]
    exact rv_nilSlice
  · exact ⟨ob, by rw [g2 x (hm.lt hx) hxo, hx], .inl ⟨rfl, hx⟩⟩
theorem used_it1 {mr : Mem} {l c o zo zc : Nat} {tl : List (Nat × Value)} {c0 : Cells} (hu : usedL s 64 ≠ []) (hl : mr.get l = some (.loop ⟨.ready, none, T 13 tl, [7], c19_4, c19_7⟩)) (htl : lk tl 3 = PT o)
    (hc : mr.get c = some (.cells (Cells.ofList [PT b]) true zc)) (hb : FAt mr b sz s) (ho : mr.get o = some (.cells c0 true zo)) (h1 : c0.n = 1) (h0 : c0.get 0 = .slice none 0 0) (hco : c ≠ o) :
    Con EE.P 49 [.func (.yield l) #[] #[], PT c] mr (.tuple #[]) (((mr.put o (.cells (Cells.ofList [.slice (some ⟨mr.next, 0, none⟩) (usedL s 64).length (usedL s 64).length]) true zo)).put mr.next (.cells (Cells.ofList ((usedL s 64).map fun k : Nat => In k)) true 1)).bump 1) := by
  refine used_it hl htl hc hb ⟨c0, ho, h1, .inl ⟨rfl, h0⟩⟩ hco _ ⟨by simp, fun x hx e => ?_⟩ fun M hm hI => ?_
  · have x1 : ¬ x = o := fun e2 => by rw [e2, ho] at e; cases e
    simp only [Mem.get_bump, Mem.get_put, ne_new0 hx, x1, if_false, e]
  obtain ⟨g1, g2, co, k1, k2, k3⟩ := hI
  obtain ⟨N, cN, e1, e2, e3, e4, e5, e6⟩ : ∃ N cN, mr.next ≤ N ∧ N < M.next ∧ M.get N = some (.cells cN true 1) ∧ cN.n = (usedL s 64).length ∧ (∀ x, x < (usedL s 64).length → cN.get x = In ((usedL s 64).getD x 0)) ∧ co.get 0 = .slice (some ⟨N, 0, none⟩) (usedL s 64).length (usedL s 64).length := by
    rcases k3 with k3 | k3
    · exact absurd k3.1 hu
    · exact k3.2
  have hot := hm.lt ho
  refine ⟨[(N, mr.next)], by simp, by simp; omega, by simp, by simp, rv_plain rfl, fun hf x ob hx => ?_, fun x hx e => ?_⟩
  · simp only [Mem.get_bump, Mem.get_put] at hx
    by_cases h2 : x = mr.next
    · subst h2
      rw [if_pos rfl] at hx
      cases hx
      refine .inr ⟨N, by simp, _, e3, rfl, rfl, by rw [e4, ofList_n, List.length_map], fun i hi => ?_⟩
      rw [e4] at hi
      rw [e5 i hi, get_ofList (by rw [List.length_map]; exact hi)]
      simp only [List.getD_eq_getElem?_getD, List.getElem?_map, List.getElem?_eq_getElem hi]
      exact rv_int _ _
    · rw [if_neg h2] at hx
      by_cases hxo : x = o
      · subst hxo
        rw [if_pos rfl] at hx
        cases hx
        refine .inl ⟨hot, _, k1, .inr ⟨rfl, rfl, by rw [k2]; rfl, fun i hi => ?_⟩⟩
        have : i = 0 := by omega
        subst this
        rw [e6, get_ofList (by simp)]
        exact rv_slice (.inr (by simp))
      · rw [if_neg hxo] at hx
        exact .inl ⟨hm.lt hx, ob, by rw [g2 x (hm.lt hx) hxo, hx], .inl ⟨rfl, hx⟩⟩
  · have x1 : ¬ x = o := fun e2 => by rw [e2, ho] at e; cases e
    simp only [Mem.get_bump, Mem.get_put, ne_new0 hx, x1, if_false, e]
theorem ca_49 : callable EE.P 49 = true := by kernel_rfl
theorem used_none (hb : FAt m b sz s) (hu : usedL s 64 = []) : Con EE.P 19 [PT b] m (.slice none 0 0) m := by
  refine Con.of EE_ok fn19 (Nat.le_of_ble_eq_true rfl) Grow.rfl fun hm => ?_
  have hn := fun j => hm.ne hb j
  simp only [f19, enumV, w19, W_seq, w19_0, Nat.le_refl, X_assign, ev_const, Nat.reduceLT, T_set, X_nil, thenQ_normal, w19_1, Mem.next_bump, Nat.le_add_right, bump_bump, Nat.reduceAdd, X_alloc, zero_47, okI_some, Nat.add_zero, put_bump, w19_2, Mem.next_put, X_move, ev_T, lk_cons, Nat.reduceEqDiff, if_true, if_false, X_call ca_43, List.map_cons, List.map_nil, true_and]
  refine CallI.con0 (used_fn (s := s) (sz := sz) (by simp only [FAt, Mem.get_bump, Mem.get_put, hn, if_false, hb])) ?_
  simp only [Mem.next_bump, Mem.next_put, put_bump, bump_bump, Nat.reduceAdd, putT, Nat.reduceLT, T_set, X_nil, thenQ_normal, W_block, w19_8]
  refine W_rfn' (l' := [(3, PT (m.next + 1))]) (l0 := m.next + 5) [] [PT (m.next + 4)] (by simp) (by simp only [ev_T, lk_cons, Nat.reduceLT, Nat.reduceEqDiff, reduceIte]) ca_49 rfl rfl (used_it0 (c := m.next + 4) (o := m.next + 1) (b := b) (sz := sz) (s := s) (zc := 0) (zo := 0) (c0 := Cells.ofList [.slice none 0 0]) hu get_eq_b rfl ?_ ?_ ?_ rfl rfl (by omega)) ?_ (rfnQ_normal get_eq_b ?_)
  · simp only [Mem.get_bump, Mem.get_put, Nat.add_left_cancel_iff, Nat.reduceEqDiff, if_true, if_false]
  · simp only [FAt, Mem.get_bump, Mem.get_put, hn, hb, if_false]
  · simp only [Mem.get_bump, Mem.get_put, Nat.add_left_cancel_iff, Nat.reduceEqDiff, if_true, if_false]
  · intro p hp
    simp only [List.mem_singleton] at hp
    subst hp
    exact rv_ptr (.inl ⟨rfl, by omega⟩)
  simp only [put_bump, bump_bump, Nat.reduceAdd, blockQ_normal, thenQ_normal, W_seq, w19_9, Mem.next_bump, Mem.next_put, Nat.le_add_right, X_load EE_sym, Nat.reduceLT, ev_T, lk_cons, if_true, load1 lay_47, Mem.get_bump, Mem.get_put, Nat.add_left_cancel_iff, Nat.reduceEqDiff, if_false, ld1_cells, nth_ofList, List.getElem?_cons_zero, okI_some, T_set, X_assign, X_nil, W_ret, FinC_ret, resA_tmp, T_get, resA_nil, Option.map_some, oneOr1, true_and]
  exact TidyE.pure rfl fun k hk => by simp only [Mem.get_bump, Mem.get_put, ne_new hk, if_false]
theorem used_some (hb : FAt m b sz s) (hu : usedL s 64 ≠ []) : Con EE.P 19 [PT b] m (.slice (some ⟨m.next, 0, none⟩) (usedL s 64).length (usedL s 64).length) ((m.put m.next (.cells (Cells.ofList ((usedL s 64).map fun k : Nat => In k)) true 1)).bump 1) := by
  refine Con.of EE_ok fn19 (Nat.le_of_ble_eq_true rfl) Grow.new fun hm => ?_
  have hn := fun j => hm.ne hb j
  simp only [f19, enumV, w19, W_seq, w19_0, Nat.le_refl, X_assign, ev_const, Nat.reduceLT, T_set, X_nil, thenQ_normal, w19_1, Mem.next_bump, Nat.le_add_right, bump_bump, Nat.reduceAdd, X_alloc, zero_47, okI_some, Nat.add_zero, put_bump, w19_2, Mem.next_put, X_move, ev_T, lk_cons, Nat.reduceEqDiff, if_true, if_false, X_call ca_43, List.map_cons, List.map_nil, true_and]
  refine CallI.con0 (used_fn (s := s) (sz := sz) (by simp only [FAt, Mem.get_bump, Mem.get_put, hn, if_false, hb])) ?_
  simp only [Mem.next_bump, Mem.next_put, put_bump, bump_bump, Nat.reduceAdd, putT, Nat.reduceLT, T_set, X_nil, thenQ_normal, W_block, w19_8]
  refine W_rfn' (l' := [(3, PT (m.next + 1))]) (l0 := m.next + 5) [] [PT (m.next + 4)] (by simp) (by simp only [ev_T, lk_cons, Nat.reduceLT, Nat.reduceEqDiff, reduceIte]) ca_49 rfl rfl (used_it1 (c := m.next + 4) (o := m.next + 1) (b := b) (sz := sz) (s := s) (zc := 0) (zo := 0) (c0 := Cells.ofList [.slice none 0 0]) hu get_eq_b rfl ?_ ?_ ?_ rfl rfl (by omega)) ?_ (rfnQ_normal (tm := T 13 [(6, .func (.func 49) #[] #[PT (m.next + 4)]), (5, PT b), (3, PT (m.next + 1)), (2, .slice none 0 0), (0, PT b)]) (qs := [7]) (sa := c19_4) (bd := c19_7) ?_ ?_)
  · simp only [Mem.get_bump, Mem.get_put, Nat.add_left_cancel_iff, Nat.reduceEqDiff, if_true, if_false]
  · simp only [FAt, Mem.get_bump, Mem.get_put, hn, hb, if_false]
  · simp only [Mem.get_bump, Mem.get_put, Nat.add_left_cancel_iff, Nat.reduceEqDiff, if_true, if_false]
  · intro p hp
    simp only [List.mem_singleton] at hp
    subst hp
    exact rv_ptr (.inl ⟨rfl, by omega⟩)
  · simp only [Mem.get_bump, Mem.get_put, Mem.next_bump, Mem.next_put, Nat.add_assoc, Nat.reduceAdd, Nat.add_left_cancel_iff, Nat.reduceEqDiff, if_true, if_false]
  simp only [put_bump, bump_bump, Nat.reduceAdd, Mem.next_bump, Mem.next_put, blockQ_normal, thenQ_normal, W_seq, w19_9, Nat.le_add_right, X_load EE_sym, Nat.reduceLT, ev_T, lk_cons, if_true, load1 lay_47, Mem.get_bump, Mem.get_put, Nat.add_left_cancel_iff, Nat.reduceEqDiff, if_false, ld1_cells, nth_ofList, List.getElem?_cons_zero, okI_some, T_set, X_assign, X_nil, W_ret, FinC_ret, resA_tmp, T_get, resA_nil, Option.map_some, oneOr1, true_and]
  refine TidyE.new (a := m.next + 6) (c1 := Cells.ofList ((usedL s 64).map fun k : Nat => In k)) (by omega) (rv_slice (.inr (by simp))) (by simp only [Mem.get_bump, Mem.get_put, Nat.add_left_cancel_iff, Nat.reduceEqDiff, if_true, if_false]) rfl (fun i hi => ⟨?_, rfl⟩) fun k hk => by simp only [Mem.get_bump, Mem.get_put, ne_new hk, if_false]
  rw [ofList_n, List.length_map] at hi
  rw [get_ofList (by rw [List.length_map]; exact hi)]
  simp only [List.getD_eq_getElem?_getD, List.getElem?_map, List.getElem?_eq_getElem hi]
  rfl
end
end
end Go.Ab
