/- Signals: one call, of the program and of the document. -/
import Derived.Test.YthpncefkklojlaaSpE
namespace Go.Ab
open Go.Proofs Go.Proofs.Ythpncefkklojlaa.sig
noncomputable section
set_option maxHeartbeats 8000000
set_option maxRecDepth 10000
section
variable {m : Mem} {s : S} {k n : Int} {a : BitVec 32}
theorem eqvI {n : Int} : EE.eqv (In n) (In n) = true := by
  show vEqL 8 _ _ = true
  simp [vEqL, vEq, vEqN]
theorem eqvU {k : IntKind} {n : Int} : EE.eqv (.int k n) (.int k n) = true := by
  show vEqL 8 _ _ = true
  simp [vEqL, vEq, vEqN]
theorem eqvS : EE.eqv (SV s) (SV s) = true := by
  have h : (sl s).all (fun v => vEqL 7 v v) = true := by unfold sl; simp [vEqL, vEq, vEqN]
  have hs : ∀ v ∈ sl s, vEqL 7 v v = true := fun v hv => List.all_eq_true.1 h v hv
  show vEqL 8 _ _ = true
  rw [← agg_sl]
  show arrEq (vEqL 7) _ _ = true
  simp only [arrEq, Bool.and_eq_true, beq_self_eq_true, List.all_eq_true, List.mem_range, true_and]
  intro i hi
  simp only [List.size_toArray] at hi
  refine hs _ ?_
  simp [Array.getD, hi]
theorem eqvB {b : Bool} : EE.eqv (.bool b) (.bool b) = true := by
  show vEqL 8 _ _ = true
  simp [vEqL, vEq, vEqN]
theorem RE_eql {dst : Option Tmp} {g : Option (Tmp × Bool)} {xt yt rt : TypeId} {x y : Operand} {t : List Value} : readE EE ⟨dst, .binOp .eql xt x y yt, rt, g⟩ (ev · t) m = eqA EE.P .eql xt x y (ev x t) (ev y t) m := by
  rw [readE_none EE_sym]; rfl
def doS (s : S) (k n : Int) (a : BitVec 32) : S := if k = 0 then (postS s n).1 else if k = 1 then (nx s).to else if k = 2 then (maskS s a).2.1 else if k = 3 then (handS s n a).2.1 else if k = 4 then (retS s).1 else if k = 5 then { s with p := 0#32 } else s
theorem doP : Con EE.P 21 [SV s, SV s, .agg [In k, In n, Um a].toArray] m (.tuple #[SV (doS s k n a), SV (doS s k n a), .bool true]) m := by
  refine Con.of EE_ok fn21 (Nat.le_of_ble_eq_true rfl) Grow.rfl fun hm => ?_
  have dT : ∀ p : Prop, [Decidable p] → p → decide p = true := fun p _ h => decide_eq_true h
  have dF : ∀ p : Prop, [Decidable p] → ¬ p → decide p = false := fun p _ h => decide_eq_false h
  unfold doS
  by_cases k0 : k = 0
  · rw [if_pos k0]
    have d0 := dT _ k0
    simp only [f21, enumV, Nat.zero_add, Nat.reduceAdd, w21, W_seq, w21_0, Nat.le_refl, X_box, Nat.reduceLT, ev_T, lk_cons, Nat.one_ne_zero, Nat.reduceEqDiff, if_false, if_true, sl_box, okI_some, Nat.add_zero, T_set, put_bump, box_agg, X_alloc, zero_S, X_assign, ev_const, X_nil, thenQ_normal, w21_1, Mem.next_bump, Mem.next_put, Nat.le_add_right, bump_bump, X_fieldAddr EE_sym fo_52_0, offV_ptr, X_load EE_sym, load1 lay_3, Mem.get_bump, Mem.get_put, Nat.add_left_cancel_iff, Nat.add_eq_left, ld1_cells, Cells.nth_eq, Cells.ofList_list, List.getElem?_cons_zero, W_block, w21_36, w21_2, X_eql EE_sym, eq_int, d0, W_cond, CDi_t, w21_6, w21_3, loadN lay_25, Nat.left_eq_add, ldN_cells, ofList_n, sl_len, sub_all, Option.map_some, agg_sl, X_fieldAddr EE_sym fo_52_1, List.getElem?_cons_succ, X_call ca_20, List.map_cons, List.map_nil, true_and]
    refine CallI.con0 postP ?_
    simp only [putT, Nat.reduceLT, T_set, X_move, ev_T, lk_cons, Nat.reduceEqDiff, if_false, if_true, X_extract EE_sym, List.getElem?_toArray, List.getElem?_cons_zero, okI_some, List.getElem?_cons_succ, X_alloc, zero_S, Nat.add_assoc, Nat.reduceAdd, put_bump, X_store, store1 sz_25, Mem.get_bump, Mem.get_put, Nat.add_left_cancel_iff, Nat.add_eq_left, sl_cells, st1_cells, sl_len, Nat.zero_add, ofList_n, Nat.le_refl, sl_one, and_self, X_assign, X_nil, thenQ_normal, W_seq, w21_4, Mem.next_bump, Mem.next_put, Nat.le_add_right, bump_bump, X_load EE_sym, loadN lay_25, Nat.one_ne_zero, ldN_cells, sub_all, Cells.ofList_list, Option.map_some, agg_sl, X_fieldAddr EE_sym fo_52_1, offV_ptr, load1 lay_3, ld1_cells, Cells.nth_eq, X_call ca_29, List.map_cons, List.map_nil, true_and]
    refine CallI.con0 postD ?_
    simp only [putT, Nat.reduceLT, T_set, X_move, ev_T, lk_cons, Nat.reduceEqDiff, if_false, if_true, X_extract EE_sym, List.getElem?_toArray, List.getElem?_cons_zero, okI_some, List.getElem?_cons_succ, X_alloc, zero_S, Nat.add_assoc, Nat.reduceAdd, put_bump, X_store, store1 sz_25, Mem.get_bump, Mem.get_put, Nat.add_left_cancel_iff, Nat.add_eq_left, sl_cells, st1_cells, sl_len, Nat.zero_add, ofList_n, Nat.le_refl, sl_one, and_self, X_assign, X_nil, thenQ_normal, W_seq, w21_5, Mem.next_bump, Mem.next_put, Nat.le_add_right, bump_bump, Y_0, X_load EE_sym, loadN lay_25, ldN_cells, write_n, sub_all, list_writeN, Option.map_some, agg_sl, keepM_f, keepM_t, Y_re, RE_load EE_sym, lookK_cons, eqvS, TDi_t, RE_eql, eq_int, decide_true, eqvB, X_eql EE_sym, Y_nil, W_ret, blockQ_ret, thenQ_ret, FinC_ret, resA_cell, T_get, resA_tmp, resA_nil, Option.bind_some, oneOr2, true_and]
    exact TidyE.pure plain_4 fun y hy => by simp only [Mem.get_bump, Mem.get_put, ne_new0 hy, ne_new hy, if_false]
  rw [if_neg k0]
  have d0 := dF _ k0
  by_cases k1 : k = 1
  · rw [if_pos k1]
    have d1 := dT _ k1
    simp only [f21, enumV, Nat.zero_add, Nat.reduceAdd, w21, W_seq, w21_0, Nat.le_refl, X_box, Nat.reduceLT, ev_T, lk_cons, Nat.one_ne_zero, Nat.reduceEqDiff, if_false, if_true, sl_box, okI_some, Nat.add_zero, T_set, put_bump, box_agg, X_alloc, zero_S, X_assign, ev_const, X_nil, thenQ_normal, w21_1, Mem.next_bump, Mem.next_put, Nat.le_add_right, bump_bump, X_fieldAddr EE_sym fo_52_0, offV_ptr, X_load EE_sym, load1 lay_3, Mem.get_bump, Mem.get_put, Nat.add_left_cancel_iff, Nat.add_eq_left, ld1_cells, Cells.nth_eq, Cells.ofList_list, List.getElem?_cons_zero, W_block, w21_36, w21_2, X_eql EE_sym, eq_int, d0, W_cond, CDi_f, w21_35, w21_7, d1, CDi_t, w21_11, w21_8, loadN lay_25, Nat.left_eq_add, ldN_cells, ofList_n, sl_len, sub_all, Option.map_some, agg_sl, X_call ca_14, List.map_cons, List.map_nil, true_and]
    refine CallI.con0 nextP ?_
    simp only [putT, Nat.reduceLT, T_set, X_move, ev_T, lk_cons, Nat.reduceEqDiff, if_false, if_true, X_extract EE_sym, List.getElem?_toArray, List.getElem?_cons_zero, okI_some, List.getElem?_cons_succ, X_alloc, zero_S, Nat.add_assoc, Nat.reduceAdd, put_bump, X_assign, X_store, store1 sz_25, Mem.get_bump, Mem.get_put, Nat.add_left_cancel_iff, Nat.add_eq_left, sl_cells, st1_cells, sl_len, Nat.zero_add, ofList_n, Nat.le_refl, sl_one, and_self, X_nil, thenQ_normal, W_seq, w21_9, Mem.next_bump, Mem.next_put, Nat.le_add_right, bump_bump, X_load EE_sym, loadN lay_25, Nat.one_ne_zero, ldN_cells, sub_all, Cells.ofList_list, Option.map_some, agg_sl, X_call ca_22, List.map_cons, List.map_nil, true_and]
    refine CallI.con0 nextD ?_
    simp only [putT, Nat.reduceLT, T_set, X_move, ev_T, lk_cons, Nat.reduceEqDiff, if_false, if_true, X_extract EE_sym, List.getElem?_toArray, List.getElem?_cons_zero, okI_some, List.getElem?_cons_succ, X_alloc, zero_S, Nat.add_assoc, Nat.reduceAdd, put_bump, X_assign, X_store, store1 sz_25, Mem.get_bump, Mem.get_put, Nat.add_left_cancel_iff, Nat.add_eq_left, sl_cells, st1_cells, sl_len, Nat.zero_add, ofList_n, Nat.le_refl, sl_one, and_self, X_nil, thenQ_normal, W_seq, w21_10, Mem.next_bump, Mem.next_put, Nat.le_add_right, bump_bump, Y_0, X_load EE_sym, loadN lay_25, ldN_cells, write_n, sub_all, list_writeN, Option.map_some, agg_sl, keepM_f, X_eql EE_sym, eq_int, decide_true, keepM_t, Y_re, RE_load EE_sym, lookK_cons, eqvS, TDi_t, X_guard EE_sym, T_get, GDi_tt, Y_guard EE_sym, RE_eql, eqvB, X_pick EE_sym, ev_const, pickV_bool, Y_nil, W_ret, blockQ_ret, thenQ_ret, FinC_ret, resA_cell, resA_tmp, resA_nil, Option.bind_some, oneOr2, true_and]
    exact TidyE.pure plain_4 fun y hy => by simp only [Mem.get_bump, Mem.get_put, ne_new0 hy, ne_new hy, if_false]
  rw [if_neg k1]
  have d1 := dF _ k1
  by_cases k2 : k = 2
  · rw [if_pos k2]
    have d2 := dT _ k2
    simp only [f21, enumV, Nat.zero_add, Nat.reduceAdd, w21, W_seq, w21_0, Nat.le_refl, X_box, Nat.reduceLT, ev_T, lk_cons, Nat.one_ne_zero, Nat.reduceEqDiff, if_false, if_true, sl_box, okI_some, Nat.add_zero, T_set, put_bump, box_agg, X_alloc, zero_S, X_assign, ev_const, X_nil, thenQ_normal, w21_1, Mem.next_bump, Mem.next_put, Nat.le_add_right, bump_bump, X_fieldAddr EE_sym fo_52_0, offV_ptr, X_load EE_sym, load1 lay_3, Mem.get_bump, Mem.get_put, Nat.add_left_cancel_iff, Nat.add_eq_left, ld1_cells, Cells.nth_eq, Cells.ofList_list, List.getElem?_cons_zero, W_block, w21_36, w21_2, X_eql EE_sym, eq_int, d0, W_cond, CDi_f, w21_35, w21_7, d1, w21_34, w21_12, d2, CDi_t, w21_16, w21_13, loadN lay_25, Nat.left_eq_add, ldN_cells, ofList_n, sl_len, sub_all, Option.map_some, agg_sl, X_fieldAddr EE_sym fo_52_2, load1 lay_22, List.getElem?_cons_succ, X_call ca_12, List.map_cons, List.map_nil, true_and]
    refine CallI.con0 maskP ?_
    simp only [putT, Nat.reduceLT, T_set, X_move, ev_T, lk_cons, Nat.reduceEqDiff, if_false, if_true, X_extract EE_sym, List.getElem?_toArray, List.getElem?_cons_zero, okI_some, List.getElem?_cons_succ, X_alloc, zero_S, Nat.add_assoc, Nat.reduceAdd, put_bump, X_assign, X_store, store1 sz_25, Mem.get_bump, Mem.get_put, Nat.add_left_cancel_iff, Nat.add_eq_left, sl_cells, st1_cells, sl_len, Nat.zero_add, ofList_n, Nat.le_refl, sl_one, and_self, X_nil, thenQ_normal, W_seq, w21_14, Mem.next_bump, Mem.next_put, Nat.le_add_right, bump_bump, X_load EE_sym, loadN lay_25, Nat.one_ne_zero, ldN_cells, sub_all, Cells.ofList_list, Option.map_some, agg_sl, X_fieldAddr EE_sym fo_52_2, offV_ptr, load1 lay_22, ld1_cells, Cells.nth_eq, X_call ca_30, List.map_cons, List.map_nil, true_and]
    refine CallI.con0 maskD ?_
    simp only [putT, Nat.reduceLT, T_set, X_move, ev_T, lk_cons, Nat.reduceEqDiff, if_false, if_true, X_extract EE_sym, List.getElem?_toArray, List.getElem?_cons_zero, okI_some, List.getElem?_cons_succ, X_alloc, zero_S, Nat.add_assoc, Nat.reduceAdd, put_bump, X_assign, X_store, store1 sz_25, Mem.get_bump, Mem.get_put, Nat.add_left_cancel_iff, Nat.add_eq_left, sl_cells, st1_cells, sl_len, Nat.zero_add, ofList_n, Nat.le_refl, sl_one, and_self, X_nil, thenQ_normal, W_seq, w21_15, Mem.next_bump, Mem.next_put, Nat.le_add_right, bump_bump, Y_0, X_load EE_sym, loadN lay_25, ldN_cells, write_n, sub_all, list_writeN, Option.map_some, agg_sl, keepM_f, X_eql EE_sym, eq_int, decide_true, keepM_t, Y_re, RE_load EE_sym, lookK_cons, eqvS, TDi_t, X_guard EE_sym, T_get, GDi_tt, Y_guard EE_sym, RE_eql, eqvB, X_pick EE_sym, ev_const, pickV_bool, Y_nil, W_ret, blockQ_ret, thenQ_ret, FinC_ret, resA_cell, resA_tmp, resA_nil, Option.bind_some, oneOr2, true_and]
    exact TidyE.pure plain_4 fun y hy => by simp only [Mem.get_bump, Mem.get_put, ne_new0 hy, ne_new hy, if_false]
  rw [if_neg k2]
  have d2 := dF _ k2
  by_cases k3 : k = 3
  · rw [if_pos k3]
    have d3 := dT _ k3
    simp only [f21, enumV, Nat.zero_add, Nat.reduceAdd, w21, W_seq, w21_0, Nat.le_refl, X_box, Nat.reduceLT, ev_T, lk_cons, Nat.one_ne_zero, Nat.reduceEqDiff, if_false, if_true, sl_box, okI_some, Nat.add_zero, T_set, put_bump, box_agg, X_alloc, zero_S, X_assign, ev_const, X_nil, thenQ_normal, w21_1, Mem.next_bump, Mem.next_put, Nat.le_add_right, bump_bump, X_fieldAddr EE_sym fo_52_0, offV_ptr, X_load EE_sym, load1 lay_3, Mem.get_bump, Mem.get_put, Nat.add_left_cancel_iff, Nat.add_eq_left, ld1_cells, Cells.nth_eq, Cells.ofList_list, List.getElem?_cons_zero, W_block, w21_36, w21_2, X_eql EE_sym, eq_int, d0, W_cond, CDi_f, w21_35, w21_7, d1, w21_34, w21_12, d2, w21_33, w21_17, d3, CDi_t, w21_21, w21_18, loadN lay_25, Nat.left_eq_add, ldN_cells, ofList_n, sl_len, sub_all, Option.map_some, agg_sl, X_fieldAddr EE_sym fo_52_1, List.getElem?_cons_succ, X_fieldAddr EE_sym fo_52_2, load1 lay_22, X_call ca_15, List.map_cons, List.map_nil, true_and]
    refine CallI.con0 handP ?_
    simp only [putT, Nat.reduceLT, T_set, X_move, ev_T, lk_cons, Nat.reduceEqDiff, if_false, if_true, X_extract EE_sym, List.getElem?_toArray, List.getElem?_cons_zero, okI_some, List.getElem?_cons_succ, X_alloc, zero_S, Nat.add_assoc, Nat.reduceAdd, put_bump, X_assign, X_store, store1 sz_25, Mem.get_bump, Mem.get_put, Nat.add_left_cancel_iff, Nat.add_eq_left, sl_cells, st1_cells, sl_len, Nat.zero_add, ofList_n, Nat.le_refl, sl_one, and_self, X_nil, thenQ_normal, W_seq, w21_19, Mem.next_bump, Mem.next_put, Nat.le_add_right, bump_bump, X_load EE_sym, loadN lay_25, Nat.one_ne_zero, ldN_cells, sub_all, Cells.ofList_list, Option.map_some, agg_sl, X_fieldAddr EE_sym fo_52_1, offV_ptr, load1 lay_3, ld1_cells, Cells.nth_eq, X_fieldAddr EE_sym fo_52_2, load1 lay_22, X_call ca_31, List.map_cons, List.map_nil, true_and]
    refine CallI.con0 handD ?_
    simp only [putT, Nat.reduceLT, T_set, X_move, ev_T, lk_cons, Nat.reduceEqDiff, if_false, if_true, X_extract EE_sym, List.getElem?_toArray, List.getElem?_cons_zero, okI_some, List.getElem?_cons_succ, X_alloc, zero_S, Nat.add_assoc, Nat.reduceAdd, put_bump, X_assign, X_store, store1 sz_25, Mem.get_bump, Mem.get_put, Nat.add_left_cancel_iff, Nat.add_eq_left, sl_cells, st1_cells, sl_len, Nat.zero_add, ofList_n, Nat.le_refl, sl_one, and_self, X_nil, thenQ_normal, W_seq, w21_20, Mem.next_bump, Mem.next_put, Nat.le_add_right, bump_bump, Y_0, X_load EE_sym, loadN lay_25, ldN_cells, write_n, sub_all, list_writeN, Option.map_some, agg_sl, keepM_f, X_eql EE_sym, eq_int, decide_true, keepM_t, Y_re, RE_load EE_sym, lookK_cons, eqvS, TDi_t, X_guard EE_sym, T_get, GDi_tt, Y_guard EE_sym, RE_eql, eqvB, X_pick EE_sym, ev_const, pickV_bool, Y_nil, W_ret, blockQ_ret, thenQ_ret, FinC_ret, resA_cell, resA_tmp, resA_nil, Option.bind_some, oneOr2, true_and]
    exact TidyE.pure plain_4 fun y hy => by simp only [Mem.get_bump, Mem.get_put, ne_new0 hy, ne_new hy, if_false]
  rw [if_neg k3]
  have d3 := dF _ k3
  by_cases k4 : k = 4
  · rw [if_pos k4]
    have d4 := dT _ k4
    simp only [f21, enumV, Nat.zero_add, Nat.reduceAdd, w21, W_seq, w21_0, Nat.le_refl, X_box, Nat.reduceLT, ev_T, lk_cons, Nat.one_ne_zero, Nat.reduceEqDiff, if_false, if_true, sl_box, okI_some, Nat.add_zero, T_set, put_bump, box_agg, X_alloc, zero_S, X_assign, ev_const, X_nil, thenQ_normal, w21_1, Mem.next_bump, Mem.next_put, Nat.le_add_right, bump_bump, X_fieldAddr EE_sym fo_52_0, offV_ptr, X_load EE_sym, load1 lay_3, Mem.get_bump, Mem.get_put, Nat.add_left_cancel_iff, Nat.add_eq_left, ld1_cells, Cells.nth_eq, Cells.ofList_list, List.getElem?_cons_zero, W_block, w21_36, w21_2, X_eql EE_sym, eq_int, d0, W_cond, CDi_f, w21_35, w21_7, d1, w21_34, w21_12, d2, w21_33, w21_17, d3, w21_32, w21_22, d4, CDi_t, w21_26, w21_23, loadN lay_25, Nat.left_eq_add, ldN_cells, ofList_n, sl_len, sub_all, Option.map_some, agg_sl, X_call ca_16, List.map_cons, List.map_nil, true_and]
    refine CallI.con0 retP ?_
    simp only [putT, Nat.reduceLT, T_set, X_move, ev_T, lk_cons, Nat.reduceEqDiff, if_false, if_true, X_extract EE_sym, List.getElem?_toArray, List.getElem?_cons_zero, okI_some, List.getElem?_cons_succ, X_alloc, zero_S, Nat.add_assoc, Nat.reduceAdd, put_bump, X_store, store1 sz_25, Mem.get_bump, Mem.get_put, Nat.add_left_cancel_iff, Nat.add_eq_left, sl_cells, st1_cells, sl_len, Nat.zero_add, ofList_n, Nat.le_refl, sl_one, and_self, X_assign, X_nil, thenQ_normal, W_seq, w21_24, Mem.next_bump, Mem.next_put, Nat.le_add_right, bump_bump, X_load EE_sym, loadN lay_25, Nat.one_ne_zero, ldN_cells, sub_all, Cells.ofList_list, Option.map_some, agg_sl, X_call ca_32, List.map_cons, List.map_nil, true_and]
    refine CallI.con0 retD ?_
    simp only [putT, Nat.reduceLT, T_set, X_move, ev_T, lk_cons, Nat.reduceEqDiff, if_false, if_true, X_extract EE_sym, List.getElem?_toArray, List.getElem?_cons_zero, okI_some, List.getElem?_cons_succ, X_alloc, zero_S, Nat.add_assoc, Nat.reduceAdd, put_bump, X_store, store1 sz_25, Mem.get_bump, Mem.get_put, Nat.add_left_cancel_iff, Nat.add_eq_left, sl_cells, st1_cells, sl_len, Nat.zero_add, ofList_n, Nat.le_refl, sl_one, and_self, X_assign, X_nil, thenQ_normal, W_seq, w21_25, Mem.next_bump, Mem.next_put, Nat.le_add_right, bump_bump, Y_0, X_load EE_sym, loadN lay_25, ldN_cells, write_n, sub_all, list_writeN, Option.map_some, agg_sl, keepM_f, keepM_t, Y_re, RE_load EE_sym, lookK_cons, eqvS, TDi_t, RE_eql, eq_int, decide_true, eqvB, X_eql EE_sym, Y_nil, W_ret, blockQ_ret, thenQ_ret, FinC_ret, resA_cell, T_get, resA_tmp, resA_nil, Option.bind_some, oneOr2, true_and]
    exact TidyE.pure plain_4 fun y hy => by simp only [Mem.get_bump, Mem.get_put, ne_new0 hy, ne_new hy, if_false]
  rw [if_neg k4]
  have d4 := dF _ k4
  have u0 : (sl s).set 0 (.int .u32 0) = sl { s with p := 0#32 } := sl_setp (x := 0#32)
  by_cases k5 : k = 5
  · rw [if_pos k5]
    have d5 := dT _ k5
    simp only [f21, enumV, Nat.zero_add, Nat.reduceAdd, w21, W_seq, w21_0, Nat.le_refl, X_box, Nat.reduceLT, ev_T, lk_cons, Nat.one_ne_zero, Nat.reduceEqDiff, if_false, if_true, sl_box, okI_some, Nat.add_zero, T_set, put_bump, box_agg, X_alloc, zero_S, X_assign, ev_const, X_nil, thenQ_normal, w21_1, Mem.next_bump, Mem.next_put, Nat.le_add_right, bump_bump, X_fieldAddr EE_sym fo_52_0, offV_ptr, X_load EE_sym, load1 lay_3, Mem.get_bump, Mem.get_put, Nat.add_left_cancel_iff, Nat.add_eq_left, ld1_cells, Cells.nth_eq, Cells.ofList_list, List.getElem?_cons_zero, W_block, w21_36, w21_2, X_eql EE_sym, eq_int, d0, W_cond, CDi_f, w21_35, w21_7, d1, w21_34, w21_12, d2, w21_33, w21_17, d3, w21_32, w21_22, d4, w21_31, w21_27, d5, CDi_t, w21_30, w21_28, X_fieldAddr EE_sym fo_25_0, X_store, store1 sz_22, cells_int, st1_cells, List.length_cons, List.length_nil, ofList_n, sl_len, Nat.reduceLeDiff, List.all_cons, oneCell, List.all_nil, Bool.and_self, and_self, w21_29, Y_0, loadN lay_25, Nat.left_eq_add, ldN_cells, sub_all, Option.map_some, agg_sl, keepM_f, X_call ca_18, List.map_cons, List.map_nil, true_and]
    refine CallI.con0 forkP ?_
    simp only [putT, Nat.reduceLT, T_set, X_nil, keepM_t, Y_0, X_store, ev_T, lk_cons, Nat.reduceEqDiff, if_false, if_true, store1 sz_25, Mem.get_bump, Mem.get_put, Nat.add_left_cancel_iff, Nat.add_eq_left, sl_cells, st1_cells, sl_len, Nat.zero_add, ofList_n, Nat.le_refl, sl_one, and_self, put_bump, okI_some, Y_re, RE_load EE_sym, loadN lay_25, Nat.one_ne_zero, ldN_cells, write_n, sub_all, list_write1, Cells.ofList_list, u0, Option.map_some, agg_sl, lookK_cons, eqvS, TDi_t, X_load EE_sym, keepM_f, X_assign, ev_const, Y_nil, thenQ_normal, W_ret, blockQ_ret, thenQ_ret, FinC_ret, resA_cell, T_get, list_writeN, resA_tmp, resA_nil, Option.bind_some, oneOr2]
    exact TidyE.pure plain_4 fun y hy => by simp only [Mem.get_bump, Mem.get_put, ne_new0 hy, ne_new hy, if_false]
  rw [if_neg k5]
  have d5 := dF _ k5
  simp only [f21, enumV, Nat.zero_add, Nat.reduceAdd, w21, W_seq, w21_0, Nat.le_refl, X_box, Nat.reduceLT, ev_T, lk_cons, Nat.one_ne_zero, Nat.reduceEqDiff, if_false, if_true, sl_box, okI_some, Nat.add_zero, T_set, put_bump, box_agg, X_alloc, zero_S, X_assign, ev_const, X_nil, thenQ_normal, w21_1, Mem.next_bump, Mem.next_put, Nat.le_add_right, bump_bump, X_fieldAddr EE_sym fo_52_0, offV_ptr, X_load EE_sym, load1 lay_3, Mem.get_bump, Mem.get_put, Nat.add_left_cancel_iff, Nat.add_eq_left, ld1_cells, Cells.nth_eq, Cells.ofList_list, List.getElem?_cons_zero, W_block, w21_36, w21_2, X_eql EE_sym, eq_int, d0, W_cond, CDi_f, w21_35, w21_7, d1, w21_34, w21_12, d2, w21_33, w21_17, d3, w21_32, w21_22, d4, w21_31, w21_27, d5, W_skip, blockQ_normal, w21_37, Y_0, loadN lay_25, Nat.left_eq_add, ldN_cells, ofList_n, sl_len, sub_all, Option.map_some, agg_sl, keepM_f, X_store, store1 sz_25, sl_cells, st1_cells, sl_one, and_self, keepM_t, Y_re, RE_load EE_sym, lookK_cons, eqvS, TDi_t, Y_nil, W_ret, FinC_ret, resA_cell, T_get, write_n, list_writeN, resA_tmp, resA_nil, Option.bind_some, oneOr2, true_and]
  exact TidyE.pure plain_4 fun y hy => by simp only [Mem.get_bump, Mem.get_put, ne_new0 hy, ne_new hy, if_false]
end
end
end Go.Ab
