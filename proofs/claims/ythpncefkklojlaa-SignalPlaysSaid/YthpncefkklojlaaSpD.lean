/- Signals: the document's Post, Mask, Handle and Return; a child's signals. -/
import Derived.Test.YthpncefkklojlaaSpC
namespace Go.Ab
open Go.Proofs Go.Proofs.Ythpncefkklojlaa.sig
noncomputable section
set_option maxHeartbeats 4000000
set_option maxRecDepth 10000
section
variable {P : Program} {ty : TypeId} {a b : BitVec 32}
theorem bin_shlU {k : Int} (hk : 0 ≤ k) : binV P .shl ty (.int .u32 1) (.int .i64 k) = some (Um (1#32 <<< k.toNat)) :=
  (hold_shl_u32 (P := P) (ds := []) (t := ty) (x := U 1#32) (y := .int .i64 k) (v := U (1#32 <<< k.toNat)) rfl rfl rfl rfl hk).2
theorem bin_subU : binV P .sub ty (Um a) (Um b) = some (Um (a - b)) :=
  (hold_sub_u32 (P := P) (ds := []) (t := ty) (x := U a) (y := U b) (v := U (a - b)) rfl rfl rfl rfl).2
theorem bin_sub512 : binV P .sub ty (Um a) (.int .u32 512) = some (Um (a - 512#32)) :=
  (hold_sub_u32 (P := P) (ds := []) (t := ty) (x := U a) (y := U 512#32) (v := U (a - 512#32)) rfl rfl rfl rfl).2
theorem bin_addU : binV P .add ty (Um a) (Um b) = some (Um (a + b)) :=
  (hold_add_u32 (P := P) (ds := []) (t := ty) (x := U a) (y := U b) (v := U (a + b)) rfl rfl rfl rfl).2
end
section
variable {x : BitVec 32} {k : Nat}
theorem clr_and : (x &&& ~~~(1#32 <<< k)) &&& (1#32 <<< k) = 0#32 := by
  apply BitVec.eq_of_getLsbD_eq
  intro i hi
  rw [BitVec.getLsbD_and, BitVec.getLsbD_and, BitVec.getLsbD_not]
  cases (1#32 <<< k).getLsbD i <;> simp
theorem clr_or : (x &&& ~~~(1#32 <<< k)) ||| (1#32 <<< k) = x ||| (1#32 <<< k) := by
  apply BitVec.eq_of_getLsbD_eq
  intro i hi
  rw [BitVec.getLsbD_or, BitVec.getLsbD_or, BitVec.getLsbD_and, BitVec.getLsbD_not]
  cases (1#32 <<< k).getLsbD i <;> simp [hi]
theorem clr_add : (x &&& ~~~(1#32 <<< k)) + (1#32 <<< k) = x ||| (1#32 <<< k) := by
  rw [BitVec.add_eq_or_of_and_eq_zero _ _ clr_and, clr_or]
theorem sub_bit (hk : k < 32) (h : x.getLsbD k = true) : x - (1#32 <<< k) = x &&& ~~~(1#32 <<< k) := by
  have e : x ||| (1#32 <<< k) = x := by
    apply BitVec.eq_of_getLsbD_eq
    intro i hi
    rw [BitVec.getLsbD_or, lsb_bit _ i hi]
    by_cases e : i = k
    · subst e; rw [h]; rfl
    · simp [e]
  have := clr_add (x := x) (k := k)
  rw [e] at this
  rw [← this]
  rw [BitVec.add_sub_cancel, this]
theorem no_bit (hk : k < 32) (h : x.getLsbD k = false) : x &&& ~~~(1#32 <<< k) = x := by
  apply BitVec.eq_of_getLsbD_eq
  intro i hi
  rw [BitVec.getLsbD_and, BitVec.getLsbD_not, lsb_bit _ i hi]
  by_cases e : i = k
  · subst e; rw [h]; rfl
  · simp [e, hi]
theorem e512 : (1#32 <<< 9) = 512#32 := by decide
end
section
variable {m : Mem} {s : S} {g : Int} {x : BitVec 32}
def clrS (s : S) (g : Int) : S := { s with p := s.p &&& ~~~(1#32 <<< g.toNat) }
theorem withoutD (h1 : 1 ≤ g) (h2 : g ≤ 15) : Con EE.P 34 [SV s, In g] m (SV (clrS s g)) m := by
  refine Con.of EE_ok fn34 (Nat.le_of_ble_eq_true rfl) Grow.rfl fun hm => ?_
  have b1 := bin_shlU (P := EE.P) (ty := 22) (k := g) (by omega)
  simp only [f34, enumV, Nat.zero_add, w34, W_seq, w34_0, Nat.le_refl, X_box, Nat.reduceLT, ev_T, lk_cons, Nat.one_ne_zero, if_false, if_true, sl_box, okI_some, Nat.add_zero, T_set, put_bump, X_alloc, zero_S, X_nil, thenQ_normal, w34_1, Mem.next_bump, Mem.next_put, Nat.le_add_right, bump_bump, Nat.reduceAdd, X_fieldAddr EE_sym fo_25_0, Nat.reduceEqDiff, offV_ptr, X_load EE_sym, load1 lay_22, Mem.get_bump, Mem.get_put, Nat.left_eq_add, ld1_cells, Cells.nth_eq, Cells.ofList_list, sl_p, X_move, X_call ca_33, List.map_cons, List.map_nil, true_and]
  refine CallI.con0 (hasD (by omega)) ?_
  cases hb : s.p.getLsbD g.toNat with
  | true =>
    have e := sub_bit (x := s.p) (k := g.toNat) (by omega) hb
    simp only [putT, Nat.reduceLT, T_set, X_assign, ev_T, lk_cons, Nat.reduceEqDiff, if_false, if_true, X_nil, thenQ_normal, W_seq, w34_2, Mem.next_bump, Mem.next_put, Nat.le_add_right, bump_bump, Nat.reduceAdd, X_move, W_cond, CDi_t, w34_4, w34_3, X_fieldAddr EE_sym fo_25_0, offV_ptr, Nat.add_zero, okI_some, X_load EE_sym, load1 lay_22, Mem.get_bump, Mem.get_put, Nat.left_eq_add, Nat.one_ne_zero, ld1_cells, Cells.nth_eq, Cells.ofList_list, sl_p, X_bin EE_sym (op := .shl) rfl, ev_const, b1, X_bin EE_sym (op := .sub) rfl, bin_subU, e, X_store, store1 sz_22, cells_int, st1_cells, List.length_cons, List.length_nil, Nat.zero_add, ofList_n, sl_len, Nat.reduceLeDiff, List.all_cons, oneCell, List.all_nil, Bool.and_self, and_self, put_bump, w34_5, loadN lay_25, ldN_cells, write_n, sub_all, list_write1, sl_setp, Option.map_some, agg_sl, store1 sz_25, Nat.add_eq_left, sl_cells, Nat.le_refl, sl_one, W_ret, FinC_ret, resA_cell, T_get, list_writeN, resA_nil, Option.bind_some, oneOr1, true_and]
    exact TidyE.pure sl_plain fun y hy => by simp only [Mem.get_bump, Mem.get_put, ne_new0 hy, ne_new hy, if_false]
  | false =>
    have e : clrS s g = s := by unfold clrS; rw [no_bit (by omega) hb]
    rw [e]
    simp only [putT, Nat.reduceLT, T_set, X_assign, ev_T, lk_cons, Nat.reduceEqDiff, if_false, if_true, X_nil, thenQ_normal, W_seq, w34_2, Mem.next_bump, Mem.next_put, Nat.le_add_right, bump_bump, Nat.reduceAdd, X_move, W_cond, CDi_f, W_skip, w34_5, X_load EE_sym, loadN lay_25, Mem.get_bump, Mem.get_put, Nat.left_eq_add, Nat.one_ne_zero, ldN_cells, ofList_n, sl_len, sub_all, Cells.ofList_list, Option.map_some, agg_sl, okI_some, X_store, store1 sz_25, Nat.add_eq_left, sl_cells, st1_cells, Nat.zero_add, Nat.le_refl, sl_one, and_self, put_bump, W_ret, FinC_ret, resA_cell, T_get, write_n, list_writeN, resA_nil, Option.bind_some, oneOr1, true_and]
    exact TidyE.pure sl_plain fun y hy => by simp only [Mem.get_bump, Mem.get_put, ne_new0 hy, ne_new hy, if_false]
theorem postD : Con EE.P 29 [SV s, In g] m (.tuple #[SV (postS s g).1, In (postS s g).2]) m := by
  refine Con.of EE_ok fn29 (Nat.le_of_ble_eq_true rfl) Grow.rfl fun hm => ?_
  simp only [f29, enumV, Nat.zero_add, w29, W_seq, w29_0, Nat.le_refl, X_box, Nat.reduceLT, ev_T, lk_cons, Nat.one_ne_zero, if_false, if_true, sl_box, okI_some, Nat.add_zero, T_set, put_bump, X_alloc, zero_S, X_assign, ev_const, X_nil, thenQ_normal, w29_1, Mem.next_bump, Mem.next_put, Nat.le_add_right, bump_bump, Nat.reduceAdd, X_load EE_sym, Nat.reduceEqDiff, loadN lay_25, Mem.get_bump, Mem.get_put, Nat.left_eq_add, ldN_cells, ofList_n, sl_len, sub_all, Cells.ofList_list, Option.map_some, agg_sl, X_call ca_23, List.map_cons, List.map_nil, true_and]
  refine CallI.con0 mayD ?_
  have key : okPs s g = (okS s && (!decide (g < 1) && !decide ((15 : Int) < g))) := by
    show (okS s && isS g) = _
    congr 1
    unfold isS
    rw [Bool.eq_iff_iff]
    simp
  unfold postS
  rw [key]
  cases ho : okS s with
  | false =>
    simp only [putT, Nat.reduceLT, T_set, X_assign, ev_T, lk_cons, Nat.reduceEqDiff, if_false, if_true, X_nil, thenQ_normal, W_seq, w29_2, Mem.next_bump, Mem.next_put, Nat.le_add_right, bump_bump, Nat.reduceAdd, X_move, X_un EE_sym, un_not, Bool.not_false, okI_some, X_guard EE_sym, T_get, GDi_tf, X_pick EE_sym, ev_const, pickV_bool, W_cond, CDi_t, w29_4, w29_3, X_load EE_sym, loadN lay_25, Mem.get_bump, Mem.get_put, Nat.left_eq_add, Nat.one_ne_zero, ldN_cells, ofList_n, sl_len, sub_all, Cells.ofList_list, Option.map_some, agg_sl, X_store, store1 sz_25, Nat.add_eq_left, sl_cells, st1_cells, Nat.zero_add, Nat.le_refl, sl_one, and_self, put_bump, W_ret, thenQ_ret, FinC_ret, resA_cell, write_n, list_writeN, resA_tmp, resA_nil, Option.bind_some, oneOr2, true_and]
    exact TidyE.pure plain_1 fun y hy => by simp only [Mem.get_bump, Mem.get_put, ne_new0 hy, ne_new hy, if_false]
  | true =>
    by_cases g1 : g < 1
    · simp only [putT, Nat.reduceLT, T_set, X_assign, ev_T, lk_cons, Nat.reduceEqDiff, if_false, if_true, X_nil, g1, decide_true, Bool.not_true, thenQ_normal, W_seq, w29_2, Mem.next_bump, Mem.next_put, Nat.le_add_right, bump_bump, Nat.reduceAdd, X_move, X_un EE_sym, un_not, okI_some, X_guard EE_sym, T_get, GDi_ff, X_bin EE_sym (op := .lss) rfl, ev_const, bin_lss, X_pick EE_sym, pickV_bool, Bool.false_eq_true, GDi_tf, W_cond, CDi_t, w29_4, w29_3, X_load EE_sym, loadN lay_25, Mem.get_bump, Mem.get_put, Nat.left_eq_add, Nat.one_ne_zero, ldN_cells, ofList_n, sl_len, sub_all, Cells.ofList_list, Option.map_some, agg_sl, X_store, store1 sz_25, Nat.add_eq_left, sl_cells, st1_cells, Nat.zero_add, Nat.le_refl, sl_one, and_self, put_bump, W_ret, thenQ_ret, FinC_ret, resA_cell, write_n, list_writeN, resA_tmp, resA_nil, Option.bind_some, oneOr2, true_and]
      exact TidyE.pure plain_1 fun y hy => by simp only [Mem.get_bump, Mem.get_put, ne_new0 hy, ne_new hy, if_false]
    · by_cases g2 : (15 : Int) < g
      · simp only [putT, Nat.reduceLT, T_set, X_assign, ev_T, lk_cons, Nat.reduceEqDiff, if_false, if_true, X_nil, g1, decide_false, Bool.not_false, g2, decide_true, Bool.not_true, thenQ_normal, W_seq, w29_2, Mem.next_bump, Mem.next_put, Nat.le_add_right, bump_bump, Nat.reduceAdd, X_move, X_un EE_sym, un_not, okI_some, X_guard EE_sym, T_get, GDi_ff, X_bin EE_sym (op := .lss) rfl, ev_const, bin_lss, X_pick EE_sym, pickV_bool, Bool.false_eq_true, X_bin EE_sym (op := .gtr) rfl, bin_gtr, W_cond, CDi_t, w29_4, w29_3, X_load EE_sym, loadN lay_25, Mem.get_bump, Mem.get_put, Nat.left_eq_add, Nat.one_ne_zero, ldN_cells, ofList_n, sl_len, sub_all, Cells.ofList_list, Option.map_some, agg_sl, X_store, store1 sz_25, Nat.add_eq_left, sl_cells, st1_cells, Nat.zero_add, Nat.le_refl, sl_one, and_self, put_bump, W_ret, thenQ_ret, FinC_ret, resA_cell, write_n, list_writeN, resA_tmp, resA_nil, Option.bind_some, oneOr2, true_and]
        exact TidyE.pure plain_1 fun y hy => by simp only [Mem.get_bump, Mem.get_put, ne_new0 hy, ne_new hy, if_false]
      · have b1 := bin_shlU (P := EE.P) (ty := 22) (k := g) (by omega)
        simp only [putT, Nat.reduceLT, T_set, X_assign, ev_T, lk_cons, Nat.reduceEqDiff, if_false, if_true, X_nil, g1, decide_false, Bool.not_false, g2, Bool.and_self, thenQ_normal, W_seq, w29_2, Mem.next_bump, Mem.next_put, Nat.le_add_right, bump_bump, Nat.reduceAdd, X_move, X_un EE_sym, un_not, Bool.not_true, okI_some, X_guard EE_sym, T_get, GDi_ff, X_bin EE_sym (op := .lss) rfl, ev_const, bin_lss, X_pick EE_sym, pickV_bool, Bool.false_eq_true, X_bin EE_sym (op := .gtr) rfl, bin_gtr, W_cond, CDi_f, W_skip, w29_5, X_load EE_sym, loadN lay_25, Mem.get_bump, Mem.get_put, Nat.left_eq_add, Nat.one_ne_zero, ldN_cells, ofList_n, sl_len, sub_all, Cells.ofList_list, Option.map_some, agg_sl, X_call ca_34, List.map_cons, List.map_nil, true_and]
        refine CallI.con0 (withoutD (by omega) (by omega)) ?_
        have e1 : (clrS s g).p + 1#32 <<< g.toNat = s.p ||| (1#32 <<< g.toNat) := clr_add
        have e2 : ∀ q, ({ clrS s g with p := q } : S) = { s with p := q } := fun q => rfl
        simp only [putT, Nat.reduceLT, T_set, X_store, ev_T, lk_cons, Nat.reduceEqDiff, if_false, if_true, store1 sz_25, Mem.get_bump, Mem.get_put, Nat.left_eq_add, Nat.one_ne_zero, sl_cells, st1_cells, sl_len, Nat.zero_add, ofList_n, Nat.le_refl, sl_one, and_self, put_bump, okI_some, X_nil, thenQ_normal, W_seq, w29_6, Mem.next_bump, Mem.next_put, Nat.le_add_right, bump_bump, Nat.reduceAdd, X_fieldAddr EE_sym fo_25_0, offV_ptr, Nat.add_zero, X_load EE_sym, load1 lay_22, ld1_cells, Cells.nth_eq, list_writeN, sl_p, X_move, X_bin EE_sym (op := .shl) rfl, ev_const, b1, X_bin EE_sym (op := .add) rfl, bin_addU, e1, store1 sz_22, cells_int, List.length_cons, List.length_nil, write_n, Nat.reduceLeDiff, List.all_cons, oneCell, List.all_nil, Bool.and_self, w29_7, loadN lay_25, ldN_cells, sub_all, list_write1, sl_setp, e2, Option.map_some, agg_sl, Nat.add_eq_left, X_assign, W_ret, FinC_ret, resA_cell, T_get, resA_tmp, resA_nil, Option.bind_some, oneOr2, true_and]
        exact TidyE.pure plain_1 fun y hy => by simp only [Mem.get_bump, Mem.get_put, ne_new0 hy, ne_new hy, if_false]
theorem forkP : Con EE.P 18 [SV s] m (SV { s with p := 0#32 }) m := by
  refine Con.of EE_ok fn18 (Nat.le_of_ble_eq_true rfl) Grow.rfl fun hm => ?_
  have e : (sl s).set 0 (.int .u32 0) = sl { s with p := 0#32 } := sl_setp (x := 0#32)
  simp only [f18, enumV, w18, W_seq, w18_0, Nat.le_refl, X_box, Nat.reduceLT, ev_T, lk_cons, if_true, sl_box, okI_some, Nat.add_zero, T_set, put_bump, X_alloc, zero_S, X_nil, thenQ_normal, w18_1, Mem.next_bump, Mem.next_put, Nat.le_add_right, bump_bump, Nat.reduceAdd, X_fieldAddr EE_sym fo_25_0, Nat.reduceEqDiff, if_false, offV_ptr, X_store, ev_const, store1 sz_22, Mem.get_bump, Mem.get_put, Nat.left_eq_add, Nat.one_ne_zero, cells_int, st1_cells, List.length_cons, List.length_nil, Nat.zero_add, ofList_n, sl_len, Nat.reduceLeDiff, List.all_cons, oneCell, List.all_nil, Bool.and_self, and_self, w18_2, X_load EE_sym, loadN lay_25, ldN_cells, write_n, sub_all, list_write1, Cells.ofList_list, e, Option.map_some, agg_sl, store1 sz_25, Nat.add_eq_left, sl_cells, sl_one, W_ret, FinC_ret, resA_cell, T_get, list_writeN, resA_nil, Option.bind_some, oneOr1, true_and]
  exact TidyE.pure sl_plain fun y hy => by simp only [Mem.get_bump, Mem.get_put, ne_new0 hy, ne_new hy, if_false]
theorem retD : Con EE.P 32 [SV s] m (.tuple #[SV (retS s).1, In (retS s).2]) m := by
  refine Con.of EE_ok fn32 (Nat.le_of_ble_eq_true rfl) Grow.rfl fun hm => ?_
  simp only [f32, enumV, w32, W_seq, w32_0, Nat.le_refl, X_box, Nat.reduceLT, ev_T, lk_cons, if_true, sl_box, okI_some, Nat.add_zero, T_set, put_bump, X_alloc, zero_S, X_assign, ev_const, X_nil, thenQ_normal, w32_1, Mem.next_bump, Mem.next_put, Nat.le_add_right, bump_bump, Nat.reduceAdd, X_load EE_sym, Nat.reduceEqDiff, if_false, loadN lay_25, Mem.get_bump, Mem.get_put, Nat.left_eq_add, Nat.one_ne_zero, ldN_cells, ofList_n, sl_len, sub_all, Cells.ofList_list, Option.map_some, agg_sl, X_call ca_23, List.map_cons, List.map_nil, true_and]
  refine CallI.con0 mayD ?_
  have key : okR s = (okS s && s.b) := rfl
  unfold retS
  rw [key]
  cases ho : okS s <;> cases hb : s.b
  all_goals
    simp only [W_seq, W_cond, W_ret, W_skip, thenQ_normal, thenQ_ret, X_nil, X_move, X_assign, X_store, ev_T, ev_const, T_set, T_get, lk_cons, putT, Nat.reduceLT, Nat.reduceEqDiff, okI_some, CDi_t, CDi_f, GDi_ff, GDi_tf, Nat.le_refl, Mem.next_bump, Mem.next_put, Nat.le_add_right, true_and, Bool.false_eq_true, Nat.reduceAdd, Nat.zero_add, pickV_bool, FinC_ret, resA_nil, resA_tmp, resA_cell, Option.map_some, Option.bind_some, oneOr2, bump_bump, put_bump, offV_ptr, Mem.get_bump, w32_2, w32_3, w32_4, w32_5, w32_6, X_pick EE_sym, X_un EE_sym, X_load EE_sym, X_guard EE_sym, X_fieldAddr EE_sym fo_25_3, loadN lay_25, load1 lay_4, store1 sz_25, store1 sz_4, ld1_cells, ldN_cells, st1_cells, Mem.get_put, Nat.left_eq_add, Nat.add_eq_left, ofList_n, write_n, List.length_cons, List.length_nil, cells_bool, and_self, List.all_cons, List.all_nil, oneCell, Bool.and_self, if_true, if_false, Bool.not_true, Bool.not_false, Nat.one_ne_zero, un_not, eq_self, Cells.nth_eq, sub_all, list_write1, list_writeN, Cells.ofList_list, sl_len, sl_one, sl_cells, sl_b, sl_setb, agg_sl, hb]
    exact TidyE.pure plain_1 fun y hy => by simp only [Mem.get_bump, Mem.get_put, ne_new0 hy, ne_new hy, if_false]
theorem odd_bit : ((x.toNat : Int).tmod 2 = 1) = (x.getLsbD 0 = true) := by
  rw [eq_iff_iff, BitVec.getLsbD, Nat.testBit_zero, decide_eq_true_eq, Int.tmod_eq_emod_of_nonneg (by omega)]
  omega
theorem big_bit (h : ¬ (65535 : Int) < (x.toNat : Int)) {i : Nat} (hi : 16 ≤ i) : x.getLsbD i = false := by
  rw [BitVec.getLsbD]
  apply Nat.testBit_lt_two_pow
  have : (2 : Nat) ^ 16 ≤ 2 ^ i := Nat.pow_le_pow_right (by decide) hi
  omega
theorem small_bit (h : ∀ i, i < 32 → x.getLsbD i = true → i ≤ 15) : ¬ (65535 : Int) < (x.toNat : Int) := by
  have : x.toNat < 2 ^ 16 := by
    apply Nat.lt_pow_two_of_testBit
    intro i hi
    by_cases e : i < 32
    · have h1 := h i e
      rw [BitVec.getLsbD] at h1
      rw [Bool.eq_false_iff]
      intro h2
      have := h1 h2
      omega
    · apply Nat.testBit_lt_two_pow
      have : (2 : Nat) ^ 32 ≤ 2 ^ i := Nat.pow_le_pow_right (by decide) (by omega)
      have := x.isLt
      omega
  omega
theorem okM_key : okM s x = (okS s && (!x.getLsbD 0 && !decide ((65535 : Int) < (x.toNat : Int)))) := by
  rw [Bool.eq_iff_iff, okM_iff, Bool.and_eq_true, Bool.and_eq_true]
  refine and_congr_right fun _ => ?_
  rw [Bool.not_eq_true', Bool.not_eq_true', decide_eq_false_iff_not]
  constructor
  · intro h
    refine ⟨Bool.eq_false_iff.2 fun e => by have := h 0 (by decide) e; omega, small_bit fun i hi hb => (h i hi hb).2⟩
  · rintro ⟨h1, h2⟩ i hi hb
    refine ⟨?_, ?_⟩
    · rcases i with _ | i
      · rw [h1] at hb; cases hb
      · omega
    · by_cases e : i ≤ 15
      · exact e
      · rw [big_bit h2 (by omega)] at hb; cases hb
theorem maskD : Con EE.P 30 [SV s, Um x] m (.tuple #[Um (maskS s x).1, SV (maskS s x).2.1, In (maskS s x).2.2]) m := by
  refine Con.of EE_ok fn30 (Nat.le_of_ble_eq_true rfl) Grow.rfl fun hm => ?_
  simp only [f30, enumV, Nat.zero_add, w30, W_seq, w30_0, Nat.le_refl, X_box, Nat.reduceLT, ev_T, lk_cons, Nat.one_ne_zero, if_false, if_true, sl_box, okI_some, Nat.add_zero, T_set, put_bump, X_assign, ev_const, X_alloc, zero_S, X_nil, thenQ_normal, w30_1, Mem.next_bump, Mem.next_put, Nat.le_add_right, bump_bump, Nat.reduceAdd, X_load EE_sym, Nat.reduceEqDiff, loadN lay_25, Mem.get_bump, Mem.get_put, Nat.left_eq_add, ldN_cells, ofList_n, sl_len, sub_all, Cells.ofList_list, Option.map_some, agg_sl, X_call ca_23, List.map_cons, List.map_nil, true_and]
  refine CallI.con0 mayD ?_
  unfold maskS
  rw [okM_key]
  have br := bin_rem (P := EE.P) (ty := 22) (k := .u32) (a := (x.toNat : Int)) (b := 2) (by decide)
  have u0 : (.int .u32 0 : Value) = Um 0#32 := rfl
  cases ho : okS s with
  | false =>
    simp only [putT, u0, Nat.reduceLT, T_set, X_assign, ev_T, lk_cons, Nat.reduceEqDiff, if_false, if_true, X_nil, thenQ_normal, W_seq, w30_2, Mem.next_bump, Mem.next_put, Nat.le_add_right, bump_bump, Nat.reduceAdd, X_move, X_un EE_sym, un_not, Bool.not_false, okI_some, X_guard EE_sym, T_get, GDi_tf, X_pick EE_sym, ev_const, pickV_bool, W_cond, CDi_t, w30_4, w30_3, X_load EE_sym, loadN lay_25, Mem.get_bump, Mem.get_put, Nat.left_eq_add, ldN_cells, ofList_n, sl_len, sub_all, Cells.ofList_list, Option.map_some, agg_sl, X_store, store1 sz_25, Nat.add_eq_left, sl_cells, st1_cells, Nat.zero_add, Nat.le_refl, sl_one, and_self, put_bump, W_ret, thenQ_ret, FinC_ret, resA_tmp, resA_cell, write_n, list_writeN, resA_nil, Option.bind_some, oneOr2, true_and]
    exact TidyE.pure plain_2 fun y hy => by simp only [Mem.get_bump, Mem.get_put, ne_new0 hy, ne_new hy, if_false]
  | true =>
    cases hx : x.getLsbD 0 with
    | true =>
      have hx' := eq_true hx
      simp only [putT, u0, Nat.reduceLT, T_set, X_assign, ev_T, lk_cons, Nat.reduceEqDiff, if_false, if_true, X_nil, Bool.not_true, thenQ_normal, W_seq, w30_2, Mem.next_bump, Mem.next_put, Nat.le_add_right, bump_bump, Nat.reduceAdd, X_move, X_un EE_sym, un_not, okI_some, X_guard EE_sym, T_get, GDi_ff, X_bin EE_sym (op := .rem) rfl, ev_const, br, X_eql EE_sym, eq_int, odd_bit, hx, decide_true, X_pick EE_sym, pickV_bool, Bool.false_eq_true, GDi_tf, W_cond, CDi_t, w30_4, w30_3, X_load EE_sym, loadN lay_25, Mem.get_bump, Mem.get_put, Nat.left_eq_add, ldN_cells, ofList_n, sl_len, sub_all, Cells.ofList_list, Option.map_some, agg_sl, X_store, store1 sz_25, Nat.add_eq_left, sl_cells, st1_cells, Nat.zero_add, Nat.le_refl, sl_one, and_self, put_bump, W_ret, thenQ_ret, FinC_ret, resA_tmp, resA_cell, write_n, list_writeN, resA_nil, Option.bind_some, oneOr2, true_and]
      exact TidyE.pure plain_2 fun y hy => by simp only [Mem.get_bump, Mem.get_put, ne_new0 hy, ne_new hy, if_false]
    | false =>
      by_cases g2 : (65535 : Int) < (x.toNat : Int)
      · simp only [putT, u0, Nat.reduceLT, T_set, X_assign, ev_T, lk_cons, Nat.reduceEqDiff, if_false, if_true, X_nil, Bool.not_false, g2, decide_true, Bool.not_true, thenQ_normal, W_seq, w30_2, Mem.next_bump, Mem.next_put, Nat.le_add_right, bump_bump, Nat.reduceAdd, X_move, X_un EE_sym, un_not, okI_some, X_guard EE_sym, T_get, GDi_ff, X_bin EE_sym (op := .rem) rfl, ev_const, br, X_eql EE_sym, eq_int, odd_bit, hx, Bool.false_eq_true, decide_false, X_pick EE_sym, pickV_bool, X_bin EE_sym (op := .gtr) rfl, bin_gtr, W_cond, CDi_t, w30_4, w30_3, X_load EE_sym, loadN lay_25, Mem.get_bump, Mem.get_put, Nat.left_eq_add, ldN_cells, ofList_n, sl_len, sub_all, Cells.ofList_list, Option.map_some, agg_sl, X_store, store1 sz_25, Nat.add_eq_left, sl_cells, st1_cells, Nat.zero_add, Nat.le_refl, sl_one, and_self, put_bump, W_ret, thenQ_ret, FinC_ret, resA_tmp, resA_cell, write_n, list_writeN, resA_nil, Option.bind_some, oneOr2, true_and]
        exact TidyE.pure plain_2 fun y hy => by simp only [Mem.get_bump, Mem.get_put, ne_new0 hy, ne_new hy, if_false]
      · simp only [putT, Nat.reduceLT, T_set, X_assign, ev_T, lk_cons, Nat.reduceEqDiff, if_false, if_true, X_nil, Bool.not_false, g2, decide_false, Bool.and_self, thenQ_normal, W_seq, w30_2, Mem.next_bump, Mem.next_put, Nat.le_add_right, bump_bump, Nat.reduceAdd, X_move, X_un EE_sym, un_not, Bool.not_true, okI_some, X_guard EE_sym, T_get, GDi_ff, X_bin EE_sym (op := .rem) rfl, ev_const, br, X_eql EE_sym, eq_int, odd_bit, hx, Bool.false_eq_true, X_pick EE_sym, pickV_bool, X_bin EE_sym (op := .gtr) rfl, bin_gtr, W_cond, CDi_f, W_skip, w30_5, X_fieldAddr EE_sym fo_25_1, offV_ptr, Nat.zero_add, X_load EE_sym, load1 lay_22, Mem.get_bump, Mem.get_put, Nat.left_eq_add, ld1_cells, Cells.nth_eq, Cells.ofList_list, sl_m, w30_6, X_call ca_33, List.map_cons, List.map_nil, true_and]
        refine CallI.con0 (hasD (by decide)) ?_
        have e9 : (9 : Int).toNat = 9 := rfl
        cases hb : x.getLsbD 9 with
        | true =>
          have e := sub_bit (x := x) (k := 9) (by decide) hb
          rw [e512] at e
          simp only [e9, hb, putT, Nat.reduceLT, T_set, X_assign, ev_T, lk_cons, Nat.reduceEqDiff, if_false, if_true, X_nil, thenQ_normal, W_seq, w30_7, Mem.next_bump, Mem.next_put, Nat.le_add_right, bump_bump, Nat.reduceAdd, X_move, W_cond, CDi_t, w30_9, w30_8, X_bin EE_sym (op := .sub) rfl, ev_const, bin_sub512, e, okI_some, w30_10, X_fieldAddr EE_sym fo_25_1, offV_ptr, Nat.zero_add, X_store, store1 sz_22, Mem.get_bump, Mem.get_put, Nat.left_eq_add, cells_int, st1_cells, List.length_cons, List.length_nil, ofList_n, sl_len, Nat.reduceLeDiff, List.all_cons, oneCell, List.all_nil, Bool.and_self, and_self, put_bump, w30_11, X_load EE_sym, loadN lay_25, ldN_cells, write_n, sub_all, list_write1, Cells.ofList_list, sl_setm, Option.map_some, agg_sl, store1 sz_25, Nat.add_eq_left, sl_cells, Nat.le_refl, sl_one, W_ret, FinC_ret, resA_tmp, T_get, resA_cell, list_writeN, resA_nil, Option.bind_some, oneOr2, true_and]
          exact TidyE.pure plain_2 fun y hy => by simp only [Mem.get_bump, Mem.get_put, ne_new0 hy, ne_new hy, if_false]
        | false =>
          have e := no_bit (x := x) (k := 9) (by decide) hb
          rw [e512] at e
          simp only [e9, hb, putT, Nat.reduceLT, T_set, X_assign, ev_T, lk_cons, Nat.reduceEqDiff, if_false, if_true, X_nil, e, thenQ_normal, W_seq, w30_7, Mem.next_bump, Mem.next_put, Nat.le_add_right, bump_bump, Nat.reduceAdd, X_move, W_cond, CDi_f, W_skip, w30_10, X_fieldAddr EE_sym fo_25_1, offV_ptr, Nat.zero_add, okI_some, X_store, store1 sz_22, Mem.get_bump, Mem.get_put, Nat.left_eq_add, cells_int, st1_cells, List.length_cons, List.length_nil, ofList_n, sl_len, Nat.reduceLeDiff, List.all_cons, oneCell, List.all_nil, Bool.and_self, and_self, put_bump, w30_11, X_load EE_sym, loadN lay_25, ldN_cells, write_n, sub_all, list_write1, Cells.ofList_list, sl_setm, Option.map_some, agg_sl, store1 sz_25, Nat.add_eq_left, sl_cells, Nat.le_refl, sl_one, ev_const, W_ret, FinC_ret, resA_tmp, T_get, resA_cell, list_writeN, resA_nil, Option.bind_some, oneOr2, true_and]
          exact TidyE.pure plain_2 fun y hy => by simp only [Mem.get_bump, Mem.get_put, ne_new0 hy, ne_new hy, if_false]
theorem handD : Con EE.P 31 [SV s, In g, Um x] m (.tuple #[Um (handS s g x).1, SV (handS s g x).2.1, In (handS s g x).2.2]) m := by
  refine Con.of EE_ok fn31 (Nat.le_of_ble_eq_true rfl) Grow.rfl fun hm => ?_
  simp only [f31, enumV, Nat.zero_add, Nat.reduceAdd, w31, W_seq, w31_0, Nat.le_refl, X_box, Nat.reduceLT, ev_T, lk_cons, Nat.one_ne_zero, Nat.reduceEqDiff, if_false, if_true, sl_box, okI_some, Nat.add_zero, T_set, put_bump, X_assign, ev_const, X_alloc, zero_S, X_nil, thenQ_normal, w31_1, Mem.next_bump, Mem.next_put, Nat.le_add_right, bump_bump, X_load EE_sym, loadN lay_25, Mem.get_bump, Mem.get_put, Nat.left_eq_add, ldN_cells, ofList_n, sl_len, sub_all, Cells.ofList_list, Option.map_some, agg_sl, X_call ca_23, List.map_cons, List.map_nil, true_and]
  refine CallI.con0 mayD ?_
  have key : okH s g = (okS s && (!decide (g < 1) && !decide ((15 : Int) < g)) && !decide (g = 9)) := by
    unfold okH
    have : isS g = (!decide (g < 1) && !decide ((15 : Int) < g)) := by
      unfold isS
      rw [Bool.eq_iff_iff]
      simp
    rw [this]
    rfl
  unfold handS
  rw [key]
  have u0 : (.int .u32 0 : Value) = Um 0#32 := rfl
  cases ho : okS s with
  | false =>
    simp only [putT, u0, Nat.reduceLT, T_set, X_assign, ev_T, lk_cons, Nat.reduceEqDiff, if_false, if_true, X_nil, thenQ_normal, W_seq, w31_2, Mem.next_bump, Mem.next_put, Nat.le_add_right, bump_bump, Nat.reduceAdd, X_move, X_un EE_sym, un_not, Bool.not_false, okI_some, X_guard EE_sym, T_get, GDi_tf, X_pick EE_sym, ev_const, pickV_bool, W_cond, CDi_t, w31_4, w31_3, X_load EE_sym, loadN lay_25, Mem.get_bump, Mem.get_put, Nat.left_eq_add, ldN_cells, ofList_n, sl_len, sub_all, Cells.ofList_list, Option.map_some, agg_sl, X_store, store1 sz_25, Nat.add_eq_left, sl_cells, st1_cells, Nat.zero_add, Nat.le_refl, sl_one, and_self, put_bump, W_ret, thenQ_ret, FinC_ret, resA_tmp, resA_cell, write_n, list_writeN, resA_nil, Option.bind_some, oneOr2, true_and]
    exact TidyE.pure plain_2 fun y hy => by simp only [Mem.get_bump, Mem.get_put, ne_new0 hy, ne_new hy, if_false]
  | true =>
    by_cases g1 : g < 1
    · simp only [putT, u0, Nat.reduceLT, T_set, X_assign, ev_T, lk_cons, Nat.reduceEqDiff, if_false, if_true, X_nil, g1, decide_true, Bool.not_true, thenQ_normal, W_seq, w31_2, Mem.next_bump, Mem.next_put, Nat.le_add_right, bump_bump, Nat.reduceAdd, X_move, X_un EE_sym, un_not, okI_some, X_guard EE_sym, T_get, GDi_ff, X_bin EE_sym (op := .lss) rfl, ev_const, bin_lss, X_pick EE_sym, pickV_bool, Bool.false_eq_true, GDi_tf, W_cond, CDi_t, w31_4, w31_3, X_load EE_sym, loadN lay_25, Mem.get_bump, Mem.get_put, Nat.left_eq_add, ldN_cells, ofList_n, sl_len, sub_all, Cells.ofList_list, Option.map_some, agg_sl, X_store, store1 sz_25, Nat.add_eq_left, sl_cells, st1_cells, Nat.zero_add, Nat.le_refl, sl_one, and_self, put_bump, W_ret, thenQ_ret, FinC_ret, resA_tmp, resA_cell, write_n, list_writeN, resA_nil, Option.bind_some, oneOr2, true_and]
      exact TidyE.pure plain_2 fun y hy => by simp only [Mem.get_bump, Mem.get_put, ne_new0 hy, ne_new hy, if_false]
    · by_cases g2 : (15 : Int) < g
      · simp only [putT, u0, Nat.reduceLT, T_set, X_assign, ev_T, lk_cons, Nat.reduceEqDiff, if_false, if_true, X_nil, g1, decide_false, Bool.not_false, g2, decide_true, Bool.not_true, thenQ_normal, W_seq, w31_2, Mem.next_bump, Mem.next_put, Nat.le_add_right, bump_bump, Nat.reduceAdd, X_move, X_un EE_sym, un_not, okI_some, X_guard EE_sym, T_get, GDi_ff, X_bin EE_sym (op := .lss) rfl, ev_const, bin_lss, X_pick EE_sym, pickV_bool, Bool.false_eq_true, X_bin EE_sym (op := .gtr) rfl, bin_gtr, GDi_tf, W_cond, CDi_t, w31_4, w31_3, X_load EE_sym, loadN lay_25, Mem.get_bump, Mem.get_put, Nat.left_eq_add, ldN_cells, ofList_n, sl_len, sub_all, Cells.ofList_list, Option.map_some, agg_sl, X_store, store1 sz_25, Nat.add_eq_left, sl_cells, st1_cells, Nat.zero_add, Nat.le_refl, sl_one, and_self, put_bump, W_ret, thenQ_ret, FinC_ret, resA_tmp, resA_cell, write_n, list_writeN, resA_nil, Option.bind_some, oneOr2, true_and]
        exact TidyE.pure plain_2 fun y hy => by simp only [Mem.get_bump, Mem.get_put, ne_new0 hy, ne_new hy, if_false]
      · by_cases g3 : g = 9
        · subst g3
          simp only [putT, u0, Nat.reduceLT, T_set, X_assign, ev_T, lk_cons, Nat.reduceEqDiff, if_false, if_true, X_nil, g1, decide_false, Bool.not_false, g2, Bool.and_self, decide_true, Bool.not_true, thenQ_normal, W_seq, w31_2, Mem.next_bump, Mem.next_put, Nat.le_add_right, bump_bump, Nat.reduceAdd, X_move, X_un EE_sym, un_not, okI_some, X_guard EE_sym, T_get, GDi_ff, X_bin EE_sym (op := .lss) rfl, ev_const, bin_lss, X_pick EE_sym, pickV_bool, Bool.false_eq_true, X_bin EE_sym (op := .gtr) rfl, bin_gtr, X_eql EE_sym, eq_int, W_cond, CDi_t, w31_4, w31_3, X_load EE_sym, loadN lay_25, Mem.get_bump, Mem.get_put, Nat.left_eq_add, ldN_cells, ofList_n, sl_len, sub_all, Cells.ofList_list, Option.map_some, agg_sl, X_store, store1 sz_25, Nat.add_eq_left, sl_cells, st1_cells, Nat.zero_add, Nat.le_refl, sl_one, and_self, put_bump, W_ret, thenQ_ret, FinC_ret, resA_tmp, resA_cell, write_n, list_writeN, resA_nil, Option.bind_some, oneOr2, true_and]
          exact TidyE.pure plain_2 fun y hy => by simp only [Mem.get_bump, Mem.get_put, ne_new0 hy, ne_new hy, if_false]
        · have hg : isS g = true := by unfold isS; simp; omega
          have i1 := @idxG g m.next hg
          have i2 := sl_h (s := s) hg
          have i3 := sl_seth (s := s) (x := x) hg
          have i4 : (2 + (g.toNat + 1) ≤ 19) = True := eq_true (by omega)
          simp only [putT, Nat.reduceLT, T_set, X_assign, ev_T, lk_cons, Nat.reduceEqDiff, if_false, if_true, X_nil, g1, decide_false, Bool.not_false, g2, Bool.and_self, g3, thenQ_normal, W_seq, w31_2, Mem.next_bump, Mem.next_put, Nat.le_add_right, bump_bump, Nat.reduceAdd, X_move, X_un EE_sym, un_not, Bool.not_true, okI_some, X_guard EE_sym, T_get, GDi_ff, X_bin EE_sym (op := .lss) rfl, ev_const, bin_lss, X_pick EE_sym, pickV_bool, Bool.false_eq_true, X_bin EE_sym (op := .gtr) rfl, bin_gtr, X_eql EE_sym, eq_int, W_cond, CDi_f, W_skip, w31_5, X_fieldAddr EE_sym fo_25_2, offV_ptr, Nat.zero_add, X_indexAddr EE_sym, i1, X_load EE_sym, load1 lay_22, Mem.get_bump, Mem.get_put, Nat.left_eq_add, ld1_cells, Cells.nth_eq, Cells.ofList_list, i2, w31_6, X_store, store1 sz_22, cells_int, st1_cells, List.length_cons, List.length_nil, Nat.add_assoc, ofList_n, sl_len, i4, List.all_cons, oneCell, List.all_nil, and_self, put_bump, w31_7, loadN lay_25, ldN_cells, write_n, sub_all, list_write1, i3, Option.map_some, agg_sl, store1 sz_25, Nat.add_eq_left, sl_cells, Nat.le_refl, sl_one, W_ret, FinC_ret, resA_tmp, resA_cell, list_writeN, resA_nil, Option.bind_some, oneOr2, true_and]
          exact TidyE.pure plain_2 fun y hy => by simp only [Mem.get_bump, Mem.get_put, ne_new0 hy, ne_new hy, if_false]
end
end
end Go.Ab
