/- Files: the document's answer, descriptors; a comparison of slices; counts. -/
import Derived.Test.YthidhnbniklhmaaFiF
namespace Go.Ab
open Go.Proofs
noncomputable section
set_option maxHeartbeats 1000000
/-- The document's descriptors: a slice of eight numbers. -/
structure VAt (m : Mem) (v zv N : Nat) (d : Nat → Int) : Prop where
  ptr : m.get v = some (.cells (Cells.ofList [.slice (some ⟨N, 0, none⟩) 8 8]) true zv)
  arr : m.get N = some (.cells (Cells.ofList (dL d 8)) true 1)
section
variable {m : Mem} {v zv N : Nat} {d : Nat → Int} {n fd : Int}
theorem dL_len : (dL d 8).length = 8 := by simp [dL]
theorem dL_take : (dL d 8).take 8 = dL d 8 := List.take_of_length_le (by rw [dL_len]; exact Nat.le_refl _)
theorem dL_all : (dL d 8).all oneCell = true := by
  unfold dL; rw [List.all_map]; exact List.all_eq_true.2 fun _ _ => rfl
theorem dL_plain : ∀ x ∈ dL d 8, plain x = true := fun x hx => by
  obtain ⟨k, _, rfl⟩ := List.mem_map.1 hx
  rfl
theorem dL_getD {i : Nat} (h : i < 8) : (dL d 8).getD i undef = In (d i - 1) := by
  unfold dL
  rw [List.getD_eq_getElem?_getD, List.getElem?_map, List.getElem?_range h]; rfl
theorem dL_set {k : Nat} {x : Int} (hk : k < 8) {i : Nat} (hi : i < 8) : ((Cells.ofList (dL d 8)).write k [In (x - 1)]).get i = (Cells.ofList (dL (dset d k x) 8)).get i := by
  rw [get_write, get_ofList (by rw [dL_len]; exact hi), get_ofList (by rw [dL_len]; exact hi), dL_getD hi, dL_getD hi]
  unfold dset
  by_cases h : i = k
  · subst h; rw [if_pos (by simp), if_pos rfl, Nat.sub_self]; rfl
  · rw [if_neg (by simp; omega), if_neg h]
theorem wget_in (hv : VAt m v zv N d) (h1 : 0 ≤ fd) (h2 : fd < 8) : Con EE.P 32 [PT v, In fd] m (In (d fd.toNat - 1)) m := by
  refine Con.of EE_ok fn32 (Nat.le_of_ble_eq_true rfl) Grow.rfl fun hm => ?_
  have g1 : ¬ fd < 0 := by omega
  have g2 : ¬ 7 < fd := by omega
  have g3 : fd < ((8 : Nat) : Int) := h2
  have g4 : fd.toNat < 8 := by omega
  simp only [f32, enumV, Nat.zero_add, w32, W_seq, w32_0, Nat.le_refl, X_assign, ev_const, Nat.reduceLT, T_set, X_nil, thenQ_normal, w32_1, Mem.next_bump, Nat.le_add_right, bump_bump, Nat.reduceAdd, X_move, ev_T, lk_cons, Nat.reduceEqDiff, if_true, if_false, X_bin EE_sym (op := .lss) rfl, bin_lss, g1, decide_false, okI_some, X_guard EE_sym, T_get, GDi_ff, X_bin EE_sym (op := .gtr) rfl, bin_gtr, g2, X_pick EE_sym, pickV_bool, Bool.false_eq_true, W_cond, CDi_f, W_skip, w32_4, Nat.one_ne_zero, X_nilCheck EE_sym, nilV_ptr, X_fieldAddr EE_sym fo_60_0, offV_ptr, Nat.add_zero, X_load EE_sym, load1 lay_47, Mem.get_bump, hv.ptr, ld1_cells, nth_ofList, List.getElem?_cons_zero, X_indexAddr EE_sym, h1, g3, idxV_slice und_47 sz_3, Nat.mul_one, load1 lay_3, hv.arr, dL_nth d g4, W_ret, FinC_ret, resA_tmp, resA_nil, Option.map_some, oneOr1, true_and]
  exact TidyE.pure rfl fun _ _ => rfl
theorem wget_out (h : ¬ (0 ≤ fd ∧ fd < 8)) : Con EE.P 32 [PT v, In fd] m (In (-1)) m := by
  refine Con.of EE_ok fn32 (Nat.le_of_ble_eq_true rfl) Grow.rfl fun hm => ?_
  by_cases h1 : fd < 0
  · simp only [f32, enumV, Nat.zero_add, w32, W_seq, w32_0, Nat.le_refl, X_assign, ev_const, Nat.reduceLT, T_set, X_nil, thenQ_normal, w32_1, Mem.next_bump, Nat.le_add_right, bump_bump, Nat.reduceAdd, X_move, ev_T, lk_cons, Nat.reduceEqDiff, if_true, if_false, X_bin EE_sym (op := .lss) rfl, bin_lss, h1, decide_true, okI_some, X_guard EE_sym, T_get, GDi_tf, putT, X_pick EE_sym, pickV_bool, W_cond, CDi_t, w32_3, w32_2, W_ret, thenQ_ret, FinC_ret, resA_tmp, resA_nil, Option.map_some, oneOr1, true_and]
    exact TidyE.pure rfl fun _ _ => rfl
  · have h2 : 7 < fd := by omega
    simp only [f32, enumV, Nat.zero_add, w32, W_seq, w32_0, Nat.le_refl, X_assign, ev_const, Nat.reduceLT, T_set, X_nil, thenQ_normal, w32_1, Mem.next_bump, Nat.le_add_right, bump_bump, Nat.reduceAdd, X_move, ev_T, lk_cons, Nat.reduceEqDiff, if_true, if_false, X_bin EE_sym (op := .lss) rfl, bin_lss, h1, decide_false, okI_some, X_guard EE_sym, T_get, GDi_ff, X_bin EE_sym (op := .gtr) rfl, bin_gtr, h2, decide_true, X_pick EE_sym, pickV_bool, Bool.false_eq_true, W_cond, CDi_t, w32_3, w32_2, W_ret, thenQ_ret, FinC_ret, resA_tmp, resA_nil, Option.map_some, oneOr1, true_and]
    exact TidyE.pure rfl fun _ _ => rfl
/-- Behind a set. -/
def wsetM (m : Mem) (v zv : Nat) (d : Nat → Int) : Mem := ((m.put v (.cells (Cells.ofList [.slice (some ⟨m.next, 0, none⟩) 8 8]) true zv)).put m.next (.cells (Cells.ofList (dL d 8)) true 1)).bump 1
theorem wsetM_next : (wsetM m v zv d).next = m.next + 1 := by simp [wsetM]
theorem wset_tidy {m1 : Mem} {a : Nat} {r : Value} {c1 c3 : Cells} (hm : Fresh m) (ha : m.next ≤ a) (hr : plain r = true) (hv : VAt m v zv N d) (d' : Nat → Int) (h1 : m1.get v = some (.cells c1 true zv)) (hn : c1.n = 1) (hc : c1.get 0 = .slice (some ⟨a, 0, none⟩) 8 8)
    (h2 : m1.get a = some (.cells c3 true 1)) (hn2 : c3.n = 8) (hc2 : ∀ i, i < 8 → c3.get i = (Cells.ofList (dL d' 8)).get i) (h : ∀ k, k < m.next → k ≠ v → m1.get k = m.get k) : TidyE m m1 r r (wsetM m v zv d') := by
  refine TidyE.put_new hm ha (rv_plain hr) hv.ptr h1 (by rw [hn]; rfl) (fun i hi => ?_) h2 (by rw [hn2, ofList_n, dL_len]) (fun i hi => ?_) h
  · have : i = 0 := by omega
    subst this
    rw [hc, get_ofList (by simp)]
    exact rv_slice (.inr (by simp))
  · rw [hn2] at hi
    rw [hc2 i hi]
    refine rv_plain ?_
    rw [get_ofList (by rw [dL_len]; exact hi), dL_getD hi]
    rfl
theorem wset_ok {x : Int} (hv : VAt m v zv N d) (h1 : 0 ≤ fd) (h2 : fd < 8) (hx : n = x - 1) : Con EE.P 48 [PT v, In fd, In n] m (.tuple [].toArray) (wsetM m v zv (dset d fd.toNat x)) := by
  subst hx
  refine Con.of EE_ok fn48 (Nat.le_of_ble_eq_true rfl) (Grow.put_new hv.ptr) fun hm => ?_
  have g3 : fd < ((8 : Nat) : Int) := h2
  have g4 : fd.toNat < 8 := by omega
  have g5 : fd.toNat + 1 ≤ 8 := g4
  have n1 := lt_ne (hm.lt hv.ptr)
  have n2 := lt_ne' (hm.lt hv.ptr)
  have n3 := lt_ne (hm.lt hv.arr)
  have n4 := lt_ne' (hm.lt hv.arr)
  simp only [f48, enumV, Nat.zero_add, Nat.reduceAdd, w48, W_seq, w48_0, Nat.le_refl, X_assign, ev_const, Nat.reduceLT, T_set, X_nil, thenQ_normal, w48_1, Mem.next_bump, Nat.le_add_right, bump_bump, X_move, ev_T, lk_cons, Nat.reduceEqDiff, if_false, if_true, Nat.one_ne_zero, X_nilCheck EE_sym, nilV_ptr, okI_some, X_fieldAddr EE_sym fo_60_0, offV_ptr, Nat.add_zero, X_load EE_sym, load1 lay_47, Mem.get_bump, hv.ptr, ld1_cells, nth_ofList, List.getElem?_cons_zero, X_append, Nat.add_assoc, apF, src_at, hv.arr, Nat.mul_one, srcC_cells, dL_len, sub_ofList, List.drop_zero, dL_take, Option.map_some, dL_all, Bool.true_eq_false, ne_eq, not_true_eq_false, or_self, Nat.reduceMul, Nat.reducePow, Nat.reduceLeDiff, and_self, put_bump, Option.isSome_some, app_eq eo47, w48_2, Mem.next_put, X_indexAddr EE_sym, h1, g3, idxV_slice und_47 sz_3, X_store, store1 sz_3, Mem.get_put, cells_int, st1_cells, List.length_cons, List.length_nil, ofList_n, g5, List.all_cons, oneCell, List.all_nil, Bool.and_self, w48_3, store1 sz_47, n1, cells_slice, FinC_normal, resA_nil, oneOr0, true_and]
  refine wset_tidy (a := m.next + 6) (c1 := (Cells.ofList [.slice (some ⟨N, 0, none⟩) 8 8]).write 0 [.slice (some ⟨m.next + 6, 0, none⟩) 8 8]) (c3 := (Cells.ofList (dL d 8)).write fd.toNat [In (x - 1)]) hm (by omega) rfl hv _ (by simp only [Mem.get_bump, Mem.get_put, if_true]) rfl rfl (by simp only [Mem.get_bump, Mem.get_put, n2, if_true, if_false]) (by rw [write_n, ofList_n, dL_len]) (fun i hi => dL_set g4 hi) fun k hk hkv => by simp only [Mem.get_bump, Mem.get_put, hkv, ne_new hk, if_false]
/-- What lies there behind a set. -/
theorem wset_at (hm : Fresh m) (hv : VAt m v zv N d) (d' : Nat → Int) (j : Nat) : VAt ((wsetM m v zv d').bump j) v zv m.next d' := by
  have n1 := hm.ne0 hv.ptr
  exact ⟨by simp only [wsetM, Mem.get_bump, Mem.get_put, n1, if_true, if_false], by simp only [wsetM, Mem.get_bump, Mem.get_put, if_true]⟩
theorem wput_bad (h : ¬ (0 ≤ n ∧ n < 64)) : Con EE.P 39 [PT v, In n] m (.tuple [In 0, In 2].toArray) m := by
  refine Con.of EE_ok fn39 (Nat.le_of_ble_eq_true rfl) Grow.rfl fun hm => ?_
  by_cases h1 : n < 0
  · simp only [f39, enumV, Nat.zero_add, w39, W_seq, w39_0, Nat.le_refl, X_assign, ev_const, Nat.reduceLT, T_set, X_nil, thenQ_normal, w39_1, Mem.next_bump, Nat.le_add_right, bump_bump, Nat.reduceAdd, X_move, ev_T, lk_cons, Nat.reduceEqDiff, if_true, if_false, X_bin EE_sym (op := .lss) rfl, bin_lss, h1, decide_true, okI_some, X_guard EE_sym, T_get, GDi_tf, putT, X_pick EE_sym, pickV_bool, W_cond, CDi_t, w39_3, w39_2, W_ret, thenQ_ret, FinC_ret, resA_tmp, resA_nil, Option.map_some, oneOr2, true_and]
    exact TidyE.pure rfl fun _ _ => rfl
  · have h2 : 63 < n := by omega
    simp only [f39, enumV, Nat.zero_add, w39, W_seq, w39_0, Nat.le_refl, X_assign, ev_const, Nat.reduceLT, T_set, X_nil, thenQ_normal, w39_1, Mem.next_bump, Nat.le_add_right, bump_bump, Nat.reduceAdd, X_move, ev_T, lk_cons, Nat.reduceEqDiff, if_true, if_false, X_bin EE_sym (op := .lss) rfl, bin_lss, h1, decide_false, okI_some, X_guard EE_sym, T_get, GDi_ff, X_bin EE_sym (op := .gtr) rfl, bin_gtr, h2, decide_true, X_pick EE_sym, pickV_bool, Bool.false_eq_true, W_cond, CDi_t, w39_3, w39_2, W_ret, thenQ_ret, FinC_ret, resA_tmp, resA_nil, Option.map_some, oneOr2, true_and]
    exact TidyE.pure rfl fun _ _ => rfl
theorem wput_full (hv : VAt m v zv N d) (hd : DOk d) (h1 : 0 ≤ n) (h2 : n < 64) (h : ∀ k, k < 8 → d k ≠ 0) : Con EE.P 39 [PT v, In n] m (.tuple [In 0, In 102].toArray) m := by
  refine Con.of EE_ok fn39 (Nat.le_of_ble_eq_true rfl) Grow.rfl fun hm => ?_
  have h3 : ¬ n < 0 := by omega
  have h4 : ¬ 63 < n := by omega
  simp only [f39, enumV, Nat.zero_add, w39, W_seq, w39_0, Nat.le_refl, X_assign, ev_const, Nat.reduceLT, T_set, X_nil, thenQ_normal, w39_1, Mem.next_bump, Nat.le_add_right, bump_bump, Nat.reduceAdd, X_move, ev_T, lk_cons, Nat.reduceEqDiff, if_true, if_false, X_bin EE_sym (op := .lss) rfl, bin_lss, h3, decide_false, okI_some, X_guard EE_sym, T_get, GDi_ff, X_bin EE_sym (op := .gtr) rfl, bin_gtr, h4, X_pick EE_sym, pickV_bool, Bool.false_eq_true, W_cond, CDi_f, W_skip, w39_4, W_block, w39_13, true_and]
  refine WX.loop_of (fun x t M => ∃ i j : Nat, i ≤ 8 ∧ x = 8 - i ∧ t = T 30 [(6, In i), (0, PT v), (1, In n)] ∧ M = m.bump j) ?_ (k := 8) (t1 := T 30 [(6, In (0 : Nat)), (0, PT v), (1, In n)]) (View.temps ⟨rfl, rfl, rfl, trivial⟩) ⟨0, _, by omega, rfl, rfl, rfl⟩
  rintro x t M ⟨i, j, hi, rfl, rfl, rfl⟩
  by_cases hi2 : i < 8
  · have g1 : (i : Int) < 8 := by omega
    have g2 : (0 : Int) ≤ i := by omega
    have g3 : (i : Int) < ((8 : Nat) : Int) := g1
    have hw : IntKind.i64.wrap ((i : Int) + 1) = ((i + 1 : Nat) : Int) := by rw [wrap_i64 (by omega) (by omega)]; omega
    have e := hd i
    have e2 := h i hi2
    have g4 : ¬ d i - 1 < 0 := by omega
    simp only [w39_12, W_seq, w39_5, Mem.next_bump, Nat.le_add_right, bump_bump, X_move, Nat.reduceLT, ev_T, lk_cons, Nat.reduceEqDiff, if_false, if_true, T_set, X_bin EE_sym (op := .lss) rfl, ev_const, bin_lss, g1, decide_true, okI_some, X_nil, thenQ_normal, W_cond, CDi_t, W_skip, W_block, w39_10, w39_6, Nat.add_assoc, Nat.reduceAdd, Nat.one_ne_zero, X_nilCheck EE_sym, nilV_ptr, X_fieldAddr EE_sym fo_60_0, offV_ptr, Nat.add_zero, X_load EE_sym, load1 lay_47, Mem.get_bump, hv.ptr, ld1_cells, nth_ofList, List.getElem?_cons_zero, X_indexAddr EE_sym, g2, g3, idxV_slice und_47 sz_3, Int.toNat_natCast, Nat.mul_one, Nat.zero_add, load1 lay_3, hv.arr, dL_nth d hi2, g4, decide_false, CDi_f, blockQ_normal, w39_11, X_bin EE_sym (op := .add) rfl, bin_add, hw, X_assign, roundQ_normal, true_and]
    exact ⟨8 - (i + 1), _, _, by omega, View.temps (l' := [(6, In ((i + 1 : Nat) : Int)), (0, PT v), (1, In n)]) ⟨rfl, rfl, rfl, trivial⟩, i + 1, _, by omega, rfl, rfl, rfl⟩
  · have g1 : ¬ (i : Int) < 8 := by omega
    simp only [w39_12, W_seq, w39_5, Mem.next_bump, Nat.le_add_right, bump_bump, X_move, Nat.reduceLT, ev_T, lk_cons, Nat.reduceEqDiff, if_false, if_true, T_set, X_bin EE_sym (op := .lss) rfl, ev_const, bin_lss, g1, decide_false, okI_some, X_nil, thenQ_normal, W_cond, CDi_f, W_exit, thenQ_exit, roundQ_exit, blockQ_exit, w39_14, Nat.add_assoc, Nat.reduceAdd, X_assign, W_ret, FinC_ret, resA_tmp, T_get, resA_nil, Option.map_some, oneOr2, true_and]
    exact TidyE.pure rfl fun _ _ => rfl
theorem VAt.bump (hv : VAt m v zv N d) (j : Nat) : VAt (m.bump j) v zv N d := ⟨hv.ptr, hv.arr⟩
theorem wset_end {r : Value} {j i : Nat} {d' : Nat → Int} (hm : Fresh m) (hv : VAt m v zv N d) (hr : plain r = true) : TidyE m ((wsetM (m.bump j) v zv d').bump i) r r (wsetM m v zv d') := by
  have n1 := hm.ne hv.ptr
  have n2 := fun j => (Ne.symm (n1 j) : ¬ m.next + j = v)
  refine wset_tidy (a := m.next + j) (c1 := Cells.ofList [.slice (some ⟨m.next + j, 0, none⟩) 8 8]) (c3 := Cells.ofList (dL d' 8)) hm (by omega) hr hv _ (by simp only [wsetM, Mem.get_bump, Mem.get_put, Mem.next_bump, n1, if_true, if_false]) rfl rfl (by simp only [wsetM, Mem.get_bump, Mem.get_put, Mem.next_bump, if_true]) (by rw [ofList_n, dL_len]) (fun i hi => rfl) fun k hk hkv => by simp only [wsetM, Mem.get_bump, Mem.get_put, Mem.next_bump, hkv, ne_new hk, if_false]
theorem wput_at {k : Nat} (hv : VAt m v zv N d) (hd : DOk d) (h1 : 0 ≤ n) (h2 : n < 64) (hk : k < 8) (h0 : d k = 0) (h : ∀ j, j < k → d j ≠ 0) : Con EE.P 39 [PT v, In n] m (.tuple [In k, In 0].toArray) (wsetM m v zv (dset d k (n + 1))) := by
  refine Con.of EE_ok fn39 (Nat.le_of_ble_eq_true rfl) (Grow.put_new hv.ptr) fun hm => ?_
  have h3 : ¬ n < 0 := by omega
  have h4 : ¬ 63 < n := by omega
  simp only [f39, enumV, Nat.zero_add, w39, W_seq, w39_0, Nat.le_refl, X_assign, ev_const, Nat.reduceLT, T_set, X_nil, thenQ_normal, w39_1, Mem.next_bump, Nat.le_add_right, bump_bump, Nat.reduceAdd, X_move, ev_T, lk_cons, Nat.reduceEqDiff, if_true, if_false, X_bin EE_sym (op := .lss) rfl, bin_lss, h3, decide_false, okI_some, X_guard EE_sym, T_get, GDi_ff, X_bin EE_sym (op := .gtr) rfl, bin_gtr, h4, X_pick EE_sym, pickV_bool, Bool.false_eq_true, W_cond, CDi_f, W_skip, w39_4, W_block, w39_13, true_and]
  refine WX.loop_of (fun x t M => ∃ i j : Nat, i ≤ k ∧ x = 8 - i ∧ t = T 30 [(6, In i), (0, PT v), (1, In n)] ∧ M = m.bump j) ?_ (k := 8) (t1 := T 30 [(6, In (0 : Nat)), (0, PT v), (1, In n)]) (View.temps ⟨rfl, rfl, rfl, trivial⟩) ⟨0, _, by omega, rfl, rfl, rfl⟩
  rintro x t M ⟨i, j, hi, rfl, rfl, rfl⟩
  have g1 : (i : Int) < 8 := by omega
  have g2 : (0 : Int) ≤ i := by omega
  have g3 : (i : Int) < ((8 : Nat) : Int) := g1
  have hi2 : i < 8 := by omega
  by_cases hik : i = k
  · subst hik
    simp only [w39_12, W_seq, w39_5, Mem.next_bump, Nat.le_add_right, bump_bump, X_move, Nat.reduceLT, ev_T, lk_cons, Nat.reduceEqDiff, if_false, if_true, T_set, X_bin EE_sym (op := .lss) rfl, ev_const, bin_lss, g1, decide_true, okI_some, X_nil, thenQ_normal, W_cond, CDi_t, W_skip, W_block, w39_10, w39_6, Nat.add_assoc, Nat.reduceAdd, Nat.one_ne_zero, X_nilCheck EE_sym, nilV_ptr, X_fieldAddr EE_sym fo_60_0, offV_ptr, Nat.add_zero, X_load EE_sym, load1 lay_47, Mem.get_bump, hv.ptr, ld1_cells, nth_ofList, List.getElem?_cons_zero, X_indexAddr EE_sym, g2, g3, idxV_slice und_47 sz_3, Int.toNat_natCast, Nat.mul_one, Nat.zero_add, load1 lay_3, hv.arr, dL_nth d hi2, h0, Int.reduceSub, Int.reduceLT, w39_9, w39_7, X_call ca_48, List.map_cons, List.map_nil, true_and]
    refine CallI.con0 (wset_ok (zv := zv) (N := N) (d := d) (x := n + 1) (hv.bump _) g2 g1 (by omega)) ?_
    simp only [Int.toNat_natCast, putT, Nat.reduceLT, T_set, X_nil, thenQ_normal, W_seq, w39_8, wsetM_next, Mem.next_bump, Nat.add_assoc, Nat.reduceAdd, Nat.le_add_right, X_move, ev_T, lk_cons, Nat.reduceEqDiff, if_false, if_true, X_assign, ev_const, W_ret, blockQ_ret, thenQ_ret, roundQ_ret, FinC_ret, resA_tmp, T_get, resA_nil, Option.map_some, okI_some, oneOr2, true_and]
    exact wset_end hm hv rfl
  · have hw : IntKind.i64.wrap ((i : Int) + 1) = ((i + 1 : Nat) : Int) := by rw [wrap_i64 (by omega) (by omega)]; omega
    have e := hd i
    have e2 := h i (by omega)
    have g4 : ¬ d i - 1 < 0 := by omega
    simp only [w39_12, W_seq, w39_5, Mem.next_bump, Nat.le_add_right, bump_bump, X_move, Nat.reduceLT, ev_T, lk_cons, Nat.reduceEqDiff, if_false, if_true, T_set, X_bin EE_sym (op := .lss) rfl, ev_const, bin_lss, g1, decide_true, okI_some, X_nil, thenQ_normal, W_cond, CDi_t, W_skip, W_block, w39_10, w39_6, Nat.add_assoc, Nat.reduceAdd, Nat.one_ne_zero, X_nilCheck EE_sym, nilV_ptr, X_fieldAddr EE_sym fo_60_0, offV_ptr, Nat.add_zero, X_load EE_sym, load1 lay_47, Mem.get_bump, hv.ptr, ld1_cells, nth_ofList, List.getElem?_cons_zero, X_indexAddr EE_sym, g2, g3, idxV_slice und_47 sz_3, Int.toNat_natCast, Nat.mul_one, Nat.zero_add, load1 lay_3, hv.arr, dL_nth d hi2, g4, decide_false, CDi_f, blockQ_normal, w39_11, X_bin EE_sym (op := .add) rfl, bin_add, hw, X_assign, roundQ_normal, true_and]
    exact ⟨8 - (i + 1), _, _, by omega, View.temps (l' := [(6, In ((i + 1 : Nat) : Int)), (0, PT v), (1, In n)]) ⟨rfl, rfl, rfl, trivial⟩, i + 1, _, by omega, rfl, rfl, rfl⟩
theorem wSet_bad (h : ¬ (0 ≤ n ∧ n < 64)) : Con EE.P 40 [PT v, In fd, In n] m (In 2) m := by
  refine Con.of EE_ok fn40 (Nat.le_of_ble_eq_true rfl) Grow.rfl fun hm => ?_
  by_cases h1 : n < 0
  · simp only [f40, enumV, Nat.zero_add, Nat.reduceAdd, w40, W_seq, w40_0, Nat.le_refl, X_assign, ev_const, Nat.reduceLT, T_set, X_nil, thenQ_normal, w40_1, Mem.next_bump, Nat.le_add_right, bump_bump, X_move, ev_T, lk_cons, Nat.reduceEqDiff, if_true, if_false, X_bin EE_sym (op := .lss) rfl, bin_lss, h1, decide_true, okI_some, X_guard EE_sym, T_get, GDi_tf, putT, X_pick EE_sym, pickV_bool, W_cond, CDi_t, w40_3, w40_2, W_ret, thenQ_ret, FinC_ret, resA_tmp, resA_nil, Option.map_some, oneOr1, true_and]
    exact TidyE.pure rfl fun _ _ => rfl
  · have h2 : 63 < n := by omega
    simp only [f40, enumV, Nat.zero_add, Nat.reduceAdd, w40, W_seq, w40_0, Nat.le_refl, X_assign, ev_const, Nat.reduceLT, T_set, X_nil, thenQ_normal, w40_1, Mem.next_bump, Nat.le_add_right, bump_bump, X_move, ev_T, lk_cons, Nat.reduceEqDiff, if_true, if_false, X_bin EE_sym (op := .lss) rfl, bin_lss, h1, decide_false, okI_some, X_guard EE_sym, T_get, GDi_ff, X_bin EE_sym (op := .gtr) rfl, bin_gtr, h2, decide_true, X_pick EE_sym, pickV_bool, Bool.false_eq_true, W_cond, CDi_t, w40_3, w40_2, W_ret, thenQ_ret, FinC_ret, resA_tmp, resA_nil, Option.map_some, oneOr1, true_and]
    exact TidyE.pure rfl fun _ _ => rfl
theorem wSet_not (hv : VAt m v zv N d) (hd : DOk d) (h1 : 0 ≤ n) (h2 : n < 64) (h : ¬ fdFree d fd) : Con EE.P 40 [PT v, In fd, In n] m (In 103) m := by
  refine Con.of EE_ok fn40 (Nat.le_of_ble_eq_true rfl) Grow.rfl fun hm => ?_
  have h3 : ¬ n < 0 := by omega
  have h4 : ¬ 63 < n := by omega
  by_cases g1 : fd < 0
  · simp only [f40, enumV, Nat.zero_add, Nat.reduceAdd, w40, W_seq, w40_0, Nat.le_refl, X_assign, ev_const, Nat.reduceLT, T_set, X_nil, thenQ_normal, w40_1, Mem.next_bump, Nat.le_add_right, bump_bump, X_move, ev_T, lk_cons, Nat.reduceEqDiff, if_true, if_false, X_bin EE_sym (op := .lss) rfl, bin_lss, h3, decide_false, okI_some, X_guard EE_sym, T_get, GDi_ff, X_bin EE_sym (op := .gtr) rfl, bin_gtr, h4, X_pick EE_sym, pickV_bool, Bool.false_eq_true, W_cond, CDi_f, W_skip, w40_4, g1, decide_true, GDi_tf, putT, CDi_t, w40_6, w40_5, W_ret, thenQ_ret, FinC_ret, resA_tmp, resA_nil, Option.map_some, oneOr1, true_and]
    exact TidyE.pure rfl fun _ _ => rfl
  by_cases g2 : 7 < fd
  · simp only [f40, enumV, Nat.zero_add, Nat.reduceAdd, w40, W_seq, w40_0, Nat.le_refl, X_assign, ev_const, Nat.reduceLT, T_set, X_nil, thenQ_normal, w40_1, Mem.next_bump, Nat.le_add_right, bump_bump, X_move, ev_T, lk_cons, Nat.reduceEqDiff, if_true, if_false, X_bin EE_sym (op := .lss) rfl, bin_lss, h3, decide_false, okI_some, X_guard EE_sym, T_get, GDi_ff, X_bin EE_sym (op := .gtr) rfl, bin_gtr, h4, X_pick EE_sym, pickV_bool, Bool.false_eq_true, W_cond, CDi_f, W_skip, w40_4, g1, g2, decide_true, GDi_tf, putT, CDi_t, w40_6, w40_5, W_ret, thenQ_ret, FinC_ret, resA_tmp, resA_nil, Option.map_some, oneOr1, true_and]
    exact TidyE.pure rfl fun _ _ => rfl
  have g3 : 0 ≤ fd := by omega
  have g4 : fd < ((8 : Nat) : Int) := by omega
  have g5 : fd.toNat < 8 := by omega
  have g6 : 0 ≤ d fd.toNat - 1 := by
    have e := hd fd.toNat
    rcases Int.lt_or_le 0 (d fd.toNat) with h3 | h3
    · omega
    · exact absurd ⟨g3, by omega, by omega⟩ h
  simp only [f40, enumV, Nat.zero_add, Nat.reduceAdd, w40, W_seq, w40_0, Nat.le_refl, X_assign, ev_const, Nat.reduceLT, T_set, X_nil, thenQ_normal, w40_1, Mem.next_bump, Nat.le_add_right, bump_bump, X_move, ev_T, lk_cons, Nat.reduceEqDiff, if_true, if_false, X_bin EE_sym (op := .lss) rfl, bin_lss, h3, decide_false, okI_some, X_guard EE_sym, T_get, GDi_ff, X_bin EE_sym (op := .gtr) rfl, bin_gtr, h4, X_pick EE_sym, pickV_bool, Bool.false_eq_true, W_cond, CDi_f, W_skip, w40_4, g1, g2, Nat.one_ne_zero, X_nilCheck EE_sym, nilV_ptr, X_fieldAddr EE_sym fo_60_0, offV_ptr, Nat.add_zero, X_load EE_sym, load1 lay_47, Mem.get_bump, hv.ptr, ld1_cells, nth_ofList, List.getElem?_cons_zero, X_indexAddr EE_sym, g3, g4, idxV_slice und_47 sz_3, Nat.mul_one, load1 lay_3, hv.arr, dL_nth d g5, X_bin EE_sym (op := .geq) rfl, bin_geq, g6, decide_true, CDi_t, w40_6, w40_5, W_ret, thenQ_ret, FinC_ret, resA_tmp, resA_nil, Option.map_some, oneOr1, true_and]
  exact TidyE.pure rfl fun _ _ => rfl
theorem wSet_ok (hv : VAt m v zv N d) (h1 : 0 ≤ n) (h2 : n < 64) (h : fdFree d fd) : Con EE.P 40 [PT v, In fd, In n] m (In 0) (wsetM m v zv (dset d fd.toNat (n + 1))) := by
  refine Con.of EE_ok fn40 (Nat.le_of_ble_eq_true rfl) (Grow.put_new hv.ptr) fun hm => ?_
  obtain ⟨g3, e4, e5⟩ := h
  have h3 : ¬ n < 0 := by omega
  have h4 : ¬ 63 < n := by omega
  have g1 : ¬ fd < 0 := by omega
  have g2 : ¬ 7 < fd := by omega
  have g4 : fd < ((8 : Nat) : Int) := by omega
  have g5 : fd.toNat < 8 := by omega
  have g6 : ¬ 0 ≤ d fd.toNat - 1 := by omega
  simp only [f40, enumV, Nat.zero_add, Nat.reduceAdd, w40, W_seq, w40_0, Nat.le_refl, X_assign, ev_const, Nat.reduceLT, T_set, X_nil, thenQ_normal, w40_1, Mem.next_bump, Nat.le_add_right, bump_bump, X_move, ev_T, lk_cons, Nat.reduceEqDiff, if_true, if_false, X_bin EE_sym (op := .lss) rfl, bin_lss, h3, decide_false, okI_some, X_guard EE_sym, T_get, GDi_ff, X_bin EE_sym (op := .gtr) rfl, bin_gtr, h4, X_pick EE_sym, pickV_bool, Bool.false_eq_true, W_cond, CDi_f, W_skip, w40_4, g1, g2, Nat.one_ne_zero, X_nilCheck EE_sym, nilV_ptr, X_fieldAddr EE_sym fo_60_0, offV_ptr, Nat.add_zero, X_load EE_sym, load1 lay_47, Mem.get_bump, hv.ptr, ld1_cells, nth_ofList, List.getElem?_cons_zero, X_indexAddr EE_sym, g3, g4, idxV_slice und_47 sz_3, Nat.mul_one, load1 lay_3, hv.arr, dL_nth d g5, X_bin EE_sym (op := .geq) rfl, bin_geq, g6, w40_7, X_call ca_48, List.map_cons, List.map_nil, true_and]
  refine CallI.con0 (wset_ok (zv := zv) (N := N) (d := d) (x := n + 1) (hv.bump _) g3 e4 (by omega)) ?_
  simp only [putT, Nat.reduceLT, T_set, X_nil, thenQ_normal, W_seq, w40_8, wsetM_next, Mem.next_bump, Nat.add_assoc, Nat.reduceAdd, Nat.le_add_right, X_assign, ev_const, W_ret, FinC_ret, resA_tmp, T_get, lk_cons, Nat.reduceEqDiff, if_false, if_true, resA_nil, Option.map_some, okI_some, oneOr1, true_and]
  exact wset_end hm hv rfl
theorem wclose_not (hv : VAt m v zv N d) (h : ¬ fdUsed d fd) : Con EE.P 41 [PT v, In fd] m (.tuple [In 0, In 103].toArray) m := by
  refine Con.of EE_ok fn41 (Nat.le_of_ble_eq_true rfl) Grow.rfl fun hm => ?_
  simp only [f41, enumV, Nat.zero_add, w41, W_seq, w41_0, Nat.le_refl, X_assign, ev_const, Nat.reduceLT, T_set, X_nil, thenQ_normal, w41_1, Mem.next_bump, Nat.le_add_right, bump_bump, Nat.reduceAdd, X_move, ev_T, lk_cons, Nat.reduceEqDiff, Nat.one_ne_zero, if_false, if_true, X_call ca_32, List.map_cons, List.map_nil, true_and]
  by_cases h1 : 0 ≤ fd ∧ fd < 8
  · refine CallI.con0 (wget_in (zv := zv) (N := N) (d := d) (hv.bump _) h1.1 h1.2) ?_
    have g1 : d fd.toNat - 1 < 0 := by
      have e : d fd.toNat = 0 := Classical.byContradiction fun e => h ⟨h1.1, h1.2, e⟩
      omega
    simp only [putT, Nat.reduceLT, T_set, X_assign, ev_T, lk_cons, Nat.reduceEqDiff, if_false, if_true, X_nil, thenQ_normal, W_seq, w41_2, Mem.next_bump, Nat.le_add_right, bump_bump, Nat.reduceAdd, X_move, X_bin EE_sym (op := .lss) rfl, ev_const, bin_lss, g1, decide_true, okI_some, W_cond, CDi_t, w41_4, w41_3, W_ret, thenQ_ret, FinC_ret, resA_tmp, T_get, resA_nil, Option.map_some, oneOr2, true_and]
    exact TidyE.pure rfl fun _ _ => rfl
  · refine CallI.con0 (wget_out h1) ?_
    simp only [putT, Nat.reduceLT, T_set, X_assign, ev_T, lk_cons, Nat.reduceEqDiff, if_false, if_true, X_nil, thenQ_normal, W_seq, w41_2, Mem.next_bump, Nat.le_add_right, bump_bump, Nat.reduceAdd, X_move, X_bin EE_sym (op := .lss) rfl, ev_const, bin_lss, Int.reduceLT, decide_true, okI_some, W_cond, CDi_t, w41_4, w41_3, W_ret, thenQ_ret, FinC_ret, resA_tmp, T_get, resA_nil, Option.map_some, oneOr2, true_and]
    exact TidyE.pure rfl fun _ _ => rfl
theorem wclose_ok (hv : VAt m v zv N d) (hd : DOk d) (h : fdUsed d fd) : Con EE.P 41 [PT v, In fd] m (.tuple [In (d fd.toNat - 1), In 0].toArray) (wsetM m v zv (dset d fd.toNat 0)) := by
  refine Con.of EE_ok fn41 (Nat.le_of_ble_eq_true rfl) (Grow.put_new hv.ptr) fun hm => ?_
  obtain ⟨h1, h2, h3⟩ := h
  simp only [f41, enumV, Nat.zero_add, w41, W_seq, w41_0, Nat.le_refl, X_assign, ev_const, Nat.reduceLT, T_set, X_nil, thenQ_normal, w41_1, Mem.next_bump, Nat.le_add_right, bump_bump, Nat.reduceAdd, X_move, ev_T, lk_cons, Nat.reduceEqDiff, Nat.one_ne_zero, if_false, if_true, X_call ca_32, List.map_cons, List.map_nil, true_and]
  refine CallI.con0 (wget_in (zv := zv) (N := N) (d := d) (hv.bump _) h1 h2) ?_
  have e := hd fd.toNat
  have g1 : ¬ d fd.toNat - 1 < 0 := by omega
  simp only [putT, Nat.reduceLT, T_set, X_assign, ev_T, lk_cons, Nat.reduceEqDiff, if_false, if_true, X_nil, thenQ_normal, W_seq, w41_2, Mem.next_bump, Nat.le_add_right, bump_bump, Nat.reduceAdd, X_move, X_bin EE_sym (op := .lss) rfl, ev_const, bin_lss, g1, decide_false, okI_some, W_cond, CDi_f, W_skip, w41_5, Nat.one_ne_zero, X_call ca_48, List.map_cons, List.map_nil, true_and]
  refine CallI.con0 (wset_ok (zv := zv) (N := N) (d := d) (x := 0) (hv.bump _) h1 h2 rfl) ?_
  simp only [putT, Nat.reduceLT, T_set, X_nil, thenQ_normal, W_seq, w41_6, wsetM_next, Mem.next_bump, Nat.add_assoc, Nat.reduceAdd, Nat.le_add_right, X_move, ev_T, lk_cons, Nat.reduceEqDiff, if_false, if_true, X_assign, ev_const, W_ret, FinC_ret, resA_tmp, T_get, resA_nil, Option.map_some, okI_some, oneOr2, true_and]
  exact wset_end hm hv rfl
theorem wdup_not (hv : VAt m v zv N d) (h : ¬ fdUsed d fd) : Con EE.P 42 [PT v, In fd] m (.tuple [In 0, In 103].toArray) m := by
  refine Con.of EE_ok fn42 (Nat.le_of_ble_eq_true rfl) Grow.rfl fun hm => ?_
  simp only [f42, enumV, Nat.zero_add, w42, W_seq, w42_0, Nat.le_refl, X_assign, ev_const, Nat.reduceLT, T_set, X_nil, thenQ_normal, w42_1, Mem.next_bump, Nat.le_add_right, bump_bump, Nat.reduceAdd, X_move, ev_T, lk_cons, Nat.reduceEqDiff, Nat.one_ne_zero, if_false, if_true, X_call ca_32, List.map_cons, List.map_nil, true_and]
  by_cases h1 : 0 ≤ fd ∧ fd < 8
  · refine CallI.con0 (wget_in (zv := zv) (N := N) (d := d) (hv.bump _) h1.1 h1.2) ?_
    have g1 : d fd.toNat - 1 < 0 := by
      have e : d fd.toNat = 0 := Classical.byContradiction fun e => h ⟨h1.1, h1.2, e⟩
      omega
    simp only [putT, Nat.reduceLT, T_set, X_assign, ev_T, lk_cons, Nat.reduceEqDiff, if_false, if_true, X_nil, thenQ_normal, W_seq, w42_2, Mem.next_bump, Nat.le_add_right, bump_bump, Nat.reduceAdd, X_move, X_bin EE_sym (op := .lss) rfl, ev_const, bin_lss, g1, decide_true, okI_some, W_cond, CDi_t, w42_4, w42_3, W_ret, thenQ_ret, FinC_ret, resA_tmp, T_get, resA_nil, Option.map_some, oneOr2, true_and]
    exact TidyE.pure rfl fun _ _ => rfl
  · refine CallI.con0 (wget_out h1) ?_
    simp only [putT, Nat.reduceLT, T_set, X_assign, ev_T, lk_cons, Nat.reduceEqDiff, if_false, if_true, X_nil, thenQ_normal, W_seq, w42_2, Mem.next_bump, Nat.le_add_right, bump_bump, Nat.reduceAdd, X_move, X_bin EE_sym (op := .lss) rfl, ev_const, bin_lss, Int.reduceLT, decide_true, okI_some, W_cond, CDi_t, w42_4, w42_3, W_ret, thenQ_ret, FinC_ret, resA_tmp, T_get, resA_nil, Option.map_some, oneOr2, true_and]
    exact TidyE.pure rfl fun _ _ => rfl
theorem wdup_full (hv : VAt m v zv N d) (hd : DOk d) (h : fdUsed d fd) (hf : ∀ k, k < 8 → d k ≠ 0) : Con EE.P 42 [PT v, In fd] m (.tuple [In 0, In 102].toArray) m := by
  refine Con.of EE_ok fn42 (Nat.le_of_ble_eq_true rfl) Grow.rfl fun hm => ?_
  obtain ⟨h1, h2, h3⟩ := h
  simp only [f42, enumV, Nat.zero_add, w42, W_seq, w42_0, Nat.le_refl, X_assign, ev_const, Nat.reduceLT, T_set, X_nil, thenQ_normal, w42_1, Mem.next_bump, Nat.le_add_right, bump_bump, Nat.reduceAdd, X_move, ev_T, lk_cons, Nat.reduceEqDiff, Nat.one_ne_zero, if_false, if_true, X_call ca_32, List.map_cons, List.map_nil, true_and]
  refine CallI.con0 (wget_in (zv := zv) (N := N) (d := d) (hv.bump _) h1 h2) ?_
  have e := hd fd.toNat
  have g1 : ¬ d fd.toNat - 1 < 0 := by omega
  simp only [putT, Nat.reduceLT, T_set, X_assign, ev_T, lk_cons, Nat.reduceEqDiff, if_false, if_true, X_nil, thenQ_normal, W_seq, w42_2, Mem.next_bump, Nat.le_add_right, bump_bump, Nat.reduceAdd, X_move, X_bin EE_sym (op := .lss) rfl, ev_const, bin_lss, g1, decide_false, okI_some, W_cond, CDi_f, W_skip, w42_5, Nat.one_ne_zero, X_call ca_39, List.map_cons, List.map_nil, true_and]
  refine CallI.con0 (wput_full (zv := zv) (N := N) (d := d) (hv.bump _) hd (by omega) (by omega) hf) ?_
  simp only [putT, Nat.reduceLT, T_set, X_extract EE_sym, ev_T, lk_cons, Nat.reduceEqDiff, if_false, if_true, List.getElem?_toArray, List.getElem?_cons_zero, okI_some, List.getElem?_cons_succ, X_assign, X_nil, thenQ_normal, W_ret, FinC_ret, resA_tmp, T_get, resA_nil, Option.map_some, oneOr2]
  exact TidyE.pure rfl fun _ _ => rfl
theorem wdup_ok {k : Nat} (hv : VAt m v zv N d) (hd : DOk d) (h : fdUsed d fd) (hk : k < 8) (h0 : d k = 0) (hf : ∀ j, j < k → d j ≠ 0) : Con EE.P 42 [PT v, In fd] m (.tuple [In k, In 0].toArray) (wsetM m v zv (dset d k (d fd.toNat))) := by
  refine Con.of EE_ok fn42 (Nat.le_of_ble_eq_true rfl) (Grow.put_new hv.ptr) fun hm => ?_
  obtain ⟨h1, h2, h3⟩ := h
  simp only [f42, enumV, Nat.zero_add, w42, W_seq, w42_0, Nat.le_refl, X_assign, ev_const, Nat.reduceLT, T_set, X_nil, thenQ_normal, w42_1, Mem.next_bump, Nat.le_add_right, bump_bump, Nat.reduceAdd, X_move, ev_T, lk_cons, Nat.reduceEqDiff, Nat.one_ne_zero, if_false, if_true, X_call ca_32, List.map_cons, List.map_nil, true_and]
  refine CallI.con0 (wget_in (zv := zv) (N := N) (d := d) (hv.bump _) h1 h2) ?_
  have e := hd fd.toNat
  have g1 : ¬ d fd.toNat - 1 < 0 := by omega
  simp only [putT, Nat.reduceLT, T_set, X_assign, ev_T, lk_cons, Nat.reduceEqDiff, if_false, if_true, X_nil, thenQ_normal, W_seq, w42_2, Mem.next_bump, Nat.le_add_right, bump_bump, Nat.reduceAdd, X_move, X_bin EE_sym (op := .lss) rfl, ev_const, bin_lss, g1, decide_false, okI_some, W_cond, CDi_f, W_skip, w42_5, Nat.one_ne_zero, X_call ca_39, List.map_cons, List.map_nil, true_and]
  refine CallI.con0 (wput_at (zv := zv) (N := N) (d := d) (hv.bump _) hd (by omega) (by omega) hk h0 hf) ?_
  simp only [Int.sub_add_cancel, putT, Nat.reduceLT, T_set, X_extract EE_sym, ev_T, lk_cons, Nat.reduceEqDiff, if_false, if_true, List.getElem?_toArray, List.getElem?_cons_zero, okI_some, List.getElem?_cons_succ, X_assign, X_nil, thenQ_normal, W_ret, FinC_ret, resA_tmp, T_get, resA_nil, Option.map_some, oneOr2]
  exact wset_end (i := 0) hm hv rfl
theorem bs8 : bsV EE.P 47 8 [(0, In (-1)), (1, In (-1)), (2, In (-1)), (3, In (-1)), (4, In (-1)), (5, In (-1)), (6, In (-1)), (7, In (-1))] = some ([In (-1), In (-1), In (-1), In (-1), In (-1), In (-1), In (-1), In (-1)], 1) := by kernel_rfl
theorem b60 {N : Nat} : buildA EE.P 60 [(0, .slice (some ⟨N, 0, none⟩) 8 8)] = some (.agg [.slice (some ⟨N, 0, none⟩) 8 8].toArray) := by kernel_rfl
theorem wnew_ok : ∃ m', Con EE.P 35 [] m (PT m.next) m' ∧ VAt m' m.next 0 (m.next + 1) (fun _ => 0) ∧ m.next + 2 = m'.next ∧ (∀ y, m.next + 2 ≤ y → m'.get y = m.get y) ∧ ∀ y, y < m.next → m'.get y = m.get y := by
  refine ⟨((m.put m.next (.cells (Cells.ofList [.slice (some ⟨m.next + 1, 0, none⟩) 8 8]) true 0)).put (m.next + 1) (.cells (Cells.ofList (dL (fun _ => 0) 8)) true 1)).bump 2, ?_, ⟨by simp only [Mem.get_bump, Mem.get_put, Nat.left_eq_add, Nat.one_ne_zero, if_true, if_false], by simp only [Mem.get_bump, Mem.get_put, if_true]⟩, by simp, fun y hy => by simp only [Mem.get_bump, Mem.get_put]; rw [if_neg (by omega), if_neg (by omega)], fun y hy => by simp only [Mem.get_bump, Mem.get_put, ne_new hy, ne_new0 hy, if_false]⟩
  refine Con.of EE_ok fn35 (Nat.le_of_ble_eq_true rfl) ⟨by simp, fun y hy e => by simp only [Mem.get_bump, Mem.get_put, ne_new hy, ne_new0 hy, if_false, e]⟩ fun hm => ?_
  simp only [f35, enumV, w35, W_seq, w35_0, Nat.le_refl, X_assign, ev_const, Nat.reduceLT, T_set, X_nil, thenQ_normal, w35_1, Mem.next_bump, Nat.le_add_right, bump_bump, Nat.reduceAdd, X_bs, List.map_cons, List.map_nil, bs8, okI_some, Nat.add_zero, put_bump, X_build EE_sym, ev_T, lk_cons, Nat.reduceEqDiff, if_false, if_true, b60, X_box, box_agg, Nat.add_assoc, W_ret, FinC_ret, resA_tmp, T_get, Nat.one_ne_zero, resA_nil, Option.map_some, oneOr1, true_and]
  refine TidyE.new2 (a1 := m.next + 3) (a2 := m.next + 1) (by omega) (by omega) (by omega) (rv_ptr (.inr (by simp))) (by simp only [Mem.get_bump, Mem.get_put, if_true]) (p2 := .cells (Cells.ofList [In (-1), In (-1), In (-1), In (-1), In (-1), In (-1), In (-1), In (-1)]) true 1) (by simp only [Mem.get_bump, Mem.get_put, Nat.add_left_cancel_iff, Nat.reduceEqDiff, if_true, if_false]) (p1 := .cells (Cells.ofList [.slice (some ⟨m.next + 1, 0, none⟩) 8 8]) true 0) ⟨rfl, rfl, rfl, fun i hi => ?_⟩ (ro_plain fun i hi => ?_) fun k hk => by simp only [Mem.get_bump, Mem.get_put, ne_new hk, if_false]
  · rw [ofList_n] at hi
    rw [get_ofList hi]
    rcases i with _ | i
    · exact rv_slice (.inr (by simp))
    · simp at hi
  · have hi : i < 8 := hi
    rw [get_ofList hi]
    exact (by decide : ∀ j, j < 8 → plain ([In (-1), In (-1), In (-1), In (-1), In (-1), In (-1), In (-1), In (-1)].getD j undef) = true) i hi
/-! a comparison of two slices of numbers -/
theorem same_ok {N1 N2 z1 z2 k c1 c2 : Nat} {w1 w2 : Bool} {e1 e2 : Cells} {l : Nat → Int} (hk : k < 4294967296) (h1 : m.get N1 = some (.cells e1 w1 z1)) (h2 : m.get N2 = some (.cells e2 w2 z2)) (g1 : ∀ j, j < k → e1.nth j = some (In (l j))) (g2 : ∀ j, j < k → e2.nth j = some (In (l j))) :
    Con EE.P 22 [.slice (some ⟨N1, 0, none⟩) k c1, .slice (some ⟨N2, 0, none⟩) k c2] m (.bool true) m := by
  refine Con.of EE_ok fn22 (Nat.le_of_ble_eq_true rfl) Grow.rfl fun hm => ?_
  simp only [f22, enumV, Nat.zero_add, w22, W_seq, w22_0, Nat.le_refl, X_assign, ev_const, Nat.reduceLT, T_set, X_nil, thenQ_normal, w22_1, Mem.next_bump, Nat.le_add_right, bump_bump, Nat.reduceAdd, X_move, ev_T, lk_cons, Nat.reduceEqDiff, Nat.one_ne_zero, if_false, if_true, X_len EE_sym, len_slice und_47, okI_some, X_neq EE_sym, neq_int, decide_true, Bool.not_true, W_cond, CDi_f, W_skip, w22_4, W_block, w22_12, true_and]
  refine WX.loop_of (fun x t M => ∃ i j : Nat, i ≤ k ∧ x = k - i ∧ t = T 26 [(5, In i), (0, .slice (some ⟨N1, 0, none⟩) k c1), (1, .slice (some ⟨N2, 0, none⟩) k c2)] ∧ M = m.bump j) ?_ (k := k) (t1 := T 26 [(5, In (0 : Nat)), (0, .slice (some ⟨N1, 0, none⟩) k c1), (1, .slice (some ⟨N2, 0, none⟩) k c2)]) (View.temps ⟨rfl, rfl, rfl, trivial⟩) ⟨0, _, by omega, rfl, rfl, rfl⟩
  rintro x t M ⟨i, j, hi, rfl, rfl, rfl⟩
  by_cases hi2 : i < k
  · have q1 : (i : Int) < (k : Int) := by omega
    have q2 : (0 : Int) ≤ i := by omega
    have q3 := g1 i hi2
    have q4 := g2 i hi2
    have hw : IntKind.i64.wrap ((i : Int) + 1) = ((i + 1 : Nat) : Int) := by rw [wrap_i64 (by omega) (by omega)]; omega
    simp only [w22_11, W_seq, w22_5, Mem.next_bump, Nat.le_add_right, bump_bump, X_move, Nat.reduceLT, ev_T, lk_cons, Nat.reduceEqDiff, if_false, if_true, T_set, Nat.one_ne_zero, X_len EE_sym, len_slice und_47, okI_some, X_bin EE_sym (op := .lss) rfl, bin_lss, q1, decide_true, X_nil, thenQ_normal, W_cond, CDi_t, W_skip, W_block, w22_9, w22_6, Nat.add_assoc, Nat.reduceAdd, X_indexAddr EE_sym, q2, idxV_slice und_47 sz_3, Int.toNat_natCast, Nat.mul_one, Nat.zero_add, X_load EE_sym, load1 lay_3, Mem.get_bump, h1, ld1_cells, q3, h2, q4, X_neq EE_sym, neq_int, Bool.not_true, CDi_f, blockQ_normal, w22_10, X_bin EE_sym (op := .add) rfl, ev_const, bin_add, hw, X_assign, roundQ_normal, true_and]
    exact ⟨k - (i + 1), _, _, by omega, View.temps (l' := [(5, In ((i + 1 : Nat) : Int)), (0, .slice (some ⟨N1, 0, none⟩) k c1), (1, .slice (some ⟨N2, 0, none⟩) k c2)]) ⟨rfl, rfl, rfl, trivial⟩, i + 1, _, by omega, rfl, rfl, rfl⟩
  · have q1 : ¬ (i : Int) < (k : Int) := by omega
    simp only [w22_11, W_seq, w22_5, Mem.next_bump, Nat.le_add_right, bump_bump, X_move, Nat.reduceLT, ev_T, lk_cons, Nat.reduceEqDiff, if_false, if_true, T_set, Nat.one_ne_zero, X_len EE_sym, len_slice und_47, okI_some, X_bin EE_sym (op := .lss) rfl, bin_lss, q1, decide_false, X_nil, thenQ_normal, W_cond, CDi_f, W_exit, thenQ_exit, roundQ_exit, blockQ_exit, w22_13, Nat.add_assoc, Nat.reduceAdd, X_assign, ev_const, W_ret, FinC_ret, resA_tmp, T_get, resA_nil, Option.map_some, oneOr1, true_and]
    exact TidyE.pure rfl fun _ _ => rfl
theorem same_nil : Con EE.P 22 [.slice none 0 0, .slice none 0 0] m (.bool true) m := by
  refine Con.of EE_ok fn22 (Nat.le_of_ble_eq_true rfl) Grow.rfl fun hm => ?_
  simp only [f22, enumV, Nat.zero_add, w22, W_seq, w22_0, Nat.le_refl, X_assign, ev_const, Nat.reduceLT, T_set, X_nil, thenQ_normal, w22_1, Mem.next_bump, Nat.le_add_right, bump_bump, Nat.reduceAdd, X_move, ev_T, lk_cons, Nat.reduceEqDiff, Nat.one_ne_zero, if_false, if_true, X_len EE_sym, len_slice und_47, Int.natCast_zero, okI_some, X_neq EE_sym, neq_int, decide_true, Bool.not_true, W_cond, CDi_f, W_skip, w22_4, W_block, w22_12, true_and]
  refine WX.loop_of (fun x t M => x = 0 ∧ t = T 26 [(5, In 0), (0, .slice none 0 0), (1, .slice none 0 0)] ∧ M = m.bump 7) ?_ (k := 0) (t1 := T 26 [(5, In 0), (0, .slice none 0 0), (1, .slice none 0 0)]) (View.temps ⟨rfl, rfl, rfl, trivial⟩) ⟨rfl, rfl, rfl⟩
  rintro x t M ⟨rfl, rfl, rfl⟩
  simp only [w22_11, W_seq, w22_5, Mem.next_bump, Nat.le_add_right, bump_bump, Nat.reduceAdd, X_move, Nat.reduceLT, ev_T, lk_cons, Nat.reduceEqDiff, if_false, if_true, T_set, Nat.one_ne_zero, X_len EE_sym, len_slice und_47, Int.natCast_zero, okI_some, X_bin EE_sym (op := .lss) rfl, bin_lss, Int.reduceLT, decide_false, X_nil, thenQ_normal, W_cond, CDi_f, W_exit, thenQ_exit, roundQ_exit, blockQ_exit, w22_13, X_assign, ev_const, W_ret, FinC_ret, resA_tmp, T_get, resA_nil, Option.map_some, oneOr1, true_and]
  exact TidyE.pure rfl fun _ _ => rfl
/-! how many are free -/
theorem free_ok {b sz : Nat} {s : FS} (hb : FAt m b sz s) : Con EE.P 20 [PT b] m (In (64 - (usedL s 64).length)) m := by
  refine Con.of EE_ok fn20 (Nat.le_of_ble_eq_true rfl) Grow.rfl fun hm => ?_
  have := usedL_len s 64
  have hw : IntKind.i64.wrap (64 - ((usedL s 64).length : Int)) = 64 - (usedL s 64).length := wrap_i64 (by omega) (by omega)
  by_cases hu : usedL s 64 = []
  · simp only [f20, enumV, w20, W_seq, w20_0, Nat.le_refl, X_assign, ev_const, Nat.reduceLT, T_set, X_nil, thenQ_normal, w20_1, Mem.next_bump, Nat.le_add_right, bump_bump, Nat.reduceAdd, X_move, ev_T, lk_cons, Nat.reduceEqDiff, if_true, if_false, X_eql EE_sym, eq_ptr_nil und_26, okI_some, W_cond, CDi_f, W_skip, w20_4, X_call ca_19, List.map_cons, List.map_nil, true_and]
    refine CallI.con0 (used_none (sz := sz) (s := s) (by simp only [FAt, Mem.get_bump, hb]) hu) ?_
    simp only [putT, Nat.reduceLT, T_set, X_len EE_sym, ev_T, lk_cons, Nat.reduceEqDiff, if_false, if_true, len_slice und_47, okI_some, X_bin EE_sym (op := .sub) rfl, ev_const, bin_sub, X_assign, X_nil, hu, List.length_nil, thenQ_normal, W_ret, FinC_ret, resA_tmp, T_get, resA_nil, Option.map_some, oneOr1]
    exact TidyE.pure rfl fun _ _ => rfl
  · simp only [f20, enumV, w20, W_seq, w20_0, Nat.le_refl, X_assign, ev_const, Nat.reduceLT, T_set, X_nil, thenQ_normal, w20_1, Mem.next_bump, Nat.le_add_right, bump_bump, Nat.reduceAdd, X_move, ev_T, lk_cons, Nat.reduceEqDiff, if_true, if_false, X_eql EE_sym, eq_ptr_nil und_26, okI_some, W_cond, CDi_f, W_skip, w20_4, X_call ca_19, List.map_cons, List.map_nil, true_and]
    refine CallI.con0 (used_some (sz := sz) (s := s) (by simp only [FAt, Mem.get_bump, hb]) hu) ?_
    simp only [Mem.next_bump, put_bump, bump_bump, Nat.reduceAdd, putT, Nat.reduceLT, T_set, X_len EE_sym, ev_T, lk_cons, Nat.reduceEqDiff, if_false, if_true, len_slice und_47, okI_some, X_bin EE_sym (op := .sub) rfl, ev_const, bin_sub, hw, X_assign, X_nil, thenQ_normal, W_ret, FinC_ret, resA_tmp, T_get, resA_nil, Option.map_some, oneOr1]
    exact TidyE.pure rfl fun k hk => by simp only [Mem.get_bump, Mem.get_put, ne_new hk, if_false]
end
end
end Go.Ab
