/- Files: the document's answer, further calls. -/
import Derived.Test.YthidhnbniklhmaaFiE
namespace Go.Ab
open Go.Proofs
noncomputable section
set_option maxHeartbeats 1000000
section
variable {m : Mem} {b sz : Nat} {s : FS} {n : Int}
theorem wopen_bad {p : Int} {w : Bool} (h : p < 0 ∨ 16 ≤ p) : Con EE.P 36 [PT b, .agg [In p, .bool w].toArray] m (.tuple [In 0, In 2].toArray) m := by
  refine Con.of EE_ok fn36 (Nat.le_of_ble_eq_true rfl) Grow.rfl fun hm => ?_
  by_cases h1 : p < 0
  · simp only [f36, enumV, Nat.zero_add, w36, W_seq, w36_0, Nat.le_refl, X_box, Nat.reduceLT, ev_T, lk_cons, Nat.reduceEqDiff, if_true, if_false, box_agg, okI_some, Nat.add_zero, T_set, put_bump, X_assign, ev_const, X_nil, thenQ_normal, w36_1, Mem.next_bump, Mem.next_put, Nat.le_add_right, bump_bump, Nat.reduceAdd, X_fieldAddr EE_sym fo_34_0, offV_ptr, X_load EE_sym, load1 lay_3, Mem.get_bump, Mem.get_put, ld1_cells, nth_ofList, List.getElem?_cons_zero, X_bin EE_sym (op := .lss) rfl, bin_lss, h1, decide_true, X_move, X_guard EE_sym, T_get, GDi_tf, putT, X_pick EE_sym, pickV_bool, W_cond, CDi_t, w36_3, w36_2, W_ret, thenQ_ret, FinC_ret, resA_tmp, resA_nil, Option.map_some, oneOr2, true_and]
    exact TidyE.pure rfl fun k hk => by simp only [Mem.get_bump, Mem.get_put, ne_new0 hk, if_false]
  · have h2 : 15 < p := by omega
    simp only [f36, enumV, Nat.zero_add, w36, W_seq, w36_0, Nat.le_refl, X_box, Nat.reduceLT, ev_T, lk_cons, Nat.reduceEqDiff, if_true, if_false, box_agg, okI_some, Nat.add_zero, T_set, put_bump, X_assign, ev_const, X_nil, thenQ_normal, w36_1, Mem.next_bump, Mem.next_put, Nat.le_add_right, bump_bump, Nat.reduceAdd, X_fieldAddr EE_sym fo_34_0, offV_ptr, X_load EE_sym, load1 lay_3, Mem.get_bump, Mem.get_put, ld1_cells, nth_ofList, List.getElem?_cons_zero, X_bin EE_sym (op := .lss) rfl, bin_lss, h1, decide_false, X_move, X_guard EE_sym, T_get, GDi_ff, X_bin EE_sym (op := .gtr) rfl, bin_gtr, h2, decide_true, X_pick EE_sym, pickV_bool, Bool.false_eq_true, W_cond, CDi_t, w36_3, w36_2, W_ret, thenQ_ret, FinC_ret, resA_tmp, resA_nil, Option.map_some, oneOr2, true_and]
    exact TidyE.pure rfl fun k hk => by simp only [Mem.get_bump, Mem.get_put, ne_new0 hk, if_false]
theorem wopen_full {p : Int} {w : Bool} (hb : WAt m b sz s) (h1 : 0 ≤ p) (h2 : p < 16) (h : ∀ k, k < 64 → s.r k ≠ 0) : Con EE.P 36 [PT b, .agg [In p, .bool w].toArray] m (.tuple [In 0, In 100].toArray) m := by
  refine Con.of EE_ok fn36 (Nat.le_of_ble_eq_true rfl) Grow.rfl fun hm => ?_
  have h3 : ¬ p < 0 := by omega
  have h4 : ¬ 15 < p := by omega
  have hn0 := hm.ne0 hb
  simp only [f36, enumV, Nat.zero_add, w36, W_seq, w36_0, Nat.le_refl, X_box, Nat.reduceLT, ev_T, lk_cons, Nat.reduceEqDiff, if_true, if_false, box_agg, okI_some, Nat.add_zero, T_set, put_bump, X_assign, ev_const, X_nil, thenQ_normal, w36_1, Mem.next_bump, Mem.next_put, Nat.le_add_right, bump_bump, Nat.reduceAdd, X_fieldAddr EE_sym fo_34_0, offV_ptr, X_load EE_sym, load1 lay_3, Mem.get_bump, Mem.get_put, ld1_cells, nth_ofList, List.getElem?_cons_zero, X_bin EE_sym (op := .lss) rfl, bin_lss, h3, decide_false, X_move, X_guard EE_sym, T_get, GDi_ff, X_bin EE_sym (op := .gtr) rfl, bin_gtr, h4, X_pick EE_sym, pickV_bool, Bool.false_eq_true, W_cond, CDi_f, W_skip, w36_4, W_block, w36_14, true_and]
  refine WX.loop_of (fun k t m' => ∃ i j : Nat, i ≤ 64 ∧ k = 64 - i ∧ t = T 38 [(6, In i), (3, PT m.next), (0, PT b)] ∧ m' = (m.put m.next (.cells (Cells.ofList [In p, .bool w]) true 0)).bump j) ?_ (k := 64) (t1 := T 38 [(6, In (0 : Nat)), (3, PT m.next), (0, PT b)]) (View.temps ?_) ⟨0, 12, by omega, rfl, rfl, rfl⟩
  · rintro k t m' ⟨i, j, hi, rfl, rfl, rfl⟩
    by_cases hi2 : i < 64
    · have g1 : (i : Int) < 64 := by omega
      have g2 : (0 : Int) ≤ i := by omega
      have g3 : (i : Int) < ((64 : Nat) : Int) := g1
      have g4 := h i hi2
      have hw : IntKind.i64.wrap ((i : Int) + 1) = ((i + 1 : Nat) : Int) := by rw [wrap_i64 (by omega) (by omega)]; omega
      simp only [w36_13, W_seq, w36_5, Mem.next_bump, Mem.next_put, Nat.le_add_right, bump_bump, X_move, Nat.reduceLT, ev_T, lk_cons, Nat.reduceEqDiff, if_false, if_true, T_set, X_bin EE_sym (op := .lss) rfl, ev_const, bin_lss, g1, decide_true, okI_some, X_nil, thenQ_normal, W_cond, CDi_t, W_skip, W_block, w36_11, w36_6, Nat.add_assoc, Nat.reduceAdd, X_nilCheck EE_sym, nilV_ptr, X_fieldAddr EE_sym fo_65_1, offV_ptr, Nat.zero_add, X_indexAddr EE_sym, g2, g3, idxV_arr und_63 sz_3, Int.toNat_natCast, Nat.mul_one, X_load EE_sym, load1 lay_3, Mem.get_bump, Mem.get_put, hn0, hb, ld1_cells, wC_r hi2, X_eql EE_sym, eq_int, g4, decide_false, CDi_f, blockQ_normal, w36_12, X_bin EE_sym (op := .add) rfl, bin_add, hw, X_assign, roundQ_normal, true_and]
      exact ⟨64 - (i + 1), _, _, by omega, View.temps (l' := [(6, In ((i + 1 : Nat) : Int)), (3, PT m.next), (0, PT b)]) ⟨rfl, rfl, rfl, trivial⟩, i + 1, _, by omega, rfl, rfl, rfl⟩
    · have g1 : ¬ (i : Int) < 64 := by omega
      simp only [w36_13, W_seq, w36_5, Mem.next_bump, Mem.next_put, Nat.le_add_right, bump_bump, X_move, Nat.reduceLT, ev_T, lk_cons, Nat.reduceEqDiff, if_false, if_true, T_set, X_bin EE_sym (op := .lss) rfl, ev_const, bin_lss, g1, decide_false, okI_some, X_nil, thenQ_normal, W_cond, CDi_f, W_exit, thenQ_exit, roundQ_exit, blockQ_exit, w36_15, Nat.add_assoc, Nat.reduceAdd, X_assign, W_ret, FinC_ret, resA_tmp, T_get, resA_nil, Option.map_some, oneOr2, true_and]
      exact TidyE.pure rfl fun k hk => by simp only [Mem.get_bump, Mem.get_put, ne_new0 hk, if_false]
  · exact ⟨rfl, rfl, rfl, trivial⟩
theorem wC_set {s : FS} {k : Nat} {p : Int} {w : Bool} {r : Int} (hk : k < 64) {i : Nat} (hi : i < 192) : (((wC s).write (k * 2) [.int .i64 p, .bool w]).write (128 + k) [.int .i64 r]).get i = (wC (s.set k p w r)).get i := by
  have e : (wC ((s.setX k p w).setR k r)).get i = (wC (s.set k p w r)).get i := rfl
  rw [← e, ← wC_setR hk hi, get_write, get_write (c := wC (s.setX k p w)), wC_setX hk hi]
theorem wopen_at {p : Int} {w : Bool} {k : Nat} (hb : WAt m b sz s) (h1 : 0 ≤ p) (h2 : p < 16) (hk : k < 64) (h0 : s.r k = 0) (h : ∀ j, j < k → s.r j ≠ 0) : Con EE.P 36 [PT b, .agg [In p, .bool w].toArray] m (.tuple [In k, In 0].toArray) (m.put b (.cells (wC (s.set k p w 1)) true sz)) := by
  refine Con.of EE_ok fn36 (Nat.le_of_ble_eq_true rfl) (Grow.put hb) fun hm => ?_
  have h3 : ¬ p < 0 := by omega
  have h4 : ¬ 15 < p := by omega
  have hn0 := hm.ne0 hb
  simp only [f36, enumV, Nat.zero_add, w36, W_seq, w36_0, Nat.le_refl, X_box, Nat.reduceLT, ev_T, lk_cons, Nat.reduceEqDiff, if_true, if_false, box_agg, okI_some, Nat.add_zero, T_set, put_bump, X_assign, ev_const, X_nil, thenQ_normal, w36_1, Mem.next_bump, Mem.next_put, Nat.le_add_right, bump_bump, Nat.reduceAdd, X_fieldAddr EE_sym fo_34_0, offV_ptr, X_load EE_sym, load1 lay_3, Mem.get_bump, Mem.get_put, ld1_cells, nth_ofList, List.getElem?_cons_zero, X_bin EE_sym (op := .lss) rfl, bin_lss, h3, decide_false, X_move, X_guard EE_sym, T_get, GDi_ff, X_bin EE_sym (op := .gtr) rfl, bin_gtr, h4, X_pick EE_sym, pickV_bool, Bool.false_eq_true, W_cond, CDi_f, W_skip, w36_4, W_block, w36_14, true_and]
  refine WX.loop_of (fun x t m' => ∃ i j : Nat, i ≤ k ∧ x = 64 - i ∧ t = T 38 [(6, In i), (3, PT m.next), (0, PT b)] ∧ m' = (m.put m.next (.cells (Cells.ofList [In p, .bool w]) true 0)).bump j) ?_ (k := 64) (t1 := T 38 [(6, In (0 : Nat)), (3, PT m.next), (0, PT b)]) (View.temps ?_) ⟨0, 12, by omega, rfl, rfl, rfl⟩
  · rintro x t m' ⟨i, j, hi, rfl, rfl, rfl⟩
    have g1 : (i : Int) < 64 := by omega
    have g2 : (0 : Int) ≤ i := by omega
    have g3 : (i : Int) < ((64 : Nat) : Int) := g1
    have hi2 : i < 64 := by omega
    by_cases hik : i = k
    · subst hik
      have hl : i * 2 + 2 ≤ 192 := by omega
      have hl2 : 128 + (i + 1) ≤ 192 := by omega
      have hx : (Cells.ofList [In p, .bool w]).sub 0 2 = some [In p, .bool w] := sub_ofList (l := [In p, .bool w]) (Nat.le_refl _)
      have hnx : ¬ m.next = b := fun e => hn0 e.symm
      simp only [w36_13, W_seq, w36_5, Mem.next_bump, Mem.next_put, Nat.le_add_right, bump_bump, X_move, Nat.reduceLT, ev_T, lk_cons, Nat.reduceEqDiff, if_false, if_true, T_set, X_bin EE_sym (op := .lss) rfl, ev_const, bin_lss, g1, decide_true, okI_some, X_nil, thenQ_normal, W_cond, CDi_t, W_skip, W_block, w36_11, w36_6, Nat.add_assoc, Nat.reduceAdd, X_nilCheck EE_sym, nilV_ptr, X_fieldAddr EE_sym fo_65_1, offV_ptr, Nat.zero_add, X_indexAddr EE_sym, g2, g3, idxV_arr und_63 sz_3, Int.toNat_natCast, Nat.mul_one, X_load EE_sym, load1 lay_3, Mem.get_bump, Mem.get_put, hn0, hb, ld1_cells, wC_r hi2, h0, X_eql EE_sym, eq_int, w36_10, w36_7, loadN lay_34, ldN_cells, hx, Option.map_some, X_fieldAddr EE_sym fo_65_0, Nat.add_zero, idxV_arr und_62 sz_34, X_store, store1 sz_34, cells_agg, st1_cells, List.length_cons, List.length_nil, wC_n, hl, List.all_cons, oneCell, List.all_nil, Bool.and_self, and_self, put_bump, w36_8, store1 sz_3, cells_int, write_n, hl2, w36_9, X_assign, W_ret, blockQ_ret, thenQ_ret, roundQ_ret, FinC_ret, resA_tmp, T_get, resA_nil, oneOr2, true_and]
      refine TidyE.put (c1 := ((wC s).write (i * 2) [In p, .bool w]).write (128 + i) [In 1]) rfl hm hb (by simp only [Mem.get_bump, Mem.get_put, if_true]) (by simp only [write_n, wC_n]) (fun x hx => ?_) fun k hk hkb => by simp only [Mem.get_bump, Mem.get_put, hkb, ne_new0 hk, if_false]
      simp only [write_n, wC_n] at hx
      exact ⟨by rw [wC_get hx]; exact wcell_plain, wC_set hi2 hx⟩
    · have g4 := h i (by omega)
      have hw : IntKind.i64.wrap ((i : Int) + 1) = ((i + 1 : Nat) : Int) := by rw [wrap_i64 (by omega) (by omega)]; omega
      simp only [w36_13, W_seq, w36_5, Mem.next_bump, Mem.next_put, Nat.le_add_right, bump_bump, X_move, Nat.reduceLT, ev_T, lk_cons, Nat.reduceEqDiff, if_false, if_true, T_set, X_bin EE_sym (op := .lss) rfl, ev_const, bin_lss, g1, decide_true, okI_some, X_nil, thenQ_normal, W_cond, CDi_t, W_skip, W_block, w36_11, w36_6, Nat.add_assoc, Nat.reduceAdd, X_nilCheck EE_sym, nilV_ptr, X_fieldAddr EE_sym fo_65_1, offV_ptr, Nat.zero_add, X_indexAddr EE_sym, g2, g3, idxV_arr und_63 sz_3, Int.toNat_natCast, Nat.mul_one, X_load EE_sym, load1 lay_3, Mem.get_bump, Mem.get_put, hn0, hb, ld1_cells, wC_r hi2, X_eql EE_sym, eq_int, g4, decide_false, CDi_f, blockQ_normal, w36_12, X_bin EE_sym (op := .add) rfl, bin_add, hw, X_assign, roundQ_normal, true_and]
      exact ⟨64 - (i + 1), _, _, by omega, View.temps (l' := [(6, In ((i + 1 : Nat) : Int)), (3, PT m.next), (0, PT b)]) ⟨rfl, rfl, rfl, trivial⟩, i + 1, _, by omega, rfl, rfl, rfl⟩
  · exact ⟨rfl, rfl, rfl, trivial⟩
def uL (s : FS) (i : Nat) : List Value := (usedL s i).map fun k : Nat => In k
theorem uL_plain {s : FS} {i : Nat} : ∀ x ∈ uL s i, plain x = true := fun x hx => by
  obtain ⟨k, _, rfl⟩ := List.mem_map.1 hx
  rfl
theorem wused_loop {m : Mem} {v : Value} {m' : Mem} (hg : Grow m m') (hb : WAt m b sz s) (hr : ROk s) (hF : ∀ M v1, Fresh m → GrowC M m.next 1 (uL s 64) (usedL s 64).length v1 → (∀ y, y < m.next → M.get y = m.get y) → TidyE m M v1 v m') : Con EE.P 31 [PT b] m v m' := by
  refine Con.of EE_ok fn31 (Nat.le_of_ble_eq_true rfl) hg fun hm => ?_
  simp only [f31, enumV, w31, W_seq, w31_0, Nat.le_refl, X_assign, ev_const, Nat.reduceLT, T_set, X_nil, thenQ_normal, w31_1, Mem.next_bump, Nat.le_add_right, bump_bump, Nat.reduceAdd, w31_2, W_block, w31_10, true_and]
  refine WX.loop_of (fun x t M => ∃ (i : Nat) (v : Value), i ≤ 64 ∧ x = 64 - i ∧ t = T 21 [(4, In i), (3, v), (0, PT b)] ∧ GrowC M m.next 1 (uL s i) (usedL s i).length v ∧ m.next ≤ M.next ∧ ∀ y, y < m.next → M.get y = m.get y) ?_ (k := 64) (t1 := T 21 [(4, In (0 : Nat)), (3, .slice none 0 0), (0, PT b)]) (View.temps ⟨rfl, rfl, rfl, trivial⟩) ⟨0, _, by omega, rfl, rfl, GrowC.nil, by simp, fun _ _ => rfl⟩
  rintro x t M ⟨i, v, hi, rfl, rfl, hG, hnx, hold⟩
  by_cases hi2 : i < 64
  · have g1 : (i : Int) < 64 := by omega
    have g2 : (0 : Int) ≤ i := by omega
    have g3 : (i : Int) < ((64 : Nat) : Int) := g1
    have hbM : WAt M b sz s := by rw [WAt, hold b (hm.lt hb)]; exact hb
    have hw : IntKind.i64.wrap ((i : Int) + 1) = ((i + 1 : Nat) : Int) := by rw [wrap_i64 (by omega) (by omega)]; omega
    by_cases h4 : s.r i = 0
    · have g4 : ¬ 0 < s.r i := by omega
      simp only [w31_9, W_seq, w31_3, hnx, X_move, Nat.reduceLT, ev_T, lk_cons, Nat.reduceEqDiff, if_false, if_true, T_set, X_bin EE_sym (op := .lss) rfl, ev_const, bin_lss, g1, decide_true, okI_some, X_nil, thenQ_normal, W_cond, CDi_t, W_skip, W_block, w31_7, w31_4, Mem.next_bump, Nat.le_add_right_of_le, bump_bump, Nat.reduceAdd, X_nilCheck EE_sym, nilV_ptr, X_fieldAddr EE_sym fo_65_1, offV_ptr, Nat.zero_add, X_indexAddr EE_sym, g2, g3, idxV_arr und_63 sz_3, Int.toNat_natCast, Nat.mul_one, X_load EE_sym, load1 lay_3, Mem.get_bump, hbM, ld1_cells, wC_r hi2, X_bin EE_sym (op := .gtr) rfl, bin_gtr, g4, decide_false, CDi_f, blockQ_normal, w31_8, X_bin EE_sym (op := .add) rfl, bin_add, hw, X_assign, roundQ_normal, true_and]
      refine ⟨64 - (i + 1), _, _, by omega, View.temps (l' := [(4, In ((i + 1 : Nat) : Int)), (3, v), (0, PT b)]) ⟨rfl, rfl, rfl, trivial⟩, i + 1, v, by omega, rfl, rfl, (hG.bump _).congr ?_ ?_, by simp; omega, hold⟩
      · unfold uL; rw [usedL_succ, if_neg (by simpa using h4), List.append_nil]
      · rw [usedL_succ, if_neg (by simpa using h4), List.append_nil]
    · have g4 : 0 < s.r i := by have := hr i; omega
      simp only [w31_9, W_seq, w31_3, hnx, X_move, Nat.reduceLT, ev_T, lk_cons, Nat.reduceEqDiff, if_false, if_true, T_set, X_bin EE_sym (op := .lss) rfl, ev_const, bin_lss, g1, decide_true, okI_some, X_nil, thenQ_normal, W_cond, CDi_t, W_skip, W_block, w31_7, w31_4, Mem.next_bump, Nat.le_add_right_of_le, bump_bump, Nat.reduceAdd, X_nilCheck EE_sym, nilV_ptr, X_fieldAddr EE_sym fo_65_1, offV_ptr, Nat.zero_add, X_indexAddr EE_sym, g2, g3, idxV_arr und_63 sz_3, Int.toNat_natCast, Nat.mul_one, X_load EE_sym, load1 lay_3, Mem.get_bump, hbM, ld1_cells, wC_r hi2, X_bin EE_sym (op := .gtr) rfl, bin_gtr, g4, w31_6, w31_5, X_bs, List.map_cons, List.map_nil, bs47, Nat.add_assoc, put_bump, X_append, true_and]
      have := usedL_len s i
      refine okI_append (n0 := m.next) (fl := uL s i) (n := (usedL s i).length) (new := [In i]) (k := 1) eo47 ((hG.put_new (.inl (by omega))).bump _) (src_put rfl) (by decide) rfl rfl (by omega) (by simp) (by omega) fun v' M' h1 h2 h3 h4x h5 => ?_
      have h3x : M'.next = _ := h3
      simp only [Mem.next_bump, Mem.next_put] at h3x
      simp only [Nat.reduceLT, T_set, X_assign, ev_T, lk_cons, Nat.reduceEqDiff, if_false, if_true, X_nil, blockQ_normal, thenQ_normal, w31_8, h3x, hnx, Nat.le_add_right_of_le, X_move, X_bin EE_sym (op := .add) rfl, ev_const, bin_add, hw, okI_some, roundQ_normal, true_and]
      refine ⟨64 - (i + 1), _, _, by omega, View.temps (l' := [(4, In ((i + 1 : Nat) : Int)), (3, v'), (0, PT b)]) ⟨rfl, rfl, rfl, trivial⟩, i + 1, v', by omega, rfl, rfl, (h1.bump _).congr ?_ ?_, by simp; omega, fun y hy => ?_⟩
      · unfold uL; rw [usedL_succ, if_pos (by simpa using h4), List.map_append]; rfl
      · rw [usedL_succ, if_pos (by simpa using h4), List.length_append]; rfl
      · rw [Mem.get_bump, h2 y hy, Mem.get_bump, Mem.get_put, if_neg (by omega), hold y hy]
  · have g1 : ¬ (i : Int) < 64 := by omega
    have hi3 : i = 64 := by omega
    subst hi3
    simp only [w31_9, W_seq, w31_3, hnx, X_move, Nat.reduceLT, ev_T, lk_cons, Nat.reduceEqDiff, if_false, if_true, T_set, X_bin EE_sym (op := .lss) rfl, ev_const, bin_lss, g1, decide_false, okI_some, X_nil, Nat.reduceSub, thenQ_normal, W_cond, CDi_f, W_exit, thenQ_exit, roundQ_exit, blockQ_exit, w31_11, Mem.next_bump, Nat.le_add_right_of_le, bump_bump, Nat.reduceAdd, X_assign, W_ret, FinC_ret, resA_tmp, T_get, resA_nil, Option.map_some, oneOr1, true_and]
    exact hF _ _ hm (hG.bump _) hold
theorem wused_none (hb : WAt m b sz s) (hr : ROk s) (hu : usedL s 64 = []) : Con EE.P 31 [PT b] m (.slice none 0 0) m :=
  wused_loop Grow.rfl hb hr fun M v1 hm h1 h2 => TidyE.slice0 (h1.congr rfl (by rw [hu]; rfl)) h2
theorem wused_some (hb : WAt m b sz s) (hr : ROk s) (hu : usedL s 64 ≠ []) : Con EE.P 31 [PT b] m (.slice (some ⟨m.next, 0, none⟩) (usedL s 64).length (usedL s 64).length) ((m.put m.next (.cells (Cells.ofList (uL s 64)) true 1)).bump 1) :=
  wused_loop Grow.new hb hr fun M v1 hm h1 h2 => TidyE.slice h1 (fun e => hu (List.length_eq_zero_iff.1 e)) uL_plain h2
end
end
end Go.Ab
