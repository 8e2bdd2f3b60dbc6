/- Files: how many descriptors are not free. -/
import Derived.Test.YthidhnbniklhmaaFiG
namespace Go.Ab
open Go.Proofs
noncomputable section
set_option maxHeartbeats 1000000
theorem ca_45 : callable EE.P 45 = true := by kernel_rfl
theorem z3 : zeroOf EE.P 3 = some (.int .i64 0) := by kernel_rfl
/-- The descriptors that are not free, among the first ones. -/
def keptL (d : Nat → Int) (j : Nat) : List Nat := (List.range j).filter fun k => decide (d k ≠ 0)
theorem keptL_succ (d : Nat → Int) (j : Nat) : keptL d (j + 1) = keptL d j ++ (if d j ≠ 0 then [j] else []) := by
  unfold keptL
  rw [List.range_succ, List.filter_append]
  congr 1
  by_cases h : d j = 0 <;> simp [h]
theorem keptL_len (d : Nat → Int) (j : Nat) : (keptL d j).length ≤ j := Nat.le_trans (List.length_filter_le _ _) (by simp)
theorem keptL_all {d : Nat → Int} {j : Nat} (h : ∀ k, k < j → d k ≠ 0) : keptL d j = List.range j := by
  unfold keptL
  exact List.filter_eq_self.2 fun k hk => by simpa using h k (List.mem_range.1 hk)
section
variable {m : Mem} {d : Nat → Int} {n : Int}
theorem del_yes (h : n < 0) : Con EE.P 45 [In n] m (.bool true) m := by
  refine Con.of EE_ok fn45 (Nat.le_of_ble_eq_true rfl) Grow.rfl fun hm => ?_
  simp only [f45, enumV, w45, W_seq, w45_0, Nat.le_refl, X_assign, ev_const, Nat.reduceLT, T_set, X_nil, thenQ_normal, w45_1, Mem.next_bump, Nat.le_add_right, bump_bump, Nat.reduceAdd, X_move, ev_T, lk_cons, Nat.reduceEqDiff, if_true, if_false, X_bin EE_sym (op := .lss) rfl, bin_lss, h, decide_true, okI_some, W_ret, FinC_ret, resA_tmp, T_get, resA_nil, Option.map_some, oneOr1, true_and]
  exact TidyE.pure rfl fun _ _ => rfl
theorem del_no (h : ¬ n < 0) : Con EE.P 45 [In n] m (.bool false) m := by
  refine Con.of EE_ok fn45 (Nat.le_of_ble_eq_true rfl) Grow.rfl fun hm => ?_
  simp only [f45, enumV, w45, W_seq, w45_0, Nat.le_refl, X_assign, ev_const, Nat.reduceLT, T_set, X_nil, thenQ_normal, w45_1, Mem.next_bump, Nat.le_add_right, bump_bump, Nat.reduceAdd, X_move, ev_T, lk_cons, Nat.reduceEqDiff, if_true, if_false, X_bin EE_sym (op := .lss) rfl, bin_lss, h, decide_false, okI_some, W_ret, FinC_ret, resA_tmp, T_get, resA_nil, Option.map_some, oneOr1, true_and]
  exact TidyE.pure rfl fun _ _ => rfl
abbrev F45 : Value := .func (.func 45) [].toArray [].toArray
theorem ixf_at {N c z k : Nat} {w : Bool} {cs : Cells} (hN : m.get N = some (.cells cs w z)) (hc : ∀ j, j < 8 → cs.nth j = some (In (d j - 1))) (hd : DOk d) (hk : k < 8) (h1 : d k = 0) (h2 : ∀ j, j < k → d j ≠ 0) :
    Con EE.P 50 [.slice (some ⟨N, 0, none⟩) 8 c, F45] m (In k) m := by
  refine Con.of EE_ok fn50 (Nat.le_of_ble_eq_true rfl) Grow.rfl fun hm => ?_
  simp only [f50, enumV, Nat.zero_add, w50, W_seq, w50_0, Nat.le_refl, X_assign, ev_const, Nat.reduceLT, T_set, X_nil, thenQ_normal, w50_1, Mem.next_bump, Nat.le_add_right, bump_bump, Nat.reduceAdd, X_move, ev_T, lk_cons, Nat.reduceEqDiff, Nat.one_ne_zero, if_false, if_true, X_len EE_sym, len_slice und_47, okI_some, W_block, w50_10, true_and]
  refine WX.loop_of (fun x t M => ∃ i j : Nat, i ≤ k ∧ x = 8 - i ∧ t = T 19 [(8, In i), (7, In 8), (0, .slice (some ⟨N, 0, none⟩) 8 c), (1, F45)] ∧ M = m.bump j) ?_ (k := 8) (t1 := T 19 [(8, In (0 : Nat)), (7, In 8), (0, .slice (some ⟨N, 0, none⟩) 8 c), (1, F45)]) (View.temps ⟨rfl, rfl, rfl, rfl, trivial⟩) ⟨0, _, by omega, rfl, rfl, rfl⟩
  rintro x t M ⟨i, j, hi, rfl, rfl, rfl⟩
  have g1 : (i : Int) < 8 := by omega
  have g1x : (i : Int) < ((8 : Nat) : Int) := by omega
  have g2 : (0 : Int) ≤ i := by omega
  have g3 := hc i (by omega)
  have hw : IntKind.i64.wrap ((i : Int) + 1) = ((i + 1 : Nat) : Int) := by rw [wrap_i64 (by omega) (by omega)]; omega
  by_cases hik : i = k
  · subst hik
    simp only [w50_9, W_seq, w50_2, Mem.next_bump, Nat.le_add_right, bump_bump, X_bin EE_sym (op := .lss) rfl, Nat.reduceLT, ev_T, lk_cons, Nat.reduceEqDiff, if_false, if_true, bin_lss, g1, decide_true, okI_some, T_set, X_nil, thenQ_normal, W_cond, CDi_t, W_skip, W_block, w50_7, w50_3, Nat.add_assoc, Nat.reduceAdd, X_move, X_assign, w50_4, Nat.one_ne_zero, X_indexAddr EE_sym, g2, g1x, idxV_slice und_47 sz_3, Int.toNat_natCast, Nat.mul_one, Nat.zero_add, X_load EE_sym, load1 lay_3, Mem.get_bump, hN, ld1_cells, g3, h1, fnV_f, Option.isSome_some, Option.getD_some, ca_45, X_callf, List.toList_toArray, List.map_cons, List.map_nil, List.nil_append, List.append_nil, true_and]
    refine CallI.con0 (del_yes (by decide)) ?_
    simp only [putT, Nat.reduceLT, T_set, X_nil, thenQ_normal, W_cond, ev_T, lk_cons, Nat.reduceEqDiff, if_false, if_true, CDi_t, w50_6, W_seq, w50_5, Mem.next_bump, Nat.le_add_right, bump_bump, Nat.add_assoc, Nat.reduceAdd, X_move, X_assign, W_ret, blockQ_ret, thenQ_ret, roundQ_ret, FinC_ret, resA_tmp, T_get, resA_nil, Option.map_some, okI_some, oneOr1, true_and]
    exact TidyE.pure rfl fun _ _ => rfl
  · have e1 := hd i
    have e2 := h2 i (by omega)
    simp only [w50_9, W_seq, w50_2, Mem.next_bump, Nat.le_add_right, bump_bump, X_bin EE_sym (op := .lss) rfl, Nat.reduceLT, ev_T, lk_cons, Nat.reduceEqDiff, if_false, if_true, bin_lss, g1, decide_true, okI_some, T_set, X_nil, thenQ_normal, W_cond, CDi_t, W_skip, W_block, w50_7, w50_3, Nat.add_assoc, Nat.reduceAdd, X_move, X_assign, w50_4, Nat.one_ne_zero, X_indexAddr EE_sym, g2, g1x, idxV_slice und_47 sz_3, Int.toNat_natCast, Nat.mul_one, Nat.zero_add, X_load EE_sym, load1 lay_3, Mem.get_bump, hN, ld1_cells, g3, fnV_f, Option.isSome_some, Option.getD_some, ca_45, X_callf, List.toList_toArray, List.map_cons, List.map_nil, List.nil_append, List.append_nil, true_and]
    refine CallI.con0 (del_no (by omega)) ?_
    simp only [putT, Nat.reduceLT, T_set, X_nil, thenQ_normal, W_cond, ev_T, lk_cons, Nat.reduceEqDiff, if_false, if_true, CDi_f, W_skip, blockQ_normal, w50_8, Mem.next_bump, Nat.le_add_right, bump_bump, Nat.add_assoc, Nat.reduceAdd, X_bin EE_sym (op := .add) rfl, ev_const, bin_add, hw, okI_some, X_move, roundQ_normal, true_and]
    exact ⟨8 - (i + 1), _, _, by omega, View.temps (l' := [(8, In ((i + 1 : Nat) : Int)), (7, In 8), (0, .slice (some ⟨N, 0, none⟩) 8 c), (1, F45)]) ⟨rfl, rfl, rfl, rfl, trivial⟩, i + 1, _, by omega, rfl, rfl, rfl⟩
theorem ixf_none {N c z : Nat} {w : Bool} {cs : Cells} (hN : m.get N = some (.cells cs w z)) (hc : ∀ j, j < 8 → cs.nth j = some (In (d j - 1))) (hd : DOk d) (h2 : ∀ j, j < 8 → d j ≠ 0) :
    Con EE.P 50 [.slice (some ⟨N, 0, none⟩) 8 c, F45] m (In (-1)) m := by
  refine Con.of EE_ok fn50 (Nat.le_of_ble_eq_true rfl) Grow.rfl fun hm => ?_
  simp only [f50, enumV, Nat.zero_add, w50, W_seq, w50_0, Nat.le_refl, X_assign, ev_const, Nat.reduceLT, T_set, X_nil, thenQ_normal, w50_1, Mem.next_bump, Nat.le_add_right, bump_bump, Nat.reduceAdd, X_move, ev_T, lk_cons, Nat.reduceEqDiff, Nat.one_ne_zero, if_false, if_true, X_len EE_sym, len_slice und_47, okI_some, W_block, w50_10, true_and]
  refine WX.loop_of (fun x t M => ∃ i j : Nat, i ≤ 8 ∧ x = 8 - i ∧ t = T 19 [(8, In i), (7, In 8), (0, .slice (some ⟨N, 0, none⟩) 8 c), (1, F45)] ∧ M = m.bump j) ?_ (k := 8) (t1 := T 19 [(8, In (0 : Nat)), (7, In 8), (0, .slice (some ⟨N, 0, none⟩) 8 c), (1, F45)]) (View.temps ⟨rfl, rfl, rfl, rfl, trivial⟩) ⟨0, _, by omega, rfl, rfl, rfl⟩
  rintro x t M ⟨i, j, hi, rfl, rfl, rfl⟩
  by_cases hi2 : i < 8
  · have g1 : (i : Int) < 8 := by omega
    have g1x : (i : Int) < ((8 : Nat) : Int) := by omega
    have g2 : (0 : Int) ≤ i := by omega
    have g3 := hc i (by omega)
    have hw : IntKind.i64.wrap ((i : Int) + 1) = ((i + 1 : Nat) : Int) := by rw [wrap_i64 (by omega) (by omega)]; omega
    have e1 := hd i
    have e2 := h2 i (by omega)
    simp only [w50_9, W_seq, w50_2, Mem.next_bump, Nat.le_add_right, bump_bump, X_bin EE_sym (op := .lss) rfl, Nat.reduceLT, ev_T, lk_cons, Nat.reduceEqDiff, if_false, if_true, bin_lss, g1, decide_true, okI_some, T_set, X_nil, thenQ_normal, W_cond, CDi_t, W_skip, W_block, w50_7, w50_3, Nat.add_assoc, Nat.reduceAdd, X_move, X_assign, w50_4, Nat.one_ne_zero, X_indexAddr EE_sym, g2, g1x, idxV_slice und_47 sz_3, Int.toNat_natCast, Nat.mul_one, Nat.zero_add, X_load EE_sym, load1 lay_3, Mem.get_bump, hN, ld1_cells, g3, fnV_f, Option.isSome_some, Option.getD_some, ca_45, X_callf, List.toList_toArray, List.map_cons, List.map_nil, List.nil_append, List.append_nil, true_and]
    refine CallI.con0 (del_no (by omega)) ?_
    simp only [putT, Nat.reduceLT, T_set, X_nil, thenQ_normal, W_cond, ev_T, lk_cons, Nat.reduceEqDiff, if_false, if_true, CDi_f, W_skip, blockQ_normal, w50_8, Mem.next_bump, Nat.le_add_right, bump_bump, Nat.add_assoc, Nat.reduceAdd, X_bin EE_sym (op := .add) rfl, ev_const, bin_add, hw, okI_some, X_move, roundQ_normal, true_and]
    exact ⟨8 - (i + 1), _, _, by omega, View.temps (l' := [(8, In ((i + 1 : Nat) : Int)), (7, In 8), (0, .slice (some ⟨N, 0, none⟩) 8 c), (1, F45)]) ⟨rfl, rfl, rfl, rfl, trivial⟩, i + 1, _, by omega, rfl, rfl, rfl⟩
  · have g1 : ¬ (i : Int) < 8 := by omega
    simp only [w50_9, W_seq, w50_2, Mem.next_bump, Nat.le_add_right, bump_bump, X_bin EE_sym (op := .lss) rfl, Nat.reduceLT, ev_T, lk_cons, Nat.reduceEqDiff, if_false, if_true, bin_lss, g1, decide_false, okI_some, T_set, X_nil, thenQ_normal, W_cond, CDi_f, W_exit, thenQ_exit, roundQ_exit, blockQ_exit, w50_11, Nat.add_assoc, Nat.reduceAdd, X_assign, ev_const, W_ret, FinC_ret, resA_tmp, T_get, resA_nil, Option.map_some, oneOr1, true_and]
    exact TidyE.pure rfl fun _ _ => rfl
theorem delf_none {N c z : Nat} {w : Bool} {cs : Cells} (hN : m.get N = some (.cells cs w z)) (hc : ∀ j, j < 8 → cs.nth j = some (In (d j - 1))) (hd : DOk d) (h2 : ∀ j, j < 8 → d j ≠ 0) (hc8 : c = 8) :
    Con EE.P 44 [.slice (some ⟨N, 0, none⟩) 8 c, F45] m (.slice (some ⟨N, 0, none⟩) 8 c) m := by
  subst hc8
  refine Con.of EE_ok fn44 (Nat.le_of_ble_eq_true rfl) Grow.rfl fun hm => ?_
  simp only [f44, enumV, Nat.zero_add, w44, W_seq, w44_0, Nat.le_refl, X_assign, ev_const, Nat.reduceLT, T_set, X_nil, thenQ_normal, w44_1, Mem.next_bump, Nat.le_add_right, bump_bump, Nat.reduceAdd, X_move, ev_T, lk_cons, Nat.reduceEqDiff, Nat.one_ne_zero, if_false, if_true, X_call ca_50, List.map_cons, List.map_nil, true_and]
  refine CallI.con0 (ixf_none (z := z) (w := w) (cs := cs) (by simp only [Mem.get_bump, hN]) hc hd h2) ?_
  simp only [putT, Nat.reduceLT, T_set, X_assign, ev_T, lk_cons, Nat.reduceEqDiff, if_false, if_true, X_nil, thenQ_normal, W_seq, w44_2, Mem.next_bump, Nat.le_add_right, bump_bump, Nat.reduceAdd, X_move, X_eql EE_sym, ev_const, eq_int, decide_true, okI_some, W_cond, CDi_t, w44_4, w44_3, Nat.one_ne_zero, W_ret, thenQ_ret, FinC_ret, resA_tmp, T_get, resA_nil, Option.map_some, oneOr1, true_and]
  exact tidy_pure (rv_slice (.inl ⟨rfl, hm.lt hN⟩)) fun _ _ => rfl
def resL (d : Nat → Int) : List Value := ((keptL d 8).map fun k => In (d k - 1)) ++ List.replicate (8 - (keptL d 8).length) (In 0)
theorem resL_len {d : Nat → Int} : (resL d).length = 8 := by
  have := keptL_len d 8
  simp [resL]; omega
/-- What lies there behind j of them. -/
def DelI (d : Nat → Int) (cN : Cells) (j : Nat) : Prop := cN.n = 8 ∧ ∀ x, x < 8 → cN.get x = if x < (keptL d j).length then In (d ((keptL d j).getD x 0) - 1) else In (d x - 1)
theorem DelI.skip {d : Nat → Int} {cN : Cells} {j : Nat} (h : DelI d cN j) (h0 : d j = 0) : DelI d cN (j + 1) := by
  have e : keptL d (j + 1) = keptL d j := by rw [keptL_succ, if_neg (by simpa using h0), List.append_nil]
  unfold DelI
  rw [e]
  exact h
theorem DelI.keep {d : Nat → Int} {cN : Cells} {j : Nat} (h : DelI d cN j) (h0 : d j ≠ 0) : DelI d (cN.write (keptL d j).length [In (d j - 1)]) (j + 1) := by
  have e : keptL d (j + 1) = keptL d j ++ [j] := by rw [keptL_succ, if_pos h0]
  obtain ⟨h1, h2⟩ := h
  refine ⟨h1, fun x hx => ?_⟩
  rw [get_write, h2 x hx, e, List.length_append]
  simp only [List.length_cons, List.length_nil]
  by_cases hh : x < (keptL d j).length
  · rw [if_neg (by omega), if_pos hh, if_pos (by omega)]
    simp only [List.getD_eq_getElem?_getD, List.getElem?_append_left hh]
  · by_cases hx2 : x = (keptL d j).length
    · subst hx2
      rw [if_pos (by omega), if_pos (by omega)]
      simp [List.getD_eq_getElem?_getD]
    · rw [if_neg (by omega), if_neg hh, if_neg (by omega)]
theorem delf_some {N z k : Nat} {cs : Cells} (hN : m.get N = some (.cells cs true z)) (hcn : cs.n = 8) (hc : ∀ j, j < 8 → cs.nth j = some (In (d j - 1))) (hd : DOk d) (hk : k < 8) (h1 : d k = 0) (h2 : ∀ j, j < k → d j ≠ 0) :
    Con EE.P 44 [.slice (some ⟨N, 0, none⟩) 8 8, F45] m (.slice (some ⟨N, 0, none⟩) (keptL d 8).length 8) (m.put N (.cells (Cells.ofList (resL d)) true z)) := by
  refine Con.of EE_ok fn44 (Nat.le_of_ble_eq_true rfl) (Grow.put hN) fun hm => ?_
  have hNl := hm.lt hN
  simp only [f44, enumV, Nat.zero_add, w44, W_seq, w44_0, Nat.le_refl, X_assign, ev_const, Nat.reduceLT, T_set, X_nil, thenQ_normal, w44_1, Mem.next_bump, Nat.le_add_right, bump_bump, Nat.reduceAdd, X_move, ev_T, lk_cons, Nat.reduceEqDiff, Nat.one_ne_zero, if_false, if_true, X_call ca_50, List.map_cons, List.map_nil, true_and]
  refine CallI.con0 (ixf_at (z := z) (w := true) (cs := cs) (by simp only [Mem.get_bump, hN]) hc hd hk h1 h2) ?_
  have q1 : ¬ (k : Int) = -1 := by omega
  have hw : IntKind.i64.wrap ((k : Int) + 1) = ((k + 1 : Nat) : Int) := by rw [wrap_i64 (by omega) (by omega)]; omega
  simp only [putT, Nat.reduceLT, T_set, X_assign, ev_T, lk_cons, Nat.reduceEqDiff, if_false, if_true, X_nil, thenQ_normal, W_seq, w44_2, Mem.next_bump, Nat.le_add_right, bump_bump, Nat.reduceAdd, X_move, X_eql EE_sym, ev_const, eq_int, q1, decide_false, okI_some, W_cond, CDi_f, W_skip, w44_5, X_bin EE_sym (op := .add) rfl, bin_add, hw, W_block, w44_15, true_and]
  have e0 : keptL d (k + 1) = List.range k := by rw [keptL_succ, if_neg (by simpa using h1), List.append_nil, keptL_all h2]
  have hcg : ∀ x, x < 8 → cs.get x = In (d x - 1) := fun x hx => by
    have := hc x hx
    rw [nth_lt (by rw [hcn]; exact hx)] at this
    exact Option.some.inj this
  refine WX.loop_of (fun x t M => ∃ (j : Nat) (cN : Cells), k + 1 ≤ j ∧ j ≤ 8 ∧ x = 8 - j ∧ t = T 42 [(5, In (keptL d j).length), (6, In j), (0, .slice (some ⟨N, 0, none⟩) 8 8), (1, F45)] ∧ m.next ≤ M.next ∧ M.get N = some (.cells cN true z) ∧ (∀ y, y < m.next → y ≠ N → M.get y = m.get y) ∧ DelI d cN j) ?_ (k := 8 - (k + 1)) (t1 := T 42 [(5, In k), (6, In (k + 1 : Nat)), (0, .slice (some ⟨N, 0, none⟩) 8 8), (1, F45)]) (View.temps ⟨rfl, rfl, rfl, rfl, trivial⟩) ⟨k + 1, cs, Nat.le_refl _, by omega, rfl, by rw [e0, List.length_range], by simp, hN, fun _ _ _ => rfl, hcn, fun x hx => ?_⟩
  · rintro x t M ⟨j, cN, hj0, hj, rfl, rfl, hnx, hNM, hold, hI⟩
    have hl := keptL_len d j
    have hlk : (keptL d j).length < j := by
      have e3 : ∀ j', k + 1 ≤ j' → (keptL d j').length < j' := by
        intro j' hj'
        induction j' with
        | zero => omega
        | succ j' ih =>
          rw [keptL_succ, List.length_append]
          by_cases hj2 : k + 1 ≤ j'
          · have := ih hj2
            split <;> simp <;> omega
          · have : j' = k := by omega
            subst this
            rw [if_neg (by simpa using h1)]
            have := keptL_len d j'
            simp; omega
      exact e3 j hj0
    have hnM : N < M.next := by omega
    by_cases hj2 : j < 8
    · have g1 : (j : Int) < 8 := by omega
      have g1x : (j : Int) < ((8 : Nat) : Int) := by omega
      have g2 : (0 : Int) ≤ j := by omega
      have g3 : cN.nth j = some (In (d j - 1)) := by
        rw [nth_lt (by rw [hI.1]; exact hj2), hI.2 j hj2, if_neg (by omega)]
      have hwj : IntKind.i64.wrap ((j : Int) + 1) = ((j + 1 : Nat) : Int) := by rw [wrap_i64 (by omega) (by omega)]; omega
      have e1 := hd j
      simp only [w44_14, W_seq, w44_6, hnx, X_move, Nat.reduceLT, ev_T, lk_cons, Nat.reduceEqDiff, if_false, if_true, T_set, Nat.one_ne_zero, X_len EE_sym, len_slice und_47, okI_some, X_bin EE_sym (op := .lss) rfl, bin_lss, g1x, decide_true, X_nil, ne_eq, thenQ_normal, W_cond, CDi_t, W_skip, W_block, w44_12, w44_7, Mem.next_bump, Nat.le_add_right_of_le, bump_bump, Nat.reduceAdd, X_indexAddr EE_sym, g2, idxV_slice und_47 sz_3, Int.toNat_natCast, Nat.mul_one, Nat.zero_add, X_load EE_sym, load1 lay_3, Mem.get_bump, hNM, ld1_cells, g3, X_assign, w44_8, fnV_f, Option.isSome_some, Option.getD_some, ca_45, X_callf, List.toList_toArray, List.map_cons, List.map_nil, List.nil_append, List.append_nil, true_and]
      by_cases h0 : d j = 0
      · refine CallI.con0 (del_yes (by omega)) ?_
        simp only [putT, Nat.reduceLT, T_set, X_un EE_sym, ev_T, lk_cons, Nat.reduceEqDiff, if_false, if_true, un_not, Bool.not_true, okI_some, X_nil, thenQ_normal, W_cond, CDi_f, W_skip, blockQ_normal, w44_13, Mem.next_bump, hnx, Nat.le_add_right_of_le, bump_bump, Nat.reduceAdd, X_move, X_bin EE_sym (op := .add) rfl, ev_const, bin_add, hwj, X_assign, roundQ_normal, true_and]
        refine ⟨8 - (j + 1), _, _, by omega, View.temps (l' := [(5, In (keptL d j).length), (6, In ((j + 1 : Nat) : Int)), (0, .slice (some ⟨N, 0, none⟩) 8 8), (1, F45)]) ⟨rfl, rfl, rfl, rfl, trivial⟩, j + 1, cN, by omega, by omega, rfl, ?_, by simp; omega, hNM, hold, hI.skip h0⟩
        rw [keptL_succ, if_neg (by simpa using h0), List.append_nil]
      · refine CallI.con0 (del_no (by omega)) ?_
        have g4 : (0 : Int) ≤ ((keptL d j).length : Int) := by omega
        have g5 : ((keptL d j).length : Int) < ((8 : Nat) : Int) := by omega
        have g6 : (keptL d j).length + 1 ≤ 8 := by omega
        have hwi : IntKind.i64.wrap (((keptL d j).length : Int) + 1) = (((keptL d j).length + 1 : Nat) : Int) := by rw [wrap_i64 (by omega) (by omega)]; omega
        simp only [putT, Nat.reduceLT, T_set, X_un EE_sym, ev_T, lk_cons, Nat.reduceEqDiff, if_false, if_true, un_not, Bool.not_false, okI_some, X_nil, thenQ_normal, W_cond, CDi_t, w44_11, W_seq, w44_9, Mem.next_bump, hnx, Nat.le_add_right_of_le, bump_bump, Nat.reduceAdd, X_move, Nat.one_ne_zero, X_indexAddr EE_sym, g4, g5, idxV_slice und_47 sz_3, Int.toNat_natCast, Nat.mul_one, Nat.zero_add, X_store, store1 sz_3, Mem.get_bump, hNM, cells_int, st1_cells, List.length_cons, List.length_nil, hI.1, g6, List.all_cons, oneCell, List.all_nil, Bool.and_self, and_self, put_bump, w44_10, Mem.next_put, X_bin EE_sym (op := .add) rfl, ev_const, bin_add, hwi, X_assign, blockQ_normal, w44_13, hwj, roundQ_normal, true_and]
        refine ⟨8 - (j + 1), _, _, by omega, View.temps (l' := [(5, In (((keptL d j).length + 1 : Nat) : Int)), (6, In ((j + 1 : Nat) : Int)), (0, .slice (some ⟨N, 0, none⟩) 8 8), (1, F45)]) ⟨rfl, rfl, rfl, rfl, trivial⟩, j + 1, cN.write (keptL d j).length [In (d j - 1)], by omega, by omega, rfl, ?_, by simp; omega, by simp only [Mem.get_bump, Mem.get_put, if_true], fun y hy hyN => by simp only [Mem.get_bump, Mem.get_put, hyN, if_false]; exact hold y hy hyN, hI.keep h0⟩
        rw [keptL_succ, if_pos h0, List.length_append]; rfl
    · have hj3 : j = 8 := by omega
      subst hj3
      have g1 : ¬ ((8 : Nat) : Int) < ((8 : Nat) : Int) := by omega
      have g2 : (0 : Int) ≤ ((keptL d 8).length : Int) := by omega
      have q2 : ((keptL d 8).length : Int).toNat ≤ 8 := by omega
      have q3 : ((keptL d 8).length : Int).toNat < 8 := by omega
      have q4 : (keptL d 8).length ≤ 8 := by omega
      have q5 : (keptL d 8).length < 8 := by omega
      have q6 : ¬ 8 - (keptL d 8).length = 0 := by omega
      have q7 : (keptL d 8).length + (8 - (keptL d 8).length) ≤ 8 := by omega
      simp only [w44_14, W_seq, w44_6, hnx, X_move, Nat.reduceLT, ev_T, lk_cons, Nat.reduceEqDiff, if_false, if_true, T_set, Nat.one_ne_zero, X_len EE_sym, len_slice und_47, okI_some, X_bin EE_sym (op := .lss) rfl, bin_lss, g1, decide_false, X_nil, ne_eq, Nat.reduceSub, thenQ_normal, W_cond, CDi_f, W_exit, thenQ_exit, roundQ_exit, blockQ_exit, w44_16, Mem.next_bump, Nat.le_add_right_of_le, bump_bump, Nat.reduceAdd, X_slice EE_sym, Option.map_some, Option.map_none, g2, Int.toNat_natCast, q4, q5, Nat.le_refl, slice_lo und_47 sz_3, Nat.mul_one, Nat.zero_add, X_clear, clC, Mem.get_bump, hNM, q6, hI.1, q7, put_bump, Option.isSome_some, clear_int und_47 z3, putT, w44_17, Mem.next_put, slice_hi und_47 sz_3, X_assign, W_ret, FinC_ret, resA_tmp, T_get, resA_nil, oneOr1, true_and]
      refine TidyE.slice_put hm hN (c1 := cN.write (keptL d 8).length (List.replicate (8 - (keptL d 8).length) (In 0))) (by simp only [Mem.get_bump, Mem.get_put, if_true]) (by rw [write_n, hI.1, ofList_n, resL_len]) (fun i hi => ?_) fun y hy hyN => by simp only [Mem.get_bump, Mem.get_put, hyN, if_false]; exact hold y hy hyN
      rw [write_n, hI.1] at hi
      rw [get_ofList (by rw [resL_len]; exact hi), get_write, hI.2 i hi]
      unfold resL
      by_cases hh : i < (keptL d 8).length
      · rw [if_neg (by omega), if_pos hh]
        simp only [List.getD_eq_getElem?_getD, List.getElem?_append_left (show i < ((keptL d 8).map fun k => In (d k - 1)).length by simpa using hh), List.getElem?_map, List.getElem?_eq_getElem hh]
        exact ⟨rfl, rfl⟩
      · rw [if_pos ⟨by omega, by simp; omega⟩]
        have h3 : i - (keptL d 8).length < 8 - (keptL d 8).length := by omega
        simp only [List.getD_eq_getElem?_getD, List.getElem?_append_right (show ((keptL d 8).map fun k => In (d k - 1)).length ≤ i by simpa using Nat.le_of_not_lt hh), List.length_map, List.getElem?_replicate, h3, if_true]
        exact ⟨rfl, trivial⟩
  · rw [e0, List.length_range, hcg x hx]
    split
    · rename_i h3
      simp [List.getD_eq_getElem?_getD, h3]
    · rfl
theorem dL_nth8 : ∀ j, j < 8 → (Cells.ofList (dL d 8)).nth j = some (In (d j - 1)) := fun j hj => dL_nth d hj
theorem len_ok {b sz : Nat} (hb : DAt m b sz d) (hd : DOk d) : Con EE.P 24 [PT b] m (In (keptL d 8).length) m := by
  refine Con.of EE_ok fn24 (Nat.le_of_ble_eq_true rfl) Grow.rfl fun hm => ?_
  simp only [f24, enumV, w24, W_seq, w24_0, Nat.le_refl, X_assign, ev_const, Nat.reduceLT, T_set, X_nil, thenQ_normal, w24_1, Mem.next_bump, Nat.le_add_right, bump_bump, Nat.reduceAdd, X_move, ev_T, lk_cons, Nat.reduceEqDiff, if_true, if_false, X_call ca_29, List.map_cons, List.map_nil, true_and]
  refine CallI.con0 (fdlist (sz := sz) (d := d) (by simp only [DAt, Mem.get_bump, hb]) hd) ?_
  simp only [Mem.next_bump, put_bump, bump_bump, Nat.reduceAdd, putT, Nat.reduceLT, T_set, X_call ca_44, List.map_cons, ev_T, lk_cons, Nat.reduceEqDiff, if_false, if_true, ev_func, List.map_nil]
  by_cases h : ∀ j, j < 8 → d j ≠ 0
  · refine CallI.con (delf_none (z := 1) (w := true) (cs := Cells.ofList (dL d 8)) get_eq_b dL_nth8 hd h rfl) (by simp) ?_
    have e : (keptL d 8).length = 8 := by rw [keptL_all h, List.length_range]
    simp only [putT, Nat.reduceLT, T_set, X_len EE_sym, ev_T, lk_cons, Nat.reduceEqDiff, if_false, if_true, len_slice und_47, okI_some, X_assign, X_nil, e, thenQ_normal, W_ret, FinC_ret, resA_tmp, T_get, resA_nil, Option.map_some, oneOr1]
    exact TidyE.pure rfl fun k hk => by simp only [Mem.get_bump, Mem.get_put, ne_new hk, if_false]
  · obtain ⟨k, hk, h1, h2⟩ : ∃ k, k < 8 ∧ d k = 0 ∧ ∀ j, j < k → d j ≠ 0 := by
      have hex : ∃ k, k < 8 ∧ d k = 0 := Classical.byContradiction fun e => h fun j hj h0 => e ⟨j, hj, h0⟩
      have key : ∀ n, (∃ k, k < n ∧ d k = 0) → ∃ k, k < n ∧ d k = 0 ∧ ∀ j, j < k → d j ≠ 0 := by
        intro n
        induction n with
        | zero => rintro ⟨k, hk, _⟩; omega
        | succ n ih =>
          rintro ⟨k, hk, h0⟩
          by_cases hn : ∃ k, k < n ∧ d k = 0
          · obtain ⟨k, g1, g2⟩ := ih hn
            exact ⟨k, by omega, g2⟩
          · exact ⟨k, hk, h0, fun j hj e => hn ⟨j, by omega, e⟩⟩
      obtain ⟨k, g1, g2, g3⟩ := key 8 hex
      exact ⟨k, g1, g2, g3⟩
    refine CallI.con (delf_some (z := 1) (cs := Cells.ofList (dL d 8)) get_eq_b (by rw [ofList_n, dL_len]) dL_nth8 hd hk h1 h2) (by simp) ?_
    simp only [put_bump, putT, Nat.reduceLT, T_set, X_len EE_sym, ev_T, lk_cons, Nat.reduceEqDiff, if_false, if_true, len_slice und_47, okI_some, X_assign, X_nil, thenQ_normal, W_ret, FinC_ret, resA_tmp, T_get, resA_nil, Option.map_some, oneOr1]
    exact TidyE.pure rfl fun k hk => by simp only [Mem.get_bump, Mem.get_put, ne_new hk, if_false]
end
end
end Go.Ab
