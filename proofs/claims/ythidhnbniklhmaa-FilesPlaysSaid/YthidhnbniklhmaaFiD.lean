/- Files: what the calls on descriptors come to. -/
import Derived.Test.YthidhnbniklhmaaFiC
import Derived.Test.YthidhnbniklhmaaTH
namespace Go.Ab
open Go.Proofs
noncomputable section
set_option maxHeartbeats 1000000
noncomputable def dC (d : Nat → Int) : Cells := Cells.ofList ((List.range 8).map fun i => In (d i))
theorem dC_n {d : Nat → Int} : (dC d).n = 8 := by
  unfold dC; rw [ofList_n, List.length_map, List.length_range]
theorem dC_nth {d : Nat → Int} {i : Nat} (h : i < 8) : (dC d).nth i = some (In (d i)) := by
  unfold dC
  rw [nth_ofList, List.getElem?_map, List.getElem?_range h]; rfl
theorem dC_get {d : Nat → Int} {i : Nat} (h : i < 8) : (dC d).get i = In (d i) := by
  have := dC_nth (d := d) h
  rw [nth_lt (by rw [dC_n]; exact h)] at this
  exact Option.some.inj this
abbrev DAt (m : Mem) (b sz : Nat) (d : Nat → Int) : Prop := m.get b = some (.cells (dC d) true sz)
def DOk (d : Nat → Int) : Prop := ∀ k, 0 ≤ d k ∧ d k ≤ 64
def dset (d : Nat → Int) (k : Nat) (v : Int) : Nat → Int := fun i => if i = k then v else d i
theorem dC_set {d : Nat → Int} {k : Nat} {v : Int} (hk : k < 8) {i : Nat} (hi : i < 8) : ((dC d).write k [In v]).get i = (dC (dset d k v)).get i := by
  rw [get_write, dC_get hi, dC_get hi]
  unfold dset
  by_cases h : i = k
  · subst h; rw [if_pos (by simp), if_pos rfl, Nat.sub_self]; rfl
  · rw [if_neg (by simp; omega), if_neg h]
section
variable {m : Mem} {b sz : Nat} {d : Nat → Int} {n fd : Int}
theorem number_in (h1 : 0 ≤ n) (h2 : n < 64) : Con EE.P 46 [In n] m (.bool true) m := by
  refine Con.of EE_ok fn46 (Nat.le_of_ble_eq_true rfl) Grow.rfl fun hm => ?_
  simp only [f46, enumV, w46, W_seq, w46_0, Nat.le_refl, X_assign, ev_const, Nat.reduceLT, T_set, X_nil, thenQ_normal, w46_1, Mem.next_bump, Nat.le_add_right, bump_bump, Nat.reduceAdd, X_move, ev_T, lk_cons, Nat.reduceEqDiff, if_true, if_false, X_bin EE_sym (op := .geq) rfl, bin_geq, h1, decide_true, okI_some, X_guard EE_sym, T_get, GDi_tt, X_bin EE_sym (op := .lss) rfl, bin_lss, h2, X_pick EE_sym, pickV_bool, W_ret, FinC_ret, resA_tmp, resA_nil, Option.map_some, oneOr1, true_and]
  exact TidyE.pure rfl fun _ _ => rfl
theorem number_out (h : ¬ (0 ≤ n ∧ n < 64)) : Con EE.P 46 [In n] m (.bool false) m := by
  refine Con.of EE_ok fn46 (Nat.le_of_ble_eq_true rfl) Grow.rfl fun hm => ?_
  by_cases h1 : 0 ≤ n
  · have h2 : ¬ n < 64 := fun e => h ⟨h1, e⟩
    simp only [f46, enumV, w46, W_seq, w46_0, Nat.le_refl, X_assign, ev_const, Nat.reduceLT, T_set, X_nil, thenQ_normal, w46_1, Mem.next_bump, Nat.le_add_right, bump_bump, Nat.reduceAdd, X_move, ev_T, lk_cons, Nat.reduceEqDiff, if_true, if_false, X_bin EE_sym (op := .geq) rfl, bin_geq, h1, decide_true, okI_some, X_guard EE_sym, T_get, GDi_tt, X_bin EE_sym (op := .lss) rfl, bin_lss, h2, decide_false, X_pick EE_sym, pickV_bool, W_ret, FinC_ret, resA_tmp, resA_nil, Option.map_some, oneOr1, true_and]
    exact TidyE.pure rfl fun _ _ => rfl
  · simp only [f46, enumV, w46, W_seq, w46_0, Nat.le_refl, X_assign, ev_const, Nat.reduceLT, T_set, X_nil, thenQ_normal, w46_1, Mem.next_bump, Nat.le_add_right, bump_bump, Nat.reduceAdd, X_move, ev_T, lk_cons, Nat.reduceEqDiff, if_true, if_false, X_bin EE_sym (op := .geq) rfl, bin_geq, h1, decide_false, okI_some, X_guard EE_sym, T_get, GDi_ft, putT, X_pick EE_sym, pickV_bool, Bool.false_eq_true, W_ret, FinC_ret, resA_tmp, resA_nil, Option.map_some, oneOr1, true_and]
    exact TidyE.pure rfl fun _ _ => rfl
theorem fd_in (hb : DAt m b sz d) (hd : DOk d) (h1 : 0 ≤ fd) (h2 : fd < 8) : Con EE.P 23 [PT b, In fd] m (In (d fd.toNat - 1)) m := by
  refine Con.of EE_ok fn23 (Nat.le_of_ble_eq_true rfl) Grow.rfl fun hm => ?_
  have g1 : ¬ fd < 0 := by omega
  have g2 : ¬ 8 ≤ fd := by omega
  have g3 : fd < ((8 : Nat) : Int) := h2
  have g4 : fd.toNat < 8 := by omega
  have := hd fd.toNat
  have hw : IntKind.i64.wrap (d fd.toNat - 1) = d fd.toNat - 1 := wrap_i64 (by omega) (by omega)
  simp only [f23, enumV, Nat.zero_add, w23, W_seq, w23_0, Nat.le_refl, X_assign, ev_const, Nat.reduceLT, T_set, X_nil, thenQ_normal, w23_1, Mem.next_bump, Nat.le_add_right, bump_bump, Nat.reduceAdd, X_move, ev_T, lk_cons, Nat.reduceEqDiff, Nat.one_ne_zero, if_false, if_true, X_eql EE_sym, eq_ptr_nil und_27, okI_some, X_guard EE_sym, T_get, GDi_ff, X_bin EE_sym (op := .lss) rfl, bin_lss, g1, decide_false, X_pick EE_sym, pickV_bool, Bool.false_eq_true, X_bin EE_sym (op := .geq) rfl, bin_geq, g2, W_cond, CDi_f, W_skip, w23_4, X_nilCheck EE_sym, nilV_ptr, X_fieldAddr EE_sym fo_69_0, offV_ptr, Nat.add_zero, X_indexAddr EE_sym, h1, g3, idxV_arr und_67 sz_3, Nat.mul_one, X_load EE_sym, load1 lay_3, Mem.get_bump, hb, ld1_cells, dC_nth g4, X_bin EE_sym (op := .sub) rfl, bin_sub, hw, W_ret, FinC_ret, resA_tmp, resA_nil, Option.map_some, oneOr1, true_and]
  exact TidyE.pure rfl fun _ _ => rfl
theorem fd_out (h : ¬ (0 ≤ fd ∧ fd < 8)) : Con EE.P 23 [PT b, In fd] m (In (-1)) m := by
  refine Con.of EE_ok fn23 (Nat.le_of_ble_eq_true rfl) Grow.rfl fun hm => ?_
  by_cases h1 : fd < 0
  · simp only [f23, enumV, Nat.zero_add, w23, W_seq, w23_0, Nat.le_refl, X_assign, ev_const, Nat.reduceLT, T_set, X_nil, thenQ_normal, w23_1, Mem.next_bump, Nat.le_add_right, bump_bump, Nat.reduceAdd, X_move, ev_T, lk_cons, Nat.reduceEqDiff, Nat.one_ne_zero, if_false, if_true, X_eql EE_sym, eq_ptr_nil und_27, okI_some, X_guard EE_sym, T_get, GDi_ff, X_bin EE_sym (op := .lss) rfl, bin_lss, h1, decide_true, X_pick EE_sym, pickV_bool, Bool.false_eq_true, GDi_tf, putT, W_cond, CDi_t, w23_3, w23_2, W_ret, thenQ_ret, FinC_ret, resA_tmp, resA_nil, Option.map_some, oneOr1, true_and]
    exact TidyE.pure rfl fun _ _ => rfl
  · have h2 : 8 ≤ fd := by omega
    simp only [f23, enumV, Nat.zero_add, w23, W_seq, w23_0, Nat.le_refl, X_assign, ev_const, Nat.reduceLT, T_set, X_nil, thenQ_normal, w23_1, Mem.next_bump, Nat.le_add_right, bump_bump, Nat.reduceAdd, X_move, ev_T, lk_cons, Nat.reduceEqDiff, Nat.one_ne_zero, if_false, if_true, X_eql EE_sym, eq_ptr_nil und_27, okI_some, X_guard EE_sym, T_get, GDi_ff, X_bin EE_sym (op := .lss) rfl, bin_lss, h1, decide_false, X_pick EE_sym, pickV_bool, Bool.false_eq_true, X_bin EE_sym (op := .geq) rfl, bin_geq, h2, decide_true, W_cond, CDi_t, w23_3, w23_2, W_ret, thenQ_ret, FinC_ret, resA_tmp, resA_nil, Option.map_some, oneOr1, true_and]
    exact TidyE.pure rfl fun _ _ => rfl
def dL (d : Nat → Int) (i : Nat) : List Value := (List.range i).map fun k => In (d k - 1)
theorem dL_succ (d : Nat → Int) (i : Nat) : dL d (i + 1) = dL d i ++ [In (d i - 1)] := by
  unfold dL; rw [List.range_succ, List.map_append]; rfl
theorem fdlist (hb : DAt m b sz d) (hd : DOk d) : Con EE.P 29 [PT b] m (.slice (some ⟨m.next, 0, none⟩) 8 8) ((m.put m.next (.cells (Cells.ofList (dL d 8)) true 1)).bump 1) := by
  refine Con.of EE_ok fn29 (Nat.le_of_ble_eq_true rfl) Grow.new fun hm => ?_
  simp only [f29, enumV, w29, W_seq, w29_0, Nat.le_refl, X_assign, ev_const, Nat.reduceLT, T_set, X_nil, thenQ_normal, w29_1, Mem.next_bump, Nat.le_add_right, bump_bump, Nat.reduceAdd, w29_2, X_move, ev_T, lk_cons, Nat.reduceEqDiff, if_true, if_false, X_neq EE_sym, neq_ptr_nil und_27, okI_some, W_cond, CDi_t, w29_11, w29_3, W_block, w29_10, true_and]
  refine WX.loop_of (fun x t M => ∃ (i : Nat) (v : Value), i ≤ 8 ∧ x = 8 - i ∧ t = T 18 [(7, In i), (3, v), (0, PT b)] ∧ GrowC M m.next 1 (dL d i) i v ∧ m.next ≤ M.next ∧ ∀ y, y < m.next → M.get y = m.get y) ?_ (k := 8) (t1 := T 18 [(7, In (0 : Nat)), (3, .slice none 0 0), (0, PT b)]) (View.temps ⟨rfl, rfl, rfl, trivial⟩) ⟨0, _, by omega, rfl, rfl, GrowC.nil, by simp, fun _ _ => rfl⟩
  rintro x t M ⟨i, v, hi, rfl, rfl, hG, hnx, hold⟩
  by_cases hi2 : i < 8
  · have g1 : (i : Int) < 8 := by omega
    have hbM : DAt M b sz d := by rw [DAt, hold b (hm.lt hb)]; exact hb
    have hw : IntKind.i64.wrap ((i : Int) + 1) = ((i + 1 : Nat) : Int) := by rw [wrap_i64 (by omega) (by omega)]; omega
    simp only [w29_9, W_seq, w29_4, hnx, X_bin EE_sym (op := .lss) rfl, Nat.reduceLT, ev_T, lk_cons, Nat.reduceEqDiff, if_false, if_true, ev_const, bin_lss, g1, decide_true, okI_some, T_set, X_nil, thenQ_normal, W_cond, CDi_t, W_skip, W_block, w29_7, w29_5, Mem.next_bump, Nat.le_add_right_of_le, bump_bump, Nat.reduceAdd, X_move, X_assign, w29_6, X_call ca_23, List.map_cons, List.map_nil, true_and]
    refine CallI.con0 (fd_in (sz := sz) (d := d) (by simp only [DAt, Mem.get_bump, hbM]) hd (by omega) g1) ?_
    simp only [Int.toNat_natCast, putT, Nat.reduceLT, T_set, X_bs, List.map_cons, ev_T, lk_cons, Nat.reduceEqDiff, if_false, if_true, List.map_nil, bs47, okI_some, Nat.add_assoc, Nat.reduceAdd, put_bump, X_append]
    refine okI_append (n0 := m.next) (fl := dL d i) (n := i) (new := [In (d i - 1)]) (k := 1) eo47 ((hG.put_new (.inl (by omega))).bump _) (src_put rfl) (by decide) rfl rfl (by omega) (by simp) (by omega) fun v' M' h1 h2 h3 h4 h5 => ?_
    have h3x : M'.next = M.next + 10 := h3
    simp only [Nat.reduceLT, T_set, X_assign, ev_T, lk_cons, Nat.reduceEqDiff, if_false, if_true, X_nil, blockQ_normal, thenQ_normal, w29_8, h3x, hnx, Nat.le_add_right_of_le, X_bin EE_sym (op := .add) rfl, ev_const, bin_add, hw, okI_some, X_move, roundQ_normal, true_and]
    refine ⟨8 - (i + 1), _, _, by omega, View.temps (l' := [(7, In ((i + 1 : Nat) : Int)), (3, v'), (0, PT b)]) ⟨rfl, rfl, rfl, trivial⟩, i + 1, v', by omega, rfl, rfl, (h1.bump _).congr (dL_succ d i).symm rfl, by simp; omega, fun y hy => ?_⟩
    rw [Mem.get_bump, h2 y hy, Mem.get_bump, Mem.get_put, if_neg (by omega), hold y hy]
  · have g1 : ¬ (i : Int) < 8 := by omega
    have hi3 : i = 8 := by omega
    subst hi3
    simp only [w29_9, W_seq, w29_4, hnx, X_bin EE_sym (op := .lss) rfl, Nat.reduceLT, ev_T, lk_cons, Nat.reduceEqDiff, if_false, if_true, ev_const, bin_lss, g1, decide_false, okI_some, T_set, X_nil, Nat.reduceSub, thenQ_normal, W_cond, CDi_f, W_exit, thenQ_exit, roundQ_exit, blockQ_exit, w29_12, Mem.next_bump, Nat.le_add_right_of_le, bump_bump, Nat.reduceAdd, X_move, X_assign, W_ret, FinC_ret, resA_tmp, T_get, resA_nil, Option.map_some, oneOr1, true_and]
    exact TidyE.slice (hG.bump _) (by decide) (fun x hx => by
      obtain ⟨k, _, rfl⟩ := List.mem_map.1 hx
      rfl) hold
/-! slices.Index -/
theorem index_at {N n c z k : Nat} {w : Bool} {cs : Cells} {l : Nat → Int} {v : Int} (hN : m.get N = some (.cells cs w z)) (hc : ∀ j, j < n → cs.nth j = some (In (l j))) (hn : n < 4294967296) (hk : k < n) (h1 : v = l k) (h2 : ∀ j, j < k → ¬ v = l j) :
    Con EE.P 47 [.slice (some ⟨N, 0, none⟩) n c, In v] m (In k) m := by
  refine Con.of EE_ok fn47 (Nat.le_of_ble_eq_true rfl) Grow.rfl fun hm => ?_
  simp only [f47, enumV, Nat.zero_add, w47, W_seq, w47_0, Nat.le_refl, X_assign, ev_const, Nat.reduceLT, T_set, X_nil, thenQ_normal, w47_1, Mem.next_bump, Nat.le_add_right, bump_bump, Nat.reduceAdd, X_move, ev_T, lk_cons, Nat.reduceEqDiff, Nat.one_ne_zero, if_false, if_true, X_len EE_sym, len_slice und_47, okI_some, W_block, w47_10, true_and]
  refine WX.loop_of (fun x t M => ∃ i j : Nat, i ≤ k ∧ x = n - i ∧ t = T 19 [(8, In i), (7, In n), (0, .slice (some ⟨N, 0, none⟩) n c), (1, In v)] ∧ M = m.bump j) ?_ (k := n) (t1 := T 19 [(8, In (0 : Nat)), (7, In n), (0, .slice (some ⟨N, 0, none⟩) n c), (1, In v)]) (View.temps ⟨rfl, rfl, rfl, rfl, trivial⟩) ⟨0, 4, by omega, rfl, rfl, rfl⟩
  rintro x t M ⟨i, j, hi, rfl, rfl, rfl⟩
  have g1 : (i : Int) < (n : Int) := by omega
  have g2 : (0 : Int) ≤ i := by omega
  have g3 := hc i (by omega)
  have hw : IntKind.i64.wrap ((i : Int) + 1) = ((i + 1 : Nat) : Int) := by rw [wrap_i64 (by omega) (by omega)]; omega
  by_cases hik : i = k
  · subst hik
    simp only [h1, w47_9, W_seq, w47_2, Mem.next_bump, Nat.le_add_right, bump_bump, X_bin EE_sym (op := .lss) rfl, Nat.reduceLT, ev_T, lk_cons, Nat.reduceEqDiff, if_false, if_true, bin_lss, g1, decide_true, okI_some, T_set, X_nil, thenQ_normal, W_cond, CDi_t, W_skip, W_block, w47_7, w47_3, Nat.add_assoc, Nat.reduceAdd, X_move, X_assign, w47_4, Nat.one_ne_zero, X_indexAddr EE_sym, g2, idxV_slice und_47 sz_3, Int.toNat_natCast, Nat.mul_one, Nat.zero_add, X_load EE_sym, load1 lay_3, Mem.get_bump, hN, ld1_cells, g3, X_eql EE_sym, eq_int, w47_6, w47_5, W_ret, blockQ_ret, thenQ_ret, roundQ_ret, FinC_ret, resA_tmp, T_get, resA_nil, Option.map_some, oneOr1, true_and]
    exact TidyE.pure rfl fun _ _ => rfl
  · have g4 := h2 i (by omega)
    simp only [w47_9, W_seq, w47_2, Mem.next_bump, Nat.le_add_right, bump_bump, X_bin EE_sym (op := .lss) rfl, Nat.reduceLT, ev_T, lk_cons, Nat.reduceEqDiff, if_false, if_true, bin_lss, g1, decide_true, okI_some, T_set, X_nil, thenQ_normal, W_cond, CDi_t, W_skip, W_block, w47_7, w47_3, Nat.add_assoc, Nat.reduceAdd, X_move, X_assign, w47_4, Nat.one_ne_zero, X_indexAddr EE_sym, g2, idxV_slice und_47 sz_3, Int.toNat_natCast, Nat.mul_one, Nat.zero_add, X_load EE_sym, load1 lay_3, Mem.get_bump, hN, ld1_cells, g3, X_eql EE_sym, eq_int, g4, decide_false, CDi_f, blockQ_normal, w47_8, X_bin EE_sym (op := .add) rfl, ev_const, bin_add, hw, roundQ_normal, true_and]
    exact ⟨n - (i + 1), _, _, by omega, View.temps (l' := [(8, In ((i + 1 : Nat) : Int)), (7, In n), (0, .slice (some ⟨N, 0, none⟩) n c), (1, In v)]) ⟨rfl, rfl, rfl, rfl, trivial⟩, i + 1, _, by omega, rfl, rfl, rfl⟩
theorem index_none {N n c z : Nat} {w : Bool} {cs : Cells} {l : Nat → Int} {v : Int} (hN : m.get N = some (.cells cs w z)) (hc : ∀ j, j < n → cs.nth j = some (In (l j))) (hn : n < 4294967296) (h2 : ∀ j, j < n → ¬ v = l j) :
    Con EE.P 47 [.slice (some ⟨N, 0, none⟩) n c, In v] m (In (-1)) m := by
  refine Con.of EE_ok fn47 (Nat.le_of_ble_eq_true rfl) Grow.rfl fun hm => ?_
  simp only [f47, enumV, Nat.zero_add, w47, W_seq, w47_0, Nat.le_refl, X_assign, ev_const, Nat.reduceLT, T_set, X_nil, thenQ_normal, w47_1, Mem.next_bump, Nat.le_add_right, bump_bump, Nat.reduceAdd, X_move, ev_T, lk_cons, Nat.reduceEqDiff, Nat.one_ne_zero, if_false, if_true, X_len EE_sym, len_slice und_47, okI_some, W_block, w47_10, true_and]
  refine WX.loop_of (fun x t M => ∃ i j : Nat, i ≤ n ∧ x = n - i ∧ t = T 19 [(8, In i), (7, In n), (0, .slice (some ⟨N, 0, none⟩) n c), (1, In v)] ∧ M = m.bump j) ?_ (k := n) (t1 := T 19 [(8, In (0 : Nat)), (7, In n), (0, .slice (some ⟨N, 0, none⟩) n c), (1, In v)]) (View.temps ⟨rfl, rfl, rfl, rfl, trivial⟩) ⟨0, 4, by omega, rfl, rfl, rfl⟩
  rintro x t M ⟨i, j, hi, rfl, rfl, rfl⟩
  by_cases hi2 : i < n
  · have g1 : (i : Int) < (n : Int) := by omega
    have g2 : (0 : Int) ≤ i := by omega
    have g3 := hc i (by omega)
    have hw : IntKind.i64.wrap ((i : Int) + 1) = ((i + 1 : Nat) : Int) := by rw [wrap_i64 (by omega) (by omega)]; omega
    have g4 := h2 i (by omega)
    simp only [w47_9, W_seq, w47_2, Mem.next_bump, Nat.le_add_right, bump_bump, X_bin EE_sym (op := .lss) rfl, Nat.reduceLT, ev_T, lk_cons, Nat.reduceEqDiff, if_false, if_true, bin_lss, g1, decide_true, okI_some, T_set, X_nil, thenQ_normal, W_cond, CDi_t, W_skip, W_block, w47_7, w47_3, Nat.add_assoc, Nat.reduceAdd, X_move, X_assign, w47_4, Nat.one_ne_zero, X_indexAddr EE_sym, g2, idxV_slice und_47 sz_3, Int.toNat_natCast, Nat.mul_one, Nat.zero_add, X_load EE_sym, load1 lay_3, Mem.get_bump, hN, ld1_cells, g3, X_eql EE_sym, eq_int, g4, decide_false, CDi_f, blockQ_normal, w47_8, X_bin EE_sym (op := .add) rfl, ev_const, bin_add, hw, roundQ_normal, true_and]
    exact ⟨n - (i + 1), _, _, by omega, View.temps (l' := [(8, In ((i + 1 : Nat) : Int)), (7, In n), (0, .slice (some ⟨N, 0, none⟩) n c), (1, In v)]) ⟨rfl, rfl, rfl, rfl, trivial⟩, i + 1, _, by omega, rfl, rfl, rfl⟩
  · have g1 : ¬ (i : Int) < (n : Int) := by omega
    simp only [w47_9, W_seq, w47_2, Mem.next_bump, Nat.le_add_right, bump_bump, X_bin EE_sym (op := .lss) rfl, Nat.reduceLT, ev_T, lk_cons, Nat.reduceEqDiff, if_false, if_true, bin_lss, g1, decide_false, okI_some, T_set, X_nil, thenQ_normal, W_cond, CDi_f, W_exit, thenQ_exit, roundQ_exit, blockQ_exit, w47_11, Nat.add_assoc, Nat.reduceAdd, X_assign, ev_const, W_ret, FinC_ret, resA_tmp, T_get, resA_nil, Option.map_some, oneOr1, true_and]
    exact TidyE.pure rfl fun _ _ => rfl
/-! Put, Set, Close, Dup, Copy -/
theorem put_bad (h : ¬ (0 ≤ n ∧ n < 64)) : Con EE.P 33 [PT b, In n] m (.tuple [In 0, In 2].toArray) m := by
  refine Con.of EE_ok fn33 (Nat.le_of_ble_eq_true rfl) Grow.rfl fun hm => ?_
  simp only [f33, enumV, Nat.zero_add, w33, W_seq, w33_0, Nat.le_refl, X_assign, ev_const, Nat.reduceLT, T_set, X_nil, thenQ_normal, W_block, w33_8, w33_1, Mem.next_bump, Nat.le_add_right, bump_bump, Nat.reduceAdd, X_move, ev_T, lk_cons, Nat.reduceEqDiff, Nat.one_ne_zero, if_false, if_true, X_eql EE_sym, eq_ptr_nil und_27, okI_some, W_cond, CDi_f, w33_7, w33_4, X_call ca_46, List.map_cons, List.map_nil, true_and]
  refine CallI.con0 (number_out h) ?_
  simp only [putT, Nat.reduceLT, T_set, X_un EE_sym, ev_T, lk_cons, Nat.reduceEqDiff, if_false, if_true, un_not, Bool.not_false, okI_some, X_assign, X_nil, thenQ_normal, W_cond, CDi_t, w33_6, W_seq, w33_5, Mem.next_bump, Nat.le_add_right, bump_bump, Nat.reduceAdd, ev_const, W_ret, blockQ_ret, thenQ_ret, FinC_ret, resA_tmp, T_get, resA_nil, Option.map_some, oneOr2, true_and]
  exact TidyE.pure rfl fun _ _ => rfl
theorem dL_nth (d : Nat → Int) {j : Nat} (h : j < 8) : (Cells.ofList (dL d 8)).nth j = some (In (d j - 1)) := by
  unfold dL
  rw [nth_ofList, List.getElem?_map, List.getElem?_range h]; rfl
theorem put_full (hb : DAt m b sz d) (hd : DOk d) (h1 : 0 ≤ n) (h2 : n < 64) (h : ∀ k, k < 8 → d k ≠ 0) : Con EE.P 33 [PT b, In n] m (.tuple [In 0, In 102].toArray) m := by
  refine Con.of EE_ok fn33 (Nat.le_of_ble_eq_true rfl) Grow.rfl fun hm => ?_
  simp only [f33, enumV, Nat.zero_add, w33, W_seq, w33_0, Nat.le_refl, X_assign, ev_const, Nat.reduceLT, T_set, X_nil, thenQ_normal, W_block, w33_8, w33_1, Mem.next_bump, Nat.le_add_right, bump_bump, Nat.reduceAdd, X_move, ev_T, lk_cons, Nat.reduceEqDiff, Nat.one_ne_zero, if_false, if_true, X_eql EE_sym, eq_ptr_nil und_27, okI_some, W_cond, CDi_f, w33_7, w33_4, X_call ca_46, List.map_cons, List.map_nil, true_and]
  refine CallI.con0 (number_in h1 h2) ?_
  simp only [putT, Nat.reduceLT, T_set, X_un EE_sym, ev_T, lk_cons, Nat.reduceEqDiff, if_false, if_true, un_not, Bool.not_true, okI_some, X_assign, X_nil, thenQ_normal, W_cond, CDi_f, W_skip, blockQ_normal, W_seq, w33_9, Mem.next_bump, Nat.le_add_right, bump_bump, Nat.reduceAdd, X_move, Nat.one_ne_zero, X_call ca_29, List.map_cons, List.map_nil, true_and]
  refine CallI.con0 (fdlist (sz := sz) (d := d) (by simp only [DAt, Mem.get_bump, hb]) hd) ?_
  simp only [Mem.next_bump, put_bump, bump_bump, Nat.reduceAdd, putT, Nat.reduceLT, T_set, X_call ca_47, List.map_cons, ev_T, lk_cons, Nat.reduceEqDiff, if_false, if_true, ev_const, List.map_nil]
  refine CallI.con (index_none (cs := Cells.ofList (dL d 8)) (w := true) (z := 1) (l := fun j => d j - 1) get_eq_b (fun j hj => dL_nth d hj) (by omega) fun j hj => ?_) (by simp) ?_
  · have := h j hj
    omega
  simp only [putT, Nat.reduceLT, T_set, X_assign, ev_T, lk_cons, Nat.reduceEqDiff, if_false, if_true, X_nil, thenQ_normal, W_seq, w33_10, Mem.next_bump, Mem.next_put, Nat.le_add_right, bump_bump, Nat.reduceAdd, X_move, X_bin EE_sym (op := .lss) rfl, ev_const, bin_lss, Int.reduceLT, decide_true, okI_some, W_cond, CDi_t, w33_12, w33_11, W_ret, thenQ_ret, FinC_ret, resA_tmp, T_get, resA_nil, Option.map_some, oneOr2, true_and]
  exact TidyE.pure rfl fun k hk => by simp only [Mem.get_bump, Mem.get_put, ne_new hk, if_false]
theorem put_at {k : Nat} (hb : DAt m b sz d) (hd : DOk d) (h1 : 0 ≤ n) (h2 : n < 64) (hk : k < 8) (h0 : d k = 0) (h : ∀ j, j < k → d j ≠ 0) : Con EE.P 33 [PT b, In n] m (.tuple [In k, In 0].toArray) (m.put b (.cells (dC (dset d k (n + 1))) true sz)) := by
  refine Con.of EE_ok fn33 (Nat.le_of_ble_eq_true rfl) (Grow.put hb) fun hm => ?_
  have hn := fun j => hm.ne hb j
  simp only [f33, enumV, Nat.zero_add, w33, W_seq, w33_0, Nat.le_refl, X_assign, ev_const, Nat.reduceLT, T_set, X_nil, thenQ_normal, W_block, w33_8, w33_1, Mem.next_bump, Nat.le_add_right, bump_bump, Nat.reduceAdd, X_move, ev_T, lk_cons, Nat.reduceEqDiff, Nat.one_ne_zero, if_false, if_true, X_eql EE_sym, eq_ptr_nil und_27, okI_some, W_cond, CDi_f, w33_7, w33_4, X_call ca_46, List.map_cons, List.map_nil, true_and]
  refine CallI.con0 (number_in h1 h2) ?_
  simp only [putT, Nat.reduceLT, T_set, X_un EE_sym, ev_T, lk_cons, Nat.reduceEqDiff, if_false, if_true, un_not, Bool.not_true, okI_some, X_assign, X_nil, thenQ_normal, W_cond, CDi_f, W_skip, blockQ_normal, W_seq, w33_9, Mem.next_bump, Nat.le_add_right, bump_bump, Nat.reduceAdd, X_move, Nat.one_ne_zero, X_call ca_29, List.map_cons, List.map_nil, true_and]
  refine CallI.con0 (fdlist (sz := sz) (d := d) (by simp only [DAt, Mem.get_bump, hb]) hd) ?_
  simp only [Mem.next_bump, put_bump, bump_bump, Nat.reduceAdd, putT, Nat.reduceLT, T_set, X_call ca_47, List.map_cons, ev_T, lk_cons, Nat.reduceEqDiff, if_false, if_true, ev_const, List.map_nil]
  refine CallI.con (index_at (cs := Cells.ofList (dL d 8)) (w := true) (z := 1) (k := k) (l := fun j => d j - 1) get_eq_b (fun j hj => dL_nth d hj) (by omega) hk (by simp only [h0]; rfl) fun j hj => ?_) (by simp) ?_
  · have := h j hj
    omega
  have g1 : ¬ (k : Int) < 0 := by omega
  have g2 : (0 : Int) ≤ k := by omega
  have g3 : (k : Int) < ((8 : Nat) : Int) := by omega
  have g4 : k + 1 ≤ 8 := hk
  have hw : IntKind.i64.wrap (n + 1) = n + 1 := wrap_i64 (by omega) (by omega)
  simp only [putT, Nat.reduceLT, T_set, X_assign, ev_T, lk_cons, Nat.reduceEqDiff, if_false, if_true, X_nil, thenQ_normal, W_seq, w33_10, Mem.next_bump, Mem.next_put, Nat.le_add_right, bump_bump, Nat.reduceAdd, X_move, X_bin EE_sym (op := .lss) rfl, ev_const, bin_lss, g1, decide_false, okI_some, W_cond, CDi_f, W_skip, w33_13, Nat.one_ne_zero, X_bin EE_sym (op := .add) rfl, bin_add, hw, X_nilCheck EE_sym, nilV_ptr, X_fieldAddr EE_sym fo_69_0, offV_ptr, Nat.add_zero, X_indexAddr EE_sym, g2, g3, idxV_arr und_67 sz_3, Int.toNat_natCast, Nat.mul_one, Nat.zero_add, X_store, store1 sz_3, Mem.get_bump, Mem.get_put, hn, hb, cells_int, st1_cells, List.length_cons, List.length_nil, dC_n, g4, List.all_cons, oneCell, List.all_nil, Bool.and_self, and_self, put_bump, w33_14, W_ret, FinC_ret, resA_tmp, T_get, resA_nil, Option.map_some, oneOr2, true_and]
  refine TidyE.put (c1 := (dC d).write k [In (n + 1)]) rfl hm hb (by simp only [Mem.get_bump, Mem.get_put, if_true]) (by simp only [write_n, dC_n]) (fun i hi => ?_) fun k hk hkb => by simp only [Mem.get_bump, Mem.get_put, hkb, ne_new hk, if_false]
  rw [write_n, dC_n] at hi
  exact ⟨by rw [dC_get hi]; rfl, dC_set hk hi⟩
theorem set_bad (h : ¬ (0 ≤ n ∧ n < 64)) : Con EE.P 28 [PT b, In fd, In n] m (In 2) m := by
  refine Con.of EE_ok fn28 (Nat.le_of_ble_eq_true rfl) Grow.rfl fun hm => ?_
  simp only [f28, enumV, Nat.zero_add, Nat.reduceAdd, w28, W_seq, w28_0, Nat.le_refl, X_assign, ev_const, Nat.reduceLT, T_set, X_nil, thenQ_normal, W_block, w28_12, w28_1, Mem.next_bump, Nat.le_add_right, bump_bump, X_move, ev_T, lk_cons, Nat.reduceEqDiff, Nat.one_ne_zero, if_false, if_true, X_eql EE_sym, eq_ptr_nil und_27, okI_some, W_cond, CDi_f, w28_11, w28_4, X_call ca_46, List.map_cons, List.map_nil, true_and]
  refine CallI.con0 (number_out h) ?_
  simp only [putT, Nat.reduceLT, T_set, X_un EE_sym, ev_T, lk_cons, Nat.reduceEqDiff, if_false, if_true, un_not, Bool.not_false, okI_some, X_assign, X_nil, thenQ_normal, W_cond, CDi_t, w28_6, W_seq, w28_5, Mem.next_bump, Nat.le_add_right, bump_bump, Nat.reduceAdd, ev_const, W_ret, blockQ_ret, thenQ_ret, FinC_ret, resA_tmp, T_get, resA_nil, Option.map_some, oneOr1, true_and]
  exact TidyE.pure rfl fun _ _ => rfl
def fdFree (d : Nat → Int) (fd : Int) : Prop := 0 ≤ fd ∧ fd < 8 ∧ d fd.toNat = 0
theorem set_not (hb : DAt m b sz d) (hd : DOk d) (h1 : 0 ≤ n) (h2 : n < 64) (h : ¬ fdFree d fd) : Con EE.P 28 [PT b, In fd, In n] m (In 103) m := by
  refine Con.of EE_ok fn28 (Nat.le_of_ble_eq_true rfl) Grow.rfl fun hm => ?_
  simp only [f28, enumV, Nat.zero_add, Nat.reduceAdd, w28, W_seq, w28_0, Nat.le_refl, X_assign, ev_const, Nat.reduceLT, T_set, X_nil, thenQ_normal, W_block, w28_12, w28_1, Mem.next_bump, Nat.le_add_right, bump_bump, X_move, ev_T, lk_cons, Nat.reduceEqDiff, Nat.one_ne_zero, if_false, if_true, X_eql EE_sym, eq_ptr_nil und_27, okI_some, W_cond, CDi_f, w28_11, w28_4, X_call ca_46, List.map_cons, List.map_nil, true_and]
  refine CallI.con0 (number_in h1 h2) ?_
  by_cases g1 : fd < 0
  · simp only [putT, Nat.reduceLT, T_set, X_un EE_sym, ev_T, lk_cons, Nat.reduceEqDiff, if_false, if_true, un_not, Bool.not_true, okI_some, X_assign, X_nil, thenQ_normal, W_cond, CDi_f, w28_10, W_seq, w28_7, Mem.next_bump, Nat.le_add_right, bump_bump, Nat.reduceAdd, X_move, X_bin EE_sym (op := .lss) rfl, ev_const, bin_lss, g1, decide_true, X_guard EE_sym, T_get, GDi_tf, X_pick EE_sym, pickV_bool, CDi_t, w28_9, w28_8, W_ret, blockQ_ret, thenQ_ret, FinC_ret, resA_tmp, resA_nil, Option.map_some, oneOr1, true_and]
    exact TidyE.pure rfl fun _ _ => rfl
  by_cases g2 : 8 ≤ fd
  · simp only [putT, Nat.reduceLT, T_set, X_un EE_sym, ev_T, lk_cons, Nat.reduceEqDiff, if_false, if_true, un_not, Bool.not_true, okI_some, X_assign, X_nil, thenQ_normal, W_cond, CDi_f, w28_10, W_seq, w28_7, Mem.next_bump, Nat.le_add_right, bump_bump, Nat.reduceAdd, X_move, X_bin EE_sym (op := .lss) rfl, ev_const, bin_lss, g1, decide_false, X_guard EE_sym, T_get, GDi_ff, X_bin EE_sym (op := .geq) rfl, bin_geq, g2, decide_true, X_pick EE_sym, pickV_bool, Bool.false_eq_true, GDi_tf, CDi_t, w28_9, w28_8, W_ret, blockQ_ret, thenQ_ret, FinC_ret, resA_tmp, resA_nil, Option.map_some, oneOr1, true_and]
    exact TidyE.pure rfl fun _ _ => rfl
  have g3 : 0 ≤ fd := by omega
  have g4 : fd < ((8 : Nat) : Int) := by omega
  have g5 : fd.toNat < 8 := by omega
  have g6 : 0 < d fd.toNat := by
    have e := hd fd.toNat
    rcases Int.lt_or_le 0 (d fd.toNat) with h3 | h3
    · exact h3
    · exact absurd ⟨g3, by omega, by omega⟩ h
  simp only [putT, Nat.reduceLT, T_set, X_un EE_sym, ev_T, lk_cons, Nat.reduceEqDiff, if_false, if_true, un_not, Bool.not_true, okI_some, X_assign, X_nil, thenQ_normal, W_cond, CDi_f, w28_10, W_seq, w28_7, Mem.next_bump, Nat.le_add_right, bump_bump, Nat.reduceAdd, X_move, X_bin EE_sym (op := .lss) rfl, ev_const, bin_lss, g1, decide_false, X_guard EE_sym, T_get, GDi_ff, X_bin EE_sym (op := .geq) rfl, bin_geq, g2, X_pick EE_sym, pickV_bool, Bool.false_eq_true, Nat.one_ne_zero, X_nilCheck EE_sym, nilV_ptr, X_fieldAddr EE_sym fo_69_0, offV_ptr, Nat.add_zero, X_indexAddr EE_sym, g3, g4, idxV_arr und_67 sz_3, Nat.mul_one, Nat.zero_add, X_load EE_sym, load1 lay_3, Mem.get_bump, hb, ld1_cells, dC_nth g5, X_bin EE_sym (op := .gtr) rfl, bin_gtr, g6, decide_true, CDi_t, w28_9, w28_8, W_ret, blockQ_ret, thenQ_ret, FinC_ret, resA_tmp, resA_nil, Option.map_some, oneOr1, true_and]
  exact TidyE.pure rfl fun _ _ => rfl
theorem set_ok (hb : DAt m b sz d) (h1 : 0 ≤ n) (h2 : n < 64) (h : fdFree d fd) : Con EE.P 28 [PT b, In fd, In n] m (In 0) (m.put b (.cells (dC (dset d fd.toNat (n + 1))) true sz)) := by
  refine Con.of EE_ok fn28 (Nat.le_of_ble_eq_true rfl) (Grow.put hb) fun hm => ?_
  obtain ⟨h3, h4, h5⟩ := h
  have hn := fun j => hm.ne hb j
  simp only [f28, enumV, Nat.zero_add, Nat.reduceAdd, w28, W_seq, w28_0, Nat.le_refl, X_assign, ev_const, Nat.reduceLT, T_set, X_nil, thenQ_normal, W_block, w28_12, w28_1, Mem.next_bump, Nat.le_add_right, bump_bump, X_move, ev_T, lk_cons, Nat.reduceEqDiff, Nat.one_ne_zero, if_false, if_true, X_eql EE_sym, eq_ptr_nil und_27, okI_some, W_cond, CDi_f, w28_11, w28_4, X_call ca_46, List.map_cons, List.map_nil, true_and]
  refine CallI.con0 (number_in h1 h2) ?_
  have g1 : ¬ fd < 0 := by omega
  have g2 : ¬ 8 ≤ fd := by omega
  have g4 : fd < ((8 : Nat) : Int) := h4
  have g5 : fd.toNat < 8 := by omega
  have g6 : ¬ 0 < d fd.toNat := by omega
  have g7 : fd.toNat + 1 ≤ 8 := g5
  have hw : IntKind.i64.wrap (n + 1) = n + 1 := wrap_i64 (by omega) (by omega)
  simp only [putT, Nat.reduceLT, T_set, X_un EE_sym, ev_T, lk_cons, Nat.reduceEqDiff, if_false, if_true, un_not, Bool.not_true, okI_some, X_assign, X_nil, thenQ_normal, W_cond, CDi_f, w28_10, W_seq, w28_7, Mem.next_bump, Nat.le_add_right, bump_bump, Nat.reduceAdd, X_move, X_bin EE_sym (op := .lss) rfl, ev_const, bin_lss, g1, decide_false, X_guard EE_sym, T_get, GDi_ff, X_bin EE_sym (op := .geq) rfl, bin_geq, g2, X_pick EE_sym, pickV_bool, Bool.false_eq_true, Nat.one_ne_zero, X_nilCheck EE_sym, nilV_ptr, X_fieldAddr EE_sym fo_69_0, offV_ptr, Nat.add_zero, X_indexAddr EE_sym, h3, g4, idxV_arr und_67 sz_3, Nat.mul_one, Nat.zero_add, X_load EE_sym, load1 lay_3, Mem.get_bump, hb, ld1_cells, dC_nth g5, X_bin EE_sym (op := .gtr) rfl, bin_gtr, g6, W_skip, blockQ_normal, w28_13, X_bin EE_sym (op := .add) rfl, bin_add, hw, X_store, store1 sz_3, cells_int, st1_cells, List.length_cons, List.length_nil, dC_n, g7, List.all_cons, oneCell, List.all_nil, Bool.and_self, and_self, put_bump, w28_14, Mem.next_put, W_ret, FinC_ret, resA_tmp, resA_nil, Option.map_some, oneOr1, true_and]
  refine TidyE.put (c1 := (dC d).write fd.toNat [In (n + 1)]) rfl hm hb (by simp only [Mem.get_bump, Mem.get_put, if_true]) (by simp only [write_n, dC_n]) (fun i hi => ?_) fun k hk hkb => by simp only [Mem.get_bump, Mem.get_put, hkb, if_false]
  rw [write_n, dC_n] at hi
  exact ⟨by rw [dC_get hi]; rfl, dC_set g5 hi⟩
/-- A descriptor that is not free. -/
def fdUsed (d : Nat → Int) (fd : Int) : Prop := 0 ≤ fd ∧ fd < 8 ∧ d fd.toNat ≠ 0
theorem close_not (hb : DAt m b sz d) (hd : DOk d) (h : ¬ fdUsed d fd) : Con EE.P 26 [PT b, In fd] m (.tuple [In 0, In 103].toArray) m := by
  refine Con.of EE_ok fn26 (Nat.le_of_ble_eq_true rfl) Grow.rfl fun hm => ?_
  simp only [f26, enumV, Nat.zero_add, w26, W_seq, w26_0, Nat.le_refl, X_assign, ev_const, Nat.reduceLT, T_set, X_nil, thenQ_normal, w26_1, Mem.next_bump, Nat.le_add_right, bump_bump, Nat.reduceAdd, X_move, ev_T, lk_cons, Nat.reduceEqDiff, Nat.one_ne_zero, if_false, if_true, X_call ca_23, List.map_cons, List.map_nil, true_and]
  by_cases h1 : 0 ≤ fd ∧ fd < 8
  · refine CallI.con0 (fd_in (sz := sz) (d := d) (by simp only [DAt, Mem.get_bump, hb]) hd h1.1 h1.2) ?_
    have g1 : d fd.toNat - 1 < 0 := by
      have e : d fd.toNat = 0 := Classical.byContradiction fun e => h ⟨h1.1, h1.2, e⟩
      omega
    simp only [putT, Nat.reduceLT, T_set, X_assign, ev_T, lk_cons, Nat.reduceEqDiff, if_false, if_true, X_nil, thenQ_normal, W_seq, W_block, w26_9, w26_2, Mem.next_bump, Nat.le_add_right, bump_bump, Nat.reduceAdd, X_move, Nat.one_ne_zero, X_eql EE_sym, ev_const, eq_ptr_nil und_27, okI_some, W_cond, CDi_f, w26_8, w26_5, X_bin EE_sym (op := .lss) rfl, bin_lss, g1, decide_true, CDi_t, w26_7, w26_6, W_ret, blockQ_ret, thenQ_ret, FinC_ret, resA_tmp, T_get, resA_nil, Option.map_some, oneOr2, true_and]
    exact TidyE.pure rfl fun _ _ => rfl
  · refine CallI.con0 (fd_out h1) ?_
    simp only [putT, Nat.reduceLT, T_set, X_assign, ev_T, lk_cons, Nat.reduceEqDiff, if_false, if_true, X_nil, thenQ_normal, W_seq, W_block, w26_9, w26_2, Mem.next_bump, Nat.le_add_right, bump_bump, Nat.reduceAdd, X_move, Nat.one_ne_zero, X_eql EE_sym, ev_const, eq_ptr_nil und_27, okI_some, W_cond, CDi_f, w26_8, w26_5, X_bin EE_sym (op := .lss) rfl, bin_lss, Int.reduceLT, decide_true, CDi_t, w26_7, w26_6, W_ret, blockQ_ret, thenQ_ret, FinC_ret, resA_tmp, T_get, resA_nil, Option.map_some, oneOr2, true_and]
    exact TidyE.pure rfl fun _ _ => rfl
theorem close_ok (hb : DAt m b sz d) (hd : DOk d) (h : fdUsed d fd) : Con EE.P 26 [PT b, In fd] m (.tuple [In (d fd.toNat - 1), In 0].toArray) (m.put b (.cells (dC (dset d fd.toNat 0)) true sz)) := by
  refine Con.of EE_ok fn26 (Nat.le_of_ble_eq_true rfl) (Grow.put hb) fun hm => ?_
  obtain ⟨h1, h2, h3⟩ := h
  have hn := fun j => hm.ne hb j
  simp only [f26, enumV, Nat.zero_add, w26, W_seq, w26_0, Nat.le_refl, X_assign, ev_const, Nat.reduceLT, T_set, X_nil, thenQ_normal, w26_1, Mem.next_bump, Nat.le_add_right, bump_bump, Nat.reduceAdd, X_move, ev_T, lk_cons, Nat.reduceEqDiff, Nat.one_ne_zero, if_false, if_true, X_call ca_23, List.map_cons, List.map_nil, true_and]
  refine CallI.con0 (fd_in (sz := sz) (d := d) (by simp only [DAt, Mem.get_bump, hb]) hd h1 h2) ?_
  have e := hd fd.toNat
  have g1 : ¬ d fd.toNat - 1 < 0 := by omega
  have g4 : fd < ((8 : Nat) : Int) := h2
  have g5 : fd.toNat < 8 := by omega
  have g7 : fd.toNat + 1 ≤ 8 := g5
  simp only [putT, Nat.reduceLT, T_set, X_assign, ev_T, lk_cons, Nat.reduceEqDiff, if_false, if_true, X_nil, thenQ_normal, W_seq, W_block, w26_9, w26_2, Mem.next_bump, Nat.le_add_right, bump_bump, Nat.reduceAdd, X_move, Nat.one_ne_zero, X_eql EE_sym, ev_const, eq_ptr_nil und_27, okI_some, W_cond, CDi_f, w26_8, w26_5, X_bin EE_sym (op := .lss) rfl, bin_lss, g1, decide_false, W_skip, blockQ_normal, w26_10, X_nilCheck EE_sym, nilV_ptr, X_fieldAddr EE_sym fo_69_0, offV_ptr, Nat.add_zero, X_indexAddr EE_sym, h1, g4, idxV_arr und_67 sz_3, Nat.mul_one, Nat.zero_add, X_store, store1 sz_3, Mem.get_bump, hb, cells_int, st1_cells, List.length_cons, List.length_nil, dC_n, g7, List.all_cons, oneCell, List.all_nil, Bool.and_self, and_self, put_bump, w26_11, Mem.next_put, W_ret, FinC_ret, resA_tmp, T_get, resA_nil, Option.map_some, oneOr2, true_and]
  refine TidyE.put (c1 := (dC d).write fd.toNat [In 0]) rfl hm hb (by simp only [Mem.get_bump, Mem.get_put, if_true]) (by simp only [write_n, dC_n]) (fun i hi => ?_) fun k hk hkb => by simp only [Mem.get_bump, Mem.get_put, hkb, if_false]
  rw [write_n, dC_n] at hi
  exact ⟨by rw [dC_get hi]; rfl, dC_set g5 hi⟩
theorem dup_not (hb : DAt m b sz d) (hd : DOk d) (h : ¬ fdUsed d fd) : Con EE.P 25 [PT b, In fd] m (.tuple [In 0, In 103].toArray) m := by
  refine Con.of EE_ok fn25 (Nat.le_of_ble_eq_true rfl) Grow.rfl fun hm => ?_
  simp only [f25, enumV, Nat.zero_add, w25, W_seq, w25_0, Nat.le_refl, X_assign, ev_const, Nat.reduceLT, T_set, X_nil, thenQ_normal, w25_1, Mem.next_bump, Nat.le_add_right, bump_bump, Nat.reduceAdd, X_move, ev_T, lk_cons, Nat.reduceEqDiff, Nat.one_ne_zero, if_false, if_true, X_call ca_23, List.map_cons, List.map_nil, true_and]
  by_cases h1 : 0 ≤ fd ∧ fd < 8
  · refine CallI.con0 (fd_in (sz := sz) (d := d) (by simp only [DAt, Mem.get_bump, hb]) hd h1.1 h1.2) ?_
    have g1 : d fd.toNat - 1 < 0 := by
      have e : d fd.toNat = 0 := Classical.byContradiction fun e => h ⟨h1.1, h1.2, e⟩
      omega
    simp only [putT, Nat.reduceLT, T_set, X_assign, ev_T, lk_cons, Nat.reduceEqDiff, if_false, if_true, X_nil, thenQ_normal, W_seq, W_block, w25_9, w25_2, Mem.next_bump, Nat.le_add_right, bump_bump, Nat.reduceAdd, X_move, Nat.one_ne_zero, X_eql EE_sym, ev_const, eq_ptr_nil und_27, okI_some, W_cond, CDi_f, w25_8, w25_5, X_bin EE_sym (op := .lss) rfl, bin_lss, g1, decide_true, CDi_t, w25_7, w25_6, W_ret, blockQ_ret, thenQ_ret, FinC_ret, resA_tmp, T_get, resA_nil, Option.map_some, oneOr2, true_and]
    exact TidyE.pure rfl fun _ _ => rfl
  · refine CallI.con0 (fd_out h1) ?_
    simp only [putT, Nat.reduceLT, T_set, X_assign, ev_T, lk_cons, Nat.reduceEqDiff, if_false, if_true, X_nil, thenQ_normal, W_seq, W_block, w25_9, w25_2, Mem.next_bump, Nat.le_add_right, bump_bump, Nat.reduceAdd, X_move, Nat.one_ne_zero, X_eql EE_sym, ev_const, eq_ptr_nil und_27, okI_some, W_cond, CDi_f, w25_8, w25_5, X_bin EE_sym (op := .lss) rfl, bin_lss, Int.reduceLT, decide_true, CDi_t, w25_7, w25_6, W_ret, blockQ_ret, thenQ_ret, FinC_ret, resA_tmp, T_get, resA_nil, Option.map_some, oneOr2, true_and]
    exact TidyE.pure rfl fun _ _ => rfl
theorem dup_full (hb : DAt m b sz d) (hd : DOk d) (h : fdUsed d fd) (hf : ∀ k, k < 8 → d k ≠ 0) : Con EE.P 25 [PT b, In fd] m (.tuple [In 0, In 102].toArray) m := by
  refine Con.of EE_ok fn25 (Nat.le_of_ble_eq_true rfl) Grow.rfl fun hm => ?_
  obtain ⟨h1, h2, h3⟩ := h
  simp only [f25, enumV, Nat.zero_add, w25, W_seq, w25_0, Nat.le_refl, X_assign, ev_const, Nat.reduceLT, T_set, X_nil, thenQ_normal, w25_1, Mem.next_bump, Nat.le_add_right, bump_bump, Nat.reduceAdd, X_move, ev_T, lk_cons, Nat.reduceEqDiff, Nat.one_ne_zero, if_false, if_true, X_call ca_23, List.map_cons, List.map_nil, true_and]
  refine CallI.con0 (fd_in (sz := sz) (d := d) (by simp only [DAt, Mem.get_bump, hb]) hd h1 h2) ?_
  have e := hd fd.toNat
  have g1 : ¬ d fd.toNat - 1 < 0 := by omega
  simp only [putT, Nat.reduceLT, T_set, X_assign, ev_T, lk_cons, Nat.reduceEqDiff, if_false, if_true, X_nil, thenQ_normal, W_seq, W_block, w25_9, w25_2, Mem.next_bump, Nat.le_add_right, bump_bump, Nat.reduceAdd, X_move, Nat.one_ne_zero, X_eql EE_sym, ev_const, eq_ptr_nil und_27, okI_some, W_cond, CDi_f, w25_8, w25_5, X_bin EE_sym (op := .lss) rfl, bin_lss, g1, decide_false, W_skip, blockQ_normal, w25_10, X_call ca_33, List.map_cons, List.map_nil, true_and]
  refine CallI.con0 (put_full (sz := sz) (d := d) (by simp only [DAt, Mem.get_bump, hb]) hd (by omega) (by omega) hf) ?_
  simp only [putT, Nat.reduceLT, T_set, X_extract EE_sym, ev_T, lk_cons, Nat.reduceEqDiff, if_false, if_true, List.getElem?_toArray, List.getElem?_cons_zero, okI_some, List.getElem?_cons_succ, X_assign, X_nil, thenQ_normal, W_ret, FinC_ret, resA_tmp, T_get, resA_nil, Option.map_some, oneOr2]
  exact TidyE.pure rfl fun _ _ => rfl
theorem dup_ok {k : Nat} (hb : DAt m b sz d) (hd : DOk d) (h : fdUsed d fd) (hk : k < 8) (h0 : d k = 0) (hf : ∀ j, j < k → d j ≠ 0) : Con EE.P 25 [PT b, In fd] m (.tuple [In k, In 0].toArray) (m.put b (.cells (dC (dset d k (d fd.toNat))) true sz)) := by
  refine Con.of EE_ok fn25 (Nat.le_of_ble_eq_true rfl) (Grow.put hb) fun hm => ?_
  obtain ⟨h1, h2, h3⟩ := h
  simp only [f25, enumV, Nat.zero_add, w25, W_seq, w25_0, Nat.le_refl, X_assign, ev_const, Nat.reduceLT, T_set, X_nil, thenQ_normal, w25_1, Mem.next_bump, Nat.le_add_right, bump_bump, Nat.reduceAdd, X_move, ev_T, lk_cons, Nat.reduceEqDiff, Nat.one_ne_zero, if_false, if_true, X_call ca_23, List.map_cons, List.map_nil, true_and]
  refine CallI.con0 (fd_in (sz := sz) (d := d) (by simp only [DAt, Mem.get_bump, hb]) hd h1 h2) ?_
  have e := hd fd.toNat
  have g1 : ¬ d fd.toNat - 1 < 0 := by omega
  simp only [putT, Nat.reduceLT, T_set, X_assign, ev_T, lk_cons, Nat.reduceEqDiff, if_false, if_true, X_nil, thenQ_normal, W_seq, W_block, w25_9, w25_2, Mem.next_bump, Nat.le_add_right, bump_bump, Nat.reduceAdd, X_move, Nat.one_ne_zero, X_eql EE_sym, ev_const, eq_ptr_nil und_27, okI_some, W_cond, CDi_f, w25_8, w25_5, X_bin EE_sym (op := .lss) rfl, bin_lss, g1, decide_false, W_skip, blockQ_normal, w25_10, X_call ca_33, List.map_cons, List.map_nil, true_and]
  refine CallI.con0 (put_at (sz := sz) (d := d) (by simp only [DAt, Mem.get_bump, hb]) hd (by omega) (by omega) hk h0 hf) ?_
  simp only [put_bump, putT, Nat.reduceLT, T_set, X_extract EE_sym, ev_T, lk_cons, Nat.reduceEqDiff, if_false, if_true, List.getElem?_toArray, List.getElem?_cons_zero, okI_some, List.getElem?_cons_succ, X_assign, X_nil, thenQ_normal, W_ret, FinC_ret, resA_tmp, T_get, resA_nil, Option.map_some, oneOr2]
  refine TidyE.put (c1 := dC (dset d k (d fd.toNat - 1 + 1))) rfl hm hb (by simp only [Mem.get_bump, Mem.get_put, if_true]) (by simp only [dC_n]) (fun i hi => ?_) fun k hk hkb => by simp only [Mem.get_bump, Mem.get_put, hkb, if_false]
  rw [dC_n] at hi
  exact ⟨by rw [dC_get hi]; rfl, by rw [Int.sub_add_cancel]⟩
theorem dC_len : (dC d).list.length = 8 := by rw [Cells.list_length, dC_n]
theorem dC_list : (dC d).list = (List.range 8).map fun i => In (d i) := by unfold dC; rw [Cells.ofList_list]
theorem dC_sub : (dC d).sub 0 8 = some (dC d).list := sub_get dC_len (by rw [dC_n]; exact Nat.le_refl _) fun i hi => by rw [list_getD _ (by rw [dC_n]; exact hi), Nat.zero_add]
theorem dC_all : (dC d).list.all oneCell = true := by
  rw [dC_list, List.all_map]
  exact List.all_eq_true.2 fun _ _ => rfl
theorem dcopy_ok (hb : DAt m b sz d) : Con EE.P 27 [PT b] m (PT m.next) ((m.put m.next (.cells (dC d) true 0)).bump 1) := by
  refine Con.of EE_ok fn27 (Nat.le_of_ble_eq_true rfl) Grow.new fun hm => ?_
  have hn := fun j => hm.ne hb j
  simp only [f27, enumV, w27, W_seq, w27_0, Nat.le_refl, X_assign, ev_const, Nat.reduceLT, T_set, X_nil, thenQ_normal, w27_1, Mem.next_bump, Nat.le_add_right, bump_bump, Nat.reduceAdd, X_move, ev_T, lk_cons, Nat.reduceEqDiff, if_true, if_false, X_eql EE_sym, eq_ptr_nil und_27, okI_some, W_cond, CDi_f, W_skip, w27_4, X_nilCheck EE_sym, nilV_ptr, X_load EE_sym, loadN lay_69, Mem.get_bump, hb, ldN_cells, dC_sub, Option.map_some, X_alloc, zero_69, Nat.add_assoc, put_bump, X_store, store1 sz_69, Mem.get_put, cells_agg, st1_cells, dC_len, Nat.zero_add, ofList_n, List.length_cons, List.length_nil, dC_all, and_self, w27_5, Mem.next_put, W_ret, FinC_ret, resA_tmp, T_get, resA_nil, oneOr1, true_and]
  refine TidyE.new (c1 := (Cells.ofList [In 0, In 0, In 0, In 0, In 0, In 0, In 0, In 0]).write 0 (dC d).list) (Nat.le_add_right _ _) rv_new (by simp only [Mem.get_bump, Mem.get_put, if_true]) (by simp only [write_n, ofList_n, dC_n]; rfl) (fun i hi => ?_) fun k hk => by simp only [Mem.get_bump, Mem.get_put, ne_new hk, if_false]
  have hi : i < 8 := hi
  refine ⟨by rw [dC_get hi]; rfl, ?_⟩
  rw [get_write, if_pos ⟨Nat.zero_le _, by rw [dC_len]; omega⟩, Nat.sub_zero, list_getD _ (by rw [dC_n]; exact hi)]
end
end
end Go.Ab
