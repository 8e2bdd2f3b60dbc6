/- FilesLeast: whatever the calls, it answers true. -/
import Derived.Test.YthidhnbniklhmaaFiM
import Derived.Test.YthidhnbniklhmaaFiA9
namespace Go.Ab
open Go.Proofs
noncomputable section
set_option maxHeartbeats 4000000
theorem DOk.full {d : Nat → Int} (h : ∀ k, k < 8 → d k ≠ 0) : (keptL d 8).length = 8 := by rw [keptL_all h, List.length_range]
section
variable {m : Mem} {l : Value} {n : Nat}
theorem least_ok (hm : Fresh m) (hl : Ops m l n) : ∃ m', Con EE.P 9 [l] m (.bool true) m' := by
  refine Con.raw1 fn9 (Nat.le_of_ble_eq_true rfl) ?_
  obtain ⟨aa, C, rfl, hl2⟩ := id hl
  simp only [f9, enumV, w9, W_seq, w9_0, Nat.le_refl, X_assign, ev_const, Nat.reduceLT, T_set, X_nil, thenQ_normal, w9_1, Mem.next_bump, Nat.le_add_right, bump_bump, Nat.reduceAdd, X_call ca_10, List.map_nil, true_and]
  refine CallI.ex (R := Nx m) (by obtain ⟨m', h1, h2⟩ := alive_ok (m := m.bump 3) hm.bump; exact ⟨m', h1, h2.mono⟩) fun m1 n1 => ?_
  have l1 := n1.next
  by_cases hn : 200 < n
  · have hx : (200 : Int) < (n : Int) := by omega
    simp only [putT, Nat.reduceLT, T_set, X_assign, ev_T, lk_cons, Nat.reduceEqDiff, if_false, if_true, X_nil, thenQ_normal, W_seq, w9_2, l1, X_move, X_len EE_sym, len_slice und_22, okI_some, X_bin EE_sym (op := .gtr) rfl, ev_const, bin_gtr, hx, decide_true, X_guard EE_sym, T_get, GDi_tf, X_pick EE_sym, pickV_bool, W_cond, CDi_t, w9_4, w9_3, Mem.next_bump, Nat.le_add_right_of_le, bump_bump, Nat.reduceAdd, W_ret, thenQ_ret, FinX_ret, resA_tmp, resA_nil, Option.map_some, oneOr1, true_and]
    exact RawE.of (by simp only [Mem.next_bump]; omega) fun y hy => n1.old y hy
  have hx : ¬ (200 : Int) < (n : Int) := by omega
  simp only [putT, Nat.reduceLT, T_set, X_assign, ev_T, lk_cons, Nat.reduceEqDiff, if_false, if_true, X_nil, thenQ_normal, W_seq, w9_2, l1, X_move, X_len EE_sym, len_slice und_22, okI_some, X_bin EE_sym (op := .gtr) rfl, ev_const, bin_gtr, hx, decide_false, X_guard EE_sym, T_get, GDi_ff, X_un EE_sym, un_not, Bool.not_true, X_pick EE_sym, pickV_bool, Bool.false_eq_true, W_cond, CDi_f, W_skip, w9_5, Mem.next_bump, Nat.le_add_right_of_le, bump_bump, Nat.reduceAdd, X_call ca_11, List.map_cons, List.map_nil, true_and]
  obtain ⟨p, m2, c2, n2, s2⟩ := grown_ok (m := m1.bump 10) n1.fresh.bump (Ops.old hm hl (fun y hy => n1.old y hy)) (by omega)
  refine CallI.con0 c2 ?_
  obtain ⟨f, dd, w, v, N, s, d, W, hS, hI, hd⟩ := s2
  obtain ⟨cp, hp, hc⟩ := hS.hp
  have l2 := n2.next
  rw [Mem.next_bump] at l2
  have l2q : m.next ≤ m2.next := by omega
  have hpl := n2.fresh.lt hp
  have hfl := n2.fresh.lt hS.hf
  have hdl := n2.fresh.lt hS.hd
  have hlf := hS.lf
  have hld := hS.ld
  rw [Mem.next_bump] at hlf hld
  have pf : ¬ p = f := hS.pf
  have pd : ¬ p = dd := hS.pd
  have fd : ¬ dd = f := hS.fd.symm
  have fdq : ¬ f = dd := hS.fd
  have old2 : ∀ y, y < m.next → m2.get y = m.get y := fun y hy => by rw [n2.old y (by rw [Mem.next_bump]; omega), Mem.get_bump, n1.old y hy]
  have hyf : ∀ y, y < m.next → ¬ y = f := fun y hy => by omega
  have hyd : ∀ y, y < m.next → ¬ y = dd := fun y hy => by omega
  have hwi : ∀ x : Nat, x < 64 → IntKind.i64.wrap ((x : Int) + 1) = ((x + 1 : Nat) : Int) := fun x hx => by rw [wrap_i64 (by omega) (by omega)]; omega
  simp only [putT, Nat.reduceLT, T_set, X_assign, ev_T, lk_cons, Nat.reduceEqDiff, if_false, if_true, X_nil, thenQ_normal, W_seq, w9_6, l2q, ev_const, W_block, w9_17, true_and]
  refine WX.loop_of (fun x t M => ∃ i : Nat, i ≤ 64 ∧ x = 64 - i ∧ t = T 162 [(5, In i), (4, PT p), (3, .bool true)] ∧ m2.next ≤ M.next ∧ (∀ y, y < m2.next → y ≠ f → M.get y = m2.get y) ∧ ∃ s' : FS, FAt M f 0 s' ∧ ∀ j, j < i → s'.r j ≠ 0) ?_ (k := 64) (t1 := T 162 [(5, In (0 : Nat)), (4, PT p), (3, .bool true)]) (View.temps ⟨rfl, rfl, rfl, trivial⟩) ⟨0, by omega, rfl, rfl, by simp only [Mem.next_bump]; omega, fun y hy _ => rfl, s, hS.hf, fun j hj => absurd hj (Nat.not_lt_zero j)⟩
  rintro x t M ⟨i, hi, rfl, rfl, hnx, old, s', hf, hr⟩
  have hnz : m.next ≤ M.next := by omega
  have Mp : M.get p = some (.cells cp true 0) := by rw [old p hpl pf, hp]
  by_cases hi2 : i < 64
  · have g1 : (i : Int) < 64 := by omega
    have hw := hwi i hi2
    have f0 := lt_ne (Nat.lt_of_lt_of_le hfl hnx)
    have p0 := lt_ne (Nat.lt_of_lt_of_le hpl hnx)
    have htm : ((i : Int)).tmod 16 = ((i % 16 : Nat) : Int) := tmodn (n := 16)
    have hk : i % 16 < 16 := Nat.mod_lt _ (by decide)
    generalize i % 16 = k at htm hk
    simp only [w9_16, W_seq, w9_7, hnz, X_move, Nat.reduceLT, ev_T, lk_cons, Nat.reduceEqDiff, if_false, if_true, T_set, X_bin EE_sym (op := .lss) rfl, ev_const, bin_lss, g1, decide_true, okI_some, X_nil, ne_eq, thenQ_normal, W_cond, CDi_t, W_skip, W_block, w9_14, w9_8, Mem.next_bump, Nat.le_add_right_of_le, bump_bump, Nat.reduceAdd, X_nilCheck EE_sym, nilV_ptr, X_fieldAddr EE_sym fo_31_0, offV_ptr, Nat.add_zero, X_load EE_sym, load1 lay_26, Mem.get_bump, Mp, ld1_cells, hc.c0, X_call ca_13, List.map_cons, List.map_nil, true_and]
    refine CallI.con0 (get_k (s := s') (sz := 0) (by simp only [FAt, Mem.get_bump]; exact hf) hi2) ?_
    by_cases h0 : s'.r i = 0
    · have e0 : (!decide (s'.r i = 0)) = false := by rw [h0]; rfl
      simp only [e0, putT, Nat.reduceLT, T_set, X_move, ev_T, lk_cons, Nat.reduceEqDiff, if_false, if_true, X_extract EE_sym, List.getElem?_toArray, List.getElem?_cons_zero, okI_some, List.getElem?_cons_succ, X_alloc, zero_34, Nat.add_assoc, Nat.reduceAdd, put_bump, X_store, store1 sz_34, Mem.get_bump, Mem.get_put, cells_agg, st1_cells, List.length_cons, List.length_nil, Nat.zero_add, ofList_n, Nat.le_refl, List.all_cons, oneCell, List.all_nil, Bool.and_self, and_self, X_assign, X_nil, thenQ_normal, W_seq, w9_9, Mem.next_bump, Mem.next_put, hnz, Nat.le_add_right_of_le, bump_bump, W_cond, CDi_f, W_skip, w9_10, X_nilCheck EE_sym, nilV_ptr, X_fieldAddr EE_sym fo_31_0, offV_ptr, Nat.add_zero, X_load EE_sym, load1 lay_26, p0, Mp, ld1_cells, hc.c0, X_bin EE_sym (op := .rem) rfl, ev_const, bin_rem (b := 16) (by decide), htm, X_build EE_sym, List.map_cons, List.map_nil, b34p, X_call ca_21, true_and]
      refine CallI.con0 (open_at (s := s') (sz := 0) (k := i) (by simp only [FAt, Mem.get_bump, Mem.get_put, f0, if_false]; exact hf) (by omega) (by omega) hi2 h0 hr) ?_
      have e1 : (s'.set i k false 1).r i = 1 := by simp [FS.set]
      simp only [put_bump, putT, Nat.reduceLT, T_set, X_move, ev_T, lk_cons, Nat.reduceEqDiff, if_false, if_true, X_extract EE_sym, List.getElem?_toArray, List.getElem?_cons_zero, okI_some, List.getElem?_cons_succ, X_assign, X_nil, thenQ_normal, W_seq, w9_11, Mem.next_bump, Mem.next_put, hnz, Nat.le_add_right_of_le, bump_bump, Nat.reduceAdd, X_neq EE_sym, ev_const, neq_int, decide_true, Bool.not_true, X_guard EE_sym, T_get, GDi_ff, X_pick EE_sym, pickV_bool, Bool.false_eq_true, X_nilCheck EE_sym, nilV_ptr, X_fieldAddr EE_sym fo_31_0, offV_ptr, Nat.add_zero, X_load EE_sym, load1 lay_26, Mem.get_bump, Mem.get_put, pf, p0, Mp, ld1_cells, hc.c0, X_call ca_14, List.map_cons, List.map_nil, true_and]
      refine CallI.con0 (refs_k (s := s'.set i k false 1) (sz := 0) (by simp only [FAt, Mem.get_bump, Mem.get_put, if_true]) hi2) ?_
      simp only [e1, putT, Nat.reduceLT, T_set, X_guard EE_sym, T_get, lk_cons, Nat.reduceEqDiff, if_false, if_true, GDi_ff, X_neq EE_sym, ev_T, ev_const, neq_int, decide_true, Bool.not_true, okI_some, X_pick EE_sym, pickV_bool, Bool.false_eq_true, X_nil, thenQ_normal, W_cond, CDi_f, W_skip, blockQ_normal, w9_15, Mem.next_bump, Mem.next_put, hnz, Nat.le_add_right_of_le, bump_bump, Nat.reduceAdd, X_move, X_bin EE_sym (op := .add) rfl, bin_add, hw, X_assign, roundQ_normal, true_and]
      exact ⟨64 - (i + 1), _, _, by omega, View.temps (l' := [(5, In ((i + 1 : Nat) : Int)), (4, PT p), (3, .bool true)]) ⟨rfl, rfl, rfl, trivial⟩, i + 1, by omega, rfl, rfl, by simp only [Mem.next_bump, Mem.next_put]; omega, fun y hy hyf => by simp only [Mem.get_bump, Mem.get_put, hyf, lt_ne (Nat.lt_of_lt_of_le hy hnx), if_false]; exact old y hy hyf, s'.set i k false 1, by simp only [FAt, Mem.get_bump, Mem.get_put, if_true], fun j hj => by
        by_cases hji : j = i
        · subst hji; rw [e1]; decide
        · simp only [FS.set, hji, if_false]; exact hr j (by omega)⟩
    · have e0 : (!decide (s'.r i = 0)) = true := by simpa using h0
      simp only [e0, putT, Nat.reduceLT, T_set, X_move, ev_T, lk_cons, Nat.reduceEqDiff, if_false, if_true, X_extract EE_sym, List.getElem?_toArray, List.getElem?_cons_zero, okI_some, List.getElem?_cons_succ, X_alloc, zero_34, Nat.add_assoc, Nat.reduceAdd, put_bump, X_store, store1 sz_34, Mem.get_bump, Mem.get_put, cells_agg, st1_cells, List.length_cons, List.length_nil, Nat.zero_add, ofList_n, Nat.le_refl, List.all_cons, oneCell, List.all_nil, Bool.and_self, and_self, X_assign, X_nil, thenQ_normal, W_seq, w9_9, Mem.next_bump, Mem.next_put, hnz, Nat.le_add_right_of_le, bump_bump, W_cond, CDi_t, W_exit, thenQ_exit, blockQ_exit, w9_15, X_bin EE_sym (op := .add) rfl, ev_const, bin_add, hw, roundQ_normal, true_and]
      exact ⟨64 - (i + 1), _, _, by omega, View.temps (l' := [(5, In ((i + 1 : Nat) : Int)), (4, PT p), (3, .bool true)]) ⟨rfl, rfl, rfl, trivial⟩, i + 1, by omega, rfl, rfl, by simp only [Mem.next_bump, Mem.next_put]; omega, fun y hy hyf => by simp only [Mem.get_bump, Mem.get_put, lt_ne (Nat.lt_of_lt_of_le hy hnx), if_false]; exact old y hy hyf, s', by simp only [FAt, Mem.get_bump, Mem.get_put, f0, if_false]; exact hf, fun j hj => by
        by_cases hji : j = i
        · subst hji; exact h0
        · exact hr j (by omega)⟩
  have gx : ¬ (i : Int) < 64 := by omega
  obtain rfl : i = 64 := by omega
  simp only [w9_16, W_seq, w9_7, hnz, X_move, Nat.reduceLT, ev_T, lk_cons, Nat.reduceEqDiff, if_false, if_true, T_set, X_bin EE_sym (op := .lss) rfl, ev_const, bin_lss, gx, decide_false, okI_some, X_nil, ne_eq, Nat.reduceSub, thenQ_normal, W_cond, CDi_f, W_exit, thenQ_exit, roundQ_exit, blockQ_exit, w9_18, Mem.next_bump, Nat.le_add_right_of_le, bump_bump, Nat.reduceAdd, X_assign, W_block, w9_28, true_and]
  have Md : DAt M dd 0 d := by rw [DAt, old dd hdl fd]; exact hS.hd
  refine WX.loop_of (fun x t M' => ∃ i : Nat, i ≤ 8 ∧ x = 8 - i ∧ t = T 162 [(10, In i), (4, PT p), (3, .bool true)] ∧ M.next ≤ M'.next ∧ (∀ y, y < M.next → y ≠ dd → M'.get y = M.get y) ∧ ∃ d' : Nat → Int, DOk d' ∧ DAt M' dd 0 d' ∧ ∀ j, j < i → d' j ≠ 0) ?_ (k := 8) (t1 := T 162 [(10, In (0 : Nat)), (4, PT p), (3, .bool true)]) (View.temps ⟨rfl, rfl, rfl, trivial⟩) ⟨0, by omega, rfl, rfl, by simp only [Mem.next_bump]; omega, fun y hy _ => rfl, d, hd, Md, fun j hj => absurd hj (Nat.not_lt_zero j)⟩
  rintro x t M' ⟨i, hi, rfl, rfl, hnx', old', d', hd', Md', hr'⟩
  have hnzq : m.next ≤ M'.next := by omega
  have Mpq : M'.get p = some (.cells cp true 0) := by rw [old' p (by omega) pd, Mp]
  by_cases hi2 : i < 8
  · have g1 : (i : Int) < 8 := by omega
    have hw := hwi i (by omega)
    have hdi := hd' i
    simp only [w9_27, W_seq, w9_19, hnzq, X_move, Nat.reduceLT, ev_T, lk_cons, Nat.reduceEqDiff, if_false, if_true, T_set, X_bin EE_sym (op := .lss) rfl, ev_const, bin_lss, g1, decide_true, okI_some, X_nil, ne_eq, thenQ_normal, W_cond, CDi_t, W_skip, W_block, w9_25, w9_20, Mem.next_bump, Nat.le_add_right_of_le, bump_bump, Nat.reduceAdd, X_nilCheck EE_sym, nilV_ptr, X_fieldAddr EE_sym fo_31_1, offV_ptr, Nat.zero_add, X_load EE_sym, load1 lay_27, Mem.get_bump, Mpq, ld1_cells, hc.c1, X_call ca_23, List.map_cons, List.map_nil, true_and]
    refine CallI.con0 (fd_k (d := d') (sz := 0) (by simp only [DAt, Mem.get_bump]; exact Md') hd' hi2) ?_
    by_cases h0 : d' i = 0
    · have z1 : ¬ 0 ≤ d' i - 1 := by omega
      simp only [putT, Nat.reduceLT, T_set, X_bin EE_sym (op := .geq) rfl, ev_T, lk_cons, Nat.reduceEqDiff, if_false, if_true, ev_const, bin_geq, z1, decide_false, okI_some, X_nil, thenQ_normal, W_cond, CDi_f, W_skip, W_seq, w9_21, Mem.next_bump, hnzq, Nat.le_add_right_of_le, bump_bump, Nat.reduceAdd, X_move, X_nilCheck EE_sym, nilV_ptr, X_fieldAddr EE_sym fo_31_1, offV_ptr, Nat.zero_add, X_load EE_sym, load1 lay_27, Mem.get_bump, Mpq, ld1_cells, hc.c1, X_call ca_33, List.map_cons, List.map_nil, true_and]
      have hd2 : DOk (dset d' i (i + 1)) := hd'.set (by omega) (by omega)
      have e1 : dset d' i (i + 1) i - 1 = i := by unfold dset; rw [if_pos rfl]; omega
      refine CallI.con0 (put_at (d := d') (sz := 0) (k := i) (by simp only [DAt, Mem.get_bump]; exact Md') hd' (by omega) (by omega) hi2 h0 hr') ?_
      simp only [put_bump, putT, Nat.reduceLT, T_set, X_move, ev_T, lk_cons, Nat.reduceEqDiff, if_false, if_true, X_extract EE_sym, List.getElem?_toArray, List.getElem?_cons_zero, okI_some, List.getElem?_cons_succ, X_assign, X_nil, thenQ_normal, W_seq, w9_22, Mem.next_bump, Mem.next_put, hnzq, Nat.le_add_right_of_le, bump_bump, Nat.reduceAdd, X_neq EE_sym, ev_const, neq_int, decide_true, Bool.not_true, X_guard EE_sym, T_get, GDi_ff, X_pick EE_sym, pickV_bool, Bool.false_eq_true, X_nilCheck EE_sym, nilV_ptr, X_fieldAddr EE_sym fo_31_1, offV_ptr, Nat.zero_add, X_load EE_sym, load1 lay_27, Mem.get_bump, Mem.get_put, pd, Mpq, ld1_cells, hc.c1, X_call ca_23, List.map_cons, List.map_nil, true_and]
      refine CallI.con0 (fd_k (d := dset d' i (i + 1)) (sz := 0) (by simp only [DAt, Mem.get_bump, Mem.get_put, if_true]) hd2 hi2) ?_
      simp only [e1, putT, Nat.reduceLT, T_set, X_guard EE_sym, T_get, lk_cons, Nat.reduceEqDiff, if_false, if_true, GDi_ff, X_move, ev_T, X_neq EE_sym, neq_int, decide_true, Bool.not_true, okI_some, X_pick EE_sym, ev_const, pickV_bool, Bool.false_eq_true, X_nil, thenQ_normal, W_cond, CDi_f, W_skip, blockQ_normal, w9_26, Mem.next_bump, Mem.next_put, hnzq, Nat.le_add_right_of_le, bump_bump, Nat.reduceAdd, X_bin EE_sym (op := .add) rfl, bin_add, hw, X_assign, roundQ_normal, true_and]
      exact ⟨8 - (i + 1), _, _, by omega, View.temps (l' := [(10, In ((i + 1 : Nat) : Int)), (4, PT p), (3, .bool true)]) ⟨rfl, rfl, rfl, trivial⟩, i + 1, by omega, rfl, rfl, by simp only [Mem.next_bump, Mem.next_put]; omega, fun y hy hyf => by simp only [Mem.get_bump, Mem.get_put, hyf, if_false]; exact old' y hy hyf, dset d' i (i + 1), hd2, by simp only [DAt, Mem.get_bump, Mem.get_put, if_true], fun j hj => by
        unfold dset
        by_cases hji : j = i
        · rw [if_pos hji]; omega
        · rw [if_neg hji]; exact hr' j (by omega)⟩
    · have z1 : 0 ≤ d' i - 1 := by omega
      simp only [putT, Nat.reduceLT, T_set, X_bin EE_sym (op := .geq) rfl, ev_T, lk_cons, Nat.reduceEqDiff, if_false, if_true, ev_const, bin_geq, z1, decide_true, okI_some, X_nil, thenQ_normal, W_cond, CDi_t, W_exit, thenQ_exit, blockQ_exit, w9_26, Mem.next_bump, hnzq, Nat.le_add_right_of_le, bump_bump, Nat.reduceAdd, X_move, X_bin EE_sym (op := .add) rfl, bin_add, hw, X_assign, roundQ_normal, true_and]
      exact ⟨8 - (i + 1), _, _, by omega, View.temps (l' := [(10, In ((i + 1 : Nat) : Int)), (4, PT p), (3, .bool true)]) ⟨rfl, rfl, rfl, trivial⟩, i + 1, by omega, rfl, rfl, by simp only [Mem.next_bump]; omega, fun y hy hyf => old' y hy hyf, d', hd', Md', fun j hj => by
        by_cases hji : j = i
        · subst hji; exact h0
        · exact hr' j (by omega)⟩
  have gy : ¬ (i : Int) < 8 := by omega
  obtain rfl : i = 8 := by omega
  have Mf' : FAt M' f 0 s' := by rw [FAt, old' f (by omega) fdq]; exact hf
  have eu : (usedL s' 64).length = 64 := usedL_all hr
  have ek : (keptL d' 8).length = 8 := DOk.full hr'
  have e64 : ((64 : Nat) : Int) = 64 := rfl
  have e8 : ((8 : Nat) : Int) = 8 := rfl
  simp only [w9_27, W_seq, w9_19, hnzq, X_move, Nat.reduceLT, ev_T, lk_cons, Nat.reduceEqDiff, if_false, if_true, T_set, X_bin EE_sym (op := .lss) rfl, ev_const, bin_lss, gy, decide_false, okI_some, X_nil, ne_eq, Nat.reduceSub, thenQ_normal, W_cond, CDi_f, W_exit, thenQ_exit, roundQ_exit, blockQ_exit, w9_29, Mem.next_bump, Nat.le_add_right_of_le, bump_bump, Nat.reduceAdd, X_nilCheck EE_sym, nilV_ptr, X_fieldAddr EE_sym fo_31_0, offV_ptr, Nat.add_zero, X_load EE_sym, load1 lay_26, Mem.get_bump, Mpq, ld1_cells, hc.c0, X_build EE_sym, List.map_nil, b34, X_call ca_21, List.map_cons, true_and]
  refine CallI.con0 (open_full (s := s') (sz := 0) (by simp only [FAt, Mem.get_bump]; exact Mf') (by decide) (by decide) hr) ?_
  simp only [putT, Nat.reduceLT, T_set, X_move, ev_T, lk_cons, Nat.reduceEqDiff, if_false, if_true, X_extract EE_sym, List.getElem?_toArray, List.getElem?_cons_zero, okI_some, List.getElem?_cons_succ, X_assign, X_nil, thenQ_normal, W_seq, w9_30, Mem.next_bump, hnzq, Nat.le_add_right_of_le, bump_bump, Nat.reduceAdd, X_nilCheck EE_sym, nilV_ptr, X_fieldAddr EE_sym fo_31_1, offV_ptr, Nat.zero_add, X_load EE_sym, load1 lay_27, Mem.get_bump, Mpq, ld1_cells, hc.c1, X_call ca_33, List.map_cons, ev_const, List.map_nil, true_and]
  refine CallI.con0 (put_full (d := d') (sz := 0) (by simp only [DAt, Mem.get_bump]; exact Md') hd' (by decide) (by decide) hr') ?_
  simp only [putT, Nat.reduceLT, T_set, X_move, ev_T, lk_cons, Nat.reduceEqDiff, if_false, if_true, X_extract EE_sym, List.getElem?_toArray, List.getElem?_cons_zero, okI_some, List.getElem?_cons_succ, X_assign, X_nil, thenQ_normal, W_seq, w9_31, Mem.next_bump, hnzq, Nat.le_add_right_of_le, bump_bump, Nat.reduceAdd, X_nilCheck EE_sym, nilV_ptr, X_fieldAddr EE_sym fo_31_1, offV_ptr, Nat.zero_add, X_load EE_sym, load1 lay_27, Mem.get_bump, Mpq, ld1_cells, hc.c1, X_call ca_25, List.map_cons, ev_const, List.map_nil, true_and]
  refine CallI.con0 (dup_full (d := d') (fd := 0) (sz := 0) (by simp only [DAt, Mem.get_bump]; exact Md') hd' ⟨by decide, by decide, hr' 0 (by decide)⟩ hr') ?_
  simp only [putT, Nat.reduceLT, T_set, X_move, ev_T, lk_cons, Nat.reduceEqDiff, if_false, if_true, X_extract EE_sym, List.getElem?_toArray, List.getElem?_cons_zero, okI_some, List.getElem?_cons_succ, X_assign, X_nil, thenQ_normal, W_seq, w9_32, Mem.next_bump, hnzq, Nat.le_add_right_of_le, bump_bump, Nat.reduceAdd, X_guard EE_sym, T_get, GDi_tt, X_eql EE_sym, ev_const, eq_int, decide_true, X_pick EE_sym, pickV_bool, X_nilCheck EE_sym, nilV_ptr, X_fieldAddr EE_sym fo_31_0, offV_ptr, Nat.add_zero, X_load EE_sym, load1 lay_26, Mem.get_bump, Mpq, ld1_cells, hc.c0, X_call ca_20, List.map_cons, List.map_nil, true_and]
  refine CallI.con0 (free_ok (s := s') (sz := 0) (by simp only [FAt, Mem.get_bump]; exact Mf')) ?_
  simp only [eu, e64, Int.sub_self, putT, Nat.reduceLT, T_set, X_guard EE_sym, T_get, lk_cons, Nat.reduceEqDiff, if_false, if_true, GDi_tt, X_eql EE_sym, ev_T, ev_const, eq_int, decide_true, okI_some, X_pick EE_sym, pickV_bool, X_move, X_nilCheck EE_sym, nilV_ptr, X_fieldAddr EE_sym fo_31_1, offV_ptr, Nat.zero_add, X_load EE_sym, load1 lay_27, Mem.get_bump, Mpq, ld1_cells, hc.c1, X_call ca_24, List.map_cons, List.map_nil]
  refine CallI.con (len_ok (d := d') (sz := 0) (by simp only [DAt, Mem.get_bump]; exact Md') hd') (by simp) ?_
  simp only [ek, e8, putT, Nat.reduceLT, T_set, X_guard EE_sym, T_get, lk_cons, Nat.reduceEqDiff, if_false, if_true, GDi_tt, X_eql EE_sym, ev_T, ev_const, eq_int, decide_true, okI_some, X_pick EE_sym, pickV_bool, X_assign, X_nil, thenQ_normal, W_ret, FinX_ret, resA_tmp, resA_nil, Option.map_some, oneOr1]
  exact RawE.of (by rw [Mem.next_bump]; omega) fun y hy => by rw [Mem.get_bump, old' y (by omega) (hyd y hy), old y (by omega) (hyf y hy), old2 y hy]
end
end
end Go.Ab
