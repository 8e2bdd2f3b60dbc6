/- FilesDups: whatever the calls and the descriptor, it answers true. -/
import Derived.Test.YthidhnbniklhmaaFiM
import Derived.Test.YthidhnbniklhmaaFiA5
namespace Go.Ab
open Go.Proofs
noncomputable section
set_option maxHeartbeats 4000000
section
variable {m : Mem} {l : Value} {n b : Nat}
theorem dups_ok (hm : Fresh m) (hl : Ops m l n) (hb : b < 256) : ∃ m', Con EE.P 5 [l, .int .u8 b] m (.bool true) m' := by
  refine Con.raw1 fn5 (Nat.le_of_ble_eq_true rfl) ?_
  obtain ⟨aa, C, rfl, hl2⟩ := id hl
  simp only [f5, enumV, Nat.zero_add, w5, W_seq, w5_0, Nat.le_refl, X_assign, ev_const, Nat.reduceLT, T_set, X_nil, thenQ_normal, w5_1, Mem.next_bump, Nat.le_add_right, bump_bump, Nat.reduceAdd, X_call ca_10, List.map_nil, true_and]
  refine CallI.ex (R := Nx m) (by obtain ⟨m', h1, h2⟩ := alive_ok (m := m.bump 3) hm.bump; exact ⟨m', h1, h2.mono⟩) fun m1 n1 => ?_
  have l1 := n1.next
  by_cases hn : 200 < n
  · have hx : (200 : Int) < (n : Int) := by omega
    simp only [putT, Nat.reduceLT, T_set, X_assign, ev_T, lk_cons, Nat.reduceEqDiff, if_false, if_true, X_nil, thenQ_normal, W_seq, w5_2, l1, X_move, Nat.one_ne_zero, X_len EE_sym, len_slice und_22, okI_some, X_bin EE_sym (op := .gtr) rfl, ev_const, bin_gtr, hx, decide_true, X_guard EE_sym, T_get, GDi_tf, X_pick EE_sym, pickV_bool, W_cond, CDi_t, w5_4, w5_3, Mem.next_bump, Nat.le_add_right_of_le, bump_bump, Nat.reduceAdd, W_ret, thenQ_ret, FinX_ret, resA_tmp, resA_nil, Option.map_some, oneOr1, true_and]
    exact RawE.of (by simp only [Mem.next_bump]; omega) fun y hy => n1.old y hy
  have hx : ¬ (200 : Int) < (n : Int) := by omega
  simp only [putT, Nat.reduceLT, T_set, X_assign, ev_T, lk_cons, Nat.reduceEqDiff, if_false, if_true, X_nil, thenQ_normal, W_seq, w5_2, l1, X_move, Nat.one_ne_zero, X_len EE_sym, len_slice und_22, okI_some, X_bin EE_sym (op := .gtr) rfl, ev_const, bin_gtr, hx, decide_false, X_guard EE_sym, T_get, GDi_ff, X_un EE_sym, un_not, Bool.not_true, X_pick EE_sym, pickV_bool, Bool.false_eq_true, W_cond, CDi_f, W_skip, w5_5, Mem.next_bump, Nat.le_add_right_of_le, bump_bump, Nat.reduceAdd, X_call ca_17, List.map_nil, true_and]
  obtain ⟨p, m2, c2, h1, h2, h3, h4⟩ := fresh_ok (m := m1.bump 9) n1.fresh.bump
  refine CallI.con0 c2 ?_
  rw [Mem.next_bump] at h1
  have h1q : m.next ≤ m2.next := by omega
  simp only [putT, Nat.reduceLT, T_set, X_assign, ev_T, lk_cons, Nat.reduceEqDiff, if_false, if_true, X_nil, thenQ_normal, W_seq, w5_6, h1q, X_move, Nat.one_ne_zero, X_len EE_sym, len_slice und_22, okI_some, ev_const, W_block, w5_13, true_and]
  refine WX.loop_of (fun x t M => ∃ i : Nat, i ≤ n ∧ x = n - i ∧ t = T 139 [(28, In i), (27, In n), (6, PT p), (5, .bool true), (1, .int .u8 b), (0, .slice aa n C)] ∧ Nx m M ∧ St m.next M p i) ?_ (k := n) (t1 := T 139 [(28, In (0 : Nat)), (27, In n), (6, PT p), (5, .bool true), (1, .int .u8 b), (0, .slice aa n C)]) (View.temps ⟨rfl, rfl, rfl, rfl, rfl, rfl, trivial⟩) ⟨0, by omega, rfl, rfl, ⟨by simp only [Mem.next_bump]; omega, h2.bump, fun y hy => by rw [Mem.get_bump, h4 y (by rw [Mem.next_bump]; omega), Mem.get_bump, n1.old y hy]⟩, ?_⟩
  · rintro x t M ⟨i, hi, rfl, rfl, hN, hS⟩
    have hnx := hN.next
    by_cases hi2 : i < n
    · have g1 : (i : Int) < (n : Int) := by omega
      have g2 : (0 : Int) ≤ i := by omega
      rcases hl2 with hl2 | ⟨L, cs, ww, z, rfl, e1, e2⟩
      · omega
      obtain ⟨k, pp, w', nn, fd, e3⟩ := e2 i hi2
      have e4 : M.get L = some (.cells cs ww z) := by rw [hN.old L (hm.lt e1), e1]
      have hw : IntKind.i64.wrap ((i : Int) + 1) = ((i + 1 : Nat) : Int) := by rw [wrap_i64 (by omega) (by omega)]; omega
      simp only [w5_12, W_seq, w5_7, hnx, X_bin EE_sym (op := .lss) rfl, Nat.reduceLT, ev_T, lk_cons, Nat.reduceEqDiff, if_false, if_true, bin_lss, g1, decide_true, okI_some, T_set, X_nil, thenQ_normal, W_cond, CDi_t, W_skip, W_block, w5_10, w5_8, Mem.next_bump, Nat.le_add_right_of_le, bump_bump, Nat.reduceAdd, X_move, X_assign, w5_9, Nat.one_ne_zero, X_indexAddr EE_sym, g2, idxV_slice und_22 sz_46, Int.toNat_natCast, Nat.zero_add, X_load EE_sym, loadN lay_46, Mem.get_bump, e4, ldN_cells, e3, Option.map_some, X_call ca_18, List.map_cons, List.map_nil, true_and]
      refine CallI.ex (do_St (a := m.next) (B := i) (by omega) hN.fresh.bump (by rw [Mem.next_bump]; omega) hS.bump) fun m3 h5 => ?_
      have hnx2 : m.next ≤ m3.next := by have := h5.next; rw [Mem.next_bump] at this; omega
      simp only [putT, Nat.reduceLT, T_set, X_nil, blockQ_normal, thenQ_normal, w5_11, hnx2, X_bin EE_sym (op := .add) rfl, ev_T, lk_cons, Nat.reduceEqDiff, if_false, if_true, ev_const, bin_add, hw, okI_some, X_move, roundQ_normal, true_and]
      exact ⟨n - (i + 1), _, _, by omega, View.temps (l' := [(28, In ((i + 1 : Nat) : Int)), (27, In n), (6, PT p), (5, .bool true), (1, .int .u8 b), (0, .slice (some ⟨L, 0, none⟩) n C)]) ⟨rfl, rfl, rfl, rfl, rfl, rfl, trivial⟩, i + 1, by omega, rfl, rfl, ⟨by simp only [Mem.next_bump]; omega, h5.fresh.bump, fun y hy => by rw [Mem.get_bump, h5.old y hy, Mem.get_bump, hN.old y hy]⟩, h5.st.bump⟩
    · have gx : ¬ (i : Int) < (n : Int) := by omega
      obtain ⟨f, dd, w, v, N, s, d, W, hSh, hI, hd⟩ := hS
      obtain ⟨cp, hp, hc⟩ := hSh.hp
      have d0 := fun j => hN.fresh.ne hSh.hd j
      have p0 := fun j => hN.fresh.ne hp j
      have pd : ¬ p = dd := hSh.pd
      have hcv := ofn (n := 0) hb
      have htm : ((b : Int)).tmod 8 = ((b % 8 : Nat) : Int) := tmodn (n := 8)
      have hk : b % 8 < 8 := Nat.mod_lt _ (by decide)
      generalize b % 8 = k at htm hk
      simp only [w5_12, W_seq, w5_7, hnx, X_bin EE_sym (op := .lss) rfl, Nat.reduceLT, ev_T, lk_cons, Nat.reduceEqDiff, if_false, if_true, bin_lss, gx, decide_false, okI_some, T_set, X_nil, thenQ_normal, W_cond, CDi_f, W_exit, thenQ_exit, roundQ_exit, blockQ_exit, w5_14, Mem.next_bump, Nat.le_add_right_of_le, bump_bump, Nat.reduceAdd, X_move, X_convert EE_sym, conv_int und_3 und_5, hcv, X_bin EE_sym (op := .rem) rfl, ev_const, bin_rem (b := 8) (by decide), htm, X_assign, w5_15, X_nilCheck EE_sym, nilV_ptr, X_fieldAddr EE_sym fo_31_1, offV_ptr, Nat.zero_add, X_load EE_sym, load1 lay_27, Mem.get_bump, hp, ld1_cells, hc.c1, X_call ca_23, List.map_cons, List.map_nil, true_and]
      refine CallI.con0 (fd_k (d := d) (sz := 0) (by simp only [DAt, Mem.get_bump]; exact hSh.hd) hd hk) ?_
      simp only [putT, Nat.reduceLT, T_set, X_assign, ev_T, lk_cons, Nat.reduceEqDiff, if_false, if_true, X_nil, thenQ_normal, W_seq, w5_16, Mem.next_bump, hnx, Nat.le_add_right_of_le, bump_bump, Nat.reduceAdd, X_move, X_nilCheck EE_sym, nilV_ptr, okI_some, X_fieldAddr EE_sym fo_31_1, offV_ptr, Nat.zero_add, X_load EE_sym, load1 lay_27, Mem.get_bump, hp, ld1_cells, hc.c1, X_call ca_24, List.map_cons, List.map_nil, true_and]
      refine CallI.con0 (len_ok (d := d) (sz := 0) (by simp only [DAt, Mem.get_bump]; exact hSh.hd) hd) ?_
      simp only [putT, Nat.reduceLT, T_set, X_assign, ev_T, lk_cons, Nat.reduceEqDiff, if_false, if_true, X_nil, thenQ_normal, W_seq, w5_17, Mem.next_bump, hnx, Nat.le_add_right_of_le, bump_bump, Nat.reduceAdd, X_move, X_nilCheck EE_sym, nilV_ptr, okI_some, X_fieldAddr EE_sym fo_31_1, offV_ptr, Nat.zero_add, X_load EE_sym, load1 lay_27, Mem.get_bump, hp, ld1_cells, hc.c1, X_call ca_25, List.map_cons, List.map_nil, true_and]
      have hdk := hd k
      have endq : ∀ j, RawE m (M.bump j) (.bool true) (fun u _ => u = .bool true) := fun j => RawE.of (by rw [Mem.next_bump]; omega) fun y hy => hN.old y hy
      by_cases h0 : d k = 0
      · have z1 : d k - 1 < 0 := by omega
        refine CallI.con0 (dup_not (d := d) (sz := 0) (by simp only [DAt, Mem.get_bump]; exact hSh.hd) hd fun e => e.2.2 h0) ?_
        simp only [putT, Nat.reduceLT, T_set, X_move, ev_T, lk_cons, Nat.reduceEqDiff, if_false, if_true, X_extract EE_sym, List.getElem?_toArray, List.getElem?_cons_zero, okI_some, List.getElem?_cons_succ, X_assign, X_nil, thenQ_normal, W_seq, w5_18, Mem.next_bump, hnx, Nat.le_add_right_of_le, bump_bump, Nat.reduceAdd, X_neq EE_sym, ev_const, neq_int, Int.reduceEq, decide_false, Bool.not_false, W_cond, CDi_t, w5_20, w5_19, X_guard EE_sym, T_get, GDi_tt, X_bin EE_sym (op := .lss) rfl, bin_lss, z1, decide_true, X_eql EE_sym, eq_int, X_pick EE_sym, pickV_bool, GDi_tf, GDi_u, W_ret, thenQ_ret, FinX_ret, resA_tmp, resA_nil, Option.map_some, oneOr1, true_and]
        exact endq _
      have z1 : ¬ d k - 1 < 0 := by omega
      by_cases hf : ∃ j, j < 8 ∧ d j = 0
      · obtain ⟨j, hj, hj0, hjl⟩ := least hf
        have hjk : k ≠ j := fun e => h0 (by rw [e]; exact hj0)
        refine CallI.con0 (dup_ok (d := d) (sz := 0) (by simp only [DAt, Mem.get_bump]; exact hSh.hd) hd (used_k hk h0) hj hj0 hjl) ?_
        simp only [Int.toNat_natCast, put_bump, putT, Nat.reduceLT, T_set, X_move, ev_T, lk_cons, Nat.reduceEqDiff, if_false, if_true, X_extract EE_sym, List.getElem?_toArray, List.getElem?_cons_zero, okI_some, List.getElem?_cons_succ, X_assign, X_nil, thenQ_normal, W_seq, w5_18, Mem.next_bump, Mem.next_put, hnx, Nat.le_add_right_of_le, bump_bump, Nat.reduceAdd, X_neq EE_sym, ev_const, neq_int, decide_true, Bool.not_true, W_cond, CDi_f, W_skip, w5_21, W_block, w5_29, true_and]
        have hpl := hN.fresh.lt hp
        have hdl := hN.fresh.lt hSh.hd
        have hld := hSh.ld
        have hyd : ∀ y, y < m.next → ¬ y = dd := fun y hy => by omega
        have hd2 : DOk (dset d j (d k)) := hd.set hdk.1 hdk.2
        have hw2 : ∀ x : Nat, x < 8 → IntKind.i64.wrap ((x : Int) + 1) = ((x + 1 : Nat) : Int) := fun x hx => by rw [wrap_i64 (by omega) (by omega)]; omega
        refine WX.loop_of (fun x t M' => ∃ i : Nat, i ≤ j ∧ x = j - i ∧ t = T 139 [(13, In i), (11, In j), (10, In (keptL d 8).length), (9, In (d k - 1)), (8, In k), (6, PT p), (5, .bool true)] ∧ M.next ≤ M'.next ∧ ∀ y, y < M.next → M'.get y = (M.put dd (.cells (dC (dset d j (d k))) true 0)).get y) ?_ (k := j) (t1 := T 139 [(13, In (0 : Nat)), (11, In j), (10, In (keptL d 8).length), (9, In (d k - 1)), (8, In k), (6, PT p), (5, .bool true)]) (View.temps ⟨rfl, rfl, rfl, rfl, rfl, rfl, rfl, trivial⟩) ⟨0, by omega, rfl, rfl, by simp only [Mem.next_bump, Mem.next_put]; omega, fun y hy => rfl⟩
        rintro x t M' ⟨i, hi, rfl, rfl, hnx3, old3⟩
        have hnx4 : m.next ≤ M'.next := by omega
        have Mp : M'.get p = some (.cells cp true 0) := by rw [old3 p hpl, Mem.get_put, if_neg pd, hp]
        have Md : DAt M' dd 0 (dset d j (d k)) := by rw [DAt, old3 dd hdl, Mem.get_put, if_pos rfl]
        by_cases hij : i < j
        · have g1 : (i : Int) < (j : Int) := by omega
          have e1 : dset d j (d k) i = d i := by unfold dset; rw [if_neg (by omega)]
          have hdi := hd i
          have hdi0 := hjl i hij
          have z2 : ¬ d i - 1 < 0 := by omega
          have hw3 := hw2 i (by omega)
          simp only [w5_28, W_seq, w5_22, hnx4, X_move, Nat.reduceLT, ev_T, lk_cons, Nat.reduceEqDiff, if_false, if_true, T_set, X_bin EE_sym (op := .lss) rfl, bin_lss, g1, decide_true, okI_some, X_nil, Mem.get_put, thenQ_normal, W_cond, CDi_t, W_skip, W_block, w5_26, w5_23, Mem.next_bump, Nat.le_add_right_of_le, bump_bump, Nat.reduceAdd, X_nilCheck EE_sym, nilV_ptr, X_fieldAddr EE_sym fo_31_1, offV_ptr, Nat.zero_add, X_load EE_sym, load1 lay_27, Mem.get_bump, Mp, ld1_cells, hc.c1, X_call ca_23, List.map_cons, List.map_nil, true_and]
          refine CallI.con0 (fd_k (d := dset d j (d k)) (sz := 0) (by simp only [DAt, Mem.get_bump]; exact Md) hd2 (by omega)) ?_
          simp only [e1, putT, Nat.reduceLT, T_set, X_bin EE_sym (op := .lss) rfl, ev_T, lk_cons, Nat.reduceEqDiff, if_false, if_true, ev_const, bin_lss, z2, decide_false, okI_some, X_nil, thenQ_normal, W_cond, CDi_f, W_skip, blockQ_normal, w5_27, Mem.next_bump, hnx4, Nat.le_add_right_of_le, bump_bump, Nat.reduceAdd, X_move, X_bin EE_sym (op := .add) rfl, bin_add, hw3, X_assign, roundQ_normal, true_and]
          exact ⟨j - (i + 1), _, _, by omega, View.temps (l' := [(13, In ((i + 1 : Nat) : Int)), (11, In j), (10, In (keptL d 8).length), (9, In (d k - 1)), (8, In k), (6, PT p), (5, .bool true)]) ⟨rfl, rfl, rfl, rfl, rfl, rfl, rfl, trivial⟩, i + 1, by omega, rfl, rfl, by simp only [Mem.next_bump]; omega, fun y hy => by rw [Mem.get_bump, old3 y hy, Mem.get_put]⟩
        · have g1 : ¬ (i : Int) < (j : Int) := by omega
          have ek : dset d j (d k) k = d k := by unfold dset; rw [if_neg hjk]
          have hd3 : DOk (dset (dset d j (d k)) k 0) := hd2.set (Int.le_refl 0) (by decide)
          have ek3 : dset (dset d j (d k)) k 0 k = 0 := by unfold dset; rw [if_pos rfl]
          have ej3 : dset (dset d j (d k)) k 0 j = d k := by unfold dset; rw [if_neg (Ne.symm hjk), if_pos rfl]
          have el3 : (keptL (dset (dset d j (d k)) k 0) 8).length = (keptL d 8).length := by
            have a1 := keptL_put (d := d) (k := j) (x := d k) hj0 h0 8 hj
            have a2 := keptL_clear (d := dset d j (d k)) (k := k) (n := 8) (by rw [ek]; exact h0) hk
            omega
          simp only [w5_28, W_seq, w5_22, hnx4, X_move, Nat.reduceLT, ev_T, lk_cons, Nat.reduceEqDiff, if_false, if_true, T_set, X_bin EE_sym (op := .lss) rfl, bin_lss, g1, decide_false, okI_some, X_nil, Mem.get_put, thenQ_normal, W_cond, CDi_f, W_exit, thenQ_exit, roundQ_exit, blockQ_exit, w5_30, Mem.next_bump, Nat.le_add_right_of_le, bump_bump, Nat.reduceAdd, X_nilCheck EE_sym, nilV_ptr, X_fieldAddr EE_sym fo_31_1, offV_ptr, Nat.zero_add, X_load EE_sym, load1 lay_27, Mem.get_bump, Mp, ld1_cells, hc.c1, X_call ca_26, List.map_cons, List.map_nil, true_and]
          refine CallI.con0 (close_k1 (d := dset d j (d k)) (sz := 0) (by simp only [DAt, Mem.get_bump]; exact Md) hd2 hk (by rw [ek]; exact h0)) ?_
          simp only [ek, put_bump, putT, Nat.reduceLT, T_set, X_move, ev_T, lk_cons, Nat.reduceEqDiff, if_false, if_true, X_extract EE_sym, List.getElem?_toArray, List.getElem?_cons_zero, okI_some, List.getElem?_cons_succ, X_assign, X_nil, thenQ_normal, W_seq, w5_31, Mem.next_bump, Mem.next_put, hnx4, Nat.le_add_right_of_le, bump_bump, Nat.reduceAdd, X_guard EE_sym, T_get, GDi_tt, X_eql EE_sym, ev_const, eq_int, decide_true, X_pick EE_sym, pickV_bool, X_nilCheck EE_sym, nilV_ptr, X_fieldAddr EE_sym fo_31_1, offV_ptr, Nat.zero_add, X_load EE_sym, load1 lay_27, Mem.get_bump, Mem.get_put, pd, Mp, ld1_cells, hc.c1, X_call ca_23, List.map_cons, List.map_nil, true_and]
          refine CallI.con0 (fd_k (d := dset (dset d j (d k)) k 0) (sz := 0) (by simp only [DAt, Mem.get_bump, Mem.get_put, if_true]) hd3 hj) ?_
          simp only [ej3, putT, Nat.reduceLT, T_set, X_guard EE_sym, T_get, lk_cons, Nat.reduceEqDiff, if_false, if_true, GDi_tt, X_move, ev_T, X_eql EE_sym, eq_int, decide_true, okI_some, X_pick EE_sym, ev_const, pickV_bool, X_nilCheck EE_sym, nilV_ptr, X_fieldAddr EE_sym fo_31_1, offV_ptr, Nat.zero_add, X_load EE_sym, load1 lay_27, Mem.get_bump, Mem.get_put, pd, Mp, ld1_cells, hc.c1, X_call ca_23, List.map_cons, List.map_nil]
          refine CallI.con (fd_k (d := dset (dset d j (d k)) k 0) (sz := 0) (by simp only [DAt, Mem.get_bump, Mem.get_put, if_true]) hd3 hk) (by simp; omega) ?_
          simp only [Int.reduceNeg, ek3, Int.reduceSub, putT, Nat.reduceLT, T_set, X_guard EE_sym, T_get, lk_cons, Nat.reduceEqDiff, if_false, if_true, GDi_tt, X_eql EE_sym, ev_T, ev_const, eq_int, decide_true, okI_some, X_pick EE_sym, pickV_bool, X_move, X_nilCheck EE_sym, nilV_ptr, X_fieldAddr EE_sym fo_31_1, offV_ptr, Nat.zero_add, X_load EE_sym, load1 lay_27, Mem.get_bump, Mem.get_put, pd, Mp, ld1_cells, hc.c1, X_call ca_24, List.map_cons, List.map_nil]
          refine CallI.con (len_ok (d := dset (dset d j (d k)) k 0) (sz := 0) (by simp only [DAt, Mem.get_bump, Mem.get_put, if_true]) hd3) (by simp) ?_
          simp only [el3, putT, Nat.reduceLT, T_set, X_guard EE_sym, T_get, lk_cons, Nat.reduceEqDiff, if_false, if_true, GDi_tt, X_move, ev_T, X_eql EE_sym, eq_int, decide_true, okI_some, X_pick EE_sym, ev_const, pickV_bool, X_assign, X_nil, thenQ_normal, W_ret, FinX_ret, resA_tmp, resA_nil, Option.map_some, oneOr1]
          exact RawE.of (by simp only [Mem.next_bump, Mem.next_put]; omega) fun y hy => by
            rw [Mem.get_bump, Mem.get_put, if_neg (hyd y hy), old3 y (by omega), Mem.get_put, if_neg (hyd y hy), hN.old y hy]
      · have hf' : ∀ j, j < 8 → d j ≠ 0 := fun j hj e => hf ⟨j, hj, e⟩
        have e8 : (keptL d 8).length = 8 := by rw [keptL_all hf', List.length_range]
        have e8x : ((8 : Nat) : Int) = 8 := rfl
        refine CallI.con0 (dup_full (d := d) (sz := 0) (by simp only [DAt, Mem.get_bump]; exact hSh.hd) hd (used_k hk h0) hf') ?_
        simp only [putT, e8, e8x, Nat.reduceLT, T_set, X_move, ev_T, lk_cons, Nat.reduceEqDiff, if_false, if_true, X_extract EE_sym, List.getElem?_toArray, List.getElem?_cons_zero, okI_some, List.getElem?_cons_succ, X_assign, X_nil, thenQ_normal, W_seq, w5_18, Mem.next_bump, hnx, Nat.le_add_right_of_le, bump_bump, Nat.reduceAdd, X_neq EE_sym, ev_const, neq_int, Int.reduceEq, decide_false, Bool.not_false, W_cond, CDi_t, w5_20, w5_19, X_guard EE_sym, T_get, GDi_tt, X_bin EE_sym (op := .lss) rfl, bin_lss, z1, GDi_ft, X_pick EE_sym, pickV_bool, Bool.false_eq_true, GDi_ff, X_eql EE_sym, eq_int, decide_true, W_ret, thenQ_ret, FinX_ret, resA_tmp, resA_nil, Option.map_some, oneOr1, true_and]
        exact endq _
  · obtain ⟨f, dd, w, v, N, s, d, W, k1, k2, k3⟩ := h3.bump (j := 3)
    rw [Mem.next_bump] at k1
    have hh : m.next ≤ m1.next + 9 := by omega
    exact ⟨f, dd, w, v, N, s, d, W, ⟨k1.hp, k1.hf, k1.hd, k1.hw, k1.hv, k1.fw, Nat.le_trans hh k1.lp, Nat.le_trans hh k1.lf, Nat.le_trans hh k1.ld, Nat.le_trans hh k1.lw, Nat.le_trans hh k1.lv, Nat.le_trans hh k1.lN⟩, k2, k3⟩
end
end
end Go.Ab
