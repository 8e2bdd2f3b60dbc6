/- FilesFds: whatever the calls, the descriptor and the number, it answers true. -/
import Derived.Test.YthidhnbniklhmaaFiR
namespace Go.Ab
open Go.Proofs
noncomputable section
set_option maxHeartbeats 4000000
section
variable {m : Mem} {l : Value} {n b b2 : Nat}
theorem fds_ok (hm : Fresh m) (hl : Ops m l n) (hb : b < 256) (hb2 : b2 < 256) : ∃ m', Con EE.P 6 [l, .int .u8 b, .int .u8 b2] m (.bool true) m' := by
  refine Con.raw1 fn6 (Nat.le_of_ble_eq_true rfl) ?_
  obtain ⟨aa, C, rfl, hl2⟩ := id hl
  simp only [f6, enumV, Nat.zero_add, Nat.reduceAdd, w6, W_seq, w6_0, Nat.le_refl, X_assign, ev_const, Nat.reduceLT, T_set, X_nil, thenQ_normal, w6_1, Mem.next_bump, Nat.le_add_right, bump_bump, X_call ca_10, List.map_nil, true_and]
  refine CallI.ex (R := Nx m) (by obtain ⟨m', h1, h2⟩ := alive_ok (m := m.bump 3) hm.bump; exact ⟨m', h1, h2.mono⟩) fun m1 n1 => ?_
  have l1 := n1.next
  by_cases hn : 200 < n
  · have hx : (200 : Int) < (n : Int) := by omega
    simp only [putT, Nat.reduceLT, T_set, X_assign, ev_T, lk_cons, Nat.reduceEqDiff, if_false, if_true, X_nil, thenQ_normal, W_seq, w6_2, l1, X_move, Nat.one_ne_zero, X_len EE_sym, len_slice und_22, okI_some, X_bin EE_sym (op := .gtr) rfl, ev_const, bin_gtr, hx, decide_true, X_guard EE_sym, T_get, GDi_tf, X_pick EE_sym, pickV_bool, W_cond, CDi_t, w6_4, w6_3, Mem.next_bump, Nat.le_add_right_of_le, bump_bump, Nat.reduceAdd, W_ret, thenQ_ret, FinX_ret, resA_tmp, resA_nil, Option.map_some, oneOr1, true_and]
    exact RawE.of (by simp only [Mem.next_bump]; omega) fun y hy => n1.old y hy
  have hx : ¬ (200 : Int) < (n : Int) := by omega
  simp only [putT, Nat.reduceLT, T_set, X_assign, ev_T, lk_cons, Nat.reduceEqDiff, if_false, if_true, X_nil, thenQ_normal, W_seq, w6_2, l1, X_move, Nat.one_ne_zero, X_len EE_sym, len_slice und_22, okI_some, X_bin EE_sym (op := .gtr) rfl, ev_const, bin_gtr, hx, decide_false, X_guard EE_sym, T_get, GDi_ff, X_un EE_sym, un_not, Bool.not_true, X_pick EE_sym, pickV_bool, Bool.false_eq_true, W_cond, CDi_f, W_skip, w6_5, Mem.next_bump, Nat.le_add_right_of_le, bump_bump, Nat.reduceAdd, X_call ca_11, List.map_cons, List.map_nil, true_and]
  obtain ⟨p, m2, c2, n2, s2⟩ := grown_ok (m := m1.bump 10) n1.fresh.bump (Ops.old hm hl (fun y hy => n1.old y hy)) (by omega)
  refine CallI.con0 c2 ?_
  obtain ⟨f, dd, w, v, N, s, d, W, hS, hI, hd⟩ := s2
  obtain ⟨cp, hp, hc⟩ := hS.hp
  have l2 := n2.next
  rw [Mem.next_bump] at l2
  have l2q : m.next ≤ m2.next := by omega
  have p0 := fun j => n2.fresh.ne hp j
  have d0 := fun j => n2.fresh.ne hS.hd j
  have old2 : ∀ y, y < m.next → m2.get y = m.get y := fun y hy => by rw [n2.old y (by rw [Mem.next_bump]; omega), Mem.get_bump, n1.old y hy]
  simp only [putT, Nat.reduceLT, T_set, X_assign, ev_T, lk_cons, Nat.reduceEqDiff, if_false, if_true, X_nil, thenQ_normal, W_seq, w6_6, l2q, X_move, X_nilCheck EE_sym, nilV_ptr, okI_some, X_fieldAddr EE_sym fo_31_1, offV_ptr, Nat.zero_add, X_load EE_sym, load1 lay_27, Mem.get_bump, hp, ld1_cells, hc.c1, X_call ca_27, List.map_cons, List.map_nil, true_and]
  refine CallI.con0 (dcopy_ok (d := d) (sz := 0) hS.hd) ?_
  have hcv := ofn (n := 0) hb
  have hcv2 := ofn (n := 0) hb2
  have htm : ((b : Int)).tmod 8 = ((b % 8 : Nat) : Int) := tmodn (n := 8)
  have htm2 : ((b2 : Int)).tmod 65 = ((b2 % 65 : Nat) : Int) := tmodn (n := 65)
  have hk : b % 8 < 8 := Nat.mod_lt _ (by decide)
  have hk2 : b2 % 65 < 65 := Nat.mod_lt _ (by decide)
  generalize b % 8 = k at htm hk
  generalize b2 % 65 = k2 at htm2 hk2
  simp only [Mem.next_bump, put_bump, bump_bump, Nat.reduceAdd, putT, Nat.reduceLT, T_set, X_assign, ev_T, lk_cons, Nat.reduceEqDiff, if_false, if_true, X_nil, thenQ_normal, W_seq, w6_7, Mem.next_put, l2q, Nat.le_add_right_of_le, X_move, X_convert EE_sym, conv_int und_3 und_5, hcv, okI_some, X_bin EE_sym (op := .rem) rfl, ev_const, bin_rem (b := 8) (by decide), htm, hcv2, bin_rem (b := 65) (by decide), htm2, w6_8, X_call ca_23, List.map_cons, List.map_nil, true_and]
  refine CallI.con0 (fd_k (d := d) (sz := 0) (by simp only [DAt, Mem.get_bump, Mem.get_put, if_true]) hd hk) ?_
  have hpl := n2.fresh.lt hp
  have hdl := n2.fresh.lt hS.hd
  have hld := hS.ld
  rw [Mem.next_bump] at hld
  have qd : ∀ j, ¬ m2.next + j = dd := fun j e => d0 j e.symm
  have pd : ¬ p = dd := hS.pd
  have hyd : ∀ y, y < m.next → ¬ y = dd := fun y hy => by omega
  have hdk := hd k
  by_cases h64 : k2 = 64
  · subst h64
    have hq : ((64 : Nat) : Int) = 64 := rfl
    simp only [putT, hq, Nat.reduceLT, T_set, X_assign, ev_T, lk_cons, Nat.reduceEqDiff, if_false, if_true, X_nil, thenQ_normal, W_seq, w6_9, Mem.next_bump, Mem.next_put, l2q, Nat.le_add_right_of_le, bump_bump, Nat.reduceAdd, X_move, ev_const, w6_10, X_eql EE_sym, eq_int, decide_true, okI_some, W_cond, CDi_t, w6_17, w6_11, w6_12, X_nilCheck EE_sym, nilV_ptr, X_fieldAddr EE_sym fo_31_1, offV_ptr, Nat.zero_add, X_load EE_sym, load1 lay_27, Mem.get_bump, Mem.get_put, p0, hp, ld1_cells, hc.c1, X_call ca_26, List.map_cons, List.map_nil, true_and]
    by_cases h0 : d k = 0
    · refine CallI.con0 (close_k0 (d := d) (sz := 0) (by simp only [DAt, Mem.get_bump, Mem.get_put, d0, if_false]; exact hS.hd) hd h0) ?_
      have z1 : d k - 1 < 0 := by omega
      simp only [putT, Nat.reduceLT, T_set, X_move, ev_T, lk_cons, Nat.reduceEqDiff, if_false, if_true, X_extract EE_sym, List.getElem?_toArray, List.getElem?_cons_zero, okI_some, List.getElem?_cons_succ, X_assign, X_nil, thenQ_normal, W_seq, w6_13, Mem.next_bump, Mem.next_put, l2q, Nat.le_add_right_of_le, bump_bump, Nat.reduceAdd, w6_14, X_eql EE_sym, ev_const, eq_int, Int.reduceEq, decide_false, X_guard EE_sym, T_get, GDi_ft, X_pick EE_sym, pickV_bool, Bool.false_eq_true, W_cond, CDi_f, W_skip, w6_20, X_bin EE_sym (op := .lss) rfl, bin_lss, z1, decide_true, X_bin EE_sym (op := .geq) rfl, bin_geq, Int.reduceLE, eq4, Bool.true_beq, X_neq EE_sym, neq4, beq_self_eq_true, Bool.not_true, w6_23, neq_int, Bool.not_false, CDi_t, w6_25, w6_24, w6_26, X_nilCheck EE_sym, nilV_ptr, X_fieldAddr EE_sym fo_31_1, offV_ptr, Nat.zero_add, X_load EE_sym, load1 lay_27, Mem.get_bump, Mem.get_put, p0, hp, ld1_cells, hc.c1, X_call ca_29, List.map_cons, List.map_nil, true_and]
      refine CallI.con0 (fdlist (d := d) (sz := 0) ?_ hd) ?_
      · simp only [DAt, Mem.get_bump, Mem.get_put, d0, if_false]; exact hS.hd
      simp only [Mem.next_bump, Mem.next_put, put_bump, bump_bump, Nat.reduceAdd, putT, Nat.reduceLT, T_set, X_assign, ev_T, lk_cons, Nat.reduceEqDiff, if_false, if_true, X_nil, thenQ_normal, W_seq, w6_27, l2q, Nat.le_add_right_of_le, ev_const, w6_28, W_block, w6_43, true_and]
      refine fds_loop (p := p) (f := f) (dd := dd) (w := w) (v := v) (cb := m2.next + 6) (lb := _) (k := k) (cp := cp) (d := d) (d' := d) (now := d k - 1) (by simp only [Mem.next_bump, Mem.next_put]; omega) (fun y o => Low.lt (by repeat (first | exact Low.of n2.fresh (by (try simp only [Mem.next_bump, Mem.next_put]); omega) | refine Low.put ?_ (by (try simp only [Mem.next_bump, Mem.next_put]); omega) | refine Low.bump ?_))) hk (by simp only [Mem.get_bump, Mem.get_put, p0, hp, if_false]) hc (by simp only [DAt, Mem.get_bump, Mem.get_put, d0, if_false]; exact hS.hd) (by simp only [DAt, Mem.get_bump, Mem.get_put, if_false, if_true, Nat.add_left_cancel_iff, Nat.reduceEqDiff]) (by simp only [Mem.get_bump, Mem.get_put, if_false, if_true, Nat.add_left_cancel_iff, Nat.reduceEqDiff]) hd hd (fun _ _ => rfl) rfl (fun M g1 g2 => ?_) (View.temps ⟨rfl, rfl, rfl, rfl, rfl, rfl, rfl, rfl, trivial⟩)
      simp only [Mem.next_bump, Mem.next_put] at g1
      have Mp : M.get p = some (.cells cp true 0) := by
        rw [g2 p (by simp only [Mem.next_bump, Mem.next_put]; omega)]
        simp only [Mem.get_bump, Mem.get_put, p0, hp, if_false]
      have Md : DAt M dd 0 (d) := by
        rw [DAt, g2 dd (by simp only [Mem.next_bump, Mem.next_put]; omega)]
        simp only [Mem.get_bump, Mem.get_put, d0, if_false]; exact hS.hd
      have g1q : m.next ≤ M.next := by omega
      unfold fdL
      simp only [blockQ_exit, if_true, thenQ_normal, W_seq, w6_44, g1q, X_move, Nat.reduceLT, ev_T, lk_cons, Nat.reduceEqDiff, if_false, T_set, X_guard EE_sym, T_get, GDi_tt, X_nilCheck EE_sym, nilV_ptr, okI_some, X_fieldAddr EE_sym fo_31_1, offV_ptr, Nat.zero_add, X_load EE_sym, load1 lay_27, Mem.get_bump, Mp, ld1_cells, hc.c1, X_call ca_24, List.map_cons, List.map_nil, true_and]
      refine CallI.con0 (len_ok (d := d) (sz := 0) (by simp only [DAt, Mem.get_bump]; exact Md) hd) ?_
      simp only [putT, Nat.reduceLT, T_set, X_guard EE_sym, T_get, lk_cons, Nat.reduceEqDiff, if_false, if_true, GDi_tt, X_move, ev_T, X_eql EE_sym, eq_int, decide_true, okI_some, X_pick EE_sym, ev_const, pickV_bool, X_len EE_sym, len_slice und_47, X_assign, X_nil, thenQ_normal, W_ret, FinX_ret, resA_tmp, resA_nil, Option.map_some, oneOr1]
      refine RawE.of (by (try rw [Mem.next_bump]); omega) fun y hy => ?_
      have hy2 : y < m2.next := by omega
      rw [Mem.get_bump, g2 y (by simp only [Mem.next_bump, Mem.next_put]; omega)]
      simp only [Mem.get_bump, Mem.get_put, lt_ne hy2, if_false]
      exact old2 y hy
    · have hd2 : DOk (dset d k 0) := hd.set (Int.le_refl 0) (by decide)
      refine CallI.con0 (close_k1 (d := d) (sz := 0) (by simp only [DAt, Mem.get_bump, Mem.get_put, d0, if_false]; exact hS.hd) hd hk h0) ?_
      have z1 : ¬ d k - 1 < 0 := by omega
      simp only [put_bump, putT, Nat.reduceLT, T_set, X_move, ev_T, lk_cons, Nat.reduceEqDiff, if_false, if_true, X_extract EE_sym, List.getElem?_toArray, List.getElem?_cons_zero, okI_some, List.getElem?_cons_succ, X_assign, X_nil, thenQ_normal, W_seq, w6_13, Mem.next_bump, Mem.next_put, l2q, Nat.le_add_right_of_le, bump_bump, Nat.reduceAdd, w6_14, X_eql EE_sym, ev_const, eq_int, decide_true, X_guard EE_sym, T_get, GDi_tt, X_neq EE_sym, neq_int, Bool.not_true, X_pick EE_sym, pickV_bool, W_cond, CDi_f, W_skip, w6_20, X_bin EE_sym (op := .lss) rfl, bin_lss, z1, decide_false, X_bin EE_sym (op := .geq) rfl, bin_geq, Int.reduceLE, eq4, beq_self_eq_true, neq4, w6_23, w6_26, X_nilCheck EE_sym, nilV_ptr, X_fieldAddr EE_sym fo_31_1, offV_ptr, Nat.zero_add, X_load EE_sym, load1 lay_27, Mem.get_bump, Mem.get_put, pd, p0, hp, ld1_cells, hc.c1, X_call ca_29, List.map_cons, List.map_nil, true_and]
      refine CallI.con0 (fdlist (d := dset d k 0) (sz := 0) ?_ hd2) ?_
      · simp only [DAt, Mem.get_bump, Mem.get_put, d0, if_false, if_true]
      simp only [Mem.next_bump, Mem.next_put, put_bump, bump_bump, Nat.reduceAdd, putT, Nat.reduceLT, T_set, X_assign, ev_T, lk_cons, Nat.reduceEqDiff, if_false, if_true, X_nil, thenQ_normal, W_seq, w6_27, l2q, Nat.le_add_right_of_le, ev_const, w6_28, W_block, w6_43, true_and]
      refine fds_loop (p := p) (f := f) (dd := dd) (w := w) (v := v) (cb := m2.next + 6) (lb := _) (k := k) (cp := cp) (d := d) (d' := dset d k 0) (now := -1) (by simp only [Mem.next_bump, Mem.next_put]; omega) (fun y o => Low.lt (by repeat (first | exact Low.of n2.fresh (by (try simp only [Mem.next_bump, Mem.next_put]); omega) | refine Low.put ?_ (by (try simp only [Mem.next_bump, Mem.next_put]); omega) | refine Low.bump ?_))) hk (by simp only [Mem.get_bump, Mem.get_put, p0, pd, hp, if_false]) hc (by simp only [DAt, Mem.get_bump, Mem.get_put, d0, if_false, if_true]) (by simp only [DAt, Mem.get_bump, Mem.get_put, qd, if_false, if_true, Nat.add_left_cancel_iff, Nat.reduceEqDiff]) (by simp only [Mem.get_bump, Mem.get_put, qd, if_false, if_true, Nat.add_left_cancel_iff, Nat.reduceEqDiff]) hd hd2 (fun i hi => by unfold dset; rw [if_neg hi]) (by unfold dset; rw [if_pos rfl]; rfl) (fun M g1 g2 => ?_) (View.temps ⟨rfl, rfl, rfl, rfl, rfl, rfl, rfl, rfl, trivial⟩)
      simp only [Mem.next_bump, Mem.next_put] at g1
      have Mp : M.get p = some (.cells cp true 0) := by
        rw [g2 p (by simp only [Mem.next_bump, Mem.next_put]; omega)]
        simp only [Mem.get_bump, Mem.get_put, p0, pd, hp, if_false]
      have Md : DAt M dd 0 (dset d k 0) := by
        rw [DAt, g2 dd (by simp only [Mem.next_bump, Mem.next_put]; omega)]
        simp only [Mem.get_bump, Mem.get_put, d0, if_false, if_true]
      have g1q : m.next ≤ M.next := by omega
      unfold fdL
      simp only [blockQ_exit, if_true, thenQ_normal, W_seq, w6_44, g1q, X_move, Nat.reduceLT, ev_T, lk_cons, Nat.reduceEqDiff, if_false, T_set, X_guard EE_sym, T_get, GDi_tt, X_nilCheck EE_sym, nilV_ptr, okI_some, X_fieldAddr EE_sym fo_31_1, offV_ptr, Nat.zero_add, X_load EE_sym, load1 lay_27, Mem.get_bump, Mp, ld1_cells, hc.c1, X_call ca_24, List.map_cons, List.map_nil, true_and]
      refine CallI.con0 (len_ok (d := dset d k 0) (sz := 0) (by simp only [DAt, Mem.get_bump]; exact Md) hd2) ?_
      simp only [putT, Nat.reduceLT, T_set, X_guard EE_sym, T_get, lk_cons, Nat.reduceEqDiff, if_false, if_true, GDi_tt, X_move, ev_T, X_eql EE_sym, eq_int, decide_true, okI_some, X_pick EE_sym, ev_const, pickV_bool, X_len EE_sym, len_slice und_47, X_assign, X_nil, thenQ_normal, W_ret, FinX_ret, resA_tmp, resA_nil, Option.map_some, oneOr1]
      refine RawE.of (by (try rw [Mem.next_bump]); omega) fun y hy => ?_
      have hy2 : y < m2.next := by omega
      rw [Mem.get_bump, g2 y (by simp only [Mem.next_bump, Mem.next_put]; omega)]
      simp only [Mem.get_bump, Mem.get_put, lt_ne hy2, hyd y hy, if_false]
      exact old2 y hy
  · have h64x : ¬ (k2 : Int) = 64 := by omega
    simp only [putT, Nat.reduceLT, T_set, X_assign, ev_T, lk_cons, Nat.reduceEqDiff, if_false, if_true, X_nil, thenQ_normal, W_seq, w6_9, Mem.next_bump, Mem.next_put, l2q, Nat.le_add_right_of_le, bump_bump, Nat.reduceAdd, X_move, ev_const, w6_10, X_eql EE_sym, eq_int, h64x, decide_false, okI_some, W_cond, CDi_f, w6_19, w6_18, X_nilCheck EE_sym, nilV_ptr, X_fieldAddr EE_sym fo_31_1, offV_ptr, Nat.zero_add, X_load EE_sym, load1 lay_27, Mem.get_bump, Mem.get_put, p0, hp, ld1_cells, hc.c1, X_call ca_28, List.map_cons, List.map_nil, true_and]
    have hk3 : k2 < 64 := by omega
    have z2 : (0 : Int) ≤ k2 := by omega
    by_cases h0 : d k = 0
    · have hd2 : DOk (dset d k (k2 + 1)) := hd.set (by omega) (by omega)
      refine CallI.con0 (set_k1 (d := d) (sz := 0) (by simp only [DAt, Mem.get_bump, Mem.get_put, d0, if_false]; exact hS.hd) hk hk3 h0) ?_
      have z1 : d k - 1 < 0 := by omega
      simp only [put_bump, putT, Nat.reduceLT, T_set, X_assign, ev_T, lk_cons, Nat.reduceEqDiff, if_false, if_true, X_nil, thenQ_normal, W_seq, w6_20, Mem.next_bump, Mem.next_put, l2q, Nat.le_add_right_of_le, bump_bump, Nat.reduceAdd, X_move, X_eql EE_sym, ev_const, eq_int, decide_true, okI_some, X_bin EE_sym (op := .lss) rfl, bin_lss, z1, X_bin EE_sym (op := .geq) rfl, bin_geq, z2, eq4, beq_self_eq_true, X_neq EE_sym, neq4, Bool.not_true, W_cond, CDi_f, W_skip, w6_23, neq_int, w6_26, X_nilCheck EE_sym, nilV_ptr, X_fieldAddr EE_sym fo_31_1, offV_ptr, Nat.zero_add, X_load EE_sym, load1 lay_27, Mem.get_bump, Mem.get_put, pd, p0, hp, ld1_cells, hc.c1, X_call ca_29, List.map_cons, List.map_nil, true_and]
      refine CallI.con0 (fdlist (d := dset d k (k2 + 1)) (sz := 0) ?_ hd2) ?_
      · simp only [DAt, Mem.get_bump, Mem.get_put, d0, if_false, if_true]
      simp only [Mem.next_bump, Mem.next_put, put_bump, bump_bump, Nat.reduceAdd, putT, Nat.reduceLT, T_set, X_assign, ev_T, lk_cons, Nat.reduceEqDiff, if_false, if_true, X_nil, thenQ_normal, W_seq, w6_27, l2q, Nat.le_add_right_of_le, ev_const, w6_28, W_block, w6_43, true_and]
      refine fds_loop (p := p) (f := f) (dd := dd) (w := w) (v := v) (cb := m2.next + 6) (lb := _) (k := k) (cp := cp) (d := d) (d' := dset d k (k2 + 1)) (now := k2) (by simp only [Mem.next_bump, Mem.next_put]; omega) (fun y o => Low.lt (by repeat (first | exact Low.of n2.fresh (by (try simp only [Mem.next_bump, Mem.next_put]); omega) | refine Low.put ?_ (by (try simp only [Mem.next_bump, Mem.next_put]); omega) | refine Low.bump ?_))) hk (by simp only [Mem.get_bump, Mem.get_put, p0, pd, hp, if_false]) hc (by simp only [DAt, Mem.get_bump, Mem.get_put, d0, if_false, if_true]) (by simp only [DAt, Mem.get_bump, Mem.get_put, qd, if_false, if_true, Nat.add_left_cancel_iff, Nat.reduceEqDiff]) (by simp only [Mem.get_bump, Mem.get_put, qd, if_false, if_true, Nat.add_left_cancel_iff, Nat.reduceEqDiff]) hd hd2 (fun i hi => by unfold dset; rw [if_neg hi]) (by unfold dset; rw [if_pos rfl]; omega) (fun M g1 g2 => ?_) (View.temps ⟨rfl, rfl, rfl, rfl, rfl, rfl, rfl, rfl, trivial⟩)
      simp only [Mem.next_bump, Mem.next_put] at g1
      have Mp : M.get p = some (.cells cp true 0) := by
        rw [g2 p (by simp only [Mem.next_bump, Mem.next_put]; omega)]
        simp only [Mem.get_bump, Mem.get_put, p0, pd, hp, if_false]
      have Md : DAt M dd 0 (dset d k (k2 + 1)) := by
        rw [DAt, g2 dd (by simp only [Mem.next_bump, Mem.next_put]; omega)]
        simp only [Mem.get_bump, Mem.get_put, d0, if_false, if_true]
      have g1q : m.next ≤ M.next := by omega
      unfold fdL
      simp only [blockQ_exit, if_true, thenQ_normal, W_seq, w6_44, g1q, X_move, Nat.reduceLT, ev_T, lk_cons, Nat.reduceEqDiff, if_false, T_set, X_guard EE_sym, T_get, GDi_tt, X_nilCheck EE_sym, nilV_ptr, okI_some, X_fieldAddr EE_sym fo_31_1, offV_ptr, Nat.zero_add, X_load EE_sym, load1 lay_27, Mem.get_bump, Mp, ld1_cells, hc.c1, X_call ca_24, List.map_cons, List.map_nil, true_and]
      refine CallI.con0 (len_ok (d := dset d k (k2 + 1)) (sz := 0) (by simp only [DAt, Mem.get_bump]; exact Md) hd2) ?_
      simp only [putT, Nat.reduceLT, T_set, X_guard EE_sym, T_get, lk_cons, Nat.reduceEqDiff, if_false, if_true, GDi_tt, X_move, ev_T, X_eql EE_sym, eq_int, decide_true, okI_some, X_pick EE_sym, ev_const, pickV_bool, X_len EE_sym, len_slice und_47, X_assign, X_nil, thenQ_normal, W_ret, FinX_ret, resA_tmp, resA_nil, Option.map_some, oneOr1]
      refine RawE.of (by (try rw [Mem.next_bump]); omega) fun y hy => ?_
      have hy2 : y < m2.next := by omega
      rw [Mem.get_bump, g2 y (by simp only [Mem.next_bump, Mem.next_put]; omega)]
      simp only [Mem.get_bump, Mem.get_put, lt_ne hy2, hyd y hy, if_false]
      exact old2 y hy
    · refine CallI.con0 (set_k0 (d := d) (sz := 0) (by simp only [DAt, Mem.get_bump, Mem.get_put, d0, if_false]; exact hS.hd) hd hk3 h0) ?_
      have z1 : ¬ d k - 1 < 0 := by omega
      simp only [putT, Nat.reduceLT, T_set, X_assign, ev_T, lk_cons, Nat.reduceEqDiff, if_false, if_true, X_nil, thenQ_normal, W_seq, w6_20, Mem.next_bump, Mem.next_put, l2q, Nat.le_add_right_of_le, bump_bump, Nat.reduceAdd, X_move, X_eql EE_sym, ev_const, eq_int, Int.reduceEq, decide_false, okI_some, X_bin EE_sym (op := .lss) rfl, bin_lss, z1, X_bin EE_sym (op := .geq) rfl, bin_geq, z2, decide_true, eq4, Bool.false_beq, Bool.not_true, X_neq EE_sym, neq4, beq_self_eq_true, W_cond, CDi_f, W_skip, w6_23, neq_int, Bool.not_false, CDi_t, w6_25, w6_24, w6_26, X_nilCheck EE_sym, nilV_ptr, X_fieldAddr EE_sym fo_31_1, offV_ptr, Nat.zero_add, X_load EE_sym, load1 lay_27, Mem.get_bump, Mem.get_put, p0, hp, ld1_cells, hc.c1, X_call ca_29, List.map_cons, List.map_nil, true_and]
      refine CallI.con0 (fdlist (d := d) (sz := 0) ?_ hd) ?_
      · simp only [DAt, Mem.get_bump, Mem.get_put, d0, if_false]; exact hS.hd
      simp only [Mem.next_bump, Mem.next_put, put_bump, bump_bump, Nat.reduceAdd, putT, Nat.reduceLT, T_set, X_assign, ev_T, lk_cons, Nat.reduceEqDiff, if_false, if_true, X_nil, thenQ_normal, W_seq, w6_27, l2q, Nat.le_add_right_of_le, ev_const, w6_28, W_block, w6_43, true_and]
      refine fds_loop (p := p) (f := f) (dd := dd) (w := w) (v := v) (cb := m2.next + 6) (lb := _) (k := k) (cp := cp) (d := d) (d' := d) (now := d k - 1) (by simp only [Mem.next_bump, Mem.next_put]; omega) (fun y o => Low.lt (by repeat (first | exact Low.of n2.fresh (by (try simp only [Mem.next_bump, Mem.next_put]); omega) | refine Low.put ?_ (by (try simp only [Mem.next_bump, Mem.next_put]); omega) | refine Low.bump ?_))) hk (by simp only [Mem.get_bump, Mem.get_put, p0, hp, if_false]) hc (by simp only [DAt, Mem.get_bump, Mem.get_put, d0, if_false]; exact hS.hd) (by simp only [DAt, Mem.get_bump, Mem.get_put, if_false, if_true, Nat.add_left_cancel_iff, Nat.reduceEqDiff]) (by simp only [Mem.get_bump, Mem.get_put, if_false, if_true, Nat.add_left_cancel_iff, Nat.reduceEqDiff]) hd hd (fun _ _ => rfl) rfl (fun M g1 g2 => ?_) (View.temps ⟨rfl, rfl, rfl, rfl, rfl, rfl, rfl, rfl, trivial⟩)
      simp only [Mem.next_bump, Mem.next_put] at g1
      have Mp : M.get p = some (.cells cp true 0) := by
        rw [g2 p (by simp only [Mem.next_bump, Mem.next_put]; omega)]
        simp only [Mem.get_bump, Mem.get_put, p0, hp, if_false]
      have Md : DAt M dd 0 (d) := by
        rw [DAt, g2 dd (by simp only [Mem.next_bump, Mem.next_put]; omega)]
        simp only [Mem.get_bump, Mem.get_put, d0, if_false]; exact hS.hd
      have g1q : m.next ≤ M.next := by omega
      unfold fdL
      simp only [blockQ_exit, if_true, thenQ_normal, W_seq, w6_44, g1q, X_move, Nat.reduceLT, ev_T, lk_cons, Nat.reduceEqDiff, if_false, T_set, X_guard EE_sym, T_get, GDi_tt, X_nilCheck EE_sym, nilV_ptr, okI_some, X_fieldAddr EE_sym fo_31_1, offV_ptr, Nat.zero_add, X_load EE_sym, load1 lay_27, Mem.get_bump, Mp, ld1_cells, hc.c1, X_call ca_24, List.map_cons, List.map_nil, true_and]
      refine CallI.con0 (len_ok (d := d) (sz := 0) (by simp only [DAt, Mem.get_bump]; exact Md) hd) ?_
      simp only [putT, Nat.reduceLT, T_set, X_guard EE_sym, T_get, lk_cons, Nat.reduceEqDiff, if_false, if_true, GDi_tt, X_move, ev_T, X_eql EE_sym, eq_int, decide_true, okI_some, X_pick EE_sym, ev_const, pickV_bool, X_len EE_sym, len_slice und_47, X_assign, X_nil, thenQ_normal, W_ret, FinX_ret, resA_tmp, resA_nil, Option.map_some, oneOr1]
      refine RawE.of (by (try rw [Mem.next_bump]); omega) fun y hy => ?_
      have hy2 : y < m2.next := by omega
      rw [Mem.get_bump, g2 y (by simp only [Mem.next_bump, Mem.next_put]; omega)]
      simp only [Mem.get_bump, Mem.get_put, lt_ne hy2, if_false]
      exact old2 y hy
end
end
end Go.Ab
