/- FilesTraces: whatever the calls, the file and how often, it answers true. -/
import Derived.Test.YthidhnbniklhmaaFiM
import Derived.Test.YthidhnbniklhmaaFiA4
import Derived.Test.YthidhnbniklhmaaTK
namespace Go.Ab
open Go.Proofs
noncomputable section
set_option maxHeartbeats 4000000
section
variable {m : Mem} {l : Value} {n b : Nat} {xp : Int} {xw : Bool}
theorem traces_ok (hm : Fresh m) (hl : Ops m l n) (hb : b < 256) : ∃ m', Con EE.P 4 [l, .agg [In xp, .bool xw].toArray, .int .u8 b] m (.bool true) m' := by
  refine Con.raw1 fn4 (Nat.le_of_ble_eq_true rfl) ?_
  obtain ⟨aa, C, rfl, hl2⟩ := id hl
  simp only [f4, enumV, Nat.zero_add, Nat.reduceAdd, w4, W_seq, w4_0, Nat.le_refl, X_box, Nat.reduceLT, ev_T, lk_cons, Nat.reduceEqDiff, if_false, if_true, box_agg, okI_some, Nat.add_zero, T_set, put_bump, X_assign, ev_const, X_nil, thenQ_normal, w4_1, Mem.next_bump, Mem.next_put, Nat.le_add_right, bump_bump, X_call ca_10, List.map_nil, true_and]
  have hA : Fresh ((m.put m.next (.cells (Cells.ofList [In xp, .bool xw]) true 0)).bump 4) := Fresh.of_low (by have := hm.n64; simp only [Mem.next_bump, Mem.next_put]; omega) (Low.bump (Low.put (Low.of hm (by simp only [Mem.next_bump, Mem.next_put]; omega)) (by simp only [Mem.next_bump, Mem.next_put]; omega)))
  obtain ⟨m1, ha1, n1⟩ := alive_ok hA
  refine CallI.con0 ha1 ?_
  have l1' := n1.next
  simp only [Mem.next_bump, Mem.next_put] at l1'
  have l1 : m.next ≤ m1.next := by omega
  have x1 : m1.get m.next = some (.cells (Cells.ofList [In xp, .bool xw]) true 0) := by rw [n1.old _ (by simp only [Mem.next_bump, Mem.next_put]; omega)]; simp only [Mem.get_bump, Mem.get_put, if_true]
  have o1 : ∀ y, y < m.next → m1.get y = m.get y := fun y hy => by rw [n1.old _ (by simp only [Mem.next_bump, Mem.next_put]; omega)]; simp only [Mem.get_bump, Mem.get_put, ne_new0 hy, if_false]
  by_cases hn : 200 < n
  · have hx : (200 : Int) < (n : Int) := by omega
    simp only [putT, Nat.reduceLT, T_set, X_assign, ev_T, lk_cons, Nat.reduceEqDiff, if_false, if_true, X_nil, thenQ_normal, W_seq, w4_2, l1, X_move, Nat.one_ne_zero, X_len EE_sym, len_slice und_22, okI_some, X_bin EE_sym (op := .gtr) rfl, ev_const, bin_gtr, hx, decide_true, X_guard EE_sym, T_get, GDi_tf, X_pick EE_sym, pickV_bool, W_cond, CDi_t, w4_4, w4_3, Mem.next_bump, Nat.le_add_right_of_le, bump_bump, Nat.reduceAdd, W_ret, thenQ_ret, FinX_ret, resA_tmp, resA_nil, Option.map_some, oneOr1, true_and]
    exact RawE.of (by simp only [Mem.next_bump]; omega) fun y hy => o1 y hy
  have hx : ¬ (200 : Int) < (n : Int) := by omega
  simp only [putT, Nat.reduceLT, T_set, X_assign, ev_T, lk_cons, Nat.reduceEqDiff, if_false, if_true, X_nil, thenQ_normal, W_seq, w4_2, l1, X_move, Nat.one_ne_zero, X_len EE_sym, len_slice und_22, okI_some, X_bin EE_sym (op := .gtr) rfl, ev_const, bin_gtr, hx, decide_false, X_guard EE_sym, T_get, GDi_ff, X_un EE_sym, un_not, Bool.not_true, X_pick EE_sym, pickV_bool, Bool.false_eq_true, W_cond, CDi_f, W_skip, w4_5, Mem.next_bump, Nat.le_add_right_of_le, bump_bump, Nat.reduceAdd, X_call ca_17, List.map_nil, true_and]
  refine CallI.ex2 (R := fun v m2 => ∃ p, v = PT p ∧ m1.next + 9 ≤ m2.next ∧ Fresh m2 ∧ St (m1.next + 9) m2 p 0 ∧ ∀ y, y < m1.next + 9 → m2.get y = m1.get y) (by obtain ⟨p, m2, c, h⟩ := fresh_ok (m := m1.bump 9) n1.fresh.bump; exact ⟨_, _, c, p, rfl, h⟩) fun pv m2 h => ?_
  obtain ⟨p, rfl, h1, h2, h3, h4⟩ := h
  have h1q : m.next ≤ m2.next := by omega
  simp only [putT, Nat.reduceLT, T_set, X_assign, ev_T, lk_cons, Nat.reduceEqDiff, if_false, if_true, X_nil, thenQ_normal, W_seq, w4_6, h1q, X_move, Nat.one_ne_zero, X_len EE_sym, len_slice und_22, okI_some, ev_const, W_block, w4_13, true_and]
  refine WX.loop_of (fun x t M => ∃ i : Nat, i ≤ n ∧ x = n - i ∧ t = T 139 [(31, In i), (30, In n), (8, PT p), (7, .bool true), (4, PT m.next), (2, .int .u8 b), (0, .slice aa n C)] ∧ Nx m M ∧ St (m.next + 1) M p i ∧ M.get m.next = some (.cells (Cells.ofList [In xp, .bool xw]) true 0)) ?_ (k := n) (t1 := T 139 [(31, In (0 : Nat)), (30, In n), (8, PT p), (7, .bool true), (4, PT m.next), (2, .int .u8 b), (0, .slice aa n C)]) (View.temps ⟨rfl, rfl, rfl, rfl, rfl, rfl, rfl, trivial⟩) ⟨0, by omega, rfl, rfl, ⟨by simp only [Mem.next_bump]; omega, h2.bump, fun y hy => by rw [Mem.get_bump, h4 y (by omega), o1 y hy]⟩, ?_, by rw [Mem.get_bump, h4 _ (by omega), x1]⟩
  · rintro x t M ⟨i, hi, rfl, rfl, hN, hS, hX⟩
    have hnx := hN.next
    have hnm : m.next < M.next := hN.fresh.lt hX
    by_cases hi2 : i < n
    · have g1 : (i : Int) < (n : Int) := by omega
      have g2 : (0 : Int) ≤ i := by omega
      rcases hl2 with hl2 | ⟨L, cs, ww, z, rfl, e1, e2⟩
      · omega
      obtain ⟨k, pp, w', nn, fd, e3⟩ := e2 i hi2
      have e4 : M.get L = some (.cells cs ww z) := by rw [hN.old L (hm.lt e1), e1]
      have hw : IntKind.i64.wrap ((i : Int) + 1) = ((i + 1 : Nat) : Int) := by rw [wrap_i64 (by omega) (by omega)]; omega
      simp only [w4_12, W_seq, w4_7, hnx, X_bin EE_sym (op := .lss) rfl, Nat.reduceLT, ev_T, lk_cons, Nat.reduceEqDiff, if_false, if_true, bin_lss, g1, decide_true, okI_some, T_set, X_nil, thenQ_normal, W_cond, CDi_t, W_skip, W_block, w4_10, w4_8, Mem.next_bump, Nat.le_add_right_of_le, bump_bump, Nat.reduceAdd, X_move, X_assign, w4_9, X_indexAddr EE_sym, g2, idxV_slice und_22 sz_46, Int.toNat_natCast, Nat.zero_add, X_load EE_sym, loadN lay_46, Mem.get_bump, e4, ldN_cells, e3, Option.map_some, X_call ca_18, List.map_cons, List.map_nil, true_and]
      refine CallI.ex (do_St (a := m.next + 1) (B := i) (by omega) hN.fresh.bump (by rw [Mem.next_bump]; omega) hS.bump) fun m3 h5 => ?_
      have hnx2 : m.next ≤ m3.next := by have := h5.next; rw [Mem.next_bump] at this; omega
      simp only [putT, Nat.reduceLT, T_set, X_nil, blockQ_normal, thenQ_normal, w4_11, hnx2, X_bin EE_sym (op := .add) rfl, ev_T, lk_cons, Nat.reduceEqDiff, if_false, if_true, ev_const, bin_add, hw, okI_some, X_move, roundQ_normal, true_and]
      exact ⟨n - (i + 1), _, _, by omega, View.temps (l' := [(31, In ((i + 1 : Nat) : Int)), (30, In n), (8, PT p), (7, .bool true), (4, PT m.next), (2, .int .u8 b), (0, .slice (some ⟨L, 0, none⟩) n C)]) ⟨rfl, rfl, rfl, rfl, rfl, rfl, rfl, trivial⟩, i + 1, by omega, rfl, rfl, ⟨by simp only [Mem.next_bump]; omega, h5.fresh.bump, fun y hy => by rw [Mem.get_bump, h5.old y (by omega), Mem.get_bump, hN.old y hy]⟩, h5.st.bump, by rw [Mem.get_bump, h5.old _ (by omega), Mem.get_bump, hX]⟩
    · have gx : ¬ (i : Int) < (n : Int) := by omega
      obtain ⟨f, dd, w, v, N, s, d, W, hSh, hI, hd⟩ := hS
      obtain ⟨cp, hp, hc⟩ := hSh.hp
      have hlf := hSh.lf
      have hlp := hSh.lp
      have pf : ¬ p = f := hSh.pf
      have hfl := hN.fresh.lt hSh.hf
      have hpl := hN.fresh.lt hp
      have r0 := hI.lo
      have r1 := hI.hi
      simp only [w4_12, W_seq, w4_7, hnx, X_bin EE_sym (op := .lss) rfl, Nat.reduceLT, ev_T, lk_cons, Nat.reduceEqDiff, if_false, if_true, bin_lss, gx, decide_false, okI_some, T_set, X_nil, thenQ_normal, W_cond, CDi_f, W_exit, thenQ_exit, roundQ_exit, blockQ_exit, w4_14, Mem.next_bump, Nat.le_add_right_of_le, bump_bump, Nat.reduceAdd, Y_0, X_move, keepM_f, X_nilCheck EE_sym, nilV_ptr, X_fieldAddr EE_sym fo_31_0, offV_ptr, Nat.add_zero, X_load EE_sym, load1 lay_26, Mem.get_bump, hp, ld1_cells, hc.c0, X_call ca_19, List.map_cons, List.map_nil, true_and]
      refine CallI.ex2 (used_v (s := s) (sz := 0) hN.fresh.bump (by simp only [FAt, Mem.get_bump]; exact hSh.hf)) fun u mu hu => ?_
      obtain ⟨hu, nu⟩ := hu
      have ln := nu.next
      rw [Mem.next_bump] at ln
      have lnz : m.next ≤ mu.next := by omega
      have Up : mu.get p = some (.cells cp true 0) := by rw [nu.old p (by rw [Mem.next_bump]; omega), Mem.get_bump, hp]
      have Uf : FAt mu f 0 s := by rw [FAt, nu.old f (by rw [Mem.next_bump]; omega), Mem.get_bump]; exact hSh.hf
      have Ux : mu.get m.next = some (.cells (Cells.ofList [In xp, .bool xw]) true 0) := by rw [nu.old _ (by rw [Mem.next_bump]; omega), Mem.get_bump, hX]
      have Uo : ∀ y, y < m.next → mu.get y = m.get y := fun y hy => by rw [nu.old y (by rw [Mem.next_bump]; omega), Mem.get_bump, hN.old y hy]
      simp only [putT, Nat.reduceLT, T_set, X_nil, keepM_t, Y_0, X_move, ev_T, lk_cons, Nat.reduceEqDiff, if_false, if_true, keepM_f, X_nilCheck EE_sym, nilV_ptr, okI_some, X_fieldAddr EE_sym fo_31_0, offV_ptr, Nat.add_zero, Y_re, RE_load EE_sym, load1 lay_26, Up, ld1_cells, hc.c0, lookK_cons, Mem.get_bump, hp, eqvP, TDi_t, X_load EE_sym, X_call ca_20, List.map_cons, List.map_nil]
      refine CallI.con (free_ok (s := s) (sz := 0) Uf) (by simp) ?_
      have XS : (Cells.ofList [In xp, .bool xw]).sub 0 2 = some [In xp, .bool xw] := sub_ofList (l := [In xp, .bool xw]) (Nat.le_refl _)
      have X0 : (Cells.ofList [In xp, .bool xw]).nth 0 = some (In xp) := rfl
      simp only [putT, Nat.reduceLT, T_set, X_nil, keepM_f, Y_0, X_assign, ev_T, lk_cons, Nat.reduceEqDiff, if_false, if_true, Y_nil, thenQ_normal, W_seq, w4_15, lnz, X_move, X_nilCheck EE_sym, nilV_ptr, okI_some, X_fieldAddr EE_sym fo_31_0, offV_ptr, Nat.add_zero, X_load EE_sym, load1 lay_26, Mem.get_bump, Up, ld1_cells, hc.c0, loadN lay_34, Ux, ldN_cells, XS, Option.map_some, X_call ca_21, List.map_cons, List.map_nil, true_and]
      have endq : ∀ j, RawE m (mu.bump j) (.bool true) (fun u _ => u = .bool true) := fun j => RawE.of (by rw [Mem.next_bump]; omega) fun y hy => Uo y hy
      by_cases hbad : xp < 0 ∨ 16 ≤ xp
      · refine CallI.con0 (open_bad hbad) ?_
        by_cases hz : (64 : Int) - ((usedL s 64).length : Int) = 0
        · by_cases hx0 : 0 ≤ xp
          · have hx1 : ¬ xp < 16 := by omega
            simp only [putT, hz, Nat.reduceLT, T_set, X_move, ev_T, lk_cons, Nat.reduceEqDiff, if_false, if_true, X_extract EE_sym, List.getElem?_toArray, List.getElem?_cons_zero, okI_some, List.getElem?_cons_succ, X_assign, X_nil, thenQ_normal, W_seq, w4_16, Mem.next_bump, lnz, Nat.le_add_right_of_le, bump_bump, Nat.reduceAdd, X_neq EE_sym, ev_const, neq_int, Int.reduceEq, decide_false, Bool.not_false, W_cond, CDi_t, w4_18, w4_17, X_guard EE_sym, T_get, GDi_tt, X_eql EE_sym, eq_int, decide_true, X_fieldAddr EE_sym fo_34_0, offV_ptr, Nat.add_zero, X_load EE_sym, load1 lay_3, Mem.get_bump, Ux, ld1_cells, X0, X_bin EE_sym (op := .geq) rfl, bin_geq, hx0, X_pick EE_sym, pickV_bool, X_bin EE_sym (op := .lss) rfl, bin_lss, hx1, eq4, beq_self_eq_true, W_ret, thenQ_ret, FinX_ret, resA_tmp, resA_nil, Option.map_some, oneOr1, true_and]
            exact endq _
          · simp only [putT, hz, Nat.reduceLT, T_set, X_move, ev_T, lk_cons, Nat.reduceEqDiff, if_false, if_true, X_extract EE_sym, List.getElem?_toArray, List.getElem?_cons_zero, okI_some, List.getElem?_cons_succ, X_assign, X_nil, thenQ_normal, W_seq, w4_16, Mem.next_bump, lnz, Nat.le_add_right_of_le, bump_bump, Nat.reduceAdd, X_neq EE_sym, ev_const, neq_int, Int.reduceEq, decide_false, Bool.not_false, W_cond, CDi_t, w4_18, w4_17, X_guard EE_sym, T_get, GDi_tt, X_eql EE_sym, eq_int, decide_true, X_fieldAddr EE_sym fo_34_0, offV_ptr, Nat.add_zero, X_load EE_sym, load1 lay_3, Mem.get_bump, Ux, ld1_cells, X0, X_bin EE_sym (op := .geq) rfl, bin_geq, hx0, X_pick EE_sym, pickV_bool, GDi_ft, Bool.false_eq_true, eq4, beq_self_eq_true, W_ret, thenQ_ret, FinX_ret, resA_tmp, resA_nil, Option.map_some, oneOr1, true_and]
            exact endq _
        · simp only [putT, Nat.reduceLT, T_set, X_move, ev_T, lk_cons, Nat.reduceEqDiff, if_false, if_true, X_extract EE_sym, List.getElem?_toArray, List.getElem?_cons_zero, okI_some, List.getElem?_cons_succ, X_assign, X_nil, thenQ_normal, W_seq, w4_16, Mem.next_bump, lnz, Nat.le_add_right_of_le, bump_bump, Nat.reduceAdd, X_neq EE_sym, ev_const, neq_int, Int.reduceEq, decide_false, Bool.not_false, W_cond, CDi_t, w4_18, w4_17, X_guard EE_sym, T_get, GDi_tt, X_eql EE_sym, eq_int, hz, GDi_ft, X_pick EE_sym, pickV_bool, Bool.false_eq_true, eq4, beq_self_eq_true, W_ret, thenQ_ret, FinX_ret, resA_tmp, resA_nil, Option.map_some, oneOr1, true_and]
          exact endq _
      have hx0 : 0 ≤ xp := by omega
      have hx1 : xp < 16 := by omega
      by_cases hf : ∃ k, k < 64 ∧ s.r k = 0
      · obtain ⟨k, hk, h0, hj⟩ := least hf
        refine CallI.con0 (open_at (s := s) (sz := 0) (by simp only [FAt, Mem.get_bump]; exact Uf) hx0 hx1 hk h0 hj) ?_
        have lp : p < mu.next := by omega
        have lf : f < mu.next := by omega
        have lx : m.next < mu.next := by omega
        have xf : ¬ m.next = f := by omega
        have q1 := lt_ne lp
        simp only [put_bump, putT, Nat.reduceLT, T_set, X_move, ev_T, lk_cons, Nat.reduceEqDiff, if_false, if_true, X_extract EE_sym, List.getElem?_toArray, List.getElem?_cons_zero, okI_some, List.getElem?_cons_succ, X_assign, X_nil, thenQ_normal, W_seq, w4_16, Mem.next_bump, Mem.next_put, lnz, Nat.le_add_right_of_le, bump_bump, Nat.reduceAdd, X_neq EE_sym, ev_const, neq_int, decide_true, Bool.not_true, W_cond, CDi_f, W_skip, w4_19, W_block, w4_27, true_and]
        refine WX.loop_of (fun x t M' => ∃ j : Nat, j ≤ b ∧ x = b - j ∧ t = T 139 [(81, .int .u8 j), (80, .int .u8 b), (12, In k), (11, In (64 - (usedL s 64).length)), (10, u), (8, PT p), (7, .bool true), (4, PT m.next), (2, .int .u8 b)] ∧ mu.next ≤ M'.next ∧ Fresh M' ∧ (∀ y, y < mu.next → y ≠ f → M'.get y = mu.get y) ∧ ∃ s' : FS, FAt M' f 0 s' ∧ s'.r k = j + 1 ∧ (s'.p k = xp ∧ s'.w k = xw) ∧ ∀ i, i ≠ k → s'.r i = s.r i) ?_ (k := b) (t1 := T 139 [(81, .int .u8 (0 : Nat)), (80, .int .u8 b), (12, In k), (11, In (64 - (usedL s 64).length)), (10, u), (8, PT p), (7, .bool true), (4, PT m.next), (2, .int .u8 b)]) (View.temps ⟨rfl, rfl, rfl, rfl, rfl, rfl, rfl, rfl, rfl, trivial⟩) ⟨0, by omega, rfl, rfl, by simp only [Mem.next_bump, Mem.next_put]; omega, ?_, fun y hy hyf => by simp only [Mem.get_bump, Mem.get_put, hyf, if_false], s.set k xp xw 1, by simp only [FAt, Mem.get_bump, Mem.get_put, if_true], by simp [FS.set], by simp [FS.set], fun i hi => by simp [FS.set, hi]⟩
        · rintro x t M' ⟨j, hjb, rfl, rfl, hn3, hf3, old3, s', hs', hr', hx', hoth⟩
          have hnz3 : m.next ≤ M'.next := by omega
          have Mp : M'.get p = some (.cells cp true 0) := by rw [old3 p lp pf, Up]
          by_cases hjj : j < b
          · have g1 : (j : Int) < (b : Int) := by omega
            have hw8 : IntKind.u8.wrap ((j : Int) + 1) = ((j + 1 : Nat) : Int) := by
              simp only [IntKind.wrap, IntKind.signed, IntKind.bits]
              simp
              omega
            simp only [w4_26, W_seq, w4_20, hnz3, X_bin EE_sym (op := .lss) rfl, Nat.reduceLT, ev_T, lk_cons, Nat.reduceEqDiff, if_false, if_true, bin_lss, g1, decide_true, okI_some, T_set, X_nil, ne_eq, thenQ_normal, W_cond, CDi_t, W_skip, W_block, w4_24, w4_21, Mem.next_bump, Nat.le_add_right_of_le, bump_bump, Nat.reduceAdd, X_move, X_nilCheck EE_sym, nilV_ptr, X_fieldAddr EE_sym fo_31_0, offV_ptr, Nat.add_zero, X_load EE_sym, load1 lay_26, Mem.get_bump, Mp, ld1_cells, hc.c0, X_call ca_16, List.map_cons, List.map_nil, true_and]
            obtain ⟨s2, hT, hsh⟩ := share_k (s := s') hk (by omega) (by omega)
            refine CallI.ex (hsh _ _ 0 (by simp only [FAt, Mem.get_bump]; exact hs')) fun m4 hu4 => ?_
            have n4 := hu4.next
            rw [Mem.next_bump] at n4
            have hnz4 : m.next ≤ m4.next := by omega
            have hf4 : Fresh m4 := hu4.fresh (by rw [Mem.next_bump]; omega) hf3.bump
            simp only [putT, Nat.reduceLT, T_set, X_neq EE_sym, ev_T, lk_cons, Nat.reduceEqDiff, if_false, if_true, ev_const, neq_int, decide_true, Bool.not_true, okI_some, X_nil, thenQ_normal, W_cond, CDi_f, W_skip, blockQ_normal, w4_25, hnz4, X_bin EE_sym (op := .add) rfl, bin_add, hw8, X_move, roundQ_normal, true_and]
            exact ⟨b - (j + 1), _, _, by omega, View.temps (l' := [(81, .int .u8 ((j + 1 : Nat) : Int)), (80, .int .u8 b), (12, In k), (11, In (64 - (usedL s 64).length)), (10, u), (8, PT p), (7, .bool true), (4, PT m.next), (2, .int .u8 b)]) ⟨rfl, rfl, rfl, rfl, rfl, rfl, rfl, rfl, rfl, trivial⟩, j + 1, by omega, rfl, rfl, by rw [Mem.next_bump]; omega, hf4.bump, fun y hy hyf => by rw [Mem.get_bump, hu4.get, if_neg hyf, Mem.get_bump, old3 y hy hyf], s2, by rw [FAt, Mem.get_bump, hu4.get, if_pos rfl], by rw [hT.at_, hr']; omega, by
              obtain ⟨a1, a2⟩ := hT.x (by omega)
              rw [a1, a2]; exact hx', fun i hi => by rw [(hT.other i hi).1, hoth i hi]⟩
          · have g1 : ¬ (j : Int) < (b : Int) := by omega
            obtain rfl : j = b := by omega
            have hcv := ofn (n := 0) hb
            simp only [w4_26, W_seq, w4_20, hnz3, X_bin EE_sym (op := .lss) rfl, Nat.reduceLT, ev_T, lk_cons, Nat.reduceEqDiff, if_false, if_true, bin_lss, g1, decide_false, okI_some, T_set, X_nil, ne_eq, thenQ_normal, W_cond, CDi_f, W_exit, thenQ_exit, roundQ_exit, blockQ_exit, w4_28, Mem.next_bump, Nat.le_add_right_of_le, bump_bump, Nat.reduceAdd, X_move, X_convert EE_sym, conv_int und_3 und_5, hcv, X_assign, W_block, w4_37, true_and]
            refine WX.loop_of (fun x t M' => ∃ q : Nat, q ≤ j + 1 ∧ x = j + 1 - q ∧ t = T 139 [(14, In ((j : Int) - q)), (12, In k), (11, In (64 - (usedL s 64).length)), (10, u), (8, PT p), (7, .bool true), (4, PT m.next)] ∧ mu.next ≤ M'.next ∧ Fresh M' ∧ (∀ y, y < mu.next → y ≠ f → M'.get y = mu.get y) ∧ ∃ s' : FS, FAt M' f 0 s' ∧ s'.r k = (j : Int) + 1 - q ∧ (s'.r k ≠ 0 → s'.p k = xp ∧ s'.w k = xw) ∧ ∀ i, i ≠ k → s'.r i = s.r i) ?_ (k := j + 1) (t1 := T 139 [(14, In ((j : Int) - (0 : Nat))), (12, In k), (11, In (64 - (usedL s 64).length)), (10, u), (8, PT p), (7, .bool true), (4, PT m.next)]) (View.temps ⟨by simp only [lk_cons, Nat.reduceEqDiff, if_false, if_true]; simp, rfl, rfl, rfl, rfl, rfl, rfl, trivial⟩) ⟨0, by omega, rfl, rfl, by simp only [Mem.next_bump]; omega, hf3.bump, fun y hy hyf => by rw [Mem.get_bump, old3 y hy hyf], s', hs', by rw [hr']; simp, fun _ => hx', hoth⟩
            clear hs' hr' hx' hoth
            rintro x t M4 ⟨q, hq, rfl, rfl, hn4, hf4, old4, s', hs', hr', hx', hoth⟩
            have hnz4 : m.next ≤ M4.next := by omega
            have Mp4 : M4.get p = some (.cells cp true 0) := by rw [old4 p lp pf, Up]
            have Mx4 : M4.get m.next = some (.cells (Cells.ofList [In xp, .bool xw]) true 0) := by rw [old4 _ lx xf, Ux]
            by_cases hqq : q < j + 1
            · have g1 : 0 ≤ (j : Int) - q := by omega
              simp only [w4_36, W_seq, w4_29, hnz4, X_move, Nat.reduceLT, ev_T, lk_cons, Nat.reduceEqDiff, if_false, if_true, T_set, X_bin EE_sym (op := .geq) rfl, ev_const, bin_geq, g1, decide_true, okI_some, X_nil, ne_eq, thenQ_normal, W_cond, CDi_t, W_skip, W_block, w4_34, w4_30, Mem.next_bump, Nat.le_add_right_of_le, bump_bump, Nat.reduceAdd, X_nilCheck EE_sym, nilV_ptr, X_fieldAddr EE_sym fo_31_0, offV_ptr, Nat.add_zero, X_load EE_sym, load1 lay_26, Mem.get_bump, Mp4, ld1_cells, hc.c0, X_call ca_15, List.map_cons, List.map_nil, true_and]
              obtain ⟨s2, hT, hsh⟩ := drop_k (s := s') hk (by omega) (by omega)
              refine CallI.ex (hsh _ _ 0 (by simp only [FAt, Mem.get_bump]; exact hs')) fun m5 hu5 => ?_
              have n5 := hu5.next
              rw [Mem.next_bump] at n5
              have hnz5 : m.next ≤ m5.next := by omega
              have hf5 : Fresh m5 := hu5.fresh (by rw [Mem.next_bump]; omega) hf4.bump
              obtain ⟨e1, e2⟩ := hx' (by omega)
              have e3 : s'.r k - 1 = (j : Int) - q := by omega
              have hwd : IntKind.i64.wrap ((j : Int) - q - 1) = (j : Int) - q - 1 := wrap_i64 (by omega) (by omega)
              have Mx5 : m5.get m.next = some (.cells (Cells.ofList [In xp, .bool xw]) true 0) := by rw [hu5.get, if_neg xf, Mem.get_bump, Mx4]
              have x0 := lt_ne (show m.next < M4.next by omega)
              have tf : ∀ c, ¬ M4.next + c = f := fun c => by omega
              simp only [W_seq, W_cond, W_skip, thenQ_normal, blockQ_normal, X_nil, X_move, X_assign, X_alloc, X_store, ev_T, ev_const, T_set, T_get, lk_cons, putT, Nat.reduceLT, Nat.reduceEqDiff, okI_some, CDi_f, GDi_ff, Nat.le_refl, Mem.next_bump, Mem.next_put, true_and, decide_true, Bool.false_eq_true, Nat.add_assoc, Nat.reduceAdd, Nat.zero_add, pickV_bool, Option.map_some, bump_bump, Mem.get_bump, w4_31, w4_35, X_pick EE_sym, X_neq EE_sym, X_extract EE_sym, X_load EE_sym, X_guard EE_sym, X_bin EE_sym (op := .sub) rfl, bin_sub, neq_int, loadN lay_34, store1 sz_34, zero_34, sub_write_same, List.getElem?_cons_zero, List.getElem?_cons_succ, ldN_cells, st1_cells, Mem.get_put, ofList_n, List.length_cons, List.length_nil, cells_agg, and_self, List.all_cons, List.all_nil, oneCell, Bool.and_self, if_true, if_false, Bool.not_true, List.getElem?_toArray, neq34, beq_self_eq_true, hnz4, Nat.le_add_right_of_le, e1, e2, e3, n5, Mx5, XS, x0, neq34, hwd, tf, hu5.get, roundQ_normal]
              refine ⟨j + 1 - (q + 1), _, _, by omega, View.temps (l' := [(14, In ((j : Int) - (q + 1 : Nat))), (12, In k), (11, In (64 - (usedL s 64).length)), (10, u), (8, PT p), (7, .bool true), (4, PT m.next)]) ⟨by simp only [lk_cons, Nat.reduceEqDiff, if_false, if_true]; congr 1; omega, rfl, rfl, rfl, rfl, rfl, rfl, trivial⟩, q + 1, by omega, rfl, rfl, by simp only [Mem.next_bump, Mem.next_put]; omega, ?_, fun y hy hyf => ?_, s2, ?_, by rw [hT.at_, hr']; omega, fun h => ?_, fun i hi => by rw [(hT.other i hi).1, hoth i hi]⟩
              · exact Fresh.of_low (by have := hf5.n64; simp only [Mem.next_bump, Mem.next_put]; omega) (Low.bump (Low.put (Low.put (Low.of hf5 (by simp only [Mem.next_bump, Mem.next_put]; omega)) (by simp only [Mem.next_bump, Mem.next_put]; omega)) (by simp only [Mem.next_bump, Mem.next_put]; omega)))
              · simp only [Mem.get_bump, Mem.get_put, lt_ne (show y < M4.next by omega), hu5.get, hyf, if_false]
                rw [old4 y hy hyf]
              · simp only [FAt, Mem.get_bump, Mem.get_put, lt_ne (show f < M4.next by omega), hu5.get, if_true, if_false]
              · obtain ⟨a1, a2⟩ := hT.x (by rw [← hT.at_]; exact h)
                rw [a1, a2]; exact ⟨e1, e2⟩
            · obtain rfl : q = j + 1 := by omega
              have g1 : ¬ 0 ≤ (j : Int) - (j + 1 : Nat) := by omega
              have hr0 : s'.r k = 0 := by omega
              have hus : usedL s' 64 = usedL s 64 := by
                unfold usedL
                refine List.filter_congr fun i _ => ?_
                by_cases hik : i = k
                · subst hik; rw [hr0, h0]
                · rw [hoth i hik]
              simp only [w4_36, W_seq, w4_29, hnz4, X_move, Nat.reduceLT, ev_T, lk_cons, Nat.reduceEqDiff, if_false, if_true, T_set, X_bin EE_sym (op := .geq) rfl, ev_const, bin_geq, g1, decide_false, okI_some, X_nil, ne_eq, thenQ_normal, W_cond, CDi_f, W_exit, thenQ_exit, roundQ_exit, blockQ_exit, w4_38, Mem.next_bump, Nat.le_add_right_of_le, bump_bump, Nat.reduceAdd, X_nilCheck EE_sym, nilV_ptr, X_fieldAddr EE_sym fo_31_0, offV_ptr, Nat.add_zero, X_load EE_sym, load1 lay_26, Mem.get_bump, Mp4, ld1_cells, hc.c0, X_call ca_19, List.map_cons, List.map_nil, true_and]
              refine CallI.ex2 (used_v (s := s') (sz := 0) hf4.bump (by simp only [FAt, Mem.get_bump]; exact hs')) fun u2 m6 hu6 => ?_
              obtain ⟨hu6, nu6⟩ := hu6
              have ln6 := nu6.next
              rw [Mem.next_bump] at ln6
              have lnz6 : m.next ≤ m6.next := by omega
              have Mp6 : m6.get p = some (.cells cp true 0) := by rw [nu6.old p (by rw [Mem.next_bump]; omega), Mem.get_bump, Mp4]
              have Mf6 : FAt m6 f 0 s' := by rw [FAt, nu6.old f (by rw [Mem.next_bump]; omega), Mem.get_bump]; exact hs'
              have hu1 : UsedV m6 s u := hu.old (fun y o h => nu.fresh.lt h) fun y hy ⟨c, hcc⟩ => by
                have hyf : y ≠ f := by
                  rintro rfl
                  rw [Uf] at hcc
                  cases hcc
                rw [nu6.old y (by rw [Mem.next_bump]; omega), Mem.get_bump, old4 y hy hyf]
              simp only [putT, Nat.reduceLT, T_set, X_assign, ev_T, lk_cons, Nat.reduceEqDiff, if_false, if_true, X_nil, thenQ_normal, W_seq, w4_39, lnz6, X_move, X_guard EE_sym, T_get, GDi_tt, X_call ca_22, List.map_cons, List.map_nil, true_and]
              refine CallI.con0 (same_v (M := m6.bump _) hu1 hu6 hus) ?_
              simp only [putT, Nat.reduceLT, T_set, X_pick EE_sym, ev_T, lk_cons, Nat.reduceEqDiff, if_false, if_true, ev_const, pickV_bool, okI_some, X_move, X_guard EE_sym, T_get, GDi_tt, X_nilCheck EE_sym, nilV_ptr, X_fieldAddr EE_sym fo_31_0, offV_ptr, Nat.add_zero, X_load EE_sym, load1 lay_26, Mem.get_bump, Mp6, ld1_cells, hc.c0, X_call ca_20, List.map_cons, List.map_nil]
              refine CallI.con (free_ok (s := s') (sz := 0) (by simp only [FAt, Mem.get_bump]; exact Mf6)) (by simp) ?_
              simp only [hus, putT, Nat.reduceLT, T_set, X_guard EE_sym, T_get, lk_cons, Nat.reduceEqDiff, if_false, if_true, GDi_tt, X_move, ev_T, X_eql EE_sym, eq_int, decide_true, okI_some, X_pick EE_sym, ev_const, pickV_bool, X_assign, X_nil, thenQ_normal, W_ret, FinX_ret, resA_tmp, resA_nil, Option.map_some, oneOr1]
              exact RawE.of (by rw [Mem.next_bump]; omega) fun y hy => by
                rw [Mem.get_bump, nu6.old y (by rw [Mem.next_bump]; omega), Mem.get_bump, old4 y (by omega) (by omega), Uo y hy]
        · exact Fresh.of_low (by have := nu.fresh.n64; simp only [Mem.next_bump, Mem.next_put]; omega) (Low.bump (Low.put (Low.of nu.fresh (by simp only [Mem.next_bump, Mem.next_put]; omega)) (by simp only [Mem.next_bump, Mem.next_put]; omega)))
      · have hf' : ∀ k, k < 64 → s.r k ≠ 0 := fun k hk e => hf ⟨k, hk, e⟩
        have e64 : (usedL s 64).length = 64 := usedL_all hf'
        have e64x : ((64 : Nat) : Int) = 64 := rfl
        refine CallI.con0 (open_full (s := s) (sz := 0) (by simp only [FAt, Mem.get_bump]; exact Uf) hx0 hx1 hf') ?_
        simp only [putT, e64, e64x, Int.sub_self, Nat.reduceLT, T_set, X_move, ev_T, lk_cons, Nat.reduceEqDiff, if_false, if_true, X_extract EE_sym, List.getElem?_toArray, List.getElem?_cons_zero, okI_some, List.getElem?_cons_succ, X_assign, X_nil, thenQ_normal, W_seq, w4_16, Mem.next_bump, lnz, Nat.le_add_right_of_le, bump_bump, Nat.reduceAdd, X_neq EE_sym, ev_const, neq_int, Int.reduceEq, decide_false, Bool.not_false, W_cond, CDi_t, w4_18, w4_17, X_guard EE_sym, T_get, GDi_tt, X_eql EE_sym, eq_int, decide_true, X_fieldAddr EE_sym fo_34_0, offV_ptr, Nat.add_zero, X_load EE_sym, load1 lay_3, Mem.get_bump, Ux, ld1_cells, X0, X_bin EE_sym (op := .geq) rfl, bin_geq, hx0, X_pick EE_sym, pickV_bool, X_bin EE_sym (op := .lss) rfl, bin_lss, hx1, eq4, beq_self_eq_true, W_ret, thenQ_ret, FinX_ret, resA_tmp, resA_nil, Option.map_some, oneOr1, true_and]
        exact endq _
  · obtain ⟨f, dd, w, v, N, s, d, W, k1, k2, k3⟩ := h3.bump (j := 3)
    have hh : m.next + 1 ≤ m1.next + 9 := by omega
    exact ⟨f, dd, w, v, N, s, d, W, ⟨k1.hp, k1.hf, k1.hd, k1.hw, k1.hv, k1.fw, Nat.le_trans hh k1.lp, Nat.le_trans hh k1.lf, Nat.le_trans hh k1.ld, Nat.le_trans hh k1.lw, Nat.le_trans hh k1.lv, Nat.le_trans hh k1.lN⟩, k2, k3⟩
end
end
end Go.Ab
