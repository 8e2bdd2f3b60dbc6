/- SignalPlays: whatever the signals and the calls, it answers true. -/
import Derived.Test.YthpncefkklojlaaSpF
import Derived.Test.YthpncefkklojlaaSpG
namespace Go.Ab
open Go.Proofs Go.Proofs.Ythpncefkklojlaa.sig
noncomputable section
set_option maxHeartbeats 8000000
set_option maxRecDepth 10000
/-- Calls, where they lie. -/
def Ops (m : Mem) (v : Value) (n : Nat) : Prop := ∃ a C, v = .slice a n C ∧ (n = 0 ∨ ∃ L cs w z, a = some ⟨L, 0, none⟩ ∧ m.get L = some (.cells cs w z) ∧ ∀ i, i < n → ∃ (k x : Int) (b : BitVec 32), cs.sub (i * 3) 3 = some [In k, In x, Um b])
theorem sub_nth {cs : Cells} {o n j : Nat} {l : List Value} {v : Value} (h : cs.sub o n = some l) (hj : j < n) (hv : l.getD j undef = v) : cs.nth (o + j) = some v := by
  have h1 := sub_get_inv h hj
  have h2 : o + n ≤ cs.n := by
    unfold Cells.sub at h
    split at h
    · assumption
    · cases h
  rw [nth_lt (by omega), h1, hv]
section
variable {m : Mem} {l : Value} {n : Nat} {s : S}
theorem wk_eq (ho : okS s = true) : wk s = decide ((0 : Int) < (nx s).sig) := by
  unfold wk
  by_cases h : (0 : Int) < (nx s).sig
  · have : (nx s).to ≠ s := fun e => by
      rcases nx_spec ho with ⟨g1, _⟩ | ⟨j, g1, g2, g3, g4, _, _, _, g8, _⟩
      · omega
      · have h1 := g8 j (by omega)
        rw [e, g4] at h1
        have hp : s.p.getLsbD j = true := by
          rw [ready_bit s j (by omega)] at g4
          cases hp : s.p.getLsbD j with
          | true => rfl
          | false => rw [hp] at g4; cases g4
        rw [hp] at h1
        simp at h1
        omega
    simp [h, this]
  · simp [h]
theorem wk_eq' : wk s = decide ((0 : Int) < (nx s).sig) := by
  cases ho : okS s with
  | true => exact wk_eq ho
  | false =>
    have e : nx s = ⟨0, 0, s⟩ := by unfold nx; rw [ho]; rfl
    unfold wk
    rw [e]; rfl
/-- Both are the same. -/
structure LawM (m : Mem) (b b2 : Nat) (s : S) (M : Mem) : Prop where
  nx : Nx m M
  lt : m.next ≤ b
  lt2 : b < b2
  at_ : ∃ c, M.get b = some (.cells c true 0) ∧ c.n = 19 ∧ c.list = sl s
  at2 : ∃ c, M.get b2 = some (.cells c true 0) ∧ c.n = 19 ∧ c.list = sl s
theorem neqB {a b : Bool} {xo yo : Operand} : eqA EE.P .neq 4 xo yo (.bool a) (.bool b) m = some (.bool (!decide (a = b))) := by
  cases a <;> cases b <;> kernel_rfl
theorem plays_ok (hm : Fresh m) (hl : Ops m l n) : ∃ m', Con EE.P 9 [SV s, l] m (.bool true) m' := by
  refine Con.raw1 EE_ok fn9 (Nat.le_of_ble_eq_true rfl) ?_
  obtain ⟨aa, C, rfl, hl2⟩ := id hl
  by_cases hn : 200 < n
  · have hx : ((200 : Int) < (n : Int)) = True := eq_true (by omega)
    simp only [f9, enumV, Nat.zero_add, w9, W_seq, w9_0, Nat.le_refl, X_box, Nat.reduceLT, ev_T, lk_cons, Nat.one_ne_zero, if_false, if_true, sl_box, okI_some, Nat.add_zero, T_set, put_bump, X_assign, ev_const, X_nil, thenQ_normal, w9_1, Mem.next_bump, Mem.next_put, Nat.le_add_right, bump_bump, Nat.reduceAdd, X_move, Nat.reduceEqDiff, X_len EE_sym, len_slice und_48, X_bin EE_sym (op := .gtr) rfl, bin_gtr, hx, decide_true, W_cond, CDi_t, w9_3, w9_2, W_ret, thenQ_ret, FinX_ret, resA_tmp, T_get, resA_nil, Option.map_some, oneOr1, true_and]
    exact RawE.of (by simp only [Mem.next_bump, Mem.next_put]; omega) fun y hy => by simp only [Mem.get_bump, Mem.get_put, ne_new0 hy, if_false]
  have hx : ((200 : Int) < (n : Int)) = False := eq_false (by omega)
  simp only [f9, enumV, Nat.zero_add, w9, W_seq, w9_0, Nat.le_refl, X_box, Nat.reduceLT, ev_T, lk_cons, Nat.one_ne_zero, if_false, if_true, sl_box, okI_some, Nat.add_zero, T_set, put_bump, X_assign, ev_const, X_nil, thenQ_normal, w9_1, Mem.next_bump, Mem.next_put, Nat.le_add_right, bump_bump, Nat.reduceAdd, X_move, Nat.reduceEqDiff, X_len EE_sym, len_slice und_48, X_bin EE_sym (op := .gtr) rfl, bin_gtr, hx, decide_false, W_cond, CDi_f, W_skip, w9_4, X_load EE_sym, loadN lay_25, Mem.get_bump, Mem.get_put, ldN_cells, ofList_n, sl_len, sub_all, Cells.ofList_list, Option.map_some, agg_sl, X_alloc, zero_S, Nat.add_assoc, X_store, store1 sz_25, Nat.add_eq_left, sl_cells, st1_cells, sl_one, and_self, w9_5, W_block, w9_18, true_and]
  refine WX.loop_of (fun k t M => ∃ (i : Nat) (s : S), i ≤ n ∧ k = n - i ∧ t = T 82 [(20, In i), (19, In n), (5, PT (m.next + 6)), (2, PT m.next), (1, .slice aa n C)] ∧ LawM m m.next (m.next + 6) s M) ?_ (k := n) (t1 := T 82 [(20, In (0 : Nat)), (19, In n), (5, PT (m.next + 6)), (2, PT m.next), (1, .slice aa n C)]) (View.temps ⟨rfl, rfl, rfl, rfl, rfl, trivial⟩) ⟨0, s, by omega, rfl, rfl, ?_⟩
  · clear s
    rintro k t M ⟨i, s, hi, rfl, rfl, hI⟩
    obtain ⟨c, c1, c2, c3⟩ := hI.at_
    obtain ⟨d, d1, d2, d3⟩ := hI.at2
    have hnx := hI.nx.next
    by_cases hi2 : i < n
    · have g1 : ((i : Int) < (n : Int)) = True := eq_true (by omega)
      have g2 : (0 : Int) ≤ i := by omega
      rcases hl2 with hl2 | ⟨L, cs, ww, z, rfl, e1, e2⟩
      · omega
      obtain ⟨k, x, a, e3⟩ := e2 i hi2
      have e4 : M.get L = some (.cells cs ww z) := hI.nx.keep hm e1
      have e5 : cs.nth (i * 3 + 2) = some (Um a) := sub_nth e3 (by decide) rfl
      rw [Cells.nth_eq] at e5
      have hw : IntKind.i64.wrap ((i : Int) + 1) = ((i + 1 : Nat) : Int) := by rw [wrap_i64 (by omega) (by omega)]; omega
      simp only [w9_17, W_seq, w9_6, hnx, X_bin EE_sym (op := .lss) rfl, Nat.reduceLT, ev_T, lk_cons, Nat.reduceEqDiff, if_false, if_true, bin_lss, g1, decide_true, okI_some, T_set, X_nil, thenQ_normal, W_cond, CDi_t, W_skip, W_block, w9_15, w9_7, Mem.next_bump, Nat.le_add_right_of_le, bump_bump, Nat.reduceAdd, X_move, X_assign, w9_8, X_load EE_sym, loadN lay_25, Mem.get_bump, c1, ldN_cells, c2, sub_all, c3, Option.map_some, agg_sl, d1, d2, d3, X_indexAddr EE_sym, g2, idxV_slice und_48 sz_52, Int.toNat_natCast, Nat.zero_add, loadN lay_52, e4, e3, X_call ca_21, List.map_cons, List.map_nil, true_and]
      refine CallI.con0 doP ?_
      simp only [putT, Nat.reduceLT, T_set, X_move, ev_T, lk_cons, Nat.reduceEqDiff, if_false, if_true, X_extract EE_sym, List.getElem?_toArray, List.getElem?_cons_zero, okI_some, X_alloc, zero_S, Nat.add_assoc, Nat.reduceAdd, put_bump, X_store, store1 sz_25, Mem.get_bump, Mem.get_put, Nat.add_left_cancel_iff, sl_cells, st1_cells, sl_len, Nat.zero_add, ofList_n, Nat.le_refl, sl_one, and_self, List.getElem?_cons_succ, X_assign, X_nil, thenQ_normal, W_seq, w9_9, Mem.next_bump, Mem.next_put, hnx, Nat.le_add_right_of_le, bump_bump, X_load EE_sym, loadN lay_25, ldN_cells, write_n, sub_all, list_writeN, Option.map_some, agg_sl, X_call ca_22, List.map_cons, List.map_nil, true_and]
      refine CallI.con0 nextD ?_
      have Ln := lt_ne (Nat.lt_of_lt_of_le (hm.lt e1) hnx)
      simp only [putT, Nat.reduceLT, T_set, X_move, ev_T, lk_cons, Nat.reduceEqDiff, if_false, if_true, X_extract EE_sym, List.getElem?_toArray, List.getElem?_cons_zero, okI_some, List.getElem?_cons_succ, X_alloc, zero_S, Nat.add_assoc, Nat.reduceAdd, put_bump, X_assign, X_store, store1 sz_25, Mem.get_bump, Mem.get_put, Nat.add_left_cancel_iff, sl_cells, st1_cells, sl_len, Nat.zero_add, ofList_n, Nat.le_refl, sl_one, and_self, X_nil, thenQ_normal, W_seq, w9_10, Mem.next_bump, Mem.next_put, hnx, Nat.le_add_right_of_le, bump_bump, X_indexAddr EE_sym, g2, g1, idxV_slice und_48 sz_52, Int.toNat_natCast, X_fieldAddr EE_sym fo_52_2, offV_ptr, X_load EE_sym, load1 lay_22, Ln, e4, ld1_cells, Cells.nth_eq, e5, X_call ca_19, List.map_cons, List.map_nil, true_and]
      refine CallI.ex2 (listP (x := a) ?_) fun v M2 hL => ?_
      · exact Fresh.of_low (by have := hm.n64; simp only [Mem.next_bump, Mem.next_put]; omega) (by repeat (first | exact Low.of hI.nx.fresh (by simp only [Mem.next_bump, Mem.next_put]; omega) | refine Low.put ?_ (by simp only [Mem.next_bump, Mem.next_put]; omega) | refine Low.bump ?_))
      have n2 := hL.nx.next
      simp only [Mem.next_bump, Mem.next_put] at n2
      have old2 : ∀ y, y < M.next → M2.get y = M.get y := fun y hy => by
        rw [hL.nx.old y (by simp only [Mem.next_bump, Mem.next_put]; omega)]
        simp only [Mem.get_bump, Mem.get_put, lt_ne hy, if_false]
      have q14 : M2.get (M.next + 14) = some (.cells ((Cells.ofList (sl s0)).write 0 (sl (doS s k x a))) true 0) := by
        rw [hL.nx.old _ (by simp only [Mem.next_bump, Mem.next_put]; omega)]
        simp only [Mem.get_bump, Mem.get_put, Nat.add_left_cancel_iff, Nat.reduceEqDiff, if_false, if_true]
      have q15 : M2.get (M.next + 15) = some (.cells ((Cells.ofList (sl s0)).write 0 (sl (doS s k x a))) true 0) := by
        rw [hL.nx.old _ (by simp only [Mem.next_bump, Mem.next_put]; omega)]
        simp only [Mem.get_bump, Mem.get_put, Nat.add_left_cancel_iff, Nat.reduceEqDiff, if_false, if_true]
      have e6 : M2.get L = some (.cells cs ww z) := (old2 L (Nat.lt_of_lt_of_le (hm.lt e1) hnx)).trans e4
      have lb : m.next < M.next := hI.nx.fresh.lt c1
      have lb2 : m.next + 6 < M.next := hI.nx.fresh.lt d1
      have r1 := (old2 m.next lb).trans c1
      have r2 := (old2 (m.next + 6) lb2).trans d1
      have n3 : m.next ≤ M2.next := by omega
      have n3' : M.next ≤ M2.next := by omega
      obtain ⟨s', hs'⟩ : ∃ s', s' = doS s k x a := ⟨_, rfl⟩
      rw [← hs'] at q14 q15 ⊢
      simp only [putT, Nat.reduceLT, T_set, X_assign, ev_T, lk_cons, Nat.reduceEqDiff, if_false, if_true, X_nil, thenQ_normal, W_seq, w9_11, n3, Y_0, X_move, keepM_f, X_un EE_sym, un_not, Bool.not_true, okI_some, X_guard EE_sym, T_get, GDi_ff, X_load EE_sym, loadN lay_25, Mem.get_bump, q14, ldN_cells, write_n, ofList_n, sl_len, sub_all, list_writeN, Option.map_some, agg_sl, q15, X_neq EE_sym, neqS, decide_true, X_pick EE_sym, ev_const, pickV_bool, Bool.false_eq_true, X_call ca_17, List.map_cons, List.map_nil, true_and]
      refine CallI.con0 wakesP ?_
      have hwk := wk_eq' (s := s')
      simp only [hwk, putT, Nat.reduceLT, T_set, X_nil, keepM_f, Y_0, X_guard EE_sym, T_get, lk_cons, Nat.reduceEqDiff, if_false, if_true, GDi_ff, X_move, ev_T, X_bin EE_sym (op := .gtr) rfl, ev_const, bin_gtr, okI_some, X_neq EE_sym, neqB, decide_true, Bool.not_true, X_pick EE_sym, pickV_bool, Bool.false_eq_true, X_load EE_sym, loadN lay_25, Mem.get_bump, q14, ldN_cells, write_n, ofList_n, sl_len, sub_all, list_writeN, Option.map_some, agg_sl, X_call ca_11, List.map_cons, List.map_nil]
      refine CallI.con checkP (by simp) ?_
      have hck : decide ((if okS s' = true then (0 : Int) else 120) = 0) = okS s' := by cases okS s' <;> rfl
      simp only [putT, Nat.reduceLT, T_set, X_nil, keepM_t, Y_guard EE_sym, T_get, lk_cons, Nat.reduceEqDiff, if_false, if_true, GDi_ff, Y_re, RE_load EE_sym, ev_T, loadN lay_25, Mem.get_bump, q15, ldN_cells, write_n, ofList_n, sl_len, sub_all, list_writeN, Option.map_some, agg_sl, okI_some, lookK_cons, eqvS, TDi_t, Y_0, X_load EE_sym, keepM_f, X_guard EE_sym, X_call ca_23, List.map_cons, List.map_nil]
      refine CallI.con mayD (by simp) ?_
      simp only [putT, Nat.reduceLT, T_set, X_nil, keepM_t, Y_guard EE_sym, T_get, lk_cons, Nat.reduceEqDiff, if_false, if_true, GDi_ff, Y_re, RE_eql, ev_T, ev_const, eq_int, hck, okI_some, lookK_cons, eqvB, TDi_t, Y_0, X_eql EE_sym, keepM_f, X_guard EE_sym, X_neq EE_sym, neqB, decide_true, Bool.not_true, X_pick EE_sym, pickV_bool, Bool.false_eq_true, X_move, X_indexAddr EE_sym, g2, g1, idxV_slice und_48 sz_52, Int.toNat_natCast, Nat.zero_add, X_fieldAddr EE_sym fo_52_2, offV_ptr, X_load EE_sym, load1 lay_22, Mem.get_bump, e6, ld1_cells, Cells.nth_eq, e5, X_call ca_25, List.map_cons, List.map_nil]
      refine CallI.ex2L (listD (x := a) hL.nx.fresh.bump) (by simp) fun v2 M3 hL2 => ?_
      have n4 := hL2.nx.next
      rw [Mem.next_bump] at n4
      have n5 : M2.next ≤ M3.next := by omega
      have n6 : m.next ≤ M3.next := by omega
      have n6' : M.next ≤ M3.next := by omega
      have hx3 : Nx M2 M3 := hL2.nx.of_bump
      have hlen := bitsTo_len (x := a) (n := 16)
      simp only [putT, Nat.reduceLT, T_set, X_nil, keepM_f, Y_0, X_guard EE_sym, T_get, lk_cons, Nat.reduceEqDiff, if_false, if_true, GDi_ff, X_move, ev_T, X_call ca_24, List.map_cons, List.map_nil]
      refine CallI.con (sameP (k := bitsTo a 16) (hL.sl.nx hL.nx.fresh hx3) hL2.sl (by omega)) (by simp) ?_
      have p14 := hx3.keep hL.nx.fresh q14
      have p15 := hx3.keep hL.nx.fresh q15
      have p1 := hx3.keep hL.nx.fresh r1
      have p2 := hx3.keep hL.nx.fresh r2
      have z1 := lt_ne' lb
      have z2 := lt_ne' lb2
      have z3 : ¬ m.next = m.next + 6 := by omega
      have z4 : ¬ m.next + 6 = m.next := by omega
      have z1' := lt_ne lb
      have z2' := lt_ne lb2
      simp only [putT, Nat.reduceLT, T_set, X_nil, keepM_f, Y_0, X_guard EE_sym, T_get, lk_cons, Nat.reduceEqDiff, if_false, if_true, GDi_ff, X_un EE_sym, ev_T, un_not, Bool.not_true, okI_some, X_pick EE_sym, ev_const, pickV_bool, Bool.false_eq_true, Y_nil, thenQ_normal, W_cond, CDi_f, W_skip, w9_14, n6, X_load EE_sym, loadN lay_25, Mem.get_bump, p14, ldN_cells, write_n, ofList_n, sl_len, sub_all, list_writeN, Option.map_some, agg_sl, X_store, store1 sz_25, p1, sl_cells, st1_cells, Nat.zero_add, c2, Nat.le_refl, sl_one, and_self, put_bump, keepM_t, Y_re, RE_load EE_sym, Mem.get_put, z1, p15, lookK_cons, eqvS, TDi_t, z4, p2, d2, blockQ_normal, w9_16, Mem.next_bump, Mem.next_put, Nat.le_add_right_of_le, bump_bump, Nat.reduceAdd, X_bin EE_sym (op := .add) rfl, bin_add, hw, X_move, roundQ_normal, true_and]
      refine ⟨n - (i + 1), _, _, by omega, View.temps (l' := [(20, In ((i + 1 : Nat) : Int)), (19, In n), (5, PT (m.next + 6)), (2, PT m.next), (1, .slice (some ⟨L, 0, none⟩) n C)]) ⟨rfl, rfl, rfl, rfl, rfl, trivial⟩, i + 1, s', by omega, rfl, rfl, ?_⟩
      refine ⟨⟨by simp only [Mem.next_bump, Mem.next_put]; omega, Fresh.of_low (by have := hm.n64; simp only [Mem.next_bump, Mem.next_put]; omega) (by repeat (first | exact Low.of hL2.nx.fresh (by simp only [Mem.next_bump, Mem.next_put]; omega) | refine Low.put ?_ (by simp only [Mem.next_bump, Mem.next_put]; omega) | refine Low.bump ?_)), fun y hy => ?_⟩, Nat.le_refl _, by omega, ⟨_, by simp only [Mem.get_bump, Mem.get_put, z3, if_false, if_true]; rfl, by rw [write_n, c2], list_writeN (by rw [sl_len, c2])⟩, ⟨_, by simp only [Mem.get_bump, Mem.get_put, if_true]; rfl, by rw [write_n, d2], list_writeN (by rw [sl_len, d2])⟩⟩
      simp only [Mem.get_bump, Mem.get_put, ne_new0 hy, ne_new hy, if_false]
      rw [hx3.old y (by omega), old2 y (by omega), hI.nx.old y hy]
    · have g1 : ((i : Int) < (n : Int)) = False := eq_false (by omega)
      simp only [w9_17, W_seq, w9_6, hnx, X_bin EE_sym (op := .lss) rfl, Nat.reduceLT, ev_T, lk_cons, Nat.reduceEqDiff, if_false, if_true, bin_lss, g1, decide_false, okI_some, T_set, X_nil, thenQ_normal, W_cond, CDi_f, W_exit, thenQ_exit, roundQ_exit, blockQ_exit, w9_19, Mem.next_bump, Nat.le_add_right_of_le, bump_bump, Nat.reduceAdd, X_assign, ev_const, W_ret, FinX_ret, resA_tmp, T_get, resA_nil, Option.map_some, oneOr1, true_and]
      exact RawE.of (by simp only [Mem.next_bump]; omega) fun y hy => hI.nx.old y hy
  · refine ⟨⟨by simp only [Mem.next_bump, Mem.next_put]; omega, Fresh.of_low (by have := hm.n64; simp only [Mem.next_bump, Mem.next_put]; omega) (by repeat (first | exact Low.of hm (by simp only [Mem.next_bump, Mem.next_put]; omega) | refine Low.put ?_ (by simp only [Mem.next_bump, Mem.next_put]; omega) | refine Low.bump ?_)), fun y hy => by simp only [Mem.get_bump, Mem.get_put, ne_new0 hy, ne_new hy, if_false]⟩, Nat.le_refl _, by omega, ⟨_, by simp only [Mem.get_bump, Mem.get_put, Nat.left_eq_add, Nat.reduceEqDiff, if_false, if_true]; rfl, by rw [ofList_n, sl_len], by rw [Cells.ofList_list]⟩, ⟨_, by simp only [Mem.get_bump, Mem.get_put, if_true]; rfl, by rw [write_n, ofList_n, sl_len], list_writeN (by rw [sl_len, ofList_n, sl_len])⟩⟩
end
end
end Go.Ab
