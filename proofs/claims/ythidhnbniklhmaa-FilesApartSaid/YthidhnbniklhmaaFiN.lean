/- FilesApart: whatever the calls, the number and the turn, it answers true. -/
import Derived.Test.YthidhnbniklhmaaFiO
namespace Go.Ab
open Go.Proofs
noncomputable section
set_option maxHeartbeats 4000000
theorem Con.raw1 {f : FuncId} {sf : SFunc} {args : List Value} {m : Mem} {v : Value} (hf : fnOf EE.P f = some sf) (hl : args.length ≤ sf.ntmps)
    (h : WXi EE m.next none sf.body (T sf.ntmps (enumV 0 args)) m (Q := ⟨FinX EE.P sf.results m (fun u m' => u = v)⟩)) : ∃ m', Con EE.P f args m v m' := by
  obtain ⟨u, m', h1, rfl⟩ := Con.raw EE_ok hf hl _ h
  exact ⟨m', h1⟩
theorem Nx.mono {m m1 : Mem} {k : Nat} (h : Nx (m.bump k) m1) : Nx m m1 := ⟨by have := h.next; rw [Mem.next_bump] at this; omega, h.fresh, fun y hy => h.old y (by rw [Mem.next_bump]; omega)⟩
theorem RawE.of {m m1 : Mem} {v : Value} (h1 : m.next ≤ m1.next) (h2 : ∀ y, y < m.next → m1.get y = m.get y) : RawE m m1 v (fun u _ => u = v) := ⟨⟨h1, fun y hy e => by rw [h2 y hy, e]⟩, rfl⟩
theorem Low.lt {m : Mem} {n y : Nat} {o : AObj} (h : Low m n) (ho : m.get y = some o) : y < n := by
  rcases Nat.lt_or_ge y n with e | e
  · exact e
  · rw [h y e] at ho; cases ho
section
variable {m : Mem} {l : Value} {n b : Nat} {drop : Bool}
theorem apart_ok (hm : Fresh m) (hl : Ops m l n) (hb : b < 256) : ∃ m', Con EE.P 3 [l, .int .u8 b, .bool drop] m (.bool true) m' := by
  refine Con.raw1 fn3 (Nat.le_of_ble_eq_true rfl) ?_
  obtain ⟨aa, C, rfl, hl2⟩ := id hl
  simp only [f3, enumV, Nat.zero_add, Nat.reduceAdd, w3, W_seq, w3_0, Nat.le_refl, X_assign, ev_const, Nat.reduceLT, T_set, X_nil, thenQ_normal, w3_1, Mem.next_bump, Nat.le_add_right, bump_bump, X_call ca_10, List.map_nil, true_and]
  refine CallI.ex (R := Nx m) (by obtain ⟨m', h1, h2⟩ := alive_ok (m := m.bump 3) hm.bump; exact ⟨m', h1, h2.mono⟩) fun m1 n1 => ?_
  have l1 := n1.next
  by_cases hn : 200 < n
  · have hx : (200 : Int) < (n : Int) := by omega
    simp only [putT, Nat.reduceLT, T_set, X_assign, ev_T, lk_cons, Nat.reduceEqDiff, if_false, if_true, X_nil, thenQ_normal, W_seq, w3_2, l1, X_move, Nat.one_ne_zero, X_len EE_sym, len_slice und_22, okI_some, X_bin EE_sym (op := .gtr) rfl, ev_const, bin_gtr, hx, decide_true, X_guard EE_sym, T_get, GDi_tf, X_pick EE_sym, pickV_bool, W_cond, CDi_t, w3_4, w3_3, Mem.next_bump, Nat.le_add_right_of_le, bump_bump, Nat.reduceAdd, W_ret, thenQ_ret, FinX_ret, resA_tmp, resA_nil, Option.map_some, oneOr1, true_and]
    exact RawE.of (by simp only [Mem.next_bump]; omega) fun y hy => n1.old y hy
  have hx : ¬ (200 : Int) < (n : Int) := by omega
  simp only [putT, Nat.reduceLT, T_set, X_assign, ev_T, lk_cons, Nat.reduceEqDiff, if_false, if_true, X_nil, thenQ_normal, W_seq, w3_2, l1, X_move, Nat.one_ne_zero, X_len EE_sym, len_slice und_22, okI_some, X_bin EE_sym (op := .gtr) rfl, ev_const, bin_gtr, hx, decide_false, X_guard EE_sym, T_get, GDi_ff, X_un EE_sym, un_not, Bool.not_true, X_pick EE_sym, pickV_bool, Bool.false_eq_true, W_cond, CDi_f, W_skip, w3_5, Mem.next_bump, Nat.le_add_right_of_le, bump_bump, Nat.reduceAdd, X_call ca_11, List.map_cons, List.map_nil, true_and]
  obtain ⟨p, m2, c2, n2, s2⟩ := grown_ok (m := m1.bump 10) n1.fresh.bump (Ops.old hm hl (fun y hy => n1.old y hy)) (by omega)
  refine CallI.con0 c2 ?_
  obtain ⟨f, dd, w, v, N, s, d, W, hS, hI, hd⟩ := s2
  obtain ⟨cp, hp, hc⟩ := hS.hp
  have l2 := n2.next
  rw [Mem.next_bump] at l2
  have l2q : m.next ≤ m2.next := by omega
  have p0 := fun j => n2.fresh.ne hp j
  have f0 := fun j => n2.fresh.ne hS.hf j
  have old2 : ∀ y, y < m.next → m2.get y = m.get y := fun y hy => by rw [n2.old y (by rw [Mem.next_bump]; omega), Mem.get_bump, n1.old y hy]
  simp only [putT, Nat.reduceLT, T_set, X_assign, ev_T, lk_cons, Nat.reduceEqDiff, if_false, if_true, X_nil, thenQ_normal, W_seq, w3_6, l2q, X_move, X_nilCheck EE_sym, nilV_ptr, okI_some, X_fieldAddr EE_sym fo_31_0, offV_ptr, Nat.add_zero, X_load EE_sym, load1 lay_26, Mem.get_bump, hp, ld1_cells, hc.c0, X_call ca_12, List.map_cons, List.map_nil, true_and]
  refine CallI.con0 (copy_ok (s := s) (sz := 0) hS.hf) ?_
  have hcv := ofn (n := 0) hb
  have htm : ((b : Int)).tmod 64 = ((b % 64 : Nat) : Int) := tmodn (n := 64)
  have hk : b % 64 < 64 := Nat.mod_lt _ (by decide)
  generalize b % 64 = k at htm hk
  simp only [Mem.next_bump, put_bump, bump_bump, Nat.reduceAdd, putT, Nat.reduceLT, T_set, X_assign, ev_T, lk_cons, Nat.reduceEqDiff, if_false, if_true, X_nil, thenQ_normal, W_seq, w3_7, Mem.next_put, l2q, Nat.le_add_right_of_le, X_move, X_convert EE_sym, conv_int und_3 und_5, hcv, okI_some, X_bin EE_sym (op := .rem) rfl, ev_const, bin_rem (b := 64) (by decide), htm, w3_8, X_call ca_13, List.map_cons, List.map_nil, true_and]
  refine CallI.con0 (get_k (s := s) (sz := 0) (by simp only [FAt, Mem.get_bump, Mem.get_put, if_true]) hk) ?_
  simp only [putT, Nat.reduceLT, T_set, X_move, ev_T, lk_cons, Nat.reduceEqDiff, if_false, if_true, X_extract EE_sym, List.getElem?_toArray, List.getElem?_cons_zero, okI_some, List.getElem?_cons_succ, X_alloc, zero_34, Nat.add_assoc, Nat.reduceAdd, put_bump, X_store, store1 sz_34, Mem.get_bump, Mem.get_put, Nat.add_left_cancel_iff, cells_agg, st1_cells, List.length_cons, List.length_nil, Nat.zero_add, ofList_n, Nat.le_refl, List.all_cons, oneCell, List.all_nil, Bool.and_self, and_self, X_assign, X_nil, thenQ_normal, W_seq, w3_9, Mem.next_bump, Mem.next_put, l2q, Nat.le_add_right_of_le, bump_bump, X_call ca_14, List.map_cons, List.map_nil, true_and]
  refine CallI.con0 (refs_k (s := s) (sz := 0) (by simp only [FAt, Mem.get_bump, Mem.get_put, Nat.add_left_cancel_iff, Nat.reduceEqDiff, if_true, if_false]) hk) ?_
  have r0 := hI.lo k
  have r1 := hI.hi k
  have hw1 : IntKind.i64.wrap (s.r k + 1) = s.r k + 1 := wrap_i64 (by omega) (by omega)
  have hfl := n2.fresh.lt hS.hf
  have hlf := hS.lf
  rw [Mem.next_bump] at hlf
  have q4 : ∀ j, ¬ m2.next + j = f := fun j e => f0 j e.symm
  have pf : ¬ p = f := hS.pf
  have hyf : ∀ y, y < m.next → ¬ y = f := fun y hy => by omega
  by_cases h0 : s.r k = 0
  · have e0 : (!decide (s.r k = 0)) = false := by rw [h0]; rfl
    cases drop with
    | false =>
      simp only [putT, e0, Nat.reduceLT, T_set, X_assign, ev_T, lk_cons, Nat.reduceEqDiff, if_false, if_true, X_nil, thenQ_normal, W_seq, w3_10, Mem.next_bump, Mem.next_put, l2q, Nat.le_add_right_of_le, bump_bump, Nat.reduceAdd, X_move, X_bin EE_sym (op := .add) rfl, ev_const, bin_add, hw1, okI_some, w3_11, W_cond, CDi_f, w3_15, w3_14, X_nilCheck EE_sym, nilV_ptr, X_fieldAddr EE_sym fo_31_0, offV_ptr, Nat.add_zero, X_load EE_sym, load1 lay_26, Mem.get_bump, Mem.get_put, p0, hp, ld1_cells, hc.c0, X_call ca_16, List.map_cons, List.map_nil, true_and]
      refine CallI.con0 (share_not (s := s) (sz := 0) (by simp only [FAt, Mem.get_bump, Mem.get_put, f0, if_false]; exact hS.hf) fun e => (isO_k hk).1 e h0) ?_
      simp only [putT, Nat.reduceLT, T_set, X_assign, ev_T, lk_cons, Nat.reduceEqDiff, if_false, if_true, X_nil, thenQ_normal, W_seq, w3_16, Mem.next_bump, Mem.next_put, l2q, Nat.le_add_right_of_le, bump_bump, Nat.reduceAdd, X_move, X_eql EE_sym, ev_const, eq_int, Int.reduceEq, decide_false, okI_some, X_neq EE_sym, neq4, beq_self_eq_true, Bool.not_true, W_cond, CDi_f, W_skip, w3_19, W_block, w3_42, true_and]
      refine apart_loop (p := p) (f := f) (dd := dd) (w := w) (v := v) (cb := m2.next + 6) (tb := m2.next + 17) (k := k) (cp := cp) (ct := ((Cells.ofList [.int .i64 0, .bool false]).write 0 [In (gP s k), .bool (gW s k)])) (s := s) (s' := s) (left := s.r k + 1) (drop := false) (had := false) (by simp only [Mem.next_bump, Mem.next_put]; omega) (fun y o => Low.lt (by repeat (first | exact Low.of n2.fresh (by (try simp only [Mem.next_bump, Mem.next_put]); omega) | refine Low.put ?_ (by (try simp only [Mem.next_bump, Mem.next_put]); omega) | refine Low.bump ?_))) hk (by simp only [FAt, Mem.get_bump, Mem.get_put, p0, f0, hp, if_false, if_true, Nat.add_left_cancel_iff, Nat.reduceEqDiff]) hc (by simp only [FAt, Mem.get_bump, Mem.get_put, p0, f0, hp, if_false, if_true, Nat.add_left_cancel_iff, Nat.reduceEqDiff]; exact hS.hf) (by simp only [FAt, Mem.get_bump, Mem.get_put, p0, f0, hp, if_false, if_true, Nat.add_left_cancel_iff, Nat.reduceEqDiff]) (by simp only [FAt, Mem.get_bump, Mem.get_put, p0, f0, hp, if_false, if_true, Nat.add_left_cancel_iff, Nat.reduceEqDiff]) hI.lo hI.hi (fun _ => ⟨h0, rfl⟩) (fun e => by cases e) (fun M g1 g2 => ?_) (View.temps ⟨rfl, rfl, rfl, rfl, rfl, rfl, rfl, rfl, rfl, rfl, trivial⟩)
      simp only [Mem.next_bump, Mem.next_put] at g1
      have g1q : m.next ≤ M.next := by omega
      unfold apL
      simp only [blockQ_exit, if_true, thenQ_normal, W_seq, w3_43, g1q, X_move, Nat.reduceLT, ev_T, lk_cons, Nat.reduceEqDiff, if_false, T_set, X_assign, X_nil, W_ret, FinX_ret, resA_tmp, T_get, resA_nil, Option.map_some, okI_some, oneOr1, true_and]
      refine RawE.of (by (try rw [Mem.next_bump]); omega) fun y hy => ?_
      have hy2 : y < m2.next := by omega
      rw [Mem.get_bump, g2 y (by simp only [Mem.next_bump, Mem.next_put]; omega)]
      simp only [Mem.get_bump, Mem.get_put, lt_ne hy2, if_false]
      exact old2 y hy
    | true =>
      simp only [putT, e0, Nat.reduceLT, T_set, X_assign, ev_T, lk_cons, Nat.reduceEqDiff, if_false, if_true, X_nil, thenQ_normal, W_seq, w3_10, Mem.next_bump, Mem.next_put, l2q, Nat.le_add_right_of_le, bump_bump, Nat.reduceAdd, X_move, X_bin EE_sym (op := .add) rfl, ev_const, bin_add, hw1, okI_some, w3_11, W_cond, CDi_t, w3_13, w3_12, X_nilCheck EE_sym, nilV_ptr, X_fieldAddr EE_sym fo_31_0, offV_ptr, Nat.add_zero, X_load EE_sym, load1 lay_26, Mem.get_bump, Mem.get_put, p0, hp, ld1_cells, hc.c0, X_call ca_15, List.map_cons, List.map_nil, true_and]
      refine CallI.con0 (drop_not (s := s) (sz := 0) (by simp only [FAt, Mem.get_bump, Mem.get_put, f0, if_false]; exact hS.hf) fun e => (isO_k hk).1 e h0) ?_
      simp only [putT, Nat.reduceLT, T_set, X_move, ev_T, lk_cons, Nat.reduceEqDiff, if_false, if_true, X_extract EE_sym, List.getElem?_toArray, List.getElem?_cons_zero, okI_some, List.getElem?_cons_succ, X_assign, X_store, store1 sz_34, Mem.get_bump, Mem.get_put, Nat.add_left_cancel_iff, cells_agg, st1_cells, List.length_cons, List.length_nil, Nat.zero_add, Nat.reduceAdd, write_n, ofList_n, Nat.le_refl, List.all_cons, oneCell, List.all_nil, Bool.and_self, and_self, put_bump, X_nil, thenQ_normal, W_seq, w3_16, Mem.next_bump, Mem.next_put, l2q, Nat.le_add_right_of_le, bump_bump, X_eql EE_sym, ev_const, eq_int, Int.reduceEq, decide_false, X_neq EE_sym, neq4, beq_self_eq_true, Bool.not_true, W_cond, CDi_f, W_skip, w3_19, W_block, w3_42, true_and]
      refine apart_loop (p := p) (f := f) (dd := dd) (w := w) (v := v) (cb := m2.next + 6) (tb := m2.next + 17) (k := k) (cp := cp) (ct := (((Cells.ofList [.int .i64 0, .bool false]).write 0 [In (gP s k), .bool (gW s k)]).write 0 [In 0, .bool false])) (s := s) (s' := s) (left := 0) (drop := true) (had := false) (by simp only [Mem.next_bump, Mem.next_put]; omega) (fun y o => Low.lt (by repeat (first | exact Low.of n2.fresh (by (try simp only [Mem.next_bump, Mem.next_put]); omega) | refine Low.put ?_ (by (try simp only [Mem.next_bump, Mem.next_put]); omega) | refine Low.bump ?_))) hk (by simp only [FAt, Mem.get_bump, Mem.get_put, p0, f0, hp, if_false, if_true, Nat.add_left_cancel_iff, Nat.reduceEqDiff]) hc (by simp only [FAt, Mem.get_bump, Mem.get_put, p0, f0, hp, if_false, if_true, Nat.add_left_cancel_iff, Nat.reduceEqDiff]; exact hS.hf) (by simp only [FAt, Mem.get_bump, Mem.get_put, p0, f0, hp, if_false, if_true, Nat.add_left_cancel_iff, Nat.reduceEqDiff]) (by simp only [FAt, Mem.get_bump, Mem.get_put, p0, f0, hp, if_false, if_true, Nat.add_left_cancel_iff, Nat.reduceEqDiff]) hI.lo hI.hi (fun _ => ⟨h0, rfl⟩) (fun e => by cases e) (fun M g1 g2 => ?_) (View.temps ⟨rfl, rfl, rfl, rfl, rfl, rfl, rfl, rfl, rfl, rfl, trivial⟩)
      simp only [Mem.next_bump, Mem.next_put] at g1
      have g1q : m.next ≤ M.next := by omega
      unfold apL
      simp only [blockQ_exit, if_true, thenQ_normal, W_seq, w3_43, g1q, X_move, Nat.reduceLT, ev_T, lk_cons, Nat.reduceEqDiff, if_false, T_set, X_assign, X_nil, W_ret, FinX_ret, resA_tmp, T_get, resA_nil, Option.map_some, okI_some, oneOr1, true_and]
      refine RawE.of (by (try rw [Mem.next_bump]); omega) fun y hy => ?_
      have hy2 : y < m2.next := by omega
      rw [Mem.get_bump, g2 y (by simp only [Mem.next_bump, Mem.next_put]; omega)]
      simp only [Mem.get_bump, Mem.get_put, lt_ne hy2, if_false]
      exact old2 y hy
  · have e0 : (!decide (s.r k = 0)) = true := by simpa using h0
    cases drop with
    | false =>
      simp only [putT, e0, Nat.reduceLT, T_set, X_assign, ev_T, lk_cons, Nat.reduceEqDiff, if_false, if_true, X_nil, thenQ_normal, W_seq, w3_10, Mem.next_bump, Mem.next_put, l2q, Nat.le_add_right_of_le, bump_bump, Nat.reduceAdd, X_move, X_bin EE_sym (op := .add) rfl, ev_const, bin_add, hw1, okI_some, w3_11, W_cond, CDi_f, w3_15, w3_14, X_nilCheck EE_sym, nilV_ptr, X_fieldAddr EE_sym fo_31_0, offV_ptr, Nat.add_zero, X_load EE_sym, load1 lay_26, Mem.get_bump, Mem.get_put, p0, hp, ld1_cells, hc.c0, X_call ca_16, List.map_cons, List.map_nil, true_and]
      obtain ⟨s', hT, hsh⟩ := share_k (s := s) hk (by omega) (by omega)
      refine CallI.ex (hsh _ _ 0 (by simp only [FAt, Mem.get_bump, Mem.get_put, f0, if_false]; exact hS.hf)) fun m3 hu => ?_
      have n3 := hu.next
      simp only [Mem.next_bump, Mem.next_put] at n3
      have hfr : Fresh m3 := Fresh.of_low (by have := n2.fresh.n64; omega) (by
        refine hu.low (by omega) ?_
        repeat (first | exact Low.of n2.fresh (by omega) | refine Low.put ?_ (by omega) | refine Low.bump ?_))
      simp only [putT, Nat.reduceLT, T_set, X_assign, ev_T, lk_cons, Nat.reduceEqDiff, if_false, if_true, X_nil, thenQ_normal, W_seq, w3_16, n3, l2q, Nat.le_add_right_of_le, X_move, X_eql EE_sym, ev_const, eq_int, decide_true, okI_some, X_neq EE_sym, neq4, beq_self_eq_true, Bool.not_true, W_cond, CDi_f, W_skip, w3_19, Mem.next_bump, Nat.add_assoc, Nat.reduceAdd, bump_bump, W_block, w3_42, true_and]
      refine apart_loop (p := p) (f := f) (dd := dd) (w := w) (v := v) (cb := m2.next + 6) (tb := m2.next + 17) (k := k) (cp := cp) (ct := ((Cells.ofList [.int .i64 0, .bool false]).write 0 [In (gP s k), .bool (gW s k)])) (s := s) (s' := s') (left := s.r k + 1) (drop := false) (had := true) (by simp only [Mem.next_bump, Mem.next_put]; omega) (fun y o => Low.lt (by repeat (first | exact Low.of hfr (by (try simp only [Mem.next_bump, Mem.next_put]); omega) | refine Low.put ?_ (by (try simp only [Mem.next_bump, Mem.next_put]); omega) | refine Low.bump ?_))) hk (by simp only [FAt, Mem.get_bump, Mem.get_put, hu.get, p0, f0, q4, pf, hp, if_false, if_true, Nat.add_left_cancel_iff, Nat.reduceEqDiff]) hc (by simp only [FAt, Mem.get_bump, Mem.get_put, hu.get, p0, f0, q4, pf, hp, if_false, if_true, Nat.add_left_cancel_iff, Nat.reduceEqDiff]) (by simp only [FAt, Mem.get_bump, Mem.get_put, hu.get, p0, f0, q4, pf, hp, if_false, if_true, Nat.add_left_cancel_iff, Nat.reduceEqDiff]) (by simp only [FAt, Mem.get_bump, Mem.get_put, hu.get, p0, f0, q4, pf, hp, if_false, if_true, Nat.add_left_cancel_iff, Nat.reduceEqDiff]) hI.lo hI.hi (fun e => by cases e) (fun _ => ⟨h0, hT, by omega, (fun e => by cases e), (by rw [gP_t h0, gW_t h0]; rfl)⟩) (fun M g1 g2 => ?_) (View.temps ⟨rfl, rfl, rfl, rfl, rfl, rfl, rfl, rfl, rfl, rfl, trivial⟩)
      simp only [Mem.next_bump, Mem.next_put] at g1
      have g1q : m.next ≤ M.next := by omega
      unfold apL
      simp only [blockQ_exit, if_true, thenQ_normal, W_seq, w3_43, g1q, X_move, Nat.reduceLT, ev_T, lk_cons, Nat.reduceEqDiff, if_false, T_set, X_assign, X_nil, W_ret, FinX_ret, resA_tmp, T_get, resA_nil, Option.map_some, okI_some, oneOr1, true_and]
      refine RawE.of (by (try rw [Mem.next_bump]); omega) fun y hy => ?_
      have hy2 : y < m2.next := by omega
      rw [Mem.get_bump, g2 y (by simp only [Mem.next_bump, Mem.next_put]; omega)]
      simp only [Mem.get_bump, Mem.get_put, lt_ne hy2, hu.get, hyf y hy, if_false]
      exact old2 y hy
    | true =>
      simp only [putT, e0, Nat.reduceLT, T_set, X_assign, ev_T, lk_cons, Nat.reduceEqDiff, if_false, if_true, X_nil, thenQ_normal, W_seq, w3_10, Mem.next_bump, Mem.next_put, l2q, Nat.le_add_right_of_le, bump_bump, Nat.reduceAdd, X_move, X_bin EE_sym (op := .add) rfl, ev_const, bin_add, hw1, okI_some, w3_11, W_cond, CDi_t, w3_13, w3_12, X_nilCheck EE_sym, nilV_ptr, X_fieldAddr EE_sym fo_31_0, offV_ptr, Nat.add_zero, X_load EE_sym, load1 lay_26, Mem.get_bump, Mem.get_put, p0, hp, ld1_cells, hc.c0, X_call ca_15, List.map_cons, List.map_nil, true_and]
      obtain ⟨s', hT, hsh⟩ := drop_k (s := s) hk (by omega) (by omega)
      refine CallI.ex (hsh _ _ 0 (by simp only [FAt, Mem.get_bump, Mem.get_put, f0, if_false]; exact hS.hf)) fun m3 hu => ?_
      have n3 := hu.next
      simp only [Mem.next_bump, Mem.next_put] at n3
      have hfr : Fresh m3 := Fresh.of_low (by have := n2.fresh.n64; omega) (by
        refine hu.low (by omega) ?_
        repeat (first | exact Low.of n2.fresh (by omega) | refine Low.put ?_ (by omega) | refine Low.bump ?_))
      simp only [putT, Nat.reduceLT, T_set, X_move, ev_T, lk_cons, Nat.reduceEqDiff, if_false, if_true, X_extract EE_sym, List.getElem?_toArray, List.getElem?_cons_zero, okI_some, List.getElem?_cons_succ, X_assign, X_store, store1 sz_34, hu.get, q4, Mem.get_bump, Mem.get_put, Nat.add_left_cancel_iff, cells_agg, st1_cells, List.length_cons, List.length_nil, Nat.zero_add, Nat.reduceAdd, write_n, ofList_n, Nat.le_refl, List.all_cons, oneCell, List.all_nil, Bool.and_self, and_self, X_nil, thenQ_normal, W_seq, w3_16, Mem.next_put, n3, l2q, Nat.le_add_right_of_le, X_eql EE_sym, ev_const, eq_int, decide_true, X_neq EE_sym, neq4, beq_self_eq_true, Bool.not_true, W_cond, CDi_f, W_skip, w3_19, Mem.next_bump, Nat.add_assoc, bump_bump, W_block, w3_42, true_and]
      refine apart_loop (p := p) (f := f) (dd := dd) (w := w) (v := v) (cb := m2.next + 6) (tb := m2.next + 17) (k := k) (cp := cp) (ct := (((Cells.ofList [.int .i64 0, .bool false]).write 0 [In (gP s k), .bool (gW s k)]).write 0 [In (s.p k), .bool (s.w k)])) (s := s) (s' := s') (left := s.r k - 1) (drop := true) (had := true) (by simp only [Mem.next_bump, Mem.next_put]; omega) (fun y o => Low.lt (by repeat (first | exact Low.of hfr (by (try simp only [Mem.next_bump, Mem.next_put]); omega) | refine Low.put ?_ (by (try simp only [Mem.next_bump, Mem.next_put]); omega) | refine Low.bump ?_))) hk (by simp only [FAt, Mem.get_bump, Mem.get_put, hu.get, p0, f0, q4, pf, hp, if_false, if_true, Nat.add_left_cancel_iff, Nat.reduceEqDiff]) hc (by simp only [FAt, Mem.get_bump, Mem.get_put, hu.get, p0, f0, q4, pf, hp, if_false, if_true, Nat.add_left_cancel_iff, Nat.reduceEqDiff]) (by simp only [FAt, Mem.get_bump, Mem.get_put, hu.get, p0, f0, q4, pf, hp, if_false, if_true, Nat.add_left_cancel_iff, Nat.reduceEqDiff]) (by simp only [FAt, Mem.get_bump, Mem.get_put, hu.get, p0, f0, q4, pf, hp, if_false, if_true, Nat.add_left_cancel_iff, Nat.reduceEqDiff]) hI.lo hI.hi (fun e => by cases e) (fun _ => ⟨h0, hT, by omega, fun _ => rfl, rfl⟩) (fun M g1 g2 => ?_) (View.temps ⟨rfl, rfl, rfl, rfl, rfl, rfl, rfl, rfl, rfl, rfl, trivial⟩)
      simp only [Mem.next_bump, Mem.next_put] at g1
      have g1q : m.next ≤ M.next := by omega
      unfold apL
      simp only [blockQ_exit, if_true, thenQ_normal, W_seq, w3_43, g1q, X_move, Nat.reduceLT, ev_T, lk_cons, Nat.reduceEqDiff, if_false, T_set, X_assign, X_nil, W_ret, FinX_ret, resA_tmp, T_get, resA_nil, Option.map_some, okI_some, oneOr1, true_and]
      refine RawE.of (by (try rw [Mem.next_bump]); omega) fun y hy => ?_
      have hy2 : y < m2.next := by omega
      rw [Mem.get_bump, g2 y (by simp only [Mem.next_bump, Mem.next_put]; omega)]
      simp only [Mem.get_bump, Mem.get_put, lt_ne hy2, hu.get, hyf y hy, if_false]
      exact old2 y hy
end
end
end Go.Ab
