/- QueueTurns: whatever comes in, it answers true. -/
import Derived.Test.YtikmfccjfhobbaaQuN
import Derived.Test.YtikmfccjfhobbaaQuA4
namespace Go.Ab
open Go.Proofs
noncomputable section
set_option maxHeartbeats 8000000
set_option maxRecDepth 10000
def rotN (C : List Int) (i : Nat) : List Int := C.drop i ++ C.take i
theorem rotN_len {C : List Int} {i : Nat} (h : i ≤ C.length) : (rotN C i).length = C.length := by
  unfold rotN; rw [List.length_append, List.length_drop, List.length_take]; omega
theorem rotN_perm {C : List Int} {i : Nat} : (rotN C i).Perm C := by
  unfold rotN
  exact List.perm_append_comm.trans (by rw [List.take_append_drop])
theorem rotN_succ {C : List Int} {i : Nat} (h : i < C.length) : (rotN C i).drop 1 ++ [(rotN C i).getD 0 0] = rotN C (i + 1) := by
  have e : rotN C i = C[i] :: (C.drop (i + 1) ++ C.take i) := by unfold rotN; rw [List.drop_eq_getElem_cons h]; rfl
  rw [e]
  unfold rotN
  rw [List.take_add_one, List.getElem?_eq_getElem h]
  simp
theorem rotN_end {C : List Int} : rotN C C.length = C := by
  unfold rotN; simp
theorem wrapU32 {i : Nat} (h : i < 1000) : IntKind.u32.wrap (i : Int) = (((BitVec.ofNat 32 i).toNat : Nat) : Int) := by
  rw [wrap_u32, BitVec.toNat_ofNat]
  omega
theorem eqB {xo yo : Operand} {p q : Bool} {m : Mem} : eqA EE.P .eql 4 xo yo (.bool p) (.bool q) m = some (.bool (p == q)) := by
  cases p <;> cases q <;> kernel_rfl
theorem neqB {xo yo : Operand} {p q : Bool} {m : Mem} : eqA EE.P .neq 4 xo yo (.bool p) (.bool q) m = some (.bool (!(p == q))) := by
  cases p <;> cases q <;> kernel_rfl
section
variable {m : Mem} {l0 : Value} {n : Nat}
theorem turns_ok {x0 x2 x3 : Int} (hm : Fresh m) (ho : Ops m l0 n) : ∃ m', Con EE.P 4 [In x0, l0, In x2, In x3] m (.bool true) m' := by
  refine Con.raw1 EE_ok fn4 (Nat.le_of_ble_eq_true rfl) ?_
  obtain ⟨aa, C0, rfl, hl2⟩ := id ho
  simp only [f4, enumV, Nat.zero_add, Nat.reduceAdd, w4, W_seq, w4_0, Nat.le_refl, X_assign, ev_const, Nat.reduceLT, T_set, X_nil, thenQ_normal, w4_1, Mem.next_bump, Nat.le_add_right, bump_bump, X_call ca_8, List.map_nil, true_and]
  refine CallI.ex2 (alive_ok (W := fun y => y < m.next) hm.bump fun y hy => by rw [Mem.next_bump]; omega) fun v m1 hv => ?_
  obtain ⟨rfl, w1, f1⟩ := hv
  have w1 := w1.of_bump
  have n1 := w1.next
  have hW1 : ∀ y, y < m.next → y < m1.next := fun y hy => by omega
  by_cases hn : ¬ (1 ≤ x0 ∧ x0 ≤ 8)
  · simp only [putT, Nat.reduceLT, T_set, X_assign, ev_T, lk_cons, Nat.reduceEqDiff, if_false, if_true, X_nil, thenQ_normal, W_seq, w4_2, n1, X_move, Nat.one_ne_zero, X_call ca_9, List.map_cons, List.map_nil, true_and]
    refine CallI.con0 (new_bad hn) ?_
    by_cases h60 : 60 < n
    · have h60' : (60 : Int) < (n : Int) := by omega
      simp only [putT, Nat.reduceLT, T_set, X_move, ev_T, lk_cons, Nat.reduceEqDiff, if_false, if_true, X_extract EE_sym, List.getElem?_toArray, List.getElem?_cons_zero, okI_some, List.getElem?_cons_succ, X_assign, X_nil, thenQ_normal, W_seq, w4_3, Mem.next_bump, n1, Nat.le_add_right_of_le, bump_bump, Nat.reduceAdd, X_len EE_sym, len_slice und_34, X_bin EE_sym (op := .gtr) rfl, ev_const, bin_gtr, h60', decide_true, X_guard EE_sym, T_get, GDi_tf, X_pick EE_sym, pickV_bool, W_cond, CDi_t, w4_5, w4_4, W_ret, thenQ_ret, FinX_ret, resA_tmp, resA_nil, Option.map_some, oneOr1, true_and]
      exact RawE.of (by rw [Mem.next_bump]; omega) fun y hy => w1.old y hy
    · have h60' : ¬ (60 : Int) < (n : Int) := by omega
      simp only [putT, Nat.reduceLT, T_set, X_move, ev_T, lk_cons, Nat.reduceEqDiff, if_false, if_true, X_extract EE_sym, List.getElem?_toArray, List.getElem?_cons_zero, okI_some, List.getElem?_cons_succ, X_assign, X_nil, thenQ_normal, W_seq, w4_3, Mem.next_bump, n1, Nat.le_add_right_of_le, bump_bump, Nat.reduceAdd, X_len EE_sym, len_slice und_34, X_bin EE_sym (op := .gtr) rfl, ev_const, bin_gtr, h60', decide_false, X_guard EE_sym, T_get, GDi_ff, X_neq EE_sym, neq_int, Int.reduceEq, Bool.not_false, X_pick EE_sym, pickV_bool, Bool.false_eq_true, GDi_tf, W_cond, CDi_t, w4_5, w4_4, W_ret, thenQ_ret, FinX_ret, resA_tmp, resA_nil, Option.map_some, oneOr1, true_and]
      exact RawE.of (by rw [Mem.next_bump]; omega) fun y hy => w1.old y hy
  obtain ⟨c, rfl⟩ : ∃ c : Nat, x0 = c := ⟨x0.toNat, by omega⟩
  have hc1 : 1 ≤ c := by omega
  have hc8 : c ≤ 8 := by omega
  simp only [putT, Nat.reduceLT, T_set, X_assign, ev_T, lk_cons, Nat.reduceEqDiff, if_false, if_true, X_nil, thenQ_normal, W_seq, w4_2, n1, X_move, Nat.one_ne_zero, X_call ca_9, List.map_cons, List.map_nil, true_and]
  refine CallI.ex2 (Qs.new (n := c) (W := fun y => y < m.next) f1.bump (fun y hy => by rw [Mem.next_bump]; have := hW1 y hy; omega) hc1 hc8) fun v m2 hv => ?_
  obtain ⟨q, rfl, h2, w2⟩ := hv
  have w2 := w1.trans w2.of_bump
  have n2 := w2.next
  clear w1 n1 f1 hW1
  by_cases h60 : 60 < n
  · have h60' : (60 : Int) < (n : Int) := by omega
    simp only [putT, Nat.reduceLT, T_set, X_move, ev_T, lk_cons, Nat.reduceEqDiff, if_false, if_true, X_extract EE_sym, List.getElem?_toArray, List.getElem?_cons_zero, okI_some, List.getElem?_cons_succ, X_assign, X_nil, thenQ_normal, W_seq, w4_3, n2, X_len EE_sym, len_slice und_34, X_bin EE_sym (op := .gtr) rfl, ev_const, bin_gtr, h60', decide_true, X_guard EE_sym, T_get, GDi_tf, X_pick EE_sym, pickV_bool, W_cond, CDi_t, w4_5, w4_4, Mem.next_bump, Nat.le_add_right_of_le, bump_bump, Nat.reduceAdd, W_ret, thenQ_ret, FinX_ret, resA_tmp, resA_nil, Option.map_some, oneOr1, true_and]
    exact RawE.of (by rw [Mem.next_bump]; omega) fun y hy => w2.old y hy
  have h60' : ¬ (60 : Int) < (n : Int) := by omega
  simp only [putT, Nat.reduceLT, T_set, X_move, ev_T, lk_cons, Nat.reduceEqDiff, if_false, if_true, X_extract EE_sym, List.getElem?_toArray, List.getElem?_cons_zero, okI_some, List.getElem?_cons_succ, X_assign, X_nil, thenQ_normal, W_seq, w4_3, n2, X_len EE_sym, len_slice und_34, X_bin EE_sym (op := .gtr) rfl, ev_const, bin_gtr, h60', decide_false, X_guard EE_sym, T_get, GDi_ff, X_neq EE_sym, neq_int, decide_true, Bool.not_true, X_pick EE_sym, pickV_bool, Bool.false_eq_true, X_un EE_sym, un_not, W_cond, CDi_f, W_skip, w4_6, Mem.next_bump, Nat.le_add_right_of_le, bump_bump, Nat.reduceAdd, W_block, w4_12, true_and]
  refine WX.loop_of (fun x t M => ∃ (i : Nat) (l : Nat → List Int), i ≤ n ∧ x = n - i ∧ t = T 138 [(12, In i), (10, PT q), (9, .bool true), (3, In x3), (2, In x2), (1, .slice aa n C0)] ∧ Qs M q c l (fun y => y < m.next) ∧ Wx (fun y => y < m.next) m M ∧ Dq c l i) ?_ (k := n) (t1 := T 138 [(12, In (0 : Nat)), (10, PT q), (9, .bool true), (3, In x3), (2, In x2), (1, .slice aa n C0)]) (View.temps ⟨rfl, rfl, rfl, rfl, rfl, rfl, trivial⟩) ⟨0, _, by omega, rfl, rfl, h2.bump _, w2.bump _, Dq.start⟩
  clear h2 w2 n2
  rintro x t M ⟨i, l, hi, rfl, rfl, hQ, hw, hD⟩
  have hnx := hw.next
  have hsh := hD.sh hc8 (by omega)
  by_cases hin : i < n
  · have g1 : (i : Int) < (n : Int) := by omega
    have g2 : (0 : Int) ≤ i := by omega
    have hwi : IntKind.i64.wrap ((i : Int) + 1) = ((i + 1 : Nat) : Int) := by rw [wrap_i64 (by omega) (by omega)]; omega
    rcases hl2 with hl2 | ⟨L, cs, ww, z, rfl, e1, e2⟩
    · omega
    obtain ⟨kk, px, co, a, e3⟩ := e2 i hin
    have e4 : M.get L = some (.cells cs ww z) := by rw [hw.old L (hm.lt e1), e1]
    have s1 := sub_nth (j := 1) (v := In px) e3 (by decide) rfl
    have s2 := sub_nth (j := 2) (v := In co) e3 (by decide) rfl
    have s3 := sub_nth (j := 3) (v := Um a) e3 (by decide) rfl
    simp only [w4_11, W_seq, w4_7, hnx, X_move, Nat.reduceLT, ev_T, lk_cons, Nat.reduceEqDiff, if_false, if_true, T_set, X_len EE_sym, len_slice und_34, okI_some, X_bin EE_sym (op := .lss) rfl, bin_lss, g1, decide_true, X_nil, thenQ_normal, W_cond, CDi_t, W_skip, W_block, w4_9, w4_8, Mem.next_bump, Nat.le_add_right_of_le, bump_bump, Nat.reduceAdd, X_indexAddr EE_sym, g2, idxV_slice und_34 sz_36, Int.toNat_natCast, Nat.zero_add, X_fieldAddr EE_sym fo_36_1, offV_ptr, X_load EE_sym, load1 lay_3, Mem.get_bump, e4, ld1_cells, s1, X_fieldAddr EE_sym fo_36_2, s2, X_fieldAddr EE_sym fo_36_3, load1 lay_29, s3, X_call ca_10, List.map_cons, List.map_nil, true_and]
    refine CallI.ex2 (Qs.place_any (k := co) (a := a) (x := px) (hQ.bump _) hsh) fun v M1 hv => ?_
    obtain ⟨r, e, l1, rfl, hQ1, hw1, hP⟩ := hv
    have hw1 := hw.trans hw1.of_bump
    have n1 := hw1.next
    simp only [putT, Nat.reduceLT, T_set, X_nil, blockQ_normal, thenQ_normal, w4_10, n1, X_move, ev_T, lk_cons, Nat.reduceEqDiff, if_false, if_true, X_bin EE_sym (op := .add) rfl, ev_const, bin_add, hwi, okI_some, X_assign, roundQ_normal, true_and]
    exact ⟨n - (i + 1), _, _, by omega, View.temps (l' := [(12, In ((i + 1 : Nat) : Int)), (10, PT q), (9, .bool true), (3, In x3), (2, In x2), (1, .slice (some ⟨L, 0, none⟩) n C0)]) ⟨rfl, rfl, rfl, rfl, rfl, rfl, trivial⟩, i + 1, l1, by omega, rfl, rfl, hQ1.bump _, hw1.bump _, hP.dq hD hc8⟩
  obtain rfl : i = n := by omega
  have g1 : ¬ (i : Int) < (i : Int) := by omega
  have hcat := hD.cat (by omega)
  simp only [w4_11, W_seq, w4_7, hnx, X_move, Nat.reduceLT, ev_T, lk_cons, Nat.reduceEqDiff, if_false, if_true, T_set, X_len EE_sym, len_slice und_34, okI_some, X_bin EE_sym (op := .lss) rfl, bin_lss, g1, decide_false, X_nil, thenQ_normal, W_cond, CDi_f, W_exit, thenQ_exit, roundQ_exit, blockQ_exit, w4_13, Mem.next_bump, Nat.le_add_right_of_le, bump_bump, Nat.reduceAdd, X_call ca_11, List.map_cons, List.map_nil, true_and]
  obtain ⟨C, hC⟩ : ∃ C, (0 ≤ x2 ∧ x2 < c) ∧ C = l x2.toNat ∨ ¬ (0 ≤ x2 ∧ x2 < c) ∧ C = [] := by
    by_cases h : 0 ≤ x2 ∧ x2 < c
    · exact ⟨_, .inl ⟨h, rfl⟩⟩
    · exact ⟨_, .inr ⟨h, rfl⟩⟩
  have hCl : C.length ≤ 60 := by
    rcases hC with ⟨_, rfl⟩ | ⟨_, rfl⟩
    · have := hD.le hc8 x2.toNat; omega
    · simp
  have hin : ∀ {j}, j < C.length → ∃ k : Nat, x2 = k ∧ k < c ∧ l k = C := fun {j} hj => by
    rcases hC with ⟨h, rfl⟩ | ⟨_, rfl⟩
    · exact ⟨x2.toNat, by omega, by omega, rfl⟩
    · simp at hj
  refine CallI.ex2 (R := fun v M1 => SlI M1 v C ∧ Qs M1 q c l (fun y => y < m.next ∨ slB v = some y) ∧ Wx (fun y => y < m.next) m M1) (by
    rcases hC with ⟨h, rfl⟩ | ⟨h, rfl⟩
    · obtain ⟨k, rfl⟩ : ∃ k : Nat, x2 = k := ⟨x2.toNat, by omega⟩
      obtain ⟨O, sl, cs, k1, k2⟩ := (hQ.bump 8).at_
      obtain ⟨v, M1, hc, hL⟩ := list_ok (m := M.bump _) (k := k) k1 hQ.fresh.bump (by omega) (hsh k)
      exact ⟨v, M1, hc, hL.sl, (hQ.bump _).add hL.nx fun y hy => ⟨hL.new y hy, hL.sl.lt hL.nx.fresh hy⟩, hw.trans (Wx.of_nx hL.nx.of_bump hQ.wlt)⟩
    · exact ⟨_, _, (hQ.bump 8).list_no h, SlV.nil, (hQ.bump 8).add (Nx.refl hQ.fresh.bump) (P := fun y => slB (.slice none 0 0) = some y) (fun y hy => by cases hy), hw.bump _⟩) fun v M1 hv => ?_
  obtain ⟨hsv, hQ1, hw1⟩ := hv
  have n1 := hw1.next
  clear hQ hw hnx g1
  have hlv : ∀ M, lenA EE.P 30 v M = some (In C.length) := fun M => hsv.lenA und_30
  simp only [putT, Nat.reduceLT, T_set, X_assign, ev_T, lk_cons, Nat.reduceEqDiff, if_false, if_true, X_nil, thenQ_normal, W_seq, w4_14, n1, ev_const, W_block, w4_22, true_and]
  refine WX.loop_of (fun x t M => ∃ j j' : Nat, j ≤ C.length ∧ x = C.length - j ∧ t = T 138 [(14, In j), (13, v), (10, PT q), (9, .bool true), (3, In x3), (2, In x2)] ∧ M = M1.bump j') ?_ (k := C.length) (t1 := T 138 [(14, In (0 : Nat)), (13, v), (10, PT q), (9, .bool true), (3, In x3), (2, In x2)]) (View.temps ⟨rfl, rfl, rfl, rfl, rfl, rfl, trivial⟩) ⟨0, _, by omega, rfl, rfl, rfl⟩
  rintro x t M' ⟨j, j', hj, rfl, rfl, rfl⟩
  by_cases hjC : j < C.length
  · have g1 : (j : Int) < (C.length : Int) := by omega
    have g2 : (0 : Int) ≤ j := by omega
    have hwj : IntKind.i64.wrap ((j : Int) + 1) = ((j + 1 : Nat) : Int) := by rw [wrap_i64 (by omega) (by omega)]; omega
    have hwu := wrapU32 (i := j) (by omega)
    obtain ⟨k, hk1, hk2, hk3⟩ := hin hjC
    have hpk := fun j'' => Qs.pick (a := BitVec.ofNat 32 j) (hQ1.bump j'') hk2 (by rw [hk3]; intro e; rw [e] at hjC; simp at hjC)
    have hj32 : (BitVec.ofNat 32 j).toNat = j := by rw [BitVec.toNat_ofNat]; omega
    rw [hk3, hj32, Nat.mod_eq_of_lt hjC, ← hk1] at hpk
    obtain ⟨B, cc, cB, rfl, k1, k2, k3, k4⟩ := hsv.cons (by omega)
    have q3 : cB.nth j = some (In (C.getD j 0)) := by rw [nth_lt (by omega), k4 j (by simpa using hjC), il_getD hjC]
    simp only [w4_21, W_seq, w4_15, Mem.next_bump, n1, Nat.le_add_right_of_le, bump_bump, X_move, Nat.reduceLT, ev_T, lk_cons, Nat.reduceEqDiff, if_false, if_true, T_set, X_len EE_sym, len_slice und_30, okI_some, X_bin EE_sym (op := .lss) rfl, bin_lss, g1, decide_true, X_nil, thenQ_normal, W_cond, CDi_t, W_skip, W_block, w4_19, w4_16, Nat.add_assoc, Nat.reduceAdd, Y_0, keepM_f, X_convert EE_sym, conv_int und_29 und_3, hwu, X_call ca_13, List.map_cons, List.map_nil, true_and]
    refine CallI.con0 (hpk _) ?_
    simp only [putT, Nat.reduceLT, T_set, X_nil, keepM_t, Y_0, X_move, ev_T, lk_cons, Nat.reduceEqDiff, if_false, if_true, keepM_f, X_indexAddr EE_sym, g2, g1, idxV_slice und_30 sz_3, Int.toNat_natCast, Nat.mul_one, Nat.zero_add, okI_some, Y_re, RE_load EE_sym, load1 lay_3, Mem.get_bump, k1, ld1_cells, q3, lookK_cons, eqvI, TDi_t, X_load EE_sym, X_neq EE_sym, neq_int, decide_true, Bool.not_true, Y_nil, thenQ_normal, W_cond, CDi_f, W_skip, blockQ_normal, w4_20, Mem.next_bump, n1, Nat.le_add_right_of_le, bump_bump, Nat.add_assoc, Nat.reduceAdd, X_bin EE_sym (op := .add) rfl, ev_const, bin_add, hwj, X_assign, roundQ_normal, true_and]
    exact ⟨C.length - (j + 1), _, _, by omega, View.temps (l' := [(14, In ((j + 1 : Nat) : Int)), (13, .slice (some ⟨B, 0, none⟩) C.length cc), (10, PT q), (9, .bool true), (3, In x3), (2, In x2)]) ⟨rfl, rfl, rfl, rfl, rfl, rfl, trivial⟩, j + 1, _, by omega, rfl, rfl, rfl⟩
  have g1 : ¬ (j : Int) < (C.length : Int) := by omega
  simp only [w4_21, W_seq, w4_15, Mem.next_bump, n1, Nat.le_add_right_of_le, bump_bump, X_move, Nat.reduceLT, ev_T, lk_cons, Nat.reduceEqDiff, if_false, if_true, T_set, X_len EE_sym, hlv, okI_some, X_bin EE_sym (op := .lss) rfl, bin_lss, g1, decide_false, X_nil, thenQ_normal, W_cond, CDi_f, W_exit, thenQ_exit, roundQ_exit, blockQ_exit, w4_23, Nat.add_assoc, Nat.reduceAdd, X_assign, ev_const, W_block, w4_31, true_and]
  obtain ⟨lj, hlj⟩ : ∃ lj : Nat → Nat → List Int, lj = fun j => if 0 ≤ x2 ∧ x2 < c then updL l x2.toNat (rotN C j) else l := ⟨_, rfl⟩
  have hlj0 : lj 0 = l := by
    rw [hlj]
    rcases hC with ⟨h, rfl⟩ | ⟨h, rfl⟩
    · show (if _ then _ else _) = l
      rw [if_pos h, show rotN (l x2.toNat) 0 = l x2.toNat by simp [rotN], updL_same]
    · show (if _ then _ else _) = l
      rw [if_neg h]
  have hljE : lj C.length = l := by
    rw [hlj]
    rcases hC with ⟨h, rfl⟩ | ⟨h, rfl⟩
    · show (if _ then _ else _) = l
      rw [if_pos h, rotN_end, updL_same]
    · show (if _ then _ else _) = l
      rw [if_neg h]
  refine WX.loop_of (fun x t M => ∃ j : Nat, j ≤ C.length ∧ x = C.length - j ∧ t = T 138 [(15, In j), (13, v), (10, PT q), (9, .bool true), (3, In x3), (2, In x2)] ∧ Qs M q c (lj j) (fun y => y < m.next ∨ slB v = some y) ∧ Wx (fun y => y < m.next) m M ∧ SlI M v C) ?_ (k := C.length) (t1 := T 138 [(15, In (0 : Nat)), (13, v), (10, PT q), (9, .bool true), (3, In x3), (2, In x2)]) (View.temps ⟨rfl, rfl, rfl, rfl, rfl, rfl, trivial⟩) ⟨0, by omega, rfl, rfl, by rw [hlj0]; exact hQ1.bump _, hw1.bump _, hsv.bump _⟩
  clear hQ1 hw1 hsv n1 hjC hj g1 j j'
  rintro x t M' ⟨j, hj, rfl, rfl, hQ, hw, hsv⟩
  have hnx := hw.next
  by_cases hjC : j < C.length
  · have g1 : (j : Int) < (C.length : Int) := by omega
    have hwj : IntKind.i64.wrap ((j : Int) + 1) = ((j + 1 : Nat) : Int) := by rw [wrap_i64 (by omega) (by omega)]; omega
    obtain ⟨k, hk1, hk2, hk3⟩ := hin hjC
    have hljj : ∀ i, lj i = updL l k (rotN C i) := fun i => by
      rw [hlj]
      show (if _ then _ else _) = _
      rw [if_pos (by omega), hk1, Int.toNat_natCast]
    have hlen := rotN_len (C := C) (i := j) hj
    have hat : lj j k = rotN C j := by rw [hljj, updL_at]
    simp only [w4_30, W_seq, w4_24, hnx, X_move, Nat.reduceLT, ev_T, lk_cons, Nat.reduceEqDiff, if_false, if_true, T_set, X_len EE_sym, hlv, okI_some, X_bin EE_sym (op := .lss) rfl, bin_lss, g1, decide_true, X_nil, thenQ_normal, W_cond, CDi_t, W_skip, W_block, w4_28, w4_25, Mem.next_bump, Nat.le_add_right_of_le, bump_bump, Nat.reduceAdd, X_call ca_14, List.map_cons, List.map_nil, true_and]
    refine CallI.ex2 (R := fun u M2 => u = .bool (decide ((1 : Int) < (C.length : Int))) ∧ Qs M2 q c (lj (j + 1)) (fun y => y < m.next ∨ slB v = some y) ∧ Wx (fun y => y < m.next ∨ slB v = some y) M' M2) ?_ fun u M2 hv => ?_
    · rw [hk1]
      by_cases h2 : 2 ≤ C.length
      · obtain ⟨u, M2, hc, rfl, hQ2, hw2⟩ := (hQ.bump _).rot hk2 (by rw [hat, hlen]; exact h2) (by rw [hat, hlen]; omega)
        refine ⟨_, M2, hc, ?_, ?_, hw2.of_bump⟩
        · have : (1 : Int) < (C.length : Int) := by omega
          rw [decide_eq_true this]
        · rw [hat, rotN_succ hjC, hljj, updL_updL, ← hljj] at hQ2
          exact hQ2
      · refine ⟨_, _, (hQ.bump _).rot_no (.inr (by rw [Int.toNat_natCast, hat, hlen]; omega)), ?_, ?_, Wx.refl.bump _⟩
        · have : ¬ (1 : Int) < (C.length : Int) := by omega
          rw [decide_eq_false this]
        · have e : lj (j + 1) = lj j := by
            have h1 : j = 0 := by omega
            subst h1
            rw [hlj0, show (0 + 1 : Nat) = C.length by omega, hljE]
          rw [e]; exact hQ.bump _
    obtain ⟨rfl, hQ2, hw2⟩ := hv
    have hsv2 : SlI M2 v C := hsv.keep fun y o hy ho => by rw [hw2.old y (.inr hy)]; exact ho
    have hw2 := hw.trans (hw2.mono fun y hy => .inl hy)
    have n2 := hw2.next
    simp only [putT, Nat.reduceLT, T_set, X_move, ev_T, lk_cons, Nat.reduceEqDiff, if_false, if_true, X_len EE_sym, hlv, okI_some, X_bin EE_sym (op := .gtr) rfl, ev_const, bin_gtr, X_neq EE_sym, neqB, beq_self_eq_true, Bool.not_true, X_nil, thenQ_normal, W_cond, CDi_f, W_skip, blockQ_normal, w4_29, n2, X_bin EE_sym (op := .add) rfl, bin_add, hwj, X_assign, roundQ_normal, true_and]
    exact ⟨C.length - (j + 1), _, _, by omega, View.temps (l' := [(15, In ((j + 1 : Nat) : Int)), (13, v), (10, PT q), (9, .bool true), (3, In x3), (2, In x2)]) ⟨rfl, rfl, rfl, rfl, rfl, rfl, trivial⟩, j + 1, by omega, rfl, rfl, hQ2.bump _, hw2.bump _, hsv2.bump _⟩
  obtain rfl : j = C.length := by omega
  rw [hljE] at hQ
  have g1 : ¬ (C.length : Int) < (C.length : Int) := by omega
  simp only [w4_30, W_seq, w4_24, hnx, X_move, Nat.reduceLT, ev_T, lk_cons, Nat.reduceEqDiff, if_false, if_true, T_set, X_len EE_sym, hlv, okI_some, X_bin EE_sym (op := .lss) rfl, bin_lss, g1, decide_false, X_nil, thenQ_normal, W_cond, CDi_f, W_exit, thenQ_exit, roundQ_exit, blockQ_exit, w4_32, Mem.next_bump, Nat.le_add_right_of_le, bump_bump, Nat.reduceAdd, X_call ca_11, List.map_cons, List.map_nil, true_and]
  refine CallI.ex2 (R := fun u M2 => SlI M2 u C ∧ Qs M2 q c l (fun y => y < m.next ∨ slB v = some y) ∧ Wx (fun y => y < m.next ∨ slB v = some y) M' M2) ?_ fun u M2 hv => ?_
  · rcases hC with ⟨h, rfl⟩ | ⟨h, rfl⟩
    · obtain ⟨k, rfl⟩ : ∃ k : Nat, x2 = k := ⟨x2.toNat, by omega⟩
      obtain ⟨u, M2, hc, hL, hQ2, hw2⟩ := (hQ.bump _).list (k := k) hsh (by omega)
      exact ⟨u, M2, hc, hL.sl, hQ2, hw2.of_bump⟩
    · exact ⟨_, _, (hQ.bump _).list_no h, SlV.nil, hQ.bump _, Wx.refl.bump _⟩
  obtain ⟨hsu, hQ2, hw2⟩ := hv
  have hsv2 : SlI M2 v C := hsv.keep fun y o hy ho => by rw [hw2.old y (.inr hy)]; exact ho
  have hw2 := hw.trans (hw2.mono fun y hy => .inl hy)
  have n2 := hw2.next
  simp only [putT, Nat.reduceLT, T_set, X_move, ev_T, lk_cons, Nat.reduceEqDiff, if_false, if_true, X_call ca_15, List.map_cons, List.map_nil]
  refine CallI.con (same_ok (m := M2) hsu hsv2 (by omega)) (by simp) ?_
  simp only [putT, Nat.reduceLT, T_set, X_un EE_sym, ev_T, lk_cons, Nat.reduceEqDiff, if_false, if_true, un_not, Bool.not_true, okI_some, X_nil, thenQ_normal, W_cond, CDi_f, W_skip, W_seq, w4_35, n2, X_move, X_call ca_16, List.map_cons, List.map_nil, true_and]
  refine CallI.con0 ((hQ2.bump _).where (x := x3) hsh) ?_
  simp only [putT, Nat.reduceLT, T_set, X_bin EE_sym (op := .geq) rfl, ev_T, lk_cons, Nat.reduceEqDiff, if_false, if_true, ev_const, bin_geq, okI_some, X_assign, X_nil, thenQ_normal, W_seq, w4_36, Mem.next_bump, n2, Nat.le_add_right_of_le, bump_bump, Nat.reduceAdd, X_move, X_call ca_17, List.map_cons, List.map_nil, true_and]
  refine CallI.ex2 ((hQ2.bump _).all hcat) fun w M3 hv => ?_
  obtain ⟨hL3, hQ3, hw3⟩ := hv
  have hw3 := hw2.trans (hw3.of_bump.mono fun y hy => .inl hy)
  have n3 := hw3.next
  have hl3 : ∀ M, lenA EE.P 30 w M = some (In (tot 8 l)) := fun M => by have := hL3.sl.lenA und_30 (m := M); rw [this, isort_len, catTo_len]
  simp only [putT, Nat.reduceLT, T_set, X_len EE_sym, ev_T, lk_cons, Nat.reduceEqDiff, if_false, if_true, hl3, okI_some, X_assign, X_nil, thenQ_normal, W_seq, w4_37, n3, X_move, X_call ca_18, List.map_cons, List.map_nil, true_and]
  have endq : ∀ M4 : Mem, Wx (fun y => y < m.next) m M4 → RawE m M4 (.bool true) (fun u _ => u = .bool true) := fun M4 h => RawE.of h.next fun y hy => h.old y hy
  by_cases hwq : 0 ≤ whQ c l x3
  · obtain ⟨w', hw1', hw2', hw3'⟩ := wh_at hwq
    obtain ⟨ix, x1, x2', x3'⟩ := idx_in hw2'
    have he := erase_at (i := 0) (j := ix) (show idxFrom x3 (l w') 0 = ((0 + ix : Nat) : Int) by rw [Nat.zero_add]; exact x2')
    obtain ⟨hD', hnot, htot⟩ := hD.erase hw1' hc8 hw2'
    refine CallI.ex2 ((hQ3.bump _).cut hsh (by omega) hw3' x1 x2') fun u' M4 hv => ?_
    obtain ⟨rfl, hQ4, hw4⟩ := hv
    rw [he] at hQ4
    have hw4 := hw3.trans (hw4.of_bump.mono fun y hy => .inl hy)
    have n4 := hw4.next
    have hsh' := hD'.sh hc8 (by omega)
    have hno := wh_none hnot
    have hws : IntKind.i64.wrap ((tot 8 l : Int) - 1) = ((tot 8 l : Nat) : Int) - 1 := by have := hD.len; exact wrap_i64 (by omega) (by omega)
    simp only [putT, hwq, decide_true, Nat.reduceLT, T_set, X_assign, ev_T, lk_cons, Nat.reduceEqDiff, if_false, if_true, X_nil, thenQ_normal, W_seq, w4_38, n4, X_move, w4_39, Mem.next_bump, Nat.le_add_right_of_le, bump_bump, Nat.reduceAdd, W_cond, CDi_t, w4_41, w4_40, X_bin EE_sym (op := .sub) rfl, ev_const, bin_sub, hws, okI_some, w4_42, X_guard EE_sym, T_get, GDi_tt, X_eql EE_sym, eqB, beq_self_eq_true, X_pick EE_sym, pickV_bool, X_call ca_16, List.map_cons, List.map_nil, true_and]
    refine CallI.con0 ((hQ4.bump _).where (x := x3) hsh') ?_
    rw [hno]
    simp only [putT, Nat.reduceLT, T_set, X_guard EE_sym, T_get, lk_cons, Nat.reduceEqDiff, if_false, if_true, GDi_tt, X_eql EE_sym, ev_T, ev_const, eq_int, decide_true, okI_some, X_pick EE_sym, pickV_bool, X_move, X_call ca_18, List.map_cons, List.map_nil]
    refine CallI.con ((hQ4.bump _).cut_no (x := x3) hsh' (by rw [hno]; decide)) (by simp) ?_
    simp only [putT, Nat.reduceLT, T_set, X_guard EE_sym, T_get, lk_cons, Nat.reduceEqDiff, if_false, if_true, GDi_tt, X_un EE_sym, ev_T, un_not, Bool.not_false, okI_some, X_pick EE_sym, ev_const, pickV_bool, X_move, X_call ca_17, List.map_cons, List.map_nil]
    refine CallI.ex2L ((hQ4.bump _).all (hD'.cat (by omega))) (by simp) fun w5 M5 hv => ?_
    obtain ⟨hL5, hQ5, hw5⟩ := hv
    have hw5 := hw4.trans (hw5.of_bump.mono fun y hy => .inl hy)
    have n5 := hw5.next
    have hl5 : ∀ M, lenA EE.P 30 w5 M = some (In ((tot 8 l : Nat) - 1 : Int)) := fun M => by
      have := hL5.sl.lenA und_30 (m := M)
      rw [this, isort_len, catTo_len]
      congr 2
      omega
    simp only [putT, Nat.reduceLT, T_set, X_guard EE_sym, T_get, lk_cons, Nat.reduceEqDiff, if_false, if_true, GDi_tt, X_len EE_sym, ev_T, hl5, okI_some, X_move, X_eql EE_sym, eq_int, decide_true, X_pick EE_sym, ev_const, pickV_bool, X_assign, X_nil, thenQ_normal, W_ret, FinX_ret, resA_tmp, resA_nil, Option.map_some, oneOr1]
    exact endq _ hw5
  · have hno : whQ c l x3 < 0 := by omega
    have hno1 := wh_none (wh_not hno)
    refine CallI.con0 ((hQ3.bump _).cut_no (x := x3) hsh hno) ?_
    simp only [putT, hwq, decide_false, Nat.reduceLT, T_set, X_assign, ev_T, lk_cons, Nat.reduceEqDiff, if_false, if_true, X_nil, thenQ_normal, W_seq, w4_38, Mem.next_bump, n3, Nat.le_add_right_of_le, bump_bump, Nat.reduceAdd, X_move, w4_39, W_cond, CDi_f, W_skip, w4_42, X_guard EE_sym, T_get, GDi_tt, X_eql EE_sym, eqB, beq_self_eq_true, okI_some, X_pick EE_sym, ev_const, pickV_bool, X_call ca_16, List.map_cons, List.map_nil, true_and]
    refine CallI.con0 ((hQ3.bump _).where (x := x3) hsh) ?_
    rw [hno1]
    simp only [putT, Nat.reduceLT, T_set, X_guard EE_sym, T_get, lk_cons, Nat.reduceEqDiff, if_false, if_true, GDi_tt, X_eql EE_sym, ev_T, ev_const, eq_int, decide_true, okI_some, X_pick EE_sym, pickV_bool, X_move, X_call ca_18, List.map_cons, List.map_nil]
    refine CallI.con ((hQ3.bump _).cut_no (x := x3) hsh hno) (by simp) ?_
    simp only [putT, Nat.reduceLT, T_set, X_guard EE_sym, T_get, lk_cons, Nat.reduceEqDiff, if_false, if_true, GDi_tt, X_un EE_sym, ev_T, un_not, Bool.not_false, okI_some, X_pick EE_sym, ev_const, pickV_bool, X_move, X_call ca_17, List.map_cons, List.map_nil]
    refine CallI.ex2L ((hQ3.bump _).all hcat) (by simp) fun w5 M5 hv => ?_
    obtain ⟨hL5, hQ5, hw5⟩ := hv
    have hw5 := hw3.trans (hw5.of_bump.mono fun y hy => .inl hy)
    have n5 := hw5.next
    have hl5 : ∀ M, lenA EE.P 30 w5 M = some (In (tot 8 l)) := fun M => by have := hL5.sl.lenA und_30 (m := M); rw [this, isort_len, catTo_len]
    simp only [putT, Nat.reduceLT, T_set, X_guard EE_sym, T_get, lk_cons, Nat.reduceEqDiff, if_false, if_true, GDi_tt, X_len EE_sym, ev_T, hl5, okI_some, X_move, X_eql EE_sym, eq_int, decide_true, X_pick EE_sym, ev_const, pickV_bool, X_assign, X_nil, thenQ_normal, W_ret, FinX_ret, resA_tmp, resA_nil, Option.map_some, oneOr1]
    exact endq _ hw5
end
end
end Go.Ab
