/- Signals: the document's Has, May, and a signal that is pending no more. -/
import Derived.Test.YthpncefkklojlaaSpB
namespace Go.Ab
open Go.Proofs Go.Proofs.Ythpncefkklojlaa.sig
noncomputable section
set_option maxHeartbeats 4000000
set_option maxRecDepth 10000
section
variable {m : Mem} {s : S} {x : BitVec 32}
theorem mb_bit {k : Nat} : mb x k = x.getLsbD k := by
  have h := bit_iff x k
  rw [← h]
  unfold mb
  rw [Bool.eq_iff_iff, decide_eq_true_eq, beq_iff_eq]
  constructor
  · intro h; apply BitVec.eq_of_toNat_eq; rw [h]; rfl
  · intro h; rw [h]; rfl
theorem hasD {n : Int} (hn : 0 ≤ n) : Con EE.P 33 [Um x, In n] m (.bool (x.getLsbD n.toNat)) m := by
  refine Con.of EE_ok fn33 (Nat.le_of_ble_eq_true rfl) Grow.rfl fun hm => ?_
  have e := bin_shr32 (P := EE.P) (ty := 22) (a := x) hn
  simp only [f33, enumV, Nat.zero_add, w33, W_seq, w33_0, Nat.le_refl, X_assign, ev_const, Nat.reduceLT, T_set, X_nil, thenQ_normal, w33_1, Mem.next_bump, Nat.le_add_right, bump_bump, Nat.reduceAdd, X_move, ev_T, lk_cons, Nat.reduceEqDiff, Nat.one_ne_zero, if_false, if_true, X_bin EE_sym (op := .shr) rfl, e, okI_some, X_bin EE_sym (op := .and) rfl, bin_and1, X_eql EE_sym, eq_int, W_ret, FinC_ret, resA_tmp, T_get, resA_nil, Option.map_some, oneOr1, true_and]
  rw [← mb_bit]
  have : decide (((((x >>> n.toNat) &&& 1#32).toNat : Nat) : Int) = 1) = mb x n.toNat := by
    unfold mb; exact decide_eq_decide.2 (by omega)
  rw [this]
  exact TidyE.pure rfl fun _ _ => rfl
/-- What may not be. -/
def badS (s : S) (n : Nat) : Bool := ((decide (n < 1) || decide (15 < n)) && (s.p.getLsbD n || s.m.getLsbD n)) || (decide (n = 9) && s.m.getLsbD n)
theorem okS_bad : okS s = true ↔ (∀ n, n < 32 → badS s n = false) ∧ s.h0 = 0#32 ∧ s.h9 = 0#32 := by
  rw [okS_iff]
  constructor
  · rintro ⟨h1, h2, h3, h4, h5⟩
    refine ⟨fun n hn => ?_, h4, h5⟩
    unfold badS
    by_cases h9 : n = 9
    · subst h9; rw [h3]; rfl
    · by_cases hp : s.p.getLsbD n = true
      · have := h1 n hn hp
        simp [h9]; omega
      · by_cases hq : s.m.getLsbD n = true
        · have := h2 n hn hq
          simp [h9]; omega
        · simp [hp, hq]
  · rintro ⟨h1, h4, h5⟩
    refine ⟨fun i hi hp => ?_, fun i hi hp => ?_, ?_, h4, h5⟩
    · have := h1 i hi
      unfold badS at this
      simp [hp] at this
      omega
    · have := h1 i hi
      unfold badS at this
      simp [hp] at this
      omega
    · have := h1 9 (by decide)
      unfold badS at this
      simpa using this
/-- Where only new blocks came to be. -/
structure NewM (m : Mem) (b : Nat) (s : S) (M : Mem) : Prop where
  next : b < M.next
  n0 : m.next ≤ M.next
  at_ : ∃ c, M.get b = some (.cells c true 0) ∧ c.n = 19 ∧ c.list = sl s
  old : ∀ y, y < m.next → M.get y = m.get y
theorem NewM.bump {b : Nat} {M : Mem} (h : NewM m b s M) (j : Nat) : NewM m b s (M.bump j) := ⟨by rw [Mem.next_bump]; have := h.next; omega, by rw [Mem.next_bump]; have := h.n0; omega, h.at_, h.old⟩
theorem mayD : Con EE.P 23 [SV s] m (.bool (okS s)) m := by
  refine Con.of EE_ok fn23 (Nat.le_of_ble_eq_true rfl) Grow.rfl fun hm => ?_
  simp only [f23, enumV, w23, W_seq, w23_0, Nat.le_refl, X_box, Nat.reduceLT, ev_T, lk_cons, if_true, sl_box, okI_some, Nat.add_zero, T_set, put_bump, X_assign, ev_const, X_nil, thenQ_normal, w23_1, Mem.next_bump, Mem.next_put, Nat.le_add_right, bump_bump, Nat.reduceAdd, W_block, w23_11, true_and]
  refine WX.loop_of (fun k t M => ∃ n : Nat, n ≤ 32 ∧ k = 32 - n ∧ t = T 47 [(1, PT m.next), (3, In n)] ∧ NewM m m.next s M ∧ ∀ i, i < n → badS s i = false) ?_ (k := 32) (t1 := T 47 [(1, PT m.next), (3, In (0 : Nat))]) (View.temps ⟨rfl, rfl, trivial⟩) ⟨0, by omega, rfl, rfl, ?_, fun i hi => absurd hi (Nat.not_lt_zero _)⟩
  · rintro k t M ⟨n, hn, rfl, rfl, hN, hb⟩
    obtain ⟨c, c1, c2, c3⟩ := hN.at_
    have nx := hN.n0
    by_cases hn2 : n < 32
    · have g1 : ((n : Int) < 32) = True := by simp; omega
      simp only [w23_10, W_seq, w23_2, nx, X_move, Nat.reduceLT, ev_T, lk_cons, Nat.reduceEqDiff, if_true, if_false, T_set, X_bin EE_sym (op := .lss) rfl, ev_const, bin_lss, g1, decide_true, okI_some, X_nil, thenQ_normal, W_cond, CDi_t, W_skip, W_block, w23_8, w23_3, Mem.next_bump, Nat.le_add_right_of_le, bump_bump, Nat.reduceAdd, X_fieldAddr EE_sym fo_25_0, offV_ptr, Nat.add_zero, X_load EE_sym, load1 lay_22, Mem.get_bump, c1, ld1_cells, Cells.nth_eq, c3, sl_p, X_call ca_33, List.map_cons, List.map_nil, true_and]
      refine CallI.con0 (hasD (by omega)) ?_
      simp only [Int.toNat_natCast, putT, Nat.reduceLT, T_set, X_assign, ev_T, lk_cons, Nat.reduceEqDiff, if_false, if_true, X_nil, thenQ_normal, W_seq, w23_4, Mem.next_bump, nx, Nat.le_add_right_of_le, bump_bump, Nat.reduceAdd, X_fieldAddr EE_sym fo_25_1, offV_ptr, Nat.zero_add, okI_some, X_load EE_sym, load1 lay_22, Mem.get_bump, c1, ld1_cells, Cells.nth_eq, c3, sl_m, X_move, X_call ca_33, List.map_cons, List.map_nil, true_and]
      refine CallI.con0 (hasD (by omega)) ?_
      have hw : IntKind.i64.wrap ((n : Int) + 1) = ((n + 1 : Nat) : Int) := by rw [wrap_i64 (by omega) (by omega)]; omega
      rw [Int.toNat_natCast]
      have hcase : (((n : Int) < 1) = True ∧ ((15 : Int) < n) = False ∧ ((n : Int) = 9) = False ∧ n < 1) ∨ (((n : Int) < 1) = False ∧ ((15 : Int) < n) = True ∧ ((n : Int) = 9) = False ∧ 15 < n) ∨ (((n : Int) < 1) = False ∧ ((15 : Int) < n) = False ∧ ((n : Int) = 9) = True ∧ n = 9) ∨ (((n : Int) < 1) = False ∧ ((15 : Int) < n) = False ∧ ((n : Int) = 9) = False ∧ 1 ≤ n ∧ n ≤ 15 ∧ n ≠ 9) := by
        simp only [eq_iff_iff, iff_true, iff_false]
        omega
      cases hbd : badS s n with
      | true =>
        have hno : okS s = false := by
          rw [Bool.eq_false_iff]
          intro h
          rw [(okS_bad.1 h).1 n hn2] at hbd
          cases hbd
        rw [hno]
        cases hp : s.p.getLsbD n <;> cases hq : s.m.getLsbD n <;> rcases hcase with ⟨g2, g3, g4, h⟩ | ⟨g2, g3, g4, h⟩ | ⟨g2, g3, g4, h⟩ | ⟨g2, g3, g4, h⟩
        all_goals first | (exfalso; simp [badS, hp, hq] at hbd; done) | (exfalso; simp [badS, hp, hq] at hbd; omega) | skip
        all_goals
          simp only [W_seq, W_cond, W_ret, thenQ_normal, thenQ_ret, blockQ_ret, X_nil, X_move, X_assign, ev_T, ev_const, T_set, T_get, lk_cons, putT, Nat.reduceLT, Nat.reduceEqDiff, okI_some, CDi_t, GDi_tt, GDi_ft, GDi_ff, GDi_tf, Mem.next_bump, true_and, decide_true, decide_false, Bool.false_eq_true, Nat.reduceAdd, pickV_bool, FinC_ret, resA_nil, resA_tmp, Option.map_some, oneOr1, bump_bump, w23_5, w23_6, w23_7, X_pick EE_sym, X_eql EE_sym, X_guard EE_sym, X_bin EE_sym (op := .lss) rfl, X_bin EE_sym (op := .gtr) rfl, bin_lss, bin_gtr, eq_int, if_true, if_false, eq_self, GDi_u, g2, g3, g4, nx, Nat.le_add_right_of_le, roundQ_ret]
          exact TidyE.pure rfl fun y hy => hN.old y hy
      | false =>
        cases hp : s.p.getLsbD n <;> cases hq : s.m.getLsbD n <;> rcases hcase with ⟨g2, g3, g4, h⟩ | ⟨g2, g3, g4, h⟩ | ⟨g2, g3, g4, h⟩ | ⟨g2, g3, g4, h⟩
        all_goals first | (exfalso; simp [badS, hp, hq, h] at hbd; done) | (exfalso; simp [badS, hp, hq] at hbd; omega) | skip
        all_goals
          simp only [W_seq, W_cond, W_skip, thenQ_normal, blockQ_normal, X_nil, X_move, X_assign, ev_T, ev_const, T_set, T_get, lk_cons, putT, Nat.reduceLT, Nat.reduceEqDiff, okI_some, CDi_f, GDi_tt, GDi_ft, GDi_ff, GDi_tf, Mem.next_bump, true_and, decide_true, decide_false, Bool.false_eq_true, Nat.reduceAdd, pickV_bool, bump_bump, w23_5, w23_9, X_pick EE_sym, X_eql EE_sym, X_guard EE_sym, X_bin EE_sym (op := .lss) rfl, X_bin EE_sym (op := .gtr) rfl, X_bin EE_sym (op := .add) rfl, bin_lss, bin_gtr, bin_add, eq_int, if_true, if_false, eq_self, GDi_u, g2, g3, g4, hw, nx, Nat.le_add_right_of_le, roundQ_normal]
          exact ⟨32 - (n + 1), _, _, by omega, View.temps (l' := [(1, PT m.next), (3, In ((n + 1 : Nat) : Int))]) ⟨rfl, rfl, trivial⟩, n + 1, by omega, rfl, rfl, hN.bump _, fun i hi => by
            rcases Nat.lt_succ_iff_lt_or_eq.1 hi with h | rfl
            · exact hb i h
            · exact hbd⟩
    · have e : n = 32 := by omega
      subst e
      have g1 : (((32 : Nat) : Int) < 32) = False := by decide
      by_cases e0 : s.h0 = 0#32
      · have f0 : (((s.h0.toNat : Nat) : Int) = 0) = True := eq_true (by rw [e0]; rfl)
        have f9 : (((s.h9.toNat : Nat) : Int) = 0) = (s.h9 = 0#32) := eq_iff_iff.2 ⟨fun h => BitVec.eq_of_toNat_eq (by simpa using h), fun h => by rw [h]; rfl⟩
        have ho : okS s = decide (s.h9 = 0#32) := by
          rw [Bool.eq_iff_iff, okS_bad, decide_eq_true_eq]
          exact ⟨fun h => h.2.2, fun h => ⟨fun i hi => hb i hi, e0, h⟩⟩
        rw [ho]
        simp only [w23_10, W_seq, w23_2, nx, X_move, Nat.reduceLT, ev_T, lk_cons, Nat.reduceEqDiff, if_true, if_false, T_set, X_bin EE_sym (op := .lss) rfl, ev_const, bin_lss, g1, decide_false, okI_some, X_nil, Nat.reduceSub, thenQ_normal, W_cond, CDi_f, W_exit, thenQ_exit, roundQ_exit, blockQ_exit, w23_12, Mem.next_bump, Nat.le_add_right_of_le, bump_bump, Nat.reduceAdd, X_fieldAddr EE_sym fo_25_2, offV_ptr, Nat.zero_add, X_indexAddr EE_sym, idx0, X_load EE_sym, load1 lay_22, Mem.get_bump, c1, ld1_cells, Cells.nth_eq, c3, sl_0, X_eql EE_sym, eq_int, f0, decide_true, X_guard EE_sym, T_get, GDi_tt, idx9, sl_9, f9, X_pick EE_sym, pickV_bool, X_assign, W_ret, FinC_ret, resA_tmp, resA_nil, Option.map_some, oneOr1, true_and]
        exact TidyE.pure rfl fun y hy => hN.old y hy
      · have f0 : (((s.h0.toNat : Nat) : Int) = 0) = False := eq_false fun h => e0 (BitVec.eq_of_toNat_eq (by simpa using h))
        have ho : okS s = false := by
          rw [Bool.eq_false_iff]
          exact fun h => e0 (okS_bad.1 h).2.1
        rw [ho]
        simp only [w23_10, W_seq, w23_2, nx, X_move, Nat.reduceLT, ev_T, lk_cons, Nat.reduceEqDiff, if_true, if_false, T_set, X_bin EE_sym (op := .lss) rfl, ev_const, bin_lss, g1, decide_false, okI_some, X_nil, Nat.reduceSub, thenQ_normal, W_cond, CDi_f, W_exit, thenQ_exit, roundQ_exit, blockQ_exit, w23_12, Mem.next_bump, Nat.le_add_right_of_le, bump_bump, Nat.reduceAdd, X_fieldAddr EE_sym fo_25_2, offV_ptr, Nat.zero_add, X_indexAddr EE_sym, idx0, X_load EE_sym, load1 lay_22, Mem.get_bump, c1, ld1_cells, Cells.nth_eq, c3, sl_0, X_eql EE_sym, eq_int, f0, X_guard EE_sym, T_get, GDi_ft, putT, X_pick EE_sym, pickV_bool, Bool.false_eq_true, X_assign, W_ret, FinC_ret, resA_tmp, resA_nil, Option.map_some, oneOr1, true_and]
        exact TidyE.pure rfl fun y hy => hN.old y hy
  · exact ⟨by simp, by simp, ⟨_, by simp only [Mem.get_bump, Mem.get_put, if_true]; rfl, by rw [ofList_n, sl_len], by rw [Cells.ofList_list]⟩, fun y hy => by simp only [Mem.get_bump, Mem.get_put, ne_new0 hy, if_false]⟩
end
end
end Go.Ab
