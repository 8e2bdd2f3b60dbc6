/- Signals: the document's Next tells what the program's tells. -/
import Derived.Test.YthpncefkklojlaaSpD
namespace Go.Ab
open Go.Proofs Go.Proofs.Ythpncefkklojlaa.sig
noncomputable section
set_option maxHeartbeats 8000000
set_option maxRecDepth 10000
section
variable {m : Mem} {s : S}
/-- Two rows of signals among the new blocks. -/
structure NewM2 (m : Mem) (b b2 : Nat) (s : S) (M : Mem) : Prop where
  n0 : b2 < M.next
  lt : b < b2
  at_ : ∃ c, M.get b = some (.cells c true 0) ∧ c.n = 19 ∧ c.list = sl s
  at2 : ∃ c, M.get b2 = some (.cells c true 0) ∧ c.n = 19
  old : ∀ y, y < m.next → M.get y = m.get y
theorem NewM2.bump {b b2 : Nat} {M : Mem} (h : NewM2 m b b2 s M) (j : Nat) : NewM2 m b b2 s (M.bump j) := ⟨by rw [Mem.next_bump]; have := h.n0; omega, h.lt, h.at_, h.at2, h.old⟩
theorem scan_no {r P : BitVec 32} {n : Nat} (hn : n < 16) (h1 : 1 ≤ n) (hr : r.getLsbD n = false) : scan s r (16 - n) n P = scan s r (16 - (n + 1)) ((n + 1 : Nat) : Int) P := by
  rw [show 16 - n = (16 - (n + 1)) + 1 by omega]
  have hw : w64 ((n : Int) + 1) = ((n + 1 : Nat) : Int) := by rw [w64_small (by omega) (by omega)]; rfl
  simp only [scan, Int.toNat_natCast, bit_iff, hr, hw, Bool.false_eq_true, if_false]
theorem scan_ig {r P : BitVec 32} {n : Nat} (hn : n < 16) (h1 : 1 ≤ n) (hr : r.getLsbD n = true) (hw : what s n = 0) : scan s r (16 - n) n P = scan s r (16 - (n + 1)) ((n + 1 : Nat) : Int) (P &&& ~~~(1#32 <<< n)) := by
  rw [show 16 - n = (16 - (n + 1)) + 1 by omega]
  have hw' : w64 ((n : Int) + 1) = ((n + 1 : Nat) : Int) := by rw [w64_small (by omega) (by omega)]; rfl
  simp only [scan, Int.toNat_natCast, bit_iff, hr, hw', hw, if_true, beq_self_eq_true]
theorem scan_at {r P : BitVec 32} {n : Nat} (hn : n < 16) (h1 : 1 ≤ n) (hr : r.getLsbD n = true) (hw : what s n ≠ 0) : scan s r (16 - n) n P = ((n : Int), what s n, P &&& ~~~(1#32 <<< n)) := by
  rw [show 16 - n = (16 - (n + 1)) + 1 by omega]
  have : (what s (n : Int) == 0) = false := by simpa using hw
  simp only [scan, Int.toNat_natCast, bit_iff, hr, this, if_true, Bool.false_eq_true, if_false]
theorem isS_of {n : Nat} (h1 : 1 ≤ n) (h2 : n ≤ 15) : isS (n : Int) = true := by unfold isS; simp; omega
/-- With other ones pending. -/
def setP (s : S) (P : BitVec 32) : S := { s with p := P }
theorem setP_p {P : BitVec 32} : (setP s P).p = P := rfl
theorem setP_m {P : BitVec 32} : (setP s P).m = s.m := rfl
theorem setP_b {P : BitVec 32} : (setP s P).b = s.b := rfl
theorem setP_get {P : BitVec 32} {g : Int} : (setP s P).get g = s.get g := rfl
theorem setP_self : setP s s.p = s := rfl
theorem clr_setP {P : BitVec 32} {n : Nat} : clrS (setP s P) n = setP s (P &&& ~~~(1#32 <<< n)) := by
  unfold clrS setP; rw [Int.toNat_natCast]
/-- What is left to do. -/
structure InvN (s : S) (n : Nat) (P : BitVec 32) : Prop where
  eq : scan s (ready s) (16 - n) n P = scan s (ready s) 15 1 s.p
  bits : ∀ i, n ≤ i → i < 32 → P.getLsbD i = s.p.getLsbD i
theorem nx_of (ho : okS s = true) {n : Nat} {v w : Int} {P Q : BitVec 32} (h : scan s (ready s) (16 - n) n P = (v, w, Q)) (hI : InvN s n P) : nx s = ⟨v, w, { s with p := Q, b := s.b || (w == 2) }⟩ := by
  unfold nx
  rw [if_pos ho, ← hI.eq, h]
theorem nx_1 (ho : okS s = true) {n : Nat} {v w : Int} {P Q : BitVec 32} (h : scan s (ready s) (16 - n) n P = (v, w, Q)) (hI : InvN s n P) (hw : w ≠ 2) : nx s = ⟨v, w, setP s Q⟩ := by
  rw [nx_of ho h hI]
  have : (s.b || (w == 2)) = s.b := by
    have : (w == 2) = false := by simpa using hw
    rw [this, Bool.or_false]
  rw [this]; rfl
theorem nx_2 (ho : okS s = true) {n : Nat} {v : Int} {P Q : BitVec 32} (h : scan s (ready s) (16 - n) n P = (v, 2, Q)) (hI : InvN s n P) : nx s = ⟨v, 2, { setP s Q with b := true }⟩ := by
  rw [nx_of ho h hI]
  have : (s.b || ((2 : Int) == 2)) = true := by cases s.b <;> rfl
  rw [this]; rfl
theorem NewM2.put {b b2 : Nat} {s' : S} {M : Mem} {c : Cells} (h : NewM2 m b b2 s M) (hb : m.next ≤ b) (hc : c.n = 19) : NewM2 m b b2 s' (M.put b (.cells (c.write 0 (sl s')) true 0)) := by
  refine ⟨by rw [Mem.next_put]; exact h.n0, h.lt, ⟨_, by rw [Mem.get_put, if_pos rfl], by rw [write_n, hc], list_writeN (by rw [sl_len, hc])⟩, ?_, fun y hy => ?_⟩
  · obtain ⟨d, d1, d2⟩ := h.at2
    exact ⟨d, by rw [Mem.get_put, if_neg (by have := h.lt; omega)]; exact d1, d2⟩
  · rw [Mem.get_put, if_neg (by omega)]; exact h.old y hy
theorem nextD : Con EE.P 22 [SV s] m (.tuple #[In (nx s).sig, In (nx s).wh, SV (nx s).to]) m := by
  refine Con.of EE_ok fn22 (Nat.le_of_ble_eq_true rfl) Grow.rfl fun hm => ?_
  simp only [f22, enumV, w22, W_seq, w22_0, Nat.le_refl, X_box, Nat.reduceLT, ev_T, lk_cons, if_true, sl_box, okI_some, Nat.add_zero, T_set, put_bump, X_assign, ev_const, X_alloc, zero_S, X_nil, thenQ_normal, w22_1, Mem.next_bump, Mem.next_put, Nat.le_add_right, bump_bump, Nat.reduceAdd, X_load EE_sym, Nat.reduceEqDiff, if_false, loadN lay_25, Mem.get_bump, Mem.get_put, Nat.left_eq_add, ldN_cells, ofList_n, sl_len, sub_all, Cells.ofList_list, Option.map_some, agg_sl, X_call ca_23, List.map_cons, List.map_nil, true_and]
  refine CallI.con0 mayD ?_
  cases ho : okS s with
  | false =>
    have e : nx s = ⟨0, 0, s⟩ := by unfold nx; rw [ho]; rfl
    rw [e]
    simp only [putT, Nat.reduceLT, T_set, X_assign, ev_T, lk_cons, Nat.reduceEqDiff, if_false, if_true, X_nil, thenQ_normal, W_seq, w22_2, Mem.next_bump, Mem.next_put, Nat.le_add_right, bump_bump, Nat.reduceAdd, X_move, X_un EE_sym, un_not, Bool.not_false, okI_some, W_cond, CDi_t, w22_4, w22_3, X_load EE_sym, loadN lay_25, Mem.get_bump, Mem.get_put, Nat.left_eq_add, ldN_cells, ofList_n, sl_len, sub_all, Cells.ofList_list, Option.map_some, agg_sl, ev_const, X_store, store1 sz_25, Nat.add_eq_left, sl_cells, st1_cells, Nat.zero_add, Nat.le_refl, sl_one, and_self, put_bump, W_ret, thenQ_ret, FinC_ret, resA_tmp, T_get, resA_cell, write_n, list_writeN, resA_nil, Option.bind_some, oneOr2, true_and]
    exact TidyE.pure plain_3 fun y hy => by simp only [Mem.get_bump, Mem.get_put, ne_new0 hy, ne_new hy, if_false]
  | true =>
    simp only [putT, Nat.reduceLT, T_set, X_assign, ev_T, lk_cons, Nat.reduceEqDiff, if_false, if_true, X_nil, thenQ_normal, W_seq, w22_2, Mem.next_bump, Mem.next_put, Nat.le_add_right, bump_bump, Nat.reduceAdd, X_move, X_un EE_sym, un_not, Bool.not_true, okI_some, W_cond, CDi_f, W_skip, w22_5, ev_const, W_block, w22_22, true_and]
    refine WX.loop_of (fun k t M => ∃ (n : Nat) (P : BitVec 32), 1 ≤ n ∧ n ≤ 16 ∧ k = 16 - n ∧ t = T 65 [(1, PT m.next), (4, PT (m.next + 3)), (6, In n)] ∧ NewM2 m m.next (m.next + 3) (setP s P) M ∧ InvN s n P) ?_ (k := 15) (t1 := T 65 [(1, PT m.next), (4, PT (m.next + 3)), (6, In (1 : Nat))]) (View.temps ⟨rfl, rfl, rfl, trivial⟩) ⟨1, s.p, by omega, by omega, rfl, rfl, ?_, ⟨rfl, fun _ _ _ => rfl⟩⟩
    · rintro k t M ⟨n, P, hn1, hn, rfl, rfl, hN, hI⟩
      obtain ⟨c, c1, c2, c3⟩ := hN.at_
      obtain ⟨d, d1, d2⟩ := hN.at2
      have nx0 := hN.n0
      have nx1 : m.next ≤ M.next := by omega
      have r9 : s.m.getLsbD 9 = false := ((okS_iff s).1 ho).2.2.1
      by_cases hn2 : n ≤ 15
      · have g1 : ((n : Int) ≤ 15) = True := eq_true (by omega)
        have hw : IntKind.i64.wrap ((n : Int) + 1) = ((n + 1 : Nat) : Int) := by rw [wrap_i64 (by omega) (by omega)]; omega
        simp only [w22_21, W_seq, w22_6, nx1, X_move, Nat.reduceLT, ev_T, lk_cons, Nat.reduceEqDiff, if_true, if_false, T_set, X_bin EE_sym (op := .leq) rfl, ev_const, bin_leq, g1, decide_true, okI_some, X_nil, thenQ_normal, W_cond, CDi_t, W_skip, W_block, w22_19, w22_7, Mem.next_bump, Nat.le_add_right_of_le, bump_bump, Nat.reduceAdd, X_fieldAddr EE_sym fo_25_0, offV_ptr, Nat.add_zero, X_load EE_sym, load1 lay_22, Mem.get_bump, c1, ld1_cells, Cells.nth_eq, c3, sl_p, setP_p, X_call ca_33, List.map_cons, List.map_nil, true_and]
        refine CallI.con0 (hasD (by omega)) ?_
        simp only [Int.toNat_natCast, putT, Nat.reduceLT, T_set, X_assign, ev_T, lk_cons, Nat.reduceEqDiff, if_false, if_true, X_nil, thenQ_normal, W_seq, w22_8, Mem.next_bump, nx1, Nat.le_add_right_of_le, bump_bump, Nat.reduceAdd, X_fieldAddr EE_sym fo_25_1, offV_ptr, Nat.zero_add, okI_some, X_load EE_sym, load1 lay_22, Mem.get_bump, c1, ld1_cells, Cells.nth_eq, c3, sl_m, setP_m, X_move, X_call ca_33, List.map_cons, List.map_nil, true_and]
        refine CallI.con0 (hasD (by omega)) ?_
        rw [Int.toNat_natCast, hI.bits n (Nat.le_refl _) (by omega)]
        have hrb := ready_bit s n (by omega)
        have h9 : ((n : Int) = 9) = True ∧ n = 9 ∨ ((n : Int) = 9) = False ∧ n ≠ 9 := by
          simp only [eq_iff_iff, iff_true, iff_false]
          omega
        cases hr : (ready s).getLsbD n with
        | false =>
          rw [hr] at hrb
          cases hp : s.p.getLsbD n <;> cases hq : s.m.getLsbD n <;> cases hb : s.b <;> rcases h9 with ⟨g9, h9⟩ | ⟨g9, h9⟩
          all_goals first | (exfalso; rw [hp, hq, hb] at hrb; simp [h9] at hrb; done) | (exfalso; rw [h9, r9] at hq; cases hq; done) | skip
          all_goals
            simp only [W_seq, W_cond, W_exit, thenQ_normal, thenQ_exit, blockQ_exit, X_nil, X_move, X_assign, ev_T, ev_const, T_set, T_get, lk_cons, putT, Nat.reduceLT, Nat.reduceEqDiff, okI_some, CDi_t, GDi_tt, GDi_ff, GDi_tf, Mem.next_bump, true_and, decide_false, Bool.false_eq_true, Nat.reduceAdd, Nat.zero_add, pickV_bool, bump_bump, offV_ptr, Mem.get_bump, w22_9, w22_20, X_pick EE_sym, X_neq EE_sym, X_un EE_sym, X_load EE_sym, X_guard EE_sym, X_bin EE_sym (op := .add) rfl, bin_add, neq_int, X_fieldAddr EE_sym fo_25_3, load1 lay_4, ld1_cells, if_true, if_false, Bool.not_true, Bool.not_false, un_not, eq_self, GDi_u, Cells.nth_eq, sl_b, g9, c1, c3, hw, hb, setP_b, nx1, Nat.le_add_right_of_le, roundQ_normal]
            exact ⟨16 - (n + 1), _, _, by omega, View.temps (l' := [(1, PT m.next), (4, PT (m.next + 3)), (6, In ((n + 1 : Nat) : Int))]) ⟨rfl, rfl, rfl, trivial⟩, n + 1, P, by omega, by omega, rfl, rfl, hN.bump _, ⟨by rw [← scan_no (by omega) hn1 hr]; exact hI.eq, fun i h1 h2 => hI.bits i (by omega) h2⟩⟩
        | true =>
          rw [hr] at hrb
          have hp : s.p.getLsbD n = true := by
            cases hp : s.p.getLsbD n with
            | true => rfl
            | false => rw [hp] at hrb; cases hrb
          have ig := isS_of (n := n) hn1 hn2
          have i1 := @idxG n m.next ig
          have i2 := sl_h (s := setP s (P &&& ~~~(1#32 <<< n))) ig
          rw [Int.toNat_natCast] at i2
          have hbits : ∀ i, n + 1 ≤ i → i < 32 → (P &&& ~~~(1#32 <<< n)).getLsbD i = s.p.getLsbD i := fun i h1 h2 => by
            rw [BitVec.getLsbD_and, BitVec.getLsbD_not, lsb_bit _ i h2, hI.bits i (by omega) h2]
            have : i ≠ n := by omega
            simp [this, h2]
          have hfr : ∀ (o1 o2 : AObj) y, y < m.next → ((M.put m.next o1).put (m.next + 3) o2).get y = m.get y := fun o1 o2 y hy => by
            simp only [Mem.get_put, ne_new0 hy, ne_new hy, if_false]; exact hN.old y hy
          have hfr3 : ∀ (o0 o1 o2 : AObj) y, y < m.next → (((M.put m.next o0).put m.next o1).put (m.next + 3) o2).get y = m.get y := fun o0 o1 o2 y hy => by
            simp only [Mem.get_put, ne_new0 hy, ne_new hy, if_false]; exact hN.old y hy
          have hskip : (!s.m.getLsbD n && (!s.b || decide (n = 9))) = true := by
            rw [hp, Bool.true_and] at hrb; exact hrb.symm
          rcases h9 with ⟨g9, h9⟩ | ⟨g9, h9⟩
          · have hwh : what s n = 1 := by rw [h9]; exact what_nine s
            have hnx := nx_1 ho ((scan_at (by omega) hn1 hr (by rw [hwh]; decide)).trans (by rw [hwh])) hI (by decide)
            rw [hnx]
            cases hq : s.m.getLsbD n <;> cases hb : s.b
            all_goals
              simp only [putT, hp, Nat.reduceLT, T_set, X_assign, ev_T, lk_cons, Nat.reduceEqDiff, if_false, if_true, X_nil, thenQ_normal, W_seq, w22_9, Mem.next_bump, nx1, Nat.le_add_right_of_le, bump_bump, Nat.reduceAdd, X_move, X_un EE_sym, un_not, Bool.not_true, okI_some, X_guard EE_sym, T_get, GDi_ff, X_neq EE_sym, ev_const, neq_int, g9, decide_true, GDi_ft, GDi_u, X_pick EE_sym, pickV_bool, Bool.false_eq_true, W_cond, CDi_f, W_skip, w22_10, X_load EE_sym, loadN lay_25, Mem.get_bump, c1, ldN_cells, c2, sub_all, c3, Option.map_some, agg_sl, X_call ca_34, List.map_cons, List.map_nil, true_and]
              refine CallI.con0 (withoutD (by omega) (by omega)) ?_
              rw [clr_setP]
              simp only [putT, Nat.reduceLT, T_set, X_store, ev_T, lk_cons, Nat.reduceEqDiff, if_false, if_true, store1 sz_25, Mem.get_bump, c1, sl_cells, st1_cells, sl_len, Nat.zero_add, c2, Nat.le_refl, sl_one, and_self, put_bump, okI_some, X_nil, thenQ_normal, W_seq, w22_11, Mem.next_bump, Mem.next_put, nx1, Nat.le_add_right_of_le, bump_bump, Nat.reduceAdd, X_move, X_fieldAddr EE_sym fo_25_2, offV_ptr, X_indexAddr EE_sym, i1, Int.toNat_natCast, X_load EE_sym, load1 lay_22, Mem.get_put, ld1_cells, Cells.nth_eq, list_writeN, i2, setP_get, X_assign, w22_12, X_eql EE_sym, ev_const, eq_int, g9, decide_true, X_guard EE_sym, T_get, GDi_tf, GDi_u, X_pick EE_sym, pickV_bool, W_cond, CDi_t, w22_14, w22_13, loadN lay_25, ldN_cells, write_n, sub_all, Option.map_some, agg_sl, Nat.add_eq_left, d1, d2, W_ret, thenQ_ret, blockQ_ret, roundQ_ret, FinC_ret, resA_tmp, resA_cell, resA_nil, Option.bind_some, oneOr2, true_and]
              exact TidyE.pure plain_3 (hfr _ _)
          · have hq : s.m.getLsbD n = false := by
              cases hq : s.m.getLsbD n with
              | false => rfl
              | true => rw [hq] at hskip; cases hskip
            have hb : s.b = false := by
              cases hb : s.b with
              | false => rfl
              | true => rw [hq, hb] at hskip; simp [h9] at hskip
            rw [hq]
            simp only [putT, hp, Nat.reduceLT, T_set, X_assign, ev_T, lk_cons, Nat.reduceEqDiff, if_false, if_true, X_nil, thenQ_normal, W_seq, w22_9, Mem.next_bump, nx1, Nat.le_add_right_of_le, bump_bump, Nat.reduceAdd, X_move, X_un EE_sym, un_not, Bool.not_true, okI_some, X_guard EE_sym, T_get, GDi_ff, X_neq EE_sym, ev_const, neq_int, g9, decide_false, Bool.not_false, GDi_tt, X_fieldAddr EE_sym fo_25_3, offV_ptr, Nat.zero_add, X_load EE_sym, load1 lay_4, Mem.get_bump, c1, ld1_cells, Cells.nth_eq, c3, sl_b, setP_b, hb, X_pick EE_sym, pickV_bool, Bool.false_eq_true, W_cond, CDi_f, W_skip, w22_10, loadN lay_25, ldN_cells, c2, sub_all, Option.map_some, agg_sl, X_call ca_34, List.map_cons, List.map_nil, true_and]
            refine CallI.con0 (withoutD (by omega) (by omega)) ?_
            rw [clr_setP]
            have gi : ¬ ((n : Int) = 9) := by omega
            by_cases z0 : s.get n = 0#32
            · have f0 : (((s.get n).toNat : Int) = 0) = True := eq_true (by rw [z0]; rfl)
              by_cases z12 : n = 12
              · have g12 : ((n : Int) = 12) = True := eq_true (by omega)
                have f1 : ((1 : Int) < ((s.get n).toNat : Int)) = False := eq_false (by rw [z0]; decide)
                have hwh : what s n = 0 := by
                  unfold what
                  rw [z0, z12]; rfl
                simp only [putT, Nat.reduceLT, T_set, X_store, ev_T, lk_cons, Nat.reduceEqDiff, if_false, if_true, store1 sz_25, Mem.get_bump, c1, sl_cells, st1_cells, sl_len, Nat.zero_add, c2, Nat.le_refl, sl_one, and_self, put_bump, okI_some, X_nil, thenQ_normal, W_seq, w22_11, Mem.next_bump, Mem.next_put, nx1, Nat.le_add_right_of_le, bump_bump, Nat.reduceAdd, X_move, X_fieldAddr EE_sym fo_25_2, offV_ptr, X_indexAddr EE_sym, i1, Int.toNat_natCast, X_load EE_sym, load1 lay_22, Mem.get_put, ld1_cells, Cells.nth_eq, list_writeN, i2, setP_get, X_assign, w22_12, X_eql EE_sym, ev_const, eq_int, g9, decide_false, X_guard EE_sym, T_get, GDi_ff, f0, decide_true, GDi_tt, X_neq EE_sym, neq_int, g12, Bool.not_true, X_pick EE_sym, pickV_bool, Bool.false_eq_true, W_cond, CDi_f, W_skip, w22_15, X_bin EE_sym (op := .gtr) rfl, bin_gtr, f1, blockQ_normal, w22_20, X_bin EE_sym (op := .add) rfl, bin_add, hw, roundQ_normal, true_and]
                exact ⟨16 - (n + 1), _, _, by omega, View.temps (l' := [(1, PT m.next), (4, PT (m.next + 3)), (6, In ((n + 1 : Nat) : Int))]) ⟨rfl, rfl, rfl, trivial⟩, n + 1, _, by omega, by omega, rfl, rfl, (hN.put (Nat.le_refl _) c2).bump _, ⟨by rw [← scan_ig (by omega) hn1 hr hwh]; exact hI.eq, hbits⟩⟩
              · have g12 : ((n : Int) = 12) = False := eq_false (by omega)
                have hwh : what s n = 1 := by
                  unfold what
                  have : ((n : Int) == 12) = false := by simp; omega
                  rw [z0, this]; simp
                have hnx := nx_1 ho ((scan_at (by omega) hn1 hr (by rw [hwh]; decide)).trans (by rw [hwh])) hI (by decide)
                rw [hnx]
                simp only [putT, Nat.reduceLT, T_set, X_store, ev_T, lk_cons, Nat.reduceEqDiff, if_false, if_true, store1 sz_25, Mem.get_bump, c1, sl_cells, st1_cells, sl_len, Nat.zero_add, c2, Nat.le_refl, sl_one, and_self, put_bump, okI_some, X_nil, thenQ_normal, W_seq, w22_11, Mem.next_bump, Mem.next_put, nx1, Nat.le_add_right_of_le, bump_bump, Nat.reduceAdd, X_move, X_fieldAddr EE_sym fo_25_2, offV_ptr, X_indexAddr EE_sym, i1, Int.toNat_natCast, X_load EE_sym, load1 lay_22, Mem.get_put, ld1_cells, Cells.nth_eq, list_writeN, i2, setP_get, X_assign, w22_12, X_eql EE_sym, ev_const, eq_int, g9, decide_false, X_guard EE_sym, T_get, GDi_ff, f0, decide_true, GDi_tt, X_neq EE_sym, neq_int, g12, Bool.not_false, X_pick EE_sym, pickV_bool, Bool.false_eq_true, W_cond, CDi_t, w22_14, w22_13, loadN lay_25, ldN_cells, write_n, sub_all, Option.map_some, agg_sl, Nat.add_eq_left, d1, d2, W_ret, thenQ_ret, blockQ_ret, roundQ_ret, FinC_ret, resA_tmp, resA_cell, resA_nil, Option.bind_some, oneOr2, true_and]
                exact TidyE.pure plain_3 (hfr _ _)
            · have f0 : (((s.get n).toNat : Int) = 0) = False := eq_false fun h => z0 (BitVec.eq_of_toNat_eq (by simpa using h))
              have e9 : ((n : Int) == 9) = false := by simp; omega
              have e0 : (s.get n == 0#32) = false := by simpa using z0
              by_cases z1 : s.get n = 1#32
              · have f1 : ((1 : Int) < ((s.get n).toNat : Int)) = False := eq_false (by rw [z1]; decide)
                have hwh : what s n = 0 := by
                  unfold what
                  rw [e9, e0, z1]; rfl
                simp only [putT, Nat.reduceLT, T_set, X_store, ev_T, lk_cons, Nat.reduceEqDiff, if_false, if_true, store1 sz_25, Mem.get_bump, c1, sl_cells, st1_cells, sl_len, Nat.zero_add, c2, Nat.le_refl, sl_one, and_self, put_bump, okI_some, X_nil, thenQ_normal, W_seq, w22_11, Mem.next_bump, Mem.next_put, nx1, Nat.le_add_right_of_le, bump_bump, Nat.reduceAdd, X_move, X_fieldAddr EE_sym fo_25_2, offV_ptr, X_indexAddr EE_sym, i1, Int.toNat_natCast, X_load EE_sym, load1 lay_22, Mem.get_put, ld1_cells, Cells.nth_eq, list_writeN, i2, setP_get, X_assign, w22_12, X_eql EE_sym, ev_const, eq_int, g9, decide_false, X_guard EE_sym, T_get, GDi_ff, f0, GDi_ft, X_pick EE_sym, pickV_bool, Bool.false_eq_true, W_cond, CDi_f, W_skip, w22_15, X_bin EE_sym (op := .gtr) rfl, bin_gtr, f1, blockQ_normal, w22_20, X_bin EE_sym (op := .add) rfl, bin_add, hw, roundQ_normal, true_and]
                exact ⟨16 - (n + 1), _, _, by omega, View.temps (l' := [(1, PT m.next), (4, PT (m.next + 3)), (6, In ((n + 1 : Nat) : Int))]) ⟨rfl, rfl, rfl, trivial⟩, n + 1, _, by omega, by omega, rfl, rfl, (hN.put (Nat.le_refl _) c2).bump _, ⟨by rw [← scan_ig (by omega) hn1 hr hwh]; exact hI.eq, hbits⟩⟩
              · have f1 : ((1 : Int) < ((s.get n).toNat : Int)) = True := eq_true (by
                  have n0 : (s.get n).toNat ≠ 0 := fun h => z0 (BitVec.eq_of_toNat_eq (by simpa using h))
                  have n1 : (s.get n).toNat ≠ 1 := fun h => z1 (BitVec.eq_of_toNat_eq (by simpa using h))
                  omega)
                have hwh : what s n = 2 := by
                  unfold what
                  have e1 : (s.get n == 1#32) = false := by simpa using z1
                  rw [e9, e0, e1]; rfl
                have hnx := nx_2 ho ((scan_at (by omega) hn1 hr (by rw [hwh]; decide)).trans (by rw [hwh])) hI
                rw [hnx]
                simp only [putT, Nat.reduceLT, T_set, X_store, ev_T, lk_cons, Nat.reduceEqDiff, if_false, if_true, store1 sz_25, Mem.get_bump, c1, sl_cells, st1_cells, sl_len, Nat.zero_add, c2, Nat.le_refl, sl_one, and_self, put_bump, okI_some, X_nil, thenQ_normal, W_seq, w22_11, Mem.next_bump, Mem.next_put, nx1, Nat.le_add_right_of_le, bump_bump, Nat.reduceAdd, X_move, X_fieldAddr EE_sym fo_25_2, offV_ptr, X_indexAddr EE_sym, i1, Int.toNat_natCast, X_load EE_sym, load1 lay_22, Mem.get_put, ld1_cells, Cells.nth_eq, list_writeN, i2, setP_get, X_assign, w22_12, X_eql EE_sym, ev_const, eq_int, g9, decide_false, X_guard EE_sym, T_get, GDi_ff, f0, GDi_ft, X_pick EE_sym, pickV_bool, Bool.false_eq_true, W_cond, CDi_f, W_skip, w22_15, X_bin EE_sym (op := .gtr) rfl, bin_gtr, f1, decide_true, CDi_t, w22_18, w22_16, X_fieldAddr EE_sym fo_25_3, store1 sz_4, cells_bool, List.length_cons, List.length_nil, write_n, List.all_cons, oneCell, List.all_nil, Bool.and_self, w22_17, loadN lay_25, ldN_cells, sub_all, list_write1, sl_setb, Option.map_some, agg_sl, Nat.add_eq_left, d1, d2, W_ret, blockQ_ret, thenQ_ret, roundQ_ret, FinC_ret, resA_tmp, resA_cell, resA_nil, Option.bind_some, oneOr2, true_and]
                exact TidyE.pure plain_3 (hfr3 _ _ _)
      · have e : n = 16 := by omega
        subst e
        have g1 : (((16 : Nat) : Int) ≤ 15) = False := by decide
        have hnx := nx_1 ho (v := 0) (w := 0) (Q := P) rfl hI (by decide)
        rw [hnx]
        simp only [w22_21, W_seq, w22_6, nx1, X_move, Nat.reduceLT, ev_T, lk_cons, Nat.reduceEqDiff, if_true, if_false, T_set, X_bin EE_sym (op := .leq) rfl, ev_const, bin_leq, g1, decide_false, okI_some, X_nil, Nat.reduceSub, thenQ_normal, W_cond, CDi_f, W_exit, thenQ_exit, roundQ_exit, blockQ_exit, w22_23, Mem.next_bump, Nat.le_add_right_of_le, bump_bump, Nat.reduceAdd, X_load EE_sym, loadN lay_25, Mem.get_bump, c1, ldN_cells, c2, sub_all, c3, Option.map_some, agg_sl, X_assign, X_store, store1 sz_25, d1, sl_cells, st1_cells, sl_len, Nat.zero_add, d2, Nat.le_refl, sl_one, and_self, put_bump, W_ret, FinC_ret, resA_tmp, T_get, resA_cell, Mem.get_put, write_n, list_writeN, resA_nil, Option.bind_some, oneOr2, true_and]
        exact TidyE.pure plain_3 fun y hy => by
          simp only [Mem.get_bump, Mem.get_put, ne_new hy, if_false]; exact hN.old y hy
    · rw [setP_self]
      exact ⟨by simp, by omega, ⟨_, by simp only [Mem.get_bump, Mem.get_put, Nat.left_eq_add, if_true]; rfl, by rw [ofList_n, sl_len], by rw [Cells.ofList_list]⟩, ⟨_, by simp only [Mem.get_bump, Mem.get_put, if_true]; rfl, by rw [ofList_n, sl_len]⟩, fun y hy => by simp only [Mem.get_bump, Mem.get_put, ne_new0 hy, ne_new hy, if_false]⟩
end
end
end Go.Ab
