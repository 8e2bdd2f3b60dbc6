/- Tree: May, Thaw. -/
import Derived.Test.YtjajeeoahbidlaaTrL
import Derived.Test.YtjajeeoahbidlaaTrA64
namespace Go.Ab
open Go.Proofs
noncomputable section
set_option maxHeartbeats 4000000
set_option maxRecDepth 10000
section
variable {m m' : Mem} {t b : Nat} {room top : Int} {L : TL} {p r st : Int} {s : BitVec 32}
/-- What May answers. -/
def mayE (L : TL) (room top p r : Int) : Int :=
  if (at_ L p).2.1 = 3 ∧ (r = 0 ∨ r = (at_ L p).1) then 0
  else if (at_ L p).2.1 ≠ 0 ∨ p ≤ top ∨ 65535 < p ∨ (at_ L r).2.1 = 0 ∨ (at_ L r).2.1 = 2 then 153
  else if room - L.length = 0 then 150 else 0
theorem lcm_1 {x y : Int} {z : BitVec 32} : ((Cells.ofList [.int .i64 0, .int .i64 0, .int .u32 0]).write 0 [In x, In y, Um z]).nth 1 = some (In y) := rfl
theorem lcm_0 {x y : Int} {z : BitVec 32} : ((Cells.ofList [.int .i64 0, .int .i64 0, .int .u32 0]).write 0 [In x, In y, Um z]).nth 0 = some (In x) := rfl
theorem may_ok (h : TAt m t b room top L) (hm : Fresh m) (hl : L.length ≤ 32) : ∃ u m', Con EE.P 24 [PT t, In p, In r] m u m' ∧ u = In (mayE L room top p r) ∧ Nx m m' := by
  refine Con.raw EE_ok fn24 (Nat.le_of_ble_eq_true rfl) _ ?_
  obtain ⟨cs, h1, h2, h3, h4, h5⟩ := h.cs
  have h6 := h.mp
  have lt := h.lt hm
  have ht : ∀ j, ¬ t = m.next + j := fun j => by omega
  have hb : ∀ j, ¬ b = m.next + j := fun j => by omega
  simp only [f24, enumV, Nat.zero_add, Nat.reduceAdd, w24, W_seq, w24_0, Nat.le_refl, X_assign, ev_const, Nat.reduceLT, T_set, X_nil, thenQ_normal, w24_1, Mem.next_bump, Nat.le_add_right, bump_bump, X_move, ev_T, lk_cons, Nat.reduceEqDiff, Nat.one_ne_zero, if_false, if_true, X_call ca_27, List.map_cons, List.map_nil, true_and]
  refine CallI.con0 (none_ok (h.bump _)) ?_
  simp only [putT, Nat.reduceLT, T_set, X_nil, thenQ_normal, W_cond, ev_T, lk_cons, Nat.reduceEqDiff, if_false, if_true, CDi_f, W_skip, W_seq, w24_4, Mem.next_bump, Nat.le_add_right, bump_bump, Nat.reduceAdd, X_move, Nat.one_ne_zero, X_nilCheck EE_sym, nilV_ptr, okI_some, X_fieldAddr EE_sym fo_60_1, offV_ptr, Nat.zero_add, X_load EE_sym, load1 lay_58, Mem.get_bump, h1, ld1_cells, h4, X_lookup EE_sym, lk_at, h6, lupC_f, getD_Pv, X_alloc, zero_57, Nat.add_assoc, put_bump, X_store, store1 sz_57, Mem.get_put, cells_agg, st1_cells, List.length_cons, List.length_nil, ofList_n, Nat.le_refl, List.all_cons, oneCell, List.all_nil, Bool.and_self, and_self, w24_5, Mem.next_put, X_call ca_17, List.map_cons, List.map_nil, true_and]
  have hN0 : Nx m (((m.put (m.next + 9) (.cells (Cells.ofList [.int .i64 0, .int .i64 0, .int .u32 0]) true 0)).put (m.next + 9) (.cells ((Cells.ofList [.int .i64 0, .int .i64 0, .int .u32 0]).write 0 [In (at_ L p).1, In (at_ L p).2.1, Um (at_ L p).2.2]) true 0)).bump 15) := ⟨by (try simp only [Mem.next_bump, Mem.next_put]); omega, Fresh.of_low (by have := hm.n64; (try simp only [Mem.next_bump, Mem.next_put]); omega) (by repeat (first | exact Low.of hm (by (try simp only [Mem.next_bump, Mem.next_put]); omega) | refine Low.put ?_ (by (try simp only [Mem.next_bump, Mem.next_put]); omega) | refine Low.bump ?_)), fun y hy => by simp only [Mem.get_bump, Mem.get_put, ne_new hy, if_false]⟩
  obtain ⟨M0, hM0⟩ : ∃ M0, M0 = ((m.put (m.next + 9) (.cells (Cells.ofList [.int .i64 0, .int .i64 0, .int .u32 0]) true 0)).put (m.next + 9) (.cells ((Cells.ofList [.int .i64 0, .int .i64 0, .int .u32 0]).write 0 [In (at_ L p).1, In (at_ L p).2.1, Um (at_ L p).2.2]) true 0)).bump 15 := ⟨_, rfl⟩
  have x1 : M0.get (m.next + 9) = some (.cells ((Cells.ofList [.int .i64 0, .int .i64 0, .int .u32 0]).write 0 [In (at_ L p).1, In (at_ L p).2.1, Um (at_ L p).2.2]) true 0) := by rw [hM0, Mem.get_bump, Mem.get_put, if_pos rfl]
  rw [← hM0] at hN0
  refine CallI.at hM0 ?_
  clear hM0
  have h0 := h.nx hm hN0
  have n0 := hN0.next
  refine CallI.con0 (state_ok h0) ?_
  obtain ⟨ds, k1, k2, k3, k4, k5⟩ := h0.cs
  have fin : ∀ j e, e = mayE L room top p r → RawE m (M0.bump j) (In e) (fun u m' => u = In (mayE L room top p r) ∧ Nx m m') := fun j e he => (hN0.bump j).raw ⟨by rw [he], hN0.bump j⟩
  by_cases f1 : (at_ L p).2.1 = 3
  · have d1 : decide ((at_ L p).2.1 = 3) = true := decide_eq_true f1
    by_cases f2 : r = 0
    · have d2 := decide_eq_true f2
      simp only [putT, Nat.reduceLT, T_set, X_assign, ev_T, lk_cons, Nat.reduceEqDiff, if_false, if_true, X_nil, thenQ_normal, W_seq, W_block, w24_17, w24_6, n0, X_fieldAddr EE_sym fo_57_1, offV_ptr, Nat.zero_add, okI_some, X_load EE_sym, load1 lay_3, Mem.get_bump, x1, ld1_cells, lcm_1, X_eql EE_sym, ev_const, eq_int, d1, X_move, X_guard EE_sym, T_get, GDi_tt, d2, GDi_tf, X_pick EE_sym, pickV_bool, W_cond, CDi_t, w24_8, w24_7, Mem.next_bump, Nat.le_add_right_of_le, bump_bump, Nat.reduceAdd, W_ret, blockQ_ret, thenQ_ret, FinX_ret, resA_tmp, resA_nil, Option.map_some, oneOr1, true_and]
      exact fin _ 0 (if_pos ⟨f1, .inl f2⟩).symm
    · have d2 := decide_eq_false f2
      by_cases f3 : r = (at_ L p).1
      · have d3 := decide_eq_true f3
        simp only [putT, Nat.reduceLT, T_set, X_assign, ev_T, lk_cons, Nat.reduceEqDiff, if_false, if_true, X_nil, thenQ_normal, W_seq, W_block, w24_17, w24_6, n0, X_fieldAddr EE_sym fo_57_1, offV_ptr, Nat.zero_add, okI_some, X_load EE_sym, load1 lay_3, Mem.get_bump, x1, ld1_cells, lcm_1, X_eql EE_sym, ev_const, eq_int, d1, X_move, X_guard EE_sym, T_get, GDi_tt, d2, GDi_ff, X_fieldAddr EE_sym fo_57_0, Nat.add_zero, ofList_n, List.length_cons, List.length_nil, Nat.reduceAdd, nth_write_same, d3, X_pick EE_sym, pickV_bool, Bool.false_eq_true, W_cond, CDi_t, w24_8, w24_7, Mem.next_bump, Nat.le_add_right_of_le, bump_bump, W_ret, blockQ_ret, thenQ_ret, FinX_ret, resA_tmp, resA_nil, Option.map_some, oneOr1, true_and]
        exact fin _ 0 (if_pos ⟨f1, .inr f3⟩).symm
      · have d3 := decide_eq_false f3
        have e4 : mayE L room top p r = 153 := by
          unfold mayE
          rw [if_neg (fun e => e.2.elim f2 f3), if_pos (.inl (by rw [f1]; decide))]
        have d4 : decide ((at_ L p).2.1 = 0) = false := decide_eq_false (by omega)
        simp only [putT, Nat.reduceLT, T_set, X_assign, ev_T, lk_cons, Nat.reduceEqDiff, if_false, if_true, X_nil, thenQ_normal, W_seq, W_block, w24_17, w24_6, n0, X_fieldAddr EE_sym fo_57_1, offV_ptr, Nat.zero_add, okI_some, X_load EE_sym, load1 lay_3, Mem.get_bump, x1, ld1_cells, lcm_1, X_eql EE_sym, ev_const, eq_int, d1, X_move, X_guard EE_sym, T_get, GDi_tt, d2, GDi_ff, X_fieldAddr EE_sym fo_57_0, Nat.add_zero, ofList_n, List.length_cons, List.length_nil, Nat.reduceAdd, nth_write_same, d3, X_pick EE_sym, pickV_bool, Bool.false_eq_true, W_cond, CDi_f, w24_16, w24_9, Mem.next_bump, Nat.le_add_right_of_le, bump_bump, X_neq EE_sym, neq_int, d4, Bool.not_false, GDi_tf, CDi_t, w24_11, w24_10, W_ret, blockQ_ret, thenQ_ret, FinX_ret, resA_tmp, resA_nil, Option.map_some, oneOr1, true_and]
        exact fin _ 153 e4.symm
  · have d1 : decide ((at_ L p).2.1 = 3) = false := decide_eq_false f1
    have e0 : ∀ x, (if (at_ L p).2.1 ≠ 0 ∨ p ≤ top ∨ 65535 < p ∨ (at_ L r).2.1 = 0 ∨ (at_ L r).2.1 = 2 then 153 else if room - (L.length : Int) = 0 then 150 else 0) = x → mayE L room top p r = x := fun x hx => by
      unfold mayE
      rw [if_neg fun e => f1 e.1, hx]
    by_cases f2 : (at_ L p).2.1 = 0
    · have d2 : decide ((at_ L p).2.1 = 0) = true := decide_eq_true f2
      by_cases f3 : p ≤ top
      · have d3 := decide_eq_true f3
        simp only [putT, Nat.reduceLT, T_set, X_assign, ev_T, lk_cons, Nat.reduceEqDiff, if_false, if_true, X_nil, thenQ_normal, W_seq, W_block, w24_17, w24_6, n0, X_fieldAddr EE_sym fo_57_1, offV_ptr, Nat.zero_add, okI_some, X_load EE_sym, load1 lay_3, Mem.get_bump, x1, ld1_cells, lcm_1, X_eql EE_sym, ev_const, eq_int, d1, X_move, X_guard EE_sym, T_get, GDi_ft, GDi_u, X_pick EE_sym, pickV_bool, Bool.false_eq_true, W_cond, CDi_f, w24_16, w24_9, Mem.next_bump, Nat.le_add_right_of_le, bump_bump, Nat.reduceAdd, X_neq EE_sym, neq_int, d2, Bool.not_true, GDi_ff, Nat.one_ne_zero, X_nilCheck EE_sym, nilV_ptr, X_fieldAddr EE_sym fo_60_2, k1, k5, X_bin EE_sym (op := .leq) rfl, bin_leq, d3, GDi_tf, CDi_t, w24_11, w24_10, W_ret, blockQ_ret, thenQ_ret, FinX_ret, resA_tmp, resA_nil, Option.map_some, oneOr1, true_and]
        exact fin _ 153 (e0 _ (if_pos (.inr (.inl f3)))).symm
      · have d3 := decide_eq_false f3
        by_cases f4 : 65535 < p
        · have d4 := decide_eq_true f4
          simp only [putT, Nat.reduceLT, T_set, X_assign, ev_T, lk_cons, Nat.reduceEqDiff, if_false, if_true, X_nil, thenQ_normal, W_seq, W_block, w24_17, w24_6, n0, X_fieldAddr EE_sym fo_57_1, offV_ptr, Nat.zero_add, okI_some, X_load EE_sym, load1 lay_3, Mem.get_bump, x1, ld1_cells, lcm_1, X_eql EE_sym, ev_const, eq_int, d1, X_move, X_guard EE_sym, T_get, GDi_ft, GDi_u, X_pick EE_sym, pickV_bool, Bool.false_eq_true, W_cond, CDi_f, w24_16, w24_9, Mem.next_bump, Nat.le_add_right_of_le, bump_bump, Nat.reduceAdd, X_neq EE_sym, neq_int, d2, Bool.not_true, GDi_ff, Nat.one_ne_zero, X_nilCheck EE_sym, nilV_ptr, X_fieldAddr EE_sym fo_60_2, k1, k5, X_bin EE_sym (op := .leq) rfl, bin_leq, d3, X_bin EE_sym (op := .gtr) rfl, bin_gtr, d4, GDi_tf, CDi_t, w24_11, w24_10, W_ret, blockQ_ret, thenQ_ret, FinX_ret, resA_tmp, resA_nil, Option.map_some, oneOr1, true_and]
          exact fin _ 153 (e0 _ (if_pos (.inr (.inr (.inl f4))))).symm
        · have d4 := decide_eq_false f4
          by_cases f5 : (at_ L r).2.1 = 0
          · have d5 : decide ((at_ L r).2.1 = 0) = true := decide_eq_true f5
            simp only [putT, Nat.reduceLT, T_set, X_assign, ev_T, lk_cons, Nat.reduceEqDiff, if_false, if_true, X_nil, thenQ_normal, W_seq, W_block, w24_17, w24_6, n0, X_fieldAddr EE_sym fo_57_1, offV_ptr, Nat.zero_add, okI_some, X_load EE_sym, load1 lay_3, Mem.get_bump, x1, ld1_cells, lcm_1, X_eql EE_sym, ev_const, eq_int, d1, X_move, X_guard EE_sym, T_get, GDi_ft, GDi_u, X_pick EE_sym, pickV_bool, Bool.false_eq_true, W_cond, CDi_f, w24_16, w24_9, Mem.next_bump, Nat.le_add_right_of_le, bump_bump, Nat.reduceAdd, X_neq EE_sym, neq_int, d2, Bool.not_true, GDi_ff, Nat.one_ne_zero, X_nilCheck EE_sym, nilV_ptr, X_fieldAddr EE_sym fo_60_2, k1, k5, X_bin EE_sym (op := .leq) rfl, bin_leq, d3, X_bin EE_sym (op := .gtr) rfl, bin_gtr, d4, d5, GDi_tf, CDi_t, w24_11, w24_10, W_ret, blockQ_ret, thenQ_ret, FinX_ret, resA_tmp, resA_nil, Option.map_some, oneOr1, true_and]
            exact fin _ 153 (e0 _ (if_pos (.inr (.inr (.inr (.inl f5)))))).symm
          · have d5 : decide ((at_ L r).2.1 = 0) = false := decide_eq_false f5
            by_cases f6 : (at_ L r).2.1 = 2
            · have d6 : decide ((at_ L r).2.1 = 2) = true := decide_eq_true f6
              simp only [putT, Nat.reduceLT, T_set, X_assign, ev_T, lk_cons, Nat.reduceEqDiff, if_false, if_true, X_nil, thenQ_normal, W_seq, W_block, w24_17, w24_6, n0, X_fieldAddr EE_sym fo_57_1, offV_ptr, Nat.zero_add, okI_some, X_load EE_sym, load1 lay_3, Mem.get_bump, x1, ld1_cells, lcm_1, X_eql EE_sym, ev_const, eq_int, d1, X_move, X_guard EE_sym, T_get, GDi_ft, GDi_u, X_pick EE_sym, pickV_bool, Bool.false_eq_true, W_cond, CDi_f, w24_16, w24_9, Mem.next_bump, Nat.le_add_right_of_le, bump_bump, Nat.reduceAdd, X_neq EE_sym, neq_int, d2, Bool.not_true, GDi_ff, Nat.one_ne_zero, X_nilCheck EE_sym, nilV_ptr, X_fieldAddr EE_sym fo_60_2, k1, k5, X_bin EE_sym (op := .leq) rfl, bin_leq, d3, X_bin EE_sym (op := .gtr) rfl, bin_gtr, d4, d5, d6, CDi_t, w24_11, w24_10, W_ret, blockQ_ret, thenQ_ret, FinX_ret, resA_tmp, resA_nil, Option.map_some, oneOr1, true_and]
              exact fin _ 153 (e0 _ (if_pos (.inr (.inr (.inr (.inr f6)))))).symm
            · have d6 : decide ((at_ L r).2.1 = 2) = false := decide_eq_false f6
              simp only [putT, Nat.reduceLT, T_set, X_assign, ev_T, lk_cons, Nat.reduceEqDiff, if_false, if_true, X_nil, thenQ_normal, W_seq, W_block, w24_17, w24_6, n0, X_fieldAddr EE_sym fo_57_1, offV_ptr, Nat.zero_add, okI_some, X_load EE_sym, load1 lay_3, Mem.get_bump, x1, ld1_cells, lcm_1, X_eql EE_sym, ev_const, eq_int, d1, X_move, X_guard EE_sym, T_get, GDi_ft, GDi_u, X_pick EE_sym, pickV_bool, Bool.false_eq_true, W_cond, CDi_f, w24_16, w24_9, Mem.next_bump, Nat.le_add_right_of_le, bump_bump, Nat.reduceAdd, X_neq EE_sym, neq_int, d2, Bool.not_true, GDi_ff, Nat.one_ne_zero, X_nilCheck EE_sym, nilV_ptr, X_fieldAddr EE_sym fo_60_2, k1, k5, X_bin EE_sym (op := .leq) rfl, bin_leq, d3, X_bin EE_sym (op := .gtr) rfl, bin_gtr, d4, d5, d6, w24_15, w24_12, X_call ca_22, List.map_cons, List.map_nil, true_and]
              refine CallI.con0 (free_ok (h0.bump _) hl) ?_
              have hno : ¬ ((at_ L p).2.1 ≠ 0 ∨ p ≤ top ∨ 65535 < p ∨ (at_ L r).2.1 = 0 ∨ (at_ L r).2.1 = 2) := fun e => by
                rcases e with e | e | e | e | e
                · exact e f2
                · exact f3 e
                · exact f4 e
                · exact f5 e
                · exact f6 e
              by_cases f7 : room - (L.length : Int) = 0
              · have d7 := decide_eq_true f7
                simp only [putT, Nat.reduceLT, T_set, X_eql EE_sym, ev_T, lk_cons, Nat.reduceEqDiff, if_false, if_true, ev_const, eq_int, d7, okI_some, X_assign, X_nil, thenQ_normal, W_cond, CDi_t, w24_14, W_seq, w24_13, Mem.next_bump, n0, Nat.le_add_right_of_le, bump_bump, Nat.reduceAdd, W_ret, blockQ_ret, thenQ_ret, FinX_ret, resA_tmp, T_get, resA_nil, Option.map_some, oneOr1, true_and]
                exact fin _ 150 (e0 _ (by rw [if_neg hno, if_pos f7])).symm
              · have d7 := decide_eq_false f7
                simp only [putT, Nat.reduceLT, T_set, X_eql EE_sym, ev_T, lk_cons, Nat.reduceEqDiff, if_false, if_true, ev_const, eq_int, d7, okI_some, X_assign, X_nil, thenQ_normal, W_cond, CDi_f, W_skip, blockQ_normal, W_seq, w24_18, Mem.next_bump, n0, Nat.le_add_right_of_le, bump_bump, Nat.reduceAdd, W_ret, FinX_ret, resA_tmp, T_get, resA_nil, Option.map_some, oneOr1, true_and]
                exact fin _ 0 (e0 _ (by rw [if_neg hno, if_neg f7])).symm
    · have d2 : decide ((at_ L p).2.1 = 0) = false := decide_eq_false f2
      simp only [putT, Nat.reduceLT, T_set, X_assign, ev_T, lk_cons, Nat.reduceEqDiff, if_false, if_true, X_nil, thenQ_normal, W_seq, W_block, w24_17, w24_6, n0, X_fieldAddr EE_sym fo_57_1, offV_ptr, Nat.zero_add, okI_some, X_load EE_sym, load1 lay_3, Mem.get_bump, x1, ld1_cells, lcm_1, X_eql EE_sym, ev_const, eq_int, d1, X_move, X_guard EE_sym, T_get, GDi_ft, GDi_u, X_pick EE_sym, pickV_bool, Bool.false_eq_true, W_cond, CDi_f, w24_16, w24_9, Mem.next_bump, Nat.le_add_right_of_le, bump_bump, Nat.reduceAdd, X_neq EE_sym, neq_int, d2, Bool.not_false, GDi_tf, CDi_t, w24_11, w24_10, W_ret, blockQ_ret, thenQ_ret, FinX_ret, resA_tmp, resA_nil, Option.map_some, oneOr1, true_and]
      exact fin _ 153 (e0 _ (if_pos (.inl f2))).symm
theorem XW_max {E : Env} (hs : ∀ o r, E.sym o r = none) {base i : Nat} {rest : List (Nat × SOp)} {L : List Inst} {t : List Value} {m : Mem} {Q : List Inst → List Value → Mem → Prop} {rt : TypeId} {d : Tmp} {x y : Operand} {ts : Array TypeId} : XW E base ((i, ⟨some d, .call ⟨.builtin .max, #[x, y], ts⟩, rt, none⟩) :: rest) L t m Q ↔ okP (pureA E.P ⟨some d, .call ⟨.builtin .max, #[x, y], ts⟩, rt, none⟩ (ev · t)) fun v => XW E base rest L (t.set d v) m Q := by
  rw [XW_pure rfl rfl, pureE_none hs]
  rfl
theorem X_max {E : Env} (hs : ∀ o r, E.sym o r = none) {base i : Nat} {rest : List (Nat × SOp)} {L : List Inst} {t : List Value} {m : Mem} {K : KI} {rt : TypeId} {d : Tmp} {x y : Operand} {ts : Array TypeId} : XWi E base ((i, ⟨some d, .call ⟨.builtin .max, #[x, y], ts⟩, rt, none⟩) :: rest) L t m (Q := K) = okI (pureA E.P ⟨some d, .call ⟨.builtin .max, #[x, y], ts⟩, rt, none⟩ (ev · t)) (k := ⟨fun v => XWi E base rest L (t.set d v) m (Q := K)⟩) := propext (XW_max hs)
theorem max_v {P : Program} {d rt : Nat} {x y : Operand} {ts : Array TypeId} {f : Operand → Value} {a c : Int} (hx : f x = .int .i64 a) (hy : f y = .int .i64 c) : pureA P ⟨some d, .call ⟨.builtin .max, #[x, y], ts⟩, rt, none⟩ f = some (.int .i64 (max a c)) := by
  unfold pureA
  simp only [List.map_toArray, List.map_cons, List.map_nil, hx, hy]
  rw [if_pos (by rfl)]
  have e : (if c > a then c else a) = max a c := by
    by_cases h : c > a
    · rw [if_pos h]; omega
    · rw [if_neg h]; omega
  rw [← e]
  rfl
theorem FrT.putbt (h : TAt m t b room top L) (hm : Fresh m) (o o' : AObj) (j : Nat) : FrT m (((m.put b o).put t o').bump j) t b := by
  have lt := h.lt hm
  obtain ⟨cs, t1, _⟩ := h.cs
  refine ⟨by simp only [Mem.next_bump, Mem.next_put]; omega, Fresh.of_low (by have := hm.n64; simp only [Mem.next_bump, Mem.next_put]; omega) (fun y hy => ?_), fun y hy y1 y2 => by rw [Mem.get_bump, Mem.get_put, if_neg y1, Mem.get_put, if_neg y2], fun y hy e => ?_⟩
  · simp only [Mem.next_bump, Mem.next_put] at hy
    rw [Mem.get_bump, Mem.get_put, if_neg (by omega), Mem.get_put, if_neg (by omega)]; exact hm.none y (by omega)
  · rw [Mem.get_bump, Mem.get_put, if_neg (fun e2 => by rw [e2, t1] at e; cases e), Mem.get_put, if_neg (fun e2 => by rw [e2, h.mp] at e; cases e), e]
theorem TAt.putbt {L' : TL} {top' : Int} {cs : Cells} (h : TAt m t b room top L) (hm : Fresh m) (t1 : m.get t = some (.cells cs true 0)) (t2 : cs.n = 3) (t3 : cs.nth 0 = some (In room)) (t4 : cs.nth 1 = some (.map (some b))) (j : Nat) : TAt (((m.put b (.map (ml Pv L') true)).put t (.cells (cs.write 2 [In top']) true 0)).bump j) t b room top' L' := by
  have lt := h.lt hm
  exact ⟨⟨_, by rw [Mem.get_bump, Mem.get_put, if_pos rfl], by rw [write_n, t2], by rw [nth_write, if_neg (by omega), t3], by rw [nth_write, if_neg (by omega), t4], nth_write_same (by omega)⟩, by rw [Mem.get_bump, Mem.get_put, if_neg (Ne.symm lt.2.2), Mem.get_put, if_pos rfl], h.rm⟩
/-- What Thaw answers, and leaves. -/
def thawE (L : TL) (room top p r st : Int) (s : BitVec 32) : Int :=
  if (st ≠ 1 ∧ st ≠ 2) ∨ (st = 1 ∧ s ≠ 0#32) ∨ (st = 2 ∧ (kids L p).length ≠ 0) then 2 else mayE L room top p r
def thawL (L : TL) (room top p r st : Int) (s : BitVec 32) : TL := if thawE L room top p r st s = 0 then mset L p (if r = 0 then (at_ L p).1 else r, st, s) else L
def thawT (L : TL) (room top p r st : Int) (s : BitVec 32) : Int := if thawE L room top p r st s = 0 then max top p else top
theorem thaw_ok (h : TAt m t b room top L) (hm : Fresh m) (hw : wfT L) (hl : L.length ≤ 32) : ∃ u m', Con EE.P 19 [PT t, In p, In r, In st, Um s] m u m' ∧ u = In (thawE L room top p r st s) ∧ TAt m' t b room (thawT L room top p r st s) (thawL L room top p r st s) ∧ FrT m m' t b := by
  refine Con.raw EE_ok fn19 (Nat.le_of_ble_eq_true rfl) _ ?_
  have lt := h.lt hm
  have arg : ∀ j, thawE L room top p r st s = 2 → RawE m (m.bump j) (In 2) (fun u m' => u = In (thawE L room top p r st s) ∧ TAt m' t b room (thawT L room top p r st s) (thawL L room top p r st s) ∧ FrT m m' t b) := fun j he => by
    unfold thawT thawL
    rw [he]
    exact (FrT.same (t := t) (b := b) hm _).raw ⟨rfl, h.bump _, FrT.same hm _⟩
  simp only [f19, enumV, Nat.zero_add, Nat.reduceAdd, w19, W_seq, w19_0, Nat.le_refl, X_assign, ev_const, Nat.reduceLT, T_set, X_nil, thenQ_normal, W_block, w19_8, w19_1, Mem.next_bump, Nat.le_add_right, bump_bump, X_move, ev_T, lk_cons, Nat.reduceEqDiff, Nat.one_ne_zero, if_false, if_true, X_call ca_27, List.map_cons, List.map_nil, true_and]
  refine CallI.con0 (none_ok (h.bump _)) ?_
  by_cases f1 : st = 1
  · have d1 := decide_eq_true f1
    have d1' : decide (st = 2) = false := decide_eq_false (by omega)
    by_cases f2 : (s.toNat : Int) = 0
    · have d2 := decide_eq_true f2
      simp only [putT, Nat.reduceLT, T_set, X_assign, ev_T, lk_cons, Nat.reduceEqDiff, if_false, if_true, X_nil, thenQ_normal, W_cond, CDi_f, w19_7, W_seq, w19_4, Mem.next_bump, Nat.le_add_right, bump_bump, Nat.reduceAdd, X_move, X_neq EE_sym, ev_const, neq_int, d1, Bool.not_true, okI_some, X_guard EE_sym, T_get, GDi_ft, X_pick EE_sym, pickV_bool, Bool.false_eq_true, GDi_ff, X_eql EE_sym, eq_int, GDi_tt, d2, d1', W_skip, blockQ_normal, w19_9, Nat.one_ne_zero, X_call ca_24, List.map_cons, List.map_nil, true_and]
      have hE : thawE L room top p r st s = mayE L room top p r := if_neg (by
        rintro (e | e | e)
        · exact e.1 f1
        · exact e.2 (BitVec.eq_of_toNat_eq (by simp only [BitVec.toNat_ofNat]; omega))
        · omega)
      have hN := Nx.refl hm
      have hT := h
      refine CallI.ex2 (may_ok (p := p) (r := r) (hT.bump _) hN.fresh.bump hl) fun u M2 hv => ?_
      obtain ⟨rfl, hn2⟩ := hv
      have hn2 := hn2.of_bump
      have hT2 := hT.nx hN.fresh hn2
      have hM2 := hN.trans hn2
      have n2 := hM2.next
      obtain ⟨cs, t1, t2, t3, t4, t5⟩ := hT2.cs
      have t6 := hT2.mp
      have lt2 := hT2.lt hM2.fresh
      have htb : ¬ b = t := fun e => lt2.2.2 e.symm
      by_cases f7 : mayE L room top p r = 0
      · have d7 := decide_eq_true f7
        have hres : ∀ x, x = (if r = 0 then (at_ L p).1 else r) → ∀ j, RawE m (((M2.put b (.map (ml Pv (mset L p (x, st, s))) true)).put t (.cells (cs.write 2 [In (max top p)]) true 0)).bump j) (In 0) (fun u m' => u = In (thawE L room top p r st s) ∧ TAt m' t b room (thawT L room top p r st s) (thawL L room top p r st s) ∧ FrT m m' t b) := fun x hx j => by
          unfold thawT thawL
          rw [hE, if_pos f7, if_pos f7, f7, ← hx]
          have hF := (FrT.of_nx (t := t) (b := b) hM2).trans (FrT.putbt hT2 hM2.fresh (.map (ml Pv (mset L p (x, st, s))) true) (.cells (cs.write 2 [In (max top p)]) true 0) j)
          exact hF.raw ⟨rfl, TAt.putbt hT2 hM2.fresh t1 t2 t3 t4 j, hF⟩
        by_cases f8 : r = 0
        · have d8 := decide_eq_true f8
          simp only [putT, Nat.reduceLT, T_set, X_assign, ev_T, lk_cons, Nat.reduceEqDiff, if_false, if_true, X_nil, thenQ_normal, W_seq, w19_10, n2, X_move, X_neq EE_sym, ev_const, neq_int, d7, Bool.not_true, okI_some, W_cond, CDi_f, W_skip, w19_13, Mem.next_bump, Nat.le_add_right_of_le, bump_bump, Nat.reduceAdd, X_eql EE_sym, eq_int, d8, CDi_t, w19_15, w19_14, Nat.one_ne_zero, X_nilCheck EE_sym, nilV_ptr, X_fieldAddr EE_sym fo_60_1, offV_ptr, Nat.zero_add, X_load EE_sym, load1 lay_58, Mem.get_bump, t1, ld1_cells, t4, X_lookup EE_sym, lk_at, t6, lupC_f, getD_Pv, X_field EE_sym, true_and]
          rw [fi_0 (y := at_ L p) rfl]
          simp only [okI_some, Nat.reduceLT, T_set, X_assign, ev_T, lk_cons, Nat.reduceEqDiff, if_false, if_true, X_nil, thenQ_normal, W_seq, w19_16, Mem.next_bump, n2, Nat.le_add_right_of_le, bump_bump, Nat.reduceAdd, X_move, Nat.one_ne_zero, X_nilCheck EE_sym, nilV_ptr, X_fieldAddr EE_sym fo_60_1, offV_ptr, Nat.zero_add, X_load EE_sym, load1 lay_58, Mem.get_bump, t1, ld1_cells, t4, X_build EE_sym, List.map_cons, List.map_nil, b57, X_mapUpdate, ms_at, t6, msP, put_bump, w19_17, Mem.next_put, X_fieldAddr EE_sym fo_60_2, load1 lay_3, Mem.get_put, lt2.2.2, t5, X_max EE_sym, true_and]
          rw [max_v (a := top) (c := p) rfl rfl]
          simp only [okI_some, Nat.reduceLT, T_set, X_nilCheck EE_sym, ev_T, lk_cons, Nat.reduceEqDiff, if_false, if_true, nilV_ptr, X_fieldAddr EE_sym fo_60_2, offV_ptr, Nat.zero_add, X_store, store1 sz_3, Mem.get_bump, Mem.get_put, lt2.2.2, t1, cells_int, st1_cells, List.length_cons, List.length_nil, Nat.reduceAdd, t2, Nat.le_refl, List.all_cons, oneCell, List.all_nil, Bool.and_self, and_self, put_bump, X_nil, thenQ_normal, W_seq, w19_18, Mem.next_bump, Mem.next_put, n2, Nat.le_add_right_of_le, bump_bump, X_assign, ev_const, W_ret, FinX_ret, resA_tmp, T_get, resA_nil, Option.map_some, oneOr1, true_and]
          exact hres _ (if_pos f8).symm _
        · have d8 := decide_eq_false f8
          simp only [putT, Nat.reduceLT, T_set, X_assign, ev_T, lk_cons, Nat.reduceEqDiff, if_false, if_true, X_nil, thenQ_normal, W_seq, w19_10, n2, X_move, X_neq EE_sym, ev_const, neq_int, d7, Bool.not_true, okI_some, W_cond, CDi_f, W_skip, w19_13, Mem.next_bump, Nat.le_add_right_of_le, bump_bump, Nat.reduceAdd, X_eql EE_sym, eq_int, d8, w19_16, Nat.one_ne_zero, X_nilCheck EE_sym, nilV_ptr, X_fieldAddr EE_sym fo_60_1, offV_ptr, Nat.zero_add, X_load EE_sym, load1 lay_58, Mem.get_bump, t1, ld1_cells, t4, X_build EE_sym, List.map_cons, List.map_nil, b57, X_mapUpdate, ms_at, t6, msP, put_bump, w19_17, Mem.next_put, X_fieldAddr EE_sym fo_60_2, load1 lay_3, Mem.get_put, lt2.2.2, t5, X_max EE_sym, true_and]
          rw [max_v (a := top) (c := p) rfl rfl]
          simp only [okI_some, Nat.reduceLT, T_set, X_nilCheck EE_sym, ev_T, lk_cons, Nat.reduceEqDiff, if_false, if_true, nilV_ptr, X_fieldAddr EE_sym fo_60_2, offV_ptr, Nat.zero_add, X_store, store1 sz_3, Mem.get_bump, Mem.get_put, lt2.2.2, t1, cells_int, st1_cells, List.length_cons, List.length_nil, Nat.reduceAdd, t2, Nat.le_refl, List.all_cons, oneCell, List.all_nil, Bool.and_self, and_self, put_bump, X_nil, thenQ_normal, W_seq, w19_18, Mem.next_bump, Mem.next_put, n2, Nat.le_add_right_of_le, bump_bump, X_assign, ev_const, W_ret, FinX_ret, resA_tmp, T_get, resA_nil, Option.map_some, oneOr1, true_and]
          exact hres _ (if_neg f8).symm _
      · have d7 := decide_eq_false f7
        simp only [putT, Nat.reduceLT, T_set, X_assign, ev_T, lk_cons, Nat.reduceEqDiff, if_false, if_true, X_nil, thenQ_normal, W_seq, w19_10, n2, X_move, X_neq EE_sym, ev_const, neq_int, d7, Bool.not_false, okI_some, W_cond, CDi_t, w19_12, w19_11, Mem.next_bump, Nat.le_add_right_of_le, bump_bump, Nat.reduceAdd, W_ret, thenQ_ret, FinX_ret, resA_tmp, T_get, resA_nil, Option.map_some, oneOr1, true_and]
        unfold thawT thawL
        rw [hE, if_neg f7, if_neg f7]
        have hF := fun j => (FrT.of_nx (t := t) (b := b) hM2).bump j
        exact (hF _).raw ⟨rfl, hT2.bump _, hF _⟩
    · have d2 := decide_eq_false f2
      simp only [putT, Nat.reduceLT, T_set, X_assign, ev_T, lk_cons, Nat.reduceEqDiff, if_false, if_true, X_nil, thenQ_normal, W_cond, CDi_f, w19_7, W_seq, w19_4, Mem.next_bump, Nat.le_add_right, bump_bump, Nat.reduceAdd, X_move, X_neq EE_sym, ev_const, neq_int, d1, Bool.not_true, okI_some, X_guard EE_sym, T_get, GDi_ft, X_pick EE_sym, pickV_bool, Bool.false_eq_true, GDi_ff, X_eql EE_sym, eq_int, GDi_tt, d2, Bool.not_false, GDi_tf, GDi_u, CDi_t, w19_6, w19_5, W_ret, blockQ_ret, thenQ_ret, FinX_ret, resA_tmp, resA_nil, Option.map_some, oneOr1, true_and]
      exact arg _ (if_pos (.inr (.inl ⟨f1, fun e => f2 (by rw [e]; rfl)⟩)))
  · have d1 := decide_eq_false f1
    by_cases f3 : st = 2
    · have d3 := decide_eq_true f3
      simp only [putT, Nat.reduceLT, T_set, X_assign, ev_T, lk_cons, Nat.reduceEqDiff, if_false, if_true, X_nil, thenQ_normal, W_cond, CDi_f, w19_7, W_seq, w19_4, Mem.next_bump, Nat.le_add_right, bump_bump, Nat.reduceAdd, X_move, X_neq EE_sym, ev_const, neq_int, d1, Bool.not_false, okI_some, X_guard EE_sym, T_get, GDi_tt, d3, Bool.not_true, X_pick EE_sym, pickV_bool, GDi_ff, X_eql EE_sym, eq_int, GDi_ft, Bool.false_eq_true, Nat.one_ne_zero, X_call ca_13, List.map_cons, List.map_nil, true_and]
      refine CallI.ex2 (children_ok (pid := p) (h.bump _) hm.bump hw (by omega)) fun u M1 hk => ?_
      have hk := hk.of_bump
      have hN := hk.nx
      have hT := h.nx hm hN
      have n1 := hN.next
      have hlk : ∀ M, lenA EE.P 33 u M = some (In (kids L p).length) := fun M => hk.sl.lenA und_33
      by_cases f4 : (0 : Int) < ((kids L p).length : Int)
      · have d4 := decide_eq_true f4
        simp only [putT, Nat.reduceLT, T_set, X_guard EE_sym, T_get, lk_cons, Nat.reduceEqDiff, if_false, if_true, GDi_tt, X_len EE_sym, ev_T, hlk, okI_some, X_bin EE_sym (op := .gtr) rfl, ev_const, bin_gtr, d4, GDi_ff, X_pick EE_sym, pickV_bool, Bool.false_eq_true, X_assign, X_nil, thenQ_normal, W_cond, CDi_t, w19_6, W_seq, w19_5, n1, W_ret, blockQ_ret, thenQ_ret, FinX_ret, resA_tmp, resA_nil, Option.map_some, oneOr1, true_and]
        have he : thawE L room top p r st s = 2 := if_pos (.inr (.inr ⟨f3, by omega⟩))
        unfold thawT thawL
        rw [he]
        have hF := fun j => (FrT.of_nx (t := t) (b := b) hN).bump j
        exact (hF _).raw ⟨rfl, hT.bump _, hF _⟩
      · have d4 := decide_eq_false f4
        have hE : thawE L room top p r st s = mayE L room top p r := if_neg (by
          rintro (e | e | e)
          · exact e.2 f3
          · exact f1 e.1
          · exact e.2 (by omega))
        simp only [putT, Nat.reduceLT, T_set, X_guard EE_sym, T_get, lk_cons, Nat.reduceEqDiff, if_false, if_true, GDi_tt, X_len EE_sym, ev_T, hlk, okI_some, X_bin EE_sym (op := .gtr) rfl, ev_const, bin_gtr, d4, GDi_ff, X_pick EE_sym, pickV_bool, Bool.false_eq_true, X_assign, X_nil, thenQ_normal, W_cond, CDi_f, W_skip, blockQ_normal, W_seq, w19_9, n1, X_move, Nat.one_ne_zero, X_call ca_24, List.map_cons, List.map_nil, true_and]
        refine CallI.ex2 (may_ok (p := p) (r := r) (hT.bump _) hN.fresh.bump hl) fun u M2 hv => ?_
        obtain ⟨rfl, hn2⟩ := hv
        have hn2 := hn2.of_bump
        have hT2 := hT.nx hN.fresh hn2
        have hM2 := hN.trans hn2
        have n2 := hM2.next
        obtain ⟨cs, t1, t2, t3, t4, t5⟩ := hT2.cs
        have t6 := hT2.mp
        have lt2 := hT2.lt hM2.fresh
        have htb : ¬ b = t := fun e => lt2.2.2 e.symm
        by_cases f7 : mayE L room top p r = 0
        · have d7 := decide_eq_true f7
          have hres : ∀ x, x = (if r = 0 then (at_ L p).1 else r) → ∀ j, RawE m (((M2.put b (.map (ml Pv (mset L p (x, st, s))) true)).put t (.cells (cs.write 2 [In (max top p)]) true 0)).bump j) (In 0) (fun u m' => u = In (thawE L room top p r st s) ∧ TAt m' t b room (thawT L room top p r st s) (thawL L room top p r st s) ∧ FrT m m' t b) := fun x hx j => by
            unfold thawT thawL
            rw [hE, if_pos f7, if_pos f7, f7, ← hx]
            have hF := (FrT.of_nx (t := t) (b := b) hM2).trans (FrT.putbt hT2 hM2.fresh (.map (ml Pv (mset L p (x, st, s))) true) (.cells (cs.write 2 [In (max top p)]) true 0) j)
            exact hF.raw ⟨rfl, TAt.putbt hT2 hM2.fresh t1 t2 t3 t4 j, hF⟩
          by_cases f8 : r = 0
          · have d8 := decide_eq_true f8
            simp only [putT, Nat.reduceLT, T_set, X_assign, ev_T, lk_cons, Nat.reduceEqDiff, if_false, if_true, X_nil, thenQ_normal, W_seq, w19_10, n2, X_move, X_neq EE_sym, ev_const, neq_int, d7, Bool.not_true, okI_some, W_cond, CDi_f, W_skip, w19_13, Mem.next_bump, Nat.le_add_right_of_le, bump_bump, Nat.reduceAdd, X_eql EE_sym, eq_int, d8, CDi_t, w19_15, w19_14, Nat.one_ne_zero, X_nilCheck EE_sym, nilV_ptr, X_fieldAddr EE_sym fo_60_1, offV_ptr, Nat.zero_add, X_load EE_sym, load1 lay_58, Mem.get_bump, t1, ld1_cells, t4, X_lookup EE_sym, lk_at, t6, lupC_f, getD_Pv, X_field EE_sym, true_and]
            rw [fi_0 (y := at_ L p) rfl]
            simp only [okI_some, Nat.reduceLT, T_set, X_assign, ev_T, lk_cons, Nat.reduceEqDiff, if_false, if_true, X_nil, thenQ_normal, W_seq, w19_16, Mem.next_bump, n2, Nat.le_add_right_of_le, bump_bump, Nat.reduceAdd, X_move, Nat.one_ne_zero, X_nilCheck EE_sym, nilV_ptr, X_fieldAddr EE_sym fo_60_1, offV_ptr, Nat.zero_add, X_load EE_sym, load1 lay_58, Mem.get_bump, t1, ld1_cells, t4, X_build EE_sym, List.map_cons, List.map_nil, b57, X_mapUpdate, ms_at, t6, msP, put_bump, w19_17, Mem.next_put, X_fieldAddr EE_sym fo_60_2, load1 lay_3, Mem.get_put, lt2.2.2, t5, X_max EE_sym, true_and]
            rw [max_v (a := top) (c := p) rfl rfl]
            simp only [okI_some, Nat.reduceLT, T_set, X_nilCheck EE_sym, ev_T, lk_cons, Nat.reduceEqDiff, if_false, if_true, nilV_ptr, X_fieldAddr EE_sym fo_60_2, offV_ptr, Nat.zero_add, X_store, store1 sz_3, Mem.get_bump, Mem.get_put, lt2.2.2, t1, cells_int, st1_cells, List.length_cons, List.length_nil, Nat.reduceAdd, t2, Nat.le_refl, List.all_cons, oneCell, List.all_nil, Bool.and_self, and_self, put_bump, X_nil, thenQ_normal, W_seq, w19_18, Mem.next_bump, Mem.next_put, n2, Nat.le_add_right_of_le, bump_bump, X_assign, ev_const, W_ret, FinX_ret, resA_tmp, T_get, resA_nil, Option.map_some, oneOr1, true_and]
            exact hres _ (if_pos f8).symm _
          · have d8 := decide_eq_false f8
            simp only [putT, Nat.reduceLT, T_set, X_assign, ev_T, lk_cons, Nat.reduceEqDiff, if_false, if_true, X_nil, thenQ_normal, W_seq, w19_10, n2, X_move, X_neq EE_sym, ev_const, neq_int, d7, Bool.not_true, okI_some, W_cond, CDi_f, W_skip, w19_13, Mem.next_bump, Nat.le_add_right_of_le, bump_bump, Nat.reduceAdd, X_eql EE_sym, eq_int, d8, w19_16, Nat.one_ne_zero, X_nilCheck EE_sym, nilV_ptr, X_fieldAddr EE_sym fo_60_1, offV_ptr, Nat.zero_add, X_load EE_sym, load1 lay_58, Mem.get_bump, t1, ld1_cells, t4, X_build EE_sym, List.map_cons, List.map_nil, b57, X_mapUpdate, ms_at, t6, msP, put_bump, w19_17, Mem.next_put, X_fieldAddr EE_sym fo_60_2, load1 lay_3, Mem.get_put, lt2.2.2, t5, X_max EE_sym, true_and]
            rw [max_v (a := top) (c := p) rfl rfl]
            simp only [okI_some, Nat.reduceLT, T_set, X_nilCheck EE_sym, ev_T, lk_cons, Nat.reduceEqDiff, if_false, if_true, nilV_ptr, X_fieldAddr EE_sym fo_60_2, offV_ptr, Nat.zero_add, X_store, store1 sz_3, Mem.get_bump, Mem.get_put, lt2.2.2, t1, cells_int, st1_cells, List.length_cons, List.length_nil, Nat.reduceAdd, t2, Nat.le_refl, List.all_cons, oneCell, List.all_nil, Bool.and_self, and_self, put_bump, X_nil, thenQ_normal, W_seq, w19_18, Mem.next_bump, Mem.next_put, n2, Nat.le_add_right_of_le, bump_bump, X_assign, ev_const, W_ret, FinX_ret, resA_tmp, T_get, resA_nil, Option.map_some, oneOr1, true_and]
            exact hres _ (if_neg f8).symm _
        · have d7 := decide_eq_false f7
          simp only [putT, Nat.reduceLT, T_set, X_assign, ev_T, lk_cons, Nat.reduceEqDiff, if_false, if_true, X_nil, thenQ_normal, W_seq, w19_10, n2, X_move, X_neq EE_sym, ev_const, neq_int, d7, Bool.not_false, okI_some, W_cond, CDi_t, w19_12, w19_11, Mem.next_bump, Nat.le_add_right_of_le, bump_bump, Nat.reduceAdd, W_ret, thenQ_ret, FinX_ret, resA_tmp, T_get, resA_nil, Option.map_some, oneOr1, true_and]
          unfold thawT thawL
          rw [hE, if_neg f7, if_neg f7]
          have hF := fun j => (FrT.of_nx (t := t) (b := b) hM2).bump j
          exact (hF _).raw ⟨rfl, hT2.bump _, hF _⟩
    · have d3 := decide_eq_false f3
      simp only [putT, Nat.reduceLT, T_set, X_assign, ev_T, lk_cons, Nat.reduceEqDiff, if_false, if_true, X_nil, thenQ_normal, W_cond, CDi_f, w19_7, W_seq, w19_4, Mem.next_bump, Nat.le_add_right, bump_bump, Nat.reduceAdd, X_move, X_neq EE_sym, ev_const, neq_int, d1, Bool.not_false, okI_some, X_guard EE_sym, T_get, GDi_tt, d3, X_pick EE_sym, pickV_bool, GDi_tf, GDi_u, CDi_t, w19_6, w19_5, W_ret, blockQ_ret, thenQ_ret, FinX_ret, resA_tmp, resA_nil, Option.map_some, oneOr1, true_and]
      exact arg _ (if_pos (.inl ⟨f1, f3⟩))
end
end
end Go.Ab
