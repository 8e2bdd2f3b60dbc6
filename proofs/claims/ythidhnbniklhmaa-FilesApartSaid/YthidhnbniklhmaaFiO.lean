/- FilesApart: the loop over all numbers. -/
import Derived.Test.YthidhnbniklhmaaFiM
namespace Go.Ab
open Go.Proofs
noncomputable section
set_option maxHeartbeats 4000000
section
variable {m m3 : Mem} {p f dd w v cb tb k : Nat} {cp ct : Cells} {s s' : FS} {left : Int} {drop had : Bool} {Q : Exit → List Value → Mem → Prop}
def apL (p cb k tb : Nat) (had : Bool) (many left : Int) (drop : Bool) (i : Nat) : List (Nat × Value) := [(16, In i), (8, PT p), (9, PT cb), (10, In k), (11, PT tb), (12, .bool had), (13, In many), (15, In left), (2, .bool drop), (7, .bool true)]
theorem wrap_sub1 {x : Int} (h0 : 0 ≤ x) (h1 : x < 4294967296) : IntKind.i64.wrap (x - 1) = x - 1 := wrap_i64 (by omega) (by omega)
theorem apart_loop {n0 : Nat} (hn0 : n0 ≤ m3.next) (hm3 : ∀ y o, m3.get y = some o → y < m3.next) (hk : k < 64) (hp : m3.get p = some (.cells cp true 0)) (hc : PCells cp f dd w v) (hf : FAt m3 f 0 s') (hcb : FAt m3 cb 0 s) (ht : m3.get tb = some (.cells ct true 0))
    (hlo : ∀ i, 0 ≤ s.r i) (hhi : ∀ i, s.r i ≤ 200)
    (hN : had = false → s.r k = 0 ∧ s' = s) (hT : had = true → s.r k ≠ 0 ∧ Turn s s' k left ∧ 0 ≤ left ∧ (drop = true → left = s.r k - 1) ∧ ct.sub 0 2 = some [In (s.p k), .bool (s.w k)])
    (hQ : ∀ M, m3.next ≤ M.next → (∀ y, y < m3.next → M.get y = m3.get y) → Q (.exit 0) (T 146 ((73, .bool false) :: (72, In ((64 : Nat) : Int)) :: apL p cb k tb had (s.r k) left drop 64)) M)
    {t : List Value} (hv : View Sig.none Sig.none n0 none t m3 (T 146 (apL p cb k tb (had) (s.r k) left drop 0)) m3) : WXi EE n0 none (.loop c3_41) t m3 (Q := ⟨Q⟩) := by
  refine WX.loop_of (fun x t M => ∃ i : Nat, i ≤ 64 ∧ x = 64 - i ∧ t = T 146 (apL p cb k tb (had) (s.r k) left drop i) ∧ m3.next ≤ M.next ∧ ∀ y, y < m3.next → M.get y = m3.get y) ?_ (k := 64) hv ⟨0, by omega, rfl, rfl, Nat.le_refl _, fun _ _ => rfl⟩
  rintro x t M ⟨i, hi, rfl, rfl, hnx, old⟩
  have hnz : n0 ≤ M.next := Nat.le_trans hn0 hnx
  unfold apL
  by_cases hi2 : i < 64
  · have g1 : (i : Int) < 64 := by omega
    have hpl := hm3 _ _ hp
    have hfl := hm3 _ _ hf
    have hcl := hm3 _ _ hcb
    have htl := hm3 _ _ ht
    have Mp : M.get p = some (.cells cp true 0) := by rw [old p hpl, hp]
    have Mf : FAt M f 0 s' := by rw [FAt, old f hfl]; exact hf
    have Mc : FAt M cb 0 s := by rw [FAt, old cb hcl]; exact hcb
    have Mt : M.get tb = some (.cells ct true 0) := by rw [old tb htl, ht]
    have p0 := lt_ne (Nat.lt_of_lt_of_le hpl hnx)
    have f0 := lt_ne (Nat.lt_of_lt_of_le hfl hnx)
    have c0 := lt_ne (Nat.lt_of_lt_of_le hcl hnx)
    have t0 := lt_ne (Nat.lt_of_lt_of_le htl hnx)
    have x0 : ∀ a b : Nat, a ≠ b → ¬ M.next + a = M.next + b := fun a b h => by omega
    have hw : IntKind.i64.wrap ((i : Int) + 1) = ((i + 1 : Nat) : Int) := by rw [wrap_i64 (by omega) (by omega)]; omega
    have done : ∀ (M' : Mem) (l : List (Nat × Value)), LK l (apL p cb k tb (had) (s.r k) left drop (i + 1)) → M.next ≤ M'.next → (∀ y, y < M.next → M'.get y = M.get y) →
        ∃ k' t1 m1, k' < 64 - i ∧ View Sig.none Sig.none n0 none (T 146 l) M' t1 m1 ∧ ∃ i : Nat, i ≤ 64 ∧ k' = 64 - i ∧ t1 = T 146 (apL p cb k tb (had) (s.r k) left drop i) ∧ m3.next ≤ m1.next ∧ ∀ y, y < m3.next → m1.get y = m3.get y := fun M' l hl h1 h2 =>
      ⟨64 - (i + 1), _, M', by omega, View.temps hl, i + 1, by omega, rfl, rfl, by omega, fun y hy => by rw [h2 y (by omega), old y hy]⟩
    have same : ∀ (pp : Int) (ww o : Bool), gP s' i = pp → gW s' i = ww → (!decide (s'.r i = 0)) = o → gP s i = pp → gW s i = ww → (!decide (s.r i = 0)) = o → s'.r i = s.r i → (i = k → had = false) → WXi EE n0 none c3_41 (T 146 (apL p cb k tb had (s.r k) left drop i)) M (Q := ⟨roundQ n0 none (fun x t M => ∃ i : Nat, i ≤ 64 ∧ x = 64 - i ∧ t = T 146 (apL p cb k tb had (s.r k) left drop i) ∧ m3.next ≤ M.next ∧ ∀ y, y < m3.next → M.get y = m3.get y) (64 - i) Q⟩) := fun pp ww o a1 a2 a3 b1 b2 b3 h1 h2 => by
      unfold apL
      simp only [w3_41, W_seq, w3_20, hnz, X_move, Nat.reduceLT, ev_T, lk_cons, Nat.reduceEqDiff, if_false, if_true, T_set, X_bin EE_sym (op := .lss) rfl, ev_const, bin_lss, g1, decide_true, okI_some, X_nil, thenQ_normal, W_cond, CDi_t, W_skip, W_block, w3_39, w3_21, Mem.next_bump, Nat.le_add_right_of_le, bump_bump, Nat.reduceAdd, X_nilCheck EE_sym, nilV_ptr, X_fieldAddr EE_sym fo_31_0, offV_ptr, Nat.add_zero, X_load EE_sym, load1 lay_26, Mem.get_bump, Mp, ld1_cells, hc.c0, X_call ca_13, List.map_cons, List.map_nil, true_and]
      refine CallI.con0 (get_r (s := s') (sz := 0) (by simp only [FAt, Mem.get_bump, Mf]) hi2 a1 a2 a3) ?_
      simp only [putT, Nat.reduceLT, T_set, X_move, ev_T, lk_cons, Nat.reduceEqDiff, if_false, if_true, X_extract EE_sym, List.getElem?_toArray, List.getElem?_cons_zero, okI_some, List.getElem?_cons_succ, X_alloc, zero_34, Nat.add_assoc, Nat.reduceAdd, put_bump, X_store, store1 sz_34, Mem.get_bump, Mem.get_put, cells_agg, st1_cells, List.length_cons, List.length_nil, Nat.zero_add, ofList_n, Nat.le_refl, List.all_cons, oneCell, List.all_nil, Bool.and_self, and_self, X_assign, X_nil, thenQ_normal, W_seq, w3_22, Mem.next_bump, Mem.next_put, hnz, Nat.le_add_right_of_le, bump_bump, X_call ca_13, List.map_cons, List.map_nil, true_and]
      refine CallI.con0 (get_r (s := s) (sz := 0) (by simp only [FAt, Mem.get_bump, Mem.get_put, c0, if_false, Mc]) hi2 b1 b2 b3) ?_
      by_cases hik : i = k
      · have e := h2 hik
        subst hik e
        simp only [putT, Nat.reduceLT, T_set, X_move, ev_T, lk_cons, Nat.reduceEqDiff, if_false, if_true, X_extract EE_sym, List.getElem?_toArray, List.getElem?_cons_zero, okI_some, List.getElem?_cons_succ, X_alloc, zero_34, Nat.add_assoc, Nat.reduceAdd, put_bump, X_store, store1 sz_34, Mem.get_bump, Mem.get_put, Nat.add_left_cancel_iff, cells_agg, st1_cells, List.length_cons, List.length_nil, Nat.zero_add, ofList_n, Nat.le_refl, List.all_cons, oneCell, List.all_nil, Bool.and_self, and_self, X_assign, X_nil, thenQ_normal, W_seq, w3_23, Mem.next_bump, Mem.next_put, hnz, Nat.le_add_right_of_le, bump_bump, X_eql EE_sym, eq_int, decide_true, X_guard EE_sym, T_get, GDi_tt, X_pick EE_sym, ev_const, pickV_bool, W_cond, CDi_f, w3_35, w3_32, X_nilCheck EE_sym, nilV_ptr, X_fieldAddr EE_sym fo_31_0, offV_ptr, Nat.add_zero, X_load EE_sym, load1 lay_26, p0, Mp, ld1_cells, hc.c0, X_call ca_14, List.map_cons, List.map_nil, true_and]
        refine CallI.con0 (refs_k (s := s') (sz := 0) (by simp only [FAt, Mem.get_bump, Mem.get_put, f0, if_false, Mf]) hi2) ?_
        simp only [putT, Nat.reduceLT, T_set, X_move, ev_T, lk_cons, Nat.reduceEqDiff, if_false, if_true, X_call ca_14, List.map_cons, List.map_nil]
        refine CallI.con (refs_k (s := s) (sz := 0) (by simp only [FAt, Mem.get_bump, Mem.get_put, c0, if_false, Mc]) hi2) (by simp [h1]) ?_
        simp only [h1, putT, Nat.reduceLT, T_set, X_neq EE_sym, ev_T, lk_cons, Nat.reduceEqDiff, if_false, if_true, neq_int, decide_true, Bool.not_true, okI_some, X_nil, thenQ_normal, W_cond, CDi_f, W_skip, W_seq, w3_36, Mem.next_bump, Mem.next_put, hnz, Nat.le_add_right_of_le, bump_bump, Nat.reduceAdd, X_move, neq4, beq_self_eq_true, X_guard EE_sym, T_get, GDi_ff, X_load EE_sym, loadN lay_34, Mem.get_bump, Mem.get_put, Nat.add_left_cancel_iff, ldN_cells, List.length_cons, List.length_nil, Nat.zero_add, ofList_n, Nat.le_refl, sub_write_same, Option.map_some, neq34, Bool.and_self, X_pick EE_sym, ev_const, pickV_bool, Bool.false_eq_true, blockQ_normal, w3_40, X_bin EE_sym (op := .add) rfl, bin_add, hw, X_assign, roundQ_normal, true_and]
        exact done _ _ ⟨rfl, rfl, rfl, rfl, rfl, rfl, rfl, rfl, rfl, rfl, trivial⟩ (by simp only [Mem.next_bump, Mem.next_put]; omega) (fun y hy => by simp only [Mem.get_bump, Mem.get_put, ne_new hy, ne_new0 hy, if_false])
      · have g3 : ¬ (i : Int) = (k : Int) := by omega
        simp only [putT, Nat.reduceLT, T_set, X_move, ev_T, lk_cons, Nat.reduceEqDiff, if_false, if_true, X_extract EE_sym, List.getElem?_toArray, List.getElem?_cons_zero, okI_some, List.getElem?_cons_succ, X_alloc, zero_34, Nat.add_assoc, Nat.reduceAdd, put_bump, X_store, store1 sz_34, Mem.get_bump, Mem.get_put, Nat.add_left_cancel_iff, cells_agg, st1_cells, List.length_cons, List.length_nil, Nat.zero_add, ofList_n, Nat.le_refl, List.all_cons, oneCell, List.all_nil, Bool.and_self, and_self, X_assign, X_nil, thenQ_normal, W_seq, w3_23, Mem.next_bump, Mem.next_put, hnz, Nat.le_add_right_of_le, bump_bump, X_eql EE_sym, eq_int, g3, decide_false, X_guard EE_sym, T_get, GDi_ft, X_pick EE_sym, ev_const, pickV_bool, Bool.false_eq_true, W_cond, CDi_f, w3_35, w3_32, X_nilCheck EE_sym, nilV_ptr, X_fieldAddr EE_sym fo_31_0, offV_ptr, Nat.add_zero, X_load EE_sym, load1 lay_26, p0, Mp, ld1_cells, hc.c0, X_call ca_14, List.map_cons, List.map_nil, true_and]
        refine CallI.con0 (refs_k (s := s') (sz := 0) (by simp only [FAt, Mem.get_bump, Mem.get_put, f0, if_false, Mf]) hi2) ?_
        simp only [putT, Nat.reduceLT, T_set, X_move, ev_T, lk_cons, Nat.reduceEqDiff, if_false, if_true, X_call ca_14, List.map_cons, List.map_nil]
        refine CallI.con (refs_k (s := s) (sz := 0) (by simp only [FAt, Mem.get_bump, Mem.get_put, c0, if_false, Mc]) hi2) (by simp [h1]) ?_
        simp only [h1, putT, Nat.reduceLT, T_set, X_neq EE_sym, ev_T, lk_cons, Nat.reduceEqDiff, if_false, if_true, neq_int, decide_true, Bool.not_true, okI_some, X_nil, thenQ_normal, W_cond, CDi_f, W_skip, W_seq, w3_36, Mem.next_bump, Mem.next_put, hnz, Nat.le_add_right_of_le, bump_bump, Nat.reduceAdd, X_move, neq4, beq_self_eq_true, X_guard EE_sym, T_get, GDi_ff, X_load EE_sym, loadN lay_34, Mem.get_bump, Mem.get_put, Nat.add_left_cancel_iff, ldN_cells, List.length_cons, List.length_nil, Nat.zero_add, ofList_n, Nat.le_refl, sub_write_same, Option.map_some, neq34, Bool.and_self, X_pick EE_sym, ev_const, pickV_bool, Bool.false_eq_true, blockQ_normal, w3_40, X_bin EE_sym (op := .add) rfl, bin_add, hw, X_assign, roundQ_normal, true_and]
        exact done _ _ ⟨rfl, rfl, rfl, rfl, rfl, rfl, rfl, rfl, rfl, rfl, trivial⟩ (by simp only [Mem.next_bump, Mem.next_put]; omega) (fun y hy => by simp only [Mem.get_bump, Mem.get_put, ne_new hy, ne_new0 hy, if_false])
    by_cases hik : i = k
    · cases had with
      | false =>
        obtain ⟨h1, rfl⟩ := hN rfl
        exact same _ _ _ rfl rfl rfl rfl rfl rfl rfl fun _ => rfl
      | true =>
        subst hik
        obtain ⟨h1, hT, h0, hd, hct⟩ := hT rfl
        have e1 := hlo i
        have e2 := hhi i
        have b1 := gP_t h1
        have b2 := gW_t h1
        have b3 : (!decide (s.r i = 0)) = true := by simpa using h1
        have e3 := hT.at_
        have hw1 : IntKind.i64.wrap (s.r i - 1) = s.r i - 1 := wrap_sub1 e1 (by omega)
        by_cases hl : left = 0
        · subst hl
          have hd1 : drop = true → s.r i - 1 = 0 := fun e => (hd e).symm
          simp only [w3_41, W_seq, w3_20, hnz, X_move, Nat.reduceLT, ev_T, lk_cons, Nat.reduceEqDiff, if_false, if_true, T_set, X_bin EE_sym (op := .lss) rfl, ev_const, bin_lss, g1, decide_true, okI_some, X_nil, thenQ_normal, W_cond, CDi_t, W_skip, W_block, w3_39, w3_21, Mem.next_bump, Nat.le_add_right_of_le, bump_bump, Nat.reduceAdd, X_nilCheck EE_sym, nilV_ptr, X_fieldAddr EE_sym fo_31_0, offV_ptr, Nat.add_zero, X_load EE_sym, load1 lay_26, Mem.get_bump, Mp, ld1_cells, hc.c0, X_call ca_13, List.map_cons, List.map_nil, true_and]
          refine CallI.con0 (get_r (s := s') (sz := 0) (by simp only [FAt, Mem.get_bump, Mf]) hi2 (gP_f e3) (gW_f e3) (by rw [e3])) ?_
          simp only [decide_true, Bool.not_true, putT, Nat.reduceLT, T_set, X_move, ev_T, lk_cons, Nat.reduceEqDiff, if_false, if_true, X_extract EE_sym, List.getElem?_toArray, List.getElem?_cons_zero, okI_some, List.getElem?_cons_succ, X_alloc, zero_34, Nat.add_assoc, Nat.reduceAdd, put_bump, X_store, store1 sz_34, Mem.get_bump, Mem.get_put, cells_agg, st1_cells, List.length_cons, List.length_nil, Nat.zero_add, ofList_n, Nat.le_refl, List.all_cons, oneCell, List.all_nil, Bool.and_self, and_self, X_assign, X_nil, thenQ_normal, W_seq, w3_22, Mem.next_bump, Mem.next_put, hnz, Nat.le_add_right_of_le, bump_bump, X_call ca_13, List.map_cons, List.map_nil, true_and]
          refine CallI.con0 (get_r (s := s) (sz := 0) (by simp only [FAt, Mem.get_bump, Mem.get_put, c0, if_false, Mc]) hi2 b1 b2 b3) ?_
          simp only [putT, Nat.reduceLT, T_set, X_move, ev_T, lk_cons, Nat.reduceEqDiff, if_false, if_true, X_extract EE_sym, List.getElem?_toArray, List.getElem?_cons_zero, okI_some, List.getElem?_cons_succ, X_alloc, zero_34, Nat.add_assoc, Nat.reduceAdd, put_bump, X_store, store1 sz_34, Mem.get_bump, Mem.get_put, Nat.add_left_cancel_iff, cells_agg, st1_cells, List.length_cons, List.length_nil, Nat.zero_add, ofList_n, Nat.le_refl, List.all_cons, oneCell, List.all_nil, Bool.and_self, and_self, X_assign, X_nil, thenQ_normal, W_seq, w3_23, Mem.next_bump, Mem.next_put, hnz, Nat.le_add_right_of_le, bump_bump, X_eql EE_sym, eq_int, decide_true, X_guard EE_sym, T_get, GDi_tt, X_pick EE_sym, ev_const, pickV_bool, W_cond, CDi_t, w3_31, w3_24, X_bin EE_sym (op := .gtr) rfl, bin_gtr, Int.reduceLT, decide_false, w3_25, X_un EE_sym, un_not, Bool.not_false, w3_27, w3_26, X_build EE_sym, List.map_nil, b34, write_n, w3_28, X_nilCheck EE_sym, nilV_ptr, X_fieldAddr EE_sym fo_31_0, offV_ptr, Nat.add_zero, X_load EE_sym, load1 lay_26, p0, Mp, ld1_cells, hc.c0, X_call ca_14, List.map_cons, true_and]
          refine CallI.con0 (refs_k (s := s') (sz := 0) (by simp only [FAt, Mem.get_bump, Mem.get_put, f0, if_false, Mf]) hi2) ?_
          cases drop with
          | false =>
            simp only [e3, putT, Nat.reduceLT, T_set, X_move, ev_T, lk_cons, Nat.reduceEqDiff, if_false, if_true, X_neq EE_sym, neq_int, decide_true, Bool.not_true, okI_some, X_guard EE_sym, T_get, GDi_ff, GDi_ft, X_pick EE_sym, ev_const, pickV_bool, Bool.false_eq_true, X_nil, thenQ_normal, W_cond, CDi_f, W_skip, W_seq, w3_36, Mem.next_bump, Mem.next_put, hnz, Nat.le_add_right_of_le, bump_bump, Nat.reduceAdd, neq4, beq_self_eq_true, X_load EE_sym, loadN lay_34, Mem.get_bump, Mem.get_put, Nat.add_left_cancel_iff, ldN_cells, List.length_cons, List.length_nil, Nat.zero_add, ofList_n, Nat.le_refl, sub_write_same, Option.map_some, write_n, neq34, Bool.and_self, blockQ_normal, w3_40, X_bin EE_sym (op := .add) rfl, bin_add, hw, X_assign, roundQ_normal, true_and]
            exact done _ _ ⟨rfl, rfl, rfl, rfl, rfl, rfl, rfl, rfl, rfl, rfl, trivial⟩ (by simp only [Mem.next_bump, Mem.next_put]; omega) (fun y hy => by simp only [Mem.get_bump, Mem.get_put, ne_new hy, ne_new0 hy, if_false])
          | true =>
            have hd2 := hd1 rfl
            have hw2 : IntKind.i64.wrap 0 = 0 := rfl
            simp only [e3, putT, Nat.reduceLT, T_set, X_move, ev_T, lk_cons, Nat.reduceEqDiff, if_false, if_true, X_neq EE_sym, neq_int, decide_true, Bool.not_true, okI_some, X_guard EE_sym, T_get, GDi_ff, GDi_tt, X_bin EE_sym (op := .sub) rfl, ev_const, bin_sub, hd2, hw2, X_pick EE_sym, pickV_bool, Bool.false_eq_true, GDi_ft, X_nil, thenQ_normal, W_cond, CDi_f, W_skip, W_seq, w3_36, Mem.next_bump, Mem.next_put, hnz, Nat.le_add_right_of_le, bump_bump, Nat.reduceAdd, neq4, beq_self_eq_true, X_load EE_sym, loadN lay_34, Mem.get_bump, Mem.get_put, Nat.add_left_cancel_iff, ldN_cells, List.length_cons, List.length_nil, Nat.zero_add, ofList_n, Nat.le_refl, sub_write_same, Option.map_some, write_n, neq34, Bool.and_self, blockQ_normal, w3_40, X_bin EE_sym (op := .add) rfl, bin_add, hw, X_assign, roundQ_normal, true_and]
            exact done _ _ ⟨rfl, rfl, rfl, rfl, rfl, rfl, rfl, rfl, rfl, rfl, trivial⟩ (by simp only [Mem.next_bump, Mem.next_put]; omega) (fun y hy => by simp only [Mem.get_bump, Mem.get_put, ne_new hy, ne_new0 hy, if_false])
        · have hl0 : 0 < left := by omega
          have e4 : s'.r i ≠ 0 := by rw [e3]; exact hl
          obtain ⟨e5, e6⟩ := hT.x hl
          simp only [w3_41, W_seq, w3_20, hnz, X_move, Nat.reduceLT, ev_T, lk_cons, Nat.reduceEqDiff, if_false, if_true, T_set, X_bin EE_sym (op := .lss) rfl, ev_const, bin_lss, g1, decide_true, okI_some, X_nil, thenQ_normal, W_cond, CDi_t, W_skip, W_block, w3_39, w3_21, Mem.next_bump, Nat.le_add_right_of_le, bump_bump, Nat.reduceAdd, X_nilCheck EE_sym, nilV_ptr, X_fieldAddr EE_sym fo_31_0, offV_ptr, Nat.add_zero, X_load EE_sym, load1 lay_26, Mem.get_bump, Mp, ld1_cells, hc.c0, X_call ca_13, List.map_cons, List.map_nil, true_and]
          refine CallI.con0 (get_r (s := s') (sz := 0) (p := s.p i) (w := s.w i) (o := true) (by simp only [FAt, Mem.get_bump, Mf]) hi2 ((gP_t e4).trans e5) ((gW_t e4).trans e6) (by simpa using e4)) ?_
          simp only [putT, Nat.reduceLT, T_set, X_move, ev_T, lk_cons, Nat.reduceEqDiff, if_false, if_true, X_extract EE_sym, List.getElem?_toArray, List.getElem?_cons_zero, okI_some, List.getElem?_cons_succ, X_alloc, zero_34, Nat.add_assoc, Nat.reduceAdd, put_bump, X_store, store1 sz_34, Mem.get_bump, Mem.get_put, cells_agg, st1_cells, List.length_cons, List.length_nil, Nat.zero_add, ofList_n, Nat.le_refl, List.all_cons, oneCell, List.all_nil, Bool.and_self, and_self, X_assign, X_nil, thenQ_normal, W_seq, w3_22, Mem.next_bump, Mem.next_put, hnz, Nat.le_add_right_of_le, bump_bump, X_call ca_13, List.map_cons, List.map_nil, true_and]
          refine CallI.con0 (get_r (s := s) (sz := 0) (by simp only [FAt, Mem.get_bump, Mem.get_put, c0, if_false, Mc]) hi2 b1 b2 b3) ?_
          simp only [putT, Nat.reduceLT, T_set, X_move, ev_T, lk_cons, Nat.reduceEqDiff, if_false, if_true, X_extract EE_sym, List.getElem?_toArray, List.getElem?_cons_zero, okI_some, List.getElem?_cons_succ, X_alloc, zero_34, Nat.add_assoc, Nat.reduceAdd, put_bump, X_store, store1 sz_34, Mem.get_bump, Mem.get_put, Nat.add_left_cancel_iff, cells_agg, st1_cells, List.length_cons, List.length_nil, Nat.zero_add, ofList_n, Nat.le_refl, List.all_cons, oneCell, List.all_nil, Bool.and_self, and_self, X_assign, X_nil, thenQ_normal, W_seq, w3_23, Mem.next_bump, Mem.next_put, hnz, Nat.le_add_right_of_le, bump_bump, X_eql EE_sym, eq_int, decide_true, X_guard EE_sym, T_get, GDi_tt, X_pick EE_sym, ev_const, pickV_bool, W_cond, CDi_t, w3_31, w3_24, X_bin EE_sym (op := .gtr) rfl, bin_gtr, hl0, w3_25, X_un EE_sym, un_not, Bool.not_true, CDi_f, W_skip, w3_28, X_nilCheck EE_sym, nilV_ptr, X_fieldAddr EE_sym fo_31_0, offV_ptr, Nat.add_zero, X_load EE_sym, load1 lay_26, p0, Mp, ld1_cells, hc.c0, X_call ca_14, List.map_cons, List.map_nil, true_and]
          refine CallI.con0 (refs_k (s := s') (sz := 0) (by simp only [FAt, Mem.get_bump, Mem.get_put, f0, if_false, Mf]) hi2) ?_
          cases drop with
          | false =>
            simp only [e3, putT, Nat.reduceLT, T_set, X_move, ev_T, lk_cons, Nat.reduceEqDiff, if_false, if_true, X_neq EE_sym, neq_int, decide_true, Bool.not_true, okI_some, X_guard EE_sym, T_get, GDi_ff, GDi_ft, X_pick EE_sym, ev_const, pickV_bool, Bool.false_eq_true, GDi_tt, X_load EE_sym, loadN lay_34, Mem.get_bump, Mem.get_put, Nat.add_left_cancel_iff, ldN_cells, List.length_cons, List.length_nil, Nat.zero_add, Nat.reduceAdd, ofList_n, Nat.le_refl, sub_write_same, Option.map_some, t0, Mt, hct, neq34, beq_self_eq_true, Bool.and_self, X_nil, thenQ_normal, W_cond, CDi_f, W_skip, W_seq, w3_36, Mem.next_bump, Mem.next_put, hnz, Nat.le_add_right_of_le, bump_bump, neq4, blockQ_normal, w3_40, X_bin EE_sym (op := .add) rfl, bin_add, hw, X_assign, roundQ_normal, true_and]
            exact done _ _ ⟨rfl, rfl, rfl, rfl, rfl, rfl, rfl, rfl, rfl, rfl, trivial⟩ (by simp only [Mem.next_bump, Mem.next_put]; omega) (fun y hy => by simp only [Mem.get_bump, Mem.get_put, ne_new hy, ne_new0 hy, if_false])
          | true =>
            have hd2 := (hd rfl).symm
            have hw2 : IntKind.i64.wrap left = left := by rw [← hd2]; exact hw1
            simp only [e3, putT, Nat.reduceLT, T_set, X_move, ev_T, lk_cons, Nat.reduceEqDiff, if_false, if_true, X_neq EE_sym, neq_int, decide_true, Bool.not_true, okI_some, X_guard EE_sym, T_get, GDi_ff, GDi_tt, X_bin EE_sym (op := .sub) rfl, ev_const, bin_sub, hd2, hw2, X_pick EE_sym, pickV_bool, Bool.false_eq_true, X_load EE_sym, loadN lay_34, Mem.get_bump, Mem.get_put, Nat.add_left_cancel_iff, ldN_cells, List.length_cons, List.length_nil, Nat.zero_add, Nat.reduceAdd, ofList_n, Nat.le_refl, sub_write_same, Option.map_some, t0, Mt, hct, neq34, beq_self_eq_true, Bool.and_self, X_nil, thenQ_normal, W_cond, CDi_f, W_skip, W_seq, w3_36, Mem.next_bump, Mem.next_put, hnz, Nat.le_add_right_of_le, bump_bump, neq4, blockQ_normal, w3_40, X_bin EE_sym (op := .add) rfl, bin_add, hw, X_assign, roundQ_normal, true_and]
            exact done _ _ ⟨rfl, rfl, rfl, rfl, rfl, rfl, rfl, rfl, rfl, rfl, trivial⟩ (by simp only [Mem.next_bump, Mem.next_put]; omega) (fun y hy => by simp only [Mem.get_bump, Mem.get_put, ne_new hy, ne_new0 hy, if_false])
    · have e : s'.r i = s.r i ∧ s'.p i = s.p i ∧ s'.w i = s.w i := by
        cases had with
        | false => obtain ⟨_, rfl⟩ := hN rfl; exact ⟨rfl, rfl, rfl⟩
        | true => exact (hT rfl).2.1.other i hik
      exact same (gP s i) (gW s i) (!decide (s.r i = 0)) (by unfold gP; rw [e.1, e.2.1]) (by unfold gW; rw [e.1, e.2.2]) (by rw [e.1]) rfl rfl rfl e.1 fun h => absurd h hik
  · have g1 : ¬ (i : Int) < 64 := by omega
    obtain rfl : i = 64 := by omega
    simp only [w3_41, W_seq, w3_20, hnz, X_move, Nat.reduceLT, ev_T, lk_cons, Nat.reduceEqDiff, if_false, if_true, T_set, X_bin EE_sym (op := .lss) rfl, ev_const, bin_lss, g1, decide_false, okI_some, X_nil, Nat.reduceSub, thenQ_normal, W_cond, CDi_f, W_exit, thenQ_exit, roundQ_exit, true_and]
    exact hQ _ (by rw [Mem.next_bump]; omega) (fun y hy => old y hy)
end
end
end Go.Ab
