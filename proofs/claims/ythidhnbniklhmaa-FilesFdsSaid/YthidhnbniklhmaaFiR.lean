/- FilesFds: the loop over all descriptors. -/
import Derived.Test.YthidhnbniklhmaaFiM
import Derived.Test.YthidhnbniklhmaaFiA6
namespace Go.Ab
open Go.Proofs
noncomputable section
set_option maxHeartbeats 4000000
section
variable {m m3 : Mem} {p f dd w v cb lb k : Nat} {cp : Cells} {d d' : Nat → Int} {now : Int} {Q : Exit → List Value → Mem → Prop}
def fdL (p cb k lb : Nat) (now : Int) (many i : Nat) : List (Nat × Value) := [(19, In i), (18, In many), (8, PT p), (9, PT cb), (10, In k), (14, In now), (17, .slice (some ⟨lb, 0, none⟩) 8 8), (7, .bool true)]
theorem fds_loop {n0 : Nat} (hn0 : n0 ≤ m3.next) (hm3 : ∀ y o, m3.get y = some o → y < m3.next) (hk : k < 8) (hp : m3.get p = some (.cells cp true 0)) (hc : PCells cp f dd w v) (hdd : DAt m3 dd 0 d') (hcb : DAt m3 cb 0 d) (hlb : m3.get lb = some (.cells (Cells.ofList (dL d' 8)) true 1))
    (hd : DOk d) (hd' : DOk d') (ho : ∀ i, i ≠ k → d i = d' i) (hnow : now = d' k - 1)
    (hQ : ∀ M, m3.next ≤ M.next → (∀ y, y < m3.next → M.get y = m3.get y) → Q (.exit 0) (T 141 ((90, .bool false) :: (89, In ((8 : Nat) : Int)) :: fdL p cb k lb now (keptL d' 8).length 8)) M)
    {t : List Value} (hv : View Sig.none Sig.none n0 none t m3 (T 141 (fdL p cb k lb now 0 0)) m3) : WXi EE n0 none (.loop c6_42) t m3 (Q := ⟨Q⟩) := by
  subst hnow
  refine WX.loop_of (fun x t M => ∃ i : Nat, i ≤ 8 ∧ x = 8 - i ∧ t = T 141 (fdL p cb k lb (d' k - 1) (keptL d' i).length i) ∧ m3.next ≤ M.next ∧ ∀ y, y < m3.next → M.get y = m3.get y) ?_ (k := 8) hv ⟨0, by omega, rfl, rfl, Nat.le_refl _, fun _ _ => rfl⟩
  rintro x t M ⟨i, hi, rfl, rfl, hnx, old⟩
  have hnz : n0 ≤ M.next := Nat.le_trans hn0 hnx
  unfold fdL
  by_cases hi2 : i < 8
  · have g1 : (i : Int) < 8 := by omega
    have hpl := hm3 _ _ hp
    have hdl := hm3 _ _ hdd
    have hcl := hm3 _ _ hcb
    have hll := hm3 _ _ hlb
    have Mp : M.get p = some (.cells cp true 0) := by rw [old p hpl, hp]
    have Md : DAt M dd 0 d' := by rw [DAt, old dd hdl]; exact hdd
    have Mc : DAt M cb 0 d := by rw [DAt, old cb hcl]; exact hcb
    have Ml : M.get lb = some (.cells (Cells.ofList (dL d' 8)) true 1) := by rw [old lb hll, hlb]
    have hw : IntKind.i64.wrap ((i : Int) + 1) = ((i + 1 : Nat) : Int) := by rw [wrap_i64 (by omega) (by omega)]; omega
    have hml := keptL_len d' i
    have hwm : IntKind.i64.wrap (((keptL d' i).length : Int) + 1) = (((keptL d' i).length + 1 : Nat) : Int) := by rw [wrap_i64 (by omega) (by omega)]; omega
    have gi : ¬ ((8 : Nat) : Int) ≤ (i : Int) := by omega
    have g2 : (0 : Int) ≤ i := by omega
    have g3 : (i : Int) < ((8 : Nat) : Int) := g1
    have g4 := dL_nth d' hi2
    have done : ∀ (M' : Mem) (l : List (Nat × Value)), LK l (fdL p cb k lb (d' k - 1) (keptL d' (i + 1)).length (i + 1)) → M.next ≤ M'.next → (∀ y, y < M.next → M'.get y = M.get y) →
        ∃ k' t1 m1, k' < 8 - i ∧ View Sig.none Sig.none n0 none (T 141 l) M' t1 m1 ∧ ∃ i : Nat, i ≤ 8 ∧ k' = 8 - i ∧ t1 = T 141 (fdL p cb k lb (d' k - 1) (keptL d' i).length i) ∧ m3.next ≤ m1.next ∧ ∀ y, y < m3.next → m1.get y = m3.get y := fun M' l hl h1 h2 =>
      ⟨8 - (i + 1), _, M', by omega, View.temps hl, i + 1, by omega, rfl, rfl, by omega, fun y hy => by rw [h2 y (by omega), old y hy]⟩
    simp only [w6_42, W_seq, w6_29, hnz, X_move, Nat.reduceLT, ev_T, lk_cons, Nat.reduceEqDiff, if_false, if_true, T_set, X_bin EE_sym (op := .lss) rfl, ev_const, bin_lss, g1, decide_true, okI_some, X_nil, thenQ_normal, W_cond, CDi_t, W_skip, W_block, w6_40, w6_30, Mem.next_bump, Nat.le_add_right_of_le, bump_bump, Nat.reduceAdd, X_call ca_23, List.map_cons, List.map_nil, true_and]
    refine CallI.con0 (fd_k (d := d) (sz := 0) (by simp only [DAt, Mem.get_bump, Mc]) hd hi2) ?_
    have hpos := hd' i
    by_cases h0 : d' i = 0
    · have e1 : ¬ 0 ≤ d' i - 1 := by omega
      have e2 : keptL d' (i + 1) = keptL d' i := by rw [keptL_succ, if_neg (by simpa using h0), List.append_nil]
      rw [e2] at done
      by_cases hik : i = k
      · subst hik
        simp only [putT, Nat.reduceLT, T_set, X_assign, ev_T, lk_cons, Nat.reduceEqDiff, if_false, if_true, X_nil, thenQ_normal, W_seq, w6_31, Mem.next_bump, hnz, Nat.le_add_right_of_le, bump_bump, Nat.reduceAdd, X_move, X_eql EE_sym, eq_int, decide_true, okI_some, W_cond, CDi_t, w6_33, w6_32, w6_34, X_bin EE_sym (op := .geq) rfl, ev_const, bin_geq, e1, decide_false, CDi_f, W_skip, w6_37, X_nilCheck EE_sym, nilV_ptr, X_fieldAddr EE_sym fo_31_1, offV_ptr, Nat.zero_add, X_load EE_sym, load1 lay_27, Mem.get_bump, Mp, ld1_cells, hc.c1, X_call ca_23, List.map_cons, List.map_nil, true_and]
        refine CallI.con0 (fd_k (d := d') (sz := 0) (by simp only [DAt, Mem.get_bump, Md]) hd' hi2) ?_
        simp only [putT, Nat.reduceLT, T_set, X_move, ev_T, lk_cons, Nat.reduceEqDiff, if_false, if_true, X_neq EE_sym, neq_int, decide_true, Bool.not_true, okI_some, X_guard EE_sym, T_get, GDi_ff, X_len EE_sym, len_slice und_47, X_bin EE_sym (op := .geq) rfl, bin_geq, gi, decide_false, X_pick EE_sym, ev_const, pickV_bool, Bool.false_eq_true, X_indexAddr EE_sym, g2, g3, idxV_slice und_47 sz_3, Int.toNat_natCast, Nat.mul_one, Nat.zero_add, X_load EE_sym, load1 lay_3, Mem.get_bump, Ml, ld1_cells, g4, X_nil, thenQ_normal, W_cond, CDi_f, W_skip, blockQ_normal, w6_41, Mem.next_bump, hnz, Nat.le_add_right_of_le, bump_bump, Nat.reduceAdd, X_bin EE_sym (op := .add) rfl, bin_add, hw, X_assign, roundQ_normal, true_and]
        refine done _ _ ⟨rfl, rfl, rfl, rfl, rfl, rfl, rfl, rfl, trivial⟩ (by simp only [Mem.next_bump]; omega) (fun y hy => rfl)
      · have g5 : ¬ (i : Int) = (k : Int) := by omega
        have e3 := ho i hik
        simp only [e3, putT, Nat.reduceLT, T_set, X_assign, ev_T, lk_cons, Nat.reduceEqDiff, if_false, if_true, X_nil, thenQ_normal, W_seq, w6_31, Mem.next_bump, hnz, Nat.le_add_right_of_le, bump_bump, Nat.reduceAdd, X_move, X_eql EE_sym, eq_int, g5, decide_false, okI_some, W_cond, CDi_f, W_skip, w6_34, X_bin EE_sym (op := .geq) rfl, ev_const, bin_geq, e1, w6_37, X_nilCheck EE_sym, nilV_ptr, X_fieldAddr EE_sym fo_31_1, offV_ptr, Nat.zero_add, X_load EE_sym, load1 lay_27, Mem.get_bump, Mp, ld1_cells, hc.c1, X_call ca_23, List.map_cons, List.map_nil, true_and]
        refine CallI.con0 (fd_k (d := d') (sz := 0) (by simp only [DAt, Mem.get_bump, Md]) hd' hi2) ?_
        simp only [putT, Nat.reduceLT, T_set, X_move, ev_T, lk_cons, Nat.reduceEqDiff, if_false, if_true, X_neq EE_sym, neq_int, decide_true, Bool.not_true, okI_some, X_guard EE_sym, T_get, GDi_ff, X_len EE_sym, len_slice und_47, X_bin EE_sym (op := .geq) rfl, bin_geq, gi, decide_false, X_pick EE_sym, ev_const, pickV_bool, Bool.false_eq_true, X_indexAddr EE_sym, g2, g3, idxV_slice und_47 sz_3, Int.toNat_natCast, Nat.mul_one, Nat.zero_add, X_load EE_sym, load1 lay_3, Mem.get_bump, Ml, ld1_cells, g4, X_nil, thenQ_normal, W_cond, CDi_f, W_skip, blockQ_normal, w6_41, Mem.next_bump, hnz, Nat.le_add_right_of_le, bump_bump, Nat.reduceAdd, X_bin EE_sym (op := .add) rfl, bin_add, hw, X_assign, roundQ_normal, true_and]
        refine done _ _ ⟨rfl, rfl, rfl, rfl, rfl, rfl, rfl, rfl, trivial⟩ (by simp only [Mem.next_bump]; omega) (fun y hy => rfl)
    · have e1 : 0 ≤ d' i - 1 := by omega
      have e2 : (keptL d' (i + 1)).length = (keptL d' i).length + 1 := by rw [keptL_succ, if_pos h0, List.length_append]; rfl
      rw [e2] at done
      by_cases hik : i = k
      · subst hik
        simp only [putT, Nat.reduceLT, T_set, X_assign, ev_T, lk_cons, Nat.reduceEqDiff, if_false, if_true, X_nil, thenQ_normal, W_seq, w6_31, Mem.next_bump, hnz, Nat.le_add_right_of_le, bump_bump, Nat.reduceAdd, X_move, X_eql EE_sym, eq_int, decide_true, okI_some, W_cond, CDi_t, w6_33, w6_32, w6_34, X_bin EE_sym (op := .geq) rfl, ev_const, bin_geq, e1, w6_36, w6_35, X_bin EE_sym (op := .add) rfl, bin_add, w6_37, X_nilCheck EE_sym, nilV_ptr, X_fieldAddr EE_sym fo_31_1, offV_ptr, Nat.zero_add, X_load EE_sym, load1 lay_27, Mem.get_bump, Mp, ld1_cells, hc.c1, X_call ca_23, List.map_cons, List.map_nil, true_and]
        refine CallI.con0 (fd_k (d := d') (sz := 0) (by simp only [DAt, Mem.get_bump, Md]) hd' hi2) ?_
        simp only [putT, hwm, Nat.reduceLT, T_set, X_move, ev_T, lk_cons, Nat.reduceEqDiff, if_false, if_true, X_neq EE_sym, neq_int, decide_true, Bool.not_true, okI_some, X_guard EE_sym, T_get, GDi_ff, X_len EE_sym, len_slice und_47, X_bin EE_sym (op := .geq) rfl, bin_geq, gi, decide_false, X_pick EE_sym, ev_const, pickV_bool, Bool.false_eq_true, X_indexAddr EE_sym, g2, g3, idxV_slice und_47 sz_3, Int.toNat_natCast, Nat.mul_one, Nat.zero_add, X_load EE_sym, load1 lay_3, Mem.get_bump, Ml, ld1_cells, g4, X_nil, thenQ_normal, W_cond, CDi_f, W_skip, blockQ_normal, w6_41, Mem.next_bump, hnz, Nat.le_add_right_of_le, bump_bump, Nat.reduceAdd, X_bin EE_sym (op := .add) rfl, bin_add, hw, X_assign, roundQ_normal, true_and]
        refine done _ _ ⟨rfl, rfl, rfl, rfl, rfl, rfl, rfl, rfl, trivial⟩ (by simp only [Mem.next_bump]; omega) (fun y hy => rfl)
      · have g5 : ¬ (i : Int) = (k : Int) := by omega
        have e3 := ho i hik
        simp only [e3, putT, Nat.reduceLT, T_set, X_assign, ev_T, lk_cons, Nat.reduceEqDiff, if_false, if_true, X_nil, thenQ_normal, W_seq, w6_31, Mem.next_bump, hnz, Nat.le_add_right_of_le, bump_bump, Nat.reduceAdd, X_move, X_eql EE_sym, eq_int, g5, decide_false, okI_some, W_cond, CDi_f, W_skip, w6_34, X_bin EE_sym (op := .geq) rfl, ev_const, bin_geq, e1, decide_true, CDi_t, w6_36, w6_35, X_bin EE_sym (op := .add) rfl, bin_add, w6_37, X_nilCheck EE_sym, nilV_ptr, X_fieldAddr EE_sym fo_31_1, offV_ptr, Nat.zero_add, X_load EE_sym, load1 lay_27, Mem.get_bump, Mp, ld1_cells, hc.c1, X_call ca_23, List.map_cons, List.map_nil, true_and]
        refine CallI.con0 (fd_k (d := d') (sz := 0) (by simp only [DAt, Mem.get_bump, Md]) hd' hi2) ?_
        simp only [putT, hwm, Nat.reduceLT, T_set, X_move, ev_T, lk_cons, Nat.reduceEqDiff, if_false, if_true, X_neq EE_sym, neq_int, decide_true, Bool.not_true, okI_some, X_guard EE_sym, T_get, GDi_ff, X_len EE_sym, len_slice und_47, X_bin EE_sym (op := .geq) rfl, bin_geq, gi, decide_false, X_pick EE_sym, ev_const, pickV_bool, Bool.false_eq_true, X_indexAddr EE_sym, g2, g3, idxV_slice und_47 sz_3, Int.toNat_natCast, Nat.mul_one, Nat.zero_add, X_load EE_sym, load1 lay_3, Mem.get_bump, Ml, ld1_cells, g4, X_nil, thenQ_normal, W_cond, CDi_f, W_skip, blockQ_normal, w6_41, Mem.next_bump, hnz, Nat.le_add_right_of_le, bump_bump, Nat.reduceAdd, X_bin EE_sym (op := .add) rfl, bin_add, hw, X_assign, roundQ_normal, true_and]
        refine done _ _ ⟨rfl, rfl, rfl, rfl, rfl, rfl, rfl, rfl, trivial⟩ (by simp only [Mem.next_bump]; omega) (fun y hy => rfl)
  · have g1 : ¬ (i : Int) < 8 := by omega
    obtain rfl : i = 8 := by omega
    simp only [w6_42, W_seq, w6_29, hnz, X_move, Nat.reduceLT, ev_T, lk_cons, Nat.reduceEqDiff, if_false, if_true, T_set, X_bin EE_sym (op := .lss) rfl, ev_const, bin_lss, g1, decide_false, okI_some, X_nil, Nat.reduceSub, thenQ_normal, W_cond, CDi_f, W_exit, thenQ_exit, roundQ_exit, true_and]
    exact hQ _ (by rw [Mem.next_bump]; omega) (fun y hy => old y hy)
end
end
end Go.Ab
