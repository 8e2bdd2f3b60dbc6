/- Queue: Place and Move. -/
import Derived.Test.YtikmfccjfhobbaaQuF
namespace Go.Ab
open Go.Proofs
noncomputable section
set_option maxHeartbeats 2000000
section
variable {m : Mem} {b : Nat} {O : Nat → Prop} {sl : Nat → Value} {cs : Cells} {c : Nat} {l : Nat → List Int} {a : BitVec 32} {x k : Int}
theorem QN.of_bump {m' : Mem} {j : Nat} {l' : Nat → List Int} (h : QN (m.bump j) b O c l' m') : QN m b O c l' m' := by
  obtain ⟨sl, cs, hq⟩ := h.at_
  have hn := h.next
  rw [Mem.next_bump] at hn
  refine ⟨by omega, h.fresh, ⟨sl, cs, hq.at_, hq.n, hq.c0, hq.ck, hq.sls, fun k hk y hy => (hq.own k hk y hy).imp id fun e => ⟨by have := e.1; rw [Mem.next_bump] at this; omega, e.2⟩, hq.ob.imp id fun e => ⟨by have := e.1; rw [Mem.next_bump] at this; omega, e.2⟩, hq.ne, hq.c8, hq.c1⟩, fun y hy hO => h.old y (by rw [Mem.next_bump]; omega) hO, fun y hy e => h.low y (by rw [Mem.next_bump]; omega) e⟩
theorem QN.bump {m' : Mem} {l' : Nat → List Int} (h : QN m b O c l' m') (j : Nat) : QN m b O c l' (m'.bump j) := by
  obtain ⟨sl, cs, hq⟩ := h.at_
  exact ⟨by rw [Mem.next_bump]; exact Nat.le_add_right_of_le h.next, h.fresh.bump, ⟨sl, cs, (hq.bump j).ox (by rw [Mem.next_bump]; omega)⟩, h.old, h.low⟩
theorem hOb {j : Nat} (hO : ∀ y, O y → y < m.next) : ∀ y, O y → y < (m.bump j).next := fun y hy => by rw [Mem.next_bump]; have := hO y hy; omega
theorem place_bad (h : QAt m b O sl cs c l) (hx : x < 1) : Con EE.P 10 [PT b, In x, In k, Um a] m (.tuple [In 0, In 2].toArray) m := by
  refine Con.of EE_ok fn10 (Nat.le_of_ble_eq_true rfl) Grow.rfl fun hm => ?_
  have c1 := h.c1
  have q1 : ¬ (c : Int) = 0 := by omega
  simp only [f10, enumV, Nat.zero_add, Nat.reduceAdd, w10, W_seq, w10_0, Nat.le_refl, X_assign, ev_const, Nat.reduceLT, T_set, X_nil, thenQ_normal, W_block, w10_16, w10_1, Mem.next_bump, Nat.le_add_right, bump_bump, X_move, ev_T, lk_cons, Nat.reduceEqDiff, Nat.one_ne_zero, if_false, if_true, X_call ca_29, List.map_cons, List.map_nil, true_and]
  refine CallI.con0 (cores_ok (h.bump _)) ?_
  simp only [putT, Nat.reduceLT, T_set, X_eql EE_sym, ev_T, lk_cons, Nat.reduceEqDiff, if_false, if_true, ev_const, eq_int, q1, decide_false, okI_some, X_assign, X_nil, thenQ_normal, W_cond, CDi_f, w10_15, W_seq, w10_4, Mem.next_bump, Nat.le_add_right, bump_bump, Nat.reduceAdd, X_move, X_bin EE_sym (op := .lss) rfl, bin_lss, hx, decide_true, CDi_t, w10_6, w10_5, W_ret, blockQ_ret, thenQ_ret, FinC_ret, resA_tmp, T_get, resA_nil, Option.map_some, oneOr2, true_and]
  exact TidyE.pure rfl fun _ _ => rfl
theorem place_not (h : QAt m b O sl cs c l) (hs : Short l) (hO : ∀ y, O y → y < m.next) (hx : 1 ≤ x) (hw : 0 ≤ whQ c l x ∨ fewTo l a c < 0) : Con EE.P 10 [PT b, In x, In k, Um a] m (.tuple [In 0, In 130].toArray) m := by
  refine Con.of EE_ok fn10 (Nat.le_of_ble_eq_true rfl) Grow.rfl fun hm => ?_
  have c1 := h.c1
  have q1 : ¬ (c : Int) = 0 := by omega
  have q2 : ¬ x < 1 := by omega
  simp only [f10, enumV, Nat.zero_add, Nat.reduceAdd, w10, W_seq, w10_0, Nat.le_refl, X_assign, ev_const, Nat.reduceLT, T_set, X_nil, thenQ_normal, W_block, w10_16, w10_1, Mem.next_bump, Nat.le_add_right, bump_bump, X_move, ev_T, lk_cons, Nat.reduceEqDiff, Nat.one_ne_zero, if_false, if_true, X_call ca_29, List.map_cons, List.map_nil, true_and]
  refine CallI.con0 (cores_ok (h.bump _)) ?_
  simp only [putT, Nat.reduceLT, T_set, X_eql EE_sym, ev_T, lk_cons, Nat.reduceEqDiff, if_false, if_true, ev_const, eq_int, q1, decide_false, okI_some, X_assign, X_nil, thenQ_normal, W_cond, CDi_f, w10_15, W_seq, w10_4, Mem.next_bump, Nat.le_add_right, bump_bump, Nat.reduceAdd, X_move, X_bin EE_sym (op := .lss) rfl, bin_lss, q2, w10_14, w10_7, Nat.one_ne_zero, X_call ca_16, List.map_cons, List.map_nil, true_and]
  refine CallI.con0 (where_ok (h.bump _) hs) ?_
  by_cases hw0 : 0 ≤ whQ c l x
  · simp only [putT, Nat.reduceLT, T_set, X_bin EE_sym (op := .geq) rfl, ev_T, lk_cons, Nat.reduceEqDiff, if_false, if_true, ev_const, bin_geq, hw0, decide_true, okI_some, X_move, X_guard EE_sym, T_get, GDi_tf, X_pick EE_sym, pickV_bool, X_assign, X_nil, thenQ_normal, W_cond, CDi_t, w10_9, W_seq, w10_8, Mem.next_bump, Nat.le_add_right, bump_bump, Nat.reduceAdd, W_ret, blockQ_ret, thenQ_ret, FinC_ret, resA_tmp, resA_nil, Option.map_some, oneOr2, true_and]
    exact TidyE.pure rfl fun _ _ => rfl
  · have hf : ¬ 0 ≤ fewTo l a c := by omega
    simp only [putT, Nat.reduceLT, T_set, X_bin EE_sym (op := .geq) rfl, ev_T, lk_cons, Nat.reduceEqDiff, if_false, if_true, ev_const, bin_geq, hw0, decide_false, okI_some, X_move, X_guard EE_sym, T_get, GDi_ff, Nat.one_ne_zero, X_call ca_24, List.map_cons, List.map_nil]
    refine CallI.con (may_ok (a := a) (h.bump _) hs (hOb hO)) (by simp) ?_
    simp only [hf, decide_false, putT, Nat.reduceLT, T_set, X_guard EE_sym, T_get, lk_cons, Nat.reduceEqDiff, if_false, if_true, GDi_ff, X_un EE_sym, ev_T, un_not, Bool.not_false, okI_some, X_pick EE_sym, ev_const, pickV_bool, Bool.false_eq_true, X_assign, X_nil, thenQ_normal, W_cond, CDi_t, w10_9, W_seq, w10_8, Mem.next_bump, Nat.le_add_right, bump_bump, Nat.reduceAdd, W_ret, blockQ_ret, thenQ_ret, FinC_ret, resA_tmp, resA_nil, Option.map_some, oneOr2, true_and]
    exact TidyE.pure rfl fun _ _ => rfl
/-- Where a pid is placed. -/
def placeQ (c : Nat) (l : Nat → List Int) (a : BitVec 32) (k : Int) : Nat := if (0 ≤ k ∧ k < c) ∧ mb a k.toNat = true then k.toNat else (fewTo l a c).toNat
theorem placeQ_lt (hf : 0 ≤ fewTo l a c) : placeQ c l a k < c := by
  unfold placeQ
  split
  · omega
  · have := (fewTo_lt (l := l) (a := a) (n := c)).2; omega
theorem place_ok (h : QAt m b O sl cs c l) (hm : Fresh m) (hs : ∀ k, (l k).length < 1073741824) (hO : ∀ y, O y → y < m.next) (hx : 1 ≤ x) (hw : ¬ 0 ≤ whQ c l x) (hf : 0 ≤ fewTo l a c) :
    ∃ v m', Con EE.P 10 [PT b, In x, In k, Um a] m v m' ∧ v = .tuple [In (placeQ c l a k), In 0].toArray ∧ QN m b O c (updL l (placeQ c l a k) (l (placeQ c l a k) ++ [x])) m' := by
  refine Con.raw EE_ok fn10 (Nat.le_of_ble_eq_true rfl) _ ?_
  have hs' : Short l := fun k => by have := hs k; omega
  have c1 := h.c1
  have c8 := h.c8
  have q1 : ¬ (c : Int) = 0 := by omega
  have q2 : ¬ x < 1 := by omega
  simp only [f10, enumV, Nat.zero_add, Nat.reduceAdd, w10, W_seq, w10_0, Nat.le_refl, X_assign, ev_const, Nat.reduceLT, T_set, X_nil, thenQ_normal, W_block, w10_16, w10_1, Mem.next_bump, Nat.le_add_right, bump_bump, X_move, ev_T, lk_cons, Nat.reduceEqDiff, Nat.one_ne_zero, if_false, if_true, X_call ca_29, List.map_cons, List.map_nil, true_and]
  refine CallI.con0 (cores_ok (h.bump _)) ?_
  simp only [putT, Nat.reduceLT, T_set, X_eql EE_sym, ev_T, lk_cons, Nat.reduceEqDiff, if_false, if_true, ev_const, eq_int, q1, decide_false, okI_some, X_assign, X_nil, thenQ_normal, W_cond, CDi_f, w10_15, W_seq, w10_4, Mem.next_bump, Nat.le_add_right, bump_bump, Nat.reduceAdd, X_move, X_bin EE_sym (op := .lss) rfl, bin_lss, q2, w10_14, w10_7, Nat.one_ne_zero, X_call ca_16, List.map_cons, List.map_nil, true_and]
  refine CallI.con0 (where_ok (h.bump _) hs') ?_
  simp only [putT, Nat.reduceLT, T_set, X_bin EE_sym (op := .geq) rfl, ev_T, lk_cons, Nat.reduceEqDiff, if_false, if_true, ev_const, bin_geq, hw, decide_false, okI_some, X_move, X_guard EE_sym, T_get, GDi_ff, Nat.one_ne_zero, X_call ca_24, List.map_cons, List.map_nil]
  refine CallI.con (may_ok (a := a) (h.bump _) hs' (hOb hO)) (by simp) ?_
  simp only [hf, decide_true, putT, Nat.reduceLT, T_set, X_guard EE_sym, T_get, lk_cons, Nat.reduceEqDiff, if_false, if_true, GDi_ff, X_un EE_sym, ev_T, un_not, Bool.not_true, okI_some, X_pick EE_sym, ev_const, pickV_bool, Bool.false_eq_true, X_assign, X_nil, thenQ_normal, W_cond, CDi_f, w10_13, W_seq, w10_10, Mem.next_bump, Nat.le_add_right, bump_bump, Nat.reduceAdd, X_move, Nat.one_ne_zero, X_call ca_30, List.map_cons, List.map_nil, true_and]
  refine CallI.con0 (is_ok (k := k) (h.bump _)) ?_
  by_cases hk : 0 ≤ k ∧ k < c
  · obtain ⟨k', rfl⟩ : ∃ k' : Nat, k = k' := ⟨k.toNat, by omega⟩
    have e1 : (decide (0 ≤ (k' : Int) ∧ (k' : Int) < c)) = true := decide_eq_true hk
    have q3 : (0 : Int) ≤ k' := by omega
    rw [e1]
    cases hb : mb a k' with
    | true =>
      have e2 := mb_t1 hb
      have e3 : placeQ c l a k' = k' := by
        unfold placeQ
        rw [Int.toNat_natCast, if_pos ⟨hk, hb⟩]
      simp only [putT, Nat.reduceLT, T_set, X_move, ev_T, lk_cons, Nat.reduceEqDiff, if_false, if_true, X_guard EE_sym, T_get, GDi_tt, X_bin EE_sym (op := .shr) rfl, q3, bin_shr32, Int.toNat_natCast, okI_some, X_bin EE_sym (op := .and) rfl, ev_const, bin_and1, X_eql EE_sym, eq_int, e2, X_pick EE_sym, pickV_bool, X_assign, X_nil, thenQ_normal, W_cond, CDi_t, w10_12, W_seq, w10_11, Mem.next_bump, Nat.le_add_right, bump_bump, Nat.reduceAdd, Nat.one_ne_zero, X_call ca_31, List.map_cons, List.map_nil, true_and]
      refine CallI.ex2 (put_ok (k := k') (m := m.bump _) (h.bump _) hm.bump (hOb hO) (by omega) (hs k')) fun v m1 hv => ?_
      obtain ⟨rfl, hN⟩ := hv
      rw [e3]
      have n1 := hN.of_bump.next
      simp only [putT, Nat.reduceLT, T_set, X_assign, ev_T, lk_cons, Nat.reduceEqDiff, if_false, if_true, ev_const, X_nil, thenQ_normal, W_ret, blockQ_ret, thenQ_ret, FinX_ret, resA_tmp, T_get, resA_nil, Option.map_some, okI_some, oneOr2]
      exact ⟨⟨hN.of_bump.next, hN.of_bump.low⟩, rfl, hN.of_bump⟩
    | false =>
      have e2 := mb_f1 hb
      have e3 : placeQ c l a k' = (fewTo l a c).toNat := by
        unfold placeQ
        rw [Int.toNat_natCast, if_neg (by rw [hb]; simp)]
      have e4 : In (fewTo l a c) = In ((fewTo l a c).toNat : Nat) := by rw [Int.toNat_of_nonneg hf]
      have e5 := (fewTo_lt (l := l) (a := a) (n := c)).2
      simp only [putT, Nat.reduceLT, T_set, X_move, ev_T, lk_cons, Nat.reduceEqDiff, if_false, if_true, X_guard EE_sym, T_get, GDi_tt, X_bin EE_sym (op := .shr) rfl, q3, bin_shr32, Int.toNat_natCast, okI_some, X_bin EE_sym (op := .and) rfl, ev_const, bin_and1, X_eql EE_sym, eq_int, e2, X_pick EE_sym, pickV_bool, X_assign, X_nil, thenQ_normal, W_cond, CDi_f, W_skip, blockQ_normal, W_seq, w10_17, Mem.next_bump, Nat.le_add_right, bump_bump, Nat.reduceAdd, Nat.one_ne_zero, X_call ca_32, List.map_cons, List.map_nil, true_and]
      refine CallI.con0 (few_ok (a := a) (h.bump _) hs' (hOb hO)) ?_
      rw [e4]
      simp only [putT, Nat.reduceLT, T_set, X_call ca_31, List.map_cons, ev_T, lk_cons, Nat.reduceEqDiff, if_false, if_true, List.map_nil]
      refine CallI.ex2L (put_ok (k := (fewTo l a c).toNat) (m := m.bump _) (h.bump _) hm.bump (hOb hO) (by omega) (hs _)) (by simp) fun v m1 hv => ?_
      obtain ⟨rfl, hN⟩ := hv
      rw [e3]
      have n1 := hN.of_bump.next
      simp only [putT, Nat.reduceLT, T_set, X_assign, ev_T, lk_cons, Nat.reduceEqDiff, if_false, if_true, ev_const, X_nil, thenQ_normal, W_ret, FinX_ret, resA_tmp, T_get, resA_nil, Option.map_some, okI_some, oneOr2]
      exact ⟨⟨hN.of_bump.next, hN.of_bump.low⟩, rfl, hN.of_bump⟩
  · have e1 : (decide (0 ≤ k ∧ k < (c : Int))) = false := decide_eq_false hk
    rw [e1]
    have e3 : placeQ c l a k = (fewTo l a c).toNat := by
      unfold placeQ
      rw [if_neg fun e => hk e.1]
    have e4 : In (fewTo l a c) = In ((fewTo l a c).toNat : Nat) := by rw [Int.toNat_of_nonneg hf]
    have e5 := (fewTo_lt (l := l) (a := a) (n := c)).2
    simp only [putT, Nat.reduceLT, T_set, X_move, ev_T, lk_cons, Nat.reduceEqDiff, if_false, if_true, X_guard EE_sym, T_get, GDi_ft, X_pick EE_sym, ev_const, pickV_bool, Bool.false_eq_true, okI_some, X_assign, X_nil, thenQ_normal, W_cond, CDi_f, W_skip, blockQ_normal, W_seq, w10_17, Mem.next_bump, Nat.le_add_right, bump_bump, Nat.reduceAdd, Nat.one_ne_zero, X_call ca_32, List.map_cons, List.map_nil, true_and]
    refine CallI.con0 (few_ok (a := a) (h.bump _) hs' (hOb hO)) ?_
    rw [e4]
    simp only [putT, Nat.reduceLT, T_set, X_call ca_31, List.map_cons, ev_T, lk_cons, Nat.reduceEqDiff, if_false, if_true, List.map_nil]
    refine CallI.ex2L (put_ok (k := (fewTo l a c).toNat) (m := m.bump _) (h.bump _) hm.bump (hOb hO) (by omega) (hs _)) (by simp) fun v m1 hv => ?_
    obtain ⟨rfl, hN⟩ := hv
    rw [e3]
    have n1 := hN.of_bump.next
    simp only [putT, Nat.reduceLT, T_set, X_assign, ev_T, lk_cons, Nat.reduceEqDiff, if_false, if_true, ev_const, X_nil, thenQ_normal, W_ret, FinX_ret, resA_tmp, T_get, resA_nil, Option.map_some, okI_some, oneOr2]
    exact ⟨⟨hN.of_bump.next, hN.of_bump.low⟩, rfl, hN.of_bump⟩
/-! Move -/
theorem QN.trans {m1 m2 : Mem} {l1 l2 : Nat → List Int} (h : QN m b O c l1 m1) (h2 : QN m1 b (Ox O m m1) c l2 m2) : QN m b O c l2 m2 := by
  obtain ⟨sl, cs, hq⟩ := h2.at_
  have n1 := h.next
  have n2 := h2.next
  have hO : ∀ y, Ox (Ox O m m1) m1 m2 y → Ox O m m2 y := fun y hy => by
    rcases hy with (hy | hy) | hy
    · exact .inl hy
    · exact .inr ⟨hy.1, by omega⟩
    · exact .inr ⟨by omega, hy.2⟩
  refine ⟨by omega, h2.fresh, ⟨sl, cs, hq.at_, hq.n, hq.c0, hq.ck, hq.sls, fun k hk y hy => hO y (hq.own k hk y hy), hO _ hq.ob, hq.ne, hq.c8, hq.c1⟩, fun y hy hyO => ?_, fun y hy e => h2.low y (by omega) (h.low y hy e)⟩
  rw [h2.old y (by omega) fun e => e.elim hyO fun e => by omega, h.old y hy hyO]
theorem Ox.lt {M : Mem} (hO : ∀ y, O y → y < m.next) (hn : m.next ≤ M.next) : ∀ y, Ox O m M y → y < M.next := fun y hy => by
  rcases hy with hy | hy
  · have := hO y hy; omega
  · exact hy.2
theorem move_not (h : QAt m b O sl cs c l) (hs : Short l) (hO : ∀ y, O y → y < m.next) (hw : whQ c l x < 0 ∨ fewTo l a c < 0) : Con EE.P 12 [PT b, In x, Um a] m (.tuple [In 0, In 130].toArray) m := by
  refine Con.of EE_ok fn12 (Nat.le_of_ble_eq_true rfl) Grow.rfl fun hm => ?_
  have c1 := h.c1
  have q1 : ¬ (c : Int) = 0 := by omega
  simp only [f12, enumV, Nat.zero_add, Nat.reduceAdd, w12, W_seq, w12_0, Nat.le_refl, X_assign, ev_const, Nat.reduceLT, T_set, X_nil, thenQ_normal, w12_1, Mem.next_bump, Nat.le_add_right, bump_bump, X_move, ev_T, lk_cons, Nat.reduceEqDiff, Nat.one_ne_zero, if_false, if_true, X_call ca_16, List.map_cons, List.map_nil, true_and]
  refine CallI.con0 (where_ok (h.bump _) hs) ?_
  simp only [putT, Nat.reduceLT, T_set, X_assign, ev_T, lk_cons, Nat.reduceEqDiff, if_false, if_true, X_nil, thenQ_normal, W_seq, W_block, w12_13, w12_2, Mem.next_bump, Nat.le_add_right, bump_bump, Nat.reduceAdd, X_move, Nat.one_ne_zero, X_call ca_29, List.map_cons, List.map_nil, true_and]
  refine CallI.con0 (cores_ok (h.bump _)) ?_
  by_cases hw0 : whQ c l x < 0
  · simp only [putT, Nat.reduceLT, T_set, X_eql EE_sym, ev_T, lk_cons, Nat.reduceEqDiff, if_false, if_true, ev_const, eq_int, q1, decide_false, okI_some, X_assign, X_nil, thenQ_normal, W_cond, CDi_f, w12_12, W_seq, w12_5, Mem.next_bump, Nat.le_add_right, bump_bump, Nat.reduceAdd, X_move, X_bin EE_sym (op := .lss) rfl, bin_lss, hw0, decide_true, X_guard EE_sym, T_get, GDi_tf, X_pick EE_sym, pickV_bool, CDi_t, w12_7, w12_6, W_ret, blockQ_ret, thenQ_ret, FinC_ret, resA_tmp, resA_nil, Option.map_some, oneOr2, true_and]
    exact TidyE.pure rfl fun _ _ => rfl
  · have hf : ¬ 0 ≤ fewTo l a c := by omega
    simp only [putT, Nat.reduceLT, T_set, X_eql EE_sym, ev_T, lk_cons, Nat.reduceEqDiff, if_false, if_true, ev_const, eq_int, q1, decide_false, okI_some, X_assign, X_nil, thenQ_normal, W_cond, CDi_f, w12_12, W_seq, w12_5, Mem.next_bump, Nat.le_add_right, bump_bump, Nat.reduceAdd, X_move, X_bin EE_sym (op := .lss) rfl, bin_lss, hw0, X_guard EE_sym, T_get, GDi_ff, Nat.one_ne_zero, X_call ca_24, List.map_cons, List.map_nil, true_and]
    refine CallI.con0 (may_ok (a := a) (h.bump _) hs (hOb hO)) ?_
    simp only [hf, decide_false, putT, Nat.reduceLT, T_set, X_guard EE_sym, T_get, lk_cons, Nat.reduceEqDiff, if_false, if_true, GDi_ff, X_un EE_sym, ev_T, un_not, Bool.not_false, okI_some, X_pick EE_sym, ev_const, pickV_bool, Bool.false_eq_true, X_assign, X_nil, thenQ_normal, W_cond, CDi_t, w12_7, W_seq, w12_6, Mem.next_bump, Nat.le_add_right, bump_bump, Nat.reduceAdd, W_ret, blockQ_ret, thenQ_ret, FinC_ret, resA_tmp, resA_nil, Option.map_some, oneOr2, true_and]
    exact TidyE.pure rfl fun _ _ => rfl
theorem move_in {w : Nat} (h : QAt m b O sl cs c l) (hs : Short l) (hO : ∀ y, O y → y < m.next) (hw : whQ c l x = w) (hf : 0 ≤ fewTo l a c) (hb : mb a w = true) : Con EE.P 12 [PT b, In x, Um a] m (.tuple [In w, In 0].toArray) m := by
  refine Con.of EE_ok fn12 (Nat.le_of_ble_eq_true rfl) Grow.rfl fun hm => ?_
  have c1 := h.c1
  have q1 : ¬ (c : Int) = 0 := by omega
  have q2 : ¬ (w : Int) < 0 := by omega
  have q3 : (0 : Int) ≤ w := by omega
  have e2 := mb_t1 hb
  simp only [f12, enumV, Nat.zero_add, Nat.reduceAdd, w12, W_seq, w12_0, Nat.le_refl, X_assign, ev_const, Nat.reduceLT, T_set, X_nil, thenQ_normal, w12_1, Mem.next_bump, Nat.le_add_right, bump_bump, X_move, ev_T, lk_cons, Nat.reduceEqDiff, Nat.one_ne_zero, if_false, if_true, X_call ca_16, List.map_cons, List.map_nil, true_and]
  refine CallI.con0 (where_ok (h.bump _) hs) ?_
  rw [hw]
  simp only [putT, Nat.reduceLT, T_set, X_assign, ev_T, lk_cons, Nat.reduceEqDiff, if_false, if_true, X_nil, thenQ_normal, W_seq, W_block, w12_13, w12_2, Mem.next_bump, Nat.le_add_right, bump_bump, Nat.reduceAdd, X_move, Nat.one_ne_zero, X_call ca_29, List.map_cons, List.map_nil, true_and]
  refine CallI.con0 (cores_ok (h.bump _)) ?_
  simp only [putT, Nat.reduceLT, T_set, X_eql EE_sym, ev_T, lk_cons, Nat.reduceEqDiff, if_false, if_true, ev_const, eq_int, q1, decide_false, okI_some, X_assign, X_nil, thenQ_normal, W_cond, CDi_f, w12_12, W_seq, w12_5, Mem.next_bump, Nat.le_add_right, bump_bump, Nat.reduceAdd, X_move, X_bin EE_sym (op := .lss) rfl, bin_lss, q2, X_guard EE_sym, T_get, GDi_ff, Nat.one_ne_zero, X_call ca_24, List.map_cons, List.map_nil, true_and]
  refine CallI.con0 (may_ok (a := a) (h.bump _) hs (hOb hO)) ?_
  simp only [hf, decide_true, putT, Nat.reduceLT, T_set, X_guard EE_sym, T_get, lk_cons, Nat.reduceEqDiff, if_false, if_true, GDi_ff, X_un EE_sym, ev_T, un_not, Bool.not_true, okI_some, X_pick EE_sym, ev_const, pickV_bool, Bool.false_eq_true, X_assign, X_nil, thenQ_normal, W_cond, CDi_f, w12_11, W_seq, w12_8, Mem.next_bump, Nat.le_add_right, bump_bump, Nat.reduceAdd, X_move, X_bin EE_sym (op := .shr) rfl, q3, bin_shr32, Int.toNat_natCast, X_bin EE_sym (op := .and) rfl, bin_and1, X_eql EE_sym, eq_int, e2, CDi_t, w12_10, w12_9, W_ret, blockQ_ret, thenQ_ret, FinC_ret, resA_tmp, resA_nil, Option.map_some, oneOr2, true_and]
  exact TidyE.pure rfl fun _ _ => rfl
def moveL (c : Nat) (l : Nat → List Int) (a : BitVec 32) (x : Int) (w i : Nat) : Nat → List Int := updL (updL l w ((l w).eraseIdx i)) (fewTo (updL l w ((l w).eraseIdx i)) a c).toNat (updL l w ((l w).eraseIdx i) (fewTo (updL l w ((l w).eraseIdx i)) a c).toNat ++ [x])
theorem few_iff {l' : Nat → List Int} : ∀ {n : Nat}, 0 ≤ fewTo l a n ↔ 0 ≤ fewTo l' a n
  | 0 => by unfold fewTo; simp
  | n + 1 => by
    have h := few_iff (l' := l') (n := n)
    rw [fewTo_succ, fewTo_succ]
    unfold fewStep
    by_cases hb : mb a n = true
    · rw [if_pos hb, if_pos hb]
      constructor <;> intro _ <;> (split <;> omega)
    · rw [if_neg hb, if_neg hb]; exact h
theorem move_to {w i : Nat} (h : QAt m b O sl cs c l) (hm : Fresh m) (hs : ∀ k, (l k).length < 1073741824) (hO : ∀ y, O y → y < m.next) (hw8 : w < 8) (hw : whQ c l x = w) (hi : i < (l w).length) (hix : idxL (l w) x = i) (hf : 0 ≤ fewTo l a c) (hb : mb a w = false) :
    ∃ v m', Con EE.P 12 [PT b, In x, Um a] m v m' ∧ v = .tuple [In ((fewTo (updL l w ((l w).eraseIdx i)) a c).toNat : Nat), In 0].toArray ∧ QN m b O c (moveL c l a x w i) m' := by
  refine Con.raw EE_ok fn12 (Nat.le_of_ble_eq_true rfl) _ ?_
  have hs' : Short l := fun k => by have := hs k; omega
  have c1 := h.c1
  have c8 := h.c8
  have q1 : ¬ (c : Int) = 0 := by omega
  have q2 : ¬ (w : Int) < 0 := by omega
  have q3 : (0 : Int) ≤ w := by omega
  have e2 := mb_f1 hb
  simp only [f12, enumV, Nat.zero_add, Nat.reduceAdd, w12, W_seq, w12_0, Nat.le_refl, X_assign, ev_const, Nat.reduceLT, T_set, X_nil, thenQ_normal, w12_1, Mem.next_bump, Nat.le_add_right, bump_bump, X_move, ev_T, lk_cons, Nat.reduceEqDiff, Nat.one_ne_zero, if_false, if_true, X_call ca_16, List.map_cons, List.map_nil, true_and]
  refine CallI.con0 (where_ok (h.bump _) hs') ?_
  rw [hw]
  simp only [putT, Nat.reduceLT, T_set, X_assign, ev_T, lk_cons, Nat.reduceEqDiff, if_false, if_true, X_nil, thenQ_normal, W_seq, W_block, w12_13, w12_2, Mem.next_bump, Nat.le_add_right, bump_bump, Nat.reduceAdd, X_move, Nat.one_ne_zero, X_call ca_29, List.map_cons, List.map_nil, true_and]
  refine CallI.con0 (cores_ok (h.bump _)) ?_
  simp only [putT, Nat.reduceLT, T_set, X_eql EE_sym, ev_T, lk_cons, Nat.reduceEqDiff, if_false, if_true, ev_const, eq_int, q1, decide_false, okI_some, X_assign, X_nil, thenQ_normal, W_cond, CDi_f, w12_12, W_seq, w12_5, Mem.next_bump, Nat.le_add_right, bump_bump, Nat.reduceAdd, X_move, X_bin EE_sym (op := .lss) rfl, bin_lss, q2, X_guard EE_sym, T_get, GDi_ff, Nat.one_ne_zero, X_call ca_24, List.map_cons, List.map_nil, true_and]
  refine CallI.con0 (may_ok (a := a) (h.bump _) hs' (hOb hO)) ?_
  simp only [hf, decide_true, putT, Nat.reduceLT, T_set, X_guard EE_sym, T_get, lk_cons, Nat.reduceEqDiff, if_false, if_true, GDi_ff, X_un EE_sym, ev_T, un_not, Bool.not_true, okI_some, X_pick EE_sym, ev_const, pickV_bool, Bool.false_eq_true, X_assign, X_nil, thenQ_normal, W_cond, CDi_f, w12_11, W_seq, w12_8, Mem.next_bump, Nat.le_add_right, bump_bump, Nat.reduceAdd, X_move, X_bin EE_sym (op := .shr) rfl, q3, bin_shr32, Int.toNat_natCast, X_bin EE_sym (op := .and) rfl, bin_and1, X_eql EE_sym, eq_int, e2, W_skip, blockQ_normal, w12_14, Nat.one_ne_zero, X_call ca_18, List.map_cons, List.map_nil, true_and]
  refine CallI.ex2 (cut_yes (x := x) (m := m.bump _) (h.bump _) hm.bump (hOb hO) hs' hw8 hw hi hix) fun v m1 hv => ?_
  obtain ⟨rfl, hN⟩ := hv
  have hN := hN.of_bump
  have n1 := hN.next
  have f1 := hN.fresh
  obtain ⟨sl1, cs1, h1⟩ := hN.at_
  have hO1 := Ox.lt hO n1
  have hf1 : 0 ≤ fewTo (updL l w ((l w).eraseIdx i)) a c := few_iff.1 hf
  have hs1 : ∀ k, (updL l w ((l w).eraseIdx i) k).length < 1073741824 := fun k => by
    unfold updL
    split
    · have := hs w; rw [List.length_eraseIdx]; split <;> omega
    · exact hs k
  unfold moveL
  generalize updL l w ((l w).eraseIdx i) = l1 at hN h1 hf1 hs1 ⊢
  have e4 : In (fewTo l1 a c) = In ((fewTo l1 a c).toNat : Nat) := by rw [Int.toNat_of_nonneg hf1]
  have e5 := (fewTo_lt (l := l1) (a := a) (n := c)).2
  simp only [putT, Nat.reduceLT, T_set, X_nil, thenQ_normal, W_seq, w12_15, n1, X_move, ev_T, lk_cons, Nat.reduceEqDiff, Nat.one_ne_zero, if_false, if_true, X_call ca_32, List.map_cons, List.map_nil, true_and]
  refine CallI.con0 (few_ok (a := a) (h1.bump _) (fun k => by have := hs1 k; omega) (hOb hO1)) ?_
  rw [e4]
  simp only [putT, Nat.reduceLT, T_set, X_call ca_31, List.map_cons, ev_T, lk_cons, Nat.reduceEqDiff, if_false, if_true, List.map_nil]
  refine CallI.ex2L (put_ok (k := (fewTo l1 a c).toNat) (m := m1.bump _) (h1.bump _) f1.bump (hOb hO1) (by omega) (hs1 _)) (by simp) fun v m2 hv => ?_
  obtain ⟨rfl, hN2⟩ := hv
  have hN3 := hN.trans hN2.of_bump
  have n2 := hN3.next
  simp only [putT, Nat.reduceLT, T_set, X_assign, ev_T, lk_cons, Nat.reduceEqDiff, if_false, if_true, ev_const, X_nil, thenQ_normal, W_ret, FinX_ret, resA_tmp, T_get, resA_nil, Option.map_some, okI_some, oneOr2]
  exact ⟨⟨hN3.next, hN3.low⟩, rfl, hN3⟩
end
end
end Go.Ab
