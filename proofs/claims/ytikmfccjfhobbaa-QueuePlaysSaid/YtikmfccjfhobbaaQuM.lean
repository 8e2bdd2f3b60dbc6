/- Queue: Pick and Rotate. -/
import Derived.Test.YtikmfccjfhobbaaQuL
namespace Go.Ab
open Go.Proofs
noncomputable section
set_option maxHeartbeats 4000000
set_option maxRecDepth 10000
theorem eqvI {n : Int} : EE.eqv (In n) (In n) = true := by
  show vEqL 8 _ _ = true
  simp [vEqL, vEq, vEqN]
section
variable {m : Mem} {b : Nat} {O : Nat → Prop} {sl : Nat → Value} {cs : Cells} {c : Nat} {l : Nat → List Int} {a : BitVec 32} {k : Int}
theorem wrapU {a : BitVec 32} : IntKind.i64.wrap (a.toNat : Int) = (a.toNat : Int) := by have := a.isLt; exact wrap_i64 (by omega) (by omega)
theorem pick_no (h : QAt m b O sl cs c l) (hk : ¬ (0 ≤ k ∧ k < c) ∨ l k.toNat = []) : Con EE.P 13 [PT b, In k, Um a] m (In 0) m := by
  refine Con.of EE_ok fn13 (Nat.le_of_ble_eq_true rfl) Grow.rfl fun hm => ?_
  simp only [f13, enumV, Nat.zero_add, Nat.reduceAdd, w13, W_seq, w13_0, Nat.le_refl, X_assign, ev_const, Nat.reduceLT, T_set, X_nil, thenQ_normal, w13_1, Mem.next_bump, Nat.le_add_right, bump_bump, X_move, ev_T, lk_cons, Nat.reduceEqDiff, Nat.one_ne_zero, if_false, if_true, X_call ca_30, List.map_cons, List.map_nil, true_and]
  refine CallI.con0 (is_ok (k := k) (h.bump _)) ?_
  by_cases h0 : 0 ≤ k ∧ k < c
  · have hl : l k.toNat = [] := by rcases hk with hk | hk; exact absurd h0 hk; exact hk
    obtain ⟨k', rfl⟩ : ∃ k' : Nat, k = k' := ⟨k.toNat, by omega⟩
    rw [Int.toNat_natCast] at hl
    have h8 := h.c8
    have q2 : (0 : Int) ≤ k' := by omega
    have q8 : (k' : Int) < ((8 : Nat) : Int) := by omega
    have q3 := h.ck k' (by omega)
    have hl1 : ∀ M, lenA EE.P 30 (sl k') M = some (In 0) := fun M => by have := (h.sls k' (by omega)).lenA und_30 (m := M); rw [this, hl]; rfl
    have e1 : decide (0 ≤ (k' : Int) ∧ (k' : Int) < c) = true := decide_eq_true h0
    rw [e1]
    simp only [putT, Nat.reduceLT, T_set, X_un EE_sym, ev_T, lk_cons, Nat.reduceEqDiff, if_false, if_true, un_not, Bool.not_true, okI_some, X_move, X_guard EE_sym, T_get, GDi_ff, Nat.one_ne_zero, X_nilCheck EE_sym, nilV_ptr, X_fieldAddr EE_sym fo_57_1, offV_ptr, Nat.zero_add, X_indexAddr EE_sym, q2, q8, idxV_arr und_55 sz_30, Int.toNat_natCast, Nat.mul_one, X_load EE_sym, load1 lay_30, Mem.get_bump, h.at_, ld1_cells, q3, X_len EE_sym, hl1, X_eql EE_sym, ev_const, eq_int, decide_true, X_pick EE_sym, pickV_bool, Bool.false_eq_true, X_nil, thenQ_normal, W_cond, CDi_t, w13_3, W_seq, w13_2, Mem.next_bump, Nat.le_add_right, bump_bump, Nat.reduceAdd, X_assign, W_ret, thenQ_ret, FinC_ret, resA_tmp, resA_nil, Option.map_some, oneOr1, true_and]
    exact TidyE.pure rfl fun _ _ => rfl
  · have e1 : decide (0 ≤ k ∧ k < (c : Int)) = false := decide_eq_false h0
    rw [e1]
    simp only [putT, Nat.reduceLT, T_set, X_un EE_sym, ev_T, lk_cons, Nat.reduceEqDiff, if_false, if_true, un_not, Bool.not_false, okI_some, X_move, X_guard EE_sym, T_get, GDi_tf, X_pick EE_sym, ev_const, pickV_bool, X_nil, thenQ_normal, W_cond, CDi_t, w13_3, W_seq, w13_2, Mem.next_bump, Nat.le_add_right, bump_bump, Nat.reduceAdd, X_assign, W_ret, thenQ_ret, FinC_ret, resA_tmp, resA_nil, Option.map_some, oneOr1, true_and]
    exact TidyE.pure rfl fun _ _ => rfl
theorem tmodn' {b n : Nat} : ((b : Int)).tmod (n : Int) = ((b % n : Nat) : Int) := by
  rw [Int.tmod_eq_emod_of_nonneg (by omega)]; omega
theorem pick_ok {k : Nat} (h : QAt m b O sl cs c l) (hk : k < c) (hl : l k ≠ []) : Con EE.P 13 [PT b, In k, Um a] m (In ((l k).getD (a.toNat % (l k).length) 0)) m := by
  refine Con.of EE_ok fn13 (Nat.le_of_ble_eq_true rfl) Grow.rfl fun hm => ?_
  simp only [f13, enumV, Nat.zero_add, Nat.reduceAdd, w13, W_seq, w13_0, Nat.le_refl, X_assign, ev_const, Nat.reduceLT, T_set, X_nil, thenQ_normal, w13_1, Mem.next_bump, Nat.le_add_right, bump_bump, X_move, ev_T, lk_cons, Nat.reduceEqDiff, Nat.one_ne_zero, if_false, if_true, X_call ca_30, List.map_cons, List.map_nil, true_and]
  refine CallI.con0 (is_ok (k := (k : Int)) (h.bump _)) ?_
  have h8 := h.c8
  have q2 : (0 : Int) ≤ k := by omega
  have q8 : (k : Int) < ((8 : Nat) : Int) := by omega
  have q3 := h.ck k (by omega)
  have hpos : (l k).length ≠ 0 := fun e => hl (List.length_eq_zero_iff.1 e)
  obtain ⟨B, cc, cB, e, k1, k2, k3, k4⟩ := (h.sls k (by omega)).cons hpos
  rw [e] at q3
  have hne : ¬ ((l k).length : Int) = 0 := by omega
  have e1 : decide (0 ≤ (k : Int) ∧ (k : Int) < c) = true := decide_eq_true ⟨q2, by omega⟩
  rw [e1]
  have hlt : a.toNat % (l k).length < (l k).length := Nat.mod_lt _ (by omega)
  have htm := tmodn' (b := a.toNat) (n := (l k).length)
  obtain ⟨i, hi⟩ : ∃ i, i = a.toNat % (l k).length := ⟨_, rfl⟩
  rw [← hi] at hlt htm ⊢
  have g1 : (0 : Int) ≤ i := by omega
  have g2 : (i : Int) < ((l k).length : Int) := by omega
  have q4 : cB.nth i = some (In ((l k).getD i 0)) := by rw [nth_lt (by omega), k4 i (by simpa using hlt), il_getD hlt]
  simp only [putT, Nat.reduceLT, T_set, X_un EE_sym, ev_T, lk_cons, Nat.reduceEqDiff, if_false, if_true, un_not, Bool.not_true, okI_some, X_move, X_guard EE_sym, T_get, GDi_ff, Nat.one_ne_zero, X_nilCheck EE_sym, nilV_ptr, X_fieldAddr EE_sym fo_57_1, offV_ptr, Nat.zero_add, X_indexAddr EE_sym, q2, q8, idxV_arr und_55 sz_30, Int.toNat_natCast, Nat.mul_one, X_load EE_sym, load1 lay_30, Mem.get_bump, h.at_, ld1_cells, q3, X_len EE_sym, len_slice und_30, X_eql EE_sym, ev_const, eq_int, hne, decide_false, X_pick EE_sym, pickV_bool, Bool.false_eq_true, X_nil, thenQ_normal, W_cond, CDi_f, W_skip, W_seq, w13_4, Mem.next_bump, Nat.le_add_right, bump_bump, Nat.reduceAdd, X_convert EE_sym, conv_int und_3 und_29, wrapU, X_bin EE_sym (op := .rem) rfl, bin_rem hne, htm, g1, g2, idxV_slice und_30 sz_3, load1 lay_3, k1, q4, X_assign, W_ret, FinC_ret, resA_tmp, resA_nil, Option.map_some, oneOr1, true_and]
  exact TidyE.pure rfl fun _ _ => rfl
theorem rot_no (h : QAt m b O sl cs c l) (hk : ¬ (0 ≤ k ∧ k < c) ∨ (l k.toNat).length < 2) : Con EE.P 14 [PT b, In k] m (.bool false) m := by
  refine Con.of EE_ok fn14 (Nat.le_of_ble_eq_true rfl) Grow.rfl fun hm => ?_
  simp only [f14, enumV, Nat.zero_add, w14, W_seq, w14_0, Nat.le_refl, X_assign, ev_const, Nat.reduceLT, T_set, X_nil, thenQ_normal, w14_1, Mem.next_bump, Nat.le_add_right, bump_bump, Nat.reduceAdd, X_move, ev_T, lk_cons, Nat.reduceEqDiff, Nat.one_ne_zero, if_false, if_true, X_call ca_30, List.map_cons, List.map_nil, true_and]
  refine CallI.con0 (is_ok (k := k) (h.bump _)) ?_
  by_cases h0 : 0 ≤ k ∧ k < c
  · have hl : (l k.toNat).length < 2 := by rcases hk with hk | hk; exact absurd h0 hk; exact hk
    obtain ⟨k', rfl⟩ : ∃ k' : Nat, k = k' := ⟨k.toNat, by omega⟩
    rw [Int.toNat_natCast] at hl
    have h8 := h.c8
    have q2 : (0 : Int) ≤ k' := by omega
    have q8 : (k' : Int) < ((8 : Nat) : Int) := by omega
    have q3 := h.ck k' (by omega)
    have hl1 : ∀ M, lenA EE.P 30 (sl k') M = some (In (l k').length) := fun M => (h.sls k' (by omega)).lenA und_30
    have hl2 : ((l k').length : Int) < 2 := by omega
    have e1 : decide (0 ≤ (k' : Int) ∧ (k' : Int) < c) = true := decide_eq_true h0
    rw [e1]
    simp only [putT, Nat.reduceLT, T_set, X_un EE_sym, ev_T, lk_cons, Nat.reduceEqDiff, if_false, if_true, un_not, Bool.not_true, okI_some, X_move, X_guard EE_sym, T_get, GDi_ff, Nat.one_ne_zero, X_nilCheck EE_sym, nilV_ptr, X_fieldAddr EE_sym fo_57_1, offV_ptr, Nat.zero_add, X_indexAddr EE_sym, q2, q8, idxV_arr und_55 sz_30, Int.toNat_natCast, Nat.mul_one, X_load EE_sym, load1 lay_30, Mem.get_bump, h.at_, ld1_cells, q3, X_len EE_sym, hl1, X_bin EE_sym (op := .lss) rfl, ev_const, bin_lss, hl2, decide_true, X_pick EE_sym, pickV_bool, Bool.false_eq_true, X_nil, thenQ_normal, W_cond, CDi_t, w14_3, W_seq, w14_2, Mem.next_bump, Nat.le_add_right, bump_bump, Nat.reduceAdd, X_assign, W_ret, thenQ_ret, FinC_ret, resA_tmp, resA_nil, Option.map_some, oneOr1, true_and]
    exact TidyE.pure rfl fun _ _ => rfl
  · have e1 : decide (0 ≤ k ∧ k < (c : Int)) = false := decide_eq_false h0
    rw [e1]
    simp only [putT, Nat.reduceLT, T_set, X_un EE_sym, ev_T, lk_cons, Nat.reduceEqDiff, if_false, if_true, un_not, Bool.not_false, okI_some, X_move, X_guard EE_sym, T_get, GDi_tf, X_pick EE_sym, ev_const, pickV_bool, X_nil, thenQ_normal, W_cond, CDi_t, w14_3, W_seq, w14_2, Mem.next_bump, Nat.le_add_right, bump_bump, Nat.reduceAdd, X_assign, W_ret, thenQ_ret, FinC_ret, resA_tmp, resA_nil, Option.map_some, oneOr1, true_and]
    exact TidyE.pure rfl fun _ _ => rfl
/-- A copy of a part. -/
theorem clone_src {b o n cc : Nat} {k : List Int} (hm : Fresh m) (hb : b < m.next) (hsrc : ∀ M, M.get b = m.get b → srcA 1 (.slice (some ⟨b, o, none⟩) n cc) M = some (il k, k.length)) (h0 : k.length ≠ 0) (hl : k.length < 1073741824) :
    ∃ v' m', Con EE.P 33 [.slice (some ⟨b, o, none⟩) n cc] m v' m' ∧ NewL m m' v' k := by
  refine Con.raw EE_ok fn33 (Nat.le_of_ble_eq_true rfl) _ ?_
  simp only [f33, enumV, w33, W_seq, w33_0, Nat.le_refl, X_assign, ev_const, Nat.reduceLT, T_set, X_nil, thenQ_normal, w33_1, Mem.next_bump, Nat.le_add_right, bump_bump, Nat.reduceAdd, X_move, ev_T, lk_cons, Nat.reduceEqDiff, if_true, if_false, X_eql EE_sym, eq_sl_nil, okI_some, W_cond, CDi_f, W_skip, w33_4, X_bs, List.map_nil, bs0, Nat.add_zero, put_bump, X_append, Nat.add_assoc, true_and]
  have hone := il_one k
  refine okI_app eo30 (n := 0) (fl := []) (k := k.length) (new := il k) ⟨by simp, .inr ⟨_, 0, Cells.ofList [], rfl, by simp only [Mem.get_bump, Mem.get_put, if_true], by simp [ofList_n], Nat.le_refl _, by simp⟩⟩ (hsrc _ (by simp only [Mem.get_bump, Mem.get_put]; rw [if_neg (by omega)])) h0 (by simp) hone (.inr fun _ _ e => by cases e; rfl) ⟨by omega, by omega⟩ fun v' M' hA => ?_
  have n1 := hA.next
  simp only [Mem.next_bump, Mem.next_put] at n1
  have n2 : m.next ≤ M'.next := by omega
  simp only [Nat.reduceLT, T_set, X_assign, ev_T, lk_cons, Nat.reduceEqDiff, if_false, if_true, X_nil, thenQ_normal, W_ret, FinX_ret, resA_tmp, T_get, resA_nil, Option.map_some, okI_some, oneOr1]
  have hold : ∀ y, y < m.next → M'.get y = m.get y := fun y hy => by
    rw [hA.old y (by omega) (fun e => by have e : m.next + 3 = y := Option.some.inj e; omega)]
    simp only [Mem.get_bump, Mem.get_put, lt_ne hy, if_false]
  have hn : Nx m M' := ⟨n2, Fresh.of_low (by have := hm.n64; omega) fun y hy => hA.low y (by omega) (by simp only [Mem.get_bump, Mem.get_put, show ¬ y = m.next + 3 by omega, if_false]; exact hm.none y (by omega)), hold⟩
  have hs : SlI M' v' k := by simpa only [SlI, Nat.zero_add, List.nil_append] using hA.sl
  refine ⟨⟨hn.next, fun y hy e => by rw [hn.old y hy, e]⟩, hs, hn, fun y hy => ?_⟩
  rcases hA.blk with ⟨h1, _⟩ | h1
  · rw [h1] at hy; cases hy; show m.next ≤ m.next + 3; omega
  · rw [h1] at hy; cases hy; omega
theorem rot_ok {k : Nat} (h : QAt m b O sl cs c l) (hm : Fresh m) (hO : ∀ y, O y → y < m.next) (hk : k < c) (hl : 2 ≤ (l k).length) (hl2 : (l k).length < 1073741824) :
    ∃ v m', Con EE.P 14 [PT b, In k] m v m' ∧ v = .bool true ∧ QN m b O c (updL l k ((l k).drop 1 ++ [(l k).getD 0 0])) m' := by
  refine Con.raw EE_ok fn14 (Nat.le_of_ble_eq_true rfl) _ ?_
  have h8 := h.c8
  have hk8 : k < 8 := by omega
  have hb := hm.lt h.at_
  have q2 : (0 : Int) ≤ k := by omega
  have q8 : (k : Int) < ((8 : Nat) : Int) := by omega
  have q3 := h.ck k hk8
  have hl1 : ∀ M, lenA EE.P 30 (sl k) M = some (In (l k).length) := fun M => (h.sls k hk8).lenA und_30
  have hl3 : ¬ ((l k).length : Int) < 2 := by omega
  have e1 : decide (0 ≤ (k : Int) ∧ (k : Int) < c) = true := decide_eq_true ⟨q2, by omega⟩
  simp only [f14, enumV, Nat.zero_add, w14, W_seq, w14_0, Nat.le_refl, X_assign, ev_const, Nat.reduceLT, T_set, X_nil, thenQ_normal, w14_1, Mem.next_bump, Nat.le_add_right, bump_bump, Nat.reduceAdd, X_move, ev_T, lk_cons, Nat.reduceEqDiff, Nat.one_ne_zero, if_false, if_true, X_call ca_30, List.map_cons, List.map_nil, true_and]
  refine CallI.con0 (is_ok (k := (k : Int)) (h.bump _)) ?_
  rw [e1]
  obtain ⟨B, cc, cB, e, k1, k2, k3, k4⟩ := (h.sls k hk8).cons (by omega)
  rw [Nat.mul_one] at k2
  rw [e] at q3 hl1
  have hlo := slice_lo (P := EE.P) (b := B) (o := 0) (n := (l k).length) (c := cc) (k := .i64) (x := 1) und_30 sz_3 (by decide) (by show 1 ≤ _; omega) (by show 1 < cc; omega) k3
  have hlo' : sliceA EE.P 30 (.slice (some ⟨B, 0, none⟩) (l k).length cc) (some (In 1)) none = some (.slice (some ⟨B, 1, none⟩) ((l k).length - 1) (cc - 1)) := hlo
  have hBl := hm.lt k1
  have hdl : ((l k).drop 1).length = (l k).length - 1 := by rw [List.length_drop]
  simp only [putT, Nat.reduceLT, T_set, X_un EE_sym, ev_T, lk_cons, Nat.reduceEqDiff, if_false, if_true, un_not, Bool.not_true, okI_some, X_move, X_guard EE_sym, T_get, GDi_ff, Nat.one_ne_zero, X_nilCheck EE_sym, nilV_ptr, X_fieldAddr EE_sym fo_57_1, offV_ptr, Nat.zero_add, X_indexAddr EE_sym, q2, q8, idxV_arr und_55 sz_30, Int.toNat_natCast, Nat.mul_one, X_load EE_sym, load1 lay_30, Mem.get_bump, h.at_, ld1_cells, q3, X_len EE_sym, len_slice und_30, X_bin EE_sym (op := .lss) rfl, ev_const, bin_lss, hl3, decide_false, X_pick EE_sym, pickV_bool, Bool.false_eq_true, X_nil, thenQ_normal, W_cond, CDi_f, W_skip, W_seq, w14_4, Mem.next_bump, Nat.le_add_right, bump_bump, Nat.reduceAdd, X_assign, w14_5, Y_0, keepM_f, X_slice EE_sym, Option.map_some, Option.map_none, hlo', X_call ca_33, List.map_cons, List.map_nil, true_and]
  refine CallI.ex2 (clone_src (m := m.bump _) (k := (l k).drop 1) hm.bump (by rw [Mem.next_bump]; omega) (fun M hM => ?_) (by omega) (by omega)) fun v M1 hN => ?_
  · rw [Mem.get_bump, k1] at hM
    rw [src_at, hM, srcC_cells, sub_get (l := il ((l k).drop 1)) (by rw [List.length_map, hdl, Nat.mul_one]) (by omega) fun x hx => ?_]
    · rw [hdl]; rfl
    · rw [k4 (1 + x) (by rw [List.length_map]; omega), il_getD (by omega), il_getD (by rw [hdl]; omega)]
      simp only [List.getD_eq_getElem?_getD, List.getElem?_drop]
  have hnew : ∀ y, slB v = some y → m.next + 36 ≤ y := fun y hy => by have := hN.new y hy; rw [Mem.next_bump] at this; exact this
  have n36 := hN.nx.next
  rw [Mem.next_bump] at n36
  have hnone : ∀ y, m.next ≤ y → y < m.next + 36 → M1.get y = none := fun y h1 h2 => by rw [hN.nx.old y (by rw [Mem.next_bump]; exact h2), Mem.get_bump, hm.none y h1]
  have hN := hN.of_bump
  have n1 := hN.nx.next
  have M1B : M1.get B = some (.cells cB true 1) := hN.nx.keep hm k1
  have q5 : cB.nth 0 = some (In ((l k).getD 0 0)) := by rw [nth_lt (by omega), k4 0 (by rw [List.length_map]; omega), il_getD (by omega)]
  have z1 : (0 : Int) ≤ 0 := Int.le_refl _
  have bs1 : bsV EE.P 30 1 [(0, In ((l k).getD 0 0))] = some ([In ((l k).getD 0 0)], 1) := by kernel_rfl
  have z2 : (0 : Int) < ((l k).length : Int) := by omega
  simp only [putT, Nat.reduceLT, T_set, X_nil, keepM_t, Y_0, X_move, ev_T, lk_cons, Nat.reduceEqDiff, if_false, if_true, keepM_f, X_indexAddr EE_sym, ev_const, z1, z2, idxV_slice und_30 sz_3, Int.toNat_zero, Nat.mul_one, Nat.add_zero, okI_some, Y_re, RE_load EE_sym, load1 lay_3, M1B, ld1_cells, q5, lookK_cons, Mem.get_bump, k1, eqvI, TDi_t, X_load EE_sym, X_bs, List.map_cons, List.map_nil, bs1, Nat.add_assoc, Nat.reduceAdd, X_append]
  have hsv : SlI (M1.put (m.next + 30) (AObj.cells (Cells.ofList [In ((l k).getD 0 0)]) true 1)) v ((l k).drop 1) := hN.sl.keep fun y o hy ho => by
    have := hnew y hy
    rw [Mem.get_put, if_neg (by omega), ho]
  have hsrc : srcA 1 (.slice (some ⟨m.next + 30, 0, none⟩) 1 1) (M1.put (m.next + 30) (AObj.cells (Cells.ofList [In ((l k).getD 0 0)]) true 1)) = some ([In ((l k).getD 0 0)], 1) := by
    rw [src_at, Mem.get_put, if_pos rfl, srcC_cells, sub_ofList (by simp)]; rfl
  refine okI_app eo30 (k := 1) (new := [In ((l k).getD 0 0)]) hsv hsrc (by decide) rfl rfl (.inl rfl) ⟨by omega, by omega⟩ fun v' M' hA => ?_
  have hs : SlI M' v' ((l k).drop 1 ++ [(l k).getD 0 0]) := by
    simpa only [SlI, il, List.length_append, List.map_append, List.map_cons, List.map_nil, List.length_cons, List.length_nil] using hA.sl
  have n3 := hA.next
  rw [Mem.next_put] at n3
  have n2 : m.next ≤ M'.next := by omega
  have hold : ∀ y, y < m.next → M'.get y = m.get y := fun y hy => by
    rw [hA.old y (by omega) (fun e => by have := hnew y e; omega), Mem.get_put, if_neg (by omega), hN.nx.old y hy]
  have hMb : M'.get b = some (.cells cs true 0) := by rw [hold b hb, h.at_]
  have hblk : ∀ y, slB v' = some y → slB (sl k) = some y ∨ m.next ≤ y ∧ y < M'.next := fun y hy => by
    rcases hA.blk with ⟨h1, _⟩ | h1
    · have := hnew y (h1 ▸ hy)
      have := hN.sl.lt hN.nx.fresh (h1 ▸ hy)
      exact .inr ⟨by omega, by omega⟩
    · rw [h1] at hy; cases hy; exact .inr ⟨by omega, by omega⟩
  have hlow : ∀ y, y ≠ m.next + 31 → y ≠ m.next + 30 → M1.get y = none → M'.get y = none := fun y h1 h2 e => hA.low y h1 (by rw [Mem.get_put, if_neg h2, e])
  have hQ := QAt.turn h hm hO hk8 hs n2 hblk fun y hy _ => hold y hy
  obtain ⟨b', c', cs', hv', -⟩ := hs.cons (by simp)
  rw [show ((l k).drop 1 ++ [(l k).getD 0 0]).length = (l k).length - 1 + 1 by simp] at hv'
  subst hv'
  have h9 := h.n
  have hk9 : 1 + (k + 1) ≤ 9 := by omega
  simp only [Nat.reduceLT, T_set, X_nil, keepM_f, Y_0, X_move, ev_T, lk_cons, Nat.reduceEqDiff, Nat.one_ne_zero, if_false, if_true, X_nilCheck EE_sym, nilV_ptr, okI_some, X_fieldAddr EE_sym fo_57_1, offV_ptr, Nat.zero_add, X_indexAddr EE_sym, q2, q8, idxV_arr und_55 sz_30, Int.toNat_natCast, Nat.mul_one, X_store, store1 sz_30, hMb, cells_slice, st1_cells, List.length_cons, List.length_nil, Nat.add_assoc, h9, hk9, List.all_cons, oneCell, List.all_nil, Bool.and_self, and_self, Y_nil, thenQ_normal, W_seq, w14_6, Mem.next_put, n2, X_assign, ev_const, W_ret, FinX_ret, resA_tmp, T_get, resA_nil, Option.map_some, oneOr1, true_and]
  have hN3 : ∀ j, QN m b O c (updL l k ((l k).drop 1 ++ [(l k).getD 0 0])) ((M'.put b (.cells (cs.write (1 + k) [.slice (some ⟨b', 0, none⟩) ((l k).length - 1 + 1) c']) true 0)).bump j) := fun j => by
    refine ⟨by simp only [Mem.next_bump, Mem.next_put]; omega, Fresh.of_low (by have := hm.n64; simp only [Mem.next_bump, Mem.next_put]; omega) (Low.bump (Low.put (fun y hy => ?_) (by simp only [Mem.next_bump, Mem.next_put]; omega))), ⟨_, _, (hQ.bump j).ox (by simp only [Mem.next_bump, Mem.next_put]; omega)⟩, fun y hy hyO => ?_, fun y hy e => ?_⟩
    · simp only [Mem.next_bump, Mem.next_put] at hy
      exact hlow y (by omega) (by omega) (hN.nx.fresh.none y (by omega))
    · have h1 : y ≠ b := fun e => hyO (e ▸ h.ob)
      simp only [Mem.get_bump, Mem.get_put, h1, if_false]
      exact hold y hy
    · have h1 : y ≠ b := fun e2 => by rw [e2, h.at_] at e; cases e
      simp only [Mem.get_bump, Mem.get_put, h1, if_false]
      rw [hold y hy, e]
  exact ⟨⟨(hN3 _).next, (hN3 _).low⟩, rfl, hN3 _⟩
end
section
variable {M : Mem} {q c : Nat} {l : Nat → List Int} {W : Nat → Prop} {a : BitVec 32} {x k : Int}
theorem Qs.all (h : Qs M q c l W) (hS : (catTo l 8).length < 1073741824) : ∃ v M', Con EE.P 17 [PT q] M v M' ∧ NewL M M' v (isort (catTo l 8)) ∧ Qs M' q c l W ∧ Wx W M M' := by
  obtain ⟨O, sl, cs, h1, h2⟩ := h.at_
  obtain ⟨v, M', hc, hL⟩ := all_ok h1 h.fresh (fun y hy => (h2 y hy).1) hS
  exact ⟨v, M', hc, hL, h.nx hL.nx, Wx.of_nx hL.nx h.wlt⟩
theorem Qs.pick {k : Nat} (h : Qs M q c l W) (hk : k < c) (hl : l k ≠ []) : Con EE.P 13 [PT q, In k, Um a] M (In ((l k).getD (a.toNat % (l k).length) 0)) M := by
  obtain ⟨O, sl, cs, h1, h2⟩ := h.at_
  exact pick_ok h1 hk hl
theorem Qs.pick_no (h : Qs M q c l W) (hk : ¬ (0 ≤ k ∧ k < c) ∨ l k.toNat = []) : Con EE.P 13 [PT q, In k, Um a] M (In 0) M := by
  obtain ⟨O, sl, cs, h1, h2⟩ := h.at_
  exact Go.Ab.pick_no h1 hk
theorem Qs.rot_no (h : Qs M q c l W) (hk : ¬ (0 ≤ k ∧ k < c) ∨ (l k.toNat).length < 2) : Con EE.P 14 [PT q, In k] M (.bool false) M := by
  obtain ⟨O, sl, cs, h1, h2⟩ := h.at_
  exact Go.Ab.rot_no h1 hk
theorem Qs.rot {k : Nat} (h : Qs M q c l W) (hk : k < c) (hl : 2 ≤ (l k).length) (hl2 : (l k).length < 1073741824) : ∃ v M', Con EE.P 14 [PT q, In k] M v M' ∧ v = .bool true ∧ Qs M' q c (updL l k ((l k).drop 1 ++ [(l k).getD 0 0])) W ∧ Wx W M M' := by
  obtain ⟨O, sl, cs, h1, h2⟩ := h.at_
  obtain ⟨v, M', hc, hv, hN⟩ := rot_ok h1 h.fresh (fun y hy => (h2 y hy).1) hk hl hl2
  exact ⟨v, M', hc, hv, h.turn h2 hN⟩
theorem Qs.cut_no (h : Qs M q c l W) (hs : Sh l) (hw : whQ c l x < 0) : Con EE.P 18 [PT q, In x] M (.bool false) M := by
  obtain ⟨O, sl, cs, h1, h2⟩ := h.at_
  exact Go.Ab.cut_no h1 hs.short hw
theorem Qs.cut {w i : Nat} (h : Qs M q c l W) (hs : Sh l) (hw8 : w < 8) (hw : whQ c l x = w) (hi : i < (l w).length) (hix : idxL (l w) x = i) : ∃ v M', Con EE.P 18 [PT q, In x] M v M' ∧ v = .bool true ∧ Qs M' q c (updL l w ((l w).eraseIdx i)) W ∧ Wx W M M' := by
  obtain ⟨O, sl, cs, h1, h2⟩ := h.at_
  obtain ⟨v, M', hc, hv, hN⟩ := cut_yes h1 h.fresh (fun y hy => (h2 y hy).1) hs.short hw8 hw hi hix
  exact ⟨v, M', hc, hv, h.turn h2 hN⟩
theorem Qs.place_bad (h : Qs M q c l W) (hx : x < 1) : Con EE.P 10 [PT q, In x, In k, Um a] M (.tuple [In 0, In 2].toArray) M := by
  obtain ⟨O, sl, cs, h1, h2⟩ := h.at_
  exact Go.Ab.place_bad h1 hx
theorem Qs.move_not (h : Qs M q c l W) (hs : Sh l) (hw : whQ c l x < 0 ∨ fewTo l a c < 0) : Con EE.P 12 [PT q, In x, Um a] M (.tuple [In 0, In 130].toArray) M := by
  obtain ⟨O, sl, cs, h1, h2⟩ := h.at_
  exact Go.Ab.move_not h1 hs.short (fun y hy => (h2 y hy).1) hw
theorem Qs.list_no (h : Qs M q c l W) (hk : ¬ (0 ≤ k ∧ k < c)) : Con EE.P 11 [PT q, In k] M (.slice none 0 0) M := by
  obtain ⟨O, sl, cs, h1, h2⟩ := h.at_
  exact Go.Ab.list_no h1 hk
end
end
end Go.Ab
