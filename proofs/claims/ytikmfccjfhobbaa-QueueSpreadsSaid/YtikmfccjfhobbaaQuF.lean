/- Queue: Cut, Place, Move, List, New. -/
import Derived.Test.YtikmfccjfhobbaaQuE
namespace Go.Ab
open Go.Proofs
noncomputable section
set_option maxHeartbeats 2000000
section
variable {m : Mem} {b : Nat} {O : Nat → Prop} {sl : Nat → Value} {cs : Cells} {c : Nat} {l : Nat → List Int} {a : BitVec 32} {x : Int}
theorem cut_no (h : QAt m b O sl cs c l) (hs : Short l) (hw : whQ c l x < 0) : Con EE.P 18 [PT b, In x] m (.bool false) m := by
  refine Con.of EE_ok fn18 (Nat.le_of_ble_eq_true rfl) Grow.rfl fun hm => ?_
  simp only [f18, enumV, Nat.zero_add, w18, W_seq, w18_0, Nat.le_refl, X_assign, ev_const, Nat.reduceLT, T_set, X_nil, thenQ_normal, w18_1, Mem.next_bump, Nat.le_add_right, bump_bump, Nat.reduceAdd, X_move, ev_T, lk_cons, Nat.reduceEqDiff, Nat.one_ne_zero, if_false, if_true, X_call ca_16, List.map_cons, List.map_nil, true_and]
  refine CallI.con0 (where_ok (h.bump _) hs) ?_
  simp only [putT, Nat.reduceLT, T_set, X_assign, ev_T, lk_cons, Nat.reduceEqDiff, if_false, if_true, X_nil, thenQ_normal, W_seq, w18_2, Mem.next_bump, Nat.le_add_right, bump_bump, Nat.reduceAdd, X_move, X_bin EE_sym (op := .lss) rfl, ev_const, bin_lss, hw, decide_true, okI_some, W_cond, CDi_t, w18_4, w18_3, W_ret, thenQ_ret, FinC_ret, resA_tmp, T_get, resA_nil, Option.map_some, oneOr1, true_and]
  exact TidyE.pure rfl fun _ _ => rfl
theorem idx_in {l : List Int} (h : x ∈ l) : ∃ i : Nat, i < l.length ∧ idxL l x = i ∧ l.getD i 0 = x := by
  rcases idxFrom_spec (x := x) (l := l) (i := 0) with ⟨_, h2⟩ | ⟨j, h1, h2, h3, _⟩
  · exact absurd h h2
  · exact ⟨j, h1, by rw [idxL, h3, Nat.zero_add], h2⟩
theorem cut_yes {k i : Nat} (h : QAt m b O sl cs c l) (hm : Fresh m) (hO : ∀ y, O y → y < m.next) (hs : Short l) (hk8 : k < 8) (hw : whQ c l x = k) (hi : i < (l k).length) (hix : idxL (l k) x = i) :
    ∃ v m', Con EE.P 18 [PT b, In x] m v m' ∧ v = .bool true ∧ QN m b O c (updL l k ((l k).eraseIdx i)) m' := by
  refine Con.raw EE_ok fn18 (Nat.le_of_ble_eq_true rfl) _ ?_
  have hb := hm.lt h.at_
  have q1 : ¬ (k : Int) < 0 := by omega
  have q2 : (0 : Int) ≤ k := by omega
  have q8 : (k : Int) < ((8 : Nat) : Int) := by omega
  have q3 := h.ck k hk8
  have hsi := hs k
  have hwi : IntKind.i64.wrap ((i : Int) + 1) = ((i + 1 : Nat) : Int) := by rw [wrap_i64 (by omega) (by omega)]; omega
  simp only [f18, enumV, Nat.zero_add, w18, W_seq, w18_0, Nat.le_refl, X_assign, ev_const, Nat.reduceLT, T_set, X_nil, thenQ_normal, w18_1, Mem.next_bump, Nat.le_add_right, bump_bump, Nat.reduceAdd, X_move, ev_T, lk_cons, Nat.reduceEqDiff, Nat.one_ne_zero, if_false, if_true, X_call ca_16, List.map_cons, List.map_nil, true_and]
  refine CallI.con0 (where_ok (h.bump _) hs) ?_
  rw [hw]
  simp only [putT, Nat.reduceLT, T_set, X_assign, ev_T, lk_cons, Nat.reduceEqDiff, if_false, if_true, X_nil, thenQ_normal, W_seq, w18_2, Mem.next_bump, Nat.le_add_right, bump_bump, Nat.reduceAdd, X_move, X_bin EE_sym (op := .lss) rfl, ev_const, bin_lss, q1, decide_false, okI_some, W_cond, CDi_f, W_skip, w18_5, Nat.one_ne_zero, X_nilCheck EE_sym, nilV_ptr, X_fieldAddr EE_sym fo_57_1, offV_ptr, Nat.zero_add, X_indexAddr EE_sym, q2, q8, idxV_arr und_55 sz_30, Int.toNat_natCast, Nat.mul_one, X_load EE_sym, load1 lay_30, Mem.get_bump, h.at_, ld1_cells, q3, X_call ca_38, List.map_cons, List.map_nil, true_and]
  refine CallI.con0 (index_ok ((h.sls k hk8).bump _) (hs k)) ?_
  rw [hix]
  simp only [putT, Nat.reduceLT, T_set, X_assign, ev_T, lk_cons, Nat.reduceEqDiff, if_false, if_true, X_nil, thenQ_normal, W_seq, w18_6, Mem.next_bump, Nat.le_add_right, bump_bump, Nat.reduceAdd, X_move, Nat.one_ne_zero, X_nilCheck EE_sym, nilV_ptr, okI_some, X_fieldAddr EE_sym fo_57_1, offV_ptr, Nat.zero_add, X_indexAddr EE_sym, q2, q8, idxV_arr und_55 sz_30, Int.toNat_natCast, Nat.mul_one, X_load EE_sym, load1 lay_30, Mem.get_bump, h.at_, ld1_cells, q3, X_bin EE_sym (op := .add) rfl, ev_const, bin_add, hwi, X_call ca_39, List.map_cons, List.map_nil, true_and]
  refine CallI.ex2 (del_ok (m := m.bump _) hm.bump ((h.sls k hk8).bump _) hi (hs k)) fun v' M' hT => ?_
  have n1 := hT.next
  simp only [Mem.next_bump] at n1
  have n2 : m.next ≤ M'.next := by omega
  have hold : ∀ y, y < m.next → slB (sl k) ≠ some y → M'.get y = m.get y := fun y hy hyb => hT.old y (by rw [Mem.next_bump]; omega) hyb
  have hMb : M'.get b = some (.cells cs true 0) := by rw [hold b hb (h.bne hk8), h.at_]
  have hQ := QAt.turn h hm hO hk8 hT.sl n2 (fun y hy => .inl (by rw [← hT.blk]; exact hy)) hold
  have hv' : ∃ p n c', v' = .slice p n c' := by
    rcases hT.sl.at_ with ⟨_, h⟩ | ⟨b', c', cs', h, _⟩
    · exact ⟨_, _, _, h⟩
    · exact ⟨_, _, _, h⟩
  obtain ⟨p', n', c', rfl⟩ := hv'
  have h9 := h.n
  have hk9 : 1 + (k + 1) ≤ 9 := by omega
  simp only [putT, Nat.reduceLT, T_set, X_move, ev_T, lk_cons, Nat.reduceEqDiff, Nat.one_ne_zero, if_false, if_true, X_nilCheck EE_sym, nilV_ptr, okI_some, X_fieldAddr EE_sym fo_57_1, offV_ptr, Nat.zero_add, X_indexAddr EE_sym, q2, q8, idxV_arr und_55 sz_30, Int.toNat_natCast, Nat.mul_one, X_store, store1 sz_30, hMb, cells_slice, st1_cells, List.length_cons, List.length_nil, Nat.add_assoc, h9, hk9, List.all_cons, oneCell, List.all_nil, Bool.and_self, and_self, X_nil, thenQ_normal, W_seq, w18_7, Mem.next_put, n2, X_assign, ev_const, W_ret, FinX_ret, resA_tmp, T_get, resA_nil, Option.map_some, oneOr1, true_and]
  have hf := hT.fresh
  have hlb := hf.lt hMb
  have hnone : ∀ y, y < m.next → m.get y = none → M'.get y = none := fun y hy e => by
    rw [hold y hy (fun e2 => by (obtain ⟨cc, e3⟩ := (h.sls k hk8).ob e2; rw [e3] at e; cases e)), e]
  have hN : ∀ j, QN m b O c (updL l k ((l k).eraseIdx i)) ((M'.put b (.cells (cs.write (1 + k) [.slice p' n' c']) true 0)).bump j) := fun j => by
    refine ⟨by simp only [Mem.next_bump, Mem.next_put]; omega, Fresh.of_low (by have := hm.n64; simp only [Mem.next_bump, Mem.next_put]; omega) (Low.bump (Low.put (fun y hy => hf.none y (by simp only [Mem.next_bump, Mem.next_put] at hy; omega)) (by simp only [Mem.next_bump, Mem.next_put]; omega))), ⟨_, _, (hQ.bump j).ox (by simp only [Mem.next_bump, Mem.next_put]; omega)⟩, fun y hy hyO => ?_, fun y hy e => ?_⟩
    · have h1 : y ≠ b := fun e => hyO (e ▸ h.ob)
      simp only [Mem.get_bump, Mem.get_put, h1, if_false]
      exact hold y hy fun e => hyO (h.own k hk8 y e)
    · have h1 : y ≠ b := fun e2 => by rw [e2, h.at_] at e; cases e
      simp only [Mem.get_bump, Mem.get_put, h1, if_false]
      exact hnone y hy e
  exact ⟨⟨(hN _).next, (hN _).low⟩, rfl, hN _⟩
/-! lists -/
theorem eq_sl_nil {xo yo : Operand} {p : Addr} {n c : Nat} : eqA EE.P .eql 30 xo yo (.slice (some p) n c) (.slice none 0 0) m = some (.bool false) := by
  unfold eqA
  simp [und_30, plain, plainN]
theorem eq_nil_nil : eqA EE.P .eql 30 (.tmp 3) (.const (.slice none 0 0)) (.slice none 0 0) (.slice none 0 0) m = some (.bool true) := by kernel_rfl
theorem bs0 : bsV EE.P 30 0 [] = some ([], 1) := by kernel_rfl
/-- A list that is new. -/
structure NewL (m m' : Mem) (v : Value) (l : List Int) : Prop where
  sl : SlI m' v l
  nx : Nx m m'
  new : ∀ y, slB v = some y → m.next ≤ y
theorem clone_ok {v : Value} {k : List Int} (hm : Fresh m) (h : SlI m v k) (hl : k.length < 1073741824) : ∃ v' m', Con EE.P 33 [v] m v' m' ∧ NewL m m' v' k := by
  refine Con.raw EE_ok fn33 (Nat.le_of_ble_eq_true rfl) _ ?_
  rcases h.at_ with ⟨h1, rfl⟩ | ⟨b, c, cb, rfl, k1, k2, k3, k4⟩
  · simp only [f33, enumV, w33, W_seq, w33_0, Nat.le_refl, X_assign, ev_const, Nat.reduceLT, T_set, X_nil, thenQ_normal, w33_1, Mem.next_bump, Nat.le_add_right, bump_bump, Nat.reduceAdd, X_move, ev_T, lk_cons, Nat.reduceEqDiff, if_true, if_false, X_eql EE_sym, eq_nil_nil, okI_some, W_cond, CDi_t, w33_3, w33_2, W_ret, thenQ_ret, FinX_ret, resA_tmp, T_get, resA_nil, Option.map_some, oneOr1, true_and]
    exact ((Nx.refl hm).bump 4).raw ⟨h.bump 4, (Nx.refl hm).bump 4, fun y hy => by cases hy⟩
  · simp only [f33, enumV, w33, W_seq, w33_0, Nat.le_refl, X_assign, ev_const, Nat.reduceLT, T_set, X_nil, thenQ_normal, w33_1, Mem.next_bump, Nat.le_add_right, bump_bump, Nat.reduceAdd, X_move, ev_T, lk_cons, Nat.reduceEqDiff, if_true, if_false, X_eql EE_sym, eq_sl_nil, okI_some, W_cond, CDi_f, W_skip, w33_4, X_bs, List.map_nil, bs0, Nat.add_zero, put_bump, X_append, Nat.add_assoc, true_and]
    have hsrc : ∀ j i o, m.next ≤ i → srcA 1 (.slice (some ⟨b, 0, none⟩) k.length c) ((m.put i o).bump j) = some (il k, k.length) := fun j i o hi => by
      have : ¬ b = i := by have := hm.lt k1; omega
      rw [src_at, Mem.get_bump, Mem.get_put, if_neg this, k1, srcC_cells, sub_get (l := il k) (by simp) (by omega) fun x hx => ?_]
      · rfl
      · rw [Nat.zero_add, k4 x (by simpa using hx)]
    by_cases h0 : k.length = 0
    · have hk0 : k = [] := List.length_eq_zero_iff.1 h0
      subst hk0
      rw [app_none (k := 0) (hsrc _ _ _ (by omega)) (Nat.le_refl _), okI_some]
      simp only [List.length_nil, Nat.reduceLT, T_set, X_assign, ev_T, lk_cons, Nat.reduceEqDiff, if_false, if_true, X_nil, thenQ_normal, W_ret, FinX_ret, resA_tmp, T_get, resA_nil, Option.map_some, okI_some, oneOr1]
      have hn : Nx m ((m.put (m.next + 3) (AObj.cells (Cells.ofList []) true 1)).bump 7) := ⟨by (try simp only [Mem.next_bump, Mem.next_put]); omega, Fresh.of_low (by have := hm.n64; (try simp only [Mem.next_bump, Mem.next_put]); omega) (by repeat (first | exact Low.of hm (by (try simp only [Mem.next_bump, Mem.next_put]); omega) | refine Low.put ?_ (by (try simp only [Mem.next_bump, Mem.next_put]); omega) | refine Low.bump ?_)), fun y hy => by simp only [Mem.get_bump, Mem.get_put, ne_new hy, if_false]⟩
      exact hn.raw ⟨⟨by simp, .inr ⟨m.next + 3, 0, Cells.ofList [], rfl, by simp only [Mem.get_bump, Mem.get_put, if_true], by simp [ofList_n], Nat.le_refl _, by simp⟩⟩, hn, fun y hy => by cases hy; show m.next ≤ m.next + 3; omega⟩
    have hone : (il k).all oneCell = true := by
      rw [List.all_eq_true]
      intro v hv
      obtain ⟨n, _, rfl⟩ := List.mem_map.1 hv
      rfl
    refine okI_app eo30 (n := 0) (fl := []) (k := k.length) (new := il k) ⟨by simp, .inr ⟨_, 0, Cells.ofList [], rfl, by simp only [Mem.get_bump, Mem.get_put, if_true], by simp [ofList_n], Nat.le_refl _, by simp⟩⟩ (hsrc _ _ _ (by omega)) h0 (by simp) hone (.inr fun _ _ e => by cases e; rfl) ⟨by omega, by omega⟩ fun v' M' hA => ?_
    have n1 := hA.next
    simp only [Mem.next_bump, Mem.next_put] at n1
    have n2 : m.next ≤ M'.next := by omega
    simp only [Nat.reduceLT, T_set, X_assign, ev_T, lk_cons, Nat.reduceEqDiff, if_false, if_true, X_nil, thenQ_normal, W_ret, FinX_ret, resA_tmp, T_get, resA_nil, Option.map_some, okI_some, oneOr1]
    have hold : ∀ y, y < m.next → M'.get y = m.get y := fun y hy => by
      rw [hA.old y (by omega) (fun e => by have e : m.next + 3 = y := Option.some.inj e; omega)]
      simp only [Mem.get_bump, Mem.get_put, lt_ne hy, if_false]
    have hn : Nx m M' := ⟨n2, Fresh.of_low (by have := hm.n64; omega) fun y hy => hA.low y (by omega) (by simp only [Mem.get_bump, Mem.get_put, show ¬ y = m.next + 3 by omega, if_false]; exact hm.none y (by omega)), hold⟩
    have hs : SlI M' v' k := by simpa only [SlI, Nat.zero_add, List.nil_append] using hA.sl
    refine ⟨⟨hn.next, fun y hy e => by rw [hn.old y hy, e]⟩, hs, hn, fun y hy => ?_⟩
    rcases hA.blk with ⟨h1, _⟩ | h1
    · rw [h1] at hy; cases hy; show m.next ≤ m.next + 3; omega
    · rw [h1] at hy; cases hy; omega
theorem list_ok {k : Nat} (h : QAt m b O sl cs c l) (hm : Fresh m) (hk : k < c) (hl : (l k).length < 1073741824) : ∃ v m', Con EE.P 11 [PT b, In k] m v m' ∧ NewL m m' v (l k) := by
  refine Con.raw EE_ok fn11 (Nat.le_of_ble_eq_true rfl) _ ?_
  have h8 := h.c8
  have q2 : (0 : Int) ≤ k := by omega
  have q8 : (k : Int) < ((8 : Nat) : Int) := by omega
  have q3 := h.ck k (by omega)
  have hi : (decide (0 ≤ (k : Int) ∧ (k : Int) < c)) = true := decide_eq_true ⟨q2, by omega⟩
  simp only [f11, enumV, Nat.zero_add, w11, W_seq, w11_0, Nat.le_refl, X_assign, ev_const, Nat.reduceLT, T_set, X_nil, thenQ_normal, w11_1, Mem.next_bump, Nat.le_add_right, bump_bump, Nat.reduceAdd, X_move, ev_T, lk_cons, Nat.reduceEqDiff, Nat.one_ne_zero, if_false, if_true, X_call ca_30, List.map_cons, List.map_nil, true_and]
  refine CallI.con0 (is_ok (h.bump _)) ?_
  rw [hi]
  simp only [putT, Nat.reduceLT, T_set, X_un EE_sym, ev_T, lk_cons, Nat.reduceEqDiff, if_false, if_true, un_not, Bool.not_true, okI_some, X_nil, thenQ_normal, W_cond, CDi_f, W_skip, W_seq, w11_4, Mem.next_bump, Nat.le_add_right, bump_bump, Nat.reduceAdd, X_move, Nat.one_ne_zero, X_nilCheck EE_sym, nilV_ptr, X_fieldAddr EE_sym fo_57_1, offV_ptr, Nat.zero_add, X_indexAddr EE_sym, q2, q8, idxV_arr und_55 sz_30, Int.toNat_natCast, Nat.mul_one, X_load EE_sym, load1 lay_30, Mem.get_bump, h.at_, ld1_cells, q3, X_call ca_33, List.map_cons, List.map_nil, true_and]
  refine CallI.ex2 (clone_ok (m := m.bump _) hm.bump ((h.sls k (by omega)).bump _) hl) fun v M hN => ?_
  have n1 := hN.nx.next
  simp only [Mem.next_bump] at n1
  have n2 : m.next ≤ M.next := by omega
  simp only [putT, Nat.reduceLT, T_set, X_assign, ev_T, lk_cons, Nat.reduceEqDiff, if_false, if_true, X_nil, thenQ_normal, W_ret, FinX_ret, resA_tmp, T_get, resA_nil, Option.map_some, okI_some, oneOr1]
  have hn := hN.nx.of_bump
  exact ⟨⟨hn.next, fun y hy e => by rw [hn.old y hy, e]⟩, hN.sl, hn, fun y hy => by have := hN.new y hy; rw [Mem.next_bump] at this; omega⟩
theorem list_no {k : Int} (h : QAt m b O sl cs c l) (hk : ¬ (0 ≤ k ∧ k < c)) : Con EE.P 11 [PT b, In k] m (.slice none 0 0) m := by
  refine Con.of EE_ok fn11 (Nat.le_of_ble_eq_true rfl) Grow.rfl fun hm => ?_
  have hi : (decide (0 ≤ k ∧ k < (c : Int))) = false := decide_eq_false hk
  simp only [f11, enumV, Nat.zero_add, w11, W_seq, w11_0, Nat.le_refl, X_assign, ev_const, Nat.reduceLT, T_set, X_nil, thenQ_normal, w11_1, Mem.next_bump, Nat.le_add_right, bump_bump, Nat.reduceAdd, X_move, ev_T, lk_cons, Nat.reduceEqDiff, Nat.one_ne_zero, if_false, if_true, X_call ca_30, List.map_cons, List.map_nil, true_and]
  refine CallI.con0 (is_ok (h.bump _)) ?_
  rw [hi]
  simp only [putT, Nat.reduceLT, T_set, X_un EE_sym, ev_T, lk_cons, Nat.reduceEqDiff, if_false, if_true, un_not, Bool.not_false, okI_some, X_nil, thenQ_normal, W_cond, CDi_t, w11_3, W_seq, w11_2, Mem.next_bump, Nat.le_add_right, bump_bump, Nat.reduceAdd, X_assign, ev_const, W_ret, thenQ_ret, FinC_ret, resA_tmp, T_get, resA_nil, Option.map_some, oneOr1, true_and]
  exact TidyE.pure rfl fun _ _ => rfl
/-! a new one -/
theorem b57 {n : Int} : buildA EE.P 57 [(0, In n)] = some (.agg [In n, .slice none 0 0, .slice none 0 0, .slice none 0 0, .slice none 0 0, .slice none 0 0, .slice none 0 0, .slice none 0 0, .slice none 0 0].toArray) := by kernel_rfl
theorem new_bad {n : Int} (hn : ¬ (1 ≤ n ∧ n ≤ 8)) : Con EE.P 9 [In n] m (.tuple [.pointer none, In 2].toArray) m := by
  refine Con.of EE_ok fn9 (Nat.le_of_ble_eq_true rfl) Grow.rfl fun hm => ?_
  by_cases h1 : n < 1
  · simp only [f9, enumV, w9, W_seq, w9_0, Nat.le_refl, X_assign, ev_const, Nat.reduceLT, T_set, X_nil, thenQ_normal, w9_1, Mem.next_bump, Nat.le_add_right, bump_bump, Nat.reduceAdd, X_move, ev_T, lk_cons, Nat.reduceEqDiff, if_true, if_false, X_bin EE_sym (op := .lss) rfl, bin_lss, h1, decide_true, okI_some, X_guard EE_sym, T_get, GDi_tf, putT, X_pick EE_sym, pickV_bool, W_cond, CDi_t, w9_3, w9_2, W_ret, thenQ_ret, FinC_ret, resA_tmp, resA_nil, Option.map_some, oneOr2, true_and]
    exact TidyE.pure rfl fun _ _ => rfl
  · have h2 : 8 < n := by omega
    simp only [f9, enumV, w9, W_seq, w9_0, Nat.le_refl, X_assign, ev_const, Nat.reduceLT, T_set, X_nil, thenQ_normal, w9_1, Mem.next_bump, Nat.le_add_right, bump_bump, Nat.reduceAdd, X_move, ev_T, lk_cons, Nat.reduceEqDiff, if_true, if_false, X_bin EE_sym (op := .lss) rfl, bin_lss, h1, decide_false, okI_some, X_guard EE_sym, T_get, GDi_ff, X_bin EE_sym (op := .gtr) rfl, bin_gtr, h2, decide_true, X_pick EE_sym, pickV_bool, Bool.false_eq_true, W_cond, CDi_t, w9_3, w9_2, W_ret, thenQ_ret, FinC_ret, resA_tmp, resA_nil, Option.map_some, oneOr2, true_and]
    exact TidyE.pure rfl fun _ _ => rfl
theorem new_ok {n : Nat} (hm : Fresh m) (h1 : 1 ≤ n) (h2 : n ≤ 8) : ∃ v m', Con EE.P 9 [In n] m v m' ∧ ∃ q, v = .tuple [PT q, In 0].toArray ∧ m.next ≤ q ∧ Nx m m' ∧ (∃ sl cs, QAt m' q (fun y => y = q) sl cs n (fun _ => [])) := by
  refine Con.raw EE_ok fn9 (Nat.le_of_ble_eq_true rfl) _ ?_
  have q1 : ¬ (n : Int) < 1 := by omega
  have q2 : ¬ (8 : Int) < n := by omega
  simp only [f9, enumV, w9, W_seq, w9_0, Nat.le_refl, X_assign, ev_const, Nat.reduceLT, T_set, X_nil, thenQ_normal, w9_1, Mem.next_bump, Nat.le_add_right, bump_bump, Nat.reduceAdd, X_move, ev_T, lk_cons, Nat.reduceEqDiff, if_true, if_false, X_bin EE_sym (op := .lss) rfl, bin_lss, q1, decide_false, okI_some, X_guard EE_sym, T_get, GDi_ff, X_bin EE_sym (op := .gtr) rfl, bin_gtr, q2, X_pick EE_sym, pickV_bool, Bool.false_eq_true, W_cond, CDi_f, W_skip, w9_4, X_build EE_sym, List.map_cons, List.map_nil, b57, X_box, box_agg, Nat.add_assoc, put_bump, W_ret, FinX_ret, resA_tmp, resA_nil, Option.map_some, oneOr2, true_and]
  have hn : Nx m ((m.put (m.next + 10) (AObj.cells (Cells.ofList [In n, .slice none 0 0, .slice none 0 0, .slice none 0 0, .slice none 0 0, .slice none 0 0, .slice none 0 0, .slice none 0 0, .slice none 0 0]) true 0)).bump 13) := ⟨by (try simp only [Mem.next_bump, Mem.next_put]); omega, Fresh.of_low (by have := hm.n64; (try simp only [Mem.next_bump, Mem.next_put]); omega) (by repeat (first | exact Low.of hm (by (try simp only [Mem.next_bump, Mem.next_put]); omega) | refine Low.put ?_ (by (try simp only [Mem.next_bump, Mem.next_put]); omega) | refine Low.bump ?_)), fun y hy => by simp only [Mem.get_bump, Mem.get_put, ne_new hy, if_false]⟩
  refine hn.raw ⟨m.next + 10, rfl, by omega, hn, fun _ => .slice none 0 0, _, by simp only [Mem.get_bump, Mem.get_put, if_true]; rfl, rfl, rfl, fun k hk => ?_, fun _ _ => SlV.nil, fun _ _ y hy => (by cases hy), rfl, fun _ _ _ _ _ y hy => (by cases hy), h2, h1⟩
  rw [nth_ofList]
  rcases k with _ | _ | _ | _ | _ | _ | _ | _ | k <;> first | rfl | omega
end
end
end Go.Ab
