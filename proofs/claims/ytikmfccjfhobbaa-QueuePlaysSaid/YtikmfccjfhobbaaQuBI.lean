/- Queue: the state, and calls that only read. -/
import Derived.Test.YtikmfccjfhobbaaQuA
import Derived.Test.YtikmfccjfhobbaaTL
namespace Go.Ab
open Go.Proofs
noncomputable section
set_option maxHeartbeats 1000000
theorem eo30 : ElemOk EE.P 30 3 1 8 := ElemOk.of (z := [.int .i64 0]) und_30 (by kernel_rfl) (by kernel_rfl) rfl (by decide)
abbrev il (l : List Int) : List Value := l.map In
theorem il_getD {l : List Int} {j : Nat} (h : j < l.length) : (il l).getD j undef = In (l.getD j 0) := by
  simp [List.getD_eq_getElem?_getD, h]
/-- A slice of numbers. -/
abbrev SlI (M : Mem) (v : Value) (l : List Int) : Prop := SlV M 1 v l.length (il l)
/-- The queues, where they lie. -/
structure QAt (m : Mem) (b : Nat) (O : Nat → Prop) (sl : Nat → Value) (cs : Cells) (c : Nat) (l : Nat → List Int) : Prop where
  at_ : m.get b = some (.cells cs true 0)
  n : cs.n = 9
  c0 : cs.nth 0 = some (In c)
  ck : ∀ k, k < 8 → cs.nth (1 + k) = some (sl k)
  sls : ∀ k, k < 8 → SlI m (sl k) (l k)
  own : ∀ k, k < 8 → ∀ y, slB (sl k) = some y → O y
  ob : O b
  ne : ∀ k k', k < 8 → k' < 8 → k ≠ k' → ∀ y, slB (sl k) = some y → slB (sl k') ≠ some y
  c8 : c ≤ 8
  c1 : 1 ≤ c
section
variable {m : Mem} {b : Nat} {O : Nat → Prop} {sl : Nat → Value} {cs : Cells} {c : Nat} {l : Nat → List Int}
theorem QAt.keep {m' : Mem} (h : QAt m b O sl cs c l) (hk : ∀ y o, O y → m.get y = some o → m'.get y = some o) : QAt m' b O sl cs c l :=
  ⟨hk _ _ h.ob h.at_, h.n, h.c0, h.ck, fun k hk8 => (h.sls k hk8).keep fun y o hy => hk y o (h.own k hk8 y hy), h.own, h.ob, h.ne, h.c8, h.c1⟩
theorem QAt.bump (h : QAt m b O sl cs c l) (j : Nat) : QAt (m.bump j) b O sl cs c l := h.keep fun _ _ _ h => h
theorem QAt.nx {m' : Mem} (h : QAt m b O sl cs c l) (hm : Fresh m) (hn : Nx m m') : QAt m' b O sl cs c l := h.keep fun _ _ _ hy => hn.keep hm hy
theorem cores_ok (h : QAt m b O sl cs c l) : Con EE.P 29 [PT b] m (In c) m := by
  refine Con.of EE_ok fn29 (Nat.le_of_ble_eq_true rfl) Grow.rfl fun hm => ?_
  simp only [f29, enumV, w29, W_seq, w29_0, Nat.le_refl, X_assign, ev_const, Nat.reduceLT, T_set, X_nil, thenQ_normal, w29_1, Mem.next_bump, Nat.le_add_right, bump_bump, Nat.reduceAdd, X_move, ev_T, lk_cons, Nat.reduceEqDiff, if_true, if_false, X_eql EE_sym, eq_ptr_nil und_23, okI_some, W_cond, CDi_f, W_skip, w29_4, X_nilCheck EE_sym, nilV_ptr, X_fieldAddr EE_sym fo_57_0, offV_ptr, Nat.add_zero, X_load EE_sym, load1 lay_3, Mem.get_bump, h.at_, ld1_cells, h.c0, W_ret, FinC_ret, resA_tmp, T_get, resA_nil, Option.map_some, oneOr1, true_and]
  exact TidyE.pure rfl fun _ _ => rfl
theorem is_ok {k : Int} (h : QAt m b O sl cs c l) : Con EE.P 30 [PT b, In k] m (.bool (decide (0 ≤ k ∧ k < c))) m := by
  refine Con.of EE_ok fn30 (Nat.le_of_ble_eq_true rfl) Grow.rfl fun hm => ?_
  by_cases h0 : 0 ≤ k
  · simp only [f30, enumV, Nat.zero_add, w30, W_seq, w30_0, Nat.le_refl, X_assign, ev_const, Nat.reduceLT, T_set, X_nil, h0, true_and, thenQ_normal, w30_1, Mem.next_bump, Nat.le_add_right, bump_bump, Nat.reduceAdd, X_move, ev_T, lk_cons, Nat.reduceEqDiff, if_true, if_false, X_bin EE_sym (op := .geq) rfl, bin_geq, decide_true, okI_some, X_guard EE_sym, T_get, GDi_tt, Nat.one_ne_zero, X_call ca_29, List.map_cons, List.map_nil]
    refine CallI.con0 (cores_ok (h.bump _)) ?_
    simp only [putT, Nat.reduceLT, T_set, X_guard EE_sym, T_get, lk_cons, Nat.reduceEqDiff, if_false, if_true, GDi_tt, X_bin EE_sym (op := .lss) rfl, ev_T, bin_lss, okI_some, X_pick EE_sym, ev_const, pickV_bool, X_assign, X_nil, thenQ_normal, W_ret, FinC_ret, resA_tmp, resA_nil, Option.map_some, oneOr1]
    exact TidyE.pure rfl fun _ _ => rfl
  · simp only [f30, enumV, Nat.zero_add, w30, W_seq, w30_0, Nat.le_refl, X_assign, ev_const, Nat.reduceLT, T_set, X_nil, h0, thenQ_normal, w30_1, Mem.next_bump, Nat.le_add_right, bump_bump, Nat.reduceAdd, X_move, ev_T, lk_cons, Nat.reduceEqDiff, if_true, if_false, X_bin EE_sym (op := .geq) rfl, bin_geq, decide_false, okI_some, X_guard EE_sym, T_get, GDi_ft, putT, X_pick EE_sym, pickV_bool, Bool.false_eq_true, W_ret, FinC_ret, resA_tmp, resA_nil, Option.map_some, oneOr1, true_and]
    exact TidyE.pure rfl fun _ _ => rfl
/-- The first place of a number; -1: it is in none. -/
def idxFrom (x : Int) : List Int → Nat → Int
  | [], _ => -1
  | y :: l, i => if y = x then i else idxFrom x l (i + 1)
def idxL (l : List Int) (x : Int) : Int := idxFrom x l 0
theorem idxFrom_drop {x : Int} : ∀ {l : List Int} {i j : Nat}, j < l.length → idxFrom x (l.drop j) i = if l.getD j 0 = x then (i : Int) else idxFrom x (l.drop (j + 1)) (i + 1)
  | [], _, _, h => absurd h (Nat.not_lt_zero _)
  | a :: l, i, 0, _ => rfl
  | a :: l, i, j + 1, h => idxFrom_drop (l := l) (Nat.lt_of_succ_lt_succ h)
theorem idxFrom_spec {x : Int} : ∀ {l : List Int} {i : Nat}, (idxFrom x l i = -1 ∧ x ∉ l) ∨ ∃ j, j < l.length ∧ l.getD j 0 = x ∧ idxFrom x l i = (i + j : Nat) ∧ ∀ k, k < j → l.getD k 0 ≠ x
  | [], i => .inl ⟨rfl, by simp⟩
  | y :: l, i => by
    unfold idxFrom
    by_cases h : y = x
    · rw [if_pos h]
      exact .inr ⟨0, by simp, by simpa using h, by simp, fun k hk => absurd hk (Nat.not_lt_zero _)⟩
    · rw [if_neg h]
      rcases idxFrom_spec (x := x) (l := l) (i := i + 1) with ⟨h1, h2⟩ | ⟨j, h1, h2, h3, h4⟩
      · exact .inl ⟨h1, by rw [List.mem_cons]; exact fun e => e.elim (fun e => h e.symm) h2⟩
      · refine .inr ⟨j + 1, by simp; omega, by simpa using h2, by rw [h3]; congr 1; omega, fun k hk => ?_⟩
        rcases k with _ | k
        · simpa using h
        · simpa using h4 k (by omega)
theorem index_ok {v : Value} {x : Int} {l : List Int} (h : SlI m v l) (hl : l.length < 4294967296) : Con EE.P 38 [v, In x] m (In (idxL l x)) m := by
  refine Con.of EE_ok fn38 (Nat.le_of_ble_eq_true rfl) Grow.rfl fun hm => ?_
  have hlen : ∀ M, lenA EE.P 30 v M = some (In l.length) := fun M => h.lenA und_30
  simp only [f38, enumV, Nat.zero_add, w38, W_seq, w38_0, Nat.le_refl, X_assign, ev_const, Nat.reduceLT, T_set, X_nil, thenQ_normal, w38_1, Mem.next_bump, Nat.le_add_right, bump_bump, Nat.reduceAdd, X_move, ev_T, lk_cons, Nat.reduceEqDiff, Nat.one_ne_zero, if_false, if_true, X_len EE_sym, hlen, okI_some, W_block, w38_10, true_and]
  refine WX.loop_of (fun x' t M => ∃ i j : Nat, i ≤ l.length ∧ x' = l.length - i ∧ t = T 19 [(8, In i), (7, In l.length), (1, In x), (0, v)] ∧ M = m.bump j ∧ idxL l x = idxFrom x (l.drop i) i) ?_ (k := l.length) (t1 := T 19 [(8, In (0 : Nat)), (7, In l.length), (1, In x), (0, v)]) (View.temps ⟨rfl, rfl, rfl, rfl, trivial⟩) ⟨0, _, by omega, rfl, rfl, rfl, rfl⟩
  rintro x' t M ⟨i, j, hi, rfl, rfl, rfl, hI⟩
  by_cases hi2 : i < l.length
  · obtain ⟨B, cc, cB, rfl, k1, k2, k3, k4⟩ := h.cons (by omega)
    have q1 : (i : Int) < (l.length : Int) := by omega
    have q2 : (0 : Int) ≤ i := by omega
    have q3 : cB.nth i = some (In (l.getD i 0)) := by rw [nth_lt (by omega), k4 i (by simpa using hi2), il_getD hi2]
    have hw : IntKind.i64.wrap ((i : Int) + 1) = ((i + 1 : Nat) : Int) := by rw [wrap_i64 (by omega) (by omega)]; omega
    rw [idxFrom_drop hi2] at hI
    by_cases hx : x = l.getD i 0
    · have e2 : decide (x = l.getD i 0) = true := by simpa using hx
      rw [if_pos hx.symm] at hI
      simp only [w38_9, W_seq, w38_2, Mem.next_bump, Nat.le_add_right, bump_bump, X_bin EE_sym (op := .lss) rfl, Nat.reduceLT, ev_T, lk_cons, Nat.reduceEqDiff, if_false, if_true, bin_lss, q1, decide_true, okI_some, T_set, X_nil, thenQ_normal, W_cond, CDi_t, W_skip, W_block, w38_7, w38_3, Nat.add_assoc, Nat.reduceAdd, X_move, X_assign, w38_4, Nat.one_ne_zero, X_indexAddr EE_sym, q2, idxV_slice und_30 sz_3, Int.toNat_natCast, Nat.mul_one, Nat.zero_add, X_load EE_sym, load1 lay_3, Mem.get_bump, k1, ld1_cells, q3, X_eql EE_sym, eq_int, e2, w38_6, w38_5, W_ret, blockQ_ret, thenQ_ret, roundQ_ret, FinC_ret, resA_tmp, T_get, resA_nil, Option.map_some, oneOr1, true_and]
      rw [hI]
      exact TidyE.pure rfl fun _ _ => rfl
    · have e2 : decide (x = l.getD i 0) = false := by simpa using hx
      rw [if_neg fun e => hx e.symm] at hI
      simp only [w38_9, W_seq, w38_2, Mem.next_bump, Nat.le_add_right, bump_bump, X_bin EE_sym (op := .lss) rfl, Nat.reduceLT, ev_T, lk_cons, Nat.reduceEqDiff, if_false, if_true, bin_lss, q1, decide_true, okI_some, T_set, X_nil, thenQ_normal, W_cond, CDi_t, W_skip, W_block, w38_7, w38_3, Nat.add_assoc, Nat.reduceAdd, X_move, X_assign, w38_4, Nat.one_ne_zero, X_indexAddr EE_sym, q2, idxV_slice und_30 sz_3, Int.toNat_natCast, Nat.mul_one, Nat.zero_add, X_load EE_sym, load1 lay_3, Mem.get_bump, k1, ld1_cells, q3, X_eql EE_sym, eq_int, e2, CDi_f, blockQ_normal, w38_8, X_bin EE_sym (op := .add) rfl, ev_const, bin_add, hw, roundQ_normal, true_and]
      exact ⟨l.length - (i + 1), _, _, by omega, View.temps (l' := [(8, In ((i + 1 : Nat) : Int)), (7, In l.length), (1, In x), (0, .slice (some ⟨B, 0, none⟩) l.length cc)]) ⟨rfl, rfl, rfl, rfl, trivial⟩, i + 1, _, by omega, rfl, rfl, rfl, hI⟩
  · have q1 : ¬ (i : Int) < (l.length : Int) := by omega
    have e1 : idxL l x = -1 := by rw [hI, List.drop_of_length_le (by omega)]; rfl
    simp only [w38_9, W_seq, w38_2, Mem.next_bump, Nat.le_add_right, bump_bump, X_bin EE_sym (op := .lss) rfl, Nat.reduceLT, ev_T, lk_cons, Nat.reduceEqDiff, if_false, if_true, bin_lss, q1, decide_false, okI_some, T_set, X_nil, thenQ_normal, W_cond, CDi_f, W_exit, thenQ_exit, roundQ_exit, blockQ_exit, w38_11, Nat.add_assoc, Nat.reduceAdd, X_assign, ev_const, W_ret, FinC_ret, resA_tmp, T_get, resA_nil, Option.map_some, oneOr1, true_and]
    rw [e1]
    exact TidyE.pure rfl fun _ _ => rfl
theorem idxL_mem {l : List Int} {x : Int} : 0 ≤ idxL l x ↔ x ∈ l := by
  unfold idxL
  rcases idxFrom_spec (x := x) (l := l) (i := 0) with ⟨h1, h2⟩ | ⟨j, h1, h2, h3, _⟩
  · rw [h1]; exact ⟨fun h => by omega, fun h => absurd h h2⟩
  · rw [h3]
    refine ⟨fun _ => ?_, fun _ => by omega⟩
    rw [← h2, List.getD_eq_getElem?_getD, List.getElem?_eq_getElem h1]
    exact List.getElem_mem h1
theorem contains_ok {v : Value} {x : Int} {l : List Int} (h : SlI m v l) (hl : l.length < 4294967296) : Con EE.P 34 [v, In x] m (.bool (decide (x ∈ l))) m := by
  refine Con.of EE_ok fn34 (Nat.le_of_ble_eq_true rfl) Grow.rfl fun hm => ?_
  simp only [f34, enumV, Nat.zero_add, w34, W_seq, w34_0, Nat.le_refl, X_assign, ev_const, Nat.reduceLT, T_set, X_nil, thenQ_normal, w34_1, Mem.next_bump, Nat.le_add_right, bump_bump, Nat.reduceAdd, X_move, ev_T, lk_cons, Nat.reduceEqDiff, Nat.one_ne_zero, if_false, if_true, X_call ca_38, List.map_cons, List.map_nil, true_and]
  refine CallI.con0 (index_ok (h.bump _) hl) ?_
  have e : decide (0 ≤ idxL l x) = decide (x ∈ l) := decide_eq_decide.2 idxL_mem
  simp only [putT, Nat.reduceLT, T_set, X_bin EE_sym (op := .geq) rfl, ev_T, lk_cons, Nat.reduceEqDiff, if_false, if_true, ev_const, bin_geq, e, okI_some, X_assign, X_nil, thenQ_normal, W_ret, FinC_ret, resA_tmp, T_get, resA_nil, Option.map_some, oneOr1]
  exact TidyE.pure rfl fun _ _ => rfl
/-! where one is -/
def whFrom (l : Nat → List Int) (x : Int) : Nat → Nat → Int
  | 0, _ => -1
  | n + 1, k => if x ∈ l k then k else whFrom l x n (k + 1)
def whQ (c : Nat) (l : Nat → List Int) (x : Int) : Int := whFrom l x c 0
theorem whFrom_spec {l : Nat → List Int} {x : Int} : ∀ {n k : Nat}, (whFrom l x n k = -1 ∧ ∀ j, k ≤ j → j < k + n → x ∉ l j) ∨ ∃ j, k ≤ j ∧ j < k + n ∧ x ∈ l j ∧ whFrom l x n k = j ∧ ∀ i, k ≤ i → i < j → x ∉ l i
  | 0, k => .inl ⟨rfl, fun j _ _ => by omega⟩
  | n + 1, k => by
    unfold whFrom
    by_cases h : x ∈ l k
    · rw [if_pos h]
      exact .inr ⟨k, Nat.le_refl _, by omega, h, rfl, fun i _ _ => by omega⟩
    · rw [if_neg h]
      rcases whFrom_spec (l := l) (x := x) (n := n) (k := k + 1) with ⟨h1, h2⟩ | ⟨j, h1, h2, h3, h4, h5⟩
      · refine .inl ⟨h1, fun j a1 a2 => ?_⟩
        rcases Nat.eq_or_lt_of_le a1 with rfl | a1
        · exact h
        · exact h2 j a1 (by omega)
      · refine .inr ⟨j, by omega, by omega, h3, h4, fun i a1 a2 => ?_⟩
        rcases Nat.eq_or_lt_of_le a1 with rfl | a1
        · exact h
        · exact h5 i a1 a2
theorem whQ_spec {c : Nat} {l : Nat → List Int} {x : Int} : (whQ c l x = -1 ∧ ∀ j, j < c → x ∉ l j) ∨ ∃ j, j < c ∧ x ∈ l j ∧ whQ c l x = j ∧ ∀ i, i < j → x ∉ l i := by
  unfold whQ
  rcases whFrom_spec (l := l) (x := x) (n := c) (k := 0) with ⟨h1, h2⟩ | ⟨j, h1, h2, h3, h4, h5⟩
  · exact .inl ⟨h1, fun j hj => h2 j (Nat.zero_le _) (by omega)⟩
  · exact .inr ⟨j, by omega, h3, h4, fun i hi => h5 i (Nat.zero_le _) hi⟩
def Short (l : Nat → List Int) : Prop := ∀ k, (l k).length < 4294967296
theorem where_ok {x : Int} (h : QAt m b O sl cs c l) (hl : Short l) : Con EE.P 16 [PT b, In x] m (In (whQ c l x)) m := by
  refine Con.of EE_ok fn16 (Nat.le_of_ble_eq_true rfl) Grow.rfl fun hm => ?_
  simp only [f16, enumV, Nat.zero_add, w16, W_seq, w16_0, Nat.le_refl, X_assign, ev_const, Nat.reduceLT, T_set, X_nil, thenQ_normal, w16_1, Mem.next_bump, Nat.le_add_right, bump_bump, Nat.reduceAdd, X_move, ev_T, lk_cons, Nat.reduceEqDiff, Nat.one_ne_zero, if_false, if_true, X_call ca_29, List.map_cons, List.map_nil, true_and]
  refine CallI.con0 (cores_ok (h.bump _)) ?_
  simp only [putT, Nat.reduceLT, T_set, X_move, ev_const, X_nil, thenQ_normal, W_block, w16_10]
  refine WX.loop_of (fun x' t M => ∃ i j : Nat, i ≤ c ∧ x' = c - i ∧ t = T 21 [(8, In i), (7, In c), (1, In x), (0, PT b)] ∧ M = m.bump j ∧ whQ c l x = whFrom l x (c - i) i) ?_ (k := c) (t1 := T 21 [(8, In (0 : Nat)), (7, In c), (1, In x), (0, PT b)]) (View.temps ⟨rfl, rfl, rfl, rfl, trivial⟩) ⟨0, _, by omega, rfl, rfl, rfl, rfl⟩
  rintro x' t M ⟨i, j, hi, rfl, rfl, rfl, hI⟩
  by_cases hi2 : i < c
  · have q1 : (i : Int) < (c : Int) := by omega
    have q2 : (0 : Int) ≤ i := by omega
    have q8 : (i : Int) < ((8 : Nat) : Int) := by have := h.c8; omega
    have q3 := h.ck i (by have := h.c8; omega)
    have q4 := h.sls i (by have := h.c8; omega)
    have hw : IntKind.i64.wrap ((i : Int) + 1) = ((i + 1 : Nat) : Int) := by rw [wrap_i64 (by have := h.c8; omega) (by have := h.c8; omega)]; omega
    simp only [w16_9, W_seq, w16_2, Mem.next_bump, Nat.le_add_right, bump_bump, X_bin EE_sym (op := .lss) rfl, Nat.reduceLT, ev_T, lk_cons, Nat.reduceEqDiff, if_false, if_true, bin_lss, q1, decide_true, okI_some, T_set, X_nil, thenQ_normal, W_cond, CDi_t, W_skip, W_block, w16_7, w16_3, Nat.add_assoc, Nat.reduceAdd, X_move, X_assign, w16_4, Nat.one_ne_zero, X_nilCheck EE_sym, nilV_ptr, X_fieldAddr EE_sym fo_57_1, offV_ptr, Nat.zero_add, X_indexAddr EE_sym, q2, q8, idxV_arr und_55 sz_30, Int.toNat_natCast, Nat.mul_one, X_load EE_sym, load1 lay_30, Mem.get_bump, h.at_, ld1_cells, q3, X_call ca_34, List.map_cons, List.map_nil, true_and]
    refine CallI.con0 (contains_ok (q4.bump _) (hl i)) ?_
    rw [show c - i = (c - (i + 1)) + 1 by omega, whFrom] at hI
    by_cases hx : x ∈ l i
    · rw [if_pos hx] at hI
      have e2 : decide (x ∈ l i) = true := decide_eq_true hx
      simp only [e2, putT, Nat.reduceLT, T_set, X_nil, thenQ_normal, W_cond, ev_T, lk_cons, Nat.reduceEqDiff, if_false, if_true, CDi_t, w16_6, W_seq, w16_5, Mem.next_bump, Nat.le_add_right, bump_bump, Nat.add_assoc, Nat.reduceAdd, X_move, X_assign, W_ret, blockQ_ret, thenQ_ret, roundQ_ret, FinC_ret, resA_tmp, T_get, resA_nil, Option.map_some, okI_some, oneOr1, true_and]
      rw [hI]
      exact TidyE.pure rfl fun _ _ => rfl
    · rw [if_neg hx] at hI
      have e2 : decide (x ∈ l i) = false := decide_eq_false hx
      simp only [e2, putT, Nat.reduceLT, T_set, X_nil, thenQ_normal, W_cond, ev_T, lk_cons, Nat.reduceEqDiff, if_false, if_true, CDi_f, W_skip, blockQ_normal, w16_8, Mem.next_bump, Nat.le_add_right, bump_bump, Nat.add_assoc, Nat.reduceAdd, X_bin EE_sym (op := .add) rfl, ev_const, bin_add, hw, okI_some, X_move, roundQ_normal, true_and]
      exact ⟨c - (i + 1), _, _, by omega, View.temps (l' := [(8, In ((i + 1 : Nat) : Int)), (7, In c), (1, In x), (0, PT b)]) ⟨rfl, rfl, rfl, rfl, trivial⟩, i + 1, _, by omega, rfl, rfl, rfl, hI⟩
  · have q1 : ¬ (i : Int) < (c : Int) := by omega
    have e1 : whQ c l x = -1 := by rw [hI, show c - i = 0 by omega]; rfl
    simp only [w16_9, W_seq, w16_2, Mem.next_bump, Nat.le_add_right, bump_bump, X_bin EE_sym (op := .lss) rfl, Nat.reduceLT, ev_T, lk_cons, Nat.reduceEqDiff, if_false, if_true, bin_lss, q1, decide_false, okI_some, T_set, X_nil, thenQ_normal, W_cond, CDi_f, W_exit, thenQ_exit, roundQ_exit, blockQ_exit, w16_11, Nat.add_assoc, Nat.reduceAdd, X_assign, ev_const, W_ret, FinC_ret, resA_tmp, T_get, resA_nil, Option.map_some, oneOr1, true_and]
    rw [e1]
    exact TidyE.pure rfl fun _ _ => rfl
end
end
end Go.Ab
/- Queue: the core with the fewest. -/
namespace Go.Ab
open Go.Proofs
noncomputable section
set_option maxHeartbeats 2000000
abbrev Um (a : BitVec 32) : Value := .int .u32 (a.toNat : Int)
def fewStep (l : Nat → List Int) (a : BitVec 32) (best : Int) (k : Nat) : Int := if mb a k = true then (if best < 0 ∨ (l k).length < (l best.toNat).length then (k : Int) else best) else best
def fewTo (l : Nat → List Int) (a : BitVec 32) (n : Nat) : Int := (List.range n).foldl (fewStep l a) (-1)
theorem fewTo_succ {l : Nat → List Int} {a : BitVec 32} {n : Nat} : fewTo l a (n + 1) = fewStep l a (fewTo l a n) n := by
  unfold fewTo
  rw [List.range_succ, List.foldl_append]; rfl
theorem fewTo_lt {l : Nat → List Int} {a : BitVec 32} : ∀ {n : Nat}, -1 ≤ fewTo l a n ∧ fewTo l a n < n
  | 0 => by unfold fewTo; simp
  | n + 1 => by
    have := fewTo_lt (l := l) (a := a) (n := n)
    rw [fewTo_succ]
    unfold fewStep
    split
    · split <;> omega
    · omega
theorem boxU {n : Int} : boxL (.int .u32 n) = some [.int .u32 n] := rfl
section
variable {m : Mem} {b : Nat} {O : Nat → Prop} {sl : Nat → Value} {cs : Cells} {c : Nat} {l : Nat → List Int} {a : BitVec 32}
/-- Behind some cores. -/
structure FewI (mr : Mem) (lp o zo : Nat) (tl : List (Nat × Value)) (r : Int) (M : Mem) : Prop where
  next : mr.next ≤ M.next
  low : Low M M.next
  old : ∀ y, y < mr.next → y ≠ o → y ≠ lp → M.get y = mr.get y
  loop : M.get lp = some (.loop ⟨.ready, none, T 32 tl, [10], c32_4, c32_9⟩)
  out : ∃ co, M.get o = some (.cells co true zo) ∧ co.n = 1 ∧ co.nth 0 = some (In r)
theorem FewI.bump {mr M : Mem} {lp o zo : Nat} {tl : List (Nat × Value)} {r : Int} (h : FewI mr lp o zo tl r M) (j : Nat) : FewI mr lp o zo tl r (M.bump j) :=
  ⟨by rw [Mem.next_bump]; exact Nat.le_add_right_of_le h.next, Low.up (Low.bump h.low) (by rw [Mem.next_bump]; omega), h.old, h.loop, h.out⟩
theorem FewI.grow {mr M : Mem} {lp o zo : Nat} {tl : List (Nat × Value)} {r : Int} (h : FewI mr lp o zo tl r M) (hl : mr.get lp ≠ none) (ho : mr.get o ≠ none) : Grow mr M :=
  ⟨h.next, fun y hy e => by rw [h.old y hy (fun e2 => ho (e2 ▸ e)) (fun e2 => hl (e2 ▸ e)), e]⟩
theorem few_it {mr : Mem} {lp bx x y o zo zb zx zy : Nat} {tl : List (Nat × Value)} {co0 : Cells} (hmr : Fresh mr)
    (hl : mr.get lp = some (.loop ⟨.ready, none, T 32 tl, [10], c32_4, c32_9⟩)) (h2 : lk tl 2 = PT bx) (h5 : lk tl 5 = PT o)
    (hx : mr.get x = some (.cells (Cells.ofList [PT b]) true zx)) (hbx : mr.get bx = some (.cells (Cells.ofList [PT b]) true zb)) (hy : mr.get y = some (.cells (Cells.ofList [Um a]) true zy))
    (ho : mr.get o = some (.cells co0 true zo)) (hco : co0.n = 1) (hco0 : co0.nth 0 = some (In (-1)))
    (hxo : x ≠ o) (hbo : bx ≠ o) (hyo : y ≠ o) (hOo : ¬ O o) (hOl : ¬ O lp) (h : QAt mr b O sl cs c l) (hs : Short l) :
    ∃ v m2, Con EE.P 47 [.func (.yield lp) #[] #[], PT x, PT y] mr v m2 ∧ FewI mr lp o zo tl (fewTo l a c) m2 := by
  refine Con.raw EE_ok fn47 (Nat.le_of_ble_eq_true rfl) _ ?_
  simp only [f47, enumV, Nat.zero_add, Nat.reduceAdd, w47, W_scope, w47_9, W_seq, W_label, thenQ_normal, w47_0, Nat.le_refl, X_load EE_sym, Nat.reduceLT, ev_T, lk_cons, Nat.reduceEqDiff, if_false, if_true, load1 lay_23, Mem.get_bump, hx, ld1_cells, nth_ofList, List.getElem?_cons_zero, okI_some, T_set, X_call ca_29, List.map_cons, List.map_nil, true_and]
  refine CallI.con0 (cores_ok (h.bump _)) ?_
  simp only [putT, Nat.reduceLT, T_set, X_move, ev_const, X_nil, thenQ_normal, W_block, w47_8]
  have hc8 := h.c8
  refine WX.loop_of (fun x' t M => ∃ i : Nat, i ≤ c ∧ x' = c - i ∧ t = T 20 [(7, In i), (6, In c), (0, .func (.yield lp) #[] #[]), (1, PT x), (2, PT y)] ∧ FewI mr lp o zo tl (fewTo l a i) M) ?_ (k := c) (t1 := T 20 [(7, In (0 : Nat)), (6, In c), (0, .func (.yield lp) #[] #[]), (1, PT x), (2, PT y)]) (View.temps ⟨rfl, rfl, rfl, rfl, rfl, trivial⟩) ⟨0, by omega, rfl, rfl, FewI.bump (M := mr) ⟨Nat.le_refl _, hmr.none, fun _ _ _ _ => rfl, hl, co0, ho, hco, hco0⟩ _⟩
  rintro x' t M ⟨i, hi, rfl, rfl, hI⟩
  have hnx := hI.next
  by_cases hi2 : i < c
  · have q1 : (i : Int) < (c : Int) := by omega
    have q2 : (0 : Int) ≤ i := by omega
    have q8 : (i : Int) < ((8 : Nat) : Int) := by omega
    have hw : IntKind.i64.wrap ((i : Int) + 1) = ((i + 1 : Nat) : Int) := by rw [wrap_i64 (by omega) (by omega)]; omega
    have hlx : ∀ z w cc, mr.get z = some (.cells cc true w) → z ≠ lp := fun z w cc hz e => by rw [e, hl] at hz; cases hz
    have My : M.get y = some (.cells (Cells.ofList [Um a]) true zy) := by rw [hI.old y (hmr.lt hy) hyo (hlx _ _ _ hy), hy]
    cases hb : mb a i with
    | false =>
      have e0 := mb_f0 hb
      simp only [w47_7, W_seq, w47_1, hnx, X_bin EE_sym (op := .lss) rfl, Nat.reduceLT, ev_T, lk_cons, Nat.reduceEqDiff, if_false, if_true, bin_lss, q1, decide_true, okI_some, T_set, X_nil, thenQ_normal, W_cond, CDi_t, W_skip, W_block, w47_5, w47_2, Mem.next_bump, Nat.le_add_right_of_le, bump_bump, Nat.reduceAdd, X_move, X_assign, w47_3, X_load EE_sym, load1 lay_29, Mem.get_bump, My, ld1_cells, nth_ofList, List.getElem?_cons_zero, X_bin EE_sym (op := .shr) rfl, q2, bin_shr32, Int.toNat_natCast, X_bin EE_sym (op := .and) rfl, ev_const, bin_and1, X_eql EE_sym, eq_int, e0, W_exit, thenQ_exit, blockQ_exit, w47_6, X_bin EE_sym (op := .add) rfl, bin_add, hw, roundQ_normal, true_and]
      refine ⟨c - (i + 1), _, _, by omega, View.temps (l' := [(7, In ((i + 1 : Nat) : Int)), (6, In c), (0, .func (.yield lp) #[] #[]), (1, PT x), (2, PT y)]) ⟨rfl, rfl, rfl, rfl, rfl, trivial⟩, i + 1, by omega, rfl, rfl, ?_⟩
      rw [fewTo_succ, fewStep, if_neg (by rw [hb]; decide)]
      exact hI.bump _
    | true =>
      have e0 := mb_t0 hb
      have Ml := hI.loop
      obtain ⟨co, Mo, k1, k2⟩ := hI.out
      have hol : ¬ o = lp := hlx _ _ _ ho
      have hlo : ¬ lp = o := fun e => hol e.symm
      have Mb : M.get bx = some (.cells (Cells.ofList [PT b]) true zb) := by rw [hI.old bx (hmr.lt hbx) hbo (hlx _ _ _ hbx), hbx]
      have bl : ¬ bx = lp := hlx _ _ _ hbx
      have Mq : QAt M b O sl cs c l := h.keep fun z w hz hw => by rw [hI.old z (hmr.lt hw) (fun e => hOo (e ▸ hz)) (fun e => hOl (e ▸ hz)), hw]
      have bq : ¬ b = lp := hlx _ _ _ h.at_
      have hl1 : ∀ M, lenA EE.P 30 (sl i) M = some (In (l i).length) := fun M => (h.sls i (by omega)).lenA und_30
      have hlt : lp < M.next := Nat.lt_of_lt_of_le (hmr.lt hl) hnx
      have hot : o < M.next := Nat.lt_of_lt_of_le (hmr.lt ho) hnx
      simp only [w47_7, W_seq, w47_1, hnx, X_bin EE_sym (op := .lss) rfl, Nat.reduceLT, ev_T, lk_cons, Nat.reduceEqDiff, if_false, if_true, bin_lss, q1, decide_true, okI_some, T_set, X_nil, thenQ_normal, W_cond, CDi_t, W_skip, W_block, w47_5, w47_2, Mem.next_bump, Nat.le_add_right_of_le, bump_bump, Nat.reduceAdd, X_move, X_assign, w47_3, X_load EE_sym, load1 lay_29, Mem.get_bump, My, ld1_cells, nth_ofList, List.getElem?_cons_zero, X_bin EE_sym (op := .shr) rfl, q2, bin_shr32, Int.toNat_natCast, X_bin EE_sym (op := .and) rfl, ev_const, bin_and1, X_eql EE_sym, eq_int, e0, CDi_f, w47_4, Nat.one_ne_zero, yieldOf_y, Option.isSome_some, X_yield, Option.getD_some, List.toList_toArray, List.map_cons, List.map_nil, List.nil_append, true_and]
      refine CallI.round EE_ok (r := ⟨.ready, none, T 32 tl, [10], c32_4, c32_9⟩) (by simp only [Mem.get_bump, Ml]) rfl rfl (by simp) ?_
      have q3 := h.ck i (by omega)
      by_cases hneg : fewTo l a i < 0
      · have hcond : fewTo l a i < 0 ∨ (l i).length < (l (fewTo l a i).toNat).length := .inl hneg
        simp only [Mem.next_bump, setAll1, Nat.reduceLT, T_set, w32_4, w32_3, Nat.le_refl, bump_bump, Nat.reduceAdd, X_assign, ev_T, lk_cons, if_true, X_nil, putT, X_un EE_sym, Nat.reduceEqDiff, if_false, roundQ1_normal, Nat.add_le_add_iff_left, Nat.reduceLeDiff, Mem.get_bump, Ml, loopI_some, put_bump, w32_9, W_block, w32_8, W_seq, w32_5, Mem.next_put, X_load EE_sym, h5, load1 lay_3, Mem.get_put, hol, Mo, ld1_cells, k2, okI_some, X_bin EE_sym (op := .lss) rfl, ev_const, bin_lss, hneg, decide_true, X_move, X_guard EE_sym, T_get, GDi_tf, X_pick EE_sym, pickV_bool, thenQ_normal, W_cond, CDi_t, w32_7, w32_6, X_store, store1 sz_3, cells_int, st1_cells, List.length_cons, List.length_nil, Nat.zero_add, k1, List.all_cons, oneCell, List.all_nil, Bool.and_self, and_self, blockQ_normal, roundQ2_normal, hlo, un_not, Bool.not_true, CDi_f, W_skip, true_and]
        refine ⟨⟨by simp only [Mem.next_bump, Mem.next_put]; omega, fun x hx e => ?_⟩, ?_⟩
        · simp only [Mem.next_bump, Mem.get_bump] at hx e
          have x1 : ¬ x = lp := fun e2 => by rw [e2, Ml] at e; cases e
          have x2 : ¬ x = o := fun e2 => by rw [e2, Mo] at e; cases e
          simp only [Mem.get_bump, Mem.get_put, x1, x2, if_false, e]
        simp only [w47_6, Mem.next_bump, Mem.next_put, hnx, Nat.le_add_right_of_le, bump_bump, Nat.reduceAdd, X_bin EE_sym (op := .add) rfl, Nat.reduceLT, ev_T, lk_cons, Nat.reduceEqDiff, if_false, if_true, ev_const, bin_add, hw, okI_some, T_set, X_move, X_nil, roundQ_normal, true_and]
        refine ⟨c - (i + 1), _, _, by omega, View.temps (l' := [(7, In ((i + 1 : Nat) : Int)), (6, In c), (0, .func (.yield lp) #[] #[]), (1, PT x), (2, PT y)]) ⟨rfl, rfl, rfl, rfl, rfl, trivial⟩, i + 1, by omega, rfl, rfl, ?_⟩
        rw [fewTo_succ, fewStep, if_pos hb, if_pos hcond]
        refine ⟨by simp only [Mem.next_bump, Mem.next_put]; omega, ?_, fun z hz hzo hzl => ?_, ?_, co.write 0 [In i], ?_, by rw [write_n, k1], by rw [nth_write, if_pos ⟨by omega, by simp, by omega⟩]; rfl⟩
        · (repeat (first | exact Low.up hI.low (by (try simp only [Mem.next_bump, Mem.next_put]); omega) | refine Low.put ?_ (by (try simp only [Mem.next_bump, Mem.next_put]); omega) | refine Low.bump ?_))
        · simp only [Mem.get_bump, Mem.get_put, hzo, hzl, if_false]
          exact hI.old z hz hzo hzl
        · simp only [Mem.get_bump, Mem.get_put, hlo, if_false, if_true, Ml]
        · simp only [Mem.get_bump, Mem.get_put, hol, if_false, if_true, Mo]
      obtain ⟨j, hj⟩ : ∃ j : Nat, fewTo l a i = j := ⟨(fewTo l a i).toNat, by omega⟩
      have hj8 : j < 8 := by have := fewTo_lt (l := l) (a := a) (n := i); omega
      have q5 : (0 : Int) ≤ j := by omega
      have q6 : (j : Int) < ((8 : Nat) : Int) := by omega
      have q7 := h.ck j hj8
      have hl2 : ∀ M, lenA EE.P 30 (sl j) M = some (In (l j).length) := fun M => (h.sls j hj8).lenA und_30
      have hneg' : ¬ (j : Int) < 0 := by omega
      by_cases hless : (l i).length < (l j).length
      · have hcond : fewTo l a i < 0 ∨ (l i).length < (l (fewTo l a i).toNat).length := .inr (by rw [hj]; exact hless)
        have hless' : ((l i).length : Int) < ((l j).length : Int) := by omega
        rw [hj] at k2
        simp only [Mem.next_bump, setAll1, Nat.reduceLT, T_set, w32_4, w32_3, Nat.le_refl, bump_bump, Nat.reduceAdd, X_assign, ev_T, lk_cons, if_true, X_nil, putT, X_un EE_sym, Nat.reduceEqDiff, if_false, roundQ1_normal, Nat.add_le_add_iff_left, Nat.reduceLeDiff, Mem.get_bump, Ml, loopI_some, put_bump, w32_9, W_block, w32_8, W_seq, w32_5, Mem.next_put, X_load EE_sym, h5, load1 lay_3, Mem.get_put, hol, Mo, ld1_cells, k2, okI_some, X_bin EE_sym (op := .lss) rfl, ev_const, bin_lss, hneg', decide_false, X_move, X_guard EE_sym, T_get, GDi_ff, h2, load1 lay_23, bl, Mb, nth_ofList, List.getElem?_cons_zero, X_nilCheck EE_sym, nilV_ptr, X_fieldAddr EE_sym fo_57_1, offV_ptr, Nat.zero_add, X_indexAddr EE_sym, q2, q8, idxV_arr und_55 sz_30, Int.toNat_natCast, Nat.mul_one, load1 lay_30, bq, Mq.at_, q3, X_len EE_sym, hl1, q5, q6, q7, hl2, hless', decide_true, X_pick EE_sym, pickV_bool, Bool.false_eq_true, thenQ_normal, W_cond, CDi_t, w32_7, w32_6, X_store, store1 sz_3, cells_int, st1_cells, List.length_cons, List.length_nil, k1, List.all_cons, oneCell, List.all_nil, Bool.and_self, and_self, blockQ_normal, roundQ2_normal, hlo, un_not, Bool.not_true, CDi_f, W_skip, true_and]
        refine ⟨⟨by simp only [Mem.next_bump, Mem.next_put]; omega, fun x hx e => ?_⟩, ?_⟩
        · simp only [Mem.next_bump, Mem.get_bump] at hx e
          have x1 : ¬ x = lp := fun e2 => by rw [e2, Ml] at e; cases e
          have x2 : ¬ x = o := fun e2 => by rw [e2, Mo] at e; cases e
          simp only [Mem.get_bump, Mem.get_put, x1, x2, if_false, e]
        simp only [w47_6, Mem.next_bump, Mem.next_put, hnx, Nat.le_add_right_of_le, bump_bump, Nat.reduceAdd, X_bin EE_sym (op := .add) rfl, Nat.reduceLT, ev_T, lk_cons, Nat.reduceEqDiff, if_false, if_true, ev_const, bin_add, hw, okI_some, T_set, X_move, X_nil, roundQ_normal, true_and]
        refine ⟨c - (i + 1), _, _, by omega, View.temps (l' := [(7, In ((i + 1 : Nat) : Int)), (6, In c), (0, .func (.yield lp) #[] #[]), (1, PT x), (2, PT y)]) ⟨rfl, rfl, rfl, rfl, rfl, trivial⟩, i + 1, by omega, rfl, rfl, ?_⟩
        rw [fewTo_succ, fewStep, if_pos hb, if_pos hcond]
        refine ⟨by simp only [Mem.next_bump, Mem.next_put]; omega, ?_, fun z hz hzo hzl => ?_, ?_, co.write 0 [In i], ?_, by rw [write_n, k1], by rw [nth_write, if_pos ⟨by omega, by simp, by omega⟩]; rfl⟩
        · (repeat (first | exact Low.up hI.low (by (try simp only [Mem.next_bump, Mem.next_put]); omega) | refine Low.put ?_ (by (try simp only [Mem.next_bump, Mem.next_put]); omega) | refine Low.bump ?_))
        · simp only [Mem.get_bump, Mem.get_put, hzo, hzl, if_false]
          exact hI.old z hz hzo hzl
        · simp only [Mem.get_bump, Mem.get_put, hlo, if_false, if_true, Ml]
        · simp only [Mem.get_bump, Mem.get_put, hol, if_false, if_true, Mo]
      · have hcond : ¬ (fewTo l a i < 0 ∨ (l i).length < (l (fewTo l a i).toNat).length) := by rw [hj]; exact fun e => e.elim hneg' hless
        have hless' : ¬ ((l i).length : Int) < ((l j).length : Int) := by omega
        rw [hj] at k2
        simp only [Mem.next_bump, setAll1, Nat.reduceLT, T_set, w32_4, w32_3, Nat.le_refl, bump_bump, Nat.reduceAdd, X_assign, ev_T, lk_cons, if_true, X_nil, putT, X_un EE_sym, Nat.reduceEqDiff, if_false, roundQ1_normal, Nat.add_le_add_iff_left, Nat.reduceLeDiff, Mem.get_bump, Ml, loopI_some, put_bump, w32_9, W_block, w32_8, W_seq, w32_5, Mem.next_put, X_load EE_sym, h5, load1 lay_3, Mem.get_put, hol, Mo, ld1_cells, k2, okI_some, X_bin EE_sym (op := .lss) rfl, ev_const, bin_lss, hneg', decide_false, X_move, X_guard EE_sym, T_get, GDi_ff, h2, load1 lay_23, bl, Mb, nth_ofList, List.getElem?_cons_zero, X_nilCheck EE_sym, nilV_ptr, X_fieldAddr EE_sym fo_57_1, offV_ptr, Nat.zero_add, X_indexAddr EE_sym, q2, q8, idxV_arr und_55 sz_30, Int.toNat_natCast, Nat.mul_one, load1 lay_30, bq, Mq.at_, q3, X_len EE_sym, hl1, q5, q6, q7, hl2, hless', X_pick EE_sym, pickV_bool, Bool.false_eq_true, thenQ_normal, W_cond, CDi_f, W_skip, blockQ_normal, roundQ2_normal, un_not, Bool.not_true, true_and]
        refine ⟨⟨by simp only [Mem.next_bump, Mem.next_put]; omega, fun x hx e => ?_⟩, ?_⟩
        · simp only [Mem.next_bump, Mem.get_bump] at hx e
          have x1 : ¬ x = lp := fun e2 => by rw [e2, Ml] at e; cases e
          have x2 : ¬ x = o := fun e2 => by rw [e2, Mo] at e; cases e
          simp only [Mem.get_bump, Mem.get_put, x1, if_false, e]
        simp only [w47_6, Mem.next_bump, Mem.next_put, hnx, Nat.le_add_right_of_le, bump_bump, Nat.reduceAdd, X_bin EE_sym (op := .add) rfl, Nat.reduceLT, ev_T, lk_cons, Nat.reduceEqDiff, if_false, if_true, ev_const, bin_add, hw, okI_some, T_set, X_move, X_nil, roundQ_normal, true_and]
        refine ⟨c - (i + 1), _, _, by omega, View.temps (l' := [(7, In ((i + 1 : Nat) : Int)), (6, In c), (0, .func (.yield lp) #[] #[]), (1, PT x), (2, PT y)]) ⟨rfl, rfl, rfl, rfl, rfl, trivial⟩, i + 1, by omega, rfl, rfl, ?_⟩
        rw [fewTo_succ, fewStep, if_pos hb, if_neg hcond]
        refine ⟨by simp only [Mem.next_bump, Mem.next_put]; omega, ?_, fun z hz hzo hzl => ?_, ?_, co, ?_, k1, by rw [hj]; exact k2⟩
        · (repeat (first | exact Low.up hI.low (by (try simp only [Mem.next_bump, Mem.next_put]); omega) | refine Low.put ?_ (by (try simp only [Mem.next_bump, Mem.next_put]); omega) | refine Low.bump ?_))
        · simp only [Mem.get_bump, Mem.get_put, hzl, if_false]
          exact hI.old z hz hzo hzl
        · simp only [Mem.get_bump, Mem.get_put, if_true, Ml]
        · simp only [Mem.get_bump, Mem.get_put, hol, if_false, Mo]
  · have hi3 : i = c := by omega
    subst hi3
    have q1 : ¬ (i : Int) < (i : Int) := by omega
    simp only [w47_7, W_seq, w47_1, hnx, X_bin EE_sym (op := .lss) rfl, Nat.reduceLT, ev_T, lk_cons, Nat.reduceEqDiff, if_false, if_true, bin_lss, q1, decide_false, okI_some, T_set, X_nil, thenQ_normal, W_cond, CDi_f, W_exit, thenQ_exit, roundQ_exit, blockQ_exit, scopeQ_normal, FinX_normal, resA_nil, oneOr0, true_and]
    exact ⟨(hI.bump _).grow (by rw [hl]; simp) (by rw [ho]; simp), hI.bump _⟩
theorem ca_47 : callable EE.P 47 = true := by kernel_rfl
theorem of_ok (hm : Fresh m) : ∃ v m', Con EE.P 42 [PT b, Um a] m v m' ∧ ∃ x y, v = .func (.func 47) #[] [PT x, PT y].toArray ∧ m.next ≤ x ∧ m.next ≤ y ∧ (∃ zx, m'.get x = some (.cells (Cells.ofList [PT b]) true zx)) ∧ (∃ zy, m'.get y = some (.cells (Cells.ofList [Um a]) true zy)) ∧ Nx m m' := by
  refine Con.raw EE_ok fn42 (Nat.le_of_ble_eq_true rfl) _ ?_
  simp only [f42, enumV, Nat.zero_add, w42, W_seq, w42_0, Nat.le_refl, X_box, Nat.reduceLT, ev_T, lk_cons, Nat.one_ne_zero, if_false, if_true, box_ptr, okI_some, Nat.add_zero, T_set, put_bump, Nat.reduceEqDiff, box_int, X_assign, ev_const, X_nil, thenQ_normal, w42_1, Mem.next_bump, Mem.next_put, Nat.le_add_right, bump_bump, Nat.reduceAdd, X_makeFunc EE_sym, List.map_toArray, List.map_nil, List.map_cons, W_ret, FinX_ret, resA_tmp, T_get, resA_nil, Option.map_some, oneOr1, true_and]
  have hn : Nx m (((m.put m.next (AObj.cells (Cells.ofList [PT b]) true 0)).put (m.next + 1) (AObj.cells (Cells.ofList [Um a]) true 0)).bump 5) := ⟨by (try simp only [Mem.next_bump, Mem.next_put]); omega, Fresh.of_low (by have := hm.n64; (try simp only [Mem.next_bump, Mem.next_put]); omega) (by repeat (first | exact Low.of hm (by (try simp only [Mem.next_bump, Mem.next_put]); omega) | refine Low.put ?_ (by (try simp only [Mem.next_bump, Mem.next_put]); omega) | refine Low.bump ?_)), fun y hy => by simp only [Mem.get_bump, Mem.get_put, ne_new hy, ne_new0 hy, if_false]⟩
  exact hn.raw ⟨m.next, m.next + 1, rfl, Nat.le_refl _, by omega, ⟨0, by simp only [Mem.get_bump, Mem.get_put, Nat.left_eq_add, Nat.one_ne_zero, if_false, if_true]⟩, ⟨0, by simp only [Mem.get_bump, Mem.get_put, if_true]⟩, hn⟩
theorem few_ok (h : QAt m b O sl cs c l) (hs : Short l) (hO : ∀ y, O y → y < m.next) : Con EE.P 32 [PT b, Um a] m (In (fewTo l a c)) m := by
  refine Con.of EE_ok fn32 (Nat.le_of_ble_eq_true rfl) Grow.rfl fun hm => ?_
  have hbn := hm.ne h.at_
  simp only [f32, enumV, Nat.zero_add, w32, W_seq, w32_0, Nat.le_refl, X_box, Nat.reduceLT, ev_T, lk_cons, Nat.one_ne_zero, if_false, if_true, box_ptr, okI_some, Nat.add_zero, T_set, put_bump, X_assign, ev_const, X_nil, thenQ_normal, w32_1, Mem.next_bump, Mem.next_put, Nat.le_add_right, bump_bump, Nat.reduceAdd, X_alloc, zero_3, X_store, Nat.reduceEqDiff, store1 sz_3, Mem.get_bump, Mem.get_put, Nat.add_eq_left, cells_int, st1_cells, List.length_cons, List.length_nil, ofList_n, List.all_cons, oneCell, List.all_nil, Bool.and_self, and_self, w32_2, X_load EE_sym, load1 lay_23, Nat.left_eq_add, ld1_cells, nth_ofList, List.getElem?_cons_zero, X_move, X_call ca_42, List.map_cons, List.map_nil, true_and]
  refine CallI.ex2 (of_ok ?_) fun v m1 hv => ?_
  · exact Fresh.of_low (by have := hm.n64; (try simp only [Mem.next_bump, Mem.next_put]); omega) (by repeat (first | exact Low.of hm (by (try simp only [Mem.next_bump, Mem.next_put]); omega) | refine Low.put ?_ (by (try simp only [Mem.next_bump, Mem.next_put]); omega) | refine Low.bump ?_))
  obtain ⟨x, y, rfl, x1, y1, ⟨zx, hx⟩, ⟨zy, hy⟩, hn⟩ := hv
  simp only [Mem.next_bump, Mem.next_put] at x1 y1
  have n1 := hn.next
  simp only [Mem.next_bump, Mem.next_put] at n1
  have o1 : ∀ z, z < m.next → m1.get z = m.get z := fun z hz => by
    rw [hn.old z (by simp only [Mem.next_bump, Mem.next_put]; omega)]
    simp only [Mem.get_bump, Mem.get_put, ne_new hz, ne_new0 hz, if_false]
  have hbx : m1.get m.next = some (.cells (Cells.ofList [PT b]) true 0) := by
    rw [hn.old _ (by simp only [Mem.next_bump, Mem.next_put]; omega)]
    simp only [Mem.get_bump, Mem.get_put, Nat.left_eq_add, Nat.reduceEqDiff, if_false, if_true]
  have ho : m1.get (m.next + 2) = some (.cells ((Cells.ofList [In 0]).write 0 [In (-1)]) true 0) := by
    rw [hn.old _ (by simp only [Mem.next_bump, Mem.next_put]; omega)]
    simp only [Mem.get_bump, Mem.get_put, if_true]
  have hq : QAt m1 b O sl cs c l := h.keep fun z w hz hw => by rw [o1 z (hO z hz), hw]
  have n1' : m.next ≤ m1.next := by omega
  simp only [putT, Nat.reduceLT, T_set, X_nil, thenQ_normal, W_block, w32_10]
  have lx := hn.fresh.lt hx
  have ly := hn.fresh.lt hy
  refine W_rfnx (l' := [(5, PT (m.next + 2))]) (R := fun _ m2 => FewI ((m1.put m1.next (.loop _)).bump 1) m1.next (m.next + 2) 0 _ (fewTo l a c) m2) [] [PT x, PT y] (by omega) (by simp only [ev_T, lk_cons, Nat.reduceLT, Nat.reduceEqDiff, reduceIte]) ca_47 (few_it (bx := m.next) (O := O) (co0 := (Cells.ofList [In 0]).write 0 [In (-1)]) ?_ get_eq_b rfl rfl (by simp only [Mem.get_bump, Mem.get_put, Nat.ne_of_lt lx, if_false]; exact hx) (by simp only [Mem.get_bump, Mem.get_put, show ¬ m.next = m1.next by omega, if_false]; exact hbx) (by simp only [Mem.get_bump, Mem.get_put, Nat.ne_of_lt ly, if_false]; exact hy) (by simp only [Mem.get_bump, Mem.get_put, show ¬ m.next + 2 = m1.next by omega, if_false]; exact ho) rfl (by rw [nth_write, if_pos ⟨by omega, by simp, by decide⟩]; rfl) (by omega) (by omega) (by omega) (fun e => by have := hO _ e; omega) (fun e => by have := hO _ e; omega) (hq.keep fun z w hz hw => ?_) hs) (fun p hp => ?_) (fun v m2 hI => ?_)
  · exact Fresh.of_low (by have := hn.fresh.n64; (try simp only [Mem.next_bump, Mem.next_put]); omega) (by repeat (first | exact Low.of hn.fresh (by (try simp only [Mem.next_bump, Mem.next_put]); omega) | refine Low.put ?_ (by (try simp only [Mem.next_bump, Mem.next_put]); omega) | refine Low.bump ?_))
  · have := hO _ hz
    simp only [Mem.get_bump, Mem.get_put, show ¬ z = m1.next by omega, if_false]
    exact hw
  · simp only [List.mem_singleton] at hp
    subst hp
    exact rv_ptr (.inl ⟨rfl, by omega⟩)
  · have n2 := hI.next
    simp only [Mem.next_bump, Mem.next_put] at n2
    obtain ⟨co, k1, k2, k3⟩ := hI.out
    have k4 : ¬ m.next + 2 = m1.next := by omega
    refine rfnQ_normal hI.loop ?_
    have n2' : m.next ≤ m2.next := by omega
    simp only [blockQ_normal, thenQ_normal, W_seq, w32_11, Mem.next_put, n2', X_load EE_sym, Nat.reduceLT, ev_T, lk_cons, if_true, load1 lay_3, Mem.get_bump, Mem.get_put, k4, k1, if_false, ld1_cells, k3, okI_some, T_set, X_assign, Nat.reduceEqDiff, X_nil, W_ret, FinC_ret, resA_tmp, T_get, resA_nil, Option.map_some, oneOr1, true_and]
    refine TidyE.pure rfl fun z hz => ?_
    have z1 : ¬ z = m1.next := by omega
    simp only [Mem.get_bump, Mem.get_put, z1, if_false]
    rw [hI.old z (by simp only [Mem.next_bump, Mem.next_put]; omega) (by omega) z1]
    simp only [Mem.get_bump, Mem.get_put, z1, if_false]
    exact o1 z hz
theorem may_ok (h : QAt m b O sl cs c l) (hs : Short l) (hO : ∀ y, O y → y < m.next) : Con EE.P 24 [PT b, Um a] m (.bool (decide (0 ≤ fewTo l a c))) m := by
  refine Con.of EE_ok fn24 (Nat.le_of_ble_eq_true rfl) Grow.rfl fun hm => ?_
  simp only [f24, enumV, Nat.zero_add, w24, W_seq, w24_0, Nat.le_refl, X_assign, ev_const, Nat.reduceLT, T_set, X_nil, thenQ_normal, w24_1, Mem.next_bump, Nat.le_add_right, bump_bump, Nat.reduceAdd, X_move, ev_T, lk_cons, Nat.reduceEqDiff, Nat.one_ne_zero, if_false, if_true, X_call ca_32, List.map_cons, List.map_nil, true_and]
  refine CallI.con0 (few_ok (h.bump _) hs fun y hy => by rw [Mem.next_bump]; have := hO y hy; omega) ?_
  simp only [putT, Nat.reduceLT, T_set, X_bin EE_sym (op := .geq) rfl, ev_T, lk_cons, Nat.reduceEqDiff, if_false, if_true, ev_const, bin_geq, okI_some, X_assign, X_nil, thenQ_normal, W_ret, FinC_ret, resA_tmp, T_get, resA_nil, Option.map_some, oneOr1]
  exact TidyE.pure rfl fun _ _ => rfl
end
end
end Go.Ab
/- Queue: calls that turn a slice. -/
namespace Go.Ab
open Go.Proofs
noncomputable section
set_option maxHeartbeats 2000000
section
variable {base i : Nat} {rest : List (Nat × SOp)} {L : List Inst} {t : List Value} {m : Mem} {K : KI} {rt ty : TypeId} {d : Tmp}
theorem X_slice3 {x h mx : Operand} {l : Option Operand} : XWi EE base ((i, ⟨some d, .slice ty x l (some h) (some mx), rt, none⟩) :: rest) L t m (Q := K) = okI (slice3A EE.P ty (ev x t) (l.map (ev · t)) (ev h t) (ev mx t)) (k := ⟨fun v => XWi EE base rest L (t.set d v) m (Q := K)⟩) := by
  refine propext (Iff.trans (XW_pure rfl rfl) ?_)
  rw [pureE_none EE_sym]
  rfl
end
theorem bnd_some {k : IntKind} {x : Int} {top d : Nat} (h0 : 0 ≤ x) (h1 : x ≤ top) : bndA (some (.int k x)) top d = some x.toNat := by
  show (if 0 ≤ x ∧ x ≤ (top : Int) then some x.toNat else none) = _
  rw [if_pos ⟨h0, h1⟩]
theorem slice3_ok {b n c i : Nat} (h : i < n) (hn : n ≤ c) : ∃ v, slice3A EE.P 30 (.slice (some ⟨b, 0, none⟩) n c) (some (In i)) (In ((i + 1 : Nat) : Int)) (In n) = some v := by
  unfold slice3A
  simp only [und_30]
  rw [bnd_some (by omega) (by omega)]
  simp only
  rw [bnd_some (by omega) (by omega)]
  simp only
  rw [bnd_some (by omega) (by omega)]
  have hz : szOf EE.P 3 = some 1 := sz_3
  simp only [hz]
  exact ⟨_, rfl⟩
theorem slice_end {b n : Nat} (hn : n ≠ 0) : sliceA EE.P 30 (.slice (some ⟨b, 0, none⟩) n n) (some (In n)) none = some lost := by
  unfold sliceA
  simp only [und_30]
  rw [show bndA none n n = some n from rfl]
  simp only
  rw [bnd_some (by omega) (by omega)]
  have hz : szOf EE.P 3 = some 1 := sz_3
  simp only [hz]
  rw [if_neg (by omega), if_neg (by omega), if_pos (by omega)]
theorem slice_mid {b n n' c i : Nat} (h : i ≤ n) (hn : n ≤ c) (hi : i < c) : sliceA EE.P 30 (.slice (some ⟨b, 0, none⟩) n' c) (some (In i)) (some (In n)) = some (.slice (some ⟨b, i, none⟩) (n - i) (c - i)) := by
  unfold sliceA
  simp only [und_30]
  rw [bnd_some (by omega) (by omega)]
  simp only
  rw [bnd_some (by omega) (by omega)]
  have hz : szOf EE.P 3 = some 1 := sz_3
  simp only [hz]
  by_cases h0 : i = 0
  · subst h0
    simp
  · rw [if_neg (by omega), if_pos (by omega)]
    simp
theorem src_lost {sz : Nat} {m : Mem} : srcA sz lost m = some ([], 0) := rfl
theorem app_none {id n c b k : Nat} {x : Value} {m : Mem} (hsrc : srcA 1 x m = some ([], 0)) (hn : n ≤ c) : appendA EE.P id #[30, 30] (.slice (some ⟨b, 0, none⟩) n c) x m = some (.slice (some ⟨b, 0, none⟩) n c, m) := by
  obtain ⟨h1, ⟨i, h2, h3, h4⟩, h5, z, h6, h7, h8⟩ := eo30
  unfold appendA
  simp only [List.getElem?_toArray, List.getElem?_cons_zero, List.getElem?_cons_succ, h1, h2, h3, hsrc]
  rw [if_pos trivial, if_pos hn]
theorem zero3 : zeroOf EE.P 3 = some (.int .i64 0) := by kernel_rfl
section
variable {m : Mem}
/-- A slice turned in its place. -/
structure SlTurn (m : Mem) (v : Value) (m' : Mem) (v' : Value) (l' : List Int) : Prop where
  next : m.next ≤ m'.next
  fresh : Fresh m'
  sl : SlI m' v' l'
  blk : slB v' = slB v
  old : ∀ y, y < m.next → slB v ≠ some y → m'.get y = m.get y
theorem eraseIdx_getD {l : List Int} {i j : Nat} (hj : j + 1 < l.length) : (l.eraseIdx i).getD j 0 = if j < i then l.getD j 0 else l.getD (j + 1) 0 := by
  simp only [List.getD_eq_getElem?_getD, List.getElem?_eraseIdx]
  split <;> rfl
theorem del_ok {v : Value} {l : List Int} {i : Nat} (hm : Fresh m) (h : SlI m v l) (hi : i < l.length) (hl : l.length < 4294967296) : ∃ v' m', Con EE.P 39 [v, In i, In ((i + 1 : Nat) : Int)] m v' m' ∧ SlTurn m v m' v' (l.eraseIdx i) := by
  refine Con.raw EE_ok fn39 (Nat.le_of_ble_eq_true rfl) _ ?_
  obtain ⟨b, c, cb, rfl, k1, k2, k3, k4⟩ := h.cons (by omega)
  rw [List.length_map] at k4
  rw [Nat.mul_one] at k2
  obtain ⟨v3, hv3⟩ := slice3_ok (b := b) hi k3
  have hb := hm.lt k1
  have hne : ¬ (i : Int) = ((i + 1 : Nat) : Int) := by omega
  have hsh := slice_hi (P := EE.P) (b := b) (o := 0) (n := l.length) (c := c) (k := .i64) (x := (i : Int)) und_30 sz_3 (by omega) (by omega)
  rw [Int.toNat_natCast] at hsh
  have hlen1 : (l.eraseIdx i).length = l.length - 1 := by rw [List.length_eraseIdx, if_pos hi]
  by_cases hlast : i + 1 = l.length
  · have hs2 : ∃ w, sliceA EE.P 30 (.slice (some ⟨b, 0, none⟩) l.length c) (some (In ((i + 1 : Nat) : Int))) none = some w ∧ ∀ M : Mem, M.get b = some (.cells cb true 1) → srcA 1 w M = some ([], 0) := by
      by_cases hc : l.length = c
      · refine ⟨lost, ?_, fun _ _ => rfl⟩
        rw [hlast, ← hc]
        exact slice_end (by omega)
      · refine ⟨_, slice_lo (P := EE.P) und_30 sz_3 (by omega) (by omega) (by omega) k3, fun M hM => ?_⟩
        rw [src_at, hM, srcC_cells]
        have e : l.length - ((i + 1 : Nat) : Int).toNat = 0 := by omega
        rw [e, Nat.zero_mul]
        rw [sub_lt (by omega)]
        rfl
    obtain ⟨w, hw1, hw2⟩ := hs2
    have happ : ∀ j id, appendA EE.P id #[30, 30] (.slice (some ⟨b, 0, none⟩) i c) w (m.bump j) = some (.slice (some ⟨b, 0, none⟩) i c, m.bump j) := fun j id => app_none (k := 0) (hw2 _ (by rw [Mem.get_bump, k1])) (by omega)
    have hmid := slice_mid (b := b) (n := l.length) (n' := i) (c := c) (i := i) (by omega) k3 (by omega)
    have hcl : ∀ j, clearA EE.P #[30] (.slice (some ⟨b, i, none⟩) (l.length - i) (c - i)) (m.bump j) = some ((m.bump j).put b (.cells (cb.write i [.int .i64 0]) true 1)) := fun j => by
      have hf : clC ((m.bump j).get b) b i (l.length - i) (m.bump j) = some ((m.bump j).put b (.cells (cb.write i [.int .i64 0]) true 1)) := by
        rw [Mem.get_bump, k1]
        simp only [clC]
        rw [if_neg (by omega), if_pos (by omega), show l.length - i = 1 by omega]
        rfl
      rw [clear_int und_30 zero3 (by rw [hf]; rfl), hf]
    simp only [f39, enumV, Nat.zero_add, Nat.reduceAdd, w39, W_seq, w39_0, Nat.le_refl, X_assign, ev_const, Nat.reduceLT, T_set, X_nil, thenQ_normal, w39_1, Mem.next_bump, Nat.le_add_right, bump_bump, X_move, ev_T, lk_cons, Nat.reduceEqDiff, Nat.one_ne_zero, if_false, if_true, X_len EE_sym, len_slice und_30, okI_some, X_slice3, Option.map_some, hv3, w39_2, X_eql EE_sym, eq_int, hne, decide_false, W_cond, CDi_f, W_skip, w39_5, w39_6, X_slice EE_sym, Option.map_none, hsh, hw1, X_append, Nat.add_assoc, happ, w39_7, hmid, X_clear, hcl, put_bump, putT, w39_8, Mem.next_put, W_ret, FinX_ret, resA_tmp, T_get, resA_nil, oneOr1, true_and]
    have hsl : SlTurn m (.slice (some ⟨b, 0, none⟩) l.length c) ((m.put b (.cells (cb.write i [.int .i64 0]) true 1)).bump 29) (.slice (some ⟨b, 0, none⟩) i c) (l.eraseIdx i) := by
      refine ⟨by simp only [Mem.next_bump, Mem.next_put]; omega, Fresh.of_low (by have := hm.n64; simp only [Mem.next_bump, Mem.next_put]; omega) (Low.bump (Low.put (Low.of hm (by simp only [Mem.next_bump, Mem.next_put]; omega)) (by simp only [Mem.next_bump, Mem.next_put]; omega))), ⟨by simp, .inr ⟨b, c, cb.write i [.int .i64 0], by rw [hlen1, ← hlast, Nat.add_sub_cancel], by simp only [Mem.get_bump, Mem.get_put, if_true], by rw [write_n, k2, Nat.mul_one], by omega, fun x hx => ?_⟩⟩, rfl, fun y hy hn => ?_⟩
      · rw [List.length_map, hlen1] at hx
        rw [get_write, if_neg (by omega), k4 x (by omega), il_getD (by omega), il_getD (by omega), eraseIdx_getD (by omega), if_pos (by omega)]
      · simp only [Mem.get_bump, Mem.get_put, show ¬ y = b from fun e => hn (by rw [e]; rfl), if_false]
    exact ⟨⟨hsl.next, fun y hy e => by rw [hsl.old y hy (fun e2 => by cases e2; rw [k1] at e; cases e), e]⟩, hsl⟩
  · have hwl := slice_lo (P := EE.P) (b := b) (o := 0) (n := l.length) (c := c) (k := .i64) (x := ((i + 1 : Nat) : Int)) und_30 sz_3 (by omega) (by omega) (by omega) k3
    rw [Int.toNat_natCast, Nat.zero_add, Nat.mul_one] at hwl
    obtain ⟨k, hk⟩ : ∃ k, k = l.length - (i + 1) := ⟨_, rfl⟩
    rw [← hk] at hwl
    have hnew : ((il l).drop (i + 1)).length = k * 1 := by rw [List.length_drop, List.length_map]; omega
    have hsrc : ∀ j, srcA 1 (.slice (some ⟨b, i + 1, none⟩) k (c - (i + 1))) (m.bump j) = some ((il l).drop (i + 1), k) := fun j => by
      rw [src_at, Mem.get_bump, k1, srcC_cells, sub_get hnew (by omega) fun x hx => ?_]
      · rfl
      · rw [k4 (i + 1 + x) (by omega)]
        simp only [List.getD_eq_getElem?_getD, List.getElem?_drop]
    have hone : ((il l).drop (i + 1)).all oneCell = true := by
      rw [List.all_eq_true]
      intro v hv
      obtain ⟨n, _, rfl⟩ := List.mem_map.1 (List.mem_of_mem_drop hv)
      rfl
    have happ : ∀ j id, appendA EE.P id #[30, 30] (.slice (some ⟨b, 0, none⟩) i c) (.slice (some ⟨b, i + 1, none⟩) k (c - (i + 1))) (m.bump j) = some (.slice (some ⟨b, 0, none⟩) (i + k) c, (m.bump j).put b (.cells (cb.write (i * 1) ((il l).drop (i + 1))) true 1)) := fun j id =>
      app_in eo30 (by rw [Mem.get_bump, k1]) (by rw [k2, Nat.mul_one]) (by omega) (hsrc j) (by omega) hnew hone
    have hmid := slice_mid (b := b) (n := l.length) (n' := i + k) (c := c) (i := i + k) (by omega) k3 (by omega)
    obtain ⟨c2, hc2⟩ : ∃ c2, c2 = cb.write (i * 1) ((il l).drop (i + 1)) := ⟨_, rfl⟩
    rw [← hc2] at happ
    have c2n : c2.n = c := by rw [hc2, write_n, k2]
    have hcl : ∀ j, clearA EE.P #[30] (.slice (some ⟨b, i + k, none⟩) (l.length - (i + k)) (c - (i + k))) ((m.put b (.cells c2 true 1)).bump j) = some (((m.put b (.cells c2 true 1)).bump j).put b (.cells (c2.write (i + k) [.int .i64 0]) true 1)) := fun j => by
      have hf : clC (((m.put b (.cells c2 true 1)).bump j).get b) b (i + k) (l.length - (i + k)) ((m.put b (.cells c2 true 1)).bump j) = some (((m.put b (.cells c2 true 1)).bump j).put b (.cells (c2.write (i + k) [.int .i64 0]) true 1)) := by
        rw [Mem.get_bump, Mem.get_put, if_pos rfl]
        simp only [clC]
        rw [if_neg (by omega), if_pos (by omega), show l.length - (i + k) = 1 by omega]
        rfl
      rw [clear_int und_30 zero3 (by rw [hf]; rfl), hf]
    simp only [f39, enumV, Nat.zero_add, Nat.reduceAdd, w39, W_seq, w39_0, Nat.le_refl, X_assign, ev_const, Nat.reduceLT, T_set, X_nil, thenQ_normal, w39_1, Mem.next_bump, Nat.le_add_right, bump_bump, X_move, ev_T, lk_cons, Nat.reduceEqDiff, Nat.one_ne_zero, if_false, if_true, X_len EE_sym, len_slice und_30, okI_some, X_slice3, Option.map_some, hv3, w39_2, X_eql EE_sym, eq_int, hne, decide_false, W_cond, CDi_f, W_skip, w39_5, w39_6, X_slice EE_sym, Option.map_none, hsh, hwl, X_append, Nat.add_assoc, happ, put_bump, w39_7, Mem.next_put, hmid, X_clear, hcl, putT, w39_8, W_ret, FinX_ret, resA_tmp, T_get, resA_nil, oneOr1, true_and]
    have hsl : SlTurn m (.slice (some ⟨b, 0, none⟩) l.length c) (((m.put b (.cells c2 true 1)).put b (.cells (c2.write (i + k) [.int .i64 0]) true 1)).bump 29) (.slice (some ⟨b, 0, none⟩) (i + k) c) (l.eraseIdx i) := by
      refine ⟨by simp only [Mem.next_bump, Mem.next_put]; omega, Fresh.of_low (by have := hm.n64; simp only [Mem.next_bump, Mem.next_put]; omega) (Low.bump (Low.put (Low.put (Low.of hm (by simp only [Mem.next_bump, Mem.next_put]; omega)) (by simp only [Mem.next_bump, Mem.next_put]; omega)) (by simp only [Mem.next_bump, Mem.next_put]; omega))), ⟨by simp, .inr ⟨b, c, c2.write (i + k) [.int .i64 0], by rw [hlen1]; congr 1; omega, by simp only [Mem.get_bump, Mem.get_put, if_true], by rw [write_n, c2n, Nat.mul_one], by omega, fun x hx => ?_⟩⟩, rfl, fun y hy hn => ?_⟩
      · rw [List.length_map, hlen1] at hx
        rw [get_write, if_neg (by omega), hc2, get_write, il_getD (by omega), eraseIdx_getD (by omega)]
        by_cases hxi : x < i
        · rw [if_neg (by omega), if_pos hxi, k4 x (by omega), il_getD (by omega)]
        · rw [if_pos (by omega), if_neg hxi, List.getD_eq_getElem?_getD, List.getElem?_drop, ← List.getD_eq_getElem?_getD, show i + 1 + (x - i * 1) = x + 1 by omega, il_getD (by omega)]
      · simp only [Mem.get_bump, Mem.get_put, show ¬ y = b from fun e => hn (by rw [e]; rfl), if_false]
    exact ⟨⟨hsl.next, fun y hy e => by rw [hsl.old y hy (fun e2 => by cases e2; rw [k1] at e; cases e), e]⟩, hsl⟩
end
end
end Go.Ab
/- Queue: calls that turn the queues. -/
namespace Go.Ab
open Go.Proofs
noncomputable section
set_option maxHeartbeats 2000000
section
variable {m : Mem} {b : Nat} {O : Nat → Prop} {sl : Nat → Value} {cs : Cells} {c : Nat} {l : Nat → List Int} {a : BitVec 32}
def Ox (O : Nat → Prop) (m M : Mem) (y : Nat) : Prop := O y ∨ (m.next ≤ y ∧ y < M.next)
def updL (l : Nat → List Int) (k : Nat) (l' : List Int) (j : Nat) : List Int := if j = k then l' else l j
theorem QAt.bne (h : QAt m b O sl cs c l) {k : Nat} (hk : k < 8) : slB (sl k) ≠ some b := fun e => by
  obtain ⟨c', h1⟩ := (h.sls k hk).ob e
  rw [h.at_] at h1
  cases h1
theorem QAt.turn {M : Mem} {k : Nat} {v' : Value} {l' : List Int} (h : QAt m b O sl cs c l) (hm : Fresh m) (hO : ∀ y, O y → y < m.next) (hk : k < 8) (hsl : SlI M v' l') (hnx : m.next ≤ M.next) (hblk : ∀ y, slB v' = some y → slB (sl k) = some y ∨ m.next ≤ y ∧ y < M.next)
    (hold : ∀ y, y < m.next → slB (sl k) ≠ some y → M.get y = m.get y) : QAt (M.put b (.cells (cs.write (1 + k) [v']) true 0)) b (Ox O m M) (fun j => if j = k then v' else sl j) (cs.write (1 + k) [v']) c (updL l k l') := by
  have hb := hm.lt h.at_
  have hn := h.n
  refine ⟨by rw [Mem.get_put, if_pos rfl], by rw [write_n, hn], by rw [nth_write, if_neg (by omega), h.c0], fun j hj => ?_, fun j hj => ?_, fun j hj y hy => ?_, .inl h.ob, fun j j' hj hj' hne y hy hy' => ?_, h.c8, h.c1⟩
  · rw [nth_write]
    by_cases e : j = k
    · subst e
      rw [if_pos ⟨Nat.le_refl _, by simp, by omega⟩, if_pos rfl, Nat.sub_self]
      rfl
    · rw [if_neg (by simp only [List.length_cons, List.length_nil]; omega), if_neg e]
      exact h.ck j hj
  · simp only [updL]
    by_cases e : j = k
    · subst e
      rw [if_pos rfl, if_pos rfl]
      refine hsl.keep fun y o hy ho => ?_
      have : y ≠ b := by
        rcases hblk y hy with h1 | h1
        · exact fun e => h.bne hj (e ▸ h1)
        · omega
      rw [Mem.get_put, if_neg this, ho]
    · rw [if_neg e, if_neg e]
      refine (h.sls j hj).keep fun y o hy ho => ?_
      have h1 : y ≠ b := fun e => h.bne hj (e ▸ hy)
      rw [Mem.get_put, if_neg h1, hold y (hO y (h.own j hj y hy)) (fun e2 => h.ne k j hk hj (fun e3 => e e3.symm) y e2 hy), ho]
  · by_cases e : j = k
    · subst e
      rw [if_pos rfl] at hy
      rcases hblk y hy with h1 | h1
      · exact .inl (h.own j hj y h1)
      · exact .inr h1
    · rw [if_neg e] at hy
      exact .inl (h.own j hj y hy)
  · by_cases e : j = k
    · subst e
      rw [if_pos rfl] at hy
      rw [if_neg (fun e => hne e.symm)] at hy'
      rcases hblk y hy with h1 | h1
      · exact h.ne j j' hj hj' hne y h1 hy'
      · have := hO y (h.own j' hj' y hy'); omega
    · rw [if_neg e] at hy
      by_cases e' : j' = k
      · subst e'
        rw [if_pos rfl] at hy'
        rcases hblk y hy' with h1 | h1
        · exact h.ne j j' hj hj' hne y hy h1
        · have := hO y (h.own j hj y hy); omega
      · rw [if_neg e'] at hy'
        exact h.ne j j' hj hj' hne y hy hy'
/-- Behind a call that turns the queues. -/
structure QN (m : Mem) (b : Nat) (O : Nat → Prop) (c : Nat) (l' : Nat → List Int) (m' : Mem) : Prop where
  next : m.next ≤ m'.next
  fresh : Fresh m'
  at_ : ∃ sl cs, QAt m' b (Ox O m m') sl cs c l'
  old : ∀ y, y < m.next → ¬ O y → m'.get y = m.get y
  low : ∀ y, y < m.next → m.get y = none → m'.get y = none
theorem QN.raw {m' : Mem} {v : Value} {l' : Nat → List Int} {R : Value → Mem → Prop} (h : QN m b O c l' m') (hR : R v m') : RawE m m' v R := ⟨⟨h.next, h.low⟩, hR⟩
theorem QAt.ox {M M' : Mem} {l' : Nat → List Int} (h : QAt M b (Ox O m M') sl cs c l') (hn : M'.next ≤ M.next) : QAt M b (Ox O m M) sl cs c l' :=
  ⟨h.at_, h.n, h.c0, h.ck, h.sls, fun k hk y hy => (h.own k hk y hy).imp id fun e => ⟨e.1, Nat.lt_of_lt_of_le e.2 hn⟩, h.ob.imp id fun e => ⟨e.1, Nat.lt_of_lt_of_le e.2 hn⟩, h.ne, h.c8, h.c1⟩
theorem put_ok {x : Int} {k : Nat} (h : QAt m b O sl cs c l) (hm : Fresh m) (hO : ∀ y, O y → y < m.next) (hk : k < 8) (hl : (l k).length < 1073741824) :
    ∃ v m', Con EE.P 31 [PT b, In x, In k] m v m' ∧ v = In k ∧ QN m b O c (updL l k (l k ++ [x])) m' := by
  refine Con.raw EE_ok fn31 (Nat.le_of_ble_eq_true rfl) _ ?_
  have hb := hm.lt h.at_
  have q2 : (0 : Int) ≤ k := by omega
  have q8 : (k : Int) < ((8 : Nat) : Int) := by omega
  have q3 := h.ck k hk
  have hbn := lt_ne hb
  have bs1 : bsV EE.P 30 1 [(0, In x)] = some ([In x], 1) := by kernel_rfl
  simp only [f31, enumV, Nat.zero_add, Nat.reduceAdd, w31, W_seq, w31_0, Nat.le_refl, X_assign, ev_const, Nat.reduceLT, T_set, X_nil, thenQ_normal, w31_1, Mem.next_bump, Nat.le_add_right, bump_bump, X_move, ev_T, lk_cons, Nat.reduceEqDiff, Nat.one_ne_zero, if_false, if_true, X_nilCheck EE_sym, nilV_ptr, okI_some, X_fieldAddr EE_sym fo_57_1, offV_ptr, X_indexAddr EE_sym, q2, q8, idxV_arr und_55 sz_30, Int.toNat_natCast, Nat.mul_one, X_load EE_sym, load1 lay_30, Mem.get_bump, h.at_, ld1_cells, q3, X_bs, List.map_cons, List.map_nil, bs1, Nat.add_assoc, put_bump, X_append, true_and]
  have hsl0 : SlI ((m.put (m.next + 10) (AObj.cells (Cells.ofList [In x]) true 1)).bump 16) (sl k) (l k) := (h.sls k hk).keep fun y o hy ho => by
    simp only [Mem.get_bump, Mem.get_put, lt_ne (hm.lt ho), if_false]; exact ho
  refine okI_app eo30 (k := 1) (new := [In x]) hsl0 (src_put rfl) (by decide) rfl rfl (.inl rfl) ⟨by omega, by omega⟩ fun v' M' hA => ?_
  have hs : SlI M' v' (l k ++ [x]) := by
    simpa only [SlI, il, List.length_append, List.map_append, List.map_cons, List.map_nil, List.length_cons, List.length_nil] using hA.sl
  have n1 := hA.next
  simp only [Mem.next_bump, Mem.next_put] at n1
  have n2 : m.next ≤ M'.next := by omega
  have hold : ∀ y, y < m.next → slB (sl k) ≠ some y → M'.get y = m.get y := fun y hy hyb => by
    rw [hA.old y (by omega) hyb]
    simp only [Mem.get_bump, Mem.get_put, lt_ne hy, if_false]
  have hMb : M'.get b = some (.cells cs true 0) := by rw [hold b hb (h.bne hk), h.at_]
  have hblk : ∀ y, slB v' = some y → slB (sl k) = some y ∨ m.next ≤ y ∧ y < M'.next := fun y hy => by
    rcases hA.blk with ⟨h1, _⟩ | h1
    · exact .inl (h1 ▸ hy)
    · rw [h1] at hy; cases hy; exact .inr ⟨by omega, by omega⟩
  have hlow : ∀ y, y ≠ m.next + 11 → y ≠ m.next + 10 → m.get y = none → M'.get y = none := fun y h1 h2 e => hA.low y h1 (by simp only [Mem.get_bump, Mem.get_put, h2, if_false]; exact e)
  have hQ := QAt.turn h hm hO hk hs n2 hblk hold
  obtain ⟨b', c', cs', hv', -⟩ := hs.cons (by simp)
  rw [show (l k ++ [x]).length = (l k).length + 1 by simp] at hv'
  subst hv'
  have h9 := h.n
  have hk9 : 1 + (k + 1) ≤ 9 := by omega
  simp only [Nat.reduceLT, T_set, X_move, ev_T, lk_cons, Nat.reduceEqDiff, Nat.one_ne_zero, if_false, if_true, X_nilCheck EE_sym, nilV_ptr, okI_some, X_fieldAddr EE_sym fo_57_1, offV_ptr, Nat.zero_add, X_indexAddr EE_sym, q2, q8, idxV_arr und_55 sz_30, Int.toNat_natCast, Nat.mul_one, X_store, store1 sz_30, hMb, cells_slice, st1_cells, List.length_cons, List.length_nil, Nat.add_assoc, h9, hk9, List.all_cons, oneCell, List.all_nil, Bool.and_self, and_self, X_nil, thenQ_normal, W_seq, w31_2, Mem.next_put, n2, X_assign, W_ret, FinX_ret, resA_tmp, T_get, resA_nil, Option.map_some, oneOr1, true_and]
  have hN : QN m b O c (updL l k (l k ++ [x])) ((M'.put b (.cells (cs.write (1 + k) [.slice (some ⟨b', 0, none⟩) ((l k).length + 1) c']) true 0)).bump 2) := by
    refine ⟨by simp only [Mem.next_bump, Mem.next_put]; omega, Fresh.of_low (by have := hm.n64; simp only [Mem.next_bump, Mem.next_put]; omega) (Low.bump (Low.put (fun y hy => ?_) (by simp only [Mem.next_bump, Mem.next_put]; omega))), ⟨_, _, (hQ.bump 2).ox (by simp only [Mem.next_bump, Mem.next_put]; omega)⟩, fun y hy hyO => ?_, fun y hy e => ?_⟩
    · simp only [Mem.next_bump, Mem.next_put] at hy
      exact hlow y (by omega) (by omega) (hm.none y (by omega))
    · have h1 : y ≠ b := fun e => hyO (e ▸ h.ob)
      simp only [Mem.get_bump, Mem.get_put, h1, if_false]
      exact hold y hy fun e => hyO (h.own k hk y e)
    · have h1 : y ≠ b := fun e2 => by rw [e2, h.at_] at e; cases e
      simp only [Mem.get_bump, Mem.get_put, h1, if_false]
      exact hlow y (by omega) (by omega) e
  exact ⟨⟨hN.next, hN.low⟩, rfl, hN⟩
end
end
end Go.Ab
/- Queue: Cut, Place, Move, List, New. -/
namespace Go.Ab
open Go.Proofs
noncomputable section
set_option maxHeartbeats 2000000
section
variable {m : Mem} {b : Nat} {O : Nat → Prop} {sl : Nat → Value} {cs : Cells} {c : Nat} {l : Nat → List Int} {a : BitVec 32} {x : Int}
theorem cut_no (h : QAt m b O sl cs c l) (hs : Short l) (hw : whQ c l x < 0) : Con EE.P 18 [PT b, In x] m (.bool false) m := by
  refine Con.of EE_ok fn18 (Nat.le_of_ble_eq_true rfl) Grow.rfl fun hm => ?_
  simp only [f18, enumV, Nat.zero_add, w18, W_seq, w18_0, Nat.le_refl, X_assign, ev_const, Nat.reduceLT, T_set, X_nil, thenQ_normal, w18_1, Mem.next_bump, Nat.le_add_right, bump_bump, Nat.reduceAdd, X_move, ev_T, lk_cons, Nat.reduceEqDiff, Nat.one_ne_zero, if_false, if_true, X_call ca_16, List.map_cons, List.map_nil, true_and]
  refine CallI.con0 (where_ok (h.bump _) hs) ?_
  simp only [putT, Nat.reduceLT, T_set, X_assign, ev_T, lk_cons, Nat.reduceEqDiff, if_false, if_true, X_nil, thenQ_normal, W_seq, w18_2, Mem.next_bump, Nat.le_add_right, bump_bump, Nat.reduceAdd, X_move, X_bin EE_sym (op := .lss) rfl, ev_const, bin_lss, hw, decide_true, okI_some, W_cond, CDi_t, w18_4, w18_3, W_ret, thenQ_ret, FinC_ret, resA_tmp, T_get, resA_nil, Option.map_some, oneOr1, true_and]
  exact TidyE.pure rfl fun _ _ => rfl
theorem idx_in {l : List Int} (h : x ∈ l) : ∃ i : Nat, i < l.length ∧ idxL l x = i ∧ l.getD i 0 = x := by
  rcases idxFrom_spec (x := x) (l := l) (i := 0) with ⟨_, h2⟩ | ⟨j, h1, h2, h3, _⟩
  · exact absurd h h2
  · exact ⟨j, h1, by rw [idxL, h3, Nat.zero_add], h2⟩
theorem cut_yes {k i : Nat} (h : QAt m b O sl cs c l) (hm : Fresh m) (hO : ∀ y, O y → y < m.next) (hs : Short l) (hk8 : k < 8) (hw : whQ c l x = k) (hi : i < (l k).length) (hix : idxL (l k) x = i) :
    ∃ v m', Con EE.P 18 [PT b, In x] m v m' ∧ v = .bool true ∧ QN m b O c (updL l k ((l k).eraseIdx i)) m' := by
  refine Con.raw EE_ok fn18 (Nat.le_of_ble_eq_true rfl) _ ?_
  have hb := hm.lt h.at_
  have q1 : ¬ (k : Int) < 0 := by omega
  have q2 : (0 : Int) ≤ k := by omega
  have q8 : (k : Int) < ((8 : Nat) : Int) := by omega
  have q3 := h.ck k hk8
  have hsi := hs k
  have hwi : IntKind.i64.wrap ((i : Int) + 1) = ((i + 1 : Nat) : Int) := by rw [wrap_i64 (by omega) (by omega)]; omega
  simp only [f18, enumV, Nat.zero_add, w18, W_seq, w18_0, Nat.le_refl, X_assign, ev_const, Nat.reduceLT, T_set, X_nil, thenQ_normal, w18_1, Mem.next_bump, Nat.le_add_right, bump_bump, Nat.reduceAdd, X_move, ev_T, lk_cons, Nat.reduceEqDiff, Nat.one_ne_zero, if_false, if_true, X_call ca_16, List.map_cons, List.map_nil, true_and]
  refine CallI.con0 (where_ok (h.bump _) hs) ?_
  rw [hw]
  simp only [putT, Nat.reduceLT, T_set, X_assign, ev_T, lk_cons, Nat.reduceEqDiff, if_false, if_true, X_nil, thenQ_normal, W_seq, w18_2, Mem.next_bump, Nat.le_add_right, bump_bump, Nat.reduceAdd, X_move, X_bin EE_sym (op := .lss) rfl, ev_const, bin_lss, q1, decide_false, okI_some, W_cond, CDi_f, W_skip, w18_5, Nat.one_ne_zero, X_nilCheck EE_sym, nilV_ptr, X_fieldAddr EE_sym fo_57_1, offV_ptr, Nat.zero_add, X_indexAddr EE_sym, q2, q8, idxV_arr und_55 sz_30, Int.toNat_natCast, Nat.mul_one, X_load EE_sym, load1 lay_30, Mem.get_bump, h.at_, ld1_cells, q3, X_call ca_38, List.map_cons, List.map_nil, true_and]
  refine CallI.con0 (index_ok ((h.sls k hk8).bump _) (hs k)) ?_
  rw [hix]
  simp only [putT, Nat.reduceLT, T_set, X_assign, ev_T, lk_cons, Nat.reduceEqDiff, if_false, if_true, X_nil, thenQ_normal, W_seq, w18_6, Mem.next_bump, Nat.le_add_right, bump_bump, Nat.reduceAdd, X_move, Nat.one_ne_zero, X_nilCheck EE_sym, nilV_ptr, okI_some, X_fieldAddr EE_sym fo_57_1, offV_ptr, Nat.zero_add, X_indexAddr EE_sym, q2, q8, idxV_arr und_55 sz_30, Int.toNat_natCast, Nat.mul_one, X_load EE_sym, load1 lay_30, Mem.get_bump, h.at_, ld1_cells, q3, X_bin EE_sym (op := .add) rfl, ev_const, bin_add, hwi, X_call ca_39, List.map_cons, List.map_nil, true_and]
  refine CallI.ex2 (del_ok (m := m.bump _) hm.bump ((h.sls k hk8).bump _) hi (hs k)) fun v' M' hT => ?_
  have n1 := hT.next
  simp only [Mem.next_bump] at n1
  have n2 : m.next ≤ M'.next := by omega
  have hold : ∀ y, y < m.next → slB (sl k) ≠ some y → M'.get y = m.get y := fun y hy hyb => hT.old y (by rw [Mem.next_bump]; omega) hyb
  have hMb : M'.get b = some (.cells cs true 0) := by rw [hold b hb (h.bne hk8), h.at_]
  have hQ := QAt.turn h hm hO hk8 hT.sl n2 (fun y hy => .inl (by rw [← hT.blk]; exact hy)) hold
  have hv' : ∃ p n c', v' = .slice p n c' := by
    rcases hT.sl.at_ with ⟨_, h⟩ | ⟨b', c', cs', h, _⟩
    · exact ⟨_, _, _, h⟩
    · exact ⟨_, _, _, h⟩
  obtain ⟨p', n', c', rfl⟩ := hv'
  have h9 := h.n
  have hk9 : 1 + (k + 1) ≤ 9 := by omega
  simp only [putT, Nat.reduceLT, T_set, X_move, ev_T, lk_cons, Nat.reduceEqDiff, Nat.one_ne_zero, if_false, if_true, X_nilCheck EE_sym, nilV_ptr, okI_some, X_fieldAddr EE_sym fo_57_1, offV_ptr, Nat.zero_add, X_indexAddr EE_sym, q2, q8, idxV_arr und_55 sz_30, Int.toNat_natCast, Nat.mul_one, X_store, store1 sz_30, hMb, cells_slice, st1_cells, List.length_cons, List.length_nil, Nat.add_assoc, h9, hk9, List.all_cons, oneCell, List.all_nil, Bool.and_self, and_self, X_nil, thenQ_normal, W_seq, w18_7, Mem.next_put, n2, X_assign, ev_const, W_ret, FinX_ret, resA_tmp, T_get, resA_nil, Option.map_some, oneOr1, true_and]
  have hf := hT.fresh
  have hlb := hf.lt hMb
  have hnone : ∀ y, y < m.next → m.get y = none → M'.get y = none := fun y hy e => by
    rw [hold y hy (fun e2 => by (obtain ⟨cc, e3⟩ := (h.sls k hk8).ob e2; rw [e3] at e; cases e)), e]
  have hN : ∀ j, QN m b O c (updL l k ((l k).eraseIdx i)) ((M'.put b (.cells (cs.write (1 + k) [.slice p' n' c']) true 0)).bump j) := fun j => by
    refine ⟨by simp only [Mem.next_bump, Mem.next_put]; omega, Fresh.of_low (by have := hm.n64; simp only [Mem.next_bump, Mem.next_put]; omega) (Low.bump (Low.put (fun y hy => hf.none y (by simp only [Mem.next_bump, Mem.next_put] at hy; omega)) (by simp only [Mem.next_bump, Mem.next_put]; omega))), ⟨_, _, (hQ.bump j).ox (by simp only [Mem.next_bump, Mem.next_put]; omega)⟩, fun y hy hyO => ?_, fun y hy e => ?_⟩
    · have h1 : y ≠ b := fun e => hyO (e ▸ h.ob)
      simp only [Mem.get_bump, Mem.get_put, h1, if_false]
      exact hold y hy fun e => hyO (h.own k hk8 y e)
    · have h1 : y ≠ b := fun e2 => by rw [e2, h.at_] at e; cases e
      simp only [Mem.get_bump, Mem.get_put, h1, if_false]
      exact hnone y hy e
  exact ⟨⟨(hN _).next, (hN _).low⟩, rfl, hN _⟩
/-! lists -/
theorem eq_sl_nil {xo yo : Operand} {p : Addr} {n c : Nat} : eqA EE.P .eql 30 xo yo (.slice (some p) n c) (.slice none 0 0) m = some (.bool false) := by
  unfold eqA
  simp [und_30, plain, plainN]
theorem eq_nil_nil : eqA EE.P .eql 30 (.tmp 3) (.const (.slice none 0 0)) (.slice none 0 0) (.slice none 0 0) m = some (.bool true) := by kernel_rfl
theorem bs0 : bsV EE.P 30 0 [] = some ([], 1) := by kernel_rfl
/-- A list that is new. -/
structure NewL (m m' : Mem) (v : Value) (l : List Int) : Prop where
  sl : SlI m' v l
  nx : Nx m m'
  new : ∀ y, slB v = some y → m.next ≤ y
theorem clone_ok {v : Value} {k : List Int} (hm : Fresh m) (h : SlI m v k) (hl : k.length < 1073741824) : ∃ v' m', Con EE.P 33 [v] m v' m' ∧ NewL m m' v' k := by
  refine Con.raw EE_ok fn33 (Nat.le_of_ble_eq_true rfl) _ ?_
  rcases h.at_ with ⟨h1, rfl⟩ | ⟨b, c, cb, rfl, k1, k2, k3, k4⟩
  · simp only [f33, enumV, w33, W_seq, w33_0, Nat.le_refl, X_assign, ev_const, Nat.reduceLT, T_set, X_nil, thenQ_normal, w33_1, Mem.next_bump, Nat.le_add_right, bump_bump, Nat.reduceAdd, X_move, ev_T, lk_cons, Nat.reduceEqDiff, if_true, if_false, X_eql EE_sym, eq_nil_nil, okI_some, W_cond, CDi_t, w33_3, w33_2, W_ret, thenQ_ret, FinX_ret, resA_tmp, T_get, resA_nil, Option.map_some, oneOr1, true_and]
    exact ((Nx.refl hm).bump 4).raw ⟨h.bump 4, (Nx.refl hm).bump 4, fun y hy => by cases hy⟩
  · simp only [f33, enumV, w33, W_seq, w33_0, Nat.le_refl, X_assign, ev_const, Nat.reduceLT, T_set, X_nil, thenQ_normal, w33_1, Mem.next_bump, Nat.le_add_right, bump_bump, Nat.reduceAdd, X_move, ev_T, lk_cons, Nat.reduceEqDiff, if_true, if_false, X_eql EE_sym, eq_sl_nil, okI_some, W_cond, CDi_f, W_skip, w33_4, X_bs, List.map_nil, bs0, Nat.add_zero, put_bump, X_append, Nat.add_assoc, true_and]
    have hsrc : ∀ j i o, m.next ≤ i → srcA 1 (.slice (some ⟨b, 0, none⟩) k.length c) ((m.put i o).bump j) = some (il k, k.length) := fun j i o hi => by
      have : ¬ b = i := by have := hm.lt k1; omega
      rw [src_at, Mem.get_bump, Mem.get_put, if_neg this, k1, srcC_cells, sub_get (l := il k) (by simp) (by omega) fun x hx => ?_]
      · rfl
      · rw [Nat.zero_add, k4 x (by simpa using hx)]
    by_cases h0 : k.length = 0
    · have hk0 : k = [] := List.length_eq_zero_iff.1 h0
      subst hk0
      rw [app_none (k := 0) (hsrc _ _ _ (by omega)) (Nat.le_refl _), okI_some]
      simp only [List.length_nil, Nat.reduceLT, T_set, X_assign, ev_T, lk_cons, Nat.reduceEqDiff, if_false, if_true, X_nil, thenQ_normal, W_ret, FinX_ret, resA_tmp, T_get, resA_nil, Option.map_some, okI_some, oneOr1]
      have hn : Nx m ((m.put (m.next + 3) (AObj.cells (Cells.ofList []) true 1)).bump 7) := ⟨by (try simp only [Mem.next_bump, Mem.next_put]); omega, Fresh.of_low (by have := hm.n64; (try simp only [Mem.next_bump, Mem.next_put]); omega) (by repeat (first | exact Low.of hm (by (try simp only [Mem.next_bump, Mem.next_put]); omega) | refine Low.put ?_ (by (try simp only [Mem.next_bump, Mem.next_put]); omega) | refine Low.bump ?_)), fun y hy => by simp only [Mem.get_bump, Mem.get_put, ne_new hy, if_false]⟩
      exact hn.raw ⟨⟨by simp, .inr ⟨m.next + 3, 0, Cells.ofList [], rfl, by simp only [Mem.get_bump, Mem.get_put, if_true], by simp [ofList_n], Nat.le_refl _, by simp⟩⟩, hn, fun y hy => by cases hy; show m.next ≤ m.next + 3; omega⟩
    have hone : (il k).all oneCell = true := by
      rw [List.all_eq_true]
      intro v hv
      obtain ⟨n, _, rfl⟩ := List.mem_map.1 hv
      rfl
    refine okI_app eo30 (n := 0) (fl := []) (k := k.length) (new := il k) ⟨by simp, .inr ⟨_, 0, Cells.ofList [], rfl, by simp only [Mem.get_bump, Mem.get_put, if_true], by simp [ofList_n], Nat.le_refl _, by simp⟩⟩ (hsrc _ _ _ (by omega)) h0 (by simp) hone (.inr fun _ _ e => by cases e; rfl) ⟨by omega, by omega⟩ fun v' M' hA => ?_
    have n1 := hA.next
    simp only [Mem.next_bump, Mem.next_put] at n1
    have n2 : m.next ≤ M'.next := by omega
    simp only [Nat.reduceLT, T_set, X_assign, ev_T, lk_cons, Nat.reduceEqDiff, if_false, if_true, X_nil, thenQ_normal, W_ret, FinX_ret, resA_tmp, T_get, resA_nil, Option.map_some, okI_some, oneOr1]
    have hold : ∀ y, y < m.next → M'.get y = m.get y := fun y hy => by
      rw [hA.old y (by omega) (fun e => by have e : m.next + 3 = y := Option.some.inj e; omega)]
      simp only [Mem.get_bump, Mem.get_put, lt_ne hy, if_false]
    have hn : Nx m M' := ⟨n2, Fresh.of_low (by have := hm.n64; omega) fun y hy => hA.low y (by omega) (by simp only [Mem.get_bump, Mem.get_put, show ¬ y = m.next + 3 by omega, if_false]; exact hm.none y (by omega)), hold⟩
    have hs : SlI M' v' k := by simpa only [SlI, Nat.zero_add, List.nil_append] using hA.sl
    refine ⟨⟨hn.next, fun y hy e => by rw [hn.old y hy, e]⟩, hs, hn, fun y hy => ?_⟩
    rcases hA.blk with ⟨h1, _⟩ | h1
    · rw [h1] at hy; cases hy; show m.next ≤ m.next + 3; omega
    · rw [h1] at hy; cases hy; omega
theorem list_ok {k : Nat} (h : QAt m b O sl cs c l) (hm : Fresh m) (hk : k < c) (hl : (l k).length < 1073741824) : ∃ v m', Con EE.P 11 [PT b, In k] m v m' ∧ NewL m m' v (l k) := by
  refine Con.raw EE_ok fn11 (Nat.le_of_ble_eq_true rfl) _ ?_
  have h8 := h.c8
  have q2 : (0 : Int) ≤ k := by omega
  have q8 : (k : Int) < ((8 : Nat) : Int) := by omega
  have q3 := h.ck k (by omega)
  have hi : (decide (0 ≤ (k : Int) ∧ (k : Int) < c)) = true := decide_eq_true ⟨q2, by omega⟩
  simp only [f11, enumV, Nat.zero_add, w11, W_seq, w11_0, Nat.le_refl, X_assign, ev_const, Nat.reduceLT, T_set, X_nil, thenQ_normal, w11_1, Mem.next_bump, Nat.le_add_right, bump_bump, Nat.reduceAdd, X_move, ev_T, lk_cons, Nat.reduceEqDiff, Nat.one_ne_zero, if_false, if_true, X_call ca_30, List.map_cons, List.map_nil, true_and]
  refine CallI.con0 (is_ok (h.bump _)) ?_
  rw [hi]
  simp only [putT, Nat.reduceLT, T_set, X_un EE_sym, ev_T, lk_cons, Nat.reduceEqDiff, if_false, if_true, un_not, Bool.not_true, okI_some, X_nil, thenQ_normal, W_cond, CDi_f, W_skip, W_seq, w11_4, Mem.next_bump, Nat.le_add_right, bump_bump, Nat.reduceAdd, X_move, Nat.one_ne_zero, X_nilCheck EE_sym, nilV_ptr, X_fieldAddr EE_sym fo_57_1, offV_ptr, Nat.zero_add, X_indexAddr EE_sym, q2, q8, idxV_arr und_55 sz_30, Int.toNat_natCast, Nat.mul_one, X_load EE_sym, load1 lay_30, Mem.get_bump, h.at_, ld1_cells, q3, X_call ca_33, List.map_cons, List.map_nil, true_and]
  refine CallI.ex2 (clone_ok (m := m.bump _) hm.bump ((h.sls k (by omega)).bump _) hl) fun v M hN => ?_
  have n1 := hN.nx.next
  simp only [Mem.next_bump] at n1
  have n2 : m.next ≤ M.next := by omega
  simp only [putT, Nat.reduceLT, T_set, X_assign, ev_T, lk_cons, Nat.reduceEqDiff, if_false, if_true, X_nil, thenQ_normal, W_ret, FinX_ret, resA_tmp, T_get, resA_nil, Option.map_some, okI_some, oneOr1]
  have hn := hN.nx.of_bump
  exact ⟨⟨hn.next, fun y hy e => by rw [hn.old y hy, e]⟩, hN.sl, hn, fun y hy => by have := hN.new y hy; rw [Mem.next_bump] at this; omega⟩
theorem list_no {k : Int} (h : QAt m b O sl cs c l) (hk : ¬ (0 ≤ k ∧ k < c)) : Con EE.P 11 [PT b, In k] m (.slice none 0 0) m := by
  refine Con.of EE_ok fn11 (Nat.le_of_ble_eq_true rfl) Grow.rfl fun hm => ?_
  have hi : (decide (0 ≤ k ∧ k < (c : Int))) = false := decide_eq_false hk
  simp only [f11, enumV, Nat.zero_add, w11, W_seq, w11_0, Nat.le_refl, X_assign, ev_const, Nat.reduceLT, T_set, X_nil, thenQ_normal, w11_1, Mem.next_bump, Nat.le_add_right, bump_bump, Nat.reduceAdd, X_move, ev_T, lk_cons, Nat.reduceEqDiff, Nat.one_ne_zero, if_false, if_true, X_call ca_30, List.map_cons, List.map_nil, true_and]
  refine CallI.con0 (is_ok (h.bump _)) ?_
  rw [hi]
  simp only [putT, Nat.reduceLT, T_set, X_un EE_sym, ev_T, lk_cons, Nat.reduceEqDiff, if_false, if_true, un_not, Bool.not_false, okI_some, X_nil, thenQ_normal, W_cond, CDi_t, w11_3, W_seq, w11_2, Mem.next_bump, Nat.le_add_right, bump_bump, Nat.reduceAdd, X_assign, ev_const, W_ret, thenQ_ret, FinC_ret, resA_tmp, T_get, resA_nil, Option.map_some, oneOr1, true_and]
  exact TidyE.pure rfl fun _ _ => rfl
/-! a new one -/
theorem b57 {n : Int} : buildA EE.P 57 [(0, In n)] = some (.agg [In n, .slice none 0 0, .slice none 0 0, .slice none 0 0, .slice none 0 0, .slice none 0 0, .slice none 0 0, .slice none 0 0, .slice none 0 0].toArray) := by kernel_rfl
theorem new_bad {n : Int} (hn : ¬ (1 ≤ n ∧ n ≤ 8)) : Con EE.P 9 [In n] m (.tuple [.pointer none, In 2].toArray) m := by
  refine Con.of EE_ok fn9 (Nat.le_of_ble_eq_true rfl) Grow.rfl fun hm => ?_
  by_cases h1 : n < 1
  · simp only [f9, enumV, w9, W_seq, w9_0, Nat.le_refl, X_assign, ev_const, Nat.reduceLT, T_set, X_nil, thenQ_normal, w9_1, Mem.next_bump, Nat.le_add_right, bump_bump, Nat.reduceAdd, X_move, ev_T, lk_cons, Nat.reduceEqDiff, if_true, if_false, X_bin EE_sym (op := .lss) rfl, bin_lss, h1, decide_true, okI_some, X_guard EE_sym, T_get, GDi_tf, putT, X_pick EE_sym, pickV_bool, W_cond, CDi_t, w9_3, w9_2, W_ret, thenQ_ret, FinC_ret, resA_tmp, resA_nil, Option.map_some, oneOr2, true_and]
    exact TidyE.pure rfl fun _ _ => rfl
  · have h2 : 8 < n := by omega
    simp only [f9, enumV, w9, W_seq, w9_0, Nat.le_refl, X_assign, ev_const, Nat.reduceLT, T_set, X_nil, thenQ_normal, w9_1, Mem.next_bump, Nat.le_add_right, bump_bump, Nat.reduceAdd, X_move, ev_T, lk_cons, Nat.reduceEqDiff, if_true, if_false, X_bin EE_sym (op := .lss) rfl, bin_lss, h1, decide_false, okI_some, X_guard EE_sym, T_get, GDi_ff, X_bin EE_sym (op := .gtr) rfl, bin_gtr, h2, decide_true, X_pick EE_sym, pickV_bool, Bool.false_eq_true, W_cond, CDi_t, w9_3, w9_2, W_ret, thenQ_ret, FinC_ret, resA_tmp, resA_nil, Option.map_some, oneOr2, true_and]
    exact TidyE.pure rfl fun _ _ => rfl
theorem new_ok {n : Nat} (hm : Fresh m) (h1 : 1 ≤ n) (h2 : n ≤ 8) : ∃ v m', Con EE.P 9 [In n] m v m' ∧ ∃ q, v = .tuple [PT q, In 0].toArray ∧ m.next ≤ q ∧ Nx m m' ∧ (∃ sl cs, QAt m' q (fun y => y = q) sl cs n (fun _ => [])) := by
  refine Con.raw EE_ok fn9 (Nat.le_of_ble_eq_true rfl) _ ?_
  have q1 : ¬ (n : Int) < 1 := by omega
  have q2 : ¬ (8 : Int) < n := by omega
  simp only [f9, enumV, w9, W_seq, w9_0, Nat.le_refl, X_assign, ev_const, Nat.reduceLT, T_set, X_nil, thenQ_normal, w9_1, Mem.next_bump, Nat.le_add_right, bump_bump, Nat.reduceAdd, X_move, ev_T, lk_cons, Nat.reduceEqDiff, if_true, if_false, X_bin EE_sym (op := .lss) rfl, bin_lss, q1, decide_false, okI_some, X_guard EE_sym, T_get, GDi_ff, X_bin EE_sym (op := .gtr) rfl, bin_gtr, q2, X_pick EE_sym, pickV_bool, Bool.false_eq_true, W_cond, CDi_f, W_skip, w9_4, X_build EE_sym, List.map_cons, List.map_nil, b57, X_box, box_agg, Nat.add_assoc, put_bump, W_ret, FinX_ret, resA_tmp, resA_nil, Option.map_some, oneOr2, true_and]
  have hn : Nx m ((m.put (m.next + 10) (AObj.cells (Cells.ofList [In n, .slice none 0 0, .slice none 0 0, .slice none 0 0, .slice none 0 0, .slice none 0 0, .slice none 0 0, .slice none 0 0, .slice none 0 0]) true 0)).bump 13) := ⟨by (try simp only [Mem.next_bump, Mem.next_put]); omega, Fresh.of_low (by have := hm.n64; (try simp only [Mem.next_bump, Mem.next_put]); omega) (by repeat (first | exact Low.of hm (by (try simp only [Mem.next_bump, Mem.next_put]); omega) | refine Low.put ?_ (by (try simp only [Mem.next_bump, Mem.next_put]); omega) | refine Low.bump ?_)), fun y hy => by simp only [Mem.get_bump, Mem.get_put, ne_new hy, if_false]⟩
  refine hn.raw ⟨m.next + 10, rfl, by omega, hn, fun _ => .slice none 0 0, _, by simp only [Mem.get_bump, Mem.get_put, if_true]; rfl, rfl, rfl, fun k hk => ?_, fun _ _ => SlV.nil, fun _ _ y hy => (by cases hy), rfl, fun _ _ _ _ _ y hy => (by cases hy), h2, h1⟩
  rw [nth_ofList]
  rcases k with _ | _ | _ | _ | _ | _ | _ | _ | k <;> first | rfl | omega
end
end
end Go.Ab
/- Queue: Place and Move. -/
namespace Go.Ab
open Go.Proofs
noncomputable section
set_option maxHeartbeats 2000000
section
variable {m : Mem} {b : Nat} {O : Nat → Prop} {sl : Nat → Value} {cs : Cells} {c : Nat} {l : Nat → List Int} {a : BitVec 32} {x k : Int}
theorem QN.of_bump {m' : Mem} {j : Nat} {l' : Nat → List Int} (h : QN (m.bump j) b O c l' m') : QN m b O c l' m' := by
  obtain ⟨sl, cs, hq⟩ := h.at_
  have hn := h.next
  rw [Mem.next_bump] at hn
  refine ⟨by omega, h.fresh, ⟨sl, cs, hq.at_, hq.n, hq.c0, hq.ck, hq.sls, fun k hk y hy => (hq.own k hk y hy).imp id fun e => ⟨by have := e.1; rw [Mem.next_bump] at this; omega, e.2⟩, hq.ob.imp id fun e => ⟨by have := e.1; rw [Mem.next_bump] at this; omega, e.2⟩, hq.ne, hq.c8, hq.c1⟩, fun y hy hO => h.old y (by rw [Mem.next_bump]; omega) hO, fun y hy e => h.low y (by rw [Mem.next_bump]; omega) e⟩
theorem QN.bump {m' : Mem} {l' : Nat → List Int} (h : QN m b O c l' m') (j : Nat) : QN m b O c l' (m'.bump j) := by
  obtain ⟨sl, cs, hq⟩ := h.at_
  exact ⟨by rw [Mem.next_bump]; exact Nat.le_add_right_of_le h.next, h.fresh.bump, ⟨sl, cs, (hq.bump j).ox (by rw [Mem.next_bump]; omega)⟩, h.old, h.low⟩
theorem hOb {j : Nat} (hO : ∀ y, O y → y < m.next) : ∀ y, O y → y < (m.bump j).next := fun y hy => by rw [Mem.next_bump]; have := hO y hy; omega
theorem place_bad (h : QAt m b O sl cs c l) (hx : x < 1) : Con EE.P 10 [PT b, In x, In k, Um a] m (.tuple [In 0, In 2].toArray) m := by
  refine Con.of EE_ok fn10 (Nat.le_of_ble_eq_true rfl) Grow.rfl fun hm => ?_
  have c1 := h.c1
  have q1 : ¬ (c : Int) = 0 := by omega
  simp only [f10, enumV, Nat.zero_add, Nat.reduceAdd, w10, W_seq, w10_0, Nat.le_refl, X_assign, ev_const, Nat.reduceLT, T_set, X_nil, thenQ_normal, W_block, w10_16, w10_1, Mem.next_bump, Nat.le_add_right, bump_bump, X_move, ev_T, lk_cons, Nat.reduceEqDiff, Nat.one_ne_zero, if_false, if_true, X_call ca_29, List.map_cons, List.map_nil, true_and]
  refine CallI.con0 (cores_ok (h.bump _)) ?_
  simp only [putT, Nat.reduceLT, T_set, X_eql EE_sym, ev_T, lk_cons, Nat.reduceEqDiff, if_false, if_true, ev_const, eq_int, q1, decide_false, okI_some, X_assign, X_nil, thenQ_normal, W_cond, CDi_f, w10_15, W_seq, w10_4, Mem.next_bump, Nat.le_add_right, bump_bump, Nat.reduceAdd, X_move, X_bin EE_sym (op := .lss) rfl, bin_lss, hx, decide_true, CDi_t, w10_6, w10_5, W_ret, blockQ_ret, thenQ_ret, FinC_ret, resA_tmp, T_get, resA_nil, Option.map_some, oneOr2, true_and]
  exact TidyE.pure rfl fun _ _ => rfl
theorem place_not (h : QAt m b O sl cs c l) (hs : Short l) (hO : ∀ y, O y → y < m.next) (hx : 1 ≤ x) (hw : 0 ≤ whQ c l x ∨ fewTo l a c < 0) : Con EE.P 10 [PT b, In x, In k, Um a] m (.tuple [In 0, In 130].toArray) m := by
  refine Con.of EE_ok fn10 (Nat.le_of_ble_eq_true rfl) Grow.rfl fun hm => ?_
  have c1 := h.c1
  have q1 : ¬ (c : Int) = 0 := by omega
  have q2 : ¬ x < 1 := by omega
  simp only [f10, enumV, Nat.zero_add, Nat.reduceAdd, w10, W_seq, w10_0, Nat.le_refl, X_assign, ev_const, Nat.reduceLT, T_set, X_nil, thenQ_normal, W_block, w10_16, w10_1, Mem.next_bump, Nat.le_add_right, bump_bump, X_move, ev_T, lk_cons, Nat.reduceEqDiff, Nat.one_ne_zero, if_false, if_true, X_call ca_29, List.map_cons, List.map_nil, true_and]
  refine CallI.con0 (cores_ok (h.bump _)) ?_
  simp only [putT, Nat.reduceLT, T_set, X_eql EE_sym, ev_T, lk_cons, Nat.reduceEqDiff, if_false, if_true, ev_const, eq_int, q1, decide_false, okI_some, X_assign, X_nil, thenQ_normal, W_cond, CDi_f, w10_15, W_seq, w10_4, Mem.next_bump, Nat.le_add_right, bump_bump, Nat.reduceAdd, X_move, X_bin EE_sym (op := .lss) rfl, bin_lss, q2, w10_14, w10_7, Nat.one_ne_zero, X_call ca_16, List.map_cons, List.map_nil, true_and]
  refine CallI.con0 (where_ok (h.bump _) hs) ?_
  by_cases hw0 : 0 ≤ whQ c l x
  · simp only [putT, Nat.reduceLT, T_set, X_bin EE_sym (op := .geq) rfl, ev_T, lk_cons, Nat.reduceEqDiff, if_false, if_true, ev_const, bin_geq, hw0, decide_true, okI_some, X_move, X_guard EE_sym, T_get, GDi_tf, X_pick EE_sym, pickV_bool, X_assign, X_nil, thenQ_normal, W_cond, CDi_t, w10_9, W_seq, w10_8, Mem.next_bump, Nat.le_add_right, bump_bump, Nat.reduceAdd, W_ret, blockQ_ret, thenQ_ret, FinC_ret, resA_tmp, resA_nil, Option.map_some, oneOr2, true_and]
    exact TidyE.pure rfl fun _ _ => rfl
  · have hf : ¬ 0 ≤ fewTo l a c := by omega
    simp only [putT, Nat.reduceLT, T_set, X_bin EE_sym (op := .geq) rfl, ev_T, lk_cons, Nat.reduceEqDiff, if_false, if_true, ev_const, bin_geq, hw0, decide_false, okI_some, X_move, X_guard EE_sym, T_get, GDi_ff, Nat.one_ne_zero, X_call ca_24, List.map_cons, List.map_nil]
    refine CallI.con (may_ok (a := a) (h.bump _) hs (hOb hO)) (by simp) ?_
    simp only [hf, decide_false, putT, Nat.reduceLT, T_set, X_guard EE_sym, T_get, lk_cons, Nat.reduceEqDiff, if_false, if_true, GDi_ff, X_un EE_sym, ev_T, un_not, Bool.not_false, okI_some, X_pick EE_sym, ev_const, pickV_bool, Bool.false_eq_true, X_assign, X_nil, thenQ_normal, W_cond, CDi_t, w10_9, W_seq, w10_8, Mem.next_bump, Nat.le_add_right, bump_bump, Nat.reduceAdd, W_ret, blockQ_ret, thenQ_ret, FinC_ret, resA_tmp, resA_nil, Option.map_some, oneOr2, true_and]
    exact TidyE.pure rfl fun _ _ => rfl
/-- Where a pid is placed. -/
def placeQ (c : Nat) (l : Nat → List Int) (a : BitVec 32) (k : Int) : Nat := if (0 ≤ k ∧ k < c) ∧ mb a k.toNat = true then k.toNat else (fewTo l a c).toNat
theorem placeQ_lt (hf : 0 ≤ fewTo l a c) : placeQ c l a k < c := by
  unfold placeQ
  split
  · omega
  · have := (fewTo_lt (l := l) (a := a) (n := c)).2; omega
theorem place_ok (h : QAt m b O sl cs c l) (hm : Fresh m) (hs : ∀ k, (l k).length < 1073741824) (hO : ∀ y, O y → y < m.next) (hx : 1 ≤ x) (hw : ¬ 0 ≤ whQ c l x) (hf : 0 ≤ fewTo l a c) :
    ∃ v m', Con EE.P 10 [PT b, In x, In k, Um a] m v m' ∧ v = .tuple [In (placeQ c l a k), In 0].toArray ∧ QN m b O c (updL l (placeQ c l a k) (l (placeQ c l a k) ++ [x])) m' := by
  refine Con.raw EE_ok fn10 (Nat.le_of_ble_eq_true rfl) _ ?_
  have hs' : Short l := fun k => by have := hs k; omega
  have c1 := h.c1
  have c8 := h.c8
  have q1 : ¬ (c : Int) = 0 := by omega
  have q2 : ¬ x < 1 := by omega
  simp only [f10, enumV, Nat.zero_add, Nat.reduceAdd, w10, W_seq, w10_0, Nat.le_refl, X_assign, ev_const, Nat.reduceLT, T_set, X_nil, thenQ_normal, W_block, w10_16, w10_1, Mem.next_bump, Nat.le_add_right, bump_bump, X_move, ev_T, lk_cons, Nat.reduceEqDiff, Nat.one_ne_zero, if_false, if_true, X_call ca_29, List.map_cons, List.map_nil, true_and]
  refine CallI.con0 (cores_ok (h.bump _)) ?_
  simp only [putT, Nat.reduceLT, T_set, X_eql EE_sym, ev_T, lk_cons, Nat.reduceEqDiff, if_false, if_true, ev_const, eq_int, q1, decide_false, okI_some, X_assign, X_nil, thenQ_normal, W_cond, CDi_f, w10_15, W_seq, w10_4, Mem.next_bump, Nat.le_add_right, bump_bump, Nat.reduceAdd, X_move, X_bin EE_sym (op := .lss) rfl, bin_lss, q2, w10_14, w10_7, Nat.one_ne_zero, X_call ca_16, List.map_cons, List.map_nil, true_and]
  refine CallI.con0 (where_ok (h.bump _) hs') ?_
  simp only [putT, Nat.reduceLT, T_set, X_bin EE_sym (op := .geq) rfl, ev_T, lk_cons, Nat.reduceEqDiff, if_false, if_true, ev_const, bin_geq, hw, decide_false, okI_some, X_move, X_guard EE_sym, T_get, GDi_ff, Nat.one_ne_zero, X_call ca_24, List.map_cons, List.map_nil]
  refine CallI.con (may_ok (a := a) (h.bump _) hs' (hOb hO)) (by simp) ?_
  simp only [hf, decide_true, putT, Nat.reduceLT, T_set, X_guard EE_sym, T_get, lk_cons, Nat.reduceEqDiff, if_false, if_true, GDi_ff, X_un EE_sym, ev_T, un_not, Bool.not_true, okI_some, X_pick EE_sym, ev_const, pickV_bool, Bool.false_eq_true, X_assign, X_nil, thenQ_normal, W_cond, CDi_f, w10_13, W_seq, w10_10, Mem.next_bump, Nat.le_add_right, bump_bump, Nat.reduceAdd, X_move, Nat.one_ne_zero, X_call ca_30, List.map_cons, List.map_nil, true_and]
  refine CallI.con0 (is_ok (k := k) (h.bump _)) ?_
  by_cases hk : 0 ≤ k ∧ k < c
  · obtain ⟨k', rfl⟩ : ∃ k' : Nat, k = k' := ⟨k.toNat, by omega⟩
    have e1 : (decide (0 ≤ (k' : Int) ∧ (k' : Int) < c)) = true := decide_eq_true hk
    have q3 : (0 : Int) ≤ k' := by omega
    rw [e1]
    cases hb : mb a k' with
    | true =>
      have e2 := mb_t1 hb
      have e3 : placeQ c l a k' = k' := by
        unfold placeQ
        rw [Int.toNat_natCast, if_pos ⟨hk, hb⟩]
      simp only [putT, Nat.reduceLT, T_set, X_move, ev_T, lk_cons, Nat.reduceEqDiff, if_false, if_true, X_guard EE_sym, T_get, GDi_tt, X_bin EE_sym (op := .shr) rfl, q3, bin_shr32, Int.toNat_natCast, okI_some, X_bin EE_sym (op := .and) rfl, ev_const, bin_and1, X_eql EE_sym, eq_int, e2, X_pick EE_sym, pickV_bool, X_assign, X_nil, thenQ_normal, W_cond, CDi_t, w10_12, W_seq, w10_11, Mem.next_bump, Nat.le_add_right, bump_bump, Nat.reduceAdd, Nat.one_ne_zero, X_call ca_31, List.map_cons, List.map_nil, true_and]
      refine CallI.ex2 (put_ok (k := k') (m := m.bump _) (h.bump _) hm.bump (hOb hO) (by omega) (hs k')) fun v m1 hv => ?_
      obtain ⟨rfl, hN⟩ := hv
      rw [e3]
      have n1 := hN.of_bump.next
      simp only [putT, Nat.reduceLT, T_set, X_assign, ev_T, lk_cons, Nat.reduceEqDiff, if_false, if_true, ev_const, X_nil, thenQ_normal, W_ret, blockQ_ret, thenQ_ret, FinX_ret, resA_tmp, T_get, resA_nil, Option.map_some, okI_some, oneOr2]
      exact ⟨⟨hN.of_bump.next, hN.of_bump.low⟩, rfl, hN.of_bump⟩
    | false =>
      have e2 := mb_f1 hb
      have e3 : placeQ c l a k' = (fewTo l a c).toNat := by
        unfold placeQ
        rw [Int.toNat_natCast, if_neg (by rw [hb]; simp)]
      have e4 : In (fewTo l a c) = In ((fewTo l a c).toNat : Nat) := by rw [Int.toNat_of_nonneg hf]
      have e5 := (fewTo_lt (l := l) (a := a) (n := c)).2
      simp only [putT, Nat.reduceLT, T_set, X_move, ev_T, lk_cons, Nat.reduceEqDiff, if_false, if_true, X_guard EE_sym, T_get, GDi_tt, X_bin EE_sym (op := .shr) rfl, q3, bin_shr32, Int.toNat_natCast, okI_some, X_bin EE_sym (op := .and) rfl, ev_const, bin_and1, X_eql EE_sym, eq_int, e2, X_pick EE_sym, pickV_bool, X_assign, X_nil, thenQ_normal, W_cond, CDi_f, W_skip, blockQ_normal, W_seq, w10_17, Mem.next_bump, Nat.le_add_right, bump_bump, Nat.reduceAdd, Nat.one_ne_zero, X_call ca_32, List.map_cons, List.map_nil, true_and]
      refine CallI.con0 (few_ok (a := a) (h.bump _) hs' (hOb hO)) ?_
      rw [e4]
      simp only [putT, Nat.reduceLT, T_set, X_call ca_31, List.map_cons, ev_T, lk_cons, Nat.reduceEqDiff, if_false, if_true, List.map_nil]
      refine CallI.ex2L (put_ok (k := (fewTo l a c).toNat) (m := m.bump _) (h.bump _) hm.bump (hOb hO) (by omega) (hs _)) (by simp) fun v m1 hv => ?_
      obtain ⟨rfl, hN⟩ := hv
      rw [e3]
      have n1 := hN.of_bump.next
      simp only [putT, Nat.reduceLT, T_set, X_assign, ev_T, lk_cons, Nat.reduceEqDiff, if_false, if_true, ev_const, X_nil, thenQ_normal, W_ret, FinX_ret, resA_tmp, T_get, resA_nil, Option.map_some, okI_some, oneOr2]
      exact ⟨⟨hN.of_bump.next, hN.of_bump.low⟩, rfl, hN.of_bump⟩
  · have e1 : (decide (0 ≤ k ∧ k < (c : Int))) = false := decide_eq_false hk
    rw [e1]
    have e3 : placeQ c l a k = (fewTo l a c).toNat := by
      unfold placeQ
      rw [if_neg fun e => hk e.1]
    have e4 : In (fewTo l a c) = In ((fewTo l a c).toNat : Nat) := by rw [Int.toNat_of_nonneg hf]
    have e5 := (fewTo_lt (l := l) (a := a) (n := c)).2
    simp only [putT, Nat.reduceLT, T_set, X_move, ev_T, lk_cons, Nat.reduceEqDiff, if_false, if_true, X_guard EE_sym, T_get, GDi_ft, X_pick EE_sym, ev_const, pickV_bool, Bool.false_eq_true, okI_some, X_assign, X_nil, thenQ_normal, W_cond, CDi_f, W_skip, blockQ_normal, W_seq, w10_17, Mem.next_bump, Nat.le_add_right, bump_bump, Nat.reduceAdd, Nat.one_ne_zero, X_call ca_32, List.map_cons, List.map_nil, true_and]
    refine CallI.con0 (few_ok (a := a) (h.bump _) hs' (hOb hO)) ?_
    rw [e4]
    simp only [putT, Nat.reduceLT, T_set, X_call ca_31, List.map_cons, ev_T, lk_cons, Nat.reduceEqDiff, if_false, if_true, List.map_nil]
    refine CallI.ex2L (put_ok (k := (fewTo l a c).toNat) (m := m.bump _) (h.bump _) hm.bump (hOb hO) (by omega) (hs _)) (by simp) fun v m1 hv => ?_
    obtain ⟨rfl, hN⟩ := hv
    rw [e3]
    have n1 := hN.of_bump.next
    simp only [putT, Nat.reduceLT, T_set, X_assign, ev_T, lk_cons, Nat.reduceEqDiff, if_false, if_true, ev_const, X_nil, thenQ_normal, W_ret, FinX_ret, resA_tmp, T_get, resA_nil, Option.map_some, okI_some, oneOr2]
    exact ⟨⟨hN.of_bump.next, hN.of_bump.low⟩, rfl, hN.of_bump⟩
/-! Move -/
theorem QN.trans {m1 m2 : Mem} {l1 l2 : Nat → List Int} (h : QN m b O c l1 m1) (h2 : QN m1 b (Ox O m m1) c l2 m2) : QN m b O c l2 m2 := by
  obtain ⟨sl, cs, hq⟩ := h2.at_
  have n1 := h.next
  have n2 := h2.next
  have hO : ∀ y, Ox (Ox O m m1) m1 m2 y → Ox O m m2 y := fun y hy => by
    rcases hy with (hy | hy) | hy
    · exact .inl hy
    · exact .inr ⟨hy.1, by omega⟩
    · exact .inr ⟨by omega, hy.2⟩
  refine ⟨by omega, h2.fresh, ⟨sl, cs, hq.at_, hq.n, hq.c0, hq.ck, hq.sls, fun k hk y hy => hO y (hq.own k hk y hy), hO _ hq.ob, hq.ne, hq.c8, hq.c1⟩, fun y hy hyO => ?_, fun y hy e => h2.low y (by omega) (h.low y hy e)⟩
  rw [h2.old y (by omega) fun e => e.elim hyO fun e => by omega, h.old y hy hyO]
theorem Ox.lt {M : Mem} (hO : ∀ y, O y → y < m.next) (hn : m.next ≤ M.next) : ∀ y, Ox O m M y → y < M.next := fun y hy => by
  rcases hy with hy | hy
  · have := hO y hy; omega
  · exact hy.2
theorem move_not (h : QAt m b O sl cs c l) (hs : Short l) (hO : ∀ y, O y → y < m.next) (hw : whQ c l x < 0 ∨ fewTo l a c < 0) : Con EE.P 12 [PT b, In x, Um a] m (.tuple [In 0, In 130].toArray) m := by
  refine Con.of EE_ok fn12 (Nat.le_of_ble_eq_true rfl) Grow.rfl fun hm => ?_
  have c1 := h.c1
  have q1 : ¬ (c : Int) = 0 := by omega
  simp only [f12, enumV, Nat.zero_add, Nat.reduceAdd, w12, W_seq, w12_0, Nat.le_refl, X_assign, ev_const, Nat.reduceLT, T_set, X_nil, thenQ_normal, w12_1, Mem.next_bump, Nat.le_add_right, bump_bump, X_move, ev_T, lk_cons, Nat.reduceEqDiff, Nat.one_ne_zero, if_false, if_true, X_call ca_16, List.map_cons, List.map_nil, true_and]
  refine CallI.con0 (where_ok (h.bump _) hs) ?_
  simp only [putT, Nat.reduceLT, T_set, X_assign, ev_T, lk_cons, Nat.reduceEqDiff, if_false, if_true, X_nil, thenQ_normal, W_seq, W_block, w12_13, w12_2, Mem.next_bump, Nat.le_add_right, bump_bump, Nat.reduceAdd, X_move, Nat.one_ne_zero, X_call ca_29, List.map_cons, List.map_nil, true_and]
  refine CallI.con0 (cores_ok (h.bump _)) ?_
  by_cases hw0 : whQ c l x < 0
  · simp only [putT, Nat.reduceLT, T_set, X_eql EE_sym, ev_T, lk_cons, Nat.reduceEqDiff, if_false, if_true, ev_const, eq_int, q1, decide_false, okI_some, X_assign, X_nil, thenQ_normal, W_cond, CDi_f, w12_12, W_seq, w12_5, Mem.next_bump, Nat.le_add_right, bump_bump, Nat.reduceAdd, X_move, X_bin EE_sym (op := .lss) rfl, bin_lss, hw0, decide_true, X_guard EE_sym, T_get, GDi_tf, X_pick EE_sym, pickV_bool, CDi_t, w12_7, w12_6, W_ret, blockQ_ret, thenQ_ret, FinC_ret, resA_tmp, resA_nil, Option.map_some, oneOr2, true_and]
    exact TidyE.pure rfl fun _ _ => rfl
  · have hf : ¬ 0 ≤ fewTo l a c := by omega
    simp only [putT, Nat.reduceLT, T_set, X_eql EE_sym, ev_T, lk_cons, Nat.reduceEqDiff, if_false, if_true, ev_const, eq_int, q1, decide_false, okI_some, X_assign, X_nil, thenQ_normal, W_cond, CDi_f, w12_12, W_seq, w12_5, Mem.next_bump, Nat.le_add_right, bump_bump, Nat.reduceAdd, X_move, X_bin EE_sym (op := .lss) rfl, bin_lss, hw0, X_guard EE_sym, T_get, GDi_ff, Nat.one_ne_zero, X_call ca_24, List.map_cons, List.map_nil, true_and]
    refine CallI.con0 (may_ok (a := a) (h.bump _) hs (hOb hO)) ?_
    simp only [hf, decide_false, putT, Nat.reduceLT, T_set, X_guard EE_sym, T_get, lk_cons, Nat.reduceEqDiff, if_false, if_true, GDi_ff, X_un EE_sym, ev_T, un_not, Bool.not_false, okI_some, X_pick EE_sym, ev_const, pickV_bool, Bool.false_eq_true, X_assign, X_nil, thenQ_normal, W_cond, CDi_t, w12_7, W_seq, w12_6, Mem.next_bump, Nat.le_add_right, bump_bump, Nat.reduceAdd, W_ret, blockQ_ret, thenQ_ret, FinC_ret, resA_tmp, resA_nil, Option.map_some, oneOr2, true_and]
    exact TidyE.pure rfl fun _ _ => rfl
theorem move_in {w : Nat} (h : QAt m b O sl cs c l) (hs : Short l) (hO : ∀ y, O y → y < m.next) (hw : whQ c l x = w) (hf : 0 ≤ fewTo l a c) (hb : mb a w = true) : Con EE.P 12 [PT b, In x, Um a] m (.tuple [In w, In 0].toArray) m := by
  refine Con.of EE_ok fn12 (Nat.le_of_ble_eq_true rfl) Grow.rfl fun hm => ?_
  have c1 := h.c1
  have q1 : ¬ (c : Int) = 0 := by omega
  have q2 : ¬ (w : Int) < 0 := by omega
  have q3 : (0 : Int) ≤ w := by omega
  have e2 := mb_t1 hb
  simp only [f12, enumV, Nat.zero_add, Nat.reduceAdd, w12, W_seq, w12_0, Nat.le_refl, X_assign, ev_const, Nat.reduceLT, T_set, X_nil, thenQ_normal, w12_1, Mem.next_bump, Nat.le_add_right, bump_bump, X_move, ev_T, lk_cons, Nat.reduceEqDiff, Nat.one_ne_zero, if_false, if_true, X_call ca_16, List.map_cons, List.map_nil, true_and]
  refine CallI.con0 (where_ok (h.bump _) hs) ?_
  rw [hw]
  simp only [putT, Nat.reduceLT, T_set, X_assign, ev_T, lk_cons, Nat.reduceEqDiff, if_false, if_true, X_nil, thenQ_normal, W_seq, W_block, w12_13, w12_2, Mem.next_bump, Nat.le_add_right, bump_bump, Nat.reduceAdd, X_move, Nat.one_ne_zero, X_call ca_29, List.map_cons, List.map_nil, true_and]
  refine CallI.con0 (cores_ok (h.bump _)) ?_
  simp only [putT, Nat.reduceLT, T_set, X_eql EE_sym, ev_T, lk_cons, Nat.reduceEqDiff, if_false, if_true, ev_const, eq_int, q1, decide_false, okI_some, X_assign, X_nil, thenQ_normal, W_cond, CDi_f, w12_12, W_seq, w12_5, Mem.next_bump, Nat.le_add_right, bump_bump, Nat.reduceAdd, X_move, X_bin EE_sym (op := .lss) rfl, bin_lss, q2, X_guard EE_sym, T_get, GDi_ff, Nat.one_ne_zero, X_call ca_24, List.map_cons, List.map_nil, true_and]
  refine CallI.con0 (may_ok (a := a) (h.bump _) hs (hOb hO)) ?_
  simp only [hf, decide_true, putT, Nat.reduceLT, T_set, X_guard EE_sym, T_get, lk_cons, Nat.reduceEqDiff, if_false, if_true, GDi_ff, X_un EE_sym, ev_T, un_not, Bool.not_true, okI_some, X_pick EE_sym, ev_const, pickV_bool, Bool.false_eq_true, X_assign, X_nil, thenQ_normal, W_cond, CDi_f, w12_11, W_seq, w12_8, Mem.next_bump, Nat.le_add_right, bump_bump, Nat.reduceAdd, X_move, X_bin EE_sym (op := .shr) rfl, q3, bin_shr32, Int.toNat_natCast, X_bin EE_sym (op := .and) rfl, bin_and1, X_eql EE_sym, eq_int, e2, CDi_t, w12_10, w12_9, W_ret, blockQ_ret, thenQ_ret, FinC_ret, resA_tmp, resA_nil, Option.map_some, oneOr2, true_and]
  exact TidyE.pure rfl fun _ _ => rfl
def moveL (c : Nat) (l : Nat → List Int) (a : BitVec 32) (x : Int) (w i : Nat) : Nat → List Int := updL (updL l w ((l w).eraseIdx i)) (fewTo (updL l w ((l w).eraseIdx i)) a c).toNat (updL l w ((l w).eraseIdx i) (fewTo (updL l w ((l w).eraseIdx i)) a c).toNat ++ [x])
theorem few_iff {l' : Nat → List Int} : ∀ {n : Nat}, 0 ≤ fewTo l a n ↔ 0 ≤ fewTo l' a n
  | 0 => by unfold fewTo; simp
  | n + 1 => by
    have h := few_iff (l' := l') (n := n)
    rw [fewTo_succ, fewTo_succ]
    unfold fewStep
    by_cases hb : mb a n = true
    · rw [if_pos hb, if_pos hb]
      constructor <;> intro _ <;> (split <;> omega)
    · rw [if_neg hb, if_neg hb]; exact h
theorem move_to {w i : Nat} (h : QAt m b O sl cs c l) (hm : Fresh m) (hs : ∀ k, (l k).length < 1073741824) (hO : ∀ y, O y → y < m.next) (hw8 : w < 8) (hw : whQ c l x = w) (hi : i < (l w).length) (hix : idxL (l w) x = i) (hf : 0 ≤ fewTo l a c) (hb : mb a w = false) :
    ∃ v m', Con EE.P 12 [PT b, In x, Um a] m v m' ∧ v = .tuple [In ((fewTo (updL l w ((l w).eraseIdx i)) a c).toNat : Nat), In 0].toArray ∧ QN m b O c (moveL c l a x w i) m' := by
  refine Con.raw EE_ok fn12 (Nat.le_of_ble_eq_true rfl) _ ?_
  have hs' : Short l := fun k => by have := hs k; omega
  have c1 := h.c1
  have c8 := h.c8
  have q1 : ¬ (c : Int) = 0 := by omega
  have q2 : ¬ (w : Int) < 0 := by omega
  have q3 : (0 : Int) ≤ w := by omega
  have e2 := mb_f1 hb
  simp only [f12, enumV, Nat.zero_add, Nat.reduceAdd, w12, W_seq, w12_0, Nat.le_refl, X_assign, ev_const, Nat.reduceLT, T_set, X_nil, thenQ_normal, w12_1, Mem.next_bump, Nat.le_add_right, bump_bump, X_move, ev_T, lk_cons, Nat.reduceEqDiff, Nat.one_ne_zero, if_false, if_true, X_call ca_16, List.map_cons, List.map_nil, true_and]
  refine CallI.con0 (where_ok (h.bump _) hs') ?_
  rw [hw]
  simp only [putT, Nat.reduceLT, T_set, X_assign, ev_T, lk_cons, Nat.reduceEqDiff, if_false, if_true, X_nil, thenQ_normal, W_seq, W_block, w12_13, w12_2, Mem.next_bump, Nat.le_add_right, bump_bump, Nat.reduceAdd, X_move, Nat.one_ne_zero, X_call ca_29, List.map_cons, List.map_nil, true_and]
  refine CallI.con0 (cores_ok (h.bump _)) ?_
  simp only [putT, Nat.reduceLT, T_set, X_eql EE_sym, ev_T, lk_cons, Nat.reduceEqDiff, if_false, if_true, ev_const, eq_int, q1, decide_false, okI_some, X_assign, X_nil, thenQ_normal, W_cond, CDi_f, w12_12, W_seq, w12_5, Mem.next_bump, Nat.le_add_right, bump_bump, Nat.reduceAdd, X_move, X_bin EE_sym (op := .lss) rfl, bin_lss, q2, X_guard EE_sym, T_get, GDi_ff, Nat.one_ne_zero, X_call ca_24, List.map_cons, List.map_nil, true_and]
  refine CallI.con0 (may_ok (a := a) (h.bump _) hs' (hOb hO)) ?_
  simp only [hf, decide_true, putT, Nat.reduceLT, T_set, X_guard EE_sym, T_get, lk_cons, Nat.reduceEqDiff, if_false, if_true, GDi_ff, X_un EE_sym, ev_T, un_not, Bool.not_true, okI_some, X_pick EE_sym, ev_const, pickV_bool, Bool.false_eq_true, X_assign, X_nil, thenQ_normal, W_cond, CDi_f, w12_11, W_seq, w12_8, Mem.next_bump, Nat.le_add_right, bump_bump, Nat.reduceAdd, X_move, X_bin EE_sym (op := .shr) rfl, q3, bin_shr32, Int.toNat_natCast, X_bin EE_sym (op := .and) rfl, bin_and1, X_eql EE_sym, eq_int, e2, W_skip, blockQ_normal, w12_14, Nat.one_ne_zero, X_call ca_18, List.map_cons, List.map_nil, true_and]
  refine CallI.ex2 (cut_yes (x := x) (m := m.bump _) (h.bump _) hm.bump (hOb hO) hs' hw8 hw hi hix) fun v m1 hv => ?_
  obtain ⟨rfl, hN⟩ := hv
  have hN := hN.of_bump
  have n1 := hN.next
  have f1 := hN.fresh
  obtain ⟨sl1, cs1, h1⟩ := hN.at_
  have hO1 := Ox.lt hO n1
  have hf1 : 0 ≤ fewTo (updL l w ((l w).eraseIdx i)) a c := few_iff.1 hf
  have hs1 : ∀ k, (updL l w ((l w).eraseIdx i) k).length < 1073741824 := fun k => by
    unfold updL
    split
    · have := hs w; rw [List.length_eraseIdx]; split <;> omega
    · exact hs k
  unfold moveL
  generalize updL l w ((l w).eraseIdx i) = l1 at hN h1 hf1 hs1 ⊢
  have e4 : In (fewTo l1 a c) = In ((fewTo l1 a c).toNat : Nat) := by rw [Int.toNat_of_nonneg hf1]
  have e5 := (fewTo_lt (l := l1) (a := a) (n := c)).2
  simp only [putT, Nat.reduceLT, T_set, X_nil, thenQ_normal, W_seq, w12_15, n1, X_move, ev_T, lk_cons, Nat.reduceEqDiff, Nat.one_ne_zero, if_false, if_true, X_call ca_32, List.map_cons, List.map_nil, true_and]
  refine CallI.con0 (few_ok (a := a) (h1.bump _) (fun k => by have := hs1 k; omega) (hOb hO1)) ?_
  rw [e4]
  simp only [putT, Nat.reduceLT, T_set, X_call ca_31, List.map_cons, ev_T, lk_cons, Nat.reduceEqDiff, if_false, if_true, List.map_nil]
  refine CallI.ex2L (put_ok (k := (fewTo l1 a c).toNat) (m := m1.bump _) (h1.bump _) f1.bump (hOb hO1) (by omega) (hs1 _)) (by simp) fun v m2 hv => ?_
  obtain ⟨rfl, hN2⟩ := hv
  have hN3 := hN.trans hN2.of_bump
  have n2 := hN3.next
  simp only [putT, Nat.reduceLT, T_set, X_assign, ev_T, lk_cons, Nat.reduceEqDiff, if_false, if_true, ev_const, X_nil, thenQ_normal, W_ret, FinX_ret, resA_tmp, T_get, resA_nil, Option.map_some, okI_some, oneOr2]
  exact ⟨⟨hN3.next, hN3.low⟩, rfl, hN3⟩
end
end
end Go.Ab
/- Queue: queues beside other things that stay; the chapter's first examples. -/
namespace Go.Ab
open Go.Proofs
noncomputable section
set_option maxHeartbeats 2000000
/-- Queues, and blocks that stay as they are. -/
structure Qs (M : Mem) (q c : Nat) (l : Nat → List Int) (W : Nat → Prop) : Prop where
  fresh : Fresh M
  wlt : ∀ y, W y → y < M.next
  at_ : ∃ O sl cs, QAt M q O sl cs c l ∧ ∀ y, O y → y < M.next ∧ ¬ W y
/-- What stays, has stayed. -/
structure Wx (W : Nat → Prop) (M M' : Mem) : Prop where
  next : M.next ≤ M'.next
  old : ∀ y, W y → M'.get y = M.get y
  low : ∀ y, y < M.next → M.get y = none → M'.get y = none
theorem Wx.refl {W : Nat → Prop} {M : Mem} : Wx W M M := ⟨Nat.le_refl _, fun _ _ => rfl, fun _ _ e => e⟩
theorem Wx.trans {W : Nat → Prop} {M M1 M2 : Mem} (h : Wx W M M1) (h2 : Wx W M1 M2) : Wx W M M2 :=
  ⟨Nat.le_trans h.next h2.next, fun y hy => by rw [h2.old y hy, h.old y hy], fun y hy e => h2.low y (Nat.lt_of_lt_of_le hy h.next) (h.low y hy e)⟩
theorem Wx.bump {W : Nat → Prop} {M M' : Mem} (h : Wx W M M') (j : Nat) : Wx W M (M'.bump j) := ⟨by rw [Mem.next_bump]; exact Nat.le_add_right_of_le h.next, h.old, h.low⟩
theorem Wx.of_bump {W : Nat → Prop} {M M' : Mem} {j : Nat} (h : Wx W (M.bump j) M') : Wx W M M' := ⟨by have := h.next; rw [Mem.next_bump] at this; omega, h.old, fun y hy e => h.low y (by rw [Mem.next_bump]; omega) e⟩
theorem Wx.mono {W W' : Nat → Prop} {M M' : Mem} (h : Wx W M M') (hw : ∀ y, W' y → W y) : Wx W' M M' := ⟨h.next, fun y hy => h.old y (hw y hy), h.low⟩
theorem Wx.of_nx {W : Nat → Prop} {M M' : Mem} (h : Nx M M') (hw : ∀ y, W y → y < M.next) : Wx W M M' := ⟨h.next, fun y hy => h.old y (hw y hy), fun y hy e => by rw [h.old y hy, e]⟩
theorem Wx.raw {W : Nat → Prop} {M M' : Mem} {v : Value} {R : Value → Mem → Prop} (h : Wx W M M') (hR : R v M') : RawE M M' v R := ⟨⟨h.next, h.low⟩, hR⟩
section
variable {M M' : Mem} {q c : Nat} {l l' : Nat → List Int} {W : Nat → Prop} {a : BitVec 32} {x k : Int}
theorem Qs.bump (h : Qs M q c l W) (j : Nat) : Qs (M.bump j) q c l W := by
  obtain ⟨O, sl, cs, h1, h2⟩ := h.at_
  exact ⟨h.fresh.bump, fun y hy => by rw [Mem.next_bump]; have := h.wlt y hy; omega, O, sl, cs, h1.bump j, fun y hy => ⟨by rw [Mem.next_bump]; have := (h2 y hy).1; omega, (h2 y hy).2⟩⟩
theorem Qs.nx (h : Qs M q c l W) (hn : Nx M M') : Qs M' q c l W := by
  obtain ⟨O, sl, cs, h1, h2⟩ := h.at_
  exact ⟨hn.fresh, fun y hy => Nat.lt_of_lt_of_le (h.wlt y hy) hn.next, O, sl, cs, h1.nx h.fresh hn, fun y hy => ⟨Nat.lt_of_lt_of_le (h2 y hy).1 hn.next, (h2 y hy).2⟩⟩
/-- A new block stays from now on. -/
theorem Qs.add (h : Qs M q c l W) (hn : Nx M M') {P : Nat → Prop} (hP : ∀ y, P y → M.next ≤ y ∧ y < M'.next) : Qs M' q c l (fun y => W y ∨ P y) := by
  obtain ⟨O, sl, cs, h1, h2⟩ := h.at_
  exact ⟨hn.fresh, fun y hy => hy.elim (fun hy => Nat.lt_of_lt_of_le (h.wlt y hy) hn.next) fun hy => (hP y hy).2, O, sl, cs, h1.nx h.fresh hn, fun y hy => ⟨Nat.lt_of_lt_of_le (h2 y hy).1 hn.next, fun e => e.elim (h2 y hy).2 fun e => by have := (hP y e).1; have := (h2 y hy).1; omega⟩⟩
theorem Qs.turn {O : Nat → Prop} (h : Qs M q c l W) (h2 : ∀ y, O y → y < M.next ∧ ¬ W y) (hN : QN M q O c l' M') : Qs M' q c l' W ∧ Wx W M M' := by
  obtain ⟨sl, cs, hq⟩ := hN.at_
  have hn := hN.next
  refine ⟨⟨hN.fresh, fun y hy => Nat.lt_of_lt_of_le (h.wlt y hy) hn, Ox O M M', sl, cs, hq, fun y hy => ?_⟩, hn, fun y hy => hN.old y (h.wlt y hy) fun e => (h2 y e).2 hy, hN.low⟩
  rcases hy with hy | hy
  · exact ⟨Nat.lt_of_lt_of_le (h2 y hy).1 hn, (h2 y hy).2⟩
  · exact ⟨hy.2, fun e => by have := h.wlt y e; omega⟩
def Sh (l : Nat → List Int) : Prop := ∀ k, (l k).length < 1073741824
theorem Sh.short (h : Sh l) : Short l := fun k => by have := h k; omega
theorem Qs.place (h : Qs M q c l W) (hs : Sh l) (hx : 1 ≤ x) (hw : ¬ 0 ≤ whQ c l x) (hf : 0 ≤ fewTo l a c) :
    ∃ v M', Con EE.P 10 [PT q, In x, In k, Um a] M v M' ∧ v = .tuple [In (placeQ c l a k), In 0].toArray ∧ Qs M' q c (updL l (placeQ c l a k) (l (placeQ c l a k) ++ [x])) W ∧ Wx W M M' := by
  obtain ⟨O, sl, cs, h1, h2⟩ := h.at_
  obtain ⟨v, M', hc, hv, hN⟩ := place_ok (k := k) h1 h.fresh hs (fun y hy => (h2 y hy).1) hx hw hf
  exact ⟨v, M', hc, hv, h.turn h2 hN⟩
theorem Qs.place_not (h : Qs M q c l W) (hs : Sh l) (hx : 1 ≤ x) (hw : 0 ≤ whQ c l x ∨ fewTo l a c < 0) : Con EE.P 10 [PT q, In x, In k, Um a] M (.tuple [In 0, In 130].toArray) M := by
  obtain ⟨O, sl, cs, h1, h2⟩ := h.at_
  exact Go.Ab.place_not h1 hs.short (fun y hy => (h2 y hy).1) hx hw
theorem Qs.where (h : Qs M q c l W) (hs : Sh l) : Con EE.P 16 [PT q, In x] M (In (whQ c l x)) M := by
  obtain ⟨O, sl, cs, h1, h2⟩ := h.at_
  exact where_ok h1 hs.short
theorem Qs.move_in {w : Nat} (h : Qs M q c l W) (hs : Sh l) (hw : whQ c l x = w) (hf : 0 ≤ fewTo l a c) (hb : mb a w = true) : Con EE.P 12 [PT q, In x, Um a] M (.tuple [In w, In 0].toArray) M := by
  obtain ⟨O, sl, cs, h1, h2⟩ := h.at_
  exact Go.Ab.move_in h1 hs.short (fun y hy => (h2 y hy).1) hw hf hb
theorem Qs.move_to {w i : Nat} (h : Qs M q c l W) (hs : Sh l) (hw8 : w < 8) (hw : whQ c l x = w) (hi : i < (l w).length) (hix : idxL (l w) x = i) (hf : 0 ≤ fewTo l a c) (hb : mb a w = false) :
    ∃ v M', Con EE.P 12 [PT q, In x, Um a] M v M' ∧ v = .tuple [In ((fewTo (updL l w ((l w).eraseIdx i)) a c).toNat : Nat), In 0].toArray ∧ Qs M' q c (moveL c l a x w i) W ∧ Wx W M M' := by
  obtain ⟨O, sl, cs, h1, h2⟩ := h.at_
  obtain ⟨v, M', hc, hv, hN⟩ := Go.Ab.move_to h1 h.fresh hs (fun y hy => (h2 y hy).1) hw8 hw hi hix hf hb
  exact ⟨v, M', hc, hv, h.turn h2 hN⟩
theorem Qs.list {k : Nat} (h : Qs M q c l W) (hs : Sh l) (hk : k < c) : ∃ v M', Con EE.P 11 [PT q, In k] M v M' ∧ NewL M M' v (l k) ∧ Qs M' q c l W ∧ Wx W M M' := by
  obtain ⟨O, sl, cs, h1, h2⟩ := h.at_
  obtain ⟨v, M', hc, hL⟩ := list_ok h1 h.fresh hk (hs k)
  exact ⟨v, M', hc, hL, h.nx hL.nx, Wx.of_nx hL.nx h.wlt⟩
theorem Qs.new {n : Nat} (hm : Fresh M) (hW : ∀ y, W y → y < M.next) (h1 : 1 ≤ n) (h2 : n ≤ 8) : ∃ v M', Con EE.P 9 [In n] M v M' ∧ ∃ q, v = .tuple [PT q, In 0].toArray ∧ Qs M' q n (fun _ => []) W ∧ Wx W M M' := by
  obtain ⟨v, M', hc, q, hv, hq, hn, sl, cs, hQ⟩ := new_ok hm h1 h2
  refine ⟨v, M', hc, q, hv, ⟨hn.fresh, fun y hy => Nat.lt_of_lt_of_le (hW y hy) hn.next, _, sl, cs, hQ, fun y hy => ?_⟩, Wx.of_nx hn hW⟩
  subst hy
  exact ⟨hn.fresh.lt hQ.at_, fun e => by have := hW _ e; omega⟩
end
theorem U7 : Um 7#32 = .int .u32 7 := rfl
theorem U6 : Um 6#32 = .int .u32 6 := rfl
section
variable {m : Mem} {W : Nat → Prop}
abbrev a0 : Nat → List Int := fun _ => []
abbrev a1 : Nat → List Int := updL a0 0 [5]
abbrev a2 : Nat → List Int := updL a1 1 [6]
abbrev a3 : Nat → List Int := updL a2 2 [7]
theorem sh_upd {l : Nat → List Int} {k : Nat} {l' : List Int} (h : Sh l) (h' : l'.length < 1073741824) : Sh (updL l k l') := fun j => by
  unfold updL; split
  · exact h'
  · exact h j
theorem alive_ok (hm : Fresh m) (hW : ∀ y, W y → y < m.next) : ∃ v m', Con EE.P 8 [] m v m' ∧ v = .bool true ∧ Wx W m m' ∧ Fresh m' := by
  refine Con.raw EE_ok fn8 (Nat.le_of_ble_eq_true rfl) _ ?_
  have s0 : Sh a0 := fun _ => (by decide : (0 : Nat) < 1073741824)
  have s1 : Sh a1 := sh_upd s0 (by decide)
  have s2 : Sh a2 := sh_upd s1 (by decide)
  have s3 : Sh a3 := sh_upd s2 (by decide)
  simp only [f8, enumV, w8, W_seq, w8_0, Nat.le_refl, X_assign, ev_const, Nat.reduceLT, T_set, X_nil, thenQ_normal, w8_1, Mem.next_bump, Nat.le_add_right, bump_bump, Nat.reduceAdd, X_call ca_9, List.map_cons, List.map_nil, true_and]
  refine CallI.ex2 (Qs.new (n := 3) (W := W) hm.bump (fun y hy => by rw [Mem.next_bump]; have := hW y hy; omega) (by decide) (by decide)) fun v m1 hv => ?_
  obtain ⟨q, rfl, h1, w1⟩ := hv
  have w1 := w1.of_bump
  have n1 := w1.next
  simp only [putT, Nat.reduceLT, T_set, X_move, ev_T, lk_cons, Nat.reduceEqDiff, if_false, if_true, X_extract EE_sym, List.getElem?_toArray, List.getElem?_cons_zero, okI_some, List.getElem?_cons_succ, X_assign, X_nil, thenQ_normal, W_seq, w8_2, n1, X_call ca_10, List.map_cons, ev_const, List.map_nil, true_and]
  refine CallI.ex2 (Qs.place (k := 0) (a := 7#32) (x := 5) (h1.bump _) s0 (by decide) (by decide) (by decide)) fun v m2 hv => ?_
  obtain ⟨rfl, h2, w2⟩ := hv
  have e2 : placeQ 3 a0 7#32 0 = 0 := by decide
  rw [e2] at h2 ⊢
  rw [show (.tuple [In ((0 : Nat) : Int), In 0].toArray : Value) = .tuple [In 0, In 0].toArray from rfl]
  have h2 : Qs m2 q 3 a1 W := h2
  have w2 := w1.trans w2.of_bump
  have n2 := w2.next
  simp only [putT, Nat.reduceLT, T_set, X_move, ev_T, lk_cons, Nat.reduceEqDiff, if_false, if_true, X_extract EE_sym, List.getElem?_toArray, List.getElem?_cons_zero, okI_some, List.getElem?_cons_succ, X_assign, X_nil, thenQ_normal, W_seq, w8_3, n2, X_call ca_10, List.map_cons, ev_const, List.map_nil, true_and]
  refine CallI.ex2 (Qs.place (k := 0) (a := 6#32) (x := 6) (h2.bump _) s1 (by decide) (by decide) (by decide)) fun v m3 hv => ?_
  obtain ⟨rfl, h3, w3⟩ := hv
  have e3 : placeQ 3 a1 6#32 0 = 1 := by decide
  rw [e3] at h3 ⊢
  rw [show (.tuple [In ((1 : Nat) : Int), In 0].toArray : Value) = .tuple [In 1, In 0].toArray from rfl]
  have h3 : Qs m3 q 3 a2 W := h3
  have w3 := w2.trans w3.of_bump
  have n3 := w3.next
  simp only [putT, Nat.reduceLT, T_set, X_move, ev_T, lk_cons, Nat.reduceEqDiff, if_false, if_true, X_extract EE_sym, List.getElem?_toArray, List.getElem?_cons_zero, okI_some, List.getElem?_cons_succ, X_assign, X_nil, thenQ_normal, W_seq, w8_4, n3, X_call ca_10, List.map_cons, ev_const, List.map_nil, true_and]
  refine CallI.ex2 (Qs.place (k := 0) (a := 6#32) (x := 7) (h3.bump _) s2 (by decide) (by decide) (by decide)) fun v m4 hv => ?_
  obtain ⟨rfl, h4, w4⟩ := hv
  have e4 : placeQ 3 a2 6#32 0 = 2 := by decide
  rw [e4] at h4 ⊢
  rw [show (.tuple [In ((2 : Nat) : Int), In 0].toArray : Value) = .tuple [In 2, In 0].toArray from rfl]
  have h4 : Qs m4 q 3 a3 W := h4
  have w4 := w3.trans w4.of_bump
  have n4 := w4.next
  simp only [putT, Nat.reduceLT, T_set, X_move, ev_T, lk_cons, Nat.reduceEqDiff, if_false, if_true, X_extract EE_sym, List.getElem?_toArray, List.getElem?_cons_zero, okI_some, List.getElem?_cons_succ, X_assign, X_nil, thenQ_normal, W_seq, w8_5, n4, X_call ca_10, List.map_cons, ev_const, List.map_nil, true_and]
  refine CallI.con0 (Qs.place_not (k := 1) (a := 7#32) (x := 5) (h4.bump _) s3 (by decide) (.inl (by decide))) ?_
  simp only [putT, Nat.reduceLT, T_set, X_move, ev_T, lk_cons, Nat.reduceEqDiff, if_false, if_true, X_extract EE_sym, List.getElem?_toArray, List.getElem?_cons_zero, okI_some, List.getElem?_cons_succ, X_assign, X_nil, thenQ_normal, W_seq, w8_6, Mem.next_bump, n4, Nat.le_add_right_of_le, bump_bump, Nat.reduceAdd, X_eql EE_sym, ev_const, eq_int, decide_true, X_guard EE_sym, T_get, GDi_tt, X_pick EE_sym, pickV_bool, X_call ca_16, List.map_cons, List.map_nil, true_and]
  refine CallI.con0 (Qs.where (x := 7) (h4.bump _) s3) ?_
  have e5 : whQ 3 a3 7 = 2 := by decide
  rw [e5]
  simp only [putT, Nat.reduceLT, T_set, X_guard EE_sym, T_get, lk_cons, Nat.reduceEqDiff, if_false, if_true, GDi_tt, X_eql EE_sym, ev_T, ev_const, eq_int, decide_true, okI_some, X_pick EE_sym, pickV_bool, X_assign, X_nil, thenQ_normal, W_ret, FinX_ret, resA_tmp, Nat.one_ne_zero, resA_nil, Option.map_some, oneOr1]
  exact (w4.bump _).raw ⟨rfl, w4.bump _, (h4.bump _).fresh⟩
end
end
end Go.Ab
/- Queue: the plain law of QueueSpreads: lists of pids, no program in sight. -/
namespace Go.Ab
def tot (c : Nat) (l : Nat → List Int) : Nat := ((List.range c).map fun k => (l k).length).sum
theorem tot_succ {c : Nat} {l : Nat → List Int} : tot (c + 1) l = tot c l + (l c).length := by
  unfold tot
  rw [List.range_succ, List.map_append, List.sum_append]
  simp
theorem tot_same {l l2 : Nat → List Int} : ∀ {c : Nat}, (∀ k, k < c → l2 k = l k) → tot c l2 = tot c l
  | 0, _ => rfl
  | c + 1, h => by rw [tot_succ, tot_succ, tot_same fun k hk => h k (by omega), h c (by omega)]
theorem tot_upd {l : Nat → List Int} {k : Nat} {l' : List Int} : ∀ {c : Nat}, k < c → tot c (updL l k l') + (l k).length = tot c l + l'.length
  | 0, h => absurd h (Nat.not_lt_zero _)
  | c + 1, h => by
    rw [tot_succ, tot_succ]
    by_cases e : k = c
    · subst e
      rw [tot_same (l := l) fun j hj => by unfold updL; rw [if_neg (by omega)]]
      have : updL l k l' k = l' := by unfold updL; rw [if_pos rfl]
      rw [this]
      omega
    · have := tot_upd (l := l) (l' := l') (k := k) (c := c) (by omega)
      have e2 : updL l k l' c = l c := by unfold updL; rw [if_neg fun e' => e e'.symm]
      rw [e2]
      omega
theorem len_tot {l : Nat → List Int} {k : Nat} : ∀ {c : Nat}, k < c → (l k).length ≤ tot c l
  | 0, h => absurd h (Nat.not_lt_zero _)
  | c + 1, h => by
    rw [tot_succ]
    by_cases e : k = c
    · subst e; omega
    · have := len_tot (l := l) (k := k) (c := c) (by omega); omega
theorem tot_nil : ∀ {c : Nat}, tot c (fun _ => []) = 0
  | 0 => rfl
  | c + 1 => by rw [tot_succ, tot_nil]; rfl
theorem tot_one {l : Nat → List Int} {k : Nat} : ∀ {c : Nat}, k < c → (∀ j, j < c → j ≠ k → l j = []) → tot c l = (l k).length
  | 0, h, _ => absurd h (Nat.not_lt_zero _)
  | c + 1, h, h2 => by
    rw [tot_succ]
    by_cases e : k = c
    · subst e
      have : tot k l = 0 := by
        have : tot k l = tot k (fun _ => []) := tot_same fun j hj => h2 j (by omega) (by omega)
        rw [this, tot_nil]
      omega
    · rw [tot_one (k := k) (by omega) fun j hj hne => h2 j (by omega) hne, h2 c (by omega) fun e' => e e'.symm]
      rfl
section
variable {l : Nat → List Int} {a : BitVec 32} {c p : Nat}
theorem few_all : ∀ {n : Nat}, 0 < n → (∀ j, j < n → mb a j = true) → ∃ f : Nat, f < n ∧ fewTo l a n = f ∧ ∀ j, j < n → (l f).length ≤ (l j).length
  | 0, h, _ => absurd h (Nat.not_lt_zero _)
  | n + 1, _, hb => by
    rw [fewTo_succ]
    unfold fewStep
    rw [if_pos (hb n (by omega))]
    by_cases h0 : n = 0
    · subst h0
      refine ⟨0, by omega, by rw [if_pos (.inl (by unfold fewTo; simp))], fun j hj => ?_⟩
      have : j = 0 := by omega
      subst this; exact Nat.le_refl _
    · obtain ⟨f, h1, h2, h3⟩ := few_all (n := n) (by omega) fun j hj => hb j (by omega)
      rw [h2, Int.toNat_natCast]
      by_cases hl : (l n).length < (l f).length
      · refine ⟨n, by omega, by rw [if_pos (.inr hl)], fun j hj => ?_⟩
        by_cases e : j = n
        · subst e; exact Nat.le_refl _
        · have := h3 j (by omega); omega
      · refine ⟨f, by omega, by rw [if_neg]; rintro (e | e); omega; exact hl e, fun j hj => ?_⟩
        by_cases e : j = n
        · subst e; omega
        · exact h3 j (by omega)
theorem few_one {k : Nat} : ∀ {n : Nat}, (∀ j, j < n → mb a j = decide (j = k)) → fewTo l a n = if k < n then (k : Int) else -1
  | 0, _ => by unfold fewTo; simp
  | n + 1, hb => by
    rw [fewTo_succ, few_one (n := n) fun j hj => hb j (by omega)]
    unfold fewStep
    rw [hb n (by omega)]
    by_cases e : n = k
    · subst e
      have e0 : (if n < n then (n : Int) else -1) = -1 := if_neg (by omega)
      rw [if_pos (by simp), e0, if_pos (.inl (by omega)), if_pos (by omega)]
    · rw [if_neg (by simpa using e)]
      by_cases h : k < n
      · rw [if_pos h, if_pos (by omega)]
      · rw [if_neg h, if_neg (by omega)]
theorem mb255 {j : Nat} (h : j < 8) : mb 255#32 j = true := by
  have : ∀ j : Fin 8, mb 255#32 j.1 = true := by decide
  exact this ⟨j, h⟩
theorem mbpow {j k : Nat} (h : j < 8) (hk : k < 8) : mb (BitVec.ofNat 32 (2 ^ k)) j = decide (j = k) := by
  have : ∀ j k : Fin 8, mb (BitVec.ofNat 32 (2 ^ k.1)) j.1 = decide (j.1 = k.1) := by decide
  exact this ⟨j, h⟩ ⟨k, hk⟩
theorem pow_nat {k : Nat} (hk : k < 8) : (BitVec.ofNat 32 (2 ^ k)).toNat = 2 ^ k := by
  have : ∀ k : Fin 8, (BitVec.ofNat 32 (2 ^ k.1)).toNat = 2 ^ k.1 := by decide
  exact this ⟨k, hk⟩
/-- Pids 1 to p are there, each once. -/
structure P0 (c : Nat) (l : Nat → List Int) (p : Nat) : Prop where
  rng : ∀ k, k < c → ∀ x ∈ l k, 1 ≤ x ∧ x ≤ p
  tot : tot c l = p
  nd : ∀ k, k < c → (l k).Nodup
  dis : ∀ i j, i < c → j < c → i ≠ j → ∀ x ∈ l i, x ∉ l j
  has : ∀ x : Int, 1 ≤ x → x ≤ p → ∃ k, k < c ∧ x ∈ l k
  emp : ∀ k, c ≤ k → l k = []
theorem P0.sh (h : P0 c l p) (hp : p < 100) : Sh l := fun k => by
  by_cases hk : k < c
  · have := len_tot (l := l) hk; rw [h.tot] at this; omega
  · rw [h.emp k (by omega)]; decide
theorem P0.start : P0 c (fun _ => []) 0 := by
  exact ⟨fun _ _ x hx => (by cases hx), tot_nil, fun _ _ => List.nodup_nil, fun _ _ _ _ _ x hx => (by cases hx), fun x _ _ => by omega, fun _ _ => rfl⟩
theorem P0.push (h : P0 c l p) {f : Nat} (hf : f < c) : P0 c (updL l f (l f ++ [((p + 1 : Nat) : Int)])) (p + 1) := by
  have hnot : ∀ k, k < c → ((p + 1 : Nat) : Int) ∉ l k := fun k hk e => by have := (h.rng k hk _ e).2; omega
  refine ⟨fun k hk x hx => ?_, ?_, fun k hk => ?_, fun i j hi hj hne x hx hx' => ?_, fun x h1 h2 => ?_, fun k hk => ?_⟩
  · unfold updL at hx
    split at hx
    · rcases List.mem_append.1 hx with hx | hx
      · have := h.rng f hf x hx; omega
      · rw [List.mem_singleton] at hx; omega
    · have := h.rng k hk x hx; omega
  · have := tot_upd (l := l) (k := f) (l' := l f ++ [((p + 1 : Nat) : Int)]) hf
    rw [h.tot, List.length_append, List.length_singleton] at this
    omega
  · unfold updL
    split
    · exact List.nodup_append.2 ⟨h.nd f hf, by simp, fun x hx y hy e => by rw [List.mem_singleton] at hy; exact hnot f hf (by rw [← hy, ← e]; exact hx)⟩
    · exact h.nd k hk
  · unfold updL at hx hx'
    split at hx
    · rename_i e
      subst e
      rw [if_neg (fun e => hne e.symm)] at hx'
      rcases List.mem_append.1 hx with hx | hx
      · exact h.dis i j hi hj hne x hx hx'
      · rw [List.mem_singleton] at hx; exact hnot j hj (hx ▸ hx')
    · split at hx'
      · rename_i e
        subst e
        rcases List.mem_append.1 hx' with hx' | hx'
        · exact h.dis i j hi hj hne x hx hx'
        · rw [List.mem_singleton] at hx'; exact hnot i hi (hx' ▸ hx)
      · exact h.dis i j hi hj hne x hx hx'
  · by_cases e : x ≤ p
    · obtain ⟨k, hk, hx⟩ := h.has x h1 e
      refine ⟨k, hk, ?_⟩
      unfold updL
      split
      · rename_i e2; subst e2; exact List.mem_append_left _ hx
      · exact hx
    · refine ⟨f, hf, ?_⟩
      unfold updL
      rw [if_pos rfl]
      exact List.mem_append_right _ (by rw [List.mem_singleton]; omega)
  · unfold updL
    rw [if_neg (by omega)]; exact h.emp k hk
def Bal (c : Nat) (l : Nat → List Int) : Prop := ∀ i j, i < c → j < c → (l i).length ≤ (l j).length + 1
theorem Bal.push (h : Bal c l) {f : Nat} {x : Int} (hmin : ∀ j, j < c → (l f).length ≤ (l j).length) : Bal c (updL l f (l f ++ [x])) := fun i j hi hj => by
  unfold updL
  by_cases ei : i = f
  · subst ei
    rw [if_pos rfl, List.length_append, List.length_singleton]
    split
    · simp
    · have := hmin j hj; omega
  · rw [if_neg ei]
    by_cases ej : j = f
    · subst ej
      rw [if_pos rfl, List.length_append]
      have := h i j hi hj; omega
    · rw [if_neg ej]; exact h i j hi hj
theorem P0.free (h : P0 c l p) {x : Int} (hx : (p : Int) < x) : whQ c l x = -1 := by
  rcases whQ_spec (c := c) (l := l) (x := x) with ⟨h1, _⟩ | ⟨j, h1, h2, _⟩
  · exact h1
  · have := (h.rng j h1 x h2).2; omega
theorem P0.at_ (h : P0 c l p) {x : Int} (h1 : 1 ≤ x) (h2 : x ≤ p) : ∃ w, w < c ∧ x ∈ l w ∧ whQ c l x = w := by
  obtain ⟨k, hk, hx⟩ := h.has x h1 h2
  rcases whQ_spec (c := c) (l := l) (x := x) with ⟨_, h3⟩ | ⟨j, h3, h4, h5, _⟩
  · exact absurd hx (h3 k hk)
  · exact ⟨j, h3, h4, h5⟩
theorem erase_at {x : Int} : ∀ {l : List Int} {i j : Nat}, idxFrom x l i = (i + j : Nat) → l.eraseIdx j = l.erase x
  | [], _, _, _ => rfl
  | y :: l, i, j, h => by
    unfold idxFrom at h
    by_cases e : y = x
    · rw [if_pos e] at h
      have : j = 0 := by omega
      subst this
      subst e
      simp
    · rw [if_neg e] at h
      have hj : j ≠ 0 := by
        rintro rfl
        rcases idxFrom_spec (x := x) (l := l) (i := i + 1) with ⟨h1, _⟩ | ⟨k, _, _, h1, _⟩ <;> rw [h1] at h <;> omega
      obtain ⟨j, rfl⟩ := Nat.exists_eq_succ_of_ne_zero hj
      have := erase_at (x := x) (l := l) (i := i + 1) (j := j) (by rw [h]; congr 1; omega)
      rw [List.erase_cons_tail (by simpa using e), ← this]
      rfl
/-- While they are moved to core k. -/
structure P2 (c k n : Nat) (was : List Int) (l : Nat → List Int) (p : Nat) : Prop where
  p0 : P0 c l n
  low : ∀ j, j < c → j ≠ k → ∀ x ∈ l j, (p : Int) ≤ x
  ext : ∃ e, l k = was ++ e ∧ (∀ i, i + 1 < e.length → e.getD i 0 < e.getD (i + 1) 0) ∧ ∀ x ∈ e, x < (p : Int)
theorem P2.start {k : Nat} (h : P0 c l p) : P2 c k p (l k) l 1 := ⟨h, fun j hj _ x hx => (h.rng j hj x hx).1, [], by simp, by simp, by simp⟩
theorem P2.stay {k n : Nat} {was : List Int} (h : P2 c k n was l p) (hk : k < c) (hin : (p : Int) ∈ l k) : P2 c k n was l (p + 1) := by
  obtain ⟨e, h1, h2, h3⟩ := h.ext
  refine ⟨h.p0, fun j hj hne x hx => ?_, e, h1, h2, fun x hx => by have := h3 x hx; omega⟩
  have := h.low j hj hne x hx
  by_cases e : x = p
  · subst e; exact absurd hin (h.p0.dis j k hj hk hne _ hx)
  · omega
theorem P2.move {k n w : Nat} {was : List Int} (h : P2 c k n was l p) (hk : k < c) (hw : w < c) (hwk : w ≠ k) (hin : (p : Int) ∈ l w) : P2 c k n was (updL (updL l w ((l w).erase p)) k (updL l w ((l w).erase p) k ++ [(p : Int)])) (p + 1) := by
  have hkk : updL l w ((l w).erase p) k = l k := by unfold updL; rw [if_neg fun e => hwk e.symm]
  rw [hkk]
  have hnk : (p : Int) ∉ l k := h.p0.dis w k hw hk hwk _ hin
  have hrng := h.p0.rng w hw _ hin
  have hget : ∀ j, updL (updL l w ((l w).erase p)) k (l k ++ [(p : Int)]) j = if j = k then l k ++ [(p : Int)] else if j = w then (l w).erase p else l j := fun j => rfl
  have hmem : ∀ j x, j < c → x ∈ updL (updL l w ((l w).erase p)) k (l k ++ [(p : Int)]) j → (j = k ∧ x = p) ∨ (x ≠ p ∧ x ∈ l j) := fun j x hj hx => by
    rw [hget] at hx
    split at hx
    · rename_i e
      rcases List.mem_append.1 hx with hx | hx
      · exact .inr ⟨fun e2 => hnk (e2 ▸ hx), e ▸ hx⟩
      · exact .inl ⟨e, List.mem_singleton.1 hx⟩
    · split at hx
      · rename_i e
        have := (List.Nodup.mem_erase_iff (h.p0.nd w hw)).1 hx
        exact .inr ⟨this.1, e ▸ this.2⟩
      · rename_i e
        exact .inr ⟨fun e2 => h.p0.dis j w hj hw e x hx (by rw [e2]; exact hin), hx⟩
  refine ⟨⟨fun j hj x hx => ?_, ?_, fun j hj => ?_, fun i j hi hj hne x hx hx' => ?_, fun x h1 h2 => ?_, fun j hj => ?_⟩, fun j hj hne x hx => ?_, ?_⟩
  · rcases hmem j x hj hx with ⟨_, rfl⟩ | ⟨_, hx⟩
    · exact hrng
    · exact h.p0.rng j hj x hx
  · have t1 := tot_upd (l := l) (k := w) (l' := (l w).erase p) hw
    have t2 := tot_upd (l := updL l w ((l w).erase p)) (k := k) (l' := l k ++ [(p : Int)]) hk
    rw [hkk, List.length_append, List.length_singleton] at t2
    rw [h.p0.tot, List.length_erase_of_mem hin] at t1
    have := List.length_pos_of_mem hin
    omega
  · rw [hget]
    split
    · exact List.nodup_append.2 ⟨h.p0.nd k hk, by simp, fun x hx y hy e => by rw [List.mem_singleton] at hy; exact hnk (by rw [← hy, ← e]; exact hx)⟩
    · split
      · exact (h.p0.nd w hw).erase _
      · exact h.p0.nd j hj
  · rcases hmem i x hi hx with ⟨e1, e2⟩ | ⟨e1, e2⟩ <;> rcases hmem j x hj hx' with ⟨f1, f2⟩ | ⟨f1, f2⟩
    · exact hne (e1.trans f1.symm)
    · exact f1 e2
    · exact e1 f2
    · exact h.p0.dis i j hi hj hne x e2 f2
  · by_cases e : x = p
    · exact ⟨k, hk, by rw [hget, if_pos rfl]; exact List.mem_append_right _ (by rw [e]; simp)⟩
    · obtain ⟨j, hj, hx⟩ := h.p0.has x h1 h2
      refine ⟨j, hj, ?_⟩
      rw [hget]
      split
      · rename_i e2; exact List.mem_append_left _ (e2 ▸ hx)
      · split
        · rename_i e2; exact (List.Nodup.mem_erase_iff (h.p0.nd w hw)).2 ⟨e, e2 ▸ hx⟩
        · exact hx
  · rw [hget, if_neg (by omega), if_neg (by omega)]; exact h.p0.emp j hj
  · rcases hmem j x hj hx with ⟨e1, _⟩ | ⟨e1, e2⟩
    · exact absurd e1 hne
    · have := h.low j hj hne x e2; omega
  · obtain ⟨e, h1, h2, h3⟩ := h.ext
    refine ⟨e ++ [(p : Int)], by rw [hget, if_pos rfl, h1, List.append_assoc], fun i hi => ?_, fun x hx => ?_⟩
    · rw [List.length_append, List.length_singleton] at hi
      by_cases hh : i + 1 < e.length
      · have := h2 i hh
        simp only [List.getD_eq_getElem?_getD, List.getElem?_append_left hh, List.getElem?_append_left (show i < e.length by omega)] at this ⊢
        exact this
      · have hi2 : i + 1 = e.length := by omega
        have : e.getD i 0 < (p : Int) := h3 _ (by rw [List.getD_eq_getElem?_getD, List.getElem?_eq_getElem (by omega)]; exact List.getElem_mem _)
        simp only [List.getD_eq_getElem?_getD] at this
        simp only [List.getD_eq_getElem?_getD, List.getElem?_append_left (show i < e.length by omega)]
        rw [List.getElem?_append_right (by omega), hi2, Nat.sub_self]
        exact this
    · rcases List.mem_append.1 hx with hx | hx
      · have := h3 x hx; omega
      · rw [List.mem_singleton] at hx; omega
theorem P2.done {k n : Nat} {was : List Int} (h : P2 c k n was l (n + 1)) (hk : k < c) : (l k).length = n := by
  rw [← tot_one hk fun j hj hne => ?_, h.p0.tot]
  cases hl : l j with
  | nil => rfl
  | cons x t =>
    have h1 := h.low j hj hne x (by rw [hl]; simp)
    have h2 := (h.p0.rng j hj x (by rw [hl]; simp)).2
    omega
end
end Go.Ab
