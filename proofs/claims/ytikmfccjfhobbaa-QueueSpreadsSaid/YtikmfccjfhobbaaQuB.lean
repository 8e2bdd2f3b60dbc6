/- Queue: the state, and calls that only read. -/
import Derived.Test.YtikmfccjfhobbaaQuA
import Derived.Test.YtikmfccjfhobbaaTL
namespace Go.Ab
open Go.Proofs
noncomputable section
set_option maxHeartbeats 1000000
theorem eo30 : ElemOk EE.P 30 3 1 8 := ElemOk.of (z := [.int .i64 0]) und_30 (by kernel_rfl) (by kernel_rfl) rfl (by decide)
abbrev il (l : List Int) : List Value := l.map In
theorem il_getD {l : List Int} {j : Nat} (h : j < l.length) : (il l).getD j undef = In (l.getD j 0) := by
  simp [List.getD_eq_getElem?_getD, h]
/-- A slice of numbers. -/
abbrev SlI (M : Mem) (v : Value) (l : List Int) : Prop := SlV M 1 v l.length (il l)
/-- The queues, where they lie. -/
structure QAt (m : Mem) (b : Nat) (O : Nat → Prop) (sl : Nat → Value) (cs : Cells) (c : Nat) (l : Nat → List Int) : Prop where
  at_ : m.get b = some (.cells cs true 0)
  n : cs.n = 9
  c0 : cs.nth 0 = some (In c)
  ck : ∀ k, k < 8 → cs.nth (1 + k) = some (sl k)
  sls : ∀ k, k < 8 → SlI m (sl k) (l k)
  own : ∀ k, k < 8 → ∀ y, slB (sl k) = some y → O y
  ob : O b
  ne : ∀ k k', k < 8 → k' < 8 → k ≠ k' → ∀ y, slB (sl k) = some y → slB (sl k') ≠ some y
  c8 : c ≤ 8
  c1 : 1 ≤ c
section
variable {m : Mem} {b : Nat} {O : Nat → Prop} {sl : Nat → Value} {cs : Cells} {c : Nat} {l : Nat → List Int}
theorem QAt.keep {m' : Mem} (h : QAt m b O sl cs c l) (hk : ∀ y o, O y → m.get y = some o → m'.get y = some o) : QAt m' b O sl cs c l :=
  ⟨hk _ _ h.ob h.at_, h.n, h.c0, h.ck, fun k hk8 => (h.sls k hk8).keep fun y o hy => hk y o (h.own k hk8 y hy), h.own, h.ob, h.ne, h.c8, h.c1⟩
theorem QAt.bump (h : QAt m b O sl cs c l) (j : Nat) : QAt (m.bump j) b O sl cs c l := h.keep fun _ _ _ h => h
theorem QAt.nx {m' : Mem} (h : QAt m b O sl cs c l) (hm : Fresh m) (hn : Nx m m') : QAt m' b O sl cs c l := h.keep fun _ _ _ hy => hn.keep hm hy
theorem cores_ok (h : QAt m b O sl cs c l) : Con EE.P 29 [PT b] m (In c) m := by
  refine Con.of EE_ok fn29 (Nat.le_of_ble_eq_true rfl) Grow.rfl fun hm => ?_
  simp only [f29, enumV, w29, W_seq, w29_0, Nat.le_refl, X_assign, ev_const, Nat.reduceLT, T_set, X_nil, thenQ_normal, w29_1, Mem.next_bump, Nat.le_add_right, bump_bump, Nat.reduceAdd, X_move, ev_T, lk_cons, Nat.reduceEqDiff, if_true, if_false, X_eql EE_sym, eq_ptr_nil und_23, okI_some, W_cond, CDi_f, W_skip, w29_4, X_nilCheck EE_sym, nilV_ptr, X_fieldAddr EE_sym fo_57_0, offV_ptr, Nat.add_zero, X_load EE_sym, load1 lay_3, Mem.get_bump, h.at_, ld1_cells, h.c0, W_ret, FinC_ret, resA_tmp, T_get, resA_nil, Option.map_some, oneOr1, true_and]
  exact TidyE.pure rfl fun _ _ => rfl
theorem is_ok {k : Int} (h : QAt m b O sl cs c l) : Con EE.P 30 [PT b, In k] m (.bool (decide (0 ≤ k ∧ k < c))) m := by
  refine Con.of EE_ok fn30 (Nat.le_of_ble_eq_true rfl) Grow.rfl fun hm => ?_
  by_cases h0 : 0 ≤ k
  · simp only [f30, enumV, Nat.zero_add, w30, W_seq, w30_0, Nat.le_refl, X_assign, ev_const, Nat.reduceLT, T_set, X_nil, h0, true_and, thenQ_normal, w30_1, Mem.next_bump, Nat.le_add_right, bump_bump, Nat.reduceAdd, X_move, ev_T, lk_cons, Nat.reduceEqDiff, if_true, if_false, X_bin EE_sym (op := .geq) rfl, bin_geq, decide_true, okI_some, X_guard EE_sym, T_get, GDi_tt, Nat.one_ne_zero, X_call ca_29, List.map_cons, List.map_nil]
    refine CallI.con0 (cores_ok (h.bump _)) ?_
    simp only [putT, Nat.reduceLT, T_set, X_guard EE_sym, T_get, lk_cons, Nat.reduceEqDiff, if_false, if_true, GDi_tt, X_bin EE_sym (op := .lss) rfl, ev_T, bin_lss, okI_some, X_pick EE_sym, ev_const, pickV_bool, X_assign, X_nil, thenQ_normal, W_ret, FinC_ret, resA_tmp, resA_nil, Option.map_some, oneOr1]
    exact TidyE.pure rfl fun _ _ => rfl
  · simp only [f30, enumV, Nat.zero_add, w30, W_seq, w30_0, Nat.le_refl, X_assign, ev_const, Nat.reduceLT, T_set, X_nil, h0, thenQ_normal, w30_1, Mem.next_bump, Nat.le_add_right, bump_bump, Nat.reduceAdd, X_move, ev_T, lk_cons, Nat.reduceEqDiff, if_true, if_false, X_bin EE_sym (op := .geq) rfl, bin_geq, decide_false, okI_some, X_guard EE_sym, T_get, GDi_ft, putT, X_pick EE_sym, pickV_bool, Bool.false_eq_true, W_ret, FinC_ret, resA_tmp, resA_nil, Option.map_some, oneOr1, true_and]
    exact TidyE.pure rfl fun _ _ => rfl
/-- The first place of a number; -1: it is in none. -/
def idxFrom (x : Int) : List Int → Nat → Int
  | [], _ => -1
  | y :: l, i => if y = x then i else idxFrom x l (i + 1)
def idxL (l : List Int) (x : Int) : Int := idxFrom x l 0
theorem idxFrom_drop {x : Int} : ∀ {l : List Int} {i j : Nat}, j < l.length → idxFrom x (l.drop j) i = if l.getD j 0 = x then (i : Int) else idxFrom x (l.drop (j + 1)) (i + 1)
  | [], _, _, h => absurd h (Nat.not_lt_zero _)
  | a :: l, i, 0, _ => rfl
  | a :: l, i, j + 1, h => idxFrom_drop (l := l) (Nat.lt_of_succ_lt_succ h)
theorem idxFrom_spec {x : Int} : ∀ {l : List Int} {i : Nat}, (idxFrom x l i = -1 ∧ x ∉ l) ∨ ∃ j, j < l.length ∧ l.getD j 0 = x ∧ idxFrom x l i = (i + j : Nat) ∧ ∀ k, k < j → l.getD k 0 ≠ x
  | [], i => .inl ⟨rfl, by simp⟩
  | y :: l, i => by
    unfold idxFrom
    by_cases h : y = x
    · rw [if_pos h]
      exact .inr ⟨0, by simp, by simpa using h, by simp, fun k hk => absurd hk (Nat.not_lt_zero _)⟩
    · rw [if_neg h]
      rcases idxFrom_spec (x := x) (l := l) (i := i + 1) with ⟨h1, h2⟩ | ⟨j, h1, h2, h3, h4⟩
      · exact .inl ⟨h1, by rw [List.mem_cons]; exact fun e => e.elim (fun e => h e.symm) h2⟩
      · refine .inr ⟨j + 1, by simp; omega, by simpa using h2, by rw [h3]; congr 1; omega, fun k hk => ?_⟩
        rcases k with _ | k
        · simpa using h
        · simpa using h4 k (by omega)
theorem index_ok {v : Value} {x : Int} {l : List Int} (h : SlI m v l) (hl : l.length < 4294967296) : Con EE.P 38 [v, In x] m (In (idxL l x)) m := by
  refine Con.of EE_ok fn38 (Nat.le_of_ble_eq_true rfl) Grow.rfl fun hm => ?_
  have hlen : ∀ M, lenA EE.P 30 v M = some (In l.length) := fun M => h.lenA und_30
  simp only [f38, enumV, Nat.zero_add, w38, W_seq, w38_0, Nat.le_refl, X_assign, ev_const, Nat.reduceLT, T_set, X_nil, thenQ_normal, w38_1, Mem.next_bump, Nat.le_add_right, bump_bump, Nat.reduceAdd, X_move, ev_T, lk_cons, Nat.reduceEqDiff, Nat.one_ne_zero, if_false, if_true, X_len EE_sym, hlen, okI_some, W_block, w38_10, true_and]
  refine WX.loop_of (fun x' t M => ∃ i j : Nat, i ≤ l.length ∧ x' = l.length - i ∧ t = T 19 [(8, In i), (7, In l.length), (1, In x), (0, v)] ∧ M = m.bump j ∧ idxL l x = idxFrom x (l.drop i) i) ?_ (k := l.length) (t1 := T 19 [(8, In (0 : Nat)), (7, In l.length), (1, In x), (0, v)]) (View.temps ⟨rfl, rfl, rfl, rfl, trivial⟩) ⟨0, _, by omega, rfl, rfl, rfl, rfl⟩
  rintro x' t M ⟨i, j, hi, rfl, rfl, rfl, hI⟩
  by_cases hi2 : i < l.length
  · obtain ⟨B, cc, cB, rfl, k1, k2, k3, k4⟩ := h.cons (by omega)
    have q1 : (i : Int) < (l.length : Int) := by omega
    have q2 : (0 : Int) ≤ i := by omega
    have q3 : cB.nth i = some (In (l.getD i 0)) := by rw [nth_lt (by omega), k4 i (by simpa using hi2), il_getD hi2]
    have hw : IntKind.i64.wrap ((i : Int) + 1) = ((i + 1 : Nat) : Int) := by rw [wrap_i64 (by omega) (by omega)]; omega
    rw [idxFrom_drop hi2] at hI
    by_cases hx : x = l.getD i 0
    · have e2 : decide (x = l.getD i 0) = true := by simpa using hx
      rw [if_pos hx.symm] at hI
      simp only [w38_9, W_seq, w38_2, Mem.next_bump, Nat.le_add_right, bump_bump, X_bin EE_sym (op := .lss) rfl, Nat.reduceLT, ev_T, lk_cons, Nat.reduceEqDiff, if_false, if_true, bin_lss, q1, decide_true, okI_some, T_set, X_nil, thenQ_normal, W_cond, CDi_t, W_skip, W_block, w38_7, w38_3, Nat.add_assoc, Nat.reduceAdd, X_move, X_assign, w38_4, Nat.one_ne_zero, X_indexAddr EE_sym, q2, idxV_slice und_30 sz_3, Int.toNat_natCast, Nat.mul_one, Nat.zero_add, X_load EE_sym, load1 lay_3, Mem.get_bump, k1, ld1_cells, q3, X_eql EE_sym, eq_int, e2, w38_6, w38_5, W_ret, blockQ_ret, thenQ_ret, roundQ_ret, FinC_ret, resA_tmp, T_get, resA_nil, Option.map_some, oneOr1, true_and]
      rw [hI]
      exact TidyE.pure rfl fun _ _ => rfl
    · have e2 : decide (x = l.getD i 0) = false := by simpa using hx
      rw [if_neg fun e => hx e.symm] at hI
      simp only [w38_9, W_seq, w38_2, Mem.next_bump, Nat.le_add_right, bump_bump, X_bin EE_sym (op := .lss) rfl, Nat.reduceLT, ev_T, lk_cons, Nat.reduceEqDiff, if_false, if_true, bin_lss, q1, decide_true, okI_some, T_set, X_nil, thenQ_normal, W_cond, CDi_t, W_skip, W_block, w38_7, w38_3, Nat.add_assoc, Nat.reduceAdd, X_move, X_assign, w38_4, Nat.one_ne_zero, X_indexAddr EE_sym, q2, idxV_slice und_30 sz_3, Int.toNat_natCast, Nat.mul_one, Nat.zero_add, X_load EE_sym, load1 lay_3, Mem.get_bump, k1, ld1_cells, q3, X_eql EE_sym, eq_int, e2, CDi_f, blockQ_normal, w38_8, X_bin EE_sym (op := .add) rfl, ev_const, bin_add, hw, roundQ_normal, true_and]
      exact ⟨l.length - (i + 1), _, _, by omega, View.temps (l' := [(8, In ((i + 1 : Nat) : Int)), (7, In l.length), (1, In x), (0, .slice (some ⟨B, 0, none⟩) l.length cc)]) ⟨rfl, rfl, rfl, rfl, trivial⟩, i + 1, _, by omega, rfl, rfl, rfl, hI⟩
  · have q1 : ¬ (i : Int) < (l.length : Int) := by omega
    have e1 : idxL l x = -1 := by rw [hI, List.drop_of_length_le (by omega)]; rfl
    simp only [w38_9, W_seq, w38_2, Mem.next_bump, Nat.le_add_right, bump_bump, X_bin EE_sym (op := .lss) rfl, Nat.reduceLT, ev_T, lk_cons, Nat.reduceEqDiff, if_false, if_true, bin_lss, q1, decide_false, okI_some, T_set, X_nil, thenQ_normal, W_cond, CDi_f, W_exit, thenQ_exit, roundQ_exit, blockQ_exit, w38_11, Nat.add_assoc, Nat.reduceAdd, X_assign, ev_const, W_ret, FinC_ret, resA_tmp, T_get, resA_nil, Option.map_some, oneOr1, true_and]
    rw [e1]
    exact TidyE.pure rfl fun _ _ => rfl
theorem idxL_mem {l : List Int} {x : Int} : 0 ≤ idxL l x ↔ x ∈ l := by
  unfold idxL
  rcases idxFrom_spec (x := x) (l := l) (i := 0) with ⟨h1, h2⟩ | ⟨j, h1, h2, h3, _⟩
  · rw [h1]; exact ⟨fun h => by omega, fun h => absurd h h2⟩
  · rw [h3]
    refine ⟨fun _ => ?_, fun _ => by omega⟩
    rw [← h2, List.getD_eq_getElem?_getD, List.getElem?_eq_getElem h1]
    exact List.getElem_mem h1
theorem contains_ok {v : Value} {x : Int} {l : List Int} (h : SlI m v l) (hl : l.length < 4294967296) : Con EE.P 34 [v, In x] m (.bool (decide (x ∈ l))) m := by
  refine Con.of EE_ok fn34 (Nat.le_of_ble_eq_true rfl) Grow.rfl fun hm => ?_
  simp only [f34, enumV, Nat.zero_add, w34, W_seq, w34_0, Nat.le_refl, X_assign, ev_const, Nat.reduceLT, T_set, X_nil, thenQ_normal, w34_1, Mem.next_bump, Nat.le_add_right, bump_bump, Nat.reduceAdd, X_move, ev_T, lk_cons, Nat.reduceEqDiff, Nat.one_ne_zero, if_false, if_true, X_call ca_38, List.map_cons, List.map_nil, true_and]
  refine CallI.con0 (index_ok (h.bump _) hl) ?_
  have e : decide (0 ≤ idxL l x) = decide (x ∈ l) := decide_eq_decide.2 idxL_mem
  simp only [putT, Nat.reduceLT, T_set, X_bin EE_sym (op := .geq) rfl, ev_T, lk_cons, Nat.reduceEqDiff, if_false, if_true, ev_const, bin_geq, e, okI_some, X_assign, X_nil, thenQ_normal, W_ret, FinC_ret, resA_tmp, T_get, resA_nil, Option.map_some, oneOr1]
  exact TidyE.pure rfl fun _ _ => rfl
/-! where one is -/
def whFrom (l : Nat → List Int) (x : Int) : Nat → Nat → Int
  | 0, _ => -1
  | n + 1, k => if x ∈ l k then k else whFrom l x n (k + 1)
def whQ (c : Nat) (l : Nat → List Int) (x : Int) : Int := whFrom l x c 0
theorem whFrom_spec {l : Nat → List Int} {x : Int} : ∀ {n k : Nat}, (whFrom l x n k = -1 ∧ ∀ j, k ≤ j → j < k + n → x ∉ l j) ∨ ∃ j, k ≤ j ∧ j < k + n ∧ x ∈ l j ∧ whFrom l x n k = j ∧ ∀ i, k ≤ i → i < j → x ∉ l i
  | 0, k => .inl ⟨rfl, fun j _ _ => by omega⟩
  | n + 1, k => by
    unfold whFrom
    by_cases h : x ∈ l k
    · rw [if_pos h]
      exact .inr ⟨k, Nat.le_refl _, by omega, h, rfl, fun i _ _ => by omega⟩
    · rw [if_neg h]
      rcases whFrom_spec (l := l) (x := x) (n := n) (k := k + 1) with ⟨h1, h2⟩ | ⟨j, h1, h2, h3, h4, h5⟩
      · refine .inl ⟨h1, fun j a1 a2 => ?_⟩
        rcases Nat.eq_or_lt_of_le a1 with rfl | a1
        · exact h
        · exact h2 j a1 (by omega)
      · refine .inr ⟨j, by omega, by omega, h3, h4, fun i a1 a2 => ?_⟩
        rcases Nat.eq_or_lt_of_le a1 with rfl | a1
        · exact h
        · exact h5 i a1 a2
theorem whQ_spec {c : Nat} {l : Nat → List Int} {x : Int} : (whQ c l x = -1 ∧ ∀ j, j < c → x ∉ l j) ∨ ∃ j, j < c ∧ x ∈ l j ∧ whQ c l x = j ∧ ∀ i, i < j → x ∉ l i := by
  unfold whQ
  rcases whFrom_spec (l := l) (x := x) (n := c) (k := 0) with ⟨h1, h2⟩ | ⟨j, h1, h2, h3, h4, h5⟩
  · exact .inl ⟨h1, fun j hj => h2 j (Nat.zero_le _) (by omega)⟩
  · exact .inr ⟨j, by omega, h3, h4, fun i hi => h5 i (Nat.zero_le _) hi⟩
def Short (l : Nat → List Int) : Prop := ∀ k, (l k).length < 4294967296
theorem where_ok {x : Int} (h : QAt m b O sl cs c l) (hl : Short l) : Con EE.P 16 [PT b, In x] m (In (whQ c l x)) m := by
  refine Con.of EE_ok fn16 (Nat.le_of_ble_eq_true rfl) Grow.rfl fun hm => ?_
  simp only [f16, enumV, Nat.zero_add, w16, W_seq, w16_0, Nat.le_refl, X_assign, ev_const, Nat.reduceLT, T_set, X_nil, thenQ_normal, w16_1, Mem.next_bump, Nat.le_add_right, bump_bump, Nat.reduceAdd, X_move, ev_T, lk_cons, Nat.reduceEqDiff, Nat.one_ne_zero, if_false, if_true, X_call ca_29, List.map_cons, List.map_nil, true_and]
  refine CallI.con0 (cores_ok (h.bump _)) ?_
  simp only [putT, Nat.reduceLT, T_set, X_move, ev_const, X_nil, thenQ_normal, W_block, w16_10]
  refine WX.loop_of (fun x' t M => ∃ i j : Nat, i ≤ c ∧ x' = c - i ∧ t = T 21 [(8, In i), (7, In c), (1, In x), (0, PT b)] ∧ M = m.bump j ∧ whQ c l x = whFrom l x (c - i) i) ?_ (k := c) (t1 := T 21 [(8, In (0 : Nat)), (7, In c), (1, In x), (0, PT b)]) (View.temps ⟨rfl, rfl, rfl, rfl, trivial⟩) ⟨0, _, by omega, rfl, rfl, rfl, rfl⟩
  rintro x' t M ⟨i, j, hi, rfl, rfl, rfl, hI⟩
  by_cases hi2 : i < c
  · have q1 : (i : Int) < (c : Int) := by omega
    have q2 : (0 : Int) ≤ i := by omega
    have q8 : (i : Int) < ((8 : Nat) : Int) := by have := h.c8; omega
    have q3 := h.ck i (by have := h.c8; omega)
    have q4 := h.sls i (by have := h.c8; omega)
    have hw : IntKind.i64.wrap ((i : Int) + 1) = ((i + 1 : Nat) : Int) := by rw [wrap_i64 (by have := h.c8; omega) (by have := h.c8; omega)]; omega
    simp only [w16_9, W_seq, w16_2, Mem.next_bump, Nat.le_add_right, bump_bump, X_bin EE_sym (op := .lss) rfl, Nat.reduceLT, ev_T, lk_cons, Nat.reduceEqDiff, if_false, if_true, bin_lss, q1, decide_true, okI_some, T_set, X_nil, thenQ_normal, W_cond, CDi_t, W_skip, W_block, w16_7, w16_3, Nat.add_assoc, Nat.reduceAdd, X_move, X_assign, w16_4, Nat.one_ne_zero, X_nilCheck EE_sym, nilV_ptr, X_fieldAddr EE_sym fo_57_1, offV_ptr, Nat.zero_add, X_indexAddr EE_sym, q2, q8, idxV_arr und_55 sz_30, Int.toNat_natCast, Nat.mul_one, X_load EE_sym, load1 lay_30, Mem.get_bump, h.at_, ld1_cells, q3, X_call ca_34, List.map_cons, List.map_nil, true_and]
    refine CallI.con0 (contains_ok (q4.bump _) (hl i)) ?_
    rw [show c - i = (c - (i + 1)) + 1 by omega, whFrom] at hI
    by_cases hx : x ∈ l i
    · rw [if_pos hx] at hI
      have e2 : decide (x ∈ l i) = true := decide_eq_true hx
      simp only [e2, putT, Nat.reduceLT, T_set, X_nil, thenQ_normal, W_cond, ev_T, lk_cons, Nat.reduceEqDiff, if_false, if_true, CDi_t, w16_6, W_seq, w16_5, Mem.next_bump, Nat.le_add_right, bump_bump, Nat.add_assoc, Nat.reduceAdd, X_move, X_assign, W_ret, blockQ_ret, thenQ_ret, roundQ_ret, FinC_ret, resA_tmp, T_get, resA_nil, Option.map_some, okI_some, oneOr1, true_and]
      rw [hI]
      exact TidyE.pure rfl fun _ _ => rfl
    · rw [if_neg hx] at hI
      have e2 : decide (x ∈ l i) = false := decide_eq_false hx
      simp only [e2, putT, Nat.reduceLT, T_set, X_nil, thenQ_normal, W_cond, ev_T, lk_cons, Nat.reduceEqDiff, if_false, if_true, CDi_f, W_skip, blockQ_normal, w16_8, Mem.next_bump, Nat.le_add_right, bump_bump, Nat.add_assoc, Nat.reduceAdd, X_bin EE_sym (op := .add) rfl, ev_const, bin_add, hw, okI_some, X_move, roundQ_normal, true_and]
      exact ⟨c - (i + 1), _, _, by omega, View.temps (l' := [(8, In ((i + 1 : Nat) : Int)), (7, In c), (1, In x), (0, PT b)]) ⟨rfl, rfl, rfl, rfl, trivial⟩, i + 1, _, by omega, rfl, rfl, rfl, hI⟩
  · have q1 : ¬ (i : Int) < (c : Int) := by omega
    have e1 : whQ c l x = -1 := by rw [hI, show c - i = 0 by omega]; rfl
    simp only [w16_9, W_seq, w16_2, Mem.next_bump, Nat.le_add_right, bump_bump, X_bin EE_sym (op := .lss) rfl, Nat.reduceLT, ev_T, lk_cons, Nat.reduceEqDiff, if_false, if_true, bin_lss, q1, decide_false, okI_some, T_set, X_nil, thenQ_normal, W_cond, CDi_f, W_exit, thenQ_exit, roundQ_exit, blockQ_exit, w16_11, Nat.add_assoc, Nat.reduceAdd, X_assign, ev_const, W_ret, FinC_ret, resA_tmp, T_get, resA_nil, Option.map_some, oneOr1, true_and]
    rw [e1]
    exact TidyE.pure rfl fun _ _ => rfl
end
end
end Go.Ab
