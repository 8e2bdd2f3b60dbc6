/- Queue: the document's queues: the state, and calls that only read. -/
import Derived.Test.YtikmfccjfhobbaaQuM
import Derived.Test.YtikmfccjfhobbaaQuAR
import Derived.Test.YtikmfccjfhobbaaQuN
namespace Go.Ab
open Go.Proofs
noncomputable section
set_option maxHeartbeats 4000000
set_option maxRecDepth 10000
abbrev Items := List (Int × Int)
def itl (I : Items) : List Value := I.flatMap fun p => [In p.1, In p.2]
theorem itl_len (I : Items) : (itl I).length = I.length * 2 := by
  induction I with
  | nil => rfl
  | cons p I ih =>
    have : (itl (p :: I)).length = (itl I).length + 2 := by unfold itl; simp [List.flatMap_cons]
    rw [this, ih, List.length_cons]; omega
theorem itl_getD : ∀ {I : Items} {j : Nat}, j < I.length → (itl I).getD (j * 2) undef = In (I.getD j (0, 0)).1 ∧ (itl I).getD (j * 2 + 1) undef = In (I.getD j (0, 0)).2
  | [], _, h => absurd h (Nat.not_lt_zero _)
  | p :: I, 0, _ => ⟨rfl, rfl⟩
  | p :: I, j + 1, h => by
    have := itl_getD (I := I) (j := j) (by simpa using h)
    have e : itl (p :: I) = In p.1 :: In p.2 :: itl I := rfl
    rw [e, show (j + 1) * 2 = j * 2 + 1 + 1 by omega]
    exact this
/-- The document's queues, where they lie: c cores, the items I. -/
structure RAt (m : Mem) (b : Nat) (O : Nat → Prop) (c : Nat) (v : Value) (I : Items) : Prop where
  at_ : ∃ cs, m.get b = some (.cells cs true 0) ∧ cs.n = 2 ∧ cs.nth 0 = some (In c) ∧ cs.nth 1 = some v
  sl : SlV m 2 v I.length (itl I)
  ob : O b
  own : ∀ y, slB v = some y → O y
  ne : slB v ≠ some b
section
variable {m : Mem} {b c : Nat} {O : Nat → Prop} {v : Value} {I : Items}
theorem RAt.keep {m' : Mem} (h : RAt m b O c v I) (hk : ∀ y o, O y → m.get y = some o → m'.get y = some o) : RAt m' b O c v I := by
  obtain ⟨cs, h1, h2⟩ := h.at_
  exact ⟨⟨cs, hk b _ h.ob h1, h2⟩, h.sl.keep fun y o hy ho => hk y o (h.own y hy) ho, h.ob, h.own, h.ne⟩
theorem RAt.bump (h : RAt m b O c v I) (j : Nat) : RAt (m.bump j) b O c v I := h.keep fun _ _ _ h => h
theorem RAt.nx {m' : Mem} (h : RAt m b O c v I) (hm : Fresh m) (hn : Nx m m') : RAt m' b O c v I := h.keep fun _ _ _ hy => hn.keep hm hy
/-- An item's place. -/
theorem RAt.cells (h : RAt m b O c v I) (hI : I.length ≠ 0) : ∃ B cc cB, v = .slice (some ⟨B, 0, none⟩) I.length cc ∧ m.get B = some (.cells cB true 2) ∧ B ≠ b ∧ ∀ j, j < I.length → cB.nth (j * 2) = some (In (I.getD j (0, 0)).1) ∧ cB.nth (j * 2 + 1) = some (In (I.getD j (0, 0)).2) ∧ cB.sub (j * 2) 2 = some [In (I.getD j (0, 0)).1, In (I.getD j (0, 0)).2] := by
  obtain ⟨B, cc, cB, e, k1, k2, k3, k4⟩ := h.sl.cons hI
  refine ⟨B, cc, cB, e, k1, fun e2 => h.ne (by rw [e, e2]; rfl), fun j hj => ?_⟩
  have hl := itl_len I
  obtain ⟨g1, g2⟩ := itl_getD hj
  have e1 : cB.get (j * 2) = In (I.getD j (0, 0)).1 := by rw [k4 _ (by omega), g1]
  have e2 : cB.get (j * 2 + 1) = In (I.getD j (0, 0)).2 := by rw [k4 _ (by omega), g2]
  refine ⟨by rw [nth_lt (by omega), e1], by rw [nth_lt (by omega), e2], ?_⟩
  refine sub_get (by rfl) (by omega) fun x hx => ?_
  have hx : x < 2 := hx
  rcases (show x = 0 ∨ x = 1 by omega) with rfl | rfl
  · exact e1
  · exact e2
/-- Where one is. -/
def whI : Items → Int → Int
  | [], _ => -1
  | p :: I, x => if p.1 = x then p.2 else whI I x
theorem whI_cons {p : Int × Int} {x : Int} : whI (p :: I) x = if p.1 = x then p.2 else whI I x := rfl
theorem where_r {x : Int} (h : RAt m b O c v I) (hI : I.length < 1073741824) : Con EE.P 23 [PT b, In x] m (In (whI I x)) m := by
  refine Con.of EE_ok fn23 (Nat.le_of_ble_eq_true rfl) Grow.rfl fun hm => ?_
  obtain ⟨cs, a1, a2, a3, a4⟩ := h.at_
  have hl1 : ∀ M, lenA EE.P 46 v M = some (In I.length) := fun M => h.sl.lenA und_46
  simp only [f23, enumV, Nat.zero_add, w23, W_seq, w23_0, Nat.le_refl, X_assign, ev_const, Nat.reduceLT, T_set, X_nil, thenQ_normal, w23_1, Mem.next_bump, Nat.le_add_right, bump_bump, Nat.reduceAdd, W_block, w23_9, true_and]
  refine WX.loop_of (fun y t M => ∃ i j : Nat, i ≤ I.length ∧ y = I.length - i ∧ t = T 33 [(5, In i), (0, PT b), (1, In x)] ∧ M = m.bump j ∧ whI (I.drop i) x = whI I x) ?_ (k := I.length) (t1 := T 33 [(5, In (0 : Nat)), (0, PT b), (1, In x)]) (View.temps ⟨rfl, rfl, rfl, trivial⟩) ⟨0, _, by omega, rfl, rfl, rfl, rfl⟩
  rintro y t M ⟨i, j, hi, rfl, rfl, rfl, hd⟩
  by_cases hi2 : i < I.length
  · have q1 : (i : Int) < (I.length : Int) := by omega
    have q2 : (0 : Int) ≤ i := by omega
    have hw : IntKind.i64.wrap ((i : Int) + 1) = ((i + 1 : Nat) : Int) := by rw [wrap_i64 (by omega) (by omega)]; omega
    obtain ⟨B, cc, cB, rfl, k1, k2, k3⟩ := h.cells (by omega)
    obtain ⟨g1, g2, _⟩ := k3 i hi2
    have hdr : I.drop i = I.getD i (0, 0) :: I.drop (i + 1) := by rw [List.drop_eq_getElem_cons hi2, List.getD_eq_getElem?_getD, List.getElem?_eq_getElem hi2]; rfl
    rw [hdr, whI_cons] at hd
    by_cases he : (I.getD i (0, 0)).1 = x
    · rw [if_pos he] at hd
      have d0 := decide_eq_true he
      simp only [w23_8, W_seq, w23_2, Mem.next_bump, Nat.le_add_right, bump_bump, X_move, Nat.reduceLT, ev_T, lk_cons, Nat.reduceEqDiff, if_false, if_true, T_set, Nat.one_ne_zero, X_nilCheck EE_sym, nilV_ptr, okI_some, X_fieldAddr EE_sym fo_48_1, offV_ptr, Nat.zero_add, X_load EE_sym, load1 lay_46, Mem.get_bump, a1, ld1_cells, a4, X_len EE_sym, len_slice und_46, X_bin EE_sym (op := .lss) rfl, bin_lss, q1, decide_true, X_nil, thenQ_normal, W_cond, CDi_t, W_skip, W_block, w23_6, w23_3, Nat.add_assoc, Nat.reduceAdd, X_indexAddr EE_sym, q2, idxV_slice und_46 sz_72, Int.toNat_natCast, X_fieldAddr EE_sym fo_72_0, Nat.add_zero, load1 lay_3, k1, g1, X_eql EE_sym, eq_int, d0, w23_5, w23_4, X_fieldAddr EE_sym fo_72_1, g2, hd, X_assign, W_ret, blockQ_ret, thenQ_ret, roundQ_ret, FinC_ret, resA_tmp, T_get, resA_nil, Option.map_some, oneOr1, true_and]
      exact TidyE.pure rfl fun _ _ => rfl
    · rw [if_neg he] at hd
      have d0 := decide_eq_false he
      simp only [w23_8, W_seq, w23_2, Mem.next_bump, Nat.le_add_right, bump_bump, X_move, Nat.reduceLT, ev_T, lk_cons, Nat.reduceEqDiff, if_false, if_true, T_set, Nat.one_ne_zero, X_nilCheck EE_sym, nilV_ptr, okI_some, X_fieldAddr EE_sym fo_48_1, offV_ptr, Nat.zero_add, X_load EE_sym, load1 lay_46, Mem.get_bump, a1, ld1_cells, a4, X_len EE_sym, len_slice und_46, X_bin EE_sym (op := .lss) rfl, bin_lss, q1, decide_true, X_nil, thenQ_normal, W_cond, CDi_t, W_skip, W_block, w23_6, w23_3, Nat.add_assoc, Nat.reduceAdd, X_indexAddr EE_sym, q2, idxV_slice und_46 sz_72, Int.toNat_natCast, X_fieldAddr EE_sym fo_72_0, Nat.add_zero, load1 lay_3, k1, g1, X_eql EE_sym, eq_int, d0, CDi_f, blockQ_normal, w23_7, X_bin EE_sym (op := .add) rfl, ev_const, bin_add, hw, X_assign, roundQ_normal, true_and]
      exact ⟨I.length - (i + 1), _, _, by omega, View.temps (l' := [(5, In ((i + 1 : Nat) : Int)), (0, PT b), (1, In x)]) ⟨rfl, rfl, rfl, trivial⟩, i + 1, _, by omega, rfl, rfl, rfl, hd⟩
  · have q1 : ¬ (i : Int) < (I.length : Int) := by omega
    have hd : whI I x = -1 := by rw [← hd, List.drop_of_length_le (by omega)]; rfl
    rw [hd]
    simp only [w23_8, W_seq, w23_2, Mem.next_bump, Nat.le_add_right, bump_bump, X_move, Nat.reduceLT, ev_T, lk_cons, Nat.reduceEqDiff, if_false, if_true, T_set, Nat.one_ne_zero, X_nilCheck EE_sym, nilV_ptr, okI_some, X_fieldAddr EE_sym fo_48_1, offV_ptr, Nat.zero_add, X_load EE_sym, load1 lay_46, Mem.get_bump, a1, ld1_cells, a4, X_len EE_sym, hl1, X_bin EE_sym (op := .lss) rfl, bin_lss, q1, decide_false, X_nil, thenQ_normal, W_cond, CDi_f, W_exit, thenQ_exit, roundQ_exit, blockQ_exit, w23_10, Nat.add_assoc, Nat.reduceAdd, X_assign, ev_const, W_ret, FinC_ret, resA_tmp, T_get, resA_nil, Option.map_some, oneOr1, true_and]
    exact TidyE.pure rfl fun _ _ => rfl
/-- A queue of theirs. -/
def lsI (I : Items) (k : Int) : List Int := (I.filter fun p => p.2 = k).map Prod.fst
theorem lsI_snoc {p : Int × Int} {k : Int} : lsI (I ++ [p]) k = if p.2 = k then lsI I k ++ [p.1] else lsI I k := by
  unfold lsI
  rw [List.filter_append, List.map_append]
  by_cases h : p.2 = k
  · rw [if_pos h, List.filter_cons, if_pos (by simpa using h)]; rfl
  · rw [if_neg h, List.filter_cons, if_neg (by simpa using h)]; simp
theorem lsI_len {k : Int} : (lsI I k).length ≤ I.length := by
  unfold lsI
  rw [List.length_map]
  exact List.length_filter_le _ _
theorem take_snoc {I : Items} {i : Nat} (h : i < I.length) : I.take (i + 1) = I.take i ++ [I.getD i (0, 0)] := by
  rw [List.take_add_one, List.getElem?_eq_getElem h, List.getD_eq_getElem?_getD, List.getElem?_eq_getElem h]; rfl
/-- One more at the end of a list of our own. -/
theorem NewL.app1 {M : Mem} {u : Value} {l : List Int} {x : Int} {j b1 id : Nat} (hm : Fresh m) (hL : NewL m M u l) (hb : M.next ≤ b1 ∧ b1 < M.next + j) (hid : M.next ≤ id ∧ id < M.next + j) (hl : l.length < 1073741824) {K : Value × Mem → Prop}
    (hK : ∀ v' M', NewL m M' v' (l ++ [x]) → M'.next = M.next + j → (∀ y, y < m.next → M'.get y = m.get y) → K (v', M')) :
    okI (appendA EE.P id #[30, 30] u (.slice (some ⟨b1, 0, none⟩) 1 1) ((M.put b1 (.cells (Cells.ofList [In x]) true 1)).bump j)) (k := ⟨K⟩) := by
  have hnx := hL.nx.next
  have hsv : SlI ((M.put b1 (.cells (Cells.ofList [In x]) true 1)).bump j) u l := hL.sl.keep fun y o hy ho => by
    have := hL.sl.lt hL.nx.fresh hy
    rw [Mem.get_bump, Mem.get_put, if_neg (by omega), ho]
  have hsrc : srcA 1 (.slice (some ⟨b1, 0, none⟩) 1 1) ((M.put b1 (.cells (Cells.ofList [In x]) true 1)).bump j) = some ([In x], 1) := by
    rw [src_at, Mem.get_bump, Mem.get_put, if_pos rfl, srcC_cells, sub_ofList (by simp)]; rfl
  refine okI_app eo30 (k := 1) (new := [In x]) hsv hsrc (by decide) rfl rfl (.inl rfl) ⟨by omega, by omega⟩ fun v' M' hA => ?_
  have hs : SlI M' v' (l ++ [x]) := by
    simpa only [SlI, il, List.length_append, List.map_append, List.map_cons, List.map_nil, List.length_cons, List.length_nil] using hA.sl
  have n3 := hA.next
  rw [Mem.next_bump, Mem.next_put] at n3
  have hold : ∀ y, y < m.next → M'.get y = m.get y := fun y hy => by
    rw [hA.old y (by omega) (fun e => by have := hL.new y e; omega), Mem.get_bump, Mem.get_put, if_neg (by omega), hL.nx.old y hy]
  refine hK v' M' ⟨hs, ⟨by omega, Fresh.of_low (by have := hm.n64; omega) fun y hy => hA.low y (by omega) (by rw [Mem.get_bump, Mem.get_put, if_neg (by omega)]; exact hL.nx.fresh.none y (by omega)), hold⟩, fun y hy => ?_⟩ n3 hold
  rcases hA.blk with ⟨h1, _⟩ | h1
  · exact hL.new y (h1 ▸ hy)
  · rw [h1] at hy; cases hy; omega
theorem list_r {k : Int} (h : RAt m b O c v I) (hm : Fresh m) (hO : ∀ y, O y → y < m.next) (hI : I.length < 1073741824) : ∃ u m', Con EE.P 27 [PT b, In k] m u m' ∧ NewL m m' u (lsI I k) := by
  refine Con.raw EE_ok fn27 (Nat.le_of_ble_eq_true rfl) _ ?_
  obtain ⟨cs, a1, a2, a3, a4⟩ := h.at_
  have hb := hm.lt a1
  have hl1 : ∀ M, lenA EE.P 46 v M = some (In I.length) := fun M => h.sl.lenA und_46
  simp only [f27, enumV, Nat.zero_add, w27, W_seq, w27_0, Nat.le_refl, X_assign, ev_const, Nat.reduceLT, T_set, X_nil, thenQ_normal, w27_1, Mem.next_bump, Nat.le_add_right, bump_bump, Nat.reduceAdd, w27_2, W_block, w27_10, true_and]
  refine WX.loop_of (fun y t M => ∃ (i : Nat) (u : Value), i ≤ I.length ∧ y = I.length - i ∧ t = T 38 [(6, In i), (5, u), (0, PT b), (1, In k)] ∧ NewL m M u (lsI (I.take i) k)) ?_ (k := I.length) (t1 := T 38 [(6, In (0 : Nat)), (5, .slice none 0 0), (0, PT b), (1, In k)]) (View.temps ⟨rfl, rfl, rfl, rfl, trivial⟩) ⟨0, _, by omega, rfl, rfl, SlV.nil, (Nx.refl hm).bump _, fun y hy => by cases hy⟩
  rintro y t M ⟨i, u, hi, rfl, rfl, hL⟩
  have hnx := hL.nx.next
  have r1 : M.get b = some (.cells cs true 0) := hL.nx.keep hm a1
  by_cases hi2 : i < I.length
  · have q1 : (i : Int) < (I.length : Int) := by omega
    have q2 : (0 : Int) ≤ i := by omega
    have hw : IntKind.i64.wrap ((i : Int) + 1) = ((i + 1 : Nat) : Int) := by rw [wrap_i64 (by omega) (by omega)]; omega
    obtain ⟨B, cc, cB, rfl, k1, k2, k3⟩ := h.cells (by omega)
    obtain ⟨g1, g2, _⟩ := k3 i hi2
    have r2 : M.get B = some (.cells cB true 2) := hL.nx.keep hm k1
    have hts := take_snoc hi2
    by_cases he : (I.getD i (0, 0)).2 = k
    · have d0 := decide_eq_true he
      have bs1 : bsV EE.P 30 1 [(0, In (I.getD i (0, 0)).1)] = some ([In (I.getD i (0, 0)).1], 1) := by kernel_rfl
      simp only [w27_9, W_seq, w27_3, hnx, X_move, Nat.reduceLT, ev_T, lk_cons, Nat.reduceEqDiff, if_false, if_true, T_set, Nat.one_ne_zero, X_nilCheck EE_sym, nilV_ptr, okI_some, X_fieldAddr EE_sym fo_48_1, offV_ptr, Nat.zero_add, X_load EE_sym, load1 lay_46, Mem.get_bump, r1, ld1_cells, a4, X_len EE_sym, len_slice und_46, X_bin EE_sym (op := .lss) rfl, bin_lss, q1, decide_true, X_nil, thenQ_normal, W_cond, CDi_t, W_skip, W_block, w27_7, w27_4, Mem.next_bump, Nat.le_add_right_of_le, bump_bump, Nat.reduceAdd, X_indexAddr EE_sym, q2, idxV_slice und_46 sz_72, Int.toNat_natCast, X_fieldAddr EE_sym fo_72_1, load1 lay_3, r2, g2, X_eql EE_sym, eq_int, d0, w27_6, w27_5, X_fieldAddr EE_sym fo_72_0, Nat.add_zero, g1, X_bs, List.map_cons, List.map_nil, bs1, Nat.add_assoc, put_bump, X_append, true_and]
      have hts2 : lsI (I.take (i + 1)) k = lsI (I.take i) k ++ [(I.getD i (0, 0)).1] := by rw [hts, lsI_snoc, if_pos he]
      have hlen := lsI_len (I := I.take i) (k := k)
      rw [List.length_take] at hlen
      refine NewL.app1 hm hL ⟨by omega, by omega⟩ ⟨by omega, by omega⟩ (by omega) fun v' M' hN hn' _ => ?_
      have n4 : m.next ≤ M'.next := by omega
      simp only [Nat.reduceLT, T_set, X_assign, ev_T, lk_cons, Nat.reduceEqDiff, if_false, if_true, X_nil, blockQ_normal, thenQ_normal, w27_8, n4, X_move, X_bin EE_sym (op := .add) rfl, ev_const, bin_add, hw, okI_some, roundQ_normal, true_and]
      refine ⟨I.length - (i + 1), _, _, by omega, View.temps (l' := [(6, In ((i + 1 : Nat) : Int)), (5, v'), (0, PT b), (1, In k)]) ⟨rfl, rfl, rfl, rfl, trivial⟩, i + 1, v', by omega, rfl, rfl, ?_⟩
      rw [hts2]
      exact hN.bump _
    · have d0 := decide_eq_false he
      simp only [w27_9, W_seq, w27_3, hnx, X_move, Nat.reduceLT, ev_T, lk_cons, Nat.reduceEqDiff, if_false, if_true, T_set, Nat.one_ne_zero, X_nilCheck EE_sym, nilV_ptr, okI_some, X_fieldAddr EE_sym fo_48_1, offV_ptr, Nat.zero_add, X_load EE_sym, load1 lay_46, Mem.get_bump, r1, ld1_cells, a4, X_len EE_sym, len_slice und_46, X_bin EE_sym (op := .lss) rfl, bin_lss, q1, decide_true, X_nil, thenQ_normal, W_cond, CDi_t, W_skip, W_block, w27_7, w27_4, Mem.next_bump, Nat.le_add_right_of_le, bump_bump, Nat.reduceAdd, X_indexAddr EE_sym, q2, idxV_slice und_46 sz_72, Int.toNat_natCast, X_fieldAddr EE_sym fo_72_1, load1 lay_3, r2, g2, X_eql EE_sym, eq_int, d0, CDi_f, blockQ_normal, w27_8, X_bin EE_sym (op := .add) rfl, ev_const, bin_add, hw, X_assign, roundQ_normal, true_and]
      refine ⟨I.length - (i + 1), _, _, by omega, View.temps (l' := [(6, In ((i + 1 : Nat) : Int)), (5, u), (0, PT b), (1, In k)]) ⟨rfl, rfl, rfl, rfl, trivial⟩, i + 1, u, by omega, rfl, rfl, ?_⟩
      rw [hts, lsI_snoc, if_neg he]
      exact hL.bump _
  · have q1 : ¬ (i : Int) < (I.length : Int) := by omega
    simp only [w27_9, W_seq, w27_3, hnx, X_move, Nat.reduceLT, ev_T, lk_cons, Nat.reduceEqDiff, if_false, if_true, T_set, Nat.one_ne_zero, X_nilCheck EE_sym, nilV_ptr, okI_some, X_fieldAddr EE_sym fo_48_1, offV_ptr, Nat.zero_add, X_load EE_sym, load1 lay_46, Mem.get_bump, r1, ld1_cells, a4, X_len EE_sym, hl1, X_bin EE_sym (op := .lss) rfl, bin_lss, q1, decide_false, X_nil, thenQ_normal, W_cond, CDi_f, W_exit, thenQ_exit, roundQ_exit, blockQ_exit, w27_11, Mem.next_bump, Nat.le_add_right_of_le, bump_bump, Nat.reduceAdd, X_assign, W_ret, FinX_ret, resA_tmp, T_get, resA_nil, Option.map_some, oneOr1, true_and]
    rw [List.take_of_length_le (by omega)] at hL
    exact (hL.bump _).nx.raw (hL.bump _)
end
end
end Go.Ab
/- Queue: the document's queues: in, fewest, May, Pick. -/
namespace Go.Ab
open Go.Proofs
noncomputable section
set_option maxHeartbeats 4000000
set_option maxRecDepth 10000
theorem mb_mod {a : BitVec 32} {k : Nat} : mb a k = decide (a.toNat / 2 ^ k % 2 = 1) := by
  unfold mb
  have : ((a >>> k) &&& 1#32).toNat = a.toNat / 2 ^ k % 2 := by
    rw [BitVec.toNat_and, BitVec.toNat_ushiftRight, Nat.shiftRight_eq_div_pow]
    exact Nat.and_one_is_mod _
  rw [this]
section
variable {P : Program} {ty : TypeId}
theorem bin_quo2 {x : Nat} (h : x < 4294967296) : binV P .quo ty (.int .u32 (x : Int)) (.int .u32 2) = some (.int .u32 ((x / 2 : Nat) : Int)) := by
  show runV P (Op.intDiv .quo .u32 (x : Int) 2) = _
  unfold Op.intDiv
  rw [if_neg (by decide)]
  have h1 : IntKind.u32.wrap ((x : Int).tdiv 2) = ((x / 2 : Nat) : Int) := by
    rw [wrap_u32, Int.tdiv_eq_ediv_of_nonneg (by omega)]; omega
  rw [← h1]; rfl
end
section
variable {m : Mem} {b c : Nat} {O : Nat → Prop} {v : Value} {I : Items} {a : BitVec 32} {k : Int}
theorem in_r (h : RAt m b O c v I) (hc : c ≤ 8) : Con EE.P 41 [PT b, In k, Um a] m (.bool (decide (0 ≤ k ∧ k < c) && mb a k.toNat)) m := by
  refine Con.of EE_ok fn41 (Nat.le_of_ble_eq_true rfl) Grow.rfl fun hm => ?_
  obtain ⟨cs, a1, a2, a3, a4⟩ := h.at_
  by_cases h0 : k < 0
  · have d0 := decide_eq_true h0
    have e : decide (0 ≤ k ∧ k < (c : Int)) = false := decide_eq_false (by omega)
    rw [e]
    simp only [f41, enumV, Nat.zero_add, Nat.reduceAdd, w41, W_seq, w41_0, Nat.le_refl, X_assign, ev_const, Nat.reduceLT, T_set, X_nil, Bool.false_and, thenQ_normal, w41_1, Mem.next_bump, Nat.le_add_right, bump_bump, X_move, ev_T, lk_cons, Nat.reduceEqDiff, if_false, if_true, X_bin EE_sym (op := .lss) rfl, bin_lss, d0, okI_some, X_guard EE_sym, T_get, GDi_tf, putT, X_pick EE_sym, pickV_bool, W_cond, CDi_t, w41_3, w41_2, W_ret, thenQ_ret, FinC_ret, resA_tmp, resA_nil, Option.map_some, oneOr1, true_and]
    exact TidyE.pure rfl fun _ _ => rfl
  have d0 := decide_eq_false h0
  by_cases h1 : k ≥ c
  · have d1 := decide_eq_true h1
    have e : decide (0 ≤ k ∧ k < (c : Int)) = false := decide_eq_false (by omega)
    rw [e]
    simp only [f41, enumV, Nat.zero_add, Nat.reduceAdd, w41, W_seq, w41_0, Nat.le_refl, X_assign, ev_const, Nat.reduceLT, T_set, X_nil, Bool.false_and, thenQ_normal, w41_1, Mem.next_bump, Nat.le_add_right, bump_bump, X_move, ev_T, lk_cons, Nat.reduceEqDiff, if_false, if_true, X_bin EE_sym (op := .lss) rfl, bin_lss, d0, okI_some, X_guard EE_sym, T_get, GDi_ff, Nat.one_ne_zero, X_nilCheck EE_sym, nilV_ptr, X_fieldAddr EE_sym fo_48_0, offV_ptr, Nat.add_zero, X_load EE_sym, load1 lay_3, Mem.get_bump, a1, ld1_cells, a3, X_bin EE_sym (op := .geq) rfl, bin_geq, d1, X_pick EE_sym, pickV_bool, Bool.false_eq_true, W_cond, CDi_t, w41_3, w41_2, W_ret, thenQ_ret, FinC_ret, resA_tmp, resA_nil, Option.map_some, oneOr1, true_and]
    exact TidyE.pure rfl fun _ _ => rfl
  have d1 := decide_eq_false h1
  obtain ⟨k, rfl⟩ : ∃ k' : Nat, k = k' := ⟨k.toNat, by omega⟩
  have e : decide (0 ≤ (k : Int) ∧ (k : Int) < (c : Int)) = true := decide_eq_true (by omega)
  rw [e, Int.toNat_natCast, Bool.true_and, mb_mod]
  simp only [f41, enumV, Nat.zero_add, Nat.reduceAdd, w41, W_seq, w41_0, Nat.le_refl, X_assign, ev_const, Nat.reduceLT, T_set, X_nil, thenQ_normal, w41_1, Mem.next_bump, Nat.le_add_right, bump_bump, X_move, ev_T, lk_cons, Nat.reduceEqDiff, if_false, if_true, X_bin EE_sym (op := .lss) rfl, bin_lss, d0, okI_some, X_guard EE_sym, T_get, GDi_ff, Nat.one_ne_zero, X_nilCheck EE_sym, nilV_ptr, X_fieldAddr EE_sym fo_48_0, offV_ptr, X_load EE_sym, load1 lay_3, Mem.get_bump, a1, ld1_cells, a3, X_bin EE_sym (op := .geq) rfl, bin_geq, d1, X_pick EE_sym, pickV_bool, Bool.false_eq_true, W_cond, CDi_f, W_skip, w41_4, W_block, w41_10, true_and]
  refine WX.loop_of (fun y t M => ∃ i j : Nat, i ≤ k ∧ y = k - i ∧ t = T 28 [(7, In i), (0, PT b), (1, In k), (2, .int .u32 ((a.toNat / 2 ^ i : Nat) : Int))] ∧ M = m.bump j) ?_ (k := k) (t1 := T 28 [(7, In (0 : Nat)), (0, PT b), (1, In k), (2, .int .u32 ((a.toNat / 2 ^ 0 : Nat) : Int))]) (View.temps ⟨rfl, rfl, rfl, by rw [Nat.pow_zero, Nat.div_one]; rfl, trivial⟩) ⟨0, _, by omega, rfl, rfl, rfl⟩
  rintro y t M ⟨i, j, hi, rfl, rfl, rfl⟩
  have hal : a.toNat / 2 ^ i < 4294967296 := Nat.lt_of_le_of_lt (Nat.div_le_self _ _) (by have := a.isLt; omega)
  by_cases hik : i < k
  · have q1 : (i : Int) < (k : Int) := by omega
    have hw : IntKind.i64.wrap ((i : Int) + 1) = ((i + 1 : Nat) : Int) := by rw [wrap_i64 (by omega) (by omega)]; omega
    have hq := bin_quo2 (P := EE.P) (ty := 29) hal
    rw [Nat.div_div_eq_div_mul, ← Nat.pow_succ] at hq
    simp only [w41_9, W_seq, w41_5, Mem.next_bump, Nat.le_add_right, bump_bump, X_move, Nat.reduceLT, ev_T, lk_cons, Nat.reduceEqDiff, if_false, if_true, T_set, X_bin EE_sym (op := .lss) rfl, bin_lss, q1, decide_true, okI_some, X_nil, thenQ_normal, W_cond, CDi_t, W_skip, W_block, w41_7, w41_6, Nat.add_assoc, Nat.reduceAdd, X_bin EE_sym (op := .quo) rfl, ev_const, hq, X_assign, blockQ_normal, w41_8, X_bin EE_sym (op := .add) rfl, bin_add, hw, roundQ_normal, true_and]
    exact ⟨k - (i + 1), _, _, by omega, View.temps (l' := [(7, In ((i + 1 : Nat) : Int)), (0, PT b), (1, In k), (2, .int .u32 ((a.toNat / 2 ^ (i + 1) : Nat) : Int))]) ⟨rfl, rfl, rfl, rfl, trivial⟩, i + 1, _, by omega, rfl, rfl, rfl⟩
  · obtain rfl : i = k := by omega
    have q1 : ¬ (i : Int) < (i : Int) := by omega
    have h2 : (2 : Int) ≠ 0 := by decide
    have ht : ((a.toNat / 2 ^ i : Nat) : Int).tmod 2 = ((a.toNat / 2 ^ i % 2 : Nat) : Int) := tmodn' (n := 2)
    have hd : decide (((a.toNat / 2 ^ i % 2 : Nat) : Int) = 1) = decide (a.toNat / 2 ^ i % 2 = 1) := by
      by_cases h : a.toNat / 2 ^ i % 2 = 1
      · rw [h]; rfl
      · rw [decide_eq_false h, decide_eq_false (by omega)]
    simp only [w41_9, W_seq, w41_5, Mem.next_bump, Nat.le_add_right, bump_bump, X_move, Nat.reduceLT, ev_T, lk_cons, Nat.reduceEqDiff, if_false, if_true, T_set, X_bin EE_sym (op := .lss) rfl, bin_lss, q1, decide_false, okI_some, X_nil, thenQ_normal, W_cond, CDi_f, W_exit, thenQ_exit, roundQ_exit, blockQ_exit, w41_11, Nat.add_assoc, Nat.reduceAdd, X_bin EE_sym (op := .rem) rfl, ev_const, bin_rem h2, ht, X_eql EE_sym, eq_int, hd, X_assign, W_ret, FinC_ret, resA_tmp, T_get, resA_nil, Option.map_some, oneOr1, true_and]
    exact TidyE.pure rfl fun _ _ => rfl
/-- The least of the shortest, of those from i on. -/
def Bst (l : Nat → List Int) (a : BitVec 32) (c i : Nat) (r : Int) : Prop := (r = -1 ∧ ∀ j, i ≤ j → j < c → mb a j = false) ∨ ∃ f : Nat, r = f ∧ i ≤ f ∧ f < c ∧ mb a f = true ∧ (∀ j, i ≤ j → j < c → mb a j = true → (l f).length ≤ (l j).length) ∧ ∀ j, i ≤ j → j < f → mb a j = true → (l f).length < (l j).length
theorem Bst.eq {l : Nat → List Int} {r r' : Int} {i : Nat} (h : Bst l a c i r) (h' : Bst l a c i r') : r = r' := by
  rcases h with ⟨rfl, h⟩ | ⟨f, rfl, f1, f2, f3, f4, f5⟩
  · rcases h' with ⟨rfl, _⟩ | ⟨g, rfl, g1, g2, g3, _⟩
    · rfl
    · rw [h g g1 g2] at g3; cases g3
  · rcases h' with ⟨rfl, h'⟩ | ⟨g, rfl, g1, g2, g3, g4, g5⟩
    · rw [h' f f1 f2] at f3; cases f3
    · have x1 := f4 g g1 g2 g3
      have x2 := g4 f f1 f2 f3
      by_cases e1 : f < g
      · have := g5 f f1 e1 f3; omega
      · by_cases e2 : g < f
        · have := f5 g g1 e2 g3; omega
        · omega
theorem few_bst {l : Nat → List Int} : ∀ {n : Nat}, Bst l a n 0 (fewTo l a n)
  | 0 => .inl ⟨rfl, fun _ _ h => absurd h (Nat.not_lt_zero _)⟩
  | n + 1 => by
    rw [fewTo_succ]
    unfold fewStep
    have ih := few_bst (l := l) (n := n)
    by_cases hb : mb a n = true
    · rw [if_pos hb]
      rcases ih with ⟨e, h⟩ | ⟨f, e, _, f2, f3, f4, f5⟩
      · rw [e, if_pos (.inl (by decide))]
        refine .inr ⟨n, rfl, by omega, by omega, hb, fun j _ hj hm => ?_, fun j _ hj hm => ?_⟩
        · by_cases ej : j = n
          · rw [ej]; exact Nat.le_refl _
          · rw [h j (by omega) (by omega)] at hm; cases hm
        · rw [h j (by omega) hj] at hm; cases hm
      · rw [e, Int.toNat_natCast]
        by_cases hlt : (l n).length < (l f).length
        · rw [if_pos (.inr hlt)]
          refine .inr ⟨n, rfl, by omega, by omega, hb, fun j _ hj hm => ?_, fun j _ hj hm => ?_⟩
          · by_cases ej : j = n
            · rw [ej]; exact Nat.le_refl _
            · have := f4 j (by omega) (by omega) hm; omega
          · have := f4 j (by omega) hj hm; omega
        · rw [if_neg (by omega)]
          refine .inr ⟨f, rfl, by omega, by omega, f3, fun j _ hj hm => ?_, fun j _ hj hm => f5 j (by omega) hj hm⟩
          by_cases ej : j = n
          · rw [ej]; omega
          · exact f4 j (by omega) (by omega) hm
    · rw [if_neg hb]
      have hb : mb a n = false := by simpa using hb
      rcases ih with ⟨e, h⟩ | ⟨f, e, _, f2, f3, f4, f5⟩
      · refine .inl ⟨e, fun j _ hj => ?_⟩
        by_cases ej : j = n
        · rw [ej]; exact hb
        · exact h j (by omega) (by omega)
      · refine .inr ⟨f, e, by omega, by omega, f3, fun j _ hj hm => ?_, fun j _ hj hm => f5 j (by omega) hj hm⟩
        by_cases ej : j = n
        · rw [ej, hb] at hm; cases hm
        · exact f4 j (by omega) (by omega) hm
abbrev lsN (I : Items) : Nat → List Int := fun k => lsI I (k : Int)
theorem fewest_r (h : RAt m b O c v I) (hm : Fresh m) (hO : ∀ y, O y → y < m.next) (hc : c ≤ 8) (hI : I.length < 1073741824) : ∃ u m', Con EE.P 40 [PT b, Um a] m u m' ∧ u = In (fewTo (lsN I) a c) ∧ Nx m m' := by
  refine Con.raw EE_ok fn40 (Nat.le_of_ble_eq_true rfl) _ ?_
  obtain ⟨cs, a1, a2, a3, a4⟩ := h.at_
  have hwc : IntKind.i64.wrap ((c : Int) - 1) = (c : Int) - 1 := wrap_i64 (by omega) (by omega)
  simp only [f40, enumV, Nat.zero_add, w40, W_seq, w40_0, Nat.le_refl, X_assign, ev_const, Nat.reduceLT, T_set, X_nil, thenQ_normal, w40_1, Mem.next_bump, Nat.le_add_right, bump_bump, Nat.reduceAdd, w40_2, X_move, ev_T, lk_cons, Nat.reduceEqDiff, Nat.one_ne_zero, if_false, if_true, X_nilCheck EE_sym, nilV_ptr, okI_some, X_fieldAddr EE_sym fo_48_0, offV_ptr, Nat.add_zero, X_load EE_sym, load1 lay_3, Mem.get_bump, a1, ld1_cells, a3, X_bin EE_sym (op := .sub) rfl, bin_sub, hwc, W_block, w40_11, true_and]
  refine WX.loop_of (fun y t M => ∃ (i : Nat) (r : Int), i ≤ c ∧ y = i ∧ t = T 39 [(6, In ((i : Int) - 1)), (5, In r), (0, PT b), (1, Um a)] ∧ Nx m M ∧ Bst (lsN I) a c i r) ?_ (k := c) (t1 := T 39 [(6, In ((c : Int) - 1)), (5, In (-1)), (0, PT b), (1, Um a)]) (View.temps ⟨rfl, rfl, rfl, rfl, trivial⟩) ⟨c, _, by omega, rfl, rfl, (Nx.refl hm).bump _, .inl ⟨rfl, fun j h1 h2 => by omega⟩⟩
  rintro y t M ⟨i, r, hi, hy, rfl, hn, hB⟩
  subst y
  have hnx := hn.next
  have r1 : M.get b = some (.cells cs true 0) := hn.keep hm a1
  have hR := h.nx hm hn
  by_cases hi0 : i = 0
  · subst hi0
    have q1 : ¬ ((0 : Int)) ≤ ((0 : Nat) : Int) - 1 := by omega
    have e := hB.eq few_bst
    subst e
    simp only [w40_10, W_seq, w40_3, hnx, X_move, Nat.reduceLT, ev_T, lk_cons, Nat.reduceEqDiff, if_false, if_true, T_set, X_bin EE_sym (op := .geq) rfl, ev_const, bin_geq, q1, decide_false, okI_some, X_nil, thenQ_normal, W_cond, CDi_f, W_exit, thenQ_exit, roundQ_exit, blockQ_exit, w40_12, Mem.next_bump, Nat.le_add_right_of_le, bump_bump, Nat.reduceAdd, X_assign, W_ret, FinX_ret, resA_tmp, T_get, resA_nil, Option.map_some, oneOr1, true_and]
    exact (hn.bump _).raw ⟨rfl, hn.bump _⟩
  obtain ⟨k, rfl⟩ : ∃ k, i = k + 1 := ⟨i - 1, by omega⟩
  have ek : ((k + 1 : Nat) : Int) - 1 = (k : Int) := by omega
  rw [ek]
  have q1 : (0 : Int) ≤ (k : Int) := by omega
  have hw : IntKind.i64.wrap ((k : Int) - 1) = (k : Int) - 1 := wrap_i64 (by omega) (by omega)
  simp only [w40_10, W_seq, w40_3, hnx, X_move, Nat.reduceLT, ev_T, lk_cons, Nat.reduceEqDiff, if_false, if_true, T_set, X_bin EE_sym (op := .geq) rfl, ev_const, bin_geq, q1, decide_true, okI_some, X_nil, thenQ_normal, W_cond, CDi_t, W_skip, W_block, w40_8, w40_4, Mem.next_bump, Nat.le_add_right_of_le, bump_bump, Nat.reduceAdd, Nat.one_ne_zero, X_call ca_41, List.map_cons, List.map_nil, true_and]
  refine CallI.con0 (in_r (k := (k : Int)) (a := a) (hR.bump _) hc) ?_
  have e1 : decide (0 ≤ (k : Int) ∧ (k : Int) < (c : Int)) = true := decide_eq_true (by omega)
  rw [e1, Int.toNat_natCast, Bool.true_and]
  cases hb : mb a k with
  | false =>
    simp only [putT, Nat.reduceLT, T_set, X_assign, ev_T, lk_cons, Nat.reduceEqDiff, if_false, if_true, X_nil, thenQ_normal, W_seq, w40_5, Mem.next_bump, hnx, Nat.le_add_right_of_le, bump_bump, Nat.reduceAdd, X_move, X_guard EE_sym, T_get, GDi_ft, GDi_u, X_pick EE_sym, ev_const, pickV_bool, Bool.false_eq_true, okI_some, W_cond, CDi_f, W_skip, blockQ_normal, w40_9, X_bin EE_sym (op := .sub) rfl, bin_sub, hw, roundQ_normal, true_and]
    refine ⟨k, _, _, by omega, View.temps (l' := [(6, In ((k : Int) - 1)), (5, In r), (0, PT b), (1, Um a)]) ⟨rfl, rfl, rfl, rfl, trivial⟩, k, r, by omega, rfl, rfl, hn.bump _, ?_⟩
    rcases hB with ⟨e, hB⟩ | ⟨f, e, f1, f2, f3, f4, f5⟩
    · exact .inl ⟨e, fun j h1 h2 => by
        by_cases ej : j = k
        · rw [ej]; exact hb
        · exact hB j (by omega) h2⟩
    · refine .inr ⟨f, e, by omega, f2, f3, fun j h1 h2 h3 => ?_, fun j h1 h2 h3 => ?_⟩
      · by_cases ej : j = k
        · rw [ej, hb] at h3; cases h3
        · exact f4 j (by omega) h2 h3
      · by_cases ej : j = k
        · rw [ej, hb] at h3; cases h3
        · exact f5 j (by omega) h2 h3
  | true =>
    rcases hB with ⟨e, hB⟩ | ⟨f, e, f1, f2, f3, f4, f5⟩
    · subst e
      have d1 : ((-1 : Int)) < 0 := by decide
      simp only [putT, Nat.reduceLT, T_set, X_assign, ev_T, lk_cons, Nat.reduceEqDiff, if_false, if_true, X_nil, thenQ_normal, W_seq, w40_5, Mem.next_bump, hnx, Nat.le_add_right_of_le, bump_bump, Nat.reduceAdd, X_move, X_guard EE_sym, T_get, GDi_tt, X_bin EE_sym (op := .lss) rfl, ev_const, bin_lss, d1, decide_true, okI_some, GDi_tf, X_pick EE_sym, pickV_bool, W_cond, CDi_t, w40_7, w40_6, blockQ_normal, w40_9, X_bin EE_sym (op := .sub) rfl, bin_sub, hw, roundQ_normal, true_and]
      refine ⟨k, _, _, by omega, View.temps (l' := [(6, In ((k : Int) - 1)), (5, In k), (0, PT b), (1, Um a)]) ⟨rfl, rfl, rfl, rfl, trivial⟩, k, k, by omega, rfl, rfl, hn.bump _, .inr ⟨k, rfl, by omega, by omega, hb, fun j h1 h2 h3 => ?_, fun j h1 h2 => by omega⟩⟩
      by_cases ej : j = k
      · rw [ej]; exact Nat.le_refl _
      · rw [hB j (by omega) h2] at h3; cases h3
    · subst e
      have d1 : ¬ ((f : Int)) < 0 := by omega
      have d1' := decide_eq_false d1
      simp only [putT, Nat.reduceLT, T_set, X_assign, ev_T, lk_cons, Nat.reduceEqDiff, if_false, if_true, X_nil, thenQ_normal, W_seq, w40_5, Mem.next_bump, hnx, Nat.le_add_right_of_le, bump_bump, Nat.reduceAdd, X_move, X_guard EE_sym, T_get, GDi_tt, X_bin EE_sym (op := .lss) rfl, ev_const, bin_lss, d1', okI_some, GDi_ff, Nat.one_ne_zero, X_call ca_27, List.map_cons, List.map_nil, true_and]
      have hO1 : ∀ j y, O y → y < (M.bump j).next := fun j y hy => by rw [Mem.next_bump]; have := hO y hy; omega
      refine CallI.ex2 (list_r (k := (k : Int)) (hR.bump _) hn.fresh.bump (hO1 _) hI) fun u1 M1 hL1 => ?_
      have hn1 := hn.trans hL1.nx.of_bump
      have n1 := hn1.next
      have hR1 := h.nx hm hn1
      have hl1 : ∀ M, lenA EE.P 30 u1 M = some (In (lsN I k).length) := fun M => hL1.sl.lenA und_30
      simp only [putT, Nat.reduceLT, T_set, X_guard EE_sym, T_get, lk_cons, Nat.reduceEqDiff, if_false, if_true, GDi_ff, X_len EE_sym, ev_T, hl1, okI_some, X_move, Nat.one_ne_zero, X_call ca_27, List.map_cons, List.map_nil]
      refine CallI.ex2L (list_r (k := (f : Int)) hR1 hn1.fresh (fun y hy => by have := hO y hy; omega) hI) (by simp; omega) fun u2 M2 hL2 => ?_
      have hn2 := hn1.trans hL2.nx
      have n2 := hn2.next
      have hl2 : ∀ M, lenA EE.P 30 u2 M = some (In (lsN I f).length) := fun M => hL2.sl.lenA und_30
      by_cases hlt : (lsN I k).length ≤ (lsN I f).length
      · have g1 : (((lsN I k).length : Nat) : Int) ≤ ((lsN I f).length : Int) := by omega
        simp only [putT, Nat.reduceLT, T_set, X_guard EE_sym, T_get, lk_cons, Nat.reduceEqDiff, if_false, if_true, GDi_ff, X_len EE_sym, ev_T, hl2, okI_some, X_bin EE_sym (op := .leq) rfl, bin_leq, g1, decide_true, GDi_tt, X_pick EE_sym, ev_const, pickV_bool, Bool.false_eq_true, X_nil, thenQ_normal, W_cond, CDi_t, w40_7, w40_6, n2, X_move, X_assign, blockQ_normal, w40_9, Mem.next_bump, Nat.le_add_right_of_le, bump_bump, Nat.reduceAdd, X_bin EE_sym (op := .sub) rfl, bin_sub, hw, roundQ_normal, true_and]
        refine ⟨k, _, _, by omega, View.temps (l' := [(6, In ((k : Int) - 1)), (5, In k), (0, PT b), (1, Um a)]) ⟨rfl, rfl, rfl, rfl, trivial⟩, k, k, by omega, rfl, rfl, hn2.bump _, .inr ⟨k, rfl, by omega, by omega, hb, fun j h1 h2 h3 => ?_, fun j h1 h2 => by omega⟩⟩
        by_cases ej : j = k
        · rw [ej]; exact Nat.le_refl _
        · have := f4 j (by omega) h2 h3; omega
      · have g1 : ¬ (((lsN I k).length : Nat) : Int) ≤ ((lsN I f).length : Int) := by omega
        simp only [putT, Nat.reduceLT, T_set, X_guard EE_sym, T_get, lk_cons, Nat.reduceEqDiff, if_false, if_true, GDi_ff, X_len EE_sym, ev_T, hl2, okI_some, X_bin EE_sym (op := .leq) rfl, bin_leq, g1, decide_false, GDi_tt, X_pick EE_sym, ev_const, pickV_bool, Bool.false_eq_true, X_nil, thenQ_normal, W_cond, CDi_f, W_skip, blockQ_normal, w40_9, n2, X_move, X_bin EE_sym (op := .sub) rfl, bin_sub, hw, X_assign, roundQ_normal, true_and]
        refine ⟨k, _, _, by omega, View.temps (l' := [(6, In ((k : Int) - 1)), (5, In f), (0, PT b), (1, Um a)]) ⟨rfl, rfl, rfl, rfl, trivial⟩, k, f, by omega, rfl, rfl, hn2.bump _, .inr ⟨f, rfl, by omega, by omega, f3, fun j h1 h2 h3 => ?_, fun j h1 h2 h3 => ?_⟩⟩
        · by_cases ej : j = k
          · rw [ej]; omega
          · exact f4 j (by omega) h2 h3
        · by_cases ej : j = k
          · rw [ej]; omega
          · exact f5 j (by omega) h2 h3
theorem may_r (h : RAt m b O c v I) (hm : Fresh m) (hO : ∀ y, O y → y < m.next) (hc : c ≤ 8) (hI : I.length < 1073741824) : ∃ u m', Con EE.P 25 [PT b, Um a] m u m' ∧ u = .bool (decide (0 ≤ fewTo (lsN I) a c)) ∧ Nx m m' := by
  refine Con.raw EE_ok fn25 (Nat.le_of_ble_eq_true rfl) _ ?_
  simp only [f25, enumV, Nat.zero_add, w25, W_seq, w25_0, Nat.le_refl, X_assign, ev_const, Nat.reduceLT, T_set, X_nil, thenQ_normal, w25_1, Mem.next_bump, Nat.le_add_right, bump_bump, Nat.reduceAdd, X_move, ev_T, lk_cons, Nat.reduceEqDiff, Nat.one_ne_zero, if_false, if_true, X_call ca_40, List.map_cons, List.map_nil, true_and]
  refine CallI.ex2 (fewest_r (a := a) (h.bump _) hm.bump (fun y hy => by rw [Mem.next_bump]; have := hO y hy; omega) hc hI) fun u M hv => ?_
  obtain ⟨rfl, hn⟩ := hv
  have hn := hn.of_bump
  have n1 := hn.next
  simp only [putT, Nat.reduceLT, T_set, X_bin EE_sym (op := .geq) rfl, ev_T, lk_cons, Nat.reduceEqDiff, if_false, if_true, ev_const, bin_geq, okI_some, X_assign, X_nil, thenQ_normal, W_ret, FinX_ret, resA_tmp, T_get, resA_nil, Option.map_some, oneOr1]
  exact hn.raw ⟨rfl, hn⟩
theorem pick_r (h : RAt m b O c v I) (hm : Fresh m) (hO : ∀ y, O y → y < m.next) (hI : I.length < 1073741824) : ∃ u m', Con EE.P 28 [PT b, In k, Um a] m u m' ∧ u = In (if lsI I k = [] then 0 else (lsI I k).getD (a.toNat % (lsI I k).length) 0) ∧ Nx m m' := by
  refine Con.raw EE_ok fn28 (Nat.le_of_ble_eq_true rfl) _ ?_
  simp only [f28, enumV, Nat.zero_add, Nat.reduceAdd, w28, W_seq, w28_0, Nat.le_refl, X_assign, ev_const, Nat.reduceLT, T_set, X_nil, thenQ_normal, w28_1, Mem.next_bump, Nat.le_add_right, bump_bump, X_move, ev_T, lk_cons, Nat.reduceEqDiff, Nat.one_ne_zero, if_false, if_true, X_call ca_27, List.map_cons, List.map_nil, true_and]
  refine CallI.ex2 (list_r (k := k) (h.bump _) hm.bump (fun y hy => by rw [Mem.next_bump]; have := hO y hy; omega) hI) fun u M hL => ?_
  have hn := hL.nx.of_bump
  have n1 := hn.next
  have hl1 : ∀ M, lenA EE.P 30 u M = some (In (lsI I k).length) := fun M => hL.sl.lenA und_30
  by_cases h0 : lsI I k = []
  · have d0 : decide (((lsI I k).length : Int) = 0) = true := decide_eq_true (by rw [h0]; rfl)
    rw [if_pos h0]
    simp only [putT, Nat.reduceLT, T_set, X_assign, ev_T, lk_cons, Nat.reduceEqDiff, if_false, if_true, X_nil, thenQ_normal, W_seq, w28_2, n1, X_move, X_len EE_sym, hl1, okI_some, X_eql EE_sym, ev_const, eq_int, d0, W_cond, CDi_t, w28_4, w28_3, Mem.next_bump, Nat.le_add_right_of_le, bump_bump, Nat.reduceAdd, W_ret, thenQ_ret, FinX_ret, resA_tmp, T_get, resA_nil, Option.map_some, oneOr1, true_and]
    exact (hn.bump _).raw ⟨rfl, hn.bump _⟩
  rw [if_neg h0]
  have hpos : (lsI I k).length ≠ 0 := fun e => h0 (List.length_eq_zero_iff.1 e)
  have hne : ¬ ((lsI I k).length : Int) = 0 := by omega
  have d0 := decide_eq_false hne
  obtain ⟨B, cc, cB, e, k1, k2, k3, k4⟩ := hL.sl.cons hpos
  have hlt : a.toNat % (lsI I k).length < (lsI I k).length := Nat.mod_lt _ (by omega)
  have htm := tmodn' (b := a.toNat) (n := (lsI I k).length)
  obtain ⟨i, hi⟩ : ∃ i, i = a.toNat % (lsI I k).length := ⟨_, rfl⟩
  rw [← hi] at hlt htm ⊢
  have g1 : (0 : Int) ≤ i := by omega
  have g2 : (i : Int) < ((lsI I k).length : Int) := by omega
  have q4 : cB.nth i = some (In ((lsI I k).getD i 0)) := by rw [nth_lt (by omega), k4 i (by simpa using hlt), il_getD hlt]
  subst e
  simp only [putT, Nat.reduceLT, T_set, X_assign, ev_T, lk_cons, Nat.reduceEqDiff, if_false, if_true, X_nil, thenQ_normal, W_seq, w28_2, n1, X_move, X_len EE_sym, len_slice und_30, okI_some, X_eql EE_sym, ev_const, eq_int, d0, W_cond, CDi_f, W_skip, w28_5, Mem.next_bump, Nat.le_add_right_of_le, bump_bump, Nat.reduceAdd, X_convert EE_sym, conv_int und_3 und_29, wrapU, X_bin EE_sym (op := .rem) rfl, bin_rem hne, htm, X_indexAddr EE_sym, g1, g2, idxV_slice und_30 sz_3, Int.toNat_natCast, Nat.mul_one, Nat.zero_add, X_load EE_sym, load1 lay_3, Mem.get_bump, k1, ld1_cells, q4, W_ret, FinX_ret, resA_tmp, T_get, resA_nil, Option.map_some, oneOr1, true_and]
  exact (hn.bump _).raw ⟨rfl, hn.bump _⟩
end
end
end Go.Ab
/- Queue: the document's queues: calls that turn them. -/
namespace Go.Ab
open Go.Proofs
noncomputable section
set_option maxHeartbeats 4000000
set_option maxRecDepth 10000
theorem eo46 : ElemOk EE.P 46 72 2 16 := ElemOk.of (z := [.int .i64 0, .int .i64 0]) und_46 (by kernel_rfl) (by kernel_rfl) rfl (by decide)
theorem itl_snoc {I : Items} {x y : Int} : itl (I ++ [(x, y)]) = itl I ++ [In x, In y] := by
  unfold itl
  rw [List.flatMap_append]; rfl
/-- Behind a call that turns the document's queues. -/
structure RN (m : Mem) (b : Nat) (O : Nat → Prop) (c : Nat) (I' : Items) (m' : Mem) : Prop where
  next : m.next ≤ m'.next
  fresh : Fresh m'
  at_ : ∃ v, RAt m' b (Ox O m m') c v I'
  old : ∀ y, y < m.next → ¬ O y → m'.get y = m.get y
  low : ∀ y, y < m.next → m.get y = none → m'.get y = none
section
variable {m m' : Mem} {b c : Nat} {O : Nat → Prop} {v : Value} {I I' : Items}
theorem RAt.mono {O' : Nat → Prop} (h : RAt m b O c v I) (hO : ∀ y, O y → O' y) : RAt m b O' c v I := ⟨h.at_, h.sl, hO _ h.ob, fun y hy => hO y (h.own y hy), h.ne⟩
theorem RN.raw {u : Value} {R : Value → Mem → Prop} (h : RN m b O c I' m') (hR : R u m') : RawE m m' u R := ⟨⟨h.next, h.low⟩, hR⟩
theorem RN.bump (h : RN m b O c I' m') (j : Nat) : RN m b O c I' (m'.bump j) := by
  obtain ⟨v, hq⟩ := h.at_
  exact ⟨by rw [Mem.next_bump]; exact Nat.le_add_right_of_le h.next, h.fresh.bump, ⟨v, (hq.bump j).mono fun y hy => hy.imp id fun e => ⟨e.1, by rw [Mem.next_bump]; omega⟩⟩, h.old, h.low⟩
theorem RN.of_bump {j : Nat} (h : RN (m.bump j) b O c I' m') : RN m b O c I' m' := by
  obtain ⟨v, hq⟩ := h.at_
  have hn := h.next
  rw [Mem.next_bump] at hn
  exact ⟨by omega, h.fresh, ⟨v, hq.mono fun y hy => hy.imp id fun e => ⟨by have := e.1; rw [Mem.next_bump] at this; omega, e.2⟩⟩, fun y hy hO => h.old y (by rw [Mem.next_bump]; omega) hO, fun y hy e => h.low y (by rw [Mem.next_bump]; omega) e⟩
theorem RN.pre {M : Mem} (hm : Fresh m) (hn : Nx m M) (h : RN M b O c I' m') : RN m b O c I' m' := by
  obtain ⟨v, hq⟩ := h.at_
  have n1 := hn.next
  have n2 := h.next
  exact ⟨by omega, h.fresh, ⟨v, hq.mono fun y hy => hy.imp id fun e => ⟨by omega, e.2⟩⟩, fun y hy hO => by rw [h.old y (by omega) hO, hn.old y hy], fun y hy e => h.low y (by omega) (by rw [hn.old y hy, e])⟩
theorem RN.trans {m1 m2 : Mem} {I1 I2 : Items} (h : RN m b O c I1 m1) (h2 : RN m1 b (Ox O m m1) c I2 m2) : RN m b O c I2 m2 := by
  obtain ⟨v, hq⟩ := h2.at_
  have n1 := h.next
  have n2 := h2.next
  refine ⟨by omega, h2.fresh, ⟨v, hq.mono fun y hy => ?_⟩, fun y hy hyO => ?_, fun y hy e => h2.low y (by omega) (h.low y hy e)⟩
  · rcases hy with (hy | hy) | hy
    · exact .inl hy
    · exact .inr ⟨hy.1, by omega⟩
    · exact .inr ⟨by omega, hy.2⟩
  · rw [h2.old y (by omega) fun e => e.elim hyO fun e => by omega, h.old y hy hyO]
/-- The items' slice is put into its field. -/
theorem RN.store {M : Mem} {cs : Cells} {v' : Value} {j : Nat} (hm : Fresh m) (hb : O b) (hbl : b < m.next) (hM : M.get b = some (.cells cs true 0)) (h0 : cs.n = 2) (h1 : cs.nth 0 = some (In c)) (hs : SlV M 2 v' I'.length (itl I')) (hne : slB v' ≠ some b)
    (hblk : ∀ y, slB v' = some y → O y ∨ m.next ≤ y ∧ y < M.next) (hn : m.next ≤ M.next) (hfr : ∀ y, M.next ≤ y → M.get y = none) (hold : ∀ y, y < m.next → ¬ O y → M.get y = m.get y) (hlow : ∀ y, y < m.next → m.get y = none → M.get y = none) : RN m b O c I' ((M.put b (.cells (cs.write 1 [v']) true 0)).bump j) := by
  refine ⟨by simp only [Mem.next_bump, Mem.next_put]; omega, Fresh.of_low (by have := hm.n64; simp only [Mem.next_bump, Mem.next_put]; omega) (Low.bump (Low.put (fun y hy => by simp only [Mem.next_bump, Mem.next_put] at hy; exact hfr y (by omega)) (by simp only [Mem.next_bump, Mem.next_put]; omega))), ⟨v', ⟨_, by rw [Mem.get_bump, Mem.get_put, if_pos rfl], by rw [write_n, h0], by rw [nth_write, if_neg (by simp), h1], by rw [nth_write, if_pos ⟨Nat.le_refl _, by simp, by omega⟩]; rfl⟩, hs.keep fun y o hy ho => by rw [Mem.get_bump, Mem.get_put, if_neg (fun e => hne (by rw [← e]; exact hy)), ho], .inl hb, fun y hy => (hblk y hy).imp id fun e => ⟨e.1, by simp only [Mem.next_bump, Mem.next_put]; have := e.2; omega⟩, hne⟩, fun y hy hyO => ?_, fun y hy e => ?_⟩
  · rw [Mem.get_bump, Mem.get_put, if_neg (show ¬ y = b from fun e => hyO (e ▸ hb)), hold y hy hyO]
  · by_cases e2 : y = b
    · subst e2; rw [hlow y hy e] at hM; cases hM
    · rw [Mem.get_bump, Mem.get_put, if_neg e2, hlow y hy e]
end
/-- New items. -/
structure NewP (m m' : Mem) (u : Value) (J : Items) : Prop where
  sl : SlV m' 2 u J.length (itl J)
  nx : Nx m m'
  new : ∀ y, slB u = some y → m.next ≤ y
theorem one2 {x y : Int} : [In x, In y].all oneCell = true := rfl
section
variable {m : Mem} {b c : Nat} {O : Nat → Prop} {v : Value} {I : Items} {a : BitVec 32} {k x : Int}
theorem NewP.app1 {M : Mem} {u : Value} {J : Items} {x y : Int} {j b1 id : Nat} (hm : Fresh m) (hL : NewP m M u J) (hb : M.next ≤ b1 ∧ b1 < M.next + j) (hid : M.next ≤ id ∧ id < M.next + j) (hl : J.length < 1073741824) {K : Value × Mem → Prop}
    (hK : ∀ v' M', NewP m M' v' (J ++ [(x, y)]) → M'.next = M.next + j → K (v', M')) :
    okI (appendA EE.P id #[46, 46] u (.slice (some ⟨b1, 0, none⟩) 1 1) ((M.put b1 (.cells (Cells.ofList [In x, In y]) true 2)).bump j)) (k := ⟨K⟩) := by
  have hnx := hL.nx.next
  have hsv : SlV ((M.put b1 (.cells (Cells.ofList [In x, In y]) true 2)).bump j) 2 u J.length (itl J) := hL.sl.keep fun y o hy ho => by
    have := hL.sl.lt hL.nx.fresh hy
    rw [Mem.get_bump, Mem.get_put, if_neg (by omega), ho]
  have hsrc : srcA 2 (.slice (some ⟨b1, 0, none⟩) 1 1) ((M.put b1 (.cells (Cells.ofList [In x, In y]) true 2)).bump j) = some ([In x, In y], 1) := by
    rw [src_at, Mem.get_bump, Mem.get_put, if_pos rfl, srcC_cells, sub_ofList (by simp)]; rfl
  refine okI_app eo46 (k := 1) (new := [In x, In y]) hsv hsrc (by decide) rfl one2 (.inl rfl) ⟨by omega, by omega⟩ fun v' M' hA => ?_
  have hs : SlV M' 2 v' (J ++ [(x, y)]).length (itl (J ++ [(x, y)])) := by
    rw [itl_snoc, List.length_append, List.length_singleton]; exact hA.sl
  have n3 := hA.next
  rw [Mem.next_bump, Mem.next_put] at n3
  have hold : ∀ y, y < m.next → M'.get y = m.get y := fun y hy => by
    rw [hA.old y (by omega) (fun e => by have := hL.new y e; omega), Mem.get_bump, Mem.get_put, if_neg (by omega), hL.nx.old y hy]
  refine hK v' M' ⟨hs, ⟨by omega, Fresh.of_low (by have := hm.n64; omega) fun y hy => hA.low y (by omega) (by rw [Mem.get_bump, Mem.get_put, if_neg (by omega)]; exact hL.nx.fresh.none y (by omega)), hold⟩, fun y hy => ?_⟩ n3
  rcases hA.blk with ⟨h1, _⟩ | h1
  · exact hL.new y (h1 ▸ hy)
  · rw [h1] at hy; cases hy; omega
theorem SlV.is {M : Mem} {sz n : Nat} {u : Value} {fl : List Value} (h : SlV M sz u n fl) : ∃ a c, u = .slice a n c := by
  rcases h.at_ with ⟨rfl, rfl⟩ | ⟨b, c, cs, rfl, _⟩
  · exact ⟨_, _, rfl⟩
  · exact ⟨_, _, rfl⟩
def cutI (I : Items) (x : Int) : Items := I.filter fun p => p.1 ≠ x
theorem cutI_snoc {p : Int × Int} : cutI (I ++ [p]) x = if p.1 = x then cutI I x else cutI I x ++ [p] := by
  unfold cutI
  rw [List.filter_append]
  by_cases h : p.1 = x
  · rw [if_pos h, List.filter_cons, if_neg (by simpa using h)]; simp
  · rw [if_neg h, List.filter_cons, if_pos (by simpa using h)]; rfl
theorem cutI_len : (cutI I x).length ≤ I.length := List.length_filter_le _ _
theorem cut_r (h : RAt m b O c v I) (hm : Fresh m) (hO : ∀ y, O y → y < m.next) (hI : I.length < 1073741824) : ∃ u m', Con EE.P 21 [PT b, In x] m u m' ∧ u = .bool (decide (((cutI I x).length : Int) < (I.length : Int))) ∧ RN m b O c (cutI I x) m' := by
  refine Con.raw EE_ok fn21 (Nat.le_of_ble_eq_true rfl) _ ?_
  obtain ⟨cs, a1, a2, a3, a4⟩ := h.at_
  have hb := hm.lt a1
  have hl1 : ∀ M, lenA EE.P 46 v M = some (In I.length) := fun M => h.sl.lenA und_46
  simp only [f21, enumV, Nat.zero_add, w21, W_seq, w21_0, Nat.le_refl, X_assign, ev_const, Nat.reduceLT, T_set, X_nil, thenQ_normal, w21_1, Mem.next_bump, Nat.le_add_right, bump_bump, Nat.reduceAdd, w21_2, W_block, w21_10, true_and]
  refine WX.loop_of (fun y t M => ∃ (i : Nat) (u : Value), i ≤ I.length ∧ y = I.length - i ∧ t = T 50 [(6, In i), (5, u), (0, PT b), (1, In x)] ∧ NewP m M u (cutI (I.take i) x)) ?_ (k := I.length) (t1 := T 50 [(6, In (0 : Nat)), (5, .slice none 0 0), (0, PT b), (1, In x)]) (View.temps ⟨rfl, rfl, rfl, rfl, trivial⟩) ⟨0, _, by omega, rfl, rfl, SlV.nil, (Nx.refl hm).bump _, fun y hy => by cases hy⟩
  rintro y t M ⟨i, u, hi, rfl, rfl, hL⟩
  have hnx := hL.nx.next
  have r1 : M.get b = some (.cells cs true 0) := hL.nx.keep hm a1
  by_cases hi2 : i < I.length
  · have q1 : (i : Int) < (I.length : Int) := by omega
    have q2 : (0 : Int) ≤ i := by omega
    have hw : IntKind.i64.wrap ((i : Int) + 1) = ((i + 1 : Nat) : Int) := by rw [wrap_i64 (by omega) (by omega)]; omega
    obtain ⟨B, cc, cB, rfl, k1, k2, k3⟩ := h.cells (by omega)
    obtain ⟨g1, g2, g3⟩ := k3 i hi2
    have r2 : M.get B = some (.cells cB true 2) := hL.nx.keep hm k1
    have hts := take_snoc hi2
    by_cases he : (I.getD i (0, 0)).1 = x
    · have d0 := decide_eq_true he
      simp only [w21_9, W_seq, w21_3, hnx, X_move, Nat.reduceLT, ev_T, lk_cons, Nat.reduceEqDiff, if_false, if_true, T_set, Nat.one_ne_zero, X_nilCheck EE_sym, nilV_ptr, okI_some, X_fieldAddr EE_sym fo_48_1, offV_ptr, Nat.zero_add, X_load EE_sym, load1 lay_46, Mem.get_bump, r1, ld1_cells, a4, X_len EE_sym, len_slice und_46, X_bin EE_sym (op := .lss) rfl, bin_lss, q1, decide_true, X_nil, thenQ_normal, W_cond, CDi_t, W_skip, W_block, w21_7, w21_4, Mem.next_bump, Nat.le_add_right_of_le, bump_bump, Nat.reduceAdd, X_indexAddr EE_sym, q2, idxV_slice und_46 sz_72, Int.toNat_natCast, X_fieldAddr EE_sym fo_72_0, Nat.add_zero, load1 lay_3, r2, g1, X_neq EE_sym, neq_int, d0, Bool.not_true, CDi_f, blockQ_normal, w21_8, X_bin EE_sym (op := .add) rfl, ev_const, bin_add, hw, X_assign, roundQ_normal, true_and]
      refine ⟨I.length - (i + 1), _, _, by omega, View.temps (l' := [(6, In ((i + 1 : Nat) : Int)), (5, u), (0, PT b), (1, In x)]) ⟨rfl, rfl, rfl, rfl, trivial⟩, i + 1, u, by omega, rfl, rfl, ?_⟩
      rw [hts, cutI_snoc, if_pos he]
      exact ⟨hL.sl.bump _, hL.nx.bump _, hL.new⟩
    · have d0 := decide_eq_false he
      have bs1 : bsV EE.P 46 1 [(0, .agg #[In (I.getD i (0, 0)).1, In (I.getD i (0, 0)).2])] = some ([In (I.getD i (0, 0)).1, In (I.getD i (0, 0)).2], 2) := by kernel_rfl
      simp only [w21_9, W_seq, w21_3, hnx, X_move, Nat.reduceLT, ev_T, lk_cons, Nat.reduceEqDiff, if_false, if_true, T_set, Nat.one_ne_zero, X_nilCheck EE_sym, nilV_ptr, okI_some, X_fieldAddr EE_sym fo_48_1, offV_ptr, Nat.zero_add, X_load EE_sym, load1 lay_46, Mem.get_bump, r1, ld1_cells, a4, X_len EE_sym, len_slice und_46, X_bin EE_sym (op := .lss) rfl, bin_lss, q1, decide_true, X_nil, thenQ_normal, W_cond, CDi_t, W_skip, W_block, w21_7, w21_4, Mem.next_bump, Nat.le_add_right_of_le, bump_bump, Nat.reduceAdd, X_indexAddr EE_sym, q2, idxV_slice und_46 sz_72, Int.toNat_natCast, X_fieldAddr EE_sym fo_72_0, Nat.add_zero, load1 lay_3, r2, g1, X_neq EE_sym, neq_int, d0, Bool.not_false, w21_6, w21_5, loadN lay_72, ldN_cells, g3, Option.map_some, X_bs, List.map_cons, List.map_nil, bs1, Nat.add_assoc, put_bump, X_append, true_and]
      have hts2 : cutI (I.take (i + 1)) x = cutI (I.take i) x ++ [((I.getD i (0, 0)).1, (I.getD i (0, 0)).2)] := by rw [hts, cutI_snoc, if_neg he]
      have hlen := cutI_len (I := I.take i) (x := x)
      rw [List.length_take] at hlen
      refine NewP.app1 hm hL ⟨by omega, by omega⟩ ⟨by omega, by omega⟩ (by omega) fun v' M' hN hn' => ?_
      have n4 : m.next ≤ M'.next := by omega
      simp only [Nat.reduceLT, T_set, X_assign, ev_T, lk_cons, Nat.reduceEqDiff, if_false, if_true, X_nil, blockQ_normal, thenQ_normal, w21_8, n4, X_move, X_bin EE_sym (op := .add) rfl, ev_const, bin_add, hw, okI_some, roundQ_normal, true_and]
      refine ⟨I.length - (i + 1), _, _, by omega, View.temps (l' := [(6, In ((i + 1 : Nat) : Int)), (5, v'), (0, PT b), (1, In x)]) ⟨rfl, rfl, rfl, rfl, trivial⟩, i + 1, v', by omega, rfl, rfl, ?_⟩
      rw [hts2]
      exact ⟨hN.sl.bump _, hN.nx.bump _, hN.new⟩
  · have q1 : ¬ (i : Int) < (I.length : Int) := by omega
    rw [List.take_of_length_le (by omega)] at hL
    have hl2 : ∀ M, lenA EE.P 46 u M = some (In (cutI I x).length) := fun M => hL.sl.lenA und_46
    obtain ⟨ua, uc, rfl⟩ := hL.sl.is
    have h2 : 1 + 1 ≤ 2 := by decide
    simp only [w21_9, W_seq, w21_3, hnx, X_move, Nat.reduceLT, ev_T, lk_cons, Nat.reduceEqDiff, if_false, if_true, T_set, Nat.one_ne_zero, X_nilCheck EE_sym, nilV_ptr, okI_some, X_fieldAddr EE_sym fo_48_1, offV_ptr, Nat.zero_add, X_load EE_sym, load1 lay_46, Mem.get_bump, r1, ld1_cells, a4, X_len EE_sym, hl1, X_bin EE_sym (op := .lss) rfl, bin_lss, q1, decide_false, X_nil, thenQ_normal, W_cond, CDi_f, W_exit, thenQ_exit, roundQ_exit, blockQ_exit, w21_11, Mem.next_bump, Nat.le_add_right_of_le, bump_bump, Nat.reduceAdd, X_assign, w21_12, X_store, store1 sz_46, cells_slice, st1_cells, List.length_cons, List.length_nil, a2, h2, List.all_cons, oneCell, List.all_nil, Bool.and_self, and_self, put_bump, w21_13, Mem.next_put, len_slice und_46, W_ret, FinX_ret, resA_tmp, T_get, resA_nil, Option.map_some, oneOr1, true_and]
    have hne : ∀ y, slB (.slice ua (cutI I x).length uc) = some y → y ≠ b := fun y hy e => by have := hL.new y hy; omega
    have hRN := fun j => RN.store (M := M) (j := j) hm h.ob hb r1 a2 a3 hL.sl (fun e => hne b e rfl) (fun y hy => .inr ⟨hL.new y hy, hL.sl.lt hL.nx.fresh hy⟩) hnx (fun y hy => hL.nx.fresh.none y hy) (fun y hy _ => hL.nx.old y hy) (fun y hy e => by rw [hL.nx.old y hy, e])
    exact (hRN _).raw ⟨rfl, hRN _⟩
/-- One item more, at the end: the append, the store, and what is left. -/
theorem RN.app1 {M : Mem} {p y : Int} {j b1 id : Nat} (h : RAt m b O c v I) (hm : Fresh m) (hO : ∀ y, O y → y < m.next) (hn : Nx m M) (hb1 : M.next ≤ b1 ∧ b1 < M.next + j) (hid : M.next ≤ id ∧ id < M.next + j) (hl : I.length < 1073741824) {K : Value × Mem → Prop}
    (hK : ∀ a c' M' cs, M'.get b = some (.cells cs true 0) → cs.n = 2 → M'.next = M.next + j → (∀ j2, RN m b O c (I ++ [(p, y)]) ((M'.put b (.cells (cs.write 1 [.slice a (I.length + 1) c']) true 0)).bump j2)) → K (.slice a (I.length + 1) c', M')) :
    okI (appendA EE.P id #[46, 46] v (.slice (some ⟨b1, 0, none⟩) 1 1) ((M.put b1 (.cells (Cells.ofList [In p, In y]) true 2)).bump j)) (k := ⟨K⟩) := by
  obtain ⟨cs, a1, a2, a3, a4⟩ := h.at_
  have hb := hm.lt a1
  have hnx := hn.next
  have hR := h.nx hm hn
  have hsv : SlV ((M.put b1 (.cells (Cells.ofList [In p, In y]) true 2)).bump j) 2 v I.length (itl I) := hR.sl.keep fun z o hz ho => by
    have := hO z (h.own z hz)
    rw [Mem.get_bump, Mem.get_put, if_neg (by omega), ho]
  have hsrc : srcA 2 (.slice (some ⟨b1, 0, none⟩) 1 1) ((M.put b1 (.cells (Cells.ofList [In p, In y]) true 2)).bump j) = some ([In p, In y], 1) := by
    rw [src_at, Mem.get_bump, Mem.get_put, if_pos rfl, srcC_cells, sub_ofList (by simp)]; rfl
  refine okI_app eo46 (k := 1) (new := [In p, In y]) hsv hsrc (by decide) rfl one2 (.inl rfl) ⟨by omega, by omega⟩ fun v' M' hA => ?_
  have hs : SlV M' 2 v' (I ++ [(p, y)]).length (itl (I ++ [(p, y)])) := by
    rw [itl_snoc, List.length_append, List.length_singleton]; exact hA.sl
  obtain ⟨ua, uc, rfl⟩ := hA.sl.is
  have n3 := hA.next
  rw [Mem.next_bump, Mem.next_put] at n3
  have hold : ∀ z, z < m.next → slB v ≠ some z → M'.get z = m.get z := fun z hz hv => by
    rw [hA.old z (by omega) hv, Mem.get_bump, Mem.get_put, if_neg (by omega), hn.old z hz]
  have hMb : M'.get b = some (.cells cs true 0) := by rw [hold b hb h.ne, a1]
  have hlow : ∀ z, z ≠ id → z ≠ b1 → M.get z = none → M'.get z = none := fun z h1 h2 e => hA.low z h1 (by rw [Mem.get_bump, Mem.get_put, if_neg h2, e])
  refine hK ua uc M' cs hMb a2 n3 fun j2 => RN.store hm h.ob hb hMb a2 a3 hs (fun e => ?_) (fun z hz => ?_) (by omega) (fun z hz => hlow z (by omega) (by omega) (hn.fresh.none z (by omega))) (fun z hz hzO => hold z hz fun e => hzO (h.own z e)) fun z hz e => hlow z (by omega) (by omega) (by rw [hn.old z hz, e])
  · rcases hA.blk with ⟨h1, _⟩ | h1
    · exact h.ne (h1 ▸ e)
    · rw [h1] at e; cases e; omega
  · rcases hA.blk with ⟨h1, _⟩ | h1
    · exact .inl (h.own z (h1 ▸ hz))
    · rw [h1] at hz; cases hz; exact .inr ⟨by omega, by omega⟩
end
end
end Go.Ab
/- Queue: the document's queues: Place, Move, Rotate. -/
namespace Go.Ab
open Go.Proofs
noncomputable section
set_option maxHeartbeats 4000000
set_option maxRecDepth 10000
section
variable {m : Mem} {b c : Nat} {O : Nat → Prop} {v : Value} {I : Items} {a : BitVec 32} {k x : Int}
theorem RN.of_nx {m' : Mem} (h : RAt m b O c v I) (hm : Fresh m) (hn : Nx m m') : RN m b O c I m' :=
  ⟨hn.next, hn.fresh, ⟨v, (h.nx hm hn).mono fun y hy => .inl hy⟩, fun y hy _ => hn.old y hy, fun y hy e => by rw [hn.old y hy, e]⟩
theorem bs_item {p y : Int} : bsV EE.P 46 1 [(0, .agg #[In p, In y])] = some ([In p, In y], 2) := by kernel_rfl
theorem bd72 {p y : Int} : buildA EE.P 72 [(0, In p), (1, In y)] = some (.agg #[In p, In y]) := by kernel_rfl
/-- What the document's placing comes to. -/
def PlR (m : Mem) (b : Nat) (O : Nat → Prop) (c : Nat) (I : Items) (a : BitVec 32) (x k : Int) (u : Value) (m' : Mem) : Prop :=
  (x < 1 ∧ u = .tuple [In 0, In 2].toArray ∧ RN m b O c I m') ∨ (¬ x < 1 ∧ (0 ≤ whI I x ∨ fewTo (lsN I) a c < 0) ∧ u = .tuple [In 0, In 130].toArray ∧ RN m b O c I m') ∨
  (¬ x < 1 ∧ ¬ 0 ≤ whI I x ∧ ¬ fewTo (lsN I) a c < 0 ∧ u = .tuple [In (placeQ c (lsN I) a k), In 0].toArray ∧ RN m b O c (I ++ [(x, (placeQ c (lsN I) a k : Int))]) m')
theorem place_r (h : RAt m b O c v I) (hm : Fresh m) (hO : ∀ y, O y → y < m.next) (hc : c ≤ 8) (hI : I.length < 1073741824) : ∃ u m', Con EE.P 19 [PT b, In x, In k, Um a] m u m' ∧ PlR m b O c I a x k u m' := by
  refine Con.raw EE_ok fn19 (Nat.le_of_ble_eq_true rfl) _ ?_
  by_cases hx : x < 1
  · have d0 := decide_eq_true hx
    simp only [f19, enumV, Nat.zero_add, Nat.reduceAdd, w19, W_seq, w19_0, Nat.le_refl, X_assign, ev_const, Nat.reduceLT, T_set, X_nil, thenQ_normal, w19_1, Mem.next_bump, Nat.le_add_right, bump_bump, X_move, ev_T, lk_cons, Nat.reduceEqDiff, if_false, if_true, X_bin EE_sym (op := .lss) rfl, bin_lss, d0, okI_some, W_cond, CDi_t, w19_3, w19_2, W_ret, thenQ_ret, FinX_ret, resA_tmp, T_get, resA_nil, Option.map_some, oneOr2, true_and]
    have hn : ∀ j, Nx m (m.bump j) := fun j => (Nx.refl hm).bump j
    exact (hn _).raw (.inl ⟨hx, rfl, RN.of_nx h hm (hn _)⟩)
  have d0 := decide_eq_false hx
  simp only [f19, enumV, Nat.zero_add, Nat.reduceAdd, w19, W_seq, w19_0, Nat.le_refl, X_assign, ev_const, Nat.reduceLT, T_set, X_nil, thenQ_normal, w19_1, Mem.next_bump, Nat.le_add_right, bump_bump, X_move, ev_T, lk_cons, Nat.reduceEqDiff, if_false, if_true, X_bin EE_sym (op := .lss) rfl, bin_lss, d0, okI_some, W_cond, CDi_f, W_skip, w19_4, Nat.one_ne_zero, X_call ca_40, List.map_cons, List.map_nil, true_and]
  refine CallI.ex2 (fewest_r (a := a) (h.bump _) hm.bump (fun y hy => by rw [Mem.next_bump]; have := hO y hy; omega) hc hI) fun u M hv => ?_
  obtain ⟨rfl, hn⟩ := hv
  have hn := hn.of_bump
  have n1 := hn.next
  have hR := h.nx hm hn
  simp only [putT, Nat.reduceLT, T_set, X_assign, ev_T, lk_cons, Nat.reduceEqDiff, if_false, if_true, X_nil, thenQ_normal, W_seq, w19_5, n1, X_move, Nat.one_ne_zero, X_call ca_23, List.map_cons, List.map_nil, true_and]
  refine CallI.con0 (where_r (x := x) (hR.bump _) hI) ?_
  by_cases hw : 0 ≤ whI I x
  · have d1 := decide_eq_true hw
    simp only [putT, Nat.reduceLT, T_set, X_bin EE_sym (op := .geq) rfl, ev_T, lk_cons, Nat.reduceEqDiff, if_false, if_true, ev_const, bin_geq, d1, okI_some, X_move, X_guard EE_sym, T_get, GDi_tf, X_pick EE_sym, pickV_bool, X_nil, thenQ_normal, W_cond, CDi_t, w19_7, W_seq, w19_6, Mem.next_bump, n1, Nat.le_add_right_of_le, bump_bump, Nat.reduceAdd, X_assign, W_ret, thenQ_ret, FinX_ret, resA_tmp, resA_nil, Option.map_some, oneOr2, true_and]
    exact (hn.bump _).raw (.inr (.inl ⟨hx, .inl hw, rfl, RN.of_nx h hm (hn.bump _)⟩))
  have d1 := decide_eq_false hw
  by_cases hf : fewTo (lsN I) a c < 0
  · have d2 := decide_eq_true hf
    simp only [putT, Nat.reduceLT, T_set, X_bin EE_sym (op := .geq) rfl, ev_T, lk_cons, Nat.reduceEqDiff, if_false, if_true, ev_const, bin_geq, d1, okI_some, X_move, X_guard EE_sym, T_get, GDi_ff, X_bin EE_sym (op := .lss) rfl, bin_lss, d2, X_pick EE_sym, pickV_bool, Bool.false_eq_true, X_nil, thenQ_normal, W_cond, CDi_t, w19_7, W_seq, w19_6, Mem.next_bump, n1, Nat.le_add_right_of_le, bump_bump, Nat.reduceAdd, X_assign, W_ret, thenQ_ret, FinX_ret, resA_tmp, resA_nil, Option.map_some, oneOr2, true_and]
    exact (hn.bump _).raw (.inr (.inl ⟨hx, .inr hf, rfl, RN.of_nx h hm (hn.bump _)⟩))
  have d2 := decide_eq_false hf
  simp only [putT, Nat.reduceLT, T_set, X_bin EE_sym (op := .geq) rfl, ev_T, lk_cons, Nat.reduceEqDiff, if_false, if_true, ev_const, bin_geq, d1, okI_some, X_move, X_guard EE_sym, T_get, GDi_ff, X_bin EE_sym (op := .lss) rfl, bin_lss, d2, X_pick EE_sym, pickV_bool, Bool.false_eq_true, X_nil, thenQ_normal, W_cond, CDi_f, W_skip, W_seq, w19_8, Mem.next_bump, n1, Nat.le_add_right_of_le, bump_bump, Nat.reduceAdd, Nat.one_ne_zero, X_call ca_41, List.map_cons, List.map_nil, true_and]
  refine CallI.con0 (in_r (k := k) (a := a) (hR.bump _) hc) ?_
  obtain ⟨cs, a1, a2, a3, a4⟩ := hR.at_
  have h2 : 1 + 1 ≤ 2 := by decide
  have hbs := fun p y => bs_item (p := p) (y := y)
  have hf0 : fewTo (lsN I) a c = ((fewTo (lsN I) a c).toNat : Int) := by omega
  cases hin : (decide (0 ≤ k ∧ k < (c : Int)) && mb a k.toNat) with
  | true =>
    have hk : (0 ≤ k ∧ k < (c : Int)) ∧ mb a k.toNat = true := by
      rw [Bool.and_eq_true] at hin
      exact ⟨of_decide_eq_true hin.1, hin.2⟩
    have e1 : ((placeQ c (lsN I) a k : Nat) : Int) = k := by unfold placeQ; rw [if_pos hk]; omega
    simp only [putT, Nat.reduceLT, T_set, X_assign, ev_T, lk_cons, Nat.reduceEqDiff, if_false, if_true, X_nil, thenQ_normal, W_seq, w19_9, Mem.next_bump, n1, Nat.le_add_right_of_le, bump_bump, Nat.reduceAdd, X_move, W_cond, CDi_t, w19_11, w19_10, w19_12, Nat.one_ne_zero, X_nilCheck EE_sym, nilV_ptr, okI_some, X_fieldAddr EE_sym fo_48_1, offV_ptr, Nat.zero_add, X_load EE_sym, load1 lay_46, Mem.get_bump, a1, ld1_cells, a4, X_build EE_sym, List.map_cons, List.map_nil, bd72, X_bs, hbs, Nat.add_assoc, put_bump, X_append, true_and]
    refine RN.app1 h hm hO hn ⟨by omega, by omega⟩ ⟨by omega, by omega⟩ hI fun ua uc M' cs' hb' hn' hx' hRN => ?_
    have n2 : m.next ≤ M'.next := by omega
    simp only [Nat.reduceLT, T_set, X_nilCheck EE_sym, ev_T, lk_cons, Nat.reduceEqDiff, if_false, if_true, nilV_ptr, okI_some, X_fieldAddr EE_sym fo_48_1, offV_ptr, Nat.zero_add, X_store, store1 sz_46, hb', cells_slice, st1_cells, List.length_cons, List.length_nil, Nat.reduceAdd, hn', h2, List.all_cons, oneCell, List.all_nil, Bool.and_self, and_self, X_nil, thenQ_normal, W_seq, w19_13, Mem.next_put, n2, X_move, X_assign, ev_const, W_ret, FinX_ret, resA_tmp, T_get, resA_nil, Option.map_some, oneOr2, true_and]
    refine (hRN _).raw (.inr (.inr ⟨hx, hw, hf, by rw [e1], by rw [e1]; exact hRN _⟩))
  | false =>
    have hk : ¬ ((0 ≤ k ∧ k < (c : Int)) ∧ mb a k.toNat = true) := fun e => by
      rw [decide_eq_true e.1, e.2] at hin; cases hin
    have e1 : ((placeQ c (lsN I) a k : Nat) : Int) = fewTo (lsN I) a c := by unfold placeQ; rw [if_neg hk]; omega
    simp only [putT, Nat.reduceLT, T_set, X_assign, ev_T, lk_cons, Nat.reduceEqDiff, if_false, if_true, X_nil, thenQ_normal, W_seq, w19_9, Mem.next_bump, n1, Nat.le_add_right_of_le, bump_bump, Nat.reduceAdd, X_move, W_cond, CDi_f, W_skip, w19_12, Nat.one_ne_zero, X_nilCheck EE_sym, nilV_ptr, okI_some, X_fieldAddr EE_sym fo_48_1, offV_ptr, Nat.zero_add, X_load EE_sym, load1 lay_46, Mem.get_bump, a1, ld1_cells, a4, X_build EE_sym, List.map_cons, List.map_nil, bd72, X_bs, hbs, Nat.add_assoc, put_bump, X_append, true_and]
    refine RN.app1 h hm hO hn ⟨by omega, by omega⟩ ⟨by omega, by omega⟩ hI fun ua uc M' cs' hb' hn' hx' hRN => ?_
    have n2 : m.next ≤ M'.next := by omega
    simp only [Nat.reduceLT, T_set, X_nilCheck EE_sym, ev_T, lk_cons, Nat.reduceEqDiff, if_false, if_true, nilV_ptr, okI_some, X_fieldAddr EE_sym fo_48_1, offV_ptr, Nat.zero_add, X_store, store1 sz_46, hb', cells_slice, st1_cells, List.length_cons, List.length_nil, Nat.reduceAdd, hn', h2, List.all_cons, oneCell, List.all_nil, Bool.and_self, and_self, X_nil, thenQ_normal, W_seq, w19_13, Mem.next_put, n2, X_move, X_assign, ev_const, W_ret, FinX_ret, resA_tmp, T_get, resA_nil, Option.map_some, oneOr2, true_and]
    refine (hRN _).raw (.inr (.inr ⟨hx, hw, hf, by rw [e1], by rw [e1]; exact hRN _⟩))
end
end
end Go.Ab
/- Queue: the document's queues: Move, Rotate. -/
namespace Go.Ab
open Go.Proofs
noncomputable section
set_option maxHeartbeats 4000000
set_option maxRecDepth 10000
section
variable {m : Mem} {b c : Nat} {O : Nat → Prop} {v : Value} {I : Items} {a : BitVec 32} {k x : Int}
def inQ (c : Nat) (a : BitVec 32) (k : Int) : Bool := decide (0 ≤ k ∧ k < (c : Int)) && mb a k.toNat
/-- What the document's moving comes to. -/
def MvR (m : Mem) (b : Nat) (O : Nat → Prop) (c : Nat) (I : Items) (a : BitVec 32) (x : Int) (u : Value) (m' : Mem) : Prop :=
  ((whI I x < 0 ∨ fewTo (lsN I) a c < 0) ∧ u = .tuple [In 0, In 130].toArray ∧ RN m b O c I m') ∨ (¬ whI I x < 0 ∧ ¬ fewTo (lsN I) a c < 0 ∧ inQ c a (whI I x) = true ∧ u = .tuple [In (whI I x), In 0].toArray ∧ RN m b O c I m') ∨
  (¬ whI I x < 0 ∧ ¬ fewTo (lsN I) a c < 0 ∧ inQ c a (whI I x) = false ∧ u = .tuple [In (fewTo (lsN I) a c), In 0].toArray ∧ RN m b O c (cutI I x ++ [(x, fewTo (lsN I) a c)]) m')
theorem move_r (h : RAt m b O c v I) (hm : Fresh m) (hO : ∀ y, O y → y < m.next) (hc : c ≤ 8) (hI : I.length < 1073741824) : ∃ u m', Con EE.P 20 [PT b, In x, Um a] m u m' ∧ MvR m b O c I a x u m' := by
  refine Con.raw EE_ok fn20 (Nat.le_of_ble_eq_true rfl) _ ?_
  simp only [f20, enumV, Nat.zero_add, Nat.reduceAdd, w20, W_seq, w20_0, Nat.le_refl, X_assign, ev_const, Nat.reduceLT, T_set, X_nil, thenQ_normal, w20_1, Mem.next_bump, Nat.le_add_right, bump_bump, X_move, ev_T, lk_cons, Nat.reduceEqDiff, Nat.one_ne_zero, if_false, if_true, X_call ca_23, List.map_cons, List.map_nil, true_and]
  refine CallI.con0 (where_r (x := x) (h.bump _) hI) ?_
  simp only [putT, Nat.reduceLT, T_set, X_assign, ev_T, lk_cons, Nat.reduceEqDiff, if_false, if_true, X_nil, thenQ_normal, W_seq, w20_2, Mem.next_bump, Nat.le_add_right, bump_bump, Nat.reduceAdd, X_move, Nat.one_ne_zero, X_call ca_40, List.map_cons, List.map_nil, true_and]
  refine CallI.ex2 (fewest_r (a := a) (h.bump _) hm.bump (fun y hy => by rw [Mem.next_bump]; have := hO y hy; omega) hc hI) fun u M hv => ?_
  obtain ⟨rfl, hn⟩ := hv
  have hn := hn.of_bump
  have n1 := hn.next
  have hR := h.nx hm hn
  by_cases hw : whI I x < 0
  · have d1 := decide_eq_true hw
    simp only [putT, Nat.reduceLT, T_set, X_assign, ev_T, lk_cons, Nat.reduceEqDiff, if_false, if_true, X_nil, thenQ_normal, W_seq, w20_3, n1, X_move, X_bin EE_sym (op := .lss) rfl, ev_const, bin_lss, d1, okI_some, X_guard EE_sym, T_get, GDi_tf, X_pick EE_sym, pickV_bool, W_cond, CDi_t, w20_5, w20_4, Mem.next_bump, Nat.le_add_right_of_le, bump_bump, Nat.reduceAdd, W_ret, thenQ_ret, FinX_ret, resA_tmp, resA_nil, Option.map_some, oneOr2, true_and]
    exact (hn.bump _).raw (.inl ⟨.inl hw, rfl, RN.of_nx h hm (hn.bump _)⟩)
  have d1 := decide_eq_false hw
  by_cases hf : fewTo (lsN I) a c < 0
  · have d2 := decide_eq_true hf
    simp only [putT, Nat.reduceLT, T_set, X_assign, ev_T, lk_cons, Nat.reduceEqDiff, if_false, if_true, X_nil, thenQ_normal, W_seq, w20_3, n1, X_move, X_bin EE_sym (op := .lss) rfl, ev_const, bin_lss, d1, okI_some, X_guard EE_sym, T_get, GDi_ff, d2, X_pick EE_sym, pickV_bool, Bool.false_eq_true, W_cond, CDi_t, w20_5, w20_4, Mem.next_bump, Nat.le_add_right_of_le, bump_bump, Nat.reduceAdd, W_ret, thenQ_ret, FinX_ret, resA_tmp, resA_nil, Option.map_some, oneOr2, true_and]
    exact (hn.bump _).raw (.inl ⟨.inr hf, rfl, RN.of_nx h hm (hn.bump _)⟩)
  have d2 := decide_eq_false hf
  simp only [putT, Nat.reduceLT, T_set, X_assign, ev_T, lk_cons, Nat.reduceEqDiff, if_false, if_true, X_nil, thenQ_normal, W_seq, w20_3, n1, X_move, X_bin EE_sym (op := .lss) rfl, ev_const, bin_lss, d1, okI_some, X_guard EE_sym, T_get, GDi_ff, d2, X_pick EE_sym, pickV_bool, Bool.false_eq_true, W_cond, CDi_f, W_skip, w20_6, Mem.next_bump, Nat.le_add_right_of_le, bump_bump, Nat.reduceAdd, Nat.one_ne_zero, X_call ca_41, List.map_cons, List.map_nil, true_and]
  refine CallI.con0 (in_r (k := whI I x) (a := a) (hR.bump _) hc) ?_
  cases hin : (decide (0 ≤ whI I x ∧ whI I x < (c : Int)) && mb a (whI I x).toNat) with
  | true =>
    simp only [putT, Nat.reduceLT, T_set, X_assign, ev_T, lk_cons, Nat.reduceEqDiff, if_false, if_true, X_nil, thenQ_normal, W_seq, w20_7, Mem.next_bump, n1, Nat.le_add_right_of_le, bump_bump, Nat.reduceAdd, X_move, W_cond, CDi_t, w20_9, w20_8, ev_const, W_ret, thenQ_ret, FinX_ret, resA_tmp, T_get, resA_nil, Option.map_some, okI_some, oneOr2, true_and]
    exact (hn.bump _).raw (.inr (.inl ⟨hw, hf, hin, rfl, RN.of_nx h hm (hn.bump _)⟩))
  | false =>
    simp only [putT, Nat.reduceLT, T_set, X_assign, ev_T, lk_cons, Nat.reduceEqDiff, if_false, if_true, X_nil, thenQ_normal, W_seq, w20_7, Mem.next_bump, n1, Nat.le_add_right_of_le, bump_bump, Nat.reduceAdd, X_move, W_cond, CDi_f, W_skip, w20_10, Nat.one_ne_zero, X_call ca_21, List.map_cons, List.map_nil, true_and]
    refine CallI.ex2 (cut_r (x := x) (hR.bump _) hn.fresh.bump (fun y hy => by rw [Mem.next_bump]; have := hO y hy; omega) hI) fun u M1 hv => ?_
    obtain ⟨rfl, hC⟩ := hv
    have hC := RN.pre hm hn hC.of_bump
    have n2 := hC.next
    obtain ⟨v1, hR1⟩ := hC.at_
    obtain ⟨cs, a1, a2, a3, a4⟩ := hR1.at_
    have h2 : 1 + 1 ≤ 2 := by decide
    have hbs := fun p y => bs_item (p := p) (y := y)
    have hlc := cutI_len (I := I) (x := x)
    simp only [putT, Nat.reduceLT, T_set, X_nil, thenQ_normal, W_seq, w20_11, n2, X_move, ev_T, lk_cons, Nat.reduceEqDiff, Nat.one_ne_zero, if_false, if_true, X_nilCheck EE_sym, nilV_ptr, okI_some, X_fieldAddr EE_sym fo_48_1, offV_ptr, Nat.zero_add, X_load EE_sym, load1 lay_46, Mem.get_bump, a1, ld1_cells, a4, X_build EE_sym, List.map_cons, List.map_nil, bd72, X_bs, hbs, put_bump, X_append, true_and]
    refine RN.app1 hR1 hC.fresh (fun y hy => by rcases hy with hy | hy; · have := hO y hy; omega
                                                · exact hy.2) (Nx.refl hC.fresh) ⟨by omega, by omega⟩ ⟨by omega, by omega⟩ (by omega) fun ua uc M' cs' hb' hn' hx' hRN => ?_
    have n3 : m.next ≤ M'.next := by omega
    simp only [Nat.reduceLT, T_set, X_nilCheck EE_sym, ev_T, lk_cons, Nat.reduceEqDiff, if_false, if_true, nilV_ptr, okI_some, X_fieldAddr EE_sym fo_48_1, offV_ptr, Nat.zero_add, X_store, store1 sz_46, hb', cells_slice, st1_cells, List.length_cons, List.length_nil, Nat.reduceAdd, hn', h2, List.all_cons, oneCell, List.all_nil, Bool.and_self, and_self, X_nil, thenQ_normal, W_seq, w20_12, Mem.next_put, n3, X_move, X_assign, ev_const, W_ret, FinX_ret, resA_tmp, T_get, resA_nil, Option.map_some, oneOr2, true_and]
    have hT := fun j => hC.trans (hRN j)
    exact (hT _).raw (.inr (.inr ⟨hw, hf, hin, rfl, hT _⟩))
/-- What the document's rotating comes to. -/
def RoR (m : Mem) (b : Nat) (O : Nat → Prop) (c : Nat) (I : Items) (k : Int) (u : Value) (m' : Mem) : Prop :=
  ((lsI I k).length < 2 ∧ u = .bool false ∧ RN m b O c I m') ∨ (¬ (lsI I k).length < 2 ∧ u = .bool true ∧ RN m b O c (cutI I ((lsI I k).getD 0 0) ++ [((lsI I k).getD 0 0, k)]) m')
theorem rotate_r (h : RAt m b O c v I) (hm : Fresh m) (hO : ∀ y, O y → y < m.next) (hI : I.length < 1073741824) : ∃ u m', Con EE.P 22 [PT b, In k] m u m' ∧ RoR m b O c I k u m' := by
  refine Con.raw EE_ok fn22 (Nat.le_of_ble_eq_true rfl) _ ?_
  simp only [f22, enumV, Nat.zero_add, w22, W_seq, w22_0, Nat.le_refl, X_assign, ev_const, Nat.reduceLT, T_set, X_nil, thenQ_normal, w22_1, Mem.next_bump, Nat.le_add_right, bump_bump, Nat.reduceAdd, X_move, ev_T, lk_cons, Nat.reduceEqDiff, Nat.one_ne_zero, if_false, if_true, X_call ca_27, List.map_cons, List.map_nil, true_and]
  refine CallI.ex2 (list_r (k := k) (h.bump _) hm.bump (fun y hy => by rw [Mem.next_bump]; have := hO y hy; omega) hI) fun u M hL => ?_
  have hn := hL.nx.of_bump
  have n1 := hn.next
  have hR := h.nx hm hn
  have hl1 : ∀ M, lenA EE.P 30 u M = some (In (lsI I k).length) := fun M => hL.sl.lenA und_30
  by_cases h0 : (lsI I k).length < 2
  · have d0 : ((lsI I k).length : Int) < 2 := by omega
    simp only [putT, Nat.reduceLT, T_set, X_assign, ev_T, lk_cons, Nat.reduceEqDiff, if_false, if_true, X_nil, thenQ_normal, W_seq, w22_2, n1, X_move, X_len EE_sym, hl1, okI_some, X_bin EE_sym (op := .lss) rfl, ev_const, bin_lss, d0, decide_true, W_cond, CDi_t, w22_4, w22_3, Mem.next_bump, Nat.le_add_right_of_le, bump_bump, Nat.reduceAdd, W_ret, thenQ_ret, FinX_ret, resA_tmp, T_get, resA_nil, Option.map_some, oneOr1, true_and]
    exact (hn.bump _).raw (.inl ⟨h0, rfl, RN.of_nx h hm (hn.bump _)⟩)
  have d0 : ¬ ((lsI I k).length : Int) < 2 := by omega
  obtain ⟨B, cc, cB, e, k1, k2, k3, k4⟩ := hL.sl.cons (by omega)
  have hBn : m.next ≤ B := by have := hL.of_bump.new B (by rw [e]; rfl); exact this
  have g2 : (0 : Int) < ((lsI I k).length : Int) := by omega
  have z1 : (0 : Int) ≤ 0 := Int.le_refl _
  have q4 : cB.nth 0 = some (In ((lsI I k).getD 0 0)) := by rw [nth_lt (by omega), k4 0 (by rw [List.length_map]; omega), il_getD (by omega)]
  obtain ⟨x, hx⟩ : ∃ x, x = (lsI I k).getD 0 0 := ⟨_, rfl⟩
  rw [← hx] at q4
  subst e
  simp only [putT, Nat.reduceLT, T_set, X_assign, ev_T, lk_cons, Nat.reduceEqDiff, if_false, if_true, X_nil, thenQ_normal, W_seq, w22_2, n1, X_move, X_len EE_sym, len_slice und_30, okI_some, X_bin EE_sym (op := .lss) rfl, ev_const, bin_lss, d0, decide_false, W_cond, CDi_f, W_skip, w22_5, Mem.next_bump, Nat.le_add_right_of_le, bump_bump, Nat.reduceAdd, Nat.one_ne_zero, X_indexAddr EE_sym, z1, g2, idxV_slice und_30 sz_3, Int.toNat_zero, Nat.mul_one, Nat.add_zero, X_load EE_sym, load1 lay_3, Mem.get_bump, k1, ld1_cells, q4, X_call ca_21, List.map_cons, List.map_nil, true_and]
  refine CallI.ex2 (cut_r (x := x) (hR.bump _) hn.fresh.bump (fun y hy => by rw [Mem.next_bump]; have := hO y hy; omega) hI) fun u M1 hv => ?_
  obtain ⟨rfl, hC0⟩ := hv
  have hC0 := hC0.of_bump
  have kB : M1.get B = some (.cells cB true 1) := by rw [hC0.old B (hn.fresh.lt k1) (fun e => by have := hO B e; omega), k1]
  have hC := RN.pre hm hn hC0
  have n2 := hC.next
  obtain ⟨v1, hR1⟩ := hC.at_
  obtain ⟨cs, a1, a2, a3, a4⟩ := hR1.at_
  have h2 : 1 + 1 ≤ 2 := by decide
  have hbs := fun p y => bs_item (p := p) (y := y)
  have hlc := cutI_len (I := I) (x := x)
  simp only [putT, Nat.reduceLT, T_set, X_nil, thenQ_normal, W_seq, w22_6, n2, X_move, ev_T, lk_cons, Nat.reduceEqDiff, Nat.one_ne_zero, if_false, if_true, X_nilCheck EE_sym, nilV_ptr, okI_some, X_fieldAddr EE_sym fo_48_1, offV_ptr, Nat.zero_add, X_load EE_sym, load1 lay_46, Mem.get_bump, a1, ld1_cells, a4, X_indexAddr EE_sym, ev_const, z1, g2, idxV_slice und_30 sz_3, Int.toNat_zero, Nat.mul_one, Nat.add_zero, load1 lay_3, kB, q4, X_build EE_sym, List.map_cons, List.map_nil, bd72, X_bs, hbs, put_bump, X_append, true_and]
  trace_state
  refine RN.app1 hR1 hC.fresh (fun y hy => by rcases hy with hy | hy; · have := hO y hy; omega
                                              · exact hy.2) (Nx.refl hC.fresh) ⟨by omega, by omega⟩ ⟨by omega, by omega⟩ (by omega) fun ua uc M' cs' hb' hn' hx' hRN => ?_
  have n3 : m.next ≤ M'.next := by omega
  simp only [Nat.reduceLT, T_set, X_move, ev_T, lk_cons, Nat.reduceEqDiff, Nat.one_ne_zero, if_false, if_true, X_nilCheck EE_sym, nilV_ptr, okI_some, X_fieldAddr EE_sym fo_48_1, offV_ptr, Nat.zero_add, X_store, store1 sz_46, hb', cells_slice, st1_cells, List.length_cons, List.length_nil, Nat.reduceAdd, hn', h2, List.all_cons, oneCell, List.all_nil, Bool.and_self, and_self, X_nil, thenQ_normal, W_seq, w22_7, Mem.next_put, n3, X_assign, ev_const, W_ret, FinX_ret, resA_tmp, T_get, resA_nil, Option.map_some, oneOr1, true_and]
  have hT := fun j => hC.trans (hRN j)
  exact (hT _).raw (.inr ⟨h0, rfl, by rw [← hx]; exact hT _⟩)
end
end
end Go.Ab
/- Queue: the document's queues: all pids. -/
namespace Go.Ab
open Go.Proofs
noncomputable section
set_option maxHeartbeats 4000000
set_option maxRecDepth 10000
section
variable {m M : Mem} {u : Value} {l : List Int}
theorem slice_zero {n c : Nat} {a : Option Addr} (ha : ∀ x, a = some x → ∃ b o, x = ⟨b, o, none⟩) : sliceA EE.P 30 (.slice a n c) (some (In ((0 : Nat) : Int))) none = some (.slice a n c) := by
  unfold sliceA
  simp only [und_30]
  rw [show bndA none c n = some n from rfl]
  simp only
  rw [bnd_some (by omega) (by omega)]
  have hz : szOf EE.P 3 = some 1 := sz_3
  simp only [hz]
  cases a with
  | none => simp
  | some x =>
    obtain ⟨b, o, rfl⟩ := ha x rfl
    simp
/-- A list's first ones. -/
theorem sl_pre {i : Nat} (h : SlI M u l) (hi : i ≤ l.length) : ∃ w, sliceA EE.P 30 u none (some (In i)) = some w ∧ ∀ M', (∀ y, slB u = some y → M'.get y = M.get y) → srcA 1 w M' = some (il (l.take i), i) := by
  have hlt : (l.take i).length = i := by rw [List.length_take]; omega
  rcases h.at_ with ⟨h1, rfl⟩ | ⟨b, c, cs, rfl, k1, k2, k3, k4⟩
  · obtain rfl : i = 0 := by omega
    refine ⟨.slice none 0 0, ?_, fun M' _ => by rw [src_nil, List.take_zero]; rfl⟩
    unfold sliceA
    simp only [und_30]
    rw [bnd_some (by omega) (by omega)]
    have hz : szOf EE.P 3 = some 1 := sz_3
    simp only [hz]
    rfl
  · refine ⟨_, slice_hi (P := EE.P) und_30 sz_3 (by omega) (by rw [Int.toNat_natCast]; omega), fun M' hM => ?_⟩
    rw [Int.toNat_natCast, src_at, hM b rfl, k1, srcC_cells, sub_get (l := il (l.take i)) (by rw [List.length_map, hlt, Nat.mul_one]) (by omega) fun x hx => ?_]
    · rfl
    · rw [Nat.zero_add, k4 x (by rw [List.length_map]; omega), il_getD (by omega), il_getD (by omega)]
      simp only [List.getD_eq_getElem?_getD, List.getElem?_take]
      rw [if_pos (by omega)]
/-- A list's last ones. -/
theorem sl_suf {i : Nat} (h : SlI M u l) (hi : i ≤ l.length) : ∃ w, sliceA EE.P 30 u (some (In i)) none = some w ∧ ∀ M', (∀ y, slB u = some y → M'.get y = M.get y) → srcA 1 w M' = some (il (l.drop i), l.length - i) := by
  have hlt : (l.drop i).length = l.length - i := List.length_drop
  rcases h.at_ with ⟨h1, rfl⟩ | ⟨b, c, cs, rfl, k1, k2, k3, k4⟩
  · obtain rfl : i = 0 := by omega
    refine ⟨.slice none 0 0, ?_, fun M' _ => by rw [src_nil, List.drop_zero, List.length_eq_zero_iff.1 h1]; rfl⟩
    have := slice_zero (n := 0) (c := 0) (a := none) (fun x h => by cases h)
    exact this
  · rw [Nat.mul_one] at k2
    by_cases hc : i = c
    · have e : l.length = c := by omega
      by_cases h0 : i = 0
      · subst h0
        refine ⟨_, slice_zero fun x h => by cases h; exact ⟨_, _, rfl⟩, fun M' hM => ?_⟩
        rw [src_at, hM b rfl, k1, srcC_cells, sub_get (l := il (l.drop 0)) (by rw [List.length_map, hlt, Nat.mul_one, Nat.sub_zero]) (by omega) fun x hx => ?_]
        · rfl
        · rw [Nat.zero_add, k4 x (by rw [List.length_map]; omega), List.drop_zero]
      · refine ⟨lost, ?_, fun M' _ => by rw [src_lost, List.drop_of_length_le (by omega), show l.length - i = 0 by omega]; rfl⟩
        rw [e, hc]
        exact slice_end (by omega)
    · refine ⟨_, slice_lo (P := EE.P) und_30 sz_3 (by omega) (by rw [Int.toNat_natCast]; omega) (by rw [Int.toNat_natCast]; omega) k3, fun M' hM => ?_⟩
      rw [Int.toNat_natCast, src_at, hM b rfl, k1, srcC_cells, sub_get (l := il (l.drop i)) (by rw [List.length_map, hlt, Nat.mul_one]) (by omega) fun x hx => ?_]
      · rfl
      · rw [k4 (0 + i * 1 + x) (by rw [List.length_map]; omega), il_getD (by omega), il_getD (by omega)]
        simp only [List.getD_eq_getElem?_getD, List.getElem?_drop, Nat.zero_add, Nat.mul_one]
/-- A slice without room. -/
def Full (u : Value) (n : Nat) : Prop := ∀ a c, u = .slice a n c → n = c
/-- An append to a list without room: anew, without room. -/
theorem app_full {id : Nat} {w : List Int} {x : Value} {K : Value × Mem → Prop} (h : SlI M u l) (hf : Full u l.length) (hsrc : srcA 1 x M = some (il w, w.length)) (hcap : l.length + w.length < 1073741824)
    (hK : ∀ v' M', SlI M' v' (l ++ w) → Full v' (l ++ w).length → (slB v' = slB u ∨ slB v' = some id) → M'.next = M.next → (∀ y, y ≠ id → slB u ≠ some y → M'.get y = M.get y) → (∀ y, y ≠ id → M.get y = none → M'.get y = none) → K (v', M')) :
    okI (appendA EE.P id #[30, 30] u x M) (k := ⟨K⟩) := by
  by_cases hw : w = []
  · subst hw
    have e : appendA EE.P id #[30, 30] u x M = some (u, M) := by
      obtain ⟨h1, ⟨i, h2, h3, h4⟩, _⟩ := eo30
      rcases h.at_ with ⟨h5, rfl⟩ | ⟨b, c, cs, rfl, k1, k2, k3, k4⟩
      · unfold appendA
        simp only [List.getElem?_toArray, List.getElem?_cons_zero, List.getElem?_cons_succ, h1, h2]
        rw [h3, hsrc]
        simp
      · unfold appendA
        simp only [List.getElem?_toArray, List.getElem?_cons_zero, List.getElem?_cons_succ, h1, h2]
        rw [h3, hsrc]
        simp [k3]
    rw [e, okI_some]
    rw [List.append_nil] at hK
    exact hK u M h hf (.inl rfl) rfl (fun _ _ _ => rfl) fun _ _ e => e
  have hk : w.length ≠ 0 := fun e => hw (List.length_eq_zero_iff.1 e)
  have hone := il_one w
  have hnew : (il w).length = w.length * 1 := by rw [List.length_map, Nat.mul_one]
  have hcap' : (l.length + w.length) * 8 ≤ 2 ^ 40 ∧ l.length + w.length ≤ 2 ^ 40 := ⟨by omega, by omega⟩
  obtain ⟨v', M', e1, hA⟩ := app_v (id := id) eo30 h hsrc hk hnew hone (.inr fun a c e => hf a c e) hcap'
  have hg : ¬ ((il w).all oneCell = false ∨ (il w).length ≠ w.length * 1) := by rw [hone]; simp
  have hfull : Full v' (l ++ w).length := by
    intro a c e
    rw [List.length_append] at e ⊢
    rcases h.at_ with ⟨h5, rfl⟩ | ⟨b, c', cs, rfl, k1, k2, k3, k4⟩
    · have hf2 : apF 1 8 id (.slice none 0 0) (srcA 1 x M) M = some (.slice (some ⟨id, 0, none⟩) w.length w.length, M.put id (.cells (.ofList (il w)) true 1)) := by
        rw [hsrc]
        simp only [apF]
        rw [if_neg hk, if_neg hg, if_pos (by rw [h5] at hcap'; simpa using hcap')]
      rw [app_eq eo30 (by rw [hf2]; rfl) (Nat.le_refl _), hf2] at e1
      cases e1
      simp only [Value.slice.injEq] at e
      omega
    · have hnc := hf _ _ rfl
      subst hnc
      have hf2 : apF 1 8 id (.slice (some ⟨b, 0, none⟩) l.length l.length) (srcA 1 x M) M = some (.slice (some ⟨id, 0, none⟩) (l.length + w.length) (l.length + w.length), (M.kill b).put id (.cells (cs.more 0 (il w)) true 1)) := by
        rw [hsrc]
        simp only [apF]
        rw [if_neg hk, if_neg hg, if_pos trivial, k1]
        simp only [apG]
        rw [if_pos ⟨k2.symm, trivial, hcap'⟩]
      rw [app_eq eo30 (by rw [hf2]; rfl) (Nat.le_refl _), hf2] at e1
      cases e1
      simp only [Value.slice.injEq] at e
      omega
  have hs : SlI M' v' (l ++ w) := by
    have := hA.sl
    rw [← List.length_append] at this
    simpa only [SlI, il, List.map_append] using this
  rw [e1, okI_some]
  exact hK v' M' hs hfull (hA.blk.imp (fun h => h.1) fun h => h) hA.next hA.old hA.low
/-- Where one is put in. -/
theorem ins_at {x : Int} : ∀ {l : List Int} {i : Nat}, i ≤ l.length → (∀ j, j < i → l.getD j 0 < x) → (i < l.length → ¬ l.getD i 0 < x) → ins x l = l.take i ++ [x] ++ l.drop i
  | [], i, hi, _, _ => by simp [ins]
  | y :: l, 0, _, _, h => by
    have h := h (by simp)
    unfold ins
    rw [if_pos (by simpa using h)]; rfl
  | y :: l, i + 1, hi, h1, h2 => by
    have h0 := h1 0 (by omega)
    have ih := ins_at (x := x) (l := l) (i := i) (by simpa using hi) (fun j hj => by simpa using h1 (j + 1) (by omega)) (fun hj => by simpa using h2 (by simpa using hj))
    unfold ins
    rw [if_neg (by have : y < x := by simpa using h0
                   omega), ih]; rfl
end
def allI (I : Items) : List Int := I.foldl (fun o p => ins p.1 o) []
theorem allI_snoc {I : Items} {p : Int × Int} : allI (I ++ [p]) = ins p.1 (allI I) := by
  unfold allI
  rw [List.foldl_append]; rfl
theorem ins_len {x : Int} {l : List Int} : (ins x l).length = l.length + 1 := by
  rw [(ins_perm x l).length_eq, List.length_cons]
theorem all_fold {I : Items} {o : List Int} : (I.foldl (fun o p => ins p.1 o) o).length = o.length + I.length := by
  induction I generalizing o with
  | nil => rfl
  | cons p I ih => rw [List.foldl_cons, ih, ins_len, List.length_cons]; omega
theorem allI_len {I : Items} : (allI I).length = I.length := by
  unfold allI
  rw [all_fold]; simp
section
variable {m : Mem} {b c : Nat} {O : Nat → Prop} {v : Value} {I : Items}
theorem all_r (h : RAt m b O c v I) (hm : Fresh m) (hO : ∀ y, O y → y < m.next) (hI : I.length < 1000) : ∃ u m', Con EE.P 26 [PT b] m u m' ∧ NewL m m' u (allI I) := by
  refine Con.raw EE_ok fn26 (Nat.le_of_ble_eq_true rfl) _ ?_
  obtain ⟨cs, a1, a2, a3, a4⟩ := h.at_
  have hb := hm.lt a1
  have hl1 : ∀ M, lenA EE.P 46 v M = some (In I.length) := fun M => h.sl.lenA und_46
  simp only [f26, enumV, w26, W_seq, w26_0, Nat.le_refl, X_assign, ev_const, Nat.reduceLT, T_set, X_nil, thenQ_normal, w26_1, Mem.next_bump, Nat.le_add_right, bump_bump, Nat.reduceAdd, w26_2, W_block, w26_17, true_and]
  refine WX.loop_of (fun y t M => ∃ (i : Nat) (u : Value), i ≤ I.length ∧ y = I.length - i ∧ t = T 59 [(4, In i), (3, u), (0, PT b)] ∧ NewL m M u (allI (I.take i))) ?_ (k := I.length) (t1 := T 59 [(4, In (0 : Nat)), (3, .slice none 0 0), (0, PT b)]) (View.temps ⟨rfl, rfl, rfl, trivial⟩) ⟨0, _, by omega, rfl, rfl, SlV.nil, (Nx.refl hm).bump _, fun y hy => by cases hy⟩
  rintro y t M ⟨i, u, hi, rfl, rfl, hL⟩
  have hnx := hL.nx.next
  have r1 : M.get b = some (.cells cs true 0) := hL.nx.keep hm a1
  by_cases hi2 : ¬ i < I.length
  · have q1 : ¬ (i : Int) < (I.length : Int) := by omega
    rw [List.take_of_length_le (by omega)] at hL
    simp only [w26_16, W_seq, w26_3, hnx, X_move, Nat.reduceLT, ev_T, lk_cons, Nat.reduceEqDiff, if_false, if_true, T_set, X_nilCheck EE_sym, nilV_ptr, okI_some, X_fieldAddr EE_sym fo_48_1, offV_ptr, Nat.zero_add, X_load EE_sym, load1 lay_46, Mem.get_bump, r1, ld1_cells, a4, X_len EE_sym, hl1, X_bin EE_sym (op := .lss) rfl, bin_lss, q1, decide_false, X_nil, thenQ_normal, W_cond, CDi_f, W_exit, thenQ_exit, roundQ_exit, blockQ_exit, w26_18, Mem.next_bump, Nat.le_add_right_of_le, bump_bump, Nat.reduceAdd, X_assign, W_ret, FinX_ret, resA_tmp, T_get, resA_nil, Option.map_some, oneOr1, true_and]
    exact (hL.bump _).nx.raw (hL.bump _)
  have hi2 : i < I.length := by omega
  have q1 : (i : Int) < (I.length : Int) := by omega
  have q2 : (0 : Int) ≤ i := by omega
  have hw : IntKind.i64.wrap ((i : Int) + 1) = ((i + 1 : Nat) : Int) := by rw [wrap_i64 (by omega) (by omega)]; omega
  obtain ⟨B, cc, cB, rfl, k1, k2, k3⟩ := h.cells (by omega)
  obtain ⟨g1, _, _⟩ := k3 i hi2
  have r2 : M.get B = some (.cells cB true 2) := hL.nx.keep hm k1
  have hts : allI (I.take (i + 1)) = ins (I.getD i (0, 0)).1 (allI (I.take i)) := by rw [take_snoc hi2, allI_snoc]
  have hol := allI_len (I := I.take i)
  rw [List.length_take] at hol
  generalize hout : allI (I.take i) = out at hL hts hol
  generalize hp : (I.getD i (0, 0)).1 = p at g1 hts
  have hlu : ∀ M, lenA EE.P 30 u M = some (In out.length) := fun M => hL.sl.lenA und_30
  simp only [w26_16, W_seq, w26_3, hnx, X_move, Nat.reduceLT, ev_T, lk_cons, Nat.reduceEqDiff, if_false, if_true, T_set, X_nilCheck EE_sym, nilV_ptr, okI_some, X_fieldAddr EE_sym fo_48_1, offV_ptr, Nat.zero_add, X_load EE_sym, load1 lay_46, Mem.get_bump, r1, ld1_cells, a4, X_len EE_sym, len_slice und_46, X_bin EE_sym (op := .lss) rfl, bin_lss, q1, decide_true, X_nil, thenQ_normal, W_cond, CDi_t, W_skip, W_block, w26_14, w26_4, Mem.next_bump, Nat.le_add_right_of_le, bump_bump, Nat.reduceAdd, X_assign, ev_const, w26_9, true_and]
  refine WX.loop_of (fun y t M' => ∃ at_ j : Nat, at_ ≤ out.length ∧ y = out.length - at_ ∧ t = T 59 [(5, In at_), (4, In i), (3, u), (0, PT b)] ∧ M' = M.bump j ∧ ∀ j, j < at_ → out.getD j 0 < p) ?_ (k := out.length) (t1 := T 59 [(5, In (0 : Nat)), (4, In i), (3, u), (0, PT b)]) (View.temps ⟨rfl, rfl, rfl, rfl, trivial⟩) ⟨0, _, by omega, rfl, rfl, rfl, fun j hj => by omega⟩
  rintro y t M' ⟨at_, j, hat, rfl, rfl, rfl, hbel⟩
  have hwa : IntKind.i64.wrap ((at_ : Int) + 1) = ((at_ + 1 : Nat) : Int) := by rw [wrap_i64 (by omega) (by omega)]; omega
  have q3 : (0 : Int) ≤ at_ := by omega
  by_cases hgo : at_ < out.length ∧ out.getD at_ 0 < p
  · obtain ⟨hgo, hlt⟩ := hgo
    have d1 : decide ((at_ : Int) < (out.length : Int)) = true := decide_eq_true (by omega)
    have d2 : decide (out.getD at_ 0 < p) = true := decide_eq_true hlt
    obtain ⟨B2, c2, cB2, rfl, j1, j2, j3, j4⟩ := hL.sl.cons (by omega)
    have q4 : cB2.nth at_ = some (In (out.getD at_ 0)) := by rw [nth_lt (by omega), j4 at_ (by simpa using hgo), il_getD hgo]
    have q5 : (at_ : Int) < (out.length : Int) := by omega
    simp only [w26_8, W_seq, w26_5, Mem.next_bump, hnx, Nat.le_add_right_of_le, bump_bump, X_move, Nat.reduceLT, ev_T, lk_cons, Nat.reduceEqDiff, if_false, if_true, T_set, X_len EE_sym, len_slice und_30, okI_some, X_bin EE_sym (op := .lss) rfl, bin_lss, q5, decide_true, X_guard EE_sym, T_get, GDi_tt, X_indexAddr EE_sym, q3, idxV_slice und_30 sz_3, Int.toNat_natCast, Nat.mul_one, Nat.zero_add, X_load EE_sym, load1 lay_3, Mem.get_bump, j1, ld1_cells, q4, X_nilCheck EE_sym, nilV_ptr, X_fieldAddr EE_sym fo_48_1, offV_ptr, load1 lay_46, r1, a4, q2, q1, idxV_slice und_46 sz_72, X_fieldAddr EE_sym fo_72_0, Nat.add_zero, r2, g1, d2, X_pick EE_sym, ev_const, pickV_bool, X_nil, thenQ_normal, W_cond, CDi_t, W_skip, W_block, w26_7, w26_6, Nat.add_assoc, Nat.reduceAdd, X_bin EE_sym (op := .add) rfl, bin_add, hwa, X_assign, blockQ_normal, roundQ_normal, true_and]
    refine ⟨out.length - (at_ + 1), _, _, by omega, View.temps (l' := [(5, In ((at_ + 1 : Nat) : Int)), (4, In i), (3, .slice (some ⟨B2, 0, none⟩) out.length c2), (0, PT b)]) ⟨rfl, rfl, rfl, rfl, trivial⟩, at_ + 1, _, by omega, rfl, rfl, rfl, fun j hj => ?_⟩
    by_cases e : j = at_
    · rw [e]; exact hlt
    · exact hbel j (by omega)
  have hins := ins_at (x := p) hat hbel fun h1 h2 => hgo ⟨h1, h2⟩
  obtain ⟨w1, sl1, src1⟩ := sl_pre (i := at_) hL.sl hat
  obtain ⟨w2, sl2, src2⟩ := sl_suf (i := at_) hL.sl hat
  rw [hins] at hts
  by_cases hend : at_ < out.length
  · have d1 : decide ((at_ : Int) < (out.length : Int)) = true := decide_eq_true (by omega)
    have d2 : decide (out.getD at_ 0 < p) = false := decide_eq_false fun e => hgo ⟨hend, e⟩
    obtain ⟨B2, c2, cB2, rfl, j1, j2, j3, j4⟩ := hL.sl.cons (by omega)
    have q4 : cB2.nth at_ = some (In (out.getD at_ 0)) := by rw [nth_lt (by omega), j4 at_ (by simpa using hend), il_getD hend]
    have q5 : (at_ : Int) < (out.length : Int) := by omega
    simp only [w26_8, W_seq, w26_5, Mem.next_bump, hnx, Nat.le_add_right_of_le, bump_bump, X_move, Nat.reduceLT, ev_T, lk_cons, Nat.reduceEqDiff, if_false, if_true, T_set, X_len EE_sym, len_slice und_30, okI_some, X_bin EE_sym (op := .lss) rfl, bin_lss, q5, decide_true, X_guard EE_sym, T_get, GDi_tt, X_indexAddr EE_sym, q3, idxV_slice und_30 sz_3, Int.toNat_natCast, Nat.mul_one, Nat.zero_add, X_load EE_sym, load1 lay_3, Mem.get_bump, j1, ld1_cells, q4, X_nilCheck EE_sym, nilV_ptr, X_fieldAddr EE_sym fo_48_1, offV_ptr, load1 lay_46, r1, a4, q2, q1, idxV_slice und_46 sz_72, X_fieldAddr EE_sym fo_72_0, Nat.add_zero, r2, g1, d2, X_pick EE_sym, ev_const, pickV_bool, X_nil, thenQ_normal, W_cond, CDi_f, W_exit, thenQ_exit, roundQ_exit, blockQ_exit, w26_10, Nat.add_assoc, Nat.reduceAdd, X_assign, w26_11, X_slice EE_sym, Option.map_none, Option.map_some, sl1, X_append, true_and]
    have bs1 : bsV EE.P 30 1 [(0, In p)] = some ([In p], 1) := by kernel_rfl
    have hMf := hL.nx.fresh
    have htl : (out.take at_).length = at_ := by rw [List.length_take]; omega
    refine app_full (l := []) (w := out.take at_) SlV.nil (fun a c e => by cases e; rfl) (by rw [htl]; exact src1 _ fun _ _ => rfl) (by rw [htl]; simp; omega) fun v1 M1 s1 f1 b1 n1 o1 w1' => ?_
    rw [List.nil_append] at s1 f1
    rw [Mem.next_bump] at n1
    have nn1 : m.next ≤ M1.next := by omega
    have hv1 : ∀ y, slB v1 = some y → M.next ≤ y ∧ y < M1.next := fun y hy => by
      rcases b1 with h1 | h1
      · rw [h1] at hy; cases hy
      · rw [h1] at hy; cases hy; omega
    have old1 : ∀ y, y < M.next → M1.get y = M.get y := fun y hy => o1 y (by omega) (by simp [slB])
    have r1b : M1.get b = some (.cells cs true 0) := by rw [old1 b (hMf.lt r1), r1]
    have r2b : M1.get B = some (.cells cB true 2) := by rw [old1 B (hMf.lt r2), r2]
    simp only [Nat.reduceLT, T_set, X_assign, ev_T, lk_cons, Nat.reduceEqDiff, if_false, if_true, X_nil, thenQ_normal, W_seq, w26_12, nn1, X_move, X_nilCheck EE_sym, nilV_ptr, okI_some, X_fieldAddr EE_sym fo_48_1, offV_ptr, Nat.zero_add, X_load EE_sym, load1 lay_46, Mem.get_bump, r1b, ld1_cells, a4, X_indexAddr EE_sym, q2, q1, idxV_slice und_46 sz_72, Int.toNat_natCast, X_fieldAddr EE_sym fo_72_0, Nat.add_zero, load1 lay_3, r2b, g1, X_bs, List.map_cons, List.map_nil, bs1, put_bump, X_append, true_and]
    refine app_full (w := [p]) (s1.keep fun y o hy ho => by
      have := hv1 y hy
      rw [Mem.get_bump, Mem.get_put, if_neg (by omega), ho]) f1 (by rw [src_at, Mem.get_bump, Mem.get_put, if_pos rfl, srcC_cells, sub_ofList (by simp)]; rfl) (by rw [htl]; simp; omega) fun v2 M2 s2 f2 b2 n2 o2 w2' => ?_
    rw [Mem.next_bump, Mem.next_put] at n2
    have nn2 : m.next ≤ M2.next := by omega
    have hv2 : ∀ y, slB v2 = some y → M.next ≤ y ∧ y < M2.next := fun y hy => by
      rcases b2 with h1 | h1
      · rw [h1] at hy; have := hv1 y hy; omega
      · rw [h1] at hy; cases hy; omega
    have old2 : ∀ y, y < M.next → M2.get y = M.get y := fun y hy => by
      rw [o2 y (by omega) (fun e => by have := hv1 y e; omega), Mem.get_bump, Mem.get_put, if_neg (by omega), old1 y hy]
    simp only [Nat.reduceLT, T_set, X_assign, ev_T, lk_cons, Nat.reduceEqDiff, if_false, if_true, X_nil, thenQ_normal, w26_13, nn2, X_move, X_slice EE_sym, Option.map_some, Option.map_none, sl2, okI_some, X_append, true_and]
    refine app_full (w := out.drop at_) (s2.bump _) f2 (by rw [List.length_drop]; exact src2 _ fun y hy => by rw [Mem.get_bump, old2 y (hL.sl.lt hMf hy)]) (by rw [List.length_append, htl, List.length_drop]; simp; omega) fun v3 M3 s3 f3 b3 n3 o3 w3' => ?_
    rw [Mem.next_bump] at n3
    have nn3 : m.next ≤ M3.next := by omega
    have hv3 : ∀ y, slB v3 = some y → M.next ≤ y := fun y hy => by
      rcases b3 with h1 | h1
      · rw [h1] at hy; exact (hv2 y hy).1
      · rw [h1] at hy; cases hy; omega
    have old3 : ∀ y, y < M.next → M3.get y = M.get y := fun y hy => by
      rw [o3 y (by omega) (fun e => by have := hv2 y e; omega), Mem.get_bump, old2 y hy]
    simp only [Nat.reduceLT, T_set, X_assign, ev_T, lk_cons, Nat.reduceEqDiff, if_false, if_true, X_nil, blockQ_normal, thenQ_normal, w26_15, nn3, X_move, X_bin EE_sym (op := .add) rfl, ev_const, bin_add, hw, okI_some, roundQ_normal, true_and]
    refine ⟨I.length - (i + 1), _, _, by omega, View.temps (l' := [(4, In ((i + 1 : Nat) : Int)), (3, v3), (0, PT b)]) ⟨rfl, rfl, rfl, trivial⟩, i + 1, v3, by omega, rfl, rfl, ?_⟩
    rw [hts]
    refine NewL.bump ⟨s3, ⟨nn3, Fresh.of_low (by have := hm.n64; omega) fun y hy => w3' y (by omega) ?_, fun y hy => by rw [old3 y (by omega), hL.nx.old y hy]⟩, fun y hy => Nat.le_trans hnx (hv3 y hy)⟩ _
    exact w2' y (by omega) (by rw [Mem.get_bump, Mem.get_put, if_neg (by omega)]; exact w1' y (by omega) (hMf.none y (by omega)))
  · have d1 : decide ((at_ : Int) < (out.length : Int)) = false := decide_eq_false (by omega)
    simp only [w26_8, W_seq, w26_5, Mem.next_bump, hnx, Nat.le_add_right_of_le, bump_bump, X_move, Nat.reduceLT, ev_T, lk_cons, Nat.reduceEqDiff, if_false, if_true, T_set, X_len EE_sym, hlu, okI_some, X_bin EE_sym (op := .lss) rfl, bin_lss, d1, X_guard EE_sym, T_get, GDi_ft, putT, X_pick EE_sym, ev_const, pickV_bool, Bool.false_eq_true, X_nil, thenQ_normal, W_cond, CDi_f, W_exit, thenQ_exit, roundQ_exit, blockQ_exit, w26_10, Nat.add_assoc, Nat.reduceAdd, X_assign, w26_11, X_slice EE_sym, Option.map_none, Option.map_some, sl1, X_append, true_and]
    have bs1 : bsV EE.P 30 1 [(0, In p)] = some ([In p], 1) := by kernel_rfl
    have hMf := hL.nx.fresh
    have htl : (out.take at_).length = at_ := by rw [List.length_take]; omega
    refine app_full (l := []) (w := out.take at_) SlV.nil (fun a c e => by cases e; rfl) (by rw [htl]; exact src1 _ fun _ _ => rfl) (by rw [htl]; simp; omega) fun v1 M1 s1 f1 b1 n1 o1 w1' => ?_
    rw [List.nil_append] at s1 f1
    rw [Mem.next_bump] at n1
    have nn1 : m.next ≤ M1.next := by omega
    have hv1 : ∀ y, slB v1 = some y → M.next ≤ y ∧ y < M1.next := fun y hy => by
      rcases b1 with h1 | h1
      · rw [h1] at hy; cases hy
      · rw [h1] at hy; cases hy; omega
    have old1 : ∀ y, y < M.next → M1.get y = M.get y := fun y hy => o1 y (by omega) (by simp [slB])
    have r1b : M1.get b = some (.cells cs true 0) := by rw [old1 b (hMf.lt r1), r1]
    have r2b : M1.get B = some (.cells cB true 2) := by rw [old1 B (hMf.lt r2), r2]
    simp only [Nat.reduceLT, T_set, X_assign, ev_T, lk_cons, Nat.reduceEqDiff, if_false, if_true, X_nil, thenQ_normal, W_seq, w26_12, nn1, X_move, X_nilCheck EE_sym, nilV_ptr, okI_some, X_fieldAddr EE_sym fo_48_1, offV_ptr, Nat.zero_add, X_load EE_sym, load1 lay_46, Mem.get_bump, r1b, ld1_cells, a4, X_indexAddr EE_sym, q2, q1, idxV_slice und_46 sz_72, Int.toNat_natCast, X_fieldAddr EE_sym fo_72_0, Nat.add_zero, load1 lay_3, r2b, g1, X_bs, List.map_cons, List.map_nil, bs1, put_bump, X_append, true_and]
    refine app_full (w := [p]) (s1.keep fun y o hy ho => by
      have := hv1 y hy
      rw [Mem.get_bump, Mem.get_put, if_neg (by omega), ho]) f1 (by rw [src_at, Mem.get_bump, Mem.get_put, if_pos rfl, srcC_cells, sub_ofList (by simp)]; rfl) (by rw [htl]; simp; omega) fun v2 M2 s2 f2 b2 n2 o2 w2' => ?_
    rw [Mem.next_bump, Mem.next_put] at n2
    have nn2 : m.next ≤ M2.next := by omega
    have hv2 : ∀ y, slB v2 = some y → M.next ≤ y ∧ y < M2.next := fun y hy => by
      rcases b2 with h1 | h1
      · rw [h1] at hy; have := hv1 y hy; omega
      · rw [h1] at hy; cases hy; omega
    have old2 : ∀ y, y < M.next → M2.get y = M.get y := fun y hy => by
      rw [o2 y (by omega) (fun e => by have := hv1 y e; omega), Mem.get_bump, Mem.get_put, if_neg (by omega), old1 y hy]
    simp only [Nat.reduceLT, T_set, X_assign, ev_T, lk_cons, Nat.reduceEqDiff, if_false, if_true, X_nil, thenQ_normal, w26_13, nn2, X_move, X_slice EE_sym, Option.map_some, Option.map_none, sl2, okI_some, X_append, true_and]
    refine app_full (w := out.drop at_) (s2.bump _) f2 (by rw [List.length_drop]; exact src2 _ fun y hy => by rw [Mem.get_bump, old2 y (hL.sl.lt hMf hy)]) (by rw [List.length_append, htl, List.length_drop]; simp; omega) fun v3 M3 s3 f3 b3 n3 o3 w3' => ?_
    rw [Mem.next_bump] at n3
    have nn3 : m.next ≤ M3.next := by omega
    have hv3 : ∀ y, slB v3 = some y → M.next ≤ y := fun y hy => by
      rcases b3 with h1 | h1
      · rw [h1] at hy; exact (hv2 y hy).1
      · rw [h1] at hy; cases hy; omega
    have old3 : ∀ y, y < M.next → M3.get y = M.get y := fun y hy => by
      rw [o3 y (by omega) (fun e => by have := hv2 y e; omega), Mem.get_bump, old2 y hy]
    simp only [Nat.reduceLT, T_set, X_assign, ev_T, lk_cons, Nat.reduceEqDiff, if_false, if_true, X_nil, blockQ_normal, thenQ_normal, w26_15, nn3, X_move, X_bin EE_sym (op := .add) rfl, ev_const, bin_add, hw, okI_some, roundQ_normal, true_and]
    refine ⟨I.length - (i + 1), _, _, by omega, View.temps (l' := [(4, In ((i + 1 : Nat) : Int)), (3, v3), (0, PT b)]) ⟨rfl, rfl, rfl, trivial⟩, i + 1, v3, by omega, rfl, rfl, ?_⟩
    rw [hts]
    refine NewL.bump ⟨s3, ⟨nn3, Fresh.of_low (by have := hm.n64; omega) fun y hy => w3' y (by omega) ?_, fun y hy => by rw [old3 y (by omega), hL.nx.old y hy]⟩, fun y hy => Nat.le_trans hnx (hv3 y hy)⟩ _
    exact w2' y (by omega) (by rw [Mem.get_bump, Mem.get_put, if_neg (by omega)]; exact w1' y (by omega) (hMf.none y (by omega)))
end
end
end Go.Ab
/- Queue: what a call comes to, as the law of one queue at most needs it. -/
namespace Go.Ab
open Go.Proofs
noncomputable section
set_option maxHeartbeats 8000000
set_option maxRecDepth 10000
/-- What one call comes to: for the one pid by its mask; for all others nothing comes to be in. -/
structure Stp (c n : Nat) (l : Nat → List Int) (x : Int) (a : BitVec 32) (e : Int) (l' : Nat → List Int) : Prop where
  dq : Dq c l' (n + 1)
  oth : ∀ k y, k < c → y ∈ l' k → y ≠ x → y ∈ l k
  yes : e = 0 → ∀ k, k < c → x ∈ l' k → mb a k = true
  no : e ≠ 0 → ∀ k, k < c → x ∈ l' k → x ∈ l k
section
variable {c n : Nat} {l : Nat → List Int} {x e : Int} {a : BitVec 32}
theorem Stp.same (hD : Dq c l n) (he : e ≠ 0) : Stp c n l x a e l := ⟨hD.mono (by omega), fun _ _ _ h _ => h, fun h => absurd h he, fun _ _ _ h => h⟩
theorem Stp.sub {l' : Nat → List Int} (hD : Dq c l' n) (he : e ≠ 0) (hs : ∀ k y, k < c → y ∈ l' k → y ∈ l k) : Stp c n l x a e l' := ⟨hD.mono (by omega), fun k y hk h _ => hs k y hk h, fun h => absurd h he, fun _ k hk h => hs k x hk h⟩
theorem Placed.stp {r : Int} {l' : Nat → List Int} (h : Placed c l x a r e l') (hD : Dq c l n) (hc : c ≤ 8) : Stp c n l x a e l' := by
  have hdq := h.dq hD hc
  rcases h with ⟨he, _, f, h1, _, h3, rfl, h2⟩ | ⟨he, rfl⟩
  · refine ⟨hdq, fun k y hk hy hne => ?_, fun _ k hk hy => ?_, fun h => absurd he h⟩
    · unfold updL at hy
      split at hy
      · rename_i e; subst e
        rcases List.mem_append.1 hy with hy | hy
        · exact hy
        · rw [List.mem_singleton] at hy; exact absurd hy hne
      · exact hy
    · unfold updL at hy
      split at hy
      · rename_i e; subst e; exact h3
      · exact absurd hy (h2 k hk)
  · exact Stp.same hD he
theorem Stp.push {l1 : Nat → List Int} {f : Nat} (hD : Dq c l1 n) (hc : c ≤ 8) (hf : f < c) (hx : ∀ j, j < c → x ∉ l1 j) (hs : ∀ k y, k < c → y ∈ l1 k → y ∈ l k) (hb : mb a f = true) : Stp c n l x a 0 (updL l1 f (l1 f ++ [x])) := by
  refine ⟨hD.push hf hc hx, fun k y hk hy hne => ?_, fun _ k hk hy => ?_, fun h => absurd rfl h⟩
  · unfold updL at hy
    split at hy
    · rename_i e; subst e
      rcases List.mem_append.1 hy with hy | hy
      · exact hs _ _ hk hy
      · rw [List.mem_singleton] at hy; exact absurd hy hne
    · exact hs _ _ hk hy
  · unfold updL at hy
    split at hy
    · rename_i e; subst e; exact hb
    · exact absurd hy (hx k hk)
theorem upd_mem {w : Nat} {r : List Int} (h : ∀ y, y ∈ r → y ∈ l w) : ∀ k y, k < c → y ∈ updL l w r k → y ∈ l k := fun k y _ hy => by
  unfold updL at hy
  split at hy
  · rename_i e; subst e; exact h y hy
  · exact hy
end
section
variable {M : Mem} {q c n : Nat} {l : Nat → List Int} {W : Nat → Prop} {a : BitVec 32} {x k : Int}
theorem Qs.less {W' : Nat → Prop} (h : Qs M q c l W) (hw : ∀ y, W' y → W y) : Qs M q c l W' := by
  obtain ⟨O, sl, cs, h1, h2⟩ := h.at_
  exact ⟨h.fresh, fun y hy => h.wlt y (hw y hy), O, sl, cs, h1, fun y hy => ⟨(h2 y hy).1, fun e => (h2 y hy).2 (hw y e)⟩⟩
/-- What stays may be written. -/
theorem Qs.put (h : Qs M q c l W) {y : Nat} {o : AObj} (hy : W y) : Qs (M.put y o) q c l W := by
  obtain ⟨O, sl, cs, h1, h2⟩ := h.at_
  refine ⟨Fresh.of_low (by have := h.fresh.n64; rw [Mem.next_put]; exact this) (Low.put (fun z hz => by rw [Mem.next_put] at hz; exact h.fresh.none z hz) (by rw [Mem.next_put]; exact h.wlt y hy)), fun z hz => by rw [Mem.next_put]; exact h.wlt z hz, O, sl, cs, h1.keep fun z o' hz ho => ?_, fun z hz => by rw [Mem.next_put]; exact h2 z hz⟩
  rw [Mem.get_put, if_neg (show ¬ z = y from fun e => (h2 z hz).2 (e ▸ hy))]
  exact ho
theorem Qs.move_any (h : Qs M q c l W) (hD : Dq c l n) (hc : c ≤ 8) (hs : Sh l) : ∃ v M', Con EE.P 12 [PT q, In x, Um a] M v M' ∧ ∃ r e l', v = .tuple [In r, In e].toArray ∧ Qs M' q c l' W ∧ Wx W M M' ∧ Stp c n l x a e l' := by
  by_cases hw : whQ c l x < 0 ∨ fewTo l a c < 0
  · exact ⟨_, M, h.move_not hs hw, 0, 130, l, rfl, h, Wx.refl, Stp.same hD (by decide)⟩
  have h1 : 0 ≤ whQ c l x := by omega
  have h2 : 0 ≤ fewTo l a c := by omega
  obtain ⟨w, hw1, hw2, hw3⟩ := wh_at h1
  by_cases hb : mb a w = true
  · refine ⟨_, M, h.move_in hs hw3 h2 hb, w, 0, l, rfl, h, Wx.refl, hD.mono (by omega), fun _ _ _ h _ => h, fun _ k hk hx => ?_, fun h => absurd rfl h⟩
    by_cases e : k = w
    · rw [e]; exact hb
    · exact absurd hw2 (hD.dis k w hk hw1 e x hx)
  obtain ⟨ix, x1, x2, x3⟩ := idx_in hw2
  have he := erase_at (i := 0) (j := ix) (show idxFrom x (l w) 0 = ((0 + ix : Nat) : Int) by rw [Nat.zero_add]; exact x2)
  obtain ⟨v, M', hc', hv, hQ, hW⟩ := h.move_to hs (by omega) hw3 x1 x2 h2 (by simpa using hb)
  obtain ⟨hD', hnot, htot⟩ := hD.erase hw1 hc hw2
  have hf := (few_iff (l' := updL l w ((l w).eraseIdx ix))).1 h2
  refine ⟨v, M', hc', _, 0, _, hv, hQ, hW, ?_⟩
  unfold moveL
  rw [he] at hf ⊢
  exact Stp.push hD' hc (by have := (fewTo_lt (l := updL l w ((l w).erase x)) (a := a) (n := c)).2; omega) hnot (upd_mem fun y hy => List.mem_of_mem_erase hy) (few_mb hf)
theorem Qs.cut_any (h : Qs M q c l W) (hD : Dq c l n) (hc : c ≤ 8) (hs : Sh l) : ∃ v M', Con EE.P 18 [PT q, In x] M v M' ∧ ∃ b l', v = .bool b ∧ Qs M' q c l' W ∧ Wx W M M' ∧ Stp c n l x a 2 l' := by
  by_cases hw : whQ c l x < 0
  · exact ⟨_, M, h.cut_no hs hw, false, l, rfl, h, Wx.refl, Stp.same hD (by decide)⟩
  have h1 : 0 ≤ whQ c l x := by omega
  obtain ⟨w, hw1, hw2, hw3⟩ := wh_at h1
  obtain ⟨ix, x1, x2, x3⟩ := idx_in hw2
  have he := erase_at (i := 0) (j := ix) (show idxFrom x (l w) 0 = ((0 + ix : Nat) : Int) by rw [Nat.zero_add]; exact x2)
  obtain ⟨v, M', hc', hv, hQ, hW⟩ := h.cut hs (by omega) hw3 x1 x2
  obtain ⟨hD', hnot, htot⟩ := hD.erase hw1 hc hw2
  rw [he] at hQ
  exact ⟨v, M', hc', true, _, hv, hQ, hW, Stp.sub hD' (by decide) (upd_mem fun y hy => List.mem_of_mem_erase hy)⟩
theorem Qs.rot_any (h : Qs M q c l W) (hD : Dq c l n) (hc : c ≤ 8) (hs : Sh l) : ∃ v M', Con EE.P 14 [PT q, In k] M v M' ∧ ∃ b l', v = .bool b ∧ Qs M' q c l' W ∧ Wx W M M' ∧ Stp c n l x a 2 l' := by
  by_cases hw : ¬ (0 ≤ k ∧ k < c) ∨ (l k.toNat).length < 2
  · exact ⟨_, M, h.rot_no hw, false, l, rfl, h, Wx.refl, Stp.same hD (by decide)⟩
  obtain ⟨k', rfl⟩ : ∃ k' : Nat, k = k' := ⟨k.toNat, by omega⟩
  rw [Int.toNat_natCast] at hw
  have hk : k' < c := by omega
  have hl : 2 ≤ (l k').length := by omega
  obtain ⟨v, M', hc', hv, hQ, hW⟩ := h.rot hk hl (hs k')
  have hp : ((l k').drop 1 ++ [(l k').getD 0 0]).Perm (l k') := by
    have e : l k' = (l k')[0] :: (l k').drop 1 := by
      have := List.drop_eq_getElem_cons (show 0 < (l k').length by omega)
      simpa using this
    have e2 : (l k').getD 0 0 = (l k')[0] := by rw [List.getD_eq_getElem?_getD, List.getElem?_eq_getElem (by omega)]; rfl
    rw [e2]
    refine (List.perm_append_comm).trans ?_
    show ((l k')[0] :: (l k').drop 1).Perm (l k')
    rw [← e]
  exact ⟨v, M', hc', true, _, hv, hQ, hW, Stp.sub (hD.perm hk hc hp) (by decide) (upd_mem fun y hy => hp.mem_iff.1 hy)⟩
end
/-- The masks by which they are where they are. -/
def Msk (c : Nat) (l : Nat → List Int) (mk : Nat → BitVec 32) : Prop := ∀ k, k < c → ∀ p : Nat, 0 < p → p < 100 → (p : Int) ∈ l k → mb (mk p) k = true
theorem Stp.msk {c n : Nat} {l l' : Nat → List Int} {x e : Int} {a : BitVec 32} {mk mk' : Nat → BitVec 32} (h : Stp c n l x a e l') (hM : Msk c l mk) (hx : e = 0 → 0 ≤ x → x < 100 → mk' x.toNat = a) (ho : ∀ p : Nat, p < 100 → (e = 0 → (p : Int) ≠ x) → mk' p = mk p) : Msk c l' mk' := fun k hk p h1 h2 hp => by
  by_cases hpx : (p : Int) = x
  · by_cases he : e = 0
    · have : p = x.toNat := by omega
      rw [this, hx he (by omega) (by omega)]
      exact h.yes he k hk (hpx ▸ hp)
    · rw [ho p h2 fun e => absurd e he]
      exact hM k hk p h1 h2 (hpx ▸ h.no he k hk (hpx ▸ hp))
  · rw [ho p h2 fun _ => hpx]
    exact hM k hk p h1 h2 (h.oth k p hk hp hpx)
end
end Go.Ab
