/- Sleep: the document's sleepers: Left, Drop, Next. -/
import Derived.Test.YtojfkjjacaellaaSmI
import Derived.Test.YtojfkjjacaellaaSmHV
import Derived.Test.YtojfkjjacaellaaSmA57
namespace Go.Ab
open Go.Proofs
noncomputable section
set_option maxHeartbeats 4000000
set_option maxRecDepth 10000
/-- The document's sleepers, where they lie. -/
structure DAt (m : Mem) (w : Nat) (vw : Value) (R : SL) : Prop where
  at_ : ∃ cs, m.get w = some (.cells cs true 0) ∧ cs.n = 1 ∧ cs.nth 0 = some vw
  sl : SlV m 2 vw R.length (pl R)
/-- What is written: the struct, and new blocks. -/
structure FrD (m m' : Mem) (w : Nat) (vw vw' : Value) : Prop where
  next : m.next ≤ m'.next
  fresh : Fresh m'
  old : ∀ y, y < m.next → y ≠ w → m'.get y = m.get y
  vn : ∀ y, slB vw' = some y → m.next ≤ y ∨ slB vw = some y
  low : ∀ y, y < m.next → m.get y = none → m'.get y = none
section
variable {m m' : Mem} {w : Nat} {vw : Value} {R L : SL} {p : Int} {n : BitVec 32}
theorem DAt.keep (h : DAt m w vw R) (hw : m'.get w = m.get w) (hb : ∀ y, slB vw = some y → m'.get y = m.get y) : DAt m' w vw R := by
  obtain ⟨cs, h1, h2⟩ := h.at_
  exact ⟨⟨cs, hw.trans h1, h2⟩, h.sl.keep fun y o hy ho => by rw [hb y hy, ho]⟩
theorem DAt.bump (h : DAt m w vw R) (j : Nat) : DAt (m.bump j) w vw R := h.keep rfl fun _ _ => rfl
theorem DAt.lt (h : DAt m w vw R) (hm : Fresh m) : w < m.next := by
  obtain ⟨cs, h1, _⟩ := h.at_
  exact hm.lt h1
theorem DAt.ltb (h : DAt m w vw R) (hm : Fresh m) {y : Nat} (hy : slB vw = some y) : y < m.next ∧ y ≠ w := by
  obtain ⟨cs, h1, _⟩ := h.at_
  refine ⟨h.sl.lt hm hy, fun e => ?_⟩
  obtain ⟨c2, h2⟩ := h.sl.ob hy
  rw [e, h1] at h2
  cases h2
theorem DAt.nx (h : DAt m w vw R) (hm : Fresh m) (hn : Nx m m') : DAt m' w vw R := h.keep (hn.old w (h.lt hm)) fun y hy => hn.old y (h.ltb hm hy).1
theorem FrD.of_bump {j : Nat} {vw' : Value} (h : FrD (m.bump j) m' w vw vw') : FrD m m' w vw vw' := ⟨by have := h.next; rw [Mem.next_bump] at this; omega, h.fresh, fun y hy => h.old y (by rw [Mem.next_bump]; omega), fun y hy => (h.vn y hy).imp_left fun this => by rw [Mem.next_bump] at this; omega, fun y hy e => h.low y (by rw [Mem.next_bump]; omega) e⟩
theorem FrD.keep (h : DAt m w vw R) (hm : Fresh m) (j : Nat) : FrD m (m.bump j) w vw vw :=
  ⟨by rw [Mem.next_bump]; omega, hm.bump, fun _ _ _ => rfl, fun _ hy => .inr hy, fun _ _ e => e⟩
theorem FrD.raw {vw' u : Value} {S : Value → Mem → Prop} (h : FrD m m' w vw vw') (hS : S u m') : RawE m m' u S := ⟨⟨h.next, h.low⟩, hS⟩
theorem pl_atR {M : Mem} {v : Value} {R : SL} {i : Nat} (h : SlV M 2 v R.length (pl R)) (hi : i < R.length) : ∃ B c cB, v = .slice (some ⟨B, 0, none⟩) R.length c ∧ M.get B = some (.cells cB true 2) ∧ cB.nth (i * 2) = some (In (R.getD i (0, 0)).1) ∧ cB.nth (i * 2 + 1) = some (Um (R.getD i (0, 0)).2) ∧ cB.sub (i * 2) 2 = some [In (R.getD i (0, 0)).1, Um (R.getD i (0, 0)).2] := by
  obtain ⟨B, c, cB, e, k1, _, k3, k4, k5⟩ := pl_at h hi
  exact ⟨B, c, cB, e, k1, k3, k4, k5⟩
theorem left_d (h : DAt m w vw R) (hR : R.length < 1000000) : Con EE.P 22 [PT w, In p] m (.tuple [Um ((mget R p).getD 0), .bool (mget R p).isSome].toArray) m := by
  refine Con.of EE_ok fn22 (Nat.le_of_ble_eq_true rfl) Grow.rfl fun hm => ?_
  obtain ⟨cs, h1, h2, h3⟩ := h.at_
  have hlen : ∀ M, lenA EE.P 34 vw M = some (In R.length) := fun M => h.sl.lenA und_34
  simp only [f22, enumV, Nat.zero_add, w22, W_seq, w22_0, Nat.le_refl, X_assign, ev_const, Nat.reduceLT, T_set, X_nil, thenQ_normal, w22_1, Mem.next_bump, Nat.le_add_right, bump_bump, Nat.reduceAdd, W_block, w22_9, true_and]
  refine WX.loop_of (fun x t M => ∃ i j : Nat, i ≤ R.length ∧ x = R.length - i ∧ t = T 34 [(6, In i), (0, PT w), (1, In p)] ∧ M = m.bump j ∧ ∀ k, k < i → (R.getD k (0, 0)).1 ≠ p) ?_ (k := R.length) (t1 := T 34 [(6, In (0 : Nat)), (0, PT w), (1, In p)]) (View.temps ⟨rfl, rfl, rfl, trivial⟩) ⟨0, _, by omega, rfl, rfl, rfl, fun k hk => absurd hk (Nat.not_lt_zero _)⟩
  rintro x t M ⟨i, j, hi, rfl, rfl, rfl, hno⟩
  by_cases hi2 : i < R.length
  · have q1 : (i : Int) < (R.length : Int) := by omega
    have q2 : (0 : Int) ≤ i := by omega
    have hw : IntKind.i64.wrap ((i : Int) + 1) = ((i + 1 : Nat) : Int) := by rw [wrap_i64 (by omega) (by omega)]; omega
    obtain ⟨B, c, cB, rfl, k1, k3, k4, _⟩ := pl_atR h.sl hi2
    by_cases he : (R.getD i (0, 0)).1 = p
    · have hg := mget_at hi2 hno he
      have d0 := decide_eq_true he
      rw [hg]
      simp only [w22_8, W_seq, w22_2, Mem.next_bump, Nat.le_add_right, bump_bump, X_move, Nat.reduceLT, ev_T, lk_cons, Nat.reduceEqDiff, if_false, if_true, T_set, Nat.one_ne_zero, X_nilCheck EE_sym, nilV_ptr, okI_some, X_fieldAddr EE_sym fo_49_0, offV_ptr, Nat.add_zero, X_load EE_sym, load1 lay_34, Mem.get_bump, h1, ld1_cells, h3, X_len EE_sym, len_slice und_34, X_bin EE_sym (op := .lss) rfl, bin_lss, q1, decide_true, X_nil, ne_eq, Option.getD_some, Option.isSome_some, thenQ_normal, W_cond, CDi_t, W_skip, W_block, w22_6, w22_3, Nat.add_assoc, Nat.reduceAdd, X_indexAddr EE_sym, q2, idxV_slice und_34 sz_44, Int.toNat_natCast, Nat.zero_add, X_fieldAddr EE_sym fo_44_0, load1 lay_3, k1, k3, X_eql EE_sym, eq_int, d0, w22_5, w22_4, X_fieldAddr EE_sym fo_44_1, load1 lay_30, k4, X_assign, ev_const, W_ret, blockQ_ret, thenQ_ret, roundQ_ret, FinC_ret, resA_tmp, T_get, resA_nil, Option.map_some, oneOr2, true_and]
      exact TidyE.pure rfl fun _ _ => rfl
    · have d0 := decide_eq_false he
      simp only [w22_8, W_seq, w22_2, Mem.next_bump, Nat.le_add_right, bump_bump, X_move, Nat.reduceLT, ev_T, lk_cons, Nat.reduceEqDiff, if_false, if_true, T_set, Nat.one_ne_zero, X_nilCheck EE_sym, nilV_ptr, okI_some, X_fieldAddr EE_sym fo_49_0, offV_ptr, Nat.add_zero, X_load EE_sym, load1 lay_34, Mem.get_bump, h1, ld1_cells, h3, X_len EE_sym, len_slice und_34, X_bin EE_sym (op := .lss) rfl, bin_lss, q1, decide_true, X_nil, ne_eq, thenQ_normal, W_cond, CDi_t, W_skip, W_block, w22_6, w22_3, Nat.add_assoc, Nat.reduceAdd, X_indexAddr EE_sym, q2, idxV_slice und_34 sz_44, Int.toNat_natCast, Nat.zero_add, X_fieldAddr EE_sym fo_44_0, load1 lay_3, k1, k3, X_eql EE_sym, eq_int, d0, CDi_f, blockQ_normal, w22_7, X_bin EE_sym (op := .add) rfl, ev_const, bin_add, hw, X_assign, roundQ_normal, true_and]
      refine ⟨R.length - (i + 1), _, _, by omega, View.temps (l' := [(6, In ((i + 1 : Nat) : Int)), (0, PT w), (1, In p)]) ⟨rfl, rfl, rfl, trivial⟩, i + 1, _, by omega, rfl, rfl, rfl, fun k hk => ?_⟩
      by_cases e : k = i
      · rw [e]; exact he
      · exact hno k (by omega)
  · obtain rfl : i = R.length := by omega
    have q1 : ¬ (R.length : Int) < (R.length : Int) := by omega
    rw [mget_no hno]
    simp only [w22_8, W_seq, w22_2, Mem.next_bump, Nat.le_add_right, bump_bump, X_move, Nat.reduceLT, ev_T, lk_cons, Nat.reduceEqDiff, if_false, if_true, T_set, Nat.one_ne_zero, X_nilCheck EE_sym, nilV_ptr, okI_some, X_fieldAddr EE_sym fo_49_0, offV_ptr, Nat.add_zero, X_load EE_sym, load1 lay_34, Mem.get_bump, h1, ld1_cells, h3, X_len EE_sym, hlen, X_bin EE_sym (op := .lss) rfl, bin_lss, q1, decide_false, X_nil, ne_eq, thenQ_normal, W_cond, CDi_f, W_exit, thenQ_exit, roundQ_exit, blockQ_exit, w22_10, Nat.add_assoc, Nat.reduceAdd, X_assign, ev_const, W_ret, FinC_ret, resA_tmp, T_get, resA_nil, Option.map_some, oneOr2, true_and]
    exact TidyE.pure rfl fun _ _ => rfl
/-- The struct is written. -/
theorem FrD.wr {M : Mem} {u : Value} {k : Nat} {fl : List Value} {cs : Cells} {j : Nat} (hm : Fresh m) (hw : w < m.next) (hwg : m.get w = some (.cells cs true 0)) (hn : NewV m M 2 u k fl) : FrD m ((M.put w (.cells (cs.write 0 [u]) true 0)).bump j) w vw u := by
  have n1 := hn.nx.next
  refine ⟨by simp only [Mem.next_bump, Mem.next_put]; omega, Fresh.of_low (by have := hm.n64; simp only [Mem.next_bump, Mem.next_put]; omega) (Low.up (Low.bump (Low.put hn.nx.fresh.none (by omega))) (by simp only [Mem.next_bump, Mem.next_put]; omega)), fun y hy y1 => ?_, fun y hy => .inl (hn.new y hy), fun y hy e => ?_⟩
  · simp only [Mem.get_bump, Mem.get_put, y1, if_false]
    exact hn.nx.old y hy
  · have y1 : ¬ y = w := fun e2 => by rw [e2, hwg] at e; cases e
    simp only [Mem.get_bump, Mem.get_put, y1, if_false]
    rw [hn.nx.old y hy, e]
theorem DAt.wr {M : Mem} {u : Value} {cs : Cells} {j : Nat} {R' : SL} (hw : w < m.next) (hcs : cs.n = 1) (hn : NewV m M 2 u R'.length (pl R')) : DAt ((M.put w (.cells (cs.write 0 [u]) true 0)).bump j) w u R' := by
  refine ⟨⟨_, by simp only [Mem.get_bump, Mem.get_put, if_true]; rfl, by rw [write_n, hcs], nth_write_same (by omega)⟩, hn.sl.keep fun y o hy ho => ?_⟩
  have := hn.new y hy
  have y1 : ¬ y = w := by omega
  simp only [Mem.get_bump, Mem.get_put, y1, if_false]
  exact ho
theorem cells_slV {M : Mem} {sz k : Nat} {u : Value} {fl : List Value} (h : SlV M sz u k fl) : u.cells.toList = [u] := by
  rcases h.at_ with ⟨_, rfl⟩ | ⟨b, c, cs, rfl, _⟩ <;> rfl
theorem one_slV {M : Mem} {sz k : Nat} {u : Value} {fl : List Value} (h : SlV M sz u k fl) : oneCell u = true := by
  rcases h.at_ with ⟨_, rfl⟩ | ⟨b, c, cs, rfl, _⟩ <;> rfl
theorem drop_d (h : DAt m w vw R) (hm : Fresh m) (hR : R.length < 1000000) : ∃ u m', Con EE.P 19 [PT w, In p] m u m' ∧ u = .tuple [Um ((mget R p).getD 0), .bool (mget R p).isSome].toArray ∧ ∃ vw', DAt m' w vw' (R.filter fun x => decide (x.1 ≠ p)) ∧ FrD m m' w vw vw' := by
  refine Con.raw EE_ok fn19 (Nat.le_of_ble_eq_true rfl) _ ?_
  obtain ⟨cs, h1, h2, h3⟩ := h.at_
  have hlw := hm.lt h1
  have hlen : ∀ M, lenA EE.P 34 vw M = some (In R.length) := fun M => h.sl.lenA und_34
  simp only [f19, enumV, Nat.zero_add, w19, W_seq, w19_0, Nat.le_refl, X_assign, ev_const, Nat.reduceLT, T_set, X_nil, ne_eq, thenQ_normal, w19_1, Mem.next_bump, Nat.le_add_right, bump_bump, Nat.reduceAdd, X_move, ev_T, lk_cons, Nat.reduceEqDiff, Nat.one_ne_zero, if_false, if_true, X_call ca_22, List.map_cons, List.map_nil, true_and]
  refine CallI.con0 (left_d (h.bump _) hR) ?_
  simp only [putT, Nat.reduceLT, T_set, X_move, ev_T, lk_cons, Nat.reduceEqDiff, if_false, if_true, X_extract EE_sym, List.getElem?_toArray, List.getElem?_cons_zero, okI_some, List.getElem?_cons_succ, X_assign, X_nil, thenQ_normal, W_seq, w19_2, Mem.next_bump, Nat.le_add_right, bump_bump, Nat.reduceAdd, ev_const, w19_3, W_block, w19_11, true_and]
  obtain ⟨b, hb⟩ : ∃ b, (mget R p).isSome = b := ⟨_, rfl⟩
  rw [hb]
  refine WX.loop_of (fun x t M => ∃ (i : Nat) (u : Value), i ≤ R.length ∧ x = R.length - i ∧ t = T 51 [(9, In i), (8, u), (7, .bool b), (6, Um ((mget R p).getD 0)), (0, PT w), (1, In p)] ∧ NewV m M 2 u ((R.take i).filter fun x => decide (x.1 ≠ p)).length (pl ((R.take i).filter fun x => decide (x.1 ≠ p)))) ?_ (k := R.length) (t1 := T 51 [(9, In (0 : Nat)), (8, .slice none 0 0), (7, .bool b), (6, Um ((mget R p).getD 0)), (0, PT w), (1, In p)]) (View.temps ⟨rfl, rfl, rfl, rfl, rfl, rfl, trivial⟩) ⟨0, _, by omega, rfl, rfl, (NewV.nil hm).bump _⟩
  rintro x t M ⟨i, u, hi, rfl, rfl, hL⟩
  have hnx := hL.nx.next
  have Mw : M.get w = some (.cells cs true 0) := hL.nx.keep hm h1
  have hkk : ((R.take i).filter fun x => decide (x.1 ≠ p)).length ≤ R.length := Nat.le_trans (List.length_filter_le _ _) (by rw [List.length_take]; omega)
  by_cases hi2 : i < R.length
  · have q1 : (i : Int) < (R.length : Int) := by omega
    have q2 : (0 : Int) ≤ i := by omega
    have hw : IntKind.i64.wrap ((i : Int) + 1) = ((i + 1 : Nat) : Int) := by rw [wrap_i64 (by omega) (by omega)]; omega
    obtain ⟨B, c, cB, rfl, k1, k3, k4, k5⟩ := pl_atR (h.sl.nx hm hL.nx) hi2
    have htk : R.take (i + 1) = R.take i ++ [R.getD i (0, 0)] := by
      rw [List.take_add_one, List.getElem?_eq_getElem hi2, List.getD_eq_getElem?_getD, List.getElem?_eq_getElem hi2]; rfl
    by_cases he : (R.getD i (0, 0)).1 = p
    · have d0 := decide_eq_true he
      simp only [w19_10, W_seq, w19_4, hnx, X_move, Nat.reduceLT, ev_T, lk_cons, Nat.reduceEqDiff, if_false, if_true, T_set, Nat.one_ne_zero, X_nilCheck EE_sym, nilV_ptr, okI_some, X_fieldAddr EE_sym fo_49_0, offV_ptr, Nat.add_zero, X_load EE_sym, load1 lay_34, Mem.get_bump, Mw, ld1_cells, h3, X_len EE_sym, len_slice und_34, X_bin EE_sym (op := .lss) rfl, bin_lss, q1, decide_true, X_nil, ne_eq, thenQ_normal, W_cond, CDi_t, W_skip, W_block, w19_8, w19_5, Mem.next_bump, Nat.le_add_right_of_le, bump_bump, Nat.reduceAdd, X_indexAddr EE_sym, q2, idxV_slice und_34 sz_44, Int.toNat_natCast, Nat.zero_add, X_fieldAddr EE_sym fo_44_0, load1 lay_3, k1, k3, X_neq EE_sym, neq_int, d0, Bool.not_true, CDi_f, blockQ_normal, w19_9, X_bin EE_sym (op := .add) rfl, ev_const, bin_add, hw, X_assign, roundQ_normal, true_and]
      refine ⟨R.length - (i + 1), _, _, by omega, View.temps (l' := [(9, In ((i + 1 : Nat) : Int)), (8, u), (7, .bool b), (6, Um ((mget R p).getD 0)), (0, PT w), (1, In p)]) ⟨rfl, rfl, rfl, rfl, rfl, rfl, trivial⟩, i + 1, u, by omega, rfl, rfl, ?_⟩
      rw [htk, List.filter_append, List.filter_cons_of_neg (by rw [decide_eq_true_eq]; exact fun h => h he), List.filter_nil, List.append_nil]
      exact hL.bump _
    · have d0 := decide_eq_false he
      have b2 := bs34 (p := (R.getD i (0, 0)).1) (n := (R.getD i (0, 0)).2)
      simp only [w19_10, W_seq, w19_4, hnx, X_move, Nat.reduceLT, ev_T, lk_cons, Nat.reduceEqDiff, if_false, if_true, T_set, Nat.one_ne_zero, X_nilCheck EE_sym, nilV_ptr, okI_some, X_fieldAddr EE_sym fo_49_0, offV_ptr, Nat.add_zero, X_load EE_sym, load1 lay_34, Mem.get_bump, Mw, ld1_cells, h3, X_len EE_sym, len_slice und_34, X_bin EE_sym (op := .lss) rfl, bin_lss, q1, decide_true, X_nil, ne_eq, thenQ_normal, W_cond, CDi_t, W_skip, W_block, w19_8, w19_5, Mem.next_bump, Nat.le_add_right_of_le, bump_bump, Nat.reduceAdd, X_indexAddr EE_sym, q2, idxV_slice und_34 sz_44, Int.toNat_natCast, Nat.zero_add, X_fieldAddr EE_sym fo_44_0, load1 lay_3, k1, k3, X_neq EE_sym, neq_int, d0, Bool.not_false, w19_7, w19_6, loadN lay_44, ldN_cells, k5, Option.map_some, X_bs, List.map_cons, List.map_nil, b2, Nat.add_assoc, put_bump, X_append, true_and]
      refine NewV.app1 eo34 (by decide) hm hL rfl rfl ⟨by omega, by omega⟩ ⟨by omega, by omega⟩ (by omega) fun v' M' hN hn' _ => ?_
      have n4 : m.next ≤ M'.next := by omega
      simp only [Nat.reduceLT, T_set, X_assign, ev_T, lk_cons, Nat.reduceEqDiff, if_false, if_true, X_nil, blockQ_normal, thenQ_normal, w19_9, n4, X_move, X_bin EE_sym (op := .add) rfl, ev_const, bin_add, hw, okI_some, roundQ_normal, true_and]
      refine ⟨R.length - (i + 1), _, _, by omega, View.temps (l' := [(9, In ((i + 1 : Nat) : Int)), (8, v'), (7, .bool b), (6, Um ((mget R p).getD 0)), (0, PT w), (1, In p)]) ⟨rfl, rfl, rfl, rfl, rfl, rfl, trivial⟩, i + 1, v', by omega, rfl, rfl, ?_⟩
      rw [htk, List.filter_append, List.filter_cons_of_pos (by rw [decide_eq_true_eq]; exact he), List.filter_nil, List.length_append]
      have hpl : ∀ A : SL, pl (A ++ [R.getD i (0, 0)]) = pl A ++ [In (R.getD i (0, 0)).1, Um (R.getD i (0, 0)).2] := fun A => pl_snoc
      rw [hpl]
      exact hN.bump _
  · obtain rfl : i = R.length := by omega
    have q1 : ¬ (R.length : Int) < (R.length : Int) := by omega
    rw [List.take_of_length_le (Nat.le_refl _)] at hL
    have c1 := cells_slV hL.sl
    have c2 := one_slV hL.sl
    simp only [w19_10, W_seq, w19_4, hnx, X_move, Nat.reduceLT, ev_T, lk_cons, Nat.reduceEqDiff, if_false, if_true, T_set, Nat.one_ne_zero, X_nilCheck EE_sym, nilV_ptr, okI_some, X_fieldAddr EE_sym fo_49_0, offV_ptr, Nat.add_zero, X_load EE_sym, load1 lay_34, Mem.get_bump, Mw, ld1_cells, h3, X_len EE_sym, hlen, X_bin EE_sym (op := .lss) rfl, bin_lss, q1, decide_false, X_nil, ne_eq, thenQ_normal, W_cond, CDi_f, W_exit, thenQ_exit, roundQ_exit, blockQ_exit, w19_12, Mem.next_bump, Nat.le_add_right_of_le, bump_bump, Nat.reduceAdd, X_store, store1 sz_34, c1, st1_cells, List.length_cons, List.length_nil, Nat.zero_add, h2, Nat.le_refl, List.all_cons, c2, List.all_nil, Bool.and_self, and_self, put_bump, w19_13, Mem.next_put, X_assign, W_ret, FinX_ret, resA_tmp, T_get, resA_nil, Option.map_some, oneOr2, true_and]
    refine (FrD.wr (vw := vw) hm hlw h1 hL).raw ⟨rfl, u, DAt.wr hlw h2 hL, FrD.wr hm hlw h1 hL⟩
end
end
end Go.Ab
/- Sleep: the document's sleepers: Add. -/
namespace Go.Ab
open Go.Proofs
noncomputable section
set_option maxHeartbeats 4000000
set_option maxRecDepth 10000
section
variable {m m' : Mem} {w : Nat} {vw : Value} {R L : SL} {p : Int} {n : BitVec 32}
/-- What Add leaves. -/
def addR (R : SL) (p : Int) (n : BitVec 32) : SL := if addE R p n = 0 then insR R p n else R
theorem addR_no {e : Int} (h : addE R p n = e) (he : e ≠ 0) : addR R p n = R := by unfold addR; rw [if_neg (by rw [h]; exact he)]
theorem bldP {p : Int} {n : BitVec 32} : buildA EE.P 44 [(0, In p), (1, Um n)] = some (.agg [In p, Um n].toArray) := bld44
/-- In the midst of Add's loop. -/
structure InsI (R : SL) (p : Int) (n : BitVec 32) (i : Nat) (b : Bool) (A : SL) : Prop where
  t : b = true → A = insR (R.take i) p n ∧ ∃ a ∈ R.take i, p < a.1
  f : b = false → A = R.take i ∧ ∀ a ∈ R.take i, ¬ p < a.1
theorem InsI.nil : InsI R p n 0 false [] := ⟨fun h => (by cases h), fun _ => ⟨rfl, fun a h => (by cases h)⟩⟩
theorem ins_len : ∀ {R : SL}, (insR R p n).length = R.length + 1
  | [] => rfl
  | (y, u) :: R => by
    unfold insR
    split
    · rfl
    · simp only [List.length_cons, ins_len (R := R)]
theorem InsI.len {i : Nat} {b : Bool} {A : SL} (h : InsI R p n i b A) (hi : i ≤ R.length) : A.length ≤ R.length + 1 := by
  cases b with
  | true => rw [(h.t rfl).1, ins_len, List.length_take]; omega
  | false => rw [(h.f rfl).1, List.length_take]; omega
theorem take_one {i : Nat} (hi : i < R.length) : R.take (i + 1) = R.take i ++ [R.getD i (0, 0)] := by
  rw [List.take_add_one, List.getElem?_eq_getElem hi, List.getD_eq_getElem?_getD, List.getElem?_eq_getElem hi]; rfl
theorem InsI.old {i : Nat} {A : SL} (h : InsI R p n i true A) (hi : i < R.length) : InsI R p n (i + 1) true (A ++ [R.getD i (0, 0)]) := by
  obtain ⟨rfl, a, h1, h2⟩ := h.t rfl
  refine ⟨fun _ => ?_, fun h => (by cases h)⟩
  rw [take_one hi]
  exact ⟨(ins_app_t ⟨a, h1, h2⟩).symm, a, List.mem_append.2 (.inl h1), h2⟩
theorem InsI.skip {i : Nat} {b : Bool} {A : SL} (h : InsI R p n i b A) (hi : i < R.length) (hc : ¬ p < (R.getD i (0, 0)).1) : InsI R p n (i + 1) b (A ++ [R.getD i (0, 0)]) := by
  cases b with
  | true => exact h.old hi
  | false =>
    obtain ⟨rfl, h1⟩ := h.f rfl
    refine ⟨fun h => (by cases h), fun _ => ?_⟩
    rw [take_one hi]
    refine ⟨rfl, fun a ha => ?_⟩
    rcases List.mem_append.1 ha with ha | ha
    · exact h1 a ha
    · rw [List.mem_singleton.1 ha]; exact hc
theorem InsI.now {i : Nat} {A : SL} (h : InsI R p n i false A) (hi : i < R.length) (hc : p < (R.getD i (0, 0)).1) : InsI R p n (i + 1) true ((A ++ [(p, n)]) ++ [R.getD i (0, 0)]) := by
  obtain ⟨rfl, h1⟩ := h.f rfl
  refine ⟨fun _ => ?_, fun h => (by cases h)⟩
  rw [take_one hi, ins_app_f h1]
  refine ⟨?_, _, List.mem_append.2 (.inr (List.mem_singleton.2 rfl)), hc⟩
  have : insR [R.getD i (0, 0)] p n = [(p, n), R.getD i (0, 0)] := if_pos hc
  rw [this, List.append_assoc]; rfl
theorem InsI.end_t {A : SL} (h : InsI R p n R.length true A) : A = insR R p n := by
  have := (h.t rfl).1
  rwa [List.take_of_length_le (Nat.le_refl _)] at this
theorem InsI.end_f {A : SL} (h : InsI R p n R.length false A) : A ++ [(p, n)] = insR R p n := by
  obtain ⟨h1, h2⟩ := h.f rfl
  rw [List.take_of_length_le (Nat.le_refl _)] at h1 h2
  rw [h1]
  have := ins_app_f (B := []) (n := n) h2
  rw [List.append_nil] at this
  rw [this]; rfl
theorem add_d (h : DAt m w vw R) (hm : Fresh m) (hR : R.length < 1000000) : ∃ u m', Con EE.P 16 [PT w, In p, Um n] m u m' ∧ u = In (addE R p n) ∧ ∃ vw', DAt m' w vw' (addR R p n) ∧ FrD m m' w vw vw' := by
  refine Con.raw EE_ok fn16 (Nat.le_of_ble_eq_true rfl) _ ?_
  obtain ⟨cs, h1, h2, h3⟩ := h.at_
  have hlw := hm.lt h1
  have hlen : ∀ M, lenA EE.P 34 vw M = some (In R.length) := fun M => h.sl.lenA und_34
  by_cases c1 : p < 1
  · have d0 := decide_eq_true c1
    have e0 : addE R p n = 2 := by unfold addE; rw [if_pos (.inl c1)]
    rw [e0, addR_no e0 (by decide)]
    simp only [f16, enumV, Nat.zero_add, Nat.reduceAdd, w16, W_seq, w16_0, Nat.le_refl, X_assign, ev_const, Nat.reduceLT, T_set, X_nil, thenQ_normal, w16_1, Mem.next_bump, Nat.le_add_right, bump_bump, X_move, ev_T, lk_cons, Nat.reduceEqDiff, if_false, if_true, X_bin EE_sym (op := .lss) rfl, bin_lss, d0, okI_some, X_guard EE_sym, T_get, GDi_tf, putT, X_pick EE_sym, pickV_bool, W_cond, CDi_t, w16_3, w16_2, W_ret, thenQ_ret, FinX_ret, resA_tmp, resA_nil, Option.map_some, oneOr1, true_and]
    exact (FrD.keep h hm _).raw ⟨rfl, vw, h.bump _, FrD.keep h hm _⟩
  have d0 := decide_eq_false c1
  by_cases c2 : (n.toNat : Int) < 1
  · have d1 := decide_eq_true c2
    have e0 : addE R p n = 2 := by unfold addE; rw [if_pos (.inr (BitVec.eq_of_toNat_eq (by simp only [BitVec.toNat_ofNat]; omega)))]
    rw [e0, addR_no e0 (by decide)]
    simp only [f16, enumV, Nat.zero_add, Nat.reduceAdd, w16, W_seq, w16_0, Nat.le_refl, X_assign, ev_const, Nat.reduceLT, T_set, X_nil, thenQ_normal, w16_1, Mem.next_bump, Nat.le_add_right, bump_bump, X_move, ev_T, lk_cons, Nat.reduceEqDiff, if_false, if_true, X_bin EE_sym (op := .lss) rfl, bin_lss, d0, okI_some, X_guard EE_sym, T_get, GDi_ff, d1, X_pick EE_sym, pickV_bool, Bool.false_eq_true, W_cond, CDi_t, w16_3, w16_2, W_ret, thenQ_ret, FinX_ret, resA_tmp, resA_nil, Option.map_some, oneOr1, true_and]
    exact (FrD.keep h hm _).raw ⟨rfl, vw, h.bump _, FrD.keep h hm _⟩
  have d1 := decide_eq_false c2
  have c4 : ¬ (p < 1 ∨ n = 0#32) := fun e => e.elim c1 fun e => c2 (by rw [e]; decide)
  simp only [f16, enumV, Nat.zero_add, Nat.reduceAdd, w16, W_seq, w16_0, Nat.le_refl, X_assign, ev_const, Nat.reduceLT, T_set, X_nil, thenQ_normal, w16_1, Mem.next_bump, Nat.le_add_right, bump_bump, X_move, ev_T, lk_cons, Nat.reduceEqDiff, if_false, if_true, X_bin EE_sym (op := .lss) rfl, bin_lss, d0, okI_some, X_guard EE_sym, T_get, GDi_ff, d1, X_pick EE_sym, pickV_bool, Bool.false_eq_true, W_cond, CDi_f, W_skip, w16_4, Nat.one_ne_zero, X_call ca_22, List.map_cons, List.map_nil, true_and]
  refine CallI.con0 (left_d (h.bump _) hR) ?_
  cases c3 : (mget R p).isSome
  · have e0 : addE R p n = 0 := by unfold addE; rw [if_neg c4, if_neg (by rw [c3]; decide)]
    have e1 : addR R p n = insR R p n := if_pos e0
    rw [e0, e1]
    simp only [putT, Nat.reduceLT, T_set, X_move, ev_T, lk_cons, Nat.reduceEqDiff, if_false, if_true, X_extract EE_sym, List.getElem?_toArray, List.getElem?_cons_zero, okI_some, List.getElem?_cons_succ, X_assign, X_nil, thenQ_normal, W_seq, w16_5, Mem.next_bump, Nat.le_add_right, bump_bump, Nat.reduceAdd, W_cond, CDi_f, W_skip, w16_8, ev_const, w16_9, w16_10, W_block, w16_20, true_and]
    refine WX.loop_of (fun x t M => ∃ (i : Nat) (b : Bool) (u : Value) (A : SL), i ≤ R.length ∧ x = R.length - i ∧ t = T 76 [(11, In i), (10, .bool b), (9, u), (0, PT w), (1, In p), (2, Um n)] ∧ NewV m M 2 u A.length (pl A) ∧ InsI R p n i b A) ?_ (k := R.length) (t1 := T 76 [(11, In (0 : Nat)), (10, .bool false), (9, .slice none 0 0), (0, PT w), (1, In p), (2, Um n)]) (View.temps ⟨rfl, rfl, rfl, rfl, rfl, rfl, trivial⟩) ⟨0, false, _, [], by omega, rfl, rfl, (NewV.nil hm).bump _, InsI.nil⟩
    rintro x t M ⟨i, b, u, A, hi, rfl, rfl, hL, hA⟩
    have hnx := hL.nx.next
    have Mw : M.get w = some (.cells cs true 0) := hL.nx.keep hm h1
    have hal := hA.len hi
    by_cases hi2 : i < R.length
    · have q1 : (i : Int) < (R.length : Int) := by omega
      have q2 : (0 : Int) ≤ i := by omega
      have hw : IntKind.i64.wrap ((i : Int) + 1) = ((i + 1 : Nat) : Int) := by rw [wrap_i64 (by omega) (by omega)]; omega
      obtain ⟨B, c, cB, rfl, k0, k3, k4, k5⟩ := pl_atR h.sl hi2
      have k1 := hL.nx.keep hm k0
      have b3 := bs34 (p := p) (n := n)
      have b2 := bs34 (p := (R.getD i (0, 0)).1) (n := (R.getD i (0, 0)).2)
      have hpl : ∀ A : SL, pl (A ++ [R.getD i (0, 0)]) = pl A ++ [In (R.getD i (0, 0)).1, Um (R.getD i (0, 0)).2] := fun A => pl_snoc
      by_cases hc : p < (R.getD i (0, 0)).1
      · have d2 := decide_eq_true hc
        cases b with
        | true =>
          simp only [w16_19, W_seq, w16_11, hnx, X_move, Nat.reduceLT, ev_T, lk_cons, Nat.reduceEqDiff, if_false, if_true, T_set, Nat.one_ne_zero, X_nilCheck EE_sym, nilV_ptr, okI_some, X_fieldAddr EE_sym fo_49_0, offV_ptr, Nat.add_zero, X_load EE_sym, load1 lay_34, Mem.get_bump, Mw, ld1_cells, h3, X_len EE_sym, len_slice und_34, X_bin EE_sym (op := .lss) rfl, bin_lss, q1, decide_true, X_nil, thenQ_normal, W_cond, CDi_t, W_skip, W_block, w16_17, w16_12, Mem.next_bump, Nat.le_add_right_of_le, bump_bump, Nat.reduceAdd, X_indexAddr EE_sym, q2, idxV_slice und_34 sz_44, Int.toNat_natCast, Nat.zero_add, X_fieldAddr EE_sym fo_44_0, load1 lay_3, k1, k3, X_bin EE_sym (op := .gtr) rfl, bin_gtr, d2, X_guard EE_sym, T_get, GDi_tt, X_un EE_sym, un_not, Bool.not_true, X_pick EE_sym, ev_const, pickV_bool, CDi_f, w16_16, loadN lay_44, ldN_cells, k5, Option.map_some, X_bs, List.map_cons, List.map_nil, b2, Nat.add_assoc, put_bump, X_append, true_and]
          refine NewV.app1 eo34 (by decide) hm hL rfl rfl ⟨by omega, by omega⟩ ⟨by omega, by omega⟩ (by omega) fun v' M' hN hn' _ => ?_
          have n4 : m.next ≤ M'.next := by omega
          simp only [Nat.reduceLT, T_set, X_assign, ev_T, lk_cons, Nat.reduceEqDiff, if_false, if_true, X_nil, blockQ_normal, thenQ_normal, w16_18, n4, X_move, X_bin EE_sym (op := .add) rfl, ev_const, bin_add, hw, okI_some, roundQ_normal, true_and]
          refine ⟨R.length - (i + 1), _, _, by omega, View.temps (l' := [(11, In ((i + 1 : Nat) : Int)), (10, .bool true), (9, v'), (0, PT w), (1, In p), (2, Um n)]) ⟨rfl, rfl, rfl, rfl, rfl, rfl, trivial⟩, i + 1, true, v', _, by omega, rfl, rfl, ?_, hA.old hi2⟩
          rw [hpl, List.length_append]
          exact hN.bump _
        | false =>
          simp only [w16_19, W_seq, w16_11, hnx, X_move, Nat.reduceLT, ev_T, lk_cons, Nat.reduceEqDiff, if_false, if_true, T_set, Nat.one_ne_zero, X_nilCheck EE_sym, nilV_ptr, okI_some, X_fieldAddr EE_sym fo_49_0, offV_ptr, Nat.add_zero, X_load EE_sym, load1 lay_34, Mem.get_bump, Mw, ld1_cells, h3, X_len EE_sym, len_slice und_34, X_bin EE_sym (op := .lss) rfl, bin_lss, q1, decide_true, X_nil, thenQ_normal, W_cond, CDi_t, W_skip, W_block, w16_17, w16_12, Mem.next_bump, Nat.le_add_right_of_le, bump_bump, Nat.reduceAdd, X_indexAddr EE_sym, q2, idxV_slice und_34 sz_44, Int.toNat_natCast, Nat.zero_add, X_fieldAddr EE_sym fo_44_0, load1 lay_3, k1, k3, X_bin EE_sym (op := .gtr) rfl, bin_gtr, d2, X_guard EE_sym, T_get, GDi_tt, X_un EE_sym, un_not, Bool.not_false, X_pick EE_sym, ev_const, pickV_bool, w16_15, w16_13, X_build EE_sym, List.map_cons, List.map_nil, bldP, X_bs, b3, Nat.add_assoc, put_bump, X_append, true_and]
          refine NewV.app1 eo34 (by decide) hm hL rfl rfl ⟨by omega, by omega⟩ ⟨by omega, by omega⟩ (by omega) fun v1 M1 hN1 hn1 _ => ?_
          have n4 : m.next ≤ M1.next := by omega
          have Mw1 : M1.get w = some (.cells cs true 0) := hN1.nx.keep hm h1
          have k11 := hN1.nx.keep hm k0
          rw [← pl_snoc] at hN1
          simp only [Nat.reduceLT, T_set, X_assign, ev_T, lk_cons, Nat.reduceEqDiff, if_false, if_true, X_nil, thenQ_normal, w16_14, n4, ev_const, w16_16, Mem.next_bump, Nat.le_add_right_of_le, bump_bump, Nat.reduceAdd, X_move, Nat.one_ne_zero, X_nilCheck EE_sym, nilV_ptr, okI_some, X_fieldAddr EE_sym fo_49_0, offV_ptr, Nat.add_zero, X_load EE_sym, load1 lay_34, Mem.get_bump, Mw1, ld1_cells, h3, X_indexAddr EE_sym, q2, q1, idxV_slice und_34 sz_44, Int.toNat_natCast, Nat.zero_add, loadN lay_44, k11, ldN_cells, k5, Option.map_some, X_bs, List.map_cons, List.map_nil, b2, Nat.add_assoc, put_bump, X_append, true_and]
          refine NewV.app1 eo34 (by decide) hm hN1 rfl rfl ⟨by omega, by omega⟩ ⟨by omega, by omega⟩ (by omega) fun v' M' hN hn' _ => ?_
          have n5 : m.next ≤ M'.next := by omega
          simp only [Nat.reduceLT, T_set, X_assign, ev_T, lk_cons, Nat.reduceEqDiff, if_false, if_true, X_nil, blockQ_normal, thenQ_normal, w16_18, n5, X_move, X_bin EE_sym (op := .add) rfl, ev_const, bin_add, hw, okI_some, roundQ_normal, true_and]
          refine ⟨R.length - (i + 1), _, _, by omega, View.temps (l' := [(11, In ((i + 1 : Nat) : Int)), (10, .bool true), (9, v'), (0, PT w), (1, In p), (2, Um n)]) ⟨rfl, rfl, rfl, rfl, rfl, rfl, trivial⟩, i + 1, true, v', _, by omega, rfl, rfl, ?_, hA.now hi2 hc⟩
          rw [hpl, List.length_append, List.length_append]
          exact hN.bump _
      · have d2 := decide_eq_false hc
        simp only [w16_19, W_seq, w16_11, hnx, X_move, Nat.reduceLT, ev_T, lk_cons, Nat.reduceEqDiff, if_false, if_true, T_set, Nat.one_ne_zero, X_nilCheck EE_sym, nilV_ptr, okI_some, X_fieldAddr EE_sym fo_49_0, offV_ptr, Nat.add_zero, X_load EE_sym, load1 lay_34, Mem.get_bump, Mw, ld1_cells, h3, X_len EE_sym, len_slice und_34, X_bin EE_sym (op := .lss) rfl, bin_lss, q1, decide_true, X_nil, thenQ_normal, W_cond, CDi_t, W_skip, W_block, w16_17, w16_12, Mem.next_bump, Nat.le_add_right_of_le, bump_bump, Nat.reduceAdd, X_indexAddr EE_sym, q2, idxV_slice und_34 sz_44, Int.toNat_natCast, Nat.zero_add, X_fieldAddr EE_sym fo_44_0, load1 lay_3, k1, k3, X_bin EE_sym (op := .gtr) rfl, bin_gtr, d2, X_guard EE_sym, T_get, GDi_ft, putT, X_pick EE_sym, ev_const, pickV_bool, Bool.false_eq_true, CDi_f, w16_16, loadN lay_44, ldN_cells, k5, Option.map_some, X_bs, List.map_cons, List.map_nil, b2, Nat.add_assoc, put_bump, X_append, true_and]
        refine NewV.app1 eo34 (by decide) hm hL rfl rfl ⟨by omega, by omega⟩ ⟨by omega, by omega⟩ (by omega) fun v' M' hN hn' _ => ?_
        have n4 : m.next ≤ M'.next := by omega
        simp only [Nat.reduceLT, T_set, X_assign, ev_T, lk_cons, Nat.reduceEqDiff, if_false, if_true, X_nil, blockQ_normal, thenQ_normal, w16_18, n4, X_move, X_bin EE_sym (op := .add) rfl, ev_const, bin_add, hw, okI_some, roundQ_normal, true_and]
        refine ⟨R.length - (i + 1), _, _, by omega, View.temps (l' := [(11, In ((i + 1 : Nat) : Int)), (10, .bool b), (9, v'), (0, PT w), (1, In p), (2, Um n)]) ⟨rfl, rfl, rfl, rfl, rfl, rfl, trivial⟩, i + 1, b, v', _, by omega, rfl, rfl, ?_, hA.skip hi2 hc⟩
        rw [hpl, List.length_append]
        exact hN.bump _
    · obtain rfl : i = R.length := by omega
      have q1 : ¬ (R.length : Int) < (R.length : Int) := by omega
      cases b with
      | true =>
        have e2 := hA.end_t
        rw [e2] at hL
        have c5 := cells_slV hL.sl
        have c6 := one_slV hL.sl
        simp only [w16_19, W_seq, w16_11, hnx, X_move, Nat.reduceLT, ev_T, lk_cons, Nat.reduceEqDiff, if_false, if_true, T_set, Nat.one_ne_zero, X_nilCheck EE_sym, nilV_ptr, okI_some, X_fieldAddr EE_sym fo_49_0, offV_ptr, Nat.add_zero, X_load EE_sym, load1 lay_34, Mem.get_bump, Mw, ld1_cells, h3, X_len EE_sym, hlen, X_bin EE_sym (op := .lss) rfl, bin_lss, q1, decide_false, X_nil, thenQ_normal, W_cond, CDi_f, W_exit, thenQ_exit, roundQ_exit, blockQ_exit, w16_21, Mem.next_bump, Nat.le_add_right_of_le, bump_bump, Nat.reduceAdd, X_un EE_sym, un_not, Bool.not_true, W_skip, w16_24, X_store, store1 sz_34, c5, st1_cells, List.length_cons, List.length_nil, Nat.zero_add, h2, Nat.le_refl, List.all_cons, c6, List.all_nil, Bool.and_self, and_self, put_bump, w16_25, Mem.next_put, X_assign, ev_const, W_ret, FinX_ret, resA_tmp, T_get, resA_nil, Option.map_some, oneOr1, true_and]
        refine (FrD.wr (vw := vw) hm hlw h1 hL).raw ⟨rfl, u, DAt.wr hlw h2 hL, FrD.wr hm hlw h1 hL⟩
      | false =>
        have e2 := hA.end_f
        have b3 := bs34 (p := p) (n := n)
        simp only [w16_19, W_seq, w16_11, hnx, X_move, Nat.reduceLT, ev_T, lk_cons, Nat.reduceEqDiff, if_false, if_true, T_set, Nat.one_ne_zero, X_nilCheck EE_sym, nilV_ptr, okI_some, X_fieldAddr EE_sym fo_49_0, offV_ptr, Nat.add_zero, X_load EE_sym, load1 lay_34, Mem.get_bump, Mw, ld1_cells, h3, X_len EE_sym, hlen, X_bin EE_sym (op := .lss) rfl, bin_lss, q1, decide_false, X_nil, thenQ_normal, W_cond, CDi_f, W_exit, thenQ_exit, roundQ_exit, blockQ_exit, w16_21, Mem.next_bump, Nat.le_add_right_of_le, bump_bump, Nat.reduceAdd, X_un EE_sym, un_not, Bool.not_false, CDi_t, w16_23, w16_22, X_build EE_sym, List.map_cons, List.map_nil, bldP, X_bs, b3, Nat.add_assoc, put_bump, X_append, true_and]
        refine NewV.app1 eo34 (by decide) hm hL rfl rfl ⟨by omega, by omega⟩ ⟨by omega, by omega⟩ (by omega) fun v1 M1 hN hn1 _ => ?_
        have n4 : m.next ≤ M1.next := by omega
        have Mw1 : M1.get w = some (.cells cs true 0) := hN.nx.keep hm h1
        rw [← pl_snoc, show A.length + 1 = (A ++ [(p, n)]).length from (List.length_append (bs := [(p, n)])).symm, e2] at hN
        have c5 := cells_slV hN.sl
        have c6 := one_slV hN.sl
        simp only [Nat.reduceLT, T_set, X_assign, ev_T, lk_cons, Nat.reduceEqDiff, if_false, if_true, X_nil, thenQ_normal, W_seq, w16_24, n4, X_move, Nat.one_ne_zero, X_nilCheck EE_sym, nilV_ptr, okI_some, X_fieldAddr EE_sym fo_49_0, offV_ptr, Nat.add_zero, X_store, store1 sz_34, Mem.get_bump, Mw1, c5, st1_cells, List.length_cons, List.length_nil, Nat.zero_add, h2, Nat.le_refl, List.all_cons, c6, List.all_nil, Bool.and_self, and_self, put_bump, w16_25, Mem.next_bump, Mem.next_put, Nat.le_add_right_of_le, bump_bump, Nat.reduceAdd, ev_const, W_ret, FinX_ret, resA_tmp, T_get, resA_nil, Option.map_some, oneOr1, true_and]
        refine (FrD.wr (vw := vw) hm hlw h1 hN).raw ⟨rfl, v1, DAt.wr hlw h2 hN, FrD.wr hm hlw h1 hN⟩
  · have e0 : addE R p n = 140 := by unfold addE; rw [if_neg c4, if_pos c3]
    rw [e0, addR_no e0 (by decide)]
    simp only [putT, Nat.reduceLT, T_set, X_move, ev_T, lk_cons, Nat.reduceEqDiff, if_false, if_true, X_extract EE_sym, List.getElem?_toArray, List.getElem?_cons_zero, okI_some, List.getElem?_cons_succ, X_assign, X_nil, thenQ_normal, W_seq, w16_5, Mem.next_bump, Nat.le_add_right, bump_bump, Nat.reduceAdd, W_cond, CDi_t, w16_7, w16_6, ev_const, W_ret, thenQ_ret, FinX_ret, resA_tmp, T_get, resA_nil, Option.map_some, oneOr1, true_and]
    exact (FrD.keep h hm _).raw ⟨rfl, vw, h.bump _, FrD.keep h hm _⟩
end
end
end Go.Ab
/- Sleep: the document's sleepers: Tick and Next. -/
namespace Go.Ab
open Go.Proofs
noncomputable section
set_option maxHeartbeats 4000000
set_option maxRecDepth 10000
section
variable {m m' : Mem} {w : Nat} {vw : Value} {R L : SL} {p : Int} {n : BitVec 32}
theorem lc_1 {a p : Int} {b n : BitVec 32} : ((Cells.ofList [.int .i64 a, .int .u32 b.toNat]).write 0 [In p, Um n]).nth 1 = some (Um n) := rfl
theorem lc_1z {p : Int} {n : BitVec 32} : ((Cells.ofList [.int .i64 0, .int .u32 0]).write 0 [In p, Um n]).nth 1 = some (Um n) := rfl
theorem lc_11 {p : Int} {n x : BitVec 32} : (((Cells.ofList [.int .i64 0, .int .u32 0]).write 0 [In p, Um n]).write 1 [Um x]).nth 1 = some (Um x) := rfl
theorem lc_10 {p : Int} {n x : BitVec 32} : (((Cells.ofList [.int .i64 0, .int .u32 0]).write 0 [In p, Um n]).write 1 [Um x]).nth 0 = some (In p) := rfl
theorem lc_12 {p : Int} {n x : BitVec 32} : (((Cells.ofList [.int .i64 0, .int .u32 0]).write 0 [In p, Um n]).write 1 [Um x]).sub 0 2 = some [In p, Um x] := rfl
theorem next_d (h : DAt m w vw (topA L)) (hR : L.length < 1000000) : Con EE.P 23 [PT w] m (.tuple [Um (minU L L.length), .bool (decide (minU L L.length ≠ 0#32))].toArray) m := by
  refine Con.of EE_ok fn23 (Nat.le_of_ble_eq_true rfl) Grow.rfl fun hm => ?_
  obtain ⟨cs, h1, h2, h3⟩ := h.at_
  have hlen : ∀ M, lenA EE.P 34 vw M = some (In L.length) := fun M => by rw [h.sl.lenA und_34, topA_len]
  simp only [f23, enumV, w23, W_seq, w23_0, Nat.le_refl, X_assign, ev_const, Nat.reduceLT, T_set, X_nil, ne_eq, thenQ_normal, w23_1, Mem.next_bump, Nat.le_add_right, bump_bump, Nat.reduceAdd, w23_2, W_block, w23_10, true_and]
  refine WX.loop_of (fun x t M => ∃ i j : Nat, i ≤ L.length ∧ x = L.length - i ∧ t = T 40 [(5, In i), (4, Um (minU L i)), (0, PT w)] ∧ M = m.bump j) ?_ (k := L.length) (t1 := T 40 [(5, In (0 : Nat)), (4, Um (minU L 0)), (0, PT w)]) (View.temps ⟨rfl, rfl, rfl, trivial⟩) ⟨0, _, by omega, rfl, rfl, rfl⟩
  rintro x t M ⟨i, j, hi, rfl, rfl, rfl⟩
  by_cases hi2 : i < L.length
  · have q1 : (i : Int) < (L.length : Int) := by omega
    have q2 : (0 : Int) ≤ i := by omega
    have hw : IntKind.i64.wrap ((i : Int) + 1) = ((i + 1 : Nat) : Int) := by rw [wrap_i64 (by omega) (by omega)]; omega
    have hi3 : i < (topA L).length := by rw [topA_len]; exact hi2
    obtain ⟨B, c, cB, rfl, k1, k3, k4, k5⟩ := pl_atR h.sl hi3
    rw [topA_at hi2] at k3 k4 k5
    have q3 : (i : Int) < ((topA L).length : Int) := by rw [topA_len]; exact q1
    by_cases x0 : minU L i = 0#32
    · have hx : ((minU L i).toNat : Int) = 0 := by rw [x0]; decide
      have hn : minU L (i + 1) = valI L i := if_pos (.inl x0)
      simp only [w23_9, W_seq, w23_3, Mem.next_bump, Nat.le_add_right, bump_bump, X_move, Nat.reduceLT, ev_T, lk_cons, Nat.reduceEqDiff, if_false, if_true, T_set, X_nilCheck EE_sym, nilV_ptr, okI_some, X_fieldAddr EE_sym fo_49_0, offV_ptr, Nat.add_zero, X_load EE_sym, load1 lay_34, Mem.get_bump, h1, ld1_cells, h3, X_len EE_sym, len_slice und_34, X_bin EE_sym (op := .lss) rfl, bin_lss, q3, decide_true, X_nil, thenQ_normal, W_cond, CDi_t, W_skip, W_block, w23_7, w23_4, Nat.add_assoc, Nat.reduceAdd, X_eql EE_sym, ev_const, eq_int, hx, X_guard EE_sym, T_get, GDi_tf, putT, X_pick EE_sym, pickV_bool, w23_6, w23_5, X_indexAddr EE_sym, q2, idxV_slice und_34 sz_44, Int.toNat_natCast, Nat.zero_add, X_fieldAddr EE_sym fo_44_1, load1 lay_30, k1, k4, X_assign, blockQ_normal, w23_8, X_bin EE_sym (op := .add) rfl, bin_add, hw, roundQ_normal, true_and]
      refine ⟨L.length - (i + 1), _, _, by omega, View.temps (l' := [(5, In ((i + 1 : Nat) : Int)), (4, Um (valI L i)), (0, PT w)]) ⟨rfl, rfl, rfl, trivial⟩, i + 1, _, by omega, rfl, by rw [hn], rfl⟩
    · have hx : ¬ ((minU L i).toNat : Int) = 0 := fun e => x0 (BitVec.eq_of_toNat_eq (by simp; omega))
      by_cases n0 : (valI L i).toNat < (minU L i).toNat
      · have hn : minU L (i + 1) = valI L i := if_pos (.inr n0)
        have hl : ((valI L i).toNat : Int) < (minU L i).toNat := by omega
        simp only [w23_9, W_seq, w23_3, Mem.next_bump, Nat.le_add_right, bump_bump, X_move, Nat.reduceLT, ev_T, lk_cons, Nat.reduceEqDiff, if_false, if_true, T_set, X_nilCheck EE_sym, nilV_ptr, okI_some, X_fieldAddr EE_sym fo_49_0, offV_ptr, Nat.add_zero, X_load EE_sym, load1 lay_34, Mem.get_bump, h1, ld1_cells, h3, X_len EE_sym, len_slice und_34, X_bin EE_sym (op := .lss) rfl, bin_lss, q3, decide_true, X_nil, thenQ_normal, W_cond, CDi_t, W_skip, W_block, w23_7, w23_4, Nat.add_assoc, Nat.reduceAdd, X_eql EE_sym, ev_const, eq_int, hx, decide_false, X_guard EE_sym, T_get, GDi_ff, X_indexAddr EE_sym, q2, idxV_slice und_34 sz_44, Int.toNat_natCast, Nat.zero_add, X_fieldAddr EE_sym fo_44_1, load1 lay_30, k1, k4, hl, X_pick EE_sym, pickV_bool, Bool.false_eq_true, w23_6, w23_5, X_assign, blockQ_normal, w23_8, X_bin EE_sym (op := .add) rfl, bin_add, hw, roundQ_normal, true_and]
        refine ⟨L.length - (i + 1), _, _, by omega, View.temps (l' := [(5, In ((i + 1 : Nat) : Int)), (4, Um (valI L i)), (0, PT w)]) ⟨rfl, rfl, rfl, trivial⟩, i + 1, _, by omega, rfl, by rw [hn], rfl⟩
      · have hn : minU L (i + 1) = minU L i := if_neg (by rintro (h | h); exact x0 h; exact n0 h)
        have hl : ¬ ((valI L i).toNat : Int) < (minU L i).toNat := by omega
        simp only [w23_9, W_seq, w23_3, Mem.next_bump, Nat.le_add_right, bump_bump, X_move, Nat.reduceLT, ev_T, lk_cons, Nat.reduceEqDiff, if_false, if_true, T_set, X_nilCheck EE_sym, nilV_ptr, okI_some, X_fieldAddr EE_sym fo_49_0, offV_ptr, Nat.add_zero, X_load EE_sym, load1 lay_34, Mem.get_bump, h1, ld1_cells, h3, X_len EE_sym, len_slice und_34, X_bin EE_sym (op := .lss) rfl, bin_lss, q3, decide_true, X_nil, thenQ_normal, W_cond, CDi_t, W_skip, W_block, w23_7, w23_4, Nat.add_assoc, Nat.reduceAdd, X_eql EE_sym, ev_const, eq_int, hx, decide_false, X_guard EE_sym, T_get, GDi_ff, X_indexAddr EE_sym, q2, idxV_slice und_34 sz_44, Int.toNat_natCast, Nat.zero_add, X_fieldAddr EE_sym fo_44_1, load1 lay_30, k1, k4, hl, X_pick EE_sym, pickV_bool, Bool.false_eq_true, CDi_f, blockQ_normal, w23_8, X_bin EE_sym (op := .add) rfl, bin_add, hw, X_assign, roundQ_normal, true_and]
        refine ⟨L.length - (i + 1), _, _, by omega, View.temps (l' := [(5, In ((i + 1 : Nat) : Int)), (4, Um (minU L i)), (0, PT w)]) ⟨rfl, rfl, rfl, trivial⟩, i + 1, _, by omega, rfl, by rw [hn], rfl⟩
  · obtain rfl : i = L.length := by omega
    have q1 : ¬ (L.length : Int) < (L.length : Int) := by omega
    simp only [w23_9, W_seq, w23_3, Mem.next_bump, Nat.le_add_right, bump_bump, X_move, Nat.reduceLT, ev_T, lk_cons, Nat.reduceEqDiff, if_false, if_true, T_set, X_nilCheck EE_sym, nilV_ptr, okI_some, X_fieldAddr EE_sym fo_49_0, offV_ptr, Nat.add_zero, X_load EE_sym, load1 lay_34, Mem.get_bump, h1, ld1_cells, h3, X_len EE_sym, hlen, X_bin EE_sym (op := .lss) rfl, bin_lss, q1, decide_false, X_nil, thenQ_normal, W_cond, CDi_f, W_exit, thenQ_exit, roundQ_exit, blockQ_exit, w23_11, Nat.add_assoc, Nat.reduceAdd, X_bin EE_sym (op := .gtr) rfl, ev_const, bin_gtr, X_assign, W_ret, FinC_ret, resA_tmp, T_get, resA_nil, Option.map_some, oneOr2, true_and]
    have e : decide (0 < ((minU L L.length).toNat : Int)) = decide (¬ minU L L.length = 0#32) := decide_eq_decide.2 ⟨fun h e => by rw [e] at h; exact absurd h (by decide), fun h => by
      rcases Nat.eq_zero_or_pos (minU L L.length).toNat with h0 | h0
      · exact absurd (BitVec.eq_of_toNat_eq (by simpa using h0)) h
      · omega⟩
    rw [e]
    exact TidyE.pure rfl fun _ _ => rfl
/-- One more at the end of a slice of our own, behind new blocks. -/
theorem NewV.app2 {M Mx : Mem} {ts e bytes sz k : Nat} {fl : List Value} {u : Value} {new : List Value} {j b1 id : Nat} (he : ElemOk EE.P ts e sz bytes) (hby : bytes ≤ 64) (hm : Fresh m) (hL : NewV m M sz u k fl) (hx : ∀ y, y < M.next → Mx.get y = M.get y) (hxn : Mx.next = M.next) (hxl : ∀ y, M.next + j ≤ y → Mx.get y = none) (hnew : new.length = sz) (hone : new.all oneCell = true)
    (hb : M.next ≤ b1 ∧ b1 < M.next + j) (hid : M.next ≤ id ∧ id < M.next + j) (hl : k < 1073741824) {K : Value × Mem → Prop}
    (hK : ∀ v' M', NewV m M' sz v' (k + 1) (fl ++ new) → M'.next = M.next + j → (∀ y, y < M.next → slB u ≠ some y → M'.get y = M.get y) → (∀ y, slB v' = some y → slB u = some y ∨ M.next ≤ y) → K (v', M')) :
    okI (appendA EE.P id #[ts, ts] u (.slice (some ⟨b1, 0, none⟩) 1 1) ((Mx.put b1 (.cells (Cells.ofList new) true sz)).bump j)) (k := ⟨K⟩) := by
  have hnx := hL.nx.next
  have hsv : SlV ((Mx.put b1 (.cells (Cells.ofList new) true sz)).bump j) sz u k fl := hL.sl.keep fun y o hy ho => by
    have := hL.sl.lt hL.nx.fresh hy
    rw [Mem.get_bump, Mem.get_put, if_neg (by omega), hx y this, ho]
  have hcap : (k + 1) * bytes ≤ 2 ^ 40 ∧ k + 1 ≤ 2 ^ 40 := by
    refine ⟨Nat.le_trans (Nat.mul_le_mul_left _ hby) ?_, ?_⟩ <;> omega
  refine okI_app he (k := 1) (new := new) hsv (src_put (by rw [hnew, Nat.one_mul])) (by decide) (by rw [hnew, Nat.one_mul]) hone (.inl rfl) hcap fun v' M' hA => ?_
  have n3 := hA.next
  rw [Mem.next_bump, Mem.next_put, hxn] at n3
  have hold : ∀ y, y < M.next → slB u ≠ some y → M'.get y = M.get y := fun y hy hyb => by
    rw [hA.old y (by omega) hyb, Mem.get_bump, Mem.get_put, if_neg (by omega), hx y hy]
  refine hK v' M' ⟨hA.sl, ⟨by omega, Fresh.of_low (by have := hm.n64; omega) fun y hy => hA.low y (by omega) (by rw [Mem.get_bump, Mem.get_put, if_neg (by omega)]; exact hxl y (by omega)), fun y hy => ?_⟩, fun y hy => ?_⟩ n3 hold fun y hy => ?_
  · rw [hold y (by omega) fun e => by have := hL.new y e; omega, hL.nx.old y hy]
  · rcases hA.blk with ⟨h1, _⟩ | h1
    · exact hL.new y (h1 ▸ hy)
    · rw [h1] at hy; cases hy; omega
  · rcases hA.blk with ⟨h1, _⟩ | h1
    · exact .inl (h1 ▸ hy)
    · rw [h1] at hy; cases hy; exact .inr (by omega)
theorem tick_d (h : DAt m w vw (topA L)) (hm : Fresh m) (hR : L.length < 1000000) : ∃ u m', Con EE.P 17 [PT w] m u m' ∧ SlV m' 1 u (wakeL L).length (il (wakeL L)) ∧ (∀ y, slB u = some y → m.next ≤ y) ∧ ∃ vw', DAt m' w vw' (tlL L L.length) ∧ FrD m m' w vw vw' := by
  refine Con.raw EE_ok fn17 (Nat.le_of_ble_eq_true rfl) _ ?_
  obtain ⟨cs, h1, h2, h3⟩ := h.at_
  have hlw := hm.lt h1
  have hlen : ∀ M, lenA EE.P 34 vw M = some (In L.length) := fun M => by rw [h.sl.lenA und_34, topA_len]
  simp only [f17, enumV, w17, W_seq, w17_0, Nat.le_refl, X_assign, ev_const, Nat.reduceLT, T_set, X_nil, thenQ_normal, w17_1, Mem.next_bump, Nat.le_add_right, bump_bump, Nat.reduceAdd, w17_2, w17_3, W_block, w17_15, true_and]
  refine WX.loop_of (fun x t M => ∃ (i : Nat) (u ul : Value), i ≤ L.length ∧ x = L.length - i ∧ t = T 44 [(5, In i), (4, ul), (3, u), (0, PT w)] ∧ NewV m M 1 u (wkL L i).length (il (wkL L i)) ∧ NewV m M 2 ul (tlL L i).length (pl (tlL L i)) ∧ ∀ y, slB u = some y → slB ul ≠ some y) ?_ (k := L.length) (t1 := T 44 [(5, In (0 : Nat)), (4, .slice none 0 0), (3, .slice none 0 0), (0, PT w)]) (View.temps ⟨rfl, rfl, rfl, rfl, trivial⟩) ⟨0, _, _, by omega, rfl, rfl, (NewV.nil hm).bump _, (NewV.nil hm).bump _, fun y hy => by cases hy⟩
  rintro x t M ⟨i, u, ul, hi, rfl, rfl, hO, hL, hne⟩
  have hnx := hL.nx.next
  have Mw : M.get w = some (.cells cs true 0) := hL.nx.keep hm h1
  have hol := wkL_len (L := L) (i := i)
  have hll := tlL_len (L := L) (i := i)
  by_cases hi2 : i < L.length
  · have q1 : (i : Int) < (L.length : Int) := by omega
    have q2 : (0 : Int) ≤ i := by omega
    have hw : IntKind.i64.wrap ((i : Int) + 1) = ((i + 1 : Nat) : Int) := by rw [wrap_i64 (by omega) (by omega)]; omega
    have hi3 : i < (topA L).length := by rw [topA_len]; exact hi2
    obtain ⟨B, c, cB, rfl, k0, k3, k4, k5⟩ := pl_atR h.sl hi3
    have k1 := hL.nx.keep hm k0
    rw [topA_at hi2] at k3 k4 k5
    have q3 : (i : Int) < ((topA L).length : Int) := by rw [topA_len]; exact q1
    have hx : decide (((valI L i - 1#32).toNat : Int) = 0) = decide (valI L i = 1#32) := decide_eq_decide.2 ⟨fun h => by bv_omega, fun h => by rw [h]; decide⟩
    have b2 := bs34 (p := keyI L i) (n := valI L i - 1#32)
    have hU : IntKind.u32.wrap (((valI L i).toNat : Int) - 1) = ((valI L i - 1#32).toNat : Int) := Value.int.inj (Option.some.inj (bin_subU1 (P := EE.P) (ty := 30) (a := valI L i))) |>.2
    by_cases he : valI L i = 1#32
    · rw [decide_eq_true he] at hx
      simp only [w17_14, W_seq, w17_4, hnx, X_move, Nat.reduceLT, ev_T, lk_cons, Nat.reduceEqDiff, if_false, if_true, T_set, X_nilCheck EE_sym, nilV_ptr, okI_some, X_fieldAddr EE_sym fo_49_0, offV_ptr, Nat.add_zero, X_load EE_sym, load1 lay_34, Mem.get_bump, Mw, ld1_cells, h3, X_len EE_sym, len_slice und_34, X_bin EE_sym (op := .lss) rfl, bin_lss, q3, decide_true, X_nil, ne_eq, thenQ_normal, W_cond, CDi_t, W_skip, W_block, w17_12, w17_5, Mem.next_bump, Nat.le_add_right_of_le, bump_bump, Nat.reduceAdd, X_indexAddr EE_sym, q2, idxV_slice und_34 sz_44, Int.toNat_natCast, Nat.zero_add, loadN lay_44, k1, ldN_cells, k5, Option.map_some, X_alloc, zero_44, Nat.add_assoc, put_bump, X_store, store1 sz_44, Mem.get_put, cells_agg, st1_cells, List.length_cons, List.length_nil, ofList_n, Nat.le_refl, List.all_cons, oneCell, List.all_nil, Bool.and_self, and_self, w17_6, Mem.next_put, X_fieldAddr EE_sym fo_44_1, load1 lay_30, lc_1z, X_bin EE_sym (op := .sub) rfl, ev_const, bin_sub, hU, store1 sz_30, cells_int, write_n, w17_7, nth_write_same, X_eql EE_sym, eq_int, hx, w17_9, w17_8, X_fieldAddr EE_sym fo_44_0, load1 lay_3, lc_10, X_bs, List.map_cons, List.map_nil, bs36, X_append, true_and]
      refine NewV.app2 eo36 (by decide) hm hO (Mx := ((M.put (M.next + 14) _).put (M.next + 14) _).put (M.next + 14) _) (fun y hy => by simp only [Mem.get_put, show ¬ y = M.next + 14 from by omega, if_false]) rfl (fun y hy => by simp only [Mem.get_put, show ¬ y = M.next + 14 from by omega, if_false]; exact hL.nx.fresh.none y (by omega)) rfl rfl ⟨by omega, by omega⟩ ⟨by omega, by omega⟩ (by omega) fun v' M' hN hn' hkp hnb => ?_
      have n4 : m.next ≤ M'.next := by omega
      simp only [Nat.reduceLT, T_set, X_assign, ev_T, lk_cons, Nat.reduceEqDiff, if_false, if_true, X_nil, blockQ_normal, thenQ_normal, w17_13, n4, X_move, X_bin EE_sym (op := .add) rfl, ev_const, bin_add, hw, okI_some, roundQ_normal, true_and]
      have ew : wkL L (i + 1) = wkL L i ++ [keyI L i] := by conv => lhs; unfold wkL; rw [if_pos he]
      have et : tlL L (i + 1) = tlL L i := by conv => lhs; unfold tlL; rw [if_pos he, List.append_nil]
      have hL2 : NewV m M' 2 ul (tlL L i).length (pl (tlL L i)) := ⟨hL.sl.keep fun y o hy ho => by rw [hkp y (hL.sl.lt hL.nx.fresh hy) (fun e => hne y e hy), ho], hN.nx, hL.new⟩
      refine ⟨L.length - (i + 1), _, _, by omega, View.temps (l' := [(5, In ((i + 1 : Nat) : Int)), (4, ul), (3, v'), (0, PT w)]) ⟨rfl, rfl, rfl, rfl, trivial⟩, i + 1, v', ul, by omega, rfl, rfl, ?_, ?_, fun y hy e => ?_⟩
      · rw [ew, List.length_append, il_snoc]; exact hN.bump _
      · rw [et]; exact hL2.bump _
      · rcases hnb y hy with h1 | h1
        · exact hne y h1 e
        · have := hL.sl.lt hL.nx.fresh e; omega
    · rw [decide_eq_false he] at hx
      simp only [w17_14, W_seq, w17_4, hnx, X_move, Nat.reduceLT, ev_T, lk_cons, Nat.reduceEqDiff, if_false, if_true, T_set, X_nilCheck EE_sym, nilV_ptr, okI_some, X_fieldAddr EE_sym fo_49_0, offV_ptr, Nat.add_zero, X_load EE_sym, load1 lay_34, Mem.get_bump, Mw, ld1_cells, h3, X_len EE_sym, len_slice und_34, X_bin EE_sym (op := .lss) rfl, bin_lss, q3, decide_true, X_nil, ne_eq, thenQ_normal, W_cond, CDi_t, W_skip, W_block, w17_12, w17_5, Mem.next_bump, Nat.le_add_right_of_le, bump_bump, Nat.reduceAdd, X_indexAddr EE_sym, q2, idxV_slice und_34 sz_44, Int.toNat_natCast, Nat.zero_add, loadN lay_44, k1, ldN_cells, k5, Option.map_some, X_alloc, zero_44, Nat.add_assoc, put_bump, X_store, store1 sz_44, Mem.get_put, cells_agg, st1_cells, List.length_cons, List.length_nil, ofList_n, Nat.le_refl, List.all_cons, oneCell, List.all_nil, Bool.and_self, and_self, w17_6, Mem.next_put, X_fieldAddr EE_sym fo_44_1, load1 lay_30, lc_1z, X_bin EE_sym (op := .sub) rfl, ev_const, bin_sub, hU, store1 sz_30, cells_int, write_n, w17_7, nth_write_same, X_eql EE_sym, eq_int, hx, CDi_f, w17_11, w17_10, lc_12, X_bs, List.map_cons, List.map_nil, b2, X_append, true_and]
      refine NewV.app2 eo34 (by decide) hm hL (Mx := ((M.put (M.next + 14) _).put (M.next + 14) _).put (M.next + 14) _) (fun y hy => by simp only [Mem.get_put, show ¬ y = M.next + 14 from by omega, if_false]) rfl (fun y hy => by simp only [Mem.get_put, show ¬ y = M.next + 14 from by omega, if_false]; exact hL.nx.fresh.none y (by omega)) rfl rfl ⟨by omega, by omega⟩ ⟨by omega, by omega⟩ (by omega) fun v' M' hN hn' hkp hnb => ?_
      have n4 : m.next ≤ M'.next := by omega
      simp only [Nat.reduceLT, T_set, X_assign, ev_T, lk_cons, Nat.reduceEqDiff, if_false, if_true, X_nil, blockQ_normal, thenQ_normal, w17_13, n4, X_move, X_bin EE_sym (op := .add) rfl, ev_const, bin_add, hw, okI_some, roundQ_normal, true_and]
      have ew : wkL L (i + 1) = wkL L i := by conv => lhs; unfold wkL; rw [if_neg he, List.append_nil]
      have et : tlL L (i + 1) = tlL L i ++ [(keyI L i, valI L i - 1#32)] := by conv => lhs; unfold tlL; rw [if_neg he]
      have hO2 : NewV m M' 1 u (wkL L i).length (il (wkL L i)) := ⟨hO.sl.keep fun y o hy ho => by rw [hkp y (hO.sl.lt hO.nx.fresh hy) (hne y hy), ho], hN.nx, hO.new⟩
      refine ⟨L.length - (i + 1), _, _, by omega, View.temps (l' := [(5, In ((i + 1 : Nat) : Int)), (4, v'), (3, u), (0, PT w)]) ⟨rfl, rfl, rfl, rfl, trivial⟩, i + 1, u, v', by omega, rfl, rfl, ?_, ?_, fun y hy e => ?_⟩
      · rw [ew]; exact hO2.bump _
      · rw [et, List.length_append, pl_snoc]; exact hN.bump _
      · rcases hnb y e with h1 | h1
        · exact hne y hy h1
        · have := hO.sl.lt hO.nx.fresh hy; omega
  · obtain rfl : i = L.length := by omega
    have q1 : ¬ (L.length : Int) < (L.length : Int) := by omega
    have c5 := cells_slV hL.sl
    have c6 := one_slV hL.sl
    simp only [w17_14, W_seq, w17_4, hnx, X_move, Nat.reduceLT, ev_T, lk_cons, Nat.reduceEqDiff, if_false, if_true, T_set, X_nilCheck EE_sym, nilV_ptr, okI_some, X_fieldAddr EE_sym fo_49_0, offV_ptr, Nat.add_zero, X_load EE_sym, load1 lay_34, Mem.get_bump, Mw, ld1_cells, h3, X_len EE_sym, hlen, X_bin EE_sym (op := .lss) rfl, bin_lss, q1, decide_false, X_nil, ne_eq, thenQ_normal, W_cond, CDi_f, W_exit, thenQ_exit, roundQ_exit, blockQ_exit, w17_16, Mem.next_bump, Nat.le_add_right_of_le, bump_bump, Nat.reduceAdd, X_store, store1 sz_34, c5, st1_cells, List.length_cons, List.length_nil, Nat.zero_add, h2, Nat.le_refl, List.all_cons, c6, List.all_nil, Bool.and_self, and_self, put_bump, w17_17, Mem.next_put, X_assign, W_ret, FinX_ret, resA_tmp, T_get, resA_nil, Option.map_some, oneOr1, true_and]
    refine (FrD.wr (vw := vw) hm hlw h1 hL).raw ⟨hO.sl.keep fun y o hy ho => ?_, hO.new, ul, DAt.wr hlw h2 hL, FrD.wr hm hlw h1 hL⟩
    have := hO.new y hy
    rw [Mem.get_bump, Mem.get_put, if_neg (by omega), ho]
end
end
end Go.Ab
