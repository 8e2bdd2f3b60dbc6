/- Signals: the bits of a mask, told by the program and by the document; two lists compared. -/
import Derived.Test.YthpncefkklojlaaSpC
import Derived.Test.YthpncefkklojlaaTN
namespace Go.Ab
open Go.Proofs Go.Proofs.Ythpncefkklojlaa.sig
noncomputable section
set_option maxHeartbeats 4000000
set_option maxRecDepth 10000
theorem eo44 : ElemOk EE.P 44 3 1 8 := ElemOk.of (z := [.int .i64 0]) und_44 (by kernel_rfl) (by kernel_rfl) rfl (by decide)
theorem bs44 {n : Int} : bsV EE.P 44 1 [(0, In n)] = some ([In n], 1) := by kernel_rfl
theorem ca_35 : callable EE.P 35 = true := by kernel_rfl
def bitsTo (x : BitVec 32) : Nat → List Int
  | 0 => []
  | n + 1 => bitsTo x n ++ (if 1 ≤ n ∧ x.getLsbD n = true then [(n : Int)] else [])
def il (l : List Int) : List Value := l.map In
abbrev SlI (M : Mem) (v : Value) (l : List Int) : Prop := SlV M 1 v l.length (il l)
section
variable {m : Mem} {x : BitVec 32}
theorem bitsTo_len : ∀ {n : Nat}, (bitsTo x n).length ≤ n
  | 0 => Nat.le_refl _
  | n + 1 => by
    have := bitsTo_len (n := n)
    unfold bitsTo
    rw [List.length_append]
    split
    · simp only [List.length_cons, List.length_nil]; omega
    · simp only [List.length_nil]; omega
theorem bitsTo_1 : bitsTo x 1 = [] := by unfold bitsTo bitsTo; rfl
theorem bitsTo_t {n : Nat} (h1 : 1 ≤ n) (h : x.getLsbD n = true) : bitsTo x (n + 1) = bitsTo x n ++ [(n : Int)] := by
  rw [bitsTo, if_pos ⟨h1, h⟩]
theorem bitsTo_f {n : Nat} (h : x.getLsbD n = false) : bitsTo x (n + 1) = bitsTo x n := by
  rw [bitsTo, if_neg (by rw [h]; simp), List.append_nil]
theorem il_snoc {l : List Int} {n : Int} : il (l ++ [n]) = il l ++ [In n] := by unfold il; rw [List.map_append]; rfl
theorem il_len {l : List Int} : (il l).length = l.length := by unfold il; rw [List.length_map]
theorem il_getD {l : List Int} {i : Nat} (h : i < l.length) : (il l).getD i undef = In (l.getD i 0) := by
  unfold il
  rw [List.getD_eq_getElem?_getD, List.getElem?_map, List.getElem?_eq_getElem h, List.getD_eq_getElem?_getD, List.getElem?_eq_getElem h]; rfl
/-- The document's. -/
theorem listD (hm : Fresh m) : ∃ v M, Con EE.P 25 [Um x] m v M ∧ NewV m M 1 v (bitsTo x 16).length (il (bitsTo x 16)) := by
  refine Con.raw EE_ok fn25 (Nat.le_of_ble_eq_true rfl) _ ?_
  simp only [f25, enumV, w25, W_seq, w25_0, Nat.le_refl, X_assign, ev_const, Nat.reduceLT, T_set, X_nil, thenQ_normal, w25_1, Mem.next_bump, Nat.le_add_right, bump_bump, Nat.reduceAdd, w25_2, W_block, w25_11, true_and]
  refine WX.loop_of (fun k t M => ∃ (n : Nat) (u : Value), 1 ≤ n ∧ n ≤ 16 ∧ k = 16 - n ∧ t = T 19 [(4, In n), (3, u), (0, Um x)] ∧ NewV m M 1 u (bitsTo x n).length (il (bitsTo x n))) ?_ (k := 15) (t1 := T 19 [(4, In (1 : Nat)), (3, .slice none 0 0), (0, Um x)]) (View.temps ⟨rfl, rfl, rfl, trivial⟩) ⟨1, _, by omega, by omega, rfl, rfl, by rw [bitsTo_1]; exact (NewV.nil hm).bump _⟩
  rintro k t M ⟨n, u, h1, h2, rfl, rfl, hL⟩
  have hnx := hL.nx.next
  by_cases hn : n ≤ 15
  · have g1 : ((n : Int) ≤ 15) = True := eq_true (by omega)
    have hw : IntKind.i64.wrap ((n : Int) + 1) = ((n + 1 : Nat) : Int) := by rw [wrap_i64 (by omega) (by omega)]; omega
    simp only [w25_10, W_seq, w25_3, hnx, X_move, Nat.reduceLT, ev_T, lk_cons, Nat.reduceEqDiff, if_false, if_true, T_set, X_bin EE_sym (op := .leq) rfl, ev_const, bin_leq, g1, decide_true, okI_some, X_nil, thenQ_normal, W_cond, CDi_t, W_skip, W_block, w25_8, w25_4, Mem.next_bump, Nat.le_add_right_of_le, bump_bump, Nat.reduceAdd, X_call ca_33, List.map_cons, List.map_nil, true_and]
    refine CallI.con0 (hasD (by omega)) ?_
    rw [Int.toNat_natCast]
    cases hb : x.getLsbD n with
    | false =>
      simp only [putT, Nat.reduceLT, T_set, X_assign, ev_T, lk_cons, Nat.reduceEqDiff, if_false, if_true, X_nil, thenQ_normal, W_seq, w25_5, Mem.next_bump, hnx, Nat.le_add_right_of_le, bump_bump, Nat.reduceAdd, X_move, W_cond, CDi_f, W_skip, blockQ_normal, w25_9, X_bin EE_sym (op := .add) rfl, ev_const, bin_add, hw, okI_some, roundQ_normal, true_and]
      refine ⟨16 - (n + 1), _, _, by omega, View.temps (l' := [(4, In ((n + 1 : Nat) : Int)), (3, u), (0, Um x)]) ⟨rfl, rfl, rfl, trivial⟩, n + 1, u, by omega, by omega, rfl, rfl, ?_⟩
      rw [bitsTo_f hb]
      exact hL.bump _
    | true =>
      have hlen := bitsTo_len (x := x) (n := n)
      have bs := bs44 (n := (n : Int))
      simp only [putT, Nat.reduceLT, T_set, X_assign, ev_T, lk_cons, Nat.reduceEqDiff, if_false, if_true, X_nil, thenQ_normal, W_seq, w25_5, Mem.next_bump, hnx, Nat.le_add_right_of_le, bump_bump, Nat.reduceAdd, X_move, W_cond, CDi_t, w25_7, w25_6, X_bs, List.map_cons, List.map_nil, bs, okI_some, Nat.add_assoc, put_bump, X_append, true_and]
      refine NewV.app1 eo44 (by decide) hm hL rfl rfl ⟨by omega, by omega⟩ ⟨by omega, by omega⟩ (by omega) fun v' M' hN hn' _ => ?_
      have n4 : m.next ≤ M'.next := by omega
      simp only [Nat.reduceLT, T_set, X_assign, ev_T, lk_cons, Nat.reduceEqDiff, if_false, if_true, X_nil, blockQ_normal, thenQ_normal, w25_9, n4, X_move, X_bin EE_sym (op := .add) rfl, ev_const, bin_add, hw, okI_some, roundQ_normal, true_and]
      refine ⟨16 - (n + 1), _, _, by omega, View.temps (l' := [(4, In ((n + 1 : Nat) : Int)), (3, v'), (0, Um x)]) ⟨rfl, rfl, rfl, trivial⟩, n + 1, v', by omega, by omega, rfl, rfl, ?_⟩
      rw [bitsTo_t h1 hb, List.length_append, il_snoc]
      exact hN.bump _
  · obtain rfl : n = 16 := by omega
    have g1 : (((16 : Nat) : Int) ≤ 15) = False := by decide
    simp only [w25_10, W_seq, w25_3, hnx, X_move, Nat.reduceLT, ev_T, lk_cons, Nat.reduceEqDiff, if_false, if_true, T_set, X_bin EE_sym (op := .leq) rfl, ev_const, bin_leq, g1, decide_false, okI_some, X_nil, Nat.reduceSub, thenQ_normal, W_cond, CDi_f, W_exit, thenQ_exit, roundQ_exit, blockQ_exit, w25_12, Mem.next_bump, Nat.le_add_right_of_le, bump_bump, Nat.reduceAdd, X_assign, W_ret, FinX_ret, resA_tmp, T_get, resA_nil, Option.map_some, oneOr1, true_and]
    exact ⟨(hL.bump _).raw, hL.bump _⟩
abbrev lrL (tl : List (Nat × Value)) : ALoop := ⟨.ready, none, T 13 tl, [7], c19_4, c19_7⟩
theorem list_it {mr : Mem} {lp c o zc : Nat} {tl : List (Nat × Value)} {co0 : Cells} (hmr : Fresh mr) (hl : mr.get lp = some (.loop (lrL tl))) (h3 : lk tl 3 = PT o) (hc : mr.get c = some (.cells (Cells.ofList [Um x]) true zc))
    (ho : mr.get o = some (.cells co0 true 0)) (hco : co0.n = 1) (hco0 : co0.nth 0 = some (.slice none 0 0)) (hco' : c ≠ o) :
    ∃ u m2, Con EE.P 35 [.func (.yield lp) #[] #[], PT c] mr u m2 ∧ ColV mr lp o (lrL tl) 1 (bitsTo x 16).length (il (bitsTo x 16)) m2 := by
  refine Con.raw EE_ok fn35 (Nat.le_of_ble_eq_true rfl) _ ?_
  simp only [f35, enumV, Nat.zero_add, w35, W_seq, w35_0, Nat.le_refl, X_assign, ev_const, Nat.reduceLT, T_set, X_nil, thenQ_normal, W_block, w35_6, true_and]
  refine WX.loop_of (fun k t M => ∃ n : Nat, 1 ≤ n ∧ n ≤ 16 ∧ k = 16 - n ∧ t = T 19 [(3, In n), (0, .func (.yield lp) #[] #[]), (1, PT c)] ∧ ColV mr lp o (lrL tl) 1 (bitsTo x n).length (il (bitsTo x n)) M) ?_ (k := 15) (t1 := T 19 [(3, In (1 : Nat)), (0, .func (.yield lp) #[] #[]), (1, PT c)]) (View.temps ⟨rfl, rfl, rfl, trivial⟩) ⟨1, by omega, by omega, rfl, rfl, by rw [bitsTo_1]; exact (ColV.start hmr hl ho hco hco0).bump _⟩
  rintro k t M ⟨n, h1, h2, rfl, rfl, hI⟩
  have hnx := hI.next
  have l1 := hmr.lt hl
  have l2 := hmr.lt ho
  have hol : ¬ o = lp := fun e => by rw [e, hl] at ho; cases ho
  have hlo : ¬ lp = o := fun e => hol e.symm
  have hcl : ¬ c = lp := fun e => by rw [e, hl] at hc; cases hc
  by_cases hn : n ≤ 15
  · have g1 : ((n : Int) ≤ 15) = True := eq_true (by omega)
    have hw : IntKind.i64.wrap ((n : Int) + 1) = ((n + 1 : Nat) : Int) := by rw [wrap_i64 (by omega) (by omega)]; omega
    have Mc : M.get c = some (.cells (Cells.ofList [Um x]) true zc) := by rw [hI.old c (hmr.lt hc) hco' hcl, hc]
    have e := bin_shr32 (P := EE.P) (ty := 22) (a := x) (b := (n : Int)) (by omega)
    rw [Int.toNat_natCast] at e
    have e2 : decide (((((x >>> n) &&& 1#32).toNat : Nat) : Int) = 1) = x.getLsbD n := by
      rw [← mb_bit]; unfold mb; exact decide_eq_decide.2 (by omega)
    cases hb : x.getLsbD n with
    | false =>
      rw [hb] at e2
      simp only [w35_5, W_seq, w35_1, hnx, X_move, Nat.reduceLT, ev_T, lk_cons, Nat.reduceEqDiff, if_false, if_true, T_set, X_bin EE_sym (op := .leq) rfl, ev_const, bin_leq, g1, decide_true, okI_some, X_nil, thenQ_normal, W_cond, CDi_t, W_skip, W_block, w35_3, w35_2, Mem.next_bump, Nat.le_add_right_of_le, bump_bump, Nat.reduceAdd, X_load EE_sym, load1 lay_22, Mem.get_bump, Mc, ld1_cells, nth_ofList, List.getElem?_cons_zero, X_bin EE_sym (op := .shr) rfl, e, X_bin EE_sym (op := .and) rfl, bin_and1, X_eql EE_sym, eq_int, e2, X_guard EE_sym, T_get, GDi_ft, putT, X_pick EE_sym, pickV_bool, Bool.false_eq_true, CDi_f, blockQ_normal, w35_4, X_bin EE_sym (op := .add) rfl, bin_add, hw, X_assign, roundQ_normal, true_and]
      refine ⟨16 - (n + 1), _, _, by omega, View.temps (l' := [(3, In ((n + 1 : Nat) : Int)), (0, .func (.yield lp) #[] #[]), (1, PT c)]) ⟨rfl, rfl, rfl, trivial⟩, n + 1, by omega, by omega, rfl, rfl, ?_⟩
      rw [bitsTo_f hb]
      exact hI.bump _
    | true =>
      rw [hb] at e2
      simp only [w35_5, W_seq, w35_1, hnx, X_move, Nat.reduceLT, ev_T, lk_cons, Nat.reduceEqDiff, if_false, if_true, T_set, X_bin EE_sym (op := .leq) rfl, ev_const, bin_leq, g1, decide_true, okI_some, X_nil, thenQ_normal, W_cond, CDi_t, W_skip, W_block, w35_3, w35_2, Mem.next_bump, Nat.le_add_right_of_le, bump_bump, Nat.reduceAdd, X_load EE_sym, load1 lay_22, Mem.get_bump, Mc, ld1_cells, nth_ofList, List.getElem?_cons_zero, X_bin EE_sym (op := .shr) rfl, e, X_bin EE_sym (op := .and) rfl, bin_and1, X_eql EE_sym, eq_int, e2, X_guard EE_sym, T_get, GDi_tt, Nat.one_ne_zero, yieldOf_y, Option.isSome_some, X_yield, Option.getD_some, List.toList_toArray, List.map_cons, List.map_nil, List.nil_append, true_and]
      have Ml := hI.loop
      obtain ⟨co, u, Mo, j1, j2, j3, j4⟩ := hI.out
      refine CallI.round EE_ok (r := lrL tl) (by simp only [Mem.get_bump, Ml]) rfl rfl (by simp) ?_
      have bs := bs44 (n := (n : Int))
      have hlen := bitsTo_len (x := x) (n := n)
      simp only [Mem.next_bump, setAll1, Nat.reduceLT, T_set, w19_4, w19_3, Nat.le_refl, bump_bump, Nat.reduceAdd, X_assign, ev_T, lk_cons, if_true, X_nil, putT, X_guard EE_sym, T_get, Nat.reduceEqDiff, if_false, GDi_tt, X_un EE_sym, roundQ1_normal, Nat.add_le_add_iff_left, Nat.reduceLeDiff, Mem.get_bump, Ml, loopI_some, put_bump, w19_7, W_block, w19_6, w19_5, Mem.next_put, X_load EE_sym, h3, load1 lay_44, Mem.get_put, hol, Mo, ld1_cells, j2, okI_some, X_move, X_bs, List.map_cons, List.map_nil, bs, Nat.add_assoc, X_append, true_and]
      refine hI.app (rb := ⟨.busy, none, T 13 tl, [7], c19_4, c19_7⟩) eo44 (by decide) hol l1 l2 hmr.n64 Mo j2 rfl rfl ⟨by omega, by omega⟩ ⟨by omega, by omega⟩ (by omega) (by omega) fun b' c' M' hMl hMo hcn hMn hold hfin => ?_
      have n2 : mr.next ≤ M'.next := by omega
      have n3 : M.next ≤ M'.next := by omega
      have n9 : M.next + 14 ≤ M'.next := by omega
      simp only [Nat.reduceLT, T_set, X_store, ev_T, lk_cons, Nat.reduceEqDiff, h3, if_false, if_true, store1 sz_44, hMo, cells_slice, st1_cells, List.length_cons, List.length_nil, Nat.zero_add, hcn, Nat.le_refl, List.all_cons, oneCell, List.all_nil, Bool.and_self, and_self, okI_some, X_nil, Mem.next_bump, blockQ_normal, roundQ2_normal, Mem.next_put, n9, Mem.get_put, hlo, hMl, loopI_some, un_not, Bool.not_true, X_pick EE_sym, ev_const, pickV_bool, thenQ_normal, W_cond, CDi_f, W_skip, true_and]
      refine ⟨(hfin 0).2 13 (by omega) (by omega), ?_⟩
      simp only [w35_4, Mem.next_put, n2, X_move, Nat.reduceLT, ev_T, lk_cons, Nat.reduceEqDiff, if_false, if_true, T_set, X_bin EE_sym (op := .add) rfl, ev_const, bin_add, hw, okI_some, X_assign, X_nil, roundQ_normal, true_and]
      refine ⟨16 - (n + 1), _, _, by omega, View.temps (l' := [(3, In ((n + 1 : Nat) : Int)), (0, .func (.yield lp) #[] #[]), (1, PT c)]) ⟨rfl, rfl, rfl, trivial⟩, n + 1, by omega, by omega, rfl, rfl, ?_⟩
      rw [bitsTo_t h1 hb, List.length_append, il_snoc]
      exact (hfin 3).1
  · obtain rfl : n = 16 := by omega
    have g1 : (((16 : Nat) : Int) ≤ 15) = False := by decide
    simp only [w35_5, W_seq, w35_1, hnx, X_move, Nat.reduceLT, ev_T, lk_cons, Nat.reduceEqDiff, if_false, if_true, T_set, X_bin EE_sym (op := .leq) rfl, ev_const, bin_leq, g1, decide_false, okI_some, X_nil, Nat.reduceSub, thenQ_normal, W_cond, CDi_f, W_exit, thenQ_exit, roundQ_exit, blockQ_exit, FinX_normal, resA_nil, oneOr0, true_and]
    exact ⟨(hI.bump _).grow (by rw [hl]; simp) (by rw [ho]; simp), hI.bump _⟩
theorem seqP : Con EE.P 26 [Um x] m (.func (.func 35) [].toArray [PT m.next].toArray) ((m.put m.next (.cells (Cells.ofList [Um x]) true 0)).bump 1) := by
  refine Con.of EE_ok fn26 (Nat.le_of_ble_eq_true rfl) Grow.new fun hm => ?_
  simp only [f26, enumV, w26, W_seq, w26_0, Nat.le_refl, X_box, Nat.reduceLT, ev_T, lk_cons, if_true, box_int, okI_some, Nat.add_zero, T_set, put_bump, X_assign, ev_const, X_nil, thenQ_normal, w26_1, Mem.next_bump, Mem.next_put, Nat.le_add_right, bump_bump, Nat.reduceAdd, X_makeFunc EE_sym, List.map_toArray, List.map_nil, List.map_cons, Nat.reduceEqDiff, if_false, W_ret, FinC_ret, resA_tmp, T_get, resA_nil, Option.map_some, oneOr1, true_and]
  exact tidy_new (o1 := .cells (Cells.ofList [Um x]) true 0) (by omega) (rv_func (l := []) (k := []) trivial ⟨rv_new, trivial⟩) (by simp only [Mem.get_bump, Mem.get_put, if_true]) ⟨rfl, rfl, rfl, fun i hi => by
    rw [ofList_n] at hi
    rw [get_ofList hi]
    rcases i with _ | i
    · exact rv_int _ _
    · simp at hi⟩ fun k hk => by simp only [Mem.get_bump, Mem.get_put, ne_new0 hk, if_false]
theorem listP (hm : Fresh m) : ∃ v M, Con EE.P 19 [Um x] m v M ∧ NewV m M 1 v (bitsTo x 16).length (il (bitsTo x 16)) := by
  refine Con.raw EE_ok fn19 (Nat.le_of_ble_eq_true rfl) _ ?_
  simp only [f19, enumV, w19, W_seq, w19_0, Nat.le_refl, X_assign, ev_const, Nat.reduceLT, T_set, X_nil, thenQ_normal, w19_1, Mem.next_bump, Nat.le_add_right, bump_bump, Nat.reduceAdd, X_alloc, zero_44, okI_some, Nat.add_zero, put_bump, w19_2, Mem.next_put, X_move, ev_T, lk_cons, Nat.reduceEqDiff, if_true, if_false, X_call ca_26, List.map_cons, List.map_nil, true_and]
  refine CallI.con0 seqP ?_
  simp only [Mem.next_bump, Mem.next_put, put_bump, bump_bump, Nat.reduceAdd, putT, Nat.reduceLT, T_set, X_nil, thenQ_normal, W_block, w19_8]
  refine W_rfnx (l' := [(3, PT (m.next + 1))]) (R := fun _ m2 => ColV (((((m.put (m.next + 1) (.cells (Cells.ofList [.slice none 0 0]) true 0)).put (m.next + 4) (.cells (Cells.ofList [Um x]) true 0)).bump 5).put (m.next + 5) (.loop (lrL _))).bump 1) (m.next + 5) (m.next + 1) (lrL _) 1 (bitsTo x 16).length (il (bitsTo x 16)) m2) [] [PT (m.next + 4)] (by simp only [Mem.next_bump, Mem.next_put]; omega) (by simp only [ev_T, lk_cons, Nat.reduceLT, Nat.reduceEqDiff, reduceIte]) ca_35 (list_it (co0 := Cells.ofList [.slice none 0 0]) (zc := 0) ?_ get_eq_b rfl (by simp only [Mem.get_bump, Mem.get_put, show ¬ m.next + 4 = m.next + 5 by omega, Mem.next_bump, Mem.next_put, if_false, if_true]) (by simp only [Mem.get_bump, Mem.get_put, Mem.next_bump, Mem.next_put, show ¬ m.next + 1 = m.next + 5 by omega, show ¬ m.next + 1 = m.next + 4 by omega, if_false, if_true]) rfl rfl (by omega)) (fun p hp => ?_) (fun _ m2 hI => ?_)
  · exact Fresh.of_low (by have := hm.n64; (try simp only [Mem.next_bump, Mem.next_put]); omega) (by repeat (first | exact Low.of hm (by (try simp only [Mem.next_bump, Mem.next_put]); omega) | refine Low.put ?_ (by (try simp only [Mem.next_bump, Mem.next_put]); omega) | refine Low.bump ?_))
  · simp only [List.mem_singleton] at hp
    subst hp
    exact rv_ptr (.inl ⟨rfl, by simp only [Mem.next_bump, Mem.next_put]; omega⟩)
  · have n2 := hI.next
    simp only [Mem.next_bump, Mem.next_put] at n2
    obtain ⟨co, u, k1, k2, k3, k4, k5⟩ := hI.out
    have k6 : ¬ m.next + 1 = m.next + 5 := by omega
    refine rfnQ_normal hI.loop ?_
    have n2' : m.next ≤ m2.next := by omega
    have hl := hI.loop
    simp only [Mem.next_bump, Mem.next_put, blockQ_normal, thenQ_normal, W_seq, w19_9, n2', X_load EE_sym, Nat.reduceLT, ev_T, lk_cons, if_true, load1 lay_44, Mem.get_bump, Mem.get_put, k6, k1, if_false, ld1_cells, k3, okI_some, T_set, X_assign, Nat.reduceEqDiff, X_nil, W_ret, FinX_ret, resA_tmp, T_get, resA_nil, Option.map_some, oneOr1, true_and]
    have hn : ∀ o j, Nx m ((m2.put (m.next + 5) o).bump j) := fun o j => by
      refine ⟨by simp only [Mem.next_bump, Mem.next_put]; omega, Fresh.of_low (by have := hm.n64; simp only [Mem.next_bump, Mem.next_put]; omega) (Low.up (Low.bump (Low.put hI.low (by omega))) (by simp only [Mem.next_bump, Mem.next_put]; omega)), fun y hy => ?_⟩
      simp only [Mem.get_bump, Mem.get_put, show ¬ y = m.next + 5 by omega, if_false]
      rw [hI.old y (by simp only [Mem.next_bump, Mem.next_put]; omega) (by omega) (by omega)]
      simp only [Mem.get_bump, Mem.get_put, show ¬ y = m.next + 5 by omega, show ¬ y = m.next + 4 by omega, show ¬ y = m.next + 1 by omega, if_false]
    refine ⟨⟨(hn _ _).next, fun y hy e => by rw [(hn _ _).old y hy, e]⟩, k4.keep fun y o hy ho => ?_, hn _ _, fun y hy => ?_⟩
    · have := (k5 y hy).1
      simp only [Mem.next_bump, Mem.next_put] at this
      simp only [Mem.get_bump, Mem.get_put, show ¬ y = m.next + 5 by omega, if_false]
      exact ho
    · have := (k5 y hy).1
      simp only [Mem.next_bump, Mem.next_put] at this
      omega
theorem sameP {v1 v2 : Value} {k : List Int} (h1 : SlI m v1 k) (h2 : SlI m v2 k) (hk : k.length < 4294967296) : Con EE.P 24 [v1, v2] m (.bool true) m := by
  refine Con.of EE_ok fn24 (Nat.le_of_ble_eq_true rfl) Grow.rfl fun hm => ?_
  have hl1 : ∀ M, lenA EE.P 44 v1 M = some (In k.length) := fun M => h1.lenA und_44
  have hl2 : ∀ M, lenA EE.P 44 v2 M = some (In k.length) := fun M => h2.lenA und_44
  simp only [f24, enumV, Nat.zero_add, w24, W_seq, w24_0, Nat.le_refl, X_assign, ev_const, Nat.reduceLT, T_set, X_nil, thenQ_normal, w24_1, Mem.next_bump, Nat.le_add_right, bump_bump, Nat.reduceAdd, X_move, ev_T, lk_cons, Nat.reduceEqDiff, Nat.one_ne_zero, if_false, if_true, X_len EE_sym, hl1, okI_some, hl2, X_neq EE_sym, neq_int, decide_true, Bool.not_true, W_cond, CDi_f, W_skip, w24_4, W_block, w24_12, true_and]
  refine WX.loop_of (fun x t M => ∃ i j : Nat, i ≤ k.length ∧ x = k.length - i ∧ t = T 26 [(5, In i), (0, v1), (1, v2)] ∧ M = m.bump j) ?_ (k := k.length) (t1 := T 26 [(5, In (0 : Nat)), (0, v1), (1, v2)]) (View.temps ⟨rfl, rfl, rfl, trivial⟩) ⟨0, _, by omega, rfl, rfl, rfl⟩
  rintro x t M ⟨i, j, hi, rfl, rfl, rfl⟩
  by_cases hi2 : i < k.length
  · have q1 : (i : Int) < (k.length : Int) := by omega
    have q2 : (0 : Int) ≤ i := by omega
    have hw : IntKind.i64.wrap ((i : Int) + 1) = ((i + 1 : Nat) : Int) := by rw [wrap_i64 (by omega) (by omega)]; omega
    obtain ⟨B1, c1, cB1, rfl, i1, i2, i3, i4⟩ := h1.cons (by omega)
    obtain ⟨B2, c2, cB2, rfl, j1, j2, j3, j4⟩ := h2.cons (by omega)
    have q3 : cB1.nth i = some (In (k.getD i 0)) := by rw [nth_lt (by omega), i4 i (by rw [il_len]; exact hi2), il_getD hi2]
    have q4 : cB2.nth i = some (In (k.getD i 0)) := by rw [nth_lt (by omega), j4 i (by rw [il_len]; exact hi2), il_getD hi2]
    simp only [w24_11, W_seq, w24_5, Mem.next_bump, Nat.le_add_right, bump_bump, X_move, Nat.reduceLT, ev_T, lk_cons, Nat.reduceEqDiff, if_false, if_true, T_set, Nat.one_ne_zero, X_len EE_sym, len_slice und_44, okI_some, X_bin EE_sym (op := .lss) rfl, bin_lss, q1, decide_true, X_nil, thenQ_normal, W_cond, CDi_t, W_skip, W_block, w24_9, w24_6, Nat.add_assoc, Nat.reduceAdd, X_indexAddr EE_sym, q2, idxV_slice und_44 sz_3, Int.toNat_natCast, Nat.mul_one, Nat.zero_add, X_load EE_sym, load1 lay_3, Mem.get_bump, i1, ld1_cells, q3, j1, q4, X_neq EE_sym, neq_int, Bool.not_true, CDi_f, blockQ_normal, w24_10, X_bin EE_sym (op := .add) rfl, ev_const, bin_add, hw, X_assign, roundQ_normal, true_and]
    exact ⟨k.length - (i + 1), _, _, by omega, View.temps (l' := [(5, In ((i + 1 : Nat) : Int)), (0, .slice (some ⟨B1, 0, none⟩) k.length c1), (1, .slice (some ⟨B2, 0, none⟩) k.length c2)]) ⟨rfl, rfl, rfl, trivial⟩, i + 1, _, by omega, rfl, rfl, rfl⟩
  · have q1 : ¬ (i : Int) < (k.length : Int) := by omega
    simp only [w24_11, W_seq, w24_5, Mem.next_bump, Nat.le_add_right, bump_bump, X_move, Nat.reduceLT, ev_T, lk_cons, Nat.reduceEqDiff, if_false, if_true, T_set, Nat.one_ne_zero, X_len EE_sym, hl1, okI_some, X_bin EE_sym (op := .lss) rfl, bin_lss, q1, decide_false, X_nil, thenQ_normal, W_cond, CDi_f, W_exit, thenQ_exit, roundQ_exit, blockQ_exit, w24_13, Nat.add_assoc, Nat.reduceAdd, X_assign, ev_const, W_ret, FinC_ret, resA_tmp, T_get, resA_nil, Option.map_some, oneOr1, true_and]
    exact TidyE.pure rfl fun _ _ => rfl
end
end
end Go.Ab
