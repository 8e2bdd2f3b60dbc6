/- Tree: Tree, Freeze. -/
import Derived.Test.YtjajeeoahbidlaaTrFG
import Derived.Test.YtjajeeoahbidlaaTrWE
import Derived.Test.YtjajeeoahbidlaaTS
namespace Go.Ab
open Go.Proofs
noncomputable section
set_option maxHeartbeats 4000000
set_option maxRecDepth 10000
theorem sort_t {m : Mem} {b c : Nat} {cb : Cells} {l : List Int} (hb : m.get b = some (.cells cb true 1)) (hn : cb.n = c) (hlc : l.length ≤ c) (hc : ∀ x, x < l.length → cb.get x = In (l.getD x 0)) (hl : l.length < 4294967296) :
    Con EE.P 31 [.slice (some ⟨b, 0, none⟩) l.length c] m (.tuple [].toArray) (m.put b (.cells (cb.write 0 ((isort l).map In)) true 1)) := sort_call (P := Try.prog) Ytjajeeoahbidlaa.sort hb hn hlc hc hl
section
variable {M : Mem} {sz n : Nat} {x v : Value} {fl : List Value} {E : Env}
theorem src_sl (h : SlV M sz x n fl) (hn : n ≠ 0) : srcA sz x M = some (fl, n) := by
  obtain ⟨b, c, cs, rfl, h1, h2, h3, h4⟩ := h.cons hn
  have hl := h.len
  rw [src_at, h1, srcC_cells]
  have : cs.sub 0 (n * sz) = some fl := by
    unfold Cells.sub
    rw [if_pos (by rw [h2, Nat.zero_add]; exact Nat.mul_le_mul_right _ h3), seg_get (by omega) fun i hi => by rw [Nat.zero_add]; exact h4 i (by omega)]
  rw [this]; rfl
theorem src_sl0 (h : SlV M sz x 0 fl) : srcA sz x M = some ([], 0) := by
  rcases h.at_ with ⟨_, rfl⟩ | ⟨b, c, cs, rfl, h1, h2, h3, h4⟩
  · rfl
  · rw [src_at, h1, srcC_cells]
    have : cs.sub 0 (0 * sz) = some [] := by
      unfold Cells.sub
      rw [if_pos (by omega), seg_get (l := []) (by simp) fun i hi => absurd hi (by omega)]
    rw [this]; rfl
theorem app_0 {ts e bytes id n0 : Nat} (he : ElemOk E.P ts e sz bytes) (h : GrowC M n0 sz fl n v) (hsrc : srcA sz x M = some ([], 0)) : appendA E.P id #[ts, ts] v x M = some (v, M) := by
  rcases h.at_ with ⟨_, rfl⟩ | ⟨_, N, cN, _, _, _, _, _, rfl⟩
  · rw [app_eq he (by rw [hsrc]; rfl) (Nat.le_refl _), hsrc]; rfl
  · rw [app_eq he (by rw [hsrc]; rfl) (Nat.le_refl _), hsrc]; rfl
end
section
variable {m m' : Mem} {t b : Nat} {room top : Int} {L : TL} {p pid : Int}
theorem all_il {l : List Int} : (il l).all oneCell = true := by
  unfold il
  rw [List.all_map]
  exact List.all_eq_true.2 fun _ _ => rfl
theorem tree_ok (h : TAt m t b room top L) (hm : Fresh m) (hw : wfT L) (hP : Par L) (hlen : L.length < 1000000) : ∃ u m', Con EE.P 20 [PT t, In pid] m u m' ∧ NewV m m' 1 u (treeL L pid).length (il (treeL L pid)) := by
  refine Con.raw EE_ok fn20 (Nat.le_of_ble_eq_true rfl) _ ?_
  have lt := h.lt hm
  simp only [f20, enumV, Nat.zero_add, w20, W_seq, w20_0, Nat.le_refl, X_assign, ev_const, Nat.reduceLT, T_set, X_nil, thenQ_normal, w20_1, Mem.next_bump, Nat.le_add_right, bump_bump, Nat.reduceAdd, X_move, ev_T, lk_cons, Nat.reduceEqDiff, Nat.one_ne_zero, if_false, if_true, X_call ca_17, List.map_cons, List.map_nil, true_and]
  refine CallI.con0 (state_ok (h.bump _)) ?_
  unfold treeL
  by_cases c0 : (at_ L pid).2.1 = 0
  · have d0 := decide_eq_true c0
    rw [if_pos c0]
    simp only [putT, Nat.reduceLT, T_set, X_eql EE_sym, ev_T, lk_cons, Nat.reduceEqDiff, if_false, if_true, ev_const, eq_int, d0, okI_some, X_nil, List.length_nil, List.map_nil, thenQ_normal, W_cond, CDi_t, w20_3, W_seq, w20_2, Mem.next_bump, Nat.le_add_right, bump_bump, Nat.reduceAdd, X_assign, W_ret, thenQ_ret, FinX_ret, resA_tmp, T_get, resA_nil, Option.map_some, oneOr1, true_and]
    exact ⟨((NewV.nil (sz := 1) hm).bump _).raw, (NewV.nil hm).bump _⟩
  · have d0 := decide_eq_false c0
    rw [if_neg c0]
    have hp := in_keys c0
    have b1 := bs33 (p := pid)
    simp only [putT, Nat.reduceLT, T_set, X_eql EE_sym, ev_T, lk_cons, Nat.reduceEqDiff, if_false, if_true, ev_const, eq_int, d0, okI_some, X_nil, thenQ_normal, W_cond, CDi_f, W_skip, W_seq, w20_4, Mem.next_bump, Nat.le_add_right, bump_bump, Nat.reduceAdd, X_move, X_bs, List.map_cons, List.map_nil, b1, Nat.add_assoc, put_bump, X_assign, w20_5, Mem.next_put, W_block, w20_11, true_and]
    have hn0 : Nx m ((m.put (m.next + 6) (.cells (Cells.ofList [In pid]) true 1)).bump 9) := ⟨by (try simp only [Mem.next_bump, Mem.next_put]); omega, Fresh.of_low (by have := hm.n64; (try simp only [Mem.next_bump, Mem.next_put]); omega) (by repeat (first | exact Low.of hm (by (try simp only [Mem.next_bump, Mem.next_put]); omega) | refine Low.put ?_ (by (try simp only [Mem.next_bump, Mem.next_put]); omega) | refine Low.bump ?_)), fun y hy => by simp only [Mem.get_bump, Mem.get_put, ne_new hy, if_false]⟩
    have hg0 : GrowC ((m.put (m.next + 6) (.cells (Cells.ofList [In pid]) true 1)).bump 9) m.next 1 (il (bst L pid 0)) (bst L pid 0).length (.slice (some ⟨m.next + 6, 0, none⟩) 1 1) :=
      ⟨rfl, .inr ⟨Nat.one_ne_zero, m.next + 6, Cells.ofList [In pid], by omega, by simp only [Mem.next_bump, Mem.next_put]; omega, by rw [Mem.get_bump, Mem.get_put, if_pos rfl], rfl, fun x hx => get_ofList hx, rfl⟩⟩
    refine WX.loop_of (fun k tt M => ∃ (i : Nat) (v : Value), i ≤ (bst L pid i).length ∧ k = L.length - i ∧ tt = T 30 [(6, In i), (5, v), (0, PT t), (1, In pid)] ∧ Nx m M ∧ GrowC M m.next 1 (il (bst L pid i)) (bst L pid i).length v) ?_ (k := L.length) (t1 := T 30 [(6, In (0 : Nat)), (5, .slice (some ⟨m.next + 6, 0, none⟩) 1 1), (0, PT t), (1, In pid)]) (View.temps ⟨rfl, rfl, rfl, rfl, trivial⟩) ⟨0, _, by omega, rfl, rfl, hn0, hg0⟩
    rintro k tt M ⟨i, v, hi, rfl, rfl, hn, hg⟩
    have hnx := hn.next
    have hbl := bst_len hP hp (i := i)
    have hlenA : ∀ M, lenA EE.P 33 v M = some (In (bst L pid i).length) := fun M => by
      rcases hg.at_ with ⟨e, rfl⟩ | ⟨_, N, cN, _, _, _, _, _, rfl⟩
      · rw [len_slice und_33, e]
      · rw [len_slice und_33]
    by_cases hi2 : i < (bst L pid i).length
    · have g1 : (i : Int) < ((bst L pid i).length : Int) := by omega
      have g2 : (0 : Int) ≤ i := by omega
      have hw1 : IntKind.i64.wrap ((i : Int) + 1) = ((i + 1 : Nat) : Int) := by rw [wrap_i64 (by omega) (by omega)]; omega
      obtain ⟨N, cN, k1, k2, k3, k4, k5, rfl⟩ : ∃ N cN, m.next ≤ N ∧ N < M.next ∧ M.get N = some (.cells cN true 1) ∧ cN.n = (il (bst L pid i)).length ∧ (∀ x, x < (il (bst L pid i)).length → cN.get x = (il (bst L pid i)).getD x undef) ∧ v = .slice (some ⟨N, 0, none⟩) (bst L pid i).length (bst L pid i).length := by
        rcases hg.at_ with ⟨e, rfl⟩ | ⟨_, N, cN, h1, h2, h3, h4, h5, rfl⟩
        · omega
        · exact ⟨N, cN, h1, h2, h3, h4, h5, rfl⟩
      have hq : cN.nth i = some (In ((bst L pid i).getD i 0)) := il_nth (n := (bst L pid i).length) (c := (bst L pid i).length) (by rw [k4]; unfold il; rw [List.length_map, Nat.mul_one]) (Nat.le_refl _) k5 hi2
      simp only [w20_10, W_seq, w20_6, hnx, X_move, Nat.reduceLT, ev_T, lk_cons, Nat.reduceEqDiff, if_false, if_true, T_set, X_len EE_sym, len_slice und_33, okI_some, X_bin EE_sym (op := .lss) rfl, bin_lss, g1, decide_true, X_nil, thenQ_normal, W_cond, CDi_t, W_skip, W_block, w20_8, w20_7, Mem.next_bump, Nat.le_add_right_of_le, bump_bump, Nat.reduceAdd, Nat.one_ne_zero, X_indexAddr EE_sym, g2, idxV_slice und_33 sz_3, Int.toNat_natCast, Nat.mul_one, Nat.zero_add, X_load EE_sym, load1 lay_3, Mem.get_bump, k3, ld1_cells, hq, X_call ca_13, List.map_cons, List.map_nil, true_and]
      refine CallI.ex2 (children_ok ((h.nx hm hn).bump _) hn.fresh.bump hw hlen) fun u M1 hN' => ?_
      have hN := hN'.of_bump
      have hn1 := hn.trans hN.nx
      have n1 := hn1.next
      have n1' := hN'.nx.next
      rw [Mem.next_bump] at n1'
      have hg1 : GrowC M1 m.next 1 (il (bst L pid i)) (bst L pid i).length (.slice (some ⟨N, 0, none⟩) (bst L pid i).length (bst L pid i).length) := hg.keep (by omega) fun y h1 h2 => .inr (hN.nx.old y h2)
      have hmore := bst_more hi2
      have hbl1 := bst_len hP hp (i := i + 1)
      rw [hmore, List.length_append] at hbl1
      by_cases hk : (kids L ((bst L pid i).getD i 0)).length = 0
      · have hsrc := src_sl0 (hk ▸ hN.sl)
        have hap := fun id => app_0 (id := id) (E := EE) eo33 hg1 hsrc
        simp only [putT, Nat.reduceLT, T_set, X_append, Nat.add_assoc, Nat.reduceAdd, ev_T, lk_cons, Nat.reduceEqDiff, if_false, if_true, hap, okI_some, X_assign, X_nil, blockQ_normal, thenQ_normal, w20_9, n1, X_move, X_bin EE_sym (op := .add) rfl, ev_const, bin_add, hw1, roundQ_normal, true_and]
        have he : bst L pid (i + 1) = bst L pid i := by rw [hmore, List.length_eq_zero_iff.1 hk, List.append_nil]
        exact ⟨L.length - (i + 1), _, _, by omega, View.temps (l' := [(6, In ((i + 1 : Nat) : Int)), (5, .slice (some ⟨N, 0, none⟩) (bst L pid i).length (bst L pid i).length), (0, PT t), (1, In pid)]) ⟨rfl, rfl, rfl, rfl, trivial⟩, i + 1, _, by rw [he]; omega, rfl, rfl, hn1.bump _, by rw [he]; exact hg1.bump _⟩
      · have hsrc := src_sl hN.sl hk
        simp only [putT, Nat.reduceLT, T_set, X_append, Nat.add_assoc, Nat.reduceAdd, ev_T, lk_cons, Nat.reduceEqDiff, if_false, if_true]
        refine okI_append eo33 hg1 hsrc hk (by unfold il; rw [List.length_map, Nat.mul_one]) all_il (by omega) (by omega) ⟨by omega, by omega⟩ fun v' M' hg2 ho hnn _ hlo => ?_
        have n2 : m.next ≤ M'.next := by omega
        simp only [Nat.reduceLT, T_set, X_assign, ev_T, lk_cons, Nat.reduceEqDiff, if_false, if_true, X_nil, blockQ_normal, thenQ_normal, w20_9, n2, X_move, X_bin EE_sym (op := .add) rfl, ev_const, bin_add, hw1, okI_some, roundQ_normal, true_and]
        have hn2 : Nx m M' := ⟨n2, Fresh.of_low (by rw [hnn]; exact hn1.fresh.n64) (fun y hy => hlo y (by omega) (hn1.fresh.none y (by omega))), fun y hy => by rw [ho y hy, hn1.old y hy]⟩
        exact ⟨L.length - (i + 1), _, _, by omega, View.temps (l' := [(6, In ((i + 1 : Nat) : Int)), (5, v'), (0, PT t), (1, In pid)]) ⟨rfl, rfl, rfl, rfl, trivial⟩, i + 1, v', by rw [hmore, List.length_append]; omega, rfl, rfl, hn2.bump _, (hg2.congr (by rw [hmore]; unfold il; rw [List.map_append]) (by rw [hmore, List.length_append])).bump _⟩
    · have g1 : ¬ (i : Int) < ((bst L pid i).length : Int) := by omega
      simp only [w20_10, W_seq, w20_6, hnx, X_move, Nat.reduceLT, ev_T, lk_cons, Nat.reduceEqDiff, if_false, if_true, T_set, X_len EE_sym, hlenA, okI_some, X_bin EE_sym (op := .lss) rfl, bin_lss, g1, decide_false, X_nil, thenQ_normal, W_cond, CDi_f, W_exit, thenQ_exit, roundQ_exit, blockQ_exit, w20_12, Mem.next_bump, Nat.le_add_right_of_le, bump_bump, Nat.reduceAdd, X_call ca_31, List.map_cons, List.map_nil, true_and]
      have hfin := tree_at hP hp (by omega) hi2
      have hpos : (bst L pid i).length ≠ 0 := fun e => by have := (bst_inv hP hp i).top; rw [List.length_eq_zero_iff.1 e] at this; cases this
      obtain ⟨N, cN, k1, k2, k3, k4, k5, rfl⟩ : ∃ N cN, m.next ≤ N ∧ N < M.next ∧ M.get N = some (.cells cN true 1) ∧ cN.n = (il (bst L pid i)).length ∧ (∀ x, x < (il (bst L pid i)).length → cN.get x = (il (bst L pid i)).getD x undef) ∧ v = .slice (some ⟨N, 0, none⟩) (bst L pid i).length (bst L pid i).length := by
        rcases hg.at_ with ⟨e, rfl⟩ | ⟨_, N, cN, h1, h2, h3, h4, h5, rfl⟩
        · exact absurd e hpos
        · exact ⟨N, cN, h1, h2, h3, h4, h5, rfl⟩
      rw [hfin]
      have hil : (il (bst L pid i)).length = (bst L pid i).length := List.length_map _
      refine CallI.con0 (sort_t (m := M.bump _) k3 (by rw [k4, hil]) (Nat.le_refl _) (fun x hx => ?_) (by omega)) ?_
      · rw [k5 x (by rw [hil]; exact hx)]
        unfold il
        rw [List.getD_eq_getElem?_getD, List.getElem?_map, List.getD_eq_getElem?_getD, List.getElem?_eq_getElem hx]; rfl
      simp only [put_bump, putT, Nat.reduceLT, T_set, X_nil, thenQ_normal, W_seq, w20_13, Mem.next_bump, Mem.next_put, hnx, Nat.le_add_right_of_le, bump_bump, Nat.reduceAdd, X_move, ev_T, lk_cons, Nat.reduceEqDiff, if_false, if_true, X_assign, W_ret, FinX_ret, resA_tmp, T_get, resA_nil, Option.map_some, okI_some, oneOr1, true_and]
      have hsl : (isort (bst L pid i)).length = (bst L pid i).length := (isort_perm _).length_eq
      have hnn : Nx m ((M.put N (.cells (cN.write 0 (List.map In (isort (bst L pid i)))) true 1)).bump 8) := (hn.putn k1 k2).bump _
      rw [hsl]
      have hN : NewV m ((M.put N (.cells (cN.write 0 (List.map In (isort (bst L pid i)))) true 1)).bump 8) 1 (.slice (some ⟨N, 0, none⟩) (bst L pid i).length (bst L pid i).length) (bst L pid i).length (il (isort (bst L pid i))) := by
        refine ⟨⟨by unfold il; rw [List.length_map, hsl, Nat.mul_one], .inr ⟨N, _, _, rfl, by rw [Mem.get_bump, Mem.get_put, if_pos rfl], by rw [write_n, k4, hil, Nat.mul_one], Nat.le_refl _, fun x hx => ?_⟩⟩, hnn, fun y hy => by cases hy; exact k1⟩
        rw [get_write, if_pos ⟨Nat.zero_le _, by rw [Nat.zero_add]; exact hx⟩, Nat.sub_zero]
      exact ⟨hN.raw, hN⟩
/-- What Freeze answers, and leaves. -/
def freezeE (L : TL) (p : Int) : Int := if (at_ L p).2.1 = 1 then (if p = 1 then 2 else 0) else 2
def frz (A : TL) (c : Int) : TL := mset A c ((at_ A c).1, 3, 0#32)
def freezeL (L : TL) (p : Int) : TL := if freezeE L p = 0 then (treeL L p).foldl frz L else L
theorem b57z {x : Int} : buildA EE.P 57 [(0, In x), (1, In 3)] = some (.agg [In x, In 3, Um 0#32].toArray) := by kernel_rfl
theorem freeze_ok (h : TAt m t b room top L) (hm : Fresh m) (hw : wfT L) (hP : Par L) (hlen : L.length < 100000) : ∃ u m', Con EE.P 12 [PT t, In p] m u m' ∧ (∃ v, u = .tuple [v, In (freezeE L p)].toArray ∧ (if freezeE L p = 0 then SlV m' 1 v (treeL L p).length (il (treeL L p)) else v = .slice none 0 0) ∧ ∀ y, slB v = some y → m.next ≤ y) ∧ TAt m' t b room top (freezeL L p) ∧ FrT m m' t b := by
  refine Con.raw EE_ok fn12 (Nat.le_of_ble_eq_true rfl) _ ?_
  obtain ⟨cs, h1, h2, h3, h4, h5⟩ := h.cs
  have lt := h.lt hm
  simp only [f12, enumV, Nat.zero_add, w12, W_seq, w12_0, Nat.le_refl, X_assign, ev_const, Nat.reduceLT, T_set, X_nil, thenQ_normal, W_block, w12_8, w12_1, Mem.next_bump, Nat.le_add_right, bump_bump, Nat.reduceAdd, X_move, ev_T, lk_cons, Nat.reduceEqDiff, Nat.one_ne_zero, if_false, if_true, X_call ca_27, List.map_cons, List.map_nil, true_and]
  refine CallI.con0 (none_ok (h.bump _)) ?_
  simp only [putT, Nat.reduceLT, T_set, X_assign, ev_T, lk_cons, Nat.reduceEqDiff, if_false, if_true, X_nil, thenQ_normal, W_cond, CDi_f, w12_7, W_seq, w12_4, Mem.next_bump, Nat.le_add_right, bump_bump, Nat.reduceAdd, X_move, Nat.one_ne_zero, X_call ca_17, List.map_cons, List.map_nil, true_and]
  refine CallI.con0 (state_ok (h.bump _)) ?_
  by_cases c1 : (at_ L p).2.1 = 1
  · have d1 : decide ((at_ L p).2.1 = 1) = true := decide_eq_true c1
    by_cases c2 : p = 1
    · have d2 := decide_eq_true c2
      have e1 : freezeE L p = 2 := by unfold freezeE; rw [if_pos c1, if_pos c2]
      unfold freezeL
      rw [e1]
      simp only [putT, Nat.reduceLT, T_set, X_neq EE_sym, ev_T, lk_cons, Nat.reduceEqDiff, if_false, if_true, ev_const, neq_int, d1, Bool.not_true, okI_some, X_move, X_guard EE_sym, T_get, GDi_ff, X_eql EE_sym, eq_int, d2, X_pick EE_sym, pickV_bool, Bool.false_eq_true, X_assign, X_nil, Int.reduceEq, thenQ_normal, W_cond, CDi_t, w12_6, W_seq, w12_5, Mem.next_bump, Nat.le_add_right, bump_bump, Nat.reduceAdd, W_ret, blockQ_ret, thenQ_ret, FinX_ret, resA_tmp, resA_nil, Option.map_some, oneOr2, true_and]
      exact (FrT.same (t := t) (b := b) hm _).raw ⟨⟨_, rfl, rfl, fun y hy => (by cases hy)⟩, h.bump _, FrT.same hm _⟩
    · have d2 := decide_eq_false c2
      have e1 : freezeE L p = 0 := by unfold freezeE; rw [if_pos c1, if_neg c2]
      unfold freezeL
      rw [e1]
      simp only [putT, Nat.reduceLT, T_set, X_neq EE_sym, ev_T, lk_cons, Nat.reduceEqDiff, if_false, if_true, ev_const, neq_int, d1, Bool.not_true, okI_some, X_move, X_guard EE_sym, T_get, GDi_ff, X_eql EE_sym, eq_int, d2, X_pick EE_sym, pickV_bool, Bool.false_eq_true, X_assign, X_nil, thenQ_normal, W_cond, CDi_f, W_skip, blockQ_normal, W_seq, w12_9, Mem.next_bump, Nat.le_add_right, bump_bump, Nat.reduceAdd, Nat.one_ne_zero, X_call ca_20, List.map_cons, List.map_nil, true_and]
      refine CallI.ex2 (tree_ok (pid := p) (h.bump _) hm.bump hw hP (by omega)) fun v M1 hN => ?_
      have hN := hN.of_bump
      have hT1 := h.nx hm hN.nx
      have hF1 : FrT m M1 t b := FrT.of_nx hN.nx
      have n1 := hF1.next
      obtain ⟨KK, hKK⟩ : ∃ KK, KK = treeL L p := ⟨_, rfl⟩
      have hKl : KK.length ≤ L.length := by
        rw [hKK]
        unfold treeL
        rw [if_neg (by omega), (isort_perm _).length_eq]
        exact bst_len hP (in_keys (by omega))
      have hNs : SlV M1 1 v KK.length (il KK) := by rw [hKK]; exact hN.sl
      have hNn : ∀ y, slB v = some y → m.next ≤ y := hN.new
      rw [← hKK]
      have h6 := h.mp
      have hlenA : ∀ M, lenA EE.P 33 v M = some (In KK.length) := fun M => hNs.lenA und_33
      clear hN
      simp only [putT, Nat.reduceLT, T_set, X_assign, ev_T, lk_cons, Nat.reduceEqDiff, if_false, if_true, X_nil, thenQ_normal, W_seq, w12_10, n1, X_move, X_len EE_sym, hlenA, okI_some, ev_const, W_block, w12_17, true_and]
      refine WX.loop_of (fun k tt M => ∃ i : Nat, i ≤ KK.length ∧ k = KK.length - i ∧ tt = T 45 [(26, In i), (25, In KK.length), (24, v), (6, v), (0, PT t)] ∧ TAt M t b room top ((KK.take i).foldl frz L) ∧ FrT m M t b ∧ SlV M 1 v KK.length (il KK)) ?_ (k := KK.length) (t1 := T 45 [(26, In (0 : Nat)), (25, In KK.length), (24, v), (6, v), (0, PT t)]) (View.temps ⟨rfl, rfl, rfl, rfl, rfl, trivial⟩) ⟨0, by omega, rfl, rfl, hT1.bump _, hF1.bump _, hNs.bump _⟩
      rintro k tt M2 ⟨i, hi, rfl, rfl, hT, hF, hV⟩
      have n2 := hF.next
      by_cases hi2 : i < KK.length
      · have g1 : (i : Int) < (KK.length : Int) := by omega
        have g2 : (0 : Int) ≤ i := by omega
        have hw1 : IntKind.i64.wrap ((i : Int) + 1) = ((i + 1 : Nat) : Int) := by rw [wrap_i64 (by omega) (by omega)]; omega
        obtain ⟨K, cK, csK, rfl, k1, k2, k3, k4⟩ := hV.cons (by omega)
        have hq : csK.nth i = some (In (KK.getD i 0)) := il_nth k2 k3 k4 hi2
        obtain ⟨ds, t1, _, _, t4, _⟩ := hT.cs
        have t6 := hT.mp
        have l2 := hT.lt hF.fresh
        have lK := hF.fresh.lt k1
        simp only [w12_16, W_seq, w12_11, n2, X_bin EE_sym (op := .lss) rfl, Nat.reduceLT, ev_T, lk_cons, Nat.reduceEqDiff, if_false, if_true, bin_lss, g1, decide_true, okI_some, T_set, X_nil, thenQ_normal, W_cond, CDi_t, W_skip, W_block, w12_14, w12_12, Mem.next_bump, Nat.le_add_right_of_le, bump_bump, Nat.reduceAdd, X_indexAddr EE_sym, g2, idxV_slice und_33 sz_3, Int.toNat_natCast, Nat.mul_one, Nat.zero_add, X_load EE_sym, load1 lay_3, Mem.get_bump, k1, ld1_cells, hq, X_assign, w12_13, X_move, X_nilCheck EE_sym, nilV_ptr, X_fieldAddr EE_sym fo_60_1, offV_ptr, load1 lay_58, t1, t4, X_lookup EE_sym, lk_at, t6, lupC_f, getD_Pv, X_field EE_sym, true_and]
        rw [fi_0 (y := at_ ((KK.take i).foldl frz L) (KK.getD i 0)) rfl]
        simp only [okI_some, Nat.reduceLT, T_set, X_build EE_sym, List.map_cons, ev_T, lk_cons, Nat.reduceEqDiff, if_false, if_true, ev_const, List.map_nil, b57z, X_mapUpdate, ms_at, Mem.get_bump, t6, msP, put_bump, X_nil, blockQ_normal, thenQ_normal, w12_15, Mem.next_bump, Mem.next_put, n2, Nat.le_add_right_of_le, bump_bump, Nat.reduceAdd, X_bin EE_sym (op := .add) rfl, bin_add, hw1, X_move, roundQ_normal, true_and]
        have hstep : (KK.take (i + 1)).foldl frz L = mset ((KK.take i).foldl frz L) (KK.getD i 0) ((at_ ((KK.take i).foldl frz L) (KK.getD i 0)).1, 3, 0#32) := by
          rw [List.take_add_one, List.getElem?_eq_getElem hi2, List.foldl_append, List.getD_eq_getElem?_getD, List.getElem?_eq_getElem hi2]; rfl
        refine ⟨KK.length - (i + 1), _, _, by omega, View.temps (l' := [(26, In ((i + 1 : Nat) : Int)), (25, In KK.length), (24, .slice (some ⟨K, 0, none⟩) KK.length cK), (6, .slice (some ⟨K, 0, none⟩) KK.length cK), (0, PT t)]) ⟨rfl, rfl, rfl, rfl, rfl, trivial⟩, i + 1, by omega, rfl, rfl, ?_, hF.lo hT (by rw [h6]; simp) (Lo.refl hF.fresh), hV.keep fun y o hy ho => ?_⟩
        · rw [hstep]
          exact TAt.lo hF.fresh hT (Lo.refl hF.fresh)
        · have e : K = y := Option.some.inj hy
          subst e
          rw [Mem.get_bump, Mem.get_put, if_neg (fun e => by rw [e, t6] at k1; cases k1)]
          exact ho
      · obtain rfl : i = KK.length := by omega
        have q1 : ¬ (KK.length : Int) < (KK.length : Int) := by omega
        rw [List.take_of_length_le (Nat.le_refl _)] at hT
        simp only [w12_16, W_seq, w12_11, n2, X_bin EE_sym (op := .lss) rfl, Nat.reduceLT, ev_T, lk_cons, Nat.reduceEqDiff, if_false, if_true, bin_lss, q1, decide_false, okI_some, T_set, X_nil, thenQ_normal, W_cond, CDi_f, W_exit, thenQ_exit, roundQ_exit, blockQ_exit, w12_18, Mem.next_bump, Nat.le_add_right_of_le, bump_bump, Nat.reduceAdd, X_move, X_assign, ev_const, W_ret, FinX_ret, resA_tmp, T_get, resA_nil, Option.map_some, oneOr2, true_and]
        exact (hF.bump _).raw ⟨⟨v, rfl, hV.bump _, hNn⟩, hT.bump _, hF.bump _⟩
  · have d1 : decide ((at_ L p).2.1 = 1) = false := decide_eq_false c1
    have e1 : freezeE L p = 2 := by unfold freezeE; rw [if_neg c1]
    unfold freezeL
    rw [e1]
    simp only [putT, Nat.reduceLT, T_set, X_neq EE_sym, ev_T, lk_cons, Nat.reduceEqDiff, if_false, if_true, ev_const, neq_int, d1, Bool.not_false, okI_some, X_move, X_guard EE_sym, T_get, GDi_tf, X_pick EE_sym, pickV_bool, X_assign, X_nil, Int.reduceEq, thenQ_normal, W_cond, CDi_t, w12_6, W_seq, w12_5, Mem.next_bump, Nat.le_add_right, bump_bump, Nat.reduceAdd, W_ret, blockQ_ret, thenQ_ret, FinX_ret, resA_tmp, resA_nil, Option.map_some, oneOr2, true_and]
    exact (FrT.same (t := t) (b := b) hm _).raw ⟨⟨_, rfl, rfl, fun y hy => (by cases hy)⟩, h.bump _, FrT.same hm _⟩
end
end
end Go.Ab
