/- Queue: all pids: slices.Concat, Values, Collect, Sorted. -/
import Derived.Test.YtikmfccjfhobbaaQuBI
import Derived.Test.YtikmfccjfhobbaaQuS
namespace Go.Ab
open Go.Proofs
noncomputable section
set_option maxHeartbeats 4000000
set_option maxRecDepth 10000
def catTo (l : Nat → List Int) (n : Nat) : List Int := (List.range n).flatMap l
theorem catTo_succ {l : Nat → List Int} {n : Nat} : catTo l (n + 1) = catTo l n ++ l n := by
  unfold catTo
  rw [List.range_succ, List.flatMap_append]; simp
theorem catTo_le {l : Nat → List Int} {i n : Nat} (h : i ≤ n) : (catTo l i).length ≤ (catTo l n).length := by
  induction n with
  | zero => obtain rfl : i = 0 := by omega
            exact Nat.le_refl _
  | succ n ih =>
    rw [catTo_succ, List.length_append]
    by_cases e : i ≤ n
    · have := ih e; omega
    · obtain rfl : i = n + 1 := by omega
      rw [catTo_succ, List.length_append]; exact Nat.le_refl _
theorem il_one (l : List Int) : (il l).all oneCell = true := by
  rw [List.all_eq_true]
  intro v hv
  obtain ⟨n, _, rfl⟩ := List.mem_map.1 hv
  rfl
theorem src_sl {M : Mem} {v : Value} {l : List Int} (h : SlI M v l) : srcA 1 v M = some (il l, l.length) := by
  rcases h.at_ with ⟨h1, rfl⟩ | ⟨b, c, cs, rfl, k1, k2, k3, k4⟩
  · have : l = [] := List.length_eq_zero_iff.1 h1
    subst this; rfl
  · rw [src_at, k1, srcC_cells, sub_get (l := il l) (by simp) (by omega) fun x hx => ?_]
    · rfl
    · rw [Nat.zero_add, k4 x (by simpa using hx)]
/-- A list that is made, in a block that has room for all. -/
def RoomL (M : Mem) (n0 S : Nat) (v : Value) (l : List Int) : Prop := (S = 0 ∧ l = [] ∧ v = .slice none 0 0) ∨ ∃ b cs, v = .slice (some ⟨b, 0, none⟩) l.length S ∧ n0 ≤ b ∧ M.get b = some (.cells cs true 1) ∧ cs.n = S ∧ l.length ≤ S ∧ ∀ x, x < l.length → cs.get x = In (l.getD x 0)
theorem getD_app {l k : List Int} {x : Nat} : (l ++ k).getD x 0 = if x < l.length then l.getD x 0 else k.getD (x - l.length) 0 := by
  simp only [List.getD_eq_getElem?_getD]
  split
  · rw [List.getElem?_append_left (by assumption)]
  · rw [List.getElem?_append_right (by omega)]
theorem room_app {M : Mem} {n0 S id : Nat} {v x : Value} {l k : List Int} (h : RoomL M n0 S v l) (hs : SlI M x k) (hS : l.length + k.length ≤ S) (hf : ∀ b, M.get b ≠ none → b < M.next) (hn0 : n0 ≤ M.next) :
    ∃ v' M', appendA EE.P id #[30, 30] v x M = some (v', M') ∧ RoomL M' n0 S v' (l ++ k) ∧ M'.next = M.next ∧ (∀ y, y < n0 → M'.get y = M.get y) ∧ (∀ y, M.get y = none → M'.get y = none) := by
  have hsrc := src_sl hs
  rcases h with ⟨h1, h2, h3⟩ | ⟨b, cs, rfl, h2, h3, h4, h5, h6⟩
  · subst h1 h2 h3
    have hk : k = [] := List.length_eq_zero_iff.1 (by simpa using hS)
    subst hk
    refine ⟨.slice none 0 0, M, ?_, .inl ⟨rfl, rfl, rfl⟩, rfl, fun _ _ => rfl, fun _ e => e⟩
    obtain ⟨h1, ⟨i, h2, h3, h4⟩, h5, z, h6, h7, h8⟩ := eo30
    unfold appendA
    simp only [List.getElem?_toArray, List.getElem?_cons_zero, List.getElem?_cons_succ, h1, h2, h3, hsrc]
    rfl
  · by_cases hk : k.length = 0
    · have hk : k = [] := List.length_eq_zero_iff.1 hk
      subst hk
      exact ⟨_, M, app_none (k := 0) hsrc h5, .inr ⟨b, cs, by simp, h2, h3, h4, by simpa using h5, by simpa using h6⟩, rfl, fun _ _ => rfl, fun _ e => e⟩
    · refine ⟨_, _, app_in eo30 h3 (by rw [h4, Nat.mul_one]) hS hsrc hk (by simp) (il_one k), .inr ⟨b, _, by rw [List.length_append], h2, by rw [Mem.get_put, if_pos rfl], by rw [write_n, h4], by rw [List.length_append]; exact hS, fun x hx => ?_⟩, rfl, fun y hy => by rw [Mem.get_put, if_neg (by omega)], fun y e => by
        have : y ≠ b := fun e2 => by rw [e2, h3] at e; cases e
        rw [Mem.get_put, if_neg this, e]⟩
      rw [List.length_append] at hx
      rw [get_write, getD_app]
      by_cases hxl : x < l.length
      · rw [if_neg (by omega), if_pos hxl, h6 x hxl]
      · rw [if_pos (by rw [List.length_map]; omega), if_neg hxl, Nat.mul_one, il_getD (by omega)]
theorem RoomL.sl {M : Mem} {n0 S : Nat} {v : Value} {l : List Int} (h : RoomL M n0 S v l) : SlI M v l := by
  rcases h with ⟨_, rfl, rfl⟩ | ⟨b, cs, rfl, _, h3, h4, h5, h6⟩
  · exact SlV.nil
  · exact ⟨by simp, .inr ⟨b, S, cs, rfl, h3, by rw [h4, Nat.mul_one], h5, fun x hx => by rw [List.length_map] at hx; rw [h6 x hx, il_getD hx]⟩⟩
theorem RoomL.new {M : Mem} {n0 S : Nat} {v : Value} {l : List Int} (h : RoomL M n0 S v l) : ∀ y, slB v = some y → n0 ≤ y := by
  rcases h with ⟨_, rfl, rfl⟩ | ⟨b, cs, rfl, h2, _⟩
  · intro y hy; cases hy
  · intro y hy; cases hy; exact h2
section
variable {m : Mem} {b : Nat} {O : Nat → Prop} {sl : Nat → Value} {cs : Cells} {c : Nat} {l : Nat → List Int}
theorem concat_ok (h : QAt m b O sl cs c l) (hm : Fresh m) (hO : ∀ y, O y → y < m.next) (hS : (catTo l 8).length < 1073741824) : ∃ v m', Con EE.P 37 [.slice (some ⟨b, 1, none⟩) 8 8] m v m' ∧ NewL m m' v (catTo l 8) := by
  refine Con.raw EE_ok fn37 (Nat.le_of_ble_eq_true rfl) _ ?_
  simp only [f37, enumV, w37, W_seq, w37_0, Nat.le_refl, X_assign, ev_const, Nat.reduceLT, T_set, X_nil, thenQ_normal, w37_1, Mem.next_bump, Nat.le_add_right, bump_bump, Nat.reduceAdd, w37_2, X_move, ev_T, lk_cons, Nat.reduceEqDiff, if_true, if_false, X_len EE_sym, len_slice und_67, okI_some, W_block, w37_12, true_and]
  refine WX.loop_of (fun x t M => ∃ i j : Nat, i ≤ 8 ∧ x = 8 - i ∧ t = T 36 [(11, In i), (10, In 8), (9, .slice (some ⟨b, 1, none⟩) 8 8), (3, In (catTo l i).length), (0, .slice (some ⟨b, 1, none⟩) 8 8)] ∧ M = m.bump j) ?_ (k := 8) (t1 := T 36 [(11, In (0 : Nat)), (10, In 8), (9, .slice (some ⟨b, 1, none⟩) 8 8), (3, In (catTo l 0).length), (0, .slice (some ⟨b, 1, none⟩) 8 8)]) (View.temps ⟨rfl, rfl, rfl, rfl, rfl, trivial⟩) ⟨0, _, by omega, rfl, rfl, rfl⟩
  rintro x t M ⟨i, j, hi, rfl, rfl, rfl⟩
  by_cases hi8 : i < 8
  · have q1 : (i : Int) < 8 := by omega
    have q1' : (i : Int) < ((8 : Nat) : Int) := q1
    have q2 : (0 : Int) ≤ i := by omega
    have q3 := h.ck i hi8
    have hl1 : ∀ M, lenA EE.P 30 (sl i) M = some (In (l i).length) := fun M => (h.sls i hi8).lenA und_30
    have hle := catTo_le (l := l) (show i + 1 ≤ 8 by omega)
    have hsu : (catTo l (i + 1)).length = (catTo l i).length + (l i).length := by rw [catTo_succ, List.length_append]
    have hwl : IntKind.i64.wrap (((catTo l i).length : Int) + ((l i).length : Int)) = ((catTo l (i + 1)).length : Int) := by rw [wrap_i64 (by omega) (by omega), hsu]; omega
    have hwi : IntKind.i64.wrap ((i : Int) + 1) = ((i + 1 : Nat) : Int) := by rw [wrap_i64 (by omega) (by omega)]; omega
    have hng : ¬ ((catTo l (i + 1)).length : Int) < 0 := by omega
    simp only [w37_11, W_seq, w37_3, Mem.next_bump, Nat.le_add_right, bump_bump, X_bin EE_sym (op := .lss) rfl, Nat.reduceLT, ev_T, lk_cons, Nat.reduceEqDiff, if_false, if_true, bin_lss, q1, decide_true, okI_some, T_set, X_nil, thenQ_normal, W_cond, CDi_t, W_skip, W_block, w37_9, w37_4, Nat.add_assoc, Nat.reduceAdd, X_indexAddr EE_sym, q2, q1', idxV_slice und_67 sz_30, Int.toNat_natCast, Nat.mul_one, X_load EE_sym, load1 lay_30, Mem.get_bump, h.at_, ld1_cells, q3, X_assign, w37_5, X_move, X_len EE_sym, hl1, X_bin EE_sym (op := .add) rfl, bin_add, hwl, w37_6, ev_const, hng, decide_false, CDi_f, blockQ_normal, w37_10, hwi, roundQ_normal, true_and]
    exact ⟨8 - (i + 1), _, _, by omega, View.temps (l' := [(11, In ((i + 1 : Nat) : Int)), (10, In 8), (9, .slice (some ⟨b, 1, none⟩) 8 8), (3, In (catTo l (i + 1)).length), (0, .slice (some ⟨b, 1, none⟩) 8 8)]) ⟨rfl, rfl, rfl, rfl, rfl, trivial⟩, i + 1, _, by omega, rfl, rfl, rfl⟩
  obtain rfl : i = 8 := by omega
  have q1 : ¬ ((8 : Nat) : Int) < 8 := by omega
  simp only [w37_11, W_seq, w37_3, Mem.next_bump, Nat.le_add_right, bump_bump, X_bin EE_sym (op := .lss) rfl, Nat.reduceLT, ev_T, lk_cons, Nat.reduceEqDiff, if_false, if_true, bin_lss, q1, decide_false, okI_some, T_set, X_nil, Nat.reduceSub, thenQ_normal, W_cond, CDi_f, W_exit, thenQ_exit, roundQ_exit, blockQ_exit, w37_13, Nat.add_assoc, Nat.reduceAdd, X_move, X_call ca_46, List.map_cons, ev_const, List.map_nil, true_and]
  obtain ⟨S, hSe⟩ : ∃ S, S = (catTo l 8).length := ⟨_, rfl⟩
  rw [← hSe] at hS ⊢
  refine CallI.ex2 (R := fun v M => RoomL M m.next S v (catTo l 0) ∧ Nx m M) ?_ fun v M1 hv => ?_
  · by_cases h0 : S = 0
    · rw [h0]
      exact ⟨_, _, grow_q0, .inl ⟨rfl, rfl, rfl⟩, (Nx.refl hm).bump _⟩
    · have hnx : ∀ (j : Nat) (o : AObj), Nx m (((m.bump j).bump 1).put (m.bump j).next o) := fun j o => by
        refine ⟨by simp only [Mem.next_bump, Mem.next_put]; omega, Fresh.of_low (by have := hm.n64; simp only [Mem.next_bump, Mem.next_put]; omega) (Low.put (Low.bump (Low.bump (Low.of hm (by simp only [Mem.next_bump, Mem.next_put]; omega)))) (by simp only [Mem.next_bump, Mem.next_put]; omega)), fun y hy => by simp only [Mem.get_bump, Mem.get_put, Mem.next_bump]; rw [if_neg (by omega)]⟩
      exact ⟨_, _, grow_q (by omega) (by omega), .inr ⟨_, _, rfl, by rw [Mem.next_bump]; omega, by rw [Mem.get_put, if_pos rfl], by simp [ofList_n], Nat.zero_le _, fun x hx => absurd hx (Nat.not_lt_zero _)⟩, hnx _ _⟩
  obtain ⟨hR, hN⟩ := hv
  have n1 := hN.next
  simp only [putT, Nat.reduceLT, T_set, X_assign, ev_T, lk_cons, Nat.reduceEqDiff, if_false, if_true, X_nil, thenQ_normal, W_seq, w37_14, n1, X_move, X_len EE_sym, len_slice und_67, okI_some, ev_const, W_block, w37_21, true_and]
  refine WX.loop_of (fun x t M => ∃ (i : Nat) (v : Value), i ≤ 8 ∧ x = 8 - i ∧ t = T 36 [(27, In i), (26, In 8), (25, .slice (some ⟨b, 1, none⟩) 8 8), (6, v)] ∧ RoomL M m.next S v (catTo l i) ∧ Nx m M) ?_ (k := 8) (t1 := T 36 [(27, In (0 : Nat)), (26, In 8), (25, .slice (some ⟨b, 1, none⟩) 8 8), (6, v)]) (View.temps ⟨rfl, rfl, rfl, rfl, trivial⟩) ⟨0, v, by omega, rfl, rfl, hR, hN.bump _⟩
  clear hR hN n1 v M1
  rintro x t M ⟨i, v, hi, rfl, rfl, hR, hN⟩
  have n1 := hN.next
  by_cases hi8 : i < 8
  · have q1 : (i : Int) < 8 := by omega
    have q1' : (i : Int) < ((8 : Nat) : Int) := q1
    have q2 : (0 : Int) ≤ i := by omega
    have hM := h.nx hm hN
    have q3 := hM.ck i hi8
    have hle := catTo_le (l := l) (show i + 1 ≤ 8 by omega)
    have hsu : (catTo l (i + 1)).length = (catTo l i).length + (l i).length := by rw [catTo_succ, List.length_append]
    have hwi : IntKind.i64.wrap ((i : Int) + 1) = ((i + 1 : Nat) : Int) := by rw [wrap_i64 (by omega) (by omega)]; omega
    simp only [w37_20, W_seq, w37_15, n1, X_bin EE_sym (op := .lss) rfl, Nat.reduceLT, ev_T, lk_cons, Nat.reduceEqDiff, if_false, if_true, bin_lss, q1, decide_true, okI_some, T_set, X_nil, thenQ_normal, W_cond, CDi_t, W_skip, W_block, w37_18, w37_16, Mem.next_bump, Nat.le_add_right_of_le, bump_bump, Nat.reduceAdd, X_indexAddr EE_sym, q2, q1', idxV_slice und_67 sz_30, Int.toNat_natCast, Nat.mul_one, X_load EE_sym, load1 lay_30, Mem.get_bump, hM.at_, ld1_cells, q3, X_assign, w37_17, X_move, X_append, Nat.add_assoc, true_and]
    refine okI_of (R := fun q => RoomL q.2 m.next S q.1 (catTo l (i + 1)) ∧ Nx m q.2) ?_ fun q hq => ?_
    · have key : ∀ j id, ∃ q : Value × Mem, appendA EE.P id #[30, 30] v (sl i) (M.bump j) = some q ∧ RoomL q.2 m.next S q.1 (catTo l (i + 1)) ∧ Nx m q.2 := fun j id => by
        have hlt : ∀ y, (M.bump j).get y ≠ none → y < (M.bump j).next := fun y hy => by
          rw [Mem.get_bump] at hy
          rcases Nat.lt_or_ge y M.next with h1 | h1
          · rw [Mem.next_bump]; omega
          · exact absurd (hN.fresh.none y h1) hy
        obtain ⟨v', M', k1, k2, k3, k4, k5⟩ := room_app (id := id) (M := M.bump j) hR ((hM.sls i hi8).bump j) (by rw [← hsu]; omega) hlt (by rw [Mem.next_bump]; omega)
        exact ⟨(v', M'), k1, by rw [catTo_succ]; exact k2, by rw [k3, Mem.next_bump]; omega, Fresh.of_low (by rw [k3, Mem.next_bump]; have := hN.fresh.n64; omega) fun y hy => k5 y (by rw [k3, Mem.next_bump] at hy; rw [Mem.get_bump]; exact hN.fresh.none y (by omega)), fun y hy => by rw [k4 y hy, Mem.get_bump, hN.old y hy]⟩
      exact key _ _
    obtain ⟨v', M'⟩ := q
    obtain ⟨hR', hN'⟩ := hq
    have n2 := hN'.next
    simp only [Nat.reduceLT, T_set, X_assign, ev_T, lk_cons, Nat.reduceEqDiff, if_false, if_true, X_nil, blockQ_normal, thenQ_normal, w37_19, n2, X_bin EE_sym (op := .add) rfl, ev_const, bin_add, hwi, okI_some, X_move, roundQ_normal, true_and]
    exact ⟨8 - (i + 1), _, _, by omega, View.temps (l' := [(27, In ((i + 1 : Nat) : Int)), (26, In 8), (25, .slice (some ⟨b, 1, none⟩) 8 8), (6, v')]) ⟨rfl, rfl, rfl, rfl, trivial⟩, i + 1, v', by omega, rfl, rfl, hR', hN'.bump _⟩
  obtain rfl : i = 8 := by omega
  have q1 : ¬ ((8 : Nat) : Int) < 8 := by omega
  simp only [w37_20, W_seq, w37_15, n1, X_bin EE_sym (op := .lss) rfl, Nat.reduceLT, ev_T, lk_cons, Nat.reduceEqDiff, if_false, if_true, bin_lss, q1, decide_false, okI_some, T_set, X_nil, Nat.reduceSub, thenQ_normal, W_cond, CDi_f, W_exit, thenQ_exit, roundQ_exit, blockQ_exit, w37_22, Mem.next_bump, Nat.le_add_right_of_le, bump_bump, Nat.reduceAdd, X_move, X_assign, W_ret, FinX_ret, resA_tmp, T_get, resA_nil, Option.map_some, oneOr1, true_and]
  have hN' := hN.bump 3
  exact ⟨⟨hN'.next, fun y hy e => by rw [hN'.old y hy, e]⟩, hR.sl.bump 3, hN', hR.new⟩
theorem boxS {v : Value} {k : List Int} {M : Mem} (h : SlI M v k) : boxL v = some [v] ∧ v.cells.toList = [v] := by
  rcases h.at_ with ⟨_, rfl⟩ | ⟨b, c, cs, rfl, _⟩
  · exact ⟨rfl, rfl⟩
  · exact ⟨rfl, rfl⟩
theorem values_ok {v : Value} {k : List Int} (hm : Fresh m) (hv : SlI m v k) : ∃ u m', Con EE.P 36 [v] m u m' ∧ ∃ x, u = .func (.func 45) #[] [PT x].toArray ∧ m.next ≤ x ∧ m'.get x = some (.cells (Cells.ofList [v]) true 0) ∧ Nx m m' := by
  refine Con.raw EE_ok fn36 (Nat.le_of_ble_eq_true rfl) _ ?_
  have hb := (boxS hv).1
  simp only [f36, enumV, w36, W_seq, w36_0, Nat.le_refl, X_box, Nat.reduceLT, ev_T, lk_cons, if_true, hb, okI_some, Nat.add_zero, T_set, put_bump, X_assign, ev_const, X_nil, thenQ_normal, w36_1, Mem.next_bump, Mem.next_put, Nat.le_add_right, bump_bump, Nat.reduceAdd, X_makeFunc EE_sym, List.map_toArray, List.map_nil, List.map_cons, Nat.reduceEqDiff, if_false, W_ret, FinX_ret, resA_tmp, T_get, resA_nil, Option.map_some, oneOr1, true_and]
  have hn : Nx m ((m.put m.next (AObj.cells (Cells.ofList [v]) true 0)).bump 4) := ⟨by (try simp only [Mem.next_bump, Mem.next_put]); omega, Fresh.of_low (by have := hm.n64; (try simp only [Mem.next_bump, Mem.next_put]); omega) (by repeat (first | exact Low.of hm (by (try simp only [Mem.next_bump, Mem.next_put]); omega) | refine Low.put ?_ (by (try simp only [Mem.next_bump, Mem.next_put]); omega) | refine Low.bump ?_)), fun y hy => by simp only [Mem.get_bump, Mem.get_put, ne_new0 hy, if_false]⟩
  exact ⟨⟨hn.next, fun y hy e => by rw [hn.old y hy, e]⟩, m.next, rfl, Nat.le_refl _, by simp only [Mem.get_bump, Mem.get_put, if_true], hn⟩
/-- Behind some of them. -/
structure ColI (mr : Mem) (lp o : Nat) (tl : List (Nat × Value)) (k : List Int) (M : Mem) : Prop where
  next : mr.next ≤ M.next
  low : Low M M.next
  old : ∀ y, y < mr.next → y ≠ o → y ≠ lp → M.get y = mr.get y
  loop : M.get lp = some (.loop ⟨.ready, none, T 13 tl, [7], c48_3, c48_6⟩)
  out : ∃ co v, M.get o = some (.cells co true 0) ∧ co.n = 1 ∧ co.nth 0 = some v ∧ SlI M v k ∧ ∀ y, slB v = some y → mr.next ≤ y ∧ y < M.next
theorem ColI.bump {mr M : Mem} {lp o : Nat} {tl : List (Nat × Value)} {k : List Int} (h : ColI mr lp o tl k M) (j : Nat) : ColI mr lp o tl k (M.bump j) := by
  obtain ⟨co, v, h1, h2, h3, h4, h5⟩ := h.out
  exact ⟨by rw [Mem.next_bump]; exact Nat.le_add_right_of_le h.next, Low.up (Low.bump h.low) (by rw [Mem.next_bump]; omega), h.old, h.loop, co, v, h1, h2, h3, h4.bump j, fun y hy => ⟨(h5 y hy).1, by rw [Mem.next_bump]; have := (h5 y hy).2; omega⟩⟩
theorem ColI.grow {mr M : Mem} {lp o : Nat} {tl : List (Nat × Value)} {k : List Int} (h : ColI mr lp o tl k M) (hl : mr.get lp ≠ none) (ho : mr.get o ≠ none) : Grow mr M :=
  ⟨h.next, fun y hy e => by rw [h.old y hy (fun e2 => ho (e2 ▸ e)) (fun e2 => hl (e2 ▸ e)), e]⟩
theorem take_succ' {k : List Int} {i : Nat} (h : i < k.length) : k.take (i + 1) = k.take i ++ [k.getD i 0] := by
  rw [List.take_add_one, List.getElem?_eq_getElem h, List.getD_eq_getElem?_getD, List.getElem?_eq_getElem h]; rfl
theorem vals_it {mr : Mem} {lp x o : Nat} {tl : List (Nat × Value)} {v : Value} {k : List Int} {co0 : Cells} (hmr : Fresh mr) (hl : mr.get lp = some (.loop ⟨.ready, none, T 13 tl, [7], c48_3, c48_6⟩)) (h2 : lk tl 2 = PT o)
    (hx : mr.get x = some (.cells (Cells.ofList [v]) true 0)) (ho : mr.get o = some (.cells co0 true 0)) (hco : co0.n = 1) (hco0 : co0.nth 0 = some (.slice none 0 0)) (hxo : x ≠ o) (hv : SlI mr v k) (hk : k.length < 1073741824) :
    ∃ u m2, Con EE.P 45 [.func (.yield lp) #[] #[], PT x] mr u m2 ∧ ColI mr lp o tl k m2 := by
  refine Con.raw EE_ok fn45 (Nat.le_of_ble_eq_true rfl) _ ?_
  have hlen : ∀ M, lenA EE.P 30 v M = some (In k.length) := fun M => hv.lenA und_30
  simp only [f45, enumV, Nat.zero_add, w45, W_seq, w45_0, Nat.le_refl, X_load EE_sym, Nat.reduceLT, ev_T, lk_cons, Nat.reduceEqDiff, if_true, if_false, load1 lay_30, Mem.get_bump, hx, ld1_cells, nth_ofList, List.getElem?_cons_zero, okI_some, T_set, X_len EE_sym, hlen, X_move, ev_const, X_nil, thenQ_normal, W_block, w45_7, true_and]
  have htk : k.take k.length = k := List.take_of_length_le (Nat.le_refl _)
  refine WX.loop_of (fun x' t M => ∃ i : Nat, i ≤ k.length ∧ x' = k.length - i ∧ t = T 16 [(7, In i), (6, In k.length), (5, v), (0, .func (.yield lp) #[] #[])] ∧ ColI mr lp o tl (k.take i) M) ?_ (k := k.length) (t1 := T 16 [(7, In (0 : Nat)), (6, In k.length), (5, v), (0, .func (.yield lp) #[] #[])]) (View.temps ⟨rfl, rfl, rfl, rfl, trivial⟩) ⟨0, by omega, rfl, rfl, ColI.bump (M := mr) ⟨Nat.le_refl _, hmr.none, fun _ _ _ _ => rfl, hl, co0, _, ho, hco, hco0, SlV.nil, fun y hy => by cases hy⟩ _⟩
  rintro x' t M ⟨i, hi, rfl, rfl, hI⟩
  have hnx := hI.next
  by_cases hi2 : i < k.length
  · have q1 : (i : Int) < (k.length : Int) := by omega
    have q2 : (0 : Int) ≤ i := by omega
    have hw : IntKind.i64.wrap ((i : Int) + 1) = ((i + 1 : Nat) : Int) := by rw [wrap_i64 (by omega) (by omega)]; omega
    have hlx : ∀ z w cc, mr.get z = some (.cells cc true w) → z ≠ lp := fun z w cc hz e => by rw [e, hl] at hz; cases hz
    have hvo : ∀ y, slB v = some y → y ≠ o ∧ y ≠ lp := fun y hy => by
      obtain ⟨cc, hc⟩ := hv.ob hy
      exact ⟨fun e => by (rw [e, ho] at hc; cases hc), hlx _ _ _ hc⟩
    have hvM : SlI M v k := hv.keep fun y ob hy hob => by rw [hI.old y (hmr.lt hob) (hvo y hy).1 (hvo y hy).2, hob]
    obtain ⟨B, cc, cB, rfl, k1, k2, k3, k4⟩ := hvM.cons (by omega)
    have q3 : cB.nth i = some (In (k.getD i 0)) := by rw [nth_lt (by omega), k4 i (by simpa using hi2), il_getD hi2]
    have Ml := hI.loop
    obtain ⟨co, u, Mo, j1, j2, j3, j4⟩ := hI.out
    have hol : ¬ o = lp := hlx _ _ _ ho
    have hlo : ¬ lp = o := fun e => hol e.symm
    have hlt : lp < M.next := Nat.lt_of_lt_of_le (hmr.lt hl) hnx
    have hot : o < M.next := Nat.lt_of_lt_of_le (hmr.lt ho) hnx
    simp only [w45_6, W_seq, w45_1, hnx, X_bin EE_sym (op := .lss) rfl, Nat.reduceLT, ev_T, lk_cons, Nat.reduceEqDiff, if_false, if_true, bin_lss, q1, decide_true, okI_some, T_set, X_nil, thenQ_normal, W_cond, CDi_t, W_skip, W_block, w45_4, w45_2, Mem.next_bump, Nat.le_add_right_of_le, bump_bump, Nat.reduceAdd, X_indexAddr EE_sym, q2, idxV_slice und_30 sz_3, Int.toNat_natCast, Nat.mul_one, Nat.zero_add, X_load EE_sym, load1 lay_3, Mem.get_bump, k1, ld1_cells, q3, X_assign, w45_3, X_move, yieldOf_y, Option.isSome_some, X_yield, Option.getD_some, List.toList_toArray, List.map_cons, List.map_nil, List.nil_append, true_and]
    refine CallI.round EE_ok (r := ⟨.ready, none, T 13 tl, [7], c48_3, c48_6⟩) (by simp only [Mem.get_bump, Ml]) rfl rfl (by simp) ?_
    have bs1 : bsV EE.P 30 1 [(0, In (k.getD i 0))] = some ([In (k.getD i 0)], 1) := by kernel_rfl
    simp only [Mem.next_bump, setAll1, Nat.reduceLT, T_set, w48_3, w48_2, Nat.le_refl, bump_bump, Nat.reduceAdd, X_assign, ev_T, lk_cons, if_true, X_nil, putT, X_un EE_sym, Nat.reduceEqDiff, if_false, roundQ1_normal, Nat.add_le_add_iff_left, Nat.reduceLeDiff, Mem.get_bump, Ml, loopI_some, put_bump, w48_6, W_block, w48_5, w48_4, Mem.next_put, X_load EE_sym, h2, load1 lay_30, Mem.get_put, hol, Mo, ld1_cells, j2, okI_some, X_move, X_bs, List.map_cons, List.map_nil, bs1, Nat.add_assoc, X_append, true_and]
    have hil : (k.take i).length = i := by rw [List.length_take]; omega
    have hun : ∀ y, slB u = some y → y ≠ lp ∧ y ≠ o ∧ y < M.next := fun y hy => by
      have := j4 y hy
      have := hmr.lt hl
      have := hmr.lt ho
      omega
    have hsu : SlI (((M.put lp (AObj.loop ⟨.busy, none, T 13 tl, [7], c48_3, c48_6⟩)).put (M.next + 11) (AObj.cells (Cells.ofList [In (k.getD i 0)]) true 1)).bump 14) u (k.take i) := j3.keep fun y ob hy hob => by
      obtain ⟨h1, _, h3⟩ := hun y hy
      simp only [Mem.get_bump, Mem.get_put, lt_ne h3, h1, if_false]; exact hob
    refine okI_app eo30 (k := 1) (new := [In (k.getD i 0)]) hsu (src_put rfl) (by decide) rfl rfl (.inl rfl) ⟨by omega, by omega⟩ fun v' M' hA => ?_
    have hs : SlI M' v' (k.take (i + 1)) := by
      rw [take_succ' hi2]
      simpa only [SlI, il, List.length_append, List.map_append, List.map_cons, List.map_nil, List.length_cons, List.length_nil] using hA.sl
    have n1 := hA.next
    simp only [Mem.next_bump, Mem.next_put] at n1
    have n2 : mr.next ≤ M'.next := by omega
    have n3 : M.next ≤ M'.next := by omega
    have n9 : M.next + 9 ≤ M'.next := by omega
    have hold : ∀ y, y < M.next → slB u ≠ some y → y ≠ lp → M'.get y = M.get y := fun y hy hyb hyl => by
      rw [hA.old y (by omega) hyb]
      simp only [Mem.get_bump, Mem.get_put, lt_ne hy, hyl, if_false]
    have hMl : M'.get lp = some (.loop ⟨.busy, none, T 13 tl, [7], c48_3, c48_6⟩) := by
      rw [hA.old lp (by omega) (fun e => (hun lp e).1 rfl)]
      simp only [Mem.get_bump, Mem.get_put, lt_ne hlt, if_false, if_true]
    have hMo : M'.get o = some (.cells co true 0) := by rw [hold o hot (fun e => (hun o e).2.1 rfl) hol, Mo]
    have hlow : ∀ y, y ≠ M.next + 12 → y ≠ M.next + 11 → y ≠ lp → M.get y = none → M'.get y = none := fun y h1 h2 h3 e => hA.low y h1 (by simp only [Mem.get_bump, Mem.get_put, h2, h3, if_false]; exact e)
    have hblk : ∀ y, slB v' = some y → (mr.next ≤ y ∧ y < M'.next) ∧ y ≠ lp ∧ y ≠ o := fun y hy => by
      have l1 := hmr.lt hl
      have l2 := hmr.lt ho
      rcases hA.blk with ⟨h1, _⟩ | h1
      · have := j4 y (h1 ▸ hy); omega
      · rw [h1] at hy; cases hy; omega
    obtain ⟨b', c', cs', rfl, -⟩ := hs.cons (by rw [List.length_take]; omega)
    simp only [Nat.reduceLT, T_set, X_store, ev_T, lk_cons, Nat.reduceEqDiff, h2, if_false, if_true, store1 sz_30, hMo, cells_slice, st1_cells, List.length_cons, List.length_nil, Nat.zero_add, j1, Nat.le_refl, List.all_cons, oneCell, List.all_nil, Bool.and_self, and_self, okI_some, X_nil, Mem.next_bump, blockQ_normal, roundQ2_normal, Mem.next_put, n9, Mem.get_put, hlo, hMl, loopI_some, un_not, Bool.not_true, thenQ_normal, W_cond, CDi_f, W_skip, true_and]
    refine ⟨⟨by simp only [Mem.next_bump, Mem.next_put]; omega, fun y hy e => ?_⟩, ?_⟩
    · simp only [Mem.next_bump, Mem.get_bump] at hy e
      have x1 : ¬ y = lp := fun e2 => by rw [e2, Ml] at e; cases e
      have x2 : ¬ y = o := fun e2 => by rw [e2, Mo] at e; cases e
      simp only [Mem.get_put, x1, x2, if_false]
      exact hlow y (by omega) (by omega) x1 e
    simp only [w45_5, Mem.next_put, n2, X_bin EE_sym (op := .add) rfl, Nat.reduceLT, ev_T, lk_cons, Nat.reduceEqDiff, if_false, if_true, ev_const, bin_add, hw, okI_some, T_set, X_move, X_nil, roundQ_normal, true_and]
    refine ⟨k.length - (i + 1), _, _, by omega, View.temps (l' := [(7, In ((i + 1 : Nat) : Int)), (6, In k.length), (5, .slice (some ⟨B, 0, none⟩) k.length cc), (0, .func (.yield lp) #[] #[])]) ⟨rfl, rfl, rfl, rfl, trivial⟩, i + 1, by omega, rfl, rfl, ?_⟩
    refine ⟨by simp only [Mem.next_bump, Mem.next_put]; omega, ?_, fun z hz hzo hzl => ?_, ?_, co.write 0 [_], _, by simp only [Mem.get_bump, Mem.get_put, hol, if_false, if_true]; rfl, by rw [write_n, j1], by rw [nth_write, if_pos ⟨by omega, by simp, by omega⟩]; rfl, hs.keep fun y ob hy hob => ?_, fun y hy => ⟨(hblk y hy).1.1, by simp only [Mem.next_bump, Mem.next_put]; have := (hblk y hy).1.2; omega⟩⟩
    · have hL : Low M' M'.next := fun y hy => hlow y (by omega) (by omega) (by omega) (hI.low y (by omega))
      (repeat (first | exact Low.up hL (by (try simp only [Mem.next_bump, Mem.next_put]); omega) | refine Low.put ?_ (by (try simp only [Mem.next_bump, Mem.next_put]); omega) | refine Low.bump ?_))
    · simp only [Mem.get_bump, Mem.get_put, hzo, hzl, if_false]
      rw [hold z (by omega) (fun e => by have := j4 z e; omega) hzl]
      exact hI.old z hz hzo hzl
    · simp only [Mem.get_bump, Mem.get_put, hlo, if_false, if_true]
    · simp only [Mem.get_bump, Mem.get_put, (hblk y hy).2.1, (hblk y hy).2.2, if_false]
      exact hob
  · obtain rfl : i = k.length := by omega
    have q1 : ¬ (k.length : Int) < (k.length : Int) := by omega
    rw [htk] at hI
    simp only [w45_6, W_seq, w45_1, hnx, X_bin EE_sym (op := .lss) rfl, Nat.reduceLT, ev_T, lk_cons, Nat.reduceEqDiff, if_false, if_true, bin_lss, q1, decide_false, okI_some, T_set, X_nil, thenQ_normal, W_cond, CDi_f, W_exit, thenQ_exit, roundQ_exit, blockQ_exit, FinX_normal, resA_nil, oneOr0, true_and]
    exact ⟨(hI.bump _).grow (by rw [hl]; simp) (by rw [ho]; simp), hI.bump _⟩
end
end
end Go.Ab
