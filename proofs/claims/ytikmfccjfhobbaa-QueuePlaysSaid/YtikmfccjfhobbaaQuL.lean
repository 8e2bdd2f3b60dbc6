/- Queue: all pids, sorted. -/
import Derived.Test.YtikmfccjfhobbaaQuK
namespace Go.Ab
open Go.Proofs
noncomputable section
set_option maxHeartbeats 4000000
set_option maxRecDepth 10000
theorem ca_45 : callable EE.P 45 = true := by kernel_rfl
section
variable {m : Mem} {b : Nat} {O : Nat → Prop} {sl : Nat → Value} {cs : Cells} {c : Nat} {l : Nat → List Int}
theorem apseq_ok {x : Nat} {v : Value} {k : List Int} (hm : Fresh m) (hx : m.get x = some (.cells (Cells.ofList [v]) true 0)) (hv : SlI m v k) (hk : k.length < 1073741824) :
    ∃ u m', Con EE.P 48 [.slice none 0 0, .func (.func 45) #[] [PT x].toArray] m u m' ∧ NewL m m' u k := by
  refine Con.raw EE_ok fn48 (Nat.le_of_ble_eq_true rfl) _ ?_
  simp only [f48, enumV, Nat.zero_add, w48, W_seq, w48_0, Nat.le_refl, X_box, Nat.reduceLT, ev_T, lk_cons, Nat.one_ne_zero, if_false, if_true, box_slice, okI_some, Nat.add_zero, T_set, put_bump, X_assign, ev_const, X_nil, thenQ_normal, w48_1, Mem.next_bump, Mem.next_put, Nat.le_add_right, bump_bump, Nat.reduceAdd, X_move, Nat.reduceEqDiff, W_block, w48_7, true_and]
  have lx := hm.lt hx
  refine W_rfnx (l' := [(2, PT m.next)]) (R := fun _ m2 => ColI (((((m.put m.next (.cells (Cells.ofList [.slice none 0 0]) true 0)).bump 3).put (m.next + 3) (.loop _)).bump 1)) (m.next + 3) m.next _ k m2) [] [PT x] (by simp only [Mem.next_bump, Mem.next_put]; omega) (by simp only [ev_T, lk_cons, Nat.reduceLT, Nat.reduceEqDiff, reduceIte]) ca_45 (vals_it (co0 := Cells.ofList [.slice none 0 0]) ?_ get_eq_b rfl (by simp only [Mem.get_bump, Mem.get_put, show ¬ x = m.next + 3 by omega, show ¬ x = m.next by omega, Mem.next_bump, Mem.next_put, if_false]; exact hx) (by simp only [Mem.get_bump, Mem.get_put, Mem.next_bump, Mem.next_put, show ¬ m.next = m.next + 3 by omega, if_false, if_true]) rfl rfl (by omega) (hv.keep fun y o hy ho => ?_) hk) (fun p hp => ?_) (fun _ m2 hI => ?_)
  · exact Fresh.of_low (by have := hm.n64; (try simp only [Mem.next_bump, Mem.next_put]); omega) (by repeat (first | exact Low.of hm (by (try simp only [Mem.next_bump, Mem.next_put]); omega) | refine Low.put ?_ (by (try simp only [Mem.next_bump, Mem.next_put]); omega) | refine Low.bump ?_))
  · have := hm.lt ho
    simp only [Mem.get_bump, Mem.get_put, Mem.next_bump, Mem.next_put, show ¬ y = m.next + 3 by omega, show ¬ y = m.next by omega, if_false]
    exact ho
  · simp only [List.mem_singleton] at hp
    subst hp
    exact rv_ptr (.inl ⟨rfl, by simp only [Mem.next_bump, Mem.next_put]; omega⟩)
  · have n2 := hI.next
    simp only [Mem.next_bump, Mem.next_put] at n2
    obtain ⟨co, u, k1, k2, k3, k4, k5⟩ := hI.out
    have k6 : ¬ m.next = m.next + 3 := by omega
    refine rfnQ_normal hI.loop ?_
    have n2' : m.next ≤ m2.next := by omega
    have hl := hI.loop
    simp only [Mem.next_bump, Mem.next_put, blockQ_normal, thenQ_normal, W_seq, w48_8, n2', X_load EE_sym, Nat.reduceLT, ev_T, lk_cons, if_true, load1 lay_30, Mem.get_bump, Mem.get_put, k6, k1, if_false, ld1_cells, k3, okI_some, T_set, X_assign, Nat.reduceEqDiff, X_nil, W_ret, FinX_ret, resA_tmp, T_get, resA_nil, Option.map_some, oneOr1, true_and]
    have hn : ∀ o, Nx m ((m2.put (m.next + 3) o).bump 2) := fun o => by
      refine ⟨by simp only [Mem.next_bump, Mem.next_put]; omega, Fresh.of_low (by have := hm.n64; simp only [Mem.next_bump, Mem.next_put]; omega) (Low.up (Low.bump (Low.put hI.low (by omega))) (by simp only [Mem.next_bump, Mem.next_put]; omega)), fun y hy => ?_⟩
      simp only [Mem.get_bump, Mem.get_put, show ¬ y = m.next + 3 by omega, if_false]
      rw [hI.old y (by simp only [Mem.next_bump, Mem.next_put]; omega) (by omega) (by omega)]
      simp only [Mem.get_bump, Mem.get_put, show ¬ y = m.next + 3 by omega, show ¬ y = m.next by omega, if_false]
    refine ⟨⟨(hn _).next, fun y hy e => by rw [(hn _).old y hy, e]⟩, k4.keep fun y o hy ho => ?_, hn _, fun y hy => ?_⟩
    · have := (k5 y hy).1
      simp only [Mem.next_bump, Mem.next_put] at this
      simp only [Mem.get_bump, Mem.get_put, show ¬ y = m.next + 3 by omega, if_false]
      exact ho
    · have := (k5 y hy).1
      simp only [Mem.next_bump, Mem.next_put] at this
      omega
theorem NewL.of_bump {m' : Mem} {j : Nat} {u : Value} {k : List Int} (h : NewL (m.bump j) m' u k) : NewL m m' u k := ⟨h.sl, h.nx.of_bump, fun y hy => by have := h.new y hy; rw [Mem.next_bump] at this; omega⟩
theorem NewL.bump {m' : Mem} {u : Value} {k : List Int} (h : NewL m m' u k) (j : Nat) : NewL m (m'.bump j) u k := ⟨h.sl.bump j, h.nx.bump j, h.new⟩
theorem NewL.raw {m' : Mem} {u : Value} {k : List Int} (h : NewL m m' u k) : Grow m m' := ⟨h.nx.next, fun y hy e => by rw [h.nx.old y hy, e]⟩
theorem collect_ok {x : Nat} {v : Value} {k : List Int} (hm : Fresh m) (hx : m.get x = some (.cells (Cells.ofList [v]) true 0)) (hv : SlI m v k) (hk : k.length < 1073741824) :
    ∃ u m', Con EE.P 43 [.func (.func 45) #[] [PT x].toArray] m u m' ∧ NewL m m' u k := by
  refine Con.raw EE_ok fn43 (Nat.le_of_ble_eq_true rfl) _ ?_
  simp only [f43, enumV, w43, W_seq, w43_0, Nat.le_refl, X_assign, ev_const, Nat.reduceLT, T_set, X_nil, thenQ_normal, w43_1, Mem.next_bump, Nat.le_add_right, bump_bump, Nat.reduceAdd, X_move, ev_T, lk_cons, Nat.reduceEqDiff, if_true, if_false, X_call ca_48, List.map_cons, List.map_nil, true_and]
  refine CallI.ex2 (apseq_ok (m := m.bump _) hm.bump hx (hv.bump _) hk) fun u M hN => ?_
  have hN := hN.of_bump
  have n1 := hN.nx.next
  simp only [putT, Nat.reduceLT, T_set, X_assign, ev_T, lk_cons, Nat.reduceEqDiff, if_false, if_true, X_nil, thenQ_normal, W_ret, FinX_ret, resA_tmp, T_get, resA_nil, Option.map_some, okI_some, oneOr1]
  exact ⟨hN.raw, hN⟩
theorem sorted_ok' {x : Nat} {v : Value} {k : List Int} (hm : Fresh m) (hx : m.get x = some (.cells (Cells.ofList [v]) true 0)) (hv : SlI m v k) (hk : k.length < 1073741824) :
    ∃ u m', Con EE.P 35 [.func (.func 45) #[] [PT x].toArray] m u m' ∧ NewL m m' u (isort k) := by
  refine Con.raw EE_ok fn35 (Nat.le_of_ble_eq_true rfl) _ ?_
  simp only [f35, enumV, w35, W_seq, w35_0, Nat.le_refl, X_assign, ev_const, Nat.reduceLT, T_set, X_nil, thenQ_normal, w35_1, Mem.next_bump, Nat.le_add_right, bump_bump, Nat.reduceAdd, X_move, ev_T, lk_cons, Nat.reduceEqDiff, if_true, if_false, X_call ca_43, List.map_cons, List.map_nil, true_and]
  refine CallI.ex2 (collect_ok (m := m.bump _) hm.bump hx (hv.bump _) hk) fun u M hN => ?_
  have hN := hN.of_bump
  have n1 := hN.nx.next
  simp only [putT, Nat.reduceLT, T_set, X_assign, ev_T, lk_cons, Nat.reduceEqDiff, if_false, if_true, X_nil, thenQ_normal, W_seq, w35_2, n1, X_move, X_call ca_44, List.map_cons, List.map_nil, true_and]
  refine CallI.ex2 (R := fun _ M' => NewL m M' u (isort k)) ?_ fun _ M' hN' => ?_
  · have key : ∀ j, ∃ w M', Con EE.P 44 [u] (M.bump j) w M' ∧ NewL m M' u (isort k) := fun j => by
      have hNj := hN.bump j
      by_cases h0 : k = []
      · subst h0
        refine ⟨_, _, sort_q0 ?_, hNj⟩
        rcases hN.sl.at_ with ⟨_, h⟩ | ⟨b, c, cs, h, _⟩
        · exact .inl h
        · exact .inr ⟨b, c, h⟩
      · obtain ⟨b, c, cb, rfl, k1, k2, k3, k4⟩ := hNj.sl.cons (fun e => h0 (List.length_eq_zero_iff.1 e))
        rw [Nat.mul_one] at k2
        have hb : m.next ≤ b := hN.new b rfl
        have hbl := hNj.nx.fresh.lt k1
        refine ⟨_, _, sort_q k1 k2 k3 (fun x hx => by rw [k4 x (by simpa using hx), il_getD hx]) (by omega), ⟨by simp, .inr ⟨b, c, _, by rw [isort_len], by rw [Mem.get_put, if_pos rfl], by rw [write_n, k2, Nat.mul_one], by rw [isort_len]; exact k3, fun x hx => ?_⟩⟩, ⟨by rw [Mem.next_put]; exact hNj.nx.next, Fresh.of_low (by rw [Mem.next_put]; exact hNj.nx.fresh.n64) (by rw [Mem.next_put]; exact Low.put (fun y hy => hNj.nx.fresh.none y hy) hbl), fun y hy => by rw [Mem.get_put, if_neg (by omega), hNj.nx.old y hy]⟩, hN.new⟩
        rw [get_write, if_pos (by simpa using hx), Nat.sub_zero]
    exact key _
  have n2 := hN'.nx.next
  simp only [putT, Nat.reduceLT, T_set, X_nil, thenQ_normal, W_seq, w35_3, n2, X_move, ev_T, lk_cons, Nat.reduceEqDiff, if_false, if_true, X_assign, W_ret, FinX_ret, resA_tmp, T_get, resA_nil, Option.map_some, okI_some, oneOr1, true_and]
  exact ⟨(hN'.bump _).raw, hN'.bump _⟩
theorem sl55 {b : Nat} : sliceA EE.P 55 (.pointer (some ⟨b, 1, none⟩)) none none = some (.slice (some ⟨b, 1, none⟩) 8 8) := by
  unfold sliceA
  simp only [und_55]
  have hz : szOf EE.P 30 = some 1 := sz_30
  simp [bndA, hz]
theorem all_ok (h : QAt m b O sl cs c l) (hm : Fresh m) (hO : ∀ y, O y → y < m.next) (hS : (catTo l 8).length < 1073741824) : ∃ v m', Con EE.P 17 [PT b] m v m' ∧ NewL m m' v (isort (catTo l 8)) := by
  refine Con.raw EE_ok fn17 (Nat.le_of_ble_eq_true rfl) _ ?_
  simp only [f17, enumV, w17, W_seq, w17_0, Nat.le_refl, X_assign, ev_const, Nat.reduceLT, T_set, X_nil, thenQ_normal, w17_1, Mem.next_bump, Nat.le_add_right, bump_bump, Nat.reduceAdd, X_move, ev_T, lk_cons, Nat.reduceEqDiff, if_true, if_false, X_eql EE_sym, eq_ptr_nil und_23, okI_some, W_cond, CDi_f, W_skip, w17_4, X_nilCheck EE_sym, nilV_ptr, X_fieldAddr EE_sym fo_57_1, offV_ptr, Nat.zero_add, X_slice EE_sym, Option.map_none, sl55, X_call ca_37, List.map_cons, List.map_nil, true_and]
  refine CallI.ex2 (concat_ok (m := m.bump _) (h.bump _) hm.bump (hOb hO) hS) fun v M1 hN1 => ?_
  have hN1 := hN1.of_bump
  have n1 := hN1.nx.next
  simp only [putT, Nat.reduceLT, T_set, X_call ca_36, List.map_cons, ev_T, lk_cons, Nat.reduceEqDiff, if_false, if_true, List.map_nil]
  refine CallI.ex2L (values_ok hN1.nx.fresh hN1.sl) (by simp) fun w M2 hv => ?_
  obtain ⟨x, rfl, hx, hM2, hN2⟩ := hv
  have hsl := hN1.sl.nx hN1.nx.fresh hN2
  have n2 := hN2.next
  simp only [putT, Nat.reduceLT, T_set, X_call ca_35, List.map_cons, ev_T, lk_cons, Nat.reduceEqDiff, if_false, if_true, List.map_nil]
  refine CallI.ex2L (sorted_ok' hN2.fresh hM2 hsl hS) (by simp) fun w M3 hN3 => ?_
  have hn := (hN1.nx.trans hN2).trans hN3.nx
  have n3 := hn.next
  simp only [putT, Nat.reduceLT, T_set, X_assign, ev_T, lk_cons, Nat.reduceEqDiff, if_false, if_true, X_nil, thenQ_normal, W_ret, FinX_ret, resA_tmp, T_get, resA_nil, Option.map_some, okI_some, oneOr1]
  exact ⟨⟨hn.next, fun y hy e => by rw [hn.old y hy, e]⟩, hN3.sl, hn, fun y hy => by have := hN3.new y hy; omega⟩
end
end
end Go.Ab
