/- Files: both sides behind calls; the chapter's first examples. -/
import Derived.Test.YthidhnbniklhmaaFiK
namespace Go.Ab
open Go.Proofs
noncomputable section
set_option maxHeartbeats 1000000
/-- A memory behind a call: what lay there lies there. -/
structure Nx (m m' : Mem) : Prop where
  next : m.next ≤ m'.next
  fresh : Fresh m'
  old : ∀ y, y < m.next → m'.get y = m.get y
theorem Nx.raw {m m' : Mem} {v : Value} {R : Value → Mem → Prop} (h : Nx m m') (hR : R v m') : RawE m m' v R := ⟨⟨h.next, fun y hy e => by rw [h.old y hy, e]⟩, hR⟩
/-- Ops, where they lie. -/
def Ops (m : Mem) (v : Value) (n : Nat) : Prop := ∃ a C, v = .slice a n C ∧ (n = 0 ∨ ∃ L cs w z, a = some ⟨L, 0, none⟩ ∧ m.get L = some (.cells cs w z) ∧ ∀ i, i < n → ∃ k pp ww nn fd, cs.sub (i * 5) 5 = some [In k, In pp, .bool ww, In nn, In fd])
theorem Ops.old {m m' : Mem} {v : Value} {n : Nat} (hm : Fresh m) (h : Ops m v n) (ho : ∀ y, y < m.next → m'.get y = m.get y) : Ops m' v n := by
  obtain ⟨a, C, h1, h2⟩ := h
  refine ⟨a, C, h1, h2.imp id ?_⟩
  rintro ⟨L, cs, w, z, g1, g2, g3⟩
  exact ⟨L, cs, w, z, g1, by rw [ho L (hm.lt g2), g2], g3⟩
section
variable {a : Nat} {m : Mem} {p f dd w v N : Nat} {s : FS} {d : Nat → Int} {W : FS}
theorem do_St {B : Nat} {k pp n fd : Int} {ww : Bool} (hB : B < 4294967295) (hm : Fresh m) (ha : a ≤ m.next) (h : St a m p B) :
    ∃ m', Con EE.P 18 [PT p, .agg [In k, In pp, .bool ww, In n, In fd].toArray] m (.bool true) m' ∧ Step a m p B (.bool true) m' := by
  obtain ⟨f, dd, w, v, N, s, d, W, hS, hI, hd⟩ := h
  obtain ⟨r, m', h1, h2⟩ := do_ok (k := k) (pp := pp) (n := n) (fd := fd) (ww := ww) hB hm ha hS hI hd
  have e := h2.val
  subst e
  exact ⟨m', h1, h2⟩
theorem St.bump {B j : Nat} (h : St a m p B) : St a (m.bump j) p B := by
  obtain ⟨f, dd, w, v, N, s, d, W, hS, hI, hd⟩ := h
  exact ⟨f, dd, w, v, N, s, d, W, hS.keep fun _ _ h => h, hI, hd⟩
theorem Fresh.bump {j : Nat} (h : Fresh m) : Fresh (m.bump j) := ⟨by have := h.n64; rw [Mem.next_bump]; omega, fun y hy => h.none y (by rw [Mem.next_bump] at hy; omega)⟩
theorem grown_ok {l : Value} {n : Nat} (hm : Fresh m) (hl : Ops m l n) (hn : n ≤ 200) : ∃ p m', Con EE.P 11 [l] m (PT p) m' ∧ Nx m m' ∧ St m.next m' p 200 := by
  have := Con.raw (m := m) (args := [l]) EE_ok fn11 (Nat.le_of_ble_eq_true rfl) (fun v m' => ∃ p, v = PT p ∧ Nx m m' ∧ St m.next m' p 200) ?_
  · obtain ⟨v, m', h1, p, rfl, h2⟩ := this
    exact ⟨p, m', h1, h2⟩
  obtain ⟨aa, C, rfl, hl2⟩ := id hl
  simp only [f11, enumV, w11, W_seq, w11_0, Nat.le_refl, X_assign, ev_const, Nat.reduceLT, T_set, X_nil, thenQ_normal, w11_1, Mem.next_bump, Nat.le_add_right, bump_bump, Nat.reduceAdd, X_call ca_17, List.map_nil, true_and]
  obtain ⟨p, m1, c1, h1, h2, h3, h4⟩ := fresh_ok (m := m.bump 3) hm.bump
  refine CallI.con0 c1 ?_
  rw [Mem.next_bump] at h1
  have h1' : m.next ≤ m1.next := by omega
  have hu : In 0 = In ((0 : Nat) : Int) := rfl
  simp only [putT, Nat.reduceLT, T_set, X_assign, ev_T, lk_cons, Nat.reduceEqDiff, if_false, if_true, X_nil, thenQ_normal, W_seq, w11_2, X_move, X_len EE_sym, len_slice und_22, okI_some, ev_const, W_block, w11_9]
  refine ⟨h1', ?_⟩
  refine WX.loop_of (fun x t M => ∃ i : Nat, i ≤ n ∧ x = n - i ∧ t = T 19 [(8, In i), (7, In n), (3, PT p), (0, .slice aa n C)] ∧ Nx m M ∧ St m.next M p i) ?_ (k := n) (t1 := T 19 [(8, In (0 : Nat)), (7, In n), (3, PT p), (0, .slice aa n C)]) (View.temps ⟨rfl, rfl, rfl, rfl, trivial⟩) ⟨0, by omega, rfl, rfl, ⟨by simp only [Mem.next_bump]; omega, h2.bump, fun y hy => h4 y (by rw [Mem.next_bump]; omega)⟩, ?_⟩
  · rintro x t M ⟨i, hi, rfl, rfl, hN, hS⟩
    have hnx := hN.next
    by_cases hi2 : i < n
    · have g1 : (i : Int) < (n : Int) := by omega
      have g2 : (0 : Int) ≤ i := by omega
      rcases hl2 with hl2 | ⟨L, cs, ww, z, rfl, e1, e2⟩
      · omega
      obtain ⟨k, pp, w', nn, fd, e3⟩ := e2 i hi2
      have e4 : M.get L = some (.cells cs ww z) := by rw [hN.old L (hm.lt e1), e1]
      have hw : IntKind.i64.wrap ((i : Int) + 1) = ((i + 1 : Nat) : Int) := by rw [wrap_i64 (by omega) (by omega)]; omega
      simp only [w11_8, W_seq, w11_3, hnx, X_bin EE_sym (op := .lss) rfl, Nat.reduceLT, ev_T, lk_cons, Nat.reduceEqDiff, if_false, if_true, bin_lss, g1, decide_true, okI_some, T_set, X_nil, thenQ_normal, W_cond, CDi_t, W_skip, W_block, w11_6, w11_4, Mem.next_bump, Nat.le_add_right_of_le, bump_bump, Nat.reduceAdd, X_move, X_assign, w11_5, X_indexAddr EE_sym, g2, idxV_slice und_22 sz_46, Int.toNat_natCast, Nat.zero_add, X_load EE_sym, loadN lay_46, Mem.get_bump, e4, ldN_cells, e3, Option.map_some, X_call ca_18, List.map_cons, List.map_nil, true_and]
      refine CallI.ex (do_St (a := m.next) (B := i) (by omega) hN.fresh.bump (by rw [Mem.next_bump]; omega) hS.bump) fun m2 h5 => ?_
      have hnx2 : m.next ≤ m2.next := by have := h5.next; rw [Mem.next_bump] at this; omega
      simp only [putT, Nat.reduceLT, T_set, X_nil, blockQ_normal, thenQ_normal, w11_7, hnx2, X_bin EE_sym (op := .add) rfl, ev_T, lk_cons, Nat.reduceEqDiff, if_false, if_true, ev_const, bin_add, hw, okI_some, X_move, roundQ_normal, true_and]
      exact ⟨n - (i + 1), _, _, by omega, View.temps (l' := [(8, In ((i + 1 : Nat) : Int)), (7, In n), (3, PT p), (0, .slice (some ⟨L, 0, none⟩) n C)]) ⟨rfl, rfl, rfl, rfl, trivial⟩, i + 1, by omega, rfl, rfl, ⟨by simp only [Mem.next_bump]; omega, h5.fresh.bump, fun y hy => by rw [Mem.get_bump, h5.old y hy, Mem.get_bump, hN.old y hy]⟩, h5.st.bump⟩
    · have g1 : ¬ (i : Int) < (n : Int) := by omega
      simp only [w11_8, W_seq, w11_3, hnx, X_bin EE_sym (op := .lss) rfl, Nat.reduceLT, ev_T, lk_cons, Nat.reduceEqDiff, if_false, if_true, bin_lss, g1, decide_false, okI_some, T_set, X_nil, thenQ_normal, W_cond, CDi_f, W_exit, thenQ_exit, roundQ_exit, blockQ_exit, w11_10, Mem.next_bump, Nat.le_add_right_of_le, bump_bump, Nat.reduceAdd, X_move, X_assign, W_ret, FinX_ret, resA_tmp, T_get, resA_nil, Option.map_some, oneOr1, true_and]
      have hS' : St m.next (M.bump 3) p 200 := by
        obtain ⟨f, dd, w, v, N, s, d, W, k1, k2, k3⟩ := hS.bump (j := 3)
        exact ⟨f, dd, w, v, N, s, d, W, k1, k2.mono (by omega), k3⟩
      exact Nx.raw ⟨by simp only [Mem.next_bump]; omega, hN.fresh.bump, fun y hy => hN.old y hy⟩ ⟨p, rfl, ⟨by simp only [Mem.next_bump]; omega, hN.fresh.bump, fun y hy => hN.old y hy⟩, hS'⟩
  · obtain ⟨f, dd, w, v, N, s, d, W, k1, k2, k3⟩ := h3.bump (j := 3)
    rw [Mem.next_bump] at k1
    exact ⟨f, dd, w, v, N, s, d, W, ⟨k1.hp, k1.hf, k1.hd, k1.hw, k1.hv, k1.fw, Nat.le_of_add_right_le k1.lp, Nat.le_of_add_right_le k1.lf, Nat.le_of_add_right_le k1.ld, Nat.le_of_add_right_le k1.lw, Nat.le_of_add_right_le k1.lv, Nat.le_of_add_right_le k1.lN⟩, k2, k3⟩
theorem b34f {p : Int} {w : Bool} : buildA EE.P 34 [(0, In p), (1, .bool w)] = some (.agg [In p, .bool w].toArray) := by kernel_rfl
theorem b34p {p : Int} : buildA EE.P 34 [(0, In p)] = some (.agg [In p, .bool false].toArray) := by kernel_rfl
abbrev A1 : FS := zs.set 0 3 true 1
abbrev A2 : FS := A1.set 1 3 false 1
abbrev A3 : FS := A2.setR 0 2
abbrev A4 : FS := A3.setR 0 1
abbrev A5 : FS := A4.set 0 0 false 0
theorem alive_ok (hm : Fresh m) : ∃ m', Con EE.P 10 [] m (.bool true) m' ∧ Nx m m' := by
  have := Con.raw (m := m) (args := []) EE_ok fn10 (Nat.le_of_ble_eq_true rfl) (fun v m' => v = .bool true ∧ Nx m m') ?_
  · obtain ⟨v, m', h1, rfl, h2⟩ := this
    exact ⟨m', h1, h2⟩
  simp only [f10, enumV, w10, W_seq, w10_0, Nat.le_refl, X_assign, ev_const, Nat.reduceLT, T_set, X_nil, thenQ_normal, w10_1, Mem.next_bump, Nat.le_add_right, bump_bump, Nat.reduceAdd, X_build EE_sym, List.map_nil, b74, okI_some, X_box, ev_T, lk_cons, Nat.reduceEqDiff, if_false, if_true, box_agg, Nat.add_assoc, put_bump, w10_2, Mem.next_put, X_move, List.map_cons, b34f, X_call ca_21, true_and]
  refine CallI.con0 (open_at (s := zs) (sz := 0) (k := 0) ?_ (by decide) (by decide) (by decide) rfl (fun j hj => absurd hj (Nat.not_lt_zero j))) ?_
  · simp only [FAt, Mem.get_bump, Mem.get_put, if_true]; rfl
  simp only [put_bump, putT, Nat.reduceLT, T_set, X_move, ev_T, lk_cons, Nat.reduceEqDiff, if_false, if_true, X_extract EE_sym, List.getElem?_toArray, List.getElem?_cons_zero, okI_some, List.getElem?_cons_succ, X_assign, X_nil, thenQ_normal, W_seq, w10_3, Mem.next_bump, Mem.next_put, Nat.le_add_right, bump_bump, Nat.reduceAdd, X_build EE_sym, List.map_cons, ev_const, List.map_nil, b34p, X_call ca_21, true_and]
  refine CallI.con0 (open_at (s := A1) (sz := 0) (k := 1) ?_ (by decide) (by decide) (by decide) rfl (fun j hj => by obtain rfl : j = 0 := Nat.lt_one_iff.1 hj; decide)) ?_
  · simp only [FAt, Mem.get_bump, Mem.get_put, if_true]
  simp only [put_bump, putT, Nat.reduceLT, T_set, X_move, ev_T, lk_cons, Nat.reduceEqDiff, if_false, if_true, X_extract EE_sym, List.getElem?_toArray, List.getElem?_cons_zero, okI_some, List.getElem?_cons_succ, X_assign, X_nil, thenQ_normal, W_seq, w10_4, Mem.next_bump, Mem.next_put, Nat.le_add_right, bump_bump, Nat.reduceAdd, X_call ca_16, List.map_cons, ev_const, List.map_nil, true_and]
  refine CallI.con0 (share_open (s := A2) (sz := 0) ?_ ⟨by decide, by decide, by decide⟩ (by decide) (by decide)) ?_
  · simp only [FAt, Mem.get_bump, Mem.get_put, if_true]
  simp only [put_bump, putT, Nat.reduceLT, T_set, X_assign, ev_T, lk_cons, Nat.reduceEqDiff, if_false, if_true, X_nil, thenQ_normal, W_seq, w10_5, Mem.next_bump, Mem.next_put, Nat.le_add_right, bump_bump, Nat.reduceAdd, X_move, X_call ca_15, List.map_cons, ev_const, List.map_nil, true_and]
  refine CallI.con0 (drop_more (s := A3) (sz := 0) ?_ ⟨by decide, by decide, by decide⟩ (by decide) (by decide)) ?_
  · simp only [FAt, Mem.get_bump, Mem.get_put, if_true]; rfl
  simp only [put_bump, putT, Nat.reduceLT, T_set, X_move, ev_T, lk_cons, Nat.reduceEqDiff, if_false, if_true, X_extract EE_sym, List.getElem?_toArray, List.getElem?_cons_zero, okI_some, List.getElem?_cons_succ, X_alloc, zero_34, Nat.add_assoc, Nat.reduceAdd, X_assign, X_store, store1 sz_34, Mem.get_bump, Mem.get_put, Nat.add_left_cancel_iff, cells_agg, st1_cells, List.length_cons, List.length_nil, Nat.zero_add, ofList_n, Nat.le_refl, List.all_cons, oneCell, List.all_nil, Bool.and_self, and_self, X_nil, thenQ_normal, W_seq, w10_6, Mem.next_bump, Mem.next_put, Nat.le_add_right, bump_bump, X_call ca_15, List.map_cons, ev_const, List.map_nil, true_and]
  refine CallI.con0 (drop_last (s := A4) (sz := 0) ?_ ⟨by decide, by decide, by decide⟩ (by decide)) ?_
  · simp only [FAt, Mem.get_bump, Mem.get_put, Nat.add_left_cancel_iff, Nat.reduceEqDiff, if_true, if_false]; rfl
  simp only [put_bump, putT, Nat.reduceLT, T_set, X_move, ev_T, lk_cons, Nat.reduceEqDiff, if_false, if_true, X_extract EE_sym, List.getElem?_toArray, List.getElem?_cons_zero, okI_some, List.getElem?_cons_succ, X_alloc, zero_34, Nat.add_assoc, Nat.reduceAdd, X_assign, X_store, store1 sz_34, Mem.get_bump, Mem.get_put, Nat.add_left_cancel_iff, cells_agg, st1_cells, List.length_cons, List.length_nil, Nat.zero_add, ofList_n, Nat.le_refl, List.all_cons, oneCell, List.all_nil, Bool.and_self, and_self, X_nil, thenQ_normal, W_seq, w10_7, Mem.next_bump, Mem.next_put, Nat.le_add_right, bump_bump, X_build EE_sym, List.map_cons, ev_const, List.map_nil, b34p, X_call ca_21, true_and]
  refine CallI.con0 (open_at (s := A5) (sz := 0) (k := 0) ?_ (by decide) (by decide) (by decide) rfl (fun j hj => absurd hj (Nat.not_lt_zero j))) ?_
  · simp only [FAt, Mem.get_bump, Mem.get_put, Nat.add_left_cancel_iff, Nat.reduceEqDiff, if_true, if_false]; rfl
  have f0 : ((0 : Nat) : Int) = 0 := rfl
  have f1 : ((1 : Nat) : Int) = 1 := rfl
  have f2 : A3.r (Int.toNat 0) - 1 = 1 := rfl
  have f3 : A4.p (Int.toNat 0) = 3 := rfl
  have f4 : A4.w (Int.toNat 0) = true := rfl
  simp only [f2, f3, f4, f0, put_bump, putT, f1, Nat.reduceLT, T_set, X_move, ev_T, lk_cons, Nat.reduceEqDiff, if_false, if_true, X_extract EE_sym, List.getElem?_toArray, List.getElem?_cons_zero, okI_some, List.getElem?_cons_succ, X_assign, X_nil, thenQ_normal, W_seq, w10_8, Mem.next_bump, Mem.next_put, Nat.le_add_right, bump_bump, Nat.reduceAdd, X_eql EE_sym, ev_const, eq_int, decide_true, X_guard EE_sym, T_get, GDi_tt, X_pick EE_sym, pickV_bool, X_load EE_sym, loadN lay_34, Mem.get_bump, Mem.get_put, Nat.add_left_cancel_iff, ldN_cells, List.length_cons, List.length_nil, Nat.zero_add, ofList_n, Nat.le_refl, sub_write_same, Option.map_some, X_build EE_sym, List.map_cons, List.map_nil, b34f, eq34, beq_self_eq_true, Bool.and_self, W_ret, FinX_ret, resA_tmp, Nat.one_ne_zero, resA_nil, oneOr1, true_and]
  refine (fun hN : Nx m _ => hN.raw ⟨rfl, hN⟩) ⟨by (try simp only [Mem.next_bump, Mem.next_put]); omega, Fresh.of_low (by have := hm.n64; (try simp only [Mem.next_bump, Mem.next_put]); omega) (by repeat (first | exact Low.of hm (by (try simp only [Mem.next_bump, Mem.next_put]); omega) | refine Low.put ?_ (by (try simp only [Mem.next_bump, Mem.next_put]); omega) | refine Low.bump ?_)), fun y hy => by simp only [Mem.get_bump, Mem.get_put, ne_new hy, if_false]⟩
end
end
end Go.Ab
