/- TreeOrphans: the calls ahead. -/
import Derived.Test.YtjajeeoahbidlaaTrIK
import Derived.Test.YtjajeeoahbidlaaTrA3
namespace Go.Ab
open Go.Proofs
noncomputable section
set_option maxHeartbeats 4000000
set_option maxRecDepth 10000
/-- Calls, where they lie. -/
def Ops (m : Mem) (v : Value) (n : Nat) : Prop := ∃ a C, v = .slice a n C ∧ (n = 0 ∨ ∃ B cs w z, a = some ⟨B, 0, none⟩ ∧ m.get B = some (.cells cs w z) ∧ ∀ i, i < n → ∃ (k p r st : Int) (f : BitVec 32), cs.sub (i * 5) 5 = some [In k, In p, In r, In st, Um f])
theorem sub_nth {cs : Cells} {o n j : Nat} {l : List Value} {v : Value} (h : cs.sub o n = some l) (hj : j < n) (hv : l.getD j undef = v) : cs.nth (o + j) = some v := by
  have h1 := sub_get_inv h hj
  have h2 : o + n ≤ cs.n := by
    unfold Cells.sub at h
    split at h
    · assumption
    · cases h
  rw [nth_lt (by omega), h1, hv]
/-- A table of our own. -/
structure OwnT (m M : Mem) (t b : Nat) (room : Int) : Prop where
  nx : Nx m M
  lo : m.next ≤ t ∧ m.next ≤ b
  at_ : ∃ top L, TAt M t b room top L ∧ Gt L room top
section
variable {m M M' : Mem} {t b : Nat} {room top : Int} {L : TL} {p : Int} {s : BitVec 32} {J : List (Nat × Value)} {l : Value} {n n0 : Nat}
theorem Nx.frT (hn : Nx m M) (lo : m.next ≤ t ∧ m.next ≤ b) (hF : FrT M M' t b) : Nx m M' :=
  ⟨Nat.le_trans hn.next hF.next, hF.fresh, fun y hy => by have := hn.next; rw [hF.old y (by omega) (by omega) (by omega), hn.old y hy]⟩
theorem Gt.len32 (h : Gt L room top) : L.length ≤ 32 := by have := h.len; have := h.rm; omega
theorem or_ops (hm : Fresh m) (j12 : lk J 12 = In 0) (j10 : lk J 10 = PT t) (j1 : lk J 1 = l) (j2 : lk J 2 = In p) (j3 : lk J 3 = Um s) (j9 : lk J 9 = .bool true) (hl : Ops m l n) (hn : n ≤ 60) (h : OwnT m M t b room) (hn0 : n0 ≤ m.next) :
    WXi EE n0 none c3_28 (T 253 J) M (Q := ⟨fun x tt M1 => x = .exit 0 ∧ ∃ J1, tt = T 253 J1 ∧ (lk J1 10 = PT t ∧ lk J1 1 = l ∧ lk J1 2 = In p ∧ lk J1 3 = Um s ∧ lk J1 9 = .bool true) ∧ OwnT m M1 t b room⟩) := by
  obtain ⟨aa, C, rfl, hl2⟩ := id hl
  have hlen : ∀ M, lenA EE.P 22 (.slice aa n C) M = some (In n) := fun M => len_slice und_22
  simp only [w3_28]
  refine WX.loop_of (fun k tt M => ∃ i : Nat, i ≤ n ∧ k = n - i ∧ tt = T 253 [(12, In i), (10, PT t), (1, .slice aa n C), (2, In p), (3, Um s), (9, .bool true)] ∧ OwnT m M t b room) ?_ (k := n) (t1 := T 253 [(12, In (0 : Nat)), (10, PT t), (1, .slice aa n C), (2, In p), (3, Um s), (9, .bool true)]) (View.temps ⟨j12, j10, j1, j2, j3, j9, trivial⟩) ⟨0, by omega, rfl, rfl, h⟩
  rintro k tt M ⟨i, hi, rfl, rfl, hO⟩
  have hnx := Nat.le_trans hn0 hO.nx.next
  obtain ⟨top, L, hT, hG⟩ := hO.at_
  have hL := hG.len32
  by_cases hi2 : i < n
  · have g1 : (i : Int) < (n : Int) := by omega
    have g2 : (0 : Int) ≤ i := by omega
    have hw1 : IntKind.i64.wrap ((i : Int) + 1) = ((i + 1 : Nat) : Int) := by rw [wrap_i64 (by omega) (by omega)]; omega
    rcases hl2 with hl2 | ⟨B, cs, ww, z, rfl, e1, e2⟩
    · omega
    obtain ⟨kk, q, r, st, f, e3⟩ := e2 i hi2
    have e4 : M.get B = some (.cells cs ww z) := by rw [hO.nx.old B (hm.lt e1), e1]
    have e5 : cs.nth (i * 5) = some (In kk) := sub_nth (j := 0) e3 (by decide) rfl
    have e6 : cs.nth (i * 5 + 1) = some (In q) := sub_nth e3 (by decide) rfl
    have e7 : cs.nth (i * 5 + 4) = some (Um f) := sub_nth e3 (by decide) rfl
    have own : ∀ {M'} {top' : Int} {L' : TL}, FrT (M) M' t b → TAt M' t b room top' L' → Gt L' room top' → OwnT m M' t b room := fun hF hT hG => ⟨hO.nx.frT hO.lo hF, hO.lo, _, _, hT, hG⟩
    by_cases k0 : kk = 0
    · have d0 := decide_eq_true k0
      simp only [w3_27, W_seq, w3_7, hnx, X_move, Nat.reduceLT, ev_T, lk_cons, Nat.reduceEqDiff, if_false, if_true, T_set, X_len EE_sym, len_slice und_22, okI_some, X_bin EE_sym (op := .lss) rfl, bin_lss, g1, decide_true, X_nil, thenQ_normal, W_cond, CDi_t, W_skip, W_block, w3_25, w3_8, Mem.next_bump, Nat.le_add_right_of_le, bump_bump, Nat.reduceAdd, X_indexAddr EE_sym, g2, idxV_slice und_22 sz_30, Int.toNat_natCast, Nat.zero_add, X_fieldAddr EE_sym fo_30_0, offV_ptr, Nat.add_zero, X_load EE_sym, load1 lay_3, Mem.get_bump, e4, ld1_cells, e5, w3_24, w3_9, X_eql EE_sym, ev_const, eq_int, d0, X_assign, w3_11, w3_10, X_fieldAddr EE_sym fo_30_1, e6, X_call ca_9, List.map_cons, List.map_nil, true_and]
      refine CallI.ex2 (fork_ok (p := q) (hT.bump _) hO.nx.fresh.bump hL (by have := hG.tp; omega)) fun u M2 hv => ?_
      obtain ⟨rfl, hT2, hF2⟩ := hv
      have hO2 := own hF2.of_bump hT2 hG.fork
      have n2 := Nat.le_trans hn0 hO2.nx.next
      simp only [putT, Nat.reduceLT, T_set, X_nil, blockQ_normal, thenQ_normal, w3_26, n2, X_move, ev_T, lk_cons, Nat.reduceEqDiff, if_false, if_true, X_bin EE_sym (op := .add) rfl, ev_const, bin_add, hw1, okI_some, X_assign, roundQ_normal, true_and]
      exact ⟨n - (i + 1), _, _, by omega, View.temps (l' := [(12, In ((i + 1 : Nat) : Int)), (10, PT t), (1, .slice (some ⟨B, 0, none⟩) n C), (2, In p), (3, Um s), (9, .bool true)]) ⟨rfl, rfl, rfl, rfl, rfl, rfl, trivial⟩, i + 1, by omega, rfl, rfl, ⟨hO2.nx.bump _, hO.lo, _, _, hT2.bump _, hG.fork⟩⟩
    have d0 := decide_eq_false k0
    by_cases k1 : kk = 1
    · have d1 := decide_eq_true k1
      simp only [w3_27, W_seq, w3_7, hnx, X_move, Nat.reduceLT, ev_T, lk_cons, Nat.reduceEqDiff, if_false, if_true, T_set, X_len EE_sym, len_slice und_22, okI_some, X_bin EE_sym (op := .lss) rfl, bin_lss, g1, decide_true, X_nil, thenQ_normal, W_cond, CDi_t, W_skip, W_block, w3_25, w3_8, Mem.next_bump, Nat.le_add_right_of_le, bump_bump, Nat.reduceAdd, X_indexAddr EE_sym, g2, idxV_slice und_22 sz_30, Int.toNat_natCast, Nat.zero_add, X_fieldAddr EE_sym fo_30_0, offV_ptr, Nat.add_zero, X_load EE_sym, load1 lay_3, Mem.get_bump, e4, ld1_cells, e5, w3_24, w3_9, X_eql EE_sym, ev_const, eq_int, d0, X_assign, CDi_f, w3_23, w3_12, d1, w3_14, w3_13, X_fieldAddr EE_sym fo_30_1, e6, X_fieldAddr EE_sym fo_30_4, load1 lay_23, e7, X_call ca_10, List.map_cons, List.map_nil, true_and]
      refine CallI.ex2 (exit_ok (p := q) (s := f) (hT.bump _) hO.nx.fresh.bump hG.wf (by omega)) fun u M2 hv => ?_
      obtain ⟨⟨v, rfl, _, _⟩, hT2, hF2⟩ := hv
      have hO2 := own hF2.of_bump hT2 hG.exit
      have n2 := Nat.le_trans hn0 hO2.nx.next
      simp only [putT, Nat.reduceLT, T_set, X_nil, blockQ_normal, thenQ_normal, w3_26, n2, X_move, ev_T, lk_cons, Nat.reduceEqDiff, if_false, if_true, X_bin EE_sym (op := .add) rfl, ev_const, bin_add, hw1, okI_some, X_assign, roundQ_normal, true_and]
      exact ⟨n - (i + 1), _, _, by omega, View.temps (l' := [(12, In ((i + 1 : Nat) : Int)), (10, PT t), (1, .slice (some ⟨B, 0, none⟩) n C), (2, In p), (3, Um s), (9, .bool true)]) ⟨rfl, rfl, rfl, rfl, rfl, rfl, trivial⟩, i + 1, by omega, rfl, rfl, ⟨hO2.nx.bump _, hO.lo, _, _, hT2.bump _, hG.exit⟩⟩
    have d1 := decide_eq_false k1
    by_cases k2 : kk = 2
    · have d2 := decide_eq_true k2
      simp only [w3_27, W_seq, w3_7, hnx, X_move, Nat.reduceLT, ev_T, lk_cons, Nat.reduceEqDiff, if_false, if_true, T_set, X_len EE_sym, len_slice und_22, okI_some, X_bin EE_sym (op := .lss) rfl, bin_lss, g1, decide_true, X_nil, thenQ_normal, W_cond, CDi_t, W_skip, W_block, w3_25, w3_8, Mem.next_bump, Nat.le_add_right_of_le, bump_bump, Nat.reduceAdd, X_indexAddr EE_sym, g2, idxV_slice und_22 sz_30, Int.toNat_natCast, Nat.zero_add, X_fieldAddr EE_sym fo_30_0, offV_ptr, Nat.add_zero, X_load EE_sym, load1 lay_3, Mem.get_bump, e4, ld1_cells, e5, w3_24, w3_9, X_eql EE_sym, ev_const, eq_int, d0, X_assign, CDi_f, w3_23, w3_12, d1, w3_22, w3_15, d2, w3_17, w3_16, X_fieldAddr EE_sym fo_30_1, e6, X_call ca_11, List.map_cons, List.map_nil, true_and]
      refine CallI.ex2 (reap_ok (pid := q) (hT.bump _) hO.nx.fresh.bump hG.wf (by omega)) fun u M2 hv => ?_
      obtain ⟨rfl, hT2, hF2⟩ := hv
      have hO2 := own hF2.of_bump hT2 hG.reap
      have n2 := Nat.le_trans hn0 hO2.nx.next
      simp only [putT, Nat.reduceLT, T_set, X_nil, blockQ_normal, thenQ_normal, w3_26, n2, X_move, ev_T, lk_cons, Nat.reduceEqDiff, if_false, if_true, X_bin EE_sym (op := .add) rfl, ev_const, bin_add, hw1, okI_some, X_assign, roundQ_normal, true_and]
      exact ⟨n - (i + 1), _, _, by omega, View.temps (l' := [(12, In ((i + 1 : Nat) : Int)), (10, PT t), (1, .slice (some ⟨B, 0, none⟩) n C), (2, In p), (3, Um s), (9, .bool true)]) ⟨rfl, rfl, rfl, rfl, rfl, rfl, trivial⟩, i + 1, by omega, rfl, rfl, ⟨hO2.nx.bump _, hO.lo, _, _, hT2.bump _, hG.reap⟩⟩
    have d2 := decide_eq_false k2
    by_cases k3 : kk = 3
    · have d3 := decide_eq_true k3
      simp only [w3_27, W_seq, w3_7, hnx, X_move, Nat.reduceLT, ev_T, lk_cons, Nat.reduceEqDiff, if_false, if_true, T_set, X_len EE_sym, len_slice und_22, okI_some, X_bin EE_sym (op := .lss) rfl, bin_lss, g1, decide_true, X_nil, thenQ_normal, W_cond, CDi_t, W_skip, W_block, w3_25, w3_8, Mem.next_bump, Nat.le_add_right_of_le, bump_bump, Nat.reduceAdd, X_indexAddr EE_sym, g2, idxV_slice und_22 sz_30, Int.toNat_natCast, Nat.zero_add, X_fieldAddr EE_sym fo_30_0, offV_ptr, Nat.add_zero, X_load EE_sym, load1 lay_3, Mem.get_bump, e4, ld1_cells, e5, w3_24, w3_9, X_eql EE_sym, ev_const, eq_int, d0, X_assign, CDi_f, w3_23, w3_12, d1, w3_22, w3_15, d2, w3_21, w3_18, d3, w3_20, w3_19, X_fieldAddr EE_sym fo_30_1, e6, X_call ca_12, List.map_cons, List.map_nil, true_and]
      refine CallI.ex2 (freeze_ok (p := q) (hT.bump _) hO.nx.fresh.bump hG.wf hG.Par (by omega)) fun u M2 hv => ?_
      obtain ⟨⟨v, rfl, _, _⟩, hT2, hF2⟩ := hv
      have hO2 := own hF2.of_bump hT2 hG.freeze
      have n2 := Nat.le_trans hn0 hO2.nx.next
      simp only [putT, Nat.reduceLT, T_set, X_nil, blockQ_normal, thenQ_normal, w3_26, n2, X_move, ev_T, lk_cons, Nat.reduceEqDiff, if_false, if_true, X_bin EE_sym (op := .add) rfl, ev_const, bin_add, hw1, okI_some, X_assign, roundQ_normal, true_and]
      exact ⟨n - (i + 1), _, _, by omega, View.temps (l' := [(12, In ((i + 1 : Nat) : Int)), (10, PT t), (1, .slice (some ⟨B, 0, none⟩) n C), (2, In p), (3, Um s), (9, .bool true)]) ⟨rfl, rfl, rfl, rfl, rfl, rfl, trivial⟩, i + 1, by omega, rfl, rfl, ⟨hO2.nx.bump _, hO.lo, _, _, hT2.bump _, hG.freeze⟩⟩
    have d3 := decide_eq_false k3
    simp only [w3_27, W_seq, w3_7, hnx, X_move, Nat.reduceLT, ev_T, lk_cons, Nat.reduceEqDiff, if_false, if_true, T_set, X_len EE_sym, len_slice und_22, okI_some, X_bin EE_sym (op := .lss) rfl, bin_lss, g1, decide_true, X_nil, thenQ_normal, W_cond, CDi_t, W_skip, W_block, w3_25, w3_8, Mem.next_bump, Nat.le_add_right_of_le, bump_bump, Nat.reduceAdd, X_indexAddr EE_sym, g2, idxV_slice und_22 sz_30, Int.toNat_natCast, Nat.zero_add, X_fieldAddr EE_sym fo_30_0, offV_ptr, Nat.add_zero, X_load EE_sym, load1 lay_3, Mem.get_bump, e4, ld1_cells, e5, w3_24, w3_9, X_eql EE_sym, ev_const, eq_int, d0, X_assign, CDi_f, w3_23, w3_12, d1, w3_22, w3_15, d2, w3_21, w3_18, d3, blockQ_normal, w3_26, X_bin EE_sym (op := .add) rfl, bin_add, hw1, roundQ_normal, true_and]
    exact ⟨n - (i + 1), _, _, by omega, View.temps (l' := [(12, In ((i + 1 : Nat) : Int)), (10, PT t), (1, .slice (some ⟨B, 0, none⟩) n C), (2, In p), (3, Um s), (9, .bool true)]) ⟨rfl, rfl, rfl, rfl, rfl, rfl, trivial⟩, i + 1, by omega, rfl, rfl, ⟨hO.nx.bump _, hO.lo, _, _, hT.bump _, hG⟩⟩
  · obtain rfl : i = n := by omega
    have g1 : ¬ (i : Int) < (i : Int) := by omega
    simp only [w3_27, W_seq, w3_7, hnx, X_move, Nat.reduceLT, ev_T, lk_cons, Nat.reduceEqDiff, if_false, if_true, T_set, X_len EE_sym, len_slice und_22, okI_some, X_bin EE_sym (op := .lss) rfl, bin_lss, g1, decide_false, X_nil, thenQ_normal, W_cond, CDi_f, W_exit, thenQ_exit, roundQ_exit, true_and]
    exact ⟨_, rfl, ⟨rfl, rfl, rfl, rfl, rfl⟩, ⟨hO.nx.bump _, hO.lo, _, _, hT.bump _, hG⟩⟩
end
end
end Go.Ab
