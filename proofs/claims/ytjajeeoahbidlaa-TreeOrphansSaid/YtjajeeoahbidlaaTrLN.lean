/- TreeOrphans: the calls ahead. -/
import Derived.Test.YtjajeeoahbidlaaTrIK
import Derived.Test.YtjajeeoahbidlaaTrA3
namespace Go.Ab
open Go.Proofs
noncomputable section
set_option maxHeartbeats 4000000
set_option maxRecDepth 10000
/-- Calls, where they lie. -/
def Ops (m : Mem) (v : Value) (n : Nat) : Prop := ∃ a C, v = .slice a n C ∧ (n = 0 ∨ ∃ B cs w z, a = some ⟨B, 0, none⟩ ∧ m.get B = some (.cells cs w z) ∧ ∀ i, i < n → ∃ (k p r st : Int) (f : BitVec 32), cs.sub (i * 5) 5 = some [In k, In p, In r, In st, Um f])
theorem sub_nth {cs : Cells} {o n j : Nat} {l : List Value} {v : Value} (h : cs.sub o n = some l) (hj : j < n) (hv : l.getD j undef = v) : cs.nth (o + j) = some v := by
  have h1 := sub_get_inv h hj
  have h2 : o + n ≤ cs.n := by
    unfold Cells.sub at h
    split at h
    · assumption
    · cases h
  rw [nth_lt (by omega), h1, hv]
/-- A table of our own. -/
structure OwnT (m M : Mem) (t b : Nat) (room : Int) : Prop where
  nx : Nx m M
  lo : m.next ≤ t ∧ m.next ≤ b
  at_ : ∃ top L, TAt M t b room top L ∧ Gt L room top
section
variable {m M M' : Mem} {t b : Nat} {room top : Int} {L : TL} {p : Int} {s : BitVec 32} {J : List (Nat × Value)} {l : Value} {n n0 : Nat}
theorem Nx.frT (hn : Nx m M) (lo : m.next ≤ t ∧ m.next ≤ b) (hF : FrT M M' t b) : Nx m M' :=
  ⟨Nat.le_trans hn.next hF.next, hF.fresh, fun y hy => by have := hn.next; rw [hF.old y (by omega) (by omega) (by omega), hn.old y hy]⟩
theorem Gt.len32 (h : Gt L room top) : L.length ≤ 32 := by have := h.len; have := h.rm; omega
theorem or_ops (hm : Fresh m) (j12 : lk J 12 = In 0) (j10 : lk J 10 = PT t) (j1 : lk J 1 = l) (j2 : lk J 2 = In p) (j3 : lk J 3 = Um s) (j9 : lk J 9 = .bool true) (hl : Ops m l n) (hn : n ≤ 60) (h : OwnT m M t b room) (hn0 : n0 ≤ m.next) :
    WXi EE n0 none c3_28 (T 253 J) M (Q := ⟨fun x tt M1 => x = .exit 0 ∧ ∃ J1, tt = T 253 J1 ∧ (lk J1 10 = PT t ∧ lk J1 1 = l ∧ lk J1 2 = In p ∧ lk J1 3 = Um s ∧ lk J1 9 = .bool true) ∧ OwnT m M1 t b room⟩) := by
  obtain ⟨aa, C, rfl, hl2⟩ := id hl
  have hlen : ∀ M, lenA EE.P 22 (.slice aa n C) M = some (In n) := fun M => len_slice und_22
  simp only [w3_28]
  refine WX.loop_of (fun k tt M => ∃ i : Nat, i ≤ n ∧ k = n - i ∧ tt = T 253 [(12, In i), (10, PT t), (1, .slice aa n C), (2, In p), (3, Um s), (9, .bool true)] ∧ OwnT m M t b room) ?_ (k := n) (t1 := T 253 [(12, In (0 : Nat)), (10, PT t), (1, .slice aa n C), (2, In p), (3, Um s), (9, .bool true)]) (View.temps ⟨j12, j10, j1, j2, j3, j9, trivial⟩) ⟨0, by omega, rfl, rfl, h⟩
  rintro k tt M ⟨i, hi, rfl, rfl, hO⟩
  have hnx := Nat.le_trans hn0 hO.nx.next
  obtain ⟨top, L, hT, hG⟩ := hO.at_
  have hL := hG.len32
  by_cases hi2 : i < n
  · have g1 : (i : Int) < (n : Int) := by omega
    have g2 : (0 : Int) ≤ i := by omega
    have hw1 : IntKind.i64.wrap ((i : Int) + 1) = ((i + 1 : Nat) : Int) := by rw [wrap_i64 (by omega) (by omega)]; omega
    rcases hl2 with hl2 | ⟨B, cs, ww, z, rfl, e1, e2⟩
    · omega
    obtain ⟨kk, q, r, st, f, e3⟩ := e2 i hi2
    have e4 : M.get B = some (.cells cs ww z) := by rw [hO.nx.old B (hm.lt e1), e1]
    have e5 : cs.nth (i * 5) = some (In kk) := sub_nth (j := 0) e3 (by decide) rfl
    have e6 : cs.nth (i * 5 + 1) = some (In q) := sub_nth e3 (by decide) rfl
    have e7 : cs.nth (i * 5 + 4) = some (Um f) := sub_nth e3 (by decide) rfl
    have own : ∀ {M'} {top' : Int} {L' : TL}, FrT (M) M' t b → TAt M' t b room top' L' → Gt L' room top' → OwnT m M' t b room := fun hF hT hG => ⟨hO.nx.frT hO.lo hF, hO.lo, _, _, hT, hG⟩
    by_cases k0 : kk = 0
    · have d0 := decide_eq_true k0
      simp only [w3_27, W_seq, w3_7, hnx, X_move, Nat.reduceLT, ev_T, lk_cons, Nat.reduceEqDiff, if_false, if_true, T_set, X_len EE_sym, len_slice und_22, okI_some, X_bin EE_sym (op := .lss) rfl, bin_lss, g1, decide_true, X_nil, thenQ_normal, W_cond, CDi_t, W_skip, W_block, w3_25, w3_8, Mem.next_bump, Nat.le_add_right_of_le, bump_bump, Nat.reduceAdd, X_indexAddr EE_sym, g2, idxV_slice und_22 sz_30, Int.toNat_natCast, Nat.zero_add, X_fieldAddr EE_sym fo_30_0, offV_ptr, Nat.add_zero, X_load EE_sym, load1 lay_3, Mem.get_bump, e4, ld1_cells, e5, w3_24, w3_9, X_eql EE_sym, ev_const, eq_int, d0, X_assign, w3_11, w3_10, X_fieldAddr EE_sym fo_30_1, e6, X_call ca_9, List.map_cons, List.map_nil, true_and]
      refine CallI.ex2 (fork_ok (p := q) (hT.bump _) hO.nx.fresh.bump hL (by have := hG.tp; omega)) fun u M2 hv => ?_
      obtain ⟨rfl, hT2, hF2⟩ := hv
      have hO2 := own hF2.of_bump hT2 hG.fork
      have n2 := Nat.le_trans hn0 hO2.nx.next
      simp only [putT, Nat.reduceLT, T_set, X_nil, blockQ_normal, thenQ_normal, w3_26, n2, X_move, ev_T, lk_cons, Nat.reduceEqDiff, if_false, if_true, X_bin EE_sym (op := .add) rfl, ev_const, bin_add, hw1, okI_some, X_assign, roundQ_normal, true_and]
      exact ⟨n - (i + 1), _, _, by omega, View.temps (l' := [(12, In ((i + 1 : Nat) : Int)), (10, PT t), (1, .slice (some ⟨B, 0, none⟩) n C), (2, In p), (3, Um s), (9, .bool true)]) ⟨rfl, rfl, rfl, rfl, rfl, rfl, trivial⟩, i + 1, by omega, rfl, rfl, ⟨hO2.nx.bump _, hO.lo, _, _, hT2.bump _, hG.fork⟩⟩
    have d0 := decide_eq_false k0
    by_cases k1 : kk = 1
    · have d1 := decide_eq_true k1
      simp only [w3_27, W_seq, w3_7, hnx, X_move, Nat.reduceLT, ev_T, lk_cons, Nat.reduceEqDiff, if_false, if_true, T_set, X_len EE_sym, len_slice und_22, okI_some, X_bin EE_sym (op := .lss) rfl, bin_lss, g1, decide_true, X_nil, thenQ_normal, W_cond, CDi_t, W_skip, W_block, w3_25, w3_8, Mem.next_bump, Nat.le_add_right_of_le, bump_bump, Nat.reduceAdd, X_indexAddr EE_sym, g2, idxV_slice und_22 sz_30, Int.toNat_natCast, Nat.zero_add, X_fieldAddr EE_sym fo_30_0, offV_ptr, Nat.add_zero, X_load EE_sym, load1 lay_3, Mem.get_bump, e4, ld1_cells, e5, w3_24, w3_9, X_eql EE_sym, ev_const, eq_int, d0, X_assign, CDi_f, w3_23, w3_12, d1, w3_14, w3_13, X_fieldAddr EE_sym fo_30_1, e6, X_fieldAddr EE_sym fo_30_4, load1 lay_23, e7, X_call ca_10, List.map_cons, List.map_nil, true_and]
      refine CallI.ex2 (exit_ok (p := q) (s := f) (hT.bump _) hO.nx.fresh.bump hG.wf (by omega)) fun u M2 hv => ?_
      obtain ⟨⟨v, rfl, _, _⟩, hT2, hF2⟩ := hv
      have hO2 := own hF2.of_bump hT2 hG.exit
      have n2 := Nat.le_trans hn0 hO2.nx.next
      simp only [putT, Nat.reduceLT, T_set, X_nil, blockQ_normal, thenQ_normal, w3_26, n2, X_move, ev_T, lk_cons, Nat.reduceEqDiff, if_false, if_true, X_bin EE_sym (op := .add) rfl, ev_const, bin_add, hw1, okI_some, X_assign, roundQ_normal, true_and]
      exact ⟨n - (i + 1), _, _, by omega, View.temps (l' := [(12, In ((i + 1 : Nat) : Int)), (10, PT t), (1, .slice (some ⟨B, 0, none⟩) n C), (2, In p), (3, Um s), (9, .bool true)]) ⟨rfl, rfl, rfl, rfl, rfl, rfl, trivial⟩, i + 1, by omega, rfl, rfl, ⟨hO2.nx.bump _, hO.lo, _, _, hT2.bump _, hG.exit⟩⟩
    have d1 := decide_eq_false k1
    by_cases k2 : kk = 2
    · have d2 := decide_eq_true k2
      simp only [w3_27, W_seq, w3_7, hnx, X_move, Nat.reduceLT, ev_T, lk_cons, Nat.reduceEqDiff, if_false, if_true, T_set, X_len EE_sym, len_slice und_22, okI_some, X_bin EE_sym (op := .lss) rfl, bin_lss, g1, decide_true, X_nil, thenQ_normal, W_cond, CDi_t, W_skip, W_block, w3_25, w3_8, Mem.next_bump, Nat.le_add_right_of_le, bump_bump, Nat.reduceAdd, X_indexAddr EE_sym, g2, idxV_slice und_22 sz_30, Int.toNat_natCast, Nat.zero_add, X_fieldAddr EE_sym fo_30_0, offV_ptr, Nat.add_zero, X_load EE_sym, load1 lay_3, Mem.get_bump, e4, ld1_cells, e5, w3_24, w3_9, X_eql EE_sym, ev_const, eq_int, d0, X_assign, CDi_f, w3_23, w3_12, d1, w3_22, w3_15, d2, w3_17, w3_16, X_fieldAddr EE_sym fo_30_1, e6, X_call ca_11, List.map_cons, List.map_nil, true_and]
      refine CallI.ex2 (reap_ok (pid := q) (hT.bump _) hO.nx.fresh.bump hG.wf (by omega)) fun u M2 hv => ?_
      obtain ⟨rfl, hT2, hF2⟩ := hv
      have hO2 := own hF2.of_bump hT2 hG.reap
      have n2 := Nat.le_trans hn0 hO2.nx.next
      simp only [putT, Nat.reduceLT, T_set, X_nil, blockQ_normal, thenQ_normal, w3_26, n2, X_move, ev_T, lk_cons, Nat.reduceEqDiff, if_false, if_true, X_bin EE_sym (op := .add) rfl, ev_const, bin_add, hw1, okI_some, X_assign, roundQ_normal, true_and]
      exact ⟨n - (i + 1), _, _, by omega, View.temps (l' := [(12, In ((i + 1 : Nat) : Int)), (10, PT t), (1, .slice (some ⟨B, 0, none⟩) n C), (2, In p), (3, Um s), (9, .bool true)]) ⟨rfl, rfl, rfl, rfl, rfl, rfl, trivial⟩, i + 1, by omega, rfl, rfl, ⟨hO2.nx.bump _, hO.lo, _, _, hT2.bump _, hG.reap⟩⟩
    have d2 := decide_eq_false k2
    by_cases k3 : kk = 3
    · have d3 := decide_eq_true k3
      simp only [w3_27, W_seq, w3_7, hnx, X_move, Nat.reduceLT, ev_T, lk_cons, Nat.reduceEqDiff, if_false, if_true, T_set, X_len EE_sym, len_slice und_22, okI_some, X_bin EE_sym (op := .lss) rfl, bin_lss, g1, decide_true, X_nil, thenQ_normal, W_cond, CDi_t, W_skip, W_block, w3_25, w3_8, Mem.next_bump, Nat.le_add_right_of_le, bump_bump, Nat.reduceAdd, X_indexAddr EE_sym, g2, idxV_slice und_22 sz_30, Int.toNat_natCast, Nat.zero_add, X_fieldAddr EE_sym fo_30_0, offV_ptr, Nat.add_zero, X_load EE_sym, load1 lay_3, Mem.get_bump, e4, ld1_cells, e5, w3_24, w3_9, X_eql EE_sym, ev_const, eq_int, d0, X_assign, CDi_f, w3_23, w3_12, d1, w3_22, w3_15, d2, w3_21, w3_18, d3, w3_20, w3_19, X_fieldAddr EE_sym fo_30_1, e6, X_call ca_12, List.map_cons, List.map_nil, true_and]
      refine CallI.ex2 (freeze_ok (p := q) (hT.bump _) hO.nx.fresh.bump hG.wf hG.Par (by omega)) fun u M2 hv => ?_
      obtain ⟨⟨v, rfl, _, _⟩, hT2, hF2⟩ := hv
      have hO2 := own hF2.of_bump hT2 hG.freeze
      have n2 := Nat.le_trans hn0 hO2.nx.next
      simp only [putT, Nat.reduceLT, T_set, X_nil, blockQ_normal, thenQ_normal, w3_26, n2, X_move, ev_T, lk_cons, Nat.reduceEqDiff, if_false, if_true, X_bin EE_sym (op := .add) rfl, ev_const, bin_add, hw1, okI_some, X_assign, roundQ_normal, true_and]
      exact ⟨n - (i + 1), _, _, by omega, View.temps (l' := [(12, In ((i + 1 : Nat) : Int)), (10, PT t), (1, .slice (some ⟨B, 0, none⟩) n C), (2, In p), (3, Um s), (9, .bool true)]) ⟨rfl, rfl, rfl, rfl, rfl, rfl, trivial⟩, i + 1, by omega, rfl, rfl, ⟨hO2.nx.bump _, hO.lo, _, _, hT2.bump _, hG.freeze⟩⟩
    have d3 := decide_eq_false k3
    simp only [w3_27, W_seq, w3_7, hnx, X_move, Nat.reduceLT, ev_T, lk_cons, Nat.reduceEqDiff, if_false, if_true, T_set, X_len EE_sym, len_slice und_22, okI_some, X_bin EE_sym (op := .lss) rfl, bin_lss, g1, decide_true, X_nil, thenQ_normal, W_cond, CDi_t, W_skip, W_block, w3_25, w3_8, Mem.next_bump, Nat.le_add_right_of_le, bump_bump, Nat.reduceAdd, X_indexAddr EE_sym, g2, idxV_slice und_22 sz_30, Int.toNat_natCast, Nat.zero_add, X_fieldAddr EE_sym fo_30_0, offV_ptr, Nat.add_zero, X_load EE_sym, load1 lay_3, Mem.get_bump, e4, ld1_cells, e5, w3_24, w3_9, X_eql EE_sym, ev_const, eq_int, d0, X_assign, CDi_f, w3_23, w3_12, d1, w3_22, w3_15, d2, w3_21, w3_18, d3, blockQ_normal, w3_26, X_bin EE_sym (op := .add) rfl, bin_add, hw1, roundQ_normal, true_and]
    exact ⟨n - (i + 1), _, _, by omega, View.temps (l' := [(12, In ((i + 1 : Nat) : Int)), (10, PT t), (1, .slice (some ⟨B, 0, none⟩) n C), (2, In p), (3, Um s), (9, .bool true)]) ⟨rfl, rfl, rfl, rfl, rfl, rfl, trivial⟩, i + 1, by omega, rfl, rfl, ⟨hO.nx.bump _, hO.lo, _, _, hT.bump _, hG⟩⟩
  · obtain rfl : i = n := by omega
    have g1 : ¬ (i : Int) < (i : Int) := by omega
    simp only [w3_27, W_seq, w3_7, hnx, X_move, Nat.reduceLT, ev_T, lk_cons, Nat.reduceEqDiff, if_false, if_true, T_set, X_len EE_sym, len_slice und_22, okI_some, X_bin EE_sym (op := .lss) rfl, bin_lss, g1, decide_false, X_nil, thenQ_normal, W_cond, CDi_f, W_exit, thenQ_exit, roundQ_exit, true_and]
    exact ⟨_, rfl, ⟨rfl, rfl, rfl, rfl, rfl⟩, ⟨hO.nx.bump _, hO.lo, _, _, hT.bump _, hG⟩⟩
end
end
end Go.Ab
/- TreeOrphans: the children's children. -/
namespace Go.Ab
open Go.Proofs
noncomputable section
set_option maxHeartbeats 4000000
set_option maxRecDepth 10000
theorem eo41 : ElemOk EE.P 41 33 1 24 := ElemOk.of (z := [.slice none 0 0]) und_41 (by kernel_rfl) (by kernel_rfl) rfl (by decide)
theorem bs41 {M : Mem} {sz n : Nat} {u : Value} {fl : List Value} (h : SlV M sz u n fl) : bsV EE.P 41 1 [(0, u)] = some ([u], 1) := by
  rcases h.at_ with ⟨_, rfl⟩ | ⟨b, c, cs, rfl, _⟩
  · kernel_rfl
  · kernel_rfl
theorem one_sl {M : Mem} {sz n : Nat} {u : Value} {fl : List Value} (h : SlV M sz u n fl) : [u].all oneCell = true := by
  rcases h.at_ with ⟨_, rfl⟩ | ⟨b, c, cs, rfl, _⟩ <;> rfl
/-- Children's children, in a list of lists. -/
structure Bel (Mb M : Mem) (L : TL) (K : List Int) (i : Nat) (vb : Value) (us : List Value) : Prop where
  nv : NewV Mb M 1 vb i us
  el : ∀ j, j < i → SlV M 1 (us.getD j undef) (kids L (K.getD j 0)).length (il (kids L (K.getD j 0))) ∧ ∀ y, slB (us.getD j undef) = some y → Mb.next ≤ y ∧ slB vb ≠ some y
section
variable {m M M' Mb : Mem} {t b : Nat} {room top : Int} {L : TL} {p up : Int} {s : BitVec 32} {J : List (Nat × Value)} {v1 : Value} {n n0 : Nat} {K : List Int}
theorem or_below (hT : TAt M t b room top L) (hM : Fresh M) (hw : wfT L) (hlen : L.length < 100000) (hv1 : SlV M 1 v1 K.length (il K)) (hK : K.length ≤ 100000) (j10 : lk J 10 = PT t) (j13 : lk J 13 = v1) (j14 : lk J 14 = In up) (j15 : lk J 15 = .slice none 0 0) (j16 : lk J 16 = In 0) (j2 : lk J 2 = In p) (j3 : lk J 3 = Um s) (j9 : lk J 9 = .bool true) (hn0 : n0 ≤ M.next) :
    WXi EE n0 none c3_38 (T 253 J) M (Q := ⟨fun x tt M1 => x = .exit 3 ∧ ∃ J1 vb us, tt = T 253 J1 ∧ (lk J1 10 = PT t ∧ lk J1 13 = v1 ∧ lk J1 14 = In up ∧ lk J1 15 = vb ∧ lk J1 2 = In p ∧ lk J1 3 = Um s ∧ lk J1 9 = .bool true) ∧ Bel M M1 L K K.length vb us⟩) := by
  have hlenA : ∀ M, lenA EE.P 33 v1 M = some (In K.length) := fun M => hv1.lenA und_33
  simp only [w3_38]
  refine WX.loop_of (fun k tt M2 => ∃ (i : Nat) (vb : Value) (us : List Value), i ≤ K.length ∧ k = K.length - i ∧ tt = T 253 [(16, In i), (15, vb), (10, PT t), (13, v1), (14, In up), (2, In p), (3, Um s), (9, .bool true)] ∧ Bel M M2 L K i vb us) ?_ (k := K.length) (t1 := T 253 [(16, In (0 : Nat)), (15, .slice none 0 0), (10, PT t), (13, v1), (14, In up), (2, In p), (3, Um s), (9, .bool true)]) (View.temps ⟨j16, j15, j10, j13, j14, j2, j3, j9, trivial⟩) ⟨0, _, [], by omega, rfl, rfl, NewV.nil hM, fun j hj => absurd hj (Nat.not_lt_zero _)⟩
  rintro k tt M2 ⟨i, vb, us, hi, rfl, rfl, hB⟩
  have hnx := Nat.le_trans hn0 hB.nv.nx.next
  have hF2 := hB.nv.nx.fresh
  by_cases hi2 : i < K.length
  · have g1 : (i : Int) < (K.length : Int) := by omega
    have g2 : (0 : Int) ≤ i := by omega
    have hw1 : IntKind.i64.wrap ((i : Int) + 1) = ((i + 1 : Nat) : Int) := by rw [wrap_i64 (by omega) (by omega)]; omega
    obtain ⟨N, cN, csN, rfl, k1, k2, k3, k4⟩ := (hv1.nx hM hB.nv.nx).cons (by omega)
    have hq : csN.nth i = some (In (K.getD i 0)) := il_nth k2 k3 k4 hi2
    simp only [w3_37, W_seq, w3_33, hnx, X_move, Nat.reduceLT, ev_T, lk_cons, Nat.reduceEqDiff, if_false, if_true, T_set, X_len EE_sym, len_slice und_33, okI_some, X_bin EE_sym (op := .lss) rfl, bin_lss, g1, decide_true, X_nil, thenQ_normal, W_cond, CDi_t, W_skip, W_block, w3_35, w3_34, Mem.next_bump, Nat.le_add_right_of_le, bump_bump, Nat.reduceAdd, X_indexAddr EE_sym, g2, idxV_slice und_33 sz_3, Int.toNat_natCast, Nat.mul_one, Nat.zero_add, X_load EE_sym, load1 lay_3, Mem.get_bump, k1, ld1_cells, hq, X_call ca_13, List.map_cons, List.map_nil, true_and]
    refine CallI.ex2 (children_ok ((hT.nx hM hB.nv.nx).bump _) hF2.bump hw (by omega)) fun u M3 hN => ?_
    have n3 := hN.nx.next
    rw [Mem.next_bump] at n3
    have n3' : n0 ≤ M3.next := by omega
    have hN' := hN.of_bump
    have hbs := bs41 hN.sl
    simp only [putT, Nat.reduceLT, T_set, X_bs, List.map_cons, ev_T, lk_cons, Nat.reduceEqDiff, if_false, if_true, List.map_nil, hbs, okI_some, Nat.add_assoc, Nat.reduceAdd, X_append]
    have b1 : M2.next + 11 < M3.next := by omega
    have hvbl : ∀ y, slB vb = some y → y < M2.next := fun y hy => hB.nv.sl.lt hF2 hy
    have h32 : ∀ y, y < M2.next → M3.get y = M2.get y := fun y hy => hN'.nx.old y hy
    have hsv : SlV (M3.put (M2.next + 11) (.cells (Cells.ofList [u]) true 1)) 1 vb i us := hB.nv.sl.keep fun y o hy ho => by
      have := hvbl y hy
      rw [Mem.get_put, if_neg (by omega), h32 y this, ho]
    have hsrc : srcA 1 (.slice (some ⟨M2.next + 11, 0, none⟩) 1 1) (M3.put (M2.next + 11) (.cells (Cells.ofList [u]) true 1)) = some ([u], 1) := by
      rw [src_at, Mem.get_put, if_pos rfl, srcC_cells, sub_ofList (by simp)]; rfl
    refine okI_app eo41 (k := 1) hsv hsrc (by decide) rfl (one_sl hN.sl) (.inl rfl) ⟨by omega, by omega⟩ fun v' M' hA => ?_
    have n4 := hA.next
    rw [Mem.next_put] at n4
    have n5 : n0 ≤ M'.next := by omega
    simp only [Nat.reduceLT, T_set, X_assign, ev_T, lk_cons, Nat.reduceEqDiff, if_false, if_true, X_nil, blockQ_normal, thenQ_normal, w3_36, n5, X_move, X_bin EE_sym (op := .add) rfl, ev_const, bin_add, hw1, okI_some, roundQ_normal, true_and]
    have hu : ∀ y, slB u = some y → M2.next + 14 ≤ y ∧ y < M3.next := fun y hy => ⟨by have := hN.new y hy; rw [Mem.next_bump] at this; exact this, hN.sl.lt hN.nx.fresh hy⟩
    have hold : ∀ y, y ≠ M2.next + 12 → y ≠ M2.next + 11 → slB vb ≠ some y → M'.get y = M3.get y := fun y y1 y2 y3 => by rw [hA.old y y1 y3, Mem.get_put, if_neg y2]
    have hv' : ∀ y, slB v' = some y → slB vb = some y ∨ y = M2.next + 12 := fun y hy => by
      rcases hA.blk with ⟨h1, _⟩ | h1
      · exact .inl (h1 ▸ hy)
      · rw [h1] at hy; cases hy; exact .inr rfl
    have n2 := hB.nv.nx.next
    have hNx : Nx M M' := ⟨by omega, Fresh.of_low (by rw [n4]; exact hN.nx.fresh.n64) (fun y hy => hA.low y (by omega) (by rw [Mem.get_put, if_neg (by omega)]; exact hN.nx.fresh.none y (by omega))), fun y hy => by
      rw [hold y (by omega) (by omega) (fun e => by have := hB.nv.new y e; omega), h32 y (by omega), hB.nv.nx.old y hy]⟩
    have hlu : us.length = i := by have := hB.nv.sl.len; omega
    have hBel : Bel M M' L K (i + 1) v' (us ++ [u]) := by
      refine ⟨⟨hA.sl, hNx, fun y hy => ?_⟩, fun j hj => ?_⟩
      · rcases hv' y hy with h1 | h1
        · exact hB.nv.new y h1
        · omega
      · by_cases e : j = i
        · subst e
          have e1 : (us ++ [u]).getD j undef = u := by
            rw [List.getD_eq_getElem?_getD, List.getElem?_append_right (by omega), hlu, Nat.sub_self]; rfl
          rw [e1]
          refine ⟨hN.sl.keep fun y o hy ho => ?_, fun y hy => ⟨by have := hu y hy; omega, fun e2 => ?_⟩⟩
          · have := hu y hy
            rw [hold y (by omega) (by omega) (fun e2 => by have := hvbl y e2; omega), ho]
          · have := hu y hy
            rcases hv' y e2 with h1 | h1
            · have := hvbl y h1; omega
            · omega
        · have hj' : j < i := by omega
          have e1 : (us ++ [u]).getD j undef = us.getD j undef := by
            rw [List.getD_eq_getElem?_getD, List.getD_eq_getElem?_getD, List.getElem?_append_left (by omega)]
          rw [e1]
          obtain ⟨h1, h2⟩ := hB.el j hj'
          refine ⟨h1.keep fun y o hy ho => ?_, fun y hy => ⟨(h2 y hy).1, fun e2 => ?_⟩⟩
          · have := h1.lt hF2 hy
            rw [hold y (by omega) (by omega) (h2 y hy).2, h32 y this, ho]
          · have := h1.lt hF2 hy
            rcases hv' y e2 with h3 | h3
            · exact (h2 y hy).2 h3
            · omega
    exact ⟨K.length - (i + 1), _, _, by omega, View.temps (l' := [(16, In ((i + 1 : Nat) : Int)), (15, v'), (10, PT t), (13, .slice (some ⟨N, 0, none⟩) K.length cN), (14, In up), (2, In p), (3, Um s), (9, .bool true)]) ⟨rfl, rfl, rfl, rfl, rfl, rfl, rfl, rfl, trivial⟩, i + 1, v', _, by omega, rfl, rfl, ⟨hBel.nv.bump _, fun j hj => ⟨(hBel.el j hj).1.bump _, (hBel.el j hj).2⟩⟩⟩
  · obtain rfl : i = K.length := by omega
    have g1 : ¬ (K.length : Int) < (K.length : Int) := by omega
    simp only [w3_37, W_seq, w3_33, hnx, X_move, Nat.reduceLT, ev_T, lk_cons, Nat.reduceEqDiff, if_false, if_true, T_set, X_len EE_sym, hlenA, okI_some, X_bin EE_sym (op := .lss) rfl, bin_lss, g1, decide_false, X_nil, thenQ_normal, W_cond, CDi_f, W_exit, thenQ_exit, roundQ_exit, true_and]
    exact ⟨_, vb, us, rfl, ⟨rfl, rfl, rfl, rfl, rfl, rfl, rfl⟩, ⟨hB.nv.bump _, fun j hj => ⟨(hB.el j hj).1.bump _, (hB.el j hj).2⟩⟩⟩
end
end
end Go.Ab
/- TreeOrphans: each child is process 1's, and its children are its own. -/
namespace Go.Ab
open Go.Proofs
noncomputable section
set_option maxHeartbeats 4000000
set_option maxRecDepth 10000
theorem eqv_sl {M : Mem} {sz n : Nat} {u : Value} {fl : List Value} (h : SlV M sz u n fl) : EE.eqv u u = true := by
  rcases h.at_ with ⟨_, rfl⟩ | ⟨b, c, cs, rfl, _⟩
  · kernel_rfl
  · show vEqL 8 _ _ = true
    simp [vEqL, vEq, vEqN]
section
variable {m M M' Mb : Mem} {t b : Nat} {room top : Int} {L E : TL} {p up mn : Int} {s : BitVec 32} {J : List (Nat × Value)} {v1 vb : Value} {n n0 : Nat} {K : List Int} {us : List Value}
theorem or_check (hT : TAt M t b room top E) (hM : Fresh M) (hw : wfT E) (hlen : E.length < 100000) (hv1 : SlV M 1 v1 K.length (il K)) (hK : K.length ≤ 100000) (hvb : SlV M 1 vb K.length us) (hus : ∀ j, j < K.length → SlV M 1 (us.getD j undef) (kids E (K.getD j 0)).length (il (kids E (K.getD j 0))))
    (hpar : ∀ j, j < K.length → (at_ E (K.getD j 0)).1 = 1) (j10 : lk J 10 = PT t) (j13 : lk J 13 = v1) (j14 : lk J 14 = In up) (j15 : lk J 15 = vb) (j17 : lk J 17 = In mn) (j20 : lk J 20 = In 0) (j2 : lk J 2 = In p) (j3 : lk J 3 = Um s) (j9 : lk J 9 = .bool true) (hn0 : n0 ≤ M.next) :
    WXi EE n0 none c3_55 (T 253 J) M (Q := ⟨fun x tt M1 => x = .exit 5 ∧ ∃ J1, tt = T 253 J1 ∧ (lk J1 10 = PT t ∧ lk J1 14 = In up ∧ lk J1 17 = In mn ∧ lk J1 2 = In p ∧ lk J1 3 = Um s ∧ lk J1 9 = .bool true) ∧ Nx M M1⟩) := by
  have hlenA : ∀ M, lenA EE.P 33 v1 M = some (In K.length) := fun M => hv1.lenA und_33
  simp only [w3_55]
  refine WX.loop_of (fun k tt M2 => ∃ i : Nat, i ≤ K.length ∧ k = K.length - i ∧ tt = T 253 [(20, In i), (15, vb), (10, PT t), (13, v1), (14, In up), (17, In mn), (2, In p), (3, Um s), (9, .bool true)] ∧ Nx M M2) ?_ (k := K.length) (t1 := T 253 [(20, In (0 : Nat)), (15, vb), (10, PT t), (13, v1), (14, In up), (17, In mn), (2, In p), (3, Um s), (9, .bool true)]) (View.temps ⟨j20, j15, j10, j13, j14, j17, j2, j3, j9, trivial⟩) ⟨0, by omega, rfl, rfl, Nx.refl hM⟩
  rintro k tt M2 ⟨i, hi, rfl, rfl, hn⟩
  have hnx := Nat.le_trans hn0 hn.next
  by_cases hi2 : i < K.length
  · have g1 : (i : Int) < (K.length : Int) := by omega
    have g2 : (0 : Int) ≤ i := by omega
    have hw1 : IntKind.i64.wrap ((i : Int) + 1) = ((i + 1 : Nat) : Int) := by rw [wrap_i64 (by omega) (by omega)]; omega
    obtain ⟨N, cN, csN, rfl, k1, k2, k3, k4⟩ := hv1.cons (by omega)
    have hq : csN.nth i = some (In (K.getD i 0)) := il_nth k2 k3 k4 hi2
    obtain ⟨N2, cN2, csN2, rfl, l1, l2, l3, l4⟩ := hvb.cons (by omega)
    have hlu : us.length = K.length := by have := hvb.len; omega
    have hq2 : csN2.nth i = some (us.getD i undef) := by rw [nth_lt (by rw [l2, Nat.mul_one]; omega), l4 i (by omega)]
    have hui := hus i hi2
    have hev := eqv_sl hui
    have k1' := hn.keep hM k1
    have l1' := hn.keep hM l1
    have hp := hpar i hi2
    have hd : decide ((at_ E (K.getD i 0)).1 = 1) = true := decide_eq_true hp
    simp only [w3_54, W_seq, w3_48, hnx, X_move, Nat.reduceLT, ev_T, lk_cons, Nat.reduceEqDiff, if_false, if_true, T_set, X_len EE_sym, len_slice und_33, okI_some, X_bin EE_sym (op := .lss) rfl, bin_lss, g1, decide_true, X_nil, thenQ_normal, W_cond, CDi_t, W_skip, W_block, w3_52, w3_49, Mem.next_bump, Nat.le_add_right_of_le, bump_bump, Nat.reduceAdd, Y_0, keepM_f, X_indexAddr EE_sym, g2, idxV_slice und_33 sz_3, Int.toNat_natCast, Nat.mul_one, Nat.zero_add, X_load EE_sym, load1 lay_3, Mem.get_bump, k1', ld1_cells, hq, X_call ca_14, List.map_cons, List.map_nil, true_and]
    refine CallI.con0 (parent_ok ((hT.nx hM hn).bump _)) ?_
    simp only [putT, Nat.reduceLT, T_set, X_nil, keepM_f, Y_0, X_neq EE_sym, ev_T, lk_cons, Nat.reduceEqDiff, if_false, if_true, ev_const, neq_int, hd, Bool.not_true, okI_some, X_move, X_guard EE_sym, T_get, GDi_ff, X_indexAddr EE_sym, g2, g1, idxV_slice und_33 sz_3, Int.toNat_natCast, Nat.mul_one, Nat.zero_add, X_load EE_sym, load1 lay_3, Mem.get_bump, k1', ld1_cells, hq, X_call ca_13, List.map_cons, List.map_nil]
    refine CallI.ex2L (children_ok ((hT.nx hM hn).bump _) hn.fresh.bump hw (by omega)) (by simp) fun u M3 hN => ?_
    have n3 := hN.nx.next
    rw [Mem.next_bump] at n3
    have n3' : n0 ≤ M3.next := by omega
    have hN' := hN.of_bump
    have hn3 := hn.trans hN'.nx
    have k1'' := hn3.keep hM k1
    have l1'' := hn3.keep hM l1
    simp only [putT, Nat.reduceLT, T_set, X_nil, keepM_t, Y_0, X_guard EE_sym, T_get, lk_cons, Nat.reduceEqDiff, if_false, if_true, GDi_ff, X_move, ev_T, keepM_f, X_indexAddr EE_sym, g2, g1, idxV_slice und_41 sz_33, Int.toNat_natCast, Nat.mul_one, Nat.zero_add, okI_some, Y_guard EE_sym, Y_re, RE_load EE_sym, load1 lay_33, l1'', ld1_cells, hq2, lookK_cons, Mem.get_bump, l1', hev, TDi_t, X_load EE_sym, X_call ca_16, List.map_cons, List.map_nil]
    have hkl := kids_len (L := E) (pid := K.getD i 0)
    refine CallI.con (same_i hN.sl (hui.nx hM hn3) (by omega)) (by simp) ?_
    simp only [putT, Nat.reduceLT, T_set, X_nil, keepM_f, Y_0, X_guard EE_sym, T_get, lk_cons, Nat.reduceEqDiff, if_false, if_true, GDi_ff, X_un EE_sym, ev_T, un_not, Bool.not_true, okI_some, X_pick EE_sym, ev_const, pickV_bool, Bool.false_eq_true, Y_nil, thenQ_normal, W_cond, CDi_f, W_skip, blockQ_normal, w3_53, n3', X_move, X_bin EE_sym (op := .add) rfl, bin_add, hw1, X_assign, roundQ_normal, true_and]
    exact ⟨K.length - (i + 1), _, _, by omega, View.temps (l' := [(20, In ((i + 1 : Nat) : Int)), (15, .slice (some ⟨N2, 0, none⟩) K.length cN2), (10, PT t), (13, .slice (some ⟨N, 0, none⟩) K.length cN), (14, In up), (17, In mn), (2, In p), (3, Um s), (9, .bool true)]) ⟨rfl, rfl, rfl, rfl, rfl, rfl, rfl, rfl, rfl, trivial⟩, i + 1, by omega, rfl, rfl, hn3.bump _⟩
  · obtain rfl : i = K.length := by omega
    have g1 : ¬ (K.length : Int) < (K.length : Int) := by omega
    simp only [w3_54, W_seq, w3_48, hnx, X_move, Nat.reduceLT, ev_T, lk_cons, Nat.reduceEqDiff, if_false, if_true, T_set, X_len EE_sym, hlenA, okI_some, X_bin EE_sym (op := .lss) rfl, bin_lss, g1, decide_false, X_nil, thenQ_normal, W_cond, CDi_f, W_exit, thenQ_exit, roundQ_exit, true_and]
    exact ⟨_, rfl, ⟨rfl, rfl, rfl, rfl, rfl, rfl⟩, hn.bump _⟩
/-- In the midst of reaping. -/
structure RI (A : TL) (p up : Int) (s : BitVec 32) (mn i : Nat) : Prop where
  or : (at_ A p = (up, 2, s) ∧ p ∈ mkeys A ∧ A.length + i = mn) ∨ (at_ A p).2.1 = 0
theorem RI.next {A : TL} {i mn : Nat} (hG : Gt A room top) (h : RI A p up s mn i) (hu : (at_ A up).2.1 = 1) (hp : (at_ A p).2.1 = 2) : ∃ c, zomR A up = (c, (at_ A c).2.2, 0) ∧ c ≤ p ∧ (c = p → (at_ A c).2.2 = s) ∧ reapL A up = mdel A c ∧ Gt (mdel A c) room top ∧ RI (mdel A c) p up s mn (i + 1) := by
  rcases h.or with ⟨h1, h2, h3⟩ | h1
  · have hup : up ∈ mkeys A := in_keys (by rw [hu]; decide)
    have hk : p ∈ kids A up := mem_kids.2 ⟨h2, by have := (hG.rng up hup).1; omega, by rw [h1]⟩
    obtain ⟨c, hz⟩ := zom_has hk hp
    have hR : zomR A up = (c, (at_ A c).2.2, 0) := by unfold zomR; rw [if_pos hu, hz]
    obtain ⟨hc1, hc2⟩ := zom_some hz
    have hck := (mem_kids.1 hc1).1
    have hrl : reapL A up = mdel A c := by unfold reapL; rw [hR]; rfl
    refine ⟨c, hR, zom_least hG.nd hz hk hp, fun e => by rw [e, h1], hrl, hG.del hck hc2, ⟨?_⟩⟩
    have hl := len_del hck
    by_cases e : p = c
    · right
      rw [at_no fun hq => ((mem_del hG.nd).1 hq).2 e]
    · left
      rw [at_del e]
      exact ⟨h1, (mem_del hG.nd).2 ⟨h2, e⟩, by omega⟩
  · rw [h1] at hp; cases hp
theorem RI.done {A : TL} {i mn : Nat} (h : RI A p up s mn i) (hc : ¬ (i < mn ∧ (at_ A up).2.1 = 1 ∧ (at_ A p).2.1 = 2)) : (at_ A up).2.1 ≠ 1 ∨ (at_ A p).2.1 = 0 := by
  rcases h.or with ⟨h1, h2, h3⟩ | h1
  · left
    intro hu
    refine hc ⟨?_, hu, by rw [h1]⟩
    have : A ≠ [] := fun e => by rw [e] at h2; cases h2
    have := List.length_pos_iff.2 this
    omega
  · exact .inr h1
theorem or_reap {mn : Nat} (hT : TAt M t b room top E) (hG : Gt E room top) (hM : Fresh M) (hR : RI E p up s mn 0) (hmn : mn ≤ 32) (hpu : p ≠ up) (j10 : lk J 10 = PT t) (j14 : lk J 14 = In up) (j17 : lk J 17 = In mn) (j21 : lk J 21 = In 0) (j2 : lk J 2 = In p) (j3 : lk J 3 = Um s) (j9 : lk J 9 = .bool true) (hn0 : n0 ≤ M.next) :
    WXi EE n0 none c3_65 (T 253 J) M (Q := ⟨fun x tt M1 => x = .exit 7 ∧ ∃ J1 A, tt = T 253 J1 ∧ (lk J1 10 = PT t ∧ lk J1 14 = In up ∧ lk J1 2 = In p ∧ lk J1 9 = .bool true) ∧ TAt M1 t b room top A ∧ ((at_ A up).2.1 ≠ 1 ∨ (at_ A p).2.1 = 0) ∧ FrT M M1 t b⟩) := by
  simp only [w3_65]
  refine WX.loop_of (fun k tt M2 => ∃ (i : Nat) (A : TL), i ≤ mn ∧ k = mn - i ∧ tt = T 253 [(21, In i), (10, PT t), (14, In up), (17, In mn), (2, In p), (3, Um s), (9, .bool true)] ∧ TAt M2 t b room top A ∧ Gt A room top ∧ RI A p up s mn i ∧ FrT M M2 t b) ?_ (k := mn) (t1 := T 253 [(21, In (0 : Nat)), (10, PT t), (14, In up), (17, In mn), (2, In p), (3, Um s), (9, .bool true)]) (View.temps ⟨j21, j10, j14, j17, j2, j3, j9, trivial⟩) ⟨0, E, by omega, rfl, rfl, hT, hG, hR, FrT.of_nx (Nx.refl hM)⟩
  rintro k tt M2 ⟨i, A, hi, rfl, rfl, hT2, hG2, hR2, hF⟩
  have hnx := Nat.le_trans hn0 hF.next
  by_cases c1 : (i : Int) < (mn : Int)
  · have d1 := decide_eq_true c1
    simp only [w3_64, W_seq, w3_57, hnx, X_move, Nat.reduceLT, ev_T, lk_cons, Nat.reduceEqDiff, if_false, if_true, T_set, X_bin EE_sym (op := .lss) rfl, bin_lss, c1, decide_true, okI_some, X_guard EE_sym, T_get, GDi_tt, X_call ca_17, List.map_cons, List.map_nil, true_and]
    refine CallI.con0 (state_ok (hT2.bump _)) ?_
    by_cases c2 : (at_ A up).2.1 = 1
    · have d2 : decide ((at_ A up).2.1 = 1) = true := decide_eq_true c2
      simp only [putT, Nat.reduceLT, T_set, X_guard EE_sym, T_get, lk_cons, Nat.reduceEqDiff, if_false, if_true, GDi_tt, X_eql EE_sym, ev_T, ev_const, eq_int, d2, okI_some, X_pick EE_sym, pickV_bool, X_move, X_call ca_17, List.map_cons, List.map_nil]
      refine CallI.con (state_ok (hT2.bump _)) (by simp [Ne.symm hpu]) ?_
      by_cases c3 : (at_ A p).2.1 = 2
      · have d3 : decide ((at_ A p).2.1 = 2) = true := decide_eq_true c3
        obtain ⟨c, r1, r2, r3, r4, r5, r6⟩ := hR2.next hG2 c2 c3
        simp only [putT, Nat.reduceLT, T_set, X_guard EE_sym, T_get, lk_cons, Nat.reduceEqDiff, if_false, if_true, GDi_tt, X_eql EE_sym, ev_T, ev_const, eq_int, d3, okI_some, X_pick EE_sym, pickV_bool, X_nil, ne_eq, thenQ_normal, W_cond, CDi_t, W_skip, W_seq, W_block, w3_62, w3_58, Mem.next_bump, hnx, Nat.le_add_right_of_le, bump_bump, Nat.reduceAdd, X_move, X_call ca_11, List.map_cons, List.map_nil, true_and]
        refine CallI.ex2 (reap_ok (pid := up) (hT2.bump _) hF.fresh.bump hG2.wf (by have := hG2.len32; omega)) fun u M3 hv => ?_
        obtain ⟨rfl, hT3, hF3⟩ := hv
        rw [r4] at hT3
        rw [r1]
        have hF3 := hF.trans hF3.of_bump
        have n3 := Nat.le_trans hn0 hF3.next
        have hw1 : IntKind.i64.wrap ((i : Int) + 1) = ((i + 1 : Nat) : Int) := by rw [wrap_i64 (by omega) (by omega)]; omega
        have d4 : decide (p < c) = false := decide_eq_false (by omega)
        have fin : ∀ j (l : List (Nat × Value)), lk l 21 = In ((i + 1 : Nat) : Int) → lk l 10 = PT t → lk l 14 = In up → lk l 17 = In mn → lk l 2 = In p → lk l 3 = Um s → lk l 9 = .bool true → ∃ k' t1 m1, k' < mn - i ∧ View Sig.none Sig.none n0 none (T 253 l) (M3.bump j) t1 m1 ∧ ∃ (i : Nat) (A : TL), i ≤ mn ∧ k' = mn - i ∧ t1 = T 253 [(21, In i), (10, PT t), (14, In up), (17, In mn), (2, In p), (3, Um s), (9, .bool true)] ∧ TAt m1 t b room top A ∧ Gt A room top ∧ RI A p up s mn i ∧ FrT M m1 t b := fun j l h1 h2 h3 h4 h5 h6 h7 =>
          ⟨mn - (i + 1), _, _, by omega, View.temps (l' := [(21, In ((i + 1 : Nat) : Int)), (10, PT t), (14, In up), (17, In mn), (2, In p), (3, Um s), (9, .bool true)]) ⟨h1, h2, h3, h4, h5, h6, h7, trivial⟩, i + 1, _, by omega, rfl, rfl, hT3.bump _, r5, r6, hF3.bump _⟩
        by_cases c5 : c = p
        · have d5 : decide (c = p) = true := decide_eq_true c5
          have d6 : decide (((at_ A c).2.2.toNat : Int) = (s.toNat : Int)) = true := decide_eq_true (by rw [r3 c5])
          simp only [putT, Nat.reduceLT, T_set, X_move, ev_T, lk_cons, Nat.reduceEqDiff, if_false, if_true, X_extract EE_sym, List.getElem?_toArray, List.getElem?_cons_zero, okI_some, List.getElem?_cons_succ, X_assign, X_nil, thenQ_normal, W_seq, w3_59, n3, X_neq EE_sym, ev_const, neq_int, decide_true, Bool.not_true, X_guard EE_sym, T_get, GDi_ff, X_bin EE_sym (op := .gtr) rfl, bin_gtr, d4, X_pick EE_sym, pickV_bool, Bool.false_eq_true, X_eql EE_sym, eq_int, d5, GDi_tt, d6, W_cond, CDi_f, W_skip, blockQ_normal, w3_63, Mem.next_bump, Nat.le_add_right_of_le, bump_bump, Nat.reduceAdd, X_bin EE_sym (op := .add) rfl, bin_add, hw1, roundQ_normal, true_and]
          exact fin _ _ rfl rfl rfl rfl rfl rfl rfl
        · have d5 : decide (c = p) = false := decide_eq_false c5
          simp only [putT, Nat.reduceLT, T_set, X_move, ev_T, lk_cons, Nat.reduceEqDiff, if_false, if_true, X_extract EE_sym, List.getElem?_toArray, List.getElem?_cons_zero, okI_some, List.getElem?_cons_succ, X_assign, X_nil, thenQ_normal, W_seq, w3_59, n3, X_neq EE_sym, ev_const, neq_int, decide_true, Bool.not_true, X_guard EE_sym, T_get, GDi_ff, X_bin EE_sym (op := .gtr) rfl, bin_gtr, d4, X_pick EE_sym, pickV_bool, Bool.false_eq_true, X_eql EE_sym, eq_int, d5, GDi_ft, W_cond, CDi_f, W_skip, blockQ_normal, w3_63, Mem.next_bump, Nat.le_add_right_of_le, bump_bump, Nat.reduceAdd, X_bin EE_sym (op := .add) rfl, bin_add, hw1, roundQ_normal, true_and]
          exact fin _ _ rfl rfl rfl rfl rfl rfl rfl
      · have d3 : decide ((at_ A p).2.1 = 2) = false := decide_eq_false c3
        simp only [putT, Nat.reduceLT, T_set, X_guard EE_sym, T_get, lk_cons, Nat.reduceEqDiff, if_false, if_true, GDi_tt, X_eql EE_sym, ev_T, ev_const, eq_int, d3, okI_some, X_pick EE_sym, pickV_bool, X_nil, ne_eq, thenQ_normal, W_cond, CDi_f, W_exit, thenQ_exit, roundQ_exit, true_and]
        exact ⟨_, A, rfl, ⟨rfl, rfl, rfl, rfl⟩, hT2.bump _, hR2.done fun h => c3 h.2.2, hF.bump _⟩
    · have d2 : decide ((at_ A up).2.1 = 1) = false := decide_eq_false c2
      simp only [putT, Nat.reduceLT, T_set, X_guard EE_sym, T_get, lk_cons, Nat.reduceEqDiff, if_false, if_true, GDi_tt, X_eql EE_sym, ev_T, ev_const, eq_int, d2, okI_some, X_pick EE_sym, pickV_bool, X_move, GDi_ft, Bool.false_eq_true, X_nil, ne_eq, thenQ_normal, W_cond, CDi_f, W_exit, thenQ_exit, roundQ_exit, true_and]
      exact ⟨_, A, rfl, ⟨rfl, rfl, rfl, rfl⟩, hT2.bump _, hR2.done fun h => c2 h.2.1, hF.bump _⟩
  · have d1 := decide_eq_false c1
    simp only [w3_64, W_seq, w3_57, hnx, X_move, Nat.reduceLT, ev_T, lk_cons, Nat.reduceEqDiff, if_false, if_true, T_set, X_bin EE_sym (op := .lss) rfl, bin_lss, c1, decide_false, okI_some, X_guard EE_sym, T_get, GDi_ft, putT, X_pick EE_sym, ev_const, pickV_bool, Bool.false_eq_true, X_nil, ne_eq, thenQ_normal, W_cond, CDi_f, W_exit, thenQ_exit, roundQ_exit, true_and]
    exact ⟨_, A, rfl, ⟨rfl, rfl, rfl, rfl⟩, hT2.bump _, hR2.done fun h => c1 (by have := h.1; omega), hF.bump _⟩
end
end
end Go.Ab
