/- TreeThaws: the calls ahead; what was. -/
import Derived.Test.YtjajeeoahbidlaaTrQ
namespace Go.Ab
open Go.Proofs
noncomputable section
set_option maxHeartbeats 4000000
set_option maxRecDepth 10000
section
variable {L : TL} {p pid room top : Int} {s : BitVec 32}
/-- Nobody is frozen. -/
def NF (L : TL) : Prop := ∀ q ∈ mkeys L, (at_ L q).2.1 ≠ 3
theorem NF.fork (h : NF L) (_ : Gt L room top) : NF (forkL L room top p) := by
  unfold forkL
  split
  · intro q hq
    rw [at_set]
    split
    · show (1 : Int) ≠ 3; decide
    · rename_i e
      exact h q ((mem_set.1 hq).resolve_left e)
  · exact h
theorem NF.exit (h : NF L) (hG : Gt L room top) : NF (exitL L p s) := by
  by_cases he : exitE L p = 0
  · obtain ⟨g1, g2⟩ := exit_keys (s := s) hG he
    intro q hq
    rw [g1] at hq
    rw [g2]
    split
    · show (2 : Int) ≠ 3; decide
    · split
      · exact h q hq
      · exact h q hq
  · unfold exitL
    rw [if_neg he]; exact h
theorem NF.reap (h : NF L) (hG : Gt L room top) : NF (reapL L pid) := by
  unfold reapL
  split
  · intro q hq
    obtain ⟨q1, q2⟩ := (mem_del hG.nd).1 hq
    rw [at_del q2]; exact h q q1
  · exact h
end
/-- A table of our own, nobody in which is frozen. -/
structure OwnN (m M : Mem) (t b : Nat) (room : Int) : Prop where
  nx : Nx m M
  lo : m.next ≤ t ∧ m.next ≤ b
  at_ : ∃ top L, TAt M t b room top L ∧ Gt L room top ∧ NF L
section
variable {m M M' : Mem} {t b : Nat} {room top : Int} {L : TL} {p : Int} {s : BitVec 32} {J : List (Nat × Value)} {l : Value} {n n0 : Nat}
theorem th_ops (hm : Fresh m) (j10 : lk J 10 = In 0) (j8 : lk J 8 = PT t) (j1 : lk J 1 = l) (j2 : lk J 2 = In p) (j7 : lk J 7 = .bool true) (hl : Ops m l n) (hn : n ≤ 60) (h : OwnN m M t b room) (hn0 : n0 ≤ m.next) :
    WXi EE n0 none c6_24 (T 252 J) M (Q := ⟨fun x tt M1 => x = .exit 0 ∧ ∃ J1, tt = T 252 J1 ∧ (lk J1 8 = PT t ∧ lk J1 1 = l ∧ lk J1 2 = In p ∧ lk J1 7 = .bool true) ∧ OwnN m M1 t b room⟩) := by
  obtain ⟨aa, C, rfl, hl2⟩ := id hl
  have hlen : ∀ M, lenA EE.P 22 (.slice aa n C) M = some (In n) := fun M => len_slice und_22
  simp only [w6_24]
  refine WX.loop_of (fun k tt M => ∃ i : Nat, i ≤ n ∧ k = n - i ∧ tt = T 252 [(10, In i), (8, PT t), (1, .slice aa n C), (2, In p), (7, .bool true)] ∧ OwnN m M t b room) ?_ (k := n) (t1 := T 252 [(10, In (0 : Nat)), (8, PT t), (1, .slice aa n C), (2, In p), (7, .bool true)]) (View.temps ⟨j10, j8, j1, j2, j7, trivial⟩) ⟨0, by omega, rfl, rfl, h⟩
  rintro k tt M ⟨i, hi, rfl, rfl, hO⟩
  have hnx := Nat.le_trans hn0 hO.nx.next
  obtain ⟨top, L, hT, hG, hNF⟩ := hO.at_
  have hL := hG.len32
  by_cases hi2 : i < n
  · have g1 : (i : Int) < (n : Int) := by omega
    have g2 : (0 : Int) ≤ i := by omega
    have hw1 : IntKind.i64.wrap ((i : Int) + 1) = ((i + 1 : Nat) : Int) := by rw [wrap_i64 (by omega) (by omega)]; omega
    rcases hl2 with hl2 | ⟨B, cs, ww, z, rfl, e1, e2⟩
    · omega
    obtain ⟨kk, q, r, st, f, e3⟩ := e2 i hi2
    have e4 : M.get B = some (.cells cs ww z) := by rw [hO.nx.old B (hm.lt e1), e1]
    have e5 : cs.nth (i * 5) = some (In kk) := sub_nth (j := 0) e3 (by decide) rfl
    have e6 : cs.nth (i * 5 + 1) = some (In q) := sub_nth e3 (by decide) rfl
    have e7 : cs.nth (i * 5 + 4) = some (Um f) := sub_nth e3 (by decide) rfl
    have own : ∀ {M'} {top' : Int} {L' : TL}, FrT (M) M' t b → TAt M' t b room top' L' → Gt L' room top' → NF L' → OwnN m M' t b room := fun hF hT hG hN => ⟨hO.nx.frT hO.lo hF, hO.lo, _, _, hT, hG, hN⟩
    by_cases k0 : kk = 0
    · have d0 := decide_eq_true k0
      simp only [w6_23, W_seq, w6_7, hnx, X_move, Nat.reduceLT, ev_T, lk_cons, Nat.reduceEqDiff, if_false, if_true, T_set, X_len EE_sym, len_slice und_22, okI_some, X_bin EE_sym (op := .lss) rfl, bin_lss, g1, decide_true, X_nil, thenQ_normal, W_cond, CDi_t, W_skip, W_block, w6_21, w6_8, Mem.next_bump, Nat.le_add_right_of_le, bump_bump, Nat.reduceAdd, X_indexAddr EE_sym, g2, idxV_slice und_22 sz_30, Int.toNat_natCast, Nat.zero_add, X_fieldAddr EE_sym fo_30_0, offV_ptr, Nat.add_zero, X_load EE_sym, load1 lay_3, Mem.get_bump, e4, ld1_cells, e5, w6_20, w6_9, X_eql EE_sym, ev_const, eq_int, d0, X_assign, w6_11, w6_10, X_fieldAddr EE_sym fo_30_1, e6, X_call ca_9, List.map_cons, List.map_nil, true_and]
      refine CallI.ex2 (fork_ok (p := q) (hT.bump _) hO.nx.fresh.bump hL (by have := hG.tp; omega)) fun u M2 hv => ?_
      obtain ⟨rfl, hT2, hF2⟩ := hv
      have hO2 := own hF2.of_bump hT2 hG.fork (hNF.fork hG)
      have n2 := Nat.le_trans hn0 hO2.nx.next
      simp only [putT, Nat.reduceLT, T_set, X_nil, blockQ_normal, thenQ_normal, w6_22, n2, X_move, ev_T, lk_cons, Nat.reduceEqDiff, if_false, if_true, X_bin EE_sym (op := .add) rfl, ev_const, bin_add, hw1, okI_some, X_assign, roundQ_normal, true_and]
      exact ⟨n - (i + 1), _, _, by omega, View.temps (l' := [(10, In ((i + 1 : Nat) : Int)), (8, PT t), (1, .slice (some ⟨B, 0, none⟩) n C), (2, In p), (7, .bool true)]) ⟨rfl, rfl, rfl, rfl, rfl, trivial⟩, i + 1, by omega, rfl, rfl, ⟨hO2.nx.bump _, hO.lo, _, _, hT2.bump _, hG.fork, hNF.fork hG⟩⟩
    have d0 := decide_eq_false k0
    by_cases k1 : kk = 1
    · have d1 := decide_eq_true k1
      simp only [w6_23, W_seq, w6_7, hnx, X_move, Nat.reduceLT, ev_T, lk_cons, Nat.reduceEqDiff, if_false, if_true, T_set, X_len EE_sym, len_slice und_22, okI_some, X_bin EE_sym (op := .lss) rfl, bin_lss, g1, decide_true, X_nil, thenQ_normal, W_cond, CDi_t, W_skip, W_block, w6_21, w6_8, Mem.next_bump, Nat.le_add_right_of_le, bump_bump, Nat.reduceAdd, X_indexAddr EE_sym, g2, idxV_slice und_22 sz_30, Int.toNat_natCast, Nat.zero_add, X_fieldAddr EE_sym fo_30_0, offV_ptr, Nat.add_zero, X_load EE_sym, load1 lay_3, Mem.get_bump, e4, ld1_cells, e5, w6_20, w6_9, X_eql EE_sym, ev_const, eq_int, d0, X_assign, CDi_f, w6_19, w6_12, d1, w6_14, w6_13, X_fieldAddr EE_sym fo_30_1, e6, X_fieldAddr EE_sym fo_30_4, load1 lay_23, e7, X_call ca_10, List.map_cons, List.map_nil, true_and]
      refine CallI.ex2 (exit_ok (p := q) (s := f) (hT.bump _) hO.nx.fresh.bump hG.wf (by omega)) fun u M2 hv => ?_
      obtain ⟨⟨v, rfl, _, _⟩, hT2, hF2⟩ := hv
      have hO2 := own hF2.of_bump hT2 hG.exit (hNF.exit hG)
      have n2 := Nat.le_trans hn0 hO2.nx.next
      simp only [putT, Nat.reduceLT, T_set, X_nil, blockQ_normal, thenQ_normal, w6_22, n2, X_move, ev_T, lk_cons, Nat.reduceEqDiff, if_false, if_true, X_bin EE_sym (op := .add) rfl, ev_const, bin_add, hw1, okI_some, X_assign, roundQ_normal, true_and]
      exact ⟨n - (i + 1), _, _, by omega, View.temps (l' := [(10, In ((i + 1 : Nat) : Int)), (8, PT t), (1, .slice (some ⟨B, 0, none⟩) n C), (2, In p), (7, .bool true)]) ⟨rfl, rfl, rfl, rfl, rfl, trivial⟩, i + 1, by omega, rfl, rfl, ⟨hO2.nx.bump _, hO.lo, _, _, hT2.bump _, hG.exit, hNF.exit hG⟩⟩
    have d1 := decide_eq_false k1
    by_cases k2 : kk = 2
    · have d2 := decide_eq_true k2
      simp only [w6_23, W_seq, w6_7, hnx, X_move, Nat.reduceLT, ev_T, lk_cons, Nat.reduceEqDiff, if_false, if_true, T_set, X_len EE_sym, len_slice und_22, okI_some, X_bin EE_sym (op := .lss) rfl, bin_lss, g1, decide_true, X_nil, thenQ_normal, W_cond, CDi_t, W_skip, W_block, w6_21, w6_8, Mem.next_bump, Nat.le_add_right_of_le, bump_bump, Nat.reduceAdd, X_indexAddr EE_sym, g2, idxV_slice und_22 sz_30, Int.toNat_natCast, Nat.zero_add, X_fieldAddr EE_sym fo_30_0, offV_ptr, Nat.add_zero, X_load EE_sym, load1 lay_3, Mem.get_bump, e4, ld1_cells, e5, w6_20, w6_9, X_eql EE_sym, ev_const, eq_int, d0, X_assign, CDi_f, w6_19, w6_12, d1, w6_18, w6_15, d2, w6_17, w6_16, X_fieldAddr EE_sym fo_30_1, e6, X_call ca_11, List.map_cons, List.map_nil, true_and]
      refine CallI.ex2 (reap_ok (pid := q) (hT.bump _) hO.nx.fresh.bump hG.wf (by omega)) fun u M2 hv => ?_
      obtain ⟨rfl, hT2, hF2⟩ := hv
      have hO2 := own hF2.of_bump hT2 hG.reap (hNF.reap hG)
      have n2 := Nat.le_trans hn0 hO2.nx.next
      simp only [putT, Nat.reduceLT, T_set, X_nil, blockQ_normal, thenQ_normal, w6_22, n2, X_move, ev_T, lk_cons, Nat.reduceEqDiff, if_false, if_true, X_bin EE_sym (op := .add) rfl, ev_const, bin_add, hw1, okI_some, X_assign, roundQ_normal, true_and]
      exact ⟨n - (i + 1), _, _, by omega, View.temps (l' := [(10, In ((i + 1 : Nat) : Int)), (8, PT t), (1, .slice (some ⟨B, 0, none⟩) n C), (2, In p), (7, .bool true)]) ⟨rfl, rfl, rfl, rfl, rfl, trivial⟩, i + 1, by omega, rfl, rfl, ⟨hO2.nx.bump _, hO.lo, _, _, hT2.bump _, hG.reap, hNF.reap hG⟩⟩
    have d2 := decide_eq_false k2
    simp only [w6_23, W_seq, w6_7, hnx, X_move, Nat.reduceLT, ev_T, lk_cons, Nat.reduceEqDiff, if_false, if_true, T_set, X_len EE_sym, len_slice und_22, okI_some, X_bin EE_sym (op := .lss) rfl, bin_lss, g1, decide_true, X_nil, thenQ_normal, W_cond, CDi_t, W_skip, W_block, w6_21, w6_8, Mem.next_bump, Nat.le_add_right_of_le, bump_bump, Nat.reduceAdd, X_indexAddr EE_sym, g2, idxV_slice und_22 sz_30, Int.toNat_natCast, Nat.zero_add, X_fieldAddr EE_sym fo_30_0, offV_ptr, Nat.add_zero, X_load EE_sym, load1 lay_3, Mem.get_bump, e4, ld1_cells, e5, w6_20, w6_9, X_eql EE_sym, ev_const, eq_int, d0, X_assign, CDi_f, w6_19, w6_12, d1, w6_18, w6_15, d2, blockQ_normal, w6_22, X_bin EE_sym (op := .add) rfl, bin_add, hw1, roundQ_normal, true_and]
    exact ⟨n - (i + 1), _, _, by omega, View.temps (l' := [(10, In ((i + 1 : Nat) : Int)), (8, PT t), (1, .slice (some ⟨B, 0, none⟩) n C), (2, In p), (7, .bool true)]) ⟨rfl, rfl, rfl, rfl, rfl, trivial⟩, i + 1, by omega, rfl, rfl, ⟨hO.nx.bump _, hO.lo, _, _, hT.bump _, hG, hNF⟩⟩
  · obtain rfl : i = n := by omega
    have g1 : ¬ (i : Int) < (i : Int) := by omega
    simp only [w6_23, W_seq, w6_7, hnx, X_move, Nat.reduceLT, ev_T, lk_cons, Nat.reduceEqDiff, if_false, if_true, T_set, X_len EE_sym, len_slice und_22, okI_some, X_bin EE_sym (op := .lss) rfl, bin_lss, g1, decide_false, X_nil, thenQ_normal, W_cond, CDi_f, W_exit, thenQ_exit, roundQ_exit, true_and]
    exact ⟨_, rfl, ⟨rfl, rfl, rfl, rfl⟩, ⟨hO.nx.bump _, hO.lo, _, _, hT.bump _, hG, hNF⟩⟩
end
end
end Go.Ab
/- TreeThaws: what was, as a list. -/
namespace Go.Ab
open Go.Proofs
noncomputable section
set_option maxHeartbeats 4000000
set_option maxRecDepth 10000
theorem eo52 : ElemOk EE.P 52 54 4 32 := ElemOk.of (z := [.int .i64 0, .int .i64 0, .int .i64 0, .int .u32 0]) und_52 (by kernel_rfl) (by kernel_rfl) rfl (by decide)
theorem b54 {p x y : Int} {z : BitVec 32} : buildA EE.P 54 [(0, In p), (1, In x), (2, In y), (3, Um z)] = some (.agg [In p, In x, In y, Um z].toArray) := by kernel_rfl
theorem bs52 {p x y : Int} {z : BitVec 32} : bsV EE.P 52 1 [(0, .agg [In p, In x, In y, Um z].toArray)] = some ([In p, In x, In y, Um z], 4) := by kernel_rfl
/-- What was, of each. -/
def wl (L : TL) (K : List Int) : List Value := K.flatMap fun q => [In q, In (at_ L q).1, In (at_ L q).2.1, Um (at_ L q).2.2]
theorem wl_snoc {L : TL} {K : List Int} {q : Int} : wl L (K ++ [q]) = wl L K ++ [In q, In (at_ L q).1, In (at_ L q).2.1, Um (at_ L q).2.2] := by unfold wl; rw [List.flatMap_append]; rfl
theorem wl_len (L : TL) (K : List Int) : (wl L K).length = K.length * 4 := by
  induction K with
  | nil => rfl
  | cons q K ih =>
    have : (wl L (q :: K)).length = (wl L K).length + 4 := by unfold wl; simp [List.flatMap_cons]
    rw [this, ih, List.length_cons]; omega
theorem wl_getD {L : TL} : ∀ {K : List Int} {i : Nat}, i < K.length → ∀ j, j < 4 → (wl L K).getD (i * 4 + j) undef = [In (K.getD i 0), In (at_ L (K.getD i 0)).1, In (at_ L (K.getD i 0)).2.1, Um (at_ L (K.getD i 0)).2.2].getD j undef
  | [], _, h => absurd h (Nat.not_lt_zero _)
  | q :: K, 0, _ => fun j hj => by
    have : j = 0 ∨ j = 1 ∨ j = 2 ∨ j = 3 := by omega
    rcases this with rfl | rfl | rfl | rfl <;> rfl
  | q :: K, i + 1, h => fun j hj => by
    have ih := wl_getD (L := L) (K := K) (i := i) (by simpa using h) j hj
    have e : wl L (q :: K) = In q :: In (at_ L q).1 :: In (at_ L q).2.1 :: Um (at_ L q).2.2 :: wl L K := rfl
    rw [e, show (i + 1) * 4 + j = (i * 4 + j) + 1 + 1 + 1 + 1 by omega]
    exact ih
theorem wl_at {M : Mem} {v : Value} {L : TL} {K : List Int} {i : Nat} (h : SlV M 4 v K.length (wl L K)) (hi : i < K.length) : ∃ B c cB, v = .slice (some ⟨B, 0, none⟩) K.length c ∧ M.get B = some (.cells cB true 4) ∧ cB.sub (i * 4) 4 = some [In (K.getD i 0), In (at_ L (K.getD i 0)).1, In (at_ L (K.getD i 0)).2.1, Um (at_ L (K.getD i 0)).2.2] := by
  obtain ⟨B, c, cB, rfl, h1, h2, h3, h4⟩ := h.cons (by omega)
  refine ⟨B, c, cB, rfl, h1, sub_get rfl (by rw [h2]; omega) fun j hj => ?_⟩
  rw [h4 _ (by rw [wl_len]; omega), wl_getD hi j hj]
section
variable {m M M' : Mem} {t b : Nat} {room top : Int} {L : TL} {p : Int} {s : BitVec 32} {J : List (Nat × Value)} {va : Value} {n n0 : Nat}
theorem th_was (hT : TAt M t b room top L) (hM : Fresh M) (hlen : L.length < 100000) (hva : SlV M 1 va L.length (il (ks L))) (j8 : lk J 8 = PT t) (j11 : lk J 11 = .slice none 0 0) (j12 : lk J 12 = va) (j13 : lk J 13 = In 0) (j2 : lk J 2 = In p) (j7 : lk J 7 = .bool true) (hn0 : n0 ≤ M.next) :
    WXi EE n0 none c6_34 (T 252 J) M (Q := ⟨fun x tt M1 => x = .exit 3 ∧ ∃ J1 vw, tt = T 252 J1 ∧ (lk J1 8 = PT t ∧ lk J1 11 = vw ∧ lk J1 12 = va ∧ lk J1 2 = In p ∧ lk J1 7 = .bool true) ∧ NewV M M1 4 vw L.length (wl L (ks L))⟩) := by
  have hlenA : ∀ M, lenA EE.P 33 va M = some (In L.length) := fun M => hva.lenA und_33
  simp only [w6_34]
  refine WX.loop_of (fun k tt M2 => ∃ (i : Nat) (vw : Value), i ≤ L.length ∧ k = L.length - i ∧ tt = T 252 [(13, In i), (11, vw), (8, PT t), (12, va), (2, In p), (7, .bool true)] ∧ NewV M M2 4 vw i (wl L ((ks L).take i))) ?_ (k := L.length) (t1 := T 252 [(13, In (0 : Nat)), (11, .slice none 0 0), (8, PT t), (12, va), (2, In p), (7, .bool true)]) (View.temps ⟨j13, j11, j8, j12, j2, j7, trivial⟩) ⟨0, _, by omega, rfl, rfl, NewV.nil hM⟩
  rintro k tt M2 ⟨i, vw, hi, rfl, rfl, hB⟩
  have hnx := Nat.le_trans hn0 hB.nx.next
  have hF2 := hB.nx.fresh
  by_cases hi2 : i < L.length
  · have g1 : (i : Int) < (L.length : Int) := by omega
    have g2 : (0 : Int) ≤ i := by omega
    have hw1 : IntKind.i64.wrap ((i : Int) + 1) = ((i + 1 : Nat) : Int) := by rw [wrap_i64 (by omega) (by omega)]; omega
    obtain ⟨N, cN, csN, rfl, k1, k2, k3, k4⟩ := (hva.nx hM hB.nx).cons (by omega)
    have hq : csN.nth i = some (In (keyT L i)) := il_nth (l := ks L) k2 k3 k4 (by rw [ks_len]; exact hi2) ks_len
    have hT2 := hT.nx hM hB.nx
    have hb1 := b54 (p := keyT L i) (x := (at_ L (keyT L i)).1) (y := (at_ L (keyT L i)).2.1) (z := (at_ L (keyT L i)).2.2)
    have hb2 := bs52 (p := keyT L i) (x := (at_ L (keyT L i)).1) (y := (at_ L (keyT L i)).2.1) (z := (at_ L (keyT L i)).2.2)
    simp only [w6_33, W_seq, w6_28, hnx, X_move, Nat.reduceLT, ev_T, lk_cons, Nat.reduceEqDiff, if_false, if_true, T_set, X_len EE_sym, len_slice und_33, okI_some, X_bin EE_sym (op := .lss) rfl, bin_lss, g1, decide_true, X_nil, thenQ_normal, W_cond, CDi_t, W_skip, W_block, w6_31, w6_29, Mem.next_bump, Nat.le_add_right_of_le, bump_bump, Nat.reduceAdd, X_indexAddr EE_sym, g2, idxV_slice und_33 sz_3, Int.toNat_natCast, Nat.mul_one, Nat.zero_add, X_load EE_sym, load1 lay_3, Mem.get_bump, k1, ld1_cells, hq, X_assign, w6_30, X_call ca_14, List.map_cons, List.map_nil, true_and]
    refine CallI.con0 (parent_ok (hT2.bump _)) ?_
    simp only [putT, Nat.reduceLT, T_set, X_move, ev_T, lk_cons, Nat.reduceEqDiff, if_false, if_true, X_call ca_17, List.map_cons, List.map_nil]
    refine CallI.con (state_ok (hT2.bump _)) (by simp) ?_
    simp only [putT, Nat.reduceLT, T_set, X_move, ev_T, lk_cons, Nat.reduceEqDiff, if_false, if_true, X_call ca_18, List.map_cons, List.map_nil]
    refine CallI.con (status_ok (hT2.bump _)) (by simp) ?_
    simp only [putT, Nat.reduceLT, T_set, X_build EE_sym, List.map_cons, ev_T, lk_cons, Nat.reduceEqDiff, if_false, if_true, List.map_nil, hb1, okI_some, X_bs, hb2, Nat.add_assoc, Nat.reduceAdd, put_bump, X_append]
    refine NewV.app1 eo52 (by decide) hM hB rfl rfl ⟨by omega, by omega⟩ ⟨by omega, by omega⟩ (by omega) fun v' M' hN hn' _ => ?_
    have n4 : n0 ≤ M'.next := by omega
    simp only [Nat.reduceLT, T_set, X_assign, ev_T, lk_cons, Nat.reduceEqDiff, if_false, if_true, X_nil, blockQ_normal, thenQ_normal, w6_32, n4, X_move, X_bin EE_sym (op := .add) rfl, ev_const, bin_add, hw1, okI_some, roundQ_normal, true_and]
    exact ⟨L.length - (i + 1), _, _, by omega, View.temps (l' := [(13, In ((i + 1 : Nat) : Int)), (11, v'), (8, PT t), (12, .slice (some ⟨N, 0, none⟩) L.length cN), (2, In p), (7, .bool true)]) ⟨rfl, rfl, rfl, rfl, rfl, rfl, trivial⟩, i + 1, v', by omega, rfl, rfl, by rw [ks_take hi2, wl_snoc]; exact hN.bump _⟩
  · obtain rfl : i = L.length := by omega
    have g1 : ¬ (L.length : Int) < (L.length : Int) := by omega
    rw [List.take_of_length_le (by rw [ks_len]; exact Nat.le_refl _)] at hB
    simp only [w6_33, W_seq, w6_28, hnx, X_move, Nat.reduceLT, ev_T, lk_cons, Nat.reduceEqDiff, if_false, if_true, T_set, X_len EE_sym, hlenA, okI_some, X_bin EE_sym (op := .lss) rfl, bin_lss, g1, decide_false, X_nil, thenQ_normal, W_cond, CDi_f, W_exit, thenQ_exit, roundQ_exit, true_and]
    exact ⟨_, vw, rfl, ⟨rfl, rfl, rfl, rfl, rfl⟩, hB.bump _⟩
end
end
end Go.Ab
/- TreeThaws: each that is frozen is thawed; then all is as it was. -/
namespace Go.Ab
open Go.Proofs
noncomputable section
set_option maxHeartbeats 8000000
set_option maxRecDepth 10000
/-- In the midst of thawing: the first i are as they were. -/
structure TI (L : TL) (TT : List Int) (A : TL) (i : Nat) : Prop where
  keys : mkeys A = mkeys L
  at_ : ∀ q ∈ mkeys L, at_ A q = if q ∈ TT ∧ q ∉ (ks L).take i then ((at_ L q).1, 3, 0#32) else at_ L q
section
variable {L A : TL} {TT : List Int} {i : Nat} {q room top : Int}
theorem TI.len (h : TI L TT A i) : A.length = L.length := by
  have := congrArg List.length h.keys
  rwa [List.length_map, List.length_map] at this
theorem TI.wf (h : TI L TT A i) (hw : wfT L) : wfT A := fun r hr => by
  have : r.1 ∈ mkeys L := h.keys ▸ List.mem_map_of_mem hr
  exact wf_in hw this
theorem TI.par (h : TI L TT A i) (hq : q ∈ mkeys L) : (Go.Ab.at_ A q).1 = (Go.Ab.at_ L q).1 := by
  rw [h.at_ q hq]; split <;> rfl
theorem keyT_in (hi : i < L.length) : keyT L i ∈ mkeys L := by
  unfold keyT
  exact mem_ks.1 (getD_mem (by rw [ks_len]; exact hi))
theorem keyT_new (hd : (mkeys L).Nodup) (hi : i < L.length) : keyT L i ∉ (ks L).take i := fun e => by
  obtain ⟨j, h1, h2⟩ := List.mem_iff_getElem.1 e
  rw [List.length_take] at h1
  rw [List.getElem_take] at h2
  have hl : j < (ks L).length := by omega
  have hi' : i < (ks L).length := by rw [ks_len]; exact hi
  have := nodup_getD (ks_nodup hd) hl hi' (by rw [List.getD_eq_getElem?_getD, List.getElem?_eq_getElem hl]; exact h2)
  omega
/-- The i-th: frozen, or as it was. -/
theorem TI.now (h : TI L TT A i) (hd : (mkeys L).Nodup) (hi : i < L.length) : Go.Ab.at_ A (keyT L i) = if keyT L i ∈ TT then ((Go.Ab.at_ L (keyT L i)).1, 3, 0#32) else Go.Ab.at_ L (keyT L i) := by
  rw [h.at_ _ (keyT_in hi)]
  by_cases e : keyT L i ∈ TT
  · rw [if_pos ⟨e, keyT_new hd hi⟩, if_pos e]
  · rw [if_neg fun e2 => e e2.1, if_neg e]
theorem TI.skip (h : TI L TT A i) (hi : i < L.length) (e : keyT L i ∉ TT) : TI L TT A (i + 1) := by
  refine ⟨h.keys, fun q hq => ?_⟩
  rw [h.at_ q hq, ks_take hi]
  by_cases e2 : q ∈ TT
  · have : q ≠ keyT L i := fun e3 => e (e3 ▸ e2)
    by_cases e4 : q ∈ (ks L).take i
    · rw [if_neg fun h => h.2 e4, if_neg fun h => h.2 (List.mem_append.2 (.inl e4))]
    · rw [if_pos ⟨e2, e4⟩, if_pos ⟨e2, fun h => by rcases List.mem_append.1 h with h | h; exact e4 h; exact this (List.mem_singleton.1 h)⟩]
  · rw [if_neg fun h => e2 h.1, if_neg fun h => e2 h.1]
theorem TI.thaw (h : TI L TT A i) (hi : i < L.length) : TI L TT (mset A (keyT L i) (Go.Ab.at_ L (keyT L i))) (i + 1) := by
  have hk := keyT_in hi
  refine ⟨by rw [keys_in (by rw [h.keys]; exact hk)]; exact h.keys, fun q hq => ?_⟩
  rw [at_set, ks_take hi]
  by_cases e : q = keyT L i
  · rw [if_pos e, if_neg fun h => h.2 (List.mem_append.2 (.inr (List.mem_singleton.2 e))), e]
  · rw [if_neg e, h.at_ q hq]
    by_cases e2 : q ∈ TT
    · by_cases e4 : q ∈ (ks L).take i
      · rw [if_neg fun h => h.2 e4, if_neg fun h => h.2 (List.mem_append.2 (.inl e4))]
      · rw [if_pos ⟨e2, e4⟩, if_pos ⟨e2, fun h => by rcases List.mem_append.1 h with h | h; exact e4 h; exact e (List.mem_singleton.1 h)⟩]
    · rw [if_neg fun h => e2 h.1, if_neg fun h => e2 h.1]
theorem TI.done (h : TI L TT A L.length) (hq : q ∈ mkeys L) : Go.Ab.at_ A q = Go.Ab.at_ L q := by
  rw [h.at_ q hq, List.take_of_length_le (by rw [ks_len]; exact Nat.le_refl _), if_neg fun h => h.2 (mem_ks.2 hq)]
/-- A thaw of one that is frozen. -/
theorem TI.thaws (h : TI L TT A i) (hG : Gt L room top) (hN : NF L) (hi : i < L.length) (e : keyT L i ∈ TT) :
    thawE A room top (keyT L i) (Go.Ab.at_ L (keyT L i)).1 (Go.Ab.at_ L (keyT L i)).2.1 (Go.Ab.at_ L (keyT L i)).2.2 = 0 ∧
    thawL A room top (keyT L i) (Go.Ab.at_ L (keyT L i)).1 (Go.Ab.at_ L (keyT L i)).2.1 (Go.Ab.at_ L (keyT L i)).2.2 = mset A (keyT L i) (Go.Ab.at_ L (keyT L i)) ∧
    thawT A room top (keyT L i) (Go.Ab.at_ L (keyT L i)).1 (Go.Ab.at_ L (keyT L i)).2.1 (Go.Ab.at_ L (keyT L i)).2.2 = top := by
  have hk := keyT_in hi
  have hA := h.now hG.nd hi
  rw [if_pos e] at hA
  have hst := hG.st _ hk
  have hnf := hN _ hk
  have h0 : thawE A room top (keyT L i) (Go.Ab.at_ L (keyT L i)).1 (Go.Ab.at_ L (keyT L i)).2.1 (Go.Ab.at_ L (keyT L i)).2.2 = 0 := by
    unfold thawE
    rw [if_neg]
    · unfold mayE
      rw [if_pos ⟨by rw [hA], .inr (by rw [hA])⟩]
    · rintro (h1 | h1 | h1)
      · rcases hst with h2 | h2 | h2
        · exact h1.1 h2
        · exact h1.2 h2
        · exact hnf h2
      · exact h1.2 (hG.lv _ hk h1.1)
      · refine h1.2 ?_
        rw [List.length_eq_zero_iff]
        refine List.eq_nil_iff_forall_not_mem.2 fun x hx => ?_
        obtain ⟨x1, x2, x3⟩ := mem_kids.1 hx
        rw [h.keys] at x1
        rw [h.par x1] at x3
        exact hG.zk _ hk h1.1 x x1 x3
  refine ⟨h0, ?_, ?_⟩
  · unfold thawL
    rw [if_pos h0]
    by_cases e0 : (Go.Ab.at_ L (keyT L i)).1 = 0
    · rw [if_pos e0, hA]
    · rw [if_neg e0]
  · unfold thawT
    rw [if_pos h0]
    have := (hG.rng _ hk).2
    omega
theorem TI.start (hG : Gt L room top) (he : freezeE L q = 0) : TI L (treeL L q) (freezeL L q) 0 := by
  obtain ⟨g1, g2⟩ := freeze_keys hG he
  refine ⟨g1, fun x hx => ?_⟩
  rw [g2 x]
  by_cases e : x ∈ treeL L q
  · rw [if_pos e, if_pos ⟨e, fun h => by cases h⟩]
  · rw [if_neg e, if_neg fun h => e h.1]
end
theorem lcp_0 {p x y : Int} {z : BitVec 32} : ((Cells.ofList [.int .i64 0, .int .i64 0, .int .i64 0, .int .u32 0]).write 0 [In p, In x, In y, Um z]).nth 0 = some (In p) := rfl
theorem lcp_1 {p x y : Int} {z : BitVec 32} : ((Cells.ofList [.int .i64 0, .int .i64 0, .int .i64 0, .int .u32 0]).write 0 [In p, In x, In y, Um z]).nth 1 = some (In x) := rfl
theorem lcp_2 {p x y : Int} {z : BitVec 32} : ((Cells.ofList [.int .i64 0, .int .i64 0, .int .i64 0, .int .u32 0]).write 0 [In p, In x, In y, Um z]).nth 2 = some (In y) := rfl
theorem lcp_3 {p x y : Int} {z : BitVec 32} : ((Cells.ofList [.int .i64 0, .int .i64 0, .int .i64 0, .int .u32 0]).write 0 [In p, In x, In y, Um z]).nth 3 = some (Um z) := rfl
section
variable {m M M' : Mem} {t b : Nat} {room top : Int} {L A : TL} {TT : List Int} {p fr : Int} {s : BitVec 32} {J : List (Nat × Value)} {va vw : Value} {n n0 : Nat}
theorem th_chk (hT : TAt M t b room top A) (hM : Fresh M) (hat : ∀ q ∈ mkeys L, at_ A q = at_ L q) (hvw : SlV M 4 vw (ks L).length (wl L (ks L))) (hlen : L.length < 100000) (j8 : lk J 8 = PT t) (j11 : lk J 11 = vw) (j12 : lk J 12 = va) (j18 : lk J 18 = In fr) (j22 : lk J 22 = In 0) (j7 : lk J 7 = .bool true) (hn0 : n0 ≤ M.next) :
    WXi EE n0 none c6_67 (T 252 J) M (Q := ⟨fun x tt M1 => x = .exit 7 ∧ ∃ J1, tt = T 252 J1 ∧ (lk J1 8 = PT t ∧ lk J1 12 = va ∧ lk J1 18 = In fr ∧ lk J1 7 = .bool true) ∧ Nx M M1⟩) := by
  have hlenA : ∀ M, lenA EE.P 52 vw M = some (In (ks L).length) := fun M => hvw.lenA und_52
  have hkl : (ks L).length = L.length := ks_len
  simp only [w6_67]
  refine WX.loop_of (fun k tt M2 => ∃ i : Nat, i ≤ (ks L).length ∧ k = (ks L).length - i ∧ tt = T 252 [(22, In i), (11, vw), (8, PT t), (12, va), (18, In fr), (7, .bool true)] ∧ Nx M M2) ?_ (k := (ks L).length) (t1 := T 252 [(22, In (0 : Nat)), (11, vw), (8, PT t), (12, va), (18, In fr), (7, .bool true)]) (View.temps ⟨j22, j11, j8, j12, j18, j7, trivial⟩) ⟨0, by omega, rfl, rfl, Nx.refl hM⟩
  rintro k tt M2 ⟨i, hi, rfl, rfl, hn⟩
  have hnx := Nat.le_trans hn0 hn.next
  by_cases hi2 : i < (ks L).length
  · have g1 : (i : Int) < ((ks L).length : Int) := by omega
    have g2 : (0 : Int) ≤ i := by omega
    have hw1 : IntKind.i64.wrap ((i : Int) + 1) = ((i + 1 : Nat) : Int) := by rw [wrap_i64 (by omega) (by omega)]; omega
    obtain ⟨B, c, cB, rfl, h1, h2⟩ := wl_at hvw hi2
    have hq : at_ A (keyT L i) = at_ L (keyT L i) := hat _ (keyT_in (by omega))
    have h2 : cB.sub (i * 4) 4 = some [In (keyT L i), In (at_ L (keyT L i)).1, In (at_ L (keyT L i)).2.1, Um (at_ L (keyT L i)).2.2] := h2
    have h1' := hn.keep hM h1
    have hT2 := hT.nx hM hn
    simp only [w6_66, W_seq, w6_59, hnx, X_move, Nat.reduceLT, ev_T, lk_cons, Nat.reduceEqDiff, if_false, if_true, T_set, X_len EE_sym, len_slice und_52, okI_some, X_bin EE_sym (op := .lss) rfl, bin_lss, g1, decide_true, X_nil, thenQ_normal, W_cond, CDi_t, W_skip, W_block, w6_64, w6_60, Mem.next_bump, Nat.le_add_right_of_le, bump_bump, Nat.reduceAdd, X_indexAddr EE_sym, g2, idxV_slice und_52 sz_54, Int.toNat_natCast, Nat.zero_add, X_load EE_sym, loadN lay_54, Mem.get_bump, h1', ldN_cells, h2, Option.map_some, X_alloc, zero_54, Nat.add_assoc, put_bump, X_store, store1 sz_54, Mem.get_put, cells_agg, st1_cells, List.length_cons, List.length_nil, ofList_n, Nat.le_refl, List.all_cons, oneCell, List.all_nil, Bool.and_self, and_self, w6_61, Mem.next_put, Y_0, keepM_f, X_fieldAddr EE_sym fo_54_0, offV_ptr, Nat.add_zero, load1 lay_3, ld1_cells, nth_write_same, X_call ca_17, List.map_cons, List.map_nil, true_and]
    have hF2 := hn.fresh
    have hlo : Lo M2 ((M2.put (M2.next + 8) (.cells (Cells.ofList [.int .i64 0, .int .i64 0, .int .i64 0, .int .u32 0]) true 0)).put (M2.next + 8) (.cells ((Cells.ofList [.int .i64 0, .int .i64 0, .int .i64 0, .int .u32 0]).write 0 [In (keyT L i), In (at_ L (keyT L i)).1, In (at_ L (keyT L i)).2.1, Um (at_ L (keyT L i)).2.2]) true 0)) 35 := ((Lo.refl hF2).put ⟨by omega, by omega⟩).put ⟨by omega, by omega⟩
    have hN3 : Nx M2 (((M2.put (M2.next + 8) (.cells (Cells.ofList [.int .i64 0, .int .i64 0, .int .i64 0, .int .u32 0]) true 0)).put (M2.next + 8) (.cells ((Cells.ofList [.int .i64 0, .int .i64 0, .int .i64 0, .int .u32 0]).write 0 [In (keyT L i), In (at_ L (keyT L i)).1, In (at_ L (keyT L i)).2.1, Um (at_ L (keyT L i)).2.2]) true 0)).bump 35) := ⟨by rw [Mem.next_bump, hlo.next]; omega, Fresh.of_low (by have := hF2.n64; rw [Mem.next_bump, hlo.next]; omega) (fun y hy => by rw [Mem.next_bump, hlo.next] at hy; exact hlo.none y hy), fun y hy => hlo.old y hy⟩
    obtain ⟨M3, hM3⟩ : ∃ M3, M3 = ((M2.put (M2.next + 8) (.cells (Cells.ofList [.int .i64 0, .int .i64 0, .int .i64 0, .int .u32 0]) true 0)).put (M2.next + 8) (.cells ((Cells.ofList [.int .i64 0, .int .i64 0, .int .i64 0, .int .u32 0]).write 0 [In (keyT L i), In (at_ L (keyT L i)).1, In (at_ L (keyT L i)).2.1, Um (at_ L (keyT L i)).2.2]) true 0)).bump 35 := ⟨_, rfl⟩
    have x1 : M3.get (M2.next + 8) = some (.cells ((Cells.ofList [.int .i64 0, .int .i64 0, .int .i64 0, .int .u32 0]).write 0 [In (keyT L i), In (at_ L (keyT L i)).1, In (at_ L (keyT L i)).2.1, Um (at_ L (keyT L i)).2.2]) true 0) := by rw [hM3, Mem.get_bump, Mem.get_put, if_pos rfl]
    rw [← hM3] at hN3
    refine CallI.at hM3 ?_
    clear hM3 hlo
    have hn3 := hn.trans hN3
    have n3 := Nat.le_trans hn0 hn3.next
    have hT3 := hT.nx hM hn3
    refine CallI.con0 (state_ok hT3) ?_
    rw [hq]
    simp only [putT, Nat.reduceLT, T_set, X_nil, keepM_t, Y_0, X_fieldAddr EE_sym fo_54_2, ev_T, lk_cons, Nat.reduceEqDiff, if_false, if_true, offV_ptr, Nat.zero_add, okI_some, keepM_f, Y_re, RE_load EE_sym, load1 lay_3, x1, ld1_cells, lcp_2, lookK_cons, Mem.get_bump, Mem.get_put, eqvU, TDi_t, X_load EE_sym, X_neq EE_sym, neq_int, decide_true, Bool.not_true, X_move, X_guard EE_sym, T_get, GDi_ff, X_fieldAddr EE_sym fo_54_0, Nat.add_zero, ofList_n, List.length_cons, List.length_nil, Nat.reduceAdd, nth_write_same, X_call ca_18, List.map_cons, List.map_nil]
    refine CallI.con (status_ok hT3) (by simp) ?_
    rw [hq]
    simp only [putT, Nat.reduceLT, T_set, X_nil, keepM_t, Y_0, X_guard EE_sym, T_get, lk_cons, Nat.reduceEqDiff, if_false, if_true, GDi_ff, X_fieldAddr EE_sym fo_54_3, ev_T, offV_ptr, Nat.zero_add, okI_some, keepM_f, Y_guard EE_sym, Y_re, RE_load EE_sym, load1 lay_23, x1, ld1_cells, lcp_3, lookK_cons, eqvU, TDi_t, X_load EE_sym, X_neq EE_sym, neq_int, decide_true, Bool.not_true, X_pick EE_sym, ev_const, pickV_bool, Bool.false_eq_true, X_move, X_fieldAddr EE_sym fo_54_0, Nat.add_zero, load1 lay_3, ofList_n, List.length_cons, List.length_nil, Nat.reduceAdd, nth_write_same, X_call ca_14, List.map_cons, List.map_nil]
    refine CallI.con (parent_ok hT3) (by simp) ?_
    rw [hq]
    simp only [putT, Nat.reduceLT, T_set, X_nil, keepM_t, Y_0, X_guard EE_sym, T_get, lk_cons, Nat.reduceEqDiff, if_false, if_true, GDi_ff, X_fieldAddr EE_sym fo_54_1, ev_T, offV_ptr, Nat.zero_add, okI_some, keepM_f, Y_guard EE_sym, Y_re, RE_load EE_sym, load1 lay_3, x1, ld1_cells, lcp_1, lookK_cons, eqvU, TDi_t, X_load EE_sym, X_neq EE_sym, neq_int, decide_true, Bool.not_true, X_pick EE_sym, ev_const, pickV_bool, Bool.false_eq_true, Y_nil, thenQ_normal, W_cond, CDi_f, W_skip, blockQ_normal, w6_65, n3, X_move, X_bin EE_sym (op := .add) rfl, bin_add, hw1, X_assign, roundQ_normal, true_and]
    exact ⟨(ks L).length - (i + 1), _, _, by omega, View.temps (l' := [(22, In ((i + 1 : Nat) : Int)), (11, .slice (some ⟨B, 0, none⟩) (ks L).length c), (8, PT t), (12, va), (18, In fr), (7, .bool true)]) ⟨rfl, rfl, rfl, rfl, rfl, rfl, trivial⟩, i + 1, by omega, rfl, rfl, hn3.bump _⟩
  · obtain hie : i = (ks L).length := by omega
    have g1 : ¬ (i : Int) < ((ks L).length : Int) := by omega
    simp only [w6_66, W_seq, w6_59, hnx, X_move, Nat.reduceLT, ev_T, lk_cons, Nat.reduceEqDiff, if_false, if_true, T_set, X_len EE_sym, hlenA, okI_some, X_bin EE_sym (op := .lss) rfl, bin_lss, g1, decide_false, X_nil, thenQ_normal, W_cond, CDi_f, W_exit, thenQ_exit, roundQ_exit, true_and]
    exact ⟨_, rfl, ⟨rfl, rfl, rfl, rfl⟩, hn.bump _⟩
theorem th_thaw (hT : TAt M t b room top A) (hI : TI L TT A 0) (hG : Gt L room top) (hN : NF L) (hw : wfT L) (hM : Fresh M) (hvw : SlV M 4 vw (ks L).length (wl L (ks L))) (hvl : ∀ y, slB vw = some y → y ≠ t ∧ y ≠ b) (j8 : lk J 8 = PT t) (j11 : lk J 11 = vw) (j12 : lk J 12 = va) (j18 : lk J 18 = In fr) (j19 : lk J 19 = In 0) (j7 : lk J 7 = .bool true) (hn0 : n0 ≤ M.next) :
    WXi EE n0 none c6_57 (T 252 J) M (Q := ⟨fun x tt M1 => x = .exit 5 ∧ ∃ J1 B, tt = T 252 J1 ∧ (lk J1 8 = PT t ∧ lk J1 11 = vw ∧ lk J1 12 = va ∧ lk J1 18 = In fr ∧ lk J1 7 = .bool true) ∧ TAt M1 t b room top B ∧ TI L TT B L.length ∧ FrT M M1 t b⟩) := by
  have hlenA : ∀ M, lenA EE.P 52 vw M = some (In (ks L).length) := fun M => hvw.lenA und_52
  have hkl : (ks L).length = L.length := ks_len
  have hL := hG.len32
  simp only [w6_57]
  refine WX.loop_of (fun k tt M2 => ∃ (i : Nat) (A : TL), i ≤ (ks L).length ∧ k = (ks L).length - i ∧ tt = T 252 [(19, In i), (11, vw), (8, PT t), (12, va), (18, In fr), (7, .bool true)] ∧ TAt M2 t b room top A ∧ TI L TT A i ∧ FrT M M2 t b) ?_ (k := (ks L).length) (t1 := T 252 [(19, In (0 : Nat)), (11, vw), (8, PT t), (12, va), (18, In fr), (7, .bool true)]) (View.temps ⟨j19, j11, j8, j12, j18, j7, trivial⟩) ⟨0, A, by omega, rfl, rfl, hT, hI, FrT.of_nx (Nx.refl hM)⟩
  rintro k tt M2 ⟨i, A, hi, rfl, rfl, hT, hI, hF⟩
  have hnx := Nat.le_trans hn0 hF.next
  by_cases hi2 : i < (ks L).length
  · have g1 : (i : Int) < ((ks L).length : Int) := by omega
    have g2 : (0 : Int) ≤ i := by omega
    have hw1 : IntKind.i64.wrap ((i : Int) + 1) = ((i + 1 : Nat) : Int) := by rw [wrap_i64 (by omega) (by omega)]; omega
    obtain ⟨B, c, cB, rfl, h1, h2⟩ := wl_at hvw hi2
    have h2 : cB.sub (i * 4) 4 = some [In (keyT L i), In (at_ L (keyT L i)).1, In (at_ L (keyT L i)).2.1, Um (at_ L (keyT L i)).2.2] := h2
    have h1' : M2.get B = some (.cells cB true 4) := by rw [hF.old B (hM.lt h1) (hvl B rfl).1 (hvl B rfl).2, h1]
    have hiL : i < L.length := by omega
    have hnow := hI.now hG.nd hiL
    have hnf := hN _ (keyT_in hiL)
    simp only [w6_56, W_seq, w6_45, hnx, X_move, Nat.reduceLT, ev_T, lk_cons, Nat.reduceEqDiff, if_false, if_true, T_set, X_len EE_sym, len_slice und_52, okI_some, X_bin EE_sym (op := .lss) rfl, bin_lss, g1, decide_true, X_nil, thenQ_normal, W_cond, CDi_t, W_skip, W_block, w6_54, w6_46, Mem.next_bump, Nat.le_add_right_of_le, bump_bump, Nat.reduceAdd, X_indexAddr EE_sym, g2, idxV_slice und_52 sz_54, Int.toNat_natCast, Nat.zero_add, X_load EE_sym, loadN lay_54, Mem.get_bump, h1', ldN_cells, h2, Option.map_some, X_alloc, zero_54, Nat.add_assoc, put_bump, X_store, store1 sz_54, Mem.get_put, cells_agg, st1_cells, List.length_cons, List.length_nil, ofList_n, Nat.le_refl, List.all_cons, oneCell, List.all_nil, Bool.and_self, and_self, w6_47, Mem.next_put, X_fieldAddr EE_sym fo_54_0, offV_ptr, Nat.add_zero, load1 lay_3, ld1_cells, nth_write_same, X_call ca_17, List.map_cons, List.map_nil, true_and]
    have hF2 := hF.fresh
    have hlo : Lo M2 ((M2.put (M2.next + 8) (.cells (Cells.ofList [.int .i64 0, .int .i64 0, .int .i64 0, .int .u32 0]) true 0)).put (M2.next + 8) (.cells ((Cells.ofList [.int .i64 0, .int .i64 0, .int .i64 0, .int .u32 0]).write 0 [In (keyT L i), In (at_ L (keyT L i)).1, In (at_ L (keyT L i)).2.1, Um (at_ L (keyT L i)).2.2]) true 0)) 16 := ((Lo.refl hF2).put ⟨by omega, by omega⟩).put ⟨by omega, by omega⟩
    have hN3 : Nx M2 (((M2.put (M2.next + 8) (.cells (Cells.ofList [.int .i64 0, .int .i64 0, .int .i64 0, .int .u32 0]) true 0)).put (M2.next + 8) (.cells ((Cells.ofList [.int .i64 0, .int .i64 0, .int .i64 0, .int .u32 0]).write 0 [In (keyT L i), In (at_ L (keyT L i)).1, In (at_ L (keyT L i)).2.1, Um (at_ L (keyT L i)).2.2]) true 0)).bump 16) := ⟨by rw [Mem.next_bump, hlo.next]; omega, Fresh.of_low (by have := hF2.n64; rw [Mem.next_bump, hlo.next]; omega) (fun y hy => by rw [Mem.next_bump, hlo.next] at hy; exact hlo.none y hy), fun y hy => hlo.old y hy⟩
    obtain ⟨M3, hM3⟩ : ∃ M3, M3 = ((M2.put (M2.next + 8) (.cells (Cells.ofList [.int .i64 0, .int .i64 0, .int .i64 0, .int .u32 0]) true 0)).put (M2.next + 8) (.cells ((Cells.ofList [.int .i64 0, .int .i64 0, .int .i64 0, .int .u32 0]).write 0 [In (keyT L i), In (at_ L (keyT L i)).1, In (at_ L (keyT L i)).2.1, Um (at_ L (keyT L i)).2.2]) true 0)).bump 16 := ⟨_, rfl⟩
    have x1 : M3.get (M2.next + 8) = some (.cells ((Cells.ofList [.int .i64 0, .int .i64 0, .int .i64 0, .int .u32 0]).write 0 [In (keyT L i), In (at_ L (keyT L i)).1, In (at_ L (keyT L i)).2.1, Um (at_ L (keyT L i)).2.2]) true 0) := by rw [hM3, Mem.get_bump, Mem.get_put, if_pos rfl]
    rw [← hM3] at hN3
    refine CallI.at hM3 ?_
    clear hM3 hlo
    have hF3 := hF.trans (FrT.of_nx (t := t) (b := b) hN3)
    have n3 := Nat.le_trans hn0 hF3.next
    have hT3 := hT.nx hF.fresh hN3
    refine CallI.con0 (state_ok hT3) ?_
    have fin : ∀ M4 (B' : TL) j (l : List (Nat × Value)), TAt M4 t b room top B' → TI L TT B' (i + 1) → FrT M M4 t b → lk l 19 = In ((i + 1 : Nat) : Int) → lk l 11 = .slice (some ⟨B, 0, none⟩) (ks L).length c → lk l 8 = PT t → lk l 12 = va → lk l 18 = In fr → lk l 7 = .bool true → ∃ k' t1 m1, k' < (ks L).length - i ∧ View Sig.none Sig.none n0 none (T 252 l) (M4.bump j) t1 m1 ∧ ∃ (i : Nat) (A : TL), i ≤ (ks L).length ∧ k' = (ks L).length - i ∧ t1 = T 252 [(19, In i), (11, .slice (some ⟨B, 0, none⟩) (ks L).length c), (8, PT t), (12, va), (18, In fr), (7, .bool true)] ∧ TAt m1 t b room top A ∧ TI L TT A i ∧ FrT M m1 t b := fun M4 B' j l g1 g2 g3 h1 h2 h3 h4 h5 h6 =>
      ⟨(ks L).length - (i + 1), _, _, by omega, View.temps (l' := [(19, In ((i + 1 : Nat) : Int)), (11, .slice (some ⟨B, 0, none⟩) (ks L).length c), (8, PT t), (12, va), (18, In fr), (7, .bool true)]) ⟨h1, h2, h3, h4, h5, h6, trivial⟩, i + 1, B', by omega, rfl, rfl, g1.bump _, g2, g3.bump _⟩
    by_cases e : keyT L i ∈ TT
    · rw [if_pos e] at hnow
      rw [hnow]
      simp only [putT, Nat.reduceLT, T_set, X_eql EE_sym, ev_T, lk_cons, Nat.reduceEqDiff, if_false, if_true, ev_const, eq_int, decide_true, okI_some, X_assign, X_nil, thenQ_normal, W_seq, w6_48, n3, Y_0, X_move, keepM_f, X_un EE_sym, un_not, Bool.not_true, X_guard EE_sym, T_get, GDi_ft, keepM_t, Y_guard EE_sym, GDi_u, X_pick EE_sym, pickV_bool, Bool.false_eq_true, GDi_ff, X_fieldAddr EE_sym fo_54_0, offV_ptr, Nat.add_zero, X_load EE_sym, load1 lay_3, Mem.get_bump, x1, ld1_cells, ofList_n, List.length_cons, List.length_nil, Nat.zero_add, Nat.reduceAdd, nth_write_same, X_call ca_14, List.map_cons, List.map_nil, true_and]
      refine CallI.con0 (parent_ok (hT3.bump _)) ?_
      rw [hnow]
      simp only [putT, Nat.reduceLT, T_set, X_nil, keepM_t, Y_0, X_guard EE_sym, T_get, lk_cons, Nat.reduceEqDiff, if_false, if_true, GDi_ff, X_fieldAddr EE_sym fo_54_1, ev_T, offV_ptr, Nat.zero_add, okI_some, keepM_f, Y_guard EE_sym, Y_re, RE_load EE_sym, load1 lay_3, Mem.get_bump, x1, ld1_cells, lcp_1, lookK_cons, eqvU, TDi_t, X_load EE_sym, X_neq EE_sym, neq_int, decide_true, Bool.not_true, X_pick EE_sym, ev_const, pickV_bool, Bool.false_eq_true, Y_nil, thenQ_normal, W_cond, CDi_f, W_skip, W_seq, w6_51, Mem.next_bump, n3, Nat.le_add_right_of_le, bump_bump, Nat.reduceAdd, X_move, GDi_tt, X_fieldAddr EE_sym fo_54_0, Nat.add_zero, ofList_n, List.length_cons, List.length_nil, nth_write_same, X_fieldAddr EE_sym fo_54_2, lcp_2, X_fieldAddr EE_sym fo_54_3, load1 lay_23, lcp_3, X_call ca_19, List.map_cons, List.map_nil, true_and]
      obtain ⟨t1, t2, t3⟩ := hI.thaws hG hN hiL e
      refine CallI.ex2 (thaw_ok (p := keyT L i) (r := (at_ L (keyT L i)).1) (st := (at_ L (keyT L i)).2.1) (s := (at_ L (keyT L i)).2.2) (hT3.bump _) hF3.fresh.bump (hI.wf hw) (by rw [hI.len]; exact hL)) fun u M4 hv => ?_
      obtain ⟨rfl, hT4, hF4⟩ := hv
      rw [t1]
      rw [t2, t3] at hT4
      have hF4 := hF3.trans hF4.of_bump
      have n4 := Nat.le_trans hn0 hF4.next
      simp only [putT, Nat.reduceLT, T_set, X_guard EE_sym, T_get, lk_cons, Nat.reduceEqDiff, if_false, if_true, GDi_tt, X_neq EE_sym, ev_T, ev_const, neq_int, decide_true, Bool.not_true, okI_some, X_pick EE_sym, pickV_bool, X_nil, thenQ_normal, W_cond, CDi_f, W_skip, blockQ_normal, w6_55, n4, X_move, X_bin EE_sym (op := .add) rfl, bin_add, hw1, X_assign, roundQ_normal, true_and]
      exact fin _ _ _ _ hT4 (hI.thaw hiL) hF4 rfl rfl rfl rfl rfl rfl
    · rw [if_neg e] at hnow
      rw [hnow]
      have d3 : decide ((at_ L (keyT L i)).2.1 = 3) = false := decide_eq_false hnf
      simp only [putT, Nat.reduceLT, T_set, X_eql EE_sym, ev_T, lk_cons, Nat.reduceEqDiff, if_false, if_true, ev_const, eq_int, d3, okI_some, X_assign, X_nil, thenQ_normal, W_seq, w6_48, n3, Y_0, X_move, keepM_f, X_un EE_sym, un_not, Bool.not_false, X_guard EE_sym, T_get, GDi_tt, X_fieldAddr EE_sym fo_54_0, offV_ptr, Nat.add_zero, X_load EE_sym, load1 lay_3, Mem.get_bump, x1, ld1_cells, ofList_n, List.length_cons, List.length_nil, Nat.zero_add, Nat.reduceAdd, nth_write_same, X_call ca_17, List.map_cons, List.map_nil, true_and]
      refine CallI.con0 (state_ok (hT3.bump _)) ?_
      rw [hnow]
      simp only [putT, Nat.reduceLT, T_set, X_nil, keepM_t, Y_0, X_guard EE_sym, T_get, lk_cons, Nat.reduceEqDiff, if_false, if_true, GDi_tt, X_fieldAddr EE_sym fo_54_2, ev_T, offV_ptr, Nat.zero_add, okI_some, keepM_f, Y_guard EE_sym, Y_re, RE_load EE_sym, load1 lay_3, Mem.get_bump, x1, ld1_cells, lcp_2, lookK_cons, eqvU, TDi_t, X_load EE_sym, X_neq EE_sym, neq_int, decide_true, Bool.not_true, X_move, GDi_ff, X_fieldAddr EE_sym fo_54_0, Nat.add_zero, ofList_n, List.length_cons, List.length_nil, Nat.reduceAdd, nth_write_same, X_call ca_18, List.map_cons, List.map_nil]
      refine CallI.con (status_ok (hT3.bump _)) (by simp) ?_
      rw [hnow]
      simp only [putT, Nat.reduceLT, T_set, X_nil, keepM_t, Y_0, X_guard EE_sym, T_get, lk_cons, Nat.reduceEqDiff, if_false, if_true, GDi_ff, X_fieldAddr EE_sym fo_54_3, ev_T, offV_ptr, Nat.zero_add, okI_some, keepM_f, Y_guard EE_sym, Y_re, RE_load EE_sym, load1 lay_23, Mem.get_bump, x1, ld1_cells, lcp_3, lookK_cons, eqvU, TDi_t, X_load EE_sym, X_neq EE_sym, neq_int, decide_true, Bool.not_true, GDi_tt, X_pick EE_sym, ev_const, pickV_bool, Bool.false_eq_true, X_move, X_fieldAddr EE_sym fo_54_0, Nat.add_zero, load1 lay_3, ofList_n, List.length_cons, List.length_nil, Nat.reduceAdd, nth_write_same, X_call ca_14, List.map_cons, List.map_nil]
      refine CallI.con (parent_ok (hT3.bump _)) (by simp) ?_
      rw [hnow]
      simp only [putT, Nat.reduceLT, T_set, X_nil, keepM_t, Y_0, X_guard EE_sym, T_get, lk_cons, Nat.reduceEqDiff, if_false, if_true, GDi_ff, X_fieldAddr EE_sym fo_54_1, ev_T, offV_ptr, Nat.zero_add, okI_some, keepM_f, Y_guard EE_sym, Y_re, RE_load EE_sym, load1 lay_3, Mem.get_bump, x1, ld1_cells, lcp_1, lookK_cons, eqvU, TDi_t, X_load EE_sym, X_neq EE_sym, neq_int, decide_true, Bool.not_true, X_pick EE_sym, ev_const, pickV_bool, Bool.false_eq_true, Y_nil, thenQ_normal, W_cond, CDi_f, W_skip, W_seq, w6_51, Mem.next_bump, n3, Nat.le_add_right_of_le, bump_bump, Nat.reduceAdd, X_move, GDi_ft, blockQ_normal, w6_55, X_bin EE_sym (op := .add) rfl, bin_add, hw1, X_assign, roundQ_normal, true_and]
      exact fin _ _ _ _ hT3 (hI.skip hiL e) hF3 rfl rfl rfl rfl rfl rfl
  · obtain hie : i = (ks L).length := by omega
    have g1 : ¬ (i : Int) < ((ks L).length : Int) := by omega
    simp only [w6_56, W_seq, w6_45, hnx, X_move, Nat.reduceLT, ev_T, lk_cons, Nat.reduceEqDiff, if_false, if_true, T_set, X_len EE_sym, hlenA, okI_some, X_bin EE_sym (op := .lss) rfl, bin_lss, g1, decide_false, X_nil, thenQ_normal, W_cond, CDi_f, W_exit, thenQ_exit, roundQ_exit, true_and]
    exact ⟨_, A, rfl, ⟨rfl, rfl, rfl, rfl, rfl⟩, hT.bump _, by rw [← hkl, ← hie]; exact hI, hF.bump _⟩
end
end
end Go.Ab
/- TreeThaws: whatever the room, the calls, and whose tree, it answers true. -/
namespace Go.Ab
open Go.Proofs
noncomputable section
set_option maxHeartbeats 8000000
set_option maxRecDepth 10000
theorem NF.start : NF [(1, (0, 1, 0#32))] := fun q hq => by
  obtain rfl : q = 1 := List.mem_singleton.1 hq
  show (1 : Int) ≠ 3
  decide
section
variable {m : Mem} {l : Value} {n : Nat} {room p : Int}
theorem thaws_ok (hm : Fresh m) (hl : Ops m l n) : ∃ m', Con EE.P 6 [In room, l, In p] m (.bool true) m' := by
  refine Con.raw1 EE_ok fn6 (Nat.le_of_ble_eq_true rfl) ?_
  have hlen : ∀ M, lenA EE.P 22 l M = some (In n) := fun M => by
    obtain ⟨aa, C, rfl, _⟩ := id hl
    exact len_slice und_22
  simp only [f6, enumV, Nat.zero_add, Nat.reduceAdd, w6, W_seq, w6_0, Nat.le_refl, X_assign, ev_const, Nat.reduceLT, T_set, X_nil, thenQ_normal, w6_1, Mem.next_bump, Nat.le_add_right, bump_bump, X_call ca_7, List.map_nil, true_and]
  refine CallI.con0 alive_ok ?_
  by_cases hr : ¬ (1 ≤ room ∧ room ≤ 32)
  · simp only [putT, Nat.reduceLT, T_set, X_assign, ev_T, lk_cons, Nat.reduceEqDiff, if_false, if_true, X_nil, thenQ_normal, W_seq, w6_2, Mem.next_bump, Nat.le_add_right, bump_bump, Nat.reduceAdd, X_move, Nat.one_ne_zero, X_call ca_8, List.map_cons, List.map_nil, true_and]
    refine CallI.con0 (new_no (by omega)) ?_
    by_cases hn : 60 < n
    · have hx : ((60 : Int) < (n : Int)) = True := eq_true (by omega)
      simp only [putT, Nat.reduceLT, T_set, X_move, ev_T, lk_cons, Nat.reduceEqDiff, if_false, if_true, X_extract EE_sym, List.getElem?_toArray, List.getElem?_cons_zero, okI_some, List.getElem?_cons_succ, X_assign, X_nil, thenQ_normal, W_seq, w6_3, Mem.next_bump, Nat.le_add_right, bump_bump, Nat.reduceAdd, X_len EE_sym, hlen, X_bin EE_sym (op := .gtr) rfl, ev_const, bin_gtr, hx, decide_true, X_guard EE_sym, T_get, GDi_tf, X_pick EE_sym, pickV_bool, W_cond, CDi_t, w6_5, w6_4, W_ret, thenQ_ret, FinX_ret, resA_tmp, resA_nil, Option.map_some, oneOr1, true_and]
      exact RawE.of (by simp only [Mem.next_bump]; omega) fun y hy => rfl
    · have hx : ((60 : Int) < (n : Int)) = False := eq_false (by omega)
      simp only [putT, Nat.reduceLT, T_set, X_move, ev_T, lk_cons, Nat.reduceEqDiff, if_false, if_true, X_extract EE_sym, List.getElem?_toArray, List.getElem?_cons_zero, okI_some, List.getElem?_cons_succ, X_assign, X_nil, thenQ_normal, W_seq, w6_3, Mem.next_bump, Nat.le_add_right, bump_bump, Nat.reduceAdd, X_len EE_sym, hlen, X_bin EE_sym (op := .gtr) rfl, ev_const, bin_gtr, hx, decide_false, X_guard EE_sym, T_get, GDi_ff, X_neq EE_sym, neq_int, Int.reduceEq, Bool.not_false, X_pick EE_sym, pickV_bool, Bool.false_eq_true, GDi_tf, W_cond, CDi_t, w6_5, w6_4, W_ret, thenQ_ret, FinX_ret, resA_tmp, resA_nil, Option.map_some, oneOr1, true_and]
      exact RawE.of (by simp only [Mem.next_bump]; omega) fun y hy => rfl
  have hr : 1 ≤ room ∧ room ≤ 32 := Classical.byContradiction hr
  simp only [putT, Nat.reduceLT, T_set, X_assign, ev_T, lk_cons, Nat.reduceEqDiff, if_false, if_true, X_nil, thenQ_normal, W_seq, w6_2, Mem.next_bump, Nat.le_add_right, bump_bump, Nat.reduceAdd, X_move, Nat.one_ne_zero, X_call ca_8, List.map_cons, List.map_nil, true_and]
  refine CallI.ex2 (new_ok (m := m.bump _) hm.bump hr) fun u M0 hv => ?_
  obtain ⟨t, b, rfl, ht, hb, hT, hn0⟩ := hv
  rw [Mem.next_bump] at ht hb
  have hn0 := hn0.of_bump
  have n0 := hn0.next
  by_cases hn : 60 < n
  · have hx : ((60 : Int) < (n : Int)) = True := eq_true (by omega)
    simp only [putT, Nat.reduceLT, T_set, X_move, ev_T, lk_cons, Nat.reduceEqDiff, if_false, if_true, X_extract EE_sym, List.getElem?_toArray, List.getElem?_cons_zero, okI_some, List.getElem?_cons_succ, X_assign, X_nil, thenQ_normal, W_seq, w6_3, n0, X_len EE_sym, hlen, X_bin EE_sym (op := .gtr) rfl, ev_const, bin_gtr, hx, decide_true, X_guard EE_sym, T_get, GDi_tf, X_pick EE_sym, pickV_bool, W_cond, CDi_t, w6_5, w6_4, Mem.next_bump, Nat.le_add_right_of_le, bump_bump, Nat.reduceAdd, W_ret, thenQ_ret, FinX_ret, resA_tmp, resA_nil, Option.map_some, oneOr1, true_and]
    exact RawE.of (by simp only [Mem.next_bump]; omega) fun y hy => hn0.old y hy
  have hx : ((60 : Int) < (n : Int)) = False := eq_false (by omega)
  simp only [putT, Nat.reduceLT, T_set, X_move, ev_T, lk_cons, Nat.reduceEqDiff, if_false, if_true, X_extract EE_sym, List.getElem?_toArray, List.getElem?_cons_zero, okI_some, List.getElem?_cons_succ, X_assign, X_nil, thenQ_normal, W_seq, w6_3, n0, X_len EE_sym, hlen, X_bin EE_sym (op := .gtr) rfl, ev_const, bin_gtr, hx, decide_false, X_guard EE_sym, T_get, GDi_ff, X_neq EE_sym, neq_int, decide_true, Bool.not_true, X_pick EE_sym, pickV_bool, Bool.false_eq_true, X_un EE_sym, un_not, W_cond, CDi_f, W_skip, w6_6, Mem.next_bump, Nat.le_add_right_of_le, bump_bump, Nat.reduceAdd, W_block, true_and]
  refine WX.mono ?_ (th_ops (p := p) hm rfl rfl rfl rfl rfl hl (by omega) ⟨hn0.bump _, ⟨by omega, by omega⟩, _, _, hT.bump _, Gt.start hr, NF.start⟩ (Nat.le_refl _))
  rintro x tt M1 ⟨rfl, J, rfl, ⟨j8, j1, j2, j7⟩, hO⟩
  obtain ⟨top, L, hT, hG, hNF⟩ := hO.at_
  have hL := hG.len32
  have n1 := hO.nx.next
  have hF1 := hO.nx.fresh
  have j1 : lk J 1 = l := j1
  have j2 : lk J 2 = In p := j2
  have j7 : lk J 7 = .bool true := j7
  simp only [blockQ_exit, if_true, thenQ_normal, W_seq, w6_25, n1, X_assign, ev_const, Nat.reduceLT, T_set, X_nil, w6_26, Mem.next_bump, Nat.le_add_right_of_le, bump_bump, Nat.reduceAdd, X_move, ev_T, lk_cons, Nat.reduceEqDiff, j8, if_false, X_call ca_15, List.map_cons, List.map_nil, true_and]
  refine CallI.ex2 (all_ok (hT.bump _) hF1.bump hG.wf (by omega)) fun va M2 hA => ?_
  have hA := hA.of_bump
  have hT2 := hT.nx hF1 hA.nx
  have hF2 := hA.nx.fresh
  have hm2 := hO.nx.trans hA.nx
  have n2 := hm2.next
  simp only [putT, Nat.reduceLT, T_set, X_assign, ev_T, lk_cons, Nat.reduceEqDiff, if_false, if_true, X_nil, thenQ_normal, W_seq, w6_27, n2, ev_const, W_block, true_and]
  refine WX.mono ?_ (th_was (p := p) (hT2.bump _) hF2.bump (by omega) (hA.sl.bump _) j8 rfl rfl rfl j2 j7 (by rw [Mem.next_bump]; omega))
  rintro x tt M3 ⟨rfl, J2, vw, rfl, ⟨i8, i11, i12, i2, i7⟩, hW⟩
  have hW := hW.of_bump
  have hT3 := hT2.nx hF2 hW.nx
  have hF3 := hW.nx.fresh
  have hm3 := hm2.trans hW.nx
  have n3 := hm3.next
  simp only [blockQ_exit, if_true, thenQ_normal, W_seq, w6_35, n3, X_move, Nat.reduceLT, ev_T, i8, T_set, lk_cons, Nat.reduceEqDiff, i2, if_false, X_call ca_20, List.map_cons, List.map_nil, true_and]
  refine CallI.ex2 (tree_ok (pid := p) (hT3.bump _) hF3.bump hG.wf hG.Par (by omega)) fun vt M4 hR => ?_
  have hR := hR.of_bump
  have hT4 := hT3.nx hF3 hR.nx
  have hF4 := hR.nx.fresh
  have hm4 := hm3.trans hR.nx
  have n4 := hm4.next
  simp only [putT, Nat.reduceLT, T_set, X_assign, ev_T, lk_cons, Nat.reduceEqDiff, if_false, if_true, X_nil, thenQ_normal, W_seq, w6_36, n4, X_move, i8, i2, X_call ca_12, List.map_cons, List.map_nil, true_and]
  refine CallI.ex2 (freeze_ok (p := p) (hT4.bump _) hF4.bump hG.wf hG.Par (by omega)) fun u M5 hv => ?_
  obtain ⟨⟨vf, rfl, hvf, hvn⟩, hT5, hF5⟩ := hv
  have hF5 := hF5.of_bump
  have hm5 := hm4.frT hO.lo hF5
  have n5 := hm5.next
  have hFF := hF5.fresh
  by_cases he : freezeE L p = 0
  · have d0 := decide_eq_true he
    rw [if_pos he] at hvf
    obtain ⟨hpk, hp1, hpl⟩ := freeze_at hG he
    obtain ⟨g1, g2⟩ := freeze_keys hG he
    have hGE := hG.freeze (p := p)
    have hI0 := TI.start hG he
    have hfl : (freezeL L p).length = L.length := hI0.len
    obtain ⟨TT, hTT⟩ : ∃ TT, TT = treeL L p := ⟨_, rfl⟩
    obtain ⟨A0, hA0⟩ : ∃ A0, A0 = freezeL L p := ⟨_, rfl⟩
    rw [← hTT] at hvf hR hI0
    rw [← hA0] at hT5 hI0 hGE hfl
    have hTl : TT.length ≤ L.length := by
      rw [hTT]
      unfold treeL
      rw [if_neg (by omega), (isort_perm _).length_eq]
      exact bst_len hG.Par hpk
    have lt3 := hT3.lt hF3
    have hvt : SlV M5 1 vt TT.length (il TT) := hR.sl.keep fun y o hy ho => by
      have := hR.new y hy
      rw [hF5.old y (hR.sl.lt hF4 hy) (by omega) (by omega), ho]
    have lt2 := hT2.lt hF2
    have hW4 := hW.sl.nx hF3 hR.nx
    have hvwl : ∀ y, slB vw = some y → y ≠ t ∧ y ≠ b := fun y hy => by
      have := hW.new y hy
      exact ⟨by omega, by omega⟩
    have hvw : SlV M5 4 vw (ks L).length (wl L (ks L)) := by
      rw [ks_len]
      exact hW4.keep fun y o hy ho => by rw [hF5.old y (hW4.lt hF4 hy) (hvwl y hy).1 (hvwl y hy).2, ho]
    simp only [putT, Nat.reduceLT, T_set, X_move, ev_T, lk_cons, Nat.reduceEqDiff, if_false, if_true, X_extract EE_sym, List.getElem?_toArray, List.getElem?_cons_zero, okI_some, List.getElem?_cons_succ, X_assign, X_nil, thenQ_normal, W_seq, w6_37, n5, X_neq EE_sym, ev_const, neq_int, d0, Bool.not_true, W_cond, CDi_f, W_skip, w6_40, Mem.next_bump, Nat.le_add_right_of_le, bump_bump, Nat.reduceAdd, i8, X_call ca_22, List.map_cons, List.map_nil, true_and]
    refine CallI.con0 (free_ok (hT5.bump _) (by omega)) ?_
    simp only [putT, Nat.reduceLT, T_set, X_assign, ev_T, lk_cons, Nat.reduceEqDiff, if_false, if_true, X_nil, thenQ_normal, W_seq, w6_41, Mem.next_bump, n5, Nat.le_add_right_of_le, bump_bump, Nat.reduceAdd, X_move, X_call ca_16, List.map_cons, List.map_nil, true_and]
    refine CallI.con0 (same_i (hvf.bump _) (hvt.bump _) (by omega)) ?_
    simp only [putT, Nat.reduceLT, T_set, X_un EE_sym, ev_T, lk_cons, Nat.reduceEqDiff, if_false, if_true, un_not, Bool.not_true, okI_some, X_nil, thenQ_normal, W_cond, CDi_f, W_skip, W_seq, w6_44, Mem.next_bump, n5, Nat.le_add_right_of_le, bump_bump, Nat.reduceAdd, X_assign, ev_const, W_block, true_and]
    refine WX.mono ?_ (th_thaw (va := va) (fr := room - (A0.length : Int)) (hT5.bump _) hI0 hG hNF hG.wf hFF.bump (hvw.bump _) hvwl i8 i11 i12 rfl rfl i7 (by rw [Mem.next_bump]; omega))
    rintro x tt M6 ⟨rfl, J3, B, rfl, ⟨e8, e11, e12, e18, e7⟩, hT6, hI6, hF6⟩
    have hF6 := hF6.of_bump
    have hm6 := hm5.frT hO.lo hF6
    have n6 := hm6.next
    have hvw6 : SlV M6 4 vw (ks L).length (wl L (ks L)) := hvw.keep fun y o hy ho => by rw [hF6.old y (hvw.lt hFF hy) (hvwl y hy).1 (hvwl y hy).2, ho]
    simp only [blockQ_exit, if_true, thenQ_normal, W_seq, w6_58, n6, X_assign, ev_const, Nat.reduceLT, T_set, X_nil, W_block, true_and]
    refine WX.mono ?_ (th_chk (va := va) (fr := room - (A0.length : Int)) (hT6.bump _) hF6.fresh.bump (fun q hq => hI6.done hq) (hvw6.bump _) (by omega) e8 e11 e12 e18 rfl e7 (by rw [Mem.next_bump]; omega))
    rintro x tt M7 ⟨rfl, J4, rfl, ⟨f8, f12, f18, f7⟩, hn7⟩
    have hn7 := hn7.of_bump
    have hm7 := hm6.trans hn7
    have n7 := hm7.next
    have hT7 := hT6.nx hF6.fresh hn7
    have hBl := hI6.len
    simp only [blockQ_exit, if_true, thenQ_normal, W_seq, w6_68, n7, X_move, Nat.reduceLT, ev_T, f7, T_set, lk_cons, X_guard EE_sym, T_get, Nat.reduceEqDiff, if_false, GDi_tt, f8, X_call ca_22, List.map_cons, List.map_nil, true_and]
    refine CallI.con0 (free_ok (hT7.bump _) (by omega)) ?_
    have d1 : decide (room - (B.length : Int) = room - (A0.length : Int)) = true := decide_eq_true (by omega)
    simp only [putT, Nat.reduceLT, T_set, X_guard EE_sym, T_get, lk_cons, Nat.reduceEqDiff, if_false, if_true, GDi_tt, X_move, ev_T, f18, X_eql EE_sym, eq_int, d1, okI_some, X_pick EE_sym, ev_const, pickV_bool, f8, X_call ca_15, List.map_cons, List.map_nil]
    refine CallI.ex2L (all_ok (hT7.bump _) hn7.fresh.bump (hI6.wf hG.wf) (by omega)) (by simp) fun vb M8 hA8 => ?_
    have hA8 := hA8.of_bump
    have hm8 := hm7.trans hA8.nx
    have n8 := hm8.next
    have hl1 : ∀ M, lenA EE.P 33 vb M = some (In B.length) := fun M => hA8.sl.lenA und_33
    have hl2 : ∀ M, lenA EE.P 33 va M = some (In L.length) := fun M => hA.sl.lenA und_33
    have d2 : decide ((B.length : Int) = (L.length : Int)) = true := decide_eq_true (by omega)
    simp only [putT, Nat.reduceLT, T_set, X_guard EE_sym, T_get, lk_cons, Nat.reduceEqDiff, if_false, if_true, GDi_tt, X_len EE_sym, ev_T, hl1, okI_some, X_move, f12, hl2, X_eql EE_sym, eq_int, d2, X_pick EE_sym, ev_const, pickV_bool, X_assign, X_nil, thenQ_normal, W_ret, FinX_ret, resA_tmp, resA_nil, Option.map_some, oneOr1]
    exact RawE.of hm8.next fun y hy => hm8.old y hy
  · have d0 := decide_eq_false he
    rw [if_neg he] at hvf
    subst hvf
    have hz : decide (((0 : Nat) : Int) = 0) = true := by decide
    have hLL : freezeL L p = L := by unfold freezeL; rw [if_neg he]
    rw [hLL] at hT5
    by_cases c1 : p = 1
    · have d1 := decide_eq_true c1
      simp only [putT, Nat.reduceLT, T_set, X_move, ev_T, lk_cons, Nat.reduceEqDiff, if_false, if_true, X_extract EE_sym, List.getElem?_toArray, List.getElem?_cons_zero, okI_some, List.getElem?_cons_succ, X_assign, X_nil, thenQ_normal, W_seq, w6_37, n5, X_neq EE_sym, ev_const, neq_int, d0, Bool.not_false, W_cond, CDi_t, w6_39, w6_38, Mem.next_bump, Nat.le_add_right_of_le, bump_bump, Nat.reduceAdd, i7, X_guard EE_sym, T_get, GDi_tt, X_len EE_sym, len_slice und_33, X_eql EE_sym, eq_int, hz, X_pick EE_sym, pickV_bool, i2, d1, GDi_tf, W_ret, thenQ_ret, FinX_ret, resA_tmp, resA_nil, Option.map_some, oneOr1, true_and]
      exact RawE.of (by simp only [Mem.next_bump]; omega) fun y hy => hm5.old y hy
    · have d1 := decide_eq_false c1
      have c2 : (at_ L p).2.1 ≠ 1 := fun e => he (by unfold freezeE; rw [if_pos e, if_neg c1])
      have d2 : decide ((at_ L p).2.1 = 1) = false := decide_eq_false c2
      simp only [putT, Nat.reduceLT, T_set, X_move, ev_T, lk_cons, Nat.reduceEqDiff, if_false, if_true, X_extract EE_sym, List.getElem?_toArray, List.getElem?_cons_zero, okI_some, List.getElem?_cons_succ, X_assign, X_nil, thenQ_normal, W_seq, w6_37, n5, X_neq EE_sym, ev_const, neq_int, d0, Bool.not_false, W_cond, CDi_t, w6_39, w6_38, Mem.next_bump, Nat.le_add_right_of_le, bump_bump, Nat.reduceAdd, i7, X_guard EE_sym, T_get, GDi_tt, X_len EE_sym, len_slice und_33, X_eql EE_sym, eq_int, hz, X_pick EE_sym, pickV_bool, i2, d1, GDi_ff, i8, X_call ca_17, List.map_cons, List.map_nil, true_and]
      refine CallI.con0 (state_ok (hT5.bump _)) ?_
      simp only [putT, Nat.reduceLT, T_set, X_guard EE_sym, T_get, lk_cons, Nat.reduceEqDiff, if_false, if_true, GDi_ff, X_neq EE_sym, ev_T, ev_const, neq_int, d2, Bool.not_false, okI_some, GDi_tt, X_pick EE_sym, pickV_bool, Bool.false_eq_true, X_assign, X_nil, thenQ_normal, W_ret, thenQ_ret, FinX_ret, resA_tmp, resA_nil, Option.map_some, oneOr1]
      exact RawE.of (by simp only [Mem.next_bump]; omega) fun y hy => hm5.old y hy
theorem thaws_x {x0 x2 : Int} (hm : Fresh m) (hl : Ops m l n) : ∃ m', Con EE.P 6 [In x0, l, In x2] m (.bool true) m' := thaws_ok hm hl
end
end
end Go.Ab
