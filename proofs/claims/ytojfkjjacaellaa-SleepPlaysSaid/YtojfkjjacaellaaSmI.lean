/- Sleep: sleepers behind any calls. -/
import Derived.Test.YtojfkjjacaellaaSmG
import Derived.Test.YtojfkjjacaellaaSmHV
namespace Go.Ab
open Go.Proofs
noncomputable section
set_option maxHeartbeats 4000000
set_option maxRecDepth 10000
/-- Calls, where they lie. -/
def Ops (m : Mem) (v : Value) (n : Nat) : Prop := ∃ a C, v = .slice a n C ∧ (n = 0 ∨ ∃ B cs w z, a = some ⟨B, 0, none⟩ ∧ m.get B = some (.cells cs w z) ∧ ∀ i, i < n → ∃ (k p : Int) (b : BitVec 32), cs.sub (i * 3) 3 = some [In k, In p, Um b] ∧ (Lit.int .i64 p).wf = true)
theorem sub_nth {cs : Cells} {o n j : Nat} {l : List Value} {v : Value} (h : cs.sub o n = some l) (hj : j < n) (hv : l.getD j undef = v) : cs.nth (o + j) = some v := by
  have h1 := sub_get_inv h hj
  have h2 : o + n ≤ cs.n := by
    unfold Cells.sub at h
    split at h
    · assumption
    · cases h
  rw [nth_lt (by omega), h1, hv]
theorem bld27 : buildA EE.P 27 [] = some (.agg [.map none].toArray) := by kernel_rfl
/-- Sleepers of our own. -/
structure Own (m M : Mem) (s : Nat) (k : Nat) : Prop where
  nx : Nx m M
  at_ : ∃ v L, SAt M s v L ∧ Gd L k ∧ m.next ≤ s ∧ ∀ b, mB v = some b → m.next ≤ b
section
variable {m M M' : Mem} {s k : Nat} {v v' : Value} {L : SL}
theorem Own.of (hn : Nx m M) (hL : SAt M s v L) (hG : Gd L k) (hs : m.next ≤ s) (hv : ∀ b, mB v = some b → m.next ≤ b) : Own m M s k := ⟨hn, v, L, hL, hG, hs, hv⟩
/-- Behind what writes them alone. -/
theorem Own.fr (hn : Nx m M) (hs : m.next ≤ s) (hv : ∀ b, mB v = some b → m.next ≤ b) (hF : FrS M M' s v v') (hL : SAt M' s v' L) (hG : Gd L k) : Own m M' s k := by
  refine ⟨⟨Nat.le_trans hn.next hF.next, hF.fresh, fun y hy => ?_⟩, v', L, hL, hG, hs, fun b hb => ?_⟩
  · rw [hF.old y (Nat.lt_of_lt_of_le hy hn.next) (by omega) (fun e => by have := hv _ e; omega), hn.old y hy]
  · rcases hF.vn b hb with h | h
    · exact hv b h
    · have := hn.next; omega
theorem Own.bump (h : Own m M s k) (j : Nat) : Own m (M.bump j) s k := by
  obtain ⟨v, L, h1, h2, h3⟩ := h.at_
  exact ⟨h.nx.bump j, v, L, h1.bump j, h2, h3⟩
theorem Own.mono {k' : Nat} (h : Own m M s k) (hk : k ≤ k') : Own m M s k' := by
  obtain ⟨v, L, h1, h2, h3⟩ := h.at_
  exact ⟨h.nx, v, L, h1, h2.mono hk, h3⟩
theorem Gd.add {p : Int} {n : BitVec 32} (h : Gd L k) (hp : (Lit.int .i64 p).wf = true) : Gd (addL L p n) (k + 1) := by
  unfold addL
  split
  · rename_i he
    refine h.set hp ?_ fun e => ?_
    · by_cases e : p < 1
      · unfold addE at he
        rw [if_pos (.inl e)] at he
        cases he
      · omega
    · unfold addE at he
      rw [if_pos (.inr e)] at he
      cases he
  · exact h.mono (by omega)
theorem grown_ok {l : Value} {n : Nat} (hm : Fresh m) (hl : Ops m l n) (hn : n ≤ 200) : ∃ u m', Con EE.P 13 [l] m u m' ∧ ∃ s, u = PT s ∧ Own m m' s n := by
  refine Con.raw EE_ok fn13 (Nat.le_of_ble_eq_true rfl) _ ?_
  obtain ⟨aa, C, rfl, hl2⟩ := id hl
  have hlen : ∀ M, lenA EE.P 39 (.slice aa n C) M = some (In n) := fun M => len_slice und_39
  simp only [f13, enumV, w13, W_seq, w13_0, Nat.le_refl, X_assign, ev_const, Nat.reduceLT, T_set, X_nil, thenQ_normal, w13_1, Mem.next_bump, Nat.le_add_right, bump_bump, Nat.reduceAdd, X_build EE_sym, List.map_nil, bld27, okI_some, X_box, ev_T, lk_cons, Nat.reduceEqDiff, if_false, if_true, box_agg, Nat.add_assoc, put_bump, w13_2, Mem.next_put, X_move, X_len EE_sym, len_slice und_39, W_block, w13_21, true_and]
  refine WX.loop_of (fun x t M => ∃ i : Nat, i ≤ n ∧ x = n - i ∧ t = T 46 [(9, In i), (8, In n), (3, PT (m.next + 2)), (0, .slice aa n C)] ∧ Own m M (m.next + 2) i) ?_ (k := n) (t1 := T 46 [(9, In (0 : Nat)), (8, In n), (3, PT (m.next + 2)), (0, .slice aa n C)]) (View.temps ⟨rfl, rfl, rfl, rfl, trivial⟩) ⟨0, by omega, rfl, rfl, ?_⟩
  · rintro x t M ⟨i, hi, rfl, rfl, hO⟩
    have hnx := hO.nx.next
    obtain ⟨v, L, hS, hG, hs0, hv0⟩ := hO.at_
    by_cases hi2 : i < n
    · have g1 : (i : Int) < (n : Int) := by omega
      have g2 : (0 : Int) ≤ i := by omega
      rcases hl2 with hl2 | ⟨B, cs, ww, z, rfl, e1, e2⟩
      · omega
      obtain ⟨kk, p, w, e3, hp⟩ := e2 i hi2
      have e4 : M.get B = some (.cells cs ww z) := by rw [hO.nx.old B (hm.lt e1), e1]
      have e5 : cs.nth (i * 3) = some (In kk) := sub_nth (j := 0) e3 (by decide) rfl
      have e6 : cs.nth (i * 3 + 1) = some (In p) := sub_nth e3 (by decide) rfl
      have e7 : cs.nth (i * 3 + 2) = some (Um w) := sub_nth e3 (by decide) rfl
      have hw : IntKind.i64.wrap ((i : Int) + 1) = ((i + 1 : Nat) : Int) := by rw [wrap_i64 (by omega) (by omega)]; omega
      have fin : ∀ M2, Own m M2 (m.next + 2) (i + 1) → ∃ k' t1 m1, k' < n - i ∧ View Sig.none Sig.none m.next none (T 46 [(9, In ((i + 1 : Nat) : Int)), (8, In n), (3, PT (m.next + 2)), (0, .slice (some ⟨B, 0, none⟩) n C)]) M2 t1 m1 ∧ ∃ i : Nat, i ≤ n ∧ k' = n - i ∧ t1 = T 46 [(9, In i), (8, In n), (3, PT (m.next + 2)), (0, .slice (some ⟨B, 0, none⟩) n C)] ∧ Own m m1 (m.next + 2) i := fun M2 h => ⟨n - (i + 1), _, _, by omega, View.refl, i + 1, by omega, rfl, rfl, h⟩
      by_cases k0 : kk = 0
      · have d0 := decide_eq_true k0
        simp only [w13_20, W_seq, w13_3, hnx, X_bin EE_sym (op := .lss) rfl, Nat.reduceLT, ev_T, lk_cons, Nat.reduceEqDiff, if_false, if_true, bin_lss, g1, decide_true, okI_some, T_set, X_nil, thenQ_normal, W_cond, CDi_t, W_skip, W_block, w13_18, w13_4, Mem.next_bump, Nat.le_add_right_of_le, bump_bump, Nat.reduceAdd, X_move, X_assign, w13_5, X_indexAddr EE_sym, g2, idxV_slice und_39 sz_51, Int.toNat_natCast, Nat.zero_add, X_fieldAddr EE_sym fo_51_0, offV_ptr, Nat.add_zero, X_load EE_sym, load1 lay_3, Mem.get_bump, e4, ld1_cells, e5, w13_17, w13_6, X_eql EE_sym, ev_const, eq_int, d0, w13_8, w13_7, X_fieldAddr EE_sym fo_51_1, e6, X_fieldAddr EE_sym fo_51_2, load1 lay_30, e7, X_call ca_9, List.map_cons, List.map_nil, true_and]
        refine CallI.ex2 (add_ok (hS.bump _) hO.nx.fresh.bump) fun u M2 h => ?_
        obtain ⟨rfl, v', hS', hF'⟩ := h
        have hO' := Own.fr hO.nx hs0 hv0 hF'.of_bump hS' (hG.add (n := w) hp)
        have hnx2 := hO'.nx.next
        simp only [putT, Nat.reduceLT, T_set, X_nil, blockQ_normal, thenQ_normal, w13_19, hnx2, X_bin EE_sym (op := .add) rfl, ev_T, lk_cons, Nat.reduceEqDiff, if_false, if_true, ev_const, bin_add, hw, okI_some, X_move, roundQ_normal, true_and]
        exact ⟨n - (i + 1), _, _, by omega, View.temps (l' := [(9, In ((i + 1 : Nat) : Int)), (8, In n), (3, PT (m.next + 2)), (0, .slice (some ⟨B, 0, none⟩) n C)]) ⟨rfl, rfl, rfl, rfl, trivial⟩, i + 1, by omega, rfl, rfl, hO'.bump _⟩
      have d0 := decide_eq_false k0
      by_cases k1 : kk = 1
      · have d1 := decide_eq_true k1
        simp only [w13_20, W_seq, w13_3, hnx, X_bin EE_sym (op := .lss) rfl, Nat.reduceLT, ev_T, lk_cons, Nat.reduceEqDiff, if_false, if_true, bin_lss, g1, decide_true, okI_some, T_set, X_nil, thenQ_normal, W_cond, CDi_t, W_skip, W_block, w13_18, w13_4, Mem.next_bump, Nat.le_add_right_of_le, bump_bump, Nat.reduceAdd, X_move, X_assign, w13_5, X_indexAddr EE_sym, g2, idxV_slice und_39 sz_51, Int.toNat_natCast, Nat.zero_add, X_fieldAddr EE_sym fo_51_0, offV_ptr, Nat.add_zero, X_load EE_sym, load1 lay_3, Mem.get_bump, e4, ld1_cells, e5, w13_17, w13_6, X_eql EE_sym, ev_const, eq_int, d0, CDi_f, w13_16, w13_9, d1, w13_11, w13_10, X_call ca_12, List.map_cons, List.map_nil, true_and]
        refine CallI.ex2 (tick_ok (hS.bump _) hO.nx.fresh.bump hG.wf hG.nd (by have := hG.len; omega)) fun u M2 h => ?_
        obtain ⟨_, _, hS', hF'⟩ := h
        have hO' := (Own.fr hO.nx hs0 hv0 hF'.of_bump hS' hG.tick).mono (show i ≤ i + 1 by omega)
        have hnx2 := hO'.nx.next
        simp only [putT, Nat.reduceLT, T_set, X_nil, blockQ_normal, thenQ_normal, w13_19, hnx2, X_bin EE_sym (op := .add) rfl, ev_T, lk_cons, Nat.reduceEqDiff, if_false, if_true, ev_const, bin_add, hw, okI_some, X_move, roundQ_normal, true_and]
        exact ⟨n - (i + 1), _, _, by omega, View.temps (l' := [(9, In ((i + 1 : Nat) : Int)), (8, In n), (3, PT (m.next + 2)), (0, .slice (some ⟨B, 0, none⟩) n C)]) ⟨rfl, rfl, rfl, rfl, trivial⟩, i + 1, by omega, rfl, rfl, hO'.bump _⟩
      have d1 := decide_eq_false k1
      by_cases k2 : kk = 2
      · have d2 := decide_eq_true k2
        simp only [w13_20, W_seq, w13_3, hnx, X_bin EE_sym (op := .lss) rfl, Nat.reduceLT, ev_T, lk_cons, Nat.reduceEqDiff, if_false, if_true, bin_lss, g1, decide_true, okI_some, T_set, X_nil, thenQ_normal, W_cond, CDi_t, W_skip, W_block, w13_18, w13_4, Mem.next_bump, Nat.le_add_right_of_le, bump_bump, Nat.reduceAdd, X_move, X_assign, w13_5, X_indexAddr EE_sym, g2, idxV_slice und_39 sz_51, Int.toNat_natCast, Nat.zero_add, X_fieldAddr EE_sym fo_51_0, offV_ptr, Nat.add_zero, X_load EE_sym, load1 lay_3, Mem.get_bump, e4, ld1_cells, e5, w13_17, w13_6, X_eql EE_sym, ev_const, eq_int, d0, CDi_f, w13_16, w13_9, d1, w13_15, w13_12, d2, w13_14, w13_13, X_fieldAddr EE_sym fo_51_1, e6, X_call ca_18, List.map_cons, List.map_nil, true_and]
        refine CallI.ex2 (drop_ok (hS.bump _) hO.nx.fresh.bump) fun u M2 h => ?_
        obtain ⟨_, hS', hF'⟩ := h
        have hG' : Gd (if (mget L p).isSome then mdel L p else L) i := by
          split
          · exact hG.del
          · exact hG
        have hO' := (Own.fr hO.nx hs0 hv0 hF'.of_bump hS' hG').mono (show i ≤ i + 1 by omega)
        have hnx2 := hO'.nx.next
        simp only [putT, Nat.reduceLT, T_set, X_nil, blockQ_normal, thenQ_normal, w13_19, hnx2, X_bin EE_sym (op := .add) rfl, ev_T, lk_cons, Nat.reduceEqDiff, if_false, if_true, ev_const, bin_add, hw, okI_some, X_move, roundQ_normal, true_and]
        exact ⟨n - (i + 1), _, _, by omega, View.temps (l' := [(9, In ((i + 1 : Nat) : Int)), (8, In n), (3, PT (m.next + 2)), (0, .slice (some ⟨B, 0, none⟩) n C)]) ⟨rfl, rfl, rfl, rfl, trivial⟩, i + 1, by omega, rfl, rfl, hO'.bump _⟩
      have d2 := decide_eq_false k2
      simp only [w13_20, W_seq, w13_3, hnx, X_bin EE_sym (op := .lss) rfl, Nat.reduceLT, ev_T, lk_cons, Nat.reduceEqDiff, if_false, if_true, bin_lss, g1, decide_true, okI_some, T_set, X_nil, thenQ_normal, W_cond, CDi_t, W_skip, W_block, w13_18, w13_4, Mem.next_bump, Nat.le_add_right_of_le, bump_bump, Nat.reduceAdd, X_move, X_assign, w13_5, X_indexAddr EE_sym, g2, idxV_slice und_39 sz_51, Int.toNat_natCast, Nat.zero_add, X_fieldAddr EE_sym fo_51_0, offV_ptr, Nat.add_zero, X_load EE_sym, load1 lay_3, Mem.get_bump, e4, ld1_cells, e5, w13_17, w13_6, X_eql EE_sym, ev_const, eq_int, d0, CDi_f, w13_16, w13_9, d1, w13_15, w13_12, d2, blockQ_normal, w13_19, X_bin EE_sym (op := .add) rfl, bin_add, hw, roundQ_normal, true_and]
      exact ⟨n - (i + 1), _, _, by omega, View.temps (l' := [(9, In ((i + 1 : Nat) : Int)), (8, In n), (3, PT (m.next + 2)), (0, .slice (some ⟨B, 0, none⟩) n C)]) ⟨rfl, rfl, rfl, rfl, trivial⟩, i + 1, by omega, rfl, rfl, (hO.mono (show i ≤ i + 1 by omega)).bump _⟩
    · obtain rfl : i = n := by omega
      have q1 : ¬ (i : Int) < (i : Int) := by omega
      simp only [w13_20, W_seq, w13_3, hnx, X_bin EE_sym (op := .lss) rfl, Nat.reduceLT, ev_T, lk_cons, Nat.reduceEqDiff, if_false, if_true, bin_lss, q1, decide_false, okI_some, T_set, X_nil, thenQ_normal, W_cond, CDi_f, W_exit, thenQ_exit, roundQ_exit, blockQ_exit, w13_22, Mem.next_bump, Nat.le_add_right_of_le, bump_bump, Nat.reduceAdd, X_move, X_assign, W_ret, FinX_ret, resA_tmp, T_get, resA_nil, Option.map_some, oneOr1, true_and]
      have hO2 := hO.bump 3
      exact ⟨⟨hO2.nx.next, fun y hy e => by rw [hO2.nx.old y hy, e]⟩, _, rfl, hO2⟩
  · exact Own.of ⟨by (try simp only [Mem.next_bump, Mem.next_put]); omega, Fresh.of_low (by have := hm.n64; (try simp only [Mem.next_bump, Mem.next_put]); omega) (by repeat (first | exact Low.of hm (by (try simp only [Mem.next_bump, Mem.next_put]); omega) | refine Low.put ?_ (by (try simp only [Mem.next_bump, Mem.next_put]); omega) | refine Low.bump ?_)), fun y hy => by simp only [Mem.get_bump, Mem.get_put, ne_new hy, if_false]⟩ (v := .map none) (L := []) ⟨⟨_, by simp only [Mem.get_bump, Mem.get_put, if_true]; rfl, rfl, rfl⟩, .inl ⟨rfl, rfl⟩⟩ Gd.nil (by omega) (fun b hb => by cases hb)
end
end
end Go.Ab
