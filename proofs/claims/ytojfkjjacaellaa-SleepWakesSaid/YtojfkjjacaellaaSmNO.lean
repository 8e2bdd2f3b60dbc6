/- SleepWakes: two sleepers and what is wanted, side by side. -/
import Derived.Test.YtojfkjjacaellaaSmK
import Derived.Test.YtojfkjjacaellaaSmHM
namespace Go.Ab
open Go.Proofs
noncomputable section
set_option maxHeartbeats 8000000
set_option maxRecDepth 10000
/-- Pairs of bytes, where they lie. -/
def Ops2 (m : Mem) (v : Value) (n : Nat) : Prop := ∃ a C, v = .slice a n C ∧ (n = 0 ∨ ∃ B cs w z, a = some ⟨B, 0, none⟩ ∧ m.get B = some (.cells cs w z) ∧ ∃ fa fb : Nat → Nat, ∀ i, i < n → fa i < 256 ∧ fb i < 256 ∧ cs.sub (i * 2) 2 = some [.int .u8 (fa i : Int), .int .u8 (fb i : Int)])
/-- The law's state. -/
structure WkS (m M : Mem) (s t wb : Nat) (v vt : Value) (L Lt : SL) (W : List (Int × Int)) : Prop where
  nx : Nx m M
  hs : SAt M s v L
  ht : SAt M t vt Lt
  hw : M.get wb = some (.map (ml In W) true)
  ne : s ≠ t ∧ s ≠ wb ∧ t ≠ wb ∧ m.next ≤ s ∧ m.next ≤ t ∧ m.next ≤ wb
  sv : ∀ b, mB v = some b → m.next ≤ b ∧ b ≠ t ∧ b ≠ wb ∧ mB vt ≠ some b
  tv : ∀ b, mB vt = some b → m.next ≤ b ∧ b ≠ s ∧ b ≠ wb
section
variable {m M M' : Mem} {s t wb : Nat} {v vt v' : Value} {L Lt L' : SL} {W W' : List (Int × Int)}
theorem WkS.onnx (h : WkS m M s t wb v vt L Lt W) (hn : Nx M M') : WkS m M' s t wb v vt L Lt W :=
  ⟨h.nx.trans hn, h.hs.nx h.nx.fresh hn, h.ht.nx h.nx.fresh hn, hn.keep h.nx.fresh h.hw, h.ne, h.sv, h.tv⟩
theorem WkS.bump (h : WkS m M s t wb v vt L Lt W) (j : Nat) : WkS m (M.bump j) s t wb v vt L Lt W := h.onnx ((Nx.refl h.nx.fresh).bump j)
theorem WkS.ons (h : WkS m M s t wb v vt L Lt W) (hF : FrS M M' s v v') (hS : SAt M' s v' L') : WkS m M' s t wb v' vt L' Lt W := by
  obtain ⟨e1, e2, e3, e4, e5, e6⟩ := h.ne
  have lw := h.nx.fresh.lt h.hw
  have lt := h.ht.lt h.nx.fresh
  have ls := h.hs.lt h.nx.fresh
  have n1 := h.nx.next
  refine ⟨⟨Nat.le_trans h.nx.next hF.next, hF.fresh, fun y hy => ?_⟩, hS, h.ht.keep ?_ fun b hb => ?_, ?_, h.ne, fun b hb => ?_, h.tv⟩
  · rw [hF.old y (by omega) (by omega) (fun e => by have := (h.sv y e).1; omega), h.nx.old y hy]
  · exact hF.old t lt (Ne.symm e1) fun e => (h.sv t e).2.1 rfl
  · exact hF.old b (h.ht.ltb h.nx.fresh hb).1 (h.tv b hb).2.1 fun e => (h.sv b e).2.2.2 hb
  · rw [hF.old wb lw (Ne.symm e2) fun e => (h.sv wb e).2.2.1 rfl, h.hw]
  · rcases hF.vn b hb with h1 | h1
    · exact h.sv b h1
    · refine ⟨by omega, by omega, by omega, fun e => ?_⟩
      have := (h.ht.ltb h.nx.fresh e).1
      omega
theorem WkS.ont (h : WkS m M s t wb v vt L Lt W) (hF : FrS M M' t vt v') (hS : SAt M' t v' L') : WkS m M' s t wb v v' L L' W := by
  obtain ⟨e1, e2, e3, e4, e5, e6⟩ := h.ne
  have lw := h.nx.fresh.lt h.hw
  have lt := h.ht.lt h.nx.fresh
  have ls := h.hs.lt h.nx.fresh
  have n1 := h.nx.next
  refine ⟨⟨Nat.le_trans h.nx.next hF.next, hF.fresh, fun y hy => ?_⟩, h.hs.keep ?_ fun b hb => ?_, hS, ?_, h.ne, fun b hb => ?_, fun b hb => ?_⟩
  · rw [hF.old y (by omega) (by omega) (fun e => by have := (h.tv y e).1; omega), h.nx.old y hy]
  · exact hF.old s ls e1 fun e => (h.tv s e).2.1 rfl
  · exact hF.old b (h.hs.ltb h.nx.fresh hb).1 (h.sv b hb).2.1 (h.sv b hb).2.2.2
  · rw [hF.old wb lw (Ne.symm e3) fun e => (h.tv wb e).2.2 rfl, h.hw]
  · obtain ⟨q1, q2, q3, q4⟩ := h.sv b hb
    refine ⟨q1, q2, q3, fun e => ?_⟩
    have := (h.hs.ltb h.nx.fresh hb).1
    rcases hF.vn b e with h1 | h1
    · exact q4 h1
    · omega
  · rcases hF.vn b hb with h1 | h1
    · exact h.tv b h1
    · exact ⟨by omega, by omega, by omega⟩
theorem WkS.onw (h : WkS m M s t wb v vt L Lt W) : WkS m (M.put wb (.map (ml In W') true)) s t wb v vt L Lt W' := by
  obtain ⟨e1, e2, e3, e4, e5, e6⟩ := h.ne
  have lw := h.nx.fresh.lt h.hw
  have n1 := h.nx.next
  refine ⟨⟨by rw [Mem.next_put]; exact n1, Fresh.of_low (by rw [Mem.next_put]; exact h.nx.fresh.n64) (by rw [Mem.next_put]; exact Low.put h.nx.fresh.none lw), fun y hy => ?_⟩, h.hs.keep ?_ fun b hb => ?_, h.ht.keep ?_ fun b hb => ?_, by rw [Mem.get_put, if_pos rfl], h.ne, h.sv, h.tv⟩
  · rw [Mem.get_put, if_neg (by omega), h.nx.old y hy]
  · rw [Mem.get_put, if_neg e2]
  · rw [Mem.get_put, if_neg (h.sv b hb).2.2.1]
  · rw [Mem.get_put, if_neg e3]
  · rw [Mem.get_put, if_neg (h.tv b hb).2.2]
theorem WkS.raw (h : WkS m M s t wb v vt L Lt W) : RawE m M (.bool true) fun u _ => u = .bool true := RawE.of h.nx.next fun y hy => h.nx.old y hy
theorem z3 : zeroOf EE.P 3 = some (.int .i64 0) := by kernel_rfl
theorem lkw_at {b : Nat} {k : Int} {ok : Bool} : lookupA EE.P 28 (.map (some b)) (.int .i64 k) ok m = lupC (.int .i64) (.int .i64 0) (.int .i64 k) ok (m.get b) := lookup_at und_28 und_3 z3 rfl
theorem msw_at {b : Nat} {k : Int} {x : Value} : mapSetA EE.P 28 (.map (some b)) (.int .i64 k) x m = msC (.int .i64) (.int .i64 k) x b m (m.get b) := mapSet_at und_28 und_3
theorem msI {b : Nat} {k x : Int} : msC (.int .i64) (.int .i64 k) (.int .i64 x) b m (some (.map (ml In W) true)) = some (m.put b (.map (ml In (mset W k x)) true)) := msC_ml (f := In)
theorem getD_In {o : Option Int} : (o.map In).getD (.int .i64 0) = In (o.getD 0) := by cases o <;> rfl
def lenM (o : Option AObj) : Option Value := match o with
  | some (.map es _) => some (.int .i64 es.length)
  | _ => none
theorem lenw_at {b : Nat} : lenA EE.P 28 (.map (some b)) m = lenM (m.get b) := by
  unfold lenA lenM
  rw [und_28]
  rfl
theorem lenM_ml {w : Bool} : lenM (some (.map (ml In W) w)) = some (In W.length) := by
  unfold lenM ml
  simp
theorem idxA0 {b o : Nat} : idxV EE.P 29 (.pointer (some ⟨b, o, none⟩)) (.int .i64 0) = some (.pointer (some ⟨b, o, none⟩)) := by
  rw [idxV_arr und_29 sz_5 (by omega) (by decide)]; rfl
theorem idxA1 {b o : Nat} : idxV EE.P 29 (.pointer (some ⟨b, o, none⟩)) (.int .i64 1) = some (.pointer (some ⟨b, o + 1, none⟩)) := by
  rw [idxV_arr und_29 sz_5 (by omega) (by decide)]; rfl
end
end
end Go.Ab
/- SleepWakes: whatever the sleepers, it answers true. -/
namespace Go.Ab
open Go.Proofs
noncomputable section
set_option maxHeartbeats 8000000
set_option maxRecDepth 10000
section
variable {m : Mem} {l : Value} {n : Nat}
theorem wakes_ok (hm : Fresh m) (hl : Ops2 m l n) : ∃ m', Con EE.P 3 [l] m (.bool true) m' := by
  refine Con.raw1 EE_ok fn3 (Nat.le_of_ble_eq_true rfl) ?_
  obtain ⟨aa, C, rfl, hl2⟩ := id hl
  have hlen : ∀ M, lenA EE.P 22 (.slice aa n C) M = some (In n) := fun M => len_slice und_22
  simp only [f3, enumV, w3, W_seq, w3_0, Nat.le_refl, X_assign, ev_const, Nat.reduceLT, T_set, X_nil, thenQ_normal, w3_1, Mem.next_bump, Nat.le_add_right, bump_bump, Nat.reduceAdd, X_call ca_8, List.map_nil, true_and]
  refine CallI.con0 alive_ok ?_
  by_cases hn : 50 < n
  · have hx : ((50 : Int) < (n : Int)) = True := eq_true (by omega)
    simp only [putT, Nat.reduceLT, T_set, X_assign, ev_T, lk_cons, Nat.reduceEqDiff, if_false, if_true, X_nil, thenQ_normal, W_seq, w3_2, Mem.next_bump, Nat.le_add_right, bump_bump, Nat.reduceAdd, X_move, X_len EE_sym, len_slice und_22, okI_some, X_bin EE_sym (op := .gtr) rfl, ev_const, bin_gtr, hx, decide_true, X_guard EE_sym, T_get, GDi_tf, X_pick EE_sym, pickV_bool, W_cond, CDi_t, w3_4, w3_3, W_ret, thenQ_ret, FinX_ret, resA_tmp, resA_nil, Option.map_some, oneOr1, true_and]
    exact RawE.of (by simp only [Mem.next_bump]; omega) fun y hy => rfl
  have hx : ((50 : Int) < (n : Int)) = False := eq_false (by omega)
  simp only [putT, Nat.reduceLT, T_set, X_assign, ev_T, lk_cons, Nat.reduceEqDiff, if_false, if_true, X_nil, thenQ_normal, W_seq, w3_2, Mem.next_bump, Nat.le_add_right, bump_bump, Nat.reduceAdd, X_move, X_len EE_sym, len_slice und_22, okI_some, X_bin EE_sym (op := .gtr) rfl, ev_const, bin_gtr, hx, decide_false, X_guard EE_sym, T_get, GDi_ff, X_un EE_sym, un_not, Bool.not_true, X_pick EE_sym, pickV_bool, Bool.false_eq_true, W_cond, CDi_f, W_skip, w3_5, X_build EE_sym, List.map_nil, bld27, X_box, box_agg, Nat.add_assoc, put_bump, w3_6, Mem.next_put, X_makeMap, Nat.add_zero, w3_7, W_block, w3_17, true_and]
  have hl3 : ∃ fa fb : Nat → Nat, ∀ i, i < n → ∃ B cs w z, aa = some ⟨B, 0, none⟩ ∧ m.get B = some (.cells cs w z) ∧ fa i < 256 ∧ fb i < 256 ∧ cs.sub (i * 2) 2 = some [.int .u8 (fa i : Int), .int .u8 (fb i : Int)] := by
    rcases hl2 with h | ⟨B, cs, w, z, h1, h2, fa, fb, h3⟩
    · exact ⟨fun _ => 0, fun _ => 0, fun i hi => by omega⟩
    · exact ⟨fa, fb, fun i hi => ⟨B, cs, w, z, h1, h2, h3 i hi⟩⟩
  obtain ⟨fa, fb, hf⟩ := hl3
  obtain ⟨s, hsd⟩ : ∃ s, s = m.next + 11 := ⟨_, rfl⟩
  obtain ⟨t, htd⟩ : ∃ t, t = m.next + 13 := ⟨_, rfl⟩
  obtain ⟨wb, hwd⟩ : ∃ wb, wb = m.next + 16 := ⟨_, rfl⟩
  refine WX.loop_of (fun x tt M => ∃ (i : Nat) (v : Value) (L : SL), i ≤ n ∧ x = n - i ∧ tt = T 138 [(32, In i), (31, In n), (6, .map (some wb)), (5, PT t), (4, PT s), (3, .bool true), (0, .slice aa n C)] ∧ WkS m M s t wb v (.map none) L [] (wantL L) ∧ Gd L i ∧ (∀ p x, mget L p = some x → x.toNat ≤ 60) ∧ (∀ j, j < i → (1 + (fa j : Int)) ∈ mkeys L) ∧ ∀ p ∈ mkeys L, ∃ j, j < i ∧ (1 + (fa j : Int)) = p) ?_ (k := n) (t1 := T 138 [(32, In (0 : Nat)), (31, In n), (6, .map (some wb)), (5, PT t), (4, PT s), (3, .bool true), (0, .slice aa n C)]) (View.temps ⟨rfl, rfl, by rw [hwd]; rfl, by rw [htd]; rfl, by rw [hsd]; rfl, rfl, rfl, trivial⟩) ⟨0, .map none, [], by omega, rfl, rfl, ?_, Gd.nil, fun p x h => (by cases h), fun j hj => absurd hj (Nat.not_lt_zero _), fun p hp => (by cases hp)⟩
  · rintro x tt M ⟨i, v, L, hi, rfl, rfl, hS, hG, hB, hin, hof⟩
    have hnx := hS.nx.next
    by_cases hi2 : i < n
    · have g1 : (i : Int) < (n : Int) := by omega
      have g2 : (0 : Int) ≤ i := by omega
      obtain ⟨B, cs, ww, z, rfl, e1, e2, e3, e4⟩ := hf i hi2
      have e5 : M.get B = some (.cells cs ww z) := hS.nx.keep hm e1
      have e6 : cs.nth (i * 2) = some (.int .u8 (fa i : Int)) := sub_nth (j := 0) e4 (by decide) rfl
      have e7 : cs.nth (i * 2 + 1) = some (.int .u8 (fb i : Int)) := sub_nth e4 (by decide) rfl
      have hw : IntKind.i64.wrap ((i : Int) + 1) = ((i + 1 : Nat) : Int) := by rw [wrap_i64 (by omega) (by omega)]; omega
      have w1 : IntKind.i64.wrap (fa i : Int) = (fa i : Int) := wrap_i64 (by omega) (by omega)
      have w2 : IntKind.i64.wrap (1 + (fa i : Int)) = 1 + (fa i : Int) := wrap_i64 (by omega) (by omega)
      have w3 : IntKind.u32.wrap (fb i : Int) = (fb i : Int) := wrapu (by omega) (by omega)
      have w4 : ((fb i : Int)).tmod 60 = ((fb i % 60 : Nat) : Int) := by rw [Int.tmod_eq_emod_of_nonneg (by omega)]; omega
      obtain ⟨nx, hnxd⟩ : ∃ nx : BitVec 32, nx = BitVec.ofNat 32 (1 + fb i % 60) := ⟨_, rfl⟩
      have hnt : nx.toNat = 1 + fb i % 60 := by rw [hnxd, BitVec.toNat_ofNat]; omega
      have w5 : IntKind.u32.wrap (1 + ((fb i % 60 : Nat) : Int)) = (nx.toNat : Int) := by rw [wrapu (by omega) (by omega), hnt]; omega
      have w6 : IntKind.i64.wrap (nx.toNat : Int) = (nx.toNat : Int) := wrap_i64 (by omega) (by omega)
      simp only [w3_16, W_seq, w3_8, hnx, X_bin EE_sym (op := .lss) rfl, Nat.reduceLT, ev_T, lk_cons, Nat.reduceEqDiff, if_false, if_true, bin_lss, g1, decide_true, okI_some, T_set, X_nil, thenQ_normal, W_cond, CDi_t, W_skip, W_block, w3_14, w3_9, Mem.next_bump, Nat.le_add_right_of_le, bump_bump, Nat.reduceAdd, X_move, X_assign, w3_10, X_indexAddr EE_sym, g2, idxV_slice und_22 sz_29, Int.toNat_natCast, Nat.zero_add, ev_const, idxA0, X_load EE_sym, load1 lay_5, Mem.get_bump, e5, ld1_cells, e6, X_convert EE_sym, conv_int und_3 und_5, w1, X_bin EE_sym (op := .add) rfl, bin_add, w2, idxA1, e7, conv_int und_30 und_5, w3, X_bin EE_sym (op := .rem) rfl, bin_rem (b := 60) (by decide), w4, w5, w3_11, X_call ca_9, List.map_cons, List.map_nil, true_and]
      refine CallI.ex2 (add_ok (hS.hs.bump _) hS.nx.fresh.bump) fun u M2 h => ?_
      obtain ⟨rfl, v', hS', hF'⟩ := h
      have hS2 := hS.ons hF'.of_bump hS'
      have n2 := hS2.nx.next
      have hp : (Lit.int .i64 (1 + (fa i : Int))).wf = true := by
        simp [Lit.wf, IntKind.min, IntKind.max, IntKind.signed, IntKind.bits]
        omega
      have hx0 : nx ≠ 0#32 := fun e => by rw [e] at hnt; simp at hnt; omega
      have hnp : ¬ ((1 + (fa i : Int)) < 1 ∨ nx = 0#32) := by rintro (h | h); omega; exact hx0 h
      by_cases hpr : (mget L (1 + (fa i : Int))).isSome = true
      · have a1 : addE L (1 + (fa i : Int)) nx = 140 := by unfold addE; rw [if_neg hnp, if_pos hpr]
        have a2 : addL L (1 + (fa i : Int)) nx = L := by unfold addL; rw [a1]; rfl
        rw [a2] at hS2
        rw [a1]
        simp only [putT, Nat.reduceLT, T_set, X_eql EE_sym, ev_T, lk_cons, Nat.reduceEqDiff, if_false, if_true, ev_const, eq_int, Int.reduceEq, decide_false, okI_some, X_nil, thenQ_normal, W_cond, CDi_f, W_skip, blockQ_normal, w3_15, n2, X_bin EE_sym (op := .add) rfl, bin_add, hw, X_move, roundQ_normal, true_and]
        refine ⟨n - (i + 1), _, _, by omega, View.temps (l' := [(32, In ((i + 1 : Nat) : Int)), (31, In n), (6, .map (some wb)), (5, PT t), (4, PT s), (3, .bool true), (0, .slice (some ⟨B, 0, none⟩) n C)]) ⟨rfl, rfl, rfl, rfl, rfl, rfl, rfl, trivial⟩, i + 1, v', L, by omega, rfl, rfl, hS2.bump _, hG.mono (by omega), hB, fun j hj => ?_, fun p hp => ?_⟩
        · by_cases e : j = i
          · rw [e]; exact mem_keys.2 hpr
          · exact hin j (by omega)
        · obtain ⟨j, h1, h2⟩ := hof p hp
          exact ⟨j, by omega, h2⟩
      · have a1 : addE L (1 + (fa i : Int)) nx = 0 := by unfold addE; rw [if_neg hnp, if_neg hpr]
        have a2 : addL L (1 + (fa i : Int)) nx = mset L (1 + (fa i : Int)) nx := by unfold addL; rw [a1]; rfl
        rw [a2] at hS2
        rw [a1]
        have hwm := hS2.hw
        simp only [putT, Nat.reduceLT, T_set, X_eql EE_sym, ev_T, lk_cons, Nat.reduceEqDiff, if_false, if_true, ev_const, eq_int, decide_true, okI_some, X_nil, thenQ_normal, W_cond, CDi_t, w3_13, w3_12, n2, X_move, X_convert EE_sym, conv_int und_3 und_30, w6, X_mapUpdate, msw_at, Mem.get_bump, hwm, msI, put_bump, blockQ_normal, w3_15, Mem.next_bump, Mem.next_put, Nat.le_add_right_of_le, bump_bump, Nat.reduceAdd, X_bin EE_sym (op := .add) rfl, bin_add, hw, roundQ_normal, true_and]
        refine ⟨n - (i + 1), _, _, by omega, View.temps (l' := [(32, In ((i + 1 : Nat) : Int)), (31, In n), (6, .map (some wb)), (5, PT t), (4, PT s), (3, .bool true), (0, .slice (some ⟨B, 0, none⟩) n C)]) ⟨rfl, rfl, rfl, rfl, rfl, rfl, rfl, trivial⟩, i + 1, v', mset L (1 + (fa i : Int)) nx, by omega, rfl, rfl, ?_, hG.set hp hx0, fun p x hx => ?_, fun j hj => ?_, fun p hp => ?_⟩
        · rw [want_set]
          exact hS2.onw.bump _
        · rw [mget_set] at hx
          split at hx
          · cases hx; omega
          · exact hB p x hx
        · rw [keys_set, if_neg fun h => hpr (mem_keys.1 h)]
          by_cases e : j = i
          · rw [e]; simp
          · exact List.mem_append_left _ (hin j (by omega))
        · rcases keys_set_sub hp with rfl | hp
          · exact ⟨i, by omega, rfl⟩
          · obtain ⟨j, h1, h2⟩ := hof p hp
            exact ⟨j, by omega, h2⟩
    · obtain rfl : i = n := by omega
      have q1 : ¬ (i : Int) < (i : Int) := by omega
      have hi50 : i ≤ 50 := by omega
      have hw0 : IntKind.i64.wrap ((i : Int) - 1) = (i : Int) - 1 := wrap_i64 (by omega) (by omega)
      simp only [w3_16, W_seq, w3_8, hnx, X_bin EE_sym (op := .lss) rfl, Nat.reduceLT, ev_T, lk_cons, Nat.reduceEqDiff, if_false, if_true, bin_lss, q1, decide_false, okI_some, T_set, X_nil, thenQ_normal, W_cond, CDi_f, W_exit, thenQ_exit, roundQ_exit, blockQ_exit, w3_18, Mem.next_bump, Nat.le_add_right_of_le, bump_bump, Nat.reduceAdd, X_move, X_len EE_sym, len_slice und_22, X_bin EE_sym (op := .sub) rfl, ev_const, bin_sub, hw0, X_assign, W_block, w3_25, true_and]
      refine WX.loop_of (fun x tt M => ∃ (j : Nat) (vt : Value) (Lt : SL), j ≤ i ∧ j = x ∧ tt = T 138 [(10, In ((j : Int) - 1)), (6, .map (some wb)), (5, PT t), (4, PT s), (3, .bool true), (0, .slice aa i C)] ∧ WkS m M s t wb v vt L Lt (wantL L) ∧ Gd Lt (i - j) ∧ (∀ p x, mget Lt p = some x → mget L p = some x) ∧ ∀ k, j ≤ k → k < i → (1 + (fa k : Int)) ∈ mkeys Lt) ?_ (k := i) (t1 := T 138 [(10, In ((i : Int) - 1)), (6, .map (some wb)), (5, PT t), (4, PT s), (3, .bool true), (0, .slice aa i C)]) (View.temps ⟨rfl, rfl, rfl, rfl, rfl, rfl, trivial⟩) ⟨i, .map none, [], by omega, rfl, rfl, hS.bump _, Gd.nil, fun p x h => (by cases h), fun k h1 h2 => by omega⟩
      rintro x tt M1 ⟨j, vt, Lt, hj, rfl, rfl, hS1, hG1, hsub, hin1⟩
      have n3 := hS1.nx.next
      by_cases hj0 : j = 0
      · have q2 : ¬ (0 : Int) ≤ (j : Int) - 1 := by omega
        simp only [w3_24, W_seq, w3_19, n3, X_move, Nat.reduceLT, ev_T, lk_cons, Nat.reduceEqDiff, if_false, if_true, T_set, X_bin EE_sym (op := .geq) rfl, ev_const, bin_geq, q2, decide_false, okI_some, X_nil, thenQ_normal, W_cond, CDi_f, W_exit, thenQ_exit, roundQ_exit, blockQ_exit, w3_26, Mem.next_bump, Nat.le_add_right_of_le, bump_bump, Nat.reduceAdd, X_call ca_11, List.map_cons, List.map_nil, true_and]
        subst hj0
        have hsame : ∀ q, mget L q = mget Lt q := fun q => by
          cases hg : mget L q with
          | none =>
            cases hg2 : mget Lt q with
            | none => rfl
            | some y => rw [hsub q y hg2] at hg; cases hg
          | some x =>
            obtain ⟨j, h1, h2⟩ := hof q (mem_keys.2 (by rw [hg]; rfl))
            have := mem_keys.1 (hin1 j (by omega) h1)
            rw [h2] at this
            cases hg2 : mget Lt q with
            | none => rw [hg2] at this; cases this
            | some y => rw [hsub q y hg2] at hg; exact hg.symm
        obtain ⟨hll, htop⟩ := top_same hG.nd hG1.nd hsame
        have hst : ¬ s = t := hS1.ne.1
        have hLl := hG.len
        refine CallI.ex2 (all_ok (hS1.hs.bump _) hS1.nx.fresh.bump hG.wf (by omega)) fun u1 M2 hA1 => ?_
        have hA1 := hA1.of_bump
        have hS2 := hS1.onnx hA1.nx
        have n4 := hS2.nx.next
        have n4' := hA1.nx.next
        simp only [putT, Nat.reduceLT, T_set, X_move, ev_T, lk_cons, Nat.reduceEqDiff, if_false, if_true, X_call ca_11, List.map_cons, List.map_nil]
        refine CallI.ex2L (all_ok hS2.ht hS2.nx.fresh hG1.wf (by omega)) (by simp [hst]) fun u2 M3 hA2 => ?_
        have hS3 := hS2.onnx hA2.nx
        have n5 := hS3.nx.next
        have n5' := hA2.nx.next
        have s1 : SlV M3 2 u1 (topL L L.length).length (pl (topL L L.length)) := by rw [topL_len]; exact hA1.sl.nx hA1.nx.fresh hA2.nx
        have s2 : SlV M3 2 u2 (topL L L.length).length (pl (topL L L.length)) := by rw [topL_len, htop, hll]; exact hA2.sl
        simp only [putT, Nat.reduceLT, T_set, X_call ca_10, List.map_cons, ev_T, lk_cons, Nat.reduceEqDiff, if_false, if_true, List.map_nil]
        refine CallI.con (same_p s1 s2 (fun k hk => by
          rw [topL_len] at hk
          rw [topL_getD hk]
          exact wfL_keys.1 hG.wf _ (keyI_mem hk)) (by rw [topL_len]; omega)) (by simp) ?_
        simp only [putT, Nat.reduceLT, T_set, X_un EE_sym, ev_T, lk_cons, Nat.reduceEqDiff, if_false, if_true, un_not, Bool.not_true, okI_some, X_nil, thenQ_normal, W_cond, CDi_f, W_skip, W_seq, w3_29, n5, X_assign, ev_const, w3_30, Mem.next_bump, Nat.le_add_right_of_le, bump_bump, Nat.reduceAdd, W_block, w3_47, true_and]
        refine WX.loop_of (fun x tt M => ∃ (nn cnt : Nat), 1 ≤ nn ∧ nn ≤ 61 ∧ x = 61 - nn ∧ tt = T 138 [(13, In nn), (12, In cnt), (6, .map (some wb)), (4, PT s), (3, .bool true)] ∧ WkS m M s t wb v vt (tickN L (nn - 1)) Lt (wantL L) ∧ cnt + (tickN L (nn - 1)).length = L.length) ?_ (k := 60) (t1 := T 138 [(13, In (1 : Nat)), (12, In (0 : Nat)), (6, .map (some wb)), (4, PT s), (3, .bool true)]) (View.temps ⟨rfl, rfl, rfl, rfl, rfl, trivial⟩) ⟨1, 0, by omega, by omega, rfl, rfl, hS3.bump _, by rw [Nat.zero_add]; rfl⟩
        clear s1 s2 hA1 hA2 hS2 n4 n4' n5 n5' hS1 n3 hnx hS hS3
        rintro x tt M4 ⟨nn, cnt, hn1, hn2, rfl, rfl, hS4, hcnt⟩
        have n6 := hS4.nx.next
        by_cases hn60 : nn ≤ 60
        · obtain ⟨n0, rfl⟩ : ∃ n0, nn = n0 + 1 := ⟨nn - 1, by omega⟩
          rw [Nat.add_sub_cancel] at hS4 hcnt
          have g1 : (((n0 + 1 : Nat) : Int) ≤ 60) = True := eq_true (by omega)
          have hGn := hG.tickN (n := n0)
          simp only [w3_46, W_seq, w3_31, n6, X_move, Nat.reduceLT, ev_T, lk_cons, Nat.reduceEqDiff, if_false, if_true, T_set, X_bin EE_sym (op := .leq) rfl, ev_const, bin_leq, g1, decide_true, okI_some, X_nil, thenQ_normal, W_cond, CDi_t, W_skip, W_block, w3_44, w3_32, Mem.next_bump, Nat.le_add_right_of_le, bump_bump, Nat.reduceAdd, X_call ca_12, List.map_cons, List.map_nil, true_and]
          refine CallI.ex2 (tick_ok (hS4.hs.bump _) hS4.nx.fresh.bump hGn.wf hGn.nd (by have := hGn.len; omega)) fun u M5 h => ?_
          obtain ⟨hsu, _, hS', hF'⟩ := h
          have hS5 : WkS m M5 s t wb v vt (tickN L (n0 + 1)) Lt (wantL L) := hS4.ons hF'.of_bump hS'
          have n7 := hS5.nx.next
          have hwm := hS5.hw
          have htl := tickN_len hG (n := n0)
          obtain ⟨WL, hWL⟩ : ∃ WL, WL = wakeL (tickN L n0) := ⟨_, rfl⟩
          have hsu : SlV M5 1 u WL.length (il WL) := by rw [hWL]; exact hsu
          rw [← hWL] at htl
          have hlu : ∀ M, lenA EE.P 36 u M = some (In WL.length) := fun M => hsu.lenA und_36
          simp only [putT, Nat.reduceLT, T_set, X_assign, ev_T, lk_cons, Nat.reduceEqDiff, if_false, if_true, X_nil, thenQ_normal, W_seq, w3_33, n7, X_move, X_len EE_sym, hlu, okI_some, ev_const, W_block, w3_43, true_and]
          refine WX.loop_of (fun x tt M => ∃ k j : Nat, k ≤ WL.length ∧ x = WL.length - k ∧ tt = T 138 [(95, In k), (94, In WL.length), (14, u), (13, In ((n0 + 1 : Nat) : Int)), (12, In ((cnt + k : Nat) : Int)), (6, .map (some wb)), (4, PT s), (3, .bool true)] ∧ M = M5.bump j) ?_ (k := WL.length) (t1 := T 138 [(95, In (0 : Nat)), (94, In WL.length), (14, u), (13, In ((n0 + 1 : Nat) : Int)), (12, In ((cnt + 0 : Nat) : Int)), (6, .map (some wb)), (4, PT s), (3, .bool true)]) (View.temps ⟨rfl, rfl, rfl, rfl, rfl, rfl, rfl, rfl, trivial⟩) ⟨0, _, by omega, rfl, rfl, rfl⟩
          rintro x tt M ⟨k, j, hk, rfl, rfl, rfl⟩
          by_cases hk2 : k < WL.length
          · have r1 : (k : Int) < (WL.length : Int) := by omega
            have r2 : (0 : Int) ≤ k := by omega
            have hw : IntKind.i64.wrap ((k : Int) + 1) = ((k + 1 : Nat) : Int) := by rw [wrap_i64 (by omega) (by omega)]; omega
            have hw2 : IntKind.i64.wrap (((cnt + k : Nat) : Int) + 1) = ((cnt + (k + 1) : Nat) : Int) := by rw [wrap_i64 (by omega) (by omega)]; omega
            obtain ⟨B, c, cB, rfl, i1, i2, i3, i4⟩ := hsu.cons (by omega)
            have q3 : cB.nth k = some (In (WL.getD k 0)) := by rw [nth_lt (by omega), i4 k (by rw [il_len]; exact hk2), il_getD hk2]
            have hmem : WL.getD k 0 ∈ wakeL (tickN L n0) := by
              rw [← hWL, List.getD_eq_getElem?_getD, List.getElem?_eq_getElem hk2]
              exact List.getElem_mem hk2
            have hwq := wake_want hG hmem
            by_cases hz : k = 0
            · have z1 : ((0 : Int) < (k : Int)) = False := eq_false (by omega)
              simp only [w3_42, W_seq, w3_34, Mem.next_bump, n7, Nat.le_add_right_of_le, bump_bump, X_bin EE_sym (op := .lss) rfl, Nat.reduceLT, ev_T, lk_cons, Nat.reduceEqDiff, if_false, if_true, bin_lss, r1, decide_true, okI_some, T_set, X_nil, thenQ_normal, W_cond, CDi_t, W_skip, W_block, w3_40, w3_35, Nat.add_assoc, Nat.reduceAdd, X_move, X_assign, w3_36, X_indexAddr EE_sym, r2, idxV_slice und_36 sz_3, Int.toNat_natCast, Nat.mul_one, Nat.zero_add, X_load EE_sym, load1 lay_3, Mem.get_bump, i1, ld1_cells, q3, X_lookup EE_sym, lkw_at, hwm, lupC_f, hwq, Option.map_some, Option.getD_some, X_neq EE_sym, neq_int, Bool.not_true, X_guard EE_sym, T_get, GDi_ff, X_bin EE_sym (op := .gtr) rfl, ev_const, bin_gtr, z1, decide_false, GDi_ft, putT, X_pick EE_sym, pickV_bool, Bool.false_eq_true, CDi_f, w3_39, X_bin EE_sym (op := .add) rfl, bin_add, hw2, blockQ_normal, w3_41, hw, roundQ_normal, true_and]
              exact ⟨WL.length - (k + 1), _, _, by omega, View.temps (l' := [(95, In ((k + 1 : Nat) : Int)), (94, In WL.length), (14, .slice (some ⟨B, 0, none⟩) WL.length c), (13, In ((n0 + 1 : Nat) : Int)), (12, In ((cnt + (k + 1) : Nat) : Int)), (6, .map (some wb)), (4, PT s), (3, .bool true)]) ⟨rfl, rfl, rfl, rfl, rfl, rfl, rfl, rfl, trivial⟩, k + 1, _, by omega, rfl, rfl, rfl⟩
            · have z1 : ((0 : Int) < (k : Int)) = True := eq_true (by omega)
              have z2 : IntKind.i64.wrap ((k : Int) - 1) = ((k - 1 : Nat) : Int) := by rw [wrap_i64 (by omega) (by omega)]; omega
              have z3 : (0 : Int) ≤ ((k - 1 : Nat) : Int) := by omega
              have z4 : ((k - 1 : Nat) : Int) < (WL.length : Int) := by omega
              have z5 : cB.nth (k - 1) = some (In (WL.getD (k - 1) 0)) := by rw [nth_lt (by omega), i4 (k - 1) (by rw [il_len]; omega), il_getD (by omega)]
              have z6 : decide (WL.getD k 0 ≤ WL.getD (k - 1) 0) = false := decide_eq_false (by
                have := wake_rise hGn.nd (k := k - 1) (by rw [← hWL]; omega)
                rw [← hWL, show k - 1 + 1 = k by omega] at this
                omega)
              simp only [w3_42, W_seq, w3_34, Mem.next_bump, n7, Nat.le_add_right_of_le, bump_bump, X_bin EE_sym (op := .lss) rfl, Nat.reduceLT, ev_T, lk_cons, Nat.reduceEqDiff, if_false, if_true, bin_lss, r1, decide_true, okI_some, T_set, X_nil, thenQ_normal, W_cond, CDi_t, W_skip, W_block, w3_40, w3_35, Nat.add_assoc, Nat.reduceAdd, X_move, X_assign, w3_36, X_indexAddr EE_sym, r2, idxV_slice und_36 sz_3, Int.toNat_natCast, Nat.mul_one, Nat.zero_add, X_load EE_sym, load1 lay_3, Mem.get_bump, i1, ld1_cells, q3, X_lookup EE_sym, lkw_at, hwm, lupC_f, hwq, Option.map_some, Option.getD_some, X_neq EE_sym, neq_int, Bool.not_true, X_guard EE_sym, T_get, GDi_ff, X_bin EE_sym (op := .gtr) rfl, ev_const, bin_gtr, z1, GDi_tt, X_bin EE_sym (op := .sub) rfl, bin_sub, z2, z3, z4, z5, X_bin EE_sym (op := .leq) rfl, bin_leq, z6, X_pick EE_sym, pickV_bool, Bool.false_eq_true, CDi_f, w3_39, X_bin EE_sym (op := .add) rfl, bin_add, hw2, blockQ_normal, w3_41, hw, roundQ_normal, true_and]
              exact ⟨WL.length - (k + 1), _, _, by omega, View.temps (l' := [(95, In ((k + 1 : Nat) : Int)), (94, In WL.length), (14, .slice (some ⟨B, 0, none⟩) WL.length c), (13, In ((n0 + 1 : Nat) : Int)), (12, In ((cnt + (k + 1) : Nat) : Int)), (6, .map (some wb)), (4, PT s), (3, .bool true)]) ⟨rfl, rfl, rfl, rfl, rfl, rfl, rfl, rfl, trivial⟩, k + 1, _, by omega, rfl, rfl, rfl⟩
          · obtain rfl : k = WL.length := by omega
            have r1 : ¬ (WL.length : Int) < (WL.length : Int) := by omega
            have hw : IntKind.i64.wrap (((n0 + 1 : Nat) : Int) + 1) = ((n0 + 1 + 1 : Nat) : Int) := by rw [wrap_i64 (by omega) (by omega)]; omega
            simp only [w3_42, W_seq, w3_34, Mem.next_bump, n7, Nat.le_add_right_of_le, bump_bump, X_bin EE_sym (op := .lss) rfl, Nat.reduceLT, ev_T, lk_cons, Nat.reduceEqDiff, if_false, if_true, bin_lss, r1, decide_false, okI_some, T_set, X_nil, thenQ_normal, W_cond, CDi_f, W_exit, thenQ_exit, roundQ_exit, blockQ_exit, blockQ_normal, w3_45, Nat.add_assoc, Nat.reduceAdd, X_move, X_bin EE_sym (op := .add) rfl, ev_const, bin_add, hw, X_assign, roundQ_normal, true_and]
            exact ⟨61 - (n0 + 1 + 1), _, _, by omega, View.temps (l' := [(13, In ((n0 + 1 + 1 : Nat) : Int)), (12, In ((cnt + WL.length : Nat) : Int)), (6, .map (some wb)), (4, PT s), (3, .bool true)]) ⟨rfl, rfl, rfl, rfl, rfl, trivial⟩, n0 + 1 + 1, cnt + WL.length, by omega, by omega, rfl, rfl, hS5.bump _, by rw [Nat.add_sub_cancel]; omega⟩
        · obtain rfl : nn = 61 := by omega
          have g1 : ((((61 : Nat) : Int)) ≤ 60) = False := by decide
          have hend : (tickN L (61 - 1)).length = 0 := tickN_end hG hB
          have hwm := hS4.hw
          have hc1 : decide ((cnt : Int) = ((wantL L).length : Int)) = true := decide_eq_true (by rw [want_len]; omega)
          have hGn := hG.tickN (n := 61 - 1)
          simp only [w3_46, W_seq, w3_31, n6, X_move, Nat.reduceLT, ev_T, lk_cons, Nat.reduceEqDiff, if_false, if_true, T_set, X_bin EE_sym (op := .leq) rfl, ev_const, bin_leq, g1, decide_false, okI_some, X_nil, Nat.reduceSub, thenQ_normal, W_cond, CDi_f, W_exit, thenQ_exit, roundQ_exit, blockQ_exit, w3_48, Mem.next_bump, Nat.le_add_right_of_le, bump_bump, Nat.reduceAdd, X_guard EE_sym, T_get, GDi_tt, X_len EE_sym, lenw_at, Mem.get_bump, hwm, lenM_ml, X_eql EE_sym, eq_int, hc1, X_pick EE_sym, pickV_bool, X_call ca_11, List.map_cons, List.map_nil, true_and]
          refine CallI.ex2 (all_ok (hS4.hs.bump _) hS4.nx.fresh.bump hGn.wf (by omega)) fun u M5 hA => ?_
          have hlu : ∀ M, lenA EE.P 34 u M = some (In 0) := fun M => by
            have := hA.sl.lenA (m := M) und_34
            rw [hend] at this
            exact this
          have hS5 := hS4.onnx hA.of_bump.nx
          have n7 := hS5.nx.next
          simp only [putT, Nat.reduceLT, T_set, X_guard EE_sym, T_get, lk_cons, Nat.reduceEqDiff, if_false, if_true, GDi_tt, X_len EE_sym, ev_T, hlu, okI_some, X_eql EE_sym, ev_const, eq_int, decide_true, X_pick EE_sym, pickV_bool, X_assign, X_nil, thenQ_normal, W_ret, FinX_ret, resA_tmp, resA_nil, Option.map_some, oneOr1]
          exact hS5.raw
      · obtain ⟨k, rfl⟩ : ∃ k, j = k + 1 := ⟨j - 1, by omega⟩
        have ek : ((k + 1 : Nat) : Int) - 1 = (k : Int) := by omega
        rw [ek]
        have g1 : (k : Int) < (i : Int) := by omega
        have g2 : (0 : Int) ≤ k := by omega
        obtain ⟨B, cs, ww, z, rfl, e1, e2, e3, e4⟩ := hf k (by omega)
        have e5 : M1.get B = some (.cells cs ww z) := hS1.nx.keep hm e1
        have e6 : cs.nth (k * 2) = some (.int .u8 (fa k : Int)) := sub_nth (j := 0) e4 (by decide) rfl
        have w1 : IntKind.i64.wrap (fa k : Int) = (fa k : Int) := wrap_i64 (by omega) (by omega)
        have w2 : IntKind.i64.wrap (1 + (fa k : Int)) = 1 + (fa k : Int) := wrap_i64 (by omega) (by omega)
        have w3 : IntKind.i64.wrap ((k : Int) - 1) = (k : Int) - 1 := wrap_i64 (by omega) (by omega)
        have hpm := hin k (by omega)
        obtain ⟨x, hx⟩ : ∃ x, mget L (1 + (fa k : Int)) = some x := by
          have := mem_keys.1 hpm
          cases hg : mget L (1 + (fa k : Int)) with
          | none => rw [hg] at this; cases this
          | some x => exact ⟨x, rfl⟩
        have hq : mget (wantL L) (1 + (fa k : Int)) = some (x.toNat : Int) := by rw [want_get, hx]; rfl
        have w4 : IntKind.u32.wrap (x.toNat : Int) = (x.toNat : Int) := wrapu (by omega) (by have := x.isLt; omega)
        have hwm := hS1.hw
        simp only [w3_24, W_seq, w3_19, n3, X_move, Nat.reduceLT, ev_T, lk_cons, Nat.reduceEqDiff, if_false, if_true, T_set, X_bin EE_sym (op := .geq) rfl, ev_const, bin_geq, g2, decide_true, okI_some, X_nil, thenQ_normal, W_cond, CDi_t, W_skip, W_block, w3_22, w3_20, Mem.next_bump, Nat.le_add_right_of_le, bump_bump, Nat.reduceAdd, X_indexAddr EE_sym, g1, idxV_slice und_22 sz_29, Int.toNat_natCast, Nat.zero_add, idxA0, X_load EE_sym, load1 lay_5, Mem.get_bump, e5, ld1_cells, e6, X_convert EE_sym, conv_int und_3 und_5, w1, X_bin EE_sym (op := .add) rfl, bin_add, w2, X_assign, w3_21, X_lookup EE_sym, lkw_at, hwm, lupC_f, hq, Option.map_some, Option.getD_some, conv_int und_30 und_3, w4, X_call ca_9, List.map_cons, List.map_nil, true_and]
        refine CallI.ex2 (add_ok (hS1.ht.bump _) hS1.nx.fresh.bump) fun u M2 h => ?_
        obtain ⟨rfl, v', hS', hF'⟩ := h
        have hS2 := hS1.ont hF'.of_bump hS'
        have n2 := hS2.nx.next
        have hp : (Lit.int .i64 (1 + (fa k : Int))).wf = true := by
          simp [Lit.wf, IntKind.min, IntKind.max, IntKind.signed, IntKind.bits]
          omega
        have hx0 := hG.nz _ _ hx
        have hnp : ¬ ((1 + (fa k : Int)) < 1 ∨ x = 0#32) := by rintro (h | h); omega; exact hx0 h
        simp only [putT, Nat.reduceLT, T_set, X_nil, blockQ_normal, thenQ_normal, w3_23, n2, X_move, ev_T, lk_cons, Nat.reduceEqDiff, if_false, if_true, X_bin EE_sym (op := .sub) rfl, ev_const, bin_sub, w3, okI_some, X_assign, roundQ_normal, true_and]
        refine ⟨k, _, _, by omega, View.temps (l' := [(10, In ((k : Int) - 1)), (6, .map (some wb)), (5, PT t), (4, PT s), (3, .bool true), (0, .slice (some ⟨B, 0, none⟩) i C)]) ⟨rfl, rfl, rfl, rfl, rfl, rfl, trivial⟩, k, v', addL Lt (1 + (fa k : Int)) x, by omega, rfl, rfl, hS2.bump _, (hG1.add hp).mono (by omega), fun p y hy => ?_, fun k' h1 h2 => ?_⟩
        · unfold addL at hy
          split at hy
          · rw [mget_set] at hy
            split at hy
            · rename_i e; cases hy; rw [e]; exact hx
            · exact hsub p y hy
          · exact hsub p y hy
        · unfold addL
          by_cases e : k' = k
          · rw [e]
            split
            · rw [mem_keys, mget_set, if_pos rfl]; rfl
            · rename_i he
              unfold addE at he
              rw [if_neg hnp] at he
              split at he
              · rename_i hs; exact mem_keys.2 hs
              · exact absurd rfl he
          · have := hin1 k' (by omega) h2
            split
            · rw [mem_keys, mget_set]
              split
              · rfl
              · exact mem_keys.1 this
            · exact this
  · rw [hsd, htd, hwd]
    refine ⟨⟨by (try simp only [Mem.next_bump, Mem.next_put]); omega, Fresh.of_low (by have := hm.n64; (try simp only [Mem.next_bump, Mem.next_put]); omega) (by repeat (first | exact Low.of hm (by (try simp only [Mem.next_bump, Mem.next_put]); omega) | refine Low.put ?_ (by (try simp only [Mem.next_bump, Mem.next_put]); omega) | refine Low.bump ?_)), fun y hy => by simp only [Mem.get_bump, Mem.get_put, ne_new hy, if_false]⟩, ⟨⟨_, by simp only [Mem.get_bump, Mem.get_put, Nat.add_left_cancel_iff, Nat.reduceEqDiff, if_false, if_true]; rfl, rfl, rfl⟩, .inl ⟨rfl, rfl⟩⟩, ⟨⟨_, by simp only [Mem.get_bump, Mem.get_put, Nat.add_left_cancel_iff, Nat.reduceEqDiff, if_false, if_true]; rfl, rfl, rfl⟩, .inl ⟨rfl, rfl⟩⟩, by simp only [Mem.get_bump, Mem.get_put, if_true]; rfl, ⟨by omega, by omega, by omega, by omega, by omega, by omega⟩, fun b hb => (by cases hb), fun b hb => (by cases hb)⟩
end
end
end Go.Ab
