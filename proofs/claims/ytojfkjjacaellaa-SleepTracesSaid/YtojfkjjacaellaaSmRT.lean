/- Sleep: Copy; two sleepers side by side; a list without one. -/
import Derived.Test.YtojfkjjacaellaaSmI
import Derived.Test.YtojfkjjacaellaaSmHS
import Derived.Test.YtojfkjjacaellaaSmA7
import Derived.Test.YtojfkjjacaellaaSleClo
namespace Go.Ab
open Go.Proofs
noncomputable section
set_option maxHeartbeats 4000000
set_option maxRecDepth 10000
section
variable {m M M' : Mem} {s c : Nat} {v vc v' : Value} {L Lc L' : SL}
theorem bldM {b : Option Nat} : buildA EE.P 27 [(0, .map b)] = some (.agg [.map b].toArray) := by kernel_rfl
theorem copy_ok (h : SAt m s v L) (hm : Fresh m) : ∃ u m', Con EE.P 20 [PT s] m u m' ∧ ∃ c v', u = PT c ∧ m.next ≤ c ∧ SAt m' c v' L ∧ Nx m m' ∧ ∀ b, mB v' = some b → m.next ≤ b := by
  refine Con.raw EE_ok fn20 (Nat.le_of_ble_eq_true rfl) _ ?_
  obtain ⟨cs, h1, h2, h3⟩ := h.at_
  rcases h.mp with ⟨rfl, rfl⟩ | ⟨b, rfl, h4⟩
  · simp only [f20, enumV, w20, W_seq, w20_0, Nat.le_refl, X_assign, ev_const, Nat.reduceLT, T_set, X_nil, thenQ_normal, w20_1, Mem.next_bump, Nat.le_add_right, bump_bump, Nat.reduceAdd, X_move, ev_T, lk_cons, Nat.reduceEqDiff, if_true, if_false, X_eql EE_sym, eq_ptr_nil und_24, okI_some, W_cond, CDi_f, W_skip, w20_4, X_nilCheck EE_sym, nilV_ptr, X_fieldAddr EE_sym fo_27_0, offV_ptr, Nat.add_zero, X_load EE_sym, load1 lay_25, Mem.get_bump, h1, ld1_cells, h3, X_call ca_25, List.map_cons, List.map_nil, true_and]
    refine CallI.con0 (clone_nil Go.Proofs.Ytojfkjjacaellaa.clone) ?_
    simp only [putT, Nat.reduceLT, T_set, X_build EE_sym, List.map_cons, ev_T, lk_cons, Nat.reduceEqDiff, if_false, if_true, List.map_nil, bldM, okI_some, X_box, box_agg, Nat.add_assoc, Nat.reduceAdd, put_bump, X_assign, X_nil, thenQ_normal, W_ret, FinX_ret, resA_tmp, T_get, resA_nil, Option.map_some, oneOr1]
    have hn : Nx m ((m.put (m.next + 9) (.cells (Cells.ofList [.map none]) true 0)).bump 11) := ⟨by (try simp only [Mem.next_bump, Mem.next_put]); omega, Fresh.of_low (by have := hm.n64; (try simp only [Mem.next_bump, Mem.next_put]); omega) (by repeat (first | exact Low.of hm (by (try simp only [Mem.next_bump, Mem.next_put]); omega) | refine Low.put ?_ (by (try simp only [Mem.next_bump, Mem.next_put]); omega) | refine Low.bump ?_)), fun y hy => by simp only [Mem.get_bump, Mem.get_put, ne_new hy, if_false]⟩
    exact ⟨⟨hn.next, fun y hy e => by rw [hn.old y hy, e]⟩, _, .map none, rfl, by omega, ⟨⟨_, by simp only [Mem.get_bump, Mem.get_put, if_true]; rfl, rfl, rfl⟩, .inl ⟨rfl, rfl⟩⟩, hn, fun b hb => (by cases hb)⟩
  · simp only [f20, enumV, w20, W_seq, w20_0, Nat.le_refl, X_assign, ev_const, Nat.reduceLT, T_set, X_nil, thenQ_normal, w20_1, Mem.next_bump, Nat.le_add_right, bump_bump, Nat.reduceAdd, X_move, ev_T, lk_cons, Nat.reduceEqDiff, if_true, if_false, X_eql EE_sym, eq_ptr_nil und_24, okI_some, W_cond, CDi_f, W_skip, w20_4, X_nilCheck EE_sym, nilV_ptr, X_fieldAddr EE_sym fo_27_0, offV_ptr, Nat.add_zero, X_load EE_sym, load1 lay_25, Mem.get_bump, h1, ld1_cells, h3, X_call ca_25, List.map_cons, List.map_nil, true_and]
    refine CallI.con0 (clone_map Go.Proofs.Ytojfkjjacaellaa.clone (by simp only [Mem.get_bump]; exact h4)) ?_
    simp only [Mem.next_bump, bump_bump, Nat.reduceAdd, put_bump, putT, Nat.reduceLT, T_set, X_build EE_sym, List.map_cons, ev_T, lk_cons, Nat.reduceEqDiff, if_false, if_true, List.map_nil, bldM, okI_some, X_box, box_agg, Nat.add_assoc, X_assign, X_nil, thenQ_normal, W_ret, FinX_ret, resA_tmp, T_get, resA_nil, Option.map_some, oneOr1]
    have hn : Nx m (((m.put (m.next + 11) (.map (ml Um L) true)).put (m.next + 9) (.cells (Cells.ofList [.map (some (m.next + 11))]) true 0)).bump 12) := ⟨by (try simp only [Mem.next_bump, Mem.next_put]); omega, Fresh.of_low (by have := hm.n64; (try simp only [Mem.next_bump, Mem.next_put]); omega) (by repeat (first | exact Low.of hm (by (try simp only [Mem.next_bump, Mem.next_put]); omega) | refine Low.put ?_ (by (try simp only [Mem.next_bump, Mem.next_put]); omega) | refine Low.bump ?_)), fun y hy => by simp only [Mem.get_bump, Mem.get_put, ne_new hy, if_false]⟩
    exact ⟨⟨hn.next, fun y hy e => by rw [hn.old y hy, e]⟩, _, .map (some (m.next + 11)), rfl, by omega, ⟨⟨_, by simp only [Mem.get_bump, Mem.get_put, if_true]; rfl, rfl, rfl⟩, .inr ⟨_, rfl, by simp only [Mem.get_bump, Mem.get_put, Nat.add_left_cancel_iff, Nat.reduceEqDiff, if_false, if_true]⟩⟩, hn, fun b hb => by cases hb; omega⟩
/-- Two, side by side. -/
structure Tw (m M : Mem) (s c : Nat) (v vc : Value) (L Lc : SL) : Prop where
  nx : Nx m M
  hs : SAt M s v L
  hc : SAt M c vc Lc
  ne : s ≠ c ∧ m.next ≤ s ∧ m.next ≤ c
  sv : ∀ b, mB v = some b → m.next ≤ b ∧ b ≠ c ∧ mB vc ≠ some b
  cv : ∀ b, mB vc = some b → m.next ≤ b ∧ b ≠ s
theorem Tw.onnx (h : Tw m M s c v vc L Lc) (hn : Nx M M') : Tw m M' s c v vc L Lc :=
  ⟨h.nx.trans hn, h.hs.nx h.nx.fresh hn, h.hc.nx h.nx.fresh hn, h.ne, h.sv, h.cv⟩
theorem Tw.bump (h : Tw m M s c v vc L Lc) (j : Nat) : Tw m (M.bump j) s c v vc L Lc := h.onnx ((Nx.refl h.nx.fresh).bump j)
theorem Tw.ons (h : Tw m M s c v vc L Lc) (hF : FrS M M' s v v') (hS : SAt M' s v' L') : Tw m M' s c v' vc L' Lc := by
  obtain ⟨e1, e2, e3⟩ := h.ne
  have lc := h.hc.lt h.nx.fresh
  have ls := h.hs.lt h.nx.fresh
  have n1 := h.nx.next
  refine ⟨⟨Nat.le_trans h.nx.next hF.next, hF.fresh, fun y hy => ?_⟩, hS, h.hc.keep ?_ fun b hb => ?_, h.ne, fun b hb => ?_, h.cv⟩
  · rw [hF.old y (by omega) (by omega) (fun e => by have := (h.sv y e).1; omega), h.nx.old y hy]
  · exact hF.old c lc (Ne.symm e1) fun e => (h.sv c e).2.1 rfl
  · exact hF.old b (h.hc.ltb h.nx.fresh hb).1 (h.cv b hb).2 fun e => (h.sv b e).2.2 hb
  · rcases hF.vn b hb with h1 | h1
    · exact h.sv b h1
    · refine ⟨by omega, by omega, fun e => ?_⟩
      have := (h.hc.ltb h.nx.fresh e).1
      omega
theorem Tw.onc (h : Tw m M s c v vc L Lc) (hF : FrS M M' c vc v') (hS : SAt M' c v' L') : Tw m M' s c v v' L L' := by
  obtain ⟨e1, e2, e3⟩ := h.ne
  have lc := h.hc.lt h.nx.fresh
  have ls := h.hs.lt h.nx.fresh
  have n1 := h.nx.next
  refine ⟨⟨Nat.le_trans h.nx.next hF.next, hF.fresh, fun y hy => ?_⟩, h.hs.keep ?_ fun b hb => ?_, hS, h.ne, fun b hb => ?_, fun b hb => ?_⟩
  · rw [hF.old y (by omega) (by omega) (fun e => by have := (h.cv y e).1; omega), h.nx.old y hy]
  · exact hF.old s ls e1 fun e => (h.cv s e).2 rfl
  · exact hF.old b (h.hs.ltb h.nx.fresh hb).1 (h.sv b hb).2.1 (h.sv b hb).2.2
  · obtain ⟨q1, q2, q4⟩ := h.sv b hb
    refine ⟨q1, q2, fun e => ?_⟩
    have := (h.hs.ltb h.nx.fresh hb).1
    rcases hF.vn b e with h1 | h1
    · exact q4 h1
    · omega
  · rcases hF.vn b hb with h1 | h1
    · exact h.cv b h1
    · exact ⟨by omega, by omega⟩
theorem Tw.raw (h : Tw m M s c v vc L Lc) : RawE m M (.bool true) fun u _ => u = .bool true := RawE.of h.nx.next fun y hy => h.nx.old y hy
end
end
end Go.Ab
/- SleepTraces: whatever the calls, and who, it answers true. -/
namespace Go.Ab
open Go.Proofs
noncomputable section
set_option maxHeartbeats 8000000
set_option maxRecDepth 10000
section
variable {m : Mem} {l : Value} {n : Nat} {p : Int}
theorem neqB2 {a b : Bool} {xo yo : Operand} : eqA EE.P .neq 4 xo yo (.bool a) (.bool b) m = some (.bool (!decide (a = b))) := by
  cases a <;> cases b <;> kernel_rfl
theorem traces_ok (hm : Fresh m) (hl : Ops m l n) : ∃ m', Con EE.P 7 [l, In p] m (.bool true) m' := by
  refine Con.raw1 EE_ok fn7 (Nat.le_of_ble_eq_true rfl) ?_
  obtain ⟨aa, C, rfl, hl2⟩ := id hl
  have hlen : ∀ M, lenA EE.P 39 (.slice aa n C) M = some (In n) := fun M => len_slice und_39
  simp only [f7, enumV, Nat.zero_add, w7, W_seq, w7_0, Nat.le_refl, X_assign, ev_const, Nat.reduceLT, T_set, X_nil, thenQ_normal, w7_1, Mem.next_bump, Nat.le_add_right, bump_bump, Nat.reduceAdd, X_call ca_8, List.map_nil, true_and]
  refine CallI.con0 alive_ok ?_
  by_cases hn : 200 < n
  · have hx : ((200 : Int) < (n : Int)) = True := eq_true (by omega)
    simp only [putT, Nat.reduceLT, T_set, X_assign, ev_T, lk_cons, Nat.reduceEqDiff, if_false, if_true, X_nil, thenQ_normal, W_seq, w7_2, Mem.next_bump, Nat.le_add_right, bump_bump, Nat.reduceAdd, X_move, Nat.one_ne_zero, X_len EE_sym, len_slice und_39, okI_some, X_bin EE_sym (op := .gtr) rfl, ev_const, bin_gtr, hx, decide_true, X_guard EE_sym, T_get, GDi_tf, X_pick EE_sym, pickV_bool, W_cond, CDi_t, w7_4, w7_3, W_ret, thenQ_ret, FinX_ret, resA_tmp, resA_nil, Option.map_some, oneOr1, true_and]
    exact RawE.of (by simp only [Mem.next_bump]; omega) fun y hy => rfl
  have hx : ((200 : Int) < (n : Int)) = False := eq_false (by omega)
  simp only [putT, Nat.reduceLT, T_set, X_assign, ev_T, lk_cons, Nat.reduceEqDiff, if_false, if_true, X_nil, thenQ_normal, W_seq, w7_2, Mem.next_bump, Nat.le_add_right, bump_bump, Nat.reduceAdd, X_move, Nat.one_ne_zero, X_len EE_sym, len_slice und_39, okI_some, X_bin EE_sym (op := .gtr) rfl, ev_const, bin_gtr, hx, decide_false, X_guard EE_sym, T_get, GDi_ff, X_un EE_sym, un_not, Bool.not_true, X_pick EE_sym, pickV_bool, Bool.false_eq_true, W_cond, CDi_f, W_skip, w7_5, X_call ca_13, List.map_cons, List.map_nil, true_and]
  refine CallI.ex2 (grown_ok (m := m.bump _) hm.bump (by
    refine ⟨aa, C, rfl, ?_⟩
    rcases hl2 with h | ⟨B, cs, w, z, h1, h2, h3⟩
    · exact .inl h
    · exact .inr ⟨B, cs, w, z, h1, h2, h3⟩) (by omega)) fun u M h => ?_
  obtain ⟨s, rfl, hO⟩ := h
  have hn1 := hO.nx.of_bump
  obtain ⟨v, L, hS, hG, hs0, hv0⟩ := hO.at_
  rw [Mem.next_bump] at hs0 hv0
  have n1 := hn1.next
  have hLl := hG.len
  simp only [putT, Nat.reduceLT, T_set, X_assign, ev_T, lk_cons, Nat.reduceEqDiff, if_false, if_true, X_nil, thenQ_normal, W_seq, w7_6, n1, X_move, X_call ca_20, List.map_cons, List.map_nil, true_and]
  refine CallI.ex2 (copy_ok (hS.bump _) hn1.fresh.bump) fun u M1 h => ?_
  obtain ⟨c, vc, rfl, hc0, hC, hn2, hvc0⟩ := h
  rw [Mem.next_bump] at hc0 hvc0
  have hn2 := hn2.of_bump
  have hsl := hS.lt hn1.fresh
  have hbl : ∀ b, mB v = some b → b < M.next := fun b hb => (hS.ltb hn1.fresh hb).1
  have hT : Tw m M1 s c v vc L L := ⟨hn1.trans hn2, hS.nx hn1.fresh hn2, hC, ⟨by omega, by omega, by omega⟩, fun b hb => ⟨by have := hv0 b hb; omega, by have := hbl b hb; omega, fun e => by have := hvc0 b e; have := hbl b hb; omega⟩, fun b hb => ⟨by have := hvc0 b hb; omega, by have := hvc0 b hb; omega⟩⟩
  clear hC hS hsl hbl hs0 hv0 hc0 hvc0 hO
  have n2 := hT.nx.next
  simp only [putT, Nat.reduceLT, T_set, X_assign, ev_T, lk_cons, Nat.reduceEqDiff, if_false, if_true, X_nil, thenQ_normal, W_seq, w7_7, n2, X_move, X_call ca_11, List.map_cons, List.map_nil, true_and]
  refine CallI.ex2 (all_ok (hT.hs.bump _) hT.nx.fresh.bump hG.wf (by omega)) fun a1 M2 hA1 => ?_
  have hA1 := hA1.of_bump
  have hT2 := hT.onnx hA1.nx
  have n3 := hT2.nx.next
  simp only [putT, Nat.reduceLT, T_set, X_assign, ev_T, lk_cons, Nat.reduceEqDiff, if_false, if_true, X_nil, thenQ_normal, W_seq, w7_8, n3, X_move, X_call ca_21, List.map_cons, List.map_nil, true_and]
  refine CallI.con0 (left_ok (hT2.hs.bump _)) ?_
  simp only [putT, Nat.reduceLT, T_set, X_move, ev_T, lk_cons, Nat.reduceEqDiff, if_false, if_true, X_extract EE_sym, List.getElem?_toArray, List.getElem?_cons_zero, okI_some, List.getElem?_cons_succ, X_assign, X_nil, thenQ_normal, W_seq, w7_9, Mem.next_bump, n3, Nat.le_add_right_of_le, bump_bump, Nat.reduceAdd, X_call ca_18, List.map_cons, List.map_nil, true_and]
  refine CallI.ex2 (drop_ok (hT2.hs.bump _) hT2.nx.fresh.bump) fun u M3 h => ?_
  obtain ⟨rfl, hS3, hF3⟩ := h
  have hF3 := hF3.of_bump
  have hS3 : SAt M3 s v (without L p) := hS3
  have hT3 := hT2.ons hF3 hS3
  have n4 := hT3.nx.next
  have n4' := hF3.next
  simp only [putT, Nat.reduceLT, T_set, X_move, ev_T, lk_cons, Nat.reduceEqDiff, if_false, if_true, X_extract EE_sym, List.getElem?_toArray, List.getElem?_cons_zero, okI_some, List.getElem?_cons_succ, X_assign, X_nil, thenQ_normal, W_seq, w7_10, n4, X_call ca_21, List.map_cons, List.map_nil, true_and]
  refine CallI.con0 (left_ok (hT3.hs.bump _)) ?_
  have hgw : mget (without L p) p = none := by rw [without_get hG.nd, if_pos rfl]
  rw [hgw]
  simp only [Option.isSome_none, putT, Nat.reduceLT, T_set, X_move, ev_T, lk_cons, Nat.reduceEqDiff, if_false, if_true, X_extract EE_sym, List.getElem?_toArray, List.getElem?_cons_zero, okI_some, List.getElem?_cons_succ, X_assign, X_nil, thenQ_normal, W_seq, w7_11, Mem.next_bump, n4, Nat.le_add_right_of_le, bump_bump, Nat.reduceAdd, X_neq EE_sym, neq_int, decide_true, Bool.not_true, X_guard EE_sym, T_get, GDi_ff, neqB2, X_pick EE_sym, ev_const, pickV_bool, Bool.false_eq_true, W_cond, CDi_f, W_skip, w7_14, X_call ca_11, List.map_cons, List.map_nil, true_and]
  have hGw : Gd (without L p) n := hG.without
  refine CallI.ex2 (all_ok (hT3.hs.bump _) hT3.nx.fresh.bump hGw.wf (by have := hGw.len; omega)) fun a2 M4 hA2 => ?_
  have hA2 := hA2.of_bump
  have hT4 := hT3.onnx hA2.nx
  have n5 := hT4.nx.next
  have n5' := hA2.nx.next
  obtain ⟨F, hFd⟩ : ∃ F, F = topL L L.length := ⟨_, rfl⟩
  obtain ⟨W, hWd⟩ : ∃ W, W = F.filter (fun x => decide (x.1 ≠ p)) := ⟨_, rfl⟩
  have hFl : F.length = L.length := by rw [hFd, topL_len]
  have hWl : W.length = (without L p).length := by rw [hWd, hFd, ← top_without hG.nd, topL_len]
  have hF4 : SlV M4 2 a1 F.length (pl F) := by
    rw [hFl, hFd]
    exact (hA1.sl.keep fun y o hy ho => by
      have y1 := hA1.new y hy
      have y2 := hA1.sl.lt hA1.nx.fresh hy
      rw [hF3.old y y2 (by have := (hT.hs.lt hT.nx.fresh); omega) (fun e => by have := (hT.hs.ltb hT.nx.fresh e).1; omega), ho]).nx hF3.fresh hA2.nx
  have hW4 : SlV M4 2 a2 W.length (pl W) := by
    rw [hWl, hWd, hFd, ← top_without hG.nd]
    exact hA2.sl
  have hwfF : ∀ i, i < F.length → (Lit.int .i64 (F.getD i (0, 0)).1).wf = true := fun i hi => by
    rw [hFd, topL_len] at hi
    rw [hFd, topL_getD hi]
    exact wfL_keys.1 hG.wf _ (keyI_mem hi)
  have hlF : ∀ M, lenA EE.P 34 a1 M = some (In F.length) := fun M => hF4.lenA und_34
  have hlW : ∀ M, lenA EE.P 34 a2 M = some (In W.length) := fun M => hW4.lenA und_34
  have hkk : ∀ i, ((F.take i).filter fun x => decide (x.1 ≠ p)).length ≤ F.length := fun i => Nat.le_trans (List.length_filter_le _ _) (by rw [List.length_take]; omega)
  simp only [putT, Nat.reduceLT, T_set, X_assign, ev_T, lk_cons, Nat.reduceEqDiff, if_false, if_true, X_nil, thenQ_normal, W_seq, w7_15, n5, ev_const, w7_16, Mem.next_bump, Nat.le_add_right_of_le, bump_bump, Nat.reduceAdd, X_move, X_len EE_sym, hlF, okI_some, W_block, w7_27, true_and]
  obtain ⟨hd, hhd⟩ : ∃ hd, (mget L p).isSome = hd := ⟨_, rfl⟩
  rw [hhd]
  refine WX.loop_of (fun x tt M => ∃ i j : Nat, i ≤ F.length ∧ x = F.length - i ∧ tt = T 125 [(68, In i), (67, In F.length), (16, In ((F.take i).filter fun x => decide (x.1 ≠ p)).length), (15, a2), (12, .bool hd), (11, Um ((mget L p).getD 0)), (8, a1), (7, PT c), (6, PT s), (5, .bool true), (1, In p)] ∧ M = M4.bump j) ?_ (k := F.length) (t1 := T 125 [(68, In (0 : Nat)), (67, In F.length), (16, In ((F.take 0).filter fun x => decide (x.1 ≠ p)).length), (15, a2), (12, .bool hd), (11, Um ((mget L p).getD 0)), (8, a1), (7, PT c), (6, PT s), (5, .bool true), (1, In p)]) (View.temps ⟨rfl, rfl, rfl, rfl, rfl, rfl, rfl, rfl, rfl, rfl, rfl, trivial⟩) ⟨0, _, by omega, rfl, rfl, rfl⟩
  rintro x tt M ⟨i, j, hi, rfl, rfl, rfl⟩
  by_cases hi2 : i < F.length
  · have g1 : (i : Int) < (F.length : Int) := by omega
    have g2 : (0 : Int) ≤ i := by omega
    have hw : IntKind.i64.wrap ((i : Int) + 1) = ((i + 1 : Nat) : Int) := by rw [wrap_i64 (by omega) (by omega)]; omega
    obtain ⟨B, cc, cB, rfl, k1, k2, k3, k4, k5⟩ := pl_at hF4 hi2
    by_cases hp : (F.getD i (0, 0)).1 = p
    · have d0 := decide_eq_true hp
      have e1 := filt_f (pr := fun x => decide (x.1 ≠ p)) hi2 (decide_eq_false fun h => h hp)
      simp only [ne_eq, w7_26, W_seq, w7_17, Mem.next_bump, n5, Nat.le_add_right_of_le, bump_bump, X_bin EE_sym (op := .lss) rfl, Nat.reduceLT, ev_T, lk_cons, Nat.reduceEqDiff, if_false, if_true, bin_lss, g1, decide_true, okI_some, T_set, X_nil, thenQ_normal, W_cond, CDi_t, W_skip, W_block, w7_24, w7_18, Nat.add_assoc, Nat.reduceAdd, X_move, X_assign, w7_19, X_indexAddr EE_sym, g2, idxV_slice und_34 sz_44, Int.toNat_natCast, Nat.zero_add, X_fieldAddr EE_sym fo_44_0, offV_ptr, Nat.add_zero, X_load EE_sym, load1 lay_3, Mem.get_bump, k1, ld1_cells, k3, X_eql EE_sym, eq_int, d0, W_exit, thenQ_exit, blockQ_exit, w7_25, X_bin EE_sym (op := .add) rfl, ev_const, bin_add, hw, roundQ_normal, true_and]
      refine ⟨F.length - (i + 1), _, _, by omega, View.temps (l' := [(68, In ((i + 1 : Nat) : Int)), (67, In F.length), (16, In ((F.take i).filter fun x => decide (x.1 ≠ p)).length), (15, a2), (12, .bool hd), (11, Um ((mget L p).getD 0)), (8, .slice (some ⟨B, 0, none⟩) F.length cc), (7, PT c), (6, PT s), (5, .bool true), (1, In p)]) ⟨rfl, rfl, rfl, rfl, rfl, rfl, rfl, rfl, rfl, rfl, rfl, trivial⟩, i + 1, _, by omega, rfl, by rw [e1], rfl⟩
    · have d0 := decide_eq_false hp
      obtain ⟨e1, e2, e3⟩ := filt_t (pr := fun x => decide (x.1 ≠ p)) hi2 (decide_eq_true hp)
      rw [← hWd] at e2 e3
      have hk2 := hkk i
      obtain ⟨k, hkd⟩ : ∃ k, k = ((F.take i).filter fun x => decide (x.1 ≠ p)).length := ⟨_, rfl⟩
      rw [← hkd] at e1 e2 e3 hk2 ⊢
      obtain ⟨B2, cc2, cB2, rfl, q1, q2, q3, q4, q5⟩ := pl_at hW4 e2
      rw [e3] at q3 q4 q5
      have c1 : decide ((W.length : Int) ≤ (k : Int)) = false := decide_eq_false (by omega)
      have c2 : (0 : Int) ≤ k := by omega
      have c3 : (k : Int) < (W.length : Int) := by omega
      have hep := fun m xo yo => eq_pair (m := m) (n := (F.getD i (0, 0)).2) (xo := xo) (yo := yo) (hwfF i hi2)
      have hw2 : IntKind.i64.wrap ((k : Int) + 1) = ((k + 1 : Nat) : Int) := by rw [wrap_i64 (by omega) (by omega)]; omega
      simp only [w7_26, W_seq, w7_17, Mem.next_bump, n5, Nat.le_add_right_of_le, bump_bump, X_bin EE_sym (op := .lss) rfl, Nat.reduceLT, ev_T, lk_cons, Nat.reduceEqDiff, if_false, if_true, bin_lss, g1, decide_true, okI_some, T_set, X_nil, ne_eq, thenQ_normal, W_cond, CDi_t, W_skip, W_block, w7_24, w7_18, Nat.add_assoc, Nat.reduceAdd, X_move, X_assign, w7_19, X_indexAddr EE_sym, g2, idxV_slice und_34 sz_44, Int.toNat_natCast, Nat.zero_add, X_fieldAddr EE_sym fo_44_0, offV_ptr, Nat.add_zero, X_load EE_sym, load1 lay_3, Mem.get_bump, k1, ld1_cells, k3, X_eql EE_sym, eq_int, d0, CDi_f, w7_20, X_len EE_sym, len_slice und_34, X_bin EE_sym (op := .geq) rfl, bin_geq, c1, X_guard EE_sym, T_get, GDi_ff, c2, c3, loadN lay_44, q1, ldN_cells, q5, Option.map_some, k5, X_neq EE_sym, hep, X_pick EE_sym, ev_const, pickV_bool, Bool.false_eq_true, w7_23, X_bin EE_sym (op := .add) rfl, bin_add, hw2, blockQ_normal, w7_25, hw, roundQ_normal, true_and]
      refine ⟨F.length - (i + 1), _, _, by omega, View.temps (l' := [(68, In ((i + 1 : Nat) : Int)), (67, In F.length), (16, In ((k + 1 : Nat) : Int)), (15, .slice (some ⟨B2, 0, none⟩) W.length cc2), (12, .bool hd), (11, Um ((mget L p).getD 0)), (8, .slice (some ⟨B, 0, none⟩) F.length cc), (7, PT c), (6, PT s), (5, .bool true), (1, In p)]) ⟨rfl, rfl, rfl, rfl, rfl, rfl, rfl, rfl, rfl, rfl, rfl, trivial⟩, i + 1, _, by omega, rfl, by rw [e1], rfl⟩
  · obtain rfl : i = F.length := by omega
    have g1 : ¬ (F.length : Int) < (F.length : Int) := by omega
    rw [List.take_of_length_le (Nat.le_refl _), ← hWd]
    cases hd with
    | false =>
      have hnone : mget L p = none := by
        cases hg : mget L p with
        | none => rfl
        | some y => rw [hg] at hhd; cases hhd
      have hsame : ∀ q, mget (without L p) q = mget L q := fun q => by
        rw [without_get hG.nd]
        split
        · rename_i e; rw [e, hnone]
        · rfl
      have hG5 := hGw
      simp only [w7_26, W_seq, w7_17, Mem.next_bump, n5, Nat.le_add_right_of_le, bump_bump, X_bin EE_sym (op := .lss) rfl, Nat.reduceLT, ev_T, lk_cons, Nat.reduceEqDiff, if_false, if_true, bin_lss, g1, decide_false, okI_some, T_set, X_nil, ne_eq, thenQ_normal, W_cond, CDi_f, W_exit, thenQ_exit, roundQ_exit, blockQ_exit, w7_28, Nat.add_assoc, Nat.reduceAdd, X_move, X_len EE_sym, hlW, X_neq EE_sym, neq_int, decide_true, Bool.not_true, W_skip, w7_31, X_guard EE_sym, T_get, GDi_ft, putT, X_pick EE_sym, ev_const, pickV_bool, Bool.false_eq_true, w7_34, X_call ca_12, List.map_cons, List.map_nil, true_and]
      have hst : ¬ s = c := hT4.ne.1
      refine CallI.ex2 (tick_ok (hT4.hs.bump _) hT4.nx.fresh.bump hG5.wf hG5.nd (by have := hG5.len; omega)) fun u1 M6 h => ?_
      obtain ⟨hsu1, hnu1, hS6, hF6⟩ := h
      have hT6 := hT4.ons hF6.of_bump hS6
      have n7 := hT6.nx.next
      simp only [putT, Nat.reduceLT, T_set, X_move, ev_T, lk_cons, Nat.reduceEqDiff, if_false, if_true, X_call ca_12, List.map_cons, List.map_nil]
      refine CallI.ex2L (tick_ok hT6.hc hT6.nx.fresh hG.wf hG.nd (by omega)) (by simp [hst]) fun u2 M7 h => ?_
      obtain ⟨hsu2, hnu2, hS7, hF7⟩ := h
      have hT7 := hT6.onc hF7 hS7
      have n8 := hT7.nx.next
      have n8' := hF7.next
      have hwk : wkL (without L p) (without L p).length = wkL L L.length := wake_same hG5.nd hG.nd hsame
      rw [hwk] at hsu1
      have hsu1' : SlV M7 1 u1 (wkL L L.length).length (il (wkL L L.length)) := hsu1.keep fun y o hy ho => by
        have y1 := hnu1 y hy
        have y2 := hsu1.lt hT6.nx.fresh hy
        have y3 := (hT4.hc.lt hT4.nx.fresh)
        rw [Mem.next_bump] at y1
        rw [hF7.old y y2 (by omega) (fun e => by have := (hT4.hc.ltb hT4.nx.fresh e).1; omega), ho]
      have hlen1 := wkL_len (L := L) (i := L.length)
      simp only [putT, Nat.reduceLT, T_set, X_assign, ev_T, lk_cons, Nat.reduceEqDiff, if_false, if_true, X_nil, thenQ_normal, W_seq, w7_35, n8, X_move, X_guard EE_sym, T_get, GDi_tt, X_call ca_15, List.map_cons, List.map_nil, true_and]
      refine CallI.con0 (same_i (hsu1'.bump _) (hsu2.bump _) (by omega)) ?_
      simp only [putT, Nat.reduceLT, T_set, X_pick EE_sym, ev_T, lk_cons, Nat.reduceEqDiff, if_false, if_true, ev_const, pickV_bool, okI_some, X_move, X_guard EE_sym, T_get, GDi_tt, X_call ca_11, List.map_cons, List.map_nil]
      have hGt := hG5.tick
      have hGc := hG.tick
      obtain ⟨hll, htop⟩ := top_same hGt.nd hGc.nd (tick_same hG5.nd hG.nd hsame)
      refine CallI.ex2L (all_ok (hT7.hs.bump _) hT7.nx.fresh.bump hGt.wf (by have h := hGt.len; unfold tickL at h; omega)) (by simp) fun b1 M8 hB1 => ?_
      have hB1 := hB1.of_bump
      have hT8 := hT7.onnx hB1.nx
      have n9 := hT8.nx.next
      have n9' := hB1.nx.next
      simp only [putT, Nat.reduceLT, T_set, X_guard EE_sym, T_get, lk_cons, Nat.reduceEqDiff, if_false, if_true, GDi_tt, X_move, ev_T, X_call ca_11, List.map_cons, List.map_nil]
      refine CallI.ex2L (all_ok hT8.hc hT8.nx.fresh hGc.wf (by have h := hGc.len; unfold tickL at h; omega)) (by simp [hst]) fun b2 M9 hB2 => ?_
      have hT9 := hT8.onnx hB2.nx
      have n10 := hT9.nx.next
      have n10' := hB2.nx.next
      unfold tickL at hll htop
      have s1 : SlV M9 2 b1 (topL (tkL L L.length) (tkL L L.length).length).length (pl (topL (tkL L L.length) (tkL L L.length).length)) := by
        rw [topL_len, ← htop, ← hll]
        exact hB1.sl.nx hB1.nx.fresh hB2.nx
      have s2 : SlV M9 2 b2 (topL (tkL L L.length) (tkL L L.length).length).length (pl (topL (tkL L L.length) (tkL L L.length).length)) := by
        rw [topL_len]
        exact hB2.sl
      simp only [putT, Nat.reduceLT, T_set, X_guard EE_sym, T_get, lk_cons, Nat.reduceEqDiff, if_false, if_true, GDi_tt, X_call ca_10, List.map_cons, ev_T, List.map_nil]
      refine CallI.con (same_p s1 s2 (fun k hk => by
        rw [topL_len] at hk
        rw [topL_getD hk]
        exact wfL_keys.1 hGc.wf _ (keyI_mem hk)) (by rw [topL_len]; have h := hGc.len; unfold tickL at h; omega)) (by simp) ?_
      simp only [putT, Nat.reduceLT, T_set, X_pick EE_sym, ev_T, lk_cons, Nat.reduceEqDiff, if_false, if_true, ev_const, pickV_bool, okI_some, X_assign, X_nil, thenQ_normal, W_ret, FinX_ret, resA_tmp, T_get, resA_nil, Option.map_some, oneOr1]
      exact hT9.raw

    | true =>
      obtain ⟨x, hx⟩ : ∃ x, mget L p = some x := by
        cases hg : mget L p with
        | none => rw [hg] at hhd; cases hhd
        | some x => exact ⟨x, rfl⟩
      have hpk : p ∈ mkeys L := mem_keys.2 (by rw [hx]; rfl)
      have hx0 := hG.nz _ _ hx
      have hp1 := hG.pos _ hpk
      have hpw := wfL_keys.1 hG.wf _ hpk
      have hae : addE (without L p) p x = 0 := by
        unfold addE
        rw [if_neg (by rintro (h | h); omega; exact hx0 h), if_neg (by rw [hgw]; decide)]
      have hal : addL (without L p) p x = mset (without L p) p x := by unfold addL; rw [if_pos hae]
      have hG5 : Gd (addL (without L p) p x) (n + 1) := hGw.add hpw
      have hsame : ∀ q, mget (addL (without L p) p x) q = mget L q := fun q => by
        rw [hal, mget_set, without_get hG.nd]
        split
        · rename_i e; rw [e, hx]
        · rfl
      rw [hx]
      simp only [Option.getD_some, w7_26, W_seq, w7_17, Mem.next_bump, n5, Nat.le_add_right_of_le, bump_bump, X_bin EE_sym (op := .lss) rfl, Nat.reduceLT, ev_T, lk_cons, Nat.reduceEqDiff, if_false, if_true, bin_lss, g1, decide_false, okI_some, T_set, X_nil, ne_eq, thenQ_normal, W_cond, CDi_f, W_exit, thenQ_exit, roundQ_exit, blockQ_exit, w7_28, Nat.add_assoc, Nat.reduceAdd, X_move, X_len EE_sym, hlW, X_neq EE_sym, neq_int, decide_true, Bool.not_true, W_skip, w7_31, X_guard EE_sym, T_get, GDi_tt, X_call ca_9, List.map_cons, List.map_nil, true_and]
      refine CallI.ex2 (add_ok (n := x) (hT4.hs.bump _) hT4.nx.fresh.bump) fun u M5 h => ?_
      obtain ⟨rfl, v5, hS5, hF5⟩ := h
      have hT5 := hT4.ons hF5.of_bump hS5
      have n6 := hT5.nx.next
      rw [hae]
      simp only [putT, Nat.reduceLT, T_set, X_guard EE_sym, T_get, lk_cons, Nat.reduceEqDiff, if_false, if_true, GDi_tt, X_neq EE_sym, ev_T, ev_const, neq_int, decide_true, Bool.not_true, okI_some, X_pick EE_sym, pickV_bool, X_nil, thenQ_normal, W_cond, CDi_f, W_skip, W_seq, w7_34, n6, X_move, X_call ca_12, List.map_cons, List.map_nil, true_and]
      have hst : ¬ s = c := hT5.ne.1
      refine CallI.ex2 (tick_ok (hT5.hs.bump _) hT5.nx.fresh.bump hG5.wf hG5.nd (by have := hG5.len; omega)) fun u1 M6 h => ?_
      obtain ⟨hsu1, hnu1, hS6, hF6⟩ := h
      have hT6 := hT5.ons hF6.of_bump hS6
      have n7 := hT6.nx.next
      simp only [putT, Nat.reduceLT, T_set, X_move, ev_T, lk_cons, Nat.reduceEqDiff, if_false, if_true, X_call ca_12, List.map_cons, List.map_nil]
      refine CallI.ex2L (tick_ok hT6.hc hT6.nx.fresh hG.wf hG.nd (by omega)) (by simp [hst]) fun u2 M7 h => ?_
      obtain ⟨hsu2, hnu2, hS7, hF7⟩ := h
      have hT7 := hT6.onc hF7 hS7
      have n8 := hT7.nx.next
      have n8' := hF7.next
      have hwk : wkL (addL (without L p) p x) (addL (without L p) p x).length = wkL L L.length := wake_same hG5.nd hG.nd hsame
      rw [hwk] at hsu1
      have hsu1' : SlV M7 1 u1 (wkL L L.length).length (il (wkL L L.length)) := hsu1.keep fun y o hy ho => by
        have y1 := hnu1 y hy
        have y2 := hsu1.lt hT6.nx.fresh hy
        have y3 := (hT5.hc.lt hT5.nx.fresh)
        rw [Mem.next_bump] at y1
        rw [hF7.old y y2 (by omega) (fun e => by have := (hT5.hc.ltb hT5.nx.fresh e).1; omega), ho]
      have hlen1 := wkL_len (L := L) (i := L.length)
      simp only [putT, Nat.reduceLT, T_set, X_assign, ev_T, lk_cons, Nat.reduceEqDiff, if_false, if_true, X_nil, thenQ_normal, W_seq, w7_35, n8, X_move, X_guard EE_sym, T_get, GDi_tt, X_call ca_15, List.map_cons, List.map_nil, true_and]
      refine CallI.con0 (same_i (hsu1'.bump _) (hsu2.bump _) (by omega)) ?_
      simp only [putT, Nat.reduceLT, T_set, X_pick EE_sym, ev_T, lk_cons, Nat.reduceEqDiff, if_false, if_true, ev_const, pickV_bool, okI_some, X_move, X_guard EE_sym, T_get, GDi_tt, X_call ca_11, List.map_cons, List.map_nil]
      have hGt := hG5.tick
      have hGc := hG.tick
      obtain ⟨hll, htop⟩ := top_same hGt.nd hGc.nd (tick_same hG5.nd hG.nd hsame)
      refine CallI.ex2L (all_ok (hT7.hs.bump _) hT7.nx.fresh.bump hGt.wf (by have h := hGt.len; unfold tickL at h; omega)) (by simp) fun b1 M8 hB1 => ?_
      have hB1 := hB1.of_bump
      have hT8 := hT7.onnx hB1.nx
      have n9 := hT8.nx.next
      have n9' := hB1.nx.next
      simp only [putT, Nat.reduceLT, T_set, X_guard EE_sym, T_get, lk_cons, Nat.reduceEqDiff, if_false, if_true, GDi_tt, X_move, ev_T, X_call ca_11, List.map_cons, List.map_nil]
      refine CallI.ex2L (all_ok hT8.hc hT8.nx.fresh hGc.wf (by have h := hGc.len; unfold tickL at h; omega)) (by simp [hst]) fun b2 M9 hB2 => ?_
      have hT9 := hT8.onnx hB2.nx
      have n10 := hT9.nx.next
      have n10' := hB2.nx.next
      unfold tickL at hll htop
      have s1 : SlV M9 2 b1 (topL (tkL L L.length) (tkL L L.length).length).length (pl (topL (tkL L L.length) (tkL L L.length).length)) := by
        rw [topL_len, ← htop, ← hll]
        exact hB1.sl.nx hB1.nx.fresh hB2.nx
      have s2 : SlV M9 2 b2 (topL (tkL L L.length) (tkL L L.length).length).length (pl (topL (tkL L L.length) (tkL L L.length).length)) := by
        rw [topL_len]
        exact hB2.sl
      simp only [putT, Nat.reduceLT, T_set, X_guard EE_sym, T_get, lk_cons, Nat.reduceEqDiff, if_false, if_true, GDi_tt, X_call ca_10, List.map_cons, ev_T, List.map_nil]
      refine CallI.con (same_p s1 s2 (fun k hk => by
        rw [topL_len] at hk
        rw [topL_getD hk]
        exact wfL_keys.1 hGc.wf _ (keyI_mem hk)) (by rw [topL_len]; have h := hGc.len; unfold tickL at h; omega)) (by simp) ?_
      simp only [putT, Nat.reduceLT, T_set, X_pick EE_sym, ev_T, lk_cons, Nat.reduceEqDiff, if_false, if_true, ev_const, pickV_bool, okI_some, X_assign, X_nil, thenQ_normal, W_ret, FinX_ret, resA_tmp, T_get, resA_nil, Option.map_some, oneOr1]
      exact hT9.raw

end
end
end Go.Ab
