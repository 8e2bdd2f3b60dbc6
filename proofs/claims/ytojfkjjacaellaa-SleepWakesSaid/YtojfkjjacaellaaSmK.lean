/- SleepNext: whatever the calls, it answers true. -/
import Derived.Test.YtojfkjjacaellaaSmI
import Derived.Test.YtojfkjjacaellaaSmHM
namespace Go.Ab
open Go.Proofs
noncomputable section
set_option maxHeartbeats 8000000
set_option maxRecDepth 10000
section
variable {m : Mem} {l : Value} {n : Nat}
theorem neqB {a b : Bool} {xo yo : Operand} : eqA EE.P .neq 4 xo yo (.bool a) (.bool b) m = some (.bool (!decide (a = b))) := by
  cases a <;> cases b <;> kernel_rfl
theorem wrapu {n : Int} (h1 : 0 ≤ n) (h2 : n < 4294967296) : IntKind.u32.wrap n = n := by
  simp only [IntKind.wrap, IntKind.signed, IntKind.bits]
  simp
  omega
theorem FrS.trans {m m1 m2 : Mem} {s : Nat} {v v1 v2 : Value} (h : FrS m m1 s v v1) (h2 : FrS m1 m2 s v1 v2) : FrS m m2 s v v2 := by
  have n1 := h.next
  have n2 := h2.next
  refine ⟨by omega, h2.fresh, fun y hy y1 y2 => ?_, fun b hb => ?_, fun y hy e => h2.low y (by omega) (h.low y hy e)⟩
  · rw [h2.old y (by omega) y1 fun e => ?_, h.old y hy y1 y2]
    rcases h.vn y e with h3 | h3
    · exact y2 h3
    · omega
  · rcases h2.vn b hb with h3 | h3
    · rcases h.vn b h3 with h4 | h4
      · exact .inl h4
      · exact .inr ⟨h4.1, by omega⟩
    · exact .inr ⟨by omega, h3.2⟩
theorem top_at {M : Mem} {v : Value} {L : SL} {i : Nat} (h : SlV M 2 v L.length (pl (topL L L.length))) (hi : i < L.length) : ∃ B c cB, v = .slice (some ⟨B, 0, none⟩) L.length c ∧ M.get B = some (.cells cB true 2) ∧ cB.nth (i * 2) = some (In (keyI L i)) ∧ cB.nth (i * 2 + 1) = some (Um (valI L i)) := by
  have h' : SlV M 2 v (topL L L.length).length (pl (topL L L.length)) := by rw [topL_len]; exact h
  obtain ⟨B, c, cB, e, k1, _, k3, k4, _⟩ := pl_at h' (i := i) (by rw [topL_len]; exact hi)
  rw [topL_getD hi] at k3 k4
  rw [topL_len] at e
  exact ⟨B, c, cB, e, k1, k3, k4⟩
theorem snext_ok (hm : Fresh m) (hl : Ops m l n) : ∃ m', Con EE.P 4 [l] m (.bool true) m' := by
  refine Con.raw1 EE_ok fn4 (Nat.le_of_ble_eq_true rfl) ?_
  obtain ⟨aa, C, rfl, hl2⟩ := id hl
  have hlen : ∀ M, lenA EE.P 39 (.slice aa n C) M = some (In n) := fun M => len_slice und_39
  simp only [f4, enumV, w4, W_seq, w4_0, Nat.le_refl, X_assign, ev_const, Nat.reduceLT, T_set, X_nil, thenQ_normal, w4_1, Mem.next_bump, Nat.le_add_right, bump_bump, Nat.reduceAdd, X_call ca_8, List.map_nil, true_and]
  refine CallI.con0 alive_ok ?_
  by_cases hn : 200 < n
  · have hx : ((200 : Int) < (n : Int)) = True := eq_true (by omega)
    simp only [putT, Nat.reduceLT, T_set, X_assign, ev_T, lk_cons, Nat.reduceEqDiff, if_false, if_true, X_nil, thenQ_normal, W_seq, w4_2, Mem.next_bump, Nat.le_add_right, bump_bump, Nat.reduceAdd, X_move, X_len EE_sym, len_slice und_39, okI_some, X_bin EE_sym (op := .gtr) rfl, ev_const, bin_gtr, hx, decide_true, X_guard EE_sym, T_get, GDi_tf, X_pick EE_sym, pickV_bool, W_cond, CDi_t, w4_4, w4_3, W_ret, thenQ_ret, FinX_ret, resA_tmp, resA_nil, Option.map_some, oneOr1, true_and]
    exact RawE.of (by simp only [Mem.next_bump]; omega) fun y hy => rfl
  have hx : ((200 : Int) < (n : Int)) = False := eq_false (by omega)
  simp only [putT, Nat.reduceLT, T_set, X_assign, ev_T, lk_cons, Nat.reduceEqDiff, if_false, if_true, X_nil, thenQ_normal, W_seq, w4_2, Mem.next_bump, Nat.le_add_right, bump_bump, Nat.reduceAdd, X_move, X_len EE_sym, len_slice und_39, okI_some, X_bin EE_sym (op := .gtr) rfl, ev_const, bin_gtr, hx, decide_false, X_guard EE_sym, T_get, GDi_ff, X_un EE_sym, un_not, Bool.not_true, X_pick EE_sym, pickV_bool, Bool.false_eq_true, W_cond, CDi_f, W_skip, w4_5, X_call ca_13, List.map_cons, List.map_nil, true_and]
  refine CallI.ex2 (grown_ok (m := m.bump _) hm.bump (by
    refine ⟨aa, C, rfl, ?_⟩
    rcases hl2 with h | ⟨B, cs, w, z, h1, h2, h3⟩
    · exact .inl h
    · exact .inr ⟨B, cs, w, z, h1, h2, h3⟩) (by omega)) fun u M h => ?_
  obtain ⟨s, rfl, hO⟩ := h
  have hn1 := hO.nx.of_bump
  obtain ⟨v, L, hS, hG, hs0, hv0⟩ := hO.at_
  rw [Mem.next_bump] at hs0 hv0
  have n1 := hn1.next
  have hLl := hG.len
  simp only [putT, Nat.reduceLT, T_set, X_assign, ev_T, lk_cons, Nat.reduceEqDiff, if_false, if_true, X_nil, thenQ_normal, W_seq, w4_6, n1, X_move, X_call ca_11, List.map_cons, List.map_nil, true_and]
  refine CallI.ex2 (all_ok (hS.bump _) hn1.fresh.bump hG.wf (by omega)) fun a M1 hA => ?_
  have hA := hA.of_bump
  have hS1 := hS.nx hn1.fresh hA.nx
  have n2 := hA.nx.next
  have n2' : m.next ≤ M1.next := by omega
  simp only [putT, Nat.reduceLT, T_set, X_assign, ev_T, lk_cons, Nat.reduceEqDiff, if_false, if_true, X_nil, thenQ_normal, W_seq, w4_7, n2', X_move, X_call ca_14, List.map_cons, List.map_nil, true_and]
  refine CallI.ex2 (next_ok (hS1.bump _) hA.nx.fresh.bump hG.wf (by omega)) fun u M2 h => ?_
  obtain ⟨hu, hn3⟩ := h
  have hn3 := hn3.of_bump
  have hS2 := hS1.nx hA.nx.fresh hn3
  have hA2 := hA.sl.nx hA.nx.fresh hn3
  have n3 := hn3.next
  have n3' : m.next ≤ M2.next := by omega
  have hla : ∀ M, lenA EE.P 34 a M = some (In L.length) := fun M => hA.sl.lenA und_34
  have hn4 : Nx m M2 := (hn1.trans hA.nx).trans hn3
  obtain ⟨mu, hmu⟩ : ∃ mu, minU L L.length = mu := ⟨_, rfl⟩
  rw [hmu] at hu
  rcases Nat.eq_zero_or_pos L.length with hL0 | hL0
  · have hLe : L = [] := List.length_eq_zero_iff.1 hL0
    have hm0 : mu = 0#32 := by rw [← hmu, hLe]; rfl
    have hd : decide (mu ≠ 0#32) = false := by rw [hm0]; decide
    rw [hd] at hu
    subst hu
    have hz : decide (((mu.toNat : Nat) : Int) = 0) = true := by rw [hm0]; rfl
    have hz2 : decide ((0 : Int) < (L.length : Int)) = false := decide_eq_false (by omega)
    simp only [putT, Nat.reduceLT, T_set, X_move, ev_T, lk_cons, Nat.reduceEqDiff, if_false, if_true, X_extract EE_sym, List.getElem?_toArray, List.getElem?_cons_zero, okI_some, List.getElem?_cons_succ, X_assign, X_nil, thenQ_normal, W_seq, w4_8, n3', X_len EE_sym, hla, X_bin EE_sym (op := .gtr) rfl, ev_const, bin_gtr, hz2, X_neq EE_sym, neqB, decide_true, Bool.not_true, X_guard EE_sym, T_get, GDi_ff, X_un EE_sym, un_not, Bool.not_false, GDi_tt, neq_int, hz, X_pick EE_sym, pickV_bool, Bool.false_eq_true, W_cond, CDi_f, W_skip, w4_11, Mem.next_bump, Nat.le_add_right_of_le, bump_bump, Nat.reduceAdd, w4_12, W_block, w4_24, true_and]
    refine WX.loop_of (fun x t M => ∃ j, t = T 136 [(44, In (0 : Nat)), (43, In L.length), (8, .slice none 0 0), (7, .bool false), (6, Um mu), (3, .bool true)] ∧ M = M2.bump j) ?_ (k := 0) (t1 := T 136 [(44, In (0 : Nat)), (43, In L.length), (8, .slice none 0 0), (7, .bool false), (6, Um mu), (3, .bool true)]) (View.temps ⟨rfl, rfl, rfl, rfl, rfl, rfl, trivial⟩) ⟨_, rfl, rfl⟩
    rintro x t M ⟨j, rfl, rfl⟩
    have q1 : (((0 : Nat) : Int) < (L.length : Int)) = False := eq_false (by omega)
    simp only [w4_23, W_seq, w4_13, Mem.next_bump, n3', Nat.le_add_right_of_le, bump_bump, X_bin EE_sym (op := .lss) rfl, Nat.reduceLT, ev_T, lk_cons, Nat.reduceEqDiff, if_false, if_true, bin_lss, q1, decide_false, okI_some, T_set, X_nil, thenQ_normal, W_cond, CDi_f, W_exit, thenQ_exit, roundQ_exit, blockQ_exit, w4_25, Nat.add_assoc, Nat.reduceAdd, X_move, X_un EE_sym, un_not, Bool.not_false, X_guard EE_sym, T_get, GDi_tf, putT, X_pick EE_sym, ev_const, pickV_bool, CDi_t, w4_27, w4_26, GDi_tt, X_assign, W_ret, thenQ_ret, FinX_ret, resA_tmp, resA_nil, Option.map_some, oneOr1, true_and]
    exact RawE.of (by simp only [Mem.next_bump]; omega) fun y hy => hn4.old y hy
  · obtain ⟨g1, ⟨j0, g2, g3⟩, g4⟩ := min_spec hG (Nat.le_refl _) hL0
    rw [hmu] at g1 g3 g4
    have hd : decide (mu ≠ 0#32) = true := decide_eq_true g1
    rw [hd] at hu
    subst hu
    have hz2 : decide ((0 : Int) < (L.length : Int)) = true := decide_eq_true (by omega)
    simp only [putT, Nat.reduceLT, T_set, X_move, ev_T, lk_cons, Nat.reduceEqDiff, if_false, if_true, X_extract EE_sym, List.getElem?_toArray, List.getElem?_cons_zero, okI_some, List.getElem?_cons_succ, X_assign, X_nil, thenQ_normal, W_seq, w4_8, n3', X_len EE_sym, hla, X_bin EE_sym (op := .gtr) rfl, ev_const, bin_gtr, hz2, X_neq EE_sym, neqB, decide_true, Bool.not_true, X_guard EE_sym, T_get, GDi_ff, X_un EE_sym, un_not, GDi_ft, X_pick EE_sym, pickV_bool, Bool.false_eq_true, W_cond, CDi_f, W_skip, w4_11, Mem.next_bump, Nat.le_add_right_of_le, bump_bump, Nat.reduceAdd, w4_12, W_block, w4_24, true_and]
    have hcase : ∀ M', Nx m M' → True := fun _ _ => trivial
    refine WX.loop_of (fun x t M => ∃ (i : Nat) (u1 : Value), i ≤ L.length ∧ x = L.length - i ∧ t = T 136 [(44, In i), (43, In L.length), (8, u1), (7, .bool true), (6, Um mu), (5, a), (4, PT s), (3, .bool true)] ∧ NewV M2 M 1 u1 (fiL L mu i).length (il (fiL L mu i))) ?_ (k := L.length) (t1 := T 136 [(44, In (0 : Nat)), (43, In L.length), (8, .slice none 0 0), (7, .bool true), (6, Um mu), (5, a), (4, PT s), (3, .bool true)]) (View.temps ⟨rfl, rfl, rfl, rfl, rfl, rfl, rfl, rfl, trivial⟩) ⟨0, _, by omega, rfl, rfl, (NewV.nil hn4.fresh).bump _⟩
    rintro x t M3 ⟨i, u1, hi, rfl, rfl, hF⟩
    have n5 := hF.nx.next
    have n5' : m.next ≤ M3.next := by omega
    have hA3 := hA2.nx hn4.fresh hF.nx
    have hfl := fiL_len (L := L) (x := mu) (i := i)
    by_cases hi2 : i < L.length
    · have r1 : (i : Int) < (L.length : Int) := by omega
      have r2 : (0 : Int) ≤ i := by omega
      have hw : IntKind.i64.wrap ((i : Int) + 1) = ((i + 1 : Nat) : Int) := by rw [wrap_i64 (by omega) (by omega)]; omega
      obtain ⟨B, cc, cB, rfl, k1, k3, k4⟩ := top_at hA3 hi2
      have k6 : 0 < i → cB.nth ((i - 1) * 2) = some (In (keyI L (i - 1))) := fun h => by
        obtain ⟨B', cc', cB', e, k1', k3', _⟩ := top_at hA3 (i := i - 1) (by omega)
        cases e
        rw [k1] at k1'
        cases k1'
        exact k3'
      have c1 : decide (((valI L i).toNat : Int) < (mu.toNat : Int)) = false := decide_eq_false (by have := g4 i hi2; omega)
      have c2 : decide (((valI L i).toNat : Int) = (mu.toNat : Int)) = decide (valI L i = mu) := decide_eq_decide.2 ⟨fun h => BitVec.eq_of_toNat_eq (by omega), fun h => by rw [h]⟩
      by_cases hz : i = 0
      · have z1 : ((0 : Int) < (i : Int)) = False := eq_false (by omega)
        by_cases he : valI L i = mu
        · rw [decide_eq_true he] at c2
          have b2 := bs36 (p := keyI L i)
          simp only [w4_23, W_seq, w4_13, n5', X_bin EE_sym (op := .lss) rfl, Nat.reduceLT, ev_T, lk_cons, Nat.reduceEqDiff, if_false, if_true, bin_lss, r1, decide_true, okI_some, T_set, X_nil, thenQ_normal, W_cond, CDi_t, W_skip, W_block, w4_21, w4_14, Mem.next_bump, Nat.le_add_right_of_le, bump_bump, Nat.reduceAdd, X_move, X_assign, w4_15, X_indexAddr EE_sym, r2, idxV_slice und_34 sz_44, Int.toNat_natCast, Nat.zero_add, X_fieldAddr EE_sym fo_44_1, offV_ptr, X_load EE_sym, load1 lay_30, Mem.get_bump, k1, ld1_cells, k4, c1, X_guard EE_sym, T_get, GDi_ff, X_bin EE_sym (op := .gtr) rfl, ev_const, bin_gtr, z1, decide_false, GDi_ft, putT, X_pick EE_sym, pickV_bool, Bool.false_eq_true, CDi_f, w4_18, X_eql EE_sym, eq_int, c2, w4_20, w4_19, X_fieldAddr EE_sym fo_44_0, Nat.add_zero, load1 lay_3, k3, X_bs, List.map_cons, List.map_nil, b2, Nat.add_assoc, put_bump, X_append, true_and]
          refine NewV.app1 eo36 (by decide) hn4.fresh hF rfl rfl ⟨by omega, by omega⟩ ⟨by omega, by omega⟩ (by omega) fun v' M' hN hn' _ => ?_
          have n7 : m.next ≤ M'.next := by omega
          simp only [Nat.reduceLT, T_set, X_assign, ev_T, lk_cons, Nat.reduceEqDiff, if_false, if_true, X_nil, blockQ_normal, thenQ_normal, w4_22, n7, X_bin EE_sym (op := .add) rfl, ev_const, bin_add, hw, okI_some, X_move, roundQ_normal, true_and]
          refine ⟨L.length - (i + 1), _, _, by omega, View.temps (l' := [(44, In ((i + 1 : Nat) : Int)), (43, In L.length), (8, v'), (7, .bool true), (6, Um mu), (5, .slice (some ⟨B, 0, none⟩) L.length cc), (4, PT s), (3, .bool true)]) ⟨rfl, rfl, rfl, rfl, rfl, rfl, rfl, rfl, trivial⟩, i + 1, v', by omega, rfl, rfl, ?_⟩
          rw [fiL_t he, List.length_append, il_snoc]
          exact hN.bump _
        · rw [decide_eq_false he] at c2
          simp only [w4_23, W_seq, w4_13, n5', X_bin EE_sym (op := .lss) rfl, Nat.reduceLT, ev_T, lk_cons, Nat.reduceEqDiff, if_false, if_true, bin_lss, r1, decide_true, okI_some, T_set, X_nil, thenQ_normal, W_cond, CDi_t, W_skip, W_block, w4_21, w4_14, Mem.next_bump, Nat.le_add_right_of_le, bump_bump, Nat.reduceAdd, X_move, X_assign, w4_15, X_indexAddr EE_sym, r2, idxV_slice und_34 sz_44, Int.toNat_natCast, Nat.zero_add, X_fieldAddr EE_sym fo_44_1, offV_ptr, X_load EE_sym, load1 lay_30, Mem.get_bump, k1, ld1_cells, k4, c1, X_guard EE_sym, T_get, GDi_ff, X_bin EE_sym (op := .gtr) rfl, ev_const, bin_gtr, z1, decide_false, GDi_ft, putT, X_pick EE_sym, pickV_bool, Bool.false_eq_true, CDi_f, w4_18, X_eql EE_sym, eq_int, c2, blockQ_normal, w4_22, X_bin EE_sym (op := .add) rfl, bin_add, hw, roundQ_normal, true_and]
          refine ⟨L.length - (i + 1), _, _, by omega, View.temps (l' := [(44, In ((i + 1 : Nat) : Int)), (43, In L.length), (8, u1), (7, .bool true), (6, Um mu), (5, .slice (some ⟨B, 0, none⟩) L.length cc), (4, PT s), (3, .bool true)]) ⟨rfl, rfl, rfl, rfl, rfl, rfl, rfl, rfl, trivial⟩, i + 1, u1, by omega, rfl, rfl, ?_⟩
          rw [fiL_f he]
          exact hF.bump _
      · have z1 : ((0 : Int) < (i : Int)) = True := eq_true (by omega)
        have z2 : IntKind.i64.wrap ((i : Int) - 1) = ((i - 1 : Nat) : Int) := by rw [wrap_i64 (by omega) (by omega)]; omega
        have z3 : (0 : Int) ≤ ((i - 1 : Nat) : Int) := by omega
        have z4 : ((i - 1 : Nat) : Int) < (L.length : Int) := by omega
        have z5 := k6 (by omega)
        have z6 : decide (keyI L i ≤ keyI L (i - 1)) = false := decide_eq_false (by have := key_lt hG.nd (show i - 1 < i by omega) hi2; omega)
        by_cases he : valI L i = mu
        · rw [decide_eq_true he] at c2
          have b2 := bs36 (p := keyI L i)
          simp only [w4_23, W_seq, w4_13, n5', X_bin EE_sym (op := .lss) rfl, Nat.reduceLT, ev_T, lk_cons, Nat.reduceEqDiff, if_false, if_true, bin_lss, r1, decide_true, okI_some, T_set, X_nil, thenQ_normal, W_cond, CDi_t, W_skip, W_block, w4_21, w4_14, Mem.next_bump, Nat.le_add_right_of_le, bump_bump, Nat.reduceAdd, X_move, X_assign, w4_15, X_indexAddr EE_sym, r2, idxV_slice und_34 sz_44, Int.toNat_natCast, Nat.zero_add, X_fieldAddr EE_sym fo_44_1, offV_ptr, X_load EE_sym, load1 lay_30, Mem.get_bump, k1, ld1_cells, k4, c1, X_guard EE_sym, T_get, GDi_ff, X_bin EE_sym (op := .gtr) rfl, ev_const, bin_gtr, z1, GDi_tt, X_fieldAddr EE_sym fo_44_0, Nat.add_zero, load1 lay_3, k3, X_bin EE_sym (op := .sub) rfl, bin_sub, z2, z3, z4, z5, X_bin EE_sym (op := .leq) rfl, bin_leq, z6, X_pick EE_sym, pickV_bool, Bool.false_eq_true, CDi_f, w4_18, X_eql EE_sym, eq_int, c2, w4_20, w4_19, X_bs, List.map_cons, List.map_nil, b2, Nat.add_assoc, put_bump, X_append, true_and]
          refine NewV.app1 eo36 (by decide) hn4.fresh hF rfl rfl ⟨by omega, by omega⟩ ⟨by omega, by omega⟩ (by omega) fun v' M' hN hn' _ => ?_
          have n7 : m.next ≤ M'.next := by omega
          simp only [Nat.reduceLT, T_set, X_assign, ev_T, lk_cons, Nat.reduceEqDiff, if_false, if_true, X_nil, blockQ_normal, thenQ_normal, w4_22, n7, X_bin EE_sym (op := .add) rfl, ev_const, bin_add, hw, okI_some, X_move, roundQ_normal, true_and]
          refine ⟨L.length - (i + 1), _, _, by omega, View.temps (l' := [(44, In ((i + 1 : Nat) : Int)), (43, In L.length), (8, v'), (7, .bool true), (6, Um mu), (5, .slice (some ⟨B, 0, none⟩) L.length cc), (4, PT s), (3, .bool true)]) ⟨rfl, rfl, rfl, rfl, rfl, rfl, rfl, rfl, trivial⟩, i + 1, v', by omega, rfl, rfl, ?_⟩
          rw [fiL_t he, List.length_append, il_snoc]
          exact hN.bump _
        · rw [decide_eq_false he] at c2
          simp only [w4_23, W_seq, w4_13, n5', X_bin EE_sym (op := .lss) rfl, Nat.reduceLT, ev_T, lk_cons, Nat.reduceEqDiff, if_false, if_true, bin_lss, r1, decide_true, okI_some, T_set, X_nil, thenQ_normal, W_cond, CDi_t, W_skip, W_block, w4_21, w4_14, Mem.next_bump, Nat.le_add_right_of_le, bump_bump, Nat.reduceAdd, X_move, X_assign, w4_15, X_indexAddr EE_sym, r2, idxV_slice und_34 sz_44, Int.toNat_natCast, Nat.zero_add, X_fieldAddr EE_sym fo_44_1, offV_ptr, X_load EE_sym, load1 lay_30, Mem.get_bump, k1, ld1_cells, k4, c1, X_guard EE_sym, T_get, GDi_ff, X_bin EE_sym (op := .gtr) rfl, ev_const, bin_gtr, z1, GDi_tt, X_fieldAddr EE_sym fo_44_0, Nat.add_zero, load1 lay_3, k3, X_bin EE_sym (op := .sub) rfl, bin_sub, z2, z3, z4, z5, X_bin EE_sym (op := .leq) rfl, bin_leq, z6, X_pick EE_sym, pickV_bool, Bool.false_eq_true, CDi_f, w4_18, X_eql EE_sym, eq_int, c2, blockQ_normal, w4_22, X_bin EE_sym (op := .add) rfl, bin_add, hw, roundQ_normal, true_and]
          refine ⟨L.length - (i + 1), _, _, by omega, View.temps (l' := [(44, In ((i + 1 : Nat) : Int)), (43, In L.length), (8, u1), (7, .bool true), (6, Um mu), (5, .slice (some ⟨B, 0, none⟩) L.length cc), (4, PT s), (3, .bool true)]) ⟨rfl, rfl, rfl, rfl, rfl, rfl, rfl, rfl, trivial⟩, i + 1, u1, by omega, rfl, rfl, ?_⟩
          rw [fiL_f he]
          exact hF.bump _
    · obtain rfl : i = L.length := by omega
      have r1 : ¬ (L.length : Int) < (L.length : Int) := by omega
      have hpos := fiL_pos g2 g3
      have e1 : decide ((0 : Int) < ((fiL L mu L.length).length : Int)) = true := decide_eq_true (by omega)
      have hlf : ∀ M, lenA EE.P 36 u1 M = some (In (fiL L mu L.length).length) := fun M => hF.sl.lenA und_36
      by_cases hbig : 100 < mu.toNat
      · have e2 : ((100 : Int) < (mu.toNat : Int)) = True := eq_true (by omega)
        simp only [w4_23, W_seq, w4_13, n5', X_bin EE_sym (op := .lss) rfl, Nat.reduceLT, ev_T, lk_cons, Nat.reduceEqDiff, if_false, if_true, bin_lss, r1, decide_false, okI_some, T_set, X_nil, thenQ_normal, W_cond, CDi_f, W_exit, thenQ_exit, roundQ_exit, blockQ_exit, w4_25, Mem.next_bump, Nat.le_add_right_of_le, bump_bump, Nat.reduceAdd, X_move, X_un EE_sym, un_not, Bool.not_true, X_guard EE_sym, T_get, GDi_ff, X_bin EE_sym (op := .gtr) rfl, ev_const, bin_gtr, e2, decide_true, X_pick EE_sym, pickV_bool, Bool.false_eq_true, CDi_t, w4_27, w4_26, GDi_tt, X_len EE_sym, hlf, e1, X_assign, W_ret, thenQ_ret, FinX_ret, resA_tmp, resA_nil, Option.map_some, oneOr1, true_and]
        exact RawE.of (by simp only [Mem.next_bump]; omega) fun y hy => by rw [Mem.get_bump, hF.nx.old y (by have := hn4.next; omega), hn4.old y hy]
      · have e2 : ((100 : Int) < (mu.toNat : Int)) = False := eq_false (by omega)
        simp only [w4_23, W_seq, w4_13, n5', X_bin EE_sym (op := .lss) rfl, Nat.reduceLT, ev_T, lk_cons, Nat.reduceEqDiff, if_false, if_true, bin_lss, r1, decide_false, okI_some, T_set, X_nil, thenQ_normal, W_cond, CDi_f, W_exit, thenQ_exit, roundQ_exit, blockQ_exit, w4_25, Mem.next_bump, Nat.le_add_right_of_le, bump_bump, Nat.reduceAdd, X_move, X_un EE_sym, un_not, Bool.not_true, X_guard EE_sym, T_get, GDi_ff, X_bin EE_sym (op := .gtr) rfl, ev_const, bin_gtr, e2, X_pick EE_sym, pickV_bool, Bool.false_eq_true, W_skip, w4_28, X_assign, W_block, w4_36, true_and]
        have hmu1 : 1 ≤ mu.toNat := by
          have : mu.toNat ≠ 0 := fun e => g1 (BitVec.eq_of_toNat_eq (by simpa using e))
          omega
        have hS3 := hS2.nx hn4.fresh hF.nx
        have hsl := hS2.lt hn4.fresh
        have hbl : ∀ b, mB v = some b → b < M2.next := fun b hb => (hS2.ltb hn4.fresh hb).1
        have hd0 : decL L (BitVec.ofNat 32 (1 - 1)) = L := dec_zero
        refine WX.loop_of (fun x t M => ∃ i : Nat, 1 ≤ i ∧ i ≤ mu.toNat ∧ x = mu.toNat - i ∧ t = T 136 [(10, .int .u32 (i : Int)), (8, u1), (7, .bool true), (6, Um mu), (5, a), (4, PT s), (3, .bool true)] ∧ SAt M s v (decL L (BitVec.ofNat 32 (i - 1))) ∧ FrS M3 M s v v) ?_ (k := mu.toNat - 1) (t1 := T 136 [(10, .int .u32 ((1 : Nat) : Int)), (8, u1), (7, .bool true), (6, Um mu), (5, a), (4, PT s), (3, .bool true)]) (View.temps ⟨rfl, rfl, rfl, rfl, rfl, rfl, rfl, trivial⟩) ⟨1, by omega, hmu1, rfl, rfl, by rw [hd0]; exact hS3.bump _, (FrS.refl hF.nx.fresh).bump _⟩
        rintro x t M4 ⟨i, hi1, hi, rfl, rfl, hS4, hF4⟩
        have n7 := hF4.next
        have n7' : m.next ≤ M4.next := by omega
        have hG4 := hG.dec g4 (show i - 1 < mu.toNat by omega)
        have hl4 : (decL L (BitVec.ofNat 32 (i - 1))).length < 1000000 := by rw [dec_len]; omega
        by_cases hlast : i < mu.toNat
        · have r1 : ((i : Int) < (mu.toNat : Int)) = True := eq_true (by omega)
          have hw : IntKind.u32.wrap ((i : Int) + 1) = ((i + 1 : Nat) : Int) := by rw [wrapu (by omega) (by have := mu.isLt; omega)]; omega
          have hno := dec_no hG g4 (show i - 1 + 1 < mu.toNat by omega)
          have hwk : wkL (decL L (BitVec.ofNat 32 (i - 1))) (decL L (BitVec.ofNat 32 (i - 1))).length = [] := wk_none hno (Nat.le_refl _)
          have htk : tkL (decL L (BitVec.ofNat 32 (i - 1))) (decL L (BitVec.ofNat 32 (i - 1))).length = decL L (BitVec.ofNat 32 i) := by
            have := tick_none hG4 hno
            unfold tickL at this
            rw [this, dec_dec]
            congr 1
            apply BitVec.eq_of_toNat_eq
            simp only [BitVec.toNat_add, BitVec.toNat_ofNat]
            have := mu.isLt
            omega
          simp only [w4_35, W_seq, w4_29, n7', X_move, Nat.reduceLT, ev_T, lk_cons, Nat.reduceEqDiff, if_false, if_true, T_set, X_bin EE_sym (op := .lss) rfl, bin_lss, r1, decide_true, okI_some, X_nil, thenQ_normal, W_cond, CDi_t, W_skip, W_block, w4_33, w4_30, Mem.next_bump, Nat.le_add_right_of_le, bump_bump, Nat.reduceAdd, X_call ca_12, List.map_cons, List.map_nil, true_and]
          refine CallI.ex2 (tick_ok (hS4.bump _) hF4.fresh.bump hG4.wf hG4.nd hl4) fun u M5 h => ?_
          rw [hwk, htk] at h
          obtain ⟨hsu, _, hS5, hF5⟩ := h
          have hlu : ∀ M, lenA EE.P 36 u M = some (In 0) := fun M => hsu.lenA und_36
          have hF5 := hF4.trans hF5.of_bump
          have n8 := hF5.next
          have n8' : m.next ≤ M5.next := by omega
          simp only [putT, Nat.reduceLT, T_set, X_len EE_sym, ev_T, lk_cons, Nat.reduceEqDiff, if_false, if_true, hlu, okI_some, X_bin EE_sym (op := .gtr) rfl, ev_const, bin_gtr, Int.reduceLT, decide_false, X_nil, thenQ_normal, W_cond, CDi_f, W_skip, blockQ_normal, w4_34, n8', X_move, X_bin EE_sym (op := .add) rfl, bin_add, hw, X_assign, roundQ_normal, true_and]
          exact ⟨mu.toNat - (i + 1), _, _, by omega, View.temps (l' := [(10, .int .u32 ((i + 1 : Nat) : Int)), (8, u1), (7, .bool true), (6, Um mu), (5, a), (4, PT s), (3, .bool true)]) ⟨rfl, rfl, rfl, rfl, rfl, rfl, rfl, trivial⟩, i + 1, by omega, by omega, rfl, rfl, hS5.bump _, hF5.bump _⟩
        · obtain rfl : i = mu.toNat := by omega
          have r1 : ¬ ((mu.toNat : Int) < (mu.toNat : Int)) := by omega
          have hmd : BitVec.ofNat 32 (mu.toNat - 1) = mu - 1#32 := by
            apply BitVec.eq_of_toNat_eq
            have := mu.isLt
            simp only [BitVec.toNat_sub, BitVec.toNat_ofNat]
            omega
          rw [hmd] at hS4 hG4 hl4
          have hwk : wkL (decL L (mu - 1#32)) (decL L (mu - 1#32)).length = fiL L mu L.length := by
            rw [dec_len]
            exact wk_dec (fun y => sub_one) (Nat.le_refl _)
          have htl := tick_len hG4.nd
          unfold wakeL at htl
          rw [hwk, dec_len] at htl
          simp only [w4_35, W_seq, w4_29, n7', X_move, Nat.reduceLT, ev_T, lk_cons, Nat.reduceEqDiff, if_false, if_true, T_set, X_bin EE_sym (op := .lss) rfl, bin_lss, r1, decide_false, okI_some, X_nil, thenQ_normal, W_cond, CDi_f, W_exit, thenQ_exit, roundQ_exit, blockQ_exit, w4_37, Mem.next_bump, Nat.le_add_right_of_le, bump_bump, Nat.reduceAdd, X_guard EE_sym, T_get, GDi_tt, X_len EE_sym, hlf, X_bin EE_sym (op := .gtr) rfl, ev_const, bin_gtr, e1, X_pick EE_sym, pickV_bool, X_call ca_12, List.map_cons, List.map_nil, true_and]
          refine CallI.ex2 (tick_ok (hS4.bump _) hF4.fresh.bump hG4.wf hG4.nd hl4) fun u M5 h => ?_
          rw [hwk] at h
          obtain ⟨hsu, _, hS5, hF5⟩ := h
          have hF5 := hF4.trans hF5.of_bump
          have n8 := hF5.next
          have n8' : m.next ≤ M5.next := by omega
          have hu5 : SlV M5 1 u1 (fiL L mu L.length).length (il (fiL L mu L.length)) := hF.sl.keep fun y o hy ho => by
            have y1 := hF.new y hy
            have y2 := hF.sl.lt hF.nx.fresh hy
            rw [hF5.old y y2 (by omega) (fun e => by have := hbl y e; omega), ho]
          simp only [putT, Nat.reduceLT, T_set, X_guard EE_sym, T_get, lk_cons, Nat.reduceEqDiff, if_false, if_true, GDi_tt, X_move, ev_T, X_call ca_15, List.map_cons, List.map_nil]
          refine CallI.con (same_i hsu hu5 (by omega)) (by simp) ?_
          simp only [putT, Nat.reduceLT, T_set, X_pick EE_sym, ev_T, lk_cons, Nat.reduceEqDiff, if_false, if_true, ev_const, pickV_bool, okI_some, X_move, X_guard EE_sym, T_get, GDi_tt, X_call ca_11, List.map_cons, List.map_nil]
          have hG5 := hG4.tick
          refine CallI.ex2L (all_ok hS5 hF5.fresh hG5.wf (by have h := hG5.len; unfold tickL at h; omega)) (by simp) fun a6 M6 hA6 => ?_
          have hl6 : ∀ M, lenA EE.P 34 a6 M = some (In (tickL (decL L (mu - 1#32))).length) := fun M => hA6.sl.lenA und_34
          have hw6 : IntKind.i64.wrap ((L.length : Int) - ((fiL L mu L.length).length : Int)) = ((tickL (decL L (mu - 1#32))).length : Int) := by rw [wrap_i64 (by omega) (by omega)]; omega
          have n9 := hA6.nx.next
          have n9' : m.next ≤ M6.next := by omega
          simp only [putT, Nat.reduceLT, T_set, X_guard EE_sym, T_get, lk_cons, Nat.reduceEqDiff, if_false, if_true, GDi_tt, X_len EE_sym, ev_T, hl6, okI_some, X_move, hla, hlf, X_bin EE_sym (op := .sub) rfl, bin_sub, hw6, X_eql EE_sym, eq_int, decide_true, X_pick EE_sym, ev_const, pickV_bool, X_assign, X_nil, thenQ_normal, W_ret, FinX_ret, resA_tmp, resA_nil, Option.map_some, oneOr1]
          exact RawE.of n9' fun y hy => by
            rw [hA6.nx.old y (by omega), hF5.old y (by omega) (by omega) (fun e => by have := hv0 y e; omega), hF.nx.old y (by omega), hn4.old y hy]
end
end
end Go.Ab
