/- TreeOrphans: whatever the room, the calls, who exits, and with what, it answers true. -/
import Derived.Test.YtjajeeoahbidlaaTrLN
namespace Go.Ab
open Go.Proofs
noncomputable section
set_option maxHeartbeats 8000000
set_option maxRecDepth 10000
section
variable {L : TL} {a p q room top : Int} {s : BitVec 32}
theorem one_kid (h : Gt L room top) (hp : p ∈ mkeys L) : 1 ∉ kids L p := fun e => by
  have h1 := (mem_kids.1 e).2
  rw [h.one] at h1
  have := (h.rng p hp).1
  have h2 : (0 : Int) = p := h1.2
  omega
theorem self_kid (h : Gt L room top) : p ∉ kids L p := fun e => by
  have h1 := mem_kids.1 e
  have := h.Par.lt h1.1
  omega
/-- Other processes' children stay. -/
theorem exit_kids (h : Gt L room top) (he : exitE L p = 0) (ha : a ≠ p) (h1 : a ≠ 1) : kids (exitL L p s) a = kids L a := by
  obtain ⟨hp, hp1, _⟩ := exit_at h he
  obtain ⟨g1, g2⟩ := exit_keys (s := s) h he
  unfold kids ks
  rw [g1]
  refine List.filter_congr fun q hq => ?_
  have hq := (isort_perm _).mem_iff.1 hq
  unfold kid
  rw [g2]
  by_cases e : q = p
  · rw [if_pos e, e]
  · rw [if_neg e]
    by_cases e2 : q ∈ kids L p
    · rw [if_pos e2, (mem_kids.1 e2).2.2]
      show (decide (0 < a) && decide ((1 : Int) = a)) = (decide (0 < a) && decide (p = a))
      rw [decide_eq_false (Ne.symm h1), decide_eq_false (Ne.symm ha)]
    · rw [if_neg e2]
/-- Who exits has none. -/
theorem exit_none (h : Gt L room top) (he : exitE L p = 0) : kids (exitL L p s) p = [] := by
  obtain ⟨hp, hp1, _⟩ := exit_at h he
  obtain ⟨g1, g2⟩ := exit_keys (s := s) h he
  refine List.eq_nil_iff_forall_not_mem.2 fun q hq => ?_
  obtain ⟨k1, k2, k3⟩ := mem_kids.1 hq
  rw [g1] at k1
  rw [g2] at k3
  by_cases e : q = p
  · rw [if_pos e] at k3
    have := h.Par.lt hp
    have k3 : (at_ L p).1 = p := k3
    omega
  · rw [if_neg e] at k3
    by_cases e2 : q ∈ kids L p
    · rw [if_pos e2] at k3
      exact hp1 k3.symm
    · rw [if_neg e2] at k3
      exact e2 (mem_kids.2 ⟨k1, k2, k3⟩)
end
section
variable {m : Mem} {l : Value} {n : Nat} {room p : Int} {s : BitVec 32}
theorem orphans_ok (hm : Fresh m) (hl : Ops m l n) : ∃ m', Con EE.P 3 [In room, l, In p, Um s] m (.bool true) m' := by
  refine Con.raw1 EE_ok fn3 (Nat.le_of_ble_eq_true rfl) ?_
  have hlen : ∀ M, lenA EE.P 22 l M = some (In n) := fun M => by
    obtain ⟨aa, C, rfl, _⟩ := id hl
    exact len_slice und_22
  simp only [f3, enumV, Nat.zero_add, Nat.reduceAdd, w3, W_seq, w3_0, Nat.le_refl, X_assign, ev_const, Nat.reduceLT, T_set, X_nil, thenQ_normal, w3_1, Mem.next_bump, Nat.le_add_right, bump_bump, X_call ca_7, List.map_nil, true_and]
  refine CallI.con0 alive_ok ?_
  by_cases hr : ¬ (1 ≤ room ∧ room ≤ 32)
  · simp only [putT, Nat.reduceLT, T_set, X_assign, ev_T, lk_cons, Nat.reduceEqDiff, if_false, if_true, X_nil, thenQ_normal, W_seq, w3_2, Mem.next_bump, Nat.le_add_right, bump_bump, Nat.reduceAdd, X_move, Nat.one_ne_zero, X_call ca_8, List.map_cons, List.map_nil, true_and]
    refine CallI.con0 (new_no (by omega)) ?_
    by_cases hn : 60 < n
    · have hx : ((60 : Int) < (n : Int)) = True := eq_true (by omega)
      simp only [putT, Nat.reduceLT, T_set, X_move, ev_T, lk_cons, Nat.reduceEqDiff, if_false, if_true, X_extract EE_sym, List.getElem?_toArray, List.getElem?_cons_zero, okI_some, List.getElem?_cons_succ, X_assign, X_nil, thenQ_normal, W_seq, w3_3, Mem.next_bump, Nat.le_add_right, bump_bump, Nat.reduceAdd, X_len EE_sym, hlen, X_bin EE_sym (op := .gtr) rfl, ev_const, bin_gtr, hx, decide_true, X_guard EE_sym, T_get, GDi_tf, X_pick EE_sym, pickV_bool, W_cond, CDi_t, w3_5, w3_4, W_ret, thenQ_ret, FinX_ret, resA_tmp, resA_nil, Option.map_some, oneOr1, true_and]
      exact RawE.of (by simp only [Mem.next_bump]; omega) fun y hy => rfl
    · have hx : ((60 : Int) < (n : Int)) = False := eq_false (by omega)
      simp only [putT, Nat.reduceLT, T_set, X_move, ev_T, lk_cons, Nat.reduceEqDiff, if_false, if_true, X_extract EE_sym, List.getElem?_toArray, List.getElem?_cons_zero, okI_some, List.getElem?_cons_succ, X_assign, X_nil, thenQ_normal, W_seq, w3_3, Mem.next_bump, Nat.le_add_right, bump_bump, Nat.reduceAdd, X_len EE_sym, hlen, X_bin EE_sym (op := .gtr) rfl, ev_const, bin_gtr, hx, decide_false, X_guard EE_sym, T_get, GDi_ff, X_neq EE_sym, neq_int, Int.reduceEq, Bool.not_false, X_pick EE_sym, pickV_bool, Bool.false_eq_true, GDi_tf, W_cond, CDi_t, w3_5, w3_4, W_ret, thenQ_ret, FinX_ret, resA_tmp, resA_nil, Option.map_some, oneOr1, true_and]
      exact RawE.of (by simp only [Mem.next_bump]; omega) fun y hy => rfl
  have hr : 1 ≤ room ∧ room ≤ 32 := Classical.byContradiction hr
  simp only [putT, Nat.reduceLT, T_set, X_assign, ev_T, lk_cons, Nat.reduceEqDiff, if_false, if_true, X_nil, thenQ_normal, W_seq, w3_2, Mem.next_bump, Nat.le_add_right, bump_bump, Nat.reduceAdd, X_move, Nat.one_ne_zero, X_call ca_8, List.map_cons, List.map_nil, true_and]
  refine CallI.ex2 (new_ok (m := m.bump _) hm.bump hr) fun u M0 hv => ?_
  obtain ⟨t, b, rfl, ht, hb, hT, hn0⟩ := hv
  rw [Mem.next_bump] at ht hb
  have hn0 := hn0.of_bump
  have n0 := hn0.next
  by_cases hn : 60 < n
  · have hx : ((60 : Int) < (n : Int)) = True := eq_true (by omega)
    simp only [putT, Nat.reduceLT, T_set, X_move, ev_T, lk_cons, Nat.reduceEqDiff, if_false, if_true, X_extract EE_sym, List.getElem?_toArray, List.getElem?_cons_zero, okI_some, List.getElem?_cons_succ, X_assign, X_nil, thenQ_normal, W_seq, w3_3, n0, X_len EE_sym, hlen, X_bin EE_sym (op := .gtr) rfl, ev_const, bin_gtr, hx, decide_true, X_guard EE_sym, T_get, GDi_tf, X_pick EE_sym, pickV_bool, W_cond, CDi_t, w3_5, w3_4, Mem.next_bump, Nat.le_add_right_of_le, bump_bump, Nat.reduceAdd, W_ret, thenQ_ret, FinX_ret, resA_tmp, resA_nil, Option.map_some, oneOr1, true_and]
    exact RawE.of (by simp only [Mem.next_bump]; omega) fun y hy => hn0.old y hy
  have hx : ((60 : Int) < (n : Int)) = False := eq_false (by omega)
  simp only [putT, Nat.reduceLT, T_set, X_move, ev_T, lk_cons, Nat.reduceEqDiff, if_false, if_true, X_extract EE_sym, List.getElem?_toArray, List.getElem?_cons_zero, okI_some, List.getElem?_cons_succ, X_assign, X_nil, thenQ_normal, W_seq, w3_3, n0, X_len EE_sym, hlen, X_bin EE_sym (op := .gtr) rfl, ev_const, bin_gtr, hx, decide_false, X_guard EE_sym, T_get, GDi_ff, X_neq EE_sym, neq_int, decide_true, Bool.not_true, X_pick EE_sym, pickV_bool, Bool.false_eq_true, X_un EE_sym, un_not, W_cond, CDi_f, W_skip, w3_6, Mem.next_bump, Nat.le_add_right_of_le, bump_bump, Nat.reduceAdd, W_block, true_and]
  refine WX.mono ?_ (or_ops (p := p) (s := s) hm rfl rfl rfl rfl rfl rfl hl (by omega) ⟨hn0.bump _, ⟨by omega, by omega⟩, _, _, hT.bump _, Gt.start hr⟩ (Nat.le_refl _))
  rintro x tt M1 ⟨rfl, J, rfl, ⟨j10, j1, j2, j3, j9⟩, hO⟩
  obtain ⟨top, L, hT, hG⟩ := hO.at_
  have hL := hG.len32
  have n1 := hO.nx.next
  have hF1 := hO.nx.fresh
  have j1 : lk J 1 = l := j1
  have j2 : lk J 2 = In p := j2
  have j3 : lk J 3 = Um s := j3
  have j9 : lk J 9 = .bool true := j9
  simp only [blockQ_exit, if_true, thenQ_normal, W_seq, w3_29, n1, X_move, Nat.reduceLT, ev_T, j10, T_set, lk_cons, Nat.reduceEqDiff, j2, if_false, X_call ca_13, List.map_cons, List.map_nil, true_and]
  refine CallI.ex2 (children_ok (pid := p) (hT.bump _) hF1.bump hG.wf (by omega)) fun v1 M2 hK => ?_
  have hK := hK.of_bump
  have hT2 := hT.nx hF1 hK.nx
  have hF2 := hK.nx.fresh
  have hm2 := hO.nx.trans hK.nx
  have n2 := hm2.next
  simp only [putT, Nat.reduceLT, T_set, X_assign, ev_T, lk_cons, Nat.reduceEqDiff, if_false, if_true, X_nil, thenQ_normal, W_seq, w3_30, n2, X_move, j10, j2, X_call ca_14, List.map_cons, List.map_nil, true_and]
  refine CallI.con0 (parent_ok (hT2.bump _)) ?_
  simp only [putT, Nat.reduceLT, T_set, X_assign, ev_T, lk_cons, Nat.reduceEqDiff, if_false, if_true, X_nil, thenQ_normal, W_seq, w3_31, Mem.next_bump, n2, Nat.le_add_right_of_le, bump_bump, Nat.reduceAdd, ev_const, w3_32, W_block, true_and]
  have hkl := kids_len (L := L) (pid := p)
  refine WX.mono ?_ (or_below (p := p) (s := s) (K := kids L p) (up := (at_ L p).1) (hT2.bump _) hF2.bump hG.wf (by omega) (hK.sl.bump _) (by omega) j10 rfl rfl rfl rfl j2 j3 j9 (by rw [Mem.next_bump]; omega))
  rintro x tt M3 ⟨rfl, J2, vb, us, rfl, ⟨i10, i13, i14, i15, i2, i3, i9⟩, hB⟩
  have hn3 := hB.nv.nx.of_bump
  have hT3 := hT2.nx hF2 hn3
  have hF3 := hn3.fresh
  have hm3 := hm2.trans hn3
  have n3 := hm3.next
  simp only [blockQ_exit, if_true, thenQ_normal, W_seq, w3_39, n3, X_move, Nat.reduceLT, ev_T, i10, T_set, X_call ca_15, List.map_cons, lk_cons, List.map_nil, true_and]
  refine CallI.ex2 (all_ok (hT3.bump _) hF3.bump hG.wf (by omega)) fun va M4 hA => ?_
  have hA := hA.of_bump
  have hT4 := hT3.nx hF3 hA.nx
  have hF4 := hA.nx.fresh
  have hm4 := hm3.trans hA.nx
  have n4 := hm4.next
  have hlA : ∀ M, lenA EE.P 33 va M = some (In L.length) := fun M => hA.sl.lenA und_33
  simp only [putT, Nat.reduceLT, T_set, X_len EE_sym, ev_T, lk_cons, Nat.reduceEqDiff, if_false, if_true, hlA, okI_some, X_assign, X_nil, thenQ_normal, W_seq, w3_40, n4, X_move, i10, i2, i3, X_call ca_10, List.map_cons, List.map_nil, true_and]
  refine CallI.ex2 (exit_ok (p := p) (s := s) (hT4.bump _) hF4.bump hG.wf (by omega)) fun u M5 hv => ?_
  obtain ⟨⟨vg, rfl, hvg, hvn⟩, hT5, hF5⟩ := hv
  have hF5 := hF5.of_bump
  have hm5 := hm4.frT hO.lo hF5
  have n5 := hm5.next
  by_cases he : exitE L p = 0
  · have d0 := decide_eq_true he
    rw [if_pos he] at hvg
    obtain ⟨hpk, hp1, hpl⟩ := exit_at hG he
    obtain ⟨g1, g2⟩ := exit_keys (s := s) hG he
    have hGE := hG.exit (p := p) (s := s)
    obtain ⟨E, hE⟩ : ∃ E, E = exitL L p s := ⟨_, rfl⟩
    have hEp : at_ E p = ((at_ L p).1, 2, s) := by rw [hE, g2, if_pos rfl]
    have hEn : kids E p = [] := by rw [hE]; exact exit_none hG he
    have hEl : E.length = L.length := by
      have := congrArg List.length g1
      rw [List.length_map, List.length_map] at this
      rw [hE]; exact this
    have hEk : E.length ≤ 32 := by omega
    obtain ⟨K, hKd⟩ : ∃ K, K = kids L p := ⟨_, rfl⟩
    have hKj : ∀ j, j < K.length → K.getD j 0 ∈ kids L p := fun j hj => hKd ▸ getD_mem hj
    have hKne : ∀ j, j < K.length → K.getD j 0 ≠ p ∧ K.getD j 0 ≠ 1 := fun j hj => ⟨fun e => self_kid hG (e ▸ hKj j hj), fun e => one_kid hG hpk (e ▸ hKj j hj)⟩
    have hkE : ∀ j, j < K.length → kids E (K.getD j 0) = kids L (K.getD j 0) := fun j hj => by rw [hE]; exact exit_kids hG he (hKne j hj).1 (hKne j hj).2
    have hparE : ∀ j, j < K.length → (at_ E (K.getD j 0)).1 = 1 := fun j hj => by rw [hE, g2, if_neg (hKne j hj).1, if_pos (hKj j hj)]
    rw [exitB_kids hG hpk, ← hKd] at hvg
    rw [← hE] at hT5 hGE
    rw [← hKd] at hK hB hkl
    have lt1 := hT.lt hF1
    have kp : ∀ y o, M1.next ≤ y → y < M4.next → M4.get y = some o → M5.get y = some o := fun y o e1 e2 e3 => by rw [hF5.old y e2 (by omega) (by omega), e3]
    have hn34 := hn3.trans hA.nx
    have hv1 : SlV M5 1 v1 K.length (il K) := (hK.sl.nx hF2 hn34).keep fun y o hy ho => kp y o (hK.new y hy) ((hK.sl.nx hF2 hn34).lt hF4 hy) ho
    have n12 := hK.nx.next
    have hvb : SlV M5 1 vb K.length us := (hB.nv.sl.nx hF3 hA.nx).keep fun y o hy ho => kp y o (by have := hB.nv.new y hy; rw [Mem.next_bump] at this; omega) ((hB.nv.sl.nx hF3 hA.nx).lt hF4 hy) ho
    have hus : ∀ j, j < K.length → SlV M5 1 (us.getD j undef) (kids E (K.getD j 0)).length (il (kids E (K.getD j 0))) := fun j hj => by
      obtain ⟨h1, h2⟩ := hB.el j hj
      rw [hkE j hj]
      exact (h1.nx hF3 hA.nx).keep fun y o hy ho => kp y o (by have := (h2 y hy).1; rw [Mem.next_bump] at this; omega) ((h1.nx hF3 hA.nx).lt hF4 hy) ho
    have hFF := hF5.fresh
    simp only [putT, Nat.reduceLT, T_set, X_move, ev_T, lk_cons, Nat.reduceEqDiff, if_false, if_true, X_extract EE_sym, List.getElem?_toArray, List.getElem?_cons_zero, okI_some, List.getElem?_cons_succ, X_assign, X_nil, thenQ_normal, W_seq, w3_41, n5, X_neq EE_sym, ev_const, neq_int, d0, Bool.not_true, W_cond, CDi_f, W_skip, w3_44, Mem.next_bump, Nat.le_add_right_of_le, bump_bump, Nat.reduceAdd, i13, X_call ca_16, List.map_cons, List.map_nil, true_and]
    refine CallI.con0 (same_i (hvg.bump _) (hv1.bump _) (by omega)) ?_
    simp only [putT, Nat.reduceLT, T_set, X_un EE_sym, ev_T, lk_cons, Nat.reduceEqDiff, if_false, if_true, un_not, Bool.not_true, okI_some, X_move, X_guard EE_sym, T_get, GDi_ff, i10, i2, X_call ca_17, List.map_cons, List.map_nil]
    refine CallI.con (state_ok (hT5.bump _)) (by simp) ?_
    rw [hEp]
    simp only [putT, Nat.reduceLT, T_set, X_guard EE_sym, T_get, lk_cons, Nat.reduceEqDiff, if_false, if_true, GDi_ff, X_neq EE_sym, ev_T, ev_const, neq_int, decide_true, Bool.not_true, okI_some, X_pick EE_sym, pickV_bool, Bool.false_eq_true, X_move, i10, i2, X_call ca_18, List.map_cons, List.map_nil]
    refine CallI.con (status_ok (hT5.bump _)) (by simp) ?_
    rw [hEp]
    simp only [putT, Nat.reduceLT, T_set, X_guard EE_sym, T_get, lk_cons, Nat.reduceEqDiff, if_false, if_true, GDi_ff, X_move, ev_T, i3, X_neq EE_sym, neq_int, decide_true, Bool.not_true, okI_some, X_pick EE_sym, ev_const, pickV_bool, Bool.false_eq_true, i10, i2, X_call ca_14, List.map_cons, List.map_nil]
    refine CallI.con (parent_ok (hT5.bump _)) (by simp) ?_
    rw [hEp]
    simp only [putT, Nat.reduceLT, T_set, X_guard EE_sym, T_get, lk_cons, Nat.reduceEqDiff, if_false, if_true, GDi_ff, X_move, ev_T, i14, X_neq EE_sym, neq_int, decide_true, Bool.not_true, okI_some, X_pick EE_sym, ev_const, pickV_bool, Bool.false_eq_true, i10, i2, X_call ca_13, List.map_cons, List.map_nil]
    refine CallI.ex2L (children_ok (pid := p) (hT5.bump _) hFF.bump hGE.wf (by omega)) (by simp) fun u6 M6 hN6 => ?_
    have hN6 := hN6.of_bump
    rw [hEn] at hN6
    have hm6 := hm5.trans hN6.nx
    have n6 := hm6.next
    have hl6 : ∀ M, lenA EE.P 33 u6 M = some (In ((0 : Nat) : Int)) := fun M => hN6.sl.lenA und_33
    have hz : decide (((0 : Nat) : Int) = 0) = true := by decide
    have hT6 := hT5.nx hFF hN6.nx
    have hF6 := hN6.nx.fresh
    simp only [putT, Nat.reduceLT, T_set, X_guard EE_sym, T_get, lk_cons, Nat.reduceEqDiff, if_false, if_true, GDi_ff, X_len EE_sym, ev_T, hl6, okI_some, X_neq EE_sym, ev_const, neq_int, hz, Bool.not_true, X_pick EE_sym, pickV_bool, Bool.false_eq_true, X_nil, thenQ_normal, W_cond, CDi_f, W_skip, W_seq, w3_47, n6, X_assign, W_block, true_and]
    refine WX.mono ?_ (or_check (p := p) (s := s) (up := (at_ L p).1) (mn := (L.length : Int)) (hT6.bump _) hF6.bump hGE.wf (by omega) ((hv1.nx hFF hN6.nx).bump _) (by omega) ((hvb.nx hFF hN6.nx).bump _) (fun j hj => ((hus j hj).nx hFF hN6.nx).bump _) hparE i10 i13 i14 i15 rfl rfl i2 i3 i9 (by rw [Mem.next_bump]; omega))
    rintro x tt M7 ⟨rfl, J3, rfl, ⟨e10, e14, e17, e2, e3, e9⟩, hn7⟩
    have hn7 := hn7.of_bump
    have hT7 := hT6.nx hF6 hn7
    have hm7 := hm6.trans hn7
    have n7 := hm7.next
    have hpin : p ∈ mkeys E := by rw [hE, g1]; exact hpk
    have hup : p ≠ (at_ L p).1 := fun e => by have := hG.Par.lt hpk; omega
    simp only [blockQ_exit, if_true, thenQ_normal, W_seq, w3_56, n7, X_assign, ev_const, Nat.reduceLT, T_set, X_nil, W_block, true_and]
    refine WX.mono ?_ (or_reap (p := p) (s := s) (up := (at_ L p).1) (mn := L.length) (hT7.bump _) hGE hn7.fresh.bump ⟨.inl ⟨hEp, hpin, by omega⟩⟩ hL hup e10 e14 e17 rfl e2 e3 e9 (by rw [Mem.next_bump]; omega))
    rintro x tt M8 ⟨rfl, J4, A, rfl, ⟨f10, f14, f2, f9⟩, hT8, hor, hF8⟩
    have hF8 := hF8.of_bump
    have hm8 := hm7.frT hO.lo hF8
    have n8 := hm8.next
    simp only [blockQ_exit, if_true, thenQ_normal, W_seq, w3_66, n8, X_move, Nat.reduceLT, ev_T, f9, T_set, lk_cons, X_guard EE_sym, T_get, Nat.reduceEqDiff, if_false, GDi_tt, f10, f14, X_call ca_17, List.map_cons, List.map_nil, true_and]
    refine CallI.con0 (state_ok (hT8.bump _)) ?_
    by_cases c1 : (at_ A (at_ L p).1).2.1 = 1
    · have d1 : decide ((at_ A (at_ L p).1).2.1 = 1) = true := decide_eq_true c1
      simp only [putT, Nat.reduceLT, T_set, X_guard EE_sym, T_get, lk_cons, Nat.reduceEqDiff, if_false, if_true, GDi_tt, X_neq EE_sym, ev_T, ev_const, neq_int, d1, Bool.not_true, okI_some, X_move, GDi_ff, f10, f2, X_call ca_17, List.map_cons, List.map_nil]
      refine CallI.con (state_ok (hT8.bump _)) (by simp [Ne.symm hup]) ?_
      have d2 : decide ((at_ A p).2.1 = 0) = true := decide_eq_true (hor.resolve_left fun h => h c1)
      simp only [putT, Nat.reduceLT, T_set, X_guard EE_sym, T_get, lk_cons, Nat.reduceEqDiff, if_false, if_true, GDi_ff, X_eql EE_sym, ev_T, ev_const, eq_int, d2, okI_some, GDi_tt, X_pick EE_sym, pickV_bool, Bool.false_eq_true, X_assign, X_nil, thenQ_normal, W_ret, FinX_ret, resA_tmp, resA_nil, Option.map_some, oneOr1]
      exact RawE.of (by simp only [Mem.next_bump]; omega) fun y hy => hm8.old y hy
    · have d1 : decide ((at_ A (at_ L p).1).2.1 = 1) = false := decide_eq_false c1
      simp only [putT, Nat.reduceLT, T_set, X_guard EE_sym, T_get, lk_cons, Nat.reduceEqDiff, if_false, if_true, GDi_tt, X_neq EE_sym, ev_T, ev_const, neq_int, d1, Bool.not_false, okI_some, X_move, GDi_tf, X_pick EE_sym, pickV_bool, X_assign, X_nil, thenQ_normal, W_ret, FinX_ret, resA_tmp, resA_nil, Option.map_some, oneOr1]
      exact RawE.of (by simp only [Mem.next_bump]; omega) fun y hy => hm8.old y hy
  · have d0 := decide_eq_false he
    rw [if_neg he] at hvg
    subst hvg
    have hz : decide (((0 : Nat) : Int) = 0) = true := by decide
    have hLL : exitL L p s = L := by unfold exitL; rw [if_neg he]
    rw [hLL] at hT5
    simp only [putT, Nat.reduceLT, T_set, X_move, ev_T, lk_cons, Nat.reduceEqDiff, if_false, if_true, X_extract EE_sym, List.getElem?_toArray, List.getElem?_cons_zero, okI_some, List.getElem?_cons_succ, X_assign, X_nil, thenQ_normal, W_seq, w3_41, n5, X_neq EE_sym, ev_const, neq_int, d0, Bool.not_false, W_cond, CDi_t, w3_43, w3_42, Mem.next_bump, Nat.le_add_right_of_le, bump_bump, Nat.reduceAdd, i9, X_guard EE_sym, T_get, GDi_tt, X_len EE_sym, len_slice und_33, X_eql EE_sym, eq_int, hz, X_pick EE_sym, pickV_bool, i10, X_call ca_15, List.map_cons, List.map_nil, true_and]
    refine CallI.ex2 (all_ok (hT5.bump _) hF5.fresh.bump hG.wf (by omega)) fun vc M6 hA2 => ?_
    have hA2 := hA2.of_bump
    have hm6 := hm5.trans hA2.nx
    have n6 := hm6.next
    have hlC : ∀ M, lenA EE.P 33 vc M = some (In L.length) := fun M => hA2.sl.lenA und_33
    simp only [putT, Nat.reduceLT, T_set, X_guard EE_sym, T_get, lk_cons, Nat.reduceEqDiff, if_false, if_true, GDi_tt, X_len EE_sym, ev_T, hlC, okI_some, X_move, X_eql EE_sym, eq_int, decide_true, X_pick EE_sym, ev_const, pickV_bool, X_assign, X_nil, thenQ_normal, W_ret, thenQ_ret, FinX_ret, resA_tmp, resA_nil, Option.map_some, oneOr1]
    exact RawE.of hm6.next fun y hy => hm6.old y hy
theorem orphans_x {x0 x2 : Int} {a3 : BitVec 32} (hm : Fresh m) (hl : Ops m l n) : ∃ m', Con EE.P 3 [In x0, l, In x2, Um a3] m (.bool true) m' := orphans_ok hm hl
end
end
end Go.Ab
