/- QueueSpreads: whatever comes in, it answers true. -/
import Derived.Test.YtikmfccjfhobbaaQuI
namespace Go.Ab
open Go.Proofs
noncomputable section
set_option maxHeartbeats 8000000
set_option maxRecDepth 10000
section
variable {base i : Nat} {rest : List (Nat × SOp)} {L : List Inst} {t : List Value} {m : Mem} {K : KI} {rt ty : TypeId} {d : Tmp}
def mnV (f : Array TypeId → TypeId → Array Value → Sem Value) (ts : Array TypeId) (ty : TypeId) (x y : Value) : Option Value := if plain x && plain y then runV EE.P (f ts ty #[x, y]) else none
theorem X_min {x y : Operand} {ts : Array TypeId} : XWi EE base ((i, ⟨some d, .call ⟨.builtin .min, #[x, y], ts⟩, rt, none⟩) :: rest) L t m (Q := K) = okI (mnV Builtin.min_ ts rt (ev x t) (ev y t)) (k := ⟨fun v => XWi EE base rest L (t.set d v) m (Q := K)⟩) := by
  refine propext (Iff.trans (XW_pure rfl rfl) ?_)
  rw [pureE_none EE_sym]
  simp only [pureA, mnV]
  simp [List.all_cons]
  rfl
theorem X_max {x y : Operand} {ts : Array TypeId} : XWi EE base ((i, ⟨some d, .call ⟨.builtin .max, #[x, y], ts⟩, rt, none⟩) :: rest) L t m (Q := K) = okI (mnV Builtin.max_ ts rt (ev x t) (ev y t)) (k := ⟨fun v => XWi EE base rest L (t.set d v) m (Q := K)⟩) := by
  refine propext (Iff.trans (XW_pure rfl rfl) ?_)
  rw [pureE_none EE_sym]
  simp only [pureA, mnV]
  simp [List.all_cons]
  rfl
theorem min_in {x y : Int} : mnV Builtin.min_ #[3, 3] 3 (In x) (In y) = some (In (if y < x then y else x)) := rfl
theorem max_in {x y : Int} : mnV Builtin.max_ #[3, 3] 3 (In x) (In y) = some (In (if x < y then y else x)) := rfl
end
theorem min_nn {x y : Nat} : mnV Builtin.min_ #[3, 3] 3 (In (x : Int)) (In (y : Int)) = some (In ((if y < x then y else x : Nat) : Int)) := by
  rw [min_in]
  split <;> split <;> first | rfl | omega
theorem max_nn {x y : Nat} : mnV Builtin.max_ #[3, 3] 3 (In (x : Int)) (In (y : Int)) = some (In ((if x < y then y else x : Nat) : Int)) := by
  rw [max_in]
  split <;> split <;> first | rfl | omega
theorem pow_w {i : Nat} (h : i < 8) : IntKind.u32.wrap (((2 ^ i : Nat) : Int) * 2) = ((2 ^ (i + 1) : Nat) : Int) := by
  have : ∀ i : Fin 8, IntKind.u32.wrap (((2 ^ i.1 : Nat) : Int) * 2) = ((2 ^ (i.1 + 1) : Nat) : Int) := by decide
  exact this ⟨i, h⟩
theorem U255 : Um 255#32 = .int .u32 255 := rfl
theorem tmodn {b n : Nat} : ((b : Int)).tmod (n : Int) = ((b % n : Nat) : Int) := by
  rw [Int.tmod_eq_emod_of_nonneg (by omega)]; omega
theorem ofn {n b : Nat} (h : b < 256) : IntKind.i64.wrap (b : Int) = (b : Int) := wrap_i64 (by omega) (by omega)
section
variable {m : Mem} {b b2 : Nat}
theorem spreads_ok {x0 : Int} (hm : Fresh m) (hb : b < 256) (hb2 : b2 < 256) : ∃ m', Con EE.P 3 [In x0, .int .u8 b, .int .u8 b2] m (.bool true) m' := by
  generalize x0 = n
  refine Con.raw1 EE_ok fn3 (Nat.le_of_ble_eq_true rfl) ?_
  simp only [f3, enumV, Nat.zero_add, Nat.reduceAdd, w3, W_seq, w3_0, Nat.le_refl, X_assign, ev_const, Nat.reduceLT, T_set, X_nil, thenQ_normal, w3_1, Mem.next_bump, Nat.le_add_right, bump_bump, X_call ca_8, List.map_nil, true_and]
  refine CallI.ex2 (alive_ok (W := fun y => y < m.next) hm.bump fun y hy => by rw [Mem.next_bump]; omega) fun v m1 hv => ?_
  obtain ⟨rfl, w1, f1⟩ := hv
  have w1 := w1.of_bump
  have n1 := w1.next
  have hW1 : ∀ y, y < m.next → y < m1.next := fun y hy => by omega
  have h60 : (60 : Int) ≠ 0 := by decide
  have ht60 : ((b : Int)).tmod 60 = ((b % 60 : Nat) : Int) := tmodn (n := 60)
  have hcb := ofn (n := 0) hb
  have hcb2 := ofn (n := 0) hb2
  by_cases hn : ¬ (1 ≤ n ∧ n ≤ 8)
  · simp only [putT, Nat.reduceLT, T_set, X_assign, ev_T, lk_cons, Nat.reduceEqDiff, if_false, if_true, X_nil, thenQ_normal, W_seq, w3_2, n1, X_move, Nat.one_ne_zero, X_call ca_9, List.map_cons, List.map_nil, true_and]
    refine CallI.con0 (new_bad hn) ?_
    simp only [putT, Nat.reduceLT, T_set, X_move, ev_T, lk_cons, Nat.reduceEqDiff, if_false, if_true, X_extract EE_sym, List.getElem?_toArray, List.getElem?_cons_zero, okI_some, List.getElem?_cons_succ, X_assign, X_nil, thenQ_normal, W_seq, w3_3, Mem.next_bump, n1, Nat.le_add_right_of_le, bump_bump, Nat.reduceAdd, X_convert EE_sym, conv_int und_3 und_5, hcb, X_bin EE_sym (op := .rem) rfl, ev_const, bin_rem h60, ht60, w3_4, X_neq EE_sym, neq_int, Int.reduceEq, decide_false, Bool.not_false, X_guard EE_sym, T_get, GDi_tf, X_pick EE_sym, pickV_bool, W_cond, CDi_t, w3_6, w3_5, W_ret, thenQ_ret, FinX_ret, resA_tmp, resA_nil, Option.map_some, oneOr1, true_and]
    exact RawE.of (by rw [Mem.next_bump]; omega) fun y hy => w1.old y hy
  obtain ⟨c, rfl⟩ : ∃ c : Nat, n = c := ⟨n.toNat, by omega⟩
  have hc1 : 1 ≤ c := by omega
  have hc8 : c ≤ 8 := by omega
  simp only [putT, Nat.reduceLT, T_set, X_assign, ev_T, lk_cons, Nat.reduceEqDiff, if_false, if_true, X_nil, thenQ_normal, W_seq, w3_2, n1, X_move, Nat.one_ne_zero, X_call ca_9, List.map_cons, List.map_nil, true_and]
  refine CallI.ex2 (Qs.new (n := c) (W := fun y => y < m.next) f1.bump (fun y hy => by rw [Mem.next_bump]; have := hW1 y hy; omega) hc1 hc8) fun v m2 hv => ?_
  obtain ⟨q, rfl, h2, w2⟩ := hv
  have w2 := w1.trans w2.of_bump
  have n2 := w2.next
  clear w1 n1 f1 hW1
  obtain ⟨nn, hnn⟩ : ∃ nn, nn = b % 60 := ⟨_, rfl⟩
  rw [← hnn] at ht60
  have hn60 : nn < 60 := by omega
  simp only [putT, Nat.reduceLT, T_set, X_move, ev_T, lk_cons, Nat.reduceEqDiff, if_false, if_true, X_extract EE_sym, List.getElem?_toArray, List.getElem?_cons_zero, okI_some, List.getElem?_cons_succ, X_assign, X_nil, thenQ_normal, W_seq, w3_3, n2, X_convert EE_sym, conv_int und_3 und_5, hcb, X_bin EE_sym (op := .rem) rfl, ev_const, bin_rem h60, ht60, w3_4, Mem.next_bump, Nat.le_add_right_of_le, bump_bump, Nat.reduceAdd, X_neq EE_sym, neq_int, decide_true, Bool.not_true, X_guard EE_sym, T_get, GDi_ff, X_un EE_sym, un_not, X_pick EE_sym, pickV_bool, Bool.false_eq_true, W_cond, CDi_f, W_skip, w3_7, W_block, w3_26, true_and]
  refine WX.loop_of (fun x t M => ∃ (p : Nat) (l : Nat → List Int), p ≤ nn ∧ x = nn - p ∧ t = T 148 [(11, In ((p + 1 : Nat) : Int)), (10, In nn), (8, PT q), (7, .bool true), (2, .int .u8 b2), (0, In c)] ∧ Qs M q c l (fun y => y < m.next) ∧ Wx (fun y => y < m.next) m M ∧ P0 c l p ∧ Bal c l) ?_ (k := nn) (t1 := T 148 [(11, In ((0 + 1 : Nat) : Int)), (10, In nn), (8, PT q), (7, .bool true), (2, .int .u8 b2), (0, In c)]) (View.temps ⟨rfl, rfl, rfl, rfl, rfl, rfl, trivial⟩) ⟨0, _, by omega, rfl, rfl, h2.bump _, w2.bump _, P0.start, fun _ _ _ _ => by simp⟩
  clear h2 w2 n2
  rintro x t M ⟨p, l, hp, rfl, rfl, hQ, hw, hP, hB⟩
  have hnx := hw.next
  have hsh := hP.sh (by omega)
  by_cases hpn : p + 1 ≤ nn
  · have g1 : ((p + 1 : Nat) : Int) ≤ (nn : Int) := by omega
    obtain ⟨f, f1, f2, f3⟩ := few_all (l := l) (a := 255#32) (n := c) (by omega) fun j hj => mb255 (by omega)
    have fq : placeQ c l 255#32 (-1) = f := by
      unfold placeQ
      rw [if_neg (fun e => by omega), f2, Int.toNat_natCast]
    simp only [w3_25, W_seq, w3_8, hnx, X_move, Nat.reduceLT, ev_T, lk_cons, Nat.reduceEqDiff, if_false, if_true, T_set, X_bin EE_sym (op := .leq) rfl, bin_leq, g1, decide_true, okI_some, X_nil, thenQ_normal, W_cond, CDi_t, W_skip, W_block, w3_23, w3_9, Mem.next_bump, Nat.le_add_right_of_le, bump_bump, Nat.reduceAdd, X_call ca_10, List.map_cons, ev_const, List.map_nil, true_and]
    refine CallI.ex2 (Qs.place (k := -1) (a := 255#32) (x := ((p + 1 : Nat) : Int)) (hQ.bump _) hsh (by omega) (by rw [hP.free (by omega)]; decide) (by rw [f2]; omega)) fun v m3 hv => ?_
    obtain ⟨rfl, hQ3, hw3⟩ := hv
    rw [fq] at hQ3 ⊢
    have hw3 := hw.trans hw3.of_bump
    have n3 := hw3.next
    have hP3 := hP.push f1
    have hB3 := hB.push (x := ((p + 1 : Nat) : Int)) f3
    clear hP hB hQ hw hnx hsh f3 f2
    generalize updL l f (l f ++ [((p + 1 : Nat) : Int)]) = l1 at hQ3 hP3 hB3
    have hsh := hP3.sh (by omega)
    simp only [putT, Nat.reduceLT, T_set, X_nil, thenQ_normal, W_seq, w3_10, n3, X_move, ev_T, lk_cons, Nat.reduceEqDiff, if_false, if_true, X_assign, w3_11, Mem.next_bump, Nat.le_add_right_of_le, bump_bump, Nat.reduceAdd, ev_const, w3_12, W_block, w3_19, true_and]
    refine WX.loop_of (fun x t M => ∃ k hi lo : Nat, k ≤ c ∧ x = c - k ∧ t = T 148 [(14, In k), (13, In hi), (12, In lo), (11, In ((p + 1 : Nat) : Int)), (10, In nn), (8, PT q), (7, .bool true), (2, .int .u8 b2), (0, In c)] ∧ Qs M q c l1 (fun y => y < m.next) ∧ Wx (fun y => y < m.next) m M ∧ (hi = 0 ∨ ∃ i, i < c ∧ hi = (l1 i).length) ∧ (lo = nn ∨ ∃ i, i < c ∧ lo = (l1 i).length)) ?_ (k := c) (t1 := T 148 [(14, In (0 : Nat)), (13, In (0 : Nat)), (12, In nn), (11, In ((p + 1 : Nat) : Int)), (10, In nn), (8, PT q), (7, .bool true), (2, .int .u8 b2), (0, In c)]) (View.temps ⟨rfl, rfl, rfl, rfl, rfl, rfl, rfl, rfl, rfl, trivial⟩) ⟨0, 0, nn, by omega, rfl, rfl, hQ3.bump _, hw3.bump _, .inl rfl, .inl rfl⟩
    clear hQ3 hw3 n3
    rintro x t M ⟨k, hi, lo, hk, rfl, rfl, hQ, hw, hhi, hlo⟩
    have hnx := hw.next
    by_cases hkc : k < c
    · have g2 : (k : Int) < (c : Int) := by omega
      have hwk : IntKind.i64.wrap ((k : Int) + 1) = ((k + 1 : Nat) : Int) := by rw [wrap_i64 (by omega) (by omega)]; omega
      simp only [w3_18, W_seq, w3_13, hnx, X_move, Nat.reduceLT, ev_T, lk_cons, Nat.reduceEqDiff, if_false, if_true, T_set, X_bin EE_sym (op := .lss) rfl, bin_lss, g2, decide_true, okI_some, X_nil, thenQ_normal, W_cond, CDi_t, W_skip, W_block, w3_16, w3_14, Mem.next_bump, Nat.le_add_right_of_le, bump_bump, Nat.reduceAdd, X_call ca_11, List.map_cons, List.map_nil, true_and]
      refine CallI.ex2 (Qs.list (hQ.bump _) hsh hkc) fun v M1 hv => ?_
      obtain ⟨hL1, hQ1, hw1⟩ := hv
      have hl1 : ∀ M, lenA EE.P 30 v M = some (In (l1 k).length) := fun M => hL1.sl.lenA und_30
      have hw1 := hw.trans hw1.of_bump
      have n1 := hw1.next
      simp only [putT, Nat.reduceLT, T_set, X_len EE_sym, ev_T, lk_cons, Nat.reduceEqDiff, if_false, if_true, hl1, okI_some, X_min, min_nn, X_assign, X_nil, thenQ_normal, w3_15, n1, X_move, X_call ca_11, List.map_cons, List.map_nil, true_and]
      refine CallI.ex2 (Qs.list (hQ1.bump _) hsh hkc) fun v2 M2 hv => ?_
      obtain ⟨hL2, hQ2, hw2⟩ := hv
      have hl2 : ∀ M, lenA EE.P 30 v2 M = some (In (l1 k).length) := fun M => hL2.sl.lenA und_30
      have hw2 := hw1.trans hw2.of_bump
      have n2 := hw2.next
      simp only [putT, Nat.reduceLT, T_set, X_len EE_sym, ev_T, lk_cons, Nat.reduceEqDiff, if_false, if_true, hl2, okI_some, X_max, max_nn, X_assign, X_nil, blockQ_normal, thenQ_normal, w3_17, n2, X_move, X_bin EE_sym (op := .add) rfl, ev_const, bin_add, hwk, roundQ_normal, true_and]
      refine ⟨c - (k + 1), _, _, by omega, View.temps (l' := [(14, In ((k + 1 : Nat) : Int)), (13, In (if hi < (l1 k).length then (l1 k).length else hi : Nat)), (12, In (if (l1 k).length < lo then (l1 k).length else lo : Nat)), (11, In ((p + 1 : Nat) : Int)), (10, In nn), (8, PT q), (7, .bool true), (2, .int .u8 b2), (0, In c)]) ⟨rfl, rfl, rfl, rfl, rfl, rfl, rfl, rfl, rfl, trivial⟩, k + 1, _, _, by omega, rfl, rfl, hQ2.bump _, hw2.bump _, ?_, ?_⟩
      · split
        · exact .inr ⟨k, hkc, rfl⟩
        · exact hhi
      · split
        · exact .inr ⟨k, hkc, rfl⟩
        · exact hlo
    · have g2 : ¬ (k : Int) < (c : Int) := by omega
      have hle : hi ≤ lo + 1 := by
        rcases hhi with rfl | ⟨i, hi1, rfl⟩
        · omega
        · rcases hlo with rfl | ⟨j, hj1, rfl⟩
          · have := len_tot (l := l1) hi1; rw [hP3.tot] at this; omega
          · exact hB3 i j hi1 hj1
      have hlo60 : lo < 100 := by
        rcases hlo with rfl | ⟨j, hj1, rfl⟩
        · omega
        · have := len_tot (l := l1) hj1; rw [hP3.tot] at this; omega
      have hwl : IntKind.i64.wrap ((lo : Int) + 1) = ((lo + 1 : Nat) : Int) := by rw [wrap_i64 (by omega) (by omega)]; omega
      have hwp : IntKind.i64.wrap (((p + 1 : Nat) : Int) + 1) = ((p + 1 + 1 : Nat) : Int) := by rw [wrap_i64 (by omega) (by omega)]; omega
      have hgt : ¬ ((lo + 1 : Nat) : Int) < (hi : Int) := by omega
      simp only [w3_18, W_seq, w3_13, hnx, X_move, Nat.reduceLT, ev_T, lk_cons, Nat.reduceEqDiff, if_false, if_true, T_set, X_bin EE_sym (op := .lss) rfl, bin_lss, g2, decide_false, okI_some, X_nil, thenQ_normal, W_cond, CDi_f, W_exit, thenQ_exit, roundQ_exit, blockQ_exit, w3_20, Mem.next_bump, Nat.le_add_right_of_le, bump_bump, Nat.reduceAdd, X_bin EE_sym (op := .add) rfl, ev_const, bin_add, hwl, X_bin EE_sym (op := .gtr) rfl, bin_gtr, hgt, W_skip, blockQ_normal, w3_24, hwp, Nat.add_assoc, X_assign, roundQ_normal, true_and]
      exact ⟨nn - (p + 1), _, _, by omega, View.temps (l' := [(11, In ((p + 1 + 1 : Nat) : Int)), (10, In nn), (8, PT q), (7, .bool true), (2, .int .u8 b2), (0, In c)]) ⟨rfl, rfl, rfl, rfl, rfl, rfl, trivial⟩, p + 1, l1, by omega, rfl, rfl, hQ.bump _, hw.bump _, hP3, hB3⟩
  · obtain rfl : p = nn := by omega
    have g1 : ¬ ((p + 1 : Nat) : Int) ≤ (p : Int) := by omega
    have hc0 : (c : Int) ≠ 0 := by omega
    have htc : ((b2 : Int)).tmod (c : Int) = ((b2 % c : Nat) : Int) := tmodn
    obtain ⟨kk, hkk⟩ : ∃ kk, kk = b2 % c := ⟨_, rfl⟩
    rw [← hkk] at htc
    have hkc : kk < c := by rw [hkk]; exact Nat.mod_lt _ (by omega)
    clear hkk g1
    have g1 : ¬ ((p : Int) + 1) ≤ (p : Int) := by omega
    have g1' : ¬ ((p + 1 : Nat) : Int) ≤ (p : Int) := by omega
    simp only [w3_25, W_seq, w3_8, hnx, X_move, Nat.reduceLT, ev_T, lk_cons, Nat.reduceEqDiff, if_false, if_true, T_set, X_bin EE_sym (op := .leq) rfl, bin_leq, g1', decide_false, okI_some, X_nil, thenQ_normal, W_cond, CDi_f, W_exit, thenQ_exit, roundQ_exit, blockQ_exit, w3_27, Mem.next_bump, Nat.le_add_right_of_le, bump_bump, Nat.reduceAdd, X_convert EE_sym, conv_int und_3 und_5, hcb2, X_bin EE_sym (op := .rem) rfl, bin_rem hc0, htc, X_assign, w3_28, X_call ca_11, List.map_cons, List.map_nil, true_and]
    refine CallI.ex2 (R := fun v M1 => SlI M1 v (l kk) ∧ Qs M1 q c l (fun y => y < m.next ∨ slB v = some y) ∧ Wx (fun y => y < m.next) m M1) (by
      obtain ⟨O, sl, cs, k1, k2⟩ := (hQ.bump 12).at_
      obtain ⟨v, M1, hc, hL⟩ := list_ok (m := M.bump _) k1 hQ.fresh.bump hkc (hsh kk)
      exact ⟨v, M1, hc, hL.sl, (hQ.bump _).add hL.nx fun y hy => ⟨hL.new y hy, hL.sl.lt hL.nx.fresh hy⟩, hw.trans (Wx.of_nx hL.nx.of_bump hQ.wlt)⟩) fun v M1 hv => ?_
    obtain ⟨hsv, hQ1, hw1⟩ := hv
    have n1 := hw1.next
    simp only [putT, Nat.reduceLT, T_set, X_assign, ev_T, lk_cons, Nat.reduceEqDiff, if_false, if_true, X_nil, thenQ_normal, W_seq, w3_29, n1, ev_const, w3_30, Mem.next_bump, Nat.le_add_right_of_le, bump_bump, Nat.reduceAdd, W_block, w3_36, true_and]
    refine WX.loop_of (fun x t M => ∃ i j : Nat, i ≤ kk ∧ x = kk - i ∧ t = T 148 [(18, In i), (17, .int .u32 ((2 ^ i : Nat) : Int)), (16, v), (15, In kk), (10, In p), (8, PT q), (7, .bool true)] ∧ M = M1.bump j) ?_ (k := kk) (t1 := T 148 [(18, In (0 : Nat)), (17, .int .u32 ((2 ^ 0 : Nat) : Int)), (16, v), (15, In kk), (10, In p), (8, PT q), (7, .bool true)]) (View.temps ⟨rfl, rfl, rfl, rfl, rfl, rfl, rfl, trivial⟩) ⟨0, _, by omega, rfl, rfl, rfl⟩
    rintro x t M' ⟨i, j, hi, rfl, rfl, rfl⟩
    by_cases hik : i < kk
    · have g2 : (i : Int) < (kk : Int) := by omega
      have hwi : IntKind.i64.wrap ((i : Int) + 1) = ((i + 1 : Nat) : Int) := by rw [wrap_i64 (by omega) (by omega)]; omega
      have hpw := pow_w (i := i) (by omega)
      simp only [w3_35, W_seq, w3_31, Mem.next_bump, n1, Nat.le_add_right_of_le, bump_bump, X_move, Nat.reduceLT, ev_T, lk_cons, Nat.reduceEqDiff, if_false, if_true, T_set, X_bin EE_sym (op := .lss) rfl, bin_lss, g2, decide_true, okI_some, X_nil, thenQ_normal, W_cond, CDi_t, W_skip, W_block, w3_33, w3_32, Nat.add_assoc, Nat.reduceAdd, X_bin EE_sym (op := .mul) rfl, ev_const, bin_mul, hpw, X_assign, blockQ_normal, w3_34, X_bin EE_sym (op := .add) rfl, bin_add, hwi, roundQ_normal, true_and]
      exact ⟨kk - (i + 1), _, _, by omega, View.temps (l' := [(18, In ((i + 1 : Nat) : Int)), (17, .int .u32 ((2 ^ (i + 1) : Nat) : Int)), (16, v), (15, In kk), (10, In p), (8, PT q), (7, .bool true)]) ⟨rfl, rfl, rfl, rfl, rfl, rfl, rfl, trivial⟩, i + 1, _, by omega, rfl, rfl, rfl⟩
    obtain rfl : i = kk := by omega
    have g2 : ¬ (i : Int) < (i : Int) := by omega
    have hpn := pow_nat (k := i) (by omega)
    simp only [w3_35, W_seq, w3_31, Mem.next_bump, n1, Nat.le_add_right_of_le, bump_bump, X_move, Nat.reduceLT, ev_T, lk_cons, Nat.reduceEqDiff, if_false, if_true, T_set, X_bin EE_sym (op := .lss) rfl, bin_lss, g2, decide_false, okI_some, X_nil, thenQ_normal, W_cond, CDi_f, W_exit, thenQ_exit, roundQ_exit, blockQ_exit, w3_37, Nat.add_assoc, Nat.reduceAdd, X_assign, ev_const, W_block, w3_46, true_and]
    obtain ⟨mk, hmk⟩ : ∃ mk, mk = BitVec.ofNat 32 (2 ^ i) := ⟨_, rfl⟩
    have hmb : ∀ j, j < c → mb mk j = decide (j = i) := fun j hj => by rw [hmk]; exact mbpow (by omega) (by omega)
    have hfew : ∀ l', fewTo l' mk c = (i : Nat) := fun l' => by rw [few_one hmb, if_pos hkc]
    rw [← hmk] at hpn
    rw [← hpn]
    generalize hwas : l i = was at hsv
    refine WX.loop_of (fun x t M => ∃ (r : Nat) (l' : Nat → List Int), r ≤ p ∧ x = p - r ∧ t = T 148 [(19, In ((r + 1 : Nat) : Int)), (17, Um mk), (16, v), (15, In i), (10, In p), (8, PT q), (7, .bool true)] ∧ Qs M q c l' (fun y => y < m.next ∨ slB v = some y) ∧ Wx (fun y => y < m.next) m M ∧ SlI M v was ∧ P2 c i p was l' (r + 1)) ?_ (k := p) (t1 := T 148 [(19, In ((0 + 1 : Nat) : Int)), (17, Um mk), (16, v), (15, In i), (10, In p), (8, PT q), (7, .bool true)]) (View.temps ⟨rfl, rfl, rfl, rfl, rfl, rfl, rfl, trivial⟩) ⟨0, l, by omega, rfl, rfl, hQ1.bump _, hw1.bump _, hsv.bump _, hwas ▸ P2.start hP⟩
    clear hQ1 hw1 hsv n1 hP hB hQ hw hnx hsh
    clear hwas l
    rintro x t M ⟨r, l, hr, rfl, rfl, hQ, hw, hsv, hP⟩
    have hnx := hw.next
    have hsh := hP.p0.sh (by omega)
    by_cases hrp : r < p
    · have g3 : ((r + 1 : Nat) : Int) ≤ (p : Int) := by omega
      have hwr : IntKind.i64.wrap (((r + 1 : Nat) : Int) + 1) = ((r + 1 + 1 : Nat) : Int) := by rw [wrap_i64 (by omega) (by omega)]; omega
      obtain ⟨w, hwc, hin, hwq⟩ := hP.p0.at_ (x := ((r + 1 : Nat) : Int)) (by omega) (by omega)
      by_cases hwi : w = i
      · subst hwi
        simp only [w3_45, W_seq, w3_38, hnx, X_move, Nat.reduceLT, ev_T, lk_cons, Nat.reduceEqDiff, if_false, if_true, T_set, X_bin EE_sym (op := .leq) rfl, bin_leq, g3, decide_true, okI_some, X_nil, thenQ_normal, W_cond, CDi_t, W_skip, W_block, w3_43, w3_39, Mem.next_bump, Nat.le_add_right_of_le, bump_bump, Nat.reduceAdd, X_call ca_12, List.map_cons, List.map_nil, true_and]
        refine CallI.con0 (Qs.move_in (a := mk) (hQ.bump _) hsh hwq (by rw [hfew]; omega) (by rw [hmb w hwc]; simp)) ?_
        simp only [putT, Nat.reduceLT, T_set, X_move, ev_T, lk_cons, Nat.reduceEqDiff, if_false, if_true, X_extract EE_sym, List.getElem?_toArray, List.getElem?_cons_zero, okI_some, List.getElem?_cons_succ, X_assign, X_nil, thenQ_normal, W_seq, w3_40, Mem.next_bump, hnx, Nat.le_add_right_of_le, bump_bump, Nat.reduceAdd, X_neq EE_sym, ev_const, neq_int, decide_true, Bool.not_true, X_guard EE_sym, T_get, GDi_ff, X_pick EE_sym, pickV_bool, Bool.false_eq_true, W_cond, CDi_f, W_skip, blockQ_normal, w3_44, X_bin EE_sym (op := .add) rfl, bin_add, hwr, Nat.add_assoc, roundQ_normal, true_and]
        exact ⟨p - (r + 1), _, _, by omega, View.temps (l' := [(19, In ((r + 1 + 1 : Nat) : Int)), (17, Um mk), (16, v), (15, In w), (10, In p), (8, PT q), (7, .bool true)]) ⟨rfl, rfl, rfl, rfl, rfl, rfl, rfl, trivial⟩, r + 1, l, by omega, rfl, rfl, hQ.bump _, hw.bump _, hsv.bump _, hP.stay hwc hin⟩
      · obtain ⟨ix, x1, x2, x3⟩ := idx_in hin
        have hM := hP.move hkc hwc hwi hin
        have he := erase_at (i := 0) (j := ix) (show idxFrom ((r + 1 : Nat) : Int) (l w) 0 = ((0 + ix : Nat) : Int) by rw [Nat.zero_add]; exact x2)
        simp only [w3_45, W_seq, w3_38, hnx, X_move, Nat.reduceLT, ev_T, lk_cons, Nat.reduceEqDiff, if_false, if_true, T_set, X_bin EE_sym (op := .leq) rfl, bin_leq, g3, decide_true, okI_some, X_nil, thenQ_normal, W_cond, CDi_t, W_skip, W_block, w3_43, w3_39, Mem.next_bump, Nat.le_add_right_of_le, bump_bump, Nat.reduceAdd, X_call ca_12, List.map_cons, List.map_nil, true_and]
        refine CallI.ex2 (Qs.move_to (a := mk) (hQ.bump _) hsh (by omega) hwq x1 x2 (by rw [hfew]; omega) (by rw [hmb w hwc]; simpa using hwi)) fun u M3 hv => ?_
        obtain ⟨rfl, hQ3, hw3⟩ := hv
        unfold moveL at hQ3
        rw [hfew, Int.toNat_natCast, he] at hQ3
        rw [hfew, Int.toNat_natCast]
        have hsv3 : SlI M3 v was := hsv.keep fun y o hy ho => by rw [hw3.old y (.inr hy)]; exact ho
        have hw3 := hw.trans (hw3.of_bump.mono fun y hy => .inl hy)
        have n3 := hw3.next
        simp only [putT, Nat.reduceLT, T_set, X_move, ev_T, lk_cons, Nat.reduceEqDiff, if_false, if_true, X_extract EE_sym, List.getElem?_toArray, List.getElem?_cons_zero, okI_some, List.getElem?_cons_succ, X_assign, X_nil, thenQ_normal, W_seq, w3_40, n3, X_neq EE_sym, ev_const, neq_int, decide_true, Bool.not_true, X_guard EE_sym, T_get, GDi_ff, X_pick EE_sym, pickV_bool, Bool.false_eq_true, W_cond, CDi_f, W_skip, blockQ_normal, w3_44, Mem.next_bump, Nat.le_add_right_of_le, bump_bump, Nat.reduceAdd, X_bin EE_sym (op := .add) rfl, bin_add, hwr, Nat.add_assoc, roundQ_normal, true_and]
        exact ⟨p - (r + 1), _, _, by omega, View.temps (l' := [(19, In ((r + 1 + 1 : Nat) : Int)), (17, Um mk), (16, v), (15, In i), (10, In p), (8, PT q), (7, .bool true)]) ⟨rfl, rfl, rfl, rfl, rfl, rfl, rfl, trivial⟩, r + 1, _, by omega, rfl, rfl, hQ3.bump _, hw3.bump _, hsv3.bump _, hM⟩
    obtain rfl : r = p := by omega
    have g3 : ¬ ((r + 1 : Nat) : Int) ≤ (r : Int) := by omega
    have hlen := hP.done hkc
    obtain ⟨e, he1, he2, _⟩ := hP.ext
    simp only [w3_45, W_seq, w3_38, hnx, X_move, Nat.reduceLT, ev_T, lk_cons, Nat.reduceEqDiff, if_false, if_true, T_set, X_bin EE_sym (op := .leq) rfl, bin_leq, g3, decide_false, okI_some, X_nil, thenQ_normal, W_cond, CDi_f, W_exit, thenQ_exit, roundQ_exit, blockQ_exit, w3_47, Mem.next_bump, Nat.le_add_right_of_le, bump_bump, Nat.reduceAdd, X_call ca_11, List.map_cons, List.map_nil, true_and]
    refine CallI.ex2 (Qs.list (hQ.bump _) hsh hkc) fun v2 M4 hv => ?_
    obtain ⟨hL, hQ4, hw4⟩ := hv
    have hsv4 : SlI M4 v was := hsv.keep fun y o hy ho => by rw [hw4.old y (.inr hy)]; exact ho
    have hw4 := hw.trans (hw4.of_bump.mono fun y hy => .inl hy)
    have n4 := hw4.next
    have hs2 := hL.sl
    have hlw : ∀ M, lenA EE.P 30 v M = some (In was.length) := fun M => hsv4.lenA und_30
    have hl2 : ∀ M, lenA EE.P 30 v2 M = some (In (l i).length) := fun M => hs2.lenA und_30
    have hle : (l i).length = was.length + e.length := by rw [he1, List.length_append]
    clear hL hQ4 hQ hw hsv hP hsh
    simp only [putT, Nat.reduceLT, T_set, X_assign, ev_T, lk_cons, Nat.reduceEqDiff, if_false, if_true, X_nil, thenQ_normal, W_seq, w3_48, n4, ev_const, W_block, w3_56, true_and]
    refine WX.loop_of (fun x t M => ∃ z j : Nat, z ≤ was.length ∧ x = was.length - z ∧ t = T 148 [(23, In z), (22, v2), (16, v), (10, In r), (7, .bool true)] ∧ M = M4.bump j) ?_ (k := was.length) (t1 := T 148 [(23, In (0 : Nat)), (22, v2), (16, v), (10, In r), (7, .bool true)]) (View.temps ⟨rfl, rfl, rfl, rfl, rfl, trivial⟩) ⟨0, _, by omega, rfl, rfl, rfl⟩
    rintro x t M' ⟨z, j, hz, rfl, rfl, rfl⟩
    by_cases hzw : z < was.length
    · have g4 : (z : Int) < (was.length : Int) := by omega
      have g5 : (z : Int) < ((l i).length : Int) := by omega
      have g6 : (0 : Int) ≤ z := by omega
      have hwz : IntKind.i64.wrap ((z : Int) + 1) = ((z + 1 : Nat) : Int) := by rw [wrap_i64 (by omega) (by omega)]; omega
      obtain ⟨B, cc, cB, rfl, k1, k2, k3, k4⟩ := hsv4.cons (by omega)
      obtain ⟨B2, cc2, cB2, rfl, j1, j2, j3, j4⟩ := hs2.cons (by omega)
      have q3 : cB.nth z = some (In (was.getD z 0)) := by rw [nth_lt (by omega), k4 z (by simpa using hzw), il_getD hzw]
      have q4 : cB2.nth z = some (In (was.getD z 0)) := by
        rw [nth_lt (by omega), j4 z (by rw [List.length_map]; omega), il_getD (by omega), he1]
        simp only [List.getD_eq_getElem?_getD, List.getElem?_append_left hzw]
      simp only [w3_55, W_seq, w3_49, Mem.next_bump, n4, Nat.le_add_right_of_le, bump_bump, X_move, Nat.reduceLT, ev_T, lk_cons, Nat.reduceEqDiff, if_false, if_true, T_set, X_len EE_sym, len_slice und_30, okI_some, X_bin EE_sym (op := .lss) rfl, bin_lss, g4, decide_true, X_nil, thenQ_normal, W_cond, CDi_t, W_skip, W_block, w3_53, w3_50, Nat.add_assoc, Nat.reduceAdd, X_indexAddr EE_sym, g6, g5, idxV_slice und_30 sz_3, Int.toNat_natCast, Nat.mul_one, Nat.zero_add, X_load EE_sym, load1 lay_3, Mem.get_bump, j1, ld1_cells, q4, k1, q3, X_neq EE_sym, neq_int, Bool.not_true, CDi_f, blockQ_normal, w3_54, X_bin EE_sym (op := .add) rfl, ev_const, bin_add, hwz, X_assign, roundQ_normal, true_and]
      exact ⟨was.length - (z + 1), _, _, by omega, View.temps (l' := [(23, In ((z + 1 : Nat) : Int)), (22, .slice (some ⟨B2, 0, none⟩) (l i).length cc2), (16, .slice (some ⟨B, 0, none⟩) was.length cc), (10, In r), (7, .bool true)]) ⟨rfl, rfl, rfl, rfl, rfl, trivial⟩, z + 1, _, by omega, rfl, rfl, rfl⟩
    have g4 : ¬ (z : Int) < (was.length : Int) := by omega
    have hww : IntKind.i64.wrap ((was.length : Int) + 1) = ((was.length + 1 : Nat) : Int) := by rw [wrap_i64 (by omega) (by omega)]; omega
    simp only [w3_55, W_seq, w3_49, Mem.next_bump, n4, Nat.le_add_right_of_le, bump_bump, X_move, Nat.reduceLT, ev_T, lk_cons, Nat.reduceEqDiff, if_false, if_true, T_set, X_len EE_sym, hlw, okI_some, X_bin EE_sym (op := .lss) rfl, bin_lss, g4, decide_false, X_nil, thenQ_normal, W_cond, CDi_f, W_exit, thenQ_exit, roundQ_exit, blockQ_exit, w3_57, Nat.add_assoc, Nat.reduceAdd, X_bin EE_sym (op := .add) rfl, ev_const, bin_add, hww, X_assign, W_block, w3_65, true_and]
    refine WX.loop_of (fun x t M => ∃ z j : Nat, x = e.length - z ∧ t = T 148 [(24, In ((was.length + 1 + z : Nat) : Int)), (22, v2), (10, In r), (7, .bool true)] ∧ M = M4.bump j) ?_ (k := e.length) (t1 := T 148 [(24, In ((was.length + 1 + 0 : Nat) : Int)), (22, v2), (10, In r), (7, .bool true)]) (View.temps ⟨rfl, rfl, rfl, rfl, trivial⟩) ⟨0, _, rfl, rfl, rfl⟩
    rintro x t M' ⟨y, j2, rfl, rfl, rfl⟩
    by_cases hzy : y + 1 < e.length
    · have g7 : ((was.length + 1 + y : Nat) : Int) < ((l i).length : Int) := by omega
      have g8 : (0 : Int) ≤ ((was.length + 1 + y : Nat) : Int) := by omega
      have g9 : ((was.length + y : Nat) : Int) < ((l i).length : Int) := by omega
      have g10 : (0 : Int) ≤ ((was.length + y : Nat) : Int) := by omega
      have hwz : IntKind.i64.wrap (((was.length + 1 + y : Nat) : Int) + 1) = ((was.length + (1 + (y + 1)) : Nat) : Int) := by rw [wrap_i64 (by omega) (by omega)]; omega
      have hwm : IntKind.i64.wrap (((was.length + 1 + y : Nat) : Int) - 1) = ((was.length + y : Nat) : Int) := by rw [wrap_i64 (by omega) (by omega)]; omega
      obtain ⟨B2, cc2, cB2, rfl, i1, i2, i3, i4⟩ := hs2.cons (by omega)
      have hg : ∀ o, o < e.length → cB2.nth (was.length + o) = some (In (e.getD o 0)) := fun o ho => by
        rw [nth_lt (by omega), i4 _ (by rw [List.length_map]; omega), il_getD (by omega), he1]
        simp only [List.getD_eq_getElem?_getD, List.getElem?_append_right (Nat.le_add_right _ _), Nat.add_sub_cancel_left]
      have q3 := hg y (by omega)
      have q4 : cB2.nth (was.length + 1 + y) = some (In (e.getD (y + 1) 0)) := by rw [← hg (y + 1) hzy]; congr 1; omega
      have q5 : ¬ e.getD (y + 1) 0 ≤ e.getD y 0 := by have := he2 y hzy; omega
      clear hlw hl2 hs2
      generalize was.length + 1 + y = u at g7 g8 hwz hwm q4 ⊢
      generalize was.length + y = u' at g9 g10 hwm q3
      have hl3 : ∀ M, lenA EE.P 30 (.slice (some ⟨B2, 0, none⟩) (l i).length cc2) M = some (In (l i).length) := fun M => len_slice und_30
      simp only [w3_64, W_seq, w3_58, Mem.next_bump, n4, Nat.le_add_right_of_le, bump_bump, X_move, Nat.reduceLT, ev_T, lk_cons, Nat.reduceEqDiff, if_false, if_true, T_set, X_len EE_sym, len_slice und_30, okI_some, X_bin EE_sym (op := .lss) rfl, bin_lss, g7, decide_true, X_nil, Nat.add_assoc, thenQ_normal, W_cond, CDi_t, W_skip, W_block, w3_62, w3_59, Nat.reduceAdd, X_indexAddr EE_sym, g8, idxV_slice und_30 sz_3, Int.toNat_natCast, Nat.mul_one, Nat.zero_add, X_load EE_sym, load1 lay_3, Mem.get_bump, i1, ld1_cells, q4, X_bin EE_sym (op := .sub) rfl, ev_const, bin_sub, hwm, g10, g9, q3, X_bin EE_sym (op := .leq) rfl, bin_leq, q5, decide_false, CDi_f, blockQ_normal, w3_63, X_bin EE_sym (op := .add) rfl, bin_add, hwz, X_assign, roundQ_normal, true_and]
      exact ⟨e.length - (y + 1), _, _, by omega, View.temps (l' := [(24, In ((was.length + (1 + (y + 1)) : Nat) : Int)), (22, .slice (some ⟨B2, 0, none⟩) (l i).length cc2), (10, In r), (7, .bool true)]) ⟨rfl, rfl, rfl, rfl, trivial⟩, y + 1, _, rfl, rfl, rfl⟩
    · have g7 : ¬ ((was.length + 1 + y : Nat) : Int) < ((l i).length : Int) := by omega
      have g8 : ((l i).length : Int) = (r : Int) := by omega
      have g9 : ¬ ((was.length + 1 + y : Nat) : Int) < (r : Int) := by omega
      rw [hlen] at hl2
      generalize was.length + 1 + y = u at g9 ⊢
      simp only [w3_64, W_seq, w3_58, Mem.next_bump, n4, Nat.le_add_right_of_le, bump_bump, X_move, Nat.reduceLT, ev_T, lk_cons, Nat.reduceEqDiff, if_false, if_true, T_set, X_len EE_sym, hl2, okI_some, X_bin EE_sym (op := .lss) rfl, bin_lss, g9, decide_false, X_nil, Nat.add_assoc, thenQ_normal, W_cond, CDi_f, W_exit, thenQ_exit, roundQ_exit, blockQ_exit, w3_66, Nat.reduceAdd, X_guard EE_sym, T_get, GDi_tt, X_eql EE_sym, eq_int, decide_true, X_pick EE_sym, ev_const, pickV_bool, X_assign, W_ret, FinX_ret, resA_tmp, resA_nil, Option.map_some, oneOr1, true_and]
      exact RawE.of (by rw [Mem.next_bump]; omega) fun z hz => hw4.old z hz
end
end
end Go.Ab
