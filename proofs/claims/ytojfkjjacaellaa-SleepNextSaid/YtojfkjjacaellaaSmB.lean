/- Sleep: the state; Left, Add, Drop. -/
import Derived.Test.YtojfkjjacaellaaSmA
import Derived.Test.YtojfkjjacaellaaTO
namespace Go.Ab
open Go.Proofs
noncomputable section
set_option maxHeartbeats 4000000
set_option maxRecDepth 10000
set_option linter.unusedVariables false
abbrev Um (x : BitVec 32) : Value := .int .u32 (x.toNat : Int)
abbrev SL := List (Int × BitVec 32)
def mB : Value → Option Nat
  | .map (some b) => some b
  | _ => none
/-- Sleepers, where they lie. -/
structure SAt (m : Mem) (s : Nat) (v : Value) (L : SL) : Prop where
  at_ : ∃ cs, m.get s = some (.cells cs true 0) ∧ cs.n = 1 ∧ cs.nth 0 = some v
  mp : (v = .map none ∧ L = []) ∨ ∃ b, v = .map (some b) ∧ m.get b = some (.map (ml Um L) true)
/-- What is written: the struct, its map, new blocks. -/
structure FrS (m m' : Mem) (s : Nat) (v v' : Value) : Prop where
  next : m.next ≤ m'.next
  fresh : Fresh m'
  old : ∀ y, y < m.next → y ≠ s → mB v ≠ some y → m'.get y = m.get y
  vn : ∀ b, mB v' = some b → mB v = some b ∨ (m.next ≤ b ∧ b < m'.next)
  low : ∀ y, y < m.next → m.get y = none → m'.get y = none
section
variable {m m' : Mem} {s : Nat} {v : Value} {L : SL} {p : Int} {n : BitVec 32}
theorem SAt.keep (h : SAt m s v L) (hs : m'.get s = m.get s) (hb : ∀ b, mB v = some b → m'.get b = m.get b) : SAt m' s v L := by
  obtain ⟨cs, h1, h2⟩ := h.at_
  refine ⟨⟨cs, hs.trans h1, h2⟩, ?_⟩
  rcases h.mp with h | ⟨b, rfl, h3⟩
  · exact .inl h
  · exact .inr ⟨b, rfl, (hb b rfl).trans h3⟩
theorem SAt.bump (h : SAt m s v L) (j : Nat) : SAt (m.bump j) s v L := h.keep rfl fun _ _ => rfl
theorem SAt.lt (h : SAt m s v L) (hm : Fresh m) : s < m.next := by
  obtain ⟨cs, h1, _⟩ := h.at_
  exact hm.lt h1
theorem SAt.ltb (h : SAt m s v L) (hm : Fresh m) {b : Nat} (hb : mB v = some b) : b < m.next ∧ b ≠ s := by
  obtain ⟨cs, h1, _⟩ := h.at_
  rcases h.mp with ⟨rfl, _⟩ | ⟨b', rfl, h3⟩
  · cases hb
  · cases hb
    exact ⟨hm.lt h3, fun e => by rw [e, h1] at h3; cases h3⟩
theorem SAt.nx (h : SAt m s v L) (hm : Fresh m) (hn : Nx m m') : SAt m' s v L := h.keep (hn.old s (h.lt hm)) fun b hb => hn.old b (h.ltb hm hb).1
theorem FrS.of_nx (h : Nx m m') (hv : ∀ b, mB v = some b → True) : FrS m m' s v v := ⟨h.next, h.fresh, fun y hy _ _ => h.old y hy, fun b hb => .inl hb, fun y hy e => by rw [h.old y hy, e]⟩
theorem FrS.refl (hm : Fresh m) : FrS m m s v v := ⟨Nat.le_refl _, hm, fun _ _ _ _ => rfl, fun b hb => .inl hb, fun _ _ e => e⟩
theorem FrS.bump {v' : Value} (h : FrS m m' s v v') (j : Nat) : FrS m (m'.bump j) s v v' := ⟨by rw [Mem.next_bump]; have := h.next; omega, h.fresh.bump, h.old, fun b hb => (h.vn b hb).imp id fun h => ⟨h.1, by rw [Mem.next_bump]; omega⟩, h.low⟩
theorem FrS.of_bump {v' : Value} {j : Nat} (h : FrS (m.bump j) m' s v v') : FrS m m' s v v' := ⟨by have := h.next; rw [Mem.next_bump] at this; omega, h.fresh, fun y hy => h.old y (by rw [Mem.next_bump]; omega), fun b hb => (h.vn b hb).imp id fun h => ⟨by have := h.1; rw [Mem.next_bump] at this; omega, h.2⟩, fun y hy e => h.low y (by rw [Mem.next_bump]; omega) e⟩
theorem FrS.raw {v' u : Value} {R : Value → Mem → Prop} (h : FrS m m' s v v') (hR : R u m') : RawE m m' u R := ⟨⟨h.next, h.low⟩, hR⟩
/-! maps -/
theorem z30 : zeroOf EE.P 30 = some (.int .u32 0) := by kernel_rfl
theorem eq_mnil : eqA EE.P .eql 25 (.tmp 30) (.const (.map none)) (.map none) (.map none) m = some (.bool true) := by kernel_rfl
theorem eq_msome {b : Nat} {x y : Operand} : eqA EE.P .eql 25 x y (.map (some b)) (.map none) m = some (.bool false) := by
  unfold eqA
  simp [und_25, plain, plainN]
theorem box_map {b : Option Nat} : boxL (.map b) = some [.map b] := rfl
theorem lk_at {b : Nat} {k : Int} {ok : Bool} : lookupA EE.P 25 (.map (some b)) (.int .i64 k) ok m = lupC (.int .i64) (.int .u32 0) (.int .i64 k) ok (m.get b) := lookup_at und_25 und_3 z30 rfl
theorem lk_nil {k : Int} {ok : Bool} : lookupA EE.P 25 (.map none) (.int .i64 k) ok m = some (if ok then .tuple #[.int .u32 0, .bool false] else .int .u32 0) := lookup_nil und_25 und_3 z30 rfl
theorem ms_at {b : Nat} {k : Int} {x : Value} : mapSetA EE.P 25 (.map (some b)) (.int .i64 k) x m = msC (.int .i64) (.int .i64 k) x b m (m.get b) := mapSet_at und_25 und_3
theorem md_at {b : Nat} {k : Int} : deleteA EE.P #[25, 3] (.map (some b)) (.int .i64 k) m = mdC (.int .i64) (.int .i64 k) b m (m.get b) := delete_at rfl und_25 und_3
theorem msC_nil {b : Nat} {k x : Value} : msC (.int .i64) k x b m (some (.map [] true)) = some (m.put b (.map [(k, x)] true)) := rfl
theorem getD_Um {o : Option (BitVec 32)} : (o.map Um).getD (.int .u32 0) = Um (o.getD 0) := by cases o <;> rfl
theorem left_ok (h : SAt m s v L) : Con EE.P 21 [PT s, In p] m (.tuple [Um ((mget L p).getD 0), .bool (mget L p).isSome].toArray) m := by
  refine Con.of EE_ok fn21 (Nat.le_of_ble_eq_true rfl) Grow.rfl fun hm => ?_
  obtain ⟨cs, h1, h2, h3⟩ := h.at_
  rcases h.mp with ⟨rfl, rfl⟩ | ⟨b, rfl, h4⟩
  · simp only [f21, enumV, Nat.zero_add, w21, W_seq, w21_0, Nat.le_refl, X_assign, ev_const, Nat.reduceLT, T_set, X_nil, thenQ_normal, w21_1, Mem.next_bump, Nat.le_add_right, bump_bump, Nat.reduceAdd, X_move, ev_T, lk_cons, Nat.reduceEqDiff, Nat.one_ne_zero, if_false, if_true, X_eql EE_sym, eq_ptr_nil und_24, okI_some, W_cond, CDi_f, W_skip, w21_4, X_nilCheck EE_sym, nilV_ptr, X_fieldAddr EE_sym fo_27_0, offV_ptr, Nat.add_zero, X_load EE_sym, load1 lay_25, Mem.get_bump, h1, ld1_cells, h3, X_lookup EE_sym, lk_nil, X_extract EE_sym, List.getElem?_toArray, List.getElem?_cons_zero, List.getElem?_cons_succ, w21_5, W_ret, FinC_ret, resA_tmp, T_get, resA_nil, Option.map_some, oneOr2, true_and]
    exact TidyE.pure rfl fun _ _ => rfl
  · simp only [f21, enumV, Nat.zero_add, w21, W_seq, w21_0, Nat.le_refl, X_assign, ev_const, Nat.reduceLT, T_set, X_nil, thenQ_normal, w21_1, Mem.next_bump, Nat.le_add_right, bump_bump, Nat.reduceAdd, X_move, ev_T, lk_cons, Nat.reduceEqDiff, Nat.one_ne_zero, if_false, if_true, X_eql EE_sym, eq_ptr_nil und_24, okI_some, W_cond, CDi_f, W_skip, w21_4, X_nilCheck EE_sym, nilV_ptr, X_fieldAddr EE_sym fo_27_0, offV_ptr, Nat.add_zero, X_load EE_sym, load1 lay_25, Mem.get_bump, h1, ld1_cells, h3, X_lookup EE_sym, lk_at, h4, lupC_t, getD_Um, X_extract EE_sym, List.getElem?_toArray, List.getElem?_cons_zero, List.getElem?_cons_succ, w21_5, W_ret, FinC_ret, resA_tmp, T_get, resA_nil, Option.map_some, oneOr2, true_and]
    exact TidyE.pure rfl fun _ _ => rfl
def addE (L : SL) (p : Int) (n : BitVec 32) : Int := if p < 1 ∨ n = 0#32 then 2 else if (mget L p).isSome = true then 140 else 0
def addL (L : SL) (p : Int) (n : BitVec 32) : SL := if addE L p n = 0 then mset L p n else L
theorem add_ok (h : SAt m s v L) (hm : Fresh m) : ∃ u m', Con EE.P 9 [PT s, In p, Um n] m u m' ∧ u = In (addE L p n) ∧ ∃ v', SAt m' s v' (addL L p n) ∧ FrS m m' s v v' := by
  refine Con.raw EE_ok fn9 (Nat.le_of_ble_eq_true rfl) _ ?_
  obtain ⟨cs, h1, h2, h3⟩ := h.at_
  have hs := h.lt hm
  simp only [f9, enumV, Nat.zero_add, Nat.reduceAdd, w9, W_seq, w9_0, Nat.le_refl, X_assign, ev_const, Nat.reduceLT, T_set, X_nil, thenQ_normal, w9_1, Mem.next_bump, Nat.le_add_right, bump_bump, X_move, ev_T, lk_cons, Nat.reduceEqDiff, Nat.one_ne_zero, if_false, if_true, X_call ca_21, List.map_cons, List.map_nil, true_and]
  refine CallI.con0 (left_ok (h.bump _)) ?_
  have hn : decide (((n.toNat : Nat) : Int) < 1) = decide (n = 0#32) := decide_eq_decide.2 ⟨fun h => BitVec.eq_of_toNat_eq (by simp; omega), fun h => by rw [h]; decide⟩
  by_cases p1 : p < 1
  · have e1 : addE L p n = 2 := by unfold addE; rw [if_pos (.inl p1)]
    have e2 : addL L p n = L := by unfold addL; rw [e1]; rfl
    rw [e1, e2]
    simp only [putT, Nat.reduceLT, T_set, X_move, ev_T, lk_cons, Nat.reduceEqDiff, if_false, if_true, X_extract EE_sym, List.getElem?_toArray, List.getElem?_cons_zero, okI_some, List.getElem?_cons_succ, X_assign, X_nil, thenQ_normal, W_block, w9_13, W_seq, w9_2, Mem.next_bump, Nat.le_add_right, bump_bump, Nat.reduceAdd, Nat.one_ne_zero, X_eql EE_sym, ev_const, eq_ptr_nil und_24, W_cond, CDi_f, w9_12, w9_5, X_bin EE_sym (op := .lss) rfl, bin_lss, p1, decide_true, X_guard EE_sym, T_get, GDi_tf, X_pick EE_sym, pickV_bool, CDi_t, w9_7, w9_6, W_ret, blockQ_ret, thenQ_ret, FinX_ret, resA_tmp, resA_nil, Option.map_some, oneOr1, true_and]
    exact ((FrS.refl (s := s) (v := v) hm).bump _).raw ⟨rfl, v, h.bump _, (FrS.refl hm).bump _⟩
  · by_cases n1 : n = 0#32
    · have e1 : addE L p n = 2 := by unfold addE; rw [if_pos (.inr n1)]
      have e2 : addL L p n = L := by unfold addL; rw [e1]; rfl
      rw [e1, e2]
      rw [decide_eq_true n1] at hn
      simp only [putT, Nat.reduceLT, T_set, X_move, ev_T, lk_cons, Nat.reduceEqDiff, if_false, if_true, X_extract EE_sym, List.getElem?_toArray, List.getElem?_cons_zero, okI_some, List.getElem?_cons_succ, X_assign, X_nil, thenQ_normal, W_block, w9_13, W_seq, w9_2, Mem.next_bump, Nat.le_add_right, bump_bump, Nat.reduceAdd, Nat.one_ne_zero, X_eql EE_sym, ev_const, eq_ptr_nil und_24, W_cond, CDi_f, w9_12, w9_5, X_bin EE_sym (op := .lss) rfl, bin_lss, p1, decide_false, X_guard EE_sym, T_get, GDi_ff, hn, X_pick EE_sym, pickV_bool, Bool.false_eq_true, CDi_t, w9_7, w9_6, W_ret, blockQ_ret, thenQ_ret, FinX_ret, resA_tmp, resA_nil, Option.map_some, oneOr1, true_and]
      exact ((FrS.refl (s := s) (v := v) hm).bump _).raw ⟨rfl, v, h.bump _, (FrS.refl hm).bump _⟩
    · rw [decide_eq_false n1] at hn
      cases hg : (mget L p).isSome with
      | true =>
        have e1 : addE L p n = 140 := by unfold addE; rw [if_neg (by rintro (h | h); exact p1 h; exact n1 h), if_pos hg]
        have e2 : addL L p n = L := by unfold addL; rw [e1]; rfl
        rw [e1, e2]
        simp only [putT, Nat.reduceLT, T_set, X_move, ev_T, lk_cons, Nat.reduceEqDiff, if_false, if_true, X_extract EE_sym, List.getElem?_toArray, List.getElem?_cons_zero, okI_some, List.getElem?_cons_succ, X_assign, X_nil, thenQ_normal, W_block, w9_13, W_seq, w9_2, Mem.next_bump, Nat.le_add_right, bump_bump, Nat.reduceAdd, Nat.one_ne_zero, X_eql EE_sym, ev_const, eq_ptr_nil und_24, W_cond, CDi_f, w9_12, w9_5, X_bin EE_sym (op := .lss) rfl, bin_lss, p1, decide_false, X_guard EE_sym, T_get, GDi_ff, hn, X_pick EE_sym, pickV_bool, Bool.false_eq_true, w9_11, w9_8, CDi_t, w9_10, w9_9, W_ret, blockQ_ret, thenQ_ret, FinX_ret, resA_tmp, resA_nil, Option.map_some, oneOr1, true_and]
        exact ((FrS.refl (s := s) (v := v) hm).bump _).raw ⟨rfl, v, h.bump _, (FrS.refl hm).bump _⟩
      | false =>
        have e1 : addE L p n = 0 := by unfold addE; rw [if_neg (by rintro (h | h); exact p1 h; exact n1 h), if_neg (by rw [hg]; decide)]
        have e2 : addL L p n = mset L p n := by unfold addL; rw [e1]; rfl
        rw [e1, e2]
        rcases h.mp with ⟨rfl, rfl⟩ | ⟨b, rfl, h4⟩
        · have hsn := ne_new hs
          have hns : ∀ j, ¬ m.next + j = s := fun j => by omega
          simp only [putT, Nat.reduceLT, T_set, X_move, ev_T, lk_cons, Nat.reduceEqDiff, if_false, if_true, X_extract EE_sym, List.getElem?_toArray, List.getElem?_cons_zero, okI_some, List.getElem?_cons_succ, X_assign, X_nil, thenQ_normal, W_block, w9_13, W_seq, w9_2, Mem.next_bump, Nat.le_add_right, bump_bump, Nat.reduceAdd, Nat.one_ne_zero, X_eql EE_sym, ev_const, eq_ptr_nil und_24, W_cond, CDi_f, w9_12, w9_5, X_bin EE_sym (op := .lss) rfl, bin_lss, p1, decide_false, X_guard EE_sym, T_get, GDi_ff, hn, X_pick EE_sym, pickV_bool, Bool.false_eq_true, w9_11, w9_8, W_skip, blockQ_normal, w9_14, X_nilCheck EE_sym, nilV_ptr, X_fieldAddr EE_sym fo_27_0, offV_ptr, Nat.add_zero, X_load EE_sym, load1 lay_25, Mem.get_bump, h1, ld1_cells, h3, eq_mnil, CDi_t, w9_16, w9_15, X_makeMap, Nat.add_assoc, put_bump, X_store, store1 sz_25, Mem.get_put, hsn, cells_map, st1_cells, List.length_cons, List.length_nil, Nat.zero_add, h2, Nat.le_refl, List.all_cons, oneCell, List.all_nil, Bool.and_self, and_self, w9_17, Mem.next_put, nth_write_same, X_mapUpdate, ms_at, hns, msC_nil, w9_18, W_ret, FinX_ret, resA_tmp, resA_nil, Option.map_some, oneOr1, true_and]
          have hF : FrS m ((((m.put (m.next + 27) (.map [] true)).put s (.cells (cs.write 0 [.map (some (m.next + 27))]) true 0)).put (m.next + 27) (.map [(.int .i64 p, Um n)] true)).bump 39) s (.map none) (.map (some (m.next + 27))) := by
            refine ⟨by simp only [Mem.next_bump, Mem.next_put]; omega, Fresh.of_low (by have := hm.n64; simp only [Mem.next_bump, Mem.next_put]; omega) (by repeat (first | exact Low.of hm (by simp only [Mem.next_bump, Mem.next_put]; omega) | refine Low.put ?_ (by simp only [Mem.next_bump, Mem.next_put]; omega) | refine Low.bump ?_)), fun y hy hys _ => by simp only [Mem.get_bump, Mem.get_put, ne_new hy, hys, if_false], fun b hb => ?_, fun y hy e => ?_⟩
            · cases hb
              exact .inr ⟨by omega, by simp only [Mem.next_bump, Mem.next_put]; omega⟩
            · have : ¬ y = s := fun e2 => by rw [e2, h1] at e; cases e
              simp only [Mem.get_bump, Mem.get_put, ne_new hy, this, if_false, e]
          exact hF.raw ⟨rfl, _, ⟨⟨_, by simp only [Mem.get_bump, Mem.get_put, hsn, if_false, if_true]; rfl, by rw [write_n, h2], nth_write_same (by omega)⟩, .inr ⟨_, rfl, by simp only [Mem.get_bump, Mem.get_put, if_true]; rfl⟩⟩, hF⟩
        · have hbs := (h.ltb hm rfl).2
          have hbl := (h.ltb hm rfl).1
          have hsb : ¬ s = b := fun e => hbs e.symm
          simp only [putT, Nat.reduceLT, T_set, X_move, ev_T, lk_cons, Nat.reduceEqDiff, if_false, if_true, X_extract EE_sym, List.getElem?_toArray, List.getElem?_cons_zero, okI_some, List.getElem?_cons_succ, X_assign, X_nil, thenQ_normal, W_block, w9_13, W_seq, w9_2, Mem.next_bump, Nat.le_add_right, bump_bump, Nat.reduceAdd, Nat.one_ne_zero, X_eql EE_sym, ev_const, eq_ptr_nil und_24, W_cond, CDi_f, w9_12, w9_5, X_bin EE_sym (op := .lss) rfl, bin_lss, p1, decide_false, X_guard EE_sym, T_get, GDi_ff, hn, X_pick EE_sym, pickV_bool, Bool.false_eq_true, w9_11, w9_8, W_skip, blockQ_normal, w9_14, X_nilCheck EE_sym, nilV_ptr, X_fieldAddr EE_sym fo_27_0, offV_ptr, Nat.add_zero, X_load EE_sym, load1 lay_25, Mem.get_bump, h1, ld1_cells, h3, eq_msome, w9_17, X_mapUpdate, ms_at, h4, msC_ml, put_bump, w9_18, Mem.next_put, W_ret, FinX_ret, resA_tmp, resA_nil, Option.map_some, oneOr1, true_and]
          have hF : FrS m ((m.put b (.map (ml Um (mset L p n)) true)).bump 34) s (.map (some b)) (.map (some b)) := by
            refine ⟨by simp only [Mem.next_bump, Mem.next_put]; omega, Fresh.of_low (by have := hm.n64; simp only [Mem.next_bump, Mem.next_put]; omega) (by repeat (first | exact Low.of hm (by simp only [Mem.next_bump, Mem.next_put]; omega) | refine Low.put ?_ (by simp only [Mem.next_bump, Mem.next_put]; omega) | refine Low.bump ?_)), fun y hy hys hyb => ?_, fun b hb => .inl hb, fun y hy e => ?_⟩
            · have : ¬ y = b := fun e => hyb (by rw [e]; rfl)
              simp only [Mem.get_bump, Mem.get_put, this, if_false]
            · have : ¬ y = b := fun e2 => by rw [e2, h4] at e; cases e
              simp only [Mem.get_bump, Mem.get_put, this, if_false, e]
          exact hF.raw ⟨rfl, _, ⟨⟨cs, by simp only [Mem.get_bump, Mem.get_put, hsb, if_false]; exact h1, h2, h3⟩, .inr ⟨_, rfl, by simp only [Mem.get_bump, Mem.get_put, if_true]⟩⟩, hF⟩
theorem drop_ok (h : SAt m s v L) (hm : Fresh m) : ∃ u m', Con EE.P 18 [PT s, In p] m u m' ∧ u = .tuple [Um ((mget L p).getD 0), .bool (mget L p).isSome].toArray ∧ SAt m' s v (if (mget L p).isSome then mdel L p else L) ∧ FrS m m' s v v := by
  refine Con.raw EE_ok fn18 (Nat.le_of_ble_eq_true rfl) _ ?_
  obtain ⟨cs, h1, h2, h3⟩ := h.at_
  have hs := h.lt hm
  simp only [f18, enumV, Nat.zero_add, w18, W_seq, w18_0, Nat.le_refl, X_assign, ev_const, Nat.reduceLT, T_set, X_nil, thenQ_normal, w18_1, Mem.next_bump, Nat.le_add_right, bump_bump, Nat.reduceAdd, X_move, ev_T, lk_cons, Nat.reduceEqDiff, Nat.one_ne_zero, if_false, if_true, X_call ca_21, List.map_cons, List.map_nil, true_and]
  refine CallI.con0 (left_ok (h.bump _)) ?_
  cases hg : (mget L p).isSome with
  | false =>
    simp only [putT, Nat.reduceLT, T_set, X_move, ev_T, lk_cons, Nat.reduceEqDiff, if_false, if_true, X_extract EE_sym, List.getElem?_toArray, List.getElem?_cons_zero, okI_some, List.getElem?_cons_succ, X_assign, X_nil, Bool.false_eq_true, thenQ_normal, W_seq, w18_2, Mem.next_bump, Nat.le_add_right, bump_bump, Nat.reduceAdd, W_cond, CDi_f, W_skip, w18_5, W_ret, FinX_ret, resA_tmp, T_get, resA_nil, Option.map_some, oneOr2, true_and]
    exact ((FrS.refl (s := s) (v := v) hm).bump _).raw ⟨rfl, h.bump _, (FrS.refl hm).bump _⟩
  | true =>
    rcases h.mp with ⟨rfl, rfl⟩ | ⟨b, rfl, h4⟩
    · cases hg
    · have hbs := (h.ltb hm rfl).2
      have hbl := (h.ltb hm rfl).1
      have hsb : ¬ s = b := fun e => hbs e.symm
      simp only [putT, Nat.reduceLT, T_set, X_move, ev_T, lk_cons, Nat.reduceEqDiff, if_false, if_true, X_extract EE_sym, List.getElem?_toArray, List.getElem?_cons_zero, okI_some, List.getElem?_cons_succ, X_assign, X_nil, thenQ_normal, W_seq, w18_2, Mem.next_bump, Nat.le_add_right, bump_bump, Nat.reduceAdd, W_cond, CDi_t, w18_4, w18_3, Nat.one_ne_zero, X_nilCheck EE_sym, nilV_ptr, X_fieldAddr EE_sym fo_27_0, offV_ptr, Nat.add_zero, X_load EE_sym, load1 lay_25, Mem.get_bump, h1, ld1_cells, h3, X_delete, md_at, h4, mdC_ml, put_bump, w18_5, Mem.next_put, W_ret, FinX_ret, resA_tmp, T_get, resA_nil, Option.map_some, oneOr2, true_and]
      have hF : ∀ j, FrS m ((m.put b (.map (ml Um (mdel L p)) true)).bump j) s (.map (some b)) (.map (some b)) := fun j => by
        refine ⟨by simp only [Mem.next_bump, Mem.next_put]; omega, Fresh.of_low (by have := hm.n64; simp only [Mem.next_bump, Mem.next_put]; omega) (by repeat (first | exact Low.of hm (by simp only [Mem.next_bump, Mem.next_put]; omega) | refine Low.put ?_ (by simp only [Mem.next_bump, Mem.next_put]; omega) | refine Low.bump ?_)), fun y hy hys hyb => ?_, fun b hb => .inl hb, fun y hy e => ?_⟩
        · have : ¬ y = b := fun e => hyb (by rw [e]; rfl)
          simp only [Mem.get_bump, Mem.get_put, this, if_false]
        · have : ¬ y = b := fun e2 => by rw [e2, h4] at e; cases e
          simp only [Mem.get_bump, Mem.get_put, this, if_false, e]
      exact (hF _).raw ⟨rfl, ⟨⟨cs, by simp only [Mem.get_bump, Mem.get_put, hsb, if_false]; exact h1, h2, h3⟩, .inr ⟨_, rfl, by simp only [Mem.get_bump, Mem.get_put, if_true]⟩⟩, hF _⟩
end
end
end Go.Ab
