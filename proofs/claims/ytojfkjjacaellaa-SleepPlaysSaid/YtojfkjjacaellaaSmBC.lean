/- Sleep: the state; Left, Add, Drop. -/
import Derived.Test.YtojfkjjacaellaaSmA
import Derived.Test.YtojfkjjacaellaaTO
import Derived.Test.YtojfkjjacaellaaSleSort
namespace Go.Ab
open Go.Proofs
noncomputable section
set_option maxHeartbeats 4000000
set_option maxRecDepth 10000
set_option linter.unusedVariables false
abbrev Um (x : BitVec 32) : Value := .int .u32 (x.toNat : Int)
abbrev SL := List (Int × BitVec 32)
def mB : Value → Option Nat
  | .map (some b) => some b
  | _ => none
/-- Sleepers, where they lie. -/
structure SAt (m : Mem) (s : Nat) (v : Value) (L : SL) : Prop where
  at_ : ∃ cs, m.get s = some (.cells cs true 0) ∧ cs.n = 1 ∧ cs.nth 0 = some v
  mp : (v = .map none ∧ L = []) ∨ ∃ b, v = .map (some b) ∧ m.get b = some (.map (ml Um L) true)
/-- What is written: the struct, its map, new blocks. -/
structure FrS (m m' : Mem) (s : Nat) (v v' : Value) : Prop where
  next : m.next ≤ m'.next
  fresh : Fresh m'
  old : ∀ y, y < m.next → y ≠ s → mB v ≠ some y → m'.get y = m.get y
  vn : ∀ b, mB v' = some b → mB v = some b ∨ (m.next ≤ b ∧ b < m'.next)
  low : ∀ y, y < m.next → m.get y = none → m'.get y = none
section
variable {m m' : Mem} {s : Nat} {v : Value} {L : SL} {p : Int} {n : BitVec 32}
theorem SAt.keep (h : SAt m s v L) (hs : m'.get s = m.get s) (hb : ∀ b, mB v = some b → m'.get b = m.get b) : SAt m' s v L := by
  obtain ⟨cs, h1, h2⟩ := h.at_
  refine ⟨⟨cs, hs.trans h1, h2⟩, ?_⟩
  rcases h.mp with h | ⟨b, rfl, h3⟩
  · exact .inl h
  · exact .inr ⟨b, rfl, (hb b rfl).trans h3⟩
theorem SAt.bump (h : SAt m s v L) (j : Nat) : SAt (m.bump j) s v L := h.keep rfl fun _ _ => rfl
theorem SAt.lt (h : SAt m s v L) (hm : Fresh m) : s < m.next := by
  obtain ⟨cs, h1, _⟩ := h.at_
  exact hm.lt h1
theorem SAt.ltb (h : SAt m s v L) (hm : Fresh m) {b : Nat} (hb : mB v = some b) : b < m.next ∧ b ≠ s := by
  obtain ⟨cs, h1, _⟩ := h.at_
  rcases h.mp with ⟨rfl, _⟩ | ⟨b', rfl, h3⟩
  · cases hb
  · cases hb
    exact ⟨hm.lt h3, fun e => by rw [e, h1] at h3; cases h3⟩
theorem SAt.nx (h : SAt m s v L) (hm : Fresh m) (hn : Nx m m') : SAt m' s v L := h.keep (hn.old s (h.lt hm)) fun b hb => hn.old b (h.ltb hm hb).1
theorem FrS.of_nx (h : Nx m m') (hv : ∀ b, mB v = some b → True) : FrS m m' s v v := ⟨h.next, h.fresh, fun y hy _ _ => h.old y hy, fun b hb => .inl hb, fun y hy e => by rw [h.old y hy, e]⟩
theorem FrS.refl (hm : Fresh m) : FrS m m s v v := ⟨Nat.le_refl _, hm, fun _ _ _ _ => rfl, fun b hb => .inl hb, fun _ _ e => e⟩
theorem FrS.bump {v' : Value} (h : FrS m m' s v v') (j : Nat) : FrS m (m'.bump j) s v v' := ⟨by rw [Mem.next_bump]; have := h.next; omega, h.fresh.bump, h.old, fun b hb => (h.vn b hb).imp id fun h => ⟨h.1, by rw [Mem.next_bump]; omega⟩, h.low⟩
theorem FrS.of_bump {v' : Value} {j : Nat} (h : FrS (m.bump j) m' s v v') : FrS m m' s v v' := ⟨by have := h.next; rw [Mem.next_bump] at this; omega, h.fresh, fun y hy => h.old y (by rw [Mem.next_bump]; omega), fun b hb => (h.vn b hb).imp id fun h => ⟨by have := h.1; rw [Mem.next_bump] at this; omega, h.2⟩, fun y hy e => h.low y (by rw [Mem.next_bump]; omega) e⟩
theorem FrS.raw {v' u : Value} {R : Value → Mem → Prop} (h : FrS m m' s v v') (hR : R u m') : RawE m m' u R := ⟨⟨h.next, h.low⟩, hR⟩
/-! maps -/
theorem z30 : zeroOf EE.P 30 = some (.int .u32 0) := by kernel_rfl
theorem eq_mnil : eqA EE.P .eql 25 (.tmp 30) (.const (.map none)) (.map none) (.map none) m = some (.bool true) := by kernel_rfl
theorem eq_msome {b : Nat} {x y : Operand} : eqA EE.P .eql 25 x y (.map (some b)) (.map none) m = some (.bool false) := by
  unfold eqA
  simp [und_25, plain, plainN]
theorem box_map {b : Option Nat} : boxL (.map b) = some [.map b] := rfl
theorem lk_at {b : Nat} {k : Int} {ok : Bool} : lookupA EE.P 25 (.map (some b)) (.int .i64 k) ok m = lupC (.int .i64) (.int .u32 0) (.int .i64 k) ok (m.get b) := lookup_at und_25 und_3 z30 rfl
theorem lk_nil {k : Int} {ok : Bool} : lookupA EE.P 25 (.map none) (.int .i64 k) ok m = some (if ok then .tuple #[.int .u32 0, .bool false] else .int .u32 0) := lookup_nil und_25 und_3 z30 rfl
theorem ms_at {b : Nat} {k : Int} {x : Value} : mapSetA EE.P 25 (.map (some b)) (.int .i64 k) x m = msC (.int .i64) (.int .i64 k) x b m (m.get b) := mapSet_at und_25 und_3
theorem md_at {b : Nat} {k : Int} : deleteA EE.P #[25, 3] (.map (some b)) (.int .i64 k) m = mdC (.int .i64) (.int .i64 k) b m (m.get b) := delete_at rfl und_25 und_3
theorem msC_nil {b : Nat} {k x : Value} : msC (.int .i64) k x b m (some (.map [] true)) = some (m.put b (.map [(k, x)] true)) := rfl
theorem getD_Um {o : Option (BitVec 32)} : (o.map Um).getD (.int .u32 0) = Um (o.getD 0) := by cases o <;> rfl
theorem left_ok (h : SAt m s v L) : Con EE.P 21 [PT s, In p] m (.tuple [Um ((mget L p).getD 0), .bool (mget L p).isSome].toArray) m := by
  refine Con.of EE_ok fn21 (Nat.le_of_ble_eq_true rfl) Grow.rfl fun hm => ?_
  obtain ⟨cs, h1, h2, h3⟩ := h.at_
  rcases h.mp with ⟨rfl, rfl⟩ | ⟨b, rfl, h4⟩
  · simp only [f21, enumV, Nat.zero_add, w21, W_seq, w21_0, Nat.le_refl, X_assign, ev_const, Nat.reduceLT, T_set, X_nil, thenQ_normal, w21_1, Mem.next_bump, Nat.le_add_right, bump_bump, Nat.reduceAdd, X_move, ev_T, lk_cons, Nat.reduceEqDiff, Nat.one_ne_zero, if_false, if_true, X_eql EE_sym, eq_ptr_nil und_24, okI_some, W_cond, CDi_f, W_skip, w21_4, X_nilCheck EE_sym, nilV_ptr, X_fieldAddr EE_sym fo_27_0, offV_ptr, Nat.add_zero, X_load EE_sym, load1 lay_25, Mem.get_bump, h1, ld1_cells, h3, X_lookup EE_sym, lk_nil, X_extract EE_sym, List.getElem?_toArray, List.getElem?_cons_zero, List.getElem?_cons_succ, w21_5, W_ret, FinC_ret, resA_tmp, T_get, resA_nil, Option.map_some, oneOr2, true_and]
    exact TidyE.pure rfl fun _ _ => rfl
  · simp only [f21, enumV, Nat.zero_add, w21, W_seq, w21_0, Nat.le_refl, X_assign, ev_const, Nat.reduceLT, T_set, X_nil, thenQ_normal, w21_1, Mem.next_bump, Nat.le_add_right, bump_bump, Nat.reduceAdd, X_move, ev_T, lk_cons, Nat.reduceEqDiff, Nat.one_ne_zero, if_false, if_true, X_eql EE_sym, eq_ptr_nil und_24, okI_some, W_cond, CDi_f, W_skip, w21_4, X_nilCheck EE_sym, nilV_ptr, X_fieldAddr EE_sym fo_27_0, offV_ptr, Nat.add_zero, X_load EE_sym, load1 lay_25, Mem.get_bump, h1, ld1_cells, h3, X_lookup EE_sym, lk_at, h4, lupC_t, getD_Um, X_extract EE_sym, List.getElem?_toArray, List.getElem?_cons_zero, List.getElem?_cons_succ, w21_5, W_ret, FinC_ret, resA_tmp, T_get, resA_nil, Option.map_some, oneOr2, true_and]
    exact TidyE.pure rfl fun _ _ => rfl
def addE (L : SL) (p : Int) (n : BitVec 32) : Int := if p < 1 ∨ n = 0#32 then 2 else if (mget L p).isSome = true then 140 else 0
def addL (L : SL) (p : Int) (n : BitVec 32) : SL := if addE L p n = 0 then mset L p n else L
theorem add_ok (h : SAt m s v L) (hm : Fresh m) : ∃ u m', Con EE.P 9 [PT s, In p, Um n] m u m' ∧ u = In (addE L p n) ∧ ∃ v', SAt m' s v' (addL L p n) ∧ FrS m m' s v v' := by
  refine Con.raw EE_ok fn9 (Nat.le_of_ble_eq_true rfl) _ ?_
  obtain ⟨cs, h1, h2, h3⟩ := h.at_
  have hs := h.lt hm
  simp only [f9, enumV, Nat.zero_add, Nat.reduceAdd, w9, W_seq, w9_0, Nat.le_refl, X_assign, ev_const, Nat.reduceLT, T_set, X_nil, thenQ_normal, w9_1, Mem.next_bump, Nat.le_add_right, bump_bump, X_move, ev_T, lk_cons, Nat.reduceEqDiff, Nat.one_ne_zero, if_false, if_true, X_call ca_21, List.map_cons, List.map_nil, true_and]
  refine CallI.con0 (left_ok (h.bump _)) ?_
  have hn : decide (((n.toNat : Nat) : Int) < 1) = decide (n = 0#32) := decide_eq_decide.2 ⟨fun h => BitVec.eq_of_toNat_eq (by simp; omega), fun h => by rw [h]; decide⟩
  by_cases p1 : p < 1
  · have e1 : addE L p n = 2 := by unfold addE; rw [if_pos (.inl p1)]
    have e2 : addL L p n = L := by unfold addL; rw [e1]; rfl
    rw [e1, e2]
    simp only [putT, Nat.reduceLT, T_set, X_move, ev_T, lk_cons, Nat.reduceEqDiff, if_false, if_true, X_extract EE_sym, List.getElem?_toArray, List.getElem?_cons_zero, okI_some, List.getElem?_cons_succ, X_assign, X_nil, thenQ_normal, W_block, w9_13, W_seq, w9_2, Mem.next_bump, Nat.le_add_right, bump_bump, Nat.reduceAdd, Nat.one_ne_zero, X_eql EE_sym, ev_const, eq_ptr_nil und_24, W_cond, CDi_f, w9_12, w9_5, X_bin EE_sym (op := .lss) rfl, bin_lss, p1, decide_true, X_guard EE_sym, T_get, GDi_tf, X_pick EE_sym, pickV_bool, CDi_t, w9_7, w9_6, W_ret, blockQ_ret, thenQ_ret, FinX_ret, resA_tmp, resA_nil, Option.map_some, oneOr1, true_and]
    exact ((FrS.refl (s := s) (v := v) hm).bump _).raw ⟨rfl, v, h.bump _, (FrS.refl hm).bump _⟩
  · by_cases n1 : n = 0#32
    · have e1 : addE L p n = 2 := by unfold addE; rw [if_pos (.inr n1)]
      have e2 : addL L p n = L := by unfold addL; rw [e1]; rfl
      rw [e1, e2]
      rw [decide_eq_true n1] at hn
      simp only [putT, Nat.reduceLT, T_set, X_move, ev_T, lk_cons, Nat.reduceEqDiff, if_false, if_true, X_extract EE_sym, List.getElem?_toArray, List.getElem?_cons_zero, okI_some, List.getElem?_cons_succ, X_assign, X_nil, thenQ_normal, W_block, w9_13, W_seq, w9_2, Mem.next_bump, Nat.le_add_right, bump_bump, Nat.reduceAdd, Nat.one_ne_zero, X_eql EE_sym, ev_const, eq_ptr_nil und_24, W_cond, CDi_f, w9_12, w9_5, X_bin EE_sym (op := .lss) rfl, bin_lss, p1, decide_false, X_guard EE_sym, T_get, GDi_ff, hn, X_pick EE_sym, pickV_bool, Bool.false_eq_true, CDi_t, w9_7, w9_6, W_ret, blockQ_ret, thenQ_ret, FinX_ret, resA_tmp, resA_nil, Option.map_some, oneOr1, true_and]
      exact ((FrS.refl (s := s) (v := v) hm).bump _).raw ⟨rfl, v, h.bump _, (FrS.refl hm).bump _⟩
    · rw [decide_eq_false n1] at hn
      cases hg : (mget L p).isSome with
      | true =>
        have e1 : addE L p n = 140 := by unfold addE; rw [if_neg (by rintro (h | h); exact p1 h; exact n1 h), if_pos hg]
        have e2 : addL L p n = L := by unfold addL; rw [e1]; rfl
        rw [e1, e2]
        simp only [putT, Nat.reduceLT, T_set, X_move, ev_T, lk_cons, Nat.reduceEqDiff, if_false, if_true, X_extract EE_sym, List.getElem?_toArray, List.getElem?_cons_zero, okI_some, List.getElem?_cons_succ, X_assign, X_nil, thenQ_normal, W_block, w9_13, W_seq, w9_2, Mem.next_bump, Nat.le_add_right, bump_bump, Nat.reduceAdd, Nat.one_ne_zero, X_eql EE_sym, ev_const, eq_ptr_nil und_24, W_cond, CDi_f, w9_12, w9_5, X_bin EE_sym (op := .lss) rfl, bin_lss, p1, decide_false, X_guard EE_sym, T_get, GDi_ff, hn, X_pick EE_sym, pickV_bool, Bool.false_eq_true, w9_11, w9_8, CDi_t, w9_10, w9_9, W_ret, blockQ_ret, thenQ_ret, FinX_ret, resA_tmp, resA_nil, Option.map_some, oneOr1, true_and]
        exact ((FrS.refl (s := s) (v := v) hm).bump _).raw ⟨rfl, v, h.bump _, (FrS.refl hm).bump _⟩
      | false =>
        have e1 : addE L p n = 0 := by unfold addE; rw [if_neg (by rintro (h | h); exact p1 h; exact n1 h), if_neg (by rw [hg]; decide)]
        have e2 : addL L p n = mset L p n := by unfold addL; rw [e1]; rfl
        rw [e1, e2]
        rcases h.mp with ⟨rfl, rfl⟩ | ⟨b, rfl, h4⟩
        · have hsn := ne_new hs
          have hns : ∀ j, ¬ m.next + j = s := fun j => by omega
          simp only [putT, Nat.reduceLT, T_set, X_move, ev_T, lk_cons, Nat.reduceEqDiff, if_false, if_true, X_extract EE_sym, List.getElem?_toArray, List.getElem?_cons_zero, okI_some, List.getElem?_cons_succ, X_assign, X_nil, thenQ_normal, W_block, w9_13, W_seq, w9_2, Mem.next_bump, Nat.le_add_right, bump_bump, Nat.reduceAdd, Nat.one_ne_zero, X_eql EE_sym, ev_const, eq_ptr_nil und_24, W_cond, CDi_f, w9_12, w9_5, X_bin EE_sym (op := .lss) rfl, bin_lss, p1, decide_false, X_guard EE_sym, T_get, GDi_ff, hn, X_pick EE_sym, pickV_bool, Bool.false_eq_true, w9_11, w9_8, W_skip, blockQ_normal, w9_14, X_nilCheck EE_sym, nilV_ptr, X_fieldAddr EE_sym fo_27_0, offV_ptr, Nat.add_zero, X_load EE_sym, load1 lay_25, Mem.get_bump, h1, ld1_cells, h3, eq_mnil, CDi_t, w9_16, w9_15, X_makeMap, Nat.add_assoc, put_bump, X_store, store1 sz_25, Mem.get_put, hsn, cells_map, st1_cells, List.length_cons, List.length_nil, Nat.zero_add, h2, Nat.le_refl, List.all_cons, oneCell, List.all_nil, Bool.and_self, and_self, w9_17, Mem.next_put, nth_write_same, X_mapUpdate, ms_at, hns, msC_nil, w9_18, W_ret, FinX_ret, resA_tmp, resA_nil, Option.map_some, oneOr1, true_and]
          have hF : FrS m ((((m.put (m.next + 27) (.map [] true)).put s (.cells (cs.write 0 [.map (some (m.next + 27))]) true 0)).put (m.next + 27) (.map [(.int .i64 p, Um n)] true)).bump 39) s (.map none) (.map (some (m.next + 27))) := by
            refine ⟨by simp only [Mem.next_bump, Mem.next_put]; omega, Fresh.of_low (by have := hm.n64; simp only [Mem.next_bump, Mem.next_put]; omega) (by repeat (first | exact Low.of hm (by simp only [Mem.next_bump, Mem.next_put]; omega) | refine Low.put ?_ (by simp only [Mem.next_bump, Mem.next_put]; omega) | refine Low.bump ?_)), fun y hy hys _ => by simp only [Mem.get_bump, Mem.get_put, ne_new hy, hys, if_false], fun b hb => ?_, fun y hy e => ?_⟩
            · cases hb
              exact .inr ⟨by omega, by simp only [Mem.next_bump, Mem.next_put]; omega⟩
            · have : ¬ y = s := fun e2 => by rw [e2, h1] at e; cases e
              simp only [Mem.get_bump, Mem.get_put, ne_new hy, this, if_false, e]
          exact hF.raw ⟨rfl, _, ⟨⟨_, by simp only [Mem.get_bump, Mem.get_put, hsn, if_false, if_true]; rfl, by rw [write_n, h2], nth_write_same (by omega)⟩, .inr ⟨_, rfl, by simp only [Mem.get_bump, Mem.get_put, if_true]; rfl⟩⟩, hF⟩
        · have hbs := (h.ltb hm rfl).2
          have hbl := (h.ltb hm rfl).1
          have hsb : ¬ s = b := fun e => hbs e.symm
          simp only [putT, Nat.reduceLT, T_set, X_move, ev_T, lk_cons, Nat.reduceEqDiff, if_false, if_true, X_extract EE_sym, List.getElem?_toArray, List.getElem?_cons_zero, okI_some, List.getElem?_cons_succ, X_assign, X_nil, thenQ_normal, W_block, w9_13, W_seq, w9_2, Mem.next_bump, Nat.le_add_right, bump_bump, Nat.reduceAdd, Nat.one_ne_zero, X_eql EE_sym, ev_const, eq_ptr_nil und_24, W_cond, CDi_f, w9_12, w9_5, X_bin EE_sym (op := .lss) rfl, bin_lss, p1, decide_false, X_guard EE_sym, T_get, GDi_ff, hn, X_pick EE_sym, pickV_bool, Bool.false_eq_true, w9_11, w9_8, W_skip, blockQ_normal, w9_14, X_nilCheck EE_sym, nilV_ptr, X_fieldAddr EE_sym fo_27_0, offV_ptr, Nat.add_zero, X_load EE_sym, load1 lay_25, Mem.get_bump, h1, ld1_cells, h3, eq_msome, w9_17, X_mapUpdate, ms_at, h4, msC_ml, put_bump, w9_18, Mem.next_put, W_ret, FinX_ret, resA_tmp, resA_nil, Option.map_some, oneOr1, true_and]
          have hF : FrS m ((m.put b (.map (ml Um (mset L p n)) true)).bump 34) s (.map (some b)) (.map (some b)) := by
            refine ⟨by simp only [Mem.next_bump, Mem.next_put]; omega, Fresh.of_low (by have := hm.n64; simp only [Mem.next_bump, Mem.next_put]; omega) (by repeat (first | exact Low.of hm (by simp only [Mem.next_bump, Mem.next_put]; omega) | refine Low.put ?_ (by simp only [Mem.next_bump, Mem.next_put]; omega) | refine Low.bump ?_)), fun y hy hys hyb => ?_, fun b hb => .inl hb, fun y hy e => ?_⟩
            · have : ¬ y = b := fun e => hyb (by rw [e]; rfl)
              simp only [Mem.get_bump, Mem.get_put, this, if_false]
            · have : ¬ y = b := fun e2 => by rw [e2, h4] at e; cases e
              simp only [Mem.get_bump, Mem.get_put, this, if_false, e]
          exact hF.raw ⟨rfl, _, ⟨⟨cs, by simp only [Mem.get_bump, Mem.get_put, hsb, if_false]; exact h1, h2, h3⟩, .inr ⟨_, rfl, by simp only [Mem.get_bump, Mem.get_put, if_true]⟩⟩, hF⟩
theorem drop_ok (h : SAt m s v L) (hm : Fresh m) : ∃ u m', Con EE.P 18 [PT s, In p] m u m' ∧ u = .tuple [Um ((mget L p).getD 0), .bool (mget L p).isSome].toArray ∧ SAt m' s v (if (mget L p).isSome then mdel L p else L) ∧ FrS m m' s v v := by
  refine Con.raw EE_ok fn18 (Nat.le_of_ble_eq_true rfl) _ ?_
  obtain ⟨cs, h1, h2, h3⟩ := h.at_
  have hs := h.lt hm
  simp only [f18, enumV, Nat.zero_add, w18, W_seq, w18_0, Nat.le_refl, X_assign, ev_const, Nat.reduceLT, T_set, X_nil, thenQ_normal, w18_1, Mem.next_bump, Nat.le_add_right, bump_bump, Nat.reduceAdd, X_move, ev_T, lk_cons, Nat.reduceEqDiff, Nat.one_ne_zero, if_false, if_true, X_call ca_21, List.map_cons, List.map_nil, true_and]
  refine CallI.con0 (left_ok (h.bump _)) ?_
  cases hg : (mget L p).isSome with
  | false =>
    simp only [putT, Nat.reduceLT, T_set, X_move, ev_T, lk_cons, Nat.reduceEqDiff, if_false, if_true, X_extract EE_sym, List.getElem?_toArray, List.getElem?_cons_zero, okI_some, List.getElem?_cons_succ, X_assign, X_nil, Bool.false_eq_true, thenQ_normal, W_seq, w18_2, Mem.next_bump, Nat.le_add_right, bump_bump, Nat.reduceAdd, W_cond, CDi_f, W_skip, w18_5, W_ret, FinX_ret, resA_tmp, T_get, resA_nil, Option.map_some, oneOr2, true_and]
    exact ((FrS.refl (s := s) (v := v) hm).bump _).raw ⟨rfl, h.bump _, (FrS.refl hm).bump _⟩
  | true =>
    rcases h.mp with ⟨rfl, rfl⟩ | ⟨b, rfl, h4⟩
    · cases hg
    · have hbs := (h.ltb hm rfl).2
      have hbl := (h.ltb hm rfl).1
      have hsb : ¬ s = b := fun e => hbs e.symm
      simp only [putT, Nat.reduceLT, T_set, X_move, ev_T, lk_cons, Nat.reduceEqDiff, if_false, if_true, X_extract EE_sym, List.getElem?_toArray, List.getElem?_cons_zero, okI_some, List.getElem?_cons_succ, X_assign, X_nil, thenQ_normal, W_seq, w18_2, Mem.next_bump, Nat.le_add_right, bump_bump, Nat.reduceAdd, W_cond, CDi_t, w18_4, w18_3, Nat.one_ne_zero, X_nilCheck EE_sym, nilV_ptr, X_fieldAddr EE_sym fo_27_0, offV_ptr, Nat.add_zero, X_load EE_sym, load1 lay_25, Mem.get_bump, h1, ld1_cells, h3, X_delete, md_at, h4, mdC_ml, put_bump, w18_5, Mem.next_put, W_ret, FinX_ret, resA_tmp, T_get, resA_nil, Option.map_some, oneOr2, true_and]
      have hF : ∀ j, FrS m ((m.put b (.map (ml Um (mdel L p)) true)).bump j) s (.map (some b)) (.map (some b)) := fun j => by
        refine ⟨by simp only [Mem.next_bump, Mem.next_put]; omega, Fresh.of_low (by have := hm.n64; simp only [Mem.next_bump, Mem.next_put]; omega) (by repeat (first | exact Low.of hm (by simp only [Mem.next_bump, Mem.next_put]; omega) | refine Low.put ?_ (by simp only [Mem.next_bump, Mem.next_put]; omega) | refine Low.bump ?_)), fun y hy hys hyb => ?_, fun b hb => .inl hb, fun y hy e => ?_⟩
        · have : ¬ y = b := fun e => hyb (by rw [e]; rfl)
          simp only [Mem.get_bump, Mem.get_put, this, if_false]
        · have : ¬ y = b := fun e2 => by rw [e2, h4] at e; cases e
          simp only [Mem.get_bump, Mem.get_put, this, if_false, e]
      exact (hF _).raw ⟨rfl, ⟨⟨cs, by simp only [Mem.get_bump, Mem.get_put, hsb, if_false]; exact h1, h2, h3⟩, .inr ⟨_, rfl, by simp only [Mem.get_bump, Mem.get_put, if_true]⟩⟩, hF _⟩
end
end
end Go.Ab
/- Sleep: the keys, sorted; the loop over all, whatever its body does. -/
namespace Go.Ab
open Go.Proofs Go.Proofs.Ytojfkjjacaellaa Go.RowKit Go.Shelf
noncomputable section
set_option maxHeartbeats 4000000
set_option maxRecDepth 10000
theorem sortedC {args : List Value} {m m' : Mem} {v : Value} (h : sortedP 32 args m = some (v, m')) : Con EE.P 27 args m v m' :=
  ⟨sorted_ok (σ := Sig.none) keys sorted (sorts 4) (enters_of Try.func31 (by kernel_rfl) rfl) (enters_of Try.func32 (by kernel_rfl) rfl) h, sortedP_grow h⟩
theorem ca_26 : callable EE.P 26 = true := by kernel_rfl
def wfL (L : SL) : Prop := ∀ p ∈ L, (Lit.int .i64 p.1).wf = true
theorem keysOf_ml : ∀ {L : SL}, wfL L → keysOf (ml Um L) = some (mkeys L)
  | [], _ => rfl
  | (p, n) :: L, h => by
    have ih := keysOf_ml (L := L) fun q hq => h q (List.mem_cons_of_mem _ hq)
    have h1 := h (p, n) (List.mem_cons_self)
    show keysOf ((.int .i64 p, Um n) :: ml Um L) = _
    unfold keysOf
    rw [if_pos h1, ih]
    rfl
section
variable {m mr : Mem} {s : Nat} {v : Value} {L : SL} {p : Int} {n : BitVec 32}
theorem SAt.box (h : SAt m s v L) : boxL v = some [v] := by
  rcases h.mp with ⟨rfl, _⟩ | ⟨b, rfl, _⟩ <;> rfl
theorem keys_ok (hm : Fresh m) (hb : boxL v = some [v]) : ∃ u m', Con EE.P 28 [v] m u m' ∧ ∃ x, u = .func (.func 32) #[] [PT x].toArray ∧ m.next ≤ x ∧ m'.get x = some (.cells (Cells.ofList [v]) true 0) ∧ Nx m m' := by
  refine Con.raw EE_ok fn28 (Nat.le_of_ble_eq_true rfl) _ ?_
  simp only [f28, enumV, w28, W_seq, w28_0, Nat.le_refl, X_box, Nat.reduceLT, ev_T, lk_cons, if_true, hb, okI_some, Nat.add_zero, T_set, put_bump, X_assign, ev_const, X_nil, thenQ_normal, w28_1, Mem.next_bump, Mem.next_put, Nat.le_add_right, bump_bump, Nat.reduceAdd, X_makeFunc EE_sym, List.map_toArray, List.map_nil, List.map_cons, Nat.reduceEqDiff, if_false, W_ret, FinX_ret, resA_tmp, T_get, resA_nil, Option.map_some, oneOr1, true_and]
  have hn : Nx m ((m.put m.next (AObj.cells (Cells.ofList [v]) true 0)).bump 4) := ⟨by (try simp only [Mem.next_bump, Mem.next_put]); omega, Fresh.of_low (by have := hm.n64; (try simp only [Mem.next_bump, Mem.next_put]); omega) (by repeat (first | exact Low.of hm (by (try simp only [Mem.next_bump, Mem.next_put]); omega) | refine Low.put ?_ (by (try simp only [Mem.next_bump, Mem.next_put]); omega) | refine Low.bump ?_)), fun y hy => by simp only [Mem.get_bump, Mem.get_put, ne_new0 hy, if_false]⟩
  exact ⟨⟨hn.next, fun y hy e => by rw [hn.old y hy, e]⟩, m.next, rfl, Nat.le_refl _, by simp only [Mem.get_bump, Mem.get_put, if_true], hn⟩
/-- The i-th key, in rising order. -/
def keyI (L : SL) (i : Nat) : Int := (isort (mkeys L)).getD i 0
def valI (L : SL) (i : Nat) : BitVec 32 := (mget L (keyI L i)).getD 0
theorem isort_len (l : List Int) : (isort l).length = l.length := (isort_perm l).length_eq
/-- The keys, in a list of their own. -/
def KeysAt (M : Mem) (n0 : Nat) (u : Value) (L : SL) : Prop := (L = [] ∧ u = .slice none 0 0) ∨ (L ≠ [] ∧ ∃ K, u = .slice (some ⟨K, 0, none⟩) L.length L.length ∧ n0 ≤ K ∧ M.get K = some (.cells (Cells.ofList ((isort (mkeys L)).map (.int .i64))) true 1))
theorem sorted_at {x : Nat} (hm : Fresh m) (h : SAt m s v L) (hw : wfL L) (hl : L.length < 1073741824) (hx : m.get x = some (.cells (Cells.ofList [v]) true 0)) :
    ∃ u m', Con EE.P 27 [.func (.func 32) #[] [PT x].toArray] m u m' ∧ KeysAt m' m.next u L ∧ Nx m m' := by
  rcases h.mp with ⟨rfl, rfl⟩ | ⟨b, rfl, h4⟩
  · refine ⟨_, _, sortedC (v := .slice none 0 0) (m' := m) ?_, .inl ⟨rfl, rfl⟩, Nx.refl hm⟩
    unfold sortedP
    simp only [hx]
    rfl
  · have hlen : (mkeys L).length = L.length := List.length_map _
    by_cases he : L = []
    · subst he
      refine ⟨_, _, sortedC (v := .slice none 0 0) (m' := m) ?_, .inl ⟨rfl, rfl⟩, Nx.refl hm⟩
      unfold sortedP
      have hg : (Cells.ofList [Value.map (some b)]).get 0 = .map (some b) := rfl
      have hk := keysOf_ml hw
      simp only [hx, hg, h4, hk]
      rfl
    · have hne : L.length ≠ 0 := fun e => he (List.length_eq_zero_iff.1 e)
      refine ⟨_, _, sortedC (v := .slice (some ⟨m.next, 0, none⟩) L.length L.length) (m' := (m.bump 1).put m.next (.cells (.ofList ((isort (mkeys L)).map (.int .i64))) true 1)) ?_, .inr ⟨he, m.next, rfl, Nat.le_refl _, by rw [Mem.get_put, if_pos rfl]⟩, ?_⟩
      · unfold sortedP
        have hg : (Cells.ofList [Value.map (some b)]).get 0 = .map (some b) := rfl
        have hk := keysOf_ml hw
        have hn1 : (Cells.ofList [Value.map (some b)]).n = 1 := rfl
        simp only [hx, hg, h4, hk, hn1, if_true, hlen]
        rw [if_pos (by simp)]
        show (if L.length * 8 ≤ 140737488355328 then _ else _) = _
        rw [if_pos (by omega), if_neg hne]
      · exact ⟨by simp only [Mem.next_bump, Mem.next_put]; omega, Fresh.of_low (by have := hm.n64; simp only [Mem.next_bump, Mem.next_put]; omega) (Low.put (Low.bump (Low.of hm (by simp only [Mem.next_bump, Mem.next_put]; omega))) (by simp only [Mem.next_bump, Mem.next_put]; omega)), fun y hy => by rw [Mem.get_put, if_neg (by omega), Mem.get_bump]⟩
/-- What a loop over all may write: its record, a cell, the map. -/
structure AllI (M1 : Mem) (lp o : Nat) (bo : Option Nat) (M : Mem) : Prop where
  next : M1.next ≤ M.next
  low : Low M M.next
  old : ∀ y, y < M1.next → y ≠ o → y ≠ lp → bo ≠ some y → M.get y = M1.get y
theorem all_it {lp c o zc : Nat} {r : ALoop} (hmr : Fresh mr) (hl : mr.get lp = some (.loop r)) (hc : mr.get c = some (.cells (Cells.ofList [PT s]) true zc)) (h : SAt mr s v L) (hw : wfL L) (hlen : L.length < 1073741824)
    (ho : o < mr.next) (hon : mr.get o ≠ none) (hco : c ≠ o) (hso : s ≠ o) (Inv : Mem → Nat → Mem → Prop)
    (h0 : ∀ M1, Nx mr M1 → Inv M1 0 M1) (hb : ∀ M1 i M j, Inv M1 i M → Inv M1 i (M.bump j)) (hfr : ∀ M1 i M, Nx mr M1 → Inv M1 i M → AllI M1 lp o (mB v) M)
    (hget : ∀ M1 i M b, Nx mr M1 → mB v = some b → i < L.length → Inv M1 i M → ∃ L', M.get b = some (.map (ml Um L') true) ∧ mget L' (keyI L i) = some (valI L i))
    (hround : ∀ M1 i M j, Nx mr M1 → i < L.length → Inv M1 i M → ∃ u m', RCon EE.P lp [In (keyI L i), Um (valI L i)] (M.bump j) u m' ∧ u = .bool true ∧ M.next + j ≤ m'.next ∧ Inv M1 (i + 1) m') :
    ∃ u m2, Con EE.P 26 [.func (.yield lp) #[] #[], PT c] mr u m2 ∧ ∃ M1, Nx mr M1 ∧ Inv M1 L.length m2 := by
  refine Con.raw EE_ok fn26 (Nat.le_of_ble_eq_true rfl) _ ?_
  obtain ⟨cs, h1, h2, h3⟩ := h.at_
  have nps : ∀ (x y : Operand) (m : Mem), eqA EE.P .eql 24 x y (PT s) (.pointer none) m = some (.bool false) := fun x y m => eq_ptr_nil und_24
  simp only [f26, enumV, Nat.zero_add, w26, W_scope, w26_9, W_seq, w26_0, Nat.le_refl, X_load EE_sym, Nat.reduceLT, ev_T, lk_cons, Nat.reduceEqDiff, if_true, if_false, load1 lay_24, Mem.get_bump, hc, ld1_cells, nth_ofList, List.getElem?_cons_zero, okI_some, T_set, X_eql EE_sym, ev_const, eq_ptr_nil und_24, X_nil, thenQ_normal, W_cond, CDi_f, W_skip, W_label, w26_1, Mem.next_bump, Nat.le_add_right, bump_bump, Nat.reduceAdd, X_nilCheck EE_sym, nilV_ptr, X_fieldAddr EE_sym fo_27_0, offV_ptr, Nat.add_zero, load1 lay_25, h1, h3, X_call ca_28, List.map_cons, List.map_nil, true_and]
  refine CallI.ex2 (keys_ok (m := mr.bump _) hmr.bump h.box) fun u M hk => ?_
  obtain ⟨x, rfl, x1, x2, x3⟩ := hk
  have xn := x3.of_bump
  have n1 := xn.next
  simp only [putT, Nat.reduceLT, T_set, X_call ca_27, List.map_cons, ev_T, lk_cons, Nat.reduceEqDiff, if_false, if_true, List.map_nil]
  refine CallI.ex2L (sorted_at (m := M) xn.fresh (h.nx hmr xn) hw hlen x2) (by simp) fun ks M1 hK => ?_
  obtain ⟨hka, hn2⟩ := hK
  have nx1 : Nx mr M1 := xn.trans hn2
  have n2 := nx1.next
  have n2' : M.next ≤ M1.next := hn2.next
  have hlenA : ∀ M, lenA EE.P 36 ks M = some (In L.length) := fun M => by
    rcases hka with ⟨rfl, rfl⟩ | ⟨_, K, rfl, _⟩
    · rw [len_slice und_36]; rfl
    · rw [len_slice und_36]
  simp only [putT, Nat.reduceLT, T_set, X_len EE_sym, ev_T, lk_cons, Nat.reduceEqDiff, if_false, if_true, hlenA, okI_some, X_move, ev_const, X_nil, thenQ_normal, W_block, w26_8]
  refine WX.loop_of (fun k t M => ∃ i : Nat, i ≤ L.length ∧ k = L.length - i ∧ t = T 29 [(14, In i), (13, In L.length), (12, ks), (0, .func (.yield lp) #[] #[]), (1, PT c)] ∧ Inv M1 i M) ?_ (k := L.length) (t1 := T 29 [(14, In (0 : Nat)), (13, In L.length), (12, ks), (0, .func (.yield lp) #[] #[]), (1, PT c)]) (View.temps ⟨rfl, rfl, rfl, rfl, rfl, trivial⟩) ⟨0, by omega, rfl, rfl, h0 _ nx1⟩
  rintro k t M2 ⟨i, hi, rfl, rfl, hI⟩
  have hA := hfr _ _ _ nx1 hI
  have hnx : mr.next ≤ M2.next := Nat.le_trans n2 hA.next
  by_cases hi2 : i < L.length
  · have g1 : ((i : Int) < (L.length : Int)) = True := eq_true (by omega)
    have g2 : (0 : Int) ≤ i := by omega
    have hw1 : IntKind.i64.wrap ((i : Int) + 1) = ((i + 1 : Nat) : Int) := by rw [wrap_i64 (by omega) (by omega)]; omega
    rcases hka with ⟨e, _⟩ | ⟨_, K, rfl, hK1, hK2⟩
    · rw [e] at hi2; exact absurd hi2 (Nat.not_lt_zero _)
    rcases h.mp with ⟨_, e⟩ | ⟨b, rfl, h4⟩
    · rw [e] at hi2; exact absurd hi2 (Nat.not_lt_zero _)
    obtain ⟨L', hb1, hb2⟩ := hget M1 i M2 b nx1 rfl hi2 hI
    have hlt := hmr.lt hl
    have hclp : c ≠ lp := fun e => by rw [e, hl] at hc; cases hc
    have hslp : s ≠ lp := fun e => by rw [e, hl] at h1; cases h1
    have hcb : mB (.map (some b)) ≠ some c := fun e => by cases e; rw [h4] at hc; cases hc
    have hsb : mB (.map (some b)) ≠ some s := fun e => by cases e; rw [h4] at h1; cases h1
    have Mc : M2.get c = some (.cells (Cells.ofList [PT s]) true zc) := by rw [hA.old c (Nat.lt_of_lt_of_le (hmr.lt hc) n2) hco hclp hcb, nx1.old c (hmr.lt hc), hc]
    have Ms : M2.get s = some (.cells cs true 0) := by rw [hA.old s (Nat.lt_of_lt_of_le (hmr.lt h1) n2) hso hslp hsb, nx1.old s (hmr.lt h1), h1]
    have hKl := nx1.fresh.lt hK2
    have hbl := hmr.lt h4
    have MK : M2.get K = some (.cells (Cells.ofList ((isort (mkeys L)).map (.int .i64))) true 1) := by
      rw [hA.old K hKl (by omega) (by omega) (fun e => by cases e; omega), hK2]
    have hq : ((isort (mkeys L)).map (Value.int .i64))[i]? = some (In (keyI L i)) := by
      have : i < (isort (mkeys L)).length := by rw [isort_len, List.length_map]; exact hi2
      rw [List.getElem?_map, List.getElem?_eq_getElem this]
      unfold keyI
      rw [List.getD_eq_getElem?_getD, List.getElem?_eq_getElem this]; rfl
    simp only [w26_7, W_seq, w26_2, hnx, X_bin EE_sym (op := .lss) rfl, Nat.reduceLT, ev_T, lk_cons, Nat.reduceEqDiff, if_false, if_true, bin_lss, g1, decide_true, okI_some, T_set, X_nil, thenQ_normal, W_cond, CDi_t, W_skip, W_block, w26_5, w26_3, Mem.next_bump, Nat.le_add_right_of_le, bump_bump, Nat.reduceAdd, X_indexAddr EE_sym, g2, idxV_slice und_36 sz_3, Int.toNat_natCast, Nat.mul_one, Nat.zero_add, X_load EE_sym, load1 lay_3, Mem.get_bump, MK, ld1_cells, nth_ofList, hq, X_assign, w26_4, X_move, Nat.one_ne_zero, load1 lay_24, Mc, List.getElem?_cons_zero, X_nilCheck EE_sym, nilV_ptr, X_fieldAddr EE_sym fo_27_0, offV_ptr, Nat.add_zero, load1 lay_25, Ms, h3, X_lookup EE_sym, lk_at, hb1, lupC_f, hb2, Option.map_some, Option.getD_some, yieldOf_y, Option.isSome_some, X_yield, List.toList_toArray, List.map_cons, List.map_nil, List.nil_append, true_and]
    refine CallI.rcon (hround M1 i M2 _ nx1 hi2 hI) (by simp) fun u m' hm' => ?_
    obtain ⟨rfl, n3, hI'⟩ := hm'
    have n4 : mr.next ≤ m'.next := by omega
    have n5 : M2.next ≤ m'.next := by omega
    simp only [putT, Nat.reduceLT, T_set, X_un EE_sym, ev_T, lk_cons, Nat.reduceEqDiff, if_false, if_true, un_not, Bool.not_true, okI_some, X_nil, thenQ_normal, W_cond, CDi_f, W_skip, blockQ_normal, w26_6, n4, X_bin EE_sym (op := .add) rfl, ev_const, bin_add, hw1, X_move, roundQ_normal, true_and]
    exact ⟨L.length - (i + 1), _, _, by omega, View.temps (l' := [(14, In ((i + 1 : Nat) : Int)), (13, In L.length), (12, .slice (some ⟨K, 0, none⟩) L.length L.length), (0, .func (.yield lp) #[] #[]), (1, PT c)]) ⟨rfl, rfl, rfl, rfl, rfl, trivial⟩, i + 1, by omega, rfl, rfl, hb _ _ _ _ hI'⟩
  · obtain rfl : i = L.length := by omega
    have q1 : ((L.length : Int) < (L.length : Int)) = False := eq_false (by omega)
    simp only [w26_7, W_seq, w26_2, hnx, X_bin EE_sym (op := .lss) rfl, Nat.reduceLT, ev_T, lk_cons, Nat.reduceEqDiff, if_false, if_true, bin_lss, q1, decide_false, okI_some, T_set, X_nil, thenQ_normal, W_cond, CDi_f, W_exit, thenQ_exit, roundQ_exit, blockQ_exit, scopeQ_normal, FinX_normal, resA_nil, oneOr0, true_and]
    have hI2 := hb _ _ _ 1 hI
    have hA2 := hfr _ _ _ nx1 hI2
    refine ⟨⟨Nat.le_trans n2 hA2.next, fun y hy e => ?_⟩, M1, nx1, hI2⟩
    have y1 : y ≠ o := fun e2 => hon (e2 ▸ e)
    have y2 : y ≠ lp := fun e2 => by rw [e2, hl] at e; cases e
    have y3 : mB v ≠ some y := fun e2 => by
      rcases h.mp with ⟨rfl, _⟩ | ⟨b, rfl, h4⟩
      · cases e2
      · cases e2; rw [h4] at e; cases e
    rw [hA2.old y (by omega) y1 y2 y3, nx1.old y hy, e]
theorem allseq_ok {o : AObj} (hs : m.get s = some o) : Con EE.P 24 [PT s] m (.func (.func 26) [].toArray [PT m.next].toArray) ((m.put m.next (.cells (Cells.ofList [PT s]) true 0)).bump 1) := by
  refine Con.of EE_ok fn24 (Nat.le_of_ble_eq_true rfl) Grow.new fun hm => ?_
  simp only [f24, enumV, w24, W_seq, w24_0, Nat.le_refl, X_box, Nat.reduceLT, ev_T, lk_cons, if_true, box_ptr, okI_some, Nat.add_zero, T_set, put_bump, X_assign, ev_const, X_nil, thenQ_normal, w24_1, Mem.next_bump, Mem.next_put, Nat.le_add_right, bump_bump, Nat.reduceAdd, X_makeFunc EE_sym, List.map_toArray, List.map_nil, List.map_cons, Nat.reduceEqDiff, if_false, W_ret, FinC_ret, resA_tmp, T_get, resA_nil, Option.map_some, oneOr1, true_and]
  exact tidy_new (o1 := .cells (Cells.ofList [PT s]) true 0) (by omega) (rv_func (l := []) (k := []) trivial ⟨rv_new, trivial⟩) (by simp only [Mem.get_bump, Mem.get_put, if_true]) ⟨rfl, rfl, rfl, fun i hi => by
    rw [ofList_n] at hi
    rw [get_ofList hi]
    rcases i with _ | i
    · exact rv_ptr (.inl ⟨rfl, hm.lt hs⟩)
    · simp at hi⟩ fun k hk => by simp only [Mem.get_bump, Mem.get_put, ne_new0 hk, if_false]
end
end
end Go.Ab
