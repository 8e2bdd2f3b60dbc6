/- Files: what the calls on open files come to. -/
import Derived.Test.YthidhnbniklhmaaFiA
import Derived.Test.YthidhnbniklhmaaTH
namespace Go.Ab
open Go.Proofs
noncomputable section
theorem eo47 : ElemOk EE.P 47 3 1 8 := ElemOk.of (z := [.int .i64 0]) und_47 (by kernel_rfl) (by kernel_rfl) rfl (by decide)
theorem bs47 {n : Int} : bsV EE.P 47 1 [(0, .int .i64 n)] = some ([.int .i64 n], 1) := by kernel_rfl
structure FS where
  p : Nat → Int
  w : Nat → Bool
  r : Nat → Int
noncomputable def fcell (s : FS) (i : Nat) : Value := if i % 3 = 0 then .int .i64 (s.p (i / 3)) else if i % 3 = 1 then .bool (s.w (i / 3)) else .int .i64 (s.r (i / 3))
noncomputable def fC (s : FS) : Cells := Cells.ofList ((List.range 192).map (fcell s))
theorem fC_n {s : FS} : (fC s).n = 192 := by
  unfold fC; rw [ofList_n, List.length_map, List.length_range]
theorem fC_get {s : FS} {i : Nat} (h : i < 192) : (fC s).get i = fcell s i := by
  have := nth_lt (c := fC s) (n := i) (by rw [fC_n]; exact h)
  have h2 : (fC s).nth i = some (fcell s i) := by
    unfold fC
    rw [nth_ofList, List.getElem?_map, List.getElem?_range h]
    rfl
  rw [h2] at this
  exact (Option.some.inj this).symm
theorem fcell_plain {s : FS} {i : Nat} : plain (fcell s i) = true := by
  unfold fcell
  split
  · rfl
  · split <;> rfl
theorem fC_nth {s : FS} {i : Nat} (h : i < 192) : (fC s).nth i = some (fcell s i) := by
  rw [nth_lt (by rw [fC_n]; exact h), fC_get h]
theorem fC_r {s : FS} {k : Nat} (h : k < 64) : (fC s).nth (k * 3 + 2) = some (.int .i64 (s.r k)) := by
  rw [fC_nth (by omega), fcell, if_neg (by omega), if_neg (by omega), show (k * 3 + 2) / 3 = k by omega]
theorem fC_x {s : FS} {k : Nat} (h : k < 64) : (fC s).sub (k * 3) 2 = some [.int .i64 (s.p k), .bool (s.w k)] := by
  refine sub_get rfl (by rw [fC_n]; omega) fun i hi => ?_
  rw [fC_get (by omega)]
  rcases i with _ | _ | i
  · unfold fcell; rw [if_pos (by omega), show (k * 3 + 0) / 3 = k by omega]; rfl
  · unfold fcell; rw [if_neg (by omega), if_pos (by omega), show (k * 3 + (0 + 1)) / 3 = k by omega]; rfl
  · omega
def FS.set (s : FS) (k : Nat) (p : Int) (w : Bool) (r : Int) : FS := ⟨fun i => if i = k then p else s.p i, fun i => if i = k then w else s.w i, fun i => if i = k then r else s.r i⟩
def FS.setR (s : FS) (k : Nat) (r : Int) : FS := ⟨s.p, s.w, fun i => if i = k then r else s.r i⟩
theorem fC_setR {s : FS} {k : Nat} {r : Int} (hk : k < 64) {i : Nat} (hi : i < 192) : ((fC s).write (k * 3 + 2) [.int .i64 r]).get i = (fC (s.setR k r)).get i := by
  rw [get_write, fC_get hi, fC_get hi]
  by_cases h : i = k * 3 + 2
  · subst h
    rw [if_pos (by simp)]
    unfold fcell FS.setR
    rw [if_neg (by omega), if_neg (by omega)]
    simp only [Nat.sub_self, List.getD_cons_zero]
    rw [if_pos (by omega)]
  · rw [if_neg (by simp; omega)]
    unfold fcell FS.setR
    split
    · rfl
    · split
      · rfl
      · simp only
        rw [if_neg (by omega)]
theorem fC_set {s : FS} {k : Nat} {p : Int} {w : Bool} {r : Int} (hk : k < 64) {i : Nat} (hi : i < 192) : ((fC s).write (k * 3) [.int .i64 p, .bool w, .int .i64 r]).get i = (fC (s.set k p w r)).get i := by
  rw [get_write, fC_get hi, fC_get hi]
  by_cases h : k * 3 ≤ i ∧ i < k * 3 + 3
  · rw [if_pos (by simpa using h)]
    have : i / 3 = k := by omega
    unfold fcell FS.set
    simp only [this, if_true]
    rcases (by omega : i - k * 3 = 0 ∨ i - k * 3 = 1 ∨ i - k * 3 = 2) with e | e | e
    · rw [e, if_pos (by omega)]; rfl
    · rw [e, if_neg (by omega), if_pos (by omega)]; rfl
    · rw [e, if_neg (by omega), if_neg (by omega)]; rfl
  · rw [if_neg (by simpa using h)]
    have : i / 3 ≠ k := by omega
    unfold fcell FS.set
    simp only [if_neg this]
theorem b34 : buildA EE.P 34 [] = some (.agg [.int .i64 0, .bool false].toArray) := by kernel_rfl
theorem b71 : buildA EE.P 71 [] = some (.agg [.int .i64 0, .bool false, .int .i64 0].toArray) := by kernel_rfl
def isO (s : FS) (n : Int) : Prop := 0 ≤ n ∧ n < 64 ∧ s.r n.toNat ≠ 0
theorem agg_eq {l : List Value} : Value.agg l.toArray = .agg ⟨l⟩ := rfl
abbrev PT (b : Nat) : Value := .pointer (some ⟨b, 0, none⟩)
abbrev In (n : Int) : Value := .int .i64 n
/-! Two files, compared. -/
theorem eqI {p q : Int} : runP EE.P (Op.equalIn 9999 3 (In p) (In q)) = some (p == q) := by kernel_rfl
theorem eqB {p q : Bool} : runP EE.P (Op.equalIn 9999 4 (.bool p) (.bool q)) = some (p == q) := by kernel_rfl
def fl34 : List Field := match EE.P.underlying 34 with
  | some (.struct fs) => fs.toList
  | _ => []
def f340 : Field := fl34.getD 0 default
def f341 : Field := fl34.getD 1 default
theorem u34 : runP EE.P (underlying 34) = some (.struct #[f340, f341]) := by kernel_rfl
theorem n340 : (f340.name == "_") = false := by kernel_rfl
theorem n341 : (f341.name == "_") = false := by kernel_rfl
theorem n340' : f340.name ≠ "_" := by simpa using n340
theorem n341' : f341.name ≠ "_" := by simpa using n341
theorem t340 : f340.type = 3 := by kernel_rfl
theorem t341 : f341.type = 4 := by kernel_rfl
theorem o340 : f340.offset = 0 := by kernel_rfl
theorem o341 : f341.offset = 1 := by kernel_rfl
theorem pt0 {x y : Value} : runP EE.P (part 3 #[x, y] 0) = some x := by kernel_rfl
theorem pt1 {x y : Value} : runP EE.P (part 4 #[x, y] 1) = some y := by kernel_rfl
theorem rp {α : Type} {k : Program → Sem α} : runP EE.P (Sem.program k) = runP EE.P (k EE.P) := rfl
theorem rpp {α : Type} {k : Program → Sem α} : runP EE.P (program >>= k) = runP EE.P (k EE.P) := rfl
theorem st34 : Program.stoodInHeld EE.P 34 = false := by kernel_rfl
theorem eqS {p q : Int} {w v : Bool} : runP EE.P (Op.equalIn (9999+1) 34 (.agg #[In p, .bool w]) (.agg #[In q, .bool v])) = some (p == q && w == v) := by
  rw [Op.equalIn.eq_2, runP_bind _ _ u34]
  simp only [rpp, st34, Bool.false_eq_true, if_false, List.forIn_toArray, List.forIn_cons, List.forIn_nil, bind_assoc, n340', n341', ne_eq, not_false_eq_true, if_true, t340, t341, o340, o341]
  rw [runP_bind _ _ pt0, runP_bind _ _ pt0, runP_bind _ _ eqI]
  by_cases h : p = q
  · subst h
    simp only [beq_self_eq_true, Bool.not_true, Bool.false_eq_true, if_false, pure_bind, Bool.true_and, bind_assoc]
    rw [runP_bind _ _ pt1, runP_bind _ _ pt1, runP_bind _ _ eqB]
    cases w <;> cases v <;> rfl
  · have h2 : (p == q) = false := by simpa using h
    simp only [h2, Bool.not_false, if_true, pure_bind, Bool.false_and]
    rfl
theorem eq34 {xo yo : Operand} {p q : Int} {w v : Bool} {m : Mem} : eqA EE.P .eql 34 xo yo (.agg #[In p, .bool w]) (.agg #[In q, .bool v]) m = some (.bool (p == q && w == v)) := by
  unfold eqA
  rw [if_pos (by kernel_rfl)]
  unfold runV
  rw [runP_bind (a := ()) _ _ (by kernel_rfl)]
  have e : runP EE.P (binOp .eql 34 (.agg #[In p, .bool w]) (.agg #[In q, .bool v])) = some (.bool (p == q && w == v)) := by
    show runP EE.P (Op.equalIn (9999+1) 34 (.agg #[In p, .bool w]) (.agg #[In q, .bool v]) >>= fun b => pure (Value.bool b)) = _
    rw [runP_bind _ _ eqS]; rfl
  rw [e]; rfl
theorem neq34 {xo yo : Operand} {p q : Int} {w v : Bool} {m : Mem} : eqA EE.P .neq 34 xo yo (.agg #[In p, .bool w]) (.agg #[In q, .bool v]) m = some (.bool (!(p == q && w == v))) := by
  unfold eqA
  rw [if_pos (by kernel_rfl)]
  unfold runV
  rw [runP_bind (a := ()) _ _ (by kernel_rfl)]
  have e : runP EE.P (binOp .neq 34 (.agg #[In p, .bool w]) (.agg #[In q, .bool v])) = some (.bool (!(p == q && w == v))) := by
    show runP EE.P (Op.equalIn (9999+1) 34 (.agg #[In p, .bool w]) (.agg #[In q, .bool v]) >>= fun b => pure (Value.bool (!b))) = _
    rw [runP_bind _ _ eqS]; rfl
  rw [e]; rfl
theorem z74 : zeroL EE.P 74 = some (fC ⟨fun _ => 0, fun _ => false, fun _ => 0⟩).list := by kernel_rfl
abbrev FAt (m : Mem) (b sz : Nat) (s : FS) : Prop := m.get b = some (.cells (fC s) true sz)
set_option maxHeartbeats 1000000
section
variable {m : Mem} {b sz : Nat} {s : FS} {n : Int}
theorem may_open (hb : FAt m b sz s) (h : isO s n) : Con EE.P 34 [PT b, In n] m (In 0) m := by
  refine Con.of EE_ok fn34 (Nat.le_of_ble_eq_true rfl) Grow.rfl fun hm => ?_
  obtain ⟨h3, h2, h6⟩ := h
  have h4 : n < ((64 : Nat) : Int) := h2
  have h5 : n.toNat < 64 := by omega
  have h1 : ¬ n < 0 := by omega
  have h7 : ¬ 64 ≤ n := by omega
  simp only [f34, enumV, Nat.zero_add, w34, W_seq, w34_0, Nat.le_refl, X_assign, ev_const, Nat.reduceLT, T_set, X_nil, thenQ_normal, W_block, w34_8, w34_1, Mem.next_bump, Nat.le_add_right, bump_bump, Nat.reduceAdd, X_move, ev_T, lk_cons, Nat.reduceEqDiff, Nat.one_ne_zero, if_false, if_true, X_eql EE_sym, eq_ptr_nil und_26, okI_some, W_cond, CDi_f, w34_7, w34_4, X_bin EE_sym (op := .lss) rfl, bin_lss, h1, decide_false, X_guard EE_sym, T_get, GDi_ff, X_bin EE_sym (op := .geq) rfl, bin_geq, h7, X_pick EE_sym, pickV_bool, Bool.false_eq_true, X_nilCheck EE_sym, nilV_ptr, X_fieldAddr EE_sym fo_74_0, offV_ptr, Nat.add_zero, X_indexAddr EE_sym, h3, h4, idxV_arr und_72 sz_71, X_fieldAddr EE_sym fo_71_1, X_load EE_sym, load1 lay_3, Mem.get_bump, hb, ld1_cells, fC_r h5, eq_int, h6, W_skip, blockQ_normal, w34_9, W_ret, FinC_ret, resA_tmp, resA_nil, Option.map_some, oneOr1, true_and]
  exact TidyE.pure rfl fun _ _ => rfl
theorem may_not (hb : FAt m b sz s) (h : ¬ isO s n) : Con EE.P 34 [PT b, In n] m (In 101) m := by
  refine Con.of EE_ok fn34 (Nat.le_of_ble_eq_true rfl) Grow.rfl fun hm => ?_
  by_cases h1 : n < 0
  · simp only [f34, enumV, Nat.zero_add, w34, W_seq, w34_0, Nat.le_refl, X_assign, ev_const, Nat.reduceLT, T_set, X_nil, thenQ_normal, W_block, w34_8, w34_1, Mem.next_bump, Nat.le_add_right, bump_bump, Nat.reduceAdd, X_move, ev_T, lk_cons, Nat.reduceEqDiff, Nat.one_ne_zero, if_false, if_true, X_eql EE_sym, eq_ptr_nil und_26, okI_some, W_cond, CDi_f, w34_7, w34_4, X_bin EE_sym (op := .lss) rfl, bin_lss, h1, decide_true, X_guard EE_sym, T_get, GDi_tf, putT, X_pick EE_sym, pickV_bool, CDi_t, w34_6, w34_5, W_ret, blockQ_ret, thenQ_ret, FinC_ret, resA_tmp, resA_nil, Option.map_some, oneOr1, true_and]
    exact TidyE.pure rfl fun _ _ => rfl
  by_cases h2 : 64 ≤ n
  · simp only [f34, enumV, Nat.zero_add, w34, W_seq, w34_0, Nat.le_refl, X_assign, ev_const, Nat.reduceLT, T_set, X_nil, thenQ_normal, W_block, w34_8, w34_1, Mem.next_bump, Nat.le_add_right, bump_bump, Nat.reduceAdd, X_move, ev_T, lk_cons, Nat.reduceEqDiff, Nat.one_ne_zero, if_false, if_true, X_eql EE_sym, eq_ptr_nil und_26, okI_some, W_cond, CDi_f, w34_7, w34_4, X_bin EE_sym (op := .lss) rfl, bin_lss, h1, decide_false, X_guard EE_sym, T_get, GDi_ff, X_bin EE_sym (op := .geq) rfl, bin_geq, h2, decide_true, X_pick EE_sym, pickV_bool, Bool.false_eq_true, GDi_tf, putT, CDi_t, w34_6, w34_5, W_ret, blockQ_ret, thenQ_ret, FinC_ret, resA_tmp, resA_nil, Option.map_some, oneOr1, true_and]
    exact TidyE.pure rfl fun _ _ => rfl
  have h3 : 0 ≤ n := by omega
  have h4 : n < ((64 : Nat) : Int) := by omega
  have h5 : n.toNat < 64 := by omega
  have h6 : s.r n.toNat = 0 := Classical.byContradiction fun e => h ⟨h3, h4, e⟩
  simp only [f34, enumV, Nat.zero_add, w34, W_seq, w34_0, Nat.le_refl, X_assign, ev_const, Nat.reduceLT, T_set, X_nil, thenQ_normal, W_block, w34_8, w34_1, Mem.next_bump, Nat.le_add_right, bump_bump, Nat.reduceAdd, X_move, ev_T, lk_cons, Nat.reduceEqDiff, Nat.one_ne_zero, if_false, if_true, X_eql EE_sym, eq_ptr_nil und_26, okI_some, W_cond, CDi_f, w34_7, w34_4, X_bin EE_sym (op := .lss) rfl, bin_lss, h1, decide_false, X_guard EE_sym, T_get, GDi_ff, X_bin EE_sym (op := .geq) rfl, bin_geq, h2, X_pick EE_sym, pickV_bool, Bool.false_eq_true, X_nilCheck EE_sym, nilV_ptr, X_fieldAddr EE_sym fo_74_0, offV_ptr, Nat.add_zero, X_indexAddr EE_sym, h3, h4, idxV_arr und_72 sz_71, X_fieldAddr EE_sym fo_71_1, X_load EE_sym, load1 lay_3, Mem.get_bump, hb, ld1_cells, fC_r h5, h6, eq_int, decide_true, CDi_t, w34_6, w34_5, W_ret, blockQ_ret, thenQ_ret, FinC_ret, resA_tmp, resA_nil, Option.map_some, oneOr1, true_and]
  exact TidyE.pure rfl fun _ _ => rfl
theorem get_open (hb : FAt m b sz s) (h : isO s n) : Con EE.P 13 [PT b, In n] m (.tuple [.agg [In (s.p n.toNat), .bool (s.w n.toNat)].toArray, .bool true].toArray) m := by
  refine Con.of EE_ok fn13 (Nat.le_of_ble_eq_true rfl) Grow.rfl fun hm => ?_
  obtain ⟨h3, h2, h6⟩ := id h
  have h4 : n < ((64 : Nat) : Int) := h2
  have h5 : n.toNat < 64 := by omega
  have hn := fun j => hm.ne hb j
  have hn0 := hm.ne0 hb
  simp only [f13, enumV, Nat.zero_add, w13, W_seq, w13_0, Nat.le_refl, X_alloc, zero_34, okI_some, Nat.add_zero, Nat.reduceLT, T_set, put_bump, X_assign, ev_const, X_nil, thenQ_normal, w13_1, Mem.next_bump, Mem.next_put, Nat.le_add_right, bump_bump, Nat.reduceAdd, X_move, ev_T, lk_cons, Nat.reduceEqDiff, Nat.one_ne_zero, if_false, if_true, X_call ca_34, List.map_cons, List.map_nil, true_and]
  refine CallI.con0 (may_open (s := s) (sz := sz) ?_ h) ?_
  · simp only [FAt, Mem.get_bump, Mem.get_put, hn0, if_false, hb]
  simp only [putT, Nat.reduceLT, T_set, X_neq EE_sym, ev_T, lk_cons, Nat.reduceEqDiff, if_false, if_true, ev_const, neq_int, decide_true, Bool.not_true, okI_some, X_nil, thenQ_normal, W_cond, CDi_f, W_skip, W_seq, w13_4, Mem.next_bump, Mem.next_put, Nat.le_add_right, bump_bump, Nat.reduceAdd, X_move, Nat.one_ne_zero, X_nilCheck EE_sym, nilV_ptr, X_fieldAddr EE_sym fo_74_0, offV_ptr, Nat.add_zero, X_indexAddr EE_sym, h3, h4, idxV_arr und_72 sz_71, Nat.zero_add, X_fieldAddr EE_sym fo_71_0, X_load EE_sym, loadN lay_34, Mem.get_bump, Mem.get_put, hn0, hb, ldN_cells, fC_x h5, Option.map_some, X_store, store1 sz_34, cells_agg, st1_cells, List.length_cons, List.length_nil, ofList_n, Nat.le_refl, List.all_cons, oneCell, List.all_nil, Bool.and_self, and_self, put_bump, X_assign, W_ret, FinC_ret, resA_cell, T_get, sub_write_same, resA_tmp, resA_nil, Option.bind_some, oneOr2, true_and]
  exact TidyE.pure rfl fun k hk => by simp only [Mem.get_bump, Mem.get_put, ne_new0 hk, if_false]
theorem get_not (hb : FAt m b sz s) (h : ¬ isO s n) : Con EE.P 13 [PT b, In n] m (.tuple [.agg [In 0, .bool false].toArray, .bool false].toArray) m := by
  refine Con.of EE_ok fn13 (Nat.le_of_ble_eq_true rfl) Grow.rfl fun hm => ?_
  have hn := fun j => hm.ne hb j
  have hn0 := hm.ne0 hb
  simp only [f13, enumV, Nat.zero_add, w13, W_seq, w13_0, Nat.le_refl, X_alloc, zero_34, okI_some, Nat.add_zero, Nat.reduceLT, T_set, put_bump, X_assign, ev_const, X_nil, thenQ_normal, w13_1, Mem.next_bump, Mem.next_put, Nat.le_add_right, bump_bump, Nat.reduceAdd, X_move, ev_T, lk_cons, Nat.reduceEqDiff, Nat.one_ne_zero, if_false, if_true, X_call ca_34, List.map_cons, List.map_nil, true_and]
  refine CallI.con0 (may_not (s := s) (sz := sz) ?_ h) ?_
  · simp only [FAt, Mem.get_bump, Mem.get_put, hn0, if_false, hb]
  simp only [putT, Nat.reduceLT, T_set, X_neq EE_sym, ev_T, lk_cons, Nat.reduceEqDiff, if_false, if_true, ev_const, neq_int, Int.reduceEq, decide_false, Bool.not_false, okI_some, X_nil, thenQ_normal, W_cond, CDi_t, w13_3, W_seq, w13_2, Mem.next_bump, Mem.next_put, Nat.le_add_right, bump_bump, Nat.reduceAdd, X_build EE_sym, List.map_nil, b34, X_store, store1 sz_34, Mem.get_bump, Mem.get_put, cells_agg, st1_cells, List.length_cons, List.length_nil, Nat.zero_add, ofList_n, Nat.le_refl, List.all_cons, oneCell, List.all_nil, Bool.and_self, and_self, put_bump, X_assign, W_ret, thenQ_ret, FinC_ret, resA_cell, T_get, loadN lay_34, ldN_cells, sub_write_same, Option.map_some, resA_tmp, resA_nil, Option.bind_some, oneOr2, true_and]
  exact TidyE.pure rfl fun k hk => by simp only [Mem.get_bump, Mem.get_put, ne_new0 hk, if_false]
theorem refs_open (hb : FAt m b sz s) (h : isO s n) : Con EE.P 14 [PT b, In n] m (In (s.r n.toNat)) m := by
  refine Con.of EE_ok fn14 (Nat.le_of_ble_eq_true rfl) Grow.rfl fun hm => ?_
  obtain ⟨h3, h2, h6⟩ := id h
  have h4 : n < ((64 : Nat) : Int) := h2
  have h5 : n.toNat < 64 := by omega
  simp only [f14, enumV, Nat.zero_add, w14, W_seq, w14_0, Nat.le_refl, X_assign, ev_const, Nat.reduceLT, T_set, X_nil, thenQ_normal, w14_1, Mem.next_bump, Nat.le_add_right, bump_bump, Nat.reduceAdd, X_move, ev_T, lk_cons, Nat.reduceEqDiff, Nat.one_ne_zero, if_false, if_true, X_call ca_34, List.map_cons, List.map_nil, true_and]
  refine CallI.con0 (may_open (s := s) (sz := sz) ?_ h) ?_
  · simp only [FAt, Mem.get_bump, hb]
  simp only [putT, Nat.reduceLT, T_set, X_neq EE_sym, ev_T, lk_cons, Nat.reduceEqDiff, if_false, if_true, ev_const, neq_int, decide_true, Bool.not_true, okI_some, X_nil, thenQ_normal, W_cond, CDi_f, W_skip, W_seq, w14_4, Mem.next_bump, Nat.le_add_right, bump_bump, Nat.reduceAdd, X_move, Nat.one_ne_zero, X_nilCheck EE_sym, nilV_ptr, X_fieldAddr EE_sym fo_74_0, offV_ptr, Nat.add_zero, X_indexAddr EE_sym, h3, h4, idxV_arr und_72 sz_71, Nat.zero_add, X_fieldAddr EE_sym fo_71_1, X_load EE_sym, load1 lay_3, Mem.get_bump, hb, ld1_cells, fC_r h5, X_assign, W_ret, FinC_ret, resA_tmp, T_get, resA_nil, Option.map_some, oneOr1, true_and]
  exact TidyE.pure rfl fun _ _ => rfl
theorem refs_not (hb : FAt m b sz s) (h : ¬ isO s n) : Con EE.P 14 [PT b, In n] m (In 0) m := by
  refine Con.of EE_ok fn14 (Nat.le_of_ble_eq_true rfl) Grow.rfl fun hm => ?_
  simp only [f14, enumV, Nat.zero_add, w14, W_seq, w14_0, Nat.le_refl, X_assign, ev_const, Nat.reduceLT, T_set, X_nil, thenQ_normal, w14_1, Mem.next_bump, Nat.le_add_right, bump_bump, Nat.reduceAdd, X_move, ev_T, lk_cons, Nat.reduceEqDiff, Nat.one_ne_zero, if_false, if_true, X_call ca_34, List.map_cons, List.map_nil, true_and]
  refine CallI.con0 (may_not (s := s) (sz := sz) ?_ h) ?_
  · simp only [FAt, Mem.get_bump, hb]
  simp only [putT, Nat.reduceLT, T_set, X_neq EE_sym, ev_T, lk_cons, Nat.reduceEqDiff, if_false, if_true, ev_const, neq_int, Int.reduceEq, decide_false, Bool.not_false, okI_some, X_nil, thenQ_normal, W_cond, CDi_t, w14_3, W_seq, w14_2, Mem.next_bump, Nat.le_add_right, bump_bump, Nat.reduceAdd, X_assign, W_ret, thenQ_ret, FinC_ret, resA_tmp, T_get, resA_nil, Option.map_some, oneOr1, true_and]
  exact TidyE.pure rfl fun _ _ => rfl
theorem share_open (hb : FAt m b sz s) (h : isO s n) (hr : s.r n.toNat < 9223372036854775807) (hr0 : 0 ≤ s.r n.toNat) : Con EE.P 16 [PT b, In n] m (In 0) (m.put b (.cells (fC (s.setR n.toNat (s.r n.toNat + 1))) true sz)) := by
  refine Con.of EE_ok fn16 (Nat.le_of_ble_eq_true rfl) (Grow.put hb) fun hm => ?_
  obtain ⟨h3, h2, h6⟩ := id h
  have h4 : n < ((64 : Nat) : Int) := h2
  have h5 : n.toNat < 64 := by omega
  have hl : n.toNat * 3 + 2 + 1 ≤ 192 := by omega
  have hw : IntKind.i64.wrap (s.r n.toNat + 1) = s.r n.toNat + 1 := wrap_i64 (by omega) (by omega)
  simp only [f16, enumV, Nat.zero_add, w16, W_seq, w16_0, Nat.le_refl, X_assign, ev_const, Nat.reduceLT, T_set, X_nil, thenQ_normal, w16_1, Mem.next_bump, Nat.le_add_right, bump_bump, Nat.reduceAdd, X_move, ev_T, lk_cons, Nat.reduceEqDiff, Nat.one_ne_zero, if_false, if_true, X_call ca_34, List.map_cons, List.map_nil, true_and]
  refine CallI.con0 (may_open (s := s) (sz := sz) ?_ h) ?_
  · simp only [FAt, Mem.get_bump, hb]
  simp only [putT, Nat.reduceLT, T_set, X_assign, ev_T, lk_cons, Nat.reduceEqDiff, if_false, if_true, X_nil, thenQ_normal, W_seq, w16_2, Mem.next_bump, Nat.le_add_right, bump_bump, Nat.reduceAdd, X_move, X_eql EE_sym, ev_const, eq_int, decide_true, okI_some, W_cond, CDi_t, w16_4, w16_3, Nat.one_ne_zero, X_nilCheck EE_sym, nilV_ptr, X_fieldAddr EE_sym fo_74_0, offV_ptr, Nat.add_zero, X_indexAddr EE_sym, h3, h4, idxV_arr und_72 sz_71, Nat.zero_add, X_fieldAddr EE_sym fo_71_1, X_load EE_sym, load1 lay_3, Mem.get_bump, hb, ld1_cells, fC_r h5, X_bin EE_sym (op := .add) rfl, bin_add, hw, X_store, store1 sz_3, cells_int, st1_cells, List.length_cons, List.length_nil, Nat.add_assoc, fC_n, hl, List.all_cons, oneCell, List.all_nil, Bool.and_self, and_self, put_bump, w16_5, Mem.next_put, W_ret, FinC_ret, resA_tmp, T_get, resA_nil, Option.map_some, oneOr1, true_and]
  refine TidyE.put (c1 := (fC s).write (n.toNat * 3 + 2) [In (s.r n.toNat + 1)]) rfl hm hb (by simp only [Mem.get_bump, Mem.get_put, if_true]) (by simp only [write_n, fC_n]) (fun i hi => ?_) fun k _ hk => by simp only [Mem.get_bump, Mem.get_put, if_neg hk]
  rw [write_n, fC_n] at hi
  exact ⟨by rw [fC_get hi]; exact fcell_plain, fC_setR h5 hi⟩
theorem share_not (hb : FAt m b sz s) (h : ¬ isO s n) : Con EE.P 16 [PT b, In n] m (In 101) m := by
  refine Con.of EE_ok fn16 (Nat.le_of_ble_eq_true rfl) Grow.rfl fun hm => ?_
  simp only [f16, enumV, Nat.zero_add, w16, W_seq, w16_0, Nat.le_refl, X_assign, ev_const, Nat.reduceLT, T_set, X_nil, thenQ_normal, w16_1, Mem.next_bump, Nat.le_add_right, bump_bump, Nat.reduceAdd, X_move, ev_T, lk_cons, Nat.reduceEqDiff, Nat.one_ne_zero, if_false, if_true, X_call ca_34, List.map_cons, List.map_nil, true_and]
  refine CallI.con0 (may_not (s := s) (sz := sz) ?_ h) ?_
  · simp only [FAt, Mem.get_bump, hb]
  simp only [putT, Nat.reduceLT, T_set, X_assign, ev_T, lk_cons, Nat.reduceEqDiff, if_false, if_true, X_nil, thenQ_normal, W_seq, w16_2, Mem.next_bump, Nat.le_add_right, bump_bump, Nat.reduceAdd, X_move, X_eql EE_sym, ev_const, eq_int, Int.reduceEq, decide_false, okI_some, W_cond, CDi_f, W_skip, w16_5, W_ret, FinC_ret, resA_tmp, T_get, resA_nil, Option.map_some, oneOr1, true_and]
  exact TidyE.pure rfl fun _ _ => rfl
theorem drop_not (hb : FAt m b sz s) (h : ¬ isO s n) : Con EE.P 15 [PT b, In n] m (.tuple [In 0, .agg [In 0, .bool false].toArray, In 101].toArray) m := by
  refine Con.of EE_ok fn15 (Nat.le_of_ble_eq_true rfl) Grow.rfl fun hm => ?_
  have hn := fun j => hm.ne hb j
  have hn0 := hm.ne0 hb
  simp only [f15, enumV, Nat.zero_add, w15, W_seq, w15_0, Nat.le_refl, X_assign, ev_const, Nat.reduceLT, T_set, X_alloc, zero_34, okI_some, put_bump, X_nil, thenQ_normal, w15_1, Mem.next_bump, Mem.next_put, Nat.le_add_right, bump_bump, Nat.reduceAdd, X_move, ev_T, lk_cons, Nat.reduceEqDiff, Nat.one_ne_zero, if_false, if_true, X_call ca_34, List.map_cons, List.map_nil, true_and]
  refine CallI.con0 (may_not (s := s) (sz := sz) ?_ h) ?_
  · simp only [FAt, Mem.get_bump, Mem.get_put, hn, if_false, hb]
  simp only [putT, Nat.reduceLT, T_set, X_assign, ev_T, lk_cons, Nat.reduceEqDiff, if_false, if_true, X_nil, thenQ_normal, W_seq, w15_2, Mem.next_bump, Mem.next_put, Nat.le_add_right, bump_bump, Nat.reduceAdd, X_move, X_neq EE_sym, ev_const, neq_int, Int.reduceEq, decide_false, Bool.not_false, okI_some, W_cond, CDi_t, w15_4, w15_3, X_build EE_sym, List.map_nil, b34, X_store, store1 sz_34, Mem.get_bump, Mem.get_put, cells_agg, st1_cells, List.length_cons, List.length_nil, Nat.zero_add, ofList_n, Nat.le_refl, List.all_cons, oneCell, List.all_nil, Bool.and_self, and_self, put_bump, W_ret, thenQ_ret, FinC_ret, resA_tmp, T_get, resA_cell, loadN lay_34, ldN_cells, sub_write_same, Option.map_some, resA_nil, Option.bind_some, oneOr2, true_and]
  exact TidyE.pure rfl fun k hk => by simp only [Mem.get_bump, Mem.get_put, ne_new hk, if_false]

theorem drop_more (hb : FAt m b sz s) (h : isO s n) (hr : s.r n.toNat ≤ 9223372036854775807) (hr0 : 1 < s.r n.toNat) : Con EE.P 15 [PT b, In n] m (.tuple [In (s.r n.toNat - 1), .agg [In (s.p n.toNat), .bool (s.w n.toNat)].toArray, In 0].toArray) (m.put b (.cells (fC (s.setR n.toNat (s.r n.toNat - 1))) true sz)) := by
  refine Con.of EE_ok fn15 (Nat.le_of_ble_eq_true rfl) (Grow.put hb) fun hm => ?_
  obtain ⟨h3, h2, h6⟩ := id h
  have h4 : n < ((64 : Nat) : Int) := h2
  have h5 : n.toNat < 64 := by omega
  have hl : n.toNat * 3 + 3 ≤ 192 := by omega
  have hl2 : n.toNat * 3 + 2 < 192 := by omega
  have hw : IntKind.i64.wrap (s.r n.toNat - 1) = s.r n.toNat - 1 := wrap_i64 (by omega) (by omega)
  have hz : ¬ s.r n.toNat - 1 = 0 := by omega
  have hn := fun j => hm.ne hb j
  have hnx := fun j => (Ne.symm (hm.ne hb j) : ¬ m.next + j = b)
  simp only [f15, enumV, Nat.zero_add, w15, W_seq, w15_0, Nat.le_refl, X_assign, ev_const, Nat.reduceLT, T_set, X_alloc, zero_34, okI_some, put_bump, X_nil, thenQ_normal, w15_1, Mem.next_bump, Mem.next_put, Nat.le_add_right, bump_bump, Nat.reduceAdd, X_move, ev_T, lk_cons, Nat.reduceEqDiff, Nat.one_ne_zero, if_false, if_true, X_call ca_34, List.map_cons, List.map_nil, true_and]
  refine CallI.con0 (may_open (s := s) (sz := sz) ?_ h) ?_
  · simp only [FAt, Mem.get_bump, Mem.get_put, hn, if_false, hb]
  have hx : ((fC s).write (n.toNat * 3 + 2) [In (s.r n.toNat - 1)]).sub (n.toNat * 3) 2 = some [In (s.p n.toNat), .bool (s.w n.toNat)] := sub_get rfl (by simp only [write_n, fC_n]; omega) fun i hi => by
    have := sub_get_inv (fC_x (s := s) h5) (i := i) hi
    rw [get_write, if_neg (by simp; omega), this]
  simp only [putT, Nat.reduceLT, T_set, X_assign, ev_T, lk_cons, Nat.reduceEqDiff, if_false, if_true, X_nil, thenQ_normal, W_seq, w15_2, Mem.next_bump, Mem.next_put, Nat.le_add_right, bump_bump, Nat.reduceAdd, X_move, X_neq EE_sym, ev_const, neq_int, decide_true, Bool.not_true, okI_some, W_cond, CDi_f, W_skip, w15_5, Nat.one_ne_zero, X_nilCheck EE_sym, nilV_ptr, X_fieldAddr EE_sym fo_74_0, offV_ptr, Nat.add_zero, X_indexAddr EE_sym, h3, h4, idxV_arr und_72 sz_71, Nat.zero_add, w15_6, X_fieldAddr EE_sym fo_71_0, X_load EE_sym, loadN lay_34, Mem.get_bump, Mem.get_put, hn, hb, ldN_cells, fC_x h5, Option.map_some, X_store, store1 sz_34, cells_agg, st1_cells, List.length_cons, List.length_nil, ofList_n, Nat.le_refl, List.all_cons, oneCell, List.all_nil, Bool.and_self, and_self, put_bump, w15_7, X_fieldAddr EE_sym fo_71_1, load1 lay_3, ld1_cells, fC_r h5, X_bin EE_sym (op := .sub) rfl, bin_sub, hw, store1 sz_3, cells_int, Nat.add_assoc, fC_n, hl, w15_8, hl2, nth_write_same, w15_9, X_eql EE_sym, eq_int, hz, decide_false, w15_12, hnx, sub_write_same, write_n, W_ret, FinC_ret, resA_tmp, T_get, resA_cell, resA_nil, Option.bind_some, oneOr2, true_and]
  refine TidyE.put (c1 := (fC s).write (n.toNat * 3 + 2) [In (s.r n.toNat - 1)]) rfl hm hb (by simp only [Mem.get_bump, Mem.get_put, hn, if_true, if_false]) (by simp only [write_n, fC_n]) (fun i hi => ?_) fun k hk hkb => by simp only [Mem.get_bump, Mem.get_put, hkb, ne_new hk, if_false]
  rw [write_n, fC_n] at hi
  exact ⟨by rw [fC_get hi]; exact fcell_plain, fC_setR h5 hi⟩
theorem drop_last (hb : FAt m b sz s) (h : isO s n) (hr0 : s.r n.toNat = 1) : Con EE.P 15 [PT b, In n] m (.tuple [In 0, .agg [In (s.p n.toNat), .bool (s.w n.toNat)].toArray, In 0].toArray) (m.put b (.cells (fC (s.set n.toNat 0 false 0)) true sz)) := by
  refine Con.of EE_ok fn15 (Nat.le_of_ble_eq_true rfl) (Grow.put hb) fun hm => ?_
  obtain ⟨h3, h2, h6⟩ := id h
  have h4 : n < ((64 : Nat) : Int) := h2
  have h5 : n.toNat < 64 := by omega
  have hl : n.toNat * 3 + 3 ≤ 192 := by omega
  have hl2 : n.toNat * 3 + 2 < 192 := by omega
  have hw : IntKind.i64.wrap (s.r n.toNat - 1) = 0 := by rw [hr0]; rfl
  have hwx : IntKind.i64.wrap (1 - 1) = 0 := rfl
  have hn := fun j => hm.ne hb j
  have hnx := fun j => (Ne.symm (hm.ne hb j) : ¬ m.next + j = b)
  simp only [f15, enumV, Nat.zero_add, w15, W_seq, w15_0, Nat.le_refl, X_assign, ev_const, Nat.reduceLT, T_set, X_alloc, zero_34, okI_some, put_bump, X_nil, thenQ_normal, w15_1, Mem.next_bump, Mem.next_put, Nat.le_add_right, bump_bump, Nat.reduceAdd, X_move, ev_T, lk_cons, Nat.reduceEqDiff, Nat.one_ne_zero, if_false, if_true, X_call ca_34, List.map_cons, List.map_nil, true_and]
  refine CallI.con0 (may_open (s := s) (sz := sz) ?_ h) ?_
  · simp only [FAt, Mem.get_bump, Mem.get_put, hn, if_false, hb]
  simp only [putT, Nat.reduceLT, T_set, X_assign, ev_T, lk_cons, Nat.reduceEqDiff, if_false, if_true, X_nil, thenQ_normal, W_seq, w15_2, Mem.next_bump, Mem.next_put, Nat.le_add_right, bump_bump, Nat.reduceAdd, X_move, X_neq EE_sym, ev_const, neq_int, decide_true, Bool.not_true, okI_some, W_cond, CDi_f, W_skip, w15_5, Nat.one_ne_zero, X_nilCheck EE_sym, nilV_ptr, X_fieldAddr EE_sym fo_74_0, offV_ptr, Nat.add_zero, X_indexAddr EE_sym, h3, h4, idxV_arr und_72 sz_71, Nat.zero_add, w15_6, X_fieldAddr EE_sym fo_71_0, X_load EE_sym, loadN lay_34, Mem.get_bump, Mem.get_put, hn, hb, ldN_cells, fC_x h5, Option.map_some, X_store, store1 sz_34, cells_agg, st1_cells, List.length_cons, List.length_nil, ofList_n, Nat.le_refl, List.all_cons, oneCell, List.all_nil, Bool.and_self, and_self, put_bump, w15_7, X_fieldAddr EE_sym fo_71_1, load1 lay_3, ld1_cells, fC_r h5, hr0, X_bin EE_sym (op := .sub) rfl, bin_sub, hwx, store1 sz_3, cells_int, Nat.add_assoc, fC_n, hl, w15_8, hl2, nth_write_same, w15_9, X_eql EE_sym, eq_int, CDi_t, w15_11, w15_10, X_build EE_sym, List.map_nil, b71, store1 sz_71, write_n, w15_12, hnx, sub_write_same, W_ret, FinC_ret, resA_tmp, T_get, resA_cell, resA_nil, Option.bind_some, oneOr2, true_and]
  refine TidyE.put (c1 := ((fC s).write (n.toNat * 3 + 2) [In 0]).write (n.toNat * 3) [In 0, .bool false, In 0]) rfl hm hb (by simp only [Mem.get_bump, Mem.get_put, hn, if_true, if_false]) (by simp only [write_n, fC_n]) (fun i hi => ?_) fun k hk hkb => by simp only [Mem.get_bump, Mem.get_put, hkb, ne_new hk, if_false]
  simp only [write_n, fC_n] at hi
  refine ⟨by rw [fC_get hi]; exact fcell_plain, ?_⟩
  have e1 : ((fC s).write (n.toNat * 3) [In 0, .bool false, In 0]).get i = _ := get_write
  rw [← fC_set h5 hi, get_write, e1]
  split
  · rfl
  · rename_i hh
    rw [get_write, if_neg (by simp at hh ⊢; omega)]
theorem fC_len {s : FS} : (fC s).list.length = 192 := by rw [Cells.list_length, fC_n]
theorem fC_all {s : FS} : (fC s).list.all oneCell = true := by
  rw [List.all_eq_true]
  intro v hv
  obtain ⟨i, hi, e⟩ := List.getElem_of_mem hv
  rw [fC_len] at hi
  have h2 := list_getD (fC s) (i := i) (by rw [fC_n]; exact hi)
  rw [List.getD_eq_getElem?_getD, List.getElem?_eq_getElem (by rw [fC_len]; exact hi)] at h2
  rw [← e, show (fC s).list[i] = fcell s i from h2.trans (fC_get hi)]
  unfold fcell
  split
  · rfl
  · split <;> rfl
theorem fC_sub {s : FS} : (fC s).sub 0 192 = some (fC s).list := sub_get fC_len (by rw [fC_n]; exact Nat.le_refl _) fun i hi => by rw [list_getD _ (by rw [fC_n]; exact hi), Nat.zero_add]
theorem fC_copy {s : FS} {c : Cells} {i : Nat} (h : i < 192) : (c.write 0 (fC s).list).get i = (fC s).get i := by
  rw [get_write, if_pos ⟨Nat.zero_le _, by rw [fC_len]; omega⟩, Nat.sub_zero, list_getD _ (by rw [fC_n]; exact h)]
theorem copy_ok (hb : FAt m b sz s) : Con EE.P 12 [PT b] m (PT m.next) ((m.put m.next (.cells (fC s) true 0)).bump 1) := by
  refine Con.of EE_ok fn12 (Nat.le_of_ble_eq_true rfl) Grow.new fun hm => ?_
  have hn := fun j => hm.ne hb j
  simp only [f12, enumV, w12, W_seq, w12_0, Nat.le_refl, X_assign, ev_const, Nat.reduceLT, T_set, X_nil, thenQ_normal, w12_1, Mem.next_bump, Nat.le_add_right, bump_bump, Nat.reduceAdd, X_move, ev_T, lk_cons, Nat.reduceEqDiff, if_true, if_false, X_eql EE_sym, eq_ptr_nil und_26, okI_some, W_cond, CDi_f, W_skip, w12_4, X_nilCheck EE_sym, nilV_ptr, X_load EE_sym, loadN lay_74, Mem.get_bump, hb, ldN_cells, fC_sub, Option.map_some, X_alloc, z74, Nat.add_assoc, put_bump, X_store, store1 sz_74, Mem.get_put, cells_agg, st1_cells, fC_len, Nat.zero_add, ofList_n, fC_all, and_self, w12_5, Mem.next_put, W_ret, FinC_ret, resA_tmp, T_get, resA_nil, oneOr1, true_and]
  refine TidyE.new (c1 := (Cells.ofList (fC ⟨fun _ => 0, fun _ => false, fun _ => 0⟩).list).write 0 (fC s).list) (Nat.le_add_right _ _) rv_new (by simp only [Mem.get_bump, Mem.get_put, if_true]) (by simp only [write_n, ofList_n, fC_len, fC_n]) (fun i hi => ?_) fun k hk => by simp only [Mem.get_bump, Mem.get_put, ne_new hk, if_false]
  rw [write_n, ofList_n, fC_len] at hi
  exact ⟨by rw [fC_get hi]; exact fcell_plain, fC_copy hi⟩
theorem open_bad {p : Int} {w : Bool} (h : p < 0 ∨ 16 ≤ p) : Con EE.P 21 [PT b, .agg [In p, .bool w].toArray] m (.tuple [In 0, In 2].toArray) m := by
  refine Con.of EE_ok fn21 (Nat.le_of_ble_eq_true rfl) Grow.rfl fun hm => ?_
  by_cases h1 : p < 0
  · simp only [f21, enumV, Nat.zero_add, w21, W_seq, w21_0, Nat.le_refl, X_box, Nat.reduceLT, ev_T, lk_cons, Nat.reduceEqDiff, if_true, if_false, box_agg, okI_some, Nat.add_zero, T_set, put_bump, X_assign, ev_const, X_nil, thenQ_normal, W_block, w21_8, w21_1, Mem.next_bump, Mem.next_put, Nat.le_add_right, bump_bump, Nat.reduceAdd, X_move, Nat.one_ne_zero, X_eql EE_sym, eq_ptr_nil und_26, W_cond, CDi_f, w21_7, w21_4, X_fieldAddr EE_sym fo_34_0, offV_ptr, X_load EE_sym, load1 lay_3, Mem.get_bump, Mem.get_put, ld1_cells, nth_ofList, List.getElem?_cons_zero, X_bin EE_sym (op := .lss) rfl, bin_lss, h1, decide_true, X_guard EE_sym, T_get, GDi_tf, putT, X_pick EE_sym, pickV_bool, CDi_t, w21_6, w21_5, W_ret, blockQ_ret, thenQ_ret, FinC_ret, resA_tmp, resA_nil, Option.map_some, oneOr2, true_and]
    exact TidyE.pure rfl fun k hk => by simp only [Mem.get_bump, Mem.get_put, ne_new0 hk, if_false]
  · have h2 : 16 ≤ p := by omega
    simp only [f21, enumV, Nat.zero_add, w21, W_seq, w21_0, Nat.le_refl, X_box, Nat.reduceLT, ev_T, lk_cons, Nat.reduceEqDiff, if_true, if_false, box_agg, okI_some, Nat.add_zero, T_set, put_bump, X_assign, ev_const, X_nil, thenQ_normal, W_block, w21_8, w21_1, Mem.next_bump, Mem.next_put, Nat.le_add_right, bump_bump, Nat.reduceAdd, X_move, Nat.one_ne_zero, X_eql EE_sym, eq_ptr_nil und_26, W_cond, CDi_f, w21_7, w21_4, X_fieldAddr EE_sym fo_34_0, offV_ptr, X_load EE_sym, load1 lay_3, Mem.get_bump, Mem.get_put, ld1_cells, nth_ofList, List.getElem?_cons_zero, X_bin EE_sym (op := .lss) rfl, bin_lss, h1, decide_false, X_guard EE_sym, T_get, GDi_ff, X_bin EE_sym (op := .geq) rfl, bin_geq, h2, decide_true, X_pick EE_sym, pickV_bool, Bool.false_eq_true, CDi_t, w21_6, w21_5, W_ret, blockQ_ret, thenQ_ret, FinC_ret, resA_tmp, resA_nil, Option.map_some, oneOr2, true_and]
    exact TidyE.pure rfl fun k hk => by simp only [Mem.get_bump, Mem.get_put, ne_new0 hk, if_false]
theorem open_full {p : Int} {w : Bool} (hb : FAt m b sz s) (h1 : 0 ≤ p) (h2 : p < 16) (h : ∀ k, k < 64 → s.r k ≠ 0) : Con EE.P 21 [PT b, .agg [In p, .bool w].toArray] m (.tuple [In 0, In 100].toArray) m := by
  refine Con.of EE_ok fn21 (Nat.le_of_ble_eq_true rfl) Grow.rfl fun hm => ?_
  have h3 : ¬ p < 0 := by omega
  have h4 : ¬ 16 ≤ p := by omega
  have hn0 := hm.ne0 hb
  simp only [f21, enumV, Nat.zero_add, w21, W_seq, w21_0, Nat.le_refl, X_box, Nat.reduceLT, ev_T, lk_cons, Nat.reduceEqDiff, if_true, if_false, box_agg, okI_some, Nat.add_zero, T_set, put_bump, X_assign, ev_const, X_nil, thenQ_normal, W_block, w21_8, w21_1, Mem.next_bump, Mem.next_put, Nat.le_add_right, bump_bump, Nat.reduceAdd, X_move, Nat.one_ne_zero, X_eql EE_sym, eq_ptr_nil und_26, W_cond, CDi_f, w21_7, w21_4, X_fieldAddr EE_sym fo_34_0, offV_ptr, X_load EE_sym, load1 lay_3, Mem.get_bump, Mem.get_put, ld1_cells, nth_ofList, List.getElem?_cons_zero, X_bin EE_sym (op := .lss) rfl, bin_lss, h3, decide_false, X_guard EE_sym, T_get, GDi_ff, X_bin EE_sym (op := .geq) rfl, bin_geq, h4, X_pick EE_sym, pickV_bool, Bool.false_eq_true, W_skip, blockQ_normal, w21_9, w21_19, true_and]
  refine WX.loop_of (fun k t m' => ∃ i j : Nat, i ≤ 64 ∧ k = 64 - i ∧ t = T 39 [(19, In i), (3, PT m.next), (0, PT b)] ∧ m' = (m.put m.next (.cells (Cells.ofList [In p, .bool w]) true 0)).bump j) ?_ (k := 64) (t1 := T 39 [(19, In (0 : Nat)), (3, PT m.next), (0, PT b)]) (View.temps ?_) ⟨0, 16, by omega, rfl, rfl, rfl⟩
  · rintro k t m' ⟨i, j, hi, rfl, rfl, rfl⟩
    by_cases hi2 : i < 64
    · have g1 : (i : Int) < 64 := by omega
      have g2 : (0 : Int) ≤ i := by omega
      have g3 : (i : Int) < ((64 : Nat) : Int) := g1
      have g4 := h i hi2
      have hw : IntKind.i64.wrap ((i : Int) + 1) = ((i + 1 : Nat) : Int) := by rw [wrap_i64 (by omega) (by omega)]; omega
      simp only [w21_18, W_seq, w21_10, Mem.next_bump, Mem.next_put, Nat.le_add_right, bump_bump, X_bin EE_sym (op := .lss) rfl, Nat.reduceLT, ev_T, lk_cons, Nat.reduceEqDiff, if_false, if_true, ev_const, bin_lss, g1, decide_true, okI_some, T_set, X_nil, thenQ_normal, W_cond, CDi_t, W_skip, W_block, w21_16, w21_11, Nat.add_assoc, Nat.reduceAdd, X_move, X_assign, w21_12, X_nilCheck EE_sym, nilV_ptr, X_fieldAddr EE_sym fo_74_0, offV_ptr, Nat.add_zero, X_indexAddr EE_sym, g2, g3, idxV_arr und_72 sz_71, Int.toNat_natCast, Nat.zero_add, X_fieldAddr EE_sym fo_71_1, X_load EE_sym, load1 lay_3, Mem.get_bump, Mem.get_put, hn0, hb, ld1_cells, fC_r hi2, X_eql EE_sym, eq_int, g4, decide_false, CDi_f, blockQ_normal, w21_17, X_bin EE_sym (op := .add) rfl, bin_add, hw, roundQ_normal, true_and]
      exact ⟨64 - (i + 1), _, _, by omega, View.temps (l' := [(19, In ((i + 1 : Nat) : Int)), (3, PT m.next), (0, PT b)]) ⟨rfl, rfl, rfl, trivial⟩, i + 1, j + 13, by omega, rfl, rfl, rfl⟩
    · have g1 : ¬ (i : Int) < 64 := by omega
      simp only [w21_18, W_seq, w21_10, Mem.next_bump, Mem.next_put, Nat.le_add_right, bump_bump, X_bin EE_sym (op := .lss) rfl, Nat.reduceLT, ev_T, lk_cons, Nat.reduceEqDiff, if_false, if_true, ev_const, bin_lss, g1, decide_false, okI_some, T_set, X_nil, thenQ_normal, W_cond, CDi_f, W_exit, thenQ_exit, roundQ_exit, blockQ_exit, w21_20, Nat.add_assoc, Nat.reduceAdd, X_assign, W_ret, FinC_ret, resA_tmp, T_get, resA_nil, Option.map_some, oneOr2, true_and]
      exact TidyE.pure rfl fun k hk => by simp only [Mem.get_bump, Mem.get_put, ne_new0 hk, if_false]
  · exact ⟨rfl, rfl, rfl, trivial⟩
theorem b71x {p r : Int} {w : Bool} : buildA EE.P 71 [(0, .agg [In p, .bool w].toArray), (1, In r)] = some (.agg [In p, .bool w, In r].toArray) := by kernel_rfl
theorem open_at {p : Int} {w : Bool} {k : Nat} (hb : FAt m b sz s) (h1 : 0 ≤ p) (h2 : p < 16) (hk : k < 64) (h0 : s.r k = 0) (h : ∀ j, j < k → s.r j ≠ 0) : Con EE.P 21 [PT b, .agg [In p, .bool w].toArray] m (.tuple [In k, In 0].toArray) (m.put b (.cells (fC (s.set k p w 1)) true sz)) := by
  refine Con.of EE_ok fn21 (Nat.le_of_ble_eq_true rfl) (Grow.put hb) fun hm => ?_
  have h3 : ¬ p < 0 := by omega
  have h4 : ¬ 16 ≤ p := by omega
  have hn0 := hm.ne0 hb
  simp only [f21, enumV, Nat.zero_add, w21, W_seq, w21_0, Nat.le_refl, X_box, Nat.reduceLT, ev_T, lk_cons, Nat.reduceEqDiff, if_true, if_false, box_agg, okI_some, Nat.add_zero, T_set, put_bump, X_assign, ev_const, X_nil, thenQ_normal, W_block, w21_8, w21_1, Mem.next_bump, Mem.next_put, Nat.le_add_right, bump_bump, Nat.reduceAdd, X_move, Nat.one_ne_zero, X_eql EE_sym, eq_ptr_nil und_26, W_cond, CDi_f, w21_7, w21_4, X_fieldAddr EE_sym fo_34_0, offV_ptr, X_load EE_sym, load1 lay_3, Mem.get_bump, Mem.get_put, ld1_cells, nth_ofList, List.getElem?_cons_zero, X_bin EE_sym (op := .lss) rfl, bin_lss, h3, decide_false, X_guard EE_sym, T_get, GDi_ff, X_bin EE_sym (op := .geq) rfl, bin_geq, h4, X_pick EE_sym, pickV_bool, Bool.false_eq_true, W_skip, blockQ_normal, w21_9, w21_19, true_and]
  refine WX.loop_of (fun x t m' => ∃ i j : Nat, i ≤ k ∧ x = 64 - i ∧ t = T 39 [(19, In i), (3, PT m.next), (0, PT b)] ∧ m' = (m.put m.next (.cells (Cells.ofList [In p, .bool w]) true 0)).bump j) ?_ (k := 64) (t1 := T 39 [(19, In (0 : Nat)), (3, PT m.next), (0, PT b)]) (View.temps ?_) ⟨0, 16, by omega, rfl, rfl, rfl⟩
  · rintro x t m' ⟨i, j, hi, rfl, rfl, rfl⟩
    have g1 : (i : Int) < 64 := by omega
    have g2 : (0 : Int) ≤ i := by omega
    have g3 : (i : Int) < ((64 : Nat) : Int) := g1
    have hi2 : i < 64 := by omega
    by_cases hik : i = k
    · subst hik
      have hl : i * 3 + 3 ≤ 192 := by omega
      have hx : (Cells.ofList [In p, .bool w]).sub 0 2 = some [In p, .bool w] := sub_ofList (l := [In p, .bool w]) (Nat.le_refl _)
      have hnx : ¬ m.next = b := fun e => hn0 e.symm
      simp only [w21_18, W_seq, w21_10, Mem.next_bump, Mem.next_put, Nat.le_add_right, bump_bump, X_bin EE_sym (op := .lss) rfl, Nat.reduceLT, ev_T, lk_cons, Nat.reduceEqDiff, if_false, if_true, ev_const, bin_lss, g1, decide_true, okI_some, T_set, X_nil, thenQ_normal, W_cond, CDi_t, W_skip, W_block, w21_16, w21_11, Nat.add_assoc, Nat.reduceAdd, X_move, X_assign, w21_12, X_nilCheck EE_sym, nilV_ptr, X_fieldAddr EE_sym fo_74_0, offV_ptr, Nat.add_zero, X_indexAddr EE_sym, g2, g3, idxV_arr und_72 sz_71, Int.toNat_natCast, Nat.zero_add, X_fieldAddr EE_sym fo_71_1, X_load EE_sym, load1 lay_3, Mem.get_bump, Mem.get_put, hn0, hb, ld1_cells, fC_r hi2, h0, X_eql EE_sym, eq_int, w21_15, w21_13, loadN lay_34, ldN_cells, hx, Option.map_some, X_build EE_sym, List.map_cons, List.map_nil, b71x, X_store, store1 sz_71, cells_agg, st1_cells, List.length_cons, List.length_nil, fC_n, hl, List.all_cons, oneCell, List.all_nil, Bool.and_self, and_self, put_bump, w21_14, W_ret, blockQ_ret, thenQ_ret, roundQ_ret, FinC_ret, resA_tmp, T_get, resA_nil, oneOr2, true_and]
      refine TidyE.put (c1 := (fC s).write (i * 3) [In p, .bool w, In 1]) rfl hm hb (by simp only [Mem.get_bump, Mem.get_put, if_true]) (by simp only [write_n, fC_n]) (fun x hx => ?_) fun k hk hkb => by simp only [Mem.get_bump, Mem.get_put, hkb, ne_new0 hk, if_false]
      rw [write_n, fC_n] at hx
      exact ⟨by rw [fC_get hx]; exact fcell_plain, fC_set hi2 hx⟩
    · have g4 := h i (by omega)
      have hw : IntKind.i64.wrap ((i : Int) + 1) = ((i + 1 : Nat) : Int) := by rw [wrap_i64 (by omega) (by omega)]; omega
      simp only [w21_18, W_seq, w21_10, Mem.next_bump, Mem.next_put, Nat.le_add_right, bump_bump, X_bin EE_sym (op := .lss) rfl, Nat.reduceLT, ev_T, lk_cons, Nat.reduceEqDiff, if_false, if_true, ev_const, bin_lss, g1, decide_true, okI_some, T_set, X_nil, thenQ_normal, W_cond, CDi_t, W_skip, W_block, w21_16, w21_11, Nat.add_assoc, Nat.reduceAdd, X_move, X_assign, w21_12, X_nilCheck EE_sym, nilV_ptr, X_fieldAddr EE_sym fo_74_0, offV_ptr, Nat.add_zero, X_indexAddr EE_sym, g2, g3, idxV_arr und_72 sz_71, Int.toNat_natCast, Nat.zero_add, X_fieldAddr EE_sym fo_71_1, X_load EE_sym, load1 lay_3, Mem.get_bump, Mem.get_put, hn0, hb, ld1_cells, fC_r hi2, X_eql EE_sym, eq_int, g4, decide_false, CDi_f, blockQ_normal, w21_17, X_bin EE_sym (op := .add) rfl, bin_add, hw, roundQ_normal, true_and]
      exact ⟨64 - (i + 1), _, _, by omega, View.temps (l' := [(19, In ((i + 1 : Nat) : Int)), (3, PT m.next), (0, PT b)]) ⟨rfl, rfl, rfl, trivial⟩, i + 1, j + 13, by omega, rfl, rfl, rfl⟩
  · exact ⟨rfl, rfl, rfl, trivial⟩
end
end
end Go.Ab
