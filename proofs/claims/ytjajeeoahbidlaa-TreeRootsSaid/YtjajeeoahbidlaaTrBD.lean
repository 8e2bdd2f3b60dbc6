/- Tree: the state; what is read of it. -/
import Derived.Test.YtjajeeoahbidlaaTrA
import Derived.Test.YtjajeeoahbidlaaTP
import Derived.Test.YtjajeeoahbidlaaTreSort
namespace Go.Ab
open Go.Proofs
noncomputable section
set_option maxHeartbeats 4000000
set_option maxRecDepth 10000
abbrev Um (x : BitVec 32) : Value := .int .u32 (x.toNat : Int)
abbrev Pr := Int × Int × BitVec 32
abbrev TL := List (Int × Pr)
abbrev Pv (x : Pr) : Value := .agg [In x.1, In x.2.1, Um x.2.2].toArray
/-- The process; zero: it is not there. -/
def at_ (L : TL) (p : Int) : Pr := (mget L p).getD (0, 0, 0#32)
/-- A table, where it lies. -/
structure TAt (m : Mem) (t b : Nat) (room top : Int) (L : TL) : Prop where
  cs : ∃ cs, m.get t = some (.cells cs true 0) ∧ cs.n = 3 ∧ cs.nth 0 = some (In room) ∧ cs.nth 1 = some (.map (some b)) ∧ cs.nth 2 = some (In top)
  mp : m.get b = some (.map (ml Pv L) true)
  rm : 1 ≤ room ∧ room ≤ 32
/-- What is written: the table and its map, and new blocks. -/
structure FrT (m m' : Mem) (t b : Nat) : Prop where
  next : m.next ≤ m'.next
  fresh : Fresh m'
  old : ∀ y, y < m.next → y ≠ t → y ≠ b → m'.get y = m.get y
  low : ∀ y, y < m.next → m.get y = none → m'.get y = none
section
variable {m m' : Mem} {t b : Nat} {room top : Int} {L : TL} {p : Int}
theorem TAt.keep (h : TAt m t b room top L) (ht : m'.get t = m.get t) (hb : m'.get b = m.get b) : TAt m' t b room top L := by
  obtain ⟨cs, h1, h2⟩ := h.cs
  exact ⟨⟨cs, ht.trans h1, h2⟩, hb.trans h.mp, h.rm⟩
theorem TAt.bump (h : TAt m t b room top L) (j : Nat) : TAt (m.bump j) t b room top L := h.keep rfl rfl
theorem TAt.lt (h : TAt m t b room top L) (hm : Fresh m) : t < m.next ∧ b < m.next ∧ t ≠ b := by
  obtain ⟨cs, h1, _⟩ := h.cs
  exact ⟨hm.lt h1, hm.lt h.mp, fun e => by rw [e, h.mp] at h1; cases h1⟩
theorem TAt.nx (h : TAt m t b room top L) (hm : Fresh m) (hn : Nx m m') : TAt m' t b room top L := h.keep (hn.old t (h.lt hm).1) (hn.old b (h.lt hm).2.1)
theorem FrT.of_nx (h : Nx m m') : FrT m m' t b := ⟨h.next, h.fresh, fun y hy _ _ => h.old y hy, fun y hy e => by rw [h.old y hy, e]⟩
theorem FrT.trans {m2 : Mem} (h : FrT m m' t b) (h2 : FrT m' m2 t b) : FrT m m2 t b :=
  ⟨Nat.le_trans h.next h2.next, h2.fresh, fun y hy y1 y2 => by rw [h2.old y (Nat.lt_of_lt_of_le hy h.next) y1 y2, h.old y hy y1 y2], fun y hy e => h2.low y (Nat.lt_of_lt_of_le hy h.next) (h.low y hy e)⟩
theorem FrT.bump (h : FrT m m' t b) (j : Nat) : FrT m (m'.bump j) t b := ⟨by rw [Mem.next_bump]; have := h.next; omega, h.fresh.bump, h.old, h.low⟩
theorem FrT.of_bump {j : Nat} (h : FrT (m.bump j) m' t b) : FrT m m' t b := ⟨by have := h.next; rw [Mem.next_bump] at this; omega, h.fresh, fun y hy => h.old y (by rw [Mem.next_bump]; omega), fun y hy => h.low y (by rw [Mem.next_bump]; omega)⟩
theorem FrT.raw {u : Value} {R : Value → Mem → Prop} (h : FrT m m' t b) (hR : R u m') : RawE m m' u R := ⟨⟨h.next, h.low⟩, hR⟩
theorem z57 : zeroOf EE.P 57 = some (Pv (0, 0, 0#32)) := by kernel_rfl
theorem lk_at {b : Nat} {k : Int} {ok : Bool} : lookupA EE.P 58 (.map (some b)) (.int .i64 k) ok m = lupC (.int .i64) (Pv (0, 0, 0#32)) (.int .i64 k) ok (m.get b) := lookup_at und_58 und_3 z57 (by kernel_rfl)
theorem ms_at {b : Nat} {k : Int} {x : Value} : mapSetA EE.P 58 (.map (some b)) (.int .i64 k) x m = msC (.int .i64) (.int .i64 k) x b m (m.get b) := mapSet_at und_58 und_3
theorem md_at {b : Nat} {k : Int} : deleteA EE.P #[58, 3] (.map (some b)) (.int .i64 k) m = mdC (.int .i64) (.int .i64 k) b m (m.get b) := delete_at rfl und_58 und_3
theorem getD_Pv {k : Int} : ((mget L k).map Pv).getD (Pv (0, 0, 0#32)) = Pv (at_ L k) := by unfold at_; cases mget L k <;> rfl
theorem fi_r {d rt f : Nat} {x : Operand} {r : Operand → Value} : pureA EE.P ⟨some d, .field 57 x f, rt, none⟩ r = pureA EE.P ⟨some d, .field 57 x f, rt, none⟩ (fun _ => r x) := rfl
theorem fi_0' {d rt : Nat} {x : Operand} {y : Pr} : pureA EE.P ⟨some d, .field 57 x 0, rt, none⟩ (fun _ => Pv y) = some (In y.1) := by kernel_rfl
theorem fi_1' {d rt : Nat} {x : Operand} {y : Pr} : pureA EE.P ⟨some d, .field 57 x 1, rt, none⟩ (fun _ => Pv y) = some (In y.2.1) := by kernel_rfl
theorem fi_2' {d rt : Nat} {x : Operand} {y : Pr} : pureA EE.P ⟨some d, .field 57 x 2, rt, none⟩ (fun _ => Pv y) = some (Um y.2.2) := by kernel_rfl
theorem fi_0 {d rt : Nat} {x : Operand} {r : Operand → Value} {y : Pr} (h : r x = Pv y) : pureA EE.P ⟨some d, .field 57 x 0, rt, none⟩ r = some (In y.1) := by rw [fi_r, h, fi_0']
theorem fi_1 {d rt : Nat} {x : Operand} {r : Operand → Value} {y : Pr} (h : r x = Pv y) : pureA EE.P ⟨some d, .field 57 x 1, rt, none⟩ r = some (In y.2.1) := by rw [fi_r, h, fi_1']
theorem fi_2 {d rt : Nat} {x : Operand} {r : Operand → Value} {y : Pr} (h : r x = Pv y) : pureA EE.P ⟨some d, .field 57 x 2, rt, none⟩ r = some (Um y.2.2) := by rw [fi_r, h, fi_2']
theorem nps : ∀ (x y : Operand) (m : Mem), eqA EE.P .eql 25 x y (PT t) (.pointer none) m = some (.bool false) := fun x y m => eq_ptr_nil und_25
theorem none_ok (h : TAt m t b room top L) : Con EE.P 27 [PT t] m (.bool false) m := by
  refine Con.of EE_ok fn27 (Nat.le_of_ble_eq_true rfl) Grow.rfl fun hm => ?_
  obtain ⟨cs, h1, h2, h3, h4, h5⟩ := h.cs
  have hr : decide (room = 0) = false := decide_eq_false (by have := h.rm; omega)
  simp only [f27, enumV, w27, W_seq, w27_0, Nat.le_refl, X_assign, ev_const, Nat.reduceLT, T_set, X_nil, thenQ_normal, w27_1, Mem.next_bump, Nat.le_add_right, bump_bump, Nat.reduceAdd, X_move, ev_T, lk_cons, Nat.reduceEqDiff, if_true, if_false, X_eql EE_sym, eq_ptr_nil und_25, okI_some, X_guard EE_sym, T_get, GDi_ff, X_nilCheck EE_sym, nilV_ptr, X_fieldAddr EE_sym fo_60_0, offV_ptr, Nat.add_zero, X_load EE_sym, load1 lay_3, Mem.get_bump, h1, ld1_cells, h3, eq_int, hr, X_pick EE_sym, pickV_bool, Bool.false_eq_true, W_ret, FinC_ret, resA_tmp, resA_nil, Option.map_some, oneOr1, true_and]
  exact TidyE.pure rfl fun _ _ => rfl
theorem state_ok (h : TAt m t b room top L) : Con EE.P 17 [PT t, In p] m (In (at_ L p).2.1) m := by
  refine Con.of EE_ok fn17 (Nat.le_of_ble_eq_true rfl) Grow.rfl fun hm => ?_
  obtain ⟨cs, h1, h2, h3, h4, h5⟩ := h.cs
  simp only [f17, enumV, Nat.zero_add, w17, W_seq, w17_0, Nat.le_refl, X_assign, ev_const, Nat.reduceLT, T_set, X_nil, thenQ_normal, w17_1, Mem.next_bump, Nat.le_add_right, bump_bump, Nat.reduceAdd, X_move, ev_T, lk_cons, Nat.reduceEqDiff, Nat.one_ne_zero, if_false, if_true, X_call ca_27, List.map_cons, List.map_nil, true_and]
  refine CallI.con0 (none_ok (h.bump _)) ?_
  have h6 := h.mp
  simp only [putT, Nat.reduceLT, T_set, X_nil, thenQ_normal, W_cond, ev_T, lk_cons, Nat.reduceEqDiff, if_false, if_true, CDi_f, W_skip, W_seq, w17_4, Mem.next_bump, Nat.le_add_right, bump_bump, Nat.reduceAdd, X_move, Nat.one_ne_zero, X_nilCheck EE_sym, nilV_ptr, okI_some, X_fieldAddr EE_sym fo_60_1, offV_ptr, Nat.zero_add, X_load EE_sym, load1 lay_58, Mem.get_bump, h1, ld1_cells, h4, X_lookup EE_sym, lk_at, h6, lupC_f, getD_Pv, X_field EE_sym, true_and]
  rw [fi_1 (y := at_ L p) rfl]
  simp only [okI_some, Nat.reduceLT, T_set, X_assign, ev_T, lk_cons, Nat.reduceEqDiff, if_false, if_true, X_nil, thenQ_normal, W_ret, FinC_ret, resA_tmp, T_get, resA_nil, Option.map_some, oneOr1]
  exact TidyE.pure rfl fun _ _ => rfl
theorem status_ok (h : TAt m t b room top L) : Con EE.P 18 [PT t, In p] m (Um (at_ L p).2.2) m := by
  refine Con.of EE_ok fn18 (Nat.le_of_ble_eq_true rfl) Grow.rfl fun hm => ?_
  obtain ⟨cs, h1, h2, h3, h4, h5⟩ := h.cs
  simp only [f18, enumV, Nat.zero_add, w18, W_seq, w18_0, Nat.le_refl, X_assign, ev_const, Nat.reduceLT, T_set, X_nil, thenQ_normal, w18_1, Mem.next_bump, Nat.le_add_right, bump_bump, Nat.reduceAdd, X_move, ev_T, lk_cons, Nat.reduceEqDiff, Nat.one_ne_zero, if_false, if_true, X_call ca_27, List.map_cons, List.map_nil, true_and]
  refine CallI.con0 (none_ok (h.bump _)) ?_
  have h6 := h.mp
  simp only [putT, Nat.reduceLT, T_set, X_nil, thenQ_normal, W_cond, ev_T, lk_cons, Nat.reduceEqDiff, if_false, if_true, CDi_f, W_skip, W_seq, w18_4, Mem.next_bump, Nat.le_add_right, bump_bump, Nat.reduceAdd, X_move, Nat.one_ne_zero, X_nilCheck EE_sym, nilV_ptr, okI_some, X_fieldAddr EE_sym fo_60_1, offV_ptr, Nat.zero_add, X_load EE_sym, load1 lay_58, Mem.get_bump, h1, ld1_cells, h4, X_lookup EE_sym, lk_at, h6, lupC_f, getD_Pv, X_field EE_sym, true_and]
  rw [fi_2 (y := at_ L p) rfl]
  simp only [okI_some, Nat.reduceLT, T_set, X_assign, ev_T, lk_cons, Nat.reduceEqDiff, if_false, if_true, X_nil, thenQ_normal, W_ret, FinC_ret, resA_tmp, T_get, resA_nil, Option.map_some, oneOr1]
  exact TidyE.pure rfl fun _ _ => rfl
theorem parent_ok (h : TAt m t b room top L) : Con EE.P 14 [PT t, In p] m (In (at_ L p).1) m := by
  refine Con.of EE_ok fn14 (Nat.le_of_ble_eq_true rfl) Grow.rfl fun hm => ?_
  obtain ⟨cs, h1, h2, h3, h4, h5⟩ := h.cs
  simp only [f14, enumV, Nat.zero_add, w14, W_seq, w14_0, Nat.le_refl, X_assign, ev_const, Nat.reduceLT, T_set, X_nil, thenQ_normal, w14_1, Mem.next_bump, Nat.le_add_right, bump_bump, Nat.reduceAdd, X_move, ev_T, lk_cons, Nat.reduceEqDiff, Nat.one_ne_zero, if_false, if_true, X_call ca_27, List.map_cons, List.map_nil, true_and]
  refine CallI.con0 (none_ok (h.bump _)) ?_
  have h6 := h.mp
  simp only [putT, Nat.reduceLT, T_set, X_nil, thenQ_normal, W_cond, ev_T, lk_cons, Nat.reduceEqDiff, if_false, if_true, CDi_f, W_skip, W_seq, w14_4, Mem.next_bump, Nat.le_add_right, bump_bump, Nat.reduceAdd, X_move, Nat.one_ne_zero, X_nilCheck EE_sym, nilV_ptr, okI_some, X_fieldAddr EE_sym fo_60_1, offV_ptr, Nat.zero_add, X_load EE_sym, load1 lay_58, Mem.get_bump, h1, ld1_cells, h4, X_lookup EE_sym, lk_at, h6, lupC_f, getD_Pv, X_field EE_sym, true_and]
  rw [fi_0 (y := at_ L p) rfl]
  simp only [okI_some, Nat.reduceLT, T_set, X_assign, ev_T, lk_cons, Nat.reduceEqDiff, if_false, if_true, X_nil, thenQ_normal, W_ret, FinC_ret, resA_tmp, T_get, resA_nil, Option.map_some, oneOr1]
  exact TidyE.pure rfl fun _ _ => rfl
def lenM (o : Option AObj) : Option Value := match o with
  | some (.map es _) => some (In es.length)
  | _ => none
theorem lenw_at {b : Nat} : lenA EE.P 58 (.map (some b)) m = lenM (m.get b) := by
  unfold lenA lenM
  rw [und_58]
  rfl
theorem lenM_ml {w : Bool} : lenM (some (.map (ml Pv L) w)) = some (In L.length) := by
  unfold lenM ml
  simp
theorem free_ok (h : TAt m t b room top L) (hl : L.length ≤ 32) : Con EE.P 22 [PT t] m (In (room - L.length)) m := by
  refine Con.of EE_ok fn22 (Nat.le_of_ble_eq_true rfl) Grow.rfl fun hm => ?_
  obtain ⟨cs, h1, h2, h3, h4, h5⟩ := h.cs
  have hr := h.rm
  have hw : IntKind.i64.wrap (room - (L.length : Int)) = room - (L.length : Int) := by rw [wrap_i64 (by omega) (by omega)]
  simp only [f22, enumV, w22, W_seq, w22_0, Nat.le_refl, X_assign, ev_const, Nat.reduceLT, T_set, X_nil, thenQ_normal, w22_1, Mem.next_bump, Nat.le_add_right, bump_bump, Nat.reduceAdd, X_move, ev_T, lk_cons, Nat.reduceEqDiff, if_true, if_false, X_call ca_27, List.map_cons, List.map_nil, true_and]
  refine CallI.con0 (none_ok (h.bump _)) ?_
  have h6 := h.mp
  simp only [putT, Nat.reduceLT, T_set, X_nil, thenQ_normal, W_cond, ev_T, lk_cons, Nat.reduceEqDiff, if_false, if_true, CDi_f, W_skip, W_seq, w22_4, Mem.next_bump, Nat.le_add_right, bump_bump, Nat.reduceAdd, X_move, X_nilCheck EE_sym, nilV_ptr, okI_some, X_fieldAddr EE_sym fo_60_0, offV_ptr, Nat.add_zero, X_load EE_sym, load1 lay_3, Mem.get_bump, h1, ld1_cells, h3, X_fieldAddr EE_sym fo_60_1, Nat.zero_add, load1 lay_58, h4, X_len EE_sym, lenw_at, h6, lenM_ml, X_bin EE_sym (op := .sub) rfl, bin_sub, hw, X_assign, W_ret, FinC_ret, resA_tmp, T_get, resA_nil, Option.map_some, oneOr1, true_and]
  exact TidyE.pure rfl fun _ _ => rfl
theorem next_ok (h : TAt m t b room top L) (h0 : 0 ≤ top) : Con EE.P 25 [PT t] m (In (if 65535 ≤ top then 0 else top + 1)) m := by
  refine Con.of EE_ok fn25 (Nat.le_of_ble_eq_true rfl) Grow.rfl fun hm => ?_
  obtain ⟨cs, h1, h2, h3, h4, h5⟩ := h.cs
  simp only [f25, enumV, w25, W_seq, w25_0, Nat.le_refl, X_assign, ev_const, Nat.reduceLT, T_set, X_nil, thenQ_normal, w25_1, Mem.next_bump, Nat.le_add_right, bump_bump, Nat.reduceAdd, X_move, ev_T, lk_cons, Nat.reduceEqDiff, if_true, if_false, X_call ca_27, List.map_cons, List.map_nil, true_and]
  refine CallI.con0 (none_ok (h.bump _)) ?_
  by_cases hc : 65535 ≤ top
  · have d0 := decide_eq_true hc
    rw [if_pos hc]
    simp only [putT, Nat.reduceLT, T_set, X_move, ev_T, lk_cons, Nat.reduceEqDiff, if_false, if_true, X_guard EE_sym, T_get, GDi_ff, X_nilCheck EE_sym, nilV_ptr, okI_some, X_fieldAddr EE_sym fo_60_2, offV_ptr, Nat.zero_add, X_load EE_sym, load1 lay_3, Mem.get_bump, h1, ld1_cells, h5, X_bin EE_sym (op := .geq) rfl, ev_const, bin_geq, d0, X_pick EE_sym, pickV_bool, Bool.false_eq_true, X_nil, thenQ_normal, W_cond, CDi_t, w25_3, W_seq, w25_2, Mem.next_bump, Nat.le_add_right, bump_bump, Nat.reduceAdd, X_assign, W_ret, thenQ_ret, FinC_ret, resA_tmp, resA_nil, Option.map_some, oneOr1, true_and]
    exact TidyE.pure rfl fun _ _ => rfl
  · have d0 := decide_eq_false hc
    have hw : IntKind.i64.wrap (top + 1) = top + 1 := by rw [wrap_i64 (by omega) (by omega)]
    rw [if_neg hc]
    simp only [putT, Nat.reduceLT, T_set, X_move, ev_T, lk_cons, Nat.reduceEqDiff, if_false, if_true, X_guard EE_sym, T_get, GDi_ff, X_nilCheck EE_sym, nilV_ptr, okI_some, X_fieldAddr EE_sym fo_60_2, offV_ptr, Nat.zero_add, X_load EE_sym, load1 lay_3, Mem.get_bump, h1, ld1_cells, h5, X_bin EE_sym (op := .geq) rfl, ev_const, bin_geq, d0, X_pick EE_sym, pickV_bool, Bool.false_eq_true, X_nil, thenQ_normal, W_cond, CDi_f, W_skip, W_seq, w25_4, Mem.next_bump, Nat.le_add_right, bump_bump, Nat.reduceAdd, X_bin EE_sym (op := .add) rfl, bin_add, hw, X_assign, W_ret, FinC_ret, resA_tmp, resA_nil, Option.map_some, oneOr1, true_and]
    exact TidyE.pure rfl fun _ _ => rfl
end
end
end Go.Ab
/- Tree: all pids; the loop over a process' children, whatever its body does. -/
namespace Go.Ab
open Go.Proofs Go.Proofs.Ytjajeeoahbidlaa Go.RowKit Go.Shelf
noncomputable section
set_option maxHeartbeats 4000000
set_option maxRecDepth 10000
theorem sortedC {args : List Value} {m m' : Mem} {v : Value} (h : sortedP 34 args m = some (v, m')) : Con EE.P 29 args m v m' :=
  ⟨sorted_ok (σ := Sig.none) keys sorted (sorts 4) (enters_of Try.func31 (by kernel_rfl) rfl) (enters_of Try.func34 (by kernel_rfl) rfl) h, sortedP_grow h⟩
theorem ca_32 : callable EE.P 32 = true := by kernel_rfl
/-- Keys that are ints. -/
def wfT (L : TL) : Prop := ∀ p ∈ L, (Lit.int .i64 p.1).wf = true
theorem keysOf_ml : ∀ {L : TL}, wfT L → keysOf (ml Pv L) = some (mkeys L)
  | [], _ => rfl
  | (p, n) :: L, h => by
    have ih := keysOf_ml (L := L) fun q hq => h q (List.mem_cons_of_mem _ hq)
    have h1 := h (p, n) (List.mem_cons_self)
    show keysOf ((.int .i64 p, Pv n) :: ml Pv L) = _
    unfold keysOf
    rw [if_pos h1, ih]
    rfl
abbrev il (l : List Int) : List Value := l.map In
/-- All pids, rising. -/
def ks (L : TL) : List Int := isort (mkeys L)
theorem ks_len {L : TL} : (ks L).length = L.length := by unfold ks; rw [(isort_perm _).length_eq, List.length_map]
section
variable {m mr : Mem} {t b : Nat} {room top : Int} {L : TL} {p : Int} {v : Value}
theorem keys_ok (hm : Fresh m) (hb : boxL v = some [v]) : ∃ u m', Con EE.P 30 [v] m u m' ∧ ∃ x, u = .func (.func 34) #[] [PT x].toArray ∧ m.next ≤ x ∧ m'.get x = some (.cells (Cells.ofList [v]) true 0) ∧ Nx m m' := by
  refine Con.raw EE_ok fn30 (Nat.le_of_ble_eq_true rfl) _ ?_
  simp only [f30, enumV, w30, W_seq, w30_0, Nat.le_refl, X_box, Nat.reduceLT, ev_T, lk_cons, if_true, hb, okI_some, Nat.add_zero, T_set, put_bump, X_assign, ev_const, X_nil, thenQ_normal, w30_1, Mem.next_bump, Mem.next_put, Nat.le_add_right, bump_bump, Nat.reduceAdd, X_makeFunc EE_sym, List.map_toArray, List.map_nil, List.map_cons, Nat.reduceEqDiff, if_false, W_ret, FinX_ret, resA_tmp, T_get, resA_nil, Option.map_some, oneOr1, true_and]
  have hn : Nx m ((m.put m.next (AObj.cells (Cells.ofList [v]) true 0)).bump 4) := ⟨by (try simp only [Mem.next_bump, Mem.next_put]); omega, Fresh.of_low (by have := hm.n64; (try simp only [Mem.next_bump, Mem.next_put]); omega) (by repeat (first | exact Low.of hm (by (try simp only [Mem.next_bump, Mem.next_put]); omega) | refine Low.put ?_ (by (try simp only [Mem.next_bump, Mem.next_put]); omega) | refine Low.bump ?_)), fun y hy => by simp only [Mem.get_bump, Mem.get_put, ne_new0 hy, if_false]⟩
  exact ⟨⟨hn.next, fun y hy e => by rw [hn.old y hy, e]⟩, m.next, rfl, Nat.le_refl _, by simp only [Mem.get_bump, Mem.get_put, if_true], hn⟩
theorem sorted_at {x : Nat} (hm : Fresh m) (h4 : m.get b = some (.map (ml Pv L) true)) (hw : wfT L) (hl : L.length < 1073741824) (hx : m.get x = some (.cells (Cells.ofList [.map (some b)]) true 0)) :
    ∃ u m', Con EE.P 29 [.func (.func 34) #[] [PT x].toArray] m u m' ∧ NewV m m' 1 u L.length (il (ks L)) := by
  have hlen : (mkeys L).length = L.length := List.length_map _
  have hg : (Cells.ofList [Value.map (some b)]).get 0 = .map (some b) := rfl
  have hk := keysOf_ml hw
  by_cases he : L = []
  · subst he
    refine ⟨_, _, sortedC (v := .slice none 0 0) (m' := m) ?_, NewV.nil hm⟩
    unfold sortedP
    simp only [hx, hg, h4, hk]
    rfl
  · have hne : L.length ≠ 0 := fun e => he (List.length_eq_zero_iff.1 e)
    refine ⟨_, _, sortedC (v := .slice (some ⟨m.next, 0, none⟩) L.length L.length) (m' := (m.bump 1).put m.next (.cells (.ofList ((isort (mkeys L)).map (.int .i64))) true 1)) ?_, ⟨⟨?_, .inr ⟨m.next, L.length, _, rfl, by rw [Mem.get_put, if_pos rfl], ?_, Nat.le_refl _, fun y hy => ?_⟩⟩, ?_, fun y hy => by cases hy; exact Nat.le_refl _⟩⟩
    · unfold sortedP
      have hn1 : (Cells.ofList [Value.map (some b)]).n = 1 := rfl
      simp only [hx, hg, h4, hk, hn1, if_true, hlen]
      rw [if_pos (by simp)]
      show (if L.length * 8 ≤ 140737488355328 then _ else _) = _
      rw [if_pos (by omega), if_neg hne]
    · unfold il; rw [List.length_map, ks_len, Nat.mul_one]
    · rw [ofList_n, List.length_map, Nat.mul_one]; exact ks_len
    · rw [get_ofList (by unfold il ks at hy; exact hy)]; rfl
    · exact ⟨by simp only [Mem.next_bump, Mem.next_put]; omega, Fresh.of_low (by have := hm.n64; simp only [Mem.next_bump, Mem.next_put]; omega) (Low.put (Low.bump (Low.of hm (by simp only [Mem.next_bump, Mem.next_put]; omega))) (by simp only [Mem.next_bump, Mem.next_put]; omega)), fun y hy => by rw [Mem.get_put, if_neg (by omega), Mem.get_bump]⟩
theorem all_ok (h : TAt m t b room top L) (hm : Fresh m) (hw : wfT L) (hl : L.length < 1073741824) : ∃ u m', Con EE.P 15 [PT t] m u m' ∧ NewV m m' 1 u L.length (il (ks L)) := by
  refine Con.raw EE_ok fn15 (Nat.le_of_ble_eq_true rfl) _ ?_
  obtain ⟨cs, h1, h2, h3, h4, h5⟩ := h.cs
  simp only [f15, enumV, w15, W_seq, w15_0, Nat.le_refl, X_assign, ev_const, Nat.reduceLT, T_set, X_nil, thenQ_normal, w15_1, Mem.next_bump, Nat.le_add_right, bump_bump, Nat.reduceAdd, X_move, ev_T, lk_cons, Nat.reduceEqDiff, if_true, if_false, X_call ca_27, List.map_cons, List.map_nil, true_and]
  refine CallI.con0 (none_ok (h.bump _)) ?_
  simp only [putT, Nat.reduceLT, T_set, X_nil, thenQ_normal, W_cond, ev_T, lk_cons, Nat.reduceEqDiff, if_false, if_true, CDi_f, W_skip, W_seq, w15_4, Mem.next_bump, Nat.le_add_right, bump_bump, Nat.reduceAdd, X_move, X_nilCheck EE_sym, nilV_ptr, okI_some, X_fieldAddr EE_sym fo_60_1, offV_ptr, Nat.zero_add, X_load EE_sym, load1 lay_58, Mem.get_bump, h1, ld1_cells, h4, X_call ca_30, List.map_cons, List.map_nil, true_and]
  refine CallI.ex2 (keys_ok (m := m.bump _) hm.bump rfl) fun u M hk => ?_
  obtain ⟨x, rfl, x1, x2, x3⟩ := hk
  have xn := x3.of_bump
  have n1 := xn.next
  simp only [putT, Nat.reduceLT, T_set, X_call ca_29, List.map_cons, ev_T, lk_cons, Nat.reduceEqDiff, if_false, if_true, List.map_nil]
  refine CallI.ex2L (sorted_at (m := M) xn.fresh (xn.keep hm h.mp) hw hl x2) (by simp) fun ks M1 hK => ?_
  have n2 := hK.nx.next
  have hN : NewV m M1 1 ks L.length (il (Go.Ab.ks L)) := ⟨hK.sl, xn.trans hK.nx, fun y hy => Nat.le_trans n1 (hK.new y hy)⟩
  have n3 := hN.nx.next
  simp only [putT, Nat.reduceLT, T_set, X_assign, ev_T, lk_cons, Nat.reduceEqDiff, if_false, if_true, X_nil, thenQ_normal, W_ret, FinX_ret, resA_tmp, T_get, resA_nil, Option.map_some, okI_some, oneOr1]
  exact ⟨hN.raw, hN⟩
/-- A child. -/
def kid (L : TL) (pid p : Int) : Bool := decide (0 < pid) && decide ((at_ L p).1 = pid)
def keyT (L : TL) (i : Nat) : Int := (ks L).getD i 0
/-- The loop over a process' children, whatever its body does. -/
theorem of_it {lp c1 c2 z1 z2 : Nat} {r : ALoop} {pid : Int} (hmr : Fresh mr) (hl : mr.get lp = some (.loop r)) (h1 : mr.get c1 = some (.cells (Cells.ofList [PT t]) true z1)) (h2 : mr.get c2 = some (.cells (Cells.ofList [In pid]) true z2)) (h : TAt mr t b room top L) (hw : wfT L) (hlen : L.length < 1000000)
    (Bad : Nat → Prop) (hbad : ∀ y, Bad y → y < mr.next ∧ mr.get y ≠ none ∧ y ≠ t ∧ y ≠ b ∧ y ≠ c1 ∧ y ≠ c2) (Inv : Mem → Nat → Mem → Prop) (Done : Mem → Mem → Prop)
    (h0 : ∀ M1, Nx mr M1 → Inv M1 0 M1) (hb : ∀ M1 i M j, Inv M1 i M → Inv M1 i (M.bump j)) (hdb : ∀ M1 M j, Done M1 M → Done M1 (M.bump j))
    (hfr : ∀ M1 i M, Nx mr M1 → Inv M1 i M → M1.next ≤ M.next ∧ ∀ y, y < M1.next → ¬ Bad y → M.get y = M1.get y)
    (hdf : ∀ M1 M, Nx mr M1 → Done M1 M → M1.next ≤ M.next ∧ ∀ y, y < M1.next → ¬ Bad y → M.get y = M1.get y)
    (hskip : ∀ M1 i M, i < L.length → kid L pid (keyT L i) = false → Inv M1 i M → Inv M1 (i + 1) M)
    (hround : ∀ M1 i M j, Nx mr M1 → i < L.length → kid L pid (keyT L i) = true → Inv M1 i M → ∃ u m', RCon EE.P lp [In (keyT L i)] (M.bump j) u m' ∧ M.next + j ≤ m'.next ∧ ((u = .bool true ∧ Inv M1 (i + 1) m') ∨ (u = .bool false ∧ Done M1 m'))) :
    ∃ u m2, Con EE.P 32 [.func (.yield lp) #[] #[], PT c1, PT c2] mr u m2 ∧ ∃ M1, Nx mr M1 ∧ (Inv M1 L.length m2 ∨ Done M1 m2) := by
  refine Con.raw EE_ok fn32 (Nat.le_of_ble_eq_true rfl) _ ?_
  simp only [f32, enumV, Nat.zero_add, Nat.reduceAdd, w32, W_seq, w32_0, Nat.le_refl, X_load EE_sym, Nat.reduceLT, ev_T, lk_cons, Nat.reduceEqDiff, if_false, if_true, load1 lay_25, Mem.get_bump, h1, ld1_cells, nth_ofList, List.getElem?_cons_zero, okI_some, T_set, X_call ca_15, List.map_cons, List.map_nil, true_and]
  refine CallI.ex2 (all_ok (m := mr.bump _) (h.bump _) hmr.bump hw (by omega)) fun kv M1 hk => ?_
  have hK := hk.of_bump
  have nx1 := hK.nx
  have n1 := nx1.next
  have hlenA : ∀ M, lenA EE.P 33 kv M = some (In L.length) := fun M => hK.sl.lenA und_33
  simp only [putT, Nat.reduceLT, T_set, X_len EE_sym, ev_T, lk_cons, Nat.reduceEqDiff, if_false, if_true, hlenA, okI_some, X_move, ev_const, X_nil, f32, thenQ_normal, W_block, w32_7]
  refine WX.loop_of (fun k tt M => ∃ i : Nat, i ≤ L.length ∧ k = L.length - i ∧ tt = T 33 [(9, In i), (8, In L.length), (7, kv), (0, .func (.yield lp) #[] #[]), (1, PT c1), (2, PT c2)] ∧ Inv M1 i M) ?_ (k := L.length) (t1 := T 33 [(9, In (0 : Nat)), (8, In L.length), (7, kv), (0, .func (.yield lp) #[] #[]), (1, PT c1), (2, PT c2)]) (View.temps ⟨rfl, rfl, rfl, rfl, rfl, rfl, trivial⟩) ⟨0, by omega, rfl, rfl, h0 _ nx1⟩
  rintro k tt M2 ⟨i, hi, rfl, rfl, hI⟩
  obtain ⟨n2, ho⟩ := hfr _ _ _ nx1 hI
  have hnx : mr.next ≤ M2.next := Nat.le_trans n1 n2
  have hgrow : ∀ M', M1.next ≤ M'.next → (∀ y, y < M1.next → ¬ Bad y → M'.get y = M1.get y) → Grow mr M' := fun M' e1 e2 => ⟨Nat.le_trans n1 e1, fun y hy e => by rw [e2 y (by omega) (fun hB => (hbad y hB).2.1 e), nx1.old y hy, e]⟩
  by_cases hi2 : i < L.length
  · have g1 : (i : Int) < (L.length : Int) := by omega
    have g2 : (0 : Int) ≤ i := by omega
    have hw1 : IntKind.i64.wrap ((i : Int) + 1) = ((i + 1 : Nat) : Int) := by rw [wrap_i64 (by omega) (by omega)]; omega
    have hkeep : ∀ y o, y < mr.next → ¬ Bad y → mr.get y = some o → M2.get y = some o := fun y o e1 e2 e3 => by rw [ho y (by omega) e2, nx1.old y e1, e3]
    have l1 := hmr.lt h1
    have l2 := hmr.lt h2
    have lt := h.lt hmr
    have Mc1 := hkeep c1 _ l1 (fun e => (hbad c1 e).2.2.2.2.1 rfl) h1
    have Mc2 := hkeep c2 _ l2 (fun e => (hbad c2 e).2.2.2.2.2 rfl) h2
    obtain ⟨cs, t1, _, _, t4, _⟩ := h.cs
    have Mt := hkeep t _ lt.1 (fun e => (hbad t e).2.2.1 rfl) t1
    have Mb := hkeep b _ lt.2.1 (fun e => (hbad b e).2.2.2.1 rfl) h.mp
    obtain ⟨K, cK, csK, rfl, k1, k2, k3, k4⟩ := hK.sl.cons (by omega)
    have k0 := hK.new K rfl
    have k5 := nx1.fresh.lt k1
    have MK : M2.get K = some (.cells csK true 1) := by rw [ho K k5 (fun e => by have := (hbad K e).1; omega), k1]
    have hq : csK.nth i = some (In (keyT L i)) := by
      have e1 : i < (ks L).length := by rw [ks_len]; exact hi2
      rw [nth_lt (by rw [k2, Nat.mul_one]; omega), k4 i (by unfold il; rw [List.length_map]; exact e1)]
      unfold keyT il
      rw [List.getD_eq_getElem?_getD, List.getElem?_map, List.getD_eq_getElem?_getD, List.getElem?_eq_getElem e1]; rfl
    by_cases p0 : 0 < pid
    · have d0 := decide_eq_true p0
      simp only [w32_6, W_seq, w32_1, hnx, X_bin EE_sym (op := .lss) rfl, Nat.reduceLT, ev_T, lk_cons, Nat.reduceEqDiff, if_false, if_true, bin_lss, g1, decide_true, okI_some, T_set, X_nil, thenQ_normal, W_cond, CDi_t, W_skip, W_block, w32_4, w32_2, Mem.next_bump, Nat.le_add_right_of_le, bump_bump, Nat.reduceAdd, X_indexAddr EE_sym, g2, idxV_slice und_33 sz_3, Int.toNat_natCast, Nat.mul_one, Nat.zero_add, X_load EE_sym, load1 lay_3, Mem.get_bump, MK, ld1_cells, hq, X_assign, w32_3, Mc2, nth_ofList, List.getElem?_cons_zero, X_bin EE_sym (op := .gtr) rfl, ev_const, bin_gtr, d0, X_move, X_guard EE_sym, T_get, GDi_tt, load1 lay_25, Mc1, X_nilCheck EE_sym, nilV_ptr, X_fieldAddr EE_sym fo_60_1, offV_ptr, load1 lay_58, Mt, t4, X_lookup EE_sym, lk_at, Mb, lupC_f, getD_Pv, X_field EE_sym, true_and]
      rw [fi_0 (y := at_ L (keyT L i)) rfl]
      by_cases pk : (at_ L (keyT L i)).1 = pid
      · have hkid : kid L pid (keyT L i) = true := by unfold kid; rw [d0, decide_eq_true pk]; rfl
        have d1 := decide_eq_true pk
        simp only [okI_some, Nat.reduceLT, T_set, X_guard EE_sym, T_get, lk_cons, Nat.reduceEqDiff, if_false, if_true, GDi_tt, X_load EE_sym, ev_T, load1 lay_3, Mem.get_bump, Mc2, ld1_cells, nth_ofList, List.getElem?_cons_zero, X_eql EE_sym, eq_int, d1, X_pick EE_sym, ev_const, pickV_bool, X_move, Nat.one_ne_zero, yieldOf_y, Option.isSome_some, X_yield, Option.getD_some, List.toList_toArray, List.map_cons, List.map_nil, List.nil_append]
        refine CallI.rcon (hround M1 i M2 _ nx1 hi2 hkid hI) (by simp) fun u m' hm' => ?_
        obtain ⟨n3, ⟨rfl, hI'⟩ | ⟨rfl, hD⟩⟩ := hm'
        · have n4 : mr.next ≤ m'.next := by omega
          have n5 : M2.next ≤ m'.next := by omega
          simp only [putT, Nat.reduceLT, T_set, X_guard EE_sym, T_get, lk_cons, Nat.reduceEqDiff, if_false, if_true, GDi_tt, X_un EE_sym, ev_T, un_not, Bool.not_true, okI_some, X_pick EE_sym, ev_const, pickV_bool, X_nil, thenQ_normal, W_cond, CDi_f, W_skip, blockQ_normal, w32_5, n4, X_bin EE_sym (op := .add) rfl, bin_add, hw1, X_move, roundQ_normal, true_and]
          exact ⟨L.length - (i + 1), _, _, by omega, View.temps (l' := [(9, In ((i + 1 : Nat) : Int)), (8, In L.length), (7, .slice (some ⟨K, 0, none⟩) L.length cK), (0, .func (.yield lp) #[] #[]), (1, PT c1), (2, PT c2)]) ⟨rfl, rfl, rfl, rfl, rfl, rfl, trivial⟩, i + 1, by omega, rfl, rfl, hb _ _ _ _ hI'⟩
        · have n4 : mr.next ≤ m'.next := by omega
          have n5 : M2.next ≤ m'.next := by omega
          simp only [putT, Nat.reduceLT, T_set, X_guard EE_sym, T_get, lk_cons, Nat.reduceEqDiff, if_false, if_true, GDi_tt, X_un EE_sym, ev_T, un_not, Bool.not_false, okI_some, X_pick EE_sym, ev_const, pickV_bool, X_nil, thenQ_normal, W_cond, CDi_t, W_ret, blockQ_ret, thenQ_ret, roundQ_ret, FinX_ret, resA_nil, oneOr0]
          obtain ⟨e1, e2⟩ := hdf _ _ nx1 hD
          exact ⟨hgrow _ e1 e2, M1, nx1, .inr hD⟩
      · have hkid : kid L pid (keyT L i) = false := by unfold kid; rw [decide_eq_false pk, Bool.and_false]
        have d1 := decide_eq_false pk
        simp only [okI_some, Nat.reduceLT, T_set, X_guard EE_sym, T_get, lk_cons, Nat.reduceEqDiff, if_false, if_true, GDi_tt, X_load EE_sym, ev_T, load1 lay_3, Mem.get_bump, Mc2, ld1_cells, nth_ofList, List.getElem?_cons_zero, X_eql EE_sym, eq_int, d1, X_pick EE_sym, ev_const, pickV_bool, X_move, GDi_ft, putT, Bool.false_eq_true, X_nil, thenQ_normal, W_cond, CDi_f, W_skip, blockQ_normal, w32_5, Mem.next_bump, hnx, Nat.le_add_right_of_le, bump_bump, Nat.reduceAdd, X_bin EE_sym (op := .add) rfl, bin_add, hw1, roundQ_normal, true_and]
        exact ⟨L.length - (i + 1), _, _, by omega, View.temps (l' := [(9, In ((i + 1 : Nat) : Int)), (8, In L.length), (7, .slice (some ⟨K, 0, none⟩) L.length cK), (0, .func (.yield lp) #[] #[]), (1, PT c1), (2, PT c2)]) ⟨rfl, rfl, rfl, rfl, rfl, rfl, trivial⟩, i + 1, by omega, rfl, rfl, hb _ _ _ _ (hskip _ _ _ hi2 hkid hI)⟩
    · have d0 := decide_eq_false p0
      simp only [w32_6, W_seq, w32_1, hnx, X_bin EE_sym (op := .lss) rfl, Nat.reduceLT, ev_T, lk_cons, Nat.reduceEqDiff, if_false, if_true, bin_lss, g1, decide_true, okI_some, T_set, X_nil, thenQ_normal, W_cond, CDi_t, W_skip, W_block, w32_4, w32_2, Mem.next_bump, Nat.le_add_right_of_le, bump_bump, Nat.reduceAdd, X_indexAddr EE_sym, g2, idxV_slice und_33 sz_3, Int.toNat_natCast, Nat.mul_one, Nat.zero_add, X_load EE_sym, load1 lay_3, Mem.get_bump, MK, ld1_cells, hq, X_assign, w32_3, Mc2, nth_ofList, List.getElem?_cons_zero, X_bin EE_sym (op := .gtr) rfl, ev_const, bin_gtr, d0, X_move, X_guard EE_sym, T_get, GDi_ft, putT, X_pick EE_sym, pickV_bool, Bool.false_eq_true, CDi_f, blockQ_normal, w32_5, X_bin EE_sym (op := .add) rfl, bin_add, hw1, roundQ_normal, true_and]
      have hkid : kid L pid (keyT L i) = false := by unfold kid; rw [d0]; rfl
      exact ⟨L.length - (i + 1), _, _, by omega, View.temps (l' := [(9, In ((i + 1 : Nat) : Int)), (8, In L.length), (7, .slice (some ⟨K, 0, none⟩) L.length cK), (0, .func (.yield lp) #[] #[]), (1, PT c1), (2, PT c2)]) ⟨rfl, rfl, rfl, rfl, rfl, rfl, trivial⟩, i + 1, by omega, rfl, rfl, hb _ _ _ _ (hskip _ _ _ hi2 hkid hI)⟩
  · obtain rfl : i = L.length := by omega
    have q1 : ¬ (L.length : Int) < (L.length : Int) := by omega
    simp only [w32_6, W_seq, w32_1, hnx, X_bin EE_sym (op := .lss) rfl, Nat.reduceLT, ev_T, lk_cons, Nat.reduceEqDiff, if_false, if_true, bin_lss, q1, decide_false, okI_some, T_set, X_nil, thenQ_normal, W_cond, CDi_f, W_exit, thenQ_exit, roundQ_exit, blockQ_exit, FinX_normal, resA_nil, oneOr0, true_and]
    have hI2 := hb _ _ _ 1 hI
    obtain ⟨e1, e2⟩ := hfr _ _ _ nx1 hI2
    exact ⟨hgrow _ e1 e2, M1, nx1, .inl hI2⟩
theorem of_ok {pid : Int} (hm : Fresh m) (hb : m.get t ≠ none) : ∃ u m', Con EE.P 28 [PT t, In pid] m u m' ∧ ∃ x1 x2, u = .func (.func 32) #[] [PT x1, PT x2].toArray ∧ m.next ≤ x1 ∧ m.next ≤ x2 ∧ m'.get x1 = some (.cells (Cells.ofList [PT t]) true 0) ∧ m'.get x2 = some (.cells (Cells.ofList [In pid]) true 0) ∧ Nx m m' := by
  refine Con.raw EE_ok fn28 (Nat.le_of_ble_eq_true rfl) _ ?_
  simp only [f28, enumV, Nat.zero_add, w28, W_seq, w28_0, Nat.le_refl, X_box, Nat.reduceLT, ev_T, lk_cons, Nat.one_ne_zero, if_false, if_true, box_ptr, okI_some, Nat.add_zero, T_set, put_bump, Nat.reduceEqDiff, box_int, X_assign, ev_const, X_nil, thenQ_normal, w28_1, Mem.next_bump, Mem.next_put, Nat.le_add_right, bump_bump, Nat.reduceAdd, X_makeFunc EE_sym, List.map_toArray, List.map_nil, List.map_cons, W_ret, FinX_ret, resA_tmp, T_get, resA_nil, Option.map_some, oneOr1, true_and]
  have hn : Nx m (((m.put m.next (.cells (Cells.ofList [PT t]) true 0)).put (m.next + 1) (.cells (Cells.ofList [In pid]) true 0)).bump 5) := ⟨by (try simp only [Mem.next_bump, Mem.next_put]); omega, Fresh.of_low (by have := hm.n64; (try simp only [Mem.next_bump, Mem.next_put]); omega) (by repeat (first | exact Low.of hm (by (try simp only [Mem.next_bump, Mem.next_put]); omega) | refine Low.put ?_ (by (try simp only [Mem.next_bump, Mem.next_put]); omega) | refine Low.bump ?_)), fun y hy => by simp only [Mem.get_bump, Mem.get_put, ne_new hy, ne_new0 hy, if_false]⟩
  exact ⟨⟨hn.next, fun y hy e => by rw [hn.old y hy, e]⟩, m.next, m.next + 1, rfl, Nat.le_refl _, by omega, by rw [Mem.get_bump, Mem.get_put, if_neg (by omega), Mem.get_put, if_pos rfl], by rw [Mem.get_bump, Mem.get_put, if_pos rfl], hn⟩
end
end
end Go.Ab
/- Tree: Children. -/
namespace Go.Ab
open Go.Proofs
noncomputable section
set_option maxHeartbeats 4000000
set_option maxRecDepth 10000
theorem eo33 : ElemOk EE.P 33 3 1 8 := ElemOk.of (z := [.int .i64 0]) und_33 (by kernel_rfl) (by kernel_rfl) rfl (by decide)
theorem bs33 {p : Int} : bsV EE.P 33 1 [(0, In p)] = some ([In p], 1) := by kernel_rfl
theorem il_snoc {l : List Int} {n : Int} : il (l ++ [n]) = il l ++ [In n] := by unfold il; rw [List.map_append]; rfl
abbrev lrC (tl : List (Nat × Value)) : ALoop := ⟨.ready, none, T 16 tl, [10], c13_4, c13_7⟩
/-- A process' children, rising. -/
def kidsI (L : TL) (pid : Int) (i : Nat) : List Int := ((ks L).take i).filter (kid L pid)
def kids (L : TL) (pid : Int) : List Int := (ks L).filter (kid L pid)
section
variable {m mr : Mem} {t b : Nat} {room top : Int} {L : TL} {p pid : Int}
theorem ks_take {i : Nat} (hi : i < L.length) : (ks L).take (i + 1) = (ks L).take i ++ [keyT L i] := by
  have h : i < (ks L).length := by rw [ks_len]; exact hi
  unfold keyT
  rw [List.take_add_one, List.getElem?_eq_getElem h, List.getD_eq_getElem?_getD, List.getElem?_eq_getElem h]; rfl
theorem kidsI_t {i : Nat} (hi : i < L.length) (h : kid L pid (keyT L i) = true) : kidsI L pid (i + 1) = kidsI L pid i ++ [keyT L i] := by
  unfold kidsI
  rw [ks_take hi, List.filter_append, List.filter_cons_of_pos h, List.filter_nil]
theorem kidsI_f {i : Nat} (hi : i < L.length) (h : kid L pid (keyT L i) = false) : kidsI L pid (i + 1) = kidsI L pid i := by
  unfold kidsI
  rw [ks_take hi, List.filter_append, List.filter_cons_of_neg (by rw [h]; decide), List.filter_nil, List.append_nil]
theorem kidsI_all : kidsI L pid L.length = kids L pid := by unfold kidsI kids; rw [List.take_of_length_le (by rw [ks_len]; exact Nat.le_refl _)]
theorem kidsI_len {i : Nat} (hi : i ≤ L.length) : (kidsI L pid i).length ≤ i := by
  unfold kidsI
  exact Nat.le_trans (List.length_filter_le _ _) (by rw [List.length_take]; omega)
theorem kids_len : (kids L pid).length ≤ L.length := by
  unfold kids
  exact Nat.le_trans (List.length_filter_le _ _) (by rw [ks_len]; exact Nat.le_refl _)
theorem ch_round {M1 M : Mem} {lp o j k : Nat} {tl : List (Nat × Value)} {fl : List Value} {p : Int} (hF : Fresh M1) (hl : M1.get lp = some (.loop (lrC tl))) (h5 : lk tl 5 = PT o) (ho : o < M1.next) (hol : o ≠ lp) (hI : ColV M1 lp o (lrC tl) 1 k fl M) (hk : k < 1073741824) :
    ∃ u m', RCon EE.P lp [In p] (M.bump j) u m' ∧ u = .bool true ∧ M.next + j ≤ m'.next ∧ ColV M1 lp o (lrC tl) 1 (k + 1) (fl ++ [In p]) m' := by
  have hnx := hI.next
  have l1 := hF.lt hl
  have hlo : ¬ lp = o := fun e => hol e.symm
  have Ml := hI.loop
  obtain ⟨co, u, Mo, j1, j2, j3, j4⟩ := hI.out
  have b2 := bs33 (p := p)
  refine RCon.of EE_ok (r := lrC tl) (by simp only [Mem.get_bump, Ml]) rfl rfl ?_
  simp only [Mem.next_bump, setAll1, Nat.reduceLT, T_set, w13_4, w13_3, Nat.le_refl, bump_bump, X_assign, ev_T, lk_cons, if_true, X_nil, roundQ1_normal, Nat.add_le_add_iff_left, Nat.le_add_right, Mem.get_bump, Ml, loopI_some, put_bump, w13_7, W_block, w13_6, w13_5, Mem.next_put, Nat.add_assoc, Nat.reduceAdd, X_load EE_sym, Nat.reduceEqDiff, h5, if_false, load1 lay_33, Mem.get_put, hol, Mo, ld1_cells, j2, okI_some, X_move, X_bs, List.map_cons, List.map_nil, b2, X_append, true_and]
  refine hI.app (rb := ⟨.busy, none, T 16 tl, [10], c13_4, c13_7⟩) eo33 (by decide) hol l1 ho hF.n64 Mo j2 rfl rfl ⟨by omega, by omega⟩ ⟨by omega, by omega⟩ (by omega) (by omega) fun b' c' M' hMl hMo hcn hMn hold hfin => ?_
  have n3 : M.next ≤ M'.next := by omega
  have n9 : M.next + j ≤ M'.next := by omega
  have n10 : M.next + (j + 1) ≤ M'.next := by omega
  simp only [Nat.reduceLT, T_set, X_store, ev_T, lk_cons, Nat.reduceEqDiff, h5, if_false, if_true, store1 sz_33, hMo, cells_slice, st1_cells, List.length_cons, List.length_nil, Nat.zero_add, hcn, Nat.le_refl, List.all_cons, oneCell, List.all_nil, Bool.and_self, and_self, okI_some, X_nil, Mem.next_bump, blockQ_normal, roundQ2_normal, Mem.next_put, n10, Mem.get_put, hlo, hMl, loopI_some, n9, true_and]
  exact ⟨(hfin 0).2 j (by omega) (by omega), (hfin 0).1⟩
theorem ch_cols {lp o c1 c2 z1 z2 : Nat} {tl : List (Nat × Value)} {co0 : Cells} (hmr : Fresh mr) (hl : mr.get lp = some (.loop (lrC tl))) (h5 : lk tl 5 = PT o) (h1 : mr.get c1 = some (.cells (Cells.ofList [PT t]) true z1)) (h2 : mr.get c2 = some (.cells (Cells.ofList [In pid]) true z2))
    (ho : mr.get o = some (.cells co0 true 0)) (hn0 : co0.n = 1) (hn1 : co0.nth 0 = some (.slice none 0 0)) (hco : c1 ≠ o ∧ c2 ≠ o ∧ t ≠ o) (h : TAt mr t b room top L) (hw : wfT L) (hlen : L.length < 1000000) :
    ∃ u m2, Con EE.P 32 [.func (.yield lp) #[] #[], PT c1, PT c2] mr u m2 ∧ ∃ M1, Nx mr M1 ∧ ColV M1 lp o (lrC tl) 1 (kids L pid).length (il (kids L pid)) m2 := by
  have l1 := hmr.lt hl
  have l2 := hmr.lt ho
  have hol : o ≠ lp := fun e => by rw [e, hl] at ho; cases ho
  obtain ⟨cs, t1, _⟩ := h.cs
  have hbad : ∀ y, (y = lp ∨ y = o) → y < mr.next ∧ mr.get y ≠ none ∧ y ≠ t ∧ y ≠ b ∧ y ≠ c1 ∧ y ≠ c2 := fun y hy => by
    rcases hy with rfl | rfl
    · exact ⟨l1, by rw [hl]; simp, fun e => (by rw [e, t1] at hl; cases hl), fun e => (by rw [e, h.mp] at hl; cases hl), fun e => (by rw [e, h1] at hl; cases hl), fun e => (by rw [e, h2] at hl; cases hl)⟩
    · exact ⟨l2, by rw [ho]; simp, hco.2.2.symm, fun e => (by rw [e, h.mp] at ho; cases ho), hco.1.symm, hco.2.1.symm⟩
  have hskip : ∀ (M1 : Mem) (i : Nat) (M : Mem), i < L.length → kid L pid (keyT L i) = false → (i ≤ L.length ∧ ColV M1 lp o (lrC tl) 1 (kidsI L pid i).length (il (kidsI L pid i)) M) → (i + 1 ≤ L.length ∧ ColV M1 lp o (lrC tl) 1 (kidsI L pid (i + 1)).length (il (kidsI L pid (i + 1))) M) := fun M1 i M hi hk hI => by
    rw [kidsI_f hi hk]
    exact ⟨hi, hI.2⟩
  obtain ⟨u, m2, hc, M1, hn, hI | hF⟩ := of_it hmr hl h1 h2 h hw hlen (fun y => y = lp ∨ y = o) hbad (fun M1 i M => i ≤ L.length ∧ ColV M1 lp o (lrC tl) 1 (kidsI L pid i).length (il (kidsI L pid i)) M) (fun _ _ => False) (fun M1 hn => ⟨Nat.zero_le _, ColV.start hn.fresh (hn.keep hmr hl) (hn.keep hmr ho) hn0 hn1⟩) (fun M1 i M j hI => ⟨hI.1, hI.2.bump j⟩) (fun _ _ _ h => h.elim) (fun M1 i M hn hI => ⟨hI.2.next, fun y hy y1 => hI.2.old y hy (fun e => y1 (.inr e)) (fun e => y1 (.inl e))⟩) (fun _ _ _ h => h.elim) hskip fun M1 i M j hn hi hk hI => by
    have hkl := kidsI_len (pid := pid) hI.1
    obtain ⟨u, m', g1, g2, g3, g4⟩ := ch_round (j := j) (p := keyT L i) hn.fresh (hn.keep hmr hl) h5 (Nat.lt_of_lt_of_le l2 hn.next) hol hI.2 (by omega)
    refine ⟨u, m', g1, g3, .inl ⟨g2, hi, ?_⟩⟩
    rw [kidsI_t hi hk, il_snoc, List.length_append]
    exact g4
  · refine ⟨u, m2, hc, M1, hn, ?_⟩
    rw [← kidsI_all]
    exact hI.2
  · exact hF.elim
theorem children_ok (h : TAt m t b room top L) (hm : Fresh m) (hw : wfT L) (hlen : L.length < 1000000) : ∃ u m', Con EE.P 13 [PT t, In pid] m u m' ∧ NewV m m' 1 u (kids L pid).length (il (kids L pid)) := by
  refine Con.raw EE_ok fn13 (Nat.le_of_ble_eq_true rfl) _ ?_
  have ht := h.lt hm
  simp only [f13, enumV, Nat.zero_add, w13, W_seq, w13_0, Nat.le_refl, X_assign, ev_const, Nat.reduceLT, T_set, X_nil, thenQ_normal, w13_1, Mem.next_bump, Nat.le_add_right, bump_bump, Nat.reduceAdd, X_alloc, zero_33, okI_some, Nat.add_zero, put_bump, w13_2, Mem.next_put, X_move, ev_T, lk_cons, Nat.reduceEqDiff, Nat.one_ne_zero, if_false, if_true, X_call ca_28, List.map_cons, List.map_nil, true_and]
  have hn0 : Nx m ((m.put (m.next + 1) (.cells (Cells.ofList [.slice none 0 0]) true 0)).bump 5) := ⟨by (try simp only [Mem.next_bump, Mem.next_put]); omega, Fresh.of_low (by have := hm.n64; (try simp only [Mem.next_bump, Mem.next_put]); omega) (by repeat (first | exact Low.of hm (by (try simp only [Mem.next_bump, Mem.next_put]); omega) | refine Low.put ?_ (by (try simp only [Mem.next_bump, Mem.next_put]); omega) | refine Low.bump ?_)), fun y hy => by simp only [Mem.get_bump, Mem.get_put, ne_new hy, if_false]⟩
  have h0 := h.nx hm hn0
  obtain ⟨cs, t1, _⟩ := h0.cs
  refine CallI.ex2 (of_ok hn0.fresh (by rw [t1]; simp)) fun u M hv => ?_
  obtain ⟨x1, x2, rfl, x3, x4, x5, x6, hn⟩ := hv
  have h' := h0.nx hn0.fresh hn
  have hmM := hn0.trans hn
  have qo : M.get (m.next + 1) = some (.cells (Cells.ofList [.slice none 0 0]) true 0) := by
    rw [hn.old _ (by simp only [Mem.next_bump, Mem.next_put]; omega), Mem.get_bump, Mem.get_put, if_pos rfl]
  have n1 := hn.next
  simp only [Mem.next_bump, Mem.next_put] at n1 x3 x4
  have n0 : m.next ≤ M.next := by omega
  have lM := h'.lt hn.fresh
  have lx1 := hn.fresh.lt x5
  have lx2 := hn.fresh.lt x6
  have lo := hn.fresh.lt qo
  simp only [putT, Nat.reduceLT, T_set, X_nil, thenQ_normal, W_block, w13_8]
  have gne : ∀ y o, y < M.next → ((M.put M.next o).bump 1).get y = M.get y := fun y o hy => by rw [Mem.get_bump, Mem.get_put, if_neg (by omega)]
  refine W_rfnx (l' := [(5, PT (m.next + 1))]) (R := fun _ m2 => ∃ M1, Nx ((M.put M.next (.loop (lrC _))).bump 1) M1 ∧ ColV M1 M.next (m.next + 1) (lrC _) 1 (kids L pid).length (il (kids L pid)) m2) [] [PT x1, PT x2] (by omega) (by simp only [ev_T, lk_cons, Nat.reduceLT, Nat.reduceEqDiff, reduceIte]) ca_32
    (ch_cols (co0 := Cells.ofList [.slice none 0 0]) (z1 := 0) (z2 := 0) (L := L) ?_ get_eq_b rfl ((gne _ _ lx1).trans x5) ((gne _ _ lx2).trans x6) ((gne _ _ lo).trans qo) rfl rfl ⟨by omega, by omega, by omega⟩ (h'.keep (gne _ _ lM.1) (gne _ _ lM.2.1)) hw hlen) (fun p hp => ?_) (fun _ m2 hI => ?_)
  · exact Fresh.of_low (by have := hn.fresh.n64; simp only [Mem.next_bump, Mem.next_put]; omega) (fun y hy => by
      simp only [Mem.next_bump, Mem.next_put] at hy
      rw [Mem.get_bump, Mem.get_put, if_neg (by omega)]; exact hn.fresh.none y (by omega))
  · simp only [List.mem_singleton] at hp
    subst hp
    exact rv_ptr (.inl ⟨rfl, by omega⟩)
  · obtain ⟨M1, hn1, hI⟩ := hI
    have n3 := hn1.next
    simp only [Mem.next_bump, Mem.next_put] at n3
    have n4 := hI.next
    obtain ⟨co, u, k1, k2, k3, k4, k5⟩ := hI.out
    have k6 : ¬ m.next + 1 = M.next := by omega
    refine rfnQ_normal hI.loop ?_
    have n5 : m.next ≤ m2.next := by omega
    simp only [blockQ_normal, thenQ_normal, W_seq, w13_9, Mem.next_put, n5, X_load EE_sym, Nat.reduceLT, ev_T, lk_cons, if_true, load1 lay_33, Mem.get_bump, Mem.get_put, k6, k1, if_false, ld1_cells, k3, okI_some, T_set, X_assign, Nat.reduceEqDiff, X_nil, W_ret, FinX_ret, resA_tmp, T_get, resA_nil, Option.map_some, oneOr1, true_and]
    have hnn : ∀ o j, Nx m ((m2.put M.next o).bump j) := fun o j => by
      refine ⟨by simp only [Mem.next_bump, Mem.next_put]; omega, Fresh.of_low (by have := hm.n64; simp only [Mem.next_bump, Mem.next_put]; omega) (Low.up (Low.bump (Low.put hI.low (by omega))) (by simp only [Mem.next_bump, Mem.next_put]; omega)), fun y hy => ?_⟩
      rw [Mem.get_bump, Mem.get_put, if_neg (by omega), hI.old y (by omega) (by omega) (by omega), hn1.old y (by simp only [Mem.next_bump, Mem.next_put]; omega), gne y _ (by omega), hmM.old y hy]
    refine ⟨⟨(hnn _ _).next, fun y hy e => by rw [(hnn _ _).old y hy, e]⟩, k4.keep fun y o hy ho => ?_, hnn _ _, fun y hy => ?_⟩
    · have := (k5 y hy).1
      rw [Mem.get_bump, Mem.get_put, if_neg (by omega)]
      exact ho
    · have := (k5 y hy).1
      omega
end
end
end Go.Ab
