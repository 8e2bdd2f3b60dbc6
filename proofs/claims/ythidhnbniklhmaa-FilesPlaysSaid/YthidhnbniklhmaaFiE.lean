/- Files: what the calls of the document's answer come to. -/
import Derived.Test.YthidhnbniklhmaaFiD
namespace Go.Ab
open Go.Proofs
noncomputable section
set_option maxHeartbeats 1000000
noncomputable def wcell (s : FS) (i : Nat) : Value := if i < 128 then (if i % 2 = 0 then .int .i64 (s.p (i / 2)) else .bool (s.w (i / 2))) else .int .i64 (s.r (i - 128))
noncomputable def wC (s : FS) : Cells := Cells.ofList ((List.range 192).map (wcell s))
theorem wC_n {s : FS} : (wC s).n = 192 := by
  unfold wC; rw [ofList_n, List.length_map, List.length_range]
theorem wC_nth {s : FS} {i : Nat} (h : i < 192) : (wC s).nth i = some (wcell s i) := by
  unfold wC
  rw [nth_ofList, List.getElem?_map, List.getElem?_range h]; rfl
theorem wC_get {s : FS} {i : Nat} (h : i < 192) : (wC s).get i = wcell s i := by
  have := wC_nth (s := s) h
  rw [nth_lt (by rw [wC_n]; exact h)] at this
  exact Option.some.inj this
theorem wcell_plain {s : FS} {i : Nat} : plain (wcell s i) = true := by
  unfold wcell
  split
  · split <;> rfl
  · rfl
theorem wC_r {s : FS} {k : Nat} (h : k < 64) : (wC s).nth (128 + k) = some (.int .i64 (s.r k)) := by
  rw [wC_nth (by omega), wcell, if_neg (by omega), Nat.add_sub_cancel_left]
theorem wC_x {s : FS} {k : Nat} (h : k < 64) : (wC s).sub (k * 2) 2 = some [.int .i64 (s.p k), .bool (s.w k)] := by
  refine sub_get rfl (by rw [wC_n]; omega) fun i hi => ?_
  rw [wC_get (by omega)]
  rcases i with _ | _ | i
  · unfold wcell; rw [if_pos (by omega), if_pos (by omega), show (k * 2 + 0) / 2 = k by omega]; rfl
  · unfold wcell; rw [if_pos (by omega), if_neg (by omega), show (k * 2 + (0 + 1)) / 2 = k by omega]; rfl
  · omega
theorem wC_setR {s : FS} {k : Nat} {r : Int} (hk : k < 64) {i : Nat} (hi : i < 192) : ((wC s).write (128 + k) [.int .i64 r]).get i = (wC (s.setR k r)).get i := by
  rw [get_write, wC_get hi, wC_get hi]
  by_cases h : i = 128 + k
  · subst h
    rw [if_pos (by simp)]
    unfold wcell FS.setR
    rw [if_neg (by omega)]
    simp only [Nat.sub_self, List.getD_cons_zero, Nat.add_sub_cancel_left, if_true]
  · rw [if_neg (by simp; omega)]
    unfold wcell FS.setR
    split
    · rfl
    · simp only
      rw [if_neg (by omega)]
def FS.setX (s : FS) (k : Nat) (p : Int) (w : Bool) : FS := ⟨fun i => if i = k then p else s.p i, fun i => if i = k then w else s.w i, s.r⟩
theorem wC_setX {s : FS} {k : Nat} {p : Int} {w : Bool} (hk : k < 64) {i : Nat} (hi : i < 192) : ((wC s).write (k * 2) [.int .i64 p, .bool w]).get i = (wC (s.setX k p w)).get i := by
  rw [get_write, wC_get hi, wC_get hi]
  by_cases h : k * 2 ≤ i ∧ i < k * 2 + 2
  · rw [if_pos (by simpa using h)]
    have : i / 2 = k := by omega
    unfold wcell FS.setX
    rw [if_pos (by omega)]
    simp only [this, if_true]
    rcases (by omega : i - k * 2 = 0 ∨ i - k * 2 = 1) with e | e
    · rw [e, if_pos (by omega)]; rfl
    · rw [e, if_neg (by omega)]; rfl
  · rw [if_neg (by simpa using h)]
    have : i < 128 → i / 2 ≠ k := by omega
    unfold wcell FS.setX
    split
    · rename_i h2
      simp only [if_neg (this h2)]
    · rfl
abbrev WAt (m : Mem) (b sz : Nat) (s : FS) : Prop := m.get b = some (.cells (wC s) true sz)
def ROk (s : FS) : Prop := ∀ k, 0 ≤ s.r k
section
variable {m : Mem} {b sz : Nat} {s : FS} {n : Int}
theorem is_yes (hb : WAt m b sz s) (hr : ROk s) (h : isO s n) : Con EE.P 30 [PT b, In n] m (.bool true) m := by
  refine Con.of EE_ok fn30 (Nat.le_of_ble_eq_true rfl) Grow.rfl fun hm => ?_
  obtain ⟨h1, h2, h3⟩ := h
  have g1 : n ≤ 63 := by omega
  have g2 : n < ((64 : Nat) : Int) := h2
  have g3 : n.toNat < 64 := by omega
  have := hr n.toNat
  have g4 : 0 < s.r n.toNat := by omega
  simp only [f30, enumV, Nat.zero_add, w30, W_seq, w30_0, Nat.le_refl, X_assign, ev_const, Nat.reduceLT, T_set, X_nil, thenQ_normal, w30_1, Mem.next_bump, Nat.le_add_right, bump_bump, Nat.reduceAdd, X_move, ev_T, lk_cons, Nat.reduceEqDiff, if_true, if_false, X_bin EE_sym (op := .geq) rfl, bin_geq, h1, decide_true, okI_some, X_guard EE_sym, T_get, GDi_tt, X_bin EE_sym (op := .leq) rfl, bin_leq, g1, X_pick EE_sym, pickV_bool, Nat.one_ne_zero, X_nilCheck EE_sym, nilV_ptr, X_fieldAddr EE_sym fo_65_1, offV_ptr, X_indexAddr EE_sym, g2, idxV_arr und_63 sz_3, Nat.mul_one, X_load EE_sym, load1 lay_3, Mem.get_bump, hb, ld1_cells, wC_r g3, X_bin EE_sym (op := .gtr) rfl, bin_gtr, g4, W_ret, FinC_ret, resA_tmp, resA_nil, Option.map_some, oneOr1, true_and]
  exact TidyE.pure rfl fun _ _ => rfl
theorem is_no (hb : WAt m b sz s) (hr : ROk s) (h : ¬ isO s n) : Con EE.P 30 [PT b, In n] m (.bool false) m := by
  refine Con.of EE_ok fn30 (Nat.le_of_ble_eq_true rfl) Grow.rfl fun hm => ?_
  by_cases h1 : 0 ≤ n
  · by_cases g1 : n ≤ 63
    · have g2 : n < ((64 : Nat) : Int) := by omega
      have g3 : n.toNat < 64 := by omega
      have g4 : ¬ 0 < s.r n.toNat := fun e => h ⟨h1, by omega, by omega⟩
      simp only [f30, enumV, Nat.zero_add, w30, W_seq, w30_0, Nat.le_refl, X_assign, ev_const, Nat.reduceLT, T_set, X_nil, thenQ_normal, w30_1, Mem.next_bump, Nat.le_add_right, bump_bump, Nat.reduceAdd, X_move, ev_T, lk_cons, Nat.reduceEqDiff, if_true, if_false, X_bin EE_sym (op := .geq) rfl, bin_geq, h1, decide_true, okI_some, X_guard EE_sym, T_get, GDi_tt, X_bin EE_sym (op := .leq) rfl, bin_leq, g1, X_pick EE_sym, pickV_bool, Nat.one_ne_zero, X_nilCheck EE_sym, nilV_ptr, X_fieldAddr EE_sym fo_65_1, offV_ptr, X_indexAddr EE_sym, g2, idxV_arr und_63 sz_3, Nat.mul_one, X_load EE_sym, load1 lay_3, Mem.get_bump, hb, ld1_cells, wC_r g3, X_bin EE_sym (op := .gtr) rfl, bin_gtr, g4, decide_false, W_ret, FinC_ret, resA_tmp, resA_nil, Option.map_some, oneOr1, true_and]
      exact TidyE.pure rfl fun _ _ => rfl
    · simp only [f30, enumV, Nat.zero_add, w30, W_seq, w30_0, Nat.le_refl, X_assign, ev_const, Nat.reduceLT, T_set, X_nil, thenQ_normal, w30_1, Mem.next_bump, Nat.le_add_right, bump_bump, Nat.reduceAdd, X_move, ev_T, lk_cons, Nat.reduceEqDiff, if_true, if_false, X_bin EE_sym (op := .geq) rfl, bin_geq, h1, decide_true, okI_some, X_guard EE_sym, T_get, GDi_tt, X_bin EE_sym (op := .leq) rfl, bin_leq, g1, decide_false, X_pick EE_sym, pickV_bool, GDi_ft, putT, Bool.false_eq_true, W_ret, FinC_ret, resA_tmp, resA_nil, Option.map_some, oneOr1, true_and]
      exact TidyE.pure rfl fun _ _ => rfl
  · simp only [f30, enumV, Nat.zero_add, w30, W_seq, w30_0, Nat.le_refl, X_assign, ev_const, Nat.reduceLT, T_set, X_nil, thenQ_normal, w30_1, Mem.next_bump, Nat.le_add_right, bump_bump, Nat.reduceAdd, X_move, ev_T, lk_cons, Nat.reduceEqDiff, if_true, if_false, X_bin EE_sym (op := .geq) rfl, bin_geq, h1, decide_false, okI_some, X_guard EE_sym, T_get, GDi_ft, putT, X_pick EE_sym, pickV_bool, Bool.false_eq_true, W_ret, FinC_ret, resA_tmp, resA_nil, Option.map_some, oneOr1, true_and]
    exact TidyE.pure rfl fun _ _ => rfl
theorem wshare_not (hb : WAt m b sz s) (hr : ROk s) (h : ¬ isO s n) : Con EE.P 37 [PT b, In n] m (In 101) m := by
  refine Con.of EE_ok fn37 (Nat.le_of_ble_eq_true rfl) Grow.rfl fun hm => ?_
  simp only [f37, enumV, Nat.zero_add, w37, W_seq, w37_0, Nat.le_refl, X_assign, ev_const, Nat.reduceLT, T_set, X_nil, thenQ_normal, w37_1, Mem.next_bump, Nat.le_add_right, bump_bump, Nat.reduceAdd, X_move, ev_T, lk_cons, Nat.reduceEqDiff, Nat.one_ne_zero, if_false, if_true, X_call ca_30, List.map_cons, List.map_nil, true_and]
  refine CallI.con0 (is_no (s := s) (sz := sz) (by simp only [WAt, Mem.get_bump, hb]) hr h) ?_
  simp only [putT, Nat.reduceLT, T_set, X_assign, ev_T, lk_cons, Nat.reduceEqDiff, if_false, if_true, X_nil, thenQ_normal, W_seq, w37_2, Mem.next_bump, Nat.le_add_right, bump_bump, Nat.reduceAdd, X_move, X_un EE_sym, un_not, Bool.not_false, okI_some, W_cond, CDi_t, w37_4, w37_3, ev_const, W_ret, thenQ_ret, FinC_ret, resA_tmp, T_get, resA_nil, Option.map_some, oneOr1, true_and]
  exact TidyE.pure rfl fun _ _ => rfl
theorem wshare_open (hb : WAt m b sz s) (hr : ROk s) (h : isO s n) (hr1 : s.r n.toNat < 9223372036854775807) : Con EE.P 37 [PT b, In n] m (In 0) (m.put b (.cells (wC (s.setR n.toNat (s.r n.toNat + 1))) true sz)) := by
  refine Con.of EE_ok fn37 (Nat.le_of_ble_eq_true rfl) (Grow.put hb) fun hm => ?_
  obtain ⟨h1, h2, h3⟩ := id h
  have g2 : n < ((64 : Nat) : Int) := h2
  have g3 : n.toNat < 64 := by omega
  have := hr n.toNat
  have hl : 128 + (n.toNat + 1) ≤ 192 := by omega
  have hw : IntKind.i64.wrap (s.r n.toNat + 1) = s.r n.toNat + 1 := wrap_i64 (by omega) (by omega)
  simp only [f37, enumV, Nat.zero_add, w37, W_seq, w37_0, Nat.le_refl, X_assign, ev_const, Nat.reduceLT, T_set, X_nil, thenQ_normal, w37_1, Mem.next_bump, Nat.le_add_right, bump_bump, Nat.reduceAdd, X_move, ev_T, lk_cons, Nat.reduceEqDiff, Nat.one_ne_zero, if_false, if_true, X_call ca_30, List.map_cons, List.map_nil, true_and]
  refine CallI.con0 (is_yes (s := s) (sz := sz) (by simp only [WAt, Mem.get_bump, hb]) hr h) ?_
  simp only [putT, Nat.reduceLT, T_set, X_assign, ev_T, lk_cons, Nat.reduceEqDiff, if_false, if_true, X_nil, thenQ_normal, W_seq, w37_2, Mem.next_bump, Nat.le_add_right, bump_bump, Nat.reduceAdd, X_move, X_un EE_sym, un_not, Bool.not_true, okI_some, W_cond, CDi_f, W_skip, w37_5, Nat.one_ne_zero, X_nilCheck EE_sym, nilV_ptr, X_fieldAddr EE_sym fo_65_1, offV_ptr, Nat.zero_add, X_indexAddr EE_sym, h1, g2, idxV_arr und_63 sz_3, Nat.mul_one, X_load EE_sym, load1 lay_3, Mem.get_bump, hb, ld1_cells, wC_r g3, X_bin EE_sym (op := .add) rfl, ev_const, bin_add, hw, X_store, store1 sz_3, cells_int, st1_cells, List.length_cons, List.length_nil, Nat.add_assoc, wC_n, hl, List.all_cons, oneCell, List.all_nil, Bool.and_self, and_self, put_bump, w37_6, Mem.next_put, W_ret, FinC_ret, resA_tmp, T_get, resA_nil, Option.map_some, oneOr1, true_and]
  refine TidyE.put (c1 := (wC s).write (128 + n.toNat) [In (s.r n.toNat + 1)]) rfl hm hb (by simp only [Mem.get_bump, Mem.get_put, if_true]) (by simp only [write_n, wC_n]) (fun i hi => ?_) fun k _ hk => by simp only [Mem.get_bump, Mem.get_put, if_neg hk]
  rw [write_n, wC_n] at hi
  exact ⟨by rw [wC_get hi]; exact wcell_plain, wC_setR g3 hi⟩
theorem wdrop_not (hb : WAt m b sz s) (hr : ROk s) (h : ¬ isO s n) : Con EE.P 38 [PT b, In n] m (.tuple [In 0, .agg [In 0, .bool false].toArray, In 101].toArray) m := by
  refine Con.of EE_ok fn38 (Nat.le_of_ble_eq_true rfl) Grow.rfl fun hm => ?_
  have hn := fun j => hm.ne hb j
  simp only [f38, enumV, Nat.zero_add, w38, W_seq, w38_0, Nat.le_refl, X_assign, ev_const, Nat.reduceLT, T_set, X_alloc, zero_34, okI_some, put_bump, X_nil, thenQ_normal, w38_1, Mem.next_bump, Mem.next_put, Nat.le_add_right, bump_bump, Nat.reduceAdd, X_move, ev_T, lk_cons, Nat.reduceEqDiff, Nat.one_ne_zero, if_false, if_true, X_call ca_30, List.map_cons, List.map_nil, true_and]
  refine CallI.con0 (is_no (s := s) (sz := sz) (by simp only [WAt, Mem.get_bump, Mem.get_put, hn, if_false, hb]) hr h) ?_
  simp only [putT, Nat.reduceLT, T_set, X_assign, ev_T, lk_cons, Nat.reduceEqDiff, if_false, if_true, X_nil, thenQ_normal, W_seq, w38_2, Mem.next_bump, Mem.next_put, Nat.le_add_right, bump_bump, Nat.reduceAdd, X_move, X_un EE_sym, un_not, Bool.not_false, okI_some, W_cond, CDi_t, w38_4, w38_3, X_build EE_sym, List.map_nil, b34, ev_const, X_store, store1 sz_34, Mem.get_bump, Mem.get_put, cells_agg, st1_cells, List.length_cons, List.length_nil, Nat.zero_add, ofList_n, Nat.le_refl, List.all_cons, oneCell, List.all_nil, Bool.and_self, and_self, put_bump, W_ret, thenQ_ret, FinC_ret, resA_tmp, T_get, resA_cell, loadN lay_34, ldN_cells, sub_write_same, Option.map_some, resA_nil, Option.bind_some, oneOr2, true_and]
  exact TidyE.pure rfl fun k hk => by simp only [Mem.get_bump, Mem.get_put, ne_new hk, if_false]
theorem wdrop_open (hb : WAt m b sz s) (hr : ROk s) (h : isO s n) (hr1 : s.r n.toNat ≤ 9223372036854775807) : Con EE.P 38 [PT b, In n] m (.tuple [In (s.r n.toNat - 1), .agg [In (s.p n.toNat), .bool (s.w n.toNat)].toArray, In 0].toArray) (m.put b (.cells (wC (s.setR n.toNat (s.r n.toNat - 1))) true sz)) := by
  refine Con.of EE_ok fn38 (Nat.le_of_ble_eq_true rfl) (Grow.put hb) fun hm => ?_
  obtain ⟨h1, h2, h3⟩ := id h
  have g2 : n < ((64 : Nat) : Int) := h2
  have g3 : n.toNat < 64 := by omega
  have := hr n.toNat
  have hl : 128 + (n.toNat + 1) ≤ 192 := by omega
  have hl2 : 128 + n.toNat < 192 := by omega
  have hw : IntKind.i64.wrap (s.r n.toNat - 1) = s.r n.toNat - 1 := wrap_i64 (by omega) (by omega)
  have hn := fun j => hm.ne hb j
  have hnx := fun j => (Ne.symm (hm.ne hb j) : ¬ m.next + j = b)
  have hx : ((wC s).write (128 + n.toNat) [In (s.r n.toNat - 1)]).sub (n.toNat * 2) 2 = some [In (s.p n.toNat), .bool (s.w n.toNat)] := sub_get rfl (by simp only [write_n, wC_n]; omega) fun i hi => by
    have := sub_get_inv (wC_x (s := s) g3) (i := i) hi
    rw [get_write, if_neg (by simp; omega), this]
  simp only [f38, enumV, Nat.zero_add, w38, W_seq, w38_0, Nat.le_refl, X_assign, ev_const, Nat.reduceLT, T_set, X_alloc, zero_34, okI_some, put_bump, X_nil, thenQ_normal, w38_1, Mem.next_bump, Mem.next_put, Nat.le_add_right, bump_bump, Nat.reduceAdd, X_move, ev_T, lk_cons, Nat.reduceEqDiff, Nat.one_ne_zero, if_false, if_true, X_call ca_30, List.map_cons, List.map_nil, true_and]
  refine CallI.con0 (is_yes (s := s) (sz := sz) (by simp only [WAt, Mem.get_bump, Mem.get_put, hn, if_false, hb]) hr h) ?_
  simp only [putT, Nat.reduceLT, T_set, X_assign, ev_T, lk_cons, Nat.reduceEqDiff, if_false, if_true, X_nil, thenQ_normal, W_seq, w38_2, Mem.next_bump, Mem.next_put, Nat.le_add_right, bump_bump, Nat.reduceAdd, X_move, X_un EE_sym, un_not, Bool.not_true, okI_some, W_cond, CDi_f, W_skip, w38_5, Nat.one_ne_zero, X_nilCheck EE_sym, nilV_ptr, X_fieldAddr EE_sym fo_65_1, offV_ptr, Nat.zero_add, X_indexAddr EE_sym, h1, g2, idxV_arr und_63 sz_3, Nat.mul_one, X_load EE_sym, load1 lay_3, Mem.get_bump, Mem.get_put, hn, hb, ld1_cells, wC_r g3, X_bin EE_sym (op := .sub) rfl, ev_const, bin_sub, hw, X_store, store1 sz_3, cells_int, st1_cells, List.length_cons, List.length_nil, Nat.add_assoc, wC_n, hl, List.all_cons, oneCell, List.all_nil, Bool.and_self, and_self, put_bump, w38_6, hl2, nth_write_same, X_fieldAddr EE_sym fo_65_0, Nat.add_zero, idxV_arr und_62 sz_34, loadN lay_34, ldN_cells, hx, Option.map_some, store1 sz_34, hnx, cells_agg, ofList_n, Nat.le_refl, W_ret, FinC_ret, resA_tmp, T_get, resA_cell, sub_write_same, resA_nil, Option.bind_some, oneOr2, true_and]
  refine TidyE.put (c1 := (wC s).write (128 + n.toNat) [In (s.r n.toNat - 1)]) rfl hm hb (by simp only [Mem.get_bump, Mem.get_put, hn, if_true, if_false]) (by simp only [write_n, wC_n]) (fun i hi => ?_) fun k hk hkb => by simp only [Mem.get_bump, Mem.get_put, hkb, ne_new hk, if_false]
  rw [write_n, wC_n] at hi
  exact ⟨by rw [wC_get hi]; exact wcell_plain, wC_setR g3 hi⟩
end
end
end Go.Ab
