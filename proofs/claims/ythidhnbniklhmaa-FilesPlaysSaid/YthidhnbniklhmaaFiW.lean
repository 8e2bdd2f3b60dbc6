/- FilesPlays: whatever the calls, it answers true. -/
import Derived.Test.YthidhnbniklhmaaFiM
import Derived.Test.YthidhnbniklhmaaFiA7
import Derived.Test.YthidhnbniklhmaaTK
namespace Go.Ab
open Go.Proofs
noncomputable section
set_option maxHeartbeats 8000000
set_option maxRecDepth 10000
theorem CallI.ex2L {L : List Inst} {f : FuncId} {args : List Value} {m : Mem} {R : Value → Mem → Prop} {K : List Inst → Value → Mem → Prop} (h : ∃ v m', Con EE.P f args m v m' ∧ R v m') (hL : ∀ c ∈ L, c.tk ≠ .call f args) (hK : ∀ v m', R v m' → K (⟨.call f args, m, v, m'⟩ :: L) v m') : CallI EE L (.call f args) m (K := ⟨K⟩) := by
  obtain ⟨v, m', h1, h2⟩ := h
  exact CallI.con h1 (fun c hc e => absurd e (hL c hc)) (hK v m' h2)
theorem UsedV.len {m M : Mem} {s : FS} {u : Value} (h : UsedV m s u) : lenA EE.P 47 u M = some (In (usedL s 64).length) := by
  rcases h with ⟨h1, rfl⟩ | ⟨_, N, rfl, _⟩
  · rw [len_slice und_47, h1]; rfl
  · rw [len_slice und_47]
theorem eqvI {n : Int} : EE.eqv (In n) (In n) = true := by
  show vEqL 8 _ _ = true
  simp [vEqL, vEq, vEqN]
theorem wused_v {m : Mem} {b sz : Nat} {s : FS} (hm : Fresh m) (hb : WAt m b sz s) (hr : ROk s) : ∃ v m', Con EE.P 31 [PT b] m v m' ∧ UsedV m' s v ∧ Nx m m' := by
  by_cases h : usedL s 64 = []
  · exact ⟨_, m, wused_none hb hr h, .inl ⟨h, rfl⟩, Nat.le_refl _, hm, fun _ _ => rfl⟩
  · refine ⟨_, _, wused_some hb hr h, .inr ⟨h, _, rfl, by simp only [Mem.get_bump, Mem.get_put, if_true]; rfl⟩, by simp only [Mem.next_bump, Mem.next_put]; omega, Fresh.of_low (by have := hm.n64; simp only [Mem.next_bump, Mem.next_put]; omega) ?_, fun y hy => by simp only [Mem.get_bump, Mem.get_put, ne_new0 hy, if_false]⟩
    refine Low.bump (Low.put (Low.of hm (by simp only [Mem.next_bump, Mem.next_put]; omega)) (by simp only [Mem.next_bump, Mem.next_put]; omega))
section
variable {m : Mem} {f w v dd N : Nat} {s W : FS} {d : Nat → Int} {n fd : Int}
open Classical in
def oB (s : FS) (n : Int) : Bool := if isO s n then true else false
def oP (s : FS) (n : Int) : Int := if oB s n = true then s.p n.toNat else 0
def oW (s : FS) (n : Int) : Bool := if oB s n = true then s.w n.toNat else false
theorem oB_t (h : isO s n) : oB s n = true := by unfold oB; exact if_pos h
theorem oB_f (h : ¬ isO s n) : oB s n = false := by unfold oB; exact if_neg h
theorem get_o {sz : Nat} (hb : FAt m f sz s) : Con EE.P 13 [PT f, In n] m (.tuple [.agg [In (oP s n), .bool (oW s n)].toArray, .bool (oB s n)].toArray) m := by
  by_cases h : isO s n
  · unfold oP oW; rw [oB_t h, if_pos rfl, if_pos rfl]; exact get_open hb h
  · unfold oP oW; rw [oB_f h, if_neg (by decide), if_neg (by decide)]; exact get_not hb h
theorem is_o {sz : Nat} (hb : WAt m w sz W) (hr : ROk W) (h : isO W n ↔ isO s n) : Con EE.P 30 [PT w, In n] m (.bool (oB s n)) m := by
  by_cases h1 : isO s n
  · rw [oB_t h1]; exact is_yes hb hr (h.2 h1)
  · rw [oB_f h1]; exact is_no hb hr fun e => h1 (h.1 e)
def fdV (d : Nat → Int) (fd : Int) : Int := if 0 ≤ fd ∧ fd < 8 then d fd.toNat - 1 else -1
theorem fd_v {sz : Nat} (hb : DAt m dd sz d) (hd : DOk d) : Con EE.P 23 [PT dd, In fd] m (In (fdV d fd)) m := by
  unfold fdV
  split
  · rename_i h; exact fd_in hb hd h.1 h.2
  · rename_i h; exact fd_out h
theorem wfd_v {sz : Nat} (hb : VAt m v sz N d) : Con EE.P 32 [PT v, In fd] m (In (fdV d fd)) m := by
  unfold fdV
  split
  · rename_i h; exact wget_in hb h.1 h.2
  · rename_i h; exact wget_out h
end
theorem list_v {m : Mem} {b : Nat} {d : Nat → Int} (hm : Fresh m) (hb : DAt m b 0 d) (hd : DOk d) : ∃ v m', Con EE.P 29 [PT b] m v m' ∧ (∃ N, v = .slice (some ⟨N, 0, none⟩) 8 8 ∧ m'.get N = some (.cells (Cells.ofList (dL d 8)) true 1)) ∧ Nx m m' := by
  refine ⟨_, _, fdlist hb hd, ⟨_, rfl, by simp only [Mem.get_bump, Mem.get_put, if_true]⟩, by simp only [Mem.next_bump, Mem.next_put]; omega, Fresh.of_low (by have := hm.n64; simp only [Mem.next_bump, Mem.next_put]; omega) ?_, fun y hy => by simp only [Mem.get_bump, Mem.get_put, ne_new0 hy, if_false]⟩
  refine Low.bump (Low.put (Low.of hm (by simp only [Mem.next_bump, Mem.next_put]; omega)) (by simp only [Mem.next_bump, Mem.next_put]; omega))
/-- All that a round looks at. -/
structure PB (m X : Mem) (p f dd w v N x5 x6 : Nat) (s : FS) (d : Nat → Int) (W : FS) (cp c5 c6 : Cells) : Prop where
  next : m.next ≤ X.next
  fresh : Fresh X
  old : ∀ y, y < m.next → X.get y = m.get y
  hp : X.get p = some (.cells cp true 0)
  hf : FAt X f 0 s
  hd : DAt X dd 0 d
  hw : WAt X w 0 W
  hv : VAt X v 0 N d
  b5 : X.get x5 = some (.cells c5 true 0)
  b6 : X.get x6 = some (.cells c6 true 0)
section
variable {m X X' : Mem} {p f dd w v N x5 x6 : Nat} {s : FS} {d : Nat → Int} {W : FS} {cp c5 c6 : Cells}
theorem PB.nx (h : PB m X p f dd w v N x5 x6 s d W cp c5 c6) (hn : Nx X X') : PB m X' p f dd w v N x5 x6 s d W cp c5 c6 := by
  have k : ∀ {y o}, X.get y = some o → X'.get y = some o := fun {y o} hy => (hn.old y (h.fresh.lt hy)).trans hy
  exact ⟨Nat.le_trans h.next hn.next, hn.fresh, fun y hy => by rw [hn.old y (Nat.lt_of_lt_of_le hy h.next), h.old y hy], k h.hp, k h.hf, k h.hd, k h.hw, ⟨k h.hv.ptr, k h.hv.arr⟩, k h.b5, k h.b6⟩
theorem PB.bump (h : PB m X p f dd w v N x5 x6 s d W cp c5 c6) (j : Nat) : PB m (X.bump j) p f dd w v N x5 x6 s d W cp c5 c6 :=
  ⟨by rw [Mem.next_bump]; exact Nat.le_add_right_of_le h.next, h.fresh.bump, h.old, h.hp, h.hf, h.hd, h.hw, ⟨h.hv.ptr, h.hv.arr⟩, h.b5, h.b6⟩
theorem UsedV.nx {u : Value} (hm : Fresh X) (h : UsedV X s u) (hn : Nx X X') : UsedV X' s u := h.old (fun _ _ h => hm.lt h) fun y hy _ => hn.old y hy
theorem UsedV.bump {u : Value} (h : UsedV X s u) (j : Nat) : UsedV (X.bump j) s u := h
theorem used_b (h : PB m X p f dd w v N x5 x6 s d W cp c5 c6) : ∃ u m', Con EE.P 19 [PT f] X u m' ∧ UsedV m' s u ∧ PB m m' p f dd w v N x5 x6 s d W cp c5 c6 := by
  obtain ⟨u, m', c, hu, hn⟩ := used_v h.fresh h.hf
  exact ⟨u, m', c, hu, h.nx hn⟩
theorem list_b {u : Value} (h : PB m X p f dd w v N x5 x6 s d W cp c5 c6) (hd : DOk d) (hu : UsedV X s u) : ∃ a m', Con EE.P 29 [PT dd] X a m' ∧ (∃ N, a = .slice (some ⟨N, 0, none⟩) 8 8 ∧ m'.get N = some (.cells (Cells.ofList (dL d 8)) true 1)) ∧ UsedV m' s u ∧ PB m m' p f dd w v N x5 x6 s d W cp c5 c6 := by
  obtain ⟨a, m', c, ha, hn⟩ := list_v h.fresh h.hd hd
  exact ⟨a, m', c, ha, hu.nx h.fresh hn, h.nx hn⟩
theorem wused_b {u : Value} {N2 : Nat} {o : AObj} (h : PB m X p f dd w v N x5 x6 s d W cp c5 c6) (hr : ROk W) (hu : UsedV X s u) (hl : X.get N2 = some o) : ∃ a m', Con EE.P 31 [PT w] X a m' ∧ UsedV m' W a ∧ UsedV m' s u ∧ m'.get N2 = some o ∧ PB m m' p f dd w v N x5 x6 s d W cp c5 c6 := by
  obtain ⟨a, m', c, ha, hn⟩ := wused_v h.fresh h.hw hr
  exact ⟨a, m', c, ha, hu.nx h.fresh hn, by rw [hn.old N2 (h.fresh.lt hl), hl], h.nx hn⟩
end
section
variable {m : Mem} {l : Value} {n : Nat}
theorem plays_ok (hm : Fresh m) (hl : Ops m l n) : ∃ m', Con EE.P 7 [l] m (.bool true) m' := by
  refine Con.raw1 fn7 (Nat.le_of_ble_eq_true rfl) ?_
  obtain ⟨aa, C, rfl, hl2⟩ := id hl
  by_cases hn : 200 < n
  · have hx : (200 : Int) < (n : Int) := by omega
    simp only [f7, enumV, w7, W_seq, w7_0, Nat.le_refl, X_assign, ev_const, Nat.reduceLT, T_set, X_nil, thenQ_normal, w7_1, Mem.next_bump, Nat.le_add_right, bump_bump, Nat.reduceAdd, X_move, ev_T, lk_cons, Nat.reduceEqDiff, if_true, if_false, X_len EE_sym, len_slice und_22, okI_some, X_bin EE_sym (op := .gtr) rfl, bin_gtr, hx, decide_true, W_cond, CDi_t, w7_3, w7_2, W_ret, thenQ_ret, FinX_ret, resA_tmp, T_get, resA_nil, Option.map_some, oneOr1, true_and]
    exact RawE.of (by simp only [Mem.next_bump]; omega) fun y hy => rfl
  have hx : ¬ (200 : Int) < (n : Int) := by omega
  simp only [f7, enumV, w7, W_seq, w7_0, Nat.le_refl, X_assign, ev_const, Nat.reduceLT, T_set, X_nil, thenQ_normal, w7_1, Mem.next_bump, Nat.le_add_right, bump_bump, Nat.reduceAdd, X_move, ev_T, lk_cons, Nat.reduceEqDiff, if_true, if_false, X_len EE_sym, len_slice und_22, okI_some, X_bin EE_sym (op := .gtr) rfl, bin_gtr, hx, decide_false, W_cond, CDi_f, W_skip, w7_4, X_call ca_17, List.map_nil, true_and]
  refine CallI.ex2 (R := fun v m2 => ∃ p, v = PT p ∧ m.next ≤ m2.next ∧ Fresh m2 ∧ St m.next m2 p 0 ∧ ∀ y, y < m.next → m2.get y = m.get y) (by
    obtain ⟨p, m2, c, h1, h2, h3, h4⟩ := fresh_ok (m := m.bump 6) hm.bump
    rw [Mem.next_bump] at h1 h3 h4
    refine ⟨_, _, c, p, rfl, by omega, h2, ?_, fun y hy => h4 y (by omega)⟩
    obtain ⟨f, dd, w, v, N, s, d, W, k1, k2, k3⟩ := h3
    exact ⟨f, dd, w, v, N, s, d, W, ⟨k1.hp, k1.hf, k1.hd, k1.hw, k1.hv, k1.fw, Nat.le_of_add_right_le k1.lp, Nat.le_of_add_right_le k1.lf, Nat.le_of_add_right_le k1.ld, Nat.le_of_add_right_le k1.lw, Nat.le_of_add_right_le k1.lv, Nat.le_of_add_right_le k1.lN⟩, k2, k3⟩) fun pv m2 h => ?_
  obtain ⟨p, rfl, h1, h2, h3, h4⟩ := h
  simp only [putT, Nat.reduceLT, T_set, X_assign, ev_T, lk_cons, Nat.reduceEqDiff, if_false, if_true, X_nil, thenQ_normal, W_seq, w7_5, h1, X_move, X_len EE_sym, len_slice und_22, okI_some, ev_const, W_block, w7_35, true_and]
  refine WX.loop_of (fun x t M => ∃ i : Nat, i ≤ n ∧ x = n - i ∧ t = T 190 [(19, In i), (18, In n), (3, PT p), (0, .slice aa n C)] ∧ Nx m M ∧ St m.next M p i) ?_ (k := n) (t1 := T 190 [(19, In (0 : Nat)), (18, In n), (3, PT p), (0, .slice aa n C)]) (View.temps ⟨rfl, rfl, rfl, rfl, trivial⟩) ⟨0, by omega, rfl, rfl, ⟨by simp only [Mem.next_bump]; omega, h2.bump, fun y hy => by rw [Mem.get_bump, h4 y hy]⟩, h3.bump⟩
  rintro x t M ⟨i, hi, rfl, rfl, hN, hS⟩
  have hnx := hN.next
  by_cases hi2 : i < n
  · have g1 : (i : Int) < (n : Int) := by omega
    have g2 : (0 : Int) ≤ i := by omega
    rcases hl2 with hl2 | ⟨L, cs, ww, z, rfl, e1, e2⟩
    · omega
    obtain ⟨k, pp, w', nn, fd, e3⟩ := e2 i hi2
    have e4 : M.get L = some (.cells cs ww z) := by rw [hN.old L (hm.lt e1), e1]
    have hw : IntKind.i64.wrap ((i : Int) + 1) = ((i + 1 : Nat) : Int) := by rw [wrap_i64 (by omega) (by omega)]; omega
    simp only [w7_34, W_seq, w7_6, hnx, X_bin EE_sym (op := .lss) rfl, Nat.reduceLT, ev_T, lk_cons, Nat.reduceEqDiff, if_false, if_true, bin_lss, g1, decide_true, okI_some, T_set, X_nil, thenQ_normal, W_cond, CDi_t, W_skip, W_block, w7_32, w7_7, Mem.next_bump, Nat.le_add_right_of_le, bump_bump, Nat.reduceAdd, X_move, X_assign, w7_8, X_indexAddr EE_sym, g2, idxV_slice und_22 sz_46, Int.toNat_natCast, Nat.zero_add, X_load EE_sym, loadN lay_46, Mem.get_bump, e4, ldN_cells, e3, Option.map_some, X_alloc, zero_46, Nat.add_assoc, put_bump, X_store, store1 sz_46, Mem.get_put, cells_agg, st1_cells, List.length_cons, List.length_nil, ofList_n, Nat.le_refl, List.all_cons, oneCell, List.all_nil, Bool.and_self, and_self, w7_9, Mem.next_put, sub_write_same, X_call ca_18, List.map_cons, List.map_nil, true_and]
    generalize hc5 : (Cells.ofList [Value.int IntKind.i64 0, Value.int IntKind.i64 0, Value.bool false, Value.int IntKind.i64 0, Value.int IntKind.i64 0]).write 0 [In k, In pp, Value.bool w', In nn, In fd] = c5
    have c5n : c5.n = 5 := by rw [← hc5]; rfl
    have c53 : c5.nth 3 = some (In nn) := by rw [← hc5, nth_write, if_pos ⟨by decide, by simp, by decide⟩]; rfl
    have c54 : c5.nth 4 = some (In fd) := by rw [← hc5, nth_write, if_pos ⟨by decide, by simp, by decide⟩]; rfl
    have c5s : c5.sub 0 5 = some [In k, In pp, .bool w', In nn, In fd] := by rw [← hc5]; exact sub_write_same rfl (by decide)
    clear hc5
    refine CallI.ex (do_St (a := m.next) (B := i) (by omega) (Fresh.of_low (by have := hN.fresh.n64; simp only [Mem.next_bump, Mem.next_put]; omega) (Low.bump (Low.put (Low.put (Low.of hN.fresh (by simp only [Mem.next_bump, Mem.next_put]; omega)) (by simp only [Mem.next_bump, Mem.next_put]; omega)) (by simp only [Mem.next_bump, Mem.next_put]; omega)))) (by simp only [Mem.next_bump, Mem.next_put]; omega) ?_) fun m3 h5 => ?_
    · obtain ⟨f, dd, w, v, N, s, d, W, k1, k2, k3⟩ := hS
      refine ⟨f, dd, w, v, N, s, d, W, k1.keep fun y o hy => ?_, k2, k3⟩
      have := hN.fresh.lt hy
      simp only [Mem.get_bump, Mem.get_put, lt_ne this, if_false]
      exact hy
    have l3 := h5.next
    simp only [Mem.next_bump, Mem.next_put] at l3
    have l3m : m.next ≤ m3.next := by omega
    have X5 : m3.get (M.next + 7) = some (.cells c5 true 0) := by
      rw [h5.five (M.next + 7) c5 true 0 (by simp only [Mem.get_bump, Mem.get_put, if_true]) c5n]
      simp only [Mem.get_bump, Mem.get_put, if_true]
    have O3 : ∀ y, y < m.next → m3.get y = m.get y := fun y hy => by
      rw [h5.old y hy]
      simp only [Mem.get_bump, Mem.get_put, lt_ne (Nat.lt_of_lt_of_le hy hnx), if_false]
      exact hN.old y hy
    obtain ⟨f, dd, w, v, N, s, d, W, hSh, hI, hd⟩ := h5.st
    obtain ⟨cp, hp, hc⟩ := hSh.hp
    have F3 := h5.fresh
    clear h5 hS e4
    generalize M.next + 7 = x5 at X5 l3 ⊢
    simp only [putT, Nat.reduceLT, T_set, X_un EE_sym, ev_T, lk_cons, Nat.reduceEqDiff, if_false, if_true, un_not, Bool.not_true, okI_some, X_nil, thenQ_normal, W_cond, CDi_f, W_skip, W_seq, w7_12, l3m, X_move, X_nilCheck EE_sym, nilV_ptr, X_fieldAddr EE_sym fo_31_0, offV_ptr, Nat.add_zero, X_load EE_sym, load1 lay_26, Mem.get_bump, hp, ld1_cells, hc.c0, X_fieldAddr EE_sym fo_46_2, Nat.zero_add, load1 lay_3, X5, c53, X_call ca_13, List.map_cons, List.map_nil, true_and]
    refine CallI.con0 (get_o (s := s) (sz := 0) (by simp only [FAt, Mem.get_bump]; exact hSh.hf)) ?_
    generalize ho : oB s nn = o
    have q0 := lt_ne (F3.lt hp)
    generalize hc6 : (Cells.ofList [Value.int IntKind.i64 0, Value.bool false]).write 0 [In (oP s nn), Value.bool (oW s nn)] = c6
    have c6s : c6.sub 0 2 = some [In (oP s nn), .bool (oW s nn)] := by rw [← hc6]; exact sub_write_same rfl (by decide)
    simp only [putT, Nat.reduceLT, T_set, X_move, ev_T, lk_cons, Nat.reduceEqDiff, if_false, if_true, X_extract EE_sym, List.getElem?_toArray, List.getElem?_cons_zero, okI_some, X_alloc, zero_34, put_bump, X_store, store1 sz_34, Mem.get_bump, Mem.get_put, cells_agg, st1_cells, List.length_cons, List.length_nil, Nat.zero_add, Nat.reduceAdd, ofList_n, Nat.le_refl, List.all_cons, oneCell, List.all_nil, Bool.and_self, and_self, hc6, List.getElem?_cons_succ, X_assign, X_nil, thenQ_normal, W_seq, w7_13, Mem.next_bump, Mem.next_put, l3m, Nat.le_add_right_of_le, bump_bump, X_nilCheck EE_sym, nilV_ptr, X_fieldAddr EE_sym fo_31_0, offV_ptr, Nat.add_zero, X_load EE_sym, load1 lay_26, q0, hp, ld1_cells, hc.c0, X_call ca_19, List.map_cons, List.map_nil, true_and]
    refine CallI.ex2 (R := fun u mu => UsedV mu s u ∧ PB m mu p f dd w v N x5 (m3.next + 10) s d W cp c5 c6) (used_b ⟨by simp only [Mem.next_bump, Mem.next_put]; omega, Fresh.of_low (by have := F3.n64; simp only [Mem.next_bump, Mem.next_put]; omega) (Low.bump (Low.put (Low.put (Low.of F3 (by simp only [Mem.next_bump, Mem.next_put]; omega)) (by simp only [Mem.next_bump, Mem.next_put]; omega)) (by simp only [Mem.next_bump, Mem.next_put]; omega))), fun y hy => ?_, ?_, ?_, ?_, ?_, ⟨?_, ?_⟩, ?_, ?_⟩) fun u mu hu => ?_
    · simp only [Mem.get_bump, Mem.get_put, lt_ne (Nat.lt_of_lt_of_le hy l3m), if_false]; exact O3 y hy
    · simp only [Mem.get_bump, Mem.get_put, q0, if_false]; exact hp
    · simp only [FAt, Mem.get_bump, Mem.get_put, lt_ne (F3.lt hSh.hf), if_false]; exact hSh.hf
    · simp only [DAt, Mem.get_bump, Mem.get_put, lt_ne (F3.lt hSh.hd), if_false]; exact hSh.hd
    · simp only [WAt, Mem.get_bump, Mem.get_put, lt_ne (F3.lt hSh.hw), if_false]; exact hSh.hw
    · simp only [Mem.get_bump, Mem.get_put, lt_ne (F3.lt hSh.hv.ptr), if_false]; exact hSh.hv.ptr
    · simp only [Mem.get_bump, Mem.get_put, lt_ne (F3.lt hSh.hv.arr), if_false]; exact hSh.hv.arr
    · simp only [Mem.get_bump, Mem.get_put, lt_ne (F3.lt X5), if_false]; exact X5
    · simp only [Mem.get_bump, Mem.get_put, if_true]
    have sfw := hSh.fw
    have slp := hSh.lp
    have slf := hSh.lf
    have sld := hSh.ld
    have slw := hSh.lw
    have slv := hSh.lv
    have slN := hSh.lN
    clear hSh hp X5 F3 O3 hc6 l3m l3 q0
    generalize m3.next + 10 = x6 at hu ⊢
    obtain ⟨hu, B⟩ := hu
    have bn := B.next
    simp only [putT, Nat.reduceLT, T_set, X_assign, ev_T, lk_cons, Nat.reduceEqDiff, if_false, if_true, X_nil, thenQ_normal, W_seq, w7_14, bn, X_move, X_nilCheck EE_sym, nilV_ptr, okI_some, X_fieldAddr EE_sym fo_31_1, offV_ptr, Nat.zero_add, X_load EE_sym, load1 lay_27, Mem.get_bump, B.hp, ld1_cells, hc.c1, X_call ca_29, List.map_cons, List.map_nil, true_and]
    refine CallI.ex2 (list_b (B.bump _) hd (hu.bump _)) fun lv ml hl => ?_
    clear B bn hu
    obtain ⟨⟨N2, rfl, hN2⟩, hu, B⟩ := hl
    have bn := B.next
    simp only [putT, Nat.reduceLT, T_set, X_assign, ev_T, lk_cons, Nat.reduceEqDiff, if_false, if_true, X_nil, thenQ_normal, W_seq, w7_15, bn, ev_const, w7_16, Mem.next_bump, Nat.le_add_right_of_le, bump_bump, Nat.reduceAdd, X_move, X_nilCheck EE_sym, nilV_ptr, okI_some, X_fieldAddr EE_sym fo_31_3, offV_ptr, Nat.zero_add, X_load EE_sym, load1 lay_29, Mem.get_bump, B.hp, ld1_cells, hc.c3, X_fieldAddr EE_sym fo_60_0, Nat.add_zero, load1 lay_47, B.hv.ptr, nth_ofList, List.getElem?_cons_zero, X_len EE_sym, len_slice und_47, W_block, w7_25, true_and]
    refine WX.loop_of (fun x t M => ∃ j q : Nat, j ≤ 8 ∧ x = 8 - j ∧ t = T 190 [(58, In j), (57, In 8), (56, .slice (some ⟨N, 0, none⟩) 8 8), (10, In ((keptL d j).length)), (9, .slice (some ⟨N2, 0, none⟩) 8 8), (8, u), (7, .bool o), (6, PT x6), (5, PT x5), (3, PT p), (0, .slice (some ⟨L, 0, none⟩) n C), (18, In n), (19, In i)] ∧ M = ml.bump q) ?_ (k := 8) (t1 := T 190 [(58, In (0 : Nat)), (57, In 8), (56, .slice (some ⟨N, 0, none⟩) 8 8), (10, In ((keptL d 0).length)), (9, .slice (some ⟨N2, 0, none⟩) 8 8), (8, u), (7, .bool o), (6, PT x6), (5, PT x5), (3, PT p), (0, .slice (some ⟨L, 0, none⟩) n C), (18, In n), (19, In i)]) (View.temps ⟨rfl, rfl, rfl, rfl, rfl, rfl, rfl, rfl, rfl, rfl, rfl, rfl, rfl, trivial⟩) ⟨0, _, by omega, rfl, rfl, rfl⟩
    rintro x t M ⟨j, q, hj, rfl, rfl, rfl⟩
    by_cases hj8 : j < 8
    · have q1 : (j : Int) < 8 := by omega
      have q1' : (j : Int) < ((8 : Nat) : Int) := q1
      have q2 : (0 : Int) ≤ j := by omega
      have hwj : IntKind.i64.wrap ((j : Int) + 1) = ((j + 1 : Nat) : Int) := by rw [wrap_i64 (by omega) (by omega)]; omega
      have hkl := keptL_len d j
      have q3 := dL_nth d hj8
      have q4 := hd j
      by_cases h0 : d j = 0
      · have q5 : ¬ 0 ≤ d j - 1 := by omega
        have e6 : (keptL d (j + 1)).length = (keptL d j).length := by rw [keptL_succ, if_neg (by simpa using h0), List.append_nil]
        simp only [w7_24, W_seq, w7_17, Mem.next_bump, bn, Nat.le_add_right_of_le, bump_bump, X_bin EE_sym (op := .lss) rfl, Nat.reduceLT, ev_T, lk_cons, Nat.reduceEqDiff, if_false, if_true, bin_lss, q1, decide_true, okI_some, T_set, X_nil, thenQ_normal, W_cond, CDi_t, W_skip, W_block, w7_22, w7_18, Nat.add_assoc, Nat.reduceAdd, X_indexAddr EE_sym, q2, q1', idxV_slice und_47 sz_3, Int.toNat_natCast, Nat.mul_one, Nat.zero_add, X_load EE_sym, load1 lay_3, Mem.get_bump, B.hv.arr, ld1_cells, q3, X_assign, w7_19, X_move, X_bin EE_sym (op := .geq) rfl, ev_const, bin_geq, q5, decide_false, CDi_f, blockQ_normal, w7_23, X_bin EE_sym (op := .add) rfl, bin_add, hwj, roundQ_normal, true_and]
        exact ⟨8 - (j + 1), _, _, by omega, View.temps (l' := [(58, In ((j + 1 : Nat) : Int)), (57, In 8), (56, .slice (some ⟨N, 0, none⟩) 8 8), (10, In ((keptL d (j + 1)).length)), (9, .slice (some ⟨N2, 0, none⟩) 8 8), (8, u), (7, .bool o), (6, PT x6), (5, PT x5), (3, PT p), (0, .slice (some ⟨L, 0, none⟩) n C), (18, In n), (19, In i)]) ⟨rfl, rfl, rfl, by rw [e6]; rfl, rfl, rfl, rfl, rfl, rfl, rfl, rfl, rfl, rfl, trivial⟩, j + 1, _, by omega, rfl, rfl, rfl⟩
      · have q5 : 0 ≤ d j - 1 := by omega
        have e6 : (keptL d (j + 1)).length = (keptL d j).length + 1 := by rw [keptL_succ, if_pos h0, List.length_append]; rfl
        have hwk : IntKind.i64.wrap (((keptL d j).length : Int) + 1) = (((keptL d (j + 1)).length : Nat) : Int) := by rw [wrap_i64 (by omega) (by omega), e6]; omega
        simp only [w7_24, W_seq, w7_17, Mem.next_bump, bn, Nat.le_add_right_of_le, bump_bump, X_bin EE_sym (op := .lss) rfl, Nat.reduceLT, ev_T, lk_cons, Nat.reduceEqDiff, if_false, if_true, bin_lss, q1, decide_true, okI_some, T_set, X_nil, thenQ_normal, W_cond, CDi_t, W_skip, W_block, w7_22, w7_18, Nat.add_assoc, Nat.reduceAdd, X_indexAddr EE_sym, q2, q1', idxV_slice und_47 sz_3, Int.toNat_natCast, Nat.mul_one, Nat.zero_add, X_load EE_sym, load1 lay_3, Mem.get_bump, B.hv.arr, ld1_cells, q3, X_assign, w7_19, X_move, X_bin EE_sym (op := .geq) rfl, ev_const, bin_geq, q5, w7_21, w7_20, X_bin EE_sym (op := .add) rfl, bin_add, hwk, blockQ_normal, w7_23, hwj, roundQ_normal, true_and]
        exact ⟨8 - (j + 1), _, _, by omega, View.temps (l' := [(58, In ((j + 1 : Nat) : Int)), (57, In 8), (56, .slice (some ⟨N, 0, none⟩) 8 8), (10, In ((keptL d (j + 1)).length)), (9, .slice (some ⟨N2, 0, none⟩) 8 8), (8, u), (7, .bool o), (6, PT x6), (5, PT x5), (3, PT p), (0, .slice (some ⟨L, 0, none⟩) n C), (18, In n), (19, In i)]) ⟨rfl, rfl, rfl, rfl, rfl, rfl, rfl, rfl, rfl, rfl, rfl, rfl, rfl, trivial⟩, j + 1, _, by omega, rfl, rfl, rfl⟩
    obtain rfl : j = 8 := by omega
    have q1 : ¬ ((8 : Nat) : Int) < 8 := by omega
    have hB := (B.bump q)
    have hub := (hu.bump q)
    have hN2b : (ml.bump q).get N2 = some (.cells (Cells.ofList (dL d 8)) true 1) := hN2
    clear hN2 hu B bn
    generalize ml.bump q = X at hB hub hN2b ⊢
    have bn := hB.next
    simp only [w7_24, W_seq, w7_17, bn, X_bin EE_sym (op := .lss) rfl, Nat.reduceLT, ev_T, lk_cons, Nat.reduceEqDiff, if_false, if_true, bin_lss, q1, decide_false, okI_some, T_set, X_nil, Nat.reduceSub, thenQ_normal, W_cond, CDi_f, W_exit, thenQ_exit, roundQ_exit, blockQ_exit, w7_26, Mem.next_bump, Nat.le_add_right_of_le, bump_bump, Nat.reduceAdd, Y_0, X_move, keepM_f, X_nilCheck EE_sym, nilV_ptr, X_fieldAddr EE_sym fo_31_2, offV_ptr, Nat.zero_add, X_load EE_sym, load1 lay_28, Mem.get_bump, hB.hp, ld1_cells, hc.c2, X_fieldAddr EE_sym fo_46_2, load1 lay_3, hB.b5, c53, X_call ca_30, List.map_cons, List.map_nil, true_and]
    refine CallI.con0 (is_o (s := s) (hB.bump _).hw hI.rok hI.isO) ?_
    rw [ho]
    simp only [putT, Nat.reduceLT, T_set, X_nil, keepM_f, Y_0, X_move, ev_T, lk_cons, Nat.reduceEqDiff, if_false, if_true, X_neq EE_sym, neq4, beq_self_eq_true, Bool.not_true, okI_some, X_guard EE_sym, T_get, GDi_ff, X_nilCheck EE_sym, nilV_ptr, X_fieldAddr EE_sym fo_31_2, offV_ptr, Nat.zero_add, X_load EE_sym, load1 lay_28, Mem.get_bump, hB.hp, ld1_cells, hc.c2, X_call ca_31, List.map_cons, List.map_nil]
    refine CallI.ex2L (wused_b (hB.bump _) hI.rok (hub.bump _) hN2b) (by simp) fun a ma hma => ?_
    obtain ⟨ha, hua, hN2a, hA⟩ := hma
    have an := hA.next
    simp only [putT, Nat.reduceLT, T_set, X_nil, keepM_f, Y_0, X_guard EE_sym, T_get, lk_cons, Nat.reduceEqDiff, if_false, if_true, GDi_ff, X_move, ev_T, X_call ca_22, List.map_cons, List.map_nil]
    refine CallI.con (same_v ha hua hI.used.symm) (by simp) ?_
    simp only [putT, Nat.reduceLT, T_set, X_nil, keepM_f, Y_0, X_guard EE_sym, T_get, lk_cons, Nat.reduceEqDiff, if_false, if_true, GDi_ff, X_un EE_sym, ev_T, un_not, Bool.not_true, okI_some, X_pick EE_sym, ev_const, pickV_bool, Bool.false_eq_true, X_move, X_nilCheck EE_sym, nilV_ptr, X_fieldAddr EE_sym fo_31_0, offV_ptr, Nat.add_zero, X_load EE_sym, load1 lay_26, hA.hp, ld1_cells, hc.c0, X_call ca_20, List.map_cons, List.map_nil]
    refine CallI.con (free_ok (s := s) hA.hf) (by simp) ?_
    have hlu : ∀ M, lenA EE.P 47 u M = some (In (usedL s 64).length) := fun M => hua.len
    have hw64 : IntKind.i64.wrap (64 - ((usedL s 64).length : Int)) = 64 - ((usedL s 64).length : Int) := by have := usedL_len s 64; exact wrap_i64 (by omega) (by omega)
    simp only [putT, Nat.reduceLT, T_set, X_nil, keepM_t, Y_0, X_guard EE_sym, T_get, lk_cons, Nat.reduceEqDiff, if_false, if_true, GDi_ff, X_move, ev_T, keepM_f, Y_guard EE_sym, Y_re, RE_len EE_sym, hlu, okI_some, lookK_cons, eqvI, TDi_t, X_len EE_sym, X_bin EE_sym (op := .sub) rfl, ev_const, bin_sub, hw64, X_neq EE_sym, neq_int, decide_true, Bool.not_true, X_pick EE_sym, pickV_bool, Bool.false_eq_true, X_nilCheck EE_sym, nilV_ptr, X_fieldAddr EE_sym fo_31_3, offV_ptr, Nat.zero_add, X_load EE_sym, load1 lay_29, hA.hp, ld1_cells, hc.c3, X_fieldAddr EE_sym fo_60_0, Nat.add_zero, load1 lay_47, hA.hv.ptr, nth_ofList, List.getElem?_cons_zero, X_call ca_22, List.map_cons, List.map_nil]
    refine CallI.con (same_ok (m := ma) (l := fun j => d j - 1) (by decide) hN2a hA.hv.arr (fun j hj => dL_nth d hj) (fun j hj => dL_nth d hj)) (fun c hc ht hm => by
      simp only [List.mem_cons, List.not_mem_nil, or_false] at hc
      rcases hc with rfl | rfl | rfl | rfl <;> first | exact ⟨rfl, hm⟩ | exact absurd ht (by simp)) ?_
    simp only [putT, Nat.reduceLT, T_set, X_nil, keepM_f, Y_0, X_guard EE_sym, T_get, lk_cons, Nat.reduceEqDiff, if_false, if_true, GDi_ff, X_un EE_sym, ev_T, un_not, Bool.not_true, okI_some, X_pick EE_sym, ev_const, pickV_bool, Bool.false_eq_true, X_move, X_nilCheck EE_sym, nilV_ptr, X_fieldAddr EE_sym fo_31_1, offV_ptr, Nat.zero_add, X_load EE_sym, load1 lay_27, hA.hp, ld1_cells, hc.c1, X_call ca_24, List.map_cons, List.map_nil]
    refine CallI.con (len_ok (d := d) hA.hd hd) (by simp) ?_
    simp only [putT, Nat.reduceLT, T_set, X_nil, keepM_f, Y_0, X_guard EE_sym, T_get, lk_cons, Nat.reduceEqDiff, if_false, if_true, GDi_ff, X_move, ev_T, X_neq EE_sym, neq_int, decide_true, Bool.not_true, okI_some, X_pick EE_sym, ev_const, pickV_bool, Bool.false_eq_true, X_nilCheck EE_sym, nilV_ptr, X_fieldAddr EE_sym fo_31_1, offV_ptr, Nat.zero_add, X_load EE_sym, load1 lay_27, hA.hp, ld1_cells, hc.c1, X_fieldAddr EE_sym fo_46_3, load1 lay_3, hA.b5, c54, X_call ca_23, List.map_cons, List.map_nil]
    refine CallI.con (fd_v (d := d) hA.hd hd) (by simp) ?_
    simp only [putT, Nat.reduceLT, T_set, X_nil, keepM_t, Y_0, X_guard EE_sym, T_get, lk_cons, Nat.reduceEqDiff, if_false, if_true, GDi_ff, X_move, ev_T, keepM_f, X_nilCheck EE_sym, nilV_ptr, okI_some, X_fieldAddr EE_sym fo_31_3, offV_ptr, Nat.zero_add, Y_guard EE_sym, Y_re, RE_load EE_sym, load1 lay_29, hA.hp, ld1_cells, hc.c3, lookK_cons, eqvP, TDi_t, X_load EE_sym, X_fieldAddr EE_sym fo_46_3, load1 lay_3, hA.b5, c54, eqvI, X_call ca_32, List.map_cons, List.map_nil]
    refine CallI.con (wfd_v (d := d) hA.hv) (by simp) ?_
    simp only [putT, Nat.reduceLT, T_set, X_nil, keepM_f, Y_0, X_guard EE_sym, T_get, lk_cons, Nat.reduceEqDiff, if_false, if_true, GDi_ff, X_neq EE_sym, ev_T, neq_int, decide_true, Bool.not_true, okI_some, X_pick EE_sym, ev_const, pickV_bool, Bool.false_eq_true, Y_nil, thenQ_normal, W_cond, CDi_f, W_skip, W_seq, w7_29, an, X_move, true_and]
    cases o with
    | true =>
      have his : isO s nn := Classical.byContradiction fun e => by rw [oB_f e] at ho; cases ho
      have hP : oP s nn = W.p nn.toNat := by unfold oP; rw [ho, if_pos rfl, (hI.x _ his.2.2).1]
      have hW : oW s nn = W.w nn.toNat := by unfold oW; rw [ho, if_pos rfl, (hI.x _ his.2.2).2]
      have z1 := his.1
      have z2 : nn < ((64 : Nat) : Int) := his.2.1
      have z3 : nn.toNat < 64 := by omega
      have z4 : W.r nn.toNat = s.r nn.toNat := hI.eq _
      rw [hP, hW] at c6s
      simp only [GDi_tt, X_load EE_sym, Nat.reduceLT, ev_T, lk_cons, Nat.reduceEqDiff, if_false, if_true, loadN lay_34, Mem.get_bump, hA.b6, ldN_cells, c6s, Option.map_some, okI_some, T_set, X_nil, keepM_f, Y_0, X_guard EE_sym, T_get, X_move, X_nilCheck EE_sym, nilV_ptr, X_fieldAddr EE_sym fo_31_2, offV_ptr, Nat.zero_add, load1 lay_28, hA.hp, ld1_cells, hc.c2, X_fieldAddr EE_sym fo_46_2, load1 lay_3, hA.b5, c53, X_fieldAddr EE_sym fo_65_0, Nat.add_zero, X_indexAddr EE_sym, z1, z2, idxV_arr und_62 sz_34, hA.hw, wC_x z3, X_neq EE_sym, neq34, beq_self_eq_true, Bool.and_self, Bool.not_true, GDi_ff, X_fieldAddr EE_sym fo_31_0, load1 lay_26, hc.c0, X_call ca_14, List.map_cons, List.map_nil]
      refine CallI.con0 (refs_open (s := s) (sz := 0) hA.hf his) ?_
      simp only [putT, Nat.reduceLT, T_set, X_nil, keepM_t, Y_0, X_guard EE_sym, T_get, lk_cons, Nat.reduceEqDiff, if_false, if_true, GDi_ff, X_move, ev_T, keepM_f, X_nilCheck EE_sym, nilV_ptr, okI_some, X_fieldAddr EE_sym fo_31_2, offV_ptr, Nat.zero_add, Y_guard EE_sym, Y_re, RE_load EE_sym, load1 lay_28, Mem.get_bump, hA.hp, ld1_cells, hc.c2, lookK_cons, eqvP, TDi_t, X_load EE_sym, X_fieldAddr EE_sym fo_46_2, load1 lay_3, hA.b5, c53, eqvI, X_fieldAddr EE_sym fo_65_1, X_indexAddr EE_sym, z1, z2, idxV_arr und_63 sz_3, Nat.mul_one, hA.hw, wC_r z3, z4, X_neq EE_sym, neq_int, decide_true, Bool.not_true, GDi_tt, X_pick EE_sym, ev_const, pickV_bool, Bool.false_eq_true, X_un EE_sym, un_not, GDi_ft, GDi_u, Y_nil, thenQ_normal, W_cond, CDi_f, W_skip, blockQ_normal, w7_33, Mem.next_bump, an, Nat.le_add_right_of_le, bump_bump, Nat.reduceAdd, X_bin EE_sym (op := .add) rfl, bin_add, hw, roundQ_normal, true_and]
      exact ⟨n - (i + 1), _, _, by omega, View.temps (l' := [(19, In ((i + 1 : Nat) : Int)), (18, In n), (3, PT p), (0, .slice (some ⟨L, 0, none⟩) n C)]) ⟨rfl, rfl, rfl, rfl, trivial⟩, i + 1, by omega, rfl, rfl, ⟨by simp only [Mem.next_bump]; omega, (hA.bump _).fresh, fun y hy => hA.old y hy⟩, f, dd, w, v, N, s, d, W, ⟨⟨cp, hA.hp, hc⟩, hA.hf, hA.hd, hA.hw, ⟨hA.hv.ptr, hA.hv.arr⟩, sfw, slp, slf, sld, slw, slv, slN⟩, hI, hd⟩
    | false =>
      have his : ¬ isO s nn := fun e => by rw [oB_t e] at ho; cases ho
      have hP : oP s nn = 0 := by unfold oP; rw [ho, if_neg (by decide)]
      have hW : oW s nn = false := by unfold oW; rw [ho, if_neg (by decide)]
      rw [hP, hW] at c6s
      simp only [GDi_ft, putT, Nat.reduceLT, T_set, X_nil, keepM_f, Y_0, X_guard EE_sym, T_get, lk_cons, Nat.reduceEqDiff, if_false, if_true, GDi_u, keepM_t, Y_guard EE_sym, X_pick EE_sym, ev_T, ev_const, pickV_bool, Bool.false_eq_true, okI_some, X_move, GDi_ff, X_un EE_sym, un_not, Bool.not_false, GDi_tt, X_load EE_sym, loadN lay_34, Mem.get_bump, hA.b6, ldN_cells, c6s, Option.map_some, X_build EE_sym, List.map_nil, b34, X_neq EE_sym, neq34, beq_self_eq_true, Bool.and_self, Bool.not_true, X_nilCheck EE_sym, nilV_ptr, X_fieldAddr EE_sym fo_31_0, offV_ptr, Nat.add_zero, load1 lay_26, hA.hp, ld1_cells, hc.c0, X_fieldAddr EE_sym fo_46_2, Nat.zero_add, load1 lay_3, hA.b5, c53, X_call ca_14, List.map_cons]
      refine CallI.con0 (refs_not (s := s) (sz := 0) hA.hf his) ?_
      simp only [putT, Nat.reduceLT, T_set, X_nil, keepM_f, Y_0, X_guard EE_sym, T_get, lk_cons, Nat.reduceEqDiff, if_false, if_true, GDi_ff, X_neq EE_sym, ev_T, ev_const, neq_int, decide_true, Bool.not_true, okI_some, GDi_tt, X_pick EE_sym, pickV_bool, Bool.false_eq_true, Y_nil, thenQ_normal, W_cond, CDi_f, W_skip, blockQ_normal, w7_33, Mem.next_bump, an, Nat.le_add_right_of_le, bump_bump, Nat.reduceAdd, X_bin EE_sym (op := .add) rfl, bin_add, hw, X_move, roundQ_normal, true_and]
      exact ⟨n - (i + 1), _, _, by omega, View.temps (l' := [(19, In ((i + 1 : Nat) : Int)), (18, In n), (3, PT p), (0, .slice (some ⟨L, 0, none⟩) n C)]) ⟨rfl, rfl, rfl, rfl, trivial⟩, i + 1, by omega, rfl, rfl, ⟨by simp only [Mem.next_bump]; omega, (hA.bump _).fresh, fun y hy => hA.old y hy⟩, f, dd, w, v, N, s, d, W, ⟨⟨cp, hA.hp, hc⟩, hA.hf, hA.hd, hA.hw, ⟨hA.hv.ptr, hA.hv.arr⟩, sfw, slp, slf, sld, slw, slv, slN⟩, hI, hd⟩
  · have gx : ¬ (i : Int) < (n : Int) := by omega
    simp only [w7_34, W_seq, w7_6, hnx, X_bin EE_sym (op := .lss) rfl, Nat.reduceLT, ev_T, lk_cons, Nat.reduceEqDiff, if_false, if_true, bin_lss, gx, decide_false, okI_some, T_set, X_nil, thenQ_normal, W_cond, CDi_f, W_exit, thenQ_exit, roundQ_exit, blockQ_exit, w7_36, Mem.next_bump, Nat.le_add_right_of_le, bump_bump, Nat.reduceAdd, X_assign, ev_const, W_ret, FinX_ret, resA_tmp, T_get, resA_nil, Option.map_some, oneOr1, true_and]
    exact RawE.of (by simp only [Mem.next_bump]; omega) fun y hy => hN.old y hy
end
end
end Go.Ab
