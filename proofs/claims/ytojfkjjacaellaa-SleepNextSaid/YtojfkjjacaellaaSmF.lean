/- Sleep: Next. -/
import Derived.Test.YtojfkjjacaellaaSmE
namespace Go.Ab
open Go.Proofs
noncomputable section
set_option maxHeartbeats 4000000
set_option maxRecDepth 10000
/-- The least that is left, of the first i. -/
def minU (L : SL) : Nat → BitVec 32
  | 0 => 0#32
  | i + 1 => if minU L i = 0#32 ∨ (valI L i).toNat < (minU L i).toNat then valI L i else minU L i
section
variable {m mr : Mem} {s : Nat} {v : Value} {L : SL}
abbrev lrN (tl : List (Nat × Value)) : ALoop := ⟨.ready, none, T 22 tl, [9, 10], c14_4, c14_9⟩
structure MinI (M1 : Mem) (lp o : Nat) (tl : List (Nat × Value)) (x : BitVec 32) (M : Mem) : Prop where
  next : M1.next ≤ M.next
  low : Low M M.next
  old : ∀ y, y < M1.next → y ≠ o → y ≠ lp → M.get y = M1.get y
  loop : M.get lp = some (.loop (lrN tl))
  out : ∃ co, M.get o = some (.cells co true 0) ∧ co.n = 1 ∧ co.nth 0 = some (Um x)
theorem MinI.bump {M1 M : Mem} {lp o : Nat} {tl : List (Nat × Value)} {x : BitVec 32} (h : MinI M1 lp o tl x M) (j : Nat) : MinI M1 lp o tl x (M.bump j) :=
  ⟨by rw [Mem.next_bump]; exact Nat.le_add_right_of_le h.next, Low.up (Low.bump h.low) (by rw [Mem.next_bump]; omega), h.old, h.loop, h.out⟩
theorem min_round {M1 M : Mem} {lp o j : Nat} {tl : List (Nat × Value)} {x n : BitVec 32} {p : Int} (hF : Fresh M1) (hl : M1.get lp = some (.loop (lrN tl))) (h4 : lk tl 4 = PT o) (ho : o < M1.next) (hol : o ≠ lp) (hI : MinI M1 lp o tl x M) :
    ∃ u m', RCon EE.P lp [In p, Um n] (M.bump j) u m' ∧ u = .bool true ∧ M.next + j ≤ m'.next ∧ MinI M1 lp o tl (if x = 0#32 ∨ n.toNat < x.toNat then n else x) m' := by
  have hnx := hI.next
  have l1 := hF.lt hl
  have hlo : ¬ lp = o := fun e => hol e.symm
  have Ml := hI.loop
  obtain ⟨co, Mo, j1, j2⟩ := hI.out
  have e0 : ∀ b, ¬ lp = M.next + b := fun b => by omega
  refine RCon.of EE_ok (r := lrN tl) (by simp only [Mem.get_bump, Ml]) rfl rfl ?_
  have hx : decide (((x.toNat : Nat) : Int) = 0) = decide (x = 0#32) := decide_eq_decide.2 ⟨fun h => BitVec.eq_of_toNat_eq (by simp; omega), fun h => by rw [h]; decide⟩
  have hlt : decide (((n.toNat : Nat) : Int) < ((x.toNat : Nat) : Int)) = decide (n.toNat < x.toNat) := decide_eq_decide.2 (by omega)
  have fin1 : ∀ (X : AObj) j2, ∀ y, y ≠ o → y ≠ lp → ((((M.put lp X).put o (.cells (co.write 0 [Um n]) true 0)).put lp (.loop (lrN tl))).bump j2).get y = M.get y := fun X j2 y y1 y2 => by simp only [Mem.get_bump, Mem.get_put, y1, y2, if_false]
  have hgr : ∀ (X : AObj) j2, j ≤ j2 → Grow (M.bump j) ((((M.put lp X).put o (.cells (co.write 0 [Um n]) true 0)).put lp (.loop (lrN tl))).bump j2) := fun X j2 hj => ⟨by simp only [Mem.next_bump, Mem.next_put]; omega, fun y hy e => by
    rw [Mem.get_bump] at e
    rw [fin1 X j2 y (fun e2 => by rw [e2, Mo] at e; cases e) (fun e2 => by rw [e2, Ml] at e; cases e), e]⟩
  have hyes : ∀ (X : AObj) j2, MinI M1 lp o tl n ((((M.put lp X).put o (.cells (co.write 0 [Um n]) true 0)).put lp (.loop (lrN tl))).bump j2) := fun X j2 =>
    ⟨by simp only [Mem.next_bump, Mem.next_put]; omega, Low.up (Low.bump (Low.put (Low.put (Low.put hI.low (by omega)) (by omega)) (by omega))) (by simp only [Mem.next_bump, Mem.next_put]; omega), fun y hy y1 y2 => by rw [fin1 X j2 y y1 y2]; exact hI.old y hy y1 y2, by simp only [Mem.get_bump, Mem.get_put, if_true], _, by simp only [Mem.get_bump, Mem.get_put, hol, if_false, if_true]; rfl, by rw [write_n, j1], nth_write_same (by omega)⟩
  by_cases x0 : x = 0#32
  · rw [decide_eq_true x0] at hx
    rw [if_pos (.inl x0)]
    simp only [Mem.next_bump, setAll2, Nat.reduceLT, T_set, w14_4, w14_3, Nat.le_refl, bump_bump, X_assign, ev_T, lk_cons, Nat.reduceEqDiff, if_false, if_true, X_nil, roundQ1_normal, Nat.add_le_add_iff_left, Nat.le_add_right, Mem.get_bump, Ml, loopI_some, put_bump, w14_9, W_block, w14_8, W_seq, w14_5, Mem.next_put, Nat.add_assoc, Nat.reduceAdd, X_load EE_sym, h4, load1 lay_30, Mem.get_put, hol, Mo, ld1_cells, j2, okI_some, X_eql EE_sym, ev_const, eq_int, hx, X_move, X_guard EE_sym, T_get, GDi_tf, putT, X_pick EE_sym, pickV_bool, thenQ_normal, W_cond, CDi_t, w14_7, w14_6, Nat.reduceLeDiff, X_store, store1 sz_30, cells_int, st1_cells, List.length_cons, List.length_nil, Nat.zero_add, j1, List.all_cons, oneCell, List.all_nil, Bool.and_self, and_self, blockQ_normal, roundQ2_normal, hlo, true_and]
    exact ⟨hgr _ _ (by omega), hyes _ _⟩
  · rw [decide_eq_false x0] at hx
    by_cases n0 : n.toNat < x.toNat
    · rw [decide_eq_true n0] at hlt
      rw [if_pos (.inr n0)]
      simp only [Mem.next_bump, setAll2, Nat.reduceLT, T_set, w14_4, w14_3, Nat.le_refl, bump_bump, X_assign, ev_T, lk_cons, Nat.reduceEqDiff, if_false, if_true, X_nil, roundQ1_normal, Nat.add_le_add_iff_left, Nat.le_add_right, Mem.get_bump, Ml, loopI_some, put_bump, w14_9, W_block, w14_8, W_seq, w14_5, Mem.next_put, Nat.add_assoc, Nat.reduceAdd, X_load EE_sym, h4, load1 lay_30, Mem.get_put, hol, Mo, ld1_cells, j2, okI_some, X_eql EE_sym, ev_const, eq_int, hx, X_move, X_guard EE_sym, T_get, GDi_ff, X_bin EE_sym (op := .lss) rfl, bin_lss, hlt, X_pick EE_sym, pickV_bool, Bool.false_eq_true, thenQ_normal, W_cond, CDi_t, w14_7, w14_6, Nat.reduceLeDiff, X_store, store1 sz_30, cells_int, st1_cells, List.length_cons, List.length_nil, Nat.zero_add, j1, List.all_cons, oneCell, List.all_nil, Bool.and_self, and_self, blockQ_normal, roundQ2_normal, hlo, true_and]
      exact ⟨hgr _ _ (by omega), hyes _ _⟩
    · rw [decide_eq_false n0] at hlt
      rw [if_neg (by rintro (h | h); exact x0 h; exact n0 h)]
      simp only [Mem.next_bump, setAll2, Nat.reduceLT, T_set, w14_4, w14_3, Nat.le_refl, bump_bump, X_assign, ev_T, lk_cons, Nat.reduceEqDiff, if_false, if_true, X_nil, roundQ1_normal, Nat.add_le_add_iff_left, Nat.le_add_right, Mem.get_bump, Ml, loopI_some, put_bump, w14_9, W_block, w14_8, W_seq, w14_5, Mem.next_put, Nat.add_assoc, Nat.reduceAdd, X_load EE_sym, h4, load1 lay_30, Mem.get_put, hol, Mo, ld1_cells, j2, okI_some, X_eql EE_sym, ev_const, eq_int, hx, X_move, X_guard EE_sym, T_get, GDi_ff, X_bin EE_sym (op := .lss) rfl, bin_lss, hlt, X_pick EE_sym, pickV_bool, Bool.false_eq_true, thenQ_normal, W_cond, CDi_f, W_skip, blockQ_normal, roundQ2_normal, Nat.reduceLeDiff, true_and]
      have fin0 : ∀ (X : AObj) j2 y, y ≠ lp → (((M.put lp X).put lp (.loop (lrN tl))).bump j2).get y = M.get y := fun X j2 y y2 => by simp only [Mem.get_bump, Mem.get_put, y2, if_false]
      refine ⟨⟨by simp only [Mem.next_bump, Mem.next_put]; omega, fun y hy e => ?_⟩, by simp only [Mem.next_bump, Mem.next_put]; omega, Low.up (Low.bump (Low.put (Low.put hI.low (by omega)) (by omega))) (by simp only [Mem.next_bump, Mem.next_put]; omega), fun y hy y1 y2 => by rw [fin0 _ _ y y2]; exact hI.old y hy y1 y2, by simp only [Mem.get_bump, Mem.get_put, if_true], co, by rw [fin0 _ _ o hol]; exact Mo, j1, j2⟩
      rw [Mem.get_bump] at e
      rw [fin0 _ _ y (fun e2 => by rw [e2, Ml] at e; cases e), e]
theorem min_all {lp c o zc : Nat} {tl : List (Nat × Value)} {co0 : Cells} (hmr : Fresh mr) (hl : mr.get lp = some (.loop (lrN tl))) (h4 : lk tl 4 = PT o) (hc : mr.get c = some (.cells (Cells.ofList [PT s]) true zc))
    (ho : mr.get o = some (.cells co0 true 0)) (hn0 : co0.n = 1) (hn1 : co0.nth 0 = some (Um 0#32)) (hco : c ≠ o) (hso : s ≠ o) (h : SAt mr s v L) (hw : wfL L) (hlen : L.length < 1000000) :
    ∃ u m2, Con EE.P 26 [.func (.yield lp) #[] #[], PT c] mr u m2 ∧ ∃ M1, Nx mr M1 ∧ MinI M1 lp o tl (minU L L.length) m2 := by
  have l1 := hmr.lt hl
  have l2 := hmr.lt ho
  have hol : o ≠ lp := fun e => by rw [e, hl] at ho; cases ho
  refine all_it hmr hl hc h hw (by omega) l2 (by rw [ho]; simp) hco hso (fun M1 i M => MinI M1 lp o tl (minU L i) M) (fun M1 hn => ?_) (fun M1 i M j hI => hI.bump j) (fun M1 i M hn hI => ⟨hI.next, hI.low, fun y hy y1 y2 _ => hI.old y hy y1 y2⟩) (fun M1 i M b hn hb hi hI => ⟨L, ?_, valI_get hi⟩) (fun M1 i M j hn hi hI => ?_)
  · exact ⟨Nat.le_refl _, hn.fresh.none, fun _ _ _ _ => rfl, hn.keep hmr hl, co0, hn.keep hmr ho, hn0, hn1⟩
  · rcases h.mp with ⟨rfl, _⟩ | ⟨b', rfl, h4⟩
    · cases hb
    · cases hb
      have hbl := hmr.lt h4
      rw [hI.old b (Nat.lt_of_lt_of_le hbl hn.next) (fun e => by rw [e, ho] at h4; cases h4) (fun e => by rw [e, hl] at h4; cases h4), hn.old b hbl, h4]
  · obtain ⟨u, m', g1, g2, g3, g4⟩ := min_round (j := j) (p := keyI L i) (n := valI L i) hn.fresh (hn.keep hmr hl) h4 (Nat.lt_of_lt_of_le l2 hn.next) hol hI
    exact ⟨u, m', g1, g2, g3, g4⟩
theorem next_ok (h : SAt m s v L) (hm : Fresh m) (hw : wfL L) (hlen : L.length < 1000000) : ∃ u m', Con EE.P 14 [PT s] m u m' ∧ u = .tuple [Um (minU L L.length), .bool (decide (minU L L.length ≠ 0#32))].toArray ∧ Nx m m' := by
  refine Con.raw EE_ok fn14 (Nat.le_of_ble_eq_true rfl) _ ?_
  obtain ⟨cs, h1, h2, h3⟩ := h.at_
  have hs := h.lt hm
  simp only [f14, enumV, w14, W_seq, w14_0, Nat.le_refl, X_assign, ev_const, Nat.reduceLT, T_set, X_nil, ne_eq, thenQ_normal, w14_1, Mem.next_bump, Nat.le_add_right, bump_bump, Nat.reduceAdd, X_alloc, zero_30, okI_some, Nat.add_zero, put_bump, X_store, ev_T, lk_cons, Nat.reduceEqDiff, if_false, if_true, store1 sz_30, Mem.get_bump, Mem.get_put, cells_int, st1_cells, List.length_cons, List.length_nil, Nat.zero_add, ofList_n, List.all_cons, oneCell, List.all_nil, Bool.and_self, and_self, w14_2, Mem.next_put, X_move, X_call ca_24, List.map_cons, List.map_nil, true_and]
  refine CallI.con0 (allseq_ok (by simp only [Mem.get_bump, Mem.get_put, ne_new hs, if_false]; exact h1)) ?_
  simp only [Mem.next_bump, Mem.next_put, put_bump, bump_bump, Nat.reduceAdd, putT, Nat.reduceLT, T_set, X_nil, thenQ_normal, W_block, w14_10]
  refine W_rfnx (l' := [(4, PT (m.next + 2))]) (R := fun _ m2 => ∃ M1, Nx ((((((m.put (m.next + 2) (.cells (Cells.ofList [.int .u32 0]) true 0)).put (m.next + 2) (.cells ((Cells.ofList [.int .u32 0]).write 0 [.int .u32 0]) true 0)).put (m.next + 6) (.cells (Cells.ofList [PT s]) true 0)).bump 7).put (m.next + 7) (.loop (lrN _))).bump 1) M1 ∧ MinI M1 (m.next + 7) (m.next + 2) _ (minU L L.length) m2) [] [PT (m.next + 6)] (by simp only [Mem.next_bump, Mem.next_put]; omega) (by simp only [ev_T, lk_cons, Nat.reduceLT, Nat.reduceEqDiff, reduceIte]) ca_26
    (min_all (co0 := (Cells.ofList [.int .u32 0]).write 0 [.int .u32 0]) (zc := 0) (s := s) (v := v) (L := L) ?_ get_eq_b rfl (by simp only [Mem.get_bump, Mem.get_put, show ¬ m.next + 6 = m.next + 7 by omega, Mem.next_bump, Mem.next_put, if_false, if_true]) (by simp only [Mem.get_bump, Mem.get_put, Mem.next_bump, Mem.next_put, show ¬ m.next + 2 = m.next + 7 by omega, show ¬ m.next + 2 = m.next + 6 by omega, if_false, if_true]) rfl rfl (by omega) (by omega) (h.keep ?_ fun b hb => ?_) hw hlen) (fun p hp => ?_) (fun _ m2 hI => ?_)
  · exact Fresh.of_low (by have := hm.n64; (try simp only [Mem.next_bump, Mem.next_put]); omega) (by repeat (first | exact Low.of hm (by (try simp only [Mem.next_bump, Mem.next_put]); omega) | refine Low.put ?_ (by (try simp only [Mem.next_bump, Mem.next_put]); omega) | refine Low.bump ?_))
  · simp only [Mem.get_bump, Mem.get_put, ne_new hs, Mem.next_bump, Mem.next_put, if_false]
  · have hbl := (h.ltb hm hb).1
    simp only [Mem.get_bump, Mem.get_put, ne_new hbl, Mem.next_bump, Mem.next_put, if_false]
  · simp only [List.mem_singleton] at hp
    subst hp
    exact rv_ptr (.inl ⟨rfl, by simp only [Mem.next_bump, Mem.next_put]; omega⟩)
  · obtain ⟨M1, hn, hI⟩ := hI
    have n1 := hn.next
    simp only [Mem.next_bump, Mem.next_put] at n1
    have n2 := hI.next
    obtain ⟨co, k1, k2, k3⟩ := hI.out
    have k6 : ¬ m.next + 2 = m.next + 7 := by omega
    refine rfnQ_normal hI.loop ?_
    have n2' : m.next ≤ m2.next := by omega
    have hl := hI.loop
    have hgt : decide ((0 : Int) < (((minU L L.length).toNat : Nat) : Int)) = decide (minU L L.length ≠ 0#32) := decide_eq_decide.2 ⟨fun h e => by rw [e] at h; simp at h, fun h => by
      have : (minU L L.length).toNat ≠ 0 := fun e => h (BitVec.eq_of_toNat_eq (by simpa using e))
      omega⟩
    simp only [Mem.next_bump, Mem.next_put, blockQ_normal, thenQ_normal, W_seq, w14_11, n2', X_load EE_sym, Nat.reduceLT, ev_T, lk_cons, if_true, load1 lay_30, Mem.get_bump, Mem.get_put, k6, k1, if_false, ld1_cells, k3, okI_some, T_set, Nat.reduceEqDiff, X_bin EE_sym (op := .gtr) rfl, ev_const, bin_gtr, hgt, ne_eq, X_assign, X_nil, W_ret, FinX_ret, resA_tmp, T_get, resA_nil, Option.map_some, oneOr2, true_and]
    have hnn : ∀ o j, Nx m ((m2.put (m.next + 7) o).bump j) := fun o j => by
      refine ⟨by simp only [Mem.next_bump, Mem.next_put]; omega, Fresh.of_low (by have := hm.n64; simp only [Mem.next_bump, Mem.next_put]; omega) (Low.up (Low.bump (Low.put hI.low (by omega))) (by simp only [Mem.next_bump, Mem.next_put]; omega)), fun y hy => ?_⟩
      simp only [Mem.get_bump, Mem.get_put, show ¬ y = m.next + 7 by omega, if_false]
      rw [hI.old y (by omega) (by omega) (by omega), hn.old y (by simp only [Mem.next_bump, Mem.next_put]; omega)]
      simp only [Mem.get_bump, Mem.get_put, show ¬ y = m.next + 7 by omega, show ¬ y = m.next + 6 by omega, show ¬ y = m.next + 2 by omega, if_false]
    refine ⟨⟨(hnn _ _).next, fun y hy e => by rw [(hnn _ _).old y hy, e]⟩, ?_, hnn _ _⟩
    first | rfl | simp
end
end
end Go.Ab
