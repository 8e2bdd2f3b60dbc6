/- Sleep: All. -/
import Derived.Test.YtojfkjjacaellaaSmC
import Derived.Test.YtojfkjjacaellaaTP
namespace Go.Ab
open Go.Proofs
noncomputable section
set_option maxHeartbeats 4000000
set_option maxRecDepth 10000
theorem eo34 : ElemOk EE.P 34 44 2 16 := ElemOk.of (z := [.int .i64 0, .int .u32 0]) und_34 (by kernel_rfl) (by kernel_rfl) rfl (by decide)
theorem eo36 : ElemOk EE.P 36 3 1 8 := ElemOk.of (z := [.int .i64 0]) und_36 (by kernel_rfl) (by kernel_rfl) rfl (by decide)
theorem bld44 {p : Int} {n : BitVec 32} : buildA EE.P 44 [(0, In p), (1, Um n)] = some (.agg [In p, Um n].toArray) := by kernel_rfl
theorem bs34 {p : Int} {n : BitVec 32} : bsV EE.P 34 1 [(0, .agg [In p, Um n].toArray)] = some ([In p, Um n], 2) := by kernel_rfl
theorem bs36 {p : Int} : bsV EE.P 36 1 [(0, In p)] = some ([In p], 1) := by kernel_rfl
/-- Pairs as cells. -/
def pl (L : SL) : List Value := L.flatMap fun p => [In p.1, Um p.2]
theorem pl_snoc {L : SL} {p : Int} {n : BitVec 32} : pl (L ++ [(p, n)]) = pl L ++ [In p, Um n] := by unfold pl; rw [List.flatMap_append]; rfl
/-- The first i, in rising order. -/
def topL (L : SL) (i : Nat) : SL := (List.range i).map fun j => (keyI L j, valI L j)
theorem topL_succ {L : SL} {i : Nat} : topL L (i + 1) = topL L i ++ [(keyI L i, valI L i)] := by unfold topL; rw [List.range_succ, List.map_append]; rfl
theorem topL_len {L : SL} {i : Nat} : (topL L i).length = i := by unfold topL; simp
section
variable {m mr : Mem} {s : Nat} {v : Value} {L : SL}
theorem keyI_mem {i : Nat} (hi : i < L.length) : keyI L i ∈ mkeys L := by
  have : i < (isort (mkeys L)).length := by rw [isort_len, List.length_map]; exact hi
  unfold keyI
  rw [List.getD_eq_getElem?_getD, List.getElem?_eq_getElem this]
  exact (isort_perm _).mem_iff.1 (List.getElem_mem this)
theorem valI_get {i : Nat} (hi : i < L.length) : mget L (keyI L i) = some (valI L i) := by
  have h := mget_mem (keyI_mem hi)
  unfold valI
  cases hg : mget L (keyI L i) with
  | none => rw [hg] at h; cases h
  | some x => rfl
abbrev lrA (tl : List (Nat × Value)) : ALoop := ⟨.ready, none, T 17 tl, [8, 9], c11_5, c11_8⟩
theorem all_round {M1 M : Mem} {lp o j k : Nat} {tl : List (Nat × Value)} {fl : List Value} {p : Int} {n : BitVec 32} (hF : Fresh M1) (hl : M1.get lp = some (.loop (lrA tl))) (h3 : lk tl 3 = PT o) (ho : o < M1.next) (hol : o ≠ lp) (hI : ColV M1 lp o (lrA tl) 2 k fl M) (hk : k < 1073741824) :
    ∃ u m', RCon EE.P lp [In p, Um n] (M.bump j) u m' ∧ u = .bool true ∧ M.next + j ≤ m'.next ∧ ColV M1 lp o (lrA tl) 2 (k + 1) (fl ++ [In p, Um n]) m' := by
  have hnx := hI.next
  have l1 := hF.lt hl
  have hlo : ¬ lp = o := fun e => hol e.symm
  have Ml := hI.loop
  obtain ⟨co, u, Mo, j1, j2, j3, j4⟩ := hI.out
  have b1 := bld44 (p := p) (n := n)
  have b2 := bs34 (p := p) (n := n)
  refine RCon.of EE_ok (r := lrA tl) (by simp only [Mem.get_bump, Ml]) rfl rfl ?_
  simp only [Mem.next_bump, setAll2, Nat.reduceLT, T_set, w11_5, W_seq, w11_3, Nat.le_refl, bump_bump, X_assign, ev_T, lk_cons, Nat.reduceEqDiff, if_true, if_false, X_nil, thenQ_normal, w11_4, Nat.add_le_add_iff_left, Nat.le_add_right, Nat.add_assoc, Nat.reduceAdd, roundQ1_normal, Mem.get_bump, Ml, loopI_some, put_bump, w11_8, W_block, w11_7, w11_6, Mem.next_put, X_load EE_sym, h3, load1 lay_34, Mem.get_put, hol, Mo, ld1_cells, j2, okI_some, X_move, X_build EE_sym, List.map_cons, List.map_nil, b1, X_bs, b2, X_append, true_and]
  refine hI.app (rb := ⟨.busy, none, T 17 tl, [8, 9], c11_5, c11_8⟩) eo34 (by decide) hol l1 ho hF.n64 Mo j2 rfl rfl ⟨by omega, by omega⟩ ⟨by omega, by omega⟩ (by omega) (by omega) fun b' c' M' hMl hMo hcn hMn hold hfin => ?_
  have n3 : M.next ≤ M'.next := by omega
  have n9 : M.next + j ≤ M'.next := by omega
  have n10 : M.next + (j + 2) ≤ M'.next := by omega
  simp only [Nat.reduceLT, T_set, X_store, ev_T, lk_cons, Nat.reduceEqDiff, h3, if_false, if_true, store1 sz_34, hMo, cells_slice, st1_cells, List.length_cons, List.length_nil, Nat.zero_add, hcn, Nat.le_refl, List.all_cons, oneCell, List.all_nil, Bool.and_self, and_self, okI_some, X_nil, Mem.next_bump, blockQ_normal, roundQ2_normal, Mem.next_put, n10, Mem.get_put, hlo, hMl, loopI_some, n9, true_and]
  exact ⟨(hfin 0).2 j (by omega) (by omega), (hfin 0).1⟩
theorem all_cols {lp c o zc : Nat} {tl : List (Nat × Value)} {co0 : Cells} (hmr : Fresh mr) (hl : mr.get lp = some (.loop (lrA tl))) (h3 : lk tl 3 = PT o) (hc : mr.get c = some (.cells (Cells.ofList [PT s]) true zc))
    (ho : mr.get o = some (.cells co0 true 0)) (hn0 : co0.n = 1) (hn1 : co0.nth 0 = some (.slice none 0 0)) (hco : c ≠ o) (hso : s ≠ o) (h : SAt mr s v L) (hw : wfL L) (hlen : L.length < 1000000) :
    ∃ u m2, Con EE.P 26 [.func (.yield lp) #[] #[], PT c] mr u m2 ∧ ∃ M1, Nx mr M1 ∧ ColV M1 lp o (lrA tl) 2 L.length (pl (topL L L.length)) m2 := by
  have l1 := hmr.lt hl
  have l2 := hmr.lt ho
  have hol : o ≠ lp := fun e => by rw [e, hl] at ho; cases ho
  refine all_it hmr hl hc h hw (by omega) l2 (by rw [ho]; simp) hco hso (fun M1 i M => ColV M1 lp o (lrA tl) 2 i (pl (topL L i)) M) (fun M1 hn => ?_) (fun M1 i M j hI => hI.bump j) (fun M1 i M hn hI => ⟨hI.next, hI.low, fun y hy y1 y2 _ => hI.old y hy y1 y2⟩) (fun M1 i M b hn hb hi hI => ⟨L, ?_, valI_get hi⟩) (fun M1 i M j hn hi hI => ?_)
  · exact ColV.start hn.fresh (hn.keep hmr hl) (hn.keep hmr ho) hn0 hn1
  · rcases h.mp with ⟨rfl, _⟩ | ⟨b', rfl, h4⟩
    · cases hb
    · cases hb
      have hbl := hmr.lt h4
      rw [hI.old b (Nat.lt_of_lt_of_le hbl hn.next) (fun e => by rw [e, ho] at h4; cases h4) (fun e => by rw [e, hl] at h4; cases h4), hn.old b hbl, h4]
  · obtain ⟨u, m', g1, g2, g3, g4⟩ := all_round (j := j) (p := keyI L i) (n := valI L i) hn.fresh (hn.keep hmr hl) h3 (Nat.lt_of_lt_of_le l2 hn.next) hol hI (by omega)
    exact ⟨u, m', g1, g2, g3, by rw [topL_succ, pl_snoc]; exact g4⟩
theorem all_ok (h : SAt m s v L) (hm : Fresh m) (hw : wfL L) (hlen : L.length < 1000000) : ∃ u m', Con EE.P 11 [PT s] m u m' ∧ NewV m m' 2 u L.length (pl (topL L L.length)) := by
  refine Con.raw EE_ok fn11 (Nat.le_of_ble_eq_true rfl) _ ?_
  obtain ⟨cs, h1, h2, h3⟩ := h.at_
  have hs := h.lt hm
  simp only [f11, enumV, w11, W_seq, w11_0, Nat.le_refl, X_assign, ev_const, Nat.reduceLT, T_set, X_nil, thenQ_normal, w11_1, Mem.next_bump, Nat.le_add_right, bump_bump, Nat.reduceAdd, X_alloc, zero_34, okI_some, Nat.add_zero, put_bump, w11_2, Mem.next_put, X_move, ev_T, lk_cons, Nat.reduceEqDiff, if_true, if_false, X_call ca_24, List.map_cons, List.map_nil, true_and]
  refine CallI.con0 (allseq_ok (by simp only [Mem.get_bump, Mem.get_put, ne_new hs, if_false]; exact h1)) ?_
  simp only [Mem.next_bump, Mem.next_put, put_bump, bump_bump, Nat.reduceAdd, putT, Nat.reduceLT, T_set, X_nil, thenQ_normal, W_block, w11_9]
  refine W_rfnx (l' := [(3, PT (m.next + 1))]) (R := fun _ m2 => ∃ M1, Nx (((((m.put (m.next + 1) (.cells (Cells.ofList [.slice none 0 0]) true 0)).put (m.next + 4) (.cells (Cells.ofList [PT s]) true 0)).bump 5).put (m.next + 5) (.loop (lrA _))).bump 1) M1 ∧ ColV M1 (m.next + 5) (m.next + 1) (lrA _) 2 L.length (pl (topL L L.length)) m2) [] [PT (m.next + 4)] (by simp only [Mem.next_bump, Mem.next_put]; omega) (by simp only [ev_T, lk_cons, Nat.reduceLT, Nat.reduceEqDiff, reduceIte]) ca_26
    (all_cols (co0 := Cells.ofList [.slice none 0 0]) (zc := 0) (s := s) (v := v) (L := L) ?_ get_eq_b rfl (by simp only [Mem.get_bump, Mem.get_put, show ¬ m.next + 4 = m.next + 5 by omega, Mem.next_bump, Mem.next_put, if_false, if_true]) (by simp only [Mem.get_bump, Mem.get_put, Mem.next_bump, Mem.next_put, show ¬ m.next + 1 = m.next + 5 by omega, show ¬ m.next + 1 = m.next + 4 by omega, if_false, if_true]) rfl rfl (by omega) (by omega) (h.keep ?_ fun b hb => ?_) hw hlen) (fun p hp => ?_) (fun _ m2 hI => ?_)
  · exact Fresh.of_low (by have := hm.n64; (try simp only [Mem.next_bump, Mem.next_put]); omega) (by repeat (first | exact Low.of hm (by (try simp only [Mem.next_bump, Mem.next_put]); omega) | refine Low.put ?_ (by (try simp only [Mem.next_bump, Mem.next_put]); omega) | refine Low.bump ?_))
  · simp only [Mem.get_bump, Mem.get_put, ne_new hs, Mem.next_bump, Mem.next_put, if_false]
  · have hbl := (h.ltb hm hb).1
    simp only [Mem.get_bump, Mem.get_put, ne_new hbl, Mem.next_bump, Mem.next_put, if_false]
  · simp only [List.mem_singleton] at hp
    subst hp
    exact rv_ptr (.inl ⟨rfl, by simp only [Mem.next_bump, Mem.next_put]; omega⟩)
  · obtain ⟨M1, hn, hI⟩ := hI
    have n1 := hn.next
    simp only [Mem.next_bump, Mem.next_put] at n1
    have n2 := hI.next
    obtain ⟨co, u, k1, k2, k3, k4, k5⟩ := hI.out
    have k6 : ¬ m.next + 1 = m.next + 5 := by omega
    refine rfnQ_normal hI.loop ?_
    have n2' : m.next ≤ m2.next := by omega
    have hl := hI.loop
    simp only [Mem.next_bump, Mem.next_put, blockQ_normal, thenQ_normal, W_seq, w11_10, n2', X_load EE_sym, Nat.reduceLT, ev_T, lk_cons, if_true, load1 lay_34, Mem.get_bump, Mem.get_put, k6, k1, if_false, ld1_cells, k3, okI_some, T_set, X_assign, Nat.reduceEqDiff, X_nil, W_ret, FinX_ret, resA_tmp, T_get, resA_nil, Option.map_some, oneOr1, true_and]
    have hnn : ∀ o j, Nx m ((m2.put (m.next + 5) o).bump j) := fun o j => by
      refine ⟨by simp only [Mem.next_bump, Mem.next_put]; omega, Fresh.of_low (by have := hm.n64; simp only [Mem.next_bump, Mem.next_put]; omega) (Low.up (Low.bump (Low.put hI.low (by omega))) (by simp only [Mem.next_bump, Mem.next_put]; omega)), fun y hy => ?_⟩
      simp only [Mem.get_bump, Mem.get_put, show ¬ y = m.next + 5 by omega, if_false]
      rw [hI.old y (by omega) (by omega) (by omega), hn.old y (by simp only [Mem.next_bump, Mem.next_put]; omega)]
      simp only [Mem.get_bump, Mem.get_put, show ¬ y = m.next + 5 by omega, show ¬ y = m.next + 4 by omega, show ¬ y = m.next + 1 by omega, if_false]
    refine ⟨⟨(hnn _ _).next, fun y hy e => by rw [(hnn _ _).old y hy, e]⟩, k4.keep fun y o hy ho => ?_, hnn _ _, fun y hy => ?_⟩
    · have := (k5 y hy).1
      simp only [Mem.get_bump, Mem.get_put, show ¬ y = m.next + 5 by omega, if_false]
      exact ho
    · have := (k5 y hy).1
      omega
end
end
end Go.Ab
