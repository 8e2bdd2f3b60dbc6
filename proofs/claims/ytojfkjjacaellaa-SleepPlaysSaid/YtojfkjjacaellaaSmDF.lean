/- Sleep: All. -/
import Derived.Test.YtojfkjjacaellaaSmBC
import Derived.Test.YtojfkjjacaellaaTP
namespace Go.Ab
open Go.Proofs
noncomputable section
set_option maxHeartbeats 4000000
set_option maxRecDepth 10000
theorem eo34 : ElemOk EE.P 34 44 2 16 := ElemOk.of (z := [.int .i64 0, .int .u32 0]) und_34 (by kernel_rfl) (by kernel_rfl) rfl (by decide)
theorem eo36 : ElemOk EE.P 36 3 1 8 := ElemOk.of (z := [.int .i64 0]) und_36 (by kernel_rfl) (by kernel_rfl) rfl (by decide)
theorem bld44 {p : Int} {n : BitVec 32} : buildA EE.P 44 [(0, In p), (1, Um n)] = some (.agg [In p, Um n].toArray) := by kernel_rfl
theorem bs34 {p : Int} {n : BitVec 32} : bsV EE.P 34 1 [(0, .agg [In p, Um n].toArray)] = some ([In p, Um n], 2) := by kernel_rfl
theorem bs36 {p : Int} : bsV EE.P 36 1 [(0, In p)] = some ([In p], 1) := by kernel_rfl
/-- Pairs as cells. -/
def pl (L : SL) : List Value := L.flatMap fun p => [In p.1, Um p.2]
theorem pl_snoc {L : SL} {p : Int} {n : BitVec 32} : pl (L ++ [(p, n)]) = pl L ++ [In p, Um n] := by unfold pl; rw [List.flatMap_append]; rfl
/-- The first i, in rising order. -/
def topL (L : SL) (i : Nat) : SL := (List.range i).map fun j => (keyI L j, valI L j)
theorem topL_succ {L : SL} {i : Nat} : topL L (i + 1) = topL L i ++ [(keyI L i, valI L i)] := by unfold topL; rw [List.range_succ, List.map_append]; rfl
theorem topL_len {L : SL} {i : Nat} : (topL L i).length = i := by unfold topL; simp
section
variable {m mr : Mem} {s : Nat} {v : Value} {L : SL}
theorem keyI_mem {i : Nat} (hi : i < L.length) : keyI L i ∈ mkeys L := by
  have : i < (isort (mkeys L)).length := by rw [isort_len, List.length_map]; exact hi
  unfold keyI
  rw [List.getD_eq_getElem?_getD, List.getElem?_eq_getElem this]
  exact (isort_perm _).mem_iff.1 (List.getElem_mem this)
theorem valI_get {i : Nat} (hi : i < L.length) : mget L (keyI L i) = some (valI L i) := by
  have h := mget_mem (keyI_mem hi)
  unfold valI
  cases hg : mget L (keyI L i) with
  | none => rw [hg] at h; cases h
  | some x => rfl
abbrev lrA (tl : List (Nat × Value)) : ALoop := ⟨.ready, none, T 17 tl, [8, 9], c11_5, c11_8⟩
theorem all_round {M1 M : Mem} {lp o j k : Nat} {tl : List (Nat × Value)} {fl : List Value} {p : Int} {n : BitVec 32} (hF : Fresh M1) (hl : M1.get lp = some (.loop (lrA tl))) (h3 : lk tl 3 = PT o) (ho : o < M1.next) (hol : o ≠ lp) (hI : ColV M1 lp o (lrA tl) 2 k fl M) (hk : k < 1073741824) :
    ∃ u m', RCon EE.P lp [In p, Um n] (M.bump j) u m' ∧ u = .bool true ∧ M.next + j ≤ m'.next ∧ ColV M1 lp o (lrA tl) 2 (k + 1) (fl ++ [In p, Um n]) m' := by
  have hnx := hI.next
  have l1 := hF.lt hl
  have hlo : ¬ lp = o := fun e => hol e.symm
  have Ml := hI.loop
  obtain ⟨co, u, Mo, j1, j2, j3, j4⟩ := hI.out
  have b1 := bld44 (p := p) (n := n)
  have b2 := bs34 (p := p) (n := n)
  refine RCon.of EE_ok (r := lrA tl) (by simp only [Mem.get_bump, Ml]) rfl rfl ?_
  simp only [Mem.next_bump, setAll2, Nat.reduceLT, T_set, w11_5, W_seq, w11_3, Nat.le_refl, bump_bump, X_assign, ev_T, lk_cons, Nat.reduceEqDiff, if_true, if_false, X_nil, thenQ_normal, w11_4, Nat.add_le_add_iff_left, Nat.le_add_right, Nat.add_assoc, Nat.reduceAdd, roundQ1_normal, Mem.get_bump, Ml, loopI_some, put_bump, w11_8, W_block, w11_7, w11_6, Mem.next_put, X_load EE_sym, h3, load1 lay_34, Mem.get_put, hol, Mo, ld1_cells, j2, okI_some, X_move, X_build EE_sym, List.map_cons, List.map_nil, b1, X_bs, b2, X_append, true_and]
  refine hI.app (rb := ⟨.busy, none, T 17 tl, [8, 9], c11_5, c11_8⟩) eo34 (by decide) hol l1 ho hF.n64 Mo j2 rfl rfl ⟨by omega, by omega⟩ ⟨by omega, by omega⟩ (by omega) (by omega) fun b' c' M' hMl hMo hcn hMn hold hfin => ?_
  have n3 : M.next ≤ M'.next := by omega
  have n9 : M.next + j ≤ M'.next := by omega
  have n10 : M.next + (j + 2) ≤ M'.next := by omega
  simp only [Nat.reduceLT, T_set, X_store, ev_T, lk_cons, Nat.reduceEqDiff, h3, if_false, if_true, store1 sz_34, hMo, cells_slice, st1_cells, List.length_cons, List.length_nil, Nat.zero_add, hcn, Nat.le_refl, List.all_cons, oneCell, List.all_nil, Bool.and_self, and_self, okI_some, X_nil, Mem.next_bump, blockQ_normal, roundQ2_normal, Mem.next_put, n10, Mem.get_put, hlo, hMl, loopI_some, n9, true_and]
  exact ⟨(hfin 0).2 j (by omega) (by omega), (hfin 0).1⟩
theorem all_cols {lp c o zc : Nat} {tl : List (Nat × Value)} {co0 : Cells} (hmr : Fresh mr) (hl : mr.get lp = some (.loop (lrA tl))) (h3 : lk tl 3 = PT o) (hc : mr.get c = some (.cells (Cells.ofList [PT s]) true zc))
    (ho : mr.get o = some (.cells co0 true 0)) (hn0 : co0.n = 1) (hn1 : co0.nth 0 = some (.slice none 0 0)) (hco : c ≠ o) (hso : s ≠ o) (h : SAt mr s v L) (hw : wfL L) (hlen : L.length < 1000000) :
    ∃ u m2, Con EE.P 26 [.func (.yield lp) #[] #[], PT c] mr u m2 ∧ ∃ M1, Nx mr M1 ∧ ColV M1 lp o (lrA tl) 2 L.length (pl (topL L L.length)) m2 := by
  have l1 := hmr.lt hl
  have l2 := hmr.lt ho
  have hol : o ≠ lp := fun e => by rw [e, hl] at ho; cases ho
  refine all_it hmr hl hc h hw (by omega) l2 (by rw [ho]; simp) hco hso (fun M1 i M => ColV M1 lp o (lrA tl) 2 i (pl (topL L i)) M) (fun M1 hn => ?_) (fun M1 i M j hI => hI.bump j) (fun M1 i M hn hI => ⟨hI.next, hI.low, fun y hy y1 y2 _ => hI.old y hy y1 y2⟩) (fun M1 i M b hn hb hi hI => ⟨L, ?_, valI_get hi⟩) (fun M1 i M j hn hi hI => ?_)
  · exact ColV.start hn.fresh (hn.keep hmr hl) (hn.keep hmr ho) hn0 hn1
  · rcases h.mp with ⟨rfl, _⟩ | ⟨b', rfl, h4⟩
    · cases hb
    · cases hb
      have hbl := hmr.lt h4
      rw [hI.old b (Nat.lt_of_lt_of_le hbl hn.next) (fun e => by rw [e, ho] at h4; cases h4) (fun e => by rw [e, hl] at h4; cases h4), hn.old b hbl, h4]
  · obtain ⟨u, m', g1, g2, g3, g4⟩ := all_round (j := j) (p := keyI L i) (n := valI L i) hn.fresh (hn.keep hmr hl) h3 (Nat.lt_of_lt_of_le l2 hn.next) hol hI (by omega)
    exact ⟨u, m', g1, g2, g3, by rw [topL_succ, pl_snoc]; exact g4⟩
theorem all_ok (h : SAt m s v L) (hm : Fresh m) (hw : wfL L) (hlen : L.length < 1000000) : ∃ u m', Con EE.P 11 [PT s] m u m' ∧ NewV m m' 2 u L.length (pl (topL L L.length)) := by
  refine Con.raw EE_ok fn11 (Nat.le_of_ble_eq_true rfl) _ ?_
  obtain ⟨cs, h1, h2, h3⟩ := h.at_
  have hs := h.lt hm
  simp only [f11, enumV, w11, W_seq, w11_0, Nat.le_refl, X_assign, ev_const, Nat.reduceLT, T_set, X_nil, thenQ_normal, w11_1, Mem.next_bump, Nat.le_add_right, bump_bump, Nat.reduceAdd, X_alloc, zero_34, okI_some, Nat.add_zero, put_bump, w11_2, Mem.next_put, X_move, ev_T, lk_cons, Nat.reduceEqDiff, if_true, if_false, X_call ca_24, List.map_cons, List.map_nil, true_and]
  refine CallI.con0 (allseq_ok (by simp only [Mem.get_bump, Mem.get_put, ne_new hs, if_false]; exact h1)) ?_
  simp only [Mem.next_bump, Mem.next_put, put_bump, bump_bump, Nat.reduceAdd, putT, Nat.reduceLT, T_set, X_nil, thenQ_normal, W_block, w11_9]
  refine W_rfnx (l' := [(3, PT (m.next + 1))]) (R := fun _ m2 => ∃ M1, Nx (((((m.put (m.next + 1) (.cells (Cells.ofList [.slice none 0 0]) true 0)).put (m.next + 4) (.cells (Cells.ofList [PT s]) true 0)).bump 5).put (m.next + 5) (.loop (lrA _))).bump 1) M1 ∧ ColV M1 (m.next + 5) (m.next + 1) (lrA _) 2 L.length (pl (topL L L.length)) m2) [] [PT (m.next + 4)] (by simp only [Mem.next_bump, Mem.next_put]; omega) (by simp only [ev_T, lk_cons, Nat.reduceLT, Nat.reduceEqDiff, reduceIte]) ca_26
    (all_cols (co0 := Cells.ofList [.slice none 0 0]) (zc := 0) (s := s) (v := v) (L := L) ?_ get_eq_b rfl (by simp only [Mem.get_bump, Mem.get_put, show ¬ m.next + 4 = m.next + 5 by omega, Mem.next_bump, Mem.next_put, if_false, if_true]) (by simp only [Mem.get_bump, Mem.get_put, Mem.next_bump, Mem.next_put, show ¬ m.next + 1 = m.next + 5 by omega, show ¬ m.next + 1 = m.next + 4 by omega, if_false, if_true]) rfl rfl (by omega) (by omega) (h.keep ?_ fun b hb => ?_) hw hlen) (fun p hp => ?_) (fun _ m2 hI => ?_)
  · exact Fresh.of_low (by have := hm.n64; (try simp only [Mem.next_bump, Mem.next_put]); omega) (by repeat (first | exact Low.of hm (by (try simp only [Mem.next_bump, Mem.next_put]); omega) | refine Low.put ?_ (by (try simp only [Mem.next_bump, Mem.next_put]); omega) | refine Low.bump ?_))
  · simp only [Mem.get_bump, Mem.get_put, ne_new hs, Mem.next_bump, Mem.next_put, if_false]
  · have hbl := (h.ltb hm hb).1
    simp only [Mem.get_bump, Mem.get_put, ne_new hbl, Mem.next_bump, Mem.next_put, if_false]
  · simp only [List.mem_singleton] at hp
    subst hp
    exact rv_ptr (.inl ⟨rfl, by simp only [Mem.next_bump, Mem.next_put]; omega⟩)
  · obtain ⟨M1, hn, hI⟩ := hI
    have n1 := hn.next
    simp only [Mem.next_bump, Mem.next_put] at n1
    have n2 := hI.next
    obtain ⟨co, u, k1, k2, k3, k4, k5⟩ := hI.out
    have k6 : ¬ m.next + 1 = m.next + 5 := by omega
    refine rfnQ_normal hI.loop ?_
    have n2' : m.next ≤ m2.next := by omega
    have hl := hI.loop
    simp only [Mem.next_bump, Mem.next_put, blockQ_normal, thenQ_normal, W_seq, w11_10, n2', X_load EE_sym, Nat.reduceLT, ev_T, lk_cons, if_true, load1 lay_34, Mem.get_bump, Mem.get_put, k6, k1, if_false, ld1_cells, k3, okI_some, T_set, X_assign, Nat.reduceEqDiff, X_nil, W_ret, FinX_ret, resA_tmp, T_get, resA_nil, Option.map_some, oneOr1, true_and]
    have hnn : ∀ o j, Nx m ((m2.put (m.next + 5) o).bump j) := fun o j => by
      refine ⟨by simp only [Mem.next_bump, Mem.next_put]; omega, Fresh.of_low (by have := hm.n64; simp only [Mem.next_bump, Mem.next_put]; omega) (Low.up (Low.bump (Low.put hI.low (by omega))) (by simp only [Mem.next_bump, Mem.next_put]; omega)), fun y hy => ?_⟩
      simp only [Mem.get_bump, Mem.get_put, show ¬ y = m.next + 5 by omega, if_false]
      rw [hI.old y (by omega) (by omega) (by omega), hn.old y (by simp only [Mem.next_bump, Mem.next_put]; omega)]
      simp only [Mem.get_bump, Mem.get_put, show ¬ y = m.next + 5 by omega, show ¬ y = m.next + 4 by omega, show ¬ y = m.next + 1 by omega, if_false]
    refine ⟨⟨(hnn _ _).next, fun y hy e => by rw [(hnn _ _).old y hy, e]⟩, k4.keep fun y o hy ho => ?_, hnn _ _, fun y hy => ?_⟩
    · have := (k5 y hy).1
      simp only [Mem.get_bump, Mem.get_put, show ¬ y = m.next + 5 by omega, if_false]
      exact ho
    · have := (k5 y hy).1
      omega
end
end
end Go.Ab
/- Sleep: Tick. -/
namespace Go.Ab
open Go.Proofs
noncomputable section
set_option maxHeartbeats 4000000
set_option maxRecDepth 10000
def il (l : List Int) : List Value := l.map In
theorem il_snoc {l : List Int} {n : Int} : il (l ++ [n]) = il l ++ [In n] := by unfold il; rw [List.map_append]; rfl
/-- A tick, for the first i keys. -/
def tkL (L : SL) : Nat → SL
  | 0 => L
  | i + 1 => if valI L i = 1#32 then mdel (mset (tkL L i) (keyI L i) (valI L i - 1#32)) (keyI L i) else mset (tkL L i) (keyI L i) (valI L i - 1#32)
def wkL (L : SL) : Nat → List Int
  | 0 => []
  | i + 1 => wkL L i ++ (if valI L i = 1#32 then [keyI L i] else [])
theorem wkL_len {L : SL} : ∀ {i : Nat}, (wkL L i).length ≤ i
  | 0 => Nat.le_refl _
  | i + 1 => by
    have := wkL_len (L := L) (i := i)
    unfold wkL
    rw [List.length_append]
    split
    · simp only [List.length_cons, List.length_nil]; omega
    · simp only [List.length_nil]; omega
theorem nodup_tk {L : SL} (h : (mkeys L).Nodup) : ∀ {i : Nat}, (mkeys (tkL L i)).Nodup
  | 0 => h
  | i + 1 => by
    have ih := nodup_tk h (i := i)
    unfold tkL
    split
    · exact nodup_del (nodup_set ih)
    · exact nodup_set ih
theorem key_ne {L : SL} (h : (mkeys L).Nodup) {i j : Nat} (hi : i < L.length) (hj : j < L.length) (hij : i ≠ j) : keyI L i ≠ keyI L j := by
  have hn : (isort (mkeys L)).Nodup := (isort_perm _).nodup_iff.2 h
  have l1 : i < (isort (mkeys L)).length := by rw [isort_len, List.length_map]; exact hi
  have l2 : j < (isort (mkeys L)).length := by rw [isort_len, List.length_map]; exact hj
  unfold keyI
  rw [List.getD_eq_getElem?_getD, List.getElem?_eq_getElem l1, List.getD_eq_getElem?_getD, List.getElem?_eq_getElem l2]
  intro e
  exact hij ((List.getElem_inj hn).1 e)
theorem tk_get {L : SL} (h : (mkeys L).Nodup) {i : Nat} {q : Int} (hq : ∀ j, j < i → q ≠ keyI L j) : mget (tkL L i) q = mget L q := by
  induction i with
  | zero => rfl
  | succ i ih =>
    have h1 := ih fun j hj => hq j (by omega)
    have h2 := hq i (by omega)
    unfold tkL
    split
    · rw [mget_del h2, mget_set, if_neg h2, h1]
    · rw [mget_set, if_neg h2, h1]
section
variable {m mr : Mem} {s : Nat} {v : Value} {L : SL}
theorem bin_subU1 {P : Program} {ty : TypeId} {a : BitVec 32} : binV P .sub ty (Um a) (.int .u32 1) = some (Um (a - 1#32)) :=
  (hold_sub_u32 (P := P) (ds := []) (t := ty) (x := U a) (y := U 1#32) (v := U (a - 1#32)) rfl rfl rfl rfl).2
abbrev lrT (tl : List (Nat × Value)) : ALoop := ⟨.ready, none, T 29 tl, [8, 9], c12_5, c12_12⟩
theorem tick_round {Mb M : Mem} {lp o bx b j k zx : Nat} {tl : List (Nat × Value)} {fl : List Value} {p : Int} {n : BitVec 32} {L' : SL} {cs : Cells} (hF : Fresh Mb) (hl : Mb.get lp = some (.loop (lrT tl))) (h3 : lk tl 3 = PT o) (h1 : lk tl 1 = PT bx) (ho : o < Mb.next) (hol : o ≠ lp)
    (hbx : Mb.get bx = some (.cells (Cells.ofList [PT s]) true zx)) (hs : Mb.get s = some (.cells cs true 0)) (hcs : cs.nth 0 = some (.map (some b))) (hb : Mb.get b = some (.map (ml Um L') true)) (hxo : bx ≠ o) (hso : s ≠ o) (hbo : b ≠ o) (hI : ColV Mb lp o (lrT tl) 1 k fl M) (hk : k < 1073741824) :
    ∃ u m', RCon EE.P lp [In p, Um n] (M.bump j) u m' ∧ u = .bool true ∧ M.next + j ≤ m'.next ∧
      (n = 1#32 → ColV (Mb.put b (.map (ml Um (mdel (mset L' p (n - 1#32)) p)) true)) lp o (lrT tl) 1 (k + 1) (fl ++ [In p]) m') ∧ (n ≠ 1#32 → ColV (Mb.put b (.map (ml Um (mset L' p (n - 1#32))) true)) lp o (lrT tl) 1 k fl m') := by
  have hnx := hI.next
  have l1 := hF.lt hl
  have l2 := hF.lt hb
  have hlo : ¬ lp = o := fun e => hol e.symm
  have hxl : bx ≠ lp := fun e => by rw [e, hl] at hbx; cases hbx
  have hsl : s ≠ lp := fun e => by rw [e, hl] at hs; cases hs
  have hbl : b ≠ lp := fun e => by rw [e, hl] at hb; cases hb
  have hxb : bx ≠ b := fun e => by rw [e, hb] at hbx; cases hbx
  have hsb : s ≠ b := fun e => by rw [e, hb] at hs; cases hs
  have Ml := hI.loop
  have Mx : M.get bx = some (.cells (Cells.ofList [PT s]) true zx) := by rw [hI.old bx (hF.lt hbx) hxo hxl, hbx]
  have Ms : M.get s = some (.cells cs true 0) := by rw [hI.old s (hF.lt hs) hso hsl, hs]
  have Mbb : M.get b = some (.map (ml Um L') true) := by rw [hI.old b l2 hbo hbl, hb]
  obtain ⟨co, u, Mo, j1, j2, j3, j4⟩ := hI.out
  have b2 := bs36 (p := p)
  have hlb : ¬ lp = b := fun e => hbl e.symm
  have hob : ¬ o = b := fun e => hbo e.symm
  refine RCon.of EE_ok (r := lrT tl) (by simp only [Mem.get_bump, Ml]) rfl rfl ?_
  have hn : decide (((n.toNat : Nat) : Int) = 1) = decide (n = 1#32) := decide_eq_decide.2 ⟨fun h => BitVec.eq_of_toNat_eq (by simp; omega), fun h => by rw [h]; decide⟩
  by_cases n1 : n = 1#32
  · rw [decide_eq_true n1] at hn
    simp only [Mem.next_bump, setAll2, Nat.reduceLT, T_set, w12_5, W_seq, w12_3, Nat.le_refl, bump_bump, X_assign, ev_T, lk_cons, Nat.reduceEqDiff, if_true, if_false, X_nil, ne_eq, thenQ_normal, w12_4, Nat.add_le_add_iff_left, Nat.le_add_right, Nat.add_assoc, Nat.reduceAdd, roundQ1_normal, Mem.get_bump, Ml, loopI_some, put_bump, w12_12, W_block, w12_11, w12_6, Mem.next_put, X_load EE_sym, h1, load1 lay_24, Mem.get_put, hxl, Mx, ld1_cells, nth_ofList, List.getElem?_cons_zero, okI_some, X_nilCheck EE_sym, nilV_ptr, X_fieldAddr EE_sym fo_27_0, offV_ptr, Nat.add_zero, load1 lay_25, hsl, Ms, hcs, X_move, X_bin EE_sym (op := .sub) rfl, ev_const, bin_subU1, X_mapUpdate, ms_at, hbl, Mbb, msC_ml, w12_7, Nat.reduceLeDiff, X_eql EE_sym, eq_int, hn, W_cond, CDi_t, w12_10, w12_8, hxb, hsb, X_delete, md_at, mdC_ml, putT, w12_9, h3, load1 lay_36, hob, hol, Mo, j2, X_bs, List.map_cons, List.map_nil, b2, X_append, true_and]
    have hW := hI.wr (X := .map (ml Um (mdel (mset L' p (n - 1#32)) p)) true) l2 hbo hbl
    have e1 : ∀ k, ¬ b = M.next + k := fun k => by omega
    have e2 : ∀ k, ¬ lp = M.next + k := fun k => by omega
    refine hW.app2 (rb := ⟨.busy, none, T 29 tl, [8, 9], c12_5, c12_12⟩) (j := j + 23) eo36 (by decide) hol (by rw [Mem.next_put]; exact l1) (by rw [Mem.next_put]; exact ho) (by rw [Mem.next_put]; exact hF.n64) (by rw [Mem.get_put, if_neg hob]; exact Mo) j2 (new := [In p]) rfl rfl (by simp only [Mem.get_bump, Mem.get_put, e2, hlb, if_false, if_true]) (by simp only [Mem.get_bump, Mem.get_put, if_true]) (fun y y1 y2 => ?_) (by simp only [Mem.next_bump, Mem.next_put]) ⟨by rw [Mem.next_put]; omega, by rw [Mem.next_put]; omega⟩ ⟨by rw [Mem.next_put]; omega, by rw [Mem.next_put]; omega⟩ (by omega) (by omega) fun b' c' M' hMl hMo hcn hMn hold hfin => ?_
    · simp only [Mem.get_bump, Mem.get_put, y1, y2, if_false]
      split <;> rfl
    rw [Mem.next_put] at hMn
    have n3 : M.next ≤ M'.next := by omega
    have n9 : M.next + j ≤ M'.next := by omega
    have n10 : M.next + (j + 18) ≤ M'.next := by omega
    simp only [Nat.reduceLT, T_set, X_store, ev_T, lk_cons, Nat.reduceEqDiff, h3, if_false, if_true, store1 sz_36, hMo, cells_slice, st1_cells, List.length_cons, List.length_nil, Nat.zero_add, hcn, Nat.le_refl, List.all_cons, oneCell, List.all_nil, Bool.and_self, and_self, okI_some, X_nil, blockQ_normal, roundQ2_normal, Mem.next_put, Mem.get_put, hlo, hMl, loopI_some, n9, true_and]
    have hG := (hfin 0).2 j (by rw [Mem.next_put]; omega) (by rw [Mem.next_put]; omega)
    refine ⟨by omega, ⟨hG.1, fun y hy e => hG.2 y hy ?_⟩, fun _ => (hfin 0).1, fun e => absurd n1 e⟩
    rw [Mem.get_bump] at e ⊢
    rw [Mem.get_put, if_neg fun e2 => by (rw [e2, Mbb] at e; cases e), e]
  · rw [decide_eq_false n1] at hn
    simp only [Mem.next_bump, setAll2, Nat.reduceLT, T_set, w12_5, W_seq, w12_3, Nat.le_refl, bump_bump, X_assign, ev_T, lk_cons, Nat.reduceEqDiff, if_true, if_false, X_nil, ne_eq, thenQ_normal, w12_4, Nat.add_le_add_iff_left, Nat.le_add_right, Nat.add_assoc, Nat.reduceAdd, roundQ1_normal, Mem.get_bump, Ml, loopI_some, put_bump, w12_12, W_block, w12_11, w12_6, Mem.next_put, X_load EE_sym, h1, load1 lay_24, Mem.get_put, hxl, Mx, ld1_cells, nth_ofList, List.getElem?_cons_zero, okI_some, X_nilCheck EE_sym, nilV_ptr, X_fieldAddr EE_sym fo_27_0, offV_ptr, Nat.add_zero, load1 lay_25, hsl, Ms, hcs, X_move, X_bin EE_sym (op := .sub) rfl, ev_const, bin_subU1, X_mapUpdate, ms_at, hbl, Mbb, msC_ml, w12_7, Nat.reduceLeDiff, X_eql EE_sym, eq_int, hn, W_cond, CDi_f, W_skip, blockQ_normal, roundQ2_normal, hlb, true_and]
    have hW := hI.wr (X := .map (ml Um (mset L' p (n - 1#32))) true) l2 hbo hbl
    refine ⟨⟨by simp only [Mem.next_bump, Mem.next_put]; omega, fun y hy e => ?_⟩, fun e => absurd e n1, fun _ => (hW.bump (j + 12)).alike (by simp only [Mem.next_bump, Mem.next_put]) fun y => ?_⟩
    · rw [Mem.get_bump] at e
      have y1 : y ≠ lp := fun e2 => by rw [e2, Ml] at e; cases e
      have y2 : y ≠ b := fun e2 => by rw [e2, Mbb] at e; cases e
      simp only [Mem.get_bump, Mem.get_put, y1, y2, if_false, e]
    · simp only [Mem.get_bump, Mem.get_put]
      by_cases y1 : y = lp
      · rw [y1, if_pos rfl, if_neg hlb, Ml]
      · rw [if_neg y1, if_neg y1]
/-- The base, when i keys have ticked. -/
def tkB (M1 : Mem) (v : Value) (L : SL) (i : Nat) : Mem := match mB v with
  | some b => M1.put b (.map (ml Um (tkL L i)) true)
  | none => M1
theorem tkB_next {M1 : Mem} {i : Nat} : (tkB M1 v L i).next = M1.next := by unfold tkB; split <;> rfl
theorem tick_cols {lp c o bx zc : Nat} {tl : List (Nat × Value)} {co0 : Cells} (hmr : Fresh mr) (hl : mr.get lp = some (.loop (lrT tl))) (h3 : lk tl 3 = PT o) (h1 : lk tl 1 = PT bx) (hc : mr.get c = some (.cells (Cells.ofList [PT s]) true zc))
    (hbx : mr.get bx = some (.cells (Cells.ofList [PT s]) true 0)) (ho : mr.get o = some (.cells co0 true 0)) (hn0 : co0.n = 1) (hn1 : co0.nth 0 = some (.slice none 0 0)) (hco : c ≠ o) (hso : s ≠ o) (hxo : bx ≠ o) (h : SAt mr s v L) (hw : wfL L) (hnd : (mkeys L).Nodup) (hlen : L.length < 1000000) :
    ∃ u m2, Con EE.P 26 [.func (.yield lp) #[] #[], PT c] mr u m2 ∧ ∃ M1, Nx mr M1 ∧ ColV (tkB M1 v L L.length) lp o (lrT tl) 1 (wkL L L.length).length (il (wkL L L.length)) m2 := by
  have l1 := hmr.lt hl
  have l2 := hmr.lt ho
  have hol : o ≠ lp := fun e => by rw [e, hl] at ho; cases ho
  obtain ⟨cs, s1, s2, s3⟩ := h.at_
  refine all_it hmr hl hc h hw (by omega) l2 (by rw [ho]; simp) hco hso (fun M1 i M => ColV (tkB M1 v L i) lp o (lrT tl) 1 (wkL L i).length (il (wkL L i)) M) (fun M1 hn => ?_) (fun M1 i M j hI => hI.bump j) (fun M1 i M hn hI => ⟨by rw [← tkB_next (v := v) (L := L) (i := i)]; exact hI.next, hI.low, fun y hy y1 y2 y3 => ?_⟩) (fun M1 i M b hn hb hi hI => ⟨tkL L i, ?_, ?_⟩) (fun M1 i M j hn hi hI => ?_)
  · have hS := ColV.start (r := lrT tl) (sz := 1) hn.fresh (hn.keep hmr hl) (hn.keep hmr ho) hn0 hn1
    rcases h.mp with ⟨rfl, rfl⟩ | ⟨b, rfl, h4⟩
    · exact hS
    · have hbl := hmr.lt h4
      have q4 := hn.keep hmr h4
      have hbo : b ≠ o := fun e => by rw [e, ho] at h4; cases h4
      have hblp : b ≠ lp := fun e => by rw [e, hl] at h4; cases h4
      refine (hS.wr (X := .map (ml Um L) true) (Nat.lt_of_lt_of_le hbl hn.next) hbo hblp).alike (by rw [Mem.next_put]) fun y => ?_
      rw [Mem.get_put]
      split
      · rename_i e; rw [e, q4]
      · rfl
  · have := hI.old y (by rw [tkB_next]; exact hy) y1 y2
    rw [this]
    unfold tkB
    rcases h.mp with ⟨rfl, rfl⟩ | ⟨b, rfl, h4⟩
    · rfl
    · show (M1.put b _).get y = _
      rw [Mem.get_put, if_neg fun e => y3 (by rw [e]; rfl)]
  · rcases h.mp with ⟨rfl, _⟩ | ⟨b', rfl, h4⟩
    · cases hb
    · cases hb
      have hbl := hmr.lt h4
      have hbo : b ≠ o := fun e => by rw [e, ho] at h4; cases h4
      have hblp : b ≠ lp := fun e => by rw [e, hl] at h4; cases h4
      rw [hI.old b (by rw [tkB_next]; exact Nat.lt_of_lt_of_le hbl hn.next) hbo hblp]
      show (M1.put b _).get b = _
      rw [Mem.get_put, if_pos rfl]
  · rw [tk_get hnd (fun j hj => key_ne hnd hi (by omega) (by omega)), valI_get hi]
  · rcases h.mp with ⟨_, e⟩ | ⟨b, rfl, h4⟩
    · rw [e] at hi; exact absurd hi (Nat.not_lt_zero _)
    have hbl := hmr.lt h4
    have hbo : b ≠ o := fun e => by rw [e, ho] at h4; cases h4
    have hblp : b ≠ lp := fun e => by rw [e, hl] at h4; cases h4
    have hT : tkB M1 (.map (some b)) L i = M1.put b (.map (ml Um (tkL L i)) true) := rfl
    have hbs : b ≠ s := fun e => by rw [e, s1] at h4; cases h4
    have hbbx : b ≠ bx := fun e => by rw [e, hbx] at h4; cases h4
    have hF : Fresh (M1.put b (.map (ml Um (tkL L i)) true)) := by
      refine Fresh.of_low (by rw [Mem.next_put]; have := hn.fresh.n64; omega) ?_
      rw [Mem.next_put]
      exact Low.put hn.fresh.none (Nat.lt_of_lt_of_le hbl hn.next)
    rw [hT] at hI
    obtain ⟨u, m', g1, g2, g3, g4, g5⟩ := tick_round (j := j) (p := keyI L i) (n := valI L i) hF (by rw [Mem.get_put, if_neg (Ne.symm hblp)]; exact hn.keep hmr hl) h3 h1 (by rw [Mem.next_put]; exact Nat.lt_of_lt_of_le l2 hn.next) hol (zx := 0) (s := s)
      (by rw [Mem.get_put, if_neg (Ne.symm hbbx)]; exact hn.keep hmr hbx) (by rw [Mem.get_put, if_neg (Ne.symm hbs)]; exact hn.keep hmr s1) s3 (by rw [Mem.get_put, if_pos rfl]) hxo hso hbo hI (by have := wkL_len (L := L) (i := i); omega)
    refine ⟨u, m', g1, g2, g3, ?_⟩
    show ColV (M1.put b (.map (ml Um (tkL L (i + 1))) true)) lp o (lrT tl) 1 (wkL L (i + 1)).length (il (wkL L (i + 1))) m'
    have hput : ∀ (X Y : AObj) y, (M1.put b Y).get y = ((M1.put b X).put b Y).get y := fun X Y y => by
      rw [Mem.get_put, Mem.get_put, Mem.get_put]
      split <;> rfl
    by_cases n1 : valI L i = 1#32
    · have e1 : tkL L (i + 1) = mdel (mset (tkL L i) (keyI L i) (valI L i - 1#32)) (keyI L i) := by rw [tkL, if_pos n1]
      have e2 : wkL L (i + 1) = wkL L i ++ [keyI L i] := by rw [wkL, if_pos n1]
      rw [e1, e2, List.length_append, il_snoc]
      exact (g4 n1).base rfl (hput _ _)
    · have e1 : tkL L (i + 1) = mset (tkL L i) (keyI L i) (valI L i - 1#32) := by rw [tkL, if_neg n1]
      have e2 : wkL L (i + 1) = wkL L i := by rw [wkL, if_neg n1, List.append_nil]
      rw [e1, e2]
      exact (g5 n1).base rfl (hput _ _)
theorem tick_ok (h : SAt m s v L) (hm : Fresh m) (hw : wfL L) (hnd : (mkeys L).Nodup) (hlen : L.length < 1000000) :
    ∃ u m', Con EE.P 12 [PT s] m u m' ∧ SlV m' 1 u (wkL L L.length).length (il (wkL L L.length)) ∧ (∀ y, slB u = some y → m.next ≤ y) ∧ SAt m' s v (tkL L L.length) ∧ FrS m m' s v v := by
  refine Con.raw EE_ok fn12 (Nat.le_of_ble_eq_true rfl) _ ?_
  obtain ⟨cs, h1, h2, h3⟩ := h.at_
  have hs := h.lt hm
  simp only [f12, enumV, w12, W_seq, w12_0, Nat.le_refl, X_box, Nat.reduceLT, ev_T, lk_cons, if_true, box_ptr, okI_some, Nat.add_zero, T_set, put_bump, X_assign, ev_const, X_nil, thenQ_normal, w12_1, Mem.next_bump, Mem.next_put, Nat.le_add_right, bump_bump, Nat.reduceAdd, X_alloc, zero_36, w12_2, X_load EE_sym, Nat.reduceEqDiff, if_false, load1 lay_24, Mem.get_bump, Mem.get_put, Nat.left_eq_add, ld1_cells, nth_ofList, List.getElem?_cons_zero, X_call ca_24, List.map_cons, List.map_nil, true_and]
  refine CallI.con0 (allseq_ok (by simp only [Mem.get_bump, Mem.get_put, ne_new hs, ne_new0 hs, if_false]; exact h1)) ?_
  simp only [Mem.next_bump, Mem.next_put, put_bump, bump_bump, Nat.reduceAdd, putT, Nat.reduceLT, T_set, X_nil, thenQ_normal, W_block, w12_13]
  refine W_rfnx (l' := [(3, PT (m.next + 2))]) (R := fun _ m2 => ∃ M1, Nx ((((((m.put m.next (.cells (Cells.ofList [PT s]) true 0)).put (m.next + 2) (.cells (Cells.ofList [.slice none 0 0]) true 0)).put (m.next + 5) (.cells (Cells.ofList [PT s]) true 0)).bump 6).put (m.next + 6) (.loop (lrT _))).bump 1) M1 ∧ ColV (tkB M1 v L L.length) (m.next + 6) (m.next + 2) (lrT _) 1 (wkL L L.length).length (il (wkL L L.length)) m2) [] [PT (m.next + 5)] (by simp only [Mem.next_bump, Mem.next_put]; omega) (by simp only [ev_T, lk_cons, Nat.reduceLT, Nat.reduceEqDiff, reduceIte]) ca_26
    (tick_cols (co0 := Cells.ofList [.slice none 0 0]) (zc := 0) (bx := m.next) (s := s) (v := v) (L := L) ?_ get_eq_b rfl rfl (by simp only [Mem.get_bump, Mem.get_put, show ¬ m.next + 5 = m.next + 6 by omega, Mem.next_bump, Mem.next_put, if_false, if_true]) (by simp only [Mem.get_bump, Mem.get_put, Mem.next_bump, Mem.next_put, show ¬ m.next = m.next + 6 by omega, show ¬ m.next = m.next + 5 by omega, show ¬ m.next = m.next + 2 by omega, if_false, if_true]) (by simp only [Mem.get_bump, Mem.get_put, Mem.next_bump, Mem.next_put, show ¬ m.next + 2 = m.next + 6 by omega, show ¬ m.next + 2 = m.next + 5 by omega, if_false, if_true]) rfl rfl (by omega) (by omega) (by omega) (h.keep ?_ fun b hb => ?_) hw hnd hlen) (fun p hp => ?_) (fun _ m2 hI => ?_)
  · exact Fresh.of_low (by have := hm.n64; (try simp only [Mem.next_bump, Mem.next_put]); omega) (by repeat (first | exact Low.of hm (by (try simp only [Mem.next_bump, Mem.next_put]); omega) | refine Low.put ?_ (by (try simp only [Mem.next_bump, Mem.next_put]); omega) | refine Low.bump ?_))
  · simp only [Mem.get_bump, Mem.get_put, ne_new hs, ne_new0 hs, Mem.next_bump, Mem.next_put, if_false]
  · have hbl := (h.ltb hm hb).1
    simp only [Mem.get_bump, Mem.get_put, ne_new hbl, ne_new0 hbl, Mem.next_bump, Mem.next_put, if_false]
  · simp only [List.mem_singleton] at hp
    subst hp
    exact rv_ptr (.inl ⟨rfl, by simp only [Mem.next_bump, Mem.next_put]; omega⟩)
  · obtain ⟨M1, hn, hI⟩ := hI
    have n1 := hn.next
    simp only [Mem.next_bump, Mem.next_put] at n1
    have n2 := hI.next
    rw [tkB_next] at n2
    obtain ⟨co, u, k1, k2, k3, k4, k5⟩ := hI.out
    have k6 : ¬ m.next + 2 = m.next + 6 := by omega
    refine rfnQ_normal hI.loop ?_
    have n2' : m.next ≤ m2.next := by omega
    have hl := hI.loop
    simp only [Mem.next_bump, Mem.next_put, blockQ_normal, thenQ_normal, W_seq, w12_14, n2', X_load EE_sym, Nat.reduceLT, ev_T, lk_cons, if_true, load1 lay_36, Mem.get_bump, Mem.get_put, k6, k1, if_false, ld1_cells, k3, okI_some, T_set, X_assign, Nat.reduceEqDiff, X_nil, W_ret, FinX_ret, resA_tmp, T_get, resA_nil, Option.map_some, oneOr1, true_and]
    have hold : ∀ y, y < m.next → mB v ≠ some y → m2.get y = m.get y := fun y hy y3 => by
      rw [hI.old y (by rw [tkB_next]; omega) (by omega) (by omega)]
      have e1 : (tkB M1 v L L.length).get y = M1.get y := by
        unfold tkB
        split
        · rename_i b e
          rw [Mem.get_put, if_neg fun e2 => y3 (by rw [e, e2])]
        · rfl
      rw [e1, hn.old y (by simp only [Mem.next_bump, Mem.next_put]; omega)]
      simp only [Mem.get_bump, Mem.get_put, show ¬ y = m.next + 6 by omega, show ¬ y = m.next + 5 by omega, show ¬ y = m.next + 2 by omega, show ¬ y = m.next by omega, if_false]
    have hFr : ∀ o j, FrS m ((m2.put (m.next + 6) o).bump j) s v v := fun o j => by
      refine ⟨by simp only [Mem.next_bump, Mem.next_put]; omega, Fresh.of_low (by have := hm.n64; simp only [Mem.next_bump, Mem.next_put]; omega) (Low.up (Low.bump (Low.put hI.low (by omega))) (by simp only [Mem.next_bump, Mem.next_put]; omega)), fun y hy _ y3 => ?_, fun b hb => .inl hb, fun y hy e => ?_⟩
      · simp only [Mem.get_bump, Mem.get_put, show ¬ y = m.next + 6 by omega, if_false]
        exact hold y hy y3
      · have y3 : mB v ≠ some y := fun e2 => by
          rcases h.mp with ⟨rfl, _⟩ | ⟨b, rfl, h4⟩
          · cases e2
          · cases e2; rw [h4] at e; cases e
        simp only [Mem.get_bump, Mem.get_put, show ¬ y = m.next + 6 by omega, if_false]
        rw [hold y hy y3, e]
    refine (hFr _ _).raw ⟨k4.keep fun y o hy ho => ?_, fun y hy => ?_, ⟨⟨cs, ?_, h2, h3⟩, ?_⟩, hFr _ _⟩
    · have := (k5 y hy).1
      rw [tkB_next] at this
      simp only [Mem.get_bump, Mem.get_put, show ¬ y = m.next + 6 by omega, if_false]
      exact ho
    · have := (k5 y hy).1
      rw [tkB_next] at this
      omega
    · simp only [Mem.get_bump, Mem.get_put, show ¬ s = m.next + 6 by omega, if_false]
      rw [hold s hs fun e => (h.ltb hm e).2 rfl, h1]
    · rcases h.mp with ⟨rfl, rfl⟩ | ⟨b, rfl, h4⟩
      · exact .inl ⟨rfl, rfl⟩
      · refine .inr ⟨b, rfl, ?_⟩
        have hbl := hm.lt h4
        simp only [Mem.get_bump, Mem.get_put, show ¬ b = m.next + 6 by omega, if_false]
        rw [hI.old b (by rw [tkB_next]; omega) (by omega) (by omega)]
        show (M1.put b _).get b = _
        rw [Mem.get_put, if_pos rfl]
end
end
end Go.Ab
/- Sleep: Next. -/
namespace Go.Ab
open Go.Proofs
noncomputable section
set_option maxHeartbeats 4000000
set_option maxRecDepth 10000
/-- The least that is left, of the first i. -/
def minU (L : SL) : Nat → BitVec 32
  | 0 => 0#32
  | i + 1 => if minU L i = 0#32 ∨ (valI L i).toNat < (minU L i).toNat then valI L i else minU L i
section
variable {m mr : Mem} {s : Nat} {v : Value} {L : SL}
abbrev lrN (tl : List (Nat × Value)) : ALoop := ⟨.ready, none, T 22 tl, [9, 10], c14_4, c14_9⟩
structure MinI (M1 : Mem) (lp o : Nat) (tl : List (Nat × Value)) (x : BitVec 32) (M : Mem) : Prop where
  next : M1.next ≤ M.next
  low : Low M M.next
  old : ∀ y, y < M1.next → y ≠ o → y ≠ lp → M.get y = M1.get y
  loop : M.get lp = some (.loop (lrN tl))
  out : ∃ co, M.get o = some (.cells co true 0) ∧ co.n = 1 ∧ co.nth 0 = some (Um x)
theorem MinI.bump {M1 M : Mem} {lp o : Nat} {tl : List (Nat × Value)} {x : BitVec 32} (h : MinI M1 lp o tl x M) (j : Nat) : MinI M1 lp o tl x (M.bump j) :=
  ⟨by rw [Mem.next_bump]; exact Nat.le_add_right_of_le h.next, Low.up (Low.bump h.low) (by rw [Mem.next_bump]; omega), h.old, h.loop, h.out⟩
theorem min_round {M1 M : Mem} {lp o j : Nat} {tl : List (Nat × Value)} {x n : BitVec 32} {p : Int} (hF : Fresh M1) (hl : M1.get lp = some (.loop (lrN tl))) (h4 : lk tl 4 = PT o) (ho : o < M1.next) (hol : o ≠ lp) (hI : MinI M1 lp o tl x M) :
    ∃ u m', RCon EE.P lp [In p, Um n] (M.bump j) u m' ∧ u = .bool true ∧ M.next + j ≤ m'.next ∧ MinI M1 lp o tl (if x = 0#32 ∨ n.toNat < x.toNat then n else x) m' := by
  have hnx := hI.next
  have l1 := hF.lt hl
  have hlo : ¬ lp = o := fun e => hol e.symm
  have Ml := hI.loop
  obtain ⟨co, Mo, j1, j2⟩ := hI.out
  have e0 : ∀ b, ¬ lp = M.next + b := fun b => by omega
  refine RCon.of EE_ok (r := lrN tl) (by simp only [Mem.get_bump, Ml]) rfl rfl ?_
  have hx : decide (((x.toNat : Nat) : Int) = 0) = decide (x = 0#32) := decide_eq_decide.2 ⟨fun h => BitVec.eq_of_toNat_eq (by simp; omega), fun h => by rw [h]; decide⟩
  have hlt : decide (((n.toNat : Nat) : Int) < ((x.toNat : Nat) : Int)) = decide (n.toNat < x.toNat) := decide_eq_decide.2 (by omega)
  have fin1 : ∀ (X : AObj) j2, ∀ y, y ≠ o → y ≠ lp → ((((M.put lp X).put o (.cells (co.write 0 [Um n]) true 0)).put lp (.loop (lrN tl))).bump j2).get y = M.get y := fun X j2 y y1 y2 => by simp only [Mem.get_bump, Mem.get_put, y1, y2, if_false]
  have hgr : ∀ (X : AObj) j2, j ≤ j2 → Grow (M.bump j) ((((M.put lp X).put o (.cells (co.write 0 [Um n]) true 0)).put lp (.loop (lrN tl))).bump j2) := fun X j2 hj => ⟨by simp only [Mem.next_bump, Mem.next_put]; omega, fun y hy e => by
    rw [Mem.get_bump] at e
    rw [fin1 X j2 y (fun e2 => by rw [e2, Mo] at e; cases e) (fun e2 => by rw [e2, Ml] at e; cases e), e]⟩
  have hyes : ∀ (X : AObj) j2, MinI M1 lp o tl n ((((M.put lp X).put o (.cells (co.write 0 [Um n]) true 0)).put lp (.loop (lrN tl))).bump j2) := fun X j2 =>
    ⟨by simp only [Mem.next_bump, Mem.next_put]; omega, Low.up (Low.bump (Low.put (Low.put (Low.put hI.low (by omega)) (by omega)) (by omega))) (by simp only [Mem.next_bump, Mem.next_put]; omega), fun y hy y1 y2 => by rw [fin1 X j2 y y1 y2]; exact hI.old y hy y1 y2, by simp only [Mem.get_bump, Mem.get_put, if_true], _, by simp only [Mem.get_bump, Mem.get_put, hol, if_false, if_true]; rfl, by rw [write_n, j1], nth_write_same (by omega)⟩
  by_cases x0 : x = 0#32
  · rw [decide_eq_true x0] at hx
    rw [if_pos (.inl x0)]
    simp only [Mem.next_bump, setAll2, Nat.reduceLT, T_set, w14_4, w14_3, Nat.le_refl, bump_bump, X_assign, ev_T, lk_cons, Nat.reduceEqDiff, if_false, if_true, X_nil, roundQ1_normal, Nat.add_le_add_iff_left, Nat.le_add_right, Mem.get_bump, Ml, loopI_some, put_bump, w14_9, W_block, w14_8, W_seq, w14_5, Mem.next_put, Nat.add_assoc, Nat.reduceAdd, X_load EE_sym, h4, load1 lay_30, Mem.get_put, hol, Mo, ld1_cells, j2, okI_some, X_eql EE_sym, ev_const, eq_int, hx, X_move, X_guard EE_sym, T_get, GDi_tf, putT, X_pick EE_sym, pickV_bool, thenQ_normal, W_cond, CDi_t, w14_7, w14_6, Nat.reduceLeDiff, X_store, store1 sz_30, cells_int, st1_cells, List.length_cons, List.length_nil, Nat.zero_add, j1, List.all_cons, oneCell, List.all_nil, Bool.and_self, and_self, blockQ_normal, roundQ2_normal, hlo, true_and]
    exact ⟨hgr _ _ (by omega), hyes _ _⟩
  · rw [decide_eq_false x0] at hx
    by_cases n0 : n.toNat < x.toNat
    · rw [decide_eq_true n0] at hlt
      rw [if_pos (.inr n0)]
      simp only [Mem.next_bump, setAll2, Nat.reduceLT, T_set, w14_4, w14_3, Nat.le_refl, bump_bump, X_assign, ev_T, lk_cons, Nat.reduceEqDiff, if_false, if_true, X_nil, roundQ1_normal, Nat.add_le_add_iff_left, Nat.le_add_right, Mem.get_bump, Ml, loopI_some, put_bump, w14_9, W_block, w14_8, W_seq, w14_5, Mem.next_put, Nat.add_assoc, Nat.reduceAdd, X_load EE_sym, h4, load1 lay_30, Mem.get_put, hol, Mo, ld1_cells, j2, okI_some, X_eql EE_sym, ev_const, eq_int, hx, X_move, X_guard EE_sym, T_get, GDi_ff, X_bin EE_sym (op := .lss) rfl, bin_lss, hlt, X_pick EE_sym, pickV_bool, Bool.false_eq_true, thenQ_normal, W_cond, CDi_t, w14_7, w14_6, Nat.reduceLeDiff, X_store, store1 sz_30, cells_int, st1_cells, List.length_cons, List.length_nil, Nat.zero_add, j1, List.all_cons, oneCell, List.all_nil, Bool.and_self, and_self, blockQ_normal, roundQ2_normal, hlo, true_and]
      exact ⟨hgr _ _ (by omega), hyes _ _⟩
    · rw [decide_eq_false n0] at hlt
      rw [if_neg (by rintro (h | h); exact x0 h; exact n0 h)]
      simp only [Mem.next_bump, setAll2, Nat.reduceLT, T_set, w14_4, w14_3, Nat.le_refl, bump_bump, X_assign, ev_T, lk_cons, Nat.reduceEqDiff, if_false, if_true, X_nil, roundQ1_normal, Nat.add_le_add_iff_left, Nat.le_add_right, Mem.get_bump, Ml, loopI_some, put_bump, w14_9, W_block, w14_8, W_seq, w14_5, Mem.next_put, Nat.add_assoc, Nat.reduceAdd, X_load EE_sym, h4, load1 lay_30, Mem.get_put, hol, Mo, ld1_cells, j2, okI_some, X_eql EE_sym, ev_const, eq_int, hx, X_move, X_guard EE_sym, T_get, GDi_ff, X_bin EE_sym (op := .lss) rfl, bin_lss, hlt, X_pick EE_sym, pickV_bool, Bool.false_eq_true, thenQ_normal, W_cond, CDi_f, W_skip, blockQ_normal, roundQ2_normal, Nat.reduceLeDiff, true_and]
      have fin0 : ∀ (X : AObj) j2 y, y ≠ lp → (((M.put lp X).put lp (.loop (lrN tl))).bump j2).get y = M.get y := fun X j2 y y2 => by simp only [Mem.get_bump, Mem.get_put, y2, if_false]
      refine ⟨⟨by simp only [Mem.next_bump, Mem.next_put]; omega, fun y hy e => ?_⟩, by simp only [Mem.next_bump, Mem.next_put]; omega, Low.up (Low.bump (Low.put (Low.put hI.low (by omega)) (by omega))) (by simp only [Mem.next_bump, Mem.next_put]; omega), fun y hy y1 y2 => by rw [fin0 _ _ y y2]; exact hI.old y hy y1 y2, by simp only [Mem.get_bump, Mem.get_put, if_true], co, by rw [fin0 _ _ o hol]; exact Mo, j1, j2⟩
      rw [Mem.get_bump] at e
      rw [fin0 _ _ y (fun e2 => by rw [e2, Ml] at e; cases e), e]
theorem min_all {lp c o zc : Nat} {tl : List (Nat × Value)} {co0 : Cells} (hmr : Fresh mr) (hl : mr.get lp = some (.loop (lrN tl))) (h4 : lk tl 4 = PT o) (hc : mr.get c = some (.cells (Cells.ofList [PT s]) true zc))
    (ho : mr.get o = some (.cells co0 true 0)) (hn0 : co0.n = 1) (hn1 : co0.nth 0 = some (Um 0#32)) (hco : c ≠ o) (hso : s ≠ o) (h : SAt mr s v L) (hw : wfL L) (hlen : L.length < 1000000) :
    ∃ u m2, Con EE.P 26 [.func (.yield lp) #[] #[], PT c] mr u m2 ∧ ∃ M1, Nx mr M1 ∧ MinI M1 lp o tl (minU L L.length) m2 := by
  have l1 := hmr.lt hl
  have l2 := hmr.lt ho
  have hol : o ≠ lp := fun e => by rw [e, hl] at ho; cases ho
  refine all_it hmr hl hc h hw (by omega) l2 (by rw [ho]; simp) hco hso (fun M1 i M => MinI M1 lp o tl (minU L i) M) (fun M1 hn => ?_) (fun M1 i M j hI => hI.bump j) (fun M1 i M hn hI => ⟨hI.next, hI.low, fun y hy y1 y2 _ => hI.old y hy y1 y2⟩) (fun M1 i M b hn hb hi hI => ⟨L, ?_, valI_get hi⟩) (fun M1 i M j hn hi hI => ?_)
  · exact ⟨Nat.le_refl _, hn.fresh.none, fun _ _ _ _ => rfl, hn.keep hmr hl, co0, hn.keep hmr ho, hn0, hn1⟩
  · rcases h.mp with ⟨rfl, _⟩ | ⟨b', rfl, h4⟩
    · cases hb
    · cases hb
      have hbl := hmr.lt h4
      rw [hI.old b (Nat.lt_of_lt_of_le hbl hn.next) (fun e => by rw [e, ho] at h4; cases h4) (fun e => by rw [e, hl] at h4; cases h4), hn.old b hbl, h4]
  · obtain ⟨u, m', g1, g2, g3, g4⟩ := min_round (j := j) (p := keyI L i) (n := valI L i) hn.fresh (hn.keep hmr hl) h4 (Nat.lt_of_lt_of_le l2 hn.next) hol hI
    exact ⟨u, m', g1, g2, g3, g4⟩
theorem next_ok (h : SAt m s v L) (hm : Fresh m) (hw : wfL L) (hlen : L.length < 1000000) : ∃ u m', Con EE.P 14 [PT s] m u m' ∧ u = .tuple [Um (minU L L.length), .bool (decide (minU L L.length ≠ 0#32))].toArray ∧ Nx m m' := by
  refine Con.raw EE_ok fn14 (Nat.le_of_ble_eq_true rfl) _ ?_
  obtain ⟨cs, h1, h2, h3⟩ := h.at_
  have hs := h.lt hm
  simp only [f14, enumV, w14, W_seq, w14_0, Nat.le_refl, X_assign, ev_const, Nat.reduceLT, T_set, X_nil, ne_eq, thenQ_normal, w14_1, Mem.next_bump, Nat.le_add_right, bump_bump, Nat.reduceAdd, X_alloc, zero_30, okI_some, Nat.add_zero, put_bump, X_store, ev_T, lk_cons, Nat.reduceEqDiff, if_false, if_true, store1 sz_30, Mem.get_bump, Mem.get_put, cells_int, st1_cells, List.length_cons, List.length_nil, Nat.zero_add, ofList_n, List.all_cons, oneCell, List.all_nil, Bool.and_self, and_self, w14_2, Mem.next_put, X_move, X_call ca_24, List.map_cons, List.map_nil, true_and]
  refine CallI.con0 (allseq_ok (by simp only [Mem.get_bump, Mem.get_put, ne_new hs, if_false]; exact h1)) ?_
  simp only [Mem.next_bump, Mem.next_put, put_bump, bump_bump, Nat.reduceAdd, putT, Nat.reduceLT, T_set, X_nil, thenQ_normal, W_block, w14_10]
  refine W_rfnx (l' := [(4, PT (m.next + 2))]) (R := fun _ m2 => ∃ M1, Nx ((((((m.put (m.next + 2) (.cells (Cells.ofList [.int .u32 0]) true 0)).put (m.next + 2) (.cells ((Cells.ofList [.int .u32 0]).write 0 [.int .u32 0]) true 0)).put (m.next + 6) (.cells (Cells.ofList [PT s]) true 0)).bump 7).put (m.next + 7) (.loop (lrN _))).bump 1) M1 ∧ MinI M1 (m.next + 7) (m.next + 2) _ (minU L L.length) m2) [] [PT (m.next + 6)] (by simp only [Mem.next_bump, Mem.next_put]; omega) (by simp only [ev_T, lk_cons, Nat.reduceLT, Nat.reduceEqDiff, reduceIte]) ca_26
    (min_all (co0 := (Cells.ofList [.int .u32 0]).write 0 [.int .u32 0]) (zc := 0) (s := s) (v := v) (L := L) ?_ get_eq_b rfl (by simp only [Mem.get_bump, Mem.get_put, show ¬ m.next + 6 = m.next + 7 by omega, Mem.next_bump, Mem.next_put, if_false, if_true]) (by simp only [Mem.get_bump, Mem.get_put, Mem.next_bump, Mem.next_put, show ¬ m.next + 2 = m.next + 7 by omega, show ¬ m.next + 2 = m.next + 6 by omega, if_false, if_true]) rfl rfl (by omega) (by omega) (h.keep ?_ fun b hb => ?_) hw hlen) (fun p hp => ?_) (fun _ m2 hI => ?_)
  · exact Fresh.of_low (by have := hm.n64; (try simp only [Mem.next_bump, Mem.next_put]); omega) (by repeat (first | exact Low.of hm (by (try simp only [Mem.next_bump, Mem.next_put]); omega) | refine Low.put ?_ (by (try simp only [Mem.next_bump, Mem.next_put]); omega) | refine Low.bump ?_))
  · simp only [Mem.get_bump, Mem.get_put, ne_new hs, Mem.next_bump, Mem.next_put, if_false]
  · have hbl := (h.ltb hm hb).1
    simp only [Mem.get_bump, Mem.get_put, ne_new hbl, Mem.next_bump, Mem.next_put, if_false]
  · simp only [List.mem_singleton] at hp
    subst hp
    exact rv_ptr (.inl ⟨rfl, by simp only [Mem.next_bump, Mem.next_put]; omega⟩)
  · obtain ⟨M1, hn, hI⟩ := hI
    have n1 := hn.next
    simp only [Mem.next_bump, Mem.next_put] at n1
    have n2 := hI.next
    obtain ⟨co, k1, k2, k3⟩ := hI.out
    have k6 : ¬ m.next + 2 = m.next + 7 := by omega
    refine rfnQ_normal hI.loop ?_
    have n2' : m.next ≤ m2.next := by omega
    have hl := hI.loop
    have hgt : decide ((0 : Int) < (((minU L L.length).toNat : Nat) : Int)) = decide (minU L L.length ≠ 0#32) := decide_eq_decide.2 ⟨fun h e => by rw [e] at h; simp at h, fun h => by
      have : (minU L L.length).toNat ≠ 0 := fun e => h (BitVec.eq_of_toNat_eq (by simpa using e))
      omega⟩
    simp only [Mem.next_bump, Mem.next_put, blockQ_normal, thenQ_normal, W_seq, w14_11, n2', X_load EE_sym, Nat.reduceLT, ev_T, lk_cons, if_true, load1 lay_30, Mem.get_bump, Mem.get_put, k6, k1, if_false, ld1_cells, k3, okI_some, T_set, Nat.reduceEqDiff, X_bin EE_sym (op := .gtr) rfl, ev_const, bin_gtr, hgt, ne_eq, X_assign, X_nil, W_ret, FinX_ret, resA_tmp, T_get, resA_nil, Option.map_some, oneOr2, true_and]
    have hnn : ∀ o j, Nx m ((m2.put (m.next + 7) o).bump j) := fun o j => by
      refine ⟨by simp only [Mem.next_bump, Mem.next_put]; omega, Fresh.of_low (by have := hm.n64; simp only [Mem.next_bump, Mem.next_put]; omega) (Low.up (Low.bump (Low.put hI.low (by omega))) (by simp only [Mem.next_bump, Mem.next_put]; omega)), fun y hy => ?_⟩
      simp only [Mem.get_bump, Mem.get_put, show ¬ y = m.next + 7 by omega, if_false]
      rw [hI.old y (by omega) (by omega) (by omega), hn.old y (by simp only [Mem.next_bump, Mem.next_put]; omega)]
      simp only [Mem.get_bump, Mem.get_put, show ¬ y = m.next + 7 by omega, show ¬ y = m.next + 6 by omega, show ¬ y = m.next + 2 by omega, if_false]
    refine ⟨⟨(hnn _ _).next, fun y hy e => by rw [(hnn _ _).old y hy, e]⟩, ?_, hnn _ _⟩
    first | rfl | simp
end
end
end Go.Ab
