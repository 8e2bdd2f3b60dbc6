/- Tree: Zombie, Reap. -/
import Derived.Test.YtjajeeoahbidlaaTrWE
namespace Go.Ab
open Go.Proofs
noncomputable section
set_option maxHeartbeats 4000000
set_option maxRecDepth 10000
theorem rfnQ_exit {l0 k : Nat} {Q : Exit → List Value → Mem → Prop} {t : List Value} {m2 : Mem} {tm : List Value} {qs : List Tmp} {sa bd : SCode} (h1 : m2.get l0 = some (.loop ⟨.done, some (.exit k), tm, qs, sa, bd⟩)) (hp : pendX (.exit k) = true) (h2 : Q (.exit k) t (m2.put l0 (.loop ⟨.exhausted, some (.exit k), tm, qs, sa, bd⟩))) : rfnQ l0 Q t m2 :=
  ⟨_, h1, by simp, hp, h2⟩
abbrev lrZ (tl : List (Nat × Value)) : ALoop := ⟨.ready, none, T 36 tl, [20], c26_12, c26_19⟩
abbrev lrZ' (tl : List (Nat × Value)) : ALoop := ⟨.done, some (.exit 1), T 36 tl, [20], c26_12, c26_19⟩
/-- In the midst of Zombie's loop: what lies in the three boxes. -/
structure ZI (M1 : Mem) (lp o4 o5 o6 : Nat) (r : ALoop) (x : Int) (y : BitVec 32) (z : Int) (M : Mem) : Prop where
  next : M1.next ≤ M.next
  fresh : Fresh M
  old : ∀ q, q < M1.next → q ≠ lp → q ≠ o4 → q ≠ o5 → q ≠ o6 → M.get q = M1.get q
  loop : M.get lp = some (.loop r)
  b4 : ∃ c, M.get o4 = some (.cells c true 0) ∧ c.n = 1 ∧ c.nth 0 = some (In x)
  b5 : ∃ c, M.get o5 = some (.cells c true 0) ∧ c.n = 1 ∧ c.nth 0 = some (Um y)
  b6 : ∃ c, M.get o6 = some (.cells c true 0) ∧ c.n = 1 ∧ c.nth 0 = some (In z)
theorem eqvU {k : IntKind} {n : Int} : EE.eqv (.int k n) (.int k n) = true := by
  show vEqL 8 _ _ = true
  simp [vEqL, vEq, vEqN]
theorem lcz_1 {x y : Int} {z : BitVec 32} : ((Cells.ofList [.int .i64 0, .int .i64 0, .int .u32 0]).write 0 [In x, In y, Um z]).nth 1 = some (In y) := rfl
theorem lcz_2 {x y : Int} {z : BitVec 32} : ((Cells.ofList [.int .i64 0, .int .i64 0, .int .u32 0]).write 0 [In x, In y, Um z]).nth 2 = some (Um z) := rfl
section
variable {m mr : Mem} {t b : Nat} {room top : Int} {L : TL} {p pid : Int}
theorem zo_round {M1 M : Mem} {lp o4 o5 o6 o2 j : Nat} {tl : List (Nat × Value)} {x z c : Int} {y : BitVec 32} (hl : lp < M1.next) (h2 : lk tl 2 = PT o2) (h4 : lk tl 4 = PT o4) (h5 : lk tl 5 = PT o5) (h6 : lk tl 6 = PT o6) (ho : o4 < M1.next ∧ o5 < M1.next ∧ o6 < M1.next ∧ o2 < M1.next)
    (hne : o4 ≠ lp ∧ o5 ≠ lp ∧ o6 ≠ lp ∧ o4 ≠ o5 ∧ o4 ≠ o6 ∧ o5 ≠ o6 ∧ o2 ≠ lp ∧ o2 ≠ o4 ∧ o2 ≠ o5 ∧ o2 ≠ o6) (ht : t ≠ lp ∧ t ≠ o4 ∧ t ≠ o5 ∧ t ≠ o6 ∧ b ≠ lp ∧ b ≠ o4 ∧ b ≠ o5 ∧ b ≠ o6)
    (hT : TAt M t b room top L) (hc2 : M.get o2 = some (.cells (Cells.ofList [PT t]) true 0)) (hI : ZI M1 lp o4 o5 o6 (lrZ tl) x y z M) :
    ∃ u m', RCon EE.P lp [In c] (M.bump j) u m' ∧ M.next + j ≤ m'.next ∧ ((u = .bool true ∧ (at_ L c).2.1 ≠ 2 ∧ ZI M1 lp o4 o5 o6 (lrZ tl) x y 151 m') ∨ (u = .bool false ∧ (at_ L c).2.1 = 2 ∧ ZI M1 lp o4 o5 o6 (lrZ' tl) c (at_ L c).2.2 0 m')) := by
  have hnx := hI.next
  obtain ⟨cs, t1, t2, t3, t4, t5⟩ := hT.cs
  have t6 := hT.mp
  have Ml := hI.loop
  obtain ⟨d4, q4, q4n, q4v⟩ := hI.b4
  obtain ⟨d5, q5, q5n, q5v⟩ := hI.b5
  obtain ⟨d6, q6, q6n, q6v⟩ := hI.b6
  obtain ⟨n1, n2, n3, n4, n5, n6, n7, n8, n9, n10⟩ := hne
  obtain ⟨m1, m2, m3, m4, m5, m6, m7, m8⟩ := ht
  have lt := hT.lt hI.fresh
  have e1 : ∀ k, ¬ lp = M.next + k := fun k => by omega
  have e2 : ∀ k, ¬ o2 = M.next + k := fun k => by omega
  have e4 : ∀ k, ¬ o4 = M.next + k := fun k => by omega
  have e5 : ∀ k, ¬ o5 = M.next + k := fun k => by omega
  have e6 : ∀ k, ¬ o6 = M.next + k := fun k => by omega
  have et : ∀ k, ¬ t = M.next + k := fun k => by omega
  have eb : ∀ k, ¬ b = M.next + k := fun k => by omega
  have f1 : ∀ k, ¬ M.next + k = lp := fun k => by omega
  have f4 : ∀ k, ¬ M.next + k = o4 := fun k => by omega
  have f5 : ∀ k, ¬ M.next + k = o5 := fun k => by omega
  have f6 : ∀ k, ¬ M.next + k = o6 := fun k => by omega
  refine RCon.of EE_ok (r := lrZ tl) (by simp only [Mem.get_bump, Ml]) rfl rfl ?_
  by_cases c2 : (at_ L c).2.1 = 2
  · have d2 := decide_eq_true c2
    simp only [Mem.next_bump, setAll1, Nat.reduceLT, T_set, w26_12, w26_11, Nat.le_refl, bump_bump, X_assign, ev_T, lk_cons, if_true, X_nil, ne_eq, roundQ1_normal, Nat.add_le_add_iff_left, Nat.le_add_right, Mem.get_bump, Ml, loopI_some, put_bump, w26_19, W_block, w26_18, W_seq, w26_13, Mem.next_put, Nat.add_assoc, Nat.reduceAdd, X_store, Nat.reduceEqDiff, h6, if_false, ev_const, store1 sz_26, Mem.get_put, n3, q6, cells_int, st1_cells, List.length_cons, List.length_nil, Nat.zero_add, q6n, List.all_cons, oneCell, List.all_nil, Bool.and_self, and_self, okI_some, thenQ_normal, w26_14, Nat.reduceLeDiff, X_load EE_sym, h2, load1 lay_25, n10, n7, hc2, ld1_cells, nth_ofList, List.getElem?_cons_zero, X_nilCheck EE_sym, nilV_ptr, X_fieldAddr EE_sym fo_60_1, offV_ptr, load1 lay_58, m4, m1, t1, t4, X_move, X_lookup EE_sym, lk_at, m8, m5, t6, lupC_f, getD_Pv, X_alloc, zero_57, store1 sz_57, f6, f1, cells_agg, ofList_n, w26_15, X_fieldAddr EE_sym fo_57_1, load1 lay_3, lcz_1, X_eql EE_sym, eq_int, d2, W_cond, CDi_t, w26_17, w26_16, Y_0, keepM_f, h4, store1 sz_3, e4, n5, n1, q4, q4n, keepM_t, X_fieldAddr EE_sym fo_57_2, Y_re, RE_load EE_sym, load1 lay_23, f4, lcz_2, lookK_cons, eqvU, TDi_t, h5, store1 sz_23, n4.symm, e5, n6, n2, q5, q5n, n6.symm, n5.symm, e6, write_n, Y_nil, W_exit, blockQ_exit, roundQ2_exit, n3.symm, n2.symm, n1.symm, e1, true_and]
    refine ⟨⟨by simp only [Mem.next_bump, Mem.next_put]; omega, fun q hq e => ?_⟩, .inr ⟨c2, by simp only [Mem.next_bump, Mem.next_put]; omega, ?_, fun q hq r1 r2 r3 r4 => ?_, by rw [Mem.get_bump, Mem.get_put, if_pos rfl], ⟨d4.write 0 [In c], ?_, q4n, nth_write_same (by omega)⟩, ⟨d5.write 0 [Um (at_ L c).2.2], ?_, q5n, nth_write_same (by omega)⟩, ⟨(d6.write 0 [In 151]).write 0 [In 0], ?_, q6n, nth_write_same (by rw [write_n]; omega)⟩⟩⟩
    · rw [Mem.get_bump] at e
      rw [Mem.next_bump] at hq
      have r1 : q ≠ lp := fun e3 => by rw [e3, Ml] at e; cases e
      have r2 : q ≠ o4 := fun e3 => by rw [e3, q4] at e; cases e
      have r3 : q ≠ o5 := fun e3 => by rw [e3, q5] at e; cases e
      have r4 : q ≠ o6 := fun e3 => by rw [e3, q6] at e; cases e
      rw [Mem.get_bump]
      repeat rw [Mem.get_put, if_neg (by omega)]
      exact e
    · refine Fresh.of_low (by have := hI.fresh.n64; simp only [Mem.next_bump, Mem.next_put]; omega) fun q hq => ?_
      simp only [Mem.next_bump, Mem.next_put] at hq
      rw [Mem.get_bump]
      repeat rw [Mem.get_put, if_neg (by omega)]
      exact hI.fresh.none q (by omega)
    · rw [Mem.get_bump]
      repeat rw [Mem.get_put, if_neg (by omega)]
      exact hI.old q hq r1 r2 r3 r4
    · rw [Mem.get_bump]
      repeat rw [Mem.get_put, if_neg (by omega)]
      rw [Mem.get_put, if_pos rfl]
    · rw [Mem.get_bump]
      repeat rw [Mem.get_put, if_neg (by omega)]
      rw [Mem.get_put, if_pos rfl]
    · rw [Mem.get_bump]
      repeat rw [Mem.get_put, if_neg (by omega)]
      rw [Mem.get_put, if_pos rfl]
  · have d2 := decide_eq_false c2
    simp only [Mem.next_bump, setAll1, Nat.reduceLT, T_set, w26_12, w26_11, Nat.le_refl, bump_bump, X_assign, ev_T, lk_cons, if_true, X_nil, ne_eq, roundQ1_normal, Nat.add_le_add_iff_left, Nat.le_add_right, Mem.get_bump, Ml, loopI_some, put_bump, w26_19, W_block, w26_18, W_seq, w26_13, Mem.next_put, Nat.add_assoc, Nat.reduceAdd, X_store, Nat.reduceEqDiff, h6, if_false, ev_const, store1 sz_26, Mem.get_put, n3, q6, cells_int, st1_cells, List.length_cons, List.length_nil, Nat.zero_add, q6n, List.all_cons, oneCell, List.all_nil, Bool.and_self, and_self, okI_some, thenQ_normal, w26_14, Nat.reduceLeDiff, X_load EE_sym, h2, load1 lay_25, n10, n7, hc2, ld1_cells, nth_ofList, List.getElem?_cons_zero, X_nilCheck EE_sym, nilV_ptr, X_fieldAddr EE_sym fo_60_1, offV_ptr, load1 lay_58, m4, m1, t1, t4, X_move, X_lookup EE_sym, lk_at, m8, m5, t6, lupC_f, getD_Pv, X_alloc, zero_57, store1 sz_57, f6, f1, cells_agg, ofList_n, w26_15, X_fieldAddr EE_sym fo_57_1, load1 lay_3, lcz_1, X_eql EE_sym, eq_int, d2, W_cond, CDi_f, W_skip, blockQ_normal, roundQ2_normal, e1, n3.symm, true_and]
    refine ⟨⟨by simp only [Mem.next_bump, Mem.next_put]; omega, fun q hq e => ?_⟩, .inl ⟨c2, by simp only [Mem.next_bump, Mem.next_put]; omega, ?_, fun q hq r1 r2 r3 r4 => ?_, by rw [Mem.get_bump, Mem.get_put, if_pos rfl], ⟨d4, ?_, q4n, q4v⟩, ⟨d5, ?_, q5n, q5v⟩, ⟨d6.write 0 [In 151], ?_, q6n, nth_write_same (by omega)⟩⟩⟩
    · rw [Mem.get_bump] at e
      rw [Mem.next_bump] at hq
      have r1 : q ≠ lp := fun e3 => by rw [e3, Ml] at e; cases e
      have r4 : q ≠ o6 := fun e3 => by rw [e3, q6] at e; cases e
      rw [Mem.get_bump]
      repeat rw [Mem.get_put, if_neg (by omega)]
      exact e
    · refine Fresh.of_low (by have := hI.fresh.n64; simp only [Mem.next_bump, Mem.next_put]; omega) fun q hq => ?_
      simp only [Mem.next_bump, Mem.next_put] at hq
      rw [Mem.get_bump]
      repeat rw [Mem.get_put, if_neg (by omega)]
      exact hI.fresh.none q (by omega)
    · rw [Mem.get_bump]
      repeat rw [Mem.get_put, if_neg (by omega)]
      exact hI.old q hq r1 r2 r3 r4
    · rw [Mem.get_bump]
      repeat rw [Mem.get_put, if_neg (by omega)]
      exact q4
    · rw [Mem.get_bump]
      repeat rw [Mem.get_put, if_neg (by omega)]
      exact q5
    · rw [Mem.get_bump]
      repeat rw [Mem.get_put, if_neg (by omega)]
      rw [Mem.get_put, if_pos rfl]
theorem ZI.bump {M1 M : Mem} {lp o4 o5 o6 : Nat} {r : ALoop} {x z : Int} {y : BitVec 32} (h : ZI M1 lp o4 o5 o6 r x y z M) (j : Nat) : ZI M1 lp o4 o5 o6 r x y z (M.bump j) :=
  ⟨by rw [Mem.next_bump]; have := h.next; omega, h.fresh.bump, h.old, h.loop, h.b4, h.b5, h.b6⟩
def isZ (L : TL) (c : Int) : Bool := decide ((at_ L c).2.1 = 2)
/-- The least zombie. -/
def zom (L : TL) (pid : Int) : Option Int := (kids L pid).find? (isZ L)
theorem kids_split {i : Nat} : kids L pid = kidsI L pid i ++ ((ks L).drop i).filter (kid L pid) := by
  unfold kids kidsI
  rw [← List.filter_append, List.take_append_drop]
theorem zom_at {i : Nat} (hi : i < L.length) (hk : kid L pid (keyT L i) = true) (hn : ∀ c ∈ kidsI L pid i, isZ L c = false) (hz : isZ L (keyT L i) = true) : zom L pid = some (keyT L i) := by
  unfold zom
  rw [kids_split (i := i + 1), kidsI_t hi hk, List.find?_append, List.find?_append]
  have h1 : (kidsI L pid i).find? (isZ L) = none := List.find?_eq_none.2 fun c hc => by rw [hn c hc]; decide
  rw [h1]
  simp [hz]
theorem zo_cols {lp o4 o5 o6 o2 c2 z1 z2 : Nat} {tl : List (Nat × Value)} {d4 d5 d6 : Cells} {c1 : Nat} (hmr : Fresh mr) (hl : mr.get lp = some (.loop (lrZ tl))) (h2 : lk tl 2 = PT o2) (h4 : lk tl 4 = PT o4) (h5 : lk tl 5 = PT o5) (h6 : lk tl 6 = PT o6) (h1 : mr.get c1 = some (.cells (Cells.ofList [PT t]) true z1)) (hc2 : mr.get c2 = some (.cells (Cells.ofList [In pid]) true z2))
    (q2 : mr.get o2 = some (.cells (Cells.ofList [PT t]) true 0)) (q4 : mr.get o4 = some (.cells d4 true 0)) (q5 : mr.get o5 = some (.cells d5 true 0)) (q6 : mr.get o6 = some (.cells d6 true 0))
    (e4 : d4.n = 1 ∧ d4.nth 0 = some (In 0)) (e5 : d5.n = 1 ∧ d5.nth 0 = some (Um 0#32)) (e6 : d6.n = 1 ∧ d6.nth 0 = some (In 152))
    (hne : o4 ≠ lp ∧ o5 ≠ lp ∧ o6 ≠ lp ∧ o4 ≠ o5 ∧ o4 ≠ o6 ∧ o5 ≠ o6 ∧ o2 ≠ lp ∧ o2 ≠ o4 ∧ o2 ≠ o5 ∧ o2 ≠ o6) (ht : t ≠ lp ∧ t ≠ o4 ∧ t ≠ o5 ∧ t ≠ o6 ∧ b ≠ lp ∧ b ≠ o4 ∧ b ≠ o5 ∧ b ≠ o6) (hcc : c1 ≠ lp ∧ c1 ≠ o4 ∧ c1 ≠ o5 ∧ c1 ≠ o6 ∧ c2 ≠ lp ∧ c2 ≠ o4 ∧ c2 ≠ o5 ∧ c2 ≠ o6)
    (h : TAt mr t b room top L) (hw : wfT L) (hlen : L.length < 1000000) :
    ∃ u m2, Con EE.P 32 [.func (.yield lp) #[] #[], PT c1, PT c2] mr u m2 ∧ ∃ M1, Nx mr M1 ∧ ((zom L pid = none ∧ ZI M1 lp o4 o5 o6 (lrZ tl) 0 0#32 (if kids L pid = [] then 152 else 151) m2) ∨ ∃ c, zom L pid = some c ∧ ZI M1 lp o4 o5 o6 (lrZ' tl) c (at_ L c).2.2 0 m2) := by
  have l1 := hmr.lt hl
  have l2 := hmr.lt q2
  have l4 := hmr.lt q4
  have l5 := hmr.lt q5
  have l6 := hmr.lt q6
  have lt := h.lt hmr
  obtain ⟨n1, n2, n3, n4, n5, n6, n7, n8, n9, n10⟩ := id hne
  obtain ⟨m1, m2, m3, m4, m5, m6, m7, m8⟩ := id ht
  obtain ⟨p1, p2, p3, p4, p5, p6, p7, p8⟩ := hcc
  have hbad : ∀ y, (y = lp ∨ y = o4 ∨ y = o5 ∨ y = o6) → y < mr.next ∧ mr.get y ≠ none ∧ y ≠ t ∧ y ≠ b ∧ y ≠ c1 ∧ y ≠ c2 := fun y hy => by
    rcases hy with rfl | rfl | rfl | rfl
    · exact ⟨l1, by rw [hl]; simp, m1.symm, m5.symm, p1.symm, p5.symm⟩
    · exact ⟨l4, by rw [q4]; simp, m2.symm, m6.symm, p2.symm, p6.symm⟩
    · exact ⟨l5, by rw [q5]; simp, m3.symm, m7.symm, p3.symm, p7.symm⟩
    · exact ⟨l6, by rw [q6]; simp, m4.symm, m8.symm, p4.symm, p8.symm⟩
  obtain ⟨u, m2, hc, M1, hn, hI | ⟨c, hz, hI⟩⟩ := of_it hmr hl h1 hc2 h hw hlen (fun y => y = lp ∨ y = o4 ∨ y = o5 ∨ y = o6) hbad
    (fun M1 i M => i ≤ L.length ∧ (∀ c ∈ kidsI L pid i, isZ L c = false) ∧ ZI M1 lp o4 o5 o6 (lrZ tl) 0 0#32 (if kidsI L pid i = [] then 152 else 151) M)
    (fun M1 M => ∃ c, zom L pid = some c ∧ ZI M1 lp o4 o5 o6 (lrZ' tl) c (at_ L c).2.2 0 M)
    (fun M1 hn => ⟨Nat.zero_le _, fun c hc => (by cases hc), ⟨Nat.le_refl _, hn.fresh, fun _ _ _ _ _ _ => rfl, hn.keep hmr hl, ⟨d4, hn.keep hmr q4, e4⟩, ⟨d5, hn.keep hmr q5, e5⟩, ⟨d6, hn.keep hmr q6, e6⟩⟩⟩)
    (fun M1 i M j hI => ⟨hI.1, hI.2.1, hI.2.2.bump j⟩) (fun M1 M j ⟨c, hz, hI⟩ => ⟨c, hz, hI.bump j⟩)
    (fun M1 i M hn hI => ⟨hI.2.2.next, fun y hy y1 => hI.2.2.old y hy (fun e => y1 (.inl e)) (fun e => y1 (.inr (.inl e))) (fun e => y1 (.inr (.inr (.inl e)))) (fun e => y1 (.inr (.inr (.inr e))))⟩)
    (fun M1 M hn ⟨c, hz, hI⟩ => ⟨hI.next, fun y hy y1 => hI.old y hy (fun e => y1 (.inl e)) (fun e => y1 (.inr (.inl e))) (fun e => y1 (.inr (.inr (.inl e)))) (fun e => y1 (.inr (.inr (.inr e))))⟩)
    (fun M1 i M hi hk hI => by
      rw [kidsI_f hi hk]
      exact ⟨hi, hI.2⟩)
    fun M1 i M j hn hi hk ⟨hi', hnz, hI⟩ => by
      have k1 := hn.next
      have old := fun y (hy : y < mr.next) (y1 : y ≠ lp) (y2 : y ≠ o4) (y3 : y ≠ o5) (y4 : y ≠ o6) => (hI.old y (by omega) y1 y2 y3 y4).trans (hn.old y hy)
      obtain ⟨u, m', g1, g2, g3⟩ := zo_round (t := t) (b := b) (room := room) (top := top) (L := L) (j := j) (c := keyT L i) (Nat.lt_of_lt_of_le l1 k1) h2 h4 h5 h6 ⟨by omega, by omega, by omega, by omega⟩ hne ht (h.keep (old t lt.1 m1 m2 m3 m4) (old b lt.2.1 m5 m6 m7 m8)) ((old o2 l2 n7 n8 n9 n10).trans q2) hI
      refine ⟨u, m', g1, g2, ?_⟩
      rcases g3 with ⟨rfl, z1, z2⟩ | ⟨rfl, z1, z2⟩
      · refine .inl ⟨rfl, hi, fun c hc => ?_, ?_⟩
        · rw [kidsI_t hi hk] at hc
          rcases List.mem_append.1 hc with hc | hc
          · exact hnz c hc
          · rw [List.mem_singleton.1 hc]; exact decide_eq_false z1
        · rw [kidsI_t hi hk, if_neg (by simp)]
          exact z2
      · exact .inr ⟨rfl, _, zom_at hi hk hnz (decide_eq_true z1), z2⟩
  · refine ⟨u, m2, hc, M1, hn, .inl ⟨?_, ?_⟩⟩
    · unfold zom
      rw [← kidsI_all]
      exact List.find?_eq_none.2 fun c hc => by rw [hI.2.1 c hc]; decide
    · rw [← kidsI_all]
      exact hI.2.2
  · exact ⟨u, m2, hc, M1, hn, .inr ⟨c, hz, hI⟩⟩
end
end
end Go.Ab
/- Tree: Zombie, Reap. -/
namespace Go.Ab
open Go.Proofs
noncomputable section
set_option maxHeartbeats 4000000
set_option maxRecDepth 10000
/-- What Zombie answers. -/
def zomR (L : TL) (pid : Int) : Int × BitVec 32 × Int := if (at_ L pid).2.1 = 1 then (match zom L pid with | some c => (c, (at_ L c).2.2, 0) | none => (0, 0#32, if kids L pid = [] then 152 else 151)) else (0, 0#32, 2)
theorem CallI.at {E : Env} {L : List Inst} {tk : Task} {m m' : Mem} {K : CI} (h : m = m') (hc : CallI E L tk m (K := K)) : CallI E L tk m' (K := K) := h ▸ hc
section
variable {m m' : Mem} {t b : Nat} {room top : Int} {L : TL} {p pid : Int}
theorem Nx.putn {M : Mem} {x : Nat} {o : AObj} (h : Nx m M) (hx : m.next ≤ x) (hx2 : x < M.next) : Nx m (M.put x o) :=
  ⟨h.next, Fresh.of_low h.fresh.n64 (fun y hy => by
    rw [Mem.next_put] at hy
    rw [Mem.get_put, if_neg (by omega)]; exact h.fresh.none y hy), fun y hy => by rw [Mem.get_put, if_neg (by omega), h.old y hy]⟩
theorem Nx.rawE {v : Value} {R : Value → Mem → Prop} (h : Nx m m') (hR : R v m') : RawE m m' v R := h.raw hR
theorem zombie_ok (h : TAt m t b room top L) (hm : Fresh m) (hw : wfT L) (hlen : L.length < 1000000) : ∃ u m', Con EE.P 26 [PT t, In pid] m u m' ∧ u = .tuple [In (zomR L pid).1, Um (zomR L pid).2.1, In (zomR L pid).2.2].toArray ∧ Nx m m' := by
  refine Con.raw EE_ok fn26 (Nat.le_of_ble_eq_true rfl) _ ?_
  have lt := h.lt hm
  simp only [f26, enumV, Nat.zero_add, w26, W_seq, w26_0, Nat.le_refl, X_box, Nat.reduceLT, ev_T, lk_cons, Nat.one_ne_zero, if_false, if_true, box_ptr, okI_some, Nat.add_zero, T_set, put_bump, X_alloc, zero_3, zero_23, zero_26, X_nil, thenQ_normal, W_scope, w26_22, W_block, w26_8, w26_1, Mem.next_bump, Mem.next_put, Nat.le_add_right, bump_bump, Nat.reduceAdd, X_load EE_sym, Nat.reduceEqDiff, load1 lay_25, Mem.get_bump, Mem.get_put, Nat.left_eq_add, ld1_cells, nth_ofList, List.getElem?_cons_zero, X_call ca_27, List.map_cons, List.map_nil, true_and]
  have hN0 : Nx m (((((m.put m.next (.cells (Cells.ofList [PT t]) true 0)).put (m.next + 1) (.cells (Cells.ofList [In 0]) true 0)).put (m.next + 2) (.cells (Cells.ofList [Um 0#32]) true 0)).put (m.next + 3) (.cells (Cells.ofList [In 0]) true 0)).bump 7) := ⟨by (try simp only [Mem.next_bump, Mem.next_put]); omega, Fresh.of_low (by have := hm.n64; (try simp only [Mem.next_bump, Mem.next_put]); omega) (by repeat (first | exact Low.of hm (by (try simp only [Mem.next_bump, Mem.next_put]); omega) | refine Low.put ?_ (by (try simp only [Mem.next_bump, Mem.next_put]); omega) | refine Low.bump ?_)), fun y hy => by simp only [Mem.get_bump, Mem.get_put, ne_new hy, ne_new0 hy, if_false]⟩
  obtain ⟨M0, hM0⟩ : ∃ M0, M0 = ((((m.put m.next (.cells (Cells.ofList [PT t]) true 0)).put (m.next + 1) (.cells (Cells.ofList [In 0]) true 0)).put (m.next + 2) (.cells (Cells.ofList [Um 0#32]) true 0)).put (m.next + 3) (.cells (Cells.ofList [In 0]) true 0)).bump 7 := ⟨_, rfl⟩
  have q2 : M0.get m.next = some (.cells (Cells.ofList [PT t]) true 0) := by rw [hM0]; simp only [Mem.get_bump, Mem.get_put, Nat.left_eq_add, Nat.succ_ne_zero, if_false, if_true]
  have q4 : M0.get (m.next + 1) = some (.cells (Cells.ofList [In 0]) true 0) := by rw [hM0]; simp only [Mem.get_bump, Mem.get_put, Nat.add_left_cancel_iff, Nat.reduceEqDiff, if_false, if_true]
  have q5 : M0.get (m.next + 2) = some (.cells (Cells.ofList [Um 0#32]) true 0) := by rw [hM0]; simp only [Mem.get_bump, Mem.get_put, Nat.add_left_cancel_iff, Nat.reduceEqDiff, if_false, if_true]
  have q6 : M0.get (m.next + 3) = some (.cells (Cells.ofList [In 0]) true 0) := by rw [hM0]; simp only [Mem.get_bump, Mem.get_put, if_true]
  rw [← hM0] at hN0
  refine CallI.at hM0 ?_
  clear hM0
  have h0 := h.nx hm hN0
  have n0 := hN0.next
  refine CallI.con0 (none_ok h0) ?_
  simp only [putT, Nat.reduceLT, T_set, X_assign, ev_T, lk_cons, Nat.reduceEqDiff, if_false, if_true, X_nil, thenQ_normal, W_cond, CDi_f, w26_7, W_seq, w26_4, n0, X_load EE_sym, load1 lay_25, Mem.get_bump, q2, ld1_cells, nth_ofList, List.getElem?_cons_zero, okI_some, X_move, X_call ca_17, List.map_cons, List.map_nil, true_and]
  refine CallI.con0 (state_ok (h0.bump _)) ?_
  have a4 : ∀ k, ¬ m.next + 1 = M0.next + k := fun k => by have := hN0.fresh.lt q4; omega
  have a5 : ∀ k, ¬ m.next + 2 = M0.next + k := fun k => by have := hN0.fresh.lt q5; omega
  have a6 : ∀ k, ¬ m.next + 3 = M0.next + k := fun k => by have := hN0.fresh.lt q6; omega
  by_cases c1 : (at_ L pid).2.1 = 1
  · have d1 : decide ((at_ L pid).2.1 = 1) = true := decide_eq_true c1
    simp only [putT, Nat.reduceLT, T_set, X_neq EE_sym, ev_T, lk_cons, Nat.reduceEqDiff, if_false, if_true, ev_const, neq_int, d1, Bool.not_true, okI_some, X_assign, X_nil, thenQ_normal, W_cond, CDi_f, W_skip, blockQ_normal, W_seq, w26_9, Mem.next_bump, n0, Nat.le_add_right_of_le, bump_bump, Nat.reduceAdd, X_store, store1 sz_26, Mem.get_bump, q6, cells_int, st1_cells, List.length_cons, List.length_nil, Nat.zero_add, ofList_n, Nat.le_refl, List.all_cons, oneCell, List.all_nil, Bool.and_self, and_self, put_bump, W_label, w26_10, Mem.next_put, X_load EE_sym, load1 lay_25, Mem.get_put, Nat.left_eq_add, q2, ld1_cells, nth_ofList, List.getElem?_cons_zero, X_move, X_call ca_28, List.map_cons, List.map_nil, true_and]
    have l4 := hN0.fresh.lt q4
    have l5 := hN0.fresh.lt q5
    have l6 := hN0.fresh.lt q6
    have l2 := hN0.fresh.lt q2
    have hN1 : Nx m ((M0.put (m.next + 3) (.cells ((Cells.ofList [In 0]).write 0 [In 152]) true 0)).bump 9) := (hN0.putn (by omega) l6).bump _
    have h1 := h.nx hm hN1
    obtain ⟨cs, t1, _⟩ := h1.cs
    refine CallI.ex2 (of_ok hN1.fresh (by rw [t1]; simp)) fun u M2 hv => ?_
    obtain ⟨x1, x2, rfl, x3, x4, x5, x6, hn⟩ := hv
    have hN2 := hN1.trans hn
    have h2 := h1.nx hN1.fresh hn
    have b2 : M2.get m.next = some (.cells (Cells.ofList [PT t]) true 0) := by rw [hn.old _ (by simp only [Mem.next_bump, Mem.next_put]; omega), Mem.get_bump, Mem.get_put, if_neg (by omega), q2]
    have b4 : M2.get (m.next + 1) = some (.cells (Cells.ofList [In 0]) true 0) := by rw [hn.old _ (by simp only [Mem.next_bump, Mem.next_put]; omega), Mem.get_bump, Mem.get_put, if_neg (by omega), q4]
    have b5 : M2.get (m.next + 2) = some (.cells (Cells.ofList [Um 0#32]) true 0) := by rw [hn.old _ (by simp only [Mem.next_bump, Mem.next_put]; omega), Mem.get_bump, Mem.get_put, if_neg (by omega), q5]
    have b6 : M2.get (m.next + 3) = some (.cells ((Cells.ofList [In 0]).write 0 [In 152]) true 0) := by rw [hn.old _ (by simp only [Mem.next_bump, Mem.next_put]; omega), Mem.get_bump, Mem.get_put, if_pos rfl]
    simp only [Mem.next_bump, Mem.next_put] at x3 x4
    have n2 := hN2.next
    have lt2 := h2.lt hN2.fresh
    have lx1 := hN2.fresh.lt x5
    have lx2 := hN2.fresh.lt x6
    have lb := hN2.fresh.lt b6
    simp only [putT, Nat.reduceLT, T_set, X_nil, thenQ_normal, W_block, w26_20]
    have gne : ∀ y o, y < M2.next → ((M2.put M2.next o).bump 1).get y = M2.get y := fun y o hy => by rw [Mem.get_bump, Mem.get_put, if_neg (by omega)]
    refine W_rfnx (l' := [(2, PT m.next), (4, PT (m.next + 1)), (5, PT (m.next + 2)), (6, PT (m.next + 3))]) (R := fun _ m2 => ∃ M1, Nx ((M2.put M2.next (.loop (lrZ _))).bump 1) M1 ∧ ((zom L pid = none ∧ ZI M1 M2.next (m.next + 1) (m.next + 2) (m.next + 3) (lrZ _) 0 0#32 (if kids L pid = [] then 152 else 151) m2) ∨ ∃ c, zom L pid = some c ∧ ZI M1 M2.next (m.next + 1) (m.next + 2) (m.next + 3) (lrZ' _) c (at_ L c).2.2 0 m2)) [] [PT x1, PT x2] (by omega) (by simp only [ev_T, lk_cons, Nat.reduceLT, Nat.reduceEqDiff, reduceIte]) ca_32
      (zo_cols (z1 := 0) (z2 := 0) (L := L) (o2 := m.next) ?_ get_eq_b rfl rfl rfl rfl ((gne _ _ lx1).trans x5) ((gne _ _ lx2).trans x6) ((gne _ _ (by omega)).trans b2) ((gne _ _ (by omega)).trans b4) ((gne _ _ (by omega)).trans b5) ((gne _ _ (by omega)).trans b6) ⟨rfl, rfl⟩ ⟨rfl, rfl⟩ ⟨rfl, rfl⟩ (by omega) (by omega) (by omega) (h2.keep (gne _ _ lt2.1) (gne _ _ lt2.2.1)) hw hlen) (fun p hp => ?_) (fun _ m2 hI => ?_)
    · exact Fresh.of_low (by have := hN2.fresh.n64; simp only [Mem.next_bump, Mem.next_put]; omega) (fun y hy => by
        simp only [Mem.next_bump, Mem.next_put] at hy
        rw [Mem.get_bump, Mem.get_put, if_neg (by omega)]; exact hN2.fresh.none y (by omega))
    · simp only [List.mem_cons, List.mem_nil_iff, or_false] at hp
      rcases hp with rfl | rfl | rfl | rfl
      all_goals exact rv_ptr (.inl ⟨rfl, by omega⟩)
    · obtain ⟨M1, hn3, ⟨hz, hI⟩ | ⟨c, hz, hI⟩⟩ := hI
      · have n3 := hn3.next
        simp only [Mem.next_bump, Mem.next_put] at n3
        have n4 := hI.next
        have n5 : m.next ≤ m2.next := by omega
        obtain ⟨d4, k4, k4n, k4v⟩ := hI.b4
        obtain ⟨d5, k5, k5n, k5v⟩ := hI.b5
        obtain ⟨d6, k6, k6n, k6v⟩ := hI.b6
        have y4 : ¬ m.next + 1 = M2.next := by omega
        have y5 : ¬ m.next + 2 = M2.next := by omega
        have y6 : ¬ m.next + 3 = M2.next := by omega
        have hnn : Nx m m2 := ⟨n5, hI.fresh, fun y hy => by rw [hI.old y (by omega) (by omega) (by omega) (by omega) (by omega), hn3.old y (by simp only [Mem.next_bump, Mem.next_put]; omega), gne y _ (by omega), hN2.old y hy]⟩
        have e1 : zomR L pid = (0, 0#32, if kids L pid = [] then 152 else 151) := by unfold zomR; rw [if_pos c1, hz]
        rw [e1]
        refine rfnQ_normal hI.loop ?_
        simp only [blockQ_normal, thenQ_normal, W_seq, w26_21, Mem.next_put, n5, Y_0, X_load EE_sym, Nat.reduceLT, ev_T, lk_cons, Nat.reduceEqDiff, if_false, if_true, load1 lay_3, Mem.get_bump, Mem.get_put, y4, k4, ld1_cells, k4v, okI_some, T_set, X_nil, keepM_f, X_store, store1 sz_3, cells_int, st1_cells, List.length_cons, List.length_nil, Nat.zero_add, k4n, Nat.le_refl, List.all_cons, oneCell, List.all_nil, Bool.and_self, and_self, put_bump, keepM_t, Y_re, RE_load EE_sym, load1 lay_23, Nat.add_left_cancel_iff, y5, k5, k5v, lookK_cons, eqvU, TDi_t, store1 sz_23, k5n, load1 lay_26, y6, k6, k6v, store1 sz_26, k6n, Y_nil, W_ret, scopeQ_ret, FinX_ret, resA_cell, T_get, nth_write_same, resA_nil, Option.map_some, Option.bind_some, oneOr2, true_and]
        have hN : ∀ o1 o2 o3 o4 j, Nx m (((((m2.put M2.next o1).put (m.next + 1) o2).put (m.next + 2) o3).put (m.next + 3) o4).bump j) := fun o1 o2 o3 o4 j => ((((hnn.putn (x := M2.next) (by omega) (by omega)).putn (x := m.next + 1) (by omega) (by rw [Mem.next_put]; omega)).putn (x := m.next + 2) (by omega) (by simp only [Mem.next_put]; omega)).putn (x := m.next + 3) (by omega) (by simp only [Mem.next_put]; omega)).bump j
        exact (hN _ _ _ _ _).raw ⟨rfl, hN _ _ _ _ _⟩
      · have n3 := hn3.next
        simp only [Mem.next_bump, Mem.next_put] at n3
        have n4 := hI.next
        have n5 : m.next ≤ m2.next := by omega
        obtain ⟨d4, k4, k4n, k4v⟩ := hI.b4
        obtain ⟨d5, k5, k5n, k5v⟩ := hI.b5
        obtain ⟨d6, k6, k6n, k6v⟩ := hI.b6
        have y4 : ¬ m.next + 1 = M2.next := by omega
        have y5 : ¬ m.next + 2 = M2.next := by omega
        have y6 : ¬ m.next + 3 = M2.next := by omega
        have hnn : Nx m m2 := ⟨n5, hI.fresh, fun y hy => by rw [hI.old y (by omega) (by omega) (by omega) (by omega) (by omega), hn3.old y (by simp only [Mem.next_bump, Mem.next_put]; omega), gne y _ (by omega), hN2.old y hy]⟩
        have e1 : zomR L pid = (c, (at_ L c).2.2, 0) := by unfold zomR; rw [if_pos c1, hz]
        rw [e1]
        refine rfnQ_exit hI.loop rfl ?_
        simp only [blockQ_exit, if_true, thenQ_normal, W_seq, w26_21, Mem.next_put, n5, Y_0, X_load EE_sym, Nat.reduceLT, ev_T, lk_cons, Nat.reduceEqDiff, if_false, load1 lay_3, Mem.get_bump, Mem.get_put, y4, k4, ld1_cells, k4v, okI_some, T_set, X_nil, keepM_f, X_store, store1 sz_3, cells_int, st1_cells, List.length_cons, List.length_nil, Nat.zero_add, k4n, Nat.le_refl, List.all_cons, oneCell, List.all_nil, Bool.and_self, and_self, put_bump, keepM_t, Y_re, RE_load EE_sym, load1 lay_23, Nat.add_left_cancel_iff, y5, k5, k5v, lookK_cons, eqvU, TDi_t, store1 sz_23, k5n, load1 lay_26, y6, k6, k6v, store1 sz_26, k6n, Y_nil, W_ret, scopeQ_ret, FinX_ret, resA_cell, T_get, nth_write_same, resA_nil, Option.map_some, Option.bind_some, oneOr2, true_and]
        have hN : ∀ o1 o2 o3 o4 j, Nx m (((((m2.put M2.next o1).put (m.next + 1) o2).put (m.next + 2) o3).put (m.next + 3) o4).bump j) := fun o1 o2 o3 o4 j => ((((hnn.putn (x := M2.next) (by omega) (by omega)).putn (x := m.next + 1) (by omega) (by rw [Mem.next_put]; omega)).putn (x := m.next + 2) (by omega) (by simp only [Mem.next_put]; omega)).putn (x := m.next + 3) (by omega) (by simp only [Mem.next_put]; omega)).bump j
        exact (hN _ _ _ _ _).raw ⟨rfl, hN _ _ _ _ _⟩
  · have d1 : decide ((at_ L pid).2.1 = 1) = false := decide_eq_false c1
    simp only [putT, Nat.reduceLT, T_set, X_neq EE_sym, ev_T, lk_cons, Nat.reduceEqDiff, if_false, if_true, ev_const, neq_int, d1, Bool.not_false, okI_some, X_assign, X_nil, thenQ_normal, W_cond, CDi_t, w26_6, W_seq, w26_5, Mem.next_bump, n0, Nat.le_add_right_of_le, bump_bump, Nat.reduceAdd, X_store, store1 sz_3, Mem.get_bump, q4, cells_int, st1_cells, List.length_cons, List.length_nil, Nat.zero_add, ofList_n, Nat.le_refl, List.all_cons, oneCell, List.all_nil, Bool.and_self, and_self, put_bump, store1 sz_23, Mem.get_put, Nat.add_left_cancel_iff, q5, store1 sz_26, q6, W_ret, blockQ_ret, thenQ_ret, scopeQ_ret, FinX_ret, resA_cell, T_get, load1 lay_3, ld1_cells, nth_write_same, load1 lay_23, load1 lay_26, resA_nil, Option.map_some, Option.bind_some, oneOr2, true_and]
    have e1 : zomR L pid = (0, 0#32, 2) := if_neg c1
    rw [e1]
    have hN := (((hN0.putn (x := m.next + 1) (o := .cells ((Cells.ofList [In 0]).write 0 [In 0]) true 0) (by omega) (hN0.fresh.lt q4)).putn (x := m.next + 2) (o := .cells ((Cells.ofList [Um 0#32]).write 0 [Um 0#32]) true 0) (by omega) (hN0.fresh.lt q5)).putn (x := m.next + 3) (o := .cells ((Cells.ofList [In 0]).write 0 [In 2]) true 0) (by omega) (hN0.fresh.lt q6)).bump 8
    exact hN.raw ⟨rfl, hN⟩
def reapL (L : TL) (pid : Int) : TL := if (zomR L pid).2.2 = 0 then mdel L (zomR L pid).1 else L
theorem reap_ok (h : TAt m t b room top L) (hm : Fresh m) (hw : wfT L) (hlen : L.length < 1000000) : ∃ u m', Con EE.P 11 [PT t, In pid] m u m' ∧ u = .tuple [In (zomR L pid).1, Um (zomR L pid).2.1, In (zomR L pid).2.2].toArray ∧ TAt m' t b room top (reapL L pid) ∧ FrT m m' t b := by
  refine Con.raw EE_ok fn11 (Nat.le_of_ble_eq_true rfl) _ ?_
  simp only [f11, enumV, Nat.zero_add, w11, W_seq, w11_0, Nat.le_refl, X_assign, ev_const, Nat.reduceLT, T_set, X_nil, thenQ_normal, w11_1, Mem.next_bump, Nat.le_add_right, bump_bump, Nat.reduceAdd, X_move, ev_T, lk_cons, Nat.reduceEqDiff, Nat.one_ne_zero, if_false, if_true, X_call ca_26, List.map_cons, List.map_nil, true_and]
  refine CallI.ex2 (zombie_ok (pid := pid) (h.bump _) hm.bump hw hlen) fun u M hv => ?_
  obtain ⟨rfl, hn⟩ := hv
  have hn := hn.of_bump
  have h1 := h.nx hm hn
  have n1 := hn.next
  obtain ⟨cs, t1, t2, t3, t4, t5⟩ := h1.cs
  have t6 := h1.mp
  have lt := h1.lt hn.fresh
  unfold reapL
  by_cases c1 : (zomR L pid).2.2 = 0
  · have d1 := decide_eq_true c1
    rw [if_pos c1]
    simp only [putT, Nat.reduceLT, T_set, X_move, ev_T, lk_cons, Nat.reduceEqDiff, if_false, if_true, X_extract EE_sym, List.getElem?_toArray, List.getElem?_cons_zero, okI_some, List.getElem?_cons_succ, X_assign, X_nil, thenQ_normal, W_seq, w11_2, n1, X_eql EE_sym, ev_const, eq_int, d1, W_cond, CDi_t, w11_4, w11_3, Mem.next_bump, Nat.le_add_right_of_le, bump_bump, Nat.reduceAdd, Nat.one_ne_zero, X_nilCheck EE_sym, nilV_ptr, X_fieldAddr EE_sym fo_60_1, offV_ptr, Nat.zero_add, X_load EE_sym, load1 lay_58, Mem.get_bump, t1, ld1_cells, t4, X_delete, md_at, t6, mdC_ml, put_bump, w11_5, Mem.next_put, W_ret, FinX_ret, resA_tmp, T_get, resA_nil, Option.map_some, oneOr2, true_and]
    have hF := fun j => (FrT.of_nx (t := t) (b := b) hn).trans (FrT.putb h1 hn.fresh (.map (ml Pv (mdel L (zomR L pid).1)) true) j)
    exact (hF _).raw ⟨rfl, TAt.putb h1 hn.fresh _, hF _⟩
  · have d1 := decide_eq_false c1
    rw [if_neg c1]
    simp only [putT, Nat.reduceLT, T_set, X_move, ev_T, lk_cons, Nat.reduceEqDiff, if_false, if_true, X_extract EE_sym, List.getElem?_toArray, List.getElem?_cons_zero, okI_some, List.getElem?_cons_succ, X_assign, X_nil, thenQ_normal, W_seq, w11_2, n1, X_eql EE_sym, ev_const, eq_int, d1, W_cond, CDi_f, W_skip, w11_5, Mem.next_bump, Nat.le_add_right_of_le, bump_bump, Nat.reduceAdd, W_ret, FinX_ret, resA_tmp, T_get, resA_nil, Option.map_some, oneOr2, true_and]
    have hF := fun j => (FrT.of_nx (t := t) (b := b) hn).bump j
    exact (hF _).raw ⟨rfl, h1.bump _, hF _⟩
end
end
end Go.Ab
