/- Tree: trees of children: plain laws. -/
import Derived.Test.YtjajeeoahbidlaaTrBD
namespace Go.Ab
noncomputable section
section
variable {L : TL} {p q x a pid : Int} {i j k : Nat}
theorem nodup_le : ∀ {l m : List Int}, l.Nodup → (∀ x ∈ l, x ∈ m) → l.length ≤ m.length
  | [], _, _, _ => Nat.zero_le _
  | y :: l, m, h, hs => by
    obtain ⟨h1, h2⟩ := List.nodup_cons.1 h
    have hy : y ∈ m := hs y List.mem_cons_self
    have ih := nodup_le (l := l) (m := m.erase y) h2 fun x hx => (List.mem_erase_of_ne (fun e => h1 (by rw [← e]; exact hx))).2 (hs x (List.mem_cons_of_mem _ hx))
    rw [List.length_erase_of_mem hy] at ih
    have : 0 < m.length := List.length_pos_of_mem hy
    simp only [List.length_cons]
    omega
theorem mem_ks : x ∈ ks L ↔ x ∈ mkeys L := (isort_perm _).mem_iff
theorem mem_kids : x ∈ kids L a ↔ x ∈ mkeys L ∧ 0 < a ∧ (at_ L x).1 = a := by
  unfold kids
  rw [List.mem_filter, mem_ks]
  unfold kid
  rw [Bool.and_eq_true, decide_eq_true_eq, decide_eq_true_eq]
/-- Parents are there, and less. -/
structure Par (L : TL) : Prop where
  nd : (mkeys L).Nodup
  pos : ∀ q ∈ mkeys L, 1 ≤ q
  one : (at_ L 1).1 = 0
  par : ∀ q ∈ mkeys L, q ≠ 1 → (at_ L q).1 ∈ mkeys L ∧ (at_ L q).1 < q
theorem Par.lt (h : Par L) (hq : q ∈ mkeys L) : (at_ L q).1 < q := by
  by_cases e : q = 1
  · rw [e, h.one]; omega
  · exact (h.par q hq e).2
theorem ks_nodup (h : (mkeys L).Nodup) : (ks L).Nodup := (isort_perm _).nodup_iff.2 h
theorem kids_nodup (h : (mkeys L).Nodup) : (kids L a).Nodup := (ks_nodup h).sublist List.filter_sublist
/-- The tree, as it grows. -/
def bst (L : TL) (pid : Int) : Nat → List Int
  | 0 => [pid]
  | i + 1 => bst L pid i ++ (if i < (bst L pid i).length then kids L ((bst L pid i).getD i 0) else [])
theorem bst_more (h : i < (bst L pid i).length) : bst L pid (i + 1) = bst L pid i ++ kids L ((bst L pid i).getD i 0) := by
  conv => lhs; unfold bst
  rw [if_pos h]
theorem bst_stop (h : ¬ i < (bst L pid i).length) : bst L pid (i + 1) = bst L pid i := by
  conv => lhs; unfold bst
  rw [if_neg h, List.append_nil]
theorem getD_mem {l : List Int} (h : i < l.length) : l.getD i 0 ∈ l := by
  rw [List.getD_eq_getElem?_getD, List.getElem?_eq_getElem h]
  exact List.getElem_mem h
theorem getD_app {l m : List Int} (h : i < l.length) : (l ++ m).getD i 0 = l.getD i 0 := by
  rw [List.getD_eq_getElem?_getD, List.getD_eq_getElem?_getD, List.getElem?_append_left h]
theorem nodup_getD {l : List Int} (h : l.Nodup) (hi : i < l.length) (hj : j < l.length) (e : l.getD i 0 = l.getD j 0) : i = j := by
  rw [List.getD_eq_getElem?_getD, List.getD_eq_getElem?_getD, List.getElem?_eq_getElem hi, List.getElem?_eq_getElem hj] at e
  have e2 : l[i] = l[j] := e
  rcases Nat.lt_trichotomy i j with h1 | h1 | h1
  · exact absurd e2 (List.pairwise_iff_getElem.1 h i j hi hj h1)
  · exact h1
  · exact absurd e2.symm (List.pairwise_iff_getElem.1 h j i hj hi h1)
structure BI (L : TL) (pid : Int) (i : Nat) (l : List Int) : Prop where
  nd : l.Nodup
  mem : ∀ x ∈ l, x ∈ mkeys L ∧ pid ≤ x ∧ (x = pid ∨ ∃ j, j < i ∧ j < l.length ∧ l.getD j 0 = (at_ L x).1)
  top : pid ∈ l
  clo : ∀ j, j < i → j < l.length → ∀ c ∈ kids L (l.getD j 0), c ∈ l
theorem bst_inv (hP : Par L) (hp : pid ∈ mkeys L) : ∀ i, BI L pid i (bst L pid i)
  | 0 => ⟨List.nodup_cons.2 ⟨fun h => (by cases h), List.nodup_nil⟩, fun x hx => by
      have : x = pid := List.mem_singleton.1 hx
      subst this
      exact ⟨hp, Int.le_refl _, .inl rfl⟩, List.mem_singleton.2 rfl, fun j hj => absurd hj (Nat.not_lt_zero _)⟩
  | i + 1 => by
    have ih := bst_inv hP hp i
    by_cases hi : i < (bst L pid i).length
    · rw [bst_more hi]
      generalize hl : bst L pid i = l at ih hi
      have ha := getD_mem hi
      obtain ⟨a1, a2, _⟩ := ih.mem _ ha
      have hdis : ∀ x ∈ l, x ∉ kids L (l.getD i 0) := fun x hx hk => by
        obtain ⟨k1, k2, k3⟩ := mem_kids.1 hk
        obtain ⟨x1, x2, x3 | ⟨j, j1, j2, j3⟩⟩ := ih.mem x hx
        · have := hP.lt x1
          omega
        · have := nodup_getD ih.nd j2 hi (j3.trans k3)
          omega
      refine ⟨List.nodup_append.2 ⟨ih.nd, kids_nodup hP.nd, fun x hx y hy e => hdis x hx (e ▸ hy)⟩, fun x hx => ?_, List.mem_append.2 (.inl ih.top), fun j hj hj2 c hc => ?_⟩
      · rcases List.mem_append.1 hx with hx | hx
        · obtain ⟨x1, x2, x3⟩ := ih.mem x hx
          refine ⟨x1, x2, x3.imp id fun ⟨j, j1, j2, j3⟩ => ⟨j, by omega, by rw [List.length_append]; omega, by rw [getD_app j2, j3]⟩⟩
        · obtain ⟨k1, k2, k3⟩ := mem_kids.1 hx
          have := hP.lt k1
          exact ⟨k1, by omega, .inr ⟨i, by omega, by rw [List.length_append]; omega, by rw [getD_app hi, k3]⟩⟩
      · by_cases e : j = i
        · subst e
          rw [getD_app hi] at hc
          exact List.mem_append.2 (.inr hc)
        · by_cases h2 : j < l.length
          · rw [getD_app h2] at hc
            exact List.mem_append.2 (.inl (ih.clo j (by omega) h2 c hc))
          · omega
    · rw [bst_stop hi]
      exact ⟨ih.nd, fun x hx => by
        obtain ⟨x1, x2, x3⟩ := ih.mem x hx
        exact ⟨x1, x2, x3.imp id fun ⟨j, j1, j2, j3⟩ => ⟨j, by omega, j2, j3⟩⟩, ih.top, fun j hj hj2 c hc => ih.clo j (by omega) hj2 c hc⟩
theorem bst_len (hP : Par L) (hp : pid ∈ mkeys L) : (bst L pid i).length ≤ L.length := by
  have h := bst_inv hP hp i
  have := nodup_le h.nd fun x hx => (h.mem x hx).1
  rwa [List.length_map] at this
theorem bst_end (hi : ¬ i < (bst L pid i).length) : ∀ k, bst L pid (i + k) = bst L pid i
  | 0 => rfl
  | k + 1 => by
    have ih := bst_end hi k
    rw [show i + (k + 1) = (i + k) + 1 by omega, bst_stop (by rw [ih]; omega), ih]
/-- A process' tree, rising. -/
def treeL (L : TL) (pid : Int) : List Int := if (at_ L pid).2.1 = 0 then [] else isort (bst L pid L.length)
theorem tree_at (hP : Par L) (hp : pid ∈ mkeys L) (hi : i ≤ L.length) (hs : ¬ i < (bst L pid i).length) : bst L pid L.length = bst L pid i := by
  have := bst_end hs (L.length - i)
  rwa [show i + (L.length - i) = L.length by omega] at this
theorem tree_mem (hP : Par L) (hp : pid ∈ mkeys L) : BI L pid L.length (bst L pid L.length) ∧ ∀ x ∈ bst L pid L.length, ∀ c ∈ kids L x, c ∈ bst L pid L.length := by
  have h := bst_inv hP hp L.length
  have hl := bst_len hP hp (i := L.length)
  refine ⟨h, fun x hx c hc => ?_⟩
  obtain ⟨j, h1, h2⟩ := List.mem_iff_getElem.1 hx
  refine h.clo j (by omega) h1 c ?_
  rw [List.getD_eq_getElem?_getD, List.getElem?_eq_getElem h1]
  rw [← h2] at hc
  exact hc
end
end
end Go.Ab
/- Tree: New, Fork, Exit. -/
namespace Go.Ab
open Go.Proofs
noncomputable section
set_option maxHeartbeats 4000000
set_option maxRecDepth 10000
theorem XW_insert {E : Env} {base i : Nat} {rest : List (Nat × SOp)} {L : List Inst} {t : List Value} {m : Mem} {Q : List Inst → List Value → Mem → Prop} {ty rt : TypeId} {a k x : Operand} : XW E base ((i, ⟨none, .insert ty a k x, rt, none⟩) :: rest) L t m Q ↔ okP (mapSetA E.P ty (ev a t) (ev k t) (ev x t) m) fun m' => XW E base rest L t m' Q := by
  rw [XW_val (q := (mapSetA E.P ty (ev a t) (ev k t) (ev x t) m).map fun m' => (undef, m')) rfl rfl, okP_map]
  · rfl
  · simp only [effA]; cases mapSetA E.P ty (ev a t) (ev k t) (ev x t) m <;> rfl
  · simp only [reqA, cls, effA]; cases mapSetA E.P ty (ev a t) (ev k t) (ev x t) m <;> rfl
theorem X_insert {E : Env} {base i : Nat} {rest : List (Nat × SOp)} {L : List Inst} {t : List Value} {m : Mem} {K : KI} {ty rt : TypeId} {a k x : Operand} : XWi E base ((i, ⟨none, .insert ty a k x, rt, none⟩) :: rest) L t m (Q := K) = okI (mapSetA E.P ty (ev a t) (ev k t) (ev x t) m) (k := ⟨fun m' => XWi E base rest L t m' (Q := K)⟩) := propext XW_insert
theorem msC_nil {m : Mem} {b : Nat} {k x : Value} : msC (.int .i64) k x b m (some (.map [] true)) = some (m.put b (.map [(k, x)] true)) := rfl
theorem b57 {x y : Int} {z : BitVec 32} : buildA EE.P 57 [(0, In x), (1, In y), (2, Um z)] = some (Pv (x, y, z)) := by kernel_rfl
theorem b57b {x y : Int} : buildA EE.P 57 [(0, In x), (1, In y)] = some (Pv (x, y, 0#32)) := by kernel_rfl
theorem b57c {y : Int} : buildA EE.P 57 [(1, In y)] = some (Pv (0, y, 0#32)) := by kernel_rfl
theorem b60 {x y : Int} {b : Option Nat} : buildA EE.P 60 [(0, In x), (1, .map b), (2, In y)] = some (.agg [In x, .map b, In y].toArray) := by kernel_rfl
section
variable {m m' : Mem} {t b : Nat} {room top : Int} {L : TL} {p pid : Int} {s : BitVec 32}
theorem new_no (hr : room < 1 ∨ 32 < room) : Con EE.P 8 [In room] m (.tuple [.pointer none, In 2].toArray) m := by
  refine Con.of EE_ok fn8 (Nat.le_of_ble_eq_true rfl) Grow.rfl fun hm => ?_
  by_cases h1 : room < 1
  · have d1 := decide_eq_true h1
    simp only [f8, enumV, w8, W_seq, w8_0, Nat.le_refl, X_assign, ev_const, Nat.reduceLT, T_set, X_nil, thenQ_normal, w8_1, Mem.next_bump, Nat.le_add_right, bump_bump, Nat.reduceAdd, X_move, ev_T, lk_cons, Nat.reduceEqDiff, if_true, if_false, X_bin EE_sym (op := .lss) rfl, bin_lss, d1, okI_some, X_guard EE_sym, T_get, GDi_tf, putT, X_pick EE_sym, pickV_bool, W_cond, CDi_t, w8_3, w8_2, W_ret, thenQ_ret, FinC_ret, resA_tmp, resA_nil, Option.map_some, oneOr2, true_and]
    exact TidyE.pure rfl fun _ _ => rfl
  · have d1 := decide_eq_false h1
    have d2 : decide (32 < room) = true := decide_eq_true (by omega)
    simp only [f8, enumV, w8, W_seq, w8_0, Nat.le_refl, X_assign, ev_const, Nat.reduceLT, T_set, X_nil, thenQ_normal, w8_1, Mem.next_bump, Nat.le_add_right, bump_bump, Nat.reduceAdd, X_move, ev_T, lk_cons, Nat.reduceEqDiff, if_true, if_false, X_bin EE_sym (op := .lss) rfl, bin_lss, d1, okI_some, X_guard EE_sym, T_get, GDi_ff, X_bin EE_sym (op := .gtr) rfl, bin_gtr, d2, X_pick EE_sym, pickV_bool, Bool.false_eq_true, W_cond, CDi_t, w8_3, w8_2, W_ret, thenQ_ret, FinC_ret, resA_tmp, resA_nil, Option.map_some, oneOr2, true_and]
    exact TidyE.pure rfl fun _ _ => rfl
theorem new_ok (hm : Fresh m) (hr : 1 ≤ room ∧ room ≤ 32) : ∃ u m', Con EE.P 8 [In room] m u m' ∧ ∃ t b, u = .tuple [PT t, In 0].toArray ∧ m.next ≤ t ∧ m.next ≤ b ∧ TAt m' t b room 1 [(1, (0, 1, 0#32))] ∧ Nx m m' := by
  refine Con.raw EE_ok fn8 (Nat.le_of_ble_eq_true rfl) _ ?_
  have d1 : decide (room < 1) = false := decide_eq_false (by omega)
  have d2 : decide (32 < room) = false := decide_eq_false (by omega)
  simp only [f8, enumV, w8, W_seq, w8_0, Nat.le_refl, X_assign, ev_const, Nat.reduceLT, T_set, X_nil, thenQ_normal, w8_1, Mem.next_bump, Nat.le_add_right, bump_bump, Nat.reduceAdd, X_move, ev_T, lk_cons, Nat.reduceEqDiff, if_true, if_false, X_bin EE_sym (op := .lss) rfl, bin_lss, d1, okI_some, X_guard EE_sym, T_get, GDi_ff, X_bin EE_sym (op := .gtr) rfl, bin_gtr, d2, X_pick EE_sym, pickV_bool, Bool.false_eq_true, W_cond, CDi_f, W_skip, w8_4, X_makeMap, Nat.add_assoc, put_bump, X_build EE_sym, List.map_cons, List.map_nil, b57c, X_insert, ms_at, Mem.get_bump, Mem.get_put, msC_nil, b60, X_box, box_agg, W_ret, FinX_ret, resA_tmp, resA_nil, Option.map_some, oneOr2, true_and]
  have hn : Nx m ((((m.put (m.next + 9) (.map [] true)).put (m.next + 9) (.map [(.int .i64 1, Pv (0, 1, 0#32))] true)).put (m.next + 14) (.cells (Cells.ofList [In room, .map (some (m.next + 9)), In 1]) true 0)).bump 17) := ⟨by (try simp only [Mem.next_bump, Mem.next_put]); omega, Fresh.of_low (by have := hm.n64; (try simp only [Mem.next_bump, Mem.next_put]); omega) (by repeat (first | exact Low.of hm (by (try simp only [Mem.next_bump, Mem.next_put]); omega) | refine Low.put ?_ (by (try simp only [Mem.next_bump, Mem.next_put]); omega) | refine Low.bump ?_)), fun y hy => by simp only [Mem.get_bump, Mem.get_put, ne_new hy, if_false]⟩
  refine ⟨⟨hn.next, fun y hy e => by rw [hn.old y hy, e]⟩, m.next + 14, m.next + 9, rfl, by omega, by omega, ⟨⟨_, by rw [Mem.get_bump, Mem.get_put, if_pos rfl], rfl, rfl, rfl, rfl⟩, ?_, hr⟩, hn⟩
  rw [Mem.get_bump, Mem.get_put, if_neg (by omega), Mem.get_put, if_pos rfl]; rfl
theorem FrT.same (hm : Fresh m) (j : Nat) : FrT m (m.bump j) t b := FrT.of_nx ((Nx.refl hm).bump j)
theorem FrT.putb (h : TAt m t b room top L) (hm : Fresh m) (o : AObj) (j : Nat) : FrT m ((m.put b o).bump j) t b := by
  have lt := h.lt hm
  refine ⟨by simp only [Mem.next_bump, Mem.next_put]; omega, Fresh.of_low (by have := hm.n64; simp only [Mem.next_bump, Mem.next_put]; omega) (fun y hy => ?_), fun y hy y1 y2 => by rw [Mem.get_bump, Mem.get_put, if_neg y2], fun y hy e => ?_⟩
  · simp only [Mem.next_bump, Mem.next_put] at hy
    rw [Mem.get_bump, Mem.get_put, if_neg (by omega)]; exact hm.none y (by omega)
  · rw [Mem.get_bump, Mem.get_put, if_neg (fun e2 => by rw [e2, h.mp] at e; cases e), e]
theorem FrT.put2 (h : TAt m t b room top L) (hm : Fresh m) (o o' : AObj) (j : Nat) : FrT m (((m.put t o).put b o').bump j) t b := by
  have lt := h.lt hm
  obtain ⟨cs, t1, _⟩ := h.cs
  refine ⟨by simp only [Mem.next_bump, Mem.next_put]; omega, Fresh.of_low (by have := hm.n64; simp only [Mem.next_bump, Mem.next_put]; omega) (fun y hy => ?_), fun y hy y1 y2 => by rw [Mem.get_bump, Mem.get_put, if_neg y2, Mem.get_put, if_neg y1], fun y hy e => ?_⟩
  · simp only [Mem.next_bump, Mem.next_put] at hy
    rw [Mem.get_bump, Mem.get_put, if_neg (by omega), Mem.get_put, if_neg (by omega)]; exact hm.none y (by omega)
  · rw [Mem.get_bump, Mem.get_put, if_neg (fun e2 => by rw [e2, h.mp] at e; cases e), Mem.get_put, if_neg (fun e2 => by rw [e2, t1] at e; cases e), e]
theorem TAt.putb {L' : TL} (h : TAt m t b room top L) (hm : Fresh m) (j : Nat) : TAt ((m.put b (.map (ml Pv L') true)).bump j) t b room top L' := by
  have lt := h.lt hm
  obtain ⟨cs, t1, t2⟩ := h.cs
  exact ⟨⟨cs, by rw [Mem.get_bump, Mem.get_put, if_neg lt.2.2, t1], t2⟩, by rw [Mem.get_bump, Mem.get_put, if_pos rfl], h.rm⟩
/-- New blocks, and the map. -/
structure Lo (M Mx : Mem) (j : Nat) : Prop where
  old : ∀ y, y < M.next → Mx.get y = M.get y
  next : Mx.next = M.next
  none : ∀ y, M.next + j ≤ y → Mx.get y = none
theorem Lo.put {M Mx : Mem} {j x : Nat} {o : AObj} (h : Lo M Mx j) (hx : M.next ≤ x ∧ x < M.next + j) : Lo M (Mx.put x o) j :=
  ⟨fun y hy => by rw [Mem.get_put, if_neg (by omega), h.old y hy], h.next, fun y hy => by rw [Mem.get_put, if_neg (by omega), h.none y hy]⟩
theorem Lo.refl {M : Mem} {j : Nat} (hM : Fresh M) : Lo M M j := ⟨fun _ _ => rfl, rfl, fun y hy => hM.none y (by omega)⟩
theorem FrT.lo {M Mx : Mem} {j : Nat} {o : AObj} (hF : FrT m M t b) (hT : TAt M t b room top L) (hb : m.get b ≠ none) (h : Lo M Mx j) : FrT m ((Mx.put b o).bump j) t b := by
  have lt := hT.lt hF.fresh
  have n1 := hF.next
  refine ⟨by rw [Mem.next_bump, Mem.next_put, h.next]; omega, Fresh.of_low (by have := hF.fresh.n64; rw [Mem.next_bump, Mem.next_put, h.next]; omega) (fun y hy => ?_), fun y hy y1 y2 => by rw [Mem.get_bump, Mem.get_put, if_neg y2, h.old y (by omega), hF.old y hy y1 y2], fun y hy e => ?_⟩
  · rw [Mem.next_bump, Mem.next_put, h.next] at hy
    rw [Mem.get_bump, Mem.get_put, if_neg (by omega)]; exact h.none y hy
  · rw [Mem.get_bump, Mem.get_put, if_neg (fun e2 => hb (by rw [← e2]; exact e)), h.old y (by omega), hF.low y hy e]
theorem TAt.lo {M Mx : Mem} {j : Nat} {L' : TL} (hM : Fresh M) (hT : TAt M t b room top L) (h : Lo M Mx j) : TAt ((Mx.put b (.map (ml Pv L') true)).bump j) t b room top L' := by
  have lt := hT.lt hM
  obtain ⟨cs, t1, t2⟩ := hT.cs
  exact ⟨⟨cs, by rw [Mem.get_bump, Mem.get_put, if_neg lt.2.2, h.old t lt.1, t1], t2⟩, by rw [Mem.get_bump, Mem.get_put, if_pos rfl], hT.rm⟩
/-- What Fork answers, and leaves. -/
def forkE (L : TL) (room top p : Int) : Int := if (at_ L p).2.1 = 1 then (if room - L.length = 0 then 150 else if 65535 ≤ top then 150 else 0) else 2
def forkT (L : TL) (room top p : Int) : Int := if forkE L room top p = 0 then top + 1 else top
def forkL (L : TL) (room top p : Int) : TL := if forkE L room top p = 0 then mset L (top + 1) (p, 1, 0#32) else L
theorem fork_ok (h : TAt m t b room top L) (hm : Fresh m) (hl : L.length ≤ 32) (h0 : 0 ≤ top) : ∃ u m', Con EE.P 9 [PT t, In p] m u m' ∧ u = .tuple [In (if forkE L room top p = 0 then top + 1 else 0), In (forkE L room top p)].toArray ∧ TAt m' t b room (forkT L room top p) (forkL L room top p) ∧ FrT m m' t b := by
  refine Con.raw EE_ok fn9 (Nat.le_of_ble_eq_true rfl) _ ?_
  obtain ⟨cs, h1, h2, h3, h4, h5⟩ := h.cs
  have lt := h.lt hm
  simp only [f9, enumV, Nat.zero_add, w9, W_seq, w9_0, Nat.le_refl, X_assign, ev_const, Nat.reduceLT, T_set, X_nil, thenQ_normal, W_block, w9_12, w9_1, Mem.next_bump, Nat.le_add_right, bump_bump, Nat.reduceAdd, X_move, ev_T, lk_cons, Nat.reduceEqDiff, Nat.one_ne_zero, if_false, if_true, X_call ca_27, List.map_cons, List.map_nil, true_and]
  refine CallI.con0 (none_ok (h.bump _)) ?_
  simp only [putT, Nat.reduceLT, T_set, X_assign, ev_T, lk_cons, Nat.reduceEqDiff, if_false, if_true, X_nil, thenQ_normal, W_cond, CDi_f, w9_11, W_seq, w9_4, Mem.next_bump, Nat.le_add_right, bump_bump, Nat.reduceAdd, X_move, Nat.one_ne_zero, X_call ca_17, List.map_cons, List.map_nil, true_and]
  refine CallI.con0 (state_ok (h.bump _)) ?_
  by_cases c1 : (at_ L p).2.1 = 1
  · have d1 : decide ((at_ L p).2.1 = 1) = true := decide_eq_true c1
    simp only [putT, Nat.reduceLT, T_set, X_neq EE_sym, ev_T, lk_cons, Nat.reduceEqDiff, if_false, if_true, ev_const, neq_int, d1, Bool.not_true, okI_some, X_assign, X_nil, thenQ_normal, W_cond, CDi_f, w9_10, W_seq, w9_7, Mem.next_bump, Nat.le_add_right, bump_bump, Nat.reduceAdd, X_move, Nat.one_ne_zero, X_call ca_22, List.map_cons, List.map_nil, true_and]
    refine CallI.con0 (free_ok (h.bump _) hl) ?_
    by_cases c2 : room - (L.length : Int) = 0
    · have d2 := decide_eq_true c2
      have e1 : forkE L room top p = 150 := by unfold forkE; rw [if_pos c1, if_pos c2]
      unfold forkT forkL
      rw [e1]
      simp only [putT, Nat.reduceLT, T_set, X_eql EE_sym, ev_T, lk_cons, Nat.reduceEqDiff, if_false, if_true, ev_const, eq_int, d2, okI_some, X_move, X_guard EE_sym, T_get, GDi_tf, X_pick EE_sym, pickV_bool, X_assign, X_nil, Int.reduceEq, thenQ_normal, W_cond, CDi_t, w9_9, W_seq, w9_8, Mem.next_bump, Nat.le_add_right, bump_bump, Nat.reduceAdd, W_ret, blockQ_ret, thenQ_ret, FinX_ret, resA_tmp, resA_nil, Option.map_some, oneOr2, true_and]
      exact (FrT.same (t := t) (b := b) hm _).raw ⟨rfl, h.bump _, FrT.same hm _⟩
    · have d2 := decide_eq_false c2
      simp only [putT, Nat.reduceLT, T_set, X_eql EE_sym, ev_T, lk_cons, Nat.reduceEqDiff, if_false, if_true, ev_const, eq_int, d2, okI_some, X_move, X_guard EE_sym, T_get, GDi_ff, Nat.one_ne_zero, X_call ca_25, List.map_cons, List.map_nil]
      refine CallI.con (next_ok (h.bump _) h0) (by simp) ?_
      by_cases c3 : 65535 ≤ top
      · have e1 : forkE L room top p = 150 := by unfold forkE; rw [if_pos c1, if_neg c2, if_pos c3]
        unfold forkT forkL
        rw [e1, if_pos c3]
        simp only [putT, Nat.reduceLT, T_set, X_guard EE_sym, T_get, lk_cons, Nat.reduceEqDiff, if_false, if_true, GDi_ff, X_eql EE_sym, ev_T, ev_const, eq_int, decide_true, okI_some, X_pick EE_sym, pickV_bool, Bool.false_eq_true, X_assign, X_nil, Int.reduceEq, thenQ_normal, W_cond, CDi_t, w9_9, W_seq, w9_8, Mem.next_bump, Nat.le_add_right, bump_bump, Nat.reduceAdd, W_ret, blockQ_ret, thenQ_ret, FinX_ret, resA_tmp, resA_nil, Option.map_some, oneOr2, true_and]
        exact (FrT.same (t := t) (b := b) hm _).raw ⟨rfl, h.bump _, FrT.same hm _⟩
      · have e1 : forkE L room top p = 0 := by unfold forkE; rw [if_pos c1, if_neg c2, if_neg c3]
        have d3 : decide (top + 1 = 0) = false := decide_eq_false (by omega)
        have hw : IntKind.i64.wrap (top + 1) = top + 1 := by rw [wrap_i64 (by omega) (by omega)]
        have h6 := h.mp
        have htb : ¬ b = t := fun e => lt.2.2 e.symm
        have w0 : (cs.write 2 [In (top + 1)]).nth 0 = some (In room) := by rw [nth_write, if_neg (by omega), h3]
        have w1 : (cs.write 2 [In (top + 1)]).nth 1 = some (.map (some b)) := by rw [nth_write, if_neg (by omega), h4]
        have w2 : (cs.write 2 [In (top + 1)]).nth 2 = some (In (top + 1)) := nth_write_same (by omega)
        unfold forkT forkL
        rw [e1, if_neg c3]
        simp only [putT, Nat.reduceLT, T_set, X_guard EE_sym, T_get, lk_cons, Nat.reduceEqDiff, if_false, if_true, GDi_ff, X_eql EE_sym, ev_T, ev_const, eq_int, d3, okI_some, X_pick EE_sym, pickV_bool, Bool.false_eq_true, X_assign, X_nil, thenQ_normal, W_cond, CDi_f, W_skip, blockQ_normal, W_seq, w9_13, Mem.next_bump, Nat.le_add_right, bump_bump, Nat.reduceAdd, X_move, Nat.one_ne_zero, X_nilCheck EE_sym, nilV_ptr, X_fieldAddr EE_sym fo_60_2, offV_ptr, Nat.zero_add, X_load EE_sym, load1 lay_3, Mem.get_bump, h1, ld1_cells, h5, X_bin EE_sym (op := .add) rfl, bin_add, hw, X_store, store1 sz_3, cells_int, st1_cells, List.length_cons, List.length_nil, h2, Nat.le_refl, List.all_cons, oneCell, List.all_nil, Bool.and_self, and_self, put_bump, w9_14, Mem.next_put, X_fieldAddr EE_sym fo_60_1, load1 lay_58, Mem.get_put, w1, w2, X_build EE_sym, List.map_cons, List.map_nil, b57b, X_mapUpdate, ms_at, htb, h6, msC_ml, w9_15, lt.2.2, W_ret, FinX_ret, resA_tmp, resA_nil, Option.map_some, oneOr2, true_and]
        exact (FrT.put2 h hm _ _ _).raw ⟨rfl, ⟨⟨_, by rw [Mem.get_bump, Mem.get_put, if_neg lt.2.2, Mem.get_put, if_pos rfl], by rw [write_n, h2], w0, w1, w2⟩, by rw [Mem.get_bump, Mem.get_put, if_pos rfl], h.rm⟩, FrT.put2 h hm _ _ _⟩
  · have d1 : decide ((at_ L p).2.1 = 1) = false := decide_eq_false c1
    have e1 : forkE L room top p = 2 := by unfold forkE; rw [if_neg c1]
    unfold forkT forkL
    rw [e1]
    simp only [putT, Nat.reduceLT, T_set, X_neq EE_sym, ev_T, lk_cons, Nat.reduceEqDiff, if_false, if_true, ev_const, neq_int, d1, Bool.not_false, okI_some, X_assign, X_nil, Int.reduceEq, thenQ_normal, W_cond, CDi_t, w9_6, W_seq, w9_5, Mem.next_bump, Nat.le_add_right, bump_bump, Nat.reduceAdd, W_ret, blockQ_ret, thenQ_ret, FinX_ret, resA_tmp, T_get, resA_nil, Option.map_some, oneOr2, true_and]
    exact (FrT.same (t := t) (b := b) hm _).raw ⟨rfl, h.bump _, FrT.same hm _⟩
theorem wfT_set {x : Pr} (hw : wfT L) (hp : (Lit.int .i64 p).wf = true) : wfT (mset L p x) := by
  intro q hq
  have h1 : q.1 ∈ mkeys (mset L p x) := List.mem_map_of_mem hq
  have h2 : q.1 = p ∨ q.1 ∈ mkeys L := by
    rw [keys_set] at h1
    split at h1
    · exact .inr h1
    · rcases List.mem_append.1 h1 with h | h
      · exact .inr h
      · exact .inl (List.mem_singleton.1 h)
  rcases h2 with h | h
  · rw [h]; exact hp
  · obtain ⟨r, h2, h3⟩ := List.mem_map.1 h
    rw [← h3]; exact hw r h2
theorem set_len {x : Pr} : ∀ {L : TL}, (mset L p x).length ≤ L.length + 1
  | [] => Nat.le_refl _
  | (q, u) :: L => by
    have ih := set_len (x := x) (L := L)
    unfold mset
    split
    · simp
    · simp only [List.length_cons]; omega
theorem in_keys (h : (at_ L p).2.1 ≠ 0) : p ∈ mkeys L := by
  apply Classical.byContradiction
  intro hn
  apply h
  unfold at_
  rw [mget_none hn]; rfl
/-- What Exit answers, and leaves. -/
def exitE (L : TL) (p : Int) : Int := if (at_ L p).2.1 = 1 then (if p = 1 then 2 else 0) else 2
def exitB (L : TL) (p : Int) (s : BitVec 32) : TL := mset L p ((at_ L p).1, 2, s)
def up1 (A : TL) (c : Int) : TL := mset A c (1, (at_ A c).2)
def exitL (L : TL) (p : Int) (s : BitVec 32) : TL := if exitE L p = 0 then (kids (exitB L p s) p).foldl up1 (exitB L p s) else L
theorem il_nth {l : List Int} {cs : Cells} {n c i : Nat} (k2 : cs.n = c * 1) (k3 : n ≤ c) (k4 : ∀ x, x < (il l).length → cs.get x = (il l).getD x undef) (hi : i < l.length) (hn : l.length = n := by rfl) : cs.nth i = some (In (l.getD i 0)) := by
  rw [nth_lt (by rw [k2, Nat.mul_one]; omega), k4 i (by unfold il; rw [List.length_map]; exact hi)]
  unfold il
  rw [List.getD_eq_getElem?_getD, List.getElem?_map, List.getD_eq_getElem?_getD, List.getElem?_eq_getElem hi]; rfl
theorem msP {m : Mem} {b : Nat} {n x y : Int} {z : BitVec 32} {L : TL} : msC (.int .i64) (.int .i64 n) (.agg [In x, In y, Um z].toArray) b m (some (.map (ml Pv L) true)) = some (m.put b (.map (ml Pv (mset L n (x, y, z))) true)) := msC_ml (f := Pv) (x := (x, y, z))
theorem lc_w {x y : Int} {z : BitVec 32} {q : Int} : (((Cells.ofList [.int .i64 0, .int .i64 0, .int .u32 0]).write 0 [In x, In y, Um z]).write 0 [In q]).sub 0 3 = some [In q, In y, Um z] := rfl
theorem wf_in (hw : wfT L) (hp : p ∈ mkeys L) : (Lit.int .i64 p).wf = true := by
  obtain ⟨r, h2, h3⟩ := List.mem_map.1 hp
  rw [← h3]; exact hw r h2
theorem exit_ok (h : TAt m t b room top L) (hm : Fresh m) (hw : wfT L) (hlen : L.length < 100000) : ∃ u m', Con EE.P 10 [PT t, In p, Um s] m u m' ∧ (∃ v, u = .tuple [v, In (exitE L p)].toArray ∧ (if exitE L p = 0 then SlV m' 1 v (kids (exitB L p s) p).length (il (kids (exitB L p s) p)) else v = .slice none 0 0) ∧ ∀ y, slB v = some y → m.next ≤ y) ∧ TAt m' t b room top (exitL L p s) ∧ FrT m m' t b := by
  refine Con.raw EE_ok fn10 (Nat.le_of_ble_eq_true rfl) _ ?_
  obtain ⟨cs, h1, h2, h3, h4, h5⟩ := h.cs
  have lt := h.lt hm
  simp only [f10, enumV, Nat.zero_add, Nat.reduceAdd, w10, W_seq, w10_0, Nat.le_refl, X_assign, ev_const, Nat.reduceLT, T_set, X_nil, thenQ_normal, W_block, w10_8, w10_1, Mem.next_bump, Nat.le_add_right, bump_bump, X_move, ev_T, lk_cons, Nat.reduceEqDiff, Nat.one_ne_zero, if_false, if_true, X_call ca_27, List.map_cons, List.map_nil, true_and]
  refine CallI.con0 (none_ok (h.bump _)) ?_
  simp only [putT, Nat.reduceLT, T_set, X_assign, ev_T, lk_cons, Nat.reduceEqDiff, if_false, if_true, X_nil, thenQ_normal, W_cond, CDi_f, w10_7, W_seq, w10_4, Mem.next_bump, Nat.le_add_right, bump_bump, Nat.reduceAdd, X_move, Nat.one_ne_zero, X_call ca_17, List.map_cons, List.map_nil, true_and]
  refine CallI.con0 (state_ok (h.bump _)) ?_
  by_cases c1 : (at_ L p).2.1 = 1
  · have d1 : decide ((at_ L p).2.1 = 1) = true := decide_eq_true c1
    by_cases c2 : p = 1
    · have d2 := decide_eq_true c2
      have e1 : exitE L p = 2 := by unfold exitE; rw [if_pos c1, if_pos c2]
      unfold exitL
      rw [e1]
      simp only [putT, Nat.reduceLT, T_set, X_neq EE_sym, ev_T, lk_cons, Nat.reduceEqDiff, if_false, if_true, ev_const, neq_int, d1, Bool.not_true, okI_some, X_move, X_guard EE_sym, T_get, GDi_ff, X_eql EE_sym, eq_int, d2, X_pick EE_sym, pickV_bool, Bool.false_eq_true, X_assign, X_nil, Int.reduceEq, thenQ_normal, W_cond, CDi_t, w10_6, W_seq, w10_5, Mem.next_bump, Nat.le_add_right, bump_bump, Nat.reduceAdd, W_ret, blockQ_ret, thenQ_ret, FinX_ret, resA_tmp, resA_nil, Option.map_some, oneOr2, true_and]
      exact (FrT.same (t := t) (b := b) hm _).raw ⟨⟨_, rfl, rfl, fun y hy => (by cases hy)⟩, h.bump _, FrT.same hm _⟩
    · have d2 := decide_eq_false c2
      have e1 : exitE L p = 0 := by unfold exitE; rw [if_pos c1, if_neg c2]
      have h6 := h.mp
      unfold exitL
      rw [e1]
      simp only [putT, Nat.reduceLT, T_set, X_neq EE_sym, ev_T, lk_cons, Nat.reduceEqDiff, if_false, if_true, ev_const, neq_int, d1, Bool.not_true, okI_some, X_move, X_guard EE_sym, T_get, GDi_ff, X_eql EE_sym, eq_int, d2, X_pick EE_sym, pickV_bool, Bool.false_eq_true, X_assign, X_nil, thenQ_normal, W_cond, CDi_f, W_skip, blockQ_normal, W_seq, w10_9, Mem.next_bump, Nat.le_add_right, bump_bump, Nat.reduceAdd, Nat.one_ne_zero, X_nilCheck EE_sym, nilV_ptr, X_fieldAddr EE_sym fo_60_1, offV_ptr, Nat.zero_add, X_load EE_sym, load1 lay_58, Mem.get_bump, h1, ld1_cells, h4, X_lookup EE_sym, lk_at, h6, lupC_f, getD_Pv, X_field EE_sym, true_and]
      rw [fi_0 (y := at_ L p) rfl]
      simp only [okI_some, Nat.reduceLT, T_set, X_move, ev_T, lk_cons, Nat.reduceEqDiff, if_true, if_false, X_build EE_sym, List.map_cons, ev_const, List.map_nil, b57, X_mapUpdate, ms_at, Mem.get_bump, h6, msC_ml, put_bump, X_nil, thenQ_normal, W_seq, w10_10, Mem.next_bump, Mem.next_put, Nat.le_add_right, bump_bump, Nat.reduceAdd, Nat.one_ne_zero, X_call ca_13, true_and]
      have hB : TAt ((m.put b (.map (ml Pv (exitB L p s)) true)).bump 33) t b room top (exitB L p s) := TAt.putb h hm _
      have hFB : FrT m ((m.put b (.map (ml Pv (exitB L p s)) true)).bump 33) t b := FrT.putb h hm _ _
      have hwB : wfT (exitB L p s) := wfT_set hw (wf_in hw (in_keys (by omega)))
      have hlB : (exitB L p s).length ≤ L.length + 1 := set_len
      refine CallI.ex2 (children_ok (pid := p) hB hFB.fresh hwB (by omega)) fun v M1 hN => ?_
      have hN := hN
      have nN := hN.nx
      have hB1 := hB.nx hFB.fresh nN
      have hF1 := hFB.trans (FrT.of_nx nN)
      have n1 := hF1.next
      obtain ⟨KK, hKK⟩ : ∃ KK, KK = kids (exitB L p s) p := ⟨_, rfl⟩
      obtain ⟨LB, hLB⟩ : ∃ LB, LB = exitB L p s := ⟨_, rfl⟩
      have hKl : KK.length ≤ L.length + 1 := by rw [hKK]; exact Nat.le_trans kids_len hlB
      have hNs : SlV M1 1 v KK.length (il KK) := by rw [hKK]; exact hN.sl
      have hNn : ∀ y, slB v = some y → m.next ≤ y := fun y hy => by have := hN.new y hy; simp only [Mem.next_bump, Mem.next_put] at this; omega
      rw [← hLB] at hB1
      rw [← hKK, ← hLB]
      clear hN nN hB hFB
      have hlenA : ∀ M, lenA EE.P 33 v M = some (In KK.length) := fun M => hNs.lenA und_33
      simp only [putT, Nat.reduceLT, T_set, X_assign, ev_T, lk_cons, Nat.reduceEqDiff, if_false, if_true, X_nil, thenQ_normal, W_seq, w10_11, n1, X_move, X_len EE_sym, hlenA, okI_some, ev_const, W_block, w10_20, true_and]
      refine WX.loop_of (fun k tt M => ∃ i : Nat, i ≤ KK.length ∧ k = KK.length - i ∧ tt = T 62 [(43, In i), (42, In KK.length), (41, v), (8, v), (0, PT t)] ∧ TAt M t b room top ((KK.take i).foldl up1 LB) ∧ FrT m M t b ∧ SlV M 1 v KK.length (il KK)) ?_ (k := KK.length) (t1 := T 62 [(43, In (0 : Nat)), (42, In KK.length), (41, v), (8, v), (0, PT t)]) (View.temps ⟨rfl, rfl, rfl, rfl, rfl, trivial⟩) ⟨0, by omega, rfl, rfl, hB1.bump _, hF1.bump _, hNs.bump _⟩
      rintro k tt M2 ⟨i, hi, rfl, rfl, hT, hF, hV⟩
      have n2 := hF.next
      by_cases hi2 : i < KK.length
      · have g1 : (i : Int) < (KK.length : Int) := by omega
        have g2 : (0 : Int) ≤ i := by omega
        have hw1 : IntKind.i64.wrap ((i : Int) + 1) = ((i + 1 : Nat) : Int) := by rw [wrap_i64 (by omega) (by omega)]; omega
        obtain ⟨K, cK, csK, rfl, k1, k2, k3, k4⟩ := hV.cons (by omega)
        have hq : csK.nth i = some (In (KK.getD i 0)) := il_nth k2 k3 k4 hi2
        obtain ⟨ds, t1, _, _, t4, _⟩ := hT.cs
        have t6 := hT.mp
        have l2 := hT.lt hF.fresh
        have lK := hF.fresh.lt k1
        have ht : ∀ j, ¬ t = M2.next + j := fun j => by omega
        have hb : ∀ j, ¬ b = M2.next + j := fun j => by omega
        have hk : ∀ j, ¬ K = M2.next + j := fun j => by omega
        simp only [w10_19, W_seq, w10_12, n2, X_bin EE_sym (op := .lss) rfl, Nat.reduceLT, ev_T, lk_cons, Nat.reduceEqDiff, if_false, if_true, bin_lss, g1, decide_true, okI_some, T_set, X_nil, thenQ_normal, W_cond, CDi_t, W_skip, W_block, w10_17, w10_13, Mem.next_bump, Nat.le_add_right_of_le, bump_bump, Nat.reduceAdd, X_indexAddr EE_sym, g2, idxV_slice und_33 sz_3, Int.toNat_natCast, Nat.mul_one, Nat.zero_add, X_load EE_sym, load1 lay_3, Mem.get_bump, k1, ld1_cells, hq, X_assign, w10_14, X_move, X_nilCheck EE_sym, nilV_ptr, X_fieldAddr EE_sym fo_60_1, offV_ptr, load1 lay_58, t1, t4, X_lookup EE_sym, lk_at, t6, lupC_f, getD_Pv, X_alloc, zero_57, Nat.add_assoc, put_bump, X_store, store1 sz_57, Mem.get_put, cells_agg, st1_cells, List.length_cons, List.length_nil, ofList_n, Nat.le_refl, List.all_cons, oneCell, List.all_nil, Bool.and_self, and_self, w10_15, Mem.next_put, X_fieldAddr EE_sym fo_57_0, Nat.add_zero, ev_const, store1 sz_3, cells_int, write_n, Nat.reduceLeDiff, w10_16, ht, loadN lay_57, ldN_cells, lc_w, Option.map_some, X_mapUpdate, ms_at, hb, msP, blockQ_normal, w10_18, X_bin EE_sym (op := .add) rfl, bin_add, hw1, roundQ_normal, true_and]
        have hstep : (KK.take (i + 1)).foldl up1 LB = mset ((KK.take i).foldl up1 LB) (KK.getD i 0) (1, (at_ ((KK.take i).foldl up1 LB) (KK.getD i 0)).2.1, (at_ ((KK.take i).foldl up1 LB) (KK.getD i 0)).2.2) := by
          rw [List.take_add_one, List.getElem?_eq_getElem hi2, List.foldl_append, List.getD_eq_getElem?_getD, List.getElem?_eq_getElem hi2]; rfl
        have hlo : ∀ o1 o2 o3 j, 11 ≤ j → Lo M2 (((M2.put (M2.next + 10) o1).put (M2.next + 10) o2).put (M2.next + 10) o3) j := fun o1 o2 o3 j hj => (((Lo.refl hF.fresh).put ⟨by omega, by omega⟩).put ⟨by omega, by omega⟩).put ⟨by omega, by omega⟩
        refine ⟨KK.length - (i + 1), _, _, by omega, View.temps (l' := [(43, In ((i + 1 : Nat) : Int)), (42, In KK.length), (41, .slice (some ⟨K, 0, none⟩) KK.length cK), (8, .slice (some ⟨K, 0, none⟩) KK.length cK), (0, PT t)]) ⟨rfl, rfl, rfl, rfl, rfl, trivial⟩, i + 1, by omega, rfl, rfl, ?_, hF.lo hT (by rw [h6]; simp) (hlo _ _ _ _ (by omega)), hV.keep fun y o hy ho => ?_⟩
        · rw [hstep]
          exact TAt.lo hF.fresh hT (hlo _ _ _ _ (by omega))
        · have e : K = y := Option.some.inj hy
          subst e
          rw [Mem.get_bump, Mem.get_put, if_neg (fun e => by rw [e, t6] at k1; cases k1), (hlo _ _ _ 30 (by omega)).old K lK]
          exact ho
      · obtain rfl : i = KK.length := by omega
        have q1 : ¬ (KK.length : Int) < (KK.length : Int) := by omega
        rw [List.take_of_length_le (Nat.le_refl _)] at hT
        simp only [w10_19, W_seq, w10_12, n2, X_bin EE_sym (op := .lss) rfl, Nat.reduceLT, ev_T, lk_cons, Nat.reduceEqDiff, if_false, if_true, bin_lss, q1, decide_false, okI_some, T_set, X_nil, thenQ_normal, W_cond, CDi_f, W_exit, thenQ_exit, roundQ_exit, blockQ_exit, w10_21, Mem.next_bump, Nat.le_add_right_of_le, bump_bump, Nat.reduceAdd, X_move, X_assign, ev_const, W_ret, FinX_ret, resA_tmp, T_get, resA_nil, Option.map_some, oneOr2, true_and]
        exact (hF.bump _).raw ⟨⟨v, rfl, hV.bump _, hNn⟩, hT.bump _, hF.bump _⟩
  · have d1 : decide ((at_ L p).2.1 = 1) = false := decide_eq_false c1
    have e1 : exitE L p = 2 := by unfold exitE; rw [if_neg c1]
    unfold exitL
    rw [e1]
    simp only [putT, Nat.reduceLT, T_set, X_neq EE_sym, ev_T, lk_cons, Nat.reduceEqDiff, if_false, if_true, ev_const, neq_int, d1, Bool.not_false, okI_some, X_move, X_guard EE_sym, T_get, GDi_tf, X_pick EE_sym, pickV_bool, X_assign, X_nil, Int.reduceEq, thenQ_normal, W_cond, CDi_t, w10_6, W_seq, w10_5, Mem.next_bump, Nat.le_add_right, bump_bump, Nat.reduceAdd, W_ret, blockQ_ret, thenQ_ret, FinX_ret, resA_tmp, resA_nil, Option.map_some, oneOr2, true_and]
    exact (FrT.same (t := t) (b := b) hm _).raw ⟨⟨_, rfl, rfl, fun y hy => (by cases hy)⟩, h.bump _, FrT.same hm _⟩
end
end
end Go.Ab
