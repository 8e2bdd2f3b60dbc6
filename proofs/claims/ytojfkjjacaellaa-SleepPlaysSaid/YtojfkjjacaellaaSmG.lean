/- Sleep: the chapter's examples; lists compared; sleepers behind calls. -/
import Derived.Test.YtojfkjjacaellaaSmDF
import Derived.Test.YtojfkjjacaellaaTM
namespace Go.Ab
open Go.Proofs Go.RowKit
noncomputable section
set_option maxHeartbeats 4000000
set_option maxRecDepth 10000
def isTrue : Option (Out × Mem) → Bool
  | some (.val (.bool true), _) => true
  | _ => false
theorem isTrue_of {x : Option (Out × Mem)} (h : isTrue x = true) : ∃ m, x = some (.val (.bool true), m) := by
  unfold isTrue at h
  split at h
  · exact ⟨_, rfl⟩
  · cases h
theorem alive_run : isTrue (run (envS Try.prog 27 32) 600 (.call 8 []) m0) = true := by kernel_rfl
theorem alive_pure : PureOk Try.prog 8 [] (.bool true) := fun w => by
  obtain ⟨m, hm⟩ := isTrue_of alive_run
  refine callsIn_wide.2 ((call_sound (σ := Sig.none) Go.Proofs.Ytojfkjjacaellaa.E_sure hm (m0_rel w) (args' := #[]) (LRel.nil _)).mono ?_)
  rintro e w' ⟨v', ρ', rfl, hv, hp⟩
  rw [hv.bool_inv]
  exact ⟨rfl, hp.below m0_sealed⟩
section
variable {m : Mem}
theorem alive_ok : Con EE.P 8 [] m (.bool true) m := by
  refine ⟨fun ρ w args' hR hrel => ?_, Grow.rfl⟩
  have e2 : args' = #[] := by
    apply Array.toList_inj.1
    have := hrel.1
    simp only [List.length_nil] at this
    exact List.length_eq_zero_iff.1 this.symm
  subst e2
  refine (alive_pure w).mono ?_
  rintro x w' ⟨rfl, hb⟩
  exact ⟨_, ρ, rfl, .bool _, below_post hR hb, fun _ _ e => e⟩
theorem il_len {l : List Int} : (il l).length = l.length := by unfold il; rw [List.length_map]
theorem il_getD {l : List Int} {i : Nat} (h : i < l.length) : (il l).getD i undef = In (l.getD i 0) := by
  unfold il
  rw [List.getD_eq_getElem?_getD, List.getElem?_map, List.getElem?_eq_getElem h, List.getD_eq_getElem?_getD, List.getElem?_eq_getElem h]; rfl
theorem pl_len (L : SL) : (pl L).length = L.length * 2 := by
  induction L with
  | nil => rfl
  | cons p L ih =>
    have : (pl (p :: L)).length = (pl L).length + 2 := by unfold pl; simp [List.flatMap_cons]
    rw [this, ih, List.length_cons]; omega
theorem pl_getD : ∀ {L : SL} {j : Nat}, j < L.length → (pl L).getD (j * 2) undef = In (L.getD j (0, 0)).1 ∧ (pl L).getD (j * 2 + 1) undef = Um (L.getD j (0, 0)).2
  | [], _, h => absurd h (Nat.not_lt_zero _)
  | p :: L, 0, _ => ⟨rfl, rfl⟩
  | p :: L, j + 1, h => by
    have := pl_getD (L := L) (j := j) (by simpa using h)
    have e : pl (p :: L) = In p.1 :: Um p.2 :: pl L := rfl
    rw [e, show (j + 1) * 2 = j * 2 + 1 + 1 by omega]
    exact this
theorem same_i {v1 v2 : Value} {k : List Int} (h1 : SlV m 1 v1 k.length (il k)) (h2 : SlV m 1 v2 k.length (il k)) (hk : k.length < 4294967296) : Con EE.P 15 [v1, v2] m (.bool true) m := by
  refine Con.of EE_ok fn15 (Nat.le_of_ble_eq_true rfl) Grow.rfl fun hm => ?_
  have hl1 : ∀ M, lenA EE.P 36 v1 M = some (In k.length) := fun M => h1.lenA und_36
  have hl2 : ∀ M, lenA EE.P 36 v2 M = some (In k.length) := fun M => h2.lenA und_36
  simp only [f15, enumV, Nat.zero_add, w15, W_seq, w15_0, Nat.le_refl, X_assign, ev_const, Nat.reduceLT, T_set, X_nil, thenQ_normal, w15_1, Mem.next_bump, Nat.le_add_right, bump_bump, Nat.reduceAdd, X_move, ev_T, lk_cons, Nat.reduceEqDiff, Nat.one_ne_zero, if_false, if_true, X_len EE_sym, hl1, okI_some, hl2, X_neq EE_sym, neq_int, decide_true, Bool.not_true, W_cond, CDi_f, W_skip, w15_4, W_block, w15_12, true_and]
  refine WX.loop_of (fun x t M => ∃ i j : Nat, i ≤ k.length ∧ x = k.length - i ∧ t = T 26 [(5, In i), (0, v1), (1, v2)] ∧ M = m.bump j) ?_ (k := k.length) (t1 := T 26 [(5, In (0 : Nat)), (0, v1), (1, v2)]) (View.temps ⟨rfl, rfl, rfl, trivial⟩) ⟨0, _, by omega, rfl, rfl, rfl⟩
  rintro x t M ⟨i, j, hi, rfl, rfl, rfl⟩
  by_cases hi2 : i < k.length
  · have q1 : (i : Int) < (k.length : Int) := by omega
    have q2 : (0 : Int) ≤ i := by omega
    have hw : IntKind.i64.wrap ((i : Int) + 1) = ((i + 1 : Nat) : Int) := by rw [wrap_i64 (by omega) (by omega)]; omega
    obtain ⟨B1, c1, cB1, rfl, i1, i2, i3, i4⟩ := h1.cons (by omega)
    obtain ⟨B2, c2, cB2, rfl, j1, j2, j3, j4⟩ := h2.cons (by omega)
    have q3 : cB1.nth i = some (In (k.getD i 0)) := by rw [nth_lt (by omega), i4 i (by rw [il_len]; exact hi2), il_getD hi2]
    have q4 : cB2.nth i = some (In (k.getD i 0)) := by rw [nth_lt (by omega), j4 i (by rw [il_len]; exact hi2), il_getD hi2]
    simp only [w15_11, W_seq, w15_5, Mem.next_bump, Nat.le_add_right, bump_bump, X_move, Nat.reduceLT, ev_T, lk_cons, Nat.reduceEqDiff, if_false, if_true, T_set, Nat.one_ne_zero, X_len EE_sym, len_slice und_36, okI_some, X_bin EE_sym (op := .lss) rfl, bin_lss, q1, decide_true, X_nil, thenQ_normal, W_cond, CDi_t, W_skip, W_block, w15_9, w15_6, Nat.add_assoc, Nat.reduceAdd, X_indexAddr EE_sym, q2, idxV_slice und_36 sz_3, Int.toNat_natCast, Nat.mul_one, Nat.zero_add, X_load EE_sym, load1 lay_3, Mem.get_bump, i1, ld1_cells, q3, j1, q4, X_neq EE_sym, neq_int, Bool.not_true, CDi_f, blockQ_normal, w15_10, X_bin EE_sym (op := .add) rfl, ev_const, bin_add, hw, X_assign, roundQ_normal, true_and]
    exact ⟨k.length - (i + 1), _, _, by omega, View.temps (l' := [(5, In ((i + 1 : Nat) : Int)), (0, .slice (some ⟨B1, 0, none⟩) k.length c1), (1, .slice (some ⟨B2, 0, none⟩) k.length c2)]) ⟨rfl, rfl, rfl, trivial⟩, i + 1, _, by omega, rfl, rfl, rfl⟩
  · have q1 : ¬ (i : Int) < (k.length : Int) := by omega
    simp only [w15_11, W_seq, w15_5, Mem.next_bump, Nat.le_add_right, bump_bump, X_move, Nat.reduceLT, ev_T, lk_cons, Nat.reduceEqDiff, if_false, if_true, T_set, Nat.one_ne_zero, X_len EE_sym, hl1, okI_some, X_bin EE_sym (op := .lss) rfl, bin_lss, q1, decide_false, X_nil, thenQ_normal, W_cond, CDi_f, W_exit, thenQ_exit, roundQ_exit, blockQ_exit, w15_13, Nat.add_assoc, Nat.reduceAdd, X_assign, ev_const, W_ret, FinC_ret, resA_tmp, T_get, resA_nil, Option.map_some, oneOr1, true_and]
    exact TidyE.pure rfl fun _ _ => rfl
theorem cz44 : EE.P.cellsOf 44 = 2 := by kernel_rfl
theorem cz3 : EE.P.cellsOf 3 = 1 := by kernel_rfl
theorem cz30 : EE.P.cellsOf 30 = 1 := by kernel_rfl
theorem wf32 (x : BitVec 32) : (Lit.int .u32 (x.toNat : Int)).wf = true := by
  have := x.isLt
  simp [Lit.wf, IntKind.min, IntKind.max, IntKind.signed, IntKind.bits]
  omega
theorem mapM_on {α β γ : Type} (g : α → β) (f : β → Option γ) : ∀ l : List α, l.mapM (fun a => f (g a)) = (l.map g).mapM f
  | [] => rfl
  | a :: l => by simp only [List.mapM_cons, List.map_cons, mapM_on g f l]
theorem k44 (d : Nat) {p : Int} {n : BitVec 32} (hp : (Lit.int .i64 p).wf = true) : EE.P.keyLits (d + 2) 44 [In p, Um n] = some [.int .i64 p, .int .u32 n.toNat] := by
  have hu : EE.P.underlying 44 = some (.struct (EE.P.fieldsOf 44)) := by kernel_rfl
  have hf : (EE.P.fieldsOf 44).toList.map (fun f => (f.type, f.offset)) = [(3, 0), (30, 1)] := by kernel_rfl
  have hn : (EE.P.fieldsOf 44).all (·.name != "_") = true := by kernel_rfl
  have k3 : ∀ d, EE.P.keyLits (d + 1) 3 [In p] = some [.int .i64 p] := fun d => by
    simp [Program.keyLits, und_3, hp]
  have k30 : ∀ d, EE.P.keyLits (d + 1) 30 [Um n] = some [.int .u32 n.toNat] := fun d => by
    simp [Program.keyLits, und_30, wf32]
  unfold Program.keyLits
  rw [hu]
  show (if _ = EE.P.cellsOf 44 ∧ _ then _ else _) = _
  rw [if_pos ⟨by rw [cz44]; rfl, hn⟩, mapM_on (fun f : Field => (f.type, f.offset)) (fun p' => EE.P.keyLits (d + 1) p'.1 (List.take (EE.P.cellsOf p'.1) (List.drop p'.2 [In p, Um n]))), hf]
  simp [cz3, cz30, k3, k30]
/-- A pair compared with itself. -/
theorem eq_pair {p : Int} {n : BitVec 32} {xo yo : Operand} (hp : (Lit.int .i64 p).wf = true) : eqA EE.P .neq 44 xo yo (.agg [In p, Um n].toArray) (.agg [In p, Um n].toArray) m = some (.bool false) := by
  obtain ⟨r, h1, h2⟩ := run_equalIn_deep (P := EE.P) 9998 2 44 (by kernel_rfl) default (EE.P.types.size + 1) (EE.P.types.size + 1) (.agg [In p, Um n].toArray) (.agg [In p, Um n].toArray) _ _ (by kernel_rfl) (by kernel_rfl) (k44 _ hp) (k44 _ hp)
  have e : r = true := h2.2 rfl
  subst e
  exact eqA_agg (.inr rfl) rfl rfl (by simp [smpC]) (by simp [smpC]) (by kernel_rfl) h1
/-- The struct's pairs, where they lie. -/
theorem pl_at {M : Mem} {v : Value} {L : SL} {i : Nat} (h : SlV M 2 v L.length (pl L)) (hi : i < L.length) : ∃ B c cB, v = .slice (some ⟨B, 0, none⟩) L.length c ∧ M.get B = some (.cells cB true 2) ∧ L.length ≤ c ∧ cB.nth (i * 2) = some (In (L.getD i (0, 0)).1) ∧ cB.nth (i * 2 + 1) = some (Um (L.getD i (0, 0)).2) ∧ cB.sub (i * 2) 2 = some [In (L.getD i (0, 0)).1, Um (L.getD i (0, 0)).2] := by
  obtain ⟨B, c, cB, rfl, i1, i2, i3, i4⟩ := h.cons (by omega)
  have hl := pl_len L
  obtain ⟨g1, g2⟩ := pl_getD hi
  have e1 : cB.get (i * 2) = In (L.getD i (0, 0)).1 := by rw [i4 _ (by omega), g1]
  have e2 : cB.get (i * 2 + 1) = Um (L.getD i (0, 0)).2 := by rw [i4 _ (by omega), g2]
  refine ⟨B, c, cB, rfl, i1, i3, by rw [nth_lt (by omega), e1], by rw [nth_lt (by omega), e2], sub_get (by rfl) (by omega) fun x hx => ?_⟩
  have hx : x < 2 := hx
  rcases (show x = 0 ∨ x = 1 by omega) with rfl | rfl
  · exact e1
  · exact e2
theorem same_p {v1 v2 : Value} {L : SL} (h1 : SlV m 2 v1 L.length (pl L)) (h2 : SlV m 2 v2 L.length (pl L)) (hw : ∀ i, i < L.length → (Lit.int .i64 (L.getD i (0, 0)).1).wf = true) (hk : L.length < 4294967296) : Con EE.P 10 [v1, v2] m (.bool true) m := by
  refine Con.of EE_ok fn10 (Nat.le_of_ble_eq_true rfl) Grow.rfl fun hm => ?_
  have hl1 : ∀ M, lenA EE.P 34 v1 M = some (In L.length) := fun M => h1.lenA und_34
  have hl2 : ∀ M, lenA EE.P 34 v2 M = some (In L.length) := fun M => h2.lenA und_34
  simp only [f10, enumV, Nat.zero_add, w10, W_seq, w10_0, Nat.le_refl, X_assign, ev_const, Nat.reduceLT, T_set, X_nil, thenQ_normal, w10_1, Mem.next_bump, Nat.le_add_right, bump_bump, Nat.reduceAdd, X_move, ev_T, lk_cons, Nat.reduceEqDiff, Nat.one_ne_zero, if_false, if_true, X_len EE_sym, hl1, okI_some, hl2, X_neq EE_sym, neq_int, decide_true, Bool.not_true, W_cond, CDi_f, W_skip, w10_4, W_block, w10_12, true_and]
  refine WX.loop_of (fun x t M => ∃ i j : Nat, i ≤ L.length ∧ x = L.length - i ∧ t = T 26 [(5, In i), (0, v1), (1, v2)] ∧ M = m.bump j) ?_ (k := L.length) (t1 := T 26 [(5, In (0 : Nat)), (0, v1), (1, v2)]) (View.temps ⟨rfl, rfl, rfl, trivial⟩) ⟨0, _, by omega, rfl, rfl, rfl⟩
  rintro x t M ⟨i, j, hi, rfl, rfl, rfl⟩
  by_cases hi2 : i < L.length
  · have q1 : (i : Int) < (L.length : Int) := by omega
    have q2 : (0 : Int) ≤ i := by omega
    have hw1 : IntKind.i64.wrap ((i : Int) + 1) = ((i + 1 : Nat) : Int) := by rw [wrap_i64 (by omega) (by omega)]; omega
    have hep := fun m xo yo => eq_pair (m := m) (n := (L.getD i (0, 0)).2) (xo := xo) (yo := yo) (hw i hi2)
    obtain ⟨B1, c1, cB1, rfl, i1, _, _, _, i3⟩ := pl_at h1 hi2
    obtain ⟨B2, c2, cB2, rfl, j1, _, _, _, j3⟩ := pl_at h2 hi2
    simp only [w10_11, W_seq, w10_5, Mem.next_bump, Nat.le_add_right, bump_bump, X_move, Nat.reduceLT, ev_T, lk_cons, Nat.reduceEqDiff, if_false, if_true, T_set, Nat.one_ne_zero, X_len EE_sym, len_slice und_34, okI_some, X_bin EE_sym (op := .lss) rfl, bin_lss, q1, decide_true, X_nil, thenQ_normal, W_cond, CDi_t, W_skip, W_block, w10_9, w10_6, Nat.add_assoc, Nat.reduceAdd, X_indexAddr EE_sym, q2, idxV_slice und_34 sz_44, Int.toNat_natCast, Nat.zero_add, X_load EE_sym, loadN lay_44, Mem.get_bump, i1, ldN_cells, i3, Option.map_some, j1, j3, X_neq EE_sym, hep, CDi_f, blockQ_normal, w10_10, X_bin EE_sym (op := .add) rfl, ev_const, bin_add, hw1, X_assign, roundQ_normal, true_and]
    exact ⟨L.length - (i + 1), _, _, by omega, View.temps (l' := [(5, In ((i + 1 : Nat) : Int)), (0, .slice (some ⟨B1, 0, none⟩) L.length c1), (1, .slice (some ⟨B2, 0, none⟩) L.length c2)]) ⟨rfl, rfl, rfl, trivial⟩, i + 1, _, by omega, rfl, rfl, rfl⟩
  · have q1 : ¬ (i : Int) < (L.length : Int) := by omega
    simp only [w10_11, W_seq, w10_5, Mem.next_bump, Nat.le_add_right, bump_bump, X_move, Nat.reduceLT, ev_T, lk_cons, Nat.reduceEqDiff, if_false, if_true, T_set, Nat.one_ne_zero, X_len EE_sym, hl1, okI_some, X_bin EE_sym (op := .lss) rfl, bin_lss, q1, decide_false, X_nil, thenQ_normal, W_cond, CDi_f, W_exit, thenQ_exit, roundQ_exit, blockQ_exit, w10_13, Nat.add_assoc, Nat.reduceAdd, X_assign, ev_const, W_ret, FinC_ret, resA_tmp, T_get, resA_nil, Option.map_some, oneOr1, true_and]
    exact TidyE.pure rfl fun _ _ => rfl
end
end
end Go.Ab
