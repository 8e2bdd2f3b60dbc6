/- Queue: calls that turn the queues. -/
import Derived.Test.YtikmfccjfhobbaaQuD
namespace Go.Ab
open Go.Proofs
noncomputable section
set_option maxHeartbeats 2000000
section
variable {m : Mem} {b : Nat} {O : Nat → Prop} {sl : Nat → Value} {cs : Cells} {c : Nat} {l : Nat → List Int} {a : BitVec 32}
def Ox (O : Nat → Prop) (m M : Mem) (y : Nat) : Prop := O y ∨ (m.next ≤ y ∧ y < M.next)
def updL (l : Nat → List Int) (k : Nat) (l' : List Int) (j : Nat) : List Int := if j = k then l' else l j
theorem QAt.bne (h : QAt m b O sl cs c l) {k : Nat} (hk : k < 8) : slB (sl k) ≠ some b := fun e => by
  obtain ⟨c', h1⟩ := (h.sls k hk).ob e
  rw [h.at_] at h1
  cases h1
theorem QAt.turn {M : Mem} {k : Nat} {v' : Value} {l' : List Int} (h : QAt m b O sl cs c l) (hm : Fresh m) (hO : ∀ y, O y → y < m.next) (hk : k < 8) (hsl : SlI M v' l') (hnx : m.next ≤ M.next) (hblk : ∀ y, slB v' = some y → slB (sl k) = some y ∨ m.next ≤ y ∧ y < M.next)
    (hold : ∀ y, y < m.next → slB (sl k) ≠ some y → M.get y = m.get y) : QAt (M.put b (.cells (cs.write (1 + k) [v']) true 0)) b (Ox O m M) (fun j => if j = k then v' else sl j) (cs.write (1 + k) [v']) c (updL l k l') := by
  have hb := hm.lt h.at_
  have hn := h.n
  refine ⟨by rw [Mem.get_put, if_pos rfl], by rw [write_n, hn], by rw [nth_write, if_neg (by omega), h.c0], fun j hj => ?_, fun j hj => ?_, fun j hj y hy => ?_, .inl h.ob, fun j j' hj hj' hne y hy hy' => ?_, h.c8, h.c1⟩
  · rw [nth_write]
    by_cases e : j = k
    · subst e
      rw [if_pos ⟨Nat.le_refl _, by simp, by omega⟩, if_pos rfl, Nat.sub_self]
      rfl
    · rw [if_neg (by simp only [List.length_cons, List.length_nil]; omega), if_neg e]
      exact h.ck j hj
  · simp only [updL]
    by_cases e : j = k
    · subst e
      rw [if_pos rfl, if_pos rfl]
      refine hsl.keep fun y o hy ho => ?_
      have : y ≠ b := by
        rcases hblk y hy with h1 | h1
        · exact fun e => h.bne hj (e ▸ h1)
        · omega
      rw [Mem.get_put, if_neg this, ho]
    · rw [if_neg e, if_neg e]
      refine (h.sls j hj).keep fun y o hy ho => ?_
      have h1 : y ≠ b := fun e => h.bne hj (e ▸ hy)
      rw [Mem.get_put, if_neg h1, hold y (hO y (h.own j hj y hy)) (fun e2 => h.ne k j hk hj (fun e3 => e e3.symm) y e2 hy), ho]
  · by_cases e : j = k
    · subst e
      rw [if_pos rfl] at hy
      rcases hblk y hy with h1 | h1
      · exact .inl (h.own j hj y h1)
      · exact .inr h1
    · rw [if_neg e] at hy
      exact .inl (h.own j hj y hy)
  · by_cases e : j = k
    · subst e
      rw [if_pos rfl] at hy
      rw [if_neg (fun e => hne e.symm)] at hy'
      rcases hblk y hy with h1 | h1
      · exact h.ne j j' hj hj' hne y h1 hy'
      · have := hO y (h.own j' hj' y hy'); omega
    · rw [if_neg e] at hy
      by_cases e' : j' = k
      · subst e'
        rw [if_pos rfl] at hy'
        rcases hblk y hy' with h1 | h1
        · exact h.ne j j' hj hj' hne y hy h1
        · have := hO y (h.own j hj y hy); omega
      · rw [if_neg e'] at hy'
        exact h.ne j j' hj hj' hne y hy hy'
/-- Behind a call that turns the queues. -/
structure QN (m : Mem) (b : Nat) (O : Nat → Prop) (c : Nat) (l' : Nat → List Int) (m' : Mem) : Prop where
  next : m.next ≤ m'.next
  fresh : Fresh m'
  at_ : ∃ sl cs, QAt m' b (Ox O m m') sl cs c l'
  old : ∀ y, y < m.next → ¬ O y → m'.get y = m.get y
  low : ∀ y, y < m.next → m.get y = none → m'.get y = none
theorem QN.raw {m' : Mem} {v : Value} {l' : Nat → List Int} {R : Value → Mem → Prop} (h : QN m b O c l' m') (hR : R v m') : RawE m m' v R := ⟨⟨h.next, h.low⟩, hR⟩
theorem QAt.ox {M M' : Mem} {l' : Nat → List Int} (h : QAt M b (Ox O m M') sl cs c l') (hn : M'.next ≤ M.next) : QAt M b (Ox O m M) sl cs c l' :=
  ⟨h.at_, h.n, h.c0, h.ck, h.sls, fun k hk y hy => (h.own k hk y hy).imp id fun e => ⟨e.1, Nat.lt_of_lt_of_le e.2 hn⟩, h.ob.imp id fun e => ⟨e.1, Nat.lt_of_lt_of_le e.2 hn⟩, h.ne, h.c8, h.c1⟩
theorem put_ok {x : Int} {k : Nat} (h : QAt m b O sl cs c l) (hm : Fresh m) (hO : ∀ y, O y → y < m.next) (hk : k < 8) (hl : (l k).length < 1073741824) :
    ∃ v m', Con EE.P 31 [PT b, In x, In k] m v m' ∧ v = In k ∧ QN m b O c (updL l k (l k ++ [x])) m' := by
  refine Con.raw EE_ok fn31 (Nat.le_of_ble_eq_true rfl) _ ?_
  have hb := hm.lt h.at_
  have q2 : (0 : Int) ≤ k := by omega
  have q8 : (k : Int) < ((8 : Nat) : Int) := by omega
  have q3 := h.ck k hk
  have hbn := lt_ne hb
  have bs1 : bsV EE.P 30 1 [(0, In x)] = some ([In x], 1) := by kernel_rfl
  simp only [f31, enumV, Nat.zero_add, Nat.reduceAdd, w31, W_seq, w31_0, Nat.le_refl, X_assign, ev_const, Nat.reduceLT, T_set, X_nil, thenQ_normal, w31_1, Mem.next_bump, Nat.le_add_right, bump_bump, X_move, ev_T, lk_cons, Nat.reduceEqDiff, Nat.one_ne_zero, if_false, if_true, X_nilCheck EE_sym, nilV_ptr, okI_some, X_fieldAddr EE_sym fo_57_1, offV_ptr, X_indexAddr EE_sym, q2, q8, idxV_arr und_55 sz_30, Int.toNat_natCast, Nat.mul_one, X_load EE_sym, load1 lay_30, Mem.get_bump, h.at_, ld1_cells, q3, X_bs, List.map_cons, List.map_nil, bs1, Nat.add_assoc, put_bump, X_append, true_and]
  have hsl0 : SlI ((m.put (m.next + 10) (AObj.cells (Cells.ofList [In x]) true 1)).bump 16) (sl k) (l k) := (h.sls k hk).keep fun y o hy ho => by
    simp only [Mem.get_bump, Mem.get_put, lt_ne (hm.lt ho), if_false]; exact ho
  refine okI_app eo30 (k := 1) (new := [In x]) hsl0 (src_put rfl) (by decide) rfl rfl (.inl rfl) ⟨by omega, by omega⟩ fun v' M' hA => ?_
  have hs : SlI M' v' (l k ++ [x]) := by
    simpa only [SlI, il, List.length_append, List.map_append, List.map_cons, List.map_nil, List.length_cons, List.length_nil] using hA.sl
  have n1 := hA.next
  simp only [Mem.next_bump, Mem.next_put] at n1
  have n2 : m.next ≤ M'.next := by omega
  have hold : ∀ y, y < m.next → slB (sl k) ≠ some y → M'.get y = m.get y := fun y hy hyb => by
    rw [hA.old y (by omega) hyb]
    simp only [Mem.get_bump, Mem.get_put, lt_ne hy, if_false]
  have hMb : M'.get b = some (.cells cs true 0) := by rw [hold b hb (h.bne hk), h.at_]
  have hblk : ∀ y, slB v' = some y → slB (sl k) = some y ∨ m.next ≤ y ∧ y < M'.next := fun y hy => by
    rcases hA.blk with ⟨h1, _⟩ | h1
    · exact .inl (h1 ▸ hy)
    · rw [h1] at hy; cases hy; exact .inr ⟨by omega, by omega⟩
  have hlow : ∀ y, y ≠ m.next + 11 → y ≠ m.next + 10 → m.get y = none → M'.get y = none := fun y h1 h2 e => hA.low y h1 (by simp only [Mem.get_bump, Mem.get_put, h2, if_false]; exact e)
  have hQ := QAt.turn h hm hO hk hs n2 hblk hold
  obtain ⟨b', c', cs', hv', -⟩ := hs.cons (by simp)
  rw [show (l k ++ [x]).length = (l k).length + 1 by simp] at hv'
  subst hv'
  have h9 := h.n
  have hk9 : 1 + (k + 1) ≤ 9 := by omega
  simp only [Nat.reduceLT, T_set, X_move, ev_T, lk_cons, Nat.reduceEqDiff, Nat.one_ne_zero, if_false, if_true, X_nilCheck EE_sym, nilV_ptr, okI_some, X_fieldAddr EE_sym fo_57_1, offV_ptr, Nat.zero_add, X_indexAddr EE_sym, q2, q8, idxV_arr und_55 sz_30, Int.toNat_natCast, Nat.mul_one, X_store, store1 sz_30, hMb, cells_slice, st1_cells, List.length_cons, List.length_nil, Nat.add_assoc, h9, hk9, List.all_cons, oneCell, List.all_nil, Bool.and_self, and_self, X_nil, thenQ_normal, W_seq, w31_2, Mem.next_put, n2, X_assign, W_ret, FinX_ret, resA_tmp, T_get, resA_nil, Option.map_some, oneOr1, true_and]
  have hN : QN m b O c (updL l k (l k ++ [x])) ((M'.put b (.cells (cs.write (1 + k) [.slice (some ⟨b', 0, none⟩) ((l k).length + 1) c']) true 0)).bump 2) := by
    refine ⟨by simp only [Mem.next_bump, Mem.next_put]; omega, Fresh.of_low (by have := hm.n64; simp only [Mem.next_bump, Mem.next_put]; omega) (Low.bump (Low.put (fun y hy => ?_) (by simp only [Mem.next_bump, Mem.next_put]; omega))), ⟨_, _, (hQ.bump 2).ox (by simp only [Mem.next_bump, Mem.next_put]; omega)⟩, fun y hy hyO => ?_, fun y hy e => ?_⟩
    · simp only [Mem.next_bump, Mem.next_put] at hy
      exact hlow y (by omega) (by omega) (hm.none y (by omega))
    · have h1 : y ≠ b := fun e => hyO (e ▸ h.ob)
      simp only [Mem.get_bump, Mem.get_put, h1, if_false]
      exact hold y hy fun e => hyO (h.own k hk y e)
    · have h1 : y ≠ b := fun e2 => by rw [e2, h.at_] at e; cases e
      simp only [Mem.get_bump, Mem.get_put, h1, if_false]
      exact hlow y (by omega) (by omega) e
  exact ⟨⟨hN.next, hN.low⟩, rfl, hN⟩
end
end
end Go.Ab
