/- Queue: calls that turn a slice. -/
import Derived.Test.YtikmfccjfhobbaaQuC
namespace Go.Ab
open Go.Proofs
noncomputable section
set_option maxHeartbeats 2000000
section
variable {base i : Nat} {rest : List (Nat × SOp)} {L : List Inst} {t : List Value} {m : Mem} {K : KI} {rt ty : TypeId} {d : Tmp}
theorem X_slice3 {x h mx : Operand} {l : Option Operand} : XWi EE base ((i, ⟨some d, .slice ty x l (some h) (some mx), rt, none⟩) :: rest) L t m (Q := K) = okI (slice3A EE.P ty (ev x t) (l.map (ev · t)) (ev h t) (ev mx t)) (k := ⟨fun v => XWi EE base rest L (t.set d v) m (Q := K)⟩) := by
  refine propext (Iff.trans (XW_pure rfl rfl) ?_)
  rw [pureE_none EE_sym]
  rfl
end
theorem bnd_some {k : IntKind} {x : Int} {top d : Nat} (h0 : 0 ≤ x) (h1 : x ≤ top) : bndA (some (.int k x)) top d = some x.toNat := by
  show (if 0 ≤ x ∧ x ≤ (top : Int) then some x.toNat else none) = _
  rw [if_pos ⟨h0, h1⟩]
theorem slice3_ok {b n c i : Nat} (h : i < n) (hn : n ≤ c) : ∃ v, slice3A EE.P 30 (.slice (some ⟨b, 0, none⟩) n c) (some (In i)) (In ((i + 1 : Nat) : Int)) (In n) = some v := by
  unfold slice3A
  simp only [und_30]
  rw [bnd_some (by omega) (by omega)]
  simp only
  rw [bnd_some (by omega) (by omega)]
  simp only
  rw [bnd_some (by omega) (by omega)]
  have hz : szOf EE.P 3 = some 1 := sz_3
  simp only [hz]
  exact ⟨_, rfl⟩
theorem slice_end {b n : Nat} (hn : n ≠ 0) : sliceA EE.P 30 (.slice (some ⟨b, 0, none⟩) n n) (some (In n)) none = some lost := by
  unfold sliceA
  simp only [und_30]
  rw [show bndA none n n = some n from rfl]
  simp only
  rw [bnd_some (by omega) (by omega)]
  have hz : szOf EE.P 3 = some 1 := sz_3
  simp only [hz]
  rw [if_neg (by omega), if_neg (by omega), if_pos (by omega)]
theorem slice_mid {b n n' c i : Nat} (h : i ≤ n) (hn : n ≤ c) (hi : i < c) : sliceA EE.P 30 (.slice (some ⟨b, 0, none⟩) n' c) (some (In i)) (some (In n)) = some (.slice (some ⟨b, i, none⟩) (n - i) (c - i)) := by
  unfold sliceA
  simp only [und_30]
  rw [bnd_some (by omega) (by omega)]
  simp only
  rw [bnd_some (by omega) (by omega)]
  have hz : szOf EE.P 3 = some 1 := sz_3
  simp only [hz]
  by_cases h0 : i = 0
  · subst h0
    simp
  · rw [if_neg (by omega), if_pos (by omega)]
    simp
theorem src_lost {sz : Nat} {m : Mem} : srcA sz lost m = some ([], 0) := rfl
theorem app_none {id n c b k : Nat} {x : Value} {m : Mem} (hsrc : srcA 1 x m = some ([], 0)) (hn : n ≤ c) : appendA EE.P id #[30, 30] (.slice (some ⟨b, 0, none⟩) n c) x m = some (.slice (some ⟨b, 0, none⟩) n c, m) := by
  obtain ⟨h1, ⟨i, h2, h3, h4⟩, h5, z, h6, h7, h8⟩ := eo30
  unfold appendA
  simp only [List.getElem?_toArray, List.getElem?_cons_zero, List.getElem?_cons_succ, h1, h2, h3, hsrc]
  rw [if_pos trivial, if_pos hn]
theorem zero3 : zeroOf EE.P 3 = some (.int .i64 0) := by kernel_rfl
section
variable {m : Mem}
/-- A slice turned in its place. -/
structure SlTurn (m : Mem) (v : Value) (m' : Mem) (v' : Value) (l' : List Int) : Prop where
  next : m.next ≤ m'.next
  fresh : Fresh m'
  sl : SlI m' v' l'
  blk : slB v' = slB v
  old : ∀ y, y < m.next → slB v ≠ some y → m'.get y = m.get y
theorem eraseIdx_getD {l : List Int} {i j : Nat} (hj : j + 1 < l.length) : (l.eraseIdx i).getD j 0 = if j < i then l.getD j 0 else l.getD (j + 1) 0 := by
  simp only [List.getD_eq_getElem?_getD, List.getElem?_eraseIdx]
  split <;> rfl
theorem del_ok {v : Value} {l : List Int} {i : Nat} (hm : Fresh m) (h : SlI m v l) (hi : i < l.length) (hl : l.length < 4294967296) : ∃ v' m', Con EE.P 39 [v, In i, In ((i + 1 : Nat) : Int)] m v' m' ∧ SlTurn m v m' v' (l.eraseIdx i) := by
  refine Con.raw EE_ok fn39 (Nat.le_of_ble_eq_true rfl) _ ?_
  obtain ⟨b, c, cb, rfl, k1, k2, k3, k4⟩ := h.cons (by omega)
  rw [List.length_map] at k4
  rw [Nat.mul_one] at k2
  obtain ⟨v3, hv3⟩ := slice3_ok (b := b) hi k3
  have hb := hm.lt k1
  have hne : ¬ (i : Int) = ((i + 1 : Nat) : Int) := by omega
  have hsh := slice_hi (P := EE.P) (b := b) (o := 0) (n := l.length) (c := c) (k := .i64) (x := (i : Int)) und_30 sz_3 (by omega) (by omega)
  rw [Int.toNat_natCast] at hsh
  have hlen1 : (l.eraseIdx i).length = l.length - 1 := by rw [List.length_eraseIdx, if_pos hi]
  by_cases hlast : i + 1 = l.length
  · have hs2 : ∃ w, sliceA EE.P 30 (.slice (some ⟨b, 0, none⟩) l.length c) (some (In ((i + 1 : Nat) : Int))) none = some w ∧ ∀ M : Mem, M.get b = some (.cells cb true 1) → srcA 1 w M = some ([], 0) := by
      by_cases hc : l.length = c
      · refine ⟨lost, ?_, fun _ _ => rfl⟩
        rw [hlast, ← hc]
        exact slice_end (by omega)
      · refine ⟨_, slice_lo (P := EE.P) und_30 sz_3 (by omega) (by omega) (by omega) k3, fun M hM => ?_⟩
        rw [src_at, hM, srcC_cells]
        have e : l.length - ((i + 1 : Nat) : Int).toNat = 0 := by omega
        rw [e, Nat.zero_mul]
        rw [sub_lt (by omega)]
        rfl
    obtain ⟨w, hw1, hw2⟩ := hs2
    have happ : ∀ j id, appendA EE.P id #[30, 30] (.slice (some ⟨b, 0, none⟩) i c) w (m.bump j) = some (.slice (some ⟨b, 0, none⟩) i c, m.bump j) := fun j id => app_none (k := 0) (hw2 _ (by rw [Mem.get_bump, k1])) (by omega)
    have hmid := slice_mid (b := b) (n := l.length) (n' := i) (c := c) (i := i) (by omega) k3 (by omega)
    have hcl : ∀ j, clearA EE.P #[30] (.slice (some ⟨b, i, none⟩) (l.length - i) (c - i)) (m.bump j) = some ((m.bump j).put b (.cells (cb.write i [.int .i64 0]) true 1)) := fun j => by
      have hf : clC ((m.bump j).get b) b i (l.length - i) (m.bump j) = some ((m.bump j).put b (.cells (cb.write i [.int .i64 0]) true 1)) := by
        rw [Mem.get_bump, k1]
        simp only [clC]
        rw [if_neg (by omega), if_pos (by omega), show l.length - i = 1 by omega]
        rfl
      rw [clear_int und_30 zero3 (by rw [hf]; rfl), hf]
    simp only [f39, enumV, Nat.zero_add, Nat.reduceAdd, w39, W_seq, w39_0, Nat.le_refl, X_assign, ev_const, Nat.reduceLT, T_set, X_nil, thenQ_normal, w39_1, Mem.next_bump, Nat.le_add_right, bump_bump, X_move, ev_T, lk_cons, Nat.reduceEqDiff, Nat.one_ne_zero, if_false, if_true, X_len EE_sym, len_slice und_30, okI_some, X_slice3, Option.map_some, hv3, w39_2, X_eql EE_sym, eq_int, hne, decide_false, W_cond, CDi_f, W_skip, w39_5, w39_6, X_slice EE_sym, Option.map_none, hsh, hw1, X_append, Nat.add_assoc, happ, w39_7, hmid, X_clear, hcl, put_bump, putT, w39_8, Mem.next_put, W_ret, FinX_ret, resA_tmp, T_get, resA_nil, oneOr1, true_and]
    have hsl : SlTurn m (.slice (some ⟨b, 0, none⟩) l.length c) ((m.put b (.cells (cb.write i [.int .i64 0]) true 1)).bump 29) (.slice (some ⟨b, 0, none⟩) i c) (l.eraseIdx i) := by
      refine ⟨by simp only [Mem.next_bump, Mem.next_put]; omega, Fresh.of_low (by have := hm.n64; simp only [Mem.next_bump, Mem.next_put]; omega) (Low.bump (Low.put (Low.of hm (by simp only [Mem.next_bump, Mem.next_put]; omega)) (by simp only [Mem.next_bump, Mem.next_put]; omega))), ⟨by simp, .inr ⟨b, c, cb.write i [.int .i64 0], by rw [hlen1, ← hlast, Nat.add_sub_cancel], by simp only [Mem.get_bump, Mem.get_put, if_true], by rw [write_n, k2, Nat.mul_one], by omega, fun x hx => ?_⟩⟩, rfl, fun y hy hn => ?_⟩
      · rw [List.length_map, hlen1] at hx
        rw [get_write, if_neg (by omega), k4 x (by omega), il_getD (by omega), il_getD (by omega), eraseIdx_getD (by omega), if_pos (by omega)]
      · simp only [Mem.get_bump, Mem.get_put, show ¬ y = b from fun e => hn (by rw [e]; rfl), if_false]
    exact ⟨⟨hsl.next, fun y hy e => by rw [hsl.old y hy (fun e2 => by cases e2; rw [k1] at e; cases e), e]⟩, hsl⟩
  · have hwl := slice_lo (P := EE.P) (b := b) (o := 0) (n := l.length) (c := c) (k := .i64) (x := ((i + 1 : Nat) : Int)) und_30 sz_3 (by omega) (by omega) (by omega) k3
    rw [Int.toNat_natCast, Nat.zero_add, Nat.mul_one] at hwl
    obtain ⟨k, hk⟩ : ∃ k, k = l.length - (i + 1) := ⟨_, rfl⟩
    rw [← hk] at hwl
    have hnew : ((il l).drop (i + 1)).length = k * 1 := by rw [List.length_drop, List.length_map]; omega
    have hsrc : ∀ j, srcA 1 (.slice (some ⟨b, i + 1, none⟩) k (c - (i + 1))) (m.bump j) = some ((il l).drop (i + 1), k) := fun j => by
      rw [src_at, Mem.get_bump, k1, srcC_cells, sub_get hnew (by omega) fun x hx => ?_]
      · rfl
      · rw [k4 (i + 1 + x) (by omega)]
        simp only [List.getD_eq_getElem?_getD, List.getElem?_drop]
    have hone : ((il l).drop (i + 1)).all oneCell = true := by
      rw [List.all_eq_true]
      intro v hv
      obtain ⟨n, _, rfl⟩ := List.mem_map.1 (List.mem_of_mem_drop hv)
      rfl
    have happ : ∀ j id, appendA EE.P id #[30, 30] (.slice (some ⟨b, 0, none⟩) i c) (.slice (some ⟨b, i + 1, none⟩) k (c - (i + 1))) (m.bump j) = some (.slice (some ⟨b, 0, none⟩) (i + k) c, (m.bump j).put b (.cells (cb.write (i * 1) ((il l).drop (i + 1))) true 1)) := fun j id =>
      app_in eo30 (by rw [Mem.get_bump, k1]) (by rw [k2, Nat.mul_one]) (by omega) (hsrc j) (by omega) hnew hone
    have hmid := slice_mid (b := b) (n := l.length) (n' := i + k) (c := c) (i := i + k) (by omega) k3 (by omega)
    obtain ⟨c2, hc2⟩ : ∃ c2, c2 = cb.write (i * 1) ((il l).drop (i + 1)) := ⟨_, rfl⟩
    rw [← hc2] at happ
    have c2n : c2.n = c := by rw [hc2, write_n, k2]
    have hcl : ∀ j, clearA EE.P #[30] (.slice (some ⟨b, i + k, none⟩) (l.length - (i + k)) (c - (i + k))) ((m.put b (.cells c2 true 1)).bump j) = some (((m.put b (.cells c2 true 1)).bump j).put b (.cells (c2.write (i + k) [.int .i64 0]) true 1)) := fun j => by
      have hf : clC (((m.put b (.cells c2 true 1)).bump j).get b) b (i + k) (l.length - (i + k)) ((m.put b (.cells c2 true 1)).bump j) = some (((m.put b (.cells c2 true 1)).bump j).put b (.cells (c2.write (i + k) [.int .i64 0]) true 1)) := by
        rw [Mem.get_bump, Mem.get_put, if_pos rfl]
        simp only [clC]
        rw [if_neg (by omega), if_pos (by omega), show l.length - (i + k) = 1 by omega]
        rfl
      rw [clear_int und_30 zero3 (by rw [hf]; rfl), hf]
    simp only [f39, enumV, Nat.zero_add, Nat.reduceAdd, w39, W_seq, w39_0, Nat.le_refl, X_assign, ev_const, Nat.reduceLT, T_set, X_nil, thenQ_normal, w39_1, Mem.next_bump, Nat.le_add_right, bump_bump, X_move, ev_T, lk_cons, Nat.reduceEqDiff, Nat.one_ne_zero, if_false, if_true, X_len EE_sym, len_slice und_30, okI_some, X_slice3, Option.map_some, hv3, w39_2, X_eql EE_sym, eq_int, hne, decide_false, W_cond, CDi_f, W_skip, w39_5, w39_6, X_slice EE_sym, Option.map_none, hsh, hwl, X_append, Nat.add_assoc, happ, put_bump, w39_7, Mem.next_put, hmid, X_clear, hcl, putT, w39_8, W_ret, FinX_ret, resA_tmp, T_get, resA_nil, oneOr1, true_and]
    have hsl : SlTurn m (.slice (some ⟨b, 0, none⟩) l.length c) (((m.put b (.cells c2 true 1)).put b (.cells (c2.write (i + k) [.int .i64 0]) true 1)).bump 29) (.slice (some ⟨b, 0, none⟩) (i + k) c) (l.eraseIdx i) := by
      refine ⟨by simp only [Mem.next_bump, Mem.next_put]; omega, Fresh.of_low (by have := hm.n64; simp only [Mem.next_bump, Mem.next_put]; omega) (Low.bump (Low.put (Low.put (Low.of hm (by simp only [Mem.next_bump, Mem.next_put]; omega)) (by simp only [Mem.next_bump, Mem.next_put]; omega)) (by simp only [Mem.next_bump, Mem.next_put]; omega))), ⟨by simp, .inr ⟨b, c, c2.write (i + k) [.int .i64 0], by rw [hlen1]; congr 1; omega, by simp only [Mem.get_bump, Mem.get_put, if_true], by rw [write_n, c2n, Nat.mul_one], by omega, fun x hx => ?_⟩⟩, rfl, fun y hy hn => ?_⟩
      · rw [List.length_map, hlen1] at hx
        rw [get_write, if_neg (by omega), hc2, get_write, il_getD (by omega), eraseIdx_getD (by omega)]
        by_cases hxi : x < i
        · rw [if_neg (by omega), if_pos hxi, k4 x (by omega), il_getD (by omega)]
        · rw [if_pos (by omega), if_neg hxi, List.getD_eq_getElem?_getD, List.getElem?_drop, ← List.getD_eq_getElem?_getD, show i + 1 + (x - i * 1) = x + 1 by omega, il_getD (by omega)]
      · simp only [Mem.get_bump, Mem.get_put, show ¬ y = b from fun e => hn (by rw [e]; rfl), if_false]
    exact ⟨⟨hsl.next, fun y hy e => by rw [hsl.old y hy (fun e2 => by cases e2; rw [k1] at e; cases e), e]⟩, hsl⟩
end
end
end Go.Ab
