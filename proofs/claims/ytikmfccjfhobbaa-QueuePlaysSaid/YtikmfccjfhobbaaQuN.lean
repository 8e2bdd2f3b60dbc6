/- Queue: calls that come in; what placing comes to; two lists compared. -/
import Derived.Test.YtikmfccjfhobbaaQuM
import Derived.Test.YtikmfccjfhobbaaQuBI
namespace Go.Ab
open Go.Proofs
noncomputable section
set_option maxHeartbeats 4000000
set_option maxRecDepth 10000
/-- Calls, where they lie. -/
def Ops (m : Mem) (v : Value) (n : Nat) : Prop := ∃ a C, v = .slice a n C ∧ (n = 0 ∨ ∃ L cs w z, a = some ⟨L, 0, none⟩ ∧ m.get L = some (.cells cs w z) ∧ ∀ i, i < n → ∃ (k x co : Int) (a : BitVec 32), cs.sub (i * 4) 4 = some [In k, In x, In co, Um a])
theorem sub_nth {cs : Cells} {o n j : Nat} {l : List Value} {v : Value} (h : cs.sub o n = some l) (hj : j < n) (hv : l.getD j undef = v) : cs.nth (o + j) = some v := by
  have h1 := sub_get_inv h hj
  have h2 : o + n ≤ cs.n := by
    unfold Cells.sub at h
    split at h
    · assumption
    · cases h
  rw [nth_lt (by omega), h1, hv]
theorem few_mb {l : Nat → List Int} {a : BitVec 32} : ∀ {n : Nat}, 0 ≤ fewTo l a n → mb a (fewTo l a n).toNat = true
  | 0, h => by unfold fewTo at h; simp at h
  | n + 1, h => by
    rw [fewTo_succ] at h ⊢
    unfold fewStep at h ⊢
    by_cases hb : mb a n = true
    · rw [if_pos hb] at h ⊢
      split
      · rw [Int.toNat_natCast]; exact hb
      · rename_i hn
        rw [if_neg hn] at h
        exact few_mb h
    · rw [if_neg hb] at h ⊢
      exact few_mb h
/-- No pid twice; so many. -/
structure Dq (c : Nat) (l : Nat → List Int) (n : Nat) : Prop where
  nd : ∀ k, k < c → (l k).Nodup
  dis : ∀ i j, i < c → j < c → i ≠ j → ∀ x ∈ l i, x ∉ l j
  emp : ∀ k, c ≤ k → l k = []
  len : tot 8 l ≤ n
section
variable {c n : Nat} {l : Nat → List Int} {x : Int}
theorem catTo_len : ∀ {n : Nat}, (catTo l n).length = tot n l
  | 0 => rfl
  | n + 1 => by rw [catTo_succ, tot_succ, List.length_append, catTo_len]
theorem Dq.start : Dq c (fun _ => []) 0 := ⟨fun _ _ => List.nodup_nil, fun _ _ _ _ _ x hx => (by cases hx), fun _ _ => rfl, by rw [tot_nil]; exact Nat.le_refl _⟩
theorem Dq.mono {n' : Nat} (h : Dq c l n) (hn : n ≤ n') : Dq c l n' := ⟨h.nd, h.dis, h.emp, Nat.le_trans h.len hn⟩
theorem Dq.le (h : Dq c l n) (hc : c ≤ 8) (k : Nat) : (l k).length ≤ n := by
  by_cases hk : k < c
  · have := len_tot (l := l) (show k < 8 by omega); have := h.len; omega
  · rw [h.emp k (by omega)]; simp
theorem Dq.sh (h : Dq c l n) (hc : c ≤ 8) (hn : n < 1000) : Sh l := fun k => by have := h.le hc k; omega
theorem Dq.cat (h : Dq c l n) (hn : n < 1000) : (catTo l 8).length < 1073741824 := by rw [catTo_len]; have := h.len; omega
theorem wh_not (h : whQ c l x < 0) : ∀ j, j < c → x ∉ l j := by
  rcases whQ_spec (c := c) (l := l) (x := x) with ⟨_, h2⟩ | ⟨j, _, _, h3, _⟩
  · exact h2
  · rw [h3] at h; omega
theorem wh_none (h : ∀ j, j < c → x ∉ l j) : whQ c l x = -1 := by
  rcases whQ_spec (c := c) (l := l) (x := x) with ⟨h1, _⟩ | ⟨j, h1, h2, _⟩
  · exact h1
  · exact absurd h2 (h j h1)
theorem wh_at (h : 0 ≤ whQ c l x) : ∃ w, w < c ∧ x ∈ l w ∧ whQ c l x = (w : Nat) := by
  rcases whQ_spec (c := c) (l := l) (x := x) with ⟨h1, _⟩ | ⟨j, h1, h2, h3, _⟩
  · omega
  · exact ⟨j, h1, h2, h3⟩
theorem Dq.wh (h : Dq c l n) {w : Nat} (hw : w < c) (hx : x ∈ l w) : whQ c l x = (w : Nat) := by
  rcases whQ_spec (c := c) (l := l) (x := x) with ⟨_, h2⟩ | ⟨j, h1, h2, h3, _⟩
  · exact absurd hx (h2 w hw)
  · by_cases e : j = w
    · rw [h3, e]
    · exact absurd hx (h.dis j w h1 hw e x h2)
theorem Dq.push (h : Dq c l n) {f : Nat} (hf : f < c) (hc : c ≤ 8) (hx : ∀ j, j < c → x ∉ l j) : Dq c (updL l f (l f ++ [x])) (n + 1) := by
  refine ⟨fun k hk => ?_, fun i j hi hj hne y hy hy' => ?_, fun k hk => ?_, ?_⟩
  · unfold updL
    split
    · exact List.nodup_append.2 ⟨h.nd f hf, by simp, fun y hy z hz e => by rw [List.mem_singleton] at hz; exact hx f hf (by rw [← hz, ← e]; exact hy)⟩
    · exact h.nd k hk
  · unfold updL at hy hy'
    split at hy
    · rename_i e
      subst e
      rw [if_neg (fun e => hne e.symm)] at hy'
      rcases List.mem_append.1 hy with hy | hy
      · exact h.dis i j hi hj hne y hy hy'
      · rw [List.mem_singleton] at hy; exact hx j hj (hy ▸ hy')
    · split at hy'
      · rename_i e
        subst e
        rcases List.mem_append.1 hy' with hy' | hy'
        · exact h.dis i j hi hj hne y hy hy'
        · rw [List.mem_singleton] at hy'; exact hx i hi (hy' ▸ hy)
      · exact h.dis i j hi hj hne y hy hy'
  · unfold updL
    rw [if_neg (by omega)]; exact h.emp k hk
  · have := tot_upd (l := l) (k := f) (l' := l f ++ [x]) (c := 8) (by omega)
    rw [List.length_append, List.length_singleton] at this
    have := h.len
    omega
/-- One is turned to a list of the same. -/
theorem Dq.perm (h : Dq c l n) {f : Nat} {l' : List Int} (hf : f < c) (hc : c ≤ 8) (hp : l'.Perm (l f)) : Dq c (updL l f l') n := by
  have hm : ∀ k y, y ∈ updL l f l' k ↔ y ∈ l k := fun k y => by
    unfold updL
    split
    · rename_i e; subst e; exact hp.mem_iff
    · rfl
  refine ⟨fun k hk => ?_, fun i j hi hj hne y hy hy' => h.dis i j hi hj hne y ((hm _ _).1 hy) ((hm _ _).1 hy'), fun k hk => ?_, ?_⟩
  · unfold updL
    split
    · exact hp.nodup_iff.2 (h.nd f hf)
    · exact h.nd k hk
  · unfold updL
    rw [if_neg (by omega)]; exact h.emp k hk
  · have := tot_upd (l := l) (k := f) (l' := l') (c := 8) (by omega)
    rw [hp.length_eq] at this
    have := h.len
    omega
theorem Dq.erase (h : Dq c l n) {w : Nat} (hw : w < c) (hc : c ≤ 8) (hx : x ∈ l w) : Dq c (updL l w ((l w).erase x)) n ∧ (∀ j, j < c → x ∉ updL l w ((l w).erase x) j) ∧ tot 8 (updL l w ((l w).erase x)) + 1 = tot 8 l := by
  have hm : ∀ k y, k < c → y ∈ updL l w ((l w).erase x) k → y ∈ l k := fun k y hk hy => by
    unfold updL at hy
    split at hy
    · rename_i e; subst e; exact List.mem_of_mem_erase hy
    · exact hy
  have ht := tot_upd (l := l) (k := w) (l' := (l w).erase x) (c := 8) (by omega)
  rw [List.length_erase_of_mem hx] at ht
  have hpos := List.length_pos_of_mem hx
  refine ⟨⟨fun k hk => ?_, fun i j hi hj hne y hy hy' => h.dis i j hi hj hne y (hm i y hi hy) (hm j y hj hy'), fun k hk => ?_, by have := h.len; omega⟩, fun j hj hy => ?_, by omega⟩
  · unfold updL
    split
    · exact (h.nd w hw).erase _
    · exact h.nd k hk
  · unfold updL
    rw [if_neg (by omega)]; exact h.emp k hk
  · by_cases e : j = w
    · subst e
      unfold updL at hy
      rw [if_pos rfl] at hy
      exact ((List.Nodup.mem_erase_iff (h.nd j hj)).1 hy).1 rfl
    · exact h.dis j w hj hw e x (hm j x hj hy) hx
theorem updL_same {k : Nat} : updL l k (l k) = l := by
  funext j
  unfold updL
  split
  · rename_i e; rw [e]
  · rfl
theorem updL_updL {k : Nat} {r s : List Int} : updL (updL l k r) k s = updL l k s := by
  funext j
  unfold updL
  split <;> rfl
theorem updL_at {k : Nat} {r : List Int} : updL l k r k = r := if_pos rfl
end
section
variable {M : Mem} {q c n : Nat} {l : Nat → List Int} {W : Nat → Prop} {a : BitVec 32} {x k : Int}
/-- What placing comes to. -/
def Placed (c : Nat) (l : Nat → List Int) (x : Int) (a : BitVec 32) (r e : Int) (l' : Nat → List Int) : Prop :=
  (e = 0 ∧ 1 ≤ x ∧ ∃ f : Nat, f < c ∧ r = f ∧ mb a f = true ∧ l' = updL l f (l f ++ [x]) ∧ ∀ j, j < c → x ∉ l j) ∨ (e ≠ 0 ∧ l' = l)
theorem Qs.place_any (h : Qs M q c l W) (hs : Sh l) : ∃ v M', Con EE.P 10 [PT q, In x, In k, Um a] M v M' ∧ ∃ r e l', v = .tuple [In r, In e].toArray ∧ Qs M' q c l' W ∧ Wx W M M' ∧ Placed c l x a r e l' := by
  by_cases hx : x < 1
  · exact ⟨_, M, h.place_bad hx, 0, 2, l, rfl, h, Wx.refl, .inr ⟨by decide, rfl⟩⟩
  by_cases hw : 0 ≤ whQ c l x ∨ fewTo l a c < 0
  · exact ⟨_, M, h.place_not hs (by omega) hw, 0, 130, l, rfl, h, Wx.refl, .inr ⟨by decide, rfl⟩⟩
  have h1 : ¬ 0 ≤ whQ c l x := fun e => hw (.inl e)
  have h2 : 0 ≤ fewTo l a c := by have := fun e => hw (.inr e); omega
  obtain ⟨v, M', hc, rfl, hq, hwx⟩ := h.place (k := k) hs (by omega) h1 h2
  refine ⟨_, M', hc, _, 0, _, rfl, hq, hwx, .inl ⟨rfl, by omega, placeQ c l a k, placeQ_lt h2, rfl, ?_, rfl, wh_not (by omega)⟩⟩
  unfold placeQ
  split
  · rename_i e; exact e.2
  · exact few_mb h2
theorem Placed.dq {r e : Int} {l' : Nat → List Int} (h : Placed c l x a r e l') (hd : Dq c l n) (hc : c ≤ 8) : Dq c l' (n + 1) := by
  rcases h with ⟨_, _, f, h1, _, _, rfl, h2⟩ | ⟨_, rfl⟩
  · exact hd.push h1 hc h2
  · exact hd.mono (by omega)
end
section
variable {m : Mem}
theorem same_ok {v1 v2 : Value} {k : List Int} (h1 : SlI m v1 k) (h2 : SlI m v2 k) (hk : k.length < 4294967296) : Con EE.P 15 [v1, v2] m (.bool true) m := by
  refine Con.of EE_ok fn15 (Nat.le_of_ble_eq_true rfl) Grow.rfl fun hm => ?_
  have hl1 : ∀ M, lenA EE.P 30 v1 M = some (In k.length) := fun M => h1.lenA und_30
  have hl2 : ∀ M, lenA EE.P 30 v2 M = some (In k.length) := fun M => h2.lenA und_30
  simp only [f15, enumV, Nat.zero_add, w15, W_seq, w15_0, Nat.le_refl, X_assign, ev_const, Nat.reduceLT, T_set, X_nil, thenQ_normal, w15_1, Mem.next_bump, Nat.le_add_right, bump_bump, Nat.reduceAdd, X_move, ev_T, lk_cons, Nat.reduceEqDiff, Nat.one_ne_zero, if_false, if_true, X_len EE_sym, hl1, okI_some, hl2, X_neq EE_sym, neq_int, decide_true, Bool.not_true, W_cond, CDi_f, W_skip, w15_4, W_block, w15_12, true_and]
  refine WX.loop_of (fun x t M => ∃ i j : Nat, i ≤ k.length ∧ x = k.length - i ∧ t = T 26 [(5, In i), (0, v1), (1, v2)] ∧ M = m.bump j) ?_ (k := k.length) (t1 := T 26 [(5, In (0 : Nat)), (0, v1), (1, v2)]) (View.temps ⟨rfl, rfl, rfl, trivial⟩) ⟨0, _, by omega, rfl, rfl, rfl⟩
  rintro x t M ⟨i, j, hi, rfl, rfl, rfl⟩
  by_cases hi2 : i < k.length
  · have q1 : (i : Int) < (k.length : Int) := by omega
    have q2 : (0 : Int) ≤ i := by omega
    have hw : IntKind.i64.wrap ((i : Int) + 1) = ((i + 1 : Nat) : Int) := by rw [wrap_i64 (by omega) (by omega)]; omega
    obtain ⟨B1, c1, cB1, rfl, i1, i2, i3, i4⟩ := h1.cons (by omega)
    obtain ⟨B2, c2, cB2, rfl, j1, j2, j3, j4⟩ := h2.cons (by omega)
    have q3 : cB1.nth i = some (In (k.getD i 0)) := by rw [nth_lt (by omega), i4 i (by simpa using hi2), il_getD hi2]
    have q4 : cB2.nth i = some (In (k.getD i 0)) := by rw [nth_lt (by omega), j4 i (by simpa using hi2), il_getD hi2]
    simp only [w15_11, W_seq, w15_5, Mem.next_bump, Nat.le_add_right, bump_bump, X_move, Nat.reduceLT, ev_T, lk_cons, Nat.reduceEqDiff, if_false, if_true, T_set, Nat.one_ne_zero, X_len EE_sym, len_slice und_30, okI_some, X_bin EE_sym (op := .lss) rfl, bin_lss, q1, decide_true, X_nil, thenQ_normal, W_cond, CDi_t, W_skip, W_block, w15_9, w15_6, Nat.add_assoc, Nat.reduceAdd, X_indexAddr EE_sym, q2, idxV_slice und_30 sz_3, Int.toNat_natCast, Nat.mul_one, Nat.zero_add, X_load EE_sym, load1 lay_3, Mem.get_bump, i1, ld1_cells, q3, j1, q4, X_neq EE_sym, neq_int, Bool.not_true, CDi_f, blockQ_normal, w15_10, X_bin EE_sym (op := .add) rfl, ev_const, bin_add, hw, X_assign, roundQ_normal, true_and]
    exact ⟨k.length - (i + 1), _, _, by omega, View.temps (l' := [(5, In ((i + 1 : Nat) : Int)), (0, .slice (some ⟨B1, 0, none⟩) k.length c1), (1, .slice (some ⟨B2, 0, none⟩) k.length c2)]) ⟨rfl, rfl, rfl, trivial⟩, i + 1, _, by omega, rfl, rfl, rfl⟩
  · have q1 : ¬ (i : Int) < (k.length : Int) := by omega
    simp only [w15_11, W_seq, w15_5, Mem.next_bump, Nat.le_add_right, bump_bump, X_move, Nat.reduceLT, ev_T, lk_cons, Nat.reduceEqDiff, if_false, if_true, T_set, Nat.one_ne_zero, X_len EE_sym, hl1, okI_some, X_bin EE_sym (op := .lss) rfl, bin_lss, q1, decide_false, X_nil, thenQ_normal, W_cond, CDi_f, W_exit, thenQ_exit, roundQ_exit, blockQ_exit, w15_13, Nat.add_assoc, Nat.reduceAdd, X_assign, ev_const, W_ret, FinC_ret, resA_tmp, T_get, resA_nil, Option.map_some, oneOr1, true_and]
    exact TidyE.pure rfl fun _ _ => rfl
end
end
end Go.Ab
