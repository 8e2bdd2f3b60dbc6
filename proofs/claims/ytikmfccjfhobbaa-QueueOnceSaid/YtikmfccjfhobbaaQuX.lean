/- Queue: what a call comes to, as the law of one queue at most needs it. -/
import Derived.Test.YtikmfccjfhobbaaQuN
import Derived.Test.YtikmfccjfhobbaaQuA5
namespace Go.Ab
open Go.Proofs
noncomputable section
set_option maxHeartbeats 8000000
set_option maxRecDepth 10000
/-- What one call comes to: for the one pid by its mask; for all others nothing comes to be in. -/
structure Stp (c n : Nat) (l : Nat → List Int) (x : Int) (a : BitVec 32) (e : Int) (l' : Nat → List Int) : Prop where
  dq : Dq c l' (n + 1)
  oth : ∀ k y, k < c → y ∈ l' k → y ≠ x → y ∈ l k
  yes : e = 0 → ∀ k, k < c → x ∈ l' k → mb a k = true
  no : e ≠ 0 → ∀ k, k < c → x ∈ l' k → x ∈ l k
section
variable {c n : Nat} {l : Nat → List Int} {x e : Int} {a : BitVec 32}
theorem Stp.same (hD : Dq c l n) (he : e ≠ 0) : Stp c n l x a e l := ⟨hD.mono (by omega), fun _ _ _ h _ => h, fun h => absurd h he, fun _ _ _ h => h⟩
theorem Stp.sub {l' : Nat → List Int} (hD : Dq c l' n) (he : e ≠ 0) (hs : ∀ k y, k < c → y ∈ l' k → y ∈ l k) : Stp c n l x a e l' := ⟨hD.mono (by omega), fun k y hk h _ => hs k y hk h, fun h => absurd h he, fun _ k hk h => hs k x hk h⟩
theorem Placed.stp {r : Int} {l' : Nat → List Int} (h : Placed c l x a r e l') (hD : Dq c l n) (hc : c ≤ 8) : Stp c n l x a e l' := by
  have hdq := h.dq hD hc
  rcases h with ⟨he, _, f, h1, _, h3, rfl, h2⟩ | ⟨he, rfl⟩
  · refine ⟨hdq, fun k y hk hy hne => ?_, fun _ k hk hy => ?_, fun h => absurd he h⟩
    · unfold updL at hy
      split at hy
      · rename_i e; subst e
        rcases List.mem_append.1 hy with hy | hy
        · exact hy
        · rw [List.mem_singleton] at hy; exact absurd hy hne
      · exact hy
    · unfold updL at hy
      split at hy
      · rename_i e; subst e; exact h3
      · exact absurd hy (h2 k hk)
  · exact Stp.same hD he
theorem Stp.push {l1 : Nat → List Int} {f : Nat} (hD : Dq c l1 n) (hc : c ≤ 8) (hf : f < c) (hx : ∀ j, j < c → x ∉ l1 j) (hs : ∀ k y, k < c → y ∈ l1 k → y ∈ l k) (hb : mb a f = true) : Stp c n l x a 0 (updL l1 f (l1 f ++ [x])) := by
  refine ⟨hD.push hf hc hx, fun k y hk hy hne => ?_, fun _ k hk hy => ?_, fun h => absurd rfl h⟩
  · unfold updL at hy
    split at hy
    · rename_i e; subst e
      rcases List.mem_append.1 hy with hy | hy
      · exact hs _ _ hk hy
      · rw [List.mem_singleton] at hy; exact absurd hy hne
    · exact hs _ _ hk hy
  · unfold updL at hy
    split at hy
    · rename_i e; subst e; exact hb
    · exact absurd hy (hx k hk)
theorem upd_mem {w : Nat} {r : List Int} (h : ∀ y, y ∈ r → y ∈ l w) : ∀ k y, k < c → y ∈ updL l w r k → y ∈ l k := fun k y _ hy => by
  unfold updL at hy
  split at hy
  · rename_i e; subst e; exact h y hy
  · exact hy
end
section
variable {M : Mem} {q c n : Nat} {l : Nat → List Int} {W : Nat → Prop} {a : BitVec 32} {x k : Int}
theorem Qs.less {W' : Nat → Prop} (h : Qs M q c l W) (hw : ∀ y, W' y → W y) : Qs M q c l W' := by
  obtain ⟨O, sl, cs, h1, h2⟩ := h.at_
  exact ⟨h.fresh, fun y hy => h.wlt y (hw y hy), O, sl, cs, h1, fun y hy => ⟨(h2 y hy).1, fun e => (h2 y hy).2 (hw y e)⟩⟩
/-- What stays may be written. -/
theorem Qs.put (h : Qs M q c l W) {y : Nat} {o : AObj} (hy : W y) : Qs (M.put y o) q c l W := by
  obtain ⟨O, sl, cs, h1, h2⟩ := h.at_
  refine ⟨Fresh.of_low (by have := h.fresh.n64; rw [Mem.next_put]; exact this) (Low.put (fun z hz => by rw [Mem.next_put] at hz; exact h.fresh.none z hz) (by rw [Mem.next_put]; exact h.wlt y hy)), fun z hz => by rw [Mem.next_put]; exact h.wlt z hz, O, sl, cs, h1.keep fun z o' hz ho => ?_, fun z hz => by rw [Mem.next_put]; exact h2 z hz⟩
  rw [Mem.get_put, if_neg (show ¬ z = y from fun e => (h2 z hz).2 (e ▸ hy))]
  exact ho
theorem Qs.move_any (h : Qs M q c l W) (hD : Dq c l n) (hc : c ≤ 8) (hs : Sh l) : ∃ v M', Con EE.P 12 [PT q, In x, Um a] M v M' ∧ ∃ r e l', v = .tuple [In r, In e].toArray ∧ Qs M' q c l' W ∧ Wx W M M' ∧ Stp c n l x a e l' := by
  by_cases hw : whQ c l x < 0 ∨ fewTo l a c < 0
  · exact ⟨_, M, h.move_not hs hw, 0, 130, l, rfl, h, Wx.refl, Stp.same hD (by decide)⟩
  have h1 : 0 ≤ whQ c l x := by omega
  have h2 : 0 ≤ fewTo l a c := by omega
  obtain ⟨w, hw1, hw2, hw3⟩ := wh_at h1
  by_cases hb : mb a w = true
  · refine ⟨_, M, h.move_in hs hw3 h2 hb, w, 0, l, rfl, h, Wx.refl, hD.mono (by omega), fun _ _ _ h _ => h, fun _ k hk hx => ?_, fun h => absurd rfl h⟩
    by_cases e : k = w
    · rw [e]; exact hb
    · exact absurd hw2 (hD.dis k w hk hw1 e x hx)
  obtain ⟨ix, x1, x2, x3⟩ := idx_in hw2
  have he := erase_at (i := 0) (j := ix) (show idxFrom x (l w) 0 = ((0 + ix : Nat) : Int) by rw [Nat.zero_add]; exact x2)
  obtain ⟨v, M', hc', hv, hQ, hW⟩ := h.move_to hs (by omega) hw3 x1 x2 h2 (by simpa using hb)
  obtain ⟨hD', hnot, htot⟩ := hD.erase hw1 hc hw2
  have hf := (few_iff (l' := updL l w ((l w).eraseIdx ix))).1 h2
  refine ⟨v, M', hc', _, 0, _, hv, hQ, hW, ?_⟩
  unfold moveL
  rw [he] at hf ⊢
  exact Stp.push hD' hc (by have := (fewTo_lt (l := updL l w ((l w).erase x)) (a := a) (n := c)).2; omega) hnot (upd_mem fun y hy => List.mem_of_mem_erase hy) (few_mb hf)
theorem Qs.cut_any (h : Qs M q c l W) (hD : Dq c l n) (hc : c ≤ 8) (hs : Sh l) : ∃ v M', Con EE.P 18 [PT q, In x] M v M' ∧ ∃ b l', v = .bool b ∧ Qs M' q c l' W ∧ Wx W M M' ∧ Stp c n l x a 2 l' := by
  by_cases hw : whQ c l x < 0
  · exact ⟨_, M, h.cut_no hs hw, false, l, rfl, h, Wx.refl, Stp.same hD (by decide)⟩
  have h1 : 0 ≤ whQ c l x := by omega
  obtain ⟨w, hw1, hw2, hw3⟩ := wh_at h1
  obtain ⟨ix, x1, x2, x3⟩ := idx_in hw2
  have he := erase_at (i := 0) (j := ix) (show idxFrom x (l w) 0 = ((0 + ix : Nat) : Int) by rw [Nat.zero_add]; exact x2)
  obtain ⟨v, M', hc', hv, hQ, hW⟩ := h.cut hs (by omega) hw3 x1 x2
  obtain ⟨hD', hnot, htot⟩ := hD.erase hw1 hc hw2
  rw [he] at hQ
  exact ⟨v, M', hc', true, _, hv, hQ, hW, Stp.sub hD' (by decide) (upd_mem fun y hy => List.mem_of_mem_erase hy)⟩
theorem Qs.rot_any (h : Qs M q c l W) (hD : Dq c l n) (hc : c ≤ 8) (hs : Sh l) : ∃ v M', Con EE.P 14 [PT q, In k] M v M' ∧ ∃ b l', v = .bool b ∧ Qs M' q c l' W ∧ Wx W M M' ∧ Stp c n l x a 2 l' := by
  by_cases hw : ¬ (0 ≤ k ∧ k < c) ∨ (l k.toNat).length < 2
  · exact ⟨_, M, h.rot_no hw, false, l, rfl, h, Wx.refl, Stp.same hD (by decide)⟩
  obtain ⟨k', rfl⟩ : ∃ k' : Nat, k = k' := ⟨k.toNat, by omega⟩
  rw [Int.toNat_natCast] at hw
  have hk : k' < c := by omega
  have hl : 2 ≤ (l k').length := by omega
  obtain ⟨v, M', hc', hv, hQ, hW⟩ := h.rot hk hl (hs k')
  have hp : ((l k').drop 1 ++ [(l k').getD 0 0]).Perm (l k') := by
    have e : l k' = (l k')[0] :: (l k').drop 1 := by
      have := List.drop_eq_getElem_cons (show 0 < (l k').length by omega)
      simpa using this
    have e2 : (l k').getD 0 0 = (l k')[0] := by rw [List.getD_eq_getElem?_getD, List.getElem?_eq_getElem (by omega)]; rfl
    rw [e2]
    refine (List.perm_append_comm).trans ?_
    show ((l k')[0] :: (l k').drop 1).Perm (l k')
    rw [← e]
  exact ⟨v, M', hc', true, _, hv, hQ, hW, Stp.sub (hD.perm hk hc hp) (by decide) (upd_mem fun y hy => hp.mem_iff.1 hy)⟩
end
/-- The masks by which they are where they are. -/
def Msk (c : Nat) (l : Nat → List Int) (mk : Nat → BitVec 32) : Prop := ∀ k, k < c → ∀ p : Nat, 0 < p → p < 100 → (p : Int) ∈ l k → mb (mk p) k = true
theorem Stp.msk {c n : Nat} {l l' : Nat → List Int} {x e : Int} {a : BitVec 32} {mk mk' : Nat → BitVec 32} (h : Stp c n l x a e l') (hM : Msk c l mk) (hx : e = 0 → 0 ≤ x → x < 100 → mk' x.toNat = a) (ho : ∀ p : Nat, p < 100 → (e = 0 → (p : Int) ≠ x) → mk' p = mk p) : Msk c l' mk' := fun k hk p h1 h2 hp => by
  by_cases hpx : (p : Int) = x
  · by_cases he : e = 0
    · have : p = x.toNat := by omega
      rw [this, hx he (by omega) (by omega)]
      exact h.yes he k hk (hpx ▸ hp)
    · rw [ho p h2 fun e => absurd e he]
      exact hM k hk p h1 h2 (hpx ▸ h.no he k hk (hpx ▸ hp))
  · rw [ho p h2 fun _ => hpx]
    exact hM k hk p h1 h2 (h.oth k p hk hp hpx)
end
end Go.Ab
/- QueueOnce: one call, by its kind. -/
namespace Go.Ab
open Go.Proofs
noncomputable section
set_option maxHeartbeats 8000000
set_option maxRecDepth 10000
/-- The temps that live on. -/
def Keep (J J1 : List (Nat × Value)) : Prop := lk J1 9 = lk J 9 ∧ lk J1 8 = lk J 8 ∧ lk J1 6 = lk J 6 ∧ lk J1 5 = lk J 5 ∧ lk J1 1 = lk J 1 ∧ lk J1 0 = lk J 0 ∧ lk J1 10 = lk J 10
section
variable {M : Mem} {J : List (Nat × Value)} {q c xb i n0 : Nat} {xc : Cells} {l : Nat → List Int} {W : Nat → Prop} {kk px co : Int} {a : BitVec 32}
theorem once_kind (h6 : lk J 6 = PT q) (h10 : lk J 10 = PT xb) (h11 : lk J 11 = In 2) (h45 : lk J 45 = In kk) (hQ : Qs M q c l W) (hx : M.get xb = some (.cells xc true 0))
    (x1 : xc.nth 1 = some (In px)) (x2 : xc.nth 2 = some (In co)) (x3 : xc.nth 3 = some (Um a)) (hD : Dq c l i) (hc : c ≤ 8) (hs : Sh l) (hn : n0 ≤ M.next) :
    WXi EE n0 none c5_27 (T 157 J) M (Q := ⟨fun x t M1 => x = .normal ∧ ∃ J1 e l1, t = T 157 J1 ∧ Keep J J1 ∧ lk J1 11 = In e ∧ Qs M1 q c l1 W ∧ Wx W M M1 ∧ Stp c i l px a e l1⟩) := by
  have dT : ∀ p : Prop, [Decidable p] → p → decide p = true := fun p _ h => decide_eq_true h
  have dF : ∀ p : Prop, [Decidable p] → ¬ p → decide p = false := fun p _ h => decide_eq_false h
  by_cases k0 : kk = 0
  · have d0 := dT _ k0
    simp only [w5_27, W_seq, w5_12, hn, X_eql EE_sym, Nat.reduceLT, ev_T, h45, ev_const, eq_int, d0, okI_some, T_set, X_assign, lk_cons, if_true, X_nil, thenQ_normal, W_cond, Nat.reduceEqDiff, if_false, CDi_t, w5_14, w5_13, Mem.next_bump, Nat.le_add_right_of_le, bump_bump, Nat.reduceAdd, X_move, h6, X_fieldAddr EE_sym fo_36_1, h10, offV_ptr, Nat.zero_add, X_load EE_sym, load1 lay_3, Mem.get_bump, hx, ld1_cells, x1, X_fieldAddr EE_sym fo_36_2, x2, X_fieldAddr EE_sym fo_36_3, load1 lay_29, x3, X_call ca_10, List.map_cons, List.map_nil, true_and]
    refine CallI.ex2 ((hQ.bump _).place_any (k := co) (a := a) (x := px) hs) fun v M1 hv => ?_
    obtain ⟨r, e, l1, rfl, hQ1, hw1, hP⟩ := hv
    have hw1 := hw1.of_bump
    have n1 := hw1.next
    simp only [putT, Nat.reduceLT, T_set, X_move, ev_T, lk_cons, Nat.reduceEqDiff, if_false, if_true, X_extract EE_sym, List.getElem?_toArray, List.getElem?_cons_zero, okI_some, List.getElem?_cons_succ, X_assign, X_nil, true_and]
    exact ⟨_, e, l1, rfl, ⟨rfl, rfl, rfl, rfl, rfl, rfl, rfl⟩, rfl, hQ1, hw1, hP.stp hD hc⟩
  have d0 := dF _ k0
  by_cases k1 : kk = 1
  · have d1 := dT _ k1
    simp only [w5_27, W_seq, w5_12, hn, X_eql EE_sym, Nat.reduceLT, ev_T, h45, ev_const, eq_int, d0, okI_some, T_set, X_assign, lk_cons, if_true, X_nil, thenQ_normal, W_cond, Nat.reduceEqDiff, if_false, CDi_f, w5_26, w5_15, Mem.next_bump, Nat.le_add_right_of_le, bump_bump, Nat.reduceAdd, d1, CDi_t, w5_17, w5_16, X_move, h6, X_fieldAddr EE_sym fo_36_1, h10, offV_ptr, Nat.zero_add, X_load EE_sym, load1 lay_3, Mem.get_bump, hx, ld1_cells, x1, X_fieldAddr EE_sym fo_36_3, load1 lay_29, x3, X_call ca_12, List.map_cons, List.map_nil, true_and]
    refine CallI.ex2 ((hQ.bump _).move_any (a := a) (x := px) hD hc hs) fun v M1 hv => ?_
    obtain ⟨r, e, l1, rfl, hQ1, hw1, hP⟩ := hv
    have hw1 := hw1.of_bump
    have n1 := hw1.next
    simp only [putT, Nat.reduceLT, T_set, X_move, ev_T, lk_cons, Nat.reduceEqDiff, if_false, if_true, X_extract EE_sym, List.getElem?_toArray, List.getElem?_cons_zero, okI_some, List.getElem?_cons_succ, X_assign, X_nil, true_and]
    exact ⟨_, e, l1, rfl, ⟨rfl, rfl, rfl, rfl, rfl, rfl, rfl⟩, rfl, hQ1, hw1, hP⟩
  have d1 := dF _ k1
  by_cases k2 : kk = 2
  · have d2 := dT _ k2
    simp only [w5_27, W_seq, w5_12, hn, X_eql EE_sym, Nat.reduceLT, ev_T, h45, ev_const, eq_int, d0, okI_some, T_set, X_assign, lk_cons, if_true, X_nil, thenQ_normal, W_cond, Nat.reduceEqDiff, if_false, CDi_f, w5_26, w5_15, Mem.next_bump, Nat.le_add_right_of_le, bump_bump, Nat.reduceAdd, d1, w5_25, w5_18, d2, CDi_t, w5_20, w5_19, X_move, h6, X_fieldAddr EE_sym fo_36_1, h10, offV_ptr, Nat.zero_add, X_load EE_sym, load1 lay_3, Mem.get_bump, hx, ld1_cells, x1, X_call ca_18, List.map_cons, List.map_nil, true_and]
    refine CallI.ex2 ((hQ.bump _).cut_any (a := a) (x := px) hD hc hs) fun v M1 hv => ?_
    obtain ⟨b, l1, rfl, hQ1, hw1, hP⟩ := hv
    have hw1 := hw1.of_bump
    have n1 := hw1.next
    simp only [putT, Nat.reduceLT, T_set, X_nil, true_and]
    exact ⟨_, 2, l1, rfl, ⟨rfl, rfl, rfl, rfl, rfl, rfl, rfl⟩, h11, hQ1, hw1, hP⟩
  have d2 := dF _ k2
  by_cases k3 : kk = 3
  · have d3 := dT _ k3
    simp only [w5_27, W_seq, w5_12, hn, X_eql EE_sym, Nat.reduceLT, ev_T, h45, ev_const, eq_int, d0, okI_some, T_set, X_assign, lk_cons, if_true, X_nil, thenQ_normal, W_cond, Nat.reduceEqDiff, if_false, CDi_f, w5_26, w5_15, Mem.next_bump, Nat.le_add_right_of_le, bump_bump, Nat.reduceAdd, d1, w5_25, w5_18, d2, w5_24, w5_21, d3, CDi_t, w5_23, w5_22, X_move, h6, X_fieldAddr EE_sym fo_36_2, h10, offV_ptr, Nat.zero_add, X_load EE_sym, load1 lay_3, Mem.get_bump, hx, ld1_cells, x2, X_call ca_14, List.map_cons, List.map_nil, true_and]
    refine CallI.ex2 ((hQ.bump _).rot_any (k := co) (a := a) (x := px) hD hc hs) fun v M1 hv => ?_
    obtain ⟨b, l1, rfl, hQ1, hw1, hP⟩ := hv
    have hw1 := hw1.of_bump
    have n1 := hw1.next
    simp only [putT, Nat.reduceLT, T_set, X_nil, true_and]
    exact ⟨_, 2, l1, rfl, ⟨rfl, rfl, rfl, rfl, rfl, rfl, rfl⟩, h11, hQ1, hw1, hP⟩
  have d3 := dF _ k3
  simp only [w5_27, W_seq, w5_12, hn, X_eql EE_sym, Nat.reduceLT, ev_T, h45, ev_const, eq_int, d0, okI_some, T_set, X_assign, lk_cons, if_true, X_nil, thenQ_normal, W_cond, Nat.reduceEqDiff, if_false, CDi_f, w5_26, w5_15, Mem.next_bump, Nat.le_add_right_of_le, bump_bump, Nat.reduceAdd, d1, w5_25, w5_18, d2, w5_24, w5_21, d3, W_skip, true_and]
  exact ⟨_, 2, l, rfl, ⟨rfl, rfl, rfl, rfl, rfl, rfl, rfl⟩, h11, hQ.bump _, Wx.refl.bump _, Stp.same hD (by decide)⟩
end
end
end Go.Ab
/- QueueOnce: one look at all queues. -/
namespace Go.Ab
open Go.Proofs
noncomputable section
set_option maxHeartbeats 8000000
set_option maxRecDepth 10000
/-- The masks, where they lie. -/
def MA (m : Mem) (b : Nat) (mk : Nat → BitVec 32) : Prop := ∃ cs, m.get b = some (.cells cs true 0) ∧ cs.n = 100 ∧ ∀ p, p < 100 → cs.nth p = some (Um (mk p))
theorem tot_mono {l : Nat → List Int} {a : Nat} : ∀ {b : Nat}, a ≤ b → tot a l ≤ tot b l
  | 0, h => by rw [show a = 0 by omega]; exact Nat.le_refl _
  | b + 1, h => by
    by_cases e : a = b + 1
    · rw [e]; exact Nat.le_refl _
    · have := tot_mono (l := l) (show a ≤ b by omega)
      rw [tot_succ]
      omega
theorem tot_end {l : Nat → List Int} {c : Nat} (he : ∀ k, c ≤ k → l k = []) : ∀ {b : Nat}, c ≤ b → tot b l = tot c l
  | 0, h => by rw [show c = 0 by omega]
  | b + 1, h => by
    by_cases e : c = b + 1
    · rw [e]
    · rw [tot_succ, tot_end he (show c ≤ b by omega), he b (by omega)]; rfl
section
variable {m M : Mem} {J : List (Nat × Value)} {q c b i n0 : Nat} {l : Nat → List Int} {sv : Value} {iv : Int} {mk : Nat → BitVec 32}
theorem once_scan (h9 : lk J 9 = In iv) (h8 : lk J 8 = PT b) (h6 : lk J 6 = PT q) (h5 : lk J 5 = .bool true) (h1 : lk J 1 = sv) (h0 : lk J 0 = In c) (h12 : lk J 12 = In 0) (h13 : lk J 13 = In 0)
    (hQ : Qs M q c l (fun y => y < m.next ∨ y = b)) (hw : Wx (fun y => y < m.next) m M) (hMA : MA M b mk) (hD : Dq c l i) (hc : c ≤ 8) (hi : i < 1000) (hK : Msk c l mk) :
    WXi EE m.next none c5_48 (T 157 J) M (Q := ⟨fun x t M1 => x = .exit 3 ∧ ∃ J1, t = T 157 J1 ∧ lk J1 9 = In iv ∧ lk J1 8 = PT b ∧ lk J1 6 = PT q ∧ lk J1 5 = .bool true ∧ lk J1 1 = sv ∧ lk J1 0 = In c ∧ lk J1 12 = In (tot c l) ∧ Qs M1 q c l (fun y => y < m.next ∨ y = b) ∧ Wx (fun y => y < m.next) m M1 ∧ MA M1 b mk⟩) := by
  have hsh := hD.sh hc hi
  refine WX.loop_of (fun x t M => ∃ k : Nat, k ≤ c ∧ x = c - k ∧ t = T 157 [(13, In k), (12, In (tot k l)), (9, In iv), (8, PT b), (6, PT q), (5, .bool true), (1, sv), (0, In c)] ∧ Qs M q c l (fun y => y < m.next ∨ y = b) ∧ Wx (fun y => y < m.next) m M ∧ MA M b mk) ?_ (k := c) (t1 := T 157 [(13, In (0 : Nat)), (12, In (0 : Nat)), (9, In iv), (8, PT b), (6, PT q), (5, .bool true), (1, sv), (0, In c)]) (View.temps ⟨h13, h12, h9, h8, h6, h5, h1, h0, trivial⟩) ⟨0, by omega, rfl, rfl, hQ, hw, hMA⟩
  clear hQ hw hMA h9 h8 h6 h5 h1 h0 h12 h13
  rintro x t M ⟨k, hk, rfl, rfl, hQ, hw, hMA⟩
  have hnx := hw.next
  by_cases hkc : ¬ k < c
  · obtain rfl : k = c := by omega
    have g1 : ¬ (k : Int) < (k : Int) := by omega
    simp only [w5_47, W_seq, w5_33, hnx, X_move, Nat.reduceLT, ev_T, lk_cons, Nat.reduceEqDiff, if_false, if_true, T_set, Nat.one_ne_zero, X_bin EE_sym (op := .lss) rfl, bin_lss, g1, decide_false, okI_some, X_nil, thenQ_normal, W_cond, CDi_f, W_exit, thenQ_exit, roundQ_exit, true_and]
    exact ⟨_, rfl, rfl, rfl, rfl, rfl, rfl, rfl, rfl, hQ.bump _, hw.bump _, hMA⟩
  have hkc : k < c := by omega
  have g1 : (k : Int) < (c : Int) := by omega
  have hwk : IntKind.i64.wrap ((k : Int) + 1) = ((k + 1 : Nat) : Int) := by rw [wrap_i64 (by omega) (by omega)]; omega
  simp only [w5_47, W_seq, w5_33, hnx, X_move, Nat.reduceLT, ev_T, lk_cons, Nat.reduceEqDiff, if_false, if_true, T_set, Nat.one_ne_zero, X_bin EE_sym (op := .lss) rfl, bin_lss, g1, decide_true, okI_some, X_nil, thenQ_normal, W_cond, CDi_t, W_skip, W_block, w5_45, w5_34, Mem.next_bump, Nat.le_add_right_of_le, bump_bump, Nat.reduceAdd, X_call ca_11, List.map_cons, List.map_nil, true_and]
  refine CallI.ex2 ((hQ.bump _).list (k := k) hsh hkc) fun v M1 hv => ?_
  obtain ⟨hL, hQ1, hw1⟩ := hv
  have m1 := hw1.of_bump.old b (.inr rfl)
  have hw1 := hw.trans (hw1.of_bump.mono fun y hy => .inl hy)
  have n1 := hw1.next
  have hlv : ∀ M, lenA EE.P 30 v M = some (In (l k).length) := fun M => hL.sl.lenA und_30
  have hll := hD.le hc k
  have htk : tot k l + (l k).length ≤ i := by
    have h1 : tot (k + 1) l ≤ tot 8 l := tot_mono (by omega)
    rw [tot_succ] at h1
    have := hD.len
    omega
  have hwt : IntKind.i64.wrap ((tot k l : Int) + ((l k).length : Int)) = ((tot (k + 1) l : Nat) : Int) := by rw [tot_succ, wrap_i64 (by omega) (by omega)]; omega
  simp only [putT, Nat.reduceLT, T_set, X_assign, ev_T, lk_cons, Nat.reduceEqDiff, if_false, if_true, X_nil, thenQ_normal, W_seq, w5_35, n1, X_move, X_len EE_sym, hlv, okI_some, X_bin EE_sym (op := .add) rfl, bin_add, hwt, w5_36, Mem.next_bump, Nat.le_add_right_of_le, bump_bump, Nat.reduceAdd, ev_const, W_block, w5_44, true_and]
  refine WX.loop_of (fun x t M => ∃ j j' : Nat, j ≤ (l k).length ∧ x = (l k).length - j ∧ t = T 157 [(15, In j), (14, v), (13, In k), (12, In (tot (k + 1) l)), (9, In iv), (8, PT b), (6, PT q), (5, .bool true), (1, sv), (0, In c)] ∧ M = M1.bump j') ?_ (k := (l k).length) (t1 := T 157 [(15, In (0 : Nat)), (14, v), (13, In k), (12, In (tot (k + 1) l)), (9, In iv), (8, PT b), (6, PT q), (5, .bool true), (1, sv), (0, In c)]) (View.temps ⟨rfl, rfl, rfl, rfl, rfl, rfl, rfl, rfl, rfl, rfl, trivial⟩) ⟨0, _, by omega, rfl, rfl, rfl⟩
  rintro x t M' ⟨j, j', hj, rfl, rfl, rfl⟩
  by_cases hjl : ¬ j < (l k).length
  · have g2 : ¬ (j : Int) < ((l k).length : Int) := by omega
    simp only [w5_43, W_seq, w5_37, Mem.next_bump, n1, Nat.le_add_right_of_le, bump_bump, X_move, Nat.reduceLT, ev_T, lk_cons, Nat.reduceEqDiff, if_false, if_true, T_set, X_len EE_sym, hlv, okI_some, X_bin EE_sym (op := .lss) rfl, bin_lss, g2, decide_false, X_nil, thenQ_normal, W_cond, CDi_f, W_exit, thenQ_exit, roundQ_exit, blockQ_exit, blockQ_normal, w5_46, Nat.add_assoc, Nat.reduceAdd, X_bin EE_sym (op := .add) rfl, ev_const, bin_add, hwk, X_assign, roundQ_normal, true_and]
    obtain ⟨cs, a1, a2, a3⟩ := hMA
    exact ⟨c - (k + 1), _, _, by omega, View.temps (l' := [(13, In ((k + 1 : Nat) : Int)), (12, In (tot (k + 1) l)), (9, In iv), (8, PT b), (6, PT q), (5, .bool true), (1, sv), (0, In c)]) ⟨rfl, rfl, rfl, rfl, rfl, rfl, rfl, rfl, trivial⟩, k + 1, by omega, rfl, rfl, hQ1.bump _, hw1.bump _, cs, by rw [Mem.get_bump, m1, a1], a2, a3⟩
  have hjl : j < (l k).length := by omega
  have g2 : (j : Int) < ((l k).length : Int) := by omega
  have g3 : (0 : Int) ≤ j := by omega
  have hwj : IntKind.i64.wrap ((j : Int) + 1) = ((j + 1 : Nat) : Int) := by rw [wrap_i64 (by omega) (by omega)]; omega
  obtain ⟨B, cc, cB, e, k1, k2, k3, k4⟩ := hL.sl.cons (by omega)
  obtain ⟨p, hp⟩ : ∃ p, p = (l k).getD j 0 := ⟨_, rfl⟩
  have hpm : p ∈ l k := by rw [hp, List.getD_eq_getElem?_getD, List.getElem?_eq_getElem hjl]; exact List.getElem_mem hjl
  have q3 : cB.nth j = some (In p) := by rw [nth_lt (by omega), k4 j (by simpa using hjl), il_getD hjl, hp]
  have hwh := hD.wh hkc hpm
  subst e
  simp only [w5_43, W_seq, w5_37, Mem.next_bump, n1, Nat.le_add_right_of_le, bump_bump, X_move, Nat.reduceLT, ev_T, lk_cons, Nat.reduceEqDiff, if_false, if_true, T_set, X_len EE_sym, len_slice und_30, okI_some, X_bin EE_sym (op := .lss) rfl, bin_lss, g2, decide_true, X_nil, thenQ_normal, W_cond, CDi_t, W_skip, W_block, w5_41, w5_38, Nat.add_assoc, Nat.reduceAdd, X_indexAddr EE_sym, g3, idxV_slice und_30 sz_3, Int.toNat_natCast, Nat.mul_one, Nat.zero_add, X_load EE_sym, load1 lay_3, Mem.get_bump, k1, ld1_cells, q3, X_call ca_16, List.map_cons, List.map_nil, true_and]
  refine CallI.con0 ((hQ1.bump _).where (x := p) hsh) ?_
  rw [hwh]
  have dT : ∀ p : Prop, [Decidable p] → p → decide p = true := fun p _ h => decide_eq_true h
  have dF : ∀ p : Prop, [Decidable p] → ¬ p → decide p = false := fun p _ h => decide_eq_false h
  by_cases p0 : ¬ 0 < p
  · have d0 := dF _ p0
    simp only [putT, Nat.reduceLT, T_set, X_move, ev_T, lk_cons, Nat.reduceEqDiff, if_false, if_true, X_neq EE_sym, neq_int, decide_true, Bool.not_true, okI_some, X_guard EE_sym, T_get, GDi_ff, X_indexAddr EE_sym, g3, g2, idxV_slice und_30 sz_3, Int.toNat_natCast, Nat.mul_one, Nat.zero_add, X_load EE_sym, load1 lay_3, Mem.get_bump, k1, ld1_cells, q3, X_bin EE_sym (op := .gtr) rfl, ev_const, bin_gtr, d0, GDi_ft, X_pick EE_sym, pickV_bool, Bool.false_eq_true, X_nil, thenQ_normal, W_cond, CDi_f, W_skip, blockQ_normal, w5_42, Mem.next_bump, n1, Nat.le_add_right_of_le, bump_bump, Nat.add_assoc, Nat.reduceAdd, X_bin EE_sym (op := .add) rfl, bin_add, hwj, X_assign, roundQ_normal, true_and]
    exact ⟨(l k).length - (j + 1), _, _, by omega, View.temps (l' := [(15, In ((j + 1 : Nat) : Int)), (14, .slice (some ⟨B, 0, none⟩) (l k).length cc), (13, In k), (12, In (tot (k + 1) l)), (9, In iv), (8, PT b), (6, PT q), (5, .bool true), (1, sv), (0, In c)]) ⟨rfl, rfl, rfl, rfl, rfl, rfl, rfl, rfl, rfl, rfl, trivial⟩, j + 1, _, by omega, rfl, rfl, rfl⟩
  have d0 := dT _ (show 0 < p by omega)
  by_cases p1 : ¬ p < 100
  · have d1 := dF _ p1
    simp only [putT, Nat.reduceLT, T_set, X_move, ev_T, lk_cons, Nat.reduceEqDiff, if_false, if_true, X_neq EE_sym, neq_int, decide_true, Bool.not_true, okI_some, X_guard EE_sym, T_get, GDi_ff, X_indexAddr EE_sym, g3, g2, idxV_slice und_30 sz_3, Int.toNat_natCast, Nat.mul_one, Nat.zero_add, X_load EE_sym, load1 lay_3, Mem.get_bump, k1, ld1_cells, q3, X_bin EE_sym (op := .gtr) rfl, ev_const, bin_gtr, d0, GDi_tt, X_bin EE_sym (op := .lss) rfl, bin_lss, d1, X_pick EE_sym, pickV_bool, GDi_ft, Bool.false_eq_true, X_nil, thenQ_normal, W_cond, CDi_f, W_skip, blockQ_normal, w5_42, Mem.next_bump, n1, Nat.le_add_right_of_le, bump_bump, Nat.add_assoc, Nat.reduceAdd, X_bin EE_sym (op := .add) rfl, bin_add, hwj, X_assign, roundQ_normal, true_and]
    exact ⟨(l k).length - (j + 1), _, _, by omega, View.temps (l' := [(15, In ((j + 1 : Nat) : Int)), (14, .slice (some ⟨B, 0, none⟩) (l k).length cc), (13, In k), (12, In (tot (k + 1) l)), (9, In iv), (8, PT b), (6, PT q), (5, .bool true), (1, sv), (0, In c)]) ⟨rfl, rfl, rfl, rfl, rfl, rfl, rfl, rfl, rfl, rfl, trivial⟩, j + 1, _, by omega, rfl, rfl, rfl⟩
  have d1 := dT _ (show p < 100 by omega)
  obtain ⟨p', hp'⟩ : ∃ p' : Nat, p = p' := ⟨p.toNat, by omega⟩
  obtain ⟨cs, a1, a2, a3⟩ := hMA
  have hb := hK k hkc p' (by omega) (by omega) (hp' ▸ hpm)
  have e0 := mb_t0 hb
  have a4 := a3 p' (by omega)
  have a5 : M1.get b = some (.cells cs true 0) := by rw [m1, a1]
  have g4 : (0 : Int) ≤ p := by omega
  have g5 : p < ((100 : Nat) : Int) := by omega
  have g6 : (0 : Int) ≤ k := by omega
  rw [show p' = p.toNat by omega] at a4 e0
  simp only [putT, Nat.reduceLT, T_set, X_move, ev_T, lk_cons, Nat.reduceEqDiff, if_false, if_true, X_neq EE_sym, neq_int, decide_true, Bool.not_true, okI_some, X_guard EE_sym, T_get, GDi_ff, X_indexAddr EE_sym, g3, g2, idxV_slice und_30 sz_3, Int.toNat_natCast, Nat.mul_one, Nat.zero_add, X_load EE_sym, load1 lay_3, Mem.get_bump, k1, ld1_cells, q3, X_bin EE_sym (op := .gtr) rfl, ev_const, bin_gtr, d0, GDi_tt, X_bin EE_sym (op := .lss) rfl, bin_lss, d1, X_pick EE_sym, pickV_bool, g4, g5, idxV_arr und_43 sz_29, load1 lay_29, a5, a4, X_bin EE_sym (op := .shr) rfl, g6, bin_shr32, X_bin EE_sym (op := .and) rfl, bin_and1, X_eql EE_sym, eq_int, e0, Bool.false_eq_true, X_nil, thenQ_normal, W_cond, CDi_f, W_skip, blockQ_normal, w5_42, Mem.next_bump, n1, Nat.le_add_right_of_le, bump_bump, Nat.add_assoc, Nat.reduceAdd, X_bin EE_sym (op := .add) rfl, bin_add, hwj, X_assign, roundQ_normal, true_and]
  exact ⟨(l k).length - (j + 1), _, _, by omega, View.temps (l' := [(15, In ((j + 1 : Nat) : Int)), (14, .slice (some ⟨B, 0, none⟩) (l k).length cc), (13, In k), (12, In (tot (k + 1) l)), (9, In iv), (8, PT b), (6, PT q), (5, .bool true), (1, sv), (0, In c)]) ⟨rfl, rfl, rfl, rfl, rfl, rfl, rfl, rfl, rfl, rfl, trivial⟩, j + 1, _, by omega, rfl, rfl, rfl⟩
end
end
end Go.Ab
/- QueueOnce: whatever comes in, it answers true. -/
namespace Go.Ab
open Go.Proofs
noncomputable section
set_option maxHeartbeats 8000000
set_option maxRecDepth 10000
section
variable {m : Mem} {l0 : Value} {n : Nat}
theorem Nx.mk1 {m : Mem} {b j : Nat} {o : AObj} (hm : Fresh m) (hb : m.next ≤ b) (hj : b < m.next + j) : Nx m ((m.put b o).bump j) :=
  ⟨by rw [Mem.next_bump, Mem.next_put]; omega, Fresh.of_low (by have := hm.n64; simp only [Mem.next_bump, Mem.next_put]; omega) (Low.bump (Low.put (fun y hy => by simp only [Mem.next_bump, Mem.next_put] at hy; exact hm.none y (by omega)) (by simp only [Mem.next_bump, Mem.next_put]; omega))), fun y hy => by rw [Mem.get_bump, Mem.get_put, if_neg (by omega)]⟩
theorem zeros_nth {p : Nat} (hp : p < 100) : (Cells.ofList (List.replicate 100 (.int .u32 0))).nth p = some (Um 0#32) := by
  rw [nth_lt (by rw [ofList_n, List.length_replicate]; exact hp), get_ofList (by rw [List.length_replicate]; exact hp)]
  rw [List.getD_eq_getElem?_getD, List.getElem?_replicate, if_pos hp]
  rfl
theorem Wx.put_at {m M : Mem} {W : Nat → Prop} {y : Nat} {o : AObj} (h : Wx W m M) (hy : ∀ z, W z → z ≠ y) (hn : m.next ≤ y) : Wx W m (M.put y o) :=
  ⟨by rw [Mem.next_put]; exact h.next, fun z hz => by rw [Mem.get_put, if_neg (hy z hz), h.old z hz], fun z hz e => by rw [Mem.get_put, if_neg (by omega), h.low z hz e]⟩
theorem Nx.mk2 {m : Mem} {b j : Nat} {o o' : AObj} (hm : Fresh m) (hb : m.next ≤ b) (hj : b < m.next + j) : Nx m (((m.put b o).put b o').bump j) :=
  ⟨by simp only [Mem.next_bump, Mem.next_put]; omega, Fresh.of_low (by have := hm.n64; simp only [Mem.next_bump, Mem.next_put]; omega) (Low.bump (Low.put (Low.put (fun y hy => by simp only [Mem.next_bump, Mem.next_put] at hy; exact hm.none y (by omega)) (by simp only [Mem.next_bump, Mem.next_put]; omega)) (by simp only [Mem.next_bump, Mem.next_put]; omega))), fun y hy => by rw [Mem.get_bump, Mem.get_put, if_neg (by omega), Mem.get_put, if_neg (by omega)]⟩
theorem xcells {k x co : Int} {a : BitVec 32} : ∃ xc, (Cells.ofList [In 0, In 0, In 0, .int .u32 0]).write 0 [In k, In x, In co, Um a] = xc ∧ xc.nth 0 = some (In k) ∧ xc.nth 1 = some (In x) ∧ xc.nth 2 = some (In co) ∧ xc.nth 3 = some (Um a) :=
  ⟨_, rfl, rfl, rfl, rfl, rfl⟩
theorem once_ok {x0 : Int} (hm : Fresh m) (ho : Ops m l0 n) : ∃ m', Con EE.P 5 [In x0, l0] m (.bool true) m' := by
  refine Con.raw1 EE_ok fn5 (Nat.le_of_ble_eq_true rfl) ?_
  obtain ⟨aa, C0, rfl, hl2⟩ := id ho
  simp only [f5, enumV, Nat.zero_add, w5, W_seq, w5_0, Nat.le_refl, X_assign, ev_const, Nat.reduceLT, T_set, X_nil, thenQ_normal, w5_1, Mem.next_bump, Nat.le_add_right, bump_bump, Nat.reduceAdd, X_call ca_8, List.map_nil, true_and]
  refine CallI.ex2 (alive_ok (W := fun y => y < m.next) hm.bump fun y hy => by rw [Mem.next_bump]; omega) fun v m1 hv => ?_
  obtain ⟨rfl, w1, f1⟩ := hv
  have w1 := w1.of_bump
  have n1 := w1.next
  have hW1 : ∀ y, y < m.next → y < m1.next := fun y hy => by omega
  by_cases hn : ¬ (1 ≤ x0 ∧ x0 ≤ 8)
  · simp only [putT, Nat.reduceLT, T_set, X_assign, ev_T, lk_cons, Nat.reduceEqDiff, if_false, if_true, X_nil, thenQ_normal, W_seq, w5_2, n1, X_move, Nat.one_ne_zero, X_call ca_9, List.map_cons, List.map_nil, true_and]
    refine CallI.con0 (new_bad hn) ?_
    by_cases h60 : 60 < n
    · have h60' : (60 : Int) < (n : Int) := by omega
      simp only [putT, Nat.reduceLT, T_set, X_move, ev_T, lk_cons, Nat.reduceEqDiff, if_false, if_true, X_extract EE_sym, List.getElem?_toArray, List.getElem?_cons_zero, okI_some, List.getElem?_cons_succ, X_assign, X_nil, thenQ_normal, W_seq, w5_3, Mem.next_bump, n1, Nat.le_add_right_of_le, bump_bump, Nat.reduceAdd, X_len EE_sym, len_slice und_34, X_bin EE_sym (op := .gtr) rfl, ev_const, bin_gtr, h60', decide_true, X_guard EE_sym, T_get, GDi_tf, X_pick EE_sym, pickV_bool, W_cond, CDi_t, w5_5, w5_4, W_ret, thenQ_ret, FinX_ret, resA_tmp, resA_nil, Option.map_some, oneOr1, true_and]
      exact RawE.of (by rw [Mem.next_bump]; omega) fun y hy => w1.old y hy
    · have h60' : ¬ (60 : Int) < (n : Int) := by omega
      simp only [putT, Nat.reduceLT, T_set, X_move, ev_T, lk_cons, Nat.reduceEqDiff, if_false, if_true, X_extract EE_sym, List.getElem?_toArray, List.getElem?_cons_zero, okI_some, List.getElem?_cons_succ, X_assign, X_nil, thenQ_normal, W_seq, w5_3, Mem.next_bump, n1, Nat.le_add_right_of_le, bump_bump, Nat.reduceAdd, X_len EE_sym, len_slice und_34, X_bin EE_sym (op := .gtr) rfl, ev_const, bin_gtr, h60', decide_false, X_guard EE_sym, T_get, GDi_ff, X_neq EE_sym, neq_int, Int.reduceEq, Bool.not_false, X_pick EE_sym, pickV_bool, Bool.false_eq_true, GDi_tf, W_cond, CDi_t, w5_5, w5_4, W_ret, thenQ_ret, FinX_ret, resA_tmp, resA_nil, Option.map_some, oneOr1, true_and]
      exact RawE.of (by rw [Mem.next_bump]; omega) fun y hy => w1.old y hy
  obtain ⟨c, rfl⟩ : ∃ c : Nat, x0 = c := ⟨x0.toNat, by omega⟩
  have hc1 : 1 ≤ c := by omega
  have hc8 : c ≤ 8 := by omega
  simp only [putT, Nat.reduceLT, T_set, X_assign, ev_T, lk_cons, Nat.reduceEqDiff, if_false, if_true, X_nil, thenQ_normal, W_seq, w5_2, n1, X_move, Nat.one_ne_zero, X_call ca_9, List.map_cons, List.map_nil, true_and]
  refine CallI.ex2 (Qs.new (n := c) (W := fun y => y < m.next) f1.bump (fun y hy => by rw [Mem.next_bump]; have := hW1 y hy; omega) hc1 hc8) fun v m2 hv => ?_
  obtain ⟨q, rfl, h2, w2⟩ := hv
  have w2 := w2.of_bump
  have w2 := w1.trans w2
  have n2 := w2.next
  clear w1 n1 f1 hW1
  by_cases h60 : 60 < n
  · have h60' : (60 : Int) < (n : Int) := by omega
    simp only [putT, Nat.reduceLT, T_set, X_move, ev_T, lk_cons, Nat.reduceEqDiff, if_false, if_true, X_extract EE_sym, List.getElem?_toArray, List.getElem?_cons_zero, okI_some, List.getElem?_cons_succ, X_assign, X_nil, thenQ_normal, W_seq, w5_3, n2, X_len EE_sym, len_slice und_34, X_bin EE_sym (op := .gtr) rfl, ev_const, bin_gtr, h60', decide_true, X_guard EE_sym, T_get, GDi_tf, X_pick EE_sym, pickV_bool, W_cond, CDi_t, w5_5, w5_4, Mem.next_bump, Nat.le_add_right_of_le, bump_bump, Nat.reduceAdd, W_ret, thenQ_ret, FinX_ret, resA_tmp, resA_nil, Option.map_some, oneOr1, true_and]
    exact RawE.of (by rw [Mem.next_bump]; omega) fun y hy => w2.old y hy
  have h60' : ¬ (60 : Int) < (n : Int) := by omega
  simp only [putT, Nat.reduceLT, T_set, X_move, ev_T, lk_cons, Nat.reduceEqDiff, if_false, if_true, X_extract EE_sym, List.getElem?_toArray, List.getElem?_cons_zero, okI_some, List.getElem?_cons_succ, X_assign, X_nil, thenQ_normal, W_seq, w5_3, n2, X_len EE_sym, len_slice und_34, X_bin EE_sym (op := .gtr) rfl, ev_const, bin_gtr, h60', decide_false, X_guard EE_sym, T_get, GDi_ff, X_neq EE_sym, neq_int, decide_true, Bool.not_true, X_pick EE_sym, pickV_bool, Bool.false_eq_true, X_un EE_sym, un_not, W_cond, CDi_f, W_skip, w5_6, Mem.next_bump, Nat.le_add_right_of_le, bump_bump, Nat.reduceAdd, X_alloc, zero_43, Nat.add_zero, put_bump, w5_7, Mem.next_put, W_block, w5_55, true_and]
  obtain ⟨mb, hmb⟩ : ∃ mb, mb = m2.next + 11 := ⟨_, rfl⟩
  have hmbl : ∀ y, y < m.next → y ≠ mb := fun y hy => by omega
  refine WX.loop_of (fun x t M => ∃ (i : Nat) (l : Nat → List Int) (mk : Nat → BitVec 32), i ≤ n ∧ x = n - i ∧ t = T 157 [(9, In i), (8, PT mb), (6, PT q), (5, .bool true), (1, .slice aa n C0), (0, In c)] ∧ Qs M q c l (fun y => y < m.next ∨ y = mb) ∧ Wx (fun y => y < m.next) m M ∧ MA M mb mk ∧ Dq c l i ∧ Msk c l mk) ?_ (k := n) (t1 := T 157 [(9, In (0 : Nat)), (8, PT mb), (6, PT q), (5, .bool true), (1, .slice aa n C0), (0, In c)]) (View.temps ⟨rfl, by rw [hmb]; rfl, rfl, rfl, rfl, rfl, trivial⟩) ⟨0, _, fun _ => 0#32, by omega, rfl, rfl, h2.add (Nx.mk1 h2.fresh (b := m2.next + 11) (by omega) (by omega)) (by rw [hmb]; intro y hy; rw [Mem.next_bump, Mem.next_put]; omega), w2.trans (Wx.of_nx (Nx.mk1 h2.fresh (by omega) (by omega)) h2.wlt), ⟨_, by rw [Mem.get_bump, Mem.get_put, if_pos hmb]; rfl, rfl, fun p hp => zeros_nth hp⟩, Dq.start, fun _ _ _ _ _ h => by cases h⟩
  clear h2 w2 n2
  rintro x t M ⟨i, l, mk, hi, rfl, rfl, hQ, hw, hMA, hD, hK⟩
  have hnx := hw.next
  have hsh := hD.sh hc8 (by omega)
  by_cases hin : ¬ i < n
  · obtain rfl : i = n := by omega
    have g1 : ¬ (i : Int) < (i : Int) := by omega
    simp only [w5_54, W_seq, w5_8, hnx, X_move, Nat.reduceLT, ev_T, lk_cons, Nat.reduceEqDiff, if_false, if_true, T_set, X_len EE_sym, len_slice und_34, okI_some, X_bin EE_sym (op := .lss) rfl, bin_lss, g1, decide_false, X_nil, thenQ_normal, W_cond, CDi_f, W_exit, thenQ_exit, roundQ_exit, blockQ_exit, w5_56, Mem.next_bump, Nat.le_add_right_of_le, bump_bump, Nat.reduceAdd, X_assign, W_ret, FinX_ret, resA_tmp, T_get, resA_nil, Option.map_some, oneOr1, true_and]
    exact RawE.of (by rw [Mem.next_bump]; omega) fun y hy => hw.old y hy
  have hin : i < n := by omega
  have g1 : (i : Int) < (n : Int) := by omega
  have g2 : (0 : Int) ≤ i := by omega
  have hwi : IntKind.i64.wrap ((i : Int) + 1) = ((i + 1 : Nat) : Int) := by rw [wrap_i64 (by omega) (by omega)]; omega
  rcases hl2 with hl2 | ⟨L, cs, ww, z, rfl, e1, e2⟩
  · omega
  obtain ⟨kk, px, co, a, e3⟩ := e2 i hin
  have e4 : M.get L = some (.cells cs ww z) := by rw [hw.old L (hm.lt e1), e1]
  obtain ⟨xc, hxc, x0, x1, x2, x3⟩ := xcells (k := kk) (x := px) (co := co) (a := a)
  simp only [w5_54, W_seq, w5_8, hnx, X_move, Nat.reduceLT, ev_T, lk_cons, Nat.reduceEqDiff, if_false, if_true, T_set, X_len EE_sym, len_slice und_34, okI_some, X_bin EE_sym (op := .lss) rfl, bin_lss, g1, decide_true, X_nil, thenQ_normal, W_cond, CDi_t, W_skip, W_block, w5_52, w5_9, Mem.next_bump, Nat.le_add_right_of_le, bump_bump, Nat.reduceAdd, X_indexAddr EE_sym, g2, idxV_slice und_34 sz_36, Int.toNat_natCast, Nat.zero_add, X_load EE_sym, loadN lay_36, Mem.get_bump, e4, ldN_cells, e3, Option.map_some, X_alloc, zero_36, Nat.add_assoc, put_bump, X_store, store1 sz_36, Mem.get_put, cells_agg, st1_cells, List.length_cons, List.length_nil, ofList_n, Nat.le_refl, List.all_cons, oneCell, List.all_nil, Bool.and_self, and_self, hxc, w5_10, Mem.next_put, X_assign, ev_const, w5_11, X_fieldAddr EE_sym fo_36_0, offV_ptr, Nat.add_zero, load1 lay_3, ld1_cells, x0, true_and]
  obtain ⟨xb, hxb⟩ : ∃ xb, xb = M.next + 8 := ⟨_, rfl⟩
  have hnx2 := Nx.mk2 (o := .cells (Cells.ofList [In 0, In 0, In 0, .int .u32 0]) true 0) (o' := .cells xc true 0) (j := 13) hQ.fresh (b := M.next + 8) (by omega) (by omega)
  have hQx := hQ.add hnx2 (P := fun y => y = xb) fun y hy => by subst hy; rw [hxb]; exact ⟨by omega, by simp only [Mem.next_bump, Mem.next_put]; omega⟩
  refine WX.mono ?_ (once_kind (c := c) (xb := xb) (i := i) (l := l) (W := fun y => (y < m.next ∨ y = mb) ∨ y = xb) (kk := kk) (px := px) (co := co) (a := a) (xc := xc) rfl (by rw [hxb]; rfl) rfl rfl hQx (by rw [hxb, Mem.get_bump, Mem.get_put, if_pos rfl]) x1 x2 x3 hD hc8 hsh (by simp only [Mem.next_bump, Mem.next_put]; omega))
  rintro x t M1 ⟨rfl, J, e, l1, rfl, ⟨j9, j8, j6, j5, j1, j0, j10⟩, j11, hQ1, hw1, hS⟩
  have j9 : lk J 9 = In i := j9
  have j8 : lk J 8 = PT mb := j8
  have j6 : lk J 6 = PT q := j6
  have j5 : lk J 5 = .bool true := j5
  have j1 : lk J 1 = .slice (some ⟨L, 0, none⟩) n C0 := j1
  have j0 : lk J 0 = In c := j0
  have j10 : lk J 10 = PT xb := by rw [j10, hxb]; rfl
  obtain ⟨ms0, a1, a2, a3⟩ := hMA
  have q1 : M1.get xb = some (.cells xc true 0) := by rw [hw1.old _ (.inr rfl), hxb, Mem.get_bump, Mem.get_put, if_pos rfl]
  have q2 : M1.get mb = M.get mb := by rw [hw1.old _ (.inl (.inr rfl)), hnx2.old _ (hQ.wlt mb (.inr rfl))]
  have q3 : Wx (fun y => y < m.next) m M1 := hw.trans ((Wx.of_nx hnx2 hQ.wlt).trans (hw1.mono fun y hy => .inl hy) |>.mono fun y hy => .inl hy)
  have q4 : Qs M1 q c l1 (fun y => y < m.next ∨ y = mb) := hQ1.less fun y hy => .inl hy
  clear hQ1 hw1 hQx hnx2
  have n1 := q3.next
  have hcat := hS.dq.cat (by omega)
  have dT : ∀ p : Prop, [Decidable p] → p → decide p = true := fun p _ h => decide_eq_true h
  have dF : ∀ p : Prop, [Decidable p] → ¬ p → decide p = false := fun p _ h => decide_eq_false h
  by_cases r0 : ¬ e = 0
  · have d0 := dF _ r0
    have hK1 := hS.msk (mk' := mk) hK (fun e0 e1 e2 => absurd e0 r0) fun _ _ _ => rfl
    simp only [blockQ_normal, thenQ_normal, W_seq, w5_28, n1, X_move, Nat.reduceLT, ev_T, j11, T_set, X_eql EE_sym, lk_cons, if_true, ev_const, eq_int, d0, okI_some, Nat.reduceEqDiff, if_false, X_guard EE_sym, T_get, GDi_ft, putT, X_pick EE_sym, pickV_bool, Bool.false_eq_true, X_nil, W_cond, CDi_f, W_skip, w5_31, Mem.next_bump, Nat.le_add_right_of_le, bump_bump, Nat.reduceAdd, X_assign, w5_32, W_block, true_and]
    refine WX.mono ?_ (once_scan (m := m) (b := mb) (i := i + 1) (l := l1) (mk := mk) j9 j8 j6 j5 j1 j0 rfl rfl (q4.bump _) (q3.bump _) ⟨ms0, by rw [Mem.get_bump, q2, a1], a2, a3⟩ hS.dq hc8 (by omega) hK1)
    rintro x t M2 ⟨rfl, J2, rfl, k9, k8, k6, k5, k1, k0, k12, hQ2, hw2, ms, a1, a2, a3⟩
    have n2 := hw2.next
    simp only [blockQ_exit, if_true, thenQ_normal, W_seq, w5_49, n2, X_move, Nat.reduceLT, ev_T, k12, T_set, lk_cons, Nat.reduceEqDiff, k6, if_false, X_call ca_17, List.map_cons, List.map_nil, true_and]
    refine CallI.ex2 ((hQ2.bump _).all hcat) fun v M3 hv => ?_
    obtain ⟨hL, hQ3, hw3⟩ := hv
    have m3 := hw3.of_bump.old mb (.inr rfl)
    have hw3 := hw2.trans (hw3.of_bump.mono fun y hy => .inl hy)
    have n3 := hw3.next
    have hl3 : ∀ M, lenA EE.P 30 v M = some (In (tot c l1)) := fun M => by have := hL.sl.lenA und_30 (m := M); rw [this, isort_len, catTo_len, tot_end hS.dq.emp hc8]
    simp only [putT, Nat.reduceLT, T_set, X_len EE_sym, ev_T, lk_cons, Nat.reduceEqDiff, if_false, if_true, hl3, okI_some, X_neq EE_sym, neq_int, decide_true, Bool.not_true, X_nil, thenQ_normal, W_cond, CDi_f, W_skip, blockQ_normal, w5_53, n3, X_move, k9, X_bin EE_sym (op := .add) rfl, ev_const, bin_add, hwi, X_assign, roundQ_normal, true_and]
    exact ⟨n - (i + 1), _, _, by omega, View.temps (l' := [(9, In ((i + 1 : Nat) : Int)), (8, PT mb), (6, PT q), (5, .bool true), (1, .slice (some ⟨L, 0, none⟩) n C0), (0, In c)]) ⟨rfl, k8, k6, k5, k1, k0, trivial⟩, i + 1, l1, _, by omega, rfl, rfl, hQ3.bump _, hw3.bump _, ⟨ms, by rw [Mem.get_bump, m3, a1], a2, a3⟩, hS.dq, hK1⟩
  have r0 : e = 0 := by omega
  have d0 := dT _ r0
  by_cases r1 : ¬ px ≥ 0
  · have d1 := dF _ r1
    have hK1 := hS.msk (mk' := mk) hK (fun e0 e1 e2 => absurd e1 r1) fun _ _ _ => rfl
    simp only [blockQ_normal, thenQ_normal, W_seq, w5_28, n1, X_move, Nat.reduceLT, ev_T, j11, T_set, X_eql EE_sym, lk_cons, if_true, ev_const, eq_int, d0, okI_some, Nat.reduceEqDiff, if_false, X_guard EE_sym, T_get, GDi_tt, X_fieldAddr EE_sym fo_36_1, j10, offV_ptr, Nat.zero_add, X_load EE_sym, load1 lay_3, Mem.get_bump, q1, ld1_cells, x1, X_bin EE_sym (op := .geq) rfl, bin_geq, d1, X_pick EE_sym, pickV_bool, GDi_ft, putT, Bool.false_eq_true, X_nil, W_cond, CDi_f, W_skip, w5_31, Mem.next_bump, Nat.le_add_right_of_le, bump_bump, Nat.reduceAdd, X_assign, w5_32, W_block, true_and]
    refine WX.mono ?_ (once_scan (m := m) (b := mb) (i := i + 1) (l := l1) (mk := mk) j9 j8 j6 j5 j1 j0 rfl rfl (q4.bump _) (q3.bump _) ⟨ms0, by rw [Mem.get_bump, q2, a1], a2, a3⟩ hS.dq hc8 (by omega) hK1)
    rintro x t M2 ⟨rfl, J2, rfl, k9, k8, k6, k5, k1, k0, k12, hQ2, hw2, ms, a1, a2, a3⟩
    have n2 := hw2.next
    simp only [blockQ_exit, if_true, thenQ_normal, W_seq, w5_49, n2, X_move, Nat.reduceLT, ev_T, k12, T_set, lk_cons, Nat.reduceEqDiff, k6, if_false, X_call ca_17, List.map_cons, List.map_nil, true_and]
    refine CallI.ex2 ((hQ2.bump _).all hcat) fun v M3 hv => ?_
    obtain ⟨hL, hQ3, hw3⟩ := hv
    have m3 := hw3.of_bump.old mb (.inr rfl)
    have hw3 := hw2.trans (hw3.of_bump.mono fun y hy => .inl hy)
    have n3 := hw3.next
    have hl3 : ∀ M, lenA EE.P 30 v M = some (In (tot c l1)) := fun M => by have := hL.sl.lenA und_30 (m := M); rw [this, isort_len, catTo_len, tot_end hS.dq.emp hc8]
    simp only [putT, Nat.reduceLT, T_set, X_len EE_sym, ev_T, lk_cons, Nat.reduceEqDiff, if_false, if_true, hl3, okI_some, X_neq EE_sym, neq_int, decide_true, Bool.not_true, X_nil, thenQ_normal, W_cond, CDi_f, W_skip, blockQ_normal, w5_53, n3, X_move, k9, X_bin EE_sym (op := .add) rfl, ev_const, bin_add, hwi, X_assign, roundQ_normal, true_and]
    exact ⟨n - (i + 1), _, _, by omega, View.temps (l' := [(9, In ((i + 1 : Nat) : Int)), (8, PT mb), (6, PT q), (5, .bool true), (1, .slice (some ⟨L, 0, none⟩) n C0), (0, In c)]) ⟨rfl, k8, k6, k5, k1, k0, trivial⟩, i + 1, l1, _, by omega, rfl, rfl, hQ3.bump _, hw3.bump _, ⟨ms, by rw [Mem.get_bump, m3, a1], a2, a3⟩, hS.dq, hK1⟩
  have d1 := dT _ (show px ≥ 0 by omega)
  by_cases r2 : ¬ px < 100
  · have d2 := dF _ r2
    have hK1 := hS.msk (mk' := mk) hK (fun e0 e1 e2 => absurd e2 r2) fun _ _ _ => rfl
    simp only [blockQ_normal, thenQ_normal, W_seq, w5_28, n1, X_move, Nat.reduceLT, ev_T, j11, T_set, X_eql EE_sym, lk_cons, if_true, ev_const, eq_int, d0, okI_some, Nat.reduceEqDiff, if_false, X_guard EE_sym, T_get, GDi_tt, X_fieldAddr EE_sym fo_36_1, j10, offV_ptr, Nat.zero_add, X_load EE_sym, load1 lay_3, Mem.get_bump, q1, ld1_cells, x1, X_bin EE_sym (op := .geq) rfl, bin_geq, d1, X_pick EE_sym, pickV_bool, X_bin EE_sym (op := .lss) rfl, bin_lss, d2, X_nil, W_cond, CDi_f, W_skip, w5_31, Mem.next_bump, Nat.le_add_right_of_le, bump_bump, Nat.reduceAdd, X_assign, w5_32, W_block, true_and]
    refine WX.mono ?_ (once_scan (m := m) (b := mb) (i := i + 1) (l := l1) (mk := mk) j9 j8 j6 j5 j1 j0 rfl rfl (q4.bump _) (q3.bump _) ⟨ms0, by rw [Mem.get_bump, q2, a1], a2, a3⟩ hS.dq hc8 (by omega) hK1)
    rintro x t M2 ⟨rfl, J2, rfl, k9, k8, k6, k5, k1, k0, k12, hQ2, hw2, ms, a1, a2, a3⟩
    have n2 := hw2.next
    simp only [blockQ_exit, if_true, thenQ_normal, W_seq, w5_49, n2, X_move, Nat.reduceLT, ev_T, k12, T_set, lk_cons, Nat.reduceEqDiff, k6, if_false, X_call ca_17, List.map_cons, List.map_nil, true_and]
    refine CallI.ex2 ((hQ2.bump _).all hcat) fun v M3 hv => ?_
    obtain ⟨hL, hQ3, hw3⟩ := hv
    have m3 := hw3.of_bump.old mb (.inr rfl)
    have hw3 := hw2.trans (hw3.of_bump.mono fun y hy => .inl hy)
    have n3 := hw3.next
    have hl3 : ∀ M, lenA EE.P 30 v M = some (In (tot c l1)) := fun M => by have := hL.sl.lenA und_30 (m := M); rw [this, isort_len, catTo_len, tot_end hS.dq.emp hc8]
    simp only [putT, Nat.reduceLT, T_set, X_len EE_sym, ev_T, lk_cons, Nat.reduceEqDiff, if_false, if_true, hl3, okI_some, X_neq EE_sym, neq_int, decide_true, Bool.not_true, X_nil, thenQ_normal, W_cond, CDi_f, W_skip, blockQ_normal, w5_53, n3, X_move, k9, X_bin EE_sym (op := .add) rfl, ev_const, bin_add, hwi, X_assign, roundQ_normal, true_and]
    exact ⟨n - (i + 1), _, _, by omega, View.temps (l' := [(9, In ((i + 1 : Nat) : Int)), (8, PT mb), (6, PT q), (5, .bool true), (1, .slice (some ⟨L, 0, none⟩) n C0), (0, In c)]) ⟨rfl, k8, k6, k5, k1, k0, trivial⟩, i + 1, l1, _, by omega, rfl, rfl, hQ3.bump _, hw3.bump _, ⟨ms, by rw [Mem.get_bump, m3, a1], a2, a3⟩, hS.dq, hK1⟩
  have d2 := dT _ (show px < 100 by omega)
  have g3 : (0 : Int) ≤ px := by omega
  have g4 : px < ((100 : Nat) : Int) := by omega
  have a5 : M1.get mb = some (.cells ms0 true 0) := by rw [q2, a1]
  have g5 : px.toNat + 1 ≤ 100 := by omega
  obtain ⟨mk1, hmk1⟩ : ∃ mk1 : Nat → BitVec 32, mk1 = fun p => if p = px.toNat then a else mk p := ⟨_, rfl⟩
  have hMA1 : ∀ j, MA ((M1.put mb (.cells (ms0.write px.toNat [Um a]) true 0)).bump j) mb mk1 := fun j => by
    refine ⟨_, by rw [Mem.get_bump, Mem.get_put, if_pos rfl], by rw [write_n, a2], fun p hp => ?_⟩
    rw [hmk1]
    show _ = some (Um (if p = px.toNat then a else mk p))
    by_cases e : p = px.toNat
    · rw [if_pos e, e, nth_write, if_pos ⟨Nat.le_refl _, by simp, by omega⟩, Nat.sub_self]; rfl
    · rw [if_neg e, nth_write, if_neg (by simp only [List.length_cons, List.length_nil]; omega), a3 p hp]
  · have hK1 := hS.msk (mk' := mk1) hK (fun e0 e1 e2 => by rw [hmk1]; exact if_pos rfl) fun p hp hne => by
      rw [hmk1]
      exact if_neg fun e => hne r0 (by omega)
    simp only [blockQ_normal, thenQ_normal, W_seq, w5_28, n1, X_move, Nat.reduceLT, ev_T, j11, T_set, X_eql EE_sym, lk_cons, if_true, ev_const, eq_int, d0, okI_some, Nat.reduceEqDiff, if_false, X_guard EE_sym, T_get, GDi_tt, X_fieldAddr EE_sym fo_36_1, j10, offV_ptr, Nat.zero_add, X_load EE_sym, load1 lay_3, Mem.get_bump, q1, ld1_cells, x1, X_bin EE_sym (op := .geq) rfl, bin_geq, g3, decide_true, X_pick EE_sym, pickV_bool, X_bin EE_sym (op := .lss) rfl, bin_lss, d2, X_nil, W_cond, CDi_t, w5_30, w5_29, Mem.next_bump, Nat.le_add_right_of_le, bump_bump, Nat.reduceAdd, X_fieldAddr EE_sym fo_36_3, load1 lay_29, x3, X_indexAddr EE_sym, j8, g4, idxV_arr und_43 sz_29, Nat.mul_one, X_store, store1 sz_29, a5, cells_int, st1_cells, List.length_cons, List.length_nil, a2, g5, List.all_cons, oneCell, List.all_nil, Bool.and_self, and_self, put_bump, w5_31, Mem.next_put, X_assign, w5_32, W_block, true_and]
    refine WX.mono ?_ (once_scan (m := m) (b := mb) (i := i + 1) (l := l1) (mk := mk1) j9 j8 j6 j5 j1 j0 rfl rfl ((q4.put (.inr rfl)).bump _) ((q3.put_at hmbl (Nat.le_of_not_lt fun e => hmbl _ e rfl)).bump _) (hMA1 _) hS.dq hc8 (by omega) hK1)
    rintro x t M2 ⟨rfl, J2, rfl, k9, k8, k6, k5, k1, k0, k12, hQ2, hw2, ms, a1, a2, a3⟩
    have n2 := hw2.next
    simp only [blockQ_exit, if_true, thenQ_normal, W_seq, w5_49, n2, X_move, Nat.reduceLT, ev_T, k12, T_set, lk_cons, Nat.reduceEqDiff, k6, if_false, X_call ca_17, List.map_cons, List.map_nil, true_and]
    refine CallI.ex2 ((hQ2.bump _).all hcat) fun v M3 hv => ?_
    obtain ⟨hL, hQ3, hw3⟩ := hv
    have m3 := hw3.of_bump.old mb (.inr rfl)
    have hw3 := hw2.trans (hw3.of_bump.mono fun y hy => .inl hy)
    have n3 := hw3.next
    have hl3 : ∀ M, lenA EE.P 30 v M = some (In (tot c l1)) := fun M => by have := hL.sl.lenA und_30 (m := M); rw [this, isort_len, catTo_len, tot_end hS.dq.emp hc8]
    simp only [putT, Nat.reduceLT, T_set, X_len EE_sym, ev_T, lk_cons, Nat.reduceEqDiff, if_false, if_true, hl3, okI_some, X_neq EE_sym, neq_int, decide_true, Bool.not_true, X_nil, thenQ_normal, W_cond, CDi_f, W_skip, blockQ_normal, w5_53, n3, X_move, k9, X_bin EE_sym (op := .add) rfl, ev_const, bin_add, hwi, X_assign, roundQ_normal, true_and]
    exact ⟨n - (i + 1), _, _, by omega, View.temps (l' := [(9, In ((i + 1 : Nat) : Int)), (8, PT mb), (6, PT q), (5, .bool true), (1, .slice (some ⟨L, 0, none⟩) n C0), (0, In c)]) ⟨rfl, k8, k6, k5, k1, k0, trivial⟩, i + 1, l1, _, by omega, rfl, rfl, hQ3.bump _, hw3.bump _, ⟨ms, by rw [Mem.get_bump, m3, a1], a2, a3⟩, hS.dq, hK1⟩
end
end
end Go.Ab
