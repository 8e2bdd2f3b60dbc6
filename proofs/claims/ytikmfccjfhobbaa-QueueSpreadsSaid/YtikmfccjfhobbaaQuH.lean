/- Queue: queues beside other things that stay; the chapter's first examples. -/
import Derived.Test.YtikmfccjfhobbaaQuG
namespace Go.Ab
open Go.Proofs
noncomputable section
set_option maxHeartbeats 2000000
/-- Queues, and blocks that stay as they are. -/
structure Qs (M : Mem) (q c : Nat) (l : Nat → List Int) (W : Nat → Prop) : Prop where
  fresh : Fresh M
  wlt : ∀ y, W y → y < M.next
  at_ : ∃ O sl cs, QAt M q O sl cs c l ∧ ∀ y, O y → y < M.next ∧ ¬ W y
/-- What stays, has stayed. -/
structure Wx (W : Nat → Prop) (M M' : Mem) : Prop where
  next : M.next ≤ M'.next
  old : ∀ y, W y → M'.get y = M.get y
  low : ∀ y, y < M.next → M.get y = none → M'.get y = none
theorem Wx.refl {W : Nat → Prop} {M : Mem} : Wx W M M := ⟨Nat.le_refl _, fun _ _ => rfl, fun _ _ e => e⟩
theorem Wx.trans {W : Nat → Prop} {M M1 M2 : Mem} (h : Wx W M M1) (h2 : Wx W M1 M2) : Wx W M M2 :=
  ⟨Nat.le_trans h.next h2.next, fun y hy => by rw [h2.old y hy, h.old y hy], fun y hy e => h2.low y (Nat.lt_of_lt_of_le hy h.next) (h.low y hy e)⟩
theorem Wx.bump {W : Nat → Prop} {M M' : Mem} (h : Wx W M M') (j : Nat) : Wx W M (M'.bump j) := ⟨by rw [Mem.next_bump]; exact Nat.le_add_right_of_le h.next, h.old, h.low⟩
theorem Wx.of_bump {W : Nat → Prop} {M M' : Mem} {j : Nat} (h : Wx W (M.bump j) M') : Wx W M M' := ⟨by have := h.next; rw [Mem.next_bump] at this; omega, h.old, fun y hy e => h.low y (by rw [Mem.next_bump]; omega) e⟩
theorem Wx.mono {W W' : Nat → Prop} {M M' : Mem} (h : Wx W M M') (hw : ∀ y, W' y → W y) : Wx W' M M' := ⟨h.next, fun y hy => h.old y (hw y hy), h.low⟩
theorem Wx.of_nx {W : Nat → Prop} {M M' : Mem} (h : Nx M M') (hw : ∀ y, W y → y < M.next) : Wx W M M' := ⟨h.next, fun y hy => h.old y (hw y hy), fun y hy e => by rw [h.old y hy, e]⟩
theorem Wx.raw {W : Nat → Prop} {M M' : Mem} {v : Value} {R : Value → Mem → Prop} (h : Wx W M M') (hR : R v M') : RawE M M' v R := ⟨⟨h.next, h.low⟩, hR⟩
section
variable {M M' : Mem} {q c : Nat} {l l' : Nat → List Int} {W : Nat → Prop} {a : BitVec 32} {x k : Int}
theorem Qs.bump (h : Qs M q c l W) (j : Nat) : Qs (M.bump j) q c l W := by
  obtain ⟨O, sl, cs, h1, h2⟩ := h.at_
  exact ⟨h.fresh.bump, fun y hy => by rw [Mem.next_bump]; have := h.wlt y hy; omega, O, sl, cs, h1.bump j, fun y hy => ⟨by rw [Mem.next_bump]; have := (h2 y hy).1; omega, (h2 y hy).2⟩⟩
theorem Qs.nx (h : Qs M q c l W) (hn : Nx M M') : Qs M' q c l W := by
  obtain ⟨O, sl, cs, h1, h2⟩ := h.at_
  exact ⟨hn.fresh, fun y hy => Nat.lt_of_lt_of_le (h.wlt y hy) hn.next, O, sl, cs, h1.nx h.fresh hn, fun y hy => ⟨Nat.lt_of_lt_of_le (h2 y hy).1 hn.next, (h2 y hy).2⟩⟩
/-- A new block stays from now on. -/
theorem Qs.add (h : Qs M q c l W) (hn : Nx M M') {P : Nat → Prop} (hP : ∀ y, P y → M.next ≤ y ∧ y < M'.next) : Qs M' q c l (fun y => W y ∨ P y) := by
  obtain ⟨O, sl, cs, h1, h2⟩ := h.at_
  exact ⟨hn.fresh, fun y hy => hy.elim (fun hy => Nat.lt_of_lt_of_le (h.wlt y hy) hn.next) fun hy => (hP y hy).2, O, sl, cs, h1.nx h.fresh hn, fun y hy => ⟨Nat.lt_of_lt_of_le (h2 y hy).1 hn.next, fun e => e.elim (h2 y hy).2 fun e => by have := (hP y e).1; have := (h2 y hy).1; omega⟩⟩
theorem Qs.turn {O : Nat → Prop} (h : Qs M q c l W) (h2 : ∀ y, O y → y < M.next ∧ ¬ W y) (hN : QN M q O c l' M') : Qs M' q c l' W ∧ Wx W M M' := by
  obtain ⟨sl, cs, hq⟩ := hN.at_
  have hn := hN.next
  refine ⟨⟨hN.fresh, fun y hy => Nat.lt_of_lt_of_le (h.wlt y hy) hn, Ox O M M', sl, cs, hq, fun y hy => ?_⟩, hn, fun y hy => hN.old y (h.wlt y hy) fun e => (h2 y e).2 hy, hN.low⟩
  rcases hy with hy | hy
  · exact ⟨Nat.lt_of_lt_of_le (h2 y hy).1 hn, (h2 y hy).2⟩
  · exact ⟨hy.2, fun e => by have := h.wlt y e; omega⟩
def Sh (l : Nat → List Int) : Prop := ∀ k, (l k).length < 1073741824
theorem Sh.short (h : Sh l) : Short l := fun k => by have := h k; omega
theorem Qs.place (h : Qs M q c l W) (hs : Sh l) (hx : 1 ≤ x) (hw : ¬ 0 ≤ whQ c l x) (hf : 0 ≤ fewTo l a c) :
    ∃ v M', Con EE.P 10 [PT q, In x, In k, Um a] M v M' ∧ v = .tuple [In (placeQ c l a k), In 0].toArray ∧ Qs M' q c (updL l (placeQ c l a k) (l (placeQ c l a k) ++ [x])) W ∧ Wx W M M' := by
  obtain ⟨O, sl, cs, h1, h2⟩ := h.at_
  obtain ⟨v, M', hc, hv, hN⟩ := place_ok (k := k) h1 h.fresh hs (fun y hy => (h2 y hy).1) hx hw hf
  exact ⟨v, M', hc, hv, h.turn h2 hN⟩
theorem Qs.place_not (h : Qs M q c l W) (hs : Sh l) (hx : 1 ≤ x) (hw : 0 ≤ whQ c l x ∨ fewTo l a c < 0) : Con EE.P 10 [PT q, In x, In k, Um a] M (.tuple [In 0, In 130].toArray) M := by
  obtain ⟨O, sl, cs, h1, h2⟩ := h.at_
  exact Go.Ab.place_not h1 hs.short (fun y hy => (h2 y hy).1) hx hw
theorem Qs.where (h : Qs M q c l W) (hs : Sh l) : Con EE.P 16 [PT q, In x] M (In (whQ c l x)) M := by
  obtain ⟨O, sl, cs, h1, h2⟩ := h.at_
  exact where_ok h1 hs.short
theorem Qs.move_in {w : Nat} (h : Qs M q c l W) (hs : Sh l) (hw : whQ c l x = w) (hf : 0 ≤ fewTo l a c) (hb : mb a w = true) : Con EE.P 12 [PT q, In x, Um a] M (.tuple [In w, In 0].toArray) M := by
  obtain ⟨O, sl, cs, h1, h2⟩ := h.at_
  exact Go.Ab.move_in h1 hs.short (fun y hy => (h2 y hy).1) hw hf hb
theorem Qs.move_to {w i : Nat} (h : Qs M q c l W) (hs : Sh l) (hw8 : w < 8) (hw : whQ c l x = w) (hi : i < (l w).length) (hix : idxL (l w) x = i) (hf : 0 ≤ fewTo l a c) (hb : mb a w = false) :
    ∃ v M', Con EE.P 12 [PT q, In x, Um a] M v M' ∧ v = .tuple [In ((fewTo (updL l w ((l w).eraseIdx i)) a c).toNat : Nat), In 0].toArray ∧ Qs M' q c (moveL c l a x w i) W ∧ Wx W M M' := by
  obtain ⟨O, sl, cs, h1, h2⟩ := h.at_
  obtain ⟨v, M', hc, hv, hN⟩ := Go.Ab.move_to h1 h.fresh hs (fun y hy => (h2 y hy).1) hw8 hw hi hix hf hb
  exact ⟨v, M', hc, hv, h.turn h2 hN⟩
theorem Qs.list {k : Nat} (h : Qs M q c l W) (hs : Sh l) (hk : k < c) : ∃ v M', Con EE.P 11 [PT q, In k] M v M' ∧ NewL M M' v (l k) ∧ Qs M' q c l W ∧ Wx W M M' := by
  obtain ⟨O, sl, cs, h1, h2⟩ := h.at_
  obtain ⟨v, M', hc, hL⟩ := list_ok h1 h.fresh hk (hs k)
  exact ⟨v, M', hc, hL, h.nx hL.nx, Wx.of_nx hL.nx h.wlt⟩
theorem Qs.new {n : Nat} (hm : Fresh M) (hW : ∀ y, W y → y < M.next) (h1 : 1 ≤ n) (h2 : n ≤ 8) : ∃ v M', Con EE.P 9 [In n] M v M' ∧ ∃ q, v = .tuple [PT q, In 0].toArray ∧ Qs M' q n (fun _ => []) W ∧ Wx W M M' := by
  obtain ⟨v, M', hc, q, hv, hq, hn, sl, cs, hQ⟩ := new_ok hm h1 h2
  refine ⟨v, M', hc, q, hv, ⟨hn.fresh, fun y hy => Nat.lt_of_lt_of_le (hW y hy) hn.next, _, sl, cs, hQ, fun y hy => ?_⟩, Wx.of_nx hn hW⟩
  subst hy
  exact ⟨hn.fresh.lt hQ.at_, fun e => by have := hW _ e; omega⟩
end
theorem U7 : Um 7#32 = .int .u32 7 := rfl
theorem U6 : Um 6#32 = .int .u32 6 := rfl
section
variable {m : Mem} {W : Nat → Prop}
abbrev a0 : Nat → List Int := fun _ => []
abbrev a1 : Nat → List Int := updL a0 0 [5]
abbrev a2 : Nat → List Int := updL a1 1 [6]
abbrev a3 : Nat → List Int := updL a2 2 [7]
theorem sh_upd {l : Nat → List Int} {k : Nat} {l' : List Int} (h : Sh l) (h' : l'.length < 1073741824) : Sh (updL l k l') := fun j => by
  unfold updL; split
  · exact h'
  · exact h j
theorem alive_ok (hm : Fresh m) (hW : ∀ y, W y → y < m.next) : ∃ v m', Con EE.P 8 [] m v m' ∧ v = .bool true ∧ Wx W m m' ∧ Fresh m' := by
  refine Con.raw EE_ok fn8 (Nat.le_of_ble_eq_true rfl) _ ?_
  have s0 : Sh a0 := fun _ => (by decide : (0 : Nat) < 1073741824)
  have s1 : Sh a1 := sh_upd s0 (by decide)
  have s2 : Sh a2 := sh_upd s1 (by decide)
  have s3 : Sh a3 := sh_upd s2 (by decide)
  simp only [f8, enumV, w8, W_seq, w8_0, Nat.le_refl, X_assign, ev_const, Nat.reduceLT, T_set, X_nil, thenQ_normal, w8_1, Mem.next_bump, Nat.le_add_right, bump_bump, Nat.reduceAdd, X_call ca_9, List.map_cons, List.map_nil, true_and]
  refine CallI.ex2 (Qs.new (n := 3) (W := W) hm.bump (fun y hy => by rw [Mem.next_bump]; have := hW y hy; omega) (by decide) (by decide)) fun v m1 hv => ?_
  obtain ⟨q, rfl, h1, w1⟩ := hv
  have w1 := w1.of_bump
  have n1 := w1.next
  simp only [putT, Nat.reduceLT, T_set, X_move, ev_T, lk_cons, Nat.reduceEqDiff, if_false, if_true, X_extract EE_sym, List.getElem?_toArray, List.getElem?_cons_zero, okI_some, List.getElem?_cons_succ, X_assign, X_nil, thenQ_normal, W_seq, w8_2, n1, X_call ca_10, List.map_cons, ev_const, List.map_nil, true_and]
  refine CallI.ex2 (Qs.place (k := 0) (a := 7#32) (x := 5) (h1.bump _) s0 (by decide) (by decide) (by decide)) fun v m2 hv => ?_
  obtain ⟨rfl, h2, w2⟩ := hv
  have e2 : placeQ 3 a0 7#32 0 = 0 := by decide
  rw [e2] at h2 ⊢
  rw [show (.tuple [In ((0 : Nat) : Int), In 0].toArray : Value) = .tuple [In 0, In 0].toArray from rfl]
  have h2 : Qs m2 q 3 a1 W := h2
  have w2 := w1.trans w2.of_bump
  have n2 := w2.next
  simp only [putT, Nat.reduceLT, T_set, X_move, ev_T, lk_cons, Nat.reduceEqDiff, if_false, if_true, X_extract EE_sym, List.getElem?_toArray, List.getElem?_cons_zero, okI_some, List.getElem?_cons_succ, X_assign, X_nil, thenQ_normal, W_seq, w8_3, n2, X_call ca_10, List.map_cons, ev_const, List.map_nil, true_and]
  refine CallI.ex2 (Qs.place (k := 0) (a := 6#32) (x := 6) (h2.bump _) s1 (by decide) (by decide) (by decide)) fun v m3 hv => ?_
  obtain ⟨rfl, h3, w3⟩ := hv
  have e3 : placeQ 3 a1 6#32 0 = 1 := by decide
  rw [e3] at h3 ⊢
  rw [show (.tuple [In ((1 : Nat) : Int), In 0].toArray : Value) = .tuple [In 1, In 0].toArray from rfl]
  have h3 : Qs m3 q 3 a2 W := h3
  have w3 := w2.trans w3.of_bump
  have n3 := w3.next
  simp only [putT, Nat.reduceLT, T_set, X_move, ev_T, lk_cons, Nat.reduceEqDiff, if_false, if_true, X_extract EE_sym, List.getElem?_toArray, List.getElem?_cons_zero, okI_some, List.getElem?_cons_succ, X_assign, X_nil, thenQ_normal, W_seq, w8_4, n3, X_call ca_10, List.map_cons, ev_const, List.map_nil, true_and]
  refine CallI.ex2 (Qs.place (k := 0) (a := 6#32) (x := 7) (h3.bump _) s2 (by decide) (by decide) (by decide)) fun v m4 hv => ?_
  obtain ⟨rfl, h4, w4⟩ := hv
  have e4 : placeQ 3 a2 6#32 0 = 2 := by decide
  rw [e4] at h4 ⊢
  rw [show (.tuple [In ((2 : Nat) : Int), In 0].toArray : Value) = .tuple [In 2, In 0].toArray from rfl]
  have h4 : Qs m4 q 3 a3 W := h4
  have w4 := w3.trans w4.of_bump
  have n4 := w4.next
  simp only [putT, Nat.reduceLT, T_set, X_move, ev_T, lk_cons, Nat.reduceEqDiff, if_false, if_true, X_extract EE_sym, List.getElem?_toArray, List.getElem?_cons_zero, okI_some, List.getElem?_cons_succ, X_assign, X_nil, thenQ_normal, W_seq, w8_5, n4, X_call ca_10, List.map_cons, ev_const, List.map_nil, true_and]
  refine CallI.con0 (Qs.place_not (k := 1) (a := 7#32) (x := 5) (h4.bump _) s3 (by decide) (.inl (by decide))) ?_
  simp only [putT, Nat.reduceLT, T_set, X_move, ev_T, lk_cons, Nat.reduceEqDiff, if_false, if_true, X_extract EE_sym, List.getElem?_toArray, List.getElem?_cons_zero, okI_some, List.getElem?_cons_succ, X_assign, X_nil, thenQ_normal, W_seq, w8_6, Mem.next_bump, n4, Nat.le_add_right_of_le, bump_bump, Nat.reduceAdd, X_eql EE_sym, ev_const, eq_int, decide_true, X_guard EE_sym, T_get, GDi_tt, X_pick EE_sym, pickV_bool, X_call ca_16, List.map_cons, List.map_nil, true_and]
  refine CallI.con0 (Qs.where (x := 7) (h4.bump _) s3) ?_
  have e5 : whQ 3 a3 7 = 2 := by decide
  rw [e5]
  simp only [putT, Nat.reduceLT, T_set, X_guard EE_sym, T_get, lk_cons, Nat.reduceEqDiff, if_false, if_true, GDi_tt, X_eql EE_sym, ev_T, ev_const, eq_int, decide_true, okI_some, X_pick EE_sym, pickV_bool, X_assign, X_nil, thenQ_normal, W_ret, FinX_ret, resA_tmp, Nat.one_ne_zero, resA_nil, Option.map_some, oneOr1]
  exact (w4.bump _).raw ⟨rfl, w4.bump _, (h4.bump _).fresh⟩
end
end
end Go.Ab
