/- Sleep: Copy; two sleepers side by side; a list without one. -/
import Derived.Test.YtojfkjjacaellaaSmI
import Derived.Test.YtojfkjjacaellaaSmHV
import Derived.Test.YtojfkjjacaellaaSmA57
import Derived.Test.YtojfkjjacaellaaSleClo
import Derived.Test.YtojfkjjacaellaaSmWY
namespace Go.Ab
open Go.Proofs
noncomputable section
set_option maxHeartbeats 4000000
set_option maxRecDepth 10000
section
variable {m M M' : Mem} {s c : Nat} {v vc v' : Value} {L Lc L' : SL}
theorem bldM {b : Option Nat} : buildA EE.P 27 [(0, .map b)] = some (.agg [.map b].toArray) := by kernel_rfl
theorem copy_ok (h : SAt m s v L) (hm : Fresh m) : ∃ u m', Con EE.P 20 [PT s] m u m' ∧ ∃ c v', u = PT c ∧ m.next ≤ c ∧ SAt m' c v' L ∧ Nx m m' ∧ ∀ b, mB v' = some b → m.next ≤ b := by
  refine Con.raw EE_ok fn20 (Nat.le_of_ble_eq_true rfl) _ ?_
  obtain ⟨cs, h1, h2, h3⟩ := h.at_
  rcases h.mp with ⟨rfl, rfl⟩ | ⟨b, rfl, h4⟩
  · simp only [f20, enumV, w20, W_seq, w20_0, Nat.le_refl, X_assign, ev_const, Nat.reduceLT, T_set, X_nil, thenQ_normal, w20_1, Mem.next_bump, Nat.le_add_right, bump_bump, Nat.reduceAdd, X_move, ev_T, lk_cons, Nat.reduceEqDiff, if_true, if_false, X_eql EE_sym, eq_ptr_nil und_24, okI_some, W_cond, CDi_f, W_skip, w20_4, X_nilCheck EE_sym, nilV_ptr, X_fieldAddr EE_sym fo_27_0, offV_ptr, Nat.add_zero, X_load EE_sym, load1 lay_25, Mem.get_bump, h1, ld1_cells, h3, X_call ca_25, List.map_cons, List.map_nil, true_and]
    refine CallI.con0 (clone_nil Go.Proofs.Ytojfkjjacaellaa.clone) ?_
    simp only [putT, Nat.reduceLT, T_set, X_build EE_sym, List.map_cons, ev_T, lk_cons, Nat.reduceEqDiff, if_false, if_true, List.map_nil, bldM, okI_some, X_box, box_agg, Nat.add_assoc, Nat.reduceAdd, put_bump, X_assign, X_nil, thenQ_normal, W_ret, FinX_ret, resA_tmp, T_get, resA_nil, Option.map_some, oneOr1]
    have hn : Nx m ((m.put (m.next + 9) (.cells (Cells.ofList [.map none]) true 0)).bump 11) := ⟨by (try simp only [Mem.next_bump, Mem.next_put]); omega, Fresh.of_low (by have := hm.n64; (try simp only [Mem.next_bump, Mem.next_put]); omega) (by repeat (first | exact Low.of hm (by (try simp only [Mem.next_bump, Mem.next_put]); omega) | refine Low.put ?_ (by (try simp only [Mem.next_bump, Mem.next_put]); omega) | refine Low.bump ?_)), fun y hy => by simp only [Mem.get_bump, Mem.get_put, ne_new hy, if_false]⟩
    exact ⟨⟨hn.next, fun y hy e => by rw [hn.old y hy, e]⟩, _, .map none, rfl, by omega, ⟨⟨_, by simp only [Mem.get_bump, Mem.get_put, if_true]; rfl, rfl, rfl⟩, .inl ⟨rfl, rfl⟩⟩, hn, fun b hb => (by cases hb)⟩
  · simp only [f20, enumV, w20, W_seq, w20_0, Nat.le_refl, X_assign, ev_const, Nat.reduceLT, T_set, X_nil, thenQ_normal, w20_1, Mem.next_bump, Nat.le_add_right, bump_bump, Nat.reduceAdd, X_move, ev_T, lk_cons, Nat.reduceEqDiff, if_true, if_false, X_eql EE_sym, eq_ptr_nil und_24, okI_some, W_cond, CDi_f, W_skip, w20_4, X_nilCheck EE_sym, nilV_ptr, X_fieldAddr EE_sym fo_27_0, offV_ptr, Nat.add_zero, X_load EE_sym, load1 lay_25, Mem.get_bump, h1, ld1_cells, h3, X_call ca_25, List.map_cons, List.map_nil, true_and]
    refine CallI.con0 (clone_map Go.Proofs.Ytojfkjjacaellaa.clone (by simp only [Mem.get_bump]; exact h4)) ?_
    simp only [Mem.next_bump, bump_bump, Nat.reduceAdd, put_bump, putT, Nat.reduceLT, T_set, X_build EE_sym, List.map_cons, ev_T, lk_cons, Nat.reduceEqDiff, if_false, if_true, List.map_nil, bldM, okI_some, X_box, box_agg, Nat.add_assoc, X_assign, X_nil, thenQ_normal, W_ret, FinX_ret, resA_tmp, T_get, resA_nil, Option.map_some, oneOr1]
    have hn : Nx m (((m.put (m.next + 11) (.map (ml Um L) true)).put (m.next + 9) (.cells (Cells.ofList [.map (some (m.next + 11))]) true 0)).bump 12) := ⟨by (try simp only [Mem.next_bump, Mem.next_put]); omega, Fresh.of_low (by have := hm.n64; (try simp only [Mem.next_bump, Mem.next_put]); omega) (by repeat (first | exact Low.of hm (by (try simp only [Mem.next_bump, Mem.next_put]); omega) | refine Low.put ?_ (by (try simp only [Mem.next_bump, Mem.next_put]); omega) | refine Low.bump ?_)), fun y hy => by simp only [Mem.get_bump, Mem.get_put, ne_new hy, if_false]⟩
    exact ⟨⟨hn.next, fun y hy e => by rw [hn.old y hy, e]⟩, _, .map (some (m.next + 11)), rfl, by omega, ⟨⟨_, by simp only [Mem.get_bump, Mem.get_put, if_true]; rfl, rfl, rfl⟩, .inr ⟨_, rfl, by simp only [Mem.get_bump, Mem.get_put, Nat.add_left_cancel_iff, Nat.reduceEqDiff, if_false, if_true]⟩⟩, hn, fun b hb => by cases hb; omega⟩
/-- Two, side by side. -/
structure Tw (m M : Mem) (s c : Nat) (v vc : Value) (L Lc : SL) : Prop where
  nx : Nx m M
  hs : SAt M s v L
  hc : SAt M c vc Lc
  ne : s ≠ c ∧ m.next ≤ s ∧ m.next ≤ c
  sv : ∀ b, mB v = some b → m.next ≤ b ∧ b ≠ c ∧ mB vc ≠ some b
  cv : ∀ b, mB vc = some b → m.next ≤ b ∧ b ≠ s
theorem Tw.onnx (h : Tw m M s c v vc L Lc) (hn : Nx M M') : Tw m M' s c v vc L Lc :=
  ⟨h.nx.trans hn, h.hs.nx h.nx.fresh hn, h.hc.nx h.nx.fresh hn, h.ne, h.sv, h.cv⟩
theorem Tw.bump (h : Tw m M s c v vc L Lc) (j : Nat) : Tw m (M.bump j) s c v vc L Lc := h.onnx ((Nx.refl h.nx.fresh).bump j)
theorem Tw.ons (h : Tw m M s c v vc L Lc) (hF : FrS M M' s v v') (hS : SAt M' s v' L') : Tw m M' s c v' vc L' Lc := by
  obtain ⟨e1, e2, e3⟩ := h.ne
  have lc := h.hc.lt h.nx.fresh
  have ls := h.hs.lt h.nx.fresh
  have n1 := h.nx.next
  refine ⟨⟨Nat.le_trans h.nx.next hF.next, hF.fresh, fun y hy => ?_⟩, hS, h.hc.keep ?_ fun b hb => ?_, h.ne, fun b hb => ?_, h.cv⟩
  · rw [hF.old y (by omega) (by omega) (fun e => by have := (h.sv y e).1; omega), h.nx.old y hy]
  · exact hF.old c lc (Ne.symm e1) fun e => (h.sv c e).2.1 rfl
  · exact hF.old b (h.hc.ltb h.nx.fresh hb).1 (h.cv b hb).2 fun e => (h.sv b e).2.2 hb
  · rcases hF.vn b hb with h1 | h1
    · exact h.sv b h1
    · refine ⟨by omega, by omega, fun e => ?_⟩
      have := (h.hc.ltb h.nx.fresh e).1
      omega
theorem Tw.onc (h : Tw m M s c v vc L Lc) (hF : FrS M M' c vc v') (hS : SAt M' c v' L') : Tw m M' s c v v' L L' := by
  obtain ⟨e1, e2, e3⟩ := h.ne
  have lc := h.hc.lt h.nx.fresh
  have ls := h.hs.lt h.nx.fresh
  have n1 := h.nx.next
  refine ⟨⟨Nat.le_trans h.nx.next hF.next, hF.fresh, fun y hy => ?_⟩, h.hs.keep ?_ fun b hb => ?_, hS, h.ne, fun b hb => ?_, fun b hb => ?_⟩
  · rw [hF.old y (by omega) (by omega) (fun e => by have := (h.cv y e).1; omega), h.nx.old y hy]
  · exact hF.old s ls e1 fun e => (h.cv s e).2 rfl
  · exact hF.old b (h.hs.ltb h.nx.fresh hb).1 (h.sv b hb).2.1 (h.sv b hb).2.2
  · obtain ⟨q1, q2, q4⟩ := h.sv b hb
    refine ⟨q1, q2, fun e => ?_⟩
    have := (h.hs.ltb h.nx.fresh hb).1
    rcases hF.vn b e with h1 | h1
    · exact q4 h1
    · omega
  · rcases hF.vn b hb with h1 | h1
    · exact h.cv b h1
    · exact ⟨by omega, by omega⟩
theorem Tw.raw (h : Tw m M s c v vc L Lc) : RawE m M (.bool true) fun u _ => u = .bool true := RawE.of h.nx.next fun y hy => h.nx.old y hy
end
end
end Go.Ab
/- SleepPlays: the program's and the document's sleepers, side by side; one call, by its kind. -/
namespace Go.Ab
open Go.Proofs
noncomputable section
set_option maxHeartbeats 8000000
set_option maxRecDepth 10000
/-- The blocks of W stay. -/
structure Wx (W : Nat → Prop) (M M' : Mem) : Prop where
  next : M.next ≤ M'.next
  old : ∀ y, W y → M'.get y = M.get y
  low : ∀ y, y < M.next → M.get y = none → M'.get y = none
theorem Wx.refl {W : Nat → Prop} {M : Mem} : Wx W M M := ⟨Nat.le_refl _, fun _ _ => rfl, fun _ _ e => e⟩
theorem Wx.trans {W : Nat → Prop} {M M1 M2 : Mem} (h : Wx W M M1) (h2 : Wx W M1 M2) : Wx W M M2 :=
  ⟨Nat.le_trans h.next h2.next, fun y hy => by rw [h2.old y hy, h.old y hy], fun y hy e => h2.low y (Nat.lt_of_lt_of_le hy h.next) (h.low y hy e)⟩
theorem Wx.bump {W : Nat → Prop} {M M' : Mem} (h : Wx W M M') (j : Nat) : Wx W M (M'.bump j) := ⟨by rw [Mem.next_bump]; exact Nat.le_add_right_of_le h.next, h.old, h.low⟩
theorem Wx.of_bump {W : Nat → Prop} {M M' : Mem} {j : Nat} (h : Wx W (M.bump j) M') : Wx W M M' := ⟨by have := h.next; rw [Mem.next_bump] at this; omega, h.old, fun y hy e => h.low y (by rw [Mem.next_bump]; omega) e⟩
theorem Wx.mono {W W' : Nat → Prop} {M M' : Mem} (h : Wx W M M') (hw : ∀ y, W' y → W y) : Wx W' M M' := ⟨h.next, fun y hy => h.old y (hw y hy), h.low⟩
theorem Wx.of_nx {W : Nat → Prop} {M M' : Mem} (h : Nx M M') (hw : ∀ y, W y → y < M.next) : Wx W M M' := ⟨h.next, fun y hy => h.old y (hw y hy), fun y hy e => by rw [h.old y hy, e]⟩
theorem Wx.raw {W : Nat → Prop} {M M' : Mem} {v : Value} {R : Value → Mem → Prop} (h : Wx W M M') (hR : R v M') : RawE M M' v R := ⟨⟨h.next, h.low⟩, hR⟩
/-- The program's sleepers, and the document's, beside blocks of W. -/
structure Bo (W : Nat → Prop) (M : Mem) (s w : Nat) (v vw : Value) (L R : SL) : Prop where
  fresh : Fresh M
  hs : SAt M s v L
  hw : DAt M w vw R
  ne : s ≠ w ∧ ¬ W s ∧ ¬ W w
  wlt : ∀ y, W y → y < M.next
  sv : ∀ b, mB v = some b → ¬ W b ∧ b ≠ w ∧ slB vw ≠ some b
  wv : ∀ b, slB vw = some b → ¬ W b ∧ b ≠ s
section
variable {W W' : Nat → Prop} {M M' : Mem} {s w : Nat} {v v' vw vw' : Value} {L L' R R' : SL}
theorem Bo.nx (h : Bo W M s w v vw L R) (hn : Nx M M') : Bo W M' s w v vw L R :=
  ⟨hn.fresh, h.hs.nx h.fresh hn, h.hw.nx h.fresh hn, h.ne, fun y hy => Nat.lt_of_lt_of_le (h.wlt y hy) hn.next, h.sv, h.wv⟩
theorem Bo.bump (h : Bo W M s w v vw L R) (j : Nat) : Bo W (M.bump j) s w v vw L R := h.nx ((Nx.refl h.fresh).bump j)
theorem Bo.less (h : Bo W M s w v vw L R) (hw : ∀ y, W' y → W y) : Bo W' M s w v vw L R :=
  ⟨h.fresh, h.hs, h.hw, ⟨h.ne.1, fun e => h.ne.2.1 (hw _ e), fun e => h.ne.2.2 (hw _ e)⟩, fun y hy => h.wlt y (hw y hy), fun b hb => ⟨fun e => (h.sv b hb).1 (hw _ e), (h.sv b hb).2⟩, fun b hb => ⟨fun e => (h.wv b hb).1 (hw _ e), (h.wv b hb).2⟩⟩
/-- New blocks are held, too. -/
theorem Bo.add {P : Nat → Prop} (h : Bo W M s w v vw L R) (hn : Nx M M') (hP : ∀ y, P y → M.next ≤ y ∧ y < M'.next) : Bo (fun y => W y ∨ P y) M' s w v vw L R := by
  have h' := h.nx hn
  have ls := h.hs.lt h.fresh
  have lw := h.hw.lt h.fresh
  exact ⟨h'.fresh, h'.hs, h'.hw, ⟨h.ne.1, fun e => e.elim h.ne.2.1 fun e => by have := hP _ e; omega, fun e => e.elim h.ne.2.2 fun e => by have := hP _ e; omega⟩, fun y hy => hy.elim (h'.wlt y) fun e => (hP y e).2,
    fun b hb => ⟨fun e => e.elim (h.sv b hb).1 fun e => by have := hP _ e; have := (h.hs.ltb h.fresh hb).1; omega, (h.sv b hb).2⟩, fun b hb => ⟨fun e => e.elim (h.wv b hb).1 fun e => by have := hP _ e; have := (h.hw.ltb h.fresh hb).1; omega, (h.wv b hb).2⟩⟩
theorem Bo.ons (h : Bo W M s w v vw L R) (hF : FrS M M' s v v') (hS : SAt M' s v' L') : Bo W M' s w v' vw L' R ∧ Wx W M M' := by
  have lw := h.hw.lt h.fresh
  have n1 := hF.next
  have hW : ∀ y, W y → M'.get y = M.get y := fun y hy => hF.old y (h.wlt y hy) (fun e => h.ne.2.1 (e ▸ hy)) fun e => (h.sv y e).1 hy
  refine ⟨⟨hF.fresh, hS, h.hw.keep ?_ fun b hb => ?_, h.ne, fun y hy => Nat.lt_of_lt_of_le (h.wlt y hy) n1, fun b hb => ?_, h.wv⟩, n1, hW, hF.low⟩
  · exact hF.old w lw (Ne.symm h.ne.1) fun e => (h.sv w e).2.1 rfl
  · exact hF.old b (h.hw.ltb h.fresh hb).1 (h.wv b hb).2 fun e => (h.sv b e).2.2 hb
  · rcases hF.vn b hb with h1 | h1
    · exact h.sv b h1
    · refine ⟨fun e => by have := h.wlt b e; omega, by omega, fun e => ?_⟩
      have := (h.hw.ltb h.fresh e).1
      omega
theorem Bo.onw (h : Bo W M s w v vw L R) (hF : FrD M M' w vw vw') (hD : DAt M' w vw' R') : Bo W M' s w v vw' L R' ∧ Wx W M M' := by
  have ls := h.hs.lt h.fresh
  have n1 := hF.next
  have hW : ∀ y, W y → M'.get y = M.get y := fun y hy => hF.old y (h.wlt y hy) fun e => h.ne.2.2 (e ▸ hy)
  refine ⟨⟨hF.fresh, h.hs.keep (hF.old s ls h.ne.1) fun b hb => hF.old b (h.hs.ltb h.fresh hb).1 (h.sv b hb).2.1, hD, h.ne, fun y hy => Nat.lt_of_lt_of_le (h.wlt y hy) n1, fun b hb => ?_, fun b hb => ?_⟩, n1, hW, hF.low⟩
  · obtain ⟨q1, q2, q3⟩ := h.sv b hb
    refine ⟨q1, q2, fun e => ?_⟩
    rcases hF.vn b e with h1 | h1
    · have := (h.hs.ltb h.fresh hb).1; omega
    · exact q3 h1
  · rcases hF.vn b hb with h1 | h1
    · exact ⟨fun e => by have := h.wlt b e; omega, by omega⟩
    · exact h.wv b h1
/-- A copy is held, too. -/
theorem Bo.swap {c : Nat} {vc : Value} {Lc : SL} (h : Bo W M s w v vw L R) (hn : Nx M M') (hc : M.next ≤ c) (hC : SAt M' c vc Lc) (hv : ∀ b, mB vc = some b → M.next ≤ b) : Bo (fun y => W y ∨ (y = c ∨ mB vc = some y)) M' s w v vw L R :=
  h.add hn fun y hy => hy.elim (fun e => by rw [e]; exact ⟨hc, hC.lt hn.fresh⟩) fun e => ⟨hv y e, (hC.ltb hn.fresh e).1⟩
/-- The copy takes the first one's place. -/
theorem Bo.back {c n : Nat} {vc : Value} {Lc : SL} {M1 : Mem} (h : Bo (fun y => W y ∨ (y = c ∨ mB vc = some y)) M s w v vw L R) (hC : SAt M1 c vc Lc) (hw : Wx (fun y => W y ∨ (y = c ∨ mB vc = some y)) M1 M) (hW : ∀ y, W y → y < n) (hc : n ≤ c) (hv : ∀ b, mB vc = some b → n ≤ b) : Bo W M c w vc vw Lc R :=
  ⟨h.fresh, hC.keep (hw.old c (.inr (.inl rfl))) fun b hb => hw.old b (.inr (.inr hb)), h.hw, ⟨fun e => h.ne.2.2 (.inr (.inl e.symm)), fun e => by have := hW c e; omega, fun e => h.ne.2.2 (.inl e)⟩, fun y hy => h.wlt y (.inl hy),
    fun b hb => ⟨fun e => by have := hW b e; have := hv b hb; omega, fun e => h.ne.2.2 (.inr (.inr (e ▸ hb))), fun e => (h.wv b e).1 (.inr (.inr hb))⟩, fun b hb => ⟨fun e => (h.wv b hb).1 (.inl e), fun e => (h.wv b hb).1 (.inr (.inl e))⟩⟩
end
section
variable {L : SL} {p : Int} {n : BitVec 32} {k : Nat}
theorem addE_top : addE (topA L) p n = addE L p n := by unfold addE; rw [topA_get]
theorem addR_top (h : Gd L k) : addR (topA L) p n = topA (addL L p n) := by
  unfold addR addL
  rw [addE_top]
  by_cases he : addE L p n = 0
  · rw [if_pos he, if_pos he]
    refine ins_top h ?_
    unfold addE at he
    split at he
    · cases he
    · split at he
      · cases he
      · rename_i h2
        cases hg : mget L p with
        | none => rfl
        | some y => rw [hg] at h2; exact absurd rfl h2
  · rw [if_neg he, if_neg he]
end
/-- The temps that live on. -/
def Kee (J J1 : List (Nat × Value)) : Prop := lk J1 33 = lk J 33 ∧ lk J1 32 = lk J 32 ∧ lk J1 6 = lk J 6 ∧ lk J1 4 = lk J 4 ∧ lk J1 0 = lk J 0
theorem eqB' {xo yo : Operand} {p : Bool} {m : Mem} : eqA EE.P .eql 4 xo yo (.bool p) (.bool p) m = some (.bool true) := by
  cases p <;> kernel_rfl
section
variable {M : Mem} {J : List (Nat × Value)} {s w xb k n0 : Nat} {xc : Cells} {L : SL} {v vw : Value} {W : Nat → Prop} {kk px : Int} {a : BitVec 32}
theorem plays_kind (h3 : lk J 3 = PT s) (h4 : lk J 4 = PT w) (h6 : lk J 6 = PT xb) (h7 : lk J 7 = .bool true) (h41 : lk J 41 = In kk) (hB : Bo W M s w v vw L (topA L)) (hG : Gd L k) (hx : M.get xb = some (.cells xc true 0)) (hxW : W xb)
    (x1 : xc.nth 1 = some (In px)) (x2 : xc.nth 2 = some (Um a)) (hp : (Lit.int .i64 px).wf = true) (hk : k < 1000) (hn : n0 ≤ M.next) :
    WXi EE n0 none c5_34 (T 157 J) M (Q := ⟨fun x t M1 => x = .normal ∧ ∃ J1 s' v' vw' L', t = T 157 J1 ∧ Kee J J1 ∧ lk J1 3 = PT s' ∧ lk J1 7 = .bool true ∧ Bo W M1 s' w v' vw' L' (topA L') ∧ Wx W M M1 ∧ Gd L' (k + 1)⟩) := by
  have dT : ∀ p : Prop, [Decidable p] → p → decide p = true := fun p _ h => decide_eq_true h
  have dF : ∀ p : Prop, [Decidable p] → ¬ p → decide p = false := fun p _ h => decide_eq_false h
  have hLl := hG.len
  by_cases k0 : kk = 0
  · have d0 := dT _ k0
    simp only [w5_34, W_seq, w5_12, hn, X_eql EE_sym, Nat.reduceLT, ev_T, h41, ev_const, eq_int, d0, okI_some, T_set, X_assign, lk_cons, if_true, X_nil, thenQ_normal, W_cond, Nat.reduceEqDiff, if_false, CDi_t, w5_15, w5_13, Mem.next_bump, Nat.le_add_right_of_le, bump_bump, Nat.reduceAdd, X_move, h3, X_fieldAddr EE_sym fo_51_1, h6, offV_ptr, Nat.zero_add, X_load EE_sym, load1 lay_3, Mem.get_bump, hx, ld1_cells, x1, X_fieldAddr EE_sym fo_51_2, load1 lay_30, x2, X_call ca_9, List.map_cons, List.map_nil, true_and]
    refine CallI.ex2 (add_ok (n := a) (p := px) (hB.bump _).hs hB.fresh.bump) fun u M1 hv => ?_
    obtain ⟨rfl, v1, hS1, hF1⟩ := hv
    obtain ⟨hB1, hw1⟩ := hB.ons hF1.of_bump hS1
    have n1 := Nat.le_trans hn hw1.next
    have hx1 : M1.get xb = some (.cells xc true 0) := by rw [hw1.old xb hxW, hx]
    simp only [putT, Nat.reduceLT, T_set, X_assign, ev_T, lk_cons, Nat.reduceEqDiff, if_false, if_true, X_nil, thenQ_normal, w5_14, n1, X_move, h4, X_fieldAddr EE_sym fo_51_1, h6, offV_ptr, Nat.zero_add, okI_some, X_load EE_sym, load1 lay_3, Mem.get_bump, hx1, ld1_cells, x1, X_fieldAddr EE_sym fo_51_2, load1 lay_30, x2, X_call ca_16, List.map_cons, List.map_nil, true_and]
    refine CallI.ex2 (add_d (n := a) (p := px) (hB1.bump _).hw hB1.fresh.bump (by rw [topA_len]; omega)) fun u M2 hv => ?_
    obtain ⟨rfl, vw2, hD2, hF2⟩ := hv
    rw [addR_top hG] at hD2
    obtain ⟨hB2, hw2⟩ := hB1.onw hF2.of_bump hD2
    have n2 := Nat.le_trans n1 hw2.next
    simp only [addE_top, putT, Nat.reduceLT, T_set, X_eql EE_sym, ev_T, lk_cons, Nat.reduceEqDiff, if_false, if_true, eq_int, decide_true, okI_some, X_assign, X_nil, true_and]
    exact ⟨_, s, v1, vw2, _, rfl, ⟨rfl, rfl, rfl, rfl, rfl⟩, h3, rfl, hB2, hw1.trans hw2, hG.add hp⟩
  have d0 := dF _ k0
  by_cases k1 : kk = 1
  · have d1 := dT _ k1
    simp only [w5_34, W_seq, w5_12, hn, X_eql EE_sym, Nat.reduceLT, ev_T, h41, ev_const, eq_int, d0, okI_some, T_set, X_assign, lk_cons, if_true, X_nil, thenQ_normal, W_cond, Nat.reduceEqDiff, if_false, CDi_f, w5_33, w5_16, Mem.next_bump, Nat.le_add_right_of_le, bump_bump, Nat.reduceAdd, d1, CDi_t, w5_19, w5_17, X_move, h3, X_call ca_12, List.map_cons, List.map_nil, true_and]
    refine CallI.ex2 (tick_ok (hB.bump _).hs hB.fresh.bump hG.wf hG.nd (by omega)) fun u1 M1 hv => ?_
    obtain ⟨hsu1, hnu1, hS1, hF1⟩ := hv
    obtain ⟨hB1, hw1⟩ := hB.ons hF1.of_bump hS1
    have n1 := Nat.le_trans hn hw1.next
    have hx1 : M1.get xb = some (.cells xc true 0) := by rw [hw1.old xb hxW, hx]
    simp only [putT, Nat.reduceLT, T_set, X_assign, ev_T, lk_cons, Nat.reduceEqDiff, if_false, if_true, X_nil, thenQ_normal, w5_18, n1, X_move, h4, X_call ca_17, List.map_cons, List.map_nil, true_and]
    refine CallI.ex2 (tick_d (hB1.bump _).hw hB1.fresh.bump (by omega)) fun u2 M2 hv => ?_
    obtain ⟨hsu2, hnu2, vw2, hD2, hF2⟩ := hv
    rw [tl_top hG] at hD2
    have hF2 := hF2.of_bump
    obtain ⟨hB2, hw2⟩ := hB1.onw hF2 hD2
    have n2 := Nat.le_trans n1 hw2.next
    have lw := hB.hw.lt hB.fresh
    have hsu1' : SlV M2 1 u1 (wakeL L).length (il (wakeL L)) := hsu1.keep fun y o hy ho => by
      have y1 := hnu1 y hy
      have y2 := hsu1.lt hB1.fresh hy
      rw [Mem.next_bump] at y1
      rw [hF2.old y y2 (by omega), ho]
    have hwl := wkL_len (L := L) (i := L.length)
    simp only [putT, Nat.reduceLT, T_set, X_call ca_15, List.map_cons, ev_T, lk_cons, Nat.reduceEqDiff, if_false, if_true, List.map_nil]
    refine CallI.con (same_i hsu1' hsu2 (by unfold wakeL; omega)) (by simp) ?_
    simp only [putT, Nat.reduceLT, T_set, X_assign, ev_T, lk_cons, Nat.reduceEqDiff, if_false, if_true, X_nil, true_and]
    exact ⟨_, s, v, vw2, tickL L, rfl, ⟨rfl, rfl, rfl, rfl, rfl⟩, h3, rfl, hB2, hw1.trans hw2, hG.tick.mono (by omega)⟩
  have d1 := dF _ k1
  by_cases k2 : kk = 2
  · have d2 := dT _ k2
    simp only [w5_34, W_seq, w5_12, hn, X_eql EE_sym, Nat.reduceLT, ev_T, h41, ev_const, eq_int, d0, okI_some, T_set, X_assign, lk_cons, if_true, X_nil, thenQ_normal, W_cond, Nat.reduceEqDiff, if_false, CDi_f, w5_33, w5_16, Mem.next_bump, Nat.le_add_right_of_le, bump_bump, Nat.reduceAdd, d1, w5_32, w5_20, d2, CDi_t, w5_24, w5_21, X_move, h3, X_fieldAddr EE_sym fo_51_1, h6, offV_ptr, Nat.zero_add, X_load EE_sym, load1 lay_3, Mem.get_bump, hx, ld1_cells, x1, X_call ca_18, List.map_cons, List.map_nil, true_and]
    refine CallI.ex2 (drop_ok (p := px) (hB.bump _).hs hB.fresh.bump) fun u M1 hv => ?_
    obtain ⟨rfl, hS1, hF1⟩ := hv
    have hS1 : SAt M1 s v (without L px) := hS1
    obtain ⟨hB1, hw1⟩ := hB.ons hF1.of_bump hS1
    have n1 := Nat.le_trans hn hw1.next
    have hx1 : M1.get xb = some (.cells xc true 0) := by rw [hw1.old xb hxW, hx]
    simp only [putT, Nat.reduceLT, T_set, X_move, ev_T, lk_cons, Nat.reduceEqDiff, if_false, if_true, X_extract EE_sym, List.getElem?_toArray, List.getElem?_cons_zero, okI_some, List.getElem?_cons_succ, X_assign, X_nil, thenQ_normal, W_seq, w5_22, n1, h4, X_fieldAddr EE_sym fo_51_1, h6, offV_ptr, Nat.zero_add, X_load EE_sym, load1 lay_3, Mem.get_bump, hx1, ld1_cells, x1, X_call ca_19, List.map_cons, List.map_nil, true_and]
    refine CallI.ex2 (drop_d (p := px) (hB1.bump _).hw hB1.fresh.bump (by rw [topA_len]; omega)) fun u M2 hv => ?_
    obtain ⟨rfl, vw2, hD2, hF2⟩ := hv
    rw [without_top hG] at hD2
    rw [topA_get]
    obtain ⟨hB2, hw2⟩ := hB1.onw hF2.of_bump hD2
    have n2 := Nat.le_trans n1 hw2.next
    simp only [putT, Nat.reduceLT, T_set, X_move, ev_T, lk_cons, Nat.reduceEqDiff, if_false, if_true, X_extract EE_sym, List.getElem?_toArray, List.getElem?_cons_zero, okI_some, List.getElem?_cons_succ, X_assign, X_nil, thenQ_normal, w5_23, n2, X_eql EE_sym, eq_int, decide_true, X_guard EE_sym, T_get, GDi_tt, eqB', X_pick EE_sym, ev_const, pickV_bool, true_and]
    exact ⟨_, s, v, vw2, _, rfl, ⟨rfl, rfl, rfl, rfl, rfl⟩, h3, rfl, hB2.bump _, (hw1.trans hw2).bump _, hG.without.mono (by omega)⟩
  have d2 := dF _ k2
  by_cases k3 : kk = 3
  · have d3 := dT _ k3
    simp only [w5_34, W_seq, w5_12, hn, X_eql EE_sym, Nat.reduceLT, ev_T, h41, ev_const, eq_int, d0, okI_some, T_set, X_assign, lk_cons, if_true, X_nil, thenQ_normal, W_cond, Nat.reduceEqDiff, if_false, CDi_f, w5_33, w5_16, Mem.next_bump, Nat.le_add_right_of_le, bump_bump, Nat.reduceAdd, d1, w5_32, w5_20, d2, w5_31, w5_25, d3, CDi_t, w5_30, w5_26, X_move, h3, w5_27, X_call ca_20, List.map_cons, List.map_nil, true_and]
    refine CallI.ex2 (copy_ok (hB.bump _).hs hB.fresh.bump) fun u M1 hv => ?_
    obtain ⟨c, vc, rfl, hc0, hC, hn1, hvc⟩ := hv
    rw [Mem.next_bump] at hc0 hvc
    have hn1 := hn1.of_bump
    have hvc' : ∀ b, mB vc = some b → M.next ≤ b := fun b hb => by have := hvc b hb; omega
    have hB1 := hB.swap hn1 (by omega) hC hvc'
    have n1 := Nat.le_trans hn hn1.next
    simp only [putT, Nat.reduceLT, T_set, X_assign, ev_T, lk_cons, Nat.reduceEqDiff, if_false, if_true, X_nil, thenQ_normal, W_seq, w5_28, n1, X_move, X_call ca_12, List.map_cons, List.map_nil, true_and]
    refine CallI.ex2 (tick_ok (hB1.bump _).hs hB1.fresh.bump hG.wf hG.nd (by omega)) fun u1 M2 hv => ?_
    obtain ⟨-, -, hS2, hF2⟩ := hv
    obtain ⟨hB2, hw2⟩ := hB1.ons hF2.of_bump hS2
    have n2 := Nat.le_trans n1 hw2.next
    simp only [putT, Nat.reduceLT, T_set, X_nil, thenQ_normal, w5_29, n2, X_move, ev_T, lk_cons, Nat.reduceEqDiff, if_false, if_true, X_call ca_9, List.map_cons, ev_const, List.map_nil, true_and]
    refine CallI.ex2 (add_ok (n := 1#32) (p := 77) (hB2.bump _).hs hB2.fresh.bump) fun u M3 hv => ?_
    obtain ⟨rfl, v3, hS3, hF3⟩ := hv
    obtain ⟨hB3, hw3⟩ := hB2.ons hF3.of_bump hS3
    have n3 := Nat.le_trans n2 hw3.next
    have hw := hw2.trans hw3
    have hB4 := hB3.back hC hw hB.wlt (by omega) hvc'
    have hw4 : Wx W M M3 := (Wx.of_nx hn1 hB.wlt).trans (hw.mono fun y hy => .inl hy)
    simp only [putT, Nat.reduceLT, T_set, X_nil, true_and]
    exact ⟨_, c, vc, vw, _, rfl, ⟨rfl, rfl, rfl, rfl, rfl⟩, rfl, h7, hB4, hw4, hG.mono (by omega)⟩
  have d3 := dF _ k3
  simp only [w5_34, W_seq, w5_12, hn, X_eql EE_sym, Nat.reduceLT, ev_T, h41, ev_const, eq_int, d0, okI_some, T_set, X_assign, lk_cons, if_true, X_nil, thenQ_normal, W_cond, Nat.reduceEqDiff, if_false, CDi_f, w5_33, w5_16, Mem.next_bump, Nat.le_add_right_of_le, bump_bump, Nat.reduceAdd, d1, w5_32, w5_20, d2, w5_31, w5_25, d3, W_skip, true_and]
  exact ⟨_, s, v, vw, _, rfl, ⟨rfl, rfl, rfl, rfl, rfl⟩, h3, h7, hB.bump _, Wx.refl.bump _, hG.mono (by omega)⟩
end
end
end Go.Ab
/- SleepPlays: whatever the calls, it answers true. -/
namespace Go.Ab
open Go.Proofs
noncomputable section
set_option maxHeartbeats 8000000
set_option maxRecDepth 10000
section
variable {m : Mem} {l : Value} {n : Nat}
theorem neqB2 {a b : Bool} {xo yo : Operand} : eqA EE.P .neq 4 xo yo (.bool a) (.bool b) m = some (.bool (!decide (a = b))) := by
  cases a <;> cases b <;> kernel_rfl
theorem bld49 : buildA EE.P 49 [] = some (.agg [.slice none 0 0].toArray) := by kernel_rfl
theorem mk2 {b b' j : Nat} {o o' : AObj} (hm : Fresh m) (hb : m.next ≤ b) (hj : b < m.next + j) (hb' : m.next ≤ b') (hj' : b' < m.next + j) : Nx m (((m.put b o).put b' o').bump j) :=
  ⟨by simp only [Mem.next_bump, Mem.next_put]; omega, Fresh.of_low (by have := hm.n64; simp only [Mem.next_bump, Mem.next_put]; omega) (fun y hy => by
    simp only [Mem.next_bump, Mem.next_put] at hy
    rw [Mem.get_bump, Mem.get_put, if_neg (by omega), Mem.get_put, if_neg (by omega)]
    exact hm.none y (by omega)), fun y hy => by rw [Mem.get_bump, Mem.get_put, if_neg (by omega), Mem.get_put, if_neg (by omega)]⟩
theorem cells3 {k p : Int} {a : BitVec 32} : ∃ xc : Cells, (Cells.ofList [In 0, In 0, .int .u32 0]).write 0 [In k, In p, Um a] = xc ∧ xc.nth 0 = some (In k) ∧ xc.nth 1 = some (In p) ∧ xc.nth 2 = some (Um a) := ⟨_, rfl, rfl, rfl, rfl⟩
theorem plays_ok (hm : Fresh m) (hl : Ops m l n) : ∃ m', Con EE.P 5 [l] m (.bool true) m' := by
  refine Con.raw1 EE_ok fn5 (Nat.le_of_ble_eq_true rfl) ?_
  obtain ⟨aa, C, rfl, hl2⟩ := id hl
  have hlen : ∀ M, lenA EE.P 39 (.slice aa n C) M = some (In n) := fun M => len_slice und_39
  by_cases hn : 200 < n
  · have hx : ((200 : Int) < (n : Int)) = True := eq_true (by omega)
    simp only [f5, enumV, w5, W_seq, w5_0, Nat.le_refl, X_assign, ev_const, Nat.reduceLT, T_set, X_nil, thenQ_normal, w5_1, Mem.next_bump, Nat.le_add_right, bump_bump, Nat.reduceAdd, X_move, ev_T, lk_cons, Nat.reduceEqDiff, if_true, if_false, X_len EE_sym, len_slice und_39, okI_some, X_bin EE_sym (op := .gtr) rfl, bin_gtr, hx, decide_true, W_cond, CDi_t, w5_3, w5_2, W_ret, thenQ_ret, FinX_ret, resA_tmp, T_get, resA_nil, Option.map_some, oneOr1, true_and]
    exact RawE.of (by simp only [Mem.next_bump]; omega) fun y hy => rfl
  have hx : ((200 : Int) < (n : Int)) = False := eq_false (by omega)
  simp only [f5, enumV, w5, W_seq, w5_0, Nat.le_refl, X_assign, ev_const, Nat.reduceLT, T_set, X_nil, thenQ_normal, w5_1, Mem.next_bump, Nat.le_add_right, bump_bump, Nat.reduceAdd, X_move, ev_T, lk_cons, Nat.reduceEqDiff, if_true, if_false, X_len EE_sym, len_slice und_39, okI_some, X_bin EE_sym (op := .gtr) rfl, bin_gtr, hx, decide_false, W_cond, CDi_f, W_skip, w5_4, X_build EE_sym, List.map_nil, bld27, X_box, box_agg, Nat.add_assoc, put_bump, w5_5, Mem.next_put, bld49, w5_6, W_block, w5_46, true_and]
  have hN0 := mk2 (o := .cells (Cells.ofList [.map none]) true 0) (o' := .cells (Cells.ofList [.slice none 0 0]) true 0) (j := 13) hm (b := m.next + 5) (b' := m.next + 8) (by omega) (by omega) (by omega) (by omega)
  have hB0 : Bo (fun y => y < m.next) (((m.put (m.next + 5) (.cells (Cells.ofList [.map none]) true 0)).put (m.next + 8) (.cells (Cells.ofList [.slice none 0 0]) true 0)).bump 13) (m.next + 5) (m.next + 8) (.map none) (.slice none 0 0) [] (topA []) :=
    ⟨hN0.fresh, ⟨⟨_, by rw [Mem.get_bump, Mem.get_put, if_neg (by omega), Mem.get_put, if_pos rfl], rfl, rfl⟩, .inl ⟨rfl, rfl⟩⟩, ⟨⟨_, by rw [Mem.get_bump, Mem.get_put, if_pos rfl], rfl, rfl⟩, SlV.nil⟩, ⟨by omega, by omega, by omega⟩, fun y hy => by have := hN0.next; omega, fun b hb => (by cases hb), fun b hb => (by cases hb)⟩
  refine WX.loop_of (fun x t M => ∃ (i s : Nat) (v vw : Value) (L : SL), i ≤ n ∧ x = n - i ∧ t = T 157 [(33, In i), (32, In n), (4, PT (m.next + 8)), (3, PT s), (0, .slice aa n C)] ∧ Bo (fun y => y < m.next) M s (m.next + 8) v vw L (topA L) ∧ Wx (fun y => y < m.next) m M ∧ Gd L i) ?_ (k := n) (t1 := T 157 [(33, In (0 : Nat)), (32, In n), (4, PT (m.next + 8)), (3, PT (m.next + 5)), (0, .slice aa n C)]) (View.temps ⟨rfl, rfl, rfl, rfl, rfl, trivial⟩) ⟨0, m.next + 5, .map none, .slice none 0 0, [], by omega, rfl, rfl, hB0, Wx.of_nx hN0 (fun y hy => hy), Gd.nil⟩
  rintro x t M ⟨i, s, v, vw, L, hi, rfl, rfl, hB, hw, hG⟩
  have hnx := hw.next
  by_cases hin : ¬ i < n
  · obtain rfl : i = n := by omega
    have g1 : ¬ (i : Int) < (i : Int) := by omega
    simp only [w5_45, W_seq, w5_7, hnx, X_bin EE_sym (op := .lss) rfl, Nat.reduceLT, ev_T, lk_cons, Nat.reduceEqDiff, if_false, if_true, bin_lss, g1, decide_false, okI_some, T_set, X_nil, thenQ_normal, W_cond, CDi_f, W_exit, thenQ_exit, roundQ_exit, blockQ_exit, w5_47, Mem.next_bump, Nat.le_add_right_of_le, bump_bump, Nat.reduceAdd, X_assign, ev_const, W_ret, FinX_ret, resA_tmp, T_get, resA_nil, Option.map_some, oneOr1, true_and]
    exact RawE.of (by rw [Mem.next_bump]; omega) fun y hy => hw.old y hy
  have hin : i < n := by omega
  have g1 : (i : Int) < (n : Int) := by omega
  have g2 : (0 : Int) ≤ i := by omega
  have hwi : IntKind.i64.wrap ((i : Int) + 1) = ((i + 1 : Nat) : Int) := by rw [wrap_i64 (by omega) (by omega)]; omega
  rcases hl2 with hl2 | ⟨B, cs, ww, z, rfl, e1, e2⟩
  · omega
  obtain ⟨kk, px, a, e3, hp⟩ := e2 i hin
  have e4 : M.get B = some (.cells cs ww z) := by rw [hw.old B (hm.lt e1), e1]
  obtain ⟨xc, hxc, x0, x1, x2⟩ := cells3 (k := kk) (p := px) (a := a)
  simp only [w5_45, W_seq, w5_7, hnx, X_bin EE_sym (op := .lss) rfl, Nat.reduceLT, ev_T, lk_cons, Nat.reduceEqDiff, if_false, if_true, bin_lss, g1, decide_true, okI_some, T_set, X_nil, thenQ_normal, W_cond, CDi_t, W_skip, W_block, w5_43, w5_8, Mem.next_bump, Nat.le_add_right_of_le, bump_bump, Nat.reduceAdd, X_move, X_assign, w5_9, X_indexAddr EE_sym, g2, idxV_slice und_39 sz_51, Int.toNat_natCast, Nat.zero_add, X_load EE_sym, loadN lay_51, Mem.get_bump, e4, ldN_cells, e3, Option.map_some, X_alloc, zero_51, Nat.add_assoc, put_bump, X_store, store1 sz_51, Mem.get_put, cells_agg, st1_cells, List.length_cons, List.length_nil, ofList_n, Nat.le_refl, List.all_cons, oneCell, List.all_nil, Bool.and_self, and_self, hxc, w5_10, Mem.next_put, ev_const, w5_11, X_fieldAddr EE_sym fo_51_0, offV_ptr, Nat.add_zero, load1 lay_3, ld1_cells, x0, true_and]
  obtain ⟨xb, hxb⟩ : ∃ xb, xb = M.next + 7 := ⟨_, rfl⟩
  have hnx2 := mk2 (o := .cells (Cells.ofList [In 0, In 0, .int .u32 0]) true 0) (o' := .cells xc true 0) (j := 12) hB.fresh (b := M.next + 7) (b' := M.next + 7) (by omega) (by omega) (by omega) (by omega)
  have hBx := hB.add hnx2 (P := fun y => y = xb) fun y hy => by subst hy; rw [hxb]; exact ⟨by omega, by simp only [Mem.next_bump, Mem.next_put]; omega⟩
  have hwx := hw.trans (Wx.of_nx hnx2 hB.wlt)
  refine WX.mono ?_ (plays_kind (s := s) (w := m.next + 8) (xb := xb) (k := i) (L := L) (W := fun y => y < m.next ∨ y = xb) (kk := kk) (px := px) (a := a) (xc := xc) rfl rfl (by rw [hxb]; rfl) rfl rfl hBx hG (by rw [hxb, Mem.get_bump, Mem.get_put, if_pos rfl]) (.inr rfl) x1 x2 hp (by omega) (by simp only [Mem.next_bump, Mem.next_put]; omega))
  rintro x t M1 ⟨rfl, J, s1, v1, vw1, L1, rfl, ⟨j33, j32, j6, j4, j0⟩, k3, k7, hB1, hw1, hG1⟩
  have j33 : lk J 33 = In i := j33
  have j32 : lk J 32 = In n := j32
  have j6 : lk J 6 = PT xb := by rw [j6, hxb]; rfl
  have j4 : lk J 4 = PT (m.next + 8) := j4
  have j0 : lk J 0 = .slice (some ⟨B, 0, none⟩) n C := j0
  have q1 : M1.get xb = some (.cells xc true 0) := by rw [hw1.old xb (.inr rfl), hxb, Mem.get_bump, Mem.get_put, if_pos rfl]
  have hw1 := hwx.trans (hw1.mono fun y hy => .inl hy)
  have hB1 := hB1.less (W' := fun y => y < m.next) fun y hy => .inl hy
  have hxbn : xb < M1.next := hB1.fresh.lt q1
  clear hBx hnx2 hwx
  have n1 := hw1.next
  have hl1 := hG1.len
  obtain ⟨ws, dw1, dw2, dw3⟩ := hB1.hw.at_
  simp only [blockQ_normal, thenQ_normal, W_seq, w5_35, n1, X_move, Nat.reduceLT, ev_T, k3, T_set, X_fieldAddr EE_sym fo_51_1, lk_cons, Nat.reduceEqDiff, j6, if_false, offV_ptr, Nat.zero_add, okI_some, X_load EE_sym, if_true, load1 lay_3, Mem.get_bump, q1, ld1_cells, x1, X_call ca_21, List.map_cons, List.map_nil, true_and]
  refine CallI.con0 (left_ok (p := px) (hB1.bump _).hs) ?_
  simp only [putT, Nat.reduceLT, T_set, X_move, ev_T, lk_cons, Nat.reduceEqDiff, if_false, if_true, X_extract EE_sym, List.getElem?_toArray, List.getElem?_cons_zero, okI_some, List.getElem?_cons_succ, X_assign, X_nil, thenQ_normal, W_seq, w5_36, Mem.next_bump, n1, Nat.le_add_right_of_le, bump_bump, Nat.reduceAdd, j4, X_fieldAddr EE_sym fo_51_1, j6, offV_ptr, Nat.zero_add, X_load EE_sym, load1 lay_3, Mem.get_bump, q1, ld1_cells, x1, X_call ca_22, List.map_cons, List.map_nil, true_and]
  refine CallI.con0 (left_d (p := px) (hB1.bump _).hw (by rw [topA_len]; omega)) ?_
  rw [topA_get]
  simp only [putT, Nat.reduceLT, T_set, X_move, ev_T, lk_cons, Nat.reduceEqDiff, if_false, if_true, X_extract EE_sym, List.getElem?_toArray, List.getElem?_cons_zero, okI_some, List.getElem?_cons_succ, X_assign, X_nil, thenQ_normal, W_seq, w5_37, Mem.next_bump, n1, Nat.le_add_right_of_le, bump_bump, Nat.reduceAdd, k3, X_call ca_14, List.map_cons, List.map_nil, true_and]
  refine CallI.ex2 (next_ok (hB1.bump _).hs hB1.fresh.bump hG1.wf (by omega)) fun u M2 hv => ?_
  obtain ⟨rfl, hn2⟩ := hv
  have hn2 := hn2.of_bump
  have hB2 := hB1.nx hn2
  have hw2 := hw1.trans (Wx.of_nx hn2 hB1.wlt)
  have n2 := hw2.next
  simp only [ne_eq, putT, Nat.reduceLT, T_set, X_move, ev_T, lk_cons, Nat.reduceEqDiff, if_false, if_true, X_extract EE_sym, List.getElem?_toArray, List.getElem?_cons_zero, okI_some, List.getElem?_cons_succ, X_assign, X_nil, thenQ_normal, W_seq, w5_38, n2, j4, X_call ca_23, List.map_cons, List.map_nil, true_and]
  refine CallI.con0 (next_d (hB2.bump _).hw (by omega)) ?_
  simp only [ne_eq, putT, Nat.reduceLT, T_set, X_move, ev_T, lk_cons, Nat.reduceEqDiff, if_false, if_true, X_extract EE_sym, List.getElem?_toArray, List.getElem?_cons_zero, okI_some, List.getElem?_cons_succ, X_assign, X_nil, thenQ_normal, W_seq, w5_39, Mem.next_bump, n2, Nat.le_add_right_of_le, bump_bump, Nat.reduceAdd, k3, X_call ca_11, List.map_cons, List.map_nil, true_and]
  refine CallI.ex2 (all_ok (hB2.bump _).hs hB2.fresh.bump hG1.wf (by omega)) fun u M3 hA => ?_
  have hA := hA.of_bump
  have hB3 := hB2.nx hA.nx
  have hw3 := hw2.trans (Wx.of_nx hA.nx hB2.wlt)
  have n3 := hw3.next
  have dw4 : M3.get (m.next + 8) = some (.cells ws true 0) := by rw [hA.nx.old _ (hB2.hw.lt hB2.fresh), hn2.old _ (hB1.hw.lt hB1.fresh), dw1]
  simp only [putT, Nat.reduceLT, T_set, X_assign, ev_T, lk_cons, Nat.reduceEqDiff, if_false, if_true, X_nil, thenQ_normal, W_seq, w5_40, n3, X_move, k7, X_un EE_sym, un_not, Bool.not_true, okI_some, X_guard EE_sym, T_get, GDi_ff, X_neq EE_sym, neq_int, decide_true, X_pick EE_sym, ev_const, pickV_bool, Bool.false_eq_true, neqB2, j4, X_nilCheck EE_sym, nilV_ptr, X_fieldAddr EE_sym fo_49_0, offV_ptr, Nat.add_zero, X_load EE_sym, load1 lay_34, Mem.get_bump, dw4, ld1_cells, dw3, X_call ca_10, List.map_cons, List.map_nil, true_and]
  have hs1 : SlV M3 2 u (topA L1).length (pl (topA L1)) := by rw [topA_len]; exact hA.sl
  refine CallI.con0 (same_p (hs1.bump _) (hB3.bump _).hw.sl (fun k hk => by
    rw [topA_len] at hk
    rw [topA_at hk]
    exact wfL_keys.1 hG1.wf _ (keyI_mem hk)) (by rw [topA_len]; omega)) ?_
  simp only [putT, Nat.reduceLT, T_set, X_guard EE_sym, T_get, lk_cons, Nat.reduceEqDiff, if_false, if_true, GDi_ff, X_un EE_sym, ev_T, un_not, Bool.not_true, okI_some, X_pick EE_sym, ev_const, pickV_bool, Bool.false_eq_true, X_nil, thenQ_normal, W_cond, CDi_f, W_skip, blockQ_normal, w5_44, Mem.next_bump, n3, Nat.le_add_right_of_le, bump_bump, Nat.reduceAdd, X_bin EE_sym (op := .add) rfl, j33, bin_add, hwi, X_move, roundQ_normal, true_and]
  exact ⟨n - (i + 1), _, _, by omega, View.temps (l' := [(33, In ((i + 1 : Nat) : Int)), (32, In n), (4, PT (m.next + 8)), (3, PT s1), (0, .slice (some ⟨B, 0, none⟩) n C)]) ⟨rfl, j32, j4, k3, j0, trivial⟩, i + 1, s1, v1, vw1, L1, by omega, rfl, rfl, hB3.bump _, hw3.bump _, hG1⟩
end
end
end Go.Ab
