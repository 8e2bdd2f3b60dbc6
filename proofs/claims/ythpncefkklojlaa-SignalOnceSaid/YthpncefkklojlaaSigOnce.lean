/- SignalOnce: whatever the signals, the law returns true, and the argument reads as it read before. -/
import Derived.Test.YthpncefkklojlaaSigOnE
namespace Go.Proofs.Ythpncefkklojlaa.signalOnce
open Go.ChangeShapes Go.WideShapes Go.ChangeAt Go.RowKit Go.Ab
open Go.Proofs.Ythpncefkklojlaa.sig
set_option linter.unusedVariables false
set_option maxRecDepth 10000

/-! ### the first loop -/
structure Inv (s0 : S) (s : S) (all met : BitVec 32) (last n : Nat) : Prop where
  ok : okS s = true
  b : s.b = false
  m : s.m = s0.m
  wh : ∀ g, what s g = what s0 g
  sub : ∀ i, i < 32 → s.p.getLsbD i = true → all.getLsbD i = true
  met_le : ∀ i, i < 32 → met.getLsbD i = true → i ≤ last
  clr : ∀ i, 1 ≤ i → i ≤ last → (s.p.getLsbD i && !s.m.getLsbD i) = false
  acc : ∀ i, 1 ≤ i → i ≤ 15 → all.getLsbD i = true → s.m.getLsbD i = false → s.p.getLsbD i = true ∨ what s0 i = 0 ∨ met.getLsbD i = true
  n_le : n ≤ last
  last_le : last ≤ 15
structure Fin0 (s0 : S) (s : S) (all met : BitVec 32) : Prop where
  ok : okS s = true
  b : s.b = false
  wh : ∀ g, what s g = what s0 g
  clr : ∀ i, 1 ≤ i → i ≤ 15 → (s.p.getLsbD i && !s.m.getLsbD i) = false
  acc : ∀ i, 1 ≤ i → i ≤ 15 → all.getLsbD i = true → s.m.getLsbD i = false → what s0 i = 0 ∨ met.getLsbD i = true

theorem what_congr {a b : S} (h : ∀ g, a.get g = b.get g) (g : Int) : what a g = what b g := by unfold what; rw [h g]
theorem with_b {s : S} (h : s.b = false) : { s with b := false } = s := by rw [← h]
theorem ready_b {s : S} (h : s.b = false) (i : Nat) (hi : i < 32) : (ready s).getLsbD i = (s.p.getLsbD i && !s.m.getLsbD i) := by
  rw [ready_bit s i hi, h]; simp
theorem nx_ok {s : S} (h : okS s = true) : okS { (nx s).to with b := false } = true := by
  have hs := (okS_iff s).1 h
  have hh : (nx s).to.h0 = s.h0 ∧ (nx s).to.h9 = s.h9 := ⟨(nx_same s).2 0, (nx_same s).2 9⟩
  rw [okS_iff]
  refine ⟨fun i hi hp => ?_, fun i hi hm => hs.2.1 i hi (by rw [← (nx_same s).1]; exact hm), by show (nx s).to.m.getLsbD 9 = false; rw [(nx_same s).1]; exact hs.2.2.1, hh.1.trans hs.2.2.2.1, hh.2.trans hs.2.2.2.2⟩
  refine hs.1 i hi ?_
  have hp : (nx s).to.p.getLsbD i = true := hp
  rcases nx_spec h with ⟨_, _, _, g4, _⟩ | ⟨j, _, _, _, _, _, _, _, g8, _⟩
  · rw [g4 i hi, Bool.and_eq_true] at hp; exact hp.1
  · rw [g8 i hi, Bool.and_eq_true] at hp; exact hp.1
theorem bitI (x : BitVec 32) (j : Nat) : (((x >>> ((j : Int)).toNat) &&& 1#32) == 1#32) = x.getLsbD j := by
  rw [show ((j : Int)).toNat = j by simp, bit_iff]
theorem bit0 (x : BitVec 32) (j : Nat) : (((x >>> ((j : Int)).toNat) &&& 1#32) == 0#32) = !x.getLsbD j := by
  rw [show ((j : Int)).toNat = j by simp, BitVec.and_one_eq_setWidth_ofBool_getLsbD, BitVec.getLsbD_ushiftRight, Nat.add_zero]
  cases x.getLsbD j <;> rfl

theorem rounds1 {s0 : S} {all : BitVec 32} : ∀ (f : Nat) {s : S} {met : BitVec 32} {last n : Nat}, Inv s0 s all met last n → 15 ≤ last + f →
    ∃ N se mete, Fin0 s0 se all mete ∧ TRounds (sigOf (ds1 s all met last n)) (sigOf (ds2 se all mete)) Try.prog 64 none B1 N hd1 (memB 65 bk) (.exit 0) hdE (memB 65 bk) := by
  intro f
  induction f with
  | zero =>
    intro s met last n I hf
    exact step I (fun hlt => absurd hlt (by have := I.last_le; omega)) 
  | succ f ih =>
    intro s met last n I hf
    exact step I (fun {s' met' last' n'} hlt I' => ih I' (by omega))
where
  step {s0 : S} {all : BitVec 32} {s : S} {met : BitVec 32} {last n : Nat} (I : Inv s0 s all met last n)
      (ih : ∀ {s' : S} {met' : BitVec 32} {last' n' : Nat}, last < last' ∧ last' ≤ 15 → Inv s0 s' all met' last' n' → ∃ N se mete, Fin0 s0 se all mete ∧ TRounds (sigOf (ds1 s' all met' last' n')) (sigOf (ds2 se all mete)) Try.prog 64 none B1 N hd1 (memB 65 bk) (.exit 0) hdE (memB 65 bk)) :
      ∃ N se mete, Fin0 s0 se all mete ∧ TRounds (sigOf (ds1 s all met last n)) (sigOf (ds2 se all mete)) Try.prog 64 none B1 N hd1 (memB 65 bk) (.exit 0) hdE (memB 65 bk) := by
    have hn : decide (((n : Nat) : Int) < 20) = true := by have := I.n_le; have := I.last_le; simp; omega
    have hwb := with_b I.b
    have hok := nx_ok I.ok
    have hwt : ∀ g, what { (nx s).to with b := false } g = what s0 g := fun g => (what_congr (b := s) (fun g => (nx_same s).2 g) g).trans (I.wh g)
    rcases nx_spec I.ok with ⟨g1, g2, g3, g4, g5⟩ | ⟨j, g1, g2, g3, g4, g5, g6, g7, g8, g9⟩
    · refine ⟨1, { (nx s).to with b := false }, met, ⟨hok, rfl, hwt, fun i h1 h2 => ?_, fun i h1 h2 ha hm => ?_⟩, TRounds.last ?_ (by intro h; cases h)⟩
      · show ((nx s).to.p.getLsbD i && !(nx s).to.m.getLsbD i) = false
        rw [g4 i (by omega), (nx_same s).1, ready_b I.b i (by omega)]
        have : (1 ≤ i ∧ i ≤ 15) := ⟨h1, h2⟩
        simp only [this]
        cases s.p.getLsbD i <;> cases s.m.getLsbD i <;> simp
      · have hm : (nx s).to.m.getLsbD i = false := hm
        rw [(nx_same s).1] at hm
        rcases I.acc i h1 h2 ha hm with h | h | h
        · left
          rw [← I.wh]
          exact g3 i h1 h2 (by rw [ready_b I.b i (by omega), h, hm]; rfl)
        · exact .inl h
        · exact .inr h
      · have := one_break (s := s) (all := all) (met := met) (last := last) (n := n) hn (by rw [hwb]; exact g5.trans I.b) (by rw [hwb, g1]; rfl)
        rw [hwb] at this
        exact this
    · have hready : (s.p.getLsbD j && !s.m.getLsbD j) = true := by rw [← ready_b I.b j (by omega)]; exact g4
      have hrp : s.p.getLsbD j = true ∧ s.m.getLsbD j = false := by simpa using hready
      have hlt : last < j := by
        rcases Nat.lt_or_ge last j with h | h
        · exact h
        · have := I.clr j g2 h; rw [hready] at this; cases this
      have I' : Inv s0 { (nx s).to with b := false } all (met ||| bit (nx s).sig) j (n + 1) := by
        refine ⟨hok, rfl, (nx_same s).1.trans I.m, hwt, fun i hi hp => ?_, fun i hi hm => ?_, fun i h1 h2 => ?_, fun i h1 h2 ha hm => ?_, by have := I.n_le; omega, g3⟩
        · have hp : (nx s).to.p.getLsbD i = true := hp
          rw [g8 i hi, Bool.and_eq_true] at hp
          exact I.sub i hi hp.1
        · rw [BitVec.getLsbD_or, g1, show bit ((j : Nat) : Int) = 1#32 <<< j from by simp [bit], lsb_bit j i hi, Bool.or_eq_true, decide_eq_true_eq] at hm
          rcases hm with hm | hm
          · have := I.met_le i hi hm; omega
          · omega
        · show ((nx s).to.p.getLsbD i && !(nx s).to.m.getLsbD i) = false
          rw [g8 i (by omega), (nx_same s).1, ready_b I.b i (by omega)]
          have : (1 ≤ i ∧ i ≤ j) := ⟨h1, h2⟩
          simp only [this]
          cases s.p.getLsbD i <;> cases s.m.getLsbD i <;> simp
        · have hm : (nx s).to.m.getLsbD i = false := hm
          rw [(nx_same s).1] at hm
          show (nx s).to.p.getLsbD i = true ∨ _
          rcases I.acc i h1 h2 ha hm with h | h | h
          · rcases Nat.lt_trichotomy i j with hij | hij | hij
            · right; left
              rw [← I.wh]
              exact g7 i h1 hij (by rw [ready_b I.b i (by omega), h, hm]; rfl)
            · right; right
              subst hij
              rw [BitVec.getLsbD_or, g1, show bit ((i : Nat) : Int) = 1#32 <<< i from by simp [bit], lsb_bit i i (by omega)]
              simp
            · left
              rw [g8 i (by omega), h]
              have : ¬ (1 ≤ i ∧ i ≤ j) := by omega
              simp [this]
          · exact .inr (.inl h)
          · right; right
            rw [BitVec.getLsbD_or, h]; rfl
      obtain ⟨N, se, mete, hF, hR⟩ := ih ⟨hlt, g3⟩ I'
      refine ⟨N + 1, se, mete, hF, TRounds.more ?_ hR⟩
      have hn1 : w64 (((n : Nat) : Int) + 1) = ((n + 1 : Nat) : Int) := by
        rw [w64_small (by omega) (by have := I.n_le; have := I.last_le; omega)]; rfl
      have hbusy : (nx s).to.b = (what s j == 2) := by rw [g9, I.b, Bool.false_or]
      have c0 : 0 ≤ (nx { s with b := false }).sig := by rw [hwb, g1]; omega
      have c2 : (((nx { s with b := false }).sig : Int) == 0) = false := by rw [hwb, g1]; simp; omega
      have c3 : decide (((nx { s with b := false }).sig : Int) ≤ ((last : Nat) : Int)) = false := by rw [hwb, g1]; simp; omega
      have c4 : (((met >>> ((nx { s with b := false }).sig : Int).toNat) &&& 1#32) == 1#32) = false := by
        rw [hwb, g1, bitI]
        cases hm : met.getLsbD j with
        | false => rfl
        | true => have := I.met_le j (by omega) hm; omega
      have c5 : (((all >>> ((nx { s with b := false }).sig : Int).toNat) &&& 1#32) == 0#32) = false := by
        rw [hwb, g1, bit0, I.sub j (by omega) hrp.1]; rfl
      have c6 : (((s.m >>> ((nx { s with b := false }).sig : Int).toNat) &&& 1#32) == 1#32) = false := by
        rw [hwb, g1, bitI]; exact hrp.2
      cases hw : (what s j == 2) with
      | true =>
        have c1 : (nx { s with b := false }).to.b = true := by rw [hwb, hbusy, hw]
        have c7 : (((nx { s with b := false }).wh : Int) == 2) = true := by rw [hwb, g5]; exact hw
        have c8 : okR { (nx { s with b := false }).to with b := true } = true := by
          rw [hwb]
          simp only [okR, Bool.and_true]
          exact hok
        have := one_busy (s := s) (all := all) (met := met) (last := last) (n := n) c0 hn c1 c2 c3 c4 c5 c6 c7 c8
        rw [hwb, hn1] at this
        rw [g1] at this ⊢
        exact this
      | false =>
        have c1 : (nx { s with b := false }).to.b = false := by rw [hwb, hbusy, hw]
        have c7 : (((nx { s with b := false }).wh : Int) == 2) = false := by rw [hwb, g5]; exact hw
        have := one_plain (s := s) (all := all) (met := met) (last := last) (n := n) c0 hn c1 c2 c3 c4 c5 c6 c7
        rw [hwb, hn1] at this
        rw [g1] at this ⊢
        exact this

/-! ### the second loop -/
theorem what_zero {s : S} {k : Nat} (h : what s k = 0) : (s.get k == 1#32) = true ∨ ((s.get k == 0#32) = true ∧ k = 12) := by
  unfold what at h
  split at h
  · cases h
  · rename_i h1
    split at h
    · rename_i h2
      simp only [Bool.or_eq_true, Bool.and_eq_true, beq_iff_eq, Bool.not_eq_true', beq_eq_false_iff_ne, not_or, not_and, Decidable.not_not] at h1 h2
      rcases h2 with h2 | h2
      · exact .inr ⟨by rw [h2]; rfl, by have := h1.2 h2; omega⟩
      · exact .inl (by rw [h2]; rfl)
    · cases h

theorem rounds2 {s0 s : S} {all met : BitVec 32} (F : Fin0 s0 s all met) : ∀ (f k : Nat), 1 ≤ k → k + f = 16 → TRounds (sigOf (ds2 s all met)) (sigOf (ds2 s all met)) Try.prog 64 none B2 (f + 1) (hd2 k) (memB 65 bk) (.exit 2) hdE (memB 65 bk)
  | 0, k, h1, h2 => by
    have : k = 16 := by omega
    subst this
    exact TRounds.last two_end (by intro h; cases h)
  | f + 1, k, h1, h2 => by
    refine TRounds.more (two (k := ((k : Nat) : Int)) (by omega) (by omega) ?_ ?_) (by have := rounds2 F f (k + 1) (by omega) (by omega); exact this)
    · rw [bitI, bit0]
      intro hp hm
      have := F.clr k h1 (by omega)
      rw [hp] at this
      simp only [Bool.true_and] at this
      rw [this] at hm
      cases hm
    · rw [bitI, bit0, bit0]
      intro ha hm ht hh1 hh2
      have hm' : s.m.getLsbD k = false := by simpa using hm
      rcases F.acc k h1 (by omega) ha hm' with h | h
      · rw [← F.wh] at h
        rcases what_zero h with e | ⟨e, e2⟩
        · rw [e] at hh1; cases hh1
        · rcases hh2 with hh2 | hh2
          · rw [e] at hh2; cases hh2
          · exact hh2 (by rw [e2]; rfl)
      · rw [h] at ht; cases ht

/-! ### the law -/
noncomputable def R6 : SCode := subc fn6.body [1, 1, 1, 1, 1, 1, 1, 1]
abbrev D19 (s : S) : List Value := [U s.p, U s.m, U s.h0, U s.h1, U s.h2, U s.h3, U s.h4, U s.h5, U s.h6, U s.h7, U s.h8, U s.h9, U s.h10, U s.h11, U s.h12, U s.h13, U s.h14, U s.h15, B s.b]
abbrev hd0 : List Value := tl 148 [(1, ptr 64 0), (2, .bool false), (3, .bool true), (4, leaf 18), (5, .int .u32 0), (6, .int .i64 0)]
theorem first_run : advB Try.prog 19 [.call 10 [] (.bool true), .call 11 [(.agg #[(leaf 0), (leaf 1), (leaf 2), (leaf 3), (leaf 4), (leaf 5), (leaf 6), (leaf 7), (leaf 8), (leaf 9), (leaf 10), (leaf 11), (leaf 12), (leaf 13), (leaf 14), (leaf 15), (leaf 16), (leaf 17), (leaf 18)])] (.int .i64 0)] 60 64 7 fn6.body 19 ([(.agg #[(leaf 0), (leaf 1), (leaf 2), (leaf 3), (leaf 4), (leaf 5), (leaf 6), (leaf 7), (leaf 8), (leaf 9), (leaf 10), (leaf 11), (leaf 12), (leaf 13), (leaf 14), (leaf 15), (leaf 16), (leaf 17), (leaf 18)])] ++ List.replicate (fn6.ntmps - 1) undef) 64 [] 0 [(leaf 0, leaf 0), (leaf 1, leaf 1), (leaf 2, leaf 2), (leaf 3, leaf 3), (leaf 4, leaf 4), (leaf 5, leaf 5), (leaf 6, leaf 6), (leaf 7, leaf 7), (leaf 8, leaf 8), (leaf 9, leaf 9), (leaf 10, leaf 10), (leaf 11, leaf 11), (leaf 12, leaf 12), (leaf 13, leaf 13), (leaf 14, leaf 14), (leaf 15, leaf 15), (leaf 16, leaf 16), (leaf 17, leaf 17), (leaf 0, leaf 18)] hd0 65 bk [64] = true := by kernel_rfl
theorem first_code : (adv (envF Try.prog 19 [.call 10 [] (.bool true), .call 11 [(.agg #[(leaf 0), (leaf 1), (leaf 2), (leaf 3), (leaf 4), (leaf 5), (leaf 6), (leaf 7), (leaf 8), (leaf 9), (leaf 10), (leaf 11), (leaf 12), (leaf 13), (leaf 14), (leaf 15), (leaf 16), (leaf 17), (leaf 18)])] (.int .i64 0)]) 60 none 7 fn6.body ([(.agg #[(leaf 0), (leaf 1), (leaf 2), (leaf 3), (leaf 4), (leaf 5), (leaf 6), (leaf 7), (leaf 8), (leaf 9), (leaf 10), (leaf 11), (leaf 12), (leaf 13), (leaf 14), (leaf 15), (leaf 16), (leaf 17), (leaf 18)])] ++ List.replicate (fn6.ntmps - 1) undef) (memB 64 [])).map (·.1) = some (.seq (.seq (subc fn6.body [1, 1, 1, 1, 1, 1, 1, 0, 0]) (.block 0 (.loop B1))) (.seq (.seq (subc R6 [0, 0]) (.block 2 (.loop B2))) (subc R6 [1]))) := by kernel_rfl

theorem seg_a {s : S} : TOk (sigOf [U s.p, U s.m, U s.h0, U s.h1, U s.h2, U s.h3, U s.h4, U s.h5, U s.h6, U s.h7, U s.h8, U s.h9, U s.h10, U s.h11, U s.h12, U s.h13, U s.h14, U s.h15, U s.p]) (sigOf (ds1 s s.p 0 0 0)) Try.prog 64 none (subc fn6.body [1, 1, 1, 1, 1, 1, 1, 0, 0]) hd0 (memB 65 bk) .normal hd1 (memB 65 bk) :=
  seg_ok (ds2 := [U s.p, U s.m, U s.h0, U s.h1, U s.h2, U s.h3, U s.h4, U s.h5, U s.h6, U s.h7, U s.h8, U s.h9, U s.h10, U s.h11, U s.h12, U s.h13, U s.h14, U s.h15, U s.p]) (len := 19) (fs := []) (fuel := 60) (pre := 19) (npre := 19) (lm := [(.int .u32 0, leaf 19), (.int .i64 0, leaf 20), (.int .i64 0, leaf 21)]) (ol := [64]) (by kernel_rfl) mixed rfl rfl rfl rfl trivial ⟨vv_nm rfl rfl, vv_nm rfl rfl, vv_nm rfl rfl, trivial⟩
theorem seg_b {s : S} {all met : BitVec 32} : TOk (sigOf (ds2 s all met)) (sigOf (ds2 s all met)) Try.prog 64 none (subc R6 [0, 0]) hdE (memB 65 bk) .normal (hd2 1) (memB 65 bk) :=
  seg_ok (ds2 := ds2 s all met) (len := 20) (fs := []) (fuel := 60) (pre := 20) (npre := 20) (lm := []) (ol := [64]) (by kernel_rfl) mixed rfl rfl rfl rfl trivial trivial
theorem seg_c {s : S} {all met : BitVec 32} (hb : s.b = false) (hw : wk s = false) : TOk (sigOf (ds2 s all met)) (sigOf (ds2 s all met)) Try.prog 64 none (subc R6 [1]) hdE (memB 65 bk) .ret (tl 148 [(2, .bool true)]) (memB 65 []) := by
  have e : s = { s with b := false } := by rw [← hb]
  have hk := wakes_ok hw
  rw [e] at hk
  exact seg_ok (ds2 := ds2 s all met) (len := 20) (fs := [.call 17 [(.agg #[(leaf 0), (leaf 1), (leaf 2), (leaf 3), (leaf 4), (leaf 5), (leaf 6), (leaf 7), (leaf 8), (leaf 9), (leaf 10), (leaf 11), (leaf 12), (leaf 13), (leaf 14), (leaf 15), (leaf 16), (leaf 17), .bool false])] (.bool false)]) (fuel := 60) (pre := 20) (npre := 20) (lm := []) (ol := []) (by kernel_rfl) mixed rfl rfl rfl rfl ⟨⟨rfl, hk⟩, trivial⟩ trivial

theorem pure_ok {s : S} (h : okS s = true) : PureOk Try.prog 6 [V s] (.bool true) := by
  have hs := (okS_iff s).1 h
  have h0 : okS { s with b := false } = true := h
  have I : Inv { s with b := false } { s with b := false } s.p 0 0 0 := by
    refine ⟨h0, rfl, rfl, fun g => rfl, fun i hi hp => hp, fun i hi hm => by simp at hm, fun i h1 h2 => by omega, fun i h1 h2 ha hm => .inl ha, Nat.le_refl _, by decide⟩
  obtain ⟨N, se, mete, F, hR⟩ := rounds1 15 I (by decide)
  have hR2 := rounds2 F 15 1 (by decide) (by decide)
  have hwk : wk se = false := by
    unfold wk
    have : (nx se).sig = 0 := by
      rcases nx_spec F.ok with ⟨g1, _⟩ | ⟨j, g1, g2, g3, g4, _⟩
      · exact g1
      · rw [ready_b F.b j (by omega), F.clr j g2 g3] at g4; cases g4
    rw [this]
    rfl
  have hf : fnOf Try.prog 6 = some fn6 := by kernel_rfl
  have hA := adv_seg (ds := D19 s) (ds2 := D19 s) (ds' := [U s.p, U s.m, U s.h0, U s.h1, U s.h2, U s.h3, U s.h4, U s.h5, U s.h6, U s.h7, U s.h8, U s.h9, U s.h10, U s.h11, U s.h12, U s.h13, U s.h14, U s.h15, U s.p]) (σ' := sigOf (ds2 se s.p mete)) (x := .ret) first_run first_code mixed rfl rfl rfl rfl ⟨⟨rfl, alive_ok⟩, ⟨rfl, check_ok (s := s) h⟩, trivial⟩ ⟨vv_leaf rfl, vv_leaf rfl, vv_leaf rfl, vv_leaf rfl, vv_leaf rfl, vv_leaf rfl, vv_leaf rfl, vv_leaf rfl, vv_leaf rfl, vv_leaf rfl, vv_leaf rfl, vv_leaf rfl, vv_leaf rfl, vv_leaf rfl, vv_leaf rfl, vv_leaf rfl, vv_leaf rfl, vv_leaf rfl, vv_leaf rfl, trivial⟩ (by intro l e; cases e)
    (TOk.seq (TOk.seq seg_a (TOk.block (TOk.loop hR))) (TOk.seq (TOk.seq seg_b (TOk.block (TOk.loop hR2))) (seg_c F.b hwk)))
  have hc := TCall.of_code (n0 := 64) (f := 6) (vs := [.bool true]) hf (.inr rfl) hA (by kernel_rfl)
  exact PureOk.of_t (ds := D19 s) (ds' := ds2 se s.p mete) (fun d h => List.all_eq_true.1 (show (D19 s).all dataB = true from rfl) d h) hc rfl rfl

theorem onceN_0 {s : S} (h0 : okS s = false) : PureOk Try.prog 6 [(V s)] (B true) :=
  pure_of_run (ds := [U s.p, U s.m, U s.h0, U s.h1, U s.h2, U s.h3, U s.h4, U s.h5, U s.h6, U s.h7, U s.h8, U s.h9, U s.h10, U s.h11, U s.h12, U s.h13, U s.h14, U s.h15, B s.b]) (len := 19) (n := 60) (args := [(.agg #[(leaf 0), (leaf 1), (leaf 2), (leaf 3), (leaf 4), (leaf 5), (leaf 6), (leaf 7), (leaf 8), (leaf 9), (leaf 10), (leaf 11), (leaf 12), (leaf 13), (leaf 14), (leaf 15), (leaf 16), (leaf 17), (leaf 18)])]) (v := (.bool true))
    (fs := [.call 10 [] (.bool true), .call 11 [(.agg #[(leaf 0), (leaf 1), (leaf 2), (leaf 3), (leaf 4), (leaf 5), (leaf 6), (leaf 7), (leaf 8), (leaf 9), (leaf 10), (leaf 11), (leaf 12), (leaf 13), (leaf 14), (leaf 15), (leaf 16), (leaf 17), (leaf 18)])] (.int .i64 120)]) mixed rfl rfl (by kernel_rfl)
    (allHold ⟨⟨rfl, alive_ok⟩, ⟨rfl, check_no (s := s) h0⟩, trivial⟩)

theorem pure (s : S) : PureOk Try.prog 6 [V s] (.bool true) := by
  cases h : okS s with
  | true => exact pure_ok h
  | false => exact onceN_0 h

set_option maxRecDepth 100000 in
theorem lifted (os : Os) (started : os.Started) (H : Type) (enc : TypeId × Value → H) :
    ReturnsInHanded {} Try.checked os 6 .any (Rows.signalOnceSpec.pre6 enc Try.prog Try.f6 Rows.signalOnceRow.domain false) (Rows.signalOnceSpec.post enc Try.prog Try.f6 false true false false) := by
  refine returnsInHanded_of_change (C := Try.checked) own started (by kernel_rfl) Try.func6
    (ChangeSpec.witness6 (enc := enc) (C := Try.checked) false ⟨#[], #[V ⟨0, 0, 0, 0, 0, 0, 0, 0, 0, 0, 0, 0, 0, 0, 0, 0, 0, 0, false⟩], []⟩ 8 (by kernel_rfl) (by kernel_rfl) (by kernel_rfl) (by kernel_rfl)) ?_
  intro W base args ds gs before hval0 hW hcnd _
  have hW' := hW
  obtain ⟨p, q, hA0, hV, rfl, hfz, hnd⟩ := hW
  have hA : DataW.TrodAll enc Try.prog W 0 (fun _ => true) true Try.f6.params.toList args.toList ds p := hA0
  have hval := hval0
  rw [Try.params6] at hA hval
  obtain ⟨v0, d0, rfl, rfl, h0⟩ := trodAll_one hA
  obtain ⟨s, rfl, rfl⟩ := sig.open_S h0
  obtain ⟨rfl, rfl⟩ := trodVars_none hV
  refine (sig.PureOk.calls (pure s) W).mono fun e W' ⟨he, bel⟩ => ?_
  subst he
  exact ⟨_, rfl, _, _, _, [], _, [], hW', trodAll_mk1 (shut_bool Try.underlying4 _), by rw [Try.params6]; exact trodAll_mk1 (stays (by kernel_rfl) (of_decide_eq_true (by kernel_rfl)) h0 bel), rfl, bel.frame _, fun h => by cases h⟩

theorem over : Rows.signalOnceRow.holds Try.pinned (OpenSpec.ofChange Rows.signalOnceSpec) :=
  OpenClaim.holds_of_wide 6 Try.f6 rfl rfl rfl rfl rfl rfl rfl ⟨rfl, rfl, rfl, rfl, rfl⟩ rfl rfl rfl rfl rfl (by kernel_rfl) Try.func6 (by kernel_rfl)
    (of_decide_eq_true (by kernel_rfl)) (by unfold Func.isWrapper; first | (rw [if_pos (by decide +kernel)]; kernel_rfl) | (rw [if_neg (by decide +kernel)]; exact ⟨rfl, rfl⟩))
    (fun os started H enc _ => lifted os started H enc)

theorem proved : Rows.SignalOnceSaid := over
#print axioms proved

end Go.Proofs.Ythpncefkklojlaa.signalOnce
