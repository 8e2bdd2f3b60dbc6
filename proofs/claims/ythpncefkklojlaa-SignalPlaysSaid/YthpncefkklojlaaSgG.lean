/- Signals: what Next tells: plain laws. -/
import Derived.Test.YthpncefkklojlaaSgF
namespace Go.Proofs.Ythpncefkklojlaa.sig
open Go.Ab
set_option linter.unusedVariables false

theorem what_cases (s : S) (g : Int) : what s g = 0 ∨ what s g = 1 ∨ what s g = 2 := by
  unfold what
  split
  · exact .inr (.inl rfl)
  · split
    · exact .inl rfl
    · exact .inr (.inr rfl)
theorem what_nine (s : S) : what s 9 = 1 := by simp [what]

theorem scan_spec (s : S) (r : BitVec 32) : ∀ (f : Nat) (k : Nat) (P : BitVec 32), 1 ≤ k → k + f = 16 →
    ((scan s r f k P).1 = 0 ∧ (scan s r f k P).2.1 = 0 ∧ (∀ i : Nat, k ≤ i → i ≤ 15 → r.getLsbD i = true → what s i = 0) ∧
      ∀ i, i < 32 → (scan s r f k P).2.2.getLsbD i = (P.getLsbD i && !(decide (k ≤ i ∧ i ≤ 15) && r.getLsbD i))) ∨
    (∃ j : Nat, (scan s r f k P).1 = (j : Int) ∧ k ≤ j ∧ j ≤ 15 ∧ r.getLsbD j = true ∧ (scan s r f k P).2.1 = what s j ∧ what s j ≠ 0 ∧ (∀ i : Nat, k ≤ i → i < j → r.getLsbD i = true → what s i = 0) ∧
      ∀ i, i < 32 → (scan s r f k P).2.2.getLsbD i = (P.getLsbD i && !(decide (k ≤ i ∧ i ≤ j) && r.getLsbD i)))
  | 0, k, P, h1, h2 => by
    refine .inl ⟨rfl, rfl, fun i hi hi2 => by omega, fun i hi => ?_⟩
    have : ¬ (k ≤ i ∧ i ≤ 15) := by omega
    simp [scan, this]
  | f + 1, k, P, h1, h2 => by
    have hw : w64 ((k : Int) + 1) = ((k + 1 : Nat) : Int) := by rw [w64_small (by omega) (by omega)]; rfl
    have hk : ((k : Int)).toNat = k := by simp
    have hclr : ∀ i, i < 32 → (P &&& ~~~(1#32 <<< k)).getLsbD i = (P.getLsbD i && !decide (i = k)) := fun i hi => by
      rw [BitVec.getLsbD_and, BitVec.getLsbD_not, lsb_bit _ i hi]; simp [hi]
    simp only [scan, hk, bit_iff, hw]
    cases hb : r.getLsbD k with
    | false =>
      simp only [Bool.false_eq_true, if_false]
      rcases scan_spec s r f (k + 1) P (by omega) (by omega) with ⟨g1, g2, g3, g4⟩ | ⟨j, g1, g2, g3, g4, g5, g6, g7, g8⟩
      · refine .inl ⟨g1, g2, fun i hi hi2 hr => ?_, fun i hi => ?_⟩
        · rcases Nat.eq_or_lt_of_le hi with e | e
          · subst e; rw [hb] at hr; cases hr
          · exact g3 i e hi2 hr
        · rw [g4 i hi]
          by_cases e : i = k
          · subst e; simp [hb]
          · have e1 : decide (k + 1 ≤ i ∧ i ≤ 15) = decide (k ≤ i ∧ i ≤ 15) := decide_eq_decide.2 ⟨fun h => by omega, fun h => by omega⟩
            rw [e1]
      · refine .inr ⟨j, g1, by omega, g3, g4, g5, g6, fun i hi hi2 hr => ?_, fun i hi => ?_⟩
        · rcases Nat.eq_or_lt_of_le hi with e | e
          · subst e; rw [hb] at hr; cases hr
          · exact g7 i e hi2 hr
        · rw [g8 i hi]
          by_cases e : i = k
          · subst e; simp [hb]
          · have e1 : decide (k + 1 ≤ i ∧ i ≤ j) = decide (k ≤ i ∧ i ≤ j) := decide_eq_decide.2 ⟨fun h => by omega, fun h => by omega⟩
            rw [e1]
    | true =>
      simp only [if_true]
      cases hz : (what s (k : Int) == 0) with
      | false =>
        simp only [Bool.false_eq_true, if_false]
        refine .inr ⟨k, rfl, Nat.le_refl _, by omega, hb, rfl, by simpa using hz, fun i hi hi2 => by omega, fun i hi => ?_⟩
        rw [hclr i hi]
        by_cases e : i = k
        · subst e; simp [hb]
        · have : ¬ (k ≤ i ∧ i ≤ k) := by omega
          simp [e, this]
      | true =>
        simp only [if_true]
        have hz' : what s (k : Int) = 0 := by simpa using hz
        rcases scan_spec s r f (k + 1) (P &&& ~~~(1#32 <<< k)) (by omega) (by omega) with ⟨g1, g2, g3, g4⟩ | ⟨j, g1, g2, g3, g4, g5, g6, g7, g8⟩
        · refine .inl ⟨g1, g2, fun i hi hi2 hr => ?_, fun i hi => ?_⟩
          · rcases Nat.eq_or_lt_of_le hi with e | e
            · subst e; exact hz'
            · exact g3 i e hi2 hr
          · rw [g4 i hi, hclr i hi]
            by_cases e : i = k
            · subst e
              have : i ≤ 15 := by omega
              simp [hb, this]
            · have e1 : decide (k + 1 ≤ i ∧ i ≤ 15) = decide (k ≤ i ∧ i ≤ 15) := decide_eq_decide.2 ⟨fun h => by omega, fun h => by omega⟩
              simp [e, e1]
        · refine .inr ⟨j, g1, by omega, g3, g4, g5, g6, fun i hi hi2 hr => ?_, fun i hi => ?_⟩
          · rcases Nat.eq_or_lt_of_le hi with e | e
            · subst e; exact hz'
            · exact g7 i e hi2 hr
          · rw [g8 i hi, hclr i hi]
            by_cases e : i = k
            · subst e
              have : i ≤ j := by omega
              simp [hb, this]
            · have e1 : decide (k + 1 ≤ i ∧ i ≤ j) = decide (k ≤ i ∧ i ≤ j) := decide_eq_decide.2 ⟨fun h => by omega, fun h => by omega⟩
              simp [e, e1]

theorem ready_bit (s : S) (i : Nat) (hi : i < 32) : (ready s).getLsbD i = (s.p.getLsbD i && !s.m.getLsbD i && (!s.b || decide (i = 9))) := by
  unfold ready
  split
  · rename_i h
    rw [BitVec.getLsbD_and, BitVec.getLsbD_and, BitVec.getLsbD_not, lsb_nine i hi, h]
    simp [hi]
  · rename_i h
    rw [BitVec.getLsbD_and, BitVec.getLsbD_not]
    simp [hi, h]

/-- What Next tells of signals that may be. -/
theorem nx_spec {s : S} (h : okS s = true) :
    ((nx s).sig = 0 ∧ (nx s).wh = 0 ∧ (∀ i : Nat, 1 ≤ i → i ≤ 15 → (ready s).getLsbD i = true → what s i = 0) ∧ (∀ i, i < 32 → (nx s).to.p.getLsbD i = (s.p.getLsbD i && !(decide (1 ≤ i ∧ i ≤ 15) && (ready s).getLsbD i))) ∧ (nx s).to.b = s.b) ∨
    (∃ j : Nat, (nx s).sig = (j : Int) ∧ 1 ≤ j ∧ j ≤ 15 ∧ (ready s).getLsbD j = true ∧ (nx s).wh = what s j ∧ what s j ≠ 0 ∧ (∀ i : Nat, 1 ≤ i → i < j → (ready s).getLsbD i = true → what s i = 0) ∧
      (∀ i, i < 32 → (nx s).to.p.getLsbD i = (s.p.getLsbD i && !(decide (1 ≤ i ∧ i ≤ j) && (ready s).getLsbD i))) ∧ (nx s).to.b = (s.b || (what s j == 2))) := by
  have e : nx s = ⟨(scan s (ready s) 15 1 s.p).1, (scan s (ready s) 15 1 s.p).2.1, { s with p := (scan s (ready s) 15 1 s.p).2.2, b := s.b || ((scan s (ready s) 15 1 s.p).2.1 == 2) }⟩ := by unfold nx; rw [if_pos h]
  rw [e]
  rcases scan_spec s (ready s) 15 1 s.p (by decide) (by decide) with ⟨g1, g2, g3, g4⟩ | ⟨j, g1, g2, g3, g4, g5, g6, g7, g8⟩
  · refine .inl ⟨g1, g2, g3, g4, ?_⟩
    show (s.b || _) = _
    have g2 : (scan s (ready s) 15 1 s.p).2.1 = 0 := g2
    rw [g2]; simp
  · refine .inr ⟨j, g1, g2, g3, g4, g5, g6, g7, g8, ?_⟩
    show (s.b || _) = _
    have g5 : (scan s (ready s) 15 1 s.p).2.1 = what s j := g5
    rw [g5]
theorem nx_same (s : S) : (nx s).to.m = s.m ∧ ∀ g, (nx s).to.get g = s.get g := by
  unfold nx
  split
  · exact ⟨rfl, fun g => rfl⟩
  · exact ⟨rfl, fun g => rfl⟩
end Go.Proofs.Ythpncefkklojlaa.sig
