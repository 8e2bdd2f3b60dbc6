/- Signals: bits: plain laws. -/
import Derived.Test.YthpncefkklojlaaSgE
namespace Go.Proofs.Ythpncefkklojlaa.sig
open Go.Ab
set_option linter.unusedVariables false

theorem bit_iff (x : BitVec 32) (n : Nat) : (((x >>> n) &&& 1#32) == 1#32) = x.getLsbD n := by
  rw [BitVec.and_one_eq_setWidth_ofBool_getLsbD, BitVec.getLsbD_ushiftRight, Nat.add_zero]
  cases x.getLsbD n <;> rfl
theorem lsb_bit (n i : Nat) (hi : i < 32) : (1#32 <<< n).getLsbD i = decide (i = n) := by
  rw [BitVec.getLsbD_shiftLeft, BitVec.getLsbD_one, Bool.eq_iff_iff]
  simp only [Bool.and_eq_true, decide_eq_true_eq, Bool.not_eq_true', decide_eq_false_iff_not]
  omega
theorem lsb_all (i : Nat) (hi : i < 32) : (65534#32).getLsbD i = (decide (1 ≤ i) && decide (i ≤ 15)) := by
  have : ∀ i : Fin 32, (65534#32).getLsbD i = (decide (1 ≤ i.val) && decide (i.val ≤ 15)) := by decide
  exact this ⟨i, hi⟩
theorem lsb_nine (i : Nat) (hi : i < 32) : (512#32).getLsbD i = decide (i = 9) := by
  have : ∀ i : Fin 32, (512#32).getLsbD i = decide (i.val = 9) := by decide
  exact this ⟨i, hi⟩
theorem sub_iff (x k : BitVec 32) : x &&& ~~~k = 0#32 ↔ ∀ i, i < 32 → x.getLsbD i = true → k.getLsbD i = true := by
  constructor
  · intro h i hi hx
    have := congrArg (·.getLsbD i) h
    simp only [BitVec.getLsbD_and, BitVec.getLsbD_not, hx, hi, decide_true, Bool.true_and, BitVec.getLsbD_zero, Bool.not_eq_false'] at this
    exact this
  · intro h
    apply BitVec.eq_of_getLsbD_eq
    intro i hi
    simp only [BitVec.getLsbD_and, BitVec.getLsbD_not, hi, decide_true, Bool.true_and, BitVec.getLsbD_zero]
    cases hx : x.getLsbD i with
    | false => rfl
    | true => rw [h i hi hx]; rfl

/-- May signals be: by their bits. -/
theorem okS_iff (s : S) : okS s = true ↔ (∀ i, i < 32 → s.p.getLsbD i = true → 1 ≤ i ∧ i ≤ 15) ∧ (∀ i, i < 32 → s.m.getLsbD i = true → 1 ≤ i ∧ i ≤ 15) ∧ s.m.getLsbD 9 = false ∧ s.h0 = 0#32 ∧ s.h9 = 0#32 := by
  unfold okS
  rw [bit_iff]
  simp only [Bool.and_eq_true, beq_iff_eq, Bool.not_eq_true', sub_iff, BitVec.getLsbD_or, Bool.or_eq_true, show (9 : Int).toNat = 9 from rfl]
  have key : ∀ i, i < 32 → ((65534#32).getLsbD i = true ↔ 1 ≤ i ∧ i ≤ 15) := fun i hi => by rw [lsb_all i hi]; simp
  constructor
  · rintro ⟨⟨⟨h1, h2⟩, h3⟩, h4⟩
    exact ⟨fun i hi hp => (key i hi).1 (h1 i hi (.inl hp)), fun i hi hp => (key i hi).1 (h1 i hi (.inr hp)), h2, h3, h4⟩
  · rintro ⟨h1, h1', h2, h3, h4⟩
    exact ⟨⟨⟨fun i hi hp => (key i hi).2 (hp.elim (h1 i hi) (h1' i hi)), h2⟩, h3⟩, h4⟩
theorem okM_iff (s : S) (m : BitVec 32) : okM s m = true ↔ okS s = true ∧ ∀ i, i < 32 → m.getLsbD i = true → 1 ≤ i ∧ i ≤ 15 := by
  unfold okM
  simp only [Bool.and_eq_true, beq_iff_eq, sub_iff]
  have key : ∀ i, i < 32 → ((65534#32).getLsbD i = true ↔ 1 ≤ i ∧ i ≤ 15) := fun i hi => by rw [lsb_all i hi]; simp
  exact ⟨fun h => ⟨h.1, fun i hi hm => (key i hi).1 (h.2 i hi hm)⟩, fun h => ⟨h.1, fun i hi hm => (key i hi).2 (h.2 i hi hm)⟩⟩
theorem okP_iff (s : S) (g : Int) : okP s g = true ↔ okS s = true ∧ 1 ≤ g ∧ g ≤ 15 := by
  simp [okP, isS]
theorem lsb_clear (m : BitVec 32) (i : Nat) (hi : i < 32) : (m &&& ~~~512#32).getLsbD i = (m.getLsbD i && !decide (i = 9)) := by
  rw [BitVec.getLsbD_and, BitVec.getLsbD_not, lsb_nine i hi]
  simp [hi]
theorem clear_same {m : BitVec 32} (h : m.getLsbD 9 = false) : (m &&& ~~~512#32) = m := by
  apply BitVec.eq_of_getLsbD_eq
  intro i hi
  rw [lsb_clear m i hi]
  by_cases e : i = 9
  · subst e; rw [h]; rfl
  · simp [e]
/-- Another mask. -/
theorem okS_mask {s : S} {m : BitVec 32} (h : okM s m = true) : okS { s with m := (m &&& ~~~512#32) } = true := by
  rw [okM_iff, okS_iff] at h
  obtain ⟨⟨h1, h2, h3, h4, h5⟩, h6⟩ := h
  rw [okS_iff]
  refine ⟨h1, fun i hi hm => ?_, ?_, h4, h5⟩
  · rw [lsb_clear m i hi, Bool.and_eq_true] at hm
    exact h6 i hi hm.1
  · rw [lsb_clear m 9 (by decide)]; simp
/-- One more is pending. -/
theorem okS_post {s : S} {g : Int} (h : okP s g = true) : okS { s with p := (s.p ||| (1#32 <<< (g : Int).toNat)) } = true := by
  rw [okP_iff, okS_iff] at h
  obtain ⟨⟨h1, h2, h3, h4, h5⟩, h6, h7⟩ := h
  rw [okS_iff]
  refine ⟨fun i hi hp => ?_, h2, h3, h4, h5⟩
  rw [BitVec.getLsbD_or, lsb_bit _ i hi, Bool.or_eq_true, decide_eq_true_eq] at hp
  rcases hp with hp | hp
  · exact h1 i hi hp
  · omega
end Go.Proofs.Ythpncefkklojlaa.sig
