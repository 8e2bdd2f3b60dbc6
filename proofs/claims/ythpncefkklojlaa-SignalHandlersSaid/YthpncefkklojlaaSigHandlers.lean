/- SignalHandlers: whatever the signals, the number and the handler, the law returns true, and the arguments read as they read before. -/
import Derived.Test.YthpncefkklojlaaSigHanC
namespace Go.Proofs.Ythpncefkklojlaa.signalHandlers
open Go.ChangeShapes Go.WideShapes Go.ChangeAt Go.RowKit Go.Ab
open Go.Proofs.Ythpncefkklojlaa.sig
set_option linter.unusedVariables false


theorem only_one {x : S} {k : Nat} (h : okS x = true) (h1 : 1 ≤ k) (h2 : k ≤ 15) (hp : ∀ i, i < 32 → x.p.getLsbD i = decide (i = k)) (hm : x.m = 0#32) (hb : x.b = false) :
    (what x k = 0 → (nx x).sig = 0 ∧ (nx x).wh = 0 ∧ (nx x).to.p = 0#32 ∧ (nx x).to.b = false) ∧
    (what x k ≠ 0 → (nx x).sig = (k : Int) ∧ (nx x).wh = what x k ∧ (nx x).to.p = 0#32 ∧ (nx x).to.b = (what x k == 2)) := by
  have hr : ∀ i, i < 32 → (ready x).getLsbD i = decide (i = k) := fun i hi => by
    rw [ready_bit x i hi, hp i hi, hm, hb]
    simp
  have hz : ∀ q : BitVec 32, (∀ i, i < 32 → q.getLsbD i = (x.p.getLsbD i && !(decide (1 ≤ i ∧ i ≤ k) && (ready x).getLsbD i))) → q = 0#32 := fun q hq => by
    apply BitVec.eq_of_getLsbD_eq
    intro i hi
    rw [hq i hi, hr i hi, hp i hi, BitVec.getLsbD_zero]
    by_cases e : i = k
    · subst e; simp [h1]
    · simp [e]
  rcases nx_spec h with ⟨g1, g2, g3, g4, g5⟩ | ⟨j, g1, g2, g3, g4, g5, g6, g7, g8, g9⟩
  · refine ⟨fun _ => ⟨g1, g2, ?_, g5.trans hb⟩, fun hne => absurd (g3 k h1 h2 (by rw [hr k (by omega)]; simp)) hne⟩
    apply BitVec.eq_of_getLsbD_eq
    intro i hi
    rw [g4 i hi, hr i hi, hp i hi, BitVec.getLsbD_zero]
    by_cases e : i = k
    · subst e; simp [h1, h2]
    · simp [e]
  · rw [hr j (by omega), decide_eq_true_eq] at g4
    subst g4
    refine ⟨fun h0 => absurd h0 g6, fun _ => ⟨g1, g5, hz _ g8, ?_⟩⟩
    rw [g9, hb, Bool.false_or]
theorem nx_to (x : S) : (nx x).to = { x with p := (nx x).to.p, b := (nx x).to.b } := by
  unfold nx
  split <;> rfl
theorem what_of {x : S} {k : Int} {a : BitVec 32} (hg : x.get k = a) (hk : (k == 9) = false) : what x k = if (a == 0#32) && !(k == 12) then 1 else if (a == 0#32) || (a == 1#32) then 0 else 2 := by
  unfold what
  rw [hg, hk, Bool.false_or]
theorem one_bit (k : Nat) (i : Nat) (hi : i < 32) : (0#32 ||| (1#32 <<< ((k : Int)).toNat)).getLsbD i = decide (i = k) := by
  rw [BitVec.getLsbD_or, lsb_bit _ i hi]
  simp
theorem set_back (s : S) (h : okS s = true) : s.h0 = 0#32 ∧ s.h9 = 0#32 := ((okS_iff s).1 h).2.2.2

theorem law1 {s : S} {n : BitVec 8} {at_ : BitVec 32} (h : okS s = true) (hk : (((((n).toNat : Int) : Int).tmod 15) == 0) = true) : PureOk Try.prog 5 [V s, U8 n, U at_] (.bool true) := by
  have hs := (okS_iff s).1 h
  have oh : okH s 1 = true := by simp [okH, h, isS]
  have o2 : okS { s with h1 := at_ } = true := (okS_iff _).2 ⟨hs.1, hs.2.1, hs.2.2.1, hs.2.2.2.1, hs.2.2.2.2⟩
  have oh2 : okH { s with h1 := at_ } 1 = true := by simp [okH, o2, isS]
  have o3 : okS { s with p := 0#32, m := 0#32, h1 := at_, b := false } = true := (okS_iff _).2 ⟨fun i hi hp => by simp at hp, fun i hi hp => by simp at hp, by simp, hs.2.2.2.1, hs.2.2.2.2⟩
  have op : okP { s with p := 0#32, m := 0#32, h1 := at_, b := false } 1 = true := (okP_iff _ _).2 ⟨o3, by decide, by decide⟩
  have o4 : okS { s with p := (0#32 ||| (1#32 <<< (1 : Int).toNat)), m := 0#32, h1 := at_, b := false } = true := by have o := okS_post op; exact o
  have q := only_one (k := 1) o4 (by decide) (by decide) (fun i hi => one_bit 1 i hi) rfl rfl
  have hg : S.get { s with p := (0#32 ||| (1#32 <<< (1 : Int).toNat)), m := 0#32, h1 := at_, b := false } 1 = at_ := rfl
  have hw := what_of hg (by decide)
  have q1 : what { s with p := (0#32 ||| (1#32 <<< (1 : Int).toNat)), m := 0#32, h1 := at_, b := false } (1 : Int) = 0 → _ := q.1
  have q2 : what { s with p := (0#32 ||| (1#32 <<< (1 : Int).toNat)), m := 0#32, h1 := at_, b := false } (1 : Int) ≠ 0 → _ := q.2
  cases a1 : (at_ == 1#32) with
  | true =>
    have a0 : (at_ == 0#32) = false := by rw [eq_of_beq a1]; rfl
    have e : what { s with p := (0#32 ||| (1#32 <<< (1 : Int).toNat)), m := 0#32, h1 := at_, b := false } (1 : Int) = 0 := by rw [hw, a1, a0]; rfl
    obtain ⟨qs, qw, qp, qb⟩ := q1 e
    exact handlers_0 h hk oh oh2 op a1 (by rw [qs]; rfl) (by rw [qw]; rfl) (decide_eq_true (by rw [nx_to, qp, qb]))
  | false =>
    cases a0 : (at_ == 0#32) with
    | true =>
      have e : what { s with p := (0#32 ||| (1#32 <<< (1 : Int).toNat)), m := 0#32, h1 := at_, b := false } (1 : Int) = 1 := by rw [hw, a0]; rfl
      obtain ⟨qs, qw, qp, qb⟩ := q2 (by rw [e]; decide)
      rw [show (((1 : Nat)) : Int) = 1 from rfl] at qs qw qb
      rw [e] at qw qb
      exact handlers_5 h hk oh oh2 op a1 a0 (by rw [qs]; rfl) (by rw [qw]; rfl) (by rw [qw]; rfl) (by rw [qp]; rfl) (by rw [qb]; rfl)
    | false =>
      have e : what { s with p := (0#32 ||| (1#32 <<< (1 : Int).toNat)), m := 0#32, h1 := at_, b := false } (1 : Int) = 2 := by rw [hw, a0, a1]; rfl
      obtain ⟨qs, qw, qp, qb⟩ := q2 (by rw [e]; decide)
      rw [show (((1 : Nat)) : Int) = 1 from rfl] at qs qw qb
      rw [e] at qw qb
      exact handlers_11 h hk oh oh2 op a1 a0 (by rw [qs]; rfl) (by rw [qw]; rfl) (by rw [qw]; rfl) (by rw [qp]; rfl) (by rw [qb]; rfl)
theorem law2 {s : S} {n : BitVec 8} {at_ : BitVec 32} (h : okS s = true) (hk : (((((n).toNat : Int) : Int).tmod 15) == 1) = true) : PureOk Try.prog 5 [V s, U8 n, U at_] (.bool true) := by
  have hs := (okS_iff s).1 h
  have oh : okH s 2 = true := by simp [okH, h, isS]
  have o2 : okS { s with h2 := at_ } = true := (okS_iff _).2 ⟨hs.1, hs.2.1, hs.2.2.1, hs.2.2.2.1, hs.2.2.2.2⟩
  have oh2 : okH { s with h2 := at_ } 2 = true := by simp [okH, o2, isS]
  have o3 : okS { s with p := 0#32, m := 0#32, h2 := at_, b := false } = true := (okS_iff _).2 ⟨fun i hi hp => by simp at hp, fun i hi hp => by simp at hp, by simp, hs.2.2.2.1, hs.2.2.2.2⟩
  have op : okP { s with p := 0#32, m := 0#32, h2 := at_, b := false } 2 = true := (okP_iff _ _).2 ⟨o3, by decide, by decide⟩
  have o4 : okS { s with p := (0#32 ||| (1#32 <<< (2 : Int).toNat)), m := 0#32, h2 := at_, b := false } = true := by have o := okS_post op; exact o
  have q := only_one (k := 2) o4 (by decide) (by decide) (fun i hi => one_bit 2 i hi) rfl rfl
  have hg : S.get { s with p := (0#32 ||| (1#32 <<< (2 : Int).toNat)), m := 0#32, h2 := at_, b := false } 2 = at_ := rfl
  have hw := what_of hg (by decide)
  have q1 : what { s with p := (0#32 ||| (1#32 <<< (2 : Int).toNat)), m := 0#32, h2 := at_, b := false } (2 : Int) = 0 → _ := q.1
  have q2 : what { s with p := (0#32 ||| (1#32 <<< (2 : Int).toNat)), m := 0#32, h2 := at_, b := false } (2 : Int) ≠ 0 → _ := q.2
  cases a1 : (at_ == 1#32) with
  | true =>
    have a0 : (at_ == 0#32) = false := by rw [eq_of_beq a1]; rfl
    have e : what { s with p := (0#32 ||| (1#32 <<< (2 : Int).toNat)), m := 0#32, h2 := at_, b := false } (2 : Int) = 0 := by rw [hw, a1, a0]; rfl
    obtain ⟨qs, qw, qp, qb⟩ := q1 e
    exact handlers_17 h hk oh oh2 op a1 (by rw [qs]; rfl) (by rw [qw]; rfl) (decide_eq_true (by rw [nx_to, qp, qb]))
  | false =>
    cases a0 : (at_ == 0#32) with
    | true =>
      have e : what { s with p := (0#32 ||| (1#32 <<< (2 : Int).toNat)), m := 0#32, h2 := at_, b := false } (2 : Int) = 1 := by rw [hw, a0]; rfl
      obtain ⟨qs, qw, qp, qb⟩ := q2 (by rw [e]; decide)
      rw [show (((2 : Nat)) : Int) = 2 from rfl] at qs qw qb
      rw [e] at qw qb
      exact handlers_22 h hk oh oh2 op a1 a0 (by rw [qs]; rfl) (by rw [qw]; rfl) (by rw [qw]; rfl) (by rw [qp]; rfl) (by rw [qb]; rfl)
    | false =>
      have e : what { s with p := (0#32 ||| (1#32 <<< (2 : Int).toNat)), m := 0#32, h2 := at_, b := false } (2 : Int) = 2 := by rw [hw, a0, a1]; rfl
      obtain ⟨qs, qw, qp, qb⟩ := q2 (by rw [e]; decide)
      rw [show (((2 : Nat)) : Int) = 2 from rfl] at qs qw qb
      rw [e] at qw qb
      exact handlers_28 h hk oh oh2 op a1 a0 (by rw [qs]; rfl) (by rw [qw]; rfl) (by rw [qw]; rfl) (by rw [qp]; rfl) (by rw [qb]; rfl)
theorem law3 {s : S} {n : BitVec 8} {at_ : BitVec 32} (h : okS s = true) (hk : (((((n).toNat : Int) : Int).tmod 15) == 2) = true) : PureOk Try.prog 5 [V s, U8 n, U at_] (.bool true) := by
  have hs := (okS_iff s).1 h
  have oh : okH s 3 = true := by simp [okH, h, isS]
  have o2 : okS { s with h3 := at_ } = true := (okS_iff _).2 ⟨hs.1, hs.2.1, hs.2.2.1, hs.2.2.2.1, hs.2.2.2.2⟩
  have oh2 : okH { s with h3 := at_ } 3 = true := by simp [okH, o2, isS]
  have o3 : okS { s with p := 0#32, m := 0#32, h3 := at_, b := false } = true := (okS_iff _).2 ⟨fun i hi hp => by simp at hp, fun i hi hp => by simp at hp, by simp, hs.2.2.2.1, hs.2.2.2.2⟩
  have op : okP { s with p := 0#32, m := 0#32, h3 := at_, b := false } 3 = true := (okP_iff _ _).2 ⟨o3, by decide, by decide⟩
  have o4 : okS { s with p := (0#32 ||| (1#32 <<< (3 : Int).toNat)), m := 0#32, h3 := at_, b := false } = true := by have o := okS_post op; exact o
  have q := only_one (k := 3) o4 (by decide) (by decide) (fun i hi => one_bit 3 i hi) rfl rfl
  have hg : S.get { s with p := (0#32 ||| (1#32 <<< (3 : Int).toNat)), m := 0#32, h3 := at_, b := false } 3 = at_ := rfl
  have hw := what_of hg (by decide)
  have q1 : what { s with p := (0#32 ||| (1#32 <<< (3 : Int).toNat)), m := 0#32, h3 := at_, b := false } (3 : Int) = 0 → _ := q.1
  have q2 : what { s with p := (0#32 ||| (1#32 <<< (3 : Int).toNat)), m := 0#32, h3 := at_, b := false } (3 : Int) ≠ 0 → _ := q.2
  cases a1 : (at_ == 1#32) with
  | true =>
    have a0 : (at_ == 0#32) = false := by rw [eq_of_beq a1]; rfl
    have e : what { s with p := (0#32 ||| (1#32 <<< (3 : Int).toNat)), m := 0#32, h3 := at_, b := false } (3 : Int) = 0 := by rw [hw, a1, a0]; rfl
    obtain ⟨qs, qw, qp, qb⟩ := q1 e
    exact handlers_34 h hk oh oh2 op a1 (by rw [qs]; rfl) (by rw [qw]; rfl) (decide_eq_true (by rw [nx_to, qp, qb]))
  | false =>
    cases a0 : (at_ == 0#32) with
    | true =>
      have e : what { s with p := (0#32 ||| (1#32 <<< (3 : Int).toNat)), m := 0#32, h3 := at_, b := false } (3 : Int) = 1 := by rw [hw, a0]; rfl
      obtain ⟨qs, qw, qp, qb⟩ := q2 (by rw [e]; decide)
      rw [show (((3 : Nat)) : Int) = 3 from rfl] at qs qw qb
      rw [e] at qw qb
      exact handlers_39 h hk oh oh2 op a1 a0 (by rw [qs]; rfl) (by rw [qw]; rfl) (by rw [qw]; rfl) (by rw [qp]; rfl) (by rw [qb]; rfl)
    | false =>
      have e : what { s with p := (0#32 ||| (1#32 <<< (3 : Int).toNat)), m := 0#32, h3 := at_, b := false } (3 : Int) = 2 := by rw [hw, a0, a1]; rfl
      obtain ⟨qs, qw, qp, qb⟩ := q2 (by rw [e]; decide)
      rw [show (((3 : Nat)) : Int) = 3 from rfl] at qs qw qb
      rw [e] at qw qb
      exact handlers_45 h hk oh oh2 op a1 a0 (by rw [qs]; rfl) (by rw [qw]; rfl) (by rw [qw]; rfl) (by rw [qp]; rfl) (by rw [qb]; rfl)
theorem law4 {s : S} {n : BitVec 8} {at_ : BitVec 32} (h : okS s = true) (hk : (((((n).toNat : Int) : Int).tmod 15) == 3) = true) : PureOk Try.prog 5 [V s, U8 n, U at_] (.bool true) := by
  have hs := (okS_iff s).1 h
  have oh : okH s 4 = true := by simp [okH, h, isS]
  have o2 : okS { s with h4 := at_ } = true := (okS_iff _).2 ⟨hs.1, hs.2.1, hs.2.2.1, hs.2.2.2.1, hs.2.2.2.2⟩
  have oh2 : okH { s with h4 := at_ } 4 = true := by simp [okH, o2, isS]
  have o3 : okS { s with p := 0#32, m := 0#32, h4 := at_, b := false } = true := (okS_iff _).2 ⟨fun i hi hp => by simp at hp, fun i hi hp => by simp at hp, by simp, hs.2.2.2.1, hs.2.2.2.2⟩
  have op : okP { s with p := 0#32, m := 0#32, h4 := at_, b := false } 4 = true := (okP_iff _ _).2 ⟨o3, by decide, by decide⟩
  have o4 : okS { s with p := (0#32 ||| (1#32 <<< (4 : Int).toNat)), m := 0#32, h4 := at_, b := false } = true := by have o := okS_post op; exact o
  have q := only_one (k := 4) o4 (by decide) (by decide) (fun i hi => one_bit 4 i hi) rfl rfl
  have hg : S.get { s with p := (0#32 ||| (1#32 <<< (4 : Int).toNat)), m := 0#32, h4 := at_, b := false } 4 = at_ := rfl
  have hw := what_of hg (by decide)
  have q1 : what { s with p := (0#32 ||| (1#32 <<< (4 : Int).toNat)), m := 0#32, h4 := at_, b := false } (4 : Int) = 0 → _ := q.1
  have q2 : what { s with p := (0#32 ||| (1#32 <<< (4 : Int).toNat)), m := 0#32, h4 := at_, b := false } (4 : Int) ≠ 0 → _ := q.2
  cases a1 : (at_ == 1#32) with
  | true =>
    have a0 : (at_ == 0#32) = false := by rw [eq_of_beq a1]; rfl
    have e : what { s with p := (0#32 ||| (1#32 <<< (4 : Int).toNat)), m := 0#32, h4 := at_, b := false } (4 : Int) = 0 := by rw [hw, a1, a0]; rfl
    obtain ⟨qs, qw, qp, qb⟩ := q1 e
    exact handlers_51 h hk oh oh2 op a1 (by rw [qs]; rfl) (by rw [qw]; rfl) (decide_eq_true (by rw [nx_to, qp, qb]))
  | false =>
    cases a0 : (at_ == 0#32) with
    | true =>
      have e : what { s with p := (0#32 ||| (1#32 <<< (4 : Int).toNat)), m := 0#32, h4 := at_, b := false } (4 : Int) = 1 := by rw [hw, a0]; rfl
      obtain ⟨qs, qw, qp, qb⟩ := q2 (by rw [e]; decide)
      rw [show (((4 : Nat)) : Int) = 4 from rfl] at qs qw qb
      rw [e] at qw qb
      exact handlers_56 h hk oh oh2 op a1 a0 (by rw [qs]; rfl) (by rw [qw]; rfl) (by rw [qw]; rfl) (by rw [qp]; rfl) (by rw [qb]; rfl)
    | false =>
      have e : what { s with p := (0#32 ||| (1#32 <<< (4 : Int).toNat)), m := 0#32, h4 := at_, b := false } (4 : Int) = 2 := by rw [hw, a0, a1]; rfl
      obtain ⟨qs, qw, qp, qb⟩ := q2 (by rw [e]; decide)
      rw [show (((4 : Nat)) : Int) = 4 from rfl] at qs qw qb
      rw [e] at qw qb
      exact handlers_62 h hk oh oh2 op a1 a0 (by rw [qs]; rfl) (by rw [qw]; rfl) (by rw [qw]; rfl) (by rw [qp]; rfl) (by rw [qb]; rfl)
theorem law5 {s : S} {n : BitVec 8} {at_ : BitVec 32} (h : okS s = true) (hk : (((((n).toNat : Int) : Int).tmod 15) == 4) = true) : PureOk Try.prog 5 [V s, U8 n, U at_] (.bool true) := by
  have hs := (okS_iff s).1 h
  have oh : okH s 5 = true := by simp [okH, h, isS]
  have o2 : okS { s with h5 := at_ } = true := (okS_iff _).2 ⟨hs.1, hs.2.1, hs.2.2.1, hs.2.2.2.1, hs.2.2.2.2⟩
  have oh2 : okH { s with h5 := at_ } 5 = true := by simp [okH, o2, isS]
  have o3 : okS { s with p := 0#32, m := 0#32, h5 := at_, b := false } = true := (okS_iff _).2 ⟨fun i hi hp => by simp at hp, fun i hi hp => by simp at hp, by simp, hs.2.2.2.1, hs.2.2.2.2⟩
  have op : okP { s with p := 0#32, m := 0#32, h5 := at_, b := false } 5 = true := (okP_iff _ _).2 ⟨o3, by decide, by decide⟩
  have o4 : okS { s with p := (0#32 ||| (1#32 <<< (5 : Int).toNat)), m := 0#32, h5 := at_, b := false } = true := by have o := okS_post op; exact o
  have q := only_one (k := 5) o4 (by decide) (by decide) (fun i hi => one_bit 5 i hi) rfl rfl
  have hg : S.get { s with p := (0#32 ||| (1#32 <<< (5 : Int).toNat)), m := 0#32, h5 := at_, b := false } 5 = at_ := rfl
  have hw := what_of hg (by decide)
  have q1 : what { s with p := (0#32 ||| (1#32 <<< (5 : Int).toNat)), m := 0#32, h5 := at_, b := false } (5 : Int) = 0 → _ := q.1
  have q2 : what { s with p := (0#32 ||| (1#32 <<< (5 : Int).toNat)), m := 0#32, h5 := at_, b := false } (5 : Int) ≠ 0 → _ := q.2
  cases a1 : (at_ == 1#32) with
  | true =>
    have a0 : (at_ == 0#32) = false := by rw [eq_of_beq a1]; rfl
    have e : what { s with p := (0#32 ||| (1#32 <<< (5 : Int).toNat)), m := 0#32, h5 := at_, b := false } (5 : Int) = 0 := by rw [hw, a1, a0]; rfl
    obtain ⟨qs, qw, qp, qb⟩ := q1 e
    exact handlers_68 h hk oh oh2 op a1 (by rw [qs]; rfl) (by rw [qw]; rfl) (decide_eq_true (by rw [nx_to, qp, qb]))
  | false =>
    cases a0 : (at_ == 0#32) with
    | true =>
      have e : what { s with p := (0#32 ||| (1#32 <<< (5 : Int).toNat)), m := 0#32, h5 := at_, b := false } (5 : Int) = 1 := by rw [hw, a0]; rfl
      obtain ⟨qs, qw, qp, qb⟩ := q2 (by rw [e]; decide)
      rw [show (((5 : Nat)) : Int) = 5 from rfl] at qs qw qb
      rw [e] at qw qb
      exact handlers_73 h hk oh oh2 op a1 a0 (by rw [qs]; rfl) (by rw [qw]; rfl) (by rw [qw]; rfl) (by rw [qp]; rfl) (by rw [qb]; rfl)
    | false =>
      have e : what { s with p := (0#32 ||| (1#32 <<< (5 : Int).toNat)), m := 0#32, h5 := at_, b := false } (5 : Int) = 2 := by rw [hw, a0, a1]; rfl
      obtain ⟨qs, qw, qp, qb⟩ := q2 (by rw [e]; decide)
      rw [show (((5 : Nat)) : Int) = 5 from rfl] at qs qw qb
      rw [e] at qw qb
      exact handlers_79 h hk oh oh2 op a1 a0 (by rw [qs]; rfl) (by rw [qw]; rfl) (by rw [qw]; rfl) (by rw [qp]; rfl) (by rw [qb]; rfl)
theorem law6 {s : S} {n : BitVec 8} {at_ : BitVec 32} (h : okS s = true) (hk : (((((n).toNat : Int) : Int).tmod 15) == 5) = true) : PureOk Try.prog 5 [V s, U8 n, U at_] (.bool true) := by
  have hs := (okS_iff s).1 h
  have oh : okH s 6 = true := by simp [okH, h, isS]
  have o2 : okS { s with h6 := at_ } = true := (okS_iff _).2 ⟨hs.1, hs.2.1, hs.2.2.1, hs.2.2.2.1, hs.2.2.2.2⟩
  have oh2 : okH { s with h6 := at_ } 6 = true := by simp [okH, o2, isS]
  have o3 : okS { s with p := 0#32, m := 0#32, h6 := at_, b := false } = true := (okS_iff _).2 ⟨fun i hi hp => by simp at hp, fun i hi hp => by simp at hp, by simp, hs.2.2.2.1, hs.2.2.2.2⟩
  have op : okP { s with p := 0#32, m := 0#32, h6 := at_, b := false } 6 = true := (okP_iff _ _).2 ⟨o3, by decide, by decide⟩
  have o4 : okS { s with p := (0#32 ||| (1#32 <<< (6 : Int).toNat)), m := 0#32, h6 := at_, b := false } = true := by have o := okS_post op; exact o
  have q := only_one (k := 6) o4 (by decide) (by decide) (fun i hi => one_bit 6 i hi) rfl rfl
  have hg : S.get { s with p := (0#32 ||| (1#32 <<< (6 : Int).toNat)), m := 0#32, h6 := at_, b := false } 6 = at_ := rfl
  have hw := what_of hg (by decide)
  have q1 : what { s with p := (0#32 ||| (1#32 <<< (6 : Int).toNat)), m := 0#32, h6 := at_, b := false } (6 : Int) = 0 → _ := q.1
  have q2 : what { s with p := (0#32 ||| (1#32 <<< (6 : Int).toNat)), m := 0#32, h6 := at_, b := false } (6 : Int) ≠ 0 → _ := q.2
  cases a1 : (at_ == 1#32) with
  | true =>
    have a0 : (at_ == 0#32) = false := by rw [eq_of_beq a1]; rfl
    have e : what { s with p := (0#32 ||| (1#32 <<< (6 : Int).toNat)), m := 0#32, h6 := at_, b := false } (6 : Int) = 0 := by rw [hw, a1, a0]; rfl
    obtain ⟨qs, qw, qp, qb⟩ := q1 e
    exact handlers_85 h hk oh oh2 op a1 (by rw [qs]; rfl) (by rw [qw]; rfl) (decide_eq_true (by rw [nx_to, qp, qb]))
  | false =>
    cases a0 : (at_ == 0#32) with
    | true =>
      have e : what { s with p := (0#32 ||| (1#32 <<< (6 : Int).toNat)), m := 0#32, h6 := at_, b := false } (6 : Int) = 1 := by rw [hw, a0]; rfl
      obtain ⟨qs, qw, qp, qb⟩ := q2 (by rw [e]; decide)
      rw [show (((6 : Nat)) : Int) = 6 from rfl] at qs qw qb
      rw [e] at qw qb
      exact handlers_90 h hk oh oh2 op a1 a0 (by rw [qs]; rfl) (by rw [qw]; rfl) (by rw [qw]; rfl) (by rw [qp]; rfl) (by rw [qb]; rfl)
    | false =>
      have e : what { s with p := (0#32 ||| (1#32 <<< (6 : Int).toNat)), m := 0#32, h6 := at_, b := false } (6 : Int) = 2 := by rw [hw, a0, a1]; rfl
      obtain ⟨qs, qw, qp, qb⟩ := q2 (by rw [e]; decide)
      rw [show (((6 : Nat)) : Int) = 6 from rfl] at qs qw qb
      rw [e] at qw qb
      exact handlers_96 h hk oh oh2 op a1 a0 (by rw [qs]; rfl) (by rw [qw]; rfl) (by rw [qw]; rfl) (by rw [qp]; rfl) (by rw [qb]; rfl)
theorem law7 {s : S} {n : BitVec 8} {at_ : BitVec 32} (h : okS s = true) (hk : (((((n).toNat : Int) : Int).tmod 15) == 6) = true) : PureOk Try.prog 5 [V s, U8 n, U at_] (.bool true) := by
  have hs := (okS_iff s).1 h
  have oh : okH s 7 = true := by simp [okH, h, isS]
  have o2 : okS { s with h7 := at_ } = true := (okS_iff _).2 ⟨hs.1, hs.2.1, hs.2.2.1, hs.2.2.2.1, hs.2.2.2.2⟩
  have oh2 : okH { s with h7 := at_ } 7 = true := by simp [okH, o2, isS]
  have o3 : okS { s with p := 0#32, m := 0#32, h7 := at_, b := false } = true := (okS_iff _).2 ⟨fun i hi hp => by simp at hp, fun i hi hp => by simp at hp, by simp, hs.2.2.2.1, hs.2.2.2.2⟩
  have op : okP { s with p := 0#32, m := 0#32, h7 := at_, b := false } 7 = true := (okP_iff _ _).2 ⟨o3, by decide, by decide⟩
  have o4 : okS { s with p := (0#32 ||| (1#32 <<< (7 : Int).toNat)), m := 0#32, h7 := at_, b := false } = true := by have o := okS_post op; exact o
  have q := only_one (k := 7) o4 (by decide) (by decide) (fun i hi => one_bit 7 i hi) rfl rfl
  have hg : S.get { s with p := (0#32 ||| (1#32 <<< (7 : Int).toNat)), m := 0#32, h7 := at_, b := false } 7 = at_ := rfl
  have hw := what_of hg (by decide)
  have q1 : what { s with p := (0#32 ||| (1#32 <<< (7 : Int).toNat)), m := 0#32, h7 := at_, b := false } (7 : Int) = 0 → _ := q.1
  have q2 : what { s with p := (0#32 ||| (1#32 <<< (7 : Int).toNat)), m := 0#32, h7 := at_, b := false } (7 : Int) ≠ 0 → _ := q.2
  cases a1 : (at_ == 1#32) with
  | true =>
    have a0 : (at_ == 0#32) = false := by rw [eq_of_beq a1]; rfl
    have e : what { s with p := (0#32 ||| (1#32 <<< (7 : Int).toNat)), m := 0#32, h7 := at_, b := false } (7 : Int) = 0 := by rw [hw, a1, a0]; rfl
    obtain ⟨qs, qw, qp, qb⟩ := q1 e
    exact handlers_102 h hk oh oh2 op a1 (by rw [qs]; rfl) (by rw [qw]; rfl) (decide_eq_true (by rw [nx_to, qp, qb]))
  | false =>
    cases a0 : (at_ == 0#32) with
    | true =>
      have e : what { s with p := (0#32 ||| (1#32 <<< (7 : Int).toNat)), m := 0#32, h7 := at_, b := false } (7 : Int) = 1 := by rw [hw, a0]; rfl
      obtain ⟨qs, qw, qp, qb⟩ := q2 (by rw [e]; decide)
      rw [show (((7 : Nat)) : Int) = 7 from rfl] at qs qw qb
      rw [e] at qw qb
      exact handlers_107 h hk oh oh2 op a1 a0 (by rw [qs]; rfl) (by rw [qw]; rfl) (by rw [qw]; rfl) (by rw [qp]; rfl) (by rw [qb]; rfl)
    | false =>
      have e : what { s with p := (0#32 ||| (1#32 <<< (7 : Int).toNat)), m := 0#32, h7 := at_, b := false } (7 : Int) = 2 := by rw [hw, a0, a1]; rfl
      obtain ⟨qs, qw, qp, qb⟩ := q2 (by rw [e]; decide)
      rw [show (((7 : Nat)) : Int) = 7 from rfl] at qs qw qb
      rw [e] at qw qb
      exact handlers_113 h hk oh oh2 op a1 a0 (by rw [qs]; rfl) (by rw [qw]; rfl) (by rw [qw]; rfl) (by rw [qp]; rfl) (by rw [qb]; rfl)
theorem law8 {s : S} {n : BitVec 8} {at_ : BitVec 32} (h : okS s = true) (hk : (((((n).toNat : Int) : Int).tmod 15) == 7) = true) : PureOk Try.prog 5 [V s, U8 n, U at_] (.bool true) := by
  have hs := (okS_iff s).1 h
  have oh : okH s 8 = true := by simp [okH, h, isS]
  have o2 : okS { s with h8 := at_ } = true := (okS_iff _).2 ⟨hs.1, hs.2.1, hs.2.2.1, hs.2.2.2.1, hs.2.2.2.2⟩
  have oh2 : okH { s with h8 := at_ } 8 = true := by simp [okH, o2, isS]
  have o3 : okS { s with p := 0#32, m := 0#32, h8 := at_, b := false } = true := (okS_iff _).2 ⟨fun i hi hp => by simp at hp, fun i hi hp => by simp at hp, by simp, hs.2.2.2.1, hs.2.2.2.2⟩
  have op : okP { s with p := 0#32, m := 0#32, h8 := at_, b := false } 8 = true := (okP_iff _ _).2 ⟨o3, by decide, by decide⟩
  have o4 : okS { s with p := (0#32 ||| (1#32 <<< (8 : Int).toNat)), m := 0#32, h8 := at_, b := false } = true := by have o := okS_post op; exact o
  have q := only_one (k := 8) o4 (by decide) (by decide) (fun i hi => one_bit 8 i hi) rfl rfl
  have hg : S.get { s with p := (0#32 ||| (1#32 <<< (8 : Int).toNat)), m := 0#32, h8 := at_, b := false } 8 = at_ := rfl
  have hw := what_of hg (by decide)
  have q1 : what { s with p := (0#32 ||| (1#32 <<< (8 : Int).toNat)), m := 0#32, h8 := at_, b := false } (8 : Int) = 0 → _ := q.1
  have q2 : what { s with p := (0#32 ||| (1#32 <<< (8 : Int).toNat)), m := 0#32, h8 := at_, b := false } (8 : Int) ≠ 0 → _ := q.2
  cases a1 : (at_ == 1#32) with
  | true =>
    have a0 : (at_ == 0#32) = false := by rw [eq_of_beq a1]; rfl
    have e : what { s with p := (0#32 ||| (1#32 <<< (8 : Int).toNat)), m := 0#32, h8 := at_, b := false } (8 : Int) = 0 := by rw [hw, a1, a0]; rfl
    obtain ⟨qs, qw, qp, qb⟩ := q1 e
    exact handlers_119 h hk oh oh2 op a1 (by rw [qs]; rfl) (by rw [qw]; rfl) (decide_eq_true (by rw [nx_to, qp, qb]))
  | false =>
    cases a0 : (at_ == 0#32) with
    | true =>
      have e : what { s with p := (0#32 ||| (1#32 <<< (8 : Int).toNat)), m := 0#32, h8 := at_, b := false } (8 : Int) = 1 := by rw [hw, a0]; rfl
      obtain ⟨qs, qw, qp, qb⟩ := q2 (by rw [e]; decide)
      rw [show (((8 : Nat)) : Int) = 8 from rfl] at qs qw qb
      rw [e] at qw qb
      exact handlers_124 h hk oh oh2 op a1 a0 (by rw [qs]; rfl) (by rw [qw]; rfl) (by rw [qw]; rfl) (by rw [qp]; rfl) (by rw [qb]; rfl)
    | false =>
      have e : what { s with p := (0#32 ||| (1#32 <<< (8 : Int).toNat)), m := 0#32, h8 := at_, b := false } (8 : Int) = 2 := by rw [hw, a0, a1]; rfl
      obtain ⟨qs, qw, qp, qb⟩ := q2 (by rw [e]; decide)
      rw [show (((8 : Nat)) : Int) = 8 from rfl] at qs qw qb
      rw [e] at qw qb
      exact handlers_130 h hk oh oh2 op a1 a0 (by rw [qs]; rfl) (by rw [qw]; rfl) (by rw [qw]; rfl) (by rw [qp]; rfl) (by rw [qb]; rfl)
theorem law9 {s : S} {n : BitVec 8} {at_ : BitVec 32} (h : okS s = true) (hk : (((((n).toNat : Int) : Int).tmod 15) == 8) = true) : PureOk Try.prog 5 [V s, U8 n, U at_] (.bool true) := handlers_137 h hk (by simp [okH])
theorem law10 {s : S} {n : BitVec 8} {at_ : BitVec 32} (h : okS s = true) (hk : (((((n).toNat : Int) : Int).tmod 15) == 9) = true) : PureOk Try.prog 5 [V s, U8 n, U at_] (.bool true) := by
  have hs := (okS_iff s).1 h
  have oh : okH s 10 = true := by simp [okH, h, isS]
  have o2 : okS { s with h10 := at_ } = true := (okS_iff _).2 ⟨hs.1, hs.2.1, hs.2.2.1, hs.2.2.2.1, hs.2.2.2.2⟩
  have oh2 : okH { s with h10 := at_ } 10 = true := by simp [okH, o2, isS]
  have o3 : okS { s with p := 0#32, m := 0#32, h10 := at_, b := false } = true := (okS_iff _).2 ⟨fun i hi hp => by simp at hp, fun i hi hp => by simp at hp, by simp, hs.2.2.2.1, hs.2.2.2.2⟩
  have op : okP { s with p := 0#32, m := 0#32, h10 := at_, b := false } 10 = true := (okP_iff _ _).2 ⟨o3, by decide, by decide⟩
  have o4 : okS { s with p := (0#32 ||| (1#32 <<< (10 : Int).toNat)), m := 0#32, h10 := at_, b := false } = true := by have o := okS_post op; exact o
  have q := only_one (k := 10) o4 (by decide) (by decide) (fun i hi => one_bit 10 i hi) rfl rfl
  have hg : S.get { s with p := (0#32 ||| (1#32 <<< (10 : Int).toNat)), m := 0#32, h10 := at_, b := false } 10 = at_ := rfl
  have hw := what_of hg (by decide)
  have q1 : what { s with p := (0#32 ||| (1#32 <<< (10 : Int).toNat)), m := 0#32, h10 := at_, b := false } (10 : Int) = 0 → _ := q.1
  have q2 : what { s with p := (0#32 ||| (1#32 <<< (10 : Int).toNat)), m := 0#32, h10 := at_, b := false } (10 : Int) ≠ 0 → _ := q.2
  cases a1 : (at_ == 1#32) with
  | true =>
    have a0 : (at_ == 0#32) = false := by rw [eq_of_beq a1]; rfl
    have e : what { s with p := (0#32 ||| (1#32 <<< (10 : Int).toNat)), m := 0#32, h10 := at_, b := false } (10 : Int) = 0 := by rw [hw, a1, a0]; rfl
    obtain ⟨qs, qw, qp, qb⟩ := q1 e
    exact handlers_138 h hk oh oh2 op a1 (by rw [qs]; rfl) (by rw [qw]; rfl) (decide_eq_true (by rw [nx_to, qp, qb]))
  | false =>
    cases a0 : (at_ == 0#32) with
    | true =>
      have e : what { s with p := (0#32 ||| (1#32 <<< (10 : Int).toNat)), m := 0#32, h10 := at_, b := false } (10 : Int) = 1 := by rw [hw, a0]; rfl
      obtain ⟨qs, qw, qp, qb⟩ := q2 (by rw [e]; decide)
      rw [show (((10 : Nat)) : Int) = 10 from rfl] at qs qw qb
      rw [e] at qw qb
      exact handlers_143 h hk oh oh2 op a1 a0 (by rw [qs]; rfl) (by rw [qw]; rfl) (by rw [qw]; rfl) (by rw [qp]; rfl) (by rw [qb]; rfl)
    | false =>
      have e : what { s with p := (0#32 ||| (1#32 <<< (10 : Int).toNat)), m := 0#32, h10 := at_, b := false } (10 : Int) = 2 := by rw [hw, a0, a1]; rfl
      obtain ⟨qs, qw, qp, qb⟩ := q2 (by rw [e]; decide)
      rw [show (((10 : Nat)) : Int) = 10 from rfl] at qs qw qb
      rw [e] at qw qb
      exact handlers_149 h hk oh oh2 op a1 a0 (by rw [qs]; rfl) (by rw [qw]; rfl) (by rw [qw]; rfl) (by rw [qp]; rfl) (by rw [qb]; rfl)
theorem law11 {s : S} {n : BitVec 8} {at_ : BitVec 32} (h : okS s = true) (hk : (((((n).toNat : Int) : Int).tmod 15) == 10) = true) : PureOk Try.prog 5 [V s, U8 n, U at_] (.bool true) := by
  have hs := (okS_iff s).1 h
  have oh : okH s 11 = true := by simp [okH, h, isS]
  have o2 : okS { s with h11 := at_ } = true := (okS_iff _).2 ⟨hs.1, hs.2.1, hs.2.2.1, hs.2.2.2.1, hs.2.2.2.2⟩
  have oh2 : okH { s with h11 := at_ } 11 = true := by simp [okH, o2, isS]
  have o3 : okS { s with p := 0#32, m := 0#32, h11 := at_, b := false } = true := (okS_iff _).2 ⟨fun i hi hp => by simp at hp, fun i hi hp => by simp at hp, by simp, hs.2.2.2.1, hs.2.2.2.2⟩
  have op : okP { s with p := 0#32, m := 0#32, h11 := at_, b := false } 11 = true := (okP_iff _ _).2 ⟨o3, by decide, by decide⟩
  have o4 : okS { s with p := (0#32 ||| (1#32 <<< (11 : Int).toNat)), m := 0#32, h11 := at_, b := false } = true := by have o := okS_post op; exact o
  have q := only_one (k := 11) o4 (by decide) (by decide) (fun i hi => one_bit 11 i hi) rfl rfl
  have hg : S.get { s with p := (0#32 ||| (1#32 <<< (11 : Int).toNat)), m := 0#32, h11 := at_, b := false } 11 = at_ := rfl
  have hw := what_of hg (by decide)
  have q1 : what { s with p := (0#32 ||| (1#32 <<< (11 : Int).toNat)), m := 0#32, h11 := at_, b := false } (11 : Int) = 0 → _ := q.1
  have q2 : what { s with p := (0#32 ||| (1#32 <<< (11 : Int).toNat)), m := 0#32, h11 := at_, b := false } (11 : Int) ≠ 0 → _ := q.2
  cases a1 : (at_ == 1#32) with
  | true =>
    have a0 : (at_ == 0#32) = false := by rw [eq_of_beq a1]; rfl
    have e : what { s with p := (0#32 ||| (1#32 <<< (11 : Int).toNat)), m := 0#32, h11 := at_, b := false } (11 : Int) = 0 := by rw [hw, a1, a0]; rfl
    obtain ⟨qs, qw, qp, qb⟩ := q1 e
    exact handlers_155 h hk oh oh2 op a1 (by rw [qs]; rfl) (by rw [qw]; rfl) (decide_eq_true (by rw [nx_to, qp, qb]))
  | false =>
    cases a0 : (at_ == 0#32) with
    | true =>
      have e : what { s with p := (0#32 ||| (1#32 <<< (11 : Int).toNat)), m := 0#32, h11 := at_, b := false } (11 : Int) = 1 := by rw [hw, a0]; rfl
      obtain ⟨qs, qw, qp, qb⟩ := q2 (by rw [e]; decide)
      rw [show (((11 : Nat)) : Int) = 11 from rfl] at qs qw qb
      rw [e] at qw qb
      exact handlers_160 h hk oh oh2 op a1 a0 (by rw [qs]; rfl) (by rw [qw]; rfl) (by rw [qw]; rfl) (by rw [qp]; rfl) (by rw [qb]; rfl)
    | false =>
      have e : what { s with p := (0#32 ||| (1#32 <<< (11 : Int).toNat)), m := 0#32, h11 := at_, b := false } (11 : Int) = 2 := by rw [hw, a0, a1]; rfl
      obtain ⟨qs, qw, qp, qb⟩ := q2 (by rw [e]; decide)
      rw [show (((11 : Nat)) : Int) = 11 from rfl] at qs qw qb
      rw [e] at qw qb
      exact handlers_166 h hk oh oh2 op a1 a0 (by rw [qs]; rfl) (by rw [qw]; rfl) (by rw [qw]; rfl) (by rw [qp]; rfl) (by rw [qb]; rfl)
theorem law12 {s : S} {n : BitVec 8} {at_ : BitVec 32} (h : okS s = true) (hk : (((((n).toNat : Int) : Int).tmod 15) == 11) = true) : PureOk Try.prog 5 [V s, U8 n, U at_] (.bool true) := by
  have hs := (okS_iff s).1 h
  have oh : okH s 12 = true := by simp [okH, h, isS]
  have o2 : okS { s with h12 := at_ } = true := (okS_iff _).2 ⟨hs.1, hs.2.1, hs.2.2.1, hs.2.2.2.1, hs.2.2.2.2⟩
  have oh2 : okH { s with h12 := at_ } 12 = true := by simp [okH, o2, isS]
  have o3 : okS { s with p := 0#32, m := 0#32, h12 := at_, b := false } = true := (okS_iff _).2 ⟨fun i hi hp => by simp at hp, fun i hi hp => by simp at hp, by simp, hs.2.2.2.1, hs.2.2.2.2⟩
  have op : okP { s with p := 0#32, m := 0#32, h12 := at_, b := false } 12 = true := (okP_iff _ _).2 ⟨o3, by decide, by decide⟩
  have o4 : okS { s with p := (0#32 ||| (1#32 <<< (12 : Int).toNat)), m := 0#32, h12 := at_, b := false } = true := by have o := okS_post op; exact o
  have q := only_one (k := 12) o4 (by decide) (by decide) (fun i hi => one_bit 12 i hi) rfl rfl
  have hg : S.get { s with p := (0#32 ||| (1#32 <<< (12 : Int).toNat)), m := 0#32, h12 := at_, b := false } 12 = at_ := rfl
  have hw := what_of hg (by decide)
  have q1 : what { s with p := (0#32 ||| (1#32 <<< (12 : Int).toNat)), m := 0#32, h12 := at_, b := false } (12 : Int) = 0 → _ := q.1
  have q2 : what { s with p := (0#32 ||| (1#32 <<< (12 : Int).toNat)), m := 0#32, h12 := at_, b := false } (12 : Int) ≠ 0 → _ := q.2
  cases a1 : (at_ == 1#32) with
  | true =>
    have a0 : (at_ == 0#32) = false := by rw [eq_of_beq a1]; rfl
    have e : what { s with p := (0#32 ||| (1#32 <<< (12 : Int).toNat)), m := 0#32, h12 := at_, b := false } (12 : Int) = 0 := by rw [hw, a1, a0]; rfl
    obtain ⟨qs, qw, qp, qb⟩ := q1 e
    exact handlers_172 h hk oh oh2 op a1 (by rw [qs]; rfl) (by rw [qw]; rfl) (decide_eq_true (by rw [nx_to, qp, qb]))
  | false =>
    cases a0 : (at_ == 0#32) with
    | true =>
      have e : what { s with p := (0#32 ||| (1#32 <<< (12 : Int).toNat)), m := 0#32, h12 := at_, b := false } (12 : Int) = 0 := by rw [hw, a0]; rfl
      obtain ⟨qs, qw, qp, qb⟩ := q1 e
      exact handlers_176 h hk oh oh2 op a1 a0 (by rw [qs]; rfl) (by rw [qw]; rfl) (decide_eq_true (by rw [nx_to, qp, qb]))
    | false =>
      have e : what { s with p := (0#32 ||| (1#32 <<< (12 : Int).toNat)), m := 0#32, h12 := at_, b := false } (12 : Int) = 2 := by rw [hw, a0, a1]; rfl
      obtain ⟨qs, qw, qp, qb⟩ := q2 (by rw [e]; decide)
      rw [show (((12 : Nat)) : Int) = 12 from rfl] at qs qw qb
      rw [e] at qw qb
      exact handlers_181 h hk oh oh2 op a1 a0 (by rw [qs]; rfl) (by rw [qw]; rfl) (by rw [qw]; rfl) (by rw [qp]; rfl) (by rw [qb]; rfl)
theorem law13 {s : S} {n : BitVec 8} {at_ : BitVec 32} (h : okS s = true) (hk : (((((n).toNat : Int) : Int).tmod 15) == 12) = true) : PureOk Try.prog 5 [V s, U8 n, U at_] (.bool true) := by
  have hs := (okS_iff s).1 h
  have oh : okH s 13 = true := by simp [okH, h, isS]
  have o2 : okS { s with h13 := at_ } = true := (okS_iff _).2 ⟨hs.1, hs.2.1, hs.2.2.1, hs.2.2.2.1, hs.2.2.2.2⟩
  have oh2 : okH { s with h13 := at_ } 13 = true := by simp [okH, o2, isS]
  have o3 : okS { s with p := 0#32, m := 0#32, h13 := at_, b := false } = true := (okS_iff _).2 ⟨fun i hi hp => by simp at hp, fun i hi hp => by simp at hp, by simp, hs.2.2.2.1, hs.2.2.2.2⟩
  have op : okP { s with p := 0#32, m := 0#32, h13 := at_, b := false } 13 = true := (okP_iff _ _).2 ⟨o3, by decide, by decide⟩
  have o4 : okS { s with p := (0#32 ||| (1#32 <<< (13 : Int).toNat)), m := 0#32, h13 := at_, b := false } = true := by have o := okS_post op; exact o
  have q := only_one (k := 13) o4 (by decide) (by decide) (fun i hi => one_bit 13 i hi) rfl rfl
  have hg : S.get { s with p := (0#32 ||| (1#32 <<< (13 : Int).toNat)), m := 0#32, h13 := at_, b := false } 13 = at_ := rfl
  have hw := what_of hg (by decide)
  have q1 : what { s with p := (0#32 ||| (1#32 <<< (13 : Int).toNat)), m := 0#32, h13 := at_, b := false } (13 : Int) = 0 → _ := q.1
  have q2 : what { s with p := (0#32 ||| (1#32 <<< (13 : Int).toNat)), m := 0#32, h13 := at_, b := false } (13 : Int) ≠ 0 → _ := q.2
  cases a1 : (at_ == 1#32) with
  | true =>
    have a0 : (at_ == 0#32) = false := by rw [eq_of_beq a1]; rfl
    have e : what { s with p := (0#32 ||| (1#32 <<< (13 : Int).toNat)), m := 0#32, h13 := at_, b := false } (13 : Int) = 0 := by rw [hw, a1, a0]; rfl
    obtain ⟨qs, qw, qp, qb⟩ := q1 e
    exact handlers_187 h hk oh oh2 op a1 (by rw [qs]; rfl) (by rw [qw]; rfl) (decide_eq_true (by rw [nx_to, qp, qb]))
  | false =>
    cases a0 : (at_ == 0#32) with
    | true =>
      have e : what { s with p := (0#32 ||| (1#32 <<< (13 : Int).toNat)), m := 0#32, h13 := at_, b := false } (13 : Int) = 1 := by rw [hw, a0]; rfl
      obtain ⟨qs, qw, qp, qb⟩ := q2 (by rw [e]; decide)
      rw [show (((13 : Nat)) : Int) = 13 from rfl] at qs qw qb
      rw [e] at qw qb
      exact handlers_192 h hk oh oh2 op a1 a0 (by rw [qs]; rfl) (by rw [qw]; rfl) (by rw [qw]; rfl) (by rw [qp]; rfl) (by rw [qb]; rfl)
    | false =>
      have e : what { s with p := (0#32 ||| (1#32 <<< (13 : Int).toNat)), m := 0#32, h13 := at_, b := false } (13 : Int) = 2 := by rw [hw, a0, a1]; rfl
      obtain ⟨qs, qw, qp, qb⟩ := q2 (by rw [e]; decide)
      rw [show (((13 : Nat)) : Int) = 13 from rfl] at qs qw qb
      rw [e] at qw qb
      exact handlers_198 h hk oh oh2 op a1 a0 (by rw [qs]; rfl) (by rw [qw]; rfl) (by rw [qw]; rfl) (by rw [qp]; rfl) (by rw [qb]; rfl)
theorem law14 {s : S} {n : BitVec 8} {at_ : BitVec 32} (h : okS s = true) (hk : (((((n).toNat : Int) : Int).tmod 15) == 13) = true) : PureOk Try.prog 5 [V s, U8 n, U at_] (.bool true) := by
  have hs := (okS_iff s).1 h
  have oh : okH s 14 = true := by simp [okH, h, isS]
  have o2 : okS { s with h14 := at_ } = true := (okS_iff _).2 ⟨hs.1, hs.2.1, hs.2.2.1, hs.2.2.2.1, hs.2.2.2.2⟩
  have oh2 : okH { s with h14 := at_ } 14 = true := by simp [okH, o2, isS]
  have o3 : okS { s with p := 0#32, m := 0#32, h14 := at_, b := false } = true := (okS_iff _).2 ⟨fun i hi hp => by simp at hp, fun i hi hp => by simp at hp, by simp, hs.2.2.2.1, hs.2.2.2.2⟩
  have op : okP { s with p := 0#32, m := 0#32, h14 := at_, b := false } 14 = true := (okP_iff _ _).2 ⟨o3, by decide, by decide⟩
  have o4 : okS { s with p := (0#32 ||| (1#32 <<< (14 : Int).toNat)), m := 0#32, h14 := at_, b := false } = true := by have o := okS_post op; exact o
  have q := only_one (k := 14) o4 (by decide) (by decide) (fun i hi => one_bit 14 i hi) rfl rfl
  have hg : S.get { s with p := (0#32 ||| (1#32 <<< (14 : Int).toNat)), m := 0#32, h14 := at_, b := false } 14 = at_ := rfl
  have hw := what_of hg (by decide)
  have q1 : what { s with p := (0#32 ||| (1#32 <<< (14 : Int).toNat)), m := 0#32, h14 := at_, b := false } (14 : Int) = 0 → _ := q.1
  have q2 : what { s with p := (0#32 ||| (1#32 <<< (14 : Int).toNat)), m := 0#32, h14 := at_, b := false } (14 : Int) ≠ 0 → _ := q.2
  cases a1 : (at_ == 1#32) with
  | true =>
    have a0 : (at_ == 0#32) = false := by rw [eq_of_beq a1]; rfl
    have e : what { s with p := (0#32 ||| (1#32 <<< (14 : Int).toNat)), m := 0#32, h14 := at_, b := false } (14 : Int) = 0 := by rw [hw, a1, a0]; rfl
    obtain ⟨qs, qw, qp, qb⟩ := q1 e
    exact handlers_204 h hk oh oh2 op a1 (by rw [qs]; rfl) (by rw [qw]; rfl) (decide_eq_true (by rw [nx_to, qp, qb]))
  | false =>
    cases a0 : (at_ == 0#32) with
    | true =>
      have e : what { s with p := (0#32 ||| (1#32 <<< (14 : Int).toNat)), m := 0#32, h14 := at_, b := false } (14 : Int) = 1 := by rw [hw, a0]; rfl
      obtain ⟨qs, qw, qp, qb⟩ := q2 (by rw [e]; decide)
      rw [show (((14 : Nat)) : Int) = 14 from rfl] at qs qw qb
      rw [e] at qw qb
      exact handlers_209 h hk oh oh2 op a1 a0 (by rw [qs]; rfl) (by rw [qw]; rfl) (by rw [qw]; rfl) (by rw [qp]; rfl) (by rw [qb]; rfl)
    | false =>
      have e : what { s with p := (0#32 ||| (1#32 <<< (14 : Int).toNat)), m := 0#32, h14 := at_, b := false } (14 : Int) = 2 := by rw [hw, a0, a1]; rfl
      obtain ⟨qs, qw, qp, qb⟩ := q2 (by rw [e]; decide)
      rw [show (((14 : Nat)) : Int) = 14 from rfl] at qs qw qb
      rw [e] at qw qb
      exact handlers_215 h hk oh oh2 op a1 a0 (by rw [qs]; rfl) (by rw [qw]; rfl) (by rw [qw]; rfl) (by rw [qp]; rfl) (by rw [qb]; rfl)
theorem law15 {s : S} {n : BitVec 8} {at_ : BitVec 32} (h : okS s = true) (hk : (((((n).toNat : Int) : Int).tmod 15) == 14) = true) : PureOk Try.prog 5 [V s, U8 n, U at_] (.bool true) := by
  have hs := (okS_iff s).1 h
  have oh : okH s 15 = true := by simp [okH, h, isS]
  have o2 : okS { s with h15 := at_ } = true := (okS_iff _).2 ⟨hs.1, hs.2.1, hs.2.2.1, hs.2.2.2.1, hs.2.2.2.2⟩
  have oh2 : okH { s with h15 := at_ } 15 = true := by simp [okH, o2, isS]
  have o3 : okS { s with p := 0#32, m := 0#32, h15 := at_, b := false } = true := (okS_iff _).2 ⟨fun i hi hp => by simp at hp, fun i hi hp => by simp at hp, by simp, hs.2.2.2.1, hs.2.2.2.2⟩
  have op : okP { s with p := 0#32, m := 0#32, h15 := at_, b := false } 15 = true := (okP_iff _ _).2 ⟨o3, by decide, by decide⟩
  have o4 : okS { s with p := (0#32 ||| (1#32 <<< (15 : Int).toNat)), m := 0#32, h15 := at_, b := false } = true := by have o := okS_post op; exact o
  have q := only_one (k := 15) o4 (by decide) (by decide) (fun i hi => one_bit 15 i hi) rfl rfl
  have hg : S.get { s with p := (0#32 ||| (1#32 <<< (15 : Int).toNat)), m := 0#32, h15 := at_, b := false } 15 = at_ := rfl
  have hw := what_of hg (by decide)
  have q1 : what { s with p := (0#32 ||| (1#32 <<< (15 : Int).toNat)), m := 0#32, h15 := at_, b := false } (15 : Int) = 0 → _ := q.1
  have q2 : what { s with p := (0#32 ||| (1#32 <<< (15 : Int).toNat)), m := 0#32, h15 := at_, b := false } (15 : Int) ≠ 0 → _ := q.2
  cases a1 : (at_ == 1#32) with
  | true =>
    have a0 : (at_ == 0#32) = false := by rw [eq_of_beq a1]; rfl
    have e : what { s with p := (0#32 ||| (1#32 <<< (15 : Int).toNat)), m := 0#32, h15 := at_, b := false } (15 : Int) = 0 := by rw [hw, a1, a0]; rfl
    obtain ⟨qs, qw, qp, qb⟩ := q1 e
    exact handlers_221 h hk oh oh2 op a1 (by rw [qs]; rfl) (by rw [qw]; rfl) (decide_eq_true (by rw [nx_to, qp, qb]))
  | false =>
    cases a0 : (at_ == 0#32) with
    | true =>
      have e : what { s with p := (0#32 ||| (1#32 <<< (15 : Int).toNat)), m := 0#32, h15 := at_, b := false } (15 : Int) = 1 := by rw [hw, a0]; rfl
      obtain ⟨qs, qw, qp, qb⟩ := q2 (by rw [e]; decide)
      rw [show (((15 : Nat)) : Int) = 15 from rfl] at qs qw qb
      rw [e] at qw qb
      exact handlers_226 h hk oh oh2 op a1 a0 (by rw [qs]; rfl) (by rw [qw]; rfl) (by rw [qw]; rfl) (by rw [qp]; rfl) (by rw [qb]; rfl)
    | false =>
      have e : what { s with p := (0#32 ||| (1#32 <<< (15 : Int).toNat)), m := 0#32, h15 := at_, b := false } (15 : Int) = 2 := by rw [hw, a0, a1]; rfl
      obtain ⟨qs, qw, qp, qb⟩ := q2 (by rw [e]; decide)
      rw [show (((15 : Nat)) : Int) = 15 from rfl] at qs qw qb
      rw [e] at qw qb
      exact handlers_232 h hk oh oh2 op a1 a0 (by rw [qs]; rfl) (by rw [qw]; rfl) (by rw [qw]; rfl) (by rw [qp]; rfl) (by rw [qb]; rfl)

theorem pure (s : S) (n : BitVec 8) (at_ : BitVec 32) : PureOk Try.prog 5 [V s, U8 n, U at_] (.bool true) := by
  cases h : okS s with
  | false => exact handlers_238 h
  | true =>
    have h1 : ((n.toNat : Int)).tmod 15 = (n.toNat : Int) % 15 := Int.tmod_eq_emod_of_nonneg (by omega)
    have hb : ((n.toNat : Int)).tmod 15 = 0 ∨ ((n.toNat : Int)).tmod 15 = 1 ∨ ((n.toNat : Int)).tmod 15 = 2 ∨ ((n.toNat : Int)).tmod 15 = 3 ∨ ((n.toNat : Int)).tmod 15 = 4 ∨ ((n.toNat : Int)).tmod 15 = 5 ∨ ((n.toNat : Int)).tmod 15 = 6 ∨ ((n.toNat : Int)).tmod 15 = 7 ∨ ((n.toNat : Int)).tmod 15 = 8 ∨ ((n.toNat : Int)).tmod 15 = 9 ∨ ((n.toNat : Int)).tmod 15 = 10 ∨ ((n.toNat : Int)).tmod 15 = 11 ∨ ((n.toNat : Int)).tmod 15 = 12 ∨ ((n.toNat : Int)).tmod 15 = 13 ∨ ((n.toNat : Int)).tmod 15 = 14 := by omega
    rcases hb with e | e | e | e | e | e | e | e | e | e | e | e | e | e | e
    · exact law1 h (beq_iff_eq.2 e)
    · exact law2 h (beq_iff_eq.2 e)
    · exact law3 h (beq_iff_eq.2 e)
    · exact law4 h (beq_iff_eq.2 e)
    · exact law5 h (beq_iff_eq.2 e)
    · exact law6 h (beq_iff_eq.2 e)
    · exact law7 h (beq_iff_eq.2 e)
    · exact law8 h (beq_iff_eq.2 e)
    · exact law9 h (beq_iff_eq.2 e)
    · exact law10 h (beq_iff_eq.2 e)
    · exact law11 h (beq_iff_eq.2 e)
    · exact law12 h (beq_iff_eq.2 e)
    · exact law13 h (beq_iff_eq.2 e)
    · exact law14 h (beq_iff_eq.2 e)
    · exact law15 h (beq_iff_eq.2 e)

set_option maxRecDepth 100000 in
theorem lifted (os : Os) (started : os.Started) (H : Type) (enc : TypeId × Value → H) :
    ReturnsInHanded {} Try.checked os 5 .any (Rows.signalHandlersSpec.pre6 enc Try.prog Try.f5 Rows.signalHandlersRow.domain false) (Rows.signalHandlersSpec.post enc Try.prog Try.f5 false true false false) := by
  refine returnsInHanded_of_change (C := Try.checked) own started (by kernel_rfl) Try.func5
    (ChangeSpec.witness6 (enc := enc) (C := Try.checked) false ⟨#[], #[V ⟨0, 0, 0, 0, 0, 0, 0, 0, 0, 0, 0, 0, 0, 0, 0, 0, 0, 0, false⟩, U8 0, U 0], []⟩ 8 (by kernel_rfl) (by kernel_rfl) (by kernel_rfl) (by kernel_rfl)) ?_
  intro W base args ds gs before hval0 hW hcnd _
  have hW' := hW
  obtain ⟨p, q, hA0, hV, rfl, hfz, hnd⟩ := hW
  have hA : DataW.TrodAll enc Try.prog W 0 (fun _ => true) true Try.f5.params.toList args.toList ds p := hA0
  have hval := hval0
  rw [Try.params5] at hA hval
  obtain ⟨v0, v1, v2, d0, d1, d2, p0, p1, p2, rfl, rfl, rfl, h0, h1, h2⟩ := trodAll_three hA
  obtain ⟨s, rfl, rfl⟩ := sig.open_S h0
  obtain ⟨n, rfl, rfl⟩ := sig.open_u8 (hval 1 _ _ rfl rfl) h1
  obtain ⟨m, rfl, rfl⟩ := sig.open_u32 (hval 2 _ _ rfl rfl) h2
  obtain ⟨rfl, rfl⟩ := trodVars_none hV
  refine (sig.PureOk.calls (pure s n m) W).mono fun e W' ⟨he, bel⟩ => ?_
  subst he
  exact ⟨_, rfl, _, _, _, [], _, [], hW', trodAll_mk1 (shut_bool Try.underlying4 _), by rw [Try.params5]; exact trodAll_mk3 (stays (by kernel_rfl) (of_decide_eq_true (by kernel_rfl)) h0 bel) (stays (by kernel_rfl) (of_decide_eq_true (by kernel_rfl)) h1 bel) (stays (by kernel_rfl) (of_decide_eq_true (by kernel_rfl)) h2 bel), rfl, bel.frame _, fun h => by cases h⟩

theorem over : Rows.signalHandlersRow.holds Try.pinned (OpenSpec.ofChange Rows.signalHandlersSpec) :=
  OpenClaim.holds_of_wide 5 Try.f5 rfl rfl rfl rfl rfl rfl rfl ⟨rfl, rfl, rfl, rfl, rfl⟩ rfl rfl rfl rfl rfl (by kernel_rfl) Try.func5 (by kernel_rfl)
    (of_decide_eq_true (by kernel_rfl)) (by unfold Func.isWrapper; first | (rw [if_pos (by decide +kernel)]; kernel_rfl) | (rw [if_neg (by decide +kernel)]; exact ⟨rfl, rfl⟩))
    (fun os started H enc _ => lifted os started H enc)

theorem proved : Rows.SignalHandlersSaid := over
#print axioms proved

end Go.Proofs.Ythpncefkklojlaa.signalHandlers
