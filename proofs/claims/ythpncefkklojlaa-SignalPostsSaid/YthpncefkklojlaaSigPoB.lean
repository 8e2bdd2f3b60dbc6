/- SignalPosts: the loops by induction; the whole law. -/
import Derived.Test.YthpncefkklojlaaSigPoA
namespace Go.Proofs.Ythpncefkklojlaa.signalPosts
open Go.ChangeShapes Go.WideShapes Go.ChangeAt Go.RowKit Go.Ab
open Go.Proofs.Ythpncefkklojlaa.sig
set_option linter.unusedVariables false
set_option maxRecDepth 10000
noncomputable section

theorem gx_bounds (x : BitVec 8) : 1 ≤ gx x ∧ gx x ≤ 15 := by
  have h1 := x.isLt
  have e : (((x.toNat : Int) : Int).tmod 15) = ((x.toNat % 15 : Nat) : Int) := by rw [Int.tmod_eq_emod_of_nonneg (by omega)]; rfl
  have h2 := Nat.mod_lt x.toNat (show 0 < 15 by decide)
  show 1 ≤ w64 _ ∧ w64 _ ≤ 15
  rw [e, w64_small (by omega) (by omega)]
  omega
/-- What is pending when these are posted. -/
def orB (p : BitVec 32) (xs : List (BitVec 8)) : BitVec 32 := xs.foldl (fun p x => p ||| bx x) p
theorem orB_nil (p : BitVec 32) : orB p [] = p := rfl
theorem orB_cons (p : BitVec 32) (x : BitVec 8) (xs : List (BitVec 8)) : orB p (x :: xs) = orB (p ||| bx x) xs := rfl
theorem orB_bit : ∀ (xs : List (BitVec 8)) (p : BitVec 32) (j : Nat), (orB p xs).getLsbD j = (p.getLsbD j || xs.any fun x => (bx x).getLsbD j)
  | [], p, j => by simp [orB]
  | x :: xs, p, j => by
    have h := orB_bit xs (p ||| bx x) j
    show (orB (p ||| bx x) xs).getLsbD j = _
    rw [h, BitVec.getLsbD_or, List.any_cons, Bool.or_assoc]
theorem orL_bit : ∀ (es : List Int) (p : BitVec 32) (j : Nat), (orL p es).getLsbD j = (p.getLsbD j || es.any fun e => (1#32 <<< (e : Int).toNat).getLsbD j)
  | [], p, j => by simp [orL]
  | e :: es, p, j => by
    have h := orL_bit es (p ||| (1#32 <<< (e : Int).toNat)) j
    show (orL (p ||| (1#32 <<< (e : Int).toNat)) es).getLsbD j = _
    rw [h, BitVec.getLsbD_or, List.any_cons, Bool.or_assoc]
theorem bitsF_bit (m : BitVec 32) (j : Nat) (hj : j < 32) : ∀ (f i : Nat), ((bitsF m f i).any fun e => (1#32 <<< (e : Int).toNat).getLsbD j) = (decide (i ≤ j ∧ j < i + f) && m.getLsbD j)
  | 0, i => by
    have : ¬ (i ≤ j ∧ j < i + 0) := by omega
    rw [decide_eq_false this]
    simp [bitsF]
  | f + 1, i => by
    have h := bitsF_bit m j hj f (i + 1)
    have hk : (((i : Nat) : Int)).toNat = i := by simp
    simp only [bitsF, hk, bit_iff]
    by_cases e : j = i
    · subst e
      have e1 : ¬ (j + 1 ≤ j ∧ j < j + 1 + f) := by omega
      have e2 : j ≤ j ∧ j < j + (f + 1) := by omega
      simp only [e1, decide_false, Bool.false_and] at h
      simp only [e2, and_self, decide_true, Bool.true_and]
      cases hb : m.getLsbD j with
      | true => rw [if_pos rfl, List.any_cons, hk, lsb_bit j j hj]; simp
      | false => rw [if_neg (by simp)]; exact h
    · have e1 : decide (i + 1 ≤ j ∧ j < i + 1 + f) = decide (i ≤ j ∧ j < i + (f + 1)) := decide_eq_decide.2 ⟨fun h => by omega, fun h => by omega⟩
      rw [e1] at h
      split
      · rw [List.any_cons, hk, lsb_bit i j hj, h]
        simp [e]
      · exact h
theorem bitsF_mem (m : BitVec 32) : ∀ (f i : Nat), ∀ e ∈ bitsF m f i, (i : Int) ≤ e ∧ e < ((i + f : Nat) : Int)
  | 0, i, e, h => by simp [bitsF] at h
  | f + 1, i, e, h => by
    simp only [bitsF] at h
    split at h
    · rcases List.mem_cons.1 h with rfl | h
      · omega
      · have := bitsF_mem m f (i + 1) e h
        omega
    · have := bitsF_mem m f (i + 1) e h
      omega
theorem orL_bits {s : S} (h : okS s = true) : orL 0#32 (bitsF s.p 15 1) = s.p := by
  have hs := ((okS_iff s).1 h).1
  apply BitVec.eq_of_getLsbD_eq
  intro j hj
  rw [orL_bit, bitsF_bit s.p j hj]
  cases hb : s.p.getLsbD j with
  | false => simp
  | true =>
    have := hs j hj hb
    have e : 1 ≤ j ∧ j < 1 + 15 := by omega
    simp [e]

theorem rounds1 {xs : List (BitVec 8)} (hl : xs.length ≤ 40) {s : S} : ∀ (r i : Nat) (pa pb : BitVec 32), i + r = xs.length → okS { s with p := pa } = true → okS { s with p := pb } = true →
    okS { s with p := orB pb ((xs.take (xs.length - i)).reverse) } = true ∧ ∃ N, TRounds (sigOf (dsQ s pa pb xs.length i) [tieB xs 64]) (sigOf (dsE s (orB pa (xs.drop i)) (orB pb ((xs.take (xs.length - i)).reverse))) [tieB xs 64]) Try.prog 65 none B1 N hd1 (memB 68 bk) (.exit 0) en (memB 68 bk)
  | 0, i, pa, pb, h1, h2, h3 => by
    have e1 : xs.drop i = [] := List.drop_eq_nil_iff.2 (by omega)
    have e2 : xs.length - i = 0 := by omega
    rw [e1, e2, List.take_zero, List.reverse_nil, orB_nil, orB_nil]
    have he := end1 (s := s) (pa := pa) (pb := pb) (xs := xs) (i := (i : Int)) (decide_eq_false (by omega))
    exact ⟨h3, 1, TRounds.last he Exit.noConfusion⟩
  | r + 1, i, pa, pb, h1, h2, h3 => by
    have hi : i < xs.length := by omega
    have hk : xs.length - (i + 1) < xs.length := by omega
    have hx := gx_bounds (xs.getD i 0)
    have hy := gx_bounds (xs.getD (xs.length - (i + 1)) 0)
    have p1 : okP { s with p := pa } (gx (xs.getD i 0)) = true := (okP_iff _ _).2 ⟨h2, hx⟩
    have p2 : okP { s with p := pb } (gx (xs.getD (xs.length - (i + 1)) 0)) = true := (okP_iff _ _).2 ⟨h3, hy⟩
    have hik : w64 ((w64 ((xs.length : Int) - 1)) - i) = ((xs.length - (i + 1) : Nat) : Int) := by
      rw [w64_small (n := (xs.length : Int) - 1) (by omega) (by omega), w64_small (by omega) (by omega)]
      omega
    have h := round1 (s := s) (pa := pa) (pb := pb) rfl rfl hi hk hik (decide_eq_true (by omega)) p1 p2
    have hw : w64 ((i : Int) + 1) = ((i + 1 : Nat) : Int) := by rw [w64_small (by omega) (by omega)]; rfl
    rw [hw] at h
    have q1 := okS_post (s := { s with p := pa }) p1
    have q2 := okS_post (s := { s with p := pb }) p2
    obtain ⟨q, N, hN⟩ := rounds1 hl (s := s) r (i + 1) (pa ||| bx (xs.getD i 0)) (pb ||| bx (xs.getD (xs.length - (i + 1)) 0)) (by omega) q1 q2
    have hd : xs.drop i = xs.getD i 0 :: xs.drop (i + 1) := by
      rw [List.getD_eq_getElem?_getD, List.getElem?_eq_getElem hi]
      exact List.drop_eq_getElem_cons hi
    have ht : (xs.take (xs.length - i)).reverse = xs.getD (xs.length - (i + 1)) 0 :: (xs.take (xs.length - (i + 1))).reverse := by
      have : xs.length - i = (xs.length - (i + 1)) + 1 := by omega
      rw [this, List.take_add_one, List.getD_eq_getElem?_getD, List.getElem?_eq_getElem hk]
      simp
    rw [hd, ht, orB_cons, orB_cons]
    exact ⟨q, N + 1, TRounds.more h hN⟩

theorem rounds2 {xs : List (BitVec 8)} (hl : xs.length ≤ 40) {s : S} {pa : BitVec 32} : ∀ (r i : Nat) (pb : BitVec 32), i + r = xs.length → okS { s with p := pb } = true →
    ∃ N, TRounds (sigOf (dsQ s pa pb xs.length i) [tieB xs 64]) (sigOf (dsE s pa (orB pb (xs.drop i))) [tieB xs 64]) Try.prog 65 none B2 N hd2 (memB 68 bk) (.exit 2) en (memB 68 bk)
  | 0, i, pb, h1, h3 => by
    have e1 : xs.drop i = [] := List.drop_eq_nil_iff.2 (by omega)
    rw [e1, orB_nil]
    have he := end2 (s := s) (pa := pa) (pb := pb) (xs := xs) (i := (i : Int)) (decide_eq_false (by omega))
    exact ⟨1, TRounds.last he Exit.noConfusion⟩
  | r + 1, i, pb, h1, h3 => by
    have hi : i < xs.length := by omega
    have p1 : okP { s with p := pb } (gx (xs.getD i 0)) = true := (okP_iff _ _).2 ⟨h3, gx_bounds _⟩
    have h := round2 (s := s) (pa := pa) (pb := pb) rfl hi (decide_eq_true (by omega)) p1
    have hw : w64 ((i : Int) + 1) = ((i + 1 : Nat) : Int) := by rw [w64_small (by omega) (by omega)]; rfl
    rw [hw] at h
    have q1 := okS_post (s := { s with p := pb }) p1
    obtain ⟨N, hN⟩ := rounds2 hl (s := s) (pa := pa) r (i + 1) (pb ||| bx (xs.getD i 0)) (by omega) q1
    have hd : xs.drop i = xs.getD i 0 :: xs.drop (i + 1) := by
      rw [List.getD_eq_getElem?_getD, List.getElem?_eq_getElem hi]
      exact List.drop_eq_getElem_cons hi
    rw [hd, orB_cons]
    exact ⟨N + 1, TRounds.more h hN⟩

theorem same_end (p : BitVec 32) (xs : List (BitVec 8)) : orB p xs = orB (orB p xs.reverse) xs := by
  apply BitVec.eq_of_getLsbD_eq
  intro j hj
  rw [orB_bit, orB_bit, orB_bit, List.any_reverse, Bool.or_assoc, Bool.or_self]

theorem callN {s : S} {xs : List (BitVec 8)} (h0 : okS s = false) : TCall (sigOf (dsP0 s) [tieB xs 64]) (sigOf (dsP0 s) [tieB xs 64]) Try.prog 65 7 [(.agg #[(leaf 0), (leaf 1), (leaf 2), (leaf 3), (leaf 4), (leaf 5), (leaf 6), (leaf 7), (leaf 8), (leaf 9), (leaf 10), (leaf 11), (leaf 12), (leaf 13), (leaf 14), (leaf 15), (leaf 16), (leaf 17), (leaf 18)]), .chan (some 1)] m1 (.bool true) (memB 90 [(64, .frz 0)]) := by
  refine TCall.of_code (x := .ret) (t' := tl 127 [(4, .bool true)]) (vs := [.bool true]) body7 (.inr rfl) ?_ (by kernel_rfl)
  exact seg_okX (ds2 := [U s.p, U s.m, U s.h0, U s.h1, U s.h2, U s.h3, U s.h4, U s.h5, U s.h6, U s.h7, U s.h8, U s.h9, U s.h10, U s.h11, U s.h12, U s.h13, U s.h14, U s.h15, B s.b, I xs.length]) (len := 20) (fs := [.call 10 [] (.bool true), .call 11 [(.agg #[(leaf 0), (leaf 1), (leaf 2), (leaf 3), (leaf 4), (leaf 5), (leaf 6), (leaf 7), (leaf 8), (leaf 9), (leaf 10), (leaf 11), (leaf 12), (leaf 13), (leaf 14), (leaf 15), (leaf 16), (leaf 17), (leaf 18)])] (.int .i64 120)]) (fuel := 60) (pre := 19) (npre := 19) (lm := []) (ol := [64]) (tf := [.len 42 0 (leaf 19)]) (xf := []) (ts2 := [tieB xs 64]) (next := 65) (bs := [(64, .frz 0)]) (bs2 := [(64, .frz 0)])
        (by kernel_rfl) mixed rfl rfl rfl rfl ⟨⟨rfl, alive_ok⟩, ⟨rfl, check_no (s := s) h0⟩, trivial⟩ trivial ⟨⟨rfl, by kernel_rfl, _, rfl, rfl⟩, trivial⟩ trivial (step_same rfl rfl) (step_same rfl rfl)

theorem callM {s : S} {xs : List (BitVec 8)} (h0 : okS s = true) (h1 : decide ((40 : Int) < xs.length) = true) : TCall (sigOf (dsP0 s) [tieB xs 64]) (sigOf (dsP0 s) [tieB xs 64]) Try.prog 65 7 [(.agg #[(leaf 0), (leaf 1), (leaf 2), (leaf 3), (leaf 4), (leaf 5), (leaf 6), (leaf 7), (leaf 8), (leaf 9), (leaf 10), (leaf 11), (leaf 12), (leaf 13), (leaf 14), (leaf 15), (leaf 16), (leaf 17), (leaf 18)]), .chan (some 1)] m1 (.bool true) (memB 90 [(64, .frz 0)]) := by
  refine TCall.of_code (x := .ret) (t' := tl 127 [(4, .bool true)]) (vs := [.bool true]) body7 (.inr rfl) ?_ (by kernel_rfl)
  exact seg_okX (ds2 := [U s.p, U s.m, U s.h0, U s.h1, U s.h2, U s.h3, U s.h4, U s.h5, U s.h6, U s.h7, U s.h8, U s.h9, U s.h10, U s.h11, U s.h12, U s.h13, U s.h14, U s.h15, B s.b, I xs.length]) (len := 20) (fs := [.call 10 [] (.bool true), .call 11 [(.agg #[(leaf 0), (leaf 1), (leaf 2), (leaf 3), (leaf 4), (leaf 5), (leaf 6), (leaf 7), (leaf 8), (leaf 9), (leaf 10), (leaf 11), (leaf 12), (leaf 13), (leaf 14), (leaf 15), (leaf 16), (leaf 17), (leaf 18)])] (.int .i64 0), .bin .gtr 3 (leaf 19) (.int .i64 40) (.bool true)]) (fuel := 60) (pre := 19) (npre := 19) (lm := []) (ol := [64]) (tf := [.len 42 0 (leaf 19)]) (xf := []) (ts2 := [tieB xs 64]) (next := 65) (bs := [(64, .frz 0)]) (bs2 := [(64, .frz 0)])
        (by kernel_rfl) mixed rfl rfl rfl rfl ⟨⟨rfl, alive_ok⟩, ⟨rfl, check_ok (s := s) h0⟩, hold_gtr_i rfl rfl h1, trivial⟩ trivial ⟨⟨rfl, by kernel_rfl, _, rfl, rfl⟩, trivial⟩ trivial (step_same rfl rfl) (step_same rfl rfl)

theorem callS {s : S} {xs : List (BitVec 8)} (h0 : okS s = true) (h1 : decide ((40 : Int) < xs.length) = false) : ∃ ds' ts' m', plainL ds'.length 6 (.bool true) = true ∧ TCall (sigOf (dsP0 s) [tieB xs 64]) (sigOf ds' ts') Try.prog 65 7 [(.agg #[(leaf 0), (leaf 1), (leaf 2), (leaf 3), (leaf 4), (leaf 5), (leaf 6), (leaf 7), (leaf 8), (leaf 9), (leaf 10), (leaf 11), (leaf 12), (leaf 13), (leaf 14), (leaf 15), (leaf 16), (leaf 17), (leaf 18)]), .chan (some 1)] m1 (.bool true) m' := by
  have hl : xs.length ≤ 40 := by simp at h1; omega
  obtain ⟨q, N1, hN1⟩ := rounds1 hl (s := s) xs.length 0 s.p s.p (by omega) h0 h0
  rw [List.drop_zero, Nat.sub_zero, List.take_length] at hN1
  rw [Nat.sub_zero, List.take_length] at q
  obtain ⟨N2, hN2⟩ := rounds2 hl (s := s) (pa := orB s.p xs) xs.length 0 (orB s.p xs.reverse) (by omega) q
  rw [List.drop_zero] at hN2
  have he : decide (({ s with p := orB s.p xs } : S) = { s with p := orB (orB s.p xs.reverse) xs }) = true := decide_eq_true (by rw [← same_end])
  have hrest : ∃ ts' m', TOk (sigOf (dsE s (orB s.p xs) (orB (orB s.p xs.reverse) xs)) [tieB xs 64]) (sigOf (dsE s (orB s.p xs) (orB (orB s.p xs.reverse) xs)) ts') Try.prog 65 none R2 en (memB 68 bk) .ret (tl 127 [(4, .bool true)]) m' := by
    have ho := orL_bits h0
    by_cases hb : bitsF s.p 15 1 = []
    · rw [hb] at ho
      have ho : (0#32 : BitVec 32) = s.p := ho
      exact ⟨[tieB xs 64], _, rest0 hb he (decide_eq_true (by rw [ho]))⟩
    · have hz : okS { s with p := 0#32 } = true := by
        have h := (okS_iff s).1 h0
        exact (okS_iff _).2 ⟨fun i hi hb => by simp at hb, h.2⟩
      refine ⟨[tieB xs 64, tieI (bitsF s.p 15 1) 134], _, rest h0 hb ho (fun e he => ?_) hz he⟩
      have := bitsF_mem s.p 15 1 e he
      simp only [isS, Bool.and_eq_true, decide_eq_true_eq]
      omega
  obtain ⟨ts', m', hR⟩ := hrest
  refine ⟨dsE s (orB s.p xs) (orB (orB s.p xs.reverse) xs), ts', m', rfl, TCall.of_code (x := .ret) (t' := tl 127 [(4, .bool true)]) (vs := [.bool true]) body7 (.inr rfl) ?_ (by kernel_rfl)⟩
  refine adv_segX (ds2 := [U s.p, U s.m, U s.h0, U s.h1, U s.h2, U s.h3, U s.h4, U s.h5, U s.h6, U s.h7, U s.h8, U s.h9, U s.h10, U s.h11, U s.h12, U s.h13, U s.h14, U s.h15, B s.b, I xs.length]) (ds' := dsE s s.p s.p) (len := 20) (fs := [.call 10 [] (.bool true), .call 11 [(.agg #[(leaf 0), (leaf 1), (leaf 2), (leaf 3), (leaf 4), (leaf 5), (leaf 6), (leaf 7), (leaf 8), (leaf 9), (leaf 10), (leaf 11), (leaf 12), (leaf 13), (leaf 14), (leaf 15), (leaf 16), (leaf 17), (leaf 18)])] (.int .i64 0), .bin .gtr 3 (leaf 19) (.int .i64 40) (.bool false)]) (fuel := 60) (pre := 19) (npre := 19) (lm := [(leaf 0, leaf 19), (leaf 0, leaf 20)]) (ol := [64, 65, 83, 84]) (tf := [.len 42 0 (leaf 19)]) (xf := []) (ts2 := [tieB xs 64]) (ts' := [tieB xs 64]) (k := 4) (next := 65) (bs := [(64, .frz 0)]) (c' := .seq X1 (.seq X2 R2)) (t2 := en) (next2 := 68) (bs2 := bk)
    (by kernel_rfl) (by kernel_rfl) mixed rfl rfl rfl rfl ⟨⟨rfl, alive_ok⟩, ⟨rfl, check_ok (s := s) h0⟩, hold_gtr_i rfl rfl h1, trivial⟩ ⟨vv_leaf rfl, vv_leaf rfl, trivial⟩ ⟨⟨rfl, by kernel_rfl, _, rfl, rfl⟩, trivial⟩ trivial (step_same rfl rfl) (step_same rfl rfl) (by intro l h; cases h) ?_
  refine TOk.seq (t1 := en) (m1 := memB 68 bk) (σ2 := sigOf (dsE s (orB s.p xs) (orB s.p xs.reverse)) [tieB xs 64]) ?_ (TOk.seq (t1 := en) (m1 := memB 68 bk) (σ2 := sigOf (dsE s (orB s.p xs) (orB (orB s.p xs.reverse) xs)) [tieB xs 64]) ?_ hR)
  · refine adv_segX (ds2 := dsE s s.p s.p ++ [I xs.length]) (ds' := dsQ s s.p s.p xs.length 0) (len := 22) (fs := []) (fuel := 60) (pre := 21) (npre := 22) (lm := [(.int .i64 0, leaf 22)]) (ol := [64, 65, 66, 67]) (tf := [.len 42 0 (leaf 21)]) (xf := []) (ts2 := [tieB xs 64]) (ts' := [tieB xs 64]) (k := 1) (bs := bk) (c' := .block 0 (.loop B1)) (t2 := hd1) (next2 := 68) (bs2 := bk)
      (by kernel_rfl) (by kernel_rfl) mixed rfl rfl rfl rfl trivial ⟨vv_nm rfl rfl, trivial⟩ ⟨⟨rfl, by kernel_rfl, _, rfl, rfl⟩, trivial⟩ trivial (step_same rfl rfl) (step_same rfl rfl) (by intro l h; cases h) ?_
    exact TOk.block (TOk.loop hN1)
  · refine adv_segX (ds2 := dsE s (orB s.p xs) (orB s.p xs.reverse) ++ [I xs.length]) (ds' := dsQ s (orB s.p xs) (orB s.p xs.reverse) xs.length 0) (len := 22) (fs := []) (fuel := 60) (pre := 21) (npre := 22) (lm := [(.int .i64 0, leaf 22)]) (ol := [64, 65, 66, 67]) (tf := [.len 42 0 (leaf 21)]) (xf := []) (ts2 := [tieB xs 64]) (ts' := [tieB xs 64]) (k := 1) (bs := bk) (c' := .block 2 (.loop B2)) (t2 := hd2) (next2 := 68) (bs2 := bk)
      (by kernel_rfl) (by kernel_rfl) mixed rfl rfl rfl rfl trivial ⟨vv_nm rfl rfl, trivial⟩ ⟨⟨rfl, by kernel_rfl, _, rfl, rfl⟩, trivial⟩ trivial (step_same rfl rfl) (step_same rfl rfl) (by intro l h; cases h) ?_
    exact TOk.block (TOk.loop hN2)

/-- The law, of a slice that has a place. -/
theorem call_ok (s : S) (xs : List (BitVec 8)) : ∃ ds' ts' m', plainL ds'.length 6 (.bool true) = true ∧ TCall (sigOf (dsP0 s) [tieB xs 64]) (sigOf ds' ts') Try.prog 65 7 [(.agg #[(leaf 0), (leaf 1), (leaf 2), (leaf 3), (leaf 4), (leaf 5), (leaf 6), (leaf 7), (leaf 8), (leaf 9), (leaf 10), (leaf 11), (leaf 12), (leaf 13), (leaf 14), (leaf 15), (leaf 16), (leaf 17), (leaf 18)]), .chan (some 1)] m1 (.bool true) m' := by
  cases h0 : okS s with
  | false => exact ⟨dsP0 s, [tieB xs 64], _, rfl, callN h0⟩
  | true =>
    cases h1 : decide ((40 : Int) < xs.length) with
    | true => exact ⟨dsP0 s, [tieB xs 64], _, rfl, callM h0 h1⟩
    | false => exact callS h0 h1
end
end Go.Proofs.Ythpncefkklojlaa.signalPosts
