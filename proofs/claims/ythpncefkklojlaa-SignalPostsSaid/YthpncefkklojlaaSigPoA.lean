/- SignalPosts: the walk: the law's two loops, and what is behind them. -/
import Derived.Test.YthpncefkklojlaaSgP
namespace Go.Proofs.Ythpncefkklojlaa.signalPosts
open Go.ChangeShapes Go.WideShapes Go.ChangeAt Go.RowKit Go.Ab
open Go.Proofs.Ythpncefkklojlaa.sig
set_option linter.unusedVariables false
set_option maxRecDepth 10000
noncomputable section

noncomputable def fn7 : SFunc := (fnOf Try.prog 7).getD ⟨0, [], .skip⟩
theorem body7 : fnOf Try.prog 7 = some fn7 := by kernel_rfl
noncomputable def B1 : SCode := subc fn7.body [1, 1, 1, 1, 0, 1, 0, 0]
noncomputable def B2 : SCode := subc fn7.body [1, 1, 1, 1, 1, 0, 1, 0, 0]
noncomputable def X1 : SCode := subc fn7.body [1, 1, 1, 1, 0]
noncomputable def X2 : SCode := subc fn7.body [1, 1, 1, 1, 1, 0]
noncomputable def R1 : SCode := subc fn7.body [1, 1, 1, 1, 1]
noncomputable def R2 : SCode := subc fn7.body [1, 1, 1, 1, 1, 1]
def tieB (xs : List (BitVec 8)) (b : Nat) : Tie := { L := xs.length, sz := 1, whole := b, cells := xs.map U8 }
abbrev dsE (s : S) (pa pb : BitVec 32) : List Value := [U s.p, U s.m, U s.h0, U s.h1, U s.h2, U s.h3, U s.h4, U s.h5, U s.h6, U s.h7, U s.h8, U s.h9, U s.h10, U s.h11, U s.h12, U s.h13, U s.h14, U s.h15, B s.b, U pa, U pb]
abbrev dsQ (s : S) (pa pb : BitVec 32) (n i : Int) : List Value := [U s.p, U s.m, U s.h0, U s.h1, U s.h2, U s.h3, U s.h4, U s.h5, U s.h6, U s.h7, U s.h8, U s.h9, U s.h10, U s.h11, U s.h12, U s.h13, U s.h14, U s.h15, B s.b, U pa, U pb, I n, I i]
abbrev bk0 : Blocks := [(64, .frz 0), (65, .cells (.ofList [(leaf 0), (leaf 1), (leaf 2), (leaf 3), (leaf 4), (leaf 5), (leaf 6), (leaf 7), (leaf 8), (leaf 9), (leaf 10), (leaf 11), (leaf 12), (leaf 13), (leaf 14), (leaf 15), (leaf 16), (leaf 17), (leaf 18)]) true 0)]
abbrev bk : Blocks := [(64, .frz 0), (65, .cells (.ofList [(leaf 0), (leaf 1), (leaf 2), (leaf 3), (leaf 4), (leaf 5), (leaf 6), (leaf 7), (leaf 8), (leaf 9), (leaf 10), (leaf 11), (leaf 12), (leaf 13), (leaf 14), (leaf 15), (leaf 16), (leaf 17), (leaf 18)]) true 0), (66, .cells (.ofList [(leaf 19), (leaf 1), (leaf 2), (leaf 3), (leaf 4), (leaf 5), (leaf 6), (leaf 7), (leaf 8), (leaf 9), (leaf 10), (leaf 11), (leaf 12), (leaf 13), (leaf 14), (leaf 15), (leaf 16), (leaf 17), (leaf 18)]) true 0), (67, .cells (.ofList [(leaf 20), (leaf 1), (leaf 2), (leaf 3), (leaf 4), (leaf 5), (leaf 6), (leaf 7), (leaf 8), (leaf 9), (leaf 10), (leaf 11), (leaf 12), (leaf 13), (leaf 14), (leaf 15), (leaf 16), (leaf 17), (leaf 18)]) true 0)]
abbrev en : List Value := tl 127 [(1, .chan (some 1)), (2, ptr 65 0), (5, .bool true), (6, ptr 66 0), (7, ptr 67 0)]
abbrev hd1 : List Value := tl 127 [(1, .chan (some 1)), (2, ptr 65 0), (5, .bool true), (6, ptr 66 0), (7, ptr 67 0), (32, leaf 21), (33, leaf 22)]
abbrev hd2 : List Value := tl 127 [(1, .chan (some 1)), (2, ptr 65 0), (5, .bool true), (6, ptr 66 0), (7, ptr 67 0), (62, leaf 21), (63, leaf 22)]
/-- The signal that is posted for a byte. -/
abbrev gx (x : BitVec 8) : Int := w64 (1 + ((((x).toNat : Int) : Int).tmod 15))
abbrev bx (x : BitVec 8) : BitVec 32 := 1#32 <<< ((gx x : Int)).toNat
theorem tieB_at (xs : List (BitVec 8)) (b i : Nat) (hi : i < xs.length) {q : Tie} (hs : q.sz = 1) (hc : q.cells = xs.map U8) : ∀ j, j < q.sz → ([U8 (xs.getD i 0)] : List Value).getD j undef = q.cells.getD (i * q.sz + j) undef := fun j hj => by
  rw [hs] at hj
  have : j = 0 := by omega
  subst this
  simp [hs, hc, hi]
theorem step_el2 {n0 b c i k : Nat} {Φ : List (Nat × Nat)} {q : Tie} (hw : phi n0 (trOf Φ) q.whole = some q.whole) (he : q.elems = []) (hb : phi n0 (trOf Φ) b = some b) (hc : phi n0 (trOf Φ) c = some c) : TieStep n0 Φ [el (el q b i) c k] [el (el q b i) c k] :=
  TieStep.of ⟨⟨rfl, rfl, rfl, rfl, hw, fun e h => ⟨h, by
    have h : e ∈ (c, k) :: (b, i) :: q.elems := h
    rw [he] at h
    simp only [List.mem_cons, List.not_mem_nil, or_false] at h
    rcases h with rfl | rfl
    · exact hc
    · exact hb⟩⟩, trivial⟩
theorem step_le2 {n0 b c i k : Nat} {Φ : List (Nat × Nat)} {q : Tie} (hw : phi n0 (trOf Φ) q.whole = some q.whole) (he : q.elems = []) : TieStep n0 Φ [el (el q b i) c k] [q] :=
  TieStep.of ⟨⟨rfl, rfl, rfl, rfl, hw, fun e h => by rw [he] at h; cases h⟩, trivial⟩

theorem round1 {s : S} {pa pb : BitVec 32} {xs : List (BitVec 8)} {i k : Nat} {x y : BitVec 8} (hx : xs.getD i 0 = x) (hy : xs.getD k 0 = y) (hi : i < xs.length) (hk : k < xs.length) (hik : w64 ((w64 (xs.length - 1)) - i) = (k : Int)) (h0 : decide ((i : Int) < xs.length) = true) (h1 : okP { s with p := pa } (w64 (1 + ((((x).toNat : Int) : Int).tmod 15))) = true) (h2 : okP { s with p := pb } (w64 (1 + ((((y).toNat : Int) : Int).tmod 15))) = true) :
    TOk (sigOf (dsQ s pa pb xs.length i) [tieB xs 64]) (sigOf (dsQ s (pa ||| bx x) (pb ||| bx y) xs.length (w64 (i + 1))) [tieB xs 64]) Try.prog 65 none B1 hd1 (memB 68 bk) .normal hd1 (memB 68 bk) := by
  refine TOk.pre (View.names (x := [U8 x, U8 y, I (w64 (xs.length - 1)), I (w64 ((w64 (xs.length - 1)) - i))])) (TOk.pre (elem_view (ds := (dsQ s pa pb xs.length i ++ [U8 x, U8 y, I (w64 (xs.length - 1)), I (w64 ((w64 (xs.length - 1)) - i))])) (q := tieB xs 64) (jt := 0) (jv := 1) (next := 68) (i := i) (bs := bk) (E := [leaf 23]) (fun d h => List.all_eq_true.1 (show ((dsQ s pa pb xs.length i ++ [U8 x, U8 y, I (w64 (xs.length - 1)), I (w64 ((w64 (xs.length - 1)) - i))]) : List Value).all dataB = true from rfl) d h) (by decide) (by decide) rfl (by kernel_rfl) rfl hi Nat.one_pos (by simp [tieB]) rfl (by kernel_rfl) (fun j hj => by
      rw [← tieB_at xs 64 i hi (q := tieB xs 64) rfl rfl j hj, hx]
      have hj : j < 1 := hj
      have : j = 0 := by omega
      subst this
      rfl)) (TOk.pre (elem_view (ds := (dsQ s pa pb xs.length i ++ [U8 x, U8 y, I (w64 (xs.length - 1)), I (w64 ((w64 (xs.length - 1)) - i))])) (q := el (tieB xs 64) 68 i) (jt := 0) (jv := 1) (next := 69) (i := k) (bs := ((68, .cells (.ofList [leaf 23]) false 1) :: bk)) (E := [leaf 24]) (fun d h => List.all_eq_true.1 (show ((dsQ s pa pb xs.length i ++ [U8 x, U8 y, I (w64 (xs.length - 1)), I (w64 ((w64 (xs.length - 1)) - i))]) : List Value).all dataB = true from rfl) d h) (by decide) (by decide) rfl (by kernel_rfl) rfl hk Nat.one_pos (by simp [tieB]) rfl (by kernel_rfl) (fun j hj => by
      rw [← tieB_at xs 64 k hk (q := el (tieB xs 64) 68 i) rfl rfl j hj, hy]
      have hj : j < 1 := hj
      have : j = 0 := by omega
      subst this
      rfl)) ?_))
  exact seg_okX (ds2 := [U s.p, U s.m, U s.h0, U s.h1, U s.h2, U s.h3, U s.h4, U s.h5, U s.h6, U s.h7, U s.h8, U s.h9, U s.h10, U s.h11, U s.h12, U s.h13, U s.h14, U s.h15, B s.b, U pa, U pb, I xs.length, I i, U8 x, U8 y, I (w64 (xs.length - 1)), I (w64 ((w64 (xs.length - 1)) - i)), I ((x).toNat : Int), I ((((x).toNat : Int) : Int).tmod 15), I (w64 (1 + ((((x).toNat : Int) : Int).tmod 15))), U (pa ||| (1#32 <<< ((w64 (1 + ((((x).toNat : Int) : Int).tmod 15))) : Int).toNat)), I ((y).toNat : Int), I ((((y).toNat : Int) : Int).tmod 15), I (w64 (1 + ((((y).toNat : Int) : Int).tmod 15))), U (pb ||| (1#32 <<< ((w64 (1 + ((((y).toNat : Int) : Int).tmod 15))) : Int).toNat)), I (w64 (i + 1))]) (len := 36) (fs := [.bin .lss 3 (leaf 22) (leaf 21) (.bool true), .conv 5 3 (leaf 23) (leaf 27), .bin .rem 3 (leaf 27) (.int .i64 15) (leaf 28), .bin .add 3 (.int .i64 1) (leaf 28) (leaf 29), .call 20 [(.agg #[(leaf 19), (leaf 1), (leaf 2), (leaf 3), (leaf 4), (leaf 5), (leaf 6), (leaf 7), (leaf 8), (leaf 9), (leaf 10), (leaf 11), (leaf 12), (leaf 13), (leaf 14), (leaf 15), (leaf 16), (leaf 17), (leaf 18)]), (leaf 29)] (.tuple #[(.agg #[(leaf 30), (leaf 1), (leaf 2), (leaf 3), (leaf 4), (leaf 5), (leaf 6), (leaf 7), (leaf 8), (leaf 9), (leaf 10), (leaf 11), (leaf 12), (leaf 13), (leaf 14), (leaf 15), (leaf 16), (leaf 17), (leaf 18)]), (.int .i64 0)]), .bin .sub 3 (leaf 21) (.int .i64 1) (leaf 25), .bin .sub 3 (leaf 25) (leaf 22) (leaf 26), .conv 5 3 (leaf 24) (leaf 31), .bin .rem 3 (leaf 31) (.int .i64 15) (leaf 32), .bin .add 3 (.int .i64 1) (leaf 32) (leaf 33), .call 20 [(.agg #[(leaf 20), (leaf 1), (leaf 2), (leaf 3), (leaf 4), (leaf 5), (leaf 6), (leaf 7), (leaf 8), (leaf 9), (leaf 10), (leaf 11), (leaf 12), (leaf 13), (leaf 14), (leaf 15), (leaf 16), (leaf 17), (leaf 18)]), (leaf 33)] (.tuple #[(.agg #[(leaf 34), (leaf 1), (leaf 2), (leaf 3), (leaf 4), (leaf 5), (leaf 6), (leaf 7), (leaf 8), (leaf 9), (leaf 10), (leaf 11), (leaf 12), (leaf 13), (leaf 14), (leaf 15), (leaf 16), (leaf 17), (leaf 18)]), (.int .i64 0)]), .bin .add 3 (leaf 22) (.int .i64 1) (leaf 35)]) (fuel := 60) (pre := 27) (npre := 19) (lm := [((leaf 21), (leaf 21)), ((leaf 35), (leaf 22)), ((leaf 30), (leaf 19)), ((leaf 34), (leaf 20))]) (ol := [64, 65, 66, 67]) (tf := [.idx 42 0 (leaf 22) 68, .len 42 0 (leaf 21), .idx 42 0 (leaf 26) 69]) (xf := []) (ts2 := [el (el (tieB xs 64) 68 i) 69 k]) (bs := (69, .cells (.ofList [leaf 24]) false 1) :: (68, .cells (.ofList [leaf 23]) false 1) :: bk) (bs2 := bk)
        (by kernel_rfl) mixed rfl rfl rfl rfl ⟨hold_lss_i rfl rfl h0, hold_conv8_i rfl rfl rfl (by kernel_rfl) (fun n => by kernel_rfl), hold_rem_i rfl rfl rfl rfl (by decide), hold_add_i rfl rfl rfl rfl, ⟨rfl, post_ok (s := { s with p := pa }) (g := (w64 (1 + ((((x).toNat : Int) : Int).tmod 15)))) h1⟩, hold_sub_i rfl rfl rfl rfl, hold_sub_i rfl rfl rfl rfl, hold_conv8_i rfl rfl rfl (by kernel_rfl) (fun n => by kernel_rfl), hold_rem_i rfl rfl rfl rfl (by decide), hold_add_i rfl rfl rfl rfl, ⟨rfl, post_ok (s := { s with p := pb }) (g := (w64 (1 + ((((y).toNat : Int) : Int).tmod 15)))) h2⟩, hold_add_i rfl rfl rfl rfl, trivial⟩ ⟨vv_leaf rfl, vv_leaf rfl, vv_leaf rfl, vv_leaf rfl, trivial⟩ ⟨⟨_, 5, i, rfl, hi, List.mem_cons_of_mem _ List.mem_cons_self, rfl, by kernel_rfl, by kernel_rfl⟩, ⟨rfl, by kernel_rfl, _, rfl, rfl⟩, ⟨_, 5, k, rfl, hk, List.mem_cons_self, congrArg (Value.int .i64) hik, by kernel_rfl, by kernel_rfl⟩, trivial⟩ trivial (step_el2 rfl rfl rfl rfl) (step_le2 rfl rfl)

theorem end1 {s : S} {pa pb : BitVec 32} {xs : List (BitVec 8)} {i : Int} (h0 : decide ((i : Int) < xs.length) = false) :
    TOk (sigOf (dsQ s pa pb xs.length i) [tieB xs 64]) (sigOf (dsE s pa pb) [tieB xs 64]) Try.prog 65 none B1 hd1 (memB 68 bk) (.exit 0) en (memB 68 bk) :=
  seg_okX (ds2 := dsQ s pa pb xs.length i) (len := 23) (fs := [.bin .lss 3 (leaf 22) (leaf 21) (.bool false)]) (fuel := 60) (pre := 23) (npre := 21) (lm := []) (ol := [64, 65, 66, 67]) (tf := []) (xf := []) (ts2 := [tieB xs 64]) (bs := bk) (bs2 := bk)
    (by kernel_rfl) mixed rfl rfl rfl rfl ⟨hold_lss_i rfl rfl h0, trivial⟩ trivial trivial trivial (step_same rfl rfl) (step_same rfl rfl)

theorem round2 {s : S} {pa pb : BitVec 32} {xs : List (BitVec 8)} {i : Nat} {x : BitVec 8} (hx : xs.getD i 0 = x) (hi : i < xs.length) (h0 : decide ((i : Int) < xs.length) = true) (h1 : okP { s with p := pb } (w64 (1 + ((((x).toNat : Int) : Int).tmod 15))) = true) :
    TOk (sigOf (dsQ s pa pb xs.length i) [tieB xs 64]) (sigOf (dsQ s pa (pb ||| bx x) xs.length (w64 (i + 1))) [tieB xs 64]) Try.prog 65 none B2 hd2 (memB 68 bk) .normal hd2 (memB 68 bk) := by
  refine TOk.pre (View.names (x := [U8 x])) (TOk.pre (elem_view (ds := (dsQ s pa pb xs.length i ++ [U8 x])) (q := tieB xs 64) (jt := 0) (jv := 1) (next := 68) (i := i) (bs := bk) (E := [leaf 23]) (fun d h => List.all_eq_true.1 (show ((dsQ s pa pb xs.length i ++ [U8 x]) : List Value).all dataB = true from rfl) d h) (by decide) (by decide) rfl (by kernel_rfl) rfl hi Nat.one_pos (by simp [tieB]) rfl (by kernel_rfl) (fun j hj => by
      rw [← tieB_at xs 64 i hi (q := tieB xs 64) rfl rfl j hj, hx]
      have hj : j < 1 := hj
      have : j = 0 := by omega
      subst this
      rfl)) ?_)
  exact seg_okX (ds2 := [U s.p, U s.m, U s.h0, U s.h1, U s.h2, U s.h3, U s.h4, U s.h5, U s.h6, U s.h7, U s.h8, U s.h9, U s.h10, U s.h11, U s.h12, U s.h13, U s.h14, U s.h15, B s.b, U pa, U pb, I xs.length, I i, U8 x, I ((x).toNat : Int), I ((((x).toNat : Int) : Int).tmod 15), I (w64 (1 + ((((x).toNat : Int) : Int).tmod 15))), U (pb ||| (1#32 <<< ((w64 (1 + ((((x).toNat : Int) : Int).tmod 15))) : Int).toNat)), I (w64 (i + 1))]) (len := 29) (fs := [.bin .lss 3 (leaf 22) (leaf 21) (.bool true), .conv 5 3 (leaf 23) (leaf 24), .bin .rem 3 (leaf 24) (.int .i64 15) (leaf 25), .bin .add 3 (.int .i64 1) (leaf 25) (leaf 26), .call 20 [(.agg #[(leaf 20), (leaf 1), (leaf 2), (leaf 3), (leaf 4), (leaf 5), (leaf 6), (leaf 7), (leaf 8), (leaf 9), (leaf 10), (leaf 11), (leaf 12), (leaf 13), (leaf 14), (leaf 15), (leaf 16), (leaf 17), (leaf 18)]), (leaf 26)] (.tuple #[(.agg #[(leaf 27), (leaf 1), (leaf 2), (leaf 3), (leaf 4), (leaf 5), (leaf 6), (leaf 7), (leaf 8), (leaf 9), (leaf 10), (leaf 11), (leaf 12), (leaf 13), (leaf 14), (leaf 15), (leaf 16), (leaf 17), (leaf 18)]), (.int .i64 0)]), .bin .add 3 (leaf 22) (.int .i64 1) (leaf 28)]) (fuel := 60) (pre := 24) (npre := 20) (lm := [((leaf 21), (leaf 21)), ((leaf 28), (leaf 22)), ((leaf 27), (leaf 20))]) (ol := [64, 65, 66, 67]) (tf := [.idx 42 0 (leaf 22) 68, .len 42 0 (leaf 21)]) (xf := []) (ts2 := [el (tieB xs 64) 68 i]) (bs := (68, .cells (.ofList [leaf 23]) false 1) :: bk) (bs2 := bk)
        (by kernel_rfl) mixed rfl rfl rfl rfl ⟨hold_lss_i rfl rfl h0, hold_conv8_i rfl rfl rfl (by kernel_rfl) (fun n => by kernel_rfl), hold_rem_i rfl rfl rfl rfl (by decide), hold_add_i rfl rfl rfl rfl, ⟨rfl, post_ok (s := { s with p := pb }) (g := (w64 (1 + ((((x).toNat : Int) : Int).tmod 15)))) h1⟩, hold_add_i rfl rfl rfl rfl, trivial⟩ ⟨vv_leaf rfl, vv_leaf rfl, vv_leaf rfl, trivial⟩ ⟨⟨_, 5, i, rfl, hi, List.mem_cons_self, rfl, by kernel_rfl, by kernel_rfl⟩, ⟨rfl, by kernel_rfl, _, rfl, rfl⟩, trivial⟩ trivial (step_el rfl rfl rfl) (step_le rfl rfl)

theorem end2 {s : S} {pa pb : BitVec 32} {xs : List (BitVec 8)} {i : Int} (h0 : decide ((i : Int) < xs.length) = false) :
    TOk (sigOf (dsQ s pa pb xs.length i) [tieB xs 64]) (sigOf (dsE s pa pb) [tieB xs 64]) Try.prog 65 none B2 hd2 (memB 68 bk) (.exit 2) en (memB 68 bk) :=
  seg_okX (ds2 := dsQ s pa pb xs.length i) (len := 23) (fs := [.bin .lss 3 (leaf 22) (leaf 21) (.bool false)]) (fuel := 60) (pre := 23) (npre := 21) (lm := []) (ol := [64, 65, 66, 67]) (tf := []) (xf := []) (ts2 := [tieB xs 64]) (bs := bk) (bs2 := bk)
    (by kernel_rfl) mixed rfl rfl rfl rfl ⟨hold_lss_i rfl rfl h0, trivial⟩ trivial trivial trivial (step_same rfl rfl) (step_same rfl rfl)

theorem next_zero {s : S} (hp : s.p = 0#32) : PureOk Try.prog 14 [V s] (.tuple #[I 0, I 0, V s]) := by
  have h := next_ok (s := s)
  have hr : ready s = 0#32 := by
    unfold ready
    rw [hp]
    split <;> simp
  have hsc : scan s 0#32 15 1 0#32 = (0, 0, 0#32) := by
    have : ∀ (f : Nat) (k : Int), scan s 0#32 f k 0#32 = (0, 0, 0#32) := by
      intro f
      induction f with
      | zero => intro k; rfl
      | succ f ih =>
        intro k
        simp only [scan]
        rw [if_neg (by simp)]
        exact ih _
    exact this 15 1
  have e : nx s = ⟨0, 0, s⟩ := by
    unfold nx
    split
    · rw [hr, hp, hsc]
      simp only
      congr 1
      cases s
      simp only at hp
      subst hp
      simp
    · rfl
  rw [e] at h
  exact h

/-- What is behind the loops: with signals pending. -/
theorem rest {s : S} {pa pb : BitVec 32} {xs : List (BitVec 8)} (hs : okS s = true) (hb : bitsF s.p 15 1 ≠ []) (horl : orL 0#32 (bitsF s.p 15 1) = s.p) (hes : ∀ e ∈ bitsF s.p 15 1, isS e = true) (hz : okS { s with p := 0#32 } = true) (h0 : decide ({ s with p := pa } = { s with p := pb }) = true) :
    TOk (sigOf (dsE s pa pb) [tieB xs 64]) (sigOf (dsE s pa pb) [tieB xs 64, tieI (bitsF s.p 15 1) 134]) Try.prog 65 none R2 en (memB 68 bk) .ret (tl 127 [(4, .bool true)]) (memB 135 [(134, .frz 1)]) := by
  obtain ⟨m', hu⟩ := posts_call { s with p := 0#32 } (bitsF s.p 15 1) (Nat.le_trans (bits_len _ _ _) (by decide)) hz hes
  have e : ({ s with p := orL 0#32 (bitsF s.p 15 1) } : S) = s := by rw [horl]
  have hu' : TCall (sigOf (dsP0 { s with p := 0#32 }) [tieI (bitsF s.p 15 1) 64]) (sigOf (dsP0 ({ s with p := orL 0#32 (bitsF s.p 15 1) } : S)) [tieI (bitsF s.p 15 1) 64]) Try.prog 65 13 [(.agg #[(leaf 0), (leaf 1), (leaf 2), (leaf 3), (leaf 4), (leaf 5), (leaf 6), (leaf 7), (leaf 8), (leaf 9), (leaf 10), (leaf 11), (leaf 12), (leaf 13), (leaf 14), (leaf 15), (leaf 16), (leaf 17), (leaf 18)]), .chan (some 1)] m1 (.agg #[(leaf 0), (leaf 1), (leaf 2), (leaf 3), (leaf 4), (leaf 5), (leaf 6), (leaf 7), (leaf 8), (leaf 9), (leaf 10), (leaf 11), (leaf 12), (leaf 13), (leaf 14), (leaf 15), (leaf 16), (leaf 17), (leaf 18)]) m' := hu
  rw [e] at hu'
  have huse : UsesOk Try.prog [U s.p, U s.m, U s.h0, U s.h1, U s.h2, U s.h3, U s.h4, U s.h5, U s.h6, U s.h7, U s.h8, U s.h9, U s.h10, U s.h11, U s.h12, U s.h13, U s.h14, U s.h15, B s.b, U pa, U pb] [tieB xs 64, tieI (bitsF s.p 15 1) 134] 13 ([(.agg #[(.int .u32 0), (leaf 1), (leaf 2), (leaf 3), (leaf 4), (leaf 5), (leaf 6), (leaf 7), (leaf 8), (leaf 9), (leaf 10), (leaf 11), (leaf 12), (leaf 13), (leaf 14), (leaf 15), (leaf 16), (leaf 17), (leaf 18)])] ++ [.chan (some (1 + 1))]) [(1, 134)] (.agg #[(leaf 0), (leaf 1), (leaf 2), (leaf 3), (leaf 4), (leaf 5), (leaf 6), (leaf 7), (leaf 8), (leaf 9), (leaf 10), (leaf 11), (leaf 12), (leaf 13), (leaf 14), (leaf 15), (leaf 16), (leaf 17), (leaf 18)]) :=
    uses_of (ds := dsP0 { s with p := 0#32 }) (args := [(.agg #[(leaf 0), (leaf 1), (leaf 2), (leaf 3), (leaf 4), (leaf 5), (leaf 6), (leaf 7), (leaf 8), (leaf 9), (leaf 10), (leaf 11), (leaf 12), (leaf 13), (leaf 14), (leaf 15), (leaf 16), (leaf 17), (leaf 18)])]) (argsC := [(.agg #[(.int .u32 0), (leaf 1), (leaf 2), (leaf 3), (leaf 4), (leaf 5), (leaf 6), (leaf 7), (leaf 8), (leaf 9), (leaf 10), (leaf 11), (leaf 12), (leaf 13), (leaf 14), (leaf 15), (leaf 16), (leaf 17), (leaf 18)])]) (qc := tieI (bitsF s.p 15 1) 134) hu' rfl (fun d h => List.all_eq_true.1 (show (dsP0 { s with p := 0#32 } : List Value).all dataB = true from rfl) d h) rfl rfl rfl rfl rfl rfl rfl rfl rfl rfl
  exact seg_okX (ds2 := [U s.p, U s.m, U s.h0, U s.h1, U s.h2, U s.h3, U s.h4, U s.h5, U s.h6, U s.h7, U s.h8, U s.h9, U s.h10, U s.h11, U s.h12, U s.h13, U s.h14, U s.h15, B s.b, U pa, U pb]) (len := 21) (fs := [.call 14 [(.agg #[(.int .u32 0), (leaf 1), (leaf 2), (leaf 3), (leaf 4), (leaf 5), (leaf 6), (leaf 7), (leaf 8), (leaf 9), (leaf 10), (leaf 11), (leaf 12), (leaf 13), (leaf 14), (leaf 15), (leaf 16), (leaf 17), (leaf 18)])] (.tuple #[(.int .i64 0), (.int .i64 0), (.agg #[(.int .u32 0), (leaf 1), (leaf 2), (leaf 3), (leaf 4), (leaf 5), (leaf 6), (leaf 7), (leaf 8), (leaf 9), (leaf 10), (leaf 11), (leaf 12), (leaf 13), (leaf 14), (leaf 15), (leaf 16), (leaf 17), (leaf 18)])]), .bin .eql 25 (.agg #[(leaf 19), (leaf 1), (leaf 2), (leaf 3), (leaf 4), (leaf 5), (leaf 6), (leaf 7), (leaf 8), (leaf 9), (leaf 10), (leaf 11), (leaf 12), (leaf 13), (leaf 14), (leaf 15), (leaf 16), (leaf 17), (leaf 18)]) (.agg #[(leaf 20), (leaf 1), (leaf 2), (leaf 3), (leaf 4), (leaf 5), (leaf 6), (leaf 7), (leaf 8), (leaf 9), (leaf 10), (leaf 11), (leaf 12), (leaf 13), (leaf 14), (leaf 15), (leaf 16), (leaf 17), (leaf 18)]) (.bool true), .bin .eql 25 (.agg #[(leaf 0), (leaf 1), (leaf 2), (leaf 3), (leaf 4), (leaf 5), (leaf 6), (leaf 7), (leaf 8), (leaf 9), (leaf 10), (leaf 11), (leaf 12), (leaf 13), (leaf 14), (leaf 15), (leaf 16), (leaf 17), (leaf 18)]) (.agg #[(leaf 0), (leaf 1), (leaf 2), (leaf 3), (leaf 4), (leaf 5), (leaf 6), (leaf 7), (leaf 8), (leaf 9), (leaf 10), (leaf 11), (leaf 12), (leaf 13), (leaf 14), (leaf 15), (leaf 16), (leaf 17), (leaf 18)]) (.bool true), .bin .eql 25 (.agg #[(.int .u32 0), (leaf 1), (leaf 2), (leaf 3), (leaf 4), (leaf 5), (leaf 6), (leaf 7), (leaf 8), (leaf 9), (leaf 10), (leaf 11), (leaf 12), (leaf 13), (leaf 14), (leaf 15), (leaf 16), (leaf 17), (leaf 18)]) (.agg #[(.int .u32 0), (leaf 1), (leaf 2), (leaf 3), (leaf 4), (leaf 5), (leaf 6), (leaf 7), (leaf 8), (leaf 9), (leaf 10), (leaf 11), (leaf 12), (leaf 13), (leaf 14), (leaf 15), (leaf 16), (leaf 17), (leaf 18)]) (.bool true)]) (fuel := 60) (pre := 21) (npre := 21) (lm := []) (ol := [134]) (tf := []) (xf := [.mk 19 [leaf 0] 1 134, .use 13 [(.agg #[(.int .u32 0), (leaf 1), (leaf 2), (leaf 3), (leaf 4), (leaf 5), (leaf 6), (leaf 7), (leaf 8), (leaf 9), (leaf 10), (leaf 11), (leaf 12), (leaf 13), (leaf 14), (leaf 15), (leaf 16), (leaf 17), (leaf 18)]), .chan (some 2)] [(1, 134)] (.agg #[(leaf 0), (leaf 1), (leaf 2), (leaf 3), (leaf 4), (leaf 5), (leaf 6), (leaf 7), (leaf 8), (leaf 9), (leaf 10), (leaf 11), (leaf 12), (leaf 13), (leaf 14), (leaf 15), (leaf 16), (leaf 17), (leaf 18)])]) (ts2 := [tieB xs 64, tieI (bitsF s.p 15 1) 134]) (bs := bk) (bs2 := [(134, .frz 1)])
        (by kernel_rfl) mixed rfl rfl rfl rfl ⟨⟨rfl, next_zero (s := { s with p := 0#32 }) rfl⟩, hold_eql_S (a := { s with p := pa }) (b := { s with p := pb }) rfl rfl h0, hold_eql_S (a := s) (b := s) rfl rfl (decide_eq_true rfl), hold_eql_S (a := { s with p := 0#32 }) (b := { s with p := 0#32 }) rfl rfl (decide_eq_true rfl), trivial⟩ trivial trivial ⟨⟨rfl, _, rfl, rfl, rfl, list_makes s.p 134 hb⟩, ⟨rfl, rfl, huse⟩, trivial⟩ (TieStep.of ⟨⟨rfl, rfl, rfl, rfl, rfl, fun e h => by cases h⟩, trivial⟩) (TieStep.of ⟨⟨rfl, rfl, rfl, rfl, rfl, fun e h => by cases h⟩, ⟨rfl, rfl, rfl, rfl, by kernel_rfl, fun e h => by cases h⟩, trivial⟩)
/-- What is behind the loops: with none pending. -/
theorem rest0 {s : S} {pa pb : BitVec 32} {xs : List (BitVec 8)} (hl : bitsF s.p 15 1 = []) (h0 : decide ({ s with p := pa } = { s with p := pb }) = true) (h1 : decide ({ s with p := 0#32 } = s) = true) :
    TOk (sigOf (dsE s pa pb) [tieB xs 64]) (sigOf (dsE s pa pb) [tieB xs 64]) Try.prog 65 none R2 en (memB 68 bk) .ret (tl 127 [(4, .bool true)]) (memB 135 []) :=
  seg_okX (ds2 := [U s.p, U s.m, U s.h0, U s.h1, U s.h2, U s.h3, U s.h4, U s.h5, U s.h6, U s.h7, U s.h8, U s.h9, U s.h10, U s.h11, U s.h12, U s.h13, U s.h14, U s.h15, B s.b, U pa, U pb]) (len := 21) (fs := [.call 14 [(.agg #[(.int .u32 0), (leaf 1), (leaf 2), (leaf 3), (leaf 4), (leaf 5), (leaf 6), (leaf 7), (leaf 8), (leaf 9), (leaf 10), (leaf 11), (leaf 12), (leaf 13), (leaf 14), (leaf 15), (leaf 16), (leaf 17), (leaf 18)])] (.tuple #[(.int .i64 0), (.int .i64 0), (.agg #[(.int .u32 0), (leaf 1), (leaf 2), (leaf 3), (leaf 4), (leaf 5), (leaf 6), (leaf 7), (leaf 8), (leaf 9), (leaf 10), (leaf 11), (leaf 12), (leaf 13), (leaf 14), (leaf 15), (leaf 16), (leaf 17), (leaf 18)])]), .bin .eql 25 (.agg #[(leaf 19), (leaf 1), (leaf 2), (leaf 3), (leaf 4), (leaf 5), (leaf 6), (leaf 7), (leaf 8), (leaf 9), (leaf 10), (leaf 11), (leaf 12), (leaf 13), (leaf 14), (leaf 15), (leaf 16), (leaf 17), (leaf 18)]) (.agg #[(leaf 20), (leaf 1), (leaf 2), (leaf 3), (leaf 4), (leaf 5), (leaf 6), (leaf 7), (leaf 8), (leaf 9), (leaf 10), (leaf 11), (leaf 12), (leaf 13), (leaf 14), (leaf 15), (leaf 16), (leaf 17), (leaf 18)]) (.bool true), .bin .eql 25 (.agg #[(leaf 0), (leaf 1), (leaf 2), (leaf 3), (leaf 4), (leaf 5), (leaf 6), (leaf 7), (leaf 8), (leaf 9), (leaf 10), (leaf 11), (leaf 12), (leaf 13), (leaf 14), (leaf 15), (leaf 16), (leaf 17), (leaf 18)]) (.agg #[(leaf 0), (leaf 1), (leaf 2), (leaf 3), (leaf 4), (leaf 5), (leaf 6), (leaf 7), (leaf 8), (leaf 9), (leaf 10), (leaf 11), (leaf 12), (leaf 13), (leaf 14), (leaf 15), (leaf 16), (leaf 17), (leaf 18)]) (.bool true), .bin .eql 25 (.agg #[(.int .u32 0), (leaf 1), (leaf 2), (leaf 3), (leaf 4), (leaf 5), (leaf 6), (leaf 7), (leaf 8), (leaf 9), (leaf 10), (leaf 11), (leaf 12), (leaf 13), (leaf 14), (leaf 15), (leaf 16), (leaf 17), (leaf 18)]) (.agg #[(.int .u32 0), (leaf 1), (leaf 2), (leaf 3), (leaf 4), (leaf 5), (leaf 6), (leaf 7), (leaf 8), (leaf 9), (leaf 10), (leaf 11), (leaf 12), (leaf 13), (leaf 14), (leaf 15), (leaf 16), (leaf 17), (leaf 18)]) (.bool true), .call 19 [(leaf 0)] (.slice none 0 0), .bin .eql 25 (.agg #[(.int .u32 0), (leaf 1), (leaf 2), (leaf 3), (leaf 4), (leaf 5), (leaf 6), (leaf 7), (leaf 8), (leaf 9), (leaf 10), (leaf 11), (leaf 12), (leaf 13), (leaf 14), (leaf 15), (leaf 16), (leaf 17), (leaf 18)]) (.agg #[(leaf 0), (leaf 1), (leaf 2), (leaf 3), (leaf 4), (leaf 5), (leaf 6), (leaf 7), (leaf 8), (leaf 9), (leaf 10), (leaf 11), (leaf 12), (leaf 13), (leaf 14), (leaf 15), (leaf 16), (leaf 17), (leaf 18)]) (.bool true)]) (fuel := 60) (pre := 21) (npre := 21) (lm := []) (ol := []) (tf := []) (xf := []) (ts2 := [tieB xs 64]) (bs := bk) (bs2 := [])
        (by kernel_rfl) mixed rfl rfl rfl rfl ⟨⟨rfl, next_zero (s := { s with p := 0#32 }) rfl⟩, hold_eql_S (a := { s with p := pa }) (b := { s with p := pb }) rfl rfl h0, hold_eql_S (a := s) (b := s) rfl rfl (decide_eq_true rfl), hold_eql_S (a := { s with p := 0#32 }) (b := { s with p := 0#32 }) rfl rfl (decide_eq_true rfl), ⟨rfl, list_none _ hl⟩, hold_eql_S (a := { s with p := 0#32 }) (b := s) rfl rfl h1, trivial⟩ trivial trivial trivial (step_same rfl rfl) (step_same rfl rfl)
end
end Go.Proofs.Ythpncefkklojlaa.signalPosts
