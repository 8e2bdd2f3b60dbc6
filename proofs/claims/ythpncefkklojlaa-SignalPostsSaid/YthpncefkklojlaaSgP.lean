/- Signals: posting a slice of signals: the contract of post. -/
import Derived.Test.YthpncefkklojlaaSgM
namespace Go.Proofs.Ythpncefkklojlaa.sig
open Go.Ab
set_option linter.unusedVariables false
set_option maxRecDepth 10000
noncomputable section

noncomputable def fn13 : SFunc := (fnOf Try.prog 13).getD ⟨0, [], .skip⟩
theorem body13 : fnOf Try.prog 13 = some fn13 := by kernel_rfl
noncomputable def B13 : SCode := subc fn13.body [1, 0, 1, 0, 0]
noncomputable def XP : SCode := subc fn13.body [1, 0]
noncomputable def RP : SCode := subc fn13.body [1, 1]
abbrev dsP0 (s : S) : List Value := [U s.p, U s.m, U s.h0, U s.h1, U s.h2, U s.h3, U s.h4, U s.h5, U s.h6, U s.h7, U s.h8, U s.h9, U s.h10, U s.h11, U s.h12, U s.h13, U s.h14, U s.h15, B s.b]
abbrev dsP (s : S) (n i : Int) : List Value := [U s.p, U s.m, U s.h0, U s.h1, U s.h2, U s.h3, U s.h4, U s.h5, U s.h6, U s.h7, U s.h8, U s.h9, U s.h10, U s.h11, U s.h12, U s.h13, U s.h14, U s.h15, B s.b, I n, I i]
abbrev bkP : Blocks := [(64, .frz 0), (65, .cells (.ofList [(leaf 0), (leaf 1), (leaf 2), (leaf 3), (leaf 4), (leaf 5), (leaf 6), (leaf 7), (leaf 8), (leaf 9), (leaf 10), (leaf 11), (leaf 12), (leaf 13), (leaf 14), (leaf 15), (leaf 16), (leaf 17), (leaf 18)]) true 0), (66, .cells (.ofList [.int .u32 0, .int .u32 0, .int .u32 0, .int .u32 0, .int .u32 0, .int .u32 0, .int .u32 0, .int .u32 0, .int .u32 0, .int .u32 0, .int .u32 0, .int .u32 0, .int .u32 0, .int .u32 0, .int .u32 0, .int .u32 0, .int .u32 0, .int .u32 0, .bool false]) true 0)]
abbrev bkPe (b : Nat) : Blocks := (67, .cells (.ofList [leaf b]) false 1) :: bkP
abbrev hdP : List Value := tl 21 [(2, ptr 65 0), (4, ptr 66 0), (7, .chan (some 1)), (8, leaf 19), (9, leaf 20)]
abbrev enP : List Value := tl 21 [(2, ptr 65 0), (4, ptr 66 0)]
/-- What is pending, and these. -/
def orL (p : BitVec 32) (es : List Int) : BitVec 32 := es.foldl (fun p e => p ||| (1#32 <<< (e : Int).toNat)) p
abbrev el (q : Tie) (b i : Nat) : Tie := { q with elems := (b, i) :: q.elems }
theorem tieI_at (es : List Int) (b i : Nat) (hi : i < es.length) : ∀ j, j < (tieI es b).sz → ([I (es.getD i 0)] : List Value).getD j undef = (tieI es b).cells.getD (i * (tieI es b).sz + j) undef := fun j hj => by
  have hj : j < 1 := hj
  have : j = 0 := by omega
  subst this
  simp [tieI, hi]
theorem step_el {n0 b i : Nat} {Φ : List (Nat × Nat)} {q : Tie} (hw : phi n0 (trOf Φ) q.whole = some q.whole) (he : q.elems = []) (hb : phi n0 (trOf Φ) b = some b) : TieStep n0 Φ [el q b i] [el q b i] :=
  TieStep.of ⟨⟨rfl, rfl, rfl, rfl, hw, fun e h => ⟨h, by
    have h : e ∈ (b, i) :: q.elems := h
    rw [he, List.mem_singleton] at h
    subst h
    exact hb⟩⟩, trivial⟩
theorem step_le {n0 b i : Nat} {Φ : List (Nat × Nat)} {q : Tie} (hw : phi n0 (trOf Φ) q.whole = some q.whole) (he : q.elems = []) : TieStep n0 Φ [el q b i] [q] :=
  TieStep.of ⟨⟨rfl, rfl, rfl, rfl, hw, fun e h => by rw [he] at h; cases h⟩, trivial⟩
theorem step_same {n0 : Nat} {Φ : List (Nat × Nat)} {q : Tie} (hw : phi n0 (trOf Φ) q.whole = some q.whole) (he : q.elems = []) : TieStep n0 Φ [q] [q] :=
  TieStep.of ⟨⟨rfl, rfl, rfl, rfl, hw, fun e h => by rw [he] at h; cases h⟩, trivial⟩

theorem pround {s : S} {es : List Int} {i : Nat} {e : Int} (he : es.getD i 0 = e) (hi : i < es.length) (h0 : decide ((i : Int) < es.length) = true) (h1 : okP s e = true) :
    TOk (sigOf (dsP s es.length i) [tieI es 64]) (sigOf (dsP { s with p := s.p ||| (1#32 <<< (e : Int).toNat) } es.length (w64 (i + 1))) [tieI es 64]) Try.prog 65 none B13 hdP (memB 67 bkP) .normal hdP (memB 67 bkP) := by
  refine TOk.pre (View.names (x := [I e])) (TOk.pre (elem_view (ds := dsP s es.length i ++ [I e]) (q := tieI es 64) (jt := 0) (jv := 7) (next := 67) (i := i) (bs := bkP) (E := [leaf 21]) (fun d h => List.all_eq_true.1 (show (dsP s es.length i ++ [I e] : List Value).all dataB = true from rfl) d h) (by decide) (by decide) rfl (by kernel_rfl) rfl hi Nat.one_pos (by simp [tieI]) rfl (by kernel_rfl) ?_) ?_)
  · intro j hj
    rw [← tieI_at es 64 i hi j hj, he]
    have hj : j < 1 := hj
    have : j = 0 := by omega
    subst this
    rfl
  · exact seg_okX (ds2 := [U s.p, U s.m, U s.h0, U s.h1, U s.h2, U s.h3, U s.h4, U s.h5, U s.h6, U s.h7, U s.h8, U s.h9, U s.h10, U s.h11, U s.h12, U s.h13, U s.h14, U s.h15, B s.b, I es.length, I i, I e, U (s.p ||| (1#32 <<< (e : Int).toNat)), I (w64 (i + 1))]) (len := 24) (fs := [.bin .lss 3 (leaf 20) (leaf 19) (.bool true), .call 20 [(.agg #[(leaf 0), (leaf 1), (leaf 2), (leaf 3), (leaf 4), (leaf 5), (leaf 6), (leaf 7), (leaf 8), (leaf 9), (leaf 10), (leaf 11), (leaf 12), (leaf 13), (leaf 14), (leaf 15), (leaf 16), (leaf 17), (leaf 18)]), (leaf 21)] (.tuple #[(.agg #[(leaf 22), (leaf 1), (leaf 2), (leaf 3), (leaf 4), (leaf 5), (leaf 6), (leaf 7), (leaf 8), (leaf 9), (leaf 10), (leaf 11), (leaf 12), (leaf 13), (leaf 14), (leaf 15), (leaf 16), (leaf 17), (leaf 18)]), (.int .i64 0)]), .bin .add 3 (leaf 20) (.int .i64 1) (leaf 23)]) (fuel := 60) (pre := 22) (npre := 0) (lm := [((leaf 19), (leaf 19)), ((leaf 23), (leaf 20)), ((leaf 22), (leaf 0)), ((leaf 1), (leaf 1)), ((leaf 2), (leaf 2)), ((leaf 3), (leaf 3)), ((leaf 4), (leaf 4)), ((leaf 5), (leaf 5)), ((leaf 6), (leaf 6)), ((leaf 7), (leaf 7)), ((leaf 8), (leaf 8)), ((leaf 9), (leaf 9)), ((leaf 10), (leaf 10)), ((leaf 11), (leaf 11)), ((leaf 12), (leaf 12)), ((leaf 13), (leaf 13)), ((leaf 14), (leaf 14)), ((leaf 15), (leaf 15)), ((leaf 16), (leaf 16)), ((leaf 17), (leaf 17)), ((leaf 18), (leaf 18))]) (ol := [64, 65, 66]) (tf := [.idx 44 0 (leaf 20) 67]) (xf := []) (ts2 := [el (tieI es 64) 67 i]) (bs := bkPe 21) (bs2 := bkP)
        (by kernel_rfl) mixed rfl rfl rfl rfl ⟨hold_lss_i rfl rfl h0, ⟨rfl, post_ok (s := s) (g := e) h1⟩, hold_add_i rfl rfl rfl rfl, trivial⟩ ⟨vv_leaf rfl, vv_leaf rfl, vv_leaf rfl, vv_leaf rfl, vv_leaf rfl, vv_leaf rfl, vv_leaf rfl, vv_leaf rfl, vv_leaf rfl, vv_leaf rfl, vv_leaf rfl, vv_leaf rfl, vv_leaf rfl, vv_leaf rfl, vv_leaf rfl, vv_leaf rfl, vv_leaf rfl, vv_leaf rfl, vv_leaf rfl, vv_leaf rfl, vv_leaf rfl, trivial⟩ ⟨⟨_, 3, i, rfl, hi, List.mem_cons_self, rfl, by kernel_rfl, by kernel_rfl⟩, trivial⟩ trivial (step_el rfl rfl rfl) (step_le rfl rfl)

theorem pend {s : S} {es : List Int} {i : Int} (h0 : decide ((i : Int) < es.length) = false) :
    TOk (sigOf (dsP s es.length i) [tieI es 64]) (sigOf (dsP0 s) [tieI es 64]) Try.prog 65 none B13 hdP (memB 67 bkP) (.exit 0) enP (memB 67 bkP) :=
  seg_okX (ds2 := [U s.p, U s.m, U s.h0, U s.h1, U s.h2, U s.h3, U s.h4, U s.h5, U s.h6, U s.h7, U s.h8, U s.h9, U s.h10, U s.h11, U s.h12, U s.h13, U s.h14, U s.h15, B s.b, I es.length, I i]) (len := 21) (fs := [.bin .lss 3 (leaf 20) (leaf 19) (.bool false)]) (fuel := 60) (pre := 21) (npre := 19) (lm := []) (ol := [64, 65, 66]) (tf := []) (xf := []) (ts2 := [tieI es 64]) (bs := bkP) (bs2 := bkP)
        (by kernel_rfl) mixed rfl rfl rfl rfl ⟨hold_lss_i rfl rfl h0, trivial⟩ trivial trivial trivial (step_same rfl rfl) (step_same rfl rfl)

theorem prounds {es : List Int} (hl : es.length ≤ 90) (hes : ∀ e ∈ es, isS e = true) : ∀ (r i : Nat) (s : S), i + r = es.length → okS s = true →
    ∃ N, TRounds (sigOf (dsP s es.length i) [tieI es 64]) (sigOf (dsP0 { s with p := orL s.p (es.drop i) }) [tieI es 64]) Try.prog 65 none B13 N hdP (memB 67 bkP) (.exit 0) enP (memB 67 bkP)
  | 0, i, s, h1, h2 => by
    have : es.drop i = [] := List.drop_eq_nil_iff.2 (by omega)
    rw [this]
    exact ⟨1, TRounds.last (pend (by simp; omega)) (by intro h; cases h)⟩
  | r + 1, i, s, h1, h2 => by
    have hi : i < es.length := by omega
    have hmem : es.getD i 0 ∈ es := by rw [List.getD_eq_getElem?_getD, List.getElem?_eq_getElem hi]; exact List.getElem_mem _
    have hp : okP s (es.getD i 0) = true := by unfold okP; rw [h2, hes _ hmem]; rfl
    obtain ⟨N, hN⟩ := prounds hl hes r (i + 1) { s with p := s.p ||| (1#32 <<< (es.getD i 0 : Int).toNat) } (by omega) (okS_post hp)
    have h := pround (s := s) rfl hi (by simp; omega) hp
    have hw : w64 ((i : Int) + 1) = ((i + 1 : Nat) : Int) := by rw [w64_small (by omega) (by omega)]; rfl
    rw [hw] at h
    refine ⟨N + 1, TRounds.more h ?_⟩
    have hd : es.drop i = es.getD i 0 :: es.drop (i + 1) := by
      rw [List.getD_eq_getElem?_getD, List.getElem?_eq_getElem hi]
      exact List.drop_eq_getElem_cons hi
    rw [hd]
    exact hN

theorem posts_call (s : S) (es : List Int) (hl : es.length ≤ 90) (hs : okS s = true) (hes : ∀ e ∈ es, isS e = true) :
    ∃ m', TCall (sigOf (dsP0 s) [tieI es 64]) (sigOf (dsP0 { s with p := orL s.p es }) [tieI es 64]) Try.prog 65 13 [(.agg #[(leaf 0), (leaf 1), (leaf 2), (leaf 3), (leaf 4), (leaf 5), (leaf 6), (leaf 7), (leaf 8), (leaf 9), (leaf 10), (leaf 11), (leaf 12), (leaf 13), (leaf 14), (leaf 15), (leaf 16), (leaf 17), (leaf 18)]), .chan (some 1)] m1 (.agg #[(leaf 0), (leaf 1), (leaf 2), (leaf 3), (leaf 4), (leaf 5), (leaf 6), (leaf 7), (leaf 8), (leaf 9), (leaf 10), (leaf 11), (leaf 12), (leaf 13), (leaf 14), (leaf 15), (leaf 16), (leaf 17), (leaf 18)]) m' := by
  obtain ⟨N, hN⟩ := prounds hl hes es.length 0 s (by omega) hs
  refine ⟨memB 67 [(66, .cells (.ofList [(leaf 0), (leaf 1), (leaf 2), (leaf 3), (leaf 4), (leaf 5), (leaf 6), (leaf 7), (leaf 8), (leaf 9), (leaf 10), (leaf 11), (leaf 12), (leaf 13), (leaf 14), (leaf 15), (leaf 16), (leaf 17), (leaf 18)]) true 0)], TCall.of_code (x := .ret) (t' := tl 21 [(4, ptr 66 0)]) (vs := [(.agg #[(leaf 0), (leaf 1), (leaf 2), (leaf 3), (leaf 4), (leaf 5), (leaf 6), (leaf 7), (leaf 8), (leaf 9), (leaf 10), (leaf 11), (leaf 12), (leaf 13), (leaf 14), (leaf 15), (leaf 16), (leaf 17), (leaf 18)])]) body13 (.inr rfl) ?_ (by kernel_rfl)⟩
  refine adv_segX (ds2 := dsP0 s) (ds' := dsP0 s) (len := 19) (fs := []) (fuel := 60) (pre := 19) (npre := 19) (lm := []) (ol := [64, 65, 66]) (tf := []) (xf := []) (ts2 := [tieI es 64]) (ts' := [tieI es 64]) (k := 1) (next := 65) (bs := [(64, .frz 0)]) (c' := .seq XP RP) (t2 := tl 21 [(1, .chan (some 1)), (2, ptr 65 0), (4, ptr 66 0)]) (next2 := 67) (bs2 := bkP)
    (by kernel_rfl) (by kernel_rfl) mixed rfl rfl rfl rfl trivial trivial trivial trivial (step_same rfl rfl) (step_same rfl rfl) (by intro l h; cases h) ?_
  refine TOk.seq (t1 := enP) (m1 := memB 67 bkP) (σ2 := sigOf (dsP0 { s with p := orL s.p es }) [tieI es 64]) ?_ ?_
  · refine adv_segX (ds2 := dsP0 s ++ [I es.length]) (ds' := dsP s es.length 0) (len := 20) (fs := []) (fuel := 60) (pre := 19) (npre := 20) (lm := [(.int .i64 0, leaf 20)]) (ol := [64, 65, 66]) (tf := [.len 44 0 (leaf 19)]) (xf := []) (ts2 := [tieI es 64]) (ts' := [tieI es 64]) (k := 1) (bs := bkP) (c' := .block 0 (.loop B13)) (t2 := hdP) (next2 := 67) (bs2 := bkP)
      (by kernel_rfl) (by kernel_rfl) mixed rfl rfl rfl rfl trivial ⟨vv_nm rfl rfl, trivial⟩ ⟨⟨rfl, by kernel_rfl, _, rfl, rfl⟩, trivial⟩ trivial (step_same rfl rfl) (step_same rfl rfl) (by intro l h; cases h) ?_
    exact TOk.block (TOk.loop hN)
  · exact seg_okX (ds2 := dsP0 { s with p := orL s.p es }) (len := 19) (fs := []) (fuel := 60) (pre := 19) (npre := 19) (lm := []) (ol := [66]) (tf := []) (xf := []) (ts2 := [tieI es 64]) (bs := bkP)
      (by kernel_rfl) mixed rfl rfl rfl rfl trivial trivial trivial trivial (step_same rfl rfl) (step_same rfl rfl)
end
end Go.Proofs.Ythpncefkklojlaa.sig
