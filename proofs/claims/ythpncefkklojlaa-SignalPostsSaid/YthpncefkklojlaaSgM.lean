/- Signals: the list of signals: the contract of List. -/
import Derived.Test.YthpncefkklojlaaSgL
namespace Go.Proofs.Ythpncefkklojlaa.sig
open Go.Ab
set_option linter.unusedVariables false
set_option maxRecDepth 10000
noncomputable section

theorem bits_len (m : BitVec 32) : ∀ (f i : Nat), (bitsF m f i).length ≤ f
  | 0, _ => Nat.le_refl _
  | f + 1, i => by
    have := bits_len m f (i + 1)
    simp only [bitsF]
    split <;> simp <;> omega

abbrev tL1 : List Value := tl 13 [(0, leaf 0), (3, ptr 64 0)]
abbrev tL2 : List Value := tl 13 [(3, ptr 64 0), (6, .func (.func 35) #[] #[ptr 65 0])]
abbrev tL3 : List Value := tl 13 [(3, ptr 64 0)]
noncomputable def XL : SCode := subc fn19.body [1, 1, 0]
noncomputable def RL : SCode := subc fn19.body [1, 1, 1]
abbrev bkF (k : Nat) : Blocks := if k = 0 then [] else [(67, .cells (.ofList (esL k)) true 1)]
theorem body19 : fnOf Try.prog 19 = some fn19 := by kernel_rfl
theorem body35 : fnOf Try.prog 35 = some fn35 := by kernel_rfl

theorem call35 (m : BitVec 32) : TCall (sigOf [U m]) (sigOf (dsL m 16 (bitsF m 15 1))) Try.prog 67 35 [.func (.yield 66) #[] #[], ptr 65 0] (memB 67 ((66, lrec0) :: bkR 0)) (oneOr []) (memB 68 (bkL (bitsF m 15 1).length)) := by
  obtain ⟨N, hN⟩ := lrounds (m := m) 15 1 [] (by decide) (by decide) (by decide)
  refine TCall.of_code (x := .normal) (t' := enL) (vs := []) body35 (.inl rfl) ?_ (by kernel_rfl)
  refine adv_segC (ds2 := [U m]) (ds' := dsL m 1 []) (len := 1) (fs := []) (fuel := 60) (pre := 1) (npre := 1) (lm := [(.int .i64 1, leaf 1)]) (ol := [66, 64, 65]) (ts2 := []) (tf := []) (xf := []) (k := 1) (c' := .block 0 (.loop B35)) (t2 := hdL) (next2 := 68) (bs := (66, lrec0) :: bkR 0) (bs2 := bkL 0)
    (by kernel_rfl) (by kernel_rfl) (by kernel_rfl) (by kernel_rfl) mixed rfl rfl rfl rfl trivial ⟨vv_nm rfl rfl, trivial⟩ trivial trivial TieStep.nil TieStep.nil (by intro l h; cases h) ?_
  exact TOk.block (TOk.loop hN)
theorem ltail_0 {m : BitVec 32} {i : Int} :
    TOk (sigOf (dsL m i [])) (sigOf (dsL m i [])) Try.prog 64 none RL tL3 (memB 68 (bkR 0)) .ret (tl 13 [(2, sliceL 67 0)]) (memB 68 (bkF 0)) :=
  seg_ok (ds2 := dsL m i []) (len := 2) (fs := []) (fuel := 60) (pre := 2) (npre := 2) (lm := []) (ol := []) (bs := bkR 0) (bs2 := bkF 0)
    (by kernel_rfl) mixed rfl rfl rfl rfl trivial trivial
theorem ltail_1 {m : BitVec 32} {i e0 : Int} :
    TOk (sigOf (dsL m i [e0])) (sigOf (dsL m i [e0])) Try.prog 64 none RL tL3 (memB 68 (bkR 1)) .ret (tl 13 [(2, sliceL 67 1)]) (memB 68 (bkF 1)) :=
  seg_ok (ds2 := dsL m i [e0]) (len := 3) (fs := []) (fuel := 60) (pre := 3) (npre := 3) (lm := []) (ol := [67]) (bs := bkR 1) (bs2 := bkF 1)
    (by kernel_rfl) mixed rfl rfl rfl rfl trivial trivial
theorem ltail_2 {m : BitVec 32} {i e0 e1 : Int} :
    TOk (sigOf (dsL m i [e0, e1])) (sigOf (dsL m i [e0, e1])) Try.prog 64 none RL tL3 (memB 68 (bkR 2)) .ret (tl 13 [(2, sliceL 67 2)]) (memB 68 (bkF 2)) :=
  seg_ok (ds2 := dsL m i [e0, e1]) (len := 4) (fs := []) (fuel := 60) (pre := 4) (npre := 4) (lm := []) (ol := [67]) (bs := bkR 2) (bs2 := bkF 2)
    (by kernel_rfl) mixed rfl rfl rfl rfl trivial trivial
theorem ltail_3 {m : BitVec 32} {i e0 e1 e2 : Int} :
    TOk (sigOf (dsL m i [e0, e1, e2])) (sigOf (dsL m i [e0, e1, e2])) Try.prog 64 none RL tL3 (memB 68 (bkR 3)) .ret (tl 13 [(2, sliceL 67 3)]) (memB 68 (bkF 3)) :=
  seg_ok (ds2 := dsL m i [e0, e1, e2]) (len := 5) (fs := []) (fuel := 60) (pre := 5) (npre := 5) (lm := []) (ol := [67]) (bs := bkR 3) (bs2 := bkF 3)
    (by kernel_rfl) mixed rfl rfl rfl rfl trivial trivial
theorem ltail_4 {m : BitVec 32} {i e0 e1 e2 e3 : Int} :
    TOk (sigOf (dsL m i [e0, e1, e2, e3])) (sigOf (dsL m i [e0, e1, e2, e3])) Try.prog 64 none RL tL3 (memB 68 (bkR 4)) .ret (tl 13 [(2, sliceL 67 4)]) (memB 68 (bkF 4)) :=
  seg_ok (ds2 := dsL m i [e0, e1, e2, e3]) (len := 6) (fs := []) (fuel := 60) (pre := 6) (npre := 6) (lm := []) (ol := [67]) (bs := bkR 4) (bs2 := bkF 4)
    (by kernel_rfl) mixed rfl rfl rfl rfl trivial trivial
theorem ltail_5 {m : BitVec 32} {i e0 e1 e2 e3 e4 : Int} :
    TOk (sigOf (dsL m i [e0, e1, e2, e3, e4])) (sigOf (dsL m i [e0, e1, e2, e3, e4])) Try.prog 64 none RL tL3 (memB 68 (bkR 5)) .ret (tl 13 [(2, sliceL 67 5)]) (memB 68 (bkF 5)) :=
  seg_ok (ds2 := dsL m i [e0, e1, e2, e3, e4]) (len := 7) (fs := []) (fuel := 60) (pre := 7) (npre := 7) (lm := []) (ol := [67]) (bs := bkR 5) (bs2 := bkF 5)
    (by kernel_rfl) mixed rfl rfl rfl rfl trivial trivial
theorem ltail_6 {m : BitVec 32} {i e0 e1 e2 e3 e4 e5 : Int} :
    TOk (sigOf (dsL m i [e0, e1, e2, e3, e4, e5])) (sigOf (dsL m i [e0, e1, e2, e3, e4, e5])) Try.prog 64 none RL tL3 (memB 68 (bkR 6)) .ret (tl 13 [(2, sliceL 67 6)]) (memB 68 (bkF 6)) :=
  seg_ok (ds2 := dsL m i [e0, e1, e2, e3, e4, e5]) (len := 8) (fs := []) (fuel := 60) (pre := 8) (npre := 8) (lm := []) (ol := [67]) (bs := bkR 6) (bs2 := bkF 6)
    (by kernel_rfl) mixed rfl rfl rfl rfl trivial trivial
theorem ltail_7 {m : BitVec 32} {i e0 e1 e2 e3 e4 e5 e6 : Int} :
    TOk (sigOf (dsL m i [e0, e1, e2, e3, e4, e5, e6])) (sigOf (dsL m i [e0, e1, e2, e3, e4, e5, e6])) Try.prog 64 none RL tL3 (memB 68 (bkR 7)) .ret (tl 13 [(2, sliceL 67 7)]) (memB 68 (bkF 7)) :=
  seg_ok (ds2 := dsL m i [e0, e1, e2, e3, e4, e5, e6]) (len := 9) (fs := []) (fuel := 60) (pre := 9) (npre := 9) (lm := []) (ol := [67]) (bs := bkR 7) (bs2 := bkF 7)
    (by kernel_rfl) mixed rfl rfl rfl rfl trivial trivial
theorem ltail_8 {m : BitVec 32} {i e0 e1 e2 e3 e4 e5 e6 e7 : Int} :
    TOk (sigOf (dsL m i [e0, e1, e2, e3, e4, e5, e6, e7])) (sigOf (dsL m i [e0, e1, e2, e3, e4, e5, e6, e7])) Try.prog 64 none RL tL3 (memB 68 (bkR 8)) .ret (tl 13 [(2, sliceL 67 8)]) (memB 68 (bkF 8)) :=
  seg_ok (ds2 := dsL m i [e0, e1, e2, e3, e4, e5, e6, e7]) (len := 10) (fs := []) (fuel := 60) (pre := 10) (npre := 10) (lm := []) (ol := [67]) (bs := bkR 8) (bs2 := bkF 8)
    (by kernel_rfl) mixed rfl rfl rfl rfl trivial trivial
theorem ltail_9 {m : BitVec 32} {i e0 e1 e2 e3 e4 e5 e6 e7 e8 : Int} :
    TOk (sigOf (dsL m i [e0, e1, e2, e3, e4, e5, e6, e7, e8])) (sigOf (dsL m i [e0, e1, e2, e3, e4, e5, e6, e7, e8])) Try.prog 64 none RL tL3 (memB 68 (bkR 9)) .ret (tl 13 [(2, sliceL 67 9)]) (memB 68 (bkF 9)) :=
  seg_ok (ds2 := dsL m i [e0, e1, e2, e3, e4, e5, e6, e7, e8]) (len := 11) (fs := []) (fuel := 60) (pre := 11) (npre := 11) (lm := []) (ol := [67]) (bs := bkR 9) (bs2 := bkF 9)
    (by kernel_rfl) mixed rfl rfl rfl rfl trivial trivial
theorem ltail_10 {m : BitVec 32} {i e0 e1 e2 e3 e4 e5 e6 e7 e8 e9 : Int} :
    TOk (sigOf (dsL m i [e0, e1, e2, e3, e4, e5, e6, e7, e8, e9])) (sigOf (dsL m i [e0, e1, e2, e3, e4, e5, e6, e7, e8, e9])) Try.prog 64 none RL tL3 (memB 68 (bkR 10)) .ret (tl 13 [(2, sliceL 67 10)]) (memB 68 (bkF 10)) :=
  seg_ok (ds2 := dsL m i [e0, e1, e2, e3, e4, e5, e6, e7, e8, e9]) (len := 12) (fs := []) (fuel := 60) (pre := 12) (npre := 12) (lm := []) (ol := [67]) (bs := bkR 10) (bs2 := bkF 10)
    (by kernel_rfl) mixed rfl rfl rfl rfl trivial trivial
theorem ltail_11 {m : BitVec 32} {i e0 e1 e2 e3 e4 e5 e6 e7 e8 e9 e10 : Int} :
    TOk (sigOf (dsL m i [e0, e1, e2, e3, e4, e5, e6, e7, e8, e9, e10])) (sigOf (dsL m i [e0, e1, e2, e3, e4, e5, e6, e7, e8, e9, e10])) Try.prog 64 none RL tL3 (memB 68 (bkR 11)) .ret (tl 13 [(2, sliceL 67 11)]) (memB 68 (bkF 11)) :=
  seg_ok (ds2 := dsL m i [e0, e1, e2, e3, e4, e5, e6, e7, e8, e9, e10]) (len := 13) (fs := []) (fuel := 60) (pre := 13) (npre := 13) (lm := []) (ol := [67]) (bs := bkR 11) (bs2 := bkF 11)
    (by kernel_rfl) mixed rfl rfl rfl rfl trivial trivial
theorem ltail_12 {m : BitVec 32} {i e0 e1 e2 e3 e4 e5 e6 e7 e8 e9 e10 e11 : Int} :
    TOk (sigOf (dsL m i [e0, e1, e2, e3, e4, e5, e6, e7, e8, e9, e10, e11])) (sigOf (dsL m i [e0, e1, e2, e3, e4, e5, e6, e7, e8, e9, e10, e11])) Try.prog 64 none RL tL3 (memB 68 (bkR 12)) .ret (tl 13 [(2, sliceL 67 12)]) (memB 68 (bkF 12)) :=
  seg_ok (ds2 := dsL m i [e0, e1, e2, e3, e4, e5, e6, e7, e8, e9, e10, e11]) (len := 14) (fs := []) (fuel := 60) (pre := 14) (npre := 14) (lm := []) (ol := [67]) (bs := bkR 12) (bs2 := bkF 12)
    (by kernel_rfl) mixed rfl rfl rfl rfl trivial trivial
theorem ltail_13 {m : BitVec 32} {i e0 e1 e2 e3 e4 e5 e6 e7 e8 e9 e10 e11 e12 : Int} :
    TOk (sigOf (dsL m i [e0, e1, e2, e3, e4, e5, e6, e7, e8, e9, e10, e11, e12])) (sigOf (dsL m i [e0, e1, e2, e3, e4, e5, e6, e7, e8, e9, e10, e11, e12])) Try.prog 64 none RL tL3 (memB 68 (bkR 13)) .ret (tl 13 [(2, sliceL 67 13)]) (memB 68 (bkF 13)) :=
  seg_ok (ds2 := dsL m i [e0, e1, e2, e3, e4, e5, e6, e7, e8, e9, e10, e11, e12]) (len := 15) (fs := []) (fuel := 60) (pre := 15) (npre := 15) (lm := []) (ol := [67]) (bs := bkR 13) (bs2 := bkF 13)
    (by kernel_rfl) mixed rfl rfl rfl rfl trivial trivial
theorem ltail_14 {m : BitVec 32} {i e0 e1 e2 e3 e4 e5 e6 e7 e8 e9 e10 e11 e12 e13 : Int} :
    TOk (sigOf (dsL m i [e0, e1, e2, e3, e4, e5, e6, e7, e8, e9, e10, e11, e12, e13])) (sigOf (dsL m i [e0, e1, e2, e3, e4, e5, e6, e7, e8, e9, e10, e11, e12, e13])) Try.prog 64 none RL tL3 (memB 68 (bkR 14)) .ret (tl 13 [(2, sliceL 67 14)]) (memB 68 (bkF 14)) :=
  seg_ok (ds2 := dsL m i [e0, e1, e2, e3, e4, e5, e6, e7, e8, e9, e10, e11, e12, e13]) (len := 16) (fs := []) (fuel := 60) (pre := 16) (npre := 16) (lm := []) (ol := [67]) (bs := bkR 14) (bs2 := bkF 14)
    (by kernel_rfl) mixed rfl rfl rfl rfl trivial trivial
theorem ltail_15 {m : BitVec 32} {i e0 e1 e2 e3 e4 e5 e6 e7 e8 e9 e10 e11 e12 e13 e14 : Int} :
    TOk (sigOf (dsL m i [e0, e1, e2, e3, e4, e5, e6, e7, e8, e9, e10, e11, e12, e13, e14])) (sigOf (dsL m i [e0, e1, e2, e3, e4, e5, e6, e7, e8, e9, e10, e11, e12, e13, e14])) Try.prog 64 none RL tL3 (memB 68 (bkR 15)) .ret (tl 13 [(2, sliceL 67 15)]) (memB 68 (bkF 15)) :=
  seg_ok (ds2 := dsL m i [e0, e1, e2, e3, e4, e5, e6, e7, e8, e9, e10, e11, e12, e13, e14]) (len := 17) (fs := []) (fuel := 60) (pre := 17) (npre := 17) (lm := []) (ol := [67]) (bs := bkR 15) (bs2 := bkF 15)
    (by kernel_rfl) mixed rfl rfl rfl rfl trivial trivial

theorem ltail {m : BitVec 32} {i : Int} : ∀ es : List Int, es.length ≤ 15 →
    TOk (sigOf (dsL m i es)) (sigOf (dsL m i es)) Try.prog 64 none RL tL3 (memB 68 (bkR es.length)) .ret (tl 13 [(2, sliceL 67 es.length)]) (memB 68 (bkF es.length))
  | [], _ => ltail_0
  | [e0], _ => ltail_1
  | [e0, e1], _ => ltail_2
  | [e0, e1, e2], _ => ltail_3
  | [e0, e1, e2, e3], _ => ltail_4
  | [e0, e1, e2, e3, e4], _ => ltail_5
  | [e0, e1, e2, e3, e4, e5], _ => ltail_6
  | [e0, e1, e2, e3, e4, e5, e6], _ => ltail_7
  | [e0, e1, e2, e3, e4, e5, e6, e7], _ => ltail_8
  | [e0, e1, e2, e3, e4, e5, e6, e7, e8], _ => ltail_9
  | [e0, e1, e2, e3, e4, e5, e6, e7, e8, e9], _ => ltail_10
  | [e0, e1, e2, e3, e4, e5, e6, e7, e8, e9, e10], _ => ltail_11
  | [e0, e1, e2, e3, e4, e5, e6, e7, e8, e9, e10, e11], _ => ltail_12
  | [e0, e1, e2, e3, e4, e5, e6, e7, e8, e9, e10, e11, e12], _ => ltail_13
  | [e0, e1, e2, e3, e4, e5, e6, e7, e8, e9, e10, e11, e12, e13], _ => ltail_14
  | [e0, e1, e2, e3, e4, e5, e6, e7, e8, e9, e10, e11, e12, e13, e14], _ => ltail_15
  | _ :: _ :: _ :: _ :: _ :: _ :: _ :: _ :: _ :: _ :: _ :: _ :: _ :: _ :: _ :: _ :: _, h => absurd h (by simp)

theorem bkR_66 (k : Nat) : (trB (bkR k)).get 66 = none := by
  by_cases h : k = 0
  · subst h; rfl
  · simp only [bkR, h, if_false, List.cons_append, List.nil_append]
    rw [trB_cons, if_neg (by decide), trB_cons, if_neg (by decide), trB_cons, if_neg (by decide)]
    rfl
theorem get66 (k : Nat) (st : LoopState) : (memB 68 (bkL k)).get 66 = some (lrec .ready) := by
  show (trB _).get 66 = _
  rw [trB_cons, if_pos rfl]
theorem t23 {σ σ' : Sig} {n0 : Nat} (h : 66 ≤ n0) : LVV σ σ' n0 tL2 tL3 :=
  ⟨vv_J, vv_J, vv_J, (stable_ptr (by omega)).vv, vv_J, vv_J, vv_J, vv_J, vv_J, vv_J, vv_J, vv_J, vv_J, trivial⟩

theorem list_call (m : BitVec 32) : TCall (sigOf [U m]) (sigOf (dsL m 16 (bitsF m 15 1))) Try.prog 64 19 [leaf 0] m0 (sliceL 67 (bitsF m 15 1).length) (memB 68 (bkF (bitsF m 15 1).length)) := by
  have hlen := bits_len m 15 1
  have hcall := call35 m
  have htail := ltail (m := m) (i := 16) (bitsF m 15 1) hlen
  generalize bitsF m 15 1 = es at hlen hcall htail ⊢
  refine TCall.of_code (x := .ret) (t' := tl 13 [(2, sliceL 67 es.length)]) (vs := [sliceL 67 es.length]) body19 (.inr rfl) ?_ (by simp only [fn19]; rfl)
  refine adv_seg (ds2 := [U m]) (ds' := [U m]) (len := 1) (fs := []) (fuel := 60) (pre := 1) (npre := 1) (lm := []) (ol := [65]) (k := 2) (next := 64) (bs := []) (c' := .seq XL RL) (t2 := tL1) (next2 := 65) (bs2 := [(64, .cells (.ofList [.slice none 0 0]) true 0)])
    (by kernel_rfl) (by kernel_rfl) mixed rfl rfl rfl rfl trivial trivial (by intro l h; cases h) ?_
  refine TOk.seq (t1 := tL3) (m1 := memB 68 (bkR es.length)) ?_ htail
  refine adv_seg (ds2 := [U m]) (ds' := [U m]) (len := 1) (fs := []) (fuel := 60) (pre := 1) (npre := 1) (lm := []) (ol := [64, 67]) (k := 1) (c' := .block 0 (.rfn (.tmp 6) [7] lA lB)) (t2 := tL2) (next2 := 66) (bs2 := bkR 0)
    (by kernel_rfl) (by kernel_rfl) mixed rfl rfl rfl rfl trivial trivial (by intro l h; cases h) ?_
  have hrf : TOk (sigOf [U m]) (sigOf (dsL m 16 es)) Try.prog 64 none (.rfn (.tmp 6) [7] lA lB) tL2 (memB 66 (bkR 0)) .normal tL3 ((memB 68 (bkL es.length)).put 66 (lrec .exhausted)) :=
    TOk.rfn (m := memB 66 (bkR 0)) (g := 35) (first := #[]) (cap := #[ptr 65 0]) (r := ⟨.ready, none, tl 13 [(3, ptr 64 0)], [7], lA, lB⟩) (by decide) rfl (by kernel_rfl) rfl hcall (fun ρ ρ' ts hk hr => (t23 (n0 := 67) (by decide)).rel hk hr) (get66 _ .ready) (by intro e; cases e) rfl
  exact TOk.view (TOk.block hrf) (View.drop rfl (drop_head (bkR_66 _)))

/-- A slice of numbers. -/
def tieI (es : List Int) (b : Nat) : Tie := { L := es.length, sz := 1, whole := b, cells := es.map I }
theorem makesI {f : FuncId} {m : BitVec 32} {es : List Int} (b : Nat) (hn : es.length ≠ 0) (hc : TCall (sigOf [U m]) (sigOf (dsL m 16 es)) Try.prog 64 f [leaf 0] m0 (sliceL 67 es.length) (memB 68 (bkF es.length))) : MakesOk Try.prog f [U m] (tieI es b) := by
  rw [show sliceL 67 es.length = .slice (some ⟨67, 0, none⟩) es.length es.length by simp only [sliceL, hn, if_false], show bkF es.length = [(67, .cells (.ofList (esL es.length)) true 1)] by simp only [bkF, hn, if_false]] at hc
  have hlf : ∀ j, j < es.length → plainL (dsL m 16 es).length 6 (leaf (2 + j)) = true := fun j hj => by
    simp only [plainL, leaf, leafNo, dsL, List.length_cons, List.length_map]
    simp
    omega
  refine makes_of (args := [leaf 0]) (fun d hd => List.all_eq_true.1 (show ([U m] : List Value).all dataB = true from rfl) d hd) rfl hc rfl ?_ ?_
  · simp only [esL, List.all_eq_true, List.mem_map, List.mem_range]
    rintro _ ⟨j, hj, rfl⟩
    exact hlf j hj
  · apply List.ext_getElem
    · simp [tieI, esL]
    · intro j h1 h2
      have hj : j < es.length := by simpa [tieI] using h1
      simp only [tieI, esL, List.getElem_map, List.getElem_range]
      show _ = (dsL m 16 es).getD (leafNo #[.int .i64 ((2 + j : Nat) : Int)]) undef
      have : leafNo #[.int .i64 ((2 + j : Nat) : Int)] = j + 2 := by simp [leafNo]; omega
      rw [this]
      simp [dsL, hj]
theorem list_makes (m : BitVec 32) (b : Nat) (h : bitsF m 15 1 ≠ []) : MakesOk Try.prog 19 [U m] (tieI (bitsF m 15 1) b) :=
  makesI b (fun e => h (List.length_eq_zero_iff.1 e)) (list_call m)
theorem list_none (m : BitVec 32) (h : bitsF m 15 1 = []) : PureOk Try.prog 19 [U m] (.slice none 0 0) := by
  have hc := list_call m
  rw [h] at hc
  exact PureOk.of_t (ds := [U m]) (args := [leaf 0]) (fun d hd => List.all_eq_true.1 (show ([U m] : List Value).all dataB = true from rfl) d hd) hc rfl rfl
end
end Go.Proofs.Ythpncefkklojlaa.sig
