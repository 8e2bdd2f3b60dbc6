/- Tree: the code of each function that the statements reach, as data; facts on its types. -/
import Derived.KernelRfl
import Derived.Test.YtjajeeoahbidlaaTD
import Derived.Test.YtjajeeoahbidlaaProg
namespace Go.Ab
open Go.Proofs
noncomputable section
noncomputable def EE : Env := { P := Try.prog, eqv := vEqL 8, prim := fun _ => none }
theorem EE_sym : ∀ o r, EE.sym o r = none := fun _ _ => rfl
theorem EE_ok : EnvOk EE := ⟨fun v u h => vEqL_eq _ _ _ h, fun _ _ _ h => (by cases h), by kernel_rfl⟩
variable {n0 : Nat} {rd : Option Nat} {t : List Value} {m : Mem} {Q : Exit → List Value → Mem → Prop}
/-! carryall/tree.New -/
noncomputable def r8_0 : List SOp := [⟨(some 2), .assign (.const (.pointer none)), 25, none⟩, ⟨(some 3), .assign (.const (.int .i64 0)), 26, none⟩]
theorem w8_0 : WXi EE n0 rd (.reg r8_0) t m (Q := ⟨Q⟩) = (n0 ≤ m.next ∧ XWi EE m.next [(0, ⟨(some 2), .assign (.const (.pointer none)), 25, none⟩), (1, ⟨(some 3), .assign (.const (.int .i64 0)), 26, none⟩)] [] t (m.bump 2) (Q := ⟨fun _ => Q .normal⟩)) := by kernel_rfl
noncomputable def r8_1 : List SOp := [⟨(some 4), .move (.tmp 0), 3, none⟩, ⟨(some 5), .binOp .lss 3 (.tmp 4) (.const (.int .i64 1)) 3, 4, none⟩, ⟨(some 6), .move (.tmp 5), 4, none⟩, ⟨(some 7), .move (.tmp 0), 3, (some (6, false))⟩, ⟨(some 8), .binOp .gtr 3 (.tmp 7) (.const (.int .i64 32)) 3, 4, (some (6, false))⟩, ⟨(some 9), .pick (.tmp 6) (.const (.bool true)) (.tmp 8), 4, none⟩]
theorem w8_1 : WXi EE n0 rd (.reg r8_1) t m (Q := ⟨Q⟩) = (n0 ≤ m.next ∧ XWi EE m.next [(0, ⟨(some 4), .move (.tmp 0), 3, none⟩), (1, ⟨(some 5), .binOp .lss 3 (.tmp 4) (.const (.int .i64 1)) 3, 4, none⟩), (2, ⟨(some 6), .move (.tmp 5), 4, none⟩), (3, ⟨(some 7), .move (.tmp 0), 3, (some (6, false))⟩), (4, ⟨(some 8), .binOp .gtr 3 (.tmp 7) (.const (.int .i64 32)) 3, 4, (some (6, false))⟩), (5, ⟨(some 9), .pick (.tmp 6) (.const (.bool true)) (.tmp 8), 4, none⟩)] [] t (m.bump 6) (Q := ⟨fun _ => Q .normal⟩)) := by kernel_rfl
noncomputable def r8_2 : List SOp := [⟨(some 2), .assign (.const (.pointer none)), 25, none⟩, ⟨(some 3), .assign (.const (.int .i64 2)), 26, none⟩]
theorem w8_2 : WXi EE n0 rd (.reg r8_2) t m (Q := ⟨Q⟩) = (n0 ≤ m.next ∧ XWi EE m.next [(0, ⟨(some 2), .assign (.const (.pointer none)), 25, none⟩), (1, ⟨(some 3), .assign (.const (.int .i64 2)), 26, none⟩)] [] t (m.bump 2) (Q := ⟨fun _ => Q .normal⟩)) := by kernel_rfl
noncomputable def c8_3 : SCode := (.seq (.reg r8_2) .ret)
theorem w8_3 : WXi EE n0 rd c8_3 t m (Q := ⟨Q⟩) = WXi EE n0 rd (.seq (.reg r8_2) .ret) t m (Q := ⟨Q⟩) := rfl
noncomputable def r8_4 : List SOp := [⟨(some 10), .move (.tmp 0), 3, none⟩, ⟨(some 11), .makeMap 58 none, 58, none⟩, ⟨(some 12), .build 57 #[(1, (.const (.int .i64 1)))], 57, none⟩, ⟨none, .insert 58 (.tmp 11) (.const (.int .i64 1)) (.tmp 12), 0, none⟩, ⟨(some 13), .move (.tmp 11), 58, none⟩, ⟨(some 14), .build 60 #[(0, (.tmp 10)), (1, (.tmp 13)), (2, (.const (.int .i64 1)))], 60, none⟩, ⟨(some 15), .box 60 (.tmp 14), 25, none⟩, ⟨(some 2), .assign (.tmp 15), 25, none⟩, ⟨(some 3), .assign (.const (.int .i64 0)), 26, none⟩]
theorem w8_4 : WXi EE n0 rd (.reg r8_4) t m (Q := ⟨Q⟩) = (n0 ≤ m.next ∧ XWi EE m.next [(0, ⟨(some 10), .move (.tmp 0), 3, none⟩), (1, ⟨(some 11), .makeMap 58 none, 58, none⟩), (2, ⟨(some 12), .build 57 #[(1, (.const (.int .i64 1)))], 57, none⟩), (3, ⟨none, .insert 58 (.tmp 11) (.const (.int .i64 1)) (.tmp 12), 0, none⟩), (4, ⟨(some 13), .move (.tmp 11), 58, none⟩), (5, ⟨(some 14), .build 60 #[(0, (.tmp 10)), (1, (.tmp 13)), (2, (.const (.int .i64 1)))], 60, none⟩), (6, ⟨(some 15), .box 60 (.tmp 14), 25, none⟩), (7, ⟨(some 2), .assign (.tmp 15), 25, none⟩), (8, ⟨(some 3), .assign (.const (.int .i64 0)), 26, none⟩)] [] t (m.bump 9) (Q := ⟨fun _ => Q .normal⟩)) := by kernel_rfl
noncomputable def c8 : SCode := (.seq (.reg r8_0) (.seq (.seq (.reg r8_1) (.cond (.tmp 9) c8_3 .skip)) (.seq (.reg r8_4) .ret)))
theorem w8 : WXi EE n0 rd c8 t m (Q := ⟨Q⟩) = WXi EE n0 rd (.seq (.reg r8_0) (.seq (.seq (.reg r8_1) (.cond (.tmp 9) c8_3 .skip)) (.seq (.reg r8_4) .ret))) t m (Q := ⟨Q⟩) := rfl
noncomputable def f8 : SFunc := ⟨16, [.tmp 2, .tmp 3], c8⟩
-- RULES 8 w8_0, w8_1, w8_2, w8_3, w8_4
theorem fn8 : fnOf EE.P 8 = some f8 := by kernel_rfl
/-! (*carryall/tree.Table).Fork -/
noncomputable def r9_0 : List SOp := [⟨(some 4), .assign (.const (.int .i64 0)), 3, none⟩, ⟨(some 5), .assign (.const (.int .i64 0)), 26, none⟩]
theorem w9_0 : WXi EE n0 rd (.reg r9_0) t m (Q := ⟨Q⟩) = (n0 ≤ m.next ∧ XWi EE m.next [(0, ⟨(some 4), .assign (.const (.int .i64 0)), 3, none⟩), (1, ⟨(some 5), .assign (.const (.int .i64 0)), 26, none⟩)] [] t (m.bump 2) (Q := ⟨fun _ => Q .normal⟩)) := by kernel_rfl
noncomputable def r9_1 : List SOp := [⟨(some 7), .move (.tmp 0), 25, none⟩, ⟨(some 8), .call ⟨.value (.func 27), #[(.tmp 7)], #[25]⟩, 4, none⟩, ⟨(some 6), .assign (.tmp 8), 4, none⟩]
theorem w9_1 : WXi EE n0 rd (.reg r9_1) t m (Q := ⟨Q⟩) = (n0 ≤ m.next ∧ XWi EE m.next [(0, ⟨(some 7), .move (.tmp 0), 25, none⟩), (1, ⟨(some 8), .call ⟨.value (.func 27), #[(.tmp 7)], #[25]⟩, 4, none⟩), (2, ⟨(some 6), .assign (.tmp 8), 4, none⟩)] [] t (m.bump 3) (Q := ⟨fun _ => Q .normal⟩)) := by kernel_rfl
noncomputable def r9_2 : List SOp := [⟨(some 4), .assign (.const (.int .i64 0)), 3, none⟩, ⟨(some 5), .assign (.const (.int .i64 1)), 26, none⟩]
theorem w9_2 : WXi EE n0 rd (.reg r9_2) t m (Q := ⟨Q⟩) = (n0 ≤ m.next ∧ XWi EE m.next [(0, ⟨(some 4), .assign (.const (.int .i64 0)), 3, none⟩), (1, ⟨(some 5), .assign (.const (.int .i64 1)), 26, none⟩)] [] t (m.bump 2) (Q := ⟨fun _ => Q .normal⟩)) := by kernel_rfl
noncomputable def c9_3 : SCode := (.seq (.reg r9_2) .ret)
theorem w9_3 : WXi EE n0 rd c9_3 t m (Q := ⟨Q⟩) = WXi EE n0 rd (.seq (.reg r9_2) .ret) t m (Q := ⟨Q⟩) := rfl
noncomputable def r9_4 : List SOp := [⟨(some 10), .move (.tmp 0), 25, none⟩, ⟨(some 11), .move (.tmp 1), 3, none⟩, ⟨(some 12), .call ⟨.value (.func 17), #[(.tmp 10), (.tmp 11)], #[25, 3]⟩, 3, none⟩, ⟨(some 13), .binOp .neq 3 (.tmp 12) (.const (.int .i64 1)) 3, 4, none⟩, ⟨(some 9), .assign (.tmp 13), 4, none⟩]
theorem w9_4 : WXi EE n0 rd (.reg r9_4) t m (Q := ⟨Q⟩) = (n0 ≤ m.next ∧ XWi EE m.next [(0, ⟨(some 10), .move (.tmp 0), 25, none⟩), (1, ⟨(some 11), .move (.tmp 1), 3, none⟩), (2, ⟨(some 12), .call ⟨.value (.func 17), #[(.tmp 10), (.tmp 11)], #[25, 3]⟩, 3, none⟩), (3, ⟨(some 13), .binOp .neq 3 (.tmp 12) (.const (.int .i64 1)) 3, 4, none⟩), (4, ⟨(some 9), .assign (.tmp 13), 4, none⟩)] [] t (m.bump 5) (Q := ⟨fun _ => Q .normal⟩)) := by kernel_rfl
noncomputable def r9_5 : List SOp := [⟨(some 4), .assign (.const (.int .i64 0)), 3, none⟩, ⟨(some 5), .assign (.const (.int .i64 2)), 26, none⟩]
theorem w9_5 : WXi EE n0 rd (.reg r9_5) t m (Q := ⟨Q⟩) = (n0 ≤ m.next ∧ XWi EE m.next [(0, ⟨(some 4), .assign (.const (.int .i64 0)), 3, none⟩), (1, ⟨(some 5), .assign (.const (.int .i64 2)), 26, none⟩)] [] t (m.bump 2) (Q := ⟨fun _ => Q .normal⟩)) := by kernel_rfl
noncomputable def c9_6 : SCode := (.seq (.reg r9_5) .ret)
theorem w9_6 : WXi EE n0 rd c9_6 t m (Q := ⟨Q⟩) = WXi EE n0 rd (.seq (.reg r9_5) .ret) t m (Q := ⟨Q⟩) := rfl
noncomputable def r9_7 : List SOp := [⟨(some 15), .move (.tmp 0), 25, none⟩, ⟨(some 16), .call ⟨.value (.func 22), #[(.tmp 15)], #[25]⟩, 3, none⟩, ⟨(some 17), .binOp .eql 3 (.tmp 16) (.const (.int .i64 0)) 3, 4, none⟩, ⟨(some 18), .move (.tmp 17), 4, none⟩, ⟨(some 19), .move (.tmp 0), 25, (some (18, false))⟩, ⟨(some 20), .call ⟨.value (.func 25), #[(.tmp 19)], #[25]⟩, 3, (some (18, false))⟩, ⟨(some 21), .binOp .eql 3 (.tmp 20) (.const (.int .i64 0)) 3, 4, (some (18, false))⟩, ⟨(some 22), .pick (.tmp 18) (.const (.bool true)) (.tmp 21), 4, none⟩, ⟨(some 14), .assign (.tmp 22), 4, none⟩]
theorem w9_7 : WXi EE n0 rd (.reg r9_7) t m (Q := ⟨Q⟩) = (n0 ≤ m.next ∧ XWi EE m.next [(0, ⟨(some 15), .move (.tmp 0), 25, none⟩), (1, ⟨(some 16), .call ⟨.value (.func 22), #[(.tmp 15)], #[25]⟩, 3, none⟩), (2, ⟨(some 17), .binOp .eql 3 (.tmp 16) (.const (.int .i64 0)) 3, 4, none⟩), (3, ⟨(some 18), .move (.tmp 17), 4, none⟩), (4, ⟨(some 19), .move (.tmp 0), 25, (some (18, false))⟩), (5, ⟨(some 20), .call ⟨.value (.func 25), #[(.tmp 19)], #[25]⟩, 3, (some (18, false))⟩), (6, ⟨(some 21), .binOp .eql 3 (.tmp 20) (.const (.int .i64 0)) 3, 4, (some (18, false))⟩), (7, ⟨(some 22), .pick (.tmp 18) (.const (.bool true)) (.tmp 21), 4, none⟩), (8, ⟨(some 14), .assign (.tmp 22), 4, none⟩)] [] t (m.bump 9) (Q := ⟨fun _ => Q .normal⟩)) := by kernel_rfl
noncomputable def r9_8 : List SOp := [⟨(some 4), .assign (.const (.int .i64 0)), 3, none⟩, ⟨(some 5), .assign (.const (.int .i64 150)), 26, none⟩]
theorem w9_8 : WXi EE n0 rd (.reg r9_8) t m (Q := ⟨Q⟩) = (n0 ≤ m.next ∧ XWi EE m.next [(0, ⟨(some 4), .assign (.const (.int .i64 0)), 3, none⟩), (1, ⟨(some 5), .assign (.const (.int .i64 150)), 26, none⟩)] [] t (m.bump 2) (Q := ⟨fun _ => Q .normal⟩)) := by kernel_rfl
noncomputable def c9_9 : SCode := (.seq (.reg r9_8) .ret)
theorem w9_9 : WXi EE n0 rd c9_9 t m (Q := ⟨Q⟩) = WXi EE n0 rd (.seq (.reg r9_8) .ret) t m (Q := ⟨Q⟩) := rfl
noncomputable def c9_10 : SCode := (.seq (.reg r9_7) (.cond (.tmp 14) c9_9 .skip))
theorem w9_10 : WXi EE n0 rd c9_10 t m (Q := ⟨Q⟩) = WXi EE n0 rd (.seq (.reg r9_7) (.cond (.tmp 14) c9_9 .skip)) t m (Q := ⟨Q⟩) := rfl
noncomputable def c9_11 : SCode := (.seq (.reg r9_4) (.cond (.tmp 9) c9_6 c9_10))
theorem w9_11 : WXi EE n0 rd c9_11 t m (Q := ⟨Q⟩) = WXi EE n0 rd (.seq (.reg r9_4) (.cond (.tmp 9) c9_6 c9_10)) t m (Q := ⟨Q⟩) := rfl
noncomputable def c9_12 : SCode := (.seq (.reg r9_1) (.cond (.tmp 6) c9_3 c9_11))
theorem w9_12 : WXi EE n0 rd c9_12 t m (Q := ⟨Q⟩) = WXi EE n0 rd (.seq (.reg r9_1) (.cond (.tmp 6) c9_3 c9_11)) t m (Q := ⟨Q⟩) := rfl
noncomputable def r9_13 : List SOp := [⟨(some 23), .move (.tmp 0), 25, none⟩, ⟨(some 24), .nilCheck (.tmp 23), 0, none⟩, ⟨(some 25), .fieldAddr 60 (.tmp 24) 2, 0, none⟩, ⟨(some 26), .load 3 (.tmp 25), 3, none⟩, ⟨(some 27), .binOp .add 3 (.tmp 26) (.const (.int .i64 1)) 3, 3, none⟩, ⟨(some 28), .nilCheck (.tmp 23), 0, none⟩, ⟨(some 29), .fieldAddr 60 (.tmp 28) 2, 0, none⟩, ⟨none, .store 3 (.tmp 29) (.tmp 27), 0, none⟩]
theorem w9_13 : WXi EE n0 rd (.reg r9_13) t m (Q := ⟨Q⟩) = (n0 ≤ m.next ∧ XWi EE m.next [(0, ⟨(some 23), .move (.tmp 0), 25, none⟩), (1, ⟨(some 24), .nilCheck (.tmp 23), 0, none⟩), (2, ⟨(some 25), .fieldAddr 60 (.tmp 24) 2, 0, none⟩), (3, ⟨(some 26), .load 3 (.tmp 25), 3, none⟩), (4, ⟨(some 27), .binOp .add 3 (.tmp 26) (.const (.int .i64 1)) 3, 3, none⟩), (5, ⟨(some 28), .nilCheck (.tmp 23), 0, none⟩), (6, ⟨(some 29), .fieldAddr 60 (.tmp 28) 2, 0, none⟩), (7, ⟨none, .store 3 (.tmp 29) (.tmp 27), 0, none⟩)] [] t (m.bump 8) (Q := ⟨fun _ => Q .normal⟩)) := by kernel_rfl
noncomputable def r9_14 : List SOp := [⟨(some 30), .move (.tmp 0), 25, none⟩, ⟨(some 31), .nilCheck (.tmp 30), 0, none⟩, ⟨(some 32), .fieldAddr 60 (.tmp 31) 1, 0, none⟩, ⟨(some 33), .load 58 (.tmp 32), 58, none⟩, ⟨(some 34), .move (.tmp 0), 25, none⟩, ⟨(some 35), .nilCheck (.tmp 34), 0, none⟩, ⟨(some 36), .fieldAddr 60 (.tmp 35) 2, 0, none⟩, ⟨(some 37), .load 3 (.tmp 36), 3, none⟩, ⟨(some 38), .move (.tmp 1), 3, none⟩, ⟨(some 39), .build 57 #[(0, (.tmp 38)), (1, (.const (.int .i64 1)))], 57, none⟩, ⟨none, .mapUpdate 58 (.tmp 33) (.tmp 37) (.tmp 39), 0, none⟩]
theorem w9_14 : WXi EE n0 rd (.dreg r9_14 [(0, []), (1, []), (2, []), (3, []), (4, []), (5, []), (6, []), (7, []), (8, []), (9, []), (10, [])]) t m (Q := ⟨Q⟩) = (n0 ≤ m.next ∧ XWi EE m.next [(0, ⟨(some 30), .move (.tmp 0), 25, none⟩), (1, ⟨(some 31), .nilCheck (.tmp 30), 0, none⟩), (2, ⟨(some 32), .fieldAddr 60 (.tmp 31) 1, 0, none⟩), (3, ⟨(some 33), .load 58 (.tmp 32), 58, none⟩), (4, ⟨(some 34), .move (.tmp 0), 25, none⟩), (5, ⟨(some 35), .nilCheck (.tmp 34), 0, none⟩), (6, ⟨(some 36), .fieldAddr 60 (.tmp 35) 2, 0, none⟩), (7, ⟨(some 37), .load 3 (.tmp 36), 3, none⟩), (8, ⟨(some 38), .move (.tmp 1), 3, none⟩), (9, ⟨(some 39), .build 57 #[(0, (.tmp 38)), (1, (.const (.int .i64 1)))], 57, none⟩), (10, ⟨none, .mapUpdate 58 (.tmp 33) (.tmp 37) (.tmp 39), 0, none⟩)] [] t (m.bump 11) (Q := ⟨fun _ => Q .normal⟩)) := by kernel_rfl
noncomputable def r9_15 : List SOp := [⟨(some 40), .move (.tmp 0), 25, none⟩, ⟨(some 41), .nilCheck (.tmp 40), 0, none⟩, ⟨(some 42), .fieldAddr 60 (.tmp 41) 2, 0, none⟩, ⟨(some 43), .load 3 (.tmp 42), 3, none⟩, ⟨(some 4), .assign (.tmp 43), 3, none⟩, ⟨(some 5), .assign (.const (.int .i64 0)), 26, none⟩]
theorem w9_15 : WXi EE n0 rd (.reg r9_15) t m (Q := ⟨Q⟩) = (n0 ≤ m.next ∧ XWi EE m.next [(0, ⟨(some 40), .move (.tmp 0), 25, none⟩), (1, ⟨(some 41), .nilCheck (.tmp 40), 0, none⟩), (2, ⟨(some 42), .fieldAddr 60 (.tmp 41) 2, 0, none⟩), (3, ⟨(some 43), .load 3 (.tmp 42), 3, none⟩), (4, ⟨(some 4), .assign (.tmp 43), 3, none⟩), (5, ⟨(some 5), .assign (.const (.int .i64 0)), 26, none⟩)] [] t (m.bump 6) (Q := ⟨fun _ => Q .normal⟩)) := by kernel_rfl
noncomputable def c9 : SCode := (.seq (.reg r9_0) (.seq (.block 0 c9_12) (.seq (.reg r9_13) (.seq (.dreg r9_14 [(0, []), (1, []), (2, []), (3, []), (4, []), (5, []), (6, []), (7, []), (8, []), (9, []), (10, [])]) (.seq (.reg r9_15) .ret)))))
theorem w9 : WXi EE n0 rd c9 t m (Q := ⟨Q⟩) = WXi EE n0 rd (.seq (.reg r9_0) (.seq (.block 0 c9_12) (.seq (.reg r9_13) (.seq (.dreg r9_14 [(0, []), (1, []), (2, []), (3, []), (4, []), (5, []), (6, []), (7, []), (8, []), (9, []), (10, [])]) (.seq (.reg r9_15) .ret))))) t m (Q := ⟨Q⟩) := rfl
noncomputable def f9 : SFunc := ⟨44, [.tmp 4, .tmp 5], c9⟩
-- RULES 9 w9_0, w9_1, w9_2, w9_3, w9_4, w9_5, w9_6, w9_7, w9_8, w9_9, w9_10, w9_11, w9_12, w9_13, w9_14, w9_15
theorem fn9 : fnOf EE.P 9 = some f9 := by kernel_rfl
/-! (*carryall/tree.Table).Exit -/
noncomputable def r10_0 : List SOp := [⟨(some 6), .assign (.const (.slice none 0 0)), 33, none⟩, ⟨(some 7), .assign (.const (.int .i64 0)), 26, none⟩]
theorem w10_0 : WXi EE n0 rd (.reg r10_0) t m (Q := ⟨Q⟩) = (n0 ≤ m.next ∧ XWi EE m.next [(0, ⟨(some 6), .assign (.const (.slice none 0 0)), 33, none⟩), (1, ⟨(some 7), .assign (.const (.int .i64 0)), 26, none⟩)] [] t (m.bump 2) (Q := ⟨fun _ => Q .normal⟩)) := by kernel_rfl
noncomputable def r10_1 : List SOp := [⟨(some 13), .move (.tmp 0), 25, none⟩, ⟨(some 14), .call ⟨.value (.func 27), #[(.tmp 13)], #[25]⟩, 4, none⟩, ⟨(some 12), .assign (.tmp 14), 4, none⟩]
theorem w10_1 : WXi EE n0 rd (.reg r10_1) t m (Q := ⟨Q⟩) = (n0 ≤ m.next ∧ XWi EE m.next [(0, ⟨(some 13), .move (.tmp 0), 25, none⟩), (1, ⟨(some 14), .call ⟨.value (.func 27), #[(.tmp 13)], #[25]⟩, 4, none⟩), (2, ⟨(some 12), .assign (.tmp 14), 4, none⟩)] [] t (m.bump 3) (Q := ⟨fun _ => Q .normal⟩)) := by kernel_rfl
noncomputable def r10_2 : List SOp := [⟨(some 6), .assign (.const (.slice none 0 0)), 33, none⟩, ⟨(some 7), .assign (.const (.int .i64 1)), 26, none⟩]
theorem w10_2 : WXi EE n0 rd (.reg r10_2) t m (Q := ⟨Q⟩) = (n0 ≤ m.next ∧ XWi EE m.next [(0, ⟨(some 6), .assign (.const (.slice none 0 0)), 33, none⟩), (1, ⟨(some 7), .assign (.const (.int .i64 1)), 26, none⟩)] [] t (m.bump 2) (Q := ⟨fun _ => Q .normal⟩)) := by kernel_rfl
noncomputable def c10_3 : SCode := (.seq (.reg r10_2) .ret)
theorem w10_3 : WXi EE n0 rd c10_3 t m (Q := ⟨Q⟩) = WXi EE n0 rd (.seq (.reg r10_2) .ret) t m (Q := ⟨Q⟩) := rfl
noncomputable def r10_4 : List SOp := [⟨(some 16), .move (.tmp 0), 25, none⟩, ⟨(some 17), .move (.tmp 1), 3, none⟩, ⟨(some 18), .call ⟨.value (.func 17), #[(.tmp 16), (.tmp 17)], #[25, 3]⟩, 3, none⟩, ⟨(some 19), .binOp .neq 3 (.tmp 18) (.const (.int .i64 1)) 3, 4, none⟩, ⟨(some 20), .move (.tmp 19), 4, none⟩, ⟨(some 21), .move (.tmp 1), 3, (some (20, false))⟩, ⟨(some 22), .binOp .eql 3 (.tmp 21) (.const (.int .i64 1)) 3, 4, (some (20, false))⟩, ⟨(some 23), .pick (.tmp 20) (.const (.bool true)) (.tmp 22), 4, none⟩, ⟨(some 15), .assign (.tmp 23), 4, none⟩]
theorem w10_4 : WXi EE n0 rd (.reg r10_4) t m (Q := ⟨Q⟩) = (n0 ≤ m.next ∧ XWi EE m.next [(0, ⟨(some 16), .move (.tmp 0), 25, none⟩), (1, ⟨(some 17), .move (.tmp 1), 3, none⟩), (2, ⟨(some 18), .call ⟨.value (.func 17), #[(.tmp 16), (.tmp 17)], #[25, 3]⟩, 3, none⟩), (3, ⟨(some 19), .binOp .neq 3 (.tmp 18) (.const (.int .i64 1)) 3, 4, none⟩), (4, ⟨(some 20), .move (.tmp 19), 4, none⟩), (5, ⟨(some 21), .move (.tmp 1), 3, (some (20, false))⟩), (6, ⟨(some 22), .binOp .eql 3 (.tmp 21) (.const (.int .i64 1)) 3, 4, (some (20, false))⟩), (7, ⟨(some 23), .pick (.tmp 20) (.const (.bool true)) (.tmp 22), 4, none⟩), (8, ⟨(some 15), .assign (.tmp 23), 4, none⟩)] [] t (m.bump 9) (Q := ⟨fun _ => Q .normal⟩)) := by kernel_rfl
noncomputable def r10_5 : List SOp := [⟨(some 6), .assign (.const (.slice none 0 0)), 33, none⟩, ⟨(some 7), .assign (.const (.int .i64 2)), 26, none⟩]
theorem w10_5 : WXi EE n0 rd (.reg r10_5) t m (Q := ⟨Q⟩) = (n0 ≤ m.next ∧ XWi EE m.next [(0, ⟨(some 6), .assign (.const (.slice none 0 0)), 33, none⟩), (1, ⟨(some 7), .assign (.const (.int .i64 2)), 26, none⟩)] [] t (m.bump 2) (Q := ⟨fun _ => Q .normal⟩)) := by kernel_rfl
noncomputable def c10_6 : SCode := (.seq (.reg r10_5) .ret)
theorem w10_6 : WXi EE n0 rd c10_6 t m (Q := ⟨Q⟩) = WXi EE n0 rd (.seq (.reg r10_5) .ret) t m (Q := ⟨Q⟩) := rfl
noncomputable def c10_7 : SCode := (.seq (.reg r10_4) (.cond (.tmp 15) c10_6 .skip))
theorem w10_7 : WXi EE n0 rd c10_7 t m (Q := ⟨Q⟩) = WXi EE n0 rd (.seq (.reg r10_4) (.cond (.tmp 15) c10_6 .skip)) t m (Q := ⟨Q⟩) := rfl
noncomputable def c10_8 : SCode := (.seq (.reg r10_1) (.cond (.tmp 12) c10_3 c10_7))
theorem w10_8 : WXi EE n0 rd c10_8 t m (Q := ⟨Q⟩) = WXi EE n0 rd (.seq (.reg r10_1) (.cond (.tmp 12) c10_3 c10_7)) t m (Q := ⟨Q⟩) := rfl
noncomputable def r10_9 : List SOp := [⟨(some 24), .move (.tmp 0), 25, none⟩, ⟨(some 25), .nilCheck (.tmp 24), 0, none⟩, ⟨(some 26), .fieldAddr 60 (.tmp 25) 1, 0, none⟩, ⟨(some 27), .load 58 (.tmp 26), 58, none⟩, ⟨(some 28), .move (.tmp 1), 3, none⟩, ⟨(some 29), .move (.tmp 0), 25, none⟩, ⟨(some 30), .nilCheck (.tmp 29), 0, none⟩, ⟨(some 31), .fieldAddr 60 (.tmp 30) 1, 0, none⟩, ⟨(some 32), .load 58 (.tmp 31), 58, none⟩, ⟨(some 33), .move (.tmp 1), 3, none⟩, ⟨(some 34), .lookup 58 (.tmp 32) (.tmp 33) false, 57, none⟩, ⟨(some 35), .field 57 (.tmp 34) 0, 3, none⟩, ⟨(some 36), .move (.tmp 2), 23, none⟩, ⟨(some 37), .build 57 #[(0, (.tmp 35)), (1, (.const (.int .i64 2))), (2, (.tmp 36))], 57, none⟩, ⟨none, .mapUpdate 58 (.tmp 27) (.tmp 28) (.tmp 37), 0, none⟩]
theorem w10_9 : WXi EE n0 rd (.dreg r10_9 [(0, []), (1, []), (2, []), (3, []), (4, []), (5, []), (6, []), (7, []), (8, []), (9, []), (10, []), (11, []), (12, []), (13, []), (14, [])]) t m (Q := ⟨Q⟩) = (n0 ≤ m.next ∧ XWi EE m.next [(0, ⟨(some 24), .move (.tmp 0), 25, none⟩), (1, ⟨(some 25), .nilCheck (.tmp 24), 0, none⟩), (2, ⟨(some 26), .fieldAddr 60 (.tmp 25) 1, 0, none⟩), (3, ⟨(some 27), .load 58 (.tmp 26), 58, none⟩), (4, ⟨(some 28), .move (.tmp 1), 3, none⟩), (5, ⟨(some 29), .move (.tmp 0), 25, none⟩), (6, ⟨(some 30), .nilCheck (.tmp 29), 0, none⟩), (7, ⟨(some 31), .fieldAddr 60 (.tmp 30) 1, 0, none⟩), (8, ⟨(some 32), .load 58 (.tmp 31), 58, none⟩), (9, ⟨(some 33), .move (.tmp 1), 3, none⟩), (10, ⟨(some 34), .lookup 58 (.tmp 32) (.tmp 33) false, 57, none⟩), (11, ⟨(some 35), .field 57 (.tmp 34) 0, 3, none⟩), (12, ⟨(some 36), .move (.tmp 2), 23, none⟩), (13, ⟨(some 37), .build 57 #[(0, (.tmp 35)), (1, (.const (.int .i64 2))), (2, (.tmp 36))], 57, none⟩), (14, ⟨none, .mapUpdate 58 (.tmp 27) (.tmp 28) (.tmp 37), 0, none⟩)] [] t (m.bump 15) (Q := ⟨fun _ => Q .normal⟩)) := by kernel_rfl
noncomputable def r10_10 : List SOp := [⟨(some 38), .move (.tmp 0), 25, none⟩, ⟨(some 39), .move (.tmp 1), 3, none⟩, ⟨(some 40), .call ⟨.value (.func 13), #[(.tmp 38), (.tmp 39)], #[25, 3]⟩, 33, none⟩, ⟨(some 8), .assign (.tmp 40), 33, none⟩]
theorem w10_10 : WXi EE n0 rd (.reg r10_10) t m (Q := ⟨Q⟩) = (n0 ≤ m.next ∧ XWi EE m.next [(0, ⟨(some 38), .move (.tmp 0), 25, none⟩), (1, ⟨(some 39), .move (.tmp 1), 3, none⟩), (2, ⟨(some 40), .call ⟨.value (.func 13), #[(.tmp 38), (.tmp 39)], #[25, 3]⟩, 33, none⟩), (3, ⟨(some 8), .assign (.tmp 40), 33, none⟩)] [] t (m.bump 4) (Q := ⟨fun _ => Q .normal⟩)) := by kernel_rfl
noncomputable def r10_11 : List SOp := [⟨(some 41), .move (.tmp 8), 33, none⟩, ⟨(some 42), .call ⟨.builtin .len, #[(.tmp 41)], #[33]⟩, 3, none⟩, ⟨(some 43), .move (.const (.int .i64 0)), 3, none⟩]
theorem w10_11 : WXi EE n0 rd (.reg r10_11) t m (Q := ⟨Q⟩) = (n0 ≤ m.next ∧ XWi EE m.next [(0, ⟨(some 41), .move (.tmp 8), 33, none⟩), (1, ⟨(some 42), .call ⟨.builtin .len, #[(.tmp 41)], #[33]⟩, 3, none⟩), (2, ⟨(some 43), .move (.const (.int .i64 0)), 3, none⟩)] [] t (m.bump 3) (Q := ⟨fun _ => Q .normal⟩)) := by kernel_rfl
noncomputable def r10_12 : List SOp := [⟨(some 44), .binOp .lss 3 (.tmp 43) (.tmp 42) 3, 0, none⟩]
theorem w10_12 : WXi EE n0 rd (.reg r10_12) t m (Q := ⟨Q⟩) = (n0 ≤ m.next ∧ XWi EE m.next [(0, ⟨(some 44), .binOp .lss 3 (.tmp 43) (.tmp 42) 3, 0, none⟩)] [] t (m.bump 1) (Q := ⟨fun _ => Q .normal⟩)) := by kernel_rfl
noncomputable def r10_13 : List SOp := [⟨(some 45), .indexAddr 33 (.tmp 41) (.tmp 43), 0, none⟩, ⟨(some 46), .load 3 (.tmp 45), 3, none⟩, ⟨(some 10), .assign (.tmp 46), 3, none⟩]
theorem w10_13 : WXi EE n0 rd (.reg r10_13) t m (Q := ⟨Q⟩) = (n0 ≤ m.next ∧ XWi EE m.next [(0, ⟨(some 45), .indexAddr 33 (.tmp 41) (.tmp 43), 0, none⟩), (1, ⟨(some 46), .load 3 (.tmp 45), 3, none⟩), (2, ⟨(some 10), .assign (.tmp 46), 3, none⟩)] [] t (m.bump 3) (Q := ⟨fun _ => Q .normal⟩)) := by kernel_rfl
noncomputable def r10_14 : List SOp := [⟨(some 47), .move (.tmp 0), 25, none⟩, ⟨(some 48), .nilCheck (.tmp 47), 0, none⟩, ⟨(some 49), .fieldAddr 60 (.tmp 48) 1, 0, none⟩, ⟨(some 50), .load 58 (.tmp 49), 58, none⟩, ⟨(some 51), .move (.tmp 10), 3, none⟩, ⟨(some 52), .lookup 58 (.tmp 50) (.tmp 51) false, 57, none⟩, ⟨(some 11), .alloc 57, 0, none⟩, ⟨none, .store 57 (.tmp 11) (.tmp 52), 0, none⟩]
theorem w10_14 : WXi EE n0 rd (.reg r10_14) t m (Q := ⟨Q⟩) = (n0 ≤ m.next ∧ XWi EE m.next [(0, ⟨(some 47), .move (.tmp 0), 25, none⟩), (1, ⟨(some 48), .nilCheck (.tmp 47), 0, none⟩), (2, ⟨(some 49), .fieldAddr 60 (.tmp 48) 1, 0, none⟩), (3, ⟨(some 50), .load 58 (.tmp 49), 58, none⟩), (4, ⟨(some 51), .move (.tmp 10), 3, none⟩), (5, ⟨(some 52), .lookup 58 (.tmp 50) (.tmp 51) false, 57, none⟩), (6, ⟨(some 11), .alloc 57, 0, none⟩), (7, ⟨none, .store 57 (.tmp 11) (.tmp 52), 0, none⟩)] [] t (m.bump 8) (Q := ⟨fun _ => Q .normal⟩)) := by kernel_rfl
noncomputable def r10_15 : List SOp := [⟨(some 53), .fieldAddr 57 (.tmp 11) 0, 0, none⟩, ⟨none, .store 3 (.tmp 53) (.const (.int .i64 1)), 0, none⟩]
theorem w10_15 : WXi EE n0 rd (.reg r10_15) t m (Q := ⟨Q⟩) = (n0 ≤ m.next ∧ XWi EE m.next [(0, ⟨(some 53), .fieldAddr 57 (.tmp 11) 0, 0, none⟩), (1, ⟨none, .store 3 (.tmp 53) (.const (.int .i64 1)), 0, none⟩)] [] t (m.bump 2) (Q := ⟨fun _ => Q .normal⟩)) := by kernel_rfl
noncomputable def r10_16 : List SOp := [⟨(some 54), .move (.tmp 0), 25, none⟩, ⟨(some 55), .nilCheck (.tmp 54), 0, none⟩, ⟨(some 56), .fieldAddr 60 (.tmp 55) 1, 0, none⟩, ⟨(some 57), .load 58 (.tmp 56), 58, none⟩, ⟨(some 58), .move (.tmp 10), 3, none⟩, ⟨(some 59), .load 57 (.tmp 11), 57, none⟩, ⟨none, .mapUpdate 58 (.tmp 57) (.tmp 58) (.tmp 59), 0, none⟩]
theorem w10_16 : WXi EE n0 rd (.dreg r10_16 [(0, []), (1, []), (2, []), (3, []), (4, []), (5, []), (6, [])]) t m (Q := ⟨Q⟩) = (n0 ≤ m.next ∧ XWi EE m.next [(0, ⟨(some 54), .move (.tmp 0), 25, none⟩), (1, ⟨(some 55), .nilCheck (.tmp 54), 0, none⟩), (2, ⟨(some 56), .fieldAddr 60 (.tmp 55) 1, 0, none⟩), (3, ⟨(some 57), .load 58 (.tmp 56), 58, none⟩), (4, ⟨(some 58), .move (.tmp 10), 3, none⟩), (5, ⟨(some 59), .load 57 (.tmp 11), 57, none⟩), (6, ⟨none, .mapUpdate 58 (.tmp 57) (.tmp 58) (.tmp 59), 0, none⟩)] [] t (m.bump 7) (Q := ⟨fun _ => Q .normal⟩)) := by kernel_rfl
noncomputable def c10_17 : SCode := (.seq (.reg r10_13) (.seq (.reg r10_14) (.seq (.reg r10_15) (.dreg r10_16 [(0, []), (1, []), (2, []), (3, []), (4, []), (5, []), (6, [])]))))
theorem w10_17 : WXi EE n0 rd c10_17 t m (Q := ⟨Q⟩) = WXi EE n0 rd (.seq (.reg r10_13) (.seq (.reg r10_14) (.seq (.reg r10_15) (.dreg r10_16 [(0, []), (1, []), (2, []), (3, []), (4, []), (5, []), (6, [])])))) t m (Q := ⟨Q⟩) := rfl
noncomputable def r10_18 : List SOp := [⟨(some 60), .binOp .add 3 (.tmp 43) (.const (.int .i64 1)) 3, 3, none⟩, ⟨(some 43), .move (.tmp 60), 3, none⟩]
theorem w10_18 : WXi EE n0 rd (.reg r10_18) t m (Q := ⟨Q⟩) = (n0 ≤ m.next ∧ XWi EE m.next [(0, ⟨(some 60), .binOp .add 3 (.tmp 43) (.const (.int .i64 1)) 3, 3, none⟩), (1, ⟨(some 43), .move (.tmp 60), 3, none⟩)] [] t (m.bump 2) (Q := ⟨fun _ => Q .normal⟩)) := by kernel_rfl
noncomputable def c10_19 : SCode := (.seq (.reg r10_12) (.seq (.cond (.tmp 44) .skip (.exit 1)) (.seq (.block 2 c10_17) (.reg r10_18))))
theorem w10_19 : WXi EE n0 rd c10_19 t m (Q := ⟨Q⟩) = WXi EE n0 rd (.seq (.reg r10_12) (.seq (.cond (.tmp 44) .skip (.exit 1)) (.seq (.block 2 c10_17) (.reg r10_18)))) t m (Q := ⟨Q⟩) := rfl
noncomputable def c10_20 : SCode := (.loop c10_19)
theorem w10_20 : WXi EE n0 rd c10_20 t m (Q := ⟨Q⟩) = WXi EE n0 rd (.loop c10_19) t m (Q := ⟨Q⟩) := rfl
noncomputable def r10_21 : List SOp := [⟨(some 61), .move (.tmp 8), 33, none⟩, ⟨(some 6), .assign (.tmp 61), 33, none⟩, ⟨(some 7), .assign (.const (.int .i64 0)), 26, none⟩]
theorem w10_21 : WXi EE n0 rd (.reg r10_21) t m (Q := ⟨Q⟩) = (n0 ≤ m.next ∧ XWi EE m.next [(0, ⟨(some 61), .move (.tmp 8), 33, none⟩), (1, ⟨(some 6), .assign (.tmp 61), 33, none⟩), (2, ⟨(some 7), .assign (.const (.int .i64 0)), 26, none⟩)] [] t (m.bump 3) (Q := ⟨fun _ => Q .normal⟩)) := by kernel_rfl
noncomputable def c10 : SCode := (.seq (.reg r10_0) (.seq (.block 0 c10_8) (.seq (.dreg r10_9 [(0, []), (1, []), (2, []), (3, []), (4, []), (5, []), (6, []), (7, []), (8, []), (9, []), (10, []), (11, []), (12, []), (13, []), (14, [])]) (.seq (.reg r10_10) (.seq (.seq (.reg r10_11) (.block 1 c10_20)) (.seq (.reg r10_21) .ret))))))
theorem w10 : WXi EE n0 rd c10 t m (Q := ⟨Q⟩) = WXi EE n0 rd (.seq (.reg r10_0) (.seq (.block 0 c10_8) (.seq (.dreg r10_9 [(0, []), (1, []), (2, []), (3, []), (4, []), (5, []), (6, []), (7, []), (8, []), (9, []), (10, []), (11, []), (12, []), (13, []), (14, [])]) (.seq (.reg r10_10) (.seq (.seq (.reg r10_11) (.block 1 c10_20)) (.seq (.reg r10_21) .ret)))))) t m (Q := ⟨Q⟩) := rfl
noncomputable def f10 : SFunc := ⟨62, [.tmp 6, .tmp 7], c10⟩
-- RULES 10 w10_0, w10_1, w10_2, w10_3, w10_4, w10_5, w10_6, w10_7, w10_8, w10_9, w10_10, w10_11, w10_12, w10_13, w10_14, w10_15, w10_16, w10_17, w10_18, w10_19, w10_20, w10_21
theorem fn10 : fnOf EE.P 10 = some f10 := by kernel_rfl
/-! (*carryall/tree.Table).Reap -/
noncomputable def r11_0 : List SOp := [⟨(some 4), .assign (.const (.int .i64 0)), 3, none⟩, ⟨(some 5), .assign (.const (.int .u32 0)), 23, none⟩, ⟨(some 6), .assign (.const (.int .i64 0)), 26, none⟩]
theorem w11_0 : WXi EE n0 rd (.reg r11_0) t m (Q := ⟨Q⟩) = (n0 ≤ m.next ∧ XWi EE m.next [(0, ⟨(some 4), .assign (.const (.int .i64 0)), 3, none⟩), (1, ⟨(some 5), .assign (.const (.int .u32 0)), 23, none⟩), (2, ⟨(some 6), .assign (.const (.int .i64 0)), 26, none⟩)] [] t (m.bump 3) (Q := ⟨fun _ => Q .normal⟩)) := by kernel_rfl
noncomputable def r11_1 : List SOp := [⟨(some 8), .move (.tmp 0), 25, none⟩, ⟨(some 9), .move (.tmp 1), 3, none⟩, ⟨(some 10), .call ⟨.value (.func 26), #[(.tmp 8), (.tmp 9)], #[25, 3]⟩, 36, none⟩, ⟨(some 7), .move (.tmp 10), 36, none⟩, ⟨(some 11), .extract (.tmp 7) 0, 3, none⟩, ⟨(some 12), .extract (.tmp 7) 1, 23, none⟩, ⟨(some 13), .extract (.tmp 7) 2, 26, none⟩, ⟨(some 4), .assign (.tmp 11), 3, none⟩, ⟨(some 5), .assign (.tmp 12), 23, none⟩, ⟨(some 6), .assign (.tmp 13), 26, none⟩]
theorem w11_1 : WXi EE n0 rd (.reg r11_1) t m (Q := ⟨Q⟩) = (n0 ≤ m.next ∧ XWi EE m.next [(0, ⟨(some 8), .move (.tmp 0), 25, none⟩), (1, ⟨(some 9), .move (.tmp 1), 3, none⟩), (2, ⟨(some 10), .call ⟨.value (.func 26), #[(.tmp 8), (.tmp 9)], #[25, 3]⟩, 36, none⟩), (3, ⟨(some 7), .move (.tmp 10), 36, none⟩), (4, ⟨(some 11), .extract (.tmp 7) 0, 3, none⟩), (5, ⟨(some 12), .extract (.tmp 7) 1, 23, none⟩), (6, ⟨(some 13), .extract (.tmp 7) 2, 26, none⟩), (7, ⟨(some 4), .assign (.tmp 11), 3, none⟩), (8, ⟨(some 5), .assign (.tmp 12), 23, none⟩), (9, ⟨(some 6), .assign (.tmp 13), 26, none⟩)] [] t (m.bump 10) (Q := ⟨fun _ => Q .normal⟩)) := by kernel_rfl
noncomputable def r11_2 : List SOp := [⟨(some 14), .move (.tmp 6), 26, none⟩, ⟨(some 15), .binOp .eql 26 (.tmp 14) (.const (.int .i64 0)) 26, 4, none⟩]
theorem w11_2 : WXi EE n0 rd (.reg r11_2) t m (Q := ⟨Q⟩) = (n0 ≤ m.next ∧ XWi EE m.next [(0, ⟨(some 14), .move (.tmp 6), 26, none⟩), (1, ⟨(some 15), .binOp .eql 26 (.tmp 14) (.const (.int .i64 0)) 26, 4, none⟩)] [] t (m.bump 2) (Q := ⟨fun _ => Q .normal⟩)) := by kernel_rfl
noncomputable def r11_3 : List SOp := [⟨(some 16), .move (.tmp 0), 25, none⟩, ⟨(some 17), .nilCheck (.tmp 16), 0, none⟩, ⟨(some 18), .fieldAddr 60 (.tmp 17) 1, 0, none⟩, ⟨(some 19), .load 58 (.tmp 18), 58, none⟩, ⟨(some 20), .move (.tmp 4), 3, none⟩, ⟨none, .call ⟨.builtin .delete, #[(.tmp 19), (.tmp 20)], #[58, 3]⟩, 0, none⟩]
theorem w11_3 : WXi EE n0 rd (.reg r11_3) t m (Q := ⟨Q⟩) = (n0 ≤ m.next ∧ XWi EE m.next [(0, ⟨(some 16), .move (.tmp 0), 25, none⟩), (1, ⟨(some 17), .nilCheck (.tmp 16), 0, none⟩), (2, ⟨(some 18), .fieldAddr 60 (.tmp 17) 1, 0, none⟩), (3, ⟨(some 19), .load 58 (.tmp 18), 58, none⟩), (4, ⟨(some 20), .move (.tmp 4), 3, none⟩), (5, ⟨none, .call ⟨.builtin .delete, #[(.tmp 19), (.tmp 20)], #[58, 3]⟩, 0, none⟩)] [] t (m.bump 6) (Q := ⟨fun _ => Q .normal⟩)) := by kernel_rfl
noncomputable def c11_4 : SCode := (.reg r11_3)
theorem w11_4 : WXi EE n0 rd c11_4 t m (Q := ⟨Q⟩) = WXi EE n0 rd (.reg r11_3) t m (Q := ⟨Q⟩) := rfl
noncomputable def r11_5 : List SOp := [⟨(some 21), .move (.tmp 4), 3, none⟩, ⟨(some 22), .move (.tmp 5), 23, none⟩, ⟨(some 23), .move (.tmp 6), 26, none⟩, ⟨(some 4), .assign (.tmp 21), 3, none⟩, ⟨(some 5), .assign (.tmp 22), 23, none⟩, ⟨(some 6), .assign (.tmp 23), 26, none⟩]
theorem w11_5 : WXi EE n0 rd (.reg r11_5) t m (Q := ⟨Q⟩) = (n0 ≤ m.next ∧ XWi EE m.next [(0, ⟨(some 21), .move (.tmp 4), 3, none⟩), (1, ⟨(some 22), .move (.tmp 5), 23, none⟩), (2, ⟨(some 23), .move (.tmp 6), 26, none⟩), (3, ⟨(some 4), .assign (.tmp 21), 3, none⟩), (4, ⟨(some 5), .assign (.tmp 22), 23, none⟩), (5, ⟨(some 6), .assign (.tmp 23), 26, none⟩)] [] t (m.bump 6) (Q := ⟨fun _ => Q .normal⟩)) := by kernel_rfl
noncomputable def c11 : SCode := (.seq (.reg r11_0) (.seq (.reg r11_1) (.seq (.seq (.reg r11_2) (.cond (.tmp 15) c11_4 .skip)) (.seq (.reg r11_5) .ret))))
theorem w11 : WXi EE n0 rd c11 t m (Q := ⟨Q⟩) = WXi EE n0 rd (.seq (.reg r11_0) (.seq (.reg r11_1) (.seq (.seq (.reg r11_2) (.cond (.tmp 15) c11_4 .skip)) (.seq (.reg r11_5) .ret)))) t m (Q := ⟨Q⟩) := rfl
noncomputable def f11 : SFunc := ⟨24, [.tmp 4, .tmp 5, .tmp 6], c11⟩
-- RULES 11 w11_0, w11_1, w11_2, w11_3, w11_4, w11_5
theorem fn11 : fnOf EE.P 11 = some f11 := by kernel_rfl
/-! (*carryall/tree.Table).Freeze -/
noncomputable def r12_0 : List SOp := [⟨(some 4), .assign (.const (.slice none 0 0)), 33, none⟩, ⟨(some 5), .assign (.const (.int .i64 0)), 26, none⟩]
theorem w12_0 : WXi EE n0 rd (.reg r12_0) t m (Q := ⟨Q⟩) = (n0 ≤ m.next ∧ XWi EE m.next [(0, ⟨(some 4), .assign (.const (.slice none 0 0)), 33, none⟩), (1, ⟨(some 5), .assign (.const (.int .i64 0)), 26, none⟩)] [] t (m.bump 2) (Q := ⟨fun _ => Q .normal⟩)) := by kernel_rfl
noncomputable def r12_1 : List SOp := [⟨(some 10), .move (.tmp 0), 25, none⟩, ⟨(some 11), .call ⟨.value (.func 27), #[(.tmp 10)], #[25]⟩, 4, none⟩, ⟨(some 9), .assign (.tmp 11), 4, none⟩]
theorem w12_1 : WXi EE n0 rd (.reg r12_1) t m (Q := ⟨Q⟩) = (n0 ≤ m.next ∧ XWi EE m.next [(0, ⟨(some 10), .move (.tmp 0), 25, none⟩), (1, ⟨(some 11), .call ⟨.value (.func 27), #[(.tmp 10)], #[25]⟩, 4, none⟩), (2, ⟨(some 9), .assign (.tmp 11), 4, none⟩)] [] t (m.bump 3) (Q := ⟨fun _ => Q .normal⟩)) := by kernel_rfl
noncomputable def r12_2 : List SOp := [⟨(some 4), .assign (.const (.slice none 0 0)), 33, none⟩, ⟨(some 5), .assign (.const (.int .i64 1)), 26, none⟩]
theorem w12_2 : WXi EE n0 rd (.reg r12_2) t m (Q := ⟨Q⟩) = (n0 ≤ m.next ∧ XWi EE m.next [(0, ⟨(some 4), .assign (.const (.slice none 0 0)), 33, none⟩), (1, ⟨(some 5), .assign (.const (.int .i64 1)), 26, none⟩)] [] t (m.bump 2) (Q := ⟨fun _ => Q .normal⟩)) := by kernel_rfl
noncomputable def c12_3 : SCode := (.seq (.reg r12_2) .ret)
theorem w12_3 : WXi EE n0 rd c12_3 t m (Q := ⟨Q⟩) = WXi EE n0 rd (.seq (.reg r12_2) .ret) t m (Q := ⟨Q⟩) := rfl
noncomputable def r12_4 : List SOp := [⟨(some 13), .move (.tmp 0), 25, none⟩, ⟨(some 14), .move (.tmp 1), 3, none⟩, ⟨(some 15), .call ⟨.value (.func 17), #[(.tmp 13), (.tmp 14)], #[25, 3]⟩, 3, none⟩, ⟨(some 16), .binOp .neq 3 (.tmp 15) (.const (.int .i64 1)) 3, 4, none⟩, ⟨(some 17), .move (.tmp 16), 4, none⟩, ⟨(some 18), .move (.tmp 1), 3, (some (17, false))⟩, ⟨(some 19), .binOp .eql 3 (.tmp 18) (.const (.int .i64 1)) 3, 4, (some (17, false))⟩, ⟨(some 20), .pick (.tmp 17) (.const (.bool true)) (.tmp 19), 4, none⟩, ⟨(some 12), .assign (.tmp 20), 4, none⟩]
theorem w12_4 : WXi EE n0 rd (.reg r12_4) t m (Q := ⟨Q⟩) = (n0 ≤ m.next ∧ XWi EE m.next [(0, ⟨(some 13), .move (.tmp 0), 25, none⟩), (1, ⟨(some 14), .move (.tmp 1), 3, none⟩), (2, ⟨(some 15), .call ⟨.value (.func 17), #[(.tmp 13), (.tmp 14)], #[25, 3]⟩, 3, none⟩), (3, ⟨(some 16), .binOp .neq 3 (.tmp 15) (.const (.int .i64 1)) 3, 4, none⟩), (4, ⟨(some 17), .move (.tmp 16), 4, none⟩), (5, ⟨(some 18), .move (.tmp 1), 3, (some (17, false))⟩), (6, ⟨(some 19), .binOp .eql 3 (.tmp 18) (.const (.int .i64 1)) 3, 4, (some (17, false))⟩), (7, ⟨(some 20), .pick (.tmp 17) (.const (.bool true)) (.tmp 19), 4, none⟩), (8, ⟨(some 12), .assign (.tmp 20), 4, none⟩)] [] t (m.bump 9) (Q := ⟨fun _ => Q .normal⟩)) := by kernel_rfl
noncomputable def r12_5 : List SOp := [⟨(some 4), .assign (.const (.slice none 0 0)), 33, none⟩, ⟨(some 5), .assign (.const (.int .i64 2)), 26, none⟩]
theorem w12_5 : WXi EE n0 rd (.reg r12_5) t m (Q := ⟨Q⟩) = (n0 ≤ m.next ∧ XWi EE m.next [(0, ⟨(some 4), .assign (.const (.slice none 0 0)), 33, none⟩), (1, ⟨(some 5), .assign (.const (.int .i64 2)), 26, none⟩)] [] t (m.bump 2) (Q := ⟨fun _ => Q .normal⟩)) := by kernel_rfl
noncomputable def c12_6 : SCode := (.seq (.reg r12_5) .ret)
theorem w12_6 : WXi EE n0 rd c12_6 t m (Q := ⟨Q⟩) = WXi EE n0 rd (.seq (.reg r12_5) .ret) t m (Q := ⟨Q⟩) := rfl
noncomputable def c12_7 : SCode := (.seq (.reg r12_4) (.cond (.tmp 12) c12_6 .skip))
theorem w12_7 : WXi EE n0 rd c12_7 t m (Q := ⟨Q⟩) = WXi EE n0 rd (.seq (.reg r12_4) (.cond (.tmp 12) c12_6 .skip)) t m (Q := ⟨Q⟩) := rfl
noncomputable def c12_8 : SCode := (.seq (.reg r12_1) (.cond (.tmp 9) c12_3 c12_7))
theorem w12_8 : WXi EE n0 rd c12_8 t m (Q := ⟨Q⟩) = WXi EE n0 rd (.seq (.reg r12_1) (.cond (.tmp 9) c12_3 c12_7)) t m (Q := ⟨Q⟩) := rfl
noncomputable def r12_9 : List SOp := [⟨(some 21), .move (.tmp 0), 25, none⟩, ⟨(some 22), .move (.tmp 1), 3, none⟩, ⟨(some 23), .call ⟨.value (.func 20), #[(.tmp 21), (.tmp 22)], #[25, 3]⟩, 33, none⟩, ⟨(some 6), .assign (.tmp 23), 33, none⟩]
theorem w12_9 : WXi EE n0 rd (.reg r12_9) t m (Q := ⟨Q⟩) = (n0 ≤ m.next ∧ XWi EE m.next [(0, ⟨(some 21), .move (.tmp 0), 25, none⟩), (1, ⟨(some 22), .move (.tmp 1), 3, none⟩), (2, ⟨(some 23), .call ⟨.value (.func 20), #[(.tmp 21), (.tmp 22)], #[25, 3]⟩, 33, none⟩), (3, ⟨(some 6), .assign (.tmp 23), 33, none⟩)] [] t (m.bump 4) (Q := ⟨fun _ => Q .normal⟩)) := by kernel_rfl
noncomputable def r12_10 : List SOp := [⟨(some 24), .move (.tmp 6), 33, none⟩, ⟨(some 25), .call ⟨.builtin .len, #[(.tmp 24)], #[33]⟩, 3, none⟩, ⟨(some 26), .move (.const (.int .i64 0)), 3, none⟩]
theorem w12_10 : WXi EE n0 rd (.reg r12_10) t m (Q := ⟨Q⟩) = (n0 ≤ m.next ∧ XWi EE m.next [(0, ⟨(some 24), .move (.tmp 6), 33, none⟩), (1, ⟨(some 25), .call ⟨.builtin .len, #[(.tmp 24)], #[33]⟩, 3, none⟩), (2, ⟨(some 26), .move (.const (.int .i64 0)), 3, none⟩)] [] t (m.bump 3) (Q := ⟨fun _ => Q .normal⟩)) := by kernel_rfl
noncomputable def r12_11 : List SOp := [⟨(some 27), .binOp .lss 3 (.tmp 26) (.tmp 25) 3, 0, none⟩]
theorem w12_11 : WXi EE n0 rd (.reg r12_11) t m (Q := ⟨Q⟩) = (n0 ≤ m.next ∧ XWi EE m.next [(0, ⟨(some 27), .binOp .lss 3 (.tmp 26) (.tmp 25) 3, 0, none⟩)] [] t (m.bump 1) (Q := ⟨fun _ => Q .normal⟩)) := by kernel_rfl
noncomputable def r12_12 : List SOp := [⟨(some 28), .indexAddr 33 (.tmp 24) (.tmp 26), 0, none⟩, ⟨(some 29), .load 3 (.tmp 28), 3, none⟩, ⟨(some 8), .assign (.tmp 29), 3, none⟩]
theorem w12_12 : WXi EE n0 rd (.reg r12_12) t m (Q := ⟨Q⟩) = (n0 ≤ m.next ∧ XWi EE m.next [(0, ⟨(some 28), .indexAddr 33 (.tmp 24) (.tmp 26), 0, none⟩), (1, ⟨(some 29), .load 3 (.tmp 28), 3, none⟩), (2, ⟨(some 8), .assign (.tmp 29), 3, none⟩)] [] t (m.bump 3) (Q := ⟨fun _ => Q .normal⟩)) := by kernel_rfl
noncomputable def r12_13 : List SOp := [⟨(some 30), .move (.tmp 0), 25, none⟩, ⟨(some 31), .nilCheck (.tmp 30), 0, none⟩, ⟨(some 32), .fieldAddr 60 (.tmp 31) 1, 0, none⟩, ⟨(some 33), .load 58 (.tmp 32), 58, none⟩, ⟨(some 34), .move (.tmp 8), 3, none⟩, ⟨(some 35), .move (.tmp 0), 25, none⟩, ⟨(some 36), .nilCheck (.tmp 35), 0, none⟩, ⟨(some 37), .fieldAddr 60 (.tmp 36) 1, 0, none⟩, ⟨(some 38), .load 58 (.tmp 37), 58, none⟩, ⟨(some 39), .move (.tmp 8), 3, none⟩, ⟨(some 40), .lookup 58 (.tmp 38) (.tmp 39) false, 57, none⟩, ⟨(some 41), .field 57 (.tmp 40) 0, 3, none⟩, ⟨(some 42), .build 57 #[(0, (.tmp 41)), (1, (.const (.int .i64 3)))], 57, none⟩, ⟨none, .mapUpdate 58 (.tmp 33) (.tmp 34) (.tmp 42), 0, none⟩]
theorem w12_13 : WXi EE n0 rd (.dreg r12_13 [(0, []), (1, []), (2, []), (3, []), (4, []), (5, []), (6, []), (7, []), (8, []), (9, []), (10, []), (11, []), (12, []), (13, [])]) t m (Q := ⟨Q⟩) = (n0 ≤ m.next ∧ XWi EE m.next [(0, ⟨(some 30), .move (.tmp 0), 25, none⟩), (1, ⟨(some 31), .nilCheck (.tmp 30), 0, none⟩), (2, ⟨(some 32), .fieldAddr 60 (.tmp 31) 1, 0, none⟩), (3, ⟨(some 33), .load 58 (.tmp 32), 58, none⟩), (4, ⟨(some 34), .move (.tmp 8), 3, none⟩), (5, ⟨(some 35), .move (.tmp 0), 25, none⟩), (6, ⟨(some 36), .nilCheck (.tmp 35), 0, none⟩), (7, ⟨(some 37), .fieldAddr 60 (.tmp 36) 1, 0, none⟩), (8, ⟨(some 38), .load 58 (.tmp 37), 58, none⟩), (9, ⟨(some 39), .move (.tmp 8), 3, none⟩), (10, ⟨(some 40), .lookup 58 (.tmp 38) (.tmp 39) false, 57, none⟩), (11, ⟨(some 41), .field 57 (.tmp 40) 0, 3, none⟩), (12, ⟨(some 42), .build 57 #[(0, (.tmp 41)), (1, (.const (.int .i64 3)))], 57, none⟩), (13, ⟨none, .mapUpdate 58 (.tmp 33) (.tmp 34) (.tmp 42), 0, none⟩)] [] t (m.bump 14) (Q := ⟨fun _ => Q .normal⟩)) := by kernel_rfl
noncomputable def c12_14 : SCode := (.seq (.reg r12_12) (.dreg r12_13 [(0, []), (1, []), (2, []), (3, []), (4, []), (5, []), (6, []), (7, []), (8, []), (9, []), (10, []), (11, []), (12, []), (13, [])]))
theorem w12_14 : WXi EE n0 rd c12_14 t m (Q := ⟨Q⟩) = WXi EE n0 rd (.seq (.reg r12_12) (.dreg r12_13 [(0, []), (1, []), (2, []), (3, []), (4, []), (5, []), (6, []), (7, []), (8, []), (9, []), (10, []), (11, []), (12, []), (13, [])])) t m (Q := ⟨Q⟩) := rfl
noncomputable def r12_15 : List SOp := [⟨(some 43), .binOp .add 3 (.tmp 26) (.const (.int .i64 1)) 3, 3, none⟩, ⟨(some 26), .move (.tmp 43), 3, none⟩]
theorem w12_15 : WXi EE n0 rd (.reg r12_15) t m (Q := ⟨Q⟩) = (n0 ≤ m.next ∧ XWi EE m.next [(0, ⟨(some 43), .binOp .add 3 (.tmp 26) (.const (.int .i64 1)) 3, 3, none⟩), (1, ⟨(some 26), .move (.tmp 43), 3, none⟩)] [] t (m.bump 2) (Q := ⟨fun _ => Q .normal⟩)) := by kernel_rfl
noncomputable def c12_16 : SCode := (.seq (.reg r12_11) (.seq (.cond (.tmp 27) .skip (.exit 1)) (.seq (.block 2 c12_14) (.reg r12_15))))
theorem w12_16 : WXi EE n0 rd c12_16 t m (Q := ⟨Q⟩) = WXi EE n0 rd (.seq (.reg r12_11) (.seq (.cond (.tmp 27) .skip (.exit 1)) (.seq (.block 2 c12_14) (.reg r12_15)))) t m (Q := ⟨Q⟩) := rfl
noncomputable def c12_17 : SCode := (.loop c12_16)
theorem w12_17 : WXi EE n0 rd c12_17 t m (Q := ⟨Q⟩) = WXi EE n0 rd (.loop c12_16) t m (Q := ⟨Q⟩) := rfl
noncomputable def r12_18 : List SOp := [⟨(some 44), .move (.tmp 6), 33, none⟩, ⟨(some 4), .assign (.tmp 44), 33, none⟩, ⟨(some 5), .assign (.const (.int .i64 0)), 26, none⟩]
theorem w12_18 : WXi EE n0 rd (.reg r12_18) t m (Q := ⟨Q⟩) = (n0 ≤ m.next ∧ XWi EE m.next [(0, ⟨(some 44), .move (.tmp 6), 33, none⟩), (1, ⟨(some 4), .assign (.tmp 44), 33, none⟩), (2, ⟨(some 5), .assign (.const (.int .i64 0)), 26, none⟩)] [] t (m.bump 3) (Q := ⟨fun _ => Q .normal⟩)) := by kernel_rfl
noncomputable def c12 : SCode := (.seq (.reg r12_0) (.seq (.block 0 c12_8) (.seq (.reg r12_9) (.seq (.seq (.reg r12_10) (.block 1 c12_17)) (.seq (.reg r12_18) .ret)))))
theorem w12 : WXi EE n0 rd c12 t m (Q := ⟨Q⟩) = WXi EE n0 rd (.seq (.reg r12_0) (.seq (.block 0 c12_8) (.seq (.reg r12_9) (.seq (.seq (.reg r12_10) (.block 1 c12_17)) (.seq (.reg r12_18) .ret))))) t m (Q := ⟨Q⟩) := rfl
noncomputable def f12 : SFunc := ⟨45, [.tmp 4, .tmp 5], c12⟩
-- RULES 12 w12_0, w12_1, w12_2, w12_3, w12_4, w12_5, w12_6, w12_7, w12_8, w12_9, w12_10, w12_11, w12_12, w12_13, w12_14, w12_15, w12_16, w12_17, w12_18
theorem fn12 : fnOf EE.P 12 = some f12 := by kernel_rfl
/-! (*carryall/tree.Table).Children -/
noncomputable def r13_0 : List SOp := [⟨(some 4), .assign (.const (.slice none 0 0)), 33, none⟩]
theorem w13_0 : WXi EE n0 rd (.reg r13_0) t m (Q := ⟨Q⟩) = (n0 ≤ m.next ∧ XWi EE m.next [(0, ⟨(some 4), .assign (.const (.slice none 0 0)), 33, none⟩)] [] t (m.bump 1) (Q := ⟨fun _ => Q .normal⟩)) := by kernel_rfl
noncomputable def r13_1 : List SOp := [⟨(some 5), .alloc 33, 0, none⟩]
theorem w13_1 : WXi EE n0 rd (.reg r13_1) t m (Q := ⟨Q⟩) = (n0 ≤ m.next ∧ XWi EE m.next [(0, ⟨(some 5), .alloc 33, 0, none⟩)] [] t (m.bump 1) (Q := ⟨fun _ => Q .normal⟩)) := by kernel_rfl
noncomputable def r13_2 : List SOp := [⟨(some 7), .move (.tmp 0), 25, none⟩, ⟨(some 8), .move (.tmp 1), 3, none⟩, ⟨(some 9), .call ⟨.value (.func 28), #[(.tmp 7), (.tmp 8)], #[25, 3]⟩, 62, none⟩]
theorem w13_2 : WXi EE n0 rd (.reg r13_2) t m (Q := ⟨Q⟩) = (n0 ≤ m.next ∧ XWi EE m.next [(0, ⟨(some 7), .move (.tmp 0), 25, none⟩), (1, ⟨(some 8), .move (.tmp 1), 3, none⟩), (2, ⟨(some 9), .call ⟨.value (.func 28), #[(.tmp 7), (.tmp 8)], #[25, 3]⟩, 62, none⟩)] [] t (m.bump 3) (Q := ⟨fun _ => Q .normal⟩)) := by kernel_rfl
noncomputable def r13_3 : List SOp := [⟨(some 6), .assign (.tmp 10), 3, none⟩]
theorem w13_3 : WXi EE n0 rd (.reg r13_3) t m (Q := ⟨Q⟩) = (n0 ≤ m.next ∧ XWi EE m.next [(0, ⟨(some 6), .assign (.tmp 10), 3, none⟩)] [] t (m.bump 1) (Q := ⟨fun _ => Q .normal⟩)) := by kernel_rfl
noncomputable def c13_4 : SCode := (.reg r13_3)
theorem w13_4 : WXi EE n0 rd c13_4 t m (Q := ⟨Q⟩) = WXi EE n0 rd (.reg r13_3) t m (Q := ⟨Q⟩) := rfl
noncomputable def r13_5 : List SOp := [⟨(some 11), .load 33 (.tmp 5), 33, none⟩, ⟨(some 12), .move (.tmp 6), 3, none⟩, ⟨(some 13), .buildSlice 33 1 #[(0, (.tmp 12))], 33, none⟩, ⟨(some 14), .call ⟨.builtin .append, #[(.tmp 11), (.tmp 13)], #[33, 33]⟩, 33, none⟩, ⟨none, .store 33 (.tmp 5) (.tmp 14), 0, none⟩]
theorem w13_5 : WXi EE n0 rd (.reg r13_5) t m (Q := ⟨Q⟩) = (n0 ≤ m.next ∧ XWi EE m.next [(0, ⟨(some 11), .load 33 (.tmp 5), 33, none⟩), (1, ⟨(some 12), .move (.tmp 6), 3, none⟩), (2, ⟨(some 13), .buildSlice 33 1 #[(0, (.tmp 12))], 33, none⟩), (3, ⟨(some 14), .call ⟨.builtin .append, #[(.tmp 11), (.tmp 13)], #[33, 33]⟩, 33, none⟩), (4, ⟨none, .store 33 (.tmp 5) (.tmp 14), 0, none⟩)] [] t (m.bump 5) (Q := ⟨fun _ => Q .normal⟩)) := by kernel_rfl
noncomputable def c13_6 : SCode := (.reg r13_5)
theorem w13_6 : WXi EE n0 rd c13_6 t m (Q := ⟨Q⟩) = WXi EE n0 rd (.reg r13_5) t m (Q := ⟨Q⟩) := rfl
noncomputable def c13_7 : SCode := (.block 1 c13_6)
theorem w13_7 : WXi EE n0 rd c13_7 t m (Q := ⟨Q⟩) = WXi EE n0 rd (.block 1 c13_6) t m (Q := ⟨Q⟩) := rfl
noncomputable def c13_8 : SCode := (.rfn (.tmp 9) [10] c13_4 c13_7)
theorem w13_8 : WXi EE n0 rd c13_8 t m (Q := ⟨Q⟩) = WXi EE n0 rd (.rfn (.tmp 9) [10] c13_4 c13_7) t m (Q := ⟨Q⟩) := rfl
noncomputable def r13_9 : List SOp := [⟨(some 15), .load 33 (.tmp 5), 33, none⟩, ⟨(some 4), .assign (.tmp 15), 33, none⟩]
theorem w13_9 : WXi EE n0 rd (.reg r13_9) t m (Q := ⟨Q⟩) = (n0 ≤ m.next ∧ XWi EE m.next [(0, ⟨(some 15), .load 33 (.tmp 5), 33, none⟩), (1, ⟨(some 4), .assign (.tmp 15), 33, none⟩)] [] t (m.bump 2) (Q := ⟨fun _ => Q .normal⟩)) := by kernel_rfl
noncomputable def c13 : SCode := (.seq (.reg r13_0) (.seq (.reg r13_1) (.seq (.seq (.reg r13_2) (.block 0 c13_8)) (.seq (.reg r13_9) .ret))))
theorem w13 : WXi EE n0 rd c13 t m (Q := ⟨Q⟩) = WXi EE n0 rd (.seq (.reg r13_0) (.seq (.reg r13_1) (.seq (.seq (.reg r13_2) (.block 0 c13_8)) (.seq (.reg r13_9) .ret)))) t m (Q := ⟨Q⟩) := rfl
noncomputable def f13 : SFunc := ⟨16, [.tmp 4], c13⟩
-- RULES 13 w13_0, w13_1, w13_2, w13_3, w13_4, w13_5, w13_6, w13_7, w13_8, w13_9
theorem fn13 : fnOf EE.P 13 = some f13 := by kernel_rfl
/-! (*carryall/tree.Table).Parent -/
noncomputable def r14_0 : List SOp := [⟨(some 4), .assign (.const (.int .i64 0)), 3, none⟩]
theorem w14_0 : WXi EE n0 rd (.reg r14_0) t m (Q := ⟨Q⟩) = (n0 ≤ m.next ∧ XWi EE m.next [(0, ⟨(some 4), .assign (.const (.int .i64 0)), 3, none⟩)] [] t (m.bump 1) (Q := ⟨fun _ => Q .normal⟩)) := by kernel_rfl
noncomputable def r14_1 : List SOp := [⟨(some 5), .move (.tmp 0), 25, none⟩, ⟨(some 6), .call ⟨.value (.func 27), #[(.tmp 5)], #[25]⟩, 4, none⟩]
theorem w14_1 : WXi EE n0 rd (.reg r14_1) t m (Q := ⟨Q⟩) = (n0 ≤ m.next ∧ XWi EE m.next [(0, ⟨(some 5), .move (.tmp 0), 25, none⟩), (1, ⟨(some 6), .call ⟨.value (.func 27), #[(.tmp 5)], #[25]⟩, 4, none⟩)] [] t (m.bump 2) (Q := ⟨fun _ => Q .normal⟩)) := by kernel_rfl
noncomputable def r14_2 : List SOp := [⟨(some 4), .assign (.const (.int .i64 0)), 3, none⟩]
theorem w14_2 : WXi EE n0 rd (.reg r14_2) t m (Q := ⟨Q⟩) = (n0 ≤ m.next ∧ XWi EE m.next [(0, ⟨(some 4), .assign (.const (.int .i64 0)), 3, none⟩)] [] t (m.bump 1) (Q := ⟨fun _ => Q .normal⟩)) := by kernel_rfl
noncomputable def c14_3 : SCode := (.seq (.reg r14_2) .ret)
theorem w14_3 : WXi EE n0 rd c14_3 t m (Q := ⟨Q⟩) = WXi EE n0 rd (.seq (.reg r14_2) .ret) t m (Q := ⟨Q⟩) := rfl
noncomputable def r14_4 : List SOp := [⟨(some 7), .move (.tmp 0), 25, none⟩, ⟨(some 8), .nilCheck (.tmp 7), 0, none⟩, ⟨(some 9), .fieldAddr 60 (.tmp 8) 1, 0, none⟩, ⟨(some 10), .load 58 (.tmp 9), 58, none⟩, ⟨(some 11), .move (.tmp 1), 3, none⟩, ⟨(some 12), .lookup 58 (.tmp 10) (.tmp 11) false, 57, none⟩, ⟨(some 13), .field 57 (.tmp 12) 0, 3, none⟩, ⟨(some 4), .assign (.tmp 13), 3, none⟩]
theorem w14_4 : WXi EE n0 rd (.reg r14_4) t m (Q := ⟨Q⟩) = (n0 ≤ m.next ∧ XWi EE m.next [(0, ⟨(some 7), .move (.tmp 0), 25, none⟩), (1, ⟨(some 8), .nilCheck (.tmp 7), 0, none⟩), (2, ⟨(some 9), .fieldAddr 60 (.tmp 8) 1, 0, none⟩), (3, ⟨(some 10), .load 58 (.tmp 9), 58, none⟩), (4, ⟨(some 11), .move (.tmp 1), 3, none⟩), (5, ⟨(some 12), .lookup 58 (.tmp 10) (.tmp 11) false, 57, none⟩), (6, ⟨(some 13), .field 57 (.tmp 12) 0, 3, none⟩), (7, ⟨(some 4), .assign (.tmp 13), 3, none⟩)] [] t (m.bump 8) (Q := ⟨fun _ => Q .normal⟩)) := by kernel_rfl
noncomputable def c14 : SCode := (.seq (.reg r14_0) (.seq (.seq (.reg r14_1) (.cond (.tmp 6) c14_3 .skip)) (.seq (.reg r14_4) .ret)))
theorem w14 : WXi EE n0 rd c14 t m (Q := ⟨Q⟩) = WXi EE n0 rd (.seq (.reg r14_0) (.seq (.seq (.reg r14_1) (.cond (.tmp 6) c14_3 .skip)) (.seq (.reg r14_4) .ret))) t m (Q := ⟨Q⟩) := rfl
noncomputable def f14 : SFunc := ⟨14, [.tmp 4], c14⟩
-- RULES 14 w14_0, w14_1, w14_2, w14_3, w14_4
theorem fn14 : fnOf EE.P 14 = some f14 := by kernel_rfl
/-! (*carryall/tree.Table).All -/
noncomputable def r15_0 : List SOp := [⟨(some 2), .assign (.const (.slice none 0 0)), 33, none⟩]
theorem w15_0 : WXi EE n0 rd (.reg r15_0) t m (Q := ⟨Q⟩) = (n0 ≤ m.next ∧ XWi EE m.next [(0, ⟨(some 2), .assign (.const (.slice none 0 0)), 33, none⟩)] [] t (m.bump 1) (Q := ⟨fun _ => Q .normal⟩)) := by kernel_rfl
noncomputable def r15_1 : List SOp := [⟨(some 3), .move (.tmp 0), 25, none⟩, ⟨(some 4), .call ⟨.value (.func 27), #[(.tmp 3)], #[25]⟩, 4, none⟩]
theorem w15_1 : WXi EE n0 rd (.reg r15_1) t m (Q := ⟨Q⟩) = (n0 ≤ m.next ∧ XWi EE m.next [(0, ⟨(some 3), .move (.tmp 0), 25, none⟩), (1, ⟨(some 4), .call ⟨.value (.func 27), #[(.tmp 3)], #[25]⟩, 4, none⟩)] [] t (m.bump 2) (Q := ⟨fun _ => Q .normal⟩)) := by kernel_rfl
noncomputable def r15_2 : List SOp := [⟨(some 2), .assign (.const (.slice none 0 0)), 33, none⟩]
theorem w15_2 : WXi EE n0 rd (.reg r15_2) t m (Q := ⟨Q⟩) = (n0 ≤ m.next ∧ XWi EE m.next [(0, ⟨(some 2), .assign (.const (.slice none 0 0)), 33, none⟩)] [] t (m.bump 1) (Q := ⟨fun _ => Q .normal⟩)) := by kernel_rfl
noncomputable def c15_3 : SCode := (.seq (.reg r15_2) .ret)
theorem w15_3 : WXi EE n0 rd c15_3 t m (Q := ⟨Q⟩) = WXi EE n0 rd (.seq (.reg r15_2) .ret) t m (Q := ⟨Q⟩) := rfl
noncomputable def r15_4 : List SOp := [⟨(some 5), .move (.tmp 0), 25, none⟩, ⟨(some 6), .nilCheck (.tmp 5), 0, none⟩, ⟨(some 7), .fieldAddr 60 (.tmp 6) 1, 0, none⟩, ⟨(some 8), .load 58 (.tmp 7), 58, none⟩, ⟨(some 9), .call ⟨.value (.func 30), #[(.tmp 8)], #[58]⟩, 62, none⟩, ⟨(some 10), .call ⟨.value (.func 29), #[(.tmp 9)], #[62]⟩, 33, none⟩, ⟨(some 2), .assign (.tmp 10), 33, none⟩]
theorem w15_4 : WXi EE n0 rd (.reg r15_4) t m (Q := ⟨Q⟩) = (n0 ≤ m.next ∧ XWi EE m.next [(0, ⟨(some 5), .move (.tmp 0), 25, none⟩), (1, ⟨(some 6), .nilCheck (.tmp 5), 0, none⟩), (2, ⟨(some 7), .fieldAddr 60 (.tmp 6) 1, 0, none⟩), (3, ⟨(some 8), .load 58 (.tmp 7), 58, none⟩), (4, ⟨(some 9), .call ⟨.value (.func 30), #[(.tmp 8)], #[58]⟩, 62, none⟩), (5, ⟨(some 10), .call ⟨.value (.func 29), #[(.tmp 9)], #[62]⟩, 33, none⟩), (6, ⟨(some 2), .assign (.tmp 10), 33, none⟩)] [] t (m.bump 7) (Q := ⟨fun _ => Q .normal⟩)) := by kernel_rfl
noncomputable def c15 : SCode := (.seq (.reg r15_0) (.seq (.seq (.reg r15_1) (.cond (.tmp 4) c15_3 .skip)) (.seq (.reg r15_4) .ret)))
theorem w15 : WXi EE n0 rd c15 t m (Q := ⟨Q⟩) = WXi EE n0 rd (.seq (.reg r15_0) (.seq (.seq (.reg r15_1) (.cond (.tmp 4) c15_3 .skip)) (.seq (.reg r15_4) .ret))) t m (Q := ⟨Q⟩) := rfl
noncomputable def f15 : SFunc := ⟨11, [.tmp 2], c15⟩
-- RULES 15 w15_0, w15_1, w15_2, w15_3, w15_4
theorem fn15 : fnOf EE.P 15 = some f15 := by kernel_rfl
/-! carryall/carryallref15.Same -/
noncomputable def r16_0 : List SOp := [⟨(some 4), .assign (.const (.bool false)), 4, none⟩]
theorem w16_0 : WXi EE n0 rd (.reg r16_0) t m (Q := ⟨Q⟩) = (n0 ≤ m.next ∧ XWi EE m.next [(0, ⟨(some 4), .assign (.const (.bool false)), 4, none⟩)] [] t (m.bump 1) (Q := ⟨fun _ => Q .normal⟩)) := by kernel_rfl
noncomputable def r16_1 : List SOp := [⟨(some 6), .move (.tmp 0), 33, none⟩, ⟨(some 7), .call ⟨.builtin .len, #[(.tmp 6)], #[33]⟩, 3, none⟩, ⟨(some 8), .move (.tmp 1), 33, none⟩, ⟨(some 9), .call ⟨.builtin .len, #[(.tmp 8)], #[33]⟩, 3, none⟩, ⟨(some 10), .binOp .neq 3 (.tmp 7) (.tmp 9) 3, 4, none⟩]
theorem w16_1 : WXi EE n0 rd (.reg r16_1) t m (Q := ⟨Q⟩) = (n0 ≤ m.next ∧ XWi EE m.next [(0, ⟨(some 6), .move (.tmp 0), 33, none⟩), (1, ⟨(some 7), .call ⟨.builtin .len, #[(.tmp 6)], #[33]⟩, 3, none⟩), (2, ⟨(some 8), .move (.tmp 1), 33, none⟩), (3, ⟨(some 9), .call ⟨.builtin .len, #[(.tmp 8)], #[33]⟩, 3, none⟩), (4, ⟨(some 10), .binOp .neq 3 (.tmp 7) (.tmp 9) 3, 4, none⟩)] [] t (m.bump 5) (Q := ⟨fun _ => Q .normal⟩)) := by kernel_rfl
noncomputable def r16_2 : List SOp := [⟨(some 4), .assign (.const (.bool false)), 4, none⟩]
theorem w16_2 : WXi EE n0 rd (.reg r16_2) t m (Q := ⟨Q⟩) = (n0 ≤ m.next ∧ XWi EE m.next [(0, ⟨(some 4), .assign (.const (.bool false)), 4, none⟩)] [] t (m.bump 1) (Q := ⟨fun _ => Q .normal⟩)) := by kernel_rfl
noncomputable def c16_3 : SCode := (.seq (.reg r16_2) .ret)
theorem w16_3 : WXi EE n0 rd c16_3 t m (Q := ⟨Q⟩) = WXi EE n0 rd (.seq (.reg r16_2) .ret) t m (Q := ⟨Q⟩) := rfl
noncomputable def r16_4 : List SOp := [⟨(some 5), .assign (.const (.int .i64 0)), 3, none⟩]
theorem w16_4 : WXi EE n0 rd (.reg r16_4) t m (Q := ⟨Q⟩) = (n0 ≤ m.next ∧ XWi EE m.next [(0, ⟨(some 5), .assign (.const (.int .i64 0)), 3, none⟩)] [] t (m.bump 1) (Q := ⟨fun _ => Q .normal⟩)) := by kernel_rfl
noncomputable def r16_5 : List SOp := [⟨(some 11), .move (.tmp 5), 3, none⟩, ⟨(some 12), .move (.tmp 0), 33, none⟩, ⟨(some 13), .call ⟨.builtin .len, #[(.tmp 12)], #[33]⟩, 3, none⟩, ⟨(some 14), .binOp .lss 3 (.tmp 11) (.tmp 13) 3, 4, none⟩]
theorem w16_5 : WXi EE n0 rd (.reg r16_5) t m (Q := ⟨Q⟩) = (n0 ≤ m.next ∧ XWi EE m.next [(0, ⟨(some 11), .move (.tmp 5), 3, none⟩), (1, ⟨(some 12), .move (.tmp 0), 33, none⟩), (2, ⟨(some 13), .call ⟨.builtin .len, #[(.tmp 12)], #[33]⟩, 3, none⟩), (3, ⟨(some 14), .binOp .lss 3 (.tmp 11) (.tmp 13) 3, 4, none⟩)] [] t (m.bump 4) (Q := ⟨fun _ => Q .normal⟩)) := by kernel_rfl
noncomputable def r16_6 : List SOp := [⟨(some 17), .move (.tmp 0), 33, none⟩, ⟨(some 18), .move (.tmp 5), 3, none⟩, ⟨(some 19), .indexAddr 33 (.tmp 17) (.tmp 18), 0, none⟩, ⟨(some 20), .load 3 (.tmp 19), 3, none⟩, ⟨(some 21), .move (.tmp 1), 33, none⟩, ⟨(some 22), .move (.tmp 5), 3, none⟩, ⟨(some 23), .indexAddr 33 (.tmp 21) (.tmp 22), 0, none⟩, ⟨(some 24), .load 3 (.tmp 23), 3, none⟩, ⟨(some 25), .binOp .neq 3 (.tmp 20) (.tmp 24) 3, 4, none⟩]
theorem w16_6 : WXi EE n0 rd (.dreg r16_6 [(0, []), (1, []), (2, []), (3, []), (4, []), (5, []), (6, []), (7, []), (8, [])]) t m (Q := ⟨Q⟩) = (n0 ≤ m.next ∧ XWi EE m.next [(0, ⟨(some 17), .move (.tmp 0), 33, none⟩), (1, ⟨(some 18), .move (.tmp 5), 3, none⟩), (2, ⟨(some 19), .indexAddr 33 (.tmp 17) (.tmp 18), 0, none⟩), (3, ⟨(some 20), .load 3 (.tmp 19), 3, none⟩), (4, ⟨(some 21), .move (.tmp 1), 33, none⟩), (5, ⟨(some 22), .move (.tmp 5), 3, none⟩), (6, ⟨(some 23), .indexAddr 33 (.tmp 21) (.tmp 22), 0, none⟩), (7, ⟨(some 24), .load 3 (.tmp 23), 3, none⟩), (8, ⟨(some 25), .binOp .neq 3 (.tmp 20) (.tmp 24) 3, 4, none⟩)] [] t (m.bump 9) (Q := ⟨fun _ => Q .normal⟩)) := by kernel_rfl
noncomputable def r16_7 : List SOp := [⟨(some 4), .assign (.const (.bool false)), 4, none⟩]
theorem w16_7 : WXi EE n0 rd (.reg r16_7) t m (Q := ⟨Q⟩) = (n0 ≤ m.next ∧ XWi EE m.next [(0, ⟨(some 4), .assign (.const (.bool false)), 4, none⟩)] [] t (m.bump 1) (Q := ⟨fun _ => Q .normal⟩)) := by kernel_rfl
noncomputable def c16_8 : SCode := (.seq (.reg r16_7) .ret)
theorem w16_8 : WXi EE n0 rd c16_8 t m (Q := ⟨Q⟩) = WXi EE n0 rd (.seq (.reg r16_7) .ret) t m (Q := ⟨Q⟩) := rfl
noncomputable def c16_9 : SCode := (.seq (.dreg r16_6 [(0, []), (1, []), (2, []), (3, []), (4, []), (5, []), (6, []), (7, []), (8, [])]) (.cond (.tmp 25) c16_8 .skip))
theorem w16_9 : WXi EE n0 rd c16_9 t m (Q := ⟨Q⟩) = WXi EE n0 rd (.seq (.dreg r16_6 [(0, []), (1, []), (2, []), (3, []), (4, []), (5, []), (6, []), (7, []), (8, [])]) (.cond (.tmp 25) c16_8 .skip)) t m (Q := ⟨Q⟩) := rfl
noncomputable def r16_10 : List SOp := [⟨(some 15), .move (.tmp 5), 3, none⟩, ⟨(some 16), .binOp .add 3 (.tmp 15) (.const (.int .i64 1)) 3, 3, none⟩, ⟨(some 5), .assign (.tmp 16), 3, none⟩]
theorem w16_10 : WXi EE n0 rd (.reg r16_10) t m (Q := ⟨Q⟩) = (n0 ≤ m.next ∧ XWi EE m.next [(0, ⟨(some 15), .move (.tmp 5), 3, none⟩), (1, ⟨(some 16), .binOp .add 3 (.tmp 15) (.const (.int .i64 1)) 3, 3, none⟩), (2, ⟨(some 5), .assign (.tmp 16), 3, none⟩)] [] t (m.bump 3) (Q := ⟨fun _ => Q .normal⟩)) := by kernel_rfl
noncomputable def c16_11 : SCode := (.seq (.seq (.reg r16_5) (.cond (.tmp 14) .skip (.exit 0))) (.seq (.block 1 c16_9) (.reg r16_10)))
theorem w16_11 : WXi EE n0 rd c16_11 t m (Q := ⟨Q⟩) = WXi EE n0 rd (.seq (.seq (.reg r16_5) (.cond (.tmp 14) .skip (.exit 0))) (.seq (.block 1 c16_9) (.reg r16_10))) t m (Q := ⟨Q⟩) := rfl
noncomputable def c16_12 : SCode := (.loop c16_11)
theorem w16_12 : WXi EE n0 rd c16_12 t m (Q := ⟨Q⟩) = WXi EE n0 rd (.loop c16_11) t m (Q := ⟨Q⟩) := rfl
noncomputable def r16_13 : List SOp := [⟨(some 4), .assign (.const (.bool true)), 4, none⟩]
theorem w16_13 : WXi EE n0 rd (.reg r16_13) t m (Q := ⟨Q⟩) = (n0 ≤ m.next ∧ XWi EE m.next [(0, ⟨(some 4), .assign (.const (.bool true)), 4, none⟩)] [] t (m.bump 1) (Q := ⟨fun _ => Q .normal⟩)) := by kernel_rfl
noncomputable def c16 : SCode := (.seq (.reg r16_0) (.seq (.seq (.reg r16_1) (.cond (.tmp 10) c16_3 .skip)) (.seq (.seq (.reg r16_4) (.block 0 c16_12)) (.seq (.reg r16_13) .ret))))
theorem w16 : WXi EE n0 rd c16 t m (Q := ⟨Q⟩) = WXi EE n0 rd (.seq (.reg r16_0) (.seq (.seq (.reg r16_1) (.cond (.tmp 10) c16_3 .skip)) (.seq (.seq (.reg r16_4) (.block 0 c16_12)) (.seq (.reg r16_13) .ret)))) t m (Q := ⟨Q⟩) := rfl
noncomputable def f16 : SFunc := ⟨26, [.tmp 4], c16⟩
-- RULES 16 w16_0, w16_1, w16_2, w16_3, w16_4, w16_5, w16_6, w16_7, w16_8, w16_9, w16_10, w16_11, w16_12, w16_13
theorem fn16 : fnOf EE.P 16 = some f16 := by kernel_rfl
/-! (*carryall/tree.Table).State -/
noncomputable def r17_0 : List SOp := [⟨(some 4), .assign (.const (.int .i64 0)), 3, none⟩]
theorem w17_0 : WXi EE n0 rd (.reg r17_0) t m (Q := ⟨Q⟩) = (n0 ≤ m.next ∧ XWi EE m.next [(0, ⟨(some 4), .assign (.const (.int .i64 0)), 3, none⟩)] [] t (m.bump 1) (Q := ⟨fun _ => Q .normal⟩)) := by kernel_rfl
noncomputable def r17_1 : List SOp := [⟨(some 5), .move (.tmp 0), 25, none⟩, ⟨(some 6), .call ⟨.value (.func 27), #[(.tmp 5)], #[25]⟩, 4, none⟩]
theorem w17_1 : WXi EE n0 rd (.reg r17_1) t m (Q := ⟨Q⟩) = (n0 ≤ m.next ∧ XWi EE m.next [(0, ⟨(some 5), .move (.tmp 0), 25, none⟩), (1, ⟨(some 6), .call ⟨.value (.func 27), #[(.tmp 5)], #[25]⟩, 4, none⟩)] [] t (m.bump 2) (Q := ⟨fun _ => Q .normal⟩)) := by kernel_rfl
noncomputable def r17_2 : List SOp := [⟨(some 4), .assign (.const (.int .i64 0)), 3, none⟩]
theorem w17_2 : WXi EE n0 rd (.reg r17_2) t m (Q := ⟨Q⟩) = (n0 ≤ m.next ∧ XWi EE m.next [(0, ⟨(some 4), .assign (.const (.int .i64 0)), 3, none⟩)] [] t (m.bump 1) (Q := ⟨fun _ => Q .normal⟩)) := by kernel_rfl
noncomputable def c17_3 : SCode := (.seq (.reg r17_2) .ret)
theorem w17_3 : WXi EE n0 rd c17_3 t m (Q := ⟨Q⟩) = WXi EE n0 rd (.seq (.reg r17_2) .ret) t m (Q := ⟨Q⟩) := rfl
noncomputable def r17_4 : List SOp := [⟨(some 7), .move (.tmp 0), 25, none⟩, ⟨(some 8), .nilCheck (.tmp 7), 0, none⟩, ⟨(some 9), .fieldAddr 60 (.tmp 8) 1, 0, none⟩, ⟨(some 10), .load 58 (.tmp 9), 58, none⟩, ⟨(some 11), .move (.tmp 1), 3, none⟩, ⟨(some 12), .lookup 58 (.tmp 10) (.tmp 11) false, 57, none⟩, ⟨(some 13), .field 57 (.tmp 12) 1, 3, none⟩, ⟨(some 4), .assign (.tmp 13), 3, none⟩]
theorem w17_4 : WXi EE n0 rd (.reg r17_4) t m (Q := ⟨Q⟩) = (n0 ≤ m.next ∧ XWi EE m.next [(0, ⟨(some 7), .move (.tmp 0), 25, none⟩), (1, ⟨(some 8), .nilCheck (.tmp 7), 0, none⟩), (2, ⟨(some 9), .fieldAddr 60 (.tmp 8) 1, 0, none⟩), (3, ⟨(some 10), .load 58 (.tmp 9), 58, none⟩), (4, ⟨(some 11), .move (.tmp 1), 3, none⟩), (5, ⟨(some 12), .lookup 58 (.tmp 10) (.tmp 11) false, 57, none⟩), (6, ⟨(some 13), .field 57 (.tmp 12) 1, 3, none⟩), (7, ⟨(some 4), .assign (.tmp 13), 3, none⟩)] [] t (m.bump 8) (Q := ⟨fun _ => Q .normal⟩)) := by kernel_rfl
noncomputable def c17 : SCode := (.seq (.reg r17_0) (.seq (.seq (.reg r17_1) (.cond (.tmp 6) c17_3 .skip)) (.seq (.reg r17_4) .ret)))
theorem w17 : WXi EE n0 rd c17 t m (Q := ⟨Q⟩) = WXi EE n0 rd (.seq (.reg r17_0) (.seq (.seq (.reg r17_1) (.cond (.tmp 6) c17_3 .skip)) (.seq (.reg r17_4) .ret))) t m (Q := ⟨Q⟩) := rfl
noncomputable def f17 : SFunc := ⟨14, [.tmp 4], c17⟩
-- RULES 17 w17_0, w17_1, w17_2, w17_3, w17_4
theorem fn17 : fnOf EE.P 17 = some f17 := by kernel_rfl
/-! (*carryall/tree.Table).Status -/
noncomputable def r18_0 : List SOp := [⟨(some 4), .assign (.const (.int .u32 0)), 23, none⟩]
theorem w18_0 : WXi EE n0 rd (.reg r18_0) t m (Q := ⟨Q⟩) = (n0 ≤ m.next ∧ XWi EE m.next [(0, ⟨(some 4), .assign (.const (.int .u32 0)), 23, none⟩)] [] t (m.bump 1) (Q := ⟨fun _ => Q .normal⟩)) := by kernel_rfl
noncomputable def r18_1 : List SOp := [⟨(some 5), .move (.tmp 0), 25, none⟩, ⟨(some 6), .call ⟨.value (.func 27), #[(.tmp 5)], #[25]⟩, 4, none⟩]
theorem w18_1 : WXi EE n0 rd (.reg r18_1) t m (Q := ⟨Q⟩) = (n0 ≤ m.next ∧ XWi EE m.next [(0, ⟨(some 5), .move (.tmp 0), 25, none⟩), (1, ⟨(some 6), .call ⟨.value (.func 27), #[(.tmp 5)], #[25]⟩, 4, none⟩)] [] t (m.bump 2) (Q := ⟨fun _ => Q .normal⟩)) := by kernel_rfl
noncomputable def r18_2 : List SOp := [⟨(some 4), .assign (.const (.int .u32 0)), 23, none⟩]
theorem w18_2 : WXi EE n0 rd (.reg r18_2) t m (Q := ⟨Q⟩) = (n0 ≤ m.next ∧ XWi EE m.next [(0, ⟨(some 4), .assign (.const (.int .u32 0)), 23, none⟩)] [] t (m.bump 1) (Q := ⟨fun _ => Q .normal⟩)) := by kernel_rfl
noncomputable def c18_3 : SCode := (.seq (.reg r18_2) .ret)
theorem w18_3 : WXi EE n0 rd c18_3 t m (Q := ⟨Q⟩) = WXi EE n0 rd (.seq (.reg r18_2) .ret) t m (Q := ⟨Q⟩) := rfl
noncomputable def r18_4 : List SOp := [⟨(some 7), .move (.tmp 0), 25, none⟩, ⟨(some 8), .nilCheck (.tmp 7), 0, none⟩, ⟨(some 9), .fieldAddr 60 (.tmp 8) 1, 0, none⟩, ⟨(some 10), .load 58 (.tmp 9), 58, none⟩, ⟨(some 11), .move (.tmp 1), 3, none⟩, ⟨(some 12), .lookup 58 (.tmp 10) (.tmp 11) false, 57, none⟩, ⟨(some 13), .field 57 (.tmp 12) 2, 23, none⟩, ⟨(some 4), .assign (.tmp 13), 23, none⟩]
theorem w18_4 : WXi EE n0 rd (.reg r18_4) t m (Q := ⟨Q⟩) = (n0 ≤ m.next ∧ XWi EE m.next [(0, ⟨(some 7), .move (.tmp 0), 25, none⟩), (1, ⟨(some 8), .nilCheck (.tmp 7), 0, none⟩), (2, ⟨(some 9), .fieldAddr 60 (.tmp 8) 1, 0, none⟩), (3, ⟨(some 10), .load 58 (.tmp 9), 58, none⟩), (4, ⟨(some 11), .move (.tmp 1), 3, none⟩), (5, ⟨(some 12), .lookup 58 (.tmp 10) (.tmp 11) false, 57, none⟩), (6, ⟨(some 13), .field 57 (.tmp 12) 2, 23, none⟩), (7, ⟨(some 4), .assign (.tmp 13), 23, none⟩)] [] t (m.bump 8) (Q := ⟨fun _ => Q .normal⟩)) := by kernel_rfl
noncomputable def c18 : SCode := (.seq (.reg r18_0) (.seq (.seq (.reg r18_1) (.cond (.tmp 6) c18_3 .skip)) (.seq (.reg r18_4) .ret)))
theorem w18 : WXi EE n0 rd c18 t m (Q := ⟨Q⟩) = WXi EE n0 rd (.seq (.reg r18_0) (.seq (.seq (.reg r18_1) (.cond (.tmp 6) c18_3 .skip)) (.seq (.reg r18_4) .ret))) t m (Q := ⟨Q⟩) := rfl
noncomputable def f18 : SFunc := ⟨14, [.tmp 4], c18⟩
-- RULES 18 w18_0, w18_1, w18_2, w18_3, w18_4
theorem fn18 : fnOf EE.P 18 = some f18 := by kernel_rfl
/-! (*carryall/tree.Table).Tree -/
noncomputable def r20_0 : List SOp := [⟨(some 4), .assign (.const (.slice none 0 0)), 33, none⟩]
theorem w20_0 : WXi EE n0 rd (.reg r20_0) t m (Q := ⟨Q⟩) = (n0 ≤ m.next ∧ XWi EE m.next [(0, ⟨(some 4), .assign (.const (.slice none 0 0)), 33, none⟩)] [] t (m.bump 1) (Q := ⟨fun _ => Q .normal⟩)) := by kernel_rfl
noncomputable def r20_1 : List SOp := [⟨(some 7), .move (.tmp 0), 25, none⟩, ⟨(some 8), .move (.tmp 1), 3, none⟩, ⟨(some 9), .call ⟨.value (.func 17), #[(.tmp 7), (.tmp 8)], #[25, 3]⟩, 3, none⟩, ⟨(some 10), .binOp .eql 3 (.tmp 9) (.const (.int .i64 0)) 3, 4, none⟩]
theorem w20_1 : WXi EE n0 rd (.reg r20_1) t m (Q := ⟨Q⟩) = (n0 ≤ m.next ∧ XWi EE m.next [(0, ⟨(some 7), .move (.tmp 0), 25, none⟩), (1, ⟨(some 8), .move (.tmp 1), 3, none⟩), (2, ⟨(some 9), .call ⟨.value (.func 17), #[(.tmp 7), (.tmp 8)], #[25, 3]⟩, 3, none⟩), (3, ⟨(some 10), .binOp .eql 3 (.tmp 9) (.const (.int .i64 0)) 3, 4, none⟩)] [] t (m.bump 4) (Q := ⟨fun _ => Q .normal⟩)) := by kernel_rfl
noncomputable def r20_2 : List SOp := [⟨(some 4), .assign (.const (.slice none 0 0)), 33, none⟩]
theorem w20_2 : WXi EE n0 rd (.reg r20_2) t m (Q := ⟨Q⟩) = (n0 ≤ m.next ∧ XWi EE m.next [(0, ⟨(some 4), .assign (.const (.slice none 0 0)), 33, none⟩)] [] t (m.bump 1) (Q := ⟨fun _ => Q .normal⟩)) := by kernel_rfl
noncomputable def c20_3 : SCode := (.seq (.reg r20_2) .ret)
theorem w20_3 : WXi EE n0 rd c20_3 t m (Q := ⟨Q⟩) = WXi EE n0 rd (.seq (.reg r20_2) .ret) t m (Q := ⟨Q⟩) := rfl
noncomputable def r20_4 : List SOp := [⟨(some 11), .move (.tmp 1), 3, none⟩, ⟨(some 12), .buildSlice 33 1 #[(0, (.tmp 11))], 33, none⟩, ⟨(some 5), .assign (.tmp 12), 33, none⟩]
theorem w20_4 : WXi EE n0 rd (.reg r20_4) t m (Q := ⟨Q⟩) = (n0 ≤ m.next ∧ XWi EE m.next [(0, ⟨(some 11), .move (.tmp 1), 3, none⟩), (1, ⟨(some 12), .buildSlice 33 1 #[(0, (.tmp 11))], 33, none⟩), (2, ⟨(some 5), .assign (.tmp 12), 33, none⟩)] [] t (m.bump 3) (Q := ⟨fun _ => Q .normal⟩)) := by kernel_rfl
noncomputable def r20_5 : List SOp := [⟨(some 6), .assign (.const (.int .i64 0)), 3, none⟩]
theorem w20_5 : WXi EE n0 rd (.reg r20_5) t m (Q := ⟨Q⟩) = (n0 ≤ m.next ∧ XWi EE m.next [(0, ⟨(some 6), .assign (.const (.int .i64 0)), 3, none⟩)] [] t (m.bump 1) (Q := ⟨fun _ => Q .normal⟩)) := by kernel_rfl
noncomputable def r20_6 : List SOp := [⟨(some 13), .move (.tmp 6), 3, none⟩, ⟨(some 14), .move (.tmp 5), 33, none⟩, ⟨(some 15), .call ⟨.builtin .len, #[(.tmp 14)], #[33]⟩, 3, none⟩, ⟨(some 16), .binOp .lss 3 (.tmp 13) (.tmp 15) 3, 4, none⟩]
theorem w20_6 : WXi EE n0 rd (.reg r20_6) t m (Q := ⟨Q⟩) = (n0 ≤ m.next ∧ XWi EE m.next [(0, ⟨(some 13), .move (.tmp 6), 3, none⟩), (1, ⟨(some 14), .move (.tmp 5), 33, none⟩), (2, ⟨(some 15), .call ⟨.builtin .len, #[(.tmp 14)], #[33]⟩, 3, none⟩), (3, ⟨(some 16), .binOp .lss 3 (.tmp 13) (.tmp 15) 3, 4, none⟩)] [] t (m.bump 4) (Q := ⟨fun _ => Q .normal⟩)) := by kernel_rfl
noncomputable def r20_7 : List SOp := [⟨(some 19), .move (.tmp 5), 33, none⟩, ⟨(some 20), .move (.tmp 0), 25, none⟩, ⟨(some 21), .move (.tmp 5), 33, none⟩, ⟨(some 22), .move (.tmp 6), 3, none⟩, ⟨(some 23), .indexAddr 33 (.tmp 21) (.tmp 22), 0, none⟩, ⟨(some 24), .load 3 (.tmp 23), 3, none⟩, ⟨(some 25), .call ⟨.value (.func 13), #[(.tmp 20), (.tmp 24)], #[25, 3]⟩, 33, none⟩, ⟨(some 26), .call ⟨.builtin .append, #[(.tmp 19), (.tmp 25)], #[33, 33]⟩, 33, none⟩, ⟨(some 5), .assign (.tmp 26), 33, none⟩]
theorem w20_7 : WXi EE n0 rd (.reg r20_7) t m (Q := ⟨Q⟩) = (n0 ≤ m.next ∧ XWi EE m.next [(0, ⟨(some 19), .move (.tmp 5), 33, none⟩), (1, ⟨(some 20), .move (.tmp 0), 25, none⟩), (2, ⟨(some 21), .move (.tmp 5), 33, none⟩), (3, ⟨(some 22), .move (.tmp 6), 3, none⟩), (4, ⟨(some 23), .indexAddr 33 (.tmp 21) (.tmp 22), 0, none⟩), (5, ⟨(some 24), .load 3 (.tmp 23), 3, none⟩), (6, ⟨(some 25), .call ⟨.value (.func 13), #[(.tmp 20), (.tmp 24)], #[25, 3]⟩, 33, none⟩), (7, ⟨(some 26), .call ⟨.builtin .append, #[(.tmp 19), (.tmp 25)], #[33, 33]⟩, 33, none⟩), (8, ⟨(some 5), .assign (.tmp 26), 33, none⟩)] [] t (m.bump 9) (Q := ⟨fun _ => Q .normal⟩)) := by kernel_rfl
noncomputable def c20_8 : SCode := (.reg r20_7)
theorem w20_8 : WXi EE n0 rd c20_8 t m (Q := ⟨Q⟩) = WXi EE n0 rd (.reg r20_7) t m (Q := ⟨Q⟩) := rfl
noncomputable def r20_9 : List SOp := [⟨(some 17), .move (.tmp 6), 3, none⟩, ⟨(some 18), .binOp .add 3 (.tmp 17) (.const (.int .i64 1)) 3, 3, none⟩, ⟨(some 6), .assign (.tmp 18), 3, none⟩]
theorem w20_9 : WXi EE n0 rd (.reg r20_9) t m (Q := ⟨Q⟩) = (n0 ≤ m.next ∧ XWi EE m.next [(0, ⟨(some 17), .move (.tmp 6), 3, none⟩), (1, ⟨(some 18), .binOp .add 3 (.tmp 17) (.const (.int .i64 1)) 3, 3, none⟩), (2, ⟨(some 6), .assign (.tmp 18), 3, none⟩)] [] t (m.bump 3) (Q := ⟨fun _ => Q .normal⟩)) := by kernel_rfl
noncomputable def c20_10 : SCode := (.seq (.seq (.reg r20_6) (.cond (.tmp 16) .skip (.exit 0))) (.seq (.block 1 c20_8) (.reg r20_9)))
theorem w20_10 : WXi EE n0 rd c20_10 t m (Q := ⟨Q⟩) = WXi EE n0 rd (.seq (.seq (.reg r20_6) (.cond (.tmp 16) .skip (.exit 0))) (.seq (.block 1 c20_8) (.reg r20_9))) t m (Q := ⟨Q⟩) := rfl
noncomputable def c20_11 : SCode := (.loop c20_10)
theorem w20_11 : WXi EE n0 rd c20_11 t m (Q := ⟨Q⟩) = WXi EE n0 rd (.loop c20_10) t m (Q := ⟨Q⟩) := rfl
noncomputable def r20_12 : List SOp := [⟨(some 27), .move (.tmp 5), 33, none⟩, ⟨(some 28), .call ⟨.value (.func 31), #[(.tmp 27)], #[33]⟩, 0, none⟩]
theorem w20_12 : WXi EE n0 rd (.reg r20_12) t m (Q := ⟨Q⟩) = (n0 ≤ m.next ∧ XWi EE m.next [(0, ⟨(some 27), .move (.tmp 5), 33, none⟩), (1, ⟨(some 28), .call ⟨.value (.func 31), #[(.tmp 27)], #[33]⟩, 0, none⟩)] [] t (m.bump 2) (Q := ⟨fun _ => Q .normal⟩)) := by kernel_rfl
noncomputable def r20_13 : List SOp := [⟨(some 29), .move (.tmp 5), 33, none⟩, ⟨(some 4), .assign (.tmp 29), 33, none⟩]
theorem w20_13 : WXi EE n0 rd (.reg r20_13) t m (Q := ⟨Q⟩) = (n0 ≤ m.next ∧ XWi EE m.next [(0, ⟨(some 29), .move (.tmp 5), 33, none⟩), (1, ⟨(some 4), .assign (.tmp 29), 33, none⟩)] [] t (m.bump 2) (Q := ⟨fun _ => Q .normal⟩)) := by kernel_rfl
noncomputable def c20 : SCode := (.seq (.reg r20_0) (.seq (.seq (.reg r20_1) (.cond (.tmp 10) c20_3 .skip)) (.seq (.reg r20_4) (.seq (.seq (.reg r20_5) (.block 0 c20_11)) (.seq (.reg r20_12) (.seq (.reg r20_13) .ret))))))
theorem w20 : WXi EE n0 rd c20 t m (Q := ⟨Q⟩) = WXi EE n0 rd (.seq (.reg r20_0) (.seq (.seq (.reg r20_1) (.cond (.tmp 10) c20_3 .skip)) (.seq (.reg r20_4) (.seq (.seq (.reg r20_5) (.block 0 c20_11)) (.seq (.reg r20_12) (.seq (.reg r20_13) .ret)))))) t m (Q := ⟨Q⟩) := rfl
noncomputable def f20 : SFunc := ⟨30, [.tmp 4], c20⟩
-- RULES 20 w20_0, w20_1, w20_2, w20_3, w20_4, w20_5, w20_6, w20_7, w20_8, w20_9, w20_10, w20_11, w20_12, w20_13
theorem fn20 : fnOf EE.P 20 = some f20 := by kernel_rfl
/-! (*carryall/tree.Table).Free -/
noncomputable def r22_0 : List SOp := [⟨(some 2), .assign (.const (.int .i64 0)), 3, none⟩]
theorem w22_0 : WXi EE n0 rd (.reg r22_0) t m (Q := ⟨Q⟩) = (n0 ≤ m.next ∧ XWi EE m.next [(0, ⟨(some 2), .assign (.const (.int .i64 0)), 3, none⟩)] [] t (m.bump 1) (Q := ⟨fun _ => Q .normal⟩)) := by kernel_rfl
noncomputable def r22_1 : List SOp := [⟨(some 3), .move (.tmp 0), 25, none⟩, ⟨(some 4), .call ⟨.value (.func 27), #[(.tmp 3)], #[25]⟩, 4, none⟩]
theorem w22_1 : WXi EE n0 rd (.reg r22_1) t m (Q := ⟨Q⟩) = (n0 ≤ m.next ∧ XWi EE m.next [(0, ⟨(some 3), .move (.tmp 0), 25, none⟩), (1, ⟨(some 4), .call ⟨.value (.func 27), #[(.tmp 3)], #[25]⟩, 4, none⟩)] [] t (m.bump 2) (Q := ⟨fun _ => Q .normal⟩)) := by kernel_rfl
noncomputable def r22_2 : List SOp := [⟨(some 2), .assign (.const (.int .i64 0)), 3, none⟩]
theorem w22_2 : WXi EE n0 rd (.reg r22_2) t m (Q := ⟨Q⟩) = (n0 ≤ m.next ∧ XWi EE m.next [(0, ⟨(some 2), .assign (.const (.int .i64 0)), 3, none⟩)] [] t (m.bump 1) (Q := ⟨fun _ => Q .normal⟩)) := by kernel_rfl
noncomputable def c22_3 : SCode := (.seq (.reg r22_2) .ret)
theorem w22_3 : WXi EE n0 rd c22_3 t m (Q := ⟨Q⟩) = WXi EE n0 rd (.seq (.reg r22_2) .ret) t m (Q := ⟨Q⟩) := rfl
noncomputable def r22_4 : List SOp := [⟨(some 5), .move (.tmp 0), 25, none⟩, ⟨(some 6), .nilCheck (.tmp 5), 0, none⟩, ⟨(some 7), .fieldAddr 60 (.tmp 6) 0, 0, none⟩, ⟨(some 8), .load 3 (.tmp 7), 3, none⟩, ⟨(some 9), .move (.tmp 0), 25, none⟩, ⟨(some 10), .nilCheck (.tmp 9), 0, none⟩, ⟨(some 11), .fieldAddr 60 (.tmp 10) 1, 0, none⟩, ⟨(some 12), .load 58 (.tmp 11), 58, none⟩, ⟨(some 13), .call ⟨.builtin .len, #[(.tmp 12)], #[58]⟩, 3, none⟩, ⟨(some 14), .binOp .sub 3 (.tmp 8) (.tmp 13) 3, 3, none⟩, ⟨(some 2), .assign (.tmp 14), 3, none⟩]
theorem w22_4 : WXi EE n0 rd (.dreg r22_4 [(0, []), (1, []), (2, []), (3, []), (4, []), (5, []), (6, []), (7, []), (8, []), (9, []), (10, [])]) t m (Q := ⟨Q⟩) = (n0 ≤ m.next ∧ XWi EE m.next [(0, ⟨(some 5), .move (.tmp 0), 25, none⟩), (1, ⟨(some 6), .nilCheck (.tmp 5), 0, none⟩), (2, ⟨(some 7), .fieldAddr 60 (.tmp 6) 0, 0, none⟩), (3, ⟨(some 8), .load 3 (.tmp 7), 3, none⟩), (4, ⟨(some 9), .move (.tmp 0), 25, none⟩), (5, ⟨(some 10), .nilCheck (.tmp 9), 0, none⟩), (6, ⟨(some 11), .fieldAddr 60 (.tmp 10) 1, 0, none⟩), (7, ⟨(some 12), .load 58 (.tmp 11), 58, none⟩), (8, ⟨(some 13), .call ⟨.builtin .len, #[(.tmp 12)], #[58]⟩, 3, none⟩), (9, ⟨(some 14), .binOp .sub 3 (.tmp 8) (.tmp 13) 3, 3, none⟩), (10, ⟨(some 2), .assign (.tmp 14), 3, none⟩)] [] t (m.bump 11) (Q := ⟨fun _ => Q .normal⟩)) := by kernel_rfl
noncomputable def c22 : SCode := (.seq (.reg r22_0) (.seq (.seq (.reg r22_1) (.cond (.tmp 4) c22_3 .skip)) (.seq (.dreg r22_4 [(0, []), (1, []), (2, []), (3, []), (4, []), (5, []), (6, []), (7, []), (8, []), (9, []), (10, [])]) .ret)))
theorem w22 : WXi EE n0 rd c22 t m (Q := ⟨Q⟩) = WXi EE n0 rd (.seq (.reg r22_0) (.seq (.seq (.reg r22_1) (.cond (.tmp 4) c22_3 .skip)) (.seq (.dreg r22_4 [(0, []), (1, []), (2, []), (3, []), (4, []), (5, []), (6, []), (7, []), (8, []), (9, []), (10, [])]) .ret))) t m (Q := ⟨Q⟩) := rfl
noncomputable def f22 : SFunc := ⟨15, [.tmp 2], c22⟩
-- RULES 22 w22_0, w22_1, w22_2, w22_3, w22_4
theorem fn22 : fnOf EE.P 22 = some f22 := by kernel_rfl
/-! (*carryall/tree.Table).Next -/
noncomputable def r25_0 : List SOp := [⟨(some 2), .assign (.const (.int .i64 0)), 3, none⟩]
theorem w25_0 : WXi EE n0 rd (.reg r25_0) t m (Q := ⟨Q⟩) = (n0 ≤ m.next ∧ XWi EE m.next [(0, ⟨(some 2), .assign (.const (.int .i64 0)), 3, none⟩)] [] t (m.bump 1) (Q := ⟨fun _ => Q .normal⟩)) := by kernel_rfl
noncomputable def r25_1 : List SOp := [⟨(some 3), .move (.tmp 0), 25, none⟩, ⟨(some 4), .call ⟨.value (.func 27), #[(.tmp 3)], #[25]⟩, 4, none⟩, ⟨(some 5), .move (.tmp 4), 4, none⟩, ⟨(some 6), .move (.tmp 0), 25, (some (5, false))⟩, ⟨(some 7), .nilCheck (.tmp 6), 0, (some (5, false))⟩, ⟨(some 8), .fieldAddr 60 (.tmp 7) 2, 0, (some (5, false))⟩, ⟨(some 9), .load 3 (.tmp 8), 3, (some (5, false))⟩, ⟨(some 10), .binOp .geq 3 (.tmp 9) (.const (.int .i64 65535)) 3, 4, (some (5, false))⟩, ⟨(some 11), .pick (.tmp 5) (.const (.bool true)) (.tmp 10), 4, none⟩]
theorem w25_1 : WXi EE n0 rd (.reg r25_1) t m (Q := ⟨Q⟩) = (n0 ≤ m.next ∧ XWi EE m.next [(0, ⟨(some 3), .move (.tmp 0), 25, none⟩), (1, ⟨(some 4), .call ⟨.value (.func 27), #[(.tmp 3)], #[25]⟩, 4, none⟩), (2, ⟨(some 5), .move (.tmp 4), 4, none⟩), (3, ⟨(some 6), .move (.tmp 0), 25, (some (5, false))⟩), (4, ⟨(some 7), .nilCheck (.tmp 6), 0, (some (5, false))⟩), (5, ⟨(some 8), .fieldAddr 60 (.tmp 7) 2, 0, (some (5, false))⟩), (6, ⟨(some 9), .load 3 (.tmp 8), 3, (some (5, false))⟩), (7, ⟨(some 10), .binOp .geq 3 (.tmp 9) (.const (.int .i64 65535)) 3, 4, (some (5, false))⟩), (8, ⟨(some 11), .pick (.tmp 5) (.const (.bool true)) (.tmp 10), 4, none⟩)] [] t (m.bump 9) (Q := ⟨fun _ => Q .normal⟩)) := by kernel_rfl
noncomputable def r25_2 : List SOp := [⟨(some 2), .assign (.const (.int .i64 0)), 3, none⟩]
theorem w25_2 : WXi EE n0 rd (.reg r25_2) t m (Q := ⟨Q⟩) = (n0 ≤ m.next ∧ XWi EE m.next [(0, ⟨(some 2), .assign (.const (.int .i64 0)), 3, none⟩)] [] t (m.bump 1) (Q := ⟨fun _ => Q .normal⟩)) := by kernel_rfl
noncomputable def c25_3 : SCode := (.seq (.reg r25_2) .ret)
theorem w25_3 : WXi EE n0 rd c25_3 t m (Q := ⟨Q⟩) = WXi EE n0 rd (.seq (.reg r25_2) .ret) t m (Q := ⟨Q⟩) := rfl
noncomputable def r25_4 : List SOp := [⟨(some 12), .move (.tmp 0), 25, none⟩, ⟨(some 13), .nilCheck (.tmp 12), 0, none⟩, ⟨(some 14), .fieldAddr 60 (.tmp 13) 2, 0, none⟩, ⟨(some 15), .load 3 (.tmp 14), 3, none⟩, ⟨(some 16), .binOp .add 3 (.tmp 15) (.const (.int .i64 1)) 3, 3, none⟩, ⟨(some 2), .assign (.tmp 16), 3, none⟩]
theorem w25_4 : WXi EE n0 rd (.reg r25_4) t m (Q := ⟨Q⟩) = (n0 ≤ m.next ∧ XWi EE m.next [(0, ⟨(some 12), .move (.tmp 0), 25, none⟩), (1, ⟨(some 13), .nilCheck (.tmp 12), 0, none⟩), (2, ⟨(some 14), .fieldAddr 60 (.tmp 13) 2, 0, none⟩), (3, ⟨(some 15), .load 3 (.tmp 14), 3, none⟩), (4, ⟨(some 16), .binOp .add 3 (.tmp 15) (.const (.int .i64 1)) 3, 3, none⟩), (5, ⟨(some 2), .assign (.tmp 16), 3, none⟩)] [] t (m.bump 6) (Q := ⟨fun _ => Q .normal⟩)) := by kernel_rfl
noncomputable def c25 : SCode := (.seq (.reg r25_0) (.seq (.seq (.reg r25_1) (.cond (.tmp 11) c25_3 .skip)) (.seq (.reg r25_4) .ret)))
theorem w25 : WXi EE n0 rd c25 t m (Q := ⟨Q⟩) = WXi EE n0 rd (.seq (.reg r25_0) (.seq (.seq (.reg r25_1) (.cond (.tmp 11) c25_3 .skip)) (.seq (.reg r25_4) .ret))) t m (Q := ⟨Q⟩) := rfl
noncomputable def f25 : SFunc := ⟨17, [.tmp 2], c25⟩
-- RULES 25 w25_0, w25_1, w25_2, w25_3, w25_4
theorem fn25 : fnOf EE.P 25 = some f25 := by kernel_rfl
/-! (*carryall/tree.Table).Zombie -/
noncomputable def r26_0 : List SOp := [⟨(some 2), .box 25 (.tmp 0), 0, none⟩, ⟨(some 4), .alloc 3, 0, none⟩, ⟨(some 5), .alloc 23, 0, none⟩, ⟨(some 6), .alloc 26, 0, none⟩]
theorem w26_0 : WXi EE n0 rd (.reg r26_0) t m (Q := ⟨Q⟩) = (n0 ≤ m.next ∧ XWi EE m.next [(0, ⟨(some 2), .box 25 (.tmp 0), 0, none⟩), (1, ⟨(some 4), .alloc 3, 0, none⟩), (2, ⟨(some 5), .alloc 23, 0, none⟩), (3, ⟨(some 6), .alloc 26, 0, none⟩)] [] t (m.bump 4) (Q := ⟨fun _ => Q .normal⟩)) := by kernel_rfl
noncomputable def r26_1 : List SOp := [⟨(some 10), .load 25 (.tmp 2), 25, none⟩, ⟨(some 11), .call ⟨.value (.func 27), #[(.tmp 10)], #[25]⟩, 4, none⟩, ⟨(some 9), .assign (.tmp 11), 4, none⟩]
theorem w26_1 : WXi EE n0 rd (.reg r26_1) t m (Q := ⟨Q⟩) = (n0 ≤ m.next ∧ XWi EE m.next [(0, ⟨(some 10), .load 25 (.tmp 2), 25, none⟩), (1, ⟨(some 11), .call ⟨.value (.func 27), #[(.tmp 10)], #[25]⟩, 4, none⟩), (2, ⟨(some 9), .assign (.tmp 11), 4, none⟩)] [] t (m.bump 3) (Q := ⟨fun _ => Q .normal⟩)) := by kernel_rfl
noncomputable def r26_2 : List SOp := [⟨none, .store 3 (.tmp 4) (.const (.int .i64 0)), 0, none⟩, ⟨none, .store 23 (.tmp 5) (.const (.int .u32 0)), 0, none⟩, ⟨none, .store 26 (.tmp 6) (.const (.int .i64 1)), 0, none⟩]
theorem w26_2 : WXi EE n0 rd (.reg r26_2) t m (Q := ⟨Q⟩) = (n0 ≤ m.next ∧ XWi EE m.next [(0, ⟨none, .store 3 (.tmp 4) (.const (.int .i64 0)), 0, none⟩), (1, ⟨none, .store 23 (.tmp 5) (.const (.int .u32 0)), 0, none⟩), (2, ⟨none, .store 26 (.tmp 6) (.const (.int .i64 1)), 0, none⟩)] [] t (m.bump 3) (Q := ⟨fun _ => Q .normal⟩)) := by kernel_rfl
noncomputable def c26_3 : SCode := (.seq (.reg r26_2) .ret)
theorem w26_3 : WXi EE n0 rd c26_3 t m (Q := ⟨Q⟩) = WXi EE n0 rd (.seq (.reg r26_2) .ret) t m (Q := ⟨Q⟩) := rfl
noncomputable def r26_4 : List SOp := [⟨(some 13), .load 25 (.tmp 2), 25, none⟩, ⟨(some 14), .move (.tmp 1), 3, none⟩, ⟨(some 15), .call ⟨.value (.func 17), #[(.tmp 13), (.tmp 14)], #[25, 3]⟩, 3, none⟩, ⟨(some 16), .binOp .neq 3 (.tmp 15) (.const (.int .i64 1)) 3, 4, none⟩, ⟨(some 12), .assign (.tmp 16), 4, none⟩]
theorem w26_4 : WXi EE n0 rd (.reg r26_4) t m (Q := ⟨Q⟩) = (n0 ≤ m.next ∧ XWi EE m.next [(0, ⟨(some 13), .load 25 (.tmp 2), 25, none⟩), (1, ⟨(some 14), .move (.tmp 1), 3, none⟩), (2, ⟨(some 15), .call ⟨.value (.func 17), #[(.tmp 13), (.tmp 14)], #[25, 3]⟩, 3, none⟩), (3, ⟨(some 16), .binOp .neq 3 (.tmp 15) (.const (.int .i64 1)) 3, 4, none⟩), (4, ⟨(some 12), .assign (.tmp 16), 4, none⟩)] [] t (m.bump 5) (Q := ⟨fun _ => Q .normal⟩)) := by kernel_rfl
noncomputable def r26_5 : List SOp := [⟨none, .store 3 (.tmp 4) (.const (.int .i64 0)), 0, none⟩, ⟨none, .store 23 (.tmp 5) (.const (.int .u32 0)), 0, none⟩, ⟨none, .store 26 (.tmp 6) (.const (.int .i64 2)), 0, none⟩]
theorem w26_5 : WXi EE n0 rd (.reg r26_5) t m (Q := ⟨Q⟩) = (n0 ≤ m.next ∧ XWi EE m.next [(0, ⟨none, .store 3 (.tmp 4) (.const (.int .i64 0)), 0, none⟩), (1, ⟨none, .store 23 (.tmp 5) (.const (.int .u32 0)), 0, none⟩), (2, ⟨none, .store 26 (.tmp 6) (.const (.int .i64 2)), 0, none⟩)] [] t (m.bump 3) (Q := ⟨fun _ => Q .normal⟩)) := by kernel_rfl
noncomputable def c26_6 : SCode := (.seq (.reg r26_5) .ret)
theorem w26_6 : WXi EE n0 rd c26_6 t m (Q := ⟨Q⟩) = WXi EE n0 rd (.seq (.reg r26_5) .ret) t m (Q := ⟨Q⟩) := rfl
noncomputable def c26_7 : SCode := (.seq (.reg r26_4) (.cond (.tmp 12) c26_6 .skip))
theorem w26_7 : WXi EE n0 rd c26_7 t m (Q := ⟨Q⟩) = WXi EE n0 rd (.seq (.reg r26_4) (.cond (.tmp 12) c26_6 .skip)) t m (Q := ⟨Q⟩) := rfl
noncomputable def c26_8 : SCode := (.seq (.reg r26_1) (.cond (.tmp 9) c26_3 c26_7))
theorem w26_8 : WXi EE n0 rd c26_8 t m (Q := ⟨Q⟩) = WXi EE n0 rd (.seq (.reg r26_1) (.cond (.tmp 9) c26_3 c26_7)) t m (Q := ⟨Q⟩) := rfl
noncomputable def r26_9 : List SOp := [⟨none, .store 26 (.tmp 6) (.const (.int .i64 152)), 0, none⟩]
theorem w26_9 : WXi EE n0 rd (.reg r26_9) t m (Q := ⟨Q⟩) = (n0 ≤ m.next ∧ XWi EE m.next [(0, ⟨none, .store 26 (.tmp 6) (.const (.int .i64 152)), 0, none⟩)] [] t (m.bump 1) (Q := ⟨fun _ => Q .normal⟩)) := by kernel_rfl
noncomputable def r26_10 : List SOp := [⟨(some 17), .load 25 (.tmp 2), 25, none⟩, ⟨(some 18), .move (.tmp 1), 3, none⟩, ⟨(some 19), .call ⟨.value (.func 28), #[(.tmp 17), (.tmp 18)], #[25, 3]⟩, 62, none⟩]
theorem w26_10 : WXi EE n0 rd (.reg r26_10) t m (Q := ⟨Q⟩) = (n0 ≤ m.next ∧ XWi EE m.next [(0, ⟨(some 17), .load 25 (.tmp 2), 25, none⟩), (1, ⟨(some 18), .move (.tmp 1), 3, none⟩), (2, ⟨(some 19), .call ⟨.value (.func 28), #[(.tmp 17), (.tmp 18)], #[25, 3]⟩, 62, none⟩)] [] t (m.bump 3) (Q := ⟨fun _ => Q .normal⟩)) := by kernel_rfl
noncomputable def r26_11 : List SOp := [⟨(some 7), .assign (.tmp 20), 3, none⟩]
theorem w26_11 : WXi EE n0 rd (.reg r26_11) t m (Q := ⟨Q⟩) = (n0 ≤ m.next ∧ XWi EE m.next [(0, ⟨(some 7), .assign (.tmp 20), 3, none⟩)] [] t (m.bump 1) (Q := ⟨fun _ => Q .normal⟩)) := by kernel_rfl
noncomputable def c26_12 : SCode := (.reg r26_11)
theorem w26_12 : WXi EE n0 rd c26_12 t m (Q := ⟨Q⟩) = WXi EE n0 rd (.reg r26_11) t m (Q := ⟨Q⟩) := rfl
noncomputable def r26_13 : List SOp := [⟨none, .store 26 (.tmp 6) (.const (.int .i64 151)), 0, none⟩]
theorem w26_13 : WXi EE n0 rd (.reg r26_13) t m (Q := ⟨Q⟩) = (n0 ≤ m.next ∧ XWi EE m.next [(0, ⟨none, .store 26 (.tmp 6) (.const (.int .i64 151)), 0, none⟩)] [] t (m.bump 1) (Q := ⟨fun _ => Q .normal⟩)) := by kernel_rfl
noncomputable def r26_14 : List SOp := [⟨(some 21), .load 25 (.tmp 2), 25, none⟩, ⟨(some 22), .nilCheck (.tmp 21), 0, none⟩, ⟨(some 23), .fieldAddr 60 (.tmp 22) 1, 0, none⟩, ⟨(some 24), .load 58 (.tmp 23), 58, none⟩, ⟨(some 25), .move (.tmp 7), 3, none⟩, ⟨(some 26), .lookup 58 (.tmp 24) (.tmp 25) false, 57, none⟩, ⟨(some 8), .alloc 57, 0, none⟩, ⟨none, .store 57 (.tmp 8) (.tmp 26), 0, none⟩]
theorem w26_14 : WXi EE n0 rd (.reg r26_14) t m (Q := ⟨Q⟩) = (n0 ≤ m.next ∧ XWi EE m.next [(0, ⟨(some 21), .load 25 (.tmp 2), 25, none⟩), (1, ⟨(some 22), .nilCheck (.tmp 21), 0, none⟩), (2, ⟨(some 23), .fieldAddr 60 (.tmp 22) 1, 0, none⟩), (3, ⟨(some 24), .load 58 (.tmp 23), 58, none⟩), (4, ⟨(some 25), .move (.tmp 7), 3, none⟩), (5, ⟨(some 26), .lookup 58 (.tmp 24) (.tmp 25) false, 57, none⟩), (6, ⟨(some 8), .alloc 57, 0, none⟩), (7, ⟨none, .store 57 (.tmp 8) (.tmp 26), 0, none⟩)] [] t (m.bump 8) (Q := ⟨fun _ => Q .normal⟩)) := by kernel_rfl
noncomputable def r26_15 : List SOp := [⟨(some 27), .fieldAddr 57 (.tmp 8) 1, 0, none⟩, ⟨(some 28), .load 3 (.tmp 27), 3, none⟩, ⟨(some 29), .binOp .eql 3 (.tmp 28) (.const (.int .i64 2)) 3, 4, none⟩]
theorem w26_15 : WXi EE n0 rd (.reg r26_15) t m (Q := ⟨Q⟩) = (n0 ≤ m.next ∧ XWi EE m.next [(0, ⟨(some 27), .fieldAddr 57 (.tmp 8) 1, 0, none⟩), (1, ⟨(some 28), .load 3 (.tmp 27), 3, none⟩), (2, ⟨(some 29), .binOp .eql 3 (.tmp 28) (.const (.int .i64 2)) 3, 4, none⟩)] [] t (m.bump 3) (Q := ⟨fun _ => Q .normal⟩)) := by kernel_rfl
noncomputable def r26_16 : List SOp := [⟨(some 30), .move (.tmp 7), 3, none⟩, ⟨(some 31), .fieldAddr 57 (.tmp 8) 2, 0, none⟩, ⟨(some 32), .load 23 (.tmp 31), 23, none⟩, ⟨none, .store 3 (.tmp 4) (.tmp 30), 0, none⟩, ⟨none, .store 23 (.tmp 5) (.tmp 32), 0, none⟩, ⟨none, .store 26 (.tmp 6) (.const (.int .i64 0)), 0, none⟩]
theorem w26_16 : WXi EE n0 rd (.dreg r26_16 [(0, []), (3, []), (1, []), (2, [3]), (4, []), (5, [])]) t m (Q := ⟨Q⟩) = (n0 ≤ m.next ∧ YWi EE m.next [(0, ⟨(some 30), .move (.tmp 7), 3, none⟩, [], false), (3, ⟨none, .store 3 (.tmp 4) (.tmp 30), 0, none⟩, [], true), (1, ⟨(some 31), .fieldAddr 57 (.tmp 8) 2, 0, none⟩, [], false), (2, ⟨(some 32), .load 23 (.tmp 31), 23, none⟩, [3], false), (4, ⟨none, .store 23 (.tmp 5) (.tmp 32), 0, none⟩, [], false), (5, ⟨none, .store 26 (.tmp 6) (.const (.int .i64 0)), 0, none⟩, [], false)] [] [] t (m.bump 6) (Q := ⟨fun _ => Q .normal⟩)) := by kernel_rfl
noncomputable def c26_17 : SCode := (.seq (.dreg r26_16 [(0, []), (3, []), (1, []), (2, [3]), (4, []), (5, [])]) (.exit 1))
theorem w26_17 : WXi EE n0 rd c26_17 t m (Q := ⟨Q⟩) = WXi EE n0 rd (.seq (.dreg r26_16 [(0, []), (3, []), (1, []), (2, [3]), (4, []), (5, [])]) (.exit 1)) t m (Q := ⟨Q⟩) := rfl
noncomputable def c26_18 : SCode := (.seq (.reg r26_13) (.seq (.reg r26_14) (.seq (.reg r26_15) (.cond (.tmp 29) c26_17 .skip))))
theorem w26_18 : WXi EE n0 rd c26_18 t m (Q := ⟨Q⟩) = WXi EE n0 rd (.seq (.reg r26_13) (.seq (.reg r26_14) (.seq (.reg r26_15) (.cond (.tmp 29) c26_17 .skip)))) t m (Q := ⟨Q⟩) := rfl
noncomputable def c26_19 : SCode := (.block 2 c26_18)
theorem w26_19 : WXi EE n0 rd c26_19 t m (Q := ⟨Q⟩) = WXi EE n0 rd (.block 2 c26_18) t m (Q := ⟨Q⟩) := rfl
noncomputable def c26_20 : SCode := (.rfn (.tmp 19) [20] c26_12 c26_19)
theorem w26_20 : WXi EE n0 rd c26_20 t m (Q := ⟨Q⟩) = WXi EE n0 rd (.rfn (.tmp 19) [20] c26_12 c26_19) t m (Q := ⟨Q⟩) := rfl
noncomputable def r26_21 : List SOp := [⟨(some 33), .load 3 (.tmp 4), 3, none⟩, ⟨(some 34), .load 23 (.tmp 5), 23, none⟩, ⟨(some 35), .load 26 (.tmp 6), 26, none⟩, ⟨none, .store 3 (.tmp 4) (.tmp 33), 0, none⟩, ⟨none, .store 23 (.tmp 5) (.tmp 34), 0, none⟩, ⟨none, .store 26 (.tmp 6) (.tmp 35), 0, none⟩]
theorem w26_21 : WXi EE n0 rd (.dreg r26_21 [(0, []), (3, []), (1, [3]), (4, []), (2, [4, 3]), (5, [])]) t m (Q := ⟨Q⟩) = (n0 ≤ m.next ∧ YWi EE m.next [(0, ⟨(some 33), .load 3 (.tmp 4), 3, none⟩, [], false), (3, ⟨none, .store 3 (.tmp 4) (.tmp 33), 0, none⟩, [], true), (1, ⟨(some 34), .load 23 (.tmp 5), 23, none⟩, [3], false), (4, ⟨none, .store 23 (.tmp 5) (.tmp 34), 0, none⟩, [], true), (2, ⟨(some 35), .load 26 (.tmp 6), 26, none⟩, [4, 3], false), (5, ⟨none, .store 26 (.tmp 6) (.tmp 35), 0, none⟩, [], false)] [] [] t (m.bump 6) (Q := ⟨fun _ => Q .normal⟩)) := by kernel_rfl
noncomputable def c26_22 : SCode := (.seq (.block 0 c26_8) (.seq (.reg r26_9) (.seq (.label 0) (.seq (.seq (.reg r26_10) (.block 1 c26_20)) (.seq (.dreg r26_21 [(0, []), (3, []), (1, [3]), (4, []), (2, [4, 3]), (5, [])]) .ret)))))
theorem w26_22 : WXi EE n0 rd c26_22 t m (Q := ⟨Q⟩) = WXi EE n0 rd (.seq (.block 0 c26_8) (.seq (.reg r26_9) (.seq (.label 0) (.seq (.seq (.reg r26_10) (.block 1 c26_20)) (.seq (.dreg r26_21 [(0, []), (3, []), (1, [3]), (4, []), (2, [4, 3]), (5, [])]) .ret))))) t m (Q := ⟨Q⟩) := rfl
noncomputable def c26 : SCode := (.seq (.reg r26_0) (.scope c26_22))
theorem w26 : WXi EE n0 rd c26 t m (Q := ⟨Q⟩) = WXi EE n0 rd (.seq (.reg r26_0) (.scope c26_22)) t m (Q := ⟨Q⟩) := rfl
noncomputable def f26 : SFunc := ⟨36, [.cell 4 3, .cell 5 23, .cell 6 26], c26⟩
-- RULES 26 w26_0, w26_1, w26_2, w26_3, w26_4, w26_5, w26_6, w26_7, w26_8, w26_9, w26_10, w26_11, w26_12, w26_13, w26_14, w26_15, w26_16, w26_17, w26_18, w26_19, w26_20, w26_21, w26_22
theorem fn26 : fnOf EE.P 26 = some f26 := by kernel_rfl
/-! (*carryall/tree.Table).none -/
noncomputable def r27_0 : List SOp := [⟨(some 2), .assign (.const (.bool false)), 4, none⟩]
theorem w27_0 : WXi EE n0 rd (.reg r27_0) t m (Q := ⟨Q⟩) = (n0 ≤ m.next ∧ XWi EE m.next [(0, ⟨(some 2), .assign (.const (.bool false)), 4, none⟩)] [] t (m.bump 1) (Q := ⟨fun _ => Q .normal⟩)) := by kernel_rfl
noncomputable def r27_1 : List SOp := [⟨(some 3), .move (.tmp 0), 25, none⟩, ⟨(some 4), .binOp .eql 25 (.tmp 3) (.const (.pointer none)) 25, 4, none⟩, ⟨(some 5), .move (.tmp 4), 4, none⟩, ⟨(some 6), .move (.tmp 0), 25, (some (5, false))⟩, ⟨(some 7), .nilCheck (.tmp 6), 0, (some (5, false))⟩, ⟨(some 8), .fieldAddr 60 (.tmp 7) 0, 0, (some (5, false))⟩, ⟨(some 9), .load 3 (.tmp 8), 3, (some (5, false))⟩, ⟨(some 10), .binOp .eql 3 (.tmp 9) (.const (.int .i64 0)) 3, 4, (some (5, false))⟩, ⟨(some 11), .pick (.tmp 5) (.const (.bool true)) (.tmp 10), 4, none⟩, ⟨(some 2), .assign (.tmp 11), 4, none⟩]
theorem w27_1 : WXi EE n0 rd (.reg r27_1) t m (Q := ⟨Q⟩) = (n0 ≤ m.next ∧ XWi EE m.next [(0, ⟨(some 3), .move (.tmp 0), 25, none⟩), (1, ⟨(some 4), .binOp .eql 25 (.tmp 3) (.const (.pointer none)) 25, 4, none⟩), (2, ⟨(some 5), .move (.tmp 4), 4, none⟩), (3, ⟨(some 6), .move (.tmp 0), 25, (some (5, false))⟩), (4, ⟨(some 7), .nilCheck (.tmp 6), 0, (some (5, false))⟩), (5, ⟨(some 8), .fieldAddr 60 (.tmp 7) 0, 0, (some (5, false))⟩), (6, ⟨(some 9), .load 3 (.tmp 8), 3, (some (5, false))⟩), (7, ⟨(some 10), .binOp .eql 3 (.tmp 9) (.const (.int .i64 0)) 3, 4, (some (5, false))⟩), (8, ⟨(some 11), .pick (.tmp 5) (.const (.bool true)) (.tmp 10), 4, none⟩), (9, ⟨(some 2), .assign (.tmp 11), 4, none⟩)] [] t (m.bump 10) (Q := ⟨fun _ => Q .normal⟩)) := by kernel_rfl
noncomputable def c27 : SCode := (.seq (.reg r27_0) (.seq (.reg r27_1) .ret))
theorem w27 : WXi EE n0 rd c27 t m (Q := ⟨Q⟩) = WXi EE n0 rd (.seq (.reg r27_0) (.seq (.reg r27_1) .ret)) t m (Q := ⟨Q⟩) := rfl
noncomputable def f27 : SFunc := ⟨12, [.tmp 2], c27⟩
-- RULES 27 w27_0, w27_1
theorem fn27 : fnOf EE.P 27 = some f27 := by kernel_rfl
/-! (*carryall/tree.Table).of -/
noncomputable def r28_0 : List SOp := [⟨(some 2), .box 25 (.tmp 0), 0, none⟩, ⟨(some 3), .box 3 (.tmp 1), 0, none⟩, ⟨(some 4), .assign (.const .nilFunc), 62, none⟩]
theorem w28_0 : WXi EE n0 rd (.reg r28_0) t m (Q := ⟨Q⟩) = (n0 ≤ m.next ∧ XWi EE m.next [(0, ⟨(some 2), .box 25 (.tmp 0), 0, none⟩), (1, ⟨(some 3), .box 3 (.tmp 1), 0, none⟩), (2, ⟨(some 4), .assign (.const .nilFunc), 62, none⟩)] [] t (m.bump 3) (Q := ⟨fun _ => Q .normal⟩)) := by kernel_rfl
noncomputable def r28_1 : List SOp := [⟨(some 5), .makeFunc (.func 32) #[] #[(.tmp 2), (.tmp 3)], 61, none⟩, ⟨(some 4), .assign (.tmp 5), 62, none⟩]
theorem w28_1 : WXi EE n0 rd (.reg r28_1) t m (Q := ⟨Q⟩) = (n0 ≤ m.next ∧ XWi EE m.next [(0, ⟨(some 5), .makeFunc (.func 32) #[] #[(.tmp 2), (.tmp 3)], 61, none⟩), (1, ⟨(some 4), .assign (.tmp 5), 62, none⟩)] [] t (m.bump 2) (Q := ⟨fun _ => Q .normal⟩)) := by kernel_rfl
noncomputable def c28 : SCode := (.seq (.reg r28_0) (.seq (.reg r28_1) .ret))
theorem w28 : WXi EE n0 rd c28 t m (Q := ⟨Q⟩) = WXi EE n0 rd (.seq (.reg r28_0) (.seq (.reg r28_1) .ret)) t m (Q := ⟨Q⟩) := rfl
noncomputable def f28 : SFunc := ⟨6, [.tmp 4], c28⟩
-- RULES 28 w28_0, w28_1
theorem fn28 : fnOf EE.P 28 = some f28 := by kernel_rfl
/-! maps.Keys[map[int]carryall/tree.proc,int,carryall/tree.proc] -/
noncomputable def r30_0 : List SOp := [⟨(some 1), .box 58 (.tmp 0), 0, none⟩, ⟨(some 2), .assign (.const .nilFunc), 62, none⟩]
theorem w30_0 : WXi EE n0 rd (.reg r30_0) t m (Q := ⟨Q⟩) = (n0 ≤ m.next ∧ XWi EE m.next [(0, ⟨(some 1), .box 58 (.tmp 0), 0, none⟩), (1, ⟨(some 2), .assign (.const .nilFunc), 62, none⟩)] [] t (m.bump 2) (Q := ⟨fun _ => Q .normal⟩)) := by kernel_rfl
noncomputable def r30_1 : List SOp := [⟨(some 3), .makeFunc (.func 34) #[] #[(.tmp 1)], 61, none⟩, ⟨(some 2), .assign (.tmp 3), 62, none⟩]
theorem w30_1 : WXi EE n0 rd (.reg r30_1) t m (Q := ⟨Q⟩) = (n0 ≤ m.next ∧ XWi EE m.next [(0, ⟨(some 3), .makeFunc (.func 34) #[] #[(.tmp 1)], 61, none⟩), (1, ⟨(some 2), .assign (.tmp 3), 62, none⟩)] [] t (m.bump 2) (Q := ⟨fun _ => Q .normal⟩)) := by kernel_rfl
noncomputable def c30 : SCode := (.seq (.reg r30_0) (.seq (.reg r30_1) .ret))
theorem w30 : WXi EE n0 rd c30 t m (Q := ⟨Q⟩) = WXi EE n0 rd (.seq (.reg r30_0) (.seq (.reg r30_1) .ret)) t m (Q := ⟨Q⟩) := rfl
noncomputable def f30 : SFunc := ⟨4, [.tmp 2], c30⟩
-- RULES 30 w30_0, w30_1
theorem fn30 : fnOf EE.P 30 = some f30 := by kernel_rfl
/-! (*carryall/tree.Table).of$1 -/
noncomputable def r32_0 : List SOp := [⟨(some 6), .load 25 (.tmp 1), 25, none⟩, ⟨(some 7), .call ⟨.value (.func 15), #[(.tmp 6)], #[25]⟩, 33, none⟩, ⟨(some 8), .call ⟨.builtin .len, #[(.tmp 7)], #[33]⟩, 3, none⟩, ⟨(some 9), .move (.const (.int .i64 0)), 3, none⟩]
theorem w32_0 : WXi EE n0 rd (.reg r32_0) t m (Q := ⟨Q⟩) = (n0 ≤ m.next ∧ XWi EE m.next [(0, ⟨(some 6), .load 25 (.tmp 1), 25, none⟩), (1, ⟨(some 7), .call ⟨.value (.func 15), #[(.tmp 6)], #[25]⟩, 33, none⟩), (2, ⟨(some 8), .call ⟨.builtin .len, #[(.tmp 7)], #[33]⟩, 3, none⟩), (3, ⟨(some 9), .move (.const (.int .i64 0)), 3, none⟩)] [] t (m.bump 4) (Q := ⟨fun _ => Q .normal⟩)) := by kernel_rfl
noncomputable def r32_1 : List SOp := [⟨(some 10), .binOp .lss 3 (.tmp 9) (.tmp 8) 3, 0, none⟩]
theorem w32_1 : WXi EE n0 rd (.reg r32_1) t m (Q := ⟨Q⟩) = (n0 ≤ m.next ∧ XWi EE m.next [(0, ⟨(some 10), .binOp .lss 3 (.tmp 9) (.tmp 8) 3, 0, none⟩)] [] t (m.bump 1) (Q := ⟨fun _ => Q .normal⟩)) := by kernel_rfl
noncomputable def r32_2 : List SOp := [⟨(some 11), .indexAddr 33 (.tmp 7) (.tmp 9), 0, none⟩, ⟨(some 12), .load 3 (.tmp 11), 3, none⟩, ⟨(some 5), .assign (.tmp 12), 3, none⟩]
theorem w32_2 : WXi EE n0 rd (.reg r32_2) t m (Q := ⟨Q⟩) = (n0 ≤ m.next ∧ XWi EE m.next [(0, ⟨(some 11), .indexAddr 33 (.tmp 7) (.tmp 9), 0, none⟩), (1, ⟨(some 12), .load 3 (.tmp 11), 3, none⟩), (2, ⟨(some 5), .assign (.tmp 12), 3, none⟩)] [] t (m.bump 3) (Q := ⟨fun _ => Q .normal⟩)) := by kernel_rfl
noncomputable def r32_3 : List SOp := [⟨(some 13), .load 3 (.tmp 2), 3, none⟩, ⟨(some 14), .binOp .gtr 3 (.tmp 13) (.const (.int .i64 0)) 3, 4, none⟩, ⟨(some 15), .move (.tmp 14), 4, none⟩, ⟨(some 16), .load 25 (.tmp 1), 25, (some (15, true))⟩, ⟨(some 17), .nilCheck (.tmp 16), 0, (some (15, true))⟩, ⟨(some 18), .fieldAddr 60 (.tmp 17) 1, 0, (some (15, true))⟩, ⟨(some 19), .load 58 (.tmp 18), 58, (some (15, true))⟩, ⟨(some 20), .move (.tmp 5), 3, (some (15, true))⟩, ⟨(some 21), .lookup 58 (.tmp 19) (.tmp 20) false, 57, (some (15, true))⟩, ⟨(some 22), .field 57 (.tmp 21) 0, 3, (some (15, true))⟩, ⟨(some 23), .load 3 (.tmp 2), 3, (some (15, true))⟩, ⟨(some 24), .binOp .eql 3 (.tmp 22) (.tmp 23) 3, 4, (some (15, true))⟩, ⟨(some 25), .pick (.tmp 15) (.tmp 24) (.const (.bool false)), 4, none⟩, ⟨(some 26), .move (.tmp 25), 4, none⟩, ⟨(some 27), .move (.tmp 0), 67, (some (26, true))⟩, ⟨(some 28), .move (.tmp 5), 3, (some (26, true))⟩, ⟨(some 29), .call ⟨.value (.tmp 27), #[(.tmp 28)], #[3]⟩, 4, (some (26, true))⟩, ⟨(some 30), .unOp .not 4 (.tmp 29), 4, (some (26, true))⟩, ⟨(some 31), .pick (.tmp 26) (.tmp 30) (.const (.bool false)), 4, none⟩]
theorem w32_3 : WXi EE n0 rd (.dreg r32_3 [(0, []), (1, []), (2, []), (3, []), (4, []), (5, []), (6, []), (7, []), (8, []), (9, []), (10, []), (11, []), (12, []), (13, []), (14, []), (15, []), (16, []), (17, []), (18, [])]) t m (Q := ⟨Q⟩) = (n0 ≤ m.next ∧ XWi EE m.next [(0, ⟨(some 13), .load 3 (.tmp 2), 3, none⟩), (1, ⟨(some 14), .binOp .gtr 3 (.tmp 13) (.const (.int .i64 0)) 3, 4, none⟩), (2, ⟨(some 15), .move (.tmp 14), 4, none⟩), (3, ⟨(some 16), .load 25 (.tmp 1), 25, (some (15, true))⟩), (4, ⟨(some 17), .nilCheck (.tmp 16), 0, (some (15, true))⟩), (5, ⟨(some 18), .fieldAddr 60 (.tmp 17) 1, 0, (some (15, true))⟩), (6, ⟨(some 19), .load 58 (.tmp 18), 58, (some (15, true))⟩), (7, ⟨(some 20), .move (.tmp 5), 3, (some (15, true))⟩), (8, ⟨(some 21), .lookup 58 (.tmp 19) (.tmp 20) false, 57, (some (15, true))⟩), (9, ⟨(some 22), .field 57 (.tmp 21) 0, 3, (some (15, true))⟩), (10, ⟨(some 23), .load 3 (.tmp 2), 3, (some (15, true))⟩), (11, ⟨(some 24), .binOp .eql 3 (.tmp 22) (.tmp 23) 3, 4, (some (15, true))⟩), (12, ⟨(some 25), .pick (.tmp 15) (.tmp 24) (.const (.bool false)), 4, none⟩), (13, ⟨(some 26), .move (.tmp 25), 4, none⟩), (14, ⟨(some 27), .move (.tmp 0), 67, (some (26, true))⟩), (15, ⟨(some 28), .move (.tmp 5), 3, (some (26, true))⟩), (16, ⟨(some 29), .call ⟨.value (.tmp 27), #[(.tmp 28)], #[3]⟩, 4, (some (26, true))⟩), (17, ⟨(some 30), .unOp .not 4 (.tmp 29), 4, (some (26, true))⟩), (18, ⟨(some 31), .pick (.tmp 26) (.tmp 30) (.const (.bool false)), 4, none⟩)] [] t (m.bump 19) (Q := ⟨fun _ => Q .normal⟩)) := by kernel_rfl
noncomputable def c32_4 : SCode := (.seq (.reg r32_2) (.seq (.dreg r32_3 [(0, []), (1, []), (2, []), (3, []), (4, []), (5, []), (6, []), (7, []), (8, []), (9, []), (10, []), (11, []), (12, []), (13, []), (14, []), (15, []), (16, []), (17, []), (18, [])]) (.cond (.tmp 31) .ret .skip)))
theorem w32_4 : WXi EE n0 rd c32_4 t m (Q := ⟨Q⟩) = WXi EE n0 rd (.seq (.reg r32_2) (.seq (.dreg r32_3 [(0, []), (1, []), (2, []), (3, []), (4, []), (5, []), (6, []), (7, []), (8, []), (9, []), (10, []), (11, []), (12, []), (13, []), (14, []), (15, []), (16, []), (17, []), (18, [])]) (.cond (.tmp 31) .ret .skip))) t m (Q := ⟨Q⟩) := rfl
noncomputable def r32_5 : List SOp := [⟨(some 32), .binOp .add 3 (.tmp 9) (.const (.int .i64 1)) 3, 3, none⟩, ⟨(some 9), .move (.tmp 32), 3, none⟩]
theorem w32_5 : WXi EE n0 rd (.reg r32_5) t m (Q := ⟨Q⟩) = (n0 ≤ m.next ∧ XWi EE m.next [(0, ⟨(some 32), .binOp .add 3 (.tmp 9) (.const (.int .i64 1)) 3, 3, none⟩), (1, ⟨(some 9), .move (.tmp 32), 3, none⟩)] [] t (m.bump 2) (Q := ⟨fun _ => Q .normal⟩)) := by kernel_rfl
noncomputable def c32_6 : SCode := (.seq (.reg r32_1) (.seq (.cond (.tmp 10) .skip (.exit 0)) (.seq (.block 1 c32_4) (.reg r32_5))))
theorem w32_6 : WXi EE n0 rd c32_6 t m (Q := ⟨Q⟩) = WXi EE n0 rd (.seq (.reg r32_1) (.seq (.cond (.tmp 10) .skip (.exit 0)) (.seq (.block 1 c32_4) (.reg r32_5)))) t m (Q := ⟨Q⟩) := rfl
noncomputable def c32_7 : SCode := (.loop c32_6)
theorem w32_7 : WXi EE n0 rd c32_7 t m (Q := ⟨Q⟩) = WXi EE n0 rd (.loop c32_6) t m (Q := ⟨Q⟩) := rfl
noncomputable def c32 : SCode := (.seq (.reg r32_0) (.block 0 c32_7))
theorem w32 : WXi EE n0 rd c32 t m (Q := ⟨Q⟩) = WXi EE n0 rd (.seq (.reg r32_0) (.block 0 c32_7)) t m (Q := ⟨Q⟩) := rfl
noncomputable def f32 : SFunc := ⟨33, [], c32⟩
-- RULES 32 w32_0, w32_1, w32_2, w32_3, w32_4, w32_5, w32_6, w32_7
theorem fn32 : fnOf EE.P 32 = some f32 := by kernel_rfl
/-! types -/
theorem lay_3 : lay EE.P 3 = some none := by kernel_rfl
theorem lay_58 : lay EE.P 58 = some none := by kernel_rfl
theorem lay_57 : lay EE.P 57 = some (some 3) := by kernel_rfl
theorem lay_33 : lay EE.P 33 = some none := by kernel_rfl
theorem lay_25 : lay EE.P 25 = some none := by kernel_rfl
theorem lay_23 : lay EE.P 23 = some none := by kernel_rfl
theorem lay_26 : lay EE.P 26 = some none := by kernel_rfl
theorem sz_3 : szOf EE.P 3 = some 1 := by kernel_rfl
theorem sz_58 : szOf EE.P 58 = some 1 := by kernel_rfl
theorem sz_57 : szOf EE.P 57 = some 3 := by kernel_rfl
theorem sz_33 : szOf EE.P 33 = some 1 := by kernel_rfl
theorem sz_25 : szOf EE.P 25 = some 1 := by kernel_rfl
theorem sz_23 : szOf EE.P 23 = some 1 := by kernel_rfl
theorem sz_26 : szOf EE.P 26 = some 1 := by kernel_rfl
theorem zero_57 : zeroL EE.P 57 = some [(.int .i64 0), (.int .i64 0), (.int .u32 0)] := by kernel_rfl
theorem zero_33 : zeroL EE.P 33 = some [(.slice none 0 0)] := by kernel_rfl
theorem zero_3 : zeroL EE.P 3 = some [(.int .i64 0)] := by kernel_rfl
theorem zero_23 : zeroL EE.P 23 = some [(.int .u32 0)] := by kernel_rfl
theorem zero_26 : zeroL EE.P 26 = some [(.int .i64 0)] := by kernel_rfl
theorem fo_60_2 : fieldOff EE.P 60 2 = some 2 := by kernel_rfl
theorem fo_60_1 : fieldOff EE.P 60 1 = some 1 := by kernel_rfl
theorem fo_57_0 : fieldOff EE.P 57 0 = some 0 := by kernel_rfl
theorem fo_60_0 : fieldOff EE.P 60 0 = some 0 := by kernel_rfl
theorem fo_57_1 : fieldOff EE.P 57 1 = some 1 := by kernel_rfl
theorem fo_57_2 : fieldOff EE.P 57 2 = some 2 := by kernel_rfl
theorem und_58 : EE.P.underlying 58 = some (.map 3 57) := by kernel_rfl
theorem und_3 : EE.P.underlying 3 = some (.int .i64) := by kernel_rfl
theorem und_33 : EE.P.underlying 33 = some (.slice 3) := by kernel_rfl
theorem und_26 : EE.P.underlying 26 = some (.int .i64) := by kernel_rfl
theorem und_25 : EE.P.underlying 25 = some (.pointer 60) := by kernel_rfl
theorem ca_27 : callable EE.P 27 = true := by kernel_rfl
theorem ca_17 : callable EE.P 17 = true := by kernel_rfl
theorem ca_22 : callable EE.P 22 = true := by kernel_rfl
theorem ca_25 : callable EE.P 25 = true := by kernel_rfl
theorem ca_13 : callable EE.P 13 = true := by kernel_rfl
theorem ca_26 : callable EE.P 26 = true := by kernel_rfl
theorem ca_20 : callable EE.P 20 = true := by kernel_rfl
theorem ca_28 : callable EE.P 28 = true := by kernel_rfl
theorem ca_30 : callable EE.P 30 = true := by kernel_rfl
theorem ca_29 : callable EE.P 29 = true := by kernel_rfl
theorem ca_31 : callable EE.P 31 = true := by kernel_rfl
theorem ca_15 : callable EE.P 15 = true := by kernel_rfl
-- FACTS lay_3, lay_58, lay_57, lay_33, lay_25, lay_23, lay_26, sz_3, sz_58, sz_57, sz_33, sz_25, sz_23, sz_26, zero_57, zero_33, zero_3, zero_23, zero_26, fo_60_2, fo_60_1, fo_57_0, fo_60_0, fo_57_1, fo_57_2, und_58, und_3, und_33, und_26, und_25, ca_27, ca_17, ca_22, ca_25, ca_13, ca_26, ca_20, ca_28, ca_30, ca_29, ca_31, ca_15
end
end Go.Ab
