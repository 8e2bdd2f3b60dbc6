/- Queue: the code of more functions, as data. -/
import Derived.Test.YtikmfccjfhobbaaQuA
namespace Go.Ab
open Go.Proofs
noncomputable section
variable {n0 : Nat} {rd : Option Nat} {t : List Value} {m : Mem} {Q : Exit → List Value → Mem → Prop}
/-! carryall/carryalllaw13.alive -/
-- RULES 8 w8_0, w8_1, w8_2, w8_3, w8_4, w8_5, w8_6
/-! carryall/queue.New -/
-- RULES 9 w9_0, w9_1, w9_2, w9_3, w9_4
/-! (*carryall/queue.Queues).Place -/
-- RULES 10 w10_0, w10_1, w10_2, w10_3, w10_4, w10_5, w10_6, w10_7, w10_8, w10_9, w10_10, w10_11, w10_12, w10_13, w10_14, w10_15, w10_16, w10_17
/-! (*carryall/queue.Queues).List -/
-- RULES 11 w11_0, w11_1, w11_2, w11_3, w11_4
/-! (*carryall/queue.Queues).Move -/
-- RULES 12 w12_0, w12_1, w12_2, w12_3, w12_4, w12_5, w12_6, w12_7, w12_8, w12_9, w12_10, w12_11, w12_12, w12_13, w12_14, w12_15
/-! (*carryall/queue.Queues).Where -/
-- RULES 16 w16_0, w16_1, w16_2, w16_3, w16_4, w16_5, w16_6, w16_7, w16_8, w16_9, w16_10, w16_11
/-! (*carryall/queue.Queues).Cut -/
-- RULES 18 w18_0, w18_1, w18_2, w18_3, w18_4, w18_5, w18_6, w18_7
/-! (*carryall/queue.Queues).May -/
-- RULES 24 w24_0, w24_1
/-! (*carryall/queue.Queues).Cores -/
-- RULES 29 w29_0, w29_1, w29_2, w29_3, w29_4
/-! (*carryall/queue.Queues).is -/
-- RULES 30 w30_0, w30_1
/-! (*carryall/queue.Queues).put -/
-- RULES 31 w31_0, w31_1, w31_2
/-! (*carryall/queue.Queues).fewest -/
-- RULES 32 w32_0, w32_1, w32_2, w32_3, w32_4, w32_5, w32_6, w32_7, w32_8, w32_9, w32_10, w32_11
/-! slices.Clone[[]int,int] -/
-- RULES 33 w33_0, w33_1, w33_2, w33_3, w33_4
/-! slices.Contains[[]int,int] -/
-- RULES 34 w34_0, w34_1
/-! slices.Index[[]int,int] -/
-- RULES 38 w38_0, w38_1, w38_2, w38_3, w38_4, w38_5, w38_6, w38_7, w38_8, w38_9, w38_10, w38_11
/-! slices.Delete[[]int,int] -/
-- RULES 39 w39_0, w39_1, w39_2, w39_3, w39_4, w39_5, w39_6, w39_7, w39_8
/-! (*carryall/queue.Queues).of -/
-- RULES 42 w42_0, w42_1
/-! (*carryall/queue.Queues).of$1 -/
-- RULES 47 w47_0, w47_1, w47_2, w47_3, w47_4, w47_5, w47_6, w47_7, w47_8, w47_9
/-! carryall/carryalllaw13.QueueSpreads -/
-- RULES 3 w3_0, w3_1, w3_2, w3_3, w3_4, w3_5, w3_6, w3_7, w3_8, w3_9, w3_10, w3_11, w3_12, w3_13, w3_14, w3_15, w3_16, w3_17, w3_18, w3_19, w3_20, w3_21, w3_22, w3_23, w3_24, w3_25, w3_26, w3_27, w3_28, w3_29, w3_30, w3_31, w3_32, w3_33, w3_34, w3_35, w3_36, w3_37, w3_38, w3_39, w3_40, w3_41, w3_42, w3_43, w3_44, w3_45, w3_46, w3_47, w3_48, w3_49, w3_50, w3_51, w3_52, w3_53, w3_54, w3_55, w3_56, w3_57, w3_58, w3_59, w3_60, w3_61, w3_62, w3_63, w3_64, w3_65, w3_66
/-! (*carryall/queue.Queues).Pick -/
noncomputable def r13_0 : List SOp := [⟨(some 6), .assign (.const (.int .i64 0)), 3, none⟩]
theorem w13_0 : WXi EE n0 rd (.reg r13_0) t m (Q := ⟨Q⟩) = (n0 ≤ m.next ∧ XWi EE m.next [(0, ⟨(some 6), .assign (.const (.int .i64 0)), 3, none⟩)] [] t (m.bump 1) (Q := ⟨fun _ => Q .normal⟩)) := by kernel_rfl
noncomputable def r13_1 : List SOp := [⟨(some 7), .move (.tmp 0), 23, none⟩, ⟨(some 8), .move (.tmp 1), 3, none⟩, ⟨(some 9), .call ⟨.value (.func 30), #[(.tmp 7), (.tmp 8)], #[23, 3]⟩, 4, none⟩, ⟨(some 10), .unOp .not 4 (.tmp 9), 4, none⟩, ⟨(some 11), .move (.tmp 10), 4, none⟩, ⟨(some 12), .move (.tmp 0), 23, (some (11, false))⟩, ⟨(some 13), .move (.tmp 1), 3, (some (11, false))⟩, ⟨(some 14), .nilCheck (.tmp 12), 0, (some (11, false))⟩, ⟨(some 15), .fieldAddr 57 (.tmp 14) 1, 0, (some (11, false))⟩, ⟨(some 16), .indexAddr 55 (.tmp 15) (.tmp 13), 0, (some (11, false))⟩, ⟨(some 17), .load 30 (.tmp 16), 30, (some (11, false))⟩, ⟨(some 18), .call ⟨.builtin .len, #[(.tmp 17)], #[30]⟩, 3, (some (11, false))⟩, ⟨(some 19), .binOp .eql 3 (.tmp 18) (.const (.int .i64 0)) 3, 4, (some (11, false))⟩, ⟨(some 20), .pick (.tmp 11) (.const (.bool true)) (.tmp 19), 4, none⟩]
theorem w13_1 : WXi EE n0 rd (.reg r13_1) t m (Q := ⟨Q⟩) = (n0 ≤ m.next ∧ XWi EE m.next [(0, ⟨(some 7), .move (.tmp 0), 23, none⟩), (1, ⟨(some 8), .move (.tmp 1), 3, none⟩), (2, ⟨(some 9), .call ⟨.value (.func 30), #[(.tmp 7), (.tmp 8)], #[23, 3]⟩, 4, none⟩), (3, ⟨(some 10), .unOp .not 4 (.tmp 9), 4, none⟩), (4, ⟨(some 11), .move (.tmp 10), 4, none⟩), (5, ⟨(some 12), .move (.tmp 0), 23, (some (11, false))⟩), (6, ⟨(some 13), .move (.tmp 1), 3, (some (11, false))⟩), (7, ⟨(some 14), .nilCheck (.tmp 12), 0, (some (11, false))⟩), (8, ⟨(some 15), .fieldAddr 57 (.tmp 14) 1, 0, (some (11, false))⟩), (9, ⟨(some 16), .indexAddr 55 (.tmp 15) (.tmp 13), 0, (some (11, false))⟩), (10, ⟨(some 17), .load 30 (.tmp 16), 30, (some (11, false))⟩), (11, ⟨(some 18), .call ⟨.builtin .len, #[(.tmp 17)], #[30]⟩, 3, (some (11, false))⟩), (12, ⟨(some 19), .binOp .eql 3 (.tmp 18) (.const (.int .i64 0)) 3, 4, (some (11, false))⟩), (13, ⟨(some 20), .pick (.tmp 11) (.const (.bool true)) (.tmp 19), 4, none⟩)] [] t (m.bump 14) (Q := ⟨fun _ => Q .normal⟩)) := by kernel_rfl
noncomputable def r13_2 : List SOp := [⟨(some 6), .assign (.const (.int .i64 0)), 3, none⟩]
theorem w13_2 : WXi EE n0 rd (.reg r13_2) t m (Q := ⟨Q⟩) = (n0 ≤ m.next ∧ XWi EE m.next [(0, ⟨(some 6), .assign (.const (.int .i64 0)), 3, none⟩)] [] t (m.bump 1) (Q := ⟨fun _ => Q .normal⟩)) := by kernel_rfl
noncomputable def c13_3 : SCode := (.seq (.reg r13_2) .ret)
theorem w13_3 : WXi EE n0 rd c13_3 t m (Q := ⟨Q⟩) = WXi EE n0 rd (.seq (.reg r13_2) .ret) t m (Q := ⟨Q⟩) := rfl
noncomputable def r13_4 : List SOp := [⟨(some 21), .move (.tmp 0), 23, none⟩, ⟨(some 22), .move (.tmp 1), 3, none⟩, ⟨(some 23), .nilCheck (.tmp 21), 0, none⟩, ⟨(some 24), .fieldAddr 57 (.tmp 23) 1, 0, none⟩, ⟨(some 25), .indexAddr 55 (.tmp 24) (.tmp 22), 0, none⟩, ⟨(some 26), .load 30 (.tmp 25), 30, none⟩, ⟨(some 27), .move (.tmp 2), 29, none⟩, ⟨(some 28), .convert 29 3 (.tmp 27), 3, none⟩, ⟨(some 29), .move (.tmp 0), 23, none⟩, ⟨(some 30), .move (.tmp 1), 3, none⟩, ⟨(some 31), .nilCheck (.tmp 29), 0, none⟩, ⟨(some 32), .fieldAddr 57 (.tmp 31) 1, 0, none⟩, ⟨(some 33), .indexAddr 55 (.tmp 32) (.tmp 30), 0, none⟩, ⟨(some 34), .load 30 (.tmp 33), 30, none⟩, ⟨(some 35), .call ⟨.builtin .len, #[(.tmp 34)], #[30]⟩, 3, none⟩, ⟨(some 36), .binOp .rem 3 (.tmp 28) (.tmp 35) 3, 3, none⟩, ⟨(some 37), .indexAddr 30 (.tmp 26) (.tmp 36), 0, none⟩, ⟨(some 38), .load 3 (.tmp 37), 3, none⟩, ⟨(some 6), .assign (.tmp 38), 3, none⟩]
theorem w13_4 : WXi EE n0 rd (.dreg r13_4 [(0, []), (1, []), (2, []), (3, []), (4, []), (5, []), (6, []), (7, []), (8, []), (9, []), (10, []), (11, []), (12, []), (13, []), (14, []), (15, []), (16, []), (17, []), (18, [])]) t m (Q := ⟨Q⟩) = (n0 ≤ m.next ∧ XWi EE m.next [(0, ⟨(some 21), .move (.tmp 0), 23, none⟩), (1, ⟨(some 22), .move (.tmp 1), 3, none⟩), (2, ⟨(some 23), .nilCheck (.tmp 21), 0, none⟩), (3, ⟨(some 24), .fieldAddr 57 (.tmp 23) 1, 0, none⟩), (4, ⟨(some 25), .indexAddr 55 (.tmp 24) (.tmp 22), 0, none⟩), (5, ⟨(some 26), .load 30 (.tmp 25), 30, none⟩), (6, ⟨(some 27), .move (.tmp 2), 29, none⟩), (7, ⟨(some 28), .convert 29 3 (.tmp 27), 3, none⟩), (8, ⟨(some 29), .move (.tmp 0), 23, none⟩), (9, ⟨(some 30), .move (.tmp 1), 3, none⟩), (10, ⟨(some 31), .nilCheck (.tmp 29), 0, none⟩), (11, ⟨(some 32), .fieldAddr 57 (.tmp 31) 1, 0, none⟩), (12, ⟨(some 33), .indexAddr 55 (.tmp 32) (.tmp 30), 0, none⟩), (13, ⟨(some 34), .load 30 (.tmp 33), 30, none⟩), (14, ⟨(some 35), .call ⟨.builtin .len, #[(.tmp 34)], #[30]⟩, 3, none⟩), (15, ⟨(some 36), .binOp .rem 3 (.tmp 28) (.tmp 35) 3, 3, none⟩), (16, ⟨(some 37), .indexAddr 30 (.tmp 26) (.tmp 36), 0, none⟩), (17, ⟨(some 38), .load 3 (.tmp 37), 3, none⟩), (18, ⟨(some 6), .assign (.tmp 38), 3, none⟩)] [] t (m.bump 19) (Q := ⟨fun _ => Q .normal⟩)) := by kernel_rfl
noncomputable def c13 : SCode := (.seq (.reg r13_0) (.seq (.seq (.reg r13_1) (.cond (.tmp 20) c13_3 .skip)) (.seq (.dreg r13_4 [(0, []), (1, []), (2, []), (3, []), (4, []), (5, []), (6, []), (7, []), (8, []), (9, []), (10, []), (11, []), (12, []), (13, []), (14, []), (15, []), (16, []), (17, []), (18, [])]) .ret)))
theorem w13 : WXi EE n0 rd c13 t m (Q := ⟨Q⟩) = WXi EE n0 rd (.seq (.reg r13_0) (.seq (.seq (.reg r13_1) (.cond (.tmp 20) c13_3 .skip)) (.seq (.dreg r13_4 [(0, []), (1, []), (2, []), (3, []), (4, []), (5, []), (6, []), (7, []), (8, []), (9, []), (10, []), (11, []), (12, []), (13, []), (14, []), (15, []), (16, []), (17, []), (18, [])]) .ret))) t m (Q := ⟨Q⟩) := rfl
noncomputable def f13 : SFunc := ⟨39, [.tmp 6], c13⟩
-- RULES 13 w13_0, w13_1, w13_2, w13_3, w13_4
theorem fn13 : fnOf EE.P 13 = some f13 := by kernel_rfl
/-! (*carryall/queue.Queues).Rotate -/
noncomputable def r14_0 : List SOp := [⟨(some 4), .assign (.const (.bool false)), 4, none⟩]
theorem w14_0 : WXi EE n0 rd (.reg r14_0) t m (Q := ⟨Q⟩) = (n0 ≤ m.next ∧ XWi EE m.next [(0, ⟨(some 4), .assign (.const (.bool false)), 4, none⟩)] [] t (m.bump 1) (Q := ⟨fun _ => Q .normal⟩)) := by kernel_rfl
noncomputable def r14_1 : List SOp := [⟨(some 6), .move (.tmp 0), 23, none⟩, ⟨(some 7), .move (.tmp 1), 3, none⟩, ⟨(some 8), .call ⟨.value (.func 30), #[(.tmp 6), (.tmp 7)], #[23, 3]⟩, 4, none⟩, ⟨(some 9), .unOp .not 4 (.tmp 8), 4, none⟩, ⟨(some 10), .move (.tmp 9), 4, none⟩, ⟨(some 11), .move (.tmp 0), 23, (some (10, false))⟩, ⟨(some 12), .move (.tmp 1), 3, (some (10, false))⟩, ⟨(some 13), .nilCheck (.tmp 11), 0, (some (10, false))⟩, ⟨(some 14), .fieldAddr 57 (.tmp 13) 1, 0, (some (10, false))⟩, ⟨(some 15), .indexAddr 55 (.tmp 14) (.tmp 12), 0, (some (10, false))⟩, ⟨(some 16), .load 30 (.tmp 15), 30, (some (10, false))⟩, ⟨(some 17), .call ⟨.builtin .len, #[(.tmp 16)], #[30]⟩, 3, (some (10, false))⟩, ⟨(some 18), .binOp .lss 3 (.tmp 17) (.const (.int .i64 2)) 3, 4, (some (10, false))⟩, ⟨(some 19), .pick (.tmp 10) (.const (.bool true)) (.tmp 18), 4, none⟩]
theorem w14_1 : WXi EE n0 rd (.reg r14_1) t m (Q := ⟨Q⟩) = (n0 ≤ m.next ∧ XWi EE m.next [(0, ⟨(some 6), .move (.tmp 0), 23, none⟩), (1, ⟨(some 7), .move (.tmp 1), 3, none⟩), (2, ⟨(some 8), .call ⟨.value (.func 30), #[(.tmp 6), (.tmp 7)], #[23, 3]⟩, 4, none⟩), (3, ⟨(some 9), .unOp .not 4 (.tmp 8), 4, none⟩), (4, ⟨(some 10), .move (.tmp 9), 4, none⟩), (5, ⟨(some 11), .move (.tmp 0), 23, (some (10, false))⟩), (6, ⟨(some 12), .move (.tmp 1), 3, (some (10, false))⟩), (7, ⟨(some 13), .nilCheck (.tmp 11), 0, (some (10, false))⟩), (8, ⟨(some 14), .fieldAddr 57 (.tmp 13) 1, 0, (some (10, false))⟩), (9, ⟨(some 15), .indexAddr 55 (.tmp 14) (.tmp 12), 0, (some (10, false))⟩), (10, ⟨(some 16), .load 30 (.tmp 15), 30, (some (10, false))⟩), (11, ⟨(some 17), .call ⟨.builtin .len, #[(.tmp 16)], #[30]⟩, 3, (some (10, false))⟩), (12, ⟨(some 18), .binOp .lss 3 (.tmp 17) (.const (.int .i64 2)) 3, 4, (some (10, false))⟩), (13, ⟨(some 19), .pick (.tmp 10) (.const (.bool true)) (.tmp 18), 4, none⟩)] [] t (m.bump 14) (Q := ⟨fun _ => Q .normal⟩)) := by kernel_rfl
noncomputable def r14_2 : List SOp := [⟨(some 4), .assign (.const (.bool false)), 4, none⟩]
theorem w14_2 : WXi EE n0 rd (.reg r14_2) t m (Q := ⟨Q⟩) = (n0 ≤ m.next ∧ XWi EE m.next [(0, ⟨(some 4), .assign (.const (.bool false)), 4, none⟩)] [] t (m.bump 1) (Q := ⟨fun _ => Q .normal⟩)) := by kernel_rfl
noncomputable def c14_3 : SCode := (.seq (.reg r14_2) .ret)
theorem w14_3 : WXi EE n0 rd c14_3 t m (Q := ⟨Q⟩) = WXi EE n0 rd (.seq (.reg r14_2) .ret) t m (Q := ⟨Q⟩) := rfl
noncomputable def r14_4 : List SOp := [⟨(some 20), .move (.tmp 0), 23, none⟩, ⟨(some 21), .move (.tmp 1), 3, none⟩, ⟨(some 22), .nilCheck (.tmp 20), 0, none⟩, ⟨(some 23), .fieldAddr 57 (.tmp 22) 1, 0, none⟩, ⟨(some 24), .indexAddr 55 (.tmp 23) (.tmp 21), 0, none⟩, ⟨(some 25), .load 30 (.tmp 24), 30, none⟩, ⟨(some 5), .assign (.tmp 25), 30, none⟩]
theorem w14_4 : WXi EE n0 rd (.reg r14_4) t m (Q := ⟨Q⟩) = (n0 ≤ m.next ∧ XWi EE m.next [(0, ⟨(some 20), .move (.tmp 0), 23, none⟩), (1, ⟨(some 21), .move (.tmp 1), 3, none⟩), (2, ⟨(some 22), .nilCheck (.tmp 20), 0, none⟩), (3, ⟨(some 23), .fieldAddr 57 (.tmp 22) 1, 0, none⟩), (4, ⟨(some 24), .indexAddr 55 (.tmp 23) (.tmp 21), 0, none⟩), (5, ⟨(some 25), .load 30 (.tmp 24), 30, none⟩), (6, ⟨(some 5), .assign (.tmp 25), 30, none⟩)] [] t (m.bump 7) (Q := ⟨fun _ => Q .normal⟩)) := by kernel_rfl
noncomputable def r14_5 : List SOp := [⟨(some 26), .move (.tmp 0), 23, none⟩, ⟨(some 27), .move (.tmp 1), 3, none⟩, ⟨(some 28), .move (.tmp 5), 30, none⟩, ⟨(some 29), .slice 30 (.tmp 28) (some (.const (.int .i64 1))) none none, 30, none⟩, ⟨(some 30), .call ⟨.value (.func 33), #[(.tmp 29)], #[30]⟩, 30, none⟩, ⟨(some 31), .move (.tmp 5), 30, none⟩, ⟨(some 32), .indexAddr 30 (.tmp 31) (.const (.int .i64 0)), 0, none⟩, ⟨(some 33), .load 3 (.tmp 32), 3, none⟩, ⟨(some 34), .buildSlice 30 1 #[(0, (.tmp 33))], 30, none⟩, ⟨(some 35), .call ⟨.builtin .append, #[(.tmp 30), (.tmp 34)], #[30, 30]⟩, 30, none⟩, ⟨(some 36), .nilCheck (.tmp 26), 0, none⟩, ⟨(some 37), .fieldAddr 57 (.tmp 36) 1, 0, none⟩, ⟨(some 38), .indexAddr 55 (.tmp 37) (.tmp 27), 0, none⟩, ⟨none, .store 30 (.tmp 38) (.tmp 35), 0, none⟩]
theorem w14_5 : WXi EE n0 rd (.dreg r14_5 [(2, []), (3, []), (4, []), (5, []), (6, []), (7, [4]), (8, []), (9, []), (0, []), (1, []), (10, []), (11, []), (12, []), (13, [])]) t m (Q := ⟨Q⟩) = (n0 ≤ m.next ∧ YWi EE m.next [(2, ⟨(some 28), .move (.tmp 5), 30, none⟩, [], false), (3, ⟨(some 29), .slice 30 (.tmp 28) (some (.const (.int .i64 1))) none none, 30, none⟩, [], false), (4, ⟨(some 30), .call ⟨.value (.func 33), #[(.tmp 29)], #[30]⟩, 30, none⟩, [], true), (5, ⟨(some 31), .move (.tmp 5), 30, none⟩, [], false), (6, ⟨(some 32), .indexAddr 30 (.tmp 31) (.const (.int .i64 0)), 0, none⟩, [], false), (7, ⟨(some 33), .load 3 (.tmp 32), 3, none⟩, [4], false), (8, ⟨(some 34), .buildSlice 30 1 #[(0, (.tmp 33))], 30, none⟩, [], false), (9, ⟨(some 35), .call ⟨.builtin .append, #[(.tmp 30), (.tmp 34)], #[30, 30]⟩, 30, none⟩, [], false), (0, ⟨(some 26), .move (.tmp 0), 23, none⟩, [], false), (1, ⟨(some 27), .move (.tmp 1), 3, none⟩, [], false), (10, ⟨(some 36), .nilCheck (.tmp 26), 0, none⟩, [], false), (11, ⟨(some 37), .fieldAddr 57 (.tmp 36) 1, 0, none⟩, [], false), (12, ⟨(some 38), .indexAddr 55 (.tmp 37) (.tmp 27), 0, none⟩, [], false), (13, ⟨none, .store 30 (.tmp 38) (.tmp 35), 0, none⟩, [], false)] [] [] t (m.bump 14) (Q := ⟨fun _ => Q .normal⟩)) := by kernel_rfl
noncomputable def r14_6 : List SOp := [⟨(some 4), .assign (.const (.bool true)), 4, none⟩]
theorem w14_6 : WXi EE n0 rd (.reg r14_6) t m (Q := ⟨Q⟩) = (n0 ≤ m.next ∧ XWi EE m.next [(0, ⟨(some 4), .assign (.const (.bool true)), 4, none⟩)] [] t (m.bump 1) (Q := ⟨fun _ => Q .normal⟩)) := by kernel_rfl
noncomputable def c14 : SCode := (.seq (.reg r14_0) (.seq (.seq (.reg r14_1) (.cond (.tmp 19) c14_3 .skip)) (.seq (.reg r14_4) (.seq (.dreg r14_5 [(2, []), (3, []), (4, []), (5, []), (6, []), (7, [4]), (8, []), (9, []), (0, []), (1, []), (10, []), (11, []), (12, []), (13, [])]) (.seq (.reg r14_6) .ret)))))
theorem w14 : WXi EE n0 rd c14 t m (Q := ⟨Q⟩) = WXi EE n0 rd (.seq (.reg r14_0) (.seq (.seq (.reg r14_1) (.cond (.tmp 19) c14_3 .skip)) (.seq (.reg r14_4) (.seq (.dreg r14_5 [(2, []), (3, []), (4, []), (5, []), (6, []), (7, [4]), (8, []), (9, []), (0, []), (1, []), (10, []), (11, []), (12, []), (13, [])]) (.seq (.reg r14_6) .ret))))) t m (Q := ⟨Q⟩) := rfl
noncomputable def f14 : SFunc := ⟨39, [.tmp 4], c14⟩
-- RULES 14 w14_0, w14_1, w14_2, w14_3, w14_4, w14_5, w14_6
theorem fn14 : fnOf EE.P 14 = some f14 := by kernel_rfl
/-! (*carryall/queue.Queues).All -/
noncomputable def r17_0 : List SOp := [⟨(some 2), .assign (.const (.slice none 0 0)), 30, none⟩]
theorem w17_0 : WXi EE n0 rd (.reg r17_0) t m (Q := ⟨Q⟩) = (n0 ≤ m.next ∧ XWi EE m.next [(0, ⟨(some 2), .assign (.const (.slice none 0 0)), 30, none⟩)] [] t (m.bump 1) (Q := ⟨fun _ => Q .normal⟩)) := by kernel_rfl
noncomputable def r17_1 : List SOp := [⟨(some 3), .move (.tmp 0), 23, none⟩, ⟨(some 4), .binOp .eql 23 (.tmp 3) (.const (.pointer none)) 23, 4, none⟩]
theorem w17_1 : WXi EE n0 rd (.reg r17_1) t m (Q := ⟨Q⟩) = (n0 ≤ m.next ∧ XWi EE m.next [(0, ⟨(some 3), .move (.tmp 0), 23, none⟩), (1, ⟨(some 4), .binOp .eql 23 (.tmp 3) (.const (.pointer none)) 23, 4, none⟩)] [] t (m.bump 2) (Q := ⟨fun _ => Q .normal⟩)) := by kernel_rfl
noncomputable def r17_2 : List SOp := [⟨(some 2), .assign (.const (.slice none 0 0)), 30, none⟩]
theorem w17_2 : WXi EE n0 rd (.reg r17_2) t m (Q := ⟨Q⟩) = (n0 ≤ m.next ∧ XWi EE m.next [(0, ⟨(some 2), .assign (.const (.slice none 0 0)), 30, none⟩)] [] t (m.bump 1) (Q := ⟨fun _ => Q .normal⟩)) := by kernel_rfl
noncomputable def c17_3 : SCode := (.seq (.reg r17_2) .ret)
theorem w17_3 : WXi EE n0 rd c17_3 t m (Q := ⟨Q⟩) = WXi EE n0 rd (.seq (.reg r17_2) .ret) t m (Q := ⟨Q⟩) := rfl
noncomputable def r17_4 : List SOp := [⟨(some 5), .move (.tmp 0), 23, none⟩, ⟨(some 6), .nilCheck (.tmp 5), 0, none⟩, ⟨(some 7), .fieldAddr 57 (.tmp 6) 1, 0, none⟩, ⟨(some 8), .slice 55 (.tmp 7) none none none, 67, none⟩, ⟨(some 9), .call ⟨.value (.func 37), #[(.tmp 8)], #[67]⟩, 30, none⟩, ⟨(some 10), .call ⟨.value (.func 36), #[(.tmp 9)], #[30]⟩, 64, none⟩, ⟨(some 11), .call ⟨.value (.func 35), #[(.tmp 10)], #[64]⟩, 30, none⟩, ⟨(some 2), .assign (.tmp 11), 30, none⟩]
theorem w17_4 : WXi EE n0 rd (.reg r17_4) t m (Q := ⟨Q⟩) = (n0 ≤ m.next ∧ XWi EE m.next [(0, ⟨(some 5), .move (.tmp 0), 23, none⟩), (1, ⟨(some 6), .nilCheck (.tmp 5), 0, none⟩), (2, ⟨(some 7), .fieldAddr 57 (.tmp 6) 1, 0, none⟩), (3, ⟨(some 8), .slice 55 (.tmp 7) none none none, 67, none⟩), (4, ⟨(some 9), .call ⟨.value (.func 37), #[(.tmp 8)], #[67]⟩, 30, none⟩), (5, ⟨(some 10), .call ⟨.value (.func 36), #[(.tmp 9)], #[30]⟩, 64, none⟩), (6, ⟨(some 11), .call ⟨.value (.func 35), #[(.tmp 10)], #[64]⟩, 30, none⟩), (7, ⟨(some 2), .assign (.tmp 11), 30, none⟩)] [] t (m.bump 8) (Q := ⟨fun _ => Q .normal⟩)) := by kernel_rfl
noncomputable def c17 : SCode := (.seq (.reg r17_0) (.seq (.seq (.reg r17_1) (.cond (.tmp 4) c17_3 .skip)) (.seq (.reg r17_4) .ret)))
theorem w17 : WXi EE n0 rd c17 t m (Q := ⟨Q⟩) = WXi EE n0 rd (.seq (.reg r17_0) (.seq (.seq (.reg r17_1) (.cond (.tmp 4) c17_3 .skip)) (.seq (.reg r17_4) .ret))) t m (Q := ⟨Q⟩) := rfl
noncomputable def f17 : SFunc := ⟨12, [.tmp 2], c17⟩
-- RULES 17 w17_0, w17_1, w17_2, w17_3, w17_4
theorem fn17 : fnOf EE.P 17 = some f17 := by kernel_rfl
/-! slices.Sorted[int] -/
noncomputable def r35_0 : List SOp := [⟨(some 2), .assign (.const (.slice none 0 0)), 30, none⟩]
theorem w35_0 : WXi EE n0 rd (.reg r35_0) t m (Q := ⟨Q⟩) = (n0 ≤ m.next ∧ XWi EE m.next [(0, ⟨(some 2), .assign (.const (.slice none 0 0)), 30, none⟩)] [] t (m.bump 1) (Q := ⟨fun _ => Q .normal⟩)) := by kernel_rfl
noncomputable def r35_1 : List SOp := [⟨(some 4), .move (.tmp 0), 64, none⟩, ⟨(some 5), .call ⟨.value (.func 43), #[(.tmp 4)], #[64]⟩, 30, none⟩, ⟨(some 3), .assign (.tmp 5), 30, none⟩]
theorem w35_1 : WXi EE n0 rd (.reg r35_1) t m (Q := ⟨Q⟩) = (n0 ≤ m.next ∧ XWi EE m.next [(0, ⟨(some 4), .move (.tmp 0), 64, none⟩), (1, ⟨(some 5), .call ⟨.value (.func 43), #[(.tmp 4)], #[64]⟩, 30, none⟩), (2, ⟨(some 3), .assign (.tmp 5), 30, none⟩)] [] t (m.bump 3) (Q := ⟨fun _ => Q .normal⟩)) := by kernel_rfl
noncomputable def r35_2 : List SOp := [⟨(some 6), .move (.tmp 3), 30, none⟩, ⟨(some 7), .call ⟨.value (.func 44), #[(.tmp 6)], #[30]⟩, 0, none⟩]
theorem w35_2 : WXi EE n0 rd (.reg r35_2) t m (Q := ⟨Q⟩) = (n0 ≤ m.next ∧ XWi EE m.next [(0, ⟨(some 6), .move (.tmp 3), 30, none⟩), (1, ⟨(some 7), .call ⟨.value (.func 44), #[(.tmp 6)], #[30]⟩, 0, none⟩)] [] t (m.bump 2) (Q := ⟨fun _ => Q .normal⟩)) := by kernel_rfl
noncomputable def r35_3 : List SOp := [⟨(some 8), .move (.tmp 3), 30, none⟩, ⟨(some 2), .assign (.tmp 8), 30, none⟩]
theorem w35_3 : WXi EE n0 rd (.reg r35_3) t m (Q := ⟨Q⟩) = (n0 ≤ m.next ∧ XWi EE m.next [(0, ⟨(some 8), .move (.tmp 3), 30, none⟩), (1, ⟨(some 2), .assign (.tmp 8), 30, none⟩)] [] t (m.bump 2) (Q := ⟨fun _ => Q .normal⟩)) := by kernel_rfl
noncomputable def c35 : SCode := (.seq (.reg r35_0) (.seq (.reg r35_1) (.seq (.reg r35_2) (.seq (.reg r35_3) .ret))))
theorem w35 : WXi EE n0 rd c35 t m (Q := ⟨Q⟩) = WXi EE n0 rd (.seq (.reg r35_0) (.seq (.reg r35_1) (.seq (.reg r35_2) (.seq (.reg r35_3) .ret)))) t m (Q := ⟨Q⟩) := rfl
noncomputable def f35 : SFunc := ⟨9, [.tmp 2], c35⟩
-- RULES 35 w35_0, w35_1, w35_2, w35_3
theorem fn35 : fnOf EE.P 35 = some f35 := by kernel_rfl
/-! slices.Values[[]int,int] -/
noncomputable def r36_0 : List SOp := [⟨(some 1), .box 30 (.tmp 0), 0, none⟩, ⟨(some 2), .assign (.const .nilFunc), 64, none⟩]
theorem w36_0 : WXi EE n0 rd (.reg r36_0) t m (Q := ⟨Q⟩) = (n0 ≤ m.next ∧ XWi EE m.next [(0, ⟨(some 1), .box 30 (.tmp 0), 0, none⟩), (1, ⟨(some 2), .assign (.const .nilFunc), 64, none⟩)] [] t (m.bump 2) (Q := ⟨fun _ => Q .normal⟩)) := by kernel_rfl
noncomputable def r36_1 : List SOp := [⟨(some 3), .makeFunc (.func 45) #[] #[(.tmp 1)], 63, none⟩, ⟨(some 2), .assign (.tmp 3), 64, none⟩]
theorem w36_1 : WXi EE n0 rd (.reg r36_1) t m (Q := ⟨Q⟩) = (n0 ≤ m.next ∧ XWi EE m.next [(0, ⟨(some 3), .makeFunc (.func 45) #[] #[(.tmp 1)], 63, none⟩), (1, ⟨(some 2), .assign (.tmp 3), 64, none⟩)] [] t (m.bump 2) (Q := ⟨fun _ => Q .normal⟩)) := by kernel_rfl
noncomputable def c36 : SCode := (.seq (.reg r36_0) (.seq (.reg r36_1) .ret))
theorem w36 : WXi EE n0 rd c36 t m (Q := ⟨Q⟩) = WXi EE n0 rd (.seq (.reg r36_0) (.seq (.reg r36_1) .ret)) t m (Q := ⟨Q⟩) := rfl
noncomputable def f36 : SFunc := ⟨4, [.tmp 2], c36⟩
-- RULES 36 w36_0, w36_1
theorem fn36 : fnOf EE.P 36 = some f36 := by kernel_rfl
/-! slices.Concat[[]int,int] -/
noncomputable def r37_0 : List SOp := [⟨(some 2), .assign (.const (.slice none 0 0)), 30, none⟩]
theorem w37_0 : WXi EE n0 rd (.reg r37_0) t m (Q := ⟨Q⟩) = (n0 ≤ m.next ∧ XWi EE m.next [(0, ⟨(some 2), .assign (.const (.slice none 0 0)), 30, none⟩)] [] t (m.bump 1) (Q := ⟨fun _ => Q .normal⟩)) := by kernel_rfl
noncomputable def r37_1 : List SOp := [⟨(some 3), .assign (.const (.int .i64 0)), 3, none⟩]
theorem w37_1 : WXi EE n0 rd (.reg r37_1) t m (Q := ⟨Q⟩) = (n0 ≤ m.next ∧ XWi EE m.next [(0, ⟨(some 3), .assign (.const (.int .i64 0)), 3, none⟩)] [] t (m.bump 1) (Q := ⟨fun _ => Q .normal⟩)) := by kernel_rfl
noncomputable def r37_2 : List SOp := [⟨(some 9), .move (.tmp 0), 67, none⟩, ⟨(some 10), .call ⟨.builtin .len, #[(.tmp 9)], #[67]⟩, 3, none⟩, ⟨(some 11), .move (.const (.int .i64 0)), 3, none⟩]
theorem w37_2 : WXi EE n0 rd (.reg r37_2) t m (Q := ⟨Q⟩) = (n0 ≤ m.next ∧ XWi EE m.next [(0, ⟨(some 9), .move (.tmp 0), 67, none⟩), (1, ⟨(some 10), .call ⟨.builtin .len, #[(.tmp 9)], #[67]⟩, 3, none⟩), (2, ⟨(some 11), .move (.const (.int .i64 0)), 3, none⟩)] [] t (m.bump 3) (Q := ⟨fun _ => Q .normal⟩)) := by kernel_rfl
noncomputable def r37_3 : List SOp := [⟨(some 12), .binOp .lss 3 (.tmp 11) (.tmp 10) 3, 0, none⟩]
theorem w37_3 : WXi EE n0 rd (.reg r37_3) t m (Q := ⟨Q⟩) = (n0 ≤ m.next ∧ XWi EE m.next [(0, ⟨(some 12), .binOp .lss 3 (.tmp 11) (.tmp 10) 3, 0, none⟩)] [] t (m.bump 1) (Q := ⟨fun _ => Q .normal⟩)) := by kernel_rfl
noncomputable def r37_4 : List SOp := [⟨(some 13), .indexAddr 67 (.tmp 9) (.tmp 11), 0, none⟩, ⟨(some 14), .load 30 (.tmp 13), 30, none⟩, ⟨(some 5), .assign (.tmp 14), 30, none⟩]
theorem w37_4 : WXi EE n0 rd (.reg r37_4) t m (Q := ⟨Q⟩) = (n0 ≤ m.next ∧ XWi EE m.next [(0, ⟨(some 13), .indexAddr 67 (.tmp 9) (.tmp 11), 0, none⟩), (1, ⟨(some 14), .load 30 (.tmp 13), 30, none⟩), (2, ⟨(some 5), .assign (.tmp 14), 30, none⟩)] [] t (m.bump 3) (Q := ⟨fun _ => Q .normal⟩)) := by kernel_rfl
noncomputable def r37_5 : List SOp := [⟨(some 15), .move (.tmp 3), 3, none⟩, ⟨(some 16), .move (.tmp 5), 30, none⟩, ⟨(some 17), .call ⟨.builtin .len, #[(.tmp 16)], #[30]⟩, 3, none⟩, ⟨(some 18), .binOp .add 3 (.tmp 15) (.tmp 17) 3, 3, none⟩, ⟨(some 3), .assign (.tmp 18), 3, none⟩]
theorem w37_5 : WXi EE n0 rd (.reg r37_5) t m (Q := ⟨Q⟩) = (n0 ≤ m.next ∧ XWi EE m.next [(0, ⟨(some 15), .move (.tmp 3), 3, none⟩), (1, ⟨(some 16), .move (.tmp 5), 30, none⟩), (2, ⟨(some 17), .call ⟨.builtin .len, #[(.tmp 16)], #[30]⟩, 3, none⟩), (3, ⟨(some 18), .binOp .add 3 (.tmp 15) (.tmp 17) 3, 3, none⟩), (4, ⟨(some 3), .assign (.tmp 18), 3, none⟩)] [] t (m.bump 5) (Q := ⟨fun _ => Q .normal⟩)) := by kernel_rfl
noncomputable def r37_6 : List SOp := [⟨(some 19), .move (.tmp 3), 3, none⟩, ⟨(some 20), .binOp .lss 3 (.tmp 19) (.const (.int .i64 0)) 3, 4, none⟩]
theorem w37_6 : WXi EE n0 rd (.reg r37_6) t m (Q := ⟨Q⟩) = (n0 ≤ m.next ∧ XWi EE m.next [(0, ⟨(some 19), .move (.tmp 3), 3, none⟩), (1, ⟨(some 20), .binOp .lss 3 (.tmp 19) (.const (.int .i64 0)) 3, 4, none⟩)] [] t (m.bump 2) (Q := ⟨fun _ => Q .normal⟩)) := by kernel_rfl
noncomputable def r37_7 : List SOp := [⟨(some 21), .makeInterface 9 (.const (.string (ByteArray.mk #[108, 101, 110, 32, 111, 117, 116, 32, 111, 102, 32, 114, 97, 110, 103, 101]))), 20, none⟩, ⟨none, .panic (.tmp 21), 0, none⟩]
theorem w37_7 : WXi EE n0 rd (.reg r37_7) t m (Q := ⟨Q⟩) = (n0 ≤ m.next ∧ XWi EE m.next [(0, ⟨(some 21), .makeInterface 9 (.const (.string (ByteArray.mk #[108, 101, 110, 32, 111, 117, 116, 32, 111, 102, 32, 114, 97, 110, 103, 101]))), 20, none⟩), (1, ⟨none, .panic (.tmp 21), 0, none⟩)] [] t (m.bump 2) (Q := ⟨fun _ => Q .normal⟩)) := by kernel_rfl
noncomputable def c37_8 : SCode := (.reg r37_7)
theorem w37_8 : WXi EE n0 rd c37_8 t m (Q := ⟨Q⟩) = WXi EE n0 rd (.reg r37_7) t m (Q := ⟨Q⟩) := rfl
noncomputable def c37_9 : SCode := (.seq (.reg r37_4) (.seq (.reg r37_5) (.seq (.reg r37_6) (.cond (.tmp 20) c37_8 .skip))))
theorem w37_9 : WXi EE n0 rd c37_9 t m (Q := ⟨Q⟩) = WXi EE n0 rd (.seq (.reg r37_4) (.seq (.reg r37_5) (.seq (.reg r37_6) (.cond (.tmp 20) c37_8 .skip)))) t m (Q := ⟨Q⟩) := rfl
noncomputable def r37_10 : List SOp := [⟨(some 22), .binOp .add 3 (.tmp 11) (.const (.int .i64 1)) 3, 3, none⟩, ⟨(some 11), .move (.tmp 22), 3, none⟩]
theorem w37_10 : WXi EE n0 rd (.reg r37_10) t m (Q := ⟨Q⟩) = (n0 ≤ m.next ∧ XWi EE m.next [(0, ⟨(some 22), .binOp .add 3 (.tmp 11) (.const (.int .i64 1)) 3, 3, none⟩), (1, ⟨(some 11), .move (.tmp 22), 3, none⟩)] [] t (m.bump 2) (Q := ⟨fun _ => Q .normal⟩)) := by kernel_rfl
noncomputable def c37_11 : SCode := (.seq (.reg r37_3) (.seq (.cond (.tmp 12) .skip (.exit 0)) (.seq (.block 1 c37_9) (.reg r37_10))))
theorem w37_11 : WXi EE n0 rd c37_11 t m (Q := ⟨Q⟩) = WXi EE n0 rd (.seq (.reg r37_3) (.seq (.cond (.tmp 12) .skip (.exit 0)) (.seq (.block 1 c37_9) (.reg r37_10)))) t m (Q := ⟨Q⟩) := rfl
noncomputable def c37_12 : SCode := (.loop c37_11)
theorem w37_12 : WXi EE n0 rd c37_12 t m (Q := ⟨Q⟩) = WXi EE n0 rd (.loop c37_11) t m (Q := ⟨Q⟩) := rfl
noncomputable def r37_13 : List SOp := [⟨(some 23), .move (.tmp 3), 3, none⟩, ⟨(some 24), .call ⟨.value (.func 46), #[(.const (.slice none 0 0)), (.tmp 23)], #[30, 3]⟩, 30, none⟩, ⟨(some 6), .assign (.tmp 24), 30, none⟩]
theorem w37_13 : WXi EE n0 rd (.reg r37_13) t m (Q := ⟨Q⟩) = (n0 ≤ m.next ∧ XWi EE m.next [(0, ⟨(some 23), .move (.tmp 3), 3, none⟩), (1, ⟨(some 24), .call ⟨.value (.func 46), #[(.const (.slice none 0 0)), (.tmp 23)], #[30, 3]⟩, 30, none⟩), (2, ⟨(some 6), .assign (.tmp 24), 30, none⟩)] [] t (m.bump 3) (Q := ⟨fun _ => Q .normal⟩)) := by kernel_rfl
noncomputable def r37_14 : List SOp := [⟨(some 25), .move (.tmp 0), 67, none⟩, ⟨(some 26), .call ⟨.builtin .len, #[(.tmp 25)], #[67]⟩, 3, none⟩, ⟨(some 27), .move (.const (.int .i64 0)), 3, none⟩]
theorem w37_14 : WXi EE n0 rd (.reg r37_14) t m (Q := ⟨Q⟩) = (n0 ≤ m.next ∧ XWi EE m.next [(0, ⟨(some 25), .move (.tmp 0), 67, none⟩), (1, ⟨(some 26), .call ⟨.builtin .len, #[(.tmp 25)], #[67]⟩, 3, none⟩), (2, ⟨(some 27), .move (.const (.int .i64 0)), 3, none⟩)] [] t (m.bump 3) (Q := ⟨fun _ => Q .normal⟩)) := by kernel_rfl
noncomputable def r37_15 : List SOp := [⟨(some 28), .binOp .lss 3 (.tmp 27) (.tmp 26) 3, 0, none⟩]
theorem w37_15 : WXi EE n0 rd (.reg r37_15) t m (Q := ⟨Q⟩) = (n0 ≤ m.next ∧ XWi EE m.next [(0, ⟨(some 28), .binOp .lss 3 (.tmp 27) (.tmp 26) 3, 0, none⟩)] [] t (m.bump 1) (Q := ⟨fun _ => Q .normal⟩)) := by kernel_rfl
noncomputable def r37_16 : List SOp := [⟨(some 29), .indexAddr 67 (.tmp 25) (.tmp 27), 0, none⟩, ⟨(some 30), .load 30 (.tmp 29), 30, none⟩, ⟨(some 8), .assign (.tmp 30), 30, none⟩]
theorem w37_16 : WXi EE n0 rd (.reg r37_16) t m (Q := ⟨Q⟩) = (n0 ≤ m.next ∧ XWi EE m.next [(0, ⟨(some 29), .indexAddr 67 (.tmp 25) (.tmp 27), 0, none⟩), (1, ⟨(some 30), .load 30 (.tmp 29), 30, none⟩), (2, ⟨(some 8), .assign (.tmp 30), 30, none⟩)] [] t (m.bump 3) (Q := ⟨fun _ => Q .normal⟩)) := by kernel_rfl
noncomputable def r37_17 : List SOp := [⟨(some 31), .move (.tmp 6), 30, none⟩, ⟨(some 32), .move (.tmp 8), 30, none⟩, ⟨(some 33), .call ⟨.builtin .append, #[(.tmp 31), (.tmp 32)], #[30, 30]⟩, 30, none⟩, ⟨(some 6), .assign (.tmp 33), 30, none⟩]
theorem w37_17 : WXi EE n0 rd (.reg r37_17) t m (Q := ⟨Q⟩) = (n0 ≤ m.next ∧ XWi EE m.next [(0, ⟨(some 31), .move (.tmp 6), 30, none⟩), (1, ⟨(some 32), .move (.tmp 8), 30, none⟩), (2, ⟨(some 33), .call ⟨.builtin .append, #[(.tmp 31), (.tmp 32)], #[30, 30]⟩, 30, none⟩), (3, ⟨(some 6), .assign (.tmp 33), 30, none⟩)] [] t (m.bump 4) (Q := ⟨fun _ => Q .normal⟩)) := by kernel_rfl
noncomputable def c37_18 : SCode := (.seq (.reg r37_16) (.reg r37_17))
theorem w37_18 : WXi EE n0 rd c37_18 t m (Q := ⟨Q⟩) = WXi EE n0 rd (.seq (.reg r37_16) (.reg r37_17)) t m (Q := ⟨Q⟩) := rfl
noncomputable def r37_19 : List SOp := [⟨(some 34), .binOp .add 3 (.tmp 27) (.const (.int .i64 1)) 3, 3, none⟩, ⟨(some 27), .move (.tmp 34), 3, none⟩]
theorem w37_19 : WXi EE n0 rd (.reg r37_19) t m (Q := ⟨Q⟩) = (n0 ≤ m.next ∧ XWi EE m.next [(0, ⟨(some 34), .binOp .add 3 (.tmp 27) (.const (.int .i64 1)) 3, 3, none⟩), (1, ⟨(some 27), .move (.tmp 34), 3, none⟩)] [] t (m.bump 2) (Q := ⟨fun _ => Q .normal⟩)) := by kernel_rfl
noncomputable def c37_20 : SCode := (.seq (.reg r37_15) (.seq (.cond (.tmp 28) .skip (.exit 2)) (.seq (.block 3 c37_18) (.reg r37_19))))
theorem w37_20 : WXi EE n0 rd c37_20 t m (Q := ⟨Q⟩) = WXi EE n0 rd (.seq (.reg r37_15) (.seq (.cond (.tmp 28) .skip (.exit 2)) (.seq (.block 3 c37_18) (.reg r37_19)))) t m (Q := ⟨Q⟩) := rfl
noncomputable def c37_21 : SCode := (.loop c37_20)
theorem w37_21 : WXi EE n0 rd c37_21 t m (Q := ⟨Q⟩) = WXi EE n0 rd (.loop c37_20) t m (Q := ⟨Q⟩) := rfl
noncomputable def r37_22 : List SOp := [⟨(some 35), .move (.tmp 6), 30, none⟩, ⟨(some 2), .assign (.tmp 35), 30, none⟩]
theorem w37_22 : WXi EE n0 rd (.reg r37_22) t m (Q := ⟨Q⟩) = (n0 ≤ m.next ∧ XWi EE m.next [(0, ⟨(some 35), .move (.tmp 6), 30, none⟩), (1, ⟨(some 2), .assign (.tmp 35), 30, none⟩)] [] t (m.bump 2) (Q := ⟨fun _ => Q .normal⟩)) := by kernel_rfl
noncomputable def c37 : SCode := (.seq (.reg r37_0) (.seq (.reg r37_1) (.seq (.seq (.reg r37_2) (.block 0 c37_12)) (.seq (.reg r37_13) (.seq (.seq (.reg r37_14) (.block 2 c37_21)) (.seq (.reg r37_22) .ret))))))
theorem w37 : WXi EE n0 rd c37 t m (Q := ⟨Q⟩) = WXi EE n0 rd (.seq (.reg r37_0) (.seq (.reg r37_1) (.seq (.seq (.reg r37_2) (.block 0 c37_12)) (.seq (.reg r37_13) (.seq (.seq (.reg r37_14) (.block 2 c37_21)) (.seq (.reg r37_22) .ret)))))) t m (Q := ⟨Q⟩) := rfl
noncomputable def f37 : SFunc := ⟨36, [.tmp 2], c37⟩
-- RULES 37 w37_0, w37_1, w37_2, w37_3, w37_4, w37_5, w37_6, w37_7, w37_8, w37_9, w37_10, w37_11, w37_12, w37_13, w37_14, w37_15, w37_16, w37_17, w37_18, w37_19, w37_20, w37_21, w37_22
theorem fn37 : fnOf EE.P 37 = some f37 := by kernel_rfl
/-! slices.Collect[int] -/
noncomputable def r43_0 : List SOp := [⟨(some 2), .assign (.const (.slice none 0 0)), 30, none⟩]
theorem w43_0 : WXi EE n0 rd (.reg r43_0) t m (Q := ⟨Q⟩) = (n0 ≤ m.next ∧ XWi EE m.next [(0, ⟨(some 2), .assign (.const (.slice none 0 0)), 30, none⟩)] [] t (m.bump 1) (Q := ⟨fun _ => Q .normal⟩)) := by kernel_rfl
noncomputable def r43_1 : List SOp := [⟨(some 3), .move (.tmp 0), 64, none⟩, ⟨(some 4), .call ⟨.value (.func 48), #[(.const (.slice none 0 0)), (.tmp 3)], #[30, 64]⟩, 30, none⟩, ⟨(some 2), .assign (.tmp 4), 30, none⟩]
theorem w43_1 : WXi EE n0 rd (.reg r43_1) t m (Q := ⟨Q⟩) = (n0 ≤ m.next ∧ XWi EE m.next [(0, ⟨(some 3), .move (.tmp 0), 64, none⟩), (1, ⟨(some 4), .call ⟨.value (.func 48), #[(.const (.slice none 0 0)), (.tmp 3)], #[30, 64]⟩, 30, none⟩), (2, ⟨(some 2), .assign (.tmp 4), 30, none⟩)] [] t (m.bump 3) (Q := ⟨fun _ => Q .normal⟩)) := by kernel_rfl
noncomputable def c43 : SCode := (.seq (.reg r43_0) (.seq (.reg r43_1) .ret))
theorem w43 : WXi EE n0 rd c43 t m (Q := ⟨Q⟩) = WXi EE n0 rd (.seq (.reg r43_0) (.seq (.reg r43_1) .ret)) t m (Q := ⟨Q⟩) := rfl
noncomputable def f43 : SFunc := ⟨5, [.tmp 2], c43⟩
-- RULES 43 w43_0, w43_1
theorem fn43 : fnOf EE.P 43 = some f43 := by kernel_rfl
/-! slices.Values[[]int,int]$1 -/
noncomputable def r45_0 : List SOp := [⟨(some 5), .load 30 (.tmp 1), 30, none⟩, ⟨(some 6), .call ⟨.builtin .len, #[(.tmp 5)], #[30]⟩, 3, none⟩, ⟨(some 7), .move (.const (.int .i64 0)), 3, none⟩]
theorem w45_0 : WXi EE n0 rd (.reg r45_0) t m (Q := ⟨Q⟩) = (n0 ≤ m.next ∧ XWi EE m.next [(0, ⟨(some 5), .load 30 (.tmp 1), 30, none⟩), (1, ⟨(some 6), .call ⟨.builtin .len, #[(.tmp 5)], #[30]⟩, 3, none⟩), (2, ⟨(some 7), .move (.const (.int .i64 0)), 3, none⟩)] [] t (m.bump 3) (Q := ⟨fun _ => Q .normal⟩)) := by kernel_rfl
noncomputable def r45_1 : List SOp := [⟨(some 8), .binOp .lss 3 (.tmp 7) (.tmp 6) 3, 0, none⟩]
theorem w45_1 : WXi EE n0 rd (.reg r45_1) t m (Q := ⟨Q⟩) = (n0 ≤ m.next ∧ XWi EE m.next [(0, ⟨(some 8), .binOp .lss 3 (.tmp 7) (.tmp 6) 3, 0, none⟩)] [] t (m.bump 1) (Q := ⟨fun _ => Q .normal⟩)) := by kernel_rfl
noncomputable def r45_2 : List SOp := [⟨(some 9), .indexAddr 30 (.tmp 5) (.tmp 7), 0, none⟩, ⟨(some 10), .load 3 (.tmp 9), 3, none⟩, ⟨(some 4), .assign (.tmp 10), 3, none⟩]
theorem w45_2 : WXi EE n0 rd (.reg r45_2) t m (Q := ⟨Q⟩) = (n0 ≤ m.next ∧ XWi EE m.next [(0, ⟨(some 9), .indexAddr 30 (.tmp 5) (.tmp 7), 0, none⟩), (1, ⟨(some 10), .load 3 (.tmp 9), 3, none⟩), (2, ⟨(some 4), .assign (.tmp 10), 3, none⟩)] [] t (m.bump 3) (Q := ⟨fun _ => Q .normal⟩)) := by kernel_rfl
noncomputable def r45_3 : List SOp := [⟨(some 11), .move (.tmp 0), 38, none⟩, ⟨(some 12), .move (.tmp 4), 3, none⟩, ⟨(some 13), .call ⟨.value (.tmp 11), #[(.tmp 12)], #[3]⟩, 4, none⟩, ⟨(some 14), .unOp .not 4 (.tmp 13), 4, none⟩]
theorem w45_3 : WXi EE n0 rd (.reg r45_3) t m (Q := ⟨Q⟩) = (n0 ≤ m.next ∧ XWi EE m.next [(0, ⟨(some 11), .move (.tmp 0), 38, none⟩), (1, ⟨(some 12), .move (.tmp 4), 3, none⟩), (2, ⟨(some 13), .call ⟨.value (.tmp 11), #[(.tmp 12)], #[3]⟩, 4, none⟩), (3, ⟨(some 14), .unOp .not 4 (.tmp 13), 4, none⟩)] [] t (m.bump 4) (Q := ⟨fun _ => Q .normal⟩)) := by kernel_rfl
noncomputable def c45_4 : SCode := (.seq (.reg r45_2) (.seq (.reg r45_3) (.cond (.tmp 14) .ret .skip)))
theorem w45_4 : WXi EE n0 rd c45_4 t m (Q := ⟨Q⟩) = WXi EE n0 rd (.seq (.reg r45_2) (.seq (.reg r45_3) (.cond (.tmp 14) .ret .skip))) t m (Q := ⟨Q⟩) := rfl
noncomputable def r45_5 : List SOp := [⟨(some 15), .binOp .add 3 (.tmp 7) (.const (.int .i64 1)) 3, 3, none⟩, ⟨(some 7), .move (.tmp 15), 3, none⟩]
theorem w45_5 : WXi EE n0 rd (.reg r45_5) t m (Q := ⟨Q⟩) = (n0 ≤ m.next ∧ XWi EE m.next [(0, ⟨(some 15), .binOp .add 3 (.tmp 7) (.const (.int .i64 1)) 3, 3, none⟩), (1, ⟨(some 7), .move (.tmp 15), 3, none⟩)] [] t (m.bump 2) (Q := ⟨fun _ => Q .normal⟩)) := by kernel_rfl
noncomputable def c45_6 : SCode := (.seq (.reg r45_1) (.seq (.cond (.tmp 8) .skip (.exit 0)) (.seq (.block 1 c45_4) (.reg r45_5))))
theorem w45_6 : WXi EE n0 rd c45_6 t m (Q := ⟨Q⟩) = WXi EE n0 rd (.seq (.reg r45_1) (.seq (.cond (.tmp 8) .skip (.exit 0)) (.seq (.block 1 c45_4) (.reg r45_5)))) t m (Q := ⟨Q⟩) := rfl
noncomputable def c45_7 : SCode := (.loop c45_6)
theorem w45_7 : WXi EE n0 rd c45_7 t m (Q := ⟨Q⟩) = WXi EE n0 rd (.loop c45_6) t m (Q := ⟨Q⟩) := rfl
noncomputable def c45 : SCode := (.seq (.reg r45_0) (.block 0 c45_7))
theorem w45 : WXi EE n0 rd c45 t m (Q := ⟨Q⟩) = WXi EE n0 rd (.seq (.reg r45_0) (.block 0 c45_7)) t m (Q := ⟨Q⟩) := rfl
noncomputable def f45 : SFunc := ⟨16, [], c45⟩
-- RULES 45 w45_0, w45_1, w45_2, w45_3, w45_4, w45_5, w45_6, w45_7
theorem fn45 : fnOf EE.P 45 = some f45 := by kernel_rfl
/-! slices.AppendSeq[[]int,int] -/
noncomputable def r48_0 : List SOp := [⟨(some 2), .box 30 (.tmp 0), 0, none⟩, ⟨(some 4), .assign (.const (.slice none 0 0)), 30, none⟩]
theorem w48_0 : WXi EE n0 rd (.reg r48_0) t m (Q := ⟨Q⟩) = (n0 ≤ m.next ∧ XWi EE m.next [(0, ⟨(some 2), .box 30 (.tmp 0), 0, none⟩), (1, ⟨(some 4), .assign (.const (.slice none 0 0)), 30, none⟩)] [] t (m.bump 2) (Q := ⟨fun _ => Q .normal⟩)) := by kernel_rfl
noncomputable def r48_1 : List SOp := [⟨(some 6), .move (.tmp 1), 64, none⟩]
theorem w48_1 : WXi EE n0 rd (.reg r48_1) t m (Q := ⟨Q⟩) = (n0 ≤ m.next ∧ XWi EE m.next [(0, ⟨(some 6), .move (.tmp 1), 64, none⟩)] [] t (m.bump 1) (Q := ⟨fun _ => Q .normal⟩)) := by kernel_rfl
noncomputable def r48_2 : List SOp := [⟨(some 5), .assign (.tmp 7), 3, none⟩]
theorem w48_2 : WXi EE n0 rd (.reg r48_2) t m (Q := ⟨Q⟩) = (n0 ≤ m.next ∧ XWi EE m.next [(0, ⟨(some 5), .assign (.tmp 7), 3, none⟩)] [] t (m.bump 1) (Q := ⟨fun _ => Q .normal⟩)) := by kernel_rfl
noncomputable def c48_3 : SCode := (.reg r48_2)
theorem w48_3 : WXi EE n0 rd c48_3 t m (Q := ⟨Q⟩) = WXi EE n0 rd (.reg r48_2) t m (Q := ⟨Q⟩) := rfl
noncomputable def r48_4 : List SOp := [⟨(some 8), .load 30 (.tmp 2), 30, none⟩, ⟨(some 9), .move (.tmp 5), 3, none⟩, ⟨(some 10), .buildSlice 30 1 #[(0, (.tmp 9))], 30, none⟩, ⟨(some 11), .call ⟨.builtin .append, #[(.tmp 8), (.tmp 10)], #[30, 30]⟩, 30, none⟩, ⟨none, .store 30 (.tmp 2) (.tmp 11), 0, none⟩]
theorem w48_4 : WXi EE n0 rd (.reg r48_4) t m (Q := ⟨Q⟩) = (n0 ≤ m.next ∧ XWi EE m.next [(0, ⟨(some 8), .load 30 (.tmp 2), 30, none⟩), (1, ⟨(some 9), .move (.tmp 5), 3, none⟩), (2, ⟨(some 10), .buildSlice 30 1 #[(0, (.tmp 9))], 30, none⟩), (3, ⟨(some 11), .call ⟨.builtin .append, #[(.tmp 8), (.tmp 10)], #[30, 30]⟩, 30, none⟩), (4, ⟨none, .store 30 (.tmp 2) (.tmp 11), 0, none⟩)] [] t (m.bump 5) (Q := ⟨fun _ => Q .normal⟩)) := by kernel_rfl
noncomputable def c48_5 : SCode := (.reg r48_4)
theorem w48_5 : WXi EE n0 rd c48_5 t m (Q := ⟨Q⟩) = WXi EE n0 rd (.reg r48_4) t m (Q := ⟨Q⟩) := rfl
noncomputable def c48_6 : SCode := (.block 1 c48_5)
theorem w48_6 : WXi EE n0 rd c48_6 t m (Q := ⟨Q⟩) = WXi EE n0 rd (.block 1 c48_5) t m (Q := ⟨Q⟩) := rfl
noncomputable def c48_7 : SCode := (.rfn (.tmp 6) [7] c48_3 c48_6)
theorem w48_7 : WXi EE n0 rd c48_7 t m (Q := ⟨Q⟩) = WXi EE n0 rd (.rfn (.tmp 6) [7] c48_3 c48_6) t m (Q := ⟨Q⟩) := rfl
noncomputable def r48_8 : List SOp := [⟨(some 12), .load 30 (.tmp 2), 30, none⟩, ⟨(some 4), .assign (.tmp 12), 30, none⟩]
theorem w48_8 : WXi EE n0 rd (.reg r48_8) t m (Q := ⟨Q⟩) = (n0 ≤ m.next ∧ XWi EE m.next [(0, ⟨(some 12), .load 30 (.tmp 2), 30, none⟩), (1, ⟨(some 4), .assign (.tmp 12), 30, none⟩)] [] t (m.bump 2) (Q := ⟨fun _ => Q .normal⟩)) := by kernel_rfl
noncomputable def c48 : SCode := (.seq (.reg r48_0) (.seq (.seq (.reg r48_1) (.block 0 c48_7)) (.seq (.reg r48_8) .ret)))
theorem w48 : WXi EE n0 rd c48 t m (Q := ⟨Q⟩) = WXi EE n0 rd (.seq (.reg r48_0) (.seq (.seq (.reg r48_1) (.block 0 c48_7)) (.seq (.reg r48_8) .ret))) t m (Q := ⟨Q⟩) := rfl
noncomputable def f48 : SFunc := ⟨13, [.tmp 4], c48⟩
-- RULES 48 w48_0, w48_1, w48_2, w48_3, w48_4, w48_5, w48_6, w48_7, w48_8
theorem fn48 : fnOf EE.P 48 = some f48 := by kernel_rfl
/-! carryall/carryallref13.Same -/
noncomputable def r15_0 : List SOp := [⟨(some 4), .assign (.const (.bool false)), 4, none⟩]
theorem w15_0 : WXi EE n0 rd (.reg r15_0) t m (Q := ⟨Q⟩) = (n0 ≤ m.next ∧ XWi EE m.next [(0, ⟨(some 4), .assign (.const (.bool false)), 4, none⟩)] [] t (m.bump 1) (Q := ⟨fun _ => Q .normal⟩)) := by kernel_rfl
noncomputable def r15_1 : List SOp := [⟨(some 6), .move (.tmp 0), 30, none⟩, ⟨(some 7), .call ⟨.builtin .len, #[(.tmp 6)], #[30]⟩, 3, none⟩, ⟨(some 8), .move (.tmp 1), 30, none⟩, ⟨(some 9), .call ⟨.builtin .len, #[(.tmp 8)], #[30]⟩, 3, none⟩, ⟨(some 10), .binOp .neq 3 (.tmp 7) (.tmp 9) 3, 4, none⟩]
theorem w15_1 : WXi EE n0 rd (.reg r15_1) t m (Q := ⟨Q⟩) = (n0 ≤ m.next ∧ XWi EE m.next [(0, ⟨(some 6), .move (.tmp 0), 30, none⟩), (1, ⟨(some 7), .call ⟨.builtin .len, #[(.tmp 6)], #[30]⟩, 3, none⟩), (2, ⟨(some 8), .move (.tmp 1), 30, none⟩), (3, ⟨(some 9), .call ⟨.builtin .len, #[(.tmp 8)], #[30]⟩, 3, none⟩), (4, ⟨(some 10), .binOp .neq 3 (.tmp 7) (.tmp 9) 3, 4, none⟩)] [] t (m.bump 5) (Q := ⟨fun _ => Q .normal⟩)) := by kernel_rfl
noncomputable def r15_2 : List SOp := [⟨(some 4), .assign (.const (.bool false)), 4, none⟩]
theorem w15_2 : WXi EE n0 rd (.reg r15_2) t m (Q := ⟨Q⟩) = (n0 ≤ m.next ∧ XWi EE m.next [(0, ⟨(some 4), .assign (.const (.bool false)), 4, none⟩)] [] t (m.bump 1) (Q := ⟨fun _ => Q .normal⟩)) := by kernel_rfl
noncomputable def c15_3 : SCode := (.seq (.reg r15_2) .ret)
theorem w15_3 : WXi EE n0 rd c15_3 t m (Q := ⟨Q⟩) = WXi EE n0 rd (.seq (.reg r15_2) .ret) t m (Q := ⟨Q⟩) := rfl
noncomputable def r15_4 : List SOp := [⟨(some 5), .assign (.const (.int .i64 0)), 3, none⟩]
theorem w15_4 : WXi EE n0 rd (.reg r15_4) t m (Q := ⟨Q⟩) = (n0 ≤ m.next ∧ XWi EE m.next [(0, ⟨(some 5), .assign (.const (.int .i64 0)), 3, none⟩)] [] t (m.bump 1) (Q := ⟨fun _ => Q .normal⟩)) := by kernel_rfl
noncomputable def r15_5 : List SOp := [⟨(some 11), .move (.tmp 5), 3, none⟩, ⟨(some 12), .move (.tmp 0), 30, none⟩, ⟨(some 13), .call ⟨.builtin .len, #[(.tmp 12)], #[30]⟩, 3, none⟩, ⟨(some 14), .binOp .lss 3 (.tmp 11) (.tmp 13) 3, 4, none⟩]
theorem w15_5 : WXi EE n0 rd (.reg r15_5) t m (Q := ⟨Q⟩) = (n0 ≤ m.next ∧ XWi EE m.next [(0, ⟨(some 11), .move (.tmp 5), 3, none⟩), (1, ⟨(some 12), .move (.tmp 0), 30, none⟩), (2, ⟨(some 13), .call ⟨.builtin .len, #[(.tmp 12)], #[30]⟩, 3, none⟩), (3, ⟨(some 14), .binOp .lss 3 (.tmp 11) (.tmp 13) 3, 4, none⟩)] [] t (m.bump 4) (Q := ⟨fun _ => Q .normal⟩)) := by kernel_rfl
noncomputable def r15_6 : List SOp := [⟨(some 17), .move (.tmp 0), 30, none⟩, ⟨(some 18), .move (.tmp 5), 3, none⟩, ⟨(some 19), .indexAddr 30 (.tmp 17) (.tmp 18), 0, none⟩, ⟨(some 20), .load 3 (.tmp 19), 3, none⟩, ⟨(some 21), .move (.tmp 1), 30, none⟩, ⟨(some 22), .move (.tmp 5), 3, none⟩, ⟨(some 23), .indexAddr 30 (.tmp 21) (.tmp 22), 0, none⟩, ⟨(some 24), .load 3 (.tmp 23), 3, none⟩, ⟨(some 25), .binOp .neq 3 (.tmp 20) (.tmp 24) 3, 4, none⟩]
theorem w15_6 : WXi EE n0 rd (.dreg r15_6 [(0, []), (1, []), (2, []), (3, []), (4, []), (5, []), (6, []), (7, []), (8, [])]) t m (Q := ⟨Q⟩) = (n0 ≤ m.next ∧ XWi EE m.next [(0, ⟨(some 17), .move (.tmp 0), 30, none⟩), (1, ⟨(some 18), .move (.tmp 5), 3, none⟩), (2, ⟨(some 19), .indexAddr 30 (.tmp 17) (.tmp 18), 0, none⟩), (3, ⟨(some 20), .load 3 (.tmp 19), 3, none⟩), (4, ⟨(some 21), .move (.tmp 1), 30, none⟩), (5, ⟨(some 22), .move (.tmp 5), 3, none⟩), (6, ⟨(some 23), .indexAddr 30 (.tmp 21) (.tmp 22), 0, none⟩), (7, ⟨(some 24), .load 3 (.tmp 23), 3, none⟩), (8, ⟨(some 25), .binOp .neq 3 (.tmp 20) (.tmp 24) 3, 4, none⟩)] [] t (m.bump 9) (Q := ⟨fun _ => Q .normal⟩)) := by kernel_rfl
noncomputable def r15_7 : List SOp := [⟨(some 4), .assign (.const (.bool false)), 4, none⟩]
theorem w15_7 : WXi EE n0 rd (.reg r15_7) t m (Q := ⟨Q⟩) = (n0 ≤ m.next ∧ XWi EE m.next [(0, ⟨(some 4), .assign (.const (.bool false)), 4, none⟩)] [] t (m.bump 1) (Q := ⟨fun _ => Q .normal⟩)) := by kernel_rfl
noncomputable def c15_8 : SCode := (.seq (.reg r15_7) .ret)
theorem w15_8 : WXi EE n0 rd c15_8 t m (Q := ⟨Q⟩) = WXi EE n0 rd (.seq (.reg r15_7) .ret) t m (Q := ⟨Q⟩) := rfl
noncomputable def c15_9 : SCode := (.seq (.dreg r15_6 [(0, []), (1, []), (2, []), (3, []), (4, []), (5, []), (6, []), (7, []), (8, [])]) (.cond (.tmp 25) c15_8 .skip))
theorem w15_9 : WXi EE n0 rd c15_9 t m (Q := ⟨Q⟩) = WXi EE n0 rd (.seq (.dreg r15_6 [(0, []), (1, []), (2, []), (3, []), (4, []), (5, []), (6, []), (7, []), (8, [])]) (.cond (.tmp 25) c15_8 .skip)) t m (Q := ⟨Q⟩) := rfl
noncomputable def r15_10 : List SOp := [⟨(some 15), .move (.tmp 5), 3, none⟩, ⟨(some 16), .binOp .add 3 (.tmp 15) (.const (.int .i64 1)) 3, 3, none⟩, ⟨(some 5), .assign (.tmp 16), 3, none⟩]
theorem w15_10 : WXi EE n0 rd (.reg r15_10) t m (Q := ⟨Q⟩) = (n0 ≤ m.next ∧ XWi EE m.next [(0, ⟨(some 15), .move (.tmp 5), 3, none⟩), (1, ⟨(some 16), .binOp .add 3 (.tmp 15) (.const (.int .i64 1)) 3, 3, none⟩), (2, ⟨(some 5), .assign (.tmp 16), 3, none⟩)] [] t (m.bump 3) (Q := ⟨fun _ => Q .normal⟩)) := by kernel_rfl
noncomputable def c15_11 : SCode := (.seq (.seq (.reg r15_5) (.cond (.tmp 14) .skip (.exit 0))) (.seq (.block 1 c15_9) (.reg r15_10)))
theorem w15_11 : WXi EE n0 rd c15_11 t m (Q := ⟨Q⟩) = WXi EE n0 rd (.seq (.seq (.reg r15_5) (.cond (.tmp 14) .skip (.exit 0))) (.seq (.block 1 c15_9) (.reg r15_10))) t m (Q := ⟨Q⟩) := rfl
noncomputable def c15_12 : SCode := (.loop c15_11)
theorem w15_12 : WXi EE n0 rd c15_12 t m (Q := ⟨Q⟩) = WXi EE n0 rd (.loop c15_11) t m (Q := ⟨Q⟩) := rfl
noncomputable def r15_13 : List SOp := [⟨(some 4), .assign (.const (.bool true)), 4, none⟩]
theorem w15_13 : WXi EE n0 rd (.reg r15_13) t m (Q := ⟨Q⟩) = (n0 ≤ m.next ∧ XWi EE m.next [(0, ⟨(some 4), .assign (.const (.bool true)), 4, none⟩)] [] t (m.bump 1) (Q := ⟨fun _ => Q .normal⟩)) := by kernel_rfl
noncomputable def c15 : SCode := (.seq (.reg r15_0) (.seq (.seq (.reg r15_1) (.cond (.tmp 10) c15_3 .skip)) (.seq (.seq (.reg r15_4) (.block 0 c15_12)) (.seq (.reg r15_13) .ret))))
theorem w15 : WXi EE n0 rd c15 t m (Q := ⟨Q⟩) = WXi EE n0 rd (.seq (.reg r15_0) (.seq (.seq (.reg r15_1) (.cond (.tmp 10) c15_3 .skip)) (.seq (.seq (.reg r15_4) (.block 0 c15_12)) (.seq (.reg r15_13) .ret)))) t m (Q := ⟨Q⟩) := rfl
noncomputable def f15 : SFunc := ⟨26, [.tmp 4], c15⟩
-- RULES 15 w15_0, w15_1, w15_2, w15_3, w15_4, w15_5, w15_6, w15_7, w15_8, w15_9, w15_10, w15_11, w15_12, w15_13
theorem fn15 : fnOf EE.P 15 = some f15 := by kernel_rfl
/-! types -/
theorem und_67 : EE.P.underlying 67 = some (.slice 30) := by kernel_rfl
theorem ca_37 : callable EE.P 37 = true := by kernel_rfl
theorem ca_36 : callable EE.P 36 = true := by kernel_rfl
theorem ca_35 : callable EE.P 35 = true := by kernel_rfl
theorem ca_43 : callable EE.P 43 = true := by kernel_rfl
theorem ca_44 : callable EE.P 44 = true := by kernel_rfl
theorem ca_46 : callable EE.P 46 = true := by kernel_rfl
theorem ca_48 : callable EE.P 48 = true := by kernel_rfl
-- FACTS lay_30, lay_3, lay_23, lay_29, sz_30, sz_3, sz_23, sz_29, zero_3, fo_57_1, fo_57_0, und_24, und_3, und_29, und_55, und_23, und_30, und_5, und_67, ca_9, ca_10, ca_16, ca_29, ca_24, ca_30, ca_31, ca_32, ca_33, ca_18, ca_34, ca_38, ca_39, ca_42, ca_8, ca_11, ca_12, ca_37, ca_36, ca_35, ca_43, ca_44, ca_46, ca_48
end
end Go.Ab
