/- Queue: the code of one law, as data. -/
import Derived.Test.YtikmfccjfhobbaaQuA2
namespace Go.Ab
open Go.Proofs
noncomputable section
variable {n0 : Nat} {rd : Option Nat} {t : List Value} {m : Mem} {Q : Exit → List Value → Mem → Prop}
/-! carryall/carryalllaw13.alive -/
-- RULES 8 w8_0, w8_1, w8_2, w8_3, w8_4, w8_5, w8_6
/-! carryall/queue.New -/
-- RULES 9 w9_0, w9_1, w9_2, w9_3, w9_4
/-! (*carryall/queue.Queues).Place -/
-- RULES 10 w10_0, w10_1, w10_2, w10_3, w10_4, w10_5, w10_6, w10_7, w10_8, w10_9, w10_10, w10_11, w10_12, w10_13, w10_14, w10_15, w10_16, w10_17
/-! (*carryall/queue.Queues).List -/
-- RULES 11 w11_0, w11_1, w11_2, w11_3, w11_4
/-! (*carryall/queue.Queues).Move -/
-- RULES 12 w12_0, w12_1, w12_2, w12_3, w12_4, w12_5, w12_6, w12_7, w12_8, w12_9, w12_10, w12_11, w12_12, w12_13, w12_14, w12_15
/-! (*carryall/queue.Queues).Where -/
-- RULES 16 w16_0, w16_1, w16_2, w16_3, w16_4, w16_5, w16_6, w16_7, w16_8, w16_9, w16_10, w16_11
/-! (*carryall/queue.Queues).Cut -/
-- RULES 18 w18_0, w18_1, w18_2, w18_3, w18_4, w18_5, w18_6, w18_7
/-! (*carryall/queue.Queues).May -/
-- RULES 24 w24_0, w24_1
/-! (*carryall/queue.Queues).Cores -/
-- RULES 29 w29_0, w29_1, w29_2, w29_3, w29_4
/-! (*carryall/queue.Queues).is -/
-- RULES 30 w30_0, w30_1
/-! (*carryall/queue.Queues).put -/
-- RULES 31 w31_0, w31_1, w31_2
/-! (*carryall/queue.Queues).fewest -/
-- RULES 32 w32_0, w32_1, w32_2, w32_3, w32_4, w32_5, w32_6, w32_7, w32_8, w32_9, w32_10, w32_11
/-! slices.Clone[[]int,int] -/
-- RULES 33 w33_0, w33_1, w33_2, w33_3, w33_4
/-! slices.Contains[[]int,int] -/
-- RULES 34 w34_0, w34_1
/-! slices.Index[[]int,int] -/
-- RULES 38 w38_0, w38_1, w38_2, w38_3, w38_4, w38_5, w38_6, w38_7, w38_8, w38_9, w38_10, w38_11
/-! slices.Delete[[]int,int] -/
-- RULES 39 w39_0, w39_1, w39_2, w39_3, w39_4, w39_5, w39_6, w39_7, w39_8
/-! (*carryall/queue.Queues).of -/
-- RULES 42 w42_0, w42_1
/-! (*carryall/queue.Queues).of$1 -/
-- RULES 47 w47_0, w47_1, w47_2, w47_3, w47_4, w47_5, w47_6, w47_7, w47_8, w47_9
/-! carryall/carryalllaw13.QueueSpreads -/
-- RULES 3 w3_0, w3_1, w3_2, w3_3, w3_4, w3_5, w3_6, w3_7, w3_8, w3_9, w3_10, w3_11, w3_12, w3_13, w3_14, w3_15, w3_16, w3_17, w3_18, w3_19, w3_20, w3_21, w3_22, w3_23, w3_24, w3_25, w3_26, w3_27, w3_28, w3_29, w3_30, w3_31, w3_32, w3_33, w3_34, w3_35, w3_36, w3_37, w3_38, w3_39, w3_40, w3_41, w3_42, w3_43, w3_44, w3_45, w3_46, w3_47, w3_48, w3_49, w3_50, w3_51, w3_52, w3_53, w3_54, w3_55, w3_56, w3_57, w3_58, w3_59, w3_60, w3_61, w3_62, w3_63, w3_64, w3_65, w3_66
/-! (*carryall/queue.Queues).Pick -/
-- RULES 13 w13_0, w13_1, w13_2, w13_3, w13_4
/-! (*carryall/queue.Queues).Rotate -/
-- RULES 14 w14_0, w14_1, w14_2, w14_3, w14_4, w14_5, w14_6
/-! (*carryall/queue.Queues).All -/
-- RULES 17 w17_0, w17_1, w17_2, w17_3, w17_4
/-! slices.Sorted[int] -/
-- RULES 35 w35_0, w35_1, w35_2, w35_3
/-! slices.Values[[]int,int] -/
-- RULES 36 w36_0, w36_1
/-! slices.Concat[[]int,int] -/
-- RULES 37 w37_0, w37_1, w37_2, w37_3, w37_4, w37_5, w37_6, w37_7, w37_8, w37_9, w37_10, w37_11, w37_12, w37_13, w37_14, w37_15, w37_16, w37_17, w37_18, w37_19, w37_20, w37_21, w37_22
/-! slices.Collect[int] -/
-- RULES 43 w43_0, w43_1
/-! slices.Values[[]int,int]$1 -/
-- RULES 45 w45_0, w45_1, w45_2, w45_3, w45_4, w45_5, w45_6, w45_7
/-! slices.AppendSeq[[]int,int] -/
-- RULES 48 w48_0, w48_1, w48_2, w48_3, w48_4, w48_5, w48_6, w48_7, w48_8
/-! carryall/carryallref13.Same -/
-- RULES 15 w15_0, w15_1, w15_2, w15_3, w15_4, w15_5, w15_6, w15_7, w15_8, w15_9, w15_10, w15_11, w15_12, w15_13
/-! carryall/carryalllaw13.QueueTurns -/
noncomputable def r4_0 : List SOp := [⟨(some 8), .assign (.const (.bool false)), 4, none⟩]
theorem w4_0 : WXi EE n0 rd (.reg r4_0) t m (Q := ⟨Q⟩) = (n0 ≤ m.next ∧ XWi EE m.next [(0, ⟨(some 8), .assign (.const (.bool false)), 4, none⟩)] [] t (m.bump 1) (Q := ⟨fun _ => Q .normal⟩)) := by kernel_rfl
noncomputable def r4_1 : List SOp := [⟨(some 20), .call ⟨.value (.func 8), #[], #[]⟩, 4, none⟩, ⟨(some 9), .assign (.tmp 20), 4, none⟩]
theorem w4_1 : WXi EE n0 rd (.reg r4_1) t m (Q := ⟨Q⟩) = (n0 ≤ m.next ∧ XWi EE m.next [(0, ⟨(some 20), .call ⟨.value (.func 8), #[], #[]⟩, 4, none⟩), (1, ⟨(some 9), .assign (.tmp 20), 4, none⟩)] [] t (m.bump 2) (Q := ⟨fun _ => Q .normal⟩)) := by kernel_rfl
noncomputable def r4_2 : List SOp := [⟨(some 22), .move (.tmp 0), 3, none⟩, ⟨(some 23), .call ⟨.value (.func 9), #[(.tmp 22)], #[3]⟩, 25, none⟩, ⟨(some 21), .move (.tmp 23), 25, none⟩, ⟨(some 24), .extract (.tmp 21) 0, 23, none⟩, ⟨(some 25), .extract (.tmp 21) 1, 24, none⟩, ⟨(some 10), .assign (.tmp 24), 23, none⟩, ⟨(some 11), .assign (.tmp 25), 24, none⟩]
theorem w4_2 : WXi EE n0 rd (.reg r4_2) t m (Q := ⟨Q⟩) = (n0 ≤ m.next ∧ XWi EE m.next [(0, ⟨(some 22), .move (.tmp 0), 3, none⟩), (1, ⟨(some 23), .call ⟨.value (.func 9), #[(.tmp 22)], #[3]⟩, 25, none⟩), (2, ⟨(some 21), .move (.tmp 23), 25, none⟩), (3, ⟨(some 24), .extract (.tmp 21) 0, 23, none⟩), (4, ⟨(some 25), .extract (.tmp 21) 1, 24, none⟩), (5, ⟨(some 10), .assign (.tmp 24), 23, none⟩), (6, ⟨(some 11), .assign (.tmp 25), 24, none⟩)] [] t (m.bump 7) (Q := ⟨fun _ => Q .normal⟩)) := by kernel_rfl
noncomputable def r4_3 : List SOp := [⟨(some 26), .move (.tmp 1), 34, none⟩, ⟨(some 27), .call ⟨.builtin .len, #[(.tmp 26)], #[34]⟩, 3, none⟩, ⟨(some 28), .binOp .gtr 3 (.tmp 27) (.const (.int .i64 60)) 3, 4, none⟩, ⟨(some 29), .move (.tmp 28), 4, none⟩, ⟨(some 30), .move (.tmp 11), 24, (some (29, false))⟩, ⟨(some 31), .binOp .neq 24 (.tmp 30) (.const (.int .i64 0)) 24, 4, (some (29, false))⟩, ⟨(some 32), .pick (.tmp 29) (.const (.bool true)) (.tmp 31), 4, none⟩, ⟨(some 33), .move (.tmp 32), 4, none⟩, ⟨(some 34), .move (.tmp 9), 4, (some (33, false))⟩, ⟨(some 35), .unOp .not 4 (.tmp 34), 4, (some (33, false))⟩, ⟨(some 36), .pick (.tmp 33) (.const (.bool true)) (.tmp 35), 4, none⟩]
theorem w4_3 : WXi EE n0 rd (.reg r4_3) t m (Q := ⟨Q⟩) = (n0 ≤ m.next ∧ XWi EE m.next [(0, ⟨(some 26), .move (.tmp 1), 34, none⟩), (1, ⟨(some 27), .call ⟨.builtin .len, #[(.tmp 26)], #[34]⟩, 3, none⟩), (2, ⟨(some 28), .binOp .gtr 3 (.tmp 27) (.const (.int .i64 60)) 3, 4, none⟩), (3, ⟨(some 29), .move (.tmp 28), 4, none⟩), (4, ⟨(some 30), .move (.tmp 11), 24, (some (29, false))⟩), (5, ⟨(some 31), .binOp .neq 24 (.tmp 30) (.const (.int .i64 0)) 24, 4, (some (29, false))⟩), (6, ⟨(some 32), .pick (.tmp 29) (.const (.bool true)) (.tmp 31), 4, none⟩), (7, ⟨(some 33), .move (.tmp 32), 4, none⟩), (8, ⟨(some 34), .move (.tmp 9), 4, (some (33, false))⟩), (9, ⟨(some 35), .unOp .not 4 (.tmp 34), 4, (some (33, false))⟩), (10, ⟨(some 36), .pick (.tmp 33) (.const (.bool true)) (.tmp 35), 4, none⟩)] [] t (m.bump 11) (Q := ⟨fun _ => Q .normal⟩)) := by kernel_rfl
noncomputable def r4_4 : List SOp := [⟨(some 37), .move (.tmp 9), 4, none⟩, ⟨(some 8), .assign (.tmp 37), 4, none⟩]
theorem w4_4 : WXi EE n0 rd (.reg r4_4) t m (Q := ⟨Q⟩) = (n0 ≤ m.next ∧ XWi EE m.next [(0, ⟨(some 37), .move (.tmp 9), 4, none⟩), (1, ⟨(some 8), .assign (.tmp 37), 4, none⟩)] [] t (m.bump 2) (Q := ⟨fun _ => Q .normal⟩)) := by kernel_rfl
noncomputable def c4_5 : SCode := (.seq (.reg r4_4) .ret)
theorem w4_5 : WXi EE n0 rd c4_5 t m (Q := ⟨Q⟩) = WXi EE n0 rd (.seq (.reg r4_4) .ret) t m (Q := ⟨Q⟩) := rfl
noncomputable def r4_6 : List SOp := [⟨(some 12), .assign (.const (.int .i64 0)), 3, none⟩]
theorem w4_6 : WXi EE n0 rd (.reg r4_6) t m (Q := ⟨Q⟩) = (n0 ≤ m.next ∧ XWi EE m.next [(0, ⟨(some 12), .assign (.const (.int .i64 0)), 3, none⟩)] [] t (m.bump 1) (Q := ⟨fun _ => Q .normal⟩)) := by kernel_rfl
noncomputable def r4_7 : List SOp := [⟨(some 38), .move (.tmp 12), 3, none⟩, ⟨(some 39), .move (.tmp 1), 34, none⟩, ⟨(some 40), .call ⟨.builtin .len, #[(.tmp 39)], #[34]⟩, 3, none⟩, ⟨(some 41), .binOp .lss 3 (.tmp 38) (.tmp 40) 3, 4, none⟩]
theorem w4_7 : WXi EE n0 rd (.reg r4_7) t m (Q := ⟨Q⟩) = (n0 ≤ m.next ∧ XWi EE m.next [(0, ⟨(some 38), .move (.tmp 12), 3, none⟩), (1, ⟨(some 39), .move (.tmp 1), 34, none⟩), (2, ⟨(some 40), .call ⟨.builtin .len, #[(.tmp 39)], #[34]⟩, 3, none⟩), (3, ⟨(some 41), .binOp .lss 3 (.tmp 38) (.tmp 40) 3, 4, none⟩)] [] t (m.bump 4) (Q := ⟨fun _ => Q .normal⟩)) := by kernel_rfl
noncomputable def r4_8 : List SOp := [⟨(some 44), .move (.tmp 10), 23, none⟩, ⟨(some 45), .move (.tmp 1), 34, none⟩, ⟨(some 46), .move (.tmp 12), 3, none⟩, ⟨(some 47), .indexAddr 34 (.tmp 45) (.tmp 46), 0, none⟩, ⟨(some 48), .fieldAddr 36 (.tmp 47) 1, 0, none⟩, ⟨(some 49), .load 3 (.tmp 48), 3, none⟩, ⟨(some 50), .move (.tmp 1), 34, none⟩, ⟨(some 51), .move (.tmp 12), 3, none⟩, ⟨(some 52), .indexAddr 34 (.tmp 50) (.tmp 51), 0, none⟩, ⟨(some 53), .fieldAddr 36 (.tmp 52) 2, 0, none⟩, ⟨(some 54), .load 3 (.tmp 53), 3, none⟩, ⟨(some 55), .move (.tmp 1), 34, none⟩, ⟨(some 56), .move (.tmp 12), 3, none⟩, ⟨(some 57), .indexAddr 34 (.tmp 55) (.tmp 56), 0, none⟩, ⟨(some 58), .fieldAddr 36 (.tmp 57) 3, 0, none⟩, ⟨(some 59), .load 29 (.tmp 58), 29, none⟩, ⟨(some 60), .call ⟨.value (.func 10), #[(.tmp 44), (.tmp 49), (.tmp 54), (.tmp 59)], #[23, 3, 3, 29]⟩, 27, none⟩]
theorem w4_8 : WXi EE n0 rd (.dreg r4_8 [(0, []), (1, []), (2, []), (3, []), (4, []), (5, []), (6, []), (7, []), (8, []), (9, []), (10, []), (11, []), (12, []), (13, []), (14, []), (15, []), (16, [])]) t m (Q := ⟨Q⟩) = (n0 ≤ m.next ∧ XWi EE m.next [(0, ⟨(some 44), .move (.tmp 10), 23, none⟩), (1, ⟨(some 45), .move (.tmp 1), 34, none⟩), (2, ⟨(some 46), .move (.tmp 12), 3, none⟩), (3, ⟨(some 47), .indexAddr 34 (.tmp 45) (.tmp 46), 0, none⟩), (4, ⟨(some 48), .fieldAddr 36 (.tmp 47) 1, 0, none⟩), (5, ⟨(some 49), .load 3 (.tmp 48), 3, none⟩), (6, ⟨(some 50), .move (.tmp 1), 34, none⟩), (7, ⟨(some 51), .move (.tmp 12), 3, none⟩), (8, ⟨(some 52), .indexAddr 34 (.tmp 50) (.tmp 51), 0, none⟩), (9, ⟨(some 53), .fieldAddr 36 (.tmp 52) 2, 0, none⟩), (10, ⟨(some 54), .load 3 (.tmp 53), 3, none⟩), (11, ⟨(some 55), .move (.tmp 1), 34, none⟩), (12, ⟨(some 56), .move (.tmp 12), 3, none⟩), (13, ⟨(some 57), .indexAddr 34 (.tmp 55) (.tmp 56), 0, none⟩), (14, ⟨(some 58), .fieldAddr 36 (.tmp 57) 3, 0, none⟩), (15, ⟨(some 59), .load 29 (.tmp 58), 29, none⟩), (16, ⟨(some 60), .call ⟨.value (.func 10), #[(.tmp 44), (.tmp 49), (.tmp 54), (.tmp 59)], #[23, 3, 3, 29]⟩, 27, none⟩)] [] t (m.bump 17) (Q := ⟨fun _ => Q .normal⟩)) := by kernel_rfl
noncomputable def c4_9 : SCode := (.dreg r4_8 [(0, []), (1, []), (2, []), (3, []), (4, []), (5, []), (6, []), (7, []), (8, []), (9, []), (10, []), (11, []), (12, []), (13, []), (14, []), (15, []), (16, [])])
theorem w4_9 : WXi EE n0 rd c4_9 t m (Q := ⟨Q⟩) = WXi EE n0 rd (.dreg r4_8 [(0, []), (1, []), (2, []), (3, []), (4, []), (5, []), (6, []), (7, []), (8, []), (9, []), (10, []), (11, []), (12, []), (13, []), (14, []), (15, []), (16, [])]) t m (Q := ⟨Q⟩) := rfl
noncomputable def r4_10 : List SOp := [⟨(some 42), .move (.tmp 12), 3, none⟩, ⟨(some 43), .binOp .add 3 (.tmp 42) (.const (.int .i64 1)) 3, 3, none⟩, ⟨(some 12), .assign (.tmp 43), 3, none⟩]
theorem w4_10 : WXi EE n0 rd (.reg r4_10) t m (Q := ⟨Q⟩) = (n0 ≤ m.next ∧ XWi EE m.next [(0, ⟨(some 42), .move (.tmp 12), 3, none⟩), (1, ⟨(some 43), .binOp .add 3 (.tmp 42) (.const (.int .i64 1)) 3, 3, none⟩), (2, ⟨(some 12), .assign (.tmp 43), 3, none⟩)] [] t (m.bump 3) (Q := ⟨fun _ => Q .normal⟩)) := by kernel_rfl
noncomputable def c4_11 : SCode := (.seq (.seq (.reg r4_7) (.cond (.tmp 41) .skip (.exit 0))) (.seq (.block 1 c4_9) (.reg r4_10)))
theorem w4_11 : WXi EE n0 rd c4_11 t m (Q := ⟨Q⟩) = WXi EE n0 rd (.seq (.seq (.reg r4_7) (.cond (.tmp 41) .skip (.exit 0))) (.seq (.block 1 c4_9) (.reg r4_10))) t m (Q := ⟨Q⟩) := rfl
noncomputable def c4_12 : SCode := (.loop c4_11)
theorem w4_12 : WXi EE n0 rd c4_12 t m (Q := ⟨Q⟩) = WXi EE n0 rd (.loop c4_11) t m (Q := ⟨Q⟩) := rfl
noncomputable def r4_13 : List SOp := [⟨(some 61), .move (.tmp 10), 23, none⟩, ⟨(some 62), .move (.tmp 2), 3, none⟩, ⟨(some 63), .call ⟨.value (.func 11), #[(.tmp 61), (.tmp 62)], #[23, 3]⟩, 30, none⟩, ⟨(some 13), .assign (.tmp 63), 30, none⟩]
theorem w4_13 : WXi EE n0 rd (.reg r4_13) t m (Q := ⟨Q⟩) = (n0 ≤ m.next ∧ XWi EE m.next [(0, ⟨(some 61), .move (.tmp 10), 23, none⟩), (1, ⟨(some 62), .move (.tmp 2), 3, none⟩), (2, ⟨(some 63), .call ⟨.value (.func 11), #[(.tmp 61), (.tmp 62)], #[23, 3]⟩, 30, none⟩), (3, ⟨(some 13), .assign (.tmp 63), 30, none⟩)] [] t (m.bump 4) (Q := ⟨fun _ => Q .normal⟩)) := by kernel_rfl
noncomputable def r4_14 : List SOp := [⟨(some 14), .assign (.const (.int .i64 0)), 3, none⟩]
theorem w4_14 : WXi EE n0 rd (.reg r4_14) t m (Q := ⟨Q⟩) = (n0 ≤ m.next ∧ XWi EE m.next [(0, ⟨(some 14), .assign (.const (.int .i64 0)), 3, none⟩)] [] t (m.bump 1) (Q := ⟨fun _ => Q .normal⟩)) := by kernel_rfl
noncomputable def r4_15 : List SOp := [⟨(some 64), .move (.tmp 14), 3, none⟩, ⟨(some 65), .move (.tmp 13), 30, none⟩, ⟨(some 66), .call ⟨.builtin .len, #[(.tmp 65)], #[30]⟩, 3, none⟩, ⟨(some 67), .binOp .lss 3 (.tmp 64) (.tmp 66) 3, 4, none⟩]
theorem w4_15 : WXi EE n0 rd (.reg r4_15) t m (Q := ⟨Q⟩) = (n0 ≤ m.next ∧ XWi EE m.next [(0, ⟨(some 64), .move (.tmp 14), 3, none⟩), (1, ⟨(some 65), .move (.tmp 13), 30, none⟩), (2, ⟨(some 66), .call ⟨.builtin .len, #[(.tmp 65)], #[30]⟩, 3, none⟩), (3, ⟨(some 67), .binOp .lss 3 (.tmp 64) (.tmp 66) 3, 4, none⟩)] [] t (m.bump 4) (Q := ⟨fun _ => Q .normal⟩)) := by kernel_rfl
noncomputable def r4_16 : List SOp := [⟨(some 70), .move (.tmp 10), 23, none⟩, ⟨(some 71), .move (.tmp 2), 3, none⟩, ⟨(some 72), .move (.tmp 14), 3, none⟩, ⟨(some 73), .convert 3 29 (.tmp 72), 29, none⟩, ⟨(some 74), .call ⟨.value (.func 13), #[(.tmp 70), (.tmp 71), (.tmp 73)], #[23, 3, 29]⟩, 3, none⟩, ⟨(some 75), .move (.tmp 13), 30, none⟩, ⟨(some 76), .move (.tmp 14), 3, none⟩, ⟨(some 77), .indexAddr 30 (.tmp 75) (.tmp 76), 0, none⟩, ⟨(some 78), .load 3 (.tmp 77), 3, none⟩, ⟨(some 79), .binOp .neq 3 (.tmp 74) (.tmp 78) 3, 4, none⟩]
theorem w4_16 : WXi EE n0 rd (.dreg r4_16 [(0, []), (1, []), (2, []), (3, []), (4, []), (5, []), (6, []), (7, []), (8, [4]), (9, [])]) t m (Q := ⟨Q⟩) = (n0 ≤ m.next ∧ YWi EE m.next [(0, ⟨(some 70), .move (.tmp 10), 23, none⟩, [], false), (1, ⟨(some 71), .move (.tmp 2), 3, none⟩, [], false), (2, ⟨(some 72), .move (.tmp 14), 3, none⟩, [], false), (3, ⟨(some 73), .convert 3 29 (.tmp 72), 29, none⟩, [], false), (4, ⟨(some 74), .call ⟨.value (.func 13), #[(.tmp 70), (.tmp 71), (.tmp 73)], #[23, 3, 29]⟩, 3, none⟩, [], true), (5, ⟨(some 75), .move (.tmp 13), 30, none⟩, [], false), (6, ⟨(some 76), .move (.tmp 14), 3, none⟩, [], false), (7, ⟨(some 77), .indexAddr 30 (.tmp 75) (.tmp 76), 0, none⟩, [], false), (8, ⟨(some 78), .load 3 (.tmp 77), 3, none⟩, [4], false), (9, ⟨(some 79), .binOp .neq 3 (.tmp 74) (.tmp 78) 3, 4, none⟩, [], false)] [] [] t (m.bump 10) (Q := ⟨fun _ => Q .normal⟩)) := by kernel_rfl
noncomputable def r4_17 : List SOp := [⟨(some 8), .assign (.const (.bool false)), 4, none⟩]
theorem w4_17 : WXi EE n0 rd (.reg r4_17) t m (Q := ⟨Q⟩) = (n0 ≤ m.next ∧ XWi EE m.next [(0, ⟨(some 8), .assign (.const (.bool false)), 4, none⟩)] [] t (m.bump 1) (Q := ⟨fun _ => Q .normal⟩)) := by kernel_rfl
noncomputable def c4_18 : SCode := (.seq (.reg r4_17) .ret)
theorem w4_18 : WXi EE n0 rd c4_18 t m (Q := ⟨Q⟩) = WXi EE n0 rd (.seq (.reg r4_17) .ret) t m (Q := ⟨Q⟩) := rfl
noncomputable def c4_19 : SCode := (.seq (.dreg r4_16 [(0, []), (1, []), (2, []), (3, []), (4, []), (5, []), (6, []), (7, []), (8, [4]), (9, [])]) (.cond (.tmp 79) c4_18 .skip))
theorem w4_19 : WXi EE n0 rd c4_19 t m (Q := ⟨Q⟩) = WXi EE n0 rd (.seq (.dreg r4_16 [(0, []), (1, []), (2, []), (3, []), (4, []), (5, []), (6, []), (7, []), (8, [4]), (9, [])]) (.cond (.tmp 79) c4_18 .skip)) t m (Q := ⟨Q⟩) := rfl
noncomputable def r4_20 : List SOp := [⟨(some 68), .move (.tmp 14), 3, none⟩, ⟨(some 69), .binOp .add 3 (.tmp 68) (.const (.int .i64 1)) 3, 3, none⟩, ⟨(some 14), .assign (.tmp 69), 3, none⟩]
theorem w4_20 : WXi EE n0 rd (.reg r4_20) t m (Q := ⟨Q⟩) = (n0 ≤ m.next ∧ XWi EE m.next [(0, ⟨(some 68), .move (.tmp 14), 3, none⟩), (1, ⟨(some 69), .binOp .add 3 (.tmp 68) (.const (.int .i64 1)) 3, 3, none⟩), (2, ⟨(some 14), .assign (.tmp 69), 3, none⟩)] [] t (m.bump 3) (Q := ⟨fun _ => Q .normal⟩)) := by kernel_rfl
noncomputable def c4_21 : SCode := (.seq (.seq (.reg r4_15) (.cond (.tmp 67) .skip (.exit 2))) (.seq (.block 3 c4_19) (.reg r4_20)))
theorem w4_21 : WXi EE n0 rd c4_21 t m (Q := ⟨Q⟩) = WXi EE n0 rd (.seq (.seq (.reg r4_15) (.cond (.tmp 67) .skip (.exit 2))) (.seq (.block 3 c4_19) (.reg r4_20))) t m (Q := ⟨Q⟩) := rfl
noncomputable def c4_22 : SCode := (.loop c4_21)
theorem w4_22 : WXi EE n0 rd c4_22 t m (Q := ⟨Q⟩) = WXi EE n0 rd (.loop c4_21) t m (Q := ⟨Q⟩) := rfl
noncomputable def r4_23 : List SOp := [⟨(some 15), .assign (.const (.int .i64 0)), 3, none⟩]
theorem w4_23 : WXi EE n0 rd (.reg r4_23) t m (Q := ⟨Q⟩) = (n0 ≤ m.next ∧ XWi EE m.next [(0, ⟨(some 15), .assign (.const (.int .i64 0)), 3, none⟩)] [] t (m.bump 1) (Q := ⟨fun _ => Q .normal⟩)) := by kernel_rfl
noncomputable def r4_24 : List SOp := [⟨(some 80), .move (.tmp 15), 3, none⟩, ⟨(some 81), .move (.tmp 13), 30, none⟩, ⟨(some 82), .call ⟨.builtin .len, #[(.tmp 81)], #[30]⟩, 3, none⟩, ⟨(some 83), .binOp .lss 3 (.tmp 80) (.tmp 82) 3, 4, none⟩]
theorem w4_24 : WXi EE n0 rd (.reg r4_24) t m (Q := ⟨Q⟩) = (n0 ≤ m.next ∧ XWi EE m.next [(0, ⟨(some 80), .move (.tmp 15), 3, none⟩), (1, ⟨(some 81), .move (.tmp 13), 30, none⟩), (2, ⟨(some 82), .call ⟨.builtin .len, #[(.tmp 81)], #[30]⟩, 3, none⟩), (3, ⟨(some 83), .binOp .lss 3 (.tmp 80) (.tmp 82) 3, 4, none⟩)] [] t (m.bump 4) (Q := ⟨fun _ => Q .normal⟩)) := by kernel_rfl
noncomputable def r4_25 : List SOp := [⟨(some 86), .move (.tmp 10), 23, none⟩, ⟨(some 87), .move (.tmp 2), 3, none⟩, ⟨(some 88), .call ⟨.value (.func 14), #[(.tmp 86), (.tmp 87)], #[23, 3]⟩, 4, none⟩, ⟨(some 89), .move (.tmp 13), 30, none⟩, ⟨(some 90), .call ⟨.builtin .len, #[(.tmp 89)], #[30]⟩, 3, none⟩, ⟨(some 91), .binOp .gtr 3 (.tmp 90) (.const (.int .i64 1)) 3, 4, none⟩, ⟨(some 92), .binOp .neq 4 (.tmp 88) (.tmp 91) 4, 4, none⟩]
theorem w4_25 : WXi EE n0 rd (.reg r4_25) t m (Q := ⟨Q⟩) = (n0 ≤ m.next ∧ XWi EE m.next [(0, ⟨(some 86), .move (.tmp 10), 23, none⟩), (1, ⟨(some 87), .move (.tmp 2), 3, none⟩), (2, ⟨(some 88), .call ⟨.value (.func 14), #[(.tmp 86), (.tmp 87)], #[23, 3]⟩, 4, none⟩), (3, ⟨(some 89), .move (.tmp 13), 30, none⟩), (4, ⟨(some 90), .call ⟨.builtin .len, #[(.tmp 89)], #[30]⟩, 3, none⟩), (5, ⟨(some 91), .binOp .gtr 3 (.tmp 90) (.const (.int .i64 1)) 3, 4, none⟩), (6, ⟨(some 92), .binOp .neq 4 (.tmp 88) (.tmp 91) 4, 4, none⟩)] [] t (m.bump 7) (Q := ⟨fun _ => Q .normal⟩)) := by kernel_rfl
noncomputable def r4_26 : List SOp := [⟨(some 8), .assign (.const (.bool false)), 4, none⟩]
theorem w4_26 : WXi EE n0 rd (.reg r4_26) t m (Q := ⟨Q⟩) = (n0 ≤ m.next ∧ XWi EE m.next [(0, ⟨(some 8), .assign (.const (.bool false)), 4, none⟩)] [] t (m.bump 1) (Q := ⟨fun _ => Q .normal⟩)) := by kernel_rfl
noncomputable def c4_27 : SCode := (.seq (.reg r4_26) .ret)
theorem w4_27 : WXi EE n0 rd c4_27 t m (Q := ⟨Q⟩) = WXi EE n0 rd (.seq (.reg r4_26) .ret) t m (Q := ⟨Q⟩) := rfl
noncomputable def c4_28 : SCode := (.seq (.reg r4_25) (.cond (.tmp 92) c4_27 .skip))
theorem w4_28 : WXi EE n0 rd c4_28 t m (Q := ⟨Q⟩) = WXi EE n0 rd (.seq (.reg r4_25) (.cond (.tmp 92) c4_27 .skip)) t m (Q := ⟨Q⟩) := rfl
noncomputable def r4_29 : List SOp := [⟨(some 84), .move (.tmp 15), 3, none⟩, ⟨(some 85), .binOp .add 3 (.tmp 84) (.const (.int .i64 1)) 3, 3, none⟩, ⟨(some 15), .assign (.tmp 85), 3, none⟩]
theorem w4_29 : WXi EE n0 rd (.reg r4_29) t m (Q := ⟨Q⟩) = (n0 ≤ m.next ∧ XWi EE m.next [(0, ⟨(some 84), .move (.tmp 15), 3, none⟩), (1, ⟨(some 85), .binOp .add 3 (.tmp 84) (.const (.int .i64 1)) 3, 3, none⟩), (2, ⟨(some 15), .assign (.tmp 85), 3, none⟩)] [] t (m.bump 3) (Q := ⟨fun _ => Q .normal⟩)) := by kernel_rfl
noncomputable def c4_30 : SCode := (.seq (.seq (.reg r4_24) (.cond (.tmp 83) .skip (.exit 4))) (.seq (.block 5 c4_28) (.reg r4_29)))
theorem w4_30 : WXi EE n0 rd c4_30 t m (Q := ⟨Q⟩) = WXi EE n0 rd (.seq (.seq (.reg r4_24) (.cond (.tmp 83) .skip (.exit 4))) (.seq (.block 5 c4_28) (.reg r4_29))) t m (Q := ⟨Q⟩) := rfl
noncomputable def c4_31 : SCode := (.loop c4_30)
theorem w4_31 : WXi EE n0 rd c4_31 t m (Q := ⟨Q⟩) = WXi EE n0 rd (.loop c4_30) t m (Q := ⟨Q⟩) := rfl
noncomputable def r4_32 : List SOp := [⟨(some 93), .move (.tmp 10), 23, none⟩, ⟨(some 94), .move (.tmp 2), 3, none⟩, ⟨(some 95), .call ⟨.value (.func 11), #[(.tmp 93), (.tmp 94)], #[23, 3]⟩, 30, none⟩, ⟨(some 96), .move (.tmp 13), 30, none⟩, ⟨(some 97), .call ⟨.value (.func 15), #[(.tmp 95), (.tmp 96)], #[30, 30]⟩, 4, none⟩, ⟨(some 98), .unOp .not 4 (.tmp 97), 4, none⟩]
theorem w4_32 : WXi EE n0 rd (.reg r4_32) t m (Q := ⟨Q⟩) = (n0 ≤ m.next ∧ XWi EE m.next [(0, ⟨(some 93), .move (.tmp 10), 23, none⟩), (1, ⟨(some 94), .move (.tmp 2), 3, none⟩), (2, ⟨(some 95), .call ⟨.value (.func 11), #[(.tmp 93), (.tmp 94)], #[23, 3]⟩, 30, none⟩), (3, ⟨(some 96), .move (.tmp 13), 30, none⟩), (4, ⟨(some 97), .call ⟨.value (.func 15), #[(.tmp 95), (.tmp 96)], #[30, 30]⟩, 4, none⟩), (5, ⟨(some 98), .unOp .not 4 (.tmp 97), 4, none⟩)] [] t (m.bump 6) (Q := ⟨fun _ => Q .normal⟩)) := by kernel_rfl
noncomputable def r4_33 : List SOp := [⟨(some 8), .assign (.const (.bool false)), 4, none⟩]
theorem w4_33 : WXi EE n0 rd (.reg r4_33) t m (Q := ⟨Q⟩) = (n0 ≤ m.next ∧ XWi EE m.next [(0, ⟨(some 8), .assign (.const (.bool false)), 4, none⟩)] [] t (m.bump 1) (Q := ⟨fun _ => Q .normal⟩)) := by kernel_rfl
noncomputable def c4_34 : SCode := (.seq (.reg r4_33) .ret)
theorem w4_34 : WXi EE n0 rd c4_34 t m (Q := ⟨Q⟩) = WXi EE n0 rd (.seq (.reg r4_33) .ret) t m (Q := ⟨Q⟩) := rfl
noncomputable def r4_35 : List SOp := [⟨(some 99), .move (.tmp 10), 23, none⟩, ⟨(some 100), .move (.tmp 3), 3, none⟩, ⟨(some 101), .call ⟨.value (.func 16), #[(.tmp 99), (.tmp 100)], #[23, 3]⟩, 3, none⟩, ⟨(some 102), .binOp .geq 3 (.tmp 101) (.const (.int .i64 0)) 3, 4, none⟩, ⟨(some 16), .assign (.tmp 102), 4, none⟩]
theorem w4_35 : WXi EE n0 rd (.reg r4_35) t m (Q := ⟨Q⟩) = (n0 ≤ m.next ∧ XWi EE m.next [(0, ⟨(some 99), .move (.tmp 10), 23, none⟩), (1, ⟨(some 100), .move (.tmp 3), 3, none⟩), (2, ⟨(some 101), .call ⟨.value (.func 16), #[(.tmp 99), (.tmp 100)], #[23, 3]⟩, 3, none⟩), (3, ⟨(some 102), .binOp .geq 3 (.tmp 101) (.const (.int .i64 0)) 3, 4, none⟩), (4, ⟨(some 16), .assign (.tmp 102), 4, none⟩)] [] t (m.bump 5) (Q := ⟨fun _ => Q .normal⟩)) := by kernel_rfl
noncomputable def r4_36 : List SOp := [⟨(some 103), .move (.tmp 10), 23, none⟩, ⟨(some 104), .call ⟨.value (.func 17), #[(.tmp 103)], #[23]⟩, 30, none⟩, ⟨(some 105), .call ⟨.builtin .len, #[(.tmp 104)], #[30]⟩, 3, none⟩, ⟨(some 17), .assign (.tmp 105), 3, none⟩]
theorem w4_36 : WXi EE n0 rd (.reg r4_36) t m (Q := ⟨Q⟩) = (n0 ≤ m.next ∧ XWi EE m.next [(0, ⟨(some 103), .move (.tmp 10), 23, none⟩), (1, ⟨(some 104), .call ⟨.value (.func 17), #[(.tmp 103)], #[23]⟩, 30, none⟩), (2, ⟨(some 105), .call ⟨.builtin .len, #[(.tmp 104)], #[30]⟩, 3, none⟩), (3, ⟨(some 17), .assign (.tmp 105), 3, none⟩)] [] t (m.bump 4) (Q := ⟨fun _ => Q .normal⟩)) := by kernel_rfl
noncomputable def r4_37 : List SOp := [⟨(some 106), .move (.tmp 10), 23, none⟩, ⟨(some 107), .move (.tmp 3), 3, none⟩, ⟨(some 108), .call ⟨.value (.func 18), #[(.tmp 106), (.tmp 107)], #[23, 3]⟩, 4, none⟩, ⟨(some 18), .assign (.tmp 108), 4, none⟩]
theorem w4_37 : WXi EE n0 rd (.reg r4_37) t m (Q := ⟨Q⟩) = (n0 ≤ m.next ∧ XWi EE m.next [(0, ⟨(some 106), .move (.tmp 10), 23, none⟩), (1, ⟨(some 107), .move (.tmp 3), 3, none⟩), (2, ⟨(some 108), .call ⟨.value (.func 18), #[(.tmp 106), (.tmp 107)], #[23, 3]⟩, 4, none⟩), (3, ⟨(some 18), .assign (.tmp 108), 4, none⟩)] [] t (m.bump 4) (Q := ⟨fun _ => Q .normal⟩)) := by kernel_rfl
noncomputable def r4_38 : List SOp := [⟨(some 109), .move (.tmp 17), 3, none⟩, ⟨(some 19), .assign (.tmp 109), 3, none⟩]
theorem w4_38 : WXi EE n0 rd (.reg r4_38) t m (Q := ⟨Q⟩) = (n0 ≤ m.next ∧ XWi EE m.next [(0, ⟨(some 109), .move (.tmp 17), 3, none⟩), (1, ⟨(some 19), .assign (.tmp 109), 3, none⟩)] [] t (m.bump 2) (Q := ⟨fun _ => Q .normal⟩)) := by kernel_rfl
noncomputable def r4_39 : List SOp := [⟨(some 110), .move (.tmp 16), 4, none⟩]
theorem w4_39 : WXi EE n0 rd (.reg r4_39) t m (Q := ⟨Q⟩) = (n0 ≤ m.next ∧ XWi EE m.next [(0, ⟨(some 110), .move (.tmp 16), 4, none⟩)] [] t (m.bump 1) (Q := ⟨fun _ => Q .normal⟩)) := by kernel_rfl
noncomputable def r4_40 : List SOp := [⟨(some 111), .move (.tmp 19), 3, none⟩, ⟨(some 112), .binOp .sub 3 (.tmp 111) (.const (.int .i64 1)) 3, 3, none⟩, ⟨(some 19), .assign (.tmp 112), 3, none⟩]
theorem w4_40 : WXi EE n0 rd (.reg r4_40) t m (Q := ⟨Q⟩) = (n0 ≤ m.next ∧ XWi EE m.next [(0, ⟨(some 111), .move (.tmp 19), 3, none⟩), (1, ⟨(some 112), .binOp .sub 3 (.tmp 111) (.const (.int .i64 1)) 3, 3, none⟩), (2, ⟨(some 19), .assign (.tmp 112), 3, none⟩)] [] t (m.bump 3) (Q := ⟨fun _ => Q .normal⟩)) := by kernel_rfl
noncomputable def c4_41 : SCode := (.reg r4_40)
theorem w4_41 : WXi EE n0 rd c4_41 t m (Q := ⟨Q⟩) = WXi EE n0 rd (.reg r4_40) t m (Q := ⟨Q⟩) := rfl
noncomputable def r4_42 : List SOp := [⟨(some 113), .move (.tmp 9), 4, none⟩, ⟨(some 114), .move (.tmp 113), 4, none⟩, ⟨(some 115), .move (.tmp 18), 4, (some (114, true))⟩, ⟨(some 116), .move (.tmp 16), 4, (some (114, true))⟩, ⟨(some 117), .binOp .eql 4 (.tmp 115) (.tmp 116) 4, 4, (some (114, true))⟩, ⟨(some 118), .pick (.tmp 114) (.tmp 117) (.const (.bool false)), 4, none⟩, ⟨(some 119), .move (.tmp 118), 4, none⟩, ⟨(some 120), .move (.tmp 10), 23, (some (119, true))⟩, ⟨(some 121), .move (.tmp 3), 3, (some (119, true))⟩, ⟨(some 122), .call ⟨.value (.func 16), #[(.tmp 120), (.tmp 121)], #[23, 3]⟩, 3, (some (119, true))⟩, ⟨(some 123), .binOp .eql 3 (.tmp 122) (.const (.int .i64 (-1))) 3, 4, (some (119, true))⟩, ⟨(some 124), .pick (.tmp 119) (.tmp 123) (.const (.bool false)), 4, none⟩, ⟨(some 125), .move (.tmp 124), 4, none⟩, ⟨(some 126), .move (.tmp 10), 23, (some (125, true))⟩, ⟨(some 127), .move (.tmp 3), 3, (some (125, true))⟩, ⟨(some 128), .call ⟨.value (.func 18), #[(.tmp 126), (.tmp 127)], #[23, 3]⟩, 4, (some (125, true))⟩, ⟨(some 129), .unOp .not 4 (.tmp 128), 4, (some (125, true))⟩, ⟨(some 130), .pick (.tmp 125) (.tmp 129) (.const (.bool false)), 4, none⟩, ⟨(some 131), .move (.tmp 130), 4, none⟩, ⟨(some 132), .move (.tmp 10), 23, (some (131, true))⟩, ⟨(some 133), .call ⟨.value (.func 17), #[(.tmp 132)], #[23]⟩, 30, (some (131, true))⟩, ⟨(some 134), .call ⟨.builtin .len, #[(.tmp 133)], #[30]⟩, 3, (some (131, true))⟩, ⟨(some 135), .move (.tmp 19), 3, (some (131, true))⟩, ⟨(some 136), .binOp .eql 3 (.tmp 134) (.tmp 135) 3, 4, (some (131, true))⟩, ⟨(some 137), .pick (.tmp 131) (.tmp 136) (.const (.bool false)), 4, none⟩, ⟨(some 8), .assign (.tmp 137), 4, none⟩]
theorem w4_42 : WXi EE n0 rd (.reg r4_42) t m (Q := ⟨Q⟩) = (n0 ≤ m.next ∧ XWi EE m.next [(0, ⟨(some 113), .move (.tmp 9), 4, none⟩), (1, ⟨(some 114), .move (.tmp 113), 4, none⟩), (2, ⟨(some 115), .move (.tmp 18), 4, (some (114, true))⟩), (3, ⟨(some 116), .move (.tmp 16), 4, (some (114, true))⟩), (4, ⟨(some 117), .binOp .eql 4 (.tmp 115) (.tmp 116) 4, 4, (some (114, true))⟩), (5, ⟨(some 118), .pick (.tmp 114) (.tmp 117) (.const (.bool false)), 4, none⟩), (6, ⟨(some 119), .move (.tmp 118), 4, none⟩), (7, ⟨(some 120), .move (.tmp 10), 23, (some (119, true))⟩), (8, ⟨(some 121), .move (.tmp 3), 3, (some (119, true))⟩), (9, ⟨(some 122), .call ⟨.value (.func 16), #[(.tmp 120), (.tmp 121)], #[23, 3]⟩, 3, (some (119, true))⟩), (10, ⟨(some 123), .binOp .eql 3 (.tmp 122) (.const (.int .i64 (-1))) 3, 4, (some (119, true))⟩), (11, ⟨(some 124), .pick (.tmp 119) (.tmp 123) (.const (.bool false)), 4, none⟩), (12, ⟨(some 125), .move (.tmp 124), 4, none⟩), (13, ⟨(some 126), .move (.tmp 10), 23, (some (125, true))⟩), (14, ⟨(some 127), .move (.tmp 3), 3, (some (125, true))⟩), (15, ⟨(some 128), .call ⟨.value (.func 18), #[(.tmp 126), (.tmp 127)], #[23, 3]⟩, 4, (some (125, true))⟩), (16, ⟨(some 129), .unOp .not 4 (.tmp 128), 4, (some (125, true))⟩), (17, ⟨(some 130), .pick (.tmp 125) (.tmp 129) (.const (.bool false)), 4, none⟩), (18, ⟨(some 131), .move (.tmp 130), 4, none⟩), (19, ⟨(some 132), .move (.tmp 10), 23, (some (131, true))⟩), (20, ⟨(some 133), .call ⟨.value (.func 17), #[(.tmp 132)], #[23]⟩, 30, (some (131, true))⟩), (21, ⟨(some 134), .call ⟨.builtin .len, #[(.tmp 133)], #[30]⟩, 3, (some (131, true))⟩), (22, ⟨(some 135), .move (.tmp 19), 3, (some (131, true))⟩), (23, ⟨(some 136), .binOp .eql 3 (.tmp 134) (.tmp 135) 3, 4, (some (131, true))⟩), (24, ⟨(some 137), .pick (.tmp 131) (.tmp 136) (.const (.bool false)), 4, none⟩), (25, ⟨(some 8), .assign (.tmp 137), 4, none⟩)] [] t (m.bump 26) (Q := ⟨fun _ => Q .normal⟩)) := by kernel_rfl
noncomputable def c4 : SCode := (.seq (.reg r4_0) (.seq (.reg r4_1) (.seq (.reg r4_2) (.seq (.seq (.reg r4_3) (.cond (.tmp 36) c4_5 .skip)) (.seq (.seq (.reg r4_6) (.block 0 c4_12)) (.seq (.reg r4_13) (.seq (.seq (.reg r4_14) (.block 2 c4_22)) (.seq (.seq (.reg r4_23) (.block 4 c4_31)) (.seq (.seq (.reg r4_32) (.cond (.tmp 98) c4_34 .skip)) (.seq (.reg r4_35) (.seq (.reg r4_36) (.seq (.reg r4_37) (.seq (.reg r4_38) (.seq (.seq (.reg r4_39) (.cond (.tmp 110) c4_41 .skip)) (.seq (.reg r4_42) .ret)))))))))))))))
theorem w4 : WXi EE n0 rd c4 t m (Q := ⟨Q⟩) = WXi EE n0 rd (.seq (.reg r4_0) (.seq (.reg r4_1) (.seq (.reg r4_2) (.seq (.seq (.reg r4_3) (.cond (.tmp 36) c4_5 .skip)) (.seq (.seq (.reg r4_6) (.block 0 c4_12)) (.seq (.reg r4_13) (.seq (.seq (.reg r4_14) (.block 2 c4_22)) (.seq (.seq (.reg r4_23) (.block 4 c4_31)) (.seq (.seq (.reg r4_32) (.cond (.tmp 98) c4_34 .skip)) (.seq (.reg r4_35) (.seq (.reg r4_36) (.seq (.reg r4_37) (.seq (.reg r4_38) (.seq (.seq (.reg r4_39) (.cond (.tmp 110) c4_41 .skip)) (.seq (.reg r4_42) .ret))))))))))))))) t m (Q := ⟨Q⟩) := rfl
noncomputable def f4 : SFunc := ⟨138, [.tmp 8], c4⟩
-- RULES 4 w4_0, w4_1, w4_2, w4_3, w4_4, w4_5, w4_6, w4_7, w4_8, w4_9, w4_10, w4_11, w4_12, w4_13, w4_14, w4_15, w4_16, w4_17, w4_18, w4_19, w4_20, w4_21, w4_22, w4_23, w4_24, w4_25, w4_26, w4_27, w4_28, w4_29, w4_30, w4_31, w4_32, w4_33, w4_34, w4_35, w4_36, w4_37, w4_38, w4_39, w4_40, w4_41, w4_42
theorem fn4 : fnOf EE.P 4 = some f4 := by kernel_rfl
/-! types -/
theorem sz_36 : szOf EE.P 36 = some 4 := by kernel_rfl
theorem fo_36_1 : fieldOff EE.P 36 1 = some 1 := by kernel_rfl
theorem fo_36_2 : fieldOff EE.P 36 2 = some 2 := by kernel_rfl
theorem fo_36_3 : fieldOff EE.P 36 3 = some 3 := by kernel_rfl
theorem und_34 : EE.P.underlying 34 = some (.slice 36) := by kernel_rfl
theorem und_4 : EE.P.underlying 4 = some .bool := by kernel_rfl
theorem ca_13 : callable EE.P 13 = true := by kernel_rfl
theorem ca_14 : callable EE.P 14 = true := by kernel_rfl
theorem ca_15 : callable EE.P 15 = true := by kernel_rfl
theorem ca_17 : callable EE.P 17 = true := by kernel_rfl
-- FACTS lay_30, lay_3, lay_23, lay_29, sz_30, sz_3, sz_23, sz_29, sz_36, zero_3, fo_57_1, fo_57_0, fo_36_1, fo_36_2, fo_36_3, und_24, und_3, und_29, und_55, und_23, und_30, und_5, und_67, und_34, und_4, ca_9, ca_10, ca_16, ca_29, ca_24, ca_30, ca_31, ca_32, ca_33, ca_18, ca_34, ca_38, ca_39, ca_42, ca_8, ca_11, ca_12, ca_37, ca_36, ca_35, ca_43, ca_44, ca_46, ca_48, ca_13, ca_14, ca_15, ca_17
end
end Go.Ab
