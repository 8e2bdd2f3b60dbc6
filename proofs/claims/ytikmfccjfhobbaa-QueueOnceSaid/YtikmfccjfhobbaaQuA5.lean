/- Queue: the code of one law, as data. -/
import Derived.Test.YtikmfccjfhobbaaQuA2
namespace Go.Ab
open Go.Proofs
noncomputable section
variable {n0 : Nat} {rd : Option Nat} {t : List Value} {m : Mem} {Q : Exit → List Value → Mem → Prop}
/-! carryall/carryalllaw13.alive -/
-- RULES 8 w8_0, w8_1, w8_2, w8_3, w8_4, w8_5, w8_6
/-! carryall/queue.New -/
-- RULES 9 w9_0, w9_1, w9_2, w9_3, w9_4
/-! (*carryall/queue.Queues).Place -/
-- RULES 10 w10_0, w10_1, w10_2, w10_3, w10_4, w10_5, w10_6, w10_7, w10_8, w10_9, w10_10, w10_11, w10_12, w10_13, w10_14, w10_15, w10_16, w10_17
/-! (*carryall/queue.Queues).List -/
-- RULES 11 w11_0, w11_1, w11_2, w11_3, w11_4
/-! (*carryall/queue.Queues).Move -/
-- RULES 12 w12_0, w12_1, w12_2, w12_3, w12_4, w12_5, w12_6, w12_7, w12_8, w12_9, w12_10, w12_11, w12_12, w12_13, w12_14, w12_15
/-! (*carryall/queue.Queues).Where -/
-- RULES 16 w16_0, w16_1, w16_2, w16_3, w16_4, w16_5, w16_6, w16_7, w16_8, w16_9, w16_10, w16_11
/-! (*carryall/queue.Queues).Cut -/
-- RULES 18 w18_0, w18_1, w18_2, w18_3, w18_4, w18_5, w18_6, w18_7
/-! (*carryall/queue.Queues).May -/
-- RULES 24 w24_0, w24_1
/-! (*carryall/queue.Queues).Cores -/
-- RULES 29 w29_0, w29_1, w29_2, w29_3, w29_4
/-! (*carryall/queue.Queues).is -/
-- RULES 30 w30_0, w30_1
/-! (*carryall/queue.Queues).put -/
-- RULES 31 w31_0, w31_1, w31_2
/-! (*carryall/queue.Queues).fewest -/
-- RULES 32 w32_0, w32_1, w32_2, w32_3, w32_4, w32_5, w32_6, w32_7, w32_8, w32_9, w32_10, w32_11
/-! slices.Clone[[]int,int] -/
-- RULES 33 w33_0, w33_1, w33_2, w33_3, w33_4
/-! slices.Contains[[]int,int] -/
-- RULES 34 w34_0, w34_1
/-! slices.Index[[]int,int] -/
-- RULES 38 w38_0, w38_1, w38_2, w38_3, w38_4, w38_5, w38_6, w38_7, w38_8, w38_9, w38_10, w38_11
/-! slices.Delete[[]int,int] -/
-- RULES 39 w39_0, w39_1, w39_2, w39_3, w39_4, w39_5, w39_6, w39_7, w39_8
/-! (*carryall/queue.Queues).of -/
-- RULES 42 w42_0, w42_1
/-! (*carryall/queue.Queues).of$1 -/
-- RULES 47 w47_0, w47_1, w47_2, w47_3, w47_4, w47_5, w47_6, w47_7, w47_8, w47_9
/-! carryall/carryalllaw13.QueueSpreads -/
-- RULES 3 w3_0, w3_1, w3_2, w3_3, w3_4, w3_5, w3_6, w3_7, w3_8, w3_9, w3_10, w3_11, w3_12, w3_13, w3_14, w3_15, w3_16, w3_17, w3_18, w3_19, w3_20, w3_21, w3_22, w3_23, w3_24, w3_25, w3_26, w3_27, w3_28, w3_29, w3_30, w3_31, w3_32, w3_33, w3_34, w3_35, w3_36, w3_37, w3_38, w3_39, w3_40, w3_41, w3_42, w3_43, w3_44, w3_45, w3_46, w3_47, w3_48, w3_49, w3_50, w3_51, w3_52, w3_53, w3_54, w3_55, w3_56, w3_57, w3_58, w3_59, w3_60, w3_61, w3_62, w3_63, w3_64, w3_65, w3_66
/-! (*carryall/queue.Queues).Pick -/
-- RULES 13 w13_0, w13_1, w13_2, w13_3, w13_4
/-! (*carryall/queue.Queues).Rotate -/
-- RULES 14 w14_0, w14_1, w14_2, w14_3, w14_4, w14_5, w14_6
/-! (*carryall/queue.Queues).All -/
-- RULES 17 w17_0, w17_1, w17_2, w17_3, w17_4
/-! slices.Sorted[int] -/
-- RULES 35 w35_0, w35_1, w35_2, w35_3
/-! slices.Values[[]int,int] -/
-- RULES 36 w36_0, w36_1
/-! slices.Concat[[]int,int] -/
-- RULES 37 w37_0, w37_1, w37_2, w37_3, w37_4, w37_5, w37_6, w37_7, w37_8, w37_9, w37_10, w37_11, w37_12, w37_13, w37_14, w37_15, w37_16, w37_17, w37_18, w37_19, w37_20, w37_21, w37_22
/-! slices.Collect[int] -/
-- RULES 43 w43_0, w43_1
/-! slices.Values[[]int,int]$1 -/
-- RULES 45 w45_0, w45_1, w45_2, w45_3, w45_4, w45_5, w45_6, w45_7
/-! slices.AppendSeq[[]int,int] -/
-- RULES 48 w48_0, w48_1, w48_2, w48_3, w48_4, w48_5, w48_6, w48_7, w48_8
/-! carryall/carryallref13.Same -/
-- RULES 15 w15_0, w15_1, w15_2, w15_3, w15_4, w15_5, w15_6, w15_7, w15_8, w15_9, w15_10, w15_11, w15_12, w15_13
/-! carryall/carryalllaw13.QueueOnce -/
noncomputable def r5_0 : List SOp := [⟨(some 4), .assign (.const (.bool false)), 4, none⟩]
theorem w5_0 : WXi EE n0 rd (.reg r5_0) t m (Q := ⟨Q⟩) = (n0 ≤ m.next ∧ XWi EE m.next [(0, ⟨(some 4), .assign (.const (.bool false)), 4, none⟩)] [] t (m.bump 1) (Q := ⟨fun _ => Q .normal⟩)) := by kernel_rfl
noncomputable def r5_1 : List SOp := [⟨(some 16), .call ⟨.value (.func 8), #[], #[]⟩, 4, none⟩, ⟨(some 5), .assign (.tmp 16), 4, none⟩]
theorem w5_1 : WXi EE n0 rd (.reg r5_1) t m (Q := ⟨Q⟩) = (n0 ≤ m.next ∧ XWi EE m.next [(0, ⟨(some 16), .call ⟨.value (.func 8), #[], #[]⟩, 4, none⟩), (1, ⟨(some 5), .assign (.tmp 16), 4, none⟩)] [] t (m.bump 2) (Q := ⟨fun _ => Q .normal⟩)) := by kernel_rfl
noncomputable def r5_2 : List SOp := [⟨(some 18), .move (.tmp 0), 3, none⟩, ⟨(some 19), .call ⟨.value (.func 9), #[(.tmp 18)], #[3]⟩, 25, none⟩, ⟨(some 17), .move (.tmp 19), 25, none⟩, ⟨(some 20), .extract (.tmp 17) 0, 23, none⟩, ⟨(some 21), .extract (.tmp 17) 1, 24, none⟩, ⟨(some 6), .assign (.tmp 20), 23, none⟩, ⟨(some 7), .assign (.tmp 21), 24, none⟩]
theorem w5_2 : WXi EE n0 rd (.reg r5_2) t m (Q := ⟨Q⟩) = (n0 ≤ m.next ∧ XWi EE m.next [(0, ⟨(some 18), .move (.tmp 0), 3, none⟩), (1, ⟨(some 19), .call ⟨.value (.func 9), #[(.tmp 18)], #[3]⟩, 25, none⟩), (2, ⟨(some 17), .move (.tmp 19), 25, none⟩), (3, ⟨(some 20), .extract (.tmp 17) 0, 23, none⟩), (4, ⟨(some 21), .extract (.tmp 17) 1, 24, none⟩), (5, ⟨(some 6), .assign (.tmp 20), 23, none⟩), (6, ⟨(some 7), .assign (.tmp 21), 24, none⟩)] [] t (m.bump 7) (Q := ⟨fun _ => Q .normal⟩)) := by kernel_rfl
noncomputable def r5_3 : List SOp := [⟨(some 22), .move (.tmp 1), 34, none⟩, ⟨(some 23), .call ⟨.builtin .len, #[(.tmp 22)], #[34]⟩, 3, none⟩, ⟨(some 24), .binOp .gtr 3 (.tmp 23) (.const (.int .i64 60)) 3, 4, none⟩, ⟨(some 25), .move (.tmp 24), 4, none⟩, ⟨(some 26), .move (.tmp 7), 24, (some (25, false))⟩, ⟨(some 27), .binOp .neq 24 (.tmp 26) (.const (.int .i64 0)) 24, 4, (some (25, false))⟩, ⟨(some 28), .pick (.tmp 25) (.const (.bool true)) (.tmp 27), 4, none⟩, ⟨(some 29), .move (.tmp 28), 4, none⟩, ⟨(some 30), .move (.tmp 5), 4, (some (29, false))⟩, ⟨(some 31), .unOp .not 4 (.tmp 30), 4, (some (29, false))⟩, ⟨(some 32), .pick (.tmp 29) (.const (.bool true)) (.tmp 31), 4, none⟩]
theorem w5_3 : WXi EE n0 rd (.reg r5_3) t m (Q := ⟨Q⟩) = (n0 ≤ m.next ∧ XWi EE m.next [(0, ⟨(some 22), .move (.tmp 1), 34, none⟩), (1, ⟨(some 23), .call ⟨.builtin .len, #[(.tmp 22)], #[34]⟩, 3, none⟩), (2, ⟨(some 24), .binOp .gtr 3 (.tmp 23) (.const (.int .i64 60)) 3, 4, none⟩), (3, ⟨(some 25), .move (.tmp 24), 4, none⟩), (4, ⟨(some 26), .move (.tmp 7), 24, (some (25, false))⟩), (5, ⟨(some 27), .binOp .neq 24 (.tmp 26) (.const (.int .i64 0)) 24, 4, (some (25, false))⟩), (6, ⟨(some 28), .pick (.tmp 25) (.const (.bool true)) (.tmp 27), 4, none⟩), (7, ⟨(some 29), .move (.tmp 28), 4, none⟩), (8, ⟨(some 30), .move (.tmp 5), 4, (some (29, false))⟩), (9, ⟨(some 31), .unOp .not 4 (.tmp 30), 4, (some (29, false))⟩), (10, ⟨(some 32), .pick (.tmp 29) (.const (.bool true)) (.tmp 31), 4, none⟩)] [] t (m.bump 11) (Q := ⟨fun _ => Q .normal⟩)) := by kernel_rfl
noncomputable def r5_4 : List SOp := [⟨(some 33), .move (.tmp 5), 4, none⟩, ⟨(some 4), .assign (.tmp 33), 4, none⟩]
theorem w5_4 : WXi EE n0 rd (.reg r5_4) t m (Q := ⟨Q⟩) = (n0 ≤ m.next ∧ XWi EE m.next [(0, ⟨(some 33), .move (.tmp 5), 4, none⟩), (1, ⟨(some 4), .assign (.tmp 33), 4, none⟩)] [] t (m.bump 2) (Q := ⟨fun _ => Q .normal⟩)) := by kernel_rfl
noncomputable def c5_5 : SCode := (.seq (.reg r5_4) .ret)
theorem w5_5 : WXi EE n0 rd c5_5 t m (Q := ⟨Q⟩) = WXi EE n0 rd (.seq (.reg r5_4) .ret) t m (Q := ⟨Q⟩) := rfl
noncomputable def r5_6 : List SOp := [⟨(some 8), .alloc 43, 0, none⟩]
theorem w5_6 : WXi EE n0 rd (.reg r5_6) t m (Q := ⟨Q⟩) = (n0 ≤ m.next ∧ XWi EE m.next [(0, ⟨(some 8), .alloc 43, 0, none⟩)] [] t (m.bump 1) (Q := ⟨fun _ => Q .normal⟩)) := by kernel_rfl
noncomputable def r5_7 : List SOp := [⟨(some 9), .assign (.const (.int .i64 0)), 3, none⟩]
theorem w5_7 : WXi EE n0 rd (.reg r5_7) t m (Q := ⟨Q⟩) = (n0 ≤ m.next ∧ XWi EE m.next [(0, ⟨(some 9), .assign (.const (.int .i64 0)), 3, none⟩)] [] t (m.bump 1) (Q := ⟨fun _ => Q .normal⟩)) := by kernel_rfl
noncomputable def r5_8 : List SOp := [⟨(some 34), .move (.tmp 9), 3, none⟩, ⟨(some 35), .move (.tmp 1), 34, none⟩, ⟨(some 36), .call ⟨.builtin .len, #[(.tmp 35)], #[34]⟩, 3, none⟩, ⟨(some 37), .binOp .lss 3 (.tmp 34) (.tmp 36) 3, 4, none⟩]
theorem w5_8 : WXi EE n0 rd (.reg r5_8) t m (Q := ⟨Q⟩) = (n0 ≤ m.next ∧ XWi EE m.next [(0, ⟨(some 34), .move (.tmp 9), 3, none⟩), (1, ⟨(some 35), .move (.tmp 1), 34, none⟩), (2, ⟨(some 36), .call ⟨.builtin .len, #[(.tmp 35)], #[34]⟩, 3, none⟩), (3, ⟨(some 37), .binOp .lss 3 (.tmp 34) (.tmp 36) 3, 4, none⟩)] [] t (m.bump 4) (Q := ⟨fun _ => Q .normal⟩)) := by kernel_rfl
noncomputable def r5_9 : List SOp := [⟨(some 40), .move (.tmp 1), 34, none⟩, ⟨(some 41), .move (.tmp 9), 3, none⟩, ⟨(some 42), .indexAddr 34 (.tmp 40) (.tmp 41), 0, none⟩, ⟨(some 43), .load 36 (.tmp 42), 36, none⟩, ⟨(some 10), .alloc 36, 0, none⟩, ⟨none, .store 36 (.tmp 10) (.tmp 43), 0, none⟩]
theorem w5_9 : WXi EE n0 rd (.reg r5_9) t m (Q := ⟨Q⟩) = (n0 ≤ m.next ∧ XWi EE m.next [(0, ⟨(some 40), .move (.tmp 1), 34, none⟩), (1, ⟨(some 41), .move (.tmp 9), 3, none⟩), (2, ⟨(some 42), .indexAddr 34 (.tmp 40) (.tmp 41), 0, none⟩), (3, ⟨(some 43), .load 36 (.tmp 42), 36, none⟩), (4, ⟨(some 10), .alloc 36, 0, none⟩), (5, ⟨none, .store 36 (.tmp 10) (.tmp 43), 0, none⟩)] [] t (m.bump 6) (Q := ⟨fun _ => Q .normal⟩)) := by kernel_rfl
noncomputable def r5_10 : List SOp := [⟨(some 11), .assign (.const (.int .i64 2)), 24, none⟩]
theorem w5_10 : WXi EE n0 rd (.reg r5_10) t m (Q := ⟨Q⟩) = (n0 ≤ m.next ∧ XWi EE m.next [(0, ⟨(some 11), .assign (.const (.int .i64 2)), 24, none⟩)] [] t (m.bump 1) (Q := ⟨fun _ => Q .normal⟩)) := by kernel_rfl
noncomputable def r5_11 : List SOp := [⟨(some 44), .fieldAddr 36 (.tmp 10) 0, 0, none⟩, ⟨(some 45), .load 3 (.tmp 44), 3, none⟩]
theorem w5_11 : WXi EE n0 rd (.reg r5_11) t m (Q := ⟨Q⟩) = (n0 ≤ m.next ∧ XWi EE m.next [(0, ⟨(some 44), .fieldAddr 36 (.tmp 10) 0, 0, none⟩), (1, ⟨(some 45), .load 3 (.tmp 44), 3, none⟩)] [] t (m.bump 2) (Q := ⟨fun _ => Q .normal⟩)) := by kernel_rfl
noncomputable def r5_12 : List SOp := [⟨(some 47), .binOp .eql 3 (.tmp 45) (.const (.int .i64 0)) 3, 4, none⟩, ⟨(some 46), .assign (.tmp 47), 4, none⟩]
theorem w5_12 : WXi EE n0 rd (.reg r5_12) t m (Q := ⟨Q⟩) = (n0 ≤ m.next ∧ XWi EE m.next [(0, ⟨(some 47), .binOp .eql 3 (.tmp 45) (.const (.int .i64 0)) 3, 4, none⟩), (1, ⟨(some 46), .assign (.tmp 47), 4, none⟩)] [] t (m.bump 2) (Q := ⟨fun _ => Q .normal⟩)) := by kernel_rfl
noncomputable def r5_13 : List SOp := [⟨(some 49), .move (.tmp 6), 23, none⟩, ⟨(some 50), .fieldAddr 36 (.tmp 10) 1, 0, none⟩, ⟨(some 51), .load 3 (.tmp 50), 3, none⟩, ⟨(some 52), .fieldAddr 36 (.tmp 10) 2, 0, none⟩, ⟨(some 53), .load 3 (.tmp 52), 3, none⟩, ⟨(some 54), .fieldAddr 36 (.tmp 10) 3, 0, none⟩, ⟨(some 55), .load 29 (.tmp 54), 29, none⟩, ⟨(some 56), .call ⟨.value (.func 10), #[(.tmp 49), (.tmp 51), (.tmp 53), (.tmp 55)], #[23, 3, 3, 29]⟩, 27, none⟩, ⟨(some 48), .move (.tmp 56), 27, none⟩, ⟨(some 57), .extract (.tmp 48) 0, 3, none⟩, ⟨(some 58), .extract (.tmp 48) 1, 24, none⟩, ⟨(some 11), .assign (.tmp 58), 24, none⟩]
theorem w5_13 : WXi EE n0 rd (.reg r5_13) t m (Q := ⟨Q⟩) = (n0 ≤ m.next ∧ XWi EE m.next [(0, ⟨(some 49), .move (.tmp 6), 23, none⟩), (1, ⟨(some 50), .fieldAddr 36 (.tmp 10) 1, 0, none⟩), (2, ⟨(some 51), .load 3 (.tmp 50), 3, none⟩), (3, ⟨(some 52), .fieldAddr 36 (.tmp 10) 2, 0, none⟩), (4, ⟨(some 53), .load 3 (.tmp 52), 3, none⟩), (5, ⟨(some 54), .fieldAddr 36 (.tmp 10) 3, 0, none⟩), (6, ⟨(some 55), .load 29 (.tmp 54), 29, none⟩), (7, ⟨(some 56), .call ⟨.value (.func 10), #[(.tmp 49), (.tmp 51), (.tmp 53), (.tmp 55)], #[23, 3, 3, 29]⟩, 27, none⟩), (8, ⟨(some 48), .move (.tmp 56), 27, none⟩), (9, ⟨(some 57), .extract (.tmp 48) 0, 3, none⟩), (10, ⟨(some 58), .extract (.tmp 48) 1, 24, none⟩), (11, ⟨(some 11), .assign (.tmp 58), 24, none⟩)] [] t (m.bump 12) (Q := ⟨fun _ => Q .normal⟩)) := by kernel_rfl
noncomputable def c5_14 : SCode := (.reg r5_13)
theorem w5_14 : WXi EE n0 rd c5_14 t m (Q := ⟨Q⟩) = WXi EE n0 rd (.reg r5_13) t m (Q := ⟨Q⟩) := rfl
noncomputable def r5_15 : List SOp := [⟨(some 60), .binOp .eql 3 (.tmp 45) (.const (.int .i64 1)) 3, 4, none⟩, ⟨(some 59), .assign (.tmp 60), 4, none⟩]
theorem w5_15 : WXi EE n0 rd (.reg r5_15) t m (Q := ⟨Q⟩) = (n0 ≤ m.next ∧ XWi EE m.next [(0, ⟨(some 60), .binOp .eql 3 (.tmp 45) (.const (.int .i64 1)) 3, 4, none⟩), (1, ⟨(some 59), .assign (.tmp 60), 4, none⟩)] [] t (m.bump 2) (Q := ⟨fun _ => Q .normal⟩)) := by kernel_rfl
noncomputable def r5_16 : List SOp := [⟨(some 62), .move (.tmp 6), 23, none⟩, ⟨(some 63), .fieldAddr 36 (.tmp 10) 1, 0, none⟩, ⟨(some 64), .load 3 (.tmp 63), 3, none⟩, ⟨(some 65), .fieldAddr 36 (.tmp 10) 3, 0, none⟩, ⟨(some 66), .load 29 (.tmp 65), 29, none⟩, ⟨(some 67), .call ⟨.value (.func 12), #[(.tmp 62), (.tmp 64), (.tmp 66)], #[23, 3, 29]⟩, 27, none⟩, ⟨(some 61), .move (.tmp 67), 27, none⟩, ⟨(some 68), .extract (.tmp 61) 0, 3, none⟩, ⟨(some 69), .extract (.tmp 61) 1, 24, none⟩, ⟨(some 11), .assign (.tmp 69), 24, none⟩]
theorem w5_16 : WXi EE n0 rd (.reg r5_16) t m (Q := ⟨Q⟩) = (n0 ≤ m.next ∧ XWi EE m.next [(0, ⟨(some 62), .move (.tmp 6), 23, none⟩), (1, ⟨(some 63), .fieldAddr 36 (.tmp 10) 1, 0, none⟩), (2, ⟨(some 64), .load 3 (.tmp 63), 3, none⟩), (3, ⟨(some 65), .fieldAddr 36 (.tmp 10) 3, 0, none⟩), (4, ⟨(some 66), .load 29 (.tmp 65), 29, none⟩), (5, ⟨(some 67), .call ⟨.value (.func 12), #[(.tmp 62), (.tmp 64), (.tmp 66)], #[23, 3, 29]⟩, 27, none⟩), (6, ⟨(some 61), .move (.tmp 67), 27, none⟩), (7, ⟨(some 68), .extract (.tmp 61) 0, 3, none⟩), (8, ⟨(some 69), .extract (.tmp 61) 1, 24, none⟩), (9, ⟨(some 11), .assign (.tmp 69), 24, none⟩)] [] t (m.bump 10) (Q := ⟨fun _ => Q .normal⟩)) := by kernel_rfl
noncomputable def c5_17 : SCode := (.reg r5_16)
theorem w5_17 : WXi EE n0 rd c5_17 t m (Q := ⟨Q⟩) = WXi EE n0 rd (.reg r5_16) t m (Q := ⟨Q⟩) := rfl
noncomputable def r5_18 : List SOp := [⟨(some 71), .binOp .eql 3 (.tmp 45) (.const (.int .i64 2)) 3, 4, none⟩, ⟨(some 70), .assign (.tmp 71), 4, none⟩]
theorem w5_18 : WXi EE n0 rd (.reg r5_18) t m (Q := ⟨Q⟩) = (n0 ≤ m.next ∧ XWi EE m.next [(0, ⟨(some 71), .binOp .eql 3 (.tmp 45) (.const (.int .i64 2)) 3, 4, none⟩), (1, ⟨(some 70), .assign (.tmp 71), 4, none⟩)] [] t (m.bump 2) (Q := ⟨fun _ => Q .normal⟩)) := by kernel_rfl
noncomputable def r5_19 : List SOp := [⟨(some 72), .move (.tmp 6), 23, none⟩, ⟨(some 73), .fieldAddr 36 (.tmp 10) 1, 0, none⟩, ⟨(some 74), .load 3 (.tmp 73), 3, none⟩, ⟨(some 75), .call ⟨.value (.func 18), #[(.tmp 72), (.tmp 74)], #[23, 3]⟩, 4, none⟩]
theorem w5_19 : WXi EE n0 rd (.reg r5_19) t m (Q := ⟨Q⟩) = (n0 ≤ m.next ∧ XWi EE m.next [(0, ⟨(some 72), .move (.tmp 6), 23, none⟩), (1, ⟨(some 73), .fieldAddr 36 (.tmp 10) 1, 0, none⟩), (2, ⟨(some 74), .load 3 (.tmp 73), 3, none⟩), (3, ⟨(some 75), .call ⟨.value (.func 18), #[(.tmp 72), (.tmp 74)], #[23, 3]⟩, 4, none⟩)] [] t (m.bump 4) (Q := ⟨fun _ => Q .normal⟩)) := by kernel_rfl
noncomputable def c5_20 : SCode := (.reg r5_19)
theorem w5_20 : WXi EE n0 rd c5_20 t m (Q := ⟨Q⟩) = WXi EE n0 rd (.reg r5_19) t m (Q := ⟨Q⟩) := rfl
noncomputable def r5_21 : List SOp := [⟨(some 77), .binOp .eql 3 (.tmp 45) (.const (.int .i64 3)) 3, 4, none⟩, ⟨(some 76), .assign (.tmp 77), 4, none⟩]
theorem w5_21 : WXi EE n0 rd (.reg r5_21) t m (Q := ⟨Q⟩) = (n0 ≤ m.next ∧ XWi EE m.next [(0, ⟨(some 77), .binOp .eql 3 (.tmp 45) (.const (.int .i64 3)) 3, 4, none⟩), (1, ⟨(some 76), .assign (.tmp 77), 4, none⟩)] [] t (m.bump 2) (Q := ⟨fun _ => Q .normal⟩)) := by kernel_rfl
noncomputable def r5_22 : List SOp := [⟨(some 78), .move (.tmp 6), 23, none⟩, ⟨(some 79), .fieldAddr 36 (.tmp 10) 2, 0, none⟩, ⟨(some 80), .load 3 (.tmp 79), 3, none⟩, ⟨(some 81), .call ⟨.value (.func 14), #[(.tmp 78), (.tmp 80)], #[23, 3]⟩, 4, none⟩]
theorem w5_22 : WXi EE n0 rd (.reg r5_22) t m (Q := ⟨Q⟩) = (n0 ≤ m.next ∧ XWi EE m.next [(0, ⟨(some 78), .move (.tmp 6), 23, none⟩), (1, ⟨(some 79), .fieldAddr 36 (.tmp 10) 2, 0, none⟩), (2, ⟨(some 80), .load 3 (.tmp 79), 3, none⟩), (3, ⟨(some 81), .call ⟨.value (.func 14), #[(.tmp 78), (.tmp 80)], #[23, 3]⟩, 4, none⟩)] [] t (m.bump 4) (Q := ⟨fun _ => Q .normal⟩)) := by kernel_rfl
noncomputable def c5_23 : SCode := (.reg r5_22)
theorem w5_23 : WXi EE n0 rd c5_23 t m (Q := ⟨Q⟩) = WXi EE n0 rd (.reg r5_22) t m (Q := ⟨Q⟩) := rfl
noncomputable def c5_24 : SCode := (.seq (.reg r5_21) (.cond (.tmp 76) c5_23 .skip))
theorem w5_24 : WXi EE n0 rd c5_24 t m (Q := ⟨Q⟩) = WXi EE n0 rd (.seq (.reg r5_21) (.cond (.tmp 76) c5_23 .skip)) t m (Q := ⟨Q⟩) := rfl
noncomputable def c5_25 : SCode := (.seq (.reg r5_18) (.cond (.tmp 70) c5_20 c5_24))
theorem w5_25 : WXi EE n0 rd c5_25 t m (Q := ⟨Q⟩) = WXi EE n0 rd (.seq (.reg r5_18) (.cond (.tmp 70) c5_20 c5_24)) t m (Q := ⟨Q⟩) := rfl
noncomputable def c5_26 : SCode := (.seq (.reg r5_15) (.cond (.tmp 59) c5_17 c5_25))
theorem w5_26 : WXi EE n0 rd c5_26 t m (Q := ⟨Q⟩) = WXi EE n0 rd (.seq (.reg r5_15) (.cond (.tmp 59) c5_17 c5_25)) t m (Q := ⟨Q⟩) := rfl
noncomputable def c5_27 : SCode := (.seq (.reg r5_12) (.cond (.tmp 46) c5_14 c5_26))
theorem w5_27 : WXi EE n0 rd c5_27 t m (Q := ⟨Q⟩) = WXi EE n0 rd (.seq (.reg r5_12) (.cond (.tmp 46) c5_14 c5_26)) t m (Q := ⟨Q⟩) := rfl
noncomputable def r5_28 : List SOp := [⟨(some 82), .move (.tmp 11), 24, none⟩, ⟨(some 83), .binOp .eql 24 (.tmp 82) (.const (.int .i64 0)) 24, 4, none⟩, ⟨(some 84), .move (.tmp 83), 4, none⟩, ⟨(some 85), .fieldAddr 36 (.tmp 10) 1, 0, (some (84, true))⟩, ⟨(some 86), .load 3 (.tmp 85), 3, (some (84, true))⟩, ⟨(some 87), .binOp .geq 3 (.tmp 86) (.const (.int .i64 0)) 3, 4, (some (84, true))⟩, ⟨(some 88), .pick (.tmp 84) (.tmp 87) (.const (.bool false)), 4, none⟩, ⟨(some 89), .move (.tmp 88), 4, none⟩, ⟨(some 90), .fieldAddr 36 (.tmp 10) 1, 0, (some (89, true))⟩, ⟨(some 91), .load 3 (.tmp 90), 3, (some (89, true))⟩, ⟨(some 92), .binOp .lss 3 (.tmp 91) (.const (.int .i64 100)) 3, 4, (some (89, true))⟩, ⟨(some 93), .pick (.tmp 89) (.tmp 92) (.const (.bool false)), 4, none⟩]
theorem w5_28 : WXi EE n0 rd (.reg r5_28) t m (Q := ⟨Q⟩) = (n0 ≤ m.next ∧ XWi EE m.next [(0, ⟨(some 82), .move (.tmp 11), 24, none⟩), (1, ⟨(some 83), .binOp .eql 24 (.tmp 82) (.const (.int .i64 0)) 24, 4, none⟩), (2, ⟨(some 84), .move (.tmp 83), 4, none⟩), (3, ⟨(some 85), .fieldAddr 36 (.tmp 10) 1, 0, (some (84, true))⟩), (4, ⟨(some 86), .load 3 (.tmp 85), 3, (some (84, true))⟩), (5, ⟨(some 87), .binOp .geq 3 (.tmp 86) (.const (.int .i64 0)) 3, 4, (some (84, true))⟩), (6, ⟨(some 88), .pick (.tmp 84) (.tmp 87) (.const (.bool false)), 4, none⟩), (7, ⟨(some 89), .move (.tmp 88), 4, none⟩), (8, ⟨(some 90), .fieldAddr 36 (.tmp 10) 1, 0, (some (89, true))⟩), (9, ⟨(some 91), .load 3 (.tmp 90), 3, (some (89, true))⟩), (10, ⟨(some 92), .binOp .lss 3 (.tmp 91) (.const (.int .i64 100)) 3, 4, (some (89, true))⟩), (11, ⟨(some 93), .pick (.tmp 89) (.tmp 92) (.const (.bool false)), 4, none⟩)] [] t (m.bump 12) (Q := ⟨fun _ => Q .normal⟩)) := by kernel_rfl
noncomputable def r5_29 : List SOp := [⟨(some 94), .fieldAddr 36 (.tmp 10) 1, 0, none⟩, ⟨(some 95), .load 3 (.tmp 94), 3, none⟩, ⟨(some 96), .fieldAddr 36 (.tmp 10) 3, 0, none⟩, ⟨(some 97), .load 29 (.tmp 96), 29, none⟩, ⟨(some 98), .indexAddr 43 (.tmp 8) (.tmp 95), 0, none⟩, ⟨none, .store 29 (.tmp 98) (.tmp 97), 0, none⟩]
theorem w5_29 : WXi EE n0 rd (.reg r5_29) t m (Q := ⟨Q⟩) = (n0 ≤ m.next ∧ XWi EE m.next [(0, ⟨(some 94), .fieldAddr 36 (.tmp 10) 1, 0, none⟩), (1, ⟨(some 95), .load 3 (.tmp 94), 3, none⟩), (2, ⟨(some 96), .fieldAddr 36 (.tmp 10) 3, 0, none⟩), (3, ⟨(some 97), .load 29 (.tmp 96), 29, none⟩), (4, ⟨(some 98), .indexAddr 43 (.tmp 8) (.tmp 95), 0, none⟩), (5, ⟨none, .store 29 (.tmp 98) (.tmp 97), 0, none⟩)] [] t (m.bump 6) (Q := ⟨fun _ => Q .normal⟩)) := by kernel_rfl
noncomputable def c5_30 : SCode := (.reg r5_29)
theorem w5_30 : WXi EE n0 rd c5_30 t m (Q := ⟨Q⟩) = WXi EE n0 rd (.reg r5_29) t m (Q := ⟨Q⟩) := rfl
noncomputable def r5_31 : List SOp := [⟨(some 12), .assign (.const (.int .i64 0)), 3, none⟩]
theorem w5_31 : WXi EE n0 rd (.reg r5_31) t m (Q := ⟨Q⟩) = (n0 ≤ m.next ∧ XWi EE m.next [(0, ⟨(some 12), .assign (.const (.int .i64 0)), 3, none⟩)] [] t (m.bump 1) (Q := ⟨fun _ => Q .normal⟩)) := by kernel_rfl
noncomputable def r5_32 : List SOp := [⟨(some 13), .assign (.const (.int .i64 0)), 3, none⟩]
theorem w5_32 : WXi EE n0 rd (.reg r5_32) t m (Q := ⟨Q⟩) = (n0 ≤ m.next ∧ XWi EE m.next [(0, ⟨(some 13), .assign (.const (.int .i64 0)), 3, none⟩)] [] t (m.bump 1) (Q := ⟨fun _ => Q .normal⟩)) := by kernel_rfl
noncomputable def r5_33 : List SOp := [⟨(some 99), .move (.tmp 13), 3, none⟩, ⟨(some 100), .move (.tmp 0), 3, none⟩, ⟨(some 101), .binOp .lss 3 (.tmp 99) (.tmp 100) 3, 4, none⟩]
theorem w5_33 : WXi EE n0 rd (.reg r5_33) t m (Q := ⟨Q⟩) = (n0 ≤ m.next ∧ XWi EE m.next [(0, ⟨(some 99), .move (.tmp 13), 3, none⟩), (1, ⟨(some 100), .move (.tmp 0), 3, none⟩), (2, ⟨(some 101), .binOp .lss 3 (.tmp 99) (.tmp 100) 3, 4, none⟩)] [] t (m.bump 3) (Q := ⟨fun _ => Q .normal⟩)) := by kernel_rfl
noncomputable def r5_34 : List SOp := [⟨(some 104), .move (.tmp 6), 23, none⟩, ⟨(some 105), .move (.tmp 13), 3, none⟩, ⟨(some 106), .call ⟨.value (.func 11), #[(.tmp 104), (.tmp 105)], #[23, 3]⟩, 30, none⟩, ⟨(some 14), .assign (.tmp 106), 30, none⟩]
theorem w5_34 : WXi EE n0 rd (.reg r5_34) t m (Q := ⟨Q⟩) = (n0 ≤ m.next ∧ XWi EE m.next [(0, ⟨(some 104), .move (.tmp 6), 23, none⟩), (1, ⟨(some 105), .move (.tmp 13), 3, none⟩), (2, ⟨(some 106), .call ⟨.value (.func 11), #[(.tmp 104), (.tmp 105)], #[23, 3]⟩, 30, none⟩), (3, ⟨(some 14), .assign (.tmp 106), 30, none⟩)] [] t (m.bump 4) (Q := ⟨fun _ => Q .normal⟩)) := by kernel_rfl
noncomputable def r5_35 : List SOp := [⟨(some 107), .move (.tmp 12), 3, none⟩, ⟨(some 108), .move (.tmp 14), 30, none⟩, ⟨(some 109), .call ⟨.builtin .len, #[(.tmp 108)], #[30]⟩, 3, none⟩, ⟨(some 110), .binOp .add 3 (.tmp 107) (.tmp 109) 3, 3, none⟩, ⟨(some 12), .assign (.tmp 110), 3, none⟩]
theorem w5_35 : WXi EE n0 rd (.reg r5_35) t m (Q := ⟨Q⟩) = (n0 ≤ m.next ∧ XWi EE m.next [(0, ⟨(some 107), .move (.tmp 12), 3, none⟩), (1, ⟨(some 108), .move (.tmp 14), 30, none⟩), (2, ⟨(some 109), .call ⟨.builtin .len, #[(.tmp 108)], #[30]⟩, 3, none⟩), (3, ⟨(some 110), .binOp .add 3 (.tmp 107) (.tmp 109) 3, 3, none⟩), (4, ⟨(some 12), .assign (.tmp 110), 3, none⟩)] [] t (m.bump 5) (Q := ⟨fun _ => Q .normal⟩)) := by kernel_rfl
noncomputable def r5_36 : List SOp := [⟨(some 15), .assign (.const (.int .i64 0)), 3, none⟩]
theorem w5_36 : WXi EE n0 rd (.reg r5_36) t m (Q := ⟨Q⟩) = (n0 ≤ m.next ∧ XWi EE m.next [(0, ⟨(some 15), .assign (.const (.int .i64 0)), 3, none⟩)] [] t (m.bump 1) (Q := ⟨fun _ => Q .normal⟩)) := by kernel_rfl
noncomputable def r5_37 : List SOp := [⟨(some 111), .move (.tmp 15), 3, none⟩, ⟨(some 112), .move (.tmp 14), 30, none⟩, ⟨(some 113), .call ⟨.builtin .len, #[(.tmp 112)], #[30]⟩, 3, none⟩, ⟨(some 114), .binOp .lss 3 (.tmp 111) (.tmp 113) 3, 4, none⟩]
theorem w5_37 : WXi EE n0 rd (.reg r5_37) t m (Q := ⟨Q⟩) = (n0 ≤ m.next ∧ XWi EE m.next [(0, ⟨(some 111), .move (.tmp 15), 3, none⟩), (1, ⟨(some 112), .move (.tmp 14), 30, none⟩), (2, ⟨(some 113), .call ⟨.builtin .len, #[(.tmp 112)], #[30]⟩, 3, none⟩), (3, ⟨(some 114), .binOp .lss 3 (.tmp 111) (.tmp 113) 3, 4, none⟩)] [] t (m.bump 4) (Q := ⟨fun _ => Q .normal⟩)) := by kernel_rfl
noncomputable def r5_38 : List SOp := [⟨(some 117), .move (.tmp 6), 23, none⟩, ⟨(some 118), .move (.tmp 14), 30, none⟩, ⟨(some 119), .move (.tmp 15), 3, none⟩, ⟨(some 120), .indexAddr 30 (.tmp 118) (.tmp 119), 0, none⟩, ⟨(some 121), .load 3 (.tmp 120), 3, none⟩, ⟨(some 122), .call ⟨.value (.func 16), #[(.tmp 117), (.tmp 121)], #[23, 3]⟩, 3, none⟩, ⟨(some 123), .move (.tmp 13), 3, none⟩, ⟨(some 124), .binOp .neq 3 (.tmp 122) (.tmp 123) 3, 4, none⟩, ⟨(some 125), .move (.tmp 124), 4, none⟩, ⟨(some 126), .move (.tmp 14), 30, (some (125, false))⟩, ⟨(some 127), .move (.tmp 15), 3, (some (125, false))⟩, ⟨(some 128), .indexAddr 30 (.tmp 126) (.tmp 127), 0, (some (125, false))⟩, ⟨(some 129), .load 3 (.tmp 128), 3, (some (125, false))⟩, ⟨(some 130), .binOp .gtr 3 (.tmp 129) (.const (.int .i64 0)) 3, 4, (some (125, false))⟩, ⟨(some 131), .move (.tmp 130), 4, (some (125, false))⟩, ⟨(some 132), .move (.tmp 14), 30, (some (131, true))⟩, ⟨(some 133), .move (.tmp 15), 3, (some (131, true))⟩, ⟨(some 134), .indexAddr 30 (.tmp 132) (.tmp 133), 0, (some (131, true))⟩, ⟨(some 135), .load 3 (.tmp 134), 3, (some (131, true))⟩, ⟨(some 136), .binOp .lss 3 (.tmp 135) (.const (.int .i64 100)) 3, 4, (some (131, true))⟩, ⟨(some 137), .pick (.tmp 131) (.tmp 136) (.const (.bool false)), 4, (some (125, false))⟩, ⟨(some 138), .move (.tmp 137), 4, (some (125, false))⟩, ⟨(some 139), .move (.tmp 14), 30, (some (138, true))⟩, ⟨(some 140), .move (.tmp 15), 3, (some (138, true))⟩, ⟨(some 141), .indexAddr 30 (.tmp 139) (.tmp 140), 0, (some (138, true))⟩, ⟨(some 142), .load 3 (.tmp 141), 3, (some (138, true))⟩, ⟨(some 143), .indexAddr 43 (.tmp 8) (.tmp 142), 0, (some (138, true))⟩, ⟨(some 144), .load 29 (.tmp 143), 29, (some (138, true))⟩, ⟨(some 145), .move (.tmp 13), 3, (some (138, true))⟩, ⟨(some 146), .binOp .shr 29 (.tmp 144) (.tmp 145) 3, 29, (some (138, true))⟩, ⟨(some 147), .binOp .and 29 (.tmp 146) (.const (.int .u32 1)) 29, 29, (some (138, true))⟩, ⟨(some 148), .binOp .eql 29 (.tmp 147) (.const (.int .u32 0)) 29, 4, (some (138, true))⟩, ⟨(some 149), .pick (.tmp 138) (.tmp 148) (.const (.bool false)), 4, (some (125, false))⟩, ⟨(some 150), .pick (.tmp 125) (.const (.bool true)) (.tmp 149), 4, none⟩]
theorem w5_38 : WXi EE n0 rd (.reg r5_38) t m (Q := ⟨Q⟩) = (n0 ≤ m.next ∧ XWi EE m.next [(0, ⟨(some 117), .move (.tmp 6), 23, none⟩), (1, ⟨(some 118), .move (.tmp 14), 30, none⟩), (2, ⟨(some 119), .move (.tmp 15), 3, none⟩), (3, ⟨(some 120), .indexAddr 30 (.tmp 118) (.tmp 119), 0, none⟩), (4, ⟨(some 121), .load 3 (.tmp 120), 3, none⟩), (5, ⟨(some 122), .call ⟨.value (.func 16), #[(.tmp 117), (.tmp 121)], #[23, 3]⟩, 3, none⟩), (6, ⟨(some 123), .move (.tmp 13), 3, none⟩), (7, ⟨(some 124), .binOp .neq 3 (.tmp 122) (.tmp 123) 3, 4, none⟩), (8, ⟨(some 125), .move (.tmp 124), 4, none⟩), (9, ⟨(some 126), .move (.tmp 14), 30, (some (125, false))⟩), (10, ⟨(some 127), .move (.tmp 15), 3, (some (125, false))⟩), (11, ⟨(some 128), .indexAddr 30 (.tmp 126) (.tmp 127), 0, (some (125, false))⟩), (12, ⟨(some 129), .load 3 (.tmp 128), 3, (some (125, false))⟩), (13, ⟨(some 130), .binOp .gtr 3 (.tmp 129) (.const (.int .i64 0)) 3, 4, (some (125, false))⟩), (14, ⟨(some 131), .move (.tmp 130), 4, (some (125, false))⟩), (15, ⟨(some 132), .move (.tmp 14), 30, (some (131, true))⟩), (16, ⟨(some 133), .move (.tmp 15), 3, (some (131, true))⟩), (17, ⟨(some 134), .indexAddr 30 (.tmp 132) (.tmp 133), 0, (some (131, true))⟩), (18, ⟨(some 135), .load 3 (.tmp 134), 3, (some (131, true))⟩), (19, ⟨(some 136), .binOp .lss 3 (.tmp 135) (.const (.int .i64 100)) 3, 4, (some (131, true))⟩), (20, ⟨(some 137), .pick (.tmp 131) (.tmp 136) (.const (.bool false)), 4, (some (125, false))⟩), (21, ⟨(some 138), .move (.tmp 137), 4, (some (125, false))⟩), (22, ⟨(some 139), .move (.tmp 14), 30, (some (138, true))⟩), (23, ⟨(some 140), .move (.tmp 15), 3, (some (138, true))⟩), (24, ⟨(some 141), .indexAddr 30 (.tmp 139) (.tmp 140), 0, (some (138, true))⟩), (25, ⟨(some 142), .load 3 (.tmp 141), 3, (some (138, true))⟩), (26, ⟨(some 143), .indexAddr 43 (.tmp 8) (.tmp 142), 0, (some (138, true))⟩), (27, ⟨(some 144), .load 29 (.tmp 143), 29, (some (138, true))⟩), (28, ⟨(some 145), .move (.tmp 13), 3, (some (138, true))⟩), (29, ⟨(some 146), .binOp .shr 29 (.tmp 144) (.tmp 145) 3, 29, (some (138, true))⟩), (30, ⟨(some 147), .binOp .and 29 (.tmp 146) (.const (.int .u32 1)) 29, 29, (some (138, true))⟩), (31, ⟨(some 148), .binOp .eql 29 (.tmp 147) (.const (.int .u32 0)) 29, 4, (some (138, true))⟩), (32, ⟨(some 149), .pick (.tmp 138) (.tmp 148) (.const (.bool false)), 4, (some (125, false))⟩), (33, ⟨(some 150), .pick (.tmp 125) (.const (.bool true)) (.tmp 149), 4, none⟩)] [] t (m.bump 34) (Q := ⟨fun _ => Q .normal⟩)) := by kernel_rfl
noncomputable def r5_39 : List SOp := [⟨(some 4), .assign (.const (.bool false)), 4, none⟩]
theorem w5_39 : WXi EE n0 rd (.reg r5_39) t m (Q := ⟨Q⟩) = (n0 ≤ m.next ∧ XWi EE m.next [(0, ⟨(some 4), .assign (.const (.bool false)), 4, none⟩)] [] t (m.bump 1) (Q := ⟨fun _ => Q .normal⟩)) := by kernel_rfl
noncomputable def c5_40 : SCode := (.seq (.reg r5_39) .ret)
theorem w5_40 : WXi EE n0 rd c5_40 t m (Q := ⟨Q⟩) = WXi EE n0 rd (.seq (.reg r5_39) .ret) t m (Q := ⟨Q⟩) := rfl
noncomputable def c5_41 : SCode := (.seq (.reg r5_38) (.cond (.tmp 150) c5_40 .skip))
theorem w5_41 : WXi EE n0 rd c5_41 t m (Q := ⟨Q⟩) = WXi EE n0 rd (.seq (.reg r5_38) (.cond (.tmp 150) c5_40 .skip)) t m (Q := ⟨Q⟩) := rfl
noncomputable def r5_42 : List SOp := [⟨(some 115), .move (.tmp 15), 3, none⟩, ⟨(some 116), .binOp .add 3 (.tmp 115) (.const (.int .i64 1)) 3, 3, none⟩, ⟨(some 15), .assign (.tmp 116), 3, none⟩]
theorem w5_42 : WXi EE n0 rd (.reg r5_42) t m (Q := ⟨Q⟩) = (n0 ≤ m.next ∧ XWi EE m.next [(0, ⟨(some 115), .move (.tmp 15), 3, none⟩), (1, ⟨(some 116), .binOp .add 3 (.tmp 115) (.const (.int .i64 1)) 3, 3, none⟩), (2, ⟨(some 15), .assign (.tmp 116), 3, none⟩)] [] t (m.bump 3) (Q := ⟨fun _ => Q .normal⟩)) := by kernel_rfl
noncomputable def c5_43 : SCode := (.seq (.seq (.reg r5_37) (.cond (.tmp 114) .skip (.exit 5))) (.seq (.block 6 c5_41) (.reg r5_42)))
theorem w5_43 : WXi EE n0 rd c5_43 t m (Q := ⟨Q⟩) = WXi EE n0 rd (.seq (.seq (.reg r5_37) (.cond (.tmp 114) .skip (.exit 5))) (.seq (.block 6 c5_41) (.reg r5_42))) t m (Q := ⟨Q⟩) := rfl
noncomputable def c5_44 : SCode := (.loop c5_43)
theorem w5_44 : WXi EE n0 rd c5_44 t m (Q := ⟨Q⟩) = WXi EE n0 rd (.loop c5_43) t m (Q := ⟨Q⟩) := rfl
noncomputable def c5_45 : SCode := (.seq (.reg r5_34) (.seq (.reg r5_35) (.seq (.reg r5_36) (.block 5 c5_44))))
theorem w5_45 : WXi EE n0 rd c5_45 t m (Q := ⟨Q⟩) = WXi EE n0 rd (.seq (.reg r5_34) (.seq (.reg r5_35) (.seq (.reg r5_36) (.block 5 c5_44)))) t m (Q := ⟨Q⟩) := rfl
noncomputable def r5_46 : List SOp := [⟨(some 102), .move (.tmp 13), 3, none⟩, ⟨(some 103), .binOp .add 3 (.tmp 102) (.const (.int .i64 1)) 3, 3, none⟩, ⟨(some 13), .assign (.tmp 103), 3, none⟩]
theorem w5_46 : WXi EE n0 rd (.reg r5_46) t m (Q := ⟨Q⟩) = (n0 ≤ m.next ∧ XWi EE m.next [(0, ⟨(some 102), .move (.tmp 13), 3, none⟩), (1, ⟨(some 103), .binOp .add 3 (.tmp 102) (.const (.int .i64 1)) 3, 3, none⟩), (2, ⟨(some 13), .assign (.tmp 103), 3, none⟩)] [] t (m.bump 3) (Q := ⟨fun _ => Q .normal⟩)) := by kernel_rfl
noncomputable def c5_47 : SCode := (.seq (.seq (.reg r5_33) (.cond (.tmp 101) .skip (.exit 3))) (.seq (.block 4 c5_45) (.reg r5_46)))
theorem w5_47 : WXi EE n0 rd c5_47 t m (Q := ⟨Q⟩) = WXi EE n0 rd (.seq (.seq (.reg r5_33) (.cond (.tmp 101) .skip (.exit 3))) (.seq (.block 4 c5_45) (.reg r5_46))) t m (Q := ⟨Q⟩) := rfl
noncomputable def c5_48 : SCode := (.loop c5_47)
theorem w5_48 : WXi EE n0 rd c5_48 t m (Q := ⟨Q⟩) = WXi EE n0 rd (.loop c5_47) t m (Q := ⟨Q⟩) := rfl
noncomputable def r5_49 : List SOp := [⟨(some 151), .move (.tmp 12), 3, none⟩, ⟨(some 152), .move (.tmp 6), 23, none⟩, ⟨(some 153), .call ⟨.value (.func 17), #[(.tmp 152)], #[23]⟩, 30, none⟩, ⟨(some 154), .call ⟨.builtin .len, #[(.tmp 153)], #[30]⟩, 3, none⟩, ⟨(some 155), .binOp .neq 3 (.tmp 151) (.tmp 154) 3, 4, none⟩]
theorem w5_49 : WXi EE n0 rd (.reg r5_49) t m (Q := ⟨Q⟩) = (n0 ≤ m.next ∧ XWi EE m.next [(0, ⟨(some 151), .move (.tmp 12), 3, none⟩), (1, ⟨(some 152), .move (.tmp 6), 23, none⟩), (2, ⟨(some 153), .call ⟨.value (.func 17), #[(.tmp 152)], #[23]⟩, 30, none⟩), (3, ⟨(some 154), .call ⟨.builtin .len, #[(.tmp 153)], #[30]⟩, 3, none⟩), (4, ⟨(some 155), .binOp .neq 3 (.tmp 151) (.tmp 154) 3, 4, none⟩)] [] t (m.bump 5) (Q := ⟨fun _ => Q .normal⟩)) := by kernel_rfl
noncomputable def r5_50 : List SOp := [⟨(some 4), .assign (.const (.bool false)), 4, none⟩]
theorem w5_50 : WXi EE n0 rd (.reg r5_50) t m (Q := ⟨Q⟩) = (n0 ≤ m.next ∧ XWi EE m.next [(0, ⟨(some 4), .assign (.const (.bool false)), 4, none⟩)] [] t (m.bump 1) (Q := ⟨fun _ => Q .normal⟩)) := by kernel_rfl
noncomputable def c5_51 : SCode := (.seq (.reg r5_50) .ret)
theorem w5_51 : WXi EE n0 rd c5_51 t m (Q := ⟨Q⟩) = WXi EE n0 rd (.seq (.reg r5_50) .ret) t m (Q := ⟨Q⟩) := rfl
noncomputable def c5_52 : SCode := (.seq (.reg r5_9) (.seq (.reg r5_10) (.seq (.seq (.reg r5_11) (.block 2 c5_27)) (.seq (.seq (.reg r5_28) (.cond (.tmp 93) c5_30 .skip)) (.seq (.reg r5_31) (.seq (.seq (.reg r5_32) (.block 3 c5_48)) (.seq (.reg r5_49) (.cond (.tmp 155) c5_51 .skip))))))))
theorem w5_52 : WXi EE n0 rd c5_52 t m (Q := ⟨Q⟩) = WXi EE n0 rd (.seq (.reg r5_9) (.seq (.reg r5_10) (.seq (.seq (.reg r5_11) (.block 2 c5_27)) (.seq (.seq (.reg r5_28) (.cond (.tmp 93) c5_30 .skip)) (.seq (.reg r5_31) (.seq (.seq (.reg r5_32) (.block 3 c5_48)) (.seq (.reg r5_49) (.cond (.tmp 155) c5_51 .skip)))))))) t m (Q := ⟨Q⟩) := rfl
noncomputable def r5_53 : List SOp := [⟨(some 38), .move (.tmp 9), 3, none⟩, ⟨(some 39), .binOp .add 3 (.tmp 38) (.const (.int .i64 1)) 3, 3, none⟩, ⟨(some 9), .assign (.tmp 39), 3, none⟩]
theorem w5_53 : WXi EE n0 rd (.reg r5_53) t m (Q := ⟨Q⟩) = (n0 ≤ m.next ∧ XWi EE m.next [(0, ⟨(some 38), .move (.tmp 9), 3, none⟩), (1, ⟨(some 39), .binOp .add 3 (.tmp 38) (.const (.int .i64 1)) 3, 3, none⟩), (2, ⟨(some 9), .assign (.tmp 39), 3, none⟩)] [] t (m.bump 3) (Q := ⟨fun _ => Q .normal⟩)) := by kernel_rfl
noncomputable def c5_54 : SCode := (.seq (.seq (.reg r5_8) (.cond (.tmp 37) .skip (.exit 0))) (.seq (.block 1 c5_52) (.reg r5_53)))
theorem w5_54 : WXi EE n0 rd c5_54 t m (Q := ⟨Q⟩) = WXi EE n0 rd (.seq (.seq (.reg r5_8) (.cond (.tmp 37) .skip (.exit 0))) (.seq (.block 1 c5_52) (.reg r5_53))) t m (Q := ⟨Q⟩) := rfl
noncomputable def c5_55 : SCode := (.loop c5_54)
theorem w5_55 : WXi EE n0 rd c5_55 t m (Q := ⟨Q⟩) = WXi EE n0 rd (.loop c5_54) t m (Q := ⟨Q⟩) := rfl
noncomputable def r5_56 : List SOp := [⟨(some 156), .move (.tmp 5), 4, none⟩, ⟨(some 4), .assign (.tmp 156), 4, none⟩]
theorem w5_56 : WXi EE n0 rd (.reg r5_56) t m (Q := ⟨Q⟩) = (n0 ≤ m.next ∧ XWi EE m.next [(0, ⟨(some 156), .move (.tmp 5), 4, none⟩), (1, ⟨(some 4), .assign (.tmp 156), 4, none⟩)] [] t (m.bump 2) (Q := ⟨fun _ => Q .normal⟩)) := by kernel_rfl
noncomputable def c5 : SCode := (.seq (.reg r5_0) (.seq (.reg r5_1) (.seq (.reg r5_2) (.seq (.seq (.reg r5_3) (.cond (.tmp 32) c5_5 .skip)) (.seq (.reg r5_6) (.seq (.seq (.reg r5_7) (.block 0 c5_55)) (.seq (.reg r5_56) .ret)))))))
theorem w5 : WXi EE n0 rd c5 t m (Q := ⟨Q⟩) = WXi EE n0 rd (.seq (.reg r5_0) (.seq (.reg r5_1) (.seq (.reg r5_2) (.seq (.seq (.reg r5_3) (.cond (.tmp 32) c5_5 .skip)) (.seq (.reg r5_6) (.seq (.seq (.reg r5_7) (.block 0 c5_55)) (.seq (.reg r5_56) .ret))))))) t m (Q := ⟨Q⟩) := rfl
noncomputable def f5 : SFunc := ⟨157, [.tmp 4], c5⟩
-- RULES 5 w5_0, w5_1, w5_2, w5_3, w5_4, w5_5, w5_6, w5_7, w5_8, w5_9, w5_10, w5_11, w5_12, w5_13, w5_14, w5_15, w5_16, w5_17, w5_18, w5_19, w5_20, w5_21, w5_22, w5_23, w5_24, w5_25, w5_26, w5_27, w5_28, w5_29, w5_30, w5_31, w5_32, w5_33, w5_34, w5_35, w5_36, w5_37, w5_38, w5_39, w5_40, w5_41, w5_42, w5_43, w5_44, w5_45, w5_46, w5_47, w5_48, w5_49, w5_50, w5_51, w5_52, w5_53, w5_54, w5_55, w5_56
theorem fn5 : fnOf EE.P 5 = some f5 := by kernel_rfl
/-! types -/
theorem lay_36 : lay EE.P 36 = some (some 4) := by kernel_rfl
theorem sz_36 : szOf EE.P 36 = some 4 := by kernel_rfl
theorem zero_43 : zeroL EE.P 43 = some [(.int .u32 0), (.int .u32 0), (.int .u32 0), (.int .u32 0), (.int .u32 0), (.int .u32 0), (.int .u32 0), (.int .u32 0), (.int .u32 0), (.int .u32 0), (.int .u32 0), (.int .u32 0), (.int .u32 0), (.int .u32 0), (.int .u32 0), (.int .u32 0), (.int .u32 0), (.int .u32 0), (.int .u32 0), (.int .u32 0), (.int .u32 0), (.int .u32 0), (.int .u32 0), (.int .u32 0), (.int .u32 0), (.int .u32 0), (.int .u32 0), (.int .u32 0), (.int .u32 0), (.int .u32 0), (.int .u32 0), (.int .u32 0), (.int .u32 0), (.int .u32 0), (.int .u32 0), (.int .u32 0), (.int .u32 0), (.int .u32 0), (.int .u32 0), (.int .u32 0), (.int .u32 0), (.int .u32 0), (.int .u32 0), (.int .u32 0), (.int .u32 0), (.int .u32 0), (.int .u32 0), (.int .u32 0), (.int .u32 0), (.int .u32 0), (.int .u32 0), (.int .u32 0), (.int .u32 0), (.int .u32 0), (.int .u32 0), (.int .u32 0), (.int .u32 0), (.int .u32 0), (.int .u32 0), (.int .u32 0), (.int .u32 0), (.int .u32 0), (.int .u32 0), (.int .u32 0), (.int .u32 0), (.int .u32 0), (.int .u32 0), (.int .u32 0), (.int .u32 0), (.int .u32 0), (.int .u32 0), (.int .u32 0), (.int .u32 0), (.int .u32 0), (.int .u32 0), (.int .u32 0), (.int .u32 0), (.int .u32 0), (.int .u32 0), (.int .u32 0), (.int .u32 0), (.int .u32 0), (.int .u32 0), (.int .u32 0), (.int .u32 0), (.int .u32 0), (.int .u32 0), (.int .u32 0), (.int .u32 0), (.int .u32 0), (.int .u32 0), (.int .u32 0), (.int .u32 0), (.int .u32 0), (.int .u32 0), (.int .u32 0), (.int .u32 0), (.int .u32 0), (.int .u32 0), (.int .u32 0)] := by kernel_rfl
theorem zero_36 : zeroL EE.P 36 = some [(.int .i64 0), (.int .i64 0), (.int .i64 0), (.int .u32 0)] := by kernel_rfl
theorem fo_36_0 : fieldOff EE.P 36 0 = some 0 := by kernel_rfl
theorem fo_36_1 : fieldOff EE.P 36 1 = some 1 := by kernel_rfl
theorem fo_36_2 : fieldOff EE.P 36 2 = some 2 := by kernel_rfl
theorem fo_36_3 : fieldOff EE.P 36 3 = some 3 := by kernel_rfl
theorem und_34 : EE.P.underlying 34 = some (.slice 36) := by kernel_rfl
theorem und_43 : EE.P.underlying 43 = some (.array 100 29) := by kernel_rfl
theorem ca_14 : callable EE.P 14 = true := by kernel_rfl
theorem ca_17 : callable EE.P 17 = true := by kernel_rfl
-- FACTS lay_30, lay_3, lay_23, lay_29, lay_36, sz_30, sz_3, sz_23, sz_29, sz_36, zero_3, zero_43, zero_36, fo_57_1, fo_57_0, fo_36_0, fo_36_1, fo_36_2, fo_36_3, und_24, und_3, und_29, und_55, und_23, und_30, und_5, und_67, und_34, und_43, ca_9, ca_10, ca_16, ca_29, ca_24, ca_30, ca_31, ca_32, ca_33, ca_18, ca_34, ca_38, ca_39, ca_42, ca_8, ca_11, ca_12, ca_37, ca_36, ca_35, ca_43, ca_44, ca_46, ca_48, ca_14, ca_17
end
end Go.Ab
