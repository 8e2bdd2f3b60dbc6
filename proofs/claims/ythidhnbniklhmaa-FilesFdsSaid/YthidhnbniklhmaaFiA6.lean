/- Files: the code of one law, as data; facts on its types. -/
import Derived.Test.YthidhnbniklhmaaFiA
namespace Go.Ab
open Go.Proofs
noncomputable section
variable {n0 : Nat} {rd : Option Nat} {t : List Value} {m : Mem} {Q : Exit → List Value → Mem → Prop}
/-! (*carryall/files.Files).may -/
-- RULES 34 w34_0, w34_1, w34_2, w34_3, w34_4, w34_5, w34_6, w34_7, w34_8, w34_9
/-! (*carryall/files.Files).Copy -/
-- RULES 12 w12_0, w12_1, w12_2, w12_3, w12_4, w12_5
/-! (*carryall/files.Files).Get -/
-- RULES 13 w13_0, w13_1, w13_2, w13_3, w13_4
/-! (*carryall/files.Files).Refs -/
-- RULES 14 w14_0, w14_1, w14_2, w14_3, w14_4
/-! (*carryall/files.Files).Drop -/
-- RULES 15 w15_0, w15_1, w15_2, w15_3, w15_4, w15_5, w15_6, w15_7, w15_8, w15_9, w15_10, w15_11, w15_12
/-! (*carryall/files.Files).Share -/
-- RULES 16 w16_0, w16_1, w16_2, w16_3, w16_4, w16_5
/-! (*carryall/files.Files).Open -/
-- RULES 21 w21_0, w21_1, w21_2, w21_3, w21_4, w21_5, w21_6, w21_7, w21_8, w21_9, w21_10, w21_11, w21_12, w21_13, w21_14, w21_15, w21_16, w21_17, w21_18, w21_19, w21_20
/-! (*carryall/files.Files).Free -/
-- RULES 20 w20_0, w20_1, w20_2, w20_3, w20_4
/-! (*carryall/files.Files).Used -/
-- RULES 19 w19_0, w19_1, w19_2, w19_3, w19_4, w19_5, w19_6, w19_7, w19_8, w19_9
/-! (*carryall/files.Files).used -/
-- RULES 43 w43_0, w43_1
/-! (*carryall/files.Files).used$1 -/
-- RULES 49 w49_0, w49_1, w49_2, w49_3, w49_4, w49_5, w49_6, w49_7, w49_8, w49_9
/-! carryall/files.number -/
-- RULES 46 w46_0, w46_1
/-! (*carryall/files.Fds).Put -/
-- RULES 33 w33_0, w33_1, w33_2, w33_3, w33_4, w33_5, w33_6, w33_7, w33_8, w33_9, w33_10, w33_11, w33_12, w33_13, w33_14
/-! (*carryall/files.Fds).Set -/
-- RULES 28 w28_0, w28_1, w28_2, w28_3, w28_4, w28_5, w28_6, w28_7, w28_8, w28_9, w28_10, w28_11, w28_12, w28_13, w28_14
/-! (*carryall/files.Fds).Get -/
-- RULES 23 w23_0, w23_1, w23_2, w23_3, w23_4
/-! (*carryall/files.Fds).Close -/
-- RULES 26 w26_0, w26_1, w26_2, w26_3, w26_4, w26_5, w26_6, w26_7, w26_8, w26_9, w26_10, w26_11
/-! (*carryall/files.Fds).Dup -/
-- RULES 25 w25_0, w25_1, w25_2, w25_3, w25_4, w25_5, w25_6, w25_7, w25_8, w25_9, w25_10
/-! (*carryall/files.Fds).List -/
-- RULES 29 w29_0, w29_1, w29_2, w29_3, w29_4, w29_5, w29_6, w29_7, w29_8, w29_9, w29_10, w29_11, w29_12
/-! (*carryall/files.Fds).Len -/
-- RULES 24 w24_0, w24_1
/-! (*carryall/files.Fds).Copy -/
-- RULES 27 w27_0, w27_1, w27_2, w27_3, w27_4, w27_5
/-! slices.DeleteFunc[[]int,int] -/
-- RULES 44 w44_0, w44_1, w44_2, w44_3, w44_4, w44_5, w44_6, w44_7, w44_8, w44_9, w44_10, w44_11, w44_12, w44_13, w44_14, w44_15, w44_16, w44_17
/-! (*carryall/files.Fds).Len$1 -/
-- RULES 45 w45_0, w45_1
/-! slices.Index[[]int,int] -/
-- RULES 47 w47_0, w47_1, w47_2, w47_3, w47_4, w47_5, w47_6, w47_7, w47_8, w47_9, w47_10, w47_11
/-! slices.IndexFunc[[]int,int] -/
-- RULES 50 w50_0, w50_1, w50_2, w50_3, w50_4, w50_5, w50_6, w50_7, w50_8, w50_9, w50_10, w50_11
/-! (*carryall/carryallref10.Files).Is -/
-- RULES 30 w30_0, w30_1
/-! (*carryall/carryallref10.Files).Open -/
-- RULES 36 w36_0, w36_1, w36_2, w36_3, w36_4, w36_5, w36_6, w36_7, w36_8, w36_9, w36_10, w36_11, w36_12, w36_13, w36_14, w36_15
/-! (*carryall/carryallref10.Files).Share -/
-- RULES 37 w37_0, w37_1, w37_2, w37_3, w37_4, w37_5, w37_6
/-! (*carryall/carryallref10.Files).Drop -/
-- RULES 38 w38_0, w38_1, w38_2, w38_3, w38_4, w38_5, w38_6
/-! (*carryall/carryallref10.Files).Used -/
-- RULES 31 w31_0, w31_1, w31_2, w31_3, w31_4, w31_5, w31_6, w31_7, w31_8, w31_9, w31_10, w31_11
/-! carryall/carryallref10.New -/
-- RULES 35 w35_0, w35_1
/-! (*carryall/carryallref10.Fds).Get -/
-- RULES 32 w32_0, w32_1, w32_2, w32_3, w32_4
/-! (*carryall/carryallref10.Fds).set -/
-- RULES 48 w48_0, w48_1, w48_2, w48_3
/-! (*carryall/carryallref10.Fds).Put -/
-- RULES 39 w39_0, w39_1, w39_2, w39_3, w39_4, w39_5, w39_6, w39_7, w39_8, w39_9, w39_10, w39_11, w39_12, w39_13, w39_14
/-! (*carryall/carryallref10.Fds).Set -/
-- RULES 40 w40_0, w40_1, w40_2, w40_3, w40_4, w40_5, w40_6, w40_7, w40_8
/-! (*carryall/carryallref10.Fds).Close -/
-- RULES 41 w41_0, w41_1, w41_2, w41_3, w41_4, w41_5, w41_6
/-! (*carryall/carryallref10.Fds).Dup -/
-- RULES 42 w42_0, w42_1, w42_2, w42_3, w42_4, w42_5
/-! carryall/carryallref04.Same -/
-- RULES 22 w22_0, w22_1, w22_2, w22_3, w22_4, w22_5, w22_6, w22_7, w22_8, w22_9, w22_10, w22_11, w22_12, w22_13
/-! carryall/carryalllaw10.fresh -/
-- RULES 17 w17_0, w17_1
/-! (*carryall/carryalllaw10.both).do -/
-- RULES 18 w18_0, w18_1, w18_2, w18_3, w18_4, w18_5, w18_6, w18_7, w18_8, w18_9, w18_10, w18_11, w18_12, w18_13, w18_14, w18_15, w18_16, w18_17, w18_18, w18_19, w18_20, w18_21, w18_22, w18_23, w18_24, w18_25, w18_26, w18_27, w18_28, w18_29, w18_30, w18_31, w18_32, w18_33, w18_34, w18_35, w18_36, w18_37, w18_38, w18_39, w18_40, w18_41, w18_42, w18_43, w18_44, w18_45, w18_46, w18_47, w18_48, w18_49, w18_50, w18_51
/-! carryall/carryalllaw10.grown -/
-- RULES 11 w11_0, w11_1, w11_2, w11_3, w11_4, w11_5, w11_6, w11_7, w11_8, w11_9, w11_10
/-! carryall/carryalllaw10.alive -/
-- RULES 10 w10_0, w10_1, w10_2, w10_3, w10_4, w10_5, w10_6, w10_7, w10_8
/-! carryall/carryalllaw10.FilesFds -/
noncomputable def r6_0 : List SOp := [⟨(some 6), .assign (.const (.bool false)), 4, none⟩]
theorem w6_0 : WXi EE n0 rd (.reg r6_0) t m (Q := ⟨Q⟩) = (n0 ≤ m.next ∧ XWi EE m.next [(0, ⟨(some 6), .assign (.const (.bool false)), 4, none⟩)] [] t (m.bump 1) (Q := ⟨fun _ => Q .normal⟩)) := by kernel_rfl
noncomputable def r6_1 : List SOp := [⟨(some 21), .call ⟨.value (.func 10), #[], #[]⟩, 4, none⟩, ⟨(some 7), .assign (.tmp 21), 4, none⟩]
theorem w6_1 : WXi EE n0 rd (.reg r6_1) t m (Q := ⟨Q⟩) = (n0 ≤ m.next ∧ XWi EE m.next [(0, ⟨(some 21), .call ⟨.value (.func 10), #[], #[]⟩, 4, none⟩), (1, ⟨(some 7), .assign (.tmp 21), 4, none⟩)] [] t (m.bump 2) (Q := ⟨fun _ => Q .normal⟩)) := by kernel_rfl
noncomputable def r6_2 : List SOp := [⟨(some 22), .move (.tmp 0), 22, none⟩, ⟨(some 23), .call ⟨.builtin .len, #[(.tmp 22)], #[22]⟩, 3, none⟩, ⟨(some 24), .binOp .gtr 3 (.tmp 23) (.const (.int .i64 200)) 3, 4, none⟩, ⟨(some 25), .move (.tmp 24), 4, none⟩, ⟨(some 26), .move (.tmp 7), 4, (some (25, false))⟩, ⟨(some 27), .unOp .not 4 (.tmp 26), 4, (some (25, false))⟩, ⟨(some 28), .pick (.tmp 25) (.const (.bool true)) (.tmp 27), 4, none⟩]
theorem w6_2 : WXi EE n0 rd (.reg r6_2) t m (Q := ⟨Q⟩) = (n0 ≤ m.next ∧ XWi EE m.next [(0, ⟨(some 22), .move (.tmp 0), 22, none⟩), (1, ⟨(some 23), .call ⟨.builtin .len, #[(.tmp 22)], #[22]⟩, 3, none⟩), (2, ⟨(some 24), .binOp .gtr 3 (.tmp 23) (.const (.int .i64 200)) 3, 4, none⟩), (3, ⟨(some 25), .move (.tmp 24), 4, none⟩), (4, ⟨(some 26), .move (.tmp 7), 4, (some (25, false))⟩), (5, ⟨(some 27), .unOp .not 4 (.tmp 26), 4, (some (25, false))⟩), (6, ⟨(some 28), .pick (.tmp 25) (.const (.bool true)) (.tmp 27), 4, none⟩)] [] t (m.bump 7) (Q := ⟨fun _ => Q .normal⟩)) := by kernel_rfl
noncomputable def r6_3 : List SOp := [⟨(some 29), .move (.tmp 7), 4, none⟩, ⟨(some 6), .assign (.tmp 29), 4, none⟩]
theorem w6_3 : WXi EE n0 rd (.reg r6_3) t m (Q := ⟨Q⟩) = (n0 ≤ m.next ∧ XWi EE m.next [(0, ⟨(some 29), .move (.tmp 7), 4, none⟩), (1, ⟨(some 6), .assign (.tmp 29), 4, none⟩)] [] t (m.bump 2) (Q := ⟨fun _ => Q .normal⟩)) := by kernel_rfl
noncomputable def c6_4 : SCode := (.seq (.reg r6_3) .ret)
theorem w6_4 : WXi EE n0 rd c6_4 t m (Q := ⟨Q⟩) = WXi EE n0 rd (.seq (.reg r6_3) .ret) t m (Q := ⟨Q⟩) := rfl
noncomputable def r6_5 : List SOp := [⟨(some 30), .move (.tmp 0), 22, none⟩, ⟨(some 31), .call ⟨.value (.func 11), #[(.tmp 30)], #[22]⟩, 24, none⟩, ⟨(some 8), .assign (.tmp 31), 24, none⟩]
theorem w6_5 : WXi EE n0 rd (.reg r6_5) t m (Q := ⟨Q⟩) = (n0 ≤ m.next ∧ XWi EE m.next [(0, ⟨(some 30), .move (.tmp 0), 22, none⟩), (1, ⟨(some 31), .call ⟨.value (.func 11), #[(.tmp 30)], #[22]⟩, 24, none⟩), (2, ⟨(some 8), .assign (.tmp 31), 24, none⟩)] [] t (m.bump 3) (Q := ⟨fun _ => Q .normal⟩)) := by kernel_rfl
noncomputable def r6_6 : List SOp := [⟨(some 32), .move (.tmp 8), 24, none⟩, ⟨(some 33), .nilCheck (.tmp 32), 0, none⟩, ⟨(some 34), .fieldAddr 31 (.tmp 33) 1, 0, none⟩, ⟨(some 35), .load 27 (.tmp 34), 27, none⟩, ⟨(some 36), .call ⟨.value (.func 27), #[(.tmp 35)], #[27]⟩, 27, none⟩, ⟨(some 9), .assign (.tmp 36), 27, none⟩]
theorem w6_6 : WXi EE n0 rd (.reg r6_6) t m (Q := ⟨Q⟩) = (n0 ≤ m.next ∧ XWi EE m.next [(0, ⟨(some 32), .move (.tmp 8), 24, none⟩), (1, ⟨(some 33), .nilCheck (.tmp 32), 0, none⟩), (2, ⟨(some 34), .fieldAddr 31 (.tmp 33) 1, 0, none⟩), (3, ⟨(some 35), .load 27 (.tmp 34), 27, none⟩), (4, ⟨(some 36), .call ⟨.value (.func 27), #[(.tmp 35)], #[27]⟩, 27, none⟩), (5, ⟨(some 9), .assign (.tmp 36), 27, none⟩)] [] t (m.bump 6) (Q := ⟨fun _ => Q .normal⟩)) := by kernel_rfl
noncomputable def r6_7 : List SOp := [⟨(some 37), .move (.tmp 1), 5, none⟩, ⟨(some 38), .convert 5 3 (.tmp 37), 3, none⟩, ⟨(some 39), .binOp .rem 3 (.tmp 38) (.const (.int .i64 8)) 3, 3, none⟩, ⟨(some 40), .move (.tmp 2), 5, none⟩, ⟨(some 41), .convert 5 3 (.tmp 40), 3, none⟩, ⟨(some 42), .binOp .rem 3 (.tmp 41) (.const (.int .i64 65)) 3, 3, none⟩, ⟨(some 10), .assign (.tmp 39), 3, none⟩, ⟨(some 11), .assign (.tmp 42), 3, none⟩]
theorem w6_7 : WXi EE n0 rd (.reg r6_7) t m (Q := ⟨Q⟩) = (n0 ≤ m.next ∧ XWi EE m.next [(0, ⟨(some 37), .move (.tmp 1), 5, none⟩), (1, ⟨(some 38), .convert 5 3 (.tmp 37), 3, none⟩), (2, ⟨(some 39), .binOp .rem 3 (.tmp 38) (.const (.int .i64 8)) 3, 3, none⟩), (3, ⟨(some 40), .move (.tmp 2), 5, none⟩), (4, ⟨(some 41), .convert 5 3 (.tmp 40), 3, none⟩), (5, ⟨(some 42), .binOp .rem 3 (.tmp 41) (.const (.int .i64 65)) 3, 3, none⟩), (6, ⟨(some 10), .assign (.tmp 39), 3, none⟩), (7, ⟨(some 11), .assign (.tmp 42), 3, none⟩)] [] t (m.bump 8) (Q := ⟨fun _ => Q .normal⟩)) := by kernel_rfl
noncomputable def r6_8 : List SOp := [⟨(some 43), .move (.tmp 9), 27, none⟩, ⟨(some 44), .move (.tmp 10), 3, none⟩, ⟨(some 45), .call ⟨.value (.func 23), #[(.tmp 43), (.tmp 44)], #[27, 3]⟩, 3, none⟩, ⟨(some 12), .assign (.tmp 45), 3, none⟩]
theorem w6_8 : WXi EE n0 rd (.reg r6_8) t m (Q := ⟨Q⟩) = (n0 ≤ m.next ∧ XWi EE m.next [(0, ⟨(some 43), .move (.tmp 9), 27, none⟩), (1, ⟨(some 44), .move (.tmp 10), 3, none⟩), (2, ⟨(some 45), .call ⟨.value (.func 23), #[(.tmp 43), (.tmp 44)], #[27, 3]⟩, 3, none⟩), (3, ⟨(some 12), .assign (.tmp 45), 3, none⟩)] [] t (m.bump 4) (Q := ⟨fun _ => Q .normal⟩)) := by kernel_rfl
noncomputable def r6_9 : List SOp := [⟨(some 46), .move (.tmp 11), 3, none⟩, ⟨(some 13), .assign (.const (.int .i64 0)), 38, none⟩, ⟨(some 14), .assign (.tmp 46), 3, none⟩]
theorem w6_9 : WXi EE n0 rd (.reg r6_9) t m (Q := ⟨Q⟩) = (n0 ≤ m.next ∧ XWi EE m.next [(0, ⟨(some 46), .move (.tmp 11), 3, none⟩), (1, ⟨(some 13), .assign (.const (.int .i64 0)), 38, none⟩), (2, ⟨(some 14), .assign (.tmp 46), 3, none⟩)] [] t (m.bump 3) (Q := ⟨fun _ => Q .normal⟩)) := by kernel_rfl
noncomputable def r6_10 : List SOp := [⟨(some 47), .move (.tmp 11), 3, none⟩, ⟨(some 48), .binOp .eql 3 (.tmp 47) (.const (.int .i64 64)) 3, 4, none⟩]
theorem w6_10 : WXi EE n0 rd (.reg r6_10) t m (Q := ⟨Q⟩) = (n0 ≤ m.next ∧ XWi EE m.next [(0, ⟨(some 47), .move (.tmp 11), 3, none⟩), (1, ⟨(some 48), .binOp .eql 3 (.tmp 47) (.const (.int .i64 64)) 3, 4, none⟩)] [] t (m.bump 2) (Q := ⟨fun _ => Q .normal⟩)) := by kernel_rfl
noncomputable def r6_11 : List SOp := [⟨(some 14), .assign (.const (.int .i64 (-1))), 3, none⟩]
theorem w6_11 : WXi EE n0 rd (.reg r6_11) t m (Q := ⟨Q⟩) = (n0 ≤ m.next ∧ XWi EE m.next [(0, ⟨(some 14), .assign (.const (.int .i64 (-1))), 3, none⟩)] [] t (m.bump 1) (Q := ⟨fun _ => Q .normal⟩)) := by kernel_rfl
noncomputable def r6_12 : List SOp := [⟨(some 50), .move (.tmp 8), 24, none⟩, ⟨(some 51), .nilCheck (.tmp 50), 0, none⟩, ⟨(some 52), .fieldAddr 31 (.tmp 51) 1, 0, none⟩, ⟨(some 53), .load 27 (.tmp 52), 27, none⟩, ⟨(some 54), .move (.tmp 10), 3, none⟩, ⟨(some 55), .call ⟨.value (.func 26), #[(.tmp 53), (.tmp 54)], #[27, 3]⟩, 50, none⟩, ⟨(some 49), .move (.tmp 55), 50, none⟩, ⟨(some 56), .extract (.tmp 49) 0, 3, none⟩, ⟨(some 57), .extract (.tmp 49) 1, 38, none⟩, ⟨(some 15), .assign (.tmp 56), 3, none⟩, ⟨(some 16), .assign (.tmp 57), 38, none⟩]
theorem w6_12 : WXi EE n0 rd (.reg r6_12) t m (Q := ⟨Q⟩) = (n0 ≤ m.next ∧ XWi EE m.next [(0, ⟨(some 50), .move (.tmp 8), 24, none⟩), (1, ⟨(some 51), .nilCheck (.tmp 50), 0, none⟩), (2, ⟨(some 52), .fieldAddr 31 (.tmp 51) 1, 0, none⟩), (3, ⟨(some 53), .load 27 (.tmp 52), 27, none⟩), (4, ⟨(some 54), .move (.tmp 10), 3, none⟩), (5, ⟨(some 55), .call ⟨.value (.func 26), #[(.tmp 53), (.tmp 54)], #[27, 3]⟩, 50, none⟩), (6, ⟨(some 49), .move (.tmp 55), 50, none⟩), (7, ⟨(some 56), .extract (.tmp 49) 0, 3, none⟩), (8, ⟨(some 57), .extract (.tmp 49) 1, 38, none⟩), (9, ⟨(some 15), .assign (.tmp 56), 3, none⟩), (10, ⟨(some 16), .assign (.tmp 57), 38, none⟩)] [] t (m.bump 11) (Q := ⟨fun _ => Q .normal⟩)) := by kernel_rfl
noncomputable def r6_13 : List SOp := [⟨(some 58), .move (.tmp 16), 38, none⟩, ⟨(some 13), .assign (.tmp 58), 38, none⟩]
theorem w6_13 : WXi EE n0 rd (.reg r6_13) t m (Q := ⟨Q⟩) = (n0 ≤ m.next ∧ XWi EE m.next [(0, ⟨(some 58), .move (.tmp 16), 38, none⟩), (1, ⟨(some 13), .assign (.tmp 58), 38, none⟩)] [] t (m.bump 2) (Q := ⟨fun _ => Q .normal⟩)) := by kernel_rfl
noncomputable def r6_14 : List SOp := [⟨(some 59), .move (.tmp 16), 38, none⟩, ⟨(some 60), .binOp .eql 38 (.tmp 59) (.const (.int .i64 0)) 38, 4, none⟩, ⟨(some 61), .move (.tmp 60), 4, none⟩, ⟨(some 62), .move (.tmp 15), 3, (some (61, true))⟩, ⟨(some 63), .move (.tmp 12), 3, (some (61, true))⟩, ⟨(some 64), .binOp .neq 3 (.tmp 62) (.tmp 63) 3, 4, (some (61, true))⟩, ⟨(some 65), .pick (.tmp 61) (.tmp 64) (.const (.bool false)), 4, none⟩]
theorem w6_14 : WXi EE n0 rd (.reg r6_14) t m (Q := ⟨Q⟩) = (n0 ≤ m.next ∧ XWi EE m.next [(0, ⟨(some 59), .move (.tmp 16), 38, none⟩), (1, ⟨(some 60), .binOp .eql 38 (.tmp 59) (.const (.int .i64 0)) 38, 4, none⟩), (2, ⟨(some 61), .move (.tmp 60), 4, none⟩), (3, ⟨(some 62), .move (.tmp 15), 3, (some (61, true))⟩), (4, ⟨(some 63), .move (.tmp 12), 3, (some (61, true))⟩), (5, ⟨(some 64), .binOp .neq 3 (.tmp 62) (.tmp 63) 3, 4, (some (61, true))⟩), (6, ⟨(some 65), .pick (.tmp 61) (.tmp 64) (.const (.bool false)), 4, none⟩)] [] t (m.bump 7) (Q := ⟨fun _ => Q .normal⟩)) := by kernel_rfl
noncomputable def r6_15 : List SOp := [⟨(some 6), .assign (.const (.bool false)), 4, none⟩]
theorem w6_15 : WXi EE n0 rd (.reg r6_15) t m (Q := ⟨Q⟩) = (n0 ≤ m.next ∧ XWi EE m.next [(0, ⟨(some 6), .assign (.const (.bool false)), 4, none⟩)] [] t (m.bump 1) (Q := ⟨fun _ => Q .normal⟩)) := by kernel_rfl
noncomputable def c6_16 : SCode := (.seq (.reg r6_15) .ret)
theorem w6_16 : WXi EE n0 rd c6_16 t m (Q := ⟨Q⟩) = WXi EE n0 rd (.seq (.reg r6_15) .ret) t m (Q := ⟨Q⟩) := rfl
noncomputable def c6_17 : SCode := (.seq (.reg r6_11) (.seq (.reg r6_12) (.seq (.reg r6_13) (.seq (.reg r6_14) (.cond (.tmp 65) c6_16 .skip)))))
theorem w6_17 : WXi EE n0 rd c6_17 t m (Q := ⟨Q⟩) = WXi EE n0 rd (.seq (.reg r6_11) (.seq (.reg r6_12) (.seq (.reg r6_13) (.seq (.reg r6_14) (.cond (.tmp 65) c6_16 .skip))))) t m (Q := ⟨Q⟩) := rfl
noncomputable def r6_18 : List SOp := [⟨(some 66), .move (.tmp 8), 24, none⟩, ⟨(some 67), .nilCheck (.tmp 66), 0, none⟩, ⟨(some 68), .fieldAddr 31 (.tmp 67) 1, 0, none⟩, ⟨(some 69), .load 27 (.tmp 68), 27, none⟩, ⟨(some 70), .move (.tmp 10), 3, none⟩, ⟨(some 71), .move (.tmp 11), 3, none⟩, ⟨(some 72), .call ⟨.value (.func 28), #[(.tmp 69), (.tmp 70), (.tmp 71)], #[27, 3, 3]⟩, 38, none⟩, ⟨(some 13), .assign (.tmp 72), 38, none⟩]
theorem w6_18 : WXi EE n0 rd (.reg r6_18) t m (Q := ⟨Q⟩) = (n0 ≤ m.next ∧ XWi EE m.next [(0, ⟨(some 66), .move (.tmp 8), 24, none⟩), (1, ⟨(some 67), .nilCheck (.tmp 66), 0, none⟩), (2, ⟨(some 68), .fieldAddr 31 (.tmp 67) 1, 0, none⟩), (3, ⟨(some 69), .load 27 (.tmp 68), 27, none⟩), (4, ⟨(some 70), .move (.tmp 10), 3, none⟩), (5, ⟨(some 71), .move (.tmp 11), 3, none⟩), (6, ⟨(some 72), .call ⟨.value (.func 28), #[(.tmp 69), (.tmp 70), (.tmp 71)], #[27, 3, 3]⟩, 38, none⟩), (7, ⟨(some 13), .assign (.tmp 72), 38, none⟩)] [] t (m.bump 8) (Q := ⟨fun _ => Q .normal⟩)) := by kernel_rfl
noncomputable def c6_19 : SCode := (.reg r6_18)
theorem w6_19 : WXi EE n0 rd c6_19 t m (Q := ⟨Q⟩) = WXi EE n0 rd (.reg r6_18) t m (Q := ⟨Q⟩) := rfl
noncomputable def r6_20 : List SOp := [⟨(some 73), .move (.tmp 13), 38, none⟩, ⟨(some 74), .binOp .eql 38 (.tmp 73) (.const (.int .i64 0)) 38, 4, none⟩, ⟨(some 75), .move (.tmp 12), 3, none⟩, ⟨(some 76), .binOp .lss 3 (.tmp 75) (.const (.int .i64 0)) 3, 4, none⟩, ⟨(some 77), .move (.tmp 14), 3, none⟩, ⟨(some 78), .binOp .geq 3 (.tmp 77) (.const (.int .i64 0)) 3, 4, none⟩, ⟨(some 79), .binOp .eql 4 (.tmp 76) (.tmp 78) 4, 4, none⟩, ⟨(some 80), .binOp .neq 4 (.tmp 74) (.tmp 79) 4, 4, none⟩]
theorem w6_20 : WXi EE n0 rd (.reg r6_20) t m (Q := ⟨Q⟩) = (n0 ≤ m.next ∧ XWi EE m.next [(0, ⟨(some 73), .move (.tmp 13), 38, none⟩), (1, ⟨(some 74), .binOp .eql 38 (.tmp 73) (.const (.int .i64 0)) 38, 4, none⟩), (2, ⟨(some 75), .move (.tmp 12), 3, none⟩), (3, ⟨(some 76), .binOp .lss 3 (.tmp 75) (.const (.int .i64 0)) 3, 4, none⟩), (4, ⟨(some 77), .move (.tmp 14), 3, none⟩), (5, ⟨(some 78), .binOp .geq 3 (.tmp 77) (.const (.int .i64 0)) 3, 4, none⟩), (6, ⟨(some 79), .binOp .eql 4 (.tmp 76) (.tmp 78) 4, 4, none⟩), (7, ⟨(some 80), .binOp .neq 4 (.tmp 74) (.tmp 79) 4, 4, none⟩)] [] t (m.bump 8) (Q := ⟨fun _ => Q .normal⟩)) := by kernel_rfl
noncomputable def r6_21 : List SOp := [⟨(some 6), .assign (.const (.bool false)), 4, none⟩]
theorem w6_21 : WXi EE n0 rd (.reg r6_21) t m (Q := ⟨Q⟩) = (n0 ≤ m.next ∧ XWi EE m.next [(0, ⟨(some 6), .assign (.const (.bool false)), 4, none⟩)] [] t (m.bump 1) (Q := ⟨fun _ => Q .normal⟩)) := by kernel_rfl
noncomputable def c6_22 : SCode := (.seq (.reg r6_21) .ret)
theorem w6_22 : WXi EE n0 rd c6_22 t m (Q := ⟨Q⟩) = WXi EE n0 rd (.seq (.reg r6_21) .ret) t m (Q := ⟨Q⟩) := rfl
noncomputable def r6_23 : List SOp := [⟨(some 81), .move (.tmp 13), 38, none⟩, ⟨(some 82), .binOp .neq 38 (.tmp 81) (.const (.int .i64 0)) 38, 4, none⟩]
theorem w6_23 : WXi EE n0 rd (.reg r6_23) t m (Q := ⟨Q⟩) = (n0 ≤ m.next ∧ XWi EE m.next [(0, ⟨(some 81), .move (.tmp 13), 38, none⟩), (1, ⟨(some 82), .binOp .neq 38 (.tmp 81) (.const (.int .i64 0)) 38, 4, none⟩)] [] t (m.bump 2) (Q := ⟨fun _ => Q .normal⟩)) := by kernel_rfl
noncomputable def r6_24 : List SOp := [⟨(some 83), .move (.tmp 12), 3, none⟩, ⟨(some 14), .assign (.tmp 83), 3, none⟩]
theorem w6_24 : WXi EE n0 rd (.reg r6_24) t m (Q := ⟨Q⟩) = (n0 ≤ m.next ∧ XWi EE m.next [(0, ⟨(some 83), .move (.tmp 12), 3, none⟩), (1, ⟨(some 14), .assign (.tmp 83), 3, none⟩)] [] t (m.bump 2) (Q := ⟨fun _ => Q .normal⟩)) := by kernel_rfl
noncomputable def c6_25 : SCode := (.reg r6_24)
theorem w6_25 : WXi EE n0 rd c6_25 t m (Q := ⟨Q⟩) = WXi EE n0 rd (.reg r6_24) t m (Q := ⟨Q⟩) := rfl
noncomputable def r6_26 : List SOp := [⟨(some 84), .move (.tmp 8), 24, none⟩, ⟨(some 85), .nilCheck (.tmp 84), 0, none⟩, ⟨(some 86), .fieldAddr 31 (.tmp 85) 1, 0, none⟩, ⟨(some 87), .load 27 (.tmp 86), 27, none⟩, ⟨(some 88), .call ⟨.value (.func 29), #[(.tmp 87)], #[27]⟩, 47, none⟩, ⟨(some 17), .assign (.tmp 88), 47, none⟩]
theorem w6_26 : WXi EE n0 rd (.reg r6_26) t m (Q := ⟨Q⟩) = (n0 ≤ m.next ∧ XWi EE m.next [(0, ⟨(some 84), .move (.tmp 8), 24, none⟩), (1, ⟨(some 85), .nilCheck (.tmp 84), 0, none⟩), (2, ⟨(some 86), .fieldAddr 31 (.tmp 85) 1, 0, none⟩), (3, ⟨(some 87), .load 27 (.tmp 86), 27, none⟩), (4, ⟨(some 88), .call ⟨.value (.func 29), #[(.tmp 87)], #[27]⟩, 47, none⟩), (5, ⟨(some 17), .assign (.tmp 88), 47, none⟩)] [] t (m.bump 6) (Q := ⟨fun _ => Q .normal⟩)) := by kernel_rfl
noncomputable def r6_27 : List SOp := [⟨(some 18), .assign (.const (.int .i64 0)), 3, none⟩]
theorem w6_27 : WXi EE n0 rd (.reg r6_27) t m (Q := ⟨Q⟩) = (n0 ≤ m.next ∧ XWi EE m.next [(0, ⟨(some 18), .assign (.const (.int .i64 0)), 3, none⟩)] [] t (m.bump 1) (Q := ⟨fun _ => Q .normal⟩)) := by kernel_rfl
noncomputable def r6_28 : List SOp := [⟨(some 19), .assign (.const (.int .i64 0)), 3, none⟩]
theorem w6_28 : WXi EE n0 rd (.reg r6_28) t m (Q := ⟨Q⟩) = (n0 ≤ m.next ∧ XWi EE m.next [(0, ⟨(some 19), .assign (.const (.int .i64 0)), 3, none⟩)] [] t (m.bump 1) (Q := ⟨fun _ => Q .normal⟩)) := by kernel_rfl
noncomputable def r6_29 : List SOp := [⟨(some 89), .move (.tmp 19), 3, none⟩, ⟨(some 90), .binOp .lss 3 (.tmp 89) (.const (.int .i64 8)) 3, 4, none⟩]
theorem w6_29 : WXi EE n0 rd (.reg r6_29) t m (Q := ⟨Q⟩) = (n0 ≤ m.next ∧ XWi EE m.next [(0, ⟨(some 89), .move (.tmp 19), 3, none⟩), (1, ⟨(some 90), .binOp .lss 3 (.tmp 89) (.const (.int .i64 8)) 3, 4, none⟩)] [] t (m.bump 2) (Q := ⟨fun _ => Q .normal⟩)) := by kernel_rfl
noncomputable def r6_30 : List SOp := [⟨(some 93), .move (.tmp 9), 27, none⟩, ⟨(some 94), .move (.tmp 19), 3, none⟩, ⟨(some 95), .call ⟨.value (.func 23), #[(.tmp 93), (.tmp 94)], #[27, 3]⟩, 3, none⟩, ⟨(some 20), .assign (.tmp 95), 3, none⟩]
theorem w6_30 : WXi EE n0 rd (.reg r6_30) t m (Q := ⟨Q⟩) = (n0 ≤ m.next ∧ XWi EE m.next [(0, ⟨(some 93), .move (.tmp 9), 27, none⟩), (1, ⟨(some 94), .move (.tmp 19), 3, none⟩), (2, ⟨(some 95), .call ⟨.value (.func 23), #[(.tmp 93), (.tmp 94)], #[27, 3]⟩, 3, none⟩), (3, ⟨(some 20), .assign (.tmp 95), 3, none⟩)] [] t (m.bump 4) (Q := ⟨fun _ => Q .normal⟩)) := by kernel_rfl
noncomputable def r6_31 : List SOp := [⟨(some 96), .move (.tmp 19), 3, none⟩, ⟨(some 97), .move (.tmp 10), 3, none⟩, ⟨(some 98), .binOp .eql 3 (.tmp 96) (.tmp 97) 3, 4, none⟩]
theorem w6_31 : WXi EE n0 rd (.reg r6_31) t m (Q := ⟨Q⟩) = (n0 ≤ m.next ∧ XWi EE m.next [(0, ⟨(some 96), .move (.tmp 19), 3, none⟩), (1, ⟨(some 97), .move (.tmp 10), 3, none⟩), (2, ⟨(some 98), .binOp .eql 3 (.tmp 96) (.tmp 97) 3, 4, none⟩)] [] t (m.bump 3) (Q := ⟨fun _ => Q .normal⟩)) := by kernel_rfl
noncomputable def r6_32 : List SOp := [⟨(some 99), .move (.tmp 14), 3, none⟩, ⟨(some 20), .assign (.tmp 99), 3, none⟩]
theorem w6_32 : WXi EE n0 rd (.reg r6_32) t m (Q := ⟨Q⟩) = (n0 ≤ m.next ∧ XWi EE m.next [(0, ⟨(some 99), .move (.tmp 14), 3, none⟩), (1, ⟨(some 20), .assign (.tmp 99), 3, none⟩)] [] t (m.bump 2) (Q := ⟨fun _ => Q .normal⟩)) := by kernel_rfl
noncomputable def c6_33 : SCode := (.reg r6_32)
theorem w6_33 : WXi EE n0 rd c6_33 t m (Q := ⟨Q⟩) = WXi EE n0 rd (.reg r6_32) t m (Q := ⟨Q⟩) := rfl
noncomputable def r6_34 : List SOp := [⟨(some 100), .move (.tmp 20), 3, none⟩, ⟨(some 101), .binOp .geq 3 (.tmp 100) (.const (.int .i64 0)) 3, 4, none⟩]
theorem w6_34 : WXi EE n0 rd (.reg r6_34) t m (Q := ⟨Q⟩) = (n0 ≤ m.next ∧ XWi EE m.next [(0, ⟨(some 100), .move (.tmp 20), 3, none⟩), (1, ⟨(some 101), .binOp .geq 3 (.tmp 100) (.const (.int .i64 0)) 3, 4, none⟩)] [] t (m.bump 2) (Q := ⟨fun _ => Q .normal⟩)) := by kernel_rfl
noncomputable def r6_35 : List SOp := [⟨(some 102), .move (.tmp 18), 3, none⟩, ⟨(some 103), .binOp .add 3 (.tmp 102) (.const (.int .i64 1)) 3, 3, none⟩, ⟨(some 18), .assign (.tmp 103), 3, none⟩]
theorem w6_35 : WXi EE n0 rd (.reg r6_35) t m (Q := ⟨Q⟩) = (n0 ≤ m.next ∧ XWi EE m.next [(0, ⟨(some 102), .move (.tmp 18), 3, none⟩), (1, ⟨(some 103), .binOp .add 3 (.tmp 102) (.const (.int .i64 1)) 3, 3, none⟩), (2, ⟨(some 18), .assign (.tmp 103), 3, none⟩)] [] t (m.bump 3) (Q := ⟨fun _ => Q .normal⟩)) := by kernel_rfl
noncomputable def c6_36 : SCode := (.reg r6_35)
theorem w6_36 : WXi EE n0 rd c6_36 t m (Q := ⟨Q⟩) = WXi EE n0 rd (.reg r6_35) t m (Q := ⟨Q⟩) := rfl
noncomputable def r6_37 : List SOp := [⟨(some 104), .move (.tmp 8), 24, none⟩, ⟨(some 105), .nilCheck (.tmp 104), 0, none⟩, ⟨(some 106), .fieldAddr 31 (.tmp 105) 1, 0, none⟩, ⟨(some 107), .load 27 (.tmp 106), 27, none⟩, ⟨(some 108), .move (.tmp 19), 3, none⟩, ⟨(some 109), .call ⟨.value (.func 23), #[(.tmp 107), (.tmp 108)], #[27, 3]⟩, 3, none⟩, ⟨(some 110), .move (.tmp 20), 3, none⟩, ⟨(some 111), .binOp .neq 3 (.tmp 109) (.tmp 110) 3, 4, none⟩, ⟨(some 112), .move (.tmp 111), 4, none⟩, ⟨(some 113), .move (.tmp 19), 3, (some (112, false))⟩, ⟨(some 114), .move (.tmp 17), 47, (some (112, false))⟩, ⟨(some 115), .call ⟨.builtin .len, #[(.tmp 114)], #[47]⟩, 3, (some (112, false))⟩, ⟨(some 116), .binOp .geq 3 (.tmp 113) (.tmp 115) 3, 4, (some (112, false))⟩, ⟨(some 117), .pick (.tmp 112) (.const (.bool true)) (.tmp 116), 4, none⟩, ⟨(some 118), .move (.tmp 117), 4, none⟩, ⟨(some 119), .move (.tmp 17), 47, (some (118, false))⟩, ⟨(some 120), .move (.tmp 19), 3, (some (118, false))⟩, ⟨(some 121), .indexAddr 47 (.tmp 119) (.tmp 120), 0, (some (118, false))⟩, ⟨(some 122), .load 3 (.tmp 121), 3, (some (118, false))⟩, ⟨(some 123), .move (.tmp 20), 3, (some (118, false))⟩, ⟨(some 124), .binOp .neq 3 (.tmp 122) (.tmp 123) 3, 4, (some (118, false))⟩, ⟨(some 125), .pick (.tmp 118) (.const (.bool true)) (.tmp 124), 4, none⟩]
theorem w6_37 : WXi EE n0 rd (.reg r6_37) t m (Q := ⟨Q⟩) = (n0 ≤ m.next ∧ XWi EE m.next [(0, ⟨(some 104), .move (.tmp 8), 24, none⟩), (1, ⟨(some 105), .nilCheck (.tmp 104), 0, none⟩), (2, ⟨(some 106), .fieldAddr 31 (.tmp 105) 1, 0, none⟩), (3, ⟨(some 107), .load 27 (.tmp 106), 27, none⟩), (4, ⟨(some 108), .move (.tmp 19), 3, none⟩), (5, ⟨(some 109), .call ⟨.value (.func 23), #[(.tmp 107), (.tmp 108)], #[27, 3]⟩, 3, none⟩), (6, ⟨(some 110), .move (.tmp 20), 3, none⟩), (7, ⟨(some 111), .binOp .neq 3 (.tmp 109) (.tmp 110) 3, 4, none⟩), (8, ⟨(some 112), .move (.tmp 111), 4, none⟩), (9, ⟨(some 113), .move (.tmp 19), 3, (some (112, false))⟩), (10, ⟨(some 114), .move (.tmp 17), 47, (some (112, false))⟩), (11, ⟨(some 115), .call ⟨.builtin .len, #[(.tmp 114)], #[47]⟩, 3, (some (112, false))⟩), (12, ⟨(some 116), .binOp .geq 3 (.tmp 113) (.tmp 115) 3, 4, (some (112, false))⟩), (13, ⟨(some 117), .pick (.tmp 112) (.const (.bool true)) (.tmp 116), 4, none⟩), (14, ⟨(some 118), .move (.tmp 117), 4, none⟩), (15, ⟨(some 119), .move (.tmp 17), 47, (some (118, false))⟩), (16, ⟨(some 120), .move (.tmp 19), 3, (some (118, false))⟩), (17, ⟨(some 121), .indexAddr 47 (.tmp 119) (.tmp 120), 0, (some (118, false))⟩), (18, ⟨(some 122), .load 3 (.tmp 121), 3, (some (118, false))⟩), (19, ⟨(some 123), .move (.tmp 20), 3, (some (118, false))⟩), (20, ⟨(some 124), .binOp .neq 3 (.tmp 122) (.tmp 123) 3, 4, (some (118, false))⟩), (21, ⟨(some 125), .pick (.tmp 118) (.const (.bool true)) (.tmp 124), 4, none⟩)] [] t (m.bump 22) (Q := ⟨fun _ => Q .normal⟩)) := by kernel_rfl
noncomputable def r6_38 : List SOp := [⟨(some 6), .assign (.const (.bool false)), 4, none⟩]
theorem w6_38 : WXi EE n0 rd (.reg r6_38) t m (Q := ⟨Q⟩) = (n0 ≤ m.next ∧ XWi EE m.next [(0, ⟨(some 6), .assign (.const (.bool false)), 4, none⟩)] [] t (m.bump 1) (Q := ⟨fun _ => Q .normal⟩)) := by kernel_rfl
noncomputable def c6_39 : SCode := (.seq (.reg r6_38) .ret)
theorem w6_39 : WXi EE n0 rd c6_39 t m (Q := ⟨Q⟩) = WXi EE n0 rd (.seq (.reg r6_38) .ret) t m (Q := ⟨Q⟩) := rfl
noncomputable def c6_40 : SCode := (.seq (.reg r6_30) (.seq (.seq (.reg r6_31) (.cond (.tmp 98) c6_33 .skip)) (.seq (.seq (.reg r6_34) (.cond (.tmp 101) c6_36 .skip)) (.seq (.reg r6_37) (.cond (.tmp 125) c6_39 .skip)))))
theorem w6_40 : WXi EE n0 rd c6_40 t m (Q := ⟨Q⟩) = WXi EE n0 rd (.seq (.reg r6_30) (.seq (.seq (.reg r6_31) (.cond (.tmp 98) c6_33 .skip)) (.seq (.seq (.reg r6_34) (.cond (.tmp 101) c6_36 .skip)) (.seq (.reg r6_37) (.cond (.tmp 125) c6_39 .skip))))) t m (Q := ⟨Q⟩) := rfl
noncomputable def r6_41 : List SOp := [⟨(some 91), .move (.tmp 19), 3, none⟩, ⟨(some 92), .binOp .add 3 (.tmp 91) (.const (.int .i64 1)) 3, 3, none⟩, ⟨(some 19), .assign (.tmp 92), 3, none⟩]
theorem w6_41 : WXi EE n0 rd (.reg r6_41) t m (Q := ⟨Q⟩) = (n0 ≤ m.next ∧ XWi EE m.next [(0, ⟨(some 91), .move (.tmp 19), 3, none⟩), (1, ⟨(some 92), .binOp .add 3 (.tmp 91) (.const (.int .i64 1)) 3, 3, none⟩), (2, ⟨(some 19), .assign (.tmp 92), 3, none⟩)] [] t (m.bump 3) (Q := ⟨fun _ => Q .normal⟩)) := by kernel_rfl
noncomputable def c6_42 : SCode := (.seq (.seq (.reg r6_29) (.cond (.tmp 90) .skip (.exit 0))) (.seq (.block 1 c6_40) (.reg r6_41)))
theorem w6_42 : WXi EE n0 rd c6_42 t m (Q := ⟨Q⟩) = WXi EE n0 rd (.seq (.seq (.reg r6_29) (.cond (.tmp 90) .skip (.exit 0))) (.seq (.block 1 c6_40) (.reg r6_41))) t m (Q := ⟨Q⟩) := rfl
noncomputable def c6_43 : SCode := (.loop c6_42)
theorem w6_43 : WXi EE n0 rd c6_43 t m (Q := ⟨Q⟩) = WXi EE n0 rd (.loop c6_42) t m (Q := ⟨Q⟩) := rfl
noncomputable def r6_44 : List SOp := [⟨(some 126), .move (.tmp 7), 4, none⟩, ⟨(some 127), .move (.tmp 126), 4, none⟩, ⟨(some 128), .move (.tmp 8), 24, (some (127, true))⟩, ⟨(some 129), .nilCheck (.tmp 128), 0, (some (127, true))⟩, ⟨(some 130), .fieldAddr 31 (.tmp 129) 1, 0, (some (127, true))⟩, ⟨(some 131), .load 27 (.tmp 130), 27, (some (127, true))⟩, ⟨(some 132), .call ⟨.value (.func 24), #[(.tmp 131)], #[27]⟩, 3, (some (127, true))⟩, ⟨(some 133), .move (.tmp 18), 3, (some (127, true))⟩, ⟨(some 134), .binOp .eql 3 (.tmp 132) (.tmp 133) 3, 4, (some (127, true))⟩, ⟨(some 135), .pick (.tmp 127) (.tmp 134) (.const (.bool false)), 4, none⟩, ⟨(some 136), .move (.tmp 135), 4, none⟩, ⟨(some 137), .move (.tmp 17), 47, (some (136, true))⟩, ⟨(some 138), .call ⟨.builtin .len, #[(.tmp 137)], #[47]⟩, 3, (some (136, true))⟩, ⟨(some 139), .binOp .eql 3 (.tmp 138) (.const (.int .i64 8)) 3, 4, (some (136, true))⟩, ⟨(some 140), .pick (.tmp 136) (.tmp 139) (.const (.bool false)), 4, none⟩, ⟨(some 6), .assign (.tmp 140), 4, none⟩]
theorem w6_44 : WXi EE n0 rd (.reg r6_44) t m (Q := ⟨Q⟩) = (n0 ≤ m.next ∧ XWi EE m.next [(0, ⟨(some 126), .move (.tmp 7), 4, none⟩), (1, ⟨(some 127), .move (.tmp 126), 4, none⟩), (2, ⟨(some 128), .move (.tmp 8), 24, (some (127, true))⟩), (3, ⟨(some 129), .nilCheck (.tmp 128), 0, (some (127, true))⟩), (4, ⟨(some 130), .fieldAddr 31 (.tmp 129) 1, 0, (some (127, true))⟩), (5, ⟨(some 131), .load 27 (.tmp 130), 27, (some (127, true))⟩), (6, ⟨(some 132), .call ⟨.value (.func 24), #[(.tmp 131)], #[27]⟩, 3, (some (127, true))⟩), (7, ⟨(some 133), .move (.tmp 18), 3, (some (127, true))⟩), (8, ⟨(some 134), .binOp .eql 3 (.tmp 132) (.tmp 133) 3, 4, (some (127, true))⟩), (9, ⟨(some 135), .pick (.tmp 127) (.tmp 134) (.const (.bool false)), 4, none⟩), (10, ⟨(some 136), .move (.tmp 135), 4, none⟩), (11, ⟨(some 137), .move (.tmp 17), 47, (some (136, true))⟩), (12, ⟨(some 138), .call ⟨.builtin .len, #[(.tmp 137)], #[47]⟩, 3, (some (136, true))⟩), (13, ⟨(some 139), .binOp .eql 3 (.tmp 138) (.const (.int .i64 8)) 3, 4, (some (136, true))⟩), (14, ⟨(some 140), .pick (.tmp 136) (.tmp 139) (.const (.bool false)), 4, none⟩), (15, ⟨(some 6), .assign (.tmp 140), 4, none⟩)] [] t (m.bump 16) (Q := ⟨fun _ => Q .normal⟩)) := by kernel_rfl
noncomputable def c6 : SCode := (.seq (.reg r6_0) (.seq (.reg r6_1) (.seq (.seq (.reg r6_2) (.cond (.tmp 28) c6_4 .skip)) (.seq (.reg r6_5) (.seq (.reg r6_6) (.seq (.reg r6_7) (.seq (.reg r6_8) (.seq (.reg r6_9) (.seq (.seq (.reg r6_10) (.cond (.tmp 48) c6_17 c6_19)) (.seq (.seq (.reg r6_20) (.cond (.tmp 80) c6_22 .skip)) (.seq (.seq (.reg r6_23) (.cond (.tmp 82) c6_25 .skip)) (.seq (.reg r6_26) (.seq (.reg r6_27) (.seq (.seq (.reg r6_28) (.block 0 c6_43)) (.seq (.reg r6_44) .ret)))))))))))))))
theorem w6 : WXi EE n0 rd c6 t m (Q := ⟨Q⟩) = WXi EE n0 rd (.seq (.reg r6_0) (.seq (.reg r6_1) (.seq (.seq (.reg r6_2) (.cond (.tmp 28) c6_4 .skip)) (.seq (.reg r6_5) (.seq (.reg r6_6) (.seq (.reg r6_7) (.seq (.reg r6_8) (.seq (.reg r6_9) (.seq (.seq (.reg r6_10) (.cond (.tmp 48) c6_17 c6_19)) (.seq (.seq (.reg r6_20) (.cond (.tmp 80) c6_22 .skip)) (.seq (.seq (.reg r6_23) (.cond (.tmp 82) c6_25 .skip)) (.seq (.reg r6_26) (.seq (.reg r6_27) (.seq (.seq (.reg r6_28) (.block 0 c6_43)) (.seq (.reg r6_44) .ret))))))))))))))) t m (Q := ⟨Q⟩) := rfl
noncomputable def f6 : SFunc := ⟨141, [.tmp 6], c6⟩
-- RULES 6 w6_0, w6_1, w6_2, w6_3, w6_4, w6_5, w6_6, w6_7, w6_8, w6_9, w6_10, w6_11, w6_12, w6_13, w6_14, w6_15, w6_16, w6_17, w6_18, w6_19, w6_20, w6_21, w6_22, w6_23, w6_24, w6_25, w6_26, w6_27, w6_28, w6_29, w6_30, w6_31, w6_32, w6_33, w6_34, w6_35, w6_36, w6_37, w6_38, w6_39, w6_40, w6_41, w6_42, w6_43, w6_44
theorem fn6 : fnOf EE.P 6 = some f6 := by kernel_rfl
/-! types -/
theorem und_5 : EE.P.underlying 5 = some (.int .u8) := by kernel_rfl
theorem und_4 : EE.P.underlying 4 = some .bool := by kernel_rfl
theorem ca_10 : callable EE.P 10 = true := by kernel_rfl
theorem ca_11 : callable EE.P 11 = true := by kernel_rfl
theorem ca_24 : callable EE.P 24 = true := by kernel_rfl
-- FACTS lay_3, lay_74, lay_34, lay_71, lay_47, lay_26, lay_69, lay_28, lay_27, lay_29, lay_46, sz_3, sz_74, sz_34, sz_71, sz_47, sz_26, sz_69, sz_28, sz_27, sz_29, sz_46, zero_74, zero_34, zero_47, zero_69, fo_74_0, fo_71_1, fo_71_0, fo_34_0, fo_69_0, fo_65_1, fo_65_0, fo_60_0, fo_46_0, fo_31_0, fo_46_1, fo_31_2, fo_46_2, fo_31_1, fo_31_3, fo_46_3, und_26, und_72, und_3, und_38, und_47, und_27, und_67, und_63, und_62, und_22, und_5, und_4, ca_34, ca_19, ca_43, ca_46, ca_29, ca_47, ca_23, ca_33, ca_44, ca_50, ca_30, ca_48, ca_32, ca_39, ca_35, ca_21, ca_36, ca_16, ca_37, ca_15, ca_38, ca_28, ca_40, ca_26, ca_41, ca_25, ca_42, ca_12, ca_27, ca_17, ca_18, ca_10, ca_11, ca_24
end
end Go.Ab
