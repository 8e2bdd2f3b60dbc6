/- Files: the code of one law, as data; facts on its types. -/
import Derived.Test.YthidhnbniklhmaaFiA
namespace Go.Ab
open Go.Proofs
noncomputable section
variable {n0 : Nat} {rd : Option Nat} {t : List Value} {m : Mem} {Q : Exit → List Value → Mem → Prop}
/-! (*carryall/files.Files).may -/
-- RULES 34 w34_0, w34_1, w34_2, w34_3, w34_4, w34_5, w34_6, w34_7, w34_8, w34_9
/-! (*carryall/files.Files).Copy -/
-- RULES 12 w12_0, w12_1, w12_2, w12_3, w12_4, w12_5
/-! (*carryall/files.Files).Get -/
-- RULES 13 w13_0, w13_1, w13_2, w13_3, w13_4
/-! (*carryall/files.Files).Refs -/
-- RULES 14 w14_0, w14_1, w14_2, w14_3, w14_4
/-! (*carryall/files.Files).Drop -/
-- RULES 15 w15_0, w15_1, w15_2, w15_3, w15_4, w15_5, w15_6, w15_7, w15_8, w15_9, w15_10, w15_11, w15_12
/-! (*carryall/files.Files).Share -/
-- RULES 16 w16_0, w16_1, w16_2, w16_3, w16_4, w16_5
/-! (*carryall/files.Files).Open -/
-- RULES 21 w21_0, w21_1, w21_2, w21_3, w21_4, w21_5, w21_6, w21_7, w21_8, w21_9, w21_10, w21_11, w21_12, w21_13, w21_14, w21_15, w21_16, w21_17, w21_18, w21_19, w21_20
/-! (*carryall/files.Files).Free -/
-- RULES 20 w20_0, w20_1, w20_2, w20_3, w20_4
/-! (*carryall/files.Files).Used -/
-- RULES 19 w19_0, w19_1, w19_2, w19_3, w19_4, w19_5, w19_6, w19_7, w19_8, w19_9
/-! (*carryall/files.Files).used -/
-- RULES 43 w43_0, w43_1
/-! (*carryall/files.Files).used$1 -/
-- RULES 49 w49_0, w49_1, w49_2, w49_3, w49_4, w49_5, w49_6, w49_7, w49_8, w49_9
/-! carryall/files.number -/
-- RULES 46 w46_0, w46_1
/-! (*carryall/files.Fds).Put -/
-- RULES 33 w33_0, w33_1, w33_2, w33_3, w33_4, w33_5, w33_6, w33_7, w33_8, w33_9, w33_10, w33_11, w33_12, w33_13, w33_14
/-! (*carryall/files.Fds).Set -/
-- RULES 28 w28_0, w28_1, w28_2, w28_3, w28_4, w28_5, w28_6, w28_7, w28_8, w28_9, w28_10, w28_11, w28_12, w28_13, w28_14
/-! (*carryall/files.Fds).Get -/
-- RULES 23 w23_0, w23_1, w23_2, w23_3, w23_4
/-! (*carryall/files.Fds).Close -/
-- RULES 26 w26_0, w26_1, w26_2, w26_3, w26_4, w26_5, w26_6, w26_7, w26_8, w26_9, w26_10, w26_11
/-! (*carryall/files.Fds).Dup -/
-- RULES 25 w25_0, w25_1, w25_2, w25_3, w25_4, w25_5, w25_6, w25_7, w25_8, w25_9, w25_10
/-! (*carryall/files.Fds).List -/
-- RULES 29 w29_0, w29_1, w29_2, w29_3, w29_4, w29_5, w29_6, w29_7, w29_8, w29_9, w29_10, w29_11, w29_12
/-! (*carryall/files.Fds).Len -/
-- RULES 24 w24_0, w24_1
/-! (*carryall/files.Fds).Copy -/
-- RULES 27 w27_0, w27_1, w27_2, w27_3, w27_4, w27_5
/-! slices.DeleteFunc[[]int,int] -/
-- RULES 44 w44_0, w44_1, w44_2, w44_3, w44_4, w44_5, w44_6, w44_7, w44_8, w44_9, w44_10, w44_11, w44_12, w44_13, w44_14, w44_15, w44_16, w44_17
/-! (*carryall/files.Fds).Len$1 -/
-- RULES 45 w45_0, w45_1
/-! slices.Index[[]int,int] -/
-- RULES 47 w47_0, w47_1, w47_2, w47_3, w47_4, w47_5, w47_6, w47_7, w47_8, w47_9, w47_10, w47_11
/-! slices.IndexFunc[[]int,int] -/
-- RULES 50 w50_0, w50_1, w50_2, w50_3, w50_4, w50_5, w50_6, w50_7, w50_8, w50_9, w50_10, w50_11
/-! (*carryall/carryallref10.Files).Is -/
-- RULES 30 w30_0, w30_1
/-! (*carryall/carryallref10.Files).Open -/
-- RULES 36 w36_0, w36_1, w36_2, w36_3, w36_4, w36_5, w36_6, w36_7, w36_8, w36_9, w36_10, w36_11, w36_12, w36_13, w36_14, w36_15
/-! (*carryall/carryallref10.Files).Share -/
-- RULES 37 w37_0, w37_1, w37_2, w37_3, w37_4, w37_5, w37_6
/-! (*carryall/carryallref10.Files).Drop -/
-- RULES 38 w38_0, w38_1, w38_2, w38_3, w38_4, w38_5, w38_6
/-! (*carryall/carryallref10.Files).Used -/
-- RULES 31 w31_0, w31_1, w31_2, w31_3, w31_4, w31_5, w31_6, w31_7, w31_8, w31_9, w31_10, w31_11
/-! carryall/carryallref10.New -/
-- RULES 35 w35_0, w35_1
/-! (*carryall/carryallref10.Fds).Get -/
-- RULES 32 w32_0, w32_1, w32_2, w32_3, w32_4
/-! (*carryall/carryallref10.Fds).set -/
-- RULES 48 w48_0, w48_1, w48_2, w48_3
/-! (*carryall/carryallref10.Fds).Put -/
-- RULES 39 w39_0, w39_1, w39_2, w39_3, w39_4, w39_5, w39_6, w39_7, w39_8, w39_9, w39_10, w39_11, w39_12, w39_13, w39_14
/-! (*carryall/carryallref10.Fds).Set -/
-- RULES 40 w40_0, w40_1, w40_2, w40_3, w40_4, w40_5, w40_6, w40_7, w40_8
/-! (*carryall/carryallref10.Fds).Close -/
-- RULES 41 w41_0, w41_1, w41_2, w41_3, w41_4, w41_5, w41_6
/-! (*carryall/carryallref10.Fds).Dup -/
-- RULES 42 w42_0, w42_1, w42_2, w42_3, w42_4, w42_5
/-! carryall/carryallref04.Same -/
-- RULES 22 w22_0, w22_1, w22_2, w22_3, w22_4, w22_5, w22_6, w22_7, w22_8, w22_9, w22_10, w22_11, w22_12, w22_13
/-! carryall/carryalllaw10.fresh -/
-- RULES 17 w17_0, w17_1
/-! (*carryall/carryalllaw10.both).do -/
-- RULES 18 w18_0, w18_1, w18_2, w18_3, w18_4, w18_5, w18_6, w18_7, w18_8, w18_9, w18_10, w18_11, w18_12, w18_13, w18_14, w18_15, w18_16, w18_17, w18_18, w18_19, w18_20, w18_21, w18_22, w18_23, w18_24, w18_25, w18_26, w18_27, w18_28, w18_29, w18_30, w18_31, w18_32, w18_33, w18_34, w18_35, w18_36, w18_37, w18_38, w18_39, w18_40, w18_41, w18_42, w18_43, w18_44, w18_45, w18_46, w18_47, w18_48, w18_49, w18_50, w18_51
/-! carryall/carryalllaw10.grown -/
-- RULES 11 w11_0, w11_1, w11_2, w11_3, w11_4, w11_5, w11_6, w11_7, w11_8, w11_9, w11_10
/-! carryall/carryalllaw10.alive -/
-- RULES 10 w10_0, w10_1, w10_2, w10_3, w10_4, w10_5, w10_6, w10_7, w10_8
/-! carryall/carryalllaw10.FilesLeast -/
noncomputable def r9_0 : List SOp := [⟨(some 2), .assign (.const (.bool false)), 4, none⟩]
theorem w9_0 : WXi EE n0 rd (.reg r9_0) t m (Q := ⟨Q⟩) = (n0 ≤ m.next ∧ XWi EE m.next [(0, ⟨(some 2), .assign (.const (.bool false)), 4, none⟩)] [] t (m.bump 1) (Q := ⟨fun _ => Q .normal⟩)) := by kernel_rfl
noncomputable def r9_1 : List SOp := [⟨(some 19), .call ⟨.value (.func 10), #[], #[]⟩, 4, none⟩, ⟨(some 3), .assign (.tmp 19), 4, none⟩]
theorem w9_1 : WXi EE n0 rd (.reg r9_1) t m (Q := ⟨Q⟩) = (n0 ≤ m.next ∧ XWi EE m.next [(0, ⟨(some 19), .call ⟨.value (.func 10), #[], #[]⟩, 4, none⟩), (1, ⟨(some 3), .assign (.tmp 19), 4, none⟩)] [] t (m.bump 2) (Q := ⟨fun _ => Q .normal⟩)) := by kernel_rfl
noncomputable def r9_2 : List SOp := [⟨(some 20), .move (.tmp 0), 22, none⟩, ⟨(some 21), .call ⟨.builtin .len, #[(.tmp 20)], #[22]⟩, 3, none⟩, ⟨(some 22), .binOp .gtr 3 (.tmp 21) (.const (.int .i64 200)) 3, 4, none⟩, ⟨(some 23), .move (.tmp 22), 4, none⟩, ⟨(some 24), .move (.tmp 3), 4, (some (23, false))⟩, ⟨(some 25), .unOp .not 4 (.tmp 24), 4, (some (23, false))⟩, ⟨(some 26), .pick (.tmp 23) (.const (.bool true)) (.tmp 25), 4, none⟩]
theorem w9_2 : WXi EE n0 rd (.reg r9_2) t m (Q := ⟨Q⟩) = (n0 ≤ m.next ∧ XWi EE m.next [(0, ⟨(some 20), .move (.tmp 0), 22, none⟩), (1, ⟨(some 21), .call ⟨.builtin .len, #[(.tmp 20)], #[22]⟩, 3, none⟩), (2, ⟨(some 22), .binOp .gtr 3 (.tmp 21) (.const (.int .i64 200)) 3, 4, none⟩), (3, ⟨(some 23), .move (.tmp 22), 4, none⟩), (4, ⟨(some 24), .move (.tmp 3), 4, (some (23, false))⟩), (5, ⟨(some 25), .unOp .not 4 (.tmp 24), 4, (some (23, false))⟩), (6, ⟨(some 26), .pick (.tmp 23) (.const (.bool true)) (.tmp 25), 4, none⟩)] [] t (m.bump 7) (Q := ⟨fun _ => Q .normal⟩)) := by kernel_rfl
noncomputable def r9_3 : List SOp := [⟨(some 27), .move (.tmp 3), 4, none⟩, ⟨(some 2), .assign (.tmp 27), 4, none⟩]
theorem w9_3 : WXi EE n0 rd (.reg r9_3) t m (Q := ⟨Q⟩) = (n0 ≤ m.next ∧ XWi EE m.next [(0, ⟨(some 27), .move (.tmp 3), 4, none⟩), (1, ⟨(some 2), .assign (.tmp 27), 4, none⟩)] [] t (m.bump 2) (Q := ⟨fun _ => Q .normal⟩)) := by kernel_rfl
noncomputable def c9_4 : SCode := (.seq (.reg r9_3) .ret)
theorem w9_4 : WXi EE n0 rd c9_4 t m (Q := ⟨Q⟩) = WXi EE n0 rd (.seq (.reg r9_3) .ret) t m (Q := ⟨Q⟩) := rfl
noncomputable def r9_5 : List SOp := [⟨(some 28), .move (.tmp 0), 22, none⟩, ⟨(some 29), .call ⟨.value (.func 11), #[(.tmp 28)], #[22]⟩, 24, none⟩, ⟨(some 4), .assign (.tmp 29), 24, none⟩]
theorem w9_5 : WXi EE n0 rd (.reg r9_5) t m (Q := ⟨Q⟩) = (n0 ≤ m.next ∧ XWi EE m.next [(0, ⟨(some 28), .move (.tmp 0), 22, none⟩), (1, ⟨(some 29), .call ⟨.value (.func 11), #[(.tmp 28)], #[22]⟩, 24, none⟩), (2, ⟨(some 4), .assign (.tmp 29), 24, none⟩)] [] t (m.bump 3) (Q := ⟨fun _ => Q .normal⟩)) := by kernel_rfl
noncomputable def r9_6 : List SOp := [⟨(some 5), .assign (.const (.int .i64 0)), 3, none⟩]
theorem w9_6 : WXi EE n0 rd (.reg r9_6) t m (Q := ⟨Q⟩) = (n0 ≤ m.next ∧ XWi EE m.next [(0, ⟨(some 5), .assign (.const (.int .i64 0)), 3, none⟩)] [] t (m.bump 1) (Q := ⟨fun _ => Q .normal⟩)) := by kernel_rfl
noncomputable def r9_7 : List SOp := [⟨(some 30), .move (.tmp 5), 3, none⟩, ⟨(some 31), .binOp .lss 3 (.tmp 30) (.const (.int .i64 64)) 3, 4, none⟩]
theorem w9_7 : WXi EE n0 rd (.reg r9_7) t m (Q := ⟨Q⟩) = (n0 ≤ m.next ∧ XWi EE m.next [(0, ⟨(some 30), .move (.tmp 5), 3, none⟩), (1, ⟨(some 31), .binOp .lss 3 (.tmp 30) (.const (.int .i64 64)) 3, 4, none⟩)] [] t (m.bump 2) (Q := ⟨fun _ => Q .normal⟩)) := by kernel_rfl
noncomputable def r9_8 : List SOp := [⟨(some 35), .move (.tmp 4), 24, none⟩, ⟨(some 36), .nilCheck (.tmp 35), 0, none⟩, ⟨(some 37), .fieldAddr 31 (.tmp 36) 0, 0, none⟩, ⟨(some 38), .load 26 (.tmp 37), 26, none⟩, ⟨(some 39), .move (.tmp 5), 3, none⟩, ⟨(some 40), .call ⟨.value (.func 13), #[(.tmp 38), (.tmp 39)], #[26, 3]⟩, 35, none⟩, ⟨(some 34), .move (.tmp 40), 35, none⟩, ⟨(some 41), .extract (.tmp 34) 0, 34, none⟩, ⟨(some 42), .extract (.tmp 34) 1, 4, none⟩, ⟨(some 6), .alloc 34, 0, none⟩, ⟨none, .store 34 (.tmp 6) (.tmp 41), 0, none⟩, ⟨(some 7), .assign (.tmp 42), 4, none⟩]
theorem w9_8 : WXi EE n0 rd (.reg r9_8) t m (Q := ⟨Q⟩) = (n0 ≤ m.next ∧ XWi EE m.next [(0, ⟨(some 35), .move (.tmp 4), 24, none⟩), (1, ⟨(some 36), .nilCheck (.tmp 35), 0, none⟩), (2, ⟨(some 37), .fieldAddr 31 (.tmp 36) 0, 0, none⟩), (3, ⟨(some 38), .load 26 (.tmp 37), 26, none⟩), (4, ⟨(some 39), .move (.tmp 5), 3, none⟩), (5, ⟨(some 40), .call ⟨.value (.func 13), #[(.tmp 38), (.tmp 39)], #[26, 3]⟩, 35, none⟩), (6, ⟨(some 34), .move (.tmp 40), 35, none⟩), (7, ⟨(some 41), .extract (.tmp 34) 0, 34, none⟩), (8, ⟨(some 42), .extract (.tmp 34) 1, 4, none⟩), (9, ⟨(some 6), .alloc 34, 0, none⟩), (10, ⟨none, .store 34 (.tmp 6) (.tmp 41), 0, none⟩), (11, ⟨(some 7), .assign (.tmp 42), 4, none⟩)] [] t (m.bump 12) (Q := ⟨fun _ => Q .normal⟩)) := by kernel_rfl
noncomputable def r9_9 : List SOp := [⟨(some 43), .move (.tmp 7), 4, none⟩]
theorem w9_9 : WXi EE n0 rd (.reg r9_9) t m (Q := ⟨Q⟩) = (n0 ≤ m.next ∧ XWi EE m.next [(0, ⟨(some 43), .move (.tmp 7), 4, none⟩)] [] t (m.bump 1) (Q := ⟨fun _ => Q .normal⟩)) := by kernel_rfl
noncomputable def r9_10 : List SOp := [⟨(some 45), .move (.tmp 4), 24, none⟩, ⟨(some 46), .nilCheck (.tmp 45), 0, none⟩, ⟨(some 47), .fieldAddr 31 (.tmp 46) 0, 0, none⟩, ⟨(some 48), .load 26 (.tmp 47), 26, none⟩, ⟨(some 49), .move (.tmp 5), 3, none⟩, ⟨(some 50), .binOp .rem 3 (.tmp 49) (.const (.int .i64 16)) 3, 3, none⟩, ⟨(some 51), .build 34 #[(0, (.tmp 50))], 34, none⟩, ⟨(some 52), .call ⟨.value (.func 21), #[(.tmp 48), (.tmp 51)], #[26, 34]⟩, 50, none⟩, ⟨(some 44), .move (.tmp 52), 50, none⟩, ⟨(some 53), .extract (.tmp 44) 0, 3, none⟩, ⟨(some 54), .extract (.tmp 44) 1, 38, none⟩, ⟨(some 8), .assign (.tmp 53), 3, none⟩, ⟨(some 9), .assign (.tmp 54), 38, none⟩]
theorem w9_10 : WXi EE n0 rd (.reg r9_10) t m (Q := ⟨Q⟩) = (n0 ≤ m.next ∧ XWi EE m.next [(0, ⟨(some 45), .move (.tmp 4), 24, none⟩), (1, ⟨(some 46), .nilCheck (.tmp 45), 0, none⟩), (2, ⟨(some 47), .fieldAddr 31 (.tmp 46) 0, 0, none⟩), (3, ⟨(some 48), .load 26 (.tmp 47), 26, none⟩), (4, ⟨(some 49), .move (.tmp 5), 3, none⟩), (5, ⟨(some 50), .binOp .rem 3 (.tmp 49) (.const (.int .i64 16)) 3, 3, none⟩), (6, ⟨(some 51), .build 34 #[(0, (.tmp 50))], 34, none⟩), (7, ⟨(some 52), .call ⟨.value (.func 21), #[(.tmp 48), (.tmp 51)], #[26, 34]⟩, 50, none⟩), (8, ⟨(some 44), .move (.tmp 52), 50, none⟩), (9, ⟨(some 53), .extract (.tmp 44) 0, 3, none⟩), (10, ⟨(some 54), .extract (.tmp 44) 1, 38, none⟩), (11, ⟨(some 8), .assign (.tmp 53), 3, none⟩), (12, ⟨(some 9), .assign (.tmp 54), 38, none⟩)] [] t (m.bump 13) (Q := ⟨fun _ => Q .normal⟩)) := by kernel_rfl
noncomputable def r9_11 : List SOp := [⟨(some 55), .move (.tmp 9), 38, none⟩, ⟨(some 56), .binOp .neq 38 (.tmp 55) (.const (.int .i64 0)) 38, 4, none⟩, ⟨(some 57), .move (.tmp 56), 4, none⟩, ⟨(some 58), .move (.tmp 8), 3, (some (57, false))⟩, ⟨(some 59), .move (.tmp 5), 3, (some (57, false))⟩, ⟨(some 60), .binOp .neq 3 (.tmp 58) (.tmp 59) 3, 4, (some (57, false))⟩, ⟨(some 61), .pick (.tmp 57) (.const (.bool true)) (.tmp 60), 4, none⟩, ⟨(some 62), .move (.tmp 61), 4, none⟩, ⟨(some 63), .move (.tmp 4), 24, (some (62, false))⟩, ⟨(some 64), .nilCheck (.tmp 63), 0, (some (62, false))⟩, ⟨(some 65), .fieldAddr 31 (.tmp 64) 0, 0, (some (62, false))⟩, ⟨(some 66), .load 26 (.tmp 65), 26, (some (62, false))⟩, ⟨(some 67), .move (.tmp 5), 3, (some (62, false))⟩, ⟨(some 68), .call ⟨.value (.func 14), #[(.tmp 66), (.tmp 67)], #[26, 3]⟩, 3, (some (62, false))⟩, ⟨(some 69), .binOp .neq 3 (.tmp 68) (.const (.int .i64 1)) 3, 4, (some (62, false))⟩, ⟨(some 70), .pick (.tmp 62) (.const (.bool true)) (.tmp 69), 4, none⟩]
theorem w9_11 : WXi EE n0 rd (.reg r9_11) t m (Q := ⟨Q⟩) = (n0 ≤ m.next ∧ XWi EE m.next [(0, ⟨(some 55), .move (.tmp 9), 38, none⟩), (1, ⟨(some 56), .binOp .neq 38 (.tmp 55) (.const (.int .i64 0)) 38, 4, none⟩), (2, ⟨(some 57), .move (.tmp 56), 4, none⟩), (3, ⟨(some 58), .move (.tmp 8), 3, (some (57, false))⟩), (4, ⟨(some 59), .move (.tmp 5), 3, (some (57, false))⟩), (5, ⟨(some 60), .binOp .neq 3 (.tmp 58) (.tmp 59) 3, 4, (some (57, false))⟩), (6, ⟨(some 61), .pick (.tmp 57) (.const (.bool true)) (.tmp 60), 4, none⟩), (7, ⟨(some 62), .move (.tmp 61), 4, none⟩), (8, ⟨(some 63), .move (.tmp 4), 24, (some (62, false))⟩), (9, ⟨(some 64), .nilCheck (.tmp 63), 0, (some (62, false))⟩), (10, ⟨(some 65), .fieldAddr 31 (.tmp 64) 0, 0, (some (62, false))⟩), (11, ⟨(some 66), .load 26 (.tmp 65), 26, (some (62, false))⟩), (12, ⟨(some 67), .move (.tmp 5), 3, (some (62, false))⟩), (13, ⟨(some 68), .call ⟨.value (.func 14), #[(.tmp 66), (.tmp 67)], #[26, 3]⟩, 3, (some (62, false))⟩), (14, ⟨(some 69), .binOp .neq 3 (.tmp 68) (.const (.int .i64 1)) 3, 4, (some (62, false))⟩), (15, ⟨(some 70), .pick (.tmp 62) (.const (.bool true)) (.tmp 69), 4, none⟩)] [] t (m.bump 16) (Q := ⟨fun _ => Q .normal⟩)) := by kernel_rfl
noncomputable def r9_12 : List SOp := [⟨(some 2), .assign (.const (.bool false)), 4, none⟩]
theorem w9_12 : WXi EE n0 rd (.reg r9_12) t m (Q := ⟨Q⟩) = (n0 ≤ m.next ∧ XWi EE m.next [(0, ⟨(some 2), .assign (.const (.bool false)), 4, none⟩)] [] t (m.bump 1) (Q := ⟨fun _ => Q .normal⟩)) := by kernel_rfl
noncomputable def c9_13 : SCode := (.seq (.reg r9_12) .ret)
theorem w9_13 : WXi EE n0 rd c9_13 t m (Q := ⟨Q⟩) = WXi EE n0 rd (.seq (.reg r9_12) .ret) t m (Q := ⟨Q⟩) := rfl
noncomputable def c9_14 : SCode := (.seq (.seq (.reg r9_8) (.seq (.reg r9_9) (.cond (.tmp 43) (.exit 1) .skip))) (.seq (.reg r9_10) (.seq (.reg r9_11) (.cond (.tmp 70) c9_13 .skip))))
theorem w9_14 : WXi EE n0 rd c9_14 t m (Q := ⟨Q⟩) = WXi EE n0 rd (.seq (.seq (.reg r9_8) (.seq (.reg r9_9) (.cond (.tmp 43) (.exit 1) .skip))) (.seq (.reg r9_10) (.seq (.reg r9_11) (.cond (.tmp 70) c9_13 .skip)))) t m (Q := ⟨Q⟩) := rfl
noncomputable def r9_15 : List SOp := [⟨(some 32), .move (.tmp 5), 3, none⟩, ⟨(some 33), .binOp .add 3 (.tmp 32) (.const (.int .i64 1)) 3, 3, none⟩, ⟨(some 5), .assign (.tmp 33), 3, none⟩]
theorem w9_15 : WXi EE n0 rd (.reg r9_15) t m (Q := ⟨Q⟩) = (n0 ≤ m.next ∧ XWi EE m.next [(0, ⟨(some 32), .move (.tmp 5), 3, none⟩), (1, ⟨(some 33), .binOp .add 3 (.tmp 32) (.const (.int .i64 1)) 3, 3, none⟩), (2, ⟨(some 5), .assign (.tmp 33), 3, none⟩)] [] t (m.bump 3) (Q := ⟨fun _ => Q .normal⟩)) := by kernel_rfl
noncomputable def c9_16 : SCode := (.seq (.seq (.reg r9_7) (.cond (.tmp 31) .skip (.exit 0))) (.seq (.block 1 c9_14) (.reg r9_15)))
theorem w9_16 : WXi EE n0 rd c9_16 t m (Q := ⟨Q⟩) = WXi EE n0 rd (.seq (.seq (.reg r9_7) (.cond (.tmp 31) .skip (.exit 0))) (.seq (.block 1 c9_14) (.reg r9_15))) t m (Q := ⟨Q⟩) := rfl
noncomputable def c9_17 : SCode := (.loop c9_16)
theorem w9_17 : WXi EE n0 rd c9_17 t m (Q := ⟨Q⟩) = WXi EE n0 rd (.loop c9_16) t m (Q := ⟨Q⟩) := rfl
noncomputable def r9_18 : List SOp := [⟨(some 10), .assign (.const (.int .i64 0)), 3, none⟩]
theorem w9_18 : WXi EE n0 rd (.reg r9_18) t m (Q := ⟨Q⟩) = (n0 ≤ m.next ∧ XWi EE m.next [(0, ⟨(some 10), .assign (.const (.int .i64 0)), 3, none⟩)] [] t (m.bump 1) (Q := ⟨fun _ => Q .normal⟩)) := by kernel_rfl
noncomputable def r9_19 : List SOp := [⟨(some 71), .move (.tmp 10), 3, none⟩, ⟨(some 72), .binOp .lss 3 (.tmp 71) (.const (.int .i64 8)) 3, 4, none⟩]
theorem w9_19 : WXi EE n0 rd (.reg r9_19) t m (Q := ⟨Q⟩) = (n0 ≤ m.next ∧ XWi EE m.next [(0, ⟨(some 71), .move (.tmp 10), 3, none⟩), (1, ⟨(some 72), .binOp .lss 3 (.tmp 71) (.const (.int .i64 8)) 3, 4, none⟩)] [] t (m.bump 2) (Q := ⟨fun _ => Q .normal⟩)) := by kernel_rfl
noncomputable def r9_20 : List SOp := [⟨(some 75), .move (.tmp 4), 24, none⟩, ⟨(some 76), .nilCheck (.tmp 75), 0, none⟩, ⟨(some 77), .fieldAddr 31 (.tmp 76) 1, 0, none⟩, ⟨(some 78), .load 27 (.tmp 77), 27, none⟩, ⟨(some 79), .move (.tmp 10), 3, none⟩, ⟨(some 80), .call ⟨.value (.func 23), #[(.tmp 78), (.tmp 79)], #[27, 3]⟩, 3, none⟩, ⟨(some 81), .binOp .geq 3 (.tmp 80) (.const (.int .i64 0)) 3, 4, none⟩]
theorem w9_20 : WXi EE n0 rd (.reg r9_20) t m (Q := ⟨Q⟩) = (n0 ≤ m.next ∧ XWi EE m.next [(0, ⟨(some 75), .move (.tmp 4), 24, none⟩), (1, ⟨(some 76), .nilCheck (.tmp 75), 0, none⟩), (2, ⟨(some 77), .fieldAddr 31 (.tmp 76) 1, 0, none⟩), (3, ⟨(some 78), .load 27 (.tmp 77), 27, none⟩), (4, ⟨(some 79), .move (.tmp 10), 3, none⟩), (5, ⟨(some 80), .call ⟨.value (.func 23), #[(.tmp 78), (.tmp 79)], #[27, 3]⟩, 3, none⟩), (6, ⟨(some 81), .binOp .geq 3 (.tmp 80) (.const (.int .i64 0)) 3, 4, none⟩)] [] t (m.bump 7) (Q := ⟨fun _ => Q .normal⟩)) := by kernel_rfl
noncomputable def r9_21 : List SOp := [⟨(some 83), .move (.tmp 4), 24, none⟩, ⟨(some 84), .nilCheck (.tmp 83), 0, none⟩, ⟨(some 85), .fieldAddr 31 (.tmp 84) 1, 0, none⟩, ⟨(some 86), .load 27 (.tmp 85), 27, none⟩, ⟨(some 87), .move (.tmp 10), 3, none⟩, ⟨(some 88), .call ⟨.value (.func 33), #[(.tmp 86), (.tmp 87)], #[27, 3]⟩, 50, none⟩, ⟨(some 82), .move (.tmp 88), 50, none⟩, ⟨(some 89), .extract (.tmp 82) 0, 3, none⟩, ⟨(some 90), .extract (.tmp 82) 1, 38, none⟩, ⟨(some 11), .assign (.tmp 89), 3, none⟩, ⟨(some 12), .assign (.tmp 90), 38, none⟩]
theorem w9_21 : WXi EE n0 rd (.reg r9_21) t m (Q := ⟨Q⟩) = (n0 ≤ m.next ∧ XWi EE m.next [(0, ⟨(some 83), .move (.tmp 4), 24, none⟩), (1, ⟨(some 84), .nilCheck (.tmp 83), 0, none⟩), (2, ⟨(some 85), .fieldAddr 31 (.tmp 84) 1, 0, none⟩), (3, ⟨(some 86), .load 27 (.tmp 85), 27, none⟩), (4, ⟨(some 87), .move (.tmp 10), 3, none⟩), (5, ⟨(some 88), .call ⟨.value (.func 33), #[(.tmp 86), (.tmp 87)], #[27, 3]⟩, 50, none⟩), (6, ⟨(some 82), .move (.tmp 88), 50, none⟩), (7, ⟨(some 89), .extract (.tmp 82) 0, 3, none⟩), (8, ⟨(some 90), .extract (.tmp 82) 1, 38, none⟩), (9, ⟨(some 11), .assign (.tmp 89), 3, none⟩), (10, ⟨(some 12), .assign (.tmp 90), 38, none⟩)] [] t (m.bump 11) (Q := ⟨fun _ => Q .normal⟩)) := by kernel_rfl
noncomputable def r9_22 : List SOp := [⟨(some 91), .move (.tmp 12), 38, none⟩, ⟨(some 92), .binOp .neq 38 (.tmp 91) (.const (.int .i64 0)) 38, 4, none⟩, ⟨(some 93), .move (.tmp 92), 4, none⟩, ⟨(some 94), .move (.tmp 11), 3, (some (93, false))⟩, ⟨(some 95), .move (.tmp 10), 3, (some (93, false))⟩, ⟨(some 96), .binOp .neq 3 (.tmp 94) (.tmp 95) 3, 4, (some (93, false))⟩, ⟨(some 97), .pick (.tmp 93) (.const (.bool true)) (.tmp 96), 4, none⟩, ⟨(some 98), .move (.tmp 97), 4, none⟩, ⟨(some 99), .move (.tmp 4), 24, (some (98, false))⟩, ⟨(some 100), .nilCheck (.tmp 99), 0, (some (98, false))⟩, ⟨(some 101), .fieldAddr 31 (.tmp 100) 1, 0, (some (98, false))⟩, ⟨(some 102), .load 27 (.tmp 101), 27, (some (98, false))⟩, ⟨(some 103), .move (.tmp 10), 3, (some (98, false))⟩, ⟨(some 104), .call ⟨.value (.func 23), #[(.tmp 102), (.tmp 103)], #[27, 3]⟩, 3, (some (98, false))⟩, ⟨(some 105), .move (.tmp 10), 3, (some (98, false))⟩, ⟨(some 106), .binOp .neq 3 (.tmp 104) (.tmp 105) 3, 4, (some (98, false))⟩, ⟨(some 107), .pick (.tmp 98) (.const (.bool true)) (.tmp 106), 4, none⟩]
theorem w9_22 : WXi EE n0 rd (.reg r9_22) t m (Q := ⟨Q⟩) = (n0 ≤ m.next ∧ XWi EE m.next [(0, ⟨(some 91), .move (.tmp 12), 38, none⟩), (1, ⟨(some 92), .binOp .neq 38 (.tmp 91) (.const (.int .i64 0)) 38, 4, none⟩), (2, ⟨(some 93), .move (.tmp 92), 4, none⟩), (3, ⟨(some 94), .move (.tmp 11), 3, (some (93, false))⟩), (4, ⟨(some 95), .move (.tmp 10), 3, (some (93, false))⟩), (5, ⟨(some 96), .binOp .neq 3 (.tmp 94) (.tmp 95) 3, 4, (some (93, false))⟩), (6, ⟨(some 97), .pick (.tmp 93) (.const (.bool true)) (.tmp 96), 4, none⟩), (7, ⟨(some 98), .move (.tmp 97), 4, none⟩), (8, ⟨(some 99), .move (.tmp 4), 24, (some (98, false))⟩), (9, ⟨(some 100), .nilCheck (.tmp 99), 0, (some (98, false))⟩), (10, ⟨(some 101), .fieldAddr 31 (.tmp 100) 1, 0, (some (98, false))⟩), (11, ⟨(some 102), .load 27 (.tmp 101), 27, (some (98, false))⟩), (12, ⟨(some 103), .move (.tmp 10), 3, (some (98, false))⟩), (13, ⟨(some 104), .call ⟨.value (.func 23), #[(.tmp 102), (.tmp 103)], #[27, 3]⟩, 3, (some (98, false))⟩), (14, ⟨(some 105), .move (.tmp 10), 3, (some (98, false))⟩), (15, ⟨(some 106), .binOp .neq 3 (.tmp 104) (.tmp 105) 3, 4, (some (98, false))⟩), (16, ⟨(some 107), .pick (.tmp 98) (.const (.bool true)) (.tmp 106), 4, none⟩)] [] t (m.bump 17) (Q := ⟨fun _ => Q .normal⟩)) := by kernel_rfl
noncomputable def r9_23 : List SOp := [⟨(some 2), .assign (.const (.bool false)), 4, none⟩]
theorem w9_23 : WXi EE n0 rd (.reg r9_23) t m (Q := ⟨Q⟩) = (n0 ≤ m.next ∧ XWi EE m.next [(0, ⟨(some 2), .assign (.const (.bool false)), 4, none⟩)] [] t (m.bump 1) (Q := ⟨fun _ => Q .normal⟩)) := by kernel_rfl
noncomputable def c9_24 : SCode := (.seq (.reg r9_23) .ret)
theorem w9_24 : WXi EE n0 rd c9_24 t m (Q := ⟨Q⟩) = WXi EE n0 rd (.seq (.reg r9_23) .ret) t m (Q := ⟨Q⟩) := rfl
noncomputable def c9_25 : SCode := (.seq (.seq (.reg r9_20) (.cond (.tmp 81) (.exit 3) .skip)) (.seq (.reg r9_21) (.seq (.reg r9_22) (.cond (.tmp 107) c9_24 .skip))))
theorem w9_25 : WXi EE n0 rd c9_25 t m (Q := ⟨Q⟩) = WXi EE n0 rd (.seq (.seq (.reg r9_20) (.cond (.tmp 81) (.exit 3) .skip)) (.seq (.reg r9_21) (.seq (.reg r9_22) (.cond (.tmp 107) c9_24 .skip)))) t m (Q := ⟨Q⟩) := rfl
noncomputable def r9_26 : List SOp := [⟨(some 73), .move (.tmp 10), 3, none⟩, ⟨(some 74), .binOp .add 3 (.tmp 73) (.const (.int .i64 1)) 3, 3, none⟩, ⟨(some 10), .assign (.tmp 74), 3, none⟩]
theorem w9_26 : WXi EE n0 rd (.reg r9_26) t m (Q := ⟨Q⟩) = (n0 ≤ m.next ∧ XWi EE m.next [(0, ⟨(some 73), .move (.tmp 10), 3, none⟩), (1, ⟨(some 74), .binOp .add 3 (.tmp 73) (.const (.int .i64 1)) 3, 3, none⟩), (2, ⟨(some 10), .assign (.tmp 74), 3, none⟩)] [] t (m.bump 3) (Q := ⟨fun _ => Q .normal⟩)) := by kernel_rfl
noncomputable def c9_27 : SCode := (.seq (.seq (.reg r9_19) (.cond (.tmp 72) .skip (.exit 2))) (.seq (.block 3 c9_25) (.reg r9_26)))
theorem w9_27 : WXi EE n0 rd c9_27 t m (Q := ⟨Q⟩) = WXi EE n0 rd (.seq (.seq (.reg r9_19) (.cond (.tmp 72) .skip (.exit 2))) (.seq (.block 3 c9_25) (.reg r9_26))) t m (Q := ⟨Q⟩) := rfl
noncomputable def c9_28 : SCode := (.loop c9_27)
theorem w9_28 : WXi EE n0 rd c9_28 t m (Q := ⟨Q⟩) = WXi EE n0 rd (.loop c9_27) t m (Q := ⟨Q⟩) := rfl
noncomputable def r9_29 : List SOp := [⟨(some 109), .move (.tmp 4), 24, none⟩, ⟨(some 110), .nilCheck (.tmp 109), 0, none⟩, ⟨(some 111), .fieldAddr 31 (.tmp 110) 0, 0, none⟩, ⟨(some 112), .load 26 (.tmp 111), 26, none⟩, ⟨(some 113), .build 34 #[], 34, none⟩, ⟨(some 114), .call ⟨.value (.func 21), #[(.tmp 112), (.tmp 113)], #[26, 34]⟩, 50, none⟩, ⟨(some 108), .move (.tmp 114), 50, none⟩, ⟨(some 115), .extract (.tmp 108) 0, 3, none⟩, ⟨(some 116), .extract (.tmp 108) 1, 38, none⟩, ⟨(some 13), .assign (.tmp 115), 3, none⟩, ⟨(some 14), .assign (.tmp 116), 38, none⟩]
theorem w9_29 : WXi EE n0 rd (.reg r9_29) t m (Q := ⟨Q⟩) = (n0 ≤ m.next ∧ XWi EE m.next [(0, ⟨(some 109), .move (.tmp 4), 24, none⟩), (1, ⟨(some 110), .nilCheck (.tmp 109), 0, none⟩), (2, ⟨(some 111), .fieldAddr 31 (.tmp 110) 0, 0, none⟩), (3, ⟨(some 112), .load 26 (.tmp 111), 26, none⟩), (4, ⟨(some 113), .build 34 #[], 34, none⟩), (5, ⟨(some 114), .call ⟨.value (.func 21), #[(.tmp 112), (.tmp 113)], #[26, 34]⟩, 50, none⟩), (6, ⟨(some 108), .move (.tmp 114), 50, none⟩), (7, ⟨(some 115), .extract (.tmp 108) 0, 3, none⟩), (8, ⟨(some 116), .extract (.tmp 108) 1, 38, none⟩), (9, ⟨(some 13), .assign (.tmp 115), 3, none⟩), (10, ⟨(some 14), .assign (.tmp 116), 38, none⟩)] [] t (m.bump 11) (Q := ⟨fun _ => Q .normal⟩)) := by kernel_rfl
noncomputable def r9_30 : List SOp := [⟨(some 118), .move (.tmp 4), 24, none⟩, ⟨(some 119), .nilCheck (.tmp 118), 0, none⟩, ⟨(some 120), .fieldAddr 31 (.tmp 119) 1, 0, none⟩, ⟨(some 121), .load 27 (.tmp 120), 27, none⟩, ⟨(some 122), .call ⟨.value (.func 33), #[(.tmp 121), (.const (.int .i64 0))], #[27, 3]⟩, 50, none⟩, ⟨(some 117), .move (.tmp 122), 50, none⟩, ⟨(some 123), .extract (.tmp 117) 0, 3, none⟩, ⟨(some 124), .extract (.tmp 117) 1, 38, none⟩, ⟨(some 15), .assign (.tmp 123), 3, none⟩, ⟨(some 16), .assign (.tmp 124), 38, none⟩]
theorem w9_30 : WXi EE n0 rd (.reg r9_30) t m (Q := ⟨Q⟩) = (n0 ≤ m.next ∧ XWi EE m.next [(0, ⟨(some 118), .move (.tmp 4), 24, none⟩), (1, ⟨(some 119), .nilCheck (.tmp 118), 0, none⟩), (2, ⟨(some 120), .fieldAddr 31 (.tmp 119) 1, 0, none⟩), (3, ⟨(some 121), .load 27 (.tmp 120), 27, none⟩), (4, ⟨(some 122), .call ⟨.value (.func 33), #[(.tmp 121), (.const (.int .i64 0))], #[27, 3]⟩, 50, none⟩), (5, ⟨(some 117), .move (.tmp 122), 50, none⟩), (6, ⟨(some 123), .extract (.tmp 117) 0, 3, none⟩), (7, ⟨(some 124), .extract (.tmp 117) 1, 38, none⟩), (8, ⟨(some 15), .assign (.tmp 123), 3, none⟩), (9, ⟨(some 16), .assign (.tmp 124), 38, none⟩)] [] t (m.bump 10) (Q := ⟨fun _ => Q .normal⟩)) := by kernel_rfl
noncomputable def r9_31 : List SOp := [⟨(some 126), .move (.tmp 4), 24, none⟩, ⟨(some 127), .nilCheck (.tmp 126), 0, none⟩, ⟨(some 128), .fieldAddr 31 (.tmp 127) 1, 0, none⟩, ⟨(some 129), .load 27 (.tmp 128), 27, none⟩, ⟨(some 130), .call ⟨.value (.func 25), #[(.tmp 129), (.const (.int .i64 0))], #[27, 3]⟩, 50, none⟩, ⟨(some 125), .move (.tmp 130), 50, none⟩, ⟨(some 131), .extract (.tmp 125) 0, 3, none⟩, ⟨(some 132), .extract (.tmp 125) 1, 38, none⟩, ⟨(some 17), .assign (.tmp 131), 3, none⟩, ⟨(some 18), .assign (.tmp 132), 38, none⟩]
theorem w9_31 : WXi EE n0 rd (.reg r9_31) t m (Q := ⟨Q⟩) = (n0 ≤ m.next ∧ XWi EE m.next [(0, ⟨(some 126), .move (.tmp 4), 24, none⟩), (1, ⟨(some 127), .nilCheck (.tmp 126), 0, none⟩), (2, ⟨(some 128), .fieldAddr 31 (.tmp 127) 1, 0, none⟩), (3, ⟨(some 129), .load 27 (.tmp 128), 27, none⟩), (4, ⟨(some 130), .call ⟨.value (.func 25), #[(.tmp 129), (.const (.int .i64 0))], #[27, 3]⟩, 50, none⟩), (5, ⟨(some 125), .move (.tmp 130), 50, none⟩), (6, ⟨(some 131), .extract (.tmp 125) 0, 3, none⟩), (7, ⟨(some 132), .extract (.tmp 125) 1, 38, none⟩), (8, ⟨(some 17), .assign (.tmp 131), 3, none⟩), (9, ⟨(some 18), .assign (.tmp 132), 38, none⟩)] [] t (m.bump 10) (Q := ⟨fun _ => Q .normal⟩)) := by kernel_rfl
noncomputable def r9_32 : List SOp := [⟨(some 133), .move (.tmp 3), 4, none⟩, ⟨(some 134), .move (.tmp 133), 4, none⟩, ⟨(some 135), .move (.tmp 14), 38, (some (134, true))⟩, ⟨(some 136), .binOp .eql 38 (.tmp 135) (.const (.int .i64 100)) 38, 4, (some (134, true))⟩, ⟨(some 137), .pick (.tmp 134) (.tmp 136) (.const (.bool false)), 4, none⟩, ⟨(some 138), .move (.tmp 137), 4, none⟩, ⟨(some 139), .move (.tmp 16), 38, (some (138, true))⟩, ⟨(some 140), .binOp .eql 38 (.tmp 139) (.const (.int .i64 102)) 38, 4, (some (138, true))⟩, ⟨(some 141), .pick (.tmp 138) (.tmp 140) (.const (.bool false)), 4, none⟩, ⟨(some 142), .move (.tmp 141), 4, none⟩, ⟨(some 143), .move (.tmp 18), 38, (some (142, true))⟩, ⟨(some 144), .binOp .eql 38 (.tmp 143) (.const (.int .i64 102)) 38, 4, (some (142, true))⟩, ⟨(some 145), .pick (.tmp 142) (.tmp 144) (.const (.bool false)), 4, none⟩, ⟨(some 146), .move (.tmp 145), 4, none⟩, ⟨(some 147), .move (.tmp 4), 24, (some (146, true))⟩, ⟨(some 148), .nilCheck (.tmp 147), 0, (some (146, true))⟩, ⟨(some 149), .fieldAddr 31 (.tmp 148) 0, 0, (some (146, true))⟩, ⟨(some 150), .load 26 (.tmp 149), 26, (some (146, true))⟩, ⟨(some 151), .call ⟨.value (.func 20), #[(.tmp 150)], #[26]⟩, 3, (some (146, true))⟩, ⟨(some 152), .binOp .eql 3 (.tmp 151) (.const (.int .i64 0)) 3, 4, (some (146, true))⟩, ⟨(some 153), .pick (.tmp 146) (.tmp 152) (.const (.bool false)), 4, none⟩, ⟨(some 154), .move (.tmp 153), 4, none⟩, ⟨(some 155), .move (.tmp 4), 24, (some (154, true))⟩, ⟨(some 156), .nilCheck (.tmp 155), 0, (some (154, true))⟩, ⟨(some 157), .fieldAddr 31 (.tmp 156) 1, 0, (some (154, true))⟩, ⟨(some 158), .load 27 (.tmp 157), 27, (some (154, true))⟩, ⟨(some 159), .call ⟨.value (.func 24), #[(.tmp 158)], #[27]⟩, 3, (some (154, true))⟩, ⟨(some 160), .binOp .eql 3 (.tmp 159) (.const (.int .i64 8)) 3, 4, (some (154, true))⟩, ⟨(some 161), .pick (.tmp 154) (.tmp 160) (.const (.bool false)), 4, none⟩, ⟨(some 2), .assign (.tmp 161), 4, none⟩]
theorem w9_32 : WXi EE n0 rd (.reg r9_32) t m (Q := ⟨Q⟩) = (n0 ≤ m.next ∧ XWi EE m.next [(0, ⟨(some 133), .move (.tmp 3), 4, none⟩), (1, ⟨(some 134), .move (.tmp 133), 4, none⟩), (2, ⟨(some 135), .move (.tmp 14), 38, (some (134, true))⟩), (3, ⟨(some 136), .binOp .eql 38 (.tmp 135) (.const (.int .i64 100)) 38, 4, (some (134, true))⟩), (4, ⟨(some 137), .pick (.tmp 134) (.tmp 136) (.const (.bool false)), 4, none⟩), (5, ⟨(some 138), .move (.tmp 137), 4, none⟩), (6, ⟨(some 139), .move (.tmp 16), 38, (some (138, true))⟩), (7, ⟨(some 140), .binOp .eql 38 (.tmp 139) (.const (.int .i64 102)) 38, 4, (some (138, true))⟩), (8, ⟨(some 141), .pick (.tmp 138) (.tmp 140) (.const (.bool false)), 4, none⟩), (9, ⟨(some 142), .move (.tmp 141), 4, none⟩), (10, ⟨(some 143), .move (.tmp 18), 38, (some (142, true))⟩), (11, ⟨(some 144), .binOp .eql 38 (.tmp 143) (.const (.int .i64 102)) 38, 4, (some (142, true))⟩), (12, ⟨(some 145), .pick (.tmp 142) (.tmp 144) (.const (.bool false)), 4, none⟩), (13, ⟨(some 146), .move (.tmp 145), 4, none⟩), (14, ⟨(some 147), .move (.tmp 4), 24, (some (146, true))⟩), (15, ⟨(some 148), .nilCheck (.tmp 147), 0, (some (146, true))⟩), (16, ⟨(some 149), .fieldAddr 31 (.tmp 148) 0, 0, (some (146, true))⟩), (17, ⟨(some 150), .load 26 (.tmp 149), 26, (some (146, true))⟩), (18, ⟨(some 151), .call ⟨.value (.func 20), #[(.tmp 150)], #[26]⟩, 3, (some (146, true))⟩), (19, ⟨(some 152), .binOp .eql 3 (.tmp 151) (.const (.int .i64 0)) 3, 4, (some (146, true))⟩), (20, ⟨(some 153), .pick (.tmp 146) (.tmp 152) (.const (.bool false)), 4, none⟩), (21, ⟨(some 154), .move (.tmp 153), 4, none⟩), (22, ⟨(some 155), .move (.tmp 4), 24, (some (154, true))⟩), (23, ⟨(some 156), .nilCheck (.tmp 155), 0, (some (154, true))⟩), (24, ⟨(some 157), .fieldAddr 31 (.tmp 156) 1, 0, (some (154, true))⟩), (25, ⟨(some 158), .load 27 (.tmp 157), 27, (some (154, true))⟩), (26, ⟨(some 159), .call ⟨.value (.func 24), #[(.tmp 158)], #[27]⟩, 3, (some (154, true))⟩), (27, ⟨(some 160), .binOp .eql 3 (.tmp 159) (.const (.int .i64 8)) 3, 4, (some (154, true))⟩), (28, ⟨(some 161), .pick (.tmp 154) (.tmp 160) (.const (.bool false)), 4, none⟩), (29, ⟨(some 2), .assign (.tmp 161), 4, none⟩)] [] t (m.bump 30) (Q := ⟨fun _ => Q .normal⟩)) := by kernel_rfl
noncomputable def c9 : SCode := (.seq (.reg r9_0) (.seq (.reg r9_1) (.seq (.seq (.reg r9_2) (.cond (.tmp 26) c9_4 .skip)) (.seq (.reg r9_5) (.seq (.seq (.reg r9_6) (.block 0 c9_17)) (.seq (.seq (.reg r9_18) (.block 2 c9_28)) (.seq (.reg r9_29) (.seq (.reg r9_30) (.seq (.reg r9_31) (.seq (.reg r9_32) .ret))))))))))
theorem w9 : WXi EE n0 rd c9 t m (Q := ⟨Q⟩) = WXi EE n0 rd (.seq (.reg r9_0) (.seq (.reg r9_1) (.seq (.seq (.reg r9_2) (.cond (.tmp 26) c9_4 .skip)) (.seq (.reg r9_5) (.seq (.seq (.reg r9_6) (.block 0 c9_17)) (.seq (.seq (.reg r9_18) (.block 2 c9_28)) (.seq (.reg r9_29) (.seq (.reg r9_30) (.seq (.reg r9_31) (.seq (.reg r9_32) .ret)))))))))) t m (Q := ⟨Q⟩) := rfl
noncomputable def f9 : SFunc := ⟨162, [.tmp 2], c9⟩
-- RULES 9 w9_0, w9_1, w9_2, w9_3, w9_4, w9_5, w9_6, w9_7, w9_8, w9_9, w9_10, w9_11, w9_12, w9_13, w9_14, w9_15, w9_16, w9_17, w9_18, w9_19, w9_20, w9_21, w9_22, w9_23, w9_24, w9_25, w9_26, w9_27, w9_28, w9_29, w9_30, w9_31, w9_32
theorem fn9 : fnOf EE.P 9 = some f9 := by kernel_rfl
/-! types -/
theorem ca_10 : callable EE.P 10 = true := by kernel_rfl
theorem ca_11 : callable EE.P 11 = true := by kernel_rfl
theorem ca_13 : callable EE.P 13 = true := by kernel_rfl
theorem ca_14 : callable EE.P 14 = true := by kernel_rfl
theorem ca_20 : callable EE.P 20 = true := by kernel_rfl
theorem ca_24 : callable EE.P 24 = true := by kernel_rfl
-- FACTS lay_3, lay_74, lay_34, lay_71, lay_47, lay_26, lay_69, lay_28, lay_27, lay_29, lay_46, sz_3, sz_74, sz_34, sz_71, sz_47, sz_26, sz_69, sz_28, sz_27, sz_29, sz_46, zero_74, zero_34, zero_47, zero_69, fo_74_0, fo_71_1, fo_71_0, fo_34_0, fo_69_0, fo_65_1, fo_65_0, fo_60_0, fo_46_0, fo_31_0, fo_46_1, fo_31_2, fo_46_2, fo_31_1, fo_31_3, fo_46_3, und_26, und_72, und_3, und_38, und_47, und_27, und_67, und_63, und_62, und_22, ca_34, ca_19, ca_43, ca_46, ca_29, ca_47, ca_23, ca_33, ca_44, ca_50, ca_30, ca_48, ca_32, ca_39, ca_35, ca_21, ca_36, ca_16, ca_37, ca_15, ca_38, ca_28, ca_40, ca_26, ca_41, ca_25, ca_42, ca_12, ca_27, ca_17, ca_18, ca_10, ca_11, ca_13, ca_14, ca_20, ca_24
end
end Go.Ab
