/- Files: the code of one law, as data; facts on its types. -/
import Derived.Test.YthidhnbniklhmaaFiA
namespace Go.Ab
open Go.Proofs
noncomputable section
variable {n0 : Nat} {rd : Option Nat} {t : List Value} {m : Mem} {Q : Exit → List Value → Mem → Prop}
/-! (*carryall/files.Files).may -/
-- RULES 34 w34_0, w34_1, w34_2, w34_3, w34_4, w34_5, w34_6, w34_7, w34_8, w34_9
/-! (*carryall/files.Files).Copy -/
-- RULES 12 w12_0, w12_1, w12_2, w12_3, w12_4, w12_5
/-! (*carryall/files.Files).Get -/
-- RULES 13 w13_0, w13_1, w13_2, w13_3, w13_4
/-! (*carryall/files.Files).Refs -/
-- RULES 14 w14_0, w14_1, w14_2, w14_3, w14_4
/-! (*carryall/files.Files).Drop -/
-- RULES 15 w15_0, w15_1, w15_2, w15_3, w15_4, w15_5, w15_6, w15_7, w15_8, w15_9, w15_10, w15_11, w15_12
/-! (*carryall/files.Files).Share -/
-- RULES 16 w16_0, w16_1, w16_2, w16_3, w16_4, w16_5
/-! (*carryall/files.Files).Open -/
-- RULES 21 w21_0, w21_1, w21_2, w21_3, w21_4, w21_5, w21_6, w21_7, w21_8, w21_9, w21_10, w21_11, w21_12, w21_13, w21_14, w21_15, w21_16, w21_17, w21_18, w21_19, w21_20
/-! (*carryall/files.Files).Free -/
-- RULES 20 w20_0, w20_1, w20_2, w20_3, w20_4
/-! (*carryall/files.Files).Used -/
-- RULES 19 w19_0, w19_1, w19_2, w19_3, w19_4, w19_5, w19_6, w19_7, w19_8, w19_9
/-! (*carryall/files.Files).used -/
-- RULES 43 w43_0, w43_1
/-! (*carryall/files.Files).used$1 -/
-- RULES 49 w49_0, w49_1, w49_2, w49_3, w49_4, w49_5, w49_6, w49_7, w49_8, w49_9
/-! carryall/files.number -/
-- RULES 46 w46_0, w46_1
/-! (*carryall/files.Fds).Put -/
-- RULES 33 w33_0, w33_1, w33_2, w33_3, w33_4, w33_5, w33_6, w33_7, w33_8, w33_9, w33_10, w33_11, w33_12, w33_13, w33_14
/-! (*carryall/files.Fds).Set -/
-- RULES 28 w28_0, w28_1, w28_2, w28_3, w28_4, w28_5, w28_6, w28_7, w28_8, w28_9, w28_10, w28_11, w28_12, w28_13, w28_14
/-! (*carryall/files.Fds).Get -/
-- RULES 23 w23_0, w23_1, w23_2, w23_3, w23_4
/-! (*carryall/files.Fds).Close -/
-- RULES 26 w26_0, w26_1, w26_2, w26_3, w26_4, w26_5, w26_6, w26_7, w26_8, w26_9, w26_10, w26_11
/-! (*carryall/files.Fds).Dup -/
-- RULES 25 w25_0, w25_1, w25_2, w25_3, w25_4, w25_5, w25_6, w25_7, w25_8, w25_9, w25_10
/-! (*carryall/files.Fds).List -/
-- RULES 29 w29_0, w29_1, w29_2, w29_3, w29_4, w29_5, w29_6, w29_7, w29_8, w29_9, w29_10, w29_11, w29_12
/-! (*carryall/files.Fds).Len -/
-- RULES 24 w24_0, w24_1
/-! (*carryall/files.Fds).Copy -/
-- RULES 27 w27_0, w27_1, w27_2, w27_3, w27_4, w27_5
/-! slices.DeleteFunc[[]int,int] -/
-- RULES 44 w44_0, w44_1, w44_2, w44_3, w44_4, w44_5, w44_6, w44_7, w44_8, w44_9, w44_10, w44_11, w44_12, w44_13, w44_14, w44_15, w44_16, w44_17
/-! (*carryall/files.Fds).Len$1 -/
-- RULES 45 w45_0, w45_1
/-! slices.Index[[]int,int] -/
-- RULES 47 w47_0, w47_1, w47_2, w47_3, w47_4, w47_5, w47_6, w47_7, w47_8, w47_9, w47_10, w47_11
/-! slices.IndexFunc[[]int,int] -/
-- RULES 50 w50_0, w50_1, w50_2, w50_3, w50_4, w50_5, w50_6, w50_7, w50_8, w50_9, w50_10, w50_11
/-! (*carryall/carryallref10.Files).Is -/
-- RULES 30 w30_0, w30_1
/-! (*carryall/carryallref10.Files).Open -/
-- RULES 36 w36_0, w36_1, w36_2, w36_3, w36_4, w36_5, w36_6, w36_7, w36_8, w36_9, w36_10, w36_11, w36_12, w36_13, w36_14, w36_15
/-! (*carryall/carryallref10.Files).Share -/
-- RULES 37 w37_0, w37_1, w37_2, w37_3, w37_4, w37_5, w37_6
/-! (*carryall/carryallref10.Files).Drop -/
-- RULES 38 w38_0, w38_1, w38_2, w38_3, w38_4, w38_5, w38_6
/-! (*carryall/carryallref10.Files).Used -/
-- RULES 31 w31_0, w31_1, w31_2, w31_3, w31_4, w31_5, w31_6, w31_7, w31_8, w31_9, w31_10, w31_11
/-! carryall/carryallref10.New -/
-- RULES 35 w35_0, w35_1
/-! (*carryall/carryallref10.Fds).Get -/
-- RULES 32 w32_0, w32_1, w32_2, w32_3, w32_4
/-! (*carryall/carryallref10.Fds).set -/
-- RULES 48 w48_0, w48_1, w48_2, w48_3
/-! (*carryall/carryallref10.Fds).Put -/
-- RULES 39 w39_0, w39_1, w39_2, w39_3, w39_4, w39_5, w39_6, w39_7, w39_8, w39_9, w39_10, w39_11, w39_12, w39_13, w39_14
/-! (*carryall/carryallref10.Fds).Set -/
-- RULES 40 w40_0, w40_1, w40_2, w40_3, w40_4, w40_5, w40_6, w40_7, w40_8
/-! (*carryall/carryallref10.Fds).Close -/
-- RULES 41 w41_0, w41_1, w41_2, w41_3, w41_4, w41_5, w41_6
/-! (*carryall/carryallref10.Fds).Dup -/
-- RULES 42 w42_0, w42_1, w42_2, w42_3, w42_4, w42_5
/-! carryall/carryallref04.Same -/
-- RULES 22 w22_0, w22_1, w22_2, w22_3, w22_4, w22_5, w22_6, w22_7, w22_8, w22_9, w22_10, w22_11, w22_12, w22_13
/-! carryall/carryalllaw10.fresh -/
-- RULES 17 w17_0, w17_1
/-! (*carryall/carryalllaw10.both).do -/
-- RULES 18 w18_0, w18_1, w18_2, w18_3, w18_4, w18_5, w18_6, w18_7, w18_8, w18_9, w18_10, w18_11, w18_12, w18_13, w18_14, w18_15, w18_16, w18_17, w18_18, w18_19, w18_20, w18_21, w18_22, w18_23, w18_24, w18_25, w18_26, w18_27, w18_28, w18_29, w18_30, w18_31, w18_32, w18_33, w18_34, w18_35, w18_36, w18_37, w18_38, w18_39, w18_40, w18_41, w18_42, w18_43, w18_44, w18_45, w18_46, w18_47, w18_48, w18_49, w18_50, w18_51
/-! carryall/carryalllaw10.grown -/
-- RULES 11 w11_0, w11_1, w11_2, w11_3, w11_4, w11_5, w11_6, w11_7, w11_8, w11_9, w11_10
/-! carryall/carryalllaw10.alive -/
-- RULES 10 w10_0, w10_1, w10_2, w10_3, w10_4, w10_5, w10_6, w10_7, w10_8
/-! carryall/carryalllaw10.FilesTraces -/
noncomputable def r4_0 : List SOp := [⟨(some 4), .box 34 (.tmp 1), 0, none⟩, ⟨(some 6), .assign (.const (.bool false)), 4, none⟩]
theorem w4_0 : WXi EE n0 rd (.reg r4_0) t m (Q := ⟨Q⟩) = (n0 ≤ m.next ∧ XWi EE m.next [(0, ⟨(some 4), .box 34 (.tmp 1), 0, none⟩), (1, ⟨(some 6), .assign (.const (.bool false)), 4, none⟩)] [] t (m.bump 2) (Q := ⟨fun _ => Q .normal⟩)) := by kernel_rfl
noncomputable def r4_1 : List SOp := [⟨(some 19), .call ⟨.value (.func 10), #[], #[]⟩, 4, none⟩, ⟨(some 7), .assign (.tmp 19), 4, none⟩]
theorem w4_1 : WXi EE n0 rd (.reg r4_1) t m (Q := ⟨Q⟩) = (n0 ≤ m.next ∧ XWi EE m.next [(0, ⟨(some 19), .call ⟨.value (.func 10), #[], #[]⟩, 4, none⟩), (1, ⟨(some 7), .assign (.tmp 19), 4, none⟩)] [] t (m.bump 2) (Q := ⟨fun _ => Q .normal⟩)) := by kernel_rfl
noncomputable def r4_2 : List SOp := [⟨(some 20), .move (.tmp 0), 22, none⟩, ⟨(some 21), .call ⟨.builtin .len, #[(.tmp 20)], #[22]⟩, 3, none⟩, ⟨(some 22), .binOp .gtr 3 (.tmp 21) (.const (.int .i64 200)) 3, 4, none⟩, ⟨(some 23), .move (.tmp 22), 4, none⟩, ⟨(some 24), .move (.tmp 7), 4, (some (23, false))⟩, ⟨(some 25), .unOp .not 4 (.tmp 24), 4, (some (23, false))⟩, ⟨(some 26), .pick (.tmp 23) (.const (.bool true)) (.tmp 25), 4, none⟩]
theorem w4_2 : WXi EE n0 rd (.reg r4_2) t m (Q := ⟨Q⟩) = (n0 ≤ m.next ∧ XWi EE m.next [(0, ⟨(some 20), .move (.tmp 0), 22, none⟩), (1, ⟨(some 21), .call ⟨.builtin .len, #[(.tmp 20)], #[22]⟩, 3, none⟩), (2, ⟨(some 22), .binOp .gtr 3 (.tmp 21) (.const (.int .i64 200)) 3, 4, none⟩), (3, ⟨(some 23), .move (.tmp 22), 4, none⟩), (4, ⟨(some 24), .move (.tmp 7), 4, (some (23, false))⟩), (5, ⟨(some 25), .unOp .not 4 (.tmp 24), 4, (some (23, false))⟩), (6, ⟨(some 26), .pick (.tmp 23) (.const (.bool true)) (.tmp 25), 4, none⟩)] [] t (m.bump 7) (Q := ⟨fun _ => Q .normal⟩)) := by kernel_rfl
noncomputable def r4_3 : List SOp := [⟨(some 27), .move (.tmp 7), 4, none⟩, ⟨(some 6), .assign (.tmp 27), 4, none⟩]
theorem w4_3 : WXi EE n0 rd (.reg r4_3) t m (Q := ⟨Q⟩) = (n0 ≤ m.next ∧ XWi EE m.next [(0, ⟨(some 27), .move (.tmp 7), 4, none⟩), (1, ⟨(some 6), .assign (.tmp 27), 4, none⟩)] [] t (m.bump 2) (Q := ⟨fun _ => Q .normal⟩)) := by kernel_rfl
noncomputable def c4_4 : SCode := (.seq (.reg r4_3) .ret)
theorem w4_4 : WXi EE n0 rd c4_4 t m (Q := ⟨Q⟩) = WXi EE n0 rd (.seq (.reg r4_3) .ret) t m (Q := ⟨Q⟩) := rfl
noncomputable def r4_5 : List SOp := [⟨(some 28), .call ⟨.value (.func 17), #[], #[]⟩, 24, none⟩, ⟨(some 8), .assign (.tmp 28), 24, none⟩]
theorem w4_5 : WXi EE n0 rd (.reg r4_5) t m (Q := ⟨Q⟩) = (n0 ≤ m.next ∧ XWi EE m.next [(0, ⟨(some 28), .call ⟨.value (.func 17), #[], #[]⟩, 24, none⟩), (1, ⟨(some 8), .assign (.tmp 28), 24, none⟩)] [] t (m.bump 2) (Q := ⟨fun _ => Q .normal⟩)) := by kernel_rfl
noncomputable def r4_6 : List SOp := [⟨(some 29), .move (.tmp 0), 22, none⟩, ⟨(some 30), .call ⟨.builtin .len, #[(.tmp 29)], #[22]⟩, 3, none⟩, ⟨(some 31), .move (.const (.int .i64 0)), 3, none⟩]
theorem w4_6 : WXi EE n0 rd (.reg r4_6) t m (Q := ⟨Q⟩) = (n0 ≤ m.next ∧ XWi EE m.next [(0, ⟨(some 29), .move (.tmp 0), 22, none⟩), (1, ⟨(some 30), .call ⟨.builtin .len, #[(.tmp 29)], #[22]⟩, 3, none⟩), (2, ⟨(some 31), .move (.const (.int .i64 0)), 3, none⟩)] [] t (m.bump 3) (Q := ⟨fun _ => Q .normal⟩)) := by kernel_rfl
noncomputable def r4_7 : List SOp := [⟨(some 32), .binOp .lss 3 (.tmp 31) (.tmp 30) 3, 0, none⟩]
theorem w4_7 : WXi EE n0 rd (.reg r4_7) t m (Q := ⟨Q⟩) = (n0 ≤ m.next ∧ XWi EE m.next [(0, ⟨(some 32), .binOp .lss 3 (.tmp 31) (.tmp 30) 3, 0, none⟩)] [] t (m.bump 1) (Q := ⟨fun _ => Q .normal⟩)) := by kernel_rfl
noncomputable def r4_8 : List SOp := [⟨(some 33), .move (.tmp 31), 3, none⟩, ⟨(some 9), .assign (.tmp 33), 3, none⟩]
theorem w4_8 : WXi EE n0 rd (.reg r4_8) t m (Q := ⟨Q⟩) = (n0 ≤ m.next ∧ XWi EE m.next [(0, ⟨(some 33), .move (.tmp 31), 3, none⟩), (1, ⟨(some 9), .assign (.tmp 33), 3, none⟩)] [] t (m.bump 2) (Q := ⟨fun _ => Q .normal⟩)) := by kernel_rfl
noncomputable def r4_9 : List SOp := [⟨(some 34), .move (.tmp 8), 24, none⟩, ⟨(some 35), .move (.tmp 0), 22, none⟩, ⟨(some 36), .move (.tmp 9), 3, none⟩, ⟨(some 37), .indexAddr 22 (.tmp 35) (.tmp 36), 0, none⟩, ⟨(some 38), .load 46 (.tmp 37), 46, none⟩, ⟨(some 39), .call ⟨.value (.func 18), #[(.tmp 34), (.tmp 38)], #[24, 46]⟩, 4, none⟩]
theorem w4_9 : WXi EE n0 rd (.reg r4_9) t m (Q := ⟨Q⟩) = (n0 ≤ m.next ∧ XWi EE m.next [(0, ⟨(some 34), .move (.tmp 8), 24, none⟩), (1, ⟨(some 35), .move (.tmp 0), 22, none⟩), (2, ⟨(some 36), .move (.tmp 9), 3, none⟩), (3, ⟨(some 37), .indexAddr 22 (.tmp 35) (.tmp 36), 0, none⟩), (4, ⟨(some 38), .load 46 (.tmp 37), 46, none⟩), (5, ⟨(some 39), .call ⟨.value (.func 18), #[(.tmp 34), (.tmp 38)], #[24, 46]⟩, 4, none⟩)] [] t (m.bump 6) (Q := ⟨fun _ => Q .normal⟩)) := by kernel_rfl
noncomputable def c4_10 : SCode := (.seq (.reg r4_8) (.reg r4_9))
theorem w4_10 : WXi EE n0 rd c4_10 t m (Q := ⟨Q⟩) = WXi EE n0 rd (.seq (.reg r4_8) (.reg r4_9)) t m (Q := ⟨Q⟩) := rfl
noncomputable def r4_11 : List SOp := [⟨(some 40), .binOp .add 3 (.tmp 31) (.const (.int .i64 1)) 3, 3, none⟩, ⟨(some 31), .move (.tmp 40), 3, none⟩]
theorem w4_11 : WXi EE n0 rd (.reg r4_11) t m (Q := ⟨Q⟩) = (n0 ≤ m.next ∧ XWi EE m.next [(0, ⟨(some 40), .binOp .add 3 (.tmp 31) (.const (.int .i64 1)) 3, 3, none⟩), (1, ⟨(some 31), .move (.tmp 40), 3, none⟩)] [] t (m.bump 2) (Q := ⟨fun _ => Q .normal⟩)) := by kernel_rfl
noncomputable def c4_12 : SCode := (.seq (.reg r4_7) (.seq (.cond (.tmp 32) .skip (.exit 0)) (.seq (.block 1 c4_10) (.reg r4_11))))
theorem w4_12 : WXi EE n0 rd c4_12 t m (Q := ⟨Q⟩) = WXi EE n0 rd (.seq (.reg r4_7) (.seq (.cond (.tmp 32) .skip (.exit 0)) (.seq (.block 1 c4_10) (.reg r4_11)))) t m (Q := ⟨Q⟩) := rfl
noncomputable def c4_13 : SCode := (.loop c4_12)
theorem w4_13 : WXi EE n0 rd c4_13 t m (Q := ⟨Q⟩) = WXi EE n0 rd (.loop c4_12) t m (Q := ⟨Q⟩) := rfl
noncomputable def r4_14 : List SOp := [⟨(some 41), .move (.tmp 8), 24, none⟩, ⟨(some 42), .nilCheck (.tmp 41), 0, none⟩, ⟨(some 43), .fieldAddr 31 (.tmp 42) 0, 0, none⟩, ⟨(some 44), .load 26 (.tmp 43), 26, none⟩, ⟨(some 45), .call ⟨.value (.func 19), #[(.tmp 44)], #[26]⟩, 47, none⟩, ⟨(some 46), .move (.tmp 8), 24, none⟩, ⟨(some 47), .nilCheck (.tmp 46), 0, none⟩, ⟨(some 48), .fieldAddr 31 (.tmp 47) 0, 0, none⟩, ⟨(some 49), .load 26 (.tmp 48), 26, none⟩, ⟨(some 50), .call ⟨.value (.func 20), #[(.tmp 49)], #[26]⟩, 3, none⟩, ⟨(some 10), .assign (.tmp 45), 47, none⟩, ⟨(some 11), .assign (.tmp 50), 3, none⟩]
theorem w4_14 : WXi EE n0 rd (.dreg r4_14 [(0, []), (1, []), (2, []), (3, []), (4, []), (5, []), (6, []), (7, []), (8, [4]), (9, []), (10, []), (11, [])]) t m (Q := ⟨Q⟩) = (n0 ≤ m.next ∧ YWi EE m.next [(0, ⟨(some 41), .move (.tmp 8), 24, none⟩, [], false), (1, ⟨(some 42), .nilCheck (.tmp 41), 0, none⟩, [], false), (2, ⟨(some 43), .fieldAddr 31 (.tmp 42) 0, 0, none⟩, [], false), (3, ⟨(some 44), .load 26 (.tmp 43), 26, none⟩, [], false), (4, ⟨(some 45), .call ⟨.value (.func 19), #[(.tmp 44)], #[26]⟩, 47, none⟩, [], true), (5, ⟨(some 46), .move (.tmp 8), 24, none⟩, [], false), (6, ⟨(some 47), .nilCheck (.tmp 46), 0, none⟩, [], false), (7, ⟨(some 48), .fieldAddr 31 (.tmp 47) 0, 0, none⟩, [], false), (8, ⟨(some 49), .load 26 (.tmp 48), 26, none⟩, [4], false), (9, ⟨(some 50), .call ⟨.value (.func 20), #[(.tmp 49)], #[26]⟩, 3, none⟩, [], false), (10, ⟨(some 10), .assign (.tmp 45), 47, none⟩, [], false), (11, ⟨(some 11), .assign (.tmp 50), 3, none⟩, [], false)] [] [] t (m.bump 12) (Q := ⟨fun _ => Q .normal⟩)) := by kernel_rfl
noncomputable def r4_15 : List SOp := [⟨(some 52), .move (.tmp 8), 24, none⟩, ⟨(some 53), .nilCheck (.tmp 52), 0, none⟩, ⟨(some 54), .fieldAddr 31 (.tmp 53) 0, 0, none⟩, ⟨(some 55), .load 26 (.tmp 54), 26, none⟩, ⟨(some 56), .load 34 (.tmp 4), 34, none⟩, ⟨(some 57), .call ⟨.value (.func 21), #[(.tmp 55), (.tmp 56)], #[26, 34]⟩, 50, none⟩, ⟨(some 51), .move (.tmp 57), 50, none⟩, ⟨(some 58), .extract (.tmp 51) 0, 3, none⟩, ⟨(some 59), .extract (.tmp 51) 1, 38, none⟩, ⟨(some 12), .assign (.tmp 58), 3, none⟩, ⟨(some 13), .assign (.tmp 59), 38, none⟩]
theorem w4_15 : WXi EE n0 rd (.dreg r4_15 [(0, []), (1, []), (2, []), (3, []), (4, []), (5, []), (6, []), (7, []), (8, []), (9, []), (10, [])]) t m (Q := ⟨Q⟩) = (n0 ≤ m.next ∧ XWi EE m.next [(0, ⟨(some 52), .move (.tmp 8), 24, none⟩), (1, ⟨(some 53), .nilCheck (.tmp 52), 0, none⟩), (2, ⟨(some 54), .fieldAddr 31 (.tmp 53) 0, 0, none⟩), (3, ⟨(some 55), .load 26 (.tmp 54), 26, none⟩), (4, ⟨(some 56), .load 34 (.tmp 4), 34, none⟩), (5, ⟨(some 57), .call ⟨.value (.func 21), #[(.tmp 55), (.tmp 56)], #[26, 34]⟩, 50, none⟩), (6, ⟨(some 51), .move (.tmp 57), 50, none⟩), (7, ⟨(some 58), .extract (.tmp 51) 0, 3, none⟩), (8, ⟨(some 59), .extract (.tmp 51) 1, 38, none⟩), (9, ⟨(some 12), .assign (.tmp 58), 3, none⟩), (10, ⟨(some 13), .assign (.tmp 59), 38, none⟩)] [] t (m.bump 11) (Q := ⟨fun _ => Q .normal⟩)) := by kernel_rfl
noncomputable def r4_16 : List SOp := [⟨(some 60), .move (.tmp 13), 38, none⟩, ⟨(some 61), .binOp .neq 38 (.tmp 60) (.const (.int .i64 0)) 38, 4, none⟩]
theorem w4_16 : WXi EE n0 rd (.reg r4_16) t m (Q := ⟨Q⟩) = (n0 ≤ m.next ∧ XWi EE m.next [(0, ⟨(some 60), .move (.tmp 13), 38, none⟩), (1, ⟨(some 61), .binOp .neq 38 (.tmp 60) (.const (.int .i64 0)) 38, 4, none⟩)] [] t (m.bump 2) (Q := ⟨fun _ => Q .normal⟩)) := by kernel_rfl
noncomputable def r4_17 : List SOp := [⟨(some 62), .move (.tmp 7), 4, none⟩, ⟨(some 63), .move (.tmp 62), 4, none⟩, ⟨(some 64), .move (.tmp 13), 38, (some (63, true))⟩, ⟨(some 65), .binOp .eql 38 (.tmp 64) (.const (.int .i64 100)) 38, 4, (some (63, true))⟩, ⟨(some 66), .move (.tmp 11), 3, (some (63, true))⟩, ⟨(some 67), .binOp .eql 3 (.tmp 66) (.const (.int .i64 0)) 3, 4, (some (63, true))⟩, ⟨(some 68), .move (.tmp 67), 4, (some (63, true))⟩, ⟨(some 69), .fieldAddr 34 (.tmp 4) 0, 0, (some (68, true))⟩, ⟨(some 70), .load 3 (.tmp 69), 3, (some (68, true))⟩, ⟨(some 71), .binOp .geq 3 (.tmp 70) (.const (.int .i64 0)) 3, 4, (some (68, true))⟩, ⟨(some 72), .pick (.tmp 68) (.tmp 71) (.const (.bool false)), 4, (some (63, true))⟩, ⟨(some 73), .move (.tmp 72), 4, (some (63, true))⟩, ⟨(some 74), .fieldAddr 34 (.tmp 4) 0, 0, (some (73, true))⟩, ⟨(some 75), .load 3 (.tmp 74), 3, (some (73, true))⟩, ⟨(some 76), .binOp .lss 3 (.tmp 75) (.const (.int .i64 16)) 3, 4, (some (73, true))⟩, ⟨(some 77), .pick (.tmp 73) (.tmp 76) (.const (.bool false)), 4, (some (63, true))⟩, ⟨(some 78), .binOp .eql 4 (.tmp 65) (.tmp 77) 4, 4, (some (63, true))⟩, ⟨(some 79), .pick (.tmp 63) (.tmp 78) (.const (.bool false)), 4, none⟩, ⟨(some 6), .assign (.tmp 79), 4, none⟩]
theorem w4_17 : WXi EE n0 rd (.reg r4_17) t m (Q := ⟨Q⟩) = (n0 ≤ m.next ∧ XWi EE m.next [(0, ⟨(some 62), .move (.tmp 7), 4, none⟩), (1, ⟨(some 63), .move (.tmp 62), 4, none⟩), (2, ⟨(some 64), .move (.tmp 13), 38, (some (63, true))⟩), (3, ⟨(some 65), .binOp .eql 38 (.tmp 64) (.const (.int .i64 100)) 38, 4, (some (63, true))⟩), (4, ⟨(some 66), .move (.tmp 11), 3, (some (63, true))⟩), (5, ⟨(some 67), .binOp .eql 3 (.tmp 66) (.const (.int .i64 0)) 3, 4, (some (63, true))⟩), (6, ⟨(some 68), .move (.tmp 67), 4, (some (63, true))⟩), (7, ⟨(some 69), .fieldAddr 34 (.tmp 4) 0, 0, (some (68, true))⟩), (8, ⟨(some 70), .load 3 (.tmp 69), 3, (some (68, true))⟩), (9, ⟨(some 71), .binOp .geq 3 (.tmp 70) (.const (.int .i64 0)) 3, 4, (some (68, true))⟩), (10, ⟨(some 72), .pick (.tmp 68) (.tmp 71) (.const (.bool false)), 4, (some (63, true))⟩), (11, ⟨(some 73), .move (.tmp 72), 4, (some (63, true))⟩), (12, ⟨(some 74), .fieldAddr 34 (.tmp 4) 0, 0, (some (73, true))⟩), (13, ⟨(some 75), .load 3 (.tmp 74), 3, (some (73, true))⟩), (14, ⟨(some 76), .binOp .lss 3 (.tmp 75) (.const (.int .i64 16)) 3, 4, (some (73, true))⟩), (15, ⟨(some 77), .pick (.tmp 73) (.tmp 76) (.const (.bool false)), 4, (some (63, true))⟩), (16, ⟨(some 78), .binOp .eql 4 (.tmp 65) (.tmp 77) 4, 4, (some (63, true))⟩), (17, ⟨(some 79), .pick (.tmp 63) (.tmp 78) (.const (.bool false)), 4, none⟩), (18, ⟨(some 6), .assign (.tmp 79), 4, none⟩)] [] t (m.bump 19) (Q := ⟨fun _ => Q .normal⟩)) := by kernel_rfl
noncomputable def c4_18 : SCode := (.seq (.reg r4_17) .ret)
theorem w4_18 : WXi EE n0 rd c4_18 t m (Q := ⟨Q⟩) = WXi EE n0 rd (.seq (.reg r4_17) .ret) t m (Q := ⟨Q⟩) := rfl
noncomputable def r4_19 : List SOp := [⟨(some 80), .move (.tmp 2), 5, none⟩, ⟨(some 81), .move (.const (.int .u8 0)), 5, none⟩]
theorem w4_19 : WXi EE n0 rd (.reg r4_19) t m (Q := ⟨Q⟩) = (n0 ≤ m.next ∧ XWi EE m.next [(0, ⟨(some 80), .move (.tmp 2), 5, none⟩), (1, ⟨(some 81), .move (.const (.int .u8 0)), 5, none⟩)] [] t (m.bump 2) (Q := ⟨fun _ => Q .normal⟩)) := by kernel_rfl
noncomputable def r4_20 : List SOp := [⟨(some 82), .binOp .lss 5 (.tmp 81) (.tmp 80) 5, 4, none⟩]
theorem w4_20 : WXi EE n0 rd (.reg r4_20) t m (Q := ⟨Q⟩) = (n0 ≤ m.next ∧ XWi EE m.next [(0, ⟨(some 82), .binOp .lss 5 (.tmp 81) (.tmp 80) 5, 4, none⟩)] [] t (m.bump 1) (Q := ⟨fun _ => Q .normal⟩)) := by kernel_rfl
noncomputable def r4_21 : List SOp := [⟨(some 83), .move (.tmp 8), 24, none⟩, ⟨(some 84), .nilCheck (.tmp 83), 0, none⟩, ⟨(some 85), .fieldAddr 31 (.tmp 84) 0, 0, none⟩, ⟨(some 86), .load 26 (.tmp 85), 26, none⟩, ⟨(some 87), .move (.tmp 12), 3, none⟩, ⟨(some 88), .call ⟨.value (.func 16), #[(.tmp 86), (.tmp 87)], #[26, 3]⟩, 38, none⟩, ⟨(some 89), .binOp .neq 38 (.tmp 88) (.const (.int .i64 0)) 38, 4, none⟩]
theorem w4_21 : WXi EE n0 rd (.reg r4_21) t m (Q := ⟨Q⟩) = (n0 ≤ m.next ∧ XWi EE m.next [(0, ⟨(some 83), .move (.tmp 8), 24, none⟩), (1, ⟨(some 84), .nilCheck (.tmp 83), 0, none⟩), (2, ⟨(some 85), .fieldAddr 31 (.tmp 84) 0, 0, none⟩), (3, ⟨(some 86), .load 26 (.tmp 85), 26, none⟩), (4, ⟨(some 87), .move (.tmp 12), 3, none⟩), (5, ⟨(some 88), .call ⟨.value (.func 16), #[(.tmp 86), (.tmp 87)], #[26, 3]⟩, 38, none⟩), (6, ⟨(some 89), .binOp .neq 38 (.tmp 88) (.const (.int .i64 0)) 38, 4, none⟩)] [] t (m.bump 7) (Q := ⟨fun _ => Q .normal⟩)) := by kernel_rfl
noncomputable def r4_22 : List SOp := [⟨(some 6), .assign (.const (.bool false)), 4, none⟩]
theorem w4_22 : WXi EE n0 rd (.reg r4_22) t m (Q := ⟨Q⟩) = (n0 ≤ m.next ∧ XWi EE m.next [(0, ⟨(some 6), .assign (.const (.bool false)), 4, none⟩)] [] t (m.bump 1) (Q := ⟨fun _ => Q .normal⟩)) := by kernel_rfl
noncomputable def c4_23 : SCode := (.seq (.reg r4_22) .ret)
theorem w4_23 : WXi EE n0 rd c4_23 t m (Q := ⟨Q⟩) = WXi EE n0 rd (.seq (.reg r4_22) .ret) t m (Q := ⟨Q⟩) := rfl
noncomputable def c4_24 : SCode := (.seq (.reg r4_21) (.cond (.tmp 89) c4_23 .skip))
theorem w4_24 : WXi EE n0 rd c4_24 t m (Q := ⟨Q⟩) = WXi EE n0 rd (.seq (.reg r4_21) (.cond (.tmp 89) c4_23 .skip)) t m (Q := ⟨Q⟩) := rfl
noncomputable def r4_25 : List SOp := [⟨(some 90), .binOp .add 5 (.tmp 81) (.const (.int .u8 1)) 5, 5, none⟩, ⟨(some 81), .move (.tmp 90), 5, none⟩]
theorem w4_25 : WXi EE n0 rd (.reg r4_25) t m (Q := ⟨Q⟩) = (n0 ≤ m.next ∧ XWi EE m.next [(0, ⟨(some 90), .binOp .add 5 (.tmp 81) (.const (.int .u8 1)) 5, 5, none⟩), (1, ⟨(some 81), .move (.tmp 90), 5, none⟩)] [] t (m.bump 2) (Q := ⟨fun _ => Q .normal⟩)) := by kernel_rfl
noncomputable def c4_26 : SCode := (.seq (.reg r4_20) (.seq (.cond (.tmp 82) .skip (.exit 2)) (.seq (.block 3 c4_24) (.reg r4_25))))
theorem w4_26 : WXi EE n0 rd c4_26 t m (Q := ⟨Q⟩) = WXi EE n0 rd (.seq (.reg r4_20) (.seq (.cond (.tmp 82) .skip (.exit 2)) (.seq (.block 3 c4_24) (.reg r4_25)))) t m (Q := ⟨Q⟩) := rfl
noncomputable def c4_27 : SCode := (.loop c4_26)
theorem w4_27 : WXi EE n0 rd c4_27 t m (Q := ⟨Q⟩) = WXi EE n0 rd (.loop c4_26) t m (Q := ⟨Q⟩) := rfl
noncomputable def r4_28 : List SOp := [⟨(some 91), .move (.tmp 2), 5, none⟩, ⟨(some 92), .convert 5 3 (.tmp 91), 3, none⟩, ⟨(some 14), .assign (.tmp 92), 3, none⟩]
theorem w4_28 : WXi EE n0 rd (.reg r4_28) t m (Q := ⟨Q⟩) = (n0 ≤ m.next ∧ XWi EE m.next [(0, ⟨(some 91), .move (.tmp 2), 5, none⟩), (1, ⟨(some 92), .convert 5 3 (.tmp 91), 3, none⟩), (2, ⟨(some 14), .assign (.tmp 92), 3, none⟩)] [] t (m.bump 3) (Q := ⟨fun _ => Q .normal⟩)) := by kernel_rfl
noncomputable def r4_29 : List SOp := [⟨(some 93), .move (.tmp 14), 3, none⟩, ⟨(some 94), .binOp .geq 3 (.tmp 93) (.const (.int .i64 0)) 3, 4, none⟩]
theorem w4_29 : WXi EE n0 rd (.reg r4_29) t m (Q := ⟨Q⟩) = (n0 ≤ m.next ∧ XWi EE m.next [(0, ⟨(some 93), .move (.tmp 14), 3, none⟩), (1, ⟨(some 94), .binOp .geq 3 (.tmp 93) (.const (.int .i64 0)) 3, 4, none⟩)] [] t (m.bump 2) (Q := ⟨fun _ => Q .normal⟩)) := by kernel_rfl
noncomputable def r4_30 : List SOp := [⟨(some 98), .move (.tmp 8), 24, none⟩, ⟨(some 99), .nilCheck (.tmp 98), 0, none⟩, ⟨(some 100), .fieldAddr 31 (.tmp 99) 0, 0, none⟩, ⟨(some 101), .load 26 (.tmp 100), 26, none⟩, ⟨(some 102), .move (.tmp 12), 3, none⟩, ⟨(some 103), .call ⟨.value (.func 15), #[(.tmp 101), (.tmp 102)], #[26, 3]⟩, 39, none⟩, ⟨(some 97), .move (.tmp 103), 39, none⟩, ⟨(some 104), .extract (.tmp 97) 0, 3, none⟩, ⟨(some 105), .extract (.tmp 97) 1, 34, none⟩, ⟨(some 106), .extract (.tmp 97) 2, 38, none⟩, ⟨(some 16), .alloc 34, 0, none⟩, ⟨(some 15), .assign (.tmp 104), 3, none⟩, ⟨none, .store 34 (.tmp 16) (.tmp 105), 0, none⟩, ⟨(some 17), .assign (.tmp 106), 38, none⟩]
theorem w4_30 : WXi EE n0 rd (.reg r4_30) t m (Q := ⟨Q⟩) = (n0 ≤ m.next ∧ XWi EE m.next [(0, ⟨(some 98), .move (.tmp 8), 24, none⟩), (1, ⟨(some 99), .nilCheck (.tmp 98), 0, none⟩), (2, ⟨(some 100), .fieldAddr 31 (.tmp 99) 0, 0, none⟩), (3, ⟨(some 101), .load 26 (.tmp 100), 26, none⟩), (4, ⟨(some 102), .move (.tmp 12), 3, none⟩), (5, ⟨(some 103), .call ⟨.value (.func 15), #[(.tmp 101), (.tmp 102)], #[26, 3]⟩, 39, none⟩), (6, ⟨(some 97), .move (.tmp 103), 39, none⟩), (7, ⟨(some 104), .extract (.tmp 97) 0, 3, none⟩), (8, ⟨(some 105), .extract (.tmp 97) 1, 34, none⟩), (9, ⟨(some 106), .extract (.tmp 97) 2, 38, none⟩), (10, ⟨(some 16), .alloc 34, 0, none⟩), (11, ⟨(some 15), .assign (.tmp 104), 3, none⟩), (12, ⟨none, .store 34 (.tmp 16) (.tmp 105), 0, none⟩), (13, ⟨(some 17), .assign (.tmp 106), 38, none⟩)] [] t (m.bump 14) (Q := ⟨fun _ => Q .normal⟩)) := by kernel_rfl
noncomputable def r4_31 : List SOp := [⟨(some 107), .move (.tmp 15), 3, none⟩, ⟨(some 108), .move (.tmp 14), 3, none⟩, ⟨(some 109), .binOp .neq 3 (.tmp 107) (.tmp 108) 3, 4, none⟩, ⟨(some 110), .move (.tmp 109), 4, none⟩, ⟨(some 111), .load 34 (.tmp 16), 34, (some (110, false))⟩, ⟨(some 112), .load 34 (.tmp 4), 34, (some (110, false))⟩, ⟨(some 113), .binOp .neq 34 (.tmp 111) (.tmp 112) 34, 4, (some (110, false))⟩, ⟨(some 114), .pick (.tmp 110) (.const (.bool true)) (.tmp 113), 4, none⟩, ⟨(some 115), .move (.tmp 114), 4, none⟩, ⟨(some 116), .move (.tmp 17), 38, (some (115, false))⟩, ⟨(some 117), .binOp .neq 38 (.tmp 116) (.const (.int .i64 0)) 38, 4, (some (115, false))⟩, ⟨(some 118), .pick (.tmp 115) (.const (.bool true)) (.tmp 117), 4, none⟩]
theorem w4_31 : WXi EE n0 rd (.reg r4_31) t m (Q := ⟨Q⟩) = (n0 ≤ m.next ∧ XWi EE m.next [(0, ⟨(some 107), .move (.tmp 15), 3, none⟩), (1, ⟨(some 108), .move (.tmp 14), 3, none⟩), (2, ⟨(some 109), .binOp .neq 3 (.tmp 107) (.tmp 108) 3, 4, none⟩), (3, ⟨(some 110), .move (.tmp 109), 4, none⟩), (4, ⟨(some 111), .load 34 (.tmp 16), 34, (some (110, false))⟩), (5, ⟨(some 112), .load 34 (.tmp 4), 34, (some (110, false))⟩), (6, ⟨(some 113), .binOp .neq 34 (.tmp 111) (.tmp 112) 34, 4, (some (110, false))⟩), (7, ⟨(some 114), .pick (.tmp 110) (.const (.bool true)) (.tmp 113), 4, none⟩), (8, ⟨(some 115), .move (.tmp 114), 4, none⟩), (9, ⟨(some 116), .move (.tmp 17), 38, (some (115, false))⟩), (10, ⟨(some 117), .binOp .neq 38 (.tmp 116) (.const (.int .i64 0)) 38, 4, (some (115, false))⟩), (11, ⟨(some 118), .pick (.tmp 115) (.const (.bool true)) (.tmp 117), 4, none⟩)] [] t (m.bump 12) (Q := ⟨fun _ => Q .normal⟩)) := by kernel_rfl
noncomputable def r4_32 : List SOp := [⟨(some 6), .assign (.const (.bool false)), 4, none⟩]
theorem w4_32 : WXi EE n0 rd (.reg r4_32) t m (Q := ⟨Q⟩) = (n0 ≤ m.next ∧ XWi EE m.next [(0, ⟨(some 6), .assign (.const (.bool false)), 4, none⟩)] [] t (m.bump 1) (Q := ⟨fun _ => Q .normal⟩)) := by kernel_rfl
noncomputable def c4_33 : SCode := (.seq (.reg r4_32) .ret)
theorem w4_33 : WXi EE n0 rd c4_33 t m (Q := ⟨Q⟩) = WXi EE n0 rd (.seq (.reg r4_32) .ret) t m (Q := ⟨Q⟩) := rfl
noncomputable def c4_34 : SCode := (.seq (.reg r4_30) (.seq (.reg r4_31) (.cond (.tmp 118) c4_33 .skip)))
theorem w4_34 : WXi EE n0 rd c4_34 t m (Q := ⟨Q⟩) = WXi EE n0 rd (.seq (.reg r4_30) (.seq (.reg r4_31) (.cond (.tmp 118) c4_33 .skip))) t m (Q := ⟨Q⟩) := rfl
noncomputable def r4_35 : List SOp := [⟨(some 95), .move (.tmp 14), 3, none⟩, ⟨(some 96), .binOp .sub 3 (.tmp 95) (.const (.int .i64 1)) 3, 3, none⟩, ⟨(some 14), .assign (.tmp 96), 3, none⟩]
theorem w4_35 : WXi EE n0 rd (.reg r4_35) t m (Q := ⟨Q⟩) = (n0 ≤ m.next ∧ XWi EE m.next [(0, ⟨(some 95), .move (.tmp 14), 3, none⟩), (1, ⟨(some 96), .binOp .sub 3 (.tmp 95) (.const (.int .i64 1)) 3, 3, none⟩), (2, ⟨(some 14), .assign (.tmp 96), 3, none⟩)] [] t (m.bump 3) (Q := ⟨fun _ => Q .normal⟩)) := by kernel_rfl
noncomputable def c4_36 : SCode := (.seq (.seq (.reg r4_29) (.cond (.tmp 94) .skip (.exit 4))) (.seq (.block 5 c4_34) (.reg r4_35)))
theorem w4_36 : WXi EE n0 rd c4_36 t m (Q := ⟨Q⟩) = WXi EE n0 rd (.seq (.seq (.reg r4_29) (.cond (.tmp 94) .skip (.exit 4))) (.seq (.block 5 c4_34) (.reg r4_35))) t m (Q := ⟨Q⟩) := rfl
noncomputable def c4_37 : SCode := (.loop c4_36)
theorem w4_37 : WXi EE n0 rd c4_37 t m (Q := ⟨Q⟩) = WXi EE n0 rd (.loop c4_36) t m (Q := ⟨Q⟩) := rfl
noncomputable def r4_38 : List SOp := [⟨(some 119), .move (.tmp 8), 24, none⟩, ⟨(some 120), .nilCheck (.tmp 119), 0, none⟩, ⟨(some 121), .fieldAddr 31 (.tmp 120) 0, 0, none⟩, ⟨(some 122), .load 26 (.tmp 121), 26, none⟩, ⟨(some 123), .call ⟨.value (.func 19), #[(.tmp 122)], #[26]⟩, 47, none⟩, ⟨(some 18), .assign (.tmp 123), 47, none⟩]
theorem w4_38 : WXi EE n0 rd (.reg r4_38) t m (Q := ⟨Q⟩) = (n0 ≤ m.next ∧ XWi EE m.next [(0, ⟨(some 119), .move (.tmp 8), 24, none⟩), (1, ⟨(some 120), .nilCheck (.tmp 119), 0, none⟩), (2, ⟨(some 121), .fieldAddr 31 (.tmp 120) 0, 0, none⟩), (3, ⟨(some 122), .load 26 (.tmp 121), 26, none⟩), (4, ⟨(some 123), .call ⟨.value (.func 19), #[(.tmp 122)], #[26]⟩, 47, none⟩), (5, ⟨(some 18), .assign (.tmp 123), 47, none⟩)] [] t (m.bump 6) (Q := ⟨fun _ => Q .normal⟩)) := by kernel_rfl
noncomputable def r4_39 : List SOp := [⟨(some 124), .move (.tmp 7), 4, none⟩, ⟨(some 125), .move (.tmp 124), 4, none⟩, ⟨(some 126), .move (.tmp 18), 47, (some (125, true))⟩, ⟨(some 127), .move (.tmp 10), 47, (some (125, true))⟩, ⟨(some 128), .call ⟨.value (.func 22), #[(.tmp 126), (.tmp 127)], #[47, 47]⟩, 4, (some (125, true))⟩, ⟨(some 129), .pick (.tmp 125) (.tmp 128) (.const (.bool false)), 4, none⟩, ⟨(some 130), .move (.tmp 129), 4, none⟩, ⟨(some 131), .move (.tmp 8), 24, (some (130, true))⟩, ⟨(some 132), .nilCheck (.tmp 131), 0, (some (130, true))⟩, ⟨(some 133), .fieldAddr 31 (.tmp 132) 0, 0, (some (130, true))⟩, ⟨(some 134), .load 26 (.tmp 133), 26, (some (130, true))⟩, ⟨(some 135), .call ⟨.value (.func 20), #[(.tmp 134)], #[26]⟩, 3, (some (130, true))⟩, ⟨(some 136), .move (.tmp 11), 3, (some (130, true))⟩, ⟨(some 137), .binOp .eql 3 (.tmp 135) (.tmp 136) 3, 4, (some (130, true))⟩, ⟨(some 138), .pick (.tmp 130) (.tmp 137) (.const (.bool false)), 4, none⟩, ⟨(some 6), .assign (.tmp 138), 4, none⟩]
theorem w4_39 : WXi EE n0 rd (.reg r4_39) t m (Q := ⟨Q⟩) = (n0 ≤ m.next ∧ XWi EE m.next [(0, ⟨(some 124), .move (.tmp 7), 4, none⟩), (1, ⟨(some 125), .move (.tmp 124), 4, none⟩), (2, ⟨(some 126), .move (.tmp 18), 47, (some (125, true))⟩), (3, ⟨(some 127), .move (.tmp 10), 47, (some (125, true))⟩), (4, ⟨(some 128), .call ⟨.value (.func 22), #[(.tmp 126), (.tmp 127)], #[47, 47]⟩, 4, (some (125, true))⟩), (5, ⟨(some 129), .pick (.tmp 125) (.tmp 128) (.const (.bool false)), 4, none⟩), (6, ⟨(some 130), .move (.tmp 129), 4, none⟩), (7, ⟨(some 131), .move (.tmp 8), 24, (some (130, true))⟩), (8, ⟨(some 132), .nilCheck (.tmp 131), 0, (some (130, true))⟩), (9, ⟨(some 133), .fieldAddr 31 (.tmp 132) 0, 0, (some (130, true))⟩), (10, ⟨(some 134), .load 26 (.tmp 133), 26, (some (130, true))⟩), (11, ⟨(some 135), .call ⟨.value (.func 20), #[(.tmp 134)], #[26]⟩, 3, (some (130, true))⟩), (12, ⟨(some 136), .move (.tmp 11), 3, (some (130, true))⟩), (13, ⟨(some 137), .binOp .eql 3 (.tmp 135) (.tmp 136) 3, 4, (some (130, true))⟩), (14, ⟨(some 138), .pick (.tmp 130) (.tmp 137) (.const (.bool false)), 4, none⟩), (15, ⟨(some 6), .assign (.tmp 138), 4, none⟩)] [] t (m.bump 16) (Q := ⟨fun _ => Q .normal⟩)) := by kernel_rfl
noncomputable def c4 : SCode := (.seq (.reg r4_0) (.seq (.reg r4_1) (.seq (.seq (.reg r4_2) (.cond (.tmp 26) c4_4 .skip)) (.seq (.reg r4_5) (.seq (.seq (.reg r4_6) (.block 0 c4_13)) (.seq (.dreg r4_14 [(0, []), (1, []), (2, []), (3, []), (4, []), (5, []), (6, []), (7, []), (8, [4]), (9, []), (10, []), (11, [])]) (.seq (.dreg r4_15 [(0, []), (1, []), (2, []), (3, []), (4, []), (5, []), (6, []), (7, []), (8, []), (9, []), (10, [])]) (.seq (.seq (.reg r4_16) (.cond (.tmp 61) c4_18 .skip)) (.seq (.seq (.reg r4_19) (.block 2 c4_27)) (.seq (.seq (.reg r4_28) (.block 4 c4_37)) (.seq (.reg r4_38) (.seq (.reg r4_39) .ret))))))))))))
theorem w4 : WXi EE n0 rd c4 t m (Q := ⟨Q⟩) = WXi EE n0 rd (.seq (.reg r4_0) (.seq (.reg r4_1) (.seq (.seq (.reg r4_2) (.cond (.tmp 26) c4_4 .skip)) (.seq (.reg r4_5) (.seq (.seq (.reg r4_6) (.block 0 c4_13)) (.seq (.dreg r4_14 [(0, []), (1, []), (2, []), (3, []), (4, []), (5, []), (6, []), (7, []), (8, [4]), (9, []), (10, []), (11, [])]) (.seq (.dreg r4_15 [(0, []), (1, []), (2, []), (3, []), (4, []), (5, []), (6, []), (7, []), (8, []), (9, []), (10, [])]) (.seq (.seq (.reg r4_16) (.cond (.tmp 61) c4_18 .skip)) (.seq (.seq (.reg r4_19) (.block 2 c4_27)) (.seq (.seq (.reg r4_28) (.block 4 c4_37)) (.seq (.reg r4_38) (.seq (.reg r4_39) .ret)))))))))))) t m (Q := ⟨Q⟩) := rfl
noncomputable def f4 : SFunc := ⟨139, [.tmp 6], c4⟩
-- RULES 4 w4_0, w4_1, w4_2, w4_3, w4_4, w4_5, w4_6, w4_7, w4_8, w4_9, w4_10, w4_11, w4_12, w4_13, w4_14, w4_15, w4_16, w4_17, w4_18, w4_19, w4_20, w4_21, w4_22, w4_23, w4_24, w4_25, w4_26, w4_27, w4_28, w4_29, w4_30, w4_31, w4_32, w4_33, w4_34, w4_35, w4_36, w4_37, w4_38, w4_39
theorem fn4 : fnOf EE.P 4 = some f4 := by kernel_rfl
/-! types -/
theorem und_4 : EE.P.underlying 4 = some .bool := by kernel_rfl
theorem und_5 : EE.P.underlying 5 = some (.int .u8) := by kernel_rfl
theorem ca_10 : callable EE.P 10 = true := by kernel_rfl
theorem ca_20 : callable EE.P 20 = true := by kernel_rfl
theorem ca_22 : callable EE.P 22 = true := by kernel_rfl
-- FACTS lay_3, lay_74, lay_34, lay_71, lay_47, lay_26, lay_69, lay_28, lay_27, lay_29, lay_46, sz_3, sz_74, sz_34, sz_71, sz_47, sz_26, sz_69, sz_28, sz_27, sz_29, sz_46, zero_74, zero_34, zero_47, zero_69, fo_74_0, fo_71_1, fo_71_0, fo_34_0, fo_69_0, fo_65_1, fo_65_0, fo_60_0, fo_46_0, fo_31_0, fo_46_1, fo_31_2, fo_46_2, fo_31_1, fo_31_3, fo_46_3, und_26, und_72, und_3, und_38, und_47, und_27, und_67, und_63, und_62, und_22, und_4, und_5, ca_34, ca_19, ca_43, ca_46, ca_29, ca_47, ca_23, ca_33, ca_44, ca_50, ca_30, ca_48, ca_32, ca_39, ca_35, ca_21, ca_36, ca_16, ca_37, ca_15, ca_38, ca_28, ca_40, ca_26, ca_41, ca_25, ca_42, ca_12, ca_27, ca_17, ca_18, ca_10, ca_20, ca_22
end
end Go.Ab
