/- MigrateNames: calls, each by a run of its own. -/
import Derived.Test.YtijnhaadhgoloaaGreatDoorMgB
import Derived.Test.YtijnhaadhgoloaaGreatDoorMgE
namespace Go.Proofs.YtijnhaadhgoloaaGreatDoor.migrateNames
open Go.Ab
set_option linter.unusedVariables false
noncomputable section
def e2 : Ab.Entry := ⟨204, [(wA 81 0), (wS [108, 105, 32, 48, 32, 50]), (wI 1)], [(0, Mgb0), (81, Mgb1)], (.bool true), 1042, [(81, some Mgb2), (1036, some Mgb3)]⟩
theorem e2_ok : Ab.partB (Ab.envS Tryz.prog 227 374) 3000 32 e2 = true := by kernel_rfl
def e3 : Ab.Entry := ⟨1145, [(wA 81 0), (wS [115, 121, 115]), (wI 2)], [(0, Mgb0), (81, Mgb2), (1036, Mgb3)], (.bool true), 1970, [(81, some Mgb4), (1036, none), (1964, some Mgb5)]⟩
theorem e3_ok : Ab.partB (Ab.envS Tryz.prog 227 374) 3000 32 e3 = true := by kernel_rfl
def e4 : Ab.Entry := ⟨2073, [(wA 81 0), (wS [106, 122, 32, 48, 32, 107, 105, 100]), (wI 3)], [(0, Mgb0), (81, Mgb4), (1964, Mgb5)], (.bool true), 3273, [(81, some Mgb6), (1964, none), (3145, some Mgb7), (3267, some Mgb8)]⟩
theorem e4_ok : Ab.partB (Ab.envS Tryz.prog 227 374) 3000 32 e4 = true := by kernel_rfl
def e5 : Ab.Entry := ⟨3376, [(wA 81 0), (wS [115, 116, 97, 121, 58]), (wI 4)], [(79, Mgb9), (81, Mgb6)], (.bool true), 3570, [(79, some Mgb10)]⟩
theorem e5_ok : Ab.partB (Ab.envS Tryz.prog 227 374) 3000 32 e5 = true := by kernel_rfl
def e6 : Ab.Entry := ⟨3673, [(wA 81 0), (wS [106, 109, 112, 32, 115, 116, 97, 121]), (wI 5)], [(0, Mgb0), (81, Mgb6), (3145, Mgb7), (3267, Mgb8)], (.bool true), 4704, [(81, some Mgb11), (3145, none), (3267, none), (4576, some Mgb12), (4698, some Mgb13)]⟩
theorem e6_ok : Ab.partB (Ab.envS Tryz.prog 227 374) 3000 32 e6 = true := by kernel_rfl
def e7 : Ab.Entry := ⟨4807, [(wA 81 0), (wS [107, 105, 100, 58]), (wI 6)], [(79, Mgb10), (81, Mgb11)], (.bool true), 4976, [(79, some Mgb14)]⟩
theorem e7_ok : Ab.partB (Ab.envS Tryz.prog 227 374) 3000 32 e7 = true := by kernel_rfl
def e8 : Ab.Entry := ⟨5079, [(wA 81 0), (wS [108, 105, 32, 48, 32, 49, 57]), (wI 7)], [(0, Mgb0), (81, Mgb11), (4698, Mgb13)], (.bool true), 5945, [(81, some Mgb15), (4698, none), (5939, some Mgb16)]⟩
theorem e8_ok : Ab.partB (Ab.envS Tryz.prog 227 374) 3000 32 e8 = true := by kernel_rfl
def e9 : Ab.Entry := ⟨6048, [(wA 81 0), (wS [108, 105, 32, 49, 32, 49, 48]), (wI 8)], [(0, Mgb0), (81, Mgb15), (5939, Mgb16)], (.bool true), 6914, [(81, some Mgb17), (5939, none), (6908, some Mgb18)]⟩
theorem e9_ok : Ab.partB (Ab.envS Tryz.prog 227 374) 3000 32 e9 = true := by kernel_rfl
def e10 : Ab.Entry := ⟨7017, [(wA 81 0), (wS [108, 105, 32, 50, 32, 50]), (wI 9)], [(0, Mgb0), (81, Mgb17), (6908, Mgb18)], (.bool true), 7855, [(81, some Mgb19), (6908, none), (7849, some Mgb20)]⟩
theorem e10_ok : Ab.partB (Ab.envS Tryz.prog 227 374) 3000 32 e10 = true := by kernel_rfl
def e11 : Ab.Entry := ⟨7958, [(wA 81 0), (wS [108, 105, 32, 51, 32, 49]), (wI 10)], [(0, Mgb0), (81, Mgb19), (7849, Mgb20)], (.bool true), 8796, [(81, some Mgb21), (7849, none), (8790, some Mgb22)]⟩
theorem e11_ok : Ab.partB (Ab.envS Tryz.prog 227 374) 3000 32 e11 = true := by kernel_rfl
def e12 : Ab.Entry := ⟨8899, [(wA 81 0), (wS [115, 121, 115]), (wI 11)], [(0, Mgb0), (81, Mgb21), (8790, Mgb22)], (.bool true), 9724, [(81, some Mgb23), (8790, none), (9718, some Mgb24)]⟩
theorem e12_ok : Ab.partB (Ab.envS Tryz.prog 227 374) 3000 32 e12 = true := by kernel_rfl
def e13 : Ab.Entry := ⟨9827, [(wA 81 0), (wS [115, 112, 105, 110, 58]), (wI 12)], [(79, Mgb14), (81, Mgb23)], (.bool true), 10021, [(79, some Mgb25)]⟩
theorem e13_ok : Ab.partB (Ab.envS Tryz.prog 227 374) 3000 32 e13 = true := by kernel_rfl
def e14 : Ab.Entry := ⟨10124, [(wA 81 0), (wS [97, 100, 100, 105, 32, 53, 32, 49]), (wI 13)], [(0, Mgb0), (81, Mgb23), (9718, Mgb24)], (.bool true), 11127, [(81, some Mgb26), (9718, none), (11121, some Mgb27)]⟩
theorem e14_ok : Ab.partB (Ab.envS Tryz.prog 227 374) 3000 32 e14 = true := by kernel_rfl
def e15 : Ab.Entry := ⟨11230, [(wA 81 0), (wS [106, 109, 112, 32, 115, 112, 105, 110]), (wI 14)], [(0, Mgb0), (81, Mgb26), (4576, Mgb12), (11121, Mgb27)], (.bool true), 12261, [(81, some Mgb28), (4576, none), (11121, none), (12133, some Mgb29), (12255, some Mgb30)]⟩
theorem e15_ok : Ab.partB (Ab.envS Tryz.prog 227 374) 3000 32 e15 = true := by kernel_rfl
def l0_32 : List Ab.Entry := [e2, e3, e4, e5, e6, e7, e8, e9, e10, e11, e12, e13, e14, e15]
theorem l0_32_ok : ∀ e ∈ l0_32, Ab.EntryOk Ab.Sig.none Tryz.prog 32 e := List.forall_mem_cons.2 ⟨Ab.partB_ok E_sure e2_ok, List.forall_mem_cons.2 ⟨Ab.partB_ok E_sure e3_ok, List.forall_mem_cons.2 ⟨Ab.partB_ok E_sure e4_ok, List.forall_mem_cons.2 ⟨Ab.partB_ok E_sure e5_ok, List.forall_mem_cons.2 ⟨Ab.partB_ok E_sure e6_ok, List.forall_mem_cons.2 ⟨Ab.partB_ok E_sure e7_ok, List.forall_mem_cons.2 ⟨Ab.partB_ok E_sure e8_ok, List.forall_mem_cons.2 ⟨Ab.partB_ok E_sure e9_ok, List.forall_mem_cons.2 ⟨Ab.partB_ok E_sure e10_ok, List.forall_mem_cons.2 ⟨Ab.partB_ok E_sure e11_ok, List.forall_mem_cons.2 ⟨Ab.partB_ok E_sure e12_ok, List.forall_mem_cons.2 ⟨Ab.partB_ok E_sure e13_ok, List.forall_mem_cons.2 ⟨Ab.partB_ok E_sure e14_ok, List.forall_mem_cons.2 ⟨Ab.partB_ok E_sure e15_ok, fun _ h => (by cases h)⟩⟩⟩⟩⟩⟩⟩⟩⟩⟩⟩⟩⟩⟩
def tab_1_32 : List Ab.Entry := l0_32
theorem tab_1_32_ok : ∀ e ∈ tab_1_32, Ab.EntryOk Ab.Sig.none Tryz.prog 32 e := fun e => fun h => l0_32_ok e h
def full_1 : Ab.Env := (Ab.withTab (Ab.envS Tryz.prog 227 374) 32 tab_1_32)
theorem full_1_sure : Ab.Sure Ab.Sig.none full_1 := (Ab.withTab_sure E_sure rfl tab_1_32_ok)
def e122 : Ab.Entry := ⟨110523, [(wA 110400 0), (wS [108, 105, 32, 48, 32, 50]), (wI 1)], [(0, Mgb0), (110400, Mgb137)], (.bool true), 111361, [(110400, some Mgb138), (111355, some Mgb3)]⟩
theorem e122_ok : Ab.partB (Ab.envS Tryz.prog 227 374) 3000 32 e122 = true := by kernel_rfl
def e123 : Ab.Entry := ⟨111464, [(wA 110400 0), (wS [115, 121, 115]), (wI 2)], [(0, Mgb0), (110400, Mgb138), (111355, Mgb3)], (.bool true), 112289, [(110400, some Mgb139), (111355, none), (112283, some Mgb5)]⟩
theorem e123_ok : Ab.partB (Ab.envS Tryz.prog 227 374) 3000 32 e123 = true := by kernel_rfl
def e124 : Ab.Entry := ⟨112392, [(wA 110400 0), (wS [106, 122, 32, 48, 32, 107, 105, 100]), (wI 3)], [(0, Mgb0), (110400, Mgb139), (112283, Mgb5)], (.bool true), 113592, [(110400, some Mgb140), (112283, none), (113464, some Mgb7), (113586, some Mgb8)]⟩
theorem e124_ok : Ab.partB (Ab.envS Tryz.prog 227 374) 3000 32 e124 = true := by kernel_rfl
def e125 : Ab.Entry := ⟨113695, [(wA 110400 0), (wS [115, 116, 97, 121, 58]), (wI 4)], [(110398, Mgb9), (110400, Mgb140)], (.bool true), 113889, [(110398, some Mgb10)]⟩
theorem e125_ok : Ab.partB (Ab.envS Tryz.prog 227 374) 3000 32 e125 = true := by kernel_rfl
def e126 : Ab.Entry := ⟨113992, [(wA 110400 0), (wS [106, 109, 112, 32, 115, 116, 97, 121]), (wI 5)], [(0, Mgb0), (110400, Mgb140), (113464, Mgb7), (113586, Mgb8)], (.bool true), 115023, [(110400, some Mgb141), (113464, none), (113586, none), (114895, some Mgb12), (115017, some Mgb13)]⟩
theorem e126_ok : Ab.partB (Ab.envS Tryz.prog 227 374) 3000 32 e126 = true := by kernel_rfl
def e127 : Ab.Entry := ⟨115126, [(wA 110400 0), (wS [107, 105, 100, 58]), (wI 6)], [(110398, Mgb10), (110400, Mgb141)], (.bool true), 115295, [(110398, some Mgb14)]⟩
theorem e127_ok : Ab.partB (Ab.envS Tryz.prog 227 374) 3000 32 e127 = true := by kernel_rfl
def e128 : Ab.Entry := ⟨115398, [(wA 110400 0), (wS [108, 105, 32, 48, 32, 49, 57]), (wI 7)], [(0, Mgb0), (110400, Mgb141), (115017, Mgb13)], (.bool true), 116264, [(110400, some Mgb142), (115017, none), (116258, some Mgb16)]⟩
theorem e128_ok : Ab.partB (Ab.envS Tryz.prog 227 374) 3000 32 e128 = true := by kernel_rfl
def e129 : Ab.Entry := ⟨116367, [(wA 110400 0), (wS [108, 105, 32, 49, 32, 49, 48]), (wI 8)], [(0, Mgb0), (110400, Mgb142), (116258, Mgb16)], (.bool true), 117233, [(110400, some Mgb143), (116258, none), (117227, some Mgb18)]⟩
theorem e129_ok : Ab.partB (Ab.envS Tryz.prog 227 374) 3000 32 e129 = true := by kernel_rfl
def e130 : Ab.Entry := ⟨117336, [(wA 110400 0), (wS [108, 105, 32, 50, 32, 50]), (wI 9)], [(0, Mgb0), (110400, Mgb143), (117227, Mgb18)], (.bool true), 118174, [(110400, some Mgb144), (117227, none), (118168, some Mgb20)]⟩
theorem e130_ok : Ab.partB (Ab.envS Tryz.prog 227 374) 3000 32 e130 = true := by kernel_rfl
def e131 : Ab.Entry := ⟨118277, [(wA 110400 0), (wS [108, 105, 32, 51, 32, 49]), (wI 10)], [(0, Mgb0), (110400, Mgb144), (118168, Mgb20)], (.bool true), 119115, [(110400, some Mgb145), (118168, none), (119109, some Mgb22)]⟩
theorem e131_ok : Ab.partB (Ab.envS Tryz.prog 227 374) 3000 32 e131 = true := by kernel_rfl
def e132 : Ab.Entry := ⟨119218, [(wA 110400 0), (wS [115, 121, 115]), (wI 11)], [(0, Mgb0), (110400, Mgb145), (119109, Mgb22)], (.bool true), 120043, [(110400, some Mgb146), (119109, none), (120037, some Mgb24)]⟩
theorem e132_ok : Ab.partB (Ab.envS Tryz.prog 227 374) 3000 32 e132 = true := by kernel_rfl
def e133 : Ab.Entry := ⟨120146, [(wA 110400 0), (wS [115, 112, 105, 110, 58]), (wI 12)], [(110398, Mgb14), (110400, Mgb146)], (.bool true), 120340, [(110398, some Mgb25)]⟩
theorem e133_ok : Ab.partB (Ab.envS Tryz.prog 227 374) 3000 32 e133 = true := by kernel_rfl
def e134 : Ab.Entry := ⟨120443, [(wA 110400 0), (wS [97, 100, 100, 105, 32, 53, 32, 49]), (wI 13)], [(0, Mgb0), (110400, Mgb146), (120037, Mgb24)], (.bool true), 121446, [(110400, some Mgb147), (120037, none), (121440, some Mgb27)]⟩
theorem e134_ok : Ab.partB (Ab.envS Tryz.prog 227 374) 3000 32 e134 = true := by kernel_rfl
def e135 : Ab.Entry := ⟨121549, [(wA 110400 0), (wS [106, 109, 112, 32, 115, 112, 105, 110]), (wI 14)], [(0, Mgb0), (110400, Mgb147), (114895, Mgb12), (121440, Mgb27)], (.bool true), 122580, [(110400, some Mgb148), (114895, none), (121440, none), (122452, some Mgb29), (122574, some Mgb30)]⟩
theorem e135_ok : Ab.partB (Ab.envS Tryz.prog 227 374) 3000 32 e135 = true := by kernel_rfl
def l13_32 : List Ab.Entry := [e122, e123, e124, e125, e126, e127, e128, e129, e130, e131, e132, e133, e134, e135]
theorem l13_32_ok : ∀ e ∈ l13_32, Ab.EntryOk Ab.Sig.none Tryz.prog 32 e := List.forall_mem_cons.2 ⟨Ab.partB_ok E_sure e122_ok, List.forall_mem_cons.2 ⟨Ab.partB_ok E_sure e123_ok, List.forall_mem_cons.2 ⟨Ab.partB_ok E_sure e124_ok, List.forall_mem_cons.2 ⟨Ab.partB_ok E_sure e125_ok, List.forall_mem_cons.2 ⟨Ab.partB_ok E_sure e126_ok, List.forall_mem_cons.2 ⟨Ab.partB_ok E_sure e127_ok, List.forall_mem_cons.2 ⟨Ab.partB_ok E_sure e128_ok, List.forall_mem_cons.2 ⟨Ab.partB_ok E_sure e129_ok, List.forall_mem_cons.2 ⟨Ab.partB_ok E_sure e130_ok, List.forall_mem_cons.2 ⟨Ab.partB_ok E_sure e131_ok, List.forall_mem_cons.2 ⟨Ab.partB_ok E_sure e132_ok, List.forall_mem_cons.2 ⟨Ab.partB_ok E_sure e133_ok, List.forall_mem_cons.2 ⟨Ab.partB_ok E_sure e134_ok, List.forall_mem_cons.2 ⟨Ab.partB_ok E_sure e135_ok, fun _ h => (by cases h)⟩⟩⟩⟩⟩⟩⟩⟩⟩⟩⟩⟩⟩⟩
def tab_121_32 : List Ab.Entry := l13_32
theorem tab_121_32_ok : ∀ e ∈ tab_121_32, Ab.EntryOk Ab.Sig.none Tryz.prog 32 e := fun e => fun h => l13_32_ok e h
def full_121 : Ab.Env := (Ab.withTab (Ab.envS Tryz.prog 227 374) 32 tab_121_32)
theorem full_121_sure : Ab.Sure Ab.Sig.none full_121 := (Ab.withTab_sure E_sure rfl tab_121_32_ok)
def e222 : Ab.Entry := ⟨192235, [(wA 123310 0), (wI 2)], [(123113, Mgb48), (123118, Mgb158), (123307, Mgb160), (123308, Mgb9), (123310, Mgb153), (128109, Mgb222), (128136, Mgb183), (128138, Mgb164), (131666, Mgb53), (131697, Mgb39), (148956, Mgb81)], (.tuple #[(.agg #[(wI 2), (wI 1), (wI 1), (wU 0), (wU 0), (wU 10), (wU 2), (wU 1), (wU 0), (wU 7), (wU 0), (wU 0), (.complex Go.FloatKind.f64 0 0), (.complex Go.FloatKind.f64 0 0), (wU 40), (wU 0), (wU 0), (wU 0), (wU 0), (wU 0), (wU 0), (wU 0), (wU 0), (.complex Go.FloatKind.f64 0 0), (.complex Go.FloatKind.f64 0 0), (wU 0), (wU 0), (wU 0), (wU 0), (wU 0), (wU 0), (wU 0), (wU 0), (wU 0), (wU 0), (wU 0), (wU 0), (wU 0), (wU 0), (wU 0), (wU 0), (wU 0), (wU 0), (wU 0), (.bool false), (wI 0), (wI 0), (wI 0), (wI 0), (wI 0), (wU 0), (wL 192675 0 8 8), (wU 3), (wI 0), (wL 193576 0 3 3)]), (.bool true)]), 196273, [(192675, some Mgb124), (193576, some Mgb125)]⟩
theorem e222_ok : Ab.partB (Ab.envS Tryz.prog 227 374) 3000 60 e222 = true := by kernel_rfl
def e223 : Ab.Entry := ⟨196584, [(wA 123310 0), (wI 2)], [(123113, Mgb48), (123118, Mgb158), (123307, Mgb160), (123308, Mgb9), (123310, Mgb153), (128109, Mgb222), (128136, Mgb183), (128138, Mgb164), (131666, Mgb53), (131697, Mgb39), (148956, Mgb81)], (.tuple #[(.agg #[(wI 2), (wI 1), (wI 1), (wU 0), (wU 0), (wU 10), (wU 2), (wU 1), (wU 0), (wU 7), (wU 0), (wU 0), (.complex Go.FloatKind.f64 0 0), (.complex Go.FloatKind.f64 0 0), (wU 40), (wU 0), (wU 0), (wU 0), (wU 0), (wU 0), (wU 0), (wU 0), (wU 0), (.complex Go.FloatKind.f64 0 0), (.complex Go.FloatKind.f64 0 0), (wU 0), (wU 0), (wU 0), (wU 0), (wU 0), (wU 0), (wU 0), (wU 0), (wU 0), (wU 0), (wU 0), (wU 0), (wU 0), (wU 0), (wU 0), (wU 0), (wU 0), (wU 0), (wU 0), (.bool false), (wI 0), (wI 0), (wI 0), (wI 0), (wI 0), (wU 0), (wL 197024 0 8 8), (wU 3), (wI 0), (wL 197925 0 3 3)]), (.bool true)]), 200622, [(197024, some Mgb124), (197925, some Mgb125)]⟩
theorem e223_ok : Ab.partB (Ab.envS Tryz.prog 227 374) 3000 60 e223 = true := by kernel_rfl
def e224 : Ab.Entry := ⟨200656, [(wA 123310 0), (wL 200625 0 1 1)], [(197024, Mgb124), (200625, Mgb226)], (.bool true), 200806, []⟩
theorem e224_ok : Ab.partM (Ab.envS Tryz.prog 227 374) 3000 50 e224 = true := by kernel_rfl
def l19_50 : List Ab.Entry := [e224]
theorem l19_50_ok : ∀ e ∈ l19_50, Ab.EntryOk Ab.Sig.none Tryz.prog 50 e := List.forall_mem_cons.2 ⟨Ab.partM_ok E_sure e224_ok, fun _ h => (by cases h)⟩
def l19_60 : List Ab.Entry := [e222, e223]
theorem l19_60_ok : ∀ e ∈ l19_60, Ab.EntryOk Ab.Sig.none Tryz.prog 60 e := List.forall_mem_cons.2 ⟨Ab.partB_ok E_sure e222_ok, List.forall_mem_cons.2 ⟨Ab.partB_ok E_sure e223_ok, fun _ h => (by cases h)⟩⟩
def tab_221_50 : List Ab.Entry := l19_50
theorem tab_221_50_ok : ∀ e ∈ tab_221_50, Ab.EntryOk Ab.Sig.none Tryz.prog 50 e := fun e => fun h => l19_50_ok e h
def tab_221_60 : List Ab.Entry := l19_60
theorem tab_221_60_ok : ∀ e ∈ tab_221_60, Ab.EntryOk Ab.Sig.none Tryz.prog 60 e := fun e => fun h => l19_60_ok e h
def full_221 : Ab.Env := (Ab.withTab (Ab.withTab (Ab.envS Tryz.prog 227 374) 50 tab_221_50) 60 tab_221_60)
theorem full_221_sure : Ab.Sure Ab.Sig.none full_221 := (Ab.withTab_sure (Ab.withTab_sure E_sure rfl tab_221_50_ok) rfl tab_221_60_ok)
def e227 : Ab.Entry := ⟨201112, [(wA 123310 0), (wI 2)], [(123113, Mgb48), (123118, Mgb158), (123307, Mgb160), (123308, Mgb9), (123310, Mgb153), (128109, Mgb222), (128136, Mgb183), (128138, Mgb164), (131666, Mgb53), (131697, Mgb39), (148956, Mgb81)], (.tuple #[(.agg #[(wI 2), (wI 1), (wI 1), (wU 0), (wU 0), (wU 10), (wU 2), (wU 1), (wU 0), (wU 7), (wU 0), (wU 0), (.complex Go.FloatKind.f64 0 0), (.complex Go.FloatKind.f64 0 0), (wU 40), (wU 0), (wU 0), (wU 0), (wU 0), (wU 0), (wU 0), (wU 0), (wU 0), (.complex Go.FloatKind.f64 0 0), (.complex Go.FloatKind.f64 0 0), (wU 0), (wU 0), (wU 0), (wU 0), (wU 0), (wU 0), (wU 0), (wU 0), (wU 0), (wU 0), (wU 0), (wU 0), (wU 0), (wU 0), (wU 0), (wU 0), (wU 0), (wU 0), (wU 0), (.bool false), (wI 0), (wI 0), (wI 0), (wI 0), (wI 0), (wU 0), (wL 201552 0 8 8), (wU 3), (wI 0), (wL 202453 0 3 3)]), (.bool true)]), 205150, [(201552, some Mgb124), (202453, some Mgb125)]⟩
theorem e227_ok : Ab.partB (Ab.envS Tryz.prog 227 374) 3000 60 e227 = true := by kernel_rfl
def e228 : Ab.Entry := ⟨205461, [(wA 123310 0), (wI 2)], [(123113, Mgb48), (123118, Mgb158), (123307, Mgb160), (123308, Mgb9), (123310, Mgb153), (128109, Mgb222), (128136, Mgb183), (128138, Mgb164), (131666, Mgb53), (131697, Mgb39), (148956, Mgb81)], (.tuple #[(.agg #[(wI 2), (wI 1), (wI 1), (wU 0), (wU 0), (wU 10), (wU 2), (wU 1), (wU 0), (wU 7), (wU 0), (wU 0), (.complex Go.FloatKind.f64 0 0), (.complex Go.FloatKind.f64 0 0), (wU 40), (wU 0), (wU 0), (wU 0), (wU 0), (wU 0), (wU 0), (wU 0), (wU 0), (.complex Go.FloatKind.f64 0 0), (.complex Go.FloatKind.f64 0 0), (wU 0), (wU 0), (wU 0), (wU 0), (wU 0), (wU 0), (wU 0), (wU 0), (wU 0), (wU 0), (wU 0), (wU 0), (wU 0), (wU 0), (wU 0), (wU 0), (wU 0), (wU 0), (wU 0), (.bool false), (wI 0), (wI 0), (wI 0), (wI 0), (wI 0), (wU 0), (wL 205901 0 8 8), (wU 3), (wI 0), (wL 206802 0 3 3)]), (.bool true)]), 209499, [(205901, some Mgb124), (206802, some Mgb125)]⟩
theorem e228_ok : Ab.partB (Ab.envS Tryz.prog 227 374) 3000 60 e228 = true := by kernel_rfl
def e229 : Ab.Entry := ⟨209533, [(wA 123310 0), (wL 209502 0 1 1)], [(205901, Mgb124), (209502, Mgb227)], (.bool true), 209683, []⟩
theorem e229_ok : Ab.partM (Ab.envS Tryz.prog 227 374) 3000 50 e229 = true := by kernel_rfl
def l21_50 : List Ab.Entry := [e229]
theorem l21_50_ok : ∀ e ∈ l21_50, Ab.EntryOk Ab.Sig.none Tryz.prog 50 e := List.forall_mem_cons.2 ⟨Ab.partM_ok E_sure e229_ok, fun _ h => (by cases h)⟩
def l21_60 : List Ab.Entry := [e227, e228]
theorem l21_60_ok : ∀ e ∈ l21_60, Ab.EntryOk Ab.Sig.none Tryz.prog 60 e := List.forall_mem_cons.2 ⟨Ab.partB_ok E_sure e227_ok, List.forall_mem_cons.2 ⟨Ab.partB_ok E_sure e228_ok, fun _ h => (by cases h)⟩⟩
def tab_226_50 : List Ab.Entry := l21_50
theorem tab_226_50_ok : ∀ e ∈ tab_226_50, Ab.EntryOk Ab.Sig.none Tryz.prog 50 e := fun e => fun h => l21_50_ok e h
def tab_226_60 : List Ab.Entry := l21_60
theorem tab_226_60_ok : ∀ e ∈ tab_226_60, Ab.EntryOk Ab.Sig.none Tryz.prog 60 e := fun e => fun h => l21_60_ok e h
def full_226 : Ab.Env := (Ab.withTab (Ab.withTab (Ab.envS Tryz.prog 227 374) 50 tab_226_50) 60 tab_226_60)
theorem full_226_sure : Ab.Sure Ab.Sig.none full_226 := (Ab.withTab_sure (Ab.withTab_sure E_sure rfl tab_226_50_ok) rfl tab_226_60_ok)
end
end Go.Proofs.YtijnhaadhgoloaaGreatDoor.migrateNames
