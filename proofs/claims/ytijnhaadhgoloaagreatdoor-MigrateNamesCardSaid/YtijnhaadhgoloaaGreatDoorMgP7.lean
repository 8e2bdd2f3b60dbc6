/- MigrateNames: calls, each by a run of its own. -/
import Derived.Test.YtijnhaadhgoloaaGreatDoorMgB
import Derived.Test.YtijnhaadhgoloaaGreatDoorMgP5
import Derived.Test.YtijnhaadhgoloaaGreatDoorMgP6
import Derived.Test.YtijnhaadhgoloaaGreatDoorMgP4
import Derived.Test.YtijnhaadhgoloaaGreatDoorMgP0
import Derived.Test.YtijnhaadhgoloaaGreatDoorMgP2
import Derived.Test.YtijnhaadhgoloaaGreatDoorMgP1
import Derived.Test.YtijnhaadhgoloaaGreatDoorMgP3
namespace Go.Proofs.YtijnhaadhgoloaaGreatDoor.migrateNames
open Go.Ab
set_option linter.unusedVariables false
noncomputable section
def e241 : Ab.Entry := ⟨233202, [(wA 209961 0)], [(123091, Mgb78), (123093, Mgb149), (123113, Mgb48), (123118, Mgb158), (123307, Mgb160), (123308, Mgb9), (123310, Mgb153), (128109, Mgb222), (128136, Mgb183), (128138, Mgb164), (131666, Mgb127), (131697, Mgb39), (148956, Mgb128), (209959, Mgb229), (209961, Mgb232), (215008, Mgb133), (215564, Mgb134), (216120, Mgb134)], (.tuple #[(wL 240513 0 3 3), (.slice none 0 0)]), 241998, [(240513, some Mgb130)]⟩
theorem e241_ok : Ab.partB full_241 3000 54 e241 = true := by kernel_rfl
def l29_54 : List Ab.Entry := [e241]
theorem l29_54_ok : ∀ e ∈ l29_54, Ab.EntryOk Ab.Sig.none Tryz.prog 54 e := List.forall_mem_cons.2 ⟨Ab.partB_ok full_241_sure e241_ok, fun _ h => (by cases h)⟩
def tab_240_54 : List Ab.Entry := l29_54
theorem tab_240_54_ok : ∀ e ∈ tab_240_54, Ab.EntryOk Ab.Sig.none Tryz.prog 54 e := fun e => fun h => l29_54_ok e h
def tab_240_57 : List Ab.Entry := l28_57
theorem tab_240_57_ok : ∀ e ∈ tab_240_57, Ab.EntryOk Ab.Sig.none Tryz.prog 57 e := fun e => fun h => l28_57_ok e h
def tab_240_60 : List Ab.Entry := l28_60
theorem tab_240_60_ok : ∀ e ∈ tab_240_60, Ab.EntryOk Ab.Sig.none Tryz.prog 60 e := fun e => fun h => l28_60_ok e h
def full_240 : Ab.Env := (Ab.withTab (Ab.withTab (Ab.withTab (Ab.envS Tryz.prog 227 374) 54 tab_240_54) 57 tab_240_57) 60 tab_240_60)
theorem full_240_sure : Ab.Sure Ab.Sig.none full_240 := (Ab.withTab_sure (Ab.withTab_sure (Ab.withTab_sure E_sure rfl tab_240_54_ok) rfl tab_240_57_ok) rfl tab_240_60_ok)
def e252 : Ab.Entry := ⟨258943, [(wA 209961 0)], [(123091, Mgb78), (123093, Mgb149), (123113, Mgb48), (123118, Mgb158), (123307, Mgb160), (123308, Mgb9), (123310, Mgb153), (128109, Mgb222), (128136, Mgb183), (128138, Mgb164), (131666, Mgb127), (131697, Mgb39), (148956, Mgb128), (209959, Mgb229), (209961, Mgb232), (215008, Mgb133), (215564, Mgb134), (216120, Mgb134)], (.tuple #[(wL 266254 0 3 3), (.slice none 0 0)]), 267739, [(266254, some Mgb130)]⟩
theorem e252_ok : Ab.partB full_252 3000 54 e252 = true := by kernel_rfl
def l34_54 : List Ab.Entry := [e252]
theorem l34_54_ok : ∀ e ∈ l34_54, Ab.EntryOk Ab.Sig.none Tryz.prog 54 e := List.forall_mem_cons.2 ⟨Ab.partB_ok full_252_sure e252_ok, fun _ h => (by cases h)⟩
def tab_251_54 : List Ab.Entry := l34_54
theorem tab_251_54_ok : ∀ e ∈ tab_251_54, Ab.EntryOk Ab.Sig.none Tryz.prog 54 e := fun e => fun h => l34_54_ok e h
def tab_251_57 : List Ab.Entry := l33_57
theorem tab_251_57_ok : ∀ e ∈ tab_251_57, Ab.EntryOk Ab.Sig.none Tryz.prog 57 e := fun e => fun h => l33_57_ok e h
def tab_251_60 : List Ab.Entry := l33_60
theorem tab_251_60_ok : ∀ e ∈ tab_251_60, Ab.EntryOk Ab.Sig.none Tryz.prog 60 e := fun e => fun h => l33_60_ok e h
def full_251 : Ab.Env := (Ab.withTab (Ab.withTab (Ab.withTab (Ab.envS Tryz.prog 227 374) 54 tab_251_54) 57 tab_251_57) 60 tab_251_60)
theorem full_251_sure : Ab.Sure Ab.Sig.none full_251 := (Ab.withTab_sure (Ab.withTab_sure (Ab.withTab_sure E_sure rfl tab_251_54_ok) rfl tab_251_57_ok) rfl tab_251_60_ok)
def e1 : Ab.Entry := ⟨76, [(wS [108, 105, 32, 48, 32, 50, 10, 115, 121, 115, 10, 106, 122, 32, 48, 32, 107, 105, 100, 10, 115, 116, 97, 121, 58, 10, 106, 109, 112, 32, 115, 116, 97, 121, 10, 107, 105, 100, 58, 10, 108, 105, 32, 48, 32, 49, 57, 10, 108, 105, 32, 49, 32, 49, 48, 10, 108, 105, 32, 50, 32, 50, 10, 108, 105, 32, 51, 32, 49, 10, 115, 121, 115, 10, 115, 112, 105, 110, 58, 10, 97, 100, 100, 105, 32, 53, 32, 49, 10, 106, 109, 112, 32, 115, 112, 105, 110, 10])], [(0, Mgb0)], (.tuple #[(wL 12255 0 11 11), (wI 0), (wI 0)]), 12744, [(12255, some Mgb31)]⟩
theorem e1_ok : Ab.partB full_1 3000 14 e1 = true := by kernel_rfl
def l3_14 : List Ab.Entry := [e1]
theorem l3_14_ok : ∀ e ∈ l3_14, Ab.EntryOk Ab.Sig.none Tryz.prog 14 e := List.forall_mem_cons.2 ⟨Ab.partB_ok full_1_sure e1_ok, fun _ h => (by cases h)⟩
def tab_0_14 : List Ab.Entry := l3_14
theorem tab_0_14_ok : ∀ e ∈ tab_0_14, Ab.EntryOk Ab.Sig.none Tryz.prog 14 e := fun e => fun h => l3_14_ok e h
def tab_0_15 : List Ab.Entry := l1_15
theorem tab_0_15_ok : ∀ e ∈ tab_0_15, Ab.EntryOk Ab.Sig.none Tryz.prog 15 e := fun e => fun h => l1_15_ok e h
def tab_0_16 : List Ab.Entry := l1_16 ++ l2_16
theorem tab_0_16_ok : ∀ e ∈ tab_0_16, Ab.EntryOk Ab.Sig.none Tryz.prog 16 e := fun e => fun h => (List.mem_append.1 h).elim (fun h => l1_16_ok e h) (fun h => l2_16_ok e h)
def full_0 : Ab.Env := (Ab.withTab (Ab.withTab (Ab.withTab (Ab.envS Tryz.prog 227 374) 14 tab_0_14) 15 tab_0_15) 16 tab_0_16)
theorem full_0_sure : Ab.Sure Ab.Sig.none full_0 := (Ab.withTab_sure (Ab.withTab_sure (Ab.withTab_sure E_sure rfl tab_0_14_ok) rfl tab_0_15_ok) rfl tab_0_16_ok)
def e121 : Ab.Entry := ⟨110395, [(wS [108, 105, 32, 48, 32, 50, 10, 115, 121, 115, 10, 106, 122, 32, 48, 32, 107, 105, 100, 10, 115, 116, 97, 121, 58, 10, 106, 109, 112, 32, 115, 116, 97, 121, 10, 107, 105, 100, 58, 10, 108, 105, 32, 48, 32, 49, 57, 10, 108, 105, 32, 49, 32, 49, 48, 10, 108, 105, 32, 50, 32, 50, 10, 108, 105, 32, 51, 32, 49, 10, 115, 121, 115, 10, 115, 112, 105, 110, 58, 10, 97, 100, 100, 105, 32, 53, 32, 49, 10, 106, 109, 112, 32, 115, 112, 105, 110, 10])], [(0, Mgb0)], (.tuple #[(wL 122574 0 11 11), (wI 0), (wI 0)]), 123063, [(122574, some Mgb31)]⟩
theorem e121_ok : Ab.partB full_121 3000 14 e121 = true := by kernel_rfl
def l16_14 : List Ab.Entry := [e121]
theorem l16_14_ok : ∀ e ∈ l16_14, Ab.EntryOk Ab.Sig.none Tryz.prog 14 e := List.forall_mem_cons.2 ⟨Ab.partB_ok full_121_sure e121_ok, fun _ h => (by cases h)⟩
def tab_120_14 : List Ab.Entry := l16_14
theorem tab_120_14_ok : ∀ e ∈ tab_120_14, Ab.EntryOk Ab.Sig.none Tryz.prog 14 e := fun e => fun h => l16_14_ok e h
def tab_120_15 : List Ab.Entry := l14_15
theorem tab_120_15_ok : ∀ e ∈ tab_120_15, Ab.EntryOk Ab.Sig.none Tryz.prog 15 e := fun e => fun h => l14_15_ok e h
def tab_120_16 : List Ab.Entry := l14_16 ++ l15_16
theorem tab_120_16_ok : ∀ e ∈ tab_120_16, Ab.EntryOk Ab.Sig.none Tryz.prog 16 e := fun e => fun h => (List.mem_append.1 h).elim (fun h => l14_16_ok e h) (fun h => l15_16_ok e h)
def full_120 : Ab.Env := (Ab.withTab (Ab.withTab (Ab.withTab (Ab.envS Tryz.prog 227 374) 14 tab_120_14) 15 tab_120_15) 16 tab_120_16)
theorem full_120_sure : Ab.Sure Ab.Sig.none full_120 := (Ab.withTab_sure (Ab.withTab_sure (Ab.withTab_sure E_sure rfl tab_120_14_ok) rfl tab_120_15_ok) rfl tab_120_16_ok)
def e110 : Ab.Entry := ⟨101297, [(wA 12991 0), (wI 2)], [(12794, Mgb48), (12799, Mgb49), (12820, Mgb123), (12988, Mgb51), (12989, Mgb9), (12991, Mgb38), (17790, Mgb121), (17817, Mgb80), (17819, Mgb56), (21347, Mgb127), (21378, Mgb39), (38637, Mgb128)], (wI 0), 110110, []⟩
theorem e110_ok : Ab.partB full_110 3000 17 e110 = true := by kernel_rfl
def l10_17 : List Ab.Entry := [e110]
theorem l10_17_ok : ∀ e ∈ l10_17, Ab.EntryOk Ab.Sig.none Tryz.prog 17 e := List.forall_mem_cons.2 ⟨Ab.partB_ok full_110_sure e110_ok, fun _ h => (by cases h)⟩
def tab_109_17 : List Ab.Entry := l10_17
theorem tab_109_17_ok : ∀ e ∈ tab_109_17, Ab.EntryOk Ab.Sig.none Tryz.prog 17 e := fun e => fun h => l10_17_ok e h
def full_109 : Ab.Env := (Ab.withTab (Ab.envS Tryz.prog 227 374) 17 tab_109_17)
theorem full_109_sure : Ab.Sure Ab.Sig.none full_109 := (Ab.withTab_sure E_sure rfl tab_109_17_ok)
def e221 : Ab.Entry := ⟨192220, [(wA 123310 0), (wI 2)], [(123113, Mgb48), (123118, Mgb158), (123139, Mgb224), (123307, Mgb160), (123308, Mgb9), (123310, Mgb153), (128109, Mgb222), (128136, Mgb183), (128138, Mgb164), (131666, Mgb53), (131697, Mgb39), (148956, Mgb81)], (wI 0), 201033, []⟩
theorem e221_ok : Ab.partB full_221 3000 17 e221 = true := by kernel_rfl
def l20_17 : List Ab.Entry := [e221]
theorem l20_17_ok : ∀ e ∈ l20_17, Ab.EntryOk Ab.Sig.none Tryz.prog 17 e := List.forall_mem_cons.2 ⟨Ab.partB_ok full_221_sure e221_ok, fun _ h => (by cases h)⟩
def tab_220_17 : List Ab.Entry := l20_17
theorem tab_220_17_ok : ∀ e ∈ tab_220_17, Ab.EntryOk Ab.Sig.none Tryz.prog 17 e := fun e => fun h => l20_17_ok e h
def full_220 : Ab.Env := (Ab.withTab (Ab.envS Tryz.prog 227 374) 17 tab_220_17)
theorem full_220_sure : Ab.Sure Ab.Sig.none full_220 := (Ab.withTab_sure E_sure rfl tab_220_17_ok)
def e103 : Ab.Entry := ⟨86807, [(wA 86790 0)], [(12794, Mgb48), (12799, Mgb49), (12988, Mgb51), (12989, Mgb9), (12991, Mgb38), (17790, Mgb121), (17817, Mgb80), (17819, Mgb56), (21347, Mgb53), (21378, Mgb39), (38637, Mgb81), (86788, Mgb9), (86790, Mgb129)], (.tuple #[(wL 91237 0 3 3), (wL 91274 0 3 3)]), 91286, [(91237, some Mgb130), (91274, some Mgb130)]⟩
theorem e103_ok : Ab.partB full_103 3000 54 e103 = true := by kernel_rfl
def l7_54 : List Ab.Entry := [e103]
theorem l7_54_ok : ∀ e ∈ l7_54, Ab.EntryOk Ab.Sig.none Tryz.prog 54 e := List.forall_mem_cons.2 ⟨Ab.partB_ok full_103_sure e103_ok, fun _ h => (by cases h)⟩
def tab_102_54 : List Ab.Entry := l7_54
theorem tab_102_54_ok : ∀ e ∈ tab_102_54, Ab.EntryOk Ab.Sig.none Tryz.prog 54 e := fun e => fun h => l7_54_ok e h
def tab_102_57 : List Ab.Entry := l6_57
theorem tab_102_57_ok : ∀ e ∈ tab_102_57, Ab.EntryOk Ab.Sig.none Tryz.prog 57 e := fun e => fun h => l6_57_ok e h
def tab_102_60 : List Ab.Entry := l6_60
theorem tab_102_60_ok : ∀ e ∈ tab_102_60, Ab.EntryOk Ab.Sig.none Tryz.prog 60 e := fun e => fun h => l6_60_ok e h
def full_102 : Ab.Env := (Ab.withTab (Ab.withTab (Ab.withTab (Ab.envS Tryz.prog 227 374) 54 tab_102_54) 57 tab_102_57) 60 tab_102_60)
theorem full_102_sure : Ab.Sure Ab.Sig.none full_102 := (Ab.withTab_sure (Ab.withTab_sure (Ab.withTab_sure E_sure rfl tab_102_54_ok) rfl tab_102_57_ok) rfl tab_102_60_ok)
def e231 : Ab.Entry := ⟨209978, [(wA 209961 0)], [(123113, Mgb48), (123118, Mgb158), (123307, Mgb160), (123308, Mgb9), (123310, Mgb153), (128109, Mgb222), (128136, Mgb183), (128138, Mgb164), (131666, Mgb53), (131697, Mgb39), (148956, Mgb81), (209959, Mgb9), (209961, Mgb228)], (.tuple #[(wL 214408 0 3 3), (wL 214445 0 3 3)]), 214457, [(214408, some Mgb130), (214445, some Mgb130)]⟩
theorem e231_ok : Ab.partB full_231 3000 54 e231 = true := by kernel_rfl
def l24_54 : List Ab.Entry := [e231]
theorem l24_54_ok : ∀ e ∈ l24_54, Ab.EntryOk Ab.Sig.none Tryz.prog 54 e := List.forall_mem_cons.2 ⟨Ab.partB_ok full_231_sure e231_ok, fun _ h => (by cases h)⟩
def tab_230_54 : List Ab.Entry := l24_54
theorem tab_230_54_ok : ∀ e ∈ tab_230_54, Ab.EntryOk Ab.Sig.none Tryz.prog 54 e := fun e => fun h => l24_54_ok e h
def tab_230_57 : List Ab.Entry := l23_57
theorem tab_230_57_ok : ∀ e ∈ tab_230_57, Ab.EntryOk Ab.Sig.none Tryz.prog 57 e := fun e => fun h => l23_57_ok e h
def tab_230_60 : List Ab.Entry := l23_60
theorem tab_230_60_ok : ∀ e ∈ tab_230_60, Ab.EntryOk Ab.Sig.none Tryz.prog 60 e := fun e => fun h => l23_60_ok e h
def full_230 : Ab.Env := (Ab.withTab (Ab.withTab (Ab.withTab (Ab.envS Tryz.prog 227 374) 54 tab_230_54) 57 tab_230_57) 60 tab_230_60)
theorem full_230_sure : Ab.Sure Ab.Sig.none full_230 := (Ab.withTab_sure (Ab.withTab_sure (Ab.withTab_sure E_sure rfl tab_230_54_ok) rfl tab_230_57_ok) rfl tab_230_60_ok)
def e218 : Ab.Entry := ⟨188245, [(wA 123310 0), (wI 1)], [(123113, Mgb48), (123118, Mgb158), (123139, Mgb224), (123307, Mgb160), (123308, Mgb9), (123310, Mgb153), (123315, Mgb39), (123321, Mgb168), (123328, Mgb155), (123330, Mgb156), (123816, Mgb53)], (wI 180), 192198, []⟩
theorem e218_ok : Ab.partB full_218 3000 17 e218 = true := by kernel_rfl
def l18_17 : List Ab.Entry := [e218]
theorem l18_17_ok : ∀ e ∈ l18_17, Ab.EntryOk Ab.Sig.none Tryz.prog 17 e := List.forall_mem_cons.2 ⟨Ab.partB_ok full_218_sure e218_ok, fun _ h => (by cases h)⟩
def tab_217_17 : List Ab.Entry := l18_17
theorem tab_217_17_ok : ∀ e ∈ tab_217_17, Ab.EntryOk Ab.Sig.none Tryz.prog 17 e := fun e => fun h => l18_17_ok e h
def full_217 : Ab.Env := (Ab.withTab (Ab.envS Tryz.prog 227 374) 17 tab_217_17)
theorem full_217_sure : Ab.Sure Ab.Sig.none full_217 := (Ab.withTab_sure E_sure rfl tab_217_17_ok)
def e115 : Ab.Entry := ⟨110173, [wP, (wI 2)], [], (wI 1), 110239, []⟩
theorem e115_ok : Ab.partB full_115 3000 17 e115 = true := by kernel_rfl
def l12_17 : List Ab.Entry := [e115]
theorem l12_17_ok : ∀ e ∈ l12_17, Ab.EntryOk Ab.Sig.none Tryz.prog 17 e := List.forall_mem_cons.2 ⟨Ab.partB_ok full_115_sure e115_ok, fun _ h => (by cases h)⟩
def tab_114_17 : List Ab.Entry := l12_17
theorem tab_114_17_ok : ∀ e ∈ tab_114_17, Ab.EntryOk Ab.Sig.none Tryz.prog 17 e := fun e => fun h => l12_17_ok e h
def full_114 : Ab.Env := (Ab.withTab (Ab.envS Tryz.prog 227 374) 17 tab_114_17)
theorem full_114_sure : Ab.Sure Ab.Sig.none full_114 := (Ab.withTab_sure E_sure rfl tab_114_17_ok)
end
end Go.Proofs.YtijnhaadhgoloaaGreatDoor.migrateNames
