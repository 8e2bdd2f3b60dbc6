/- CkptNames: calls, each by a run of its own. -/
import Derived.Test.YtcgiemeedpjpiaaGreatDoorCkB
import Derived.Test.YtcgiemeedpjpiaaGreatDoorCkE
namespace Go.Proofs.YtcgiemeedpjpiaaGreatDoor.ckptNames
open Go.Ab
set_option linter.unusedVariables false
noncomputable section
def e2 : Ab.Entry := ⟨211, [(wA 88 0), (wS [108, 105, 32, 48, 32, 49, 57]), (wI 1)], [(0, Ckb0), (88, Ckb1)], (.bool true), 1077, [(88, some Ckb2), (1071, some Ckb3)]⟩
theorem e2_ok : Ab.partB (Ab.envS Tryz.prog 259 395) 3000 39 e2 = true := by kernel_rfl
def e3 : Ab.Entry := ⟨1180, [(wA 88 0), (wS [108, 105, 32, 49, 32, 49, 48]), (wI 2)], [(0, Ckb0), (88, Ckb2), (1071, Ckb3)], (.bool true), 2046, [(88, some Ckb4), (1071, none), (2040, some Ckb5)]⟩
theorem e3_ok : Ab.partB (Ab.envS Tryz.prog 259 395) 3000 39 e3 = true := by kernel_rfl
def e4 : Ab.Entry := ⟨2149, [(wA 88 0), (wS [108, 105, 32, 50, 32, 49]), (wI 3)], [(0, Ckb0), (88, Ckb4), (2040, Ckb5)], (.bool true), 2987, [(88, some Ckb6), (2040, none), (2981, some Ckb7)]⟩
theorem e4_ok : Ab.partB (Ab.envS Tryz.prog 259 395) 3000 39 e4 = true := by kernel_rfl
def e5 : Ab.Entry := ⟨3090, [(wA 88 0), (wS [108, 105, 32, 51, 32, 49]), (wI 4)], [(0, Ckb0), (88, Ckb6), (2981, Ckb7)], (.bool true), 3928, [(88, some Ckb8), (2981, none), (3922, some Ckb9)]⟩
theorem e5_ok : Ab.partB (Ab.envS Tryz.prog 259 395) 3000 39 e5 = true := by kernel_rfl
def e6 : Ab.Entry := ⟨4031, [(wA 88 0), (wS [115, 121, 115]), (wI 5)], [(0, Ckb0), (88, Ckb8), (3922, Ckb9)], (.bool true), 4856, [(88, some Ckb10), (3922, none), (4850, some Ckb11)]⟩
theorem e6_ok : Ab.partB (Ab.envS Tryz.prog 259 395) 3000 39 e6 = true := by kernel_rfl
def e7 : Ab.Entry := ⟨4959, [(wA 88 0), (wS [108, 105, 32, 48, 32, 54]), (wI 6)], [(0, Ckb0), (88, Ckb10), (4850, Ckb11)], (.bool true), 5797, [(88, some Ckb12), (4850, none), (5791, some Ckb13)]⟩
theorem e7_ok : Ab.partB (Ab.envS Tryz.prog 259 395) 3000 39 e7 = true := by kernel_rfl
def e8 : Ab.Entry := ⟨5900, [(wA 88 0), (wS [108, 105, 32, 49, 32, 54, 52, 48]), (wI 7)], [(0, Ckb0), (5, Ckb14), (88, Ckb12), (5791, Ckb13)], (.bool true), 6887, [(88, some Ckb15), (5791, none), (6881, some Ckb16)]⟩
theorem e8_ok : Ab.partB (Ab.envS Tryz.prog 259 395) 3000 39 e8 = true := by kernel_rfl
def e9 : Ab.Entry := ⟨6990, [(wA 88 0), (wS [115, 121, 115]), (wI 8)], [(0, Ckb0), (88, Ckb15), (6881, Ckb16)], (.bool true), 7815, [(88, some Ckb17), (6881, none), (7809, some Ckb18)]⟩
theorem e9_ok : Ab.partB (Ab.envS Tryz.prog 259 395) 3000 39 e9 = true := by kernel_rfl
def e10 : Ab.Entry := ⟨7918, [(wA 88 0), (wS [108, 105, 32, 48, 32, 50]), (wI 9)], [(0, Ckb0), (88, Ckb17), (7809, Ckb18)], (.bool true), 8756, [(88, some Ckb19), (7809, none), (8750, some Ckb20)]⟩
theorem e10_ok : Ab.partB (Ab.envS Tryz.prog 259 395) 3000 39 e10 = true := by kernel_rfl
def e11 : Ab.Entry := ⟨8859, [(wA 88 0), (wS [115, 121, 115]), (wI 10)], [(0, Ckb0), (88, Ckb19), (8750, Ckb20)], (.bool true), 9684, [(88, some Ckb21), (8750, none), (9678, some Ckb22)]⟩
theorem e11_ok : Ab.partB (Ab.envS Tryz.prog 259 395) 3000 39 e11 = true := by kernel_rfl
def e12 : Ab.Entry := ⟨9787, [(wA 88 0), (wS [106, 122, 32, 48, 32, 107, 105, 100]), (wI 11)], [(0, Ckb0), (88, Ckb21), (9678, Ckb22)], (.bool true), 10987, [(88, some Ckb23), (9678, none), (10859, some Ckb24), (10981, some Ckb25)]⟩
theorem e12_ok : Ab.partB (Ab.envS Tryz.prog 259 395) 3000 39 e12 = true := by kernel_rfl
def e13 : Ab.Entry := ⟨11090, [(wA 88 0), (wS [115, 116, 97, 121, 58]), (wI 12)], [(86, Ckb26), (88, Ckb23)], (.bool true), 11284, [(86, some Ckb27)]⟩
theorem e13_ok : Ab.partB (Ab.envS Tryz.prog 259 395) 3000 39 e13 = true := by kernel_rfl
def e14 : Ab.Entry := ⟨11387, [(wA 88 0), (wS [106, 109, 112, 32, 115, 116, 97, 121]), (wI 13)], [(0, Ckb0), (88, Ckb23), (10859, Ckb24), (10981, Ckb25)], (.bool true), 12418, [(88, some Ckb28), (10859, none), (10981, none), (12290, some Ckb29), (12412, some Ckb30)]⟩
theorem e14_ok : Ab.partB (Ab.envS Tryz.prog 259 395) 3000 39 e14 = true := by kernel_rfl
def e15 : Ab.Entry := ⟨12521, [(wA 88 0), (wS [107, 105, 100, 58]), (wI 14)], [(86, Ckb27), (88, Ckb28)], (.bool true), 12690, [(86, some Ckb31)]⟩
theorem e15_ok : Ab.partB (Ab.envS Tryz.prog 259 395) 3000 39 e15 = true := by kernel_rfl
def e16 : Ab.Entry := ⟨12793, [(wA 88 0), (wS [108, 105, 32, 48, 32, 57]), (wI 15)], [(0, Ckb0), (88, Ckb28), (12412, Ckb30)], (.bool true), 13631, [(88, some Ckb32), (12412, none), (13625, some Ckb33)]⟩
theorem e16_ok : Ab.partB (Ab.envS Tryz.prog 259 395) 3000 39 e16 = true := by kernel_rfl
def e17 : Ab.Entry := ⟨13734, [(wA 88 0), (wS [108, 105, 32, 49, 32, 48]), (wI 16)], [(0, Ckb0), (88, Ckb32), (13625, Ckb33)], (.bool true), 14572, [(88, some Ckb34), (13625, none), (14566, some Ckb35)]⟩
theorem e17_ok : Ab.partB (Ab.envS Tryz.prog 259 395) 3000 39 e17 = true := by kernel_rfl
def e18 : Ab.Entry := ⟨14675, [(wA 88 0), (wS [115, 121, 115]), (wI 17)], [(0, Ckb0), (88, Ckb34), (14566, Ckb35)], (.bool true), 15500, [(88, some Ckb36), (14566, none), (15494, some Ckb37)]⟩
theorem e18_ok : Ab.partB (Ab.envS Tryz.prog 259 395) 3000 39 e18 = true := by kernel_rfl
def e19 : Ab.Entry := ⟨15603, [(wA 88 0), (wS [108, 105, 32, 48, 32, 57]), (wI 18)], [(0, Ckb0), (88, Ckb36), (15494, Ckb37)], (.bool true), 16441, [(88, some Ckb38), (15494, none), (16435, some Ckb39)]⟩
theorem e19_ok : Ab.partB (Ab.envS Tryz.prog 259 395) 3000 39 e19 = true := by kernel_rfl
def e20 : Ab.Entry := ⟨16544, [(wA 88 0), (wS [108, 105, 32, 49, 32, 49]), (wI 19)], [(0, Ckb0), (88, Ckb38), (16435, Ckb39)], (.bool true), 17382, [(88, some Ckb40), (16435, none), (17376, some Ckb41)]⟩
theorem e20_ok : Ab.partB (Ab.envS Tryz.prog 259 395) 3000 39 e20 = true := by kernel_rfl
def e21 : Ab.Entry := ⟨17485, [(wA 88 0), (wS [115, 121, 115]), (wI 20)], [(0, Ckb0), (88, Ckb40), (17376, Ckb41)], (.bool true), 18310, [(88, some Ckb42), (17376, none), (18304, some Ckb43)]⟩
theorem e21_ok : Ab.partB (Ab.envS Tryz.prog 259 395) 3000 39 e21 = true := by kernel_rfl
def e22 : Ab.Entry := ⟨18413, [(wA 88 0), (wS [101, 110, 100, 58]), (wI 21)], [(86, Ckb31), (88, Ckb42)], (.bool true), 18582, [(86, some Ckb44)]⟩
theorem e22_ok : Ab.partB (Ab.envS Tryz.prog 259 395) 3000 39 e22 = true := by kernel_rfl
def e23 : Ab.Entry := ⟨18685, [(wA 88 0), (wS [106, 109, 112, 32, 101, 110, 100]), (wI 22)], [(0, Ckb0), (88, Ckb42), (12290, Ckb29), (18304, Ckb43)], (.bool true), 19691, [(88, some Ckb45), (12290, none), (18304, none), (19563, some Ckb46), (19685, some Ckb47)]⟩
theorem e23_ok : Ab.partB (Ab.envS Tryz.prog 259 395) 3000 39 e23 = true := by kernel_rfl
def l0_39 : List Ab.Entry := [e2, e3, e4, e5, e6, e7, e8, e9, e10, e11, e12, e13, e14, e15, e16, e17, e18, e19, e20, e21, e22, e23]
theorem l0_39_ok : ∀ e ∈ l0_39, Ab.EntryOk Ab.Sig.none Tryz.prog 39 e := List.forall_mem_cons.2 ⟨Ab.partB_ok E_sure e2_ok, List.forall_mem_cons.2 ⟨Ab.partB_ok E_sure e3_ok, List.forall_mem_cons.2 ⟨Ab.partB_ok E_sure e4_ok, List.forall_mem_cons.2 ⟨Ab.partB_ok E_sure e5_ok, List.forall_mem_cons.2 ⟨Ab.partB_ok E_sure e6_ok, List.forall_mem_cons.2 ⟨Ab.partB_ok E_sure e7_ok, List.forall_mem_cons.2 ⟨Ab.partB_ok E_sure e8_ok, List.forall_mem_cons.2 ⟨Ab.partB_ok E_sure e9_ok, List.forall_mem_cons.2 ⟨Ab.partB_ok E_sure e10_ok, List.forall_mem_cons.2 ⟨Ab.partB_ok E_sure e11_ok, List.forall_mem_cons.2 ⟨Ab.partB_ok E_sure e12_ok, List.forall_mem_cons.2 ⟨Ab.partB_ok E_sure e13_ok, List.forall_mem_cons.2 ⟨Ab.partB_ok E_sure e14_ok, List.forall_mem_cons.2 ⟨Ab.partB_ok E_sure e15_ok, List.forall_mem_cons.2 ⟨Ab.partB_ok E_sure e16_ok, List.forall_mem_cons.2 ⟨Ab.partB_ok E_sure e17_ok, List.forall_mem_cons.2 ⟨Ab.partB_ok E_sure e18_ok, List.forall_mem_cons.2 ⟨Ab.partB_ok E_sure e19_ok, List.forall_mem_cons.2 ⟨Ab.partB_ok E_sure e20_ok, List.forall_mem_cons.2 ⟨Ab.partB_ok E_sure e21_ok, List.forall_mem_cons.2 ⟨Ab.partB_ok E_sure e22_ok, List.forall_mem_cons.2 ⟨Ab.partB_ok E_sure e23_ok, fun _ h => (by cases h)⟩⟩⟩⟩⟩⟩⟩⟩⟩⟩⟩⟩⟩⟩⟩⟩⟩⟩⟩⟩⟩⟩
def tab_1_39 : List Ab.Entry := l0_39
theorem tab_1_39_ok : ∀ e ∈ tab_1_39, Ab.EntryOk Ab.Sig.none Tryz.prog 39 e := fun e => fun h => l0_39_ok e h
def full_1 : Ab.Env := (Ab.withTab (Ab.envS Tryz.prog 259 395) 39 tab_1_39)
theorem full_1_sure : Ab.Sure Ab.Sig.none full_1 := (Ab.withTab_sure E_sure rfl tab_1_39_ok)
end
end Go.Proofs.YtcgiemeedpjpiaaGreatDoor.ckptNames
