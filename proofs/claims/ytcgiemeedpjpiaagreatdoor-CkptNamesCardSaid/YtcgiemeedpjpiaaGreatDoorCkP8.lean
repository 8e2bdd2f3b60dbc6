/- CkptNames: calls, each by a run of its own. -/
import Derived.Test.YtcgiemeedpjpiaaGreatDoorCkB
import Derived.Test.YtcgiemeedpjpiaaGreatDoorCkE
namespace Go.Proofs.YtcgiemeedpjpiaaGreatDoor.ckptNames
open Go.Ab
set_option linter.unusedVariables false
noncomputable section
def e157 : Ab.Entry := ⟨142546, [(wA 142423 0), (wS [108, 105, 32, 48, 32, 49, 57]), (wI 1)], [(0, Ckb0), (142423, Ckb165)], (.bool true), 143412, [(142423, some Ckb166), (143406, some Ckb3)]⟩
theorem e157_ok : Ab.partB (Ab.envS Tryz.prog 259 395) 3000 39 e157 = true := by kernel_rfl
def e158 : Ab.Entry := ⟨143515, [(wA 142423 0), (wS [108, 105, 32, 49, 32, 49, 48]), (wI 2)], [(0, Ckb0), (142423, Ckb166), (143406, Ckb3)], (.bool true), 144381, [(142423, some Ckb167), (143406, none), (144375, some Ckb5)]⟩
theorem e158_ok : Ab.partB (Ab.envS Tryz.prog 259 395) 3000 39 e158 = true := by kernel_rfl
def e159 : Ab.Entry := ⟨144484, [(wA 142423 0), (wS [108, 105, 32, 50, 32, 49]), (wI 3)], [(0, Ckb0), (142423, Ckb167), (144375, Ckb5)], (.bool true), 145322, [(142423, some Ckb168), (144375, none), (145316, some Ckb7)]⟩
theorem e159_ok : Ab.partB (Ab.envS Tryz.prog 259 395) 3000 39 e159 = true := by kernel_rfl
def e160 : Ab.Entry := ⟨145425, [(wA 142423 0), (wS [108, 105, 32, 51, 32, 49]), (wI 4)], [(0, Ckb0), (142423, Ckb168), (145316, Ckb7)], (.bool true), 146263, [(142423, some Ckb169), (145316, none), (146257, some Ckb9)]⟩
theorem e160_ok : Ab.partB (Ab.envS Tryz.prog 259 395) 3000 39 e160 = true := by kernel_rfl
def e161 : Ab.Entry := ⟨146366, [(wA 142423 0), (wS [115, 121, 115]), (wI 5)], [(0, Ckb0), (142423, Ckb169), (146257, Ckb9)], (.bool true), 147191, [(142423, some Ckb170), (146257, none), (147185, some Ckb11)]⟩
theorem e161_ok : Ab.partB (Ab.envS Tryz.prog 259 395) 3000 39 e161 = true := by kernel_rfl
def e162 : Ab.Entry := ⟨147294, [(wA 142423 0), (wS [108, 105, 32, 48, 32, 54]), (wI 6)], [(0, Ckb0), (142423, Ckb170), (147185, Ckb11)], (.bool true), 148132, [(142423, some Ckb171), (147185, none), (148126, some Ckb13)]⟩
theorem e162_ok : Ab.partB (Ab.envS Tryz.prog 259 395) 3000 39 e162 = true := by kernel_rfl
def e163 : Ab.Entry := ⟨148235, [(wA 142423 0), (wS [108, 105, 32, 49, 32, 54, 52, 48]), (wI 7)], [(0, Ckb0), (5, Ckb14), (142423, Ckb171), (148126, Ckb13)], (.bool true), 149222, [(142423, some Ckb172), (148126, none), (149216, some Ckb16)]⟩
theorem e163_ok : Ab.partB (Ab.envS Tryz.prog 259 395) 3000 39 e163 = true := by kernel_rfl
def e164 : Ab.Entry := ⟨149325, [(wA 142423 0), (wS [115, 121, 115]), (wI 8)], [(0, Ckb0), (142423, Ckb172), (149216, Ckb16)], (.bool true), 150150, [(142423, some Ckb173), (149216, none), (150144, some Ckb18)]⟩
theorem e164_ok : Ab.partB (Ab.envS Tryz.prog 259 395) 3000 39 e164 = true := by kernel_rfl
def e165 : Ab.Entry := ⟨150253, [(wA 142423 0), (wS [108, 105, 32, 48, 32, 50]), (wI 9)], [(0, Ckb0), (142423, Ckb173), (150144, Ckb18)], (.bool true), 151091, [(142423, some Ckb174), (150144, none), (151085, some Ckb20)]⟩
theorem e165_ok : Ab.partB (Ab.envS Tryz.prog 259 395) 3000 39 e165 = true := by kernel_rfl
def e166 : Ab.Entry := ⟨151194, [(wA 142423 0), (wS [115, 121, 115]), (wI 10)], [(0, Ckb0), (142423, Ckb174), (151085, Ckb20)], (.bool true), 152019, [(142423, some Ckb175), (151085, none), (152013, some Ckb22)]⟩
theorem e166_ok : Ab.partB (Ab.envS Tryz.prog 259 395) 3000 39 e166 = true := by kernel_rfl
def e167 : Ab.Entry := ⟨152122, [(wA 142423 0), (wS [106, 122, 32, 48, 32, 107, 105, 100]), (wI 11)], [(0, Ckb0), (142423, Ckb175), (152013, Ckb22)], (.bool true), 153322, [(142423, some Ckb176), (152013, none), (153194, some Ckb24), (153316, some Ckb25)]⟩
theorem e167_ok : Ab.partB (Ab.envS Tryz.prog 259 395) 3000 39 e167 = true := by kernel_rfl
def e168 : Ab.Entry := ⟨153425, [(wA 142423 0), (wS [115, 116, 97, 121, 58]), (wI 12)], [(142421, Ckb26), (142423, Ckb176)], (.bool true), 153619, [(142421, some Ckb27)]⟩
theorem e168_ok : Ab.partB (Ab.envS Tryz.prog 259 395) 3000 39 e168 = true := by kernel_rfl
def e169 : Ab.Entry := ⟨153722, [(wA 142423 0), (wS [106, 109, 112, 32, 115, 116, 97, 121]), (wI 13)], [(0, Ckb0), (142423, Ckb176), (153194, Ckb24), (153316, Ckb25)], (.bool true), 154753, [(142423, some Ckb177), (153194, none), (153316, none), (154625, some Ckb29), (154747, some Ckb30)]⟩
theorem e169_ok : Ab.partB (Ab.envS Tryz.prog 259 395) 3000 39 e169 = true := by kernel_rfl
def e170 : Ab.Entry := ⟨154856, [(wA 142423 0), (wS [107, 105, 100, 58]), (wI 14)], [(142421, Ckb27), (142423, Ckb177)], (.bool true), 155025, [(142421, some Ckb31)]⟩
theorem e170_ok : Ab.partB (Ab.envS Tryz.prog 259 395) 3000 39 e170 = true := by kernel_rfl
def e171 : Ab.Entry := ⟨155128, [(wA 142423 0), (wS [101, 110, 100, 58]), (wI 15)], [(142421, Ckb31), (142423, Ckb177)], (.bool true), 155297, [(142421, some Ckb178)]⟩
theorem e171_ok : Ab.partB (Ab.envS Tryz.prog 259 395) 3000 39 e171 = true := by kernel_rfl
def e172 : Ab.Entry := ⟨155400, [(wA 142423 0), (wS [106, 109, 112, 32, 101, 110, 100]), (wI 16)], [(0, Ckb0), (142423, Ckb177), (154625, Ckb29), (154747, Ckb30)], (.bool true), 156406, [(142423, some Ckb179), (154625, none), (154747, none), (156278, some Ckb180), (156400, some Ckb181)]⟩
theorem e172_ok : Ab.partB (Ab.envS Tryz.prog 259 395) 3000 39 e172 = true := by kernel_rfl
def l8_39 : List Ab.Entry := [e157, e158, e159, e160, e161, e162, e163, e164, e165, e166, e167, e168, e169, e170, e171, e172]
theorem l8_39_ok : ∀ e ∈ l8_39, Ab.EntryOk Ab.Sig.none Tryz.prog 39 e := List.forall_mem_cons.2 ⟨Ab.partB_ok E_sure e157_ok, List.forall_mem_cons.2 ⟨Ab.partB_ok E_sure e158_ok, List.forall_mem_cons.2 ⟨Ab.partB_ok E_sure e159_ok, List.forall_mem_cons.2 ⟨Ab.partB_ok E_sure e160_ok, List.forall_mem_cons.2 ⟨Ab.partB_ok E_sure e161_ok, List.forall_mem_cons.2 ⟨Ab.partB_ok E_sure e162_ok, List.forall_mem_cons.2 ⟨Ab.partB_ok E_sure e163_ok, List.forall_mem_cons.2 ⟨Ab.partB_ok E_sure e164_ok, List.forall_mem_cons.2 ⟨Ab.partB_ok E_sure e165_ok, List.forall_mem_cons.2 ⟨Ab.partB_ok E_sure e166_ok, List.forall_mem_cons.2 ⟨Ab.partB_ok E_sure e167_ok, List.forall_mem_cons.2 ⟨Ab.partB_ok E_sure e168_ok, List.forall_mem_cons.2 ⟨Ab.partB_ok E_sure e169_ok, List.forall_mem_cons.2 ⟨Ab.partB_ok E_sure e170_ok, List.forall_mem_cons.2 ⟨Ab.partB_ok E_sure e171_ok, List.forall_mem_cons.2 ⟨Ab.partB_ok E_sure e172_ok, fun _ h => (by cases h)⟩⟩⟩⟩⟩⟩⟩⟩⟩⟩⟩⟩⟩⟩⟩⟩
def tab_156_39 : List Ab.Entry := l8_39
theorem tab_156_39_ok : ∀ e ∈ tab_156_39, Ab.EntryOk Ab.Sig.none Tryz.prog 39 e := fun e => fun h => l8_39_ok e h
def full_156 : Ab.Env := (Ab.withTab (Ab.envS Tryz.prog 259 395) 39 tab_156_39)
theorem full_156_sure : Ab.Sure Ab.Sig.none full_156 := (Ab.withTab_sure E_sure rfl tab_156_39_ok)
end
end Go.Proofs.YtcgiemeedpjpiaaGreatDoor.ckptNames
