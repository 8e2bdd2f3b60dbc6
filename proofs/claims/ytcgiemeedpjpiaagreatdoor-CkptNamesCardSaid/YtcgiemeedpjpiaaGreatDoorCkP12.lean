/- CkptNames: calls, each by a run of its own. -/
import Derived.Test.YtcgiemeedpjpiaaGreatDoorCkB
import Derived.Test.YtcgiemeedpjpiaaGreatDoorCkE
namespace Go.Proofs.YtcgiemeedpjpiaaGreatDoor.ckptNames
open Go.Ab
set_option linter.unusedVariables false
noncomputable section
def e298 : Ab.Entry := ⟨264230, [(wA 264107 0), (wS [108, 105, 32, 48, 32, 49, 57]), (wI 1)], [(0, Ckb0), (264107, Ckb274)], (.bool true), 265096, [(264107, some Ckb275), (265090, some Ckb3)]⟩
theorem e298_ok : Ab.partB (Ab.envS Tryz.prog 259 395) 3000 39 e298 = true := by kernel_rfl
def e299 : Ab.Entry := ⟨265199, [(wA 264107 0), (wS [108, 105, 32, 49, 32, 49, 48]), (wI 2)], [(0, Ckb0), (264107, Ckb275), (265090, Ckb3)], (.bool true), 266065, [(264107, some Ckb276), (265090, none), (266059, some Ckb5)]⟩
theorem e299_ok : Ab.partB (Ab.envS Tryz.prog 259 395) 3000 39 e299 = true := by kernel_rfl
def e300 : Ab.Entry := ⟨266168, [(wA 264107 0), (wS [108, 105, 32, 50, 32, 49]), (wI 3)], [(0, Ckb0), (264107, Ckb276), (266059, Ckb5)], (.bool true), 267006, [(264107, some Ckb277), (266059, none), (267000, some Ckb7)]⟩
theorem e300_ok : Ab.partB (Ab.envS Tryz.prog 259 395) 3000 39 e300 = true := by kernel_rfl
def e301 : Ab.Entry := ⟨267109, [(wA 264107 0), (wS [108, 105, 32, 51, 32, 49]), (wI 4)], [(0, Ckb0), (264107, Ckb277), (267000, Ckb7)], (.bool true), 267947, [(264107, some Ckb278), (267000, none), (267941, some Ckb9)]⟩
theorem e301_ok : Ab.partB (Ab.envS Tryz.prog 259 395) 3000 39 e301 = true := by kernel_rfl
def e302 : Ab.Entry := ⟨268050, [(wA 264107 0), (wS [115, 121, 115]), (wI 5)], [(0, Ckb0), (264107, Ckb278), (267941, Ckb9)], (.bool true), 268875, [(264107, some Ckb279), (267941, none), (268869, some Ckb11)]⟩
theorem e302_ok : Ab.partB (Ab.envS Tryz.prog 259 395) 3000 39 e302 = true := by kernel_rfl
def e303 : Ab.Entry := ⟨268978, [(wA 264107 0), (wS [108, 105, 32, 48, 32, 54]), (wI 6)], [(0, Ckb0), (264107, Ckb279), (268869, Ckb11)], (.bool true), 269816, [(264107, some Ckb280), (268869, none), (269810, some Ckb13)]⟩
theorem e303_ok : Ab.partB (Ab.envS Tryz.prog 259 395) 3000 39 e303 = true := by kernel_rfl
def e304 : Ab.Entry := ⟨269919, [(wA 264107 0), (wS [108, 105, 32, 49, 32, 54, 52, 48]), (wI 7)], [(0, Ckb0), (5, Ckb14), (264107, Ckb280), (269810, Ckb13)], (.bool true), 270906, [(264107, some Ckb281), (269810, none), (270900, some Ckb16)]⟩
theorem e304_ok : Ab.partB (Ab.envS Tryz.prog 259 395) 3000 39 e304 = true := by kernel_rfl
def e305 : Ab.Entry := ⟨271009, [(wA 264107 0), (wS [115, 121, 115]), (wI 8)], [(0, Ckb0), (264107, Ckb281), (270900, Ckb16)], (.bool true), 271834, [(264107, some Ckb282), (270900, none), (271828, some Ckb18)]⟩
theorem e305_ok : Ab.partB (Ab.envS Tryz.prog 259 395) 3000 39 e305 = true := by kernel_rfl
def e306 : Ab.Entry := ⟨271937, [(wA 264107 0), (wS [108, 105, 32, 48, 32, 50]), (wI 9)], [(0, Ckb0), (264107, Ckb282), (271828, Ckb18)], (.bool true), 272775, [(264107, some Ckb283), (271828, none), (272769, some Ckb20)]⟩
theorem e306_ok : Ab.partB (Ab.envS Tryz.prog 259 395) 3000 39 e306 = true := by kernel_rfl
def e307 : Ab.Entry := ⟨272878, [(wA 264107 0), (wS [115, 121, 115]), (wI 10)], [(0, Ckb0), (264107, Ckb283), (272769, Ckb20)], (.bool true), 273703, [(264107, some Ckb284), (272769, none), (273697, some Ckb22)]⟩
theorem e307_ok : Ab.partB (Ab.envS Tryz.prog 259 395) 3000 39 e307 = true := by kernel_rfl
def e308 : Ab.Entry := ⟨273806, [(wA 264107 0), (wS [106, 122, 32, 48, 32, 107, 105, 100]), (wI 11)], [(0, Ckb0), (264107, Ckb284), (273697, Ckb22)], (.bool true), 275006, [(264107, some Ckb285), (273697, none), (274878, some Ckb24), (275000, some Ckb25)]⟩
theorem e308_ok : Ab.partB (Ab.envS Tryz.prog 259 395) 3000 39 e308 = true := by kernel_rfl
def e309 : Ab.Entry := ⟨275109, [(wA 264107 0), (wS [115, 116, 97, 121, 58]), (wI 12)], [(264105, Ckb26), (264107, Ckb285)], (.bool true), 275303, [(264105, some Ckb27)]⟩
theorem e309_ok : Ab.partB (Ab.envS Tryz.prog 259 395) 3000 39 e309 = true := by kernel_rfl
def e310 : Ab.Entry := ⟨275406, [(wA 264107 0), (wS [106, 109, 112, 32, 115, 116, 97, 121]), (wI 13)], [(0, Ckb0), (264107, Ckb285), (274878, Ckb24), (275000, Ckb25)], (.bool true), 276437, [(264107, some Ckb286), (274878, none), (275000, none), (276309, some Ckb29), (276431, some Ckb30)]⟩
theorem e310_ok : Ab.partB (Ab.envS Tryz.prog 259 395) 3000 39 e310 = true := by kernel_rfl
def e311 : Ab.Entry := ⟨276540, [(wA 264107 0), (wS [107, 105, 100, 58]), (wI 14)], [(264105, Ckb27), (264107, Ckb286)], (.bool true), 276709, [(264105, some Ckb31)]⟩
theorem e311_ok : Ab.partB (Ab.envS Tryz.prog 259 395) 3000 39 e311 = true := by kernel_rfl
def e312 : Ab.Entry := ⟨276812, [(wA 264107 0), (wS [108, 105, 32, 48, 32, 57]), (wI 15)], [(0, Ckb0), (264107, Ckb286), (276431, Ckb30)], (.bool true), 277650, [(264107, some Ckb287), (276431, none), (277644, some Ckb33)]⟩
theorem e312_ok : Ab.partB (Ab.envS Tryz.prog 259 395) 3000 39 e312 = true := by kernel_rfl
def e313 : Ab.Entry := ⟨277753, [(wA 264107 0), (wS [108, 105, 32, 49, 32, 48]), (wI 16)], [(0, Ckb0), (264107, Ckb287), (277644, Ckb33)], (.bool true), 278591, [(264107, some Ckb288), (277644, none), (278585, some Ckb35)]⟩
theorem e313_ok : Ab.partB (Ab.envS Tryz.prog 259 395) 3000 39 e313 = true := by kernel_rfl
def e314 : Ab.Entry := ⟨278694, [(wA 264107 0), (wS [115, 121, 115]), (wI 17)], [(0, Ckb0), (264107, Ckb288), (278585, Ckb35)], (.bool true), 279519, [(264107, some Ckb289), (278585, none), (279513, some Ckb37)]⟩
theorem e314_ok : Ab.partB (Ab.envS Tryz.prog 259 395) 3000 39 e314 = true := by kernel_rfl
def e315 : Ab.Entry := ⟨279622, [(wA 264107 0), (wS [108, 105, 32, 48, 32, 57]), (wI 18)], [(0, Ckb0), (264107, Ckb289), (279513, Ckb37)], (.bool true), 280460, [(264107, some Ckb290), (279513, none), (280454, some Ckb39)]⟩
theorem e315_ok : Ab.partB (Ab.envS Tryz.prog 259 395) 3000 39 e315 = true := by kernel_rfl
def e316 : Ab.Entry := ⟨280563, [(wA 264107 0), (wS [108, 105, 32, 49, 32, 49]), (wI 19)], [(0, Ckb0), (264107, Ckb290), (280454, Ckb39)], (.bool true), 281401, [(264107, some Ckb291), (280454, none), (281395, some Ckb41)]⟩
theorem e316_ok : Ab.partB (Ab.envS Tryz.prog 259 395) 3000 39 e316 = true := by kernel_rfl
def e317 : Ab.Entry := ⟨281504, [(wA 264107 0), (wS [115, 121, 115]), (wI 20)], [(0, Ckb0), (264107, Ckb291), (281395, Ckb41)], (.bool true), 282329, [(264107, some Ckb292), (281395, none), (282323, some Ckb43)]⟩
theorem e317_ok : Ab.partB (Ab.envS Tryz.prog 259 395) 3000 39 e317 = true := by kernel_rfl
def e318 : Ab.Entry := ⟨282432, [(wA 264107 0), (wS [101, 110, 100, 58]), (wI 21)], [(264105, Ckb31), (264107, Ckb292)], (.bool true), 282601, [(264105, some Ckb44)]⟩
theorem e318_ok : Ab.partB (Ab.envS Tryz.prog 259 395) 3000 39 e318 = true := by kernel_rfl
def e319 : Ab.Entry := ⟨282704, [(wA 264107 0), (wS [106, 109, 112, 32, 101, 110, 100]), (wI 22)], [(0, Ckb0), (264107, Ckb292), (276309, Ckb29), (282323, Ckb43)], (.bool true), 283710, [(264107, some Ckb293), (276309, none), (282323, none), (283582, some Ckb46), (283704, some Ckb47)]⟩
theorem e319_ok : Ab.partB (Ab.envS Tryz.prog 259 395) 3000 39 e319 = true := by kernel_rfl
def l12_39 : List Ab.Entry := [e298, e299, e300, e301, e302, e303, e304, e305, e306, e307, e308, e309, e310, e311, e312, e313, e314, e315, e316, e317, e318, e319]
theorem l12_39_ok : ∀ e ∈ l12_39, Ab.EntryOk Ab.Sig.none Tryz.prog 39 e := List.forall_mem_cons.2 ⟨Ab.partB_ok E_sure e298_ok, List.forall_mem_cons.2 ⟨Ab.partB_ok E_sure e299_ok, List.forall_mem_cons.2 ⟨Ab.partB_ok E_sure e300_ok, List.forall_mem_cons.2 ⟨Ab.partB_ok E_sure e301_ok, List.forall_mem_cons.2 ⟨Ab.partB_ok E_sure e302_ok, List.forall_mem_cons.2 ⟨Ab.partB_ok E_sure e303_ok, List.forall_mem_cons.2 ⟨Ab.partB_ok E_sure e304_ok, List.forall_mem_cons.2 ⟨Ab.partB_ok E_sure e305_ok, List.forall_mem_cons.2 ⟨Ab.partB_ok E_sure e306_ok, List.forall_mem_cons.2 ⟨Ab.partB_ok E_sure e307_ok, List.forall_mem_cons.2 ⟨Ab.partB_ok E_sure e308_ok, List.forall_mem_cons.2 ⟨Ab.partB_ok E_sure e309_ok, List.forall_mem_cons.2 ⟨Ab.partB_ok E_sure e310_ok, List.forall_mem_cons.2 ⟨Ab.partB_ok E_sure e311_ok, List.forall_mem_cons.2 ⟨Ab.partB_ok E_sure e312_ok, List.forall_mem_cons.2 ⟨Ab.partB_ok E_sure e313_ok, List.forall_mem_cons.2 ⟨Ab.partB_ok E_sure e314_ok, List.forall_mem_cons.2 ⟨Ab.partB_ok E_sure e315_ok, List.forall_mem_cons.2 ⟨Ab.partB_ok E_sure e316_ok, List.forall_mem_cons.2 ⟨Ab.partB_ok E_sure e317_ok, List.forall_mem_cons.2 ⟨Ab.partB_ok E_sure e318_ok, List.forall_mem_cons.2 ⟨Ab.partB_ok E_sure e319_ok, fun _ h => (by cases h)⟩⟩⟩⟩⟩⟩⟩⟩⟩⟩⟩⟩⟩⟩⟩⟩⟩⟩⟩⟩⟩⟩
def tab_297_39 : List Ab.Entry := l12_39
theorem tab_297_39_ok : ∀ e ∈ tab_297_39, Ab.EntryOk Ab.Sig.none Tryz.prog 39 e := fun e => fun h => l12_39_ok e h
def full_297 : Ab.Env := (Ab.withTab (Ab.envS Tryz.prog 259 395) 39 tab_297_39)
theorem full_297_sure : Ab.Sure Ab.Sig.none full_297 := (Ab.withTab_sure E_sure rfl tab_297_39_ok)
end
end Go.Proofs.YtcgiemeedpjpiaaGreatDoor.ckptNames
