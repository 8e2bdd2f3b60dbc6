/- KernelNames: calls, each by a run of its own. -/
import Derived.Test.YtmdneohkagkfpaaGreatDoorKnB
import Derived.Test.YtmdneohkagkfpaaGreatDoorKnE
namespace Go.Proofs.YtmdneohkagkfpaaGreatDoor.kernelNames
open Go.Ab
set_option linter.unusedVariables false
noncomputable section
def e26 : Ab.Entry := ⟨24929, [(wA 14219 0), (.agg #[(wI 1), (wI 0), (wI 0), (wI 0), (wI 0), (wU 0), (wS [])])], [(1, Knb13), (2, Knb0), (14000, Knb1), (14002, Knb2), (14022, Knb18), (14027, Knb19), (14048, Knb3), (14216, Knb4), (14219, Knb5), (14224, Knb20), (14230, Knb17), (14237, Knb7), (14239, Knb8), (14725, Knb9), (15981, Knb10)], (wL 26344 0 1 1), 30484, [(14000, some Knb21), (14048, some Knb22), (14216, some Knb23), (14219, some Knb24), (14237, some Knb25), (14725, some Knb26), (15981, some Knb27), (26344, some Knb28)]⟩
theorem e26_ok : Ab.partB (Ab.envS Tryz.prog 84 154) 3000 83 e26 = true := by kernel_rfl
def e27 : Ab.Entry := ⟨30488, [(wA 14219 0), (.agg #[(wI 4), (wI 0), (wI 0), (wI 0), (wI 0), (wU 0), (wS [])])], [(14219, Knb24)], (.slice none 0 0), 30537, []⟩
theorem e27_ok : Ab.partB (Ab.envS Tryz.prog 84 154) 3000 83 e27 = true := by kernel_rfl
def e28 : Ab.Entry := ⟨30579, [(wA 14219 0), (.agg #[(wI 1), (wI 1), (wI 0), (wI 0), (wI 0), (wU 0), (wS [])])], [(14219, Knb24)], (.slice none 0 0), 30631, []⟩
theorem e28_ok : Ab.partB (Ab.envS Tryz.prog 84 154) 3000 83 e28 = true := by kernel_rfl
def e29 : Ab.Entry := ⟨30635, [(wA 14219 0), (.agg #[(wI 4), (wI 1), (wI 0), (wI 0), (wI 0), (wU 0), (wS [])])], [(14219, Knb24)], (.slice none 0 0), 30684, []⟩
theorem e29_ok : Ab.partB (Ab.envS Tryz.prog 84 154) 3000 83 e29 = true := by kernel_rfl
def e30 : Ab.Entry := ⟨30765, [(wA 14219 0), (.agg #[(wI 1), (wI 0), (wI 0), (wI 0), (wI 0), (wU 0), (wS [])])], [(14219, Knb24)], (.slice none 0 0), 30817, []⟩
theorem e30_ok : Ab.partB (Ab.envS Tryz.prog 84 154) 3000 83 e30 = true := by kernel_rfl
def e31 : Ab.Entry := ⟨30821, [(wA 14219 0), (.agg #[(wI 4), (wI 0), (wI 0), (wI 0), (wI 0), (wU 0), (wS [])])], [(14219, Knb24)], (.slice none 0 0), 30870, []⟩
theorem e31_ok : Ab.partB (Ab.envS Tryz.prog 84 154) 3000 83 e31 = true := by kernel_rfl
def e32 : Ab.Entry := ⟨30912, [(wA 14219 0), (.agg #[(wI 1), (wI 1), (wI 0), (wI 0), (wI 0), (wU 0), (wS [])])], [(14219, Knb24)], (.slice none 0 0), 30964, []⟩
theorem e32_ok : Ab.partB (Ab.envS Tryz.prog 84 154) 3000 83 e32 = true := by kernel_rfl
def e33 : Ab.Entry := ⟨30968, [(wA 14219 0), (.agg #[(wI 4), (wI 1), (wI 0), (wI 0), (wI 0), (wU 0), (wS [])])], [(14219, Knb24)], (.slice none 0 0), 31017, []⟩
theorem e33_ok : Ab.partB (Ab.envS Tryz.prog 84 154) 3000 83 e33 = true := by kernel_rfl
def e34 : Ab.Entry := ⟨31098, [(wA 14219 0), (.agg #[(wI 1), (wI 0), (wI 0), (wI 0), (wI 0), (wU 0), (wS [])])], [(14219, Knb24)], (.slice none 0 0), 31150, []⟩
theorem e34_ok : Ab.partB (Ab.envS Tryz.prog 84 154) 3000 83 e34 = true := by kernel_rfl
def e35 : Ab.Entry := ⟨31154, [(wA 14219 0), (.agg #[(wI 4), (wI 0), (wI 0), (wI 0), (wI 0), (wU 0), (wS [])])], [(14219, Knb24)], (.slice none 0 0), 31203, []⟩
theorem e35_ok : Ab.partB (Ab.envS Tryz.prog 84 154) 3000 83 e35 = true := by kernel_rfl
def e36 : Ab.Entry := ⟨31245, [(wA 14219 0), (.agg #[(wI 1), (wI 1), (wI 0), (wI 0), (wI 0), (wU 0), (wS [])])], [(14219, Knb24)], (.slice none 0 0), 31297, []⟩
theorem e36_ok : Ab.partB (Ab.envS Tryz.prog 84 154) 3000 83 e36 = true := by kernel_rfl
def e37 : Ab.Entry := ⟨31301, [(wA 14219 0), (.agg #[(wI 4), (wI 1), (wI 0), (wI 0), (wI 0), (wU 0), (wS [])])], [(14219, Knb24)], (.slice none 0 0), 31350, []⟩
theorem e37_ok : Ab.partB (Ab.envS Tryz.prog 84 154) 3000 83 e37 = true := by kernel_rfl
def e38 : Ab.Entry := ⟨31431, [(wA 14219 0), (.agg #[(wI 1), (wI 0), (wI 0), (wI 0), (wI 0), (wU 0), (wS [])])], [(14219, Knb24)], (.slice none 0 0), 31483, []⟩
theorem e38_ok : Ab.partB (Ab.envS Tryz.prog 84 154) 3000 83 e38 = true := by kernel_rfl
def e39 : Ab.Entry := ⟨31487, [(wA 14219 0), (.agg #[(wI 4), (wI 0), (wI 0), (wI 0), (wI 0), (wU 0), (wS [])])], [(14219, Knb24)], (.slice none 0 0), 31536, []⟩
theorem e39_ok : Ab.partB (Ab.envS Tryz.prog 84 154) 3000 83 e39 = true := by kernel_rfl
def e40 : Ab.Entry := ⟨31578, [(wA 14219 0), (.agg #[(wI 1), (wI 1), (wI 0), (wI 0), (wI 0), (wU 0), (wS [])])], [(14219, Knb24)], (.slice none 0 0), 31630, []⟩
theorem e40_ok : Ab.partB (Ab.envS Tryz.prog 84 154) 3000 83 e40 = true := by kernel_rfl
def e41 : Ab.Entry := ⟨31634, [(wA 14219 0), (.agg #[(wI 4), (wI 1), (wI 0), (wI 0), (wI 0), (wU 0), (wS [])])], [(14219, Knb24)], (.slice none 0 0), 31683, []⟩
theorem e41_ok : Ab.partB (Ab.envS Tryz.prog 84 154) 3000 83 e41 = true := by kernel_rfl
def e42 : Ab.Entry := ⟨31764, [(wA 14219 0), (.agg #[(wI 1), (wI 0), (wI 0), (wI 0), (wI 0), (wU 0), (wS [])])], [(14219, Knb24)], (.slice none 0 0), 31816, []⟩
theorem e42_ok : Ab.partB (Ab.envS Tryz.prog 84 154) 3000 83 e42 = true := by kernel_rfl
def e43 : Ab.Entry := ⟨31820, [(wA 14219 0), (.agg #[(wI 4), (wI 0), (wI 0), (wI 0), (wI 0), (wU 0), (wS [])])], [(14219, Knb24)], (.slice none 0 0), 31869, []⟩
theorem e43_ok : Ab.partB (Ab.envS Tryz.prog 84 154) 3000 83 e43 = true := by kernel_rfl
def e44 : Ab.Entry := ⟨31911, [(wA 14219 0), (.agg #[(wI 1), (wI 1), (wI 0), (wI 0), (wI 0), (wU 0), (wS [])])], [(14219, Knb24)], (.slice none 0 0), 31963, []⟩
theorem e44_ok : Ab.partB (Ab.envS Tryz.prog 84 154) 3000 83 e44 = true := by kernel_rfl
def e45 : Ab.Entry := ⟨31967, [(wA 14219 0), (.agg #[(wI 4), (wI 1), (wI 0), (wI 0), (wI 0), (wU 0), (wS [])])], [(14219, Knb24)], (.slice none 0 0), 32016, []⟩
theorem e45_ok : Ab.partB (Ab.envS Tryz.prog 84 154) 3000 83 e45 = true := by kernel_rfl
def l1_83 : List Ab.Entry := [e26, e27, e28, e29, e30, e31, e32, e33, e34, e35, e36, e37, e38, e39, e40, e41, e42, e43, e44, e45]
theorem l1_83_ok : ∀ e ∈ l1_83, Ab.EntryOk Ab.Sig.none Tryz.prog 83 e := List.forall_mem_cons.2 ⟨Ab.partB_ok E_sure e26_ok, List.forall_mem_cons.2 ⟨Ab.partB_ok E_sure e27_ok, List.forall_mem_cons.2 ⟨Ab.partB_ok E_sure e28_ok, List.forall_mem_cons.2 ⟨Ab.partB_ok E_sure e29_ok, List.forall_mem_cons.2 ⟨Ab.partB_ok E_sure e30_ok, List.forall_mem_cons.2 ⟨Ab.partB_ok E_sure e31_ok, List.forall_mem_cons.2 ⟨Ab.partB_ok E_sure e32_ok, List.forall_mem_cons.2 ⟨Ab.partB_ok E_sure e33_ok, List.forall_mem_cons.2 ⟨Ab.partB_ok E_sure e34_ok, List.forall_mem_cons.2 ⟨Ab.partB_ok E_sure e35_ok, List.forall_mem_cons.2 ⟨Ab.partB_ok E_sure e36_ok, List.forall_mem_cons.2 ⟨Ab.partB_ok E_sure e37_ok, List.forall_mem_cons.2 ⟨Ab.partB_ok E_sure e38_ok, List.forall_mem_cons.2 ⟨Ab.partB_ok E_sure e39_ok, List.forall_mem_cons.2 ⟨Ab.partB_ok E_sure e40_ok, List.forall_mem_cons.2 ⟨Ab.partB_ok E_sure e41_ok, List.forall_mem_cons.2 ⟨Ab.partB_ok E_sure e42_ok, List.forall_mem_cons.2 ⟨Ab.partB_ok E_sure e43_ok, List.forall_mem_cons.2 ⟨Ab.partB_ok E_sure e44_ok, List.forall_mem_cons.2 ⟨Ab.partB_ok E_sure e45_ok, fun _ h => (by cases h)⟩⟩⟩⟩⟩⟩⟩⟩⟩⟩⟩⟩⟩⟩⟩⟩⟩⟩⟩⟩
end
end Go.Proofs.YtmdneohkagkfpaaGreatDoor.kernelNames
