/- KernelNames: calls, each by a run of its own. -/
import Derived.Test.YtmdneohkagkfpaaGreatDoorKnB
import Derived.Test.YtmdneohkagkfpaaGreatDoorKnE
namespace Go.Proofs.YtmdneohkagkfpaaGreatDoor.kernelNames
open Go.Ab
set_option linter.unusedVariables false
noncomputable section
def e6 : Ab.Entry := ⟨16040, [(wA 14219 0), (.agg #[(wI 1), (wI 0), (wI 0), (wI 0), (wI 0), (wU 0), (wS [])])], [(2, Knb0), (14000, Knb1), (14002, Knb2), (14048, Knb3), (14216, Knb4), (14219, Knb5), (14230, Knb6), (14237, Knb7), (14239, Knb8), (14725, Knb9), (15981, Knb10)], (.slice none 0 0), 17306, [(14230, some Knb11)]⟩
theorem e6_ok : Ab.partB (Ab.envS Tryz.prog 84 154) 3000 83 e6 = true := by kernel_rfl
def e7 : Ab.Entry := ⟨17310, [(wA 14219 0), (.agg #[(wI 4), (wI 0), (wI 0), (wI 0), (wI 0), (wU 0), (wS [])])], [(14048, Knb3), (14219, Knb5)], (.slice none 0 0), 17419, []⟩
theorem e7_ok : Ab.partB (Ab.envS Tryz.prog 84 154) 3000 83 e7 = true := by kernel_rfl
def e8 : Ab.Entry := ⟨17461, [(wA 14219 0), (.agg #[(wI 1), (wI 1), (wI 0), (wI 0), (wI 0), (wU 0), (wS [])])], [(14048, Knb3), (14216, Knb4), (14219, Knb5)], (.slice none 0 0), 17585, []⟩
theorem e8_ok : Ab.partB (Ab.envS Tryz.prog 84 154) 3000 83 e8 = true := by kernel_rfl
def e9 : Ab.Entry := ⟨17589, [(wA 14219 0), (.agg #[(wI 4), (wI 1), (wI 0), (wI 0), (wI 0), (wU 0), (wS [])])], [(14048, Knb3), (14219, Knb5)], (.slice none 0 0), 17698, []⟩
theorem e9_ok : Ab.partB (Ab.envS Tryz.prog 84 154) 3000 83 e9 = true := by kernel_rfl
def e10 : Ab.Entry := ⟨17779, [(wA 14219 0), (.agg #[(wI 1), (wI 0), (wI 0), (wI 0), (wI 0), (wU 0), (wS [])])], [(2, Knb0), (14000, Knb1), (14002, Knb2), (14048, Knb3), (14216, Knb4), (14219, Knb5), (14230, Knb11), (14237, Knb7), (14239, Knb8), (14725, Knb9), (15981, Knb10)], (.slice none 0 0), 19045, [(14230, some Knb12)]⟩
theorem e10_ok : Ab.partB (Ab.envS Tryz.prog 84 154) 3000 83 e10 = true := by kernel_rfl
def e11 : Ab.Entry := ⟨19049, [(wA 14219 0), (.agg #[(wI 4), (wI 0), (wI 0), (wI 0), (wI 0), (wU 0), (wS [])])], [(14048, Knb3), (14219, Knb5)], (.slice none 0 0), 19158, []⟩
theorem e11_ok : Ab.partB (Ab.envS Tryz.prog 84 154) 3000 83 e11 = true := by kernel_rfl
def e12 : Ab.Entry := ⟨19200, [(wA 14219 0), (.agg #[(wI 1), (wI 1), (wI 0), (wI 0), (wI 0), (wU 0), (wS [])])], [(14048, Knb3), (14216, Knb4), (14219, Knb5)], (.slice none 0 0), 19324, []⟩
theorem e12_ok : Ab.partB (Ab.envS Tryz.prog 84 154) 3000 83 e12 = true := by kernel_rfl
def e13 : Ab.Entry := ⟨19328, [(wA 14219 0), (.agg #[(wI 4), (wI 1), (wI 0), (wI 0), (wI 0), (wU 0), (wS [])])], [(14048, Knb3), (14219, Knb5)], (.slice none 0 0), 19437, []⟩
theorem e13_ok : Ab.partB (Ab.envS Tryz.prog 84 154) 3000 83 e13 = true := by kernel_rfl
def e14 : Ab.Entry := ⟨19518, [(wA 14219 0), (.agg #[(wI 1), (wI 0), (wI 0), (wI 0), (wI 0), (wU 0), (wS [])])], [(1, Knb13), (2, Knb0), (14000, Knb1), (14002, Knb2), (14048, Knb3), (14216, Knb4), (14219, Knb5), (14230, Knb12), (14237, Knb7), (14239, Knb8), (14725, Knb9), (15981, Knb10)], (wL 20940 0 1 1), 20978, [(14230, some Knb14), (20940, some Knb15)]⟩
theorem e14_ok : Ab.partB (Ab.envS Tryz.prog 84 154) 3000 83 e14 = true := by kernel_rfl
def e15 : Ab.Entry := ⟨20982, [(wA 14219 0), (.agg #[(wI 4), (wI 0), (wI 0), (wI 0), (wI 0), (wU 0), (wS [])])], [(14048, Knb3), (14219, Knb5)], (.slice none 0 0), 21091, []⟩
theorem e15_ok : Ab.partB (Ab.envS Tryz.prog 84 154) 3000 83 e15 = true := by kernel_rfl
def e16 : Ab.Entry := ⟨21133, [(wA 14219 0), (.agg #[(wI 1), (wI 1), (wI 0), (wI 0), (wI 0), (wU 0), (wS [])])], [(14048, Knb3), (14216, Knb4), (14219, Knb5)], (.slice none 0 0), 21257, []⟩
theorem e16_ok : Ab.partB (Ab.envS Tryz.prog 84 154) 3000 83 e16 = true := by kernel_rfl
def e17 : Ab.Entry := ⟨21261, [(wA 14219 0), (.agg #[(wI 4), (wI 1), (wI 0), (wI 0), (wI 0), (wU 0), (wS [])])], [(14048, Knb3), (14219, Knb5)], (.slice none 0 0), 21370, []⟩
theorem e17_ok : Ab.partB (Ab.envS Tryz.prog 84 154) 3000 83 e17 = true := by kernel_rfl
def e18 : Ab.Entry := ⟨21451, [(wA 14219 0), (.agg #[(wI 1), (wI 0), (wI 0), (wI 0), (wI 0), (wU 0), (wS [])])], [(2, Knb0), (14000, Knb1), (14002, Knb2), (14048, Knb3), (14216, Knb4), (14219, Knb5), (14230, Knb14), (14237, Knb7), (14239, Knb8), (14725, Knb9), (15981, Knb10)], (.slice none 0 0), 22717, [(14230, some Knb16)]⟩
theorem e18_ok : Ab.partB (Ab.envS Tryz.prog 84 154) 3000 83 e18 = true := by kernel_rfl
def e19 : Ab.Entry := ⟨22721, [(wA 14219 0), (.agg #[(wI 4), (wI 0), (wI 0), (wI 0), (wI 0), (wU 0), (wS [])])], [(14048, Knb3), (14219, Knb5)], (.slice none 0 0), 22830, []⟩
theorem e19_ok : Ab.partB (Ab.envS Tryz.prog 84 154) 3000 83 e19 = true := by kernel_rfl
def e20 : Ab.Entry := ⟨22872, [(wA 14219 0), (.agg #[(wI 1), (wI 1), (wI 0), (wI 0), (wI 0), (wU 0), (wS [])])], [(14048, Knb3), (14216, Knb4), (14219, Knb5)], (.slice none 0 0), 22996, []⟩
theorem e20_ok : Ab.partB (Ab.envS Tryz.prog 84 154) 3000 83 e20 = true := by kernel_rfl
def e21 : Ab.Entry := ⟨23000, [(wA 14219 0), (.agg #[(wI 4), (wI 1), (wI 0), (wI 0), (wI 0), (wU 0), (wS [])])], [(14048, Knb3), (14219, Knb5)], (.slice none 0 0), 23109, []⟩
theorem e21_ok : Ab.partB (Ab.envS Tryz.prog 84 154) 3000 83 e21 = true := by kernel_rfl
def e22 : Ab.Entry := ⟨23190, [(wA 14219 0), (.agg #[(wI 1), (wI 0), (wI 0), (wI 0), (wI 0), (wU 0), (wS [])])], [(2, Knb0), (14000, Knb1), (14002, Knb2), (14048, Knb3), (14216, Knb4), (14219, Knb5), (14230, Knb16), (14237, Knb7), (14239, Knb8), (14725, Knb9), (15981, Knb10)], (.slice none 0 0), 24456, [(14230, some Knb17)]⟩
theorem e22_ok : Ab.partB (Ab.envS Tryz.prog 84 154) 3000 83 e22 = true := by kernel_rfl
def e23 : Ab.Entry := ⟨24460, [(wA 14219 0), (.agg #[(wI 4), (wI 0), (wI 0), (wI 0), (wI 0), (wU 0), (wS [])])], [(14048, Knb3), (14219, Knb5)], (.slice none 0 0), 24569, []⟩
theorem e23_ok : Ab.partB (Ab.envS Tryz.prog 84 154) 3000 83 e23 = true := by kernel_rfl
def e24 : Ab.Entry := ⟨24611, [(wA 14219 0), (.agg #[(wI 1), (wI 1), (wI 0), (wI 0), (wI 0), (wU 0), (wS [])])], [(14048, Knb3), (14216, Knb4), (14219, Knb5)], (.slice none 0 0), 24735, []⟩
theorem e24_ok : Ab.partB (Ab.envS Tryz.prog 84 154) 3000 83 e24 = true := by kernel_rfl
def e25 : Ab.Entry := ⟨24739, [(wA 14219 0), (.agg #[(wI 4), (wI 1), (wI 0), (wI 0), (wI 0), (wU 0), (wS [])])], [(14048, Knb3), (14219, Knb5)], (.slice none 0 0), 24848, []⟩
theorem e25_ok : Ab.partB (Ab.envS Tryz.prog 84 154) 3000 83 e25 = true := by kernel_rfl
def l0_83 : List Ab.Entry := [e6, e7, e8, e9, e10, e11, e12, e13, e14, e15, e16, e17, e18, e19, e20, e21, e22, e23, e24, e25]
theorem l0_83_ok : ∀ e ∈ l0_83, Ab.EntryOk Ab.Sig.none Tryz.prog 83 e := List.forall_mem_cons.2 ⟨Ab.partB_ok E_sure e6_ok, List.forall_mem_cons.2 ⟨Ab.partB_ok E_sure e7_ok, List.forall_mem_cons.2 ⟨Ab.partB_ok E_sure e8_ok, List.forall_mem_cons.2 ⟨Ab.partB_ok E_sure e9_ok, List.forall_mem_cons.2 ⟨Ab.partB_ok E_sure e10_ok, List.forall_mem_cons.2 ⟨Ab.partB_ok E_sure e11_ok, List.forall_mem_cons.2 ⟨Ab.partB_ok E_sure e12_ok, List.forall_mem_cons.2 ⟨Ab.partB_ok E_sure e13_ok, List.forall_mem_cons.2 ⟨Ab.partB_ok E_sure e14_ok, List.forall_mem_cons.2 ⟨Ab.partB_ok E_sure e15_ok, List.forall_mem_cons.2 ⟨Ab.partB_ok E_sure e16_ok, List.forall_mem_cons.2 ⟨Ab.partB_ok E_sure e17_ok, List.forall_mem_cons.2 ⟨Ab.partB_ok E_sure e18_ok, List.forall_mem_cons.2 ⟨Ab.partB_ok E_sure e19_ok, List.forall_mem_cons.2 ⟨Ab.partB_ok E_sure e20_ok, List.forall_mem_cons.2 ⟨Ab.partB_ok E_sure e21_ok, List.forall_mem_cons.2 ⟨Ab.partB_ok E_sure e22_ok, List.forall_mem_cons.2 ⟨Ab.partB_ok E_sure e23_ok, List.forall_mem_cons.2 ⟨Ab.partB_ok E_sure e24_ok, List.forall_mem_cons.2 ⟨Ab.partB_ok E_sure e25_ok, fun _ h => (by cases h)⟩⟩⟩⟩⟩⟩⟩⟩⟩⟩⟩⟩⟩⟩⟩⟩⟩⟩⟩⟩
end
end Go.Proofs.YtmdneohkagkfpaaGreatDoor.kernelNames
