/- KernelNames: calls, each by a run of its own. -/
import Derived.Test.YtmdneohkagkfpaaGreatDoorKnB
import Derived.Test.YtmdneohkagkfpaaGreatDoorKnE
namespace Go.Proofs.YtmdneohkagkfpaaGreatDoor.kernelNames
open Go.Ab
set_option linter.unusedVariables false
noncomputable section
def e49 : Ab.Entry := ⟨45611, [(wA 43685 0), (.agg #[(wI 1), (wI 0), (wI 0), (wI 0), (wI 0), (wU 0), (wS [])])], [(2, Knb0), (43466, Knb29), (43468, Knb30), (43514, Knb31), (43682, Knb32), (43685, Knb33), (43696, Knb34), (43703, Knb35), (43705, Knb36), (44191, Knb9), (45552, Knb10)], (.slice none 0 0), 46877, [(43696, some Knb37)]⟩
theorem e49_ok : Ab.partB (Ab.envS Tryz.prog 84 154) 3000 83 e49 = true := by kernel_rfl
def e50 : Ab.Entry := ⟨46881, [(wA 43685 0), (.agg #[(wI 4), (wI 0), (wI 0), (wI 0), (wI 0), (wU 0), (wS [])])], [(43514, Knb31), (43685, Knb33)], (.slice none 0 0), 46990, []⟩
theorem e50_ok : Ab.partB (Ab.envS Tryz.prog 84 154) 3000 83 e50 = true := by kernel_rfl
def e51 : Ab.Entry := ⟨47032, [(wA 43685 0), (.agg #[(wI 1), (wI 1), (wI 0), (wI 0), (wI 0), (wU 0), (wS [])])], [(43514, Knb31), (43682, Knb32), (43685, Knb33)], (.slice none 0 0), 47156, []⟩
theorem e51_ok : Ab.partB (Ab.envS Tryz.prog 84 154) 3000 83 e51 = true := by kernel_rfl
def e52 : Ab.Entry := ⟨47160, [(wA 43685 0), (.agg #[(wI 4), (wI 1), (wI 0), (wI 0), (wI 0), (wU 0), (wS [])])], [(43514, Knb31), (43685, Knb33)], (.slice none 0 0), 47269, []⟩
theorem e52_ok : Ab.partB (Ab.envS Tryz.prog 84 154) 3000 83 e52 = true := by kernel_rfl
def e53 : Ab.Entry := ⟨47350, [(wA 43685 0), (.agg #[(wI 1), (wI 0), (wI 0), (wI 0), (wI 0), (wU 0), (wS [])])], [(1, Knb13), (2, Knb0), (43466, Knb29), (43468, Knb30), (43488, Knb18), (43493, Knb38), (43514, Knb31), (43682, Knb32), (43685, Knb33), (43690, Knb20), (43696, Knb37), (43703, Knb35), (43705, Knb36), (44191, Knb9), (45552, Knb10)], (wL 53268 0 1 1), 53290, [(43466, some Knb39), (43488, some Knb40), (43493, some Knb41), (43514, some Knb42), (43682, some Knb43), (43696, some Knb44), (44191, some Knb45), (45552, none), (48880, some Knb46), (48907, some Knb47), (48909, some Knb48), (52437, some Knb45), (52468, some Knb20), (53117, some Knb49), (53268, some Knb50)]⟩
theorem e53_ok : Ab.partB (Ab.envS Tryz.prog 84 154) 3000 83 e53 = true := by kernel_rfl
def e54 : Ab.Entry := ⟨53294, [(wA 43685 0), (.agg #[(wI 4), (wI 0), (wI 0), (wI 0), (wI 0), (wU 0), (wS [])])], [(43514, Knb42), (43685, Knb33), (53117, Knb49)], (.slice none 0 0), 53431, [(43514, some Knb51), (53414, some Knb52)]⟩
theorem e54_ok : Ab.partB (Ab.envS Tryz.prog 84 154) 3000 83 e54 = true := by kernel_rfl
def e55 : Ab.Entry := ⟨53473, [(wA 43685 0), (.agg #[(wI 1), (wI 1), (wI 0), (wI 0), (wI 0), (wU 0), (wS [])])], [(43514, Knb51), (43682, Knb43), (43685, Knb33)], (.slice none 0 0), 53597, []⟩
theorem e55_ok : Ab.partB (Ab.envS Tryz.prog 84 154) 3000 83 e55 = true := by kernel_rfl
def e56 : Ab.Entry := ⟨53601, [(wA 43685 0), (.agg #[(wI 4), (wI 1), (wI 0), (wI 0), (wI 0), (wU 0), (wS [])])], [(43514, Knb51), (43685, Knb33)], (.slice none 0 0), 53710, []⟩
theorem e56_ok : Ab.partB (Ab.envS Tryz.prog 84 154) 3000 83 e56 = true := by kernel_rfl
def e57 : Ab.Entry := ⟨53791, [(wA 43685 0), (.agg #[(wI 1), (wI 0), (wI 0), (wI 0), (wI 0), (wU 0), (wS [])])], [(2, Knb0), (43466, Knb39), (43468, Knb30), (43514, Knb51), (43682, Knb43), (43685, Knb33), (48880, Knb46), (48907, Knb47), (48909, Knb48), (52437, Knb45), (53414, Knb52)], (.slice none 0 0), 55070, [(48880, some Knb53)]⟩
theorem e57_ok : Ab.partB (Ab.envS Tryz.prog 84 154) 3000 83 e57 = true := by kernel_rfl
def e58 : Ab.Entry := ⟨55074, [(wA 43685 0), (.agg #[(wI 4), (wI 0), (wI 0), (wI 0), (wI 0), (wU 0), (wS [])])], [(43514, Knb51), (43685, Knb33), (53414, Knb52)], (.slice none 0 0), 55211, [(43514, some Knb54), (55194, some Knb49)]⟩
theorem e58_ok : Ab.partB (Ab.envS Tryz.prog 84 154) 3000 83 e58 = true := by kernel_rfl
def e59 : Ab.Entry := ⟨55253, [(wA 43685 0), (.agg #[(wI 1), (wI 1), (wI 0), (wI 0), (wI 0), (wU 0), (wS [])])], [(43514, Knb54), (43682, Knb43), (43685, Knb33)], (.slice none 0 0), 55377, []⟩
theorem e59_ok : Ab.partB (Ab.envS Tryz.prog 84 154) 3000 83 e59 = true := by kernel_rfl
def e60 : Ab.Entry := ⟨55381, [(wA 43685 0), (.agg #[(wI 4), (wI 1), (wI 0), (wI 0), (wI 0), (wU 0), (wS [])])], [(43514, Knb54), (43685, Knb33)], (.slice none 0 0), 55490, []⟩
theorem e60_ok : Ab.partB (Ab.envS Tryz.prog 84 154) 3000 83 e60 = true := by kernel_rfl
def e61 : Ab.Entry := ⟨55571, [(wA 43685 0), (.agg #[(wI 1), (wI 0), (wI 0), (wI 0), (wI 0), (wU 0), (wS [])])], [(2, Knb0), (43466, Knb39), (43468, Knb30), (43514, Knb54), (43682, Knb43), (43685, Knb33), (43696, Knb44), (43703, Knb35), (43705, Knb36), (44191, Knb45), (55194, Knb49)], (.slice none 0 0), 56858, [(43696, some Knb55)]⟩
theorem e61_ok : Ab.partB (Ab.envS Tryz.prog 84 154) 3000 83 e61 = true := by kernel_rfl
def e62 : Ab.Entry := ⟨56862, [(wA 43685 0), (.agg #[(wI 4), (wI 0), (wI 0), (wI 0), (wI 0), (wU 0), (wS [])])], [(43514, Knb54), (43685, Knb33), (55194, Knb49)], (.slice none 0 0), 56999, [(43514, some Knb56), (56982, some Knb52)]⟩
theorem e62_ok : Ab.partB (Ab.envS Tryz.prog 84 154) 3000 83 e62 = true := by kernel_rfl
def e63 : Ab.Entry := ⟨57041, [(wA 43685 0), (.agg #[(wI 1), (wI 1), (wI 0), (wI 0), (wI 0), (wU 0), (wS [])])], [(43514, Knb56), (43682, Knb43), (43685, Knb33)], (.slice none 0 0), 57165, []⟩
theorem e63_ok : Ab.partB (Ab.envS Tryz.prog 84 154) 3000 83 e63 = true := by kernel_rfl
def e64 : Ab.Entry := ⟨57169, [(wA 43685 0), (.agg #[(wI 4), (wI 1), (wI 0), (wI 0), (wI 0), (wU 0), (wS [])])], [(43514, Knb56), (43685, Knb33)], (.slice none 0 0), 57278, []⟩
theorem e64_ok : Ab.partB (Ab.envS Tryz.prog 84 154) 3000 83 e64 = true := by kernel_rfl
def l2_83 : List Ab.Entry := [e49, e50, e51, e52, e53, e54, e55, e56, e57, e58, e59, e60, e61, e62, e63, e64]
theorem l2_83_ok : ∀ e ∈ l2_83, Ab.EntryOk Ab.Sig.none Tryz.prog 83 e := List.forall_mem_cons.2 ⟨Ab.partB_ok E_sure e49_ok, List.forall_mem_cons.2 ⟨Ab.partB_ok E_sure e50_ok, List.forall_mem_cons.2 ⟨Ab.partB_ok E_sure e51_ok, List.forall_mem_cons.2 ⟨Ab.partB_ok E_sure e52_ok, List.forall_mem_cons.2 ⟨Ab.partB_ok E_sure e53_ok, List.forall_mem_cons.2 ⟨Ab.partB_ok E_sure e54_ok, List.forall_mem_cons.2 ⟨Ab.partB_ok E_sure e55_ok, List.forall_mem_cons.2 ⟨Ab.partB_ok E_sure e56_ok, List.forall_mem_cons.2 ⟨Ab.partB_ok E_sure e57_ok, List.forall_mem_cons.2 ⟨Ab.partB_ok E_sure e58_ok, List.forall_mem_cons.2 ⟨Ab.partB_ok E_sure e59_ok, List.forall_mem_cons.2 ⟨Ab.partB_ok E_sure e60_ok, List.forall_mem_cons.2 ⟨Ab.partB_ok E_sure e61_ok, List.forall_mem_cons.2 ⟨Ab.partB_ok E_sure e62_ok, List.forall_mem_cons.2 ⟨Ab.partB_ok E_sure e63_ok, List.forall_mem_cons.2 ⟨Ab.partB_ok E_sure e64_ok, fun _ h => (by cases h)⟩⟩⟩⟩⟩⟩⟩⟩⟩⟩⟩⟩⟩⟩⟩⟩
end
end Go.Proofs.YtmdneohkagkfpaaGreatDoor.kernelNames
