/- KernelNames: calls, each by a run of its own. -/
import Derived.Test.YtmdneohkagkfpaaGreatDoorKnB
import Derived.Test.YtmdneohkagkfpaaGreatDoorKnE
namespace Go.Proofs.YtmdneohkagkfpaaGreatDoor.kernelNames
open Go.Ab
set_option linter.unusedVariables false
noncomputable section
def e81 : Ab.Entry := ⟨64463, [(wA 43685 0), (.agg #[(wI 1), (wI 0), (wI 0), (wI 0), (wI 0), (wU 0), (wS [])])], [(1, Knb13), (2, Knb0), (43466, Knb39), (43468, Knb30), (43488, Knb40), (43493, Knb41), (43514, Knb64), (43682, Knb43), (43683, Knb23), (43685, Knb33), (43696, Knb63), (48880, Knb61), (48907, Knb47), (48909, Knb48), (52437, Knb45), (52468, Knb20), (64086, Knb52)], (wL 65887 0 1 1), 70350, [(43466, some Knb29), (43488, some Knb65), (43514, some Knb66), (43682, some Knb32), (43696, some Knb67), (48907, some Knb25), (52437, some Knb26), (64086, some Knb68), (65887, some Knb69)]⟩
theorem e81_ok : Ab.partB (Ab.envS Tryz.prog 84 154) 3000 83 e81 = true := by kernel_rfl
def e82 : Ab.Entry := ⟨70354, [(wA 43685 0), (.agg #[(wI 4), (wI 0), (wI 0), (wI 0), (wI 0), (wU 0), (wS [])])], [(43514, Knb66), (43685, Knb33)], (.slice none 0 0), 70463, []⟩
theorem e82_ok : Ab.partB (Ab.envS Tryz.prog 84 154) 3000 83 e82 = true := by kernel_rfl
def e83 : Ab.Entry := ⟨70505, [(wA 43685 0), (.agg #[(wI 1), (wI 1), (wI 0), (wI 0), (wI 0), (wU 0), (wS [])])], [(43514, Knb66), (43682, Knb32), (43685, Knb33)], (.slice none 0 0), 70629, []⟩
theorem e83_ok : Ab.partB (Ab.envS Tryz.prog 84 154) 3000 83 e83 = true := by kernel_rfl
def e84 : Ab.Entry := ⟨70633, [(wA 43685 0), (.agg #[(wI 4), (wI 1), (wI 0), (wI 0), (wI 0), (wU 0), (wS [])])], [(43514, Knb66), (43685, Knb33)], (.slice none 0 0), 70742, []⟩
theorem e84_ok : Ab.partB (Ab.envS Tryz.prog 84 154) 3000 83 e84 = true := by kernel_rfl
def e85 : Ab.Entry := ⟨70823, [(wA 43685 0), (.agg #[(wI 1), (wI 0), (wI 0), (wI 0), (wI 0), (wU 0), (wS [])])], [(1, Knb13), (2, Knb0), (43466, Knb29), (43468, Knb30), (43488, Knb65), (43493, Knb41), (43514, Knb66), (43682, Knb32), (43685, Knb33), (43696, Knb67), (43703, Knb35), (43705, Knb36), (44191, Knb45), (64086, Knb68)], (wL 72819 0 1 1), 72841, [(43488, some Knb18), (43696, some Knb70), (72819, some Knb71)]⟩
theorem e85_ok : Ab.partB (Ab.envS Tryz.prog 84 154) 3000 83 e85 = true := by kernel_rfl
def e86 : Ab.Entry := ⟨72845, [(wA 43685 0), (.agg #[(wI 4), (wI 0), (wI 0), (wI 0), (wI 0), (wU 0), (wS [])])], [(43514, Knb66), (43685, Knb33)], (.slice none 0 0), 72954, []⟩
theorem e86_ok : Ab.partB (Ab.envS Tryz.prog 84 154) 3000 83 e86 = true := by kernel_rfl
def e87 : Ab.Entry := ⟨72996, [(wA 43685 0), (.agg #[(wI 1), (wI 1), (wI 0), (wI 0), (wI 0), (wU 0), (wS [])])], [(43514, Knb66), (43682, Knb32), (43685, Knb33)], (.slice none 0 0), 73120, []⟩
theorem e87_ok : Ab.partB (Ab.envS Tryz.prog 84 154) 3000 83 e87 = true := by kernel_rfl
def e88 : Ab.Entry := ⟨73124, [(wA 43685 0), (.agg #[(wI 4), (wI 1), (wI 0), (wI 0), (wI 0), (wU 0), (wS [])])], [(43514, Knb66), (43685, Knb33)], (.slice none 0 0), 73233, []⟩
theorem e88_ok : Ab.partB (Ab.envS Tryz.prog 84 154) 3000 83 e88 = true := by kernel_rfl
def e89 : Ab.Entry := ⟨73314, [(wA 43685 0), (.agg #[(wI 1), (wI 0), (wI 0), (wI 0), (wI 0), (wU 0), (wS [])])], [(2, Knb0), (43466, Knb29), (43468, Knb30), (43514, Knb66), (43682, Knb32), (43685, Knb33), (43696, Knb70), (43703, Knb35), (43705, Knb36), (44191, Knb45), (64086, Knb68)], (.slice none 0 0), 74576, [(43696, some Knb72)]⟩
theorem e89_ok : Ab.partB (Ab.envS Tryz.prog 84 154) 3000 83 e89 = true := by kernel_rfl
def e90 : Ab.Entry := ⟨74580, [(wA 43685 0), (.agg #[(wI 4), (wI 0), (wI 0), (wI 0), (wI 0), (wU 0), (wS [])])], [(43514, Knb66), (43685, Knb33)], (.slice none 0 0), 74689, []⟩
theorem e90_ok : Ab.partB (Ab.envS Tryz.prog 84 154) 3000 83 e90 = true := by kernel_rfl
def e91 : Ab.Entry := ⟨74731, [(wA 43685 0), (.agg #[(wI 1), (wI 1), (wI 0), (wI 0), (wI 0), (wU 0), (wS [])])], [(43514, Knb66), (43682, Knb32), (43685, Knb33)], (.slice none 0 0), 74855, []⟩
theorem e91_ok : Ab.partB (Ab.envS Tryz.prog 84 154) 3000 83 e91 = true := by kernel_rfl
def e92 : Ab.Entry := ⟨74859, [(wA 43685 0), (.agg #[(wI 4), (wI 1), (wI 0), (wI 0), (wI 0), (wU 0), (wS [])])], [(43514, Knb66), (43685, Knb33)], (.slice none 0 0), 74968, []⟩
theorem e92_ok : Ab.partB (Ab.envS Tryz.prog 84 154) 3000 83 e92 = true := by kernel_rfl
def e93 : Ab.Entry := ⟨75049, [(wA 43685 0), (.agg #[(wI 1), (wI 0), (wI 0), (wI 0), (wI 0), (wU 0), (wS [])])], [(2, Knb0), (43466, Knb29), (43468, Knb30), (43514, Knb66), (43682, Knb32), (43685, Knb33), (43696, Knb72), (43703, Knb35), (43705, Knb36), (44191, Knb45), (64086, Knb68)], (.slice none 0 0), 76332, [(43696, some Knb73)]⟩
theorem e93_ok : Ab.partB (Ab.envS Tryz.prog 84 154) 3000 83 e93 = true := by kernel_rfl
def e94 : Ab.Entry := ⟨76336, [(wA 43685 0), (.agg #[(wI 4), (wI 0), (wI 0), (wI 0), (wI 0), (wU 0), (wS [])])], [(43514, Knb66), (43685, Knb33)], (.slice none 0 0), 76445, []⟩
theorem e94_ok : Ab.partB (Ab.envS Tryz.prog 84 154) 3000 83 e94 = true := by kernel_rfl
def e95 : Ab.Entry := ⟨76487, [(wA 43685 0), (.agg #[(wI 1), (wI 1), (wI 0), (wI 0), (wI 0), (wU 0), (wS [])])], [(43514, Knb66), (43682, Knb32), (43685, Knb33)], (.slice none 0 0), 76611, []⟩
theorem e95_ok : Ab.partB (Ab.envS Tryz.prog 84 154) 3000 83 e95 = true := by kernel_rfl
def e96 : Ab.Entry := ⟨76615, [(wA 43685 0), (.agg #[(wI 4), (wI 1), (wI 0), (wI 0), (wI 0), (wU 0), (wS [])])], [(43514, Knb66), (43685, Knb33)], (.slice none 0 0), 76724, []⟩
theorem e96_ok : Ab.partB (Ab.envS Tryz.prog 84 154) 3000 83 e96 = true := by kernel_rfl
def l4_83 : List Ab.Entry := [e81, e82, e83, e84, e85, e86, e87, e88, e89, e90, e91, e92, e93, e94, e95, e96]
theorem l4_83_ok : ∀ e ∈ l4_83, Ab.EntryOk Ab.Sig.none Tryz.prog 83 e := List.forall_mem_cons.2 ⟨Ab.partB_ok E_sure e81_ok, List.forall_mem_cons.2 ⟨Ab.partB_ok E_sure e82_ok, List.forall_mem_cons.2 ⟨Ab.partB_ok E_sure e83_ok, List.forall_mem_cons.2 ⟨Ab.partB_ok E_sure e84_ok, List.forall_mem_cons.2 ⟨Ab.partB_ok E_sure e85_ok, List.forall_mem_cons.2 ⟨Ab.partB_ok E_sure e86_ok, List.forall_mem_cons.2 ⟨Ab.partB_ok E_sure e87_ok, List.forall_mem_cons.2 ⟨Ab.partB_ok E_sure e88_ok, List.forall_mem_cons.2 ⟨Ab.partB_ok E_sure e89_ok, List.forall_mem_cons.2 ⟨Ab.partB_ok E_sure e90_ok, List.forall_mem_cons.2 ⟨Ab.partB_ok E_sure e91_ok, List.forall_mem_cons.2 ⟨Ab.partB_ok E_sure e92_ok, List.forall_mem_cons.2 ⟨Ab.partB_ok E_sure e93_ok, List.forall_mem_cons.2 ⟨Ab.partB_ok E_sure e94_ok, List.forall_mem_cons.2 ⟨Ab.partB_ok E_sure e95_ok, List.forall_mem_cons.2 ⟨Ab.partB_ok E_sure e96_ok, fun _ h => (by cases h)⟩⟩⟩⟩⟩⟩⟩⟩⟩⟩⟩⟩⟩⟩⟩⟩
end
end Go.Proofs.YtmdneohkagkfpaaGreatDoor.kernelNames
