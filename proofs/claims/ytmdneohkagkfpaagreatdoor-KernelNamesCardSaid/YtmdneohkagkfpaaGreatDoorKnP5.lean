/- KernelNames: calls, each by a run of its own. -/
import Derived.Test.YtmdneohkagkfpaaGreatDoorKnB
import Derived.Test.YtmdneohkagkfpaaGreatDoorKnE
namespace Go.Proofs.YtmdneohkagkfpaaGreatDoor.kernelNames
open Go.Ab
set_option linter.unusedVariables false
noncomputable section
def e97 : Ab.Entry := ⟨76805, [(wA 43685 0), (.agg #[(wI 1), (wI 0), (wI 0), (wI 0), (wI 0), (wU 0), (wS [])])], [(2, Knb0), (43466, Knb29), (43468, Knb30), (43514, Knb66), (43682, Knb32), (43685, Knb33), (43696, Knb73), (43703, Knb35), (43705, Knb36), (44191, Knb45), (64086, Knb68)], (.slice none 0 0), 78088, [(43696, some Knb74)]⟩
theorem e97_ok : Ab.partB (Ab.envS Tryz.prog 84 154) 3000 83 e97 = true := by kernel_rfl
def e98 : Ab.Entry := ⟨78092, [(wA 43685 0), (.agg #[(wI 4), (wI 0), (wI 0), (wI 0), (wI 0), (wU 0), (wS [])])], [(43514, Knb66), (43685, Knb33)], (.slice none 0 0), 78201, []⟩
theorem e98_ok : Ab.partB (Ab.envS Tryz.prog 84 154) 3000 83 e98 = true := by kernel_rfl
def e99 : Ab.Entry := ⟨78243, [(wA 43685 0), (.agg #[(wI 1), (wI 1), (wI 0), (wI 0), (wI 0), (wU 0), (wS [])])], [(43514, Knb66), (43682, Knb32), (43685, Knb33)], (.slice none 0 0), 78367, []⟩
theorem e99_ok : Ab.partB (Ab.envS Tryz.prog 84 154) 3000 83 e99 = true := by kernel_rfl
def e100 : Ab.Entry := ⟨78371, [(wA 43685 0), (.agg #[(wI 4), (wI 1), (wI 0), (wI 0), (wI 0), (wU 0), (wS [])])], [(43514, Knb66), (43685, Knb33)], (.slice none 0 0), 78480, []⟩
theorem e100_ok : Ab.partB (Ab.envS Tryz.prog 84 154) 3000 83 e100 = true := by kernel_rfl
def e101 : Ab.Entry := ⟨78561, [(wA 43685 0), (.agg #[(wI 1), (wI 0), (wI 0), (wI 0), (wI 0), (wU 0), (wS [])])], [(2, Knb0), (43466, Knb29), (43468, Knb30), (43514, Knb66), (43682, Knb32), (43685, Knb33), (43696, Knb74), (43703, Knb35), (43705, Knb36), (44191, Knb45), (64086, Knb68)], (.slice none 0 0), 79844, [(43696, some Knb75)]⟩
theorem e101_ok : Ab.partB (Ab.envS Tryz.prog 84 154) 3000 83 e101 = true := by kernel_rfl
def e102 : Ab.Entry := ⟨79848, [(wA 43685 0), (.agg #[(wI 4), (wI 0), (wI 0), (wI 0), (wI 0), (wU 0), (wS [])])], [(43514, Knb66), (43685, Knb33)], (.slice none 0 0), 79957, []⟩
theorem e102_ok : Ab.partB (Ab.envS Tryz.prog 84 154) 3000 83 e102 = true := by kernel_rfl
def e103 : Ab.Entry := ⟨79999, [(wA 43685 0), (.agg #[(wI 1), (wI 1), (wI 0), (wI 0), (wI 0), (wU 0), (wS [])])], [(43514, Knb66), (43682, Knb32), (43685, Knb33)], (.slice none 0 0), 80123, []⟩
theorem e103_ok : Ab.partB (Ab.envS Tryz.prog 84 154) 3000 83 e103 = true := by kernel_rfl
def e104 : Ab.Entry := ⟨80127, [(wA 43685 0), (.agg #[(wI 4), (wI 1), (wI 0), (wI 0), (wI 0), (wU 0), (wS [])])], [(43514, Knb66), (43685, Knb33)], (.slice none 0 0), 80236, []⟩
theorem e104_ok : Ab.partB (Ab.envS Tryz.prog 84 154) 3000 83 e104 = true := by kernel_rfl
def e105 : Ab.Entry := ⟨80317, [(wA 43685 0), (.agg #[(wI 1), (wI 0), (wI 0), (wI 0), (wI 0), (wU 0), (wS [])])], [(2, Knb0), (43466, Knb29), (43468, Knb30), (43514, Knb66), (43682, Knb32), (43685, Knb33), (43696, Knb75), (43703, Knb35), (43705, Knb36), (44191, Knb45), (64086, Knb68)], (.slice none 0 0), 81600, [(43696, some Knb76)]⟩
theorem e105_ok : Ab.partB (Ab.envS Tryz.prog 84 154) 3000 83 e105 = true := by kernel_rfl
def e106 : Ab.Entry := ⟨81604, [(wA 43685 0), (.agg #[(wI 4), (wI 0), (wI 0), (wI 0), (wI 0), (wU 0), (wS [])])], [(43514, Knb66), (43685, Knb33)], (.slice none 0 0), 81713, []⟩
theorem e106_ok : Ab.partB (Ab.envS Tryz.prog 84 154) 3000 83 e106 = true := by kernel_rfl
def e107 : Ab.Entry := ⟨81755, [(wA 43685 0), (.agg #[(wI 1), (wI 1), (wI 0), (wI 0), (wI 0), (wU 0), (wS [])])], [(43514, Knb66), (43682, Knb32), (43685, Knb33)], (.slice none 0 0), 81879, []⟩
theorem e107_ok : Ab.partB (Ab.envS Tryz.prog 84 154) 3000 83 e107 = true := by kernel_rfl
def e108 : Ab.Entry := ⟨81883, [(wA 43685 0), (.agg #[(wI 4), (wI 1), (wI 0), (wI 0), (wI 0), (wU 0), (wS [])])], [(43514, Knb66), (43685, Knb33)], (.slice none 0 0), 81992, []⟩
theorem e108_ok : Ab.partB (Ab.envS Tryz.prog 84 154) 3000 83 e108 = true := by kernel_rfl
def e109 : Ab.Entry := ⟨82073, [(wA 43685 0), (.agg #[(wI 1), (wI 0), (wI 0), (wI 0), (wI 0), (wU 0), (wS [])])], [(2, Knb0), (43466, Knb29), (43468, Knb30), (43514, Knb66), (43682, Knb32), (43685, Knb33), (43696, Knb76), (43703, Knb35), (43705, Knb36), (44191, Knb45), (64086, Knb68)], (.slice none 0 0), 83356, [(43696, some Knb77)]⟩
theorem e109_ok : Ab.partB (Ab.envS Tryz.prog 84 154) 3000 83 e109 = true := by kernel_rfl
def e110 : Ab.Entry := ⟨83360, [(wA 43685 0), (.agg #[(wI 4), (wI 0), (wI 0), (wI 0), (wI 0), (wU 0), (wS [])])], [(43514, Knb66), (43685, Knb33)], (.slice none 0 0), 83469, []⟩
theorem e110_ok : Ab.partB (Ab.envS Tryz.prog 84 154) 3000 83 e110 = true := by kernel_rfl
def e111 : Ab.Entry := ⟨83511, [(wA 43685 0), (.agg #[(wI 1), (wI 1), (wI 0), (wI 0), (wI 0), (wU 0), (wS [])])], [(43514, Knb66), (43682, Knb32), (43685, Knb33)], (.slice none 0 0), 83635, []⟩
theorem e111_ok : Ab.partB (Ab.envS Tryz.prog 84 154) 3000 83 e111 = true := by kernel_rfl
def e112 : Ab.Entry := ⟨83639, [(wA 43685 0), (.agg #[(wI 4), (wI 1), (wI 0), (wI 0), (wI 0), (wU 0), (wS [])])], [(43514, Knb66), (43685, Knb33)], (.slice none 0 0), 83748, []⟩
theorem e112_ok : Ab.partB (Ab.envS Tryz.prog 84 154) 3000 83 e112 = true := by kernel_rfl
def e113 : Ab.Entry := ⟨83829, [(wA 43685 0), (.agg #[(wI 1), (wI 0), (wI 0), (wI 0), (wI 0), (wU 0), (wS [])])], [(2, Knb0), (43466, Knb29), (43468, Knb30), (43514, Knb66), (43682, Knb32), (43685, Knb33), (43696, Knb77), (43703, Knb35), (43705, Knb36), (44191, Knb45), (64086, Knb68)], (.slice none 0 0), 85112, [(43696, some Knb78)]⟩
theorem e113_ok : Ab.partB (Ab.envS Tryz.prog 84 154) 3000 83 e113 = true := by kernel_rfl
def e114 : Ab.Entry := ⟨85116, [(wA 43685 0), (.agg #[(wI 4), (wI 0), (wI 0), (wI 0), (wI 0), (wU 0), (wS [])])], [(43514, Knb66), (43685, Knb33)], (.slice none 0 0), 85225, []⟩
theorem e114_ok : Ab.partB (Ab.envS Tryz.prog 84 154) 3000 83 e114 = true := by kernel_rfl
def e115 : Ab.Entry := ⟨85267, [(wA 43685 0), (.agg #[(wI 1), (wI 1), (wI 0), (wI 0), (wI 0), (wU 0), (wS [])])], [(43514, Knb66), (43682, Knb32), (43685, Knb33)], (.slice none 0 0), 85391, []⟩
theorem e115_ok : Ab.partB (Ab.envS Tryz.prog 84 154) 3000 83 e115 = true := by kernel_rfl
def e116 : Ab.Entry := ⟨85395, [(wA 43685 0), (.agg #[(wI 4), (wI 1), (wI 0), (wI 0), (wI 0), (wU 0), (wS [])])], [(43514, Knb66), (43685, Knb33)], (.slice none 0 0), 85504, []⟩
theorem e116_ok : Ab.partB (Ab.envS Tryz.prog 84 154) 3000 83 e116 = true := by kernel_rfl
def l5_83 : List Ab.Entry := [e97, e98, e99, e100, e101, e102, e103, e104, e105, e106, e107, e108, e109, e110, e111, e112, e113, e114, e115, e116]
theorem l5_83_ok : ∀ e ∈ l5_83, Ab.EntryOk Ab.Sig.none Tryz.prog 83 e := List.forall_mem_cons.2 ⟨Ab.partB_ok E_sure e97_ok, List.forall_mem_cons.2 ⟨Ab.partB_ok E_sure e98_ok, List.forall_mem_cons.2 ⟨Ab.partB_ok E_sure e99_ok, List.forall_mem_cons.2 ⟨Ab.partB_ok E_sure e100_ok, List.forall_mem_cons.2 ⟨Ab.partB_ok E_sure e101_ok, List.forall_mem_cons.2 ⟨Ab.partB_ok E_sure e102_ok, List.forall_mem_cons.2 ⟨Ab.partB_ok E_sure e103_ok, List.forall_mem_cons.2 ⟨Ab.partB_ok E_sure e104_ok, List.forall_mem_cons.2 ⟨Ab.partB_ok E_sure e105_ok, List.forall_mem_cons.2 ⟨Ab.partB_ok E_sure e106_ok, List.forall_mem_cons.2 ⟨Ab.partB_ok E_sure e107_ok, List.forall_mem_cons.2 ⟨Ab.partB_ok E_sure e108_ok, List.forall_mem_cons.2 ⟨Ab.partB_ok E_sure e109_ok, List.forall_mem_cons.2 ⟨Ab.partB_ok E_sure e110_ok, List.forall_mem_cons.2 ⟨Ab.partB_ok E_sure e111_ok, List.forall_mem_cons.2 ⟨Ab.partB_ok E_sure e112_ok, List.forall_mem_cons.2 ⟨Ab.partB_ok E_sure e113_ok, List.forall_mem_cons.2 ⟨Ab.partB_ok E_sure e114_ok, List.forall_mem_cons.2 ⟨Ab.partB_ok E_sure e115_ok, List.forall_mem_cons.2 ⟨Ab.partB_ok E_sure e116_ok, fun _ h => (by cases h)⟩⟩⟩⟩⟩⟩⟩⟩⟩⟩⟩⟩⟩⟩⟩⟩⟩⟩⟩⟩
end
end Go.Proofs.YtmdneohkagkfpaaGreatDoor.kernelNames
