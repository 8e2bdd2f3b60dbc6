/- KernelNames: calls, each by a run of its own. -/
import Derived.Test.YtmdneohkagkfpaaGreatDoorKnB
import Derived.Test.YtmdneohkagkfpaaGreatDoorKnE
namespace Go.Proofs.YtmdneohkagkfpaaGreatDoor.kernelNames
open Go.Ab
set_option linter.unusedVariables false
noncomputable section
def e65 : Ab.Entry := ⟨57359, [(wA 43685 0), (.agg #[(wI 1), (wI 0), (wI 0), (wI 0), (wI 0), (wU 0), (wS [])])], [(2, Knb0), (43466, Knb39), (43468, Knb30), (43514, Knb56), (43682, Knb43), (43685, Knb33), (48880, Knb53), (48907, Knb47), (48909, Knb48), (52437, Knb45), (56982, Knb52)], (.slice none 0 0), 58634, [(48880, some Knb57)]⟩
theorem e65_ok : Ab.partB (Ab.envS Tryz.prog 84 154) 3000 83 e65 = true := by kernel_rfl
def e66 : Ab.Entry := ⟨58638, [(wA 43685 0), (.agg #[(wI 4), (wI 0), (wI 0), (wI 0), (wI 0), (wU 0), (wS [])])], [(43514, Knb56), (43685, Knb33), (56982, Knb52)], (.slice none 0 0), 58775, [(43514, some Knb58), (58758, some Knb49)]⟩
theorem e66_ok : Ab.partB (Ab.envS Tryz.prog 84 154) 3000 83 e66 = true := by kernel_rfl
def e67 : Ab.Entry := ⟨58817, [(wA 43685 0), (.agg #[(wI 1), (wI 1), (wI 0), (wI 0), (wI 0), (wU 0), (wS [])])], [(43514, Knb58), (43682, Knb43), (43685, Knb33)], (.slice none 0 0), 58941, []⟩
theorem e67_ok : Ab.partB (Ab.envS Tryz.prog 84 154) 3000 83 e67 = true := by kernel_rfl
def e68 : Ab.Entry := ⟨58945, [(wA 43685 0), (.agg #[(wI 4), (wI 1), (wI 0), (wI 0), (wI 0), (wU 0), (wS [])])], [(43514, Knb58), (43685, Knb33)], (.slice none 0 0), 59054, []⟩
theorem e68_ok : Ab.partB (Ab.envS Tryz.prog 84 154) 3000 83 e68 = true := by kernel_rfl
def e69 : Ab.Entry := ⟨59135, [(wA 43685 0), (.agg #[(wI 1), (wI 0), (wI 0), (wI 0), (wI 0), (wU 0), (wS [])])], [(2, Knb0), (43466, Knb39), (43468, Knb30), (43514, Knb58), (43682, Knb43), (43685, Knb33), (43696, Knb55), (43703, Knb35), (43705, Knb36), (44191, Knb45), (58758, Knb49)], (.slice none 0 0), 60410, [(43696, some Knb59)]⟩
theorem e69_ok : Ab.partB (Ab.envS Tryz.prog 84 154) 3000 83 e69 = true := by kernel_rfl
def e70 : Ab.Entry := ⟨60414, [(wA 43685 0), (.agg #[(wI 4), (wI 0), (wI 0), (wI 0), (wI 0), (wU 0), (wS [])])], [(43514, Knb58), (43685, Knb33), (58758, Knb49)], (.slice none 0 0), 60551, [(43514, some Knb60), (60534, some Knb52)]⟩
theorem e70_ok : Ab.partB (Ab.envS Tryz.prog 84 154) 3000 83 e70 = true := by kernel_rfl
def e71 : Ab.Entry := ⟨60593, [(wA 43685 0), (.agg #[(wI 1), (wI 1), (wI 0), (wI 0), (wI 0), (wU 0), (wS [])])], [(43514, Knb60), (43682, Knb43), (43685, Knb33)], (.slice none 0 0), 60717, []⟩
theorem e71_ok : Ab.partB (Ab.envS Tryz.prog 84 154) 3000 83 e71 = true := by kernel_rfl
def e72 : Ab.Entry := ⟨60721, [(wA 43685 0), (.agg #[(wI 4), (wI 1), (wI 0), (wI 0), (wI 0), (wU 0), (wS [])])], [(43514, Knb60), (43685, Knb33)], (.slice none 0 0), 60830, []⟩
theorem e72_ok : Ab.partB (Ab.envS Tryz.prog 84 154) 3000 83 e72 = true := by kernel_rfl
def e73 : Ab.Entry := ⟨60911, [(wA 43685 0), (.agg #[(wI 1), (wI 0), (wI 0), (wI 0), (wI 0), (wU 0), (wS [])])], [(2, Knb0), (43466, Knb39), (43468, Knb30), (43514, Knb60), (43682, Knb43), (43685, Knb33), (48880, Knb57), (48907, Knb47), (48909, Knb48), (52437, Knb45), (60534, Knb52)], (.slice none 0 0), 62186, [(48880, some Knb61)]⟩
theorem e73_ok : Ab.partB (Ab.envS Tryz.prog 84 154) 3000 83 e73 = true := by kernel_rfl
def e74 : Ab.Entry := ⟨62190, [(wA 43685 0), (.agg #[(wI 4), (wI 0), (wI 0), (wI 0), (wI 0), (wU 0), (wS [])])], [(43514, Knb60), (43685, Knb33), (60534, Knb52)], (.slice none 0 0), 62327, [(43514, some Knb62), (62310, some Knb49)]⟩
theorem e74_ok : Ab.partB (Ab.envS Tryz.prog 84 154) 3000 83 e74 = true := by kernel_rfl
def e75 : Ab.Entry := ⟨62369, [(wA 43685 0), (.agg #[(wI 1), (wI 1), (wI 0), (wI 0), (wI 0), (wU 0), (wS [])])], [(43514, Knb62), (43682, Knb43), (43685, Knb33)], (.slice none 0 0), 62493, []⟩
theorem e75_ok : Ab.partB (Ab.envS Tryz.prog 84 154) 3000 83 e75 = true := by kernel_rfl
def e76 : Ab.Entry := ⟨62497, [(wA 43685 0), (.agg #[(wI 4), (wI 1), (wI 0), (wI 0), (wI 0), (wU 0), (wS [])])], [(43514, Knb62), (43685, Knb33)], (.slice none 0 0), 62606, []⟩
theorem e76_ok : Ab.partB (Ab.envS Tryz.prog 84 154) 3000 83 e76 = true := by kernel_rfl
def e77 : Ab.Entry := ⟨62687, [(wA 43685 0), (.agg #[(wI 1), (wI 0), (wI 0), (wI 0), (wI 0), (wU 0), (wS [])])], [(2, Knb0), (43466, Knb39), (43468, Knb30), (43514, Knb62), (43682, Knb43), (43685, Knb33), (43696, Knb59), (43703, Knb35), (43705, Knb36), (44191, Knb45), (62310, Knb49)], (.slice none 0 0), 63962, [(43696, some Knb63)]⟩
theorem e77_ok : Ab.partB (Ab.envS Tryz.prog 84 154) 3000 83 e77 = true := by kernel_rfl
def e78 : Ab.Entry := ⟨63966, [(wA 43685 0), (.agg #[(wI 4), (wI 0), (wI 0), (wI 0), (wI 0), (wU 0), (wS [])])], [(43514, Knb62), (43685, Knb33), (62310, Knb49)], (.slice none 0 0), 64103, [(43514, some Knb64), (64086, some Knb52)]⟩
theorem e78_ok : Ab.partB (Ab.envS Tryz.prog 84 154) 3000 83 e78 = true := by kernel_rfl
def e79 : Ab.Entry := ⟨64145, [(wA 43685 0), (.agg #[(wI 1), (wI 1), (wI 0), (wI 0), (wI 0), (wU 0), (wS [])])], [(43514, Knb64), (43682, Knb43), (43685, Knb33)], (.slice none 0 0), 64269, []⟩
theorem e79_ok : Ab.partB (Ab.envS Tryz.prog 84 154) 3000 83 e79 = true := by kernel_rfl
def e80 : Ab.Entry := ⟨64273, [(wA 43685 0), (.agg #[(wI 4), (wI 1), (wI 0), (wI 0), (wI 0), (wU 0), (wS [])])], [(43514, Knb64), (43685, Knb33)], (.slice none 0 0), 64382, []⟩
theorem e80_ok : Ab.partB (Ab.envS Tryz.prog 84 154) 3000 83 e80 = true := by kernel_rfl
def l3_83 : List Ab.Entry := [e65, e66, e67, e68, e69, e70, e71, e72, e73, e74, e75, e76, e77, e78, e79, e80]
theorem l3_83_ok : ∀ e ∈ l3_83, Ab.EntryOk Ab.Sig.none Tryz.prog 83 e := List.forall_mem_cons.2 ⟨Ab.partB_ok E_sure e65_ok, List.forall_mem_cons.2 ⟨Ab.partB_ok E_sure e66_ok, List.forall_mem_cons.2 ⟨Ab.partB_ok E_sure e67_ok, List.forall_mem_cons.2 ⟨Ab.partB_ok E_sure e68_ok, List.forall_mem_cons.2 ⟨Ab.partB_ok E_sure e69_ok, List.forall_mem_cons.2 ⟨Ab.partB_ok E_sure e70_ok, List.forall_mem_cons.2 ⟨Ab.partB_ok E_sure e71_ok, List.forall_mem_cons.2 ⟨Ab.partB_ok E_sure e72_ok, List.forall_mem_cons.2 ⟨Ab.partB_ok E_sure e73_ok, List.forall_mem_cons.2 ⟨Ab.partB_ok E_sure e74_ok, List.forall_mem_cons.2 ⟨Ab.partB_ok E_sure e75_ok, List.forall_mem_cons.2 ⟨Ab.partB_ok E_sure e76_ok, List.forall_mem_cons.2 ⟨Ab.partB_ok E_sure e77_ok, List.forall_mem_cons.2 ⟨Ab.partB_ok E_sure e78_ok, List.forall_mem_cons.2 ⟨Ab.partB_ok E_sure e79_ok, List.forall_mem_cons.2 ⟨Ab.partB_ok E_sure e80_ok, fun _ h => (by cases h)⟩⟩⟩⟩⟩⟩⟩⟩⟩⟩⟩⟩⟩⟩⟩⟩
end
end Go.Proofs.YtmdneohkagkfpaaGreatDoor.kernelNames
