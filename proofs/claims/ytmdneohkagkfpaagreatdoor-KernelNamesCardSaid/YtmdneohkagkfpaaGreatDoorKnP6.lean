/- KernelNames: calls, each by a run of its own. -/
import Derived.Test.YtmdneohkagkfpaaGreatDoorKnB
import Derived.Test.YtmdneohkagkfpaaGreatDoorKnE
namespace Go.Proofs.YtmdneohkagkfpaaGreatDoor.kernelNames
open Go.Ab
set_option linter.unusedVariables false
noncomputable section
def e117 : Ab.Entry := ⟨85585, [(wA 43685 0), (.agg #[(wI 1), (wI 0), (wI 0), (wI 0), (wI 0), (wU 0), (wS [])])], [(43466, Knb29), (43468, Knb30), (43488, Knb18), (43493, Knb41), (43514, Knb66), (43682, Knb32), (43685, Knb33), (43690, Knb20), (43696, Knb78), (43703, Knb35), (43705, Knb36), (44191, Knb45), (64086, Knb68)], (wL 86331 0 1 1), 90471, [(43466, some Knb21), (43514, some Knb79), (43682, some Knb23), (43685, some Knb80), (43703, some Knb25), (44191, some Knb26), (64086, some Knb81), (86331, some Knb82)]⟩
theorem e117_ok : Ab.partB (Ab.envS Tryz.prog 84 154) 3000 83 e117 = true := by kernel_rfl
def e118 : Ab.Entry := ⟨90475, [(wA 43685 0), (.agg #[(wI 4), (wI 0), (wI 0), (wI 0), (wI 0), (wU 0), (wS [])])], [(43685, Knb80)], (.slice none 0 0), 90524, []⟩
theorem e118_ok : Ab.partB (Ab.envS Tryz.prog 84 154) 3000 83 e118 = true := by kernel_rfl
def e119 : Ab.Entry := ⟨90566, [(wA 43685 0), (.agg #[(wI 1), (wI 1), (wI 0), (wI 0), (wI 0), (wU 0), (wS [])])], [(43685, Knb80)], (.slice none 0 0), 90618, []⟩
theorem e119_ok : Ab.partB (Ab.envS Tryz.prog 84 154) 3000 83 e119 = true := by kernel_rfl
def e120 : Ab.Entry := ⟨90622, [(wA 43685 0), (.agg #[(wI 4), (wI 1), (wI 0), (wI 0), (wI 0), (wU 0), (wS [])])], [(43685, Knb80)], (.slice none 0 0), 90671, []⟩
theorem e120_ok : Ab.partB (Ab.envS Tryz.prog 84 154) 3000 83 e120 = true := by kernel_rfl
def e121 : Ab.Entry := ⟨90752, [(wA 43685 0), (.agg #[(wI 1), (wI 0), (wI 0), (wI 0), (wI 0), (wU 0), (wS [])])], [(43685, Knb80)], (.slice none 0 0), 90804, []⟩
theorem e121_ok : Ab.partB (Ab.envS Tryz.prog 84 154) 3000 83 e121 = true := by kernel_rfl
def e122 : Ab.Entry := ⟨90808, [(wA 43685 0), (.agg #[(wI 4), (wI 0), (wI 0), (wI 0), (wI 0), (wU 0), (wS [])])], [(43685, Knb80)], (.slice none 0 0), 90857, []⟩
theorem e122_ok : Ab.partB (Ab.envS Tryz.prog 84 154) 3000 83 e122 = true := by kernel_rfl
def e123 : Ab.Entry := ⟨90899, [(wA 43685 0), (.agg #[(wI 1), (wI 1), (wI 0), (wI 0), (wI 0), (wU 0), (wS [])])], [(43685, Knb80)], (.slice none 0 0), 90951, []⟩
theorem e123_ok : Ab.partB (Ab.envS Tryz.prog 84 154) 3000 83 e123 = true := by kernel_rfl
def e124 : Ab.Entry := ⟨90955, [(wA 43685 0), (.agg #[(wI 4), (wI 1), (wI 0), (wI 0), (wI 0), (wU 0), (wS [])])], [(43685, Knb80)], (.slice none 0 0), 91004, []⟩
theorem e124_ok : Ab.partB (Ab.envS Tryz.prog 84 154) 3000 83 e124 = true := by kernel_rfl
def e125 : Ab.Entry := ⟨91085, [(wA 43685 0), (.agg #[(wI 1), (wI 0), (wI 0), (wI 0), (wI 0), (wU 0), (wS [])])], [(43685, Knb80)], (.slice none 0 0), 91137, []⟩
theorem e125_ok : Ab.partB (Ab.envS Tryz.prog 84 154) 3000 83 e125 = true := by kernel_rfl
def e126 : Ab.Entry := ⟨91141, [(wA 43685 0), (.agg #[(wI 4), (wI 0), (wI 0), (wI 0), (wI 0), (wU 0), (wS [])])], [(43685, Knb80)], (.slice none 0 0), 91190, []⟩
theorem e126_ok : Ab.partB (Ab.envS Tryz.prog 84 154) 3000 83 e126 = true := by kernel_rfl
def e127 : Ab.Entry := ⟨91232, [(wA 43685 0), (.agg #[(wI 1), (wI 1), (wI 0), (wI 0), (wI 0), (wU 0), (wS [])])], [(43685, Knb80)], (.slice none 0 0), 91284, []⟩
theorem e127_ok : Ab.partB (Ab.envS Tryz.prog 84 154) 3000 83 e127 = true := by kernel_rfl
def e128 : Ab.Entry := ⟨91288, [(wA 43685 0), (.agg #[(wI 4), (wI 1), (wI 0), (wI 0), (wI 0), (wU 0), (wS [])])], [(43685, Knb80)], (.slice none 0 0), 91337, []⟩
theorem e128_ok : Ab.partB (Ab.envS Tryz.prog 84 154) 3000 83 e128 = true := by kernel_rfl
def e129 : Ab.Entry := ⟨91418, [(wA 43685 0), (.agg #[(wI 1), (wI 0), (wI 0), (wI 0), (wI 0), (wU 0), (wS [])])], [(43685, Knb80)], (.slice none 0 0), 91470, []⟩
theorem e129_ok : Ab.partB (Ab.envS Tryz.prog 84 154) 3000 83 e129 = true := by kernel_rfl
def e130 : Ab.Entry := ⟨91474, [(wA 43685 0), (.agg #[(wI 4), (wI 0), (wI 0), (wI 0), (wI 0), (wU 0), (wS [])])], [(43685, Knb80)], (.slice none 0 0), 91523, []⟩
theorem e130_ok : Ab.partB (Ab.envS Tryz.prog 84 154) 3000 83 e130 = true := by kernel_rfl
def e131 : Ab.Entry := ⟨91565, [(wA 43685 0), (.agg #[(wI 1), (wI 1), (wI 0), (wI 0), (wI 0), (wU 0), (wS [])])], [(43685, Knb80)], (.slice none 0 0), 91617, []⟩
theorem e131_ok : Ab.partB (Ab.envS Tryz.prog 84 154) 3000 83 e131 = true := by kernel_rfl
def e132 : Ab.Entry := ⟨91621, [(wA 43685 0), (.agg #[(wI 4), (wI 1), (wI 0), (wI 0), (wI 0), (wU 0), (wS [])])], [(43685, Knb80)], (.slice none 0 0), 91670, []⟩
theorem e132_ok : Ab.partB (Ab.envS Tryz.prog 84 154) 3000 83 e132 = true := by kernel_rfl
def e133 : Ab.Entry := ⟨91751, [(wA 43685 0), (.agg #[(wI 1), (wI 0), (wI 0), (wI 0), (wI 0), (wU 0), (wS [])])], [(43685, Knb80)], (.slice none 0 0), 91803, []⟩
theorem e133_ok : Ab.partB (Ab.envS Tryz.prog 84 154) 3000 83 e133 = true := by kernel_rfl
def e134 : Ab.Entry := ⟨91807, [(wA 43685 0), (.agg #[(wI 4), (wI 0), (wI 0), (wI 0), (wI 0), (wU 0), (wS [])])], [(43685, Knb80)], (.slice none 0 0), 91856, []⟩
theorem e134_ok : Ab.partB (Ab.envS Tryz.prog 84 154) 3000 83 e134 = true := by kernel_rfl
def e135 : Ab.Entry := ⟨91898, [(wA 43685 0), (.agg #[(wI 1), (wI 1), (wI 0), (wI 0), (wI 0), (wU 0), (wS [])])], [(43685, Knb80)], (.slice none 0 0), 91950, []⟩
theorem e135_ok : Ab.partB (Ab.envS Tryz.prog 84 154) 3000 83 e135 = true := by kernel_rfl
def e136 : Ab.Entry := ⟨91954, [(wA 43685 0), (.agg #[(wI 4), (wI 1), (wI 0), (wI 0), (wI 0), (wU 0), (wS [])])], [(43685, Knb80)], (.slice none 0 0), 92003, []⟩
theorem e136_ok : Ab.partB (Ab.envS Tryz.prog 84 154) 3000 83 e136 = true := by kernel_rfl
def e137 : Ab.Entry := ⟨92084, [(wA 43685 0), (.agg #[(wI 1), (wI 0), (wI 0), (wI 0), (wI 0), (wU 0), (wS [])])], [(43685, Knb80)], (.slice none 0 0), 92136, []⟩
theorem e137_ok : Ab.partB (Ab.envS Tryz.prog 84 154) 3000 83 e137 = true := by kernel_rfl
def e138 : Ab.Entry := ⟨92140, [(wA 43685 0), (.agg #[(wI 4), (wI 0), (wI 0), (wI 0), (wI 0), (wU 0), (wS [])])], [(43685, Knb80)], (.slice none 0 0), 92189, []⟩
theorem e138_ok : Ab.partB (Ab.envS Tryz.prog 84 154) 3000 83 e138 = true := by kernel_rfl
def e139 : Ab.Entry := ⟨92231, [(wA 43685 0), (.agg #[(wI 1), (wI 1), (wI 0), (wI 0), (wI 0), (wU 0), (wS [])])], [(43685, Knb80)], (.slice none 0 0), 92283, []⟩
theorem e139_ok : Ab.partB (Ab.envS Tryz.prog 84 154) 3000 83 e139 = true := by kernel_rfl
def e140 : Ab.Entry := ⟨92287, [(wA 43685 0), (.agg #[(wI 4), (wI 1), (wI 0), (wI 0), (wI 0), (wU 0), (wS [])])], [(43685, Knb80)], (.slice none 0 0), 92336, []⟩
theorem e140_ok : Ab.partB (Ab.envS Tryz.prog 84 154) 3000 83 e140 = true := by kernel_rfl
def e141 : Ab.Entry := ⟨92417, [(wA 43685 0), (.agg #[(wI 1), (wI 0), (wI 0), (wI 0), (wI 0), (wU 0), (wS [])])], [(43685, Knb80)], (.slice none 0 0), 92469, []⟩
theorem e141_ok : Ab.partB (Ab.envS Tryz.prog 84 154) 3000 83 e141 = true := by kernel_rfl
def e142 : Ab.Entry := ⟨92473, [(wA 43685 0), (.agg #[(wI 4), (wI 0), (wI 0), (wI 0), (wI 0), (wU 0), (wS [])])], [(43685, Knb80)], (.slice none 0 0), 92522, []⟩
theorem e142_ok : Ab.partB (Ab.envS Tryz.prog 84 154) 3000 83 e142 = true := by kernel_rfl
def e143 : Ab.Entry := ⟨92564, [(wA 43685 0), (.agg #[(wI 1), (wI 1), (wI 0), (wI 0), (wI 0), (wU 0), (wS [])])], [(43685, Knb80)], (.slice none 0 0), 92616, []⟩
theorem e143_ok : Ab.partB (Ab.envS Tryz.prog 84 154) 3000 83 e143 = true := by kernel_rfl
def e144 : Ab.Entry := ⟨92620, [(wA 43685 0), (.agg #[(wI 4), (wI 1), (wI 0), (wI 0), (wI 0), (wU 0), (wS [])])], [(43685, Knb80)], (.slice none 0 0), 92669, []⟩
theorem e144_ok : Ab.partB (Ab.envS Tryz.prog 84 154) 3000 83 e144 = true := by kernel_rfl
def e145 : Ab.Entry := ⟨92750, [(wA 43685 0), (.agg #[(wI 1), (wI 0), (wI 0), (wI 0), (wI 0), (wU 0), (wS [])])], [(43685, Knb80)], (.slice none 0 0), 92802, []⟩
theorem e145_ok : Ab.partB (Ab.envS Tryz.prog 84 154) 3000 83 e145 = true := by kernel_rfl
def e146 : Ab.Entry := ⟨92806, [(wA 43685 0), (.agg #[(wI 4), (wI 0), (wI 0), (wI 0), (wI 0), (wU 0), (wS [])])], [(43685, Knb80)], (.slice none 0 0), 92855, []⟩
theorem e146_ok : Ab.partB (Ab.envS Tryz.prog 84 154) 3000 83 e146 = true := by kernel_rfl
def e147 : Ab.Entry := ⟨92897, [(wA 43685 0), (.agg #[(wI 1), (wI 1), (wI 0), (wI 0), (wI 0), (wU 0), (wS [])])], [(43685, Knb80)], (.slice none 0 0), 92949, []⟩
theorem e147_ok : Ab.partB (Ab.envS Tryz.prog 84 154) 3000 83 e147 = true := by kernel_rfl
def e148 : Ab.Entry := ⟨92953, [(wA 43685 0), (.agg #[(wI 4), (wI 1), (wI 0), (wI 0), (wI 0), (wU 0), (wS [])])], [(43685, Knb80)], (.slice none 0 0), 93002, []⟩
theorem e148_ok : Ab.partB (Ab.envS Tryz.prog 84 154) 3000 83 e148 = true := by kernel_rfl
def e149 : Ab.Entry := ⟨93083, [(wA 43685 0), (.agg #[(wI 1), (wI 0), (wI 0), (wI 0), (wI 0), (wU 0), (wS [])])], [(43685, Knb80)], (.slice none 0 0), 93135, []⟩
theorem e149_ok : Ab.partB (Ab.envS Tryz.prog 84 154) 3000 83 e149 = true := by kernel_rfl
def e150 : Ab.Entry := ⟨93139, [(wA 43685 0), (.agg #[(wI 4), (wI 0), (wI 0), (wI 0), (wI 0), (wU 0), (wS [])])], [(43685, Knb80)], (.slice none 0 0), 93188, []⟩
theorem e150_ok : Ab.partB (Ab.envS Tryz.prog 84 154) 3000 83 e150 = true := by kernel_rfl
def e151 : Ab.Entry := ⟨93230, [(wA 43685 0), (.agg #[(wI 1), (wI 1), (wI 0), (wI 0), (wI 0), (wU 0), (wS [])])], [(43685, Knb80)], (.slice none 0 0), 93282, []⟩
theorem e151_ok : Ab.partB (Ab.envS Tryz.prog 84 154) 3000 83 e151 = true := by kernel_rfl
def e152 : Ab.Entry := ⟨93286, [(wA 43685 0), (.agg #[(wI 4), (wI 1), (wI 0), (wI 0), (wI 0), (wU 0), (wS [])])], [(43685, Knb80)], (.slice none 0 0), 93335, []⟩
theorem e152_ok : Ab.partB (Ab.envS Tryz.prog 84 154) 3000 83 e152 = true := by kernel_rfl
def e153 : Ab.Entry := ⟨93416, [(wA 43685 0), (.agg #[(wI 1), (wI 0), (wI 0), (wI 0), (wI 0), (wU 0), (wS [])])], [(43685, Knb80)], (.slice none 0 0), 93468, []⟩
theorem e153_ok : Ab.partB (Ab.envS Tryz.prog 84 154) 3000 83 e153 = true := by kernel_rfl
def e154 : Ab.Entry := ⟨93472, [(wA 43685 0), (.agg #[(wI 4), (wI 0), (wI 0), (wI 0), (wI 0), (wU 0), (wS [])])], [(43685, Knb80)], (.slice none 0 0), 93521, []⟩
theorem e154_ok : Ab.partB (Ab.envS Tryz.prog 84 154) 3000 83 e154 = true := by kernel_rfl
def e155 : Ab.Entry := ⟨93563, [(wA 43685 0), (.agg #[(wI 1), (wI 1), (wI 0), (wI 0), (wI 0), (wU 0), (wS [])])], [(43685, Knb80)], (.slice none 0 0), 93615, []⟩
theorem e155_ok : Ab.partB (Ab.envS Tryz.prog 84 154) 3000 83 e155 = true := by kernel_rfl
def e156 : Ab.Entry := ⟨93619, [(wA 43685 0), (.agg #[(wI 4), (wI 1), (wI 0), (wI 0), (wI 0), (wU 0), (wS [])])], [(43685, Knb80)], (.slice none 0 0), 93668, []⟩
theorem e156_ok : Ab.partB (Ab.envS Tryz.prog 84 154) 3000 83 e156 = true := by kernel_rfl
def e157 : Ab.Entry := ⟨93749, [(wA 43685 0), (.agg #[(wI 1), (wI 0), (wI 0), (wI 0), (wI 0), (wU 0), (wS [])])], [(43685, Knb80)], (.slice none 0 0), 93801, []⟩
theorem e157_ok : Ab.partB (Ab.envS Tryz.prog 84 154) 3000 83 e157 = true := by kernel_rfl
def e158 : Ab.Entry := ⟨93805, [(wA 43685 0), (.agg #[(wI 4), (wI 0), (wI 0), (wI 0), (wI 0), (wU 0), (wS [])])], [(43685, Knb80)], (.slice none 0 0), 93854, []⟩
theorem e158_ok : Ab.partB (Ab.envS Tryz.prog 84 154) 3000 83 e158 = true := by kernel_rfl
def e159 : Ab.Entry := ⟨93896, [(wA 43685 0), (.agg #[(wI 1), (wI 1), (wI 0), (wI 0), (wI 0), (wU 0), (wS [])])], [(43685, Knb80)], (.slice none 0 0), 93948, []⟩
theorem e159_ok : Ab.partB (Ab.envS Tryz.prog 84 154) 3000 83 e159 = true := by kernel_rfl
def e160 : Ab.Entry := ⟨93952, [(wA 43685 0), (.agg #[(wI 4), (wI 1), (wI 0), (wI 0), (wI 0), (wU 0), (wS [])])], [(43685, Knb80)], (.slice none 0 0), 94001, []⟩
theorem e160_ok : Ab.partB (Ab.envS Tryz.prog 84 154) 3000 83 e160 = true := by kernel_rfl
def e161 : Ab.Entry := ⟨94082, [(wA 43685 0), (.agg #[(wI 1), (wI 0), (wI 0), (wI 0), (wI 0), (wU 0), (wS [])])], [(43685, Knb80)], (.slice none 0 0), 94134, []⟩
theorem e161_ok : Ab.partB (Ab.envS Tryz.prog 84 154) 3000 83 e161 = true := by kernel_rfl
def e162 : Ab.Entry := ⟨94138, [(wA 43685 0), (.agg #[(wI 4), (wI 0), (wI 0), (wI 0), (wI 0), (wU 0), (wS [])])], [(43685, Knb80)], (.slice none 0 0), 94187, []⟩
theorem e162_ok : Ab.partB (Ab.envS Tryz.prog 84 154) 3000 83 e162 = true := by kernel_rfl
def e163 : Ab.Entry := ⟨94229, [(wA 43685 0), (.agg #[(wI 1), (wI 1), (wI 0), (wI 0), (wI 0), (wU 0), (wS [])])], [(43685, Knb80)], (.slice none 0 0), 94281, []⟩
theorem e163_ok : Ab.partB (Ab.envS Tryz.prog 84 154) 3000 83 e163 = true := by kernel_rfl
def e164 : Ab.Entry := ⟨94285, [(wA 43685 0), (.agg #[(wI 4), (wI 1), (wI 0), (wI 0), (wI 0), (wU 0), (wS [])])], [(43685, Knb80)], (.slice none 0 0), 94334, []⟩
theorem e164_ok : Ab.partB (Ab.envS Tryz.prog 84 154) 3000 83 e164 = true := by kernel_rfl
def e165 : Ab.Entry := ⟨94415, [(wA 43685 0), (.agg #[(wI 1), (wI 0), (wI 0), (wI 0), (wI 0), (wU 0), (wS [])])], [(43685, Knb80)], (.slice none 0 0), 94467, []⟩
theorem e165_ok : Ab.partB (Ab.envS Tryz.prog 84 154) 3000 83 e165 = true := by kernel_rfl
def e166 : Ab.Entry := ⟨94471, [(wA 43685 0), (.agg #[(wI 4), (wI 0), (wI 0), (wI 0), (wI 0), (wU 0), (wS [])])], [(43685, Knb80)], (.slice none 0 0), 94520, []⟩
theorem e166_ok : Ab.partB (Ab.envS Tryz.prog 84 154) 3000 83 e166 = true := by kernel_rfl
def e167 : Ab.Entry := ⟨94562, [(wA 43685 0), (.agg #[(wI 1), (wI 1), (wI 0), (wI 0), (wI 0), (wU 0), (wS [])])], [(43685, Knb80)], (.slice none 0 0), 94614, []⟩
theorem e167_ok : Ab.partB (Ab.envS Tryz.prog 84 154) 3000 83 e167 = true := by kernel_rfl
def e168 : Ab.Entry := ⟨94618, [(wA 43685 0), (.agg #[(wI 4), (wI 1), (wI 0), (wI 0), (wI 0), (wU 0), (wS [])])], [(43685, Knb80)], (.slice none 0 0), 94667, []⟩
theorem e168_ok : Ab.partB (Ab.envS Tryz.prog 84 154) 3000 83 e168 = true := by kernel_rfl
def l6_83 : List Ab.Entry := [e117, e118, e119, e120, e121, e122, e123, e124, e125, e126, e127, e128, e129, e130, e131, e132, e133, e134, e135, e136, e137, e138, e139, e140, e141, e142, e143, e144, e145, e146, e147, e148, e149, e150, e151, e152, e153, e154, e155, e156, e157, e158, e159, e160, e161, e162, e163, e164, e165, e166, e167, e168]
theorem l6_83_ok : ∀ e ∈ l6_83, Ab.EntryOk Ab.Sig.none Tryz.prog 83 e := List.forall_mem_cons.2 ⟨Ab.partB_ok E_sure e117_ok, List.forall_mem_cons.2 ⟨Ab.partB_ok E_sure e118_ok, List.forall_mem_cons.2 ⟨Ab.partB_ok E_sure e119_ok, List.forall_mem_cons.2 ⟨Ab.partB_ok E_sure e120_ok, List.forall_mem_cons.2 ⟨Ab.partB_ok E_sure e121_ok, List.forall_mem_cons.2 ⟨Ab.partB_ok E_sure e122_ok, List.forall_mem_cons.2 ⟨Ab.partB_ok E_sure e123_ok, List.forall_mem_cons.2 ⟨Ab.partB_ok E_sure e124_ok, List.forall_mem_cons.2 ⟨Ab.partB_ok E_sure e125_ok, List.forall_mem_cons.2 ⟨Ab.partB_ok E_sure e126_ok, List.forall_mem_cons.2 ⟨Ab.partB_ok E_sure e127_ok, List.forall_mem_cons.2 ⟨Ab.partB_ok E_sure e128_ok, List.forall_mem_cons.2 ⟨Ab.partB_ok E_sure e129_ok, List.forall_mem_cons.2 ⟨Ab.partB_ok E_sure e130_ok, List.forall_mem_cons.2 ⟨Ab.partB_ok E_sure e131_ok, List.forall_mem_cons.2 ⟨Ab.partB_ok E_sure e132_ok, List.forall_mem_cons.2 ⟨Ab.partB_ok E_sure e133_ok, List.forall_mem_cons.2 ⟨Ab.partB_ok E_sure e134_ok, List.forall_mem_cons.2 ⟨Ab.partB_ok E_sure e135_ok, List.forall_mem_cons.2 ⟨Ab.partB_ok E_sure e136_ok, List.forall_mem_cons.2 ⟨Ab.partB_ok E_sure e137_ok, List.forall_mem_cons.2 ⟨Ab.partB_ok E_sure e138_ok, List.forall_mem_cons.2 ⟨Ab.partB_ok E_sure e139_ok, List.forall_mem_cons.2 ⟨Ab.partB_ok E_sure e140_ok, List.forall_mem_cons.2 ⟨Ab.partB_ok E_sure e141_ok, List.forall_mem_cons.2 ⟨Ab.partB_ok E_sure e142_ok, List.forall_mem_cons.2 ⟨Ab.partB_ok E_sure e143_ok, List.forall_mem_cons.2 ⟨Ab.partB_ok E_sure e144_ok, List.forall_mem_cons.2 ⟨Ab.partB_ok E_sure e145_ok, List.forall_mem_cons.2 ⟨Ab.partB_ok E_sure e146_ok, List.forall_mem_cons.2 ⟨Ab.partB_ok E_sure e147_ok, List.forall_mem_cons.2 ⟨Ab.partB_ok E_sure e148_ok, List.forall_mem_cons.2 ⟨Ab.partB_ok E_sure e149_ok, List.forall_mem_cons.2 ⟨Ab.partB_ok E_sure e150_ok, List.forall_mem_cons.2 ⟨Ab.partB_ok E_sure e151_ok, List.forall_mem_cons.2 ⟨Ab.partB_ok E_sure e152_ok, List.forall_mem_cons.2 ⟨Ab.partB_ok E_sure e153_ok, List.forall_mem_cons.2 ⟨Ab.partB_ok E_sure e154_ok, List.forall_mem_cons.2 ⟨Ab.partB_ok E_sure e155_ok, List.forall_mem_cons.2 ⟨Ab.partB_ok E_sure e156_ok, List.forall_mem_cons.2 ⟨Ab.partB_ok E_sure e157_ok, List.forall_mem_cons.2 ⟨Ab.partB_ok E_sure e158_ok, List.forall_mem_cons.2 ⟨Ab.partB_ok E_sure e159_ok, List.forall_mem_cons.2 ⟨Ab.partB_ok E_sure e160_ok, List.forall_mem_cons.2 ⟨Ab.partB_ok E_sure e161_ok, List.forall_mem_cons.2 ⟨Ab.partB_ok E_sure e162_ok, List.forall_mem_cons.2 ⟨Ab.partB_ok E_sure e163_ok, List.forall_mem_cons.2 ⟨Ab.partB_ok E_sure e164_ok, List.forall_mem_cons.2 ⟨Ab.partB_ok E_sure e165_ok, List.forall_mem_cons.2 ⟨Ab.partB_ok E_sure e166_ok, List.forall_mem_cons.2 ⟨Ab.partB_ok E_sure e167_ok, List.forall_mem_cons.2 ⟨Ab.partB_ok E_sure e168_ok, fun _ h => (by cases h)⟩⟩⟩⟩⟩⟩⟩⟩⟩⟩⟩⟩⟩⟩⟩⟩⟩⟩⟩⟩⟩⟩⟩⟩⟩⟩⟩⟩⟩⟩⟩⟩⟩⟩⟩⟩⟩⟩⟩⟩⟩⟩⟩⟩⟩⟩⟩⟩⟩⟩⟩⟩
end
end Go.Proofs.YtmdneohkagkfpaaGreatDoor.kernelNames
