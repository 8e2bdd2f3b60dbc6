/- KernelNames: calls, each by a run of its own. -/
import Derived.Test.YtmdneohkagkfpaaGreatDoorKnB
import Derived.Test.YtmdneohkagkfpaaGreatDoorKnE
namespace Go.Proofs.YtmdneohkagkfpaaGreatDoor.kernelNames
open Go.Ab
set_option linter.unusedVariables false
noncomputable section
def e47 : Ab.Entry := ⟨43446, [(.agg #[(wI 2), (wI 16), (wI 4), (wI 4), (wL 43108 0 11 11)])], [(43108, Knb95)], (.tuple #[(wA 43685 0), (wI 0)]), 45562, [(43466, some Knb29), (43468, some Knb30), (43488, some Knb18), (43493, some Knb38), (43514, some Knb31), (43682, some Knb32), (43683, some Knb23), (43685, some Knb33), (43690, some Knb20), (43696, some Knb34), (43703, some Knb35), (43705, some Knb36), (44191, some Knb9), (45552, some Knb10)]⟩
theorem e47_ok : Ab.partB (Ab.envS Tryz.prog 84 154) 3000 4 e47 = true := by kernel_rfl
def l10_4 : List Ab.Entry := [e47]
theorem l10_4_ok : ∀ e ∈ l10_4, Ab.EntryOk Ab.Sig.none Tryz.prog 4 e := List.forall_mem_cons.2 ⟨Ab.partB_ok E_sure e47_ok, fun _ h => (by cases h)⟩
end
end Go.Proofs.YtmdneohkagkfpaaGreatDoor.kernelNames
