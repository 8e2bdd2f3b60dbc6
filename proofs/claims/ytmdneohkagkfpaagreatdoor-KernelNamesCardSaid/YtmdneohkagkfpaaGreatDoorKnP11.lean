/- KernelNames: calls, each by a run of its own. -/
import Derived.Test.YtmdneohkagkfpaaGreatDoorKnB
import Derived.Test.YtmdneohkagkfpaaGreatDoorKnT48
namespace Go.Proofs.YtmdneohkagkfpaaGreatDoor.kernelNames
open Go.Ab
set_option linter.unusedVariables false
noncomputable section
def e48 : Ab.Entry := ⟨45565, [(wA 43685 0), (wI 30)], [(1, Knb13), (2, Knb0), (43466, Knb29), (43468, Knb30), (43488, Knb18), (43493, Knb38), (43514, Knb31), (43682, Knb32), (43683, Knb23), (43685, Knb33), (43690, Knb20), (43696, Knb34), (43703, Knb35), (43705, Knb36), (44191, Knb9), (45552, Knb10)], (wL 85583 0 4 4), 94710, [(43466, some Knb21), (43493, some Knb41), (43514, some Knb79), (43682, some Knb23), (43685, some Knb80), (43696, some Knb78), (43703, some Knb25), (44191, some Knb26), (45552, none), (64086, some Knb81), (85583, some Knb96)]⟩
theorem e48_ok : Ab.partB full_48 3000 44 e48 = true := by kernel_rfl
def l11_44 : List Ab.Entry := [e48]
theorem l11_44_ok : ∀ e ∈ l11_44, Ab.EntryOk Ab.Sig.none Tryz.prog 44 e := List.forall_mem_cons.2 ⟨Ab.partB_ok full_48_sure e48_ok, fun _ h => (by cases h)⟩
end
end Go.Proofs.YtmdneohkagkfpaaGreatDoor.kernelNames
