/- KernelNames: calls, each by a run of its own. -/
import Derived.Test.YtmdneohkagkfpaaGreatDoorKnB
import Derived.Test.YtmdneohkagkfpaaGreatDoorKnT5
namespace Go.Proofs.YtmdneohkagkfpaaGreatDoor.kernelNames
open Go.Ab
set_option linter.unusedVariables false
noncomputable section
def e5 : Ab.Entry := ⟨15994, [(wA 14219 0), (wI 10)], [(1, Knb13), (2, Knb0), (14000, Knb1), (14002, Knb2), (14022, Knb18), (14027, Knb19), (14048, Knb3), (14216, Knb4), (14219, Knb5), (14224, Knb20), (14230, Knb6), (14237, Knb7), (14239, Knb8), (14725, Knb9), (15981, Knb10)], (wL 24927 0 2 2), 32059, [(14000, some Knb21), (14048, some Knb22), (14216, some Knb23), (14219, some Knb24), (14230, some Knb17), (14237, some Knb25), (14725, some Knb26), (15981, some Knb27), (24927, some Knb94)]⟩
theorem e5_ok : Ab.partB full_5 3000 44 e5 = true := by kernel_rfl
def l8_44 : List Ab.Entry := [e5]
theorem l8_44_ok : ∀ e ∈ l8_44, Ab.EntryOk Ab.Sig.none Tryz.prog 44 e := List.forall_mem_cons.2 ⟨Ab.partB_ok full_5_sure e5_ok, fun _ h => (by cases h)⟩
end
end Go.Proofs.YtmdneohkagkfpaaGreatDoor.kernelNames
