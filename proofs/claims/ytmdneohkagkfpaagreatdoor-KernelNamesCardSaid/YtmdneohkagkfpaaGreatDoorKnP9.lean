/- KernelNames: calls, each by a run of its own. -/
import Derived.Test.YtmdneohkagkfpaaGreatDoorKnB
import Derived.Test.YtmdneohkagkfpaaGreatDoorKnE
namespace Go.Proofs.YtmdneohkagkfpaaGreatDoor.kernelNames
open Go.Ab
set_option linter.unusedVariables false
noncomputable section
def e46 : Ab.Entry := ⟨32076, [(wS [108, 105, 32, 48, 32, 50, 10, 115, 121, 115, 10, 106, 122, 32, 48, 32, 107, 105, 100, 10, 108, 105, 32, 48, 32, 51, 10, 108, 105, 32, 49, 32, 48, 10, 115, 121, 115, 10, 106, 109, 112, 32, 101, 110, 100, 10, 107, 105, 100, 58, 10, 108, 105, 32, 48, 32, 49, 10, 108, 105, 32, 49, 32, 57, 10, 115, 121, 115, 10, 101, 110, 100, 58, 10, 110, 111, 112, 10])], [(2, Knb0)], (.tuple #[(wL 43108 0 11 11), (wI 0), (wI 0)]), 43443, [(43108, some Knb95)]⟩
theorem e46_ok : Ab.partB (Ab.envS Tryz.prog 84 154) 3000 82 e46 = true := by kernel_rfl
def l9_82 : List Ab.Entry := [e46]
theorem l9_82_ok : ∀ e ∈ l9_82, Ab.EntryOk Ab.Sig.none Tryz.prog 82 e := List.forall_mem_cons.2 ⟨Ab.partB_ok E_sure e46_ok, fun _ h => (by cases h)⟩
end
end Go.Proofs.YtmdneohkagkfpaaGreatDoor.kernelNames
