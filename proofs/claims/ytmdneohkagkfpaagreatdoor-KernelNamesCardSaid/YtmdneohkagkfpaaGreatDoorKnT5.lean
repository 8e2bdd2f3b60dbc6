/- KernelNames: the tables of calls. -/
import Derived.Test.YtmdneohkagkfpaaGreatDoorKnP0
import Derived.Test.YtmdneohkagkfpaaGreatDoorKnP1
namespace Go.Proofs.YtmdneohkagkfpaaGreatDoor.kernelNames
open Go.Ab
set_option linter.unusedVariables false
noncomputable section
def tab_5_83 : List Ab.Entry := l0_83 ++ l1_83
theorem tab_5_83_ok : ∀ e ∈ tab_5_83, Ab.EntryOk Ab.Sig.none Tryz.prog 83 e := fun e => fun h => (List.mem_append.1 h).elim (fun h => l0_83_ok e h) (fun h => l1_83_ok e h)
def full_5 : Ab.Env := (Ab.withTab (Ab.envS Tryz.prog 84 154) 83 tab_5_83)
theorem full_5_sure : Ab.Sure Ab.Sig.none full_5 := (Ab.withTab_sure E_sure rfl tab_5_83_ok)
end
end Go.Proofs.YtmdneohkagkfpaaGreatDoor.kernelNames
