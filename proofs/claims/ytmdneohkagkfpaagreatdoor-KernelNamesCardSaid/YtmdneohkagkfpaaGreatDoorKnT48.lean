/- KernelNames: the tables of calls. -/
import Derived.Test.YtmdneohkagkfpaaGreatDoorKnP2
import Derived.Test.YtmdneohkagkfpaaGreatDoorKnP3
import Derived.Test.YtmdneohkagkfpaaGreatDoorKnP4
import Derived.Test.YtmdneohkagkfpaaGreatDoorKnP5
import Derived.Test.YtmdneohkagkfpaaGreatDoorKnP6
namespace Go.Proofs.YtmdneohkagkfpaaGreatDoor.kernelNames
open Go.Ab
set_option linter.unusedVariables false
noncomputable section
def tab_48_83 : List Ab.Entry := l2_83 ++ l3_83 ++ l4_83 ++ l5_83 ++ l6_83
theorem tab_48_83_ok : ∀ e ∈ tab_48_83, Ab.EntryOk Ab.Sig.none Tryz.prog 83 e := fun e => fun h => (List.mem_append.1 h).elim (fun h => (List.mem_append.1 h).elim (fun h => (List.mem_append.1 h).elim (fun h => (List.mem_append.1 h).elim (fun h => l2_83_ok e h) (fun h => l3_83_ok e h)) (fun h => l4_83_ok e h)) (fun h => l5_83_ok e h)) (fun h => l6_83_ok e h)
def full_48 : Ab.Env := (Ab.withTab (Ab.envS Tryz.prog 84 154) 83 tab_48_83)
theorem full_48_sure : Ab.Sure Ab.Sig.none full_48 := (Ab.withTab_sure E_sure rfl tab_48_83_ok)
end
end Go.Proofs.YtmdneohkagkfpaaGreatDoor.kernelNames
