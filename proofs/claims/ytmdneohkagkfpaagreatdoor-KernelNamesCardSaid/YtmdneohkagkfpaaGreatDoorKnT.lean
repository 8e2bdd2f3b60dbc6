/- KernelNames: the tables of calls. -/
import Derived.Test.YtmdneohkagkfpaaGreatDoorKnP7
import Derived.Test.YtmdneohkagkfpaaGreatDoorKnP8
import Derived.Test.YtmdneohkagkfpaaGreatDoorKnP9
import Derived.Test.YtmdneohkagkfpaaGreatDoorKnP10
import Derived.Test.YtmdneohkagkfpaaGreatDoorKnP11
namespace Go.Proofs.YtmdneohkagkfpaaGreatDoor.kernelNames
open Go.Ab
set_option linter.unusedVariables false
noncomputable section
def tab_4 : List Ab.Entry := l7_4 ++ l10_4
theorem tab_4_ok : ∀ e ∈ tab_4, Ab.EntryOk Ab.Sig.none Tryz.prog 4 e := fun e => fun h => (List.mem_append.1 h).elim (fun h => l7_4_ok e h) (fun h => l10_4_ok e h)
def tab_44 : List Ab.Entry := l8_44 ++ l11_44
theorem tab_44_ok : ∀ e ∈ tab_44, Ab.EntryOk Ab.Sig.none Tryz.prog 44 e := fun e => fun h => (List.mem_append.1 h).elim (fun h => l8_44_ok e h) (fun h => l11_44_ok e h)
def tab_82 : List Ab.Entry := l7_82 ++ l9_82
theorem tab_82_ok : ∀ e ∈ tab_82, Ab.EntryOk Ab.Sig.none Tryz.prog 82 e := fun e => fun h => (List.mem_append.1 h).elim (fun h => l7_82_ok e h) (fun h => l9_82_ok e h)
def full : Ab.Env := (Ab.withTab (Ab.withTab (Ab.withTab (Ab.envS Tryz.prog 84 154) 4 tab_4) 44 tab_44) 82 tab_82)
theorem full_sure : Ab.Sure Ab.Sig.none full := (Ab.withTab_sure (Ab.withTab_sure (Ab.withTab_sure E_sure rfl tab_4_ok) rfl tab_44_ok) rfl tab_82_ok)
end
end Go.Proofs.YtmdneohkagkfpaaGreatDoor.kernelNames
