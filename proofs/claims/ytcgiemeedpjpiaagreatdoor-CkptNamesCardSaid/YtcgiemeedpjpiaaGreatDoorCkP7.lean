/- CkptNames: calls, each by a run of its own. -/
import Derived.Test.YtcgiemeedpjpiaaGreatDoorCkB
import Derived.Test.YtcgiemeedpjpiaaGreatDoorCkE
namespace Go.Proofs.YtcgiemeedpjpiaaGreatDoor.ckptNames
open Go.Ab
set_option linter.unusedVariables false
noncomputable section
def e153 : Ab.Entry := ⟨142097, [wP, (wI 2)], [], (wI 1), 142163, []⟩
theorem e153_ok : Ab.partB (Ab.envS Tryz.prog 259 395) 3000 22 e153 = true := by kernel_rfl
def l7_22 : List Ab.Entry := [e153]
theorem l7_22_ok : ∀ e ∈ l7_22, Ab.EntryOk Ab.Sig.none Tryz.prog 22 e := List.forall_mem_cons.2 ⟨Ab.partB_ok E_sure e153_ok, fun _ h => (by cases h)⟩
def tab_152_22 : List Ab.Entry := l7_22
theorem tab_152_22_ok : ∀ e ∈ tab_152_22, Ab.EntryOk Ab.Sig.none Tryz.prog 22 e := fun e => fun h => l7_22_ok e h
def full_152 : Ab.Env := (Ab.withTab (Ab.envS Tryz.prog 259 395) 22 tab_152_22)
theorem full_152_sure : Ab.Sure Ab.Sig.none full_152 := (Ab.withTab_sure E_sure rfl tab_152_22_ok)
end
end Go.Proofs.YtcgiemeedpjpiaaGreatDoor.ckptNames
