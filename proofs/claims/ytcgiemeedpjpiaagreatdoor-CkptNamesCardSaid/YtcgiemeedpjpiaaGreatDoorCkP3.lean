/- CkptNames: calls, each by a run of its own. -/
import Derived.Test.YtcgiemeedpjpiaaGreatDoorCkB
import Derived.Test.YtcgiemeedpjpiaaGreatDoorCkE
namespace Go.Proofs.YtcgiemeedpjpiaaGreatDoor.ckptNames
open Go.Ab
set_option linter.unusedVariables false
noncomputable section
def e147 : Ab.Entry := ⟨136247, [(wA 20421 0), (wL 136216 0 1 1)], [(132615, Ckb160), (136216, Ckb161)], (.bool true), 136397, []⟩
theorem e147_ok : Ab.partM (Ab.envS Tryz.prog 259 395) 3000 63 e147 = true := by kernel_rfl
def l3_63 : List Ab.Entry := [e147]
theorem l3_63_ok : ∀ e ∈ l3_63, Ab.EntryOk Ab.Sig.none Tryz.prog 63 e := List.forall_mem_cons.2 ⟨Ab.partM_ok E_sure e147_ok, fun _ h => (by cases h)⟩
def tab_146_63 : List Ab.Entry := l3_63
theorem tab_146_63_ok : ∀ e ∈ tab_146_63, Ab.EntryOk Ab.Sig.none Tryz.prog 63 e := fun e => fun h => l3_63_ok e h
def full_146 : Ab.Env := (Ab.withTab (Ab.envS Tryz.prog 259 395) 63 tab_146_63)
theorem full_146_sure : Ab.Sure Ab.Sig.none full_146 := (Ab.withTab_sure E_sure rfl tab_146_63_ok)
end
end Go.Proofs.YtcgiemeedpjpiaaGreatDoor.ckptNames
