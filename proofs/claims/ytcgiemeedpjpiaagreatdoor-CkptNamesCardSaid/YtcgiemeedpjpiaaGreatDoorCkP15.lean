/- CkptNames: calls, each by a run of its own. -/
import Derived.Test.YtcgiemeedpjpiaaGreatDoorCkB
import Derived.Test.YtcgiemeedpjpiaaGreatDoorCkE
namespace Go.Proofs.YtcgiemeedpjpiaaGreatDoor.ckptNames
open Go.Ab
set_option linter.unusedVariables false
noncomputable section
def e442 : Ab.Entry := ⟨393205, [(wA 284440 0), (wL 393174 0 1 1)], [(389573, Ckb160), (393174, Ckb382)], (.bool true), 393355, []⟩
theorem e442_ok : Ab.partM (Ab.envS Tryz.prog 259 395) 3000 63 e442 = true := by kernel_rfl
def l15_63 : List Ab.Entry := [e442]
theorem l15_63_ok : ∀ e ∈ l15_63, Ab.EntryOk Ab.Sig.none Tryz.prog 63 e := List.forall_mem_cons.2 ⟨Ab.partM_ok E_sure e442_ok, fun _ h => (by cases h)⟩
def tab_441_63 : List Ab.Entry := l15_63
theorem tab_441_63_ok : ∀ e ∈ tab_441_63, Ab.EntryOk Ab.Sig.none Tryz.prog 63 e := fun e => fun h => l15_63_ok e h
def full_441 : Ab.Env := (Ab.withTab (Ab.envS Tryz.prog 259 395) 63 tab_441_63)
theorem full_441_sure : Ab.Sure Ab.Sig.none full_441 := (Ab.withTab_sure E_sure rfl tab_441_63_ok)
end
end Go.Proofs.YtcgiemeedpjpiaaGreatDoor.ckptNames
