/- CkptNames: calls, each by a run of its own. -/
import Derived.Test.YtcgiemeedpjpiaaGreatDoorCkB
import Derived.Test.YtcgiemeedpjpiaaGreatDoorCkP3
namespace Go.Proofs.YtcgiemeedpjpiaaGreatDoor.ckptNames
open Go.Ab
set_option linter.unusedVariables false
noncomputable section
def e146 : Ab.Entry := ⟨127811, [(wA 20421 0), (wI 2)], [(20224, Ckb84), (20229, Ckb85), (20250, Ckb159), (20418, Ckb87), (20419, Ckb26), (20421, Ckb76), (43584, Ckb121), (43611, Ckb93), (43613, Ckb94), (47315, Ckb90), (47772, Ckb91), (47803, Ckb56)], (wI 0), 136624, []⟩
theorem e146_ok : Ab.partB full_146 3000 22 e146 = true := by kernel_rfl
def l4_22 : List Ab.Entry := [e146]
theorem l4_22_ok : ∀ e ∈ l4_22, Ab.EntryOk Ab.Sig.none Tryz.prog 22 e := List.forall_mem_cons.2 ⟨Ab.partB_ok full_146_sure e146_ok, fun _ h => (by cases h)⟩
def tab_145_22 : List Ab.Entry := l4_22
theorem tab_145_22_ok : ∀ e ∈ tab_145_22, Ab.EntryOk Ab.Sig.none Tryz.prog 22 e := fun e => fun h => l4_22_ok e h
def full_145 : Ab.Env := (Ab.withTab (Ab.envS Tryz.prog 259 395) 22 tab_145_22)
theorem full_145_sure : Ab.Sure Ab.Sig.none full_145 := (Ab.withTab_sure E_sure rfl tab_145_22_ok)
end
end Go.Proofs.YtcgiemeedpjpiaaGreatDoor.ckptNames
