/- CkptNames: calls, each by a run of its own. -/
import Derived.Test.YtcgiemeedpjpiaaGreatDoorCkB
import Derived.Test.YtcgiemeedpjpiaaGreatDoorCkP16
namespace Go.Proofs.YtcgiemeedpjpiaaGreatDoor.ckptNames
open Go.Ab
set_option linter.unusedVariables false
noncomputable section
def e444 : Ab.Entry := ⟨393597, [(wA 284440 0), (wI 2)], [(284243, Ckb84), (284248, Ckb314), (284269, Ckb381), (284437, Ckb316), (284438, Ckb26), (284440, Ckb310), (307603, Ckb343), (307630, Ckb320), (307632, Ckb321), (311334, Ckb90), (311791, Ckb91), (311822, Ckb56)], (wI 0), 402410, []⟩
theorem e444_ok : Ab.partB full_444 3000 22 e444 = true := by kernel_rfl
def l17_22 : List Ab.Entry := [e444]
theorem l17_22_ok : ∀ e ∈ l17_22, Ab.EntryOk Ab.Sig.none Tryz.prog 22 e := List.forall_mem_cons.2 ⟨Ab.partB_ok full_444_sure e444_ok, fun _ h => (by cases h)⟩
def tab_443_22 : List Ab.Entry := l17_22
theorem tab_443_22_ok : ∀ e ∈ tab_443_22, Ab.EntryOk Ab.Sig.none Tryz.prog 22 e := fun e => fun h => l17_22_ok e h
def full_443 : Ab.Env := (Ab.withTab (Ab.envS Tryz.prog 259 395) 22 tab_443_22)
theorem full_443_sure : Ab.Sure Ab.Sig.none full_443 := (Ab.withTab_sure E_sure rfl tab_443_22_ok)
end
end Go.Proofs.YtcgiemeedpjpiaaGreatDoor.ckptNames
