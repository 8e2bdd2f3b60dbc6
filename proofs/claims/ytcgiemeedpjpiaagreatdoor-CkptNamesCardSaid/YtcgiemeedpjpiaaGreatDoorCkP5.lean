/- CkptNames: calls, each by a run of its own. -/
import Derived.Test.YtcgiemeedpjpiaaGreatDoorCkB
import Derived.Test.YtcgiemeedpjpiaaGreatDoorCkE
namespace Go.Proofs.YtcgiemeedpjpiaaGreatDoor.ckptNames
open Go.Ab
set_option linter.unusedVariables false
noncomputable section
def e149 : Ab.Entry := ⟨141658, [(wA 20421 0), (wI 2)], [(20224, Ckb162), (20229, Ckb85), (20250, Ckb163), (20418, Ckb54), (20419, Ckb164), (20421, Ckb76)], (wI 180), 141904, []⟩
theorem e149_ok : Ab.partB (Ab.envS Tryz.prog 259 395) 3000 22 e149 = true := by kernel_rfl
def l5_22 : List Ab.Entry := [e149]
theorem l5_22_ok : ∀ e ∈ l5_22, Ab.EntryOk Ab.Sig.none Tryz.prog 22 e := List.forall_mem_cons.2 ⟨Ab.partB_ok E_sure e149_ok, fun _ h => (by cases h)⟩
def tab_148_22 : List Ab.Entry := l5_22
theorem tab_148_22_ok : ∀ e ∈ tab_148_22, Ab.EntryOk Ab.Sig.none Tryz.prog 22 e := fun e => fun h => l5_22_ok e h
def full_148 : Ab.Env := (Ab.withTab (Ab.envS Tryz.prog 259 395) 22 tab_148_22)
theorem full_148_sure : Ab.Sure Ab.Sig.none full_148 := (Ab.withTab_sure E_sure rfl tab_148_22_ok)
end
end Go.Proofs.YtcgiemeedpjpiaaGreatDoor.ckptNames
