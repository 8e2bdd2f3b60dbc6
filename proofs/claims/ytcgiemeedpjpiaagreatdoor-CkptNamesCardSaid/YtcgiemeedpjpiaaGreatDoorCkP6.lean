/- CkptNames: calls, each by a run of its own. -/
import Derived.Test.YtcgiemeedpjpiaaGreatDoorCkB
import Derived.Test.YtcgiemeedpjpiaaGreatDoorCkE
namespace Go.Proofs.YtcgiemeedpjpiaaGreatDoor.ckptNames
open Go.Ab
set_option linter.unusedVariables false
noncomputable section
def e151 : Ab.Entry := ⟨141934, [(wA 20421 0), (wI 9)], [(20224, Ckb162), (20229, Ckb85), (20250, Ckb163), (20421, Ckb76)], (wI 180), 142072, []⟩
theorem e151_ok : Ab.partB (Ab.envS Tryz.prog 259 395) 3000 22 e151 = true := by kernel_rfl
def l6_22 : List Ab.Entry := [e151]
theorem l6_22_ok : ∀ e ∈ l6_22, Ab.EntryOk Ab.Sig.none Tryz.prog 22 e := List.forall_mem_cons.2 ⟨Ab.partB_ok E_sure e151_ok, fun _ h => (by cases h)⟩
def tab_150_22 : List Ab.Entry := l6_22
theorem tab_150_22_ok : ∀ e ∈ tab_150_22, Ab.EntryOk Ab.Sig.none Tryz.prog 22 e := fun e => fun h => l6_22_ok e h
def full_150 : Ab.Env := (Ab.withTab (Ab.envS Tryz.prog 259 395) 22 tab_150_22)
theorem full_150_sure : Ab.Sure Ab.Sig.none full_150 := (Ab.withTab_sure E_sure rfl tab_150_22_ok)
end
end Go.Proofs.YtcgiemeedpjpiaaGreatDoor.ckptNames
