/- CkptNames: calls, each by a run of its own. -/
import Derived.Test.YtcgiemeedpjpiaaGreatDoorCkB
import Derived.Test.YtcgiemeedpjpiaaGreatDoorCkE
namespace Go.Proofs.YtcgiemeedpjpiaaGreatDoor.ckptNames
open Go.Ab
set_option linter.unusedVariables false
noncomputable section
def e445 : Ab.Entry := ⟨402033, [(wA 284440 0), (wL 402002 0 1 1)], [(398401, Ckb160), (402002, Ckb383)], (.bool true), 402183, []⟩
theorem e445_ok : Ab.partM (Ab.envS Tryz.prog 259 395) 3000 63 e445 = true := by kernel_rfl
def l16_63 : List Ab.Entry := [e445]
theorem l16_63_ok : ∀ e ∈ l16_63, Ab.EntryOk Ab.Sig.none Tryz.prog 63 e := List.forall_mem_cons.2 ⟨Ab.partM_ok E_sure e445_ok, fun _ h => (by cases h)⟩
def tab_444_63 : List Ab.Entry := l16_63
theorem tab_444_63_ok : ∀ e ∈ tab_444_63, Ab.EntryOk Ab.Sig.none Tryz.prog 63 e := fun e => fun h => l16_63_ok e h
def full_444 : Ab.Env := (Ab.withTab (Ab.envS Tryz.prog 259 395) 63 tab_444_63)
theorem full_444_sure : Ab.Sure Ab.Sig.none full_444 := (Ab.withTab_sure E_sure rfl tab_444_63_ok)
end
end Go.Proofs.YtcgiemeedpjpiaaGreatDoor.ckptNames
