/- CkptNames: calls, each by a run of its own. -/
import Derived.Test.YtcgiemeedpjpiaaGreatDoorCkB
import Derived.Test.YtcgiemeedpjpiaaGreatDoorCkE
namespace Go.Proofs.YtcgiemeedpjpiaaGreatDoor.ckptNames
open Go.Ab
set_option linter.unusedVariables false
noncomputable section
def e295 : Ab.Entry := ⟨263802, [(wA 157136 0), (wL 263771 0 1 1)], [(157136, Ckb212), (260185, Ckb272), (263771, Ckb273)], (.bool false), 264083, []⟩
theorem e295_ok : Ab.partM (Ab.envS Tryz.prog 259 395) 3000 63 e295 = true := by kernel_rfl
def l11_63 : List Ab.Entry := [e295]
theorem l11_63_ok : ∀ e ∈ l11_63, Ab.EntryOk Ab.Sig.none Tryz.prog 63 e := List.forall_mem_cons.2 ⟨Ab.partM_ok E_sure e295_ok, fun _ h => (by cases h)⟩
def tab_294_63 : List Ab.Entry := l11_63
theorem tab_294_63_ok : ∀ e ∈ tab_294_63, Ab.EntryOk Ab.Sig.none Tryz.prog 63 e := fun e => fun h => l11_63_ok e h
def full_294 : Ab.Env := (Ab.withTab (Ab.envS Tryz.prog 259 395) 63 tab_294_63)
theorem full_294_sure : Ab.Sure Ab.Sig.none full_294 := (Ab.withTab_sure E_sure rfl tab_294_63_ok)
end
end Go.Proofs.YtcgiemeedpjpiaaGreatDoor.ckptNames
