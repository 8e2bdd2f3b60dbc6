/- CkptNames: calls, each by a run of its own. -/
import Derived.Test.YtcgiemeedpjpiaaGreatDoorCkB
import Derived.Test.YtcgiemeedpjpiaaGreatDoorCkP10
import Derived.Test.YtcgiemeedpjpiaaGreatDoorCkP11
import Derived.Test.YtcgiemeedpjpiaaGreatDoorCkP14
import Derived.Test.YtcgiemeedpjpiaaGreatDoorCkP15
import Derived.Test.YtcgiemeedpjpiaaGreatDoorCkP17
import Derived.Test.YtcgiemeedpjpiaaGreatDoorCkE
namespace Go.Proofs.YtcgiemeedpjpiaaGreatDoor.ckptNames
open Go.Ab
set_option linter.unusedVariables false
noncomputable section
def e155 : Ab.Entry := ⟨142405, [(.bool false)], [(0, Ckb0), (2, Ckb66), (3, Ckb67), (5, Ckb14)], (wA 157136 0), 255396, [(156917, some Ckb208), (156919, some Ckb184), (156939, some Ckb84), (156944, some Ckb209), (156965, some Ckb271), (157133, some Ckb211), (157134, some Ckb26), (157136, some Ckb212), (157141, some Ckb77), (157147, some Ckb222), (157154, some Ckb199), (157156, some Ckb191), (157642, some Ckb214), (166543, some Ckb215), (175335, some Ckb79), (175429, some Ckb206), (179436, some Ckb220), (179463, some Ckb217), (179465, some Ckb218), (183152, some Ckb214), (183385, some Ckb215), (183416, some Ckb77), (255372, some Ckb98)]⟩
theorem e155_ok : Ab.partB full_155 3000 4 e155 = true := by kernel_rfl
def e294 : Ab.Entry := ⟨255396, [(wA 157136 0), (wI 2)], [(156939, Ckb84), (156944, Ckb209), (156965, Ckb271), (157133, Ckb211), (157134, Ckb26), (157136, Ckb212), (179436, Ckb220), (179463, Ckb217), (179465, Ckb218), (183152, Ckb214), (183385, Ckb215), (183416, Ckb77)], (wI 260), 264084, []⟩
theorem e294_ok : Ab.partB full_294 3000 22 e294 = true := by kernel_rfl
def e296 : Ab.Entry := ⟨264086, [(.bool true)], [(0, Ckb0), (2, Ckb66), (3, Ckb67), (5, Ckb14)], (wA 284440 0), 384766, [(284221, some Ckb83), (284223, some Ckb294), (284243, some Ckb84), (284248, some Ckb314), (284269, some Ckb381), (284437, some Ckb316), (284438, some Ckb26), (284440, some Ckb310), (284445, some Ckb77), (284451, some Ckb325), (284458, some Ckb307), (284460, some Ckb301), (284999, some Ckb90), (294700, some Ckb91), (303502, some Ckb79), (303596, some Ckb312), (307603, some Ckb343), (307630, some Ckb320), (307632, some Ckb321), (311334, some Ckb90), (311791, some Ckb91), (311822, some Ckb56), (384742, some Ckb98)]⟩
theorem e296_ok : Ab.partB full_296 3000 4 e296 = true := by kernel_rfl
def e441 : Ab.Entry := ⟨384769, [(wA 284440 0), (wI 2)], [(284243, Ckb84), (284248, Ckb314), (284269, Ckb381), (284437, Ckb316), (284438, Ckb26), (284440, Ckb310), (307603, Ckb343), (307630, Ckb320), (307632, Ckb321), (311334, Ckb90), (311791, Ckb91), (311822, Ckb56)], (wI 0), 393582, []⟩
theorem e441_ok : Ab.partB full_441 3000 22 e441 = true := by kernel_rfl
def e443 : Ab.Entry := ⟨393590, [(wA 284440 0), (wI 2)], [(284221, Ckb83), (284223, Ckb294), (284243, Ckb84), (284248, Ckb314), (284269, Ckb381), (284437, Ckb316), (284438, Ckb26), (284440, Ckb310), (307603, Ckb343), (307630, Ckb320), (307632, Ckb321), (311334, Ckb90), (311791, Ckb91), (311822, Ckb56)], (.tuple #[(.agg #[(wL 409071 0 1 1), (wL 408066 0 3 3), (.slice none 0 0), (.slice none 0 0), (.slice none 0 0)]), (wI 0)]), 409117, [(403091, some Ckb160), (408066, some Ckb384), (408952, some Ckb385), (409071, some Ckb386)]⟩
theorem e443_ok : Ab.partB full_443 3000 9 e443 = true := by kernel_rfl
def e446 : Ab.Entry := ⟨409151, [(wA 284440 0), (wI 1)], [(284243, Ckb84), (284248, Ckb314), (284269, Ckb381), (284437, Ckb316), (284438, Ckb26), (284440, Ckb310), (284445, Ckb77), (284451, Ckb325), (284458, Ckb307), (284460, Ckb301), (284999, Ckb90), (294700, Ckb91)], (wI 180), 413278, []⟩
theorem e446_ok : Ab.partB (Ab.envS Tryz.prog 259 395) 3000 22 e446 = true := by kernel_rfl
def l18_4 : List Ab.Entry := [e155, e296]
theorem l18_4_ok : ∀ e ∈ l18_4, Ab.EntryOk Ab.Sig.none Tryz.prog 4 e := List.forall_mem_cons.2 ⟨Ab.partB_ok full_155_sure e155_ok, List.forall_mem_cons.2 ⟨Ab.partB_ok full_296_sure e296_ok, fun _ h => (by cases h)⟩⟩
def l18_9 : List Ab.Entry := [e443]
theorem l18_9_ok : ∀ e ∈ l18_9, Ab.EntryOk Ab.Sig.none Tryz.prog 9 e := List.forall_mem_cons.2 ⟨Ab.partB_ok full_443_sure e443_ok, fun _ h => (by cases h)⟩
def l18_22 : List Ab.Entry := [e294, e441, e446]
theorem l18_22_ok : ∀ e ∈ l18_22, Ab.EntryOk Ab.Sig.none Tryz.prog 22 e := List.forall_mem_cons.2 ⟨Ab.partB_ok full_294_sure e294_ok, List.forall_mem_cons.2 ⟨Ab.partB_ok full_441_sure e441_ok, List.forall_mem_cons.2 ⟨Ab.partB_ok E_sure e446_ok, fun _ h => (by cases h)⟩⟩⟩
def tab_154_4 : List Ab.Entry := l18_4
theorem tab_154_4_ok : ∀ e ∈ tab_154_4, Ab.EntryOk Ab.Sig.none Tryz.prog 4 e := fun e => fun h => l18_4_ok e h
def tab_154_9 : List Ab.Entry := l18_9
theorem tab_154_9_ok : ∀ e ∈ tab_154_9, Ab.EntryOk Ab.Sig.none Tryz.prog 9 e := fun e => fun h => l18_9_ok e h
def tab_154_22 : List Ab.Entry := l18_22
theorem tab_154_22_ok : ∀ e ∈ tab_154_22, Ab.EntryOk Ab.Sig.none Tryz.prog 22 e := fun e => fun h => l18_22_ok e h
def full_154 : Ab.Env := (Ab.withTab (Ab.withTab (Ab.withTab (Ab.envS Tryz.prog 259 395) 4 tab_154_4) 9 tab_154_9) 22 tab_154_22)
theorem full_154_sure : Ab.Sure Ab.Sig.none full_154 := (Ab.withTab_sure (Ab.withTab_sure (Ab.withTab_sure E_sure rfl tab_154_4_ok) rfl tab_154_9_ok) rfl tab_154_22_ok)
end
end Go.Proofs.YtcgiemeedpjpiaaGreatDoor.ckptNames
