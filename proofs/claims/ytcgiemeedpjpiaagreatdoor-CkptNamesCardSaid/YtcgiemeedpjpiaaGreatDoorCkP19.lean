/- CkptNames: calls, each by a run of its own. -/
import Derived.Test.YtcgiemeedpjpiaaGreatDoorCkB
import Derived.Test.YtcgiemeedpjpiaaGreatDoorCkP2
import Derived.Test.YtcgiemeedpjpiaaGreatDoorCkP4
import Derived.Test.YtcgiemeedpjpiaaGreatDoorCkP5
import Derived.Test.YtcgiemeedpjpiaaGreatDoorCkP6
import Derived.Test.YtcgiemeedpjpiaaGreatDoorCkP7
import Derived.Test.YtcgiemeedpjpiaaGreatDoorCkP18
namespace Go.Proofs.YtcgiemeedpjpiaaGreatDoor.ckptNames
open Go.Ab
set_option linter.unusedVariables false
noncomputable section
def e0 : Ab.Entry := ⟨67, [(.bool true)], [(0, Ckb0), (2, Ckb66), (3, Ckb67), (5, Ckb14)], (wA 20421 0), 120747, [(20202, some Ckb83), (20204, some Ckb50), (20224, some Ckb84), (20229, some Ckb85), (20250, some Ckb159), (20418, some Ckb87), (20419, some Ckb26), (20421, some Ckb76), (20426, some Ckb77), (20432, some Ckb101), (20439, some Ckb70), (20441, some Ckb59), (20980, some Ckb90), (30681, some Ckb91), (39483, some Ckb79), (39577, some Ckb80), (43584, some Ckb121), (43611, some Ckb93), (43613, some Ckb94), (47315, some Ckb90), (47772, some Ckb91), (47803, some Ckb56), (120723, some Ckb98)]⟩
theorem e0_ok : Ab.partB full_0 3000 4 e0 = true := by kernel_rfl
def e145 : Ab.Entry := ⟨127805, [(wA 20421 0), (wI 2)], [(20202, Ckb83), (20204, Ckb50), (20224, Ckb84), (20229, Ckb85), (20250, Ckb159), (20418, Ckb87), (20419, Ckb26), (20421, Ckb76), (43584, Ckb121), (43611, Ckb93), (43613, Ckb94), (47315, Ckb90), (47772, Ckb91), (47803, Ckb56), (120723, Ckb98)], (.tuple #[(wL 136804 0 1 1), (wI 0)]), 141645, [(20202, some Ckb75), (20224, some Ckb162), (20250, some Ckb163), (20418, some Ckb54), (20419, some Ckb164), (43611, some Ckb387), (47315, some Ckb388), (47772, some Ckb388), (120723, some Ckb389), (136804, some Ckb390)]⟩
theorem e145_ok : Ab.partB full_145 3000 7 e145 = true := by kernel_rfl
def e148 : Ab.Entry := ⟨141652, [(wA 20421 0), (wI 2)], [(20224, Ckb162), (20229, Ckb85), (20250, Ckb163), (20418, Ckb54), (20419, Ckb164), (20421, Ckb76)], (.tuple #[(.slice none 0 0), (wI 180)]), 141909, []⟩
theorem e148_ok : Ab.partB full_148 3000 7 e148 = true := by kernel_rfl
def e150 : Ab.Entry := ⟨141927, [(wA 20421 0), (wI 9)], [(20224, Ckb162), (20229, Ckb85), (20250, Ckb163), (20421, Ckb76)], (.tuple #[(.agg #[(.slice none 0 0), (.slice none 0 0), (.slice none 0 0), (.slice none 0 0), (.slice none 0 0)]), (wI 180)]), 142078, []⟩
theorem e150_ok : Ab.partB full_150 3000 9 e150 = true := by kernel_rfl
def e152 : Ab.Entry := ⟨142090, [wP, (wI 2)], [], (.tuple #[(.agg #[(.slice none 0 0), (.slice none 0 0), (.slice none 0 0), (.slice none 0 0), (.slice none 0 0)]), (wI 1)]), 142169, []⟩
theorem e152_ok : Ab.partB full_152 3000 9 e152 = true := by kernel_rfl
def e154 : Ab.Entry := ⟨142401, [], [(0, Ckb0), (2, Ckb66), (3, Ckb67), (5, Ckb14)], (.bool true), 413278, []⟩
theorem e154_ok : Ab.partB full_154 3000 11 e154 = true := by kernel_rfl
def l19_4 : List Ab.Entry := [e0]
theorem l19_4_ok : ∀ e ∈ l19_4, Ab.EntryOk Ab.Sig.none Tryz.prog 4 e := List.forall_mem_cons.2 ⟨Ab.partB_ok full_0_sure e0_ok, fun _ h => (by cases h)⟩
def l19_7 : List Ab.Entry := [e145, e148]
theorem l19_7_ok : ∀ e ∈ l19_7, Ab.EntryOk Ab.Sig.none Tryz.prog 7 e := List.forall_mem_cons.2 ⟨Ab.partB_ok full_145_sure e145_ok, List.forall_mem_cons.2 ⟨Ab.partB_ok full_148_sure e148_ok, fun _ h => (by cases h)⟩⟩
def l19_9 : List Ab.Entry := [e150, e152]
theorem l19_9_ok : ∀ e ∈ l19_9, Ab.EntryOk Ab.Sig.none Tryz.prog 9 e := List.forall_mem_cons.2 ⟨Ab.partB_ok full_150_sure e150_ok, List.forall_mem_cons.2 ⟨Ab.partB_ok full_152_sure e152_ok, fun _ h => (by cases h)⟩⟩
def l19_11 : List Ab.Entry := [e154]
theorem l19_11_ok : ∀ e ∈ l19_11, Ab.EntryOk Ab.Sig.none Tryz.prog 11 e := List.forall_mem_cons.2 ⟨Ab.partB_ok full_154_sure e154_ok, fun _ h => (by cases h)⟩
def tab_4 : List Ab.Entry := l19_4
theorem tab_4_ok : ∀ e ∈ tab_4, Ab.EntryOk Ab.Sig.none Tryz.prog 4 e := fun e => fun h => l19_4_ok e h
def tab_7 : List Ab.Entry := l19_7
theorem tab_7_ok : ∀ e ∈ tab_7, Ab.EntryOk Ab.Sig.none Tryz.prog 7 e := fun e => fun h => l19_7_ok e h
def tab_9 : List Ab.Entry := l19_9
theorem tab_9_ok : ∀ e ∈ tab_9, Ab.EntryOk Ab.Sig.none Tryz.prog 9 e := fun e => fun h => l19_9_ok e h
def tab_11 : List Ab.Entry := l19_11
theorem tab_11_ok : ∀ e ∈ tab_11, Ab.EntryOk Ab.Sig.none Tryz.prog 11 e := fun e => fun h => l19_11_ok e h
def full : Ab.Env := (Ab.withTab (Ab.withTab (Ab.withTab (Ab.withTab (Ab.envS Tryz.prog 259 395) 4 tab_4) 7 tab_7) 9 tab_9) 11 tab_11)
theorem full_sure : Ab.Sure Ab.Sig.none full := (Ab.withTab_sure (Ab.withTab_sure (Ab.withTab_sure (Ab.withTab_sure E_sure rfl tab_4_ok) rfl tab_7_ok) rfl tab_9_ok) rfl tab_11_ok)
end
end Go.Proofs.YtcgiemeedpjpiaaGreatDoor.ckptNames
