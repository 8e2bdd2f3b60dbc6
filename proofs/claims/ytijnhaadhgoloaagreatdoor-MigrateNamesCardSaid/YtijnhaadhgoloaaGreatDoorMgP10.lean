/- MigrateNames: calls, each by a run of its own. -/
import Derived.Test.YtijnhaadhgoloaaGreatDoorMgB
import Derived.Test.YtijnhaadhgoloaaGreatDoorMgP7
import Derived.Test.YtijnhaadhgoloaaGreatDoorMgP8
import Derived.Test.YtijnhaadhgoloaaGreatDoorMgP9
import Derived.Test.YtijnhaadhgoloaaGreatDoorMgP5
namespace Go.Proofs.YtijnhaadhgoloaaGreatDoor.migrateNames
open Go.Ab
set_option linter.unusedVariables false
noncomputable section
def e0 : Ab.Entry := ⟨67, [], [(0, Mgb0), (2, Mgb46), (3, Mgb77)], (wA 12991 0), 77910, [(12772, some Mgb78), (12774, some Mgb33), (12794, some Mgb48), (12799, some Mgb49), (12820, some Mgb123), (12988, some Mgb51), (12989, some Mgb9), (12991, some Mgb38), (12996, some Mgb39), (13002, some Mgb63), (13009, some Mgb41), (13011, some Mgb42), (13497, some Mgb53), (17790, some Mgb121), (17817, some Mgb80), (17819, some Mgb56), (21347, some Mgb53), (21378, some Mgb39), (38637, some Mgb81), (77886, some Mgb60)]⟩
theorem e0_ok : Ab.partB full_0 3000 4 e0 = true := by kernel_rfl
def e97 : Ab.Entry := ⟨77919, [(wA 12991 0), (wI 2), (wU 1), (wI 5)], [(12772, Mgb78), (12774, Mgb33), (12794, Mgb48), (12799, Mgb49), (12820, Mgb123), (12988, Mgb51), (12989, Mgb9), (12991, Mgb38), (17790, Mgb121), (17817, Mgb80), (17819, Mgb56), (21347, Mgb53), (21378, Mgb39), (38637, Mgb81)], (.tuple #[(wA 86790 0), (wI 3), (wI 0)]), 101132, [(21347, some Mgb127), (38637, some Mgb128), (86788, some Mgb131), (86790, some Mgb132), (91837, some Mgb133), (92393, some Mgb134), (92949, some Mgb134)]⟩
theorem e97_ok : Ab.partB full_97 3000 5 e97 = true := by kernel_rfl
def e109 : Ab.Entry := ⟨101290, [(wA 12991 0), (wI 2), (wU 1), (wI 101)], [(12794, Mgb48), (12799, Mgb49), (12820, Mgb123), (12988, Mgb51), (12989, Mgb9), (12991, Mgb38), (17790, Mgb121), (17817, Mgb80), (17819, Mgb56), (21347, Mgb127), (21378, Mgb39), (38637, Mgb128)], (.tuple #[wP, (wI 0), (wI 2)]), 110158, []⟩
theorem e109_ok : Ab.partB full_109 3000 5 e109 = true := by kernel_rfl
def e114 : Ab.Entry := ⟨110166, [wP, (wI 2), (wU 1), (wI 1)], [], (.tuple #[wP, (wI 0), (wI 1)]), 110245, []⟩
theorem e114_ok : Ab.partB full_114 3000 5 e114 = true := by kernel_rfl
def e119 : Ab.Entry := ⟨110383, [], [(0, Mgb0), (2, Mgb46), (3, Mgb77)], (.bool true), 280736, []⟩
theorem e119_ok : Ab.partB full_119 3000 9 e119 = true := by kernel_rfl
def l40_4 : List Ab.Entry := [e0]
theorem l40_4_ok : ∀ e ∈ l40_4, Ab.EntryOk Ab.Sig.none Tryz.prog 4 e := List.forall_mem_cons.2 ⟨Ab.partB_ok full_0_sure e0_ok, fun _ h => (by cases h)⟩
def l40_5 : List Ab.Entry := [e97, e109, e114]
theorem l40_5_ok : ∀ e ∈ l40_5, Ab.EntryOk Ab.Sig.none Tryz.prog 5 e := List.forall_mem_cons.2 ⟨Ab.partB_ok full_97_sure e97_ok, List.forall_mem_cons.2 ⟨Ab.partB_ok full_109_sure e109_ok, List.forall_mem_cons.2 ⟨Ab.partB_ok full_114_sure e114_ok, fun _ h => (by cases h)⟩⟩⟩
def l40_9 : List Ab.Entry := [e119]
theorem l40_9_ok : ∀ e ∈ l40_9, Ab.EntryOk Ab.Sig.none Tryz.prog 9 e := List.forall_mem_cons.2 ⟨Ab.partB_ok full_119_sure e119_ok, fun _ h => (by cases h)⟩
def tab_4 : List Ab.Entry := l40_4
theorem tab_4_ok : ∀ e ∈ tab_4, Ab.EntryOk Ab.Sig.none Tryz.prog 4 e := fun e => fun h => l40_4_ok e h
def tab_5 : List Ab.Entry := l40_5
theorem tab_5_ok : ∀ e ∈ tab_5, Ab.EntryOk Ab.Sig.none Tryz.prog 5 e := fun e => fun h => l40_5_ok e h
def tab_7 : List Ab.Entry := l39_7
theorem tab_7_ok : ∀ e ∈ tab_7, Ab.EntryOk Ab.Sig.none Tryz.prog 7 e := fun e => fun h => l39_7_ok e h
def tab_8 : List Ab.Entry := l39_8
theorem tab_8_ok : ∀ e ∈ tab_8, Ab.EntryOk Ab.Sig.none Tryz.prog 8 e := fun e => fun h => l39_8_ok e h
def tab_9 : List Ab.Entry := l40_9
theorem tab_9_ok : ∀ e ∈ tab_9, Ab.EntryOk Ab.Sig.none Tryz.prog 9 e := fun e => fun h => l40_9_ok e h
def tab_13 : List Ab.Entry := l39_13
theorem tab_13_ok : ∀ e ∈ tab_13, Ab.EntryOk Ab.Sig.none Tryz.prog 13 e := fun e => fun h => l39_13_ok e h
def full : Ab.Env := (Ab.withTab (Ab.withTab (Ab.withTab (Ab.withTab (Ab.withTab (Ab.withTab (Ab.envS Tryz.prog 227 374) 4 tab_4) 5 tab_5) 7 tab_7) 8 tab_8) 9 tab_9) 13 tab_13)
theorem full_sure : Ab.Sure Ab.Sig.none full := (Ab.withTab_sure (Ab.withTab_sure (Ab.withTab_sure (Ab.withTab_sure (Ab.withTab_sure (Ab.withTab_sure E_sure rfl tab_4_ok) rfl tab_5_ok) rfl tab_7_ok) rfl tab_8_ok) rfl tab_9_ok) rfl tab_13_ok)
end
end Go.Proofs.YtijnhaadhgoloaaGreatDoor.migrateNames
