/- MigrateNames: calls, each by a run of its own. -/
import Derived.Test.YtijnhaadhgoloaaGreatDoorMgB
import Derived.Test.YtijnhaadhgoloaaGreatDoorMgE
namespace Go.Proofs.YtijnhaadhgoloaaGreatDoor.migrateNames
open Go.Ab
set_option linter.unusedVariables false
noncomputable section
def e237 : Ab.Entry := ⟨224377, [(wA 123310 0), (wI 2)], [(123113, Mgb48), (123118, Mgb158), (123307, Mgb160), (123308, Mgb9), (123310, Mgb153), (128109, Mgb222), (128136, Mgb183), (128138, Mgb164), (131666, Mgb127), (131697, Mgb39), (148956, Mgb128)], (.tuple #[(.agg #[(wI 2), (wI 1), (wI 1), (wU 0), (wU 0), (wU 10), (wU 2), (wU 1), (wU 0), (wU 7), (wU 0), (wU 0), (.complex Go.FloatKind.f64 0 0), (.complex Go.FloatKind.f64 0 0), (wU 40), (wU 0), (wU 0), (wU 0), (wU 0), (wU 0), (wU 0), (wU 0), (wU 0), (.complex Go.FloatKind.f64 0 0), (.complex Go.FloatKind.f64 0 0), (wU 0), (wU 0), (wU 0), (wU 0), (wU 0), (wU 0), (wU 0), (wU 0), (wU 0), (wU 0), (wU 0), (wU 0), (wU 0), (wU 0), (wU 0), (wU 0), (wU 0), (wU 0), (wU 0), (.bool false), (wI 0), (wI 0), (wI 0), (wI 0), (wI 0), (wU 0), (wL 224817 0 8 8), (wU 3), (wI 0), (wL 225718 0 3 3)]), (.bool true)]), 228415, [(224817, some Mgb124), (225718, some Mgb135)]⟩
theorem e237_ok : Ab.partB (Ab.envS Tryz.prog 227 374) 3000 60 e237 = true := by kernel_rfl
def e238 : Ab.Entry := ⟨228726, [(wA 123310 0), (wI 2)], [(123113, Mgb48), (123118, Mgb158), (123307, Mgb160), (123308, Mgb9), (123310, Mgb153), (128109, Mgb222), (128136, Mgb183), (128138, Mgb164), (131666, Mgb127), (131697, Mgb39), (148956, Mgb128)], (.tuple #[(.agg #[(wI 2), (wI 1), (wI 1), (wU 0), (wU 0), (wU 10), (wU 2), (wU 1), (wU 0), (wU 7), (wU 0), (wU 0), (.complex Go.FloatKind.f64 0 0), (.complex Go.FloatKind.f64 0 0), (wU 40), (wU 0), (wU 0), (wU 0), (wU 0), (wU 0), (wU 0), (wU 0), (wU 0), (.complex Go.FloatKind.f64 0 0), (.complex Go.FloatKind.f64 0 0), (wU 0), (wU 0), (wU 0), (wU 0), (wU 0), (wU 0), (wU 0), (wU 0), (wU 0), (wU 0), (wU 0), (wU 0), (wU 0), (wU 0), (wU 0), (wU 0), (wU 0), (wU 0), (wU 0), (.bool false), (wI 0), (wI 0), (wI 0), (wI 0), (wI 0), (wU 0), (wL 229166 0 8 8), (wU 3), (wI 0), (wL 230067 0 3 3)]), (.bool true)]), 232764, [(229166, some Mgb124), (230067, some Mgb135)]⟩
theorem e238_ok : Ab.partB (Ab.envS Tryz.prog 227 374) 3000 60 e238 = true := by kernel_rfl
def e239 : Ab.Entry := ⟨232798, [(wA 123310 0), (wL 232767 0 1 1)], [(229166, Mgb124), (232767, Mgb231)], (.bool true), 232948, []⟩
theorem e239_ok : Ab.partM (Ab.envS Tryz.prog 227 374) 3000 50 e239 = true := by kernel_rfl
def l26_50 : List Ab.Entry := [e239]
theorem l26_50_ok : ∀ e ∈ l26_50, Ab.EntryOk Ab.Sig.none Tryz.prog 50 e := List.forall_mem_cons.2 ⟨Ab.partM_ok E_sure e239_ok, fun _ h => (by cases h)⟩
def l26_60 : List Ab.Entry := [e237, e238]
theorem l26_60_ok : ∀ e ∈ l26_60, Ab.EntryOk Ab.Sig.none Tryz.prog 60 e := List.forall_mem_cons.2 ⟨Ab.partB_ok E_sure e237_ok, List.forall_mem_cons.2 ⟨Ab.partB_ok E_sure e238_ok, fun _ h => (by cases h)⟩⟩
def tab_236_50 : List Ab.Entry := l26_50
theorem tab_236_50_ok : ∀ e ∈ tab_236_50, Ab.EntryOk Ab.Sig.none Tryz.prog 50 e := fun e => fun h => l26_50_ok e h
def tab_236_60 : List Ab.Entry := l26_60
theorem tab_236_60_ok : ∀ e ∈ tab_236_60, Ab.EntryOk Ab.Sig.none Tryz.prog 60 e := fun e => fun h => l26_60_ok e h
def full_236 : Ab.Env := (Ab.withTab (Ab.withTab (Ab.envS Tryz.prog 227 374) 50 tab_236_50) 60 tab_236_60)
theorem full_236_sure : Ab.Sure Ab.Sig.none full_236 := (Ab.withTab_sure (Ab.withTab_sure E_sure rfl tab_236_50_ok) rfl tab_236_60_ok)
def e248 : Ab.Entry := ⟨250127, [(wA 123310 0), (wI 2)], [(123113, Mgb48), (123118, Mgb158), (123307, Mgb160), (123308, Mgb9), (123310, Mgb153), (128109, Mgb222), (128136, Mgb183), (128138, Mgb164), (131666, Mgb127), (131697, Mgb39), (148956, Mgb128)], (.tuple #[(.agg #[(wI 2), (wI 1), (wI 1), (wU 0), (wU 0), (wU 10), (wU 2), (wU 1), (wU 0), (wU 7), (wU 0), (wU 0), (.complex Go.FloatKind.f64 0 0), (.complex Go.FloatKind.f64 0 0), (wU 40), (wU 0), (wU 0), (wU 0), (wU 0), (wU 0), (wU 0), (wU 0), (wU 0), (.complex Go.FloatKind.f64 0 0), (.complex Go.FloatKind.f64 0 0), (wU 0), (wU 0), (wU 0), (wU 0), (wU 0), (wU 0), (wU 0), (wU 0), (wU 0), (wU 0), (wU 0), (wU 0), (wU 0), (wU 0), (wU 0), (wU 0), (wU 0), (wU 0), (wU 0), (.bool false), (wI 0), (wI 0), (wI 0), (wI 0), (wI 0), (wU 0), (wL 250567 0 8 8), (wU 3), (wI 0), (wL 251468 0 3 3)]), (.bool true)]), 254165, [(250567, some Mgb124), (251468, some Mgb135)]⟩
theorem e248_ok : Ab.partB (Ab.envS Tryz.prog 227 374) 3000 60 e248 = true := by kernel_rfl
def e249 : Ab.Entry := ⟨254476, [(wA 123310 0), (wI 2)], [(123113, Mgb48), (123118, Mgb158), (123307, Mgb160), (123308, Mgb9), (123310, Mgb153), (128109, Mgb222), (128136, Mgb183), (128138, Mgb164), (131666, Mgb127), (131697, Mgb39), (148956, Mgb128)], (.tuple #[(.agg #[(wI 2), (wI 1), (wI 1), (wU 0), (wU 0), (wU 10), (wU 2), (wU 1), (wU 0), (wU 7), (wU 0), (wU 0), (.complex Go.FloatKind.f64 0 0), (.complex Go.FloatKind.f64 0 0), (wU 40), (wU 0), (wU 0), (wU 0), (wU 0), (wU 0), (wU 0), (wU 0), (wU 0), (.complex Go.FloatKind.f64 0 0), (.complex Go.FloatKind.f64 0 0), (wU 0), (wU 0), (wU 0), (wU 0), (wU 0), (wU 0), (wU 0), (wU 0), (wU 0), (wU 0), (wU 0), (wU 0), (wU 0), (wU 0), (wU 0), (wU 0), (wU 0), (wU 0), (wU 0), (.bool false), (wI 0), (wI 0), (wI 0), (wI 0), (wI 0), (wU 0), (wL 254916 0 8 8), (wU 3), (wI 0), (wL 255817 0 3 3)]), (.bool true)]), 258514, [(254916, some Mgb124), (255817, some Mgb135)]⟩
theorem e249_ok : Ab.partB (Ab.envS Tryz.prog 227 374) 3000 60 e249 = true := by kernel_rfl
def e250 : Ab.Entry := ⟨258548, [(wA 123310 0), (wL 258517 0 1 1)], [(254916, Mgb124), (258517, Mgb233)], (.bool true), 258698, []⟩
theorem e250_ok : Ab.partM (Ab.envS Tryz.prog 227 374) 3000 50 e250 = true := by kernel_rfl
def l31_50 : List Ab.Entry := [e250]
theorem l31_50_ok : ∀ e ∈ l31_50, Ab.EntryOk Ab.Sig.none Tryz.prog 50 e := List.forall_mem_cons.2 ⟨Ab.partM_ok E_sure e250_ok, fun _ h => (by cases h)⟩
def l31_60 : List Ab.Entry := [e248, e249]
theorem l31_60_ok : ∀ e ∈ l31_60, Ab.EntryOk Ab.Sig.none Tryz.prog 60 e := List.forall_mem_cons.2 ⟨Ab.partB_ok E_sure e248_ok, List.forall_mem_cons.2 ⟨Ab.partB_ok E_sure e249_ok, fun _ h => (by cases h)⟩⟩
def tab_247_50 : List Ab.Entry := l31_50
theorem tab_247_50_ok : ∀ e ∈ tab_247_50, Ab.EntryOk Ab.Sig.none Tryz.prog 50 e := fun e => fun h => l31_50_ok e h
def tab_247_60 : List Ab.Entry := l31_60
theorem tab_247_60_ok : ∀ e ∈ tab_247_60, Ab.EntryOk Ab.Sig.none Tryz.prog 60 e := fun e => fun h => l31_60_ok e h
def full_247 : Ab.Env := (Ab.withTab (Ab.withTab (Ab.envS Tryz.prog 227 374) 50 tab_247_50) 60 tab_247_60)
theorem full_247_sure : Ab.Sure Ab.Sig.none full_247 := (Ab.withTab_sure (Ab.withTab_sure E_sure rfl tab_247_50_ok) rfl tab_247_60_ok)
def e105 : Ab.Entry := ⟨93355, [(wA 12991 0), (wI 2)], [(12794, Mgb48), (12799, Mgb49), (12988, Mgb51), (12989, Mgb9), (12991, Mgb38), (17790, Mgb121), (17817, Mgb80), (17819, Mgb56), (21347, Mgb53), (21378, Mgb39), (38637, Mgb81)], (.tuple #[(.agg #[(wI 2), (wI 1), (wI 1), (wU 0), (wU 0), (wU 10), (wU 2), (wU 1), (wU 0), (wU 7), (wU 0), (wU 0), (.complex Go.FloatKind.f64 0 0), (.complex Go.FloatKind.f64 0 0), (wU 40), (wU 0), (wU 0), (wU 0), (wU 0), (wU 0), (wU 0), (wU 0), (wU 0), (.complex Go.FloatKind.f64 0 0), (.complex Go.FloatKind.f64 0 0), (wU 0), (wU 0), (wU 0), (wU 0), (wU 0), (wU 0), (wU 0), (wU 0), (wU 0), (wU 0), (wU 0), (wU 0), (wU 0), (wU 0), (wU 0), (wU 0), (wU 0), (wU 0), (wU 0), (.bool false), (wI 0), (wI 0), (wI 0), (wI 0), (wI 0), (wU 0), (wL 93795 0 8 8), (wU 3), (wI 0), (wL 94696 0 3 3)]), (.bool true)]), 97393, [(93795, some Mgb124), (94696, some Mgb125)]⟩
theorem e105_ok : Ab.partB (Ab.envS Tryz.prog 227 374) 3000 60 e105 = true := by kernel_rfl
def e106 : Ab.Entry := ⟨97409, [(wA 12991 0), (wI 2)], [(12988, Mgb51), (12991, Mgb38), (17790, Mgb121), (17817, Mgb80), (17819, Mgb56), (21347, Mgb53), (38637, Mgb81)], (wI 3), 101116, [(21347, some Mgb127), (38637, some Mgb128)]⟩
theorem e106_ok : Ab.partB (Ab.envS Tryz.prog 227 374) 3000 57 e106 = true := by kernel_rfl
def l6_57 : List Ab.Entry := [e106]
theorem l6_57_ok : ∀ e ∈ l6_57, Ab.EntryOk Ab.Sig.none Tryz.prog 57 e := List.forall_mem_cons.2 ⟨Ab.partB_ok E_sure e106_ok, fun _ h => (by cases h)⟩
def l6_60 : List Ab.Entry := [e105]
theorem l6_60_ok : ∀ e ∈ l6_60, Ab.EntryOk Ab.Sig.none Tryz.prog 60 e := List.forall_mem_cons.2 ⟨Ab.partB_ok E_sure e105_ok, fun _ h => (by cases h)⟩
def e233 : Ab.Entry := ⟨216526, [(wA 123310 0), (wI 2)], [(123113, Mgb48), (123118, Mgb158), (123307, Mgb160), (123308, Mgb9), (123310, Mgb153), (128109, Mgb222), (128136, Mgb183), (128138, Mgb164), (131666, Mgb53), (131697, Mgb39), (148956, Mgb81)], (.tuple #[(.agg #[(wI 2), (wI 1), (wI 1), (wU 0), (wU 0), (wU 10), (wU 2), (wU 1), (wU 0), (wU 7), (wU 0), (wU 0), (.complex Go.FloatKind.f64 0 0), (.complex Go.FloatKind.f64 0 0), (wU 40), (wU 0), (wU 0), (wU 0), (wU 0), (wU 0), (wU 0), (wU 0), (wU 0), (.complex Go.FloatKind.f64 0 0), (.complex Go.FloatKind.f64 0 0), (wU 0), (wU 0), (wU 0), (wU 0), (wU 0), (wU 0), (wU 0), (wU 0), (wU 0), (wU 0), (wU 0), (wU 0), (wU 0), (wU 0), (wU 0), (wU 0), (wU 0), (wU 0), (wU 0), (.bool false), (wI 0), (wI 0), (wI 0), (wI 0), (wI 0), (wU 0), (wL 216966 0 8 8), (wU 3), (wI 0), (wL 217867 0 3 3)]), (.bool true)]), 220564, [(216966, some Mgb124), (217867, some Mgb125)]⟩
theorem e233_ok : Ab.partB (Ab.envS Tryz.prog 227 374) 3000 60 e233 = true := by kernel_rfl
def e234 : Ab.Entry := ⟨220580, [(wA 123310 0), (wI 2)], [(123307, Mgb160), (123310, Mgb153), (128109, Mgb222), (128136, Mgb183), (128138, Mgb164), (131666, Mgb53), (148956, Mgb81)], (wI 3), 224287, [(131666, some Mgb127), (148956, some Mgb128)]⟩
theorem e234_ok : Ab.partB (Ab.envS Tryz.prog 227 374) 3000 57 e234 = true := by kernel_rfl
def l23_57 : List Ab.Entry := [e234]
theorem l23_57_ok : ∀ e ∈ l23_57, Ab.EntryOk Ab.Sig.none Tryz.prog 57 e := List.forall_mem_cons.2 ⟨Ab.partB_ok E_sure e234_ok, fun _ h => (by cases h)⟩
def l23_60 : List Ab.Entry := [e233]
theorem l23_60_ok : ∀ e ∈ l23_60, Ab.EntryOk Ab.Sig.none Tryz.prog 60 e := List.forall_mem_cons.2 ⟨Ab.partB_ok E_sure e233_ok, fun _ h => (by cases h)⟩
def e242 : Ab.Entry := ⟨233454, [(wA 123310 0), (wI 2)], [(123113, Mgb48), (123118, Mgb158), (123307, Mgb160), (123308, Mgb9), (123310, Mgb153), (128109, Mgb222), (128136, Mgb183), (128138, Mgb164), (131666, Mgb127), (131697, Mgb39), (148956, Mgb128)], (.tuple #[(.agg #[(wI 2), (wI 1), (wI 1), (wU 0), (wU 0), (wU 10), (wU 2), (wU 1), (wU 0), (wU 7), (wU 0), (wU 0), (.complex Go.FloatKind.f64 0 0), (.complex Go.FloatKind.f64 0 0), (wU 40), (wU 0), (wU 0), (wU 0), (wU 0), (wU 0), (wU 0), (wU 0), (wU 0), (.complex Go.FloatKind.f64 0 0), (.complex Go.FloatKind.f64 0 0), (wU 0), (wU 0), (wU 0), (wU 0), (wU 0), (wU 0), (wU 0), (wU 0), (wU 0), (wU 0), (wU 0), (wU 0), (wU 0), (wU 0), (wU 0), (wU 0), (wU 0), (wU 0), (wU 0), (.bool false), (wI 0), (wI 0), (wI 0), (wI 0), (wI 0), (wU 0), (wL 233894 0 8 8), (wU 3), (wI 0), (wL 234795 0 3 3)]), (.bool true)]), 237492, [(233894, some Mgb124), (234795, some Mgb135)]⟩
theorem e242_ok : Ab.partB (Ab.envS Tryz.prog 227 374) 3000 60 e242 = true := by kernel_rfl
def l27_60 : List Ab.Entry := [e242]
theorem l27_60_ok : ∀ e ∈ l27_60, Ab.EntryOk Ab.Sig.none Tryz.prog 60 e := List.forall_mem_cons.2 ⟨Ab.partB_ok E_sure e242_ok, fun _ h => (by cases h)⟩
def tab_241_60 : List Ab.Entry := l27_60
theorem tab_241_60_ok : ∀ e ∈ tab_241_60, Ab.EntryOk Ab.Sig.none Tryz.prog 60 e := fun e => fun h => l27_60_ok e h
def full_241 : Ab.Env := (Ab.withTab (Ab.envS Tryz.prog 227 374) 60 tab_241_60)
theorem full_241_sure : Ab.Sure Ab.Sig.none full_241 := (Ab.withTab_sure E_sure rfl tab_241_60_ok)
def e107 : Ab.Entry := ⟨101176, [(wA 86790 0)], [(86790, Mgb239)], (.tuple #[(wI 0), (wI 280)]), 101208, []⟩
theorem e107_ok : Ab.partB (Ab.envS Tryz.prog 227 374) 3000 7 e107 = true := by kernel_rfl
def e108 : Ab.Entry := ⟨101215, [(wA 86790 0)], [(86790, Mgb239)], (.tuple #[(wI 0), (wI 280)]), 101248, []⟩
theorem e108_ok : Ab.partB (Ab.envS Tryz.prog 227 374) 3000 8 e108 = true := by kernel_rfl
def e117 : Ab.Entry := ⟨110254, [wP], [], (.tuple #[(wI 0), (wI 1)]), 110280, []⟩
theorem e117_ok : Ab.partB (Ab.envS Tryz.prog 227 374) 3000 7 e117 = true := by kernel_rfl
def e118 : Ab.Entry := ⟨110286, [(wA 110246 0)], [(110246, Mgb240)], (.tuple #[(wI 0), (wI 1)]), 110313, []⟩
theorem e118_ok : Ab.partB (Ab.envS Tryz.prog 227 374) 3000 8 e118 = true := by kernel_rfl
def e257 : Ab.Entry := ⟨280814, [wP], [], (.slice none 0 0), 280829, []⟩
theorem e257_ok : Ab.partM (Ab.envS Tryz.prog 227 374) 3000 13 e257 = true := by kernel_rfl
def e258 : Ab.Entry := ⟨280829, [(wA 86790 0)], [(86788, Mgb131), (86790, Mgb239), (91837, Mgb133), (92393, Mgb134), (92949, Mgb134)], (wL 280918 0 3 3), 281408, []⟩
theorem e258_ok : Ab.partM (Ab.envS Tryz.prog 227 374) 3000 13 e258 = true := by kernel_rfl
def l39_7 : List Ab.Entry := [e107, e117]
theorem l39_7_ok : ∀ e ∈ l39_7, Ab.EntryOk Ab.Sig.none Tryz.prog 7 e := List.forall_mem_cons.2 ⟨Ab.partB_ok E_sure e107_ok, List.forall_mem_cons.2 ⟨Ab.partB_ok E_sure e117_ok, fun _ h => (by cases h)⟩⟩
def l39_8 : List Ab.Entry := [e108, e118]
theorem l39_8_ok : ∀ e ∈ l39_8, Ab.EntryOk Ab.Sig.none Tryz.prog 8 e := List.forall_mem_cons.2 ⟨Ab.partB_ok E_sure e108_ok, List.forall_mem_cons.2 ⟨Ab.partB_ok E_sure e118_ok, fun _ h => (by cases h)⟩⟩
def l39_13 : List Ab.Entry := [e257, e258]
theorem l39_13_ok : ∀ e ∈ l39_13, Ab.EntryOk Ab.Sig.none Tryz.prog 13 e := List.forall_mem_cons.2 ⟨Ab.partM_ok E_sure e257_ok, List.forall_mem_cons.2 ⟨Ab.partM_ok E_sure e258_ok, fun _ h => (by cases h)⟩⟩
end
end Go.Proofs.YtijnhaadhgoloaaGreatDoor.migrateNames
