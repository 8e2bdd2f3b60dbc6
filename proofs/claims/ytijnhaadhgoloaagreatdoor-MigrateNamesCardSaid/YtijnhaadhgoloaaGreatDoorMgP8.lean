/- MigrateNames: calls, each by a run of its own. -/
import Derived.Test.YtijnhaadhgoloaaGreatDoorMgB
import Derived.Test.YtijnhaadhgoloaaGreatDoorMgP2
import Derived.Test.YtijnhaadhgoloaaGreatDoorMgP7
import Derived.Test.YtijnhaadhgoloaaGreatDoorMgP4
import Derived.Test.YtijnhaadhgoloaaGreatDoorMgP5
import Derived.Test.YtijnhaadhgoloaaGreatDoorMgP6
namespace Go.Proofs.YtijnhaadhgoloaaGreatDoor.migrateNames
open Go.Ab
set_option linter.unusedVariables false
noncomputable section
def e98 : Ab.Entry := ⟨77926, [(wA 12991 0), (wI 2)], [(12794, Mgb48), (12799, Mgb49), (12820, Mgb123), (12988, Mgb51), (12989, Mgb9), (12991, Mgb38), (17790, Mgb121), (17817, Mgb80), (17819, Mgb56), (21347, Mgb53), (21378, Mgb39), (38637, Mgb81)], (wI 0), 86739, []⟩
theorem e98_ok : Ab.partB full_98 3000 17 e98 = true := by kernel_rfl
def e102 : Ab.Entry := ⟨86798, [(wA 86790 0)], [(12772, Mgb78), (12774, Mgb33), (12794, Mgb48), (12799, Mgb49), (12988, Mgb51), (12989, Mgb9), (12991, Mgb38), (17790, Mgb121), (17817, Mgb80), (17819, Mgb56), (21347, Mgb53), (21378, Mgb39), (38637, Mgb81), (86788, Mgb9), (86790, Mgb129)], (wI 3), 101132, [(21347, some Mgb127), (38637, some Mgb128), (86788, some Mgb131), (86790, some Mgb132), (91837, some Mgb133), (92393, some Mgb134), (92949, some Mgb134)]⟩
theorem e102_ok : Ab.partM full_102 3000 19 e102 = true := by kernel_rfl
def l8_17 : List Ab.Entry := [e98]
theorem l8_17_ok : ∀ e ∈ l8_17, Ab.EntryOk Ab.Sig.none Tryz.prog 17 e := List.forall_mem_cons.2 ⟨Ab.partB_ok full_98_sure e98_ok, fun _ h => (by cases h)⟩
def l8_19 : List Ab.Entry := [e102]
theorem l8_19_ok : ∀ e ∈ l8_19, Ab.EntryOk Ab.Sig.none Tryz.prog 19 e := List.forall_mem_cons.2 ⟨Ab.partM_ok full_102_sure e102_ok, fun _ h => (by cases h)⟩
def tab_97_17 : List Ab.Entry := l8_17
theorem tab_97_17_ok : ∀ e ∈ tab_97_17, Ab.EntryOk Ab.Sig.none Tryz.prog 17 e := fun e => fun h => l8_17_ok e h
def tab_97_19 : List Ab.Entry := l8_19
theorem tab_97_19_ok : ∀ e ∈ tab_97_19, Ab.EntryOk Ab.Sig.none Tryz.prog 19 e := fun e => fun h => l8_19_ok e h
def full_97 : Ab.Env := (Ab.withTab (Ab.withTab (Ab.envS Tryz.prog 227 374) 17 tab_97_17) 19 tab_97_19)
theorem full_97_sure : Ab.Sure Ab.Sig.none full_97 := (Ab.withTab_sure (Ab.withTab_sure E_sure rfl tab_97_17_ok) rfl tab_97_19_ok)
def e226 : Ab.Entry := ⟨201097, [(wA 123310 0), (wI 2)], [(123113, Mgb48), (123118, Mgb158), (123139, Mgb224), (123307, Mgb160), (123308, Mgb9), (123310, Mgb153), (128109, Mgb222), (128136, Mgb183), (128138, Mgb164), (131666, Mgb53), (131697, Mgb39), (148956, Mgb81)], (wI 0), 209910, []⟩
theorem e226_ok : Ab.partB full_226 3000 17 e226 = true := by kernel_rfl
def e230 : Ab.Entry := ⟨209969, [(wA 209961 0)], [(123091, Mgb78), (123093, Mgb149), (123113, Mgb48), (123118, Mgb158), (123307, Mgb160), (123308, Mgb9), (123310, Mgb153), (128109, Mgb222), (128136, Mgb183), (128138, Mgb164), (131666, Mgb53), (131697, Mgb39), (148956, Mgb81), (209959, Mgb9), (209961, Mgb228)], (wI 3), 224303, [(131666, some Mgb127), (148956, some Mgb128), (209959, some Mgb229), (209961, some Mgb230), (215008, some Mgb133), (215564, some Mgb134), (216120, some Mgb134)]⟩
theorem e230_ok : Ab.partM full_230 3000 19 e230 = true := by kernel_rfl
def l25_17 : List Ab.Entry := [e226]
theorem l25_17_ok : ∀ e ∈ l25_17, Ab.EntryOk Ab.Sig.none Tryz.prog 17 e := List.forall_mem_cons.2 ⟨Ab.partB_ok full_226_sure e226_ok, fun _ h => (by cases h)⟩
def l25_19 : List Ab.Entry := [e230]
theorem l25_19_ok : ∀ e ∈ l25_19, Ab.EntryOk Ab.Sig.none Tryz.prog 19 e := List.forall_mem_cons.2 ⟨Ab.partM_ok full_230_sure e230_ok, fun _ h => (by cases h)⟩
def tab_225_17 : List Ab.Entry := l25_17
theorem tab_225_17_ok : ∀ e ∈ tab_225_17, Ab.EntryOk Ab.Sig.none Tryz.prog 17 e := fun e => fun h => l25_17_ok e h
def tab_225_19 : List Ab.Entry := l25_19
theorem tab_225_19_ok : ∀ e ∈ tab_225_19, Ab.EntryOk Ab.Sig.none Tryz.prog 19 e := fun e => fun h => l25_19_ok e h
def full_225 : Ab.Env := (Ab.withTab (Ab.withTab (Ab.envS Tryz.prog 227 374) 17 tab_225_17) 19 tab_225_19)
theorem full_225_sure : Ab.Sure Ab.Sig.none full_225 := (Ab.withTab_sure (Ab.withTab_sure E_sure rfl tab_225_17_ok) rfl tab_225_19_ok)
def e236 : Ab.Entry := ⟨224362, [(wA 123310 0), (wI 2)], [(123113, Mgb48), (123118, Mgb158), (123139, Mgb224), (123307, Mgb160), (123308, Mgb9), (123310, Mgb153), (128109, Mgb222), (128136, Mgb183), (128138, Mgb164), (131666, Mgb127), (131697, Mgb39), (148956, Mgb128)], (wI 0), 233175, []⟩
theorem e236_ok : Ab.partB full_236 3000 17 e236 = true := by kernel_rfl
def e240 : Ab.Entry := ⟨233193, [(wA 209961 0)], [(123091, Mgb78), (123093, Mgb149), (123113, Mgb48), (123118, Mgb158), (123307, Mgb160), (123308, Mgb9), (123310, Mgb153), (128109, Mgb222), (128136, Mgb183), (128138, Mgb164), (131666, Mgb127), (131697, Mgb39), (148956, Mgb128), (209959, Mgb229), (209961, Mgb232), (215008, Mgb133), (215564, Mgb134), (216120, Mgb134)], (wI 0), 250014, []⟩
theorem e240_ok : Ab.partM full_240 3000 19 e240 = true := by kernel_rfl
def l30_17 : List Ab.Entry := [e236]
theorem l30_17_ok : ∀ e ∈ l30_17, Ab.EntryOk Ab.Sig.none Tryz.prog 17 e := List.forall_mem_cons.2 ⟨Ab.partB_ok full_236_sure e236_ok, fun _ h => (by cases h)⟩
def l30_19 : List Ab.Entry := [e240]
theorem l30_19_ok : ∀ e ∈ l30_19, Ab.EntryOk Ab.Sig.none Tryz.prog 19 e := List.forall_mem_cons.2 ⟨Ab.partM_ok full_240_sure e240_ok, fun _ h => (by cases h)⟩
def tab_235_17 : List Ab.Entry := l30_17
theorem tab_235_17_ok : ∀ e ∈ tab_235_17, Ab.EntryOk Ab.Sig.none Tryz.prog 17 e := fun e => fun h => l30_17_ok e h
def tab_235_19 : List Ab.Entry := l30_19
theorem tab_235_19_ok : ∀ e ∈ tab_235_19, Ab.EntryOk Ab.Sig.none Tryz.prog 19 e := fun e => fun h => l30_19_ok e h
def full_235 : Ab.Env := (Ab.withTab (Ab.withTab (Ab.envS Tryz.prog 227 374) 17 tab_235_17) 19 tab_235_19)
theorem full_235_sure : Ab.Sure Ab.Sig.none full_235 := (Ab.withTab_sure (Ab.withTab_sure E_sure rfl tab_235_17_ok) rfl tab_235_19_ok)
def e247 : Ab.Entry := ⟨250112, [(wA 123310 0), (wI 2)], [(123113, Mgb48), (123118, Mgb158), (123139, Mgb224), (123307, Mgb160), (123308, Mgb9), (123310, Mgb153), (128109, Mgb222), (128136, Mgb183), (128138, Mgb164), (131666, Mgb127), (131697, Mgb39), (148956, Mgb128)], (wI 0), 258925, []⟩
theorem e247_ok : Ab.partB full_247 3000 17 e247 = true := by kernel_rfl
def e251 : Ab.Entry := ⟨258934, [(wA 209961 0)], [(123091, Mgb78), (123093, Mgb149), (123113, Mgb48), (123118, Mgb158), (123307, Mgb160), (123308, Mgb9), (123310, Mgb153), (128109, Mgb222), (128136, Mgb183), (128138, Mgb164), (131666, Mgb127), (131697, Mgb39), (148956, Mgb128), (209959, Mgb229), (209961, Mgb232), (215008, Mgb133), (215564, Mgb134), (216120, Mgb134)], (wI 0), 275755, []⟩
theorem e251_ok : Ab.partM full_251 3000 19 e251 = true := by kernel_rfl
def l36_17 : List Ab.Entry := [e247]
theorem l36_17_ok : ∀ e ∈ l36_17, Ab.EntryOk Ab.Sig.none Tryz.prog 17 e := List.forall_mem_cons.2 ⟨Ab.partB_ok full_247_sure e247_ok, fun _ h => (by cases h)⟩
def l36_19 : List Ab.Entry := [e251]
theorem l36_19_ok : ∀ e ∈ l36_19, Ab.EntryOk Ab.Sig.none Tryz.prog 19 e := List.forall_mem_cons.2 ⟨Ab.partM_ok full_251_sure e251_ok, fun _ h => (by cases h)⟩
def tab_246_17 : List Ab.Entry := l36_17
theorem tab_246_17_ok : ∀ e ∈ tab_246_17, Ab.EntryOk Ab.Sig.none Tryz.prog 17 e := fun e => fun h => l36_17_ok e h
def tab_246_19 : List Ab.Entry := l36_19
theorem tab_246_19_ok : ∀ e ∈ tab_246_19, Ab.EntryOk Ab.Sig.none Tryz.prog 19 e := fun e => fun h => l36_19_ok e h
def tab_246_60 : List Ab.Entry := l35_60
theorem tab_246_60_ok : ∀ e ∈ tab_246_60, Ab.EntryOk Ab.Sig.none Tryz.prog 60 e := fun e => fun h => l35_60_ok e h
def full_246 : Ab.Env := (Ab.withTab (Ab.withTab (Ab.withTab (Ab.envS Tryz.prog 227 374) 17 tab_246_17) 19 tab_246_19) 60 tab_246_60)
theorem full_246_sure : Ab.Sure Ab.Sig.none full_246 := (Ab.withTab_sure (Ab.withTab_sure (Ab.withTab_sure E_sure rfl tab_246_17_ok) rfl tab_246_19_ok) rfl tab_246_60_ok)
end
end Go.Proofs.YtijnhaadhgoloaaGreatDoor.migrateNames
