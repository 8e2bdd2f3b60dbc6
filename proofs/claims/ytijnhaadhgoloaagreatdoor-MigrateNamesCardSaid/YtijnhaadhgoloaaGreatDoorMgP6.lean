/- MigrateNames: calls, each by a run of its own. -/
import Derived.Test.YtijnhaadhgoloaaGreatDoorMgB
import Derived.Test.YtijnhaadhgoloaaGreatDoorMgE
namespace Go.Proofs.YtijnhaadhgoloaaGreatDoor.migrateNames
open Go.Ab
set_option linter.unusedVariables false
noncomputable section
def e243 : Ab.Entry := ⟨242390, [(wA 123310 0), (wI 2)], [(123113, Mgb48), (123118, Mgb158), (123307, Mgb160), (123308, Mgb9), (123310, Mgb153), (128109, Mgb222), (128136, Mgb183), (128138, Mgb164), (131666, Mgb127), (131697, Mgb39), (148956, Mgb128)], (.tuple #[(.agg #[(wI 2), (wI 1), (wI 1), (wU 0), (wU 0), (wU 10), (wU 2), (wU 1), (wU 0), (wU 7), (wU 0), (wU 0), (.complex Go.FloatKind.f64 0 0), (.complex Go.FloatKind.f64 0 0), (wU 40), (wU 0), (wU 0), (wU 0), (wU 0), (wU 0), (wU 0), (wU 0), (wU 0), (.complex Go.FloatKind.f64 0 0), (.complex Go.FloatKind.f64 0 0), (wU 0), (wU 0), (wU 0), (wU 0), (wU 0), (wU 0), (wU 0), (wU 0), (wU 0), (wU 0), (wU 0), (wU 0), (wU 0), (wU 0), (wU 0), (wU 0), (wU 0), (wU 0), (wU 0), (.bool false), (wI 0), (wI 0), (wI 0), (wI 0), (wI 0), (wU 0), (wL 242830 0 8 8), (wU 3), (wI 0), (wL 243731 0 3 3)]), (.bool true)]), 246428, [(242830, some Mgb124), (243731, some Mgb135)]⟩
theorem e243_ok : Ab.partB (Ab.envS Tryz.prog 227 374) 3000 60 e243 = true := by kernel_rfl
def e244 : Ab.Entry := ⟨246444, [(wA 123310 0), (wI 2)], [(123307, Mgb160), (123310, Mgb153), (128109, Mgb222), (128136, Mgb183), (128138, Mgb164), (131666, Mgb127), (148956, Mgb128)], (wI 0), 249998, []⟩
theorem e244_ok : Ab.partB (Ab.envS Tryz.prog 227 374) 3000 57 e244 = true := by kernel_rfl
def l28_57 : List Ab.Entry := [e244]
theorem l28_57_ok : ∀ e ∈ l28_57, Ab.EntryOk Ab.Sig.none Tryz.prog 57 e := List.forall_mem_cons.2 ⟨Ab.partB_ok E_sure e244_ok, fun _ h => (by cases h)⟩
def l28_60 : List Ab.Entry := [e243]
theorem l28_60_ok : ∀ e ∈ l28_60, Ab.EntryOk Ab.Sig.none Tryz.prog 60 e := List.forall_mem_cons.2 ⟨Ab.partB_ok E_sure e243_ok, fun _ h => (by cases h)⟩
def e254 : Ab.Entry := ⟨268131, [(wA 123310 0), (wI 2)], [(123113, Mgb48), (123118, Mgb158), (123307, Mgb160), (123308, Mgb9), (123310, Mgb153), (128109, Mgb222), (128136, Mgb183), (128138, Mgb164), (131666, Mgb127), (131697, Mgb39), (148956, Mgb128)], (.tuple #[(.agg #[(wI 2), (wI 1), (wI 1), (wU 0), (wU 0), (wU 10), (wU 2), (wU 1), (wU 0), (wU 7), (wU 0), (wU 0), (.complex Go.FloatKind.f64 0 0), (.complex Go.FloatKind.f64 0 0), (wU 40), (wU 0), (wU 0), (wU 0), (wU 0), (wU 0), (wU 0), (wU 0), (wU 0), (.complex Go.FloatKind.f64 0 0), (.complex Go.FloatKind.f64 0 0), (wU 0), (wU 0), (wU 0), (wU 0), (wU 0), (wU 0), (wU 0), (wU 0), (wU 0), (wU 0), (wU 0), (wU 0), (wU 0), (wU 0), (wU 0), (wU 0), (wU 0), (wU 0), (wU 0), (.bool false), (wI 0), (wI 0), (wI 0), (wI 0), (wI 0), (wU 0), (wL 268571 0 8 8), (wU 3), (wI 0), (wL 269472 0 3 3)]), (.bool true)]), 272169, [(268571, some Mgb124), (269472, some Mgb135)]⟩
theorem e254_ok : Ab.partB (Ab.envS Tryz.prog 227 374) 3000 60 e254 = true := by kernel_rfl
def e255 : Ab.Entry := ⟨272185, [(wA 123310 0), (wI 2)], [(123307, Mgb160), (123310, Mgb153), (128109, Mgb222), (128136, Mgb183), (128138, Mgb164), (131666, Mgb127), (148956, Mgb128)], (wI 0), 275739, []⟩
theorem e255_ok : Ab.partB (Ab.envS Tryz.prog 227 374) 3000 57 e255 = true := by kernel_rfl
def l33_57 : List Ab.Entry := [e255]
theorem l33_57_ok : ∀ e ∈ l33_57, Ab.EntryOk Ab.Sig.none Tryz.prog 57 e := List.forall_mem_cons.2 ⟨Ab.partB_ok E_sure e255_ok, fun _ h => (by cases h)⟩
def l33_60 : List Ab.Entry := [e254]
theorem l33_60_ok : ∀ e ∈ l33_60, Ab.EntryOk Ab.Sig.none Tryz.prog 60 e := List.forall_mem_cons.2 ⟨Ab.partB_ok E_sure e254_ok, fun _ h => (by cases h)⟩
def e253 : Ab.Entry := ⟨259195, [(wA 123310 0), (wI 2)], [(123113, Mgb48), (123118, Mgb158), (123307, Mgb160), (123308, Mgb9), (123310, Mgb153), (128109, Mgb222), (128136, Mgb183), (128138, Mgb164), (131666, Mgb127), (131697, Mgb39), (148956, Mgb128)], (.tuple #[(.agg #[(wI 2), (wI 1), (wI 1), (wU 0), (wU 0), (wU 10), (wU 2), (wU 1), (wU 0), (wU 7), (wU 0), (wU 0), (.complex Go.FloatKind.f64 0 0), (.complex Go.FloatKind.f64 0 0), (wU 40), (wU 0), (wU 0), (wU 0), (wU 0), (wU 0), (wU 0), (wU 0), (wU 0), (.complex Go.FloatKind.f64 0 0), (.complex Go.FloatKind.f64 0 0), (wU 0), (wU 0), (wU 0), (wU 0), (wU 0), (wU 0), (wU 0), (wU 0), (wU 0), (wU 0), (wU 0), (wU 0), (wU 0), (wU 0), (wU 0), (wU 0), (wU 0), (wU 0), (wU 0), (.bool false), (wI 0), (wI 0), (wI 0), (wI 0), (wI 0), (wU 0), (wL 259635 0 8 8), (wU 3), (wI 0), (wL 260536 0 3 3)]), (.bool true)]), 263233, [(259635, some Mgb124), (260536, some Mgb135)]⟩
theorem e253_ok : Ab.partB (Ab.envS Tryz.prog 227 374) 3000 60 e253 = true := by kernel_rfl
def l32_60 : List Ab.Entry := [e253]
theorem l32_60_ok : ∀ e ∈ l32_60, Ab.EntryOk Ab.Sig.none Tryz.prog 60 e := List.forall_mem_cons.2 ⟨Ab.partB_ok E_sure e253_ok, fun _ h => (by cases h)⟩
def tab_252_60 : List Ab.Entry := l32_60
theorem tab_252_60_ok : ∀ e ∈ tab_252_60, Ab.EntryOk Ab.Sig.none Tryz.prog 60 e := fun e => fun h => l32_60_ok e h
def full_252 : Ab.Env := (Ab.withTab (Ab.envS Tryz.prog 227 374) 60 tab_252_60)
theorem full_252_sure : Ab.Sure Ab.Sig.none full_252 := (Ab.withTab_sure E_sure rfl tab_252_60_ok)
def e256 : Ab.Entry := ⟨276004, [(wA 123310 0), (wI 2)], [(123113, Mgb48), (123118, Mgb158), (123307, Mgb160), (123308, Mgb9), (123310, Mgb153), (128109, Mgb222), (128136, Mgb183), (128138, Mgb164), (131666, Mgb127), (131697, Mgb39), (148956, Mgb128)], (.tuple #[(.agg #[(wI 2), (wI 1), (wI 1), (wU 0), (wU 0), (wU 10), (wU 2), (wU 1), (wU 0), (wU 7), (wU 0), (wU 0), (.complex Go.FloatKind.f64 0 0), (.complex Go.FloatKind.f64 0 0), (wU 40), (wU 0), (wU 0), (wU 0), (wU 0), (wU 0), (wU 0), (wU 0), (wU 0), (.complex Go.FloatKind.f64 0 0), (.complex Go.FloatKind.f64 0 0), (wU 0), (wU 0), (wU 0), (wU 0), (wU 0), (wU 0), (wU 0), (wU 0), (wU 0), (wU 0), (wU 0), (wU 0), (wU 0), (wU 0), (wU 0), (wU 0), (wU 0), (wU 0), (wU 0), (.bool false), (wI 0), (wI 0), (wI 0), (wI 0), (wI 0), (wU 0), (wL 276444 0 8 8), (wU 3), (wI 0), (wL 277345 0 3 3)]), (.bool true)]), 280042, [(276444, some Mgb124), (277345, some Mgb135)]⟩
theorem e256_ok : Ab.partB (Ab.envS Tryz.prog 227 374) 3000 60 e256 = true := by kernel_rfl
def l35_60 : List Ab.Entry := [e256]
theorem l35_60_ok : ∀ e ∈ l35_60, Ab.EntryOk Ab.Sig.none Tryz.prog 60 e := List.forall_mem_cons.2 ⟨Ab.partB_ok E_sure e256_ok, fun _ h => (by cases h)⟩
def e219 : Ab.Entry := ⟨188260, [(wA 123310 0), (wI 1)], [(123113, Mgb48), (123118, Mgb158), (123307, Mgb160), (123308, Mgb9), (123310, Mgb153), (123315, Mgb39), (123321, Mgb168), (123328, Mgb155), (123330, Mgb156), (123816, Mgb53)], (.tuple #[(.agg #[(wI 1), (wI 0), (wI 1), (wU 0), (wU 2), (wU 0), (wU 0), (wU 0), (wU 0), (wU 0), (wU 0), (wU 0), (.complex Go.FloatKind.f64 0 0), (.complex Go.FloatKind.f64 0 0), (wU 12), (wU 0), (wU 0), (wU 0), (wU 0), (wU 0), (wU 0), (wU 0), (wU 0), (.complex Go.FloatKind.f64 0 0), (.complex Go.FloatKind.f64 0 0), (wU 0), (wU 0), (wU 0), (wU 0), (wU 0), (wU 0), (wU 0), (wU 0), (wU 0), (wU 0), (wU 0), (wU 0), (wU 0), (wU 0), (wU 0), (wU 0), (wU 0), (wU 0), (wU 0), (.bool false), (wI 0), (wI 0), (wI 0), (wI 0), (wI 0), (wU 0), (wL 188700 0 8 8), (wU 3), (wI 0), (wL 188834 0 1 1)]), (.bool true)]), 192124, [(188700, some Mgb124), (188834, some Mgb225)]⟩
theorem e219_ok : Ab.partB (Ab.envS Tryz.prog 227 374) 3000 60 e219 = true := by kernel_rfl
def l17_60 : List Ab.Entry := [e219]
theorem l17_60_ok : ∀ e ∈ l17_60, Ab.EntryOk Ab.Sig.none Tryz.prog 60 e := List.forall_mem_cons.2 ⟨Ab.partB_ok E_sure e219_ok, fun _ h => (by cases h)⟩
def tab_218_60 : List Ab.Entry := l17_60
theorem tab_218_60_ok : ∀ e ∈ tab_218_60, Ab.EntryOk Ab.Sig.none Tryz.prog 60 e := fun e => fun h => l17_60_ok e h
def full_218 : Ab.Env := (Ab.withTab (Ab.envS Tryz.prog 227 374) 60 tab_218_60)
theorem full_218_sure : Ab.Sure Ab.Sig.none full_218 := (Ab.withTab_sure E_sure rfl tab_218_60_ok)
end
end Go.Proofs.YtijnhaadhgoloaaGreatDoor.migrateNames
