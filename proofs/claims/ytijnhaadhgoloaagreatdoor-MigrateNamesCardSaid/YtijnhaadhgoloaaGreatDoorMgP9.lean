/- MigrateNames: calls, each by a run of its own. -/
import Derived.Test.YtijnhaadhgoloaaGreatDoorMgB
import Derived.Test.YtijnhaadhgoloaaGreatDoorMgP7
import Derived.Test.YtijnhaadhgoloaaGreatDoorMgP8
import Derived.Test.YtijnhaadhgoloaaGreatDoorMgP0
namespace Go.Proofs.YtijnhaadhgoloaaGreatDoor.migrateNames
open Go.Ab
set_option linter.unusedVariables false
noncomputable section
def e120 : Ab.Entry := ⟨110386, [], [(0, Mgb0), (2, Mgb46), (3, Mgb77)], (wA 123310 0), 188229, [(123091, some Mgb78), (123093, some Mgb149), (123113, some Mgb48), (123118, some Mgb158), (123139, some Mgb224), (123307, some Mgb160), (123308, some Mgb9), (123310, some Mgb153), (123315, some Mgb39), (123321, some Mgb168), (123328, some Mgb155), (123330, some Mgb156), (123816, some Mgb53), (128109, some Mgb222), (128136, some Mgb183), (128138, some Mgb164), (131666, some Mgb53), (131697, some Mgb39), (148956, some Mgb81), (188205, some Mgb60)]⟩
theorem e120_ok : Ab.partB full_120 3000 4 e120 = true := by kernel_rfl
def e217 : Ab.Entry := ⟨188238, [(wA 123310 0), (wI 1), (wU 2), (wI 1)], [(123113, Mgb48), (123118, Mgb158), (123139, Mgb224), (123307, Mgb160), (123308, Mgb9), (123310, Mgb153), (123315, Mgb39), (123321, Mgb168), (123328, Mgb155), (123330, Mgb156), (123816, Mgb53)], (.tuple #[wP, (wI 0), (wI 180)]), 192204, []⟩
theorem e217_ok : Ab.partB full_217 3000 5 e217 = true := by kernel_rfl
def e220 : Ab.Entry := ⟨192213, [(wA 123310 0), (wI 2), (wU 0), (wI 1)], [(123113, Mgb48), (123118, Mgb158), (123139, Mgb224), (123307, Mgb160), (123308, Mgb9), (123310, Mgb153), (128109, Mgb222), (128136, Mgb183), (128138, Mgb164), (131666, Mgb53), (131697, Mgb39), (148956, Mgb81)], (.tuple #[wP, (wI 0), (wI 2)]), 201081, []⟩
theorem e220_ok : Ab.partB full_220 3000 5 e220 = true := by kernel_rfl
def e225 : Ab.Entry := ⟨201090, [(wA 123310 0), (wI 2), (wU 2), (wI 1)], [(123091, Mgb78), (123093, Mgb149), (123113, Mgb48), (123118, Mgb158), (123139, Mgb224), (123307, Mgb160), (123308, Mgb9), (123310, Mgb153), (128109, Mgb222), (128136, Mgb183), (128138, Mgb164), (131666, Mgb53), (131697, Mgb39), (148956, Mgb81)], (.tuple #[(wA 209961 0), (wI 3), (wI 0)]), 224303, [(131666, some Mgb127), (148956, some Mgb128), (209959, some Mgb229), (209961, some Mgb230), (215008, some Mgb133), (215564, some Mgb134), (216120, some Mgb134)]⟩
theorem e225_ok : Ab.partB full_225 3000 5 e225 = true := by kernel_rfl
def e235 : Ab.Entry := ⟨224310, [(wA 209961 0)], [(123091, Mgb78), (123093, Mgb149), (123113, Mgb48), (123118, Mgb158), (123139, Mgb224), (123307, Mgb160), (123308, Mgb9), (123310, Mgb153), (128109, Mgb222), (128136, Mgb183), (128138, Mgb164), (131666, Mgb127), (131697, Mgb39), (148956, Mgb128), (209959, Mgb229), (209961, Mgb230), (215008, Mgb133), (215564, Mgb134), (216120, Mgb134)], (.tuple #[(wI 0), (wI 0)]), 250014, [(209961, some Mgb232)]⟩
theorem e235_ok : Ab.partB full_235 3000 7 e235 = true := by kernel_rfl
def e246 : Ab.Entry := ⟨250068, [(wA 209961 0)], [(123091, Mgb78), (123093, Mgb149), (123113, Mgb48), (123118, Mgb158), (123139, Mgb224), (123307, Mgb160), (123308, Mgb9), (123310, Mgb153), (128109, Mgb222), (128136, Mgb183), (128138, Mgb164), (131666, Mgb127), (131697, Mgb39), (148956, Mgb128), (188205, Mgb60), (209959, Mgb229), (209961, Mgb232), (215008, Mgb133), (215564, Mgb134), (216120, Mgb134)], (.tuple #[(wI 0), (wI 0)]), 280628, [(123139, some Mgb234), (128109, some Mgb235), (188205, some Mgb236), (209961, some Mgb237), (280610, some Mgb238)]⟩
theorem e246_ok : Ab.partB full_246 3000 8 e246 = true := by kernel_rfl
def l38_4 : List Ab.Entry := [e120]
theorem l38_4_ok : ∀ e ∈ l38_4, Ab.EntryOk Ab.Sig.none Tryz.prog 4 e := List.forall_mem_cons.2 ⟨Ab.partB_ok full_120_sure e120_ok, fun _ h => (by cases h)⟩
def l38_5 : List Ab.Entry := [e217, e220, e225]
theorem l38_5_ok : ∀ e ∈ l38_5, Ab.EntryOk Ab.Sig.none Tryz.prog 5 e := List.forall_mem_cons.2 ⟨Ab.partB_ok full_217_sure e217_ok, List.forall_mem_cons.2 ⟨Ab.partB_ok full_220_sure e220_ok, List.forall_mem_cons.2 ⟨Ab.partB_ok full_225_sure e225_ok, fun _ h => (by cases h)⟩⟩⟩
def l38_7 : List Ab.Entry := [e235]
theorem l38_7_ok : ∀ e ∈ l38_7, Ab.EntryOk Ab.Sig.none Tryz.prog 7 e := List.forall_mem_cons.2 ⟨Ab.partB_ok full_235_sure e235_ok, fun _ h => (by cases h)⟩
def l38_8 : List Ab.Entry := [e246]
theorem l38_8_ok : ∀ e ∈ l38_8, Ab.EntryOk Ab.Sig.none Tryz.prog 8 e := List.forall_mem_cons.2 ⟨Ab.partB_ok full_246_sure e246_ok, fun _ h => (by cases h)⟩
def tab_119_4 : List Ab.Entry := l38_4
theorem tab_119_4_ok : ∀ e ∈ tab_119_4, Ab.EntryOk Ab.Sig.none Tryz.prog 4 e := fun e => fun h => l38_4_ok e h
def tab_119_5 : List Ab.Entry := l38_5
theorem tab_119_5_ok : ∀ e ∈ tab_119_5, Ab.EntryOk Ab.Sig.none Tryz.prog 5 e := fun e => fun h => l38_5_ok e h
def tab_119_7 : List Ab.Entry := l37_7 ++ l38_7
theorem tab_119_7_ok : ∀ e ∈ tab_119_7, Ab.EntryOk Ab.Sig.none Tryz.prog 7 e := fun e => fun h => (List.mem_append.1 h).elim (fun h => l37_7_ok e h) (fun h => l38_7_ok e h)
def tab_119_8 : List Ab.Entry := l38_8
theorem tab_119_8_ok : ∀ e ∈ tab_119_8, Ab.EntryOk Ab.Sig.none Tryz.prog 8 e := fun e => fun h => l38_8_ok e h
def full_119 : Ab.Env := (Ab.withTab (Ab.withTab (Ab.withTab (Ab.withTab (Ab.envS Tryz.prog 227 374) 4 tab_119_4) 5 tab_119_5) 7 tab_119_7) 8 tab_119_8)
theorem full_119_sure : Ab.Sure Ab.Sig.none full_119 := (Ab.withTab_sure (Ab.withTab_sure (Ab.withTab_sure (Ab.withTab_sure E_sure rfl tab_119_4_ok) rfl tab_119_5_ok) rfl tab_119_7_ok) rfl tab_119_8_ok)
end
end Go.Proofs.YtijnhaadhgoloaaGreatDoor.migrateNames
