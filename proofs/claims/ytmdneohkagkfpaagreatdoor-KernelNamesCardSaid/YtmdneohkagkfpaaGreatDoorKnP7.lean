/- KernelNames: calls, each by a run of its own. -/
import Derived.Test.YtmdneohkagkfpaaGreatDoorKnB
import Derived.Test.YtmdneohkagkfpaaGreatDoorKnE
namespace Go.Proofs.YtmdneohkagkfpaaGreatDoor.kernelNames
open Go.Ab
set_option linter.unusedVariables false
noncomputable section
def e0 : Ab.Entry := ⟨73, [(.agg #[(wI 1), (wI 1), (wI 1), (wI 1), (wL 65 0 1 1)])], [(65, Knb83)], (.tuple #[(wA 312 0), (wI 0)]), 1560, [(93, some Knb84), (95, some Knb85), (115, some Knb18), (120, some Knb86), (141, some Knb87), (309, some Knb88), (310, some Knb23), (312, some Knb89), (317, some Knb20), (323, some Knb90), (330, some Knb91), (332, some Knb92), (638, some Knb9), (1550, some Knb10)]⟩
theorem e0_ok : Ab.partB (Ab.envS Tryz.prog 84 154) 3000 4 e0 = true := by kernel_rfl
def e1 : Ab.Entry := ⟨7396, [(.agg #[(wI 1), (wI 1), (wI 1), (wI 1), (.slice none 0 0)])], [], (.tuple #[wP, (wI 2)]), 7629, []⟩
theorem e1_ok : Ab.partB (Ab.envS Tryz.prog 84 154) 3000 4 e1 = true := by kernel_rfl
def e2 : Ab.Entry := ⟨7637, [(.agg #[(wI 1), (wI 1), (wI 1), (wI 1), (wL 7629 0 17 17)])], [], (.tuple #[wP, (wI 2)]), 8130, []⟩
theorem e2_ok : Ab.partB (Ab.envS Tryz.prog 84 154) 3000 4 e2 = true := by kernel_rfl
def e3 : Ab.Entry := ⟨8283, [(wS [108, 105, 32, 48, 32, 50, 50, 10, 108, 105, 32, 49, 32, 55, 10, 115, 121, 115, 10, 108, 105, 32, 48, 32, 49, 10, 108, 105, 32, 49, 32, 51, 10, 115, 121, 115, 10])], [(2, Knb0)], (.tuple #[(wL 13950 0 6 6), (wI 0), (wI 0)]), 13977, [(13950, some Knb93)]⟩
theorem e3_ok : Ab.partB (Ab.envS Tryz.prog 84 154) 3000 82 e3 = true := by kernel_rfl
def e4 : Ab.Entry := ⟨13980, [(.agg #[(wI 2), (wI 16), (wI 4), (wI 4), (wL 13950 0 6 6)])], [(13950, Knb93)], (.tuple #[(wA 14219 0), (wI 0)]), 15991, [(14000, some Knb1), (14002, some Knb2), (14022, some Knb18), (14027, some Knb19), (14048, some Knb3), (14216, some Knb4), (14217, some Knb23), (14219, some Knb5), (14224, some Knb20), (14230, some Knb6), (14237, some Knb7), (14239, some Knb8), (14725, some Knb9), (15981, some Knb10)]⟩
theorem e4_ok : Ab.partB (Ab.envS Tryz.prog 84 154) 3000 4 e4 = true := by kernel_rfl
def l7_4 : List Ab.Entry := [e0, e1, e2, e4]
theorem l7_4_ok : ∀ e ∈ l7_4, Ab.EntryOk Ab.Sig.none Tryz.prog 4 e := List.forall_mem_cons.2 ⟨Ab.partB_ok E_sure e0_ok, List.forall_mem_cons.2 ⟨Ab.partB_ok E_sure e1_ok, List.forall_mem_cons.2 ⟨Ab.partB_ok E_sure e2_ok, List.forall_mem_cons.2 ⟨Ab.partB_ok E_sure e4_ok, fun _ h => (by cases h)⟩⟩⟩⟩
def l7_82 : List Ab.Entry := [e3]
theorem l7_82_ok : ∀ e ∈ l7_82, Ab.EntryOk Ab.Sig.none Tryz.prog 82 e := List.forall_mem_cons.2 ⟨Ab.partB_ok E_sure e3_ok, fun _ h => (by cases h)⟩
end
end Go.Proofs.YtmdneohkagkfpaaGreatDoor.kernelNames
