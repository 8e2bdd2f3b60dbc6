/- CkptNames: calls, each by a run of its own. -/
import Derived.Test.YtcgiemeedpjpiaaGreatDoorCkB
import Derived.Test.YtcgiemeedpjpiaaGreatDoorCkE
import Derived.Test.YtcgiemeedpjpiaaGreatDoorCkP1
namespace Go.Proofs.YtcgiemeedpjpiaaGreatDoor.ckptNames
open Go.Ab
set_option linter.unusedVariables false
noncomputable section
def e73 : Ab.Entry := ⟨69664, [(wA 20421 0), (.agg #[(wI 1), (wI 0), (wI 0), (wI 0), (wI 0), (wU 0), (wS [])])], [(0, Ckb0), (20202, Ckb83), (20204, Ckb50), (20250, Ckb123), (20418, Ckb87), (20421, Ckb76), (43584, Ckb121), (43611, Ckb93), (43613, Ckb94), (47315, Ckb90), (69639, Ckb98)], (.slice none 0 0), 70935, []⟩
theorem e73_ok : Ab.partB (Ab.envS Tryz.prog 259 395) 3000 14 e73 = true := by kernel_rfl
def e74 : Ab.Entry := ⟨70938, [(wA 20421 0), (.agg #[(wI 4), (wI 0), (wI 0), (wI 0), (wI 0), (wU 0), (wS [])])], [(20250, Ckb123), (20421, Ckb76), (69639, Ckb98)], (.slice none 0 0), 71075, [(20250, some Ckb124), (71058, some Ckb95)]⟩
theorem e74_ok : Ab.partB (Ab.envS Tryz.prog 259 395) 3000 14 e74 = true := by kernel_rfl
def e75 : Ab.Entry := ⟨71083, [(wA 20421 0), (.agg #[(wI 1), (wI 0), (wI 0), (wI 0), (wI 0), (wU 0), (wS [])])], [(0, Ckb0), (20202, Ckb83), (20204, Ckb50), (20250, Ckb124), (20418, Ckb87), (20421, Ckb76), (20432, Ckb101), (20439, Ckb70), (20441, Ckb59), (20980, Ckb90), (71058, Ckb95)], (.slice none 0 0), 72354, []⟩
theorem e75_ok : Ab.partB (Ab.envS Tryz.prog 259 395) 3000 14 e75 = true := by kernel_rfl
def e76 : Ab.Entry := ⟨72357, [(wA 20421 0), (.agg #[(wI 4), (wI 0), (wI 0), (wI 0), (wI 0), (wU 0), (wS [])])], [(20250, Ckb124), (20421, Ckb76), (71058, Ckb95)], (.slice none 0 0), 72494, [(20250, some Ckb125), (72477, some Ckb98)]⟩
theorem e76_ok : Ab.partB (Ab.envS Tryz.prog 259 395) 3000 14 e76 = true := by kernel_rfl
def e77 : Ab.Entry := ⟨72502, [(wA 20421 0), (.agg #[(wI 1), (wI 0), (wI 0), (wI 0), (wI 0), (wU 0), (wS [])])], [(0, Ckb0), (20202, Ckb83), (20204, Ckb50), (20250, Ckb125), (20418, Ckb87), (20421, Ckb76), (43584, Ckb121), (43611, Ckb93), (43613, Ckb94), (47315, Ckb90), (72477, Ckb98)], (.slice none 0 0), 73773, []⟩
theorem e77_ok : Ab.partB (Ab.envS Tryz.prog 259 395) 3000 14 e77 = true := by kernel_rfl
def e78 : Ab.Entry := ⟨73776, [(wA 20421 0), (.agg #[(wI 4), (wI 0), (wI 0), (wI 0), (wI 0), (wU 0), (wS [])])], [(20250, Ckb125), (20421, Ckb76), (72477, Ckb98)], (.slice none 0 0), 73913, [(20250, some Ckb126), (73896, some Ckb95)]⟩
theorem e78_ok : Ab.partB (Ab.envS Tryz.prog 259 395) 3000 14 e78 = true := by kernel_rfl
def e79 : Ab.Entry := ⟨73921, [(wA 20421 0), (.agg #[(wI 1), (wI 0), (wI 0), (wI 0), (wI 0), (wU 0), (wS [])])], [(0, Ckb0), (20202, Ckb83), (20204, Ckb50), (20250, Ckb126), (20418, Ckb87), (20421, Ckb76), (20432, Ckb101), (20439, Ckb70), (20441, Ckb59), (20980, Ckb90), (73896, Ckb95)], (.slice none 0 0), 75192, []⟩
theorem e79_ok : Ab.partB (Ab.envS Tryz.prog 259 395) 3000 14 e79 = true := by kernel_rfl
def e80 : Ab.Entry := ⟨75195, [(wA 20421 0), (.agg #[(wI 4), (wI 0), (wI 0), (wI 0), (wI 0), (wU 0), (wS [])])], [(20250, Ckb126), (20421, Ckb76), (73896, Ckb95)], (.slice none 0 0), 75332, [(20250, some Ckb127), (75315, some Ckb98)]⟩
theorem e80_ok : Ab.partB (Ab.envS Tryz.prog 259 395) 3000 14 e80 = true := by kernel_rfl
def e81 : Ab.Entry := ⟨75340, [(wA 20421 0), (.agg #[(wI 1), (wI 0), (wI 0), (wI 0), (wI 0), (wU 0), (wS [])])], [(0, Ckb0), (20202, Ckb83), (20204, Ckb50), (20250, Ckb127), (20418, Ckb87), (20421, Ckb76), (43584, Ckb121), (43611, Ckb93), (43613, Ckb94), (47315, Ckb90), (75315, Ckb98)], (.slice none 0 0), 76611, []⟩
theorem e81_ok : Ab.partB (Ab.envS Tryz.prog 259 395) 3000 14 e81 = true := by kernel_rfl
def e82 : Ab.Entry := ⟨76614, [(wA 20421 0), (.agg #[(wI 4), (wI 0), (wI 0), (wI 0), (wI 0), (wU 0), (wS [])])], [(20250, Ckb127), (20421, Ckb76), (75315, Ckb98)], (.slice none 0 0), 76751, [(20250, some Ckb128), (76734, some Ckb95)]⟩
theorem e82_ok : Ab.partB (Ab.envS Tryz.prog 259 395) 3000 14 e82 = true := by kernel_rfl
def e83 : Ab.Entry := ⟨76759, [(wA 20421 0), (.agg #[(wI 1), (wI 0), (wI 0), (wI 0), (wI 0), (wU 0), (wS [])])], [(0, Ckb0), (20202, Ckb83), (20204, Ckb50), (20250, Ckb128), (20418, Ckb87), (20421, Ckb76), (20432, Ckb101), (20439, Ckb70), (20441, Ckb59), (20980, Ckb90), (76734, Ckb95)], (.slice none 0 0), 78030, []⟩
theorem e83_ok : Ab.partB (Ab.envS Tryz.prog 259 395) 3000 14 e83 = true := by kernel_rfl
def e84 : Ab.Entry := ⟨78033, [(wA 20421 0), (.agg #[(wI 4), (wI 0), (wI 0), (wI 0), (wI 0), (wU 0), (wS [])])], [(20250, Ckb128), (20421, Ckb76), (76734, Ckb95)], (.slice none 0 0), 78170, [(20250, some Ckb129), (78153, some Ckb98)]⟩
theorem e84_ok : Ab.partB (Ab.envS Tryz.prog 259 395) 3000 14 e84 = true := by kernel_rfl
def e85 : Ab.Entry := ⟨78178, [(wA 20421 0), (.agg #[(wI 1), (wI 0), (wI 0), (wI 0), (wI 0), (wU 0), (wS [])])], [(0, Ckb0), (20202, Ckb83), (20204, Ckb50), (20250, Ckb129), (20418, Ckb87), (20421, Ckb76), (43584, Ckb121), (43611, Ckb93), (43613, Ckb94), (47315, Ckb90), (78153, Ckb98)], (.slice none 0 0), 79449, []⟩
theorem e85_ok : Ab.partB (Ab.envS Tryz.prog 259 395) 3000 14 e85 = true := by kernel_rfl
def e86 : Ab.Entry := ⟨79452, [(wA 20421 0), (.agg #[(wI 4), (wI 0), (wI 0), (wI 0), (wI 0), (wU 0), (wS [])])], [(20250, Ckb129), (20421, Ckb76), (78153, Ckb98)], (.slice none 0 0), 79589, [(20250, some Ckb130), (79572, some Ckb95)]⟩
theorem e86_ok : Ab.partB (Ab.envS Tryz.prog 259 395) 3000 14 e86 = true := by kernel_rfl
def e87 : Ab.Entry := ⟨79597, [(wA 20421 0), (.agg #[(wI 1), (wI 0), (wI 0), (wI 0), (wI 0), (wU 0), (wS [])])], [(0, Ckb0), (20202, Ckb83), (20204, Ckb50), (20250, Ckb130), (20418, Ckb87), (20421, Ckb76), (20432, Ckb101), (20439, Ckb70), (20441, Ckb59), (20980, Ckb90), (79572, Ckb95)], (.slice none 0 0), 80868, []⟩
theorem e87_ok : Ab.partB (Ab.envS Tryz.prog 259 395) 3000 14 e87 = true := by kernel_rfl
def e88 : Ab.Entry := ⟨80871, [(wA 20421 0), (.agg #[(wI 4), (wI 0), (wI 0), (wI 0), (wI 0), (wU 0), (wS [])])], [(20250, Ckb130), (20421, Ckb76), (79572, Ckb95)], (.slice none 0 0), 81008, [(20250, some Ckb131), (80991, some Ckb98)]⟩
theorem e88_ok : Ab.partB (Ab.envS Tryz.prog 259 395) 3000 14 e88 = true := by kernel_rfl
def e89 : Ab.Entry := ⟨81016, [(wA 20421 0), (.agg #[(wI 1), (wI 0), (wI 0), (wI 0), (wI 0), (wU 0), (wS [])])], [(0, Ckb0), (20202, Ckb83), (20204, Ckb50), (20250, Ckb131), (20418, Ckb87), (20421, Ckb76), (43584, Ckb121), (43611, Ckb93), (43613, Ckb94), (47315, Ckb90), (80991, Ckb98)], (.slice none 0 0), 82287, []⟩
theorem e89_ok : Ab.partB (Ab.envS Tryz.prog 259 395) 3000 14 e89 = true := by kernel_rfl
def e90 : Ab.Entry := ⟨82290, [(wA 20421 0), (.agg #[(wI 4), (wI 0), (wI 0), (wI 0), (wI 0), (wU 0), (wS [])])], [(20250, Ckb131), (20421, Ckb76), (80991, Ckb98)], (.slice none 0 0), 82427, [(20250, some Ckb132), (82410, some Ckb95)]⟩
theorem e90_ok : Ab.partB (Ab.envS Tryz.prog 259 395) 3000 14 e90 = true := by kernel_rfl
def e91 : Ab.Entry := ⟨82435, [(wA 20421 0), (.agg #[(wI 1), (wI 0), (wI 0), (wI 0), (wI 0), (wU 0), (wS [])])], [(0, Ckb0), (20202, Ckb83), (20204, Ckb50), (20250, Ckb132), (20418, Ckb87), (20421, Ckb76), (20432, Ckb101), (20439, Ckb70), (20441, Ckb59), (20980, Ckb90), (82410, Ckb95)], (.slice none 0 0), 83706, []⟩
theorem e91_ok : Ab.partB (Ab.envS Tryz.prog 259 395) 3000 14 e91 = true := by kernel_rfl
def e92 : Ab.Entry := ⟨83709, [(wA 20421 0), (.agg #[(wI 4), (wI 0), (wI 0), (wI 0), (wI 0), (wU 0), (wS [])])], [(20250, Ckb132), (20421, Ckb76), (82410, Ckb95)], (.slice none 0 0), 83846, [(20250, some Ckb133), (83829, some Ckb98)]⟩
theorem e92_ok : Ab.partB (Ab.envS Tryz.prog 259 395) 3000 14 e92 = true := by kernel_rfl
def e93 : Ab.Entry := ⟨83854, [(wA 20421 0), (.agg #[(wI 1), (wI 0), (wI 0), (wI 0), (wI 0), (wU 0), (wS [])])], [(0, Ckb0), (20202, Ckb83), (20204, Ckb50), (20250, Ckb133), (20418, Ckb87), (20421, Ckb76), (43584, Ckb121), (43611, Ckb93), (43613, Ckb94), (47315, Ckb90), (83829, Ckb98)], (.slice none 0 0), 85125, []⟩
theorem e93_ok : Ab.partB (Ab.envS Tryz.prog 259 395) 3000 14 e93 = true := by kernel_rfl
def e94 : Ab.Entry := ⟨85128, [(wA 20421 0), (.agg #[(wI 4), (wI 0), (wI 0), (wI 0), (wI 0), (wU 0), (wS [])])], [(20250, Ckb133), (20421, Ckb76), (83829, Ckb98)], (.slice none 0 0), 85265, [(20250, some Ckb134), (85248, some Ckb95)]⟩
theorem e94_ok : Ab.partB (Ab.envS Tryz.prog 259 395) 3000 14 e94 = true := by kernel_rfl
def e95 : Ab.Entry := ⟨85273, [(wA 20421 0), (.agg #[(wI 1), (wI 0), (wI 0), (wI 0), (wI 0), (wU 0), (wS [])])], [(0, Ckb0), (20202, Ckb83), (20204, Ckb50), (20250, Ckb134), (20418, Ckb87), (20421, Ckb76), (20432, Ckb101), (20439, Ckb70), (20441, Ckb59), (20980, Ckb90), (85248, Ckb95)], (.slice none 0 0), 86544, []⟩
theorem e95_ok : Ab.partB (Ab.envS Tryz.prog 259 395) 3000 14 e95 = true := by kernel_rfl
def e96 : Ab.Entry := ⟨86547, [(wA 20421 0), (.agg #[(wI 4), (wI 0), (wI 0), (wI 0), (wI 0), (wU 0), (wS [])])], [(20250, Ckb134), (20421, Ckb76), (85248, Ckb95)], (.slice none 0 0), 86684, [(20250, some Ckb135), (86667, some Ckb98)]⟩
theorem e96_ok : Ab.partB (Ab.envS Tryz.prog 259 395) 3000 14 e96 = true := by kernel_rfl
def e97 : Ab.Entry := ⟨86692, [(wA 20421 0), (.agg #[(wI 1), (wI 0), (wI 0), (wI 0), (wI 0), (wU 0), (wS [])])], [(0, Ckb0), (20202, Ckb83), (20204, Ckb50), (20250, Ckb135), (20418, Ckb87), (20421, Ckb76), (43584, Ckb121), (43611, Ckb93), (43613, Ckb94), (47315, Ckb90), (86667, Ckb98)], (.slice none 0 0), 87963, []⟩
theorem e97_ok : Ab.partB (Ab.envS Tryz.prog 259 395) 3000 14 e97 = true := by kernel_rfl
def e98 : Ab.Entry := ⟨87966, [(wA 20421 0), (.agg #[(wI 4), (wI 0), (wI 0), (wI 0), (wI 0), (wU 0), (wS [])])], [(20250, Ckb135), (20421, Ckb76), (86667, Ckb98)], (.slice none 0 0), 88103, [(20250, some Ckb136), (88086, some Ckb95)]⟩
theorem e98_ok : Ab.partB (Ab.envS Tryz.prog 259 395) 3000 14 e98 = true := by kernel_rfl
def e99 : Ab.Entry := ⟨88111, [(wA 20421 0), (.agg #[(wI 1), (wI 0), (wI 0), (wI 0), (wI 0), (wU 0), (wS [])])], [(0, Ckb0), (20202, Ckb83), (20204, Ckb50), (20250, Ckb136), (20418, Ckb87), (20421, Ckb76), (20432, Ckb101), (20439, Ckb70), (20441, Ckb59), (20980, Ckb90), (88086, Ckb95)], (.slice none 0 0), 89382, []⟩
theorem e99_ok : Ab.partB (Ab.envS Tryz.prog 259 395) 3000 14 e99 = true := by kernel_rfl
def e100 : Ab.Entry := ⟨89385, [(wA 20421 0), (.agg #[(wI 4), (wI 0), (wI 0), (wI 0), (wI 0), (wU 0), (wS [])])], [(20250, Ckb136), (20421, Ckb76), (88086, Ckb95)], (.slice none 0 0), 89522, [(20250, some Ckb137), (89505, some Ckb98)]⟩
theorem e100_ok : Ab.partB (Ab.envS Tryz.prog 259 395) 3000 14 e100 = true := by kernel_rfl
def e101 : Ab.Entry := ⟨89530, [(wA 20421 0), (.agg #[(wI 1), (wI 0), (wI 0), (wI 0), (wI 0), (wU 0), (wS [])])], [(0, Ckb0), (20202, Ckb83), (20204, Ckb50), (20250, Ckb137), (20418, Ckb87), (20421, Ckb76), (43584, Ckb121), (43611, Ckb93), (43613, Ckb94), (47315, Ckb90), (89505, Ckb98)], (.slice none 0 0), 90801, []⟩
theorem e101_ok : Ab.partB (Ab.envS Tryz.prog 259 395) 3000 14 e101 = true := by kernel_rfl
def e102 : Ab.Entry := ⟨90804, [(wA 20421 0), (.agg #[(wI 4), (wI 0), (wI 0), (wI 0), (wI 0), (wU 0), (wS [])])], [(20250, Ckb137), (20421, Ckb76), (89505, Ckb98)], (.slice none 0 0), 90941, [(20250, some Ckb138), (90924, some Ckb95)]⟩
theorem e102_ok : Ab.partB (Ab.envS Tryz.prog 259 395) 3000 14 e102 = true := by kernel_rfl
def e103 : Ab.Entry := ⟨90949, [(wA 20421 0), (.agg #[(wI 1), (wI 0), (wI 0), (wI 0), (wI 0), (wU 0), (wS [])])], [(0, Ckb0), (20202, Ckb83), (20204, Ckb50), (20250, Ckb138), (20418, Ckb87), (20421, Ckb76), (20432, Ckb101), (20439, Ckb70), (20441, Ckb59), (20980, Ckb90), (90924, Ckb95)], (.slice none 0 0), 92220, []⟩
theorem e103_ok : Ab.partB (Ab.envS Tryz.prog 259 395) 3000 14 e103 = true := by kernel_rfl
def e104 : Ab.Entry := ⟨92223, [(wA 20421 0), (.agg #[(wI 4), (wI 0), (wI 0), (wI 0), (wI 0), (wU 0), (wS [])])], [(20250, Ckb138), (20421, Ckb76), (90924, Ckb95)], (.slice none 0 0), 92360, [(20250, some Ckb139), (92343, some Ckb98)]⟩
theorem e104_ok : Ab.partB (Ab.envS Tryz.prog 259 395) 3000 14 e104 = true := by kernel_rfl
def e105 : Ab.Entry := ⟨92368, [(wA 20421 0), (.agg #[(wI 1), (wI 0), (wI 0), (wI 0), (wI 0), (wU 0), (wS [])])], [(0, Ckb0), (20202, Ckb83), (20204, Ckb50), (20250, Ckb139), (20418, Ckb87), (20421, Ckb76), (43584, Ckb121), (43611, Ckb93), (43613, Ckb94), (47315, Ckb90), (92343, Ckb98)], (.slice none 0 0), 93639, []⟩
theorem e105_ok : Ab.partB (Ab.envS Tryz.prog 259 395) 3000 14 e105 = true := by kernel_rfl
def e106 : Ab.Entry := ⟨93642, [(wA 20421 0), (.agg #[(wI 4), (wI 0), (wI 0), (wI 0), (wI 0), (wU 0), (wS [])])], [(20250, Ckb139), (20421, Ckb76), (92343, Ckb98)], (.slice none 0 0), 93779, [(20250, some Ckb140), (93762, some Ckb95)]⟩
theorem e106_ok : Ab.partB (Ab.envS Tryz.prog 259 395) 3000 14 e106 = true := by kernel_rfl
def e107 : Ab.Entry := ⟨93787, [(wA 20421 0), (.agg #[(wI 1), (wI 0), (wI 0), (wI 0), (wI 0), (wU 0), (wS [])])], [(0, Ckb0), (20202, Ckb83), (20204, Ckb50), (20250, Ckb140), (20418, Ckb87), (20421, Ckb76), (20432, Ckb101), (20439, Ckb70), (20441, Ckb59), (20980, Ckb90), (93762, Ckb95)], (.slice none 0 0), 95058, []⟩
theorem e107_ok : Ab.partB (Ab.envS Tryz.prog 259 395) 3000 14 e107 = true := by kernel_rfl
def e108 : Ab.Entry := ⟨95061, [(wA 20421 0), (.agg #[(wI 4), (wI 0), (wI 0), (wI 0), (wI 0), (wU 0), (wS [])])], [(20250, Ckb140), (20421, Ckb76), (93762, Ckb95)], (.slice none 0 0), 95198, [(20250, some Ckb141), (95181, some Ckb98)]⟩
theorem e108_ok : Ab.partB (Ab.envS Tryz.prog 259 395) 3000 14 e108 = true := by kernel_rfl
def e109 : Ab.Entry := ⟨95206, [(wA 20421 0), (.agg #[(wI 1), (wI 0), (wI 0), (wI 0), (wI 0), (wU 0), (wS [])])], [(0, Ckb0), (20202, Ckb83), (20204, Ckb50), (20250, Ckb141), (20418, Ckb87), (20421, Ckb76), (43584, Ckb121), (43611, Ckb93), (43613, Ckb94), (47315, Ckb90), (95181, Ckb98)], (.slice none 0 0), 96477, []⟩
theorem e109_ok : Ab.partB (Ab.envS Tryz.prog 259 395) 3000 14 e109 = true := by kernel_rfl
def e110 : Ab.Entry := ⟨96480, [(wA 20421 0), (.agg #[(wI 4), (wI 0), (wI 0), (wI 0), (wI 0), (wU 0), (wS [])])], [(20250, Ckb141), (20421, Ckb76), (95181, Ckb98)], (.slice none 0 0), 96617, [(20250, some Ckb142), (96600, some Ckb95)]⟩
theorem e110_ok : Ab.partB (Ab.envS Tryz.prog 259 395) 3000 14 e110 = true := by kernel_rfl
def e111 : Ab.Entry := ⟨96625, [(wA 20421 0), (.agg #[(wI 1), (wI 0), (wI 0), (wI 0), (wI 0), (wU 0), (wS [])])], [(0, Ckb0), (20202, Ckb83), (20204, Ckb50), (20250, Ckb142), (20418, Ckb87), (20421, Ckb76), (20432, Ckb101), (20439, Ckb70), (20441, Ckb59), (20980, Ckb90), (96600, Ckb95)], (.slice none 0 0), 97896, []⟩
theorem e111_ok : Ab.partB (Ab.envS Tryz.prog 259 395) 3000 14 e111 = true := by kernel_rfl
def e112 : Ab.Entry := ⟨97899, [(wA 20421 0), (.agg #[(wI 4), (wI 0), (wI 0), (wI 0), (wI 0), (wU 0), (wS [])])], [(20250, Ckb142), (20421, Ckb76), (96600, Ckb95)], (.slice none 0 0), 98036, [(20250, some Ckb143), (98019, some Ckb98)]⟩
theorem e112_ok : Ab.partB (Ab.envS Tryz.prog 259 395) 3000 14 e112 = true := by kernel_rfl
def e113 : Ab.Entry := ⟨98044, [(wA 20421 0), (.agg #[(wI 1), (wI 0), (wI 0), (wI 0), (wI 0), (wU 0), (wS [])])], [(0, Ckb0), (20202, Ckb83), (20204, Ckb50), (20250, Ckb143), (20418, Ckb87), (20421, Ckb76), (43584, Ckb121), (43611, Ckb93), (43613, Ckb94), (47315, Ckb90), (98019, Ckb98)], (.slice none 0 0), 99315, []⟩
theorem e113_ok : Ab.partB (Ab.envS Tryz.prog 259 395) 3000 14 e113 = true := by kernel_rfl
def e114 : Ab.Entry := ⟨99318, [(wA 20421 0), (.agg #[(wI 4), (wI 0), (wI 0), (wI 0), (wI 0), (wU 0), (wS [])])], [(20250, Ckb143), (20421, Ckb76), (98019, Ckb98)], (.slice none 0 0), 99455, [(20250, some Ckb144), (99438, some Ckb95)]⟩
theorem e114_ok : Ab.partB (Ab.envS Tryz.prog 259 395) 3000 14 e114 = true := by kernel_rfl
def e115 : Ab.Entry := ⟨99463, [(wA 20421 0), (.agg #[(wI 1), (wI 0), (wI 0), (wI 0), (wI 0), (wU 0), (wS [])])], [(0, Ckb0), (20202, Ckb83), (20204, Ckb50), (20250, Ckb144), (20418, Ckb87), (20421, Ckb76), (20432, Ckb101), (20439, Ckb70), (20441, Ckb59), (20980, Ckb90), (99438, Ckb95)], (.slice none 0 0), 100734, []⟩
theorem e115_ok : Ab.partB (Ab.envS Tryz.prog 259 395) 3000 14 e115 = true := by kernel_rfl
def e116 : Ab.Entry := ⟨100737, [(wA 20421 0), (.agg #[(wI 4), (wI 0), (wI 0), (wI 0), (wI 0), (wU 0), (wS [])])], [(20250, Ckb144), (20421, Ckb76), (99438, Ckb95)], (.slice none 0 0), 100874, [(20250, some Ckb145), (100857, some Ckb98)]⟩
theorem e116_ok : Ab.partB (Ab.envS Tryz.prog 259 395) 3000 14 e116 = true := by kernel_rfl
def e117 : Ab.Entry := ⟨100882, [(wA 20421 0), (.agg #[(wI 1), (wI 0), (wI 0), (wI 0), (wI 0), (wU 0), (wS [])])], [(0, Ckb0), (20202, Ckb83), (20204, Ckb50), (20250, Ckb145), (20418, Ckb87), (20421, Ckb76), (43584, Ckb121), (43611, Ckb93), (43613, Ckb94), (47315, Ckb90), (100857, Ckb98)], (.slice none 0 0), 102153, []⟩
theorem e117_ok : Ab.partB (Ab.envS Tryz.prog 259 395) 3000 14 e117 = true := by kernel_rfl
def e118 : Ab.Entry := ⟨102156, [(wA 20421 0), (.agg #[(wI 4), (wI 0), (wI 0), (wI 0), (wI 0), (wU 0), (wS [])])], [(20250, Ckb145), (20421, Ckb76), (100857, Ckb98)], (.slice none 0 0), 102293, [(20250, some Ckb146), (102276, some Ckb95)]⟩
theorem e118_ok : Ab.partB (Ab.envS Tryz.prog 259 395) 3000 14 e118 = true := by kernel_rfl
def e119 : Ab.Entry := ⟨102301, [(wA 20421 0), (.agg #[(wI 1), (wI 0), (wI 0), (wI 0), (wI 0), (wU 0), (wS [])])], [(0, Ckb0), (20202, Ckb83), (20204, Ckb50), (20250, Ckb146), (20418, Ckb87), (20421, Ckb76), (20432, Ckb101), (20439, Ckb70), (20441, Ckb59), (20980, Ckb90), (102276, Ckb95)], (.slice none 0 0), 103572, []⟩
theorem e119_ok : Ab.partB (Ab.envS Tryz.prog 259 395) 3000 14 e119 = true := by kernel_rfl
def e120 : Ab.Entry := ⟨103575, [(wA 20421 0), (.agg #[(wI 4), (wI 0), (wI 0), (wI 0), (wI 0), (wU 0), (wS [])])], [(20250, Ckb146), (20421, Ckb76), (102276, Ckb95)], (.slice none 0 0), 103712, [(20250, some Ckb147), (103695, some Ckb98)]⟩
theorem e120_ok : Ab.partB (Ab.envS Tryz.prog 259 395) 3000 14 e120 = true := by kernel_rfl
def e121 : Ab.Entry := ⟨103720, [(wA 20421 0), (.agg #[(wI 1), (wI 0), (wI 0), (wI 0), (wI 0), (wU 0), (wS [])])], [(0, Ckb0), (20202, Ckb83), (20204, Ckb50), (20250, Ckb147), (20418, Ckb87), (20421, Ckb76), (43584, Ckb121), (43611, Ckb93), (43613, Ckb94), (47315, Ckb90), (103695, Ckb98)], (.slice none 0 0), 104991, []⟩
theorem e121_ok : Ab.partB (Ab.envS Tryz.prog 259 395) 3000 14 e121 = true := by kernel_rfl
def e122 : Ab.Entry := ⟨104994, [(wA 20421 0), (.agg #[(wI 4), (wI 0), (wI 0), (wI 0), (wI 0), (wU 0), (wS [])])], [(20250, Ckb147), (20421, Ckb76), (103695, Ckb98)], (.slice none 0 0), 105131, [(20250, some Ckb148), (105114, some Ckb95)]⟩
theorem e122_ok : Ab.partB (Ab.envS Tryz.prog 259 395) 3000 14 e122 = true := by kernel_rfl
def e123 : Ab.Entry := ⟨105139, [(wA 20421 0), (.agg #[(wI 1), (wI 0), (wI 0), (wI 0), (wI 0), (wU 0), (wS [])])], [(0, Ckb0), (20202, Ckb83), (20204, Ckb50), (20250, Ckb148), (20418, Ckb87), (20421, Ckb76), (20432, Ckb101), (20439, Ckb70), (20441, Ckb59), (20980, Ckb90), (105114, Ckb95)], (.slice none 0 0), 106410, []⟩
theorem e123_ok : Ab.partB (Ab.envS Tryz.prog 259 395) 3000 14 e123 = true := by kernel_rfl
def e124 : Ab.Entry := ⟨106413, [(wA 20421 0), (.agg #[(wI 4), (wI 0), (wI 0), (wI 0), (wI 0), (wU 0), (wS [])])], [(20250, Ckb148), (20421, Ckb76), (105114, Ckb95)], (.slice none 0 0), 106550, [(20250, some Ckb149), (106533, some Ckb98)]⟩
theorem e124_ok : Ab.partB (Ab.envS Tryz.prog 259 395) 3000 14 e124 = true := by kernel_rfl
def e125 : Ab.Entry := ⟨106558, [(wA 20421 0), (.agg #[(wI 1), (wI 0), (wI 0), (wI 0), (wI 0), (wU 0), (wS [])])], [(0, Ckb0), (20202, Ckb83), (20204, Ckb50), (20250, Ckb149), (20418, Ckb87), (20421, Ckb76), (43584, Ckb121), (43611, Ckb93), (43613, Ckb94), (47315, Ckb90), (106533, Ckb98)], (.slice none 0 0), 107829, []⟩
theorem e125_ok : Ab.partB (Ab.envS Tryz.prog 259 395) 3000 14 e125 = true := by kernel_rfl
def e126 : Ab.Entry := ⟨107832, [(wA 20421 0), (.agg #[(wI 4), (wI 0), (wI 0), (wI 0), (wI 0), (wU 0), (wS [])])], [(20250, Ckb149), (20421, Ckb76), (106533, Ckb98)], (.slice none 0 0), 107969, [(20250, some Ckb150), (107952, some Ckb95)]⟩
theorem e126_ok : Ab.partB (Ab.envS Tryz.prog 259 395) 3000 14 e126 = true := by kernel_rfl
def e127 : Ab.Entry := ⟨107977, [(wA 20421 0), (.agg #[(wI 1), (wI 0), (wI 0), (wI 0), (wI 0), (wU 0), (wS [])])], [(0, Ckb0), (20202, Ckb83), (20204, Ckb50), (20250, Ckb150), (20418, Ckb87), (20421, Ckb76), (20432, Ckb101), (20439, Ckb70), (20441, Ckb59), (20980, Ckb90), (107952, Ckb95)], (.slice none 0 0), 109248, []⟩
theorem e127_ok : Ab.partB (Ab.envS Tryz.prog 259 395) 3000 14 e127 = true := by kernel_rfl
def e128 : Ab.Entry := ⟨109251, [(wA 20421 0), (.agg #[(wI 4), (wI 0), (wI 0), (wI 0), (wI 0), (wU 0), (wS [])])], [(20250, Ckb150), (20421, Ckb76), (107952, Ckb95)], (.slice none 0 0), 109388, [(20250, some Ckb151), (109371, some Ckb98)]⟩
theorem e128_ok : Ab.partB (Ab.envS Tryz.prog 259 395) 3000 14 e128 = true := by kernel_rfl
def e129 : Ab.Entry := ⟨109396, [(wA 20421 0), (.agg #[(wI 1), (wI 0), (wI 0), (wI 0), (wI 0), (wU 0), (wS [])])], [(0, Ckb0), (20202, Ckb83), (20204, Ckb50), (20250, Ckb151), (20418, Ckb87), (20421, Ckb76), (43584, Ckb121), (43611, Ckb93), (43613, Ckb94), (47315, Ckb90), (109371, Ckb98)], (.slice none 0 0), 110667, []⟩
theorem e129_ok : Ab.partB (Ab.envS Tryz.prog 259 395) 3000 14 e129 = true := by kernel_rfl
def e130 : Ab.Entry := ⟨110670, [(wA 20421 0), (.agg #[(wI 4), (wI 0), (wI 0), (wI 0), (wI 0), (wU 0), (wS [])])], [(20250, Ckb151), (20421, Ckb76), (109371, Ckb98)], (.slice none 0 0), 110807, [(20250, some Ckb152), (110790, some Ckb95)]⟩
theorem e130_ok : Ab.partB (Ab.envS Tryz.prog 259 395) 3000 14 e130 = true := by kernel_rfl
def e131 : Ab.Entry := ⟨110815, [(wA 20421 0), (.agg #[(wI 1), (wI 0), (wI 0), (wI 0), (wI 0), (wU 0), (wS [])])], [(0, Ckb0), (20202, Ckb83), (20204, Ckb50), (20250, Ckb152), (20418, Ckb87), (20421, Ckb76), (20432, Ckb101), (20439, Ckb70), (20441, Ckb59), (20980, Ckb90), (110790, Ckb95)], (.slice none 0 0), 112086, []⟩
theorem e131_ok : Ab.partB (Ab.envS Tryz.prog 259 395) 3000 14 e131 = true := by kernel_rfl
def e132 : Ab.Entry := ⟨112089, [(wA 20421 0), (.agg #[(wI 4), (wI 0), (wI 0), (wI 0), (wI 0), (wU 0), (wS [])])], [(20250, Ckb152), (20421, Ckb76), (110790, Ckb95)], (.slice none 0 0), 112226, [(20250, some Ckb153), (112209, some Ckb98)]⟩
theorem e132_ok : Ab.partB (Ab.envS Tryz.prog 259 395) 3000 14 e132 = true := by kernel_rfl
def e133 : Ab.Entry := ⟨112234, [(wA 20421 0), (.agg #[(wI 1), (wI 0), (wI 0), (wI 0), (wI 0), (wU 0), (wS [])])], [(0, Ckb0), (20202, Ckb83), (20204, Ckb50), (20250, Ckb153), (20418, Ckb87), (20421, Ckb76), (43584, Ckb121), (43611, Ckb93), (43613, Ckb94), (47315, Ckb90), (112209, Ckb98)], (.slice none 0 0), 113505, []⟩
theorem e133_ok : Ab.partB (Ab.envS Tryz.prog 259 395) 3000 14 e133 = true := by kernel_rfl
def e134 : Ab.Entry := ⟨113508, [(wA 20421 0), (.agg #[(wI 4), (wI 0), (wI 0), (wI 0), (wI 0), (wU 0), (wS [])])], [(20250, Ckb153), (20421, Ckb76), (112209, Ckb98)], (.slice none 0 0), 113645, [(20250, some Ckb154), (113628, some Ckb95)]⟩
theorem e134_ok : Ab.partB (Ab.envS Tryz.prog 259 395) 3000 14 e134 = true := by kernel_rfl
def e135 : Ab.Entry := ⟨113653, [(wA 20421 0), (.agg #[(wI 1), (wI 0), (wI 0), (wI 0), (wI 0), (wU 0), (wS [])])], [(0, Ckb0), (20202, Ckb83), (20204, Ckb50), (20250, Ckb154), (20418, Ckb87), (20421, Ckb76), (20432, Ckb101), (20439, Ckb70), (20441, Ckb59), (20980, Ckb90), (113628, Ckb95)], (.slice none 0 0), 114924, []⟩
theorem e135_ok : Ab.partB (Ab.envS Tryz.prog 259 395) 3000 14 e135 = true := by kernel_rfl
def e136 : Ab.Entry := ⟨114927, [(wA 20421 0), (.agg #[(wI 4), (wI 0), (wI 0), (wI 0), (wI 0), (wU 0), (wS [])])], [(20250, Ckb154), (20421, Ckb76), (113628, Ckb95)], (.slice none 0 0), 115064, [(20250, some Ckb155), (115047, some Ckb98)]⟩
theorem e136_ok : Ab.partB (Ab.envS Tryz.prog 259 395) 3000 14 e136 = true := by kernel_rfl
def e137 : Ab.Entry := ⟨115072, [(wA 20421 0), (.agg #[(wI 1), (wI 0), (wI 0), (wI 0), (wI 0), (wU 0), (wS [])])], [(0, Ckb0), (20202, Ckb83), (20204, Ckb50), (20250, Ckb155), (20418, Ckb87), (20421, Ckb76), (43584, Ckb121), (43611, Ckb93), (43613, Ckb94), (47315, Ckb90), (115047, Ckb98)], (.slice none 0 0), 116343, []⟩
theorem e137_ok : Ab.partB (Ab.envS Tryz.prog 259 395) 3000 14 e137 = true := by kernel_rfl
def e138 : Ab.Entry := ⟨116346, [(wA 20421 0), (.agg #[(wI 4), (wI 0), (wI 0), (wI 0), (wI 0), (wU 0), (wS [])])], [(20250, Ckb155), (20421, Ckb76), (115047, Ckb98)], (.slice none 0 0), 116483, [(20250, some Ckb156), (116466, some Ckb95)]⟩
theorem e138_ok : Ab.partB (Ab.envS Tryz.prog 259 395) 3000 14 e138 = true := by kernel_rfl
def e139 : Ab.Entry := ⟨116491, [(wA 20421 0), (.agg #[(wI 1), (wI 0), (wI 0), (wI 0), (wI 0), (wU 0), (wS [])])], [(0, Ckb0), (20202, Ckb83), (20204, Ckb50), (20250, Ckb156), (20418, Ckb87), (20421, Ckb76), (20432, Ckb101), (20439, Ckb70), (20441, Ckb59), (20980, Ckb90), (116466, Ckb95)], (.slice none 0 0), 117762, []⟩
theorem e139_ok : Ab.partB (Ab.envS Tryz.prog 259 395) 3000 14 e139 = true := by kernel_rfl
def e140 : Ab.Entry := ⟨117765, [(wA 20421 0), (.agg #[(wI 4), (wI 0), (wI 0), (wI 0), (wI 0), (wU 0), (wS [])])], [(20250, Ckb156), (20421, Ckb76), (116466, Ckb95)], (.slice none 0 0), 117902, [(20250, some Ckb157), (117885, some Ckb98)]⟩
theorem e140_ok : Ab.partB (Ab.envS Tryz.prog 259 395) 3000 14 e140 = true := by kernel_rfl
def e141 : Ab.Entry := ⟨117910, [(wA 20421 0), (.agg #[(wI 1), (wI 0), (wI 0), (wI 0), (wI 0), (wU 0), (wS [])])], [(0, Ckb0), (20202, Ckb83), (20204, Ckb50), (20250, Ckb157), (20418, Ckb87), (20421, Ckb76), (43584, Ckb121), (43611, Ckb93), (43613, Ckb94), (47315, Ckb90), (117885, Ckb98)], (.slice none 0 0), 119181, []⟩
theorem e141_ok : Ab.partB (Ab.envS Tryz.prog 259 395) 3000 14 e141 = true := by kernel_rfl
def e142 : Ab.Entry := ⟨119184, [(wA 20421 0), (.agg #[(wI 4), (wI 0), (wI 0), (wI 0), (wI 0), (wU 0), (wS [])])], [(20250, Ckb157), (20421, Ckb76), (117885, Ckb98)], (.slice none 0 0), 119321, [(20250, some Ckb158), (119304, some Ckb95)]⟩
theorem e142_ok : Ab.partB (Ab.envS Tryz.prog 259 395) 3000 14 e142 = true := by kernel_rfl
def e143 : Ab.Entry := ⟨119329, [(wA 20421 0), (.agg #[(wI 1), (wI 0), (wI 0), (wI 0), (wI 0), (wU 0), (wS [])])], [(0, Ckb0), (20202, Ckb83), (20204, Ckb50), (20250, Ckb158), (20418, Ckb87), (20421, Ckb76), (20432, Ckb101), (20439, Ckb70), (20441, Ckb59), (20980, Ckb90), (119304, Ckb95)], (.slice none 0 0), 120600, []⟩
theorem e143_ok : Ab.partB (Ab.envS Tryz.prog 259 395) 3000 14 e143 = true := by kernel_rfl
def e144 : Ab.Entry := ⟨120603, [(wA 20421 0), (.agg #[(wI 4), (wI 0), (wI 0), (wI 0), (wI 0), (wU 0), (wS [])])], [(20250, Ckb158), (20421, Ckb76), (119304, Ckb95)], (.slice none 0 0), 120740, [(20250, some Ckb159), (120723, some Ckb98)]⟩
theorem e144_ok : Ab.partB (Ab.envS Tryz.prog 259 395) 3000 14 e144 = true := by kernel_rfl
def l2_14 : List Ab.Entry := [e73, e74, e75, e76, e77, e78, e79, e80, e81, e82, e83, e84, e85, e86, e87, e88, e89, e90, e91, e92, e93, e94, e95, e96, e97, e98, e99, e100, e101, e102, e103, e104, e105, e106, e107, e108, e109, e110, e111, e112, e113, e114, e115, e116, e117, e118, e119, e120, e121, e122, e123, e124, e125, e126, e127, e128, e129, e130, e131, e132, e133, e134, e135, e136, e137, e138, e139, e140, e141, e142, e143, e144]
theorem l2_14_ok : ∀ e ∈ l2_14, Ab.EntryOk Ab.Sig.none Tryz.prog 14 e := List.forall_mem_cons.2 ⟨Ab.partB_ok E_sure e73_ok, List.forall_mem_cons.2 ⟨Ab.partB_ok E_sure e74_ok, List.forall_mem_cons.2 ⟨Ab.partB_ok E_sure e75_ok, List.forall_mem_cons.2 ⟨Ab.partB_ok E_sure e76_ok, List.forall_mem_cons.2 ⟨Ab.partB_ok E_sure e77_ok, List.forall_mem_cons.2 ⟨Ab.partB_ok E_sure e78_ok, List.forall_mem_cons.2 ⟨Ab.partB_ok E_sure e79_ok, List.forall_mem_cons.2 ⟨Ab.partB_ok E_sure e80_ok, List.forall_mem_cons.2 ⟨Ab.partB_ok E_sure e81_ok, List.forall_mem_cons.2 ⟨Ab.partB_ok E_sure e82_ok, List.forall_mem_cons.2 ⟨Ab.partB_ok E_sure e83_ok, List.forall_mem_cons.2 ⟨Ab.partB_ok E_sure e84_ok, List.forall_mem_cons.2 ⟨Ab.partB_ok E_sure e85_ok, List.forall_mem_cons.2 ⟨Ab.partB_ok E_sure e86_ok, List.forall_mem_cons.2 ⟨Ab.partB_ok E_sure e87_ok, List.forall_mem_cons.2 ⟨Ab.partB_ok E_sure e88_ok, List.forall_mem_cons.2 ⟨Ab.partB_ok E_sure e89_ok, List.forall_mem_cons.2 ⟨Ab.partB_ok E_sure e90_ok, List.forall_mem_cons.2 ⟨Ab.partB_ok E_sure e91_ok, List.forall_mem_cons.2 ⟨Ab.partB_ok E_sure e92_ok, List.forall_mem_cons.2 ⟨Ab.partB_ok E_sure e93_ok, List.forall_mem_cons.2 ⟨Ab.partB_ok E_sure e94_ok, List.forall_mem_cons.2 ⟨Ab.partB_ok E_sure e95_ok, List.forall_mem_cons.2 ⟨Ab.partB_ok E_sure e96_ok, List.forall_mem_cons.2 ⟨Ab.partB_ok E_sure e97_ok, List.forall_mem_cons.2 ⟨Ab.partB_ok E_sure e98_ok, List.forall_mem_cons.2 ⟨Ab.partB_ok E_sure e99_ok, List.forall_mem_cons.2 ⟨Ab.partB_ok E_sure e100_ok, List.forall_mem_cons.2 ⟨Ab.partB_ok E_sure e101_ok, List.forall_mem_cons.2 ⟨Ab.partB_ok E_sure e102_ok, List.forall_mem_cons.2 ⟨Ab.partB_ok E_sure e103_ok, List.forall_mem_cons.2 ⟨Ab.partB_ok E_sure e104_ok, List.forall_mem_cons.2 ⟨Ab.partB_ok E_sure e105_ok, List.forall_mem_cons.2 ⟨Ab.partB_ok E_sure e106_ok, List.forall_mem_cons.2 ⟨Ab.partB_ok E_sure e107_ok, List.forall_mem_cons.2 ⟨Ab.partB_ok E_sure e108_ok, List.forall_mem_cons.2 ⟨Ab.partB_ok E_sure e109_ok, List.forall_mem_cons.2 ⟨Ab.partB_ok E_sure e110_ok, List.forall_mem_cons.2 ⟨Ab.partB_ok E_sure e111_ok, List.forall_mem_cons.2 ⟨Ab.partB_ok E_sure e112_ok, List.forall_mem_cons.2 ⟨Ab.partB_ok E_sure e113_ok, List.forall_mem_cons.2 ⟨Ab.partB_ok E_sure e114_ok, List.forall_mem_cons.2 ⟨Ab.partB_ok E_sure e115_ok, List.forall_mem_cons.2 ⟨Ab.partB_ok E_sure e116_ok, List.forall_mem_cons.2 ⟨Ab.partB_ok E_sure e117_ok, List.forall_mem_cons.2 ⟨Ab.partB_ok E_sure e118_ok, List.forall_mem_cons.2 ⟨Ab.partB_ok E_sure e119_ok, List.forall_mem_cons.2 ⟨Ab.partB_ok E_sure e120_ok, List.forall_mem_cons.2 ⟨Ab.partB_ok E_sure e121_ok, List.forall_mem_cons.2 ⟨Ab.partB_ok E_sure e122_ok, List.forall_mem_cons.2 ⟨Ab.partB_ok E_sure e123_ok, List.forall_mem_cons.2 ⟨Ab.partB_ok E_sure e124_ok, List.forall_mem_cons.2 ⟨Ab.partB_ok E_sure e125_ok, List.forall_mem_cons.2 ⟨Ab.partB_ok E_sure e126_ok, List.forall_mem_cons.2 ⟨Ab.partB_ok E_sure e127_ok, List.forall_mem_cons.2 ⟨Ab.partB_ok E_sure e128_ok, List.forall_mem_cons.2 ⟨Ab.partB_ok E_sure e129_ok, List.forall_mem_cons.2 ⟨Ab.partB_ok E_sure e130_ok, List.forall_mem_cons.2 ⟨Ab.partB_ok E_sure e131_ok, List.forall_mem_cons.2 ⟨Ab.partB_ok E_sure e132_ok, List.forall_mem_cons.2 ⟨Ab.partB_ok E_sure e133_ok, List.forall_mem_cons.2 ⟨Ab.partB_ok E_sure e134_ok, List.forall_mem_cons.2 ⟨Ab.partB_ok E_sure e135_ok, List.forall_mem_cons.2 ⟨Ab.partB_ok E_sure e136_ok, List.forall_mem_cons.2 ⟨Ab.partB_ok E_sure e137_ok, List.forall_mem_cons.2 ⟨Ab.partB_ok E_sure e138_ok, List.forall_mem_cons.2 ⟨Ab.partB_ok E_sure e139_ok, List.forall_mem_cons.2 ⟨Ab.partB_ok E_sure e140_ok, List.forall_mem_cons.2 ⟨Ab.partB_ok E_sure e141_ok, List.forall_mem_cons.2 ⟨Ab.partB_ok E_sure e142_ok, List.forall_mem_cons.2 ⟨Ab.partB_ok E_sure e143_ok, List.forall_mem_cons.2 ⟨Ab.partB_ok E_sure e144_ok, fun _ h => (by cases h)⟩⟩⟩⟩⟩⟩⟩⟩⟩⟩⟩⟩⟩⟩⟩⟩⟩⟩⟩⟩⟩⟩⟩⟩⟩⟩⟩⟩⟩⟩⟩⟩⟩⟩⟩⟩⟩⟩⟩⟩⟩⟩⟩⟩⟩⟩⟩⟩⟩⟩⟩⟩⟩⟩⟩⟩⟩⟩⟩⟩⟩⟩⟩⟩⟩⟩⟩⟩⟩⟩⟩⟩
def tab_0_12 : List Ab.Entry := l1_12
theorem tab_0_12_ok : ∀ e ∈ tab_0_12, Ab.EntryOk Ab.Sig.none Tryz.prog 12 e := fun e => fun h => l1_12_ok e h
def tab_0_13 : List Ab.Entry := l1_13
theorem tab_0_13_ok : ∀ e ∈ tab_0_13, Ab.EntryOk Ab.Sig.none Tryz.prog 13 e := fun e => fun h => l1_13_ok e h
def tab_0_14 : List Ab.Entry := l1_14 ++ l2_14
theorem tab_0_14_ok : ∀ e ∈ tab_0_14, Ab.EntryOk Ab.Sig.none Tryz.prog 14 e := fun e => fun h => (List.mem_append.1 h).elim (fun h => l1_14_ok e h) (fun h => l2_14_ok e h)
def full_0 : Ab.Env := (Ab.withTab (Ab.withTab (Ab.withTab (Ab.envS Tryz.prog 259 395) 12 tab_0_12) 13 tab_0_13) 14 tab_0_14)
theorem full_0_sure : Ab.Sure Ab.Sig.none full_0 := (Ab.withTab_sure (Ab.withTab_sure (Ab.withTab_sure E_sure rfl tab_0_12_ok) rfl tab_0_13_ok) rfl tab_0_14_ok)
end
end Go.Proofs.YtcgiemeedpjpiaaGreatDoor.ckptNames
