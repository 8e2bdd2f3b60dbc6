/- MigrateNames: calls, each by a run of its own. -/
import Derived.Test.YtijnhaadhgoloaaGreatDoorMgB
import Derived.Test.YtijnhaadhgoloaaGreatDoorMgE
namespace Go.Proofs.YtijnhaadhgoloaaGreatDoor.migrateNames
open Go.Ab
set_option linter.unusedVariables false
noncomputable section
def e54 : Ab.Entry := ⟨47827, [(wA 12991 0), (.agg #[(wI 4), (wI 0), (wI 0), (wI 0), (wI 0), (wU 0), (wS [])])], [(12820, Mgb90), (12991, Mgb38), (46500, Mgb60)], (.slice none 0 0), 47964, [(12820, some Mgb92), (47947, some Mgb57)]⟩
theorem e54_ok : Ab.partB (Ab.envS Tryz.prog 227 374) 3000 16 e54 = true := by kernel_rfl
def e55 : Ab.Entry := ⟨47972, [(wA 12991 0), (.agg #[(wI 1), (wI 0), (wI 0), (wI 0), (wI 0), (wU 0), (wS [])])], [(0, Mgb0), (12772, Mgb78), (12774, Mgb33), (12820, Mgb92), (12988, Mgb51), (12991, Mgb38), (13002, Mgb63), (13009, Mgb41), (13011, Mgb42), (13497, Mgb53), (47947, Mgb57)], (.slice none 0 0), 49243, []⟩
theorem e55_ok : Ab.partB (Ab.envS Tryz.prog 227 374) 3000 16 e55 = true := by kernel_rfl
def e56 : Ab.Entry := ⟨49246, [(wA 12991 0), (.agg #[(wI 4), (wI 0), (wI 0), (wI 0), (wI 0), (wU 0), (wS [])])], [(12820, Mgb92), (12991, Mgb38), (47947, Mgb57)], (.slice none 0 0), 49383, [(12820, some Mgb93), (49366, some Mgb60)]⟩
theorem e56_ok : Ab.partB (Ab.envS Tryz.prog 227 374) 3000 16 e56 = true := by kernel_rfl
def e57 : Ab.Entry := ⟨49391, [(wA 12991 0), (.agg #[(wI 1), (wI 0), (wI 0), (wI 0), (wI 0), (wU 0), (wS [])])], [(0, Mgb0), (12772, Mgb78), (12774, Mgb33), (12820, Mgb93), (12988, Mgb51), (12991, Mgb38), (17790, Mgb91), (17817, Mgb80), (17819, Mgb56), (21347, Mgb53), (49366, Mgb60)], (.slice none 0 0), 50662, [(17790, some Mgb94)]⟩
theorem e57_ok : Ab.partB (Ab.envS Tryz.prog 227 374) 3000 16 e57 = true := by kernel_rfl
def e58 : Ab.Entry := ⟨50665, [(wA 12991 0), (.agg #[(wI 4), (wI 0), (wI 0), (wI 0), (wI 0), (wU 0), (wS [])])], [(12820, Mgb93), (12991, Mgb38), (49366, Mgb60)], (.slice none 0 0), 50802, [(12820, some Mgb95), (50785, some Mgb57)]⟩
theorem e58_ok : Ab.partB (Ab.envS Tryz.prog 227 374) 3000 16 e58 = true := by kernel_rfl
def e59 : Ab.Entry := ⟨50810, [(wA 12991 0), (.agg #[(wI 1), (wI 0), (wI 0), (wI 0), (wI 0), (wU 0), (wS [])])], [(0, Mgb0), (12772, Mgb78), (12774, Mgb33), (12820, Mgb95), (12988, Mgb51), (12991, Mgb38), (13002, Mgb63), (13009, Mgb41), (13011, Mgb42), (13497, Mgb53), (50785, Mgb57)], (.slice none 0 0), 52081, []⟩
theorem e59_ok : Ab.partB (Ab.envS Tryz.prog 227 374) 3000 16 e59 = true := by kernel_rfl
def e60 : Ab.Entry := ⟨52084, [(wA 12991 0), (.agg #[(wI 4), (wI 0), (wI 0), (wI 0), (wI 0), (wU 0), (wS [])])], [(12820, Mgb95), (12991, Mgb38), (50785, Mgb57)], (.slice none 0 0), 52221, [(12820, some Mgb96), (52204, some Mgb60)]⟩
theorem e60_ok : Ab.partB (Ab.envS Tryz.prog 227 374) 3000 16 e60 = true := by kernel_rfl
def e61 : Ab.Entry := ⟨52229, [(wA 12991 0), (.agg #[(wI 1), (wI 0), (wI 0), (wI 0), (wI 0), (wU 0), (wS [])])], [(0, Mgb0), (12772, Mgb78), (12774, Mgb33), (12820, Mgb96), (12988, Mgb51), (12991, Mgb38), (17790, Mgb94), (17817, Mgb80), (17819, Mgb56), (21347, Mgb53), (52204, Mgb60)], (.slice none 0 0), 53528, [(17790, some Mgb97)]⟩
theorem e61_ok : Ab.partB (Ab.envS Tryz.prog 227 374) 3000 16 e61 = true := by kernel_rfl
def e62 : Ab.Entry := ⟨53531, [(wA 12991 0), (.agg #[(wI 4), (wI 0), (wI 0), (wI 0), (wI 0), (wU 0), (wS [])])], [(12820, Mgb96), (12991, Mgb38), (52204, Mgb60)], (.slice none 0 0), 53668, [(12820, some Mgb98), (53651, some Mgb57)]⟩
theorem e62_ok : Ab.partB (Ab.envS Tryz.prog 227 374) 3000 16 e62 = true := by kernel_rfl
def e63 : Ab.Entry := ⟨53676, [(wA 12991 0), (.agg #[(wI 1), (wI 0), (wI 0), (wI 0), (wI 0), (wU 0), (wS [])])], [(0, Mgb0), (12772, Mgb78), (12774, Mgb33), (12820, Mgb98), (12988, Mgb51), (12991, Mgb38), (13002, Mgb63), (13009, Mgb41), (13011, Mgb42), (13497, Mgb53), (53651, Mgb57)], (.slice none 0 0), 54947, []⟩
theorem e63_ok : Ab.partB (Ab.envS Tryz.prog 227 374) 3000 16 e63 = true := by kernel_rfl
def e64 : Ab.Entry := ⟨54950, [(wA 12991 0), (.agg #[(wI 4), (wI 0), (wI 0), (wI 0), (wI 0), (wU 0), (wS [])])], [(12820, Mgb98), (12991, Mgb38), (53651, Mgb57)], (.slice none 0 0), 55087, [(12820, some Mgb99), (55070, some Mgb60)]⟩
theorem e64_ok : Ab.partB (Ab.envS Tryz.prog 227 374) 3000 16 e64 = true := by kernel_rfl
def e65 : Ab.Entry := ⟨55095, [(wA 12991 0), (.agg #[(wI 1), (wI 0), (wI 0), (wI 0), (wI 0), (wU 0), (wS [])])], [(0, Mgb0), (12772, Mgb78), (12774, Mgb33), (12820, Mgb99), (12988, Mgb51), (12991, Mgb38), (17790, Mgb97), (17817, Mgb80), (17819, Mgb56), (21347, Mgb53), (55070, Mgb60)], (.slice none 0 0), 56366, [(17790, some Mgb100)]⟩
theorem e65_ok : Ab.partB (Ab.envS Tryz.prog 227 374) 3000 16 e65 = true := by kernel_rfl
def e66 : Ab.Entry := ⟨56369, [(wA 12991 0), (.agg #[(wI 4), (wI 0), (wI 0), (wI 0), (wI 0), (wU 0), (wS [])])], [(12820, Mgb99), (12991, Mgb38), (55070, Mgb60)], (.slice none 0 0), 56506, [(12820, some Mgb101), (56489, some Mgb57)]⟩
theorem e66_ok : Ab.partB (Ab.envS Tryz.prog 227 374) 3000 16 e66 = true := by kernel_rfl
def e67 : Ab.Entry := ⟨56514, [(wA 12991 0), (.agg #[(wI 1), (wI 0), (wI 0), (wI 0), (wI 0), (wU 0), (wS [])])], [(0, Mgb0), (12772, Mgb78), (12774, Mgb33), (12820, Mgb101), (12988, Mgb51), (12991, Mgb38), (13002, Mgb63), (13009, Mgb41), (13011, Mgb42), (13497, Mgb53), (56489, Mgb57)], (.slice none 0 0), 57785, []⟩
theorem e67_ok : Ab.partB (Ab.envS Tryz.prog 227 374) 3000 16 e67 = true := by kernel_rfl
def e68 : Ab.Entry := ⟨57788, [(wA 12991 0), (.agg #[(wI 4), (wI 0), (wI 0), (wI 0), (wI 0), (wU 0), (wS [])])], [(12820, Mgb101), (12991, Mgb38), (56489, Mgb57)], (.slice none 0 0), 57925, [(12820, some Mgb102), (57908, some Mgb60)]⟩
theorem e68_ok : Ab.partB (Ab.envS Tryz.prog 227 374) 3000 16 e68 = true := by kernel_rfl
def e69 : Ab.Entry := ⟨57933, [(wA 12991 0), (.agg #[(wI 1), (wI 0), (wI 0), (wI 0), (wI 0), (wU 0), (wS [])])], [(0, Mgb0), (12772, Mgb78), (12774, Mgb33), (12820, Mgb102), (12988, Mgb51), (12991, Mgb38), (17790, Mgb100), (17817, Mgb80), (17819, Mgb56), (21347, Mgb53), (57908, Mgb60)], (.slice none 0 0), 59232, [(17790, some Mgb103)]⟩
theorem e69_ok : Ab.partB (Ab.envS Tryz.prog 227 374) 3000 16 e69 = true := by kernel_rfl
def e70 : Ab.Entry := ⟨59235, [(wA 12991 0), (.agg #[(wI 4), (wI 0), (wI 0), (wI 0), (wI 0), (wU 0), (wS [])])], [(12820, Mgb102), (12991, Mgb38), (57908, Mgb60)], (.slice none 0 0), 59372, [(12820, some Mgb104), (59355, some Mgb57)]⟩
theorem e70_ok : Ab.partB (Ab.envS Tryz.prog 227 374) 3000 16 e70 = true := by kernel_rfl
def e71 : Ab.Entry := ⟨59380, [(wA 12991 0), (.agg #[(wI 1), (wI 0), (wI 0), (wI 0), (wI 0), (wU 0), (wS [])])], [(0, Mgb0), (12772, Mgb78), (12774, Mgb33), (12820, Mgb104), (12988, Mgb51), (12991, Mgb38), (13002, Mgb63), (13009, Mgb41), (13011, Mgb42), (13497, Mgb53), (59355, Mgb57)], (.slice none 0 0), 60651, []⟩
theorem e71_ok : Ab.partB (Ab.envS Tryz.prog 227 374) 3000 16 e71 = true := by kernel_rfl
def e72 : Ab.Entry := ⟨60654, [(wA 12991 0), (.agg #[(wI 4), (wI 0), (wI 0), (wI 0), (wI 0), (wU 0), (wS [])])], [(12820, Mgb104), (12991, Mgb38), (59355, Mgb57)], (.slice none 0 0), 60791, [(12820, some Mgb105), (60774, some Mgb60)]⟩
theorem e72_ok : Ab.partB (Ab.envS Tryz.prog 227 374) 3000 16 e72 = true := by kernel_rfl
def e73 : Ab.Entry := ⟨60799, [(wA 12991 0), (.agg #[(wI 1), (wI 0), (wI 0), (wI 0), (wI 0), (wU 0), (wS [])])], [(0, Mgb0), (12772, Mgb78), (12774, Mgb33), (12820, Mgb105), (12988, Mgb51), (12991, Mgb38), (17790, Mgb103), (17817, Mgb80), (17819, Mgb56), (21347, Mgb53), (60774, Mgb60)], (.slice none 0 0), 62070, [(17790, some Mgb106)]⟩
theorem e73_ok : Ab.partB (Ab.envS Tryz.prog 227 374) 3000 16 e73 = true := by kernel_rfl
def e74 : Ab.Entry := ⟨62073, [(wA 12991 0), (.agg #[(wI 4), (wI 0), (wI 0), (wI 0), (wI 0), (wU 0), (wS [])])], [(12820, Mgb105), (12991, Mgb38), (60774, Mgb60)], (.slice none 0 0), 62210, [(12820, some Mgb107), (62193, some Mgb57)]⟩
theorem e74_ok : Ab.partB (Ab.envS Tryz.prog 227 374) 3000 16 e74 = true := by kernel_rfl
def e75 : Ab.Entry := ⟨62218, [(wA 12991 0), (.agg #[(wI 1), (wI 0), (wI 0), (wI 0), (wI 0), (wU 0), (wS [])])], [(0, Mgb0), (12772, Mgb78), (12774, Mgb33), (12820, Mgb107), (12988, Mgb51), (12991, Mgb38), (13002, Mgb63), (13009, Mgb41), (13011, Mgb42), (13497, Mgb53), (62193, Mgb57)], (.slice none 0 0), 63489, []⟩
theorem e75_ok : Ab.partB (Ab.envS Tryz.prog 227 374) 3000 16 e75 = true := by kernel_rfl
def e76 : Ab.Entry := ⟨63492, [(wA 12991 0), (.agg #[(wI 4), (wI 0), (wI 0), (wI 0), (wI 0), (wU 0), (wS [])])], [(12820, Mgb107), (12991, Mgb38), (62193, Mgb57)], (.slice none 0 0), 63629, [(12820, some Mgb108), (63612, some Mgb60)]⟩
theorem e76_ok : Ab.partB (Ab.envS Tryz.prog 227 374) 3000 16 e76 = true := by kernel_rfl
def e77 : Ab.Entry := ⟨63637, [(wA 12991 0), (.agg #[(wI 1), (wI 0), (wI 0), (wI 0), (wI 0), (wU 0), (wS [])])], [(0, Mgb0), (12772, Mgb78), (12774, Mgb33), (12820, Mgb108), (12988, Mgb51), (12991, Mgb38), (17790, Mgb106), (17817, Mgb80), (17819, Mgb56), (21347, Mgb53), (63612, Mgb60)], (.slice none 0 0), 64936, [(17790, some Mgb109)]⟩
theorem e77_ok : Ab.partB (Ab.envS Tryz.prog 227 374) 3000 16 e77 = true := by kernel_rfl
def e78 : Ab.Entry := ⟨64939, [(wA 12991 0), (.agg #[(wI 4), (wI 0), (wI 0), (wI 0), (wI 0), (wU 0), (wS [])])], [(12820, Mgb108), (12991, Mgb38), (63612, Mgb60)], (.slice none 0 0), 65076, [(12820, some Mgb110), (65059, some Mgb57)]⟩
theorem e78_ok : Ab.partB (Ab.envS Tryz.prog 227 374) 3000 16 e78 = true := by kernel_rfl
def e79 : Ab.Entry := ⟨65084, [(wA 12991 0), (.agg #[(wI 1), (wI 0), (wI 0), (wI 0), (wI 0), (wU 0), (wS [])])], [(0, Mgb0), (12772, Mgb78), (12774, Mgb33), (12820, Mgb110), (12988, Mgb51), (12991, Mgb38), (13002, Mgb63), (13009, Mgb41), (13011, Mgb42), (13497, Mgb53), (65059, Mgb57)], (.slice none 0 0), 66355, []⟩
theorem e79_ok : Ab.partB (Ab.envS Tryz.prog 227 374) 3000 16 e79 = true := by kernel_rfl
def e80 : Ab.Entry := ⟨66358, [(wA 12991 0), (.agg #[(wI 4), (wI 0), (wI 0), (wI 0), (wI 0), (wU 0), (wS [])])], [(12820, Mgb110), (12991, Mgb38), (65059, Mgb57)], (.slice none 0 0), 66495, [(12820, some Mgb111), (66478, some Mgb60)]⟩
theorem e80_ok : Ab.partB (Ab.envS Tryz.prog 227 374) 3000 16 e80 = true := by kernel_rfl
def e81 : Ab.Entry := ⟨66503, [(wA 12991 0), (.agg #[(wI 1), (wI 0), (wI 0), (wI 0), (wI 0), (wU 0), (wS [])])], [(0, Mgb0), (12772, Mgb78), (12774, Mgb33), (12820, Mgb111), (12988, Mgb51), (12991, Mgb38), (17790, Mgb109), (17817, Mgb80), (17819, Mgb56), (21347, Mgb53), (66478, Mgb60)], (.slice none 0 0), 67774, [(17790, some Mgb112)]⟩
theorem e81_ok : Ab.partB (Ab.envS Tryz.prog 227 374) 3000 16 e81 = true := by kernel_rfl
def e82 : Ab.Entry := ⟨67777, [(wA 12991 0), (.agg #[(wI 4), (wI 0), (wI 0), (wI 0), (wI 0), (wU 0), (wS [])])], [(12820, Mgb111), (12991, Mgb38), (66478, Mgb60)], (.slice none 0 0), 67914, [(12820, some Mgb113), (67897, some Mgb57)]⟩
theorem e82_ok : Ab.partB (Ab.envS Tryz.prog 227 374) 3000 16 e82 = true := by kernel_rfl
def e83 : Ab.Entry := ⟨67922, [(wA 12991 0), (.agg #[(wI 1), (wI 0), (wI 0), (wI 0), (wI 0), (wU 0), (wS [])])], [(0, Mgb0), (12772, Mgb78), (12774, Mgb33), (12820, Mgb113), (12988, Mgb51), (12991, Mgb38), (13002, Mgb63), (13009, Mgb41), (13011, Mgb42), (13497, Mgb53), (67897, Mgb57)], (.slice none 0 0), 69193, []⟩
theorem e83_ok : Ab.partB (Ab.envS Tryz.prog 227 374) 3000 16 e83 = true := by kernel_rfl
def e84 : Ab.Entry := ⟨69196, [(wA 12991 0), (.agg #[(wI 4), (wI 0), (wI 0), (wI 0), (wI 0), (wU 0), (wS [])])], [(12820, Mgb113), (12991, Mgb38), (67897, Mgb57)], (.slice none 0 0), 69333, [(12820, some Mgb114), (69316, some Mgb60)]⟩
theorem e84_ok : Ab.partB (Ab.envS Tryz.prog 227 374) 3000 16 e84 = true := by kernel_rfl
def e85 : Ab.Entry := ⟨69341, [(wA 12991 0), (.agg #[(wI 1), (wI 0), (wI 0), (wI 0), (wI 0), (wU 0), (wS [])])], [(0, Mgb0), (12772, Mgb78), (12774, Mgb33), (12820, Mgb114), (12988, Mgb51), (12991, Mgb38), (17790, Mgb112), (17817, Mgb80), (17819, Mgb56), (21347, Mgb53), (69316, Mgb60)], (.slice none 0 0), 70640, [(17790, some Mgb115)]⟩
theorem e85_ok : Ab.partB (Ab.envS Tryz.prog 227 374) 3000 16 e85 = true := by kernel_rfl
def e86 : Ab.Entry := ⟨70643, [(wA 12991 0), (.agg #[(wI 4), (wI 0), (wI 0), (wI 0), (wI 0), (wU 0), (wS [])])], [(12820, Mgb114), (12991, Mgb38), (69316, Mgb60)], (.slice none 0 0), 70780, [(12820, some Mgb116), (70763, some Mgb57)]⟩
theorem e86_ok : Ab.partB (Ab.envS Tryz.prog 227 374) 3000 16 e86 = true := by kernel_rfl
def e87 : Ab.Entry := ⟨70788, [(wA 12991 0), (.agg #[(wI 1), (wI 0), (wI 0), (wI 0), (wI 0), (wU 0), (wS [])])], [(0, Mgb0), (12772, Mgb78), (12774, Mgb33), (12820, Mgb116), (12988, Mgb51), (12991, Mgb38), (13002, Mgb63), (13009, Mgb41), (13011, Mgb42), (13497, Mgb53), (70763, Mgb57)], (.slice none 0 0), 72059, []⟩
theorem e87_ok : Ab.partB (Ab.envS Tryz.prog 227 374) 3000 16 e87 = true := by kernel_rfl
def e88 : Ab.Entry := ⟨72062, [(wA 12991 0), (.agg #[(wI 4), (wI 0), (wI 0), (wI 0), (wI 0), (wU 0), (wS [])])], [(12820, Mgb116), (12991, Mgb38), (70763, Mgb57)], (.slice none 0 0), 72199, [(12820, some Mgb117), (72182, some Mgb60)]⟩
theorem e88_ok : Ab.partB (Ab.envS Tryz.prog 227 374) 3000 16 e88 = true := by kernel_rfl
def e89 : Ab.Entry := ⟨72207, [(wA 12991 0), (.agg #[(wI 1), (wI 0), (wI 0), (wI 0), (wI 0), (wU 0), (wS [])])], [(0, Mgb0), (12772, Mgb78), (12774, Mgb33), (12820, Mgb117), (12988, Mgb51), (12991, Mgb38), (17790, Mgb115), (17817, Mgb80), (17819, Mgb56), (21347, Mgb53), (72182, Mgb60)], (.slice none 0 0), 73478, [(17790, some Mgb118)]⟩
theorem e89_ok : Ab.partB (Ab.envS Tryz.prog 227 374) 3000 16 e89 = true := by kernel_rfl
def e90 : Ab.Entry := ⟨73481, [(wA 12991 0), (.agg #[(wI 4), (wI 0), (wI 0), (wI 0), (wI 0), (wU 0), (wS [])])], [(12820, Mgb117), (12991, Mgb38), (72182, Mgb60)], (.slice none 0 0), 73618, [(12820, some Mgb119), (73601, some Mgb57)]⟩
theorem e90_ok : Ab.partB (Ab.envS Tryz.prog 227 374) 3000 16 e90 = true := by kernel_rfl
def e91 : Ab.Entry := ⟨73626, [(wA 12991 0), (.agg #[(wI 1), (wI 0), (wI 0), (wI 0), (wI 0), (wU 0), (wS [])])], [(0, Mgb0), (12772, Mgb78), (12774, Mgb33), (12820, Mgb119), (12988, Mgb51), (12991, Mgb38), (13002, Mgb63), (13009, Mgb41), (13011, Mgb42), (13497, Mgb53), (73601, Mgb57)], (.slice none 0 0), 74897, []⟩
theorem e91_ok : Ab.partB (Ab.envS Tryz.prog 227 374) 3000 16 e91 = true := by kernel_rfl
def e92 : Ab.Entry := ⟨74900, [(wA 12991 0), (.agg #[(wI 4), (wI 0), (wI 0), (wI 0), (wI 0), (wU 0), (wS [])])], [(12820, Mgb119), (12991, Mgb38), (73601, Mgb57)], (.slice none 0 0), 75037, [(12820, some Mgb120), (75020, some Mgb60)]⟩
theorem e92_ok : Ab.partB (Ab.envS Tryz.prog 227 374) 3000 16 e92 = true := by kernel_rfl
def e93 : Ab.Entry := ⟨75045, [(wA 12991 0), (.agg #[(wI 1), (wI 0), (wI 0), (wI 0), (wI 0), (wU 0), (wS [])])], [(0, Mgb0), (12772, Mgb78), (12774, Mgb33), (12820, Mgb120), (12988, Mgb51), (12991, Mgb38), (17790, Mgb118), (17817, Mgb80), (17819, Mgb56), (21347, Mgb53), (75020, Mgb60)], (.slice none 0 0), 76344, [(17790, some Mgb121)]⟩
theorem e93_ok : Ab.partB (Ab.envS Tryz.prog 227 374) 3000 16 e93 = true := by kernel_rfl
def e94 : Ab.Entry := ⟨76347, [(wA 12991 0), (.agg #[(wI 4), (wI 0), (wI 0), (wI 0), (wI 0), (wU 0), (wS [])])], [(12820, Mgb120), (12991, Mgb38), (75020, Mgb60)], (.slice none 0 0), 76484, [(12820, some Mgb122), (76467, some Mgb57)]⟩
theorem e94_ok : Ab.partB (Ab.envS Tryz.prog 227 374) 3000 16 e94 = true := by kernel_rfl
def e95 : Ab.Entry := ⟨76492, [(wA 12991 0), (.agg #[(wI 1), (wI 0), (wI 0), (wI 0), (wI 0), (wU 0), (wS [])])], [(0, Mgb0), (12772, Mgb78), (12774, Mgb33), (12820, Mgb122), (12988, Mgb51), (12991, Mgb38), (13002, Mgb63), (13009, Mgb41), (13011, Mgb42), (13497, Mgb53), (76467, Mgb57)], (.slice none 0 0), 77763, []⟩
theorem e95_ok : Ab.partB (Ab.envS Tryz.prog 227 374) 3000 16 e95 = true := by kernel_rfl
def e96 : Ab.Entry := ⟨77766, [(wA 12991 0), (.agg #[(wI 4), (wI 0), (wI 0), (wI 0), (wI 0), (wU 0), (wS [])])], [(12820, Mgb122), (12991, Mgb38), (76467, Mgb57)], (.slice none 0 0), 77903, [(12820, some Mgb123), (77886, some Mgb60)]⟩
theorem e96_ok : Ab.partB (Ab.envS Tryz.prog 227 374) 3000 16 e96 = true := by kernel_rfl
def l2_16 : List Ab.Entry := [e54, e55, e56, e57, e58, e59, e60, e61, e62, e63, e64, e65, e66, e67, e68, e69, e70, e71, e72, e73, e74, e75, e76, e77, e78, e79, e80, e81, e82, e83, e84, e85, e86, e87, e88, e89, e90, e91, e92, e93, e94, e95, e96]
theorem l2_16_ok : ∀ e ∈ l2_16, Ab.EntryOk Ab.Sig.none Tryz.prog 16 e := List.forall_mem_cons.2 ⟨Ab.partB_ok E_sure e54_ok, List.forall_mem_cons.2 ⟨Ab.partB_ok E_sure e55_ok, List.forall_mem_cons.2 ⟨Ab.partB_ok E_sure e56_ok, List.forall_mem_cons.2 ⟨Ab.partB_ok E_sure e57_ok, List.forall_mem_cons.2 ⟨Ab.partB_ok E_sure e58_ok, List.forall_mem_cons.2 ⟨Ab.partB_ok E_sure e59_ok, List.forall_mem_cons.2 ⟨Ab.partB_ok E_sure e60_ok, List.forall_mem_cons.2 ⟨Ab.partB_ok E_sure e61_ok, List.forall_mem_cons.2 ⟨Ab.partB_ok E_sure e62_ok, List.forall_mem_cons.2 ⟨Ab.partB_ok E_sure e63_ok, List.forall_mem_cons.2 ⟨Ab.partB_ok E_sure e64_ok, List.forall_mem_cons.2 ⟨Ab.partB_ok E_sure e65_ok, List.forall_mem_cons.2 ⟨Ab.partB_ok E_sure e66_ok, List.forall_mem_cons.2 ⟨Ab.partB_ok E_sure e67_ok, List.forall_mem_cons.2 ⟨Ab.partB_ok E_sure e68_ok, List.forall_mem_cons.2 ⟨Ab.partB_ok E_sure e69_ok, List.forall_mem_cons.2 ⟨Ab.partB_ok E_sure e70_ok, List.forall_mem_cons.2 ⟨Ab.partB_ok E_sure e71_ok, List.forall_mem_cons.2 ⟨Ab.partB_ok E_sure e72_ok, List.forall_mem_cons.2 ⟨Ab.partB_ok E_sure e73_ok, List.forall_mem_cons.2 ⟨Ab.partB_ok E_sure e74_ok, List.forall_mem_cons.2 ⟨Ab.partB_ok E_sure e75_ok, List.forall_mem_cons.2 ⟨Ab.partB_ok E_sure e76_ok, List.forall_mem_cons.2 ⟨Ab.partB_ok E_sure e77_ok, List.forall_mem_cons.2 ⟨Ab.partB_ok E_sure e78_ok, List.forall_mem_cons.2 ⟨Ab.partB_ok E_sure e79_ok, List.forall_mem_cons.2 ⟨Ab.partB_ok E_sure e80_ok, List.forall_mem_cons.2 ⟨Ab.partB_ok E_sure e81_ok, List.forall_mem_cons.2 ⟨Ab.partB_ok E_sure e82_ok, List.forall_mem_cons.2 ⟨Ab.partB_ok E_sure e83_ok, List.forall_mem_cons.2 ⟨Ab.partB_ok E_sure e84_ok, List.forall_mem_cons.2 ⟨Ab.partB_ok E_sure e85_ok, List.forall_mem_cons.2 ⟨Ab.partB_ok E_sure e86_ok, List.forall_mem_cons.2 ⟨Ab.partB_ok E_sure e87_ok, List.forall_mem_cons.2 ⟨Ab.partB_ok E_sure e88_ok, List.forall_mem_cons.2 ⟨Ab.partB_ok E_sure e89_ok, List.forall_mem_cons.2 ⟨Ab.partB_ok E_sure e90_ok, List.forall_mem_cons.2 ⟨Ab.partB_ok E_sure e91_ok, List.forall_mem_cons.2 ⟨Ab.partB_ok E_sure e92_ok, List.forall_mem_cons.2 ⟨Ab.partB_ok E_sure e93_ok, List.forall_mem_cons.2 ⟨Ab.partB_ok E_sure e94_ok, List.forall_mem_cons.2 ⟨Ab.partB_ok E_sure e95_ok, List.forall_mem_cons.2 ⟨Ab.partB_ok E_sure e96_ok, fun _ h => (by cases h)⟩⟩⟩⟩⟩⟩⟩⟩⟩⟩⟩⟩⟩⟩⟩⟩⟩⟩⟩⟩⟩⟩⟩⟩⟩⟩⟩⟩⟩⟩⟩⟩⟩⟩⟩⟩⟩⟩⟩⟩⟩⟩⟩
def e99 : Ab.Entry := ⟨77941, [(wA 12991 0), (wI 2)], [(12794, Mgb48), (12799, Mgb49), (12988, Mgb51), (12989, Mgb9), (12991, Mgb38), (17790, Mgb121), (17817, Mgb80), (17819, Mgb56), (21347, Mgb53), (21378, Mgb39), (38637, Mgb81)], (.tuple #[(.agg #[(wI 2), (wI 1), (wI 1), (wU 0), (wU 0), (wU 10), (wU 2), (wU 1), (wU 0), (wU 7), (wU 0), (wU 0), (.complex Go.FloatKind.f64 0 0), (.complex Go.FloatKind.f64 0 0), (wU 40), (wU 0), (wU 0), (wU 0), (wU 0), (wU 0), (wU 0), (wU 0), (wU 0), (.complex Go.FloatKind.f64 0 0), (.complex Go.FloatKind.f64 0 0), (wU 0), (wU 0), (wU 0), (wU 0), (wU 0), (wU 0), (wU 0), (wU 0), (wU 0), (wU 0), (wU 0), (wU 0), (wU 0), (wU 0), (wU 0), (wU 0), (wU 0), (wU 0), (wU 0), (.bool false), (wI 0), (wI 0), (wI 0), (wI 0), (wI 0), (wU 0), (wL 78381 0 8 8), (wU 3), (wI 0), (wL 79282 0 3 3)]), (.bool true)]), 81979, [(78381, some Mgb124), (79282, some Mgb125)]⟩
theorem e99_ok : Ab.partB (Ab.envS Tryz.prog 227 374) 3000 60 e99 = true := by kernel_rfl
def e100 : Ab.Entry := ⟨82290, [(wA 12991 0), (wI 2)], [(12794, Mgb48), (12799, Mgb49), (12988, Mgb51), (12989, Mgb9), (12991, Mgb38), (17790, Mgb121), (17817, Mgb80), (17819, Mgb56), (21347, Mgb53), (21378, Mgb39), (38637, Mgb81)], (.tuple #[(.agg #[(wI 2), (wI 1), (wI 1), (wU 0), (wU 0), (wU 10), (wU 2), (wU 1), (wU 0), (wU 7), (wU 0), (wU 0), (.complex Go.FloatKind.f64 0 0), (.complex Go.FloatKind.f64 0 0), (wU 40), (wU 0), (wU 0), (wU 0), (wU 0), (wU 0), (wU 0), (wU 0), (wU 0), (.complex Go.FloatKind.f64 0 0), (.complex Go.FloatKind.f64 0 0), (wU 0), (wU 0), (wU 0), (wU 0), (wU 0), (wU 0), (wU 0), (wU 0), (wU 0), (wU 0), (wU 0), (wU 0), (wU 0), (wU 0), (wU 0), (wU 0), (wU 0), (wU 0), (wU 0), (.bool false), (wI 0), (wI 0), (wI 0), (wI 0), (wI 0), (wU 0), (wL 82730 0 8 8), (wU 3), (wI 0), (wL 83631 0 3 3)]), (.bool true)]), 86328, [(82730, some Mgb124), (83631, some Mgb125)]⟩
theorem e100_ok : Ab.partB (Ab.envS Tryz.prog 227 374) 3000 60 e100 = true := by kernel_rfl
def e101 : Ab.Entry := ⟨86362, [(wA 12991 0), (wL 86331 0 1 1)], [(82730, Mgb124), (86331, Mgb126)], (.bool true), 86512, []⟩
theorem e101_ok : Ab.partM (Ab.envS Tryz.prog 227 374) 3000 50 e101 = true := by kernel_rfl
def l4_50 : List Ab.Entry := [e101]
theorem l4_50_ok : ∀ e ∈ l4_50, Ab.EntryOk Ab.Sig.none Tryz.prog 50 e := List.forall_mem_cons.2 ⟨Ab.partM_ok E_sure e101_ok, fun _ h => (by cases h)⟩
def l4_60 : List Ab.Entry := [e99, e100]
theorem l4_60_ok : ∀ e ∈ l4_60, Ab.EntryOk Ab.Sig.none Tryz.prog 60 e := List.forall_mem_cons.2 ⟨Ab.partB_ok E_sure e99_ok, List.forall_mem_cons.2 ⟨Ab.partB_ok E_sure e100_ok, fun _ h => (by cases h)⟩⟩
def tab_98_50 : List Ab.Entry := l4_50
theorem tab_98_50_ok : ∀ e ∈ tab_98_50, Ab.EntryOk Ab.Sig.none Tryz.prog 50 e := fun e => fun h => l4_50_ok e h
def tab_98_60 : List Ab.Entry := l4_60
theorem tab_98_60_ok : ∀ e ∈ tab_98_60, Ab.EntryOk Ab.Sig.none Tryz.prog 60 e := fun e => fun h => l4_60_ok e h
def full_98 : Ab.Env := (Ab.withTab (Ab.withTab (Ab.envS Tryz.prog 227 374) 50 tab_98_50) 60 tab_98_60)
theorem full_98_sure : Ab.Sure Ab.Sig.none full_98 := (Ab.withTab_sure (Ab.withTab_sure E_sure rfl tab_98_50_ok) rfl tab_98_60_ok)
end
end Go.Proofs.YtijnhaadhgoloaaGreatDoor.migrateNames
