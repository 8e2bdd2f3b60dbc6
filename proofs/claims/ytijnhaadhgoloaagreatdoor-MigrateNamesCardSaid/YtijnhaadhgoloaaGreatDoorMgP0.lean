/- MigrateNames: calls, each by a run of its own. -/
import Derived.Test.YtijnhaadhgoloaaGreatDoorMgB
import Derived.Test.YtijnhaadhgoloaaGreatDoorMgE
namespace Go.Proofs.YtijnhaadhgoloaaGreatDoor.migrateNames
open Go.Ab
set_option linter.unusedVariables false
noncomputable section
def e16 : Ab.Entry := ⟨12752, [(.agg #[(wI 2), (wI 16), (wI 4), (wI 4), (wL 12255 0 11 11)])], [(12255, Mgb31)], (.tuple #[(wA 12991 0), (wI 0)]), 14868, [(12772, some Mgb32), (12774, some Mgb33), (12794, some Mgb34), (12799, some Mgb35), (12820, some Mgb36), (12988, some Mgb37), (12989, some Mgb9), (12991, some Mgb38), (12996, some Mgb39), (13002, some Mgb40), (13009, some Mgb41), (13011, some Mgb42), (13497, some Mgb43), (14858, some Mgb44)]⟩
theorem e16_ok : Ab.partB (Ab.envS Tryz.prog 227 374) 3000 15 e16 = true := by kernel_rfl
def e17 : Ab.Entry := ⟨14874, [(wA 12991 0), (.agg #[(wI 1), (wI 0), (wI 0), (wI 0), (wI 0), (wU 0), (wS [])])], [(0, Mgb0), (12772, Mgb32), (12774, Mgb33), (12820, Mgb36), (12988, Mgb37), (12991, Mgb38), (13002, Mgb40), (13009, Mgb41), (13011, Mgb42), (13497, Mgb43), (14858, Mgb44)], (.slice none 0 0), 16140, [(13002, some Mgb45)]⟩
theorem e17_ok : Ab.partB (Ab.envS Tryz.prog 227 374) 3000 16 e17 = true := by kernel_rfl
def e18 : Ab.Entry := ⟨16143, [(wA 12991 0), (.agg #[(wI 4), (wI 0), (wI 0), (wI 0), (wI 0), (wU 0), (wS [])])], [(12820, Mgb36), (12991, Mgb38)], (.slice none 0 0), 16252, []⟩
theorem e18_ok : Ab.partB (Ab.envS Tryz.prog 227 374) 3000 16 e18 = true := by kernel_rfl
def e19 : Ab.Entry := ⟨16260, [(wA 12991 0), (.agg #[(wI 1), (wI 0), (wI 0), (wI 0), (wI 0), (wU 0), (wS [])])], [(0, Mgb0), (2, Mgb46), (12772, Mgb32), (12774, Mgb33), (12794, Mgb34), (12799, Mgb35), (12820, Mgb36), (12988, Mgb37), (12991, Mgb38), (12996, Mgb39), (13002, Mgb45), (13009, Mgb41), (13011, Mgb42), (13497, Mgb43), (14858, Mgb44)], (wL 22178 0 1 1), 22200, [(12772, some Mgb47), (12794, some Mgb48), (12799, some Mgb49), (12820, some Mgb50), (12988, some Mgb51), (13002, some Mgb52), (13497, some Mgb53), (14858, none), (17790, some Mgb54), (17817, some Mgb55), (17819, some Mgb56), (21347, some Mgb53), (21378, some Mgb39), (22027, some Mgb57), (22178, some Mgb58)]⟩
theorem e19_ok : Ab.partB (Ab.envS Tryz.prog 227 374) 3000 16 e19 = true := by kernel_rfl
def e20 : Ab.Entry := ⟨22203, [(wA 12991 0), (.agg #[(wI 4), (wI 0), (wI 0), (wI 0), (wI 0), (wU 0), (wS [])])], [(12820, Mgb50), (12991, Mgb38), (22027, Mgb57)], (.slice none 0 0), 22340, [(12820, some Mgb59), (22323, some Mgb60)]⟩
theorem e20_ok : Ab.partB (Ab.envS Tryz.prog 227 374) 3000 16 e20 = true := by kernel_rfl
def e21 : Ab.Entry := ⟨22348, [(wA 12991 0), (.agg #[(wI 1), (wI 0), (wI 0), (wI 0), (wI 0), (wU 0), (wS [])])], [(0, Mgb0), (12772, Mgb47), (12774, Mgb33), (12820, Mgb59), (12988, Mgb51), (12991, Mgb38), (17790, Mgb54), (17817, Mgb55), (17819, Mgb56), (21347, Mgb53), (22323, Mgb60)], (.slice none 0 0), 23627, [(17790, some Mgb61)]⟩
theorem e21_ok : Ab.partB (Ab.envS Tryz.prog 227 374) 3000 16 e21 = true := by kernel_rfl
def e22 : Ab.Entry := ⟨23630, [(wA 12991 0), (.agg #[(wI 4), (wI 0), (wI 0), (wI 0), (wI 0), (wU 0), (wS [])])], [(12820, Mgb59), (12991, Mgb38), (22323, Mgb60)], (.slice none 0 0), 23767, [(12820, some Mgb62), (23750, some Mgb57)]⟩
theorem e22_ok : Ab.partB (Ab.envS Tryz.prog 227 374) 3000 16 e22 = true := by kernel_rfl
def e23 : Ab.Entry := ⟨23775, [(wA 12991 0), (.agg #[(wI 1), (wI 0), (wI 0), (wI 0), (wI 0), (wU 0), (wS [])])], [(0, Mgb0), (12772, Mgb47), (12774, Mgb33), (12820, Mgb62), (12988, Mgb51), (12991, Mgb38), (13002, Mgb52), (13009, Mgb41), (13011, Mgb42), (13497, Mgb53), (23750, Mgb57)], (.slice none 0 0), 25062, [(13002, some Mgb63)]⟩
theorem e23_ok : Ab.partB (Ab.envS Tryz.prog 227 374) 3000 16 e23 = true := by kernel_rfl
def e24 : Ab.Entry := ⟨25065, [(wA 12991 0), (.agg #[(wI 4), (wI 0), (wI 0), (wI 0), (wI 0), (wU 0), (wS [])])], [(12820, Mgb62), (12991, Mgb38), (23750, Mgb57)], (.slice none 0 0), 25202, [(12820, some Mgb64), (25185, some Mgb60)]⟩
theorem e24_ok : Ab.partB (Ab.envS Tryz.prog 227 374) 3000 16 e24 = true := by kernel_rfl
def e25 : Ab.Entry := ⟨25210, [(wA 12991 0), (.agg #[(wI 1), (wI 0), (wI 0), (wI 0), (wI 0), (wU 0), (wS [])])], [(0, Mgb0), (12772, Mgb47), (12774, Mgb33), (12820, Mgb64), (12988, Mgb51), (12991, Mgb38), (17790, Mgb61), (17817, Mgb55), (17819, Mgb56), (21347, Mgb53), (25185, Mgb60)], (.slice none 0 0), 26485, [(17790, some Mgb65)]⟩
theorem e25_ok : Ab.partB (Ab.envS Tryz.prog 227 374) 3000 16 e25 = true := by kernel_rfl
def e26 : Ab.Entry := ⟨26488, [(wA 12991 0), (.agg #[(wI 4), (wI 0), (wI 0), (wI 0), (wI 0), (wU 0), (wS [])])], [(12820, Mgb64), (12991, Mgb38), (25185, Mgb60)], (.slice none 0 0), 26625, [(12820, some Mgb66), (26608, some Mgb57)]⟩
theorem e26_ok : Ab.partB (Ab.envS Tryz.prog 227 374) 3000 16 e26 = true := by kernel_rfl
def e27 : Ab.Entry := ⟨26633, [(wA 12991 0), (.agg #[(wI 1), (wI 0), (wI 0), (wI 0), (wI 0), (wU 0), (wS [])])], [(0, Mgb0), (12772, Mgb47), (12774, Mgb33), (12820, Mgb66), (12988, Mgb51), (12991, Mgb38), (13002, Mgb63), (13009, Mgb41), (13011, Mgb42), (13497, Mgb53), (26608, Mgb57)], (.slice none 0 0), 27904, []⟩
theorem e27_ok : Ab.partB (Ab.envS Tryz.prog 227 374) 3000 16 e27 = true := by kernel_rfl
def e28 : Ab.Entry := ⟨27907, [(wA 12991 0), (.agg #[(wI 4), (wI 0), (wI 0), (wI 0), (wI 0), (wU 0), (wS [])])], [(12820, Mgb66), (12991, Mgb38), (26608, Mgb57)], (.slice none 0 0), 28044, [(12820, some Mgb67), (28027, some Mgb60)]⟩
theorem e28_ok : Ab.partB (Ab.envS Tryz.prog 227 374) 3000 16 e28 = true := by kernel_rfl
def e29 : Ab.Entry := ⟨28052, [(wA 12991 0), (.agg #[(wI 1), (wI 0), (wI 0), (wI 0), (wI 0), (wU 0), (wS [])])], [(0, Mgb0), (12772, Mgb47), (12774, Mgb33), (12820, Mgb67), (12988, Mgb51), (12991, Mgb38), (17790, Mgb65), (17817, Mgb55), (17819, Mgb56), (21347, Mgb53), (28027, Mgb60)], (.slice none 0 0), 29327, [(17790, some Mgb68)]⟩
theorem e29_ok : Ab.partB (Ab.envS Tryz.prog 227 374) 3000 16 e29 = true := by kernel_rfl
def e30 : Ab.Entry := ⟨29330, [(wA 12991 0), (.agg #[(wI 4), (wI 0), (wI 0), (wI 0), (wI 0), (wU 0), (wS [])])], [(12820, Mgb67), (12991, Mgb38), (28027, Mgb60)], (.slice none 0 0), 29467, [(12820, some Mgb69), (29450, some Mgb57)]⟩
theorem e30_ok : Ab.partB (Ab.envS Tryz.prog 227 374) 3000 16 e30 = true := by kernel_rfl
def e31 : Ab.Entry := ⟨29475, [(wA 12991 0), (.agg #[(wI 1), (wI 0), (wI 0), (wI 0), (wI 0), (wU 0), (wS [])])], [(0, Mgb0), (12772, Mgb47), (12774, Mgb33), (12820, Mgb69), (12988, Mgb51), (12991, Mgb38), (13002, Mgb63), (13009, Mgb41), (13011, Mgb42), (13497, Mgb53), (29450, Mgb57)], (.slice none 0 0), 30746, []⟩
theorem e31_ok : Ab.partB (Ab.envS Tryz.prog 227 374) 3000 16 e31 = true := by kernel_rfl
def e32 : Ab.Entry := ⟨30749, [(wA 12991 0), (.agg #[(wI 4), (wI 0), (wI 0), (wI 0), (wI 0), (wU 0), (wS [])])], [(12820, Mgb69), (12991, Mgb38), (29450, Mgb57)], (.slice none 0 0), 30886, [(12820, some Mgb70), (30869, some Mgb60)]⟩
theorem e32_ok : Ab.partB (Ab.envS Tryz.prog 227 374) 3000 16 e32 = true := by kernel_rfl
def e33 : Ab.Entry := ⟨30894, [(wA 12991 0), (.agg #[(wI 1), (wI 0), (wI 0), (wI 0), (wI 0), (wU 0), (wS [])])], [(0, Mgb0), (12772, Mgb47), (12774, Mgb33), (12820, Mgb70), (12988, Mgb51), (12991, Mgb38), (17790, Mgb68), (17817, Mgb55), (17819, Mgb56), (21347, Mgb53), (30869, Mgb60)], (.slice none 0 0), 32169, [(17790, some Mgb71)]⟩
theorem e33_ok : Ab.partB (Ab.envS Tryz.prog 227 374) 3000 16 e33 = true := by kernel_rfl
def e34 : Ab.Entry := ⟨32172, [(wA 12991 0), (.agg #[(wI 4), (wI 0), (wI 0), (wI 0), (wI 0), (wU 0), (wS [])])], [(12820, Mgb70), (12991, Mgb38), (30869, Mgb60)], (.slice none 0 0), 32309, [(12820, some Mgb72), (32292, some Mgb57)]⟩
theorem e34_ok : Ab.partB (Ab.envS Tryz.prog 227 374) 3000 16 e34 = true := by kernel_rfl
def e35 : Ab.Entry := ⟨32317, [(wA 12991 0), (.agg #[(wI 1), (wI 0), (wI 0), (wI 0), (wI 0), (wU 0), (wS [])])], [(0, Mgb0), (12772, Mgb47), (12774, Mgb33), (12820, Mgb72), (12988, Mgb51), (12991, Mgb38), (13002, Mgb63), (13009, Mgb41), (13011, Mgb42), (13497, Mgb53), (32292, Mgb57)], (.slice none 0 0), 33588, []⟩
theorem e35_ok : Ab.partB (Ab.envS Tryz.prog 227 374) 3000 16 e35 = true := by kernel_rfl
def e36 : Ab.Entry := ⟨33591, [(wA 12991 0), (.agg #[(wI 4), (wI 0), (wI 0), (wI 0), (wI 0), (wU 0), (wS [])])], [(12820, Mgb72), (12991, Mgb38), (32292, Mgb57)], (.slice none 0 0), 33728, [(12820, some Mgb73), (33711, some Mgb60)]⟩
theorem e36_ok : Ab.partB (Ab.envS Tryz.prog 227 374) 3000 16 e36 = true := by kernel_rfl
def e37 : Ab.Entry := ⟨33736, [(wA 12991 0), (.agg #[(wI 1), (wI 0), (wI 0), (wI 0), (wI 0), (wU 0), (wS [])])], [(0, Mgb0), (12772, Mgb47), (12774, Mgb33), (12820, Mgb73), (12988, Mgb51), (12991, Mgb38), (17790, Mgb71), (17817, Mgb55), (17819, Mgb56), (21347, Mgb53), (33711, Mgb60)], (.slice none 0 0), 35011, [(17790, some Mgb74)]⟩
theorem e37_ok : Ab.partB (Ab.envS Tryz.prog 227 374) 3000 16 e37 = true := by kernel_rfl
def e38 : Ab.Entry := ⟨35014, [(wA 12991 0), (.agg #[(wI 4), (wI 0), (wI 0), (wI 0), (wI 0), (wU 0), (wS [])])], [(12820, Mgb73), (12991, Mgb38), (33711, Mgb60)], (.slice none 0 0), 35151, [(12820, some Mgb75), (35134, some Mgb57)]⟩
theorem e38_ok : Ab.partB (Ab.envS Tryz.prog 227 374) 3000 16 e38 = true := by kernel_rfl
def e39 : Ab.Entry := ⟨35159, [(wA 12991 0), (.agg #[(wI 1), (wI 0), (wI 0), (wI 0), (wI 0), (wU 0), (wS [])])], [(0, Mgb0), (12772, Mgb47), (12774, Mgb33), (12820, Mgb75), (12988, Mgb51), (12991, Mgb38), (13002, Mgb63), (13009, Mgb41), (13011, Mgb42), (13497, Mgb53), (35134, Mgb57)], (.slice none 0 0), 36430, []⟩
theorem e39_ok : Ab.partB (Ab.envS Tryz.prog 227 374) 3000 16 e39 = true := by kernel_rfl
def e40 : Ab.Entry := ⟨36433, [(wA 12991 0), (.agg #[(wI 4), (wI 0), (wI 0), (wI 0), (wI 0), (wU 0), (wS [])])], [(12820, Mgb75), (12991, Mgb38), (35134, Mgb57)], (.slice none 0 0), 36570, [(12820, some Mgb76), (36553, some Mgb60)]⟩
theorem e40_ok : Ab.partB (Ab.envS Tryz.prog 227 374) 3000 16 e40 = true := by kernel_rfl
def e41 : Ab.Entry := ⟨36578, [(wA 12991 0), (.agg #[(wI 1), (wI 0), (wI 0), (wI 0), (wI 0), (wU 0), (wS [])])], [(0, Mgb0), (2, Mgb46), (3, Mgb77), (12772, Mgb47), (12774, Mgb33), (12820, Mgb76), (12988, Mgb51), (12991, Mgb38), (17790, Mgb74), (17817, Mgb55), (17819, Mgb56), (21347, Mgb53), (36553, Mgb60)], (wL 39232 0 1 1), 39254, [(12772, some Mgb78), (17790, some Mgb79), (17817, some Mgb80), (38637, some Mgb81), (39232, some Mgb82)]⟩
theorem e41_ok : Ab.partB (Ab.envS Tryz.prog 227 374) 3000 16 e41 = true := by kernel_rfl
def e42 : Ab.Entry := ⟨39257, [(wA 12991 0), (.agg #[(wI 4), (wI 0), (wI 0), (wI 0), (wI 0), (wU 0), (wS [])])], [(12820, Mgb76), (12991, Mgb38), (36553, Mgb60)], (.slice none 0 0), 39394, [(12820, some Mgb83), (39377, some Mgb57)]⟩
theorem e42_ok : Ab.partB (Ab.envS Tryz.prog 227 374) 3000 16 e42 = true := by kernel_rfl
def e43 : Ab.Entry := ⟨39402, [(wA 12991 0), (.agg #[(wI 1), (wI 0), (wI 0), (wI 0), (wI 0), (wU 0), (wS [])])], [(0, Mgb0), (12772, Mgb78), (12774, Mgb33), (12820, Mgb83), (12988, Mgb51), (12991, Mgb38), (13002, Mgb63), (13009, Mgb41), (13011, Mgb42), (13497, Mgb53), (39377, Mgb57)], (.slice none 0 0), 40673, []⟩
theorem e43_ok : Ab.partB (Ab.envS Tryz.prog 227 374) 3000 16 e43 = true := by kernel_rfl
def e44 : Ab.Entry := ⟨40676, [(wA 12991 0), (.agg #[(wI 4), (wI 0), (wI 0), (wI 0), (wI 0), (wU 0), (wS [])])], [(12820, Mgb83), (12991, Mgb38), (39377, Mgb57)], (.slice none 0 0), 40813, [(12820, some Mgb84), (40796, some Mgb60)]⟩
theorem e44_ok : Ab.partB (Ab.envS Tryz.prog 227 374) 3000 16 e44 = true := by kernel_rfl
def e45 : Ab.Entry := ⟨40821, [(wA 12991 0), (.agg #[(wI 1), (wI 0), (wI 0), (wI 0), (wI 0), (wU 0), (wS [])])], [(0, Mgb0), (12772, Mgb78), (12774, Mgb33), (12820, Mgb84), (12988, Mgb51), (12991, Mgb38), (17790, Mgb79), (17817, Mgb80), (17819, Mgb56), (21347, Mgb53), (40796, Mgb60)], (.slice none 0 0), 42120, [(17790, some Mgb85)]⟩
theorem e45_ok : Ab.partB (Ab.envS Tryz.prog 227 374) 3000 16 e45 = true := by kernel_rfl
def e46 : Ab.Entry := ⟨42123, [(wA 12991 0), (.agg #[(wI 4), (wI 0), (wI 0), (wI 0), (wI 0), (wU 0), (wS [])])], [(12820, Mgb84), (12991, Mgb38), (40796, Mgb60)], (.slice none 0 0), 42260, [(12820, some Mgb86), (42243, some Mgb57)]⟩
theorem e46_ok : Ab.partB (Ab.envS Tryz.prog 227 374) 3000 16 e46 = true := by kernel_rfl
def e47 : Ab.Entry := ⟨42268, [(wA 12991 0), (.agg #[(wI 1), (wI 0), (wI 0), (wI 0), (wI 0), (wU 0), (wS [])])], [(0, Mgb0), (12772, Mgb78), (12774, Mgb33), (12820, Mgb86), (12988, Mgb51), (12991, Mgb38), (13002, Mgb63), (13009, Mgb41), (13011, Mgb42), (13497, Mgb53), (42243, Mgb57)], (.slice none 0 0), 43539, []⟩
theorem e47_ok : Ab.partB (Ab.envS Tryz.prog 227 374) 3000 16 e47 = true := by kernel_rfl
def e48 : Ab.Entry := ⟨43542, [(wA 12991 0), (.agg #[(wI 4), (wI 0), (wI 0), (wI 0), (wI 0), (wU 0), (wS [])])], [(12820, Mgb86), (12991, Mgb38), (42243, Mgb57)], (.slice none 0 0), 43679, [(12820, some Mgb87), (43662, some Mgb60)]⟩
theorem e48_ok : Ab.partB (Ab.envS Tryz.prog 227 374) 3000 16 e48 = true := by kernel_rfl
def e49 : Ab.Entry := ⟨43687, [(wA 12991 0), (.agg #[(wI 1), (wI 0), (wI 0), (wI 0), (wI 0), (wU 0), (wS [])])], [(0, Mgb0), (12772, Mgb78), (12774, Mgb33), (12820, Mgb87), (12988, Mgb51), (12991, Mgb38), (17790, Mgb85), (17817, Mgb80), (17819, Mgb56), (21347, Mgb53), (43662, Mgb60)], (.slice none 0 0), 44958, [(17790, some Mgb88)]⟩
theorem e49_ok : Ab.partB (Ab.envS Tryz.prog 227 374) 3000 16 e49 = true := by kernel_rfl
def e50 : Ab.Entry := ⟨44961, [(wA 12991 0), (.agg #[(wI 4), (wI 0), (wI 0), (wI 0), (wI 0), (wU 0), (wS [])])], [(12820, Mgb87), (12991, Mgb38), (43662, Mgb60)], (.slice none 0 0), 45098, [(12820, some Mgb89), (45081, some Mgb57)]⟩
theorem e50_ok : Ab.partB (Ab.envS Tryz.prog 227 374) 3000 16 e50 = true := by kernel_rfl
def e51 : Ab.Entry := ⟨45106, [(wA 12991 0), (.agg #[(wI 1), (wI 0), (wI 0), (wI 0), (wI 0), (wU 0), (wS [])])], [(0, Mgb0), (12772, Mgb78), (12774, Mgb33), (12820, Mgb89), (12988, Mgb51), (12991, Mgb38), (13002, Mgb63), (13009, Mgb41), (13011, Mgb42), (13497, Mgb53), (45081, Mgb57)], (.slice none 0 0), 46377, []⟩
theorem e51_ok : Ab.partB (Ab.envS Tryz.prog 227 374) 3000 16 e51 = true := by kernel_rfl
def e52 : Ab.Entry := ⟨46380, [(wA 12991 0), (.agg #[(wI 4), (wI 0), (wI 0), (wI 0), (wI 0), (wU 0), (wS [])])], [(12820, Mgb89), (12991, Mgb38), (45081, Mgb57)], (.slice none 0 0), 46517, [(12820, some Mgb90), (46500, some Mgb60)]⟩
theorem e52_ok : Ab.partB (Ab.envS Tryz.prog 227 374) 3000 16 e52 = true := by kernel_rfl
def e53 : Ab.Entry := ⟨46525, [(wA 12991 0), (.agg #[(wI 1), (wI 0), (wI 0), (wI 0), (wI 0), (wU 0), (wS [])])], [(0, Mgb0), (12772, Mgb78), (12774, Mgb33), (12820, Mgb90), (12988, Mgb51), (12991, Mgb38), (17790, Mgb88), (17817, Mgb80), (17819, Mgb56), (21347, Mgb53), (46500, Mgb60)], (.slice none 0 0), 47824, [(17790, some Mgb91)]⟩
theorem e53_ok : Ab.partB (Ab.envS Tryz.prog 227 374) 3000 16 e53 = true := by kernel_rfl
def l1_15 : List Ab.Entry := [e16]
theorem l1_15_ok : ∀ e ∈ l1_15, Ab.EntryOk Ab.Sig.none Tryz.prog 15 e := List.forall_mem_cons.2 ⟨Ab.partB_ok E_sure e16_ok, fun _ h => (by cases h)⟩
def l1_16 : List Ab.Entry := [e17, e18, e19, e20, e21, e22, e23, e24, e25, e26, e27, e28, e29, e30, e31, e32, e33, e34, e35, e36, e37, e38, e39, e40, e41, e42, e43, e44, e45, e46, e47, e48, e49, e50, e51, e52, e53]
theorem l1_16_ok : ∀ e ∈ l1_16, Ab.EntryOk Ab.Sig.none Tryz.prog 16 e := List.forall_mem_cons.2 ⟨Ab.partB_ok E_sure e17_ok, List.forall_mem_cons.2 ⟨Ab.partB_ok E_sure e18_ok, List.forall_mem_cons.2 ⟨Ab.partB_ok E_sure e19_ok, List.forall_mem_cons.2 ⟨Ab.partB_ok E_sure e20_ok, List.forall_mem_cons.2 ⟨Ab.partB_ok E_sure e21_ok, List.forall_mem_cons.2 ⟨Ab.partB_ok E_sure e22_ok, List.forall_mem_cons.2 ⟨Ab.partB_ok E_sure e23_ok, List.forall_mem_cons.2 ⟨Ab.partB_ok E_sure e24_ok, List.forall_mem_cons.2 ⟨Ab.partB_ok E_sure e25_ok, List.forall_mem_cons.2 ⟨Ab.partB_ok E_sure e26_ok, List.forall_mem_cons.2 ⟨Ab.partB_ok E_sure e27_ok, List.forall_mem_cons.2 ⟨Ab.partB_ok E_sure e28_ok, List.forall_mem_cons.2 ⟨Ab.partB_ok E_sure e29_ok, List.forall_mem_cons.2 ⟨Ab.partB_ok E_sure e30_ok, List.forall_mem_cons.2 ⟨Ab.partB_ok E_sure e31_ok, List.forall_mem_cons.2 ⟨Ab.partB_ok E_sure e32_ok, List.forall_mem_cons.2 ⟨Ab.partB_ok E_sure e33_ok, List.forall_mem_cons.2 ⟨Ab.partB_ok E_sure e34_ok, List.forall_mem_cons.2 ⟨Ab.partB_ok E_sure e35_ok, List.forall_mem_cons.2 ⟨Ab.partB_ok E_sure e36_ok, List.forall_mem_cons.2 ⟨Ab.partB_ok E_sure e37_ok, List.forall_mem_cons.2 ⟨Ab.partB_ok E_sure e38_ok, List.forall_mem_cons.2 ⟨Ab.partB_ok E_sure e39_ok, List.forall_mem_cons.2 ⟨Ab.partB_ok E_sure e40_ok, List.forall_mem_cons.2 ⟨Ab.partB_ok E_sure e41_ok, List.forall_mem_cons.2 ⟨Ab.partB_ok E_sure e42_ok, List.forall_mem_cons.2 ⟨Ab.partB_ok E_sure e43_ok, List.forall_mem_cons.2 ⟨Ab.partB_ok E_sure e44_ok, List.forall_mem_cons.2 ⟨Ab.partB_ok E_sure e45_ok, List.forall_mem_cons.2 ⟨Ab.partB_ok E_sure e46_ok, List.forall_mem_cons.2 ⟨Ab.partB_ok E_sure e47_ok, List.forall_mem_cons.2 ⟨Ab.partB_ok E_sure e48_ok, List.forall_mem_cons.2 ⟨Ab.partB_ok E_sure e49_ok, List.forall_mem_cons.2 ⟨Ab.partB_ok E_sure e50_ok, List.forall_mem_cons.2 ⟨Ab.partB_ok E_sure e51_ok, List.forall_mem_cons.2 ⟨Ab.partB_ok E_sure e52_ok, List.forall_mem_cons.2 ⟨Ab.partB_ok E_sure e53_ok, fun _ h => (by cases h)⟩⟩⟩⟩⟩⟩⟩⟩⟩⟩⟩⟩⟩⟩⟩⟩⟩⟩⟩⟩⟩⟩⟩⟩⟩⟩⟩⟩⟩⟩⟩⟩⟩⟩⟩⟩⟩
def e104 : Ab.Entry := ⟨87059, [(wA 12991 0), (wI 2)], [(12794, Mgb48), (12799, Mgb49), (12988, Mgb51), (12989, Mgb9), (12991, Mgb38), (17790, Mgb121), (17817, Mgb80), (17819, Mgb56), (21347, Mgb53), (21378, Mgb39), (38637, Mgb81)], (.tuple #[(.agg #[(wI 2), (wI 1), (wI 1), (wU 0), (wU 0), (wU 10), (wU 2), (wU 1), (wU 0), (wU 7), (wU 0), (wU 0), (.complex Go.FloatKind.f64 0 0), (.complex Go.FloatKind.f64 0 0), (wU 40), (wU 0), (wU 0), (wU 0), (wU 0), (wU 0), (wU 0), (wU 0), (wU 0), (.complex Go.FloatKind.f64 0 0), (.complex Go.FloatKind.f64 0 0), (wU 0), (wU 0), (wU 0), (wU 0), (wU 0), (wU 0), (wU 0), (wU 0), (wU 0), (wU 0), (wU 0), (wU 0), (wU 0), (wU 0), (wU 0), (wU 0), (wU 0), (wU 0), (wU 0), (.bool false), (wI 0), (wI 0), (wI 0), (wI 0), (wI 0), (wU 0), (wL 87499 0 8 8), (wU 3), (wI 0), (wL 88400 0 3 3)]), (.bool true)]), 91097, [(87499, some Mgb124), (88400, some Mgb125)]⟩
theorem e104_ok : Ab.partB (Ab.envS Tryz.prog 227 374) 3000 60 e104 = true := by kernel_rfl
def l5_60 : List Ab.Entry := [e104]
theorem l5_60_ok : ∀ e ∈ l5_60, Ab.EntryOk Ab.Sig.none Tryz.prog 60 e := List.forall_mem_cons.2 ⟨Ab.partB_ok E_sure e104_ok, fun _ h => (by cases h)⟩
def tab_103_60 : List Ab.Entry := l5_60
theorem tab_103_60_ok : ∀ e ∈ tab_103_60, Ab.EntryOk Ab.Sig.none Tryz.prog 60 e := fun e => fun h => l5_60_ok e h
def full_103 : Ab.Env := (Ab.withTab (Ab.envS Tryz.prog 227 374) 60 tab_103_60)
theorem full_103_sure : Ab.Sure Ab.Sig.none full_103 := (Ab.withTab_sure E_sure rfl tab_103_60_ok)
def e245 : Ab.Entry := ⟨250021, [(wA 209961 0)], [(209961, Mgb232)], (.tuple #[(wI 0), (wI 280)]), 250061, []⟩
theorem e245_ok : Ab.partB (Ab.envS Tryz.prog 227 374) 3000 7 e245 = true := by kernel_rfl
def l37_7 : List Ab.Entry := [e245]
theorem l37_7_ok : ∀ e ∈ l37_7, Ab.EntryOk Ab.Sig.none Tryz.prog 7 e := List.forall_mem_cons.2 ⟨Ab.partB_ok E_sure e245_ok, fun _ h => (by cases h)⟩
def e116 : Ab.Entry := ⟨110188, [wP, (wI 2)], [], (.tuple #[(.agg #[(wI 0), (wI 0), (wI 0), (wU 0), (wU 0), (wU 0), (wU 0), (wU 0), (wU 0), (wU 0), (wU 0), (wU 0), (.complex Go.FloatKind.f64 0 0), (.complex Go.FloatKind.f64 0 0), (wU 0), (wU 0), (wU 0), (wU 0), (wU 0), (wU 0), (wU 0), (wU 0), (wU 0), (.complex Go.FloatKind.f64 0 0), (.complex Go.FloatKind.f64 0 0), (wU 0), (wU 0), (wU 0), (wU 0), (wU 0), (wU 0), (wU 0), (wU 0), (wU 0), (wU 0), (wU 0), (wU 0), (wU 0), (wU 0), (wU 0), (wU 0), (wU 0), (wU 0), (wU 0), (.bool false), (wI 0), (wI 0), (wI 0), (wI 0), (wI 0), (wU 0), (.slice none 0 0), (wU 0), (wI 0), (.slice none 0 0)]), (.bool false)]), 110215, []⟩
theorem e116_ok : Ab.partB (Ab.envS Tryz.prog 227 374) 3000 60 e116 = true := by kernel_rfl
def l11_60 : List Ab.Entry := [e116]
theorem l11_60_ok : ∀ e ∈ l11_60, Ab.EntryOk Ab.Sig.none Tryz.prog 60 e := List.forall_mem_cons.2 ⟨Ab.partB_ok E_sure e116_ok, fun _ h => (by cases h)⟩
def tab_115_60 : List Ab.Entry := l11_60
theorem tab_115_60_ok : ∀ e ∈ tab_115_60, Ab.EntryOk Ab.Sig.none Tryz.prog 60 e := fun e => fun h => l11_60_ok e h
def full_115 : Ab.Env := (Ab.withTab (Ab.envS Tryz.prog 227 374) 60 tab_115_60)
theorem full_115_sure : Ab.Sure Ab.Sig.none full_115 := (Ab.withTab_sure E_sure rfl tab_115_60_ok)
end
end Go.Proofs.YtijnhaadhgoloaaGreatDoor.migrateNames
