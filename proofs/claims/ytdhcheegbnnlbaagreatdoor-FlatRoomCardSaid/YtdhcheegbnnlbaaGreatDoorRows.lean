/-
  NARROWER THAN 'FOR EVERY INPUT', by the rows' own cells (each row's printed sentence says how): FlatPlays: laid · FlatCores: laid · FlatRoom: laid · FlatRefuses: laid.
  DERIVED. THE GIVEN ROWS OF THIS SEAT. 4 by the template 'for every input the law returns true; each argument reads behind the call as it read before'; 0 by the template 'total and deterministic' (their statements: YtdhcheegbnnlbaaGreatDoorTotals.lean).
  GIVEN WITH THE SEED: the statements are not yours to turn. If you find one false, say at which input.
  Laid BY PROGRAM, IN A SANDBOX (cutbox-rows.mjs): the forced cells as the released guide's own fill.sh prints them over the translation 006aa51a99951b0a… (all of the seat's roots in one cut). By AI agents, Wed Nov 11 2026. No macro, syntax, notation, axiom, sorry.
-/
import Derived.Test.YtdhcheegbnnlbaaGreatDoorChecked
import GoSem.PinnedTables
import GoSem.Claim
import GoSem.ClaimJoined
import GoSem.ClaimMapViews
import Derived.JoinedTies
import Derived.KernelRfl
namespace Go.Proofs.YtdhcheegbnnlbaaGreatDoor
/- THE CELL 'sum', in the pinned program and in every row, IS THE sha256 OF THE DUMP (.gsa) THAT YtdhcheegbnnlbaaGreatDoorProg.lean LOADS. Nothing in Lean hashes anything: it is a label: what it is worth is what the hold of that sum in a sandbox is worth. -/
noncomputable def Tryz.pinned : Pinned := { name := "ytdhcheegbnnlbaagreatdoor", sum := "006aa51a99951b0a0744c1bfb674c85d8b749659b5dad00298c4841976543d10", checked := Tryz.checked }
namespace Rows
def none {H : Type} : Left H := { results := [], args := [] }

/- WHAT THE LISTED PACKAGE-LEVEL VARIABLES READ AS WHEN THE CALL BEGINS. Each datum BY PROGRAM (the guide's laid-datum.mjs) off the statement by which the dump's own 'gosem.cut.vars' lays the variable. In a bare row this is a premise. The card (YtdhcheegbnnlbaaGreatDoorCards.lean) ties it to the program's text. -/
def laid_carryall_call_kinds {H : Type} : DataW H := .agg [.agg [.lit (.string []), .lit (.int .i64 (-1))], .agg [.lit (.string [101, 120, 105, 116]), .lit (.int .i64 1)], .agg [.lit (.string [102, 111, 114, 107]), .lit (.int .i64 0)], .agg [.lit (.string [119, 97, 105, 116]), .lit (.int .i64 1)], .agg [.lit (.string [103, 101, 116, 112, 105, 100]), .lit (.int .i64 0)], .agg [.lit (.string [103, 101, 116, 112, 112, 105, 100]), .lit (.int .i64 0)], .agg [.lit (.string [112, 105, 112, 101]), .lit (.int .i64 1)], .agg [.lit (.string [114, 101, 97, 100]), .lit (.int .i64 3)], .agg [.lit (.string [119, 114, 105, 116, 101]), .lit (.int .i64 3)], .agg [.lit (.string [99, 108, 111, 115, 101]), .lit (.int .i64 1)], .agg [.lit (.string [100, 117, 112]), .lit (.int .i64 1)], .agg [.lit (.string [107, 105, 108, 108]), .lit (.int .i64 2)], .agg [.lit (.string [109, 97, 115, 107]), .lit (.int .i64 1)], .agg [.lit (.string [104, 97, 110, 100, 108, 101]), .lit (.int .i64 2)], .agg [.lit (.string [115, 105, 103, 114, 101, 116, 117, 114, 110]), .lit (.int .i64 0)], .agg [.lit (.string [102, 117, 116, 101, 120, 119, 97, 105, 116]), .lit (.int .i64 2)], .agg [.lit (.string [102, 117, 116, 101, 120, 119, 97, 107, 101]), .lit (.int .i64 2)], .agg [.lit (.string [115, 108, 101, 101, 112]), .lit (.int .i64 1)], .agg [.lit (.string [121, 105, 101, 108, 100]), .lit (.int .i64 0)], .agg [.lit (.string [109, 97, 112]), .lit (.int .i64 3)], .agg [.lit (.string [117, 110, 109, 97, 112]), .lit (.int .i64 2)], .agg [.lit (.string [97, 102, 102, 105, 110, 105, 116, 121]), .lit (.int .i64 1)], .agg [.lit (.string [112, 114, 105, 110, 116]), .lit (.int .i64 1)]]
def laid_carryall_call_codes {H : Type} : DataW H := .agg [.agg [.lit (.int .i64 1), .lit (.string [69, 80, 69, 82, 77])], .agg [.lit (.int .i64 3), .lit (.string [69, 83, 82, 67, 72])], .agg [.lit (.int .i64 4), .lit (.string [69, 73, 78, 84, 82])], .agg [.lit (.int .i64 9), .lit (.string [69, 66, 65, 68, 70])], .agg [.lit (.int .i64 10), .lit (.string [69, 67, 72, 73, 76, 68])], .agg [.lit (.int .i64 11), .lit (.string [69, 65, 71, 65, 73, 78])], .agg [.lit (.int .i64 12), .lit (.string [69, 78, 79, 77, 69, 77])], .agg [.lit (.int .i64 14), .lit (.string [69, 70, 65, 85, 76, 84])], .agg [.lit (.int .i64 16), .lit (.string [69, 66, 85, 83, 89])], .agg [.lit (.int .i64 22), .lit (.string [69, 73, 78, 86, 65, 76])], .agg [.lit (.int .i64 23), .lit (.string [69, 78, 70, 73, 76, 69])], .agg [.lit (.int .i64 24), .lit (.string [69, 77, 70, 73, 76, 69])], .agg [.lit (.int .i64 32), .lit (.string [69, 80, 73, 80, 69])], .agg [.lit (.int .i64 38), .lit (.string [69, 78, 79, 83, 89, 83])], .agg [.lit (.int .i64 60), .lit (.string [69, 78, 79, 84, 67, 76, 79, 83, 69, 68])]]
def laid_carryall_isa_forms {H : Type} : DataW H := .agg [.agg [.lit (.string [110, 111, 112]), .lit (.int .i64 (-1)), .lit (.int .i64 (-1)), .lit (.bool false)], .agg [.lit (.string [108, 105]), .lit (.int .i64 7), .lit (.int .i64 (-1)), .lit (.bool true)], .agg [.lit (.string [108, 117, 105]), .lit (.int .i64 7), .lit (.int .i64 (-1)), .lit (.bool true)], .agg [.lit (.string [109, 111, 118]), .lit (.int .i64 7), .lit (.int .i64 7), .lit (.bool false)], .agg [.lit (.string [97, 100, 100]), .lit (.int .i64 7), .lit (.int .i64 7), .lit (.bool false)], .agg [.lit (.string [115, 117, 98]), .lit (.int .i64 7), .lit (.int .i64 7), .lit (.bool false)], .agg [.lit (.string [109, 117, 108]), .lit (.int .i64 7), .lit (.int .i64 7), .lit (.bool false)], .agg [.lit (.string [97, 110, 100]), .lit (.int .i64 7), .lit (.int .i64 7), .lit (.bool false)], .agg [.lit (.string [111, 114]), .lit (.int .i64 7), .lit (.int .i64 7), .lit (.bool false)], .agg [.lit (.string [120, 111, 114]), .lit (.int .i64 7), .lit (.int .i64 7), .lit (.bool false)], .agg [.lit (.string [115, 104, 108]), .lit (.int .i64 7), .lit (.int .i64 7), .lit (.bool false)], .agg [.lit (.string [115, 104, 114]), .lit (.int .i64 7), .lit (.int .i64 7), .lit (.bool false)], .agg [.lit (.string [97, 100, 100, 105]), .lit (.int .i64 7), .lit (.int .i64 (-1)), .lit (.bool true)], .agg [.lit (.string [115, 108, 116]), .lit (.int .i64 7), .lit (.int .i64 7), .lit (.bool false)], .agg [.lit (.string [115, 101, 113]), .lit (.int .i64 7), .lit (.int .i64 7), .lit (.bool false)], .agg [.lit (.string [108, 119]), .lit (.int .i64 7), .lit (.int .i64 7), .lit (.bool true)], .agg [.lit (.string [115, 119]), .lit (.int .i64 7), .lit (.int .i64 7), .lit (.bool true)], .agg [.lit (.string [108, 98]), .lit (.int .i64 7), .lit (.int .i64 7), .lit (.bool true)], .agg [.lit (.string [115, 98]), .lit (.int .i64 7), .lit (.int .i64 7), .lit (.bool true)], .agg [.lit (.string [106, 109, 112]), .lit (.int .i64 (-1)), .lit (.int .i64 (-1)), .lit (.bool true)], .agg [.lit (.string [106, 122]), .lit (.int .i64 7), .lit (.int .i64 (-1)), .lit (.bool true)], .agg [.lit (.string [106, 110, 122]), .lit (.int .i64 7), .lit (.int .i64 (-1)), .lit (.bool true)], .agg [.lit (.string [106, 97, 108]), .lit (.int .i64 7), .lit (.int .i64 (-1)), .lit (.bool true)], .agg [.lit (.string [106, 114]), .lit (.int .i64 7), .lit (.int .i64 (-1)), .lit (.bool false)], .agg [.lit (.string [115, 121, 115]), .lit (.int .i64 (-1)), .lit (.int .i64 (-1)), .lit (.bool false)], .agg [.lit (.string [122, 115, 101, 116]), .lit (.int .i64 1), .lit (.int .i64 6), .lit (.bool false)], .agg [.lit (.string [122, 103, 101, 116]), .lit (.int .i64 1), .lit (.int .i64 6), .lit (.bool false)], .agg [.lit (.string [122, 97, 100, 100]), .lit (.int .i64 1), .lit (.int .i64 1), .lit (.bool false)], .agg [.lit (.string [122, 109, 117, 108]), .lit (.int .i64 1), .lit (.int .i64 1), .lit (.bool false)], .agg [.lit (.string [122, 99, 111, 110, 106]), .lit (.int .i64 1), .lit (.int .i64 (-1)), .lit (.bool false)]]
def laid_math_bits_deBruijn32tab {H : Type} : DataW H := .agg [.lit (.int .u8 0), .lit (.int .u8 1), .lit (.int .u8 28), .lit (.int .u8 2), .lit (.int .u8 29), .lit (.int .u8 14), .lit (.int .u8 24), .lit (.int .u8 3), .lit (.int .u8 30), .lit (.int .u8 22), .lit (.int .u8 20), .lit (.int .u8 15), .lit (.int .u8 25), .lit (.int .u8 17), .lit (.int .u8 4), .lit (.int .u8 8), .lit (.int .u8 31), .lit (.int .u8 27), .lit (.int .u8 13), .lit (.int .u8 23), .lit (.int .u8 21), .lit (.int .u8 19), .lit (.int .u8 16), .lit (.int .u8 7), .lit (.int .u8 26), .lit (.int .u8 12), .lit (.int .u8 18), .lit (.int .u8 6), .lit (.int .u8 11), .lit (.int .u8 5), .lit (.int .u8 10), .lit (.int .u8 9)]
def laid_math_bits_deBruijn64tab {H : Type} : DataW H := .agg [.lit (.int .u8 0), .lit (.int .u8 1), .lit (.int .u8 56), .lit (.int .u8 2), .lit (.int .u8 57), .lit (.int .u8 49), .lit (.int .u8 28), .lit (.int .u8 3), .lit (.int .u8 61), .lit (.int .u8 58), .lit (.int .u8 42), .lit (.int .u8 50), .lit (.int .u8 38), .lit (.int .u8 29), .lit (.int .u8 17), .lit (.int .u8 4), .lit (.int .u8 62), .lit (.int .u8 47), .lit (.int .u8 59), .lit (.int .u8 36), .lit (.int .u8 45), .lit (.int .u8 43), .lit (.int .u8 51), .lit (.int .u8 22), .lit (.int .u8 53), .lit (.int .u8 39), .lit (.int .u8 33), .lit (.int .u8 30), .lit (.int .u8 24), .lit (.int .u8 18), .lit (.int .u8 12), .lit (.int .u8 5), .lit (.int .u8 63), .lit (.int .u8 55), .lit (.int .u8 48), .lit (.int .u8 27), .lit (.int .u8 60), .lit (.int .u8 41), .lit (.int .u8 37), .lit (.int .u8 16), .lit (.int .u8 46), .lit (.int .u8 35), .lit (.int .u8 44), .lit (.int .u8 21), .lit (.int .u8 52), .lit (.int .u8 32), .lit (.int .u8 23), .lit (.int .u8 11), .lit (.int .u8 54), .lit (.int .u8 26), .lit (.int .u8 40), .lit (.int .u8 15), .lit (.int .u8 34), .lit (.int .u8 20), .lit (.int .u8 31), .lit (.int .u8 10), .lit (.int .u8 25), .lit (.int .u8 14), .lit (.int .u8 19), .lit (.int .u8 9), .lit (.int .u8 13), .lit (.int .u8 8), .lit (.int .u8 7), .lit (.int .u8 6)]
def laid_internal_strconv_uint64pow10 {H : Type} : DataW H := .agg [.lit (.int .u64 1), .lit (.int .u64 10), .lit (.int .u64 100), .lit (.int .u64 1000), .lit (.int .u64 10000), .lit (.int .u64 100000), .lit (.int .u64 1000000), .lit (.int .u64 10000000), .lit (.int .u64 100000000), .lit (.int .u64 1000000000), .lit (.int .u64 10000000000), .lit (.int .u64 100000000000), .lit (.int .u64 1000000000000), .lit (.int .u64 10000000000000), .lit (.int .u64 100000000000000), .lit (.int .u64 1000000000000000), .lit (.int .u64 10000000000000000), .lit (.int .u64 100000000000000000), .lit (.int .u64 1000000000000000000), .lit (.int .u64 10000000000000000000)]
def laid_unicode_utf8_acceptRanges {H : Type} : DataW H := .agg [.agg [.lit (.int .u8 128), .lit (.int .u8 191)], .agg [.lit (.int .u8 160), .lit (.int .u8 191)], .agg [.lit (.int .u8 128), .lit (.int .u8 159)], .agg [.lit (.int .u8 144), .lit (.int .u8 191)], .agg [.lit (.int .u8 128), .lit (.int .u8 143)], .agg [.lit (.int .u8 0), .lit (.int .u8 0)], .agg [.lit (.int .u8 0), .lit (.int .u8 0)], .agg [.lit (.int .u8 0), .lit (.int .u8 0)], .agg [.lit (.int .u8 0), .lit (.int .u8 0)], .agg [.lit (.int .u8 0), .lit (.int .u8 0)], .agg [.lit (.int .u8 0), .lit (.int .u8 0)], .agg [.lit (.int .u8 0), .lit (.int .u8 0)], .agg [.lit (.int .u8 0), .lit (.int .u8 0)], .agg [.lit (.int .u8 0), .lit (.int .u8 0)], .agg [.lit (.int .u8 0), .lit (.int .u8 0)], .agg [.lit (.int .u8 0), .lit (.int .u8 0)]]
/-- One of Go's own tables, pinned by name: the form's constant. -/
def laid_unicode_utf8_first : DataW Unit := Go.Pinned.utf8First

/-- 'carryalllaw29.FlatPlays': WHATEVER THE INPUT: true; the input reads as it did. -/
def flatPlaysSpec : ChangeSpec := { name := "flatPlays", fn := fun _ => fun
  | [d1, d2] => { results := [.lit (.bool true)], args := [d1, d2] }
  | _ => none }
def flatPlaysRow : OpenClaim := { program := "ytdhcheegbnnlbaagreatdoor", sum := "006aa51a99951b0a0744c1bfb674c85d8b749659b5dad00298c4841976543d10", func := "carryall/carryalllaw29.FlatPlays", spec := "flatPlays", inPlace := ["math.archFloor", "math.Float64bits", "math.Float64frombits", "math.archTrunc"], unfollowed := true, recurses := true, named := ["carryall/call.codes", "carryall/call.kinds", "carryall/isa.forms"], apart := false, laid := [("carryall/call.kinds", laid_carryall_call_kinds), ("carryall/call.codes", laid_carryall_call_codes), ("carryall/isa.forms", laid_carryall_isa_forms)] }
def FlatPlaysSaid : Prop := flatPlaysRow.holds Tryz.pinned (OpenSpec.ofChange flatPlaysSpec)

/-- ITS FALSE NEIGHBOUR: 'it returns false'. Refute it at one input. -/
def flatPlaysWrong : ChangeSpec := { name := "flatPlays", fn := fun _ => fun
  | [d1, d2] => { results := [.lit (.bool false)], args := [d1, d2] }
  | _ => none }
def FlatPlaysWrongFalsely : Prop := flatPlaysRow.holds Tryz.pinned (OpenSpec.ofChange flatPlaysWrong)

/-- 'carryalllaw29.FlatCores': WHATEVER THE INPUT: true; the input reads as it did. -/
def flatCoresSpec : ChangeSpec := { name := "flatCores", fn := fun _ => fun
  | [d1, d2, d3] => { results := [.lit (.bool true)], args := [d1, d2, d3] }
  | _ => none }
def flatCoresRow : OpenClaim := { program := "ytdhcheegbnnlbaagreatdoor", sum := "006aa51a99951b0a0744c1bfb674c85d8b749659b5dad00298c4841976543d10", func := "carryall/carryalllaw29.FlatCores", spec := "flatCores", inPlace := ["internal/bytealg.IndexByteString", "internal/bytealg.CountString", "internal/bytealg.IndexString", "math.archFloor", "math.Float64bits", "math.Float64frombits", "math.archTrunc"], unfollowed := true, recurses := true, named := ["internal/strconv.uint64pow10", "math/bits.deBruijn32tab", "math/bits.deBruijn64tab", "unicode/utf8.first", "unicode/utf8.acceptRanges", "internal/bytealg.MaxLen", "carryall/isa.forms", "carryall/call.codes", "carryall/call.kinds"], apart := false, laid := [("math/bits.deBruijn32tab", laid_math_bits_deBruijn32tab), ("math/bits.deBruijn64tab", laid_math_bits_deBruijn64tab), ("internal/strconv.uint64pow10", laid_internal_strconv_uint64pow10), ("unicode/utf8.acceptRanges", laid_unicode_utf8_acceptRanges), ("carryall/call.kinds", laid_carryall_call_kinds), ("carryall/call.codes", laid_carryall_call_codes), ("carryall/isa.forms", laid_carryall_isa_forms), ("unicode/utf8.first", laid_unicode_utf8_first)] }
def FlatCoresSaid : Prop := flatCoresRow.holds Tryz.pinned (OpenSpec.ofChange flatCoresSpec)

/-- ITS FALSE NEIGHBOUR: 'it returns false'. Refute it at one input. -/
def flatCoresWrong : ChangeSpec := { name := "flatCores", fn := fun _ => fun
  | [d1, d2, d3] => { results := [.lit (.bool false)], args := [d1, d2, d3] }
  | _ => none }
def FlatCoresWrongFalsely : Prop := flatCoresRow.holds Tryz.pinned (OpenSpec.ofChange flatCoresWrong)

/-- 'carryalllaw29.FlatRoom': WHATEVER THE INPUT: true; the input reads as it did. -/
def flatRoomSpec : ChangeSpec := { name := "flatRoom", fn := fun _ => fun
  | [d1, d2] => { results := [.lit (.bool true)], args := [d1, d2] }
  | _ => none }
def flatRoomRow : OpenClaim := { program := "ytdhcheegbnnlbaagreatdoor", sum := "006aa51a99951b0a0744c1bfb674c85d8b749659b5dad00298c4841976543d10", func := "carryall/carryalllaw29.FlatRoom", spec := "flatRoom", inPlace := ["internal/bytealg.IndexByteString", "internal/bytealg.CountString", "internal/bytealg.IndexString", "math.archFloor", "math.Float64bits", "math.Float64frombits", "math.archTrunc"], unfollowed := true, recurses := true, named := ["internal/strconv.uint64pow10", "math/bits.deBruijn32tab", "math/bits.deBruijn64tab", "unicode/utf8.first", "unicode/utf8.acceptRanges", "internal/bytealg.MaxLen", "carryall/isa.forms", "carryall/call.codes", "carryall/call.kinds"], apart := false, laid := [("math/bits.deBruijn32tab", laid_math_bits_deBruijn32tab), ("math/bits.deBruijn64tab", laid_math_bits_deBruijn64tab), ("internal/strconv.uint64pow10", laid_internal_strconv_uint64pow10), ("unicode/utf8.acceptRanges", laid_unicode_utf8_acceptRanges), ("carryall/call.kinds", laid_carryall_call_kinds), ("carryall/call.codes", laid_carryall_call_codes), ("carryall/isa.forms", laid_carryall_isa_forms), ("unicode/utf8.first", laid_unicode_utf8_first)] }
def FlatRoomSaid : Prop := flatRoomRow.holds Tryz.pinned (OpenSpec.ofChange flatRoomSpec)

/-- ITS FALSE NEIGHBOUR: 'it returns false'. Refute it at one input. -/
def flatRoomWrong : ChangeSpec := { name := "flatRoom", fn := fun _ => fun
  | [d1, d2] => { results := [.lit (.bool false)], args := [d1, d2] }
  | _ => none }
def FlatRoomWrongFalsely : Prop := flatRoomRow.holds Tryz.pinned (OpenSpec.ofChange flatRoomWrong)

/-- 'carryalllaw29.FlatRefuses': WHATEVER THE INPUT: true; the input reads as it did. -/
def flatRefusesSpec : ChangeSpec := { name := "flatRefuses", fn := fun _ => fun
  | [d1, d2, d3] => { results := [.lit (.bool true)], args := [d1, d2, d3] }
  | _ => none }
def flatRefusesRow : OpenClaim := { program := "ytdhcheegbnnlbaagreatdoor", sum := "006aa51a99951b0a0744c1bfb674c85d8b749659b5dad00298c4841976543d10", func := "carryall/carryalllaw29.FlatRefuses", spec := "flatRefuses", inPlace := ["internal/bytealg.IndexByteString", "internal/bytealg.CountString", "internal/bytealg.IndexString", "math.archFloor", "math.Float64bits", "math.Float64frombits", "math.archTrunc"], unfollowed := true, recurses := true, named := ["internal/strconv.uint64pow10", "math/bits.deBruijn32tab", "math/bits.deBruijn64tab", "unicode/utf8.first", "unicode/utf8.acceptRanges", "internal/bytealg.MaxLen", "carryall/isa.forms", "carryall/call.codes", "carryall/call.kinds"], apart := false, laid := [("math/bits.deBruijn32tab", laid_math_bits_deBruijn32tab), ("math/bits.deBruijn64tab", laid_math_bits_deBruijn64tab), ("internal/strconv.uint64pow10", laid_internal_strconv_uint64pow10), ("unicode/utf8.acceptRanges", laid_unicode_utf8_acceptRanges), ("carryall/call.kinds", laid_carryall_call_kinds), ("carryall/call.codes", laid_carryall_call_codes), ("carryall/isa.forms", laid_carryall_isa_forms), ("unicode/utf8.first", laid_unicode_utf8_first)] }
def FlatRefusesSaid : Prop := flatRefusesRow.holds Tryz.pinned (OpenSpec.ofChange flatRefusesSpec)

/-- ITS FALSE NEIGHBOUR: 'it returns false'. Refute it at one input. -/
def flatRefusesWrong : ChangeSpec := { name := "flatRefuses", fn := fun _ => fun
  | [d1, d2, d3] => { results := [.lit (.bool false)], args := [d1, d2, d3] }
  | _ => none }
def FlatRefusesWrongFalsely : Prop := flatRefusesRow.holds Tryz.pinned (OpenSpec.ofChange flatRefusesWrong)

/- THE SECOND FORM. 'bulk': how many values and letters a reading holds, each counted each time it is reached (what is shared counts as often as it is met; a slice's spare places count too). A statement '..UptoSaid' is the law's where the arguments, and the package variables that the reading takes, are together of bulk at most 1048576: NARROWER than '..Said'. Prove '..Said' where nothing that the law and all that it calls make is longer than what came in: it says more and counts as full. Else prove '..UptoSaid'. A law counts once. -/
mutual
def uptoBulk {H : Type} : DataW H → Nat
  | .lit (.string bytes) => bytes.length + 1
  | .lit _ => 1
  | .nil => 1
  | .ptr d => uptoBulk d + 1
  | .slice elems spare => uptoBulkAll elems + uptoBulkAll spare + 1
  | .agg parts => uptoBulkAll parts + 1
  | .iface _ d => uptoBulk d + 1
  | .map entries => uptoBulkEntries entries + 1
  | .held _ => 1
def uptoBulkAll {H : Type} : List (DataW H) → Nat
  | [] => 0
  | d :: r => uptoBulk d + uptoBulkAll r
def uptoBulkEntries {H : Type} : List (Lit × DataW H) → Nat
  | [] => 0
  | x :: r => uptoBulkEntry x + uptoBulkEntries r
def uptoBulkEntry {H : Type} : Lit × DataW H → Nat
  | (.string bytes, d) => bytes.length + uptoBulk d + 1
  | (_, d) => uptoBulk d + 1
 end
def uptoSmall : (H : Type) → List (DataW H) → Bool := fun _ ds => decide (uptoBulkAll ds ≤ 1048576)
def OpenSpec.upto (s : _root_.Go.ChangeSpec) : _root_.Go.OpenSpec := { _root_.Go.OpenSpec.ofChange s with cond := some uptoSmall }

/-- 'carryalllaw29.FlatPlays', WHERE WHAT IT READS IS OF BULK AT MOST 1048576: true; the input reads as it did. -/
def flatPlaysUptoRow : OpenClaim := { program := "ytdhcheegbnnlbaagreatdoor", sum := "006aa51a99951b0a0744c1bfb674c85d8b749659b5dad00298c4841976543d10", func := "carryall/carryalllaw29.FlatPlays", spec := "flatPlays", inPlace := ["math.archFloor", "math.Float64bits", "math.Float64frombits", "math.archTrunc"], unfollowed := true, recurses := true, named := ["carryall/call.codes", "carryall/call.kinds", "carryall/isa.forms"], apart := false, laid := [("carryall/call.kinds", laid_carryall_call_kinds), ("carryall/call.codes", laid_carryall_call_codes), ("carryall/isa.forms", laid_carryall_isa_forms)], narrowed := true }
def FlatPlaysUptoSaid : Prop := flatPlaysUptoRow.holds Tryz.pinned (OpenSpec.upto flatPlaysSpec)

/-- 'carryalllaw29.FlatCores', WHERE WHAT IT READS IS OF BULK AT MOST 1048576: true; the input reads as it did. -/
def flatCoresUptoRow : OpenClaim := { program := "ytdhcheegbnnlbaagreatdoor", sum := "006aa51a99951b0a0744c1bfb674c85d8b749659b5dad00298c4841976543d10", func := "carryall/carryalllaw29.FlatCores", spec := "flatCores", inPlace := ["internal/bytealg.IndexByteString", "internal/bytealg.CountString", "internal/bytealg.IndexString", "math.archFloor", "math.Float64bits", "math.Float64frombits", "math.archTrunc"], unfollowed := true, recurses := true, named := ["internal/strconv.uint64pow10", "math/bits.deBruijn32tab", "math/bits.deBruijn64tab", "unicode/utf8.first", "unicode/utf8.acceptRanges", "internal/bytealg.MaxLen", "carryall/isa.forms", "carryall/call.codes", "carryall/call.kinds"], apart := false, laid := [("math/bits.deBruijn32tab", laid_math_bits_deBruijn32tab), ("math/bits.deBruijn64tab", laid_math_bits_deBruijn64tab), ("internal/strconv.uint64pow10", laid_internal_strconv_uint64pow10), ("unicode/utf8.acceptRanges", laid_unicode_utf8_acceptRanges), ("carryall/call.kinds", laid_carryall_call_kinds), ("carryall/call.codes", laid_carryall_call_codes), ("carryall/isa.forms", laid_carryall_isa_forms), ("unicode/utf8.first", laid_unicode_utf8_first)], narrowed := true }
def FlatCoresUptoSaid : Prop := flatCoresUptoRow.holds Tryz.pinned (OpenSpec.upto flatCoresSpec)

/-- 'carryalllaw29.FlatRoom', WHERE WHAT IT READS IS OF BULK AT MOST 1048576: true; the input reads as it did. -/
def flatRoomUptoRow : OpenClaim := { program := "ytdhcheegbnnlbaagreatdoor", sum := "006aa51a99951b0a0744c1bfb674c85d8b749659b5dad00298c4841976543d10", func := "carryall/carryalllaw29.FlatRoom", spec := "flatRoom", inPlace := ["internal/bytealg.IndexByteString", "internal/bytealg.CountString", "internal/bytealg.IndexString", "math.archFloor", "math.Float64bits", "math.Float64frombits", "math.archTrunc"], unfollowed := true, recurses := true, named := ["internal/strconv.uint64pow10", "math/bits.deBruijn32tab", "math/bits.deBruijn64tab", "unicode/utf8.first", "unicode/utf8.acceptRanges", "internal/bytealg.MaxLen", "carryall/isa.forms", "carryall/call.codes", "carryall/call.kinds"], apart := false, laid := [("math/bits.deBruijn32tab", laid_math_bits_deBruijn32tab), ("math/bits.deBruijn64tab", laid_math_bits_deBruijn64tab), ("internal/strconv.uint64pow10", laid_internal_strconv_uint64pow10), ("unicode/utf8.acceptRanges", laid_unicode_utf8_acceptRanges), ("carryall/call.kinds", laid_carryall_call_kinds), ("carryall/call.codes", laid_carryall_call_codes), ("carryall/isa.forms", laid_carryall_isa_forms), ("unicode/utf8.first", laid_unicode_utf8_first)], narrowed := true }
def FlatRoomUptoSaid : Prop := flatRoomUptoRow.holds Tryz.pinned (OpenSpec.upto flatRoomSpec)

/-- 'carryalllaw29.FlatRefuses', WHERE WHAT IT READS IS OF BULK AT MOST 1048576: true; the input reads as it did. -/
def flatRefusesUptoRow : OpenClaim := { program := "ytdhcheegbnnlbaagreatdoor", sum := "006aa51a99951b0a0744c1bfb674c85d8b749659b5dad00298c4841976543d10", func := "carryall/carryalllaw29.FlatRefuses", spec := "flatRefuses", inPlace := ["internal/bytealg.IndexByteString", "internal/bytealg.CountString", "internal/bytealg.IndexString", "math.archFloor", "math.Float64bits", "math.Float64frombits", "math.archTrunc"], unfollowed := true, recurses := true, named := ["internal/strconv.uint64pow10", "math/bits.deBruijn32tab", "math/bits.deBruijn64tab", "unicode/utf8.first", "unicode/utf8.acceptRanges", "internal/bytealg.MaxLen", "carryall/isa.forms", "carryall/call.codes", "carryall/call.kinds"], apart := false, laid := [("math/bits.deBruijn32tab", laid_math_bits_deBruijn32tab), ("math/bits.deBruijn64tab", laid_math_bits_deBruijn64tab), ("internal/strconv.uint64pow10", laid_internal_strconv_uint64pow10), ("unicode/utf8.acceptRanges", laid_unicode_utf8_acceptRanges), ("carryall/call.kinds", laid_carryall_call_kinds), ("carryall/call.codes", laid_carryall_call_codes), ("carryall/isa.forms", laid_carryall_isa_forms), ("unicode/utf8.first", laid_unicode_utf8_first)], narrowed := true }
def FlatRefusesUptoSaid : Prop := flatRefusesUptoRow.holds Tryz.pinned (OpenSpec.upto flatRefusesSpec)

end Rows
end Go.Proofs.YtdhcheegbnnlbaaGreatDoor
