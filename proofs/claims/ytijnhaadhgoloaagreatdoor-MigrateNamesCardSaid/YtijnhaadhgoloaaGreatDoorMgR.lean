/- MigrateNames: the run itself, its great calls by the tables. -/
import Derived.Test.YtijnhaadhgoloaaGreatDoorMgP10
import Derived.Test.YtijnhaadhgoloaaGreatDoorAbY
import Derived.Test.YtijnhaadhgoloaaGreatDoorRows
namespace Go.Proofs.YtijnhaadhgoloaaGreatDoor.migrateNames
set_option linter.unusedVariables false
abbrev laid1 : List (String × DataW Unit) := [("math/bits.deBruijn32tab", Rows.laid_math_bits_deBruijn32tab), ("math/bits.deBruijn64tab", Rows.laid_math_bits_deBruijn64tab), ("internal/strconv.uint64pow10", Rows.laid_internal_strconv_uint64pow10), ("unicode/utf8.acceptRanges", Rows.laid_unicode_utf8_acceptRanges), ("carryall/call.kinds", Rows.laid_carryall_call_kinds), ("carryall/call.codes", Rows.laid_carryall_call_codes), ("carryall/isa.forms", Rows.laid_carryall_isa_forms), ("unicode/utf8.first", Rows.laid_unicode_utf8_first)]
noncomputable def tabs : List (Nat × List Value) := (Ab.tabsOf Tryz.prog laid1).getD []
theorem tabs_eq : Ab.tabsOf Tryz.prog laid1 = some tabs := by
  have h : (Ab.tabsOf Tryz.prog laid1).isSome = true := by kernel_rfl
  unfold tabs
  cases e : Ab.tabsOf Tryz.prog laid1 with
  | none => rw [e] at h; cases h
  | some t => rfl

theorem names_run : Ab.isTrueF (Ab.runF full 3000 (.call 3 []) (Ab.tabMem tabs)) = true := by kernel_rfl

end Go.Proofs.YtijnhaadhgoloaaGreatDoor.migrateNames
