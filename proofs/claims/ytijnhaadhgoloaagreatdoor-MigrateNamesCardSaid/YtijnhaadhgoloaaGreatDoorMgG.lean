/- MigrateNames: closed facts of the card, one by one. -/
import Derived.Test.YtijnhaadhgoloaaGreatDoorCards
import Derived.SevenTiedAt
import Derived.KernelRfl
namespace Go.Proofs.YtijnhaadhgoloaaGreatDoor.migrateNames
theorem g1 : OpenClaim.wfByText (OpenSpec.ofChange Rows.migrateNamesSpec) Rows.migrateNamesRow = true := by kernel_rfl
theorem g2 : Tryz.prog.mainIs = some (true, "cbcba671b2b2afe395be0aacce4e17e9f780acc8849663f42f78e528b19e8041".toList) := by kernel_rfl
theorem g3 : Tryz.prog.funcNamed "carryall/carryalllaw28.MigrateNames" = some 3 := by kernel_rfl
theorem g4 : false = Tryz.prog.looks [] := by kernel_rfl
theorem g5 : false = Rows.migrateNamesRow.goesBy Tryz.prog := by kernel_rfl
end Go.Proofs.YtijnhaadhgoloaaGreatDoor.migrateNames
