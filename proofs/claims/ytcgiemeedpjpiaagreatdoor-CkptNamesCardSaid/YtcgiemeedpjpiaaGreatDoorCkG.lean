/- CkptNames: closed facts of the card, one by one. -/
import Derived.Test.YtcgiemeedpjpiaaGreatDoorCards
import Derived.SevenTiedAt
import Derived.KernelRfl
namespace Go.Proofs.YtcgiemeedpjpiaaGreatDoor.ckptNames
theorem g1 : OpenClaim.wfByText (OpenSpec.ofChange Rows.ckptNamesSpec) Rows.ckptNamesRow = true := by kernel_rfl
theorem g2 : Tryz.prog.mainIs = some (true, "96941dce5f68ac798b49aac3a83b49357713432c7d1666937f5ddceb9499226e".toList) := by kernel_rfl
theorem g3 : Tryz.prog.funcNamed "carryall/carryalllaw26.CkptNames" = some 3 := by kernel_rfl
theorem g4 : false = Tryz.prog.looks [] := by kernel_rfl
theorem g5 : false = Rows.ckptNamesRow.goesBy Tryz.prog := by kernel_rfl
end Go.Proofs.YtcgiemeedpjpiaaGreatDoor.ckptNames
