/- FlatRoom: closed facts of the card, one by one. -/
import Derived.Test.YtdhcheegbnnlbaaGreatDoorCards
import Derived.SevenTiedAt
import Derived.KernelRfl
namespace Go.Proofs.YtdhcheegbnnlbaaGreatDoor.flatRoom
theorem g1 : OpenClaim.wfByText (OpenSpec.ofChange Rows.flatRoomSpec) Rows.flatRoomRow = true := by kernel_rfl
theorem g2 : Tryz.prog.mainIs = some (true, "321ea0ce4ca1a5c6cafea5bfa1eadde91b1bb77fb37b64511a8547b287473786".toList) := by kernel_rfl
theorem g3 : Tryz.prog.funcNamed "carryall/carryalllaw29.FlatRoom" = some 5 := by kernel_rfl
theorem g4 : false = Tryz.prog.looks [] := by kernel_rfl
theorem g5 : false = Rows.flatRoomRow.goesBy Tryz.prog := by kernel_rfl
theorem g6 : ([24, 25].all fun u => !Tryz.prog.wantsStandIn u) = true := by kernel_rfl
end Go.Proofs.YtdhcheegbnnlbaaGreatDoor.flatRoom
