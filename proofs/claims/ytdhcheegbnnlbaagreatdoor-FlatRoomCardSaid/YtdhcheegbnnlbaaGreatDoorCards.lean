/-
  DERIVED. GIVEN WITH THE SEED: THE CARDS: each row of YtdhcheegbnnlbaaGreatDoorRows.lean that lists a variable, with what it lists TIED to the program's text (the seventh form; the later family's looks); each row that meets fmt, with fmt's text TOLD by the authors' own Lean function (tested against real Go, not proved from fmt's source: count such statements apart). THE CARD IS WHAT COUNTS. Prove the row's statement (the work); the ties are given (YtdhcheegbnnlbaaGreatDoorTie.lean); close each card by the builder's one call (the guide's Derived/Test/ToyasCard.lean, 'card_holds'). Laid BY PROGRAM, IN A SANDBOX (cutbox-door.mjs). By AI agents, Wed Nov 11 2026. No macro, syntax, notation, axiom, sorry.
-/
import Derived.Test.YtdhcheegbnnlbaaGreatDoorRows
import GoSem.ClaimSeven
namespace Go.Proofs.YtdhcheegbnnlbaaGreatDoor
namespace Rows

/-- THE TIED CARD OF 'carryalllaw29.FlatPlays'. -/
def flatPlaysCard : Claim7 := { stood := { row := flatPlaysRow, standIns := [], harness := (true, "321ea0ce4ca1a5c6cafea5bfa1eadde91b1bb77fb37b64511a8547b287473786"), looks := false }, kinds := [], alts := [], laidByText := true, laidKinds := [.data, .data, .data], laidTests := true, laidLooks := .later }
def FlatPlaysCardSaid : Prop := Claim7.holds Tryz.pinned (.plain (OpenSpec.ofChange flatPlaysSpec)) flatPlaysCard

/-- THE TIED CARD OF 'carryalllaw29.FlatCores'. -/
def flatCoresCard : Claim7 := { stood := { row := flatCoresRow, standIns := [], harness := (true, "321ea0ce4ca1a5c6cafea5bfa1eadde91b1bb77fb37b64511a8547b287473786"), looks := false }, kinds := [], alts := [], laidByText := true, laidKinds := [.data, .data, .data, .data, .data, .data, .data, .pinned], laidTests := true, laidLooks := .later }
def FlatCoresCardSaid : Prop := Claim7.holds Tryz.pinned (.plain (OpenSpec.ofChange flatCoresSpec)) flatCoresCard

/-- THE TIED CARD OF 'carryalllaw29.FlatRoom'. -/
def flatRoomCard : Claim7 := { stood := { row := flatRoomRow, standIns := [], harness := (true, "321ea0ce4ca1a5c6cafea5bfa1eadde91b1bb77fb37b64511a8547b287473786"), looks := false }, kinds := [], alts := [], laidByText := true, laidKinds := [.data, .data, .data, .data, .data, .data, .data, .pinned], laidTests := true, laidLooks := .later }
def FlatRoomCardSaid : Prop := Claim7.holds Tryz.pinned (.plain (OpenSpec.ofChange flatRoomSpec)) flatRoomCard

/-- THE TIED CARD OF 'carryalllaw29.FlatRefuses'. -/
def flatRefusesCard : Claim7 := { stood := { row := flatRefusesRow, standIns := [], harness := (true, "321ea0ce4ca1a5c6cafea5bfa1eadde91b1bb77fb37b64511a8547b287473786"), looks := false }, kinds := [], alts := [], laidByText := true, laidKinds := [.data, .data, .data, .data, .data, .data, .data, .pinned], laidTests := true, laidLooks := .later }
def FlatRefusesCardSaid : Prop := Claim7.holds Tryz.pinned (.plain (OpenSpec.ofChange flatRefusesSpec)) flatRefusesCard

/-- THE SECOND FORM's CARD OF 'carryalllaw29.FlatPlays'. -/
def flatPlaysUptoCard : Claim7 := { stood := { row := flatPlaysUptoRow, standIns := [], harness := (true, "321ea0ce4ca1a5c6cafea5bfa1eadde91b1bb77fb37b64511a8547b287473786"), looks := false }, kinds := [], alts := [], laidByText := true, laidKinds := [.data, .data, .data], laidTests := true, laidLooks := .later }
def FlatPlaysUptoCardSaid : Prop := Claim7.holds Tryz.pinned (.plain (OpenSpec.upto flatPlaysSpec)) flatPlaysUptoCard

/-- THE SECOND FORM's CARD OF 'carryalllaw29.FlatCores'. -/
def flatCoresUptoCard : Claim7 := { stood := { row := flatCoresUptoRow, standIns := [], harness := (true, "321ea0ce4ca1a5c6cafea5bfa1eadde91b1bb77fb37b64511a8547b287473786"), looks := false }, kinds := [], alts := [], laidByText := true, laidKinds := [.data, .data, .data, .data, .data, .data, .data, .pinned], laidTests := true, laidLooks := .later }
def FlatCoresUptoCardSaid : Prop := Claim7.holds Tryz.pinned (.plain (OpenSpec.upto flatCoresSpec)) flatCoresUptoCard

/-- THE SECOND FORM's CARD OF 'carryalllaw29.FlatRoom'. -/
def flatRoomUptoCard : Claim7 := { stood := { row := flatRoomUptoRow, standIns := [], harness := (true, "321ea0ce4ca1a5c6cafea5bfa1eadde91b1bb77fb37b64511a8547b287473786"), looks := false }, kinds := [], alts := [], laidByText := true, laidKinds := [.data, .data, .data, .data, .data, .data, .data, .pinned], laidTests := true, laidLooks := .later }
def FlatRoomUptoCardSaid : Prop := Claim7.holds Tryz.pinned (.plain (OpenSpec.upto flatRoomSpec)) flatRoomUptoCard

/-- THE SECOND FORM's CARD OF 'carryalllaw29.FlatRefuses'. -/
def flatRefusesUptoCard : Claim7 := { stood := { row := flatRefusesUptoRow, standIns := [], harness := (true, "321ea0ce4ca1a5c6cafea5bfa1eadde91b1bb77fb37b64511a8547b287473786"), looks := false }, kinds := [], alts := [], laidByText := true, laidKinds := [.data, .data, .data, .data, .data, .data, .data, .pinned], laidTests := true, laidLooks := .later }
def FlatRefusesUptoCardSaid : Prop := Claim7.holds Tryz.pinned (.plain (OpenSpec.upto flatRefusesSpec)) flatRefusesUptoCard
end Rows
end Go.Proofs.YtdhcheegbnnlbaaGreatDoor
