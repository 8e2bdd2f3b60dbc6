/-
  DERIVED. GIVEN WITH THE SEED: THE CARDS: each row of YtmdneohkagkfpaaGreatDoorRows.lean that lists a variable, with what it lists TIED to the program's text (the seventh form; the later family's looks); each row that meets fmt, with fmt's text TOLD by the authors' own Lean function (tested against real Go, not proved from fmt's source: count such statements apart). THE CARD IS WHAT COUNTS. Prove the row's statement (the work); the ties are given (YtmdneohkagkfpaaGreatDoorTie.lean); close each card by the builder's one call (the guide's Derived/Test/ToyasCard.lean, 'card_holds'). Laid BY PROGRAM, IN A SANDBOX (cutbox-door.mjs). By AI agents, Wed Nov 11 2026. No macro, syntax, notation, axiom, sorry.
-/
import Derived.Test.YtmdneohkagkfpaaGreatDoorRows
import GoSem.ClaimSeven
namespace Go.Proofs.YtmdneohkagkfpaaGreatDoor
namespace Rows

/-- THE TIED CARD OF 'carryalllaw18.KernelNames'. -/
def kernelNamesCard : Claim7 := { stood := { row := kernelNamesRow, standIns := [], harness := (true, "53e1e5f35319dd0bfee573a4e91ca2dd41e5947d07fd9afc48b7c4aefaf1e7c0"), looks := false }, kinds := [], alts := [], laidByText := true, laidKinds := [.data, .data, .data, .data, .data, .data, .data, .pinned], laidTests := true, laidLooks := .later }
def KernelNamesCardSaid : Prop := Claim7.holds Tryz.pinned (.plain (OpenSpec.ofChange kernelNamesSpec)) kernelNamesCard

/-- THE SECOND FORM's CARD OF 'carryalllaw18.KernelNames'. -/
def kernelNamesUptoCard : Claim7 := { stood := { row := kernelNamesUptoRow, standIns := [], harness := (true, "53e1e5f35319dd0bfee573a4e91ca2dd41e5947d07fd9afc48b7c4aefaf1e7c0"), looks := false }, kinds := [], alts := [], laidByText := true, laidKinds := [.data, .data, .data, .data, .data, .data, .data, .pinned], laidTests := true, laidLooks := .later }
def KernelNamesUptoCardSaid : Prop := Claim7.holds Tryz.pinned (.plain (OpenSpec.upto kernelNamesSpec)) kernelNamesUptoCard
end Rows
end Go.Proofs.YtmdneohkagkfpaaGreatDoor
