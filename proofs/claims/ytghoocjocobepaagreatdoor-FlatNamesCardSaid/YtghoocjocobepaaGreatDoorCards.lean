/-
  DERIVED. GIVEN WITH THE SEED: THE CARDS: each row of YtghoocjocobepaaGreatDoorRows.lean that lists a variable, with what it lists TIED to the program's text (the seventh form; the later family's looks); each row that meets fmt, with fmt's text TOLD by the authors' own Lean function (tested against real Go, not proved from fmt's source: count such statements apart). THE CARD IS WHAT COUNTS. Prove the row's statement (the work); the ties are given (YtghoocjocobepaaGreatDoorTie.lean); close each card by the builder's one call (the guide's Derived/Test/ToyasCard.lean, 'card_holds'). Laid BY PROGRAM, IN A SANDBOX (cutbox-door.mjs). By AI agents, Wed Nov 11 2026. No macro, syntax, notation, axiom, sorry.
-/
import Derived.Test.YtghoocjocobepaaGreatDoorRows
import GoSem.ClaimSeven
namespace Go.Proofs.YtghoocjocobepaaGreatDoor
namespace Rows

/-- THE TIED CARD OF 'carryalllaw29.FlatNames'. -/
def flatNamesCard : Claim7 := { stood := { row := flatNamesRow, standIns := [], harness := (true, "2fa474dc33af3b268b61f1c6cef58bfa0602ac906d84c2110ebf455cc13032fd"), looks := false }, kinds := [], alts := [], laidByText := true, laidKinds := [.data, .data, .data, .data, .data, .data, .data, .pinned], laidTests := true, laidLooks := .later }
def FlatNamesCardSaid : Prop := Claim7.holds Tryz.pinned (.plain (OpenSpec.ofChange flatNamesSpec)) flatNamesCard

/-- THE SECOND FORM's CARD OF 'carryalllaw29.FlatNames'. -/
def flatNamesUptoCard : Claim7 := { stood := { row := flatNamesUptoRow, standIns := [], harness := (true, "2fa474dc33af3b268b61f1c6cef58bfa0602ac906d84c2110ebf455cc13032fd"), looks := false }, kinds := [], alts := [], laidByText := true, laidKinds := [.data, .data, .data, .data, .data, .data, .data, .pinned], laidTests := true, laidLooks := .later }
def FlatNamesUptoCardSaid : Prop := Claim7.holds Tryz.pinned (.plain (OpenSpec.upto flatNamesSpec)) flatNamesUptoCard
end Rows
end Go.Proofs.YtghoocjocobepaaGreatDoor
