/-
  DERIVED. GIVEN WITH THE SEED: THE CARDS: each row of YtijnhaadhgoloaaGreatDoorRows.lean that lists a variable, with what it lists TIED to the program's text (the seventh form; the later family's looks); each row that meets fmt, with fmt's text TOLD by the authors' own Lean function (tested against real Go, not proved from fmt's source: count such statements apart). THE CARD IS WHAT COUNTS. Prove the row's statement (the work); the ties are given (YtijnhaadhgoloaaGreatDoorTie.lean); close each card by the builder's one call (the guide's Derived/Test/ToyasCard.lean, 'card_holds'). Laid BY PROGRAM, IN A SANDBOX (cutbox-door.mjs). By AI agents, Wed Nov 11 2026. No macro, syntax, notation, axiom, sorry.
-/
import Derived.Test.YtijnhaadhgoloaaGreatDoorRows
import GoSem.ClaimSeven
namespace Go.Proofs.YtijnhaadhgoloaaGreatDoor
namespace Rows

/-- THE TIED CARD OF 'carryalllaw28.MigrateNames'. -/
def migrateNamesCard : Claim7 := { stood := { row := migrateNamesRow, standIns := [], harness := (true, "cbcba671b2b2afe395be0aacce4e17e9f780acc8849663f42f78e528b19e8041"), looks := false }, kinds := [], alts := [], laidByText := true, laidKinds := [.data, .data, .data, .data, .data, .data, .data, .pinned], laidTests := true, laidLooks := .later }
def MigrateNamesCardSaid : Prop := Claim7.holds Tryz.pinned (.plain (OpenSpec.ofChange migrateNamesSpec)) migrateNamesCard

/-- THE SECOND FORM's CARD OF 'carryalllaw28.MigrateNames'. -/
def migrateNamesUptoCard : Claim7 := { stood := { row := migrateNamesUptoRow, standIns := [], harness := (true, "cbcba671b2b2afe395be0aacce4e17e9f780acc8849663f42f78e528b19e8041"), looks := false }, kinds := [], alts := [], laidByText := true, laidKinds := [.data, .data, .data, .data, .data, .data, .data, .pinned], laidTests := true, laidLooks := .later }
def MigrateNamesUptoCardSaid : Prop := Claim7.holds Tryz.pinned (.plain (OpenSpec.upto migrateNamesSpec)) migrateNamesUptoCard
end Rows
end Go.Proofs.YtijnhaadhgoloaaGreatDoor
