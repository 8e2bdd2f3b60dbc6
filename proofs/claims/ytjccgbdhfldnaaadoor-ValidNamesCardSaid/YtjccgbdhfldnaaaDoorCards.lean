/-
  DERIVED. GIVEN WITH THE SEED: THE CARDS: each row of YtjccgbdhfldnaaaDoorRows.lean that lists a variable, with what it lists TIED to the program's text (the seventh form; the later family's looks); each row that meets fmt, with fmt's text TOLD by the authors' own Lean function (tested against real Go, not proved from fmt's source: count such statements apart). THE CARD IS WHAT COUNTS. Prove the row's statement (the work); the ties are given (YtjccgbdhfldnaaaDoorTie.lean); close each card by the builder's one call (the guide's Derived/Test/ToyasCard.lean, 'card_holds'). Laid BY PROGRAM, IN A SANDBOX (cutbox-door.mjs). By AI agents, Wed Nov 11 2026. No macro, syntax, notation, axiom, sorry.
-/
import Derived.Test.YtjccgbdhfldnaaaDoorRows
import GoSem.ClaimSeven
namespace Go.Proofs.YtjccgbdhfldnaaaDoor
namespace Rows

/-- THE TIED CARD OF 'carryalllaw25.ValidNames'. -/
def validNamesCard : Claim7 := { stood := { row := validNamesRow, standIns := [], harness := (true, "117937d1be8ca918011e6036c82e49f02688a71cc95d398ee093d4ffb802eef3"), looks := false }, kinds := [], alts := [], laidByText := true, laidKinds := [.data], laidTests := true, laidLooks := .later }
def ValidNamesCardSaid : Prop := Claim7.holds Tryd.pinned (.plain (OpenSpec.ofChange validNamesSpec)) validNamesCard

/-- THE SECOND FORM's CARD OF 'carryalllaw25.ValidNames'. -/
def validNamesUptoCard : Claim7 := { stood := { row := validNamesUptoRow, standIns := [], harness := (true, "117937d1be8ca918011e6036c82e49f02688a71cc95d398ee093d4ffb802eef3"), looks := false }, kinds := [], alts := [], laidByText := true, laidKinds := [.data], laidTests := true, laidLooks := .later }
def ValidNamesUptoCardSaid : Prop := Claim7.holds Tryd.pinned (.plain (OpenSpec.upto validNamesSpec)) validNamesUptoCard
end Rows
end Go.Proofs.YtjccgbdhfldnaaaDoor
