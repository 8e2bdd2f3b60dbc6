/-
  DERIVED. GIVEN WITH THE SEED: THE CARDS: each row of YtcgiemeedpjpiaaGreatDoorRows.lean that lists a variable, with what it lists TIED to the program's text (the seventh form; the later family's looks); each row that meets fmt, with fmt's text TOLD by the authors' own Lean function (tested against real Go, not proved from fmt's source: count such statements apart). THE CARD IS WHAT COUNTS. Prove the row's statement (the work); the ties are given (YtcgiemeedpjpiaaGreatDoorTie.lean); close each card by the builder's one call (the guide's Derived/Test/ToyasCard.lean, 'card_holds'). Laid BY PROGRAM, IN A SANDBOX (cutbox-door.mjs). By AI agents, Wed Nov 11 2026. No macro, syntax, notation, axiom, sorry.
-/
import Derived.Test.YtcgiemeedpjpiaaGreatDoorRows
import GoSem.ClaimSeven
namespace Go.Proofs.YtcgiemeedpjpiaaGreatDoor
namespace Rows

/-- THE TIED CARD OF 'carryalllaw26.CkptNames'. -/
def ckptNamesCard : Claim7 := { stood := { row := ckptNamesRow, standIns := [], harness := (true, "96941dce5f68ac798b49aac3a83b49357713432c7d1666937f5ddceb9499226e"), looks := false }, kinds := [], alts := [], laidByText := true, laidKinds := [.data, .data, .data, .data, .data, .data, .data, .pinned], laidTests := true, laidLooks := .later }
def CkptNamesCardSaid : Prop := Claim7.holds Tryz.pinned (.plain (OpenSpec.ofChange ckptNamesSpec)) ckptNamesCard

/-- THE SECOND FORM's CARD OF 'carryalllaw26.CkptNames'. -/
def ckptNamesUptoCard : Claim7 := { stood := { row := ckptNamesUptoRow, standIns := [], harness := (true, "96941dce5f68ac798b49aac3a83b49357713432c7d1666937f5ddceb9499226e"), looks := false }, kinds := [], alts := [], laidByText := true, laidKinds := [.data, .data, .data, .data, .data, .data, .data, .pinned], laidTests := true, laidLooks := .later }
def CkptNamesUptoCardSaid : Prop := Claim7.holds Tryz.pinned (.plain (OpenSpec.upto ckptNamesSpec)) ckptNamesUptoCard
end Rows
end Go.Proofs.YtcgiemeedpjpiaaGreatDoor
