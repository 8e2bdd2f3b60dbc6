/-
  NARROWER THAN 'FOR EVERY INPUT', by the rows' own cells (each row's printed sentence says how): ValidNames: laid.
  DERIVED. THE GIVEN ROWS OF THIS SEAT. 1 by the template 'for every input the law returns true; each argument reads behind the call as it read before'; 0 by the template 'total and deterministic' (their statements: YtjccgbdhfldnaaaDoorTotals.lean).
  GIVEN WITH THE SEED: the statements are not yours to turn. If you find one false, say at which input.
  Laid BY PROGRAM, IN A SANDBOX (cutbox-rows.mjs): the forced cells as the released guide's own fill.sh prints them over the translation 072e6b712699ce7b… (all of the seat's roots in one cut). By AI agents, Wed Nov 11 2026. No macro, syntax, notation, axiom, sorry.
-/
import Derived.Test.YtjccgbdhfldnaaaDoorChecked
import GoSem.Claim
import GoSem.ClaimJoined
import GoSem.ClaimMapViews
import Derived.JoinedTies
import Derived.KernelRfl
namespace Go.Proofs.YtjccgbdhfldnaaaDoor
/- THE CELL 'sum', in the pinned program and in every row, IS THE sha256 OF THE DUMP (.gsa) THAT YtjccgbdhfldnaaaDoorProg.lean LOADS. Nothing in Lean hashes anything: it is a label: what it is worth is what the hold of that sum in a sandbox is worth. -/
noncomputable def Tryd.pinned : Pinned := { name := "ytjccgbdhfldnaaadoor", sum := "072e6b712699ce7b53f30450ee4a646d97ca5c59edaae242912946772ba3352a", checked := Tryd.checked }
namespace Rows
def none {H : Type} : Left H := { results := [], args := [] }

/- WHAT THE LISTED PACKAGE-LEVEL VARIABLES READ AS WHEN THE CALL BEGINS. Each datum BY PROGRAM (the guide's laid-datum.mjs) off the statement by which the dump's own 'gosem.cut.vars' lays the variable. In a bare row this is a premise. The card (YtjccgbdhfldnaaaDoorCards.lean) ties it to the program's text. -/
def laid_carryall_valid_names {H : Type} : DataW H := .agg [.lit (.string []), .lit (.string [112, 114, 111, 99, 115]), .lit (.string [111, 98, 106, 101, 99, 116, 115]), .lit (.string [102, 105, 108, 101, 115]), .lit (.string [112, 105, 112, 101, 115]), .lit (.string [115, 105, 100, 101, 115]), .lit (.string [119, 97, 105, 116, 115]), .lit (.string [102, 117, 116, 101, 120, 101, 115]), .lit (.string [112, 97, 103, 101, 115]), .lit (.string [99, 104, 105, 108, 100, 114, 101, 110]), .lit (.string [115, 105, 103, 110, 97, 108, 115])]

/-- 'carryalllaw25.ValidNames': WHATEVER THE INPUT: true; the input reads as it did. -/
def validNamesSpec : ChangeSpec := { name := "validNames", fn := fun _ => fun
  | [] => { results := [.lit (.bool true)], args := [] }
  | _ => none }
def validNamesRow : OpenClaim := { program := "ytjccgbdhfldnaaadoor", sum := "072e6b712699ce7b53f30450ee4a646d97ca5c59edaae242912946772ba3352a", func := "carryall/carryalllaw25.ValidNames", spec := "validNames", unfollowed := true, recurses := true, named := ["carryall/valid.names"], apart := false, laid := [("carryall/valid.names", laid_carryall_valid_names)] }
def ValidNamesSaid : Prop := validNamesRow.holds Tryd.pinned (OpenSpec.ofChange validNamesSpec)

/-- ITS FALSE NEIGHBOUR: 'it returns false'. Refute it at one input. -/
def validNamesWrong : ChangeSpec := { name := "validNames", fn := fun _ => fun
  | [] => { results := [.lit (.bool false)], args := [] }
  | _ => none }
def ValidNamesWrongFalsely : Prop := validNamesRow.holds Tryd.pinned (OpenSpec.ofChange validNamesWrong)

/- THE SECOND FORM. 'bulk': how many values and letters a reading holds, each counted each time it is reached (what is shared counts as often as it is met; a slice's spare places count too). A statement '..UptoSaid' is the law's where the arguments, and the package variables that the reading takes, are together of bulk at most 1048576: NARROWER than '..Said'. Prove '..Said' where nothing that the law and all that it calls make is longer than what came in: it says more and counts as full. Else prove '..UptoSaid'. A law counts once. -/
mutual
def uptoBulk {H : Type} : DataW H → Nat
  | .lit (.string bytes) => bytes.length + 1
  | .lit _ => 1
  | .nil => 1
  | .ptr d => uptoBulk d + 1
  | .slice elems spare => uptoBulkAll elems + uptoBulkAll spare + 1
  | .agg parts => uptoBulkAll parts + 1
  | .iface _ d => uptoBulk d + 1
  | .map entries => uptoBulkEntries entries + 1
  | .held _ => 1
def uptoBulkAll {H : Type} : List (DataW H) → Nat
  | [] => 0
  | d :: r => uptoBulk d + uptoBulkAll r
def uptoBulkEntries {H : Type} : List (Lit × DataW H) → Nat
  | [] => 0
  | x :: r => uptoBulkEntry x + uptoBulkEntries r
def uptoBulkEntry {H : Type} : Lit × DataW H → Nat
  | (.string bytes, d) => bytes.length + uptoBulk d + 1
  | (_, d) => uptoBulk d + 1
 end
def uptoSmall : (H : Type) → List (DataW H) → Bool := fun _ ds => decide (uptoBulkAll ds ≤ 1048576)
def OpenSpec.upto (s : _root_.Go.ChangeSpec) : _root_.Go.OpenSpec := { _root_.Go.OpenSpec.ofChange s with cond := some uptoSmall }

/-- 'carryalllaw25.ValidNames', WHERE WHAT IT READS IS OF BULK AT MOST 1048576: true; the input reads as it did. -/
def validNamesUptoRow : OpenClaim := { program := "ytjccgbdhfldnaaadoor", sum := "072e6b712699ce7b53f30450ee4a646d97ca5c59edaae242912946772ba3352a", func := "carryall/carryalllaw25.ValidNames", spec := "validNames", unfollowed := true, recurses := true, named := ["carryall/valid.names"], apart := false, laid := [("carryall/valid.names", laid_carryall_valid_names)], narrowed := true }
def ValidNamesUptoSaid : Prop := validNamesUptoRow.holds Tryd.pinned (OpenSpec.upto validNamesSpec)

end Rows
end Go.Proofs.YtjccgbdhfldnaaaDoor
