/-
  No cell of these rows narrows 'for every input' (looked for: loops, veiled, ifaces, maps, wideKeys, modest, calm, conditions, laid).
  DERIVED. THE GIVEN ROWS OF THIS SEAT. 4 by the template 'for every input the law returns true; each argument reads behind the call as it read before'; 0 by the template 'total and deterministic' (their statements: YtjajeeoahbidlaaTotals.lean).
  GIVEN WITH THE SEED: the statements are not yours to turn. If you find one false, say at which input.
  Laid BY PROGRAM, IN A SANDBOX (cutbox-rows.mjs): the forced cells as the released guide's own fill.sh prints them over the translation b7a6a92716a5d24c… (all of the seat's roots in one cut). By AI agents, Wed Nov 11 2026. No macro, syntax, notation, axiom, sorry.
-/
import Derived.Test.YtjajeeoahbidlaaChecked
import GoSem.Claim
import GoSem.ClaimJoined
import GoSem.ClaimMapViews
import Derived.JoinedTies
import Derived.KernelRfl
namespace Go.Proofs.Ytjajeeoahbidlaa
/- THE CELL 'sum', in the pinned program and in every row, IS THE sha256 OF THE DUMP (.gsa) THAT YtjajeeoahbidlaaProg.lean LOADS. Nothing in Lean hashes anything: it is a label: what it is worth is what the hold of that sum in a sandbox is worth. -/
noncomputable def Try.pinned : Pinned := { name := "ytjajeeoahbidlaa", sum := "b7a6a92716a5d24cdb23fe4e8fbf3e359d9a87a4ebb65f605c1e614a292bc570", checked := Try.checked }
namespace Rows
def none {H : Type} : Left H := { results := [], args := [] }

/-- 'carryalllaw15.TreeOrphans': WHATEVER THE INPUT: true; the input reads as it did. -/
def treeOrphansSpec : ChangeSpec := { name := "treeOrphans", fn := fun _ => fun
  | [d1, d2, d3, d4] => { results := [.lit (.bool true)], args := [d1, d2, d3, d4] }
  | _ => none }
def treeOrphansRow : OpenClaim := { program := "ytjajeeoahbidlaa", sum := "b7a6a92716a5d24cdb23fe4e8fbf3e359d9a87a4ebb65f605c1e614a292bc570", func := "carryall/carryalllaw15.TreeOrphans", spec := "treeOrphans", unfollowed := true, recurses := true, apart := false }
def TreeOrphansSaid : Prop := treeOrphansRow.holds Try.pinned (OpenSpec.ofChange treeOrphansSpec)

/-- ITS FALSE NEIGHBOUR: 'it returns false'. Refute it at one input. -/
def treeOrphansWrong : ChangeSpec := { name := "treeOrphans", fn := fun _ => fun
  | [d1, d2, d3, d4] => { results := [.lit (.bool false)], args := [d1, d2, d3, d4] }
  | _ => none }
def TreeOrphansWrongFalsely : Prop := treeOrphansRow.holds Try.pinned (OpenSpec.ofChange treeOrphansWrong)

/-- 'carryalllaw15.TreeRoots': WHATEVER THE INPUT: true; the input reads as it did. -/
def treeRootsSpec : ChangeSpec := { name := "treeRoots", fn := fun _ => fun
  | [d1, d2] => { results := [.lit (.bool true)], args := [d1, d2] }
  | _ => none }
def treeRootsRow : OpenClaim := { program := "ytjajeeoahbidlaa", sum := "b7a6a92716a5d24cdb23fe4e8fbf3e359d9a87a4ebb65f605c1e614a292bc570", func := "carryall/carryalllaw15.TreeRoots", spec := "treeRoots", unfollowed := true, recurses := true, apart := false }
def TreeRootsSaid : Prop := treeRootsRow.holds Try.pinned (OpenSpec.ofChange treeRootsSpec)

/-- ITS FALSE NEIGHBOUR: 'it returns false'. Refute it at one input. -/
def treeRootsWrong : ChangeSpec := { name := "treeRoots", fn := fun _ => fun
  | [d1, d2] => { results := [.lit (.bool false)], args := [d1, d2] }
  | _ => none }
def TreeRootsWrongFalsely : Prop := treeRootsRow.holds Try.pinned (OpenSpec.ofChange treeRootsWrong)

/-- 'carryalllaw15.TreeNames': WHATEVER THE INPUT: true; the input reads as it did. -/
def treeNamesSpec : ChangeSpec := { name := "treeNames", fn := fun _ => fun
  | [] => { results := [.lit (.bool true)], args := [] }
  | _ => none }
def treeNamesRow : OpenClaim := { program := "ytjajeeoahbidlaa", sum := "b7a6a92716a5d24cdb23fe4e8fbf3e359d9a87a4ebb65f605c1e614a292bc570", func := "carryall/carryalllaw15.TreeNames", spec := "treeNames", unfollowed := true, recurses := true, apart := false }
def TreeNamesSaid : Prop := treeNamesRow.holds Try.pinned (OpenSpec.ofChange treeNamesSpec)

/-- ITS FALSE NEIGHBOUR: 'it returns false'. Refute it at one input. -/
def treeNamesWrong : ChangeSpec := { name := "treeNames", fn := fun _ => fun
  | [] => { results := [.lit (.bool false)], args := [] }
  | _ => none }
def TreeNamesWrongFalsely : Prop := treeNamesRow.holds Try.pinned (OpenSpec.ofChange treeNamesWrong)

/-- 'carryalllaw15.TreeThaws': WHATEVER THE INPUT: true; the input reads as it did. -/
def treeThawsSpec : ChangeSpec := { name := "treeThaws", fn := fun _ => fun
  | [d1, d2, d3] => { results := [.lit (.bool true)], args := [d1, d2, d3] }
  | _ => none }
def treeThawsRow : OpenClaim := { program := "ytjajeeoahbidlaa", sum := "b7a6a92716a5d24cdb23fe4e8fbf3e359d9a87a4ebb65f605c1e614a292bc570", func := "carryall/carryalllaw15.TreeThaws", spec := "treeThaws", unfollowed := true, recurses := true, apart := false }
def TreeThawsSaid : Prop := treeThawsRow.holds Try.pinned (OpenSpec.ofChange treeThawsSpec)

/-- ITS FALSE NEIGHBOUR: 'it returns false'. Refute it at one input. -/
def treeThawsWrong : ChangeSpec := { name := "treeThaws", fn := fun _ => fun
  | [d1, d2, d3] => { results := [.lit (.bool false)], args := [d1, d2, d3] }
  | _ => none }
def TreeThawsWrongFalsely : Prop := treeThawsRow.holds Try.pinned (OpenSpec.ofChange treeThawsWrong)

/- THE SECOND FORM. 'bulk': how many values and letters a reading holds, each counted each time it is reached (what is shared counts as often as it is met; a slice's spare places count too). A statement '..UptoSaid' is the law's where the arguments, and the package variables that the reading takes, are together of bulk at most 1048576: NARROWER than '..Said'. Prove '..Said' where nothing that the law and all that it calls make is longer than what came in: it says more and counts as full. Else prove '..UptoSaid'. A law counts once. -/
mutual
def uptoBulk {H : Type} : DataW H → Nat
  | .lit (.string bytes) => bytes.length + 1
  | .lit _ => 1
  | .nil => 1
  | .ptr d => uptoBulk d + 1
  | .slice elems spare => uptoBulkAll elems + uptoBulkAll spare + 1
  | .agg parts => uptoBulkAll parts + 1
  | .iface _ d => uptoBulk d + 1
  | .map entries => uptoBulkEntries entries + 1
  | .held _ => 1
def uptoBulkAll {H : Type} : List (DataW H) → Nat
  | [] => 0
  | d :: r => uptoBulk d + uptoBulkAll r
def uptoBulkEntries {H : Type} : List (Lit × DataW H) → Nat
  | [] => 0
  | x :: r => uptoBulkEntry x + uptoBulkEntries r
def uptoBulkEntry {H : Type} : Lit × DataW H → Nat
  | (.string bytes, d) => bytes.length + uptoBulk d + 1
  | (_, d) => uptoBulk d + 1
 end
def uptoSmall : (H : Type) → List (DataW H) → Bool := fun _ ds => decide (uptoBulkAll ds ≤ 1048576)
def OpenSpec.upto (s : _root_.Go.ChangeSpec) : _root_.Go.OpenSpec := { _root_.Go.OpenSpec.ofChange s with cond := some uptoSmall }

/-- 'carryalllaw15.TreeOrphans', WHERE WHAT IT READS IS OF BULK AT MOST 1048576: true; the input reads as it did. -/
def treeOrphansUptoRow : OpenClaim := { program := "ytjajeeoahbidlaa", sum := "b7a6a92716a5d24cdb23fe4e8fbf3e359d9a87a4ebb65f605c1e614a292bc570", func := "carryall/carryalllaw15.TreeOrphans", spec := "treeOrphans", unfollowed := true, recurses := true, apart := false, narrowed := true }
def TreeOrphansUptoSaid : Prop := treeOrphansUptoRow.holds Try.pinned (OpenSpec.upto treeOrphansSpec)

/-- 'carryalllaw15.TreeRoots', WHERE WHAT IT READS IS OF BULK AT MOST 1048576: true; the input reads as it did. -/
def treeRootsUptoRow : OpenClaim := { program := "ytjajeeoahbidlaa", sum := "b7a6a92716a5d24cdb23fe4e8fbf3e359d9a87a4ebb65f605c1e614a292bc570", func := "carryall/carryalllaw15.TreeRoots", spec := "treeRoots", unfollowed := true, recurses := true, apart := false, narrowed := true }
def TreeRootsUptoSaid : Prop := treeRootsUptoRow.holds Try.pinned (OpenSpec.upto treeRootsSpec)

/-- 'carryalllaw15.TreeNames', WHERE WHAT IT READS IS OF BULK AT MOST 1048576: true; the input reads as it did. -/
def treeNamesUptoRow : OpenClaim := { program := "ytjajeeoahbidlaa", sum := "b7a6a92716a5d24cdb23fe4e8fbf3e359d9a87a4ebb65f605c1e614a292bc570", func := "carryall/carryalllaw15.TreeNames", spec := "treeNames", unfollowed := true, recurses := true, apart := false, narrowed := true }
def TreeNamesUptoSaid : Prop := treeNamesUptoRow.holds Try.pinned (OpenSpec.upto treeNamesSpec)

/-- 'carryalllaw15.TreeThaws', WHERE WHAT IT READS IS OF BULK AT MOST 1048576: true; the input reads as it did. -/
def treeThawsUptoRow : OpenClaim := { program := "ytjajeeoahbidlaa", sum := "b7a6a92716a5d24cdb23fe4e8fbf3e359d9a87a4ebb65f605c1e614a292bc570", func := "carryall/carryalllaw15.TreeThaws", spec := "treeThaws", unfollowed := true, recurses := true, apart := false, narrowed := true }
def TreeThawsUptoSaid : Prop := treeThawsUptoRow.holds Try.pinned (OpenSpec.upto treeThawsSpec)

end Rows
end Go.Proofs.Ytjajeeoahbidlaa
