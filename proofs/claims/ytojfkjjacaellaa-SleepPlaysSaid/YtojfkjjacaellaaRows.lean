/-
  No cell of these rows narrows 'for every input' (looked for: loops, veiled, ifaces, maps, wideKeys, modest, calm, conditions, laid).
  DERIVED. THE GIVEN ROWS OF THIS SEAT. 5 by the template 'for every input the law returns true; each argument reads behind the call as it read before'; 0 by the template 'total and deterministic' (their statements: YtojfkjjacaellaaTotals.lean).
  GIVEN WITH THE SEED: the statements are not yours to turn. If you find one false, say at which input.
  Laid BY PROGRAM, IN A SANDBOX (cutbox-rows.mjs): the forced cells as the released guide's own fill.sh prints them over the translation cb1fd63ff31cfedb… (all of the seat's roots in one cut). By AI agents, Wed Nov 11 2026. No macro, syntax, notation, axiom, sorry.
-/
import Derived.Test.YtojfkjjacaellaaChecked
import GoSem.Claim
import GoSem.ClaimJoined
import GoSem.ClaimMapViews
import Derived.JoinedTies
import Derived.KernelRfl
namespace Go.Proofs.Ytojfkjjacaellaa
/- THE CELL 'sum', in the pinned program and in every row, IS THE sha256 OF THE DUMP (.gsa) THAT YtojfkjjacaellaaProg.lean LOADS. Nothing in Lean hashes anything: it is a label: what it is worth is what the hold of that sum in a sandbox is worth. -/
noncomputable def Try.pinned : Pinned := { name := "ytojfkjjacaellaa", sum := "cb1fd63ff31cfedb388438b350e8e00a79cec8fdd6b8aed6b2c15f51d7a27810", checked := Try.checked }
namespace Rows
def none {H : Type} : Left H := { results := [], args := [] }

/-- 'carryalllaw14.SleepWakes': WHATEVER THE INPUT: true; the input reads as it did. -/
def sleepWakesSpec : ChangeSpec := { name := "sleepWakes", fn := fun _ => fun
  | [d] => { results := [.lit (.bool true)], args := [d] }
  | _ => none }
def sleepWakesRow : OpenClaim := { program := "ytojfkjjacaellaa", sum := "cb1fd63ff31cfedb388438b350e8e00a79cec8fdd6b8aed6b2c15f51d7a27810", func := "carryall/carryalllaw14.SleepWakes", spec := "sleepWakes", unfollowed := true, recurses := true, apart := false }
def SleepWakesSaid : Prop := sleepWakesRow.holds Try.pinned (OpenSpec.ofChange sleepWakesSpec)

/-- ITS FALSE NEIGHBOUR: 'it returns false'. Refute it at one input. -/
def sleepWakesWrong : ChangeSpec := { name := "sleepWakes", fn := fun _ => fun
  | [d] => { results := [.lit (.bool false)], args := [d] }
  | _ => none }
def SleepWakesWrongFalsely : Prop := sleepWakesRow.holds Try.pinned (OpenSpec.ofChange sleepWakesWrong)

/-- 'carryalllaw14.SleepNext': WHATEVER THE INPUT: true; the input reads as it did. -/
def sleepNextSpec : ChangeSpec := { name := "sleepNext", fn := fun _ => fun
  | [d] => { results := [.lit (.bool true)], args := [d] }
  | _ => none }
def sleepNextRow : OpenClaim := { program := "ytojfkjjacaellaa", sum := "cb1fd63ff31cfedb388438b350e8e00a79cec8fdd6b8aed6b2c15f51d7a27810", func := "carryall/carryalllaw14.SleepNext", spec := "sleepNext", unfollowed := true, recurses := true, apart := false }
def SleepNextSaid : Prop := sleepNextRow.holds Try.pinned (OpenSpec.ofChange sleepNextSpec)

/-- ITS FALSE NEIGHBOUR: 'it returns false'. Refute it at one input. -/
def sleepNextWrong : ChangeSpec := { name := "sleepNext", fn := fun _ => fun
  | [d] => { results := [.lit (.bool false)], args := [d] }
  | _ => none }
def SleepNextWrongFalsely : Prop := sleepNextRow.holds Try.pinned (OpenSpec.ofChange sleepNextWrong)

/-- 'carryalllaw14.SleepPlays': WHATEVER THE INPUT: true; the input reads as it did. -/
def sleepPlaysSpec : ChangeSpec := { name := "sleepPlays", fn := fun _ => fun
  | [d] => { results := [.lit (.bool true)], args := [d] }
  | _ => none }
def sleepPlaysRow : OpenClaim := { program := "ytojfkjjacaellaa", sum := "cb1fd63ff31cfedb388438b350e8e00a79cec8fdd6b8aed6b2c15f51d7a27810", func := "carryall/carryalllaw14.SleepPlays", spec := "sleepPlays", inPlace := ["maps.clone"], unfollowed := true, recurses := true, apart := false }
def SleepPlaysSaid : Prop := sleepPlaysRow.holds Try.pinned (OpenSpec.ofChange sleepPlaysSpec)

/-- ITS FALSE NEIGHBOUR: 'it returns false'. Refute it at one input. -/
def sleepPlaysWrong : ChangeSpec := { name := "sleepPlays", fn := fun _ => fun
  | [d] => { results := [.lit (.bool false)], args := [d] }
  | _ => none }
def SleepPlaysWrongFalsely : Prop := sleepPlaysRow.holds Try.pinned (OpenSpec.ofChange sleepPlaysWrong)

/-- 'carryalllaw14.SleepNames': WHATEVER THE INPUT: true; the input reads as it did. -/
def sleepNamesSpec : ChangeSpec := { name := "sleepNames", fn := fun _ => fun
  | [] => { results := [.lit (.bool true)], args := [] }
  | _ => none }
def sleepNamesRow : OpenClaim := { program := "ytojfkjjacaellaa", sum := "cb1fd63ff31cfedb388438b350e8e00a79cec8fdd6b8aed6b2c15f51d7a27810", func := "carryall/carryalllaw14.SleepNames", spec := "sleepNames", inPlace := ["maps.clone"], unfollowed := true, recurses := true, apart := false }
def SleepNamesSaid : Prop := sleepNamesRow.holds Try.pinned (OpenSpec.ofChange sleepNamesSpec)

/-- ITS FALSE NEIGHBOUR: 'it returns false'. Refute it at one input. -/
def sleepNamesWrong : ChangeSpec := { name := "sleepNames", fn := fun _ => fun
  | [] => { results := [.lit (.bool false)], args := [] }
  | _ => none }
def SleepNamesWrongFalsely : Prop := sleepNamesRow.holds Try.pinned (OpenSpec.ofChange sleepNamesWrong)

/-- 'carryalllaw14.SleepTraces': WHATEVER THE INPUT: true; the input reads as it did. -/
def sleepTracesSpec : ChangeSpec := { name := "sleepTraces", fn := fun _ => fun
  | [d1, d2] => { results := [.lit (.bool true)], args := [d1, d2] }
  | _ => none }
def sleepTracesRow : OpenClaim := { program := "ytojfkjjacaellaa", sum := "cb1fd63ff31cfedb388438b350e8e00a79cec8fdd6b8aed6b2c15f51d7a27810", func := "carryall/carryalllaw14.SleepTraces", spec := "sleepTraces", inPlace := ["maps.clone"], unfollowed := true, recurses := true, apart := false }
def SleepTracesSaid : Prop := sleepTracesRow.holds Try.pinned (OpenSpec.ofChange sleepTracesSpec)

/-- ITS FALSE NEIGHBOUR: 'it returns false'. Refute it at one input. -/
def sleepTracesWrong : ChangeSpec := { name := "sleepTraces", fn := fun _ => fun
  | [d1, d2] => { results := [.lit (.bool false)], args := [d1, d2] }
  | _ => none }
def SleepTracesWrongFalsely : Prop := sleepTracesRow.holds Try.pinned (OpenSpec.ofChange sleepTracesWrong)

/- THE SECOND FORM. 'bulk': how many values and letters a reading holds, each counted each time it is reached (what is shared counts as often as it is met; a slice's spare places count too). A statement '..UptoSaid' is the law's where the arguments, and the package variables that the reading takes, are together of bulk at most 1048576: NARROWER than '..Said'. Prove '..Said' where nothing that the law and all that it calls make is longer than what came in: it says more and counts as full. Else prove '..UptoSaid'. A law counts once. -/
mutual
def uptoBulk {H : Type} : DataW H → Nat
  | .lit (.string bytes) => bytes.length + 1
  | .lit _ => 1
  | .nil => 1
  | .ptr d => uptoBulk d + 1
  | .slice elems spare => uptoBulkAll elems + uptoBulkAll spare + 1
  | .agg parts => uptoBulkAll parts + 1
  | .iface _ d => uptoBulk d + 1
  | .map entries => uptoBulkEntries entries + 1
  | .held _ => 1
def uptoBulkAll {H : Type} : List (DataW H) → Nat
  | [] => 0
  | d :: r => uptoBulk d + uptoBulkAll r
def uptoBulkEntries {H : Type} : List (Lit × DataW H) → Nat
  | [] => 0
  | x :: r => uptoBulkEntry x + uptoBulkEntries r
def uptoBulkEntry {H : Type} : Lit × DataW H → Nat
  | (.string bytes, d) => bytes.length + uptoBulk d + 1
  | (_, d) => uptoBulk d + 1
 end
def uptoSmall : (H : Type) → List (DataW H) → Bool := fun _ ds => decide (uptoBulkAll ds ≤ 1048576)
def OpenSpec.upto (s : _root_.Go.ChangeSpec) : _root_.Go.OpenSpec := { _root_.Go.OpenSpec.ofChange s with cond := some uptoSmall }

/-- 'carryalllaw14.SleepWakes', WHERE WHAT IT READS IS OF BULK AT MOST 1048576: true; the input reads as it did. -/
def sleepWakesUptoRow : OpenClaim := { program := "ytojfkjjacaellaa", sum := "cb1fd63ff31cfedb388438b350e8e00a79cec8fdd6b8aed6b2c15f51d7a27810", func := "carryall/carryalllaw14.SleepWakes", spec := "sleepWakes", unfollowed := true, recurses := true, apart := false, narrowed := true }
def SleepWakesUptoSaid : Prop := sleepWakesUptoRow.holds Try.pinned (OpenSpec.upto sleepWakesSpec)

/-- 'carryalllaw14.SleepNext', WHERE WHAT IT READS IS OF BULK AT MOST 1048576: true; the input reads as it did. -/
def sleepNextUptoRow : OpenClaim := { program := "ytojfkjjacaellaa", sum := "cb1fd63ff31cfedb388438b350e8e00a79cec8fdd6b8aed6b2c15f51d7a27810", func := "carryall/carryalllaw14.SleepNext", spec := "sleepNext", unfollowed := true, recurses := true, apart := false, narrowed := true }
def SleepNextUptoSaid : Prop := sleepNextUptoRow.holds Try.pinned (OpenSpec.upto sleepNextSpec)

/-- 'carryalllaw14.SleepPlays', WHERE WHAT IT READS IS OF BULK AT MOST 1048576: true; the input reads as it did. -/
def sleepPlaysUptoRow : OpenClaim := { program := "ytojfkjjacaellaa", sum := "cb1fd63ff31cfedb388438b350e8e00a79cec8fdd6b8aed6b2c15f51d7a27810", func := "carryall/carryalllaw14.SleepPlays", spec := "sleepPlays", inPlace := ["maps.clone"], unfollowed := true, recurses := true, apart := false, narrowed := true }
def SleepPlaysUptoSaid : Prop := sleepPlaysUptoRow.holds Try.pinned (OpenSpec.upto sleepPlaysSpec)

/-- 'carryalllaw14.SleepNames', WHERE WHAT IT READS IS OF BULK AT MOST 1048576: true; the input reads as it did. -/
def sleepNamesUptoRow : OpenClaim := { program := "ytojfkjjacaellaa", sum := "cb1fd63ff31cfedb388438b350e8e00a79cec8fdd6b8aed6b2c15f51d7a27810", func := "carryall/carryalllaw14.SleepNames", spec := "sleepNames", inPlace := ["maps.clone"], unfollowed := true, recurses := true, apart := false, narrowed := true }
def SleepNamesUptoSaid : Prop := sleepNamesUptoRow.holds Try.pinned (OpenSpec.upto sleepNamesSpec)

/-- 'carryalllaw14.SleepTraces', WHERE WHAT IT READS IS OF BULK AT MOST 1048576: true; the input reads as it did. -/
def sleepTracesUptoRow : OpenClaim := { program := "ytojfkjjacaellaa", sum := "cb1fd63ff31cfedb388438b350e8e00a79cec8fdd6b8aed6b2c15f51d7a27810", func := "carryall/carryalllaw14.SleepTraces", spec := "sleepTraces", inPlace := ["maps.clone"], unfollowed := true, recurses := true, apart := false, narrowed := true }
def SleepTracesUptoSaid : Prop := sleepTracesUptoRow.holds Try.pinned (OpenSpec.upto sleepTracesSpec)

end Rows
end Go.Proofs.Ytojfkjjacaellaa
