/-
  No cell of these rows narrows 'for every input' (looked for: loops, veiled, ifaces, maps, wideKeys, modest, calm, conditions, laid).
  DERIVED. THE GIVEN ROWS OF THIS SEAT. 7 by the template 'for every input the law returns true; each argument reads behind the call as it read before'; 0 by the template 'total and deterministic' (their statements: YthpncefkklojlaaTotals.lean).
  GIVEN WITH THE SEED: the statements are not yours to turn. If you find one false, say at which input.
  Laid BY PROGRAM, IN A SANDBOX (cutbox-rows.mjs): the forced cells as the released guide's own fill.sh prints them over the translation b7683fb085e5affe… (all of the seat's roots in one cut). By AI agents, Wed Nov 11 2026. No macro, syntax, notation, axiom, sorry.
-/
import Derived.Test.YthpncefkklojlaaChecked
import GoSem.Claim
import GoSem.ClaimJoined
import GoSem.ClaimMapViews
import Derived.JoinedTies
import Derived.KernelRfl
namespace Go.Proofs.Ythpncefkklojlaa
/- THE CELL 'sum', in the pinned program and in every row, IS THE sha256 OF THE DUMP (.gsa) THAT YthpncefkklojlaaProg.lean LOADS. Nothing in Lean hashes anything: it is a label: what it is worth is what the hold of that sum in a sandbox is worth. -/
noncomputable def Try.pinned : Pinned := { name := "ythpncefkklojlaa", sum := "b7683fb085e5affe9cc65b049d63500146f63f182fc05bf3ff0190e552995ebc", checked := Try.checked }
namespace Rows
def none {H : Type} : Left H := { results := [], args := [] }

/-- 'carryalllaw12.SignalKill': WHATEVER THE INPUT: true; the input reads as it did. -/
def signalKillSpec : ChangeSpec := { name := "signalKill", fn := fun _ => fun
  | [d1, d2] => { results := [.lit (.bool true)], args := [d1, d2] }
  | _ => none }
def signalKillRow : OpenClaim := { program := "ythpncefkklojlaa", sum := "b7683fb085e5affe9cc65b049d63500146f63f182fc05bf3ff0190e552995ebc", func := "carryall/carryalllaw12.SignalKill", spec := "signalKill", unfollowed := true, recurses := true, apart := false }
def SignalKillSaid : Prop := signalKillRow.holds Try.pinned (OpenSpec.ofChange signalKillSpec)

/-- ITS FALSE NEIGHBOUR: 'it returns false'. Refute it at one input. -/
def signalKillWrong : ChangeSpec := { name := "signalKill", fn := fun _ => fun
  | [d1, d2] => { results := [.lit (.bool false)], args := [d1, d2] }
  | _ => none }
def SignalKillWrongFalsely : Prop := signalKillRow.holds Try.pinned (OpenSpec.ofChange signalKillWrong)

/-- 'carryalllaw12.SignalMasks': WHATEVER THE INPUT: true; the input reads as it did. -/
def signalMasksSpec : ChangeSpec := { name := "signalMasks", fn := fun _ => fun
  | [d1, d2] => { results := [.lit (.bool true)], args := [d1, d2] }
  | _ => none }
def signalMasksRow : OpenClaim := { program := "ythpncefkklojlaa", sum := "b7683fb085e5affe9cc65b049d63500146f63f182fc05bf3ff0190e552995ebc", func := "carryall/carryalllaw12.SignalMasks", spec := "signalMasks", unfollowed := true, recurses := true, apart := false }
def SignalMasksSaid : Prop := signalMasksRow.holds Try.pinned (OpenSpec.ofChange signalMasksSpec)

/-- ITS FALSE NEIGHBOUR: 'it returns false'. Refute it at one input. -/
def signalMasksWrong : ChangeSpec := { name := "signalMasks", fn := fun _ => fun
  | [d1, d2] => { results := [.lit (.bool false)], args := [d1, d2] }
  | _ => none }
def SignalMasksWrongFalsely : Prop := signalMasksRow.holds Try.pinned (OpenSpec.ofChange signalMasksWrong)

/-- 'carryalllaw12.SignalHandlers': WHATEVER THE INPUT: true; the input reads as it did. -/
def signalHandlersSpec : ChangeSpec := { name := "signalHandlers", fn := fun _ => fun
  | [d1, d2, d3] => { results := [.lit (.bool true)], args := [d1, d2, d3] }
  | _ => none }
def signalHandlersRow : OpenClaim := { program := "ythpncefkklojlaa", sum := "b7683fb085e5affe9cc65b049d63500146f63f182fc05bf3ff0190e552995ebc", func := "carryall/carryalllaw12.SignalHandlers", spec := "signalHandlers", unfollowed := true, recurses := true, apart := false }
def SignalHandlersSaid : Prop := signalHandlersRow.holds Try.pinned (OpenSpec.ofChange signalHandlersSpec)

/-- ITS FALSE NEIGHBOUR: 'it returns false'. Refute it at one input. -/
def signalHandlersWrong : ChangeSpec := { name := "signalHandlers", fn := fun _ => fun
  | [d1, d2, d3] => { results := [.lit (.bool false)], args := [d1, d2, d3] }
  | _ => none }
def SignalHandlersWrongFalsely : Prop := signalHandlersRow.holds Try.pinned (OpenSpec.ofChange signalHandlersWrong)

/-- 'carryalllaw12.SignalOnce': WHATEVER THE INPUT: true; the input reads as it did. -/
def signalOnceSpec : ChangeSpec := { name := "signalOnce", fn := fun _ => fun
  | [d] => { results := [.lit (.bool true)], args := [d] }
  | _ => none }
def signalOnceRow : OpenClaim := { program := "ythpncefkklojlaa", sum := "b7683fb085e5affe9cc65b049d63500146f63f182fc05bf3ff0190e552995ebc", func := "carryall/carryalllaw12.SignalOnce", spec := "signalOnce", unfollowed := true, recurses := true, apart := false }
def SignalOnceSaid : Prop := signalOnceRow.holds Try.pinned (OpenSpec.ofChange signalOnceSpec)

/-- ITS FALSE NEIGHBOUR: 'it returns false'. Refute it at one input. -/
def signalOnceWrong : ChangeSpec := { name := "signalOnce", fn := fun _ => fun
  | [d] => { results := [.lit (.bool false)], args := [d] }
  | _ => none }
def SignalOnceWrongFalsely : Prop := signalOnceRow.holds Try.pinned (OpenSpec.ofChange signalOnceWrong)

/-- 'carryalllaw12.SignalPosts': WHATEVER THE INPUT: true; the input reads as it did. -/
def signalPostsSpec : ChangeSpec := { name := "signalPosts", fn := fun _ => fun
  | [d1, d2] => { results := [.lit (.bool true)], args := [d1, d2] }
  | _ => none }
def signalPostsRow : OpenClaim := { program := "ythpncefkklojlaa", sum := "b7683fb085e5affe9cc65b049d63500146f63f182fc05bf3ff0190e552995ebc", func := "carryall/carryalllaw12.SignalPosts", spec := "signalPosts", unfollowed := true, recurses := true, apart := false }
def SignalPostsSaid : Prop := signalPostsRow.holds Try.pinned (OpenSpec.ofChange signalPostsSpec)

/-- ITS FALSE NEIGHBOUR: 'it returns false'. Refute it at one input. -/
def signalPostsWrong : ChangeSpec := { name := "signalPosts", fn := fun _ => fun
  | [d1, d2] => { results := [.lit (.bool false)], args := [d1, d2] }
  | _ => none }
def SignalPostsWrongFalsely : Prop := signalPostsRow.holds Try.pinned (OpenSpec.ofChange signalPostsWrong)

/-- 'carryalllaw12.SignalNames': WHATEVER THE INPUT: true; the input reads as it did. -/
def signalNamesSpec : ChangeSpec := { name := "signalNames", fn := fun _ => fun
  | [] => { results := [.lit (.bool true)], args := [] }
  | _ => none }
def signalNamesRow : OpenClaim := { program := "ythpncefkklojlaa", sum := "b7683fb085e5affe9cc65b049d63500146f63f182fc05bf3ff0190e552995ebc", func := "carryall/carryalllaw12.SignalNames", spec := "signalNames", unfollowed := true, recurses := true, apart := false }
def SignalNamesSaid : Prop := signalNamesRow.holds Try.pinned (OpenSpec.ofChange signalNamesSpec)

/-- ITS FALSE NEIGHBOUR: 'it returns false'. Refute it at one input. -/
def signalNamesWrong : ChangeSpec := { name := "signalNames", fn := fun _ => fun
  | [] => { results := [.lit (.bool false)], args := [] }
  | _ => none }
def SignalNamesWrongFalsely : Prop := signalNamesRow.holds Try.pinned (OpenSpec.ofChange signalNamesWrong)

/-- 'carryalllaw12.SignalPlays': WHATEVER THE INPUT: true; the input reads as it did. -/
def signalPlaysSpec : ChangeSpec := { name := "signalPlays", fn := fun _ => fun
  | [d1, d2] => { results := [.lit (.bool true)], args := [d1, d2] }
  | _ => none }
def signalPlaysRow : OpenClaim := { program := "ythpncefkklojlaa", sum := "b7683fb085e5affe9cc65b049d63500146f63f182fc05bf3ff0190e552995ebc", func := "carryall/carryalllaw12.SignalPlays", spec := "signalPlays", unfollowed := true, recurses := true, apart := false }
def SignalPlaysSaid : Prop := signalPlaysRow.holds Try.pinned (OpenSpec.ofChange signalPlaysSpec)

/-- ITS FALSE NEIGHBOUR: 'it returns false'. Refute it at one input. -/
def signalPlaysWrong : ChangeSpec := { name := "signalPlays", fn := fun _ => fun
  | [d1, d2] => { results := [.lit (.bool false)], args := [d1, d2] }
  | _ => none }
def SignalPlaysWrongFalsely : Prop := signalPlaysRow.holds Try.pinned (OpenSpec.ofChange signalPlaysWrong)

/- THE SECOND FORM. 'bulk': how many values and letters a reading holds, each counted each time it is reached (what is shared counts as often as it is met; a slice's spare places count too). A statement '..UptoSaid' is the law's where the arguments, and the package variables that the reading takes, are together of bulk at most 1048576: NARROWER than '..Said'. Prove '..Said' where nothing that the law and all that it calls make is longer than what came in: it says more and counts as full. Else prove '..UptoSaid'. A law counts once. -/
mutual
def uptoBulk {H : Type} : DataW H → Nat
  | .lit (.string bytes) => bytes.length + 1
  | .lit _ => 1
  | .nil => 1
  | .ptr d => uptoBulk d + 1
  | .slice elems spare => uptoBulkAll elems + uptoBulkAll spare + 1
  | .agg parts => uptoBulkAll parts + 1
  | .iface _ d => uptoBulk d + 1
  | .map entries => uptoBulkEntries entries + 1
  | .held _ => 1
def uptoBulkAll {H : Type} : List (DataW H) → Nat
  | [] => 0
  | d :: r => uptoBulk d + uptoBulkAll r
def uptoBulkEntries {H : Type} : List (Lit × DataW H) → Nat
  | [] => 0
  | x :: r => uptoBulkEntry x + uptoBulkEntries r
def uptoBulkEntry {H : Type} : Lit × DataW H → Nat
  | (.string bytes, d) => bytes.length + uptoBulk d + 1
  | (_, d) => uptoBulk d + 1
 end
def uptoSmall : (H : Type) → List (DataW H) → Bool := fun _ ds => decide (uptoBulkAll ds ≤ 1048576)
def OpenSpec.upto (s : _root_.Go.ChangeSpec) : _root_.Go.OpenSpec := { _root_.Go.OpenSpec.ofChange s with cond := some uptoSmall }

/-- 'carryalllaw12.SignalKill', WHERE WHAT IT READS IS OF BULK AT MOST 1048576: true; the input reads as it did. -/
def signalKillUptoRow : OpenClaim := { program := "ythpncefkklojlaa", sum := "b7683fb085e5affe9cc65b049d63500146f63f182fc05bf3ff0190e552995ebc", func := "carryall/carryalllaw12.SignalKill", spec := "signalKill", unfollowed := true, recurses := true, apart := false, narrowed := true }
def SignalKillUptoSaid : Prop := signalKillUptoRow.holds Try.pinned (OpenSpec.upto signalKillSpec)

/-- 'carryalllaw12.SignalMasks', WHERE WHAT IT READS IS OF BULK AT MOST 1048576: true; the input reads as it did. -/
def signalMasksUptoRow : OpenClaim := { program := "ythpncefkklojlaa", sum := "b7683fb085e5affe9cc65b049d63500146f63f182fc05bf3ff0190e552995ebc", func := "carryall/carryalllaw12.SignalMasks", spec := "signalMasks", unfollowed := true, recurses := true, apart := false, narrowed := true }
def SignalMasksUptoSaid : Prop := signalMasksUptoRow.holds Try.pinned (OpenSpec.upto signalMasksSpec)

/-- 'carryalllaw12.SignalHandlers', WHERE WHAT IT READS IS OF BULK AT MOST 1048576: true; the input reads as it did. -/
def signalHandlersUptoRow : OpenClaim := { program := "ythpncefkklojlaa", sum := "b7683fb085e5affe9cc65b049d63500146f63f182fc05bf3ff0190e552995ebc", func := "carryall/carryalllaw12.SignalHandlers", spec := "signalHandlers", unfollowed := true, recurses := true, apart := false, narrowed := true }
def SignalHandlersUptoSaid : Prop := signalHandlersUptoRow.holds Try.pinned (OpenSpec.upto signalHandlersSpec)

/-- 'carryalllaw12.SignalOnce', WHERE WHAT IT READS IS OF BULK AT MOST 1048576: true; the input reads as it did. -/
def signalOnceUptoRow : OpenClaim := { program := "ythpncefkklojlaa", sum := "b7683fb085e5affe9cc65b049d63500146f63f182fc05bf3ff0190e552995ebc", func := "carryall/carryalllaw12.SignalOnce", spec := "signalOnce", unfollowed := true, recurses := true, apart := false, narrowed := true }
def SignalOnceUptoSaid : Prop := signalOnceUptoRow.holds Try.pinned (OpenSpec.upto signalOnceSpec)

/-- 'carryalllaw12.SignalPosts', WHERE WHAT IT READS IS OF BULK AT MOST 1048576: true; the input reads as it did. -/
def signalPostsUptoRow : OpenClaim := { program := "ythpncefkklojlaa", sum := "b7683fb085e5affe9cc65b049d63500146f63f182fc05bf3ff0190e552995ebc", func := "carryall/carryalllaw12.SignalPosts", spec := "signalPosts", unfollowed := true, recurses := true, apart := false, narrowed := true }
def SignalPostsUptoSaid : Prop := signalPostsUptoRow.holds Try.pinned (OpenSpec.upto signalPostsSpec)

/-- 'carryalllaw12.SignalNames', WHERE WHAT IT READS IS OF BULK AT MOST 1048576: true; the input reads as it did. -/
def signalNamesUptoRow : OpenClaim := { program := "ythpncefkklojlaa", sum := "b7683fb085e5affe9cc65b049d63500146f63f182fc05bf3ff0190e552995ebc", func := "carryall/carryalllaw12.SignalNames", spec := "signalNames", unfollowed := true, recurses := true, apart := false, narrowed := true }
def SignalNamesUptoSaid : Prop := signalNamesUptoRow.holds Try.pinned (OpenSpec.upto signalNamesSpec)

/-- 'carryalllaw12.SignalPlays', WHERE WHAT IT READS IS OF BULK AT MOST 1048576: true; the input reads as it did. -/
def signalPlaysUptoRow : OpenClaim := { program := "ythpncefkklojlaa", sum := "b7683fb085e5affe9cc65b049d63500146f63f182fc05bf3ff0190e552995ebc", func := "carryall/carryalllaw12.SignalPlays", spec := "signalPlays", unfollowed := true, recurses := true, apart := false, narrowed := true }
def SignalPlaysUptoSaid : Prop := signalPlaysUptoRow.holds Try.pinned (OpenSpec.upto signalPlaysSpec)

end Rows
end Go.Proofs.Ythpncefkklojlaa
