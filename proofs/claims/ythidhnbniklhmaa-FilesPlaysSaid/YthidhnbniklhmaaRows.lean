/-
  No cell of these rows narrows 'for every input' (looked for: loops, veiled, ifaces, maps, wideKeys, modest, calm, conditions, laid).
  DERIVED. THE GIVEN ROWS OF THIS SEAT. 7 by the template 'for every input the law returns true; each argument reads behind the call as it read before'; 0 by the template 'total and deterministic' (their statements: YthidhnbniklhmaaTotals.lean).
  GIVEN WITH THE SEED: the statements are not yours to turn. If you find one false, say at which input.
  Laid BY PROGRAM, IN A SANDBOX (cutbox-rows.mjs): the forced cells as the released guide's own fill.sh prints them over the translation f5648ddf7d912b28… (all of the seat's roots in one cut). By AI agents, Wed Nov 11 2026. No macro, syntax, notation, axiom, sorry.
-/
import Derived.Test.YthidhnbniklhmaaChecked
import GoSem.Claim
import GoSem.ClaimJoined
import GoSem.ClaimMapViews
import Derived.JoinedTies
import Derived.KernelRfl
namespace Go.Proofs.Ythidhnbniklhmaa
/- THE CELL 'sum', in the pinned program and in every row, IS THE sha256 OF THE DUMP (.gsa) THAT YthidhnbniklhmaaProg.lean LOADS. Nothing in Lean hashes anything: it is a label: what it is worth is what the hold of that sum in a sandbox is worth. -/
noncomputable def Try.pinned : Pinned := { name := "ythidhnbniklhmaa", sum := "f5648ddf7d912b2853f28dfce37cfac145654eba8d1fcb793ff216ab076fa191", checked := Try.checked }
namespace Rows
def none {H : Type} : Left H := { results := [], args := [] }

/-- 'carryalllaw10.FilesApart': WHATEVER THE INPUT: true; the input reads as it did. -/
def filesApartSpec : ChangeSpec := { name := "filesApart", fn := fun _ => fun
  | [d1, d2, d3] => { results := [.lit (.bool true)], args := [d1, d2, d3] }
  | _ => none }
def filesApartRow : OpenClaim := { program := "ythidhnbniklhmaa", sum := "f5648ddf7d912b2853f28dfce37cfac145654eba8d1fcb793ff216ab076fa191", func := "carryall/carryalllaw10.FilesApart", spec := "filesApart", apart := false }
def FilesApartSaid : Prop := filesApartRow.holds Try.pinned (OpenSpec.ofChange filesApartSpec)

/-- ITS FALSE NEIGHBOUR: 'it returns false'. Refute it at one input. -/
def filesApartWrong : ChangeSpec := { name := "filesApart", fn := fun _ => fun
  | [d1, d2, d3] => { results := [.lit (.bool false)], args := [d1, d2, d3] }
  | _ => none }
def FilesApartWrongFalsely : Prop := filesApartRow.holds Try.pinned (OpenSpec.ofChange filesApartWrong)

/-- 'carryalllaw10.FilesTraces': WHATEVER THE INPUT: true; the input reads as it did. -/
def filesTracesSpec : ChangeSpec := { name := "filesTraces", fn := fun _ => fun
  | [d1, d2, d3] => { results := [.lit (.bool true)], args := [d1, d2, d3] }
  | _ => none }
def filesTracesRow : OpenClaim := { program := "ythidhnbniklhmaa", sum := "f5648ddf7d912b2853f28dfce37cfac145654eba8d1fcb793ff216ab076fa191", func := "carryall/carryalllaw10.FilesTraces", spec := "filesTraces", unfollowed := true, recurses := true, apart := false }
def FilesTracesSaid : Prop := filesTracesRow.holds Try.pinned (OpenSpec.ofChange filesTracesSpec)

/-- ITS FALSE NEIGHBOUR: 'it returns false'. Refute it at one input. -/
def filesTracesWrong : ChangeSpec := { name := "filesTraces", fn := fun _ => fun
  | [d1, d2, d3] => { results := [.lit (.bool false)], args := [d1, d2, d3] }
  | _ => none }
def FilesTracesWrongFalsely : Prop := filesTracesRow.holds Try.pinned (OpenSpec.ofChange filesTracesWrong)

/-- 'carryalllaw10.FilesDups': WHATEVER THE INPUT: true; the input reads as it did. -/
def filesDupsSpec : ChangeSpec := { name := "filesDups", fn := fun _ => fun
  | [d1, d2] => { results := [.lit (.bool true)], args := [d1, d2] }
  | _ => none }
def filesDupsRow : OpenClaim := { program := "ythidhnbniklhmaa", sum := "f5648ddf7d912b2853f28dfce37cfac145654eba8d1fcb793ff216ab076fa191", func := "carryall/carryalllaw10.FilesDups", spec := "filesDups", unfollowed := true, recurses := true, apart := false }
def FilesDupsSaid : Prop := filesDupsRow.holds Try.pinned (OpenSpec.ofChange filesDupsSpec)

/-- ITS FALSE NEIGHBOUR: 'it returns false'. Refute it at one input. -/
def filesDupsWrong : ChangeSpec := { name := "filesDups", fn := fun _ => fun
  | [d1, d2] => { results := [.lit (.bool false)], args := [d1, d2] }
  | _ => none }
def FilesDupsWrongFalsely : Prop := filesDupsRow.holds Try.pinned (OpenSpec.ofChange filesDupsWrong)

/-- 'carryalllaw10.FilesFds': WHATEVER THE INPUT: true; the input reads as it did. -/
def filesFdsSpec : ChangeSpec := { name := "filesFds", fn := fun _ => fun
  | [d1, d2, d3] => { results := [.lit (.bool true)], args := [d1, d2, d3] }
  | _ => none }
def filesFdsRow : OpenClaim := { program := "ythidhnbniklhmaa", sum := "f5648ddf7d912b2853f28dfce37cfac145654eba8d1fcb793ff216ab076fa191", func := "carryall/carryalllaw10.FilesFds", spec := "filesFds", unfollowed := true, recurses := true, apart := false }
def FilesFdsSaid : Prop := filesFdsRow.holds Try.pinned (OpenSpec.ofChange filesFdsSpec)

/-- ITS FALSE NEIGHBOUR: 'it returns false'. Refute it at one input. -/
def filesFdsWrong : ChangeSpec := { name := "filesFds", fn := fun _ => fun
  | [d1, d2, d3] => { results := [.lit (.bool false)], args := [d1, d2, d3] }
  | _ => none }
def FilesFdsWrongFalsely : Prop := filesFdsRow.holds Try.pinned (OpenSpec.ofChange filesFdsWrong)

/-- 'carryalllaw10.FilesPlays': WHATEVER THE INPUT: true; the input reads as it did. -/
def filesPlaysSpec : ChangeSpec := { name := "filesPlays", fn := fun _ => fun
  | [d] => { results := [.lit (.bool true)], args := [d] }
  | _ => none }
def filesPlaysRow : OpenClaim := { program := "ythidhnbniklhmaa", sum := "f5648ddf7d912b2853f28dfce37cfac145654eba8d1fcb793ff216ab076fa191", func := "carryall/carryalllaw10.FilesPlays", spec := "filesPlays", unfollowed := true, recurses := true, apart := false }
def FilesPlaysSaid : Prop := filesPlaysRow.holds Try.pinned (OpenSpec.ofChange filesPlaysSpec)

/-- ITS FALSE NEIGHBOUR: 'it returns false'. Refute it at one input. -/
def filesPlaysWrong : ChangeSpec := { name := "filesPlays", fn := fun _ => fun
  | [d] => { results := [.lit (.bool false)], args := [d] }
  | _ => none }
def FilesPlaysWrongFalsely : Prop := filesPlaysRow.holds Try.pinned (OpenSpec.ofChange filesPlaysWrong)

/-- 'carryalllaw10.FilesNames': WHATEVER THE INPUT: true; the input reads as it did. -/
def filesNamesSpec : ChangeSpec := { name := "filesNames", fn := fun _ => fun
  | [] => { results := [.lit (.bool true)], args := [] }
  | _ => none }
def filesNamesRow : OpenClaim := { program := "ythidhnbniklhmaa", sum := "f5648ddf7d912b2853f28dfce37cfac145654eba8d1fcb793ff216ab076fa191", func := "carryall/carryalllaw10.FilesNames", spec := "filesNames", unfollowed := true, recurses := true, apart := false }
def FilesNamesSaid : Prop := filesNamesRow.holds Try.pinned (OpenSpec.ofChange filesNamesSpec)

/-- ITS FALSE NEIGHBOUR: 'it returns false'. Refute it at one input. -/
def filesNamesWrong : ChangeSpec := { name := "filesNames", fn := fun _ => fun
  | [] => { results := [.lit (.bool false)], args := [] }
  | _ => none }
def FilesNamesWrongFalsely : Prop := filesNamesRow.holds Try.pinned (OpenSpec.ofChange filesNamesWrong)

/-- 'carryalllaw10.FilesLeast': WHATEVER THE INPUT: true; the input reads as it did. -/
def filesLeastSpec : ChangeSpec := { name := "filesLeast", fn := fun _ => fun
  | [d] => { results := [.lit (.bool true)], args := [d] }
  | _ => none }
def filesLeastRow : OpenClaim := { program := "ythidhnbniklhmaa", sum := "f5648ddf7d912b2853f28dfce37cfac145654eba8d1fcb793ff216ab076fa191", func := "carryall/carryalllaw10.FilesLeast", spec := "filesLeast", unfollowed := true, recurses := true, apart := false }
def FilesLeastSaid : Prop := filesLeastRow.holds Try.pinned (OpenSpec.ofChange filesLeastSpec)

/-- ITS FALSE NEIGHBOUR: 'it returns false'. Refute it at one input. -/
def filesLeastWrong : ChangeSpec := { name := "filesLeast", fn := fun _ => fun
  | [d] => { results := [.lit (.bool false)], args := [d] }
  | _ => none }
def FilesLeastWrongFalsely : Prop := filesLeastRow.holds Try.pinned (OpenSpec.ofChange filesLeastWrong)

/- THE SECOND FORM. 'bulk': how many values and letters a reading holds, each counted each time it is reached (what is shared counts as often as it is met; a slice's spare places count too). A statement '..UptoSaid' is the law's where the arguments, and the package variables that the reading takes, are together of bulk at most 1048576: NARROWER than '..Said'. Prove '..Said' where nothing that the law and all that it calls make is longer than what came in: it says more and counts as full. Else prove '..UptoSaid'. A law counts once. -/
mutual
def uptoBulk {H : Type} : DataW H → Nat
  | .lit (.string bytes) => bytes.length + 1
  | .lit _ => 1
  | .nil => 1
  | .ptr d => uptoBulk d + 1
  | .slice elems spare => uptoBulkAll elems + uptoBulkAll spare + 1
  | .agg parts => uptoBulkAll parts + 1
  | .iface _ d => uptoBulk d + 1
  | .map entries => uptoBulkEntries entries + 1
  | .held _ => 1
def uptoBulkAll {H : Type} : List (DataW H) → Nat
  | [] => 0
  | d :: r => uptoBulk d + uptoBulkAll r
def uptoBulkEntries {H : Type} : List (Lit × DataW H) → Nat
  | [] => 0
  | x :: r => uptoBulkEntry x + uptoBulkEntries r
def uptoBulkEntry {H : Type} : Lit × DataW H → Nat
  | (.string bytes, d) => bytes.length + uptoBulk d + 1
  | (_, d) => uptoBulk d + 1
 end
def uptoSmall : (H : Type) → List (DataW H) → Bool := fun _ ds => decide (uptoBulkAll ds ≤ 1048576)
def OpenSpec.upto (s : _root_.Go.ChangeSpec) : _root_.Go.OpenSpec := { _root_.Go.OpenSpec.ofChange s with cond := some uptoSmall }

/-- 'carryalllaw10.FilesApart', WHERE WHAT IT READS IS OF BULK AT MOST 1048576: true; the input reads as it did. -/
def filesApartUptoRow : OpenClaim := { program := "ythidhnbniklhmaa", sum := "f5648ddf7d912b2853f28dfce37cfac145654eba8d1fcb793ff216ab076fa191", func := "carryall/carryalllaw10.FilesApart", spec := "filesApart", apart := false, narrowed := true }
def FilesApartUptoSaid : Prop := filesApartUptoRow.holds Try.pinned (OpenSpec.upto filesApartSpec)

/-- 'carryalllaw10.FilesTraces', WHERE WHAT IT READS IS OF BULK AT MOST 1048576: true; the input reads as it did. -/
def filesTracesUptoRow : OpenClaim := { program := "ythidhnbniklhmaa", sum := "f5648ddf7d912b2853f28dfce37cfac145654eba8d1fcb793ff216ab076fa191", func := "carryall/carryalllaw10.FilesTraces", spec := "filesTraces", unfollowed := true, recurses := true, apart := false, narrowed := true }
def FilesTracesUptoSaid : Prop := filesTracesUptoRow.holds Try.pinned (OpenSpec.upto filesTracesSpec)

/-- 'carryalllaw10.FilesDups', WHERE WHAT IT READS IS OF BULK AT MOST 1048576: true; the input reads as it did. -/
def filesDupsUptoRow : OpenClaim := { program := "ythidhnbniklhmaa", sum := "f5648ddf7d912b2853f28dfce37cfac145654eba8d1fcb793ff216ab076fa191", func := "carryall/carryalllaw10.FilesDups", spec := "filesDups", unfollowed := true, recurses := true, apart := false, narrowed := true }
def FilesDupsUptoSaid : Prop := filesDupsUptoRow.holds Try.pinned (OpenSpec.upto filesDupsSpec)

/-- 'carryalllaw10.FilesFds', WHERE WHAT IT READS IS OF BULK AT MOST 1048576: true; the input reads as it did. -/
def filesFdsUptoRow : OpenClaim := { program := "ythidhnbniklhmaa", sum := "f5648ddf7d912b2853f28dfce37cfac145654eba8d1fcb793ff216ab076fa191", func := "carryall/carryalllaw10.FilesFds", spec := "filesFds", unfollowed := true, recurses := true, apart := false, narrowed := true }
def FilesFdsUptoSaid : Prop := filesFdsUptoRow.holds Try.pinned (OpenSpec.upto filesFdsSpec)

/-- 'carryalllaw10.FilesPlays', WHERE WHAT IT READS IS OF BULK AT MOST 1048576: true; the input reads as it did. -/
def filesPlaysUptoRow : OpenClaim := { program := "ythidhnbniklhmaa", sum := "f5648ddf7d912b2853f28dfce37cfac145654eba8d1fcb793ff216ab076fa191", func := "carryall/carryalllaw10.FilesPlays", spec := "filesPlays", unfollowed := true, recurses := true, apart := false, narrowed := true }
def FilesPlaysUptoSaid : Prop := filesPlaysUptoRow.holds Try.pinned (OpenSpec.upto filesPlaysSpec)

/-- 'carryalllaw10.FilesNames', WHERE WHAT IT READS IS OF BULK AT MOST 1048576: true; the input reads as it did. -/
def filesNamesUptoRow : OpenClaim := { program := "ythidhnbniklhmaa", sum := "f5648ddf7d912b2853f28dfce37cfac145654eba8d1fcb793ff216ab076fa191", func := "carryall/carryalllaw10.FilesNames", spec := "filesNames", unfollowed := true, recurses := true, apart := false, narrowed := true }
def FilesNamesUptoSaid : Prop := filesNamesUptoRow.holds Try.pinned (OpenSpec.upto filesNamesSpec)

/-- 'carryalllaw10.FilesLeast', WHERE WHAT IT READS IS OF BULK AT MOST 1048576: true; the input reads as it did. -/
def filesLeastUptoRow : OpenClaim := { program := "ythidhnbniklhmaa", sum := "f5648ddf7d912b2853f28dfce37cfac145654eba8d1fcb793ff216ab076fa191", func := "carryall/carryalllaw10.FilesLeast", spec := "filesLeast", unfollowed := true, recurses := true, apart := false, narrowed := true }
def FilesLeastUptoSaid : Prop := filesLeastUptoRow.holds Try.pinned (OpenSpec.upto filesLeastSpec)

end Rows
end Go.Proofs.Ythidhnbniklhmaa
