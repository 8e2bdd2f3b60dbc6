/- ValidNames: called without arguments, the law returns true, wherever the table of the rules' names holds what the program's text lays (tied by the given tie). The program is run by the interpreter of the texts Ab; the run is evaluated by the kernel. -/
import Derived.Test.YtjccgbdhfldnaaaDoorCards
import Derived.Test.YtjccgbdhfldnaaaDoorTie
import Derived.Test.YtjccgbdhfldnaaaDoorAbW
import Derived.Test.YtjccgbdhfldnaaaDoorAbX
import Derived.WalkKit
import Derived.ProofKit
import Derived.OpenShut
import Derived.ChangeOld
import Derived.Below
import Derived.LaidMore
import Derived.Stop.Joined
import Derived.SevenTiedAt
import Derived.MakeChecks
namespace Go.Proofs.YtjccgbdhfldnaaaDoor.validNames
open Go.ChangeShapes Go.WideShapes Go.ChangeAt Go.RowKit
set_option linter.unusedVariables false

theorem own : ownKnob Tryd.prog.godebug = none := by kernel_rfl

abbrev laid1 : List (String × DataW Unit) := [("carryall/valid.names", Rows.laid_carryall_valid_names)]
def tbl : List (List UInt8) := [[], [112, 114, 111, 99, 115], [111, 98, 106, 101, 99, 116, 115], [102, 105, 108, 101, 115], [112, 105, 112, 101, 115], [115, 105, 100, 101, 115], [119, 97, 105, 116, 115], [102, 117, 116, 101, 120, 101, 115], [112, 97, 103, 101, 115], [99, 104, 105, 108, 100, 114, 101, 110], [115, 105, 103, 110, 97, 108, 115]]
def cells : List Value := tbl.map fun b => Value.string ⟨b.toArray⟩

theorem names_run : Ab.isTrueF (Ab.runF (Ab.env Tryd.prog) 900 (.call 3 []) (Ab.gMem 0 cells)) = true := by kernel_rfl

theorem of_laid {W : World} (h : laidMetH Tryd.prog laid1 W) : ∀ (i : Nat) v, cells[i]? = some v → W.cell? ⟨0, i, none⟩ = some v := by
  rw [MakeChecks.laidMetH_plain _ _ _ (by kernel_rfl)] at h
  exact Ab.strs_of_laid (P := Tryd.prog) (n := "carryall/valid.names") (g := 0) (k := 11) (by kernel_rfl) (by kernel_rfl) Tryd.underlying67 Tryd.underlying9 (by kernel_rfl) (bs := tbl) h

theorem walk (w : World) (hc : ∀ (i : Nat) v, cells[i]? = some v → w.cell? ⟨0, i, none⟩ = some v) : Calls Tryd.prog 3 #[] w fun e w' => e = .returned (.bool true) ∧ Below w.heap.size w w' := by
  obtain ⟨m, hm⟩ := Ab.isTrueF_run names_run
  refine (Ab.call_sound (σ := Ab.Sig.none) (Ab.env_sure (P := Tryd.prog) (by kernel_rfl)) hm (Ab.gMem_rel (by decide) (by decide) (by kernel_rfl) hc) (args' := #[]) (Ab.LRel.nil _)).mono ?_
  rintro e w' ⟨v', ρ', rfl, hv, hp⟩
  rw [hv.bool_inv]
  exact ⟨rfl, hp.below (Ab.gMem_sealed 0 cells)⟩

/-- The door's own heap meets the condition: closed facts. -/
theorem door_met (os : Os) (args : Array Value) : laidMetH Tryd.prog laid1 ((World.doorLaid Tryd.prog 400 os).forCall (fun _ _ => 0) ⟨#[], args, []⟩).memory :=
  laidMetH_of_parts3 (fuel := 8) (laidMet_of_run' 8 (by kernel_rfl) (by kernel_rfl)) (by kernel_rfl) (by kernel_rfl)

set_option maxRecDepth 100000 in
theorem lifted (os : Os) (started : os.Started) (H : Type) (enc : TypeId × Value → H) :
    ReturnsInHanded {} Tryd.checked os 3 .any (fun w args => (Rows.validNamesSpec.pre enc Tryd.prog Tryd.f3 [] false w args ∧ laidMetH Tryd.prog laid1 w) ∧ sizedMet enc Tryd.prog Tryd.f3 (OpenSpec.ofChange Rows.validNamesSpec) false w args)
      (Rows.validNamesSpec.post enc Tryd.prog Tryd.f3 false true false false) := by
  refine returnsInHanded_of_change_and (C := Tryd.checked) (X := fun w _ => laidMetH Tryd.prog laid1 w) (fun _ _ _ hh h => h.of_heap hh) own started (by kernel_rfl) Tryd.func3
    (ChangeSpec.witness_shaped (enc := enc) (C := Tryd.checked) (os := os) (X := fun w _ => laidMetH Tryd.prog laid1 w) false (World.doorLaid Tryd.prog 400 os) #[] 8 rfl (World.shaped_of_RefB (by kernel_rfl) (by kernel_rfl)) (by kernel_rfl) (by kernel_rfl) (by kernel_rfl) (door_met os _)) ?_
  intro W base args ds gs before hval0 hW _ _ hL _
  have hW' := hW
  obtain ⟨p, q, hA0, hV, rfl, hfz, hnd⟩ := hW
  have hA : DataW.TrodAll enc Tryd.prog W 0 (fun _ => true) true Tryd.f3.params.toList args.toList ds p := hA0
  rw [Tryd.params3] at hA
  obtain ⟨hargs, rfl, rfl⟩ := trodAll_none hA
  obtain rfl : args = #[] := by cases args; simp_all
  obtain ⟨rfl, rfl⟩ := trodVars_none hV
  clear hA0 hval0
  refine (walk W (of_laid hL)).mono fun e W' ⟨he, bel⟩ => ?_
  subst he
  exact ⟨_, rfl, _, _, _, [], _, [], hW', trodAll_mk1 (shut_bool Tryd.underlying4 _), trodAll_mk0, rfl, bel.frame _, fun h => by cases h⟩

theorem holds : Rows.ValidNamesSaid :=
  OpenClaim.holds_of_wide 3 Tryd.f3 rfl rfl rfl rfl rfl rfl rfl ⟨rfl, rfl, rfl, rfl, rfl⟩ rfl rfl rfl rfl rfl (by kernel_rfl) Tryd.func3 (by kernel_rfl)
    (of_decide_eq_true (by kernel_rfl)) (by unfold Func.isWrapper; first | (rw [if_pos (by decide +kernel)]; kernel_rfl) | (rw [if_neg (by decide +kernel)]; exact ⟨rfl, rfl⟩))
    (fun os started H enc _ => lifted os started H enc)

theorem proved : Rows.ValidNamesCardSaid :=
  Claim7.holds_tied_plain_at .later [] [.data] true (true, "117937d1be8ca918011e6036c82e49f02688a71cc95d398ee093d4ffb802eef3") false
    holds (fun _ h => by cases h) (by kernel_rfl) (fun _ h => by cases h) validNames_row_tie rfl ⟨rfl, rfl⟩ (by kernel_rfl) rfl
    (fun f fn hf hfn => by
      obtain rfl : f = 3 := Option.some.inj ((show Tryd.prog.funcNamed "carryall/carryalllaw25.ValidNames" = some 3 by kernel_rfl).symm.trans hf) |>.symm
      obtain rfl : fn = Tryd.f3 := (Option.some.inj (Tryd.func3.symm.trans hfn)).symm
      exact ⟨by kernel_rfl, fun j t ht => by
        rw [Tryd.params3] at ht
        simp at ht⟩)
    (by kernel_rfl)
#print axioms proved
end Go.Proofs.YtjccgbdhfldnaaaDoor.validNames
