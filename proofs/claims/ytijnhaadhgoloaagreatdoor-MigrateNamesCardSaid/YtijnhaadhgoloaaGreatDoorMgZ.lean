/- MigrateNames: called without arguments, the law returns true, wherever the listed tables hold what the program's text lays (tied by the given tie). The program is run by the interpreter of the texts Ab, its great calls apart; the runs are evaluated by the kernel. -/
import Derived.Test.YtijnhaadhgoloaaGreatDoorCards
import Derived.Test.YtijnhaadhgoloaaGreatDoorTie
import Derived.Test.YtijnhaadhgoloaaGreatDoorMgR
import Derived.Test.YtijnhaadhgoloaaGreatDoorMgF
import Derived.Test.YtijnhaadhgoloaaGreatDoorMgG
import Derived.Test.YtijnhaadhgoloaaGreatDoorAbY
import Derived.WalkKit
import Derived.ProofKit
import Derived.OpenShut
import Derived.ChangeOld
import Derived.Below
import Derived.LaidMore
import Derived.Lay
import Derived.Stop.Joined
import Derived.SevenTiedAt
import Derived.MakeChecks
namespace Go.Proofs.YtijnhaadhgoloaaGreatDoor.migrateNames
open Go.ChangeShapes Go.WideShapes Go.ChangeAt Go.RowKit
set_option linter.unusedVariables false

theorem own : ownKnob Tryz.prog.godebug = none := by kernel_rfl

theorem of_laid {W : World} (h : laidMetH Tryz.prog laid1 W) : ∀ q ∈ tabs, q.1 < 64 ∧ q.2 ≠ [] ∧ q.2.all Ab.plain = true ∧ ∀ (i : Nat) v, q.2[i]? = some v → W.cell? ⟨q.1, i, none⟩ = some v := by
  rw [MakeChecks.laidMetH_plain _ _ _ (by kernel_rfl)] at h
  obtain ⟨ps, hl, _⟩ := h
  exact Ab.tabs_laid tabs_eq hl

theorem walk (w : World) (hc : ∀ q ∈ tabs, q.1 < 64 ∧ q.2 ≠ [] ∧ q.2.all Ab.plain = true ∧ ∀ (i : Nat) v, q.2[i]? = some v → w.cell? ⟨q.1, i, none⟩ = some v) : Calls Tryz.prog 3 #[] w fun e w' => e = .returned (.bool true) ∧ Below w.heap.size w w' := by
  obtain ⟨m, hm⟩ := Ab.isTrueF_run names_run
  refine (Ab.call_sound (σ := Ab.Sig.none) full_sure hm (Ab.tabMem_rel hc) (args' := #[]) (Ab.LRel.nil _)).mono ?_
  rintro e w' ⟨v', ρ', rfl, hv, hp⟩
  rw [hv.bool_inv]
  exact ⟨rfl, hp.below (Ab.tabMem_sealed tabs)⟩

set_option maxRecDepth 100000 in
theorem lifted (os : Os) (started : os.Started) (H : Type) (enc : TypeId × Value → H) :
    ReturnsInHanded {} Tryz.checked os 3 .any (fun w args => (Rows.migrateNamesSpec.pre enc Tryz.prog Tryz.f3 [] false w args ∧ laidMetH Tryz.prog laid1 w) ∧ sizedMet enc Tryz.prog Tryz.f3 (OpenSpec.ofChange Rows.migrateNamesSpec) false w args)
      (Rows.migrateNamesSpec.post enc Tryz.prog Tryz.f3 false true false false) := by
  refine returnsInHanded_of_change_and (C := Tryz.checked) (X := fun w _ => laidMetH Tryz.prog laid1 w) (fun _ _ _ hh h => h.of_heap hh) own started (by kernel_rfl) Tryz.func3
    (ChangeSpec.witness_shaped (enc := enc) (C := Tryz.checked) (os := os) (X := fun w _ => laidMetH Tryz.prog laid1 w) false (World.laidAll Tryz.prog os laid1) #[] 8 (World.laidAll_os _ _ _)
      (World.shaped_of_ZipB (by kernel_rfl) (by kernel_rfl)) (by kernel_rfl) (by kernel_rfl) (by kernel_rfl)
      (by rw [MakeChecks.laidMetH_plain _ _ _ (by kernel_rfl)]; exact laidMet_laidAll _ (by kernel_rfl) (by kernel_rfl))) ?_
  intro W base args ds gs before hval0 hW _ _ hL _
  have hW' := hW
  obtain ⟨p, q, hA0, hV, rfl, hfz, hnd⟩ := hW
  have hA : DataW.TrodAll enc Tryz.prog W 0 (fun _ => true) true Tryz.f3.params.toList args.toList ds p := hA0
  rw [Tryz.params3] at hA
  obtain ⟨hargs, rfl, rfl⟩ := trodAll_none hA
  obtain rfl : args = #[] := by cases args; simp_all
  obtain ⟨rfl, rfl⟩ := trodVars_none hV
  clear hA0 hval0
  refine (walk W (of_laid hL)).mono fun e W' ⟨he, bel⟩ => ?_
  subst he
  exact ⟨_, rfl, _, _, _, [], _, [], hW', trodAll_mk1 (shut_bool Tryz.underlying4 _), trodAll_mk0, rfl, bel.frame _, fun h => by cases h⟩

theorem holds : Rows.MigrateNamesSaid :=
  OpenClaim.holds_of_wide 3 Tryz.f3 rfl rfl rfl rfl rfl rfl rfl ⟨rfl, rfl, rfl, rfl, rfl⟩ rfl rfl rfl rfl rfl (by kernel_rfl) Tryz.func3 facts
    (of_decide_eq_true (by kernel_rfl)) (by unfold Func.isWrapper; first | (rw [if_pos (by decide +kernel)]; kernel_rfl) | (rw [if_neg (by decide +kernel)]; exact ⟨rfl, rfl⟩))
    (fun os started H enc _ => lifted os started H enc)

theorem proved : Rows.MigrateNamesCardSaid :=
  Claim7.holds_tied_plain_at .later [] [.data, .data, .data, .data, .data, .data, .data, .pinned] true (true, "cbcba671b2b2afe395be0aacce4e17e9f780acc8849663f42f78e528b19e8041") false
    holds (fun _ h => by cases h) g1 (fun _ h => by cases h) migrateNames_row_tie rfl ⟨rfl, rfl⟩ g2 rfl
    (fun f fn hf hfn => by
      obtain rfl : f = 3 := Option.some.inj (g3.symm.trans hf) |>.symm
      obtain rfl : fn = Tryz.f3 := (Option.some.inj (Tryz.func3.symm.trans hfn)).symm
      exact ⟨g4, fun j t ht => by
        rw [Tryz.params3] at ht
        simp at ht⟩)
    g5
#print axioms proved
end Go.Proofs.YtijnhaadhgoloaaGreatDoor.migrateNames