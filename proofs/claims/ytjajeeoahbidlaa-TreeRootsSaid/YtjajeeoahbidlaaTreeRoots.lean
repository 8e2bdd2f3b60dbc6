/- TreeRoots: whatever comes in, the law answers true, and the arguments read as they read before. -/
import Derived.Test.YtjajeeoahbidlaaTrVZ
import Derived.Test.YtjajeeoahbidlaaTrP
namespace Go.Proofs.Ytjajeeoahbidlaa.treeRoots
open Go.ChangeShapes Go.WideShapes Go.ChangeAt Go.RowKit Go.Ab
set_option linter.unusedVariables false

set_option maxRecDepth 100000 in
theorem lifted (os : Os) (started : os.Started) (H : Type) (enc : TypeId × Value → H) :
    ReturnsInHanded {} Try.checked os 4 .any (Rows.treeRootsSpec.pre6 enc Try.prog Try.f4 Rows.treeRootsRow.domain false) (Rows.treeRootsSpec.post enc Try.prog Try.f4 false true false false) := by
  refine returnsInHanded_of_change (C := Try.checked) own started (by kernel_rfl) Try.func4
    (ChangeSpec.witness6 (enc := enc) (C := Try.checked) false ⟨#[], #[.int .i64 0, .slice none 0 0], []⟩ 8 (by kernel_rfl) (by kernel_rfl) (by kernel_rfl) (by kernel_rfl)) ?_
  intro W base args ds gs before hval0 hW hcnd _
  have hW' := hW
  obtain ⟨p, q, hA0, hV, rfl, hfz, hnd⟩ := hW
  have hA : DataW.TrodAll enc Try.prog W 0 (fun _ => true) true Try.f4.params.toList args.toList ds p := hA0
  have hval := hval0
  rw [Try.params4] at hA hval
  obtain ⟨v0, v1, d0, d1, p0, p1, rfl, rfl, rfl, h0, h1⟩ := trodAll_two hA
  obtain ⟨x0, rfl⟩ := open_int (hval 0 _ _ rfl rfl)
  obtain ⟨m, l, ρ, n, hR, hs, hm, hl, ho⟩ := open_ops (hval 1 _ _ rfl rfl) h1
  obtain ⟨rfl, rfl⟩ := trodVars_none hV
  obtain ⟨m', hc⟩ := roots_x (x0 := x0) hm ho
  refine (callsIn_wide.1 (hc.calls hs hR (LRel.cons (.int _ _) (LRel.cons hl (LRel.nil _))))).mono fun e W' ⟨he, bel⟩ => ?_
  subst he
  exact ⟨_, rfl, _, _, _, [], _, [], hW', trodAll_mk1 (shut_bool Try.underlying4 _), by rw [Try.params4]; exact trodAll_mk2 (stays_p (by kernel_rfl) (of_decide_eq_true (by kernel_rfl)) h0 bel) (stays_p (by kernel_rfl) (of_decide_eq_true (by kernel_rfl)) h1 bel), rfl, bel.frame _, fun h => by cases h⟩

theorem over : Rows.treeRootsRow.holds Try.pinned (OpenSpec.ofChange Rows.treeRootsSpec) :=
  OpenClaim.holds_of_wide 4 Try.f4 rfl rfl rfl rfl rfl rfl rfl ⟨rfl, rfl, rfl, rfl, rfl⟩ rfl rfl rfl rfl rfl (by kernel_rfl) Try.func4 (by kernel_rfl)
    (of_decide_eq_true (by kernel_rfl)) (by unfold Func.isWrapper; first | (rw [if_pos (by decide +kernel)]; kernel_rfl) | (rw [if_neg (by decide +kernel)]; exact ⟨rfl, rfl⟩))
    (fun os started H enc _ => lifted os started H enc)

theorem proved : Rows.TreeRootsSaid := over
#print axioms proved
end Go.Proofs.Ytjajeeoahbidlaa.treeRoots
