/- TreeThaws: whatever comes in, the law answers true, and the arguments read as they read before. -/
import Derived.Test.YtjajeeoahbidlaaTrRU
import Derived.Test.YtjajeeoahbidlaaTrP
namespace Go.Proofs.Ytjajeeoahbidlaa.treeThaws
open Go.ChangeShapes Go.WideShapes Go.ChangeAt Go.RowKit Go.Ab
set_option linter.unusedVariables false

set_option maxRecDepth 100000 in
theorem lifted (os : Os) (started : os.Started) (H : Type) (enc : TypeId × Value → H) :
    ReturnsInHanded {} Try.checked os 6 .any (Rows.treeThawsSpec.pre6 enc Try.prog Try.f6 Rows.treeThawsRow.domain false) (Rows.treeThawsSpec.post enc Try.prog Try.f6 false true false false) := by
  refine returnsInHanded_of_change (C := Try.checked) own started (by kernel_rfl) Try.func6
    (ChangeSpec.witness6 (enc := enc) (C := Try.checked) false ⟨#[], #[.int .i64 0, .slice none 0 0, .int .i64 0], []⟩ 8 (by kernel_rfl) (by kernel_rfl) (by kernel_rfl) (by kernel_rfl)) ?_
  intro W base args ds gs before hval0 hW hcnd _
  have hW' := hW
  obtain ⟨p, q, hA0, hV, rfl, hfz, hnd⟩ := hW
  have hA : DataW.TrodAll enc Try.prog W 0 (fun _ => true) true Try.f6.params.toList args.toList ds p := hA0
  have hval := hval0
  rw [Try.params6] at hA hval
  obtain ⟨v0, v1, v2, d0, d1, d2, p0, p1, p2, rfl, rfl, rfl, h0, h1, h2⟩ := trodAll_three hA
  obtain ⟨x0, rfl⟩ := open_int (hval 0 _ _ rfl rfl)
  obtain ⟨m, l, ρ, n, hR, hs, hm, hl, ho⟩ := open_ops (hval 1 _ _ rfl rfl) h1
  obtain ⟨x2, rfl⟩ := open_int (hval 2 _ _ rfl rfl)
  obtain ⟨rfl, rfl⟩ := trodVars_none hV
  obtain ⟨m', hc⟩ := thaws_x (x0 := x0) (x2 := x2) hm ho
  refine (callsIn_wide.1 (hc.calls hs hR (LRel.cons (.int _ _) (LRel.cons hl (LRel.cons (.int _ _) (LRel.nil _)))))).mono fun e W' ⟨he, bel⟩ => ?_
  subst he
  exact ⟨_, rfl, _, _, _, [], _, [], hW', trodAll_mk1 (shut_bool Try.underlying4 _), by rw [Try.params6]; exact trodAll_mk3 (stays_p (by kernel_rfl) (of_decide_eq_true (by kernel_rfl)) h0 bel) (stays_p (by kernel_rfl) (of_decide_eq_true (by kernel_rfl)) h1 bel) (stays_p (by kernel_rfl) (of_decide_eq_true (by kernel_rfl)) h2 bel), rfl, bel.frame _, fun h => by cases h⟩

theorem over : Rows.treeThawsRow.holds Try.pinned (OpenSpec.ofChange Rows.treeThawsSpec) :=
  OpenClaim.holds_of_wide 6 Try.f6 rfl rfl rfl rfl rfl rfl rfl ⟨rfl, rfl, rfl, rfl, rfl⟩ rfl rfl rfl rfl rfl (by kernel_rfl) Try.func6 (by kernel_rfl)
    (of_decide_eq_true (by kernel_rfl)) (by unfold Func.isWrapper; first | (rw [if_pos (by decide +kernel)]; kernel_rfl) | (rw [if_neg (by decide +kernel)]; exact ⟨rfl, rfl⟩))
    (fun os started H enc _ => lifted os started H enc)

theorem proved : Rows.TreeThawsSaid := over
#print axioms proved
end Go.Proofs.Ytjajeeoahbidlaa.treeThaws
