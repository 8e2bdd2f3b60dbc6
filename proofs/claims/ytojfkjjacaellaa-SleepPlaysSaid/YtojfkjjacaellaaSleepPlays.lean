/- SleepPlays: whatever comes in, the law answers true, and the arguments read as they read before. -/
import Derived.Test.YtojfkjjacaellaaSmRZ
import Derived.Test.YtojfkjjacaellaaSmL
namespace Go.Proofs.Ytojfkjjacaellaa.sleepPlays
open Go.ChangeShapes Go.WideShapes Go.ChangeAt Go.RowKit Go.Ab
set_option linter.unusedVariables false

set_option maxRecDepth 100000 in
theorem lifted (os : Os) (started : os.Started) (H : Type) (enc : TypeId × Value → H) :
    ReturnsInHanded {} Try.checked os 5 .any (Rows.sleepPlaysSpec.pre6 enc Try.prog Try.f5 Rows.sleepPlaysRow.domain false) (Rows.sleepPlaysSpec.post enc Try.prog Try.f5 false true false false) := by
  refine returnsInHanded_of_change (C := Try.checked) own started (by kernel_rfl) Try.func5
    (ChangeSpec.witness6 (enc := enc) (C := Try.checked) false ⟨#[], #[.slice none 0 0], []⟩ 8 (by kernel_rfl) (by kernel_rfl) (by kernel_rfl) (by kernel_rfl)) ?_
  intro W base args ds gs before hval0 hW hcnd _
  have hW' := hW
  obtain ⟨p, q, hA0, hV, rfl, hfz, hnd⟩ := hW
  have hA : DataW.TrodAll enc Try.prog W 0 (fun _ => true) true Try.f5.params.toList args.toList ds p := hA0
  have hval := hval0
  rw [Try.params5] at hA hval
  obtain ⟨v0, d0, rfl, rfl, h0⟩ := trodAll_one hA
  obtain ⟨m, l, ρ, n, hR, hs, hm, hl, ho⟩ := open_ops (hval 0 _ _ rfl rfl) h0
  obtain ⟨rfl, rfl⟩ := trodVars_none hV
  obtain ⟨m', hc⟩ := plays_ok  hm ho
  refine (callsIn_wide.1 (hc.calls hs hR (LRel.cons hl (LRel.nil _)))).mono fun e W' ⟨he, bel⟩ => ?_
  subst he
  exact ⟨_, rfl, _, _, _, [], _, [], hW', trodAll_mk1 (shut_bool Try.underlying4 _), by rw [Try.params5]; exact trodAll_mk1 (stays_p (by kernel_rfl) (of_decide_eq_true (by kernel_rfl)) h0 bel), rfl, bel.frame _, fun h => by cases h⟩

theorem over : Rows.sleepPlaysRow.holds Try.pinned (OpenSpec.ofChange Rows.sleepPlaysSpec) :=
  OpenClaim.holds_of_wide 5 Try.f5 rfl rfl rfl rfl rfl rfl rfl ⟨rfl, rfl, rfl, rfl, rfl⟩ rfl rfl rfl rfl rfl (by kernel_rfl) Try.func5 (by kernel_rfl)
    (of_decide_eq_true (by kernel_rfl)) (by unfold Func.isWrapper; first | (rw [if_pos (by decide +kernel)]; kernel_rfl) | (rw [if_neg (by decide +kernel)]; exact ⟨rfl, rfl⟩))
    (fun os started H enc _ => lifted os started H enc)

theorem proved : Rows.SleepPlaysSaid := over
#print axioms proved
end Go.Proofs.Ytojfkjjacaellaa.sleepPlays
