/- SignalMasks: whatever the signals and the mask, the law returns true, and the arguments read as they read before. -/
import Derived.Test.YthpncefkklojlaaSgF
namespace Go.Proofs.Ythpncefkklojlaa.signalMasks
open Go.ChangeShapes Go.WideShapes Go.ChangeAt Go.RowKit Go.Ab
open Go.Proofs.Ythpncefkklojlaa.sig
set_option linter.unusedVariables false

theorem masks_0 {s : S} {m : BitVec 32} (h0 : okM s m = true) (h1 : okM { s with m := (m &&& ~~~512#32) } s.m = true) (h2 : decide ({ s with m := (s.m &&& ~~~512#32) } = s) = true) (h3 : okS { s with m := (m &&& ~~~512#32) } = true) : PureOk Try.prog 4 [(V s), (U m)] (B true) :=
  pure_of_run (ds := [U s.p, U s.m, U s.h0, U s.h1, U s.h2, U s.h3, U s.h4, U s.h5, U s.h6, U s.h7, U s.h8, U s.h9, U s.h10, U s.h11, U s.h12, U s.h13, U s.h14, U s.h15, B s.b, U m, U (m &&& ~~~512#32), U (s.m &&& ~~~512#32)]) (len := 22) (n := 60) (args := [(.agg #[(leaf 0), (leaf 1), (leaf 2), (leaf 3), (leaf 4), (leaf 5), (leaf 6), (leaf 7), (leaf 8), (leaf 9), (leaf 10), (leaf 11), (leaf 12), (leaf 13), (leaf 14), (leaf 15), (leaf 16), (leaf 17), (leaf 18)]), (leaf 19)]) (v := (.bool true))
    (fs := [.call 10 [] (.bool true), .call 12 [(.agg #[(leaf 0), (leaf 1), (leaf 2), (leaf 3), (leaf 4), (leaf 5), (leaf 6), (leaf 7), (leaf 8), (leaf 9), (leaf 10), (leaf 11), (leaf 12), (leaf 13), (leaf 14), (leaf 15), (leaf 16), (leaf 17), (leaf 18)]), (leaf 19)] (.tuple #[(leaf 1), (.agg #[(leaf 0), (leaf 20), (leaf 2), (leaf 3), (leaf 4), (leaf 5), (leaf 6), (leaf 7), (leaf 8), (leaf 9), (leaf 10), (leaf 11), (leaf 12), (leaf 13), (leaf 14), (leaf 15), (leaf 16), (leaf 17), (leaf 18)]), (.int .i64 0)]), .call 12 [(.agg #[(leaf 0), (leaf 20), (leaf 2), (leaf 3), (leaf 4), (leaf 5), (leaf 6), (leaf 7), (leaf 8), (leaf 9), (leaf 10), (leaf 11), (leaf 12), (leaf 13), (leaf 14), (leaf 15), (leaf 16), (leaf 17), (leaf 18)]), (leaf 1)] (.tuple #[(leaf 20), (.agg #[(leaf 0), (leaf 21), (leaf 2), (leaf 3), (leaf 4), (leaf 5), (leaf 6), (leaf 7), (leaf 8), (leaf 9), (leaf 10), (leaf 11), (leaf 12), (leaf 13), (leaf 14), (leaf 15), (leaf 16), (leaf 17), (leaf 18)]), (.int .i64 0)]), .bin .eql 22 (leaf 1) (leaf 1) (.bool true), .bin .eql 25 (.agg #[(leaf 0), (leaf 1), (leaf 2), (leaf 3), (leaf 4), (leaf 5), (leaf 6), (leaf 7), (leaf 8), (leaf 9), (leaf 10), (leaf 11), (leaf 12), (leaf 13), (leaf 14), (leaf 15), (leaf 16), (leaf 17), (leaf 18)]) (.agg #[(leaf 0), (leaf 1), (leaf 2), (leaf 3), (leaf 4), (leaf 5), (leaf 6), (leaf 7), (leaf 8), (leaf 9), (leaf 10), (leaf 11), (leaf 12), (leaf 13), (leaf 14), (leaf 15), (leaf 16), (leaf 17), (leaf 18)]) (.bool true), .bin .andNot 22 (leaf 19) (.int .u32 512) (leaf 20), .bin .eql 22 (leaf 20) (leaf 20) (.bool true), .bin .eql 25 (.agg #[(leaf 0), (leaf 21), (leaf 2), (leaf 3), (leaf 4), (leaf 5), (leaf 6), (leaf 7), (leaf 8), (leaf 9), (leaf 10), (leaf 11), (leaf 12), (leaf 13), (leaf 14), (leaf 15), (leaf 16), (leaf 17), (leaf 18)]) (.agg #[(leaf 0), (leaf 1), (leaf 2), (leaf 3), (leaf 4), (leaf 5), (leaf 6), (leaf 7), (leaf 8), (leaf 9), (leaf 10), (leaf 11), (leaf 12), (leaf 13), (leaf 14), (leaf 15), (leaf 16), (leaf 17), (leaf 18)]) (.bool true), .call 11 [(.agg #[(leaf 0), (leaf 20), (leaf 2), (leaf 3), (leaf 4), (leaf 5), (leaf 6), (leaf 7), (leaf 8), (leaf 9), (leaf 10), (leaf 11), (leaf 12), (leaf 13), (leaf 14), (leaf 15), (leaf 16), (leaf 17), (leaf 18)])] (.int .i64 0)]) mixed rfl rfl (by kernel_rfl)
    (allHold ⟨⟨rfl, alive_ok⟩, ⟨rfl, mask_ok (s := s) (m := m) h0⟩, ⟨rfl, mask_ok (s := { s with m := (m &&& ~~~512#32) }) (m := s.m) h1⟩, hold_eql_u32 rfl rfl (beq_self_eq_true _), hold_eql_S (a := s) (b := s) rfl rfl (decide_eq_true rfl), hold_andNot_u32 rfl rfl rfl rfl, hold_eql_u32 rfl rfl (beq_self_eq_true _), hold_eql_S (a := { s with m := (s.m &&& ~~~512#32) }) (b := s) rfl rfl h2, ⟨rfl, check_ok (s := { s with m := (m &&& ~~~512#32) }) h3⟩, trivial⟩)

theorem masks_5 {s : S} {m : BitVec 32} (h0 : okM s m = false) (h1 : okS s = true) (h2 : ((m &&& ~~~65534#32) == 0#32) = false) : PureOk Try.prog 4 [(V s), (U m)] (B true) :=
  pure_of_run (ds := [U s.p, U s.m, U s.h0, U s.h1, U s.h2, U s.h3, U s.h4, U s.h5, U s.h6, U s.h7, U s.h8, U s.h9, U s.h10, U s.h11, U s.h12, U s.h13, U s.h14, U s.h15, B s.b, U m, U (m &&& ~~~65534#32)]) (len := 21) (n := 60) (args := [(.agg #[(leaf 0), (leaf 1), (leaf 2), (leaf 3), (leaf 4), (leaf 5), (leaf 6), (leaf 7), (leaf 8), (leaf 9), (leaf 10), (leaf 11), (leaf 12), (leaf 13), (leaf 14), (leaf 15), (leaf 16), (leaf 17), (leaf 18)]), (leaf 19)]) (v := (.bool true))
    (fs := [.call 10 [] (.bool true), .call 12 [(.agg #[(leaf 0), (leaf 1), (leaf 2), (leaf 3), (leaf 4), (leaf 5), (leaf 6), (leaf 7), (leaf 8), (leaf 9), (leaf 10), (leaf 11), (leaf 12), (leaf 13), (leaf 14), (leaf 15), (leaf 16), (leaf 17), (leaf 18)]), (leaf 19)] (.tuple #[(.int .u32 0), (.agg #[(leaf 0), (leaf 1), (leaf 2), (leaf 3), (leaf 4), (leaf 5), (leaf 6), (leaf 7), (leaf 8), (leaf 9), (leaf 10), (leaf 11), (leaf 12), (leaf 13), (leaf 14), (leaf 15), (leaf 16), (leaf 17), (leaf 18)]), (.int .i64 120)]), .bin .eql 25 (.agg #[(leaf 0), (leaf 1), (leaf 2), (leaf 3), (leaf 4), (leaf 5), (leaf 6), (leaf 7), (leaf 8), (leaf 9), (leaf 10), (leaf 11), (leaf 12), (leaf 13), (leaf 14), (leaf 15), (leaf 16), (leaf 17), (leaf 18)]) (.agg #[(leaf 0), (leaf 1), (leaf 2), (leaf 3), (leaf 4), (leaf 5), (leaf 6), (leaf 7), (leaf 8), (leaf 9), (leaf 10), (leaf 11), (leaf 12), (leaf 13), (leaf 14), (leaf 15), (leaf 16), (leaf 17), (leaf 18)]) (.bool true), .call 11 [(.agg #[(leaf 0), (leaf 1), (leaf 2), (leaf 3), (leaf 4), (leaf 5), (leaf 6), (leaf 7), (leaf 8), (leaf 9), (leaf 10), (leaf 11), (leaf 12), (leaf 13), (leaf 14), (leaf 15), (leaf 16), (leaf 17), (leaf 18)])] (.int .i64 0), .bin .andNot 22 (leaf 19) (.int .u32 65534) (leaf 20), .bin .neq 22 (leaf 20) (.int .u32 0) (.bool true)]) mixed rfl rfl (by kernel_rfl)
    (allHold ⟨⟨rfl, alive_ok⟩, ⟨rfl, mask_no (s := s) (m := m) h0⟩, hold_eql_S (a := s) (b := s) rfl rfl (decide_eq_true rfl), ⟨rfl, check_ok (s := s) h1⟩, hold_andNot_u32 rfl rfl rfl rfl, hold_neq_u32 rfl rfl h2, trivial⟩)

theorem masks_6 {s : S} {m : BitVec 32} (h0 : okM s m = false) (h1 : okS s = false) : PureOk Try.prog 4 [(V s), (U m)] (B true) :=
  pure_of_run (ds := [U s.p, U s.m, U s.h0, U s.h1, U s.h2, U s.h3, U s.h4, U s.h5, U s.h6, U s.h7, U s.h8, U s.h9, U s.h10, U s.h11, U s.h12, U s.h13, U s.h14, U s.h15, B s.b, U m]) (len := 20) (n := 60) (args := [(.agg #[(leaf 0), (leaf 1), (leaf 2), (leaf 3), (leaf 4), (leaf 5), (leaf 6), (leaf 7), (leaf 8), (leaf 9), (leaf 10), (leaf 11), (leaf 12), (leaf 13), (leaf 14), (leaf 15), (leaf 16), (leaf 17), (leaf 18)]), (leaf 19)]) (v := (.bool true))
    (fs := [.call 10 [] (.bool true), .call 12 [(.agg #[(leaf 0), (leaf 1), (leaf 2), (leaf 3), (leaf 4), (leaf 5), (leaf 6), (leaf 7), (leaf 8), (leaf 9), (leaf 10), (leaf 11), (leaf 12), (leaf 13), (leaf 14), (leaf 15), (leaf 16), (leaf 17), (leaf 18)]), (leaf 19)] (.tuple #[(.int .u32 0), (.agg #[(leaf 0), (leaf 1), (leaf 2), (leaf 3), (leaf 4), (leaf 5), (leaf 6), (leaf 7), (leaf 8), (leaf 9), (leaf 10), (leaf 11), (leaf 12), (leaf 13), (leaf 14), (leaf 15), (leaf 16), (leaf 17), (leaf 18)]), (.int .i64 120)]), .bin .eql 25 (.agg #[(leaf 0), (leaf 1), (leaf 2), (leaf 3), (leaf 4), (leaf 5), (leaf 6), (leaf 7), (leaf 8), (leaf 9), (leaf 10), (leaf 11), (leaf 12), (leaf 13), (leaf 14), (leaf 15), (leaf 16), (leaf 17), (leaf 18)]) (.agg #[(leaf 0), (leaf 1), (leaf 2), (leaf 3), (leaf 4), (leaf 5), (leaf 6), (leaf 7), (leaf 8), (leaf 9), (leaf 10), (leaf 11), (leaf 12), (leaf 13), (leaf 14), (leaf 15), (leaf 16), (leaf 17), (leaf 18)]) (.bool true), .call 11 [(.agg #[(leaf 0), (leaf 1), (leaf 2), (leaf 3), (leaf 4), (leaf 5), (leaf 6), (leaf 7), (leaf 8), (leaf 9), (leaf 10), (leaf 11), (leaf 12), (leaf 13), (leaf 14), (leaf 15), (leaf 16), (leaf 17), (leaf 18)])] (.int .i64 120)]) mixed rfl rfl (by kernel_rfl)
    (allHold ⟨⟨rfl, alive_ok⟩, ⟨rfl, mask_no (s := s) (m := m) h0⟩, hold_eql_S (a := s) (b := s) rfl rfl (decide_eq_true rfl), ⟨rfl, check_no (s := s) h1⟩, trivial⟩)

theorem pure (s : S) (m : BitVec 32) : PureOk Try.prog 4 [V s, U m] (.bool true) := by
  cases h : okM s m with
  | false =>
    cases a : okS s with
    | false => exact masks_6 h a
    | true =>
      have b : ((m &&& ~~~65534#32) == 0#32) = false := by
        simp only [okM, a, Bool.true_and] at h
        exact h
      exact masks_5 h a b
  | true =>
    have h' := h
    rw [okM_iff, okS_iff] at h'
    obtain ⟨⟨g1, g2, g3, g4, g5⟩, g6⟩ := h'
    have e1 : (s.m &&& ~~~512#32) = s.m := clear_same g3
    have e3 : okS { s with m := (m &&& ~~~512#32) } = true := okS_mask h
    have e4 : okM { s with m := (m &&& ~~~512#32) } s.m = true := (okM_iff _ _).2 ⟨e3, g2⟩
    have e5 : decide ({ s with m := (s.m &&& ~~~512#32) } = s) = true := by rw [e1]; simp
    exact masks_0 h e4 e5 e3

set_option maxRecDepth 100000 in
theorem lifted (os : Os) (started : os.Started) (H : Type) (enc : TypeId × Value → H) :
    ReturnsInHanded {} Try.checked os 4 .any (Rows.signalMasksSpec.pre6 enc Try.prog Try.f4 Rows.signalMasksRow.domain false) (Rows.signalMasksSpec.post enc Try.prog Try.f4 false true false false) := by
  refine returnsInHanded_of_change (C := Try.checked) own started (by kernel_rfl) Try.func4
    (ChangeSpec.witness6 (enc := enc) (C := Try.checked) false ⟨#[], #[V ⟨0, 0, 0, 0, 0, 0, 0, 0, 0, 0, 0, 0, 0, 0, 0, 0, 0, 0, false⟩, U 0], []⟩ 8 (by kernel_rfl) (by kernel_rfl) (by kernel_rfl) (by kernel_rfl)) ?_
  intro W base args ds gs before hval0 hW hcnd _
  have hW' := hW
  obtain ⟨p, q, hA0, hV, rfl, hfz, hnd⟩ := hW
  have hA : DataW.TrodAll enc Try.prog W 0 (fun _ => true) true Try.f4.params.toList args.toList ds p := hA0
  have hval := hval0
  rw [Try.params4] at hA hval
  obtain ⟨v0, v1, d0, d1, p0, p1, rfl, rfl, rfl, h0, h1⟩ := trodAll_two hA
  obtain ⟨s, rfl, rfl⟩ := sig.open_S h0
  obtain ⟨m, rfl, rfl⟩ := sig.open_u32 (hval 1 _ _ rfl rfl) h1
  obtain ⟨rfl, rfl⟩ := trodVars_none hV
  refine (sig.PureOk.calls (pure s m) W).mono fun e W' ⟨he, bel⟩ => ?_
  subst he
  exact ⟨_, rfl, _, _, _, [], _, [], hW', trodAll_mk1 (shut_bool Try.underlying4 _), by rw [Try.params4]; exact trodAll_mk2 (stays (by kernel_rfl) (of_decide_eq_true (by kernel_rfl)) h0 bel) (stays (by kernel_rfl) (of_decide_eq_true (by kernel_rfl)) h1 bel), rfl, bel.frame _, fun h => by cases h⟩

theorem over : Rows.signalMasksRow.holds Try.pinned (OpenSpec.ofChange Rows.signalMasksSpec) :=
  OpenClaim.holds_of_wide 4 Try.f4 rfl rfl rfl rfl rfl rfl rfl ⟨rfl, rfl, rfl, rfl, rfl⟩ rfl rfl rfl rfl rfl (by kernel_rfl) Try.func4 (by kernel_rfl)
    (of_decide_eq_true (by kernel_rfl)) (by unfold Func.isWrapper; first | (rw [if_pos (by decide +kernel)]; kernel_rfl) | (rw [if_neg (by decide +kernel)]; exact ⟨rfl, rfl⟩))
    (fun os started H enc _ => lifted os started H enc)

theorem proved : Rows.SignalMasksSaid := over
#print axioms proved

end Go.Proofs.Ythpncefkklojlaa.signalMasks
