/- FlatRefuses: called with any boot, operations and pid, the law returns true, and its arguments read as before, wherever the listed tables hold what the program's text lays (tied by the given tie). -/
import Derived.Test.YtdhcheegbnnlbaaGreatDoorA21
import Derived.Test.YtdhcheegbnnlbaaGreatDoorFnP
import Derived.Test.YtdhcheegbnnlbaaGreatDoorFnQ
import Derived.Test.YtdhcheegbnnlbaaGreatDoorTie
import Derived.Lay
import Derived.Stop.Joined
import Derived.MakeChecks
namespace Go.Proofs.YtdhcheegbnnlbaaGreatDoor.flatRefuses
open Go.ChangeShapes Go.WideShapes Go.ChangeAt Go.RowKit Go.Ab
set_option linter.unusedVariables false

theorem own : ownKnob Tryz.prog.godebug = none := by kernel_rfl
abbrev laid1 : List (String × DataW Unit) := [("math/bits.deBruijn32tab", Rows.laid_math_bits_deBruijn32tab), ("math/bits.deBruijn64tab", Rows.laid_math_bits_deBruijn64tab), ("internal/strconv.uint64pow10", Rows.laid_internal_strconv_uint64pow10), ("unicode/utf8.acceptRanges", Rows.laid_unicode_utf8_acceptRanges), ("carryall/call.kinds", Rows.laid_carryall_call_kinds), ("carryall/call.codes", Rows.laid_carryall_call_codes), ("carryall/isa.forms", Rows.laid_carryall_isa_forms), ("unicode/utf8.first", Rows.laid_unicode_utf8_first)]
noncomputable def tabs : List (Nat × List Value) := (tabsOf Tryz.prog laid1).getD []
theorem tabs_eq : tabsOf Tryz.prog laid1 = some tabs := by
  have h : (tabsOf Tryz.prog laid1).isSome = true := by kernel_rfl
  unfold tabs
  cases e : tabsOf Tryz.prog laid1 with
  | none => rw [e] at h; cases h
  | some t => rfl
theorem alive_run : isTrueF (runF (env Tryz.prog) 3000 (.call 13 []) (tabMem tabs)) = true := by kernel_rfl
theorem tabs_tb : Tb (tabMem tabs) := ⟨by kernel_rfl, by kernel_rfl, by kernel_rfl⟩
theorem of_laid {W : World} (h : laidMetH Tryz.prog laid1 W) : ∀ q ∈ tabs, q.1 < 64 ∧ q.2 ≠ [] ∧ q.2.all plain = true ∧ ∀ (i : Nat) v, q.2[i]? = some v → W.cell? ⟨q.1, i, none⟩ = some v := by
  rw [MakeChecks.laidMetH_plain _ _ _ (by kernel_rfl)] at h
  obtain ⟨ps, hl, _⟩ := h
  exact tabs_laid tabs_eq hl
theorem tabs_fresh {W : World} (h : ∀ q ∈ tabs, q.1 < 64 ∧ q.2 ≠ [] ∧ q.2.all plain = true ∧ ∀ (i : Nat) v, q.2[i]? = some v → W.cell? ⟨q.1, i, none⟩ = some v) : Fresh (tabMem tabs) :=
  ⟨Nat.le_refl _, fun b hb => (tabMem_rel (σ := Sig.none) h).fresh b hb⟩
theorem alive_ok {m M : Mem} (hq : ∀ q ∈ tabs, q.1 < 64 ∧ q.2.all plain = true) (hm : Fresh (tabMem tabs)) (h1 : Nx (tabMem tabs) m) (h2 : Nx m M) : ∃ u M', Con EE.P 13 [] M u M' ∧ u = .bool true ∧ Nx M M' := by
  obtain ⟨m1, hr⟩ := isTrueF_run alive_run
  have hc : CallOk Sig.none Tryz.prog 13 [] (tabMem tabs) (.bool true) m1 := (run_ok (env_sure (by kernel_rfl)) 3000).call 13 [] _ _ _ hr
  exact ⟨_, M, con_drop hc hq (fun y o hy => (h1.trans h2).keep hm hy), rfl, Nx.refl h2.fresh⟩

set_option maxRecDepth 100000 in
theorem lifted (os : Os) (started : os.Started) (H : Type) (enc : TypeId × Value → H) :
    ReturnsInHanded {} Tryz.checked os 6 .any (fun w args => (Rows.flatRefusesSpec.pre enc Tryz.prog Tryz.f6 [] false w args ∧ laidMetH Tryz.prog laid1 w) ∧ sizedMet enc Tryz.prog Tryz.f6 (OpenSpec.ofChange Rows.flatRefusesSpec) false w args)
      (Rows.flatRefusesSpec.post enc Tryz.prog Tryz.f6 false true false false) := by
  refine returnsInHanded_of_change_and (C := Tryz.checked) (X := fun w _ => laidMetH Tryz.prog laid1 w) (fun _ _ _ hh h => h.of_heap hh) own started (by kernel_rfl) Tryz.func6
    (ChangeSpec.witness_shaped (enc := enc) (C := Tryz.checked) (os := os) (X := fun w _ => laidMetH Tryz.prog laid1 w) false (World.laidAll Tryz.prog os laid1) #[.agg #[In 0, In 0, In 0, In 0, .slice none 0 0], .slice none 0 0, In 0] 8 (World.laidAll_os _ _ _)
      (World.shaped_of_ZipB (by kernel_rfl) (by kernel_rfl)) (by kernel_rfl) (by kernel_rfl) (by kernel_rfl)
      (by rw [MakeChecks.laidMetH_plain _ _ _ (by kernel_rfl)]; exact laidMet_laidAll _ (by kernel_rfl) (by kernel_rfl))) ?_
  intro W base args ds gs before hval0 hW _ _ hL _
  have hW' := hW
  obtain ⟨p, q, hA0, hV, rfl, hfz, hnd⟩ := hW
  have hA : DataW.TrodAll enc Tryz.prog W 0 (fun _ => true) true Tryz.f6.params.toList args.toList ds p := hA0
  have hval := hval0
  rw [Tryz.params6] at hA hval
  obtain ⟨v0, v1, v2, d0, d1, d2, p0, p1, p2, rfl, rfl, rfl, h0, h1, h2⟩ := trodAll_three hA
  obtain ⟨rfl, rfl⟩ := trodVars_none hV
  have hq := of_laid hL
  have hq' : ∀ q ∈ tabs, q.1 < 64 ∧ q.2.all plain = true := fun q h => ⟨(hq q h).1, (hq q h).2.2.1⟩
  have hf := tabs_fresh hq
  obtain ⟨m1, ρ1, b, pv, r1, s1, e1, n1, l1, hp⟩ := open_boot (tabMem_rel hq) (tabMem_sealed tabs) hf (hval 0 _ _ rfl rfl) h0
  obtain ⟨m2, ρ2, w, l, r2, s2, e2, n2, l2, ho⟩ := open_opsR r1 s1 n1.fresh (hval 1 _ _ rfl rfl) h1
  obtain ⟨pid, rfl⟩ := open_int (hval 2 _ _ rfl rfl)
  have n12 := n1.trans n2
  obtain ⟨m', hc⟩ := refuses_ok n2.fresh (tabs_tb.nx hf n12) (fun M h => alive_ok hq' hf n12 h) (hp.nx n1.fresh n2) ho (pid := pid)
  refine (callsIn_wide.1 (hc.calls s2 r2 (LRel.cons (l1.mono e2) (LRel.cons l2 (LRel.cons (.int _ _) (LRel.nil _)))))).mono fun e W' ⟨he, bel⟩ => ?_
  subst he
  exact ⟨_, rfl, _, _, _, [], _, [], hW', trodAll_mk1 (shut_bool Tryz.underlying4 _), by rw [Tryz.params6]; exact trodAll_mk3 (stays_p (by kernel_rfl) (of_decide_eq_true (by kernel_rfl)) h0 bel) (stays_p (by kernel_rfl) (of_decide_eq_true (by kernel_rfl)) h1 bel) (stays_p (by kernel_rfl) (of_decide_eq_true (by kernel_rfl)) h2 bel), rfl, bel.frame _, fun h => by cases h⟩

theorem holds : Rows.FlatRefusesSaid :=
  OpenClaim.holds_of_wide 6 Tryz.f6 rfl rfl rfl rfl rfl rfl rfl ⟨rfl, rfl, rfl, rfl, rfl⟩ rfl rfl rfl rfl rfl (by kernel_rfl) Tryz.func6 facts
    (of_decide_eq_true (by kernel_rfl)) (by unfold Func.isWrapper; first | (rw [if_pos (by decide +kernel)]; kernel_rfl) | (rw [if_neg (by decide +kernel)]; exact ⟨rfl, rfl⟩))
    (fun os started H enc _ => lifted os started H enc)

theorem proved : Rows.FlatRefusesCardSaid :=
  Claim7.holds_tied_plain_at .later [] [.data, .data, .data, .data, .data, .data, .data, .pinned] true (true, "321ea0ce4ca1a5c6cafea5bfa1eadde91b1bb77fb37b64511a8547b287473786") false
    holds (fun _ h => by cases h) g1 (fun _ h => by cases h) flatRefuses_row_tie rfl ⟨rfl, rfl⟩ g2 rfl
    (fun f fn hf hfn => by
      obtain rfl : f = 6 := Option.some.inj (g3.symm.trans hf) |>.symm
      obtain rfl : fn = Tryz.f6 := (Option.some.inj (Tryz.func6.symm.trans hfn)).symm
      exact ⟨g4, fun j t ht => by
        rw [Tryz.params6] at ht
        have hm : t ∈ [24, 25, 3] := by simpa using Array.mem_of_getElem? ht
        exact (show Tryz.prog.wantsStandIn t = false by simpa using List.all_eq_true.1 g6 t hm)⟩)
    g5
#print axioms proved
end Go.Proofs.YtdhcheegbnnlbaaGreatDoor.flatRefuses
