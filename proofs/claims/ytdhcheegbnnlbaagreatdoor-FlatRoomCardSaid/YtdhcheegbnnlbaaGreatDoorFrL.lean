/- FlatRoom: called with any boot and operations, the law returns true, and its arguments read as before, wherever the listed tables hold what the program's text lays (tied by the given tie). -/
import Derived.Test.YtdhcheegbnnlbaaGreatDoorR19
import Derived.Test.YtdhcheegbnnlbaaGreatDoorFrM
import Derived.Test.YtdhcheegbnnlbaaGreatDoorFrN
import Derived.Test.YtdhcheegbnnlbaaGreatDoorTie
import Derived.Lay
import Derived.Stop.Joined
import Derived.MakeChecks
namespace Go.Proofs.YtdhcheegbnnlbaaGreatDoor.flatRoom
open Go.ChangeShapes Go.WideShapes Go.ChangeAt Go.RowKit Go.Ab
set_option linter.unusedVariables false

theorem zAB {σ : Sig} {ρ : Rho} {a : Addr} {n C : Nat} {v : Value} (h : zaq σ ρ (.slice (some a) n C) v) : n ≤ C := by cases h <;> first | exact Nat.le_refl _ | assumption

theorem own : ownKnob Tryz.prog.godebug = none := by kernel_rfl
abbrev zjl : List (String × DataW Unit) := [("math/bits.deBruijn32tab", Rows.laid_math_bits_deBruijn32tab), ("math/bits.deBruijn64tab", Rows.laid_math_bits_deBruijn64tab), ("internal/strconv.uint64pow10", Rows.laid_internal_strconv_uint64pow10), ("unicode/utf8.acceptRanges", Rows.laid_unicode_utf8_acceptRanges), ("carryall/call.kinds", Rows.laid_carryall_call_kinds), ("carryall/call.codes", Rows.laid_carryall_call_codes), ("carryall/isa.forms", Rows.laid_carryall_isa_forms), ("unicode/utf8.first", Rows.laid_unicode_utf8_first)]
noncomputable def zcM : List (Nat × List Value) := (zgh Tryz.prog zjl).getD []
theorem zzg : zgh Tryz.prog zjl = some zcM := by
  have h : (zgh Tryz.prog zjl).isSome = true := by kernel_rfl
  unfold zcM;cases e : zgh Tryz.prog zjl with
  | none => rw [e] at h; cases h
  | some t => rfl
theorem zr3 : zl0 (zDy (env Tryz.prog) 3000 (.call 13 []) (zc1 zcM)) = true := by kernel_rfl
theorem zx5 : Tb (zc1 zcM) := ⟨by kernel_rfl, by kernel_rfl, by kernel_rfl⟩
theorem zz7 {W : World} (h : laidMetH Tryz.prog zjl W) : ∀ q ∈ zcM, q.1 < 64 ∧ q.2 ≠ [] ∧ q.2.all plain = true ∧ ∀ (i : Nat) v, q.2[i]? = some v → W.cell? ⟨q.1, i, none⟩ = some v := by rw [MakeChecks.laidMetH_plain _ _ _ (by kernel_rfl)] at h;obtain ⟨ps, hl, _⟩ := h;exact zkQ zzg hl
theorem zpx {W : World} (h : ∀ q ∈ zcM, q.1 < 64 ∧ q.2 ≠ [] ∧ q.2.all plain = true ∧ ∀ (i : Nat) v, q.2[i]? = some v → W.cell? ⟨q.1, i, none⟩ = some v) : zad (zc1 zcM) :=
  ⟨Nat.le_refl _, fun b hb => (zii (σ := Sig.none) h).fresh b hb⟩
theorem zt6 {m M : Mem} (hq : ∀ q ∈ zcM, q.1 < 64 ∧ q.2.all plain = true) (hm : zad (zc1 zcM)) (h1 : Nx (zc1 zcM) m) (h2 : Nx m M) : ∃ u M', Con EE.P 13 [] M u M' ∧ u = .bool true ∧ Nx M M' := by obtain ⟨m1, hr⟩ := zmB zr3;have hc : zc5 Sig.none Tryz.prog 13 [] (zc1 zcM) (.bool true) m1 := (zvJ (ztF (by kernel_rfl)) 3000).call 13 [] _ _ _ hr;exact ⟨_, M, ztu hc hq (fun y o hy => (h1.trans h2).keep hm hy), rfl, Nx.refl h2.fresh⟩

set_option maxRecDepth 100000 in
theorem lifted (os : Os) (started : os.Started) (H : Type) (enc : TypeId × Value → H) :
    ReturnsInHanded {} Tryz.checked os 5 .any (fun w args => (Rows.flatRoomSpec.pre enc Tryz.prog Tryz.f5 [] false w args ∧ laidMetH Tryz.prog zjl w) ∧ sizedMet enc Tryz.prog Tryz.f5 (OpenSpec.ofChange Rows.flatRoomSpec) false w args)
      (Rows.flatRoomSpec.post enc Tryz.prog Tryz.f5 false true false false) := by
  refine returnsInHanded_of_change_and (C := Tryz.checked) (X := fun w _ => laidMetH Tryz.prog zjl w) (fun _ _ _ hh h => h.of_heap hh) own started (by kernel_rfl) Tryz.func5
    (ChangeSpec.witness_shaped (enc := enc) (C := Tryz.checked) (os := os) (X := fun w _ => laidMetH Tryz.prog zjl w) false (World.laidAll Tryz.prog os zjl) #[.agg #[In 0, In 0, In 0, In 0, .slice none 0 0], .slice none 0 0] 8 (World.laidAll_os _ _ _)
      (World.shaped_of_ZipB (by kernel_rfl) (by kernel_rfl)) (by kernel_rfl) (by kernel_rfl) (by kernel_rfl)
      (by rw [MakeChecks.laidMetH_plain _ _ _ (by kernel_rfl)]; exact laidMet_laidAll _ (by kernel_rfl) (by kernel_rfl))) ?_
  intro W base args ds gs before hval0 hW _ _ hL _;have hW' := hW;obtain ⟨p, q, hA0, hV, rfl, hfz, hnd⟩ := hW;have hA : DataW.TrodAll enc Tryz.prog W 0 (fun _ => true) true Tryz.f5.params.toList args.toList ds p := hA0;have hval := hval0;rw [Tryz.params5] at hA hval;obtain ⟨v0, v1, d0, d1, p0, p1, rfl, rfl, rfl, h0, h1⟩ := trodAll_two hA;obtain ⟨rfl, rfl⟩ := trodVars_none hV;have hq := zz7 hL;have hq' : ∀ q ∈ zcM, q.1 < 64 ∧ q.2.all plain = true := fun q h => ⟨(hq q h).1, (hq q h).2.2.1⟩;have hf := zpx hq;obtain ⟨m1, ρ1, b, pv, r1, s1, e1, n1, l1, hp⟩ := zqb (zii hq) (zcS zcM) hf (hval 0 _ _ rfl rfl) h0;obtain ⟨m2, ρ2, w, l, r2, s2, e2, n2, l2, ho⟩ := zqu r1 s1 n1.fresh (hval 1 _ _ rfl rfl) h1;have n12 := n1.trans n2;have hcap : ∀ a n C, w = .slice (some a) n C → n ≤ C := fun a n C e => by subst e;exact zAB l2
  obtain ⟨m', hc⟩ := zvn n2.fresh (zx5.nx hf n12) (fun M h => zt6 hq' hf n12 h) (hp.nx n1.fresh n2) ho hcap;refine (callsIn_wide.1 (hc.calls s2 r2 (zat.cons (l1.mono e2) (zat.cons l2 (zat.nil _))))).mono fun e W' ⟨he, bel⟩ => ?_;subst he;exact ⟨_, rfl, _, _, _, [], _, [], hW', trodAll_mk1 (shut_bool Tryz.underlying4 _), by rw [Tryz.params5]; exact trodAll_mk2 (zqx (by kernel_rfl) (of_decide_eq_true (by kernel_rfl)) h0 bel) (zqx (by kernel_rfl) (of_decide_eq_true (by kernel_rfl)) h1 bel), rfl, bel.frame _, fun h => by cases h⟩

theorem zGy : Rows.FlatRoomSaid :=
  OpenClaim.holds_of_wide 5 Tryz.f5 rfl rfl rfl rfl rfl rfl rfl ⟨rfl, rfl, rfl, rfl, rfl⟩ rfl rfl rfl rfl rfl (by kernel_rfl) Tryz.func5 facts
    (of_decide_eq_true (by kernel_rfl)) (by unfold Func.isWrapper; first | (rw [if_pos (by decide +kernel)]; kernel_rfl) | (rw [if_neg (by decide +kernel)]; exact ⟨rfl, rfl⟩))
    (fun os started H enc _ => lifted os started H enc)

theorem proved : Rows.FlatRoomCardSaid :=
  Claim7.holds_tied_plain_at .later [] [.data, .data, .data, .data, .data, .data, .data, .pinned] true (true, "321ea0ce4ca1a5c6cafea5bfa1eadde91b1bb77fb37b64511a8547b287473786") false
    zGy (fun _ h => by cases h) g1 (fun _ h => by cases h) flatRoom_row_tie rfl ⟨rfl, rfl⟩ g2 rfl
    (fun f fn hf hfn => by
      obtain rfl : f = 5 := Option.some.inj (g3.symm.trans hf) |>.symm;obtain rfl : fn = Tryz.f5 := (Option.some.inj (Tryz.func5.symm.trans hfn)).symm;exact ⟨g4, fun j t ht => by
        rw [Tryz.params5] at ht;have hm : t ∈ [24, 25] := by simpa using Array.mem_of_getElem? ht
        exact (show Tryz.prog.wantsStandIn t = false by simpa using List.all_eq_true.1 g6 t hm)⟩)
    g5
#print axioms proved
end Go.Proofs.YtdhcheegbnnlbaaGreatDoor.flatRoom
