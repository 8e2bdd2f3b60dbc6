/- FlatRoom: closed facts of the row, one by one. -/
import Derived.Test.YtdhcheegbnnlbaaGreatDoorRows
import Derived.JoinedOf
import Derived.KernelRfl
namespace Go.Proofs.YtdhcheegbnnlbaaGreatDoor.flatRoom
set_option linter.unusedVariables false
noncomputable abbrev c : OpenClaim := Rows.flatRoomRow
noncomputable abbrev s : ChangeSpec := Rows.flatRoomSpec
noncomputable abbrev P : Program := Tryz.prog
noncomputable abbrev fn : Func := Tryz.f5
theorem k0 : (c.wf (OpenSpec.ofChange s)) = true := by kernel_rfl
theorem k1 : (laidOutB P) = true := by kernel_rfl
theorem k2 : (mapsRowed P) = true := by kernel_rfl
theorem k3 : (fn.params.all (P.readableRec ·)) = true := by kernel_rfl
theorem k4 : (namedTie P c.named s.vars) = true := by kernel_rfl
theorem k5 : ((c.stops == [])) = true := by kernel_rfl
theorem k6 : ((P.stops == [])) = true := by kernel_rfl
theorem k7 : ((c.knobs == [])) = true := by kernel_rfl
theorem k8 : ((P.stopKnobs == [])) = true := by kernel_rfl
theorem k9 : ((c.inPlace == P.inPlace 5)) = true := by kernel_rfl
theorem k10 : ((c.unfollowed == P.unfollowed 5)) = true := by kernel_rfl
theorem k11 : ((c.recurses == P.recurses 5)) = true := by kernel_rfl
theorem k12 : ((c.named == P.varsNamed 5)) = true := by kernel_rfl
theorem k13 : ((c.maps == (fn.params.toList ++ s.plain.varTypes P).any (P.mapsRec ·))) = true := by kernel_rfl
theorem k14 : ((c.ifaces == (fn.params.toList ++ s.plain.varTypes P).any (P.ifacesRec ·))) = true := by kernel_rfl
theorem k15 : ((c.mapsOut == P.mapsAmong fn.resultTypes.toList)) = true := by kernel_rfl
theorem k16 : ((c.loops == (fn.params.toList ++ s.plain.varTypes P).any (P.loopsFrom ·))) = true := by kernel_rfl
theorem k17 : ((c.wideKeys == (fn.params.toList ++ s.plain.varTypes P ++ fn.resultTypes.toList).any (P.wideKeysFrom ·))) = true := by kernel_rfl
theorem k18 : (s.vars.all (P.varReadable ·)) = true := by kernel_rfl
theorem k19 : (fn.resultTypes.all (fun t => P.readableRec t && decide (t < P.types.size))) = true := by kernel_rfl
theorem k20 : ((c.ifacesOut == fn.resultTypes.toList.any (P.ifacesRec ·))) = true := by kernel_rfl
theorem k21 : ((c.loopsOut == fn.resultTypes.toList.any (P.loopsFrom ·))) = true := by kernel_rfl
theorem k22 : ((c.plainKeys == P.plainKeys)) = true := by kernel_rfl
theorem k23 : (c.shortTexts.isNone) = true := by kernel_rfl
theorem k24 : (P.stopsHeard) = true := by kernel_rfl
theorem k25 : (P.mayEnter) = true := by kernel_rfl
theorem k26 : ((c.lifted == P.liftsFinal)) = true := by kernel_rfl
theorem k27 : ((P.make == some c.make)) = true := by kernel_rfl
theorem k29 : ((c.pinned == c.pinnedBy)) = true := by kernel_rfl
theorem k30 : ((c.veiled == (fn.params.toList ++ s.plain.varTypes P ++ fn.resultTypes.toList).any (P.veiledRec ·))) = true := by kernel_rfl
theorem k31 : (c.veiledFits P fn.params.toList (fn.params.toList ++ s.plain.varTypes P ++ fn.resultTypes.toList)) = true := by kernel_rfl
theorem and2 {a b : Bool} (h : a = true) (k : b = true) : (a && b) = true := by rw [h, k]; rfl
theorem facts : joinedFacts P 5 fn s c = true := by
  unfold joinedFacts;refine (and2 (and2 (and2 (and2 (and2 (and2 (and2 (and2 (and2 (and2 (and2 (and2 (and2 (and2 (and2 (and2 (and2 (and2 (and2 (and2 (and2 (and2 (and2 (and2 (and2 (and2 (and2 (and2 (and2 (and2 (and2 k0 k1) k2) k3) k4) k5) k6) k7) k8) k9) k10) k11) k12) k13) k14) k15) k16) k17) k18) k19) k20) k21) k22) k23) k24) k25) k26) k27) ?_) k29) k30) k31)
  kernel_rfl
end Go.Proofs.YtdhcheegbnnlbaaGreatDoor.flatRoom

