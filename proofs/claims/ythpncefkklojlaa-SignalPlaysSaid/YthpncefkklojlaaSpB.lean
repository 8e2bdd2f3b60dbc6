/- Signals: signals as a list of cells; the program's functions, as contracts; the document's least functions. -/
import Derived.Test.YthpncefkklojlaaSpA
import Derived.Test.YthpncefkklojlaaTM
import Derived.Test.YthpncefkklojlaaSgG
namespace Go.Ab
open Go.Proofs Go.Proofs.Ythpncefkklojlaa.sig
noncomputable section
set_option maxHeartbeats 4000000
set_option maxRecDepth 10000
set_option linter.unusedVariables false
abbrev Um (x : BitVec 32) : Value := .int .u32 (x.toNat : Int)
abbrev okPs := Go.Proofs.Ythpncefkklojlaa.sig.okP
abbrev S := Go.Proofs.Ythpncefkklojlaa.sig.S
/-- A memory's row of cells, as a list. -/
theorem sub_all {c : Cells} {k : Nat} (h : c.n = k) : c.sub 0 k = some c.list := by
  subst h
  rw [sub_lt (by omega)]
  congr 1
  exact seg_get (Cells.list_length _) fun i hi => by rw [Nat.zero_add, list_getD c hi]
theorem list_write1 {c : Cells} {o : Nat} {x : Value} : (c.write o [x]).list = c.list.set o x := by
  apply List.ext_getElem?
  intro i
  rw [List.getElem?_set, Cells.list_get, Cells.list_get, Cells.list_length, write_n]
  by_cases hi : i < c.n
  · rw [if_pos hi, if_pos hi, get_write]
    by_cases e : o = i
    · subst e; simp [hi]
    · have : ¬ (o ≤ i ∧ i < o + 1) := by omega
      simp [this, e]
  · rw [if_neg hi, if_neg hi]
    by_cases e : o = i
    · rw [if_pos e, if_neg (by omega)]
    · rw [if_neg e]
theorem list_writeN {c : Cells} {l : List Value} (h : l.length = c.n) : (c.write 0 l).list = l := by
  apply List.ext_getElem?
  intro i
  rw [Cells.list_get, write_n]
  by_cases hi : i < c.n
  · rw [if_pos hi, get_write, if_pos ⟨by omega, by omega⟩, List.getD_eq_getElem?_getD, Nat.sub_zero, List.getElem?_eq_getElem (by omega)]
    rfl
  · rw [if_neg hi, List.getElem?_eq_none (by omega)]
def sl (s : S) : List Value := [Um s.p, Um s.m, Um s.h0, Um s.h1, Um s.h2, Um s.h3, Um s.h4, Um s.h5, Um s.h6, Um s.h7, Um s.h8, Um s.h9, Um s.h10, Um s.h11, Um s.h12, Um s.h13, Um s.h14, Um s.h15, .bool s.b]
def s0 : S := ⟨0, 0, 0, 0, 0, 0, 0, 0, 0, 0, 0, 0, 0, 0, 0, 0, 0, 0, false⟩
def SV (s : S) : Value := .agg (sl s).toArray
section
variable {s : S}
theorem SV_eq : SV s = V s := rfl
theorem sl_len : (sl s).length = 19 := by unfold sl; rfl
theorem sl_one : (sl s).all oneCell = true := by unfold sl; rfl
theorem sl_cells : (SV s).cells.toList = sl s := by unfold SV sl; rfl
theorem sl_box : boxL (SV s) = some (sl s) := by unfold SV sl; rfl
theorem sl_plain : plain (SV s) = true := by unfold SV sl; rfl
theorem sl_smp : (sl s).toArray.all smpC = true := by simp [sl, smpC]
theorem sl_p : (sl s)[0]? = some (Um s.p) := by unfold sl; rfl
theorem sl_m : (sl s)[1]? = some (Um s.m) := by unfold sl; rfl
theorem sl_b : (sl s)[18]? = some (.bool s.b) := by unfold sl; rfl
theorem sl_0 : (sl s)[2]? = some (Um s.h0) := by unfold sl; rfl
theorem sl_9 : (sl s)[11]? = some (Um s.h9) := by unfold sl; rfl
theorem sl_h {g : Int} (h : isS g = true) : (sl s)[2 + g.toNat]? = some (Um (s.get g)) := by
  rcases isS_cases h with rfl | rfl | rfl | rfl | rfl | rfl | rfl | rfl | rfl | rfl | rfl | rfl | rfl | rfl | rfl <;> rfl
theorem sl_setp {x : BitVec 32} : (sl s).set 0 (Um x) = sl { s with p := x } := by unfold sl; rfl
theorem sl_setm {x : BitVec 32} : (sl s).set 1 (Um x) = sl { s with m := x } := by unfold sl; rfl
theorem sl_setb {x : Bool} : (sl s).set 18 (.bool x) = sl { s with b := x } := by unfold sl; rfl
theorem sl_seth {g : Int} {x : BitVec 32} (h : isS g = true) : (sl s).set (2 + g.toNat) (Um x) = sl (s.set g x) := by
  rcases isS_cases h with rfl | rfl | rfl | rfl | rfl | rfl | rfl | rfl | rfl | rfl | rfl | rfl | rfl | rfl | rfl <;> rfl
theorem zero_S : zeroL EE.P 25 = some (sl s0) := by kernel_rfl
theorem agg_sl : Value.agg (sl s).toArray = SV s := by unfold SV; rfl
theorem plain_1 {e : Int} : plain (.tuple #[SV s, In e]) = true := by unfold SV sl; rfl
theorem plain_2 {x : BitVec 32} {e : Int} : plain (.tuple #[Um x, SV s, In e]) = true := by unfold SV sl; rfl
theorem plain_3 {a e : Int} : plain (.tuple #[In a, In e, SV s]) = true := by unfold SV sl; rfl
theorem plain_4 {t : S} {b : Bool} : plain (.tuple #[SV s, SV t, .bool b]) = true := by unfold SV sl; rfl
end
theorem idxG {g : Int} {b : Nat} (h : isS g = true) : idxV EE.P 23 (.pointer (some ⟨b, 2, none⟩)) (In g) = some (.pointer (some ⟨b, 2 + g.toNat, none⟩)) := by
  have : 1 ≤ g ∧ g ≤ 15 := by simpa [isS] using h
  rw [idxV_arr und_23 sz_22 (by omega) (by show g < 16; omega), Nat.mul_one]
theorem idx0 {b : Nat} : idxV EE.P 23 (.pointer (some ⟨b, 2, none⟩)) (In 0) = some (.pointer (some ⟨b, 2, none⟩)) := by
  rw [idxV_arr und_23 sz_22 (by omega) (by decide)]; rfl
theorem idx9 {b : Nat} : idxV EE.P 23 (.pointer (some ⟨b, 2, none⟩)) (In 9) = some (.pointer (some ⟨b, 11, none⟩)) := by
  rw [idxV_arr und_23 sz_22 (by omega) (by decide)]; rfl
/-- What is pure, in any memory. -/
theorem Con.pure {P : Program} {f : FuncId} {args : List Value} {v : Value} {m : Mem} (h : PureOk P f args v) (ha : ∀ a ∈ args, plain a = true) (hv : plain v = true) : Con P f args m v m := by
  refine ⟨fun ρ w args' hR hrel => ?_, Grow.rfl⟩
  have e : args'.toList = args := by
    apply List.ext_getElem?
    intro i
    by_cases hi : i < args.length
    · have h1 := hrel.2 i hi
      have hi' : i < args'.toList.length := by rw [← hrel.1]; exact hi
      rw [List.getD_eq_getElem?_getD, List.getD_eq_getElem?_getD, List.getElem?_eq_getElem hi, List.getElem?_eq_getElem hi'] at h1
      rw [List.getElem?_eq_getElem hi, List.getElem?_eq_getElem hi', plain_eq (ha _ (List.getElem_mem hi)) h1]
      rfl
    · have := hrel.1; rw [List.getElem?_eq_none (by omega), List.getElem?_eq_none (by omega)]
  have e2 : args' = args.toArray := by apply Array.toList_inj.1; simpa using e
  subst e2
  refine (h w).mono ?_
  rintro x w' ⟨rfl, hb⟩
  exact ⟨v, ρ, rfl, plain_refl _ hv, below_post hR hb, fun _ _ e => e⟩
section
variable {m : Mem} {s : S} {g : Int} {x : BitVec 32}
theorem pl1 {g : Int} : ∀ a ∈ [SV s, In g], plain a = true := fun a ha => by
  simp only [List.mem_cons, List.not_mem_nil, or_false] at ha
  rcases ha with rfl | rfl <;> rfl
theorem pl2 : ∀ a ∈ [SV s, Um x], plain a = true := fun a ha => by
  simp only [List.mem_cons, List.not_mem_nil, or_false] at ha
  rcases ha with rfl | rfl <;> rfl
theorem pl3 : ∀ a ∈ [SV s, In g, Um x], plain a = true := fun a ha => by
  simp only [List.mem_cons, List.not_mem_nil, or_false] at ha
  rcases ha with rfl | rfl | rfl <;> rfl
theorem pl0 : ∀ a ∈ [SV s], plain a = true := fun a ha => by
  simp only [List.mem_cons, List.not_mem_nil, or_false] at ha
  rcases ha with rfl; rfl
theorem checkP : Con EE.P 11 [SV s] m (In (if okS s = true then 0 else 120)) m := by
  split
  · exact Con.pure (check_ok (by assumption)) pl0 rfl
  · exact Con.pure (check_no (eq_false_of_ne_true (by assumption))) pl0 rfl
def postS (s : S) (g : Int) : S × Int := if okPs s g = true then ({ s with p := (s.p ||| (1#32 <<< (g : Int).toNat)) }, 0) else (s, 120)
theorem postP : Con EE.P 20 [SV s, In g] m (.tuple #[SV (postS s g).1, In (postS s g).2]) m := by
  unfold postS
  split
  · exact Con.pure (post_ok (by assumption)) pl1 rfl
  · exact Con.pure (post_no (eq_false_of_ne_true (by assumption))) pl1 rfl
def maskS (s : S) (x : BitVec 32) : BitVec 32 × S × Int := if okM s x = true then (s.m, { s with m := (x &&& ~~~512#32) }, 0) else (0, s, 120)
theorem maskP : Con EE.P 12 [SV s, Um x] m (.tuple #[Um (maskS s x).1, SV (maskS s x).2.1, In (maskS s x).2.2]) m := by
  unfold maskS
  split
  · exact Con.pure (mask_ok (by assumption)) pl2 rfl
  · exact Con.pure (mask_no (eq_false_of_ne_true (by assumption))) pl2 rfl
def handS (s : S) (g : Int) (x : BitVec 32) : BitVec 32 × S × Int := if okH s g = true then (s.get g, s.set g x, 0) else (0, s, 120)
theorem handP : Con EE.P 15 [SV s, In g, Um x] m (.tuple #[Um (handS s g x).1, SV (handS s g x).2.1, In (handS s g x).2.2]) m := by
  unfold handS
  split
  · exact Con.pure (handle_ok (by assumption)) pl3 rfl
  · exact Con.pure (handle_no (eq_false_of_ne_true (by assumption))) pl3 rfl
def retS (s : S) : S × Int := if okR s = true then ({ s with b := false }, 0) else (s, 120)
theorem retP : Con EE.P 16 [SV s] m (.tuple #[SV (retS s).1, In (retS s).2]) m := by
  unfold retS
  split
  · exact Con.pure (return_ok (by assumption)) pl0 rfl
  · exact Con.pure (return_no (eq_false_of_ne_true (by assumption))) pl0 rfl
theorem nextP : Con EE.P 14 [SV s] m (.tuple #[In (nx s).sig, In (nx s).wh, SV (nx s).to]) m := Con.pure next_ok pl0 rfl
theorem wakesP : Con EE.P 17 [SV s] m (.bool (wk s)) m := Con.pure (wakes_ok rfl) pl0 rfl
/-- Two signals compared. -/
theorem eqS {a b : S} {op : BinOp} {xo yo : Operand} (hop : op = .eql ∨ op = .neq) : eqA EE.P op 25 xo yo (SV a) (SV b) m = some (.bool (match op with | .eql => decide (a = b) | _ => !decide (a = b))) := by
  have h := eq_S a b (r := decide (a = b)) rfl (op := .eql) (.inl rfl)
  obtain ⟨r, h1, h2⟩ := run_equalIn_deep (P := EE.P) 9997 3 25 (by kernel_rfl) default (EE.P.types.size + 1) (EE.P.types.size + 1) (V a) (V b) (lits a) (lits b) (by kernel_rfl) (by kernel_rfl) (k25 _ a) (k25 _ b)
  have e : r = decide (a = b) := by
    rw [Bool.eq_iff_iff, h2, lits_inj, decide_eq_true_eq]
  subst e
  exact eqA_agg hop sl_plain sl_plain sl_smp sl_smp (by kernel_rfl) h1
theorem neqS {a b : S} {xo yo : Operand} : eqA EE.P .neq 25 xo yo (SV a) (SV b) m = some (.bool !decide (a = b)) := eqS (.inr rfl)
end
attribute [irreducible] sl SV
end
end Go.Ab
