/- Runs on open terms: contracts whose memory is the run's own, told by what holds of it. -/
import Derived.Test.YtjajeeoahbidlaaTH
namespace Go.Ab
noncomputable section
variable {P : Program} {E : Env}
/-- Nothing lies from a number on. -/
def Low (m : Mem) (n : Nat) : Prop := ∀ b, n ≤ b → m.get b = none
theorem Low.put {m : Mem} {n b : Nat} {o : AObj} (h : Low m n) (hb : b < n) : Low (m.put b o) n := fun c hc => by
  rw [Mem.get_put, if_neg (by omega), h c hc]
theorem Low.kill {m : Mem} {n b : Nat} (h : Low m n) : Low (m.kill b) n := fun c hc => by
  rw [Mem.get_kill]; split
  · rfl
  · exact h c hc
theorem Low.bump {m : Mem} {n k : Nat} (h : Low m n) : Low (m.bump k) n := fun c hc => by rw [Mem.get_bump, h c hc]
theorem Low.of {m : Mem} {n : Nat} (h : Fresh m) (hn : m.next ≤ n) : Low m n := fun c hc => h.none c (by omega)
theorem Fresh.of_low {m : Mem} (h0 : 64 ≤ m.next) (h : Low m m.next) : Fresh m := ⟨h0, h⟩
/-- The end of a function, as it is. -/
def RawE (m m1 : Mem) (v : Value) (R : Value → Mem → Prop) : Prop := Grow m m1 ∧ R v m1
def FinX (P : Program) (rs : List ResultVar) (m : Mem) (R : Value → Mem → Prop) (x : Exit) (t : List Value) (m1 : Mem) : Prop :=
  (x = .normal ∨ x = .ret) ∧ ∃ vs, resA P t m1 rs = some vs ∧ RawE m m1 (oneOr vs) R
section
variable {rs : List ResultVar} {m m1 : Mem} {R : Value → Mem → Prop} {t : List Value}
theorem FinX_ret : FinX P rs m R .ret t m1 = okI (resA P t m1 rs) (k := ⟨fun vs => RawE m m1 (oneOr vs) R⟩) := by
  refine propext (Iff.trans ?_ okP_iff.symm)
  exact ⟨fun h => h.2, fun h => ⟨.inr rfl, h⟩⟩
theorem FinX_normal : FinX P rs m R .normal t m1 = okI (resA P t m1 rs) (k := ⟨fun vs => RawE m m1 (oneOr vs) R⟩) := by
  refine propext (Iff.trans ?_ okP_iff.symm)
  exact ⟨fun h => h.2, fun h => ⟨.inl rfl, h⟩⟩
end
theorem Con.raw (hE : EnvOk E) {f : FuncId} {s : SFunc} {args : List Value} {m : Mem} (hf : fnOf E.P f = some s) (hl : args.length ≤ s.ntmps) (R : Value → Mem → Prop)
    (h : WXi E m.next none s.body (T s.ntmps (enumV 0 args)) m (Q := ⟨FinX E.P s.results m R⟩)) : ∃ v m', Con E.P f args m v m' ∧ R v m' := by
  obtain ⟨x, t, m1, h1, h2, vs, h3, h4, h5⟩ := WX.ok hE h
  refine ⟨oneOr vs, m1, ⟨CallOk.of_t (TCall.of_code hf h2 (TOk.pre ?_ h1) h3) h4.1, h4⟩, h5⟩
  intro ρ w ts l hR ht hrd
  refine ⟨ρ, hR, ⟨by rw [← ht.1, T_length]; simp; omega, fun i hi => ?_⟩, hrd, fun _ _ => rfl, fun b o x hb hx => ⟨b, o, x, hb, hx, rfl, rfl⟩⟩
  rw [T_length] at hi
  rw [T_get hi, lk_enumV]
  split
  · rename_i hh
    have := ht.2 i (by simp; omega)
    rw [List.getD_eq_getElem?_getD, List.getElem?_append_left (by omega), ← List.getD_eq_getElem?_getD] at this
    simpa using this
  · exact .junk
end
end Go.Ab
