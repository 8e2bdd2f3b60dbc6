/- An interpreter of our own: what it answers, the model's program answers. -/
import Derived.Test.YtijnhaadhgoloaaGreatDoorAbR
import Derived.Below
namespace Go.Ab
variable {σ : Sig}

structure Sure (σ : Sig) (E : Env) : Prop where
  eqv : ∀ v u, E.eqv v u = true → v = u
  sym : SymOk σ E
  mixed : E.P.follows .mixedOrders = true
  prim : ∀ f p args m v m', E.prim f = some p → p args m = some (v, m') → CallOk σ E.P f args m v m'
  grow : ∀ f p args m v m', E.prim f = some p → p args m = some (v, m') → Grow m m'

theorem run_ok {E : Env} (h : Sure σ E) : ∀ n, SelfOk3 σ E.P (run E n)
  | 0 => ⟨⟨⟨fun _ _ _ _ _ h => (by cases h), fun _ _ _ _ _ h => (by cases h), fun _ _ _ _ _ _ _ h => (by cases h)⟩, fun _ _ _ _ _ _ _ h => (by cases h)⟩, fun _ _ _ _ _ _ _ _ h => (by cases h)⟩
  | n + 1 => by
    have ih := run_ok h n
    have hd : DregOk σ E (run E n) := dreg_ok h.sym ih.toSelfOk (run_grow h.grow n) h.eqv h.mixed
    have hc : ∀ rd c t m x t' m', run E (n + 1) (.code rd c t) m = some (.exit x t', m') → CodeOk2 σ E.P rd c t m x t' m' := fun rd c t m x t' m' hr => code_ok rfl h.sym ih hd hr
    exact ⟨⟨⟨fun f args m v m' hr => call_ok rfl ih.toSelfOk h.prim hr, fun l args m v m' hr => round_ok ih.toSelfOk hr, fun rd c t m x t' m' hr => (hc rd c t m x t' m' hr).one⟩, hc⟩, fun rd b r t m x t' m' hr => again_ok ih hr⟩

/-- No block of the abstract memory may be written. -/
def Sealed (m : Mem) : Prop := ∀ b o, m.get b = some o → wr o = false

theorem call_sound {E : Env} (h : Sure σ E) {n : Nat} {f : FuncId} {args : List Value} {m m' : Mem} {v : Value} (hr : run E n (.call f args) m = some (.val v, m')) {ρ : Rho} {w : World} {args' : Array Value} (hR : Rel σ ρ m w) (ha : LRel σ ρ args args'.toList) :
    Calls E.P f args' w fun e w' => ∃ v' ρ', e = .returned v' ∧ VRel σ ρ' v v' ∧ Post σ ρ m w ρ' m' w' :=
  callsIn_wide.1 (((run_ok h n).call f args m v m' hr ρ w args' hR ha).mono fun _ _ ⟨v', ρ', h1, h2, h3, _⟩ => ⟨v', ρ', h1, h2, h3⟩)

theorem Post.below {ρ ρ' : Rho} {m m' : Mem} {w w' : World} (h : Post σ ρ m w ρ' m' w') (hs : Sealed m) : RowKit.Below w.heap.size w w' :=
  ⟨h.os, h.tape, h.output, h.size, fun k hk => h.frame k hk fun b o x hb hw _ => by rw [hs b o hb] at hw; cases hw⟩

/-- No symbolic values. -/
def Sig.none : Sig := { S := fun _ _ => False, data := fun _ _ h => h.elim }

/-! ### the empty memory -/
def m0 : Mem := ⟨64, .leaf⟩
def ρ0 : Rho := fun b => if b < 64 then some (b, 0, 0) else none
theorem m0_get (b : Nat) : m0.get b = none := rfl
theorem m0_rel (w : World) : Rel σ ρ0 m0 w := by
  refine ⟨fun b hb => ?_, fun g hg => by simp [ρ0, hg], fun b o x hb => (by rw [m0_get] at hb; cases hb), fun b1 b2 o1 o2 x1 x2 _ hb => (by rw [m0_get] at hb; cases hb), fun b _ => rfl⟩
  have : ¬ b < 64 := by simp [m0] at hb; omega
  simp [ρ0, this]
theorem m0_sealed : Sealed m0 := fun b o hb => by rw [m0_get] at hb; cases hb

/-! ### equality of values, computed -/
def vEqN : Nat → Value → Value → Bool
  | _, .bool a, .bool b => a == b
  | _, .int k a, .int l b => k == l && a == b
  | _, .string a, .string b => a == b
  | _, .float k a, .float l b => k == l && a == b
  | _, .complex k a b, .complex l c d => k == l && a == c && b == d
  | _, .nilIface, .nilIface | _, .nilFunc, .nilFunc | _, .map none, .map none | _, .pointer none, .pointer none => true
  | _, .pointer (some ⟨a, o, none⟩), .pointer (some ⟨b, p, none⟩) => a == b && o == p
  | _, .map (some a), .map (some b) => a == b
  | _, .slice none n c, .slice none k d => n == k && c == d
  | _, .slice (some ⟨a, o, none⟩) n c, .slice (some ⟨b, p, none⟩) k d => a == b && o == p && n == k && c == d
  | n + 1, .iface s a, .iface t b => s == t && vEqN n a b
  | n + 1, .agg a, .agg b => a.size == b.size && (List.range a.size).all fun i => vEqN n (a.getD i undef) (b.getD i undef)
  | n + 1, .tuple a, .tuple b => a.size == b.size && (List.range a.size).all fun i => vEqN n (a.getD i undef) (b.getD i undef)
  | _, _, _ => false

theorem arr_ext {a b : Array Value} (h1 : a.size = b.size) (h2 : ∀ i, i < a.size → a.getD i undef = b.getD i undef) : a = b := by
  apply Array.ext h1
  intro i hi hj
  have := h2 i hi
  rwa [Array.getD_eq_getD_getElem?, Array.getD_eq_getD_getElem?, Array.getElem?_eq_getElem hi, Array.getElem?_eq_getElem hj] at this

theorem vEqN_eq : ∀ (n : Nat) (a b : Value), vEqN n a b = true → a = b := by
  intro n
  induction n with
  | zero =>
    intro a b h
    unfold vEqN at h
    split at h <;> first
      | rfl
      | (simp at h; done)
      | (simp only [beq_iff_eq, Bool.and_eq_true] at h; simp [h]; done)
      | (rw [ba_eq h]; done)
      | (rename_i hn _ _; omega)
      | skip
    all_goals first
      | (obtain ⟨rfl, rfl⟩ := (by simpa using h); rfl)
      | (obtain ⟨⟨⟨rfl, rfl⟩, rfl⟩, rfl⟩ := (by simpa using h); rfl)
  | succ n ih =>
    intro a b h
    unfold vEqN at h
    split at h <;> first
      | rfl
      | (simp at h; done)
      | (simp only [beq_iff_eq, Bool.and_eq_true] at h; simp [h]; done)
      | (rw [ba_eq h]; done)
      | skip
    all_goals first
      | (rename_i hn; cases hn
         simp only [Bool.and_eq_true, beq_iff_eq] at h
         rw [h.1, ih _ _ h.2])
      | (rename_i hn; cases hn
         simp only [Bool.and_eq_true, beq_iff_eq, List.all_eq_true, List.mem_range] at h
         congr 1
         exact arr_ext h.1 fun i hi => ih _ _ (h.2 i hi))
def vEq (a b : Value) : Bool := vEqN 8 a b
theorem vEq_eq {a b : Value} (h : vEq a b = true) : a = b := vEqN_eq 8 a b h

/-- The interpreter at a program, nothing shown by hand. -/
def env (P : Program) : Env := { P := P, eqv := vEq, prim := fun _ => none }
theorem env_sure {P : Program} (h : P.follows .mixedOrders = true) : Sure σ (env P) :=
  ⟨fun _ _ => vEq_eq, fun _ _ _ h => (by cases h), h, fun _ _ _ _ _ _ h => (by cases h), fun _ _ _ _ _ _ h => (by cases h)⟩

end Go.Ab
