/- Files: what the laws' calls come to, by number. -/
import Derived.Test.YthidhnbniklhmaaFiL
namespace Go.Ab
open Go.Proofs
noncomputable section
set_option maxHeartbeats 1000000
theorem WXi.gen {E : Env} {n0 : Nat} {rd : Option Nat} {c : SCode} {t : List Value} {m0 : Mem} {Q : QI} (F : Mem → Prop) (h0 : F m0) (h : ∀ m, F m → WXi E n0 rd c t m (Q := Q)) : WXi E n0 rd c t m0 (Q := Q) := h m0 h0
theorem eq4 {xo yo : Operand} {p q : Bool} {m : Mem} : eqA EE.P .eql 4 xo yo (.bool p) (.bool q) m = some (.bool (p == q)) := by
  cases p <;> cases q <;> kernel_rfl
theorem neq4 {xo yo : Operand} {p q : Bool} {m : Mem} : eqA EE.P .neq 4 xo yo (.bool p) (.bool q) m = some (.bool (!(p == q))) := by
  cases p <;> cases q <;> kernel_rfl
theorem ofn {n b : Nat} (h : b < 256) : IntKind.i64.wrap (b : Int) = (b : Int) := wrap_i64 (by omega) (by omega)
theorem tmodn {b n : Nat} : ((b : Int)).tmod (n : Int) = ((b % n : Nat) : Int) := by
  rw [Int.tmod_eq_emod_of_nonneg (by omega)]; rfl
def gP (s : FS) (k : Nat) : Int := if s.r k = 0 then 0 else s.p k
def gW (s : FS) (k : Nat) : Bool := if s.r k = 0 then false else s.w k
section
variable {m : Mem} {b sz : Nat} {s : FS} {k : Nat}
theorem isO_k (hk : k < 64) : isO s (k : Int) ↔ s.r k ≠ 0 := by
  unfold isO
  exact ⟨fun h => h.2.2, fun h => ⟨by omega, by omega, h⟩⟩
theorem get_k (hb : FAt m b sz s) (hk : k < 64) : Con EE.P 13 [PT b, In k] m (.tuple [.agg [In (gP s k), .bool (gW s k)].toArray, .bool (!decide (s.r k = 0))].toArray) m := by
  unfold gP gW
  by_cases h : s.r k = 0
  · rw [if_pos h, if_pos h, decide_eq_true h]
    exact get_not hb fun e => (isO_k hk).1 e h
  · rw [if_neg h, if_neg h, decide_eq_false h]
    exact get_open hb ((isO_k hk).2 h)
theorem get_r {p : Int} {w o : Bool} (hb : FAt m b sz s) (hk : k < 64) (hp : gP s k = p) (hw : gW s k = w) (ho : (!decide (s.r k = 0)) = o) : Con EE.P 13 [PT b, In k] m (.tuple [.agg [In p, .bool w].toArray, .bool o].toArray) m := by
  subst hp hw ho
  exact get_k hb hk
theorem gP_t (h : s.r k ≠ 0) : gP s k = s.p k := if_neg h
theorem gW_t (h : s.r k ≠ 0) : gW s k = s.w k := if_neg h
theorem gP_f (h : s.r k = 0) : gP s k = 0 := if_pos h
theorem gW_f (h : s.r k = 0) : gW s k = false := if_pos h
theorem refs_k (hb : FAt m b sz s) (hk : k < 64) : Con EE.P 14 [PT b, In k] m (In (s.r k)) m := by
  by_cases h : s.r k = 0
  · rw [h]; exact refs_not hb fun e => (isO_k hk).1 e h
  · exact refs_open hb ((isO_k hk).2 h)
/-- One number's count turns to r. -/
structure Turn (s s' : FS) (k : Nat) (r : Int) : Prop where
  at_ : s'.r k = r
  x : r ≠ 0 → s'.p k = s.p k ∧ s'.w k = s.w k
  other : ∀ i, i ≠ k → s'.r i = s.r i ∧ s'.p i = s.p i ∧ s'.w i = s.w i
theorem turn_setR {r : Int} : Turn s (s.setR k r) k r := ⟨by simp [FS.setR], fun _ => ⟨rfl, rfl⟩, fun i hi => by simp [FS.setR, hi]⟩
theorem turn_clear : Turn s (s.set k 0 false 0) k 0 := ⟨by simp [FS.set], fun h => absurd rfl h, fun i hi => by simp [FS.set, hi]⟩
theorem share_k (hk : k < 64) (h0 : 0 < s.r k) (h1 : s.r k < 4294967296) : ∃ s', Turn s s' k (s.r k + 1) ∧ ∀ m b sz, FAt m b sz s → ∃ m', Con EE.P 16 [PT b, In k] m (In 0) m' ∧ Upd m b (.cells (fC s') true sz) m' :=
  ⟨_, turn_setR, fun m b sz hb => ⟨_, share_open hb ((isO_k hk).2 (by omega)) (show s.r k < _ by omega) (show 0 ≤ s.r k by omega), .put⟩⟩
theorem drop_k (hk : k < 64) (h0 : 0 < s.r k) (h1 : s.r k < 4294967296) : ∃ s', Turn s s' k (s.r k - 1) ∧ ∀ m b sz, FAt m b sz s → ∃ m', Con EE.P 15 [PT b, In k] m (.tuple [In (s.r k - 1), .agg [In (s.p k), .bool (s.w k)].toArray, In 0].toArray) m' ∧ Upd m b (.cells (fC s') true sz) m' := by
  by_cases h : s.r k = 1
  · rw [h]
    exact ⟨_, turn_clear, fun m b sz hb => ⟨_, drop_last hb ((isO_k hk).2 (by omega)) h, .put⟩⟩
  · exact ⟨_, turn_setR, fun m b sz hb => ⟨_, drop_more hb ((isO_k hk).2 (by omega)) (show s.r k ≤ _ by omega) (show 1 < s.r k by omega), .put⟩⟩
end
/-- Cells that hold a file. -/
def XC (c : Cells) (p : Int) (w : Bool) : Prop := c.n = 2 ∧ c.sub 0 2 = some [In p, .bool w]
end
end Go.Ab
