/- Runs on open terms: what is read again. -/
import Derived.Test.YthidhnbniklhmaaTI
namespace Go.Ab
noncomputable section
variable {E : Env}
theorem RE_len (hs : ∀ o r, E.sym o r = none) {dst : Option Tmp} {g : Option (Tmp × Bool)} {x : Operand} {t : List Value} {m : Mem} {ty rt : TypeId} : readE E ⟨dst, .call ⟨.builtin .len, #[x], #[ty]⟩, rt, g⟩ (ev · t) m = lenA E.P ty (ev x t) m := by
  rw [readE_none hs]; rfl
end
end Go.Ab
