/- Equality of values without addresses, structs among them, on open terms. -/
import Derived.Test.YtojfkjjacaellaaTL
import Derived.DeepKeys
namespace Go.Ab
noncomputable section
variable {P : Program}

/-- It asks nothing of the world. -/
def Light (P : Program) {α : Type} : Sem α → Prop
  | .pure _ => True
  | .program k => Light P (k P)
  | .mark _ k => Light P k
  | .halt _ => True
  | _ => False
theorem Light.runP {α : Type} {s : Sem α} {w w' : World} {a : α} (h : Light P s) (hr : s.run P w = .ok a w') : runP P s = some a := by
  induction s with
  | pure x => simp only [Sem.run, Result.ok.injEq] at hr; rw [hr.1]; rfl
  | program k ih => exact ih P h hr
  | mark e k ih => exact ih h hr
  | halt x => simp only [Sem.run] at hr; cases hr
  | _ => exact h.elim
theorem Light.bind {α β : Type} {s : Sem α} {f : α → Sem β} (h : Light P s) (hf : ∀ a, Ab.runP P s = some a → Light P (f a)) : Light P (s >>= f) := by
  induction s with
  | pure x => exact hf x rfl
  | program k ih => exact ih P h hf
  | mark e k ih => exact ih h hf
  | halt x => trivial
  | _ => exact h.elim
theorem light_und {t : TypeId} : Light P (underlying t) := by
  show Light P (match P.underlying t with | some d => pure d | none => stuck "no such type")
  split <;> trivial
theorem light_info {t : TypeId} : Light P (typeInfo t) := by
  show Light P (match P.info? t with | some d => pure d | none => stuck "no such type")
  split <;> trivial
theorem light_size {t : TypeId} : Light P (sizeOf t) := Light.bind light_info fun _ _ => trivial
theorem light_isAgg {t : TypeId} : Light P (isAgg t) := Light.bind light_und fun k _ => by split <;> trivial
theorem light_part {t : TypeId} {cs : Array Value} {off : Nat} : Light P (part t cs off) := by
  unfold part
  refine Light.bind light_isAgg fun b _ => ?_
  split
  · exact Light.bind light_size fun _ _ => trivial
  · split <;> trivial
theorem Light.forL {α β : Type} {f : α → β → Sem (ForInStep β)} (h : ∀ a b, Light P (f a b)) : ∀ {l : List α} {b : β}, Light P (forIn l b f)
  | [], b => by rw [List.forIn_nil]; trivial
  | a :: l, b => by
    rw [List.forIn_cons]
    refine Light.bind (h a b) fun s _ => ?_
    cases s with
    | done b => trivial
    | yield b => exact Light.forL h
theorem Light.forA {α β : Type} {f : α → β → Sem (ForInStep β)} {l : Array α} {b : β} (h : ∀ a b, Light P (f a b)) : Light P (forIn l b f) := by
  rw [← Array.forIn_toList]
  exact Light.forL h

def smpC : Value → Bool
  | .bool _ | .int _ _ | .string _ => true
  | _ => false
/-- A number, a truth, a text, or a row of such. -/
def smpV : Value → Bool
  | .agg xs => xs.all smpC
  | v => smpC v
theorem runP_of_bind {α β : Type} {s : Sem α} {f : α → Sem β} {b : β} (h : runP P (s >>= f) = some b) : ∃ a, runP P s = some a ∧ runP P (f a) = some b := by
  induction s with
  | pure x => exact ⟨x, rfl, h⟩
  | program k ih => exact ih P h
  | mark e k ih => exact ih h
  | halt x => cases h
  | _ => cases h
theorem part_smp {t : TypeId} {cs : Array Value} {off : Nat} {v : Value} (hc : cs.all smpC = true) (h : runP P (part t cs off) = some v) : smpV v = true := by
  have hm : ∀ x ∈ cs.toList, smpC x = true := fun x hx => by
    rw [← Array.all_toList] at hc
    exact List.all_eq_true.1 hc x hx
  unfold part at h
  obtain ⟨b, _, h⟩ := runP_of_bind h
  split at h
  · obtain ⟨n, _, h⟩ := runP_of_bind h
    simp only [runP, pure, Option.some.injEq] at h
    subst h
    show (cs.extract off (off + n)).all smpC = true
    rw [← Array.all_toList, List.all_eq_true]
    intro x hx
    rw [Array.toList_extract, List.extract] at hx
    exact hm x (List.mem_of_mem_drop (List.mem_of_mem_take hx))
  · split at h
    · rename_i x hx
      simp only [runP, pure, Option.some.injEq] at h
      subst h
      have := hm x (Array.mem_toList_iff.2 (Array.mem_of_getElem? hx))
      cases x <;> first | exact this | cases this
    · cases h
theorem smp_cases {v : Value} (h : smpV v = true) : (∃ b, v = .bool b) ∨ (∃ k n, v = .int k n) ∨ (∃ s, v = .string s) ∨ ∃ xs, v = .agg xs ∧ xs.all smpC = true := by
  cases v <;> first | exact .inl ⟨_, rfl⟩ | exact .inr (.inl ⟨_, _, rfl⟩) | exact .inr (.inr (.inl ⟨_, rfl⟩)) | exact .inr (.inr (.inr ⟨_, rfl, h⟩)) | cases h
theorem light_equal : ∀ (d : Nat) (t : TypeId) (x y : Value), smpV x = true → smpV y = true → Light P (Op.equalIn d t x y)
  | 0, _, _, _, _, _ => trivial
  | d + 1, t, x, y, hx, hy => by
    unfold Op.equalIn
    refine Light.bind light_und fun k _ => ?_
    rcases smp_cases hx with ⟨a, rfl⟩ | ⟨q, a, rfl⟩ | ⟨a, rfl⟩ | ⟨xs, rfl, hxs⟩ <;> rcases smp_cases hy with ⟨b, rfl⟩ | ⟨q', b, rfl⟩ | ⟨b, rfl⟩ | ⟨ys, rfl, hys⟩ <;> cases k <;> first | trivial | skip
    · simp only
      split <;> trivial
    · refine Light.bind light_size fun n _ => ?_
      simp only [Std.Legacy.Range.forIn_eq_forIn_range']
      refine Light.bind (Light.forL fun i s => ?_) fun s _ => by obtain ⟨_ | _, _⟩ := s <;> trivial
      refine Light.bind light_part fun a ha => Light.bind light_part fun b hb => Light.bind (light_equal d _ a b (part_smp hxs ha) (part_smp hys hb)) fun r _ => ?_
      cases r <;> trivial
    · refine Light.bind (s := program) trivial fun p _ => ?_
      split
      · trivial
      · refine Light.bind (Light.forA fun f s => ?_) fun s _ => by obtain ⟨_ | _, _⟩ := s <;> trivial
        split
        · refine Light.bind light_part fun a ha => Light.bind light_part fun b hb => Light.bind (light_equal d _ a b (part_smp hxs ha) (part_smp hys hb)) fun r _ => ?_
          cases r <;> trivial
        · trivial
/-- Structs compared. -/
theorem eqA_agg {t : TypeId} {xs ys : Array Value} {w : World} {r : Bool} {op : BinOp} {xo yo : Operand} {m : Mem} (hop : op = .eql ∨ op = .neq) (hp : plain (.agg xs) = true) (hq : plain (.agg ys) = true) (hx : xs.all smpC = true) (hy : ys.all smpC = true) (hg : P.eqGuardType P.depth t = false)
    (h : (Op.equal t (.agg xs) (.agg ys)).run P w = .ok r w) : eqA P op t xo yo (.agg xs) (.agg ys) m = some (.bool (match op with | .eql => r | _ => !r)) := by
  have h1 : runP P (Op.equal t (.agg xs) (.agg ys)) = some r := (light_equal _ t (.agg xs) (.agg ys) (by exact hx) (by exact hy)).runP h
  have h2 : runP P (eqGuard op t xo yo (.agg xs) (.agg ys)) = some () := by
    unfold eqGuard
    rcases hop with rfl | rfl
    all_goals
      show runP P (if (!P.eqGuardType P.depth t) = true then _ else _) = _
      rw [hg]
      rfl
  unfold eqA
  rw [if_pos (by rw [hp, hq]; rfl)]
  unfold runV
  rw [runP_bind _ _ h2]
  rcases hop with rfl | rfl
  · have : runP P (binOp .eql t (.agg xs) (.agg ys)) = some (.bool r) := by
      show runP P (do pure (Value.bool (← Op.equal t (.agg xs) (.agg ys))) : Sem Value) = _
      rw [runP_bind _ _ h1]; rfl
    rw [this]
    cases r <;> rfl
  · have : runP P (binOp .neq t (.agg xs) (.agg ys)) = some (.bool !r) := by
      show runP P (do pure (Value.bool (!(← Op.equal t (.agg xs) (.agg ys)))) : Sem Value) = _
      rw [runP_bind _ _ h1]; rfl
    rw [this]
    cases r <;> rfl
end
end Go.Ab
