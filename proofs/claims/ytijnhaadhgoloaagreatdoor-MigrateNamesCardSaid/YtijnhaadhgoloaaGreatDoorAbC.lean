/- An interpreter of our own: its operations without an effect stand to the model's. -/
import Derived.Test.YtijnhaadhgoloaaGreatDoorAbB
namespace Go.Ab
variable {σ : Sig} {P : Program} {ρ : Rho} {r r' : Operand → Value}

theorem runP_run {α : Type} (s : Sem α) : ∀ {a : α}, runP P s = some a → ∀ w, s.run P w = .ok a w := by
  induction s with
  | pure x => intro a h w; simp only [runP, Option.some.injEq] at h; subst h; rfl
  | program k ih => intro a h w; exact ih P h w
  | mark m k ih => intro a h w; exact ih h w
  | _ => intro a h w; simp [runP] at h

theorem runV_run {s : Sem Value} {v : Value} (h : runV P s = some v) : VRel σ ρ v v ∧ ∀ w, s.run P w = .ok v w := by
  unfold runV at h
  cases hs : runP P s with
  | none => rw [hs] at h; cases h
  | some u =>
    simp only [hs] at h
    split at h
    · rename_i hp
      simp only [Option.some.injEq] at h
      subst h
      exact ⟨plain_refl (σ := σ) ρ hp, runP_run s hs⟩
    · cases h

theorem und_run {t : TypeId} {d : TypeDesc} (h : P.underlying t = some d) (w : World) : (underlying t).run P w = .ok d w := by
  simp [underlying, h]
theorem info_run {t : TypeId} {i : TypeInfo} (h : P.info? t = some i) (w : World) : (typeInfo t).run P w = .ok i w := by
  simp [typeInfo, h]
theorem sz_run {t : TypeId} {n : Nat} (h : szOf P t = some n) (w : World) : (sizeOf t).run P w = .ok n w := by
  unfold szOf at h
  cases hi : P.info? t with
  | none => rw [hi] at h; cases h
  | some i => rw [hi] at h; simp at h; subst h; simp [sizeOf, info_run hi]
theorem zero_run {t : TypeId} {z : Value} (h : zeroOf P t = some z) (w : World) : (zeroValue t).run P w = .ok z w := by
  unfold zeroOf at h
  cases hi : P.info? t with
  | none => rw [hi] at h; cases h
  | some i => rw [hi] at h; simp at h; simp [zeroValue, info_run hi, h]

def aggB : TypeDesc → Bool
  | .struct _ => true
  | .array _ _ => true
  | _ => false
theorem isAgg_run {t : TypeId} {d : TypeDesc} (h : P.underlying t = some d) (w : World) : (isAgg t).run P w = .ok (aggB d) w := by
  unfold isAgg
  simp only [Sem.run_bind, und_run h, Result.andThen_ok]
  cases d <;> rfl
theorem lay_eq {t : TypeId} {d : TypeDesc} (h : P.underlying t = some d) : lay P t = if aggB d then (szOf P t).map some else some none := by
  unfold lay
  rw [h]
  cases d <;> simp [aggB]

theorem lay_one {t : TypeId} (h : lay P t = some none) : ∃ d, P.underlying t = some d ∧ ∀ w, (isAgg t).run P w = .ok false w := by
  cases hu : P.underlying t with
  | none => unfold lay at h; rw [hu] at h; cases h
  | some d =>
    rw [lay_eq hu] at h
    refine ⟨d, rfl, fun w => ?_⟩
    rw [isAgg_run hu]
    cases hb : aggB d with
    | false => rfl
    | true => rw [hb] at h; simp at h
theorem lay_many {t : TypeId} {n : Nat} (h : lay P t = some (some n)) : szOf P t = some n ∧ ∀ w, (isAgg t).run P w = .ok true w := by
  cases hu : P.underlying t with
  | none => unfold lay at h; rw [hu] at h; cases h
  | some d =>
    rw [lay_eq hu] at h
    cases hb : aggB d with
    | false => rw [hb] at h; simp at h
    | true =>
      rw [hb] at h
      exact ⟨by simpa using h, fun w => by rw [isAgg_run hu, hb]⟩

theorem part_sound {t : TypeId} {cs cs' : Array Value} {off : Nat} {v : Value} (hc : LRel σ ρ cs.toList cs'.toList) (h : partA P t cs off = some v) :
    ∃ v', VRel σ ρ v v' ∧ ∀ w, (part t cs' off).run P w = .ok v' w := by
  unfold partA at h
  cases hl : lay P t with
  | none => rw [hl] at h; cases h
  | some q =>
    rw [hl] at h
    cases q with
    | none =>
      obtain ⟨d, _, ha⟩ := lay_one hl
      obtain ⟨v', h1, h2⟩ := hc.get? (i := off) (v := v) (by simpa using h)
      refine ⟨v', h2, fun w => ?_⟩
      have : cs'[off]? = some v' := by simpa using h1
      simp [part, ha, this]
    | some n =>
      obtain ⟨hs, ha⟩ := lay_many hl
      simp only [Option.some.injEq] at h
      subst h
      refine ⟨.agg (cs'.extract off (off + n)), LRel.agg ?_, fun w => by simp [part, ha, sz_run hs]⟩
      have := (hc.drop off).take n
      simpa [Array.toList_extract, List.extract_eq_take_drop] using this

theorem addr_add (a : Addr) (h : a.spot = none) (n : Nat) : a.add n = ⟨a.block, a.off + n, none⟩ := by
  unfold Addr.add
  cases a
  simp only at h
  subst h
  split
  · rename_i e; subst e; rfl
  · rfl

/-- What is shown of an operation that leaves memory alone. -/
def Gives (σ : Sig) (P : Program) (ρ : Rho) (o' : Oper) (r' : Operand → Value) (w : World) (v : Value) : Prop :=
  ∃ v', VRel σ ρ v v' ∧ (execOp r' o').run P w = .ok (.value v') w

theorem map_rel {xs : Array Operand} (h : ∀ x ∈ xs.toList, VRel σ ρ (r x) (r' x)) : LRel σ ρ (xs.map r).toList (xs.map r').toList := by
  rw [Array.toList_map, Array.toList_map]
  generalize xs.toList = l at h
  induction l with
  | nil => exact LRel.nil ρ
  | cons x l ih => exact LRel.cons (h x (by simp)) (ih fun y hy => h y (by simp [hy]))

theorem VRel.func_of {f : Fn} (hy : ∀ l, f ≠ .yield l) (hm : ∀ n, f ≠ .method n) {fs fs' cp cp' : Array Value} (h1 : LRel σ ρ fs.toList fs'.toList) (h2 : LRel σ ρ cp.toList cp'.toList) : VRel σ ρ (.func f fs cp) (.func f fs' cp') :=
  .func hy hm (by simpa using h1.1) (fun i hi => by rw [getD_toList, getD_toList]; exact h1.2 i (by simpa using hi)) (by simpa using h2.1)
    (fun i hi => by rw [getD_toList, getD_toList]; exact h2.2 i (by simpa using hi))

theorem plain_map {xs : Array Operand} (h : ∀ x ∈ xs.toList, VRel σ ρ (r x) (r' x)) (hp : (xs.map r).toList.all plain = true) : xs.map r = xs.map r' := by
  apply Array.toList_inj.1
  have hl := map_rel h
  refine list_ext_getD hl.1 fun i hi => plain_eq (all_getD hp hi) (hl.2 i hi)

theorem bnd_sound {v v' : Option Value} {top dflt n : Nat} {code : BoundsCode} (hv : ∀ x, v = some x → ∃ x', v' = some x' ∧ VRel σ ρ x x') (hn : v = none → v' = none) (h : bndA v top dflt = some n) {top' : Nat} (ht : top ≤ top') (w : World) :
    (v = none ∧ v' = none ∧ n = dflt) ∨ (∃ x', v' = some x' ∧ n ≤ top ∧ (Instr.sliceBound x' top' code).run P w = .ok n w) := by
  cases v with
  | none => exact .inl ⟨rfl, hn rfl, by simpa [bndA] using h.symm⟩
  | some x =>
    obtain ⟨x', hx', hr⟩ := hv x rfl
    right
    cases x with
    | int k i =>
      cases hr
      simp only [bndA] at h
      split at h
      · rename_i hb
        simp only [Option.some.injEq] at h
        subst h
        refine ⟨_, hx', by omega, ?_⟩
        have : 0 ≤ i ∧ i ≤ (top' : Int) := ⟨hb.1, by omega⟩
        simp [Instr.sliceBound, asIntOf, this]
      · cases h
    | _ => simp [bndA] at h

theorem pick_sound {o' : Oper} {c a b : Operand} {v : Value} {w : World} (ho : o'.op = .pick c a b) (hr : ∀ x ∈ o'.op.operands.toList, VRel σ ρ (r x) (r' x))
    (h : (match r c with | .bool t => some (if t then r a else r b) | _ => none) = some v) : Gives σ P ρ o' r' w v := by
  rw [ho] at hr
  have hc := hr c (by simp [Op.operands])
  have ha := hr a (by simp [Op.operands])
  have hb := hr b (by simp [Op.operands])
  revert h
  cases hrc : r c with
  | bool t =>
    intro h
    rw [hrc] at hc
    generalize hcc : r' c = cc at hc
    cases hc
    simp only [Option.some.injEq] at h
    subst h
    cases t
    · exact ⟨r' b, by simpa using hb, by simp [execOp, ho, hcc, asBool]⟩
    · exact ⟨r' a, by simpa using ha, by simp [execOp, ho, hcc, asBool]⟩
  | _ => intro h; simp at h

theorem nilCheck_sound {o' : Oper} {x : Operand} {v : Value} {w : World} (ho : o'.op = .nilCheck x) (hr : ∀ x ∈ o'.op.operands.toList, VRel σ ρ (r x) (r' x))
    (h : (match r x with | .pointer (some a) => some (.pointer (some a)) | .func (.func f) a c => some (.func (.func f) a c) | .func (.yield l) a c => some (.func (.yield l) a c) | _ => none) = some v) : Gives σ P ρ o' r' w v := by
  rw [ho] at hr
  have hx := hr x (by simp [Op.operands])
  have hv : r x = v := by
    split at h
    · rename_i e; rw [e]; simpa using h
    · rename_i e; rw [e]; simpa using h
    · rename_i e; rw [e]; simpa using h
    · cases h
  refine ⟨r' x, hv ▸ hx, ?_⟩
  rw [hv] at hx h
  generalize hcc : r' x = cc at hx
  cases hx with
  | ptr hb => simp [execOp, ho, hcc]
  | func hy hm h1 h2 h3 h4 =>
    rename_i f fs fs' cp cp'
    cases f with
    | func g => simp [execOp, ho, hcc]
    | yield l => exact absurd rfl (hy l)
    | _ => simp at h
  | yield hb => simp [execOp, ho, hcc]
  | _ => simp at h

theorem unOp_sound {o' : Oper} {op : UnOp} {t : TypeId} {x : Operand} {v : Value} {w : World} (ho : o'.op = .unOp op t x) (hr : ∀ x ∈ o'.op.operands.toList, VRel σ ρ (r x) (r' x))
    (h : (if plain (r x) then runV P (Op.unary op (r x)) else none) = some v) : Gives σ P ρ o' r' w v := by
  rw [ho] at hr
  have hx := hr x (by simp [Op.operands])
  split at h
  · rename_i hp
    have e := plain_eq hp hx
    obtain ⟨hv, hrun⟩ := runV_run (σ := σ) (ρ := ρ) h
    refine ⟨v, hv, ?_⟩
    have := hrun w
    rw [e] at this
    simp [execOp, ho, this]
  · cases h

theorem binOp_sound {o' : Oper} {op : BinOp} {t u : TypeId} {x y : Operand} {v : Value} {w : World} (ho : o'.op = .binOp op t x y u) (hc : cls o'.op = .pure) (hr : ∀ x ∈ o'.op.operands.toList, VRel σ ρ (r x) (r' x))
    (h : (if plain (r x) && plain (r y) then runV P (binOp op t (r x) (r y)) else none) = some v) : Gives σ P ρ o' r' w v := by
  rw [ho] at hr hc
  have hx := hr x (by simp [Op.operands])
  have hy := hr y (by simp [Op.operands])
  split at h
  · rename_i hp
    simp only [Bool.and_eq_true] at hp
    have e1 := plain_eq hp.1 hx
    have e2 := plain_eq hp.2 hy
    obtain ⟨hv, hrun⟩ := runV_run (σ := σ) (ρ := ρ) h
    refine ⟨v, hv, ?_⟩
    have := hrun w
    rw [e1, e2] at this
    have hg : (eqGuard op t x y (r' x) (r' y)).run P w = .ok () w := by
      cases op <;> first | rfl | (simp [cls] at hc)
    simp [execOp, ho, this, hg]
  · cases h

theorem makeInterface_sound {o' : Oper} {t : TypeId} {x : Operand} {v : Value} {w : World} (ho : o'.op = .makeInterface t x) (hr : ∀ x ∈ o'.op.operands.toList, VRel σ ρ (r x) (r' x))
    (h : (match P.underlying t with | some (.interface _) => none | some _ => some (.iface t (r x)) | none => none) = some v) : Gives σ P ρ o' r' w v := by
  rw [ho] at hr
  have hx := hr x (by simp [Op.operands])
  cases hu : P.underlying t with
  | none => rw [hu] at h; simp at h
  | some d =>
    rw [hu] at h
    have hd : (some (.iface t (r x)) : Option Value) = some v ∧ ∀ w, (Instr.makeInterface t (r' x)).run P w = .ok (.iface t (r' x)) w := by
      cases d <;> first | (simp at h; done) | exact ⟨h, fun w => by simp [Instr.makeInterface, und_run hu]⟩
    obtain ⟨h, hd⟩ := hd
    simp only [Option.some.injEq] at h
    subst h
    exact ⟨.iface t (r' x), .iface t hx, by simp [execOp, ho, hd]⟩

theorem makeFunc_sound {o' : Oper} {fn : Fn} {fs cp : Array Operand} {v : Value} {w : World} (ho : o'.op = .makeFunc fn fs cp) (hr : ∀ x ∈ o'.op.operands.toList, VRel σ ρ (r x) (r' x))
    (hy : ∀ l, fn ≠ .yield l) (hm : ∀ n, fn ≠ .method n) (hv : v = .func fn (fs.map r) (cp.map r)) : Gives σ P ρ o' r' w v := by
  rw [ho] at hr
  have h1 := map_rel (r := r) (r' := r') (xs := fs) fun x hx => hr x (by simp only [Op.operands, Array.toList_append, List.mem_append]; exact .inl hx)
  have h2 := map_rel (r := r) (r' := r') (xs := cp) fun x hx => hr x (by simp only [Op.operands, Array.toList_append, List.mem_append]; exact .inr hx)
  subst hv
  exact ⟨.func fn (fs.map r') (cp.map r'), VRel.func_of hy hm h1 h2, by simp [execOp, ho, Instr.makeFunc]⟩

theorem fieldAddr_sound {o' : Oper} {s : TypeId} {x : Operand} {f : Nat} {v : Value} {w : World} (ho : o'.op = .fieldAddr s x f) (hr : ∀ x ∈ o'.op.operands.toList, VRel σ ρ (r x) (r' x))
    (h : (match P.underlying s, r x with
    | some (.struct fs), .pointer (some ⟨b, o, none⟩) => match fs[f]? with
      | some fl => match szOf P fl.type with
        | some (_ + 1) => some (ptr b (o + fl.offset))
        | _ => none
      | none => none
    | _, _ => none) = some v) : Gives σ P ρ o' r' w v := by
  rw [ho] at hr
  have hx := hr x (by simp [Op.operands])
  split at h
  · rename_i fs b o hu hrx
    split at h
    · rename_i fl hf
      split at h
      · rename_i k hs
        simp only [Option.some.injEq] at h
        subst h
        rw [hrx] at hx
        generalize hcc : r' x = cc at hx
        cases hx with
        | ptr hb =>
          rename_i b' off sl
          refine ⟨ptr b' (off + (o + fl.offset)), .ptr hb, ?_⟩
          have hz : (sizeOf fl.type).run P w = .ok (k + 1) w := sz_run hs w
          simp [execOp, ho, hcc, Instr.fieldAt, und_run hu, hf, Instr.sureAddr, fieldPlace, hz, addr_add, ptr, Nat.add_assoc]
      · cases h
    · cases h
  · cases h

theorem field_sound {o' : Oper} {t : TypeId} {x : Operand} {f : Nat} {v : Value} {w : World} (ho : o'.op = .field t x f) (hr : ∀ x ∈ o'.op.operands.toList, VRel σ ρ (r x) (r' x))
    (h : (match P.underlying t, r x with
    | some (.struct fs), .agg cs => match fs[f]? with
      | some fl => partA P fl.type cs fl.offset
      | none => none
    | _, _ => none) = some v) : Gives σ P ρ o' r' w v := by
  rw [ho] at hr
  have hx := hr x (by simp [Op.operands])
  split at h
  · rename_i fs cs hu hrx
    split at h
    · rename_i fl hf
      rw [hrx] at hx
      obtain ⟨cs', hcc, hl⟩ := hx.agg_inv
      obtain ⟨v', hv, hrun⟩ := part_sound hl h
      exact ⟨v', hv, by simp [execOp, ho, hcc, Instr.field, und_run hu, hf, asAgg, hrun]⟩
    · cases h
  · cases h

theorem extract_sound {o' : Oper} {x : Operand} {i : Nat} {v : Value} {w : World} (ho : o'.op = .extract x i) (hr : ∀ x ∈ o'.op.operands.toList, VRel σ ρ (r x) (r' x))
    (h : (match r x with | .tuple vs => vs[i]? | _ => none) = some v) : Gives σ P ρ o' r' w v := by
  rw [ho] at hr
  have hx := hr x (by simp [Op.operands])
  split at h
  · rename_i vs hrx
    rw [hrx] at hx
    obtain ⟨cs', hcc, hl⟩ := hx.tuple_inv
    obtain ⟨v', h1, h2⟩ := hl.get? (i := i) (v := v) (by simpa using h)
    have h1' : cs'[i]? = some v' := by simpa using h1
    exact ⟨v', h2, by simp [execOp, ho, hcc, Instr.extract, h1']⟩
  · cases h

theorem VRel.int_inv {k : IntKind} {n : Int} {v : Value} (h : VRel σ ρ (.int k n) v) : v = .int k n := by cases h; rfl
theorem VRel.string_inv {s : ByteArray} {v : Value} (h : VRel σ ρ (.string s) v) : v = .string s := by cases h; rfl
theorem VRel.bool_inv {b : Bool} {v : Value} (h : VRel σ ρ (.bool b) v) : v = .bool b := by cases h; rfl
theorem VRel.ptr_inv {b o : Nat} {v : Value} (h : VRel σ ρ (.pointer (some ⟨b, o, none⟩)) v) : ∃ b' off sl, ρ b = some (b', off, sl) ∧ v = .pointer (some ⟨b', off + o, none⟩) := by
  cases h with
  | ptr h => exact ⟨_, _, _, h, rfl⟩
theorem VRel.slice_inv {b o n c : Nat} {v : Value} (h : VRel σ ρ (.slice (some ⟨b, o, none⟩) n c) v) :
    ∃ b' off sl c', ρ b = some (b', off, sl) ∧ v = .slice (some ⟨b', off + o, none⟩) n c' ∧ (c' = c ∨ c' = c + sl) ∧ n ≤ c := by
  cases h with
  | slice h hc hn => exact ⟨_, _, _, _, h, rfl, hc, hn⟩

theorem index_sound {o' : Oper} {t : TypeId} {x i : Operand} {v : Value} {w : World} (ho : o'.op = .index t x i) (hr : ∀ x ∈ o'.op.operands.toList, VRel σ ρ (r x) (r' x))
    (h : (match P.underlying t, r x, r i with
    | some (.array len e), .agg cs, .int _ n => if 0 ≤ n ∧ n < len then match szOf P e with
        | some s => partA P e cs (n.toNat * s)
        | none => none
      else none
    | some .string, .string s, .int _ n => if 0 ≤ n then match s[n.toNat]? with
        | some b => some (.int .u8 b.toNat)
        | none => none
      else none
    | _, _, _ => none) = some v) : Gives σ P ρ o' r' w v := by
  rw [ho] at hr
  have hx := hr x (by simp [Op.operands])
  have hi := hr i (by simp [Op.operands])
  split at h
  · rename_i len e cs k n hu hrx hri
    split at h
    · rename_i hb
      split at h
      · rename_i s hs
        rw [hrx] at hx
        rw [hri] at hi
        obtain ⟨cs', hcc, hl⟩ := hx.agg_inv
        have hii := hi.int_inv
        obtain ⟨v', hv, hrun⟩ := part_sound hl h
        exact ⟨v', hv, by simp [execOp, ho, hcc, hii, Instr.index, asIntOf, und_run hu, hb, sz_run hs, hrun]⟩
      · cases h
    · cases h
  · rename_i s k n hu hrx hri
    split at h
    · rename_i hb
      split at h
      · rename_i b hs
        rw [hrx] at hx
        rw [hri] at hi
        simp only [Option.some.injEq] at h
        subst h
        refine ⟨_, .int _ _, ?_⟩
        simp [execOp, ho, hx.string_inv, hi.int_inv, Instr.index, asIntOf, und_run hu, hb, hs]
      · cases h
    · cases h
  · cases h

theorem indexAddr_sound {o' : Oper} {t : TypeId} {x i : Operand} {v : Value} {w : World} (ho : o'.op = .indexAddr t x i) (hr : ∀ x ∈ o'.op.operands.toList, VRel σ ρ (r x) (r' x))
    (h : (match P.underlying t, r x, r i with
    | some (.array len e), .pointer (some ⟨b, o, none⟩), .int _ n => if 0 ≤ n ∧ n < len then match szOf P e with
        | some s => some (ptr b (o + n.toNat * s))
        | none => none
      else none
    | some (.slice e), .slice (some ⟨b, o, none⟩) len _, .int _ n => if 0 ≤ n ∧ n < len then match szOf P e with
        | some s => some (ptr b (o + n.toNat * s))
        | none => none
      else none
    | _, _, _ => none) = some v) : Gives σ P ρ o' r' w v := by
  rw [ho] at hr
  have hx := hr x (by simp [Op.operands])
  have hi := hr i (by simp [Op.operands])
  split at h
  · rename_i len e b o k n hu hrx hri
    split at h
    · rename_i hb
      split at h
      · rename_i s hs
        rw [hrx] at hx
        rw [hri] at hi
        simp only [Option.some.injEq] at h
        subst h
        obtain ⟨b', off, sl, hρ, hcc⟩ := hx.ptr_inv
        refine ⟨ptr b' (off + (o + n.toNat * s)), .ptr hρ, ?_⟩
        simp [execOp, ho, hcc, hi.int_inv, Instr.indexAt, asIntOf, und_run hu, hb, sz_run hs, Instr.sureAddr, addr_add, ptr, Nat.add_assoc]
      · cases h
    · cases h
  · rename_i e b o len c k n hu hrx hri
    split at h
    · rename_i hb
      split at h
      · rename_i s hs
        rw [hrx] at hx
        rw [hri] at hi
        simp only [Option.some.injEq] at h
        subst h
        obtain ⟨b', off, sl, c', hρ, hcc, _, _⟩ := hx.slice_inv
        refine ⟨ptr b' (off + (o + n.toNat * s)), .ptr hρ, ?_⟩
        simp [execOp, ho, hcc, hi.int_inv, Instr.indexAt, asIntOf, und_run hu, hb, sz_run hs, addr_add, ptr, Nat.add_assoc]
      · cases h
    · cases h
  · cases h

theorem splice_rel {cs cs' new new' : List Value} (h : LRel σ ρ cs cs') (hn : LRel σ ρ new new') (o : Nat) : LRel σ ρ (splice cs o new) (splice cs' o new') := by
  unfold splice
  rw [← hn.1]
  exact ((h.take o).append hn).append (h.drop _)

theorem foldl_set (cs : Array Value) (new : List Value) : ∀ (o k : Nat), (new.zipIdx k).foldl (fun cs (p : Value × Nat) => cs.setIfInBounds (o + p.2) p.1) cs =
    (new.zipIdx k).foldl (fun (cs : Array Value) (p : Value × Nat) => cs.setIfInBounds (o + p.2) p.1) cs := fun _ _ => rfl

theorem splice_cons (cs : List Value) (o : Nat) (x : Value) (new : List Value) (h : o < cs.length) : splice (cs.set o x) (o + 1) new = splice cs o (x :: new) := by
  unfold splice
  have e1 : (cs.set o x).take (o + 1) = cs.take o ++ [x] := by
    rw [List.take_succ_eq_append_getElem (by simpa using h)]
    simp [List.take_set_of_le]
  have e2 : (cs.set o x).drop (o + 1 + new.length) = cs.drop (o + (x :: new).length) := by
    rw [List.drop_set_of_lt (by omega)]
    congr 1
    simp only [List.length_cons]
    omega
  rw [e1, e2]
  simp

/-- The model's loop of stores into an array is a splice. -/
theorem foldl_splice (new : List Value) : ∀ (cs : Array Value) (o k : Nat), o + k + new.length ≤ cs.size →
    ((new.zipIdx k).foldl (fun (cs : Array Value) (p : Value × Nat) => cs.setIfInBounds (o + p.2) p.1) cs).toList = splice cs.toList (o + k) new := by
  induction new with
  | nil => intro cs o k _; simp [splice]
  | cons x new ih =>
    intro cs o k h
    simp only [List.length_cons] at h
    rw [List.zipIdx_cons, List.foldl_cons, ih _ _ _ (by simp; omega)]
    rw [Array.toList_setIfInBounds]
    have := splice_cons cs.toList (o + k) x new (by simp; omega)
    rw [← this]
    rfl

theorem fill_sound {place place' : Nat → Option (Nat × Nat)} : ∀ {parts parts' : List (Nat × Value)} {cs cs' : List Value} {out : List Value}, LRel σ ρ cs cs' →
    (∀ i p, place i = some p → place' i = some p) → parts.length = parts'.length → (∀ (i : Nat) (p : Nat × Value), parts[i]? = some p → ∃ v', parts'[i]? = some (p.1, v') ∧ VRel σ ρ p.2 v') →
    fillA place cs parts = some out → ∃ out' : Array Value, LRel σ ρ out out'.toList ∧ Instr.fill place' cs'.toArray parts' = some out' := by
  intro parts
  induction parts with
  | nil =>
    intro parts' cs cs' out hc hp hlen _ h
    cases parts' with
    | nil =>
      simp only [fillA, Option.some.injEq] at h
      subst h
      exact ⟨cs'.toArray, by simpa using hc, rfl⟩
    | cons => simp at hlen
  | cons p parts ih =>
    intro parts' cs cs' out hc hp hlen hr h
    cases parts' with
    | nil => simp at hlen
    | cons p' parts' =>
      obtain ⟨v', hv', hvr⟩ := hr 0 p (by simp)
      simp only [List.getElem?_cons_zero, Option.some.injEq] at hv'
      subst hv'
      obtain ⟨i, v⟩ := p
      simp only [fillA] at h
      cases hpl : place i with
      | none => rw [hpl] at h; cases h
      | some q =>
        obtain ⟨off, size⟩ := q
        rw [hpl] at h
        simp only at h
        split at h
        · rename_i hb
          have hcl := hvr.cells hb.2.2
          have hsz : v.cells.size = v'.cells.size := by simpa using hcl.1
          have hlen' := hc.1
          have hsp := splice_rel hc hcl off
          obtain ⟨out', ho, hf⟩ := ih (parts' := parts') hsp hp (by simpa using hlen) (fun j p hj => by simpa using hr (j + 1) p (by simpa using hj)) h
          refine ⟨out', ho, ?_⟩
          simp only [Instr.fill, hp i _ hpl]
          have hno : ¬ (v'.cells.size ≠ size ∨ off + v'.cells.size > cs'.toArray.size) := by
            rintro (hh | hh)
            · exact hh (by rw [← hsz]; exact hb.1)
            · simp at hh; omega
          have hno' : (decide (v'.cells.size ≠ size) || decide (off + v'.cells.size > cs'.toArray.size)) = false := by simpa using hno
          have hfold := foldl_splice v'.cells.toList cs'.toArray off 0 (by simp; omega)
          rw [if_neg (by simpa using hno)]
          have harr : ((v'.cells.zipIdx).foldl (fun (cs : Array Value) (x : Value × Nat) => cs.setIfInBounds (off + x.2) x.1) cs'.toArray) = (splice cs' off v'.cells.toList).toArray := by
            apply Array.toList_inj.1
            rw [← Array.foldl_toList]
            simpa using hfold
          rw [← hf, ← harr]
        · cases h

end Go.Ab
