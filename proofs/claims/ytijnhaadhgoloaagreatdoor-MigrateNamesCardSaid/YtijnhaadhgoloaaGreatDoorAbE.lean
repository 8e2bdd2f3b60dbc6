/- An interpreter of our own: its operations that leave memory alone, or only read it, all together. -/
import Derived.Test.YtijnhaadhgoloaaGreatDoorAbD
import Derived.LaidEqlPtr
namespace Go.Ab
variable {σ : Sig} {P : Program} {ρ : Rho} {r r' : Operand → Value}

theorem resolve_builtin {o' : Oper} {c : Call} {b : Builtin} {s : Sem Value} {v : Value} {w : World} (ho : o'.op = .call c) (hc : c.callee = .builtin b)
    (hb : ∀ cs, builtin b c.argTypes o'.type cs (c.args.map r') = (do pure (.value (← s)))) (hs : s.run P w = .ok v w) : (execOp r' o').run P w = .ok (.value v) w := by
  simp [execOp, ho, resolve, hc, invoke, hb, hs]

theorem pure_sound {o : SOp} {o' : Oper} {v : Value} (h1 : o'.op = o.op) (h2 : o'.type = o.type) (hc : cls o.op = .pure) (hr : ∀ x ∈ o.op.operands.toList, VRel σ ρ (r x) (r' x)) (h : pureA P o r = some v) (w : World) :
    Gives σ P ρ o' r' w v := by
  rw [← h1] at hr hc
  cases hop : o.op with
  | move x =>
    rw [hop] at h1
    simp only [pureA, hop, Option.some.injEq] at h
    subst h
    exact ⟨r' x, hr x (by simp [h1, Op.operands]), by simp [execOp, h1]⟩
  | assign x =>
    rw [hop] at h1
    simp only [pureA, hop, Option.some.injEq] at h
    subst h
    exact ⟨r' x, hr x (by simp [h1, Op.operands]), by simp [execOp, h1]⟩
  | pick c a b => exact pick_sound (h1.trans hop) hr (by simp only [pureA, hop] at h; exact h)
  | nilCheck x => exact nilCheck_sound (h1.trans hop) hr (by simp only [pureA, hop] at h; exact h)
  | unOp op t x => exact unOp_sound (h1.trans hop) hr (by simp only [pureA, hop] at h; exact h)
  | binOp op t x y u => exact binOp_sound (h1.trans hop) hc hr (by simp only [pureA, hop] at h; exact h)
  | makeInterface t x => exact makeInterface_sound (h1.trans hop) hr (by simp only [pureA, hop] at h; exact h)
  | makeFunc fn fs cp =>
    simp only [pureA, hop] at h
    have hd : (∀ l, fn ≠ .yield l) ∧ (∀ n, fn ≠ .method n) ∧ v = .func fn (fs.map r) (cp.map r) := by
      cases fn <;> first | (simp at h; done) | exact ⟨fun l e => (by cases e), fun l e => (by cases e), by simpa using h.symm⟩
    exact makeFunc_sound (h1.trans hop) hr hd.1 hd.2.1 hd.2.2
  | fieldAddr s x f => exact fieldAddr_sound (h1.trans hop) hr (by simp only [pureA, hop] at h; exact h)
  | field t x f => exact field_sound (h1.trans hop) hr (by simp only [pureA, hop] at h; exact h)
  | index t x i => exact index_sound (h1.trans hop) hr (by simp only [pureA, hop] at h; exact h)
  | indexAddr t x i => exact indexAddr_sound (h1.trans hop) hr (by simp only [pureA, hop] at h; exact h)
  | build t parts => exact build_sound (h1.trans hop) hr (by simp only [pureA, hop] at h; exact h)
  | extract x i => exact extract_sound (h1.trans hop) hr (by simp only [pureA, hop] at h; exact h)
  | slice t x lo hi mx =>
    simp only [pureA, hop] at h
    cases mx with
    | some m => cases hi with
      | none => simp at h
      | some z => exact slice3_sound (h1.trans hop) hr (by simpa using h)
    | none => exact slice_sound (h1.trans hop) hr (by simpa using h)
  | call c =>
    rw [hop] at h1
    simp only [pureA, hop] at h
    cases hb : c.callee with
    | builtin b =>
      simp only [hb] at h
      split at h
      · rename_i hp
        have he : c.args.map r = c.args.map r' := plain_map (ρ := ρ) (fun x hx => hr x (by rw [h1]; simpa [Op.operands, Call.operands, hb] using hx)) hp
        rw [he] at h
        cases b <;> first
          | (simp at h; done)
          | (obtain ⟨hv, hrun⟩ := runV_run (σ := σ) (ρ := ρ) h
             exact ⟨v, hv, resolve_builtin h1 hb (fun cs => rfl) (by rw [h2]; exact hrun w)⟩)
      · cases h
    | _ => simp [hb] at h
  | _ => simp [pureA, hop] at h

/-! ### reading -/
theorem CellsRel.list {w : World} {x : Nat × Nat × Nat} {cs : List Value} {rw_ : Bool} {sz : Nat} (h : CellsRel σ ρ w x cs rw_ sz) :
    ∃ cs' : List Value, LRel σ ρ cs cs' ∧ ∀ (i : Nat) (v : Value), cs'[i]? = some v → w.cell? ⟨x.1, x.2.1 + i, none⟩ = some v := by
  obtain ⟨ca, t, fz, h1, h2, h3, h4⟩ := h
  refine ⟨(ca.toList.drop x.2.1).take cs.length, ⟨by simp; omega, fun i hi => ?_⟩, fun i v hv => ?_⟩
  · have := h4 i hi
    rw [getD_toList] at this
    rw [List.getD_eq_getElem?_getD (l := List.take _ _), List.getElem?_take_of_lt hi, List.getElem?_drop, ← List.getD_eq_getElem?_getD]
    exact this
  · rw [List.getElem?_take] at hv
    split at hv
    · rw [List.getElem?_drop] at hv
      simp only [World.cell?, h1]
      simpa using hv
    · cases hv

theorem loadCells_run {a : Addr} {w : World} : ∀ (l : List Value) (i : Nat) (acc : Array Value), (∀ (j : Nat) (v : Value), l[j]? = some v → w.cell? (a.add (i + j)) = some v) →
    (loadCellsFrom a i l.length acc).run P w = .ok (acc ++ l.toArray) w := by
  intro l
  induction l with
  | nil => intro i acc _; simp [loadCellsFrom]
  | cons x l ih =>
    intro i acc h
    have h0 := h 0 x (by simp)
    simp only [Nat.add_zero] at h0
    simp only [List.length_cons, loadCellsFrom, Sem.run_bind]
    have hl : (load (a.add i)).run P w = .ok x w := by simp [load, Sem.run, h0]
    rw [hl]
    simp only [Result.andThen_ok]
    rw [ih (i + 1) (acc.push x) (fun j v hj => by have := h (j + 1) v (by simpa using hj); rwa [show i + (j + 1) = i + 1 + j from by omega] at this)]
    simp

theorem sub_rel {cs cs' out : List Value} {o n : Nat} (h : LRel σ ρ cs cs') (hs : sub cs o n = some out) :
    ∃ out', LRel σ ρ out out' ∧ out'.length = n ∧ ∀ (j : Nat) (v : Value), out'[j]? = some v → cs'[o + j]? = some v := by
  unfold sub at hs
  split at hs
  · rename_i hb
    simp only [Option.some.injEq] at hs
    subst hs
    refine ⟨(cs'.drop o).take n, (h.drop o).take n, by simp; have := h.1; omega, fun j v hj => ?_⟩
    rw [List.getElem?_take] at hj
    split at hj
    · rwa [List.getElem?_drop] at hj
    · cases hj
  · cases hs

theorem load_sound {t : TypeId} {a a' v : Value} {m : Mem} {w : World} (hR : Rel σ ρ m w) (ha : VRel σ ρ a a') (h : loadA P t a m = some v) :
    ∃ v', VRel σ ρ v v' ∧ (Instr.loadAt t a').run P w = .ok v' w := by
  unfold loadA at h
  split at h
  · rename_i b o
    obtain ⟨b', off, sl, hρ, rfl⟩ := ha.ptr_inv
    split at h
    · rename_i cs rw_ sz hm
      obtain ⟨cs', hl, hcell⟩ := (hR.obj b _ _ hm hρ : CellsRel σ ρ w (b', off, sl) cs.list rw_ sz).list
      split at h
      · cases h
      · rename_i hlay
        obtain ⟨d, hu, hagg⟩ := lay_one hlay
        rw [Cells.nth_eq] at h
        obtain ⟨v', h1, h2⟩ := hl.get? h
        refine ⟨v', h2, ?_⟩
        have hc := hcell o v' h1
        simp only at hc
        simp [Instr.loadAt, Instr.sureAddr, loadVar, hagg, load, Sem.run, hc]
      · rename_i n hlay
        obtain ⟨hs, hagg⟩ := lay_many hlay
        split at h
        · rename_i l hsub
          simp only [Option.some.injEq] at h
          subst h
          rw [Cells.sub_eq] at hsub
          obtain ⟨out', ho1, ho2, ho3⟩ := sub_rel hl hsub
          refine ⟨.agg out'.toArray, LRel.agg (by simpa using ho1), ?_⟩
          have hrun := loadCells_run (P := P) (a := ⟨b', off + o, none⟩) (w := w) out' 0 #[] (fun j v hj => by
            rw [addr_add _ rfl]
            have := hcell (o + j) v (ho3 j v hj)
            simpa [Nat.add_assoc] using this)
          rw [ho2] at hrun
          simp [Instr.loadAt, Instr.sureAddr, loadVar, hagg, sz_run hs, loadCells, hrun]
        · cases h
    · cases h
  · cases h

end Go.Ab
