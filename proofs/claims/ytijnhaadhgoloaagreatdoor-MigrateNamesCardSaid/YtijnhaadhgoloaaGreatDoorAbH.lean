/- An interpreter of our own: blocks that are made. -/
import Derived.Test.YtijnhaadhgoloaaGreatDoorAbG
import Derived.IntWalk
namespace Go.Ab
variable {σ : Sig} {P : Program} {ρ : Rho} {r r' : Operand → Value}

/-- What is shown of an operation with a value. -/
def GivesM (σ : Sig) (P : Program) (ρ : Rho) (m : Mem) (w : World) (o' : Oper) (r' : Operand → Value) (id : Nat) (v : Value) (m' : Mem) : Prop :=
  ∃ x v' w' ρ', (execOp r' o').run P w = .ok x w' ∧ (x = .value v' ∨ (x = .skip ∧ v' = undef)) ∧ VRel σ ρ' v v' ∧ Post σ ρ m w ρ' m' w' ∧ OldBut m.next id ρ ρ'

theorem old_upd {n id : Nat} {x : Nat × Nat × Nat} : OldBut n id ρ (upd ρ id x) := fun b _ hb h => by simpa [upd, hb] using h

theorem cells_new {w : World} {id : Nat} {cs : Cells} {ca : Array Value} {t : TypeId} {sz : Nat} (hid : ρ id = none) (h : LRel σ ρ cs.list ca.toList) :
    ORel σ (upd ρ id (w.heap.size, 0, 0)) (w.alloc (.cells ca t)) (w.heap.size, 0, 0) (.cells cs true sz) := by
  refine ⟨ca, t, (0, 0), ?_, ?_, ⟨fun _ => rfl, fun _ => rfl⟩, fun i hi => ?_⟩
  · show (w.heap.push _)[w.heap.size]? = _
    simp
  · have := h.1
    simp at this ⊢
    omega
  · have := h.2 i hi
    rw [← getD_toList] at this
    simpa using this.mono (upd_ext hid _)

theorem gives_cells {m : Mem} {w : World} {o' : Oper} {id : Nat} {cs : Cells} {ca : Array Value} {t : TypeId} {sz : Nat} {v v' : Value} (hR : Rel σ ρ m w) (hid : ρ id = none) (hlt : id < m.next) (h : LRel σ ρ cs.list ca.toList)
    (hrun : (execOp r' o').run P w = .ok (.value v') (w.alloc (.cells ca t))) (hv : VRel σ (upd ρ id (w.heap.size, 0, 0)) v v') : GivesM σ P ρ m w o' r' id v (m.put id (.cells cs true sz)) :=
  ⟨_, v', _, _, hrun, .inl rfl, hv, Post.make hR hid hlt rfl (cells_new hid h), old_upd⟩

theorem zeros_rel {z : Value} {n s : Nat} (hp : plain z = true) (hs : z.cells.size = s) (hs0 : 0 < s) : LRel σ ρ (zeros z.cells.toList n) ((Array.range n).map (z.cells[· % z.cells.size]!)).toList := by
  have hz := (plain_refl (σ := σ) ρ hp).cells (plain_noJunk hp)
  refine ⟨by simp [zeros, Cells.zeros1], fun i hi => ?_⟩
  have hn : i < n := by simpa [zeros, Cells.zeros1] using hi
  have hmod : i % s < s := Nat.mod_lt _ hs0
  have h1 : (zeros z.cells.toList n).getD i undef = z.cells.toList.getD (i % s) undef := by
    have hl : z.cells.toList.length = s := by simpa using hs
    simp only [zeros, Cells.zeros1, List.getD_eq_getElem?_getD, List.getElem?_map, List.getElem?_range hn, Option.map_some, Option.getD_some, hl]
  have h2 : (((Array.range n).map (z.cells[· % z.cells.size]!)).toList).getD i undef = z.cells.toList.getD (i % s) undef := by
    rw [List.getD_eq_getElem?_getD, Array.getElem?_toList, Array.getElem?_map, Array.getElem?_range]
    simp only [hn, if_true, Option.map_some, Option.getD_some, hs]
    rw [List.getD_eq_getElem?_getD, Array.getElem?_toList, Array.getElem!_eq_getD, Array.getD_eq_getD_getElem?, Array.getElem?_eq_getElem (by omega)]
    rfl
  rw [h1, h2]
  exact hz.at_ _

theorem make_sound {o : SOp} {o' : Oper} {ob : AObj} {mk : Nat → Value} {m : Mem} {w : World} {id : Nat} (h1 : o'.op = o.op) (hr : ∀ x ∈ o.op.operands.toList, VRel σ ρ (r x) (r' x)) (hR : Rel σ ρ m w) (hid : ρ id = none) (hlt : id < m.next)
    (h : makeA P o r = some (ob, mk)) : GivesM σ P ρ m w o' r' id (mk id) (m.put id ob) := by
  rw [← h1] at hr
  have hptr : ∀ k, VRel σ (upd ρ id (w.heap.size, 0, 0)) (ptr id k) (ptr w.heap.size k) := fun k => by simpa using VRel.ptr (σ := σ) (o := k) (upd_same ρ id (w.heap.size, 0, 0))
  have hsl : ∀ n c, n ≤ c → VRel σ (upd ρ id (w.heap.size, 0, 0)) (.slice (some ⟨id, 0, none⟩) n c) (.slice (some ⟨w.heap.size, 0, none⟩) n c) := fun n c hn => by
    simpa using VRel.slice (σ := σ) (o := 0) (upd_same ρ id (w.heap.size, 0, 0)) (.inl rfl) hn
  cases hop : o.op with
  | alloc t =>
    rw [hop] at h1
    simp only [makeA, hop] at h
    split at h
    · rename_i z hz
      split at h
      · rename_i hp
        simp only [Option.some.injEq, Prod.mk.injEq] at h
        obtain ⟨rfl, rfl⟩ := h
        exact gives_cells hR hid hlt (by rw [Cells.ofList_list]; exact (plain_refl (σ := σ) ρ hp).cells (plain_noJunk hp)) (by simp [execOp, h1, Instr.alloc, zero_run hz, newVar, newRow]; rfl) (hptr 0)
      · cases h
    · cases h
  | box t x =>
    rw [hop] at h1
    simp only [makeA, hop] at h
    cases hj : isJunk (r x) with
    | true => rw [hj] at h; cases h
    | false =>
      rw [hj] at h
      simp only [Bool.false_eq_true, if_false, Option.some.injEq, Prod.mk.injEq] at h
      obtain ⟨rfl, rfl⟩ := h
      exact gives_cells hR hid hlt (by rw [Cells.ofList_list]; exact ((hr x (by simp [h1, Op.operands])).cells hj)) (by simp [execOp, h1, Instr.box, newVar, newRow]; rfl) (hptr 0)
  | buildSlice t len parts =>
    rw [hop] at h1
    rw [h1] at hr
    simp only [makeA, hop] at h
    split at h
    · rename_i e hu
      split at h
      · rename_i s z hs hz
        split at h
        · rename_i hc
          simp only [Bool.and_eq_true, decide_eq_true_eq, beq_iff_eq] at hc
          obtain ⟨⟨⟨hp, h24⟩, hzs⟩, hs0⟩ := hc
          simp only [Option.map_eq_some_iff, Prod.mk.injEq] at h
          obtain ⟨out, hf, rfl, rfl⟩ := h
          obtain ⟨hl1, hl2⟩ := parts_rel (r := r) (r' := r') (parts := parts) fun p hpp => hr p.2 (by simp only [Op.operands]; exact List.mem_map.2 ⟨p, hpp, rfl⟩)
          by_cases hn : len * s = 0
          · have hzero : LRel σ ρ (zeros z.cells.toList (len * s)) [] := by rw [hn]; exact LRel.nil ρ
            obtain ⟨out', ho', hf'⟩ := fill_sound (place' := fun i => some (i * s, s)) hzero (fun i p hp => hp) hl1 hl2 hf
            refine gives_cells (t := e) hR hid hlt (by rw [Cells.ofList_list]; exact ho') ?_ (hsl len len (Nat.le_refl _))
            have hn' : ¬ 2 ^ 24 < len * s := by omega
            have e0 : ((Array.range (len * s)).map fun x => (#[] : Array Value)[x % (#[] : Array Value).size]!) = #[] := by rw [hn]; simp
            rw [show ([] : List Value).toArray = #[] from rfl] at hf'
            simp only [execOp, h1, Instr.buildSlice, Sem.run_bind, und_run hu, sz_run hs, Result.andThen_ok, if_pos hn, if_neg hn', Sem.run_pure, gt_iff_lt]
            rw [e0, hf']
            simp [newRow]
          · have hzero := zeros_rel (σ := σ) (ρ := ρ) (n := len * s) hp hzs hs0
            obtain ⟨out', ho', hf'⟩ := fill_sound (place' := fun i => some (i * s, s)) hzero (fun i p hp => hp) hl1 hl2 hf
            refine gives_cells (t := e) hR hid hlt (by rw [Cells.ofList_list]; exact ho') ?_ (hsl len len (Nat.le_refl _))
            have hn' : ¬ 2 ^ 24 < len * s := by omega
            rw [Array.toArray_toList] at hf'
            simp only [execOp, h1, Instr.buildSlice, Sem.run_bind, und_run hu, sz_run hs, Result.andThen_ok, if_neg hn, if_neg hn', zero_run hz, Sem.run_pure, gt_iff_lt]
            rw [hf']
            simp [newRow]
        · cases h
      · cases h
    · cases h
  | makeMap t hint =>
    rw [hop] at h1
    have hmap : ORel σ (upd ρ id (w.heap.size, 0, 0)) (w.alloc (.map #[] 0)) (w.heap.size, 0, 0) (.map [] true) := by
      refine ⟨#[], 0, ?_, MapKept.stamped_empty 0, rfl, fun i e he => by simp at he⟩
      show (w.heap.push _)[w.heap.size]? = _
      simp
    have hv : VRel σ (upd ρ id (w.heap.size, 0, 0)) (.map (some id)) (.map (some w.heap.size)) := .map (upd_same ρ id (w.heap.size, 0, 0))
    simp only [makeA, hop] at h
    cases hint with
    | none =>
      simp only [Option.some.injEq, Prod.mk.injEq] at h
      obtain ⟨rfl, rfl⟩ := h
      exact ⟨_, _, _, _, by simp [execOp, h1, Instr.makeMap], .inl rfl, hv, Post.make hR hid hlt rfl hmap, old_upd⟩
    | some x =>
      simp only at h
      split at h
      · rename_i k e q n hu hx
        simp only [Option.some.injEq, Prod.mk.injEq] at h
        obtain ⟨rfl, rfl⟩ := h
        have hxr := hr x (by simp [h1, Op.operands])
        rw [hx] at hxr
        have hxx := hxr.int_inv
        exact ⟨_, _, _, _, by simp [execOp, h1, Instr.makeMap, und_run hu, hxx, asInt, asIntOf], .inl rfl, hv, Post.make hR hid hlt rfl hmap, old_upd⟩
      · cases h
  | range t x =>
    rw [hop] at h1
    simp only [makeA, hop] at h
    split at h
    · rename_i s hu hx
      simp only [Option.some.injEq, Prod.mk.injEq] at h
      obtain ⟨rfl, rfl⟩ := h
      have hxr := hr x (by simp [h1, Op.operands])
      rw [hx] at hxr
      have hxx := hxr.string_inv
      have hit : ORel σ (upd ρ id (w.heap.size, 0, 0)) (w.alloc (.stringIter s 0)) (w.heap.size, 0, 0) (.strIter s 0) := by
        refine ⟨?_, rfl⟩
        show (w.heap.push _)[w.heap.size]? = _
        simp
      exact ⟨_, _, _, _, by simp [execOp, h1, Instr.range, und_run hu, hxx], .inl rfl, hptr 0, Post.make hR hid hlt rfl hit, old_upd⟩
    · cases h
  | makeSlice t l c =>
    rw [hop] at h1
    simp only [makeA, hop] at h
    split at h
    · rename_i e n k hu hl hc
      split at h
      · rename_i i z hi hz
        split at h
        · rename_i hcond
          simp only [Bool.and_eq_true, decide_eq_true_eq, beq_iff_eq] at hcond
          obtain ⟨⟨⟨⟨⟨⟨hp, hn0⟩, hnk⟩, hk40⟩, hbytes⟩, hzs⟩, hs0⟩ := hcond
          simp only [Option.some.injEq, Prod.mk.injEq] at h
          obtain ⟨rfl, rfl⟩ := h
          have hlr := hr l (by simp [h1, Op.operands])
          have hcr := hr c (by simp [h1, Op.operands])
          rw [hl] at hlr
          rw [hc] at hcr
          have hll := hlr.int_inv
          have hcc := hcr.int_inv
          have hw1 : IntKind.i64.wrap n = n := IntWalk.i64_in _ ⟨by omega, by omega⟩
          have hw2 : IntKind.i64.wrap k = k := IntWalk.i64_in _ ⟨by omega, by omega⟩
          have hsz : (sizeOf e).run P w = .ok i.size w := by simp [sizeOf, info_run hi]
          have ht : ((k < 0 || (i.bytes : Int) * k > 2 ^ 48) || n < 0 || n > k) = false := by
            simp only [Bool.or_eq_false_iff, decide_eq_false_iff_not]
            exact ⟨⟨⟨by omega, by omega⟩, by omega⟩, by omega⟩
          refine gives_cells (t := e) hR hid hlt (by rw [Cells.fill_list]; exact zeros_rel (σ := σ) (ρ := ρ) (n := k.toNat * i.size) hp hzs hs0) ?_ (hsl n.toNat k.toNat (by omega))
          by_cases hn : k.toNat * i.size = 0
          · have e0 : ((Array.range (k.toNat * i.size)).map (z.cells[· % z.cells.size]!)) = #[] := by rw [hn]; simp
            have e1 : ((Array.range 0).map fun x => (#[] : Array Value)[x % (#[] : Array Value).size]!) = #[] := by simp
            rw [e0]
            simp only [execOp, h1, Instr.makeSlice, Sem.run_bind, und_run hu, Result.andThen_ok, hll, hcc, asInt, asIntOf, Sem.run_pure, info_run hi, hw1, hw2, ht, Bool.false_eq_true, ↓reduceIte, run_askRoom, hsz, hn, newRow]
            rw [e1]
            simp
          · simp only [execOp, h1, Instr.makeSlice, Sem.run_bind, und_run hu, Result.andThen_ok, hll, hcc, asInt, asIntOf, Sem.run_pure, info_run hi, hw1, hw2, ht, Bool.false_eq_true, ↓reduceIte, run_askRoom, hsz, if_neg hn, zero_run hz, newRow]
            simp
        · cases h
      · cases h
    · cases h
  | _ => simp [makeA, hop] at h

end Go.Ab
