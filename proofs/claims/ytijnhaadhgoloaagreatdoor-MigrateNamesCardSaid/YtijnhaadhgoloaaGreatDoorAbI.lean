/- An interpreter of our own: its effects on memory. -/
import Derived.Test.YtijnhaadhgoloaaGreatDoorAbH
import Derived.Laws.Append
namespace Go.Ab
variable {σ : Sig} {P : Program} {ρ : Rho} {r r' : Operand → Value}

/-! ### one block of the world turns -/
structure Turned (w w' : World) (k : Nat) (o : Obj) : Prop where
  at_ : w'.heap[k]? = some o
  far : ∀ j, j ≠ k → w'.heap[j]? = w.heap[j]?
  size : w'.heap.size = w.heap.size
  os : w'.os = w.os
  tape : w'.tape = w.tape
  output : w'.output = w.output

theorem Turned.refl {w : World} {k : Nat} {o : Obj} (h : w.heap[k]? = some o) : Turned w w k o := ⟨h, fun _ _ => rfl, rfl, rfl, rfl, rfl⟩

theorem setCell_turned {w : World} {b off : Nat} {ca : Array Value} {t : TypeId} {fz : Nat × Nat} (h : w.heap[b]? = some (.cells ca t fz)) (v : Value) :
    Turned w (w.setCell ⟨b, off, none⟩ v) b (.cells (ca.setIfInBounds off v) t fz) := by
  refine ⟨?_, fun j hj => ?_, by simp, rfl, rfl, rfl⟩
  · simp [World.setCell, Array.getElem?_modify, h]
  · simp only [World.setCell, Array.getElem?_modify]
    rw [if_neg (fun e => hj e.symm)]

theorem store_one {w : World} {b off : Nat} {ca : Array Value} {t : TypeId} (h : w.heap[b]? = some (.cells ca t (0, 0))) (ho : off < ca.size) {v : Value} (hv : oneCell v = true) :
    (store ⟨b, off, none⟩ v).run P w = .ok () (w.setCell ⟨b, off, none⟩ v) := by
  have hc : w.cell? ⟨b, off, none⟩ = some ca[off] := by simp [World.cell?, h, ho]
  have hf : w.frozen? ⟨b, off, none⟩ = false := by simp [World.frozen?, h]
  cases v <;> first | (simp [oneCell] at hv; done) | simp [store, Sem.run, hc, hf]

theorem storeCells_run {b off : Nat} {t : TypeId} : ∀ (vs : List Value) (i : Nat) (w : World) (ca : Array Value), w.heap[b]? = some (.cells ca t (0, 0)) → off + i + vs.length ≤ ca.size → vs.all oneCell = true →
    ∃ w' ca', (storeCells ⟨b, off, none⟩ vs i).run P w = .ok () w' ∧ Turned w w' b (.cells ca' t (0, 0)) ∧ ca'.toList = splice ca.toList (off + i) vs := by
  intro vs
  induction vs with
  | nil => intro i w ca h _ _; exact ⟨w, ca, by simp [storeCells], .refl h, by simp [splice]⟩
  | cons v vs ih =>
    intro i w ca h hlen hall
    simp only [List.length_cons] at hlen
    simp only [List.all_cons, Bool.and_eq_true] at hall
    have ht := setCell_turned (off := off + i) h v
    obtain ⟨w', ca', h1, h2, h3⟩ := ih (i + 1) (w.setCell ⟨b, off + i, none⟩ v) _ ht.at_ (by simp; omega) hall.2
    refine ⟨w', ca', ?_, ⟨h2.at_, fun j hj => (h2.far j hj).trans (ht.far j hj), h2.size.trans ht.size, h2.os.trans ht.os, h2.tape.trans ht.tape, h2.output.trans ht.output⟩, ?_⟩
    · have hs := store_one (P := P) h (off := off + i) (by omega) hall.1
      simp only [storeCells, addr_add ⟨b, off, none⟩ rfl, Sem.run_bind, hs, Result.andThen_ok]
      exact h1
    · rw [h3, Array.toList_setIfInBounds]
      exact splice_cons ca.toList (off + i) v vs (by simp; omega)

/-- The object of one abstract block turns in place. -/
theorem Post.turn {m : Mem} {w w' : World} (hR : Rel σ ρ m w) {b : Nat} {ob ob' : AObj} {x : Nat × Nat × Nat} {o : Obj} (hm : m.get b = some ob) (hρ : ρ b = some x) (hw : wr ob = true)
    (ht : Turned w w' x.1 o) (hob : ORel σ ρ w' x ob') : Post σ ρ m w ρ (m.put b ob') w' := by
  refine ⟨⟨fun c hc => hR.dom c hc, hR.glob, fun c oc y hc hy => ?_, fun b1 b2 o1 o2 x1 x2 hne h1 h2 g1 g2 hww => ?_, fun c hc => by
    rw [Mem.get_put, if_neg (fun e => by rw [e] at hc; rw [hR.fresh b hc] at hm; cases hm)]; exact hR.fresh c hc⟩, Ext.refl ρ, Nat.le_refl _, Nat.le_of_eq ht.size.symm, ht.os, ht.tape, ht.output, fun k _ hf => ?_, fun c oc y hc hy hlt => ?_⟩
  · rw [Mem.get_put] at hc
    by_cases e : c = b
    · subst e
      rw [if_pos rfl] at hc
      cases hc
      rw [hρ] at hy
      cases hy
      exact hob
    · rw [if_neg e] at hc
      refine (hR.obj c oc y hc hy).keep (Ext.refl ρ) (ht.far _ ?_)
      exact fun e' => hR.inj b c ob oc x y (fun e'' => e e''.symm) hm hc hρ hy hw e'.symm
  · have key : ∀ {c oc y}, (m.put b ob').get c = some oc → ρ c = some y → ∃ oc', m.get c = some oc' ∧ (wr oc = true → wr oc' = true) := fun {c oc y} hc _ => by
      rw [Mem.get_put] at hc
      by_cases e : c = b
      · subst e; exact ⟨ob, hm, fun _ => hw⟩
      · rw [if_neg e] at hc; exact ⟨oc, hc, id⟩
    obtain ⟨o1', k1, k2⟩ := key h1 g1
    obtain ⟨o2', k3, _⟩ := key h2 g2
    exact hR.inj b1 b2 o1' o2' x1 x2 hne k1 k3 g1 g2 (k2 hww)
  · exact ht.far k (fun e => hf b ob x hm hw hρ e.symm)
  · rw [Mem.get_put] at hc
    by_cases e : c = b
    · subst e
      exact ⟨c, ob, y, hm, hy, rfl, fun _ => hw⟩
    · rw [if_neg e] at hc
      exact ⟨c, oc, y, hc, hy, rfl, id⟩

theorem three {A B D : List Value} {n i : Nat} (h : A.length = n) : (A ++ B ++ D)[i]? = if i < n then A[i]? else if i < n + B.length then B[i - n]? else D[i - (n + B.length)]? := by
  by_cases c1 : i < n
  · rw [if_pos c1, List.append_assoc, List.getElem?_append_left (by omega)]
  · rw [if_neg c1]
    by_cases c2 : i < n + B.length
    · rw [if_pos c2, List.append_assoc, List.getElem?_append_right (by omega), List.getElem?_append_left (by omega), h]
    · rw [if_neg c2, List.getElem?_append_right (by rw [List.length_append]; omega), List.length_append, h]

theorem all_one {new new' : List Value} (hn : LRel σ ρ new new') (hall : new.all oneCell = true) : new'.all oneCell = true := by
  rw [List.all_eq_true] at hall ⊢
  intro v hv
  obtain ⟨i, hi⟩ := List.getElem?_of_mem hv
  have hlt : i < new.length := by rw [hn.1]; exact (List.getElem?_eq_some_iff.1 hi).1
  obtain ⟨v', g1, g2⟩ := hn.get? (List.getElem?_eq_getElem hlt)
  rw [hi] at g1
  cases g1
  exact g2.oneCell (hall _ (List.getElem_mem hlt))

/-- A store into the cells of a block. -/
theorem cells_write {m : Mem} {w : World} (hR : Rel σ ρ m w) {b o : Nat} {c : Cells} {sz : Nat} {x : Nat × Nat × Nat} {new new' : List Value} (hm : m.get b = some (.cells c true sz)) (hρ : ρ b = some x)
    (hn : LRel σ ρ new new') (hb : o + new.length ≤ c.n) (hall : new.all oneCell = true) :
    ∃ w', (storeCells ⟨x.1, x.2.1 + o, none⟩ new').run P w = .ok () w' ∧ Post σ ρ m w ρ (m.put b (.cells (c.write o new) true sz)) w' := by
  have hbc := hb
  rw [← c.list_length] at hb
  obtain ⟨ca, t, fz, h1, h2, h3, h4⟩ := (hR.obj b _ _ hm hρ : CellsRel σ ρ w x c.list true sz)
  suffices hob : ∀ (w' : World) (ca' : Array Value), Turned w w' x.1 (.cells ca' t (0, 0)) → ca'.toList = splice ca.toList (x.2.1 + o) new' → CellsRel σ ρ w' x (splice c.list o new) true sz by
    obtain ⟨w', ca', g1, g2, g3⟩ := storeCells_run (P := P) (off := x.2.1 + o) new' 0 w ca (by rw [h3.1 rfl] at h1; exact h1) (by have := hn.1; omega) (all_one hn hall)
    rw [Nat.add_zero] at g3
    exact ⟨w', g1, Post.turn hR hm hρ rfl g2 (show CellsRel σ ρ w' x (c.write o new).list true sz from (Cells.write_list hbc).symm ▸ hob w' ca' g2 g3)⟩
  generalize c.list = cs at hb h2 h4
  intro w' ca' g2 g3
  refine ⟨ca', t, (0, 0), g2.at_, ?_, ⟨fun _ => rfl, h3.2⟩, fun i hi => ?_⟩
  · have hl : ca'.size = ca.size := by
      rw [← Array.length_toList, g3]
      have := hn.1
      simp [splice]
      omega
    have : (splice cs o new).length = cs.length := by simp [splice]; omega
    omega
  · have hl : (splice cs o new).length = cs.length := by simp [splice]; omega
    rw [getD_toList, g3]
    have hsub : LRel σ ρ cs ((ca.toList.drop x.2.1).take cs.length) := ⟨by simp; omega, fun j hj => by
      have := h4 j hj
      rw [getD_toList] at this
      rw [List.getD_eq_getElem?_getD (l := List.take _ _), List.getElem?_take_of_lt hj, List.getElem?_drop, ← List.getD_eq_getElem?_getD]
      exact this⟩
    have hsp := (splice_rel hsub hn o).2 i hi
    have hlen' := hn.1
    have e : (splice (List.take cs.length (List.drop x.2.1 ca.toList)) o new').getD i undef = (splice ca.toList (x.2.1 + o) new').getD (x.2.1 + i) undef := by
      have hi' : i < cs.length := by omega
      have hcs : ca.toList.length = ca.size := by simp
      unfold splice
      rw [List.getD_eq_getElem?_getD, List.getD_eq_getElem?_getD]
      congr 1
      rw [three (n := o) (by rw [List.length_take, List.length_take, List.length_drop]; omega), three (n := x.2.1 + o) (by rw [List.length_take]; omega)]
      by_cases c1 : i < o
      · rw [if_pos c1, if_pos (by omega), List.getElem?_take_of_lt c1, List.getElem?_take_of_lt hi', List.getElem?_take_of_lt (by omega), List.getElem?_drop]
      · by_cases c2 : i < o + new'.length
        · rw [if_neg c1, if_pos c2, if_neg (by omega), if_pos (by omega)]
          congr 1
          omega
        · rw [if_neg c1, if_neg c2, if_neg (by omega), if_neg (by omega), List.getElem?_drop, List.getElem?_drop, List.getElem?_take_of_lt (by omega), List.getElem?_drop]
          congr 1
          omega
    rw [← e]
    exact hsp

theorem store_sound {t : TypeId} {a a' v v' : Value} {m m' : Mem} {w : World} (hR : Rel σ ρ m w) (ha : VRel σ ρ a a') (hv : VRel σ ρ v v') (h : storeA P t a v m = some m') :
    ∃ w', (Instr.storeAt t a' v').run P w = .ok () w' ∧ Post σ ρ m w ρ m' w' := by
  unfold storeA at h
  split at h
  · rename_i b o
    obtain ⟨b', off, sl, hρ, rfl⟩ := ha.ptr_inv
    split at h
    · rename_i cs sz hm
      split at h
      · cases h
      · rename_i n hs
        split at h
        · rename_i hc
          obtain ⟨h1, h2, h3⟩ := hc
          simp only [Option.some.injEq] at h
          subst h
          have hcl := hv.cells (noJunk_of h3)
          have hsz : v'.cells.size = n := by have := hcl.1; simp at this; omega
          obtain ⟨w', g1, g2⟩ := cells_write (P := P) (o := o) hR hm hρ hcl (by simp; omega) h3
          simp only at g1
          exact ⟨w', by simp [Instr.storeAt, Instr.sureAddr, storeVar, sz_run hs, hsz, g1], g2⟩
        · cases h
    · cases h
  · cases h

/-! ### maps -/
theorem setMap_sound {kd : TypeDesc} {x v v' : Value} {clock : Nat} : ∀ {es out : List (Value × Value)} {es' : List MapEntry}, ERel σ ρ es es' → VRel σ ρ x x → VRel σ ρ v v' → setMapA kd x v es = some out →
    (Instr.findNow kd x es' 0 = some none ∧ ERel σ ρ out (es' ++ [{ key := x, val := v', born := clock }])) ∨
    (∃ i u e, Instr.findNow kd x es' 0 = some (some (i, u)) ∧ es'[i]? = some e ∧ Instr.sameNow kd x e.key = some true ∧ ERel σ ρ out (es'.modify i fun e => { e with key := x, val := v' })) := by
  have key : ∀ {es out : List (Value × Value)} {es' : List MapEntry} (n : Nat), ERel σ ρ es es' → VRel σ ρ x x → VRel σ ρ v v' → setMapA kd x v es = some out →
      (Instr.findNow kd x es' n = some none ∧ ERel σ ρ out (es' ++ [{ key := x, val := v', born := clock }])) ∨
      (∃ i u e, Instr.findNow kd x es' n = some (some (n + i, u)) ∧ es'[i]? = some e ∧ Instr.sameNow kd x e.key = some true ∧ ERel σ ρ out (es'.modify i fun e => { e with key := x, val := v' })) := by
    intro es
    induction es with
    | nil =>
      intro out es' n he hx hv h
      rw [he.nil_inv]
      simp only [setMapA, Option.some.injEq] at h
      subst h
      exact .inl ⟨rfl, ERel.cons hx hv ERel.nil⟩
    | cons e es ih =>
      intro out es' n he hx hv h
      obtain ⟨e', l, rfl, h1, h2, h3⟩ := he.cons_inv
      obtain ⟨y, u⟩ := e
      simp only [setMapA] at h
      cases hs : Instr.sameNow kd x y with
      | none => rw [hs] at h; cases h
      | some b =>
        rw [hs] at h
        have hs' := sameNow_rel h1 hs
        cases b with
        | true =>
          simp only [Option.some.injEq] at h
          subst h
          exact .inr ⟨0, e'.val, e', by simp [Instr.findNow, hs'], by simp, hs', by simpa using ERel.cons (e := (x, v)) (e' := { e' with key := x, val := v' }) hx hv h3⟩
        | false =>
          simp only [Option.map_eq_some_iff] at h
          obtain ⟨out', h, rfl⟩ := h
          rcases ih (n + 1) h3 hx hv h with ⟨g1, g2⟩ | ⟨i, u', e'', g1, g2, g3, g4⟩
          · exact .inl ⟨by simp [Instr.findNow, hs', g1], ERel.cons h1 h2 g2⟩
          · exact .inr ⟨i + 1, u', e'', by simp only [Instr.findNow, hs', g1]; congr 3; omega, by simpa using g2, g3, by simpa using ERel.cons (e := (y, u)) h1 h2 g4⟩
  intro es out es' he hx hv h
  simpa using key 0 he hx hv h

theorem delMap_sound {kd : TypeDesc} {x : Value} : ∀ {es out : List (Value × Value)} {es' : List MapEntry}, ERel σ ρ es es' → delMapA kd x es = some out →
    (Instr.findNow kd x es' 0 = some none ∧ ERel σ ρ out es') ∨ (∃ i u, Instr.findNow kd x es' 0 = some (some (i, u)) ∧ ERel σ ρ out (es'.eraseIdx i)) := by
  have key : ∀ {es out : List (Value × Value)} {es' : List MapEntry} (n : Nat), ERel σ ρ es es' → delMapA kd x es = some out →
      (Instr.findNow kd x es' n = some none ∧ ERel σ ρ out es') ∨ (∃ i u, Instr.findNow kd x es' n = some (some (n + i, u)) ∧ ERel σ ρ out (es'.eraseIdx i)) := by
    intro es
    induction es with
    | nil =>
      intro out es' n he h
      rw [he.nil_inv]
      simp only [delMapA, Option.some.injEq] at h
      subst h
      exact .inl ⟨rfl, ERel.nil⟩
    | cons e es ih =>
      intro out es' n he h
      obtain ⟨e', l, rfl, h1, h2, h3⟩ := he.cons_inv
      obtain ⟨y, u⟩ := e
      simp only [delMapA] at h
      cases hs : Instr.sameNow kd x y with
      | none => rw [hs] at h; cases h
      | some b =>
        rw [hs] at h
        have hs' := sameNow_rel h1 hs
        cases b with
        | true =>
          simp only [Option.some.injEq] at h
          subst h
          exact .inr ⟨0, e'.val, by simp [Instr.findNow, hs'], by simpa using h3⟩
        | false =>
          simp only [Option.map_eq_some_iff] at h
          obtain ⟨out', h, rfl⟩ := h
          rcases ih (n + 1) h3 h with ⟨g1, g2⟩ | ⟨i, u', g1, g2⟩
          · exact .inl ⟨by simp [Instr.findNow, hs', g1], ERel.cons h1 h2 g2⟩
          · exact .inr ⟨i + 1, u', by simp only [Instr.findNow, hs', g1]; congr 3; omega, by simpa using ERel.cons (e := (y, u)) h1 h2 g2⟩
  intro es out es' he h
  simpa using key 0 he h

theorem putObj_turned {w : World} {k : Nat} {o o' : Obj} (h : w.heap[k]? = some o) : Turned w (w.putObj k o') k o' :=
  ⟨World.putObj_heap_same (Array.getElem?_eq_some_iff.1 h).1, fun _ hj => World.putObj_heap_other hj, World.putObj_size, rfl, rfl, rfl⟩

theorem ba_eq {s t : ByteArray} (h : (s == t) = true) : s = t := by
  cases s with
  | mk a => cases t with
    | mk b =>
      have h' : (a == b) = true := h
      rw [eq_of_beq h']
theorem ba_refl (s : ByteArray) : (s == s) = true := by
  cases s with
  | mk a =>
    show (a == a) = true
    exact beq_self_eq_true a

theorem sameNow_bits {kd : TypeDesc} {x y : Value} (h : Instr.sameNow kd x y = some true) : Instr.sameBits 10000 y x = true := by
  cases kd <;> cases x <;> cases y <;> simp [Instr.sameNow] at h
  · subst h; simp [Instr.sameBits]
  · obtain ⟨rfl, h⟩ := h; subst h; simp [Instr.sameBits]
  · have e := ba_eq h; subst e; simp [Instr.sameBits, ba_refl]

theorem sameNow_eq {kd : TypeDesc} {x y : Value} (h : Instr.sameNow kd x y = some true) : x = y := by
  cases kd <;> cases x <;> cases y <;> simp [Instr.sameNow] at h
  · subst h; rfl
  · obtain ⟨rfl, h⟩ := h; subst h; rfl
  · rw [ba_eq h]
theorem sameNow_ne {kd : TypeDesc} {x y : Value} (h : Instr.sameNow kd x y = some false) : y ≠ x := by
  rintro rfl
  cases kd <;> cases y <;> simp [Instr.sameNow] at h
  rename_i s
  exact absurd (ba_refl s) (by rw [h]; simp)
theorem notFound {kd : TypeDesc} {x : Value} {es : List MapEntry} (h : Instr.findNow kd x es 0 = some none) : ∀ e ∈ es, e.key ≠ x := by
  have key : ∀ (es : List MapEntry) (n : Nat), Instr.findNow kd x es n = some none → ∀ e ∈ es, e.key ≠ x := by
    intro es
    induction es with
    | nil => intro n _ e he; cases he
    | cons e es ih =>
      intro n h
      simp only [Instr.findNow] at h
      cases hs : Instr.sameNow kd x e.key with
      | none => rw [hs] at h; cases h
      | some b =>
        rw [hs] at h
        cases b with
        | true => cases h
        | false =>
          intro e' he'
          rcases List.mem_cons.1 he' with rfl | he'
          · exact sameNow_ne hs
          · exact ih _ h e' he'
  exact key es 0 h

theorem map_orel {w w' : World} {x : Nat × Nat × Nat} {es : List (Value × Value)} {es' : Array MapEntry} {clock : Nat} (ht : Turned w w' x.1 (.map es' clock)) (hst : MapKept.Stamped es' clock) (he : ERel σ ρ es es'.toList) (rw_ : Bool) : ORel σ ρ w' x (.map es rw_) :=
  ⟨es', clock, ht.at_, hst, by simpa using he.1, fun i e hi => by simpa using he.2 i e hi⟩

/-! ### keys that are structs -/
theorem atQ_eq {a b : Value} (h : atQ a b = true) : a = b := by
  unfold atQ at h
  split at h
  · simp only [Bool.and_eq_true, beq_iff_eq] at h; rw [h.1, h.2]
  · rw [beq_iff_eq.1 h]
  · rw [ba_eq h]
  · cases h
theorem atsQ_eq : ∀ {l k : List Value}, atsQ l k = true → l = k
  | [], [], _ => rfl
  | [], _ :: _, h => by cases h
  | _ :: _, [], h => by cases h
  | a :: l, b :: k, h => by
    simp only [atsQ, Bool.and_eq_true] at h
    rw [atQ_eq h.1, atsQ_eq h.2]
theorem keyQ_eq {a b : Value} (h : keyQ a b = true) : a = b := by
  unfold keyQ at h
  split at h
  · rename_i x y
    have := atsQ_eq h
    rw [Array.toList_inj.1 this]
  · cases h
theorem setS_sound {k : TypeId} {x v v' : Value} {clock : Nat} (w : World) : ∀ {es out : List (Value × Value)} {es' : List MapEntry} (n : Nat), ERel σ ρ es es' → VRel σ ρ x x → VRel σ ρ v v' → setS P k x v es = some out →
      ((Instr.findAsking k x es' n).run P w = .ok none w ∧ (∀ e ∈ es', e.key ≠ x) ∧ ERel σ ρ out (es' ++ [{ key := x, val := v', born := clock }])) ∨
      (∃ i u e, (Instr.findAsking k x es' n).run P w = .ok (some (n + i, u)) w ∧ es'[i]? = some e ∧ x = e.key ∧ Instr.sameBits 10000 e.key x = true ∧ ERel σ ρ out (es'.modify i fun e => { e with key := x, val := v' })) := by
  intro es
  induction es with
  | nil =>
    intro out es' n he hx hv h
    rw [he.nil_inv]
    simp only [setS, Option.some.injEq] at h
    subst h
    exact .inl ⟨rfl, by simp, ERel.cons hx hv ERel.nil⟩
  | cons e es ih =>
    intro out es' n he hx hv h
    obtain ⟨e', l, rfl, h1, h2, h3⟩ := he.cons_inv
    obtain ⟨y, u⟩ := e
    simp only [setS] at h
    cases hs : sameS P k x y with
    | none => rw [hs] at h; cases h
    | some b =>
      rw [hs] at h
      unfold sameS at hs
      split at hs
      · rename_i hp
        obtain rfl := plain_eq hp h1
        have hr := runP_run _ hs w
        cases b with
        | true =>
          simp only at h
          split at h
          · rename_i hq
            simp only [Bool.and_eq_true] at hq
            simp only [Option.some.injEq] at h
            subst h
            exact .inr ⟨0, e'.val, e', by simp [Instr.findAsking, hr], by simp, (keyQ_eq hq.1).symm, hq.2, by simpa using ERel.cons (e := (x, v)) (e' := { e' with key := x, val := v' }) hx hv h3⟩
          · cases h
        | false =>
          simp only at h
          split at h
          · rename_i hq
            simp only [Bool.and_eq_true, Bool.not_eq_true'] at hq
            simp only [Option.map_eq_some_iff] at h
            obtain ⟨out', h, rfl⟩ := h
            rcases ih (n + 1) h3 hx hv h with ⟨g1, g0, g2⟩ | ⟨i, u', e'', g1, g2, g3, g5, g4⟩
            · refine .inl ⟨by simp [Instr.findAsking, hr, g1], fun e he => ?_, ERel.cons h1 h2 g2⟩
              rcases List.mem_cons.1 he with rfl | he
              · intro e2; rw [e2, hq.1] at hq; exact absurd hq.2 (by simp)
              · exact g0 e he
            · exact .inr ⟨i + 1, u', e'', by simp [Instr.findAsking, hr, g1]; omega, by simpa using g2, g3, g5, by simpa using ERel.cons (e := (e'.key, u)) h1 h2 g4⟩
          · cases h
      · cases hs
theorem delS_sound {k : TypeId} {x : Value} (w : World) : ∀ {es out : List (Value × Value)} {es' : List MapEntry} (n : Nat), ERel σ ρ es es' → delS P k x es = some out →
      ((Instr.findAsking k x es' n).run P w = .ok none w ∧ ERel σ ρ out es') ∨ (∃ i u, (Instr.findAsking k x es' n).run P w = .ok (some (n + i, u)) w ∧ ERel σ ρ out (es'.eraseIdx i)) := by
  intro es
  induction es with
  | nil =>
    intro out es' n he h
    rw [he.nil_inv]
    simp only [delS, Option.some.injEq] at h
    subst h
    exact .inl ⟨rfl, ERel.nil⟩
  | cons e es ih =>
    intro out es' n he h
    obtain ⟨e', l, rfl, h1, h2, h3⟩ := he.cons_inv
    obtain ⟨y, u⟩ := e
    simp only [delS] at h
    cases hs : sameS P k x y with
    | none => rw [hs] at h; cases h
    | some b =>
      rw [hs] at h
      unfold sameS at hs
      split at hs
      · rename_i hp
        obtain rfl := plain_eq hp h1
        have hr := runP_run _ hs w
        cases b with
        | true =>
          simp only [Option.some.injEq] at h
          subst h
          exact .inr ⟨0, e'.val, by simp [Instr.findAsking, hr], by simpa using h3⟩
        | false =>
          simp only [Option.map_eq_some_iff] at h
          obtain ⟨out', h, rfl⟩ := h
          rcases ih (n + 1) h3 h with ⟨g1, g2⟩ | ⟨i, u', g1, g2⟩
          · exact .inl ⟨by simp [Instr.findAsking, hr, g1], ERel.cons h1 h2 g2⟩
          · exact .inr ⟨i + 1, u', by simp [Instr.findAsking, hr, g1]; omega, by simpa using ERel.cons (e := (e'.key, u)) h1 h2 g2⟩
      · cases hs

theorem mapSet_sound {t : TypeId} {mp mp' k k' v v' : Value} {m m' : Mem} {w : World} (hR : Rel σ ρ m w) (hm : VRel σ ρ mp mp') (hk : VRel σ ρ k k') (hv : VRel σ ρ v v') (h : mapSetA P t mp k v m = some m') :
    ∃ w', (Instr.mapUpdate t mp' k' v').run P w = .ok () w' ∧ Post σ ρ m w ρ m' w' := by
  unfold mapSetA at h
  split at h
  · rename_i kt et b hu
    split at h
    · rename_i es kd hmb hkd
      simp only [Option.map_eq_some_iff] at h
      obtain ⟨out, hs, rfl⟩ := h
      obtain ⟨hku, hkx, hck⟩ := keyKind_inv (ρ := ρ) hkd
      obtain rfl := hkx k' hk
      cases hm with
      | map hρ =>
        rename_i b' off sl
        obtain ⟨es', clock, g0, he, hst⟩ := map_obj' hR hmb hρ
        simp only at g0
        have hget : (getObj b').run P w = .ok (.map es' clock) w := by simp [getObj, Sem.run, g0]
        have hset : ∀ o', (setObj b' o').run P w = .ok () (w.putObj b' o') := fun o' => by simp [setObj, Sem.run, g0, World.putObj]
        rcases setMap_sound (clock := clock) he hk hv hs with ⟨g1, g2⟩ | ⟨i, u, e, g1, g2, g3, g4⟩
        · have ht := putObj_turned (o' := .map (es'.push { key := k', val := v', born := clock }) (clock + 1)) g0
          refine ⟨_, ?_, Post.turn hR hmb hρ rfl ht (map_orel (x := (b', off, sl)) ht (MapKept.stamped_push hst (notFound g1)) (by simpa using g2) true)⟩
          simp [Instr.mapUpdate, und_run hu, hget, hck, findKey_run hku g1, hset]
        · have ht := putObj_turned (o' := .map (es'.modify i fun e => { e with key := k', val := v' }) clock) g0
          refine ⟨_, ?_, Post.turn hR hmb hρ rfl ht (map_orel (x := (b', off, sl)) ht (MapKept.stamped_modify hst i _ (fun _ _ => rfl) fun e0 _ he0 => by
            have : e0 = e := by
              have h1 : es'.toList[i]? = some e0 := by simpa using he0
              rw [h1] at g2; exact Option.some.inj g2
            subst this; exact sameNow_eq g3) (by simpa using g4) true)⟩
          have hb := sameNow_bits g3
          have g2' : es'[i]? = some e := by simpa using g2
          have hkeep : ∀ o, (Instr.keyThatStays e.key k').run P o = .ok k' o := fun o => by simp [Instr.keyThatStays, hb]
          simp [Instr.mapUpdate, und_run hu, hget, hck, findKey_run hku g1, g2', hkeep, hset]
    · rename_i es hmb hkd
      split at h
      · rename_i hks
        simp only [Option.map_eq_some_iff] at h
        obtain ⟨out, hs, rfl⟩ := h
        obtain ⟨⟨fs, hku⟩, hkx, hck⟩ := keyS_inv (ρ := ρ) hks
        obtain rfl := hkx k' hk
        cases hm with
        | map hρ =>
          rename_i b' off sl
          obtain ⟨es', clock, g0, he, hst⟩ := map_obj' hR hmb hρ
          simp only at g0
          have hget : (getObj b').run P w = .ok (.map es' clock) w := by simp [getObj, Sem.run, g0]
          have hset : ∀ o', (setObj b' o').run P w = .ok () (w.putObj b' o') := fun o' => by simp [setObj, Sem.run, g0, World.putObj]
          rcases setS_sound (clock := clock) w 0 he hk hv hs with ⟨g1, gn, g2⟩ | ⟨i, u, e, g1, g2, g3, hb, g4⟩
          · have ht := putObj_turned (o' := .map (es'.push { key := k', val := v', born := clock }) (clock + 1)) g0
            refine ⟨_, ?_, Post.turn hR hmb hρ rfl ht (map_orel (x := (b', off, sl)) ht (MapKept.stamped_push hst gn) (by simpa using g2) true)⟩
            simp [Instr.mapUpdate, und_run hu, hget, hck, findKeyS_run hku g1, hset]
          · have ht := putObj_turned (o' := .map (es'.modify i fun e => { e with key := k', val := v' }) clock) g0
            refine ⟨_, ?_, Post.turn hR hmb hρ rfl ht (map_orel (x := (b', off, sl)) ht (MapKept.stamped_modify hst i _ (fun _ _ => rfl) fun e0 _ he0 => by
              have : e0 = e := by
                have h1 : es'.toList[i]? = some e0 := by simpa using he0
                rw [h1] at g2; exact Option.some.inj g2
              subst this; exact g3) (by simpa using g4) true)⟩
            have g2' : es'[i]? = some e := by simpa using g2
            have hkeep : ∀ o, (Instr.keyThatStays e.key k').run P o = .ok k' o := fun o => by simp [Instr.keyThatStays, hb]
            simp [Instr.mapUpdate, und_run hu, hget, hck, findKeyS_run hku g1, g2', hkeep, hset]
      · cases h
    · cases h
  · cases h

theorem delete_sound {at_ : Array TypeId} {ty : TypeId} {mp mp' k k' : Value} {m m' : Mem} {w : World} {args : Array Value} (hR : Rel σ ρ m w) (hm : VRel σ ρ mp mp') (hk : VRel σ ρ k k') (h0 : args[0]? = some mp') (h1 : args[1]? = some k') (h : deleteA P at_ mp k m = some m') :
    ∃ w', (Builtin.delete_ at_ ty args).run P w = .ok (.tuple #[]) w' ∧ Post σ ρ m w ρ m' w' := by
  unfold deleteA at h
  split at h
  · rename_i t hat
    split at h
    · rename_i kt et hu
      simp only [Option.map_eq_some_iff] at h
      obtain ⟨kd, hkd, rfl⟩ := h
      obtain ⟨hku, hkx, hck⟩ := keyKind_inv (ρ := ρ) hkd
      obtain rfl := hkx k' hk
      cases hm
      exact ⟨w, by simp [Builtin.delete_, hat, h0, h1, und_run hu, hck], Post.refl hR⟩
    · rename_i kt et b hu
      split at h
      · rename_i es kd hmb hkd
        simp only [Option.map_eq_some_iff] at h
        obtain ⟨out, hs, rfl⟩ := h
        obtain ⟨hku, hkx, hck⟩ := keyKind_inv (ρ := ρ) hkd
        obtain rfl := hkx k' hk
        cases hm with
        | map hρ =>
          rename_i b' off sl
          obtain ⟨es', clock, g0, he, hst⟩ := map_obj' hR hmb hρ
          simp only at g0
          have hget : (getObj b').run P w = .ok (.map es' clock) w := by simp [getObj, Sem.run, g0]
          have hset : ∀ o', (setObj b' o').run P w = .ok () (w.putObj b' o') := fun o' => by simp [setObj, Sem.run, g0, World.putObj]
          rcases delMap_sound he hs with ⟨g1, g2⟩ | ⟨i, u, g1, g2⟩
          · have ht := putObj_turned (o' := .map es' clock) g0
            refine ⟨_, ?_, Post.turn hR hmb hρ rfl ht (map_orel (x := (b', off, sl)) ht hst g2 true)⟩
            simp [Builtin.delete_, hat, h0, h1, und_run hu, hget, hck, findKey_run hku g1, hset]
          · have ht := putObj_turned (o' := .map (es'.eraseIdxIfInBounds i) clock) g0
            refine ⟨_, ?_, Post.turn hR hmb hρ rfl ht (map_orel (x := (b', off, sl)) ht (MapKept.stamped_erase hst i) (by
              have : (es'.eraseIdxIfInBounds i).toList = es'.toList.eraseIdx i := by
                unfold Array.eraseIdxIfInBounds
                split
                · simp
                · rw [List.eraseIdx_of_length_le (by simp; omega)]
              rw [this]; exact g2) true)⟩
            simp [Builtin.delete_, hat, h0, h1, und_run hu, hget, hck, findKey_run hku g1, hset]
      · rename_i es hmb hkd
        split at h
        · rename_i hks
          simp only [Option.map_eq_some_iff] at h
          obtain ⟨out, hs, rfl⟩ := h
          obtain ⟨⟨fs, hku⟩, hkx, hck⟩ := keyS_inv (ρ := ρ) hks
          obtain rfl := hkx k' hk
          cases hm with
          | map hρ =>
            rename_i b' off sl
            obtain ⟨es', clock, g0, he, hst⟩ := map_obj' hR hmb hρ
            simp only at g0
            have hget : (getObj b').run P w = .ok (.map es' clock) w := by simp [getObj, Sem.run, g0]
            have hset : ∀ o', (setObj b' o').run P w = .ok () (w.putObj b' o') := fun o' => by simp [setObj, Sem.run, g0, World.putObj]
            rcases delS_sound w 0 he hs with ⟨g1, g2⟩ | ⟨i, u, g1, g2⟩
            · have ht := putObj_turned (o' := .map es' clock) g0
              refine ⟨_, ?_, Post.turn hR hmb hρ rfl ht (map_orel (x := (b', off, sl)) ht hst g2 true)⟩
              simp [Builtin.delete_, hat, h0, h1, und_run hu, hget, hck, findKeyS_run hku g1, hset]
            · have ht := putObj_turned (o' := .map (es'.eraseIdxIfInBounds i) clock) g0
              refine ⟨_, ?_, Post.turn hR hmb hρ rfl ht (map_orel (x := (b', off, sl)) ht (MapKept.stamped_erase hst i) (by
                have : (es'.eraseIdxIfInBounds i).toList = es'.toList.eraseIdx i := by
                  unfold Array.eraseIdxIfInBounds
                  split
                  · simp
                  · rw [List.eraseIdx_of_length_le (by simp; omega)]
                rw [this]; exact g2) true)⟩
              simp [Builtin.delete_, hat, h0, h1, und_run hu, hget, hck, findKeyS_run hku g1, hset]
        · cases h
      · cases h
    · cases h
  · cases h

end Go.Ab
