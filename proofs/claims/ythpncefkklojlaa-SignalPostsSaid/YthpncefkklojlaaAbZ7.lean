/- An interpreter of our own: slices of symbolic length that came in: an element as a block of its own; how such a call begins. -/
import Derived.Test.YthpncefkklojlaaAbZ6
namespace Go.Ab
variable {P : Program} {n0 : Nat}

/-- The same symbolic values; what hangs together still does. -/
theorem VRel.turn {σ σ' : Sig} {ρ ρ' : Rho} (hS : ∀ e v, σ.S e v → σ'.S e v) (hT : ∀ j v, σ.T j ρ v → σ'.T j ρ' v) (he : Ext ρ ρ') {v v' : Value} (h : VRel σ ρ v v') : VRel σ' ρ' v v' := by
  induction h with
  | bool b => exact .bool b
  | int k n => exact .int k n
  | float k n => exact .float k n
  | complex k a b => exact .complex k a b
  | string s => exact .string s
  | nilFunc => exact .nilFunc
  | nilIface => exact .nilIface
  | nilMap => exact .nilMap
  | nilPtr => exact .nilPtr
  | nilSlice => exact .nilSlice
  | ptr h => exact .ptr (he _ _ h)
  | slice h hc hn => exact .slice (he _ _ h) hc hn
  | lost a c => exact .lost a c
  | map h => exact .map (he _ _ h)
  | iface t _ ih => exact .iface t ih
  | sym h => exact .sym (hS _ _ h)
  | func hy hm h1 _ h3 _ ih2 ih4 => exact .func hy hm h1 ih2 h3 ih4
  | yield h => exact .yield (he _ _ h)
  | junk => exact .junk
  | tie h => exact .tie (hT _ _ h)
  | agg h1 _ ih => exact .agg h1 ih
  | tuple h1 _ ih => exact .tuple h1 ih
theorem LRel.turn {σ σ' : Sig} {ρ ρ' : Rho} (hS : ∀ e v, σ.S e v → σ'.S e v) (hT : ∀ j v, σ.T j ρ v → σ'.T j ρ' v) (he : Ext ρ ρ') {l l' : List Value} (h : LRel σ ρ l l') : LRel σ' ρ' l l' := ⟨h.1, fun i hi => (h.2 i hi).turn hS hT he⟩
theorem ORel.turn {σ σ' : Sig} {ρ ρ' : Rho} (hS : ∀ e v, σ.S e v → σ'.S e v) (hT : ∀ j v, σ.T j ρ v → σ'.T j ρ' v) (hF : ∀ t C, σ.F t = some C → σ'.F t = some C) (he : Ext ρ ρ') {w : World} {x : Nat × Nat × Nat} {o : AObj} (h : ORel σ ρ w x o) : ORel σ' ρ' w x o := by
  cases o with
  | cells cs rw sz =>
    obtain ⟨cs', t, fz, h1, h2, h3, h4⟩ := h
    exact ⟨cs', t, fz, h1, h2, h3, fun i hi => (h4 i hi).turn hS hT he⟩
  | map es rw =>
    obtain ⟨es', c, h1, hst, h2, h3⟩ := h
    exact ⟨es', c, h1, hst, h2, fun i e hi => let ⟨e', g1, g2, g3⟩ := h3 i e hi; ⟨e', g1, g2.turn hS hT he, g3.turn hS hT he⟩⟩
  | strIter s pos => exact h
  | loop r =>
    obtain ⟨r', h1, h2, h3, h4, h5, h6, h7⟩ := h
    exact ⟨r', h1, h2, h3, h4.turn hS hT he, h5, h6, h7⟩
  | frz tag =>
    obtain ⟨C, cs', t, fz, h1, h2, h3, h4⟩ := h
    exact ⟨C, cs', t, fz, hF _ _ h1, h2, h3, h4⟩

theorem set_at {ts : List Tie} {jt : Nat} {q q' : Tie} (hq : ts[jt]? = some q) (j : Nat) : (ts.set jt q')[j]? = if j = jt then some q' else ts[j]? := by
  have hlt : jt < ts.length := (List.getElem?_eq_some_iff.1 hq).1
  rw [List.getElem?_set]
  by_cases e : jt = j
  · subst e; simp [hlt]
  · rw [if_neg e, if_neg (fun h => e h.symm)]

/-- An element of the slice is looked at as a block of its own. -/
theorem elem_view {ds : List Value} {ts : List Tie} {q : Tie} {jt jv next i : Nat} {bs : Blocks} {t E : List Value} (hd : ∀ d ∈ ds, dataB d = true) (h64 : 64 ≤ next) (hn0 : n0 ≤ next) (hq : ts[jt]? = some q) (hlb : (trB bs).get q.whole = some (.frz jt)) (hjt : t.getD jv undef = .chan (some (jt + 1))) (hi : i < q.L)
    (hsz : 0 < q.sz) (hC : q.cells.length = q.L * q.sz) (hE : E.length = q.sz) (hEp : E.all (plainL ds.length 6) = true) (hEr : ∀ j, j < q.sz → er ds (E.getD j undef) = q.cells.getD (i * q.sz + j) undef) :
    View (sigOf ds ts) (sigOf ds (ts.set jt { q with elems := (next, i) :: q.elems })) n0 none t (memB next bs) t (memB (next + 1) ((next, .cells (.ofList E) false q.sz) :: bs)) := by
  intro ρ w tw l hR ht hl
  have hnone : ρ next = none := hR.dom next (Nat.le_refl _)
  -- where the slice lies
  have hv := ht.at_ jv
  rw [hjt] at hv
  generalize tw.getD jv undef = sv at hv
  have hbase : ∃ k off C sl, sv = .slice (some ⟨k, off, none⟩) q.L C ∧ ρ q.whole = some (k, off, sl) := by
    cases hv with
    | tie h =>
      obtain ⟨q', hq', hn⟩ := h
      rw [hq] at hq'
      cases hq'
      rcases hn with hn | ⟨k, off, C, h1, ⟨sl, h2⟩, _⟩
      · omega
      exact ⟨k, off, C, sl, h1, h2⟩
  obtain ⟨k, off, C, sl, _, hρ⟩ := hbase
  have hne : q.whole ≠ next := fun e => by rw [e, hnone] at hρ; cases hρ
  have he : Ext ρ (upd ρ next (k, off + i * q.sz, 0)) := upd_ext hnone _
  have hT : ∀ j v, (sigOf ds ts).T j ρ v → (sigOf ds (ts.set jt { q with elems := (next, i) :: q.elems })).T j (upd ρ next (k, off + i * q.sz, 0)) v := by
    rintro j v ⟨q', hq', hn⟩
    by_cases e : j = jt
    · subst e
      rw [hq] at hq'
      cases hq'
      rcases hn with hn | ⟨k', off', C', g1, ⟨sl', g2⟩, g3⟩
      · omega
      rw [hρ] at g2
      cases g2
      refine ⟨{ q with elems := (next, i) :: q.elems }, by rw [set_at hq, if_pos rfl], .inr ⟨k, off, C', g1, ⟨sl, he _ _ hρ⟩, fun e hmem => ?_⟩⟩
      rcases List.mem_cons.1 hmem with rfl | hmem
      · exact ⟨hi, 0, upd_same _ _ _⟩
      · exact ⟨(g3 e hmem).1, (g3 e hmem).2.imp fun sl h => he _ _ h⟩
    · rcases hn with hn | ⟨k', off', C', g1, ⟨sl', g2⟩, g3⟩
      · exact ⟨q', by rw [set_at hq, if_neg e]; exact hq', .inl hn⟩
      exact ⟨q', by rw [set_at hq, if_neg e]; exact hq', .inr ⟨k', off', C', g1, ⟨sl', he _ _ g2⟩, fun e hmem => ⟨(g3 e hmem).1, (g3 e hmem).2.imp fun sl h => he _ _ h⟩⟩⟩
  have hF : ∀ t C, (sigOf ds ts).F t = some C → (sigOf ds (ts.set jt { q with elems := (next, i) :: q.elems })).F t = some C := by
    intro t C h
    have h : (ts[t]?).map (·.cells) = some C := h
    show ((ts.set jt _)[t]?).map (·.cells) = some C
    rw [set_at hq]
    by_cases e : t = jt
    · subst e
      rw [hq] at h
      simpa using h
    · rw [if_neg e]
      exact h
  have hS : ∀ e v, (sigOf ds ts).S e v → (sigOf ds (ts.set jt { q with elems := (next, i) :: q.elems })).S e v := fun _ _ h => h
  have hget : ∀ b, (memB (next + 1) ((next, .cells (.ofList E) false q.sz) :: bs)).get b = if b = next then some (.cells (.ofList E) false q.sz) else (memB next bs).get b := fun b => by
    show (trB _).get b = _
    rw [trB, Tr.get_put _ _ _ _ _ (Nat.le_refl _)]
    rfl
  have hlbm : (memB next bs).get q.whole = some (.frz jt) := hlb
  refine ⟨upd ρ next (k, off + i * q.sz, 0), ⟨fun b hb => ?_, fun g hg => ?_, fun b o x hb hx => ?_, fun b1 b2 o1 o2 x1 x2 hne' g1 g2 k1 k2 hww => ?_, fun b hb => ?_⟩, ht.turn hS hT he, ?_, fun b hb => ?_, fun b o x hb hx => ?_⟩
  · have hb : next + 1 ≤ b := hb
    have : b ≠ next := by omega
    simp only [upd, this, if_false]
    exact hR.dom b (by show next ≤ b; omega)
  · have : g ≠ next := by omega
    simp only [upd, this, if_false]
    exact hR.glob g hg
  · rw [hget] at hb
    by_cases e : b = next
    · rw [if_pos e] at hb
      cases hb
      subst e
      rw [upd_same] at hx
      cases hx
      obtain ⟨C, cs', tt, fz, f1, f2, f3, f4⟩ := hR.obj q.whole _ _ hlbm hρ
      have f1 : (ts[jt]?).map (·.cells) = some C := f1
      rw [hq] at f1
      simp only [Option.map_some, Option.some.injEq] at f1
      subst f1
      have hle : i * q.sz + q.sz ≤ q.L * q.sz := by
        rw [← Nat.succ_mul]
        exact Nat.mul_le_mul_right _ hi
      simp only at f3 f4
      refine ⟨cs', tt, fz, f2, ?_, ⟨(fun h => by cases h), (fun h => by omega)⟩, fun j hj => ?_⟩
      · rw [Cells.ofList_list, hE]
        simp only
        omega
      · rw [Cells.ofList_list] at hj ⊢
        simp only
        rw [hE] at hj
        rw [Nat.add_assoc, f4 (i * q.sz + j) (by omega), ← hEr j hj]
        have hmem : E.getD j undef ∈ E := by
          rw [List.getD_eq_getElem?_getD, List.getElem?_eq_getElem (by omega)]
          exact List.getElem_mem _
        exact rel_er hd 6 _ (List.all_eq_true.1 hEp _ hmem)
    · rw [if_neg e] at hb
      have hx' : ρ b = some x := by simpa [upd, e] using hx
      exact (hR.obj b o x hb hx').turn hS hT hF he
  · rw [hget] at g1 g2
    by_cases e1 : b1 = next
    · rw [if_pos e1] at g1
      cases g1
      cases hww
    · rw [if_neg e1] at g1
      have k1' : ρ b1 = some x1 := by simpa [upd, e1] using k1
      by_cases e2 : b2 = next
      · subst e2
        rw [upd_same] at k2
        cases k2
        have hb1 : b1 ≠ q.whole := fun e => by subst e; rw [hlbm] at g1; cases g1; cases hww
        exact hR.inj b1 q.whole o1 _ x1 (k, off, sl) hb1 g1 hlbm k1' hρ hww
      · rw [if_neg e2] at g2
        have k2' : ρ b2 = some x2 := by simpa [upd, e2] using k2
        exact hR.inj b1 b2 o1 o2 x1 x2 hne' g1 g2 k1' k2' hww
  · have hb : next + 1 ≤ b := hb
    rw [hget, if_neg (by omega)]
    exact hR.fresh b (by show next ≤ b; omega)
  · cases l with
    | none => trivial
    | some l => exact hl.elim
  · have : b ≠ next := by omega
    simp only [upd, this, if_false]
  · rw [hget] at hb
    by_cases e : b = next
    · subst e
      rw [if_pos rfl] at hb
      cases hb
      rw [upd_same] at hx
      cases hx
      exact ⟨q.whole, .frz jt, _, hlbm, hρ, rfl, rfl⟩
    · rw [if_neg e] at hb
      exact ⟨b, o, x, hb, by simpa [upd, e] using hx, rfl, rfl⟩

/-! ### a call with a slice that came in -/
/-- Block 64 is the slice's. -/
def ρ1 (k off : Nat) : Rho := fun b => if b < 64 then some (b, 0, 0) else if b = 64 then some (k, off, 0) else none
noncomputable abbrev m1 : Mem := memB 65 [(64, .frz 0)]
theorem m1_get (b : Nat) : m1.get b = if b = 64 then some (.frz 0) else none := by
  show (trB _).get b = _
  rw [trB, Tr.get_put _ _ _ _ _ (Nat.le_refl _), trB, Tr.get_leaf]
theorem m1_sealed : Sealed m1 := fun b o hb => by
  rw [m1_get] at hb
  split at hb
  · cases hb; rfl
  · cases hb
theorem m1_rel {ds : List Value} {q : Tie} {w : World} {k off : Nat} {cs : Array Value} {t : TypeId} {fz : Nat × Nat} (h1 : w.heap[k]? = some (.cells cs t fz)) (h2 : off + q.cells.length ≤ cs.size) (h3 : ∀ i, i < q.cells.length → cs.getD (off + i) undef = q.cells.getD i undef) :
    Rel (sigOf ds [q]) (ρ1 k off) m1 w := by
  refine ⟨fun b hb => ?_, fun g hg => by simp [ρ1, hg], fun b o x hb hx => ?_, fun b1 b2 o1 o2 x1 x2 hne g1 g2 k1 k2 hw => ?_, fun b hb => ?_⟩
  · have hb : 65 ≤ b := hb
    have e1 : ¬ b < 64 := by omega
    have e2 : b ≠ 64 := by omega
    simp [ρ1, e1, e2]
  · rw [m1_get] at hb
    split at hb
    · rename_i e
      subst e
      cases hb
      simp [ρ1] at hx
      subst hx
      exact ⟨q.cells, cs, t, fz, rfl, h1, by simpa using h2, h3⟩
    · cases hb
  · rw [m1_get] at g1
    split at g1
    · cases g1; cases hw
    · cases g1
  · have hb : 65 ≤ b := hb
    rw [m1_get, if_neg (by omega)]
theorem m1_tie {ds : List Value} {q : Tie} {k off C : Nat} (hw : q.whole = 64) (he : q.elems = []) : VRel (sigOf ds [q]) (ρ1 k off) (.chan (some 1)) (.slice (some ⟨k, off, none⟩) q.L C) :=
  .tie ⟨q, rfl, .inr ⟨k, off, C, rfl, ⟨0, by simp [ρ1, hw]⟩, fun e h => by rw [he] at h; cases h⟩⟩
/-- A nil slice came in: block 64 is none. -/
theorem m1_relN {σ : Sig} {w : World} : Rel σ ρ0 m1 w := by
  refine ⟨fun b hb => ?_, fun g hg => by simp [ρ0, hg], fun b o x hb hx => ?_, fun b1 b2 o1 o2 x1 x2 hne g1 g2 k1 k2 hw => ?_, fun b hb => ?_⟩
  · have hb : 65 ≤ b := hb
    have e1 : ¬ b < 64 := by omega
    simp [ρ0, e1]
  · rw [m1_get] at hb
    split at hb
    · rename_i e
      subst e
      simp [ρ0] at hx
    · cases hb
  · rw [m1_get] at g1
    split at g1
    · cases g1; cases hw
    · cases g1
  · have hb : 65 ≤ b := hb
    rw [m1_get, if_neg (by omega)]
theorem m1_nil {ds : List Value} {q : Tie} {ρ : Rho} {a : Option Addr} {C : Nat} (hL : q.L = 0) : VRel (sigOf ds [q]) ρ (.chan (some 1)) (.slice a 0 C) := .tie ⟨q, rfl, .inl ⟨hL, a, C, rfl⟩⟩
theorem TCall.callsN {ds ds' : List Value} {ts' : List Tie} {q : Tie} {f : FuncId} {args : List Value} {args' : Array Value} {v : Value} {m' : Mem} (h : TCall (sigOf ds [q]) (sigOf ds' ts') P n0 f args m1 v m') (hv : plainL ds'.length 6 v = true)
    {w : World} (ha : LRel (sigOf ds [q]) ρ0 args args'.toList) : CallsIn Fence.wide 0 P f args' w fun e w' => e = .returned (er ds' v) ∧ RowKit.Below w.heap.size w w' := by
  refine (h _ w args' m1_relN ha).mono ?_
  rintro e w' ⟨v', ρ', rfl, hr, hp, _⟩
  exact ⟨by rw [er_eq 6 _ _ hv hr]; rfl, hp.below m1_sealed⟩
/-- What a call with one slice answers. -/
theorem TCall.calls {ds ds' : List Value} {ts' : List Tie} {q : Tie} {f : FuncId} {args : List Value} {args' : Array Value} {v : Value} {m' : Mem} (h : TCall (sigOf ds [q]) (sigOf ds' ts') P n0 f args m1 v m') (hv : plainL ds'.length 6 v = true)
    {w : World} {k off : Nat} {cs : Array Value} {t : TypeId} {fz : Nat × Nat} (h1 : w.heap[k]? = some (.cells cs t fz)) (h2 : off + q.cells.length ≤ cs.size) (h3 : ∀ i, i < q.cells.length → cs.getD (off + i) undef = q.cells.getD i undef)
    (ha : LRel (sigOf ds [q]) (ρ1 k off) args args'.toList) : CallsIn Fence.wide 0 P f args' w fun e w' => e = .returned (er ds' v) ∧ RowKit.Below w.heap.size w w' := by
  refine (h _ w args' (m1_rel h1 h2 h3) ha).mono ?_
  rintro e w' ⟨v', ρ', rfl, hr, hp, _⟩
  exact ⟨by rw [er_eq 6 _ _ hv hr]; rfl, hp.below m1_sealed⟩

/-- The last argument is a slice: such a call reads it alone. -/
theorem uses_of {dsC ds ds' : List Value} {ts ts' : List Tie} {q qc : Tie} {f : FuncId} {args argsC : List Value} {v v' : Value} {m' : Mem} {j b : Nat} (h : TCall (sigOf ds [q]) (sigOf ds' ts') P n0 f (args ++ [.chan (some 1)]) m1 v m') (hv : plainL ds'.length 6 v = true)
    (hd : ∀ d ∈ ds, dataB d = true) (ha : args.all (plainL ds.length 6) = true) (hac : argsC.all (plainL dsC.length 6) = true) (hae : argsC.map (er dsC) = args.map (er ds)) (hve : er ds' v = er dsC v') (hq : ts[j]? = some qc) (hw : q.whole = 64) (he : q.elems = []) (hL : q.L = qc.L) (hc : q.cells = qc.cells) (hb : qc.whole = b) :
    UsesOk P dsC ts f (argsC ++ [.chan (some (j + 1))]) [(j, b)] v' := by
  intro ρ m w args' hm hR hl
  have hl1 : args'.toList = argsC.map (er dsC) ++ [args'.toList.getD argsC.length undef] ∧ VRel (sigOf dsC ts) ρ (.chan (some (j + 1))) (args'.toList.getD argsC.length undef) := by
    have hlen := hl.1
    simp only [List.length_append, List.length_cons, List.length_nil] at hlen
    have hlast := hl.2 argsC.length (by simp)
    rw [show (argsC ++ [Value.chan (some (j + 1))]).getD argsC.length undef = .chan (some (j + 1)) by simp [List.getD_eq_getElem?_getD]] at hlast
    refine ⟨?_, hlast⟩
    apply List.ext_getElem?
    intro i
    by_cases hi : i < argsC.length
    · have h1 := hl.2 i (by simp; omega)
      rw [show (argsC ++ [Value.chan (some (j + 1))]).getD i undef = argsC.getD i undef by simp [List.getD_eq_getElem?_getD, List.getElem?_append_left hi]] at h1
      have hmem : argsC.getD i undef ∈ argsC := by
        rw [List.getD_eq_getElem?_getD, List.getElem?_eq_getElem hi]; exact List.getElem_mem _
      have := er_eq 6 _ _ (List.all_eq_true.1 hac _ hmem) h1
      rw [List.getElem?_append_left (by simpa using hi)]
      have h2 : args'.toList[i]? = some (args'.toList.getD i undef) := by
        rw [List.getD_eq_getElem?_getD, List.getElem?_eq_getElem (by omega)]; rfl
      rw [h2, this, List.getElem?_map, List.getElem?_eq_getElem hi, List.getD_eq_getElem?_getD, List.getElem?_eq_getElem hi]
      rfl
    · by_cases hi2 : i = argsC.length
      · subst hi2
        rw [List.getElem?_append_right (by simp)]
        simp only [List.length_map, Nat.sub_self, List.getElem?_cons_zero]
        rw [List.getD_eq_getElem?_getD, List.getElem?_eq_getElem (by omega)]
        rfl
      · rw [List.getElem?_eq_none (by omega), List.getElem?_eq_none (by simp; omega)]
  obtain ⟨hargs, hsv⟩ := hl1
  generalize args'.toList.getD argsC.length undef = sv at hargs hsv
  cases hsv with
  | tie ht =>
    obtain ⟨q', hq', hn⟩ := ht
    rw [hq] at hq'
    cases hq'
    rcases hn with ⟨hL0, a, C, rfl⟩ | ⟨k, off, C, rfl, ⟨sl, hρ⟩, _⟩
    · rw [← hve]
      refine TCall.callsN h hv ?_
      rw [hargs, hae]
      exact LRel.append (er_args hd ha) (LRel.cons (m1_nil (hL.trans hL0)) (LRel.nil _))
    obtain ⟨CC, cs, t, fz, f1, f2, f3, f4⟩ := hR.obj _ _ _ (hm (j, b) (by simp)) (hb ▸ hρ)
    have f1 : (ts[j]?).map (·.cells) = some CC := f1
    rw [hq] at f1
    simp only [Option.map_some, Option.some.injEq] at f1
    subst f1
    simp only at f3 f4
    rw [← hve]
    refine TCall.calls (k := k) (off := off) h hv f2 (by rw [hc]; omega) (by rw [hc]; exact f4) ?_
    rw [hargs, hae]
    refine LRel.append (er_args hd ha) (LRel.cons ?_ (LRel.nil _))
    rw [← hL]
    exact m1_tie hw he
end Go.Ab
