/- An interpreter of our own: slices.Sorted(maps.Keys(m)), by the shelf's contracts. -/
import Derived.Test.YtijnhaadhgoloaaGreatDoorAbS
import Derived.Test.YtijnhaadhgoloaaGreatDoorAbU0
import Derived.Shelf.SlIterI.Nil
import Derived.WideShapes
namespace Go.Ab
open Go.Maps Go.Shelf Go.Proofs Go.RowKit
variable {σ : Sig}

/-! ### the sort -/
theorem ins_perm (x : Int) : ∀ l, (ins x l).Perm (x :: l)
  | [] => .refl _
  | y :: l => by
    unfold ins
    split
    · exact .refl _
    · exact ((ins_perm x l).cons y).trans (.swap x y l)
theorem isort_perm : ∀ l, (isort l).Perm l
  | [] => .refl _
  | x :: l => (ins_perm x _).trans ((isort_perm l).cons x)
theorem ins_sorted (x : Int) : ∀ l : List Int, l.Pairwise (· ≤ ·) → (ins x l).Pairwise (· ≤ ·)
  | [], _ => by simp [ins]
  | y :: l, h => by
    unfold ins
    have h1 := List.pairwise_cons.1 h
    split
    · rename_i hxy
      refine List.pairwise_cons.2 ⟨fun z hz => ?_, h⟩
      rcases List.mem_cons.1 hz with rfl | hz
      · exact hxy
      · exact Int.le_trans hxy (h1.1 z hz)
    · refine List.pairwise_cons.2 ⟨fun z hz => ?_, ins_sorted x l h1.2⟩
      rcases List.mem_cons.1 ((ins_perm x l).mem_iff.1 hz) with rfl | hz
      · omega
      · exact h1.1 z hz
theorem isort_sorted : ∀ l : List Int, (isort l).Pairwise (· ≤ ·)
  | [] => by simp [isort]
  | x :: l => ins_sorted x _ (isort_sorted l)
theorem isort_eq (l : List Int) : isort l = l.mergeSort leI := by
  have tr : ∀ a b c : Int, leI a b = true → leI b c = true → leI a c = true := fun a b c h1 h2 => by simp only [leI, decide_eq_true_eq] at *; exact Int.le_trans h1 h2
  have to : ∀ a b : Int, (leI a b || leI b a) = true := fun a b => by simp only [leI, Bool.or_eq_true, decide_eq_true_eq]; exact Int.le_total a b
  refine List.Perm.eq_of_pairwise (le := fun a b => leI a b = true) (fun a b _ _ h1 h2 => ?_) ((isort_sorted l).imp fun h => by simpa [leI] using h) (List.pairwise_mergeSort tr to l) ((isort_perm l).trans (List.mergeSort_perm l leI).symm)
  simp only [leI, decide_eq_true_eq] at h1 h2
  exact Int.le_antisymm h1 h2

/-! ### new blocks -/
theorem Post.under {ρ : Rho} {m : Mem} {w w' : World} (h : Rel σ ρ m w) (hb : Below w.heap.size w w') : Post σ ρ m w ρ m w' :=
  ⟨⟨h.dom, h.glob, fun b o x ho hx => (h.obj b o x ho hx).keep (Ext.refl ρ) (hb.block _ (h.obj b o x ho hx).lt), h.inj, h.fresh⟩, Ext.refl ρ, Nat.le_refl _, hb.size, hb.os, hb.tape, hb.output,
    fun k hk _ => hb.block k hk, fun b o x ho hx _ => ⟨b, o, x, ho, hx, rfl, id⟩⟩

theorem Post.lay {ρ : Rho} {m : Mem} {w w' : World} (h : Rel σ ρ m w) (hb : Below w.heap.size w w') {id : Nat} (hid : ρ id = none) (hlt : id < m.next) {ob : AObj} {x : Nat × Nat × Nat} (hx : w.heap.size ≤ x.1)
    (hob : ORel σ (upd ρ id x) w' x ob) : Post σ ρ m w (upd ρ id x) (m.put id ob) w' := by
  have he := upd_ext hid x
  have hge : 64 ≤ id := by
    rcases Nat.lt_or_ge id 64 with hl | hl
    · rw [h.glob id hl] at hid; cases hid
    · exact hl
  refine ⟨⟨fun b hb => ?_, fun g hg => ?_, fun b o y hb' hy => ?_, ?_, fun b hb => by rw [Mem.get_put, if_neg (by simp at hb; omega)]; exact h.fresh b hb⟩, he, Nat.le_refl _, hb.size, hb.os, hb.tape, hb.output, fun k hk _ => hb.block k hk, fun b o y hb' hy hlt' => ?_⟩
  · have : b ≠ id := by simp at hb; omega
    simp only [upd, this, if_false]
    exact h.dom b hb
  · have : g ≠ id := by omega
    simp only [upd, this, if_false]
    exact h.glob g hg
  · rw [Mem.get_put] at hb'
    by_cases e : b = id
    · subst e
      rw [if_pos rfl] at hb'
      cases hb'
      rw [upd_same] at hy
      cases hy
      exact hob
    · rw [if_neg e] at hb'
      have hy' : ρ b = some y := by simpa [upd, e] using hy
      have := h.obj b o y hb' hy'
      exact this.keep he (hb.block _ this.lt)
  · intro b1 b2 o1 o2 x1 x2 hne h1 h2 g1 g2 hw
    rw [Mem.get_put] at h1 h2
    by_cases e1 : b1 = id
    · subst e1
      rw [upd_same] at g1
      cases g1
      rw [if_neg (fun e => hne e.symm)] at h2
      have e' : b2 ≠ b1 := fun e => hne e.symm
      have g2' : ρ b2 = some x2 := by simpa [upd, e'] using g2
      have := (h.obj b2 o2 x2 h2 g2').lt
      omega
    · rw [if_neg e1] at h1
      have g1' : ρ b1 = some x1 := by simpa [upd, e1] using g1
      by_cases e2 : b2 = id
      · subst e2
        rw [upd_same] at g2
        cases g2
        have := (h.obj b1 o1 x1 h1 g1').lt
        omega
      · rw [if_neg e2] at h2
        have g2' : ρ b2 = some x2 := by simpa [upd, e2] using g2
        exact h.inj b1 b2 o1 o2 x1 x2 hne h1 h2 g1' g2' hw
  · rw [Mem.get_put] at hb'
    by_cases e : b = id
    · subst e
      rw [upd_same] at hy
      cases hy
      omega
    · rw [if_neg e] at hb'
      exact ⟨b, o, y, hb', by simpa [upd, e] using hy, rfl, fun hw => hw⟩

/-! ### keys -/
def anyR : Value → Option (DataW Unit × List MemPlace) := fun _ => some (.nil, [])

theorem keysOf_rel {ρ : Rho} : ∀ {es : List (Value × Value)} {es' : List MapEntry} {l : List Int}, ERel σ ρ es es' → keysOf es = some l → es'.length = l.length ∧ es'.map (·.key) = l.map (.int .i64) ∧ ∀ n ∈ l, (Lit.int .i64 n).wf = true := by
  intro es
  induction es with
  | nil =>
    intro es' l he h
    rw [he.nil_inv]
    simp only [keysOf, Option.some.injEq] at h
    subst h
    simp
  | cons e es ih =>
    intro es' l he h
    obtain ⟨e', l', rfl, h1, h2, h3⟩ := he.cons_inv
    obtain ⟨y, u⟩ := e
    unfold keysOf at h
    split at h
    · rename_i hd
      cases hd
    · rename_i hd
      cases hd
      split at h
      · rename_i hwf
        split at h
        · rename_i r hr
          simp only [Option.some.injEq] at h
          subst h
          obtain ⟨g1, g2, g3⟩ := ih h3 hr
          have hk := h1.int_inv
          exact ⟨by simp [g1], by simp [hk, g2], fun k hk => (List.mem_cons.1 hk).elim (fun e => e ▸ hwf) (g3 k)⟩
        · cases h
      · cases h
    · cases h

theorem owns_keys {P : Program} {k : TypeId} (hk : P.underlying k = some (.int .i64)) {w : World} {b : Nat} {es' : Array MapEntry} {clock : Nat} {l : List Int} (hb : w.heap[b]? = some (.map es' clock)) (hst : MapKept.Stamped es' clock)
    (hl : es'.toList.map (·.key) = l.map (.int .i64)) (hwf : ∀ n ∈ l, (Lit.int .i64 n).wf = true) (hmax : l.length ≤ maxLen) :
    ∃ D0 : DataW Unit, w.ownsMap P k anyR b l.length D0 ∧ Maps.size D0 = l.length ∧ (intKeys D0).Perm l := by
  have hlen : es'.size = l.length := by have := congrArg List.length hl; simpa using this
  have hrd : ∀ x ∈ es'.toList, ∃ n, x.key = .int .i64 n ∧ n ∈ l ∧ WideElems.rd P k anyR x = some (.int .i64 n, .nil) := fun x hx => by
    have : x.key ∈ l.map (Value.int .i64) := by rw [← hl]; exact List.mem_map_of_mem hx
    obtain ⟨n, hn, e⟩ := List.mem_map.1 this
    refine ⟨n, e.symm, hn, ?_⟩
    simp [WideElems.rd, keyOf, hk, mapKey, ← e, anyR, hwf n hn]
  refine ⟨_, ⟨es', clock, hb, ⟨by omega, hst, fun x hx => let ⟨n, _, _, h⟩ := hrd x hx; ⟨_, h⟩⟩, by omega, rfl⟩, ?_, ?_⟩
  · show (List.foldr DataW.insert [] (List.map (WideElems.rg P k anyR) es'.toList)).length = _
    rw [length_sorted]
    simp [hlen]
  · show ((List.foldr DataW.insert [] _).map fun p => intOf p.1).Perm l
    refine ((WideShapes.sorted_perm _).map _).trans ?_
    rw [List.map_map]
    have e : es'.toList.map ((fun p => intOf p.1) ∘ WideElems.rg P k anyR) = l := by
      have h2 : (es'.toList.map (·.key)).map (fun v => match v with | .int _ n => n | _ => 0) = l := by rw [hl, List.map_map]; exact (List.map_congr_left fun _ _ => rfl).trans (List.map_id l)
      rw [← h2, List.map_map]
      apply List.map_congr_left
      intro x hx
      obtain ⟨n, h1, _, h3⟩ := hrd x hx
      simp [WideElems.rg, h3, h1, intOf]
    rw [e]

theorem arr_one {a : Array Value} {x : Value} (h : a.toList = [x]) : a = #[x] := by
  apply Array.toList_inj.1
  simpa using h

theorem sorted_ok {P : Program} {ρk ρs : Ren} (L10 : SlLaysZI.n10 P ρk) (L6 : SlLaysZI.n6 P ρs) (hsort : AnyZI.SortsIn P ρs Fence.wide 4) (e9 : Enters P (ρs.f 9)) (eg : Enters P (ρk.f 10)) {args : List Value} {m m' : Mem} {v : Value}
    (h : sortedP (ρk.f 10) args m = some (v, m')) : CallOk σ P (ρs.f 6) args m v m' := by
  intro ρ w args' hR ha
  refine callsIn_wide.2 ?_
  unfold sortedP at h
  split at h
  · rename_i g fs cp
    split at h
    · rename_i hg
      obtain ⟨rfl, hfs⟩ := hg
      split at h
      · rename_i B hcp
        -- the real argument
        obtain ⟨x', hx'⟩ : ∃ x', args'.toList = [x'] := by
          have h1 := ha.1
          match hl : args'.toList with
          | [x'] => exact ⟨x', rfl⟩
          | [] => rw [hl] at h1; simp at h1
          | _ :: _ :: _ => rw [hl] at h1; simp at h1
        rw [hx'] at ha
        obtain rfl := arr_one hx'
        have hcp' := arr_one hcp
        subst hcp'
        have hfx := ha.head
        obtain ⟨fs', cp', rfl, hfs', hcpr⟩ : ∃ fs' cp', x' = .func (.func (ρk.f 10)) fs' cp' ∧ fs'.size = 0 ∧ LRel σ ρ [.pointer (some ⟨B, 0, none⟩)] cp'.toList := by
          cases hfx with
          | func hy hm h1 h2 h3 h4 => exact ⟨_, _, rfl, by omega, lrel_of h3 h4⟩
        obtain rfl : fs' = #[] := Array.size_eq_zero_iff.1 hfs'
        obtain ⟨p', hp'⟩ : ∃ p', cp'.toList = [p'] := by
          have h1 := hcpr.1
          match hl : cp'.toList with
          | [x'] => exact ⟨x', rfl⟩
          | [] => rw [hl] at h1; simp at h1
          | _ :: _ :: _ => rw [hl] at h1; simp at h1
        rw [hp'] at hcpr
        obtain rfl := arr_one hp'
        obtain ⟨B', off, sl, hρ, rfl⟩ := hcpr.head.ptr_inv
        have mk : ∀ {c : Cells} {rw_ : Bool}, m.get B = some (.cells c rw_ 0) → c.n = 1 → ∃ mp', VRel σ ρ (c.get 0) mp' ∧ w.cell? ⟨B', 0, none⟩ = some mp' ∧ B' < w.heap.size ∧ off = 0 := fun {c rw_} hm h1 => by
          have hob := hR.obj B _ _ hm hρ
          have hlt := hob.lt
          obtain ⟨cs', hl, hcell⟩ := (hob : CellsRel σ ρ w (B', off, sl) c.list rw_ 0).list
          obtain ⟨ca, t, fz, _, h2, h3, h4⟩ := (hob : CellsRel σ ρ w (B', off, sl) c.list rw_ 0)
          have h0 : off = 0 := h3.2 rfl
          obtain ⟨mp', g1, g2⟩ := hl.get? (i := 0) (v := c.get 0) (by rw [Cells.list_get, if_pos (by omega)])
          have := hcell 0 mp' g1
          simp only [h0] at this
          exact ⟨mp', g2, this, hlt, h0⟩
        have fin : ∀ {S : List Int → Prop} {N : Nat}, N ≤ maxLen → N * 8 ≤ 140737488355328 → off = 0 → SeqGives Fence.wide 2 P (ρk.f 10) #[.pointer (some ⟨B', 0, none⟩)] encZ S N w →
            Calls P (ρs.f 6) #[.func (.func (ρk.f 10)) #[] #[.pointer (some ⟨B', off + 0, none⟩)]] w fun e w' => ∃ (v : Value) (ss : List Int), e = .returned v ∧ S ss ∧
              w'.ownsRow w.heap.size (ρs.t 26) 1 v ss.length ((ss.mergeSort (fun x y => decide (x ≤ y))).map encZ) ∧ (v = .slice none 0 0 ↔ ss = []) ∧ Below w.heap.size w w' := fun {S N} h1 h2 h3 hseq => by
          subst h3
          exact callsIn_wide.1 (AnyZI.sorted_in L6 Fence.wide 5 trivial trivial trivial trivial rfl (by omega) hsort e9 (ρk.f 10) #[.pointer (some ⟨B', 0, none⟩)] trivial eg S N h1 h2 w hseq)
        split at h
        case h_2 => cases h
        rename_i c rw_ hm
        split at h
        case isFalse => cases h
        rename_i hc1
        obtain ⟨mp', g1, g2, g3, g4⟩ := mk hm hc1
        split at h
        · -- a nil map
          rename_i hc0
          simp only [Option.some.injEq, Prod.mk.injEq] at h
          obtain ⟨rfl, rfl⟩ := h
          rw [hc0] at g1
          cases g1
          refine (fin (S := fun ss => ss = []) (N := 0) (Nat.zero_le _) (by omega) g4 (AnyZI.keys_gives_nil L10 Fence.wide 2 trivial rfl B' w g3 g2)).mono ?_
          rintro e w' ⟨v', ss, rfl, rfl, _, hnil, hb⟩
          obtain rfl := hnil.2 rfl
          exact ⟨_, ρ, rfl, .nilSlice, Post.under hR hb, Old.refl _ _⟩
        · rename_i b hc0
          rw [hc0] at g1
          cases g1 with
          | map hρb =>
            rename_i b' ob sb
            split at h
            · rename_i es rw2 hmb
              split at h
              · rename_i l hl
                split at h
                · rename_i hlen
                  obtain ⟨es', clock, q1, q2, q3⟩ := map_obj' hR hmb hρb
                  obtain ⟨k1, k2, k3⟩ := keysOf_rel q2 hl
                  have hmax : l.length ≤ maxLen := by unfold maxLen; omega
                  obtain ⟨D0, d1, d2, d3⟩ := owns_keys L10.t26 q1 q3 k2 k3 hmax
                  refine (fin (S := fun ss => ss.Perm (intKeys D0)) (N := Maps.size D0) (by omega) (by omega) g4 (AnyZI.keys_gives L10 Fence.wide 2 trivial rfl (by omega) B' b' l.length D0 w g3 g2 d1)).mono ?_
                  rintro e w' ⟨v', ss, rfl, hS, hrow, hnil, hb⟩
                  have hperm : ss.Perm l := hS.trans d3
                  have hsl : ss.length = l.length := hperm.length_eq
                  split at h
                  · rename_i h0
                    simp only [Option.some.injEq, Prod.mk.injEq] at h
                    obtain ⟨rfl, rfl⟩ := h
                    obtain rfl := hnil.2 (List.length_eq_zero_iff.1 (by omega))
                    exact ⟨_, ρ, rfl, .nilSlice, Post.under hR hb, Old.refl _ _⟩
                  · rename_i h0
                    simp only [Option.some.injEq, Prod.mk.injEq] at h
                    obtain ⟨rfl, rfl⟩ := h
                    rcases hrow.2 with ⟨rfl, hz⟩ | ⟨gb, cap, cur, rfl, r0, r1, r2, r3, r4, r5⟩
                    · exact absurd (hsl ▸ hz) h0
                    · have hid := hR.dom m.next (Nat.le_refl _)
                      have hsorted : ss.mergeSort (fun x y => decide (x ≤ y)) = isort l := by rw [isort_eq]; exact mergeSort_of_perm_i hperm
                      have hil : (isort l).length = l.length := (isort_perm l).length_eq
                      rw [hsorted, Nat.mul_one] at r5
                      refine ⟨_, upd ρ m.next (gb, 0, cap - l.length), rfl, ?_, (Post.bump hR 1).trans (Post.lay (hR.bump 1) hb hid (by simp) r0 ?_), fun b hb e => ?_⟩
                      · have := VRel.slice (σ := σ) (o := 0) (upd_same ρ m.next (gb, 0, cap - l.length)) (c := l.length) (c' := cap) (.inr (by omega)) (Nat.le_refl _)
                        rw [hsl]
                        simpa using this
                      · show CellsRel _ _ _ _ (Cells.ofList _).list true 1
                        rw [Cells.ofList_list]
                        refine ⟨cur, _, (0, 0), r1, ?_, ⟨fun _ => rfl, fun e => absurd e (by omega)⟩, fun i hi => ?_⟩
                        · simp only [List.length_map, hil]
                          omega
                        · simp only [List.length_map] at hi
                          have hi2 : i < ss.length := by omega
                          have e1 : cur.toList[i]? = some (.int .i64 ((isort l)[i])) := by
                            have := congrArg (·[i]?) r5
                            simp only [List.getElem?_take_of_lt hi2, List.getElem?_map] at this
                            rw [this, List.getElem?_eq_getElem hi]
                            rfl
                          rw [getD_toList]
                          simp only [Nat.zero_add]
                          rw [List.getD_eq_getElem?_getD, List.getD_eq_getElem?_getD, e1, List.getElem?_map, List.getElem?_eq_getElem hi]
                          exact .int _ _
                      · have : b ≠ m.next := by omega
                        simpa [upd, this] using e
                · cases h
              · cases h
            · cases h
        · cases h
      · cases h
    · cases h
  · cases h

theorem sortedP_grow {ks : FuncId} {args : List Value} {m m' : Mem} {v : Value} (h : sortedP ks args m = some (v, m')) : Grow m m' := by
  unfold sortedP at h
  repeat' split at h
  all_goals first
    | (cases h; done)
    | (simp only [Option.some.injEq, Prod.mk.injEq] at h
       obtain ⟨_, rfl⟩ := h
       first
         | exact Grow.refl _
         | exact ⟨by simp, fun b hb e => by rw [Mem.get_put, if_neg (by omega)]; exact e⟩)

/-- The interpreter at a program, slices.Sorted (function f) of maps.Keys (its inner function: k) by the shelf's contracts. -/
noncomputable def envS (P : Program) (f k : FuncId) : Env := { P := P, eqv := vEq, prim := fun g => bif g == f then some (sortedP k) else none }
theorem envS_sure {P : Program} {ρk ρs : Ren} (h : P.follows .mixedOrders = true) (L10 : SlLaysZI.n10 P ρk) (L6 : SlLaysZI.n6 P ρs) (hsort : AnyZI.SortsIn P ρs Fence.wide 4) (e9 : Enters P (ρs.f 9)) (eg : Enters P (ρk.f 10)) :
    Sure σ (envS P (ρs.f 6) (ρk.f 10)) := by
  have hp : ∀ g p, (envS P (ρs.f 6) (ρk.f 10)).prim g = some p → g = ρs.f 6 ∧ p = sortedP (ρk.f 10) := fun g p h => by
    simp only [envS] at h
    cases hb : (g == ρs.f 6) with
    | true => rw [hb] at h; simp only [cond_true, Option.some.injEq] at h; exact ⟨by simpa using hb, h.symm⟩
    | false => rw [hb] at h; cases h
  exact ⟨fun _ _ => vEq_eq, fun _ _ _ h => (by cases h), h, fun g p args m v m' h1 h2 => by obtain ⟨rfl, rfl⟩ := hp g p h1; exact sorted_ok L10 L6 hsort e9 eg h2,
    fun g p args m v m' h1 h2 => by obtain ⟨rfl, rfl⟩ := hp g p h1; exact sortedP_grow h2⟩
end Go.Ab
