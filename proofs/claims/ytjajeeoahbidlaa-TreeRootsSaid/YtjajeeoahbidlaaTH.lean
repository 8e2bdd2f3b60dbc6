/- Runs on open terms: slices that grow, whose places nobody names. -/
import Derived.Test.YtjajeeoahbidlaaTG
namespace Go.Ab
noncomputable section
variable {P : Program} {E : Env}

/-- A slice of n elements, in a block of its own (from n0 on), whose cells are fl. -/
structure GrowC (M : Mem) (n0 sz : Nat) (fl : List Value) (n : Nat) (v : Value) : Prop where
  len : fl.length = n * sz
  at_ : (n = 0 ∧ v = .slice none 0 0) ∨ (n ≠ 0 ∧ ∃ N cN, n0 ≤ N ∧ N < M.next ∧ M.get N = some (.cells cN true sz) ∧ cN.n = fl.length ∧ (∀ x, x < fl.length → cN.get x = fl.getD x undef) ∧ v = .slice (some ⟨N, 0, none⟩) n n)
theorem GrowC.nil {M : Mem} {n0 sz : Nat} : GrowC M n0 sz [] 0 (.slice none 0 0) := ⟨by simp, .inl ⟨rfl, rfl⟩⟩
/-- Where nothing of it is turned. -/
theorem GrowC.keep {M M' : Mem} {n0 sz : Nat} {fl : List Value} {n : Nat} {v : Value} (h : GrowC M n0 sz fl n v) (hn : M.next ≤ M'.next) (hg : ∀ y, n0 ≤ y → y < M.next → (∀ c, v ≠ .slice (some ⟨y, 0, none⟩) n c) ∨ M'.get y = M.get y) : GrowC M' n0 sz fl n v := by
  obtain ⟨h1, h2⟩ := h
  refine ⟨h1, ?_⟩
  rcases h2 with h2 | ⟨h2, N, cN, k1, k2, k3, k4, k5, rfl⟩
  · exact .inl h2
  · refine .inr ⟨h2, N, cN, k1, by omega, ?_, k4, k5, rfl⟩
    rcases hg N k1 k2 with h | h
    · exact absurd rfl (h n)
    · rw [h, k3]
theorem GrowC.bump {M : Mem} {n0 sz : Nat} {fl : List Value} {n : Nat} {v : Value} (h : GrowC M n0 sz fl n v) (j : Nat) : GrowC (M.bump j) n0 sz fl n v :=
  h.keep (by simp) fun _ _ _ => .inr rfl
theorem GrowC.put_new {M : Mem} {n0 sz : Nat} {fl : List Value} {n b : Nat} {o : AObj} {v : Value} (h : GrowC M n0 sz fl n v) (hb : M.next ≤ b ∨ b < n0) : GrowC (M.put b o) n0 sz fl n v :=
  h.keep (by simp) fun y h1 h2 => .inr (by rw [Mem.get_put, if_neg (by omega)])
theorem GrowC.congr {M : Mem} {n0 sz : Nat} {fl fl' : List Value} {n n' : Nat} {v : Value} (h : GrowC M n0 sz fl n v) (e1 : fl = fl') (e2 : n = n') : GrowC M n0 sz fl' n' v := by
  subst e1 e2; exact h

theorem okI_append {ts e sz bytes id k n n0 : Nat} {M : Mem} {fl new : List Value} {v x : Value} {K : Value × Mem → Prop} (he : ElemOk E.P ts e sz bytes) (h : GrowC M n0 sz fl n v) (hsrc : srcA sz x M = some (new, k)) (hk : k ≠ 0) (hnew : new.length = k * sz) (hone : new.all oneCell = true)
    (hid : n0 ≤ id) (hid2 : id < M.next) (hcap : (n + k) * bytes ≤ 2 ^ 40 ∧ n + k ≤ 2 ^ 40)
    (hK : ∀ v' M', GrowC M' n0 sz (fl ++ new) (n + k) v' → (∀ y, y < n0 → M'.get y = M.get y) → M'.next = M.next → (∀ y, y ≠ id → (∀ c, v ≠ .slice (some ⟨y, 0, none⟩) n c) → M'.get y = M.get y) → (∀ y, y ≠ id → M.get y = none → M'.get y = none) → K (v', M')) :
    okI (appendA E.P id #[ts, ts] v x M) (k := ⟨K⟩) := by
  obtain ⟨h1, h2⟩ := h
  have hg : ¬ (new.all oneCell = false ∨ new.length ≠ k * sz) := by rw [hone]; simp [hnew]
  rcases h2 with ⟨rfl, rfl⟩ | ⟨h2, N, cN, k1, k2, k3, k4, k5, rfl⟩
  · have hf : apF sz bytes id (.slice none 0 0) (srcA sz x M) M = some (.slice (some ⟨id, 0, none⟩) k k, M.put id (.cells (.ofList new) true sz)) := by
      rw [hsrc]
      simp only [apF]
      rw [if_neg hk, if_neg hg, if_pos (by simpa using hcap)]
    rw [app_eq he (by rw [hf]; rfl) (Nat.le_refl _), hf]
    have hfl : fl = [] := List.length_eq_zero_iff.1 (by omega)
    subst hfl
    refine hK _ _ ⟨by simpa using hnew, .inr ⟨by omega, id, Cells.ofList new, hid, by simpa using hid2, by rw [Mem.get_put, if_pos rfl], by simp [ofList_n], fun y hy => get_ofList (by simpa using hy), by rw [Nat.zero_add]⟩⟩ (fun y hy => by rw [Mem.get_put, if_neg (by omega)]) (by simp) (fun y hy _ => by rw [Mem.get_put, if_neg hy]) fun y hy e => by rw [Mem.get_put, if_neg hy, e]
  · have hf : apF sz bytes id (.slice (some ⟨N, 0, none⟩) n n) (srcA sz x M) M = some (.slice (some ⟨id, 0, none⟩) (n + k) (n + k), (M.kill N).put id (.cells (cN.more 0 new) true sz)) := by
      rw [hsrc]
      simp only [apF]
      rw [if_neg hk, if_neg hg, if_pos trivial, k3]
      simp only [apG]
      rw [if_pos ⟨by rw [k4, h1], trivial, hcap⟩]
    rw [app_eq he (by rw [hf]; rfl) (Nat.le_refl _), hf]
    refine hK _ _ ⟨by rw [List.length_append, h1, hnew, Nat.add_mul], .inr ⟨by omega, id, cN.more 0 new, hid, by simpa using hid2, by rw [Mem.get_put, if_pos rfl], by rw [more_n, k4, List.length_append], fun y hy => ?_, rfl⟩⟩ (fun y hy => by rw [Mem.get_put, if_neg (by omega), Mem.get_kill, if_neg (by omega)]) (by simp) (fun y hy hv => ?_) fun y hy e => ?_
    · rw [List.length_append] at hy
      rw [more_get, k4]
      by_cases hh : y < fl.length
      · rw [if_neg (by omega), k5 y hh]
        simp only [List.getD_eq_getElem?_getD, List.getElem?_append_left hh]
      · rw [if_pos ⟨by omega, hy⟩]
        simp only [List.getD_eq_getElem?_getD, List.getElem?_append_right (Nat.le_of_not_lt hh)]
    · have : y ≠ N := fun e => hv n (by rw [e])
      rw [Mem.get_put, if_neg hy, Mem.get_kill, if_neg this]
    · rw [Mem.get_put, if_neg hy, Mem.get_kill]
      split <;> first | rfl | exact e

theorem src_put {sz n c B j z : Nat} {w : Bool} {M : Mem} {l : List Value} (h : l.length = n * sz) : srcA sz (.slice (some ⟨B, 0, none⟩) n c) ((M.put B (.cells (Cells.ofList l) w z)).bump j) = some (l, n) := by
  rw [src_at, get_eq_b, srcC_cells, sub_ofList (by omega)]
  simp [← h]
/-- At a function's end: the slice is what is left. -/
theorem TidyE.slice {m M : Mem} {sz : Nat} {fl : List Value} {n : Nat} {v : Value} (h : GrowC M m.next sz fl n v) (hn : n ≠ 0) (hp : ∀ x ∈ fl, plain x = true) (hg : ∀ y, y < m.next → M.get y = m.get y) :
    TidyE m M v (.slice (some ⟨m.next, 0, none⟩) n n) ((m.put m.next (.cells (Cells.ofList fl) true sz)).bump 1) := by
  obtain ⟨h1, h2⟩ := h
  rcases h2 with h2 | ⟨h2, N, cN, k1, k2, k3, k4, k5, rfl⟩
  · exact absurd h2.1 hn
  refine TidyE.new (a := N) k1 (rv_slice (.inr (by simp))) k3 (by rw [k4, ofList_n]) (fun i hi => ?_) hg
  rw [k4] at hi
  rw [get_ofList hi, k5 i hi]
  refine ⟨hp _ ?_, rfl⟩
  rw [List.getD_eq_getElem?_getD, List.getElem?_eq_getElem hi]
  exact List.getElem_mem hi
theorem TidyE.slice0 {m M : Mem} {sz : Nat} {fl : List Value} {v : Value} (h : GrowC M m.next sz fl 0 v) (hg : ∀ y, y < m.next → M.get y = m.get y) : TidyE m M v (.slice none 0 0) m := by
  rcases h.at_ with h2 | h2
  · rw [h2.2]; exact TidyE.pure rfl hg
  · exact absurd rfl h2.1
/-- At a function's end: one old block is turned, one new block is left. -/
theorem TidyE.put_new {m m1 : Mem} {v1 v : Value} {b a zb za : Nat} {c1 c2 c3 c4 : Cells} {o : AObj} (hm : Fresh m) (ha : m.next ≤ a) (hv : RV m.next [(a, m.next)] v1 v) (hb : m.get b = some o) (h1 : m1.get b = some (.cells c1 true zb)) (hn : c1.n = c2.n) (hc : ∀ i, i < c1.n → RV m.next [(a, m.next)] (c1.get i) (c2.get i))
    (h2 : m1.get a = some (.cells c3 true za)) (hn2 : c3.n = c4.n) (hc2 : ∀ i, i < c3.n → RV m.next [(a, m.next)] (c3.get i) (c4.get i)) (h : ∀ k, k < m.next → k ≠ b → m1.get k = m.get k) :
    TidyE m m1 v1 v (((m.put b (.cells c2 true zb)).put m.next (.cells c4 true za)).bump 1) := by
  have hbl := hm.lt hb
  refine ⟨[(a, m.next)], by simp, by simp; omega, by simp, by simp, hv, fun hf x ob hx => ?_, fun x hx e => ?_⟩
  · simp only [Mem.get_bump, Mem.get_put] at hx
    by_cases e1 : x = m.next
    · subst e1
      rw [if_pos rfl] at hx
      cases hx
      exact .inr ⟨a, by simp, _, h2, rfl, rfl, hn2, hc2⟩
    · rw [if_neg e1] at hx
      by_cases e2 : x = b
      · subst e2
        rw [if_pos rfl] at hx
        cases hx
        exact .inl ⟨hbl, _, h1, .inr ⟨rfl, rfl, hn, hc⟩⟩
      · rw [if_neg e2] at hx
        exact .inl ⟨hm.lt hx, ob, by rw [h x (hm.lt hx) e2, hx], .inl ⟨rfl, hx⟩⟩
  · have x1 : ¬ x = b := fun e2 => by rw [e2, hb] at e; cases e
    simp only [Mem.get_bump, Mem.get_put, ne_new0 hx, x1, if_false, e]
theorem Grow.put_new {m : Mem} {b : Nat} {o o1 o2 : AObj} (hb : m.get b = some o) : Grow m (((m.put b o1).put m.next o2).bump 1) := ⟨by simp, fun x hx e => by
  have x1 : ¬ x = b := fun e2 => by rw [e2, hb] at e; cases e
  simp only [Mem.get_bump, Mem.get_put, ne_new0 hx, x1, if_false, e]⟩
/-- At a function's end: a slice of an old block, which is turned. -/
theorem TidyE.slice_put {m m1 : Mem} {b o sz n c : Nat} {c1 c2 : Cells} {ob : AObj} (hm : Fresh m) (hb : m.get b = some ob) (h1 : m1.get b = some (.cells c1 true sz)) (hn : c1.n = c2.n) (hc : ∀ i, i < c1.n → plain (c2.get i) = true ∧ c1.get i = c2.get i)
    (h : ∀ k, k < m.next → k ≠ b → m1.get k = m.get k) : TidyE m m1 (.slice (some ⟨b, o, none⟩) n c) (.slice (some ⟨b, o, none⟩) n c) (m.put b (.cells c2 true sz)) :=
  tidy_put (rv_slice (.inl ⟨rfl, hm.lt hb⟩)) (hm.lt hb) (by rw [hb]; simp) h1 ⟨rfl, rfl, hn, fun i hi => by
    obtain ⟨g1, g2⟩ := hc i hi
    rw [g2]
    exact rv_plain g1⟩ h
/-- Two new blocks. -/
theorem TidyE.new2 {m m1 : Mem} {v1 v : Value} {a1 a2 : Nat} {o1 o2 p1 p2 : AObj} (h1 : m.next ≤ a1) (h2 : m.next ≤ a2) (hne : a1 ≠ a2) (hv : RV m.next [(a1, m.next), (a2, m.next + 1)] v1 v) (g1 : m1.get a1 = some p1) (g2 : m1.get a2 = some p2)
    (r1 : RO m.next [(a1, m.next), (a2, m.next + 1)] p1 o1) (r2 : RO m.next [(a1, m.next), (a2, m.next + 1)] p2 o2) (h : ∀ k, k < m.next → m1.get k = m.get k) : TidyE m m1 v1 v (((m.put m.next o1).put (m.next + 1) o2).bump 2) := by
  refine ⟨[(a1, m.next), (a2, m.next + 1)], by simp, ?_, by simp, by simp [hne], hv, fun hf x ob hx => ?_, fun x hx e => ?_⟩
  · intro p hp
    simp only [List.mem_cons, List.not_mem_nil, or_false] at hp
    simp only [Mem.next_bump, Mem.next_put]
    rcases hp with rfl | rfl
    · exact ⟨h1, Nat.le_refl _, by omega⟩
    · exact ⟨h2, Nat.le_succ _, by omega⟩
  · simp only [Mem.get_bump, Mem.get_put] at hx
    by_cases e1 : x = m.next + 1
    · subst e1
      rw [if_pos rfl] at hx
      cases hx
      exact .inr ⟨a2, by simp, _, g2, r2⟩
    · rw [if_neg e1] at hx
      by_cases e2 : x = m.next
      · subst e2
        rw [if_pos rfl] at hx
        cases hx
        exact .inr ⟨a1, by simp, _, g1, r1⟩
      · rw [if_neg e2] at hx
        rcases Nat.lt_or_ge x m.next with hlt | hge
        · exact .inl ⟨hlt, ob, by rw [h x hlt, hx], .inl ⟨rfl, hx⟩⟩
        · rw [hf x hge] at hx; cases hx
  · simp only [Mem.get_bump, Mem.get_put, ne_new hx, ne_new0 hx, if_false, e]
section
variable {base i : Nat} {rest : List (Nat × SOp)} {L : List Inst} {t : List Value} {m : Mem} {K : KI} {rt : TypeId}
theorem X_clear {a : Operand} {ts : Array TypeId} {dst : Option Tmp} : XWi E base ((i, ⟨dst, .call ⟨.builtin .clear, #[a], ts⟩, rt, none⟩) :: rest) L t m (Q := K) = okI (clearA E.P ts (ev a t) m) (k := ⟨fun m' => XWi E base rest L (putT dst (.tuple #[]) t) m' (Q := K)⟩) := by
  refine propext (Iff.trans (XW_val (q := (clearA E.P ts (ev a t) m).map fun m' => (.tuple #[], m')) rfl rfl ?_ ?_) okP_map)
  · simp only [effA]; cases h : clearA E.P ts (ev a t) m <;> simp [h]
  · simp only [reqA, cls, effA]; cases h : clearA E.P ts (ev a t) m <;> simp [h]
end
def clC (o : Option AObj) (b off n : Nat) (m : Mem) : Option Mem := match o with
  | some (.cells cs true sz) => if n = 0 then some m else if off + n ≤ cs.n then some (m.put b (.cells (cs.write off (List.replicate n (.int .i64 0))) true sz)) else none
  | _ => none
theorem clear_int {ts e b off n c : Nat} {m : Mem} (h1 : P.underlying ts = some (.slice e)) (h2 : zeroOf P e = some (.int .i64 0)) (hf : (clC (m.get b) b off n m).isSome = true) : clearA P #[ts] (.slice (some ⟨b, off, none⟩) n c) m = clC (m.get b) b off n m := by
  unfold clearA
  simp only [List.getElem?_toArray, List.getElem?_cons_zero, h1, h2]
  cases hb : m.get b with
  | none => rw [hb] at hf; cases hf
  | some ob =>
    rw [hb] at hf
    cases ob with
    | cells cs w s =>
      cases w with
      | false => cases hf
      | true =>
        simp only [clC] at hf ⊢
        by_cases hn : n = 0
        · rw [if_pos hn, if_pos hn]
        · rw [if_neg hn] at hf ⊢
          rw [if_neg hn]
          by_cases hl : off + n ≤ cs.n
          · rw [if_pos hl]
            have hz : zeros [Value.int .i64 0] (n * 1) = List.replicate n (.int .i64 0) := by
              unfold zeros Cells.zeros1
              refine List.ext_getElem (by simp) fun k h3 h4 => ?_
              simp [Nat.mod_one]
            have hc : (Value.int .i64 0).cells.toList = [Value.int .i64 0] := rfl
            have hs : (Value.int .i64 0).cells.size = 1 := rfl
            rw [hc, hs, hz, if_pos ⟨rfl, by decide, by rw [Nat.mul_one]; exact hl, by simp [oneCell]⟩]
          · rw [if_neg hl] at hf; cases hf
    | _ => cases hf
theorem slice_lo {ty e sz b o n c : Nat} {k : IntKind} {x : Int} (hu : P.underlying ty = some (.slice e)) (hz : szOf P e = some sz) (h0 : 0 ≤ x) (h1 : x.toNat ≤ n) (h2 : x.toNat < c) (hn : n ≤ c) : sliceA P ty (.slice (some ⟨b, o, none⟩) n c) (some (.int k x)) none = some (.slice (some ⟨b, o + x.toNat * sz, none⟩) (n - x.toNat) (c - x.toNat)) := by
  have e1 : bndA none c n = some n := by simp [bndA]
  have e2 : bndA (some (.int k x)) n 0 = some x.toNat := by
    simp only [bndA]
    rw [if_pos (by omega)]
  unfold sliceA
  simp only [hu, hz, e1, e2]
  by_cases hx : x.toNat = 0
  · rw [if_pos hx, hx]; simp
  · rw [if_neg hx, if_pos h2]
theorem slice_hi {ty e sz b o n c : Nat} {k : IntKind} {x : Int} (hu : P.underlying ty = some (.slice e)) (hz : szOf P e = some sz) (h0 : 0 ≤ x) (h1 : x.toNat ≤ c) : sliceA P ty (.slice (some ⟨b, o, none⟩) n c) none (some (.int k x)) = some (.slice (some ⟨b, o, none⟩) x.toNat c) := by
  have e1 : bndA (some (.int k x)) c n = some x.toNat := by
    simp only [bndA]
    rw [if_pos (by omega)]
  have e2 : bndA none x.toNat 0 = some 0 := by simp [bndA]
  unfold sliceA
  simp only [hu, hz, e1, e2]
  simp
end
end Go.Ab
