/- Runs on open terms: cells and ends. -/
import Derived.Test.YtjajeeoahbidlaaTD
namespace Go.Ab
noncomputable section
variable {P : Program} {E : Env}

theorem nth_write {c : Cells} {o n : Nat} {l : List Value} : (c.write o l).nth n = if o ≤ n ∧ n < o + l.length ∧ n < c.n then l[n - o]? else c.nth n := by
  unfold Cells.nth
  rw [write_n, get_write]
  by_cases h : n < c.n
  · rw [if_pos h]
    by_cases h2 : o ≤ n ∧ n < o + l.length
    · rw [if_pos h2, if_pos ⟨h2.1, h2.2, h⟩, List.getD_eq_getElem?_getD, List.getElem?_eq_getElem (by omega)]
      rfl
    · rw [if_neg h2, if_neg (fun h3 => h2 ⟨h3.1, h3.2.1⟩), if_pos h]
  · rw [if_neg h, if_neg (fun h3 => h h3.2.2), if_neg h]
theorem nth_write_same {c : Cells} {o : Nat} {v : Value} {l : List Value} (h : o < c.n) : (c.write o (v :: l)).nth o = some v := by
  rw [nth_write, if_pos ⟨Nat.le_refl _, by simp, h⟩]; simp
theorem seg_get {c : Cells} : ∀ {k o : Nat} {l : List Value}, l.length = k → (∀ i, i < k → c.get (o + i) = l.getD i undef) → c.seg o k = l
  | 0, o, l, hl, _ => by cases l with | nil => rfl | cons => cases hl
  | k + 1, o, l, hl, h => by
    cases l with
    | nil => cases hl
    | cons v l =>
      unfold Cells.seg
      have h0 := h 0 (by omega)
      simp only [Nat.add_zero, List.getD_cons_zero] at h0
      rw [h0, seg_get (l := l) (by simpa using hl) fun i hi => ?_]
      have := h (i + 1) (by omega)
      rw [show o + 1 + i = o + (i + 1) by omega]
      simpa using this
theorem sub_get {c : Cells} {o n : Nat} {l : List Value} (hl : l.length = n) (hn : o + n ≤ c.n) (h : ∀ i, i < n → c.get (o + i) = l.getD i undef) : c.sub o n = some l := by
  rw [sub_lt hn, seg_get hl h]
theorem seg_getD {c : Cells} : ∀ {k o i : Nat}, i < k → (c.seg o k).getD i undef = c.get (o + i)
  | 0, _, _, h => by omega
  | k + 1, o, 0, _ => rfl
  | k + 1, o, i + 1, h => by
    unfold Cells.seg
    rw [List.getD_cons_succ, seg_getD (by omega), Nat.add_right_comm]; rfl
theorem sub_get_inv {c : Cells} {o n : Nat} {l : List Value} (h : c.sub o n = some l) {i : Nat} (hi : i < n) : c.get (o + i) = l.getD i undef := by
  unfold Cells.sub at h
  split at h
  · cases h
    exact (seg_getD hi).symm
  · cases h
theorem sub_write_same {c : Cells} {o n : Nat} {l : List Value} (hl : l.length = n) (hn : o + n ≤ c.n) : (c.write o l).sub o n = some l := by
  refine sub_get hl (by rw [write_n]; exact hn) fun i hi => ?_
  rw [get_write, if_pos ⟨by omega, by omega⟩, Nat.add_sub_cancel_left]
theorem sub_ofList {l : List Value} {o n : Nat} (h : o + n ≤ l.length) : (Cells.ofList l).sub o n = some ((l.drop o).take n) := by
  refine sub_get (by simp; omega) (by rw [ofList_n]; exact h) fun i hi => ?_
  rw [get_ofList (by omega)]
  simp [List.getD_eq_getElem?_getD, hi]

theorem Fresh.ne {m : Mem} (h : Fresh m) {b : Nat} {o : AObj} (hb : m.get b = some o) (j : Nat) : ¬ b = m.next + j := by
  have := h.lt hb
  omega
theorem Fresh.ne0 {m : Mem} (h : Fresh m) {b : Nat} {o : AObj} (hb : m.get b = some o) : ¬ b = m.next := by
  have := h.lt hb
  omega

theorem oneOr0 : oneOr [] = .tuple [].toArray := rfl
theorem get_eq_b {m : Mem} {b k : Nat} {o : AObj} : ((m.put b o).bump k).get b = some o := get_eq
theorem lt_ne {a n : Nat} (h : a < n) (j : Nat) : ¬ a = n + j := by omega
theorem lt_ne' {a n : Nat} (h : a < n) (j : Nat) : ¬ n + j = a := by omega
theorem ne_new {m : Mem} {k : Nat} (h : k < m.next) (j : Nat) : ¬ k = m.next + j := by omega
theorem ne_new0 {m : Mem} {k : Nat} (h : k < m.next) : ¬ k = m.next := by omega
theorem TidyE.pure {m m1 : Mem} {v : Value} (h1 : plain v = true) (h : ∀ b, b < m.next → m1.get b = m.get b) : TidyE m m1 v v m := tidy_pure (rv_plain h1) h
theorem TidyE.put {m m1 : Mem} {v : Value} {b sz : Nat} {c1 c2 : Cells} {o : AObj} (hv : plain v = true) (hm : Fresh m) (hb : m.get b = some o) (h1 : m1.get b = some (.cells c1 true sz)) (hn : c1.n = c2.n) (hc : ∀ i, i < c1.n → plain (c2.get i) = true ∧ c1.get i = c2.get i)
    (h : ∀ k, k < m.next → k ≠ b → m1.get k = m.get k) : TidyE m m1 v v (m.put b (.cells c2 true sz)) :=
  tidy_put (rv_plain hv) (hm.lt hb) (by rw [hb]; simp) h1 ⟨rfl, rfl, hn, fun i hi => by
    obtain ⟨g1, g2⟩ := hc i hi
    rw [g2]
    exact rv_plain g1⟩ h
theorem Grow.new {m : Mem} {o : AObj} : Grow m ((m.put m.next o).bump 1) := ⟨by simp, fun k hk e => by
  rw [Mem.get_bump, Mem.get_put, if_neg (by omega), e]⟩
theorem rv_new {m : Mem} {a : Nat} : RV m.next [(a, m.next)] (.pointer (some ⟨a, 0, none⟩)) (.pointer (some ⟨m.next, 0, none⟩)) := rv_ptr (.inr (by simp))
theorem TidyE.new {m m1 : Mem} {v1 v : Value} {a sz : Nat} {c1 c2 : Cells} (ha : m.next ≤ a) (hv : RV m.next [(a, m.next)] v1 v) (h1 : m1.get a = some (.cells c1 true sz)) (hn : c1.n = c2.n) (hc : ∀ i, i < c1.n → plain (c2.get i) = true ∧ c1.get i = c2.get i)
    (h : ∀ k, k < m.next → m1.get k = m.get k) : TidyE m m1 v1 v ((m.put m.next (.cells c2 true sz)).bump 1) :=
  tidy_new ha hv h1 ⟨rfl, rfl, hn, fun i hi => by
    obtain ⟨g1, g2⟩ := hc i hi
    rw [g2]
    exact rv_plain g1⟩ h
def LK (l : List (Nat × Value)) : List (Nat × Value) → Prop
  | [] => True
  | (k, v) :: l' => lk l k = v ∧ LK l l'
theorem LK.all {l : List (Nat × Value)} : ∀ {l' : List (Nat × Value)}, LK l l' → ∀ p ∈ l', lk l p.1 = p.2
  | [], _, p, h => by cases h
  | (k, v) :: l', h, p, hp => by
    rcases List.mem_cons.1 hp with rfl | hp
    · exact h.1
    · exact LK.all h.2 p hp
theorem View.temps {n0 n : Nat} {rd : Option Nat} {l l' : List (Nat × Value)} {m : Mem} (h : LK l l') : View Sig.none Sig.none n0 rd (T n l) m (T n l') m := by
  replace h := h.all
  intro ρ w ts lr hR ht hr
  refine ⟨ρ, hR, ⟨by rw [← ht.1, T_length, T_length], fun i hi => ?_⟩, hr, fun _ _ => rfl, fun b o x hb hx => ⟨b, o, x, hb, hx, rfl, rfl⟩⟩
  rw [T_length] at hi
  have h1 := ht.2 i (by rwa [T_length])
  rw [T_get hi] at h1 ⊢
  have key : ∀ l' : List (Nat × Value), (∀ p ∈ l', lk l p.1 = p.2) → lk l' i = JJ ∨ lk l' i = lk l i := by
    intro l'
    induction l' with
    | nil => exact fun _ => .inl rfl
    | cons p l' ih =>
      intro h
      obtain ⟨k, v⟩ := p
      rw [lk_cons]
      by_cases e : k = i
      · subst e; rw [if_pos rfl]; exact .inr (h (k, v) (by simp)).symm
      · rw [if_neg e]; exact ih fun q hq => h q (by simp [hq])
  rcases key l' h with e | e <;> rw [e]
  · exact .junk
  · exact h1
theorem wrap_i64 {n : Int} (h1 : -9223372036854775808 ≤ n) (h2 : n < 9223372036854775808) : IntKind.i64.wrap n = n := by
  simp only [IntKind.wrap, IntKind.signed, IntKind.bits]
  simp
  omega
end
end Go.Ab
