/- Runs on open terms: lists that grow, one element each time: in a value, and in a cell that a loop over a function writes. -/
import Derived.Test.YtjajeeoahbidlaaTL
namespace Go.Ab
noncomputable section
/-- A slice that is new. -/
structure NewV (m m' : Mem) (sz : Nat) (v : Value) (n : Nat) (fl : List Value) : Prop where
  sl : SlV m' sz v n fl
  nx : Nx m m'
  new : ∀ y, slB v = some y → m.next ≤ y
section
variable {E : Env} {m m' : Mem} {sz n : Nat} {v : Value} {fl : List Value}
theorem NewV.of_bump {j : Nat} (h : NewV (m.bump j) m' sz v n fl) : NewV m m' sz v n fl := ⟨h.sl, h.nx.of_bump, fun y hy => by have := h.new y hy; rw [Mem.next_bump] at this; omega⟩
theorem NewV.bump (h : NewV m m' sz v n fl) (j : Nat) : NewV m (m'.bump j) sz v n fl := ⟨h.sl.bump j, h.nx.bump j, h.new⟩
theorem NewV.raw (h : NewV m m' sz v n fl) : Grow m m' := ⟨h.nx.next, fun y hy e => by rw [h.nx.old y hy, e]⟩
theorem NewV.nil (hm : Fresh m) : NewV m m sz (.slice none 0 0) 0 [] := ⟨SlV.nil, Nx.refl hm, fun y hy => by cases hy⟩
/-- One more at the end of a slice of our own. -/
theorem NewV.app1 {M : Mem} {ts e bytes : Nat} {u : Value} {new : List Value} {j b1 id : Nat} (he : ElemOk E.P ts e sz bytes) (hby : bytes ≤ 64) (hm : Fresh m) (hL : NewV m M sz u n fl) (hnew : new.length = sz) (hone : new.all oneCell = true)
    (hb : M.next ≤ b1 ∧ b1 < M.next + j) (hid : M.next ≤ id ∧ id < M.next + j) (hl : n < 1073741824) {K : Value × Mem → Prop}
    (hK : ∀ v' M', NewV m M' sz v' (n + 1) (fl ++ new) → M'.next = M.next + j → (∀ y, y < m.next → M'.get y = m.get y) → K (v', M')) :
    okI (appendA E.P id #[ts, ts] u (.slice (some ⟨b1, 0, none⟩) 1 1) ((M.put b1 (.cells (Cells.ofList new) true sz)).bump j)) (k := ⟨K⟩) := by
  have hnx := hL.nx.next
  have hsv : SlV ((M.put b1 (.cells (Cells.ofList new) true sz)).bump j) sz u n fl := hL.sl.keep fun y o hy ho => by
    have := hL.sl.lt hL.nx.fresh hy
    rw [Mem.get_bump, Mem.get_put, if_neg (by omega), ho]
  have hcap : (n + 1) * bytes ≤ 2 ^ 40 ∧ n + 1 ≤ 2 ^ 40 := by
    refine ⟨Nat.le_trans (Nat.mul_le_mul_left _ hby) ?_, ?_⟩ <;> omega
  refine okI_app he (k := 1) (new := new) hsv (src_put (by rw [hnew, Nat.one_mul])) (by decide) (by rw [hnew, Nat.one_mul]) hone (.inl rfl) hcap fun v' M' hA => ?_
  have n3 := hA.next
  rw [Mem.next_bump, Mem.next_put] at n3
  have hold : ∀ y, y < m.next → M'.get y = m.get y := fun y hy => by
    rw [hA.old y (by omega) (fun e => by have := hL.new y e; omega), Mem.get_bump, Mem.get_put, if_neg (by omega), hL.nx.old y hy]
  refine hK v' M' ⟨hA.sl, ⟨by omega, Fresh.of_low (by have := hm.n64; omega) fun y hy => hA.low y (by omega) (by rw [Mem.get_bump, Mem.get_put, if_neg (by omega)]; exact hL.nx.fresh.none y (by omega)), hold⟩, fun y hy => ?_⟩ n3 hold
  rcases hA.blk with ⟨h1, _⟩ | h1
  · exact hL.new y (h1 ▸ hy)
  · rw [h1] at hy; cases hy; omega
end
/-- A slice of our own, in a cell, in the midst of a loop over a function. -/
structure ColV (mr : Mem) (lp o : Nat) (r : ALoop) (sz n : Nat) (fl : List Value) (M : Mem) : Prop where
  next : mr.next ≤ M.next
  low : Low M M.next
  old : ∀ y, y < mr.next → y ≠ o → y ≠ lp → M.get y = mr.get y
  loop : M.get lp = some (.loop r)
  out : ∃ co v, M.get o = some (.cells co true 0) ∧ co.n = 1 ∧ co.nth 0 = some v ∧ SlV M sz v n fl ∧ ∀ y, slB v = some y → mr.next ≤ y ∧ y < M.next
section
variable {E : Env} {mr M : Mem} {lp o sz n : Nat} {r : ALoop} {fl : List Value}
theorem ColV.bump (h : ColV mr lp o r sz n fl M) (j : Nat) : ColV mr lp o r sz n fl (M.bump j) := by
  obtain ⟨co, v, h1, h2, h3, h4, h5⟩ := h.out
  exact ⟨by rw [Mem.next_bump]; exact Nat.le_add_right_of_le h.next, Low.up (Low.bump h.low) (by rw [Mem.next_bump]; omega), h.old, h.loop, co, v, h1, h2, h3, h4.bump j, fun y hy => ⟨(h5 y hy).1, by rw [Mem.next_bump]; have := (h5 y hy).2; omega⟩⟩
theorem ColV.grow (h : ColV mr lp o r sz n fl M) (hl : mr.get lp ≠ none) (ho : mr.get o ≠ none) : Grow mr M :=
  ⟨h.next, fun y hy e => by rw [h.old y hy (fun e2 => ho (e2 ▸ e)) (fun e2 => hl (e2 ▸ e)), e]⟩
theorem ColV.start {co : Cells} (hm : Fresh mr) (hl : mr.get lp = some (.loop r)) (ho : mr.get o = some (.cells co true 0)) (h1 : co.n = 1) (h2 : co.nth 0 = some (.slice none 0 0)) : ColV mr lp o r sz 0 [] mr :=
  ⟨Nat.le_refl _, hm.none, fun _ _ _ _ => rfl, hl, co, _, ho, h1, h2, SlV.nil, fun y hy => by cases hy⟩
/-- One round: one more. -/
theorem ColV.app {ts e bytes : Nat} {new : List Value} {j b1 id : Nat} {rb : ALoop} {co : Cells} {u : Value} (he : ElemOk E.P ts e sz bytes) (hby : bytes ≤ 64) (hol : o ≠ lp) (hl : lp < mr.next) (ho : o < mr.next) (h : ColV mr lp o r sz n fl M) (h64 : 64 ≤ mr.next)
    (hco : M.get o = some (.cells co true 0)) (hu : co.nth 0 = some u) (hnew : new.length = sz) (hone : new.all oneCell = true)
    (hb : M.next ≤ b1 ∧ b1 < M.next + j) (hid : M.next ≤ id ∧ id < M.next + j) (hib : id ≠ b1) (hn : n < 1073741824) {K : Value × Mem → Prop}
    (hK : ∀ b' c' M', M'.get lp = some (.loop rb) → M'.get o = some (.cells co true 0) → co.n = 1 → M'.next = M.next + j → (∀ y, y < M.next → slB u ≠ some y → y ≠ lp → M'.get y = M.get y) →
      (∀ j2, ColV mr lp o r sz (n + 1) (fl ++ new) (((M'.put o (.cells (co.write 0 [.slice (some ⟨b', 0, none⟩) (n + 1) c']) true 0)).put lp (.loop r)).bump j2) ∧ ∀ i, M.next + i ≤ b1 → M.next + i ≤ id → Grow (M.bump i) (((M'.put o (.cells (co.write 0 [.slice (some ⟨b', 0, none⟩) (n + 1) c']) true 0)).put lp (.loop r)).bump j2)) → K (.slice (some ⟨b', 0, none⟩) (n + 1) c', M')) :
    okI (appendA E.P id #[ts, ts] u (.slice (some ⟨b1, 0, none⟩) 1 1) (((M.put lp (.loop rb)).put b1 (.cells (Cells.ofList new) true sz)).bump j)) (k := ⟨K⟩) := by
  have hnx := h.next
  obtain ⟨co', u', k1, k2, k3, k4, k5⟩ := h.out
  rw [hco] at k1
  cases k1
  rw [hu] at k3
  cases k3
  have hun : ∀ y, slB u = some y → y ≠ lp ∧ y ≠ o ∧ y < M.next := fun y hy => by
    have := k5 y hy
    omega
  have hsv : SlV (((M.put lp (.loop rb)).put b1 (.cells (Cells.ofList new) true sz)).bump j) sz u n fl := k4.keep fun y ob hy hob => by
    obtain ⟨h1, _, h3⟩ := hun y hy
    rw [Mem.get_bump, Mem.get_put, if_neg (by omega), Mem.get_put, if_neg h1, hob]
  have hcap : (n + 1) * bytes ≤ 2 ^ 40 ∧ n + 1 ≤ 2 ^ 40 := by
    refine ⟨Nat.le_trans (Nat.mul_le_mul_left _ hby) ?_, ?_⟩ <;> omega
  refine okI_app he (k := 1) (new := new) hsv (src_put (by rw [hnew, Nat.one_mul])) (by decide) (by rw [hnew, Nat.one_mul]) hone (.inl rfl) hcap fun v' M' hA => ?_
  have n3 := hA.next
  rw [Mem.next_bump, Mem.next_put, Mem.next_put] at n3
  have hold : ∀ y, y < M.next → slB u ≠ some y → y ≠ lp → M'.get y = M.get y := fun y hy hyb hyl => by
    rw [hA.old y (by omega) hyb, Mem.get_bump, Mem.get_put, if_neg (by omega), Mem.get_put, if_neg hyl]
  have hMl : M'.get lp = some (.loop rb) := by
    rw [hA.old lp (by omega) (fun e => (hun lp e).1 rfl), Mem.get_bump, Mem.get_put, if_neg (by omega), Mem.get_put, if_pos rfl]
  have hMo : M'.get o = some (.cells co true 0) := by rw [hold o (by omega) (fun e => (hun o e).2.1 rfl) hol, hco]
  have hlow : ∀ y, y ≠ id → y ≠ b1 → y ≠ lp → M.get y = none → M'.get y = none := fun y h1 h2 h3 e => hA.low y h1 (by rw [Mem.get_bump, Mem.get_put, if_neg h2, Mem.get_put, if_neg h3]; exact e)
  have hblk : ∀ y, slB v' = some y → (mr.next ≤ y ∧ y < M'.next) ∧ y ≠ lp ∧ y ≠ o := fun y hy => by
    rcases hA.blk with ⟨h1, _⟩ | h1
    · have := k5 y (h1 ▸ hy); omega
    · rw [h1] at hy; cases hy; omega
  have hs := hA.sl
  obtain ⟨b', c', cs', rfl, -⟩ := hs.cons (by omega)
  refine hK b' c' M' hMl hMo k2 n3 hold fun j2 => ⟨⟨by simp only [Mem.next_bump, Mem.next_put]; omega, ?_, fun z hz hzo hzl => ?_, by rw [Mem.get_bump, Mem.get_put, if_pos rfl], co.write 0 [_], _, by rw [Mem.get_bump, Mem.get_put, if_neg hol, Mem.get_put, if_pos rfl], by rw [write_n, k2], by rw [nth_write, if_pos ⟨by omega, by simp, by omega⟩]; rfl, hs.keep fun y ob hy hob => ?_, fun y hy => ⟨(hblk y hy).1.1, by simp only [Mem.next_bump, Mem.next_put]; have := (hblk y hy).1.2; omega⟩⟩, fun i hi1 hi2 => ⟨by simp only [Mem.next_bump, Mem.next_put]; omega, fun y hy e => ?_⟩⟩
  · have hL : Low M' M'.next := fun y hy => hlow y (by omega) (by omega) (by omega) (h.low y (by omega))
    exact Low.up (Low.bump (Low.put (Low.put hL (by omega)) (by omega))) (by simp only [Mem.next_bump, Mem.next_put]; omega)
  · rw [Mem.get_bump, Mem.get_put, if_neg hzl, Mem.get_put, if_neg hzo, hold z (by omega) (fun e => by have := k5 z e; omega) hzl]
    exact h.old z hz hzo hzl
  · rw [Mem.get_bump, Mem.get_put, if_neg (hblk y hy).2.1, Mem.get_put, if_neg (hblk y hy).2.2]
    exact hob
  · rw [Mem.next_bump] at hy
    rw [Mem.get_bump] at e
    have x1 : y ≠ lp := fun e2 => by rw [e2, h.loop] at e; cases e
    have x2 : y ≠ o := fun e2 => by rw [e2, hco] at e; cases e
    rw [Mem.get_bump, Mem.get_put, if_neg x1, Mem.get_put, if_neg x2]
    exact hlow y (by omega) (by omega) x1 e
end
end
end Go.Ab
