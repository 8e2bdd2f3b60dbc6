/- Runs on open terms: a list that grows in a cell, where a map is written too. -/
import Derived.Test.YtjajeeoahbidlaaTO
namespace Go.Ab
noncomputable section
section
variable {E : Env} {mr mr' M M' : Mem} {lp o sz n b : Nat} {r : ALoop} {fl : List Value}
theorem ColV.base (h : ColV mr lp o r sz n fl M) (hn : mr'.next = mr.next) (hg : ∀ y, mr'.get y = mr.get y) : ColV mr' lp o r sz n fl M := by
  obtain ⟨co, v, h1, h2, h3, h4, h5⟩ := h.out
  exact ⟨by rw [hn]; exact h.next, h.low, fun y hy y1 y2 => by rw [hg]; exact h.old y (by omega) y1 y2, h.loop, co, v, h1, h2, h3, h4, fun y hy => by rw [hn]; exact h5 y hy⟩
/-- What looks alike. -/
theorem ColV.alike (h : ColV mr lp o r sz n fl M) (hn : M'.next = M.next) (hg : ∀ y, M'.get y = M.get y) : ColV mr lp o r sz n fl M' := by
  obtain ⟨co, v, h1, h2, h3, h4, h5⟩ := h.out
  exact ⟨by rw [hn]; exact h.next, fun y hy => by rw [hg]; exact h.low y (by omega), fun y hy y1 y2 => by rw [hg]; exact h.old y hy y1 y2, by rw [hg]; exact h.loop, co, v, by rw [hg]; exact h1, h2, h3, h4.keep fun y ob _ hy => by rw [hg]; exact hy, fun y hy => by rw [hn]; exact h5 y hy⟩
/-- An old block is written. -/
theorem ColV.wr {X : AObj} (h : ColV mr lp o r sz n fl M) (hb : b < mr.next) (hbo : b ≠ o) (hbl : b ≠ lp) : ColV (mr.put b X) lp o r sz n fl (M.put b X) := by
  obtain ⟨co, v, h1, h2, h3, h4, h5⟩ := h.out
  have hnx := h.next
  refine ⟨by simp only [Mem.next_put]; exact h.next, by rw [Mem.next_put]; exact Low.put h.low (by omega), fun y hy y1 y2 => ?_, by rw [Mem.get_put, if_neg (Ne.symm hbl)]; exact h.loop, co, v, by rw [Mem.get_put, if_neg (Ne.symm hbo)]; exact h1, h2, h3, h4.keep fun y ob hy hob => ?_, fun y hy => by simp only [Mem.next_put]; exact h5 y hy⟩
  · rw [Mem.next_put] at hy
    rw [Mem.get_put, Mem.get_put]
    split
    · rfl
    · exact h.old y hy y1 y2
  · have := (h5 y hy).1
    rw [Mem.get_put, if_neg (by omega)]; exact hob
/-- One round: one more; the memory in which it is appended is told by what it holds. -/
theorem ColV.app2 {ts e bytes : Nat} {new : List Value} {j b1 id : Nat} {rb : ALoop} {co : Cells} {u : Value} {Mz : Mem} (he : ElemOk E.P ts e sz bytes) (hby : bytes ≤ 64) (hol : o ≠ lp) (hl : lp < mr.next) (ho : o < mr.next) (h : ColV mr lp o r sz n fl M) (h64 : 64 ≤ mr.next)
    (hco : M.get o = some (.cells co true 0)) (hu : co.nth 0 = some u) (hnew : new.length = sz) (hone : new.all oneCell = true)
    (hz1 : Mz.get lp = some (.loop rb)) (hz2 : Mz.get b1 = some (.cells (Cells.ofList new) true sz)) (hz3 : ∀ y, y ≠ lp → y ≠ b1 → Mz.get y = M.get y) (hz4 : Mz.next = M.next + j)
    (hb : M.next ≤ b1 ∧ b1 < M.next + j) (hid : M.next ≤ id ∧ id < M.next + j) (hib : id ≠ b1) (hn : n < 1073741824) {K : Value × Mem → Prop}
    (hK : ∀ b' c' M', M'.get lp = some (.loop rb) → M'.get o = some (.cells co true 0) → co.n = 1 → M'.next = M.next + j → (∀ y, y < M.next → slB u ≠ some y → y ≠ lp → M'.get y = M.get y) →
      (∀ j2, ColV mr lp o r sz (n + 1) (fl ++ new) (((M'.put o (.cells (co.write 0 [.slice (some ⟨b', 0, none⟩) (n + 1) c']) true 0)).put lp (.loop r)).bump j2) ∧ ∀ i, M.next + i ≤ b1 → M.next + i ≤ id → Grow (M.bump i) (((M'.put o (.cells (co.write 0 [.slice (some ⟨b', 0, none⟩) (n + 1) c']) true 0)).put lp (.loop r)).bump j2)) → K (.slice (some ⟨b', 0, none⟩) (n + 1) c', M')) :
    okI (appendA E.P id #[ts, ts] u (.slice (some ⟨b1, 0, none⟩) 1 1) Mz) (k := ⟨K⟩) := by
  have hnx := h.next
  obtain ⟨co', u', k1, k2, k3, k4, k5⟩ := h.out
  rw [hco] at k1
  cases k1
  rw [hu] at k3
  cases k3
  have hun : ∀ y, slB u = some y → y ≠ lp ∧ y ≠ o ∧ y < M.next := fun y hy => by
    have := k5 y hy
    omega
  have hsv : SlV Mz sz u n fl := k4.keep fun y ob hy hob => by
    obtain ⟨h1, _, h3⟩ := hun y hy
    rw [hz3 y h1 (by omega), hob]
  have hcap : (n + 1) * bytes ≤ 2 ^ 40 ∧ n + 1 ≤ 2 ^ 40 := by
    refine ⟨Nat.le_trans (Nat.mul_le_mul_left _ hby) ?_, ?_⟩ <;> omega
  have hsrc : srcA sz (.slice (some ⟨b1, 0, none⟩) 1 1) Mz = some (new, 1) := by
    rw [src_at, hz2, srcC_cells, sub_ofList (by omega)]
    simp [← hnew]
  refine okI_app he (k := 1) (new := new) hsv hsrc (by decide) (by rw [hnew, Nat.one_mul]) hone (.inl rfl) hcap fun v' M' hA => ?_
  have n3 := hA.next
  rw [hz4] at n3
  have hold : ∀ y, y < M.next → slB u ≠ some y → y ≠ lp → M'.get y = M.get y := fun y hy hyb hyl => by
    rw [hA.old y (by omega) hyb, hz3 y hyl (by omega)]
  have hMl : M'.get lp = some (.loop rb) := by
    rw [hA.old lp (by omega) (fun e => (hun lp e).1 rfl), hz1]
  have hMo : M'.get o = some (.cells co true 0) := by rw [hold o (by omega) (fun e => (hun o e).2.1 rfl) hol, hco]
  have hlow : ∀ y, y ≠ id → y ≠ b1 → y ≠ lp → M.get y = none → M'.get y = none := fun y h1 h2 h3 e => hA.low y h1 (by rw [hz3 y h3 h2]; exact e)
  have hblk : ∀ y, slB v' = some y → (mr.next ≤ y ∧ y < M'.next) ∧ y ≠ lp ∧ y ≠ o := fun y hy => by
    rcases hA.blk with ⟨h1, _⟩ | h1
    · have := k5 y (h1 ▸ hy); omega
    · rw [h1] at hy; cases hy; omega
  have hs := hA.sl
  obtain ⟨b', c', cs', rfl, -⟩ := hs.cons (by omega)
  refine hK b' c' M' hMl hMo k2 n3 hold fun j2 => ⟨⟨by simp only [Mem.next_bump, Mem.next_put]; omega, ?_, fun z hz hzo hzl => ?_, by rw [Mem.get_bump, Mem.get_put, if_pos rfl], co.write 0 [_], _, by rw [Mem.get_bump, Mem.get_put, if_neg hol, Mem.get_put, if_pos rfl], by rw [write_n, k2], by rw [nth_write, if_pos ⟨by omega, by simp, by omega⟩]; rfl, hs.keep fun y ob hy hob => ?_, fun y hy => ⟨(hblk y hy).1.1, by simp only [Mem.next_bump, Mem.next_put]; have := (hblk y hy).1.2; omega⟩⟩, fun i hi1 hi2 => ⟨by simp only [Mem.next_bump, Mem.next_put]; omega, fun y hy e => ?_⟩⟩
  · have hL : Low M' M'.next := fun y hy => hlow y (by omega) (by omega) (by omega) (h.low y (by omega))
    exact Low.up (Low.bump (Low.put (Low.put hL (by omega)) (by omega))) (by simp only [Mem.next_bump, Mem.next_put]; omega)
  · rw [Mem.get_bump, Mem.get_put, if_neg hzl, Mem.get_put, if_neg hzo, hold z (by omega) (fun e => by have := k5 z e; omega) hzl]
    exact h.old z hz hzo hzl
  · rw [Mem.get_bump, Mem.get_put, if_neg (hblk y hy).2.1, Mem.get_put, if_neg (hblk y hy).2.2]
    exact hob
  · rw [Mem.next_bump] at hy
    rw [Mem.get_bump] at e
    have x1 : y ≠ lp := fun e2 => by rw [e2, h.loop] at e; cases e
    have x2 : y ≠ o := fun e2 => by rw [e2, hco] at e; cases e
    rw [Mem.get_bump, Mem.get_put, if_neg x1, Mem.get_put, if_neg x2]
    exact hlow y (by omega) (by omega) x1 e
end
/-! ### maps: plain laws -/
section
variable {α : Type}
theorem mget_set {p q : Int} {v : α} : ∀ {L : List (Int × α)}, mget (mset L p v) q = if q = p then some v else mget L q
  | [] => by unfold mset mget mget; rfl
  | (x, u) :: L => by
    have ih := mget_set (p := p) (q := q) (v := v) (L := L)
    unfold mset
    by_cases e : p = x
    · rw [if_pos e]
      unfold mget
      by_cases e2 : q = p
      · rw [if_pos e2, if_pos e2]
      · rw [if_neg e2, if_neg e2, if_neg (by rw [← e]; exact e2)]
    · rw [if_neg e]
      unfold mget
      rw [ih]
      by_cases e2 : q = x
      · rw [if_pos e2, if_pos e2, if_neg (by rw [e2]; exact fun h => e h.symm)]
      · rw [if_neg e2, if_neg e2]
theorem mget_del {p q : Int} (h : q ≠ p) : ∀ {L : List (Int × α)}, mget (mdel L p) q = mget L q
  | [] => rfl
  | (x, u) :: L => by
    have ih := mget_del h (L := L)
    unfold mdel
    by_cases e : p = x
    · rw [if_pos e]
      conv => rhs; unfold mget
      rw [if_neg (by rw [← e]; exact h)]
    · rw [if_neg e]
      unfold mget
      rw [ih]
theorem mget_none {p : Int} : ∀ {L : List (Int × α)}, p ∉ mkeys L → mget L p = none
  | [], _ => rfl
  | (x, u) :: L, h => by
    unfold mget
    rw [if_neg (fun e => h (by rw [e]; exact List.mem_cons_self)), mget_none fun hm => h (List.mem_cons_of_mem _ hm)]
theorem mget_mem {p : Int} : ∀ {L : List (Int × α)}, p ∈ mkeys L → (mget L p).isSome = true
  | (q, u) :: L, h => by
    unfold mget
    split
    · rfl
    · rename_i hne
      rcases List.mem_cons.1 h with h | h
      · exact absurd h hne
      · exact mget_mem h
theorem mem_keys {p : Int} {L : List (Int × α)} : p ∈ mkeys L ↔ (mget L p).isSome = true := by
  constructor
  · exact mget_mem
  · intro h
    by_cases hp : p ∈ mkeys L
    · exact hp
    · rw [mget_none hp] at h; cases h
theorem mget_del_self {p : Int} : ∀ {L : List (Int × α)}, (mkeys L).Nodup → mget (mdel L p) p = none
  | [], _ => rfl
  | (x, u) :: L, h => by
    rw [mkeys, List.map_cons, List.nodup_cons] at h
    unfold mdel
    by_cases e : p = x
    · rw [if_pos e]; exact mget_none (by rw [e]; exact h.1)
    · rw [if_neg e]
      unfold mget
      rw [if_neg e, mget_del_self h.2]
theorem keys_set {p : Int} {v : α} : ∀ {L : List (Int × α)}, mkeys (mset L p v) = if p ∈ mkeys L then mkeys L else mkeys L ++ [p]
  | [] => rfl
  | (x, u) :: L => by
    have ih := keys_set (p := p) (v := v) (L := L)
    unfold mset
    by_cases e : p = x
    · rw [if_pos e, if_pos (by rw [e]; exact List.mem_cons_self)]
      show p :: mkeys L = x :: mkeys L
      rw [e]
    · rw [if_neg e]
      show x :: mkeys (mset L p v) = if p ∈ x :: mkeys L then x :: mkeys L else x :: mkeys L ++ [p]
      rw [ih]
      by_cases hm : p ∈ mkeys L
      · rw [if_pos hm, if_pos (show p ∈ x :: mkeys L from List.mem_cons_of_mem _ hm)]
      · rw [if_neg hm, if_neg (show ¬ p ∈ x :: mkeys L from fun h => by rcases List.mem_cons.1 h with h | h; exact e h; exact hm h)]
        rfl
theorem nodup_set {p : Int} {v : α} {L : List (Int × α)} (h : (mkeys L).Nodup) : (mkeys (mset L p v)).Nodup := by
  rw [keys_set]
  split
  · exact h
  · rename_i hm
    exact List.nodup_append.2 ⟨h, by simp, fun y hy z hz e => by rw [List.mem_singleton] at hz; exact hm (by rw [← hz, ← e]; exact hy)⟩
theorem keys_del {p : Int} : ∀ {L : List (Int × α)}, (mkeys (mdel L p)).Sublist (mkeys L)
  | [] => List.Sublist.refl _
  | (x, u) :: L => by
    unfold mdel
    by_cases e : p = x
    · rw [if_pos e]; exact List.sublist_cons_self _ _
    · rw [if_neg e]; exact List.Sublist.cons_cons _ keys_del
theorem nodup_del {p : Int} {L : List (Int × α)} (h : (mkeys L).Nodup) : (mkeys (mdel L p)).Nodup := h.sublist keys_del
end
end
end Go.Ab
