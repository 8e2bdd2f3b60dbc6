/- QueuePlays: the program's queues and the document's, side by side: memory, and plain law. -/
import Derived.Test.YtikmfccjfhobbaaQuRR
import Derived.Test.YtikmfccjfhobbaaQuA6
namespace Go.Ab
open Go.Proofs
noncomputable section
set_option maxHeartbeats 4000000
/-- Both, and blocks that stay. -/
def Both (M : Mem) (q b c : Nat) (l : Nat → List Int) (I : Items) (W : Nat → Prop) : Prop := ∃ O v, Qs M q c l (fun y => W y ∨ O y) ∧ RAt M b O c v I ∧ ∀ y, O y → ¬ W y
section
variable {M M' : Mem} {q b c : Nat} {l l' : Nat → List Int} {I I' : Items} {W : Nat → Prop}
theorem Both.bump (h : Both M q b c l I W) (j : Nat) : Both (M.bump j) q b c l I W := by
  obtain ⟨O, v, h1, h2, h3⟩ := h
  exact ⟨O, v, h1.bump j, h2.bump j, h3⟩
theorem Both.nx (h : Both M q b c l I W) (hn : Nx M M') : Both M' q b c l I W := by
  obtain ⟨O, v, h1, h2, h3⟩ := h
  exact ⟨O, v, h1.nx hn, h2.nx h1.fresh hn, h3⟩
theorem Both.fresh (h : Both M q b c l I W) : Fresh M := by
  obtain ⟨O, v, h1, h2, h3⟩ := h
  exact h1.fresh
/-- A call of the program's. -/
theorem Both.pcall (h : Both M q b c l I W) {f : FuncId} {args : List Value} {R : Value → (Nat → List Int) → Prop}
    (hc : ∀ W', Qs M q c l W' → ∃ v M', Con EE.P f args M v M' ∧ ∃ l', Qs M' q c l' W' ∧ Wx W' M M' ∧ R v l') : ∃ v M', Con EE.P f args M v M' ∧ ∃ l', Both M' q b c l' I W ∧ Wx W M M' ∧ R v l' := by
  obtain ⟨O, v, h1, h2, h3⟩ := h
  obtain ⟨u, M', hc, l', h4, h5, h6⟩ := hc _ h1
  exact ⟨u, M', hc, l', ⟨O, v, h4, h2.keep fun y o hy ho => by rw [h5.old y (.inr hy)]; exact ho, h3⟩, h5.mono fun y hy => .inl hy, h6⟩
/-- A call of the document's. -/
theorem Both.rcall (h : Both M q b c l I W) {f : FuncId} {args : List Value} {R : Value → Items → Prop}
    (hc : ∀ O v, RAt M b O c v I → (∀ y, O y → y < M.next) → ∃ u M', Con EE.P f args M u M' ∧ ∃ I', RN M b O c I' M' ∧ R u I') : ∃ u M', Con EE.P f args M u M' ∧ ∃ I', Both M' q b c l I' W ∧ Wx W M M' ∧ R u I' := by
  obtain ⟨O, v, h1, h2, h3⟩ := h
  obtain ⟨u, M', hc, I', h4, h6⟩ := hc O v h2 fun y hy => h1.wlt y (.inr hy)
  obtain ⟨v', h5⟩ := h4.at_
  have hnx := h4.next
  obtain ⟨O1, sl, cs, k1, k2⟩ := h1.at_
  have hw : ∀ y, W y → y < M.next := fun y hy => h1.wlt y (.inl hy)
  refine ⟨u, M', hc, I', ⟨_, v', ⟨h4.fresh, fun y hy => ?_, O1, sl, cs, k1.keep fun y o hy ho => ?_, fun y hy => ⟨by have := (k2 y hy).1; omega, fun e => ?_⟩⟩, h5, fun y hy e => ?_⟩, ⟨hnx, fun y hy => h4.old y (hw y hy) fun e => h3 y e hy, h4.low⟩, h6⟩
  · rcases hy with hy | hy | hy
    · have := hw y hy; omega
    · have := h1.wlt y (.inr hy); omega
    · exact hy.2
  · rw [h4.old y (k2 y hy).1 fun e => (k2 y hy).2 (.inr e), ho]
  · have := k2 y hy
    rcases e with e | e | e
    · exact this.2 (.inl e)
    · exact this.2 (.inr e)
    · have := e.1; omega
  · rcases hy with hy | hy
    · exact h3 y hy e
    · have := hw y e; have := hy.1; omega
/-- A call of the document's that turns nothing. -/
theorem Both.rlook (h : Both M q b c l I W) {f : FuncId} {args : List Value} {R : Value → Mem → Prop}
    (hc : ∀ O v, RAt M b O c v I → (∀ y, O y → y < M.next) → ∃ u M', Con EE.P f args M u M' ∧ Nx M M' ∧ R u M') : ∃ u M', Con EE.P f args M u M' ∧ Both M' q b c l I W ∧ Nx M M' ∧ R u M' := by
  obtain ⟨O, v, h1, h2, h3⟩ := id h
  obtain ⟨u, M', hc, h4, h6⟩ := hc O v h2 fun y hy => h1.wlt y (.inr hy)
  exact ⟨u, M', hc, h.nx h4, h4, h6⟩
theorem Both.con (h : Both M q b c l I W) {f : FuncId} {args : List Value} {u : Value} (hc : ∀ O v, RAt M b O c v I → Con EE.P f args M u M) : Con EE.P f args M u M := by
  obtain ⟨O, v, h1, h2, h3⟩ := h
  exact hc O v h2
theorem Both.qcon (h : Both M q b c l I W) {f : FuncId} {args : List Value} {u : Value} (hc : ∀ W', Qs M q c l W' → Con EE.P f args M u M) : Con EE.P f args M u M := by
  obtain ⟨O, v, h1, h2, h3⟩ := h
  exact hc _ h1
end
/-! ### the plain law -/
def Rng (I : Items) (c : Nat) : Prop := ∀ p ∈ I, 0 ≤ p.2 ∧ p.2 < (c : Int)
section
variable {c n : Nat} {I : Items} {x : Int} {a : BitVec 32}
theorem whI_spec : ∀ {I : Items}, (whI I x = -1 ∧ ∀ p ∈ I, p.1 ≠ x) ∨ ∃ p ∈ I, p.1 = x ∧ whI I x = p.2
  | [] => .inl ⟨rfl, fun p hp => by cases hp⟩
  | p :: I => by
    rw [whI_cons]
    by_cases h : p.1 = x
    · rw [if_pos h]; exact .inr ⟨p, by simp, h, rfl⟩
    · rw [if_neg h]
      rcases whI_spec (I := I) with ⟨h1, h2⟩ | ⟨r, h1, h2, h3⟩
      · exact .inl ⟨h1, fun r hr => by rcases List.mem_cons.1 hr with rfl | hr; exact h; exact h2 r hr⟩
      · exact .inr ⟨r, by simp [h1], h2, h3⟩
theorem mem_ls {k : Int} : x ∈ lsI I k ↔ (x, k) ∈ I := by
  unfold lsI
  simp only [List.mem_map, List.mem_filter, decide_eq_true_eq]
  constructor
  · rintro ⟨p, ⟨h1, h2⟩, rfl⟩; rw [← h2]; exact h1
  · intro h; exact ⟨_, ⟨h, rfl⟩, rfl⟩
theorem wh_eq (hD : Dq c (lsN I) n) (hr : Rng I c) : whQ c (lsN I) x = whI I x := by
  rcases whI_spec (I := I) (x := x) with ⟨h1, h2⟩ | ⟨p, h1, h2, h3⟩
  · rw [h1]
    exact wh_none fun j hj h => h2 (x, (j : Int)) (mem_ls.1 h) rfl
  · have hp := hr p h1
    have e : p.2 = ((p.2.toNat : Nat) : Int) := by omega
    rw [h3, e]
    refine hD.wh (by omega) (mem_ls.2 ?_)
    rw [← h2, ← e]; exact h1
theorem ls_push {f : Nat} : lsN (I ++ [(x, (f : Int))]) = updL (lsN I) f (lsN I f ++ [x]) := by
  funext k
  show lsI _ _ = _
  rw [lsI_snoc]
  unfold updL
  by_cases h : k = f
  · subst h; rw [if_pos rfl, if_pos rfl]
  · rw [if_neg h, if_neg (by omega)]
theorem Rng.push {f : Nat} (h : Rng I c) (hf : f < c) : Rng (I ++ [(x, (f : Int))]) c := fun p hp => by
  rcases List.mem_append.1 hp with hp | hp
  · exact h p hp
  · rw [List.mem_singleton] at hp; subst hp; exact ⟨by simp, by simpa using hf⟩
theorem Rng.cut (h : Rng I c) : Rng (cutI I x) c := fun p hp => h p (List.mem_filter.1 hp).1
theorem ls_cut_f {k : Int} : lsI (cutI I x) k = (lsI I k).filter fun y => y ≠ x := by
  unfold lsI cutI
  rw [List.filter_map, List.filter_filter, List.filter_filter]
  congr 1
  refine List.filter_congr fun p _ => ?_
  simp [Bool.and_comm]
theorem ls_cut (hD : Dq c (lsN I) n) {w : Nat} (hw : w < c) (hx : x ∈ lsN I w) : lsN (cutI I x) = updL (lsN I) w ((lsN I w).erase x) := by
  funext k
  show lsI _ _ = _
  rw [ls_cut_f]
  unfold updL
  by_cases h : k = w
  · subst h
    rw [if_pos rfl, (hD.nd k hw).erase_eq_filter]
    refine List.filter_congr fun y _ => ?_
    by_cases e : y = x <;> simp [e]
  · rw [if_neg h]
    refine List.filter_eq_self.2 fun y hy => ?_
    by_cases hk : k < c
    · have hne : y ≠ x := fun e => hD.dis k w hk hw h y hy (by rw [e]; exact hx)
      simpa using hne
    · have := hD.emp k (by omega)
      rw [show lsI I (k : Int) = lsN I k from rfl, this] at hy; cases hy
theorem cut_none (h : ∀ p ∈ I, p.1 ≠ x) : cutI I x = I := List.filter_eq_self.2 fun p hp => by simpa using h p hp
theorem cut_lt {p : Int × Int} (h : p ∈ I) (hx : p.1 = x) : (cutI I x).length < I.length := by
  refine Nat.lt_of_le_of_ne cutI_len fun e => ?_
  have := List.filter_eq_self.1 (List.Sublist.eq_of_length (List.filter_sublist (p := fun p : Int × Int => decide (p.1 ≠ x)) (l := I)) e) p h
  simp [hx] at this
theorem few_upd {l : Nat → List Int} {w : Nat} {r : List Int} (hw : mb a w = false) : ∀ {n : Nat}, fewTo (updL l w r) a n = fewTo l a n
  | 0 => rfl
  | n + 1 => by
    rw [fewTo_succ, fewTo_succ, few_upd hw (n := n)]
    unfold fewStep
    by_cases hb : mb a n = true
    · have hn : n ≠ w := fun e => by rw [e, hw] at hb; cases hb
      rw [if_pos hb, if_pos hb]
      have e1 : updL l w r n = l n := if_neg hn
      rw [e1]
      rcases few_bst (l := l) (a := a) (n := n) with ⟨e, _⟩ | ⟨f, e, _, _, f3, _⟩
      · rw [e, if_pos (.inl (by decide)), if_pos (.inl (by decide))]
      · have hf : f ≠ w := fun e => by rw [e, hw] at f3; cases f3
        rw [e, Int.toNat_natCast, show updL l w r f = l f from if_neg hf]
    · rw [if_neg hb, if_neg hb]
theorem cat_congr {l l' : Nat → List Int} : ∀ {n : Nat}, (∀ k, k < n → l k = l' k) → catTo l n = catTo l' n
  | 0, _ => rfl
  | n + 1, h => by rw [catTo_succ, catTo_succ, cat_congr fun k hk => h k (by omega), h n (by omega)]
theorem cat_upd {l : Nat → List Int} {f : Nat} {r : List Int} : ∀ {n : Nat}, f < n → (catTo (updL l f r) n ++ l f).Perm (catTo l n ++ r)
  | 0, h => absurd h (Nat.not_lt_zero _)
  | n + 1, h => by
    rw [catTo_succ, catTo_succ]
    by_cases e : f = n
    · subst e
      have e1 : catTo (updL l f r) f = catTo l f := cat_congr fun k hk => if_neg (by omega)
      rw [e1, show updL l f r f = r from if_pos rfl, List.append_assoc, List.append_assoc]
      exact List.Perm.append_left _ List.perm_append_comm
    · have ih := cat_upd (l := l) (r := r) (show f < n by omega)
      rw [show updL l f r n = l n from if_neg (fun e2 => e e2.symm), List.append_assoc, List.append_assoc]
      refine (List.Perm.append_left _ List.perm_append_comm).trans ?_
      rw [← List.append_assoc]
      refine (ih.append_right _).trans ?_
      rw [List.append_assoc]
      exact List.Perm.append_left _ List.perm_append_comm
theorem items_perm : ∀ {I : Items}, Rng I c → (catTo (lsN I) c).Perm (I.map Prod.fst)
  | [], _ => by
    have : ∀ n, catTo (lsN []) n = [] := fun n => by
      induction n with
      | zero => rfl
      | succ n ih => rw [catTo_succ, ih]; rfl
    rw [this]; exact List.Perm.refl _
  | p :: I, h => by
    have hp := h p (by simp)
    have ih := items_perm (I := I) fun r hr => h r (by simp [hr])
    have e : lsN (p :: I) = updL (lsN I) p.2.toNat (p.1 :: lsN I p.2.toNat) := by
      funext k
      show lsI (p :: I) k = _
      unfold updL lsI
      rw [List.filter_cons]
      by_cases e : k = p.2.toNat
      · rw [if_pos e, if_pos (by simp; omega), List.map_cons]
        subst e
        rfl
      · rw [if_neg e, if_neg (by simp; omega)]; rfl
    rw [e]
    have h1 := cat_upd (l := lsN I) (f := p.2.toNat) (r := p.1 :: lsN I p.2.toNat) (n := c) (by omega)
    have h2 : (catTo (lsN I) c ++ p.1 :: lsN I p.2.toNat).Perm ((p.1 :: catTo (lsN I) c) ++ lsN I p.2.toNat) := List.perm_middle
    rw [List.map_cons]
    exact ((List.perm_append_right_iff _).1 (h1.trans h2)).trans (ih.cons _)
theorem all_perm : ∀ {I : Items} {o : List Int}, (I.foldl (fun o p => ins p.1 o) o).Perm (I.map Prod.fst ++ o)
  | [], o => List.Perm.refl _
  | p :: I, o => by
    rw [List.foldl_cons]
    refine (all_perm (I := I) (o := ins p.1 o)).trans ?_
    rw [List.map_cons]
    exact (List.Perm.append_left _ (ins_perm p.1 o)).trans List.perm_middle
theorem all_sorted : ∀ {I : Items} {o : List Int}, o.Pairwise (· ≤ ·) → (I.foldl (fun o p => ins p.1 o) o).Pairwise (· ≤ ·)
  | [], o, h => h
  | p :: I, o, h => by
    rw [List.foldl_cons]
    exact all_sorted (ins_sorted p.1 o h)
theorem all_eq (h : Rng I c) (hc : c ≤ 8) : isort (catTo (lsN I) 8) = allI I := by
  have h8 : Rng I 8 := fun p hp => ⟨(h p hp).1, by have := (h p hp).2; omega⟩
  refine List.Perm.eq_of_pairwise (le := fun a b : Int => a ≤ b) (fun a b _ _ h1 h2 => Int.le_antisymm h1 h2) (isort_sorted _) (all_sorted List.Pairwise.nil) ?_
  refine (isort_perm _).trans ((items_perm h8).trans ?_)
  have := all_perm (I := I) (o := [])
  rw [List.append_nil] at this
  exact this.symm
end
end
end Go.Ab
/- QueuePlays: each call, of the program's queues and of the document's. -/
namespace Go.Ab
open Go.Proofs
noncomputable section
set_option maxHeartbeats 4000000
section
variable {M : Mem} {q b c n : Nat} {I : Items} {W : Nat → Prop} {a : BitVec 32} {x k : Int}
theorem both_place (h : Both M q b c (lsN I) I W) (hD : Dq c (lsN I) n) (hr : Rng I c) (hc : c ≤ 8) (hn : n < 1000) (hI : I.length ≤ n) :
    ∃ v M1, Con EE.P 10 [PT q, In x, In k, Um a] M v M1 ∧ ∃ r e I', v = .tuple [In r, In e].toArray ∧ Both M1 q b c (lsN I') I W ∧ Wx W M M1 ∧ Dq c (lsN I') (n + 1) ∧ Rng I' c ∧ I'.length ≤ n + 1 ∧
      ∀ M2, Both M2 q b c (lsN I') I W → ∃ u M3, Con EE.P 19 [PT b, In x, In k, Um a] M2 u M3 ∧ u = .tuple [In r, In e].toArray ∧ Both M3 q b c (lsN I') I' W ∧ Wx W M2 M3 := by
  have hs := hD.sh hc hn
  have hwe := wh_eq (x := x) hD hr
  have hI8 : I.length < 1073741824 := by omega
  by_cases hx : x < 1
  · obtain ⟨v, M1, hc1, l1, h1, h2, rfl, rfl⟩ := h.pcall (R := fun v l' => v = .tuple [In 0, In 2].toArray ∧ l' = lsN I) fun W' hQ => ⟨_, M, hQ.place_bad (k := k) (a := a) hx, _, hQ, Wx.refl, rfl, rfl⟩
    refine ⟨_, M1, hc1, 0, 2, I, rfl, h1, h2, hD.mono (by omega), hr, by omega, fun M2 hB => ?_⟩
    obtain ⟨u, M3, hc2, I', h3, h4, rfl, rfl⟩ := hB.rcall (R := fun u I' => u = .tuple [In 0, In 2].toArray ∧ I' = I) fun O v hR hO => by
      obtain ⟨u, M', hc2, hP⟩ := place_r (k := k) (x := x) (a := a) hR hB.fresh hO hc hI8
      rcases hP with ⟨_, h2, h3⟩ | ⟨h1, _⟩ | ⟨h1, _⟩
      · exact ⟨u, M', hc2, I, h3, h2, rfl⟩
      · exact absurd hx h1
      · exact absurd hx h1
    exact ⟨_, M3, hc2, rfl, h3, h4⟩
  by_cases hw : 0 ≤ whI I x ∨ fewTo (lsN I) a c < 0
  · obtain ⟨v, M1, hc1, l1, h1, h2, rfl, rfl⟩ := h.pcall (R := fun v l' => v = .tuple [In 0, In 130].toArray ∧ l' = lsN I) fun W' hQ => ⟨_, M, hQ.place_not (x := x) (k := k) (a := a) hs (by omega) (by rw [hwe]; exact hw), _, hQ, Wx.refl, rfl, rfl⟩
    refine ⟨_, M1, hc1, 0, 130, I, rfl, h1, h2, hD.mono (by omega), hr, by omega, fun M2 hB => ?_⟩
    obtain ⟨u, M3, hc2, I', h3, h4, rfl, rfl⟩ := hB.rcall (R := fun u I' => u = .tuple [In 0, In 130].toArray ∧ I' = I) fun O v hR hO => by
      obtain ⟨u, M', hc2, hP⟩ := place_r (k := k) (x := x) (a := a) hR hB.fresh hO hc hI8
      rcases hP with ⟨h1, _⟩ | ⟨_, _, h2, h3⟩ | ⟨_, h1, h2, _⟩
      · exact absurd h1 hx
      · exact ⟨u, M', hc2, I, h3, h2, rfl⟩
      · exact absurd hw (by omega)
    exact ⟨_, M3, hc2, rfl, h3, h4⟩
  have h1 : ¬ 0 ≤ whI I x := fun e => hw (.inl e)
  have h2 : ¬ fewTo (lsN I) a c < 0 := fun e => hw (.inr e)
  obtain ⟨t, ht⟩ : ∃ t, t = placeQ c (lsN I) a k := ⟨_, rfl⟩
  have htc : t < c := by rw [ht]; exact placeQ_lt (by omega)
  have hno : ∀ j, j < c → x ∉ lsN I j := wh_not (by rw [hwe]; omega)
  obtain ⟨v, M1, hc1, l1, h3, h4, rfl, rfl⟩ := h.pcall (R := fun v l' => v = .tuple [In t, In 0].toArray ∧ l' = lsN (I ++ [(x, (t : Int))])) fun W' hQ => by
    obtain ⟨v, M', hc1, hv, h3, h4⟩ := hQ.place (k := k) (a := a) (x := x) hs (by omega) (by rw [hwe]; exact h1) (by omega)
    rw [← ht] at hv h3
    exact ⟨v, M', hc1, _, h3, h4, hv, by rw [ls_push]⟩
  refine ⟨_, M1, hc1, t, 0, I ++ [(x, (t : Int))], rfl, h3, h4, by rw [ls_push]; exact hD.push htc hc hno, hr.push htc, by simp; omega, fun M2 hB => ?_⟩
  obtain ⟨u, M3, hc2, I', h5, h6, rfl, rfl⟩ := hB.rcall (R := fun u I' => u = .tuple [In t, In 0].toArray ∧ I' = I ++ [(x, (t : Int))]) fun O v hR hO => by
    obtain ⟨u, M', hc2, hP⟩ := place_r (k := k) (x := x) (a := a) hR hB.fresh hO hc hI8
    rcases hP with ⟨h1, _⟩ | ⟨_, h1, _⟩ | ⟨_, _, _, h2, h3⟩
    · exact absurd h1 hx
    · exact absurd h1 hw
    · rw [← ht] at h2 h3
      exact ⟨u, M', hc2, _, h3, h2, rfl⟩
  exact ⟨_, M3, hc2, rfl, h5, h6⟩
theorem both_move (h : Both M q b c (lsN I) I W) (hD : Dq c (lsN I) n) (hr : Rng I c) (hc : c ≤ 8) (hn : n < 1000) (hI : I.length ≤ n) :
    ∃ v M1, Con EE.P 12 [PT q, In x, Um a] M v M1 ∧ ∃ r e I', v = .tuple [In r, In e].toArray ∧ Both M1 q b c (lsN I') I W ∧ Wx W M M1 ∧ Dq c (lsN I') (n + 1) ∧ Rng I' c ∧ I'.length ≤ n + 1 ∧
      ∀ M2, Both M2 q b c (lsN I') I W → ∃ u M3, Con EE.P 20 [PT b, In x, Um a] M2 u M3 ∧ u = .tuple [In r, In e].toArray ∧ Both M3 q b c (lsN I') I' W ∧ Wx W M2 M3 := by
  have hs := hD.sh hc hn
  have hwe := wh_eq (x := x) hD hr
  have hI8 : I.length < 1073741824 := by omega
  by_cases hw : whI I x < 0 ∨ fewTo (lsN I) a c < 0
  · obtain ⟨v, M1, hc1, l1, h1, h2, rfl, rfl⟩ := h.pcall (R := fun v l' => v = .tuple [In 0, In 130].toArray ∧ l' = lsN I) fun W' hQ => ⟨_, M, hQ.move_not (a := a) hs (by rw [hwe]; exact hw), _, hQ, Wx.refl, rfl, rfl⟩
    refine ⟨_, M1, hc1, 0, 130, I, rfl, h1, h2, hD.mono (by omega), hr, by omega, fun M2 hB => ?_⟩
    obtain ⟨u, M3, hc2, I', h3, h4, rfl, rfl⟩ := hB.rcall (R := fun u I' => u = .tuple [In 0, In 130].toArray ∧ I' = I) fun O v hR hO => by
      obtain ⟨u, M', hc2, hP⟩ := move_r (x := x) (a := a) hR hB.fresh hO hc hI8
      rcases hP with ⟨_, h2, h3⟩ | ⟨h1, h2, _⟩ | ⟨h1, h2, _⟩
      · exact ⟨u, M', hc2, I, h3, h2, rfl⟩
      · exact absurd hw (by omega)
      · exact absurd hw (by omega)
    exact ⟨_, M3, hc2, rfl, h3, h4⟩
  have h1 : ¬ whI I x < 0 := fun e => hw (.inl e)
  have h2 : ¬ fewTo (lsN I) a c < 0 := fun e => hw (.inr e)
  obtain ⟨w, hwc, hxw, hww⟩ := wh_at (c := c) (l := lsN I) (x := x) (by rw [hwe]; omega)
  have hwi : whI I x = (w : Int) := by rw [← hwe, hww]
  have hinQ : inQ c a (whI I x) = mb a w := by
    unfold inQ
    rw [hwi, Int.toNat_natCast, decide_eq_true (by omega), Bool.true_and]
  cases hb : mb a w with
  | true =>
    obtain ⟨v, M1, hc1, l1, h3, h4, rfl, rfl⟩ := h.pcall (R := fun v l' => v = .tuple [In w, In 0].toArray ∧ l' = lsN I) fun W' hQ => ⟨_, M, hQ.move_in (a := a) hs hww (by omega) hb, _, hQ, Wx.refl, rfl, rfl⟩
    refine ⟨_, M1, hc1, w, 0, I, rfl, h3, h4, hD.mono (by omega), hr, by omega, fun M2 hB => ?_⟩
    obtain ⟨u, M3, hc2, I', h5, h6, rfl, rfl⟩ := hB.rcall (R := fun u I' => u = .tuple [In w, In 0].toArray ∧ I' = I) fun O v hR hO => by
      obtain ⟨u, M', hc2, hP⟩ := move_r (x := x) (a := a) hR hB.fresh hO hc hI8
      rcases hP with ⟨h3, _⟩ | ⟨_, _, _, h4, h5⟩ | ⟨_, _, h3, _⟩
      · exact absurd h3 hw
      · rw [hwi] at h4
        exact ⟨u, M', hc2, I, h5, h4, rfl⟩
      · rw [hinQ, hb] at h3; cases h3
    exact ⟨_, M3, hc2, rfl, h5, h6⟩
  | false =>
    obtain ⟨t, ht⟩ : ∃ t : Nat, fewTo (lsN I) a c = t := ⟨(fewTo (lsN I) a c).toNat, by omega⟩
    have htc : t < c := by have := (fewTo_lt (l := lsN I) (a := a) (n := c)).2; omega
    obtain ⟨ix, x1, x2, x3⟩ := idx_in hxw
    have he := erase_at (i := 0) (j := ix) (show idxFrom x (lsN I w) 0 = ((0 + ix : Nat) : Int) by rw [Nat.zero_add]; exact x2)
    have hlc := ls_cut hD hwc hxw
    obtain ⟨hD', hnot, htot⟩ := hD.erase hwc hc hxw
    have hmv : moveL c (lsN I) a x w ix = lsN (cutI I x ++ [(x, (t : Int))]) := by
      unfold moveL
      rw [he, few_upd hb, ht, Int.toNat_natCast, ls_push, hlc]
    obtain ⟨v, M1, hc1, l1, h3, h4, rfl, rfl⟩ := h.pcall (R := fun v l' => v = .tuple [In t, In 0].toArray ∧ l' = lsN (cutI I x ++ [(x, (t : Int))])) fun W' hQ => by
      obtain ⟨v, M', hc1, hv, h3, h4⟩ := hQ.move_to (a := a) hs (by omega) hww x1 x2 (by omega) hb
      rw [few_upd hb, ht, Int.toNat_natCast] at hv
      rw [hmv] at h3
      exact ⟨v, M', hc1, _, h3, h4, hv, rfl⟩
    refine ⟨_, M1, hc1, t, 0, cutI I x ++ [(x, (t : Int))], rfl, h3, h4, by rw [ls_push, hlc]; exact hD'.push htc hc hnot, hr.cut.push htc, by have := cutI_len (I := I) (x := x); simp; omega, fun M2 hB => ?_⟩
    obtain ⟨u, M3, hc2, I', h5, h6, rfl, rfl⟩ := hB.rcall (R := fun u I' => u = .tuple [In t, In 0].toArray ∧ I' = cutI I x ++ [(x, (t : Int))]) fun O v hR hO => by
      obtain ⟨u, M', hc2, hP⟩ := move_r (x := x) (a := a) hR hB.fresh hO hc hI8
      rcases hP with ⟨h3, _⟩ | ⟨_, _, h3, _⟩ | ⟨_, _, _, h4, h5⟩
      · exact absurd h3 hw
      · rw [hinQ, hb] at h3; cases h3
      · rw [ht] at h4 h5
        exact ⟨u, M', hc2, _, h5, h4, rfl⟩
    exact ⟨_, M3, hc2, rfl, h5, h6⟩
theorem both_cut (h : Both M q b c (lsN I) I W) (hD : Dq c (lsN I) n) (hr : Rng I c) (hc : c ≤ 8) (hn : n < 1000) (hI : I.length ≤ n) :
    ∃ v M1, Con EE.P 18 [PT q, In x] M v M1 ∧ ∃ r I', v = .bool r ∧ Both M1 q b c (lsN I') I W ∧ Wx W M M1 ∧ Dq c (lsN I') (n + 1) ∧ Rng I' c ∧ I'.length ≤ n + 1 ∧
      ∀ M2, Both M2 q b c (lsN I') I W → ∃ u M3, Con EE.P 21 [PT b, In x] M2 u M3 ∧ u = .bool r ∧ Both M3 q b c (lsN I') I' W ∧ Wx W M2 M3 := by
  have hs := hD.sh hc hn
  have hwe := wh_eq (x := x) hD hr
  have hI8 : I.length < 1073741824 := by omega
  have hlen := cutI_len (I := I) (x := x)
  have href : ∀ r, r = decide (((cutI I x).length : Int) < (I.length : Int)) → ∀ M2, Both M2 q b c (lsN (cutI I x)) I W → ∃ u M3, Con EE.P 21 [PT b, In x] M2 u M3 ∧ u = .bool r ∧ Both M3 q b c (lsN (cutI I x)) (cutI I x) W ∧ Wx W M2 M3 := fun r hr M2 hB => by
    obtain ⟨u, M3, hc2, I', h5, h6, rfl, rfl⟩ := hB.rcall (R := fun u I' => u = .bool r ∧ I' = cutI I x) fun O v hR hO => by
      obtain ⟨u, M', hc2, h3, h4⟩ := cut_r (x := x) hR hB.fresh hO hI8
      exact ⟨u, M', hc2, _, h4, by rw [h3, hr], rfl⟩
    exact ⟨_, M3, hc2, rfl, h5, h6⟩
  rcases whI_spec (I := I) (x := x) with ⟨h1, h2⟩ | ⟨p, h1, h2, h3⟩
  · have e := cut_none h2
    obtain ⟨v, M1, hc1, l1, h3, h4, rfl, rfl⟩ := h.pcall (R := fun v l' => v = .bool false ∧ l' = lsN (cutI I x)) fun W' hQ => ⟨_, M, hQ.cut_no hs (by rw [hwe, h1]; decide), _, hQ, Wx.refl, rfl, by rw [e]⟩
    refine ⟨_, M1, hc1, false, cutI I x, rfl, h3, h4, by rw [e]; exact hD.mono (by omega), hr.cut, by omega, href false (by rw [e, decide_eq_false (by omega)])⟩
  · have hp := hr p h1
    obtain ⟨w, hwc, hxw, hww⟩ := wh_at (c := c) (l := lsN I) (x := x) (by rw [hwe]; omega)
    obtain ⟨ix, x1, x2, x3⟩ := idx_in hxw
    have he := erase_at (i := 0) (j := ix) (show idxFrom x (lsN I w) 0 = ((0 + ix : Nat) : Int) by rw [Nat.zero_add]; exact x2)
    have hlc := ls_cut hD hwc hxw
    have hlt := cut_lt h1 h2
    obtain ⟨hD', hnot, htot⟩ := hD.erase hwc hc hxw
    obtain ⟨v, M1, hc1, l1, h3, h4, rfl, rfl⟩ := h.pcall (R := fun v l' => v = .bool true ∧ l' = lsN (cutI I x)) fun W' hQ => by
      obtain ⟨v, M', hc1, hv, h3, h4⟩ := hQ.cut hs (by omega) hww x1 x2
      rw [he, ← hlc] at h3
      exact ⟨v, M', hc1, _, h3, h4, hv, rfl⟩
    refine ⟨_, M1, hc1, true, cutI I x, rfl, h3, h4, by rw [hlc]; exact hD'.mono (by omega), hr.cut, by omega, href true (by rw [decide_eq_true (by omega)])⟩
theorem both_rot (h : Both M q b c (lsN I) I W) (hD : Dq c (lsN I) n) (hr : Rng I c) (hc : c ≤ 8) (hn : n < 1000) (hI : I.length ≤ n) :
    ∃ v M1, Con EE.P 14 [PT q, In k] M v M1 ∧ ∃ r I', v = .bool r ∧ Both M1 q b c (lsN I') I W ∧ Wx W M M1 ∧ Dq c (lsN I') (n + 1) ∧ Rng I' c ∧ I'.length ≤ n + 1 ∧
      ∀ M2, Both M2 q b c (lsN I') I W → ∃ u M3, Con EE.P 22 [PT b, In k] M2 u M3 ∧ u = .bool r ∧ Both M3 q b c (lsN I') I' W ∧ Wx W M2 M3 := by
  have hs := hD.sh hc hn
  have hI8 : I.length < 1073741824 := by omega
  have hout : ¬ (0 ≤ k ∧ k < (c : Int)) → lsI I k = [] := fun hk => by
    refine List.eq_nil_iff_forall_not_mem.2 fun y hy => hk ?_
    exact hr _ (mem_ls.1 hy)
  by_cases hl : (lsI I k).length < 2
  · obtain ⟨v, M1, hc1, l1, h3, h4, rfl, rfl⟩ := h.pcall (R := fun v l' => v = .bool false ∧ l' = lsN I) fun W' hQ => ⟨_, M, hQ.rot_no (k := k) (by
      by_cases hk : 0 ≤ k ∧ k < (c : Int)
      · refine .inr ?_
        show (lsI I ((k.toNat : Nat) : Int)).length < 2
        rw [Int.toNat_of_nonneg hk.1]; exact hl
      · exact .inl hk), _, hQ, Wx.refl, rfl, rfl⟩
    refine ⟨_, M1, hc1, false, I, rfl, h3, h4, hD.mono (by omega), hr, by omega, fun M2 hB => ?_⟩
    obtain ⟨u, M3, hc2, I', h5, h6, rfl, rfl⟩ := hB.rcall (R := fun u I' => u = .bool false ∧ I' = I) fun O v hR hO => by
      obtain ⟨u, M', hc2, hP⟩ := rotate_r (k := k) hR hB.fresh hO hI8
      rcases hP with ⟨_, h4, h5⟩ | ⟨h3, _⟩
      · exact ⟨u, M', hc2, _, h5, h4, rfl⟩
      · exact absurd hl h3
    exact ⟨_, M3, hc2, rfl, h5, h6⟩
  have hk : 0 ≤ k ∧ k < (c : Int) := Classical.byContradiction fun e => hl (by rw [hout e]; decide)
  obtain ⟨k, rfl⟩ : ∃ k' : Nat, k = k' := ⟨k.toNat, by omega⟩
  have hkc : k < c := by omega
  have hl2 : 2 ≤ (lsN I k).length := by show 2 ≤ (lsI I (k : Int)).length; omega
  obtain ⟨x, hx⟩ : ∃ x, x = (lsN I k).getD 0 0 := ⟨_, rfl⟩
  have hcons : lsN I k = x :: (lsN I k).drop 1 := by
    have := List.drop_eq_getElem_cons (show 0 < (lsN I k).length by omega)
    rw [hx, List.getD_eq_getElem?_getD, List.getElem?_eq_getElem (by omega)]
    simpa using this
  have hxk : x ∈ lsN I k := by rw [hcons]; simp
  have hlc := ls_cut hD hkc hxk
  have her : (lsN I k).erase x = (lsN I k).drop 1 := by
    conv => lhs; rw [hcons]
    exact List.erase_cons_head x _
  obtain ⟨hD', hnot, htot⟩ := hD.erase hkc hc hxk
  have hfin : lsN (cutI I x ++ [(x, (k : Int))]) = updL (lsN I) k ((lsN I k).drop 1 ++ [x]) := by
    rw [ls_push, hlc, updL_updL, updL_at, her]
  obtain ⟨v, M1, hc1, l1, h3, h4, rfl, rfl⟩ := h.pcall (R := fun v l' => v = .bool true ∧ l' = lsN (cutI I x ++ [(x, (k : Int))])) fun W' hQ => by
    obtain ⟨v, M', hc1, hv, h3, h4⟩ := hQ.rot hkc hl2 (hs k)
    rw [← hx, ← hfin] at h3
    exact ⟨v, M', hc1, _, h3, h4, hv, rfl⟩
  refine ⟨_, M1, hc1, true, cutI I x ++ [(x, (k : Int))], rfl, h3, h4, by rw [ls_push, hlc]; exact hD'.push hkc hc hnot, hr.cut.push hkc, by have := cutI_len (I := I) (x := x); simp; omega, fun M2 hB => ?_⟩
  obtain ⟨u, M3, hc2, I', h5, h6, rfl, rfl⟩ := hB.rcall (R := fun u I' => u = .bool true ∧ I' = cutI I x ++ [(x, (k : Int))]) fun O v hR hO => by
    obtain ⟨u, M', hc2, hP⟩ := rotate_r (k := (k : Int)) hR hB.fresh hO hI8
    rcases hP with ⟨h3, _⟩ | ⟨_, h4, h5⟩
    · exact absurd h3 hl
    · have e : (lsI I (k : Int)).getD 0 0 = x := hx.symm
      rw [e] at h5
      exact ⟨u, M', hc2, _, h5, h4, rfl⟩
  exact ⟨_, M3, hc2, rfl, h5, h6⟩
end
end
end Go.Ab
/- QueuePlays: one call, by its kind. -/
namespace Go.Ab
open Go.Proofs
noncomputable section
set_option maxHeartbeats 8000000
set_option maxRecDepth 10000
/-- The temps that live on. -/
def Kee (J J1 : List (Nat × Value)) : Prop := lk J1 11 = lk J 11 ∧ lk J1 10 = lk J 10 ∧ lk J1 9 = lk J 9 ∧ lk J1 8 = lk J 8 ∧ lk J1 7 = lk J 7 ∧ lk J1 2 = lk J 2 ∧ lk J1 1 = lk J 1 ∧ lk J1 0 = lk J 0
theorem eqB' {xo yo : Operand} {p : Bool} {m : Mem} : eqA EE.P .eql 4 xo yo (.bool p) (.bool p) m = some (.bool true) := by
  cases p <;> kernel_rfl
section
variable {M : Mem} {J : List (Nat × Value)} {q b c xb n n0 : Nat} {xc : Cells} {I : Items} {W : Nat → Prop} {kk px co : Int} {a : BitVec 32}
theorem plays_kind (h7 : lk J 7 = PT q) (h9 : lk J 9 = PT b) (h11 : lk J 11 = PT xb) (h12 : lk J 12 = .bool true) (h56 : lk J 56 = In kk) (hB : Both M q b c (lsN I) I W) (hx : M.get xb = some (.cells xc true 0)) (hxW : W xb)
    (x1 : xc.nth 1 = some (In px)) (x2 : xc.nth 2 = some (In co)) (x3 : xc.nth 3 = some (Um a)) (hD : Dq c (lsN I) n) (hr : Rng I c) (hc : c ≤ 8) (hn9 : n < 1000) (hI : I.length ≤ n) (hn : n0 ≤ M.next) :
    WXi EE n0 none c6_33 (T 203 J) M (Q := ⟨fun x t M1 => x = .normal ∧ ∃ J1 I1, t = T 203 J1 ∧ Kee J J1 ∧ lk J1 12 = .bool true ∧ Both M1 q b c (lsN I1) I1 W ∧ Wx W M M1 ∧ Dq c (lsN I1) (n + 1) ∧ Rng I1 c ∧ I1.length ≤ n + 1⟩) := by
  have dT : ∀ p : Prop, [Decidable p] → p → decide p = true := fun p _ h => decide_eq_true h
  have dF : ∀ p : Prop, [Decidable p] → ¬ p → decide p = false := fun p _ h => decide_eq_false h
  by_cases k0 : kk = 0
  · have d0 := dT _ k0
    simp only [w6_33, W_seq, w6_14, hn, X_eql EE_sym, Nat.reduceLT, ev_T, h56, ev_const, eq_int, d0, okI_some, T_set, X_assign, lk_cons, if_true, X_nil, thenQ_normal, W_cond, Nat.reduceEqDiff, if_false, CDi_t, w6_18, w6_15, Mem.next_bump, Nat.le_add_right_of_le, bump_bump, Nat.reduceAdd, X_move, h7, X_fieldAddr EE_sym fo_36_1, h11, offV_ptr, Nat.zero_add, X_load EE_sym, load1 lay_3, Mem.get_bump, hx, ld1_cells, x1, X_fieldAddr EE_sym fo_36_2, x2, X_fieldAddr EE_sym fo_36_3, load1 lay_29, x3, X_call ca_10, List.map_cons, List.map_nil, true_and]
    refine CallI.ex2 (both_place (k := co) (a := a) (x := px) (hB.bump _) hD hr hc hn9 hI) fun v M1 hv => ?_
    obtain ⟨r, e, I1, rfl, hB1, hw1, hD1, hr1, hI1, href⟩ := hv
    have hw1 := hw1.of_bump
    have n1 := Nat.le_trans hn hw1.next
    have hx1 : M1.get xb = some (.cells xc true 0) := by rw [hw1.old xb hxW, hx]
    simp only [putT, Nat.reduceLT, T_set, X_move, ev_T, lk_cons, Nat.reduceEqDiff, if_false, if_true, X_extract EE_sym, List.getElem?_toArray, List.getElem?_cons_zero, okI_some, List.getElem?_cons_succ, X_assign, X_nil, thenQ_normal, W_seq, w6_16, n1, h9, X_fieldAddr EE_sym fo_36_1, h11, offV_ptr, Nat.zero_add, X_load EE_sym, load1 lay_3, Mem.get_bump, hx1, ld1_cells, x1, X_fieldAddr EE_sym fo_36_2, x2, X_fieldAddr EE_sym fo_36_3, load1 lay_29, x3, X_call ca_19, List.map_cons, List.map_nil, true_and]
    refine CallI.ex2 (href _ (hB1.bump _)) fun v M2 hv => ?_
    obtain ⟨rfl, hB2, hw2⟩ := hv
    have hw2 := hw1.trans hw2.of_bump
    have n2 := Nat.le_trans hn hw2.next
    simp only [putT, Nat.reduceLT, T_set, X_move, ev_T, lk_cons, Nat.reduceEqDiff, if_false, if_true, X_extract EE_sym, List.getElem?_toArray, List.getElem?_cons_zero, okI_some, List.getElem?_cons_succ, X_assign, X_nil, thenQ_normal, w6_17, n2, X_eql EE_sym, eq_int, decide_true, X_guard EE_sym, T_get, GDi_tt, X_pick EE_sym, ev_const, pickV_bool, true_and]
    exact ⟨_, I1, rfl, ⟨rfl, rfl, rfl, rfl, rfl, rfl, rfl, rfl⟩, rfl, hB2.bump _, hw2.bump _, hD1, hr1, hI1⟩
  have d0 := dF _ k0
  by_cases k1 : kk = 1
  · have d1 := dT _ k1
    simp only [w6_33, W_seq, w6_14, hn, X_eql EE_sym, Nat.reduceLT, ev_T, h56, ev_const, eq_int, d0, okI_some, T_set, X_assign, lk_cons, if_true, X_nil, thenQ_normal, W_cond, Nat.reduceEqDiff, if_false, CDi_f, w6_32, w6_19, Mem.next_bump, Nat.le_add_right_of_le, bump_bump, Nat.reduceAdd, d1, CDi_t, w6_23, w6_20, X_move, h7, X_fieldAddr EE_sym fo_36_1, h11, offV_ptr, Nat.zero_add, X_load EE_sym, load1 lay_3, Mem.get_bump, hx, ld1_cells, x1, X_fieldAddr EE_sym fo_36_3, load1 lay_29, x3, X_call ca_12, List.map_cons, List.map_nil, true_and]
    refine CallI.ex2 (both_move (a := a) (x := px) (hB.bump _) hD hr hc hn9 hI) fun v M1 hv => ?_
    obtain ⟨r, e, I1, rfl, hB1, hw1, hD1, hr1, hI1, href⟩ := hv
    have hw1 := hw1.of_bump
    have n1 := Nat.le_trans hn hw1.next
    have hx1 : M1.get xb = some (.cells xc true 0) := by rw [hw1.old xb hxW, hx]
    simp only [putT, Nat.reduceLT, T_set, X_move, ev_T, lk_cons, Nat.reduceEqDiff, if_false, if_true, X_extract EE_sym, List.getElem?_toArray, List.getElem?_cons_zero, okI_some, List.getElem?_cons_succ, X_assign, X_nil, thenQ_normal, W_seq, w6_21, n1, h9, X_fieldAddr EE_sym fo_36_1, h11, offV_ptr, Nat.zero_add, X_load EE_sym, load1 lay_3, Mem.get_bump, hx1, ld1_cells, x1, X_fieldAddr EE_sym fo_36_3, load1 lay_29, x3, X_call ca_20, List.map_cons, List.map_nil, true_and]
    refine CallI.ex2 (href _ (hB1.bump _)) fun v M2 hv => ?_
    obtain ⟨rfl, hB2, hw2⟩ := hv
    have hw2 := hw1.trans hw2.of_bump
    have n2 := Nat.le_trans hn hw2.next
    simp only [putT, Nat.reduceLT, T_set, X_move, ev_T, lk_cons, Nat.reduceEqDiff, if_false, if_true, X_extract EE_sym, List.getElem?_toArray, List.getElem?_cons_zero, okI_some, List.getElem?_cons_succ, X_assign, X_nil, thenQ_normal, w6_22, n2, X_eql EE_sym, eq_int, decide_true, X_guard EE_sym, T_get, GDi_tt, X_pick EE_sym, ev_const, pickV_bool, true_and]
    exact ⟨_, I1, rfl, ⟨rfl, rfl, rfl, rfl, rfl, rfl, rfl, rfl⟩, rfl, hB2.bump _, hw2.bump _, hD1, hr1, hI1⟩
  have d1 := dF _ k1
  by_cases k2 : kk = 2
  · have d2 := dT _ k2
    simp only [w6_33, W_seq, w6_14, hn, X_eql EE_sym, Nat.reduceLT, ev_T, h56, ev_const, eq_int, d0, okI_some, T_set, X_assign, lk_cons, if_true, X_nil, thenQ_normal, W_cond, Nat.reduceEqDiff, if_false, CDi_f, w6_32, w6_19, Mem.next_bump, Nat.le_add_right_of_le, bump_bump, Nat.reduceAdd, d1, w6_31, w6_24, d2, CDi_t, w6_26, w6_25, Y_0, X_move, h7, keepM_f, X_fieldAddr EE_sym fo_36_1, h11, offV_ptr, Nat.zero_add, X_load EE_sym, load1 lay_3, Mem.get_bump, hx, ld1_cells, x1, X_call ca_18, List.map_cons, List.map_nil, true_and]
    refine CallI.ex2 (both_cut (x := px) (hB.bump _) hD hr hc hn9 hI) fun v M1 hv => ?_
    obtain ⟨r, I1, rfl, hB1, hw1, hD1, hr1, hI1, href⟩ := hv
    have hw1 := hw1.of_bump
    have n1 := Nat.le_trans hn hw1.next
    have hx1 : M1.get xb = some (.cells xc true 0) := by rw [hw1.old xb hxW, hx]
    simp only [putT, Nat.reduceLT, T_set, X_nil, keepM_t, Y_0, X_move, ev_T, lk_cons, Nat.reduceEqDiff, h9, if_false, keepM_f, X_fieldAddr EE_sym fo_36_1, h11, offV_ptr, Nat.zero_add, okI_some, Y_re, RE_load EE_sym, if_true, load1 lay_3, hx1, ld1_cells, x1, lookK_cons, Mem.get_bump, hx, eqvI, TDi_t, X_load EE_sym, X_call ca_21, List.map_cons, List.map_nil]
    refine CallI.ex2L (href _ hB1) (by simp) fun v M2 hv => ?_
    obtain ⟨rfl, hB2, hw2⟩ := hv
    have hw2 := hw1.trans hw2
    have n2 := Nat.le_trans hn hw2.next
    have hx2 : M2.get xb = some (.cells xc true 0) := by rw [hw2.old xb hxW, hx]
    simp only [putT, Nat.reduceLT, T_set, X_nil, keepM_f, Y_0, X_eql EE_sym, ev_T, lk_cons, Nat.reduceEqDiff, if_false, if_true, eqB', okI_some, X_assign, Y_nil, true_and]
    exact ⟨_, I1, rfl, ⟨rfl, rfl, rfl, rfl, rfl, rfl, rfl, rfl⟩, rfl, hB2, hw2, hD1, hr1, hI1⟩
  have d2 := dF _ k2
  by_cases k3 : kk = 3
  · have d3 := dT _ k3
    simp only [w6_33, W_seq, w6_14, hn, X_eql EE_sym, Nat.reduceLT, ev_T, h56, ev_const, eq_int, d0, okI_some, T_set, X_assign, lk_cons, if_true, X_nil, thenQ_normal, W_cond, Nat.reduceEqDiff, if_false, CDi_f, w6_32, w6_19, Mem.next_bump, Nat.le_add_right_of_le, bump_bump, Nat.reduceAdd, d1, w6_31, w6_24, d2, w6_30, w6_27, d3, CDi_t, w6_29, w6_28, Y_0, X_move, h7, keepM_f, X_fieldAddr EE_sym fo_36_2, h11, offV_ptr, Nat.zero_add, X_load EE_sym, load1 lay_3, Mem.get_bump, hx, ld1_cells, x2, X_call ca_14, List.map_cons, List.map_nil, true_and]
    refine CallI.ex2 (both_rot (k := co) (hB.bump _) hD hr hc hn9 hI) fun v M1 hv => ?_
    obtain ⟨r, I1, rfl, hB1, hw1, hD1, hr1, hI1, href⟩ := hv
    have hw1 := hw1.of_bump
    have n1 := Nat.le_trans hn hw1.next
    have hx1 : M1.get xb = some (.cells xc true 0) := by rw [hw1.old xb hxW, hx]
    simp only [putT, Nat.reduceLT, T_set, X_nil, keepM_t, Y_0, X_move, ev_T, lk_cons, Nat.reduceEqDiff, h9, if_false, keepM_f, X_fieldAddr EE_sym fo_36_2, h11, offV_ptr, Nat.zero_add, okI_some, Y_re, RE_load EE_sym, if_true, load1 lay_3, hx1, ld1_cells, x2, lookK_cons, Mem.get_bump, hx, eqvI, TDi_t, X_load EE_sym, X_call ca_22, List.map_cons, List.map_nil]
    refine CallI.ex2L (href _ hB1) (by simp) fun v M2 hv => ?_
    obtain ⟨rfl, hB2, hw2⟩ := hv
    have hw2 := hw1.trans hw2
    have n2 := Nat.le_trans hn hw2.next
    have hx2 : M2.get xb = some (.cells xc true 0) := by rw [hw2.old xb hxW, hx]
    simp only [putT, Nat.reduceLT, T_set, X_nil, keepM_f, Y_0, X_eql EE_sym, ev_T, lk_cons, Nat.reduceEqDiff, if_false, if_true, eqB', okI_some, X_assign, Y_nil, true_and]
    exact ⟨_, I1, rfl, ⟨rfl, rfl, rfl, rfl, rfl, rfl, rfl, rfl⟩, rfl, hB2, hw2, hD1, hr1, hI1⟩
  have d3 := dF _ k3
  simp only [w6_33, W_seq, w6_14, hn, X_eql EE_sym, Nat.reduceLT, ev_T, h56, ev_const, eq_int, d0, okI_some, T_set, X_assign, lk_cons, if_true, X_nil, thenQ_normal, W_cond, Nat.reduceEqDiff, if_false, CDi_f, w6_32, w6_19, Mem.next_bump, Nat.le_add_right_of_le, bump_bump, Nat.reduceAdd, d1, w6_31, w6_24, d2, w6_30, w6_27, d3, W_skip, true_and]
  exact ⟨_, I, rfl, ⟨rfl, rfl, rfl, rfl, rfl, rfl, rfl, rfl⟩, h12, hB.bump _, Wx.refl.bump _, hD.mono (by omega), hr, by omega⟩
end
end
end Go.Ab
/- QueuePlays: one look at all queues. -/
namespace Go.Ab
open Go.Proofs
noncomputable section
set_option maxHeartbeats 8000000
set_option maxRecDepth 10000
section
variable {m M : Mem} {J : List (Nat × Value)} {q b c n : Nat} {I : Items} {W : Nat → Prop} {sv iv : Value} {a : BitVec 32}
/-- A queue's list, as the program tells it: none of it lies in old blocks. -/
theorem both_list {k : Int} (h : Both M q b c (lsN I) I W) (hs : Sh (lsN I)) (hr : Rng I c) : ∃ v M1, Con EE.P 11 [PT q, In k] M v M1 ∧ SlI M1 v (lsI I k) ∧ Nx M M1 ∧ Both M1 q b c (lsN I) I W := by
  obtain ⟨O, u, h1, h2, h3⟩ := id h
  obtain ⟨O1, sl, cs, k1, k2⟩ := h1.at_
  by_cases hk : 0 ≤ k ∧ k < (c : Int)
  · obtain ⟨k, rfl⟩ : ∃ k' : Nat, k = k' := ⟨k.toNat, by omega⟩
    obtain ⟨v, M1, hc, hL⟩ := list_ok (k := k) k1 h1.fresh (by omega) (hs k)
    exact ⟨v, M1, hc, hL.sl, hL.nx, h.nx hL.nx⟩
  · have e : lsI I k = [] := List.eq_nil_iff_forall_not_mem.2 fun y hy => hk (hr _ (mem_ls.1 hy))
    exact ⟨_, M, h1.list_no hk, by rw [e]; exact SlV.nil, Nx.refl h1.fresh, h⟩
theorem pick_eq {k : Int} (h : Both M q b c (lsN I) I W) (hr : Rng I c) : Con EE.P 13 [PT q, In k, Um a] M (In (if lsI I k = [] then 0 else (lsI I k).getD (a.toNat % (lsI I k).length) 0)) M := by
  refine h.qcon fun W' hQ => ?_
  by_cases hk : 0 ≤ k ∧ k < (c : Int)
  · obtain ⟨k, rfl⟩ : ∃ k' : Nat, k = k' := ⟨k.toNat, by omega⟩
    by_cases e : lsI I (k : Int) = []
    · rw [if_pos e]
      exact hQ.pick_no (.inr (by rw [Int.toNat_natCast]; exact e))
    · rw [if_neg e]
      exact hQ.pick (by omega) e
  · have e : lsI I k = [] := List.eq_nil_iff_forall_not_mem.2 fun y hy => hk (hr _ (mem_ls.1 hy))
    rw [if_pos e]
    exact hQ.pick_no (.inl hk)
theorem plays_scan (h10 : lk J 10 = iv) (h9 : lk J 9 = PT b) (h8 : lk J 8 = In 0) (h7 : lk J 7 = PT q) (h2 : lk J 2 = Um a) (h1 : lk J 1 = sv) (h0 : lk J 0 = In c) (h21 : lk J 21 = In (-1))
    (hB : Both M q b c (lsN I) I W) (hw : Wx W m M) (hD : Dq c (lsN I) n) (hr : Rng I c) (hc : c ≤ 8) (hn9 : n < 1000) (hI : I.length ≤ n) (hW : ∀ y, W y → y < M.next) :
    WXi EE m.next none c6_45 (T 203 J) M (Q := ⟨fun x t M1 => x = .exit 3 ∧ ∃ J1, t = T 203 J1 ∧ lk J1 10 = iv ∧ lk J1 9 = PT b ∧ lk J1 8 = In 0 ∧ lk J1 7 = PT q ∧ lk J1 2 = Um a ∧ lk J1 1 = sv ∧ lk J1 0 = In c ∧ Both M1 q b c (lsN I) I W ∧ Wx W m M1⟩) := by
  have hs := hD.sh hc hn9
  have hI8 : I.length < 1073741824 := by omega
  refine WX.loop_of (fun x t M => ∃ k : Nat, k ≤ c + 2 ∧ x = c + 2 - k ∧ t = T 203 [(21, In ((k : Int) - 1)), (10, iv), (9, PT b), (8, In 0), (7, PT q), (2, Um a), (1, sv), (0, In c)] ∧ Both M q b c (lsN I) I W ∧ Wx W m M ∧ ∀ y, W y → y < M.next) ?_ (k := c + 2) (t1 := T 203 [(21, In (((0 : Nat) : Int) - 1)), (10, iv), (9, PT b), (8, In 0), (7, PT q), (2, Um a), (1, sv), (0, In c)]) (View.temps ⟨by rw [h21]; rfl, h10, h9, h8, h7, h2, h1, h0, trivial⟩) ⟨0, by omega, rfl, rfl, hB, hw, hW⟩
  clear hB hw h10 h9 h8 h7 h2 h1 h0 h21 hW
  rintro x t M ⟨k, hk, rfl, rfl, hB, hw, hW⟩
  have hnx := hw.next
  by_cases hkc : ¬ k < c + 2
  · have g1 : ¬ ((k : Int) - 1) ≤ (c : Int) := by omega
    simp only [w6_44, W_seq, w6_38, hnx, X_move, Nat.reduceLT, ev_T, lk_cons, Nat.reduceEqDiff, if_false, if_true, T_set, Nat.one_ne_zero, X_bin EE_sym (op := .leq) rfl, bin_leq, g1, decide_false, okI_some, X_nil, thenQ_normal, W_cond, CDi_f, W_exit, thenQ_exit, roundQ_exit, true_and]
    exact ⟨_, rfl, rfl, rfl, rfl, rfl, rfl, rfl, rfl, hB.bump _, hw.bump _⟩
  have hkc : k < c + 2 := by omega
  have g1 : ((k : Int) - 1) ≤ (c : Int) := by omega
  have hwk : IntKind.i64.wrap ((k : Int) - 1 + 1) = ((k + 1 : Nat) : Int) - 1 := by rw [wrap_i64 (by omega) (by omega)]; omega
  generalize hkk : (k : Int) - 1 = kk at *
  simp only [w6_44, W_seq, w6_38, hnx, X_move, Nat.reduceLT, ev_T, lk_cons, Nat.reduceEqDiff, if_false, if_true, T_set, Nat.one_ne_zero, X_bin EE_sym (op := .leq) rfl, bin_leq, g1, decide_true, okI_some, X_nil, thenQ_normal, W_cond, CDi_t, W_skip, W_block, w6_42, w6_39, Mem.next_bump, Nat.le_add_right_of_le, bump_bump, Nat.reduceAdd, X_call ca_11, List.map_cons, List.map_nil, true_and]
  refine CallI.ex2 (both_list (k := kk) (hB.bump _) hs hr) fun v M1 hv => ?_
  obtain ⟨hsv, hn1, hB1⟩ := hv
  have hw1 := hw.trans (Wx.of_nx hn1.of_bump hW)
  have hW1 : ∀ y, W y → y < M1.next := fun y hy => by have := hW y hy; have := hn1.of_bump.next; omega
  have n1 := hw1.next
  simp only [putT, Nat.reduceLT, T_set, X_move, ev_T, lk_cons, Nat.reduceEqDiff, if_false, if_true, X_call ca_27, List.map_cons, List.map_nil]
  refine CallI.ex2L (hB1.rlook (R := fun u M' => NewL M1 M' u (lsI I kk)) fun O v hR hO => by
    obtain ⟨u, M', hc, hL⟩ := list_r (k := kk) hR hB1.fresh hO hI8
    exact ⟨u, M', hc, hL.nx, hL⟩) (by simp) fun u M2 hv => ?_
  obtain ⟨hB2, hn2, hL2⟩ := hv
  have hw2 := hw1.trans (Wx.of_nx hn2 hW1)
  have hW2 : ∀ y, W y → y < M2.next := fun y hy => by have := hW1 y hy; have := hn2.next; omega
  have n2 := hw2.next
  have hlk : (lsI I kk).length < 4294967296 := by have := lsI_len (I := I) (k := kk); omega
  simp only [putT, Nat.reduceLT, T_set, X_call ca_15, List.map_cons, ev_T, lk_cons, Nat.reduceEqDiff, if_false, if_true, List.map_nil]
  refine CallI.con (same_ok (m := M2) (hsv.nx hB1.fresh hn2) hL2.sl hlk) (by simp) ?_
  simp only [putT, Nat.reduceLT, T_set, X_un EE_sym, ev_T, lk_cons, Nat.reduceEqDiff, if_false, if_true, un_not, Bool.not_true, okI_some, X_move, X_guard EE_sym, T_get, GDi_ff, X_call ca_13, List.map_cons, List.map_nil]
  refine CallI.con (pick_eq (k := kk) (a := a) hB2 hr) (by simp) ?_
  simp only [putT, Nat.reduceLT, T_set, X_guard EE_sym, T_get, lk_cons, Nat.reduceEqDiff, if_false, if_true, GDi_ff, X_move, ev_T, X_call ca_28, List.map_cons, List.map_nil]
  refine CallI.ex2L (hB2.rlook (R := fun u M' => u = In (if lsI I kk = [] then 0 else (lsI I kk).getD (a.toNat % (lsI I kk).length) 0)) fun O v hR hO => by
    obtain ⟨u, M', hc, hu, hn⟩ := pick_r (k := kk) (a := a) hR hB2.fresh hO hI8
    exact ⟨u, M', hc, hn, hu⟩) (by simp) fun u2 M3 hv => ?_
  obtain ⟨hB3, hn3, rfl⟩ := hv
  have hw3 := hw2.trans (Wx.of_nx hn3 hW2)
  have hW3 : ∀ y, W y → y < M3.next := fun y hy => by have := hW2 y hy; have := hn3.next; omega
  have n3 := hw3.next
  simp only [putT, Nat.reduceLT, T_set, X_guard EE_sym, T_get, lk_cons, Nat.reduceEqDiff, if_false, if_true, GDi_ff, X_neq EE_sym, ev_T, neq_int, decide_true, Bool.not_true, okI_some, X_pick EE_sym, ev_const, pickV_bool, Bool.false_eq_true, X_nil, thenQ_normal, W_cond, CDi_f, W_skip, blockQ_normal, w6_43, n3, X_move, X_bin EE_sym (op := .add) rfl, bin_add, hwk, X_assign, roundQ_normal, true_and]
  exact ⟨c + 2 - (k + 1), _, _, by omega, View.temps (l' := [(21, In (((k + 1 : Nat) : Int) - 1)), (10, iv), (9, PT b), (8, In 0), (7, PT q), (2, Um a), (1, sv), (0, In c)]) ⟨rfl, rfl, rfl, rfl, rfl, rfl, rfl, rfl, trivial⟩, k + 1, by omega, rfl, rfl, hB3.bump _, hw3.bump _, fun y hy => by rw [Mem.next_bump]; have := hW3 y hy; omega⟩
end
end
end Go.Ab
/- QueuePlays: both, asked for all; a new block beside both. -/
namespace Go.Ab
open Go.Proofs
noncomputable section
set_option maxHeartbeats 8000000
section
variable {M M' : Mem} {q b c n : Nat} {l : Nat → List Int} {I : Items} {W W' : Nat → Prop} {x : Int} {a : BitVec 32}
theorem Both.less (h : Both M q b c l I W) (hw : ∀ y, W' y → W y) : Both M q b c l I W' := by
  obtain ⟨O, v, h1, h2, h3⟩ := h
  exact ⟨O, v, h1.less fun y hy => hy.imp (hw y) id, h2, fun y hy e => h3 y hy (hw y e)⟩
theorem Both.wlt (h : Both M q b c l I W) : ∀ y, W y → y < M.next := by
  obtain ⟨O, v, h1, h2, h3⟩ := h
  exact fun y hy => h1.wlt y (.inl hy)
theorem Both.add (h : Both M q b c l I W) (hn : Nx M M') {P : Nat → Prop} (hP : ∀ y, P y → M.next ≤ y ∧ y < M'.next) : Both M' q b c l I (fun y => W y ∨ P y) := by
  obtain ⟨O, v, h1, h2, h3⟩ := h
  refine ⟨O, v, (h1.add hn hP).less fun y hy => ?_, h2.nx h1.fresh hn, fun y hy e => ?_⟩
  · rcases hy with (hy | hy) | hy
    · exact .inl (.inl hy)
    · exact .inr hy
    · exact .inl (.inr hy)
  · rcases e with e | e
    · exact h3 y hy e
    · have := hP y e; have := h1.wlt y (.inr hy); omega
theorem both_where (h : Both M q b c (lsN I) I W) (hD : Dq c (lsN I) n) (hr : Rng I c) (hs : Sh (lsN I)) : Con EE.P 16 [PT q, In x] M (In (whI I x)) M := by
  rw [← wh_eq hD hr]
  exact h.qcon fun W' hQ => hQ.where hs
theorem both_may (h : Both M q b c (lsN I) I W) (hs : Sh (lsN I)) : Con EE.P 24 [PT q, Um a] M (.bool (decide (0 ≤ fewTo (lsN I) a c))) M :=
  h.qcon fun W' hQ => by
    obtain ⟨O, sl, cs, k1, k2⟩ := hQ.at_
    exact may_ok k1 hs.short fun y hy => (k2 y hy).1
theorem both_cores (h : Both M q b c l I W) : Con EE.P 29 [PT q] M (In c) M :=
  h.qcon fun W' hQ => by
    obtain ⟨O, sl, cs, k1, k2⟩ := hQ.at_
    exact cores_ok k1
theorem both_all (h : Both M q b c (lsN I) I W) (hD : Dq c (lsN I) n) (hr : Rng I c) (hc : c ≤ 8) (hn : n < 1000) : ∃ v M', Con EE.P 17 [PT q] M v M' ∧ SlI M' v (allI I) ∧ Nx M M' ∧ Both M' q b c (lsN I) I W := by
  obtain ⟨O, v, h1, h2, h3⟩ := id h
  obtain ⟨u, M', hc', hL, _, _⟩ := h1.all (hD.cat hn)
  rw [all_eq hr hc] at hL
  exact ⟨u, M', hc', hL.sl, hL.nx, h.nx hL.nx⟩
theorem both_start {m2 : Mem} {W : Nat → Prop} {j : Nat} (h : Qs m2 q c (fun _ => []) W) (hb : m2.next ≤ b ∧ b < m2.next + j) : Both ((m2.put b (.cells (Cells.ofList [In c, .slice none 0 0]) true 0)).bump j) q b c (lsN []) [] W := by
  have hn : Nx m2 ((m2.put b (.cells (Cells.ofList [In c, .slice none 0 0]) true 0)).bump j) :=
    ⟨by rw [Mem.next_bump, Mem.next_put]; omega, Fresh.of_low (by have := h.fresh.n64; simp only [Mem.next_bump, Mem.next_put]; omega) (Low.bump (Low.put (fun y hy => by simp only [Mem.next_bump, Mem.next_put] at hy; exact h.fresh.none y (by omega)) (by simp only [Mem.next_bump, Mem.next_put]; omega))), fun y hy => by rw [Mem.get_bump, Mem.get_put, if_neg (by omega)]⟩
  refine ⟨fun y => y = b, .slice none 0 0, (h.add hn (P := fun y => y = b) fun y hy => by subst hy; exact ⟨hb.1, by rw [Mem.next_bump, Mem.next_put]; exact hb.2⟩), ⟨⟨_, by rw [Mem.get_bump, Mem.get_put, if_pos rfl], rfl, rfl, rfl⟩, SlV.nil, rfl, fun y hy => (by cases hy), fun e => (by cases e)⟩, fun y hy e => ?_⟩
  subst hy
  have := h.wlt y e
  omega
end
end
end Go.Ab
/- QueuePlays: whatever comes in, it answers true. -/
namespace Go.Ab
open Go.Proofs
noncomputable section
set_option maxHeartbeats 8000000
set_option maxRecDepth 10000
theorem Nx.mk2 {m : Mem} {b j : Nat} {o o' : AObj} (hm : Fresh m) (hb : m.next ≤ b) (hj : b < m.next + j) : Nx m (((m.put b o).put b o').bump j) :=
  ⟨by simp only [Mem.next_bump, Mem.next_put]; omega, Fresh.of_low (by have := hm.n64; simp only [Mem.next_bump, Mem.next_put]; omega) (Low.bump (Low.put (Low.put (fun y hy => by simp only [Mem.next_bump, Mem.next_put] at hy; exact hm.none y (by omega)) (by simp only [Mem.next_bump, Mem.next_put]; omega)) (by simp only [Mem.next_bump, Mem.next_put]; omega))), fun y hy => by rw [Mem.get_bump, Mem.get_put, if_neg (by omega), Mem.get_put, if_neg (by omega)]⟩
theorem xcells {k x co : Int} {a : BitVec 32} : ∃ xc, (Cells.ofList [In 0, In 0, In 0, .int .u32 0]).write 0 [In k, In x, In co, Um a] = xc ∧ xc.nth 0 = some (In k) ∧ xc.nth 1 = some (In x) ∧ xc.nth 2 = some (In co) ∧ xc.nth 3 = some (Um a) :=
  ⟨_, rfl, rfl, rfl, rfl, rfl⟩
theorem bd48 {c : Nat} : buildA EE.P 48 [(0, In (c : Int))] = some (.agg #[In c, .slice none 0 0]) := by kernel_rfl
theorem eqNil {xo yo : Operand} {m : Mem} : eqA EE.P .eql 23 xo yo (.pointer none) (.pointer none) m = some (.bool true) := by kernel_rfl
theorem eqvU {k : IntKind} {n : Int} : EE.eqv (.int k n) (.int k n) = true := by
  show vEqL 8 _ _ = true
  simp [vEqL, vEq, vEqN]
theorem neqB' {xo yo : Operand} {p : Bool} {m : Mem} : eqA EE.P .neq 4 xo yo (.bool p) (.bool p) m = some (.bool false) := by
  cases p <;> kernel_rfl
section
variable {m : Mem} {l0 : Value} {n : Nat} {a2 : BitVec 32}
theorem plays_ok {x0 : Int} (hm : Fresh m) (ho : Ops m l0 n) : ∃ m', Con EE.P 6 [In x0, l0, Um a2] m (.bool true) m' := by
  refine Con.raw1 EE_ok fn6 (Nat.le_of_ble_eq_true rfl) ?_
  obtain ⟨aa, C0, rfl, hl2⟩ := id ho
  by_cases h60 : 60 < n
  · have h60' : (60 : Int) < (n : Int) := by omega
    simp only [f6, enumV, Nat.zero_add, Nat.reduceAdd, w6, W_seq, w6_0, Nat.le_refl, X_assign, ev_const, Nat.reduceLT, T_set, X_nil, thenQ_normal, w6_1, Mem.next_bump, Nat.le_add_right, bump_bump, X_move, ev_T, lk_cons, Nat.reduceEqDiff, if_false, if_true, X_len EE_sym, len_slice und_34, okI_some, X_bin EE_sym (op := .gtr) rfl, bin_gtr, h60', decide_true, W_cond, CDi_t, w6_3, w6_2, W_ret, thenQ_ret, FinX_ret, resA_tmp, T_get, resA_nil, Option.map_some, oneOr1, true_and]
    exact RawE.of (by rw [Mem.next_bump]; omega) fun y hy => rfl
  have h60' : ¬ (60 : Int) < (n : Int) := by omega
  have dT : ∀ p : Prop, [Decidable p] → p → decide p = true := fun p _ h => decide_eq_true h
  have dF : ∀ p : Prop, [Decidable p] → ¬ p → decide p = false := fun p _ h => decide_eq_false h
  by_cases hn : ¬ (1 ≤ x0 ∧ x0 ≤ 8)
  · simp only [f6, enumV, Nat.zero_add, Nat.reduceAdd, w6, W_seq, w6_0, Nat.le_refl, X_assign, ev_const, Nat.reduceLT, T_set, X_nil, thenQ_normal, w6_1, Mem.next_bump, Nat.le_add_right, bump_bump, X_move, ev_T, lk_cons, Nat.reduceEqDiff, if_false, if_true, X_len EE_sym, len_slice und_34, okI_some, X_bin EE_sym (op := .gtr) rfl, bin_gtr, h60', decide_false, W_cond, CDi_f, W_skip, w6_4, Nat.one_ne_zero, X_call ca_9, List.map_cons, List.map_nil, true_and]
    refine CallI.con0 (new_bad hn) ?_
    by_cases h1 : x0 < 1
    · have d0 := dT _ h1
      simp only [putT, Nat.reduceLT, T_set, X_move, ev_T, lk_cons, Nat.reduceEqDiff, if_false, if_true, X_extract EE_sym, List.getElem?_toArray, List.getElem?_cons_zero, okI_some, List.getElem?_cons_succ, X_assign, X_nil, thenQ_normal, W_seq, w6_5, Mem.next_bump, Nat.le_add_right, bump_bump, Nat.reduceAdd, Nat.one_ne_zero, X_bin EE_sym (op := .lss) rfl, ev_const, bin_lss, d0, X_guard EE_sym, T_get, GDi_tf, X_pick EE_sym, pickV_bool, W_cond, CDi_t, w6_7, w6_6, X_eql EE_sym, eq_int, decide_true, GDi_tt, eqNil, W_ret, thenQ_ret, FinX_ret, resA_tmp, resA_nil, Option.map_some, oneOr1, true_and]
      exact RawE.of (by first | omega | (rw [Mem.next_bump]; omega)) fun y hy => rfl
    · have d0 := dF _ h1
      have d1 := dT _ (show 8 < x0 by omega)
      simp only [putT, Nat.reduceLT, T_set, X_move, ev_T, lk_cons, Nat.reduceEqDiff, if_false, if_true, X_extract EE_sym, List.getElem?_toArray, List.getElem?_cons_zero, okI_some, List.getElem?_cons_succ, X_assign, X_nil, thenQ_normal, W_seq, w6_5, Mem.next_bump, Nat.le_add_right, bump_bump, Nat.reduceAdd, Nat.one_ne_zero, X_bin EE_sym (op := .lss) rfl, ev_const, bin_lss, d0, X_guard EE_sym, T_get, GDi_ff, X_bin EE_sym (op := .gtr) rfl, bin_gtr, d1, X_pick EE_sym, pickV_bool, Bool.false_eq_true, W_cond, CDi_t, w6_7, w6_6, X_eql EE_sym, eq_int, decide_true, GDi_tt, eqNil, W_ret, thenQ_ret, FinX_ret, resA_tmp, resA_nil, Option.map_some, oneOr1, true_and]
      exact RawE.of (by first | omega | (rw [Mem.next_bump]; omega)) fun y hy => rfl
  obtain ⟨c, rfl⟩ : ∃ c : Nat, x0 = c := ⟨x0.toNat, by omega⟩
  have hc1 : 1 ≤ c := by omega
  have hc8 : c ≤ 8 := by omega
  have d0 := dF _ (show ¬ (c : Int) < 1 by omega)
  have d1 := dF _ (show ¬ (8 : Int) < (c : Int) by omega)
  simp only [f6, enumV, Nat.zero_add, Nat.reduceAdd, w6, W_seq, w6_0, Nat.le_refl, X_assign, ev_const, Nat.reduceLT, T_set, X_nil, thenQ_normal, w6_1, Mem.next_bump, Nat.le_add_right, bump_bump, X_move, ev_T, lk_cons, Nat.reduceEqDiff, if_false, if_true, X_len EE_sym, len_slice und_34, okI_some, X_bin EE_sym (op := .gtr) rfl, bin_gtr, h60', decide_false, W_cond, CDi_f, W_skip, w6_4, Nat.one_ne_zero, X_call ca_9, List.map_cons, List.map_nil, true_and]
  refine CallI.ex2 (Qs.new (n := c) (W := fun y => y < m.next) hm.bump (fun y hy => by rw [Mem.next_bump]; omega) hc1 hc8) fun v m2 hv => ?_
  obtain ⟨q, rfl, h2, w2⟩ := hv
  have w2 := w2.of_bump
  have n2 := w2.next
  simp only [putT, Nat.reduceLT, T_set, X_move, ev_T, lk_cons, Nat.reduceEqDiff, if_false, if_true, X_extract EE_sym, List.getElem?_toArray, List.getElem?_cons_zero, okI_some, List.getElem?_cons_succ, X_assign, X_nil, thenQ_normal, W_seq, w6_5, n2, Nat.one_ne_zero, X_bin EE_sym (op := .lss) rfl, ev_const, bin_lss, d0, X_guard EE_sym, T_get, GDi_ff, X_bin EE_sym (op := .gtr) rfl, bin_gtr, d1, X_pick EE_sym, pickV_bool, Bool.false_eq_true, W_cond, CDi_f, W_skip, w6_8, Mem.next_bump, Nat.le_add_right_of_le, bump_bump, Nat.reduceAdd, X_build EE_sym, List.map_cons, List.map_nil, bd48, X_box, box_agg, Nat.add_assoc, put_bump, w6_9, Mem.next_put, W_block, w6_49, true_and]
  obtain ⟨b, hb⟩ : ∃ b, b = m2.next + 8 := ⟨_, rfl⟩
  have hst := both_start (j := 11) (b := m2.next + 8) h2 (by omega)
  rw [← hb] at hst
  refine WX.loop_of (fun x t M => ∃ (i : Nat) (I : Items), i ≤ n ∧ x = n - i ∧ t = T 203 [(10, In i), (9, PT b), (8, In 0), (7, PT q), (2, Um a2), (1, .slice aa n C0), (0, In c)] ∧ Both M q b c (lsN I) I (fun y => y < m.next) ∧ Wx (fun y => y < m.next) m M ∧ Dq c (lsN I) i ∧ Rng I c ∧ I.length ≤ i) ?_ (k := n) (t1 := T 203 [(10, In (0 : Nat)), (9, PT b), (8, In 0), (7, PT q), (2, Um a2), (1, .slice aa n C0), (0, In c)]) (View.temps ⟨rfl, by rw [hb]; rfl, rfl, rfl, rfl, rfl, rfl, trivial⟩) ⟨0, [], by omega, rfl, rfl, by rw [← hb]; exact hst, w2.trans (Wx.of_nx (by
      refine ⟨by rw [Mem.next_bump, Mem.next_put]; omega, hst.fresh |> fun h => by rw [← hb]; exact h, fun y hy => by rw [Mem.get_bump, Mem.get_put, if_neg (by omega)]⟩) h2.wlt), Dq.start, fun p hp => (by cases hp), Nat.le_refl _⟩
  clear h2 w2 n2 hst
  rintro x t M ⟨i, I, hi, rfl, rfl, hB, hw, hD, hr, hI⟩
  have hnx := hw.next
  by_cases hin : ¬ i < n
  · obtain rfl : i = n := by omega
    have g1 : ¬ (i : Int) < (i : Int) := by omega
    simp only [w6_48, W_seq, w6_10, hnx, X_move, Nat.reduceLT, ev_T, lk_cons, Nat.reduceEqDiff, if_false, if_true, T_set, X_len EE_sym, len_slice und_34, okI_some, X_bin EE_sym (op := .lss) rfl, bin_lss, g1, decide_false, X_nil, thenQ_normal, W_cond, CDi_f, W_exit, thenQ_exit, roundQ_exit, blockQ_exit, w6_50, Mem.next_bump, Nat.le_add_right_of_le, bump_bump, Nat.reduceAdd, X_eql EE_sym, ev_const, eq_int, decide_true, X_guard EE_sym, T_get, GDi_tt, X_call ca_29, List.map_cons, List.map_nil, true_and]
    refine CallI.con0 (both_cores (hB.bump _)) ?_
    simp only [putT, Nat.reduceLT, T_set, X_guard EE_sym, T_get, lk_cons, Nat.reduceEqDiff, if_false, if_true, GDi_tt, X_move, ev_T, Nat.one_ne_zero, X_eql EE_sym, eq_int, decide_true, okI_some, X_pick EE_sym, ev_const, pickV_bool, X_assign, X_nil, thenQ_normal, W_ret, FinX_ret, resA_tmp, resA_nil, Option.map_some, oneOr1]
    exact RawE.of (by rw [Mem.next_bump]; omega) fun y hy => hw.old y hy
  have hin : i < n := by omega
  have g1 : (i : Int) < (n : Int) := by omega
  have g2 : (0 : Int) ≤ i := by omega
  have hwi : IntKind.i64.wrap ((i : Int) + 1) = ((i + 1 : Nat) : Int) := by rw [wrap_i64 (by omega) (by omega)]; omega
  rcases hl2 with hl2 | ⟨L, cs, ww, z, rfl, e1, e2⟩
  · omega
  obtain ⟨kk, px, co, a, e3⟩ := e2 i hin
  have e4 : M.get L = some (.cells cs ww z) := by rw [hw.old L (hm.lt e1), e1]
  obtain ⟨xc, hxc, x0, x1, x2, x3⟩ := xcells (k := kk) (x := px) (co := co) (a := a)
  simp only [w6_48, W_seq, w6_10, hnx, X_move, Nat.reduceLT, ev_T, lk_cons, Nat.reduceEqDiff, if_false, if_true, T_set, X_len EE_sym, len_slice und_34, okI_some, X_bin EE_sym (op := .lss) rfl, bin_lss, g1, decide_true, X_nil, thenQ_normal, W_cond, CDi_t, W_skip, W_block, w6_46, w6_11, Mem.next_bump, Nat.le_add_right_of_le, bump_bump, Nat.reduceAdd, X_indexAddr EE_sym, g2, idxV_slice und_34 sz_36, Int.toNat_natCast, Nat.zero_add, X_load EE_sym, loadN lay_36, Mem.get_bump, e4, ldN_cells, e3, Option.map_some, X_alloc, zero_36, Nat.add_assoc, put_bump, X_store, store1 sz_36, Mem.get_put, cells_agg, st1_cells, List.length_cons, List.length_nil, ofList_n, Nat.le_refl, List.all_cons, oneCell, List.all_nil, Bool.and_self, and_self, hxc, w6_12, Mem.next_put, X_assign, ev_const, w6_13, X_fieldAddr EE_sym fo_36_0, offV_ptr, Nat.add_zero, load1 lay_3, ld1_cells, x0, true_and]
  obtain ⟨xb, hxb⟩ : ∃ xb, xb = M.next + 8 := ⟨_, rfl⟩
  have hnx2 := Nx.mk2 (o := .cells (Cells.ofList [In 0, In 0, In 0, .int .u32 0]) true 0) (o' := .cells xc true 0) (j := 13) hB.fresh (b := M.next + 8) (by omega) (by omega)
  have hBx := hB.add hnx2 (P := fun y => y = xb) fun y hy => by subst hy; rw [hxb]; exact ⟨by omega, by simp only [Mem.next_bump, Mem.next_put]; omega⟩
  have hwx := hw.trans (Wx.of_nx hnx2 hB.wlt)
  refine WX.mono ?_ (plays_kind (q := q) (b := b) (c := c) (xb := xb) (n := i) (I := I) (W := fun y => y < m.next ∨ y = xb) (kk := kk) (px := px) (co := co) (a := a) (xc := xc) rfl rfl (by rw [hxb]; rfl) rfl rfl hBx (by rw [hxb, Mem.get_bump, Mem.get_put, if_pos rfl]) (.inr rfl) x1 x2 x3 hD hr hc8 (by omega) hI (by simp only [Mem.next_bump, Mem.next_put]; omega))
  rintro x t M1 ⟨rfl, J, I1, rfl, ⟨j11, j10, j9, j8, j7, j2, j1, j0⟩, j12, hB1, hw1, hD1, hr1, hI1⟩
  have j10 : lk J 10 = In i := j10
  have j9 : lk J 9 = PT b := j9
  have j8 : lk J 8 = In 0 := j8
  have j7 : lk J 7 = PT q := j7
  have j2 : lk J 2 = Um a2 := j2
  have j1 : lk J 1 = .slice (some ⟨L, 0, none⟩) n C0 := j1
  have j0 : lk J 0 = In c := j0
  have j11 : lk J 11 = PT xb := by rw [j11, hxb]; rfl
  have q1 : M1.get xb = some (.cells xc true 0) := by rw [hw1.old xb (.inr rfl), hxb, Mem.get_bump, Mem.get_put, if_pos rfl]
  have hw1 := hwx.trans (hw1.mono fun y hy => .inl hy)
  have hB1 := hB1.less (W' := fun y => y < m.next) fun y hy => .inl hy
  have hxbn : xb < M1.next := hB1.fresh.lt q1
  clear hBx hnx2 hwx
  have n1 := hw1.next
  have hs1 := hD1.sh hc8 (by omega)
  have hI8 : I1.length < 1073741824 := by omega
  simp only [blockQ_normal, thenQ_normal, W_seq, w6_34, n1, Y_0, X_move, Nat.reduceLT, ev_T, j12, T_set, X_nil, keepM_f, X_un EE_sym, lk_cons, if_true, un_not, Bool.not_true, okI_some, Nat.reduceEqDiff, if_false, X_guard EE_sym, T_get, GDi_ff, j7, X_fieldAddr EE_sym fo_36_1, j11, offV_ptr, Nat.zero_add, X_load EE_sym, load1 lay_3, Mem.get_bump, q1, ld1_cells, x1, X_call ca_16, List.map_cons, List.map_nil, true_and]
  refine CallI.con0 (both_where (x := px) (hB1.bump _) hD1 hr1 hs1) ?_
  simp only [putT, Nat.reduceLT, T_set, X_nil, keepM_t, Y_0, X_guard EE_sym, T_get, lk_cons, Nat.reduceEqDiff, if_false, if_true, GDi_ff, X_move, ev_T, j9, keepM_f, X_fieldAddr EE_sym fo_36_1, j11, offV_ptr, Nat.zero_add, okI_some, Y_guard EE_sym, Y_re, RE_load EE_sym, load1 lay_3, Mem.get_bump, q1, ld1_cells, x1, lookK_cons, eqvU, TDi_t, X_load EE_sym, X_call ca_23, List.map_cons, List.map_nil]
  refine CallI.con ((hB1.bump _).con fun O v hR => where_r (x := px) hR hI8) (by simp) ?_
  simp only [putT, Nat.reduceLT, T_set, X_nil, keepM_f, Y_0, X_guard EE_sym, T_get, lk_cons, Nat.reduceEqDiff, if_false, if_true, GDi_ff, X_neq EE_sym, ev_T, neq_int, decide_true, Bool.not_true, okI_some, X_pick EE_sym, ev_const, pickV_bool, Bool.false_eq_true, X_move, j7, X_fieldAddr EE_sym fo_36_3, j11, offV_ptr, Nat.zero_add, X_load EE_sym, load1 lay_29, Mem.get_bump, q1, ld1_cells, x3, X_call ca_24, List.map_cons, List.map_nil]
  refine CallI.con (both_may (a := a) (hB1.bump _) hs1) (by simp) ?_
  simp only [putT, Nat.reduceLT, T_set, X_nil, keepM_t, Y_0, X_guard EE_sym, T_get, lk_cons, Nat.reduceEqDiff, if_false, if_true, GDi_ff, X_move, ev_T, j9, keepM_f, X_fieldAddr EE_sym fo_36_3, j11, offV_ptr, Nat.zero_add, okI_some, Y_guard EE_sym, Y_re, RE_load EE_sym, load1 lay_29, Mem.get_bump, q1, ld1_cells, x3, lookK_cons, eqvU, TDi_t, X_load EE_sym, X_call ca_25, List.map_cons, List.map_nil]
  refine CallI.ex2L ((hB1.bump 32).rlook (R := fun u _ => u = .bool (decide (0 ≤ fewTo (lsN I1) a c))) fun O v hR hO => by
    obtain ⟨u, M', hc, hu, hn⟩ := may_r (a := a) hR hB1.fresh.bump hO hc8 hI8
    exact ⟨u, M', hc, hn, hu⟩) (by simp) fun u M2 hv => ?_
  obtain ⟨hB2, hn2, rfl⟩ := hv
  have hn2 := hn2.of_bump
  have q2 : M2.get xb = some (.cells xc true 0) := by rw [hn2.old xb hxbn, q1]
  have hw2 := hw1.trans (Wx.of_nx hn2 hB1.wlt)
  have n2 := hw2.next
  simp only [putT, Nat.reduceLT, T_set, X_nil, keepM_f, Y_0, X_guard EE_sym, T_get, lk_cons, Nat.reduceEqDiff, if_false, if_true, GDi_ff, X_neq EE_sym, ev_T, neqB', okI_some, X_pick EE_sym, ev_const, pickV_bool, Bool.false_eq_true, X_move, j7, X_call ca_17, List.map_cons, List.map_nil]
  refine CallI.ex2L (both_all hB2 hD1 hr1 hc8 (by omega)) (by simp) fun v3 M3 hv => ?_
  obtain ⟨hs3, hn3, hB3⟩ := hv
  have hw3 := hw2.trans (Wx.of_nx hn3 hB2.wlt)
  have n3 := hw3.next
  simp only [putT, Nat.reduceLT, T_set, X_nil, keepM_f, Y_0, X_guard EE_sym, T_get, lk_cons, Nat.reduceEqDiff, if_false, if_true, GDi_ff, X_move, ev_T, j9, X_call ca_26, List.map_cons, List.map_nil]
  refine CallI.ex2L (hB3.rlook (R := fun u M' => NewL M3 M' u (allI I1)) fun O v hR hO => by
    obtain ⟨u, M', hc, hL⟩ := all_r hR hB3.fresh hO (by omega)
    exact ⟨u, M', hc, hL.nx, hL⟩) (by simp) fun v4 M4 hv => ?_
  obtain ⟨hB4, hn4, hL4⟩ := hv
  have hw4 := hw3.trans (Wx.of_nx hn4 hB3.wlt)
  have n4 := hw4.next
  simp only [putT, Nat.reduceLT, T_set, X_nil, keepM_f, Y_0, X_guard EE_sym, T_get, lk_cons, Nat.reduceEqDiff, if_false, if_true, GDi_ff, X_call ca_15, List.map_cons, ev_T, List.map_nil]
  refine CallI.con (same_ok (m := M4) (hs3.nx hB3.fresh hn4) hL4.sl (by rw [allI_len]; omega)) (by simp) ?_
  simp only [putT, Nat.reduceLT, T_set, X_nil, keepM_f, Y_0, X_guard EE_sym, T_get, lk_cons, Nat.reduceEqDiff, if_false, if_true, GDi_ff, X_un EE_sym, ev_T, un_not, Bool.not_true, okI_some, X_pick EE_sym, ev_const, pickV_bool, Bool.false_eq_true, Y_nil, thenQ_normal, W_cond, CDi_f, W_skip, W_seq, w6_37, n4, X_assign, W_block, true_and]
  refine WX.mono ?_ (plays_scan (m := m) (q := q) (b := b) (n := i + 1) (I := I1) (W := fun y => y < m.next) (a := a2) j10 j9 j8 j7 j2 j1 j0 rfl (hB4.bump _) (hw4.bump _) hD1 hr1 hc8 (by omega) hI1 (fun y hy => by rw [Mem.next_bump]; omega))
  rintro x t M5 ⟨rfl, J5, rfl, k10, k9, k8, k7, k2, k1, k0, hB5, hw5⟩
  have n5 := hw5.next
  simp only [blockQ_exit, if_true, blockQ_normal, thenQ_normal, w6_47, n5, X_move, Nat.reduceLT, ev_T, k10, T_set, X_bin EE_sym (op := .add) rfl, lk_cons, ev_const, bin_add, hwi, okI_some, X_assign, Nat.reduceEqDiff, if_false, X_nil, roundQ_normal, true_and]
  exact ⟨n - (i + 1), _, _, by omega, View.temps (l' := [(10, In ((i + 1 : Nat) : Int)), (9, PT b), (8, In 0), (7, PT q), (2, Um a2), (1, .slice (some ⟨L, 0, none⟩) n C0), (0, In c)]) ⟨rfl, k9, k8, k7, k2, k1, k0, trivial⟩, i + 1, I1, by omega, rfl, rfl, hB5.bump _, hw5.bump _, hD1, hr1, hI1⟩
end
end
end Go.Ab
