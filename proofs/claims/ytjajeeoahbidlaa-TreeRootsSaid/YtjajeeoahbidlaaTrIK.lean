/- Tree: what stays: plain laws. -/
import Derived.Test.YtjajeeoahbidlaaTrH
namespace Go.Ab
noncomputable section
section
variable {L A B : TL} {p q x a pid room top : Int} {s : BitVec 32} {u : Pr} {K : List Int}
theorem at_set : at_ (mset L p u) q = if q = p then u else at_ L q := by
  unfold at_
  rw [mget_set]
  split <;> rfl
theorem at_del (h : q ≠ p) : at_ (mdel L p) q = at_ L q := by unfold at_; rw [mget_del h]
theorem at_no (h : q ∉ mkeys L) : at_ L q = (0, 0, 0#32) := by unfold at_; rw [mget_none h]; rfl
theorem keys_in (h : p ∈ mkeys L) : mkeys (mset L p u) = mkeys L := by rw [keys_set, if_pos h]
theorem mem_set : q ∈ mkeys (mset L p u) ↔ q = p ∨ q ∈ mkeys L := by
  rw [keys_set]
  split
  · rename_i h
    exact ⟨.inr, fun e => e.elim (fun e => e ▸ h) id⟩
  · rw [List.mem_append, List.mem_singleton]
    exact ⟨fun e => e.symm, fun e => e.symm⟩
theorem mem_del (h : (mkeys L).Nodup) : q ∈ mkeys (mdel L p) ↔ q ∈ mkeys L ∧ q ≠ p := by
  constructor
  · intro hq
    refine ⟨keys_del.subset hq, fun e => ?_⟩
    have := mget_mem hq
    rw [e, mget_del_self h] at this
    cases this
  · rintro ⟨h1, h2⟩
    apply Classical.byContradiction
    intro hn
    have h3 := mget_none hn
    rw [mget_del h2] at h3
    have := mget_mem h1
    rw [h3] at this
    cases this
theorem len_set (h : p ∈ mkeys L) : (mset L p u).length = L.length := by
  have := congrArg List.length (keys_in (u := u) h)
  rwa [List.length_map, List.length_map] at this
theorem len_new (h : p ∉ mkeys L) : (mset L p u).length = L.length + 1 := by
  have : mkeys (mset L p u) = mkeys L ++ [p] := by rw [keys_set, if_neg h]
  have := congrArg List.length this
  rwa [List.length_map, List.length_append, List.length_map] at this
theorem len_del : ∀ {L : TL}, p ∈ mkeys L → (mdel L p).length + 1 = L.length
  | [], h => by cases h
  | (y, v) :: L, h => by
    unfold mdel
    by_cases e : p = y
    · rw [if_pos e]; rfl
    · rw [if_neg e]
      have hp : p ∈ mkeys L := by
        rcases List.mem_cons.1 (show p ∈ y :: mkeys L from h) with h | h
        · exact absurd h e
        · exact h
      have := len_del (L := L) hp
      simp only [List.length_cons]
      omega
/-- Parents are the same, and keys. -/
theorem kids_congr (hk : mkeys A = mkeys B) (hp : ∀ q ∈ mkeys B, (at_ A q).1 = (at_ B q).1) : kids A a = kids B a := by
  unfold kids ks
  rw [hk]
  refine List.filter_congr fun q hq => ?_
  unfold kid
  rw [hp q ((isort_perm _).mem_iff.1 hq)]
theorem up_fold : ∀ {K : List Int} {A : TL}, (∀ q ∈ K, q ∈ mkeys A) → mkeys (K.foldl up1 A) = mkeys A ∧ ∀ q, at_ (K.foldl up1 A) q = if q ∈ K then (1, (at_ A q).2) else at_ A q
  | [], A, _ => ⟨rfl, fun q => rfl⟩
  | c :: K, A, h => by
    have hc := h c List.mem_cons_self
    have hk : mkeys (up1 A c) = mkeys A := keys_in hc
    obtain ⟨h1, h2⟩ := up_fold (K := K) (A := up1 A c) fun q hq => by rw [hk]; exact h q (List.mem_cons_of_mem _ hq)
    refine ⟨h1.trans hk, fun q => ?_⟩
    rw [List.foldl_cons, h2 q]
    have h3 : at_ (up1 A c) q = if q = c then (1, (at_ A c).2) else at_ A q := at_set
    rw [h3]
    by_cases e : q = c
    · subst e
      rw [if_pos rfl, if_pos List.mem_cons_self]
      split <;> rfl
    · rw [if_neg e]
      by_cases e2 : q ∈ K
      · rw [if_pos e2, if_pos (List.mem_cons_of_mem _ e2)]
      · rw [if_neg e2, if_neg fun e3 => by rcases List.mem_cons.1 e3 with e3 | e3; exact e e3; exact e2 e3]
theorem frz_fold : ∀ {K : List Int} {A : TL}, (∀ q ∈ K, q ∈ mkeys A) → mkeys (K.foldl frz A) = mkeys A ∧ ∀ q, at_ (K.foldl frz A) q = if q ∈ K then ((at_ A q).1, 3, 0#32) else at_ A q
  | [], A, _ => ⟨rfl, fun q => rfl⟩
  | c :: K, A, h => by
    have hc := h c List.mem_cons_self
    have hk : mkeys (frz A c) = mkeys A := keys_in hc
    obtain ⟨h1, h2⟩ := frz_fold (K := K) (A := frz A c) fun q hq => by rw [hk]; exact h q (List.mem_cons_of_mem _ hq)
    refine ⟨h1.trans hk, fun q => ?_⟩
    rw [List.foldl_cons, h2 q]
    have h3 : at_ (frz A c) q = if q = c then ((at_ A c).1, 3, 0#32) else at_ A q := at_set
    rw [h3]
    by_cases e : q = c
    · subst e
      rw [if_pos rfl, if_pos List.mem_cons_self]
      split <;> rfl
    · rw [if_neg e]
      by_cases e2 : q ∈ K
      · rw [if_pos e2, if_pos (List.mem_cons_of_mem _ e2)]
      · rw [if_neg e2, if_neg fun e3 => by rcases List.mem_cons.1 e3 with e3 | e3; exact e e3; exact e2 e3]
/-- A good table. -/
structure Gt (L : TL) (room top : Int) : Prop where
  nd : (mkeys L).Nodup
  one : at_ L 1 = (0, 1, 0#32)
  rng : ∀ q ∈ mkeys L, 1 ≤ q ∧ q ≤ top
  tp : 1 ≤ top ∧ top ≤ 65535
  len : (L.length : Int) ≤ room
  rm : 1 ≤ room ∧ room ≤ 32
  par : ∀ q ∈ mkeys L, q ≠ 1 → (at_ L q).1 ∈ mkeys L ∧ (at_ L q).1 < q
  st : ∀ q ∈ mkeys L, (at_ L q).2.1 = 1 ∨ (at_ L q).2.1 = 2 ∨ (at_ L q).2.1 = 3
  zk : ∀ q ∈ mkeys L, (at_ L q).2.1 = 2 → ∀ x ∈ mkeys L, (at_ L x).1 ≠ q
  lv : ∀ q ∈ mkeys L, (at_ L q).2.1 = 1 → (at_ L q).2.2 = 0#32
theorem Gt.Par (h : Gt L room top) : Par L := ⟨h.nd, fun q hq => (h.rng q hq).1, by rw [h.one], h.par⟩
theorem Gt.one_in (h : Gt L room top) : 1 ∈ mkeys L := in_keys (by rw [h.one]; decide)
theorem wf_pid (h1 : 1 ≤ q) (h2 : q ≤ 65535) : (Lit.int .i64 q).wf = true := by
  have e1 : IntKind.i64.min = -9223372036854775808 := by decide
  have e2 : IntKind.i64.max = 9223372036854775807 := by decide
  simp only [Lit.wf, e1, e2, Bool.and_eq_true, decide_eq_true_eq]
  omega
theorem Gt.wf (h : Gt L room top) : wfT L := fun r hr => by
  have := h.rng r.1 (List.mem_map_of_mem hr)
  have := h.tp
  exact wf_pid (by omega) (by omega)
theorem Gt.start (hr : 1 ≤ room ∧ room ≤ 32) : Gt [(1, (0, 1, 0#32))] room 1 := by
  have e : ∀ q ∈ mkeys [((1 : Int), ((0 : Int), (1 : Int), 0#32))], q = 1 := fun q hq => List.mem_singleton.1 hq
  refine ⟨List.nodup_cons.2 ⟨fun h => (by cases h), List.nodup_nil⟩, rfl, fun q hq => ?_, by decide, by simp; omega, hr, fun q hq h => absurd (e q hq) h, fun q hq => ?_, fun q hq h => ?_, fun q hq _ => ?_⟩
  · have := e q hq; omega
  · obtain rfl := e q hq; exact .inl rfl
  · obtain rfl := e q hq; cases h
  · obtain rfl := e q hq; rfl
theorem Gt.fork (h : Gt L room top) : Gt (forkL L room top p) room (forkT L room top p) := by
  unfold forkL forkT
  by_cases he : forkE L room top p = 0
  · rw [if_pos he, if_pos he]
    unfold forkE at he
    by_cases c1 : (at_ L p).2.1 = 1
    · rw [if_pos c1] at he
      by_cases c2 : room - (L.length : Int) = 0
      · rw [if_pos c2] at he; cases he
      · rw [if_neg c2] at he
        by_cases c3 : 65535 ≤ top
        · rw [if_pos c3] at he; cases he
        · have hp := in_keys (by rw [c1]; decide : (at_ L p).2.1 ≠ 0)
          have hnew : top + 1 ∉ mkeys L := fun e => by have := (h.rng _ e).2; omega
          have htp := h.tp
          have hrp := h.rng p hp
          have hlen := h.len
          refine ⟨nodup_set h.nd, ?_, fun q hq => ?_, by omega, ?_, h.rm, fun q hq h1 => ?_, fun q hq => ?_, fun q hq hz x hx => ?_, fun q hq hl => ?_⟩
          · rw [at_set, if_neg (by omega)]; exact h.one
          · rcases mem_set.1 hq with rfl | hq
            · omega
            · have := h.rng q hq; omega
          · rw [len_new hnew]; omega
          · rw [at_set]
            rcases mem_set.1 hq with rfl | hq
            · rw [if_pos rfl]
              exact ⟨mem_set.2 (.inr hp), by show p < _; omega⟩
            · rw [if_neg fun e => hnew (by rw [← e]; exact hq)]
              exact ⟨mem_set.2 (.inr (h.par q hq h1).1), (h.par q hq h1).2⟩
          · rw [at_set]
            split
            · exact .inl rfl
            · rename_i e
              exact h.st q ((mem_set.1 hq).resolve_left e)
          · rw [at_set] at hz
            by_cases e : q = top + 1
            · rw [if_pos e] at hz; cases hz
            · rw [if_neg e] at hz
              have hq := (mem_set.1 hq).resolve_left e
              rw [at_set]
              split
              · exact fun e2 => by rw [← e2] at hz; rw [c1] at hz; cases hz
              · rename_i e2
                exact h.zk q hq hz x ((mem_set.1 hx).resolve_left e2)
          · rw [at_set] at hl ⊢
            split
            · rfl
            · rename_i e
              rw [if_neg e] at hl
              exact h.lv q ((mem_set.1 hq).resolve_left e) hl
    · rw [if_neg c1] at he; cases he
  · rw [if_neg he, if_neg he]
    exact h
/-- Who exits. -/
theorem exit_at (h : Gt L room top) (he : exitE L p = 0) : p ∈ mkeys L ∧ p ≠ 1 ∧ (at_ L p).2.1 = 1 := by
  unfold exitE at he
  by_cases c1 : (at_ L p).2.1 = 1
  · rw [if_pos c1] at he
    by_cases c2 : p = 1
    · rw [if_pos c2] at he; cases he
    · exact ⟨in_keys (by rw [c1]; decide), c2, c1⟩
  · rw [if_neg c1] at he; cases he
theorem exitB_kids (h : Gt L room top) (hp : p ∈ mkeys L) : kids (exitB L p s) a = kids L a := by
  refine kids_congr (keys_in hp) fun q _ => ?_
  unfold exitB
  rw [at_set]
  split
  · rename_i e; rw [e]
  · rfl
theorem exit_keys (h : Gt L room top) (he : exitE L p = 0) : mkeys (exitL L p s) = mkeys L ∧ ∀ q, at_ (exitL L p s) q = if q = p then ((at_ L p).1, 2, s) else if q ∈ kids L p then (1, (at_ L q).2) else at_ L q := by
  obtain ⟨hp, h1, h2⟩ := exit_at h he
  have hk : mkeys (exitB L p s) = mkeys L := keys_in hp
  unfold exitL
  rw [if_pos he, exitB_kids h hp]
  obtain ⟨g1, g2⟩ := up_fold (K := kids L p) (A := exitB L p s) fun q hq => by rw [hk]; exact (mem_kids.1 hq).1
  refine ⟨g1.trans hk, fun q => ?_⟩
  rw [g2 q]
  have h3 : at_ (exitB L p s) q = if q = p then ((at_ L p).1, 2, s) else at_ L q := at_set
  rw [h3]
  by_cases e : q = p
  · subst e
    have : q ∉ kids L q := fun hq => by
      have h4 := mem_kids.1 hq
      have := h.Par.lt h4.1
      omega
    rw [if_neg this, if_pos rfl, if_pos rfl]
  · rw [if_neg e, if_neg e]
theorem Gt.exit (h : Gt L room top) : Gt (exitL L p s) room top := by
  by_cases he : exitE L p = 0
  · obtain ⟨hp, h1, h2⟩ := exit_at h he
    obtain ⟨g1, g2⟩ := exit_keys (s := s) h he
    have hlt := h.Par.lt hp
    have hl : (exitL L p s).length = L.length := by
      have := congrArg List.length g1
      rwa [List.length_map, List.length_map] at this
    have hone : 1 ∉ kids L p := fun e => by have := mem_kids.1 e; rw [h.one] at this; have := this.2; simp only at this; omega
    refine ⟨by rw [g1]; exact h.nd, ?_, fun q hq => h.rng q (g1 ▸ hq), h.tp, by rw [hl]; exact h.len, h.rm, fun q hq hq1 => ?_, fun q hq => ?_, fun q hq hz x hx => ?_, fun q hq hl => ?_⟩
    · rw [g2, if_neg (Ne.symm h1), if_neg hone]; exact h.one
    · rw [g1] at hq ⊢
      rw [g2]
      have := h.par q hq hq1
      have := (h.rng q hq).1
      split
      · rename_i e; rw [e] at this ⊢; exact h.par p hp h1
      · split
        · exact ⟨h.one_in, by show 1 < q; omega⟩
        · exact h.par q hq hq1
    · rw [g1] at hq
      rw [g2]
      split
      · exact .inr (.inl rfl)
      · split
        · exact h.st q hq
        · exact h.st q hq
    · rw [g1] at hq hx
      rw [g2] at hz ⊢
      have hpp : ∀ y, (at_ L y).1 = p → y ∈ mkeys L → y ∈ kids L p := fun y e hy => mem_kids.2 ⟨hy, by have := (h.rng p hp).1; omega, e⟩
      have q1 : q ≠ 1 := fun e => by rw [e, if_neg (Ne.symm h1), if_neg hone, h.one] at hz; cases hz
      by_cases e : x = p
      · rw [if_pos e]
        show (at_ L p).1 ≠ q
        by_cases e2 : q = p
        · rw [e2]; omega
        · rw [if_neg e2] at hz
          have hz' : (at_ L q).2.1 = 2 := by
            split at hz
            · exact hz
            · exact hz
          exact h.zk q hq hz' p hp
      · rw [if_neg e]
        by_cases e2 : x ∈ kids L p
        · rw [if_pos e2]; exact Ne.symm q1
        · rw [if_neg e2]
          by_cases e3 : q = p
          · rw [e3]; exact fun e4 => e2 (hpp x e4 hx)
          · rw [if_neg e3] at hz
            have hz' : (at_ L q).2.1 = 2 := by
              split at hz
              · exact hz
              · exact hz
            exact h.zk q hq hz' x hx
    · rw [g1] at hq
      rw [g2] at hl ⊢
      by_cases e : q = p
      · rw [if_pos e] at hl; cases hl
      · rw [if_neg e] at hl ⊢
        by_cases e2 : q ∈ kids L p
        · rw [if_pos e2] at hl ⊢; exact h.lv q hq hl
        · rw [if_neg e2] at hl ⊢; exact h.lv q hq hl
  · unfold exitL
    rw [if_neg he]
    exact h
end
end
end Go.Ab
/- Tree: what stays, behind Reap and Freeze: plain laws. -/
namespace Go.Ab
noncomputable section
section
variable {L A B : TL} {p q x a c pid room top : Int} {s : BitVec 32} {u : Pr} {K : List Int}
theorem ks_rise (h : (mkeys L).Nodup) : (ks L).Pairwise (· < ·) := by
  have h1 := isort_sorted (mkeys L)
  have h2 := ks_nodup h
  unfold ks at h2 ⊢
  exact (h1.and h2).imp fun h => by obtain ⟨h3, h4⟩ := h; omega
theorem kids_rise (h : (mkeys L).Nodup) : (kids L a).Pairwise (· < ·) := (ks_rise h).sublist List.filter_sublist
theorem zom_some (h : zom L pid = some c) : c ∈ kids L pid ∧ (at_ L c).2.1 = 2 := by
  unfold zom at h
  have h1 := List.find?_some h
  exact ⟨List.mem_of_find?_eq_some h, by unfold isZ at h1; exact of_decide_eq_true h1⟩
theorem find_least : ∀ {l : List Int} {f : Int → Bool}, l.Pairwise (· < ·) → l.find? f = some c → ∀ x ∈ l, f x = true → c ≤ x
  | [], _, _, h => by cases h
  | y :: l, f, hp, h => fun x hx hf => by
    obtain ⟨h1, h2⟩ := List.pairwise_cons.1 hp
    by_cases e : f y = true
    · rw [List.find?_cons_of_pos e] at h
      cases h
      rcases List.mem_cons.1 hx with rfl | hx
      · exact Int.le_refl _
      · have := h1 x hx; omega
    · rw [List.find?_cons_of_neg e] at h
      rcases List.mem_cons.1 hx with rfl | hx
      · exact absurd hf e
      · exact find_least h2 h x hx hf
theorem zom_least (hd : (mkeys L).Nodup) (h : zom L pid = some c) (hx : x ∈ kids L pid) (hz : (at_ L x).2.1 = 2) : c ≤ x := by
  unfold zom at h
  exact find_least (kids_rise hd) h x hx (decide_eq_true hz)
theorem zom_has (hx : x ∈ kids L pid) (hz : (at_ L x).2.1 = 2) : ∃ c, zom L pid = some c := by
  cases h : zom L pid with
  | some c => exact ⟨c, rfl⟩
  | none =>
    unfold zom at h
    exact absurd (decide_eq_true hz) (List.find?_eq_none.1 h x hx)
theorem zomR_ok (h : (zomR L pid).2.2 = 0) : ∃ c, zom L pid = some c ∧ zomR L pid = (c, (at_ L c).2.2, 0) ∧ (at_ L pid).2.1 = 1 := by
  unfold zomR at h ⊢
  by_cases c1 : (at_ L pid).2.1 = 1
  · rw [if_pos c1] at h ⊢
    cases hz : zom L pid with
    | some c => exact ⟨c, rfl, rfl, c1⟩
    | none =>
      rw [hz] at h
      simp only at h
      split at h <;> cases h
  · rw [if_neg c1] at h; cases h
/-- A process is taken away. -/
theorem Gt.del (h : Gt L room top) (hc : c ∈ mkeys L) (hz : (at_ L c).2.1 = 2) : Gt (mdel L c) room top := by
  have hc1 : c ≠ 1 := fun e => by rw [e, h.one] at hz; cases hz
  have hm : ∀ {q}, q ∈ mkeys (mdel L c) → q ∈ mkeys L ∧ q ≠ c := fun hq => (mem_del h.nd).1 hq
  have hl := len_del hc
  have hll := h.len
  refine ⟨nodup_del h.nd, by rw [at_del (Ne.symm hc1)]; exact h.one, fun q hq => h.rng q (hm hq).1, h.tp, by omega, h.rm, fun q hq h1 => ?_, fun q hq => ?_, fun q hq hz' x hx => ?_, fun q hq hl => ?_⟩
  · obtain ⟨q1, q2⟩ := hm hq
    rw [at_del q2]
    exact ⟨(mem_del h.nd).2 ⟨(h.par q q1 h1).1, h.zk c hc hz q q1⟩, (h.par q q1 h1).2⟩
  · obtain ⟨q1, q2⟩ := hm hq
    rw [at_del q2]; exact h.st q q1
  · obtain ⟨q1, q2⟩ := hm hq
    obtain ⟨x1, x2⟩ := hm hx
    rw [at_del q2] at hz'
    rw [at_del x2]
    exact h.zk q q1 hz' x x1
  · obtain ⟨q1, q2⟩ := hm hq
    rw [at_del q2] at hl ⊢
    exact h.lv q q1 hl
theorem Gt.reap (h : Gt L room top) : Gt (reapL L pid) room top := by
  unfold reapL
  by_cases he : (zomR L pid).2.2 = 0
  · rw [if_pos he]
    obtain ⟨c, h1, h2, h3⟩ := zomR_ok he
    rw [h2]
    obtain ⟨h4, h5⟩ := zom_some h1
    exact h.del (mem_kids.1 h4).1 h5
  · rw [if_neg he]; exact h
theorem freeze_at (h : Gt L room top) (he : freezeE L p = 0) : p ∈ mkeys L ∧ p ≠ 1 ∧ (at_ L p).2.1 = 1 := exit_at (L := L) h he
theorem tree_in (h : Gt L room top) (hp : p ∈ mkeys L) (hq : q ∈ treeL L p) : q ∈ mkeys L ∧ p ≤ q := by
  unfold treeL at hq
  split at hq
  · cases hq
  · have := (bst_inv h.Par hp L.length).mem q ((isort_perm _).mem_iff.1 hq)
    exact ⟨this.1, this.2.1⟩
theorem freeze_keys (h : Gt L room top) (he : freezeE L p = 0) : mkeys (freezeL L p) = mkeys L ∧ ∀ q, at_ (freezeL L p) q = if q ∈ treeL L p then ((at_ L q).1, 3, 0#32) else at_ L q := by
  obtain ⟨hp, _⟩ := freeze_at h he
  unfold freezeL
  rw [if_pos he]
  exact frz_fold fun q hq => (tree_in h hp hq).1
theorem Gt.freeze (h : Gt L room top) : Gt (freezeL L p) room top := by
  by_cases he : freezeE L p = 0
  · obtain ⟨hp, h1, h2⟩ := freeze_at h he
    obtain ⟨g1, g2⟩ := freeze_keys h he
    have hpar : ∀ q, (at_ (freezeL L p) q).1 = (at_ L q).1 := fun q => by rw [g2]; split <;> rfl
    have hrp := (h.rng p hp).1
    have hl : (freezeL L p).length = L.length := by
      have := congrArg List.length g1
      rwa [List.length_map, List.length_map] at this
    refine ⟨by rw [g1]; exact h.nd, ?_, fun q hq => h.rng q (g1 ▸ hq), h.tp, by rw [hl]; exact h.len, h.rm, fun q hq hq1 => ?_, fun q hq => ?_, fun q hq hz x hx => ?_, fun q hq hl => ?_⟩
    · rw [g2, if_neg fun e => by have := (tree_in h hp e).2; omega]; exact h.one
    · rw [g1] at hq ⊢
      rw [hpar]; exact h.par q hq hq1
    · rw [g1] at hq
      rw [g2]
      split
      · exact .inr (.inr rfl)
      · exact h.st q hq
    · rw [g1] at hq hx
      rw [hpar]
      rw [g2] at hz
      split at hz
      · cases hz
      · exact h.zk q hq hz x hx
    · rw [g1] at hq
      rw [g2] at hl ⊢
      split at hl
      · cases hl
      · rename_i e
        rw [if_neg e]; exact h.lv q hq hl
  · unfold freezeL
    rw [if_neg he]; exact h
end
end
end Go.Ab
/- Tree: the chapter's examples; lists compared. -/
namespace Go.Ab
open Go.Proofs Go.RowKit
noncomputable section
set_option maxHeartbeats 4000000
set_option maxRecDepth 10000
def isTrue : Option (Out × Mem) → Bool
  | some (.val (.bool true), _) => true
  | _ => false
theorem isTrue_of {x : Option (Out × Mem)} (h : isTrue x = true) : ∃ m, x = some (.val (.bool true), m) := by
  unfold isTrue at h
  split at h
  · exact ⟨_, rfl⟩
  · cases h
theorem alive_run : isTrue (run (envS Try.prog 29 34) 600 (.call 7 []) m0) = true := by kernel_rfl
theorem alive_pure : PureOk Try.prog 7 [] (.bool true) := fun w => by
  obtain ⟨m, hm⟩ := isTrue_of alive_run
  refine callsIn_wide.2 ((call_sound (σ := Sig.none) Go.Proofs.Ytjajeeoahbidlaa.E_sure hm (m0_rel w) (args' := #[]) (LRel.nil _)).mono ?_)
  rintro e w' ⟨v', ρ', rfl, hv, hp⟩
  rw [hv.bool_inv]
  exact ⟨rfl, hp.below m0_sealed⟩
section
variable {m : Mem}
theorem alive_ok : Con EE.P 7 [] m (.bool true) m := by
  refine ⟨fun ρ w args' hR hrel => ?_, Grow.rfl⟩
  have e2 : args' = #[] := by
    apply Array.toList_inj.1
    have := hrel.1
    simp only [List.length_nil] at this
    exact List.length_eq_zero_iff.1 this.symm
  subst e2
  refine (alive_pure w).mono ?_
  rintro x w' ⟨rfl, hb⟩
  exact ⟨_, ρ, rfl, .bool _, below_post hR hb, fun _ _ e => e⟩
theorem il_len {l : List Int} : (il l).length = l.length := by unfold il; rw [List.length_map]
theorem il_getD {l : List Int} {i : Nat} (h : i < l.length) : (il l).getD i undef = In (l.getD i 0) := by
  unfold il
  rw [List.getD_eq_getElem?_getD, List.getElem?_map, List.getElem?_eq_getElem h, List.getD_eq_getElem?_getD, List.getElem?_eq_getElem h]; rfl
theorem same_i {v1 v2 : Value} {k : List Int} (h1 : SlV m 1 v1 k.length (il k)) (h2 : SlV m 1 v2 k.length (il k)) (hk : k.length < 4294967296) : Con EE.P 16 [v1, v2] m (.bool true) m := by
  refine Con.of EE_ok fn16 (Nat.le_of_ble_eq_true rfl) Grow.rfl fun hm => ?_
  have hl1 : ∀ M, lenA EE.P 33 v1 M = some (In k.length) := fun M => h1.lenA und_33
  have hl2 : ∀ M, lenA EE.P 33 v2 M = some (In k.length) := fun M => h2.lenA und_33
  simp only [f16, enumV, Nat.zero_add, w16, W_seq, w16_0, Nat.le_refl, X_assign, ev_const, Nat.reduceLT, T_set, X_nil, thenQ_normal, w16_1, Mem.next_bump, Nat.le_add_right, bump_bump, Nat.reduceAdd, X_move, ev_T, lk_cons, Nat.reduceEqDiff, Nat.one_ne_zero, if_false, if_true, X_len EE_sym, hl1, okI_some, hl2, X_neq EE_sym, neq_int, decide_true, Bool.not_true, W_cond, CDi_f, W_skip, w16_4, W_block, w16_12, true_and]
  refine WX.loop_of (fun x t M => ∃ i j : Nat, i ≤ k.length ∧ x = k.length - i ∧ t = T 26 [(5, In i), (0, v1), (1, v2)] ∧ M = m.bump j) ?_ (k := k.length) (t1 := T 26 [(5, In (0 : Nat)), (0, v1), (1, v2)]) (View.temps ⟨rfl, rfl, rfl, trivial⟩) ⟨0, _, by omega, rfl, rfl, rfl⟩
  rintro x t M ⟨i, j, hi, rfl, rfl, rfl⟩
  by_cases hi2 : i < k.length
  · have q1 : (i : Int) < (k.length : Int) := by omega
    have q2 : (0 : Int) ≤ i := by omega
    have hw : IntKind.i64.wrap ((i : Int) + 1) = ((i + 1 : Nat) : Int) := by rw [wrap_i64 (by omega) (by omega)]; omega
    obtain ⟨B1, c1, cB1, rfl, i1, i2, i3, i4⟩ := h1.cons (by omega)
    obtain ⟨B2, c2, cB2, rfl, j1, j2, j3, j4⟩ := h2.cons (by omega)
    have q3 : cB1.nth i = some (In (k.getD i 0)) := by rw [nth_lt (by omega), i4 i (by rw [il_len]; exact hi2), il_getD hi2]
    have q4 : cB2.nth i = some (In (k.getD i 0)) := by rw [nth_lt (by omega), j4 i (by rw [il_len]; exact hi2), il_getD hi2]
    simp only [w16_11, W_seq, w16_5, Mem.next_bump, Nat.le_add_right, bump_bump, X_move, Nat.reduceLT, ev_T, lk_cons, Nat.reduceEqDiff, if_false, if_true, T_set, Nat.one_ne_zero, X_len EE_sym, len_slice und_33, okI_some, X_bin EE_sym (op := .lss) rfl, bin_lss, q1, decide_true, X_nil, thenQ_normal, W_cond, CDi_t, W_skip, W_block, w16_9, w16_6, Nat.add_assoc, Nat.reduceAdd, X_indexAddr EE_sym, q2, idxV_slice und_33 sz_3, Int.toNat_natCast, Nat.mul_one, Nat.zero_add, X_load EE_sym, load1 lay_3, Mem.get_bump, i1, ld1_cells, q3, j1, q4, X_neq EE_sym, neq_int, Bool.not_true, CDi_f, blockQ_normal, w16_10, X_bin EE_sym (op := .add) rfl, ev_const, bin_add, hw, X_assign, roundQ_normal, true_and]
    exact ⟨k.length - (i + 1), _, _, by omega, View.temps (l' := [(5, In ((i + 1 : Nat) : Int)), (0, .slice (some ⟨B1, 0, none⟩) k.length c1), (1, .slice (some ⟨B2, 0, none⟩) k.length c2)]) ⟨rfl, rfl, rfl, trivial⟩, i + 1, _, by omega, rfl, rfl, rfl⟩
  · have q1 : ¬ (i : Int) < (k.length : Int) := by omega
    simp only [w16_11, W_seq, w16_5, Mem.next_bump, Nat.le_add_right, bump_bump, X_move, Nat.reduceLT, ev_T, lk_cons, Nat.reduceEqDiff, if_false, if_true, T_set, Nat.one_ne_zero, X_len EE_sym, hl1, okI_some, X_bin EE_sym (op := .lss) rfl, bin_lss, q1, decide_false, X_nil, thenQ_normal, W_cond, CDi_f, W_exit, thenQ_exit, roundQ_exit, blockQ_exit, w16_13, Nat.add_assoc, Nat.reduceAdd, X_assign, ev_const, W_ret, FinC_ret, resA_tmp, T_get, resA_nil, Option.map_some, oneOr1, true_and]
    exact TidyE.pure rfl fun _ _ => rfl
end
end
end Go.Ab
