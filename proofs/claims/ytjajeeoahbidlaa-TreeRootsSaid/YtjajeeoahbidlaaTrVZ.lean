/- TreeRoots: trees of children part a tree; all come to process 1: plain laws. -/
import Derived.Test.YtjajeeoahbidlaaTrQ
import Derived.Test.YtjajeeoahbidlaaTrA64
namespace Go.Ab
noncomputable section
section
variable {L : TL} {p q x y c d pid room top r st : Int} {s : BitVec 32} {i j k : Nat}
/-- A process' tree, as it was found. -/
def fam (L : TL) (p : Int) : List Int := bst L p L.length
theorem fam_nodup (hP : Par L) (hp : p ∈ mkeys L) : (fam L p).Nodup := (tree_mem hP hp).1.nd
theorem fam_top (hP : Par L) (hp : p ∈ mkeys L) : p ∈ fam L p := (tree_mem hP hp).1.top
theorem fam_in (hP : Par L) (hp : p ∈ mkeys L) (hx : x ∈ fam L p) : x ∈ mkeys L ∧ p ≤ x := by
  have := (tree_mem hP hp).1.mem x hx
  exact ⟨this.1, this.2.1⟩
theorem fam_up (hP : Par L) (hp : p ∈ mkeys L) (hx : x ∈ fam L p) : x = p ∨ (at_ L x).1 ∈ fam L p := by
  rcases ((tree_mem hP hp).1.mem x hx).2.2 with h | ⟨j, _, h2, h3⟩
  · exact .inl h
  · exact .inr (by rw [← h3]; exact getD_mem h2)
theorem fam_down (hP : Par L) (hp : p ∈ mkeys L) (hx : x ∈ fam L p) (hc : c ∈ kids L x) : c ∈ fam L p := (tree_mem hP hp).2 x hx c hc
/-- Who has a parent in keys is its child. -/
theorem kid_of (hP : Par L) (hx : x ∈ mkeys L) (h : (at_ L x).1 ∈ mkeys L) : x ∈ kids L (at_ L x).1 := mem_kids.2 ⟨hx, by have := hP.pos _ h; omega, rfl⟩
/-- By lesser parents. -/
theorem par_ind {P : Int → Prop} (hP : Par L) (h : ∀ x, x ∈ mkeys L → (∀ y, y ∈ mkeys L → y < x → P y) → P x) : ∀ (n : Nat) (x : Int), x ∈ mkeys L → x.toNat ≤ n → P x
  | 0, x, hx, hn => by have := hP.pos x hx; omega
  | n + 1, x, hx, hn => h x hx fun y hy hlt => par_ind hP h n y hy (by have := hP.pos y hy; omega)
theorem fam_sub (hP : Par L) (hp : p ∈ mkeys L) (hc : c ∈ fam L p) (hck : c ∈ mkeys L) : ∀ x ∈ fam L c, x ∈ fam L p := by
  have key : ∀ x, x ∈ mkeys L → (x ∈ fam L c → x ∈ fam L p) := fun x hx => par_ind (P := fun x => x ∈ fam L c → x ∈ fam L p) hP (fun x hx ih hxc => by
    rcases fam_up hP hck hxc with rfl | h
    · exact hc
    · have h1 := (fam_in hP hck h).1
      exact fam_down hP hp (ih _ h1 (hP.lt hx) h) (kid_of hP hx h1)) x.toNat x hx (Nat.le_refl _)
  exact fun x hx => key x (fam_in hP hck hx).1 hx
/-- Two children's trees have nobody in common. -/
theorem fam_apart (hP : Par L) (hp : p ∈ mkeys L) (hc : c ∈ kids L p) (hd : d ∈ kids L p) (hne : c ≠ d) : ∀ x, x ∈ fam L c → x ∉ fam L d := by
  have hck := (mem_kids.1 hc).1
  have hdk := (mem_kids.1 hd).1
  have up : ∀ {c d : Int}, c ∈ kids L p → d ∈ kids L p → c ≠ d → c ∉ fam L d := fun {c d} hc hd hne h => by
    have hd' := (mem_kids.1 hd).1
    rcases fam_up hP hd' h with e | h
    · exact hne e
    · have h1 := (fam_in hP hd' h).2
      have h2 := (mem_kids.1 hc).2.2
      have h3 := hP.lt hd'
      rw [(mem_kids.1 hd).2.2] at h3
      omega
  have key : ∀ x, x ∈ mkeys L → (x ∈ fam L c → x ∉ fam L d) := fun x hx => par_ind (P := fun x => x ∈ fam L c → x ∉ fam L d) hP (fun x hx ih h1 h2 => by
    rcases fam_up hP hck h1 with e | h3
    · exact up hc hd hne (e ▸ h2)
    · rcases fam_up hP hdk h2 with e | h4
      · exact up hd hc (Ne.symm hne) (e ▸ h1)
      · exact ih _ (fam_in hP hck h3).1 (hP.lt hx) h3 h4) x.toNat x hx (Nat.le_refl _)
  exact fun x h1 => key x (fam_in hP hck h1).1 h1
theorem fams_nodup {f : Int → List Int} : ∀ {K : List Int}, K.Nodup → (∀ c ∈ K, (f c).Nodup) → (∀ c ∈ K, ∀ d ∈ K, c ≠ d → ∀ x, x ∈ f c → x ∉ f d) → (K.flatMap f).Nodup
  | [], _, _, _ => List.nodup_nil
  | c :: K, h, h1, h2 => by
    obtain ⟨h3, h4⟩ := List.nodup_cons.1 h
    rw [List.flatMap_cons]
    refine List.nodup_append.2 ⟨h1 c List.mem_cons_self, fams_nodup h4 (fun d hd => h1 d (List.mem_cons_of_mem _ hd)) (fun d hd e he => h2 d (List.mem_cons_of_mem _ hd) e (List.mem_cons_of_mem _ he)), fun x hx y hy e => ?_⟩
    obtain ⟨d, hd, hyd⟩ := List.mem_flatMap.1 hy
    exact h2 c List.mem_cons_self d (List.mem_cons_of_mem _ hd) (fun e2 => h3 (by rw [e2]; exact hd)) x hx (by rw [e]; exact hyd)
def sumF (f : Int → List Int) : List Int → Nat
  | [] => 0
  | c :: K => (f c).length + sumF f K
theorem flat_len {f : Int → List Int} : ∀ {K : List Int}, (K.flatMap f).length = sumF f K
  | [] => rfl
  | c :: K => by
    rw [List.flatMap_cons, List.length_append, flat_len (K := K)]; rfl
/-- Trees of children part a tree. -/
theorem fam_parts (hP : Par L) (hp : p ∈ mkeys L) : (fam L p).length = 1 + sumF (fam L) (kids L p) := by
  have hU : (p :: (kids L p).flatMap (fam L)).Nodup := by
    refine List.nodup_cons.2 ⟨fun h => ?_, fams_nodup (kids_nodup hP.nd) (fun c hc => fam_nodup hP (mem_kids.1 hc).1) fun c hc d hd hne x => fam_apart hP hp hc hd hne x⟩
    obtain ⟨c, hc, h2⟩ := List.mem_flatMap.1 h
    have h3 := (mem_kids.1 hc)
    have h4 := (fam_in hP h3.1 h2).2
    have h5 := hP.lt h3.1
    omega
  have h1 : ∀ x ∈ p :: (kids L p).flatMap (fam L), x ∈ fam L p := fun x hx => by
    rcases List.mem_cons.1 hx with rfl | hx
    · exact fam_top hP hp
    · obtain ⟨c, hc, h2⟩ := List.mem_flatMap.1 hx
      exact fam_sub hP hp (fam_down hP hp (fam_top hP hp) hc) (mem_kids.1 hc).1 x h2
  have h2 : ∀ x ∈ fam L p, x ∈ p :: (kids L p).flatMap (fam L) := by
    have key : ∀ x, x ∈ mkeys L → (x ∈ fam L p → x ∈ p :: (kids L p).flatMap (fam L)) := fun x hx => par_ind (P := fun x => x ∈ fam L p → x ∈ p :: (kids L p).flatMap (fam L)) hP (fun x hx ih h => by
      rcases fam_up hP hp h with rfl | h3
      · exact List.mem_cons_self
      · have h4 := (fam_in hP hp h3).1
        refine List.mem_cons_of_mem _ (List.mem_flatMap.2 ?_)
        rcases List.mem_cons.1 (ih _ h4 (hP.lt hx) h3) with e | h5
        · exact ⟨x, e ▸ kid_of hP hx h4, fam_top hP hx⟩
        · obtain ⟨c, hc, h6⟩ := List.mem_flatMap.1 h5
          exact ⟨c, hc, fam_down hP (mem_kids.1 hc).1 h6 (kid_of hP hx h4)⟩) x.toNat x hx (Nat.le_refl _)
    exact fun x hx => key x (fam_in hP hp hx).1 hx
  have e1 := nodup_le hU h1
  have e2 := nodup_le (fam_nodup hP hp) h2
  simp only [List.length_cons] at e1 e2
  rw [flat_len] at e1 e2
  omega
/-- All are process 1's. -/
theorem fam_all (hP : Par L) (h1 : 1 ∈ mkeys L) : (fam L 1).length = L.length := by
  have e1 := nodup_le (fam_nodup hP h1) fun x hx => (fam_in hP h1 hx).1
  have e2 := nodup_le hP.nd (m := fam L 1) fun x hx => par_ind (P := fun x => x ∈ fam L 1) hP (fun x hx ih => by
    by_cases e : x = 1
    · rw [e]; exact fam_top hP h1
    · obtain ⟨h2, h3⟩ := hP.par x hx e
      exact fam_down hP h1 (ih _ h2 h3) (kid_of hP hx h2)) x.toNat x hx (Nat.le_refl _)
  rw [List.length_map] at e1 e2
  omega
theorem tree_len (hP : Par L) (hs : (at_ L p).2.1 ≠ 0) : (treeL L p).length = (fam L p).length := by
  unfold treeL fam
  rw [if_neg hs, (isort_perm _).length_eq]
theorem tree_parts (hG : Gt L room top) (hs : (at_ L p).2.1 ≠ 0) : (treeL L p).length = 1 + sumF (treeL L) (kids L p) := by
  rw [tree_len hG.Par hs, fam_parts hG.Par (in_keys hs)]
  congr 1
  have : ∀ K : List Int, (∀ c ∈ K, c ∈ kids L p) → sumF (fam L) K = sumF (treeL L) K := fun K => by
    induction K with
    | nil => exact fun _ => rfl
    | cons c K ih =>
      intro h
      have hc := (mem_kids.1 (h c List.mem_cons_self)).1
      have hst := hG.st c hc
      show (fam L c).length + sumF (fam L) K = (treeL L c).length + sumF (treeL L) K
      rw [ih fun d hd => h d (List.mem_cons_of_mem _ hd), tree_len hG.Par (by omega)]
  exact this _ fun _ h => h
/-- How many are less. -/
def cnt (L : TL) (x : Int) : Nat := ((mkeys L).filter fun q => decide (q < x)).length
theorem cnt_lt (hx : x ∈ mkeys L) : cnt L x < L.length := by
  unfold cnt
  have h : ((mkeys L).filter fun q => decide (q < x)).length < (mkeys L).length := by
    rcases Nat.lt_or_ge ((mkeys L).filter fun q => decide (q < x)).length (mkeys L).length with h | h
    · exact h
    · have h2 := List.length_filter_eq_length_iff.1 (Nat.le_antisymm (List.length_filter_le _ _) h)
      have := of_decide_eq_true (h2 x hx)
      omega
  rwa [List.length_map] at h
theorem cnt_step (hd : (mkeys L).Nodup) (hy : y ∈ mkeys L) (h : y < x) : cnt L y < cnt L x := by
  unfold cnt
  have h1 : (y :: (mkeys L).filter fun q => decide (q < y)).Nodup := List.nodup_cons.2 ⟨fun e => by
    have := of_decide_eq_true (List.mem_filter.1 e).2
    omega, hd.sublist List.filter_sublist⟩
  have h2 := nodup_le h1 (m := (mkeys L).filter fun q => decide (q < x)) fun z hz => by
    rcases List.mem_cons.1 hz with rfl | hz
    · exact List.mem_filter.2 ⟨hy, decide_eq_true h⟩
    · obtain ⟨z1, z2⟩ := List.mem_filter.1 hz
      have := of_decide_eq_true z2
      exact List.mem_filter.2 ⟨z1, decide_eq_true (by omega)⟩
  simp only [List.length_cons] at h2
  omega
/-- A thaw keeps all in order. -/
theorem Gt.thaw (h : Gt L room top) : Gt (thawL L room top p r st s) room (thawT L room top p r st s) := by
  unfold thawL thawT
  by_cases he : thawE L room top p r st s = 0
  · rw [if_pos he, if_pos he]
    unfold thawE at he
    split at he
    · cases he
    · rename_i harg
      have hst : st = 1 ∨ st = 2 := by
        by_cases e : st = 1
        · exact .inl e
        · by_cases e2 : st = 2
          · exact .inr e2
          · exact absurd (.inl ⟨e, e2⟩) harg
      have hlv : st = 1 → s = 0#32 := fun e => Classical.byContradiction fun e2 => harg (.inr (.inl ⟨e, e2⟩))
      have hk : st = 2 → kids L p = [] := fun e => List.length_eq_zero_iff.1 (Classical.byContradiction fun e2 => harg (.inr (.inr ⟨e, e2⟩)))
      have htp := h.tp
      unfold mayE at he
      split at he
      · rename_i hf
        have hp := in_keys (by rw [hf.1]; decide : (at_ L p).2.1 ≠ 0)
        have hr : (if r = 0 then (at_ L p).1 else r) = (at_ L p).1 := by
          split
          · rfl
          · rename_i e; exact hf.2.resolve_left e
        rw [hr]
        have hmx : max top p = top := by have := (h.rng p hp).2; omega
        rw [hmx]
        have hp1 : p ≠ 1 := fun e => by rw [e, h.one] at hf; cases hf.1
        have hpar : ∀ q, (at_ (mset L p ((at_ L p).1, st, s)) q).1 = (at_ L q).1 := fun q => by
          rw [at_set]; split
          · rename_i e; rw [e]
          · rfl
        have hkeys : mkeys (mset L p ((at_ L p).1, st, s)) = mkeys L := keys_in hp
        refine ⟨by rw [hkeys]; exact h.nd, by rw [at_set, if_neg (Ne.symm hp1)]; exact h.one, fun q hq => h.rng q (hkeys ▸ hq), h.tp, by rw [len_set hp]; exact h.len, h.rm, fun q hq h1 => ?_, fun q hq => ?_, fun q hq hz x hx => ?_, fun q hq hl => ?_⟩
        · rw [hkeys] at hq ⊢
          rw [hpar]; exact h.par q hq h1
        · rw [hkeys] at hq
          rw [at_set]
          split
          · exact hst.imp id .inl
          · exact h.st q hq
        · rw [hkeys] at hq hx
          rw [hpar]
          rw [at_set] at hz
          split at hz
          · rename_i e
            have := hk hz
            intro e2
            have : x ∈ kids L p := mem_kids.2 ⟨hx, by have := (h.rng p hp).1; omega, by rw [e2, e]⟩
            rw [hk hz] at this
            cases this
          · exact h.zk q hq hz x hx
        · rw [hkeys] at hq
          rw [at_set] at hl ⊢
          split at hl
          · rename_i e
            rw [if_pos e]; exact hlv hl
          · rename_i e
            rw [if_neg e]; exact h.lv q hq hl
      · split at he
        · cases he
        · rename_i hno
          split at he
          · cases he
          · rename_i hfree
            have n1 : (at_ L p).2.1 = 0 := Classical.byContradiction fun e => hno (.inl e)
            have n2 : ¬ p ≤ top := fun e => hno (.inr (.inl e))
            have n3 : ¬ 65535 < p := fun e => hno (.inr (.inr (.inl e)))
            have n4 : (at_ L r).2.1 ≠ 0 := fun e => hno (.inr (.inr (.inr (.inl e))))
            have n5 : (at_ L r).2.1 ≠ 2 := fun e => hno (.inr (.inr (.inr (.inr e))))
            have hrk := in_keys n4
            have hrr := h.rng r hrk
            have hr : (if r = 0 then (at_ L p).1 else r) = r := if_neg (by omega)
            rw [hr]
            have hmx : max top p = p := by omega
            rw [hmx]
            have hnew : p ∉ mkeys L := fun e => by have := (h.rng p e).2; omega
            have hlen := h.len
            refine ⟨nodup_set h.nd, ?_, fun q hq => ?_, by omega, ?_, h.rm, fun q hq h1 => ?_, fun q hq => ?_, fun q hq hz x hx => ?_, fun q hq hl => ?_⟩
            · rw [at_set, if_neg (by omega)]; exact h.one
            · rcases mem_set.1 hq with rfl | hq
              · omega
              · have := h.rng q hq; omega
            · rw [len_new hnew]; omega
            · rw [at_set]
              rcases mem_set.1 hq with rfl | hq
              · rw [if_pos rfl]
                exact ⟨mem_set.2 (.inr hrk), by show r < _; omega⟩
              · rw [if_neg fun e => hnew (by rw [← e]; exact hq)]
                exact ⟨mem_set.2 (.inr (h.par q hq h1).1), (h.par q hq h1).2⟩
            · rw [at_set]
              split
              · exact hst.imp id .inl
              · rename_i e
                exact h.st q ((mem_set.1 hq).resolve_left e)
            · rw [at_set] at hz ⊢
              by_cases e : q = p
              · rw [e]
                split
                · exact fun e2 => by have e2 : r = p := e2; omega
                · rename_i e2
                  intro e3
                  have hx' := (mem_set.1 hx).resolve_left e2
                  have := h.Par.lt hx'
                  have := (h.rng x hx').2
                  omega
              · rw [if_neg e] at hz
                have hq := (mem_set.1 hq).resolve_left e
                split
                · exact fun e2 => n5 (by have e2 : r = q := e2; rw [e2]; exact hz)
                · rename_i e2
                  exact h.zk q hq hz x ((mem_set.1 hx).resolve_left e2)
            · rw [at_set] at hl ⊢
              split
              · rename_i e
                rw [if_pos e] at hl; exact hlv hl
              · rename_i e
                rw [if_neg e] at hl
                exact h.lv q ((mem_set.1 hq).resolve_left e) hl
  · rw [if_neg he, if_neg he]; exact h
end
end
end Go.Ab
/- TreeRoots: each comes to process 1. -/
namespace Go.Ab
open Go.Proofs
noncomputable section
set_option maxHeartbeats 4000000
set_option maxRecDepth 10000
section
variable {m M : Mem} {t b : Nat} {room top at0 : Int} {L : TL} {J : List (Nat × Value)} {va : Value} {n n0 i : Nat}
theorem roots_in (hT : TAt M t b room top L) (hM : Fresh M) (hG : Gt L room top) (hva : SlV M 1 va L.length (il (ks L))) (hat : at0 ∈ mkeys L) (j0 : lk J 0 = PT t) (j3 : lk J 3 = va) (j4 : lk J 4 = In i) (j5 : lk J 5 = In at0) (j6 : lk J 6 = In 0) (hn0 : n0 ≤ M.next) :
    WXi EE n0 none c21_14 (T 41 J) M (Q := ⟨fun x tt M1 => x = .exit 2 ∧ ∃ J1, tt = T 41 J1 ∧ (lk J1 0 = PT t ∧ lk J1 3 = va ∧ lk J1 4 = In i ∧ lk J1 5 = In 1) ∧ ∃ j, M1 = M.bump j⟩) := by
  have hlenA : ∀ M, lenA EE.P 33 va M = some (In L.length) := fun M => hva.lenA und_33
  have hL := hG.len32
  simp only [w21_14]
  refine WX.loop_of (fun k tt M2 => ∃ (n : Nat) (a : Int) (j : Nat), k = L.length - n ∧ tt = T 41 [(6, In n), (5, In a), (4, In i), (3, va), (0, PT t)] ∧ M2 = M.bump j ∧ a ∈ mkeys L ∧ cnt L a + n < L.length) ?_ (k := L.length) (t1 := T 41 [(6, In (0 : Nat)), (5, In at0), (4, In i), (3, va), (0, PT t)]) (View.temps ⟨j6, j5, j4, j3, j0, trivial⟩) ⟨0, at0, 0, by omega, rfl, rfl, hat, by have := cnt_lt hat; omega⟩
  rintro k tt M2 ⟨n, a, j, rfl, rfl, rfl, ha, hc⟩
  have g1 : (n : Int) ≤ (L.length : Int) := by omega
  by_cases a1 : a = 1
  · have d1 := decide_eq_true a1
    simp only [w21_13, W_seq, w21_6, Mem.next_bump, hn0, Nat.le_add_right_of_le, bump_bump, X_move, Nat.reduceLT, ev_T, lk_cons, Nat.reduceEqDiff, if_false, if_true, T_set, X_len EE_sym, hlenA, okI_some, X_bin EE_sym (op := .leq) rfl, bin_leq, g1, decide_true, X_guard EE_sym, T_get, GDi_tt, X_neq EE_sym, ev_const, neq_int, d1, Bool.not_true, X_pick EE_sym, pickV_bool, X_nil, thenQ_normal, W_cond, CDi_f, W_exit, thenQ_exit, roundQ_exit, true_and]
    exact ⟨_, rfl, ⟨rfl, rfl, rfl, by rw [← a1]; rfl⟩, _, rfl⟩
  · have d1 := decide_eq_false a1
    obtain ⟨p1, p2⟩ := hG.par a ha a1
    have hw1 : IntKind.i64.wrap ((n : Int) + 1) = ((n + 1 : Nat) : Int) := by rw [wrap_i64 (by omega) (by omega)]; omega
    simp only [w21_13, W_seq, w21_6, Mem.next_bump, hn0, Nat.le_add_right_of_le, bump_bump, X_move, Nat.reduceLT, ev_T, lk_cons, Nat.reduceEqDiff, if_false, if_true, T_set, X_len EE_sym, hlenA, okI_some, X_bin EE_sym (op := .leq) rfl, bin_leq, g1, decide_true, X_guard EE_sym, T_get, GDi_tt, X_neq EE_sym, ev_const, neq_int, d1, Bool.not_false, X_pick EE_sym, pickV_bool, X_nil, thenQ_normal, W_cond, CDi_t, W_skip, W_block, w21_11, w21_7, Nat.add_assoc, Nat.reduceAdd, X_call ca_14, List.map_cons, List.map_nil, true_and]
    refine CallI.con0 (parent_ok (hT.bump _)) ?_
    simp only [putT, Nat.reduceLT, T_set, X_assign, ev_T, lk_cons, Nat.reduceEqDiff, if_false, if_true, X_nil, thenQ_normal, W_seq, w21_8, Mem.next_bump, hn0, Nat.le_add_right_of_le, bump_bump, Nat.add_assoc, Nat.reduceAdd, X_move, X_call ca_17, List.map_cons, List.map_nil, true_and]
    refine CallI.con0 (state_ok (hT.bump _)) ?_
    have hst := hG.st _ p1
    have d2 : decide ((at_ L (at_ L a).1).2.1 = 0) = false := decide_eq_false (by omega)
    simp only [putT, Nat.reduceLT, T_set, X_eql EE_sym, ev_T, lk_cons, Nat.reduceEqDiff, if_false, if_true, ev_const, eq_int, d2, okI_some, X_nil, thenQ_normal, W_cond, CDi_f, W_skip, blockQ_normal, w21_12, Mem.next_bump, hn0, Nat.le_add_right_of_le, bump_bump, Nat.add_assoc, Nat.reduceAdd, X_move, X_bin EE_sym (op := .add) rfl, bin_add, hw1, X_assign, roundQ_normal, true_and]
    have := cnt_step hG.nd p1 p2
    exact ⟨L.length - (n + 1), _, _, by omega, View.temps (l' := [(6, In ((n + 1 : Nat) : Int)), (5, In (at_ L a).1), (4, In i), (3, va), (0, PT t)]) ⟨rfl, rfl, rfl, rfl, rfl, trivial⟩, n + 1, _, _, rfl, rfl, rfl, p1, by omega⟩
theorem roots_ok (h : TAt m t b room top L) (hm : Fresh m) (hG : Gt L room top) : ∃ u m', Con EE.P 21 [PT t] m u m' ∧ u = .bool true ∧ Nx m m' := by
  refine Con.raw EE_ok fn21 (Nat.le_of_ble_eq_true rfl) _ ?_
  have hL := hG.len32
  simp only [f21, enumV, w21, W_seq, w21_0, Nat.le_refl, X_assign, ev_const, Nat.reduceLT, T_set, X_nil, thenQ_normal, w21_1, Mem.next_bump, Nat.le_add_right, bump_bump, Nat.reduceAdd, X_move, ev_T, lk_cons, Nat.reduceEqDiff, if_true, if_false, X_call ca_15, List.map_cons, List.map_nil, true_and]
  refine CallI.ex2 (all_ok (h.bump _) hm.bump hG.wf (by omega)) fun va M hA => ?_
  have hA := hA.of_bump
  have n1 := hA.nx.next
  have hT := h.nx hm hA.nx
  have hF := hA.nx.fresh
  have hlenA : ∀ M, lenA EE.P 33 va M = some (In L.length) := fun M => hA.sl.lenA und_33
  simp only [putT, Nat.reduceLT, T_set, X_assign, ev_T, lk_cons, Nat.reduceEqDiff, if_false, if_true, X_nil, thenQ_normal, W_seq, w21_2, n1, ev_const, W_block, w21_21, true_and]
  refine WX.loop_of (fun k tt M2 => ∃ i j : Nat, i ≤ L.length ∧ k = L.length - i ∧ tt = T 41 [(4, In i), (3, va), (0, PT t)] ∧ M2 = M.bump j) ?_ (k := L.length) (t1 := T 41 [(4, In (0 : Nat)), (3, va), (0, PT t)]) (View.temps ⟨rfl, rfl, rfl, trivial⟩) ⟨0, _, by omega, rfl, rfl, rfl⟩
  rintro k tt M2 ⟨i, j, hi, rfl, rfl, rfl⟩
  by_cases hi2 : i < L.length
  · have g1 : (i : Int) < (L.length : Int) := by omega
    have g2 : (0 : Int) ≤ i := by omega
    have hw1 : IntKind.i64.wrap ((i : Int) + 1) = ((i + 1 : Nat) : Int) := by rw [wrap_i64 (by omega) (by omega)]; omega
    obtain ⟨N, cN, csN, rfl, k1, k2, k3, k4⟩ := hA.sl.cons (by omega)
    have hq : csN.nth i = some (In (keyT L i)) := il_nth (l := ks L) k2 k3 k4 (by rw [ks_len]; exact hi2) ks_len
    have hkin : keyT L i ∈ mkeys L := mem_ks.1 (by unfold keyT; exact getD_mem (by rw [ks_len]; exact hi2))
    simp only [w21_20, W_seq, w21_3, Mem.next_bump, n1, Nat.le_add_right_of_le, bump_bump, X_move, Nat.reduceLT, ev_T, lk_cons, Nat.reduceEqDiff, if_false, if_true, T_set, X_len EE_sym, len_slice und_33, okI_some, X_bin EE_sym (op := .lss) rfl, bin_lss, g1, decide_true, X_nil, thenQ_normal, W_cond, CDi_t, W_skip, W_block, w21_18, w21_4, Nat.add_assoc, Nat.reduceAdd, X_indexAddr EE_sym, g2, idxV_slice und_33 sz_3, Int.toNat_natCast, Nat.mul_one, Nat.zero_add, X_load EE_sym, load1 lay_3, Mem.get_bump, k1, ld1_cells, hq, X_assign, w21_5, ev_const, true_and]
    refine WX.mono ?_ (roots_in (i := i) (hT.bump _) hF.bump hG (hA.sl.bump _) hkin rfl rfl rfl rfl rfl (by rw [Mem.next_bump]; omega))
    rintro x tt M3 ⟨rfl, J, rfl, ⟨j0, j3, j4, j5⟩, j', rfl⟩
    simp only [bump_bump, Nat.add_assoc, blockQ_exit, if_true, thenQ_normal, W_seq, w21_15, Mem.next_bump, n1, Nat.le_add_right_of_le, X_move, Nat.reduceLT, ev_T, j5, T_set, X_neq EE_sym, lk_cons, ev_const, neq_int, decide_true, Bool.not_true, okI_some, X_nil, W_cond, Nat.reduceEqDiff, if_false, CDi_f, W_skip, blockQ_normal, w21_19, Nat.reduceAdd, j4, X_bin EE_sym (op := .add) rfl, bin_add, hw1, X_assign, roundQ_normal, true_and]
    exact ⟨L.length - (i + 1), _, _, by omega, View.temps (l' := [(4, In ((i + 1 : Nat) : Int)), (3, .slice (some ⟨N, 0, none⟩) L.length cN), (0, PT t)]) ⟨rfl, j3, j0, trivial⟩, i + 1, _, by omega, rfl, rfl, rfl⟩
  · obtain rfl : i = L.length := by omega
    have g1 : ¬ (L.length : Int) < (L.length : Int) := by omega
    simp only [w21_20, W_seq, w21_3, Mem.next_bump, n1, Nat.le_add_right_of_le, bump_bump, X_move, Nat.reduceLT, ev_T, lk_cons, Nat.reduceEqDiff, if_false, if_true, T_set, X_len EE_sym, hlenA, okI_some, X_bin EE_sym (op := .lss) rfl, bin_lss, g1, decide_false, X_nil, thenQ_normal, W_cond, CDi_f, W_exit, thenQ_exit, roundQ_exit, blockQ_exit, w21_22, Nat.add_assoc, Nat.reduceAdd, X_call ca_17, List.map_cons, ev_const, List.map_nil, true_and]
    refine CallI.con0 (state_ok (hT.bump _)) ?_
    have e1 : (at_ L 1).2.1 = 1 := by rw [hG.one]
    rw [e1]
    simp only [putT, Nat.reduceLT, T_set, X_eql EE_sym, ev_T, lk_cons, Nat.reduceEqDiff, if_false, if_true, ev_const, eq_int, decide_true, okI_some, X_assign, X_nil, thenQ_normal, W_ret, FinX_ret, resA_tmp, T_get, resA_nil, Option.map_some, oneOr1]
    exact (hA.nx.bump _).raw ⟨rfl, hA.nx.bump _⟩
end
end
end Go.Ab
/- TreeRoots: one call, by its kind; the children's trees, counted. -/
namespace Go.Ab
open Go.Proofs
noncomputable section
set_option maxHeartbeats 8000000
set_option maxRecDepth 10000
section
variable {m M : Mem} {t b xb : Nat} {room top kk q r st : Int} {f : BitVec 32} {L : TL} {J : List (Nat × Value)} {l : Value} {n n0 i : Nat} {xc : Cells}
theorem ro_kind (hT : TAt M t b room top L) (hM : Fresh M) (hG : Gt L room top) (hx : M.get xb = some (.cells xc true 0)) (hxt : xb ≠ t ∧ xb ≠ b) (x1 : xc.nth 1 = some (In q)) (x2 : xc.nth 2 = some (In r)) (x3 : xc.nth 3 = some (In st)) (x4 : xc.nth 4 = some (Um f))
    (j1 : lk J 1 = l) (j5 : lk J 5 = .bool true) (j6 : lk J 6 = PT t) (j8 : lk J 8 = In top) (j9 : lk J 9 = In i) (j10 : lk J 10 = PT xb) (j47 : lk J 47 = In kk) (hn0 : n0 ≤ M.next) :
    WXi EE n0 none c4_39 (T 157 J) M (Q := ⟨fun x tt M1 => x = .normal ∧ ∃ J1 top' L', tt = T 157 J1 ∧ (lk J1 1 = l ∧ lk J1 5 = .bool true ∧ lk J1 6 = PT t ∧ lk J1 8 = In top' ∧ lk J1 9 = In i ∧ lk J1 10 = PT xb) ∧ TAt M1 t b room top' L' ∧ Gt L' room top' ∧ FrT M M1 t b⟩) := by
  have hL := hG.len32
  have htp := hG.tp
  by_cases k0 : kk = 0
  · have d0 := decide_eq_true k0
    simp only [w4_39, W_seq, w4_11, hn0, X_eql EE_sym, Nat.reduceLT, ev_T, j47, ev_const, eq_int, d0, okI_some, T_set, X_assign, lk_cons, if_true, X_nil, thenQ_normal, W_cond, Nat.reduceEqDiff, if_false, CDi_t, w4_19, w4_12, Mem.next_bump, Nat.le_add_right_of_le, bump_bump, Nat.reduceAdd, X_move, j6, X_fieldAddr EE_sym fo_30_1, j10, offV_ptr, Nat.zero_add, X_load EE_sym, load1 lay_3, Mem.get_bump, hx, ld1_cells, x1, X_call ca_9, List.map_cons, List.map_nil, true_and]
    refine CallI.ex2 (fork_ok (p := q) (hT.bump _) hM.bump hL (by omega)) fun u M2 hv => ?_
    obtain ⟨rfl, hT2, hF2⟩ := hv
    have hF2 := hF2.of_bump
    have n2 := Nat.le_trans hn0 hF2.next
    by_cases e : forkE L room top q = 0
    · have d1 := decide_eq_true e
      have hG2 := hG.fork (p := q)
      have e2 : forkT L room top q = top + 1 := if_pos e
      have d2 : decide (top + 1 ≤ top) = false := decide_eq_false (by omega)
      rw [if_pos e]
      simp only [putT, Nat.reduceLT, T_set, X_move, ev_T, lk_cons, Nat.reduceEqDiff, if_false, if_true, X_extract EE_sym, List.getElem?_toArray, List.getElem?_cons_zero, okI_some, List.getElem?_cons_succ, X_assign, X_nil, thenQ_normal, W_seq, w4_13, n2, X_eql EE_sym, ev_const, eq_int, d1, W_cond, CDi_t, w4_18, w4_14, Mem.next_bump, Nat.le_add_right_of_le, bump_bump, Nat.reduceAdd, j8, X_bin EE_sym (op := .leq) rfl, bin_leq, d2, CDi_f, W_skip, w4_17, true_and]
      exact ⟨_, _, _, rfl, ⟨j1, j5, j6, by rw [e2]; rfl, j9, j10⟩, hT2.bump _, hG2, hF2.bump _⟩
    · have d1 := decide_eq_false e
      have hG2 := hG.fork (p := q)
      have e2 : forkT L room top q = top := if_neg e
      rw [if_neg e]
      simp only [putT, Nat.reduceLT, T_set, X_move, ev_T, lk_cons, Nat.reduceEqDiff, if_false, if_true, X_extract EE_sym, List.getElem?_toArray, List.getElem?_cons_zero, okI_some, List.getElem?_cons_succ, X_assign, X_nil, thenQ_normal, W_seq, w4_13, n2, X_eql EE_sym, ev_const, eq_int, d1, W_cond, CDi_f, W_skip, true_and]
      exact ⟨_, _, _, rfl, ⟨j1, j5, j6, by rw [e2]; exact j8, j9, j10⟩, hT2.bump _, hG2, hF2.bump _⟩
  have d0 := decide_eq_false k0
  by_cases k1 : kk = 1
  · have d1 := decide_eq_true k1
    simp only [w4_39, W_seq, w4_11, hn0, X_eql EE_sym, Nat.reduceLT, ev_T, j47, ev_const, eq_int, d0, okI_some, T_set, X_assign, lk_cons, if_true, X_nil, thenQ_normal, W_cond, Nat.reduceEqDiff, if_false, CDi_f, w4_38, w4_20, Mem.next_bump, Nat.le_add_right_of_le, bump_bump, Nat.reduceAdd, d1, CDi_t, w4_22, w4_21, X_move, j6, X_fieldAddr EE_sym fo_30_1, j10, offV_ptr, Nat.zero_add, X_load EE_sym, load1 lay_3, Mem.get_bump, hx, ld1_cells, x1, X_fieldAddr EE_sym fo_30_4, load1 lay_23, x4, X_call ca_10, List.map_cons, List.map_nil, true_and]
    refine CallI.ex2 (exit_ok (p := q) (s := f) (hT.bump _) hM.bump hG.wf (by omega)) fun u M2 hv => ?_
    obtain ⟨⟨v, rfl, _, _⟩, hT2, hF2⟩ := hv
    have hF2 := hF2.of_bump
    have n2 := Nat.le_trans hn0 hF2.next
    simp only [putT, Nat.reduceLT, T_set, X_nil, true_and]
    exact ⟨_, _, _, rfl, ⟨j1, j5, j6, j8, j9, j10⟩, hT2, hG.exit, hF2⟩
  have d1 := decide_eq_false k1
  by_cases k2 : kk = 2
  · have d2 := decide_eq_true k2
    simp only [w4_39, W_seq, w4_11, hn0, X_eql EE_sym, Nat.reduceLT, ev_T, j47, ev_const, eq_int, d0, okI_some, T_set, X_assign, lk_cons, if_true, X_nil, thenQ_normal, W_cond, Nat.reduceEqDiff, if_false, CDi_f, w4_38, w4_20, Mem.next_bump, Nat.le_add_right_of_le, bump_bump, Nat.reduceAdd, d1, w4_37, w4_23, d2, CDi_t, w4_25, w4_24, X_move, j6, X_fieldAddr EE_sym fo_30_1, j10, offV_ptr, Nat.zero_add, X_load EE_sym, load1 lay_3, Mem.get_bump, hx, ld1_cells, x1, X_call ca_11, List.map_cons, List.map_nil, true_and]
    refine CallI.ex2 (reap_ok (pid := q) (hT.bump _) hM.bump hG.wf (by omega)) fun u M2 hv => ?_
    obtain ⟨rfl, hT2, hF2⟩ := hv
    have hF2 := hF2.of_bump
    have n2 := Nat.le_trans hn0 hF2.next
    simp only [putT, Nat.reduceLT, T_set, X_nil, true_and]
    exact ⟨_, _, _, rfl, ⟨j1, j5, j6, j8, j9, j10⟩, hT2, hG.reap, hF2⟩
  have d2 := decide_eq_false k2
  by_cases k3 : kk = 3
  · have d3 := decide_eq_true k3
    simp only [w4_39, W_seq, w4_11, hn0, X_eql EE_sym, Nat.reduceLT, ev_T, j47, ev_const, eq_int, d0, okI_some, T_set, X_assign, lk_cons, if_true, X_nil, thenQ_normal, W_cond, Nat.reduceEqDiff, if_false, CDi_f, w4_38, w4_20, Mem.next_bump, Nat.le_add_right_of_le, bump_bump, Nat.reduceAdd, d1, w4_37, w4_23, d2, w4_36, w4_26, d3, CDi_t, w4_28, w4_27, X_move, j6, X_fieldAddr EE_sym fo_30_1, j10, offV_ptr, Nat.zero_add, X_load EE_sym, load1 lay_3, Mem.get_bump, hx, ld1_cells, x1, X_call ca_12, List.map_cons, List.map_nil, true_and]
    refine CallI.ex2 (freeze_ok (p := q) (hT.bump _) hM.bump hG.wf hG.Par (by omega)) fun u M2 hv => ?_
    obtain ⟨⟨v, rfl, _, _⟩, hT2, hF2⟩ := hv
    have hF2 := hF2.of_bump
    have n2 := Nat.le_trans hn0 hF2.next
    simp only [putT, Nat.reduceLT, T_set, X_nil, true_and]
    exact ⟨_, _, _, rfl, ⟨j1, j5, j6, j8, j9, j10⟩, hT2, hG.freeze, hF2⟩
  have d3 := decide_eq_false k3
  by_cases k4 : kk = 4
  · have d4 := decide_eq_true k4
    simp only [w4_39, W_seq, w4_11, hn0, X_eql EE_sym, Nat.reduceLT, ev_T, j47, ev_const, eq_int, d0, okI_some, T_set, X_assign, lk_cons, if_true, X_nil, thenQ_normal, W_cond, Nat.reduceEqDiff, if_false, CDi_f, w4_38, w4_20, Mem.next_bump, Nat.le_add_right_of_le, bump_bump, Nat.reduceAdd, d1, w4_37, w4_23, d2, w4_36, w4_26, d3, w4_35, w4_29, d4, CDi_t, w4_34, w4_30, X_move, j6, X_fieldAddr EE_sym fo_30_1, j10, offV_ptr, Nat.zero_add, X_load EE_sym, load1 lay_3, Mem.get_bump, hx, ld1_cells, x1, X_fieldAddr EE_sym fo_30_2, x2, X_fieldAddr EE_sym fo_30_3, x3, X_fieldAddr EE_sym fo_30_4, load1 lay_23, x4, X_call ca_19, List.map_cons, List.map_nil, true_and]
    refine CallI.ex2 (thaw_ok (p := q) (r := r) (st := st) (s := f) (hT.bump _) hM.bump hG.wf hL) fun u M2 hv => ?_
    obtain ⟨rfl, hT2, hF2⟩ := hv
    have hF2 := hF2.of_bump
    have n2 := Nat.le_trans hn0 hF2.next
    have hx2 : M2.get xb = some (.cells xc true 0) := by rw [hF2.old xb (hM.lt hx) hxt.1 hxt.2, hx]
    have hG2 := hG.thaw (p := q) (r := r) (st := st) (s := f)
    by_cases e : thawE L room top q r st f = 0
    · have d5 := decide_eq_true e
      have e2 : thawT L room top q r st f = max top q := if_pos e
      by_cases e3 : top < q
      · have d6 := decide_eq_true e3
        have e4 : thawT L room top q r st f = q := by rw [e2]; omega
        simp only [putT, Nat.reduceLT, T_set, X_assign, ev_T, lk_cons, Nat.reduceEqDiff, if_false, if_true, X_nil, thenQ_normal, W_seq, w4_31, n2, X_move, X_eql EE_sym, ev_const, eq_int, d5, okI_some, X_guard EE_sym, T_get, GDi_tt, X_fieldAddr EE_sym fo_30_1, j10, offV_ptr, Nat.zero_add, X_load EE_sym, load1 lay_3, Mem.get_bump, hx2, ld1_cells, x1, j8, X_bin EE_sym (op := .gtr) rfl, bin_gtr, d6, X_pick EE_sym, pickV_bool, W_cond, CDi_t, w4_33, w4_32, Mem.next_bump, Nat.le_add_right_of_le, bump_bump, Nat.reduceAdd, true_and]
        exact ⟨_, _, _, rfl, ⟨j1, j5, j6, by rw [e4]; rfl, j9, j10⟩, hT2.bump _, hG2, hF2.bump _⟩
      · have d6 := decide_eq_false e3
        have e4 : thawT L room top q r st f = top := by rw [e2]; omega
        simp only [putT, Nat.reduceLT, T_set, X_assign, ev_T, lk_cons, Nat.reduceEqDiff, if_false, if_true, X_nil, thenQ_normal, W_seq, w4_31, n2, X_move, X_eql EE_sym, ev_const, eq_int, d5, okI_some, X_guard EE_sym, T_get, GDi_tt, X_fieldAddr EE_sym fo_30_1, j10, offV_ptr, Nat.zero_add, X_load EE_sym, load1 lay_3, Mem.get_bump, hx2, ld1_cells, x1, j8, X_bin EE_sym (op := .gtr) rfl, bin_gtr, d6, X_pick EE_sym, pickV_bool, W_cond, CDi_f, W_skip, true_and]
        exact ⟨_, _, _, rfl, ⟨j1, j5, j6, by rw [e4]; exact j8, j9, j10⟩, hT2.bump _, hG2, hF2.bump _⟩
    · have d5 := decide_eq_false e
      have e4 : thawT L room top q r st f = top := if_neg e
      simp only [putT, Nat.reduceLT, T_set, X_assign, ev_T, lk_cons, Nat.reduceEqDiff, if_false, if_true, X_nil, thenQ_normal, W_seq, w4_31, n2, X_move, X_eql EE_sym, ev_const, eq_int, d5, okI_some, X_guard EE_sym, T_get, GDi_ft, X_pick EE_sym, pickV_bool, Bool.false_eq_true, W_cond, CDi_f, W_skip, true_and]
      exact ⟨_, _, _, rfl, ⟨j1, j5, j6, by rw [e4]; exact j8, j9, j10⟩, hT2.bump _, hG2, hF2.bump _⟩
  have d4 := decide_eq_false k4
  simp only [w4_39, W_seq, w4_11, hn0, X_eql EE_sym, Nat.reduceLT, ev_T, j47, ev_const, eq_int, d0, okI_some, T_set, X_assign, lk_cons, if_true, X_nil, thenQ_normal, W_cond, Nat.reduceEqDiff, if_false, CDi_f, w4_38, w4_20, Mem.next_bump, Nat.le_add_right_of_le, bump_bump, Nat.reduceAdd, d1, w4_37, w4_23, d2, w4_36, w4_26, d3, w4_35, w4_29, d4, W_skip, true_and]
  exact ⟨_, _, _, rfl, ⟨j1, j5, j6, j8, j9, j10⟩, hT.bump _, hG, FrT.same hM _⟩
theorem sumF_app {f : Int → List Int} {B : List Int} : ∀ {A : List Int}, sumF f (A ++ B) = sumF f A + sumF f B
  | [] => (Nat.zero_add _).symm
  | c :: A => by
    have ih := sumF_app (f := f) (B := B) (A := A)
    show (f c).length + sumF f (A ++ B) = (f c).length + sumF f A + sumF f B
    rw [ih]; omega
theorem sumF_le {f : Int → List Int} {n : Nat} (h : ∀ c, (f c).length ≤ n) : ∀ {A : List Int}, sumF f A ≤ A.length * n
  | [] => Nat.zero_le _
  | c :: A => by
    have ih := sumF_le h (A := A)
    have := h c
    show (f c).length + sumF f A ≤ (A.length + 1) * n
    rw [Nat.add_mul]; omega
theorem treeL_le (hP : Par L) {c : Int} : (treeL L c).length ≤ L.length := by
  unfold treeL
  split
  · exact Nat.zero_le _
  · rename_i h
    rw [(isort_perm _).length_eq]
    exact bst_len hP (in_keys h)
/-- The children's trees, counted. -/
theorem ro_sum {K : List Int} {vc : Value} (hT : TAt M t b room top L) (hM : Fresh M) (hG : Gt L room top) (hvc : SlV M 1 vc K.length (il K)) (hK : K.length ≤ 32)
    (j1 : lk J 1 = l) (j5 : lk J 5 = .bool true) (j6 : lk J 6 = PT t) (j8 : lk J 8 = In top) (j9 : lk J 9 = In i) (j10 : lk J 10 = PT xb) (j14 : lk J 14 = In 1) (j15 : lk J 15 = vc) (j16 : lk J 16 = In 0) (hn0 : n0 ≤ M.next) :
    WXi EE n0 none c4_48 (T 157 J) M (Q := ⟨fun x tt M1 => x = .exit 3 ∧ ∃ J1, tt = T 157 J1 ∧ (lk J1 1 = l ∧ lk J1 5 = .bool true ∧ lk J1 6 = PT t ∧ lk J1 8 = In top ∧ lk J1 9 = In i ∧ lk J1 10 = PT xb ∧ lk J1 14 = In ((1 + sumF (treeL L) K : Nat) : Int)) ∧ Nx M M1⟩) := by
  have hlenA : ∀ M, lenA EE.P 33 vc M = some (In K.length) := fun M => hvc.lenA und_33
  have hL := hG.len32
  simp only [w4_48]
  refine WX.loop_of (fun k tt M2 => ∃ i2 : Nat, i2 ≤ K.length ∧ k = K.length - i2 ∧ tt = T 157 [(16, In i2), (14, In ((1 + sumF (treeL L) (K.take i2) : Nat) : Int)), (15, vc), (1, l), (5, .bool true), (6, PT t), (8, In top), (9, In i), (10, PT xb)] ∧ Nx M M2) ?_ (k := K.length) (t1 := T 157 [(16, In (0 : Nat)), (14, In ((1 : Nat) : Int)), (15, vc), (1, l), (5, .bool true), (6, PT t), (8, In top), (9, In i), (10, PT xb)]) (View.temps ⟨j16, j14, j15, j1, j5, j6, j8, j9, j10, trivial⟩) ⟨0, by omega, rfl, rfl, Nx.refl hM⟩
  rintro k tt M2 ⟨i2, hi, rfl, rfl, hn⟩
  have hnx := Nat.le_trans hn0 hn.next
  by_cases hi2 : i2 < K.length
  · have g1 : (i2 : Int) < (K.length : Int) := by omega
    have g2 : (0 : Int) ≤ i2 := by omega
    have hw1 : IntKind.i64.wrap ((i2 : Int) + 1) = ((i2 + 1 : Nat) : Int) := by rw [wrap_i64 (by omega) (by omega)]; omega
    obtain ⟨N, cN, csN, rfl, k1, k2, k3, k4⟩ := (hvc.nx hM hn).cons (by omega)
    have hq : csN.nth i2 = some (In (K.getD i2 0)) := il_nth k2 k3 k4 hi2
    simp only [w4_47, W_seq, w4_43, hnx, X_move, Nat.reduceLT, ev_T, lk_cons, Nat.reduceEqDiff, if_false, if_true, T_set, X_len EE_sym, len_slice und_33, okI_some, X_bin EE_sym (op := .lss) rfl, bin_lss, g1, decide_true, X_nil, thenQ_normal, W_cond, CDi_t, W_skip, W_block, w4_45, w4_44, Mem.next_bump, Nat.le_add_right_of_le, bump_bump, Nat.reduceAdd, X_indexAddr EE_sym, g2, idxV_slice und_33 sz_3, Int.toNat_natCast, Nat.mul_one, Nat.zero_add, X_load EE_sym, load1 lay_3, Mem.get_bump, k1, ld1_cells, hq, X_call ca_20, List.map_cons, List.map_nil, true_and]
    refine CallI.ex2 (tree_ok (pid := K.getD i2 0) ((hT.nx hM hn).bump _) hn.fresh.bump hG.wf hG.Par (by omega)) fun u M3 hN => ?_
    have hN := hN.of_bump
    have hn3 := hn.trans hN.nx
    have n3 := Nat.le_trans hn0 hn3.next
    have hlu : ∀ M, lenA EE.P 33 u M = some (In (treeL L (K.getD i2 0)).length) := fun M => hN.sl.lenA und_33
    have hsum : sumF (treeL L) (K.take (i2 + 1)) = sumF (treeL L) (K.take i2) + (treeL L (K.getD i2 0)).length := by
      rw [List.take_add_one, List.getElem?_eq_getElem hi2, List.getD_eq_getElem?_getD, List.getElem?_eq_getElem hi2, Option.toList_some, sumF_app]; rfl
    have hb1 := treeL_le hG.Par (c := K.getD i2 0)
    have hb2 := sumF_le (f := treeL L) (n := 32) (fun c => Nat.le_trans (treeL_le hG.Par) hL) (A := K.take i2)
    rw [List.length_take] at hb2
    have hw2 : IntKind.i64.wrap (((1 + sumF (treeL L) (K.take i2) : Nat) : Int) + ((treeL L (K.getD i2 0)).length : Int)) = ((1 + sumF (treeL L) (K.take (i2 + 1)) : Nat) : Int) := by
      rw [hsum, wrap_i64 (by omega) (by omega)]; omega
    simp only [putT, Nat.reduceLT, T_set, X_len EE_sym, ev_T, lk_cons, Nat.reduceEqDiff, if_false, if_true, hlu, okI_some, X_bin EE_sym (op := .add) rfl, bin_add, hw2, X_assign, X_nil, blockQ_normal, thenQ_normal, w4_46, n3, X_move, ev_const, hw1, roundQ_normal, true_and]
    exact ⟨K.length - (i2 + 1), _, _, by omega, View.temps (l' := [(16, In ((i2 + 1 : Nat) : Int)), (14, In ((1 + sumF (treeL L) (K.take (i2 + 1)) : Nat) : Int)), (15, .slice (some ⟨N, 0, none⟩) K.length cN), (1, l), (5, .bool true), (6, PT t), (8, In top), (9, In i), (10, PT xb)]) ⟨rfl, rfl, rfl, rfl, rfl, rfl, rfl, rfl, rfl, trivial⟩, i2 + 1, by omega, rfl, rfl, hn3.bump _⟩
  · obtain rfl : i2 = K.length := by omega
    have g1 : ¬ (K.length : Int) < (K.length : Int) := by omega
    rw [List.take_of_length_le (Nat.le_refl _)]
    simp only [w4_47, W_seq, w4_43, hnx, X_move, Nat.reduceLT, ev_T, lk_cons, Nat.reduceEqDiff, if_false, if_true, T_set, X_len EE_sym, hlenA, okI_some, X_bin EE_sym (op := .lss) rfl, bin_lss, g1, decide_false, X_nil, thenQ_normal, W_cond, CDi_f, W_exit, thenQ_exit, roundQ_exit, true_and]
    exact ⟨_, rfl, ⟨rfl, rfl, rfl, rfl, rfl, rfl, rfl⟩, hn.bump _⟩
end
end
end Go.Ab
/- TreeRoots: whatever the room, and the calls, it answers true. -/
namespace Go.Ab
open Go.Proofs
noncomputable section
set_option maxHeartbeats 8000000
set_option maxRecDepth 10000
theorem cells5 {k p r st : Int} {a : BitVec 32} : ∃ xc : Cells, (Cells.ofList [.int .i64 0, .int .i64 0, .int .i64 0, .int .i64 0, .int .u32 0]).write 0 [In k, In p, In r, In st, Um a] = xc ∧ xc.nth 0 = some (In k) ∧ xc.nth 1 = some (In p) ∧ xc.nth 2 = some (In r) ∧ xc.nth 3 = some (In st) ∧ xc.nth 4 = some (Um a) := ⟨_, rfl, rfl, rfl, rfl, rfl, rfl⟩
section
variable {m : Mem} {l : Value} {n : Nat} {room : Int}
theorem treeroots_ok (hm : Fresh m) (hl : Ops m l n) : ∃ m', Con EE.P 4 [In room, l] m (.bool true) m' := by
  refine Con.raw1 EE_ok fn4 (Nat.le_of_ble_eq_true rfl) ?_
  have hlen : ∀ M, lenA EE.P 22 l M = some (In n) := fun M => by
    obtain ⟨aa, C, rfl, _⟩ := id hl
    exact len_slice und_22
  simp only [f4, enumV, Nat.zero_add, w4, W_seq, w4_0, Nat.le_refl, X_assign, ev_const, Nat.reduceLT, T_set, X_nil, thenQ_normal, w4_1, Mem.next_bump, Nat.le_add_right, bump_bump, Nat.reduceAdd, X_call ca_7, List.map_nil, true_and]
  refine CallI.con0 alive_ok ?_
  by_cases hr : ¬ (1 ≤ room ∧ room ≤ 32)
  · simp only [putT, Nat.reduceLT, T_set, X_assign, ev_T, lk_cons, Nat.reduceEqDiff, if_false, if_true, X_nil, thenQ_normal, W_seq, w4_2, Mem.next_bump, Nat.le_add_right, bump_bump, Nat.reduceAdd, X_move, Nat.one_ne_zero, X_call ca_8, List.map_cons, List.map_nil, true_and]
    refine CallI.con0 (new_no (by omega)) ?_
    by_cases hn : 80 < n
    · have hx : ((80 : Int) < (n : Int)) = True := eq_true (by omega)
      simp only [putT, Nat.reduceLT, T_set, X_move, ev_T, lk_cons, Nat.reduceEqDiff, if_false, if_true, X_extract EE_sym, List.getElem?_toArray, List.getElem?_cons_zero, okI_some, List.getElem?_cons_succ, X_assign, X_nil, thenQ_normal, W_seq, w4_3, Mem.next_bump, Nat.le_add_right, bump_bump, Nat.reduceAdd, X_len EE_sym, hlen, X_bin EE_sym (op := .gtr) rfl, ev_const, bin_gtr, hx, decide_true, X_guard EE_sym, T_get, GDi_tf, X_pick EE_sym, pickV_bool, W_cond, CDi_t, w4_5, w4_4, W_ret, thenQ_ret, FinX_ret, resA_tmp, resA_nil, Option.map_some, oneOr1, true_and]
      exact RawE.of (by simp only [Mem.next_bump]; omega) fun y hy => rfl
    · have hx : ((80 : Int) < (n : Int)) = False := eq_false (by omega)
      simp only [putT, Nat.reduceLT, T_set, X_move, ev_T, lk_cons, Nat.reduceEqDiff, if_false, if_true, X_extract EE_sym, List.getElem?_toArray, List.getElem?_cons_zero, okI_some, List.getElem?_cons_succ, X_assign, X_nil, thenQ_normal, W_seq, w4_3, Mem.next_bump, Nat.le_add_right, bump_bump, Nat.reduceAdd, X_len EE_sym, hlen, X_bin EE_sym (op := .gtr) rfl, ev_const, bin_gtr, hx, decide_false, X_guard EE_sym, T_get, GDi_ff, X_neq EE_sym, neq_int, Int.reduceEq, Bool.not_false, X_pick EE_sym, pickV_bool, Bool.false_eq_true, GDi_tf, W_cond, CDi_t, w4_5, w4_4, W_ret, thenQ_ret, FinX_ret, resA_tmp, resA_nil, Option.map_some, oneOr1, true_and]
      exact RawE.of (by simp only [Mem.next_bump]; omega) fun y hy => rfl
  have hr : 1 ≤ room ∧ room ≤ 32 := Classical.byContradiction hr
  simp only [putT, Nat.reduceLT, T_set, X_assign, ev_T, lk_cons, Nat.reduceEqDiff, if_false, if_true, X_nil, thenQ_normal, W_seq, w4_2, Mem.next_bump, Nat.le_add_right, bump_bump, Nat.reduceAdd, X_move, Nat.one_ne_zero, X_call ca_8, List.map_cons, List.map_nil, true_and]
  refine CallI.ex2 (new_ok (m := m.bump _) hm.bump hr) fun u M0 hv => ?_
  obtain ⟨t, b, rfl, ht, hb, hT, hn0⟩ := hv
  rw [Mem.next_bump] at ht hb
  have hn0 := hn0.of_bump
  have n0 := hn0.next
  by_cases hn : 80 < n
  · have hx : ((80 : Int) < (n : Int)) = True := eq_true (by omega)
    simp only [putT, Nat.reduceLT, T_set, X_move, ev_T, lk_cons, Nat.reduceEqDiff, if_false, if_true, X_extract EE_sym, List.getElem?_toArray, List.getElem?_cons_zero, okI_some, List.getElem?_cons_succ, X_assign, X_nil, thenQ_normal, W_seq, w4_3, n0, X_len EE_sym, hlen, X_bin EE_sym (op := .gtr) rfl, ev_const, bin_gtr, hx, decide_true, X_guard EE_sym, T_get, GDi_tf, X_pick EE_sym, pickV_bool, W_cond, CDi_t, w4_5, w4_4, Mem.next_bump, Nat.le_add_right_of_le, bump_bump, Nat.reduceAdd, W_ret, thenQ_ret, FinX_ret, resA_tmp, resA_nil, Option.map_some, oneOr1, true_and]
    exact RawE.of (by simp only [Mem.next_bump]; omega) fun y hy => hn0.old y hy
  have hx : ((80 : Int) < (n : Int)) = False := eq_false (by omega)
  obtain ⟨aa, C, rfl, hl2⟩ := id hl
  simp only [putT, Nat.reduceLT, T_set, X_move, ev_T, lk_cons, Nat.reduceEqDiff, if_false, if_true, X_extract EE_sym, List.getElem?_toArray, List.getElem?_cons_zero, okI_some, List.getElem?_cons_succ, X_assign, X_nil, thenQ_normal, W_seq, w4_3, n0, X_len EE_sym, len_slice und_22, X_bin EE_sym (op := .gtr) rfl, ev_const, bin_gtr, hx, decide_false, X_guard EE_sym, T_get, GDi_ff, X_neq EE_sym, neq_int, decide_true, Bool.not_true, X_pick EE_sym, pickV_bool, Bool.false_eq_true, X_un EE_sym, un_not, W_cond, CDi_f, W_skip, w4_6, Mem.next_bump, Nat.le_add_right_of_le, bump_bump, Nat.reduceAdd, w4_7, W_block, w4_56, true_and]
  refine WX.loop_of (fun k tt M => ∃ (i : Nat) (top : Int) (L : TL), i ≤ n ∧ k = n - i ∧ tt = T 157 [(9, In i), (8, In top), (5, .bool true), (6, PT t), (1, .slice aa n C)] ∧ TAt M t b room top L ∧ Gt L room top ∧ Nx m M) ?_ (k := n) (t1 := T 157 [(9, In (0 : Nat)), (8, In 1), (5, .bool true), (6, PT t), (1, .slice aa n C)]) (View.temps ⟨rfl, rfl, rfl, rfl, rfl, trivial⟩) ⟨0, 1, _, by omega, rfl, rfl, hT.bump _, Gt.start hr, hn0.bump _⟩
  rintro k tt M ⟨i, top, L, hi, rfl, rfl, hT, hG, hm1⟩
  have hnx := hm1.next
  have hL := hG.len32
  have hFM := hm1.fresh
  by_cases hi2 : i < n
  · have g1 : (i : Int) < (n : Int) := by omega
    have g2 : (0 : Int) ≤ i := by omega
    have hw1 : IntKind.i64.wrap ((i : Int) + 1) = ((i + 1 : Nat) : Int) := by rw [wrap_i64 (by omega) (by omega)]; omega
    rcases hl2 with hl2 | ⟨B, cs, ww, z, rfl, e1, e2⟩
    · omega
    obtain ⟨kk, q, r, st, f, e3⟩ := e2 i hi2
    have e4 : M.get B = some (.cells cs ww z) := by rw [hm1.old B (hm.lt e1), e1]
    obtain ⟨xc, hxc, x0, x1, x2, x3, x4⟩ := cells5 (k := kk) (p := q) (r := r) (st := st) (a := f)
    simp only [w4_55, W_seq, w4_8, hnx, X_move, Nat.reduceLT, ev_T, lk_cons, Nat.reduceEqDiff, if_false, if_true, T_set, X_len EE_sym, len_slice und_22, okI_some, X_bin EE_sym (op := .lss) rfl, bin_lss, g1, decide_true, X_nil, thenQ_normal, W_cond, CDi_t, W_skip, W_block, w4_53, w4_9, Mem.next_bump, Nat.le_add_right_of_le, bump_bump, Nat.reduceAdd, X_indexAddr EE_sym, g2, idxV_slice und_22 sz_30, Int.toNat_natCast, Nat.zero_add, X_load EE_sym, loadN lay_30, Mem.get_bump, e4, ldN_cells, e3, Option.map_some, X_alloc, zero_30, Nat.add_assoc, put_bump, X_store, store1 sz_30, Mem.get_put, cells_agg, st1_cells, List.length_cons, List.length_nil, ofList_n, Nat.le_refl, List.all_cons, oneCell, List.all_nil, Bool.and_self, and_self, hxc, w4_10, Mem.next_put, X_fieldAddr EE_sym fo_30_0, offV_ptr, Nat.add_zero, load1 lay_3, ld1_cells, x0, true_and]
    have hlo : Lo M ((M.put (M.next + 8) (.cells (Cells.ofList [.int .i64 0, .int .i64 0, .int .i64 0, .int .i64 0, .int .u32 0]) true 0)).put (M.next + 8) (.cells xc true 0)) 12 := ((Lo.refl hFM).put ⟨by omega, by omega⟩).put ⟨by omega, by omega⟩
    have hN2 : Nx M (((M.put (M.next + 8) (.cells (Cells.ofList [.int .i64 0, .int .i64 0, .int .i64 0, .int .i64 0, .int .u32 0]) true 0)).put (M.next + 8) (.cells xc true 0)).bump 12) := ⟨by rw [Mem.next_bump, hlo.next]; omega, Fresh.of_low (by have := hFM.n64; rw [Mem.next_bump, hlo.next]; omega) (fun y hy => by rw [Mem.next_bump, hlo.next] at hy; exact hlo.none y hy), fun y hy => hlo.old y hy⟩
    have hqx : (((M.put (M.next + 8) (.cells (Cells.ofList [.int .i64 0, .int .i64 0, .int .i64 0, .int .i64 0, .int .u32 0]) true 0)).put (M.next + 8) (.cells xc true 0)).bump 12).get (M.next + 8) = some (.cells xc true 0) := by rw [Mem.get_bump, Mem.get_put, if_pos rfl]
    have hT2 := hT.nx hFM hN2
    have ltM := hT.lt hFM
    have hm2 := hm1.trans hN2
    refine WX.mono ?_ (ro_kind (kk := kk) (q := q) (r := r) (st := st) (f := f) (i := i) hT2 hN2.fresh hG hqx ⟨by omega, by omega⟩ x1 x2 x3 x4 rfl rfl rfl rfl rfl rfl rfl hm2.next)
    rintro x tt M3 ⟨rfl, J, top2, L2, rfl, ⟨j1, j5, j6, j8, j9, j10⟩, hT3, hG3, hF3⟩
    have j1 : lk J 1 = .slice (some ⟨B, 0, none⟩) n C := j1
    have hL3 := hG3.len32
    have hFF := hF3.fresh
    have hm3 := hm2.frT ⟨by omega, by omega⟩ hF3
    have n3 := hm3.next
    have qx3 : M3.get (M.next + 8) = some (.cells xc true 0) := by rw [hF3.old _ (hN2.fresh.lt hqx) (by omega) (by omega), hqx]
    simp only [blockQ_normal, thenQ_normal, W_seq, w4_40, n3, X_assign, ev_const, Nat.reduceLT, T_set, X_nil, w4_41, Mem.next_bump, Nat.le_add_right_of_le, bump_bump, Nat.reduceAdd, X_move, ev_T, lk_cons, Nat.reduceEqDiff, j6, if_false, X_fieldAddr EE_sym fo_30_1, j10, offV_ptr, Nat.zero_add, okI_some, X_load EE_sym, if_true, load1 lay_3, Mem.get_bump, qx3, ld1_cells, x1, X_call ca_13, List.map_cons, List.map_nil, true_and]
    refine CallI.ex2 (children_ok (pid := q) (hT3.bump _) hFF.bump hG3.wf (by omega)) fun vc M4 hK => ?_
    have hK := hK.of_bump
    have hT4 := hT3.nx hFF hK.nx
    have hm4 := hm3.trans hK.nx
    have n4 := hm4.next
    have hkl := kids_len (L := L2) (pid := q)
    simp only [putT, Nat.reduceLT, T_set, X_assign, ev_T, lk_cons, Nat.reduceEqDiff, if_false, if_true, X_nil, thenQ_normal, W_seq, w4_42, n4, ev_const, W_block, true_and]
    refine WX.mono ?_ (ro_sum (i := i) (xb := M.next + 8) (hT4.bump _) hK.nx.fresh.bump hG3 (hK.sl.bump _) (by omega) j1 j5 j6 j8 j9 j10 rfl rfl rfl (by rw [Mem.next_bump]; omega))
    rintro x tt M5 ⟨rfl, J2, rfl, ⟨i1, i5, i6, i8, i9, i10, i14⟩, hn5⟩
    have hn5 := hn5.of_bump
    have hT5 := hT4.nx hK.nx.fresh hn5
    have hm5 := hm4.trans hn5
    have n5 := hm5.next
    have hn35 := hK.nx.trans hn5
    have qx5 := hn35.keep hFF qx3
    have hF5 := hn5.fresh
    simp only [blockQ_exit, if_true, thenQ_normal, W_seq, w4_49, n5, X_move, Nat.reduceLT, ev_T, i6, T_set, X_fieldAddr EE_sym fo_30_1, lk_cons, Nat.reduceEqDiff, i10, if_false, offV_ptr, Nat.zero_add, okI_some, X_load EE_sym, load1 lay_3, Mem.get_bump, qx5, ld1_cells, x1, X_call ca_20, List.map_cons, List.map_nil, true_and]
    refine CallI.ex2 (tree_ok (pid := q) (hT5.bump _) hF5.bump hG3.wf hG3.Par (by omega)) fun va M6 hA => ?_
    have hA := hA.of_bump
    have hT6 := hT5.nx hF5 hA.nx
    have hm6 := hm5.trans hA.nx
    have n6 := hm6.next
    have hlA : ∀ M, lenA EE.P 33 va M = some (In (treeL L2 q).length) := fun M => hA.sl.lenA und_33
    simp only [putT, Nat.reduceLT, T_set, X_assign, ev_T, lk_cons, Nat.reduceEqDiff, if_false, if_true, X_nil, thenQ_normal, W_seq, w4_50, n6, X_move, i6, X_call ca_21, List.map_cons, List.map_nil, true_and]
    refine CallI.ex2 (roots_ok (hT6.bump _) hA.nx.fresh.bump hG3) fun u M7 hv => ?_
    obtain ⟨rfl, hn7⟩ := hv
    have hn7 := hn7.of_bump
    have hT7 := hT6.nx hA.nx.fresh hn7
    have hm7 := hm6.trans hn7
    have n7 := hm7.next
    have dF : decide (room - (L2.length : Int) < 0) = false := decide_eq_false (by have := hG3.len; omega)
    by_cases c1 : (0 : Int) < ((treeL L2 q).length : Int)
    · have d1 := decide_eq_true c1
      have hs : (at_ L2 q).2.1 ≠ 0 := fun e => by
        unfold treeL at c1
        rw [if_pos e] at c1
        exact absurd c1 (by decide)
      have hp := tree_parts hG3 hs
      have d2 : decide (((treeL L2 q).length : Int) = ((1 + sumF (treeL L2) (kids L2 q) : Nat) : Int)) = true := decide_eq_true (by rw [hp])
      simp only [putT, Nat.reduceLT, T_set, X_un EE_sym, ev_T, lk_cons, Nat.reduceEqDiff, if_false, if_true, un_not, Bool.not_true, okI_some, X_move, X_guard EE_sym, T_get, GDi_ff, X_len EE_sym, hlA, X_bin EE_sym (op := .gtr) rfl, ev_const, bin_gtr, d1, GDi_tt, i14, X_neq EE_sym, neq_int, d2, X_pick EE_sym, pickV_bool, Bool.false_eq_true, i6, X_call ca_22, List.map_cons, List.map_nil]
      refine CallI.con (free_ok hT7 hL3) (by simp) ?_
      simp only [putT, Nat.reduceLT, T_set, X_guard EE_sym, T_get, lk_cons, Nat.reduceEqDiff, if_false, if_true, GDi_ff, X_bin EE_sym (op := .lss) rfl, ev_T, ev_const, bin_lss, dF, okI_some, X_pick EE_sym, pickV_bool, Bool.false_eq_true, X_nil, thenQ_normal, W_cond, CDi_f, W_skip, blockQ_normal, w4_54, n7, X_move, i9, X_bin EE_sym (op := .add) rfl, bin_add, hw1, X_assign, roundQ_normal, true_and]
      exact ⟨n - (i + 1), _, _, by omega, View.temps (l' := [(9, In ((i + 1 : Nat) : Int)), (8, In top2), (5, .bool true), (6, PT t), (1, .slice (some ⟨B, 0, none⟩) n C)]) ⟨rfl, i8, i5, i6, i1, trivial⟩, i + 1, top2, L2, by omega, rfl, rfl, hT7.bump _, hG3, hm7.bump _⟩
    · have d1 := decide_eq_false c1
      simp only [putT, Nat.reduceLT, T_set, X_un EE_sym, ev_T, lk_cons, Nat.reduceEqDiff, if_false, if_true, un_not, Bool.not_true, okI_some, X_move, X_guard EE_sym, T_get, GDi_ff, X_len EE_sym, hlA, X_bin EE_sym (op := .gtr) rfl, ev_const, bin_gtr, d1, GDi_ft, X_pick EE_sym, pickV_bool, Bool.false_eq_true, i6, X_call ca_22, List.map_cons, List.map_nil]
      refine CallI.con (free_ok hT7 hL3) (by simp) ?_
      simp only [putT, Nat.reduceLT, T_set, X_guard EE_sym, T_get, lk_cons, Nat.reduceEqDiff, if_false, if_true, GDi_ff, X_bin EE_sym (op := .lss) rfl, ev_T, ev_const, bin_lss, dF, okI_some, X_pick EE_sym, pickV_bool, Bool.false_eq_true, X_nil, thenQ_normal, W_cond, CDi_f, W_skip, blockQ_normal, w4_54, n7, X_move, i9, X_bin EE_sym (op := .add) rfl, bin_add, hw1, X_assign, roundQ_normal, true_and]
      exact ⟨n - (i + 1), _, _, by omega, View.temps (l' := [(9, In ((i + 1 : Nat) : Int)), (8, In top2), (5, .bool true), (6, PT t), (1, .slice (some ⟨B, 0, none⟩) n C)]) ⟨rfl, i8, i5, i6, i1, trivial⟩, i + 1, top2, L2, by omega, rfl, rfl, hT7.bump _, hG3, hm7.bump _⟩
  · obtain rfl : i = n := by omega
    have g1 : ¬ (i : Int) < (i : Int) := by omega
    simp only [w4_55, W_seq, w4_8, hnx, X_move, Nat.reduceLT, ev_T, lk_cons, Nat.reduceEqDiff, if_false, if_true, T_set, X_len EE_sym, len_slice und_22, okI_some, X_bin EE_sym (op := .lss) rfl, bin_lss, g1, decide_false, X_nil, thenQ_normal, W_cond, CDi_f, W_exit, thenQ_exit, roundQ_exit, blockQ_exit, w4_57, Mem.next_bump, Nat.le_add_right_of_le, bump_bump, Nat.reduceAdd, X_guard EE_sym, T_get, GDi_tt, X_call ca_20, List.map_cons, ev_const, List.map_nil, true_and]
    have h1 := hG.one_in
    have hs1 : (at_ L 1).2.1 ≠ 0 := by rw [hG.one]; decide
    refine CallI.ex2 (tree_ok (pid := 1) (hT.bump _) hFM.bump hG.wf hG.Par (by omega)) fun va M6 hA => ?_
    have hA := hA.of_bump
    have hT6 := hT.nx hFM hA.nx
    have hm6 := hm1.trans hA.nx
    have n6 := hm6.next
    have hlA : ∀ M, lenA EE.P 33 va M = some (In L.length) := fun M => by rw [hA.sl.lenA und_33, tree_len hG.Par hs1, fam_all hG.Par h1]
    simp only [putT, Nat.reduceLT, T_set, X_guard EE_sym, T_get, lk_cons, Nat.reduceEqDiff, if_false, if_true, GDi_tt, X_len EE_sym, ev_T, hlA, okI_some, X_move, X_call ca_15, List.map_cons, List.map_nil]
    refine CallI.ex2L (all_ok hT6 hA.nx.fresh hG.wf (by omega)) (by simp) fun vb M7 hB => ?_
    have hm7 := hm6.trans hB.nx
    have n7 := hm7.next
    have hlB : ∀ M, lenA EE.P 33 vb M = some (In L.length) := fun M => hB.sl.lenA und_33
    simp only [putT, Nat.reduceLT, T_set, X_guard EE_sym, T_get, lk_cons, Nat.reduceEqDiff, if_false, if_true, GDi_tt, X_len EE_sym, ev_T, hlB, okI_some, X_eql EE_sym, eq_int, decide_true, X_pick EE_sym, ev_const, pickV_bool, X_assign, X_nil, thenQ_normal, W_ret, FinX_ret, resA_tmp, resA_nil, Option.map_some, oneOr1]
    exact RawE.of hm7.next fun y hy => hm7.old y hy
theorem roots_x {x0 : Int} (hm : Fresh m) (hl : Ops m l n) : ∃ m', Con EE.P 4 [In x0, l] m (.bool true) m' := treeroots_ok hm hl
end
end
end Go.Ab
