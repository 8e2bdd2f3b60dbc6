/- Files: what a call comes to on either side: both answer alike. -/
import Derived.Test.YthidhnbniklhmaaFiH
namespace Go.Ab
open Go.Proofs
noncomputable section
set_option maxHeartbeats 1000000
/-- A memory that is another one but for one block. -/
structure Upd (M : Mem) (b : Nat) (o : AObj) (m' : Mem) : Prop where
  next : m'.next = M.next
  get : ∀ y, m'.get y = if y = b then some o else M.get y
theorem Upd.put {M : Mem} {b : Nat} {o : AObj} : Upd M b o (M.put b o) := ⟨rfl, fun y => Mem.get_put _ _ _ _⟩
theorem Upd.same {M : Mem} {b : Nat} {o : AObj} (h : M.get b = some o) : Upd M b o M := ⟨rfl, fun y => by
  split
  · rename_i e; rw [e, h]
  · rfl⟩
theorem least {P : Nat → Prop} [DecidablePred P] : ∀ {n : Nat}, (∃ k, k < n ∧ P k) → ∃ k, k < n ∧ P k ∧ ∀ j, j < k → ¬ P j
  | 0, h => by obtain ⟨k, hk, _⟩ := h; omega
  | n + 1, h => by
    by_cases hn : ∃ k, k < n ∧ P k
    · obtain ⟨k, g1, g2⟩ := least hn
      exact ⟨k, by omega, g2⟩
    · obtain ⟨k, hk, h0⟩ := h
      exact ⟨k, hk, h0, fun j hj e => hn ⟨j, by omega, e⟩⟩
/-- Open files beside the document's. -/
structure Inv (B : Nat) (s W : FS) : Prop where
  lo : ∀ k, 0 ≤ s.r k
  hi : ∀ k, s.r k ≤ B
  eq : ∀ k, W.r k = s.r k
  x : ∀ k, s.r k ≠ 0 → W.p k = s.p k ∧ W.w k = s.w k
section
variable {B : Nat} {s W : FS}
theorem Inv.mono {C : Nat} (h : Inv B s W) (hc : B ≤ C) : Inv C s W := ⟨h.lo, fun k => Int.le_trans (h.hi k) (by omega), h.eq, h.x⟩
theorem Inv.isO (h : Inv B s W) {n : Int} : isO W n ↔ isO s n := by unfold Go.Ab.isO; rw [h.eq]
theorem Inv.rok (h : Inv B s W) : ROk W := fun k => by rw [h.eq]; exact h.lo k
theorem Inv.srok (h : Inv B s W) : ROk s := h.lo
theorem Inv.used (h : Inv B s W) {i : Nat} : usedL W i = usedL s i := by
  unfold usedL; simp only [h.eq]
theorem Inv.set (h : Inv B s W) {k : Nat} {p : Int} {w : Bool} : Inv (B + 1) (s.set k p w 1) (W.set k p w 1) := by
  refine ⟨fun i => ?_, fun i => ?_, fun i => ?_, fun i hi => ?_⟩
  · simp only [FS.set]; split
    · decide
    · exact h.lo i
  · simp only [FS.set]; split
    · omega
    · have := h.hi i; omega
  · simp only [FS.set]; split
    · rfl
    · exact h.eq i
  · simp only [FS.set] at hi ⊢
    split
    · exact ⟨rfl, rfl⟩
    · rename_i e
      rw [if_neg e] at hi
      exact h.x i hi
theorem Inv.setR (h : Inv B s W) {k : Nat} {r : Int} (h0 : 0 ≤ r) (h1 : r ≤ B + 1) (hk : s.r k ≠ 0) : Inv (B + 1) (s.setR k r) (W.setR k r) := by
  refine ⟨fun i => ?_, fun i => ?_, fun i => ?_, fun i hi => ?_⟩
  · simp only [FS.setR]; split
    · exact h0
    · exact h.lo i
  · simp only [FS.setR]; split
    · omega
    · have := h.hi i; omega
  · simp only [FS.setR]; split
    · rfl
    · exact h.eq i
  · simp only [FS.setR] at hi ⊢
    split at hi
    · rename_i e
      rw [e]; exact h.x k hk
    · exact h.x i hi
theorem Inv.clear (h : Inv B s W) {k : Nat} : Inv (B + 1) (s.set k 0 false 0) (W.setR k 0) := by
  refine ⟨fun i => ?_, fun i => ?_, fun i => ?_, fun i hi => ?_⟩
  · simp only [FS.set]; split
    · decide
    · exact h.lo i
  · simp only [FS.set]; split
    · omega
    · have := h.hi i; omega
  · simp only [FS.set, FS.setR]; split
    · rfl
    · exact h.eq i
  · simp only [FS.set, FS.setR] at hi ⊢
    split at hi
    · exact absurd rfl hi
    · rename_i e
      rw [if_neg e, if_neg e]
      exact h.x i hi
end
theorem DOk.set {d : Nat → Int} (h : DOk d) {k : Nat} {x : Int} (h1 : 0 ≤ x) (h2 : x ≤ 64) : DOk (dset d k x) := fun i => by
  unfold dset
  split
  · exact ⟨h1, h2⟩
  · exact h i
/-- Calls on files, on either side. -/
structure TwoF (f1 f2 : FuncId) (args : List Value) (B : Nat) (s W : FS) (r : Value) (s' W' : FS) : Prop where
  inv : Inv (B + 1) s' W'
  left : ∀ m b sz, FAt m b sz s → ∃ m', Con EE.P f1 (PT b :: args) m r m' ∧ Upd m b (.cells (fC s') true sz) m'
  right : ∀ m b sz, WAt m b sz W → ∃ m', Con EE.P f2 (PT b :: args) m r m' ∧ Upd m b (.cells (wC W') true sz) m'
theorem open2 {B : Nat} {s W : FS} {p : Int} {w : Bool} (h : Inv B s W) : ∃ a e s' W', TwoF 21 36 [.agg [In p, .bool w].toArray] B s W (.tuple [In a, In e].toArray) s' W' := by
  by_cases h1 : p < 0 ∨ 16 ≤ p
  · exact ⟨_, _, s, W, h.mono (by omega), fun m b sz hb => ⟨m, open_bad h1, .same hb⟩, fun m b sz hb => ⟨m, wopen_bad h1, .same hb⟩⟩
  have h2 : 0 ≤ p := by omega
  have h3 : p < 16 := by omega
  by_cases hf : ∃ k, k < 64 ∧ s.r k = 0
  · obtain ⟨k, hk, h0, hj⟩ := least hf
    exact ⟨_, _, _, _, h.set, fun m b sz hb => ⟨_, open_at hb h2 h3 hk h0 hj, .put⟩, fun m b sz hb => ⟨_, wopen_at hb h2 h3 hk (by rw [h.eq]; exact h0) (fun j hj' => by rw [h.eq]; exact hj j hj'), .put⟩⟩
  · have hf' : ∀ k, k < 64 → s.r k ≠ 0 := fun k hk e => hf ⟨k, hk, e⟩
    exact ⟨_, _, s, W, h.mono (by omega), fun m b sz hb => ⟨m, open_full hb h2 h3 hf', .same hb⟩, fun m b sz hb => ⟨m, wopen_full hb h2 h3 (fun k hk => by rw [h.eq]; exact hf' k hk), .same hb⟩⟩
theorem share2 {B : Nat} {s W : FS} {n : Int} (h : Inv B s W) (hB : B < 4294967296) : ∃ e s' W', TwoF 16 37 [In n] B s W (In e) s' W' := by
  by_cases ho : isO s n
  · have h1 := h.lo n.toNat
    have h2 := h.hi n.toNat
    refine ⟨_, _, _, h.setR (k := n.toNat) (r := s.r n.toNat + 1) (by omega) (by omega) ho.2.2, fun m b sz hb => ⟨_, share_open hb ho (by omega) h1, .put⟩, fun m b sz hb => ⟨_, ?_, .put⟩⟩
    have := wshare_open hb h.rok (h.isO.2 ho) (by rw [h.eq]; omega)
    rw [h.eq] at this
    exact this
  · exact ⟨_, s, W, h.mono (by omega), fun m b sz hb => ⟨m, share_not hb ho, .same hb⟩, fun m b sz hb => ⟨m, wshare_not hb h.rok (fun e => ho (h.isO.1 e)), .same hb⟩⟩
theorem drop2 {B : Nat} {s W : FS} {n : Int} (h : Inv B s W) (hB : B < 4294967296) : ∃ a p w e s' W', TwoF 15 38 [In n] B s W (.tuple [In a, .agg [In p, .bool w].toArray, In e].toArray) s' W' := by
  by_cases ho : isO s n
  · have h1 := h.lo n.toNat
    have h2 := h.hi n.toNat
    have h3 := ho.2.2
    have hx := h.x _ h3
    have hw : ∀ m b sz, WAt m b sz W → ∃ m', Con EE.P 38 (PT b :: [In n]) m (.tuple [In (s.r n.toNat - 1), .agg [In (s.p n.toNat), .bool (s.w n.toNat)].toArray, In 0].toArray) m' ∧ Upd m b (.cells (wC (W.setR n.toNat (s.r n.toNat - 1))) true sz) m' := fun m b sz hb => by
      have := wdrop_open hb h.rok (h.isO.2 ho) (by rw [h.eq]; omega)
      rw [h.eq, hx.1, hx.2] at this
      exact ⟨_, this, .put⟩
    by_cases h4 : s.r n.toNat = 1
    · rw [h4] at hw
      exact ⟨_, _, _, _, _, _, h.clear (k := n.toNat), fun m b sz hb => ⟨_, drop_last hb ho h4, .put⟩, hw⟩
    · exact ⟨_, _, _, _, _, _, h.setR (k := n.toNat) (r := s.r n.toNat - 1) (by omega) (by omega) h3, fun m b sz hb => ⟨_, drop_more hb ho (by omega) (by omega), .put⟩, hw⟩
  · exact ⟨_, _, _, _, s, W, h.mono (by omega), fun m b sz hb => ⟨m, drop_not hb ho, .same hb⟩, fun m b sz hb => ⟨m, wdrop_not hb h.rok (fun e => ho (h.isO.1 e)), .same hb⟩⟩
/-- The document's descriptors behind a call. -/
structure VUp (M : Mem) (v zv N : Nat) (d : Nat → Int) (m' : Mem) (N' : Nat) : Prop where
  next : M.next ≤ m'.next
  fresh : Fresh M → Fresh m'
  at_ : VAt m' v zv N' d
  new : N' = N ∨ M.next ≤ N'
  old : ∀ y, y < M.next → y ≠ v → m'.get y = M.get y
theorem VUp.same {M : Mem} {v zv N : Nat} {d : Nat → Int} (h : VAt M v zv N d) : VUp M v zv N d M N := ⟨Nat.le_refl _, id, h, .inl rfl, fun _ _ _ => rfl⟩
theorem VUp.set {M : Mem} {v zv N : Nat} {d d' : Nat → Int} (hM : Fresh M) (h : VAt M v zv N d) : VUp M v zv N d' (wsetM M v zv d') M.next := by
  have hl := hM.lt h.ptr
  refine ⟨by rw [wsetM_next]; omega, fun _ => ⟨by rw [wsetM_next]; have := hM.n64; omega, fun b hb => ?_⟩, wset_at hM h d' 0, .inr (Nat.le_refl _), fun y hy hv => ?_⟩
  · rw [wsetM_next] at hb
    simp only [wsetM, Mem.get_bump, Mem.get_put]
    rw [if_neg (by omega), if_neg (by omega), hM.none b (by omega)]
  · simp only [wsetM, Mem.get_bump, Mem.get_put]
    rw [if_neg (by omega), if_neg hv]
structure TwoD (f1 f2 : FuncId) (args : List Value) (d : Nat → Int) (r : Value) (d' : Nat → Int) : Prop where
  ok : DOk d'
  left : ∀ m b sz, DAt m b sz d → ∃ m', Con EE.P f1 (PT b :: args) m r m' ∧ Upd m b (.cells (dC d') true sz) m'
  right : ∀ m v zv N, Fresh m → VAt m v zv N d → ∃ m' N', Con EE.P f2 (PT v :: args) m r m' ∧ VUp m v zv N d' m' N'
theorem put2 {d : Nat → Int} {n : Int} (h : DOk d) : ∃ a e d', TwoD 33 39 [In n] d (.tuple [In a, In e].toArray) d' := by
  by_cases h1 : 0 ≤ n ∧ n < 64
  · obtain ⟨h1, h2⟩ := h1
    by_cases hf : ∃ k, k < 8 ∧ d k = 0
    · obtain ⟨k, hk, h0, hj⟩ := least hf
      exact ⟨_, _, _, h.set (by omega) (by omega), fun m b sz hb => ⟨_, put_at hb h h1 h2 hk h0 hj, .put⟩, fun m v zv N hm hb => ⟨_, _, wput_at hb h h1 h2 hk h0 hj, .set hm hb⟩⟩
    · have hf' : ∀ k, k < 8 → d k ≠ 0 := fun k hk e => hf ⟨k, hk, e⟩
      exact ⟨_, _, d, h, fun m b sz hb => ⟨m, put_full hb h h1 h2 hf', .same hb⟩, fun m v zv N hm hb => ⟨_, _, wput_full hb h h1 h2 hf', .same hb⟩⟩
  · exact ⟨_, _, d, h, fun m b sz hb => ⟨m, put_bad h1, .same hb⟩, fun m v zv N hm hb => ⟨_, _, wput_bad h1, .same hb⟩⟩
theorem set2 {d : Nat → Int} {fd n : Int} (h : DOk d) : ∃ e d', TwoD 28 40 [In fd, In n] d (In e) d' := by
  by_cases h1 : 0 ≤ n ∧ n < 64
  · obtain ⟨h1, h2⟩ := h1
    by_cases hf : fdFree d fd
    · exact ⟨_, _, h.set (by omega) (by omega), fun m b sz hb => ⟨_, set_ok hb h1 h2 hf, .put⟩, fun m v zv N hm hb => ⟨_, _, wSet_ok hb h1 h2 hf, .set hm hb⟩⟩
    · exact ⟨_, d, h, fun m b sz hb => ⟨m, set_not hb h h1 h2 hf, .same hb⟩, fun m v zv N hm hb => ⟨_, _, wSet_not hb h h1 h2 hf, .same hb⟩⟩
  · exact ⟨_, d, h, fun m b sz hb => ⟨m, set_bad h1, .same hb⟩, fun m v zv N hm hb => ⟨_, _, wSet_bad h1, .same hb⟩⟩
theorem close2 {d : Nat → Int} {fd : Int} (h : DOk d) : ∃ a e d', TwoD 26 41 [In fd] d (.tuple [In a, In e].toArray) d' := by
  by_cases hf : fdUsed d fd
  · exact ⟨_, _, _, h.set (Int.le_refl 0) (by decide), fun m b sz hb => ⟨_, close_ok hb h hf, .put⟩, fun m v zv N hm hb => ⟨_, _, wclose_ok hb h hf, .set hm hb⟩⟩
  · exact ⟨_, _, d, h, fun m b sz hb => ⟨m, close_not hb h hf, .same hb⟩, fun m v zv N hm hb => ⟨_, _, wclose_not hb hf, .same hb⟩⟩
theorem dup2 {d : Nat → Int} {fd : Int} (h : DOk d) : ∃ a e d', TwoD 25 42 [In fd] d (.tuple [In a, In e].toArray) d' := by
  by_cases hu : fdUsed d fd
  · by_cases hf : ∃ k, k < 8 ∧ d k = 0
    · obtain ⟨k, hk, h0, hj⟩ := least hf
      have := h fd.toNat
      exact ⟨_, _, _, h.set this.1 this.2, fun m b sz hb => ⟨_, dup_ok hb h hu hk h0 hj, .put⟩, fun m v zv N hm hb => ⟨_, _, wdup_ok hb h hu hk h0 hj, .set hm hb⟩⟩
    · have hf' : ∀ k, k < 8 → d k ≠ 0 := fun k hk e => hf ⟨k, hk, e⟩
      exact ⟨_, _, d, h, fun m b sz hb => ⟨m, dup_full hb h hu hf', .same hb⟩, fun m v zv N hm hb => ⟨_, _, wdup_full hb h hu hf', .same hb⟩⟩
  · exact ⟨_, _, d, h, fun m b sz hb => ⟨m, dup_not hb h hu, .same hb⟩, fun m v zv N hm hb => ⟨_, _, wdup_not hb hu, .same hb⟩⟩
end
end Go.Ab
