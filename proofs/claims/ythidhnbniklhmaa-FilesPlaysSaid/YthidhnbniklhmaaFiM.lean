/- Files: what the laws' calls come to, by number. -/
import Derived.Test.YthidhnbniklhmaaFiL
namespace Go.Ab
open Go.Proofs
noncomputable section
set_option maxHeartbeats 1000000
theorem WXi.gen {E : Env} {n0 : Nat} {rd : Option Nat} {c : SCode} {t : List Value} {m0 : Mem} {Q : QI} (F : Mem → Prop) (h0 : F m0) (h : ∀ m, F m → WXi E n0 rd c t m (Q := Q)) : WXi E n0 rd c t m0 (Q := Q) := h m0 h0
theorem eq4 {xo yo : Operand} {p q : Bool} {m : Mem} : eqA EE.P .eql 4 xo yo (.bool p) (.bool q) m = some (.bool (p == q)) := by
  cases p <;> cases q <;> kernel_rfl
theorem neq4 {xo yo : Operand} {p q : Bool} {m : Mem} : eqA EE.P .neq 4 xo yo (.bool p) (.bool q) m = some (.bool (!(p == q))) := by
  cases p <;> cases q <;> kernel_rfl
theorem ofn {n b : Nat} (h : b < 256) : IntKind.i64.wrap (b : Int) = (b : Int) := wrap_i64 (by omega) (by omega)
theorem tmodn {b n : Nat} : ((b : Int)).tmod (n : Int) = ((b % n : Nat) : Int) := by
  rw [Int.tmod_eq_emod_of_nonneg (by omega)]; rfl
def gP (s : FS) (k : Nat) : Int := if s.r k = 0 then 0 else s.p k
def gW (s : FS) (k : Nat) : Bool := if s.r k = 0 then false else s.w k
section
variable {m : Mem} {b sz : Nat} {s : FS} {k : Nat}
theorem isO_k (hk : k < 64) : isO s (k : Int) ↔ s.r k ≠ 0 := by
  unfold isO
  exact ⟨fun h => h.2.2, fun h => ⟨by omega, by omega, h⟩⟩
theorem get_k (hb : FAt m b sz s) (hk : k < 64) : Con EE.P 13 [PT b, In k] m (.tuple [.agg [In (gP s k), .bool (gW s k)].toArray, .bool (!decide (s.r k = 0))].toArray) m := by
  unfold gP gW
  by_cases h : s.r k = 0
  · rw [if_pos h, if_pos h, decide_eq_true h]
    exact get_not hb fun e => (isO_k hk).1 e h
  · rw [if_neg h, if_neg h, decide_eq_false h]
    exact get_open hb ((isO_k hk).2 h)
theorem get_r {p : Int} {w o : Bool} (hb : FAt m b sz s) (hk : k < 64) (hp : gP s k = p) (hw : gW s k = w) (ho : (!decide (s.r k = 0)) = o) : Con EE.P 13 [PT b, In k] m (.tuple [.agg [In p, .bool w].toArray, .bool o].toArray) m := by
  subst hp hw ho
  exact get_k hb hk
theorem gP_t (h : s.r k ≠ 0) : gP s k = s.p k := if_neg h
theorem gW_t (h : s.r k ≠ 0) : gW s k = s.w k := if_neg h
theorem gP_f (h : s.r k = 0) : gP s k = 0 := if_pos h
theorem gW_f (h : s.r k = 0) : gW s k = false := if_pos h
theorem refs_k (hb : FAt m b sz s) (hk : k < 64) : Con EE.P 14 [PT b, In k] m (In (s.r k)) m := by
  by_cases h : s.r k = 0
  · rw [h]; exact refs_not hb fun e => (isO_k hk).1 e h
  · exact refs_open hb ((isO_k hk).2 h)
/-- One number's count turns to r. -/
structure Turn (s s' : FS) (k : Nat) (r : Int) : Prop where
  at_ : s'.r k = r
  x : r ≠ 0 → s'.p k = s.p k ∧ s'.w k = s.w k
  other : ∀ i, i ≠ k → s'.r i = s.r i ∧ s'.p i = s.p i ∧ s'.w i = s.w i
theorem turn_setR {r : Int} : Turn s (s.setR k r) k r := ⟨by simp [FS.setR], fun _ => ⟨rfl, rfl⟩, fun i hi => by simp [FS.setR, hi]⟩
theorem turn_clear : Turn s (s.set k 0 false 0) k 0 := ⟨by simp [FS.set], fun h => absurd rfl h, fun i hi => by simp [FS.set, hi]⟩
theorem share_k (hk : k < 64) (h0 : 0 < s.r k) (h1 : s.r k < 4294967296) : ∃ s', Turn s s' k (s.r k + 1) ∧ ∀ m b sz, FAt m b sz s → ∃ m', Con EE.P 16 [PT b, In k] m (In 0) m' ∧ Upd m b (.cells (fC s') true sz) m' :=
  ⟨_, turn_setR, fun m b sz hb => ⟨_, share_open hb ((isO_k hk).2 (by omega)) (show s.r k < _ by omega) (show 0 ≤ s.r k by omega), .put⟩⟩
theorem drop_k (hk : k < 64) (h0 : 0 < s.r k) (h1 : s.r k < 4294967296) : ∃ s', Turn s s' k (s.r k - 1) ∧ ∀ m b sz, FAt m b sz s → ∃ m', Con EE.P 15 [PT b, In k] m (.tuple [In (s.r k - 1), .agg [In (s.p k), .bool (s.w k)].toArray, In 0].toArray) m' ∧ Upd m b (.cells (fC s') true sz) m' := by
  by_cases h : s.r k = 1
  · rw [h]
    exact ⟨_, turn_clear, fun m b sz hb => ⟨_, drop_last hb ((isO_k hk).2 (by omega)) h, .put⟩⟩
  · exact ⟨_, turn_setR, fun m b sz hb => ⟨_, drop_more hb ((isO_k hk).2 (by omega)) (show s.r k ≤ _ by omega) (show 1 < s.r k by omega), .put⟩⟩
end
/-- Cells that hold a file. -/
def XC (c : Cells) (p : Int) (w : Bool) : Prop := c.n = 2 ∧ c.sub 0 2 = some [In p, .bool w]
theorem Con.raw1 {f : FuncId} {sf : SFunc} {args : List Value} {m : Mem} {v : Value} (hf : fnOf EE.P f = some sf) (hl : args.length ≤ sf.ntmps)
    (h : WXi EE m.next none sf.body (T sf.ntmps (enumV 0 args)) m (Q := ⟨FinX EE.P sf.results m (fun u m' => u = v)⟩)) : ∃ m', Con EE.P f args m v m' := by
  obtain ⟨u, m', h1, rfl⟩ := Con.raw EE_ok hf hl _ h
  exact ⟨m', h1⟩
theorem Nx.mono {m m1 : Mem} {k : Nat} (h : Nx (m.bump k) m1) : Nx m m1 := ⟨by have := h.next; rw [Mem.next_bump] at this; omega, h.fresh, fun y hy => h.old y (by rw [Mem.next_bump]; omega)⟩
theorem RawE.of {m m1 : Mem} {v : Value} (h1 : m.next ≤ m1.next) (h2 : ∀ y, y < m.next → m1.get y = m.get y) : RawE m m1 v (fun u _ => u = v) := ⟨⟨h1, fun y hy e => by rw [h2 y hy, e]⟩, rfl⟩
theorem Low.lt {m : Mem} {n y : Nat} {o : AObj} (h : Low m n) (ho : m.get y = some o) : y < n := by
  rcases Nat.lt_or_ge y n with e | e
  · exact e
  · rw [h y e] at ho; cases ho
theorem GDi_u {b : Bool} {A B : Prop} : GDi undef b (A := ⟨A⟩) (B := ⟨B⟩) = B := propext ⟨fun h => h.2, fun h => ⟨rfl, h⟩⟩
/-- One more is not free. -/
theorem keptL_put {d : Nat → Int} {k : Nat} {x : Int} (h0 : d k = 0) (hx : x ≠ 0) : ∀ n, k < n → (keptL (dset d k x) n).length = (keptL d n).length + 1
  | 0, h => by omega
  | n + 1, h => by
    rw [keptL_succ, keptL_succ, List.length_append, List.length_append]
    by_cases e : n = k
    · subst e
      have e2 : keptL (dset d n x) n = keptL d n := by
        unfold keptL
        refine List.filter_congr fun i hi => ?_
        have : i ≠ n := by have := List.mem_range.1 hi; omega
        unfold dset
        rw [if_neg this]
      have e3 : dset d n x n = x := by unfold dset; rw [if_pos rfl]
      rw [e2, e3, if_pos hx, if_neg (by simpa using h0)]
      rfl
    · have e3 : dset d k x n = d n := by unfold dset; rw [if_neg e]
      rw [keptL_put h0 hx n (by omega), e3]
      omega
theorem dset_dset {d : Nat → Int} {k : Nat} {x y : Int} : dset (dset d k x) k y = dset d k y := by
  funext i
  unfold dset
  split <;> rfl
theorem dset_same {d : Nat → Int} {k : Nat} : dset d k (d k) = d := by
  funext i
  unfold dset
  split
  · rename_i e; rw [e]
  · rfl
/-- One less. -/
theorem keptL_clear {d : Nat → Int} {k n : Nat} (h0 : d k ≠ 0) (hk : k < n) : (keptL (dset d k 0) n).length + 1 = (keptL d n).length := by
  have h := keptL_put (d := dset d k 0) (k := k) (x := d k) (by unfold dset; rw [if_pos rfl]) h0 n hk
  rw [dset_dset, dset_same] at h
  exact h.symm
theorem fd_k {m : Mem} {b sz i : Nat} {d : Nat → Int} (hb : DAt m b sz d) (hd : DOk d) (h : i < 8) : Con EE.P 23 [PT b, In i] m (In (d i - 1)) m := by
  have := fd_in (fd := (i : Int)) hb hd (by omega) (by omega)
  rwa [Int.toNat_natCast] at this
section
variable {m : Mem} {b sz k n : Nat} {d : Nat → Int}
theorem used_k (hk : k < 8) (h : d k ≠ 0) : fdUsed d (k : Int) := ⟨by omega, by omega, h⟩
theorem free_k (hk : k < 8) (h : d k = 0) : fdFree d (k : Int) := ⟨by omega, by omega, h⟩
theorem close_k0 (hb : DAt m b sz d) (hd : DOk d) (h : d k = 0) : Con EE.P 26 [PT b, In k] m (.tuple [In 0, In 103].toArray) m := close_not hb hd fun e => e.2.2 h
theorem close_k1 (hb : DAt m b sz d) (hd : DOk d) (hk : k < 8) (h : d k ≠ 0) : Con EE.P 26 [PT b, In k] m (.tuple [In (d k - 1), In 0].toArray) (m.put b (.cells (dC (dset d k 0)) true sz)) := close_ok hb hd (used_k hk h)
theorem set_k0 (hb : DAt m b sz d) (hd : DOk d) (hn : n < 64) (h : d k ≠ 0) : Con EE.P 28 [PT b, In k, In n] m (In 103) m := set_not hb hd (by omega) (by omega) fun e => h e.2.2
theorem set_k1 (hb : DAt m b sz d) (hk : k < 8) (hn : n < 64) (h : d k = 0) : Con EE.P 28 [PT b, In k, In n] m (In 0) (m.put b (.cells (dC (dset d k (n + 1))) true sz)) := set_ok hb (by omega) (by omega) (free_k hk h)
end
theorem eqvP {b o : Nat} : EE.eqv (.pointer (some ⟨b, o, none⟩)) (.pointer (some ⟨b, o, none⟩)) = true := by
  show vEqL 8 _ _ = true
  simp [vEqL, vEq, vEqN]
theorem CallI.ex2 {f : FuncId} {args : List Value} {m : Mem} {R : Value → Mem → Prop} {K : List Inst → Value → Mem → Prop} (h : ∃ v m', Con EE.P f args m v m' ∧ R v m') (hK : ∀ v m', R v m' → K [⟨.call f args, m, v, m'⟩] v m') : CallI EE [] (.call f args) m (K := ⟨K⟩) := by
  obtain ⟨v, m', h1, h2⟩ := h
  exact CallI.con0 h1 (hK v m' h2)
theorem Upd.fresh {M m' : Mem} {b : Nat} {o : AObj} (h : Upd M b o m') (hb : b < M.next) (hM : Fresh M) : Fresh m' := ⟨by rw [h.next]; exact hM.n64, by rw [h.next]; exact h.low hb hM.none⟩
/-- The list of the numbers that are open, where it lies. -/
def UsedV (M : Mem) (s : FS) (v : Value) : Prop := (usedL s 64 = [] ∧ v = .slice none 0 0) ∨ (usedL s 64 ≠ [] ∧ ∃ N, v = .slice (some ⟨N, 0, none⟩) (usedL s 64).length (usedL s 64).length ∧ M.get N = some (.cells (Cells.ofList ((usedL s 64).map fun k : Nat => In k)) true 1))
theorem UsedV.old {m m' : Mem} {s : FS} {v : Value} (hm : ∀ y o, m.get y = some o → y < m.next) (h : UsedV m s v) (ho : ∀ y, y < m.next → (∃ c, m.get y = some (.cells c true 1)) → m'.get y = m.get y) : UsedV m' s v := by
  rcases h with h | ⟨h1, N, h2, h3⟩
  · exact .inl h
  · exact .inr ⟨h1, N, h2, by rw [ho N (hm _ _ h3) ⟨_, h3⟩, h3]⟩
theorem used_v {m : Mem} {b sz : Nat} {s : FS} (hm : Fresh m) (hb : FAt m b sz s) : ∃ v m', Con EE.P 19 [PT b] m v m' ∧ UsedV m' s v ∧ Nx m m' := by
  by_cases h : usedL s 64 = []
  · exact ⟨_, m, used_none hb h, .inl ⟨h, rfl⟩, Nat.le_refl _, hm, fun _ _ => rfl⟩
  · refine ⟨_, _, used_some hb h, .inr ⟨h, _, rfl, by simp only [Mem.get_bump, Mem.get_put, if_true]⟩, by simp only [Mem.next_bump, Mem.next_put]; omega, Fresh.of_low (by have := hm.n64; simp only [Mem.next_bump, Mem.next_put]; omega) ?_, fun y hy => by simp only [Mem.get_bump, Mem.get_put, ne_new0 hy, if_false]⟩
    refine Low.bump (Low.put (Low.of hm (by simp only [Mem.next_bump, Mem.next_put]; omega)) (by simp only [Mem.next_bump, Mem.next_put]; omega))
theorem same_v {M : Mem} {s s' : FS} {v v' : Value} (h : UsedV M s v) (h' : UsedV M s' v') (he : usedL s' 64 = usedL s 64) : Con EE.P 22 [v', v] M (.bool true) M := by
  rcases h with ⟨h1, rfl⟩ | ⟨h1, N, rfl, h3⟩ <;> rcases h' with ⟨g1, rfl⟩ | ⟨g1, N', rfl, g3⟩
  · exact same_nil
  · rw [he] at g1; exact absurd h1 g1
  · rw [he] at g1; exact absurd g1 h1
  · rw [he] at g3 ⊢
    have hl := usedL_len s 64
    have hn : ∀ j, j < (usedL s 64).length → (Cells.ofList ((usedL s 64).map fun k : Nat => In k)).nth j = some (In ((usedL s 64).getD j 0)) := fun j hj => by
      rw [nth_ofList, List.getElem?_map, List.getElem?_eq_getElem hj, List.getD_eq_getElem?_getD, List.getElem?_eq_getElem hj]
      rfl
    exact same_ok (l := fun j => ((usedL s 64).getD j 0 : Nat)) (by omega) g3 h3 hn hn
theorem usedL_all {s : FS} {j : Nat} (h : ∀ k, k < j → s.r k ≠ 0) : (usedL s j).length = j := by
  induction j with
  | zero => rfl
  | succ j ih => rw [usedL_succ, List.length_append, ih fun k hk => h k (by omega), if_pos (by simpa using h j (by omega))]; rfl
end
end Go.Ab
