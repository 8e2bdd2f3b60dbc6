/- Runs on open terms: slices that have room; memories that go on. -/
import Derived.Test.YtjajeeoahbidlaaTI
namespace Go.Ab
noncomputable section
abbrev PT (b : Nat) : Value := .pointer (some ⟨b, 0, none⟩)
abbrev In (n : Int) : Value := .int .i64 n
section
variable {P : Program} {E : Env}
/-- A memory that goes on: what lies stays. -/
structure Nx (m m' : Mem) : Prop where
  next : m.next ≤ m'.next
  fresh : Fresh m'
  old : ∀ y, y < m.next → m'.get y = m.get y
theorem Fresh.bump {m : Mem} {j : Nat} (h : Fresh m) : Fresh (m.bump j) := ⟨by have := h.n64; rw [Mem.next_bump]; omega, fun y hy => h.none y (by rw [Mem.next_bump] at hy; omega)⟩
theorem Nx.refl {m : Mem} (h : Fresh m) : Nx m m := ⟨Nat.le_refl _, h, fun _ _ => rfl⟩
theorem Nx.trans {m m1 m2 : Mem} (h : Nx m m1) (k : Nx m1 m2) : Nx m m2 := ⟨Nat.le_trans h.next k.next, k.fresh, fun y hy => by rw [k.old y (Nat.lt_of_lt_of_le hy h.next), h.old y hy]⟩
theorem Nx.bump {m m1 : Mem} (h : Nx m m1) (j : Nat) : Nx m (m1.bump j) := ⟨by rw [Mem.next_bump]; exact Nat.le_add_right_of_le h.next, h.fresh.bump, h.old⟩
theorem Nx.of_bump {m m1 : Mem} {k : Nat} (h : Nx (m.bump k) m1) : Nx m m1 := ⟨by have := h.next; rw [Mem.next_bump] at this; omega, h.fresh, fun y hy => h.old y (by rw [Mem.next_bump]; omega)⟩
theorem Nx.keep {m m1 : Mem} (h : Nx m m1) (hm : Fresh m) {y : Nat} {o : AObj} (hy : m.get y = some o) : m1.get y = some o := (h.old y (hm.lt hy)).trans hy
theorem Nx.raw {m m' : Mem} {v : Value} {R : Value → Mem → Prop} (h : Nx m m') (hR : R v m') : RawE m m' v R := ⟨⟨h.next, fun y hy e => by rw [h.old y hy, e]⟩, hR⟩
theorem Low.up {m : Mem} {n k : Nat} (h : Low m n) (hk : n ≤ k) : Low m k := fun b hb => h b (by omega)
theorem RawE.of {m m1 : Mem} {v : Value} (h1 : m.next ≤ m1.next) (h2 : ∀ y, y < m.next → m1.get y = m.get y) : RawE m m1 v (fun u _ => u = v) := ⟨⟨h1, fun y hy e => by rw [h2 y hy, e]⟩, rfl⟩
theorem Con.raw1 (hE : EnvOk E) {f : FuncId} {sf : SFunc} {args : List Value} {m : Mem} {v : Value} (hf : fnOf E.P f = some sf) (hl : args.length ≤ sf.ntmps)
    (h : WXi E m.next none sf.body (T sf.ntmps (enumV 0 args)) m (Q := ⟨FinX E.P sf.results m (fun u _ => u = v)⟩)) : ∃ m', Con E.P f args m v m' := by
  obtain ⟨u, m', h1, h2⟩ := Con.raw hE hf hl _ h
  subst h2
  exact ⟨m', h1⟩
theorem CallI.ex {f : FuncId} {args : List Value} {m : Mem} {v : Value} {R : Mem → Prop} {K : List Inst → Value → Mem → Prop} (h : ∃ m', Con E.P f args m v m' ∧ R m') (hK : ∀ m', R m' → K [⟨.call f args, m, v, m'⟩] v m') : CallI E [] (.call f args) m (K := ⟨K⟩) := by
  obtain ⟨m', h1, h2⟩ := h
  exact CallI.con0 h1 (hK m' h2)
theorem CallI.ex2 {f : FuncId} {args : List Value} {m : Mem} {R : Value → Mem → Prop} {K : List Inst → Value → Mem → Prop} (h : ∃ v m', Con E.P f args m v m' ∧ R v m') (hK : ∀ v m', R v m' → K [⟨.call f args, m, v, m'⟩] v m') : CallI E [] (.call f args) m (K := ⟨K⟩) := by
  obtain ⟨v, m', h1, h2⟩ := h
  exact CallI.con0 h1 (hK v m' h2)
theorem CallI.ex2L {L : List Inst} {f : FuncId} {args : List Value} {m : Mem} {R : Value → Mem → Prop} {K : List Inst → Value → Mem → Prop} (h : ∃ v m', Con E.P f args m v m' ∧ R v m') (hL : ∀ c ∈ L, c.tk ≠ .call f args) (hK : ∀ v m', R v m' → K (⟨.call f args, m, v, m'⟩ :: L) v m') : CallI E L (.call f args) m (K := ⟨K⟩) := by
  obtain ⟨v, m', h1, h2⟩ := h
  exact CallI.con h1 (fun c hc e => absurd e (hL c hc)) (hK v m' h2)
theorem okI_of {α : Type} {x : Option α} {R : α → Prop} {K : α → Prop} (h : ∃ a, x = some a ∧ R a) (hK : ∀ a, R a → K a) : okI x (k := ⟨K⟩) := by
  obtain ⟨a, rfl, h2⟩ := h
  rw [okI_some]; exact hK a h2
theorem GDi_u {b : Bool} {A B : Prop} : GDi undef b (A := ⟨A⟩) (B := ⟨B⟩) = B := propext ⟨fun h => h.2, fun h => ⟨rfl, h⟩⟩
end

/-- A loop over a function, whose call is told by what holds behind it. -/
theorem W_rfnx {E : Env} {n0 : Nat} {f : Operand} {ps : List Tmp} {sa sb : SCode} {n : Nat} {l l' : List (Nat × Value)} {m : Mem} {g : FuncId} {R : Value → Mem → Prop} (first cap : List Value) {Q : Exit → List Value → Mem → Prop} (hn : n0 ≤ m.next)
    (hev : ev f (T n l) = .func (.func g) first.toArray cap.toArray) (hcall : callable E.P g = true)
    (hc : ∃ v m2, Con E.P g (first ++ [.func (.yield m.next) #[] #[]] ++ cap) ((m.put m.next (.loop { state := .ready, pend := none, tmps := T n l, ps := ps, assign := sa, body := sb })).bump 1) v m2 ∧ R v m2)
    (hv : ∀ p ∈ l', RV (m.next + 1) [] (lk l p.1) p.2) (hQ : ∀ v m2, R v m2 → rfnQ m.next Q (T n l') m2) :
    WXi E n0 none (.rfn f ps sa sb) (T n l) m (Q := ⟨Q⟩) := by
  obtain ⟨v, m2, h1, h2⟩ := hc
  exact W_rfn' first cap hn hev hcall rfl rfl h1 hv (hQ v m2 h2)
/-! ### slices that have room -/
def slB : Value → Option Nat
  | .slice (some a) _ _ => some a.block
  | _ => none
/-- A slice of n elements of sz cells each, the cells fl; its block may have room behind them. -/
structure SlV (M : Mem) (sz : Nat) (v : Value) (n : Nat) (fl : List Value) : Prop where
  len : fl.length = n * sz
  at_ : (n = 0 ∧ v = .slice none 0 0) ∨ ∃ b c cs, v = .slice (some ⟨b, 0, none⟩) n c ∧ M.get b = some (.cells cs true sz) ∧ cs.n = c * sz ∧ n ≤ c ∧ ∀ x, x < fl.length → cs.get x = fl.getD x undef
theorem SlV.nil {M : Mem} {sz : Nat} : SlV M sz (.slice none 0 0) 0 [] := ⟨by simp, .inl ⟨rfl, rfl⟩⟩
theorem SlV.keep {M M' : Mem} {sz n : Nat} {v : Value} {fl : List Value} (h : SlV M sz v n fl) (hk : ∀ y o, slB v = some y → M.get y = some o → M'.get y = some o) : SlV M' sz v n fl := by
  refine ⟨h.len, ?_⟩
  rcases h.at_ with h | ⟨b, c, cs, rfl, h2, h3⟩
  · exact .inl h
  · exact .inr ⟨b, c, cs, rfl, hk b _ rfl h2, h3⟩
theorem SlV.nx {M M' : Mem} {sz n : Nat} {v : Value} {fl : List Value} (h : SlV M sz v n fl) (hM : Fresh M) (hn : Nx M M') : SlV M' sz v n fl := h.keep fun _ _ _ hy => hn.keep hM hy
theorem SlV.bump {M : Mem} {sz n : Nat} {v : Value} {fl : List Value} (h : SlV M sz v n fl) (j : Nat) : SlV (M.bump j) sz v n fl := h.keep fun _ _ _ hy => hy
theorem SlV.lt {M : Mem} {sz n : Nat} {v : Value} {fl : List Value} (h : SlV M sz v n fl) (hM : Fresh M) {y : Nat} (hy : slB v = some y) : y < M.next := by
  rcases h.at_ with ⟨_, rfl⟩ | ⟨b, c, cs, rfl, h2, h3⟩
  · cases hy
  · cases hy; exact hM.lt h2
/-- The block, as it lies. -/
theorem SlV.ob {M : Mem} {sz n : Nat} {v : Value} {fl : List Value} (h : SlV M sz v n fl) {y : Nat} (hy : slB v = some y) : ∃ cs, M.get y = some (.cells cs true sz) := by
  rcases h.at_ with ⟨_, rfl⟩ | ⟨b, c, cs, rfl, h2, h3⟩
  · cases hy
  · cases hy; exact ⟨cs, h2⟩
theorem SlV.cons {M : Mem} {sz n : Nat} {v : Value} {fl : List Value} (h : SlV M sz v n fl) (hn : n ≠ 0) : ∃ b c cs, v = .slice (some ⟨b, 0, none⟩) n c ∧ M.get b = some (.cells cs true sz) ∧ cs.n = c * sz ∧ n ≤ c ∧ ∀ x, x < fl.length → cs.get x = fl.getD x undef := by
  rcases h.at_ with h | h
  · exact absurd h.1 hn
  · exact h
theorem SlV.lenA {E : Env} {M m : Mem} {sz n : Nat} {v : Value} {fl : List Value} {ty e : TypeId} (h : SlV M sz v n fl) (hu : E.P.underlying ty = some (.slice e)) : lenA E.P ty v m = some (.int .i64 n) := by
  rcases h.at_ with ⟨rfl, rfl⟩ | ⟨b, c, cs, rfl, h2, h3⟩
  · rw [len_slice hu]
  · rw [len_slice hu]
/-- What an append makes. -/
structure AppR (M : Mem) (sz id : Nat) (v : Value) (n : Nat) (fl : List Value) (k : Nat) (new : List Value) (v' : Value) (M' : Mem) : Prop where
  sl : SlV M' sz v' (n + k) (fl ++ new)
  blk : (slB v' = slB v ∧ slB v' ≠ none) ∨ slB v' = some id
  next : M'.next = M.next
  old : ∀ y, y ≠ id → slB v ≠ some y → M'.get y = M.get y
  low : ∀ y, y ≠ id → M.get y = none → M'.get y = none
section
variable {E : Env}
theorem app_in {ts e sz bytes id k n c b : Nat} {M : Mem} {new : List Value} {x : Value} {cs : Cells} (he : ElemOk E.P ts e sz bytes) (hb : M.get b = some (.cells cs true sz)) (hcs : cs.n = c * sz) (hnc : n + k ≤ c) (hsrc : srcA sz x M = some (new, k)) (hk : k ≠ 0) (hnew : new.length = k * sz) (hone : new.all oneCell = true) :
    appendA E.P id #[ts, ts] (.slice (some ⟨b, 0, none⟩) n c) x M = some (.slice (some ⟨b, 0, none⟩) (n + k) c, M.put b (.cells (cs.write (n * sz) new) true sz)) := by
  obtain ⟨h1, ⟨i, h2, h3, h4⟩, h5, z, h6, h7, h8⟩ := he
  subst h3 h4
  unfold appendA
  simp only [List.getElem?_toArray, List.getElem?_cons_zero, List.getElem?_cons_succ, h1, h2, hsrc]
  rw [if_neg hk, if_neg (by rw [hone]; simp [hnew]), if_pos hnc]
  simp only [hb]
  rw [if_pos (by rw [Nat.zero_add, hcs]; exact Nat.mul_le_mul_right _ hnc), Nat.zero_add]
theorem app_v {ts e sz bytes id k n : Nat} {M : Mem} {fl new : List Value} {v x : Value} (he : ElemOk E.P ts e sz bytes) (h : SlV M sz v n fl) (hsrc : srcA sz x M = some (new, k)) (hk : k ≠ 0) (hnew : new.length = k * sz) (hone : new.all oneCell = true)
    (hroom : k = 1 ∨ ∀ a c, v = .slice a n c → n = c) (hcap : (n + k) * bytes ≤ 2 ^ 40 ∧ n + k ≤ 2 ^ 40) : ∃ v' M', appendA E.P id #[ts, ts] v x M = some (v', M') ∧ AppR M sz id v n fl k new v' M' := by
  obtain ⟨h1, h2⟩ := h
  have hg : ¬ (new.all oneCell = false ∨ new.length ≠ k * sz) := by rw [hone]; simp [hnew]
  have hlen : (fl ++ new).length = (n + k) * sz := by rw [List.length_append, h1, hnew, Nat.add_mul]
  rcases h2 with ⟨rfl, rfl⟩ | ⟨b, c, cs, rfl, k3, k4, k6, k5⟩
  · have hf : apF sz bytes id (.slice none 0 0) (srcA sz x M) M = some (.slice (some ⟨id, 0, none⟩) k k, M.put id (.cells (.ofList new) true sz)) := by
      rw [hsrc]
      simp only [apF]
      rw [if_neg hk, if_neg hg, if_pos (by simpa using hcap)]
    have hfl : fl = [] := List.length_eq_zero_iff.1 (by omega)
    subst hfl
    refine ⟨.slice (some ⟨id, 0, none⟩) k k, M.put id (.cells (.ofList new) true sz), by rw [app_eq he (by rw [hf]; rfl) (Nat.le_refl _), hf], ⟨hlen, .inr ⟨id, k, Cells.ofList new, by rw [Nat.zero_add], by rw [Mem.get_put, if_pos rfl], by simp [ofList_n, hnew], by omega, fun y hy => get_ofList (by simpa using hy)⟩⟩, .inr rfl, rfl, fun y hy _ => by rw [Mem.get_put, if_neg hy], fun y hy e => by rw [Mem.get_put, if_neg hy, e]⟩
  · by_cases hnc : n + k ≤ c
    · refine ⟨_, _, app_in he k3 k4 hnc hsrc hk hnew hone, ⟨hlen, .inr ⟨b, c, cs.write (n * sz) new, rfl, by rw [Mem.get_put, if_pos rfl], by rw [write_n, k4], hnc, fun y hy => ?_⟩⟩, .inl ⟨rfl, by simp [slB]⟩, rfl, fun y _ hy => ?_, fun y _ e => ?_⟩
      · rw [List.length_append] at hy
        rw [get_write]
        by_cases hh : y < fl.length
        · rw [if_neg (by omega), k5 y hh]
          simp only [List.getD_eq_getElem?_getD, List.getElem?_append_left hh]
        · rw [if_pos ⟨by omega, by omega⟩]
          simp only [List.getD_eq_getElem?_getD, List.getElem?_append_right (Nat.le_of_not_lt hh), h1]
      · rw [Mem.get_put, if_neg fun e => hy (by rw [e]; rfl)]
      · rw [Mem.get_put, if_neg (fun e' => by (rw [e', k3] at e; cases e)), e]
    · by_cases hc : n = c
      · subst hc
        have hf : apF sz bytes id (.slice (some ⟨b, 0, none⟩) n n) (srcA sz x M) M = some (.slice (some ⟨id, 0, none⟩) (n + k) (n + k), (M.kill b).put id (.cells (cs.more 0 new) true sz)) := by
          rw [hsrc]
          simp only [apF]
          rw [if_neg hk, if_neg hg, if_pos trivial, k3]
          simp only [apG]
          rw [if_pos ⟨k4.symm, trivial, hcap⟩]
        refine ⟨.slice (some ⟨id, 0, none⟩) (n + k) (n + k), (M.kill b).put id (.cells (cs.more 0 new) true sz), by rw [app_eq he (by rw [hf]; rfl) (Nat.le_refl _), hf], ⟨hlen, .inr ⟨id, n + k, cs.more 0 new, rfl, by rw [Mem.get_put, if_pos rfl], by rw [more_n, k4, hnew, Nat.add_mul], Nat.le_refl _, fun y hy => ?_⟩⟩, .inr rfl, rfl, fun y hy hv => ?_, fun y hy e => ?_⟩
        · rw [List.length_append] at hy
          rw [more_get, k4, ← h1]
          by_cases hh : y < fl.length
          · rw [if_neg (by omega), k5 y hh]
            simp only [List.getD_eq_getElem?_getD, List.getElem?_append_left hh]
          · rw [if_pos ⟨by omega, hy⟩]
            simp only [List.getD_eq_getElem?_getD, List.getElem?_append_right (Nat.le_of_not_lt hh)]
        · rw [Mem.get_put, if_neg hy, Mem.get_kill, if_neg fun e => hv (by rw [e]; rfl)]
        · rw [Mem.get_put, if_neg hy, Mem.get_kill]
          split <;> first | rfl | exact e
      · rcases hroom with hr | hr
        · omega
        · exact absurd (hr _ _ rfl) hc
theorem okI_app {ts e sz bytes id k n : Nat} {M : Mem} {fl new : List Value} {v x : Value} {K : Value × Mem → Prop} (he : ElemOk E.P ts e sz bytes) (h : SlV M sz v n fl) (hsrc : srcA sz x M = some (new, k)) (hk : k ≠ 0) (hnew : new.length = k * sz) (hone : new.all oneCell = true)
    (hroom : k = 1 ∨ ∀ a c, v = .slice a n c → n = c) (hcap : (n + k) * bytes ≤ 2 ^ 40 ∧ n + k ≤ 2 ^ 40) (hK : ∀ v' M', AppR M sz id v n fl k new v' M' → K (v', M')) : okI (appendA E.P id #[ts, ts] v x M) (k := ⟨K⟩) := by
  obtain ⟨v', M', h1, h2⟩ := app_v (id := id) he h hsrc hk hnew hone hroom hcap
  rw [h1, okI_some]
  exact hK v' M' h2
end
/-! ### bits -/
section
variable {P : Program} {ty : TypeId}
theorem bin_shr32 {a : BitVec 32} {b : Int} (hb : 0 ≤ b) : binV P .shr ty (.int .u32 (a.toNat : Int)) (.int .i64 b) = some (.int .u32 (((a >>> b.toNat).toNat : Nat) : Int)) :=
  (hold_shr_u32 (P := P) (ds := []) (t := ty) (x := U a) (y := .int .i64 b) (v := U (a >>> b.toNat)) rfl rfl rfl rfl hb).2
theorem bin_and1 {a : BitVec 32} : binV P .and ty (.int .u32 (a.toNat : Int)) (.int .u32 1) = some (.int .u32 (((a &&& 1#32).toNat : Nat) : Int)) :=
  (hold_and_u32 (P := P) (ds := []) (t := ty) (x := U a) (y := U 1#32) (v := U (a &&& 1#32)) rfl rfl rfl rfl).2
end
/-- Has a mask a bit? -/
def mb (a : BitVec 32) (k : Nat) : Bool := decide (((a >>> k) &&& 1#32).toNat = 1)
theorem mb_le {a : BitVec 32} : (a &&& 1#32).toNat ≤ 1 := by
  rw [BitVec.toNat_and]
  exact Nat.le_trans Nat.and_le_right (by decide)
theorem mb_t0 {a : BitVec 32} {k : Nat} (h : mb a k = true) : decide (((((a >>> k) &&& 1#32).toNat : Nat) : Int) = 0) = false := by
  have : ((a >>> k) &&& 1#32).toNat = 1 := by unfold mb at h; first | exact of_decide_eq_true h | exact of_decide_eq_false h
  rw [this]; rfl
theorem mb_t1 {a : BitVec 32} {k : Nat} (h : mb a k = true) : decide (((((a >>> k) &&& 1#32).toNat : Nat) : Int) = 1) = true := by
  have : ((a >>> k) &&& 1#32).toNat = 1 := by unfold mb at h; first | exact of_decide_eq_true h | exact of_decide_eq_false h
  rw [this]; rfl
theorem mb_f {a : BitVec 32} {k : Nat} (h : mb a k = false) : ((a >>> k) &&& 1#32).toNat = 0 := by
  have h1 : ¬ ((a >>> k) &&& 1#32).toNat = 1 := by unfold mb at h; first | exact of_decide_eq_true h | exact of_decide_eq_false h
  have := mb_le (a := a >>> k)
  omega
theorem mb_f0 {a : BitVec 32} {k : Nat} (h : mb a k = false) : decide (((((a >>> k) &&& 1#32).toNat : Nat) : Int) = 0) = true := by
  rw [mb_f h]; rfl
theorem mb_f1 {a : BitVec 32} {k : Nat} (h : mb a k = false) : decide (((((a >>> k) &&& 1#32).toNat : Nat) : Int) = 1) = false := by
  rw [mb_f h]; rfl
end
end Go.Ab
