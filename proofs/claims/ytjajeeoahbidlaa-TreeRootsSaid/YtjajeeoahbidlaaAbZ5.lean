/- An interpreter of our own: loops on symbolic values: states whose dead parts are any values; pieces of a run. -/
import Derived.Test.YtjajeeoahbidlaaAbZ4
namespace Go.Ab
noncomputable section
variable {P : Program} {σ σ' : Sig} {n0 : Nat}

/-! ### values from one naming to the next -/
/-- Who stands to the first value stands to the second, under another naming; blocks below n0 are the same. -/
def VV (σ σ' : Sig) (n0 : Nat) (v v' : Value) : Prop := ∀ (ρ ρ' : Rho) (w : Value), (∀ b, b < n0 → ρ' b = ρ b) → VRel σ ρ v w → VRel σ' ρ' v' w
/-- A value that no naming turns. -/
def Stable (n0 : Nat) (v : Value) : Prop := ∀ σ σ', VV σ σ' n0 v v

theorem Stable.vv {v : Value} (h : Stable n0 v) : VV σ σ' n0 v v := h σ σ'
theorem stable_int (k : IntKind) (n : Int) : Stable n0 (.int k n) := fun _ _ _ _ _ _ h => by cases h; exact .int _ _
theorem stable_bool (b : Bool) : Stable n0 (.bool b) := fun _ _ _ _ _ _ h => by cases h; exact .bool _
theorem stable_string (b : ByteArray) : Stable n0 (.string b) := fun _ _ _ _ _ _ h => by cases h; exact .string _
theorem stable_undef : Stable n0 undef := fun _ _ _ _ _ _ h => by
  obtain ⟨cs, rfl, hl⟩ := h.tuple_inv
  have : cs = #[] := by
    have := hl.1
    simp at this
    exact Array.size_eq_zero_iff.1 (by simpa using this.symm)
  subst this
  exact VRel.undef _
theorem stable_data {v : Value} (h : dataB v = true) : Stable n0 v := by
  cases v <;> first | (cases h; done) | exact stable_int _ _ | exact stable_bool _ | exact stable_string _
theorem stable_ptr {b o : Nat} (hb : b < n0) : Stable n0 (.pointer (some ⟨b, o, none⟩)) := fun _ _ ρ ρ' _ hk h => by
  obtain ⟨b', off, sl, h1, rfl⟩ := h.ptr_inv
  exact .ptr ((hk b hb).trans h1)
theorem stable_nilPtr : Stable n0 (.pointer none) := fun _ _ _ _ _ _ h => by cases h; exact .nilPtr
theorem stable_nilFunc : Stable n0 .nilFunc := fun _ _ _ _ _ _ h => by cases h; exact .nilFunc
theorem stable_nilIface : Stable n0 .nilIface := fun _ _ _ _ _ _ h => by cases h; exact .nilIface
theorem stable_nilSlice : Stable n0 (.slice none 0 0) := fun _ _ _ _ _ _ h => by cases h; exact .nilSlice
theorem stable_slice {b o n c : Nat} (hb : b < n0) : Stable n0 (.slice (some ⟨b, o, none⟩) n c) := fun _ _ ρ ρ' _ hk h => by
  cases h with
  | slice h1 hc hn => exact .slice ((hk b hb).trans h1) hc hn
theorem stable_yield {l : Nat} (hb : l < n0) : Stable n0 (.func (.yield l) #[] #[]) := fun _ _ ρ ρ' _ hk h => by
  cases h with
  | yield h1 => exact .yield ((hk l hb).trans h1)
  | func hy => exact absurd rfl (hy _)
theorem stable_arr {cs : Array Value} (h : ∀ v ∈ cs.toList, Stable n0 v) (i : Nat) (hi : i < cs.size) : Stable n0 (cs.getD i undef) := by
  refine h _ ?_
  rw [getD_toList, List.getD_eq_getElem?_getD, List.getElem?_eq_getElem (by simpa using hi)]
  exact List.getElem_mem _
theorem stable_func {f : FuncId} {fs cs : Array Value} (h1 : ∀ v ∈ fs.toList, Stable n0 v) (h2 : ∀ v ∈ cs.toList, Stable n0 v) : Stable n0 (.func (.func f) fs cs) := fun σ σ' ρ ρ' _ hk h => by
  cases h with
  | func hy hm k1 k2 k3 k4 => exact .func hy hm k1 (fun i hi => stable_arr h1 i hi σ σ' ρ ρ' _ hk (k2 i hi)) k3 fun i hi => stable_arr h2 i hi σ σ' ρ ρ' _ hk (k4 i hi)
theorem stable_tuple {cs : Array Value} (h1 : ∀ v ∈ cs.toList, Stable n0 v) : Stable n0 (.tuple cs) := fun σ σ' ρ ρ' _ hk h => by
  cases h with
  | tuple k1 k2 => exact .tuple k1 fun i hi => stable_arr h1 i hi σ σ' ρ ρ' _ hk (k2 i hi)
theorem stable_agg {cs : Array Value} (h1 : ∀ v ∈ cs.toList, Stable n0 v) : Stable n0 (.agg cs) := fun σ σ' ρ ρ' _ hk h => by
  cases h with
  | agg k1 k2 => exact .agg k1 fun i hi => stable_arr h1 i hi σ σ' ρ ρ' _ hk (k2 i hi)
theorem stable_plain {v : Value} (h : plain v = true) : Stable n0 v := fun σ σ' ρ ρ' w hk hv => by
  obtain rfl := plain_eq h hv
  exact plain_refl ρ' h

/-- A symbolic value and what it stands for. -/
theorem vv_er {ds : List Value} {ts : List Tie} (hd : ∀ d ∈ ds, dataB d = true) {v : Value} (h : plainL ds.length 6 v = true) : VV (sigOf ds ts) σ' n0 v (er ds v) := fun ρ ρ' w hk hv => by
  rw [er_eq 6 _ _ h hv]
  exact plain_refl ρ' (er_plain hd 6 v h)
/-- A symbolic value's new name. -/
theorem vv_leaf {ds ds' : List Value} {ts ts' : List Tie} {i j : Nat} (h : ds.getD i undef = ds'.getD j undef) : VV (sigOf ds ts) (sigOf ds' ts') n0 (leaf i) (leaf j) := fun ρ ρ' w hk hv => by
  cases hv with
  | sym hs =>
    obtain ⟨nm, fs, cs, e, h1, h2⟩ := hs
    cases e
    have e1 : leafNo #[.int .i64 (i : Int)] = i := by simp [leafNo]
    rw [e1] at h1
    refine .sym ⟨_, _, _, rfl, ?_, h2⟩
    have e2 : leafNo #[.int .i64 (j : Int)] = j := by simp [leafNo]
    rw [e2, ← h]
    exact h1
  | func _ hm => exact absurd rfl (hm _)
/-- What a value stands for, by name. -/
theorem vv_name {ds' : List Value} {ts' : List Tie} (hd : ∀ d ∈ ds', dataB d = true) {v v' : Value} (hv : dataB v = true) (h : er ds' v' = v) (hp : plainL ds'.length 6 v' = true) : VV σ (sigOf ds' ts') n0 v v' := fun ρ ρ' w hk hr => by
  rw [dataB_eq hv hr, ← h]
  exact rel_er hd 6 v' hp

def LVV (σ σ' : Sig) (n0 : Nat) : List Value → List Value → Prop
  | [], [] => True
  | a :: l, b :: k => VV σ σ' n0 a b ∧ LVV σ σ' n0 l k
  | _, _ => False
theorem LVV.rel {ρ ρ' : Rho} (hk : ∀ b, b < n0 → ρ' b = ρ b) : ∀ {a b v : List Value}, LVV σ σ' n0 a b → LRel σ ρ a v → LRel σ' ρ' b v
  | [], [], v, _, hv => by
    have := hv.1
    cases v with
    | nil => exact LRel.nil _
    | cons => simp at this
  | a :: l, b :: k, v, h, hv => by
    cases v with
    | nil => have := hv.1; simp at this
    | cons x v => exact LRel.cons (h.1 ρ ρ' x hk hv.head) (h.2.rel hk hv.tail)
  | [], _ :: _, _, h, _ => h.elim
  | _ :: _, [], _, h, _ => h.elim

/-- The same of a block. -/
def OVV (σ σ' : Sig) (n0 : Nat) : AObj → AObj → Prop
  | .cells c rw sz, .cells c' rw' sz' => rw = rw' ∧ sz = sz' ∧ LVV σ σ' n0 c.list c'.list
  | .loop r, .loop r' => r.state = r'.state ∧ r.pend = r'.pend ∧ r.ps = r'.ps ∧ r.assign = r'.assign ∧ r.body = r'.body ∧ LVV σ σ' n0 r.tmps r'.tmps
  | .strIter s p, .strIter s' p' => s = s' ∧ p = p'
  | _, _ => False

theorem OVV.rel {ρ ρ' : Rho} (hk : ∀ b, b < n0 → ρ' b = ρ b) {w : World} {x : Nat × Nat × Nat} {o o' : AObj} (h : OVV σ σ' n0 o o') (hR : ORel σ ρ w x o) : ORel σ' ρ' w x o' ∧ wr o = wr o' := by
  cases o with
  | cells c rw sz =>
    cases o' with
    | cells c' rw' sz' =>
      obtain ⟨rfl, rfl, h⟩ := h
      obtain ⟨cs', t, fz, g1, g2, g3, g4⟩ := hR
      have hlen : c.list.length = c'.list.length := by
        have : ∀ {a b : List Value}, LVV σ σ' n0 a b → a.length = b.length := by
          intro a
          induction a with
          | nil => intro b h; cases b with
            | nil => rfl
            | cons => exact h.elim
          | cons a l ih => intro b h; cases b with
            | nil => exact h.elim
            | cons b k => simp [ih h.2]
        exact this h
      refine ⟨⟨cs', t, fz, g1, hlen ▸ g2, g3, fun i hi => ?_⟩, rfl⟩
      have : ∀ {a b : List Value}, LVV σ σ' n0 a b → ∀ i, i < a.length → VV σ σ' n0 (a.getD i undef) (b.getD i undef) := by
        intro a
        induction a with
        | nil => intro b _ i hi; simp at hi
        | cons a l ih =>
          intro b h i hi
          cases b with
          | nil => exact h.elim
          | cons b k =>
            cases i with
            | zero => simpa using h.1
            | succ i => simpa using ih h.2 i (by simpa using hi)
      exact this h i (hlen ▸ hi) ρ ρ' _ hk (g4 i (hlen ▸ hi))
    | _ => exact h.elim
  | loop r =>
    cases o' with
    | loop r' =>
      obtain ⟨h1, h2, h3, h4, h5, h6⟩ := h
      obtain ⟨rr, g1, g2, g3, g4, g5, g6, g7⟩ := hR
      exact ⟨⟨rr, g1, g2.trans h1, h2 ▸ g3, h6.rel hk g4, g5.trans h3, h4 ▸ g6, h5 ▸ g7⟩, rfl⟩
    | _ => exact h.elim
  | strIter s p =>
    cases o' with
    | strIter s' p' =>
      obtain ⟨rfl, rfl⟩ := h
      exact ⟨hR, rfl⟩
    | _ => exact h.elim
  | map es rw => cases o' <;> exact h.elim
  | frz tag => cases o' <;> exact h.elim

abbrev Blocks := List (Nat × AObj)
def trB : Blocks → Tr AObj
  | [] => .leaf
  | (n, o) :: l => Tr.put n (trB l) n (some o)
theorem trB_mem : ∀ {l : Blocks} {n : Nat} {o : AObj}, (trB l).get n = some o → (n, o) ∈ l
  | [], n, o, h => by rw [trB, Tr.get_leaf] at h; cases h
  | (a, c) :: l, n, o, h => by
    rw [trB, Tr.get_put _ _ _ _ _ (Nat.le_refl _)] at h
    split at h
    · rename_i e
      simp only [Option.some.injEq] at h
      subst e h
      exact List.mem_cons_self
    · exact List.mem_cons_of_mem _ (trB_mem h)
/-- The memory of these blocks. -/
def memB (n : Nat) (L : Blocks) : Mem := ⟨n, trB L⟩

/-- All of these blocks, looked at anew. -/
def MVV (σ σ' : Sig) (n0 : Nat) (m : Mem) : Blocks → Prop
  | [] => True
  | (b, o) :: l => (b < n0 ∧ ∃ o1, m.get b = some o1 ∧ OVV σ σ' n0 o1 o) ∧ MVV σ σ' n0 m l
theorem MVV.at_ {m : Mem} : ∀ {L : Blocks}, MVV σ σ' n0 m L → ∀ b o, (b, o) ∈ L → b < n0 ∧ ∃ o1, m.get b = some o1 ∧ OVV σ σ' n0 o1 o
  | [], _, b, o, h => by cases h
  | (a, c) :: l, ⟨h1, h2⟩, b, o, h => by
    rcases List.mem_cons.1 h with e | h
    · cases e; exact h1
    · exact h2.at_ b o h

theorem view_b {rd : Option Nat} {t1 t2 : List Value} {m1 : Mem} {L : Blocks} {n2 : Nat} (h64 : 64 ≤ n0) (hn : n0 ≤ n2) (ht : LVV σ σ' n0 t1 t2) (hm : MVV σ σ' n0 m1 L) (hrd : ∀ b, rd = some b → b < n0) : View σ σ' n0 rd t1 m1 t2 (memB n2 L) := by
  intro ρ w ts l hR hts hl
  have hk : ∀ b, b < n0 → (fun b => if b < n0 then ρ b else none) b = ρ b := fun b hb => by simp [hb]
  have key : ∀ b o, (memB n2 L).get b = some o → b < n0 ∧ ∃ o1, m1.get b = some o1 ∧ OVV σ σ' n0 o1 o := fun b o hb => hm.at_ b o (trB_mem hb)
  refine ⟨fun b => if b < n0 then ρ b else none, ⟨fun b hb => ?_, fun g hg => ?_, fun b o x hb hx => ?_, fun b1 b2 o1 o2 x1 x2 hne g1 g2 k1 k2 hw => ?_, fun b hb => ?_⟩, ht.rel hk hts, ?_, hk, fun b o x hb hx => ?_⟩
  · have hb : n2 ≤ b := hb
    simp; omega
  · have : g < n0 := by omega
    simp only [this, if_true]
    exact hR.glob g hg
  · obtain ⟨h1, o1, h2, h3⟩ := key b o hb
    simp only [h1, if_true] at hx
    exact (h3.rel hk (hR.obj b o1 x h2 hx)).1
  · obtain ⟨h1, p1, h2, h3⟩ := key b1 o1 g1
    obtain ⟨j1, p2, j2, j3⟩ := key b2 o2 g2
    simp only [h1, if_true] at k1
    simp only [j1, if_true] at k2
    exact hR.inj b1 b2 p1 p2 x1 x2 hne h2 j2 k1 k2 ((h3.rel hk (hR.obj b1 p1 x1 h2 k1)).2.trans hw)
  · have hb : n2 ≤ b := hb
    cases hg : (memB n2 L).get b with
    | none => rfl
    | some o => have := (key b o hg).1; omega
  · cases rd with
    | none => cases l with
      | none => trivial
      | some l => exact hl.elim
    | some b =>
      cases l with
      | none => exact hl.elim
      | some l =>
        obtain ⟨off, sl, hx⟩ := hl
        exact ⟨off, sl, by simp only [hrd b rfl, if_true]; exact hx⟩
  · obtain ⟨h1, o1, h2, h3⟩ := key b o hb
    simp only [h1, if_true] at hx
    exact ⟨b, o1, x, h2, hx, rfl, (h3.rel hk (hR.obj b o1 x h2 hx)).2⟩

/-! ### what a run came to, in pieces -/
abbrev R := Option (Out × Mem)
def outX : R → Option Exit
  | some (.exit x _, _) => some x
  | _ => none
def outT : R → List Value
  | some (.exit _ t, _) => t
  | _ => []
def outM : R → Mem
  | some (_, m) => m
  | none => m0
theorem run_out {r : R} {x : Exit} (h : outX r = some x) : r = some (.exit x (outT r), outM r) := by
  unfold outX at h
  split at h
  · simp only [Option.some.injEq] at h
    subst h
    rfl
  · cases h

theorem TOk.of_out {E : Env} (hE : Sure σ E) {n : Nat} {rd : Option Nat} {c : SCode} {t : List Value} {m : Mem} {x : Exit} (hn : n0 ≤ m.next) (h : outX (run E n (.code rd c t) m) = some x) :
    TOk σ σ E.P n0 rd c t m x (outT (run E n (.code rd c t) m)) (outM (run E n (.code rd c t) m)) := .of_run hE hn (run_out h)

/-- Some steps into a sequence. -/
def adv (E : Env) (n : Nat) (rd : Option Nat) : Nat → SCode → List Value → Mem → Option (SCode × List Value × Mem)
  | 0, c, t, m => some (c, t, m)
  | k + 1, .seq a b, t, m => match run E n (.code rd a t) m with
    | some (.exit .normal t1, m1) => adv E n rd k b t1 m1
    | _ => none
  | k + 1, .scope b, t, m => adv E n rd k b t m
  | k + 1, .cond c a b, t, m => match ev c t with
    | .bool true => adv E n rd k a t m
    | .bool false => adv E n rd k b t m
    | _ => none
  | _, _, _, _ => none

theorem run_next {E : Env} (hg : ∀ f p args m v m', E.prim f = some p → p args m = some (v, m') → Grow m m') {n : Nat} {tk : Task} {m m' : Mem} {o : Out} (h : run E n tk m = some (o, m')) : m.next ≤ m'.next := (run_grow hg n tk m o m' h).1

theorem adv_ok {E : Env} (hE : Sure σ E) {n : Nat} {rd : Option Nat} {x : Exit} {t2 : List Value} {m2 : Mem} (hx : ∀ l, x ≠ .goto l) : ∀ (k : Nat) {c c' : SCode} {t t' : List Value} {m m' : Mem}, n0 ≤ m.next → adv E n rd k c t m = some (c', t', m') →
    (n0 ≤ m'.next → TOk σ σ' E.P n0 rd c' t' m' x t2 m2) → TOk σ σ' E.P n0 rd c t m x t2 m2
  | 0, c, c', t, t', m, m', hn, h, hk => by
    simp only [adv, Option.some.injEq, Prod.mk.injEq] at h
    obtain ⟨rfl, rfl, rfl⟩ := h
    exact hk hn
  | k + 1, c, c', t, t', m, m', hn, h, hk => by
    cases c with
    | seq a b =>
      simp only [adv] at h
      split at h
      · rename_i t1 m1 hr
        have h1 := run_next hE.grow hr
        exact TOk.seq (TOk.of_run hE hn hr) (adv_ok hE hx k (Nat.le_trans hn h1) h hk)
      · cases h
    | scope b =>
      simp only [adv] at h
      exact TOk.scope (adv_ok hE hx k hn h hk) hx
    | cond c a b =>
      simp only [adv] at h
      split at h
      · rename_i he
        exact TOk.cond true he (by simpa using adv_ok hE hx k hn h hk)
      · rename_i he
        exact TOk.cond false he (by simpa using adv_ok hE hx k hn h hk)
      · cases h
    | _ => simp [adv] at h

theorem PureOk.of_t {ds ds' : List Value} {ts ts' : List Tie} (hd : ∀ d ∈ ds, dataB d = true) {f : FuncId} {args : List Value} {v : Value} {m' : Mem} (h : TCall (sigOf ds ts) (sigOf ds' ts') P n0 f args m0 v m') (ha : args.all (plainL ds.length 6) = true) (hv : plainL ds'.length 6 v = true) :
    PureOk P f (args.map (er ds)) (er ds' v) := by
  intro w
  refine (h ρ0 w (args.map (er ds)).toArray (m0_rel w) (by simpa using er_args hd ha)).mono ?_
  rintro e w' ⟨v', ρ', rfl, hr, hp, _⟩
  exact ⟨by rw [er_eq 6 _ _ hv hr]; rfl, hp.below m0_sealed⟩

/-! ### small change for views -/
theorem vv_val {ds : List Value} {ts : List Tie} {i : Nat} {v : Value} (h : ds.getD i undef = v) : VV (sigOf ds ts) σ' n0 (leaf i) v := fun ρ ρ' w hk hv => by
  cases hv with
  | sym hs =>
    obtain ⟨nm, fs, cs, e, h1, h2⟩ := hs
    cases e
    have e1 : leafNo #[.int .i64 (i : Int)] = i := by simp [leafNo]
    rw [e1, h] at h1
    subst h1
    exact dataB_self h2
  | func _ hm => exact absurd rfl (hm _)
theorem vv_nm {ds' : List Value} {ts' : List Tie} {j : Nat} {v : Value} (hv : dataB v = true) (h : ds'.getD j undef = v) : VV σ (sigOf ds' ts') n0 v (leaf j) := fun ρ ρ' w hk hr => by
  rw [dataB_eq hv hr, ← h]
  have e2 : leafNo #[.int .i64 (j : Int)] = j := by simp [leafNo]
  exact .sym ⟨_, _, _, rfl, by rw [e2], by rw [h]; exact hv⟩
theorem vv_same {ds ds' : List Value} {ts ts' : List Tie} (hd : ∀ d ∈ ds', dataB d = true) {v : Value} (h : plainL ds.length 6 v = true) (h' : plainL ds'.length 6 v = true) (e : er ds v = er ds' v) : VV (sigOf ds ts) (sigOf ds' ts') n0 v v := fun ρ ρ' w hk hr => by
  rw [er_eq 6 _ _ h hr]
  show VRel _ _ _ (er ds v)
  rw [e]
  exact rel_er hd 6 v h'
theorem ovv_cells {l l' : List Value} {rw_ : Bool} {sz : Nat} (h : LVV σ σ' n0 l l') : OVV σ σ' n0 (.cells (.ofList l) rw_ sz) (.cells (.ofList l') rw_ sz) := ⟨rfl, rfl, by rw [Cells.ofList_list, Cells.ofList_list]; exact h⟩
theorem ovv_loop {st : LoopState} {pd : Option Exit} {ps : List Tmp} {a b : SCode} {l l' : List Value} (h : LVV σ σ' n0 l l') : OVV σ σ' n0 (.loop ⟨st, pd, l, ps, a, b⟩) (.loop ⟨st, pd, l', ps, a, b⟩) := ⟨rfl, rfl, rfl, rfl, rfl, h⟩

/-- No number from n0 on. -/
def idsLt (n0 : Nat) : Nat → Value → Bool
  | _, .bool _ | _, .int .. | _, .float .. | _, .complex .. | _, .string _ | _, .nilFunc | _, .nilIface | _, .map none | _, .pointer none => true
  | _, .func (.method _) _ _ => true
  | _, .pointer (some ⟨b, _, none⟩) => decide (b < n0)
  | _, .slice none _ _ => true
  | _, .slice (some ⟨b, _, none⟩) _ _ => decide (b < n0)
  | _, .map (some b) => decide (b < n0)
  | _, .func (.yield l) fs cs => decide (l < n0) && fs.size == 0 && cs.size == 0
  | n + 1, .func (.func _) fs cs => fs.toList.all (idsLt n0 n) && cs.toList.all (idsLt n0 n)
  | n + 1, .iface _ v => idsLt n0 n v
  | n + 1, .agg cs => cs.toList.all (idsLt n0 n)
  | n + 1, .tuple cs => cs.toList.all (idsLt n0 n)
  | _, _ => false
theorem vv_refl : ∀ (n : Nat) (v : Value), idsLt n0 n v = true → VV σ σ n0 v v := by
  intro n
  induction n with
  | zero =>
    intro v h ρ ρ' w hk hv
    unfold idsLt at h
    split at h <;> first
      | (cases hv; constructor; done)
      | (cases h; done)
      | (rename_i hn; cases hn; done)
      | skip
    · cases hv with
      | sym hs => exact .sym hs
      | func _ hm => exact absurd rfl (hm _)
    · cases hv with
      | ptr hb => exact .ptr ((hk _ (by simpa using h)).trans hb)
    · cases hv with
      | slice hb hc hn => exact .slice ((hk _ (by simpa using h)).trans hb) hc hn
    · cases hv with
      | map hb => exact .map ((hk _ (by simpa using h)).trans hb)
    · simp only [Bool.and_eq_true, beq_iff_eq, decide_eq_true_eq] at h
      cases hv with
      | yield hb => exact .yield ((hk _ h.1.1).trans hb)
      | func hy => exact absurd rfl (hy _)
  | succ n ih =>
    intro v h ρ ρ' w hk hv
    have arr : ∀ (cs cs' : Array Value), (∀ x ∈ cs.toList, idsLt n0 n x = true) → (∀ i, i < cs.size → VRel σ ρ (cs.getD i undef) (cs'.getD i undef)) → ∀ i, i < cs.size → VRel σ ρ' (cs.getD i undef) (cs'.getD i undef) := by
      intro cs cs' hp h2 i hi
      refine ih _ (hp _ ?_) ρ ρ' _ hk (h2 i hi)
      rw [getD_toList, List.getD_eq_getElem?_getD, List.getElem?_eq_getElem (by simpa using hi)]
      exact List.getElem_mem _
    unfold idsLt at h
    split at h <;> first
      | (cases hv; constructor; done)
      | (cases h; done)
      | skip
    · cases hv with
      | sym hs => exact .sym hs
      | func _ hm => exact absurd rfl (hm _)
    · cases hv with
      | ptr hb => exact .ptr ((hk _ (by simpa using h)).trans hb)
    · cases hv with
      | slice hb hc hn => exact .slice ((hk _ (by simpa using h)).trans hb) hc hn
    · cases hv with
      | map hb => exact .map ((hk _ (by simpa using h)).trans hb)
    · simp only [Bool.and_eq_true, beq_iff_eq, decide_eq_true_eq] at h
      cases hv with
      | yield hb => exact .yield ((hk _ h.1.1).trans hb)
      | func hy => exact absurd rfl (hy _)
    · rename_i hn
      cases hn
      simp only [Bool.and_eq_true, List.all_eq_true] at h
      cases hv with
      | func hy hm k1 k2 k3 k4 => exact .func hy hm k1 (arr _ _ h.1 k2) k3 (arr _ _ h.2 k4)
    · rename_i hn
      cases hn
      cases hv with
      | iface _ k => exact .iface _ (ih _ h ρ ρ' _ hk k)
    · rename_i hn
      cases hn
      simp only [List.all_eq_true] at h
      cases hv with
      | agg k1 k2 => exact .agg k1 (arr _ _ h k2)
    · rename_i hn
      cases hn
      simp only [List.all_eq_true] at h
      cases hv with
      | tuple k1 k2 => exact .tuple k1 (arr _ _ h k2)
theorem lvv_refl : ∀ {l : List Value}, l.all (idsLt n0 6) = true → LVV σ σ n0 l l
  | [], _ => trivial
  | a :: l, h => by
    simp only [List.all_cons, Bool.and_eq_true] at h
    exact ⟨vv_refl 6 a h.1, lvv_refl h.2⟩
def oLt (n0 : Nat) : AObj → Bool
  | .cells c _ _ => c.list.all (idsLt n0 6)
  | .loop r => r.tmps.all (idsLt n0 6)
  | .strIter _ _ => true
  | _ => false
theorem ovv_refl {o : AObj} (h : oLt n0 o = true) : OVV σ σ n0 o o := by
  cases o with
  | cells c rw sz => exact ⟨rfl, rfl, lvv_refl h⟩
  | loop r => exact ⟨rfl, rfl, rfl, rfl, rfl, lvv_refl h⟩
  | strIter s p => exact ⟨rfl, rfl⟩
  | map es rw => cases h
  | frz tag => cases h
/-- The same blocks and no more. -/
def mSame (n0 : Nat) : Blocks → Bool
  | [] => true
  | (b, o) :: l => decide (b < n0) && oLt n0 o && mSame n0 l
def getAll (m : Mem) (L : Blocks) : List (Option AObj) := L.map fun e => m.get e.1
def objs (L : Blocks) : List (Option AObj) := L.map fun e => some e.2
theorem mvv_refl {m : Mem} : ∀ {L : Blocks}, mSame n0 L = true → getAll m L = objs L → MVV σ σ n0 m L
  | [], _, _ => trivial
  | (b, o) :: l, h, hg => by
    simp only [mSame, Bool.and_eq_true, decide_eq_true_eq] at h
    simp only [getAll, objs, List.map_cons, List.cons.injEq] at hg
    exact ⟨⟨h.1.1, o, hg.1, ovv_refl h.1.2⟩, mvv_refl h.2 hg.2⟩
/-- The same state, with these blocks alone. -/
theorem view_id {rd : Option Nat} {t1 t2 : List Value} {m1 : Mem} {L : Blocks} {n2 : Nat} (h64 : 64 ≤ n0) (hn : n0 ≤ n2) (ht : t1 = t2) (hi : (t2.all (idsLt n0 6) && mSame n0 L) = true) (hg : getAll m1 L = objs L) (hrd : ∀ b, rd = some b → b < n0) : View σ σ n0 rd t1 m1 t2 (memB n2 L) := by
  subst ht
  rw [Bool.and_eq_true] at hi
  exact view_b h64 hn (lvv_refl hi.1) (mvv_refl hi.2 hg) hrd

/-- No number from n0 on, no symbolic value. -/
def stab (n0 : Nat) : Nat → Value → Bool
  | _, .bool _ | _, .int .. | _, .string _ | _, .nilFunc | _, .nilIface | _, .pointer none => true
  | _, .pointer (some ⟨b, _, none⟩) => decide (b < n0)
  | _, .slice none 0 0 => true
  | _, .slice (some ⟨b, _, none⟩) _ _ => decide (b < n0)
  | _, .func (.yield l) fs cs => decide (l < n0) && fs.size == 0 && cs.size == 0
  | n + 1, .func (.func _) fs cs => fs.toList.all (stab n0 n) && cs.toList.all (stab n0 n)
  | n + 1, .agg cs => cs.toList.all (stab n0 n)
  | n + 1, .tuple cs => cs.toList.all (stab n0 n)
  | _, _ => false
theorem stable_of : ∀ {n : Nat} {v : Value}, stab n0 n v = true → Stable n0 v
  | 0, v, h => by
    unfold stab at h
    split at h <;> first
      | exact stable_bool _
      | exact stable_int _ _
      | exact stable_string _
      | exact stable_nilFunc
      | exact stable_nilIface
      | exact stable_nilPtr
      | exact stable_nilSlice
      | exact stable_ptr (by simpa using h)
      | exact stable_slice (by simpa using h)
      | (rename_i hn; cases hn; done)
      | (cases h; done)
      | skip
    simp only [Bool.and_eq_true, beq_iff_eq, decide_eq_true_eq] at h
    obtain ⟨⟨h1, h2⟩, h3⟩ := h
    obtain rfl := Array.size_eq_zero_iff.1 h2
    obtain rfl := Array.size_eq_zero_iff.1 h3
    exact stable_yield h1
  | n + 1, v, h => by
    unfold stab at h
    split at h <;> first
      | exact stable_bool _
      | exact stable_int _ _
      | exact stable_string _
      | exact stable_nilFunc
      | exact stable_nilIface
      | exact stable_nilPtr
      | exact stable_nilSlice
      | exact stable_ptr (by simpa using h)
      | exact stable_slice (by simpa using h)
      | (cases h; done)
      | skip
    · simp only [Bool.and_eq_true, beq_iff_eq, decide_eq_true_eq] at h
      obtain ⟨⟨h1, h2⟩, h3⟩ := h
      obtain rfl := Array.size_eq_zero_iff.1 h2
      obtain rfl := Array.size_eq_zero_iff.1 h3
      exact stable_yield h1
    · rename_i hn
      cases hn
      simp only [Bool.and_eq_true, List.all_eq_true] at h
      exact stable_func (fun v hv => stable_of (h.1 v hv)) fun v hv => stable_of (h.2 v hv)
    · rename_i hn
      cases hn
      simp only [List.all_eq_true] at h
      exact stable_agg fun v hv => stable_of (h v hv)
    · rename_i hn
      cases hn
      simp only [List.all_eq_true] at h
      exact stable_tuple fun v hv => stable_of (h v hv)

/-- Blocks and blocks. -/
def LOVV (σ σ' : Sig) (n0 : Nat) : Blocks → Blocks → Prop
  | [], [] => True
  | (b, o) :: l, (b', o') :: k => (b = b' ∧ b < n0 ∧ OVV σ σ' n0 o o') ∧ LOVV σ σ' n0 l k
  | _, _ => False
theorem mvv_of {m : Mem} : ∀ {L L' : Blocks}, getAll m L = objs L → LOVV σ σ' n0 L L' → MVV σ σ' n0 m L'
  | [], [], _, _ => trivial
  | (b, o) :: l, (b', o') :: k, hg, h => by
    simp only [getAll, objs, List.map_cons, List.cons.injEq] at hg
    obtain ⟨⟨rfl, h2, h3⟩, h4⟩ := h
    exact ⟨⟨h2, o, hg.1, h3⟩, mvv_of hg.2 h4⟩
  | [], _ :: _, _, h => h.elim
  | _ :: _, [], _, h => h.elim
/-- One state looked at as another one. -/
theorem view_l {rd : Option Nat} {t1 t1' t2 : List Value} {m1 : Mem} {L L' : Blocks} {n2 : Nat} (h64 : 64 ≤ n0) (hn : n0 ≤ n2) (ht : t1 = t1') (hg : getAll m1 L = objs L) (hv : LVV σ σ' n0 t1' t2) (hm : LOVV σ σ' n0 L L') (hrd : ∀ b, rd = some b → b < n0) :
    View σ σ' n0 rd t1 m1 t2 (memB n2 L') := by
  subst ht
  exact view_b h64 hn hv (mvv_of hg hm) hrd
theorem getAll_self : ∀ {L : Blocks} {n : Nat}, (L.map (·.1)).Nodup → getAll (memB n L) L = objs L := by
  have key : ∀ {L : Blocks} {b : Nat} {o : AObj}, (L.map (·.1)).Nodup → (b, o) ∈ L → (trB L).get b = some o := by
    intro L
    induction L with
    | nil => intro b o _ h; cases h
    | cons a l ih =>
      intro b o hn h
      obtain ⟨c, q⟩ := a
      rw [trB, Tr.get_put _ _ _ _ _ (Nat.le_refl _)]
      simp only [List.map_cons, List.nodup_cons] at hn
      rcases List.mem_cons.1 h with e | h
      · cases e; rw [if_pos rfl]
      · rw [if_neg (fun e : b = c => hn.1 (by rw [← e]; exact List.mem_map.2 ⟨(b, o), h, rfl⟩))]
        exact ih hn.2 h
  intro L n hn
  unfold getAll objs
  apply List.map_congr_left
  intro e he
  exact key hn he

theorem LVV.at_ : ∀ {l k : List Value}, LVV σ σ' n0 l k → l.length = k.length ∧ ∀ i, i < l.length → VV σ σ' n0 (l.getD i undef) (k.getD i undef)
  | [], [], _ => ⟨rfl, fun i hi => absurd hi (by simp)⟩
  | a :: l, b :: k, h => by
    obtain ⟨h1, h2⟩ := h.2.at_
    refine ⟨by simp [h1], fun i hi => ?_⟩
    cases i with
    | zero => simpa using h.1
    | succ i => simpa using h2 i (by simpa using hi)
  | [], _ :: _, h => h.elim
  | _ :: _, [], h => h.elim
theorem vv_agg {l k : List Value} (h : LVV σ σ' n0 l k) : VV σ σ' n0 (.agg l.toArray) (.agg k.toArray) := fun ρ ρ' w hk hv => by
  obtain ⟨cs, rfl, hl⟩ := hv.agg_inv
  exact LRel.agg (by simpa using h.rel hk hl)

theorem getD_take {l : List Value} {n i : Nat} (h : i < n) : (l.take n).getD i undef = l.getD i undef := by
  rw [List.getD_eq_getElem?_getD, List.getD_eq_getElem?_getD, List.getElem?_take_of_lt h]
end
end Go.Ab
