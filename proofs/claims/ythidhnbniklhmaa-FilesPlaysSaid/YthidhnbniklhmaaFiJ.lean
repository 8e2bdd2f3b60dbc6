/- Files: a new pair of both sides; a call on both. -/
import Derived.Test.YthidhnbniklhmaaFiI
import Derived.Test.YthidhnbniklhmaaTI
namespace Go.Ab
open Go.Proofs
noncomputable section
set_option maxHeartbeats 1000000
theorem CallI.ex {f : FuncId} {args : List Value} {m : Mem} {v : Value} {R : Mem → Prop} {K : List Inst → Value → Mem → Prop} (h : ∃ m', Con EE.P f args m v m' ∧ R m') (hK : ∀ m', R m' → K [⟨.call f args, m, v, m'⟩] v m') : CallI EE [] (.call f args) m (K := ⟨K⟩) := by
  obtain ⟨m', h1, h2⟩ := h
  exact CallI.con0 h1 (hK m' h2)
theorem Upd.low {M m' : Mem} {b n : Nat} {o : AObj} (h : Upd M b o m') (hb : b < n) (hl : Low M n) : Low m' n := fun y hy => by
  rw [h.get, if_neg (by omega), hl y hy]
structure PCells (c : Cells) (f dd w v : Nat) : Prop where
  n : c.n = 4
  c0 : c.nth 0 = some (PT f)
  c1 : c.nth 1 = some (PT dd)
  c2 : c.nth 2 = some (PT w)
  c3 : c.nth 3 = some (PT v)
def PAt (m : Mem) (p f dd w v : Nat) : Prop := ∃ c, m.get p = some (.cells c true 0) ∧ PCells c f dd w v
theorem PAt.of {m m' : Mem} {p f dd w v : Nat} (h : PAt m p f dd w v) (he : m'.get p = m.get p) : PAt m' p f dd w v := by
  obtain ⟨c, h1, h2⟩ := h
  exact ⟨c, by rw [he, h1], h2⟩
theorem PAt.ne {m : Mem} {p f dd w v b z : Nat} {c : Cells} {ww : Bool} (h : PAt m p f dd w v) (hb : m.get b = some (.cells c ww z)) (hc : c.n ≠ 4) : p ≠ b := by
  rintro rfl
  obtain ⟨c', h1, h2⟩ := h
  rw [hb] at h1
  cases h1
  exact hc h2.n
theorem PAt.lt {m : Mem} {p f dd w v : Nat} (hm : Fresh m) (h : PAt m p f dd w v) : p < m.next := by
  obtain ⟨c, h1, _⟩ := h
  exact hm.lt h1
/-- Both sides, where they lie. -/
structure Shape (a : Nat) (m : Mem) (p f dd w v N : Nat) (s : FS) (d : Nat → Int) (W : FS) : Prop where
  hp : PAt m p f dd w v
  hf : FAt m f 0 s
  hd : DAt m dd 0 d
  hw : WAt m w 0 W
  hv : VAt m v 0 N d
  fw : f ≠ w
  lp : a ≤ p
  lf : a ≤ f
  ld : a ≤ dd
  lw : a ≤ w
  lv : a ≤ v
  lN : a ≤ N
section
variable {a : Nat} {m : Mem} {p f dd w v N : Nat} {s : FS} {d : Nat → Int} {W : FS}
theorem ne_of_n {m : Mem} {b c z1 z2 : Nat} {w1 w2 : Bool} {c1 c2 : Cells} (h1 : m.get b = some (.cells c1 w1 z1)) (h2 : m.get c = some (.cells c2 w2 z2)) (h : c1.n ≠ c2.n) : b ≠ c := by
  rintro rfl
  rw [h1] at h2
  cases h2
  exact h rfl
theorem ne_of_z {m : Mem} {b c z1 z2 : Nat} {w1 w2 : Bool} {c1 c2 : Cells} (h1 : m.get b = some (.cells c1 w1 z1)) (h2 : m.get c = some (.cells c2 w2 z2)) (h : z1 ≠ z2) : b ≠ c := by
  rintro rfl
  rw [h1] at h2
  cases h2
  exact h rfl
theorem Shape.pf (h : Shape a m p f dd w v N s d W) : p ≠ f := h.hp.ne h.hf (by rw [fC_n]; simp)
theorem Shape.pd (h : Shape a m p f dd w v N s d W) : p ≠ dd := h.hp.ne h.hd (by rw [dC_n]; simp)
theorem Shape.pw (h : Shape a m p f dd w v N s d W) : p ≠ w := h.hp.ne h.hw (by rw [wC_n]; simp)
theorem Shape.pv (h : Shape a m p f dd w v N s d W) : p ≠ v := h.hp.ne h.hv.ptr (by rw [ofList_n]; simp)
theorem Shape.pN (h : Shape a m p f dd w v N s d W) : p ≠ N := h.hp.ne h.hv.arr (by rw [ofList_n, dL_len]; simp)
theorem Shape.fd (h : Shape a m p f dd w v N s d W) : f ≠ dd := ne_of_n h.hf h.hd (by rw [dC_n, fC_n]; decide)
theorem Shape.fv (h : Shape a m p f dd w v N s d W) : f ≠ v := ne_of_n h.hf h.hv.ptr (by rw [ofList_n, fC_n]; simp)
theorem Shape.fN (h : Shape a m p f dd w v N s d W) : f ≠ N := ne_of_n h.hf h.hv.arr (by rw [ofList_n, dL_len, fC_n]; simp)
theorem Shape.dw (h : Shape a m p f dd w v N s d W) : dd ≠ w := ne_of_n h.hd h.hw (by rw [dC_n, wC_n]; decide)
theorem Shape.dv (h : Shape a m p f dd w v N s d W) : dd ≠ v := ne_of_n h.hd h.hv.ptr (by rw [dC_n, ofList_n]; simp)
theorem Shape.dN (h : Shape a m p f dd w v N s d W) : dd ≠ N := ne_of_z h.hd h.hv.arr (by decide)
theorem Shape.wv (h : Shape a m p f dd w v N s d W) : w ≠ v := ne_of_n h.hw h.hv.ptr (by rw [ofList_n, wC_n]; simp)
theorem Shape.wN (h : Shape a m p f dd w v N s d W) : w ≠ N := ne_of_n h.hw h.hv.arr (by rw [ofList_n, dL_len, wC_n]; simp)
theorem Shape.vN (h : Shape a m p f dd w v N s d W) : v ≠ N := ne_of_z h.hv.ptr h.hv.arr (by decide)
theorem Shape.keep {m' : Mem} (h : Shape a m p f dd w v N s d W) (hk : ∀ y o, m.get y = some o → m'.get y = some o) : Shape a m' p f dd w v N s d W :=
  ⟨by obtain ⟨c, h1, h2⟩ := h.hp; exact ⟨c, hk _ _ h1, h2⟩, hk _ _ h.hf, hk _ _ h.hd, hk _ _ h.hw, ⟨hk _ _ h.hv.ptr, hk _ _ h.hv.arr⟩, h.fw, h.lp, h.lf, h.ld, h.lw, h.lv, h.lN⟩
theorem Shape.upf {m' : Mem} {s' : FS} (h : Shape a m p f dd w v N s d W) (hu : Upd m f (.cells (fC s') true 0) m') : Shape a m' p f dd w v N s' d W :=
  ⟨h.hp.of (by rw [hu.get, if_neg h.pf]), by rw [FAt, hu.get, if_pos rfl], by rw [DAt, hu.get, if_neg h.fd.symm, h.hd], by rw [WAt, hu.get, if_neg h.fw.symm, h.hw],
    ⟨by rw [hu.get, if_neg h.fv.symm, h.hv.ptr], by rw [hu.get, if_neg h.fN.symm, h.hv.arr]⟩, h.fw, h.lp, h.lf, h.ld, h.lw, h.lv, h.lN⟩
theorem Shape.upw {m' : Mem} {W' : FS} (h : Shape a m p f dd w v N s d W) (hu : Upd m w (.cells (wC W') true 0) m') : Shape a m' p f dd w v N s d W' :=
  ⟨h.hp.of (by rw [hu.get, if_neg h.pw]), by rw [FAt, hu.get, if_neg h.fw, h.hf], by rw [DAt, hu.get, if_neg h.dw, h.hd], by rw [WAt, hu.get, if_pos rfl],
    ⟨by rw [hu.get, if_neg h.wv.symm, h.hv.ptr], by rw [hu.get, if_neg h.wN.symm, h.hv.arr]⟩, h.fw, h.lp, h.lf, h.ld, h.lw, h.lv, h.lN⟩
def St (a : Nat) (m : Mem) (p B : Nat) : Prop := ∃ f dd w v N s d W, Shape a m p f dd w v N s d W ∧ Inv B s W ∧ DOk d
structure Step (a : Nat) (m : Mem) (p B : Nat) (r : Value) (m' : Mem) : Prop where
  val : r = .bool true
  next : m.next ≤ m'.next
  fresh : Fresh m'
  st : St a m' p (B + 1)
  old : ∀ y, y < a → m'.get y = m.get y
  five : ∀ y c w z, m.get y = some (.cells c w z) → c.n = 5 → m'.get y = m.get y
theorem Step.end {B : Nat} {m' : Mem} {f' dd' w' v' N' : Nat} {s' W' : FS} {d' : Nat → Int} (hm : Fresh m) (ha : a ≤ m.next) (h : Shape a m p f dd w v N s d W) (hn : m.next ≤ m'.next) (hl : Low m' m'.next) (hs : Shape a m' p f' dd' w' v' N' s' d' W') (hI : Inv (B + 1) s' W') (hd : DOk d')
    (ho : ∀ y, y < m.next → y ≠ p → y ≠ f → y ≠ dd → y ≠ w → y ≠ v → m'.get y = m.get y) : RawE m m' (.bool true) (Step a m p B) := by
  have h64 := hm.n64
  refine ⟨⟨hn, fun y hy e => ?_⟩, rfl, hn, ⟨by omega, hl⟩, ⟨_, _, _, _, _, _, _, _, hs, hI, hd⟩, fun y hy => ?_, fun y c _ _ hy hc => ?_⟩
  · have k : ∀ b o, m.get b = some o → y ≠ b := fun b o hb e2 => by rw [e2, hb] at e; cases e
    have kp : y ≠ p := by
      obtain ⟨c, h1, _⟩ := h.hp
      exact k _ _ h1
    rw [ho y hy kp (k _ _ h.hf) (k _ _ h.hd) (k _ _ h.hw) (k _ _ h.hv.ptr), e]
  · have := h.lp; have := h.lf; have := h.ld; have := h.lw; have := h.lv
    exact ho y (by omega) (by omega) (by omega) (by omega) (by omega) (by omega)
  · refine ho y (hm.lt hy) ?_ (ne_of_n hy h.hf (by rw [hc, fC_n]; decide)) (ne_of_n hy h.hd (by rw [hc, dC_n]; decide)) (ne_of_n hy h.hw (by rw [hc, wC_n]; decide)) (ne_of_n hy h.hv.ptr (by rw [hc, ofList_n]; simp))
    obtain ⟨c', h1, h2⟩ := h.hp
    exact ne_of_n hy h1 (by rw [hc, h2.n]; decide)
theorem Low.up {m : Mem} {n k : Nat} (h : Low m n) (hk : n ≤ k) : Low m k := fun b hb => h b (by omega)
/-- A memory over another one: what lies there stays. -/
structure Over (n : Nat) (M M' : Mem) : Prop where
  next : M.next ≤ M'.next
  low : Low M M.next → Low M' M'.next
  old : ∀ y, y < n → M'.get y = M.get y
theorem Shape.over {M : Mem} (hm : Fresh m) (h : Shape a m p f dd w v N s d W) (ho : Over m.next m M) : Shape a M p f dd w v N s d W :=
  h.keep fun y o hy => by rw [ho.old y (hm.lt hy), hy]
theorem Step.endf {B : Nat} {M m1 M1 m2 M2 : Mem} {s' W' : FS} (hm : Fresh m) (ha : a ≤ m.next) (h : Shape a m p f dd w v N s d W) (hI : Inv (B + 1) s' W') (hd : DOk d) (hu1 : Upd M f (.cells (fC s') true 0) m1) (hu2 : Upd M1 w (.cells (wC W') true 0) m2)
    (o0 : Over m.next m M) (o1 : Over m.next m1 M1) (o2 : Over m.next m2 M2) : RawE m M2 (.bool true) (Step a m p B) := by
  have g0 := o0.next
  have g1 := o1.next
  have g2 := o2.next
  have g3 := hu1.next
  have g4 := hu2.next
  have lf := hm.lt h.hf
  have lw := hm.lt h.hw
  have kk : ∀ (x y : Mem), (∀ z, z < m.next → y.get z = x.get z) → Shape a x p f dd w v N s' d W' → Shape a y p f dd w v N s' d W' := fun x y hxy hx =>
    ⟨hx.hp.of (hxy _ (h.hp.lt hm)), by rw [FAt, hxy _ lf, hx.hf], by rw [DAt, hxy _ (hm.lt h.hd), hx.hd], by rw [WAt, hxy _ lw, hx.hw], ⟨by rw [hxy _ (hm.lt h.hv.ptr), hx.hv.ptr], by rw [hxy _ (hm.lt h.hv.arr), hx.hv.arr]⟩, h.fw, h.lp, h.lf, h.ld, h.lw, h.lv, h.lN⟩
  have kl : Low m2 m2.next := by
    rw [g4]
    exact hu2.low (by omega) (o1.low (by rw [g3]; exact hu1.low (by omega) (o0.low (Low.of hm (Nat.le_refl _)))))
  refine Step.end hm ha h (by omega) (o2.low kl) (kk _ _ o2.old ?_) hI hd fun y hy e1 e2 e3 e4 e5 => ?_
  · have s1 := (h.over hm o0).upf hu1
    have s2 : Shape a M1 p f dd w v N s' d W := ⟨s1.hp.of (o1.old _ (h.hp.lt hm)), by rw [FAt, o1.old _ lf, s1.hf], by rw [DAt, o1.old _ (hm.lt h.hd), s1.hd], by rw [WAt, o1.old _ lw, s1.hw], ⟨by rw [o1.old _ (hm.lt h.hv.ptr), s1.hv.ptr], by rw [o1.old _ (hm.lt h.hv.arr), s1.hv.arr]⟩, h.fw, h.lp, h.lf, h.ld, h.lw, h.lv, h.lN⟩
    exact s2.upw hu2
  · rw [o2.old y hy, hu2.get, if_neg e4, o1.old y hy, hu1.get, if_neg e2, o0.old y hy]
theorem Step.endd {B : Nat} {M m1 M1 m2 : Mem} {j : Nat} {d' : Nat → Int} {N' : Nat} (hm : Fresh m) (ha : a ≤ m.next) (h : Shape a m p f dd w v N s d W) (hI : Inv B s W) (hd : DOk d') (hu1 : Upd M dd (.cells (dC d') true 0) m1) (hu2 : VUp M1 v 0 N d' m2 N')
    (o0 : Over m.next m M) (o1 : Over m.next m1 M1) (hf1 : Fresh M1) : RawE m (m2.bump j) (.bool true) (Step a m p B) := by
  have g0 := o0.next
  have g1 := o1.next
  have g3 := hu1.next
  have g4 := hu2.next
  have k : ∀ y, y < m.next → y ≠ dd → y ≠ v → m2.get y = m.get y := fun y hy h1 h2 => by
    rw [hu2.old y (by omega) h2, o1.old y hy, hu1.get, if_neg h1, o0.old y hy]
  have k' : ∀ y o, m.get y = some o → y ≠ dd → y ≠ v → m2.get y = some o := fun y o hy h1 h2 => by
    rw [k y (hm.lt hy) h1 h2, hy]
  have lv := hm.lt h.hv.ptr
  have ld := hm.lt h.hd
  refine Step.end (N' := N') hm ha h (by rw [Mem.next_bump]; omega) (Low.up (Low.bump (hu2.fresh hf1).none) (by rw [Mem.next_bump]; omega)) ⟨h.hp.of (k _ (h.hp.lt hm) h.pd h.pv), k' _ _ h.hf h.fd h.fv, ?_, k' _ _ h.hw h.dw.symm h.wv, ⟨?_, ?_⟩, h.fw, h.lp, h.lf, h.ld, h.lw, h.lv, ?_⟩ (hI.mono (by omega)) hd fun y hy e1 e2 e3 e4 e5 => k y hy e3 e5
  · rw [DAt, Mem.get_bump, hu2.old dd (by omega) h.dv, o1.old _ ld, hu1.get, if_pos rfl]
  · exact hu2.at_.ptr
  · exact hu2.at_.arr
  · rcases hu2.new with e2 | e2
    · rw [e2]; exact h.lN
    · omega
theorem b74 : buildA EE.P 74 [] = some (.agg ((List.range 192).map (fcell ⟨fun _ => 0, fun _ => false, fun _ => 0⟩)).toArray) := by kernel_rfl
theorem b65 : buildA EE.P 65 [] = some (.agg ((List.range 192).map (wcell ⟨fun _ => 0, fun _ => false, fun _ => 0⟩)).toArray) := by kernel_rfl
theorem b69 : buildA EE.P 69 [] = some (.agg ((List.range 8).map fun i => In ((fun _ => 0) i)).toArray) := by kernel_rfl
theorem do_ok {B : Nat} {k pp n fd : Int} {ww : Bool} (hB : B < 4294967295) (hm : Fresh m) (ha : a ≤ m.next) (hS : Shape a m p f dd w v N s d W) (hI : Inv B s W) (hd : DOk d) :
    ∃ r m', Con EE.P 18 [PT p, .agg [In k, In pp, .bool ww, In n, In fd].toArray] m r m' ∧ Step a m p B r m' := by
  refine Con.raw EE_ok fn18 (Nat.le_of_ble_eq_true rfl) _ ?_
  obtain ⟨cp, hp, hc⟩ := hS.hp
  have p0 := fun j => hm.ne hp j
  have f0 := fun j => hm.ne hS.hf j
  have d0 := fun j => hm.ne hS.hd j
  have w0 := fun j => hm.ne hS.hw j
  have v0 := fun j => hm.ne hS.hv.ptr j
  have N0 := fun j => hm.ne hS.hv.arr j
  have p00 := hm.ne0 hp
  have f00 := hm.ne0 hS.hf
  have d00 := hm.ne0 hS.hd
  have w00 := hm.ne0 hS.hw
  have v00 := hm.ne0 hS.hv.ptr
  have N00 := hm.ne0 hS.hv.arr
  have q1 : ¬ m.next = f := fun e => f00 e.symm
  have q2 : ¬ m.next = dd := fun e => d00 e.symm
  have q3 : ¬ m.next = w := fun e => w00 e.symm
  have q4 : ∀ j, ¬ m.next + j = f := fun j e => f0 j e.symm
  have q5 : ∀ j, ¬ m.next + j = w := fun j e => w0 j e.symm
  have e1 : ¬ p = f := hS.pf
  have e2 : ¬ w = f := hS.fw.symm
  have e3 : ¬ p = dd := hS.pd
  have e4 : ¬ v = dd := hS.dv.symm
  have e5 : ¬ N = dd := hS.dN.symm
  have e6 : ¬ p = w := hS.pw
  by_cases k0 : k = 0
  · subst k0
    simp only [f18, enumV, Nat.zero_add, w18, W_seq, w18_0, Nat.le_refl, X_box, Nat.reduceLT, ev_T, lk_cons, Nat.reduceEqDiff, if_true, if_false, box_agg, okI_some, Nat.add_zero, T_set, put_bump, X_assign, ev_const, X_nil, thenQ_normal, w18_1, Mem.next_bump, Mem.next_put, Nat.le_add_right, bump_bump, Nat.reduceAdd, X_fieldAddr EE_sym fo_46_0, offV_ptr, X_load EE_sym, load1 lay_3, Mem.get_bump, Mem.get_put, ld1_cells, nth_ofList, List.getElem?_cons_zero, W_block, w18_50, w18_2, X_eql EE_sym, eq_int, decide_true, W_cond, CDi_t, w18_6, w18_3, X_move, Nat.one_ne_zero, X_nilCheck EE_sym, nilV_ptr, X_fieldAddr EE_sym fo_31_0, load1 lay_26, p00, hp, hc.c0, X_fieldAddr EE_sym fo_46_1, loadN lay_34, ldN_cells, List.length_cons, List.length_nil, Nat.reduceLeDiff, sub_ofList, List.drop_succ_cons, List.drop_zero, List.take_succ_cons, List.take_zero, Option.map_some, X_call ca_21, List.map_cons, List.map_nil, true_and]
    obtain ⟨a', e', s', W', h2⟩ := open2 (p := pp) (w := ww) hI
    refine CallI.ex (h2.left _ _ 0 ?_) fun m1 hu1 => ?_
    · simp only [FAt, Mem.get_bump, Mem.get_put, f00, if_false, hS.hf]
    have n1 := hu1.next
    simp only [Mem.next_bump, Mem.next_put] at n1
    simp only [putT, Nat.reduceLT, T_set, X_move, ev_T, lk_cons, Nat.reduceEqDiff, if_false, if_true, X_extract EE_sym, List.getElem?_toArray, List.getElem?_cons_zero, okI_some, List.getElem?_cons_succ, X_assign, X_nil, thenQ_normal, W_seq, w18_4, n1, Nat.le_add_right, Nat.one_ne_zero, X_nilCheck EE_sym, nilV_ptr, X_fieldAddr EE_sym fo_31_2, offV_ptr, Nat.zero_add, X_load EE_sym, load1 lay_28, Mem.get_bump, hu1.get, e1, Mem.get_put, p00, hp, ld1_cells, hc.c2, X_fieldAddr EE_sym fo_46_1, loadN lay_34, q1, ldN_cells, Nat.reduceAdd, List.length_cons, List.length_nil, Nat.reduceLeDiff, sub_ofList, List.drop_succ_cons, List.drop_zero, List.take_succ_cons, List.take_zero, Option.map_some, X_call ca_36, List.map_cons, List.map_nil, true_and]
    refine CallI.ex (h2.right _ _ 0 ?_) fun m2 hu2 => ?_
    · simp only [WAt, Mem.get_bump, Mem.get_put, hu1.get, w00, e2, if_false, hS.hw]
    have n2 := hu2.next
    simp only [Mem.next_bump, n1, Nat.add_assoc, Nat.reduceAdd] at n2
    simp only [putT, Nat.reduceLT, T_set, X_move, ev_T, lk_cons, Nat.reduceEqDiff, if_false, if_true, X_extract EE_sym, List.getElem?_toArray, List.getElem?_cons_zero, okI_some, List.getElem?_cons_succ, X_assign, X_nil, thenQ_normal, W_seq, w18_5, n2, Nat.le_add_right, X_eql EE_sym, eq_int, decide_true, X_guard EE_sym, T_get, GDi_tt, X_pick EE_sym, ev_const, pickV_bool, W_ret, blockQ_ret, thenQ_ret, FinX_ret, resA_tmp, resA_nil, Option.map_some, oneOr1, true_and]
    exact Step.endf hm ha hS h2.inv hd hu1 hu2 ⟨by (try simp only [Mem.next_bump, Mem.next_put]); omega, fun hl => by repeat (first | exact Low.up hl (by (try simp only [Mem.next_bump, Mem.next_put]); omega) | refine Low.put ?_ (by (try simp only [Mem.next_bump, Mem.next_put]); omega) | refine Low.bump ?_), fun y hy => by first | rfl | simp only [Mem.get_bump, Mem.get_put, ne_new0 hy, if_false]⟩ ⟨by (try simp only [Mem.next_bump]); omega, fun hl => by repeat (first | exact Low.up hl (by (try simp only [Mem.next_bump]); omega) | refine Low.put ?_ (by (try simp only [Mem.next_bump, Mem.next_put]); omega) | refine Low.bump ?_), fun y hy => by first | rfl | simp only [Mem.get_bump, Mem.get_put, ne_new hy, ne_new0 hy, if_false]⟩ ⟨by (try simp only [Mem.next_bump]); omega, fun hl => by repeat (first | exact Low.up hl (by (try simp only [Mem.next_bump]); omega) | refine Low.put ?_ (by (try simp only [Mem.next_bump, Mem.next_put]); omega) | refine Low.bump ?_), fun y hy => by first | rfl | simp only [Mem.get_bump, Mem.get_put, ne_new hy, ne_new0 hy, if_false]⟩
  by_cases k1 : k = 1
  · subst k1
    simp only [f18, enumV, Nat.zero_add, w18, W_seq, w18_0, Nat.le_refl, X_box, Nat.reduceLT, ev_T, lk_cons, Nat.reduceEqDiff, if_true, if_false, box_agg, okI_some, Nat.add_zero, T_set, put_bump, X_assign, ev_const, X_nil, thenQ_normal, w18_1, Mem.next_bump, Mem.next_put, Nat.le_add_right, bump_bump, Nat.reduceAdd, X_fieldAddr EE_sym fo_46_0, offV_ptr, X_load EE_sym, load1 lay_3, Mem.get_bump, Mem.get_put, ld1_cells, nth_ofList, List.getElem?_cons_zero, W_block, w18_50, w18_2, X_eql EE_sym, eq_int, Int.reduceEq, decide_false, W_cond, CDi_f, w18_49, w18_7, decide_true, CDi_t, w18_10, w18_8, X_move, Nat.one_ne_zero, X_nilCheck EE_sym, nilV_ptr, X_fieldAddr EE_sym fo_31_0, load1 lay_26, p00, hp, hc.c0, X_fieldAddr EE_sym fo_46_2, List.getElem?_cons_succ, X_call ca_16, List.map_cons, List.map_nil, true_and]
    obtain ⟨e', s', W', h2⟩ := share2 (n := n) hI (by omega)
    refine CallI.ex (h2.left _ _ 0 ?_) fun m1 hu1 => ?_
    · simp only [FAt, Mem.get_bump, Mem.get_put, f00, if_false, hS.hf]
    have n1 := hu1.next
    simp only [Mem.next_bump, Mem.next_put] at n1
    simp only [putT, Nat.reduceLT, T_set, X_assign, ev_T, lk_cons, Nat.reduceEqDiff, if_false, if_true, X_nil, thenQ_normal, W_seq, w18_9, n1, Nat.le_add_right, X_move, Nat.one_ne_zero, X_nilCheck EE_sym, nilV_ptr, okI_some, X_fieldAddr EE_sym fo_31_2, offV_ptr, Nat.zero_add, X_load EE_sym, load1 lay_28, Mem.get_bump, hu1.get, e1, Mem.get_put, p00, hp, ld1_cells, hc.c2, X_fieldAddr EE_sym fo_46_2, load1 lay_3, q1, nth_ofList, List.getElem?_cons_succ, List.getElem?_cons_zero, X_call ca_37, List.map_cons, List.map_nil, true_and]
    refine CallI.ex (h2.right _ _ 0 ?_) fun m2 hu2 => ?_
    · simp only [WAt, Mem.get_bump, Mem.get_put, hu1.get, w00, e2, if_false, hS.hw]
    have n2 := hu2.next
    simp only [Mem.next_bump, n1, Nat.add_assoc, Nat.reduceAdd] at n2
    simp only [putT, Nat.reduceLT, T_set, X_move, ev_T, lk_cons, Nat.reduceEqDiff, if_false, if_true, X_eql EE_sym, eq_int, decide_true, okI_some, X_assign, X_nil, thenQ_normal, W_ret, blockQ_ret, thenQ_ret, FinX_ret, resA_tmp, T_get, resA_nil, Option.map_some, oneOr1]
    exact Step.endf hm ha hS h2.inv hd hu1 hu2 ⟨by (try simp only [Mem.next_bump, Mem.next_put]); omega, fun hl => by repeat (first | exact Low.up hl (by (try simp only [Mem.next_bump, Mem.next_put]); omega) | refine Low.put ?_ (by (try simp only [Mem.next_bump, Mem.next_put]); omega) | refine Low.bump ?_), fun y hy => by first | rfl | simp only [Mem.get_bump, Mem.get_put, ne_new0 hy, if_false]⟩ ⟨by (try simp only [Mem.next_bump]); omega, fun hl => by repeat (first | exact Low.up hl (by (try simp only [Mem.next_bump]); omega) | refine Low.put ?_ (by (try simp only [Mem.next_bump, Mem.next_put]); omega) | refine Low.bump ?_), fun y hy => by first | rfl | simp only [Mem.get_bump, Mem.get_put, ne_new hy, ne_new0 hy, if_false]⟩ ⟨by (try simp only [Mem.next_bump, Mem.next_put]); omega, fun hl => by repeat (first | exact Low.up hl (by (try simp only [Mem.next_bump, Mem.next_put]); omega) | refine Low.put ?_ (by (try simp only [Mem.next_bump, Mem.next_put]); omega) | refine Low.bump ?_), fun y hy => by first | rfl | simp only [Mem.get_bump, Mem.get_put, ne_new hy, ne_new0 hy, if_false]⟩
  by_cases k2 : k = 2
  · subst k2
    simp only [f18, enumV, Nat.zero_add, w18, W_seq, w18_0, Nat.le_refl, X_box, Nat.reduceLT, ev_T, lk_cons, Nat.reduceEqDiff, if_true, if_false, box_agg, okI_some, Nat.add_zero, T_set, put_bump, X_assign, ev_const, X_nil, thenQ_normal, w18_1, Mem.next_bump, Mem.next_put, Nat.le_add_right, bump_bump, Nat.reduceAdd, X_fieldAddr EE_sym fo_46_0, offV_ptr, X_load EE_sym, load1 lay_3, Mem.get_bump, Mem.get_put, ld1_cells, nth_ofList, List.getElem?_cons_zero, W_block, w18_50, w18_2, X_eql EE_sym, eq_int, Int.reduceEq, decide_false, W_cond, CDi_f, w18_49, w18_7, w18_48, w18_11, decide_true, CDi_t, w18_15, w18_12, X_move, Nat.one_ne_zero, X_nilCheck EE_sym, nilV_ptr, X_fieldAddr EE_sym fo_31_0, load1 lay_26, p00, hp, hc.c0, X_fieldAddr EE_sym fo_46_2, List.getElem?_cons_succ, X_call ca_15, List.map_cons, List.map_nil, true_and]
    obtain ⟨a', p', w', e', s', W', h2⟩ := drop2 (n := n) hI (by omega)
    refine CallI.ex (h2.left _ _ 0 ?_) fun m1 hu1 => ?_
    · simp only [FAt, Mem.get_bump, Mem.get_put, f00, if_false, hS.hf]
    have n1 := hu1.next
    simp only [Mem.next_bump, Mem.next_put] at n1
    simp only [putT, Nat.reduceLT, T_set, X_move, ev_T, lk_cons, Nat.reduceEqDiff, if_false, if_true, X_extract EE_sym, List.getElem?_toArray, List.getElem?_cons_zero, okI_some, List.getElem?_cons_succ, X_alloc, zero_34, Nat.add_assoc, Nat.reduceAdd, X_assign, X_store, store1 sz_34, Mem.get_put, hu1.get, q4, Mem.get_bump, Nat.add_eq_left, cells_agg, st1_cells, List.length_cons, List.length_nil, Nat.zero_add, ofList_n, Nat.le_refl, List.all_cons, oneCell, List.all_nil, Bool.and_self, and_self, X_nil, thenQ_normal, W_seq, w18_13, Mem.next_put, n1, Nat.le_add_right, Nat.one_ne_zero, X_nilCheck EE_sym, nilV_ptr, X_fieldAddr EE_sym fo_31_2, offV_ptr, X_load EE_sym, load1 lay_28, p0, e1, p00, hp, ld1_cells, hc.c2, X_fieldAddr EE_sym fo_46_2, load1 lay_3, Nat.left_eq_add, q1, nth_ofList, X_call ca_38, List.map_cons, List.map_nil, true_and]
    refine CallI.ex (h2.right _ _ 0 ?_) fun m2 hu2 => ?_
    · simp only [WAt, Mem.get_bump, Mem.get_put, hu1.get, w0, w00, e2, if_false, hS.hw]
    have n2 := hu2.next
    simp only [Mem.next_bump, Mem.next_put, n1, Nat.add_assoc, Nat.reduceAdd] at n2
    simp only [putT, Nat.reduceLT, T_set, X_move, ev_T, lk_cons, Nat.reduceEqDiff, if_false, if_true, X_extract EE_sym, List.getElem?_toArray, List.getElem?_cons_zero, okI_some, List.getElem?_cons_succ, X_alloc, zero_34, Nat.add_assoc, Nat.reduceAdd, X_assign, X_store, store1 sz_34, Mem.get_put, hu2.get, q5, Mem.get_bump, Nat.add_left_cancel_iff, hu1.get, q4, Nat.add_eq_left, cells_agg, st1_cells, List.length_cons, List.length_nil, Nat.zero_add, ofList_n, Nat.le_refl, List.all_cons, oneCell, List.all_nil, Bool.and_self, and_self, X_nil, thenQ_normal, W_seq, w18_14, Mem.next_put, n2, Nat.le_add_right, X_eql EE_sym, eq_int, decide_true, X_guard EE_sym, T_get, GDi_tt, X_load EE_sym, loadN lay_34, ldN_cells, sub_write_same, Option.map_some, eq34, beq_self_eq_true, X_pick EE_sym, ev_const, pickV_bool, W_ret, blockQ_ret, thenQ_ret, FinX_ret, resA_tmp, resA_nil, oneOr1, true_and]
    exact Step.endf hm ha hS h2.inv hd hu1 hu2 ⟨by (try simp only [Mem.next_bump, Mem.next_put]); omega, fun hl => by repeat (first | exact Low.up hl (by (try simp only [Mem.next_bump, Mem.next_put]); omega) | refine Low.put ?_ (by (try simp only [Mem.next_bump, Mem.next_put]); omega) | refine Low.bump ?_), fun y hy => by first | rfl | simp only [Mem.get_bump, Mem.get_put, ne_new0 hy, if_false]⟩ ⟨by (try simp only [Mem.next_bump, Mem.next_put]); omega, fun hl => by repeat (first | exact Low.up hl (by (try simp only [Mem.next_bump, Mem.next_put]); omega) | refine Low.put ?_ (by (try simp only [Mem.next_bump, Mem.next_put]); omega) | refine Low.bump ?_), fun y hy => by first | rfl | simp only [Mem.get_bump, Mem.get_put, ne_new hy, if_false]⟩ ⟨by (try simp only [Mem.next_bump, Mem.next_put]); omega, fun hl => by repeat (first | exact Low.up hl (by (try simp only [Mem.next_bump, Mem.next_put]); omega) | refine Low.put ?_ (by (try simp only [Mem.next_bump, Mem.next_put]); omega) | refine Low.bump ?_), fun y hy => by first | rfl | simp only [Mem.get_bump, Mem.get_put, ne_new hy, if_false]⟩
  by_cases k3 : k = 3
  · subst k3
    simp only [f18, enumV, Nat.zero_add, w18, W_seq, w18_0, Nat.le_refl, X_box, Nat.reduceLT, ev_T, lk_cons, Nat.reduceEqDiff, if_true, if_false, box_agg, okI_some, Nat.add_zero, T_set, put_bump, X_assign, ev_const, X_nil, thenQ_normal, w18_1, Mem.next_bump, Mem.next_put, Nat.le_add_right, bump_bump, Nat.reduceAdd, X_fieldAddr EE_sym fo_46_0, offV_ptr, X_load EE_sym, load1 lay_3, Mem.get_bump, Mem.get_put, ld1_cells, nth_ofList, List.getElem?_cons_zero, W_block, w18_50, w18_2, X_eql EE_sym, eq_int, Int.reduceEq, decide_false, W_cond, CDi_f, w18_49, w18_7, w18_48, w18_11, w18_47, w18_16, decide_true, CDi_t, w18_20, w18_17, X_move, Nat.one_ne_zero, X_nilCheck EE_sym, nilV_ptr, X_fieldAddr EE_sym fo_31_1, load1 lay_27, p00, hp, hc.c1, X_fieldAddr EE_sym fo_46_2, List.getElem?_cons_succ, X_call ca_33, List.map_cons, List.map_nil, true_and]
    obtain ⟨a', e', d', h2⟩ := put2 (n := n) hd
    refine CallI.ex (h2.left _ _ 0 ?_) fun m1 hu1 => ?_
    · simp only [DAt, Mem.get_bump, Mem.get_put, d00, if_false, hS.hd]
    have n1 := hu1.next
    simp only [Mem.next_bump, Mem.next_put] at n1
    simp only [putT, Nat.reduceLT, T_set, X_move, ev_T, lk_cons, Nat.reduceEqDiff, if_false, if_true, X_extract EE_sym, List.getElem?_toArray, List.getElem?_cons_zero, okI_some, List.getElem?_cons_succ, X_assign, X_nil, thenQ_normal, W_seq, w18_18, n1, Nat.le_add_right, Nat.one_ne_zero, X_nilCheck EE_sym, nilV_ptr, X_fieldAddr EE_sym fo_31_3, offV_ptr, Nat.zero_add, X_load EE_sym, load1 lay_29, Mem.get_bump, hu1.get, e3, Mem.get_put, p00, hp, ld1_cells, hc.c3, X_fieldAddr EE_sym fo_46_2, load1 lay_3, q2, nth_ofList, X_call ca_39, List.map_cons, List.map_nil, true_and]
    have hl1 : Low m1 m1.next := by
      rw [n1]
      refine hu1.low (by have := hm.lt hS.hd; omega) ?_
      (repeat (first | refine Low.bump ?_ | refine Low.put ?_ (by omega)))
      exact Low.of hm (by omega)
    have hf1 : ∀ j, Fresh (m1.bump j) := fun j => ⟨by have := hm.n64; rw [Mem.next_bump]; omega, fun y hy => hl1 y (by rw [Mem.next_bump] at hy; omega)⟩
    obtain ⟨m2, N', hc2, hu2⟩ := h2.right (m1.bump _) v 0 N (hf1 _) ⟨by simp only [Mem.get_bump, Mem.get_put, hu1.get, v00, e4, if_false, hS.hv.ptr], by simp only [Mem.get_bump, Mem.get_put, hu1.get, N00, e5, if_false, hS.hv.arr]⟩
    refine CallI.con0 hc2 ?_
    have n2 := hu2.next
    simp only [Mem.next_bump, n1, Nat.add_assoc, Nat.reduceAdd] at n2
    have n3 : m.next ≤ m2.next := by omega
    simp only [putT, Nat.reduceLT, T_set, X_move, ev_T, lk_cons, Nat.reduceEqDiff, if_false, if_true, X_extract EE_sym, List.getElem?_toArray, List.getElem?_cons_zero, okI_some, List.getElem?_cons_succ, X_assign, X_nil, thenQ_normal, W_seq, w18_19, n3, X_eql EE_sym, eq_int, decide_true, X_guard EE_sym, T_get, GDi_tt, X_pick EE_sym, ev_const, pickV_bool, W_ret, blockQ_ret, thenQ_ret, FinX_ret, resA_tmp, resA_nil, Option.map_some, oneOr1, true_and]
    first
    | exact Step.endd hm ha hS hI h2.ok hu1 hu2 ⟨by (try simp only [Mem.next_bump, Mem.next_put]); omega, fun hl => by repeat (first | exact Low.up hl (by (try simp only [Mem.next_bump, Mem.next_put]); omega) | refine Low.put ?_ (by (try simp only [Mem.next_bump, Mem.next_put]); omega) | refine Low.bump ?_), fun y hy => by first | rfl | simp only [Mem.get_bump, Mem.get_put, ne_new0 hy, if_false]⟩ ⟨by (try simp only [Mem.next_bump]); omega, fun hl => by repeat (first | exact Low.up hl (by (try simp only [Mem.next_bump]); omega) | refine Low.put ?_ (by (try simp only [Mem.next_bump, Mem.next_put]); omega) | refine Low.bump ?_), fun y hy => by first | rfl | simp only [Mem.get_bump, Mem.get_put, ne_new hy, ne_new0 hy, if_false]⟩ (hf1 _)
    | exact Step.endd (j := 0) hm ha hS hI h2.ok hu1 hu2 ⟨by (try simp only [Mem.next_bump, Mem.next_put]); omega, fun hl => by repeat (first | exact Low.up hl (by (try simp only [Mem.next_bump, Mem.next_put]); omega) | refine Low.put ?_ (by (try simp only [Mem.next_bump, Mem.next_put]); omega) | refine Low.bump ?_), fun y hy => by first | rfl | simp only [Mem.get_bump, Mem.get_put, ne_new hy, ne_new0 hy, if_false]⟩ ⟨by (try simp only [Mem.next_bump, Mem.next_put]); omega, fun hl => by repeat (first | exact Low.up hl (by (try simp only [Mem.next_bump, Mem.next_put]); omega) | refine Low.put ?_ (by (try simp only [Mem.next_bump, Mem.next_put]); omega) | refine Low.bump ?_), fun y hy => by first | rfl | simp only [Mem.get_bump, Mem.get_put, ne_new hy, ne_new0 hy, if_false]⟩ (hf1 _)
  by_cases k4 : k = 4
  · subst k4
    simp only [f18, enumV, Nat.zero_add, w18, W_seq, w18_0, Nat.le_refl, X_box, Nat.reduceLT, ev_T, lk_cons, Nat.reduceEqDiff, if_true, if_false, box_agg, okI_some, Nat.add_zero, T_set, put_bump, X_assign, ev_const, X_nil, thenQ_normal, w18_1, Mem.next_bump, Mem.next_put, Nat.le_add_right, bump_bump, Nat.reduceAdd, X_fieldAddr EE_sym fo_46_0, offV_ptr, X_load EE_sym, load1 lay_3, Mem.get_bump, Mem.get_put, ld1_cells, nth_ofList, List.getElem?_cons_zero, W_block, w18_50, w18_2, X_eql EE_sym, eq_int, Int.reduceEq, decide_false, W_cond, CDi_f, w18_49, w18_7, w18_48, w18_11, w18_47, w18_16, w18_46, w18_21, decide_true, CDi_t, w18_24, w18_22, X_move, Nat.one_ne_zero, X_nilCheck EE_sym, nilV_ptr, X_fieldAddr EE_sym fo_31_1, load1 lay_27, p00, hp, hc.c1, X_fieldAddr EE_sym fo_46_3, List.getElem?_cons_succ, X_fieldAddr EE_sym fo_46_2, X_call ca_28, List.map_cons, List.map_nil, true_and]
    obtain ⟨e', d', h2⟩ := set2 (fd := fd) (n := n) hd
    refine CallI.ex (h2.left _ _ 0 ?_) fun m1 hu1 => ?_
    · simp only [DAt, Mem.get_bump, Mem.get_put, d00, if_false, hS.hd]
    have n1 := hu1.next
    simp only [Mem.next_bump, Mem.next_put] at n1
    simp only [putT, Nat.reduceLT, T_set, X_assign, ev_T, lk_cons, Nat.reduceEqDiff, if_false, if_true, X_nil, thenQ_normal, W_seq, w18_23, n1, Nat.le_add_right, X_move, Nat.one_ne_zero, X_nilCheck EE_sym, nilV_ptr, okI_some, X_fieldAddr EE_sym fo_31_3, offV_ptr, Nat.zero_add, X_load EE_sym, load1 lay_29, Mem.get_bump, hu1.get, e3, Mem.get_put, p00, hp, ld1_cells, hc.c3, X_fieldAddr EE_sym fo_46_3, load1 lay_3, q2, nth_ofList, List.getElem?_cons_succ, List.getElem?_cons_zero, X_fieldAddr EE_sym fo_46_2, X_call ca_40, List.map_cons, List.map_nil, true_and]
    have hl1 : Low m1 m1.next := by
      rw [n1]
      refine hu1.low (by have := hm.lt hS.hd; omega) ?_
      (repeat (first | refine Low.bump ?_ | refine Low.put ?_ (by omega)))
      exact Low.of hm (by omega)
    have hf1 : ∀ j, Fresh (m1.bump j) := fun j => ⟨by have := hm.n64; rw [Mem.next_bump]; omega, fun y hy => hl1 y (by rw [Mem.next_bump] at hy; omega)⟩
    obtain ⟨m2, N', hc2, hu2⟩ := h2.right (m1.bump _) v 0 N (hf1 _) ⟨by simp only [Mem.get_bump, Mem.get_put, hu1.get, v00, e4, if_false, hS.hv.ptr], by simp only [Mem.get_bump, Mem.get_put, hu1.get, N00, e5, if_false, hS.hv.arr]⟩
    refine CallI.con0 hc2 ?_
    have n2 := hu2.next
    simp only [Mem.next_bump, n1, Nat.add_assoc, Nat.reduceAdd] at n2
    have n3 : m.next ≤ m2.next := by omega
    simp only [putT, Nat.reduceLT, T_set, X_move, ev_T, lk_cons, Nat.reduceEqDiff, if_false, if_true, X_eql EE_sym, eq_int, decide_true, okI_some, X_assign, X_nil, thenQ_normal, W_ret, blockQ_ret, thenQ_ret, FinX_ret, resA_tmp, T_get, resA_nil, Option.map_some, oneOr1]
    first
    | exact Step.endd hm ha hS hI h2.ok hu1 hu2 ⟨by (try simp only [Mem.next_bump, Mem.next_put]); omega, fun hl => by repeat (first | exact Low.up hl (by (try simp only [Mem.next_bump, Mem.next_put]); omega) | refine Low.put ?_ (by (try simp only [Mem.next_bump, Mem.next_put]); omega) | refine Low.bump ?_), fun y hy => by first | rfl | simp only [Mem.get_bump, Mem.get_put, ne_new0 hy, if_false]⟩ ⟨by (try simp only [Mem.next_bump]); omega, fun hl => by repeat (first | exact Low.up hl (by (try simp only [Mem.next_bump]); omega) | refine Low.put ?_ (by (try simp only [Mem.next_bump, Mem.next_put]); omega) | refine Low.bump ?_), fun y hy => by first | rfl | simp only [Mem.get_bump, Mem.get_put, ne_new hy, ne_new0 hy, if_false]⟩ (hf1 _)
    | exact Step.endd (j := 0) hm ha hS hI h2.ok hu1 hu2 ⟨by (try simp only [Mem.next_bump, Mem.next_put]); omega, fun hl => by repeat (first | exact Low.up hl (by (try simp only [Mem.next_bump, Mem.next_put]); omega) | refine Low.put ?_ (by (try simp only [Mem.next_bump, Mem.next_put]); omega) | refine Low.bump ?_), fun y hy => by first | rfl | simp only [Mem.get_bump, Mem.get_put, ne_new0 hy, if_false]⟩ ⟨by (try simp only [Mem.next_bump]); omega, fun hl => by repeat (first | exact Low.up hl (by (try simp only [Mem.next_bump]); omega) | refine Low.put ?_ (by (try simp only [Mem.next_bump, Mem.next_put]); omega) | refine Low.bump ?_), fun y hy => by first | rfl | simp only [Mem.get_bump, Mem.get_put, ne_new hy, ne_new0 hy, if_false]⟩ (hf1 _)
  by_cases k5 : k = 5
  · subst k5
    simp only [f18, enumV, Nat.zero_add, w18, W_seq, w18_0, Nat.le_refl, X_box, Nat.reduceLT, ev_T, lk_cons, Nat.reduceEqDiff, if_true, if_false, box_agg, okI_some, Nat.add_zero, T_set, put_bump, X_assign, ev_const, X_nil, thenQ_normal, w18_1, Mem.next_bump, Mem.next_put, Nat.le_add_right, bump_bump, Nat.reduceAdd, X_fieldAddr EE_sym fo_46_0, offV_ptr, X_load EE_sym, load1 lay_3, Mem.get_bump, Mem.get_put, ld1_cells, nth_ofList, List.getElem?_cons_zero, W_block, w18_50, w18_2, X_eql EE_sym, eq_int, Int.reduceEq, decide_false, W_cond, CDi_f, w18_49, w18_7, w18_48, w18_11, w18_47, w18_16, w18_46, w18_21, w18_45, w18_25, decide_true, CDi_t, w18_29, w18_26, X_move, Nat.one_ne_zero, X_nilCheck EE_sym, nilV_ptr, X_fieldAddr EE_sym fo_31_1, load1 lay_27, p00, hp, hc.c1, X_fieldAddr EE_sym fo_46_3, List.getElem?_cons_succ, X_call ca_26, List.map_cons, List.map_nil, true_and]
    obtain ⟨a', e', d', h2⟩ := close2 (fd := fd) hd
    refine CallI.ex (h2.left _ _ 0 ?_) fun m1 hu1 => ?_
    · simp only [DAt, Mem.get_bump, Mem.get_put, d00, if_false, hS.hd]
    have n1 := hu1.next
    simp only [Mem.next_bump, Mem.next_put] at n1
    simp only [putT, Nat.reduceLT, T_set, X_move, ev_T, lk_cons, Nat.reduceEqDiff, if_false, if_true, X_extract EE_sym, List.getElem?_toArray, List.getElem?_cons_zero, okI_some, List.getElem?_cons_succ, X_assign, X_nil, thenQ_normal, W_seq, w18_27, n1, Nat.le_add_right, Nat.one_ne_zero, X_nilCheck EE_sym, nilV_ptr, X_fieldAddr EE_sym fo_31_3, offV_ptr, Nat.zero_add, X_load EE_sym, load1 lay_29, Mem.get_bump, hu1.get, e3, Mem.get_put, p00, hp, ld1_cells, hc.c3, X_fieldAddr EE_sym fo_46_3, load1 lay_3, q2, nth_ofList, X_call ca_41, List.map_cons, List.map_nil, true_and]
    have hl1 : Low m1 m1.next := by
      rw [n1]
      refine hu1.low (by have := hm.lt hS.hd; omega) ?_
      (repeat (first | refine Low.bump ?_ | refine Low.put ?_ (by omega)))
      exact Low.of hm (by omega)
    have hf1 : ∀ j, Fresh (m1.bump j) := fun j => ⟨by have := hm.n64; rw [Mem.next_bump]; omega, fun y hy => hl1 y (by rw [Mem.next_bump] at hy; omega)⟩
    obtain ⟨m2, N', hc2, hu2⟩ := h2.right (m1.bump _) v 0 N (hf1 _) ⟨by simp only [Mem.get_bump, Mem.get_put, hu1.get, v00, e4, if_false, hS.hv.ptr], by simp only [Mem.get_bump, Mem.get_put, hu1.get, N00, e5, if_false, hS.hv.arr]⟩
    refine CallI.con0 hc2 ?_
    have n2 := hu2.next
    simp only [Mem.next_bump, n1, Nat.add_assoc, Nat.reduceAdd] at n2
    have n3 : m.next ≤ m2.next := by omega
    simp only [putT, Nat.reduceLT, T_set, X_move, ev_T, lk_cons, Nat.reduceEqDiff, if_false, if_true, X_extract EE_sym, List.getElem?_toArray, List.getElem?_cons_zero, okI_some, List.getElem?_cons_succ, X_assign, X_nil, thenQ_normal, W_seq, w18_28, n3, X_eql EE_sym, eq_int, decide_true, X_guard EE_sym, T_get, GDi_tt, X_pick EE_sym, ev_const, pickV_bool, W_ret, blockQ_ret, thenQ_ret, FinX_ret, resA_tmp, resA_nil, Option.map_some, oneOr1, true_and]
    first
    | exact Step.endd hm ha hS hI h2.ok hu1 hu2 ⟨by (try simp only [Mem.next_bump, Mem.next_put]); omega, fun hl => by repeat (first | exact Low.up hl (by (try simp only [Mem.next_bump, Mem.next_put]); omega) | refine Low.put ?_ (by (try simp only [Mem.next_bump, Mem.next_put]); omega) | refine Low.bump ?_), fun y hy => by first | rfl | simp only [Mem.get_bump, Mem.get_put, ne_new0 hy, if_false]⟩ ⟨by (try simp only [Mem.next_bump]); omega, fun hl => by repeat (first | exact Low.up hl (by (try simp only [Mem.next_bump]); omega) | refine Low.put ?_ (by (try simp only [Mem.next_bump, Mem.next_put]); omega) | refine Low.bump ?_), fun y hy => by first | rfl | simp only [Mem.get_bump, Mem.get_put, ne_new hy, ne_new0 hy, if_false]⟩ (hf1 _)
    | exact Step.endd (j := 0) hm ha hS hI h2.ok hu1 hu2 ⟨by (try simp only [Mem.next_bump, Mem.next_put]); omega, fun hl => by repeat (first | exact Low.up hl (by (try simp only [Mem.next_bump, Mem.next_put]); omega) | refine Low.put ?_ (by (try simp only [Mem.next_bump, Mem.next_put]); omega) | refine Low.bump ?_), fun y hy => by first | rfl | simp only [Mem.get_bump, Mem.get_put, ne_new hy, ne_new0 hy, if_false]⟩ ⟨by (try simp only [Mem.next_bump, Mem.next_put]); omega, fun hl => by repeat (first | exact Low.up hl (by (try simp only [Mem.next_bump, Mem.next_put]); omega) | refine Low.put ?_ (by (try simp only [Mem.next_bump, Mem.next_put]); omega) | refine Low.bump ?_), fun y hy => by first | rfl | simp only [Mem.get_bump, Mem.get_put, ne_new hy, ne_new0 hy, if_false]⟩ (hf1 _)
  by_cases k6 : k = 6
  · subst k6
    simp only [f18, enumV, Nat.zero_add, w18, W_seq, w18_0, Nat.le_refl, X_box, Nat.reduceLT, ev_T, lk_cons, Nat.reduceEqDiff, if_true, if_false, box_agg, okI_some, Nat.add_zero, T_set, put_bump, X_assign, ev_const, X_nil, thenQ_normal, w18_1, Mem.next_bump, Mem.next_put, Nat.le_add_right, bump_bump, Nat.reduceAdd, X_fieldAddr EE_sym fo_46_0, offV_ptr, X_load EE_sym, load1 lay_3, Mem.get_bump, Mem.get_put, ld1_cells, nth_ofList, List.getElem?_cons_zero, W_block, w18_50, w18_2, X_eql EE_sym, eq_int, Int.reduceEq, decide_false, W_cond, CDi_f, w18_49, w18_7, w18_48, w18_11, w18_47, w18_16, w18_46, w18_21, w18_45, w18_25, w18_44, w18_30, decide_true, CDi_t, w18_34, w18_31, X_move, Nat.one_ne_zero, X_nilCheck EE_sym, nilV_ptr, X_fieldAddr EE_sym fo_31_1, load1 lay_27, p00, hp, hc.c1, X_fieldAddr EE_sym fo_46_3, List.getElem?_cons_succ, X_call ca_25, List.map_cons, List.map_nil, true_and]
    obtain ⟨a', e', d', h2⟩ := dup2 (fd := fd) hd
    refine CallI.ex (h2.left _ _ 0 ?_) fun m1 hu1 => ?_
    · simp only [DAt, Mem.get_bump, Mem.get_put, d00, if_false, hS.hd]
    have n1 := hu1.next
    simp only [Mem.next_bump, Mem.next_put] at n1
    simp only [putT, Nat.reduceLT, T_set, X_move, ev_T, lk_cons, Nat.reduceEqDiff, if_false, if_true, X_extract EE_sym, List.getElem?_toArray, List.getElem?_cons_zero, okI_some, List.getElem?_cons_succ, X_assign, X_nil, thenQ_normal, W_seq, w18_32, n1, Nat.le_add_right, Nat.one_ne_zero, X_nilCheck EE_sym, nilV_ptr, X_fieldAddr EE_sym fo_31_3, offV_ptr, Nat.zero_add, X_load EE_sym, load1 lay_29, Mem.get_bump, hu1.get, e3, Mem.get_put, p00, hp, ld1_cells, hc.c3, X_fieldAddr EE_sym fo_46_3, load1 lay_3, q2, nth_ofList, X_call ca_42, List.map_cons, List.map_nil, true_and]
    have hl1 : Low m1 m1.next := by
      rw [n1]
      refine hu1.low (by have := hm.lt hS.hd; omega) ?_
      (repeat (first | refine Low.bump ?_ | refine Low.put ?_ (by omega)))
      exact Low.of hm (by omega)
    have hf1 : ∀ j, Fresh (m1.bump j) := fun j => ⟨by have := hm.n64; rw [Mem.next_bump]; omega, fun y hy => hl1 y (by rw [Mem.next_bump] at hy; omega)⟩
    obtain ⟨m2, N', hc2, hu2⟩ := h2.right (m1.bump _) v 0 N (hf1 _) ⟨by simp only [Mem.get_bump, Mem.get_put, hu1.get, v00, e4, if_false, hS.hv.ptr], by simp only [Mem.get_bump, Mem.get_put, hu1.get, N00, e5, if_false, hS.hv.arr]⟩
    refine CallI.con0 hc2 ?_
    have n2 := hu2.next
    simp only [Mem.next_bump, n1, Nat.add_assoc, Nat.reduceAdd] at n2
    have n3 : m.next ≤ m2.next := by omega
    simp only [putT, Nat.reduceLT, T_set, X_move, ev_T, lk_cons, Nat.reduceEqDiff, if_false, if_true, X_extract EE_sym, List.getElem?_toArray, List.getElem?_cons_zero, okI_some, List.getElem?_cons_succ, X_assign, X_nil, thenQ_normal, W_seq, w18_33, n3, X_eql EE_sym, eq_int, decide_true, X_guard EE_sym, T_get, GDi_tt, X_pick EE_sym, ev_const, pickV_bool, W_ret, blockQ_ret, thenQ_ret, FinX_ret, resA_tmp, resA_nil, Option.map_some, oneOr1, true_and]
    first
    | exact Step.endd hm ha hS hI h2.ok hu1 hu2 ⟨by (try simp only [Mem.next_bump, Mem.next_put]); omega, fun hl => by repeat (first | exact Low.up hl (by (try simp only [Mem.next_bump, Mem.next_put]); omega) | refine Low.put ?_ (by (try simp only [Mem.next_bump, Mem.next_put]); omega) | refine Low.bump ?_), fun y hy => by first | rfl | simp only [Mem.get_bump, Mem.get_put, ne_new0 hy, if_false]⟩ ⟨by (try simp only [Mem.next_bump]); omega, fun hl => by repeat (first | exact Low.up hl (by (try simp only [Mem.next_bump]); omega) | refine Low.put ?_ (by (try simp only [Mem.next_bump, Mem.next_put]); omega) | refine Low.bump ?_), fun y hy => by first | rfl | simp only [Mem.get_bump, Mem.get_put, ne_new hy, ne_new0 hy, if_false]⟩ (hf1 _)
    | exact Step.endd (j := 0) hm ha hS hI h2.ok hu1 hu2 ⟨by (try simp only [Mem.next_bump, Mem.next_put]); omega, fun hl => by repeat (first | exact Low.up hl (by (try simp only [Mem.next_bump, Mem.next_put]); omega) | refine Low.put ?_ (by (try simp only [Mem.next_bump, Mem.next_put]); omega) | refine Low.bump ?_), fun y hy => by first | rfl | simp only [Mem.get_bump, Mem.get_put, ne_new hy, ne_new0 hy, if_false]⟩ ⟨by (try simp only [Mem.next_bump, Mem.next_put]); omega, fun hl => by repeat (first | exact Low.up hl (by (try simp only [Mem.next_bump, Mem.next_put]); omega) | refine Low.put ?_ (by (try simp only [Mem.next_bump, Mem.next_put]); omega) | refine Low.bump ?_), fun y hy => by first | rfl | simp only [Mem.get_bump, Mem.get_put, ne_new hy, ne_new0 hy, if_false]⟩ (hf1 _)
  by_cases k7 : k = 7
  · subst k7
    simp only [f18, enumV, Nat.zero_add, w18, W_seq, w18_0, Nat.le_refl, X_box, Nat.reduceLT, ev_T, lk_cons, Nat.reduceEqDiff, if_true, if_false, box_agg, okI_some, Nat.add_zero, T_set, put_bump, X_assign, ev_const, X_nil, thenQ_normal, w18_1, Mem.next_bump, Mem.next_put, Nat.le_add_right, bump_bump, Nat.reduceAdd, X_fieldAddr EE_sym fo_46_0, offV_ptr, X_load EE_sym, load1 lay_3, Mem.get_bump, Mem.get_put, ld1_cells, nth_ofList, List.getElem?_cons_zero, W_block, w18_50, w18_2, X_eql EE_sym, eq_int, Int.reduceEq, decide_false, W_cond, CDi_f, w18_49, w18_7, w18_48, w18_11, w18_47, w18_16, w18_46, w18_21, w18_45, w18_25, w18_44, w18_30, w18_43, w18_35, decide_true, CDi_t, w18_42, w18_36, X_move, Nat.one_ne_zero, X_nilCheck EE_sym, nilV_ptr, X_fieldAddr EE_sym fo_31_0, load1 lay_26, p00, hp, hc.c0, X_fieldAddr EE_sym fo_31_1, load1 lay_27, hc.c1, w18_37, X_call ca_12, List.map_cons, List.map_nil, true_and]
    refine CallI.con0 (copy_ok (s := s) (sz := 0) (by simp only [FAt, Mem.get_bump, Mem.get_put, f00, if_false, hS.hf])) ?_
    simp only [Mem.next_bump, Mem.next_put, put_bump, bump_bump, Nat.reduceAdd, putT, Nat.reduceLT, T_set, X_move, ev_T, lk_cons, Nat.reduceEqDiff, if_false, if_true, X_call ca_27, List.map_cons, List.map_nil]
    refine CallI.con (dcopy_ok (d := d) (sz := 0) (by simp only [DAt, Mem.get_bump, Mem.get_put, d0, d00, if_false, hS.hd])) (by simp) ?_
    have q6 : ∀ j, ¬ m.next + j = p := fun j e => p0 j e.symm
    have q7 : ∀ j, ¬ m.next + j = dd := fun j e => d0 j e.symm
    have e1' : ¬ f = p := fun e => e1 e.symm
    have e3x : ¬ dd = p := fun e => e3 e.symm
    have e7 : ¬ dd = f := hS.fd.symm
    have hwn : (cp.write 0 [PT (m.next + 42)]).n = 4 := hc.n
    simp only [Mem.next_bump, Mem.next_put, put_bump, bump_bump, Nat.reduceAdd, putT, Nat.reduceLT, T_set, X_nilCheck EE_sym, ev_T, lk_cons, Nat.reduceEqDiff, if_false, if_true, nilV_ptr, okI_some, X_fieldAddr EE_sym fo_31_0, offV_ptr, Nat.add_zero, X_store, store1 sz_26, Mem.get_bump, Mem.get_put, p0, p00, hp, cells_ptr, st1_cells, List.length_cons, List.length_nil, Nat.zero_add, hc.n, Nat.reduceLeDiff, List.all_cons, oneCell, List.all_nil, Bool.and_self, and_self, X_fieldAddr EE_sym fo_31_1, store1 sz_27, write_n, X_nil, thenQ_normal, W_seq, w18_38, Nat.le_add_right, X_move, X_build EE_sym, List.map_nil, b34, X_call ca_21, List.map_cons, true_and]
    obtain ⟨a', e', s1, W1, h1⟩ := open2 (p := 0) (w := false) hI
    refine CallI.ex (h1.left _ _ 0 ?_) fun m1 hu1 => ?_
    · simp only [FAt, Mem.get_bump, Mem.get_put, f0, f00, e1', if_false, hS.hf]
    have n1 := hu1.next
    simp only [Mem.next_bump, Mem.next_put] at n1
    simp only [putT, Nat.reduceLT, T_set, X_nil, thenQ_normal, W_seq, w18_39, n1, Nat.le_add_right, X_move, ev_T, lk_cons, Nat.reduceEqDiff, if_false, if_true, X_call ca_15, List.map_cons, ev_const, List.map_nil, true_and]
    obtain ⟨a2, p2, w2, e2', s2, W2, h2⟩ := drop2 (n := 0) h1.inv (by omega)
    refine CallI.ex (h2.left _ _ 0 ?_) fun m2 hu2 => ?_
    · simp only [FAt, Mem.get_bump, hu1.get, if_true]
    have n2 := hu2.next
    simp only [Mem.next_bump, n1] at n2
    simp only [putT, Nat.reduceLT, T_set, X_nil, thenQ_normal, W_seq, w18_40, n2, Nat.add_assoc, Nat.reduceAdd, Nat.le_add_right, X_move, ev_T, lk_cons, Nat.reduceEqDiff, if_false, if_true, X_call ca_33, List.map_cons, ev_const, List.map_nil, true_and]
    obtain ⟨a3, e3', d3, h3⟩ := put2 (n := 1) hd
    refine CallI.ex (h3.left _ _ 0 ?_) fun m3 hu3 => ?_
    · simp only [DAt, Mem.get_bump, hu2.get, hu1.get, Mem.get_put, d0, d00, e3x, e7, if_false, hS.hd]
    have n3 := hu3.next
    simp only [Mem.next_bump, n2] at n3
    simp only [putT, Nat.reduceLT, T_set, X_nil, thenQ_normal, w18_41, n3, Nat.add_assoc, Nat.reduceAdd, Nat.le_add_right, X_move, ev_T, lk_cons, Nat.reduceEqDiff, if_false, if_true, X_call ca_26, List.map_cons, ev_const, List.map_nil, true_and]
    obtain ⟨a4, e4', d4, h4⟩ := close2 (fd := 0) h3.ok
    refine CallI.ex (h4.left _ _ 0 ?_) fun m4 hu4 => ?_
    · simp only [DAt, Mem.get_bump, hu3.get, if_true]
    have n4 := hu4.next
    simp only [Mem.next_bump, n3] at n4
    simp only [putT, Nat.reduceLT, T_set, X_nil, blockQ_normal, thenQ_normal, W_seq, w18_51, n4, Nat.add_assoc, Nat.reduceAdd, Nat.le_add_right, X_assign, ev_const, W_ret, FinX_ret, resA_tmp, T_get, lk_cons, Nat.reduceEqDiff, if_false, if_true, resA_nil, Option.map_some, okI_some, oneOr1, true_and]
    have lp := hS.hp.lt hm
    have lf := hm.lt hS.hf
    have ld := hm.lt hS.hd
    have e8 : ¬ w = dd := hS.dw.symm
    have e9 : ¬ v = f := hS.fv.symm
    have e10 : ¬ N = f := hS.fN.symm
    have e11 : ¬ w = p := hS.pw.symm
    have e12 : ¬ v = p := hS.pv.symm
    have e13 : ¬ N = p := hS.pN.symm
    refine Step.end (f' := m.next + 42) (dd' := m.next + 43) (s' := s) (d' := d) (W' := W) (w' := w) (v' := v) (N' := N) hm ha hS (by rw [Mem.next_bump, n4]; omega) ?_ ⟨?_, ?_, ?_, ?_, ⟨?_, ?_⟩, ?_, hS.lp, by omega, by omega, hS.lw, hS.lv, hS.lN⟩ (hI.mono (by omega)) hd fun y hy y1 y2 y3 y4 y5 => ?_
    · rw [Mem.next_bump, n4]
      refine Low.bump (hu4.low (by omega) (Low.bump (hu3.low (by omega) (Low.bump (hu2.low (by omega) (Low.bump (hu1.low (by omega) ?_)))))))
      repeat (first | exact Low.of hm (by omega) | refine Low.put ?_ (by omega) | refine Low.bump ?_)
    · refine ⟨(cp.write 0 [PT (m.next + 42)]).write 1 [PT (m.next + 43)], by simp only [Mem.get_bump, hu4.get, hu3.get, hu2.get, hu1.get, Mem.get_put, e1, e3, if_false, if_true], hc.n, ?_, ?_, ?_, ?_⟩
      · rw [nth_write, if_neg (by simp), nth_write, if_pos (by simp [hc.n])]; rfl
      · rw [nth_write, if_pos (by simp [hwn])]; rfl
      · rw [nth_write, if_neg (by simp), nth_write, if_neg (by simp), hc.c2]
      · rw [nth_write, if_neg (by simp), nth_write, if_neg (by simp), hc.c3]
    · have z1 : ¬ (m.next + 42 = m.next + 43) := by omega
      simp only [FAt, Mem.get_bump, hu4.get, hu3.get, hu2.get, hu1.get, Mem.get_put, q4, q7, q6, z1, if_false, if_true]
    · simp only [DAt, Mem.get_bump, hu4.get, hu3.get, hu2.get, hu1.get, Mem.get_put, q4, q7, q6, if_false, if_true]
    · simp only [WAt, Mem.get_bump, hu4.get, hu3.get, hu2.get, hu1.get, Mem.get_put, e2, e8, e11, w0, w00, if_false, hS.hw]
    · simp only [Mem.get_bump, hu4.get, hu3.get, hu2.get, hu1.get, Mem.get_put, e4, e9, e12, v0, v00, if_false, hS.hv.ptr]
    · simp only [Mem.get_bump, hu4.get, hu3.get, hu2.get, hu1.get, Mem.get_put, e5, e10, e13, N0, N00, if_false, hS.hv.arr]
    · exact fun e => w0 42 e.symm
    · simp only [Mem.get_bump, hu4.get, hu3.get, hu2.get, hu1.get, Mem.get_put, y1, y2, y3, ne_new hy, ne_new0 hy, if_false]
  · simp only [f18, enumV, Nat.zero_add, w18, W_seq, w18_0, Nat.le_refl, X_box, Nat.reduceLT, ev_T, lk_cons, Nat.reduceEqDiff, if_true, if_false, box_agg, okI_some, Nat.add_zero, T_set, put_bump, X_assign, ev_const, X_nil, thenQ_normal, w18_1, Mem.next_bump, Mem.next_put, Nat.le_add_right, bump_bump, Nat.reduceAdd, X_fieldAddr EE_sym fo_46_0, offV_ptr, X_load EE_sym, load1 lay_3, Mem.get_bump, Mem.get_put, ld1_cells, nth_ofList, List.getElem?_cons_zero, W_block, w18_50, w18_2, X_eql EE_sym, eq_int, k0, decide_false, W_cond, CDi_f, w18_49, w18_7, k1, w18_48, w18_11, k2, w18_47, w18_16, k3, w18_46, w18_21, k4, w18_45, w18_25, k5, w18_44, w18_30, k6, w18_43, w18_35, k7, W_skip, blockQ_normal, w18_51, W_ret, FinX_ret, resA_tmp, T_get, resA_nil, Option.map_some, oneOr1, true_and]
    have kk : ∀ y, y < m.next → ((m.put m.next (.cells (Cells.ofList [In k, In pp, .bool ww, In n, In fd]) true 0)).bump 24).get y = m.get y := fun y hy => by simp only [Mem.get_bump, Mem.get_put, ne_new0 hy, if_false]
    refine Step.end hm ha hS (by simp only [Mem.next_bump, Mem.next_put]; omega) ?_ (hS.keep fun y o hy => (kk y (hm.lt hy)).trans hy) (hI.mono (by omega)) hd fun y hy _ _ _ _ _ => kk y hy
    repeat (first | exact Low.of hm (by (try simp only [Mem.next_bump, Mem.next_put]); omega) | refine Low.put ?_ (by (try simp only [Mem.next_bump, Mem.next_put]); omega) | refine Low.bump ?_)
end
end
end Go.Ab
