/- Files: a new pair of both sides. -/
import Derived.Test.YthidhnbniklhmaaFiJ
namespace Go.Ab
open Go.Proofs
noncomputable section
set_option maxHeartbeats 1000000
section
variable {a : Nat} {m : Mem} {p f dd w v N : Nat} {s : FS} {d : Nat → Int} {W : FS}
theorem b31 : buildA EE.P 31 [(0, PT f), (1, PT dd), (2, PT w), (3, PT v)] = some (.agg [PT f, PT dd, PT w, PT v].toArray) := by kernel_rfl
def zs : FS := ⟨fun _ => 0, fun _ => false, fun _ => 0⟩
theorem fresh_ok (hm : Fresh m) : ∃ p m', Con EE.P 17 [] m (PT p) m' ∧ m.next ≤ m'.next ∧ Fresh m' ∧ St m.next m' p 0 ∧ ∀ y, y < m.next → m'.get y = m.get y := by
  have := Con.raw (m := m) (args := []) EE_ok fn17 (Nat.le_of_ble_eq_true rfl) (fun v m' => ∃ p, v = PT p ∧ m.next ≤ m'.next ∧ Fresh m' ∧ St m.next m' p 0 ∧ ∀ y, y < m.next → m'.get y = m.get y) ?_
  · obtain ⟨v, m', h1, p, rfl, h2⟩ := this
    exact ⟨p, m', h1, h2⟩
  simp only [f17, enumV, w17, W_seq, w17_0, Nat.le_refl, X_assign, ev_const, Nat.reduceLT, T_set, X_nil, thenQ_normal, w17_1, Mem.next_bump, Nat.le_add_right, bump_bump, Nat.reduceAdd, X_build EE_sym, List.map_nil, b74, okI_some, X_box, ev_T, lk_cons, Nat.reduceEqDiff, if_false, if_true, box_agg, Nat.add_assoc, put_bump, b69, b65, X_call ca_35, true_and]
  refine CallI.ex (R := fun m' => VAt m' (m.next + 11) 0 (m.next + 11 + 1) (fun _ => 0) ∧ m.next + 11 + 2 = m'.next ∧ (∀ y, m.next + 11 + 2 ≤ y → m'.get y = _) ∧ ∀ y, y < m.next + 11 → m'.get y = _) (wnew_ok) fun m1 h1 => ?_
  obtain ⟨h1, h2, h4, h3⟩ := h1
  have h2' : m1.next = m.next + 13 := by omega
  simp only [Mem.next_bump, Mem.next_put, putT, Nat.reduceLT, T_set, X_build EE_sym, List.map_cons, ev_T, lk_cons, Nat.reduceEqDiff, if_false, if_true, List.map_nil, b31, okI_some, X_box, box_agg, Nat.add_assoc, Nat.reduceAdd, X_assign, X_nil, thenQ_normal, W_ret, FinX_ret, resA_tmp, T_get, Nat.one_ne_zero, resA_nil, Option.map_some, oneOr1]
  have g : ∀ y, y < m.next + 11 → y ≠ m.next + 9 → (m1.put (m.next + 9) (.cells (Cells.ofList [PT (m.next + 2), PT (m.next + 4), PT (m.next + 6), PT (m.next + 11)]) true 0)).get y = _ := fun y hy hy2 => by rw [Mem.get_put, if_neg hy2, h3 y hy]
  have x1 : ∀ a b : Nat, a ≠ b → ¬ m.next + a = m.next + b := fun a b h => by omega
  have h64 := hm.n64
  refine ⟨⟨by simp only [Mem.next_put]; omega, fun y hy e => ?_⟩, _, rfl, by simp only [Mem.next_put]; omega, ⟨by simp only [Mem.next_put]; omega, ?_⟩, ⟨m.next + 2, m.next + 4, m.next + 6, m.next + 11, m.next + 12, zs, fun _ => 0, zs, ⟨⟨_, by rw [Mem.get_put, if_pos rfl], rfl, rfl, rfl, rfl, rfl⟩, ?_, ?_, ?_, ⟨?_, ?_⟩, by omega, by omega, by omega, by omega, by omega, by omega, by omega⟩, ⟨fun _ => Int.le_refl 0, fun _ => Int.le_refl 0, fun _ => rfl, fun k hk => absurd rfl hk⟩, fun k => ⟨Int.le_refl 0, (by decide : (0 : Int) ≤ 64)⟩⟩, fun y hy => ?_⟩
  · rw [g y (by omega) (by omega)]
    simp only [Mem.get_bump, Mem.get_put, ne_new hy, if_false]
    exact e
  · simp only [Mem.next_put, h2']
    refine Low.put (fun y hy => ?_) (by omega)
    rw [h4 y (by omega)]
    refine (?_ : Low _ (m.next + 13)) y hy
    repeat (first | exact Low.of hm (by omega) | refine Low.put ?_ (by omega) | refine Low.bump ?_)
  · rw [FAt, g _ (by omega) (by omega)]
    simp only [Mem.get_bump, Mem.get_put, Nat.add_left_cancel_iff, Nat.reduceEqDiff, if_false, if_true]
    rfl
  · rw [DAt, g _ (by omega) (by omega)]
    simp only [Mem.get_bump, Mem.get_put, Nat.add_left_cancel_iff, Nat.reduceEqDiff, if_false, if_true]
    rfl
  · rw [WAt, g _ (by omega) (by omega)]
    simp only [Mem.get_bump, Mem.get_put, Nat.add_left_cancel_iff, Nat.reduceEqDiff, if_false, if_true]
    rfl
  · rw [Mem.get_put, if_neg (by omega)]; exact h1.ptr
  · rw [Mem.get_put, if_neg (by omega)]; exact h1.arr
  · rw [g y (by omega) (by omega)]
    simp only [Mem.get_bump, Mem.get_put, ne_new hy, if_false]
end
end
end Go.Ab
