/- Signals: equality of signals; the contracts of Next and Wakes. -/
import Derived.Test.YthpncefkklojlaaSgC
namespace Go.Proofs.Ythpncefkklojlaa.sig
open Go.Ab
set_option linter.unusedVariables false

/-! ### two signals are equal -/
theorem u22 : Try.prog.underlying 22 = some (.int .u32) := by kernel_rfl
theorem u23 : Try.prog.underlying 23 = some (.array 16 22) := by kernel_rfl
theorem c22 : Try.prog.cellsOf 22 = 1 := by kernel_rfl
theorem c23 : Try.prog.cellsOf 23 = 16 := by kernel_rfl
theorem c25 : Try.prog.cellsOf 25 = 19 := by kernel_rfl
theorem c4 : Try.prog.cellsOf 4 = 1 := by kernel_rfl
theorem wf32 (x : BitVec 32) : (Lit.int .u32 (x.toNat : Int)).wf = true := by
  have := x.isLt
  have h1 : IntKind.u32.min = 0 := rfl
  have h2 : IntKind.u32.max = 4294967295 := rfl
  simp only [Lit.wf, h1, h2, Bool.and_eq_true, decide_eq_true_eq]
  omega
theorem k22 (d : Nat) (x : BitVec 32) : Try.prog.keyLits (d + 1) 22 [U x] = some [.int .u32 x.toNat] := by
  simp [Program.keyLits, wf32]
theorem k4 (d : Nat) (x : Bool) : Try.prog.keyLits (d + 1) 4 [B x] = some [.bool x] := by
  simp [Program.keyLits]
theorem k23 (d : Nat) (a0 a1 a2 a3 a4 a5 a6 a7 a8 a9 a10 a11 a12 a13 a14 a15 : BitVec 32) : Try.prog.keyLits (d + 2) 23 [U a0, U a1, U a2, U a3, U a4, U a5, U a6, U a7, U a8, U a9, U a10, U a11, U a12, U a13, U a14, U a15] = some [.int .u32 a0.toNat, .int .u32 a1.toNat, .int .u32 a2.toNat, .int .u32 a3.toNat, .int .u32 a4.toNat, .int .u32 a5.toNat, .int .u32 a6.toNat, .int .u32 a7.toNat, .int .u32 a8.toNat, .int .u32 a9.toNat, .int .u32 a10.toNat, .int .u32 a11.toNat, .int .u32 a12.toNat, .int .u32 a13.toNat, .int .u32 a14.toNat, .int .u32 a15.toNat] := by
  unfold Program.keyLits
  rw [u23]
  show (if _ = Try.prog.cellsOf 23 then _ else _) = _
  rw [if_pos (by rw [c23]; rfl)]
  show Option.map List.flatten (List.mapM (fun i => Try.prog.keyLits (d + 1) 22 (List.take (Try.prog.cellsOf 22) (List.drop (i * Try.prog.cellsOf 22) _))) [0, 1, 2, 3, 4, 5, 6, 7, 8, 9, 10, 11, 12, 13, 14, 15]) = _
  rw [c22]
  simp [k22]
theorem mapM_on {α β γ : Type} (g : α → β) (f : β → Option γ) : ∀ l : List α, l.mapM (fun a => f (g a)) = (l.map g).mapM f
  | [] => rfl
  | a :: l => by simp only [List.mapM_cons, List.map_cons, mapM_on g f l]
def lits (s : S) : List Lit := [.int .u32 s.p.toNat, .int .u32 s.m.toNat, .int .u32 s.h0.toNat, .int .u32 s.h1.toNat, .int .u32 s.h2.toNat, .int .u32 s.h3.toNat, .int .u32 s.h4.toNat, .int .u32 s.h5.toNat, .int .u32 s.h6.toNat, .int .u32 s.h7.toNat, .int .u32 s.h8.toNat, .int .u32 s.h9.toNat, .int .u32 s.h10.toNat, .int .u32 s.h11.toNat, .int .u32 s.h12.toNat, .int .u32 s.h13.toNat, .int .u32 s.h14.toNat, .int .u32 s.h15.toNat, .bool s.b]
abbrev cells (s : S) : List Value := [U s.p, U s.m, U s.h0, U s.h1, U s.h2, U s.h3, U s.h4, U s.h5, U s.h6, U s.h7, U s.h8, U s.h9, U s.h10, U s.h11, U s.h12, U s.h13, U s.h14, U s.h15, B s.b]
theorem k25 (d : Nat) (s : S) : Try.prog.keyLits (d + 3) 25 (cells s) = some (lits s) := by
  have hu : Try.prog.underlying 25 = some (.struct (Try.prog.fieldsOf 25)) := by kernel_rfl
  have hf : (Try.prog.fieldsOf 25).toList.map (fun f => (f.type, f.offset)) = [(22, 0), (22, 1), (23, 2), (4, 18)] := by kernel_rfl
  have hn : (Try.prog.fieldsOf 25).all (·.name != "_") = true := by kernel_rfl
  unfold Program.keyLits
  rw [hu]
  show (if _ = Try.prog.cellsOf 25 ∧ _ then _ else _) = _
  rw [if_pos ⟨by rw [c25]; rfl, hn⟩, mapM_on (fun f : Field => (f.type, f.offset)) (fun p => Try.prog.keyLits (d + 2) p.1 (List.take (Try.prog.cellsOf p.1) (List.drop p.2 (cells s)))), hf]
  simp [c22, c23, c4, k22, k23, k4, lits]
theorem lits_inj {a b : S} : lits a = lits b ↔ a = b := by
  constructor
  · intro h
    have e : ∀ {x y : BitVec 32}, Lit.int .u32 (x.toNat : Int) = Lit.int .u32 (y.toNat : Int) → x = y := fun h => by
      simp only [Lit.int.injEq, true_and, Int.natCast_inj] at h
      exact BitVec.eq_of_toNat_eq h
    simp only [lits, List.cons.injEq, Lit.bool.injEq, and_true] at h
    obtain ⟨g0, g1, g2, g3, g4, g5, g6, g7, g8, g9, g10, g11, g12, g13, g14, g15, g16, g17, g18⟩ := h
    cases a
    cases b
    simp only at *
    simp only [e g0, e g1, e g2, e g3, e g4, e g5, e g6, e g7, e g8, e g9, e g10, e g11, e g12, e g13, e g14, e g15, e g16, e g17, g18]
  · rintro rfl
    rfl
theorem eq_S (a b : S) {r : Bool} (h : decide (a = b) = r) {op : BinOp} (hop : op = .eql ∨ op = .neq) (xo yo : Operand) (w : World) :
    (do eqGuard op 25 xo yo (V a) (V b); binOp op 25 (V a) (V b) : Sem Value).run Try.prog w = .ok (.bool (match op with | .eql => r | _ => !r)) w :=
  eq_deep (m := 3) (by decide) (by kernel_rfl) (by kernel_rfl) (by kernel_rfl) (by kernel_rfl) (k25 _ a) (k25 _ b) (by rw [← h, decide_eq_true_eq, lits_inj]) hop xo yo w
theorem hold_eql_S {ds : List Value} {x y : Value} {a b : S} {r : Bool} (hx : er ds x = V a) (hy : er ds y = V b) (h : decide (a = b) = r) : Fact.Holds Try.prog ds (.bin .eql 25 x y (.bool r)) :=
  ⟨rfl, fun xo yo w => by rw [hx, hy]; exact eq_S a b h (.inl rfl) xo yo w⟩
theorem hold_neq_S {ds : List Value} {x y : Value} {a b : S} {r : Bool} (hx : er ds x = V a) (hy : er ds y = V b) (h : decide (a = b) = r) : Fact.Holds Try.prog ds (.bin .neq 25 x y (.bool !r)) :=
  ⟨rfl, fun xo yo w => by rw [hx, hy]; exact eq_S a b h (.inr rfl) xo yo w⟩

/-! ### Next -/
structure N where
  (sig wh : Int)
  to : S
def ready (s : S) : BitVec 32 := if s.b then ((s.p &&& ~~~s.m) &&& 512#32) else (s.p &&& ~~~s.m)
def nx (s : S) : N := if okS s then ⟨(scan s (ready s) 15 1 s.p).1, (scan s (ready s) 15 1 s.p).2.1, { s with p := (scan s (ready s) 15 1 s.p).2.2, b := s.b || ((scan s (ready s) 15 1 s.p).2.1 == 2) }⟩ else ⟨0, 0, s⟩
theorem nextF_1 {s : S} (h0 : okS { s with b := false } = false) : PureOk Try.prog 14 [(V { s with b := false })] (.tuple #[(I 0), (I 0), (V { s with b := false })]) :=
  pure_of_run (ds := [U s.p, U s.m, U s.h0, U s.h1, U s.h2, U s.h3, U s.h4, U s.h5, U s.h6, U s.h7, U s.h8, U s.h9, U s.h10, U s.h11, U s.h12, U s.h13, U s.h14, U s.h15]) (len := 18) (n := 60) (args := [(.agg #[(leaf 0), (leaf 1), (leaf 2), (leaf 3), (leaf 4), (leaf 5), (leaf 6), (leaf 7), (leaf 8), (leaf 9), (leaf 10), (leaf 11), (leaf 12), (leaf 13), (leaf 14), (leaf 15), (leaf 16), (leaf 17), (.bool false)])]) (v := (.tuple #[(.int .i64 0), (.int .i64 0), (.agg #[(leaf 0), (leaf 1), (leaf 2), (leaf 3), (leaf 4), (leaf 5), (leaf 6), (leaf 7), (leaf 8), (leaf 9), (leaf 10), (leaf 11), (leaf 12), (leaf 13), (leaf 14), (leaf 15), (leaf 16), (leaf 17), (.bool false)])]))
    (fs := [.call 11 [(.agg #[(leaf 0), (leaf 1), (leaf 2), (leaf 3), (leaf 4), (leaf 5), (leaf 6), (leaf 7), (leaf 8), (leaf 9), (leaf 10), (leaf 11), (leaf 12), (leaf 13), (leaf 14), (leaf 15), (leaf 16), (leaf 17), (.bool false)])] (.int .i64 120)]) mixed rfl rfl (by kernel_rfl)
    (allHold ⟨⟨rfl, check_no (s := { s with b := false }) h0⟩, trivial⟩)

theorem nextT_1 {s : S} (h0 : okS { s with b := true } = false) : PureOk Try.prog 14 [(V { s with b := true })] (.tuple #[(I 0), (I 0), (V { s with b := true })]) :=
  pure_of_run (ds := [U s.p, U s.m, U s.h0, U s.h1, U s.h2, U s.h3, U s.h4, U s.h5, U s.h6, U s.h7, U s.h8, U s.h9, U s.h10, U s.h11, U s.h12, U s.h13, U s.h14, U s.h15]) (len := 18) (n := 60) (args := [(.agg #[(leaf 0), (leaf 1), (leaf 2), (leaf 3), (leaf 4), (leaf 5), (leaf 6), (leaf 7), (leaf 8), (leaf 9), (leaf 10), (leaf 11), (leaf 12), (leaf 13), (leaf 14), (leaf 15), (leaf 16), (leaf 17), (.bool true)])]) (v := (.tuple #[(.int .i64 0), (.int .i64 0), (.agg #[(leaf 0), (leaf 1), (leaf 2), (leaf 3), (leaf 4), (leaf 5), (leaf 6), (leaf 7), (leaf 8), (leaf 9), (leaf 10), (leaf 11), (leaf 12), (leaf 13), (leaf 14), (leaf 15), (leaf 16), (leaf 17), (.bool true)])]))
    (fs := [.call 11 [(.agg #[(leaf 0), (leaf 1), (leaf 2), (leaf 3), (leaf 4), (leaf 5), (leaf 6), (leaf 7), (leaf 8), (leaf 9), (leaf 10), (leaf 11), (leaf 12), (leaf 13), (leaf 14), (leaf 15), (leaf 16), (leaf 17), (.bool true)])] (.int .i64 120)]) mixed rfl rfl (by kernel_rfl)
    (allHold ⟨⟨rfl, check_no (s := { s with b := true }) h0⟩, trivial⟩)

theorem next_ok {s : S} : PureOk Try.prog 14 [V s] (.tuple #[I (nx s).sig, I (nx s).wh, V (nx s).to]) := by
  cases hb : s.b with
  | false =>
    have e : s = { s with b := false } := by rw [← hb]
    cases ho : okS s with
    | false =>
      have := nextF_1 (s := s) (by rw [← e]; exact ho)
      rw [← e] at this
      simpa only [nx, ho, Bool.false_eq_true, if_false] using this
    | true =>
      have := nextF (s := s) (by rw [← e]; exact ho) rfl
      rw [← e] at this
      have er : ready s = (s.p &&& ~~~s.m) := by simp only [ready, hb, Bool.false_eq_true, if_false]
      simpa only [nx, ho, if_true, er, hb, Bool.false_or] using this
  | true =>
    have e : s = { s with b := true } := by rw [← hb]
    cases ho : okS s with
    | false =>
      have := nextT_1 (s := s) (by rw [← e]; exact ho)
      rw [← e] at this
      simpa only [nx, ho, Bool.false_eq_true, if_false] using this
    | true =>
      have := nextT (s := s) (by rw [← e]; exact ho) rfl
      rw [← e] at this
      have er : ready s = ((s.p &&& ~~~s.m) &&& 512#32) := by simp only [ready, hb, if_true]
      simpa only [nx, ho, if_true, er, hb, Bool.true_or] using this
theorem next_b {s : S} {r : Bool} (h : (nx s).to.b = r) : PureOk Try.prog 14 [V s] (.tuple #[I (nx s).sig, I (nx s).wh, V { (nx s).to with b := r }]) := by
  have e : (nx s).to = { (nx s).to with b := r } := by rw [← h]
  rw [← e]
  exact next_ok
theorem alive_ok : PureOk Try.prog 10 [] (.bool true) :=
  pure_of_run (ds := []) (len := 0) (n := 400) (args := []) (v := .bool true) (fs := []) mixed rfl rfl (by kernel_rfl) (allHold trivial)
theorem wakes_0 {s : S} (h0 : decide ((0 : Int) < (nx s).sig) = true) (h1 : decide ((nx s).to = s) = true) : PureOk Try.prog 17 [(V s)] (B false) :=
  pure_of_run (ds := [U s.p, U s.m, U s.h0, U s.h1, U s.h2, U s.h3, U s.h4, U s.h5, U s.h6, U s.h7, U s.h8, U s.h9, U s.h10, U s.h11, U s.h12, U s.h13, U s.h14, U s.h15, B s.b, I (nx s).sig, I (nx s).wh, U (nx s).to.p, U (nx s).to.m, U (nx s).to.h0, U (nx s).to.h1, U (nx s).to.h2, U (nx s).to.h3, U (nx s).to.h4, U (nx s).to.h5, U (nx s).to.h6, U (nx s).to.h7, U (nx s).to.h8, U (nx s).to.h9, U (nx s).to.h10, U (nx s).to.h11, U (nx s).to.h12, U (nx s).to.h13, U (nx s).to.h14, U (nx s).to.h15, B (nx s).to.b]) (len := 40) (n := 60) (args := [(.agg #[(leaf 0), (leaf 1), (leaf 2), (leaf 3), (leaf 4), (leaf 5), (leaf 6), (leaf 7), (leaf 8), (leaf 9), (leaf 10), (leaf 11), (leaf 12), (leaf 13), (leaf 14), (leaf 15), (leaf 16), (leaf 17), (leaf 18)])]) (v := (.bool false))
    (fs := [.call 14 [(.agg #[(leaf 0), (leaf 1), (leaf 2), (leaf 3), (leaf 4), (leaf 5), (leaf 6), (leaf 7), (leaf 8), (leaf 9), (leaf 10), (leaf 11), (leaf 12), (leaf 13), (leaf 14), (leaf 15), (leaf 16), (leaf 17), (leaf 18)])] (.tuple #[(leaf 19), (leaf 20), (.agg #[(leaf 21), (leaf 22), (leaf 23), (leaf 24), (leaf 25), (leaf 26), (leaf 27), (leaf 28), (leaf 29), (leaf 30), (leaf 31), (leaf 32), (leaf 33), (leaf 34), (leaf 35), (leaf 36), (leaf 37), (leaf 38), (leaf 39)])]), .bin .gtr 3 (leaf 19) (.int .i64 0) (.bool true), .bin .neq 25 (.agg #[(leaf 21), (leaf 22), (leaf 23), (leaf 24), (leaf 25), (leaf 26), (leaf 27), (leaf 28), (leaf 29), (leaf 30), (leaf 31), (leaf 32), (leaf 33), (leaf 34), (leaf 35), (leaf 36), (leaf 37), (leaf 38), (leaf 39)]) (.agg #[(leaf 0), (leaf 1), (leaf 2), (leaf 3), (leaf 4), (leaf 5), (leaf 6), (leaf 7), (leaf 8), (leaf 9), (leaf 10), (leaf 11), (leaf 12), (leaf 13), (leaf 14), (leaf 15), (leaf 16), (leaf 17), (leaf 18)]) (.bool false)]) mixed rfl rfl (by kernel_rfl)
    (allHold ⟨⟨rfl, next_ok (s := s)⟩, hold_gtr_i rfl rfl h0, hold_neq_S (a := (nx s).to) (b := s) rfl rfl h1, trivial⟩)

theorem wakes_1 {s : S} (h0 : decide ((0 : Int) < (nx s).sig) = true) (h1 : decide ((nx s).to = s) = false) : PureOk Try.prog 17 [(V s)] (B true) :=
  pure_of_run (ds := [U s.p, U s.m, U s.h0, U s.h1, U s.h2, U s.h3, U s.h4, U s.h5, U s.h6, U s.h7, U s.h8, U s.h9, U s.h10, U s.h11, U s.h12, U s.h13, U s.h14, U s.h15, B s.b, I (nx s).sig, I (nx s).wh, U (nx s).to.p, U (nx s).to.m, U (nx s).to.h0, U (nx s).to.h1, U (nx s).to.h2, U (nx s).to.h3, U (nx s).to.h4, U (nx s).to.h5, U (nx s).to.h6, U (nx s).to.h7, U (nx s).to.h8, U (nx s).to.h9, U (nx s).to.h10, U (nx s).to.h11, U (nx s).to.h12, U (nx s).to.h13, U (nx s).to.h14, U (nx s).to.h15, B (nx s).to.b]) (len := 40) (n := 60) (args := [(.agg #[(leaf 0), (leaf 1), (leaf 2), (leaf 3), (leaf 4), (leaf 5), (leaf 6), (leaf 7), (leaf 8), (leaf 9), (leaf 10), (leaf 11), (leaf 12), (leaf 13), (leaf 14), (leaf 15), (leaf 16), (leaf 17), (leaf 18)])]) (v := (.bool true))
    (fs := [.call 14 [(.agg #[(leaf 0), (leaf 1), (leaf 2), (leaf 3), (leaf 4), (leaf 5), (leaf 6), (leaf 7), (leaf 8), (leaf 9), (leaf 10), (leaf 11), (leaf 12), (leaf 13), (leaf 14), (leaf 15), (leaf 16), (leaf 17), (leaf 18)])] (.tuple #[(leaf 19), (leaf 20), (.agg #[(leaf 21), (leaf 22), (leaf 23), (leaf 24), (leaf 25), (leaf 26), (leaf 27), (leaf 28), (leaf 29), (leaf 30), (leaf 31), (leaf 32), (leaf 33), (leaf 34), (leaf 35), (leaf 36), (leaf 37), (leaf 38), (leaf 39)])]), .bin .gtr 3 (leaf 19) (.int .i64 0) (.bool true), .bin .neq 25 (.agg #[(leaf 21), (leaf 22), (leaf 23), (leaf 24), (leaf 25), (leaf 26), (leaf 27), (leaf 28), (leaf 29), (leaf 30), (leaf 31), (leaf 32), (leaf 33), (leaf 34), (leaf 35), (leaf 36), (leaf 37), (leaf 38), (leaf 39)]) (.agg #[(leaf 0), (leaf 1), (leaf 2), (leaf 3), (leaf 4), (leaf 5), (leaf 6), (leaf 7), (leaf 8), (leaf 9), (leaf 10), (leaf 11), (leaf 12), (leaf 13), (leaf 14), (leaf 15), (leaf 16), (leaf 17), (leaf 18)]) (.bool true)]) mixed rfl rfl (by kernel_rfl)
    (allHold ⟨⟨rfl, next_ok (s := s)⟩, hold_gtr_i rfl rfl h0, hold_neq_S (a := (nx s).to) (b := s) rfl rfl h1, trivial⟩)

theorem wakes_2 {s : S} (h0 : decide ((0 : Int) < (nx s).sig) = false) : PureOk Try.prog 17 [(V s)] (B false) :=
  pure_of_run (ds := [U s.p, U s.m, U s.h0, U s.h1, U s.h2, U s.h3, U s.h4, U s.h5, U s.h6, U s.h7, U s.h8, U s.h9, U s.h10, U s.h11, U s.h12, U s.h13, U s.h14, U s.h15, B s.b, I (nx s).sig, I (nx s).wh, U (nx s).to.p, U (nx s).to.m, U (nx s).to.h0, U (nx s).to.h1, U (nx s).to.h2, U (nx s).to.h3, U (nx s).to.h4, U (nx s).to.h5, U (nx s).to.h6, U (nx s).to.h7, U (nx s).to.h8, U (nx s).to.h9, U (nx s).to.h10, U (nx s).to.h11, U (nx s).to.h12, U (nx s).to.h13, U (nx s).to.h14, U (nx s).to.h15, B (nx s).to.b]) (len := 40) (n := 60) (args := [(.agg #[(leaf 0), (leaf 1), (leaf 2), (leaf 3), (leaf 4), (leaf 5), (leaf 6), (leaf 7), (leaf 8), (leaf 9), (leaf 10), (leaf 11), (leaf 12), (leaf 13), (leaf 14), (leaf 15), (leaf 16), (leaf 17), (leaf 18)])]) (v := (.bool false))
    (fs := [.call 14 [(.agg #[(leaf 0), (leaf 1), (leaf 2), (leaf 3), (leaf 4), (leaf 5), (leaf 6), (leaf 7), (leaf 8), (leaf 9), (leaf 10), (leaf 11), (leaf 12), (leaf 13), (leaf 14), (leaf 15), (leaf 16), (leaf 17), (leaf 18)])] (.tuple #[(leaf 19), (leaf 20), (.agg #[(leaf 21), (leaf 22), (leaf 23), (leaf 24), (leaf 25), (leaf 26), (leaf 27), (leaf 28), (leaf 29), (leaf 30), (leaf 31), (leaf 32), (leaf 33), (leaf 34), (leaf 35), (leaf 36), (leaf 37), (leaf 38), (leaf 39)])]), .bin .gtr 3 (leaf 19) (.int .i64 0) (.bool false)]) mixed rfl rfl (by kernel_rfl)
    (allHold ⟨⟨rfl, next_ok (s := s)⟩, hold_gtr_i rfl rfl h0, trivial⟩)

def wk (s : S) : Bool := decide ((0 : Int) < (nx s).sig) && !decide ((nx s).to = s)
theorem wakes_ok {s : S} {r : Bool} (h : wk s = r) : PureOk Try.prog 17 [V s] (.bool r) := by
  subst h
  unfold wk
  cases a : decide ((0 : Int) < (nx s).sig) with
  | false => exact wakes_2 a
  | true => cases b : decide ((nx s).to = s) with
    | true => exact wakes_0 a b
    | false => exact wakes_1 a b
end Go.Proofs.Ythpncefkklojlaa.sig
