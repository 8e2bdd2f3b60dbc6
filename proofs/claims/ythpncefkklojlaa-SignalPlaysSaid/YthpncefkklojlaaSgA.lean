/- Signals: what the functions of one process' signals answer: contracts. -/
import Derived.Test.YthpncefkklojlaaRows
import Derived.Test.YthpncefkklojlaaAbZ4
import Derived.KernelRfl
namespace Go.Proofs.Ythpncefkklojlaa.sig
open Go.Ab
set_option linter.unusedVariables false

structure S where
  (p m h0 h1 h2 h3 h4 h5 h6 h7 h8 h9 h10 h11 h12 h13 h14 h15 : BitVec 32)
  b : Bool
  deriving DecidableEq

abbrev V (s : S) : Value := .agg #[U s.p, U s.m, U s.h0, U s.h1, U s.h2, U s.h3, U s.h4, U s.h5, U s.h6, U s.h7, U s.h8, U s.h9, U s.h10, U s.h11, U s.h12, U s.h13, U s.h14, U s.h15, B s.b]

def okS (s : S) : Bool := (((s.p ||| s.m) &&& ~~~65534#32) == 0#32) && !(((s.m >>> (9 : Int).toNat) &&& 1#32) == 1#32) && (s.h0 == 0#32) && (s.h9 == 0#32)
def isS (g : Int) : Bool := decide ((1 : Int) ≤ g) && decide ((g : Int) ≤ 15)
def okM (s : S) (m : BitVec 32) : Bool := okS s && ((m &&& ~~~65534#32) == 0#32)
def okP (s : S) (g : Int) : Bool := okS s && isS g
def okH (s : S) (g : Int) : Bool := okS s && isS g && !((g : Int) == 9)
def okR (s : S) : Bool := okS s && s.b
def S.get (s : S) (g : Int) : BitVec 32 := if g = 0 then s.h0 else if g = 1 then s.h1 else if g = 2 then s.h2 else if g = 3 then s.h3 else if g = 4 then s.h4 else if g = 5 then s.h5 else if g = 6 then s.h6 else if g = 7 then s.h7 else if g = 8 then s.h8 else if g = 9 then s.h9 else if g = 10 then s.h10 else if g = 11 then s.h11 else if g = 12 then s.h12 else if g = 13 then s.h13 else if g = 14 then s.h14 else s.h15
def S.set (s : S) (g : Int) (x : BitVec 32) : S := if g = 0 then { s with h0 := x } else if g = 1 then { s with h1 := x } else if g = 2 then { s with h2 := x } else if g = 3 then { s with h3 := x } else if g = 4 then { s with h4 := x } else if g = 5 then { s with h5 := x } else if g = 6 then { s with h6 := x } else if g = 7 then { s with h7 := x } else if g = 8 then { s with h8 := x } else if g = 9 then { s with h9 := x } else if g = 10 then { s with h10 := x } else if g = 11 then { s with h11 := x } else if g = 12 then { s with h12 := x } else if g = 13 then { s with h13 := x } else if g = 14 then { s with h14 := x } else { s with h15 := x }
def what (s : S) (g : Int) : Int := if (g == 9) || ((s.get g == 0#32) && !(g == 12)) then 1 else if (s.get g == 0#32) || (s.get g == 1#32) then 0 else 2

theorem mixed : Try.prog.follows .mixedOrders = true := by kernel_rfl


theorem isS_nn {g : Int} (h : isS g = true) : 0 ≤ g := by
  simp only [isS, Bool.and_eq_true, decide_eq_true_eq] at h
  omega
theorem is_0 {sig : Int} (h0 : decide ((1 : Int) ≤ sig) = true) (h1 : decide ((sig : Int) ≤ 15) = true) : PureOk Try.prog 28 [(I sig)] (B true) :=
  pure_of_run (ds := [I sig]) (len := 1) (n := 60) (args := [(leaf 0)]) (v := (.bool true))
    (fs := [.bin .geq 3 (leaf 0) (.int .i64 1) (.bool true), .bin .leq 3 (leaf 0) (.int .i64 15) (.bool true)]) mixed rfl rfl (by kernel_rfl)
    (allHold ⟨hold_geq_i rfl rfl h0, hold_leq_i rfl rfl h1, trivial⟩)

theorem is_1 {sig : Int} (h0 : decide ((1 : Int) ≤ sig) = true) (h1 : decide ((sig : Int) ≤ 15) = false) : PureOk Try.prog 28 [(I sig)] (B false) :=
  pure_of_run (ds := [I sig]) (len := 1) (n := 60) (args := [(leaf 0)]) (v := (.bool false))
    (fs := [.bin .geq 3 (leaf 0) (.int .i64 1) (.bool true), .bin .leq 3 (leaf 0) (.int .i64 15) (.bool false)]) mixed rfl rfl (by kernel_rfl)
    (allHold ⟨hold_geq_i rfl rfl h0, hold_leq_i rfl rfl h1, trivial⟩)

theorem is_2 {sig : Int} (h0 : decide ((1 : Int) ≤ sig) = false) : PureOk Try.prog 28 [(I sig)] (B false) :=
  pure_of_run (ds := [I sig]) (len := 1) (n := 60) (args := [(leaf 0)]) (v := (.bool false))
    (fs := [.bin .geq 3 (leaf 0) (.int .i64 1) (.bool false)]) mixed rfl rfl (by kernel_rfl)
    (allHold ⟨hold_geq_i rfl rfl h0, trivial⟩)


theorem is_ok {g : Int} {r : Bool} (h : isS g = r) : PureOk Try.prog 28 [I g] (B r) := by
  subst h
  unfold isS
  cases a : decide ((1 : Int) ≤ g) with
  | false => exact is_2 a
  | true => cases b : decide ((g : Int) ≤ 15) with
    | true => exact is_0 a b
    | false => exact is_1 a b
theorem check_0 {s : S} (h0 : (((s.p ||| s.m) &&& ~~~65534#32) == 0#32) = true) (h1 : (((s.m >>> (9 : Int).toNat) &&& 1#32) == 1#32) = true) : PureOk Try.prog 11 [(V s)] (I 120) :=
  pure_of_run (ds := [U s.p, U s.m, U s.h0, U s.h1, U s.h2, U s.h3, U s.h4, U s.h5, U s.h6, U s.h7, U s.h8, U s.h9, U s.h10, U s.h11, U s.h12, U s.h13, U s.h14, U s.h15, B s.b, U (s.p ||| s.m), U ((s.p ||| s.m) &&& ~~~65534#32), U (s.m >>> (9 : Int).toNat), U ((s.m >>> (9 : Int).toNat) &&& 1#32)]) (len := 23) (n := 60) (args := [(.agg #[(leaf 0), (leaf 1), (leaf 2), (leaf 3), (leaf 4), (leaf 5), (leaf 6), (leaf 7), (leaf 8), (leaf 9), (leaf 10), (leaf 11), (leaf 12), (leaf 13), (leaf 14), (leaf 15), (leaf 16), (leaf 17), (leaf 18)])]) (v := (.int .i64 120))
    (fs := [.bin .or 22 (leaf 0) (leaf 1) (leaf 19), .bin .andNot 22 (leaf 19) (.int .u32 65534) (leaf 20), .bin .neq 22 (leaf 20) (.int .u32 0) (.bool false), .bin .shr 22 (leaf 1) (.int .u64 9) (leaf 21), .bin .and 22 (leaf 21) (.int .u32 1) (leaf 22), .bin .eql 22 (leaf 22) (.int .u32 1) (.bool true)]) mixed rfl rfl (by kernel_rfl)
    (allHold ⟨hold_or_u32 rfl rfl rfl rfl, hold_andNot_u32 rfl rfl rfl rfl, hold_neq_u32 rfl rfl h0, hold_shr_u32 rfl rfl rfl rfl (by first | decide | exact isS_nn (by assumption) | assumption), hold_and_u32 rfl rfl rfl rfl, hold_eql_u32 rfl rfl h1, trivial⟩)

theorem check_1 {s : S} (h0 : (((s.p ||| s.m) &&& ~~~65534#32) == 0#32) = true) (h1 : (((s.m >>> (9 : Int).toNat) &&& 1#32) == 1#32) = false) (h2 : (s.h0 == 0#32) = true) (h3 : (s.h9 == 0#32) = true) : PureOk Try.prog 11 [(V s)] (I 0) :=
  pure_of_run (ds := [U s.p, U s.m, U s.h0, U s.h1, U s.h2, U s.h3, U s.h4, U s.h5, U s.h6, U s.h7, U s.h8, U s.h9, U s.h10, U s.h11, U s.h12, U s.h13, U s.h14, U s.h15, B s.b, U (s.p ||| s.m), U ((s.p ||| s.m) &&& ~~~65534#32), U (s.m >>> (9 : Int).toNat), U ((s.m >>> (9 : Int).toNat) &&& 1#32)]) (len := 23) (n := 60) (args := [(.agg #[(leaf 0), (leaf 1), (leaf 2), (leaf 3), (leaf 4), (leaf 5), (leaf 6), (leaf 7), (leaf 8), (leaf 9), (leaf 10), (leaf 11), (leaf 12), (leaf 13), (leaf 14), (leaf 15), (leaf 16), (leaf 17), (leaf 18)])]) (v := (.int .i64 0))
    (fs := [.bin .or 22 (leaf 0) (leaf 1) (leaf 19), .bin .andNot 22 (leaf 19) (.int .u32 65534) (leaf 20), .bin .neq 22 (leaf 20) (.int .u32 0) (.bool false), .bin .shr 22 (leaf 1) (.int .u64 9) (leaf 21), .bin .and 22 (leaf 21) (.int .u32 1) (leaf 22), .bin .eql 22 (leaf 22) (.int .u32 1) (.bool false), .bin .neq 22 (leaf 2) (.int .u32 0) (.bool false), .bin .neq 22 (leaf 11) (.int .u32 0) (.bool false)]) mixed rfl rfl (by kernel_rfl)
    (allHold ⟨hold_or_u32 rfl rfl rfl rfl, hold_andNot_u32 rfl rfl rfl rfl, hold_neq_u32 rfl rfl h0, hold_shr_u32 rfl rfl rfl rfl (by first | decide | exact isS_nn (by assumption) | assumption), hold_and_u32 rfl rfl rfl rfl, hold_eql_u32 rfl rfl h1, hold_neq_u32 rfl rfl h2, hold_neq_u32 rfl rfl h3, trivial⟩)

theorem check_2 {s : S} (h0 : (((s.p ||| s.m) &&& ~~~65534#32) == 0#32) = true) (h1 : (((s.m >>> (9 : Int).toNat) &&& 1#32) == 1#32) = false) (h2 : (s.h0 == 0#32) = true) (h3 : (s.h9 == 0#32) = false) : PureOk Try.prog 11 [(V s)] (I 120) :=
  pure_of_run (ds := [U s.p, U s.m, U s.h0, U s.h1, U s.h2, U s.h3, U s.h4, U s.h5, U s.h6, U s.h7, U s.h8, U s.h9, U s.h10, U s.h11, U s.h12, U s.h13, U s.h14, U s.h15, B s.b, U (s.p ||| s.m), U ((s.p ||| s.m) &&& ~~~65534#32), U (s.m >>> (9 : Int).toNat), U ((s.m >>> (9 : Int).toNat) &&& 1#32)]) (len := 23) (n := 60) (args := [(.agg #[(leaf 0), (leaf 1), (leaf 2), (leaf 3), (leaf 4), (leaf 5), (leaf 6), (leaf 7), (leaf 8), (leaf 9), (leaf 10), (leaf 11), (leaf 12), (leaf 13), (leaf 14), (leaf 15), (leaf 16), (leaf 17), (leaf 18)])]) (v := (.int .i64 120))
    (fs := [.bin .or 22 (leaf 0) (leaf 1) (leaf 19), .bin .andNot 22 (leaf 19) (.int .u32 65534) (leaf 20), .bin .neq 22 (leaf 20) (.int .u32 0) (.bool false), .bin .shr 22 (leaf 1) (.int .u64 9) (leaf 21), .bin .and 22 (leaf 21) (.int .u32 1) (leaf 22), .bin .eql 22 (leaf 22) (.int .u32 1) (.bool false), .bin .neq 22 (leaf 2) (.int .u32 0) (.bool false), .bin .neq 22 (leaf 11) (.int .u32 0) (.bool true)]) mixed rfl rfl (by kernel_rfl)
    (allHold ⟨hold_or_u32 rfl rfl rfl rfl, hold_andNot_u32 rfl rfl rfl rfl, hold_neq_u32 rfl rfl h0, hold_shr_u32 rfl rfl rfl rfl (by first | decide | exact isS_nn (by assumption) | assumption), hold_and_u32 rfl rfl rfl rfl, hold_eql_u32 rfl rfl h1, hold_neq_u32 rfl rfl h2, hold_neq_u32 rfl rfl h3, trivial⟩)

theorem check_3 {s : S} (h0 : (((s.p ||| s.m) &&& ~~~65534#32) == 0#32) = true) (h1 : (((s.m >>> (9 : Int).toNat) &&& 1#32) == 1#32) = false) (h2 : (s.h0 == 0#32) = false) : PureOk Try.prog 11 [(V s)] (I 120) :=
  pure_of_run (ds := [U s.p, U s.m, U s.h0, U s.h1, U s.h2, U s.h3, U s.h4, U s.h5, U s.h6, U s.h7, U s.h8, U s.h9, U s.h10, U s.h11, U s.h12, U s.h13, U s.h14, U s.h15, B s.b, U (s.p ||| s.m), U ((s.p ||| s.m) &&& ~~~65534#32), U (s.m >>> (9 : Int).toNat), U ((s.m >>> (9 : Int).toNat) &&& 1#32)]) (len := 23) (n := 60) (args := [(.agg #[(leaf 0), (leaf 1), (leaf 2), (leaf 3), (leaf 4), (leaf 5), (leaf 6), (leaf 7), (leaf 8), (leaf 9), (leaf 10), (leaf 11), (leaf 12), (leaf 13), (leaf 14), (leaf 15), (leaf 16), (leaf 17), (leaf 18)])]) (v := (.int .i64 120))
    (fs := [.bin .or 22 (leaf 0) (leaf 1) (leaf 19), .bin .andNot 22 (leaf 19) (.int .u32 65534) (leaf 20), .bin .neq 22 (leaf 20) (.int .u32 0) (.bool false), .bin .shr 22 (leaf 1) (.int .u64 9) (leaf 21), .bin .and 22 (leaf 21) (.int .u32 1) (leaf 22), .bin .eql 22 (leaf 22) (.int .u32 1) (.bool false), .bin .neq 22 (leaf 2) (.int .u32 0) (.bool true)]) mixed rfl rfl (by kernel_rfl)
    (allHold ⟨hold_or_u32 rfl rfl rfl rfl, hold_andNot_u32 rfl rfl rfl rfl, hold_neq_u32 rfl rfl h0, hold_shr_u32 rfl rfl rfl rfl (by first | decide | exact isS_nn (by assumption) | assumption), hold_and_u32 rfl rfl rfl rfl, hold_eql_u32 rfl rfl h1, hold_neq_u32 rfl rfl h2, trivial⟩)

theorem check_4 {s : S} (h0 : (((s.p ||| s.m) &&& ~~~65534#32) == 0#32) = false) : PureOk Try.prog 11 [(V s)] (I 120) :=
  pure_of_run (ds := [U s.p, U s.m, U s.h0, U s.h1, U s.h2, U s.h3, U s.h4, U s.h5, U s.h6, U s.h7, U s.h8, U s.h9, U s.h10, U s.h11, U s.h12, U s.h13, U s.h14, U s.h15, B s.b, U (s.p ||| s.m), U ((s.p ||| s.m) &&& ~~~65534#32)]) (len := 21) (n := 60) (args := [(.agg #[(leaf 0), (leaf 1), (leaf 2), (leaf 3), (leaf 4), (leaf 5), (leaf 6), (leaf 7), (leaf 8), (leaf 9), (leaf 10), (leaf 11), (leaf 12), (leaf 13), (leaf 14), (leaf 15), (leaf 16), (leaf 17), (leaf 18)])]) (v := (.int .i64 120))
    (fs := [.bin .or 22 (leaf 0) (leaf 1) (leaf 19), .bin .andNot 22 (leaf 19) (.int .u32 65534) (leaf 20), .bin .neq 22 (leaf 20) (.int .u32 0) (.bool true)]) mixed rfl rfl (by kernel_rfl)
    (allHold ⟨hold_or_u32 rfl rfl rfl rfl, hold_andNot_u32 rfl rfl rfl rfl, hold_neq_u32 rfl rfl h0, trivial⟩)


theorem check_ok {s : S} (h : okS s = true) : PureOk Try.prog 11 [V s] (I 0) := by
  simp only [okS, Bool.and_eq_true, Bool.not_eq_true'] at h
  exact check_1 h.1.1.1 h.1.1.2 h.1.2 h.2
theorem check_no {s : S} (h : okS s = false) : PureOk Try.prog 11 [V s] (I 120) := by
  unfold okS at h
  cases a : (((s.p ||| s.m) &&& ~~~65534#32) == 0#32) with
  | false => exact check_4 a
  | true => cases b : (((s.m >>> (9 : Int).toNat) &&& 1#32) == 1#32) with
    | true => exact check_0 a b
    | false => cases c : (s.h0 == 0#32) with
      | false => exact check_3 a b c
      | true => cases d : (s.h9 == 0#32) with
        | false => exact check_2 a b c d
        | true => rw [a, b, c, d] at h; cases h
theorem mask_0 {s : S} {m : BitVec 32} (h0 : okS s = true) (h1 : ((m &&& ~~~65534#32) == 0#32) = true) : PureOk Try.prog 12 [(V s), (U m)] (.tuple #[(U s.m), (V { s with m := (m &&& ~~~512#32) }), (I 0)]) :=
  pure_of_run (ds := [U s.p, U s.m, U s.h0, U s.h1, U s.h2, U s.h3, U s.h4, U s.h5, U s.h6, U s.h7, U s.h8, U s.h9, U s.h10, U s.h11, U s.h12, U s.h13, U s.h14, U s.h15, B s.b, U m, U (m &&& ~~~65534#32), U (m &&& ~~~512#32)]) (len := 22) (n := 60) (args := [(.agg #[(leaf 0), (leaf 1), (leaf 2), (leaf 3), (leaf 4), (leaf 5), (leaf 6), (leaf 7), (leaf 8), (leaf 9), (leaf 10), (leaf 11), (leaf 12), (leaf 13), (leaf 14), (leaf 15), (leaf 16), (leaf 17), (leaf 18)]), (leaf 19)]) (v := (.tuple #[(leaf 1), (.agg #[(leaf 0), (leaf 21), (leaf 2), (leaf 3), (leaf 4), (leaf 5), (leaf 6), (leaf 7), (leaf 8), (leaf 9), (leaf 10), (leaf 11), (leaf 12), (leaf 13), (leaf 14), (leaf 15), (leaf 16), (leaf 17), (leaf 18)]), (.int .i64 0)]))
    (fs := [.call 11 [(.agg #[(leaf 0), (leaf 1), (leaf 2), (leaf 3), (leaf 4), (leaf 5), (leaf 6), (leaf 7), (leaf 8), (leaf 9), (leaf 10), (leaf 11), (leaf 12), (leaf 13), (leaf 14), (leaf 15), (leaf 16), (leaf 17), (leaf 18)])] (.int .i64 0), .bin .andNot 22 (leaf 19) (.int .u32 65534) (leaf 20), .bin .neq 22 (leaf 20) (.int .u32 0) (.bool false), .bin .andNot 22 (leaf 19) (.int .u32 512) (leaf 21)]) mixed rfl rfl (by kernel_rfl)
    (allHold ⟨⟨rfl, check_ok (s := s) h0⟩, hold_andNot_u32 rfl rfl rfl rfl, hold_neq_u32 rfl rfl h1, hold_andNot_u32 rfl rfl rfl rfl, trivial⟩)

theorem mask_1 {s : S} {m : BitVec 32} (h0 : okS s = true) (h1 : ((m &&& ~~~65534#32) == 0#32) = false) : PureOk Try.prog 12 [(V s), (U m)] (.tuple #[(U 0#32), (V s), (I 120)]) :=
  pure_of_run (ds := [U s.p, U s.m, U s.h0, U s.h1, U s.h2, U s.h3, U s.h4, U s.h5, U s.h6, U s.h7, U s.h8, U s.h9, U s.h10, U s.h11, U s.h12, U s.h13, U s.h14, U s.h15, B s.b, U m, U (m &&& ~~~65534#32)]) (len := 21) (n := 60) (args := [(.agg #[(leaf 0), (leaf 1), (leaf 2), (leaf 3), (leaf 4), (leaf 5), (leaf 6), (leaf 7), (leaf 8), (leaf 9), (leaf 10), (leaf 11), (leaf 12), (leaf 13), (leaf 14), (leaf 15), (leaf 16), (leaf 17), (leaf 18)]), (leaf 19)]) (v := (.tuple #[(.int .u32 0), (.agg #[(leaf 0), (leaf 1), (leaf 2), (leaf 3), (leaf 4), (leaf 5), (leaf 6), (leaf 7), (leaf 8), (leaf 9), (leaf 10), (leaf 11), (leaf 12), (leaf 13), (leaf 14), (leaf 15), (leaf 16), (leaf 17), (leaf 18)]), (.int .i64 120)]))
    (fs := [.call 11 [(.agg #[(leaf 0), (leaf 1), (leaf 2), (leaf 3), (leaf 4), (leaf 5), (leaf 6), (leaf 7), (leaf 8), (leaf 9), (leaf 10), (leaf 11), (leaf 12), (leaf 13), (leaf 14), (leaf 15), (leaf 16), (leaf 17), (leaf 18)])] (.int .i64 0), .bin .andNot 22 (leaf 19) (.int .u32 65534) (leaf 20), .bin .neq 22 (leaf 20) (.int .u32 0) (.bool true)]) mixed rfl rfl (by kernel_rfl)
    (allHold ⟨⟨rfl, check_ok (s := s) h0⟩, hold_andNot_u32 rfl rfl rfl rfl, hold_neq_u32 rfl rfl h1, trivial⟩)

theorem mask_2 {s : S} {m : BitVec 32} (h0 : okS s = false) : PureOk Try.prog 12 [(V s), (U m)] (.tuple #[(U 0#32), (V s), (I 120)]) :=
  pure_of_run (ds := [U s.p, U s.m, U s.h0, U s.h1, U s.h2, U s.h3, U s.h4, U s.h5, U s.h6, U s.h7, U s.h8, U s.h9, U s.h10, U s.h11, U s.h12, U s.h13, U s.h14, U s.h15, B s.b, U m]) (len := 20) (n := 60) (args := [(.agg #[(leaf 0), (leaf 1), (leaf 2), (leaf 3), (leaf 4), (leaf 5), (leaf 6), (leaf 7), (leaf 8), (leaf 9), (leaf 10), (leaf 11), (leaf 12), (leaf 13), (leaf 14), (leaf 15), (leaf 16), (leaf 17), (leaf 18)]), (leaf 19)]) (v := (.tuple #[(.int .u32 0), (.agg #[(leaf 0), (leaf 1), (leaf 2), (leaf 3), (leaf 4), (leaf 5), (leaf 6), (leaf 7), (leaf 8), (leaf 9), (leaf 10), (leaf 11), (leaf 12), (leaf 13), (leaf 14), (leaf 15), (leaf 16), (leaf 17), (leaf 18)]), (.int .i64 120)]))
    (fs := [.call 11 [(.agg #[(leaf 0), (leaf 1), (leaf 2), (leaf 3), (leaf 4), (leaf 5), (leaf 6), (leaf 7), (leaf 8), (leaf 9), (leaf 10), (leaf 11), (leaf 12), (leaf 13), (leaf 14), (leaf 15), (leaf 16), (leaf 17), (leaf 18)])] (.int .i64 120)]) mixed rfl rfl (by kernel_rfl)
    (allHold ⟨⟨rfl, check_no (s := s) h0⟩, trivial⟩)


theorem mask_ok {s : S} {m : BitVec 32} (h : okM s m = true) : PureOk Try.prog 12 [V s, U m] (.tuple #[U s.m, V { s with m := (m &&& ~~~512#32) }, I 0]) := by
  simp only [okM, Bool.and_eq_true] at h
  exact mask_0 h.1 h.2
theorem mask_no {s : S} {m : BitVec 32} (h : okM s m = false) : PureOk Try.prog 12 [V s, U m] (.tuple #[U 0#32, V s, I 120]) := by
  unfold okM at h
  cases a : okS s with
  | false => exact mask_2 a
  | true => rw [a] at h; exact mask_1 a h
theorem post_0 {s : S} {sig : Int} (h0 : okS s = true) (h1 : isS sig = true) : PureOk Try.prog 20 [(V s), (I sig)] (.tuple #[(V { s with p := (s.p ||| (1#32 <<< (sig : Int).toNat)) }), (I 0)]) :=
  pure_of_run (ds := [U s.p, U s.m, U s.h0, U s.h1, U s.h2, U s.h3, U s.h4, U s.h5, U s.h6, U s.h7, U s.h8, U s.h9, U s.h10, U s.h11, U s.h12, U s.h13, U s.h14, U s.h15, B s.b, I sig, U (1#32 <<< (sig : Int).toNat), U (s.p ||| (1#32 <<< (sig : Int).toNat))]) (len := 22) (n := 60) (args := [(.agg #[(leaf 0), (leaf 1), (leaf 2), (leaf 3), (leaf 4), (leaf 5), (leaf 6), (leaf 7), (leaf 8), (leaf 9), (leaf 10), (leaf 11), (leaf 12), (leaf 13), (leaf 14), (leaf 15), (leaf 16), (leaf 17), (leaf 18)]), (leaf 19)]) (v := (.tuple #[(.agg #[(leaf 21), (leaf 1), (leaf 2), (leaf 3), (leaf 4), (leaf 5), (leaf 6), (leaf 7), (leaf 8), (leaf 9), (leaf 10), (leaf 11), (leaf 12), (leaf 13), (leaf 14), (leaf 15), (leaf 16), (leaf 17), (leaf 18)]), (.int .i64 0)]))
    (fs := [.call 11 [(.agg #[(leaf 0), (leaf 1), (leaf 2), (leaf 3), (leaf 4), (leaf 5), (leaf 6), (leaf 7), (leaf 8), (leaf 9), (leaf 10), (leaf 11), (leaf 12), (leaf 13), (leaf 14), (leaf 15), (leaf 16), (leaf 17), (leaf 18)])] (.int .i64 0), .call 28 [(leaf 19)] (.bool true), .bin .shl 22 (.int .u32 1) (leaf 19) (leaf 20), .bin .or 22 (leaf 0) (leaf 20) (leaf 21)]) mixed rfl rfl (by kernel_rfl)
    (allHold ⟨⟨rfl, check_ok (s := s) h0⟩, ⟨rfl, is_ok h1⟩, hold_shl_u32 rfl rfl rfl rfl (by first | decide | exact isS_nn (by assumption) | assumption), hold_or_u32 rfl rfl rfl rfl, trivial⟩)

theorem post_1 {s : S} {sig : Int} (h0 : okS s = true) (h1 : isS sig = false) : PureOk Try.prog 20 [(V s), (I sig)] (.tuple #[(V s), (I 120)]) :=
  pure_of_run (ds := [U s.p, U s.m, U s.h0, U s.h1, U s.h2, U s.h3, U s.h4, U s.h5, U s.h6, U s.h7, U s.h8, U s.h9, U s.h10, U s.h11, U s.h12, U s.h13, U s.h14, U s.h15, B s.b, I sig]) (len := 20) (n := 60) (args := [(.agg #[(leaf 0), (leaf 1), (leaf 2), (leaf 3), (leaf 4), (leaf 5), (leaf 6), (leaf 7), (leaf 8), (leaf 9), (leaf 10), (leaf 11), (leaf 12), (leaf 13), (leaf 14), (leaf 15), (leaf 16), (leaf 17), (leaf 18)]), (leaf 19)]) (v := (.tuple #[(.agg #[(leaf 0), (leaf 1), (leaf 2), (leaf 3), (leaf 4), (leaf 5), (leaf 6), (leaf 7), (leaf 8), (leaf 9), (leaf 10), (leaf 11), (leaf 12), (leaf 13), (leaf 14), (leaf 15), (leaf 16), (leaf 17), (leaf 18)]), (.int .i64 120)]))
    (fs := [.call 11 [(.agg #[(leaf 0), (leaf 1), (leaf 2), (leaf 3), (leaf 4), (leaf 5), (leaf 6), (leaf 7), (leaf 8), (leaf 9), (leaf 10), (leaf 11), (leaf 12), (leaf 13), (leaf 14), (leaf 15), (leaf 16), (leaf 17), (leaf 18)])] (.int .i64 0), .call 28 [(leaf 19)] (.bool false)]) mixed rfl rfl (by kernel_rfl)
    (allHold ⟨⟨rfl, check_ok (s := s) h0⟩, ⟨rfl, is_ok h1⟩, trivial⟩)

theorem post_2 {s : S} {sig : Int} (h0 : okS s = false) : PureOk Try.prog 20 [(V s), (I sig)] (.tuple #[(V s), (I 120)]) :=
  pure_of_run (ds := [U s.p, U s.m, U s.h0, U s.h1, U s.h2, U s.h3, U s.h4, U s.h5, U s.h6, U s.h7, U s.h8, U s.h9, U s.h10, U s.h11, U s.h12, U s.h13, U s.h14, U s.h15, B s.b, I sig]) (len := 20) (n := 60) (args := [(.agg #[(leaf 0), (leaf 1), (leaf 2), (leaf 3), (leaf 4), (leaf 5), (leaf 6), (leaf 7), (leaf 8), (leaf 9), (leaf 10), (leaf 11), (leaf 12), (leaf 13), (leaf 14), (leaf 15), (leaf 16), (leaf 17), (leaf 18)]), (leaf 19)]) (v := (.tuple #[(.agg #[(leaf 0), (leaf 1), (leaf 2), (leaf 3), (leaf 4), (leaf 5), (leaf 6), (leaf 7), (leaf 8), (leaf 9), (leaf 10), (leaf 11), (leaf 12), (leaf 13), (leaf 14), (leaf 15), (leaf 16), (leaf 17), (leaf 18)]), (.int .i64 120)]))
    (fs := [.call 11 [(.agg #[(leaf 0), (leaf 1), (leaf 2), (leaf 3), (leaf 4), (leaf 5), (leaf 6), (leaf 7), (leaf 8), (leaf 9), (leaf 10), (leaf 11), (leaf 12), (leaf 13), (leaf 14), (leaf 15), (leaf 16), (leaf 17), (leaf 18)])] (.int .i64 120)]) mixed rfl rfl (by kernel_rfl)
    (allHold ⟨⟨rfl, check_no (s := s) h0⟩, trivial⟩)


theorem post_ok {s : S} {g : Int} (h : okP s g = true) : PureOk Try.prog 20 [V s, I g] (.tuple #[V { s with p := (s.p ||| (1#32 <<< (g : Int).toNat)) }, I 0]) := by
  simp only [okP, Bool.and_eq_true] at h
  exact post_0 h.1 h.2
theorem post_no {s : S} {g : Int} (h : okP s g = false) : PureOk Try.prog 20 [V s, I g] (.tuple #[V s, I 120]) := by
  unfold okP at h
  cases a : okS s with
  | false => exact post_2 a
  | true => rw [a] at h; exact post_1 a h
theorem returnT_0 {s : S} (hb : s.b = true) (h0 : okS { s with b := true } = true) : PureOk Try.prog 16 [(V { s with b := true })] (.tuple #[(V { s with b := false }), (I 0)]) :=
  pure_of_run (ds := [U s.p, U s.m, U s.h0, U s.h1, U s.h2, U s.h3, U s.h4, U s.h5, U s.h6, U s.h7, U s.h8, U s.h9, U s.h10, U s.h11, U s.h12, U s.h13, U s.h14, U s.h15]) (len := 18) (n := 60) (args := [(.agg #[(leaf 0), (leaf 1), (leaf 2), (leaf 3), (leaf 4), (leaf 5), (leaf 6), (leaf 7), (leaf 8), (leaf 9), (leaf 10), (leaf 11), (leaf 12), (leaf 13), (leaf 14), (leaf 15), (leaf 16), (leaf 17), (.bool true)])]) (v := (.tuple #[(.agg #[(leaf 0), (leaf 1), (leaf 2), (leaf 3), (leaf 4), (leaf 5), (leaf 6), (leaf 7), (leaf 8), (leaf 9), (leaf 10), (leaf 11), (leaf 12), (leaf 13), (leaf 14), (leaf 15), (leaf 16), (leaf 17), (.bool false)]), (.int .i64 0)]))
    (fs := [.call 11 [(.agg #[(leaf 0), (leaf 1), (leaf 2), (leaf 3), (leaf 4), (leaf 5), (leaf 6), (leaf 7), (leaf 8), (leaf 9), (leaf 10), (leaf 11), (leaf 12), (leaf 13), (leaf 14), (leaf 15), (leaf 16), (leaf 17), (.bool true)])] (.int .i64 0)]) mixed rfl rfl (by kernel_rfl)
    (allHold ⟨⟨rfl, check_ok (s := { s with b := true }) h0⟩, trivial⟩)

theorem returnT_1 {s : S} (hb : s.b = true) (h0 : okS { s with b := true } = false) : PureOk Try.prog 16 [(V { s with b := true })] (.tuple #[(V { s with b := true }), (I 120)]) :=
  pure_of_run (ds := [U s.p, U s.m, U s.h0, U s.h1, U s.h2, U s.h3, U s.h4, U s.h5, U s.h6, U s.h7, U s.h8, U s.h9, U s.h10, U s.h11, U s.h12, U s.h13, U s.h14, U s.h15]) (len := 18) (n := 60) (args := [(.agg #[(leaf 0), (leaf 1), (leaf 2), (leaf 3), (leaf 4), (leaf 5), (leaf 6), (leaf 7), (leaf 8), (leaf 9), (leaf 10), (leaf 11), (leaf 12), (leaf 13), (leaf 14), (leaf 15), (leaf 16), (leaf 17), (.bool true)])]) (v := (.tuple #[(.agg #[(leaf 0), (leaf 1), (leaf 2), (leaf 3), (leaf 4), (leaf 5), (leaf 6), (leaf 7), (leaf 8), (leaf 9), (leaf 10), (leaf 11), (leaf 12), (leaf 13), (leaf 14), (leaf 15), (leaf 16), (leaf 17), (.bool true)]), (.int .i64 120)]))
    (fs := [.call 11 [(.agg #[(leaf 0), (leaf 1), (leaf 2), (leaf 3), (leaf 4), (leaf 5), (leaf 6), (leaf 7), (leaf 8), (leaf 9), (leaf 10), (leaf 11), (leaf 12), (leaf 13), (leaf 14), (leaf 15), (leaf 16), (leaf 17), (.bool true)])] (.int .i64 120)]) mixed rfl rfl (by kernel_rfl)
    (allHold ⟨⟨rfl, check_no (s := { s with b := true }) h0⟩, trivial⟩)

theorem returnF_0 {s : S} (hb : s.b = false) (h0 : okS { s with b := false } = true) : PureOk Try.prog 16 [(V { s with b := false })] (.tuple #[(V { s with b := false }), (I 120)]) :=
  pure_of_run (ds := [U s.p, U s.m, U s.h0, U s.h1, U s.h2, U s.h3, U s.h4, U s.h5, U s.h6, U s.h7, U s.h8, U s.h9, U s.h10, U s.h11, U s.h12, U s.h13, U s.h14, U s.h15]) (len := 18) (n := 60) (args := [(.agg #[(leaf 0), (leaf 1), (leaf 2), (leaf 3), (leaf 4), (leaf 5), (leaf 6), (leaf 7), (leaf 8), (leaf 9), (leaf 10), (leaf 11), (leaf 12), (leaf 13), (leaf 14), (leaf 15), (leaf 16), (leaf 17), (.bool false)])]) (v := (.tuple #[(.agg #[(leaf 0), (leaf 1), (leaf 2), (leaf 3), (leaf 4), (leaf 5), (leaf 6), (leaf 7), (leaf 8), (leaf 9), (leaf 10), (leaf 11), (leaf 12), (leaf 13), (leaf 14), (leaf 15), (leaf 16), (leaf 17), (.bool false)]), (.int .i64 120)]))
    (fs := [.call 11 [(.agg #[(leaf 0), (leaf 1), (leaf 2), (leaf 3), (leaf 4), (leaf 5), (leaf 6), (leaf 7), (leaf 8), (leaf 9), (leaf 10), (leaf 11), (leaf 12), (leaf 13), (leaf 14), (leaf 15), (leaf 16), (leaf 17), (.bool false)])] (.int .i64 0)]) mixed rfl rfl (by kernel_rfl)
    (allHold ⟨⟨rfl, check_ok (s := { s with b := false }) h0⟩, trivial⟩)

theorem returnF_1 {s : S} (hb : s.b = false) (h0 : okS { s with b := false } = false) : PureOk Try.prog 16 [(V { s with b := false })] (.tuple #[(V { s with b := false }), (I 120)]) :=
  pure_of_run (ds := [U s.p, U s.m, U s.h0, U s.h1, U s.h2, U s.h3, U s.h4, U s.h5, U s.h6, U s.h7, U s.h8, U s.h9, U s.h10, U s.h11, U s.h12, U s.h13, U s.h14, U s.h15]) (len := 18) (n := 60) (args := [(.agg #[(leaf 0), (leaf 1), (leaf 2), (leaf 3), (leaf 4), (leaf 5), (leaf 6), (leaf 7), (leaf 8), (leaf 9), (leaf 10), (leaf 11), (leaf 12), (leaf 13), (leaf 14), (leaf 15), (leaf 16), (leaf 17), (.bool false)])]) (v := (.tuple #[(.agg #[(leaf 0), (leaf 1), (leaf 2), (leaf 3), (leaf 4), (leaf 5), (leaf 6), (leaf 7), (leaf 8), (leaf 9), (leaf 10), (leaf 11), (leaf 12), (leaf 13), (leaf 14), (leaf 15), (leaf 16), (leaf 17), (.bool false)]), (.int .i64 120)]))
    (fs := [.call 11 [(.agg #[(leaf 0), (leaf 1), (leaf 2), (leaf 3), (leaf 4), (leaf 5), (leaf 6), (leaf 7), (leaf 8), (leaf 9), (leaf 10), (leaf 11), (leaf 12), (leaf 13), (leaf 14), (leaf 15), (leaf 16), (leaf 17), (.bool false)])] (.int .i64 120)]) mixed rfl rfl (by kernel_rfl)
    (allHold ⟨⟨rfl, check_no (s := { s with b := false }) h0⟩, trivial⟩)


theorem return_ok {s : S} (h : okR s = true) : PureOk Try.prog 16 [V s] (.tuple #[V { s with b := false }, I 0]) := by
  simp only [okR, Bool.and_eq_true] at h
  have e : s = { s with b := true } := by rw [← h.2]
  have := returnT_0 (s := s) h.2 (by rw [← e]; exact h.1)
  rwa [← e] at this
theorem return_no {s : S} (h : okR s = false) : PureOk Try.prog 16 [V s] (.tuple #[V s, I 120]) := by
  unfold okR at h
  cases hb : s.b with
  | true =>
    have e : s = { s with b := true } := by rw [← hb]
    rw [hb, Bool.and_true] at h
    have := returnT_1 (s := s) hb (by rw [← e]; exact h)
    rwa [← e] at this
  | false =>
    have e : s = { s with b := false } := by rw [← hb]
    cases a : okS s with
    | true =>
      have := returnF_0 (s := s) hb (by rw [← e]; exact a)
      rwa [← e] at this
    | false =>
      have := returnF_1 (s := s) hb (by rw [← e]; exact a)
      rwa [← e] at this
theorem what1_0 {s : S} (h0 : (s.h1 == 0#32) = true) : PureOk Try.prog 27 [(V s), (I 1)] (I 1) :=
  pure_of_run (ds := [U s.p, U s.m, U s.h0, U s.h1, U s.h2, U s.h3, U s.h4, U s.h5, U s.h6, U s.h7, U s.h8, U s.h9, U s.h10, U s.h11, U s.h12, U s.h13, U s.h14, U s.h15, B s.b]) (len := 19) (n := 60) (args := [(.agg #[(leaf 0), (leaf 1), (leaf 2), (leaf 3), (leaf 4), (leaf 5), (leaf 6), (leaf 7), (leaf 8), (leaf 9), (leaf 10), (leaf 11), (leaf 12), (leaf 13), (leaf 14), (leaf 15), (leaf 16), (leaf 17), (leaf 18)]), (.int .i64 1)]) (v := (.int .i64 1))
    (fs := [.bin .eql 22 (leaf 3) (.int .u32 0) (.bool true)]) mixed rfl rfl (by kernel_rfl)
    (allHold ⟨hold_eql_u32 rfl rfl h0, trivial⟩)

theorem what1_1 {s : S} (h0 : (s.h1 == 0#32) = false) (h1 : (s.h1 == 1#32) = true) : PureOk Try.prog 27 [(V s), (I 1)] (I 0) :=
  pure_of_run (ds := [U s.p, U s.m, U s.h0, U s.h1, U s.h2, U s.h3, U s.h4, U s.h5, U s.h6, U s.h7, U s.h8, U s.h9, U s.h10, U s.h11, U s.h12, U s.h13, U s.h14, U s.h15, B s.b]) (len := 19) (n := 60) (args := [(.agg #[(leaf 0), (leaf 1), (leaf 2), (leaf 3), (leaf 4), (leaf 5), (leaf 6), (leaf 7), (leaf 8), (leaf 9), (leaf 10), (leaf 11), (leaf 12), (leaf 13), (leaf 14), (leaf 15), (leaf 16), (leaf 17), (leaf 18)]), (.int .i64 1)]) (v := (.int .i64 0))
    (fs := [.bin .eql 22 (leaf 3) (.int .u32 0) (.bool false), .bin .eql 22 (leaf 3) (.int .u32 1) (.bool true)]) mixed rfl rfl (by kernel_rfl)
    (allHold ⟨hold_eql_u32 rfl rfl h0, hold_eql_u32 rfl rfl h1, trivial⟩)

theorem what1_2 {s : S} (h0 : (s.h1 == 0#32) = false) (h1 : (s.h1 == 1#32) = false) : PureOk Try.prog 27 [(V s), (I 1)] (I 2) :=
  pure_of_run (ds := [U s.p, U s.m, U s.h0, U s.h1, U s.h2, U s.h3, U s.h4, U s.h5, U s.h6, U s.h7, U s.h8, U s.h9, U s.h10, U s.h11, U s.h12, U s.h13, U s.h14, U s.h15, B s.b]) (len := 19) (n := 60) (args := [(.agg #[(leaf 0), (leaf 1), (leaf 2), (leaf 3), (leaf 4), (leaf 5), (leaf 6), (leaf 7), (leaf 8), (leaf 9), (leaf 10), (leaf 11), (leaf 12), (leaf 13), (leaf 14), (leaf 15), (leaf 16), (leaf 17), (leaf 18)]), (.int .i64 1)]) (v := (.int .i64 2))
    (fs := [.bin .eql 22 (leaf 3) (.int .u32 0) (.bool false), .bin .eql 22 (leaf 3) (.int .u32 1) (.bool false)]) mixed rfl rfl (by kernel_rfl)
    (allHold ⟨hold_eql_u32 rfl rfl h0, hold_eql_u32 rfl rfl h1, trivial⟩)

theorem what_1 {s : S} : PureOk Try.prog 27 [V s, I 1] (I (what s 1)) := by
  cases a : (s.h1 == 0#32) with
  | true =>
    have e : what s 1 = 1 := by show (if (_ || ((s.h1 == 0#32) && _)) then (1 : Int) else if (s.h1 == 0#32) || (s.h1 == 1#32) then 0 else 2) = 1; rw [a]; rfl
    rw [e]; exact what1_0 a
  | false => cases b : (s.h1 == 1#32) with
    | true =>
      have e : what s 1 = 0 := by show (if (_ || ((s.h1 == 0#32) && _)) then (1 : Int) else if (s.h1 == 0#32) || (s.h1 == 1#32) then 0 else 2) = 0; rw [a, b]; rfl
      rw [e]; exact what1_1 a b
    | false =>
      have e : what s 1 = 2 := by show (if (_ || ((s.h1 == 0#32) && _)) then (1 : Int) else if (s.h1 == 0#32) || (s.h1 == 1#32) then 0 else 2) = 2; rw [a, b]; rfl
      rw [e]; exact what1_2 a b
theorem what2_0 {s : S} (h0 : (s.h2 == 0#32) = true) : PureOk Try.prog 27 [(V s), (I 2)] (I 1) :=
  pure_of_run (ds := [U s.p, U s.m, U s.h0, U s.h1, U s.h2, U s.h3, U s.h4, U s.h5, U s.h6, U s.h7, U s.h8, U s.h9, U s.h10, U s.h11, U s.h12, U s.h13, U s.h14, U s.h15, B s.b]) (len := 19) (n := 60) (args := [(.agg #[(leaf 0), (leaf 1), (leaf 2), (leaf 3), (leaf 4), (leaf 5), (leaf 6), (leaf 7), (leaf 8), (leaf 9), (leaf 10), (leaf 11), (leaf 12), (leaf 13), (leaf 14), (leaf 15), (leaf 16), (leaf 17), (leaf 18)]), (.int .i64 2)]) (v := (.int .i64 1))
    (fs := [.bin .eql 22 (leaf 4) (.int .u32 0) (.bool true)]) mixed rfl rfl (by kernel_rfl)
    (allHold ⟨hold_eql_u32 rfl rfl h0, trivial⟩)

theorem what2_1 {s : S} (h0 : (s.h2 == 0#32) = false) (h1 : (s.h2 == 1#32) = true) : PureOk Try.prog 27 [(V s), (I 2)] (I 0) :=
  pure_of_run (ds := [U s.p, U s.m, U s.h0, U s.h1, U s.h2, U s.h3, U s.h4, U s.h5, U s.h6, U s.h7, U s.h8, U s.h9, U s.h10, U s.h11, U s.h12, U s.h13, U s.h14, U s.h15, B s.b]) (len := 19) (n := 60) (args := [(.agg #[(leaf 0), (leaf 1), (leaf 2), (leaf 3), (leaf 4), (leaf 5), (leaf 6), (leaf 7), (leaf 8), (leaf 9), (leaf 10), (leaf 11), (leaf 12), (leaf 13), (leaf 14), (leaf 15), (leaf 16), (leaf 17), (leaf 18)]), (.int .i64 2)]) (v := (.int .i64 0))
    (fs := [.bin .eql 22 (leaf 4) (.int .u32 0) (.bool false), .bin .eql 22 (leaf 4) (.int .u32 1) (.bool true)]) mixed rfl rfl (by kernel_rfl)
    (allHold ⟨hold_eql_u32 rfl rfl h0, hold_eql_u32 rfl rfl h1, trivial⟩)

theorem what2_2 {s : S} (h0 : (s.h2 == 0#32) = false) (h1 : (s.h2 == 1#32) = false) : PureOk Try.prog 27 [(V s), (I 2)] (I 2) :=
  pure_of_run (ds := [U s.p, U s.m, U s.h0, U s.h1, U s.h2, U s.h3, U s.h4, U s.h5, U s.h6, U s.h7, U s.h8, U s.h9, U s.h10, U s.h11, U s.h12, U s.h13, U s.h14, U s.h15, B s.b]) (len := 19) (n := 60) (args := [(.agg #[(leaf 0), (leaf 1), (leaf 2), (leaf 3), (leaf 4), (leaf 5), (leaf 6), (leaf 7), (leaf 8), (leaf 9), (leaf 10), (leaf 11), (leaf 12), (leaf 13), (leaf 14), (leaf 15), (leaf 16), (leaf 17), (leaf 18)]), (.int .i64 2)]) (v := (.int .i64 2))
    (fs := [.bin .eql 22 (leaf 4) (.int .u32 0) (.bool false), .bin .eql 22 (leaf 4) (.int .u32 1) (.bool false)]) mixed rfl rfl (by kernel_rfl)
    (allHold ⟨hold_eql_u32 rfl rfl h0, hold_eql_u32 rfl rfl h1, trivial⟩)

theorem what_2 {s : S} : PureOk Try.prog 27 [V s, I 2] (I (what s 2)) := by
  cases a : (s.h2 == 0#32) with
  | true =>
    have e : what s 2 = 1 := by show (if (_ || ((s.h2 == 0#32) && _)) then (1 : Int) else if (s.h2 == 0#32) || (s.h2 == 1#32) then 0 else 2) = 1; rw [a]; rfl
    rw [e]; exact what2_0 a
  | false => cases b : (s.h2 == 1#32) with
    | true =>
      have e : what s 2 = 0 := by show (if (_ || ((s.h2 == 0#32) && _)) then (1 : Int) else if (s.h2 == 0#32) || (s.h2 == 1#32) then 0 else 2) = 0; rw [a, b]; rfl
      rw [e]; exact what2_1 a b
    | false =>
      have e : what s 2 = 2 := by show (if (_ || ((s.h2 == 0#32) && _)) then (1 : Int) else if (s.h2 == 0#32) || (s.h2 == 1#32) then 0 else 2) = 2; rw [a, b]; rfl
      rw [e]; exact what2_2 a b
theorem what3_0 {s : S} (h0 : (s.h3 == 0#32) = true) : PureOk Try.prog 27 [(V s), (I 3)] (I 1) :=
  pure_of_run (ds := [U s.p, U s.m, U s.h0, U s.h1, U s.h2, U s.h3, U s.h4, U s.h5, U s.h6, U s.h7, U s.h8, U s.h9, U s.h10, U s.h11, U s.h12, U s.h13, U s.h14, U s.h15, B s.b]) (len := 19) (n := 60) (args := [(.agg #[(leaf 0), (leaf 1), (leaf 2), (leaf 3), (leaf 4), (leaf 5), (leaf 6), (leaf 7), (leaf 8), (leaf 9), (leaf 10), (leaf 11), (leaf 12), (leaf 13), (leaf 14), (leaf 15), (leaf 16), (leaf 17), (leaf 18)]), (.int .i64 3)]) (v := (.int .i64 1))
    (fs := [.bin .eql 22 (leaf 5) (.int .u32 0) (.bool true)]) mixed rfl rfl (by kernel_rfl)
    (allHold ⟨hold_eql_u32 rfl rfl h0, trivial⟩)

theorem what3_1 {s : S} (h0 : (s.h3 == 0#32) = false) (h1 : (s.h3 == 1#32) = true) : PureOk Try.prog 27 [(V s), (I 3)] (I 0) :=
  pure_of_run (ds := [U s.p, U s.m, U s.h0, U s.h1, U s.h2, U s.h3, U s.h4, U s.h5, U s.h6, U s.h7, U s.h8, U s.h9, U s.h10, U s.h11, U s.h12, U s.h13, U s.h14, U s.h15, B s.b]) (len := 19) (n := 60) (args := [(.agg #[(leaf 0), (leaf 1), (leaf 2), (leaf 3), (leaf 4), (leaf 5), (leaf 6), (leaf 7), (leaf 8), (leaf 9), (leaf 10), (leaf 11), (leaf 12), (leaf 13), (leaf 14), (leaf 15), (leaf 16), (leaf 17), (leaf 18)]), (.int .i64 3)]) (v := (.int .i64 0))
    (fs := [.bin .eql 22 (leaf 5) (.int .u32 0) (.bool false), .bin .eql 22 (leaf 5) (.int .u32 1) (.bool true)]) mixed rfl rfl (by kernel_rfl)
    (allHold ⟨hold_eql_u32 rfl rfl h0, hold_eql_u32 rfl rfl h1, trivial⟩)

theorem what3_2 {s : S} (h0 : (s.h3 == 0#32) = false) (h1 : (s.h3 == 1#32) = false) : PureOk Try.prog 27 [(V s), (I 3)] (I 2) :=
  pure_of_run (ds := [U s.p, U s.m, U s.h0, U s.h1, U s.h2, U s.h3, U s.h4, U s.h5, U s.h6, U s.h7, U s.h8, U s.h9, U s.h10, U s.h11, U s.h12, U s.h13, U s.h14, U s.h15, B s.b]) (len := 19) (n := 60) (args := [(.agg #[(leaf 0), (leaf 1), (leaf 2), (leaf 3), (leaf 4), (leaf 5), (leaf 6), (leaf 7), (leaf 8), (leaf 9), (leaf 10), (leaf 11), (leaf 12), (leaf 13), (leaf 14), (leaf 15), (leaf 16), (leaf 17), (leaf 18)]), (.int .i64 3)]) (v := (.int .i64 2))
    (fs := [.bin .eql 22 (leaf 5) (.int .u32 0) (.bool false), .bin .eql 22 (leaf 5) (.int .u32 1) (.bool false)]) mixed rfl rfl (by kernel_rfl)
    (allHold ⟨hold_eql_u32 rfl rfl h0, hold_eql_u32 rfl rfl h1, trivial⟩)

theorem what_3 {s : S} : PureOk Try.prog 27 [V s, I 3] (I (what s 3)) := by
  cases a : (s.h3 == 0#32) with
  | true =>
    have e : what s 3 = 1 := by show (if (_ || ((s.h3 == 0#32) && _)) then (1 : Int) else if (s.h3 == 0#32) || (s.h3 == 1#32) then 0 else 2) = 1; rw [a]; rfl
    rw [e]; exact what3_0 a
  | false => cases b : (s.h3 == 1#32) with
    | true =>
      have e : what s 3 = 0 := by show (if (_ || ((s.h3 == 0#32) && _)) then (1 : Int) else if (s.h3 == 0#32) || (s.h3 == 1#32) then 0 else 2) = 0; rw [a, b]; rfl
      rw [e]; exact what3_1 a b
    | false =>
      have e : what s 3 = 2 := by show (if (_ || ((s.h3 == 0#32) && _)) then (1 : Int) else if (s.h3 == 0#32) || (s.h3 == 1#32) then 0 else 2) = 2; rw [a, b]; rfl
      rw [e]; exact what3_2 a b
theorem what4_0 {s : S} (h0 : (s.h4 == 0#32) = true) : PureOk Try.prog 27 [(V s), (I 4)] (I 1) :=
  pure_of_run (ds := [U s.p, U s.m, U s.h0, U s.h1, U s.h2, U s.h3, U s.h4, U s.h5, U s.h6, U s.h7, U s.h8, U s.h9, U s.h10, U s.h11, U s.h12, U s.h13, U s.h14, U s.h15, B s.b]) (len := 19) (n := 60) (args := [(.agg #[(leaf 0), (leaf 1), (leaf 2), (leaf 3), (leaf 4), (leaf 5), (leaf 6), (leaf 7), (leaf 8), (leaf 9), (leaf 10), (leaf 11), (leaf 12), (leaf 13), (leaf 14), (leaf 15), (leaf 16), (leaf 17), (leaf 18)]), (.int .i64 4)]) (v := (.int .i64 1))
    (fs := [.bin .eql 22 (leaf 6) (.int .u32 0) (.bool true)]) mixed rfl rfl (by kernel_rfl)
    (allHold ⟨hold_eql_u32 rfl rfl h0, trivial⟩)

theorem what4_1 {s : S} (h0 : (s.h4 == 0#32) = false) (h1 : (s.h4 == 1#32) = true) : PureOk Try.prog 27 [(V s), (I 4)] (I 0) :=
  pure_of_run (ds := [U s.p, U s.m, U s.h0, U s.h1, U s.h2, U s.h3, U s.h4, U s.h5, U s.h6, U s.h7, U s.h8, U s.h9, U s.h10, U s.h11, U s.h12, U s.h13, U s.h14, U s.h15, B s.b]) (len := 19) (n := 60) (args := [(.agg #[(leaf 0), (leaf 1), (leaf 2), (leaf 3), (leaf 4), (leaf 5), (leaf 6), (leaf 7), (leaf 8), (leaf 9), (leaf 10), (leaf 11), (leaf 12), (leaf 13), (leaf 14), (leaf 15), (leaf 16), (leaf 17), (leaf 18)]), (.int .i64 4)]) (v := (.int .i64 0))
    (fs := [.bin .eql 22 (leaf 6) (.int .u32 0) (.bool false), .bin .eql 22 (leaf 6) (.int .u32 1) (.bool true)]) mixed rfl rfl (by kernel_rfl)
    (allHold ⟨hold_eql_u32 rfl rfl h0, hold_eql_u32 rfl rfl h1, trivial⟩)

theorem what4_2 {s : S} (h0 : (s.h4 == 0#32) = false) (h1 : (s.h4 == 1#32) = false) : PureOk Try.prog 27 [(V s), (I 4)] (I 2) :=
  pure_of_run (ds := [U s.p, U s.m, U s.h0, U s.h1, U s.h2, U s.h3, U s.h4, U s.h5, U s.h6, U s.h7, U s.h8, U s.h9, U s.h10, U s.h11, U s.h12, U s.h13, U s.h14, U s.h15, B s.b]) (len := 19) (n := 60) (args := [(.agg #[(leaf 0), (leaf 1), (leaf 2), (leaf 3), (leaf 4), (leaf 5), (leaf 6), (leaf 7), (leaf 8), (leaf 9), (leaf 10), (leaf 11), (leaf 12), (leaf 13), (leaf 14), (leaf 15), (leaf 16), (leaf 17), (leaf 18)]), (.int .i64 4)]) (v := (.int .i64 2))
    (fs := [.bin .eql 22 (leaf 6) (.int .u32 0) (.bool false), .bin .eql 22 (leaf 6) (.int .u32 1) (.bool false)]) mixed rfl rfl (by kernel_rfl)
    (allHold ⟨hold_eql_u32 rfl rfl h0, hold_eql_u32 rfl rfl h1, trivial⟩)

theorem what_4 {s : S} : PureOk Try.prog 27 [V s, I 4] (I (what s 4)) := by
  cases a : (s.h4 == 0#32) with
  | true =>
    have e : what s 4 = 1 := by show (if (_ || ((s.h4 == 0#32) && _)) then (1 : Int) else if (s.h4 == 0#32) || (s.h4 == 1#32) then 0 else 2) = 1; rw [a]; rfl
    rw [e]; exact what4_0 a
  | false => cases b : (s.h4 == 1#32) with
    | true =>
      have e : what s 4 = 0 := by show (if (_ || ((s.h4 == 0#32) && _)) then (1 : Int) else if (s.h4 == 0#32) || (s.h4 == 1#32) then 0 else 2) = 0; rw [a, b]; rfl
      rw [e]; exact what4_1 a b
    | false =>
      have e : what s 4 = 2 := by show (if (_ || ((s.h4 == 0#32) && _)) then (1 : Int) else if (s.h4 == 0#32) || (s.h4 == 1#32) then 0 else 2) = 2; rw [a, b]; rfl
      rw [e]; exact what4_2 a b
theorem what5_0 {s : S} (h0 : (s.h5 == 0#32) = true) : PureOk Try.prog 27 [(V s), (I 5)] (I 1) :=
  pure_of_run (ds := [U s.p, U s.m, U s.h0, U s.h1, U s.h2, U s.h3, U s.h4, U s.h5, U s.h6, U s.h7, U s.h8, U s.h9, U s.h10, U s.h11, U s.h12, U s.h13, U s.h14, U s.h15, B s.b]) (len := 19) (n := 60) (args := [(.agg #[(leaf 0), (leaf 1), (leaf 2), (leaf 3), (leaf 4), (leaf 5), (leaf 6), (leaf 7), (leaf 8), (leaf 9), (leaf 10), (leaf 11), (leaf 12), (leaf 13), (leaf 14), (leaf 15), (leaf 16), (leaf 17), (leaf 18)]), (.int .i64 5)]) (v := (.int .i64 1))
    (fs := [.bin .eql 22 (leaf 7) (.int .u32 0) (.bool true)]) mixed rfl rfl (by kernel_rfl)
    (allHold ⟨hold_eql_u32 rfl rfl h0, trivial⟩)

theorem what5_1 {s : S} (h0 : (s.h5 == 0#32) = false) (h1 : (s.h5 == 1#32) = true) : PureOk Try.prog 27 [(V s), (I 5)] (I 0) :=
  pure_of_run (ds := [U s.p, U s.m, U s.h0, U s.h1, U s.h2, U s.h3, U s.h4, U s.h5, U s.h6, U s.h7, U s.h8, U s.h9, U s.h10, U s.h11, U s.h12, U s.h13, U s.h14, U s.h15, B s.b]) (len := 19) (n := 60) (args := [(.agg #[(leaf 0), (leaf 1), (leaf 2), (leaf 3), (leaf 4), (leaf 5), (leaf 6), (leaf 7), (leaf 8), (leaf 9), (leaf 10), (leaf 11), (leaf 12), (leaf 13), (leaf 14), (leaf 15), (leaf 16), (leaf 17), (leaf 18)]), (.int .i64 5)]) (v := (.int .i64 0))
    (fs := [.bin .eql 22 (leaf 7) (.int .u32 0) (.bool false), .bin .eql 22 (leaf 7) (.int .u32 1) (.bool true)]) mixed rfl rfl (by kernel_rfl)
    (allHold ⟨hold_eql_u32 rfl rfl h0, hold_eql_u32 rfl rfl h1, trivial⟩)

theorem what5_2 {s : S} (h0 : (s.h5 == 0#32) = false) (h1 : (s.h5 == 1#32) = false) : PureOk Try.prog 27 [(V s), (I 5)] (I 2) :=
  pure_of_run (ds := [U s.p, U s.m, U s.h0, U s.h1, U s.h2, U s.h3, U s.h4, U s.h5, U s.h6, U s.h7, U s.h8, U s.h9, U s.h10, U s.h11, U s.h12, U s.h13, U s.h14, U s.h15, B s.b]) (len := 19) (n := 60) (args := [(.agg #[(leaf 0), (leaf 1), (leaf 2), (leaf 3), (leaf 4), (leaf 5), (leaf 6), (leaf 7), (leaf 8), (leaf 9), (leaf 10), (leaf 11), (leaf 12), (leaf 13), (leaf 14), (leaf 15), (leaf 16), (leaf 17), (leaf 18)]), (.int .i64 5)]) (v := (.int .i64 2))
    (fs := [.bin .eql 22 (leaf 7) (.int .u32 0) (.bool false), .bin .eql 22 (leaf 7) (.int .u32 1) (.bool false)]) mixed rfl rfl (by kernel_rfl)
    (allHold ⟨hold_eql_u32 rfl rfl h0, hold_eql_u32 rfl rfl h1, trivial⟩)

theorem what_5 {s : S} : PureOk Try.prog 27 [V s, I 5] (I (what s 5)) := by
  cases a : (s.h5 == 0#32) with
  | true =>
    have e : what s 5 = 1 := by show (if (_ || ((s.h5 == 0#32) && _)) then (1 : Int) else if (s.h5 == 0#32) || (s.h5 == 1#32) then 0 else 2) = 1; rw [a]; rfl
    rw [e]; exact what5_0 a
  | false => cases b : (s.h5 == 1#32) with
    | true =>
      have e : what s 5 = 0 := by show (if (_ || ((s.h5 == 0#32) && _)) then (1 : Int) else if (s.h5 == 0#32) || (s.h5 == 1#32) then 0 else 2) = 0; rw [a, b]; rfl
      rw [e]; exact what5_1 a b
    | false =>
      have e : what s 5 = 2 := by show (if (_ || ((s.h5 == 0#32) && _)) then (1 : Int) else if (s.h5 == 0#32) || (s.h5 == 1#32) then 0 else 2) = 2; rw [a, b]; rfl
      rw [e]; exact what5_2 a b
theorem what6_0 {s : S} (h0 : (s.h6 == 0#32) = true) : PureOk Try.prog 27 [(V s), (I 6)] (I 1) :=
  pure_of_run (ds := [U s.p, U s.m, U s.h0, U s.h1, U s.h2, U s.h3, U s.h4, U s.h5, U s.h6, U s.h7, U s.h8, U s.h9, U s.h10, U s.h11, U s.h12, U s.h13, U s.h14, U s.h15, B s.b]) (len := 19) (n := 60) (args := [(.agg #[(leaf 0), (leaf 1), (leaf 2), (leaf 3), (leaf 4), (leaf 5), (leaf 6), (leaf 7), (leaf 8), (leaf 9), (leaf 10), (leaf 11), (leaf 12), (leaf 13), (leaf 14), (leaf 15), (leaf 16), (leaf 17), (leaf 18)]), (.int .i64 6)]) (v := (.int .i64 1))
    (fs := [.bin .eql 22 (leaf 8) (.int .u32 0) (.bool true)]) mixed rfl rfl (by kernel_rfl)
    (allHold ⟨hold_eql_u32 rfl rfl h0, trivial⟩)

theorem what6_1 {s : S} (h0 : (s.h6 == 0#32) = false) (h1 : (s.h6 == 1#32) = true) : PureOk Try.prog 27 [(V s), (I 6)] (I 0) :=
  pure_of_run (ds := [U s.p, U s.m, U s.h0, U s.h1, U s.h2, U s.h3, U s.h4, U s.h5, U s.h6, U s.h7, U s.h8, U s.h9, U s.h10, U s.h11, U s.h12, U s.h13, U s.h14, U s.h15, B s.b]) (len := 19) (n := 60) (args := [(.agg #[(leaf 0), (leaf 1), (leaf 2), (leaf 3), (leaf 4), (leaf 5), (leaf 6), (leaf 7), (leaf 8), (leaf 9), (leaf 10), (leaf 11), (leaf 12), (leaf 13), (leaf 14), (leaf 15), (leaf 16), (leaf 17), (leaf 18)]), (.int .i64 6)]) (v := (.int .i64 0))
    (fs := [.bin .eql 22 (leaf 8) (.int .u32 0) (.bool false), .bin .eql 22 (leaf 8) (.int .u32 1) (.bool true)]) mixed rfl rfl (by kernel_rfl)
    (allHold ⟨hold_eql_u32 rfl rfl h0, hold_eql_u32 rfl rfl h1, trivial⟩)

theorem what6_2 {s : S} (h0 : (s.h6 == 0#32) = false) (h1 : (s.h6 == 1#32) = false) : PureOk Try.prog 27 [(V s), (I 6)] (I 2) :=
  pure_of_run (ds := [U s.p, U s.m, U s.h0, U s.h1, U s.h2, U s.h3, U s.h4, U s.h5, U s.h6, U s.h7, U s.h8, U s.h9, U s.h10, U s.h11, U s.h12, U s.h13, U s.h14, U s.h15, B s.b]) (len := 19) (n := 60) (args := [(.agg #[(leaf 0), (leaf 1), (leaf 2), (leaf 3), (leaf 4), (leaf 5), (leaf 6), (leaf 7), (leaf 8), (leaf 9), (leaf 10), (leaf 11), (leaf 12), (leaf 13), (leaf 14), (leaf 15), (leaf 16), (leaf 17), (leaf 18)]), (.int .i64 6)]) (v := (.int .i64 2))
    (fs := [.bin .eql 22 (leaf 8) (.int .u32 0) (.bool false), .bin .eql 22 (leaf 8) (.int .u32 1) (.bool false)]) mixed rfl rfl (by kernel_rfl)
    (allHold ⟨hold_eql_u32 rfl rfl h0, hold_eql_u32 rfl rfl h1, trivial⟩)

theorem what_6 {s : S} : PureOk Try.prog 27 [V s, I 6] (I (what s 6)) := by
  cases a : (s.h6 == 0#32) with
  | true =>
    have e : what s 6 = 1 := by show (if (_ || ((s.h6 == 0#32) && _)) then (1 : Int) else if (s.h6 == 0#32) || (s.h6 == 1#32) then 0 else 2) = 1; rw [a]; rfl
    rw [e]; exact what6_0 a
  | false => cases b : (s.h6 == 1#32) with
    | true =>
      have e : what s 6 = 0 := by show (if (_ || ((s.h6 == 0#32) && _)) then (1 : Int) else if (s.h6 == 0#32) || (s.h6 == 1#32) then 0 else 2) = 0; rw [a, b]; rfl
      rw [e]; exact what6_1 a b
    | false =>
      have e : what s 6 = 2 := by show (if (_ || ((s.h6 == 0#32) && _)) then (1 : Int) else if (s.h6 == 0#32) || (s.h6 == 1#32) then 0 else 2) = 2; rw [a, b]; rfl
      rw [e]; exact what6_2 a b
theorem what7_0 {s : S} (h0 : (s.h7 == 0#32) = true) : PureOk Try.prog 27 [(V s), (I 7)] (I 1) :=
  pure_of_run (ds := [U s.p, U s.m, U s.h0, U s.h1, U s.h2, U s.h3, U s.h4, U s.h5, U s.h6, U s.h7, U s.h8, U s.h9, U s.h10, U s.h11, U s.h12, U s.h13, U s.h14, U s.h15, B s.b]) (len := 19) (n := 60) (args := [(.agg #[(leaf 0), (leaf 1), (leaf 2), (leaf 3), (leaf 4), (leaf 5), (leaf 6), (leaf 7), (leaf 8), (leaf 9), (leaf 10), (leaf 11), (leaf 12), (leaf 13), (leaf 14), (leaf 15), (leaf 16), (leaf 17), (leaf 18)]), (.int .i64 7)]) (v := (.int .i64 1))
    (fs := [.bin .eql 22 (leaf 9) (.int .u32 0) (.bool true)]) mixed rfl rfl (by kernel_rfl)
    (allHold ⟨hold_eql_u32 rfl rfl h0, trivial⟩)

theorem what7_1 {s : S} (h0 : (s.h7 == 0#32) = false) (h1 : (s.h7 == 1#32) = true) : PureOk Try.prog 27 [(V s), (I 7)] (I 0) :=
  pure_of_run (ds := [U s.p, U s.m, U s.h0, U s.h1, U s.h2, U s.h3, U s.h4, U s.h5, U s.h6, U s.h7, U s.h8, U s.h9, U s.h10, U s.h11, U s.h12, U s.h13, U s.h14, U s.h15, B s.b]) (len := 19) (n := 60) (args := [(.agg #[(leaf 0), (leaf 1), (leaf 2), (leaf 3), (leaf 4), (leaf 5), (leaf 6), (leaf 7), (leaf 8), (leaf 9), (leaf 10), (leaf 11), (leaf 12), (leaf 13), (leaf 14), (leaf 15), (leaf 16), (leaf 17), (leaf 18)]), (.int .i64 7)]) (v := (.int .i64 0))
    (fs := [.bin .eql 22 (leaf 9) (.int .u32 0) (.bool false), .bin .eql 22 (leaf 9) (.int .u32 1) (.bool true)]) mixed rfl rfl (by kernel_rfl)
    (allHold ⟨hold_eql_u32 rfl rfl h0, hold_eql_u32 rfl rfl h1, trivial⟩)

theorem what7_2 {s : S} (h0 : (s.h7 == 0#32) = false) (h1 : (s.h7 == 1#32) = false) : PureOk Try.prog 27 [(V s), (I 7)] (I 2) :=
  pure_of_run (ds := [U s.p, U s.m, U s.h0, U s.h1, U s.h2, U s.h3, U s.h4, U s.h5, U s.h6, U s.h7, U s.h8, U s.h9, U s.h10, U s.h11, U s.h12, U s.h13, U s.h14, U s.h15, B s.b]) (len := 19) (n := 60) (args := [(.agg #[(leaf 0), (leaf 1), (leaf 2), (leaf 3), (leaf 4), (leaf 5), (leaf 6), (leaf 7), (leaf 8), (leaf 9), (leaf 10), (leaf 11), (leaf 12), (leaf 13), (leaf 14), (leaf 15), (leaf 16), (leaf 17), (leaf 18)]), (.int .i64 7)]) (v := (.int .i64 2))
    (fs := [.bin .eql 22 (leaf 9) (.int .u32 0) (.bool false), .bin .eql 22 (leaf 9) (.int .u32 1) (.bool false)]) mixed rfl rfl (by kernel_rfl)
    (allHold ⟨hold_eql_u32 rfl rfl h0, hold_eql_u32 rfl rfl h1, trivial⟩)

theorem what_7 {s : S} : PureOk Try.prog 27 [V s, I 7] (I (what s 7)) := by
  cases a : (s.h7 == 0#32) with
  | true =>
    have e : what s 7 = 1 := by show (if (_ || ((s.h7 == 0#32) && _)) then (1 : Int) else if (s.h7 == 0#32) || (s.h7 == 1#32) then 0 else 2) = 1; rw [a]; rfl
    rw [e]; exact what7_0 a
  | false => cases b : (s.h7 == 1#32) with
    | true =>
      have e : what s 7 = 0 := by show (if (_ || ((s.h7 == 0#32) && _)) then (1 : Int) else if (s.h7 == 0#32) || (s.h7 == 1#32) then 0 else 2) = 0; rw [a, b]; rfl
      rw [e]; exact what7_1 a b
    | false =>
      have e : what s 7 = 2 := by show (if (_ || ((s.h7 == 0#32) && _)) then (1 : Int) else if (s.h7 == 0#32) || (s.h7 == 1#32) then 0 else 2) = 2; rw [a, b]; rfl
      rw [e]; exact what7_2 a b
theorem what8_0 {s : S} (h0 : (s.h8 == 0#32) = true) : PureOk Try.prog 27 [(V s), (I 8)] (I 1) :=
  pure_of_run (ds := [U s.p, U s.m, U s.h0, U s.h1, U s.h2, U s.h3, U s.h4, U s.h5, U s.h6, U s.h7, U s.h8, U s.h9, U s.h10, U s.h11, U s.h12, U s.h13, U s.h14, U s.h15, B s.b]) (len := 19) (n := 60) (args := [(.agg #[(leaf 0), (leaf 1), (leaf 2), (leaf 3), (leaf 4), (leaf 5), (leaf 6), (leaf 7), (leaf 8), (leaf 9), (leaf 10), (leaf 11), (leaf 12), (leaf 13), (leaf 14), (leaf 15), (leaf 16), (leaf 17), (leaf 18)]), (.int .i64 8)]) (v := (.int .i64 1))
    (fs := [.bin .eql 22 (leaf 10) (.int .u32 0) (.bool true)]) mixed rfl rfl (by kernel_rfl)
    (allHold ⟨hold_eql_u32 rfl rfl h0, trivial⟩)

theorem what8_1 {s : S} (h0 : (s.h8 == 0#32) = false) (h1 : (s.h8 == 1#32) = true) : PureOk Try.prog 27 [(V s), (I 8)] (I 0) :=
  pure_of_run (ds := [U s.p, U s.m, U s.h0, U s.h1, U s.h2, U s.h3, U s.h4, U s.h5, U s.h6, U s.h7, U s.h8, U s.h9, U s.h10, U s.h11, U s.h12, U s.h13, U s.h14, U s.h15, B s.b]) (len := 19) (n := 60) (args := [(.agg #[(leaf 0), (leaf 1), (leaf 2), (leaf 3), (leaf 4), (leaf 5), (leaf 6), (leaf 7), (leaf 8), (leaf 9), (leaf 10), (leaf 11), (leaf 12), (leaf 13), (leaf 14), (leaf 15), (leaf 16), (leaf 17), (leaf 18)]), (.int .i64 8)]) (v := (.int .i64 0))
    (fs := [.bin .eql 22 (leaf 10) (.int .u32 0) (.bool false), .bin .eql 22 (leaf 10) (.int .u32 1) (.bool true)]) mixed rfl rfl (by kernel_rfl)
    (allHold ⟨hold_eql_u32 rfl rfl h0, hold_eql_u32 rfl rfl h1, trivial⟩)

theorem what8_2 {s : S} (h0 : (s.h8 == 0#32) = false) (h1 : (s.h8 == 1#32) = false) : PureOk Try.prog 27 [(V s), (I 8)] (I 2) :=
  pure_of_run (ds := [U s.p, U s.m, U s.h0, U s.h1, U s.h2, U s.h3, U s.h4, U s.h5, U s.h6, U s.h7, U s.h8, U s.h9, U s.h10, U s.h11, U s.h12, U s.h13, U s.h14, U s.h15, B s.b]) (len := 19) (n := 60) (args := [(.agg #[(leaf 0), (leaf 1), (leaf 2), (leaf 3), (leaf 4), (leaf 5), (leaf 6), (leaf 7), (leaf 8), (leaf 9), (leaf 10), (leaf 11), (leaf 12), (leaf 13), (leaf 14), (leaf 15), (leaf 16), (leaf 17), (leaf 18)]), (.int .i64 8)]) (v := (.int .i64 2))
    (fs := [.bin .eql 22 (leaf 10) (.int .u32 0) (.bool false), .bin .eql 22 (leaf 10) (.int .u32 1) (.bool false)]) mixed rfl rfl (by kernel_rfl)
    (allHold ⟨hold_eql_u32 rfl rfl h0, hold_eql_u32 rfl rfl h1, trivial⟩)

theorem what_8 {s : S} : PureOk Try.prog 27 [V s, I 8] (I (what s 8)) := by
  cases a : (s.h8 == 0#32) with
  | true =>
    have e : what s 8 = 1 := by show (if (_ || ((s.h8 == 0#32) && _)) then (1 : Int) else if (s.h8 == 0#32) || (s.h8 == 1#32) then 0 else 2) = 1; rw [a]; rfl
    rw [e]; exact what8_0 a
  | false => cases b : (s.h8 == 1#32) with
    | true =>
      have e : what s 8 = 0 := by show (if (_ || ((s.h8 == 0#32) && _)) then (1 : Int) else if (s.h8 == 0#32) || (s.h8 == 1#32) then 0 else 2) = 0; rw [a, b]; rfl
      rw [e]; exact what8_1 a b
    | false =>
      have e : what s 8 = 2 := by show (if (_ || ((s.h8 == 0#32) && _)) then (1 : Int) else if (s.h8 == 0#32) || (s.h8 == 1#32) then 0 else 2) = 2; rw [a, b]; rfl
      rw [e]; exact what8_2 a b
theorem what9_0 {s : S}  : PureOk Try.prog 27 [(V s), (I 9)] (I 1) :=
  pure_of_run (ds := [U s.p, U s.m, U s.h0, U s.h1, U s.h2, U s.h3, U s.h4, U s.h5, U s.h6, U s.h7, U s.h8, U s.h9, U s.h10, U s.h11, U s.h12, U s.h13, U s.h14, U s.h15, B s.b]) (len := 19) (n := 60) (args := [(.agg #[(leaf 0), (leaf 1), (leaf 2), (leaf 3), (leaf 4), (leaf 5), (leaf 6), (leaf 7), (leaf 8), (leaf 9), (leaf 10), (leaf 11), (leaf 12), (leaf 13), (leaf 14), (leaf 15), (leaf 16), (leaf 17), (leaf 18)]), (.int .i64 9)]) (v := (.int .i64 1))
    (fs := []) mixed rfl rfl (by kernel_rfl)
    (allHold trivial)

theorem what_9 {s : S} : PureOk Try.prog 27 [V s, I 9] (I (what s 9)) := what9_0
theorem what10_0 {s : S} (h0 : (s.h10 == 0#32) = true) : PureOk Try.prog 27 [(V s), (I 10)] (I 1) :=
  pure_of_run (ds := [U s.p, U s.m, U s.h0, U s.h1, U s.h2, U s.h3, U s.h4, U s.h5, U s.h6, U s.h7, U s.h8, U s.h9, U s.h10, U s.h11, U s.h12, U s.h13, U s.h14, U s.h15, B s.b]) (len := 19) (n := 60) (args := [(.agg #[(leaf 0), (leaf 1), (leaf 2), (leaf 3), (leaf 4), (leaf 5), (leaf 6), (leaf 7), (leaf 8), (leaf 9), (leaf 10), (leaf 11), (leaf 12), (leaf 13), (leaf 14), (leaf 15), (leaf 16), (leaf 17), (leaf 18)]), (.int .i64 10)]) (v := (.int .i64 1))
    (fs := [.bin .eql 22 (leaf 12) (.int .u32 0) (.bool true)]) mixed rfl rfl (by kernel_rfl)
    (allHold ⟨hold_eql_u32 rfl rfl h0, trivial⟩)

theorem what10_1 {s : S} (h0 : (s.h10 == 0#32) = false) (h1 : (s.h10 == 1#32) = true) : PureOk Try.prog 27 [(V s), (I 10)] (I 0) :=
  pure_of_run (ds := [U s.p, U s.m, U s.h0, U s.h1, U s.h2, U s.h3, U s.h4, U s.h5, U s.h6, U s.h7, U s.h8, U s.h9, U s.h10, U s.h11, U s.h12, U s.h13, U s.h14, U s.h15, B s.b]) (len := 19) (n := 60) (args := [(.agg #[(leaf 0), (leaf 1), (leaf 2), (leaf 3), (leaf 4), (leaf 5), (leaf 6), (leaf 7), (leaf 8), (leaf 9), (leaf 10), (leaf 11), (leaf 12), (leaf 13), (leaf 14), (leaf 15), (leaf 16), (leaf 17), (leaf 18)]), (.int .i64 10)]) (v := (.int .i64 0))
    (fs := [.bin .eql 22 (leaf 12) (.int .u32 0) (.bool false), .bin .eql 22 (leaf 12) (.int .u32 1) (.bool true)]) mixed rfl rfl (by kernel_rfl)
    (allHold ⟨hold_eql_u32 rfl rfl h0, hold_eql_u32 rfl rfl h1, trivial⟩)

theorem what10_2 {s : S} (h0 : (s.h10 == 0#32) = false) (h1 : (s.h10 == 1#32) = false) : PureOk Try.prog 27 [(V s), (I 10)] (I 2) :=
  pure_of_run (ds := [U s.p, U s.m, U s.h0, U s.h1, U s.h2, U s.h3, U s.h4, U s.h5, U s.h6, U s.h7, U s.h8, U s.h9, U s.h10, U s.h11, U s.h12, U s.h13, U s.h14, U s.h15, B s.b]) (len := 19) (n := 60) (args := [(.agg #[(leaf 0), (leaf 1), (leaf 2), (leaf 3), (leaf 4), (leaf 5), (leaf 6), (leaf 7), (leaf 8), (leaf 9), (leaf 10), (leaf 11), (leaf 12), (leaf 13), (leaf 14), (leaf 15), (leaf 16), (leaf 17), (leaf 18)]), (.int .i64 10)]) (v := (.int .i64 2))
    (fs := [.bin .eql 22 (leaf 12) (.int .u32 0) (.bool false), .bin .eql 22 (leaf 12) (.int .u32 1) (.bool false)]) mixed rfl rfl (by kernel_rfl)
    (allHold ⟨hold_eql_u32 rfl rfl h0, hold_eql_u32 rfl rfl h1, trivial⟩)

theorem what_10 {s : S} : PureOk Try.prog 27 [V s, I 10] (I (what s 10)) := by
  cases a : (s.h10 == 0#32) with
  | true =>
    have e : what s 10 = 1 := by show (if (_ || ((s.h10 == 0#32) && _)) then (1 : Int) else if (s.h10 == 0#32) || (s.h10 == 1#32) then 0 else 2) = 1; rw [a]; rfl
    rw [e]; exact what10_0 a
  | false => cases b : (s.h10 == 1#32) with
    | true =>
      have e : what s 10 = 0 := by show (if (_ || ((s.h10 == 0#32) && _)) then (1 : Int) else if (s.h10 == 0#32) || (s.h10 == 1#32) then 0 else 2) = 0; rw [a, b]; rfl
      rw [e]; exact what10_1 a b
    | false =>
      have e : what s 10 = 2 := by show (if (_ || ((s.h10 == 0#32) && _)) then (1 : Int) else if (s.h10 == 0#32) || (s.h10 == 1#32) then 0 else 2) = 2; rw [a, b]; rfl
      rw [e]; exact what10_2 a b
theorem what11_0 {s : S} (h0 : (s.h11 == 0#32) = true) : PureOk Try.prog 27 [(V s), (I 11)] (I 1) :=
  pure_of_run (ds := [U s.p, U s.m, U s.h0, U s.h1, U s.h2, U s.h3, U s.h4, U s.h5, U s.h6, U s.h7, U s.h8, U s.h9, U s.h10, U s.h11, U s.h12, U s.h13, U s.h14, U s.h15, B s.b]) (len := 19) (n := 60) (args := [(.agg #[(leaf 0), (leaf 1), (leaf 2), (leaf 3), (leaf 4), (leaf 5), (leaf 6), (leaf 7), (leaf 8), (leaf 9), (leaf 10), (leaf 11), (leaf 12), (leaf 13), (leaf 14), (leaf 15), (leaf 16), (leaf 17), (leaf 18)]), (.int .i64 11)]) (v := (.int .i64 1))
    (fs := [.bin .eql 22 (leaf 13) (.int .u32 0) (.bool true)]) mixed rfl rfl (by kernel_rfl)
    (allHold ⟨hold_eql_u32 rfl rfl h0, trivial⟩)

theorem what11_1 {s : S} (h0 : (s.h11 == 0#32) = false) (h1 : (s.h11 == 1#32) = true) : PureOk Try.prog 27 [(V s), (I 11)] (I 0) :=
  pure_of_run (ds := [U s.p, U s.m, U s.h0, U s.h1, U s.h2, U s.h3, U s.h4, U s.h5, U s.h6, U s.h7, U s.h8, U s.h9, U s.h10, U s.h11, U s.h12, U s.h13, U s.h14, U s.h15, B s.b]) (len := 19) (n := 60) (args := [(.agg #[(leaf 0), (leaf 1), (leaf 2), (leaf 3), (leaf 4), (leaf 5), (leaf 6), (leaf 7), (leaf 8), (leaf 9), (leaf 10), (leaf 11), (leaf 12), (leaf 13), (leaf 14), (leaf 15), (leaf 16), (leaf 17), (leaf 18)]), (.int .i64 11)]) (v := (.int .i64 0))
    (fs := [.bin .eql 22 (leaf 13) (.int .u32 0) (.bool false), .bin .eql 22 (leaf 13) (.int .u32 1) (.bool true)]) mixed rfl rfl (by kernel_rfl)
    (allHold ⟨hold_eql_u32 rfl rfl h0, hold_eql_u32 rfl rfl h1, trivial⟩)

theorem what11_2 {s : S} (h0 : (s.h11 == 0#32) = false) (h1 : (s.h11 == 1#32) = false) : PureOk Try.prog 27 [(V s), (I 11)] (I 2) :=
  pure_of_run (ds := [U s.p, U s.m, U s.h0, U s.h1, U s.h2, U s.h3, U s.h4, U s.h5, U s.h6, U s.h7, U s.h8, U s.h9, U s.h10, U s.h11, U s.h12, U s.h13, U s.h14, U s.h15, B s.b]) (len := 19) (n := 60) (args := [(.agg #[(leaf 0), (leaf 1), (leaf 2), (leaf 3), (leaf 4), (leaf 5), (leaf 6), (leaf 7), (leaf 8), (leaf 9), (leaf 10), (leaf 11), (leaf 12), (leaf 13), (leaf 14), (leaf 15), (leaf 16), (leaf 17), (leaf 18)]), (.int .i64 11)]) (v := (.int .i64 2))
    (fs := [.bin .eql 22 (leaf 13) (.int .u32 0) (.bool false), .bin .eql 22 (leaf 13) (.int .u32 1) (.bool false)]) mixed rfl rfl (by kernel_rfl)
    (allHold ⟨hold_eql_u32 rfl rfl h0, hold_eql_u32 rfl rfl h1, trivial⟩)

theorem what_11 {s : S} : PureOk Try.prog 27 [V s, I 11] (I (what s 11)) := by
  cases a : (s.h11 == 0#32) with
  | true =>
    have e : what s 11 = 1 := by show (if (_ || ((s.h11 == 0#32) && _)) then (1 : Int) else if (s.h11 == 0#32) || (s.h11 == 1#32) then 0 else 2) = 1; rw [a]; rfl
    rw [e]; exact what11_0 a
  | false => cases b : (s.h11 == 1#32) with
    | true =>
      have e : what s 11 = 0 := by show (if (_ || ((s.h11 == 0#32) && _)) then (1 : Int) else if (s.h11 == 0#32) || (s.h11 == 1#32) then 0 else 2) = 0; rw [a, b]; rfl
      rw [e]; exact what11_1 a b
    | false =>
      have e : what s 11 = 2 := by show (if (_ || ((s.h11 == 0#32) && _)) then (1 : Int) else if (s.h11 == 0#32) || (s.h11 == 1#32) then 0 else 2) = 2; rw [a, b]; rfl
      rw [e]; exact what11_2 a b
theorem what12_0 {s : S} (h0 : (s.h12 == 0#32) = true) : PureOk Try.prog 27 [(V s), (I 12)] (I 0) :=
  pure_of_run (ds := [U s.p, U s.m, U s.h0, U s.h1, U s.h2, U s.h3, U s.h4, U s.h5, U s.h6, U s.h7, U s.h8, U s.h9, U s.h10, U s.h11, U s.h12, U s.h13, U s.h14, U s.h15, B s.b]) (len := 19) (n := 60) (args := [(.agg #[(leaf 0), (leaf 1), (leaf 2), (leaf 3), (leaf 4), (leaf 5), (leaf 6), (leaf 7), (leaf 8), (leaf 9), (leaf 10), (leaf 11), (leaf 12), (leaf 13), (leaf 14), (leaf 15), (leaf 16), (leaf 17), (leaf 18)]), (.int .i64 12)]) (v := (.int .i64 0))
    (fs := [.bin .eql 22 (leaf 14) (.int .u32 0) (.bool true)]) mixed rfl rfl (by kernel_rfl)
    (allHold ⟨hold_eql_u32 rfl rfl h0, trivial⟩)

theorem what12_1 {s : S} (h0 : (s.h12 == 0#32) = false) (h1 : (s.h12 == 1#32) = true) : PureOk Try.prog 27 [(V s), (I 12)] (I 0) :=
  pure_of_run (ds := [U s.p, U s.m, U s.h0, U s.h1, U s.h2, U s.h3, U s.h4, U s.h5, U s.h6, U s.h7, U s.h8, U s.h9, U s.h10, U s.h11, U s.h12, U s.h13, U s.h14, U s.h15, B s.b]) (len := 19) (n := 60) (args := [(.agg #[(leaf 0), (leaf 1), (leaf 2), (leaf 3), (leaf 4), (leaf 5), (leaf 6), (leaf 7), (leaf 8), (leaf 9), (leaf 10), (leaf 11), (leaf 12), (leaf 13), (leaf 14), (leaf 15), (leaf 16), (leaf 17), (leaf 18)]), (.int .i64 12)]) (v := (.int .i64 0))
    (fs := [.bin .eql 22 (leaf 14) (.int .u32 0) (.bool false), .bin .eql 22 (leaf 14) (.int .u32 1) (.bool true)]) mixed rfl rfl (by kernel_rfl)
    (allHold ⟨hold_eql_u32 rfl rfl h0, hold_eql_u32 rfl rfl h1, trivial⟩)

theorem what12_2 {s : S} (h0 : (s.h12 == 0#32) = false) (h1 : (s.h12 == 1#32) = false) : PureOk Try.prog 27 [(V s), (I 12)] (I 2) :=
  pure_of_run (ds := [U s.p, U s.m, U s.h0, U s.h1, U s.h2, U s.h3, U s.h4, U s.h5, U s.h6, U s.h7, U s.h8, U s.h9, U s.h10, U s.h11, U s.h12, U s.h13, U s.h14, U s.h15, B s.b]) (len := 19) (n := 60) (args := [(.agg #[(leaf 0), (leaf 1), (leaf 2), (leaf 3), (leaf 4), (leaf 5), (leaf 6), (leaf 7), (leaf 8), (leaf 9), (leaf 10), (leaf 11), (leaf 12), (leaf 13), (leaf 14), (leaf 15), (leaf 16), (leaf 17), (leaf 18)]), (.int .i64 12)]) (v := (.int .i64 2))
    (fs := [.bin .eql 22 (leaf 14) (.int .u32 0) (.bool false), .bin .eql 22 (leaf 14) (.int .u32 1) (.bool false)]) mixed rfl rfl (by kernel_rfl)
    (allHold ⟨hold_eql_u32 rfl rfl h0, hold_eql_u32 rfl rfl h1, trivial⟩)

theorem what_12 {s : S} : PureOk Try.prog 27 [V s, I 12] (I (what s 12)) := by
  cases a : (s.h12 == 0#32) with
  | true =>
    have e : what s 12 = 0 := by show (if (_ || ((s.h12 == 0#32) && _)) then (1 : Int) else if (s.h12 == 0#32) || (s.h12 == 1#32) then 0 else 2) = 0; rw [a]; rfl
    rw [e]; exact what12_0 a
  | false => cases b : (s.h12 == 1#32) with
    | true =>
      have e : what s 12 = 0 := by show (if (_ || ((s.h12 == 0#32) && _)) then (1 : Int) else if (s.h12 == 0#32) || (s.h12 == 1#32) then 0 else 2) = 0; rw [a, b]; rfl
      rw [e]; exact what12_1 a b
    | false =>
      have e : what s 12 = 2 := by show (if (_ || ((s.h12 == 0#32) && _)) then (1 : Int) else if (s.h12 == 0#32) || (s.h12 == 1#32) then 0 else 2) = 2; rw [a, b]; rfl
      rw [e]; exact what12_2 a b
theorem what13_0 {s : S} (h0 : (s.h13 == 0#32) = true) : PureOk Try.prog 27 [(V s), (I 13)] (I 1) :=
  pure_of_run (ds := [U s.p, U s.m, U s.h0, U s.h1, U s.h2, U s.h3, U s.h4, U s.h5, U s.h6, U s.h7, U s.h8, U s.h9, U s.h10, U s.h11, U s.h12, U s.h13, U s.h14, U s.h15, B s.b]) (len := 19) (n := 60) (args := [(.agg #[(leaf 0), (leaf 1), (leaf 2), (leaf 3), (leaf 4), (leaf 5), (leaf 6), (leaf 7), (leaf 8), (leaf 9), (leaf 10), (leaf 11), (leaf 12), (leaf 13), (leaf 14), (leaf 15), (leaf 16), (leaf 17), (leaf 18)]), (.int .i64 13)]) (v := (.int .i64 1))
    (fs := [.bin .eql 22 (leaf 15) (.int .u32 0) (.bool true)]) mixed rfl rfl (by kernel_rfl)
    (allHold ⟨hold_eql_u32 rfl rfl h0, trivial⟩)

theorem what13_1 {s : S} (h0 : (s.h13 == 0#32) = false) (h1 : (s.h13 == 1#32) = true) : PureOk Try.prog 27 [(V s), (I 13)] (I 0) :=
  pure_of_run (ds := [U s.p, U s.m, U s.h0, U s.h1, U s.h2, U s.h3, U s.h4, U s.h5, U s.h6, U s.h7, U s.h8, U s.h9, U s.h10, U s.h11, U s.h12, U s.h13, U s.h14, U s.h15, B s.b]) (len := 19) (n := 60) (args := [(.agg #[(leaf 0), (leaf 1), (leaf 2), (leaf 3), (leaf 4), (leaf 5), (leaf 6), (leaf 7), (leaf 8), (leaf 9), (leaf 10), (leaf 11), (leaf 12), (leaf 13), (leaf 14), (leaf 15), (leaf 16), (leaf 17), (leaf 18)]), (.int .i64 13)]) (v := (.int .i64 0))
    (fs := [.bin .eql 22 (leaf 15) (.int .u32 0) (.bool false), .bin .eql 22 (leaf 15) (.int .u32 1) (.bool true)]) mixed rfl rfl (by kernel_rfl)
    (allHold ⟨hold_eql_u32 rfl rfl h0, hold_eql_u32 rfl rfl h1, trivial⟩)

theorem what13_2 {s : S} (h0 : (s.h13 == 0#32) = false) (h1 : (s.h13 == 1#32) = false) : PureOk Try.prog 27 [(V s), (I 13)] (I 2) :=
  pure_of_run (ds := [U s.p, U s.m, U s.h0, U s.h1, U s.h2, U s.h3, U s.h4, U s.h5, U s.h6, U s.h7, U s.h8, U s.h9, U s.h10, U s.h11, U s.h12, U s.h13, U s.h14, U s.h15, B s.b]) (len := 19) (n := 60) (args := [(.agg #[(leaf 0), (leaf 1), (leaf 2), (leaf 3), (leaf 4), (leaf 5), (leaf 6), (leaf 7), (leaf 8), (leaf 9), (leaf 10), (leaf 11), (leaf 12), (leaf 13), (leaf 14), (leaf 15), (leaf 16), (leaf 17), (leaf 18)]), (.int .i64 13)]) (v := (.int .i64 2))
    (fs := [.bin .eql 22 (leaf 15) (.int .u32 0) (.bool false), .bin .eql 22 (leaf 15) (.int .u32 1) (.bool false)]) mixed rfl rfl (by kernel_rfl)
    (allHold ⟨hold_eql_u32 rfl rfl h0, hold_eql_u32 rfl rfl h1, trivial⟩)

theorem what_13 {s : S} : PureOk Try.prog 27 [V s, I 13] (I (what s 13)) := by
  cases a : (s.h13 == 0#32) with
  | true =>
    have e : what s 13 = 1 := by show (if (_ || ((s.h13 == 0#32) && _)) then (1 : Int) else if (s.h13 == 0#32) || (s.h13 == 1#32) then 0 else 2) = 1; rw [a]; rfl
    rw [e]; exact what13_0 a
  | false => cases b : (s.h13 == 1#32) with
    | true =>
      have e : what s 13 = 0 := by show (if (_ || ((s.h13 == 0#32) && _)) then (1 : Int) else if (s.h13 == 0#32) || (s.h13 == 1#32) then 0 else 2) = 0; rw [a, b]; rfl
      rw [e]; exact what13_1 a b
    | false =>
      have e : what s 13 = 2 := by show (if (_ || ((s.h13 == 0#32) && _)) then (1 : Int) else if (s.h13 == 0#32) || (s.h13 == 1#32) then 0 else 2) = 2; rw [a, b]; rfl
      rw [e]; exact what13_2 a b
theorem what14_0 {s : S} (h0 : (s.h14 == 0#32) = true) : PureOk Try.prog 27 [(V s), (I 14)] (I 1) :=
  pure_of_run (ds := [U s.p, U s.m, U s.h0, U s.h1, U s.h2, U s.h3, U s.h4, U s.h5, U s.h6, U s.h7, U s.h8, U s.h9, U s.h10, U s.h11, U s.h12, U s.h13, U s.h14, U s.h15, B s.b]) (len := 19) (n := 60) (args := [(.agg #[(leaf 0), (leaf 1), (leaf 2), (leaf 3), (leaf 4), (leaf 5), (leaf 6), (leaf 7), (leaf 8), (leaf 9), (leaf 10), (leaf 11), (leaf 12), (leaf 13), (leaf 14), (leaf 15), (leaf 16), (leaf 17), (leaf 18)]), (.int .i64 14)]) (v := (.int .i64 1))
    (fs := [.bin .eql 22 (leaf 16) (.int .u32 0) (.bool true)]) mixed rfl rfl (by kernel_rfl)
    (allHold ⟨hold_eql_u32 rfl rfl h0, trivial⟩)

theorem what14_1 {s : S} (h0 : (s.h14 == 0#32) = false) (h1 : (s.h14 == 1#32) = true) : PureOk Try.prog 27 [(V s), (I 14)] (I 0) :=
  pure_of_run (ds := [U s.p, U s.m, U s.h0, U s.h1, U s.h2, U s.h3, U s.h4, U s.h5, U s.h6, U s.h7, U s.h8, U s.h9, U s.h10, U s.h11, U s.h12, U s.h13, U s.h14, U s.h15, B s.b]) (len := 19) (n := 60) (args := [(.agg #[(leaf 0), (leaf 1), (leaf 2), (leaf 3), (leaf 4), (leaf 5), (leaf 6), (leaf 7), (leaf 8), (leaf 9), (leaf 10), (leaf 11), (leaf 12), (leaf 13), (leaf 14), (leaf 15), (leaf 16), (leaf 17), (leaf 18)]), (.int .i64 14)]) (v := (.int .i64 0))
    (fs := [.bin .eql 22 (leaf 16) (.int .u32 0) (.bool false), .bin .eql 22 (leaf 16) (.int .u32 1) (.bool true)]) mixed rfl rfl (by kernel_rfl)
    (allHold ⟨hold_eql_u32 rfl rfl h0, hold_eql_u32 rfl rfl h1, trivial⟩)

theorem what14_2 {s : S} (h0 : (s.h14 == 0#32) = false) (h1 : (s.h14 == 1#32) = false) : PureOk Try.prog 27 [(V s), (I 14)] (I 2) :=
  pure_of_run (ds := [U s.p, U s.m, U s.h0, U s.h1, U s.h2, U s.h3, U s.h4, U s.h5, U s.h6, U s.h7, U s.h8, U s.h9, U s.h10, U s.h11, U s.h12, U s.h13, U s.h14, U s.h15, B s.b]) (len := 19) (n := 60) (args := [(.agg #[(leaf 0), (leaf 1), (leaf 2), (leaf 3), (leaf 4), (leaf 5), (leaf 6), (leaf 7), (leaf 8), (leaf 9), (leaf 10), (leaf 11), (leaf 12), (leaf 13), (leaf 14), (leaf 15), (leaf 16), (leaf 17), (leaf 18)]), (.int .i64 14)]) (v := (.int .i64 2))
    (fs := [.bin .eql 22 (leaf 16) (.int .u32 0) (.bool false), .bin .eql 22 (leaf 16) (.int .u32 1) (.bool false)]) mixed rfl rfl (by kernel_rfl)
    (allHold ⟨hold_eql_u32 rfl rfl h0, hold_eql_u32 rfl rfl h1, trivial⟩)

theorem what_14 {s : S} : PureOk Try.prog 27 [V s, I 14] (I (what s 14)) := by
  cases a : (s.h14 == 0#32) with
  | true =>
    have e : what s 14 = 1 := by show (if (_ || ((s.h14 == 0#32) && _)) then (1 : Int) else if (s.h14 == 0#32) || (s.h14 == 1#32) then 0 else 2) = 1; rw [a]; rfl
    rw [e]; exact what14_0 a
  | false => cases b : (s.h14 == 1#32) with
    | true =>
      have e : what s 14 = 0 := by show (if (_ || ((s.h14 == 0#32) && _)) then (1 : Int) else if (s.h14 == 0#32) || (s.h14 == 1#32) then 0 else 2) = 0; rw [a, b]; rfl
      rw [e]; exact what14_1 a b
    | false =>
      have e : what s 14 = 2 := by show (if (_ || ((s.h14 == 0#32) && _)) then (1 : Int) else if (s.h14 == 0#32) || (s.h14 == 1#32) then 0 else 2) = 2; rw [a, b]; rfl
      rw [e]; exact what14_2 a b
theorem what15_0 {s : S} (h0 : (s.h15 == 0#32) = true) : PureOk Try.prog 27 [(V s), (I 15)] (I 1) :=
  pure_of_run (ds := [U s.p, U s.m, U s.h0, U s.h1, U s.h2, U s.h3, U s.h4, U s.h5, U s.h6, U s.h7, U s.h8, U s.h9, U s.h10, U s.h11, U s.h12, U s.h13, U s.h14, U s.h15, B s.b]) (len := 19) (n := 60) (args := [(.agg #[(leaf 0), (leaf 1), (leaf 2), (leaf 3), (leaf 4), (leaf 5), (leaf 6), (leaf 7), (leaf 8), (leaf 9), (leaf 10), (leaf 11), (leaf 12), (leaf 13), (leaf 14), (leaf 15), (leaf 16), (leaf 17), (leaf 18)]), (.int .i64 15)]) (v := (.int .i64 1))
    (fs := [.bin .eql 22 (leaf 17) (.int .u32 0) (.bool true)]) mixed rfl rfl (by kernel_rfl)
    (allHold ⟨hold_eql_u32 rfl rfl h0, trivial⟩)

theorem what15_1 {s : S} (h0 : (s.h15 == 0#32) = false) (h1 : (s.h15 == 1#32) = true) : PureOk Try.prog 27 [(V s), (I 15)] (I 0) :=
  pure_of_run (ds := [U s.p, U s.m, U s.h0, U s.h1, U s.h2, U s.h3, U s.h4, U s.h5, U s.h6, U s.h7, U s.h8, U s.h9, U s.h10, U s.h11, U s.h12, U s.h13, U s.h14, U s.h15, B s.b]) (len := 19) (n := 60) (args := [(.agg #[(leaf 0), (leaf 1), (leaf 2), (leaf 3), (leaf 4), (leaf 5), (leaf 6), (leaf 7), (leaf 8), (leaf 9), (leaf 10), (leaf 11), (leaf 12), (leaf 13), (leaf 14), (leaf 15), (leaf 16), (leaf 17), (leaf 18)]), (.int .i64 15)]) (v := (.int .i64 0))
    (fs := [.bin .eql 22 (leaf 17) (.int .u32 0) (.bool false), .bin .eql 22 (leaf 17) (.int .u32 1) (.bool true)]) mixed rfl rfl (by kernel_rfl)
    (allHold ⟨hold_eql_u32 rfl rfl h0, hold_eql_u32 rfl rfl h1, trivial⟩)

theorem what15_2 {s : S} (h0 : (s.h15 == 0#32) = false) (h1 : (s.h15 == 1#32) = false) : PureOk Try.prog 27 [(V s), (I 15)] (I 2) :=
  pure_of_run (ds := [U s.p, U s.m, U s.h0, U s.h1, U s.h2, U s.h3, U s.h4, U s.h5, U s.h6, U s.h7, U s.h8, U s.h9, U s.h10, U s.h11, U s.h12, U s.h13, U s.h14, U s.h15, B s.b]) (len := 19) (n := 60) (args := [(.agg #[(leaf 0), (leaf 1), (leaf 2), (leaf 3), (leaf 4), (leaf 5), (leaf 6), (leaf 7), (leaf 8), (leaf 9), (leaf 10), (leaf 11), (leaf 12), (leaf 13), (leaf 14), (leaf 15), (leaf 16), (leaf 17), (leaf 18)]), (.int .i64 15)]) (v := (.int .i64 2))
    (fs := [.bin .eql 22 (leaf 17) (.int .u32 0) (.bool false), .bin .eql 22 (leaf 17) (.int .u32 1) (.bool false)]) mixed rfl rfl (by kernel_rfl)
    (allHold ⟨hold_eql_u32 rfl rfl h0, hold_eql_u32 rfl rfl h1, trivial⟩)

theorem what_15 {s : S} : PureOk Try.prog 27 [V s, I 15] (I (what s 15)) := by
  cases a : (s.h15 == 0#32) with
  | true =>
    have e : what s 15 = 1 := by show (if (_ || ((s.h15 == 0#32) && _)) then (1 : Int) else if (s.h15 == 0#32) || (s.h15 == 1#32) then 0 else 2) = 1; rw [a]; rfl
    rw [e]; exact what15_0 a
  | false => cases b : (s.h15 == 1#32) with
    | true =>
      have e : what s 15 = 0 := by show (if (_ || ((s.h15 == 0#32) && _)) then (1 : Int) else if (s.h15 == 0#32) || (s.h15 == 1#32) then 0 else 2) = 0; rw [a, b]; rfl
      rw [e]; exact what15_1 a b
    | false =>
      have e : what s 15 = 2 := by show (if (_ || ((s.h15 == 0#32) && _)) then (1 : Int) else if (s.h15 == 0#32) || (s.h15 == 1#32) then 0 else 2) = 2; rw [a, b]; rfl
      rw [e]; exact what15_2 a b
theorem handle1_0 {s : S} {at_ : BitVec 32} (h0 : okS s = true) : PureOk Try.prog 15 [(V s), (I 1), (U at_)] (.tuple #[(U s.h1), (V { s with h1 := at_ }), (I 0)]) :=
  pure_of_run (ds := [U s.p, U s.m, U s.h0, U s.h1, U s.h2, U s.h3, U s.h4, U s.h5, U s.h6, U s.h7, U s.h8, U s.h9, U s.h10, U s.h11, U s.h12, U s.h13, U s.h14, U s.h15, B s.b, U at_]) (len := 20) (n := 60) (args := [(.agg #[(leaf 0), (leaf 1), (leaf 2), (leaf 3), (leaf 4), (leaf 5), (leaf 6), (leaf 7), (leaf 8), (leaf 9), (leaf 10), (leaf 11), (leaf 12), (leaf 13), (leaf 14), (leaf 15), (leaf 16), (leaf 17), (leaf 18)]), (.int .i64 1), (leaf 19)]) (v := (.tuple #[(leaf 3), (.agg #[(leaf 0), (leaf 1), (leaf 2), (leaf 19), (leaf 4), (leaf 5), (leaf 6), (leaf 7), (leaf 8), (leaf 9), (leaf 10), (leaf 11), (leaf 12), (leaf 13), (leaf 14), (leaf 15), (leaf 16), (leaf 17), (leaf 18)]), (.int .i64 0)]))
    (fs := [.call 11 [(.agg #[(leaf 0), (leaf 1), (leaf 2), (leaf 3), (leaf 4), (leaf 5), (leaf 6), (leaf 7), (leaf 8), (leaf 9), (leaf 10), (leaf 11), (leaf 12), (leaf 13), (leaf 14), (leaf 15), (leaf 16), (leaf 17), (leaf 18)])] (.int .i64 0), .call 28 [(.int .i64 1)] (.bool true)]) mixed rfl rfl (by kernel_rfl)
    (allHold ⟨⟨rfl, check_ok (s := s) h0⟩, ⟨rfl, is_ok rfl⟩, trivial⟩)

theorem handle1_1 {s : S} {at_ : BitVec 32} (h0 : okS s = false) : PureOk Try.prog 15 [(V s), (I 1), (U at_)] (.tuple #[(U 0#32), (V s), (I 120)]) :=
  pure_of_run (ds := [U s.p, U s.m, U s.h0, U s.h1, U s.h2, U s.h3, U s.h4, U s.h5, U s.h6, U s.h7, U s.h8, U s.h9, U s.h10, U s.h11, U s.h12, U s.h13, U s.h14, U s.h15, B s.b, U at_]) (len := 20) (n := 60) (args := [(.agg #[(leaf 0), (leaf 1), (leaf 2), (leaf 3), (leaf 4), (leaf 5), (leaf 6), (leaf 7), (leaf 8), (leaf 9), (leaf 10), (leaf 11), (leaf 12), (leaf 13), (leaf 14), (leaf 15), (leaf 16), (leaf 17), (leaf 18)]), (.int .i64 1), (leaf 19)]) (v := (.tuple #[(.int .u32 0), (.agg #[(leaf 0), (leaf 1), (leaf 2), (leaf 3), (leaf 4), (leaf 5), (leaf 6), (leaf 7), (leaf 8), (leaf 9), (leaf 10), (leaf 11), (leaf 12), (leaf 13), (leaf 14), (leaf 15), (leaf 16), (leaf 17), (leaf 18)]), (.int .i64 120)]))
    (fs := [.call 11 [(.agg #[(leaf 0), (leaf 1), (leaf 2), (leaf 3), (leaf 4), (leaf 5), (leaf 6), (leaf 7), (leaf 8), (leaf 9), (leaf 10), (leaf 11), (leaf 12), (leaf 13), (leaf 14), (leaf 15), (leaf 16), (leaf 17), (leaf 18)])] (.int .i64 120)]) mixed rfl rfl (by kernel_rfl)
    (allHold ⟨⟨rfl, check_no (s := s) h0⟩, trivial⟩)

theorem handle2_0 {s : S} {at_ : BitVec 32} (h0 : okS s = true) : PureOk Try.prog 15 [(V s), (I 2), (U at_)] (.tuple #[(U s.h2), (V { s with h2 := at_ }), (I 0)]) :=
  pure_of_run (ds := [U s.p, U s.m, U s.h0, U s.h1, U s.h2, U s.h3, U s.h4, U s.h5, U s.h6, U s.h7, U s.h8, U s.h9, U s.h10, U s.h11, U s.h12, U s.h13, U s.h14, U s.h15, B s.b, U at_]) (len := 20) (n := 60) (args := [(.agg #[(leaf 0), (leaf 1), (leaf 2), (leaf 3), (leaf 4), (leaf 5), (leaf 6), (leaf 7), (leaf 8), (leaf 9), (leaf 10), (leaf 11), (leaf 12), (leaf 13), (leaf 14), (leaf 15), (leaf 16), (leaf 17), (leaf 18)]), (.int .i64 2), (leaf 19)]) (v := (.tuple #[(leaf 4), (.agg #[(leaf 0), (leaf 1), (leaf 2), (leaf 3), (leaf 19), (leaf 5), (leaf 6), (leaf 7), (leaf 8), (leaf 9), (leaf 10), (leaf 11), (leaf 12), (leaf 13), (leaf 14), (leaf 15), (leaf 16), (leaf 17), (leaf 18)]), (.int .i64 0)]))
    (fs := [.call 11 [(.agg #[(leaf 0), (leaf 1), (leaf 2), (leaf 3), (leaf 4), (leaf 5), (leaf 6), (leaf 7), (leaf 8), (leaf 9), (leaf 10), (leaf 11), (leaf 12), (leaf 13), (leaf 14), (leaf 15), (leaf 16), (leaf 17), (leaf 18)])] (.int .i64 0), .call 28 [(.int .i64 2)] (.bool true)]) mixed rfl rfl (by kernel_rfl)
    (allHold ⟨⟨rfl, check_ok (s := s) h0⟩, ⟨rfl, is_ok rfl⟩, trivial⟩)

theorem handle2_1 {s : S} {at_ : BitVec 32} (h0 : okS s = false) : PureOk Try.prog 15 [(V s), (I 2), (U at_)] (.tuple #[(U 0#32), (V s), (I 120)]) :=
  pure_of_run (ds := [U s.p, U s.m, U s.h0, U s.h1, U s.h2, U s.h3, U s.h4, U s.h5, U s.h6, U s.h7, U s.h8, U s.h9, U s.h10, U s.h11, U s.h12, U s.h13, U s.h14, U s.h15, B s.b, U at_]) (len := 20) (n := 60) (args := [(.agg #[(leaf 0), (leaf 1), (leaf 2), (leaf 3), (leaf 4), (leaf 5), (leaf 6), (leaf 7), (leaf 8), (leaf 9), (leaf 10), (leaf 11), (leaf 12), (leaf 13), (leaf 14), (leaf 15), (leaf 16), (leaf 17), (leaf 18)]), (.int .i64 2), (leaf 19)]) (v := (.tuple #[(.int .u32 0), (.agg #[(leaf 0), (leaf 1), (leaf 2), (leaf 3), (leaf 4), (leaf 5), (leaf 6), (leaf 7), (leaf 8), (leaf 9), (leaf 10), (leaf 11), (leaf 12), (leaf 13), (leaf 14), (leaf 15), (leaf 16), (leaf 17), (leaf 18)]), (.int .i64 120)]))
    (fs := [.call 11 [(.agg #[(leaf 0), (leaf 1), (leaf 2), (leaf 3), (leaf 4), (leaf 5), (leaf 6), (leaf 7), (leaf 8), (leaf 9), (leaf 10), (leaf 11), (leaf 12), (leaf 13), (leaf 14), (leaf 15), (leaf 16), (leaf 17), (leaf 18)])] (.int .i64 120)]) mixed rfl rfl (by kernel_rfl)
    (allHold ⟨⟨rfl, check_no (s := s) h0⟩, trivial⟩)

theorem handle3_0 {s : S} {at_ : BitVec 32} (h0 : okS s = true) : PureOk Try.prog 15 [(V s), (I 3), (U at_)] (.tuple #[(U s.h3), (V { s with h3 := at_ }), (I 0)]) :=
  pure_of_run (ds := [U s.p, U s.m, U s.h0, U s.h1, U s.h2, U s.h3, U s.h4, U s.h5, U s.h6, U s.h7, U s.h8, U s.h9, U s.h10, U s.h11, U s.h12, U s.h13, U s.h14, U s.h15, B s.b, U at_]) (len := 20) (n := 60) (args := [(.agg #[(leaf 0), (leaf 1), (leaf 2), (leaf 3), (leaf 4), (leaf 5), (leaf 6), (leaf 7), (leaf 8), (leaf 9), (leaf 10), (leaf 11), (leaf 12), (leaf 13), (leaf 14), (leaf 15), (leaf 16), (leaf 17), (leaf 18)]), (.int .i64 3), (leaf 19)]) (v := (.tuple #[(leaf 5), (.agg #[(leaf 0), (leaf 1), (leaf 2), (leaf 3), (leaf 4), (leaf 19), (leaf 6), (leaf 7), (leaf 8), (leaf 9), (leaf 10), (leaf 11), (leaf 12), (leaf 13), (leaf 14), (leaf 15), (leaf 16), (leaf 17), (leaf 18)]), (.int .i64 0)]))
    (fs := [.call 11 [(.agg #[(leaf 0), (leaf 1), (leaf 2), (leaf 3), (leaf 4), (leaf 5), (leaf 6), (leaf 7), (leaf 8), (leaf 9), (leaf 10), (leaf 11), (leaf 12), (leaf 13), (leaf 14), (leaf 15), (leaf 16), (leaf 17), (leaf 18)])] (.int .i64 0), .call 28 [(.int .i64 3)] (.bool true)]) mixed rfl rfl (by kernel_rfl)
    (allHold ⟨⟨rfl, check_ok (s := s) h0⟩, ⟨rfl, is_ok rfl⟩, trivial⟩)

theorem handle3_1 {s : S} {at_ : BitVec 32} (h0 : okS s = false) : PureOk Try.prog 15 [(V s), (I 3), (U at_)] (.tuple #[(U 0#32), (V s), (I 120)]) :=
  pure_of_run (ds := [U s.p, U s.m, U s.h0, U s.h1, U s.h2, U s.h3, U s.h4, U s.h5, U s.h6, U s.h7, U s.h8, U s.h9, U s.h10, U s.h11, U s.h12, U s.h13, U s.h14, U s.h15, B s.b, U at_]) (len := 20) (n := 60) (args := [(.agg #[(leaf 0), (leaf 1), (leaf 2), (leaf 3), (leaf 4), (leaf 5), (leaf 6), (leaf 7), (leaf 8), (leaf 9), (leaf 10), (leaf 11), (leaf 12), (leaf 13), (leaf 14), (leaf 15), (leaf 16), (leaf 17), (leaf 18)]), (.int .i64 3), (leaf 19)]) (v := (.tuple #[(.int .u32 0), (.agg #[(leaf 0), (leaf 1), (leaf 2), (leaf 3), (leaf 4), (leaf 5), (leaf 6), (leaf 7), (leaf 8), (leaf 9), (leaf 10), (leaf 11), (leaf 12), (leaf 13), (leaf 14), (leaf 15), (leaf 16), (leaf 17), (leaf 18)]), (.int .i64 120)]))
    (fs := [.call 11 [(.agg #[(leaf 0), (leaf 1), (leaf 2), (leaf 3), (leaf 4), (leaf 5), (leaf 6), (leaf 7), (leaf 8), (leaf 9), (leaf 10), (leaf 11), (leaf 12), (leaf 13), (leaf 14), (leaf 15), (leaf 16), (leaf 17), (leaf 18)])] (.int .i64 120)]) mixed rfl rfl (by kernel_rfl)
    (allHold ⟨⟨rfl, check_no (s := s) h0⟩, trivial⟩)

theorem handle4_0 {s : S} {at_ : BitVec 32} (h0 : okS s = true) : PureOk Try.prog 15 [(V s), (I 4), (U at_)] (.tuple #[(U s.h4), (V { s with h4 := at_ }), (I 0)]) :=
  pure_of_run (ds := [U s.p, U s.m, U s.h0, U s.h1, U s.h2, U s.h3, U s.h4, U s.h5, U s.h6, U s.h7, U s.h8, U s.h9, U s.h10, U s.h11, U s.h12, U s.h13, U s.h14, U s.h15, B s.b, U at_]) (len := 20) (n := 60) (args := [(.agg #[(leaf 0), (leaf 1), (leaf 2), (leaf 3), (leaf 4), (leaf 5), (leaf 6), (leaf 7), (leaf 8), (leaf 9), (leaf 10), (leaf 11), (leaf 12), (leaf 13), (leaf 14), (leaf 15), (leaf 16), (leaf 17), (leaf 18)]), (.int .i64 4), (leaf 19)]) (v := (.tuple #[(leaf 6), (.agg #[(leaf 0), (leaf 1), (leaf 2), (leaf 3), (leaf 4), (leaf 5), (leaf 19), (leaf 7), (leaf 8), (leaf 9), (leaf 10), (leaf 11), (leaf 12), (leaf 13), (leaf 14), (leaf 15), (leaf 16), (leaf 17), (leaf 18)]), (.int .i64 0)]))
    (fs := [.call 11 [(.agg #[(leaf 0), (leaf 1), (leaf 2), (leaf 3), (leaf 4), (leaf 5), (leaf 6), (leaf 7), (leaf 8), (leaf 9), (leaf 10), (leaf 11), (leaf 12), (leaf 13), (leaf 14), (leaf 15), (leaf 16), (leaf 17), (leaf 18)])] (.int .i64 0), .call 28 [(.int .i64 4)] (.bool true)]) mixed rfl rfl (by kernel_rfl)
    (allHold ⟨⟨rfl, check_ok (s := s) h0⟩, ⟨rfl, is_ok rfl⟩, trivial⟩)

theorem handle4_1 {s : S} {at_ : BitVec 32} (h0 : okS s = false) : PureOk Try.prog 15 [(V s), (I 4), (U at_)] (.tuple #[(U 0#32), (V s), (I 120)]) :=
  pure_of_run (ds := [U s.p, U s.m, U s.h0, U s.h1, U s.h2, U s.h3, U s.h4, U s.h5, U s.h6, U s.h7, U s.h8, U s.h9, U s.h10, U s.h11, U s.h12, U s.h13, U s.h14, U s.h15, B s.b, U at_]) (len := 20) (n := 60) (args := [(.agg #[(leaf 0), (leaf 1), (leaf 2), (leaf 3), (leaf 4), (leaf 5), (leaf 6), (leaf 7), (leaf 8), (leaf 9), (leaf 10), (leaf 11), (leaf 12), (leaf 13), (leaf 14), (leaf 15), (leaf 16), (leaf 17), (leaf 18)]), (.int .i64 4), (leaf 19)]) (v := (.tuple #[(.int .u32 0), (.agg #[(leaf 0), (leaf 1), (leaf 2), (leaf 3), (leaf 4), (leaf 5), (leaf 6), (leaf 7), (leaf 8), (leaf 9), (leaf 10), (leaf 11), (leaf 12), (leaf 13), (leaf 14), (leaf 15), (leaf 16), (leaf 17), (leaf 18)]), (.int .i64 120)]))
    (fs := [.call 11 [(.agg #[(leaf 0), (leaf 1), (leaf 2), (leaf 3), (leaf 4), (leaf 5), (leaf 6), (leaf 7), (leaf 8), (leaf 9), (leaf 10), (leaf 11), (leaf 12), (leaf 13), (leaf 14), (leaf 15), (leaf 16), (leaf 17), (leaf 18)])] (.int .i64 120)]) mixed rfl rfl (by kernel_rfl)
    (allHold ⟨⟨rfl, check_no (s := s) h0⟩, trivial⟩)

theorem handle5_0 {s : S} {at_ : BitVec 32} (h0 : okS s = true) : PureOk Try.prog 15 [(V s), (I 5), (U at_)] (.tuple #[(U s.h5), (V { s with h5 := at_ }), (I 0)]) :=
  pure_of_run (ds := [U s.p, U s.m, U s.h0, U s.h1, U s.h2, U s.h3, U s.h4, U s.h5, U s.h6, U s.h7, U s.h8, U s.h9, U s.h10, U s.h11, U s.h12, U s.h13, U s.h14, U s.h15, B s.b, U at_]) (len := 20) (n := 60) (args := [(.agg #[(leaf 0), (leaf 1), (leaf 2), (leaf 3), (leaf 4), (leaf 5), (leaf 6), (leaf 7), (leaf 8), (leaf 9), (leaf 10), (leaf 11), (leaf 12), (leaf 13), (leaf 14), (leaf 15), (leaf 16), (leaf 17), (leaf 18)]), (.int .i64 5), (leaf 19)]) (v := (.tuple #[(leaf 7), (.agg #[(leaf 0), (leaf 1), (leaf 2), (leaf 3), (leaf 4), (leaf 5), (leaf 6), (leaf 19), (leaf 8), (leaf 9), (leaf 10), (leaf 11), (leaf 12), (leaf 13), (leaf 14), (leaf 15), (leaf 16), (leaf 17), (leaf 18)]), (.int .i64 0)]))
    (fs := [.call 11 [(.agg #[(leaf 0), (leaf 1), (leaf 2), (leaf 3), (leaf 4), (leaf 5), (leaf 6), (leaf 7), (leaf 8), (leaf 9), (leaf 10), (leaf 11), (leaf 12), (leaf 13), (leaf 14), (leaf 15), (leaf 16), (leaf 17), (leaf 18)])] (.int .i64 0), .call 28 [(.int .i64 5)] (.bool true)]) mixed rfl rfl (by kernel_rfl)
    (allHold ⟨⟨rfl, check_ok (s := s) h0⟩, ⟨rfl, is_ok rfl⟩, trivial⟩)

theorem handle5_1 {s : S} {at_ : BitVec 32} (h0 : okS s = false) : PureOk Try.prog 15 [(V s), (I 5), (U at_)] (.tuple #[(U 0#32), (V s), (I 120)]) :=
  pure_of_run (ds := [U s.p, U s.m, U s.h0, U s.h1, U s.h2, U s.h3, U s.h4, U s.h5, U s.h6, U s.h7, U s.h8, U s.h9, U s.h10, U s.h11, U s.h12, U s.h13, U s.h14, U s.h15, B s.b, U at_]) (len := 20) (n := 60) (args := [(.agg #[(leaf 0), (leaf 1), (leaf 2), (leaf 3), (leaf 4), (leaf 5), (leaf 6), (leaf 7), (leaf 8), (leaf 9), (leaf 10), (leaf 11), (leaf 12), (leaf 13), (leaf 14), (leaf 15), (leaf 16), (leaf 17), (leaf 18)]), (.int .i64 5), (leaf 19)]) (v := (.tuple #[(.int .u32 0), (.agg #[(leaf 0), (leaf 1), (leaf 2), (leaf 3), (leaf 4), (leaf 5), (leaf 6), (leaf 7), (leaf 8), (leaf 9), (leaf 10), (leaf 11), (leaf 12), (leaf 13), (leaf 14), (leaf 15), (leaf 16), (leaf 17), (leaf 18)]), (.int .i64 120)]))
    (fs := [.call 11 [(.agg #[(leaf 0), (leaf 1), (leaf 2), (leaf 3), (leaf 4), (leaf 5), (leaf 6), (leaf 7), (leaf 8), (leaf 9), (leaf 10), (leaf 11), (leaf 12), (leaf 13), (leaf 14), (leaf 15), (leaf 16), (leaf 17), (leaf 18)])] (.int .i64 120)]) mixed rfl rfl (by kernel_rfl)
    (allHold ⟨⟨rfl, check_no (s := s) h0⟩, trivial⟩)

theorem handle6_0 {s : S} {at_ : BitVec 32} (h0 : okS s = true) : PureOk Try.prog 15 [(V s), (I 6), (U at_)] (.tuple #[(U s.h6), (V { s with h6 := at_ }), (I 0)]) :=
  pure_of_run (ds := [U s.p, U s.m, U s.h0, U s.h1, U s.h2, U s.h3, U s.h4, U s.h5, U s.h6, U s.h7, U s.h8, U s.h9, U s.h10, U s.h11, U s.h12, U s.h13, U s.h14, U s.h15, B s.b, U at_]) (len := 20) (n := 60) (args := [(.agg #[(leaf 0), (leaf 1), (leaf 2), (leaf 3), (leaf 4), (leaf 5), (leaf 6), (leaf 7), (leaf 8), (leaf 9), (leaf 10), (leaf 11), (leaf 12), (leaf 13), (leaf 14), (leaf 15), (leaf 16), (leaf 17), (leaf 18)]), (.int .i64 6), (leaf 19)]) (v := (.tuple #[(leaf 8), (.agg #[(leaf 0), (leaf 1), (leaf 2), (leaf 3), (leaf 4), (leaf 5), (leaf 6), (leaf 7), (leaf 19), (leaf 9), (leaf 10), (leaf 11), (leaf 12), (leaf 13), (leaf 14), (leaf 15), (leaf 16), (leaf 17), (leaf 18)]), (.int .i64 0)]))
    (fs := [.call 11 [(.agg #[(leaf 0), (leaf 1), (leaf 2), (leaf 3), (leaf 4), (leaf 5), (leaf 6), (leaf 7), (leaf 8), (leaf 9), (leaf 10), (leaf 11), (leaf 12), (leaf 13), (leaf 14), (leaf 15), (leaf 16), (leaf 17), (leaf 18)])] (.int .i64 0), .call 28 [(.int .i64 6)] (.bool true)]) mixed rfl rfl (by kernel_rfl)
    (allHold ⟨⟨rfl, check_ok (s := s) h0⟩, ⟨rfl, is_ok rfl⟩, trivial⟩)

theorem handle6_1 {s : S} {at_ : BitVec 32} (h0 : okS s = false) : PureOk Try.prog 15 [(V s), (I 6), (U at_)] (.tuple #[(U 0#32), (V s), (I 120)]) :=
  pure_of_run (ds := [U s.p, U s.m, U s.h0, U s.h1, U s.h2, U s.h3, U s.h4, U s.h5, U s.h6, U s.h7, U s.h8, U s.h9, U s.h10, U s.h11, U s.h12, U s.h13, U s.h14, U s.h15, B s.b, U at_]) (len := 20) (n := 60) (args := [(.agg #[(leaf 0), (leaf 1), (leaf 2), (leaf 3), (leaf 4), (leaf 5), (leaf 6), (leaf 7), (leaf 8), (leaf 9), (leaf 10), (leaf 11), (leaf 12), (leaf 13), (leaf 14), (leaf 15), (leaf 16), (leaf 17), (leaf 18)]), (.int .i64 6), (leaf 19)]) (v := (.tuple #[(.int .u32 0), (.agg #[(leaf 0), (leaf 1), (leaf 2), (leaf 3), (leaf 4), (leaf 5), (leaf 6), (leaf 7), (leaf 8), (leaf 9), (leaf 10), (leaf 11), (leaf 12), (leaf 13), (leaf 14), (leaf 15), (leaf 16), (leaf 17), (leaf 18)]), (.int .i64 120)]))
    (fs := [.call 11 [(.agg #[(leaf 0), (leaf 1), (leaf 2), (leaf 3), (leaf 4), (leaf 5), (leaf 6), (leaf 7), (leaf 8), (leaf 9), (leaf 10), (leaf 11), (leaf 12), (leaf 13), (leaf 14), (leaf 15), (leaf 16), (leaf 17), (leaf 18)])] (.int .i64 120)]) mixed rfl rfl (by kernel_rfl)
    (allHold ⟨⟨rfl, check_no (s := s) h0⟩, trivial⟩)

theorem handle7_0 {s : S} {at_ : BitVec 32} (h0 : okS s = true) : PureOk Try.prog 15 [(V s), (I 7), (U at_)] (.tuple #[(U s.h7), (V { s with h7 := at_ }), (I 0)]) :=
  pure_of_run (ds := [U s.p, U s.m, U s.h0, U s.h1, U s.h2, U s.h3, U s.h4, U s.h5, U s.h6, U s.h7, U s.h8, U s.h9, U s.h10, U s.h11, U s.h12, U s.h13, U s.h14, U s.h15, B s.b, U at_]) (len := 20) (n := 60) (args := [(.agg #[(leaf 0), (leaf 1), (leaf 2), (leaf 3), (leaf 4), (leaf 5), (leaf 6), (leaf 7), (leaf 8), (leaf 9), (leaf 10), (leaf 11), (leaf 12), (leaf 13), (leaf 14), (leaf 15), (leaf 16), (leaf 17), (leaf 18)]), (.int .i64 7), (leaf 19)]) (v := (.tuple #[(leaf 9), (.agg #[(leaf 0), (leaf 1), (leaf 2), (leaf 3), (leaf 4), (leaf 5), (leaf 6), (leaf 7), (leaf 8), (leaf 19), (leaf 10), (leaf 11), (leaf 12), (leaf 13), (leaf 14), (leaf 15), (leaf 16), (leaf 17), (leaf 18)]), (.int .i64 0)]))
    (fs := [.call 11 [(.agg #[(leaf 0), (leaf 1), (leaf 2), (leaf 3), (leaf 4), (leaf 5), (leaf 6), (leaf 7), (leaf 8), (leaf 9), (leaf 10), (leaf 11), (leaf 12), (leaf 13), (leaf 14), (leaf 15), (leaf 16), (leaf 17), (leaf 18)])] (.int .i64 0), .call 28 [(.int .i64 7)] (.bool true)]) mixed rfl rfl (by kernel_rfl)
    (allHold ⟨⟨rfl, check_ok (s := s) h0⟩, ⟨rfl, is_ok rfl⟩, trivial⟩)

theorem handle7_1 {s : S} {at_ : BitVec 32} (h0 : okS s = false) : PureOk Try.prog 15 [(V s), (I 7), (U at_)] (.tuple #[(U 0#32), (V s), (I 120)]) :=
  pure_of_run (ds := [U s.p, U s.m, U s.h0, U s.h1, U s.h2, U s.h3, U s.h4, U s.h5, U s.h6, U s.h7, U s.h8, U s.h9, U s.h10, U s.h11, U s.h12, U s.h13, U s.h14, U s.h15, B s.b, U at_]) (len := 20) (n := 60) (args := [(.agg #[(leaf 0), (leaf 1), (leaf 2), (leaf 3), (leaf 4), (leaf 5), (leaf 6), (leaf 7), (leaf 8), (leaf 9), (leaf 10), (leaf 11), (leaf 12), (leaf 13), (leaf 14), (leaf 15), (leaf 16), (leaf 17), (leaf 18)]), (.int .i64 7), (leaf 19)]) (v := (.tuple #[(.int .u32 0), (.agg #[(leaf 0), (leaf 1), (leaf 2), (leaf 3), (leaf 4), (leaf 5), (leaf 6), (leaf 7), (leaf 8), (leaf 9), (leaf 10), (leaf 11), (leaf 12), (leaf 13), (leaf 14), (leaf 15), (leaf 16), (leaf 17), (leaf 18)]), (.int .i64 120)]))
    (fs := [.call 11 [(.agg #[(leaf 0), (leaf 1), (leaf 2), (leaf 3), (leaf 4), (leaf 5), (leaf 6), (leaf 7), (leaf 8), (leaf 9), (leaf 10), (leaf 11), (leaf 12), (leaf 13), (leaf 14), (leaf 15), (leaf 16), (leaf 17), (leaf 18)])] (.int .i64 120)]) mixed rfl rfl (by kernel_rfl)
    (allHold ⟨⟨rfl, check_no (s := s) h0⟩, trivial⟩)

theorem handle8_0 {s : S} {at_ : BitVec 32} (h0 : okS s = true) : PureOk Try.prog 15 [(V s), (I 8), (U at_)] (.tuple #[(U s.h8), (V { s with h8 := at_ }), (I 0)]) :=
  pure_of_run (ds := [U s.p, U s.m, U s.h0, U s.h1, U s.h2, U s.h3, U s.h4, U s.h5, U s.h6, U s.h7, U s.h8, U s.h9, U s.h10, U s.h11, U s.h12, U s.h13, U s.h14, U s.h15, B s.b, U at_]) (len := 20) (n := 60) (args := [(.agg #[(leaf 0), (leaf 1), (leaf 2), (leaf 3), (leaf 4), (leaf 5), (leaf 6), (leaf 7), (leaf 8), (leaf 9), (leaf 10), (leaf 11), (leaf 12), (leaf 13), (leaf 14), (leaf 15), (leaf 16), (leaf 17), (leaf 18)]), (.int .i64 8), (leaf 19)]) (v := (.tuple #[(leaf 10), (.agg #[(leaf 0), (leaf 1), (leaf 2), (leaf 3), (leaf 4), (leaf 5), (leaf 6), (leaf 7), (leaf 8), (leaf 9), (leaf 19), (leaf 11), (leaf 12), (leaf 13), (leaf 14), (leaf 15), (leaf 16), (leaf 17), (leaf 18)]), (.int .i64 0)]))
    (fs := [.call 11 [(.agg #[(leaf 0), (leaf 1), (leaf 2), (leaf 3), (leaf 4), (leaf 5), (leaf 6), (leaf 7), (leaf 8), (leaf 9), (leaf 10), (leaf 11), (leaf 12), (leaf 13), (leaf 14), (leaf 15), (leaf 16), (leaf 17), (leaf 18)])] (.int .i64 0), .call 28 [(.int .i64 8)] (.bool true)]) mixed rfl rfl (by kernel_rfl)
    (allHold ⟨⟨rfl, check_ok (s := s) h0⟩, ⟨rfl, is_ok rfl⟩, trivial⟩)

theorem handle8_1 {s : S} {at_ : BitVec 32} (h0 : okS s = false) : PureOk Try.prog 15 [(V s), (I 8), (U at_)] (.tuple #[(U 0#32), (V s), (I 120)]) :=
  pure_of_run (ds := [U s.p, U s.m, U s.h0, U s.h1, U s.h2, U s.h3, U s.h4, U s.h5, U s.h6, U s.h7, U s.h8, U s.h9, U s.h10, U s.h11, U s.h12, U s.h13, U s.h14, U s.h15, B s.b, U at_]) (len := 20) (n := 60) (args := [(.agg #[(leaf 0), (leaf 1), (leaf 2), (leaf 3), (leaf 4), (leaf 5), (leaf 6), (leaf 7), (leaf 8), (leaf 9), (leaf 10), (leaf 11), (leaf 12), (leaf 13), (leaf 14), (leaf 15), (leaf 16), (leaf 17), (leaf 18)]), (.int .i64 8), (leaf 19)]) (v := (.tuple #[(.int .u32 0), (.agg #[(leaf 0), (leaf 1), (leaf 2), (leaf 3), (leaf 4), (leaf 5), (leaf 6), (leaf 7), (leaf 8), (leaf 9), (leaf 10), (leaf 11), (leaf 12), (leaf 13), (leaf 14), (leaf 15), (leaf 16), (leaf 17), (leaf 18)]), (.int .i64 120)]))
    (fs := [.call 11 [(.agg #[(leaf 0), (leaf 1), (leaf 2), (leaf 3), (leaf 4), (leaf 5), (leaf 6), (leaf 7), (leaf 8), (leaf 9), (leaf 10), (leaf 11), (leaf 12), (leaf 13), (leaf 14), (leaf 15), (leaf 16), (leaf 17), (leaf 18)])] (.int .i64 120)]) mixed rfl rfl (by kernel_rfl)
    (allHold ⟨⟨rfl, check_no (s := s) h0⟩, trivial⟩)

theorem handle9_0 {s : S} {at_ : BitVec 32} (h0 : okS s = true) : PureOk Try.prog 15 [(V s), (I 9), (U at_)] (.tuple #[(U 0#32), (V s), (I 120)]) :=
  pure_of_run (ds := [U s.p, U s.m, U s.h0, U s.h1, U s.h2, U s.h3, U s.h4, U s.h5, U s.h6, U s.h7, U s.h8, U s.h9, U s.h10, U s.h11, U s.h12, U s.h13, U s.h14, U s.h15, B s.b, U at_]) (len := 20) (n := 60) (args := [(.agg #[(leaf 0), (leaf 1), (leaf 2), (leaf 3), (leaf 4), (leaf 5), (leaf 6), (leaf 7), (leaf 8), (leaf 9), (leaf 10), (leaf 11), (leaf 12), (leaf 13), (leaf 14), (leaf 15), (leaf 16), (leaf 17), (leaf 18)]), (.int .i64 9), (leaf 19)]) (v := (.tuple #[(.int .u32 0), (.agg #[(leaf 0), (leaf 1), (leaf 2), (leaf 3), (leaf 4), (leaf 5), (leaf 6), (leaf 7), (leaf 8), (leaf 9), (leaf 10), (leaf 11), (leaf 12), (leaf 13), (leaf 14), (leaf 15), (leaf 16), (leaf 17), (leaf 18)]), (.int .i64 120)]))
    (fs := [.call 11 [(.agg #[(leaf 0), (leaf 1), (leaf 2), (leaf 3), (leaf 4), (leaf 5), (leaf 6), (leaf 7), (leaf 8), (leaf 9), (leaf 10), (leaf 11), (leaf 12), (leaf 13), (leaf 14), (leaf 15), (leaf 16), (leaf 17), (leaf 18)])] (.int .i64 0), .call 28 [(.int .i64 9)] (.bool true)]) mixed rfl rfl (by kernel_rfl)
    (allHold ⟨⟨rfl, check_ok (s := s) h0⟩, ⟨rfl, is_ok rfl⟩, trivial⟩)

theorem handle9_1 {s : S} {at_ : BitVec 32} (h0 : okS s = false) : PureOk Try.prog 15 [(V s), (I 9), (U at_)] (.tuple #[(U 0#32), (V s), (I 120)]) :=
  pure_of_run (ds := [U s.p, U s.m, U s.h0, U s.h1, U s.h2, U s.h3, U s.h4, U s.h5, U s.h6, U s.h7, U s.h8, U s.h9, U s.h10, U s.h11, U s.h12, U s.h13, U s.h14, U s.h15, B s.b, U at_]) (len := 20) (n := 60) (args := [(.agg #[(leaf 0), (leaf 1), (leaf 2), (leaf 3), (leaf 4), (leaf 5), (leaf 6), (leaf 7), (leaf 8), (leaf 9), (leaf 10), (leaf 11), (leaf 12), (leaf 13), (leaf 14), (leaf 15), (leaf 16), (leaf 17), (leaf 18)]), (.int .i64 9), (leaf 19)]) (v := (.tuple #[(.int .u32 0), (.agg #[(leaf 0), (leaf 1), (leaf 2), (leaf 3), (leaf 4), (leaf 5), (leaf 6), (leaf 7), (leaf 8), (leaf 9), (leaf 10), (leaf 11), (leaf 12), (leaf 13), (leaf 14), (leaf 15), (leaf 16), (leaf 17), (leaf 18)]), (.int .i64 120)]))
    (fs := [.call 11 [(.agg #[(leaf 0), (leaf 1), (leaf 2), (leaf 3), (leaf 4), (leaf 5), (leaf 6), (leaf 7), (leaf 8), (leaf 9), (leaf 10), (leaf 11), (leaf 12), (leaf 13), (leaf 14), (leaf 15), (leaf 16), (leaf 17), (leaf 18)])] (.int .i64 120)]) mixed rfl rfl (by kernel_rfl)
    (allHold ⟨⟨rfl, check_no (s := s) h0⟩, trivial⟩)

theorem handle10_0 {s : S} {at_ : BitVec 32} (h0 : okS s = true) : PureOk Try.prog 15 [(V s), (I 10), (U at_)] (.tuple #[(U s.h10), (V { s with h10 := at_ }), (I 0)]) :=
  pure_of_run (ds := [U s.p, U s.m, U s.h0, U s.h1, U s.h2, U s.h3, U s.h4, U s.h5, U s.h6, U s.h7, U s.h8, U s.h9, U s.h10, U s.h11, U s.h12, U s.h13, U s.h14, U s.h15, B s.b, U at_]) (len := 20) (n := 60) (args := [(.agg #[(leaf 0), (leaf 1), (leaf 2), (leaf 3), (leaf 4), (leaf 5), (leaf 6), (leaf 7), (leaf 8), (leaf 9), (leaf 10), (leaf 11), (leaf 12), (leaf 13), (leaf 14), (leaf 15), (leaf 16), (leaf 17), (leaf 18)]), (.int .i64 10), (leaf 19)]) (v := (.tuple #[(leaf 12), (.agg #[(leaf 0), (leaf 1), (leaf 2), (leaf 3), (leaf 4), (leaf 5), (leaf 6), (leaf 7), (leaf 8), (leaf 9), (leaf 10), (leaf 11), (leaf 19), (leaf 13), (leaf 14), (leaf 15), (leaf 16), (leaf 17), (leaf 18)]), (.int .i64 0)]))
    (fs := [.call 11 [(.agg #[(leaf 0), (leaf 1), (leaf 2), (leaf 3), (leaf 4), (leaf 5), (leaf 6), (leaf 7), (leaf 8), (leaf 9), (leaf 10), (leaf 11), (leaf 12), (leaf 13), (leaf 14), (leaf 15), (leaf 16), (leaf 17), (leaf 18)])] (.int .i64 0), .call 28 [(.int .i64 10)] (.bool true)]) mixed rfl rfl (by kernel_rfl)
    (allHold ⟨⟨rfl, check_ok (s := s) h0⟩, ⟨rfl, is_ok rfl⟩, trivial⟩)

theorem handle10_1 {s : S} {at_ : BitVec 32} (h0 : okS s = false) : PureOk Try.prog 15 [(V s), (I 10), (U at_)] (.tuple #[(U 0#32), (V s), (I 120)]) :=
  pure_of_run (ds := [U s.p, U s.m, U s.h0, U s.h1, U s.h2, U s.h3, U s.h4, U s.h5, U s.h6, U s.h7, U s.h8, U s.h9, U s.h10, U s.h11, U s.h12, U s.h13, U s.h14, U s.h15, B s.b, U at_]) (len := 20) (n := 60) (args := [(.agg #[(leaf 0), (leaf 1), (leaf 2), (leaf 3), (leaf 4), (leaf 5), (leaf 6), (leaf 7), (leaf 8), (leaf 9), (leaf 10), (leaf 11), (leaf 12), (leaf 13), (leaf 14), (leaf 15), (leaf 16), (leaf 17), (leaf 18)]), (.int .i64 10), (leaf 19)]) (v := (.tuple #[(.int .u32 0), (.agg #[(leaf 0), (leaf 1), (leaf 2), (leaf 3), (leaf 4), (leaf 5), (leaf 6), (leaf 7), (leaf 8), (leaf 9), (leaf 10), (leaf 11), (leaf 12), (leaf 13), (leaf 14), (leaf 15), (leaf 16), (leaf 17), (leaf 18)]), (.int .i64 120)]))
    (fs := [.call 11 [(.agg #[(leaf 0), (leaf 1), (leaf 2), (leaf 3), (leaf 4), (leaf 5), (leaf 6), (leaf 7), (leaf 8), (leaf 9), (leaf 10), (leaf 11), (leaf 12), (leaf 13), (leaf 14), (leaf 15), (leaf 16), (leaf 17), (leaf 18)])] (.int .i64 120)]) mixed rfl rfl (by kernel_rfl)
    (allHold ⟨⟨rfl, check_no (s := s) h0⟩, trivial⟩)

theorem handle11_0 {s : S} {at_ : BitVec 32} (h0 : okS s = true) : PureOk Try.prog 15 [(V s), (I 11), (U at_)] (.tuple #[(U s.h11), (V { s with h11 := at_ }), (I 0)]) :=
  pure_of_run (ds := [U s.p, U s.m, U s.h0, U s.h1, U s.h2, U s.h3, U s.h4, U s.h5, U s.h6, U s.h7, U s.h8, U s.h9, U s.h10, U s.h11, U s.h12, U s.h13, U s.h14, U s.h15, B s.b, U at_]) (len := 20) (n := 60) (args := [(.agg #[(leaf 0), (leaf 1), (leaf 2), (leaf 3), (leaf 4), (leaf 5), (leaf 6), (leaf 7), (leaf 8), (leaf 9), (leaf 10), (leaf 11), (leaf 12), (leaf 13), (leaf 14), (leaf 15), (leaf 16), (leaf 17), (leaf 18)]), (.int .i64 11), (leaf 19)]) (v := (.tuple #[(leaf 13), (.agg #[(leaf 0), (leaf 1), (leaf 2), (leaf 3), (leaf 4), (leaf 5), (leaf 6), (leaf 7), (leaf 8), (leaf 9), (leaf 10), (leaf 11), (leaf 12), (leaf 19), (leaf 14), (leaf 15), (leaf 16), (leaf 17), (leaf 18)]), (.int .i64 0)]))
    (fs := [.call 11 [(.agg #[(leaf 0), (leaf 1), (leaf 2), (leaf 3), (leaf 4), (leaf 5), (leaf 6), (leaf 7), (leaf 8), (leaf 9), (leaf 10), (leaf 11), (leaf 12), (leaf 13), (leaf 14), (leaf 15), (leaf 16), (leaf 17), (leaf 18)])] (.int .i64 0), .call 28 [(.int .i64 11)] (.bool true)]) mixed rfl rfl (by kernel_rfl)
    (allHold ⟨⟨rfl, check_ok (s := s) h0⟩, ⟨rfl, is_ok rfl⟩, trivial⟩)

theorem handle11_1 {s : S} {at_ : BitVec 32} (h0 : okS s = false) : PureOk Try.prog 15 [(V s), (I 11), (U at_)] (.tuple #[(U 0#32), (V s), (I 120)]) :=
  pure_of_run (ds := [U s.p, U s.m, U s.h0, U s.h1, U s.h2, U s.h3, U s.h4, U s.h5, U s.h6, U s.h7, U s.h8, U s.h9, U s.h10, U s.h11, U s.h12, U s.h13, U s.h14, U s.h15, B s.b, U at_]) (len := 20) (n := 60) (args := [(.agg #[(leaf 0), (leaf 1), (leaf 2), (leaf 3), (leaf 4), (leaf 5), (leaf 6), (leaf 7), (leaf 8), (leaf 9), (leaf 10), (leaf 11), (leaf 12), (leaf 13), (leaf 14), (leaf 15), (leaf 16), (leaf 17), (leaf 18)]), (.int .i64 11), (leaf 19)]) (v := (.tuple #[(.int .u32 0), (.agg #[(leaf 0), (leaf 1), (leaf 2), (leaf 3), (leaf 4), (leaf 5), (leaf 6), (leaf 7), (leaf 8), (leaf 9), (leaf 10), (leaf 11), (leaf 12), (leaf 13), (leaf 14), (leaf 15), (leaf 16), (leaf 17), (leaf 18)]), (.int .i64 120)]))
    (fs := [.call 11 [(.agg #[(leaf 0), (leaf 1), (leaf 2), (leaf 3), (leaf 4), (leaf 5), (leaf 6), (leaf 7), (leaf 8), (leaf 9), (leaf 10), (leaf 11), (leaf 12), (leaf 13), (leaf 14), (leaf 15), (leaf 16), (leaf 17), (leaf 18)])] (.int .i64 120)]) mixed rfl rfl (by kernel_rfl)
    (allHold ⟨⟨rfl, check_no (s := s) h0⟩, trivial⟩)

theorem handle12_0 {s : S} {at_ : BitVec 32} (h0 : okS s = true) : PureOk Try.prog 15 [(V s), (I 12), (U at_)] (.tuple #[(U s.h12), (V { s with h12 := at_ }), (I 0)]) :=
  pure_of_run (ds := [U s.p, U s.m, U s.h0, U s.h1, U s.h2, U s.h3, U s.h4, U s.h5, U s.h6, U s.h7, U s.h8, U s.h9, U s.h10, U s.h11, U s.h12, U s.h13, U s.h14, U s.h15, B s.b, U at_]) (len := 20) (n := 60) (args := [(.agg #[(leaf 0), (leaf 1), (leaf 2), (leaf 3), (leaf 4), (leaf 5), (leaf 6), (leaf 7), (leaf 8), (leaf 9), (leaf 10), (leaf 11), (leaf 12), (leaf 13), (leaf 14), (leaf 15), (leaf 16), (leaf 17), (leaf 18)]), (.int .i64 12), (leaf 19)]) (v := (.tuple #[(leaf 14), (.agg #[(leaf 0), (leaf 1), (leaf 2), (leaf 3), (leaf 4), (leaf 5), (leaf 6), (leaf 7), (leaf 8), (leaf 9), (leaf 10), (leaf 11), (leaf 12), (leaf 13), (leaf 19), (leaf 15), (leaf 16), (leaf 17), (leaf 18)]), (.int .i64 0)]))
    (fs := [.call 11 [(.agg #[(leaf 0), (leaf 1), (leaf 2), (leaf 3), (leaf 4), (leaf 5), (leaf 6), (leaf 7), (leaf 8), (leaf 9), (leaf 10), (leaf 11), (leaf 12), (leaf 13), (leaf 14), (leaf 15), (leaf 16), (leaf 17), (leaf 18)])] (.int .i64 0), .call 28 [(.int .i64 12)] (.bool true)]) mixed rfl rfl (by kernel_rfl)
    (allHold ⟨⟨rfl, check_ok (s := s) h0⟩, ⟨rfl, is_ok rfl⟩, trivial⟩)

theorem handle12_1 {s : S} {at_ : BitVec 32} (h0 : okS s = false) : PureOk Try.prog 15 [(V s), (I 12), (U at_)] (.tuple #[(U 0#32), (V s), (I 120)]) :=
  pure_of_run (ds := [U s.p, U s.m, U s.h0, U s.h1, U s.h2, U s.h3, U s.h4, U s.h5, U s.h6, U s.h7, U s.h8, U s.h9, U s.h10, U s.h11, U s.h12, U s.h13, U s.h14, U s.h15, B s.b, U at_]) (len := 20) (n := 60) (args := [(.agg #[(leaf 0), (leaf 1), (leaf 2), (leaf 3), (leaf 4), (leaf 5), (leaf 6), (leaf 7), (leaf 8), (leaf 9), (leaf 10), (leaf 11), (leaf 12), (leaf 13), (leaf 14), (leaf 15), (leaf 16), (leaf 17), (leaf 18)]), (.int .i64 12), (leaf 19)]) (v := (.tuple #[(.int .u32 0), (.agg #[(leaf 0), (leaf 1), (leaf 2), (leaf 3), (leaf 4), (leaf 5), (leaf 6), (leaf 7), (leaf 8), (leaf 9), (leaf 10), (leaf 11), (leaf 12), (leaf 13), (leaf 14), (leaf 15), (leaf 16), (leaf 17), (leaf 18)]), (.int .i64 120)]))
    (fs := [.call 11 [(.agg #[(leaf 0), (leaf 1), (leaf 2), (leaf 3), (leaf 4), (leaf 5), (leaf 6), (leaf 7), (leaf 8), (leaf 9), (leaf 10), (leaf 11), (leaf 12), (leaf 13), (leaf 14), (leaf 15), (leaf 16), (leaf 17), (leaf 18)])] (.int .i64 120)]) mixed rfl rfl (by kernel_rfl)
    (allHold ⟨⟨rfl, check_no (s := s) h0⟩, trivial⟩)

theorem handle13_0 {s : S} {at_ : BitVec 32} (h0 : okS s = true) : PureOk Try.prog 15 [(V s), (I 13), (U at_)] (.tuple #[(U s.h13), (V { s with h13 := at_ }), (I 0)]) :=
  pure_of_run (ds := [U s.p, U s.m, U s.h0, U s.h1, U s.h2, U s.h3, U s.h4, U s.h5, U s.h6, U s.h7, U s.h8, U s.h9, U s.h10, U s.h11, U s.h12, U s.h13, U s.h14, U s.h15, B s.b, U at_]) (len := 20) (n := 60) (args := [(.agg #[(leaf 0), (leaf 1), (leaf 2), (leaf 3), (leaf 4), (leaf 5), (leaf 6), (leaf 7), (leaf 8), (leaf 9), (leaf 10), (leaf 11), (leaf 12), (leaf 13), (leaf 14), (leaf 15), (leaf 16), (leaf 17), (leaf 18)]), (.int .i64 13), (leaf 19)]) (v := (.tuple #[(leaf 15), (.agg #[(leaf 0), (leaf 1), (leaf 2), (leaf 3), (leaf 4), (leaf 5), (leaf 6), (leaf 7), (leaf 8), (leaf 9), (leaf 10), (leaf 11), (leaf 12), (leaf 13), (leaf 14), (leaf 19), (leaf 16), (leaf 17), (leaf 18)]), (.int .i64 0)]))
    (fs := [.call 11 [(.agg #[(leaf 0), (leaf 1), (leaf 2), (leaf 3), (leaf 4), (leaf 5), (leaf 6), (leaf 7), (leaf 8), (leaf 9), (leaf 10), (leaf 11), (leaf 12), (leaf 13), (leaf 14), (leaf 15), (leaf 16), (leaf 17), (leaf 18)])] (.int .i64 0), .call 28 [(.int .i64 13)] (.bool true)]) mixed rfl rfl (by kernel_rfl)
    (allHold ⟨⟨rfl, check_ok (s := s) h0⟩, ⟨rfl, is_ok rfl⟩, trivial⟩)

theorem handle13_1 {s : S} {at_ : BitVec 32} (h0 : okS s = false) : PureOk Try.prog 15 [(V s), (I 13), (U at_)] (.tuple #[(U 0#32), (V s), (I 120)]) :=
  pure_of_run (ds := [U s.p, U s.m, U s.h0, U s.h1, U s.h2, U s.h3, U s.h4, U s.h5, U s.h6, U s.h7, U s.h8, U s.h9, U s.h10, U s.h11, U s.h12, U s.h13, U s.h14, U s.h15, B s.b, U at_]) (len := 20) (n := 60) (args := [(.agg #[(leaf 0), (leaf 1), (leaf 2), (leaf 3), (leaf 4), (leaf 5), (leaf 6), (leaf 7), (leaf 8), (leaf 9), (leaf 10), (leaf 11), (leaf 12), (leaf 13), (leaf 14), (leaf 15), (leaf 16), (leaf 17), (leaf 18)]), (.int .i64 13), (leaf 19)]) (v := (.tuple #[(.int .u32 0), (.agg #[(leaf 0), (leaf 1), (leaf 2), (leaf 3), (leaf 4), (leaf 5), (leaf 6), (leaf 7), (leaf 8), (leaf 9), (leaf 10), (leaf 11), (leaf 12), (leaf 13), (leaf 14), (leaf 15), (leaf 16), (leaf 17), (leaf 18)]), (.int .i64 120)]))
    (fs := [.call 11 [(.agg #[(leaf 0), (leaf 1), (leaf 2), (leaf 3), (leaf 4), (leaf 5), (leaf 6), (leaf 7), (leaf 8), (leaf 9), (leaf 10), (leaf 11), (leaf 12), (leaf 13), (leaf 14), (leaf 15), (leaf 16), (leaf 17), (leaf 18)])] (.int .i64 120)]) mixed rfl rfl (by kernel_rfl)
    (allHold ⟨⟨rfl, check_no (s := s) h0⟩, trivial⟩)

theorem handle14_0 {s : S} {at_ : BitVec 32} (h0 : okS s = true) : PureOk Try.prog 15 [(V s), (I 14), (U at_)] (.tuple #[(U s.h14), (V { s with h14 := at_ }), (I 0)]) :=
  pure_of_run (ds := [U s.p, U s.m, U s.h0, U s.h1, U s.h2, U s.h3, U s.h4, U s.h5, U s.h6, U s.h7, U s.h8, U s.h9, U s.h10, U s.h11, U s.h12, U s.h13, U s.h14, U s.h15, B s.b, U at_]) (len := 20) (n := 60) (args := [(.agg #[(leaf 0), (leaf 1), (leaf 2), (leaf 3), (leaf 4), (leaf 5), (leaf 6), (leaf 7), (leaf 8), (leaf 9), (leaf 10), (leaf 11), (leaf 12), (leaf 13), (leaf 14), (leaf 15), (leaf 16), (leaf 17), (leaf 18)]), (.int .i64 14), (leaf 19)]) (v := (.tuple #[(leaf 16), (.agg #[(leaf 0), (leaf 1), (leaf 2), (leaf 3), (leaf 4), (leaf 5), (leaf 6), (leaf 7), (leaf 8), (leaf 9), (leaf 10), (leaf 11), (leaf 12), (leaf 13), (leaf 14), (leaf 15), (leaf 19), (leaf 17), (leaf 18)]), (.int .i64 0)]))
    (fs := [.call 11 [(.agg #[(leaf 0), (leaf 1), (leaf 2), (leaf 3), (leaf 4), (leaf 5), (leaf 6), (leaf 7), (leaf 8), (leaf 9), (leaf 10), (leaf 11), (leaf 12), (leaf 13), (leaf 14), (leaf 15), (leaf 16), (leaf 17), (leaf 18)])] (.int .i64 0), .call 28 [(.int .i64 14)] (.bool true)]) mixed rfl rfl (by kernel_rfl)
    (allHold ⟨⟨rfl, check_ok (s := s) h0⟩, ⟨rfl, is_ok rfl⟩, trivial⟩)

theorem handle14_1 {s : S} {at_ : BitVec 32} (h0 : okS s = false) : PureOk Try.prog 15 [(V s), (I 14), (U at_)] (.tuple #[(U 0#32), (V s), (I 120)]) :=
  pure_of_run (ds := [U s.p, U s.m, U s.h0, U s.h1, U s.h2, U s.h3, U s.h4, U s.h5, U s.h6, U s.h7, U s.h8, U s.h9, U s.h10, U s.h11, U s.h12, U s.h13, U s.h14, U s.h15, B s.b, U at_]) (len := 20) (n := 60) (args := [(.agg #[(leaf 0), (leaf 1), (leaf 2), (leaf 3), (leaf 4), (leaf 5), (leaf 6), (leaf 7), (leaf 8), (leaf 9), (leaf 10), (leaf 11), (leaf 12), (leaf 13), (leaf 14), (leaf 15), (leaf 16), (leaf 17), (leaf 18)]), (.int .i64 14), (leaf 19)]) (v := (.tuple #[(.int .u32 0), (.agg #[(leaf 0), (leaf 1), (leaf 2), (leaf 3), (leaf 4), (leaf 5), (leaf 6), (leaf 7), (leaf 8), (leaf 9), (leaf 10), (leaf 11), (leaf 12), (leaf 13), (leaf 14), (leaf 15), (leaf 16), (leaf 17), (leaf 18)]), (.int .i64 120)]))
    (fs := [.call 11 [(.agg #[(leaf 0), (leaf 1), (leaf 2), (leaf 3), (leaf 4), (leaf 5), (leaf 6), (leaf 7), (leaf 8), (leaf 9), (leaf 10), (leaf 11), (leaf 12), (leaf 13), (leaf 14), (leaf 15), (leaf 16), (leaf 17), (leaf 18)])] (.int .i64 120)]) mixed rfl rfl (by kernel_rfl)
    (allHold ⟨⟨rfl, check_no (s := s) h0⟩, trivial⟩)

theorem handle15_0 {s : S} {at_ : BitVec 32} (h0 : okS s = true) : PureOk Try.prog 15 [(V s), (I 15), (U at_)] (.tuple #[(U s.h15), (V { s with h15 := at_ }), (I 0)]) :=
  pure_of_run (ds := [U s.p, U s.m, U s.h0, U s.h1, U s.h2, U s.h3, U s.h4, U s.h5, U s.h6, U s.h7, U s.h8, U s.h9, U s.h10, U s.h11, U s.h12, U s.h13, U s.h14, U s.h15, B s.b, U at_]) (len := 20) (n := 60) (args := [(.agg #[(leaf 0), (leaf 1), (leaf 2), (leaf 3), (leaf 4), (leaf 5), (leaf 6), (leaf 7), (leaf 8), (leaf 9), (leaf 10), (leaf 11), (leaf 12), (leaf 13), (leaf 14), (leaf 15), (leaf 16), (leaf 17), (leaf 18)]), (.int .i64 15), (leaf 19)]) (v := (.tuple #[(leaf 17), (.agg #[(leaf 0), (leaf 1), (leaf 2), (leaf 3), (leaf 4), (leaf 5), (leaf 6), (leaf 7), (leaf 8), (leaf 9), (leaf 10), (leaf 11), (leaf 12), (leaf 13), (leaf 14), (leaf 15), (leaf 16), (leaf 19), (leaf 18)]), (.int .i64 0)]))
    (fs := [.call 11 [(.agg #[(leaf 0), (leaf 1), (leaf 2), (leaf 3), (leaf 4), (leaf 5), (leaf 6), (leaf 7), (leaf 8), (leaf 9), (leaf 10), (leaf 11), (leaf 12), (leaf 13), (leaf 14), (leaf 15), (leaf 16), (leaf 17), (leaf 18)])] (.int .i64 0), .call 28 [(.int .i64 15)] (.bool true)]) mixed rfl rfl (by kernel_rfl)
    (allHold ⟨⟨rfl, check_ok (s := s) h0⟩, ⟨rfl, is_ok rfl⟩, trivial⟩)

theorem handle15_1 {s : S} {at_ : BitVec 32} (h0 : okS s = false) : PureOk Try.prog 15 [(V s), (I 15), (U at_)] (.tuple #[(U 0#32), (V s), (I 120)]) :=
  pure_of_run (ds := [U s.p, U s.m, U s.h0, U s.h1, U s.h2, U s.h3, U s.h4, U s.h5, U s.h6, U s.h7, U s.h8, U s.h9, U s.h10, U s.h11, U s.h12, U s.h13, U s.h14, U s.h15, B s.b, U at_]) (len := 20) (n := 60) (args := [(.agg #[(leaf 0), (leaf 1), (leaf 2), (leaf 3), (leaf 4), (leaf 5), (leaf 6), (leaf 7), (leaf 8), (leaf 9), (leaf 10), (leaf 11), (leaf 12), (leaf 13), (leaf 14), (leaf 15), (leaf 16), (leaf 17), (leaf 18)]), (.int .i64 15), (leaf 19)]) (v := (.tuple #[(.int .u32 0), (.agg #[(leaf 0), (leaf 1), (leaf 2), (leaf 3), (leaf 4), (leaf 5), (leaf 6), (leaf 7), (leaf 8), (leaf 9), (leaf 10), (leaf 11), (leaf 12), (leaf 13), (leaf 14), (leaf 15), (leaf 16), (leaf 17), (leaf 18)]), (.int .i64 120)]))
    (fs := [.call 11 [(.agg #[(leaf 0), (leaf 1), (leaf 2), (leaf 3), (leaf 4), (leaf 5), (leaf 6), (leaf 7), (leaf 8), (leaf 9), (leaf 10), (leaf 11), (leaf 12), (leaf 13), (leaf 14), (leaf 15), (leaf 16), (leaf 17), (leaf 18)])] (.int .i64 120)]) mixed rfl rfl (by kernel_rfl)
    (allHold ⟨⟨rfl, check_no (s := s) h0⟩, trivial⟩)

theorem handleN_0 {s : S} {sig : Int} {at_ : BitVec 32} (h0 : okS s = true) (h1 : isS sig = true) (h2 : ((sig : Int) == 9) = true) : PureOk Try.prog 15 [(V s), (I sig), (U at_)] (.tuple #[(U 0#32), (V s), (I 120)]) :=
  pure_of_run (ds := [U s.p, U s.m, U s.h0, U s.h1, U s.h2, U s.h3, U s.h4, U s.h5, U s.h6, U s.h7, U s.h8, U s.h9, U s.h10, U s.h11, U s.h12, U s.h13, U s.h14, U s.h15, B s.b, I sig, U at_]) (len := 21) (n := 60) (args := [(.agg #[(leaf 0), (leaf 1), (leaf 2), (leaf 3), (leaf 4), (leaf 5), (leaf 6), (leaf 7), (leaf 8), (leaf 9), (leaf 10), (leaf 11), (leaf 12), (leaf 13), (leaf 14), (leaf 15), (leaf 16), (leaf 17), (leaf 18)]), (leaf 19), (leaf 20)]) (v := (.tuple #[(.int .u32 0), (.agg #[(leaf 0), (leaf 1), (leaf 2), (leaf 3), (leaf 4), (leaf 5), (leaf 6), (leaf 7), (leaf 8), (leaf 9), (leaf 10), (leaf 11), (leaf 12), (leaf 13), (leaf 14), (leaf 15), (leaf 16), (leaf 17), (leaf 18)]), (.int .i64 120)]))
    (fs := [.call 11 [(.agg #[(leaf 0), (leaf 1), (leaf 2), (leaf 3), (leaf 4), (leaf 5), (leaf 6), (leaf 7), (leaf 8), (leaf 9), (leaf 10), (leaf 11), (leaf 12), (leaf 13), (leaf 14), (leaf 15), (leaf 16), (leaf 17), (leaf 18)])] (.int .i64 0), .call 28 [(leaf 19)] (.bool true), .bin .eql 3 (leaf 19) (.int .i64 9) (.bool true)]) mixed rfl rfl (by kernel_rfl)
    (allHold ⟨⟨rfl, check_ok (s := s) h0⟩, ⟨rfl, is_ok h1⟩, hold_eql_i rfl rfl h2, trivial⟩)

theorem handleN_2 {s : S} {sig : Int} {at_ : BitVec 32} (h0 : okS s = true) (h1 : isS sig = false) : PureOk Try.prog 15 [(V s), (I sig), (U at_)] (.tuple #[(U 0#32), (V s), (I 120)]) :=
  pure_of_run (ds := [U s.p, U s.m, U s.h0, U s.h1, U s.h2, U s.h3, U s.h4, U s.h5, U s.h6, U s.h7, U s.h8, U s.h9, U s.h10, U s.h11, U s.h12, U s.h13, U s.h14, U s.h15, B s.b, I sig, U at_]) (len := 21) (n := 60) (args := [(.agg #[(leaf 0), (leaf 1), (leaf 2), (leaf 3), (leaf 4), (leaf 5), (leaf 6), (leaf 7), (leaf 8), (leaf 9), (leaf 10), (leaf 11), (leaf 12), (leaf 13), (leaf 14), (leaf 15), (leaf 16), (leaf 17), (leaf 18)]), (leaf 19), (leaf 20)]) (v := (.tuple #[(.int .u32 0), (.agg #[(leaf 0), (leaf 1), (leaf 2), (leaf 3), (leaf 4), (leaf 5), (leaf 6), (leaf 7), (leaf 8), (leaf 9), (leaf 10), (leaf 11), (leaf 12), (leaf 13), (leaf 14), (leaf 15), (leaf 16), (leaf 17), (leaf 18)]), (.int .i64 120)]))
    (fs := [.call 11 [(.agg #[(leaf 0), (leaf 1), (leaf 2), (leaf 3), (leaf 4), (leaf 5), (leaf 6), (leaf 7), (leaf 8), (leaf 9), (leaf 10), (leaf 11), (leaf 12), (leaf 13), (leaf 14), (leaf 15), (leaf 16), (leaf 17), (leaf 18)])] (.int .i64 0), .call 28 [(leaf 19)] (.bool false)]) mixed rfl rfl (by kernel_rfl)
    (allHold ⟨⟨rfl, check_ok (s := s) h0⟩, ⟨rfl, is_ok h1⟩, trivial⟩)

theorem handleN_3 {s : S} {sig : Int} {at_ : BitVec 32} (h0 : okS s = false) : PureOk Try.prog 15 [(V s), (I sig), (U at_)] (.tuple #[(U 0#32), (V s), (I 120)]) :=
  pure_of_run (ds := [U s.p, U s.m, U s.h0, U s.h1, U s.h2, U s.h3, U s.h4, U s.h5, U s.h6, U s.h7, U s.h8, U s.h9, U s.h10, U s.h11, U s.h12, U s.h13, U s.h14, U s.h15, B s.b, I sig, U at_]) (len := 21) (n := 60) (args := [(.agg #[(leaf 0), (leaf 1), (leaf 2), (leaf 3), (leaf 4), (leaf 5), (leaf 6), (leaf 7), (leaf 8), (leaf 9), (leaf 10), (leaf 11), (leaf 12), (leaf 13), (leaf 14), (leaf 15), (leaf 16), (leaf 17), (leaf 18)]), (leaf 19), (leaf 20)]) (v := (.tuple #[(.int .u32 0), (.agg #[(leaf 0), (leaf 1), (leaf 2), (leaf 3), (leaf 4), (leaf 5), (leaf 6), (leaf 7), (leaf 8), (leaf 9), (leaf 10), (leaf 11), (leaf 12), (leaf 13), (leaf 14), (leaf 15), (leaf 16), (leaf 17), (leaf 18)]), (.int .i64 120)]))
    (fs := [.call 11 [(.agg #[(leaf 0), (leaf 1), (leaf 2), (leaf 3), (leaf 4), (leaf 5), (leaf 6), (leaf 7), (leaf 8), (leaf 9), (leaf 10), (leaf 11), (leaf 12), (leaf 13), (leaf 14), (leaf 15), (leaf 16), (leaf 17), (leaf 18)])] (.int .i64 120)]) mixed rfl rfl (by kernel_rfl)
    (allHold ⟨⟨rfl, check_no (s := s) h0⟩, trivial⟩)


theorem isS_cases {g : Int} (h : isS g = true) : g = 1 ∨ g = 2 ∨ g = 3 ∨ g = 4 ∨ g = 5 ∨ g = 6 ∨ g = 7 ∨ g = 8 ∨ g = 9 ∨ g = 10 ∨ g = 11 ∨ g = 12 ∨ g = 13 ∨ g = 14 ∨ g = 15 := by
  simp only [isS, Bool.and_eq_true, decide_eq_true_eq] at h
  omega
theorem handle_ok {s : S} {g : Int} {x : BitVec 32} (h : okH s g = true) : PureOk Try.prog 15 [V s, I g, U x] (.tuple #[U (s.get g), V (s.set g x), I 0]) := by
  simp only [okH, Bool.and_eq_true, Bool.not_eq_true', beq_eq_false_iff_ne] at h
  obtain ⟨⟨h1, h2⟩, h3⟩ := h
  rcases isS_cases h2 with rfl | rfl | rfl | rfl | rfl | rfl | rfl | rfl | rfl | rfl | rfl | rfl | rfl | rfl | rfl
  · exact handle1_0 h1
  · exact handle2_0 h1
  · exact handle3_0 h1
  · exact handle4_0 h1
  · exact handle5_0 h1
  · exact handle6_0 h1
  · exact handle7_0 h1
  · exact handle8_0 h1
  · exact absurd rfl h3
  · exact handle10_0 h1
  · exact handle11_0 h1
  · exact handle12_0 h1
  · exact handle13_0 h1
  · exact handle14_0 h1
  · exact handle15_0 h1
theorem handle_no {s : S} {g : Int} {x : BitVec 32} (h : okH s g = false) : PureOk Try.prog 15 [V s, I g, U x] (.tuple #[U 0#32, V s, I 120]) := by
  unfold okH at h
  cases a : okS s with
  | false => exact handleN_3 a
  | true => cases b : isS g with
    | false => exact handleN_2 a b
    | true => cases c : ((g : Int) == 9) with
      | true => exact handleN_0 a b c
      | false => rw [a, b, c] at h; cases h
end Go.Proofs.Ythpncefkklojlaa.sig
