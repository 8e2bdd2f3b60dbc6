/- An interpreter of our own: facts of operations on numbers. -/
import Derived.Test.YtjajeeoahbidlaaAbZ3
import Derived.DeepKeys
namespace Go.Ab
abbrev U (x : BitVec 32) : Value := .int .u32 (x.toNat : Int)
abbrev U8 (x : BitVec 8) : Value := .int .u8 (x.toNat : Int)
abbrev I (n : Int) : Value := .int .i64 n
abbrev B (b : Bool) : Value := .bool b
abbrev w64 (n : Int) : Int := IntKind.i64.wrap n

def AllHold (P : Program) (ds : List Value) : List Fact → Prop
  | [] => True
  | f :: l => f.Holds P ds ∧ AllHold P ds l
theorem allHold {P : Program} {ds : List Value} : ∀ {l : List Fact}, AllHold P ds l → ∀ f ∈ l, f.Holds P ds
  | [], _, f, h => by cases h
  | g :: l, ⟨h1, h2⟩, f, h => by
    rcases List.mem_cons.1 h with rfl | h
    · exact h1
    · exact allHold h2 f h

variable {P : Program} {ds : List Value} {t : TypeId} {x y v : Value}

theorem wrap32 (a : BitVec 32) : IntKind.u32.wrap (a.toNat : Int) = (a.toNat : Int) := by
  simp only [IntKind.wrap, IntKind.signed, IntKind.bits]
  have := a.isLt
  simp
  omega
theorem ofInt32 (a : BitVec 32) : BitVec.ofInt 32 (a.toNat : Int) = a := by simp

theorem runV_int (k : IntKind) (n : Int) : runV P (pure (.int k n)) = some (.int k n) := rfl
theorem runV_bool (b : Bool) : runV P (pure (.bool b)) = some (.bool b) := rfl

theorem bits_u32 {op : BinOp} {a b r : BitVec 32} (h : binOp op t (U a) (U b) = pure (.int .u32 (IntKind.u32.wrap (r.toNat : Int)))) : runV P (binOp op t (U a) (U b)) = some (U r) := by
  rw [h, wrap32]; rfl

theorem hold_or_u32 {a b : BitVec 32} (hl : plainL ds.length 6 v = true) (hx : er ds x = U a) (hy : er ds y = U b) (hv : er ds v = U (a ||| b)) : Fact.Holds P ds (.bin .or t x y v) :=
  ⟨hl, by
    show runV P (binOp .or t (er ds x) (er ds y)) = some (er ds v)
    rw [hx, hy, hv]
    exact bits_u32 (show Op.intBits .or .u32 _ _ = _ by simp only [Op.intBits]; show pure (Value.int .u32 (IntKind.u32.wrap ((BitVec.ofInt 32 _ ||| BitVec.ofInt 32 _).toNat : Int))) = _; rw [ofInt32, ofInt32])⟩
theorem hold_and_u32 {a b : BitVec 32} (hl : plainL ds.length 6 v = true) (hx : er ds x = U a) (hy : er ds y = U b) (hv : er ds v = U (a &&& b)) : Fact.Holds P ds (.bin .and t x y v) :=
  ⟨hl, by
    show runV P (binOp .and t (er ds x) (er ds y)) = some (er ds v)
    rw [hx, hy, hv]
    exact bits_u32 (show Op.intBits .and .u32 _ _ = _ by simp only [Op.intBits]; show pure (Value.int .u32 (IntKind.u32.wrap ((BitVec.ofInt 32 _ &&& BitVec.ofInt 32 _).toNat : Int))) = _; rw [ofInt32, ofInt32])⟩
theorem hold_andNot_u32 {a b : BitVec 32} (hl : plainL ds.length 6 v = true) (hx : er ds x = U a) (hy : er ds y = U b) (hv : er ds v = U (a &&& ~~~b)) : Fact.Holds P ds (.bin .andNot t x y v) :=
  ⟨hl, by
    show runV P (binOp .andNot t (er ds x) (er ds y)) = some (er ds v)
    rw [hx, hy, hv]
    exact bits_u32 (show Op.intBits .andNot .u32 _ _ = _ by simp only [Op.intBits]; show pure (Value.int .u32 (IntKind.u32.wrap ((BitVec.ofInt 32 _ &&& ~~~(BitVec.ofInt 32 _)).toNat : Int))) = _; rw [ofInt32, ofInt32])⟩

theorem wrap_u32 (n : Int) : IntKind.u32.wrap n = n % 4294967296 := by
  simp [IntKind.wrap, IntKind.signed, IntKind.bits]
theorem hold_add_u32 {a b : BitVec 32} (hl : plainL ds.length 6 v = true) (hx : er ds x = U a) (hy : er ds y = U b) (hv : er ds v = U (a + b)) : Fact.Holds P ds (.bin .add t x y v) :=
  ⟨hl, by
    show runV P (binOp .add t (er ds x) (er ds y)) = some (er ds v)
    rw [hx, hy, hv]
    show some (Value.int .u32 (IntKind.u32.wrap ((a.toNat : Int) + (b.toNat : Int)))) = _
    rw [wrap_u32]
    simp only [U, BitVec.toNat_add, Option.some.injEq, Value.int.injEq, true_and]
    omega⟩
theorem hold_sub_u32 {a b : BitVec 32} (hl : plainL ds.length 6 v = true) (hx : er ds x = U a) (hy : er ds y = U b) (hv : er ds v = U (a - b)) : Fact.Holds P ds (.bin .sub t x y v) :=
  ⟨hl, by
    show runV P (binOp .sub t (er ds x) (er ds y)) = some (er ds v)
    rw [hx, hy, hv]
    show some (Value.int .u32 (IntKind.u32.wrap ((a.toNat : Int) - (b.toNat : Int)))) = _
    rw [wrap_u32]
    have := a.isLt
    have := b.isLt
    simp only [U, BitVec.toNat_sub, Option.some.injEq, Value.int.injEq, true_and]
    omega⟩

theorem hold_shr_u32 {a : BitVec 32} {yk : IntKind} {b : Int} (hl : plainL ds.length 6 v = true) (hx : er ds x = U a) (hy : er ds y = .int yk b) (hv : er ds v = U (a >>> b.toNat)) (hb : 0 ≤ b) : Fact.Holds P ds (.bin .shr t x y v) :=
  ⟨hl, by
    show runV P (binOp .shr t (er ds x) (er ds y)) = some (er ds v)
    rw [hx, hy, hv]
    show runV P (Op.shift .shr .u32 _ yk _) = _
    unfold Op.shift
    rw [if_neg (by omega)]
    show some (Value.int .u32 _) = _
    congr 2
    rw [BitVec.toNat_ushiftRight, Nat.shiftRight_eq_div_pow, Int.fdiv_eq_ediv_of_nonneg _ (Int.pow_nonneg (by decide))]
    have hlt := a.isLt
    show (a.toNat : Int) / 2 ^ (min b.toNat 32) = _
    rcases Nat.le_total b.toNat 32 with h | h
    · rw [Nat.min_eq_left h]
      norm_cast
    · rw [Nat.min_eq_right h]
      have h1 : a.toNat / 2 ^ b.toNat = 0 := Nat.div_eq_of_lt (Nat.lt_of_lt_of_le hlt (Nat.pow_le_pow_right (by decide) h))
      rw [h1]
      omega⟩
theorem hold_shl_u32 {a : BitVec 32} {yk : IntKind} {b : Int} (hl : plainL ds.length 6 v = true) (hx : er ds x = U a) (hy : er ds y = .int yk b) (hv : er ds v = U (a <<< b.toNat)) (hb : 0 ≤ b) : Fact.Holds P ds (.bin .shl t x y v) :=
  ⟨hl, by
    show runV P (binOp .shl t (er ds x) (er ds y)) = some (er ds v)
    rw [hx, hy, hv]
    show runV P (Op.shift .shl .u32 _ yk _) = _
    unfold Op.shift
    rw [if_neg (by omega)]
    show some (Value.int .u32 _) = _
    congr 2
    rw [BitVec.toNat_shiftLeft, Nat.shiftLeft_eq, wrap_u32]
    show (a.toNat : Int) * 2 ^ (min b.toNat 32) % 4294967296 = _
    rcases Nat.le_total b.toNat 32 with h | h
    · rw [Nat.min_eq_left h]
      rw [Int.natCast_emod, Int.natCast_mul, Int.natCast_pow]
      rfl
    · rw [Nat.min_eq_right h]
      have h1 : a.toNat * 2 ^ b.toNat % 2 ^ 32 = 0 := by
        obtain ⟨k, hk⟩ := Nat.le.dest h
        rw [← hk, Nat.pow_add, ← Nat.mul_assoc, Nat.mul_right_comm]
        exact Nat.mul_mod_left _ _
      rw [h1]
      omega⟩

theorem cmp_int {op : BinOp} {k : IntKind} {a b : Int} {r : Bool} (xo yo : Operand) (w : World) (h : runV P (Op.intCmp op a b) = some (.bool r)) (h2 : binOp op t (.int k a) (.int k b) = Op.intCmp op a b) :
    (do eqGuard op t xo yo (.int k a) (.int k b); binOp op t (.int k a) (.int k b) : Sem Value).run P w = .ok (.bool r) w := by
  rw [h2]
  have h3 : runV P (do eqGuard op t xo yo (.int k a) (.int k b); Op.intCmp op a b) = some (.bool r) := by
    unfold eqGuard
    cases op <;> exact h
  exact (runV_run (σ := Sig.none) (ρ := ρ0) h3).2 w

theorem beq_nat {n : Nat} (a b : BitVec n) : ((a.toNat : Int) == (b.toNat : Int)) = (a == b) := by
  rw [Bool.eq_iff_iff]
  simp only [beq_iff_eq, Int.natCast_inj]
  exact ⟨fun h => BitVec.eq_of_toNat_eq h, fun h => by rw [h]⟩

theorem hold_eql_u32 {a b : BitVec 32} {r : Bool} (hx : er ds x = U a) (hy : er ds y = U b) (h : (a == b) = r) : Fact.Holds P ds (.bin .eql t x y (.bool r)) :=
  ⟨rfl, fun xo yo w => by
    rw [hx, hy]
    exact cmp_int xo yo w (by show some (Value.bool _) = _; rw [beq_nat, h]) rfl⟩
theorem hold_neq_u32 {a b : BitVec 32} {r : Bool} (hx : er ds x = U a) (hy : er ds y = U b) (h : (a == b) = r) : Fact.Holds P ds (.bin .neq t x y (.bool !r)) :=
  ⟨rfl, fun xo yo w => by
    rw [hx, hy]
    exact cmp_int xo yo w (by show some (Value.bool (!((a.toNat : Int) == (b.toNat : Int)))) = _; rw [beq_nat, h]) rfl⟩
theorem hold_eql_i {a b : Int} {r : Bool} (hx : er ds x = I a) (hy : er ds y = I b) (h : (a == b) = r) : Fact.Holds P ds (.bin .eql t x y (.bool r)) :=
  ⟨rfl, fun xo yo w => by
    rw [hx, hy]
    exact cmp_int xo yo w (by show some (Value.bool _) = _; rw [h]) rfl⟩
theorem hold_neq_i {a b : Int} {r : Bool} (hx : er ds x = I a) (hy : er ds y = I b) (h : (a == b) = r) : Fact.Holds P ds (.bin .neq t x y (.bool !r)) :=
  ⟨rfl, fun xo yo w => by
    rw [hx, hy]
    exact cmp_int xo yo w (by show some (Value.bool (!(a == b))) = _; rw [h]) rfl⟩
theorem hold_lss_i {a b : Int} {r : Bool} (hx : er ds x = I a) (hy : er ds y = I b) (h : decide (a < b) = r) : Fact.Holds P ds (.bin .lss t x y (.bool r)) :=
  ⟨rfl, by
    show runV P (binOp .lss t (er ds x) (er ds y)) = _
    rw [hx, hy, ← h]; rfl⟩
theorem hold_leq_i {a b : Int} {r : Bool} (hx : er ds x = I a) (hy : er ds y = I b) (h : decide (a ≤ b) = r) : Fact.Holds P ds (.bin .leq t x y (.bool r)) :=
  ⟨rfl, by
    show runV P (binOp .leq t (er ds x) (er ds y)) = _
    rw [hx, hy, ← h]; rfl⟩
theorem hold_gtr_i {a b : Int} {r : Bool} (hx : er ds x = I a) (hy : er ds y = I b) (h : decide (b < a) = r) : Fact.Holds P ds (.bin .gtr t x y (.bool r)) :=
  ⟨rfl, by
    show runV P (binOp .gtr t (er ds x) (er ds y)) = _
    rw [hx, hy, ← h]; rfl⟩
theorem hold_geq_i {a b : Int} {r : Bool} (hx : er ds x = I a) (hy : er ds y = I b) (h : decide (b ≤ a) = r) : Fact.Holds P ds (.bin .geq t x y (.bool r)) :=
  ⟨rfl, by
    show runV P (binOp .geq t (er ds x) (er ds y)) = _
    rw [hx, hy, ← h]; rfl⟩
theorem hold_add_i {a b : Int} (hl : plainL ds.length 6 v = true) (hx : er ds x = I a) (hy : er ds y = I b) (hv : er ds v = I (w64 (a + b))) : Fact.Holds P ds (.bin .add t x y v) :=
  ⟨hl, by
    show runV P (binOp .add t (er ds x) (er ds y)) = some (er ds v)
    rw [hx, hy, hv]; rfl⟩
theorem hold_sub_i {a b : Int} (hl : plainL ds.length 6 v = true) (hx : er ds x = I a) (hy : er ds y = I b) (hv : er ds v = I (w64 (a - b))) : Fact.Holds P ds (.bin .sub t x y v) :=
  ⟨hl, by
    show runV P (binOp .sub t (er ds x) (er ds y)) = some (er ds v)
    rw [hx, hy, hv]; rfl⟩
theorem hold_rem_i {a b : Int} (hl : plainL ds.length 6 v = true) (hx : er ds x = I a) (hy : er ds y = I b) (hv : er ds v = I (a.tmod b)) (hb : b ≠ 0) : Fact.Holds P ds (.bin .rem t x y v) :=
  ⟨hl, by
    show runV P (binOp .rem t (er ds x) (er ds y)) = some (er ds v)
    rw [hx, hy, hv]
    show runV P (Op.intDiv .rem .i64 a b) = _
    unfold Op.intDiv
    rw [if_neg hb]; rfl⟩
theorem w64_u8 (a : BitVec 8) : w64 (a.toNat : Int) = (a.toNat : Int) := by
  have := a.isLt
  simp [w64, IntKind.wrap, IntKind.signed, IntKind.bits]
  omega
theorem hold_conv8_i {s d : TypeId} {a : BitVec 8} (hl : plainL ds.length 6 v = true) (hx : er ds x = U8 a) (hv : er ds v = I (a.toNat : Int)) (hsl : slices P d = false) (hc : ∀ n : Int, runV P (convert s d (.int .u8 n)) = some (.int .i64 (IntKind.i64.wrap n))) : Fact.Holds P ds (.conv s d x v) :=
  ⟨hl, hsl, by
    rw [hx, hv, hc]
    show some (I (w64 _)) = _
    rw [w64_u8]⟩

/-- Two structs of numbers, texts and truths are equal where all of their cells are. -/
theorem eq_deep {k : TypeId} {a b : Array Value} {la lb : List Lit} {m : Nat} (hm : m ≤ 10000) (hk : P.keyTypeAt m k = true) (hg : P.eqGuardType P.depth k = false) (fx : (Value.agg a).formed P k = true) (fy : (Value.agg b).formed P k = true)
    (ha : P.keyLits (P.types.size + 1) k a.toList = some la) (hb : P.keyLits (P.types.size + 1) k b.toList = some lb) {op : BinOp} {r : Bool} (hr : (r = true) ↔ la = lb) (hop : op = .eql ∨ op = .neq) (xo yo : Operand) (w : World) :
    (do eqGuard op k xo yo (.agg a) (.agg b); binOp op k (.agg a) (.agg b) : Sem Value).run P w = .ok (.bool (match op with | .eql => r | _ => !r)) w := by
  obtain ⟨q, hq, hiff⟩ := run_equalIn_deep (10000 - m) m k hk w (P.types.size + 1) (P.types.size + 1) (.agg a) (.agg b) la lb fx fy ha hb
  rw [show 10000 - m + m = 10000 by omega] at hq
  have hqr : q = r := by
    rw [Bool.eq_iff_iff, hiff, hr]
  subst hqr
  have hq' : (Op.equal k (.agg a) (.agg b)).run P w = .ok q w := hq
  have hgu : (eqGuard op k xo yo (.agg a) (.agg b)).run P w = .ok () w := by
    unfold eqGuard
    rcases hop with rfl | rfl <;> simp [Sem.run_bind, hg, Result.andThen]
  rw [Sem.run_bind, hgu]
  rcases hop with rfl | rfl
  · show (do pure (.bool (← Op.equal k (.agg a) (.agg b))) : Sem Value).run P w = _
    simp only [Sem.run_bind, hq', Result.andThen, Sem.run_pure]
  · show (do pure (.bool (!(← Op.equal k (.agg a) (.agg b)))) : Sem Value).run P w = _
    simp only [Sem.run_bind, hq', Result.andThen, Sem.run_pure]
end Go.Ab
