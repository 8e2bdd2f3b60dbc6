/- SignalOnce: the second loop: paths. -/
import Derived.Test.YthpncefkklojlaaSigOnD
namespace Go.Proofs.Ythpncefkklojlaa.signalOnce
open Go.ChangeShapes Go.WideShapes Go.ChangeAt Go.RowKit Go.Ab
open Go.Proofs.Ythpncefkklojlaa.sig
set_option linter.unusedVariables false
set_option maxRecDepth 10000
noncomputable section


abbrev DSonce2b_1 (s : S) (all met : BitVec 32) (k : Int) : List Value := [U s.p, U s.m, U s.h0, U s.h1, U s.h2, U s.h3, U s.h4, U s.h5, U s.h6, U s.h7, U s.h8, U s.h9, U s.h10, U s.h11, U s.h12, U s.h13, U s.h14, U s.h15, U all, U met, U (s.p >>> (k : Int).toNat), U ((s.p >>> (k : Int).toNat) &&& 1#32), U (s.m >>> (k : Int).toNat), U ((s.m >>> (k : Int).toNat) &&& 1#32), U (all >>> (k : Int).toNat), U ((all >>> (k : Int).toNat) &&& 1#32)]
abbrev FSonce2b_1 (k : Int) : List Fact := [.bin .eql 22 (leaf (2 + k.toNat)) (.int .u32 1) (.bool true), .bin .shr 22 (leaf 0) (.int .i64 k) (leaf 20), .bin .and 22 (leaf 20) (.int .u32 1) (leaf 21), .bin .eql 22 (leaf 21) (.int .u32 1) (.bool true), .bin .shr 22 (leaf 1) (.int .i64 k) (leaf 22), .bin .and 22 (leaf 22) (.int .u32 1) (leaf 23), .bin .eql 22 (leaf 23) (.int .u32 0) (.bool false), .bin .shr 22 (leaf 18) (.int .i64 k) (leaf 24), .bin .and 22 (leaf 24) (.int .u32 1) (leaf 25), .bin .eql 22 (leaf 25) (.int .u32 1) (.bool true)]
theorem once2b_1 {s : S} {all met : BitVec 32} {k : Int} (hk : k = 12) (h0 : (s.get k == 1#32) = true) (h1 : (((s.p >>> (k : Int).toNat) &&& 1#32) == 1#32) = true) (h2 : (((s.m >>> (k : Int).toNat) &&& 1#32) == 0#32) = false) (h3 : (((all >>> (k : Int).toNat) &&& 1#32) == 1#32) = true) :
    TOk (sigOf (ds2 s all met)) (sigOf (ds2 s all met)) Try.prog 64 none B2 (hd2 k) (memB 65 bk) .normal (hd2 (k + 1)) (memB 65 bk) := by
  rcases hk with rfl
  · exact seg_ok (ds2 := DSonce2b_1 s all met 12) (len := 26) (fs := FSonce2b_1 12) (fuel := 60) (pre := 20) (npre := 20) (lm := []) (ol := [64]) (by kernel_rfl) mixed rfl rfl rfl rfl ⟨hold_eql_u32 rfl rfl h0, hold_shr_u32 rfl rfl rfl rfl (by decide), hold_and_u32 rfl rfl rfl rfl, hold_eql_u32 rfl rfl h1, hold_shr_u32 rfl rfl rfl rfl (by decide), hold_and_u32 rfl rfl rfl rfl, hold_eql_u32 rfl rfl h2, hold_shr_u32 rfl rfl rfl rfl (by decide), hold_and_u32 rfl rfl rfl rfl, hold_eql_u32 rfl rfl h3, trivial⟩ trivial

abbrev DSonce2b_2 (s : S) (all met : BitVec 32) (k : Int) : List Value := [U s.p, U s.m, U s.h0, U s.h1, U s.h2, U s.h3, U s.h4, U s.h5, U s.h6, U s.h7, U s.h8, U s.h9, U s.h10, U s.h11, U s.h12, U s.h13, U s.h14, U s.h15, U all, U met, U (s.p >>> (k : Int).toNat), U ((s.p >>> (k : Int).toNat) &&& 1#32), U (s.m >>> (k : Int).toNat), U ((s.m >>> (k : Int).toNat) &&& 1#32), U (all >>> (k : Int).toNat), U ((all >>> (k : Int).toNat) &&& 1#32)]
abbrev FSonce2b_2 (k : Int) : List Fact := [.bin .eql 22 (leaf (2 + k.toNat)) (.int .u32 1) (.bool true), .bin .shr 22 (leaf 0) (.int .i64 k) (leaf 20), .bin .and 22 (leaf 20) (.int .u32 1) (leaf 21), .bin .eql 22 (leaf 21) (.int .u32 1) (.bool true), .bin .shr 22 (leaf 1) (.int .i64 k) (leaf 22), .bin .and 22 (leaf 22) (.int .u32 1) (leaf 23), .bin .eql 22 (leaf 23) (.int .u32 0) (.bool false), .bin .shr 22 (leaf 18) (.int .i64 k) (leaf 24), .bin .and 22 (leaf 24) (.int .u32 1) (leaf 25), .bin .eql 22 (leaf 25) (.int .u32 1) (.bool false)]
theorem once2b_2 {s : S} {all met : BitVec 32} {k : Int} (hk : k = 12) (h0 : (s.get k == 1#32) = true) (h1 : (((s.p >>> (k : Int).toNat) &&& 1#32) == 1#32) = true) (h2 : (((s.m >>> (k : Int).toNat) &&& 1#32) == 0#32) = false) (h3 : (((all >>> (k : Int).toNat) &&& 1#32) == 1#32) = false) :
    TOk (sigOf (ds2 s all met)) (sigOf (ds2 s all met)) Try.prog 64 none B2 (hd2 k) (memB 65 bk) .normal (hd2 (k + 1)) (memB 65 bk) := by
  rcases hk with rfl
  · exact seg_ok (ds2 := DSonce2b_2 s all met 12) (len := 26) (fs := FSonce2b_2 12) (fuel := 60) (pre := 20) (npre := 20) (lm := []) (ol := [64]) (by kernel_rfl) mixed rfl rfl rfl rfl ⟨hold_eql_u32 rfl rfl h0, hold_shr_u32 rfl rfl rfl rfl (by decide), hold_and_u32 rfl rfl rfl rfl, hold_eql_u32 rfl rfl h1, hold_shr_u32 rfl rfl rfl rfl (by decide), hold_and_u32 rfl rfl rfl rfl, hold_eql_u32 rfl rfl h2, hold_shr_u32 rfl rfl rfl rfl (by decide), hold_and_u32 rfl rfl rfl rfl, hold_eql_u32 rfl rfl h3, trivial⟩ trivial

abbrev DSonce2b_3 (s : S) (all met : BitVec 32) (k : Int) : List Value := [U s.p, U s.m, U s.h0, U s.h1, U s.h2, U s.h3, U s.h4, U s.h5, U s.h6, U s.h7, U s.h8, U s.h9, U s.h10, U s.h11, U s.h12, U s.h13, U s.h14, U s.h15, U all, U met, U (s.p >>> (k : Int).toNat), U ((s.p >>> (k : Int).toNat) &&& 1#32), U (all >>> (k : Int).toNat), U ((all >>> (k : Int).toNat) &&& 1#32), U (s.m >>> (k : Int).toNat), U ((s.m >>> (k : Int).toNat) &&& 1#32)]
abbrev FSonce2b_3 (k : Int) : List Fact := [.bin .eql 22 (leaf (2 + k.toNat)) (.int .u32 1) (.bool true), .bin .shr 22 (leaf 0) (.int .i64 k) (leaf 20), .bin .and 22 (leaf 20) (.int .u32 1) (leaf 21), .bin .eql 22 (leaf 21) (.int .u32 1) (.bool false), .bin .shr 22 (leaf 18) (.int .i64 k) (leaf 22), .bin .and 22 (leaf 22) (.int .u32 1) (leaf 23), .bin .eql 22 (leaf 23) (.int .u32 1) (.bool true), .bin .shr 22 (leaf 1) (.int .i64 k) (leaf 24), .bin .and 22 (leaf 24) (.int .u32 1) (leaf 25), .bin .eql 22 (leaf 25) (.int .u32 0) (.bool true)]
theorem once2b_3 {s : S} {all met : BitVec 32} {k : Int} (hk : k = 12) (h0 : (s.get k == 1#32) = true) (h1 : (((s.p >>> (k : Int).toNat) &&& 1#32) == 1#32) = false) (h2 : (((all >>> (k : Int).toNat) &&& 1#32) == 1#32) = true) (h3 : (((s.m >>> (k : Int).toNat) &&& 1#32) == 0#32) = true) :
    TOk (sigOf (ds2 s all met)) (sigOf (ds2 s all met)) Try.prog 64 none B2 (hd2 k) (memB 65 bk) .normal (hd2 (k + 1)) (memB 65 bk) := by
  rcases hk with rfl
  · exact seg_ok (ds2 := DSonce2b_3 s all met 12) (len := 26) (fs := FSonce2b_3 12) (fuel := 60) (pre := 20) (npre := 20) (lm := []) (ol := [64]) (by kernel_rfl) mixed rfl rfl rfl rfl ⟨hold_eql_u32 rfl rfl h0, hold_shr_u32 rfl rfl rfl rfl (by decide), hold_and_u32 rfl rfl rfl rfl, hold_eql_u32 rfl rfl h1, hold_shr_u32 rfl rfl rfl rfl (by decide), hold_and_u32 rfl rfl rfl rfl, hold_eql_u32 rfl rfl h2, hold_shr_u32 rfl rfl rfl rfl (by decide), hold_and_u32 rfl rfl rfl rfl, hold_eql_u32 rfl rfl h3, trivial⟩ trivial

abbrev DSonce2b_4 (s : S) (all met : BitVec 32) (k : Int) : List Value := [U s.p, U s.m, U s.h0, U s.h1, U s.h2, U s.h3, U s.h4, U s.h5, U s.h6, U s.h7, U s.h8, U s.h9, U s.h10, U s.h11, U s.h12, U s.h13, U s.h14, U s.h15, U all, U met, U (s.p >>> (k : Int).toNat), U ((s.p >>> (k : Int).toNat) &&& 1#32), U (all >>> (k : Int).toNat), U ((all >>> (k : Int).toNat) &&& 1#32), U (s.m >>> (k : Int).toNat), U ((s.m >>> (k : Int).toNat) &&& 1#32)]
abbrev FSonce2b_4 (k : Int) : List Fact := [.bin .eql 22 (leaf (2 + k.toNat)) (.int .u32 1) (.bool true), .bin .shr 22 (leaf 0) (.int .i64 k) (leaf 20), .bin .and 22 (leaf 20) (.int .u32 1) (leaf 21), .bin .eql 22 (leaf 21) (.int .u32 1) (.bool false), .bin .shr 22 (leaf 18) (.int .i64 k) (leaf 22), .bin .and 22 (leaf 22) (.int .u32 1) (leaf 23), .bin .eql 22 (leaf 23) (.int .u32 1) (.bool true), .bin .shr 22 (leaf 1) (.int .i64 k) (leaf 24), .bin .and 22 (leaf 24) (.int .u32 1) (leaf 25), .bin .eql 22 (leaf 25) (.int .u32 0) (.bool false)]
theorem once2b_4 {s : S} {all met : BitVec 32} {k : Int} (hk : k = 12) (h0 : (s.get k == 1#32) = true) (h1 : (((s.p >>> (k : Int).toNat) &&& 1#32) == 1#32) = false) (h2 : (((all >>> (k : Int).toNat) &&& 1#32) == 1#32) = true) (h3 : (((s.m >>> (k : Int).toNat) &&& 1#32) == 0#32) = false) :
    TOk (sigOf (ds2 s all met)) (sigOf (ds2 s all met)) Try.prog 64 none B2 (hd2 k) (memB 65 bk) .normal (hd2 (k + 1)) (memB 65 bk) := by
  rcases hk with rfl
  · exact seg_ok (ds2 := DSonce2b_4 s all met 12) (len := 26) (fs := FSonce2b_4 12) (fuel := 60) (pre := 20) (npre := 20) (lm := []) (ol := [64]) (by kernel_rfl) mixed rfl rfl rfl rfl ⟨hold_eql_u32 rfl rfl h0, hold_shr_u32 rfl rfl rfl rfl (by decide), hold_and_u32 rfl rfl rfl rfl, hold_eql_u32 rfl rfl h1, hold_shr_u32 rfl rfl rfl rfl (by decide), hold_and_u32 rfl rfl rfl rfl, hold_eql_u32 rfl rfl h2, hold_shr_u32 rfl rfl rfl rfl (by decide), hold_and_u32 rfl rfl rfl rfl, hold_eql_u32 rfl rfl h3, trivial⟩ trivial

abbrev DSonce2b_5 (s : S) (all met : BitVec 32) (k : Int) : List Value := [U s.p, U s.m, U s.h0, U s.h1, U s.h2, U s.h3, U s.h4, U s.h5, U s.h6, U s.h7, U s.h8, U s.h9, U s.h10, U s.h11, U s.h12, U s.h13, U s.h14, U s.h15, U all, U met, U (s.p >>> (k : Int).toNat), U ((s.p >>> (k : Int).toNat) &&& 1#32), U (all >>> (k : Int).toNat), U ((all >>> (k : Int).toNat) &&& 1#32)]
abbrev FSonce2b_5 (k : Int) : List Fact := [.bin .eql 22 (leaf (2 + k.toNat)) (.int .u32 1) (.bool true), .bin .shr 22 (leaf 0) (.int .i64 k) (leaf 20), .bin .and 22 (leaf 20) (.int .u32 1) (leaf 21), .bin .eql 22 (leaf 21) (.int .u32 1) (.bool false), .bin .shr 22 (leaf 18) (.int .i64 k) (leaf 22), .bin .and 22 (leaf 22) (.int .u32 1) (leaf 23), .bin .eql 22 (leaf 23) (.int .u32 1) (.bool false)]
theorem once2b_5 {s : S} {all met : BitVec 32} {k : Int} (hk : k = 12) (h0 : (s.get k == 1#32) = true) (h1 : (((s.p >>> (k : Int).toNat) &&& 1#32) == 1#32) = false) (h2 : (((all >>> (k : Int).toNat) &&& 1#32) == 1#32) = false) :
    TOk (sigOf (ds2 s all met)) (sigOf (ds2 s all met)) Try.prog 64 none B2 (hd2 k) (memB 65 bk) .normal (hd2 (k + 1)) (memB 65 bk) := by
  rcases hk with rfl
  · exact seg_ok (ds2 := DSonce2b_5 s all met 12) (len := 24) (fs := FSonce2b_5 12) (fuel := 60) (pre := 20) (npre := 20) (lm := []) (ol := [64]) (by kernel_rfl) mixed rfl rfl rfl rfl ⟨hold_eql_u32 rfl rfl h0, hold_shr_u32 rfl rfl rfl rfl (by decide), hold_and_u32 rfl rfl rfl rfl, hold_eql_u32 rfl rfl h1, hold_shr_u32 rfl rfl rfl rfl (by decide), hold_and_u32 rfl rfl rfl rfl, hold_eql_u32 rfl rfl h2, trivial⟩ trivial

abbrev DSonce2b_7 (s : S) (all met : BitVec 32) (k : Int) : List Value := [U s.p, U s.m, U s.h0, U s.h1, U s.h2, U s.h3, U s.h4, U s.h5, U s.h6, U s.h7, U s.h8, U s.h9, U s.h10, U s.h11, U s.h12, U s.h13, U s.h14, U s.h15, U all, U met, U (s.p >>> (k : Int).toNat), U ((s.p >>> (k : Int).toNat) &&& 1#32), U (s.m >>> (k : Int).toNat), U ((s.m >>> (k : Int).toNat) &&& 1#32), U (all >>> (k : Int).toNat), U ((all >>> (k : Int).toNat) &&& 1#32)]
abbrev FSonce2b_7 (k : Int) : List Fact := [.bin .eql 22 (leaf (2 + k.toNat)) (.int .u32 1) (.bool false), .bin .eql 22 (leaf (2 + k.toNat)) (.int .u32 0) (.bool true), .bin .shr 22 (leaf 0) (.int .i64 k) (leaf 20), .bin .and 22 (leaf 20) (.int .u32 1) (leaf 21), .bin .eql 22 (leaf 21) (.int .u32 1) (.bool true), .bin .shr 22 (leaf 1) (.int .i64 k) (leaf 22), .bin .and 22 (leaf 22) (.int .u32 1) (leaf 23), .bin .eql 22 (leaf 23) (.int .u32 0) (.bool false), .bin .shr 22 (leaf 18) (.int .i64 k) (leaf 24), .bin .and 22 (leaf 24) (.int .u32 1) (leaf 25), .bin .eql 22 (leaf 25) (.int .u32 1) (.bool true)]
theorem once2b_7 {s : S} {all met : BitVec 32} {k : Int} (hk : k = 12) (h0 : (s.get k == 1#32) = false) (h1 : (s.get k == 0#32) = true) (h2 : (((s.p >>> (k : Int).toNat) &&& 1#32) == 1#32) = true) (h3 : (((s.m >>> (k : Int).toNat) &&& 1#32) == 0#32) = false) (h4 : (((all >>> (k : Int).toNat) &&& 1#32) == 1#32) = true) :
    TOk (sigOf (ds2 s all met)) (sigOf (ds2 s all met)) Try.prog 64 none B2 (hd2 k) (memB 65 bk) .normal (hd2 (k + 1)) (memB 65 bk) := by
  rcases hk with rfl
  · exact seg_ok (ds2 := DSonce2b_7 s all met 12) (len := 26) (fs := FSonce2b_7 12) (fuel := 60) (pre := 20) (npre := 20) (lm := []) (ol := [64]) (by kernel_rfl) mixed rfl rfl rfl rfl ⟨hold_eql_u32 rfl rfl h0, hold_eql_u32 rfl rfl h1, hold_shr_u32 rfl rfl rfl rfl (by decide), hold_and_u32 rfl rfl rfl rfl, hold_eql_u32 rfl rfl h2, hold_shr_u32 rfl rfl rfl rfl (by decide), hold_and_u32 rfl rfl rfl rfl, hold_eql_u32 rfl rfl h3, hold_shr_u32 rfl rfl rfl rfl (by decide), hold_and_u32 rfl rfl rfl rfl, hold_eql_u32 rfl rfl h4, trivial⟩ trivial

abbrev DSonce2b_8 (s : S) (all met : BitVec 32) (k : Int) : List Value := [U s.p, U s.m, U s.h0, U s.h1, U s.h2, U s.h3, U s.h4, U s.h5, U s.h6, U s.h7, U s.h8, U s.h9, U s.h10, U s.h11, U s.h12, U s.h13, U s.h14, U s.h15, U all, U met, U (s.p >>> (k : Int).toNat), U ((s.p >>> (k : Int).toNat) &&& 1#32), U (s.m >>> (k : Int).toNat), U ((s.m >>> (k : Int).toNat) &&& 1#32), U (all >>> (k : Int).toNat), U ((all >>> (k : Int).toNat) &&& 1#32)]
abbrev FSonce2b_8 (k : Int) : List Fact := [.bin .eql 22 (leaf (2 + k.toNat)) (.int .u32 1) (.bool false), .bin .eql 22 (leaf (2 + k.toNat)) (.int .u32 0) (.bool true), .bin .shr 22 (leaf 0) (.int .i64 k) (leaf 20), .bin .and 22 (leaf 20) (.int .u32 1) (leaf 21), .bin .eql 22 (leaf 21) (.int .u32 1) (.bool true), .bin .shr 22 (leaf 1) (.int .i64 k) (leaf 22), .bin .and 22 (leaf 22) (.int .u32 1) (leaf 23), .bin .eql 22 (leaf 23) (.int .u32 0) (.bool false), .bin .shr 22 (leaf 18) (.int .i64 k) (leaf 24), .bin .and 22 (leaf 24) (.int .u32 1) (leaf 25), .bin .eql 22 (leaf 25) (.int .u32 1) (.bool false)]
theorem once2b_8 {s : S} {all met : BitVec 32} {k : Int} (hk : k = 12) (h0 : (s.get k == 1#32) = false) (h1 : (s.get k == 0#32) = true) (h2 : (((s.p >>> (k : Int).toNat) &&& 1#32) == 1#32) = true) (h3 : (((s.m >>> (k : Int).toNat) &&& 1#32) == 0#32) = false) (h4 : (((all >>> (k : Int).toNat) &&& 1#32) == 1#32) = false) :
    TOk (sigOf (ds2 s all met)) (sigOf (ds2 s all met)) Try.prog 64 none B2 (hd2 k) (memB 65 bk) .normal (hd2 (k + 1)) (memB 65 bk) := by
  rcases hk with rfl
  · exact seg_ok (ds2 := DSonce2b_8 s all met 12) (len := 26) (fs := FSonce2b_8 12) (fuel := 60) (pre := 20) (npre := 20) (lm := []) (ol := [64]) (by kernel_rfl) mixed rfl rfl rfl rfl ⟨hold_eql_u32 rfl rfl h0, hold_eql_u32 rfl rfl h1, hold_shr_u32 rfl rfl rfl rfl (by decide), hold_and_u32 rfl rfl rfl rfl, hold_eql_u32 rfl rfl h2, hold_shr_u32 rfl rfl rfl rfl (by decide), hold_and_u32 rfl rfl rfl rfl, hold_eql_u32 rfl rfl h3, hold_shr_u32 rfl rfl rfl rfl (by decide), hold_and_u32 rfl rfl rfl rfl, hold_eql_u32 rfl rfl h4, trivial⟩ trivial

abbrev DSonce2b_9 (s : S) (all met : BitVec 32) (k : Int) : List Value := [U s.p, U s.m, U s.h0, U s.h1, U s.h2, U s.h3, U s.h4, U s.h5, U s.h6, U s.h7, U s.h8, U s.h9, U s.h10, U s.h11, U s.h12, U s.h13, U s.h14, U s.h15, U all, U met, U (s.p >>> (k : Int).toNat), U ((s.p >>> (k : Int).toNat) &&& 1#32), U (all >>> (k : Int).toNat), U ((all >>> (k : Int).toNat) &&& 1#32), U (s.m >>> (k : Int).toNat), U ((s.m >>> (k : Int).toNat) &&& 1#32)]
abbrev FSonce2b_9 (k : Int) : List Fact := [.bin .eql 22 (leaf (2 + k.toNat)) (.int .u32 1) (.bool false), .bin .eql 22 (leaf (2 + k.toNat)) (.int .u32 0) (.bool true), .bin .shr 22 (leaf 0) (.int .i64 k) (leaf 20), .bin .and 22 (leaf 20) (.int .u32 1) (leaf 21), .bin .eql 22 (leaf 21) (.int .u32 1) (.bool false), .bin .shr 22 (leaf 18) (.int .i64 k) (leaf 22), .bin .and 22 (leaf 22) (.int .u32 1) (leaf 23), .bin .eql 22 (leaf 23) (.int .u32 1) (.bool true), .bin .shr 22 (leaf 1) (.int .i64 k) (leaf 24), .bin .and 22 (leaf 24) (.int .u32 1) (leaf 25), .bin .eql 22 (leaf 25) (.int .u32 0) (.bool true)]
theorem once2b_9 {s : S} {all met : BitVec 32} {k : Int} (hk : k = 12) (h0 : (s.get k == 1#32) = false) (h1 : (s.get k == 0#32) = true) (h2 : (((s.p >>> (k : Int).toNat) &&& 1#32) == 1#32) = false) (h3 : (((all >>> (k : Int).toNat) &&& 1#32) == 1#32) = true) (h4 : (((s.m >>> (k : Int).toNat) &&& 1#32) == 0#32) = true) :
    TOk (sigOf (ds2 s all met)) (sigOf (ds2 s all met)) Try.prog 64 none B2 (hd2 k) (memB 65 bk) .normal (hd2 (k + 1)) (memB 65 bk) := by
  rcases hk with rfl
  · exact seg_ok (ds2 := DSonce2b_9 s all met 12) (len := 26) (fs := FSonce2b_9 12) (fuel := 60) (pre := 20) (npre := 20) (lm := []) (ol := [64]) (by kernel_rfl) mixed rfl rfl rfl rfl ⟨hold_eql_u32 rfl rfl h0, hold_eql_u32 rfl rfl h1, hold_shr_u32 rfl rfl rfl rfl (by decide), hold_and_u32 rfl rfl rfl rfl, hold_eql_u32 rfl rfl h2, hold_shr_u32 rfl rfl rfl rfl (by decide), hold_and_u32 rfl rfl rfl rfl, hold_eql_u32 rfl rfl h3, hold_shr_u32 rfl rfl rfl rfl (by decide), hold_and_u32 rfl rfl rfl rfl, hold_eql_u32 rfl rfl h4, trivial⟩ trivial

abbrev DSonce2b_10 (s : S) (all met : BitVec 32) (k : Int) : List Value := [U s.p, U s.m, U s.h0, U s.h1, U s.h2, U s.h3, U s.h4, U s.h5, U s.h6, U s.h7, U s.h8, U s.h9, U s.h10, U s.h11, U s.h12, U s.h13, U s.h14, U s.h15, U all, U met, U (s.p >>> (k : Int).toNat), U ((s.p >>> (k : Int).toNat) &&& 1#32), U (all >>> (k : Int).toNat), U ((all >>> (k : Int).toNat) &&& 1#32), U (s.m >>> (k : Int).toNat), U ((s.m >>> (k : Int).toNat) &&& 1#32)]
abbrev FSonce2b_10 (k : Int) : List Fact := [.bin .eql 22 (leaf (2 + k.toNat)) (.int .u32 1) (.bool false), .bin .eql 22 (leaf (2 + k.toNat)) (.int .u32 0) (.bool true), .bin .shr 22 (leaf 0) (.int .i64 k) (leaf 20), .bin .and 22 (leaf 20) (.int .u32 1) (leaf 21), .bin .eql 22 (leaf 21) (.int .u32 1) (.bool false), .bin .shr 22 (leaf 18) (.int .i64 k) (leaf 22), .bin .and 22 (leaf 22) (.int .u32 1) (leaf 23), .bin .eql 22 (leaf 23) (.int .u32 1) (.bool true), .bin .shr 22 (leaf 1) (.int .i64 k) (leaf 24), .bin .and 22 (leaf 24) (.int .u32 1) (leaf 25), .bin .eql 22 (leaf 25) (.int .u32 0) (.bool false)]
theorem once2b_10 {s : S} {all met : BitVec 32} {k : Int} (hk : k = 12) (h0 : (s.get k == 1#32) = false) (h1 : (s.get k == 0#32) = true) (h2 : (((s.p >>> (k : Int).toNat) &&& 1#32) == 1#32) = false) (h3 : (((all >>> (k : Int).toNat) &&& 1#32) == 1#32) = true) (h4 : (((s.m >>> (k : Int).toNat) &&& 1#32) == 0#32) = false) :
    TOk (sigOf (ds2 s all met)) (sigOf (ds2 s all met)) Try.prog 64 none B2 (hd2 k) (memB 65 bk) .normal (hd2 (k + 1)) (memB 65 bk) := by
  rcases hk with rfl
  · exact seg_ok (ds2 := DSonce2b_10 s all met 12) (len := 26) (fs := FSonce2b_10 12) (fuel := 60) (pre := 20) (npre := 20) (lm := []) (ol := [64]) (by kernel_rfl) mixed rfl rfl rfl rfl ⟨hold_eql_u32 rfl rfl h0, hold_eql_u32 rfl rfl h1, hold_shr_u32 rfl rfl rfl rfl (by decide), hold_and_u32 rfl rfl rfl rfl, hold_eql_u32 rfl rfl h2, hold_shr_u32 rfl rfl rfl rfl (by decide), hold_and_u32 rfl rfl rfl rfl, hold_eql_u32 rfl rfl h3, hold_shr_u32 rfl rfl rfl rfl (by decide), hold_and_u32 rfl rfl rfl rfl, hold_eql_u32 rfl rfl h4, trivial⟩ trivial

abbrev DSonce2b_11 (s : S) (all met : BitVec 32) (k : Int) : List Value := [U s.p, U s.m, U s.h0, U s.h1, U s.h2, U s.h3, U s.h4, U s.h5, U s.h6, U s.h7, U s.h8, U s.h9, U s.h10, U s.h11, U s.h12, U s.h13, U s.h14, U s.h15, U all, U met, U (s.p >>> (k : Int).toNat), U ((s.p >>> (k : Int).toNat) &&& 1#32), U (all >>> (k : Int).toNat), U ((all >>> (k : Int).toNat) &&& 1#32)]
abbrev FSonce2b_11 (k : Int) : List Fact := [.bin .eql 22 (leaf (2 + k.toNat)) (.int .u32 1) (.bool false), .bin .eql 22 (leaf (2 + k.toNat)) (.int .u32 0) (.bool true), .bin .shr 22 (leaf 0) (.int .i64 k) (leaf 20), .bin .and 22 (leaf 20) (.int .u32 1) (leaf 21), .bin .eql 22 (leaf 21) (.int .u32 1) (.bool false), .bin .shr 22 (leaf 18) (.int .i64 k) (leaf 22), .bin .and 22 (leaf 22) (.int .u32 1) (leaf 23), .bin .eql 22 (leaf 23) (.int .u32 1) (.bool false)]
theorem once2b_11 {s : S} {all met : BitVec 32} {k : Int} (hk : k = 12) (h0 : (s.get k == 1#32) = false) (h1 : (s.get k == 0#32) = true) (h2 : (((s.p >>> (k : Int).toNat) &&& 1#32) == 1#32) = false) (h3 : (((all >>> (k : Int).toNat) &&& 1#32) == 1#32) = false) :
    TOk (sigOf (ds2 s all met)) (sigOf (ds2 s all met)) Try.prog 64 none B2 (hd2 k) (memB 65 bk) .normal (hd2 (k + 1)) (memB 65 bk) := by
  rcases hk with rfl
  · exact seg_ok (ds2 := DSonce2b_11 s all met 12) (len := 24) (fs := FSonce2b_11 12) (fuel := 60) (pre := 20) (npre := 20) (lm := []) (ol := [64]) (by kernel_rfl) mixed rfl rfl rfl rfl ⟨hold_eql_u32 rfl rfl h0, hold_eql_u32 rfl rfl h1, hold_shr_u32 rfl rfl rfl rfl (by decide), hold_and_u32 rfl rfl rfl rfl, hold_eql_u32 rfl rfl h2, hold_shr_u32 rfl rfl rfl rfl (by decide), hold_and_u32 rfl rfl rfl rfl, hold_eql_u32 rfl rfl h3, trivial⟩ trivial

abbrev DSonce2b_13 (s : S) (all met : BitVec 32) (k : Int) : List Value := [U s.p, U s.m, U s.h0, U s.h1, U s.h2, U s.h3, U s.h4, U s.h5, U s.h6, U s.h7, U s.h8, U s.h9, U s.h10, U s.h11, U s.h12, U s.h13, U s.h14, U s.h15, U all, U met, U (s.p >>> (k : Int).toNat), U ((s.p >>> (k : Int).toNat) &&& 1#32), U (s.m >>> (k : Int).toNat), U ((s.m >>> (k : Int).toNat) &&& 1#32), U (all >>> (k : Int).toNat), U ((all >>> (k : Int).toNat) &&& 1#32)]
abbrev FSonce2b_13 (k : Int) : List Fact := [.bin .eql 22 (leaf (2 + k.toNat)) (.int .u32 1) (.bool false), .bin .eql 22 (leaf (2 + k.toNat)) (.int .u32 0) (.bool false), .bin .shr 22 (leaf 0) (.int .i64 k) (leaf 20), .bin .and 22 (leaf 20) (.int .u32 1) (leaf 21), .bin .eql 22 (leaf 21) (.int .u32 1) (.bool true), .bin .shr 22 (leaf 1) (.int .i64 k) (leaf 22), .bin .and 22 (leaf 22) (.int .u32 1) (leaf 23), .bin .eql 22 (leaf 23) (.int .u32 0) (.bool false), .bin .shr 22 (leaf 18) (.int .i64 k) (leaf 24), .bin .and 22 (leaf 24) (.int .u32 1) (leaf 25), .bin .eql 22 (leaf 25) (.int .u32 1) (.bool true)]
theorem once2b_13 {s : S} {all met : BitVec 32} {k : Int} (hk : k = 12) (h0 : (s.get k == 1#32) = false) (h1 : (s.get k == 0#32) = false) (h2 : (((s.p >>> (k : Int).toNat) &&& 1#32) == 1#32) = true) (h3 : (((s.m >>> (k : Int).toNat) &&& 1#32) == 0#32) = false) (h4 : (((all >>> (k : Int).toNat) &&& 1#32) == 1#32) = true) :
    TOk (sigOf (ds2 s all met)) (sigOf (ds2 s all met)) Try.prog 64 none B2 (hd2 k) (memB 65 bk) .normal (hd2 (k + 1)) (memB 65 bk) := by
  rcases hk with rfl
  · exact seg_ok (ds2 := DSonce2b_13 s all met 12) (len := 26) (fs := FSonce2b_13 12) (fuel := 60) (pre := 20) (npre := 20) (lm := []) (ol := [64]) (by kernel_rfl) mixed rfl rfl rfl rfl ⟨hold_eql_u32 rfl rfl h0, hold_eql_u32 rfl rfl h1, hold_shr_u32 rfl rfl rfl rfl (by decide), hold_and_u32 rfl rfl rfl rfl, hold_eql_u32 rfl rfl h2, hold_shr_u32 rfl rfl rfl rfl (by decide), hold_and_u32 rfl rfl rfl rfl, hold_eql_u32 rfl rfl h3, hold_shr_u32 rfl rfl rfl rfl (by decide), hold_and_u32 rfl rfl rfl rfl, hold_eql_u32 rfl rfl h4, trivial⟩ trivial

abbrev DSonce2b_14 (s : S) (all met : BitVec 32) (k : Int) : List Value := [U s.p, U s.m, U s.h0, U s.h1, U s.h2, U s.h3, U s.h4, U s.h5, U s.h6, U s.h7, U s.h8, U s.h9, U s.h10, U s.h11, U s.h12, U s.h13, U s.h14, U s.h15, U all, U met, U (s.p >>> (k : Int).toNat), U ((s.p >>> (k : Int).toNat) &&& 1#32), U (s.m >>> (k : Int).toNat), U ((s.m >>> (k : Int).toNat) &&& 1#32), U (all >>> (k : Int).toNat), U ((all >>> (k : Int).toNat) &&& 1#32)]
abbrev FSonce2b_14 (k : Int) : List Fact := [.bin .eql 22 (leaf (2 + k.toNat)) (.int .u32 1) (.bool false), .bin .eql 22 (leaf (2 + k.toNat)) (.int .u32 0) (.bool false), .bin .shr 22 (leaf 0) (.int .i64 k) (leaf 20), .bin .and 22 (leaf 20) (.int .u32 1) (leaf 21), .bin .eql 22 (leaf 21) (.int .u32 1) (.bool true), .bin .shr 22 (leaf 1) (.int .i64 k) (leaf 22), .bin .and 22 (leaf 22) (.int .u32 1) (leaf 23), .bin .eql 22 (leaf 23) (.int .u32 0) (.bool false), .bin .shr 22 (leaf 18) (.int .i64 k) (leaf 24), .bin .and 22 (leaf 24) (.int .u32 1) (leaf 25), .bin .eql 22 (leaf 25) (.int .u32 1) (.bool false)]
theorem once2b_14 {s : S} {all met : BitVec 32} {k : Int} (hk : k = 12) (h0 : (s.get k == 1#32) = false) (h1 : (s.get k == 0#32) = false) (h2 : (((s.p >>> (k : Int).toNat) &&& 1#32) == 1#32) = true) (h3 : (((s.m >>> (k : Int).toNat) &&& 1#32) == 0#32) = false) (h4 : (((all >>> (k : Int).toNat) &&& 1#32) == 1#32) = false) :
    TOk (sigOf (ds2 s all met)) (sigOf (ds2 s all met)) Try.prog 64 none B2 (hd2 k) (memB 65 bk) .normal (hd2 (k + 1)) (memB 65 bk) := by
  rcases hk with rfl
  · exact seg_ok (ds2 := DSonce2b_14 s all met 12) (len := 26) (fs := FSonce2b_14 12) (fuel := 60) (pre := 20) (npre := 20) (lm := []) (ol := [64]) (by kernel_rfl) mixed rfl rfl rfl rfl ⟨hold_eql_u32 rfl rfl h0, hold_eql_u32 rfl rfl h1, hold_shr_u32 rfl rfl rfl rfl (by decide), hold_and_u32 rfl rfl rfl rfl, hold_eql_u32 rfl rfl h2, hold_shr_u32 rfl rfl rfl rfl (by decide), hold_and_u32 rfl rfl rfl rfl, hold_eql_u32 rfl rfl h3, hold_shr_u32 rfl rfl rfl rfl (by decide), hold_and_u32 rfl rfl rfl rfl, hold_eql_u32 rfl rfl h4, trivial⟩ trivial

abbrev DSonce2b_16 (s : S) (all met : BitVec 32) (k : Int) : List Value := [U s.p, U s.m, U s.h0, U s.h1, U s.h2, U s.h3, U s.h4, U s.h5, U s.h6, U s.h7, U s.h8, U s.h9, U s.h10, U s.h11, U s.h12, U s.h13, U s.h14, U s.h15, U all, U met, U (s.p >>> (k : Int).toNat), U ((s.p >>> (k : Int).toNat) &&& 1#32), U (all >>> (k : Int).toNat), U ((all >>> (k : Int).toNat) &&& 1#32), U (s.m >>> (k : Int).toNat), U ((s.m >>> (k : Int).toNat) &&& 1#32), U (met >>> (k : Int).toNat), U ((met >>> (k : Int).toNat) &&& 1#32)]
abbrev FSonce2b_16 (k : Int) : List Fact := [.bin .eql 22 (leaf (2 + k.toNat)) (.int .u32 1) (.bool false), .bin .eql 22 (leaf (2 + k.toNat)) (.int .u32 0) (.bool false), .bin .shr 22 (leaf 0) (.int .i64 k) (leaf 20), .bin .and 22 (leaf 20) (.int .u32 1) (leaf 21), .bin .eql 22 (leaf 21) (.int .u32 1) (.bool false), .bin .shr 22 (leaf 18) (.int .i64 k) (leaf 22), .bin .and 22 (leaf 22) (.int .u32 1) (leaf 23), .bin .eql 22 (leaf 23) (.int .u32 1) (.bool true), .bin .shr 22 (leaf 1) (.int .i64 k) (leaf 24), .bin .and 22 (leaf 24) (.int .u32 1) (leaf 25), .bin .eql 22 (leaf 25) (.int .u32 0) (.bool true), .bin .shr 22 (leaf 19) (.int .i64 k) (leaf 26), .bin .and 22 (leaf 26) (.int .u32 1) (leaf 27), .bin .eql 22 (leaf 27) (.int .u32 0) (.bool false)]
theorem once2b_16 {s : S} {all met : BitVec 32} {k : Int} (hk : k = 12) (h0 : (s.get k == 1#32) = false) (h1 : (s.get k == 0#32) = false) (h2 : (((s.p >>> (k : Int).toNat) &&& 1#32) == 1#32) = false) (h3 : (((all >>> (k : Int).toNat) &&& 1#32) == 1#32) = true) (h4 : (((s.m >>> (k : Int).toNat) &&& 1#32) == 0#32) = true) (h5 : (((met >>> (k : Int).toNat) &&& 1#32) == 0#32) = false) :
    TOk (sigOf (ds2 s all met)) (sigOf (ds2 s all met)) Try.prog 64 none B2 (hd2 k) (memB 65 bk) .normal (hd2 (k + 1)) (memB 65 bk) := by
  rcases hk with rfl
  · exact seg_ok (ds2 := DSonce2b_16 s all met 12) (len := 28) (fs := FSonce2b_16 12) (fuel := 60) (pre := 20) (npre := 20) (lm := []) (ol := [64]) (by kernel_rfl) mixed rfl rfl rfl rfl ⟨hold_eql_u32 rfl rfl h0, hold_eql_u32 rfl rfl h1, hold_shr_u32 rfl rfl rfl rfl (by decide), hold_and_u32 rfl rfl rfl rfl, hold_eql_u32 rfl rfl h2, hold_shr_u32 rfl rfl rfl rfl (by decide), hold_and_u32 rfl rfl rfl rfl, hold_eql_u32 rfl rfl h3, hold_shr_u32 rfl rfl rfl rfl (by decide), hold_and_u32 rfl rfl rfl rfl, hold_eql_u32 rfl rfl h4, hold_shr_u32 rfl rfl rfl rfl (by decide), hold_and_u32 rfl rfl rfl rfl, hold_eql_u32 rfl rfl h5, trivial⟩ trivial

abbrev DSonce2b_17 (s : S) (all met : BitVec 32) (k : Int) : List Value := [U s.p, U s.m, U s.h0, U s.h1, U s.h2, U s.h3, U s.h4, U s.h5, U s.h6, U s.h7, U s.h8, U s.h9, U s.h10, U s.h11, U s.h12, U s.h13, U s.h14, U s.h15, U all, U met, U (s.p >>> (k : Int).toNat), U ((s.p >>> (k : Int).toNat) &&& 1#32), U (all >>> (k : Int).toNat), U ((all >>> (k : Int).toNat) &&& 1#32), U (s.m >>> (k : Int).toNat), U ((s.m >>> (k : Int).toNat) &&& 1#32)]
abbrev FSonce2b_17 (k : Int) : List Fact := [.bin .eql 22 (leaf (2 + k.toNat)) (.int .u32 1) (.bool false), .bin .eql 22 (leaf (2 + k.toNat)) (.int .u32 0) (.bool false), .bin .shr 22 (leaf 0) (.int .i64 k) (leaf 20), .bin .and 22 (leaf 20) (.int .u32 1) (leaf 21), .bin .eql 22 (leaf 21) (.int .u32 1) (.bool false), .bin .shr 22 (leaf 18) (.int .i64 k) (leaf 22), .bin .and 22 (leaf 22) (.int .u32 1) (leaf 23), .bin .eql 22 (leaf 23) (.int .u32 1) (.bool true), .bin .shr 22 (leaf 1) (.int .i64 k) (leaf 24), .bin .and 22 (leaf 24) (.int .u32 1) (leaf 25), .bin .eql 22 (leaf 25) (.int .u32 0) (.bool false)]
theorem once2b_17 {s : S} {all met : BitVec 32} {k : Int} (hk : k = 12) (h0 : (s.get k == 1#32) = false) (h1 : (s.get k == 0#32) = false) (h2 : (((s.p >>> (k : Int).toNat) &&& 1#32) == 1#32) = false) (h3 : (((all >>> (k : Int).toNat) &&& 1#32) == 1#32) = true) (h4 : (((s.m >>> (k : Int).toNat) &&& 1#32) == 0#32) = false) :
    TOk (sigOf (ds2 s all met)) (sigOf (ds2 s all met)) Try.prog 64 none B2 (hd2 k) (memB 65 bk) .normal (hd2 (k + 1)) (memB 65 bk) := by
  rcases hk with rfl
  · exact seg_ok (ds2 := DSonce2b_17 s all met 12) (len := 26) (fs := FSonce2b_17 12) (fuel := 60) (pre := 20) (npre := 20) (lm := []) (ol := [64]) (by kernel_rfl) mixed rfl rfl rfl rfl ⟨hold_eql_u32 rfl rfl h0, hold_eql_u32 rfl rfl h1, hold_shr_u32 rfl rfl rfl rfl (by decide), hold_and_u32 rfl rfl rfl rfl, hold_eql_u32 rfl rfl h2, hold_shr_u32 rfl rfl rfl rfl (by decide), hold_and_u32 rfl rfl rfl rfl, hold_eql_u32 rfl rfl h3, hold_shr_u32 rfl rfl rfl rfl (by decide), hold_and_u32 rfl rfl rfl rfl, hold_eql_u32 rfl rfl h4, trivial⟩ trivial

abbrev DSonce2b_18 (s : S) (all met : BitVec 32) (k : Int) : List Value := [U s.p, U s.m, U s.h0, U s.h1, U s.h2, U s.h3, U s.h4, U s.h5, U s.h6, U s.h7, U s.h8, U s.h9, U s.h10, U s.h11, U s.h12, U s.h13, U s.h14, U s.h15, U all, U met, U (s.p >>> (k : Int).toNat), U ((s.p >>> (k : Int).toNat) &&& 1#32), U (all >>> (k : Int).toNat), U ((all >>> (k : Int).toNat) &&& 1#32)]
abbrev FSonce2b_18 (k : Int) : List Fact := [.bin .eql 22 (leaf (2 + k.toNat)) (.int .u32 1) (.bool false), .bin .eql 22 (leaf (2 + k.toNat)) (.int .u32 0) (.bool false), .bin .shr 22 (leaf 0) (.int .i64 k) (leaf 20), .bin .and 22 (leaf 20) (.int .u32 1) (leaf 21), .bin .eql 22 (leaf 21) (.int .u32 1) (.bool false), .bin .shr 22 (leaf 18) (.int .i64 k) (leaf 22), .bin .and 22 (leaf 22) (.int .u32 1) (leaf 23), .bin .eql 22 (leaf 23) (.int .u32 1) (.bool false)]
theorem once2b_18 {s : S} {all met : BitVec 32} {k : Int} (hk : k = 12) (h0 : (s.get k == 1#32) = false) (h1 : (s.get k == 0#32) = false) (h2 : (((s.p >>> (k : Int).toNat) &&& 1#32) == 1#32) = false) (h3 : (((all >>> (k : Int).toNat) &&& 1#32) == 1#32) = false) :
    TOk (sigOf (ds2 s all met)) (sigOf (ds2 s all met)) Try.prog 64 none B2 (hd2 k) (memB 65 bk) .normal (hd2 (k + 1)) (memB 65 bk) := by
  rcases hk with rfl
  · exact seg_ok (ds2 := DSonce2b_18 s all met 12) (len := 24) (fs := FSonce2b_18 12) (fuel := 60) (pre := 20) (npre := 20) (lm := []) (ol := [64]) (by kernel_rfl) mixed rfl rfl rfl rfl ⟨hold_eql_u32 rfl rfl h0, hold_eql_u32 rfl rfl h1, hold_shr_u32 rfl rfl rfl rfl (by decide), hold_and_u32 rfl rfl rfl rfl, hold_eql_u32 rfl rfl h2, hold_shr_u32 rfl rfl rfl rfl (by decide), hold_and_u32 rfl rfl rfl rfl, hold_eql_u32 rfl rfl h3, trivial⟩ trivial

theorem two_end {s : S} {all met : BitVec 32} : TOk (sigOf (ds2 s all met)) (sigOf (ds2 s all met)) Try.prog 64 none B2 (hd2 16) (memB 65 bk) (.exit 2) hdE (memB 65 bk) :=
  seg_ok (ds2 := ds2 s all met) (len := 20) (fs := []) (fuel := 60) (pre := 20) (npre := 20) (lm := []) (ol := [64]) (by kernel_rfl) mixed rfl rfl rfl rfl trivial trivial

theorem two {s : S} {all met : BitVec 32} {k : Int} (hk1 : 1 ≤ k) (hk2 : k ≤ 15) (c1 : (((s.p >>> (k : Int).toNat) &&& 1#32) == 1#32) = true → (((s.m >>> (k : Int).toNat) &&& 1#32) == 0#32) = true → False)
    (c2 : (((all >>> (k : Int).toNat) &&& 1#32) == 1#32) = true → (((s.m >>> (k : Int).toNat) &&& 1#32) == 0#32) = true → (((met >>> (k : Int).toNat) &&& 1#32) == 0#32) = true → (s.get k == 1#32) = false → ((s.get k == 0#32) = false ∨ k ≠ 12) → False) :
    TOk (sigOf (ds2 s all met)) (sigOf (ds2 s all met)) Try.prog 64 none B2 (hd2 k) (memB 65 bk) .normal (hd2 (k + 1)) (memB 65 bk) := by
  by_cases h12 : k = 12
  · have hk : k = 12 := h12
    cases g0 : (s.get k == 1#32) with
    | true =>
      cases g1 : (((s.p >>> (k : Int).toNat) &&& 1#32) == 1#32) with
      | true =>
        cases g2 : (((s.m >>> (k : Int).toNat) &&& 1#32) == 0#32) with
        | true =>
          exact (c1 g1 g2).elim
        | false =>
          cases g3 : (((all >>> (k : Int).toNat) &&& 1#32) == 1#32) with
          | true =>
            exact once2b_1 hk g0 g1 g2 g3
          | false =>
            exact once2b_2 hk g0 g1 g2 g3
      | false =>
        cases g2 : (((all >>> (k : Int).toNat) &&& 1#32) == 1#32) with
        | true =>
          cases g3 : (((s.m >>> (k : Int).toNat) &&& 1#32) == 0#32) with
          | true =>
            exact once2b_3 hk g0 g1 g2 g3
          | false =>
            exact once2b_4 hk g0 g1 g2 g3
        | false =>
          exact once2b_5 hk g0 g1 g2
    | false =>
      cases g1 : (s.get k == 0#32) with
      | true =>
        cases g2 : (((s.p >>> (k : Int).toNat) &&& 1#32) == 1#32) with
        | true =>
          cases g3 : (((s.m >>> (k : Int).toNat) &&& 1#32) == 0#32) with
          | true =>
            exact (c1 g2 g3).elim
          | false =>
            cases g4 : (((all >>> (k : Int).toNat) &&& 1#32) == 1#32) with
            | true =>
              exact once2b_7 hk g0 g1 g2 g3 g4
            | false =>
              exact once2b_8 hk g0 g1 g2 g3 g4
        | false =>
          cases g3 : (((all >>> (k : Int).toNat) &&& 1#32) == 1#32) with
          | true =>
            cases g4 : (((s.m >>> (k : Int).toNat) &&& 1#32) == 0#32) with
            | true =>
              exact once2b_9 hk g0 g1 g2 g3 g4
            | false =>
              exact once2b_10 hk g0 g1 g2 g3 g4
          | false =>
            exact once2b_11 hk g0 g1 g2 g3
      | false =>
        cases g2 : (((s.p >>> (k : Int).toNat) &&& 1#32) == 1#32) with
        | true =>
          cases g3 : (((s.m >>> (k : Int).toNat) &&& 1#32) == 0#32) with
          | true =>
            exact (c1 g2 g3).elim
          | false =>
            cases g4 : (((all >>> (k : Int).toNat) &&& 1#32) == 1#32) with
            | true =>
              exact once2b_13 hk g0 g1 g2 g3 g4
            | false =>
              exact once2b_14 hk g0 g1 g2 g3 g4
        | false =>
          cases g3 : (((all >>> (k : Int).toNat) &&& 1#32) == 1#32) with
          | true =>
            cases g4 : (((s.m >>> (k : Int).toNat) &&& 1#32) == 0#32) with
            | true =>
              cases g5 : (((met >>> (k : Int).toNat) &&& 1#32) == 0#32) with
              | true =>
                exact (c2 g3 g4 g5 g0 (.inl g1)).elim
              | false =>
                exact once2b_16 hk g0 g1 g2 g3 g4 g5
            | false =>
              exact once2b_17 hk g0 g1 g2 g3 g4
          | false =>
            exact once2b_18 hk g0 g1 g2 g3
  · have hk : k = 1 ∨ k = 2 ∨ k = 3 ∨ k = 4 ∨ k = 5 ∨ k = 6 ∨ k = 7 ∨ k = 8 ∨ k = 9 ∨ k = 10 ∨ k = 11 ∨ k = 13 ∨ k = 14 ∨ k = 15 := by omega
    cases g0 : (s.get k == 1#32) with
    | true =>
      cases g1 : (((s.p >>> (k : Int).toNat) &&& 1#32) == 1#32) with
      | true =>
        cases g2 : (((s.m >>> (k : Int).toNat) &&& 1#32) == 0#32) with
        | true =>
          exact (c1 g1 g2).elim
        | false =>
          cases g3 : (((all >>> (k : Int).toNat) &&& 1#32) == 1#32) with
          | true =>
            exact once2a_1 hk g0 g1 g2 g3
          | false =>
            exact once2a_2 hk g0 g1 g2 g3
      | false =>
        cases g2 : (((all >>> (k : Int).toNat) &&& 1#32) == 1#32) with
        | true =>
          cases g3 : (((s.m >>> (k : Int).toNat) &&& 1#32) == 0#32) with
          | true =>
            exact once2a_3 hk g0 g1 g2 g3
          | false =>
            exact once2a_4 hk g0 g1 g2 g3
        | false =>
          exact once2a_5 hk g0 g1 g2
    | false =>
      cases g1 : (s.get k == 0#32) with
      | true =>
        cases g2 : (((s.p >>> (k : Int).toNat) &&& 1#32) == 1#32) with
        | true =>
          cases g3 : (((s.m >>> (k : Int).toNat) &&& 1#32) == 0#32) with
          | true =>
            exact (c1 g2 g3).elim
          | false =>
            cases g4 : (((all >>> (k : Int).toNat) &&& 1#32) == 1#32) with
            | true =>
              exact once2a_7 hk g0 g1 g2 g3 g4
            | false =>
              exact once2a_8 hk g0 g1 g2 g3 g4
        | false =>
          cases g3 : (((all >>> (k : Int).toNat) &&& 1#32) == 1#32) with
          | true =>
            cases g4 : (((s.m >>> (k : Int).toNat) &&& 1#32) == 0#32) with
            | true =>
              cases g5 : (((met >>> (k : Int).toNat) &&& 1#32) == 0#32) with
              | true =>
                exact (c2 g3 g4 g5 g0 (.inr h12)).elim
              | false =>
                exact once2a_10 hk g0 g1 g2 g3 g4 g5
            | false =>
              exact once2a_11 hk g0 g1 g2 g3 g4
          | false =>
            exact once2a_12 hk g0 g1 g2 g3
      | false =>
        cases g2 : (((s.p >>> (k : Int).toNat) &&& 1#32) == 1#32) with
        | true =>
          cases g3 : (((s.m >>> (k : Int).toNat) &&& 1#32) == 0#32) with
          | true =>
            exact (c1 g2 g3).elim
          | false =>
            cases g4 : (((all >>> (k : Int).toNat) &&& 1#32) == 1#32) with
            | true =>
              exact once2a_14 hk g0 g1 g2 g3 g4
            | false =>
              exact once2a_15 hk g0 g1 g2 g3 g4
        | false =>
          cases g3 : (((all >>> (k : Int).toNat) &&& 1#32) == 1#32) with
          | true =>
            cases g4 : (((s.m >>> (k : Int).toNat) &&& 1#32) == 0#32) with
            | true =>
              cases g5 : (((met >>> (k : Int).toNat) &&& 1#32) == 0#32) with
              | true =>
                exact (c2 g3 g4 g5 g0 (.inl g1)).elim
              | false =>
                exact once2a_17 hk g0 g1 g2 g3 g4 g5
            | false =>
              exact once2a_18 hk g0 g1 g2 g3 g4
          | false =>
            exact once2a_19 hk g0 g1 g2 g3
end
end Go.Proofs.Ythpncefkklojlaa.signalOnce
