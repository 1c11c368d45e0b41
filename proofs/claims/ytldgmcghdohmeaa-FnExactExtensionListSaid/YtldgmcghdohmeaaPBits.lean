/- Plain Lean for the laws: sets of points as the bits of a number. No conditions beyond those that each lemma states. -/
import Derived.Test.YtldgmcghdohmeaaPKit
set_option linter.unusedVariables false
set_option linter.unusedSimpArgs false
namespace Go.Proofs.Ytldgmcghdohmeaa
open Go Go.RowKit Ab

theorem u64_id {n : Int} (h : 0 ≤ n ∧ n < 18446744073709551616) : IntKind.u64.wrap n = n := by
  have : IntKind.u64.wrap n = n % 2 ^ 64 := by simp [IntKind.wrap, IntKind.signed, IntKind.bits]
  rw [this]; omega

theorem i64_nat {n : Nat} (h : n < 2 ^ 63) : IntKind.i64.wrap (n : Int) = n := by
  have := w64_id (n := (n : Int)) (by omega)
  exact this

theorem ofInt_nat {n : Nat} (h : n < 2 ^ 63) : (BitVec.ofInt 64 (n : Int)).toNat = n := by
  rw [BitVec.ofInt_natCast, BitVec.toNat_ofNat]; omega

theorem bOr_nat {a b : Nat} (ha : a < 2 ^ 63) (hb : b < 2 ^ 63) : bOr .i64 (a : Int) (b : Int) = ((a ||| b : Nat) : Int) := by
  unfold bOr
  have e : (BitVec.ofInt IntKind.i64.bits (a : Int) ||| BitVec.ofInt IntKind.i64.bits (b : Int)).toNat = a ||| b := by
    show (BitVec.ofInt 64 (a : Int) ||| BitVec.ofInt 64 (b : Int)).toNat = a ||| b
    rw [BitVec.toNat_or, ofInt_nat ha, ofInt_nat hb]
  rw [e]
  exact i64_nat (Nat.or_lt_two_pow ha hb)

theorem bAnd_nat {a b : Nat} (ha : a < 2 ^ 63) (hb : b < 2 ^ 63) : bAnd .i64 (a : Int) (b : Int) = ((a &&& b : Nat) : Int) := by
  unfold bAnd
  have e : (BitVec.ofInt IntKind.i64.bits (a : Int) &&& BitVec.ofInt IntKind.i64.bits (b : Int)).toNat = a &&& b := by
    show (BitVec.ofInt 64 (a : Int) &&& BitVec.ofInt 64 (b : Int)).toNat = a &&& b
    rw [BitVec.toNat_and, ofInt_nat ha, ofInt_nat hb]
  rw [e]
  exact i64_nat (Nat.lt_of_le_of_lt Nat.and_le_left ha)

theorem bShl_one {i : Nat} (h : i < 63) : bShl .i64 1 (i : Int) = ((2 ^ i : Nat) : Int) := by
  unfold bShl
  have e : min ((i : Int).toNat) IntKind.i64.bits = i := by
    show min ((i : Int).toNat) 64 = i
    omega
  rw [e, Int.one_mul]
  have : ((2 : Int) ^ i) = ((2 ^ i : Nat) : Int) := by simp
  rw [this]
  exact i64_nat (Nat.pow_lt_pow_right (by omega) h)

theorem bShr_nat {a i : Nat} (h : i ≤ 64) : bShr .i64 (a : Int) (i : Int) = ((a >>> i : Nat) : Int) := by
  unfold bShr
  have e : min ((i : Int).toNat) IntKind.i64.bits = i := by
    show min ((i : Int).toNat) 64 = i
    omega
  rw [e]
  have : ((2 : Int) ^ i) = ((2 ^ i : Nat) : Int) := by simp
  rw [this, ← Int.ofNat_fdiv, Nat.shiftRight_eq_div_pow]

/-- A bit, as the program asks for it. -/
theorem bit_eq {a i : Nat} (ha : a < 2 ^ 63) (h : i ≤ 64) : bAnd .i64 (bShr .i64 (a : Int) (i : Int)) 1 = if a.testBit i then 1 else 0 := by
  rw [bShr_nat h]
  have h1 : a >>> i < 2 ^ 63 := Nat.lt_of_le_of_lt (Nat.shiftRight_le a i) ha
  have := bAnd_nat (a := a >>> i) (b := 1) h1 (by decide)
  rw [show ((1 : Int)) = ((1 : Nat) : Int) from rfl, this, Nat.and_one_is_mod]
  have e : a.testBit i = decide ((a >>> i) % 2 = 1) := by
    simp [Nat.testBit, Nat.and_comm 1, Nat.and_one_is_mod]
  rw [e]
  rcases Nat.mod_two_eq_zero_or_one (a >>> i) with h | h <;> simp [h]

/-- A set with one more. -/
theorem add_bit {s i : Nat} (j : Nat) : (s ||| 2 ^ i).testBit j = (s.testBit j || decide (i = j)) := by
  rw [Nat.testBit_or, Nat.testBit_two_pow]

theorem bits_lt {s n : Nat} (h : ∀ i, n ≤ i → s.testBit i = false) : s < 2 ^ n := by
  exact Nat.lt_pow_two_of_testBit s h

theorem bits_eq {s t : Nat} (h : ∀ i, s.testBit i = t.testBit i) : s = t := Nat.eq_of_testBit_eq h
end Go.Proofs.Ytldgmcghdohmeaa
