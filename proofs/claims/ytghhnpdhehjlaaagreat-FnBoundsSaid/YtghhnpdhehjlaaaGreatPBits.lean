/- Plain Lean for the laws: sets of points as the bits of a number. No conditions beyond those that each lemma states. -/
import Derived.Test.YtghhnpdhehjlaaaGreatPKit
set_option linter.unusedVariables false
set_option linter.unusedSimpArgs false
namespace Go.Proofs.YtghhnpdhehjlaaaGreat
open Go Go.RowKit Ab

theorem u64_id {n : Int} (h : 0 ≤ n ∧ n < 18446744073709551616) : IntKind.u64.wrap n = n := by
  have : IntKind.u64.wrap n = n % 2 ^ 64 := by simp [IntKind.wrap, IntKind.signed, IntKind.bits]
  rw [this]; omega

theorem i64_nat {n : Nat} (h : n < 2 ^ 63) : IntKind.i64.wrap (n : Int) = n := by
  have := w64_id (n := (n : Int)) (by omega)
  exact this

theorem ofInt_nat {n : Nat} (h : n < 2 ^ 63) : (BitVec.ofInt 64 (n : Int)).toNat = n := by
  rw [BitVec.ofInt_natCast, BitVec.toNat_ofNat]; omega

theorem bXor_nat {a b : Nat} (ha : a < 2 ^ 63) (hb : b < 2 ^ 63) : bXor .i64 (a : Int) (b : Int) = ((a ^^^ b : Nat) : Int) := by
  unfold bXor
  have e : (BitVec.ofInt IntKind.i64.bits (a : Int) ^^^ BitVec.ofInt IntKind.i64.bits (b : Int)).toNat = a ^^^ b := by
    show (BitVec.ofInt 64 (a : Int) ^^^ BitVec.ofInt 64 (b : Int)).toNat = a ^^^ b
    rw [BitVec.toNat_xor, ofInt_nat ha, ofInt_nat hb]
  rw [e]
  exact i64_nat (Nat.xor_lt_two_pow ha hb)

end Go.Proofs.YtghhnpdhehjlaaaGreat
