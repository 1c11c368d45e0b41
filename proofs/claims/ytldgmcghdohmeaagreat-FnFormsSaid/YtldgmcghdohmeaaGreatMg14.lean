/- Plain Lean for the laws: loops that count up, whole numbers of 64 bits, edges' numbers. No program in sight. No conditions. -/
import Derived.Test.YtldgmcghdohmeaaGreatCol
set_option linter.unusedSimpArgs false
set_option linter.unusedVariables false
namespace Go.Proofs.YtldgmcghdohmeaaGreat
open Go Go.RowKit Ab

theorem w64_id {n : Int} (h : -9223372036854775808 ≤ n ∧ n < 9223372036854775808) : w64 n = n := by
  show IntKind.i64.wrap n = n
  rw [IntKind.wrap_i64]; omega
theorem w64_succ {n m : Int} (h0 : 0 ≤ n) (h : n < m) (hm : m ≤ 9223372036854775807) : w64 (n + 1) = n + 1 := w64_id (by omega)
open Classical in
/-- A loop that looks for the first place where Q fails. -/
theorem loopAll {ρ : Type} (f : Nat → Int → Option (Sum Unit ρ)) (n : Int) (bad : ρ) (Q : Int → Prop) (a : Int)
    (hok : ∀ k i, a ≤ i → i < n → Q i → f (k + 1) i = f k (i + 1)) (hbad : ∀ k i, a ≤ i → i < n → ¬ Q i → f (k + 1) i = some (.inr bad))
    (hfin : ∀ k i, n ≤ i → f (k + 1) i = some (.inl ())) :
    ∀ k i, a ≤ i → (n - i).toNat < k → f k i = some (if ∀ j, i ≤ j → j < n → Q j then .inl () else .inr bad) := by
  intro k
  induction k with
  | zero => intro i h0 h; omega
  | succ k ih =>
    intro i h0 h
    by_cases hi : i < n
    · by_cases hq : Q i
      · rw [hok k i h0 hi hq, ih (i + 1) (by omega) (by omega)]
        congr 1
        have : (∀ j, i + 1 ≤ j → j < n → Q j) ↔ (∀ j, i ≤ j → j < n → Q j) := by
          constructor
          · intro h j h1 h2
            by_cases e : j = i
            · subst e; exact hq
            · exact h j (by omega) h2
          · intro h j h1 h2; exact h j (by omega) h2
        simp only [this]
      · rw [hbad k i h0 hi hq, if_neg]
        intro h; exact hq (h i (by omega) hi)
    · rw [hfin k i (by omega), if_pos]
      intro j h1 h2; omega

/-- A loop with a state and exits. -/
theorem loopI {α σ : Type} (f : Nat → Int → σ → Option α) (n a : Int) (Inv : Int → σ → Prop) (Post : α → Prop)
    (hstep : ∀ k i s, a ≤ i → i < n → Inv i s → (∃ s', f (k + 1) i s = f k (i + 1) s' ∧ Inv (i + 1) s') ∨ (∃ r, f (k + 1) i s = some r ∧ Post r))
    (hfin : ∀ k i s, a ≤ i → n ≤ i → Inv i s → ∃ r, f (k + 1) i s = some r ∧ Post r) :
    ∀ k i s, a ≤ i → (n - i).toNat < k → Inv i s → ∃ r, f k i s = some r ∧ Post r := by
  intro k
  induction k with
  | zero => intro i s h0 h; omega
  | succ k ih =>
    intro i s h0 h hs
    by_cases hi : i < n
    · rcases hstep k i s h0 hi hs with ⟨s', e, hs'⟩ | h
      · rw [e]; exact ih (i + 1) s' (by omega) (by omega) hs'
      · exact h
    · exact hfin k i s h0 (by omega) hs

/-! ### Edges -/
/-- The number of the edge of two points. -/
def eN (i j : Nat) : Nat := if j < i then i * (i - 1) / 2 + j else j * (j - 1) / 2 + i
def tri (n : Nat) : Nat := n * (n - 1) / 2
theorem eN_comm (i j : Nat) : eN i j = eN j i := by
  unfold eN
  by_cases h : j < i
  · rw [if_pos h, if_neg (by omega)]
  · by_cases h' : i < j
    · rw [if_neg h, if_pos h']
    · have : i = j := by omega
      subst this; rfl
theorem eN_lt {i j n : Nat} (h : i < j) (hj : j < n) (hn : n ≤ 17) : eN i j < tri n := by
  have : ∀ n, n ≤ 17 → ∀ j, j < n → ∀ i, i < j → eN i j < tri n := by decide +kernel
  exact this n hn j hj i h
theorem tri_le {n : Nat} (h : n ≤ 17) : tri n ≤ 136 := by
  have : ∀ n, n ≤ 17 → tri n ≤ 136 := by decide +kernel
  exact this n h
theorem eN_136 {i j : Nat} (h : i ≠ j) (hi : i < 17) (hj : j < 17) : eN i j < 136 := by
  have : ∀ i, i < 17 → ∀ j, j < 17 → i ≠ j → eN i j < 136 := by decide +kernel
  exact this i hi j hj h
/-- The greater point of an edge. -/
def eHi (e : Nat) : Nat := ((List.range 16).filter fun t => decide (tri (t + 1) ≤ e)).length
theorem eN_inj {i j a b : Nat} (h : i < j) (hj : j < 17) (h' : a < b) (hb : b < 17) (e : eN i j = eN a b) : i = a ∧ j = b := by
  have this : ∀ j i : Fin 17, i.val < j.val → eHi (eN i.val j.val) = j.val := by decide +kernel
  have h1 := this ⟨j, hj⟩ ⟨i, by omega⟩ h
  have h2 := this ⟨b, hb⟩ ⟨a, by omega⟩ h'
  simp only at h1 h2
  rw [e, h2] at h1
  subst h1
  unfold eN at e
  rw [if_neg (by omega), if_neg (by omega)] at e
  exact ⟨by omega, rfl⟩
theorem eN_surj {n e : Nat} (hn : n ≤ 17) (h : e < tri n) : ∃ j, j < n ∧ ∃ i, i < j ∧ e = eN i j := by
  have : ∀ n, n ≤ 17 → ∀ e, e < tri n → ∃ j, j < n ∧ ∃ i, i < j ∧ e = eN i j := by decide +kernel
  exact this n hn e h
/-- The colour between two points. -/
def Col.c (x : Col) (i j : Nat) : UInt8 := x.e.get (eN i j)
theorem B136.get_set (x : B136) (i j : Nat) (b : UInt8) (hi : i < 136) : (x.set i b).get j = if j = i then b else x.get j := by
  unfold B136.set B136.get
  simp only [List.getD, List.getElem?_set, x.h, hi]
  by_cases h : i = j
  · subst h; simp
  · rw [if_neg h, if_neg (fun e => h e.symm)]
theorem B136.ext_get {x y : B136} (h : ∀ i, i < 136 → x.get i = y.get i) : x = y := by
  apply B136.ext'
  refine List.ext_getElem (by rw [x.h, y.h]) ?_
  intro i h1 h2
  have := h i (by rw [← x.h]; exact h1)
  simpa [B136.get, List.getD, h1, h2] using this
theorem B136.get_zero (i : Nat) : B136.zero.get i = 0 := by
  show (List.replicate 136 (0 : UInt8)).getD i 0 = 0
  rw [List.getD_eq_getElem?_getD, List.getElem?_replicate]
  split <;> rfl
theorem B136.set_get (x : B136) (i : Nat) : x.set i (x.get i) = x := by
  by_cases hi : i < 136
  · apply B136.ext_get
    intro j hj
    rw [B136.get_set _ _ _ _ hi]
    split
    · next h => rw [h]
    · rfl
  · apply B136.ext'
    unfold B136.set
    simp only [List.set_eq_of_length_le (show x.l.length ≤ i by rw [x.h]; omega)]
theorem nat_of {n : Int} (h : 0 ≤ n) : ∃ m : Nat, n = m := ⟨n.toNat, by omega⟩

theorem u8_zero {b : UInt8} : (b.toNat : Int) = 0 ↔ b = 0 := by
  constructor
  · intro h; exact UInt8.toNat_inj.1 (by have : b.toNat = 0 := by omega
                                         rw [this]; rfl)
  · intro h; subst h; rfl
end Go.Proofs.YtldgmcghdohmeaaGreat

namespace Go.Proofs.YtldgmcghdohmeaaGreat
open Go Go.RowKit Ab

theorem u64_id {n : Int} (h : 0 ≤ n ∧ n < 18446744073709551616) : IntKind.u64.wrap n = n := by
 have : IntKind.u64.wrap n = n % 2 ^ 64 := by simp [IntKind.wrap, IntKind.signed, IntKind.bits]
 rw [this]; omega

theorem i64_nat {n : Nat} (h : n < 2 ^ 63) : IntKind.i64.wrap (n : Int) = n := by
 have := w64_id (n := (n : Int)) (by omega)
 exact this

theorem ofInt_nat {n : Nat} (h : n < 2 ^ 63) : (BitVec.ofInt 64 (n : Int)).toNat = n := by
 rw [BitVec.ofInt_natCast, BitVec.toNat_ofNat]; omega

theorem bOr_nat {a b : Nat} (ha : a < 2 ^ 63) (hb : b < 2 ^ 63) : bOr .i64 (a : Int) (b : Int) = ((a ||| b : Nat) : Int) := by
 unfold bOr
 have e : (BitVec.ofInt IntKind.i64.bits (a : Int) ||| BitVec.ofInt IntKind.i64.bits (b : Int)).toNat = a ||| b := by
  show (BitVec.ofInt 64 (a : Int) ||| BitVec.ofInt 64 (b : Int)).toNat = a ||| b
  rw [BitVec.toNat_or, ofInt_nat ha, ofInt_nat hb]
 rw [e]
 exact i64_nat (Nat.or_lt_two_pow ha hb)

theorem bAnd_nat {a b : Nat} (ha : a < 2 ^ 63) (hb : b < 2 ^ 63) : bAnd .i64 (a : Int) (b : Int) = ((a &&& b : Nat) : Int) := by
 unfold bAnd
 have e : (BitVec.ofInt IntKind.i64.bits (a : Int) &&& BitVec.ofInt IntKind.i64.bits (b : Int)).toNat = a &&& b := by
  show (BitVec.ofInt 64 (a : Int) &&& BitVec.ofInt 64 (b : Int)).toNat = a &&& b
  rw [BitVec.toNat_and, ofInt_nat ha, ofInt_nat hb]
 rw [e]
 exact i64_nat (Nat.lt_of_le_of_lt Nat.and_le_left ha)

theorem bShl_one {i : Nat} (h : i < 63) : bShl .i64 1 (i : Int) = ((2 ^ i : Nat) : Int) := by
 unfold bShl
 have e : min ((i : Int).toNat) IntKind.i64.bits = i := by
  show min ((i : Int).toNat) 64 = i
  omega
 rw [e, Int.one_mul]
 have : ((2 : Int) ^ i) = ((2 ^ i : Nat) : Int) := by simp
 rw [this]
 exact i64_nat (Nat.pow_lt_pow_right (by omega) h)

theorem bShr_nat {a i : Nat} (h : i ≤ 64) : bShr .i64 (a : Int) (i : Int) = ((a >>> i : Nat) : Int) := by
 unfold bShr
 have e : min ((i : Int).toNat) IntKind.i64.bits = i := by
  show min ((i : Int).toNat) 64 = i
  omega
 rw [e]
 have : ((2 : Int) ^ i) = ((2 ^ i : Nat) : Int) := by simp
 rw [this, ← Int.ofNat_fdiv, Nat.shiftRight_eq_div_pow]

/-- A bit, as the program asks for it. -/
theorem bit_eq {a i : Nat} (ha : a < 2 ^ 63) (h : i ≤ 64) : bAnd .i64 (bShr .i64 (a : Int) (i : Int)) 1 = if a.testBit i then 1 else 0 := by
 rw [bShr_nat h]
 have h1 : a >>> i < 2 ^ 63 := Nat.lt_of_le_of_lt (Nat.shiftRight_le a i) ha
 have := bAnd_nat (a := a >>> i) (b := 1) h1 (by decide)
 rw [show ((1 : Int)) = ((1 : Nat) : Int) from rfl, this, Nat.and_one_is_mod]
 have e : a.testBit i = decide ((a >>> i) % 2 = 1) := by
  simp [Nat.testBit, Nat.and_comm 1, Nat.and_one_is_mod]
 rw [e]
 rcases Nat.mod_two_eq_zero_or_one (a >>> i) with h | h <;> simp [h]

/-- A set with one more. -/
theorem add_bit {s i : Nat} (j : Nat) : (s ||| 2 ^ i).testBit j = (s.testBit j || decide (i = j)) := by
 rw [Nat.testBit_or, Nat.testBit_two_pow]

theorem bits_lt {s n : Nat} (h : ∀ i, n ≤ i → s.testBit i = false) : s < 2 ^ n := by
 exact Nat.lt_pow_two_of_testBit s h

end Go.Proofs.YtldgmcghdohmeaaGreat
