/- Plain Lean for the laws: the greatest number of edges of a matching, point by point. No program in sight. No conditions beyond those that each lemma states. -/
import Derived.Test.YtghhnpdhehjlaaaClqB
set_option linter.unusedVariables false
set_option linter.unusedSimpArgs false
namespace Go.Proofs.Ytghhnpdhehjlaaa
open Go Go.RowKit Ab

/-! ### Bits -/
def off (s i : Nat) : Nat := s ^^^ 2 ^ i
theorem off_test {s i : Nat} (h : s.testBit i = true) (j : Nat) : (off s i).testBit j = (s.testBit j && !decide (j = i)) := by
  unfold off
  rw [Nat.testBit_xor, Nat.testBit_two_pow]
  by_cases e : i = j
  · subst e; simp [h]
  · have : ¬ j = i := fun h => e h.symm
    simp [e, this]
theorem off_mem {s i p n : Nat} (h : s.testBit i = true) : mem (off s i) p n = (mem s p n).filter fun z => !decide (z = (i : Int)) := by
  refine mem_flt fun j _ _ => ?_
  rw [off_test h]
  congr 2
  by_cases e : j = i
  · subst e; simp
  · have : ¬ (j : Int) = i := by omega
    simp [e, this]
theorem mem_zero (n : Nat) : mem 0 0 n = [] := by
  unfold mem
  refine List.filter_eq_nil_iff.2 fun a _ => by simp
theorem mem_pw (s p n : Nat) : (mem s p n).Pairwise (· < ·) := (ir_pw p n).filter _
theorem mem_nodup (s p n : Nat) : (mem s p n).Nodup := (mem_pw s p n).imp fun h => by omega
theorem filter_ne_length {l : List Int} (hn : l.Nodup) {j : Int} (hj : j ∈ l) : (l.filter fun z => !decide (z = j)).length = l.length - 1 := by
  have e : (l.filter fun z => !decide (z = j)) = l.erase j := by
    rw [hn.erase_eq_filter]
    refine List.filter_congr fun z _ => ?_
    by_cases h : z = j <;> simp [h]
  rw [e, List.length_erase_of_mem hj]

end Go.Proofs.Ytghhnpdhehjlaaa
