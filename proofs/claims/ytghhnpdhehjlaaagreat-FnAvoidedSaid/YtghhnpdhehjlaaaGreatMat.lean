/- Plain Lean for the laws: the greatest number of edges of a matching, point by point. No program in sight. No conditions beyond those that each lemma states. -/
import Derived.Test.YtghhnpdhehjlaaaGreatClqB
set_option linter.unusedVariables false
set_option linter.unusedSimpArgs false
namespace Go.Proofs.YtghhnpdhehjlaaaGreat
open Go Go.RowKit Ab

/-! ### Bits -/
def off (s i : Nat) : Nat := s ^^^ 2 ^ i
theorem filter_ne_length {l : List Int} (hn : l.Nodup) {j : Int} (hj : j ∈ l) : (l.filter fun z => !decide (z = j)).length = l.length - 1 := by
  have e : (l.filter fun z => !decide (z = j)) = l.erase j := by
    rw [hn.erase_eq_filter]
    refine List.filter_congr fun z _ => ?_
    by_cases h : z = j <;> simp [h]
  rw [e, List.length_erase_of_mem hj]

end Go.Proofs.YtghhnpdhehjlaaaGreat
