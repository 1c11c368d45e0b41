/- The plain law of FnExactIsDesk: the program's answer is the reference's. No conditions beyond those that each lemma states. -/
import Derived.Test.YtgebhhhdckpciaaPureBase
set_option linter.unusedVariables false
set_option linter.unusedSimpArgs false
namespace Go.Proofs.Ytgebhhhdckpciaa
open Go Go.RowKit Ab

theorem toDesk_eq (k : Nat) (h : 137 ≤ k) (x : Desk) : laws_toDesk k x = some x := by
  unfold laws_toDesk
  rw [toColouring_eq k h, toColouring_eq k h]; rfl

theorem desk_pure (x : Desk) : laws_FnExactIsDesk 200 x = some true := by
  classical
  unfold laws_FnExactIsDesk spec_IsDesk impl_IsDesk impl_Desk_isDesk
  rw [toDesk_eq 200 (by omega)]
  simp only [Option.bind_some]
  rw [specIs_eq 200 (by omega), specIs_eq 200 (by omega), isColouring_eq 200 (by omega), isColouring_eq 200 (by omega)]
  by_cases h : x.f.is <;> by_cases h' : x.s.is <;> simp [h, h']
end Go.Proofs.Ytgebhhhdckpciaa
