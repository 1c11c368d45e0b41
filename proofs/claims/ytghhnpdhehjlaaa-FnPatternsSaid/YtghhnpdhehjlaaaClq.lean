/- Plain Lean for the laws: cliques of a graph on a list of points, in order. No program in sight. No conditions beyond those that each lemma states. -/
import Derived.Test.YtghhnpdhehjlaaaPBits
set_option linter.unusedVariables false
set_option linter.unusedSimpArgs false
namespace Go.Proofs.Ytghhnpdhehjlaaa
open Go Go.RowKit Ab

section
variable (adj : Int → Int → Bool)

/-- Induction over lists by length. -/
theorem len_ind {P : List Int → Prop} (h : ∀ l, (∀ t, t.length < l.length → P t) → P l) (l : List Int) : P l := by
  have : ∀ n (l : List Int), l.length = n → P l := by
    intro n
    induction n using Nat.strongRecOn with
    | _ n ih => exact fun l e => h l fun t ht => ih t.length (by omega) t rfl
  exact this _ l rfl

end

end Go.Proofs.Ytghhnpdhehjlaaa
