/- Plain Lean for the laws: sums over points, triples of points and their colours. No program in sight. No conditions beyond those that each lemma states. -/
import Derived.Test.YtghhnpdhehjlaaaGreatClqB
set_option linter.unusedVariables false
set_option linter.unusedSimpArgs false
namespace Go.Proofs.YtghhnpdhehjlaaaGreat
open Go Go.RowKit Ab

def io (b : Bool) : Int := if b then 1 else 0
section
variable (adj : Int → Int → Bool) (hs : ∀ a b, adj a b = adj b a) (hi : ∀ a, adj a a = false)
include hs hi

end

/-! ### Colours of pairs -/
section
variable (co : Int → Int → Int) (hc : ∀ a b, co a b = co b a) (n k : Nat) (hr : ∀ a b : Nat, a < n → b < n → a ≠ b → 0 ≤ co a b ∧ co a b < k)
/-- Joined in a colour. -/
def ad (co : Int → Int → Int) (c a b : Int) : Bool := decide (a ≠ b ∧ co a b = c)
/-- Three different points. -/
def d3 (a b c : Nat) : Bool := decide (a ≠ b) && (decide (a ≠ c) && decide (b ≠ c))

include hr
/-- Angles at a point with two colours. -/
def W (co : Int → Int → Int) (a b c : Nat) : Int := io (d3 a b c && !decide (co a b = co a c))
include hc
end
end Go.Proofs.YtghhnpdhehjlaaaGreat
