/- The law FnExactComponentsOf answers true. No conditions. -/
import Derived.Test.YtmmiokljmfkoiaaPureComp
import Derived.Test.YtmmiokljmfkoiaaCompsW
namespace Go.Proofs.Ytmmiokljmfkoiaa
open Go Go.RowKit Ab

theorem comps_ac (x : Col) (c : Int) : AC Try.prog 3 [.d (.agg (colD x)), iV c] [] (fun res H' => res = [bV true] ∧ H' = []) := by
  rcases comps_pure x c with h | ⟨T, T', far, m, h1, h2, h3, h4, h5, h6, h7, h8⟩
  · exact laws_FnExactComponentsOf_ac 300 x c true h
  · exact law_ac 300 x x c T T' far m h1 h2 h3 h4 h5 h6 h7 h8
end Go.Proofs.Ytmmiokljmfkoiaa
