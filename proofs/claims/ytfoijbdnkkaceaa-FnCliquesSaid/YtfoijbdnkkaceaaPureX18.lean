/- Plain laws, collected out of own texts. No conditions beyond those that each lemma states. -/
import Derived.Test.YtfoijbdnkkaceaaPKit
import Derived.Test.YtfoijbdnkkaceaaPBits
import Derived.Test.YtfoijbdnkkaceaaPureClqW18
set_option linter.unusedVariables false
set_option linter.unusedSimpArgs false
namespace Go.Proofs.Ytfoijbdnkkaceaa
open Go Go.RowKit Ab

theorem rows9_refl (k : Nat) (T : List (List Int)) (hk : T.length + 1 ≤ k) (hl : (T.length : Int) ≤ 1099511627776) (hr : ∀ l ∈ T, l.length + 1 ≤ k ∧ (l.length : Int) ≤ 1099511627776) : laws_rows9 k T T = some true := by
  unfold laws_rows9
  have := loopAll (f := fun k' i => laws_rows9_l0 k T T k' i) (T.length : Int) false (fun _ => True) 0
    (fun k' i h0 h1 _ => by
      show laws_rows9_l0 k T T (k' + 1) i = _
      have hlt : i.toNat < T.length := by omega
      have hm : T.getD i.toNat [] ∈ T := by
        have e : T.getD i.toNat [] = T[i.toNat] := by simp [List.getD, hlt]
        rw [e]; exact List.getElem_mem hlt
      rw [laws_rows9_l0, w64_succ h0 h1 (by omega), like_refl k _ (hr _ hm).1 (hr _ hm).2]
      simp [h0, h1])
    (fun k' i h0 h1 hq => (hq trivial).elim)
    (fun k' i h1 => by
      show laws_rows9_l0 k T T (k' + 1) i = _
      rw [laws_rows9_l0]
      have : ¬ i < (T.length : Int) := by omega
      simp [this]) k 0 (by omega) (by omega)
  rw [this]; simp

end Go.Proofs.Ytfoijbdnkkaceaa
