/- Own library: slices.Clone over whole numbers, at this program's numbers. No conditions. -/
import Derived.Test.YtkonbaijkcaehaaGreatDoorSr
import Derived.Test.YtkonbaijkcaehaaGreatDoorGenC
import Derived.WalkKit
import Derived.OwnWalkIn
import Derived.TacticsInMore
set_option linter.unusedVariables false
set_option linter.unusedSimpArgs false
namespace Go.Proofs
open Go.RowKit

end Go.Proofs

namespace Go.Proofs.YtkonbaijkcaehaaGreatDoor
open Go Go.RowKit Ab

def cloneA (zs : List Int) : Option (List Int) := if zs.length ≤ 1099511627776 then some zs else none

theorem cloneA_ac (zs r : List Int) (hz : zs.isEmpty = false) (h : cloneA zs = some r) : AC Tryz.prog 152 [.d (.sl none (intsD zs))] [] (fun res H' => res = [.vec 0 0] ∧ H' = [.vec 0 (intsD r)]) := by
  unfold cloneA at h
  split at h
  case isFalse => cases h
  rename_i hlen
  cases h
  have hne : intsD zs ≠ [] := by
    cases zs with
    | nil => cases hz
    | cons a l => simp [intsD]
  intro F w r xs hh hxs
  obtain ⟨x, rfl⟩ : ∃ x, xs = #[x] := by
    have := hxs.1
    cases xs with
    | mk l => match l, this with
      | [x], _ => exact ⟨x, rfl⟩
  have hv := hxs.2 0 _ x rfl rfl
  cases hv with
  | d _ _ hd =>
    cases hd with
    | sl _ _ vs A cap hl hn hc hA hr =>
      obtain ⟨b, off, rfl, h1, h2⟩ := hA hne
      refine slices_Clone_ac zs zs (by simp [slices_Clone, hlen]) F w r _ hh ⟨rfl, fun i a v e1 e2 => ?_⟩
      cases i with
      | succ i => simp at e1
      | zero =>
        simp at e1 e2
        subst e1; subst e2
        exact .d _ _ (.sl (some false) _ vs _ cap hl (fun b hb => by cases hb; rfl) hc hA hr)
end Go.Proofs.YtkonbaijkcaehaaGreatDoor
