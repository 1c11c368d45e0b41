/- Own library: slices.Clone over whole numbers, at this program's numbers. No conditions. -/
import Derived.Test.YtldgmcghdohmeaaSr
import Derived.Test.YtldgmcghdohmeaaGenC
import Derived.WalkKit
import Derived.OwnWalkIn
import Derived.TacticsInMore
set_option linter.unusedVariables false
set_option linter.unusedSimpArgs false
namespace Go.Proofs
open Go.RowKit

theorem Try.eqnil_run (a : Option Addr) (l c : Nat) (w : World) : (binOp .eql 25 (.slice a l c) (.slice none 0 0)).run Try.prog w = .ok (.bool a.isNone) w := by
  have h1 := Go.Lib.run_eql_slice_nil (P := Try.prog) w 25 2 a l c 0 0 Try.underlying25
  simp [eqGuard_at_slice, h1]

set_option maxRecDepth 100000 in
set_option maxHeartbeats 1000000 in
theorem Try.clone0_in (a : Option Addr) (cap : Nat) (w : World) :
    CallsIn Fence.wide 1 Try.prog 20 #[.slice a 0 cap] w fun e w' => ∃ b, e = .returned (.slice b 0 0) ∧ Below w.heap.size w w' := by
  refine callsIn_of_wp Try.func20 rfl trivial ?_ rfl
  simp only [Try.ntmps20, List.size_toArray, List.length_cons, List.length_nil, Nat.reduceAdd, Nat.reduceSub, Array.replicate_succ, Array.replicate_zero, List.push_toArray, List.append_toArray, List.nil_append, List.cons_append]
  cases a with
  | none =>
    gi_wp2
    simp only [Try.eqnil_run, Result.andThen_ok]
    gi_wp2
    go_ret
    exact ⟨_, rfl, Below.refl _ _⟩
  | some a =>
    gi_wp2
    simp only [Try.eqnil_run, Result.andThen_ok]
    gi_wp2
    go_ret
    exact ⟨_, rfl, (Below.refl _ w).alloc (Nat.le_refl _) _⟩
end Go.Proofs

namespace Go.Proofs.Ytldgmcghdohmeaa
open Go Go.RowKit Ab

theorem cloneB_ac (zs : List Int) (hz : zs.isEmpty = true) : AC Try.prog 20 [.d (.sl none (intsD zs))] [] (fun res H' => res = [.d (.se none)] ∧ H' = []) := by
  obtain rfl : zs = [] := by
    cases zs with
    | nil => rfl
    | cons a l => cases hz
  intro F w r xs hh hxs
  obtain ⟨x, rfl⟩ : ∃ x, xs = #[x] := by
    have := hxs.1
    cases xs with
    | mk l => match l, this with
      | [x], _ => exact ⟨x, rfl⟩
  have hv := hxs.2 0 _ x rfl rfl
  cases hv with
  | d _ _ hd =>
    cases hd with
    | sl _ _ vs A cap hl hn hc hA hr =>
      refine (callsIn_wide.1 (Try.clone0_in A cap w)).mono ?_
      rintro e w' ⟨b, rfl, hb⟩
      have hst := step_of_below hh hb
      exact ⟨_, [], r, _, rfl, ⟨rfl, rfl⟩, hrel_of_below hh hb, .d _ _ (.se none b (fun _ h => by cases h)), hst⟩

def cloneA (zs : List Int) : Option (List Int) := if zs.length ≤ 1099511627776 then some zs else none

theorem cloneA_ac (zs r : List Int) (hz : zs.isEmpty = false) (h : cloneA zs = some r) : AC Try.prog 20 [.d (.sl none (intsD zs))] [] (fun res H' => res = [.vec 0 0] ∧ H' = [.vec 0 (intsD r)]) := by
  unfold cloneA at h
  split at h
  case isFalse => cases h
  rename_i hlen
  cases h
  have hne : intsD zs ≠ [] := by
    cases zs with
    | nil => cases hz
    | cons a l => simp [intsD]
  intro F w r xs hh hxs
  obtain ⟨x, rfl⟩ : ∃ x, xs = #[x] := by
    have := hxs.1
    cases xs with
    | mk l => match l, this with
      | [x], _ => exact ⟨x, rfl⟩
  have hv := hxs.2 0 _ x rfl rfl
  cases hv with
  | d _ _ hd =>
    cases hd with
    | sl _ _ vs A cap hl hn hc hA hr =>
      obtain ⟨b, off, rfl, h1, h2⟩ := hA hne
      refine slices_Clone_ac zs zs (by simp [slices_Clone, hlen]) F w r _ hh ⟨rfl, fun i a v e1 e2 => ?_⟩
      cases i with
      | succ i => simp at e1
      | zero =>
        simp at e1 e2
        subst e1; subst e2
        exact .d _ _ (.sl (some false) _ vs _ cap hl (fun b hb => by cases hb; rfl) hc hA hr)
end Go.Proofs.Ytldgmcghdohmeaa
