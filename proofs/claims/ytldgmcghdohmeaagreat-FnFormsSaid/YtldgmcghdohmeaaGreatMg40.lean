/- Plain functions of the program and that the program computes them: printed by the own tool gen.py. No conditions. -/
import Derived.Test.YtldgmcghdohmeaaGreatMg24
import Derived.Test.YtldgmcghdohmeaaGreatAb27
import Derived.Test.YtldgmcghdohmeaaGreatProg
import Derived.KernelRfl
import Derived.Test.YtldgmcghdohmeaaGreatMg29
import Derived.WalkKit
import Derived.OwnWalkIn
import Derived.TacticsInMore
set_option linter.unusedSimpArgs false
set_option linter.unusedVariables false
namespace Go.Proofs.YtldgmcghdohmeaaGreat
open Go Go.RowKit Ab

theorem mixed : Tryz.prog.follows .mixedOrders = true := by kernel_rfl

def slices_Clone (p0 : List Int) : Option (List Int) :=
 (if ([] : List Int).length + p0.length ≤ 1099511627776 then some (([] : List Int) ++ p0) else none)
set_option maxRecDepth 100000 in
theorem slices_Clone_ac (p0 : List Int) (r : List Int) (h : slices_Clone p0 = some r) : AC Tryz.prog 65 [.d (.sl (some false) (intsD p0))] [] (fun res H' => res = [.vec 0 0] ∧ H' = [.vec 0 (intsD r)]) := by
 refine AC_of_body true Tryz.func65 rfl Tryz.ntmps65 (rvs := [.tmp 2]) rfl rfl (fun G hG => ?_)
 have hm : G.H.length = 0 := by rw [hG]; rfl
 have hz : zeroG G.H = true := by rw [hG]; rfl
 unfold slices_Clone at h
 refine kR ?_
 refine kN 1 rfl ?_
 refine ACode_seq ?_
 refine kR ?_
 refine kM 1 rfl ?_
 refine AOps_q 4 _ rfl rfl rfl (QOp_isnil _ _ _ _ _ _ _ rfl rfl rfl Tryz.underlying40) ?_
 refine AOps_nil ?_
 refine ACode_condF rfl ?_
 refine ACode_skip ?_
 refine kR ?_
 refine AOps_buildSlice 5 _ _ _ [] (intsD ([] : List Int)) _ rfl rfl rfl rfl rfl (by decide) Tryz.underlying40 Tryz.sizeOf2 (zero_of Tryz.typeInfo2 rfl) rfl rfl (intsD_one _) ?_
 refine kM 1 rfl ?_
 obtain ⟨hc1, h⟩ := guardO h
 refine AOps_append 7 _ _ _ _ _ _ _ _ _ _ _ _ rfl rfl rfl rfl rfl rfl rfl Tryz.underlying40 Tryz.type2 rfl rfl rfl (by decide) rfl rfl rfl rfl (intsD_one _) (by rw [intsD_length, intsD_length]; exact hc1) ?_
 rw [intsD_app]
 refine kN 1 rfl ?_
 refine ACode_ret ?_
 cases h
 exact ⟨_, _, Weak_reset 0 hm hz [2] _ _ rfl rfl, _, _, [0], _, (.cons (ResV_tmp _ _ rfl) .nil), rfl, rfl, rfl, rfl, rfl⟩

end Go.Proofs.YtldgmcghdohmeaaGreat

namespace Go.Proofs
open Go.RowKit

theorem Tryz.eqnil_run (a : Option Addr) (l c : Nat) (w : World) : (binOp .eql 40 (.slice a l c) (.slice none 0 0)).run Tryz.prog w = .ok (.bool a.isNone) w := by
  have h1 := Go.Lib.run_eql_slice_nil (P := Tryz.prog) w 40 2 a l c 0 0 Tryz.underlying40
  simp [eqGuard_at_slice, h1]

set_option maxRecDepth 100000 in
set_option maxHeartbeats 1000000 in
theorem Tryz.clone0_in (a : Option Addr) (cap : Nat) (w : World) :
    CallsIn Fence.wide 1 Tryz.prog 65 #[.slice a 0 cap] w fun e w' => ∃ b, e = .returned (.slice b 0 0) ∧ Below w.heap.size w w' := by
  refine callsIn_of_wp Tryz.func65 rfl trivial ?_ rfl
  simp only [Tryz.ntmps65, List.size_toArray, List.length_cons, List.length_nil, Nat.reduceAdd, Nat.reduceSub, Array.replicate_succ, Array.replicate_zero, List.push_toArray, List.append_toArray, List.nil_append, List.cons_append]
  cases a with
  | none =>
    gi_wp2
    simp only [Tryz.eqnil_run, Result.andThen_ok]
    gi_wp2
    go_ret
    exact ⟨_, rfl, Below.refl _ _⟩
  | some a =>
    gi_wp2
    simp only [Tryz.eqnil_run, Result.andThen_ok]
    gi_wp2
    go_ret
    exact ⟨_, rfl, (Below.refl _ w).alloc (Nat.le_refl _) _⟩
end Go.Proofs

namespace Go.Proofs.YtldgmcghdohmeaaGreat
open Go Go.RowKit Ab

theorem cloneB_ac (zs : List Int) (hz : zs.isEmpty = true) : AC Tryz.prog 65 [.d (.sl none (intsD zs))] [] (fun res H' => res = [.d (.se none)] ∧ H' = []) := by
  obtain rfl : zs = [] := by
    cases zs with
    | nil => rfl
    | cons a l => cases hz
  intro F w r xs hh hxs
  obtain ⟨x, rfl⟩ : ∃ x, xs = #[x] := by
    have := hxs.1
    cases xs with
    | mk l => match l, this with
      | [x], _ => exact ⟨x, rfl⟩
  have hv := hxs.2 0 _ x rfl rfl
  cases hv with
  | d _ _ hd =>
    cases hd with
    | sl _ _ vs A cap hl hn hc hA hr =>
      refine (callsIn_wide.1 (Tryz.clone0_in A cap w)).mono ?_
      rintro e w' ⟨b, rfl, hb⟩
      have hst := step_of_below hh hb
      exact ⟨_, [], r, _, rfl, ⟨rfl, rfl⟩, hrel_of_below hh hb, .d _ _ (.se none b (fun _ h => by cases h)), hst⟩

def cloneA (zs : List Int) : Option (List Int) := if zs.length ≤ 1099511627776 then some zs else none

theorem cloneA_ac (zs r : List Int) (hz : zs.isEmpty = false) (h : cloneA zs = some r) : AC Tryz.prog 65 [.d (.sl none (intsD zs))] [] (fun res H' => res = [.vec 0 0] ∧ H' = [.vec 0 (intsD r)]) := by
  unfold cloneA at h
  split at h
  case isFalse => cases h
  rename_i hlen
  cases h
  have hne : intsD zs ≠ [] := by
    cases zs with
    | nil => cases hz
    | cons a l => simp [intsD]
  intro F w r xs hh hxs
  obtain ⟨x, rfl⟩ : ∃ x, xs = #[x] := by
    have := hxs.1
    cases xs with
    | mk l => match l, this with
      | [x], _ => exact ⟨x, rfl⟩
  have hv := hxs.2 0 _ x rfl rfl
  cases hv with
  | d _ _ hd =>
    cases hd with
    | sl _ _ vs A cap hl hn hc hA hr =>
      obtain ⟨b, off, rfl, h1, h2⟩ := hA hne
      refine slices_Clone_ac zs zs (by simp [slices_Clone, hlen]) F w r _ hh ⟨rfl, fun i a v e1 e2 => ?_⟩
      cases i with
      | succ i => simp at e1
      | zero =>
        simp at e1 e2
        subst e1; subst e2
        exact .d _ _ (.sl (some false) _ vs _ cap hl (fun b hb => by cases hb; rfl) hc hA hr)
end Go.Proofs.YtldgmcghdohmeaaGreat
