/- Plain functions of the program and that the program computes them: printed by the own tool gen.py. No conditions. -/
import Derived.Test.YtghhnpdhehjlaaaGreatAb18
import Derived.Test.YtghhnpdhehjlaaaGreatAb27
import Derived.Test.YtghhnpdhehjlaaaGreatGenC
set_option linter.unusedVariables false
set_option linter.unusedSimpArgs false
namespace Go.Proofs.YtghhnpdhehjlaaaGreat
open Go Go.RowKit Ab

-- (loop.example/g01362/impl.position).many
def impl_position_many_l0 (p0 : Pos) (p1 : Int) : Nat → Int → Int → Option (Int)
 | 0, _, _ => none
 | k0 + 1, x1, x2 => (if decide (x2 < (p0.l.length : Int)) then ((if 0 ≤ x2 ∧ x2 < (p0.l.length : Int) then (if decide ((p0.l.getD x2.toNat 0) = p1) then some (w64 (x1 + 1)) else some x1) else none) : Option (Int)).bind fun s6 => impl_position_many_l0 p0 p1 k0 s6 (w64 (x2 + 1)) else some x1)
def impl_position_many (k : Nat) (p0 : Pos) (p1 : Int) : Option (Int) :=
 (impl_position_many_l0 p0 p1 k 0 0 : Option (Int)).bind fun s7 => some s7
set_option maxRecDepth 100000 in
theorem impl_position_many_ac (k : Nat) (p0 : Pos) (p1 : Int) (r : Int) (h : impl_position_many k p0 p1 = some r) : AC Tryz.prog 157 [.d (.agg (posD p0)), iV p1] [] (fun res H' => res = [iV r] ∧ H' = []) := by
 refine AC_of_body true Tryz.func157 rfl Tryz.ntmps157 (rvs := [.tmp 4]) rfl rfl (fun G hG => ?_)
 have hm : G.H.length = 0 := by rw [hG]; rfl
 have hz : zeroG G.H = true := by rw [hG]; rfl
 unfold impl_position_many at h
 refine kR ?_
 refine AOps_boxI 2 _ _ (.agg (posD p0)) (posD p0) rfl (posD_one _) rfl rfl rfl rfl rfl ?_
 refine kN 1 rfl ?_
 refine kR ?_
 refine kN 1 rfl ?_
 refine kB (fun s7 => [(5, iV s7)]) (fun s7 => []) h (fun s7 h => ?_) (fun s7 h => ?_)
 ·refine kR ?_
  refine AOps_q 8 _ rfl rfl rfl (QOp_fieldAddr_pv _ _ _ _ _ 1 _ _ rfl Tryz.underlying96 rfl _ Tryz.sizeOf27 rfl rfl) ?_
  refine AOps_q 9 _ rfl rfl rfl (QOp_load_pv _ _ _ _ _ rfl Tryz.isAgg27 rfl rfl) ?_
  refine AOps_q 10 _ rfl rfl rfl (QOp_len_sl _ _ _ _ _ _ _ (intsD_length _) rfl rfl rfl rfl Tryz.underlying27 rfl) ?_
  refine kN 1 rfl ?_
  refine ACode_block ?_
  refine ACode_loopW (fun k0 E H => ∃ (x1 : Int) (x2 : Int), E = [(1, iV p1), (5, iV x1), (9, .d (.sl none (intsD p0.l))), (10, iV (p0.l.length : Int)), (11, iV x2)] ∧ H = [] ∧ impl_position_many_l0 p0 p1 k0 x1 x2 = some s7) k _ _ (Weak_keep 0 hm [1, 5, 9, 10, 11] [] _ _ rfl rfl rfl) ⟨_, _, rfl, rfl, h⟩ ?_
  clear h
  rintro k0 E H ⟨x1, x2, rfl, rfl, h⟩
  cases k0 with
  | zero => cases (show (none : Option (Int)) = some _ from h)
  | succ k0 =>
   rw [impl_position_many_l0] at h
   refine kR ?_
   refine AOps_q 12 _ rfl rfl rfl (QOp_lss _ _ _ _ _ _ _ rfl rfl rfl) ?_
   refine AOps_nil ?_
   refine ACode_seq ?_
   refine kI h rfl (fun h _ => ?_) (fun h _ => ?_)
   ·refine ACode_skip ?_
    refine kB (fun s6 => [(1, iV p1), (5, iV s6), (9, .d (.sl none (intsD p0.l))), (10, iV (p0.l.length : Int)), (11, iV x2)]) (fun s6 => []) h (fun s6 h => ?_) (fun s6 h => ?_)
    ·refine ACode_block ?_
     refine kR ?_
     obtain ⟨hc4, h⟩ := guardO h
     refine AOps_q 13 _ rfl rfl rfl (QOp_indexAddr_sl _ _ _ _ _ _ _ _ rfl Tryz.underlying27 Tryz.sizeOf2 hc4.1 (by rw [intsD_length]; exact hc4.2) rfl rfl) ?_
     refine AOps_q 14 _ rfl rfl rfl (QOp_load_pv _ _ _ _ _ rfl Tryz.isAgg2 rfl (intsD_get _ _ 0 (by omega))) ?_
     refine kN 1 rfl ?_
     refine kR ?_
     refine kM 2 rfl ?_
     refine AOps_q 17 _ rfl rfl rfl (QOp_eql _ _ _ _ _ _ _ rfl rfl rfl) ?_
     refine AOps_nil ?_
     refine kI h rfl (fun h _ => ?_) (fun h _ => ?_)
     ·refine (ACode_region ?_)
      refine kM 1 rfl ?_
      refine AOps_q 19 _ rfl rfl rfl (QOp_add _ _ _ _ _ _ _ rfl rfl rfl) ?_
      refine kN 1 rfl ?_
      cases h
      exact Weak_keep 0 hm [1, 5, 9, 10, 11] [] _ _ rfl rfl rfl
     refine ACode_skip ?_
     cases h
     exact Weak_keep 0 hm [1, 5, 9, 10, 11] [] _ _ rfl rfl rfl
    refine (ACode_region ?_)
    refine AOps_q 20 _ rfl rfl rfl (QOp_add _ _ _ _ _ _ _ rfl rfl rfl) ?_
    refine kN 1 rfl ?_
    exact ⟨k0, _, _, Nat.lt_succ_self _, Weak_keep 0 hm [1, 5, 9, 10, 11] [] _ _ rfl rfl rfl, _, _, rfl, rfl, h⟩
   refine ACode_exit ?_
   cases h
   exact Weak_keep 0 hm [5] [] _ _ rfl rfl rfl
 refine kR ?_
 refine kN 2 rfl ?_
 refine ACode_ret ?_
 cases h
 exact ⟨_, _, fun r a w h => ⟨r, h⟩, _, _, [], _, (.cons (ResV_tmp _ _ rfl) .nil), rfl, rfl, rfl, rfl, rfl⟩

-- (loop.example/g01362/impl.position).mover
def impl_position_mover (k : Nat) (p0 : Pos) : Option (Int) :=
 (impl_position_many k p0 0).bind fun r1 => (impl_position_many k p0 1).bind fun r2 => some (w64 (r1 - r2))
set_option maxRecDepth 100000 in
theorem impl_position_mover_ac (k : Nat) (p0 : Pos) (r : Int) (h : impl_position_mover k p0 = some r) : AC Tryz.prog 151 [.d (.agg (posD p0))] [] (fun res H' => res = [iV r] ∧ H' = []) := by
 refine AC_of_body true Tryz.func151 rfl Tryz.ntmps151 (rvs := [.tmp 2]) rfl rfl (fun G hG => ?_)
 have hm : G.H.length = 0 := by rw [hG]; rfl
 have hz : zeroG G.H = true := by rw [hG]; rfl
 unfold impl_position_mover at h
 refine kR ?_
 refine AOps_boxI 1 _ _ (.agg (posD p0)) (posD p0) rfl (posD_one _) rfl rfl rfl rfl rfl ?_
 refine kN 1 rfl ?_
 refine ACode_seq (ACode_quiet mixed (by kernel_rfl) ?_)
 refine AQ_q 3 _ rfl rfl rfl (QOp_loadN_pv _ _ _ _ _ _ rfl Tryz.isAgg96 Tryz.sizeOf96 rfl (posD_all _) (posD_length _)) ?_
 obtain ⟨r1, hr1, h⟩ := bindO h
 refine AQ_call 4 _ _ _ _ _ _ _ _ _ rfl rfl rfl rfl rfl rfl rfl Tryz.call157 rfl rfl rfl (impl_position_many_ac k p0 0 _ hr1) ?_
 refine AQ_q 5 _ rfl rfl rfl (QOp_loadN_pv _ _ _ _ _ _ rfl Tryz.isAgg96 Tryz.sizeOf96 rfl (posD_all _) (posD_length _)) ?_
 obtain ⟨r2, hr2, h⟩ := bindO h
 refine AQ_call 6 _ _ _ _ _ _ _ _ _ rfl rfl rfl rfl rfl rfl rfl Tryz.call157 rfl rfl rfl (impl_position_many_ac k p0 1 _ hr2) ?_
 refine AQ_q 7 _ rfl rfl rfl (QOp_sub _ _ _ _ _ _ _ rfl rfl rfl) ?_
 refine kQ 1 rfl ?_
 refine AQ_nil ?_
 refine ACode_ret ?_
 cases h
 exact ⟨_, _, fun r a w h => ⟨r, h⟩, _, _, [], _, (.cons (ResV_tmp _ _ rfl) .nil), rfl, rfl, rfl, rfl, rfl⟩

end Go.Proofs.YtghhnpdhehjlaaaGreat
