/- Plain functions of the program and that the program computes them: printed by the own tool gen.py. No conditions. -/
import Derived.Test.YtghhnpdhehjlaaaGen36a
set_option linter.unusedVariables false
set_option linter.unusedSimpArgs false
namespace Go.Proofs.Ytghhnpdhehjlaaa
open Go Go.RowKit Ab

-- (*loop.example/g01362/impl.Colouring).joins
def impl_Colouring_joins (p0 : Col) (p1 : Int) (p2 : Int) (p3 : Int) : Option (Bool) :=
 ((if !decide (p1 = p2) then (impl_Colouring_at p0 p1 p2).bind fun r2 => some (decide (r2 = p3)) else some false) : Option (Bool)).bind fun s3 => some s3
set_option maxRecDepth 100000 in
theorem impl_Colouring_joins_ac (p0 : Col) (p1 : Int) (p2 : Int) (p3 : Int) (r : Bool) (h : impl_Colouring_joins p0 p1 p2 p3 = some r) : AC Try.prog 73 [.d (.pv (colD p0) 0), iV p1, iV p2, iV p3] [] (fun res H' => res = [bV r] ∧ H' = []) := by
 refine AC_of_body true Try.func73 rfl Try.ntmps73 (rvs := [.tmp 8]) rfl rfl (fun G hG => ?_)
 have hm : G.H.length = 0 := by rw [hG]; rfl
 have hz : zeroG G.H = true := by rw [hG]; rfl
 unfold impl_Colouring_joins at h
 refine kR ?_
 refine kN 1 rfl ?_
 refine kB (fun s3 => [(8, bV s3)]) (fun s3 => []) h (fun s3 h => ?_) (fun s3 h => ?_)
 ·refine (ACode_region ?_)
  refine kM 2 rfl ?_
  refine AOps_q 11 _ rfl rfl rfl (QOp_neq _ _ _ _ _ _ _ rfl rfl rfl) ?_
  refine kM 1 rfl ?_
  refine AOps_case 12 _ rfl (fun hb1 => ?_) (fun hb1 => ?_)
  ·have h := iteT hb1 h
   refine kM 3 rfl ?_
   obtain ⟨r2, hr2, h⟩ := bindO h
   refine kC [] 16 (iV r2) [] rfl Try.call67 rfl rfl (impl_Colouring_at_ac p0 p1 p2 _ hr2) rfl ?_
   refine kM 1 rfl ?_
   refine AOps_q 18 _ rfl rfl rfl (QOp_eql _ _ _ _ _ _ _ rfl rfl rfl) ?_
   refine kN 2 rfl ?_
   cases h
   exact Weak_keep 0 hm [8] [] _ _ rfl rfl rfl
  have h := iteF hb1 h
  refine AOps_skip 13 rfl rfl rfl ?_
  refine AOps_skip 14 rfl rfl rfl ?_
  refine AOps_skip 15 rfl rfl rfl ?_
  refine AOps_skip 16 rfl rfl rfl ?_
  refine AOps_skip 17 rfl rfl rfl ?_
  refine AOps_skip 18 rfl rfl rfl ?_
  refine kN 2 rfl ?_
  cases h
  exact Weak_keep 0 hm [8] [] _ _ rfl rfl rfl
 refine ACode_ret ?_
 cases h
 exact ⟨_, _, fun r a w h => ⟨r, h⟩, _, _, [], _, (.cons (ResV_tmp _ _ rfl) .nil), rfl, rfl, rfl, rfl, rfl⟩

-- (*loop.example/g01362/impl.matcher).behind
def impl_matcher_behind_l0 (p1 : Int) : Nat → Int → Option (Int)
 | 0, _ => none
 | k0 + 1, x4 => (if 0 ≤ x4 then (if decide (bAnd .i64 (bShr .i64 p1 x4) 1 = 0) then impl_matcher_behind_l0 p1 k0 (w64 (x4 + 1)) else some x4) else none)
def impl_matcher_behind_l1 (self : Lon → (List (MK × Int)) → Int → Option (Int × List (MK × Int))) (p0 : Lon) (p1 : Int) (s7 : Int) : Nat → Int → Int → (List (MK × Int)) → Option (Int × List (MK × Int))
 | 0, _, _, _ => none
 | k1 + 1, x10, x11, x12 => (if decide (x11 < p0.x.p) then (((if 0 ≤ x11 then (if decide (bAnd .i64 (bShr .i64 (bAndNot .i64 p1 (bShl .i64 1 s7)) x11) 1 = 1) then (impl_Colouring_joins p0.x s7 x11 p0.c).bind fun r16 => some r16 else some false) else none) : Option (Bool)).bind fun s17 => (if s17 then (if 0 ≤ x11 then (self p0 x12 (bAndNot .i64 (bAndNot .i64 p1 (bShl .i64 1 s7)) (bShl .i64 1 x11))).bind fun r20 => some ((if x10 < w64 (r20.1 + 1) then w64 (r20.1 + 1) else x10), r20.2) else none) else some (x10, x12)) : Option (Int × List (MK × Int))).bind fun s21 => impl_matcher_behind_l1 self p0 p1 s7 k1 s21.1 (w64 (x11 + 1)) s21.2 else some (x10, x12))
def impl_matcher_behind_body (self : Lon → (List (MK × Int)) → Int → Option (Int × List (MK × Int))) (k : Nat) (p0 : Lon) (p0m : List (MK × Int)) (p1 : Int) : Option (Int × List (MK × Int)) :=
 (if decide (p1 = 0) then some (0, p0m) else (if okK (MK.i p1) = true then (if (lookM p0m (MK.i p1)).isSome then some (((lookM p0m (MK.i p1)).getD 0), p0m) else (impl_matcher_behind_l0 p1 k 0 : Option (Int)).bind fun s7 => (if 0 ≤ s7 then (self p0 p0m (bAndNot .i64 p1 (bShl .i64 1 s7))).bind fun r9 => (impl_matcher_behind_l1 self p0 p1 s7 k r9.1 (w64 (s7 + 1)) r9.2 : Option (Int × List (MK × Int))).bind fun s22 => (if (okK (MK.i p1) = true) ∧ okI s22.1 = true ∧ s22.2.length < 4611686018427387904 then some (s22.1, ((MK.i p1, s22.1) :: s22.2)) else none) else none)) else none))
def impl_matcher_behind : Nat → Lon → (List (MK × Int)) → Int → Option (Int × List (MK × Int))
 | 0, _, _, _ => none
 | k + 1, p0, p0m, p1 => impl_matcher_behind_body (impl_matcher_behind k) k p0 p0m p1
set_option maxRecDepth 100000 in
theorem impl_matcher_behind_ac {vp0 : Value} (k : Nat) (p0 : Lon) (p0m : List (MK × Int)) (p1 : Int) (r : Int × List (MK × Int)) (h : impl_matcher_behind k p0 p0m p1 = some r) : AC Try.prog 89 [.d (.pv (lonD p0 vp0) 0), iV p1] [.mp vp0 (mapI Try.prog 2 2 p0m)] (fun res H' => res = [iV r.1] ∧ H' = [.mp vp0 (mapI Try.prog 2 2 r.2)]) := by
 induction k generalizing p0 p0m p1 r with
 | zero => simp [impl_matcher_behind] at h
 | succ k ih =>
  rw [impl_matcher_behind] at h
  obtain ⟨self, hself, hk⟩ : ∃ self : Lon → (List (MK × Int)) → Int → Option (Int × List (MK × Int)), (∀ (p0 : Lon) (p0m : List (MK × Int)) (p1 : Int) (r : Int × List (MK × Int)), self p0 p0m p1 = some r → AC Try.prog 89 [.d (.pv (lonD p0 vp0) 0), iV p1] [.mp vp0 (mapI Try.prog 2 2 p0m)] (fun res H' => res = [iV r.1] ∧ H' = [.mp vp0 (mapI Try.prog 2 2 r.2)])) ∧ impl_matcher_behind k = self := ⟨impl_matcher_behind k, fun p0 p0m p1 r h => ih p0 p0m p1 r h, rfl⟩
  rw [hk] at h
  clear ih hk
  refine AC_of_body true Try.func89 rfl Try.ntmps89 (rvs := [.tmp 4]) rfl rfl (fun G hG => ?_)
  have hm : G.H.length = 1 := by rw [hG]; rfl
  have hz : zeroG G.H = true := by rw [hG]; rfl
  unfold impl_matcher_behind_body at h
  refine kR ?_
  refine kN 1 rfl ?_
  refine ACode_seq ?_
  refine kR ?_
  refine kM 1 rfl ?_
  refine AOps_q 12 _ rfl rfl rfl (QOp_eql _ _ _ _ _ _ _ rfl rfl rfl) ?_
  refine AOps_nil ?_
  refine kI h rfl (fun h _ => ?_) (fun h _ => ?_)
  ·refine kR ?_
   refine kN 1 rfl ?_
   refine ACode_ret ?_
   cases h
   exact ⟨_, _, fun r a w h => ⟨r, h⟩, _, _, [], _, (.cons (ResV_tmp _ _ rfl) .nil), rfl, rfl, rfl, rfl, rfl⟩
  refine ACode_skip ?_
  refine ACode_seq ?_
  refine kR ?_
  refine kM 1 rfl ?_
  refine AOps_q 15 _ rfl rfl rfl (QOp_nilCheck_pv _ _ _ rfl rfl) ?_
  refine AOps_q 16 _ rfl rfl rfl (QOp_fieldAddr_pv _ _ _ _ _ 2 _ _ rfl Try.underlying105 rfl _ Try.sizeOf103 rfl rfl) ?_
  refine AOps_q 17 _ rfl rfl rfl (QOp_load_pv _ _ _ _ _ rfl Try.isAgg103 rfl rfl) ?_
  refine kM 1 rfl ?_
  obtain ⟨hc2, h⟩ := guardO h
  refine AOps_q 19 _ rfl rfl rfl (QOp_lookup keyed2_Try Try.underlying103 Try.underlying2 (fun w => by kernel_rfl) 0 _ p0m (MK.i p1) _ _ _ rfl rfl rfl rfl (isKey_i _) (keyI Try.underlying2 hc2)) ?_
  refine kN 5 rfl ?_
  refine kR ?_
  refine kN 1 rfl ?_
  refine kI h rfl (fun h _ => ?_) (fun h _ => ?_)
  ·refine kR ?_
   refine kN 2 rfl ?_
   refine ACode_ret ?_
   cases h
   exact ⟨_, _, fun r a w h => ⟨r, h⟩, _, _, [], _, (.cons (ResV_tmp _ _ rfl) .nil), rfl, rfl, rfl, rfl, rfl⟩
  refine ACode_skip ?_
  refine kR ?_
  refine kN 1 rfl ?_
  refine kB (fun s7 => [(0, .d (.pv (lonD p0 vp0) 0)), (1, iV p1), (7, iV s7)]) (fun s7 => [.mp vp0 (mapI Try.prog 2 2 p0m)]) h (fun s7 h => ?_) (fun s7 h => ?_)
  ·refine ACode_block ?_
   refine ACode_loopW (fun k0 E H => ∃ (x4 : Int), E = [(0, .d (.pv (lonD p0 vp0) 0)), (1, iV p1), (7, iV x4)] ∧ H = [.mp vp0 (mapI Try.prog 2 2 p0m)] ∧ impl_matcher_behind_l0 p1 k0 x4 = some s7) k _ _ (Weak_keep 1 hm [0, 1, 7] [] _ _ rfl rfl rfl) ⟨_, rfl, rfl, h⟩ ?_
   clear h
   rintro k0 E H ⟨x4, rfl, rfl, h⟩
   cases k0 with
   | zero => cases (show (none : Option (Int)) = some _ from h)
   | succ k0 =>
    rw [impl_matcher_behind_l0] at h
    refine ACode_seq ?_
    refine kR ?_
    refine kM 2 rfl ?_
    obtain ⟨hc5, h⟩ := guardO h
    refine AOps_q 26 _ rfl rfl rfl (QOp_shr _ _ _ _ _ _ _ _ hc5 rfl rfl rfl) ?_
    refine AOps_q 27 _ rfl rfl rfl (QOp_and _ _ _ _ _ _ _ rfl rfl rfl) ?_
    refine AOps_q 28 _ rfl rfl rfl (QOp_eql _ _ _ _ _ _ _ rfl rfl rfl) ?_
    refine AOps_nil ?_
    refine kI h rfl (fun h _ => ?_) (fun h _ => ?_)
    ·refine ACode_skip ?_
     refine ACode_block ?_
     refine (ACode_region ?_)
     refine kM 1 rfl ?_
     refine AOps_q 30 _ rfl rfl rfl (QOp_add _ _ _ _ _ _ _ rfl rfl rfl) ?_
     refine kN 1 rfl ?_
     exact ⟨k0, _, _, Nat.lt_succ_self _, Weak_keep 1 hm [0, 1, 7] [] _ _ rfl rfl rfl, _, rfl, rfl, h⟩
    refine ACode_exit ?_
    cases h
    exact Weak_keep 1 hm [0, 1, 7] [] _ _ rfl rfl rfl
  refine kR ?_
  refine kM 2 rfl ?_
  obtain ⟨hc8, h⟩ := guardO h
  refine AOps_q 33 _ rfl rfl rfl (QOp_shl _ _ _ _ _ _ _ _ hc8 rfl rfl rfl) ?_
  refine AOps_q 34 _ rfl rfl rfl (QOp_andNot _ _ _ _ _ _ _ rfl rfl rfl) ?_
  refine kN 1 rfl ?_
  refine kR ?_
  refine kM 2 rfl ?_
  obtain ⟨r9, hr9, h⟩ := bindO h
  refine kC [0] 37 (iV r9.1) [.mp vp0 (mapI Try.prog 2 2 r9.2)] rfl Try.call89 rfl rfl (hself p0 p0m (bAndNot .i64 p1 (bShl .i64 1 s7)) _ hr9) rfl ?_
  refine kN 1 rfl ?_
  refine kB (fun s22 => [(0, .d (.pv (lonD p0 vp0) 0)), (1, iV p1), (9, iV s22.1)]) (fun s22 => [.mp vp0 (mapI Try.prog 2 2 s22.2)]) h (fun s22 h => ?_) (fun s22 h => ?_)
  ·refine kR ?_
   refine kM 1 rfl ?_
   refine AOps_q 39 _ rfl rfl rfl (QOp_add _ _ _ _ _ _ _ rfl rfl rfl) ?_
   refine kN 1 rfl ?_
   refine ACode_block ?_
   refine ACode_loopW (fun k1 E H => ∃ (x10 : Int) (x11 : Int) (x12 : List (MK × Int)), E = [(0, .d (.pv (lonD p0 vp0) 0)), (1, iV p1), (7, iV s7), (8, iV (bAndNot .i64 p1 (bShl .i64 1 s7))), (9, iV x10), (10, iV x11)] ∧ H = [.mp vp0 (mapI Try.prog 2 2 x12)] ∧ impl_matcher_behind_l1 self p0 p1 s7 k1 x10 x11 x12 = some s22) k _ _ (Weak_keep 1 hm [0, 1, 7, 8, 9, 10] [] _ _ rfl rfl rfl) ⟨_, _, _, rfl, rfl, h⟩ ?_
   clear h
   rintro k1 E H ⟨x10, x11, x12, rfl, rfl, h⟩
   cases k1 with
   | zero => cases (show (none : Option (Int × List (MK × Int))) = some _ from h)
   | succ k1 =>
    rw [impl_matcher_behind_l1] at h
    refine ACode_seq ?_
    refine kR ?_
    refine kM 2 rfl ?_
    refine AOps_q 42 _ rfl rfl rfl (QOp_nilCheck_pv _ _ _ rfl rfl) ?_
    refine AOps_q 43 _ rfl rfl rfl (QOp_fieldAddr_pv _ _ _ _ _ 0 _ _ rfl Try.underlying105 rfl _ Try.sizeOf96 rfl rfl) ?_
    refine AOps_q 44 _ rfl rfl rfl (QOp_load_pv _ _ _ _ _ rfl Try.isAgg96 rfl rfl) ?_
    refine AOps_q 45 _ rfl rfl rfl (QOp_nilCheck_pv _ _ _ rfl rfl) ?_
    refine AOps_q 46 _ rfl rfl rfl (QOp_fieldAddr_pv _ _ _ _ _ 0 _ _ rfl Try.underlying27 rfl _ Try.sizeOf2 rfl rfl) ?_
    refine AOps_q 47 _ rfl rfl rfl (QOp_load_pv _ _ _ _ _ rfl Try.isAgg2 rfl rfl) ?_
    refine AOps_q 48 _ rfl rfl rfl (QOp_lss _ _ _ _ _ _ _ rfl rfl rfl) ?_
    refine AOps_nil ?_
    refine kI h rfl (fun h _ => ?_) (fun h _ => ?_)
    ·refine ACode_skip ?_
     refine kB (fun s21 => [(0, .d (.pv (lonD p0 vp0) 0)), (1, iV p1), (7, iV s7), (8, iV (bAndNot .i64 p1 (bShl .i64 1 s7))), (9, iV s21.1), (10, iV x11)]) (fun s21 => [.mp vp0 (mapI Try.prog 2 2 s21.2)]) h (fun s21 h => ?_) (fun s21 h => ?_)
     ·refine ACode_block ?_
      refine kB (fun s17 => [(0, .d (.pv (lonD p0 vp0) 0)), (1, iV p1), (7, iV s7), (8, iV (bAndNot .i64 p1 (bShl .i64 1 s7))), (9, iV x10), (10, iV x11), (68, bV s17)]) (fun s17 => [.mp vp0 (mapI Try.prog 2 2 x12)]) h (fun s17 h => ?_) (fun s17 h => ?_)
      ·refine (ACode_quiet mixed (by kernel_rfl) ?_)
       refine kQ 2 rfl ?_
       obtain ⟨hc14, h⟩ := guardO h
       refine AQ_q 53 _ rfl rfl rfl (QOp_shr _ _ _ _ _ _ _ _ hc14 rfl rfl rfl) ?_
       refine AQ_q 54 _ rfl rfl rfl (QOp_and _ _ _ _ _ _ _ rfl rfl rfl) ?_
       refine AQ_q 55 _ rfl rfl rfl (QOp_eql _ _ _ _ _ _ _ rfl rfl rfl) ?_
       refine kQ 1 rfl ?_
       refine AQ_case 56 _ rfl (fun hb15 => ?_) (fun hb15 => ?_)
       ·have h := iteT hb15 h
        refine kQ 1 rfl ?_
        refine AQ_q 58 _ rfl rfl rfl (QOp_nilCheck_pv _ _ _ rfl rfl) ?_
        refine AQ_q 59 _ rfl rfl rfl (QOp_fieldAddr_pv _ _ _ _ _ 0 _ _ rfl Try.underlying105 rfl _ Try.sizeOf96 rfl rfl) ?_
        refine AQ_q 60 _ rfl rfl rfl (QOp_load_pv _ _ _ _ _ rfl Try.isAgg96 rfl rfl) ?_
        refine kQ 3 rfl ?_
        refine AQ_q 64 _ rfl rfl rfl (QOp_nilCheck_pv _ _ _ rfl rfl) ?_
        refine AQ_q 65 _ rfl rfl rfl (QOp_fieldAddr_pv _ _ _ _ _ 1 _ _ rfl Try.underlying105 rfl _ Try.sizeOf2 rfl rfl) ?_
        refine AQ_q 66 _ rfl rfl rfl (QOp_load_pv _ _ _ _ _ rfl Try.isAgg2 rfl rfl) ?_
        obtain ⟨r16, hr16, h⟩ := bindO h
        refine AQ_call 67 _ _ _ _ _ _ _ _ _ rfl rfl rfl rfl rfl rfl rfl Try.call73 rfl rfl rfl (impl_Colouring_joins_ac p0.x s7 x11 p0.c _ hr16) ?_
        refine kQ 1 rfl ?_
        refine AQ_nil ?_
        cases h
        exact Weak_keep 1 hm [0, 1, 7, 8, 9, 10, 68] [] _ _ rfl rfl rfl
       have h := iteF hb15 h
       refine AQ_skip 57 rfl rfl rfl ?_
       refine AQ_skip 58 rfl rfl rfl ?_
       refine AQ_skip 59 rfl rfl rfl ?_
       refine AQ_skip 60 rfl rfl rfl ?_
       refine AQ_skip 61 rfl rfl rfl ?_
       refine AQ_skip 62 rfl rfl rfl ?_
       refine AQ_skip 63 rfl rfl rfl ?_
       refine AQ_skip 64 rfl rfl rfl ?_
       refine AQ_skip 65 rfl rfl rfl ?_
       refine AQ_skip 66 rfl rfl rfl ?_
       refine AQ_skip 67 rfl rfl rfl ?_
       refine kQ 1 rfl ?_
       refine AQ_nil ?_
       cases h
       exact Weak_keep 1 hm [0, 1, 7, 8, 9, 10, 68] [] _ _ rfl rfl rfl
      refine kI h rfl (fun h _ => ?_) (fun h _ => ?_)
      ·refine (ACode_region ?_)
       refine kM 4 rfl ?_
       obtain ⟨hc19, h⟩ := guardO h
       refine AOps_q 73 _ rfl rfl rfl (QOp_shl _ _ _ _ _ _ _ _ hc19 rfl rfl rfl) ?_
       refine AOps_q 74 _ rfl rfl rfl (QOp_andNot _ _ _ _ _ _ _ rfl rfl rfl) ?_
       obtain ⟨r20, hr20, h⟩ := bindO h
       refine kC [0] 75 (iV r20.1) [.mp vp0 (mapI Try.prog 2 2 r20.2)] rfl Try.call89 rfl rfl (hself p0 x12 (bAndNot .i64 (bAndNot .i64 p1 (bShl .i64 1 s7)) (bShl .i64 1 x11)) _ hr20) rfl ?_
       refine AOps_q 76 _ rfl rfl rfl (QOp_add _ _ _ _ _ _ _ rfl rfl rfl) ?_
       refine AOps_q 77 _ rfl rfl rfl (QOp_max _ _ _ _ _ _ rfl rfl rfl rfl rfl) ?_
       refine kN 1 rfl ?_
       cases h
       exact Weak_keep 1 hm [0, 1, 7, 8, 9, 10] [] _ _ rfl rfl rfl
      refine ACode_skip ?_
      cases h
      exact Weak_keep 1 hm [0, 1, 7, 8, 9, 10] [] _ _ rfl rfl rfl
     refine (ACode_region ?_)
     refine kM 1 rfl ?_
     refine AOps_q 50 _ rfl rfl rfl (QOp_add _ _ _ _ _ _ _ rfl rfl rfl) ?_
     refine kN 1 rfl ?_
     exact ⟨k1, _, _, Nat.lt_succ_self _, Weak_keep 1 hm [0, 1, 7, 8, 9, 10] [] _ _ rfl rfl rfl, _, _, _, rfl, rfl, h⟩
    refine ACode_exit ?_
    cases h
    exact Weak_keep 1 hm [0, 1, 9] [] _ _ rfl rfl rfl
  refine kR ?_
  refine kM 1 rfl ?_
  refine AOps_q 79 _ rfl rfl rfl (QOp_nilCheck_pv _ _ _ rfl rfl) ?_
  refine AOps_q 80 _ rfl rfl rfl (QOp_fieldAddr_pv _ _ _ _ _ 2 _ _ rfl Try.underlying105 rfl _ Try.sizeOf103 rfl rfl) ?_
  refine AOps_q 81 _ rfl rfl rfl (QOp_load_pv _ _ _ _ _ rfl Try.isAgg103 rfl rfl) ?_
  refine kM 2 rfl ?_
  obtain ⟨hc23, h⟩ := guardO h
  refine AOps_mapUpdate keyed2_Try Try.underlying103 Try.underlying2 0 _ s22.2 (MK.i p1) _ s22.1 _ _ _ rfl rfl rfl rfl rfl rfl (isKey_i _) (keyI Try.underlying2 hc23.1) rfl hc23.2.1 hc23.2.2 ?_
  refine AOps_nil ?_
  refine kR ?_
  refine kN 2 rfl ?_
  refine ACode_ret ?_
  cases h
  exact ⟨_, _, fun r a w h => ⟨r, h⟩, _, _, [], _, (.cons (ResV_tmp _ _ rfl) .nil), rfl, rfl, rfl, rfl, rfl⟩

-- (*loop.example/g01362/impl.Colouring).matching
def impl_Colouring_matching_l1 (k : Nat) (p0 : Col) (p1 : Int) (x3 : Int) (x4 : Int) (r11 : Int × List (MK × Int)) : Nat → Int → Int → (List (MK × Int)) → (List (List Int)) → Option (Int × List (MK × Int) × List (List Int))
 | 0, _, _, _, _ => none
 | k1 + 1, x12, x13, x14, x15 => (if decide (x13 < p0.p) then (((if 0 ≤ x13 then (if decide (bAnd .i64 (bShr .i64 (bAndNot .i64 x3 (bShl .i64 1 x4)) x13) 1 = 1) then (impl_Colouring_joins p0 x4 x13 p1).bind fun r19 => (if r19 then (if 0 ≤ x13 then (impl_matcher_behind k (⟨p0, p1⟩ : Lon) x14 (bAndNot .i64 (bAndNot .i64 x3 (bShl .i64 1 x4)) (bShl .i64 1 x13))).bind fun r22 => some (decide (w64 (r22.1 + 1) = r11.1), r22.2) else none) else some (false, x14)) else some (false, x14)) else none) : Option (Bool × List (MK × Int))).bind fun s23 => (if s23.1 then (if 0 ≤ x13 then (if x15.length + ([[x4, x13]]).length ≤ 1099511627776 then (some (bAndNot .i64 (bAndNot .i64 x3 (bShl .i64 1 x4)) (bShl .i64 1 x13), s23.2, (x15 ++ ([[x4, x13]])))).bind fun rr => some (.inr rr) else none) else none) else some (.inl s23.2)) : Option (Sum (List (MK × Int)) (Int × List (MK × Int) × List (List Int)))).bind fun os27 => (match os27 with | .inl s27 => impl_Colouring_matching_l1 k p0 p1 x3 x4 r11 k1 x12 (w64 (x13 + 1)) s27 x15 | .inr rr => some rr) else some (x12, x14, x15))
def impl_Colouring_matching_l0 (k : Nat) (p0 : Col) (p1 : Int) : Nat → Int → Int → (List (MK × Int)) → (List (List Int)) → Option (List (List Int))
 | 0, _, _, _, _ => none
 | k0 + 1, x3, x4, x5, x6 => (if decide (x4 < p0.p) then ((if 0 ≤ x4 then (if decide (bAnd .i64 (bShr .i64 x3 x4) 1 = 0) then some (x3, x5, x6) else (if 0 ≤ x4 then (impl_matcher_behind k (⟨p0, p1⟩ : Lon) x5 x3).bind fun r11 => impl_Colouring_matching_l1 k p0 p1 x3 x4 r11 k (bAndNot .i64 x3 (bShl .i64 1 x4)) (w64 (x4 + 1)) r11.2 x6 else none)) else none) : Option (Int × List (MK × Int) × List (List Int))).bind fun s28 => impl_Colouring_matching_l0 k p0 p1 k0 s28.1 (w64 (x4 + 1)) s28.2.1 s28.2.2 else some x6)
def impl_Colouring_matching (k : Nat) (p0 : Col) (p1 : Int) : Option (List (List Int)) :=
 (if 0 ≤ p0.p then (impl_Colouring_matching_l0 k p0 p1 k (w64 ((bShl .i64 1 p0.p) - 1)) 0 ([] : List (MK × Int)) ([] : List (List Int)) : Option (List (List Int))).bind fun s29 => some s29 else none)
set_option maxRecDepth 100000 in
theorem impl_Colouring_matching_ac (k : Nat) (p0 : Col) (p1 : Int) (r : List (List Int)) (h : impl_Colouring_matching k p0 p1 = some r) : AC Try.prog 53 [.d (.pv (colD p0) 0), iV p1] [] (fun res H' => res = [.vec 0 0] ∧ H' = [.vec 0 (rowsD r)]) := by
 refine AC_of_body true Try.func53 rfl Try.ntmps53 (rvs := [.tmp 4]) rfl rfl (fun G hG => ?_)
 have hm : G.H.length = 0 := by rw [hG]; rfl
 have hz : zeroG G.H = true := by rw [hG]; rfl
 unfold impl_Colouring_matching at h
 refine kR ?_
 refine kN 1 rfl ?_
 refine kR ?_
 refine kM 2 rfl ?_
 refine AOps_makeMap 14 _ rfl rfl rfl rfl 2 2 (fun m1 hm1 => ?_)
 refine AOps_q 15 _ rfl rfl rfl (QOp_build _ _ [_, _, _] [0, 1, 2] [.pv (colD p0) 0, iD p1, .s m1] _ [.s (.pointer none), iD 0, .s (.map none)] (lonD (⟨p0, p1⟩ : Lon) m1) [(0, 1), (1, 1), (2, 1)] rfl rfl Try.underlying105 (zero_of Try.typeInfo105 rfl) (fun w => by simp [Try.sizeOf96, Try.sizeOf2, Try.sizeOf103]) rfl (by rfl) (lonZ_fill (⟨p0, p1⟩ : Lon) m1) (allc (ok1 rfl) (allc (ok1 rfl) (allc (ok1 hm1) (fun _ h => nomatch h))))) ?_
 refine AOps_boxI 16 _ _ (.agg (lonD (⟨p0, p1⟩ : Lon) m1)) (lonD (⟨p0, p1⟩ : Lon) m1) rfl (lonD_one _ _ hm1) rfl rfl rfl rfl rfl ?_
 refine AOps_buildSlice 17 _ _ _ [] (rowsD ([] : List (List Int))) _ rfl rfl rfl rfl rfl (by decide) Try.underlying45 Try.sizeOf34 (zero_of Try.typeInfo34 rfl) rfl rfl (rowsD_one _) ?_
 refine kN 2 rfl ?_
 refine kR ?_
 refine kM 1 rfl ?_
 refine AOps_q 19 _ rfl rfl rfl (QOp_nilCheck_pv _ _ _ rfl rfl) ?_
 refine AOps_q 20 _ rfl rfl rfl (QOp_fieldAddr_pv _ _ _ _ _ 0 _ _ rfl Try.underlying27 rfl _ Try.sizeOf2 rfl rfl) ?_
 refine AOps_q 21 _ rfl rfl rfl (QOp_load_pv _ _ _ _ _ rfl Try.isAgg2 rfl rfl) ?_
 obtain ⟨hc2, h⟩ := guardO h
 refine AOps_q 22 _ rfl rfl rfl (QOp_shl _ _ _ _ _ _ _ _ hc2 rfl rfl rfl) ?_
 refine AOps_q 23 _ rfl rfl rfl (QOp_sub _ _ _ _ _ _ _ rfl rfl rfl) ?_
 refine kN 1 rfl ?_
 refine kB (fun s29 => [(6, .vec 0 0)]) (fun s29 => [.vec 0 (rowsD s29)]) h (fun s29 h => ?_) (fun s29 h => ?_)
 ·refine kR ?_
  refine kM 1 rfl ?_
  refine AOps_q 25 _ rfl rfl rfl (QOp_nilCheck_pv _ _ _ rfl rfl) ?_
  refine AOps_q 26 _ rfl rfl rfl (QOp_fieldAddr_pv _ _ _ _ _ 0 _ _ rfl Try.underlying27 rfl _ Try.sizeOf2 rfl rfl) ?_
  refine AOps_q 27 _ rfl rfl rfl (QOp_load_pv _ _ _ _ _ rfl Try.isAgg2 rfl rfl) ?_
  refine kN 1 rfl ?_
  refine ACode_block ?_
  refine ACode_loopW (fun k0 E H => ∃ (x3 : Int) (x4 : Int) (x5 : List (MK × Int)) (x6 : List (List Int)), E = [(0, .d (.pv (colD p0) 0)), (1, iV p1), (5, .d (.pv (lonD (⟨p0, p1⟩ : Lon) m1) 0)), (6, .vec 1 0), (7, iV x3), (27, iV p0.p), (28, iV x4)] ∧ H = [.mp m1 (mapI Try.prog 2 2 x5), .vec 0 (rowsD x6)] ∧ impl_Colouring_matching_l0 k p0 p1 k0 x3 x4 x5 x6 = some s29) k _ _ (Weak_keep 0 hm [0, 1, 5, 6, 7, 27, 28] [0, 1] _ _ rfl rfl rfl) ⟨_, _, _, _, rfl, rfl, h⟩ ?_
  clear h
  rintro k0 E H ⟨x3, x4, x5, x6, rfl, rfl, h⟩
  cases k0 with
  | zero => cases (show (none : Option (List (List Int))) = some _ from h)
  | succ k0 =>
   rw [impl_Colouring_matching_l0] at h
   refine kR ?_
   refine AOps_q 29 _ rfl rfl rfl (QOp_lss _ _ _ _ _ _ _ rfl rfl rfl) ?_
   refine AOps_nil ?_
   refine ACode_seq ?_
   refine kI h rfl (fun h _ => ?_) (fun h _ => ?_)
   ·refine ACode_skip ?_
    refine kB (fun s28 => [(0, .d (.pv (colD p0) 0)), (1, iV p1), (5, .d (.pv (lonD (⟨p0, p1⟩ : Lon) m1) 0)), (6, .vec 1 0), (7, iV s28.1), (27, iV p0.p), (28, iV x4)]) (fun s28 => [.mp m1 (mapI Try.prog 2 2 s28.2.1), .vec 0 (rowsD s28.2.2)]) h (fun s28 h => ?_) (fun s28 h => ?_)
    ·refine ACode_block ?_
     refine kR ?_
     refine kN 2 rfl ?_
     refine ACode_seq ?_
     refine kR ?_
     refine kM 2 rfl ?_
     obtain ⟨hc8, h⟩ := guardO h
     refine AOps_q 33 _ rfl rfl rfl (QOp_shr _ _ _ _ _ _ _ _ hc8 rfl rfl rfl) ?_
     refine AOps_q 34 _ rfl rfl rfl (QOp_and _ _ _ _ _ _ _ rfl rfl rfl) ?_
     refine AOps_q 35 _ rfl rfl rfl (QOp_eql _ _ _ _ _ _ _ rfl rfl rfl) ?_
     refine AOps_nil ?_
     refine kI h rfl (fun h _ => ?_) (fun h _ => ?_)
     ·refine ACode_exit ?_
      cases h
      exact Weak_keep 0 hm [0, 1, 5, 6, 7, 27, 28] [0, 1] _ _ rfl rfl rfl
     refine ACode_skip ?_
     refine ACode_seq (ACode_anyU mixed ?_)
     refine AU_u 0 36 _ rfl (by kernel_rfl) rfl rfl rfl (UOp_move _ _ rfl rfl) ?_
     refine AU_u 1 37 _ rfl (by kernel_rfl) rfl rfl rfl (UOp_move _ _ rfl rfl) ?_
     refine AU_u 3 39 _ rfl (by kernel_rfl) rfl rfl rfl (UOp_move _ _ rfl rfl) ?_
     refine AU_u 4 40 _ rfl (by kernel_rfl) rfl rfl rfl (UOp_move _ _ rfl rfl) ?_
     obtain ⟨hc10, h⟩ := guardO h
     refine AU_u 5 41 _ rfl (by kernel_rfl) rfl rfl rfl (UOp_shl _ _ _ _ _ _ _ _ hc10 rfl rfl rfl) ?_
     refine AU_u 6 42 _ rfl (by kernel_rfl) rfl rfl rfl (UOp_andNot _ _ _ _ _ _ _ rfl rfl rfl) ?_
     refine AU_all [2] (by kernel_rfl) rfl (allc ?_ (fun _ h => nomatch h))
     refine US_of 2 rfl rfl ?_
     obtain ⟨r11, hr11, h⟩ := bindO h
     refine kC [0] 38 (iV r11.1) [.mp m1 (mapI Try.prog 2 2 r11.2), .vec 0 (rowsD x6)] rfl Try.call89 rfl rfl (impl_matcher_behind_ac k (⟨p0, p1⟩ : Lon) x5 x3 _ hr11) rfl ?_
     refine AOps_nil ?_
     refine AU_u 7 9 _ rfl (by kernel_rfl) rfl rfl rfl (UOp_assign _ _ rfl rfl) ?_
     refine AU_u 8 10 _ rfl (by kernel_rfl) rfl rfl rfl (UOp_assign _ _ rfl rfl) ?_
     refine AU_done (by kernel_rfl) ?_
     refine kR ?_
     refine kN 2 rfl ?_
     refine kR ?_
     refine kM 1 rfl ?_
     refine AOps_q 45 _ rfl rfl rfl (QOp_add _ _ _ _ _ _ _ rfl rfl rfl) ?_
     refine kN 1 rfl ?_
     refine ACode_block ?_
     refine ACode_loopW (fun k1 E H => ∃ (x12 : Int) (x13 : Int) (x14 : List (MK × Int)) (x15 : List (List Int)), E = [(0, .d (.pv (colD p0) 0)), (1, iV p1), (5, .d (.pv (lonD (⟨p0, p1⟩ : Lon) m1) 0)), (6, .vec 1 0), (7, iV x12), (8, iV x4), (9, iV r11.1), (10, iV (bAndNot .i64 x3 (bShl .i64 1 x4))), (11, iV x13), (27, iV p0.p), (28, iV x4)] ∧ H = [.mp m1 (mapI Try.prog 2 2 x14), .vec 0 (rowsD x15)] ∧ impl_Colouring_matching_l1 k p0 p1 x3 x4 r11 k1 x12 x13 x14 x15 = some s28) k _ _ (Weak_keep 0 hm [0, 1, 5, 6, 7, 8, 9, 10, 11, 27, 28] [0, 1] _ _ rfl rfl rfl) ⟨_, _, _, _, rfl, rfl, h⟩ ?_
     clear h
     rintro k1 E H ⟨x12, x13, x14, x15, rfl, rfl, h⟩
     cases k1 with
     | zero => cases (show (none : Option (Int × List (MK × Int) × List (List Int))) = some _ from h)
     | succ k1 =>
      rw [impl_Colouring_matching_l1] at h
      refine ACode_seq ?_
      refine kR ?_
      refine kM 2 rfl ?_
      refine AOps_q 48 _ rfl rfl rfl (QOp_nilCheck_pv _ _ _ rfl rfl) ?_
      refine AOps_q 49 _ rfl rfl rfl (QOp_fieldAddr_pv _ _ _ _ _ 0 _ _ rfl Try.underlying27 rfl _ Try.sizeOf2 rfl rfl) ?_
      refine AOps_q 50 _ rfl rfl rfl (QOp_load_pv _ _ _ _ _ rfl Try.isAgg2 rfl rfl) ?_
      refine AOps_q 51 _ rfl rfl rfl (QOp_lss _ _ _ _ _ _ _ rfl rfl rfl) ?_
      refine AOps_nil ?_
      refine kI h rfl (fun h _ => ?_) (fun h _ => ?_)
      ·refine ACode_skip ?_
       refine kO (fun s27 => [(0, .d (.pv (colD p0) 0)), (1, iV p1), (5, .d (.pv (lonD (⟨p0, p1⟩ : Lon) m1) 0)), (6, .vec 1 0), (7, iV x12), (8, iV x4), (9, iV r11.1), (10, iV (bAndNot .i64 x3 (bShl .i64 1 x4))), (11, iV x13), (27, iV p0.p), (28, iV x4)]) (fun s27 => [.mp m1 (mapI Try.prog 2 2 s27), .vec 0 (rowsD x15)]) h (fun os27 h hks27 => ?_) (fun s27 h => ?_)
       ·refine ACode_block ?_
        refine kB (fun s23 => [(0, .d (.pv (colD p0) 0)), (1, iV p1), (5, .d (.pv (lonD (⟨p0, p1⟩ : Lon) m1) 0)), (6, .vec 1 0), (7, iV x12), (8, iV x4), (9, iV r11.1), (10, iV (bAndNot .i64 x3 (bShl .i64 1 x4))), (11, iV x13), (27, iV p0.p), (28, iV x4), (76, bV s23.1)]) (fun s23 => [.mp m1 (mapI Try.prog 2 2 s23.2), .vec 0 (rowsD x15)]) h (fun s23 h => ?_) (fun s23 h => ?_)
        ·refine (ACode_region ?_)
         refine kM 2 rfl ?_
         obtain ⟨hc17, h⟩ := guardO h
         refine AOps_q 56 _ rfl rfl rfl (QOp_shr _ _ _ _ _ _ _ _ hc17 rfl rfl rfl) ?_
         refine AOps_q 57 _ rfl rfl rfl (QOp_and _ _ _ _ _ _ _ rfl rfl rfl) ?_
         refine AOps_q 58 _ rfl rfl rfl (QOp_eql _ _ _ _ _ _ _ rfl rfl rfl) ?_
         refine kM 1 rfl ?_
         refine AOps_case 59 _ rfl (fun hb18 => ?_) (fun hb18 => ?_)
         ·have h := iteT hb18 h
          refine kM 4 rfl ?_
          obtain ⟨r19, hr19, h⟩ := bindO h
          refine kC [] 64 (bV r19) [.mp m1 (mapI Try.prog 2 2 x14), .vec 0 (rowsD x15)] rfl Try.call73 rfl rfl (impl_Colouring_joins_ac p0 x4 x13 p1 _ hr19) rfl ?_
          refine kM 2 rfl ?_
          refine AOps_case 66 _ rfl (fun hb20 => ?_) (fun hb20 => ?_)
          ·have h := iteT hb20 h
           refine kM 3 rfl ?_
           obtain ⟨hc21, h⟩ := guardO h
           refine AOps_q 70 _ rfl rfl rfl (QOp_shl _ _ _ _ _ _ _ _ hc21 rfl rfl rfl) ?_
           refine AOps_q 71 _ rfl rfl rfl (QOp_andNot _ _ _ _ _ _ _ rfl rfl rfl) ?_
           obtain ⟨r22, hr22, h⟩ := bindO h
           refine kC [0] 72 (iV r22.1) [.mp m1 (mapI Try.prog 2 2 r22.2), .vec 0 (rowsD x15)] rfl Try.call89 rfl rfl (impl_matcher_behind_ac k (⟨p0, p1⟩ : Lon) x14 (bAndNot .i64 (bAndNot .i64 x3 (bShl .i64 1 x4)) (bShl .i64 1 x13)) _ hr22) rfl ?_
           refine AOps_q 73 _ rfl rfl rfl (QOp_add _ _ _ _ _ _ _ rfl rfl rfl) ?_
           refine kM 1 rfl ?_
           refine AOps_q 75 _ rfl rfl rfl (QOp_eql _ _ _ _ _ _ _ rfl rfl rfl) ?_
           refine kN 1 rfl ?_
           cases h
           exact Weak_keep 0 hm [0, 1, 5, 6, 7, 8, 9, 10, 11, 27, 28, 76] [0, 1] _ _ rfl rfl rfl
          have h := iteF hb20 h
          refine AOps_skip 67 rfl rfl rfl ?_
          refine AOps_skip 68 rfl rfl rfl ?_
          refine AOps_skip 69 rfl rfl rfl ?_
          refine AOps_skip 70 rfl rfl rfl ?_
          refine AOps_skip 71 rfl rfl rfl ?_
          refine AOps_skip 72 rfl rfl rfl ?_
          refine AOps_skip 73 rfl rfl rfl ?_
          refine AOps_skip 74 rfl rfl rfl ?_
          refine AOps_skip 75 rfl rfl rfl ?_
          refine kN 1 rfl ?_
          cases h
          exact Weak_keep 0 hm [0, 1, 5, 6, 7, 8, 9, 10, 11, 27, 28, 76] [0, 1] _ _ rfl rfl rfl
         have h := iteF hb18 h
         refine AOps_skip 60 rfl rfl rfl ?_
         refine AOps_skip 61 rfl rfl rfl ?_
         refine AOps_skip 62 rfl rfl rfl ?_
         refine AOps_skip 63 rfl rfl rfl ?_
         refine AOps_skip 64 rfl rfl rfl ?_
         refine kM 2 rfl ?_
         refine AOps_skip 67 rfl rfl rfl ?_
         refine AOps_skip 68 rfl rfl rfl ?_
         refine AOps_skip 69 rfl rfl rfl ?_
         refine AOps_skip 70 rfl rfl rfl ?_
         refine AOps_skip 71 rfl rfl rfl ?_
         refine AOps_skip 72 rfl rfl rfl ?_
         refine AOps_skip 73 rfl rfl rfl ?_
         refine AOps_skip 74 rfl rfl rfl ?_
         refine AOps_skip 75 rfl rfl rfl ?_
         refine kN 1 rfl ?_
         cases h
         exact Weak_keep 0 hm [0, 1, 5, 6, 7, 8, 9, 10, 11, 27, 28, 76] [0, 1] _ _ rfl rfl rfl
        refine kI h rfl (fun h _ => ?_) (fun h _ => ?_)
        ·refine ACode_seq (ACode_anyU mixed ?_)
         refine AU_u 0 77 _ rfl (by kernel_rfl) rfl rfl rfl (UOp_move _ _ rfl rfl) ?_
         refine AU_u 1 78 _ rfl (by kernel_rfl) rfl rfl rfl (UOp_move _ _ rfl rfl) ?_
         refine AU_u 2 79 _ rfl (by kernel_rfl) rfl rfl rfl (UOp_move _ _ rfl rfl) ?_
         refine AU_u 6 83 _ rfl (by kernel_rfl) rfl rfl rfl (UOp_move _ _ rfl rfl) ?_
         refine AU_u 7 84 _ rfl (by kernel_rfl) rfl rfl rfl (UOp_move _ _ rfl rfl) ?_
         obtain ⟨hc25, h⟩ := guardO h
         refine AU_u 8 85 _ rfl (by kernel_rfl) rfl rfl rfl (UOp_shl _ _ _ _ _ _ _ _ hc25 rfl rfl rfl) ?_
         refine AU_u 9 86 _ rfl (by kernel_rfl) rfl rfl rfl (UOp_andNot _ _ _ _ _ _ _ rfl rfl rfl) ?_
         refine AU_all [3] (by kernel_rfl) rfl (allc ?_ (fun _ h => nomatch h))
         refine US_of 3 rfl rfl ?_
         refine AOps_buildSlice 80 _ _ _ [_, _] (intsD ([x4, x13])) _ rfl rfl rfl rfl rfl (by decide) Try.underlying34 Try.sizeOf2 (zero_of Try.typeInfo2 rfl) rfl rfl (intsD_one _) ?_
         refine AOps_nil ?_
         refine AU_all [4] (by kernel_rfl) rfl (allc ?_ (fun _ h => nomatch h))
         refine US_of 4 rfl rfl ?_
         refine AOps_freeze 80 2 0 _ rfl rfl ?_
         refine AOps_buildSlice 81 _ _ _ [_] (rowsD ([[x4, x13]])) _ rfl rfl rfl rfl rfl (by decide) Try.underlying45 Try.sizeOf34 (zero_of Try.typeInfo34 rfl) rfl rfl (rowsD_one _) ?_
         refine AOps_nil ?_
         refine AU_all [5] (by kernel_rfl) rfl (allc ?_ (fun _ h => nomatch h))
         refine US_of 5 rfl rfl ?_
         obtain ⟨hc26, h⟩ := guardO h
         refine AOps_append 82 _ _ _ _ _ _ _ _ _ _ _ _ rfl rfl rfl rfl rfl rfl rfl Try.underlying45 Try.type34 rfl rfl rfl (by decide) rfl rfl rfl rfl (rowsD_one _) (by rw [rowsD_length, rowsD_length]; exact hc26) ?_
         rw [rowsD_app]
         refine AOps_nil ?_
         refine AU_u 10 6 _ rfl (by kernel_rfl) rfl rfl rfl (UOp_assign _ _ rfl rfl) ?_
         refine AU_u 11 7 _ rfl (by kernel_rfl) rfl rfl rfl (UOp_assign _ _ rfl rfl) ?_
         refine AU_done (by kernel_rfl) ?_
         refine ACode_exit ?_
         obtain ⟨rr, hz30, h2⟩ := bindO h
         obtain rfl := Option.some.inj h2
         obtain rfl := Option.some.inj (show some rr = some _ from hks27)
         have h := hz30
         cases h
         exact Weak_trans (Weak_keep 0 hm [0, 1, 5, 6, 7, 27, 28] [0, 1] _ _ rfl rfl rfl) (Weak_reset 0 hm hz [0, 1, 5, 6, 7, 27, 28] _ _ rfl rfl)
        refine ACode_skip ?_
        cases h
        exact ⟨_, rfl, Weak_keep 0 hm [0, 1, 5, 6, 7, 8, 9, 10, 11, 27, 28] [0, 1] _ _ rfl rfl rfl⟩
       refine (ACode_region ?_)
       refine kM 1 rfl ?_
       refine AOps_q 53 _ rfl rfl rfl (QOp_add _ _ _ _ _ _ _ rfl rfl rfl) ?_
       refine kN 1 rfl ?_
       exact ⟨k1, _, _, Nat.lt_succ_self _, Weak_keep 0 hm [0, 1, 5, 6, 7, 8, 9, 10, 11, 27, 28] [0, 1] _ _ rfl rfl rfl, _, _, _, _, rfl, rfl, h⟩
      refine ACode_exit ?_
      cases h
      exact Weak_keep 0 hm [0, 1, 5, 6, 7, 27, 28] [0, 1] _ _ rfl rfl rfl
    refine (ACode_region ?_)
    refine AOps_q 87 _ rfl rfl rfl (QOp_add _ _ _ _ _ _ _ rfl rfl rfl) ?_
    refine kN 1 rfl ?_
    exact ⟨k0, _, _, Nat.lt_succ_self _, Weak_keep 0 hm [0, 1, 5, 6, 7, 27, 28] [0, 1] _ _ rfl rfl rfl, _, _, _, _, rfl, rfl, h⟩
   refine ACode_exit ?_
   cases h
   exact Weak_keep 0 hm [6] [1] _ _ rfl rfl rfl
 refine kR ?_
 refine kN 2 rfl ?_
 refine ACode_ret ?_
 cases h
 exact ⟨_, _, Weak_reset 0 hm hz [4] _ _ rfl rfl, _, _, [0], _, (.cons (ResV_tmp _ _ rfl) .nil), rfl, rfl, rfl, rfl, rfl⟩

-- loop.example/g01362/impl.GreatestMatching
def impl_GreatestMatching (k : Nat) (p0 : Col) (p1 : Int) : Option (Option (List (List Int)) × Int) :=
 (impl_Colouring_colourCode k p0 p1 true).bind fun r1 => (if !decide (r1 = 0) then some (none, r1) else (impl_Colouring_matching k p0 p1).bind fun r3 => some (some r3, 0))
set_option maxRecDepth 100000 in
theorem impl_GreatestMatching_ac (k : Nat) (p0 : Col) (p1 : Int) (r : Option (List (List Int)) × Int) (h : impl_GreatestMatching k p0 p1 = some r) : AC Try.prog 24 [.d (.agg (colD p0)), iV p1] [] (fun res H' => res = [ownA 0 (r.1.map rowsD), iV r.2] ∧ H' = [] ++ ownH (r.1.map rowsD)) := by
 refine AC_of_body false Try.func24 rfl Try.ntmps24 (rvs := [.tmp 4, .tmp 5]) rfl rfl (fun G hG => ?_)
 have hm : G.H.length = 0 := by rw [hG]; rfl
 have hz : zeroG G.H = true := by rw [hG]; rfl
 unfold impl_GreatestMatching at h
 refine kR ?_
 refine AOps_boxI 2 _ _ (.agg (colD p0)) (colD p0) rfl (colD_one _) rfl rfl rfl rfl rfl ?_
 refine kN 2 rfl ?_
 refine ACode_seq ?_
 refine kR ?_
 refine kM 1 rfl ?_
 obtain ⟨r1, hr1, h⟩ := bindO h
 refine kC [] 8 (iV r1) [] rfl Try.call46 rfl rfl (impl_Colouring_colourCode_ac k p0 p1 true _ hr1) rfl ?_
 refine kN 1 rfl ?_
 refine kR ?_
 refine kM 1 rfl ?_
 refine AOps_q 10 _ rfl rfl rfl (QOp_neq _ _ _ _ _ _ _ rfl rfl rfl) ?_
 refine AOps_nil ?_
 refine kI h rfl (fun h _ => ?_) (fun h _ => ?_)
 ·refine kR ?_
  refine kN 3 rfl ?_
  refine ACode_ret ?_
  cases h
  exact ⟨_, _, fun r a w h => ⟨r, h⟩, _, _, [], _, (.cons (ResV_tmp _ _ rfl) (.cons (ResV_tmp _ _ rfl) .nil)), rfl, rfl, rfl, rfl, rfl⟩
 refine ACode_skip ?_
 refine kR ?_
 refine kM 1 rfl ?_
 obtain ⟨r3, hr3, h⟩ := bindO h
 refine kC [] 13 (.vec 0 0) [.vec 0 (rowsD r3)] rfl Try.call53 rfl rfl (impl_Colouring_matching_ac k p0 p1 _ hr3) rfl ?_
 refine kN 2 rfl ?_
 refine ACode_ret ?_
 cases h
 exact ⟨_, _, Weak_reset 0 hm hz [4, 5] _ _ rfl rfl, _, _, [0], _, (.cons (ResV_tmp _ _ rfl) (.cons (ResV_tmp _ _ rfl) .nil)), rfl, rfl, rfl, rfl, rfl⟩

-- loop.example/g01362/spec.l01In
def spec_l01In (p0 : Int) (p1 : Int) (p2 : Int) : Bool :=
 letO (if decide (p1 ≤ p0) then decide (p0 ≤ p2) else false) fun (s2 : Bool) => s2
set_option maxRecDepth 100000 in
theorem spec_l01In_ac (p0 : Int) (p1 : Int) (p2 : Int) : AC Try.prog 38 [iV p0, iV p1, iV p2] [] (fun res H' => res = [bV (spec_l01In p0 p1 p2)] ∧ H' = []) := by
 refine AC_of_body true Try.func38 rfl Try.ntmps38 (rvs := [.tmp 6]) rfl rfl (fun G hG => ?_)
 have hm : G.H.length = 0 := by rw [hG]; rfl
 have hz : zeroG G.H = true := by rw [hG]; rfl
 obtain ⟨r, h⟩ : ∃ r, spec_l01In p0 p1 p2 = r := ⟨_, rfl⟩
 rw [h]
 unfold spec_l01In at h
 refine kR ?_
 refine kN 1 rfl ?_
 refine kL (fun s2 => [(6, bV s2)]) (fun s2 => []) h (fun s2 h => ?_) (fun s2 h => ?_)
 ·refine (ACode_region ?_)
  refine kM 2 rfl ?_
  refine AOps_q 9 _ rfl rfl rfl (QOp_geq _ _ _ _ _ _ _ rfl rfl rfl) ?_
  refine kM 1 rfl ?_
  refine AOps_case 10 _ rfl (fun hb1 => ?_) (fun hb1 => ?_)
  ·have h := iteT hb1 h
   refine kM 2 rfl ?_
   refine AOps_q 13 _ rfl rfl rfl (QOp_leq _ _ _ _ _ _ _ rfl rfl rfl) ?_
   refine kN 2 rfl ?_
   cases h
   exact Weak_keep 0 hm [6] [] _ _ rfl rfl rfl
  have h := iteF hb1 h
  refine AOps_skip 11 rfl rfl rfl ?_
  refine AOps_skip 12 rfl rfl rfl ?_
  refine AOps_skip 13 rfl rfl rfl ?_
  refine kN 2 rfl ?_
  cases h
  exact Weak_keep 0 hm [6] [] _ _ rfl rfl rfl
 refine ACode_ret ?_
 cases h
 exact ⟨_, _, fun r a w h => ⟨r, h⟩, _, _, [], _, (.cons (ResV_tmp _ _ rfl) .nil), rfl, rfl, rfl, rfl, rfl⟩

-- loop.example/g01362/spec.l01Is
def spec_l01Is_l0 (k : Nat) (p0 : Col) : Nat → Int → Option (Sum (Unit) (Bool))
 | 0, _ => none
 | k0 + 1, x7 => (if decide (x7 < 136) then (((if decide (x7 < w64 ((w64 (p0.p * (w64 (p0.p - 1)))).tdiv 2)) then (if 0 ≤ x7 ∧ x7 < 136 then (if decide (p0.k ≤ ((p0.get x7.toNat).toNat : Int)) then some true else (if decide (w64 ((w64 (p0.p * (w64 (p0.p - 1)))).tdiv 2) ≤ x7) then (if 0 ≤ x7 ∧ x7 < 136 then some (!decide (((p0.get x7.toNat).toNat : Int) = 0)) else none) else some false)) else none) else (if decide (w64 ((w64 (p0.p * (w64 (p0.p - 1)))).tdiv 2) ≤ x7) then (if 0 ≤ x7 ∧ x7 < 136 then some (!decide (((p0.get x7.toNat).toNat : Int) = 0)) else none) else some false)) : Option (Bool)).bind fun s16 => (if s16 then (some (.inr false)).bind fun rr => some (.inr rr) else some (.inl ())) : Option (Sum (Unit) (Sum (Unit) (Bool)))).bind fun os18 => (match os18 with | .inl s18 => spec_l01Is_l0 k p0 k0 (w64 (x7 + 1)) | .inr rr => some rr) else some (.inl ()))
def spec_l01Is (k : Nat) (p0 : Col) : Option (Bool) :=
 (letO (if !(spec_l01In p0.p 1 17) then true else !(spec_l01In p0.k 1 4)) fun (s4 : Bool) => (if s4 then some (.inr false) else some (.inl ())) : Option (Sum (Unit) (Bool))).bind fun os6 => (match os6 with | .inl s6 => (spec_l01Is_l0 k p0 k 0 : Option (Sum (Unit) (Bool))).bind fun os19 => (match os19 with | .inl s19 => some true | .inr rr => some rr) | .inr rr => some rr)
set_option maxRecDepth 100000 in
theorem spec_l01Is_ac (k : Nat) (p0 : Col) (r : Bool) (h : spec_l01Is k p0 = some r) : AC Try.prog 78 [.d (.agg (colD p0))] [] (fun res H' => res = [bV r] ∧ H' = []) := by
 refine AC_of_body true Try.func78 rfl Try.ntmps78 (rvs := [.tmp 2]) rfl rfl (fun G hG => ?_)
 have hm : G.H.length = 0 := by rw [hG]; rfl
 have hz : zeroG G.H = true := by rw [hG]; rfl
 unfold spec_l01Is at h
 refine kR ?_
 refine AOps_boxI 1 _ _ (.agg (colD p0)) (colD p0) rfl (colD_one _) rfl rfl rfl rfl rfl ?_
 refine kN 1 rfl ?_
 refine kO (fun s6 => [(1, .d (.pv (colD p0) 0))]) (fun s6 => []) h (fun os6 h hks6 => ?_) (fun s6 h => ?_)
 ·refine kL (fun s4 => [(1, .d (.pv (colD p0) 0)), (14, bV s4)]) (fun s4 => []) h (fun s4 h => ?_) (fun s4 h => ?_)
  ·refine (ACode_region ?_)
   refine AOps_q 5 _ rfl rfl rfl (QOp_fieldAddr_pv _ _ _ _ _ 0 _ _ rfl Try.underlying27 rfl _ Try.sizeOf2 rfl rfl) ?_
   refine AOps_q 6 _ rfl rfl rfl (QOp_load_pv _ _ _ _ _ rfl Try.isAgg2 rfl rfl) ?_
   refine kC [] 7 (bV (spec_l01In p0.p 1 17)) [] rfl Try.call38 rfl rfl (spec_l01In_ac p0.p 1 17) rfl ?_
   refine AOps_q 8 _ rfl rfl rfl (QOp_not _ _ _ rfl rfl) ?_
   refine kM 1 rfl ?_
   refine AOps_case 9 _ rfl (fun hb2 => ?_) (fun hb2 => ?_)
   ·have h := iteT hb2 h
    refine AOps_skip 10 rfl rfl rfl ?_
    refine AOps_skip 11 rfl rfl rfl ?_
    refine AOps_skip 12 rfl rfl rfl ?_
    refine AOps_skip 13 rfl rfl rfl ?_
    refine kN 1 rfl ?_
    cases h
    exact Weak_keep 0 hm [1, 14] [] _ _ rfl rfl rfl
   have h := iteF hb2 h
   refine AOps_q 10 _ rfl rfl rfl (QOp_fieldAddr_pv _ _ _ _ _ 1 _ _ rfl Try.underlying27 rfl _ Try.sizeOf2 rfl rfl) ?_
   refine AOps_q 11 _ rfl rfl rfl (QOp_load_pv _ _ _ _ _ rfl Try.isAgg2 rfl rfl) ?_
   refine kC [] 12 (bV (spec_l01In p0.k 1 4)) [] rfl Try.call38 rfl rfl (spec_l01In_ac p0.k 1 4) rfl ?_
   refine AOps_q 13 _ rfl rfl rfl (QOp_not _ _ _ rfl rfl) ?_
   refine kN 1 rfl ?_
   cases h
   exact Weak_keep 0 hm [1, 14] [] _ _ rfl rfl rfl
  refine kI h rfl (fun h _ => ?_) (fun h _ => ?_)
  ·refine kR ?_
   refine kN 1 rfl ?_
   refine ACode_ret ?_
   cases h
   have h := hks6
   cases h
   exact ⟨_, _, fun r a w h => ⟨r, h⟩, _, _, [], _, (.cons (ResV_tmp _ _ rfl) .nil), rfl, rfl, rfl, rfl, rfl⟩
  refine ACode_skip ?_
  cases h
  exact ⟨_, rfl, Weak_keep 0 hm [1] [] _ _ rfl rfl rfl⟩
 refine kR ?_
 refine AOps_q 15 _ rfl rfl rfl (QOp_fieldAddr_pv _ _ _ _ _ 0 _ _ rfl Try.underlying27 rfl _ Try.sizeOf2 rfl rfl) ?_
 refine AOps_q 16 _ rfl rfl rfl (QOp_load_pv _ _ _ _ _ rfl Try.isAgg2 rfl rfl) ?_
 refine AOps_q 17 _ rfl rfl rfl (QOp_fieldAddr_pv _ _ _ _ _ 0 _ _ rfl Try.underlying27 rfl _ Try.sizeOf2 rfl rfl) ?_
 refine AOps_q 18 _ rfl rfl rfl (QOp_load_pv _ _ _ _ _ rfl Try.isAgg2 rfl rfl) ?_
 refine AOps_q 19 _ rfl rfl rfl (QOp_sub _ _ _ _ _ _ _ rfl rfl rfl) ?_
 refine AOps_q 20 _ rfl rfl rfl (QOp_mul _ _ _ _ _ _ _ rfl rfl rfl) ?_
 refine AOps_q 21 _ rfl rfl rfl (QOp_quo _ _ _ _ _ _ _ (by decide) rfl rfl rfl) ?_
 refine kN 1 rfl ?_
 refine kO (fun s19 => []) (fun s19 => []) h (fun os19 h hks19 => ?_) (fun s19 h => ?_)
 ·refine kR ?_
  refine kN 1 rfl ?_
  refine ACode_block ?_
  refine ACode_loopW (fun k0 E H => ∃ (x7 : Int), E = [(1, .d (.pv (colD p0) 0)), (3, iV (w64 ((w64 (p0.p * (w64 (p0.p - 1)))).tdiv 2))), (4, iV x7)] ∧ H = [] ∧ spec_l01Is_l0 k p0 k0 x7 = some os19) k _ _ (Weak_keep 0 hm [1, 3, 4] [] _ _ rfl rfl rfl) ⟨_, rfl, rfl, h⟩ ?_
  clear h
  rintro k0 E H ⟨x7, rfl, rfl, h⟩
  cases k0 with
  | zero => cases (show (none : Option (Sum (Unit) (Bool))) = some _ from h)
  | succ k0 =>
   rw [spec_l01Is_l0] at h
   refine ACode_seq ?_
   refine kR ?_
   refine kM 1 rfl ?_
   refine AOps_q 23 _ rfl rfl rfl (QOp_lss _ _ _ _ _ _ _ rfl rfl rfl) ?_
   refine AOps_nil ?_
   refine kI h rfl (fun h _ => ?_) (fun h _ => ?_)
   ·refine ACode_skip ?_
    refine kO (fun s18 => [(1, .d (.pv (colD p0) 0)), (3, iV (w64 ((w64 (p0.p * (w64 (p0.p - 1)))).tdiv 2))), (4, iV x7)]) (fun s18 => []) h (fun os18 h hks18 => ?_) (fun s18 h => ?_)
    ·refine ACode_block ?_
     refine kB (fun s16 => [(1, .d (.pv (colD p0) 0)), (3, iV (w64 ((w64 (p0.p * (w64 (p0.p - 1)))).tdiv 2))), (4, iV x7), (50, bV s16)]) (fun s16 => []) h (fun s16 h => ?_) (fun s16 h => ?_)
     ·refine (ACode_quiet mixed (by kernel_rfl) ?_)
      refine kQ 2 rfl ?_
      refine AQ_q 28 _ rfl rfl rfl (QOp_lss _ _ _ _ _ _ _ rfl rfl rfl) ?_
      refine kQ 1 rfl ?_
      refine AQ_case 29 _ rfl (fun hb9 => ?_) (fun hb9 => ?_)
      ·have h := iteT hb9 h
       refine kQ 1 rfl ?_
       refine AQ_q 31 _ rfl rfl rfl (QOp_fieldAddr_pv _ _ _ _ _ 2 _ _ rfl Try.underlying27 rfl _ Try.sizeOf22 rfl rfl) ?_
       obtain ⟨hc10, h⟩ := guardO h
       refine AQ_q 32 _ rfl rfl rfl (QOp_indexAddrA_pv _ _ _ _ _ _ _ _ _ rfl Try.underlying22 Try.sizeOf5 hc10.1 hc10.2 rfl rfl) ?_
       refine AQ_q 33 _ rfl rfl rfl (QOp_load_pv _ _ _ _ _ rfl Try.isAgg5 rfl (colD_get _ _ (by omega))) ?_
       refine AQ_q 34 _ rfl rfl rfl (QOp_fromByte _ _ _ _ _ rfl rfl Try.underlying2 wrap_i64_byte rfl) ?_
       refine AQ_q 35 _ rfl rfl rfl (QOp_fieldAddr_pv _ _ _ _ _ 1 _ _ rfl Try.underlying27 rfl _ Try.sizeOf2 rfl rfl) ?_
       refine AQ_q 36 _ rfl rfl rfl (QOp_load_pv _ _ _ _ _ rfl Try.isAgg2 rfl rfl) ?_
       refine AQ_q 37 _ rfl rfl rfl (QOp_geq _ _ _ _ _ _ _ rfl rfl rfl) ?_
       refine kQ 2 rfl ?_
       refine AQ_case 39 _ rfl (fun hb11 => ?_) (fun hb11 => ?_)
       ·have h := iteT hb11 h
        refine AQ_skip 40 rfl rfl rfl ?_
        refine AQ_skip 41 rfl rfl rfl ?_
        refine AQ_skip 42 rfl rfl rfl ?_
        refine AQ_skip 43 rfl rfl rfl ?_
        refine AQ_skip 44 rfl rfl rfl ?_
        refine AQ_skip 45 rfl rfl rfl ?_
        refine AQ_skip 46 rfl rfl rfl ?_
        refine AQ_skip 47 rfl rfl rfl ?_
        refine AQ_skip 48 rfl rfl rfl ?_
        refine AQ_skip 49 rfl rfl rfl ?_
        refine kQ 1 rfl ?_
        refine AQ_nil ?_
        cases h
        exact Weak_keep 0 hm [1, 3, 4, 50] [] _ _ rfl rfl rfl
       have h := iteF hb11 h
       refine kQ 2 rfl ?_
       refine AQ_q 42 _ rfl rfl rfl (QOp_geq _ _ _ _ _ _ _ rfl rfl rfl) ?_
       refine kQ 1 rfl ?_
       refine AQ_case 43 _ rfl (fun hb12 => ?_) (fun hb12 => ?_)
       ·have h := iteT hb12 h
        refine kQ 1 rfl ?_
        refine AQ_q 45 _ rfl rfl rfl (QOp_fieldAddr_pv _ _ _ _ _ 2 _ _ rfl Try.underlying27 rfl _ Try.sizeOf22 rfl rfl) ?_
        obtain ⟨hc13, h⟩ := guardO h
        refine AQ_q 46 _ rfl rfl rfl (QOp_indexAddrA_pv _ _ _ _ _ _ _ _ _ rfl Try.underlying22 Try.sizeOf5 hc13.1 hc13.2 rfl rfl) ?_
        refine AQ_q 47 _ rfl rfl rfl (QOp_load_pv _ _ _ _ _ rfl Try.isAgg5 rfl (colD_get _ _ (by omega))) ?_
        refine AQ_q 48 _ rfl rfl rfl (QOp_neq _ _ _ _ _ _ _ rfl rfl rfl) ?_
        refine kQ 2 rfl ?_
        refine AQ_nil ?_
        cases h
        exact Weak_keep 0 hm [1, 3, 4, 50] [] _ _ rfl rfl rfl
       have h := iteF hb12 h
       refine AQ_skip 44 rfl rfl rfl ?_
       refine AQ_skip 45 rfl rfl rfl ?_
       refine AQ_skip 46 rfl rfl rfl ?_
       refine AQ_skip 47 rfl rfl rfl ?_
       refine AQ_skip 48 rfl rfl rfl ?_
       refine kQ 2 rfl ?_
       refine AQ_nil ?_
       cases h
       exact Weak_keep 0 hm [1, 3, 4, 50] [] _ _ rfl rfl rfl
      have h := iteF hb9 h
      refine AQ_skip 30 rfl rfl rfl ?_
      refine AQ_skip 31 rfl rfl rfl ?_
      refine AQ_skip 32 rfl rfl rfl ?_
      refine AQ_skip 33 rfl rfl rfl ?_
      refine AQ_skip 34 rfl rfl rfl ?_
      refine AQ_skip 35 rfl rfl rfl ?_
      refine AQ_skip 36 rfl rfl rfl ?_
      refine AQ_skip 37 rfl rfl rfl ?_
      refine kQ 4 rfl ?_
      refine AQ_q 42 _ rfl rfl rfl (QOp_geq _ _ _ _ _ _ _ rfl rfl rfl) ?_
      refine kQ 1 rfl ?_
      refine AQ_case 43 _ rfl (fun hb14 => ?_) (fun hb14 => ?_)
      ·have h := iteT hb14 h
       refine kQ 1 rfl ?_
       refine AQ_q 45 _ rfl rfl rfl (QOp_fieldAddr_pv _ _ _ _ _ 2 _ _ rfl Try.underlying27 rfl _ Try.sizeOf22 rfl rfl) ?_
       obtain ⟨hc15, h⟩ := guardO h
       refine AQ_q 46 _ rfl rfl rfl (QOp_indexAddrA_pv _ _ _ _ _ _ _ _ _ rfl Try.underlying22 Try.sizeOf5 hc15.1 hc15.2 rfl rfl) ?_
       refine AQ_q 47 _ rfl rfl rfl (QOp_load_pv _ _ _ _ _ rfl Try.isAgg5 rfl (colD_get _ _ (by omega))) ?_
       refine AQ_q 48 _ rfl rfl rfl (QOp_neq _ _ _ _ _ _ _ rfl rfl rfl) ?_
       refine kQ 2 rfl ?_
       refine AQ_nil ?_
       cases h
       exact Weak_keep 0 hm [1, 3, 4, 50] [] _ _ rfl rfl rfl
      have h := iteF hb14 h
      refine AQ_skip 44 rfl rfl rfl ?_
      refine AQ_skip 45 rfl rfl rfl ?_
      refine AQ_skip 46 rfl rfl rfl ?_
      refine AQ_skip 47 rfl rfl rfl ?_
      refine AQ_skip 48 rfl rfl rfl ?_
      refine kQ 2 rfl ?_
      refine AQ_nil ?_
      cases h
      exact Weak_keep 0 hm [1, 3, 4, 50] [] _ _ rfl rfl rfl
     refine kI h rfl (fun h _ => ?_) (fun h _ => ?_)
     ·refine kR ?_
      refine kN 1 rfl ?_
      refine ACode_ret ?_
      obtain ⟨rr, hz20, h2⟩ := bindO h
      obtain rfl := Option.some.inj h2
      obtain rfl := Option.some.inj (show some rr = some _ from hks18)
      have h := hz20
      cases h
      have h := hks19
      cases h
      exact ⟨_, _, fun r a w h => ⟨r, h⟩, _, _, [], _, (.cons (ResV_tmp _ _ rfl) .nil), rfl, rfl, rfl, rfl, rfl⟩
     refine ACode_skip ?_
     cases h
     exact ⟨_, rfl, Weak_keep 0 hm [1, 3, 4] [] _ _ rfl rfl rfl⟩
    refine (ACode_region ?_)
    refine kM 1 rfl ?_
    refine AOps_q 25 _ rfl rfl rfl (QOp_add _ _ _ _ _ _ _ rfl rfl rfl) ?_
    refine kN 1 rfl ?_
    exact ⟨k0, _, _, Nat.lt_succ_self _, Weak_keep 0 hm [1, 3, 4] [] _ _ rfl rfl rfl, _, rfl, rfl, h⟩
   refine ACode_exit ?_
   cases h
   exact ⟨_, rfl, Weak_keep 0 hm [] [] _ _ rfl rfl rfl⟩
 refine kR ?_
 refine kN 1 rfl ?_
 refine ACode_ret ?_
 cases h
 exact ⟨_, _, fun r a w h => ⟨r, h⟩, _, _, [], _, (.cons (ResV_tmp _ _ rfl) .nil), rfl, rfl, rfl, rfl, rfl⟩

-- loop.example/g01362/spec.l01All
def spec_l01All_l0 (p0 : List Int) (p1 : Int) : Nat → Int → Option (Sum (Unit) (Bool))
 | 0, _ => none
 | k0 + 1, x1 => (if decide (x1 < (p0.length : Int)) then (if 0 ≤ x1 ∧ x1 < (p0.length : Int) then (if !(spec_l01In (p0.getD x1.toNat 0) 0 (w64 (p1 - 1))) then some (.inr false) else spec_l01All_l0 p0 p1 k0 (w64 (x1 + 1))) else none) else some (.inl ()))
def spec_l01All (k : Nat) (p0 : List Int) (p1 : Int) : Option (Bool) :=
 (spec_l01All_l0 p0 p1 k 0 : Option (Sum (Unit) (Bool))).bind fun os6 => (match os6 with | .inl s6 => some true | .inr rr => some rr)
set_option maxRecDepth 100000 in
theorem spec_l01All_ac (k : Nat) (p0 : List Int) (p1 : Int) (r : Bool) (h : spec_l01All k p0 p1 = some r) : AC Try.prog 79 [.d (.sl none (intsD p0)), iV p1] [] (fun res H' => res = [bV r] ∧ H' = []) := by
 refine AC_of_body true Try.func79 rfl Try.ntmps79 (rvs := [.tmp 4]) rfl rfl (fun G hG => ?_)
 have hm : G.H.length = 0 := by rw [hG]; rfl
 have hz : zeroG G.H = true := by rw [hG]; rfl
 unfold spec_l01All at h
 refine kR ?_
 refine kN 1 rfl ?_
 refine kO (fun s6 => []) (fun s6 => []) h (fun os6 h hks6 => ?_) (fun s6 h => ?_)
 ·refine kR ?_
  refine kN 1 rfl ?_
  refine ACode_block ?_
  refine ACode_loopW (fun k0 E H => ∃ (x1 : Int), E = [(0, .d (.sl none (intsD p0))), (1, iV p1), (5, iV x1)] ∧ H = [] ∧ spec_l01All_l0 p0 p1 k0 x1 = some os6) k _ _ (Weak_keep 0 hm [0, 1, 5] [] _ _ rfl rfl rfl) ⟨_, rfl, rfl, h⟩ ?_
  clear h
  rintro k0 E H ⟨x1, rfl, rfl, h⟩
  cases k0 with
  | zero => cases (show (none : Option (Sum (Unit) (Bool))) = some _ from h)
  | succ k0 =>
   rw [spec_l01All_l0] at h
   refine ACode_seq ?_
   refine kR ?_
   refine kM 2 rfl ?_
   refine AOps_q 8 _ rfl rfl rfl (QOp_len_sl _ _ _ _ _ _ _ (intsD_length _) rfl rfl rfl rfl Try.underlying34 rfl) ?_
   refine AOps_q 9 _ rfl rfl rfl (QOp_lss _ _ _ _ _ _ _ rfl rfl rfl) ?_
   refine AOps_nil ?_
   refine kI h rfl (fun h _ => ?_) (fun h _ => ?_)
   ·refine ACode_skip ?_
    refine ACode_seq ?_
    refine ACode_block ?_
    refine kR ?_
    refine kM 2 rfl ?_
    obtain ⟨hc3, h⟩ := guardO h
    refine AOps_q 14 _ rfl rfl rfl (QOp_indexAddr_sl _ _ _ _ _ _ _ _ rfl Try.underlying34 Try.sizeOf2 hc3.1 (by rw [intsD_length]; exact hc3.2) rfl rfl) ?_
    refine AOps_q 15 _ rfl rfl rfl (QOp_load_pv _ _ _ _ _ rfl Try.isAgg2 rfl (intsD_get _ _ 0 (by omega))) ?_
    refine kM 1 rfl ?_
    refine AOps_q 17 _ rfl rfl rfl (QOp_sub _ _ _ _ _ _ _ rfl rfl rfl) ?_
    refine kC [] 18 (bV (spec_l01In (p0.getD x1.toNat 0) 0 (w64 (p1 - 1)))) [] rfl Try.call38 rfl rfl (spec_l01In_ac (p0.getD x1.toNat 0) 0 (w64 (p1 - 1))) rfl ?_
    refine AOps_q 19 _ rfl rfl rfl (QOp_not _ _ _ rfl rfl) ?_
    refine AOps_nil ?_
    refine kI h rfl (fun h _ => ?_) (fun h _ => ?_)
    ·refine kR ?_
     refine kN 1 rfl ?_
     refine ACode_ret ?_
     cases h
     have h := hks6
     cases h
     exact ⟨_, _, fun r a w h => ⟨r, h⟩, _, _, [], _, (.cons (ResV_tmp _ _ rfl) .nil), rfl, rfl, rfl, rfl, rfl⟩
    refine ACode_skip ?_
    refine (ACode_region ?_)
    refine kM 1 rfl ?_
    refine AOps_q 11 _ rfl rfl rfl (QOp_add _ _ _ _ _ _ _ rfl rfl rfl) ?_
    refine kN 1 rfl ?_
    exact ⟨k0, _, _, Nat.lt_succ_self _, Weak_keep 0 hm [0, 1, 5] [] _ _ rfl rfl rfl, _, rfl, rfl, h⟩
   refine ACode_exit ?_
   cases h
   exact ⟨_, rfl, Weak_keep 0 hm [] [] _ _ rfl rfl rfl⟩
 refine kR ?_
 refine kN 1 rfl ?_
 refine ACode_ret ?_
 cases h
 exact ⟨_, _, fun r a w h => ⟨r, h⟩, _, _, [], _, (.cons (ResV_tmp _ _ rfl) .nil), rfl, rfl, rfl, rfl, rfl⟩

-- loop.example/g01362/spec.l01Given
def spec_l01Given (k : Nat) (p0 : Col) (p1 : Int) (p2 : List Int) : Option (Int) :=
 ((spec_l01Is k p0).bind fun r1 => (if !r1 then some (.inr 1) else ((if !(spec_l01In p1 0 (w64 (p0.k - 1))) then some true else (spec_l01All k p2 p0.p).bind fun r5 => some (!r5)) : Option (Bool)).bind fun s6 => (if s6 then some (.inr 2) else some (.inl ()))) : Option (Sum (Unit) (Int))).bind fun os8 => (match os8 with | .inl s8 => some 0 | .inr rr => some rr)
set_option maxRecDepth 100000 in
theorem spec_l01Given_ac (k : Nat) (p0 : Col) (p1 : Int) (p2 : List Int) (r : Int) (h : spec_l01Given k p0 p1 p2 = some r) : AC Try.prog 37 [.d (.agg (colD p0)), iV p1, .d (.sl none (intsD p2))] [] (fun res H' => res = [iV r] ∧ H' = []) := by
 refine AC_of_body true Try.func37 rfl Try.ntmps37 (rvs := [.tmp 6]) rfl rfl (fun G hG => ?_)
 have hm : G.H.length = 0 := by rw [hG]; rfl
 have hz : zeroG G.H = true := by rw [hG]; rfl
 unfold spec_l01Given at h
 refine kR ?_
 refine AOps_boxI 3 _ _ (.agg (colD p0)) (colD p0) rfl (colD_one _) rfl rfl rfl rfl rfl ?_
 refine kN 1 rfl ?_
 refine kO (fun s8 => []) (fun s8 => []) h (fun os8 h hks8 => ?_) (fun s8 h => ?_)
 ·refine ACode_block ?_
  refine kR ?_
  refine AOps_q 8 _ rfl rfl rfl (QOp_loadN_pv _ _ _ _ _ _ rfl Try.isAgg27 Try.sizeOf27 rfl (colD_all _) (colD_length _)) ?_
  obtain ⟨r1, hr1, h⟩ := bindO h
  refine kC [] 9 (bV r1) [] rfl Try.call78 rfl rfl (spec_l01Is_ac k p0 _ hr1) rfl ?_
  refine AOps_q 10 _ rfl rfl rfl (QOp_not _ _ _ rfl rfl) ?_
  refine kN 1 rfl ?_
  refine kI h rfl (fun h _ => ?_) (fun h _ => ?_)
  ·refine kR ?_
   refine kN 1 rfl ?_
   refine ACode_ret ?_
   cases h
   have h := hks8
   cases h
   exact ⟨_, _, fun r a w h => ⟨r, h⟩, _, _, [], _, (.cons (ResV_tmp _ _ rfl) .nil), rfl, rfl, rfl, rfl, rfl⟩
  refine kB (fun s6 => [(11, bV s6)]) (fun s6 => []) h (fun s6 h => ?_) (fun s6 h => ?_)
  ·refine (ACode_region ?_)
   refine kM 1 rfl ?_
   refine AOps_q 13 _ rfl rfl rfl (QOp_fieldAddr_pv _ _ _ _ _ 1 _ _ rfl Try.underlying27 rfl _ Try.sizeOf2 rfl rfl) ?_
   refine AOps_q 14 _ rfl rfl rfl (QOp_load_pv _ _ _ _ _ rfl Try.isAgg2 rfl rfl) ?_
   refine AOps_q 15 _ rfl rfl rfl (QOp_sub _ _ _ _ _ _ _ rfl rfl rfl) ?_
   refine kC [] 16 (bV (spec_l01In p1 0 (w64 (p0.k - 1)))) [] rfl Try.call38 rfl rfl (spec_l01In_ac p1 0 (w64 (p0.k - 1))) rfl ?_
   refine AOps_q 17 _ rfl rfl rfl (QOp_not _ _ _ rfl rfl) ?_
   refine kM 1 rfl ?_
   refine AOps_case 18 _ rfl (fun hb4 => ?_) (fun hb4 => ?_)
   ·have h := iteT hb4 h
    refine AOps_skip 19 rfl rfl rfl ?_
    refine AOps_skip 20 rfl rfl rfl ?_
    refine AOps_skip 21 rfl rfl rfl ?_
    refine AOps_skip 22 rfl rfl rfl ?_
    refine AOps_skip 23 rfl rfl rfl ?_
    refine kN 2 rfl ?_
    cases h
    exact Weak_keep 0 hm [11] [] _ _ rfl rfl rfl
   have h := iteF hb4 h
   refine kM 1 rfl ?_
   refine AOps_q 20 _ rfl rfl rfl (QOp_fieldAddr_pv _ _ _ _ _ 0 _ _ rfl Try.underlying27 rfl _ Try.sizeOf2 rfl rfl) ?_
   refine AOps_q 21 _ rfl rfl rfl (QOp_load_pv _ _ _ _ _ rfl Try.isAgg2 rfl rfl) ?_
   obtain ⟨r5, hr5, h⟩ := bindO h
   refine kC [] 22 (bV r5) [] rfl Try.call79 rfl rfl (spec_l01All_ac k p2 p0.p _ hr5) rfl ?_
   refine AOps_q 23 _ rfl rfl rfl (QOp_not _ _ _ rfl rfl) ?_
   refine kN 2 rfl ?_
   cases h
   exact Weak_keep 0 hm [11] [] _ _ rfl rfl rfl
  refine kI h rfl (fun h _ => ?_) (fun h _ => ?_)
  ·refine kR ?_
   refine kN 1 rfl ?_
   refine ACode_ret ?_
   cases h
   have h := hks8
   cases h
   exact ⟨_, _, fun r a w h => ⟨r, h⟩, _, _, [], _, (.cons (ResV_tmp _ _ rfl) .nil), rfl, rfl, rfl, rfl, rfl⟩
  refine ACode_skip ?_
  cases h
  exact ⟨_, rfl, Weak_keep 0 hm [] [] _ _ rfl rfl rfl⟩
 refine kR ?_
 refine kN 1 rfl ?_
 refine ACode_ret ?_
 cases h
 exact ⟨_, _, fun r a w h => ⟨r, h⟩, _, _, [], _, (.cons (ResV_tmp _ _ rfl) .nil), rfl, rfl, rfl, rfl, rfl⟩

-- loop.example/g01362/spec.l01Around
def spec_l01Around_l0 (p0 : Col) (p1 : Int) (p2 : Int) : Nat → Int → Int → Option (Int)
 | 0, _, _ => none
 | k0 + 1, x1, x2 => (if decide (x2 < p0.p) then (((if !decide (x2 = p1) then (spec_l01At p0 p1 x2).bind fun r5 => some (decide (r5 = p2)) else some false) : Option (Bool)).bind fun s6 => (if s6 then (if 0 ≤ IntKind.u64.wrap x2 then some (bOr .i64 x1 (bShl .i64 1 (IntKind.u64.wrap x2))) else none) else some x1) : Option (Int)).bind fun s9 => spec_l01Around_l0 p0 p1 p2 k0 s9 (w64 (x2 + 1)) else some x1)
def spec_l01Around (k : Nat) (p0 : Col) (p1 : Int) (p2 : Int) : Option (Int) :=
 (spec_l01Around_l0 p0 p1 p2 k 0 0 : Option (Int)).bind fun s10 => some s10
set_option maxRecDepth 100000 in
theorem spec_l01Around_ac (k : Nat) (p0 : Col) (p1 : Int) (p2 : Int) (r : Int) (h : spec_l01Around k p0 p1 p2 = some r) : AC Try.prog 83 [.d (.agg (colD p0)), iV p1, iV p2] [] (fun res H' => res = [iV r] ∧ H' = []) := by
 refine AC_of_body true Try.func83 rfl Try.ntmps83 (rvs := [.tmp 6]) rfl rfl (fun G hG => ?_)
 have hm : G.H.length = 0 := by rw [hG]; rfl
 have hz : zeroG G.H = true := by rw [hG]; rfl
 unfold spec_l01Around at h
 refine kR ?_
 refine AOps_boxI 3 _ _ (.agg (colD p0)) (colD p0) rfl (colD_one _) rfl rfl rfl rfl rfl ?_
 refine kN 1 rfl ?_
 refine kR ?_
 refine kN 1 rfl ?_
 refine kB (fun s10 => [(7, iV s10)]) (fun s10 => []) h (fun s10 h => ?_) (fun s10 h => ?_)
 ·refine kR ?_
  refine kN 1 rfl ?_
  refine ACode_block ?_
  refine ACode_loopW (fun k0 E H => ∃ (x1 : Int) (x2 : Int), E = [(1, iV p1), (2, iV p2), (3, .d (.pv (colD p0) 0)), (7, iV x1), (8, iV x2)] ∧ H = [] ∧ spec_l01Around_l0 p0 p1 p2 k0 x1 x2 = some s10) k _ _ (Weak_keep 0 hm [1, 2, 3, 7, 8] [] _ _ rfl rfl rfl) ⟨_, _, rfl, rfl, h⟩ ?_
  clear h
  rintro k0 E H ⟨x1, x2, rfl, rfl, h⟩
  cases k0 with
  | zero => cases (show (none : Option (Int)) = some _ from h)
  | succ k0 =>
   rw [spec_l01Around_l0] at h
   refine ACode_seq ?_
   refine kR ?_
   refine kM 1 rfl ?_
   refine AOps_q 10 _ rfl rfl rfl (QOp_fieldAddr_pv _ _ _ _ _ 0 _ _ rfl Try.underlying27 rfl _ Try.sizeOf2 rfl rfl) ?_
   refine AOps_q 11 _ rfl rfl rfl (QOp_load_pv _ _ _ _ _ rfl Try.isAgg2 rfl rfl) ?_
   refine AOps_q 12 _ rfl rfl rfl (QOp_lss _ _ _ _ _ _ _ rfl rfl rfl) ?_
   refine AOps_nil ?_
   refine kI h rfl (fun h _ => ?_) (fun h _ => ?_)
   ·refine ACode_skip ?_
    refine kB (fun s9 => [(1, iV p1), (2, iV p2), (3, .d (.pv (colD p0) 0)), (7, iV s9), (8, iV x2)]) (fun s9 => []) h (fun s9 h => ?_) (fun s9 h => ?_)
    ·refine ACode_block ?_
     refine kB (fun s6 => [(1, iV p1), (2, iV p2), (3, .d (.pv (colD p0) 0)), (7, iV x1), (8, iV x2), (25, bV s6)]) (fun s6 => []) h (fun s6 h => ?_) (fun s6 h => ?_)
     ·refine (ACode_region ?_)
      refine kM 2 rfl ?_
      refine AOps_q 17 _ rfl rfl rfl (QOp_neq _ _ _ _ _ _ _ rfl rfl rfl) ?_
      refine kM 1 rfl ?_
      refine AOps_case 18 _ rfl (fun hb4 => ?_) (fun hb4 => ?_)
      ·have h := iteT hb4 h
       refine AOps_q 19 _ rfl rfl rfl (QOp_loadN_pv _ _ _ _ _ _ rfl Try.isAgg27 Try.sizeOf27 rfl (colD_all _) (colD_length _)) ?_
       refine kM 2 rfl ?_
       obtain ⟨r5, hr5, h⟩ := bindO h
       refine kC [] 22 (iV r5) [] rfl Try.call98 rfl rfl (spec_l01At_ac p0 p1 x2 _ hr5) rfl ?_
       refine kM 1 rfl ?_
       refine AOps_q 24 _ rfl rfl rfl (QOp_eql _ _ _ _ _ _ _ rfl rfl rfl) ?_
       refine kN 1 rfl ?_
       cases h
       exact Weak_keep 0 hm [1, 2, 3, 7, 8, 25] [] _ _ rfl rfl rfl
      have h := iteF hb4 h
      refine AOps_skip 19 rfl rfl rfl ?_
      refine AOps_skip 20 rfl rfl rfl ?_
      refine AOps_skip 21 rfl rfl rfl ?_
      refine AOps_skip 22 rfl rfl rfl ?_
      refine AOps_skip 23 rfl rfl rfl ?_
      refine AOps_skip 24 rfl rfl rfl ?_
      refine kN 1 rfl ?_
      cases h
      exact Weak_keep 0 hm [1, 2, 3, 7, 8, 25] [] _ _ rfl rfl rfl
     refine kI h rfl (fun h _ => ?_) (fun h _ => ?_)
     ·refine (ACode_region ?_)
      refine kM 2 rfl ?_
      refine AOps_q 28 _ rfl rfl rfl (QOp_conv _ _ _ _ _ _ rfl rfl Try.underlying93 rfl) ?_
      obtain ⟨hc8, h⟩ := guardO h
      refine AOps_q 29 _ rfl rfl rfl (QOp_shl _ _ _ _ _ _ _ _ hc8 rfl rfl rfl) ?_
      refine AOps_q 30 _ rfl rfl rfl (QOp_or _ _ _ _ _ _ _ rfl rfl rfl) ?_
      refine kN 1 rfl ?_
      cases h
      exact Weak_keep 0 hm [1, 2, 3, 7, 8] [] _ _ rfl rfl rfl
     refine ACode_skip ?_
     cases h
     exact Weak_keep 0 hm [1, 2, 3, 7, 8] [] _ _ rfl rfl rfl
    refine (ACode_region ?_)
    refine kM 1 rfl ?_
    refine AOps_q 14 _ rfl rfl rfl (QOp_add _ _ _ _ _ _ _ rfl rfl rfl) ?_
    refine kN 1 rfl ?_
    exact ⟨k0, _, _, Nat.lt_succ_self _, Weak_keep 0 hm [1, 2, 3, 7, 8] [] _ _ rfl rfl rfl, _, _, rfl, rfl, h⟩
   refine ACode_exit ?_
   cases h
   exact Weak_keep 0 hm [7] [] _ _ rfl rfl rfl
 refine kR ?_
 refine kN 2 rfl ?_
 refine ACode_ret ?_
 cases h
 exact ⟨_, _, fun r a w h => ⟨r, h⟩, _, _, [], _, (.cons (ResV_tmp _ _ rfl) .nil), rfl, rfl, rfl, rfl, rfl⟩

-- loop.example/g01362/spec.l02Rows
def spec_l02Rows_l0 (k : Nat) (p0 : Col) (p1 : Int) : Nat → Int → (List Int) → Option (List Int)
 | 0, _, _ => none
 | k0 + 1, x1, x2 => (if decide (x1 < p0.p) then (spec_l01Around k p0 x1 p1).bind fun r4 => (if x2.length + ([r4]).length ≤ 1099511627776 then spec_l02Rows_l0 k p0 p1 k0 (w64 (x1 + 1)) (x2 ++ ([r4])) else none) else some x2)
def spec_l02Rows (k : Nat) (p0 : Col) (p1 : Int) : Option (List Int) :=
 (spec_l02Rows_l0 k p0 p1 k 0 ([] : List Int) : Option (List Int)).bind fun s6 => some s6
set_option maxRecDepth 100000 in
theorem spec_l02Rows_ac (k : Nat) (p0 : Col) (p1 : Int) (r : List Int) (h : spec_l02Rows k p0 p1 = some r) : AC Try.prog 80 [.d (.agg (colD p0)), iV p1] [] (fun res H' => res = [.vec 0 0] ∧ H' = [.vec 0 (intsD r)]) := by
 refine AC_of_body true Try.func80 rfl Try.ntmps80 (rvs := [.tmp 4]) rfl rfl (fun G hG => ?_)
 have hm : G.H.length = 0 := by rw [hG]; rfl
 have hz : zeroG G.H = true := by rw [hG]; rfl
 unfold spec_l02Rows at h
 refine kR ?_
 refine AOps_boxI 2 _ _ (.agg (colD p0)) (colD p0) rfl (colD_one _) rfl rfl rfl rfl rfl ?_
 refine kN 1 rfl ?_
 refine kR ?_
 refine AOps_buildSlice 7 _ _ _ [] (intsD ([] : List Int)) _ rfl rfl rfl rfl rfl (by decide) Try.underlying34 Try.sizeOf2 (zero_of Try.typeInfo2 rfl) rfl rfl (intsD_one _) ?_
 refine kN 1 rfl ?_
 refine kB (fun s6 => [(5, .vec 0 0)]) (fun s6 => [.vec 0 (intsD s6)]) h (fun s6 h => ?_) (fun s6 h => ?_)
 ·refine kR ?_
  refine kN 1 rfl ?_
  refine ACode_block ?_
  refine ACode_loopW (fun k0 E H => ∃ (x1 : Int) (x2 : List Int), E = [(1, iV p1), (2, .d (.pv (colD p0) 0)), (5, .vec 0 0), (6, iV x1)] ∧ H = [.vec 0 (intsD x2)] ∧ spec_l02Rows_l0 k p0 p1 k0 x1 x2 = some s6) k _ _ (Weak_keep 0 hm [1, 2, 5, 6] [0] _ _ rfl rfl rfl) ⟨_, _, rfl, rfl, h⟩ ?_
  clear h
  rintro k0 E H ⟨x1, x2, rfl, rfl, h⟩
  cases k0 with
  | zero => cases (show (none : Option (List Int)) = some _ from h)
  | succ k0 =>
   rw [spec_l02Rows_l0] at h
   refine ACode_seq ?_
   refine kR ?_
   refine kM 1 rfl ?_
   refine AOps_q 9 _ rfl rfl rfl (QOp_fieldAddr_pv _ _ _ _ _ 0 _ _ rfl Try.underlying27 rfl _ Try.sizeOf2 rfl rfl) ?_
   refine AOps_q 10 _ rfl rfl rfl (QOp_load_pv _ _ _ _ _ rfl Try.isAgg2 rfl rfl) ?_
   refine AOps_q 11 _ rfl rfl rfl (QOp_lss _ _ _ _ _ _ _ rfl rfl rfl) ?_
   refine AOps_nil ?_
   refine kI h rfl (fun h _ => ?_) (fun h _ => ?_)
   ·refine ACode_skip ?_
    refine ACode_seq ?_
    refine ACode_block ?_
    refine (ACode_region ?_)
    refine kM 1 rfl ?_
    refine AOps_q 15 _ rfl rfl rfl (QOp_loadN_pv _ _ _ _ _ _ rfl Try.isAgg27 Try.sizeOf27 rfl (colD_all _) (colD_length _)) ?_
    refine kM 2 rfl ?_
    obtain ⟨r4, hr4, h⟩ := bindO h
    refine kC [] 18 (iV r4) [.vec 0 (intsD x2)] rfl Try.call83 rfl rfl (spec_l01Around_ac k p0 x1 p1 _ hr4) rfl ?_
    refine AOps_buildSlice 19 _ _ _ [_] (intsD ([r4])) _ rfl rfl rfl rfl rfl (by decide) Try.underlying34 Try.sizeOf2 (zero_of Try.typeInfo2 rfl) rfl rfl (intsD_one _) ?_
    obtain ⟨hc5, h⟩ := guardO h
    refine AOps_append 20 _ _ _ _ _ _ _ _ _ _ _ _ rfl rfl rfl rfl rfl rfl rfl Try.underlying34 Try.type2 rfl rfl rfl (by decide) rfl rfl rfl rfl (intsD_one _) (by rw [intsD_length, intsD_length]; exact hc5) ?_
    rw [intsD_app]
    refine kN 1 rfl ?_
    refine (ACode_region ?_)
    refine kM 1 rfl ?_
    refine AOps_q 13 _ rfl rfl rfl (QOp_add _ _ _ _ _ _ _ rfl rfl rfl) ?_
    refine kN 1 rfl ?_
    exact ⟨k0, _, _, Nat.lt_succ_self _, Weak_trans (Weak_keep 0 hm [1, 2, 5, 6] [0] _ _ rfl rfl rfl) (Weak_reset 0 hm hz [1, 2, 5, 6] _ _ rfl rfl), _, _, rfl, rfl, h⟩
   refine ACode_exit ?_
   cases h
   exact Weak_keep 0 hm [5] [0] _ _ rfl rfl rfl
 refine kR ?_
 refine kN 2 rfl ?_
 refine ACode_ret ?_
 cases h
 exact ⟨_, _, Weak_reset 0 hm hz [4] _ _ rfl rfl, _, _, [0], _, (.cons (ResV_tmp _ _ rfl) .nil), rfl, rfl, rfl, rfl, rfl⟩

-- loop.example/g01362/spec.l04Match
def spec_l04Match_l0 (p2 : Int) : Nat → Int → Option (Int)
 | 0, _ => none
 | k0 + 1, x5 => (if 0 ≤ IntKind.u64.wrap x5 then (if decide (bAnd .i64 (bShr .i64 p2 (IntKind.u64.wrap x5)) 1 = 0) then spec_l04Match_l0 p2 k0 (w64 (x5 + 1)) else some x5) else none)
def spec_l04Match_l1 (self : (List Int) → (List Int) → Int → Option (Int × List Int)) (p0 : List Int) (p2 : Int) (s8 : Int) : Nat → Int → Int → (List Int) → Option (Int × List Int)
 | 0, _, _, _ => none
 | k1 + 1, x11, x12, x13 => (if decide (x12 < (p0.length : Int)) then (((if 0 ≤ IntKind.u64.wrap x12 then (if decide (bAnd .i64 (bShr .i64 (bXor .i64 p2 (bShl .i64 1 (IntKind.u64.wrap s8))) (IntKind.u64.wrap x12)) 1 = 1) then (if 0 ≤ s8 ∧ s8 < (p0.length : Int) then (if 0 ≤ IntKind.u64.wrap x12 then some (decide (bAnd .i64 (bShr .i64 (p0.getD s8.toNat 0) (IntKind.u64.wrap x12)) 1 = 1)) else none) else none) else some false) else none) : Option (Bool)).bind fun s19 => (if s19 then (if 0 ≤ IntKind.u64.wrap x12 then (self p0 x13 (bXor .i64 (bXor .i64 p2 (bShl .i64 1 (IntKind.u64.wrap s8))) (bShl .i64 1 (IntKind.u64.wrap x12)))).bind fun r22 => some ((if x11 < w64 (1 + r22.1) then w64 (1 + r22.1) else x11), r22.2) else none) else some (x11, x13)) : Option (Int × List Int)).bind fun s23 => spec_l04Match_l1 self p0 p2 s8 k1 s23.1 (w64 (x12 + 1)) s23.2 else some (x11, x13))
def spec_l04Match_body (self : (List Int) → (List Int) → Int → Option (Int × List Int)) (k : Nat) (p0 : List Int) (p1 : List Int) (p2 : Int) : Option (Int × List Int) :=
 (if decide (p2 = 0) then some (0, p1) else (if 0 ≤ p2 ∧ p2 < (p1.length : Int) then (if decide (0 ≤ (p1.getD p2.toNat 0)) then (if 0 ≤ p2 ∧ p2 < (p1.length : Int) then some ((p1.getD p2.toNat 0), p1) else none) else (spec_l04Match_l0 p2 k 0 : Option (Int)).bind fun s8 => (if 0 ≤ IntKind.u64.wrap s8 then (self p0 p1 (bXor .i64 p2 (bShl .i64 1 (IntKind.u64.wrap s8)))).bind fun r10 => (spec_l04Match_l1 self p0 p2 s8 k r10.1 (w64 (s8 + 1)) r10.2 : Option (Int × List Int)).bind fun s24 => (if 0 ≤ p2 ∧ p2 < (s24.2.length : Int) then some (s24.1, s24.2.set p2.toNat s24.1) else none) else none)) else none))
def spec_l04Match : Nat → (List Int) → (List Int) → Int → Option (Int × List Int)
 | 0, _, _, _ => none
 | k + 1, p0, p1, p2 => spec_l04Match_body (spec_l04Match k) k p0 p1 p2
set_option maxRecDepth 100000 in
theorem spec_l04Match_ac (k : Nat) (p0 : List Int) (p1 : List Int) (p2 : Int) (r : Int × List Int) (h : spec_l04Match k p0 p1 p2 = some r) : AC Try.prog 84 [.d (.sl none (intsD p0)), .vec 0 0, iV p2] [.vec 0 (intsD p1)] (fun res H' => res = [iV r.1] ∧ H' = [.vec 0 (intsD r.2)]) := by
 induction k generalizing p0 p1 p2 r with
 | zero => simp [spec_l04Match] at h
 | succ k ih =>
  rw [spec_l04Match] at h
  obtain ⟨self, hself, hk⟩ : ∃ self : (List Int) → (List Int) → Int → Option (Int × List Int), (∀ (p0 : List Int) (p1 : List Int) (p2 : Int) (r : Int × List Int), self p0 p1 p2 = some r → AC Try.prog 84 [.d (.sl none (intsD p0)), .vec 0 0, iV p2] [.vec 0 (intsD p1)] (fun res H' => res = [iV r.1] ∧ H' = [.vec 0 (intsD r.2)])) ∧ spec_l04Match k = self := ⟨spec_l04Match k, fun p0 p1 p2 r h => ih p0 p1 p2 r h, rfl⟩
  rw [hk] at h
  clear ih hk
  refine AC_of_body true Try.func84 rfl Try.ntmps84 (rvs := [.tmp 6]) rfl rfl (fun G hG => ?_)
  have hm : G.H.length = 1 := by rw [hG]; rfl
  have hz : zeroG G.H = true := by rw [hG]; rfl
  unfold spec_l04Match_body at h
  refine kR ?_
  refine kN 1 rfl ?_
  refine ACode_seq ?_
  refine kR ?_
  refine kM 1 rfl ?_
  refine AOps_q 12 _ rfl rfl rfl (QOp_eql _ _ _ _ _ _ _ rfl rfl rfl) ?_
  refine AOps_nil ?_
  refine kI h rfl (fun h _ => ?_) (fun h _ => ?_)
  ·refine kR ?_
   refine kN 1 rfl ?_
   refine ACode_ret ?_
   cases h
   exact ⟨_, _, fun r a w h => ⟨r, h⟩, _, _, [], _, (.cons (ResV_tmp _ _ rfl) .nil), rfl, rfl, rfl, rfl, rfl⟩
  refine ACode_skip ?_
  refine ACode_seq ?_
  refine kR ?_
  refine kM 2 rfl ?_
  obtain ⟨hc2, h⟩ := guardO h
  refine AOps_q 15 _ rfl rfl rfl (QOp_indexAddr_vec _ _ _ _ _ _ _ _ _ rfl Try.underlying34 Try.sizeOf2 hc2.1 (by rw [intsD_length]; exact hc2.2) rfl rfl rfl) ?_
  refine AOps_q 16 _ rfl rfl rfl (QOp_load_eptr _ _ _ _ _ _ _ rfl Try.isAgg2 rfl rfl (intsD_get _ _ 0 (by omega))) ?_
  refine AOps_q 17 _ rfl rfl rfl (QOp_geq _ _ _ _ _ _ _ rfl rfl rfl) ?_
  refine AOps_nil ?_
  refine kI h rfl (fun h _ => ?_) (fun h _ => ?_)
  ·refine kR ?_
   refine kM 2 rfl ?_
   obtain ⟨hc4, h⟩ := guardO h
   refine AOps_q 20 _ rfl rfl rfl (QOp_indexAddr_vec _ _ _ _ _ _ _ _ _ rfl Try.underlying34 Try.sizeOf2 hc4.1 (by rw [intsD_length]; exact hc4.2) rfl rfl rfl) ?_
   refine AOps_q 21 _ rfl rfl rfl (QOp_load_eptr _ _ _ _ _ _ _ rfl Try.isAgg2 rfl rfl (intsD_get _ _ 0 (by omega))) ?_
   refine kN 1 rfl ?_
   refine ACode_ret ?_
   cases h
   exact ⟨_, _, fun r a w h => ⟨r, h⟩, _, _, [], _, (.cons (ResV_tmp _ _ rfl) .nil), rfl, rfl, rfl, rfl, rfl⟩
  refine ACode_skip ?_
  refine kR ?_
  refine kN 1 rfl ?_
  refine kB (fun s8 => [(0, .d (.sl none (intsD p0))), (1, .vec 0 0), (2, iV p2), (7, iV s8)]) (fun s8 => [.vec 0 (intsD p1)]) h (fun s8 h => ?_) (fun s8 h => ?_)
  ·refine ACode_block ?_
   refine ACode_loopW (fun k0 E H => ∃ (x5 : Int), E = [(0, .d (.sl none (intsD p0))), (1, .vec 0 0), (2, iV p2), (7, iV x5)] ∧ H = [.vec 0 (intsD p1)] ∧ spec_l04Match_l0 p2 k0 x5 = some s8) k _ _ (Weak_keep 1 hm [0, 1, 2, 7] [] _ _ rfl rfl rfl) ⟨_, rfl, rfl, h⟩ ?_
   clear h
   rintro k0 E H ⟨x5, rfl, rfl, h⟩
   cases k0 with
   | zero => cases (show (none : Option (Int)) = some _ from h)
   | succ k0 =>
    rw [spec_l04Match_l0] at h
    refine ACode_seq ?_
    refine kR ?_
    refine kM 2 rfl ?_
    refine AOps_q 24 _ rfl rfl rfl (QOp_conv _ _ _ _ _ _ rfl rfl Try.underlying93 rfl) ?_
    obtain ⟨hc6, h⟩ := guardO h
    refine AOps_q 25 _ rfl rfl rfl (QOp_shr _ _ _ _ _ _ _ _ hc6 rfl rfl rfl) ?_
    refine AOps_q 26 _ rfl rfl rfl (QOp_and _ _ _ _ _ _ _ rfl rfl rfl) ?_
    refine AOps_q 27 _ rfl rfl rfl (QOp_eql _ _ _ _ _ _ _ rfl rfl rfl) ?_
    refine AOps_nil ?_
    refine kI h rfl (fun h _ => ?_) (fun h _ => ?_)
    ·refine ACode_skip ?_
     refine ACode_block ?_
     refine (ACode_region ?_)
     refine kM 1 rfl ?_
     refine AOps_q 29 _ rfl rfl rfl (QOp_add _ _ _ _ _ _ _ rfl rfl rfl) ?_
     refine kN 1 rfl ?_
     exact ⟨k0, _, _, Nat.lt_succ_self _, Weak_keep 1 hm [0, 1, 2, 7] [] _ _ rfl rfl rfl, _, rfl, rfl, h⟩
    refine ACode_exit ?_
    cases h
    exact Weak_keep 1 hm [0, 1, 2, 7] [] _ _ rfl rfl rfl
  refine kR ?_
  refine kM 2 rfl ?_
  refine AOps_q 32 _ rfl rfl rfl (QOp_conv _ _ _ _ _ _ rfl rfl Try.underlying93 rfl) ?_
  obtain ⟨hc9, h⟩ := guardO h
  refine AOps_q 33 _ rfl rfl rfl (QOp_shl _ _ _ _ _ _ _ _ hc9 rfl rfl rfl) ?_
  refine AOps_q 34 _ rfl rfl rfl (QOp_xor _ _ _ _ _ _ _ rfl rfl rfl) ?_
  refine kN 1 rfl ?_
  refine kR ?_
  refine kM 3 rfl ?_
  obtain ⟨r10, hr10, h⟩ := bindO h
  refine kC [0] 38 (iV r10.1) [.vec 0 (intsD r10.2)] rfl Try.call84 rfl rfl (hself p0 p1 (bXor .i64 p2 (bShl .i64 1 (IntKind.u64.wrap s8))) _ hr10) rfl ?_
  refine kN 1 rfl ?_
  refine kB (fun s24 => [(1, .vec 0 0), (2, iV p2), (9, iV s24.1)]) (fun s24 => [.vec 0 (intsD s24.2)]) h (fun s24 h => ?_) (fun s24 h => ?_)
  ·refine kR ?_
   refine kM 1 rfl ?_
   refine AOps_q 40 _ rfl rfl rfl (QOp_add _ _ _ _ _ _ _ rfl rfl rfl) ?_
   refine kN 1 rfl ?_
   refine ACode_block ?_
   refine ACode_loopW (fun k1 E H => ∃ (x11 : Int) (x12 : Int) (x13 : List Int), E = [(0, .d (.sl none (intsD p0))), (1, .vec 0 0), (2, iV p2), (7, iV s8), (8, iV (bXor .i64 p2 (bShl .i64 1 (IntKind.u64.wrap s8)))), (9, iV x11), (10, iV x12)] ∧ H = [.vec 0 (intsD x13)] ∧ spec_l04Match_l1 self p0 p2 s8 k1 x11 x12 x13 = some s24) k _ _ (Weak_keep 1 hm [0, 1, 2, 7, 8, 9, 10] [] _ _ rfl rfl rfl) ⟨_, _, _, rfl, rfl, h⟩ ?_
   clear h
   rintro k1 E H ⟨x11, x12, x13, rfl, rfl, h⟩
   cases k1 with
   | zero => cases (show (none : Option (Int × List Int)) = some _ from h)
   | succ k1 =>
    rw [spec_l04Match_l1] at h
    refine ACode_seq ?_
    refine kR ?_
    refine kM 2 rfl ?_
    refine AOps_q 43 _ rfl rfl rfl (QOp_len_sl _ _ _ _ _ _ _ (intsD_length _) rfl rfl rfl rfl Try.underlying34 rfl) ?_
    refine AOps_q 44 _ rfl rfl rfl (QOp_lss _ _ _ _ _ _ _ rfl rfl rfl) ?_
    refine AOps_nil ?_
    refine kI h rfl (fun h _ => ?_) (fun h _ => ?_)
    ·refine ACode_skip ?_
     refine kB (fun s23 => [(0, .d (.sl none (intsD p0))), (1, .vec 0 0), (2, iV p2), (7, iV s8), (8, iV (bXor .i64 p2 (bShl .i64 1 (IntKind.u64.wrap s8)))), (9, iV s23.1), (10, iV x12)]) (fun s23 => [.vec 0 (intsD s23.2)]) h (fun s23 h => ?_) (fun s23 h => ?_)
     ·refine ACode_block ?_
      refine kB (fun s19 => [(0, .d (.sl none (intsD p0))), (1, .vec 0 0), (2, iV p2), (7, iV s8), (8, iV (bXor .i64 p2 (bShl .i64 1 (IntKind.u64.wrap s8)))), (9, iV x11), (10, iV x12), (63, bV s19)]) (fun s19 => [.vec 0 (intsD x13)]) h (fun s19 h => ?_) (fun s19 h => ?_)
      ·refine (ACode_region ?_)
       refine kM 2 rfl ?_
       refine AOps_q 49 _ rfl rfl rfl (QOp_conv _ _ _ _ _ _ rfl rfl Try.underlying93 rfl) ?_
       obtain ⟨hc15, h⟩ := guardO h
       refine AOps_q 50 _ rfl rfl rfl (QOp_shr _ _ _ _ _ _ _ _ hc15 rfl rfl rfl) ?_
       refine AOps_q 51 _ rfl rfl rfl (QOp_and _ _ _ _ _ _ _ rfl rfl rfl) ?_
       refine AOps_q 52 _ rfl rfl rfl (QOp_eql _ _ _ _ _ _ _ rfl rfl rfl) ?_
       refine kM 1 rfl ?_
       refine AOps_case 53 _ rfl (fun hb16 => ?_) (fun hb16 => ?_)
       ·have h := iteT hb16 h
        refine kM 2 rfl ?_
        obtain ⟨hc17, h⟩ := guardO h
        refine AOps_q 56 _ rfl rfl rfl (QOp_indexAddr_sl _ _ _ _ _ _ _ _ rfl Try.underlying34 Try.sizeOf2 hc17.1 (by rw [intsD_length]; exact hc17.2) rfl rfl) ?_
        refine AOps_q 57 _ rfl rfl rfl (QOp_load_pv _ _ _ _ _ rfl Try.isAgg2 rfl (intsD_get _ _ 0 (by omega))) ?_
        refine kM 1 rfl ?_
        refine AOps_q 59 _ rfl rfl rfl (QOp_conv _ _ _ _ _ _ rfl rfl Try.underlying93 rfl) ?_
        obtain ⟨hc18, h⟩ := guardO h
        refine AOps_q 60 _ rfl rfl rfl (QOp_shr _ _ _ _ _ _ _ _ hc18 rfl rfl rfl) ?_
        refine AOps_q 61 _ rfl rfl rfl (QOp_and _ _ _ _ _ _ _ rfl rfl rfl) ?_
        refine AOps_q 62 _ rfl rfl rfl (QOp_eql _ _ _ _ _ _ _ rfl rfl rfl) ?_
        refine kN 1 rfl ?_
        cases h
        exact Weak_keep 1 hm [0, 1, 2, 7, 8, 9, 10, 63] [] _ _ rfl rfl rfl
       have h := iteF hb16 h
       refine AOps_skip 54 rfl rfl rfl ?_
       refine AOps_skip 55 rfl rfl rfl ?_
       refine AOps_skip 56 rfl rfl rfl ?_
       refine AOps_skip 57 rfl rfl rfl ?_
       refine AOps_skip 58 rfl rfl rfl ?_
       refine AOps_skip 59 rfl rfl rfl ?_
       refine AOps_skip 60 rfl rfl rfl ?_
       refine AOps_skip 61 rfl rfl rfl ?_
       refine AOps_skip 62 rfl rfl rfl ?_
       refine kN 1 rfl ?_
       cases h
       exact Weak_keep 1 hm [0, 1, 2, 7, 8, 9, 10, 63] [] _ _ rfl rfl rfl
      refine kI h rfl (fun h _ => ?_) (fun h _ => ?_)
      ·refine (ACode_region ?_)
       refine kM 5 rfl ?_
       refine AOps_q 69 _ rfl rfl rfl (QOp_conv _ _ _ _ _ _ rfl rfl Try.underlying93 rfl) ?_
       obtain ⟨hc21, h⟩ := guardO h
       refine AOps_q 70 _ rfl rfl rfl (QOp_shl _ _ _ _ _ _ _ _ hc21 rfl rfl rfl) ?_
       refine AOps_q 71 _ rfl rfl rfl (QOp_xor _ _ _ _ _ _ _ rfl rfl rfl) ?_
       obtain ⟨r22, hr22, h⟩ := bindO h
       refine kC [0] 72 (iV r22.1) [.vec 0 (intsD r22.2)] rfl Try.call84 rfl rfl (hself p0 x13 (bXor .i64 (bXor .i64 p2 (bShl .i64 1 (IntKind.u64.wrap s8))) (bShl .i64 1 (IntKind.u64.wrap x12))) _ hr22) rfl ?_
       refine AOps_q 73 _ rfl rfl rfl (QOp_add _ _ _ _ _ _ _ rfl rfl rfl) ?_
       refine AOps_q 74 _ rfl rfl rfl (QOp_max _ _ _ _ _ _ rfl rfl rfl rfl rfl) ?_
       refine kN 1 rfl ?_
       cases h
       exact Weak_keep 1 hm [0, 1, 2, 7, 8, 9, 10] [] _ _ rfl rfl rfl
      refine ACode_skip ?_
      cases h
      exact Weak_keep 1 hm [0, 1, 2, 7, 8, 9, 10] [] _ _ rfl rfl rfl
     refine (ACode_region ?_)
     refine kM 1 rfl ?_
     refine AOps_q 46 _ rfl rfl rfl (QOp_add _ _ _ _ _ _ _ rfl rfl rfl) ?_
     refine kN 1 rfl ?_
     exact ⟨k1, _, _, Nat.lt_succ_self _, Weak_keep 1 hm [0, 1, 2, 7, 8, 9, 10] [] _ _ rfl rfl rfl, _, _, _, rfl, rfl, h⟩
    refine ACode_exit ?_
    cases h
    exact Weak_keep 1 hm [1, 2, 9] [] _ _ rfl rfl rfl
  refine kR ?_
  refine kM 3 rfl ?_
  obtain ⟨hc25, h⟩ := guardO h
  refine AOps_q 78 _ rfl rfl rfl (QOp_indexAddr_vec _ _ _ _ _ _ _ _ _ rfl Try.underlying34 Try.sizeOf2 hc25.1 (by rw [intsD_length]; exact hc25.2) rfl rfl rfl) ?_
  refine AOps_store_eptr _ _ _ _ _ _ (intsD s24.2) _ rfl rfl rfl rfl rfl rfl rfl Try.sizeOf2 (by rw [intsD_length]; omega) ?_
  rw [intsD_set]
  refine AOps_nil ?_
  refine kR ?_
  refine kN 2 rfl ?_
  refine ACode_ret ?_
  cases h
  exact ⟨_, _, fun r a w h => ⟨r, h⟩, _, _, [], _, (.cons (ResV_tmp _ _ rfl) .nil), rfl, rfl, rfl, rfl, rfl⟩

-- loop.example/g01362/spec.l04Matching
def spec_l04Matching_l0 : Nat → Int → (List Int) → Option (List Int)
 | 0, _, _ => none
 | k0 + 1, x5, x6 => (if decide (x5 < (x6.length : Int)) then (if 0 ≤ x5 ∧ x5 < (x6.length : Int) then spec_l04Matching_l0 k0 (w64 (x5 + 1)) (x6.set x5.toNat (-1)) else none) else some x6)
def spec_l04Matching_l2 (k : Nat) (p0 : Col) (r1 : List Int) (x10 : Int) (x11 : Int) : Nat → Int → Int → (List (List Int)) → (List Int) → Option (Int × List (List Int) × List Int)
 | 0, _, _, _, _ => none
 | k2 + 1, x17, x18, x19, x20 => (if decide (x18 < p0.p) then (((if 0 ≤ IntKind.u64.wrap x18 then (if decide (bAnd .i64 (bShr .i64 x17 (IntKind.u64.wrap x18)) 1 = 1) then (if 0 ≤ x11 ∧ x11 < (r1.length : Int) then (if 0 ≤ IntKind.u64.wrap x18 then (if decide (bAnd .i64 (bShr .i64 (r1.getD x11.toNat 0) (IntKind.u64.wrap x18)) 1 = 1) then (if 0 ≤ IntKind.u64.wrap x18 then (spec_l04Match k r1 x20 (bXor .i64 x17 (bShl .i64 1 (IntKind.u64.wrap x18)))).bind fun r28 => (spec_l04Match k r1 r28.2 x10).bind fun r29 => some (decide (w64 (1 + r28.1) = r29.1), r29.2) else none) else some (false, x20)) else none) else none) else some (false, x20)) else none) : Option (Bool × List Int)).bind fun s30 => (if s30.1 then (if x19.length + ([[x11, x18]]).length ≤ 1099511627776 then (if 0 ≤ IntKind.u64.wrap x18 then (some (bXor .i64 x17 (bShl .i64 1 (IntKind.u64.wrap x18)), (x19 ++ ([[x11, x18]])), s30.2)).bind fun rr => some (.inr rr) else none) else none) else some (.inl s30.2)) : Option (Sum (List Int) (Int × List (List Int) × List Int))).bind fun os34 => (match os34 with | .inl s34 => spec_l04Matching_l2 k p0 r1 x10 x11 k2 x17 (w64 (x18 + 1)) x19 s34 | .inr rr => some rr) else some (x17, x19, x20))
def spec_l04Matching_l1 (k : Nat) (p0 : Col) (r1 : List Int) : Nat → Int → Int → (List (List Int)) → (List Int) → Option (List (List Int))
 | 0, _, _, _, _ => none
 | k1 + 1, x10, x11, x12, x13 => (if decide (x11 < p0.p) then ((if 0 ≤ IntKind.u64.wrap x11 then (if decide (bAnd .i64 x10 (bShl .i64 1 (IntKind.u64.wrap x11)) = 0) then some (x10, x12, x13) else (spec_l04Matching_l2 k p0 r1 x10 x11 k (bXor .i64 x10 (bShl .i64 1 (IntKind.u64.wrap x11))) (w64 (x11 + 1)) x12 x13 : Option (Int × List (List Int) × List Int)).bind fun s35 => some (s35.1, s35.2.1, s35.2.2)) else none) : Option (Int × List (List Int) × List Int)).bind fun s36 => spec_l04Matching_l1 k p0 r1 k1 s36.1 (w64 (x11 + 1)) s36.2.1 s36.2.2 else some x12)
def spec_l04Matching (k : Nat) (p0 : Col) (p1 : Int) : Option (List (List Int)) :=
 (spec_l02Rows k p0 p1).bind fun r1 => (if 0 ≤ IntKind.u64.wrap p0.p then (if 0 ≤ IntKind.u64.wrap p0.p then (if 0 ≤ bShl .i64 1 (IntKind.u64.wrap p0.p) ∧ bShl .i64 1 (IntKind.u64.wrap p0.p) ≤ bShl .i64 1 (IntKind.u64.wrap p0.p) ∧ bShl .i64 1 (IntKind.u64.wrap p0.p) ≤ 1099511627776 then (spec_l04Matching_l0 k 0 (List.replicate (bShl .i64 1 (IntKind.u64.wrap p0.p)).toNat (0 : Int)) : Option (List Int)).bind fun s9 => (spec_l04Matching_l1 k p0 r1 k (w64 ((bShl .i64 1 (IntKind.u64.wrap p0.p)) - 1)) 0 ([] : List (List Int)) s9 : Option (List (List Int))).bind fun s37 => some s37 else none) else none) else none)
set_option maxRecDepth 100000 in
theorem spec_l04Matching_ac (k : Nat) (p0 : Col) (p1 : Int) (r : List (List Int)) (h : spec_l04Matching k p0 p1 = some r) : AC Try.prog 43 [.d (.agg (colD p0)), iV p1] [] (fun res H' => res = [.vec 0 0] ∧ H' = [.vec 0 (rowsD r)]) := by
 refine AC_of_body true Try.func43 rfl Try.ntmps43 (rvs := [.tmp 4]) rfl rfl (fun G hG => ?_)
 have hm : G.H.length = 0 := by rw [hG]; rfl
 have hz : zeroG G.H = true := by rw [hG]; rfl
 unfold spec_l04Matching at h
 refine kR ?_
 refine AOps_boxI 2 _ _ (.agg (colD p0)) (colD p0) rfl (colD_one _) rfl rfl rfl rfl rfl ?_
 refine kN 1 rfl ?_
 obtain ⟨r1, hr1, h⟩ := bindO h
 obtain ⟨hc2, h⟩ := guardO h
 refine ACode_seq (ACode_reg [(2, .d (.pv (colD p0) 0)), (5, .vec 0 0), (6, iV (w64 ((bShl .i64 1 (IntKind.u64.wrap p0.p)) - 1))), (7, .vec 1 0)] [.vec 0 (intsD r1), .vec 0 (rowsD ([] : List (List Int)))] ?_ ?_)
 ·refine ACode_anyU mixed ?_
  refine AU_cut 2 #[true, true, true, true, true, true, true, true, false, true, true, false] [(2, .d (.pv (colD p0) 0)), (5, .vec 0 0), (6, iV (w64 ((bShl .i64 1 (IntKind.u64.wrap p0.p)) - 1)))] [.vec 0 (intsD r1)] ?_ (fun hS0 => ?_)
  ·refine AU_one 8 (by kernel_rfl) rfl rfl ?_
   refine AOps_buildSlice 22 _ _ _ [] (rowsD ([] : List (List Int))) _ rfl rfl rfl rfl rfl (by decide) Try.underlying45 Try.sizeOf34 (zero_of Try.typeInfo34 rfl) rfl rfl (rowsD_one _) ?_
   refine AOps_nil ?_
   refine AU_u 11 7 _ rfl (by kernel_rfl) rfl rfl rfl (UOp_assign _ _ rfl rfl) ?_
   refine AU_done (by kernel_rfl) ?_
   exact ⟨rfl, Weak_keep 0 hm [2, 5, 6, 7] [0, 1] _ _ rfl rfl rfl⟩
  refine AU_cut 4 #[true, true, false, true, true, true, true, true, true, false, false, false] [(2, .d (.pv (colD p0) 0)), (14, .d (.agg (colD p0))), (15, iV p1), (21, iV (w64 ((bShl .i64 1 (IntKind.u64.wrap p0.p)) - 1))), (22, .vec 0 0)] [.vec 0 (rowsD ([] : List (List Int)))] ?_ (fun hS1 => ?_)
  ·refine AU_one 2 (by kernel_rfl) rfl rfl ?_
   refine kC [] 16 (.vec 1 0) [.vec 0 (rowsD ([] : List (List Int))), .vec 0 (intsD r1)] rfl Try.call80 rfl rfl (spec_l02Rows_ac k p0 p1 _ hr1) rfl ?_
   refine AOps_nil ?_
   refine AU_u 9 5 _ rfl (by kernel_rfl) rfl rfl rfl (UOp_assign _ _ rfl rfl) ?_
   refine AU_u 10 6 _ rfl (by kernel_rfl) rfl rfl rfl (UOp_assign _ _ rfl rfl) ?_
   refine AU_u 11 7 _ rfl (by kernel_rfl) rfl rfl rfl (UOp_assign _ _ rfl rfl) ?_
   refine AU_done (by kernel_rfl) ?_
   exact ⟨rfl, Weak_keep 0 hm [2, 5, 6, 7] [1, 0] _ _ rfl rfl rfl⟩
  refine AU_cut 5 #[true, true, false, true, true, true, true, true, false, false, false, false] [(2, .d (.pv (colD p0) 0)), (14, .d (.agg (colD p0))), (15, iV p1), (21, iV (w64 ((bShl .i64 1 (IntKind.u64.wrap p0.p)) - 1)))] [] ?_ (fun hS2 => ?_)
  ·refine AU_all [2, 8] (by kernel_rfl) rfl (allc ?_ (allc ?_ (fun _ h => nomatch h)))
   ·refine US_of 2 rfl rfl ?_
    refine kC [] 16 (.vec 0 0) [.vec 0 (intsD r1)] rfl Try.call80 rfl rfl (spec_l02Rows_ac k p0 p1 _ hr1) rfl ?_
    refine AOps_nil ?_
    refine AU_u 9 5 _ rfl (by kernel_rfl) rfl rfl rfl (UOp_assign _ _ rfl rfl) ?_
    refine AU_u 10 6 _ rfl (by kernel_rfl) rfl rfl rfl (UOp_assign _ _ rfl rfl) ?_
    exact AU_to (by kernel_rfl) hS0 (Weak_keep 0 hm [2, 5, 6] [0] _ _ rfl rfl rfl)
   refine US_of 8 rfl rfl ?_
   refine AOps_buildSlice 22 _ _ _ [] (rowsD ([] : List (List Int))) _ rfl rfl rfl rfl rfl (by decide) Try.underlying45 Try.sizeOf34 (zero_of Try.typeInfo34 rfl) rfl rfl (rowsD_one _) ?_
   refine AOps_nil ?_
   exact AU_to (by kernel_rfl) hS1 (Weak_keep 0 hm [2, 14, 15, 21, 22] [0] _ _ rfl rfl rfl)
  refine AU_cut 5 #[false, true, false, true, true, true, true, true, true, false, false, false] [(2, .d (.pv (colD p0) 0)), (15, iV p1), (21, iV (w64 ((bShl .i64 1 (IntKind.u64.wrap p0.p)) - 1))), (22, .vec 0 0)] [.vec 0 (rowsD ([] : List (List Int)))] ?_ (fun hS3 => ?_)
  ·refine AU_one 0 (by kernel_rfl) rfl rfl ?_
   refine AOps_q 14 _ rfl rfl rfl (QOp_loadN_pv _ _ _ _ _ _ rfl Try.isAgg27 Try.sizeOf27 rfl (colD_all _) (colD_length _)) ?_
   refine AOps_nil ?_
   exact AU_to (by kernel_rfl) hS1 (Weak_keep 0 hm [2, 14, 15, 21, 22] [0] _ _ rfl rfl rfl)
  refine AU_cut 6 #[true, true, true, true, false, false, false, false, true, true, false, false] [(2, .d (.pv (colD p0) 0)), (5, .vec 0 0), (17, .d (.pv (colD p0) 0)), (22, .vec 1 0)] [.vec 0 (intsD r1), .vec 0 (rowsD ([] : List (List Int)))] ?_ (fun hS4 => ?_)
  ·refine AU_one 4 (by kernel_rfl) rfl rfl ?_
   refine AOps_q 18 _ rfl rfl rfl (QOp_load_pv _ _ _ _ _ rfl Try.isAgg2 rfl rfl) ?_
   refine AOps_nil ?_
   refine AU_u 5 19 _ rfl (by kernel_rfl) rfl rfl rfl (UOp_conv _ _ _ _ _ _ rfl rfl Try.underlying93 rfl) ?_
   refine AU_u 6 20 _ rfl (by kernel_rfl) rfl rfl rfl (UOp_shl _ _ _ _ _ _ _ _ hc2 rfl rfl rfl) ?_
   refine AU_u 7 21 _ rfl (by kernel_rfl) rfl rfl rfl (UOp_sub _ _ _ _ _ _ _ rfl rfl rfl) ?_
   refine AU_u 10 6 _ rfl (by kernel_rfl) rfl rfl rfl (UOp_assign _ _ rfl rfl) ?_
   refine AU_u 11 7 _ rfl (by kernel_rfl) rfl rfl rfl (UOp_assign _ _ rfl rfl) ?_
   refine AU_done (by kernel_rfl) ?_
   exact ⟨rfl, Weak_keep 0 hm [2, 5, 6, 7] [0, 1] _ _ rfl rfl rfl⟩
  refine AU_cut 8 #[true, true, false, true, false, false, false, false, true, false, false, false] [(2, .d (.pv (colD p0) 0)), (14, .d (.agg (colD p0))), (15, iV p1), (17, .d (.pv (colD p0) 0)), (22, .vec 0 0)] [.vec 0 (rowsD ([] : List (List Int)))] ?_ (fun hS5 => ?_)
  ·refine AU_all [2, 4] (by kernel_rfl) rfl (allc ?_ (allc ?_ (fun _ h => nomatch h)))
   ·refine US_of 2 rfl rfl ?_
    refine kC [] 16 (.vec 1 0) [.vec 0 (rowsD ([] : List (List Int))), .vec 0 (intsD r1)] rfl Try.call80 rfl rfl (spec_l02Rows_ac k p0 p1 _ hr1) rfl ?_
    refine AOps_nil ?_
    refine AU_u 9 5 _ rfl (by kernel_rfl) rfl rfl rfl (UOp_assign _ _ rfl rfl) ?_
    exact AU_to (by kernel_rfl) hS4 (Weak_keep 0 hm [2, 5, 17, 22] [1, 0] _ _ rfl rfl rfl)
   refine US_of 4 rfl rfl ?_
   refine AOps_q 18 _ rfl rfl rfl (QOp_load_pv _ _ _ _ _ rfl Try.isAgg2 rfl rfl) ?_
   refine AOps_nil ?_
   refine AU_u 5 19 _ rfl (by kernel_rfl) rfl rfl rfl (UOp_conv _ _ _ _ _ _ rfl rfl Try.underlying93 rfl) ?_
   refine AU_u 6 20 _ rfl (by kernel_rfl) rfl rfl rfl (UOp_shl _ _ _ _ _ _ _ _ hc2 rfl rfl rfl) ?_
   refine AU_u 7 21 _ rfl (by kernel_rfl) rfl rfl rfl (UOp_sub _ _ _ _ _ _ _ rfl rfl rfl) ?_
   exact AU_to (by kernel_rfl) hS1 (Weak_keep 0 hm [2, 14, 15, 21, 22] [0] _ _ rfl rfl rfl)
  refine AU_u 1 15 _ rfl (by kernel_rfl) rfl rfl rfl (UOp_move _ _ rfl rfl) ?_
  refine AU_u 3 17 _ rfl (by kernel_rfl) rfl rfl rfl (UOp_fieldAddr_pv _ _ _ _ _ 0 _ _ rfl Try.underlying27 rfl _ Try.sizeOf2 rfl rfl) ?_
  refine AU_all [0, 4, 8] (by kernel_rfl) rfl (allc ?_ (allc ?_ (allc ?_ (fun _ h => nomatch h))))
  ·refine US_of 0 rfl rfl ?_
   refine AOps_q 14 _ rfl rfl rfl (QOp_loadN_pv _ _ _ _ _ _ rfl Try.isAgg27 Try.sizeOf27 rfl (colD_all _) (colD_length _)) ?_
   refine AOps_nil ?_
   refine AU_all [2, 4, 8] (by kernel_rfl) rfl (allc ?_ (allc ?_ (allc ?_ (fun _ h => nomatch h))))
   ·refine US_of 2 rfl rfl ?_
    refine kC [] 16 (.vec 0 0) [.vec 0 (intsD r1)] rfl Try.call80 rfl rfl (spec_l02Rows_ac k p0 p1 _ hr1) rfl ?_
    refine AOps_nil ?_
    refine AU_u 9 5 _ rfl (by kernel_rfl) rfl rfl rfl (UOp_assign _ _ rfl rfl) ?_
    refine AU_all [4, 8] (by kernel_rfl) rfl (allc ?_ (allc ?_ (fun _ h => nomatch h)))
    ·refine US_of 4 rfl rfl ?_
     refine AOps_q 18 _ rfl rfl rfl (QOp_load_pv _ _ _ _ _ rfl Try.isAgg2 rfl rfl) ?_
     refine AOps_nil ?_
     refine AU_u 5 19 _ rfl (by kernel_rfl) rfl rfl rfl (UOp_conv _ _ _ _ _ _ rfl rfl Try.underlying93 rfl) ?_
     refine AU_u 6 20 _ rfl (by kernel_rfl) rfl rfl rfl (UOp_shl _ _ _ _ _ _ _ _ hc2 rfl rfl rfl) ?_
     refine AU_u 7 21 _ rfl (by kernel_rfl) rfl rfl rfl (UOp_sub _ _ _ _ _ _ _ rfl rfl rfl) ?_
     refine AU_u 10 6 _ rfl (by kernel_rfl) rfl rfl rfl (UOp_assign _ _ rfl rfl) ?_
     exact AU_to (by kernel_rfl) hS0 (Weak_keep 0 hm [2, 5, 6] [0] _ _ rfl rfl rfl)
    refine US_of 8 rfl rfl ?_
    refine AOps_buildSlice 22 _ _ _ [] (rowsD ([] : List (List Int))) _ rfl rfl rfl rfl rfl (by decide) Try.underlying45 Try.sizeOf34 (zero_of Try.typeInfo34 rfl) rfl rfl (rowsD_one _) ?_
    refine AOps_nil ?_
    exact AU_to (by kernel_rfl) hS4 (Weak_keep 0 hm [2, 5, 17, 22] [0, 1] _ _ rfl rfl rfl)
   ·refine US_of 4 rfl rfl ?_
    refine AOps_q 18 _ rfl rfl rfl (QOp_load_pv _ _ _ _ _ rfl Try.isAgg2 rfl rfl) ?_
    refine AOps_nil ?_
    refine AU_u 5 19 _ rfl (by kernel_rfl) rfl rfl rfl (UOp_conv _ _ _ _ _ _ rfl rfl Try.underlying93 rfl) ?_
    refine AU_u 6 20 _ rfl (by kernel_rfl) rfl rfl rfl (UOp_shl _ _ _ _ _ _ _ _ hc2 rfl rfl rfl) ?_
    refine AU_u 7 21 _ rfl (by kernel_rfl) rfl rfl rfl (UOp_sub _ _ _ _ _ _ _ rfl rfl rfl) ?_
    exact AU_to (by kernel_rfl) hS2 (Weak_keep 0 hm [2, 14, 15, 21] [] _ _ rfl rfl rfl)
   refine US_of 8 rfl rfl ?_
   refine AOps_buildSlice 22 _ _ _ [] (rowsD ([] : List (List Int))) _ rfl rfl rfl rfl rfl (by decide) Try.underlying45 Try.sizeOf34 (zero_of Try.typeInfo34 rfl) rfl rfl (rowsD_one _) ?_
   refine AOps_nil ?_
   exact AU_to (by kernel_rfl) hS5 (Weak_keep 0 hm [2, 14, 15, 17, 22] [0] _ _ rfl rfl rfl)
  ·refine US_of 4 rfl rfl ?_
   refine AOps_q 18 _ rfl rfl rfl (QOp_load_pv _ _ _ _ _ rfl Try.isAgg2 rfl rfl) ?_
   refine AOps_nil ?_
   refine AU_u 5 19 _ rfl (by kernel_rfl) rfl rfl rfl (UOp_conv _ _ _ _ _ _ rfl rfl Try.underlying93 rfl) ?_
   refine AU_u 6 20 _ rfl (by kernel_rfl) rfl rfl rfl (UOp_shl _ _ _ _ _ _ _ _ hc2 rfl rfl rfl) ?_
   refine AU_u 7 21 _ rfl (by kernel_rfl) rfl rfl rfl (UOp_sub _ _ _ _ _ _ _ rfl rfl rfl) ?_
   refine AU_all [0, 8] (by kernel_rfl) rfl (allc ?_ (allc ?_ (fun _ h => nomatch h)))
   ·refine US_of 0 rfl rfl ?_
    refine AOps_q 14 _ rfl rfl rfl (QOp_loadN_pv _ _ _ _ _ _ rfl Try.isAgg27 Try.sizeOf27 rfl (colD_all _) (colD_length _)) ?_
    refine AOps_nil ?_
    exact AU_to (by kernel_rfl) hS2 (Weak_keep 0 hm [2, 14, 15, 21] [] _ _ rfl rfl rfl)
   refine US_of 8 rfl rfl ?_
   refine AOps_buildSlice 22 _ _ _ [] (rowsD ([] : List (List Int))) _ rfl rfl rfl rfl rfl (by decide) Try.underlying45 Try.sizeOf34 (zero_of Try.typeInfo34 rfl) rfl rfl (rowsD_one _) ?_
   refine AOps_nil ?_
   exact AU_to (by kernel_rfl) hS3 (Weak_keep 0 hm [2, 15, 21, 22] [0] _ _ rfl rfl rfl)
  refine US_of 8 rfl rfl ?_
  refine AOps_buildSlice 22 _ _ _ [] (rowsD ([] : List (List Int))) _ rfl rfl rfl rfl rfl (by decide) Try.underlying45 Try.sizeOf34 (zero_of Try.typeInfo34 rfl) rfl rfl (rowsD_one _) ?_
  refine AOps_nil ?_
  refine AU_all [0, 4] (by kernel_rfl) rfl (allc ?_ (allc ?_ (fun _ h => nomatch h)))
  ·refine US_of 0 rfl rfl ?_
   refine AOps_q 14 _ rfl rfl rfl (QOp_loadN_pv _ _ _ _ _ _ rfl Try.isAgg27 Try.sizeOf27 rfl (colD_all _) (colD_length _)) ?_
   refine AOps_nil ?_
   exact AU_to (by kernel_rfl) hS5 (Weak_keep 0 hm [2, 14, 15, 17, 22] [0] _ _ rfl rfl rfl)
  refine US_of 4 rfl rfl ?_
  refine AOps_q 18 _ rfl rfl rfl (QOp_load_pv _ _ _ _ _ rfl Try.isAgg2 rfl rfl) ?_
  refine AOps_nil ?_
  refine AU_u 5 19 _ rfl (by kernel_rfl) rfl rfl rfl (UOp_conv _ _ _ _ _ _ rfl rfl Try.underlying93 rfl) ?_
  refine AU_u 6 20 _ rfl (by kernel_rfl) rfl rfl rfl (UOp_shl _ _ _ _ _ _ _ _ hc2 rfl rfl rfl) ?_
  refine AU_u 7 21 _ rfl (by kernel_rfl) rfl rfl rfl (UOp_sub _ _ _ _ _ _ _ rfl rfl rfl) ?_
  exact AU_to (by kernel_rfl) hS3 (Weak_keep 0 hm [2, 15, 21, 22] [0] _ _ rfl rfl rfl)
 refine kR ?_
 refine AOps_q 23 _ rfl rfl rfl (QOp_fieldAddr_pv _ _ _ _ _ 0 _ _ rfl Try.underlying27 rfl _ Try.sizeOf2 rfl rfl) ?_
 refine AOps_q 24 _ rfl rfl rfl (QOp_load_pv _ _ _ _ _ rfl Try.isAgg2 rfl rfl) ?_
 refine AOps_q 25 _ rfl rfl rfl (QOp_conv _ _ _ _ _ _ rfl rfl Try.underlying93 rfl) ?_
 obtain ⟨hc3, h⟩ := guardO h
 refine AOps_q 26 _ rfl rfl rfl (QOp_shl _ _ _ _ _ _ _ _ hc3 rfl rfl rfl) ?_
 obtain ⟨hc4, h⟩ := guardO h
 refine AOps_makeSliceG intsD iD 0 (intsD_rep · _) 27 _ _ _ _ _ _ (bShl .i64 1 (IntKind.u64.wrap p0.p)) (bShl .i64 1 (IntKind.u64.wrap p0.p)) _ (.int .i64 0) rfl rfl rfl rfl rfl rfl Try.underlying34 Try.type2 rfl rfl (by decide) rfl rfl hc4.1 hc4.2.1 hc4.2.2 ?_
 refine kN 1 rfl ?_
 refine kB (fun s9 => [(2, .d (.pv (colD p0) 0)), (5, .vec 0 0), (6, iV (w64 ((bShl .i64 1 (IntKind.u64.wrap p0.p)) - 1))), (7, .vec 1 0), (8, .vec 2 0)]) (fun s9 => [.vec 0 (intsD r1), .vec 0 (rowsD ([] : List (List Int))), .vec 0 (intsD s9)]) h (fun s9 h => ?_) (fun s9 h => ?_)
 ·refine kR ?_
  refine kN 1 rfl ?_
  refine ACode_block ?_
  refine ACode_loopW (fun k0 E H => ∃ (x5 : Int) (x6 : List Int), E = [(2, .d (.pv (colD p0) 0)), (5, .vec 0 0), (6, iV (w64 ((bShl .i64 1 (IntKind.u64.wrap p0.p)) - 1))), (7, .vec 1 0), (8, .vec 2 0), (9, iV x5)] ∧ H = [.vec 0 (intsD r1), .vec 0 (rowsD ([] : List (List Int))), .vec 0 (intsD x6)] ∧ spec_l04Matching_l0 k0 x5 x6 = some s9) k _ _ (Weak_keep 0 hm [2, 5, 6, 7, 8, 9] [0, 1, 2] _ _ rfl rfl rfl) ⟨_, _, rfl, rfl, h⟩ ?_
  clear h
  rintro k0 E H ⟨x5, x6, rfl, rfl, h⟩
  cases k0 with
  | zero => cases (show (none : Option (List Int)) = some _ from h)
  | succ k0 =>
   rw [spec_l04Matching_l0] at h
   refine ACode_seq ?_
   refine kR ?_
   refine kM 2 rfl ?_
   refine AOps_q 30 _ rfl rfl rfl (QOp_len_vec _ _ _ _ _ _ _ _ (intsD_length _) rfl rfl rfl rfl Try.underlying34 rfl rfl) ?_
   refine AOps_q 31 _ rfl rfl rfl (QOp_lss _ _ _ _ _ _ _ rfl rfl rfl) ?_
   refine AOps_nil ?_
   refine kI h rfl (fun h _ => ?_) (fun h _ => ?_)
   ·refine ACode_skip ?_
    refine ACode_seq ?_
    refine ACode_block ?_
    refine (ACode_region ?_)
    refine kM 2 rfl ?_
    obtain ⟨hc8, h⟩ := guardO h
    refine AOps_q 36 _ rfl rfl rfl (QOp_indexAddr_vec _ _ _ _ _ _ _ _ _ rfl Try.underlying34 Try.sizeOf2 hc8.1 (by rw [intsD_length]; exact hc8.2) rfl rfl rfl) ?_
    refine AOps_store_eptr _ _ _ _ _ _ (intsD x6) _ rfl rfl rfl rfl rfl rfl rfl Try.sizeOf2 (by rw [intsD_length]; omega) ?_
    rw [intsD_set]
    refine AOps_nil ?_
    refine (ACode_region ?_)
    refine kM 1 rfl ?_
    refine AOps_q 33 _ rfl rfl rfl (QOp_add _ _ _ _ _ _ _ rfl rfl rfl) ?_
    refine kN 1 rfl ?_
    exact ⟨k0, _, _, Nat.lt_succ_self _, Weak_keep 0 hm [2, 5, 6, 7, 8, 9] [0, 1, 2] _ _ rfl rfl rfl, _, _, rfl, rfl, h⟩
   refine ACode_exit ?_
   cases h
   exact Weak_keep 0 hm [2, 5, 6, 7, 8] [0, 1, 2] _ _ rfl rfl rfl
 refine kB (fun s37 => [(7, .vec 0 0)]) (fun s37 => [.vec 0 (rowsD s37)]) h (fun s37 h => ?_) (fun s37 h => ?_)
 ·refine kR ?_
  refine kN 1 rfl ?_
  refine ACode_block ?_
  refine ACode_loopW (fun k1 E H => ∃ (x10 : Int) (x11 : Int) (x12 : List (List Int)) (x13 : List Int), E = [(2, .d (.pv (colD p0) 0)), (5, .vec 0 0), (6, iV x10), (7, .vec 1 0), (8, .vec 2 0), (10, iV x11)] ∧ H = [.vec 0 (intsD r1), .vec 0 (rowsD x12), .vec 0 (intsD x13)] ∧ spec_l04Matching_l1 k p0 r1 k1 x10 x11 x12 x13 = some s37) k _ _ (Weak_keep 0 hm [2, 5, 6, 7, 8, 10] [0, 1, 2] _ _ rfl rfl rfl) ⟨_, _, _, _, rfl, rfl, h⟩ ?_
  clear h
  rintro k1 E H ⟨x10, x11, x12, x13, rfl, rfl, h⟩
  cases k1 with
  | zero => cases (show (none : Option (List (List Int))) = some _ from h)
  | succ k1 =>
   rw [spec_l04Matching_l1] at h
   refine ACode_seq ?_
   refine kR ?_
   refine kM 1 rfl ?_
   refine AOps_q 38 _ rfl rfl rfl (QOp_fieldAddr_pv _ _ _ _ _ 0 _ _ rfl Try.underlying27 rfl _ Try.sizeOf2 rfl rfl) ?_
   refine AOps_q 39 _ rfl rfl rfl (QOp_load_pv _ _ _ _ _ rfl Try.isAgg2 rfl rfl) ?_
   refine AOps_q 40 _ rfl rfl rfl (QOp_lss _ _ _ _ _ _ _ rfl rfl rfl) ?_
   refine AOps_nil ?_
   refine kI h rfl (fun h _ => ?_) (fun h _ => ?_)
   ·refine ACode_skip ?_
    refine kB (fun s36 => [(2, .d (.pv (colD p0) 0)), (5, .vec 0 0), (6, iV s36.1), (7, .vec 1 0), (8, .vec 2 0), (10, iV x11)]) (fun s36 => [.vec 0 (intsD r1), .vec 0 (rowsD s36.2.1), .vec 0 (intsD s36.2.2)]) h (fun s36 h => ?_) (fun s36 h => ?_)
    ·refine ACode_block ?_
     refine kR ?_
     refine kM 1 rfl ?_
     refine AOps_q 44 _ rfl rfl rfl (QOp_conv _ _ _ _ _ _ rfl rfl Try.underlying93 rfl) ?_
     obtain ⟨hc15, h⟩ := guardO h
     refine AOps_q 45 _ rfl rfl rfl (QOp_shl _ _ _ _ _ _ _ _ hc15 rfl rfl rfl) ?_
     refine kN 1 rfl ?_
     refine ACode_seq ?_
     refine kR ?_
     refine kM 2 rfl ?_
     refine AOps_q 48 _ rfl rfl rfl (QOp_and _ _ _ _ _ _ _ rfl rfl rfl) ?_
     refine AOps_q 49 _ rfl rfl rfl (QOp_eql _ _ _ _ _ _ _ rfl rfl rfl) ?_
     refine AOps_nil ?_
     refine kI h rfl (fun h _ => ?_) (fun h _ => ?_)
     ·refine ACode_exit ?_
      cases h
      exact Weak_keep 0 hm [2, 5, 6, 7, 8, 10] [0, 1, 2] _ _ rfl rfl rfl
     refine ACode_skip ?_
     refine kR ?_
     refine kM 2 rfl ?_
     refine AOps_q 52 _ rfl rfl rfl (QOp_xor _ _ _ _ _ _ _ rfl rfl rfl) ?_
     refine kN 1 rfl ?_
     refine kB (fun s35 => [(2, .d (.pv (colD p0) 0)), (5, .vec 0 0), (7, .vec 1 0), (8, .vec 2 0), (10, iV x11), (12, iV s35.1)]) (fun s35 => [.vec 0 (intsD r1), .vec 0 (rowsD s35.2.1), .vec 0 (intsD s35.2.2)]) h (fun s35 h => ?_) (fun s35 h => ?_)
     ·refine kR ?_
      refine kM 1 rfl ?_
      refine AOps_q 54 _ rfl rfl rfl (QOp_add _ _ _ _ _ _ _ rfl rfl rfl) ?_
      refine kN 1 rfl ?_
      refine ACode_block ?_
      refine ACode_loopW (fun k2 E H => ∃ (x17 : Int) (x18 : Int) (x19 : List (List Int)) (x20 : List Int), E = [(2, .d (.pv (colD p0) 0)), (5, .vec 0 0), (6, iV x10), (7, .vec 1 0), (8, .vec 2 0), (10, iV x11), (12, iV x17), (13, iV x18)] ∧ H = [.vec 0 (intsD r1), .vec 0 (rowsD x19), .vec 0 (intsD x20)] ∧ spec_l04Matching_l2 k p0 r1 x10 x11 k2 x17 x18 x19 x20 = some s35) k _ _ (Weak_keep 0 hm [2, 5, 6, 7, 8, 10, 12, 13] [0, 1, 2] _ _ rfl rfl rfl) ⟨_, _, _, _, rfl, rfl, h⟩ ?_
      clear h
      rintro k2 E H ⟨x17, x18, x19, x20, rfl, rfl, h⟩
      cases k2 with
      | zero => cases (show (none : Option (Int × List (List Int) × List Int)) = some _ from h)
      | succ k2 =>
       rw [spec_l04Matching_l2] at h
       refine ACode_seq ?_
       refine kR ?_
       refine kM 1 rfl ?_
       refine AOps_q 56 _ rfl rfl rfl (QOp_fieldAddr_pv _ _ _ _ _ 0 _ _ rfl Try.underlying27 rfl _ Try.sizeOf2 rfl rfl) ?_
       refine AOps_q 57 _ rfl rfl rfl (QOp_load_pv _ _ _ _ _ rfl Try.isAgg2 rfl rfl) ?_
       refine AOps_q 58 _ rfl rfl rfl (QOp_lss _ _ _ _ _ _ _ rfl rfl rfl) ?_
       refine AOps_nil ?_
       refine kI h rfl (fun h _ => ?_) (fun h _ => ?_)
       ·refine ACode_skip ?_
        refine kO (fun s34 => [(2, .d (.pv (colD p0) 0)), (5, .vec 0 0), (6, iV x10), (7, .vec 1 0), (8, .vec 2 0), (10, iV x11), (12, iV x17), (13, iV x18)]) (fun s34 => [.vec 0 (intsD r1), .vec 0 (rowsD x19), .vec 0 (intsD s34)]) h (fun os34 h hks34 => ?_) (fun s34 h => ?_)
        ·refine ACode_block ?_
         refine kB (fun s30 => [(2, .d (.pv (colD p0) 0)), (5, .vec 0 0), (6, iV x10), (7, .vec 1 0), (8, .vec 2 0), (10, iV x11), (12, iV x17), (13, iV x18), (93, bV s30.1)]) (fun s30 => [.vec 0 (intsD r1), .vec 0 (rowsD x19), .vec 0 (intsD s30.2)]) h (fun s30 h => ?_) (fun s30 h => ?_)
         ·refine (ACode_region ?_)
          refine kM 2 rfl ?_
          refine AOps_q 63 _ rfl rfl rfl (QOp_conv _ _ _ _ _ _ rfl rfl Try.underlying93 rfl) ?_
          obtain ⟨hc22, h⟩ := guardO h
          refine AOps_q 64 _ rfl rfl rfl (QOp_shr _ _ _ _ _ _ _ _ hc22 rfl rfl rfl) ?_
          refine AOps_q 65 _ rfl rfl rfl (QOp_and _ _ _ _ _ _ _ rfl rfl rfl) ?_
          refine AOps_q 66 _ rfl rfl rfl (QOp_eql _ _ _ _ _ _ _ rfl rfl rfl) ?_
          refine kM 1 rfl ?_
          refine AOps_case 67 _ rfl (fun hb23 => ?_) (fun hb23 => ?_)
          ·have h := iteT hb23 h
           refine kM 2 rfl ?_
           obtain ⟨hc24, h⟩ := guardO h
           refine AOps_q 70 _ rfl rfl rfl (QOp_indexAddr_vec _ _ _ _ _ _ _ _ _ rfl Try.underlying34 Try.sizeOf2 hc24.1 (by rw [intsD_length]; exact hc24.2) rfl rfl rfl) ?_
           refine AOps_q 71 _ rfl rfl rfl (QOp_load_eptr _ _ _ _ _ _ _ rfl Try.isAgg2 rfl rfl (intsD_get _ _ 0 (by omega))) ?_
           refine kM 1 rfl ?_
           refine AOps_q 73 _ rfl rfl rfl (QOp_conv _ _ _ _ _ _ rfl rfl Try.underlying93 rfl) ?_
           obtain ⟨hc25, h⟩ := guardO h
           refine AOps_q 74 _ rfl rfl rfl (QOp_shr _ _ _ _ _ _ _ _ hc25 rfl rfl rfl) ?_
           refine AOps_q 75 _ rfl rfl rfl (QOp_and _ _ _ _ _ _ _ rfl rfl rfl) ?_
           refine AOps_q 76 _ rfl rfl rfl (QOp_eql _ _ _ _ _ _ _ rfl rfl rfl) ?_
           refine kM 2 rfl ?_
           refine AOps_case 78 _ rfl (fun hb26 => ?_) (fun hb26 => ?_)
           ·have h := iteT hb26 h
            refine kM 4 rfl ?_
            refine AOps_q 83 _ rfl rfl rfl (QOp_conv _ _ _ _ _ _ rfl rfl Try.underlying93 rfl) ?_
            obtain ⟨hc27, h⟩ := guardO h
            refine AOps_q 84 _ rfl rfl rfl (QOp_shl _ _ _ _ _ _ _ _ hc27 rfl rfl rfl) ?_
            refine AOps_q 85 _ rfl rfl rfl (QOp_xor _ _ _ _ _ _ _ rfl rfl rfl) ?_
            obtain ⟨r28, hr28, h⟩ := bindO h
            refine AOps_callL [2] 86 _ _ _ _ _ _ _ _ _ _ rfl rfl rfl rfl rfl rfl rfl Try.call84 rfl (nodupB_sound _ rfl) rfl rfl rfl (spec_l04Match_ac k r1 x20 (bXor .i64 x17 (bShl .i64 1 (IntKind.u64.wrap x18))) _ hr28) ?_
            rintro _ _ ⟨rfl, rfl⟩
            refine ⟨(allc (intsD_flat _) (fun _ h => nomatch h)), (allc (flat_s _) (fun _ h => nomatch h)), AOps_as 86 (v' := iV r28.1) (H' := [.vec 0 (intsD r1), .vec 0 (rowsD x19), .vec 0 (intsD r28.2)]) rfl rfl ?_⟩
            refine AOps_q 87 _ rfl rfl rfl (QOp_add _ _ _ _ _ _ _ rfl rfl rfl) ?_
            refine kM 3 rfl ?_
            obtain ⟨r29, hr29, h⟩ := bindO h
            refine AOps_callL [2] 91 _ _ _ _ _ _ _ _ _ _ rfl rfl rfl rfl rfl rfl rfl Try.call84 rfl (nodupB_sound _ rfl) rfl rfl rfl (spec_l04Match_ac k r1 r28.2 x10 _ hr29) ?_
            rintro _ _ ⟨rfl, rfl⟩
            refine ⟨(allc (intsD_flat _) (fun _ h => nomatch h)), (allc (flat_s _) (fun _ h => nomatch h)), AOps_as 91 (v' := iV r29.1) (H' := [.vec 0 (intsD r1), .vec 0 (rowsD x19), .vec 0 (intsD r29.2)]) rfl rfl ?_⟩
            refine AOps_q 92 _ rfl rfl rfl (QOp_eql _ _ _ _ _ _ _ rfl rfl rfl) ?_
            refine kN 1 rfl ?_
            cases h
            exact Weak_keep 0 hm [2, 5, 6, 7, 8, 10, 12, 13, 93] [0, 1, 2] _ _ rfl rfl rfl
           have h := iteF hb26 h
           refine AOps_skip 79 rfl rfl rfl ?_
           refine AOps_skip 80 rfl rfl rfl ?_
           refine AOps_skip 81 rfl rfl rfl ?_
           refine AOps_skip 82 rfl rfl rfl ?_
           refine AOps_skip 83 rfl rfl rfl ?_
           refine AOps_skip 84 rfl rfl rfl ?_
           refine AOps_skip 85 rfl rfl rfl ?_
           refine AOps_skip 86 rfl rfl rfl ?_
           refine AOps_skip 87 rfl rfl rfl ?_
           refine AOps_skip 88 rfl rfl rfl ?_
           refine AOps_skip 89 rfl rfl rfl ?_
           refine AOps_skip 90 rfl rfl rfl ?_
           refine AOps_skip 91 rfl rfl rfl ?_
           refine AOps_skip 92 rfl rfl rfl ?_
           refine kN 1 rfl ?_
           cases h
           exact Weak_keep 0 hm [2, 5, 6, 7, 8, 10, 12, 13, 93] [0, 1, 2] _ _ rfl rfl rfl
          have h := iteF hb23 h
          refine AOps_skip 68 rfl rfl rfl ?_
          refine AOps_skip 69 rfl rfl rfl ?_
          refine AOps_skip 70 rfl rfl rfl ?_
          refine AOps_skip 71 rfl rfl rfl ?_
          refine AOps_skip 72 rfl rfl rfl ?_
          refine AOps_skip 73 rfl rfl rfl ?_
          refine AOps_skip 74 rfl rfl rfl ?_
          refine AOps_skip 75 rfl rfl rfl ?_
          refine AOps_skip 76 rfl rfl rfl ?_
          refine kM 2 rfl ?_
          refine AOps_skip 79 rfl rfl rfl ?_
          refine AOps_skip 80 rfl rfl rfl ?_
          refine AOps_skip 81 rfl rfl rfl ?_
          refine AOps_skip 82 rfl rfl rfl ?_
          refine AOps_skip 83 rfl rfl rfl ?_
          refine AOps_skip 84 rfl rfl rfl ?_
          refine AOps_skip 85 rfl rfl rfl ?_
          refine AOps_skip 86 rfl rfl rfl ?_
          refine AOps_skip 87 rfl rfl rfl ?_
          refine AOps_skip 88 rfl rfl rfl ?_
          refine AOps_skip 89 rfl rfl rfl ?_
          refine AOps_skip 90 rfl rfl rfl ?_
          refine AOps_skip 91 rfl rfl rfl ?_
          refine AOps_skip 92 rfl rfl rfl ?_
          refine kN 1 rfl ?_
          cases h
          exact Weak_keep 0 hm [2, 5, 6, 7, 8, 10, 12, 13, 93] [0, 1, 2] _ _ rfl rfl rfl
         refine kI h rfl (fun h _ => ?_) (fun h _ => ?_)
         ·refine kR ?_
          refine kM 3 rfl ?_
          refine AOps_buildSlice 97 _ _ _ [_, _] (intsD ([x11, x18])) _ rfl rfl rfl rfl rfl (by decide) Try.underlying34 Try.sizeOf2 (zero_of Try.typeInfo2 rfl) rfl rfl (intsD_one _) ?_
          refine AOps_freeze 97 3 0 _ rfl rfl ?_
          refine AOps_buildSlice 98 _ _ _ [_] (rowsD ([[x11, x18]])) _ rfl rfl rfl rfl rfl (by decide) Try.underlying45 Try.sizeOf34 (zero_of Try.typeInfo34 rfl) rfl rfl (rowsD_one _) ?_
          obtain ⟨hc32, h⟩ := guardO h
          refine AOps_append 99 _ _ _ _ _ _ _ _ _ _ _ _ rfl rfl rfl rfl rfl rfl rfl Try.underlying45 Try.type34 rfl rfl rfl (by decide) rfl rfl rfl rfl (rowsD_one _) (by rw [rowsD_length, rowsD_length]; exact hc32) ?_
          rw [rowsD_app]
          refine kN 1 rfl ?_
          refine kR ?_
          refine kM 2 rfl ?_
          refine AOps_q 102 _ rfl rfl rfl (QOp_conv _ _ _ _ _ _ rfl rfl Try.underlying93 rfl) ?_
          obtain ⟨hc33, h⟩ := guardO h
          refine AOps_q 103 _ rfl rfl rfl (QOp_shl _ _ _ _ _ _ _ _ hc33 rfl rfl rfl) ?_
          refine AOps_q 104 _ rfl rfl rfl (QOp_xor _ _ _ _ _ _ _ rfl rfl rfl) ?_
          refine kN 1 rfl ?_
          refine ACode_exit ?_
          obtain ⟨rr, hz38, h2⟩ := bindO h
          obtain rfl := Option.some.inj h2
          obtain rfl := Option.some.inj (show some rr = some _ from hks34)
          have h := hz38
          cases h
          exact Weak_trans (Weak_keep 0 hm [2, 5, 7, 8, 10, 12] [0, 1, 2] _ _ rfl rfl rfl) (Weak_reset 0 hm hz [2, 5, 7, 8, 10, 12] _ _ rfl rfl)
         refine ACode_skip ?_
         cases h
         exact ⟨_, rfl, Weak_keep 0 hm [2, 5, 6, 7, 8, 10, 12, 13] [0, 1, 2] _ _ rfl rfl rfl⟩
        refine (ACode_region ?_)
        refine kM 1 rfl ?_
        refine AOps_q 60 _ rfl rfl rfl (QOp_add _ _ _ _ _ _ _ rfl rfl rfl) ?_
        refine kN 1 rfl ?_
        exact ⟨k2, _, _, Nat.lt_succ_self _, Weak_keep 0 hm [2, 5, 6, 7, 8, 10, 12, 13] [0, 1, 2] _ _ rfl rfl rfl, _, _, _, _, rfl, rfl, h⟩
       refine ACode_exit ?_
       cases h
       exact Weak_keep 0 hm [2, 5, 7, 8, 10, 12] [0, 1, 2] _ _ rfl rfl rfl
     refine (ACode_region ?_)
     refine kN 2 rfl ?_
     cases h
     exact Weak_keep 0 hm [2, 5, 6, 7, 8, 10] [0, 1, 2] _ _ rfl rfl rfl
    refine (ACode_region ?_)
    refine kM 1 rfl ?_
    refine AOps_q 42 _ rfl rfl rfl (QOp_add _ _ _ _ _ _ _ rfl rfl rfl) ?_
    refine kN 1 rfl ?_
    exact ⟨k1, _, _, Nat.lt_succ_self _, Weak_keep 0 hm [2, 5, 6, 7, 8, 10] [0, 1, 2] _ _ rfl rfl rfl, _, _, _, _, rfl, rfl, h⟩
   refine ACode_exit ?_
   cases h
   exact Weak_keep 0 hm [7] [1] _ _ rfl rfl rfl
 refine kR ?_
 refine kN 2 rfl ?_
 refine ACode_ret ?_
 cases h
 exact ⟨_, _, Weak_reset 0 hm hz [4] _ _ rfl rfl, _, _, [0], _, (.cons (ResV_tmp _ _ rfl) .nil), rfl, rfl, rfl, rfl, rfl⟩

-- loop.example/g01362/spec.GreatestMatching
def spec_GreatestMatching (k : Nat) (p0 : Col) (p1 : Int) : Option (List (List Int) × Int) :=
 (spec_l01Given k p0 p1 ([])).bind fun r1 => (if !decide (r1 = 0) then some ([], r1) else (spec_l04Matching k p0 p1).bind fun r3 => some (r3, 0))
set_option maxRecDepth 100000 in
theorem spec_GreatestMatching_ac (k : Nat) (p0 : Col) (p1 : Int) (r : List (List Int) × Int) (h : spec_GreatestMatching k p0 p1 = some r) : AC Try.prog 25 [.d (.agg (colD p0)), iV p1] [] (fun res H' => res = [.d (.sl none (rowsD r.1)), iV r.2] ∧ H' = []) := by
 refine AC_of_body true Try.func25 rfl Try.ntmps25 (rvs := [.tmp 4, .tmp 5]) rfl rfl (fun G hG => ?_)
 have hm : G.H.length = 0 := by rw [hG]; rfl
 have hz : zeroG G.H = true := by rw [hG]; rfl
 unfold spec_GreatestMatching at h
 refine kR ?_
 refine AOps_boxI 2 _ _ (.agg (colD p0)) (colD p0) rfl (colD_one _) rfl rfl rfl rfl rfl ?_
 refine kN 2 rfl ?_
 refine ACode_seq ?_
 refine kR ?_
 refine AOps_q 7 _ rfl rfl rfl (QOp_loadN_pv _ _ _ _ _ _ rfl Try.isAgg27 Try.sizeOf27 rfl (colD_all _) (colD_length _)) ?_
 refine kM 1 rfl ?_
 obtain ⟨r1, hr1, h⟩ := bindO h
 refine kC [] 9 (iV r1) [] rfl Try.call37 rfl rfl (spec_l01Given_ac k p0 p1 ([]) _ hr1) rfl ?_
 refine kN 1 rfl ?_
 refine kR ?_
 refine kM 1 rfl ?_
 refine AOps_q 11 _ rfl rfl rfl (QOp_neq _ _ _ _ _ _ _ rfl rfl rfl) ?_
 refine AOps_nil ?_
 refine kI h rfl (fun h _ => ?_) (fun h _ => ?_)
 ·refine kR ?_
  refine kN 3 rfl ?_
  refine ACode_ret ?_
  cases h
  exact ⟨_, _, fun r a w h => ⟨r, h⟩, _, _, [], _, (.cons (ResV_tmp _ _ rfl) (.cons (ResV_tmp _ _ rfl) .nil)), rfl, rfl, rfl, rfl, rfl⟩
 refine ACode_skip ?_
 refine kR ?_
 refine AOps_q 13 _ rfl rfl rfl (QOp_loadN_pv _ _ _ _ _ _ rfl Try.isAgg27 Try.sizeOf27 rfl (colD_all _) (colD_length _)) ?_
 refine kM 1 rfl ?_
 obtain ⟨r3, hr3, h⟩ := bindO h
 refine kC [] 15 (.vec 0 0) [.vec 0 (rowsD r3)] rfl Try.call43 rfl rfl (spec_l04Matching_ac k p0 p1 _ hr3) rfl ?_
 refine kN 2 rfl ?_
 refine ACode_ret ?_
 cases h
 exact ⟨_, _, fun r a w h => ⟨r, h⟩, _, _, [], _, (.cons (ResV_tmp _ _ rfl) (.cons (ResV_tmp _ _ rfl) .nil)), rfl, rfl, rfl, rfl, rfl⟩

-- loop.example/g01362/laws.likeInts
def laws_likeInts_l0 (p0 : List Int) (p1 : List Int) : Nat → Int → Option (Sum (Unit) (Bool))
 | 0, _ => none
 | k0 + 1, x2 => (if decide (x2 < (p0.length : Int)) then (if 0 ≤ x2 ∧ x2 < (p0.length : Int) then (if 0 ≤ x2 ∧ x2 < (p1.length : Int) then (if !decide ((p0.getD x2.toNat 0) = (p1.getD x2.toNat 0)) then some (.inr false) else laws_likeInts_l0 p0 p1 k0 (w64 (x2 + 1))) else none) else none) else some (.inl ()))
def laws_likeInts (k : Nat) (p0 : List Int) (p1 : List Int) : Option (Bool) :=
 (if !decide ((p0.length : Int) = (p1.length : Int)) then some false else (laws_likeInts_l0 p0 p1 k 0 : Option (Sum (Unit) (Bool))).bind fun os7 => (match os7 with | .inl s7 => some true | .inr rr => some rr))
set_option maxRecDepth 100000 in
theorem laws_likeInts_ac (k : Nat) (p0 : List Int) (p1 : List Int) (r : Bool) (h : laws_likeInts k p0 p1 = some r) : AC Try.prog 13 [.d (.sl none (intsD p0)), .d (.sl none (intsD p1))] [] (fun res H' => res = [bV r] ∧ H' = []) := by
 refine AC_of_body true Try.func13 rfl Try.ntmps13 (rvs := [.tmp 4]) rfl rfl (fun G hG => ?_)
 have hm : G.H.length = 0 := by rw [hG]; rfl
 have hz : zeroG G.H = true := by rw [hG]; rfl
 unfold laws_likeInts at h
 refine kR ?_
 refine kN 1 rfl ?_
 refine ACode_seq ?_
 refine kR ?_
 refine kM 1 rfl ?_
 refine AOps_q 7 _ rfl rfl rfl (QOp_len_sl _ _ _ _ _ _ _ (intsD_length _) rfl rfl rfl rfl Try.underlying34 rfl) ?_
 refine kM 1 rfl ?_
 refine AOps_q 9 _ rfl rfl rfl (QOp_len_sl _ _ _ _ _ _ _ (intsD_length _) rfl rfl rfl rfl Try.underlying34 rfl) ?_
 refine AOps_q 10 _ rfl rfl rfl (QOp_neq _ _ _ _ _ _ _ rfl rfl rfl) ?_
 refine AOps_nil ?_
 refine kI h rfl (fun h _ => ?_) (fun h _ => ?_)
 ·refine kR ?_
  refine kN 1 rfl ?_
  refine ACode_ret ?_
  cases h
  exact ⟨_, _, fun r a w h => ⟨r, h⟩, _, _, [], _, (.cons (ResV_tmp _ _ rfl) .nil), rfl, rfl, rfl, rfl, rfl⟩
 refine ACode_skip ?_
 refine kO (fun s7 => []) (fun s7 => []) h (fun os7 h hks7 => ?_) (fun s7 h => ?_)
 ·refine kR ?_
  refine kN 1 rfl ?_
  refine ACode_block ?_
  refine ACode_loopW (fun k0 E H => ∃ (x2 : Int), E = [(0, .d (.sl none (intsD p0))), (1, .d (.sl none (intsD p1))), (5, iV x2)] ∧ H = [] ∧ laws_likeInts_l0 p0 p1 k0 x2 = some os7) k _ _ (Weak_keep 0 hm [0, 1, 5] [] _ _ rfl rfl rfl) ⟨_, rfl, rfl, h⟩ ?_
  clear h
  rintro k0 E H ⟨x2, rfl, rfl, h⟩
  cases k0 with
  | zero => cases (show (none : Option (Sum (Unit) (Bool))) = some _ from h)
  | succ k0 =>
   rw [laws_likeInts_l0] at h
   refine ACode_seq ?_
   refine kR ?_
   refine kM 2 rfl ?_
   refine AOps_q 13 _ rfl rfl rfl (QOp_len_sl _ _ _ _ _ _ _ (intsD_length _) rfl rfl rfl rfl Try.underlying34 rfl) ?_
   refine AOps_q 14 _ rfl rfl rfl (QOp_lss _ _ _ _ _ _ _ rfl rfl rfl) ?_
   refine AOps_nil ?_
   refine kI h rfl (fun h _ => ?_) (fun h _ => ?_)
   ·refine ACode_skip ?_
    refine ACode_seq ?_
    refine ACode_block ?_
    refine ACode_seq (ACode_quiet mixed (by kernel_rfl) ?_)
    refine kQ 2 rfl ?_
    obtain ⟨hc4, h⟩ := guardO h
    refine AQ_q 19 _ rfl rfl rfl (QOp_indexAddr_sl _ _ _ _ _ _ _ _ rfl Try.underlying34 Try.sizeOf2 hc4.1 (by rw [intsD_length]; exact hc4.2) rfl rfl) ?_
    refine AQ_q 20 _ rfl rfl rfl (QOp_load_pv _ _ _ _ _ rfl Try.isAgg2 rfl (intsD_get _ _ 0 (by omega))) ?_
    refine kQ 2 rfl ?_
    obtain ⟨hc5, h⟩ := guardO h
    refine AQ_q 23 _ rfl rfl rfl (QOp_indexAddr_sl _ _ _ _ _ _ _ _ rfl Try.underlying34 Try.sizeOf2 hc5.1 (by rw [intsD_length]; exact hc5.2) rfl rfl) ?_
    refine AQ_q 24 _ rfl rfl rfl (QOp_load_pv _ _ _ _ _ rfl Try.isAgg2 rfl (intsD_get _ _ 0 (by omega))) ?_
    refine AQ_q 25 _ rfl rfl rfl (QOp_neq _ _ _ _ _ _ _ rfl rfl rfl) ?_
    refine AQ_nil ?_
    refine kI h rfl (fun h _ => ?_) (fun h _ => ?_)
    ·refine kR ?_
     refine kN 1 rfl ?_
     refine ACode_ret ?_
     cases h
     have h := hks7
     cases h
     exact ⟨_, _, fun r a w h => ⟨r, h⟩, _, _, [], _, (.cons (ResV_tmp _ _ rfl) .nil), rfl, rfl, rfl, rfl, rfl⟩
    refine ACode_skip ?_
    refine (ACode_region ?_)
    refine kM 1 rfl ?_
    refine AOps_q 16 _ rfl rfl rfl (QOp_add _ _ _ _ _ _ _ rfl rfl rfl) ?_
    refine kN 1 rfl ?_
    exact ⟨k0, _, _, Nat.lt_succ_self _, Weak_keep 0 hm [0, 1, 5] [] _ _ rfl rfl rfl, _, rfl, rfl, h⟩
   refine ACode_exit ?_
   cases h
   exact ⟨_, rfl, Weak_keep 0 hm [] [] _ _ rfl rfl rfl⟩
 refine kR ?_
 refine kN 1 rfl ?_
 refine ACode_ret ?_
 cases h
 exact ⟨_, _, fun r a w h => ⟨r, h⟩, _, _, [], _, (.cons (ResV_tmp _ _ rfl) .nil), rfl, rfl, rfl, rfl, rfl⟩

-- loop.example/g01362/laws.rows9
def laws_rows9_l0 (k : Nat) (p0 : List (List Int)) (p1 : List (List Int)) : Nat → Int → Option (Sum (Unit) (Bool))
 | 0, _ => none
 | k0 + 1, x2 => (if decide (x2 < (p0.length : Int)) then (if 0 ≤ x2 ∧ x2 < (p0.length : Int) then (if 0 ≤ x2 ∧ x2 < (p1.length : Int) then (laws_likeInts k (p0.getD x2.toNat []) (p1.getD x2.toNat [])).bind fun r6 => (if !r6 then some (.inr false) else laws_rows9_l0 k p0 p1 k0 (w64 (x2 + 1))) else none) else none) else some (.inl ()))
def laws_rows9 (k : Nat) (p0 : List (List Int)) (p1 : List (List Int)) : Option (Bool) :=
 (if !decide ((p0.length : Int) = (p1.length : Int)) then some false else (laws_rows9_l0 k p0 p1 k 0 : Option (Sum (Unit) (Bool))).bind fun os8 => (match os8 with | .inl s8 => some true | .inr rr => some rr))
set_option maxRecDepth 100000 in
theorem laws_rows9_ac (k : Nat) (p0 : List (List Int)) (p1 : List (List Int)) (r : Bool) (h : laws_rows9 k p0 p1 = some r) : AC Try.prog 26 [.d (.sl none (rowsD p0)), .d (.sl none (rowsD p1))] [] (fun res H' => res = [bV r] ∧ H' = []) := by
 refine AC_of_body true Try.func26 rfl Try.ntmps26 (rvs := [.tmp 4]) rfl rfl (fun G hG => ?_)
 have hm : G.H.length = 0 := by rw [hG]; rfl
 have hz : zeroG G.H = true := by rw [hG]; rfl
 unfold laws_rows9 at h
 refine kR ?_
 refine kN 1 rfl ?_
 refine ACode_seq ?_
 refine kR ?_
 refine kM 1 rfl ?_
 refine AOps_q 7 _ rfl rfl rfl (QOp_len_sl _ _ _ _ _ _ _ (rowsD_length _) rfl rfl rfl rfl Try.underlying45 rfl) ?_
 refine kM 1 rfl ?_
 refine AOps_q 9 _ rfl rfl rfl (QOp_len_sl _ _ _ _ _ _ _ (rowsD_length _) rfl rfl rfl rfl Try.underlying45 rfl) ?_
 refine AOps_q 10 _ rfl rfl rfl (QOp_neq _ _ _ _ _ _ _ rfl rfl rfl) ?_
 refine AOps_nil ?_
 refine kI h rfl (fun h _ => ?_) (fun h _ => ?_)
 ·refine kR ?_
  refine kN 1 rfl ?_
  refine ACode_ret ?_
  cases h
  exact ⟨_, _, fun r a w h => ⟨r, h⟩, _, _, [], _, (.cons (ResV_tmp _ _ rfl) .nil), rfl, rfl, rfl, rfl, rfl⟩
 refine ACode_skip ?_
 refine kO (fun s8 => []) (fun s8 => []) h (fun os8 h hks8 => ?_) (fun s8 h => ?_)
 ·refine kR ?_
  refine kN 1 rfl ?_
  refine ACode_block ?_
  refine ACode_loopW (fun k0 E H => ∃ (x2 : Int), E = [(0, .d (.sl none (rowsD p0))), (1, .d (.sl none (rowsD p1))), (5, iV x2)] ∧ H = [] ∧ laws_rows9_l0 k p0 p1 k0 x2 = some os8) k _ _ (Weak_keep 0 hm [0, 1, 5] [] _ _ rfl rfl rfl) ⟨_, rfl, rfl, h⟩ ?_
  clear h
  rintro k0 E H ⟨x2, rfl, rfl, h⟩
  cases k0 with
  | zero => cases (show (none : Option (Sum (Unit) (Bool))) = some _ from h)
  | succ k0 =>
   rw [laws_rows9_l0] at h
   refine ACode_seq ?_
   refine kR ?_
   refine kM 2 rfl ?_
   refine AOps_q 13 _ rfl rfl rfl (QOp_len_sl _ _ _ _ _ _ _ (rowsD_length _) rfl rfl rfl rfl Try.underlying45 rfl) ?_
   refine AOps_q 14 _ rfl rfl rfl (QOp_lss _ _ _ _ _ _ _ rfl rfl rfl) ?_
   refine AOps_nil ?_
   refine kI h rfl (fun h _ => ?_) (fun h _ => ?_)
   ·refine ACode_skip ?_
    refine ACode_seq ?_
    refine ACode_block ?_
    refine ACode_seq (ACode_quiet mixed (by kernel_rfl) ?_)
    refine kQ 2 rfl ?_
    obtain ⟨hc4, h⟩ := guardO h
    refine AQ_q 19 _ rfl rfl rfl (QOp_indexAddr_sl _ _ _ _ _ _ _ _ rfl Try.underlying45 Try.sizeOf34 hc4.1 (by rw [rowsD_length]; exact hc4.2) rfl rfl) ?_
    refine AQ_q 20 _ rfl rfl rfl (QOp_load_pv _ _ _ _ _ rfl Try.isAgg34 rfl (rowsD_get _ _ [] (by omega))) ?_
    refine kQ 2 rfl ?_
    obtain ⟨hc5, h⟩ := guardO h
    refine AQ_q 23 _ rfl rfl rfl (QOp_indexAddr_sl _ _ _ _ _ _ _ _ rfl Try.underlying45 Try.sizeOf34 hc5.1 (by rw [rowsD_length]; exact hc5.2) rfl rfl) ?_
    refine AQ_q 24 _ rfl rfl rfl (QOp_load_pv _ _ _ _ _ rfl Try.isAgg34 rfl (rowsD_get _ _ [] (by omega))) ?_
    obtain ⟨r6, hr6, h⟩ := bindO h
    refine AQ_call 25 _ _ _ _ _ _ _ _ _ rfl rfl rfl rfl rfl rfl rfl Try.call13 rfl rfl rfl (laws_likeInts_ac k (p0.getD x2.toNat []) (p1.getD x2.toNat []) _ hr6) ?_
    refine AQ_q 26 _ rfl rfl rfl (QOp_not _ _ _ rfl rfl) ?_
    refine AQ_nil ?_
    refine kI h rfl (fun h _ => ?_) (fun h _ => ?_)
    ·refine kR ?_
     refine kN 1 rfl ?_
     refine ACode_ret ?_
     cases h
     have h := hks8
     cases h
     exact ⟨_, _, fun r a w h => ⟨r, h⟩, _, _, [], _, (.cons (ResV_tmp _ _ rfl) .nil), rfl, rfl, rfl, rfl, rfl⟩
    refine ACode_skip ?_
    refine (ACode_region ?_)
    refine kM 1 rfl ?_
    refine AOps_q 16 _ rfl rfl rfl (QOp_add _ _ _ _ _ _ _ rfl rfl rfl) ?_
    refine kN 1 rfl ?_
    exact ⟨k0, _, _, Nat.lt_succ_self _, Weak_keep 0 hm [0, 1, 5] [] _ _ rfl rfl rfl, _, rfl, rfl, h⟩
   refine ACode_exit ?_
   cases h
   exact ⟨_, rfl, Weak_keep 0 hm [] [] _ _ rfl rfl rfl⟩
 refine kR ?_
 refine kN 1 rfl ?_
 refine ACode_ret ?_
 cases h
 exact ⟨_, _, fun r a w h => ⟨r, h⟩, _, _, [], _, (.cons (ResV_tmp _ _ rfl) .nil), rfl, rfl, rfl, rfl, rfl⟩

-- (*loop.example/g01362/impl.Colouring).that
def impl_Colouring_that_l0 (p0 : Col) (p1 : Int → Option (Bool)) : Nat → Int → (List Int) → Option (List Int)
 | 0, _, _ => none
 | k0 + 1, x1, x2 => (if decide (x1 < p0.p) then ((p1 x1).bind fun r4 => (if r4 then (if x2.length + ([x1]).length ≤ 1099511627776 then some (x2 ++ ([x1])) else none) else some x2) : Option (List Int)).bind fun s7 => impl_Colouring_that_l0 p0 p1 k0 (w64 (x1 + 1)) s7 else some x2)
def impl_Colouring_that (k : Nat) (p0 : Col) (p1 : Int → Option (Bool)) : Option (List Int) :=
 (impl_Colouring_that_l0 p0 p1 k 0 ([] : List Int) : Option (List Int)).bind fun s8 => some s8
set_option maxRecDepth 100000 in
theorem impl_Colouring_that_ac (k : Nat) (p0 : Col) (p1 : Int → Option (Bool)) (g_p1 : FuncId) (c_p1 : List D) (hg_p1 : ∀ args w, (callFunc g_p1 args).run Try.prog w = .ok (.enter g_p1 args) w) (hf_p1 : ∀ (a0 : Int) (r : Bool), p1 a0 = some r → AC Try.prog g_p1 ([iV a0] ++ c_p1.map AV.d) [] (fun res H' => res = [bV r] ∧ H' = [])) (r : List Int) (h : impl_Colouring_that k p0 p1 = some r) : AC Try.prog 71 [.d (.pv (colD p0) 0), .d (.clo g_p1 c_p1)] [] (fun res H' => res = [.vec 0 0] ∧ H' = [.vec 0 (intsD r)]) := by
 refine AC_of_body true Try.func71 rfl Try.ntmps71 (rvs := [.tmp 4]) rfl rfl (fun G hG => ?_)
 have hm : G.H.length = 0 := by rw [hG]; rfl
 have hz : zeroG G.H = true := by rw [hG]; rfl
 unfold impl_Colouring_that at h
 refine kR ?_
 refine kN 1 rfl ?_
 refine kR ?_
 refine AOps_buildSlice 7 _ _ _ [] (intsD ([] : List Int)) _ rfl rfl rfl rfl rfl (by decide) Try.underlying34 Try.sizeOf2 (zero_of Try.typeInfo2 rfl) rfl rfl (intsD_one _) ?_
 refine kN 1 rfl ?_
 refine kB (fun s8 => [(5, .vec 0 0)]) (fun s8 => [.vec 0 (intsD s8)]) h (fun s8 h => ?_) (fun s8 h => ?_)
 ·refine kR ?_
  refine kM 1 rfl ?_
  refine AOps_q 9 _ rfl rfl rfl (QOp_nilCheck_pv _ _ _ rfl rfl) ?_
  refine AOps_q 10 _ rfl rfl rfl (QOp_fieldAddr_pv _ _ _ _ _ 0 _ _ rfl Try.underlying27 rfl _ Try.sizeOf2 rfl rfl) ?_
  refine AOps_q 11 _ rfl rfl rfl (QOp_load_pv _ _ _ _ _ rfl Try.isAgg2 rfl rfl) ?_
  refine kN 1 rfl ?_
  refine ACode_block ?_
  refine ACode_loopW (fun k0 E H => ∃ (x1 : Int) (x2 : List Int), E = [(1, .d (.clo g_p1 c_p1)), (5, .vec 0 0), (11, iV p0.p), (12, iV x1)] ∧ H = [.vec 0 (intsD x2)] ∧ impl_Colouring_that_l0 p0 p1 k0 x1 x2 = some s8) k _ _ (Weak_keep 0 hm [1, 5, 11, 12] [0] _ _ rfl rfl rfl) ⟨_, _, rfl, rfl, h⟩ ?_
  clear h
  rintro k0 E H ⟨x1, x2, rfl, rfl, h⟩
  cases k0 with
  | zero => cases (show (none : Option (List Int)) = some _ from h)
  | succ k0 =>
   rw [impl_Colouring_that_l0] at h
   refine kR ?_
   refine AOps_q 13 _ rfl rfl rfl (QOp_lss _ _ _ _ _ _ _ rfl rfl rfl) ?_
   refine AOps_nil ?_
   refine ACode_seq ?_
   refine kI h rfl (fun h _ => ?_) (fun h _ => ?_)
   ·refine ACode_skip ?_
    refine kB (fun s7 => [(1, .d (.clo g_p1 c_p1)), (5, .vec 0 0), (11, iV p0.p), (12, iV x1)]) (fun s7 => [.vec 0 (intsD s7)]) h (fun s7 h => ?_) (fun s7 h => ?_)
    ·refine ACode_block ?_
     refine kR ?_
     refine kN 2 rfl ?_
     refine kR ?_
     refine kM 2 rfl ?_
     obtain ⟨r4, hr4, h⟩ := bindO h
     refine kC [] 17 (bV r4) [.vec 0 (intsD x2)] rfl hg_p1 rfl (viewA_mapD _) (hf_p1 x1 _ hr4) rfl ?_
     refine AOps_nil ?_
     refine kI h rfl (fun h _ => ?_) (fun h _ => ?_)
     ·refine (ACode_region ?_)
      refine kM 2 rfl ?_
      refine AOps_buildSlice 20 _ _ _ [_] (intsD ([x1])) _ rfl rfl rfl rfl rfl (by decide) Try.underlying34 Try.sizeOf2 (zero_of Try.typeInfo2 rfl) rfl rfl (intsD_one _) ?_
      obtain ⟨hc6, h⟩ := guardO h
      refine AOps_append 21 _ _ _ _ _ _ _ _ _ _ _ _ rfl rfl rfl rfl rfl rfl rfl Try.underlying34 Try.type2 rfl rfl rfl (by decide) rfl rfl rfl rfl (intsD_one _) (by rw [intsD_length, intsD_length]; exact hc6) ?_
      rw [intsD_app]
      refine kN 1 rfl ?_
      cases h
      exact Weak_trans (Weak_keep 0 hm [1, 5, 11, 12] [0] _ _ rfl rfl rfl) (Weak_reset 0 hm hz [1, 5, 11, 12] _ _ rfl rfl)
     refine ACode_skip ?_
     cases h
     exact Weak_keep 0 hm [1, 5, 11, 12] [0] _ _ rfl rfl rfl
    refine (ACode_region ?_)
    refine AOps_q 22 _ rfl rfl rfl (QOp_add _ _ _ _ _ _ _ rfl rfl rfl) ?_
    refine kN 1 rfl ?_
    exact ⟨k0, _, _, Nat.lt_succ_self _, Weak_keep 0 hm [1, 5, 11, 12] [0] _ _ rfl rfl rfl, _, _, rfl, rfl, h⟩
   refine ACode_exit ?_
   cases h
   exact Weak_keep 0 hm [5] [0] _ _ rfl rfl rfl
 refine kR ?_
 refine kN 2 rfl ?_
 refine ACode_ret ?_
 cases h
 exact ⟨_, _, Weak_reset 0 hm hz [4] _ _ rfl rfl, _, _, [0], _, (.cons (ResV_tmp _ _ rfl) .nil), rfl, rfl, rfl, rfl, rfl⟩

-- (*loop.example/g01362/impl.Colouring).neighbours$1
def impl_Colouring_neighbours_c1 (p0 : Int) (p1 : Col) (p2 : Int) (p3 : Int) : Option (Bool) :=
 (impl_Colouring_joins p1 p2 p0 p3).bind fun r1 => some r1
set_option maxRecDepth 100000 in
theorem impl_Colouring_neighbours_c1_ac (p0 : Int) (p1 : Col) (p2 : Int) (p3 : Int) (r : Bool) (h : impl_Colouring_neighbours_c1 p0 p1 p2 p3 = some r) : AC Try.prog 97 [iV p0, .d (.pv ([.pv (colD p1) 0]) 0), .d (.pv ([iD p2]) 0), .d (.pv ([iD p3]) 0)] [] (fun res H' => res = [bV r] ∧ H' = []) := by
 refine AC_of_body true Try.func97 rfl Try.ntmps97 (rvs := [.tmp 5]) rfl rfl (fun G hG => ?_)
 have hm : G.H.length = 0 := by rw [hG]; rfl
 have hz : zeroG G.H = true := by rw [hG]; rfl
 unfold impl_Colouring_neighbours_c1 at h
 refine kR ?_
 refine kN 1 rfl ?_
 refine kR ?_
 refine AOps_q 6 _ rfl rfl rfl (QOp_load_pv _ _ _ _ _ rfl Try.isAgg96 rfl rfl) ?_
 refine AOps_q 7 _ rfl rfl rfl (QOp_load_pv _ _ _ _ _ rfl Try.isAgg2 rfl rfl) ?_
 refine kM 1 rfl ?_
 refine AOps_q 9 _ rfl rfl rfl (QOp_load_pv _ _ _ _ _ rfl Try.isAgg2 rfl rfl) ?_
 obtain ⟨r1, hr1, h⟩ := bindO h
 refine kC [] 10 (bV r1) [] rfl Try.call73 rfl rfl (impl_Colouring_joins_ac p1 p2 p0 p3 _ hr1) rfl ?_
 refine kN 1 rfl ?_
 refine ACode_ret ?_
 cases h
 exact ⟨_, _, fun r a w h => ⟨r, h⟩, _, _, [], _, (.cons (ResV_tmp _ _ rfl) .nil), rfl, rfl, rfl, rfl, rfl⟩

-- (*loop.example/g01362/impl.Colouring).neighbours
def impl_Colouring_neighbours (k : Nat) (p0 : Col) (p1 : Int) (p2 : Int) : Option (List Int) :=
 (impl_Colouring_that k p0 (fun a0 => impl_Colouring_neighbours_c1 a0 p0 p1 p2)).bind fun r1 => some r1
set_option maxRecDepth 100000 in
theorem impl_Colouring_neighbours_ac (k : Nat) (p0 : Col) (p1 : Int) (p2 : Int) (r : List Int) (h : impl_Colouring_neighbours k p0 p1 p2 = some r) : AC Try.prog 76 [.d (.pv (colD p0) 0), iV p1, iV p2] [] (fun res H' => res = [.vec 0 0] ∧ H' = [.vec 0 (intsD r)]) := by
 refine AC_of_body true Try.func76 rfl Try.ntmps76 (rvs := [.tmp 6]) rfl rfl (fun G hG => ?_)
 have hm : G.H.length = 0 := by rw [hG]; rfl
 have hz : zeroG G.H = true := by rw [hG]; rfl
 unfold impl_Colouring_neighbours at h
 refine kR ?_
 refine AOps_boxI 3 _ _ (.pv (colD p0) 0) _ rfl (fun c hc => by cases hc with | head => rfl | tail _ h => cases h) rfl rfl rfl rfl rfl ?_
 refine AOps_boxI 4 _ _ (iD p1) _ rfl (fun c hc => by cases hc with | head => rfl | tail _ h => cases h) rfl rfl rfl rfl rfl ?_
 refine AOps_boxI 5 _ _ (iD p2) _ rfl (fun c hc => by cases hc with | head => rfl | tail _ h => cases h) rfl rfl rfl rfl rfl ?_
 refine kN 1 rfl ?_
 refine kR ?_
 refine AOps_q 7 _ rfl rfl rfl (QOp_load_pv _ _ _ _ _ rfl Try.isAgg96 rfl rfl) ?_
 refine AOps_q 8 _ rfl rfl rfl (QOp_makeFuncD _ _ _ _ rfl rfl rfl) ?_
 obtain ⟨r1, hr1, h⟩ := bindO h
 refine kC [] 9 (.vec 0 0) [.vec 0 (intsD r1)] rfl Try.call71 rfl rfl (impl_Colouring_that_ac k p0 (fun a0 => impl_Colouring_neighbours_c1 a0 p0 p1 p2) 97 ([.pv ([.pv (colD p0) 0]) 0, .pv ([iD p1]) 0, .pv ([iD p2]) 0]) Try.call97 (fun a0 r h => impl_Colouring_neighbours_c1_ac a0 p0 p1 p2 r h) _ hr1) rfl ?_
 refine kN 1 rfl ?_
 refine ACode_ret ?_
 cases h
 exact ⟨_, _, Weak_reset 0 hm hz [6] _ _ rfl rfl, _, _, [0], _, (.cons (ResV_tmp _ _ rfl) .nil), rfl, rfl, rfl, rfl, rfl⟩

-- loop.example/g01362/impl.size[int64]
def impl_size (p0 : List Int) : Int :=
 (p0.length : Int)
set_option maxRecDepth 100000 in
theorem impl_size_ac (p0 : List Int) : AC Try.prog 48 [.d (.sl none (intsD p0))] [] (fun res H' => res = [iV (impl_size p0)] ∧ H' = []) := by
 refine AC_of_body true Try.func48 rfl Try.ntmps48 (rvs := [.tmp 2]) rfl rfl (fun G hG => ?_)
 have hm : G.H.length = 0 := by rw [hG]; rfl
 have hz : zeroG G.H = true := by rw [hG]; rfl
 obtain ⟨r, h⟩ : ∃ r, impl_size p0 = r := ⟨_, rfl⟩
 rw [h]
 unfold impl_size at h
 refine kR ?_
 refine kN 1 rfl ?_
 refine kR ?_
 refine kM 1 rfl ?_
 refine AOps_q 4 _ rfl rfl rfl (QOp_len_sl _ _ _ _ _ _ _ (intsD_length _) rfl rfl rfl rfl Try.underlying34 rfl) ?_
 refine kN 1 rfl ?_
 refine ACode_ret ?_
 cases h
 exact ⟨_, _, fun r a w h => ⟨r, h⟩, _, _, [], _, (.cons (ResV_tmp _ _ rfl) .nil), rfl, rfl, rfl, rfl, rfl⟩

-- (*loop.example/g01362/impl.Colouring).degrees
def impl_Colouring_degrees_l0 (k : Nat) (p0 : Col) (p1 : Int) : Nat → Int → (List Int) → Option (List Int)
 | 0, _, _ => none
 | k0 + 1, x1, x2 => (if decide (x1 < p0.p) then (impl_Colouring_neighbours k p0 x1 p1).bind fun r4 => (if x2.length + ([(impl_size r4)]).length ≤ 1099511627776 then impl_Colouring_degrees_l0 k p0 p1 k0 (w64 (x1 + 1)) (x2 ++ ([(impl_size r4)])) else none) else some x2)
def impl_Colouring_degrees (k : Nat) (p0 : Col) (p1 : Int) : Option (List Int) :=
 (impl_Colouring_degrees_l0 k p0 p1 k 0 ([] : List Int) : Option (List Int)).bind fun s7 => some s7
set_option maxRecDepth 100000 in
theorem impl_Colouring_degrees_ac (k : Nat) (p0 : Col) (p1 : Int) (r : List Int) (h : impl_Colouring_degrees k p0 p1 = some r) : AC Try.prog 88 [.d (.pv (colD p0) 0), iV p1] [] (fun res H' => res = [.vec 0 0] ∧ H' = [.vec 0 (intsD r)]) := by
 refine AC_of_body true Try.func88 rfl Try.ntmps88 (rvs := [.tmp 4]) rfl rfl (fun G hG => ?_)
 have hm : G.H.length = 0 := by rw [hG]; rfl
 have hz : zeroG G.H = true := by rw [hG]; rfl
 unfold impl_Colouring_degrees at h
 refine kR ?_
 refine kN 1 rfl ?_
 refine kR ?_
 refine AOps_buildSlice 7 _ _ _ [] (intsD ([] : List Int)) _ rfl rfl rfl rfl rfl (by decide) Try.underlying34 Try.sizeOf2 (zero_of Try.typeInfo2 rfl) rfl rfl (intsD_one _) ?_
 refine kN 1 rfl ?_
 refine kB (fun s7 => [(5, .vec 0 0)]) (fun s7 => [.vec 0 (intsD s7)]) h (fun s7 h => ?_) (fun s7 h => ?_)
 ·refine kR ?_
  refine kM 1 rfl ?_
  refine AOps_q 9 _ rfl rfl rfl (QOp_nilCheck_pv _ _ _ rfl rfl) ?_
  refine AOps_q 10 _ rfl rfl rfl (QOp_fieldAddr_pv _ _ _ _ _ 0 _ _ rfl Try.underlying27 rfl _ Try.sizeOf2 rfl rfl) ?_
  refine AOps_q 11 _ rfl rfl rfl (QOp_load_pv _ _ _ _ _ rfl Try.isAgg2 rfl rfl) ?_
  refine kN 1 rfl ?_
  refine ACode_block ?_
  refine ACode_loopW (fun k0 E H => ∃ (x1 : Int) (x2 : List Int), E = [(0, .d (.pv (colD p0) 0)), (1, iV p1), (5, .vec 0 0), (11, iV p0.p), (12, iV x1)] ∧ H = [.vec 0 (intsD x2)] ∧ impl_Colouring_degrees_l0 k p0 p1 k0 x1 x2 = some s7) k _ _ (Weak_keep 0 hm [0, 1, 5, 11, 12] [0] _ _ rfl rfl rfl) ⟨_, _, rfl, rfl, h⟩ ?_
  clear h
  rintro k0 E H ⟨x1, x2, rfl, rfl, h⟩
  cases k0 with
  | zero => cases (show (none : Option (List Int)) = some _ from h)
  | succ k0 =>
   rw [impl_Colouring_degrees_l0] at h
   refine kR ?_
   refine AOps_q 13 _ rfl rfl rfl (QOp_lss _ _ _ _ _ _ _ rfl rfl rfl) ?_
   refine AOps_nil ?_
   refine ACode_seq ?_
   refine kI h rfl (fun h _ => ?_) (fun h _ => ?_)
   ·refine ACode_skip ?_
    refine ACode_seq ?_
    refine ACode_block ?_
    refine kR ?_
    refine kN 2 rfl ?_
    refine (ACode_region ?_)
    refine kM 4 rfl ?_
    obtain ⟨r4, hr4, h⟩ := bindO h
    refine kC [] 19 (.vec 1 0) [.vec 0 (intsD x2), .vec 0 (intsD r4)] rfl Try.call76 rfl rfl (impl_Colouring_neighbours_ac k p0 x1 p1 _ hr4) rfl ?_
    refine AOps_callL [] 20 _ _ _ _ _ _ _ _ _ _ rfl rfl rfl rfl rfl rfl rfl Try.call48 rfl (nodupB_sound _ rfl) rfl rfl rfl (impl_size_ac r4) ?_
    rintro _ _ ⟨rfl, rfl⟩
    refine ⟨(fun _ h => nomatch h), (allc (flat_s _) (fun _ h => nomatch h)), AOps_as 20 (v' := iV (impl_size r4)) (H' := [.vec 0 (intsD x2), .vec 0 (intsD r4)]) rfl rfl ?_⟩
    refine AOps_buildSlice 21 _ _ _ [_] (intsD ([(impl_size r4)])) _ rfl rfl rfl rfl rfl (by decide) Try.underlying34 Try.sizeOf2 (zero_of Try.typeInfo2 rfl) rfl rfl (intsD_one _) ?_
    obtain ⟨hc6, h⟩ := guardO h
    refine AOps_append 22 _ _ _ _ _ _ _ _ _ _ _ _ rfl rfl rfl rfl rfl rfl rfl Try.underlying34 Try.type2 rfl rfl rfl (by decide) rfl rfl rfl rfl (intsD_one _) (by rw [intsD_length, intsD_length]; exact hc6) ?_
    rw [intsD_app]
    refine kN 1 rfl ?_
    refine (ACode_region ?_)
    refine AOps_q 23 _ rfl rfl rfl (QOp_add _ _ _ _ _ _ _ rfl rfl rfl) ?_
    refine kN 1 rfl ?_
    exact ⟨k0, _, _, Nat.lt_succ_self _, Weak_trans (Weak_keep 0 hm [0, 1, 5, 11, 12] [0] _ _ rfl rfl rfl) (Weak_reset 0 hm hz [0, 1, 5, 11, 12] _ _ rfl rfl), _, _, rfl, rfl, h⟩
   refine ACode_exit ?_
   cases h
   exact Weak_keep 0 hm [5] [0] _ _ rfl rfl rfl
 refine kR ?_
 refine kN 2 rfl ?_
 refine ACode_ret ?_
 cases h
 exact ⟨_, _, Weak_reset 0 hm hz [4] _ _ rfl rfl, _, _, [0], _, (.cons (ResV_tmp _ _ rfl) .nil), rfl, rfl, rfl, rfl, rfl⟩

-- (*loop.example/g01362/impl.Colouring).star
def impl_Colouring_star_l0 (r1 : List Int) : Nat → Int → Int → Int → Option (Int × Int)
 | 0, _, _, _ => none
 | k0 + 1, x2, x3, x4 => (if decide (x4 < (r1.length : Int)) then ((if 0 ≤ x4 ∧ x4 < (r1.length : Int) then (if decide (x3 < (r1.getD x4.toNat 0)) then some (x4, (r1.getD x4.toNat 0)) else some (x2, x3)) else none) : Option (Int × Int)).bind fun s8 => impl_Colouring_star_l0 r1 k0 s8.1 s8.2 (w64 (x4 + 1)) else some (x2, x3))
def impl_Colouring_star (k : Nat) (p0 : Col) (p1 : Int) : Option (Int × Int) :=
 ((impl_Colouring_degrees k p0 p1).bind fun r1 => impl_Colouring_star_l0 r1 k 0 (-1) 0 : Option (Int × Int)).bind fun s9 => some (s9.1, s9.2)
set_option maxRecDepth 100000 in
theorem impl_Colouring_star_ac (k : Nat) (p0 : Col) (p1 : Int) (r : Int × Int) (h : impl_Colouring_star k p0 p1 = some r) : AC Try.prog 51 [.d (.pv (colD p0) 0), iV p1] [] (fun res H' => res = [iV r.1, iV r.2] ∧ H' = []) := by
 refine AC_of_body true Try.func51 rfl Try.ntmps51 (rvs := [.tmp 4, .tmp 5]) rfl rfl (fun G hG => ?_)
 have hm : G.H.length = 0 := by rw [hG]; rfl
 have hz : zeroG G.H = true := by rw [hG]; rfl
 unfold impl_Colouring_star at h
 refine kR ?_
 refine kN 2 rfl ?_
 refine kR ?_
 refine kN 2 rfl ?_
 refine kB (fun s9 => [(6, iV s9.1), (7, iV s9.2)]) (fun s9 => []) h (fun s9 h => ?_) (fun s9 h => ?_)
 ·refine kR ?_
  refine kM 2 rfl ?_
  obtain ⟨r1, hr1, h⟩ := bindO h
  refine kC [] 12 (.vec 0 0) [.vec 0 (intsD r1)] rfl Try.call88 rfl rfl (impl_Colouring_degrees_ac k p0 p1 _ hr1) rfl ?_
  refine AOps_q 13 _ rfl rfl rfl (QOp_len_vec _ _ _ _ _ _ _ _ (intsD_length _) rfl rfl rfl rfl Try.underlying34 rfl rfl) ?_
  refine kN 1 rfl ?_
  refine ACode_block ?_
  refine ACode_loopW (fun k0 E H => ∃ (x2 : Int) (x3 : Int) (x4 : Int), E = [(6, iV x2), (7, iV x3), (12, .vec 0 0), (13, iV (r1.length : Int)), (14, iV x4)] ∧ H = [.vec 0 (intsD r1)] ∧ impl_Colouring_star_l0 r1 k0 x2 x3 x4 = some s9) k _ _ (Weak_keep 0 hm [6, 7, 12, 13, 14] [0] _ _ rfl rfl rfl) ⟨_, _, _, rfl, rfl, h⟩ ?_
  clear h
  rintro k0 E H ⟨x2, x3, x4, rfl, rfl, h⟩
  cases k0 with
  | zero => cases (show (none : Option (Int × Int)) = some _ from h)
  | succ k0 =>
   rw [impl_Colouring_star_l0] at h
   refine kR ?_
   refine AOps_q 15 _ rfl rfl rfl (QOp_lss _ _ _ _ _ _ _ rfl rfl rfl) ?_
   refine AOps_nil ?_
   refine ACode_seq ?_
   refine kI h rfl (fun h _ => ?_) (fun h _ => ?_)
   ·refine ACode_skip ?_
    refine kB (fun s8 => [(6, iV s8.1), (7, iV s8.2), (12, .vec 0 0), (13, iV (r1.length : Int)), (14, iV x4)]) (fun s8 => [.vec 0 (intsD r1)]) h (fun s8 h => ?_) (fun s8 h => ?_)
    ·refine ACode_block ?_
     refine kR ?_
     refine kM 1 rfl ?_
     obtain ⟨hc6, h⟩ := guardO h
     refine AOps_q 17 _ rfl rfl rfl (QOp_indexAddr_vec _ _ _ _ _ _ _ _ _ rfl Try.underlying34 Try.sizeOf2 hc6.1 (by rw [intsD_length]; exact hc6.2) rfl rfl rfl) ?_
     refine AOps_q 18 _ rfl rfl rfl (QOp_load_eptr _ _ _ _ _ _ _ rfl Try.isAgg2 rfl rfl (intsD_get _ _ 0 (by omega))) ?_
     refine kN 2 rfl ?_
     refine kR ?_
     refine kM 2 rfl ?_
     refine AOps_q 21 _ rfl rfl rfl (QOp_gtr _ _ _ _ _ _ _ rfl rfl rfl) ?_
     refine AOps_nil ?_
     refine kI h rfl (fun h _ => ?_) (fun h _ => ?_)
     ·refine (ACode_region ?_)
      refine kN 4 rfl ?_
      cases h
      exact Weak_keep 0 hm [6, 7, 12, 13, 14] [0] _ _ rfl rfl rfl
     refine ACode_skip ?_
     cases h
     exact Weak_keep 0 hm [6, 7, 12, 13, 14] [0] _ _ rfl rfl rfl
    refine (ACode_region ?_)
    refine AOps_q 24 _ rfl rfl rfl (QOp_add _ _ _ _ _ _ _ rfl rfl rfl) ?_
    refine kN 1 rfl ?_
    exact ⟨k0, _, _, Nat.lt_succ_self _, Weak_keep 0 hm [6, 7, 12, 13, 14] [0] _ _ rfl rfl rfl, _, _, _, rfl, rfl, h⟩
   refine ACode_exit ?_
   cases h
   exact Weak_keep 0 hm [6, 7] [] _ _ rfl rfl rfl
 refine kR ?_
 refine kN 4 rfl ?_
 refine ACode_ret ?_
 cases h
 exact ⟨_, _, fun r a w h => ⟨r, h⟩, _, _, [], _, (.cons (ResV_tmp _ _ rfl) (.cons (ResV_tmp _ _ rfl) .nil)), rfl, rfl, rfl, rfl, rfl⟩

-- loop.example/g01362/impl.GreatestStar
def impl_GreatestStar (k : Nat) (p0 : Col) (p1 : Int) : Option (Int × Int × Int) :=
 (impl_Colouring_colourCode k p0 p1 true).bind fun r1 => (if !decide (r1 = 0) then some (0, 0, r1) else (impl_Colouring_star k p0 p1).bind fun r3 => some (r3.1, r3.2, 0))
set_option maxRecDepth 100000 in
theorem impl_GreatestStar_ac (k : Nat) (p0 : Col) (p1 : Int) (r : Int × Int × Int) (h : impl_GreatestStar k p0 p1 = some r) : AC Try.prog 27 [.d (.agg (colD p0)), iV p1] [] (fun res H' => res = [iV r.1, iV r.2.1, iV r.2.2] ∧ H' = []) := by
 refine AC_of_body true Try.func27 rfl Try.ntmps27 (rvs := [.tmp 4, .tmp 5, .tmp 6]) rfl rfl (fun G hG => ?_)
 have hm : G.H.length = 0 := by rw [hG]; rfl
 have hz : zeroG G.H = true := by rw [hG]; rfl
 unfold impl_GreatestStar at h
 refine kR ?_
 refine AOps_boxI 2 _ _ (.agg (colD p0)) (colD p0) rfl (colD_one _) rfl rfl rfl rfl rfl ?_
 refine kN 3 rfl ?_
 refine ACode_seq ?_
 refine kR ?_
 refine kM 1 rfl ?_
 obtain ⟨r1, hr1, h⟩ := bindO h
 refine kC [] 11 (iV r1) [] rfl Try.call46 rfl rfl (impl_Colouring_colourCode_ac k p0 p1 true _ hr1) rfl ?_
 refine kN 1 rfl ?_
 refine kR ?_
 refine kM 1 rfl ?_
 refine AOps_q 13 _ rfl rfl rfl (QOp_neq _ _ _ _ _ _ _ rfl rfl rfl) ?_
 refine AOps_nil ?_
 refine kI h rfl (fun h _ => ?_) (fun h _ => ?_)
 ·refine kR ?_
  refine kN 4 rfl ?_
  refine ACode_ret ?_
  cases h
  exact ⟨_, _, fun r a w h => ⟨r, h⟩, _, _, [], _, (.cons (ResV_tmp _ _ rfl) (.cons (ResV_tmp _ _ rfl) (.cons (ResV_tmp _ _ rfl) .nil))), rfl, rfl, rfl, rfl, rfl⟩
 refine ACode_skip ?_
 refine kR ?_
 refine kM 1 rfl ?_
 obtain ⟨r3, hr3, h⟩ := bindO h
 refine kC [] 17 (.tup [iV r3.1, iV r3.2]) [] rfl Try.call51 rfl rfl (impl_Colouring_star_ac k p0 p1 _ hr3) rfl ?_
 refine kN 5 rfl ?_
 refine kR ?_
 refine kN 5 rfl ?_
 refine ACode_ret ?_
 cases h
 exact ⟨_, _, fun r a w h => ⟨r, h⟩, _, _, [], _, (.cons (ResV_tmp _ _ rfl) (.cons (ResV_tmp _ _ rfl) (.cons (ResV_tmp _ _ rfl) .nil))), rfl, rfl, rfl, rfl, rfl⟩

-- loop.example/g01362/spec.l01Ones
def spec_l01Ones_l0 : Nat → Int → Int → Option (Int)
 | 0, _, _ => none
 | k0 + 1, x1, x2 => (if decide (0 < x1) then spec_l01Ones_l0 k0 (w64 (x1.tdiv 2)) (w64 (x2 + (x1.tmod 2))) else some x2)
def spec_l01Ones (k : Nat) (p0 : Int) : Option (Int) :=
 (spec_l01Ones_l0 k p0 0 : Option (Int)).bind fun s4 => some s4
set_option maxRecDepth 100000 in
theorem spec_l01Ones_ac (k : Nat) (p0 : Int) (r : Int) (h : spec_l01Ones k p0 = some r) : AC Try.prog 82 [iV p0] [] (fun res H' => res = [iV r] ∧ H' = []) := by
 refine AC_of_body true Try.func82 rfl Try.ntmps82 (rvs := [.tmp 2]) rfl rfl (fun G hG => ?_)
 have hm : G.H.length = 0 := by rw [hG]; rfl
 have hz : zeroG G.H = true := by rw [hG]; rfl
 unfold spec_l01Ones at h
 refine kR ?_
 refine kN 1 rfl ?_
 refine kR ?_
 refine kN 1 rfl ?_
 refine kB (fun s4 => [(3, iV s4)]) (fun s4 => []) h (fun s4 h => ?_) (fun s4 h => ?_)
 ·refine ACode_block ?_
  refine ACode_loopW (fun k0 E H => ∃ (x1 : Int) (x2 : Int), E = [(0, iV x1), (3, iV x2)] ∧ H = [] ∧ spec_l01Ones_l0 k0 x1 x2 = some s4) k _ _ (Weak_keep 0 hm [0, 3] [] _ _ rfl rfl rfl) ⟨_, _, rfl, rfl, h⟩ ?_
  clear h
  rintro k0 E H ⟨x1, x2, rfl, rfl, h⟩
  cases k0 with
  | zero => cases (show (none : Option (Int)) = some _ from h)
  | succ k0 =>
   rw [spec_l01Ones_l0] at h
   refine ACode_seq ?_
   refine kR ?_
   refine kM 1 rfl ?_
   refine AOps_q 5 _ rfl rfl rfl (QOp_gtr _ _ _ _ _ _ _ rfl rfl rfl) ?_
   refine AOps_nil ?_
   refine kI h rfl (fun h _ => ?_) (fun h _ => ?_)
   ·refine ACode_skip ?_
    refine ACode_seq ?_
    refine ACode_block ?_
    refine (ACode_region ?_)
    refine kM 2 rfl ?_
    refine AOps_q 10 _ rfl rfl rfl (QOp_rem _ _ _ _ _ _ _ (by decide) rfl rfl rfl) ?_
    refine AOps_q 11 _ rfl rfl rfl (QOp_add _ _ _ _ _ _ _ rfl rfl rfl) ?_
    refine kN 1 rfl ?_
    refine (ACode_region ?_)
    refine kM 1 rfl ?_
    refine AOps_q 7 _ rfl rfl rfl (QOp_quo _ _ _ _ _ _ _ (by decide) rfl rfl rfl) ?_
    refine kN 1 rfl ?_
    exact ⟨k0, _, _, Nat.lt_succ_self _, Weak_keep 0 hm [0, 3] [] _ _ rfl rfl rfl, _, _, rfl, rfl, h⟩
   refine ACode_exit ?_
   cases h
   exact Weak_keep 0 hm [3] [] _ _ rfl rfl rfl
 refine kR ?_
 refine kN 2 rfl ?_
 refine ACode_ret ?_
 cases h
 exact ⟨_, _, fun r a w h => ⟨r, h⟩, _, _, [], _, (.cons (ResV_tmp _ _ rfl) .nil), rfl, rfl, rfl, rfl, rfl⟩

-- loop.example/g01362/spec.l04Star
def spec_l04Star_l0 (k : Nat) (p0 : Col) (p1 : Int) : Nat → Int → Int → Int → Option (Int × Int)
 | 0, _, _, _ => none
 | k0 + 1, x1, x2, x3 => (if decide (x3 < p0.p) then ((spec_l01Around k p0 x3 p1).bind fun r5 => (spec_l01Ones k r5).bind fun r6 => (if decide (x1 < r6) then some (r6, x3) else some (x1, x2)) : Option (Int × Int)).bind fun s8 => spec_l04Star_l0 k p0 p1 k0 s8.1 s8.2 (w64 (x3 + 1)) else some (x1, x2))
def spec_l04Star (k : Nat) (p0 : Col) (p1 : Int) : Option (Int × Int) :=
 (spec_l04Star_l0 k p0 p1 k (-1) 0 0 : Option (Int × Int)).bind fun s9 => some (s9.2, s9.1)
set_option maxRecDepth 100000 in
theorem spec_l04Star_ac (k : Nat) (p0 : Col) (p1 : Int) (r : Int × Int) (h : spec_l04Star k p0 p1 = some r) : AC Try.prog 42 [.d (.agg (colD p0)), iV p1] [] (fun res H' => res = [iV r.1, iV r.2] ∧ H' = []) := by
 refine AC_of_body true Try.func42 rfl Try.ntmps42 (rvs := [.tmp 4, .tmp 5]) rfl rfl (fun G hG => ?_)
 have hm : G.H.length = 0 := by rw [hG]; rfl
 have hz : zeroG G.H = true := by rw [hG]; rfl
 unfold spec_l04Star at h
 refine kR ?_
 refine AOps_boxI 2 _ _ (.agg (colD p0)) (colD p0) rfl (colD_one _) rfl rfl rfl rfl rfl ?_
 refine kN 2 rfl ?_
 refine kR ?_
 refine kN 2 rfl ?_
 refine kB (fun s9 => [(6, iV s9.1), (7, iV s9.2)]) (fun s9 => []) h (fun s9 h => ?_) (fun s9 h => ?_)
 ·refine kR ?_
  refine kN 1 rfl ?_
  refine ACode_block ?_
  refine ACode_loopW (fun k0 E H => ∃ (x1 : Int) (x2 : Int) (x3 : Int), E = [(1, iV p1), (2, .d (.pv (colD p0) 0)), (6, iV x1), (7, iV x2), (8, iV x3)] ∧ H = [] ∧ spec_l04Star_l0 k p0 p1 k0 x1 x2 x3 = some s9) k _ _ (Weak_keep 0 hm [1, 2, 6, 7, 8] [] _ _ rfl rfl rfl) ⟨_, _, _, rfl, rfl, h⟩ ?_
  clear h
  rintro k0 E H ⟨x1, x2, x3, rfl, rfl, h⟩
  cases k0 with
  | zero => cases (show (none : Option (Int × Int)) = some _ from h)
  | succ k0 =>
   rw [spec_l04Star_l0] at h
   refine ACode_seq ?_
   refine kR ?_
   refine kM 1 rfl ?_
   refine AOps_q 11 _ rfl rfl rfl (QOp_fieldAddr_pv _ _ _ _ _ 0 _ _ rfl Try.underlying27 rfl _ Try.sizeOf2 rfl rfl) ?_
   refine AOps_q 12 _ rfl rfl rfl (QOp_load_pv _ _ _ _ _ rfl Try.isAgg2 rfl rfl) ?_
   refine AOps_q 13 _ rfl rfl rfl (QOp_lss _ _ _ _ _ _ _ rfl rfl rfl) ?_
   refine AOps_nil ?_
   refine kI h rfl (fun h _ => ?_) (fun h _ => ?_)
   ·refine ACode_skip ?_
    refine kB (fun s8 => [(1, iV p1), (2, .d (.pv (colD p0) 0)), (6, iV s8.1), (7, iV s8.2), (8, iV x3)]) (fun s8 => []) h (fun s8 h => ?_) (fun s8 h => ?_)
    ·refine ACode_block ?_
     refine kR ?_
     refine AOps_q 16 _ rfl rfl rfl (QOp_loadN_pv _ _ _ _ _ _ rfl Try.isAgg27 Try.sizeOf27 rfl (colD_all _) (colD_length _)) ?_
     refine kM 2 rfl ?_
     obtain ⟨r5, hr5, h⟩ := bindO h
     refine kC [] 19 (iV r5) [] rfl Try.call83 rfl rfl (spec_l01Around_ac k p0 x3 p1 _ hr5) rfl ?_
     obtain ⟨r6, hr6, h⟩ := bindO h
     refine kC [] 20 (iV r6) [] rfl Try.call82 rfl rfl (spec_l01Ones_ac k r5 _ hr6) rfl ?_
     refine kN 1 rfl ?_
     refine kR ?_
     refine kM 2 rfl ?_
     refine AOps_q 23 _ rfl rfl rfl (QOp_gtr _ _ _ _ _ _ _ rfl rfl rfl) ?_
     refine AOps_nil ?_
     refine kI h rfl (fun h _ => ?_) (fun h _ => ?_)
     ·refine kR ?_
      refine kN 2 rfl ?_
      refine (ACode_region ?_)
      refine kN 2 rfl ?_
      cases h
      exact Weak_keep 0 hm [1, 2, 6, 7, 8] [] _ _ rfl rfl rfl
     refine ACode_skip ?_
     cases h
     exact Weak_keep 0 hm [1, 2, 6, 7, 8] [] _ _ rfl rfl rfl
    refine (ACode_region ?_)
    refine kM 1 rfl ?_
    refine AOps_q 15 _ rfl rfl rfl (QOp_add _ _ _ _ _ _ _ rfl rfl rfl) ?_
    refine kN 1 rfl ?_
    exact ⟨k0, _, _, Nat.lt_succ_self _, Weak_keep 0 hm [1, 2, 6, 7, 8] [] _ _ rfl rfl rfl, _, _, _, rfl, rfl, h⟩
   refine ACode_exit ?_
   cases h
   exact Weak_keep 0 hm [6, 7] [] _ _ rfl rfl rfl
 refine kR ?_
 refine kN 4 rfl ?_
 refine ACode_ret ?_
 cases h
 exact ⟨_, _, fun r a w h => ⟨r, h⟩, _, _, [], _, (.cons (ResV_tmp _ _ rfl) (.cons (ResV_tmp _ _ rfl) .nil)), rfl, rfl, rfl, rfl, rfl⟩

-- loop.example/g01362/spec.GreatestStar
def spec_GreatestStar (k : Nat) (p0 : Col) (p1 : Int) : Option (Int × Int × Int) :=
 (spec_l01Given k p0 p1 ([])).bind fun r1 => (if !decide (r1 = 0) then some (0, 0, r1) else (spec_l04Star k p0 p1).bind fun r3 => some (r3.1, r3.2, 0))
set_option maxRecDepth 100000 in
theorem spec_GreatestStar_ac (k : Nat) (p0 : Col) (p1 : Int) (r : Int × Int × Int) (h : spec_GreatestStar k p0 p1 = some r) : AC Try.prog 28 [.d (.agg (colD p0)), iV p1] [] (fun res H' => res = [iV r.1, iV r.2.1, iV r.2.2] ∧ H' = []) := by
 refine AC_of_body true Try.func28 rfl Try.ntmps28 (rvs := [.tmp 4, .tmp 5, .tmp 6]) rfl rfl (fun G hG => ?_)
 have hm : G.H.length = 0 := by rw [hG]; rfl
 have hz : zeroG G.H = true := by rw [hG]; rfl
 unfold spec_GreatestStar at h
 refine kR ?_
 refine AOps_boxI 2 _ _ (.agg (colD p0)) (colD p0) rfl (colD_one _) rfl rfl rfl rfl rfl ?_
 refine kN 3 rfl ?_
 refine ACode_seq ?_
 refine kR ?_
 refine AOps_q 10 _ rfl rfl rfl (QOp_loadN_pv _ _ _ _ _ _ rfl Try.isAgg27 Try.sizeOf27 rfl (colD_all _) (colD_length _)) ?_
 refine kM 1 rfl ?_
 obtain ⟨r1, hr1, h⟩ := bindO h
 refine kC [] 12 (iV r1) [] rfl Try.call37 rfl rfl (spec_l01Given_ac k p0 p1 ([]) _ hr1) rfl ?_
 refine kN 1 rfl ?_
 refine kR ?_
 refine kM 1 rfl ?_
 refine AOps_q 14 _ rfl rfl rfl (QOp_neq _ _ _ _ _ _ _ rfl rfl rfl) ?_
 refine AOps_nil ?_
 refine kI h rfl (fun h _ => ?_) (fun h _ => ?_)
 ·refine kR ?_
  refine kN 4 rfl ?_
  refine ACode_ret ?_
  cases h
  exact ⟨_, _, fun r a w h => ⟨r, h⟩, _, _, [], _, (.cons (ResV_tmp _ _ rfl) (.cons (ResV_tmp _ _ rfl) (.cons (ResV_tmp _ _ rfl) .nil))), rfl, rfl, rfl, rfl, rfl⟩
 refine ACode_skip ?_
 refine kR ?_
 refine AOps_q 17 _ rfl rfl rfl (QOp_loadN_pv _ _ _ _ _ _ rfl Try.isAgg27 Try.sizeOf27 rfl (colD_all _) (colD_length _)) ?_
 refine kM 1 rfl ?_
 obtain ⟨r3, hr3, h⟩ := bindO h
 refine kC [] 19 (.tup [iV r3.1, iV r3.2]) [] rfl Try.call42 rfl rfl (spec_l04Star_ac k p0 p1 _ hr3) rfl ?_
 refine kN 5 rfl ?_
 refine kR ?_
 refine kN 5 rfl ?_
 refine ACode_ret ?_
 cases h
 exact ⟨_, _, fun r a w h => ⟨r, h⟩, _, _, [], _, (.cons (ResV_tmp _ _ rfl) (.cons (ResV_tmp _ _ rfl) (.cons (ResV_tmp _ _ rfl) .nil))), rfl, rfl, rfl, rfl, rfl⟩

-- (*loop.example/g01362/impl.Colouring).double$1
def impl_Colouring_double_c1 (p0 : Int) (p1 : Col) (p2 : Int) (p3 : Int) (p4 : Int) : Option (Bool) :=
 ((impl_Colouring_joins p1 p2 p0 p3).bind fun r1 => (if r1 then (impl_Colouring_joins p1 p4 p0 p3).bind fun r3 => some r3 else some false) : Option (Bool)).bind fun s4 => some s4
set_option maxRecDepth 100000 in
theorem impl_Colouring_double_c1_ac (p0 : Int) (p1 : Col) (p2 : Int) (p3 : Int) (p4 : Int) (r : Bool) (h : impl_Colouring_double_c1 p0 p1 p2 p3 p4 = some r) : AC Try.prog 90 [iV p0, .d (.pv ([.pv (colD p1) 0]) 0), .d (.pv ([iD p2]) 0), .d (.pv ([iD p3]) 0), .d (.pv ([iD p4]) 0)] [] (fun res H' => res = [bV r] ∧ H' = []) := by
 refine AC_of_body true Try.func90 rfl Try.ntmps90 (rvs := [.tmp 6]) rfl rfl (fun G hG => ?_)
 have hm : G.H.length = 0 := by rw [hG]; rfl
 have hz : zeroG G.H = true := by rw [hG]; rfl
 unfold impl_Colouring_double_c1 at h
 refine kR ?_
 refine kN 1 rfl ?_
 refine kB (fun s4 => [(6, bV s4)]) (fun s4 => []) h (fun s4 h => ?_) (fun s4 h => ?_)
 ·refine (ACode_region ?_)
  refine AOps_q 7 _ rfl rfl rfl (QOp_load_pv _ _ _ _ _ rfl Try.isAgg96 rfl rfl) ?_
  refine AOps_q 8 _ rfl rfl rfl (QOp_load_pv _ _ _ _ _ rfl Try.isAgg2 rfl rfl) ?_
  refine kM 1 rfl ?_
  refine AOps_q 10 _ rfl rfl rfl (QOp_load_pv _ _ _ _ _ rfl Try.isAgg2 rfl rfl) ?_
  obtain ⟨r1, hr1, h⟩ := bindO h
  refine kC [] 11 (bV r1) [] rfl Try.call73 rfl rfl (impl_Colouring_joins_ac p1 p2 p0 p3 _ hr1) rfl ?_
  refine kM 1 rfl ?_
  refine AOps_case 12 _ rfl (fun hb2 => ?_) (fun hb2 => ?_)
  ·have h := iteT hb2 h
   refine AOps_q 13 _ rfl rfl rfl (QOp_load_pv _ _ _ _ _ rfl Try.isAgg96 rfl rfl) ?_
   refine AOps_q 14 _ rfl rfl rfl (QOp_load_pv _ _ _ _ _ rfl Try.isAgg2 rfl rfl) ?_
   refine kM 1 rfl ?_
   refine AOps_q 16 _ rfl rfl rfl (QOp_load_pv _ _ _ _ _ rfl Try.isAgg2 rfl rfl) ?_
   obtain ⟨r3, hr3, h⟩ := bindO h
   refine kC [] 17 (bV r3) [] rfl Try.call73 rfl rfl (impl_Colouring_joins_ac p1 p4 p0 p3 _ hr3) rfl ?_
   refine kN 2 rfl ?_
   cases h
   exact Weak_keep 0 hm [6] [] _ _ rfl rfl rfl
  have h := iteF hb2 h
  refine AOps_skip 13 rfl rfl rfl ?_
  refine AOps_skip 14 rfl rfl rfl ?_
  refine AOps_skip 15 rfl rfl rfl ?_
  refine AOps_skip 16 rfl rfl rfl ?_
  refine AOps_skip 17 rfl rfl rfl ?_
  refine kN 2 rfl ?_
  cases h
  exact Weak_keep 0 hm [6] [] _ _ rfl rfl rfl
 refine ACode_ret ?_
 cases h
 exact ⟨_, _, fun r a w h => ⟨r, h⟩, _, _, [], _, (.cons (ResV_tmp _ _ rfl) .nil), rfl, rfl, rfl, rfl, rfl⟩

-- (*loop.example/g01362/impl.Colouring).double
def impl_Colouring_double_l1 (k : Nat) (p0 : Col) (p1 : Int) (p2 : Bool) (x3 : Int) : Nat → (List Int) → Int → Int → Option (List Int × Int)
 | 0, _, _, _ => none
 | k1 + 1, x5, x6, x7 => (if decide (x7 < p0.p) then ((((if p2 then (impl_Colouring_joins p0 x3 x7 p1).bind fun r10 => some (!r10) else some false) : Option (Bool)).bind fun s11 => (if s11 then (some (x5, x6)).bind fun rr => some (.inr rr) else some (.inl ())) : Option (Sum (Unit) (List Int × Int))).bind fun os13 => (match os13 with | .inl s13 => (impl_Colouring_that k p0 (fun a0 => impl_Colouring_double_c1 a0 p0 x3 p1 x7)).bind fun r14 => (if decide (x6 < (impl_size r14)) then some ([x3, x7], (impl_size r14)) else some (x5, x6)) | .inr rr => some rr) : Option (List Int × Int)).bind fun s17 => impl_Colouring_double_l1 k p0 p1 p2 x3 k1 s17.1 s17.2 (w64 (x7 + 1)) else some (x5, x6))
def impl_Colouring_double_l0 (k : Nat) (p0 : Col) (p1 : Int) (p2 : Bool) : Nat → (List Int) → Int → Int → Option (List Int × Int)
 | 0, _, _, _ => none
 | k0 + 1, x1, x2, x3 => (if decide (x3 < p0.p) then (impl_Colouring_double_l1 k p0 p1 p2 x3 k x1 x2 (w64 (x3 + 1)) : Option (List Int × Int)).bind fun s18 => impl_Colouring_double_l0 k p0 p1 p2 k0 s18.1 s18.2 (w64 (x3 + 1)) else some (x1, x2))
def impl_Colouring_double (k : Nat) (p0 : Col) (p1 : Int) (p2 : Bool) : Option (List Int × Int) :=
 (impl_Colouring_double_l0 k p0 p1 p2 k ([]) (-1) 0 : Option (List Int × Int)).bind fun s19 => some (s19.1, s19.2)
set_option maxRecDepth 100000 in
theorem impl_Colouring_double_ac (k : Nat) (p0 : Col) (p1 : Int) (p2 : Bool) (r : List Int × Int) (h : impl_Colouring_double k p0 p1 p2 = some r) : AC Try.prog 54 [.d (.pv (colD p0) 0), iV p1, bV p2] [] (fun res H' => res = [.d (.sl (some r.1.isEmpty) (intsD r.1)), iV r.2] ∧ H' = []) := by
 refine AC_of_body false Try.func54 rfl Try.ntmps54 (rvs := [.tmp 6, .tmp 7]) rfl rfl (fun G hG => ?_)
 have hm : G.H.length = 0 := by rw [hG]; rfl
 have hz : zeroG G.H = true := by rw [hG]; rfl
 unfold impl_Colouring_double at h
 refine kR ?_
 refine AOps_boxI 3 _ _ (.pv (colD p0) 0) _ rfl (fun c hc => by cases hc with | head => rfl | tail _ h => cases h) rfl rfl rfl rfl rfl ?_
 refine AOps_boxI 4 _ _ (iD p1) _ rfl (fun c hc => by cases hc with | head => rfl | tail _ h => cases h) rfl rfl rfl rfl rfl ?_
 refine kN 2 rfl ?_
 refine kR ?_
 refine kN 1 rfl ?_
 refine kR ?_
 refine kN 1 rfl ?_
 refine kB (fun s19 => [(8, .d (.sl (some s19.1.isEmpty) (intsD s19.1))), (9, iV s19.2)]) (fun s19 => []) h (fun s19 h => ?_) (fun s19 h => ?_)
 ·refine kR ?_
  refine AOps_q 13 _ rfl rfl rfl (QOp_load_pv _ _ _ _ _ rfl Try.isAgg96 rfl rfl) ?_
  refine AOps_q 14 _ rfl rfl rfl (QOp_nilCheck_pv _ _ _ rfl rfl) ?_
  refine AOps_q 15 _ rfl rfl rfl (QOp_fieldAddr_pv _ _ _ _ _ 0 _ _ rfl Try.underlying27 rfl _ Try.sizeOf2 rfl rfl) ?_
  refine AOps_q 16 _ rfl rfl rfl (QOp_load_pv _ _ _ _ _ rfl Try.isAgg2 rfl rfl) ?_
  refine kN 1 rfl ?_
  refine ACode_block ?_
  refine ACode_loopW (fun k0 E H => ∃ (x1 : List Int) (x2 : Int) (x3 : Int), E = [(2, bV p2), (3, .d (.pv ([.pv (colD p0) 0]) 0)), (4, .d (.pv ([iD p1]) 0)), (8, .d (.sl (some x1.isEmpty) (intsD x1))), (9, iV x2), (16, iV p0.p), (17, iV x3)] ∧ H = [] ∧ impl_Colouring_double_l0 k p0 p1 p2 k0 x1 x2 x3 = some s19) k _ _ (Weak_keep 0 hm [2, 3, 4, 8, 9, 16, 17] [] _ _ rfl rfl rfl) ⟨_, _, _, rfl, rfl, h⟩ ?_
  clear h
  rintro k0 E H ⟨x1, x2, x3, rfl, rfl, h⟩
  cases k0 with
  | zero => cases (show (none : Option (List Int × Int)) = some _ from h)
  | succ k0 =>
   rw [impl_Colouring_double_l0] at h
   refine kR ?_
   refine AOps_q 18 _ rfl rfl rfl (QOp_lss _ _ _ _ _ _ _ rfl rfl rfl) ?_
   refine AOps_nil ?_
   refine ACode_seq ?_
   refine kI h rfl (fun h _ => ?_) (fun h _ => ?_)
   ·refine ACode_skip ?_
    refine kB (fun s18 => [(2, bV p2), (3, .d (.pv ([.pv (colD p0) 0]) 0)), (4, .d (.pv ([iD p1]) 0)), (8, .d (.sl (some s18.1.isEmpty) (intsD s18.1))), (9, iV s18.2), (16, iV p0.p), (17, iV x3)]) (fun s18 => []) h (fun s18 h => ?_) (fun s18 h => ?_)
    ·refine ACode_block ?_
     refine kR ?_
     refine kM 1 rfl ?_
     refine AOps_alloc 10 _ _ ([iD 0]) (zero_of Try.typeInfo2 rfl) (by rfl) rfl rfl rfl rfl ?_
     refine AOps_store1 _ _ _ _ _ _ _ _ rfl rfl rfl rfl rfl rfl rfl Try.sizeOf2 (Nat.le_of_ble_eq_true rfl) rfl ?_
     refine AOps_nil ?_
     refine kR ?_
     refine AOps_q 20 _ rfl rfl rfl (QOp_load_ptr _ _ _ _ _ _ rfl Try.isAgg2 rfl rfl rfl) ?_
     refine AOps_q 21 _ rfl rfl rfl (QOp_add _ _ _ _ _ _ _ rfl rfl rfl) ?_
     refine AOps_alloc 11 _ _ ([iD 0]) (zero_of Try.typeInfo2 rfl) (by rfl) rfl rfl rfl rfl ?_
     refine AOps_store1 _ _ _ _ _ _ _ _ rfl rfl rfl rfl rfl rfl rfl Try.sizeOf2 (Nat.le_of_ble_eq_true rfl) rfl ?_
     refine AOps_nil ?_
     refine ACode_block ?_
     refine ACode_loopW (fun k1 E H => ∃ (x5 : List Int) (x6 : Int) (x7 : Int), E = [(2, bV p2), (3, .d (.pv ([.pv (colD p0) 0]) 0)), (4, .d (.pv ([iD p1]) 0)), (8, .d (.sl (some x5.isEmpty) (intsD x5))), (9, iV x6), (10, .ptr 0 0), (11, .ptr 1 0), (16, iV p0.p), (17, iV x3)] ∧ H = [.box [iD x3], .box [iD x7]] ∧ impl_Colouring_double_l1 k p0 p1 p2 x3 k1 x5 x6 x7 = some s18) k _ _ (Weak_keep 0 hm [2, 3, 4, 8, 9, 10, 11, 16, 17] [0, 1] _ _ rfl rfl rfl) ⟨_, _, _, rfl, rfl, h⟩ ?_
     clear h
     rintro k1 E H ⟨x5, x6, x7, rfl, rfl, h⟩
     cases k1 with
     | zero => cases (show (none : Option (List Int × Int)) = some _ from h)
     | succ k1 =>
      rw [impl_Colouring_double_l1] at h
      refine ACode_seq ?_
      refine ACode_seq (ACode_quiet mixed (by kernel_rfl) ?_)
      refine AQ_q 22 _ rfl rfl rfl (QOp_load_ptr _ _ _ _ _ _ rfl Try.isAgg2 rfl rfl rfl) ?_
      refine AQ_q 23 _ rfl rfl rfl (QOp_load_pv _ _ _ _ _ rfl Try.isAgg96 rfl rfl) ?_
      refine AQ_q 24 _ rfl rfl rfl (QOp_nilCheck_pv _ _ _ rfl rfl) ?_
      refine AQ_q 25 _ rfl rfl rfl (QOp_fieldAddr_pv _ _ _ _ _ 0 _ _ rfl Try.underlying27 rfl _ Try.sizeOf2 rfl rfl) ?_
      refine AQ_q 26 _ rfl rfl rfl (QOp_load_pv _ _ _ _ _ rfl Try.isAgg2 rfl rfl) ?_
      refine AQ_q 27 _ rfl rfl rfl (QOp_lss _ _ _ _ _ _ _ rfl rfl rfl) ?_
      refine AQ_nil ?_
      refine kI h rfl (fun h _ => ?_) (fun h _ => ?_)
      ·refine ACode_skip ?_
       refine kB (fun s17 => [(2, bV p2), (3, .d (.pv ([.pv (colD p0) 0]) 0)), (4, .d (.pv ([iD p1]) 0)), (8, .d (.sl (some s17.1.isEmpty) (intsD s17.1))), (9, iV s17.2), (10, .ptr 0 0), (11, .ptr 1 0), (16, iV p0.p), (17, iV x3)]) (fun s17 => [.box [iD x3], .box [iD x7]]) h (fun s17 h => ?_) (fun s17 h => ?_)
       ·refine ACode_block ?_
        refine kO (fun s13 => [(2, bV p2), (3, .d (.pv ([.pv (colD p0) 0]) 0)), (4, .d (.pv ([iD p1]) 0)), (8, .d (.sl (some x5.isEmpty) (intsD x5))), (9, iV x6), (10, .ptr 0 0), (11, .ptr 1 0), (16, iV p0.p), (17, iV x3)]) (fun s13 => [.box [iD x3], .box [iD x7]]) h (fun os13 h hks13 => ?_) (fun s13 h => ?_)
        ·refine kB (fun s11 => [(2, bV p2), (3, .d (.pv ([.pv (colD p0) 0]) 0)), (4, .d (.pv ([iD p1]) 0)), (8, .d (.sl (some x5.isEmpty) (intsD x5))), (9, iV x6), (10, .ptr 0 0), (11, .ptr 1 0), (16, iV p0.p), (17, iV x3), (38, bV s11)]) (fun s11 => [.box [iD x3], .box [iD x7]]) h (fun s11 h => ?_) (fun s11 h => ?_)
         ·refine (ACode_region ?_)
          refine kM 2 rfl ?_
          refine AOps_case 31 _ rfl (fun hb9 => ?_) (fun hb9 => ?_)
          ·have h := iteT hb9 h
           refine AOps_q 32 _ rfl rfl rfl (QOp_load_pv _ _ _ _ _ rfl Try.isAgg96 rfl rfl) ?_
           refine AOps_q 33 _ rfl rfl rfl (QOp_load_ptr _ _ _ _ _ _ rfl Try.isAgg2 rfl rfl rfl) ?_
           refine AOps_q 34 _ rfl rfl rfl (QOp_load_ptr _ _ _ _ _ _ rfl Try.isAgg2 rfl rfl rfl) ?_
           refine AOps_q 35 _ rfl rfl rfl (QOp_load_pv _ _ _ _ _ rfl Try.isAgg2 rfl rfl) ?_
           obtain ⟨r10, hr10, h⟩ := bindO h
           refine kC [] 36 (bV r10) [.box [iD x3], .box [iD x7]] rfl Try.call73 rfl rfl (impl_Colouring_joins_ac p0 x3 x7 p1 _ hr10) rfl ?_
           refine AOps_q 37 _ rfl rfl rfl (QOp_not _ _ _ rfl rfl) ?_
           refine kN 1 rfl ?_
           cases h
           exact Weak_keep 0 hm [2, 3, 4, 8, 9, 10, 11, 16, 17, 38] [0, 1] _ _ rfl rfl rfl
          have h := iteF hb9 h
          refine AOps_skip 32 rfl rfl rfl ?_
          refine AOps_skip 33 rfl rfl rfl ?_
          refine AOps_skip 34 rfl rfl rfl ?_
          refine AOps_skip 35 rfl rfl rfl ?_
          refine AOps_skip 36 rfl rfl rfl ?_
          refine AOps_skip 37 rfl rfl rfl ?_
          refine kN 1 rfl ?_
          cases h
          exact Weak_keep 0 hm [2, 3, 4, 8, 9, 10, 11, 16, 17, 38] [0, 1] _ _ rfl rfl rfl
         refine kI h rfl (fun h _ => ?_) (fun h _ => ?_)
         ·refine ACode_exit ?_
          obtain ⟨rr, hz20, h2⟩ := bindO h
          obtain rfl := Option.some.inj h2
          obtain rfl := Option.some.inj (show some rr = some _ from hks13)
          have h := hz20
          cases h
          exact Weak_keep 0 hm [2, 3, 4, 8, 9, 10, 11, 16, 17] [0, 1] _ _ rfl rfl rfl
         refine ACode_skip ?_
         cases h
         exact ⟨_, rfl, Weak_keep 0 hm [2, 3, 4, 8, 9, 10, 11, 16, 17] [0, 1] _ _ rfl rfl rfl⟩
        refine kR ?_
        refine AOps_q 39 _ rfl rfl rfl (QOp_load_pv _ _ _ _ _ rfl Try.isAgg96 rfl rfl) ?_
        refine AOps_q 40 _ rfl rfl rfl (QOp_makeFunc _ _ _ rfl rfl) ?_
        obtain ⟨r14, hr14, h⟩ := bindO h
        refine AOps_callL [] 41 _ _ _ _ _ _ _ _ _ _ rfl rfl rfl rfl rfl rfl rfl Try.call71 rfl (nodupB_sound _ rfl) rfl rfl rfl (impl_Colouring_that_ac k p0 (fun a0 => impl_Colouring_double_c1 a0 p0 x3 p1 x7) 90 ([.pv ([.pv (colD p0) 0]) 0, .pv ([iD x3]) 0, .pv ([iD p1]) 0, .pv ([iD x7]) 0]) Try.call90 (fun a0 r h => impl_Colouring_double_c1_ac a0 p0 x3 p1 x7 r h) _ hr14) ?_
        rintro _ _ ⟨rfl, rfl⟩
        refine ⟨(allc (intsD_flat _) (fun _ h => nomatch h)), (allc (trivial) (fun _ h => nomatch h)), AOps_as 41 (v' := .vec 2 0) (H' := [.box [iD x3], .box [iD x7], .vec 0 (intsD r14)]) rfl rfl ?_⟩
        refine AOps_callL [] 42 _ _ _ _ _ _ _ _ _ _ rfl rfl rfl rfl rfl rfl rfl Try.call48 rfl (nodupB_sound _ rfl) rfl rfl rfl (impl_size_ac r14) ?_
        rintro _ _ ⟨rfl, rfl⟩
        refine ⟨(fun _ h => nomatch h), (allc (flat_s _) (fun _ h => nomatch h)), AOps_as 42 (v' := iV (impl_size r14)) (H' := [.box [iD x3], .box [iD x7], .vec 0 (intsD r14)]) rfl rfl ?_⟩
        refine kN 1 rfl ?_
        refine kR ?_
        refine kM 2 rfl ?_
        refine AOps_q 45 _ rfl rfl rfl (QOp_gtr _ _ _ _ _ _ _ rfl rfl rfl) ?_
        refine AOps_nil ?_
        refine kI h rfl (fun h _ => ?_) (fun h _ => ?_)
        ·refine (ACode_region ?_)
         refine AOps_q 46 _ rfl rfl rfl (QOp_load_ptr _ _ _ _ _ _ rfl Try.isAgg2 rfl rfl rfl) ?_
         refine AOps_q 47 _ rfl rfl rfl (QOp_load_ptr _ _ _ _ _ _ rfl Try.isAgg2 rfl rfl rfl) ?_
         refine AOps_buildSlice 48 _ _ _ [_, _] (intsD ([x3, x7])) _ rfl rfl rfl rfl rfl (by decide) Try.underlying34 Try.sizeOf2 (zero_of Try.typeInfo2 rfl) rfl rfl (intsD_one _) ?_
         refine kN 3 rfl ?_
         cases h
         exact Weak_trans (Weak_frzF 8 3 0 _ (some ([x3, x7]).isEmpty) rfl rfl rfl) (Weak_keep 0 hm [2, 3, 4, 8, 9, 10, 11, 16, 17] [0, 1] _ _ rfl rfl rfl)
        refine ACode_skip ?_
        cases h
        exact Weak_keep 0 hm [2, 3, 4, 8, 9, 10, 11, 16, 17] [0, 1] _ _ rfl rfl rfl
       refine ACode_seq ?_
       refine kR ?_
       refine AOps_q 50 _ rfl rfl rfl (QOp_load_ptr _ _ _ _ _ _ rfl Try.isAgg2 rfl rfl rfl) ?_
       refine AOps_nil ?_
       refine (ACode_region ?_)
       refine AOps_alloc 11 _ _ ([iD 0]) (zero_of Try.typeInfo2 rfl) (by rfl) rfl rfl rfl rfl ?_
       refine AOps_store1 _ _ _ _ _ _ _ _ rfl rfl rfl rfl rfl rfl rfl Try.sizeOf2 (Nat.le_of_ble_eq_true rfl) rfl ?_
       refine AOps_nil ?_
       refine (ACode_region ?_)
       refine AOps_q 28 _ rfl rfl rfl (QOp_load_ptr _ _ _ _ _ _ rfl Try.isAgg2 rfl rfl rfl) ?_
       refine AOps_q 29 _ rfl rfl rfl (QOp_add _ _ _ _ _ _ _ rfl rfl rfl) ?_
       refine AOps_store1 _ _ _ _ _ _ _ _ rfl rfl rfl rfl rfl rfl rfl Try.sizeOf2 (Nat.le_of_ble_eq_true rfl) rfl ?_
       refine AOps_nil ?_
       exact ⟨k1, _, _, Nat.lt_succ_self _, Weak_keep 0 hm [2, 3, 4, 8, 9, 10, 11, 16, 17] [0, 2] _ _ rfl rfl rfl, _, _, _, rfl, rfl, h⟩
      refine ACode_exit ?_
      cases h
      exact Weak_keep 0 hm [2, 3, 4, 8, 9, 16, 17] [] _ _ rfl rfl rfl
    refine (ACode_region ?_)
    refine AOps_q 51 _ rfl rfl rfl (QOp_add _ _ _ _ _ _ _ rfl rfl rfl) ?_
    refine kN 1 rfl ?_
    exact ⟨k0, _, _, Nat.lt_succ_self _, Weak_keep 0 hm [2, 3, 4, 8, 9, 16, 17] [] _ _ rfl rfl rfl, _, _, _, rfl, rfl, h⟩
   refine ACode_exit ?_
   cases h
   exact Weak_keep 0 hm [8, 9] [] _ _ rfl rfl rfl
 refine kR ?_
 refine kN 4 rfl ?_
 refine ACode_ret ?_
 cases h
 exact ⟨_, _, fun r a w h => ⟨r, h⟩, _, _, [], _, (.cons (ResV_tmp _ _ rfl) (.cons (ResV_tmp _ _ rfl) .nil)), rfl, rfl, rfl, rfl, rfl⟩

-- (*loop.example/g01362/impl.Colouring).greatestDouble
def impl_Colouring_greatestDouble (k : Nat) (p0 : Col) (p1 : Int) (p2 : Bool) : Option (List Int × Int × Int) :=
 (impl_Colouring_colourCode k p0 p1 true).bind fun r1 => (if !decide (r1 = 0) then some ([], 0, r1) else (impl_Colouring_double k p0 p1 p2).bind fun r3 => (if r3.1.isEmpty then some ([], 0, 4) else some (r3.1, r3.2, 0)))
set_option maxRecDepth 100000 in
theorem impl_Colouring_greatestDouble_ac (k : Nat) (p0 : Col) (p1 : Int) (p2 : Bool) (r : List Int × Int × Int) (h : impl_Colouring_greatestDouble k p0 p1 p2 = some r) : AC Try.prog 68 [.d (.pv (colD p0) 0), iV p1, bV p2] [] (fun res H' => res = [.d (.sl none (intsD r.1)), iV r.2.1, iV r.2.2] ∧ H' = []) := by
 refine AC_of_body true Try.func68 rfl Try.ntmps68 (rvs := [.tmp 6, .tmp 7, .tmp 8]) rfl rfl (fun G hG => ?_)
 have hm : G.H.length = 0 := by rw [hG]; rfl
 have hz : zeroG G.H = true := by rw [hG]; rfl
 unfold impl_Colouring_greatestDouble at h
 refine kR ?_
 refine kN 3 rfl ?_
 refine ACode_seq ?_
 refine kR ?_
 refine kM 2 rfl ?_
 obtain ⟨r1, hr1, h⟩ := bindO h
 refine kC [] 14 (iV r1) [] rfl Try.call46 rfl rfl (impl_Colouring_colourCode_ac k p0 p1 true _ hr1) rfl ?_
 refine kN 1 rfl ?_
 refine kR ?_
 refine kM 1 rfl ?_
 refine AOps_q 16 _ rfl rfl rfl (QOp_neq _ _ _ _ _ _ _ rfl rfl rfl) ?_
 refine AOps_nil ?_
 refine kI h rfl (fun h _ => ?_) (fun h _ => ?_)
 ·refine kR ?_
  refine kN 4 rfl ?_
  refine ACode_ret ?_
  cases h
  exact ⟨_, _, fun r a w h => ⟨r, h⟩, _, _, [], _, (.cons (ResV_tmp _ _ rfl) (.cons (ResV_tmp _ _ rfl) (.cons (ResV_tmp _ _ rfl) .nil))), rfl, rfl, rfl, rfl, rfl⟩
 refine ACode_skip ?_
 refine kR ?_
 refine kM 3 rfl ?_
 obtain ⟨r3, hr3, h⟩ := bindO h
 refine kC [] 22 (.tup [.d (.sl (some r3.1.isEmpty) (intsD r3.1)), iV r3.2]) [] rfl Try.call54 rfl rfl (impl_Colouring_double_ac k p0 p1 p2 _ hr3) rfl ?_
 refine kN 5 rfl ?_
 refine ACode_seq ?_
 refine kR ?_
 refine kM 1 rfl ?_
 refine AOps_q 26 _ rfl rfl rfl (QOp_isnil _ _ _ _ _ _ _ rfl rfl rfl Try.underlying34) ?_
 refine AOps_nil ?_
 refine kI h rfl (fun h _ => ?_) (fun h _ => ?_)
 ·refine kR ?_
  refine kN 3 rfl ?_
  refine ACode_ret ?_
  cases h
  exact ⟨_, _, fun r a w h => ⟨r, h⟩, _, _, [], _, (.cons (ResV_tmp _ _ rfl) (.cons (ResV_tmp _ _ rfl) (.cons (ResV_tmp _ _ rfl) .nil))), rfl, rfl, rfl, rfl, rfl⟩
 refine ACode_skip ?_
 refine kR ?_
 refine kN 5 rfl ?_
 refine ACode_ret ?_
 cases h
 exact ⟨_, _, fun r a w h => ⟨r, h⟩, _, _, [], _, (.cons (ResV_tmp _ _ rfl) (.cons (ResV_tmp _ _ rfl) (.cons (ResV_tmp _ _ rfl) .nil))), rfl, rfl, rfl, rfl, rfl⟩

-- loop.example/g01362/impl.GreatestDouble
def impl_GreatestDouble (k : Nat) (p0 : Col) (p1 : Int) : Option (List Int × Int × Int) :=
 (impl_Colouring_greatestDouble k p0 p1 false).bind fun r1 => some (r1.1, r1.2.1, r1.2.2)
set_option maxRecDepth 100000 in
theorem impl_GreatestDouble_ac (k : Nat) (p0 : Col) (p1 : Int) (r : List Int × Int × Int) (h : impl_GreatestDouble k p0 p1 = some r) : AC Try.prog 29 [.d (.agg (colD p0)), iV p1] [] (fun res H' => res = [.d (.sl none (intsD r.1)), iV r.2.1, iV r.2.2] ∧ H' = []) := by
 refine AC_of_body true Try.func29 rfl Try.ntmps29 (rvs := [.tmp 4, .tmp 5, .tmp 6]) rfl rfl (fun G hG => ?_)
 have hm : G.H.length = 0 := by rw [hG]; rfl
 have hz : zeroG G.H = true := by rw [hG]; rfl
 unfold impl_GreatestDouble at h
 refine kR ?_
 refine AOps_boxI 2 _ _ (.agg (colD p0)) (colD p0) rfl (colD_one _) rfl rfl rfl rfl rfl ?_
 refine kN 3 rfl ?_
 refine kR ?_
 refine kM 1 rfl ?_
 obtain ⟨r1, hr1, h⟩ := bindO h
 refine kC [] 8 (.tup [.d (.sl none (intsD r1.1)), iV r1.2.1, iV r1.2.2]) [] rfl Try.call68 rfl rfl (impl_Colouring_greatestDouble_ac k p0 p1 false _ hr1) rfl ?_
 refine kN 6 rfl ?_
 refine ACode_ret ?_
 cases h
 exact ⟨_, _, fun r a w h => ⟨r, h⟩, _, _, [], _, (.cons (ResV_tmp _ _ rfl) (.cons (ResV_tmp _ _ rfl) (.cons (ResV_tmp _ _ rfl) .nil))), rfl, rfl, rfl, rfl, rfl⟩

-- loop.example/g01362/spec.l04Double
def spec_l04Double_l1 (k : Nat) (p0 : Col) (p2 : Bool) (r1 : List Int) (x3 : Int) : Nat → Int → Int → (List Int) → Option (Int × List Int)
 | 0, _, _, _ => none
 | k1 + 1, x6, x7, x8 => (if decide (x7 < p0.p) then ((if 0 ≤ x3 ∧ x3 < (r1.length : Int) then (if 0 ≤ x7 ∧ x7 < (r1.length : Int) then (spec_l01Ones k (bAnd .i64 (r1.getD x3.toNat 0) (r1.getD x7.toNat 0))).bind fun r12 => ((if decide (x6 < r12) then (if !p2 then some true else (if 0 ≤ x3 ∧ x3 < (r1.length : Int) then (if 0 ≤ IntKind.u64.wrap x7 then some (decide (bAnd .i64 (bShr .i64 (r1.getD x3.toNat 0) (IntKind.u64.wrap x7)) 1 = 1)) else none) else none)) else some false) : Option (Bool)).bind fun s17 => (if s17 then some (r12, [x3, x7]) else some (x6, x8)) else none) else none) : Option (Int × List Int)).bind fun s19 => spec_l04Double_l1 k p0 p2 r1 x3 k1 s19.1 (w64 (x7 + 1)) s19.2 else some (x6, x8))
def spec_l04Double_l0 (k : Nat) (p0 : Col) (p2 : Bool) (r1 : List Int) : Nat → Int → Int → (List Int) → Option (Int × List Int)
 | 0, _, _, _ => none
 | k0 + 1, x2, x3, x4 => (if decide (x3 < p0.p) then (spec_l04Double_l1 k p0 p2 r1 x3 k x2 (w64 (x3 + 1)) x4 : Option (Int × List Int)).bind fun s20 => spec_l04Double_l0 k p0 p2 r1 k0 s20.1 (w64 (x3 + 1)) s20.2 else some (x2, x4))
def spec_l04Double (k : Nat) (p0 : Col) (p1 : Int) (p2 : Bool) : Option (List Int × Int) :=
 (spec_l02Rows k p0 p1).bind fun r1 => (spec_l04Double_l0 k p0 p2 r1 k (-1) 0 ([] : List Int) : Option (Int × List Int)).bind fun s21 => some (s21.2, s21.1)
set_option maxRecDepth 100000 in
theorem spec_l04Double_ac (k : Nat) (p0 : Col) (p1 : Int) (p2 : Bool) (r : List Int × Int) (h : spec_l04Double k p0 p1 p2 = some r) : AC Try.prog 44 [.d (.agg (colD p0)), iV p1, bV p2] [] (fun res H' => res = [.vec 0 0, iV r.2] ∧ H' = [.vec 0 (intsD r.1)]) := by
 refine AC_of_body true Try.func44 rfl Try.ntmps44 (rvs := [.tmp 6, .tmp 7]) rfl rfl (fun G hG => ?_)
 have hm : G.H.length = 0 := by rw [hG]; rfl
 have hz : zeroG G.H = true := by rw [hG]; rfl
 unfold spec_l04Double at h
 refine kR ?_
 refine AOps_boxI 3 _ _ (.agg (colD p0)) (colD p0) rfl (colD_one _) rfl rfl rfl rfl rfl ?_
 refine kN 2 rfl ?_
 refine kR ?_
 refine AOps_q 14 _ rfl rfl rfl (QOp_loadN_pv _ _ _ _ _ _ rfl Try.isAgg27 Try.sizeOf27 rfl (colD_all _) (colD_length _)) ?_
 refine kM 1 rfl ?_
 obtain ⟨r1, hr1, h⟩ := bindO h
 refine kC [] 16 (.vec 0 0) [.vec 0 (intsD r1)] rfl Try.call80 rfl rfl (spec_l02Rows_ac k p0 p1 _ hr1) rfl ?_
 refine AOps_buildSlice 17 _ _ _ [] (intsD ([] : List Int)) _ rfl rfl rfl rfl rfl (by decide) Try.underlying34 Try.sizeOf2 (zero_of Try.typeInfo2 rfl) rfl rfl (intsD_one _) ?_
 refine kN 3 rfl ?_
 refine kB (fun s21 => [(9, iV s21.1), (10, .vec 0 0)]) (fun s21 => [.vec 0 (intsD s21.2)]) h (fun s21 h => ?_) (fun s21 h => ?_)
 ·refine kR ?_
  refine kN 1 rfl ?_
  refine ACode_block ?_
  refine ACode_loopW (fun k0 E H => ∃ (x2 : Int) (x3 : Int) (x4 : List Int), E = [(2, bV p2), (3, .d (.pv (colD p0) 0)), (8, .vec 0 0), (9, iV x2), (10, .vec 1 0), (11, iV x3)] ∧ H = [.vec 0 (intsD r1), .vec 0 (intsD x4)] ∧ spec_l04Double_l0 k p0 p2 r1 k0 x2 x3 x4 = some s21) k _ _ (Weak_keep 0 hm [2, 3, 8, 9, 10, 11] [0, 1] _ _ rfl rfl rfl) ⟨_, _, _, rfl, rfl, h⟩ ?_
  clear h
  rintro k0 E H ⟨x2, x3, x4, rfl, rfl, h⟩
  cases k0 with
  | zero => cases (show (none : Option (Int × List Int)) = some _ from h)
  | succ k0 =>
   rw [spec_l04Double_l0] at h
   refine ACode_seq ?_
   refine kR ?_
   refine kM 1 rfl ?_
   refine AOps_q 19 _ rfl rfl rfl (QOp_fieldAddr_pv _ _ _ _ _ 0 _ _ rfl Try.underlying27 rfl _ Try.sizeOf2 rfl rfl) ?_
   refine AOps_q 20 _ rfl rfl rfl (QOp_load_pv _ _ _ _ _ rfl Try.isAgg2 rfl rfl) ?_
   refine AOps_q 21 _ rfl rfl rfl (QOp_lss _ _ _ _ _ _ _ rfl rfl rfl) ?_
   refine AOps_nil ?_
   refine kI h rfl (fun h _ => ?_) (fun h _ => ?_)
   ·refine ACode_skip ?_
    refine kB (fun s20 => [(2, bV p2), (3, .d (.pv (colD p0) 0)), (8, .vec 0 0), (9, iV s20.1), (10, .vec 1 0), (11, iV x3)]) (fun s20 => [.vec 0 (intsD r1), .vec 0 (intsD s20.2)]) h (fun s20 h => ?_) (fun s20 h => ?_)
    ·refine ACode_block ?_
     refine kR ?_
     refine kM 1 rfl ?_
     refine AOps_q 25 _ rfl rfl rfl (QOp_add _ _ _ _ _ _ _ rfl rfl rfl) ?_
     refine kN 1 rfl ?_
     refine ACode_block ?_
     refine ACode_loopW (fun k1 E H => ∃ (x6 : Int) (x7 : Int) (x8 : List Int), E = [(2, bV p2), (3, .d (.pv (colD p0) 0)), (8, .vec 0 0), (9, iV x6), (10, .vec 1 0), (11, iV x3), (12, iV x7)] ∧ H = [.vec 0 (intsD r1), .vec 0 (intsD x8)] ∧ spec_l04Double_l1 k p0 p2 r1 x3 k1 x6 x7 x8 = some s20) k _ _ (Weak_keep 0 hm [2, 3, 8, 9, 10, 11, 12] [0, 1] _ _ rfl rfl rfl) ⟨_, _, _, rfl, rfl, h⟩ ?_
     clear h
     rintro k1 E H ⟨x6, x7, x8, rfl, rfl, h⟩
     cases k1 with
     | zero => cases (show (none : Option (Int × List Int)) = some _ from h)
     | succ k1 =>
      rw [spec_l04Double_l1] at h
      refine ACode_seq ?_
      refine kR ?_
      refine kM 1 rfl ?_
      refine AOps_q 27 _ rfl rfl rfl (QOp_fieldAddr_pv _ _ _ _ _ 0 _ _ rfl Try.underlying27 rfl _ Try.sizeOf2 rfl rfl) ?_
      refine AOps_q 28 _ rfl rfl rfl (QOp_load_pv _ _ _ _ _ rfl Try.isAgg2 rfl rfl) ?_
      refine AOps_q 29 _ rfl rfl rfl (QOp_lss _ _ _ _ _ _ _ rfl rfl rfl) ?_
      refine AOps_nil ?_
      refine kI h rfl (fun h _ => ?_) (fun h _ => ?_)
      ·refine ACode_skip ?_
       refine kB (fun s19 => [(2, bV p2), (3, .d (.pv (colD p0) 0)), (8, .vec 0 0), (9, iV s19.1), (10, .vec 1 0), (11, iV x3), (12, iV x7)]) (fun s19 => [.vec 0 (intsD r1), .vec 0 (intsD s19.2)]) h (fun s19 h => ?_) (fun s19 h => ?_)
       ·refine ACode_block ?_
        refine ACode_seq (ACode_quiet mixed (by kernel_rfl) ?_)
        refine kQ 2 rfl ?_
        obtain ⟨hc10, h⟩ := guardO h
        refine AQ_q 34 _ rfl rfl rfl (QOp_indexAddr_vec _ _ _ _ _ _ _ _ _ rfl Try.underlying34 Try.sizeOf2 hc10.1 (by rw [intsD_length]; exact hc10.2) rfl rfl rfl) ?_
        refine AQ_q 35 _ rfl rfl rfl (QOp_load_eptr _ _ _ _ _ _ _ rfl Try.isAgg2 rfl rfl (intsD_get _ _ 0 (by omega))) ?_
        refine kQ 2 rfl ?_
        obtain ⟨hc11, h⟩ := guardO h
        refine AQ_q 38 _ rfl rfl rfl (QOp_indexAddr_vec _ _ _ _ _ _ _ _ _ rfl Try.underlying34 Try.sizeOf2 hc11.1 (by rw [intsD_length]; exact hc11.2) rfl rfl rfl) ?_
        refine AQ_q 39 _ rfl rfl rfl (QOp_load_eptr _ _ _ _ _ _ _ rfl Try.isAgg2 rfl rfl (intsD_get _ _ 0 (by omega))) ?_
        refine AQ_q 40 _ rfl rfl rfl (QOp_and _ _ _ _ _ _ _ rfl rfl rfl) ?_
        obtain ⟨r12, hr12, h⟩ := bindO h
        refine AQ_call 41 _ _ _ _ _ _ _ _ _ rfl rfl rfl rfl rfl rfl rfl Try.call82 rfl rfl rfl (spec_l01Ones_ac k (bAnd .i64 (r1.getD x3.toNat 0) (r1.getD x7.toNat 0)) _ hr12) ?_
        refine kQ 1 rfl ?_
        refine AQ_nil ?_
        refine kB (fun s17 => [(2, bV p2), (3, .d (.pv (colD p0) 0)), (8, .vec 0 0), (9, iV x6), (10, .vec 1 0), (11, iV x3), (12, iV x7), (13, iV r12), (59, bV s17)]) (fun s17 => [.vec 0 (intsD r1), .vec 0 (intsD x8)]) h (fun s17 h => ?_) (fun s17 h => ?_)
        ·refine (ACode_region ?_)
         refine kM 2 rfl ?_
         refine AOps_q 44 _ rfl rfl rfl (QOp_gtr _ _ _ _ _ _ _ rfl rfl rfl) ?_
         refine kM 1 rfl ?_
         refine AOps_case 45 _ rfl (fun hb13 => ?_) (fun hb13 => ?_)
         ·have h := iteT hb13 h
          refine kM 1 rfl ?_
          refine AOps_q 47 _ rfl rfl rfl (QOp_not _ _ _ rfl rfl) ?_
          refine kM 1 rfl ?_
          refine AOps_case 48 _ rfl (fun hb14 => ?_) (fun hb14 => ?_)
          ·have h := iteT hb14 h
           refine AOps_skip 49 rfl rfl rfl ?_
           refine AOps_skip 50 rfl rfl rfl ?_
           refine AOps_skip 51 rfl rfl rfl ?_
           refine AOps_skip 52 rfl rfl rfl ?_
           refine AOps_skip 53 rfl rfl rfl ?_
           refine AOps_skip 54 rfl rfl rfl ?_
           refine AOps_skip 55 rfl rfl rfl ?_
           refine AOps_skip 56 rfl rfl rfl ?_
           refine AOps_skip 57 rfl rfl rfl ?_
           refine kN 2 rfl ?_
           cases h
           exact Weak_keep 0 hm [2, 3, 8, 9, 10, 11, 12, 13, 59] [0, 1] _ _ rfl rfl rfl
          have h := iteF hb14 h
          refine kM 2 rfl ?_
          obtain ⟨hc15, h⟩ := guardO h
          refine AOps_q 51 _ rfl rfl rfl (QOp_indexAddr_vec _ _ _ _ _ _ _ _ _ rfl Try.underlying34 Try.sizeOf2 hc15.1 (by rw [intsD_length]; exact hc15.2) rfl rfl rfl) ?_
          refine AOps_q 52 _ rfl rfl rfl (QOp_load_eptr _ _ _ _ _ _ _ rfl Try.isAgg2 rfl rfl (intsD_get _ _ 0 (by omega))) ?_
          refine kM 1 rfl ?_
          refine AOps_q 54 _ rfl rfl rfl (QOp_conv _ _ _ _ _ _ rfl rfl Try.underlying93 rfl) ?_
          obtain ⟨hc16, h⟩ := guardO h
          refine AOps_q 55 _ rfl rfl rfl (QOp_shr _ _ _ _ _ _ _ _ hc16 rfl rfl rfl) ?_
          refine AOps_q 56 _ rfl rfl rfl (QOp_and _ _ _ _ _ _ _ rfl rfl rfl) ?_
          refine AOps_q 57 _ rfl rfl rfl (QOp_eql _ _ _ _ _ _ _ rfl rfl rfl) ?_
          refine kN 2 rfl ?_
          cases h
          exact Weak_keep 0 hm [2, 3, 8, 9, 10, 11, 12, 13, 59] [0, 1] _ _ rfl rfl rfl
         have h := iteF hb13 h
         refine AOps_skip 46 rfl rfl rfl ?_
         refine AOps_skip 47 rfl rfl rfl ?_
         refine AOps_skip 48 rfl rfl rfl ?_
         refine AOps_skip 49 rfl rfl rfl ?_
         refine AOps_skip 50 rfl rfl rfl ?_
         refine AOps_skip 51 rfl rfl rfl ?_
         refine AOps_skip 52 rfl rfl rfl ?_
         refine AOps_skip 53 rfl rfl rfl ?_
         refine AOps_skip 54 rfl rfl rfl ?_
         refine AOps_skip 55 rfl rfl rfl ?_
         refine AOps_skip 56 rfl rfl rfl ?_
         refine AOps_skip 57 rfl rfl rfl ?_
         refine AOps_skip 58 rfl rfl rfl ?_
         refine kN 1 rfl ?_
         cases h
         exact Weak_keep 0 hm [2, 3, 8, 9, 10, 11, 12, 13, 59] [0, 1] _ _ rfl rfl rfl
        refine kI h rfl (fun h _ => ?_) (fun h _ => ?_)
        ·refine kR ?_
         refine kN 2 rfl ?_
         refine (ACode_region ?_)
         refine kM 2 rfl ?_
         refine AOps_buildSlice 63 _ _ _ [_, _] (intsD ([x3, x7])) _ rfl rfl rfl rfl rfl (by decide) Try.underlying34 Try.sizeOf2 (zero_of Try.typeInfo2 rfl) rfl rfl (intsD_one _) ?_
         refine kN 1 rfl ?_
         cases h
         exact Weak_keep 0 hm [2, 3, 8, 9, 10, 11, 12] [0, 2] _ _ rfl rfl rfl
        refine ACode_skip ?_
        cases h
        exact Weak_keep 0 hm [2, 3, 8, 9, 10, 11, 12] [0, 1] _ _ rfl rfl rfl
       refine (ACode_region ?_)
       refine kM 1 rfl ?_
       refine AOps_q 31 _ rfl rfl rfl (QOp_add _ _ _ _ _ _ _ rfl rfl rfl) ?_
       refine kN 1 rfl ?_
       exact ⟨k1, _, _, Nat.lt_succ_self _, Weak_keep 0 hm [2, 3, 8, 9, 10, 11, 12] [0, 1] _ _ rfl rfl rfl, _, _, _, rfl, rfl, h⟩
      refine ACode_exit ?_
      cases h
      exact Weak_keep 0 hm [2, 3, 8, 9, 10, 11] [0, 1] _ _ rfl rfl rfl
    refine (ACode_region ?_)
    refine kM 1 rfl ?_
    refine AOps_q 23 _ rfl rfl rfl (QOp_add _ _ _ _ _ _ _ rfl rfl rfl) ?_
    refine kN 1 rfl ?_
    exact ⟨k0, _, _, Nat.lt_succ_self _, Weak_keep 0 hm [2, 3, 8, 9, 10, 11] [0, 1] _ _ rfl rfl rfl, _, _, _, rfl, rfl, h⟩
   refine ACode_exit ?_
   cases h
   exact Weak_keep 0 hm [9, 10] [1] _ _ rfl rfl rfl
 refine kR ?_
 refine kN 4 rfl ?_
 refine ACode_ret ?_
 cases h
 exact ⟨_, _, Weak_reset 0 hm hz [6, 7] _ _ rfl rfl, _, _, [0], _, (.cons (ResV_tmp _ _ rfl) (.cons (ResV_tmp _ _ rfl) .nil)), rfl, rfl, rfl, rfl, rfl⟩

end Go.Proofs.Ytghhnpdhehjlaaa
