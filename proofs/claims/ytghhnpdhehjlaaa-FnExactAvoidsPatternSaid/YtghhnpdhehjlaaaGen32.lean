/- Plain functions of the program and that the program computes them: printed by the own tool gen.py. No conditions. -/
import Derived.Test.YtghhnpdhehjlaaaGen32a
set_option linter.unusedVariables false
set_option linter.unusedSimpArgs false
namespace Go.Proofs.Ytghhnpdhehjlaaa
open Go Go.RowKit Ab

-- loop.example/g01362/spec.l04Double
def spec_l04Double_l1 (k : Nat) (p0 : Col) (p2 : Bool) (r1 : List Int) (x3 : Int) : Nat → Int → Int → (List Int) → Option (Int × List Int)
 | 0, _, _, _ => none
 | k1 + 1, x6, x7, x8 => (if decide (x7 < p0.p) then ((if 0 ≤ x3 ∧ x3 < (r1.length : Int) then (if 0 ≤ x7 ∧ x7 < (r1.length : Int) then (spec_l01Ones k (bAnd .i64 (r1.getD x3.toNat 0) (r1.getD x7.toNat 0))).bind fun r12 => ((if decide (x6 < r12) then (if !p2 then some true else (if 0 ≤ x3 ∧ x3 < (r1.length : Int) then (if 0 ≤ IntKind.u64.wrap x7 then some (decide (bAnd .i64 (bShr .i64 (r1.getD x3.toNat 0) (IntKind.u64.wrap x7)) 1 = 1)) else none) else none)) else some false) : Option (Bool)).bind fun s17 => (if s17 then some (r12, [x3, x7]) else some (x6, x8)) else none) else none) : Option (Int × List Int)).bind fun s19 => spec_l04Double_l1 k p0 p2 r1 x3 k1 s19.1 (w64 (x7 + 1)) s19.2 else some (x6, x8))
def spec_l04Double_l0 (k : Nat) (p0 : Col) (p2 : Bool) (r1 : List Int) : Nat → Int → Int → (List Int) → Option (Int × List Int)
 | 0, _, _, _ => none
 | k0 + 1, x2, x3, x4 => (if decide (x3 < p0.p) then (spec_l04Double_l1 k p0 p2 r1 x3 k x2 (w64 (x3 + 1)) x4 : Option (Int × List Int)).bind fun s20 => spec_l04Double_l0 k p0 p2 r1 k0 s20.1 (w64 (x3 + 1)) s20.2 else some (x2, x4))
def spec_l04Double (k : Nat) (p0 : Col) (p1 : Int) (p2 : Bool) : Option (List Int × Int) :=
 (spec_l02Rows k p0 p1).bind fun r1 => (spec_l04Double_l0 k p0 p2 r1 k (-1) 0 ([] : List Int) : Option (Int × List Int)).bind fun s21 => some (s21.2, s21.1)
set_option maxRecDepth 100000 in
theorem spec_l04Double_ac (k : Nat) (p0 : Col) (p1 : Int) (p2 : Bool) (r : List Int × Int) (h : spec_l04Double k p0 p1 p2 = some r) : AC Try.prog 44 [.d (.agg (colD p0)), iV p1, bV p2] [] (fun res H' => res = [.vec 0 0, iV r.2] ∧ H' = [.vec 0 (intsD r.1)]) := by
 refine AC_of_body true Try.func44 rfl Try.ntmps44 (rvs := [.tmp 6, .tmp 7]) rfl rfl (fun G hG => ?_)
 have hm : G.H.length = 0 := by rw [hG]; rfl
 have hz : zeroG G.H = true := by rw [hG]; rfl
 unfold spec_l04Double at h
 refine kR ?_
 refine AOps_boxI 3 _ _ (.agg (colD p0)) (colD p0) rfl (colD_one _) rfl rfl rfl rfl rfl ?_
 refine kN 2 rfl ?_
 refine kR ?_
 refine AOps_q 14 _ rfl rfl rfl (QOp_loadN_pv _ _ _ _ _ _ rfl Try.isAgg27 Try.sizeOf27 rfl (colD_all _) (colD_length _)) ?_
 refine kM 1 rfl ?_
 obtain ⟨r1, hr1, h⟩ := bindO h
 refine kC [] 16 (.vec 0 0) [.vec 0 (intsD r1)] rfl Try.call80 rfl rfl (spec_l02Rows_ac k p0 p1 _ hr1) rfl ?_
 refine AOps_buildSlice 17 _ _ _ [] (intsD ([] : List Int)) _ rfl rfl rfl rfl rfl (by decide) Try.underlying34 Try.sizeOf2 (zero_of Try.typeInfo2 rfl) rfl rfl (intsD_one _) ?_
 refine kN 3 rfl ?_
 refine kB (fun s21 => [(9, iV s21.1), (10, .vec 0 0)]) (fun s21 => [.vec 0 (intsD s21.2)]) h (fun s21 h => ?_) (fun s21 h => ?_)
 ·refine kR ?_
  refine kN 1 rfl ?_
  refine ACode_block ?_
  refine ACode_loopW (fun k0 E H => ∃ (x2 : Int) (x3 : Int) (x4 : List Int), E = [(2, bV p2), (3, .d (.pv (colD p0) 0)), (8, .vec 0 0), (9, iV x2), (10, .vec 1 0), (11, iV x3)] ∧ H = [.vec 0 (intsD r1), .vec 0 (intsD x4)] ∧ spec_l04Double_l0 k p0 p2 r1 k0 x2 x3 x4 = some s21) k _ _ (Weak_keep 0 hm [2, 3, 8, 9, 10, 11] [0, 1] _ _ rfl rfl rfl) ⟨_, _, _, rfl, rfl, h⟩ ?_
  clear h
  rintro k0 E H ⟨x2, x3, x4, rfl, rfl, h⟩
  cases k0 with
  | zero => cases (show (none : Option (Int × List Int)) = some _ from h)
  | succ k0 =>
   rw [spec_l04Double_l0] at h
   refine ACode_seq ?_
   refine kR ?_
   refine kM 1 rfl ?_
   refine AOps_q 19 _ rfl rfl rfl (QOp_fieldAddr_pv _ _ _ _ _ 0 _ _ rfl Try.underlying27 rfl _ Try.sizeOf2 rfl rfl) ?_
   refine AOps_q 20 _ rfl rfl rfl (QOp_load_pv _ _ _ _ _ rfl Try.isAgg2 rfl rfl) ?_
   refine AOps_q 21 _ rfl rfl rfl (QOp_lss _ _ _ _ _ _ _ rfl rfl rfl) ?_
   refine AOps_nil ?_
   refine kI h rfl (fun h _ => ?_) (fun h _ => ?_)
   ·refine ACode_skip ?_
    refine kB (fun s20 => [(2, bV p2), (3, .d (.pv (colD p0) 0)), (8, .vec 0 0), (9, iV s20.1), (10, .vec 1 0), (11, iV x3)]) (fun s20 => [.vec 0 (intsD r1), .vec 0 (intsD s20.2)]) h (fun s20 h => ?_) (fun s20 h => ?_)
    ·refine ACode_block ?_
     refine kR ?_
     refine kM 1 rfl ?_
     refine AOps_q 25 _ rfl rfl rfl (QOp_add _ _ _ _ _ _ _ rfl rfl rfl) ?_
     refine kN 1 rfl ?_
     refine ACode_block ?_
     refine ACode_loopW (fun k1 E H => ∃ (x6 : Int) (x7 : Int) (x8 : List Int), E = [(2, bV p2), (3, .d (.pv (colD p0) 0)), (8, .vec 0 0), (9, iV x6), (10, .vec 1 0), (11, iV x3), (12, iV x7)] ∧ H = [.vec 0 (intsD r1), .vec 0 (intsD x8)] ∧ spec_l04Double_l1 k p0 p2 r1 x3 k1 x6 x7 x8 = some s20) k _ _ (Weak_keep 0 hm [2, 3, 8, 9, 10, 11, 12] [0, 1] _ _ rfl rfl rfl) ⟨_, _, _, rfl, rfl, h⟩ ?_
     clear h
     rintro k1 E H ⟨x6, x7, x8, rfl, rfl, h⟩
     cases k1 with
     | zero => cases (show (none : Option (Int × List Int)) = some _ from h)
     | succ k1 =>
      rw [spec_l04Double_l1] at h
      refine ACode_seq ?_
      refine kR ?_
      refine kM 1 rfl ?_
      refine AOps_q 27 _ rfl rfl rfl (QOp_fieldAddr_pv _ _ _ _ _ 0 _ _ rfl Try.underlying27 rfl _ Try.sizeOf2 rfl rfl) ?_
      refine AOps_q 28 _ rfl rfl rfl (QOp_load_pv _ _ _ _ _ rfl Try.isAgg2 rfl rfl) ?_
      refine AOps_q 29 _ rfl rfl rfl (QOp_lss _ _ _ _ _ _ _ rfl rfl rfl) ?_
      refine AOps_nil ?_
      refine kI h rfl (fun h _ => ?_) (fun h _ => ?_)
      ·refine ACode_skip ?_
       refine kB (fun s19 => [(2, bV p2), (3, .d (.pv (colD p0) 0)), (8, .vec 0 0), (9, iV s19.1), (10, .vec 1 0), (11, iV x3), (12, iV x7)]) (fun s19 => [.vec 0 (intsD r1), .vec 0 (intsD s19.2)]) h (fun s19 h => ?_) (fun s19 h => ?_)
       ·refine ACode_block ?_
        refine ACode_seq (ACode_quiet mixed (by kernel_rfl) ?_)
        refine kQ 2 rfl ?_
        obtain ⟨hc10, h⟩ := guardO h
        refine AQ_q 34 _ rfl rfl rfl (QOp_indexAddr_vec _ _ _ _ _ _ _ _ _ rfl Try.underlying34 Try.sizeOf2 hc10.1 (by rw [intsD_length]; exact hc10.2) rfl rfl rfl) ?_
        refine AQ_q 35 _ rfl rfl rfl (QOp_load_eptr _ _ _ _ _ _ _ rfl Try.isAgg2 rfl rfl (intsD_get _ _ 0 (by omega))) ?_
        refine kQ 2 rfl ?_
        obtain ⟨hc11, h⟩ := guardO h
        refine AQ_q 38 _ rfl rfl rfl (QOp_indexAddr_vec _ _ _ _ _ _ _ _ _ rfl Try.underlying34 Try.sizeOf2 hc11.1 (by rw [intsD_length]; exact hc11.2) rfl rfl rfl) ?_
        refine AQ_q 39 _ rfl rfl rfl (QOp_load_eptr _ _ _ _ _ _ _ rfl Try.isAgg2 rfl rfl (intsD_get _ _ 0 (by omega))) ?_
        refine AQ_q 40 _ rfl rfl rfl (QOp_and _ _ _ _ _ _ _ rfl rfl rfl) ?_
        obtain ⟨r12, hr12, h⟩ := bindO h
        refine AQ_call 41 _ _ _ _ _ _ _ _ _ rfl rfl rfl rfl rfl rfl rfl Try.call82 rfl rfl rfl (spec_l01Ones_ac k (bAnd .i64 (r1.getD x3.toNat 0) (r1.getD x7.toNat 0)) _ hr12) ?_
        refine kQ 1 rfl ?_
        refine AQ_nil ?_
        refine kB (fun s17 => [(2, bV p2), (3, .d (.pv (colD p0) 0)), (8, .vec 0 0), (9, iV x6), (10, .vec 1 0), (11, iV x3), (12, iV x7), (13, iV r12), (59, bV s17)]) (fun s17 => [.vec 0 (intsD r1), .vec 0 (intsD x8)]) h (fun s17 h => ?_) (fun s17 h => ?_)
        ·refine (ACode_region ?_)
         refine kM 2 rfl ?_
         refine AOps_q 44 _ rfl rfl rfl (QOp_gtr _ _ _ _ _ _ _ rfl rfl rfl) ?_
         refine kM 1 rfl ?_
         refine AOps_case 45 _ rfl (fun hb13 => ?_) (fun hb13 => ?_)
         ·have h := iteT hb13 h
          refine kM 1 rfl ?_
          refine AOps_q 47 _ rfl rfl rfl (QOp_not _ _ _ rfl rfl) ?_
          refine kM 1 rfl ?_
          refine AOps_case 48 _ rfl (fun hb14 => ?_) (fun hb14 => ?_)
          ·have h := iteT hb14 h
           refine AOps_skip 49 rfl rfl rfl ?_
           refine AOps_skip 50 rfl rfl rfl ?_
           refine AOps_skip 51 rfl rfl rfl ?_
           refine AOps_skip 52 rfl rfl rfl ?_
           refine AOps_skip 53 rfl rfl rfl ?_
           refine AOps_skip 54 rfl rfl rfl ?_
           refine AOps_skip 55 rfl rfl rfl ?_
           refine AOps_skip 56 rfl rfl rfl ?_
           refine AOps_skip 57 rfl rfl rfl ?_
           refine kN 2 rfl ?_
           cases h
           exact Weak_keep 0 hm [2, 3, 8, 9, 10, 11, 12, 13, 59] [0, 1] _ _ rfl rfl rfl
          have h := iteF hb14 h
          refine kM 2 rfl ?_
          obtain ⟨hc15, h⟩ := guardO h
          refine AOps_q 51 _ rfl rfl rfl (QOp_indexAddr_vec _ _ _ _ _ _ _ _ _ rfl Try.underlying34 Try.sizeOf2 hc15.1 (by rw [intsD_length]; exact hc15.2) rfl rfl rfl) ?_
          refine AOps_q 52 _ rfl rfl rfl (QOp_load_eptr _ _ _ _ _ _ _ rfl Try.isAgg2 rfl rfl (intsD_get _ _ 0 (by omega))) ?_
          refine kM 1 rfl ?_
          refine AOps_q 54 _ rfl rfl rfl (QOp_conv _ _ _ _ _ _ rfl rfl Try.underlying93 rfl) ?_
          obtain ⟨hc16, h⟩ := guardO h
          refine AOps_q 55 _ rfl rfl rfl (QOp_shr _ _ _ _ _ _ _ _ hc16 rfl rfl rfl) ?_
          refine AOps_q 56 _ rfl rfl rfl (QOp_and _ _ _ _ _ _ _ rfl rfl rfl) ?_
          refine AOps_q 57 _ rfl rfl rfl (QOp_eql _ _ _ _ _ _ _ rfl rfl rfl) ?_
          refine kN 2 rfl ?_
          cases h
          exact Weak_keep 0 hm [2, 3, 8, 9, 10, 11, 12, 13, 59] [0, 1] _ _ rfl rfl rfl
         have h := iteF hb13 h
         refine AOps_skip 46 rfl rfl rfl ?_
         refine AOps_skip 47 rfl rfl rfl ?_
         refine AOps_skip 48 rfl rfl rfl ?_
         refine AOps_skip 49 rfl rfl rfl ?_
         refine AOps_skip 50 rfl rfl rfl ?_
         refine AOps_skip 51 rfl rfl rfl ?_
         refine AOps_skip 52 rfl rfl rfl ?_
         refine AOps_skip 53 rfl rfl rfl ?_
         refine AOps_skip 54 rfl rfl rfl ?_
         refine AOps_skip 55 rfl rfl rfl ?_
         refine AOps_skip 56 rfl rfl rfl ?_
         refine AOps_skip 57 rfl rfl rfl ?_
         refine AOps_skip 58 rfl rfl rfl ?_
         refine kN 1 rfl ?_
         cases h
         exact Weak_keep 0 hm [2, 3, 8, 9, 10, 11, 12, 13, 59] [0, 1] _ _ rfl rfl rfl
        refine kI h rfl (fun h _ => ?_) (fun h _ => ?_)
        ·refine kR ?_
         refine kN 2 rfl ?_
         refine (ACode_region ?_)
         refine kM 2 rfl ?_
         refine AOps_buildSlice 63 _ _ _ [_, _] (intsD ([x3, x7])) _ rfl rfl rfl rfl rfl (by decide) Try.underlying34 Try.sizeOf2 (zero_of Try.typeInfo2 rfl) rfl rfl (intsD_one _) ?_
         refine kN 1 rfl ?_
         cases h
         exact Weak_keep 0 hm [2, 3, 8, 9, 10, 11, 12] [0, 2] _ _ rfl rfl rfl
        refine ACode_skip ?_
        cases h
        exact Weak_keep 0 hm [2, 3, 8, 9, 10, 11, 12] [0, 1] _ _ rfl rfl rfl
       refine (ACode_region ?_)
       refine kM 1 rfl ?_
       refine AOps_q 31 _ rfl rfl rfl (QOp_add _ _ _ _ _ _ _ rfl rfl rfl) ?_
       refine kN 1 rfl ?_
       exact ⟨k1, _, _, Nat.lt_succ_self _, Weak_keep 0 hm [2, 3, 8, 9, 10, 11, 12] [0, 1] _ _ rfl rfl rfl, _, _, _, rfl, rfl, h⟩
      refine ACode_exit ?_
      cases h
      exact Weak_keep 0 hm [2, 3, 8, 9, 10, 11] [0, 1] _ _ rfl rfl rfl
    refine (ACode_region ?_)
    refine kM 1 rfl ?_
    refine AOps_q 23 _ rfl rfl rfl (QOp_add _ _ _ _ _ _ _ rfl rfl rfl) ?_
    refine kN 1 rfl ?_
    exact ⟨k0, _, _, Nat.lt_succ_self _, Weak_keep 0 hm [2, 3, 8, 9, 10, 11] [0, 1] _ _ rfl rfl rfl, _, _, _, rfl, rfl, h⟩
   refine ACode_exit ?_
   cases h
   exact Weak_keep 0 hm [9, 10] [1] _ _ rfl rfl rfl
 refine kR ?_
 refine kN 4 rfl ?_
 refine ACode_ret ?_
 cases h
 exact ⟨_, _, Weak_reset 0 hm hz [6, 7] _ _ rfl rfl, _, _, [0], _, (.cons (ResV_tmp _ _ rfl) (.cons (ResV_tmp _ _ rfl) .nil)), rfl, rfl, rfl, rfl, rfl⟩

-- loop.example/g01362/spec.AvoidsPattern
def spec_AvoidsPattern (k : Nat) (p0 : Col) (p1 : Int) (p2 : Int) (p3 : Int) : Option (Bool × Int) :=
 (spec_l01Given k p0 p1 ([])).bind fun r1 => letO (letO (if decide (r1 = 0) then (if !(spec_l01In p2 0 5) then true else !(spec_l01In p3 1 17)) else false) fun (s6 : Bool) => (if s6 then 2 else r1)) fun (s8 : Int) => ((if decide (s8 = 0) then (spec_l04Code k p0 p1 (decide (p2 < 2))).bind fun r10 => some r10 else some s8) : Option (Int)).bind fun s11 => (if !decide (s11 = 0) then some (false, s11) else ((if decide (p2 = 0) then (spec_l04Path k p0 p1).bind fun r14 => some (.inl (r14.length : Int)) else (if decide (p2 = 1) then (spec_l04Has k p0 p1 p3).bind fun r16 => some (.inr (!r16, 0)) else (if decide (p2 = 2) then (spec_l04Star k p0 p1).bind fun r18 => some (.inl r18.2) else (if decide (p2 = 3) then (spec_l04Matching k p0 p1).bind fun r20 => some (.inl (r20.length : Int)) else (if decide (p2 = 4) then (spec_l04Double k p0 p1 false).bind fun r22 => some (.inl r22.2) else (spec_l04Double k p0 p1 true).bind fun r23 => some (.inl r23.2)))))) : Option (Sum (Int) (Bool × Int))).bind fun os24 => (match os24 with | .inl s24 => some (decide (s24 < p3), 0) | .inr rr => some rr))
set_option maxRecDepth 100000 in
theorem spec_AvoidsPattern_ac (k : Nat) (p0 : Col) (p1 : Int) (p2 : Int) (p3 : Int) (r : Bool × Int) (h : spec_AvoidsPattern k p0 p1 p2 p3 = some r) : AC Try.prog 6 [.d (.agg (colD p0)), iV p1, iV p2, iV p3] [] (fun res H' => res = [bV r.1, iV r.2] ∧ H' = []) := by
 refine AC_of_body true Try.func6 rfl Try.ntmps6 (rvs := [.tmp 8, .tmp 9]) rfl rfl (fun G hG => ?_)
 have hm : G.H.length = 0 := by rw [hG]; rfl
 have hz : zeroG G.H = true := by rw [hG]; rfl
 unfold spec_AvoidsPattern at h
 refine kR ?_
 refine AOps_boxI 4 _ _ (.agg (colD p0)) (colD p0) rfl (colD_one _) rfl rfl rfl rfl rfl ?_
 refine kN 2 rfl ?_
 refine kR ?_
 refine AOps_q 12 _ rfl rfl rfl (QOp_loadN_pv _ _ _ _ _ _ rfl Try.isAgg27 Try.sizeOf27 rfl (colD_all _) (colD_length _)) ?_
 refine kM 1 rfl ?_
 obtain ⟨r1, hr1, h⟩ := bindO h
 refine kC [] 14 (iV r1) [] rfl Try.call37 rfl rfl (spec_l01Given_ac k p0 p1 ([]) _ hr1) rfl ?_
 refine kN 1 rfl ?_
 refine kL (fun s8 => [(1, iV p1), (2, iV p2), (3, iV p3), (4, .d (.pv (colD p0) 0)), (10, iV s8)]) (fun s8 => []) h (fun s8 h => ?_) (fun s8 h => ?_)
 ·refine kL (fun s6 => [(1, iV p1), (2, iV p2), (3, iV p3), (4, .d (.pv (colD p0) 0)), (10, iV r1), (26, bV s6)]) (fun s6 => []) h (fun s6 h => ?_) (fun s6 h => ?_)
  ·refine (ACode_region ?_)
   refine kM 1 rfl ?_
   refine AOps_q 16 _ rfl rfl rfl (QOp_eql _ _ _ _ _ _ _ rfl rfl rfl) ?_
   refine kM 1 rfl ?_
   refine AOps_case 17 _ rfl (fun hb2 => ?_) (fun hb2 => ?_)
   ·have h := iteT hb2 h
    refine kM 1 rfl ?_
    refine kC [] 19 (bV (spec_l01In p2 0 5)) [] rfl Try.call38 rfl rfl (spec_l01In_ac p2 0 5) rfl ?_
    refine AOps_q 20 _ rfl rfl rfl (QOp_not _ _ _ rfl rfl) ?_
    refine kM 1 rfl ?_
    refine AOps_case 21 _ rfl (fun hb4 => ?_) (fun hb4 => ?_)
    ·have h := iteT hb4 h
     refine AOps_skip 22 rfl rfl rfl ?_
     refine AOps_skip 23 rfl rfl rfl ?_
     refine AOps_skip 24 rfl rfl rfl ?_
     refine kN 2 rfl ?_
     cases h
     exact Weak_keep 0 hm [1, 2, 3, 4, 10, 26] [] _ _ rfl rfl rfl
    have h := iteF hb4 h
    refine kM 1 rfl ?_
    refine kC [] 23 (bV (spec_l01In p3 1 17)) [] rfl Try.call38 rfl rfl (spec_l01In_ac p3 1 17) rfl ?_
    refine AOps_q 24 _ rfl rfl rfl (QOp_not _ _ _ rfl rfl) ?_
    refine kN 2 rfl ?_
    cases h
    exact Weak_keep 0 hm [1, 2, 3, 4, 10, 26] [] _ _ rfl rfl rfl
   have h := iteF hb2 h
   refine AOps_skip 18 rfl rfl rfl ?_
   refine AOps_skip 19 rfl rfl rfl ?_
   refine AOps_skip 20 rfl rfl rfl ?_
   refine AOps_skip 21 rfl rfl rfl ?_
   refine AOps_skip 22 rfl rfl rfl ?_
   refine AOps_skip 23 rfl rfl rfl ?_
   refine AOps_skip 24 rfl rfl rfl ?_
   refine AOps_skip 25 rfl rfl rfl ?_
   refine kN 1 rfl ?_
   cases h
   exact Weak_keep 0 hm [1, 2, 3, 4, 10, 26] [] _ _ rfl rfl rfl
  refine kI h rfl (fun h _ => ?_) (fun h _ => ?_)
  ·refine (ACode_region ?_)
   refine kN 1 rfl ?_
   cases h
   exact Weak_keep 0 hm [1, 2, 3, 4, 10] [] _ _ rfl rfl rfl
  refine ACode_skip ?_
  cases h
  exact Weak_keep 0 hm [1, 2, 3, 4, 10] [] _ _ rfl rfl rfl
 refine kB (fun s11 => [(1, iV p1), (2, iV p2), (3, iV p3), (4, .d (.pv (colD p0) 0)), (10, iV s11)]) (fun s11 => []) h (fun s11 h => ?_) (fun s11 h => ?_)
 ·refine kR ?_
  refine kM 1 rfl ?_
  refine AOps_q 28 _ rfl rfl rfl (QOp_eql _ _ _ _ _ _ _ rfl rfl rfl) ?_
  refine AOps_nil ?_
  refine kI h rfl (fun h _ => ?_) (fun h _ => ?_)
  ·refine (ACode_region ?_)
   refine AOps_q 29 _ rfl rfl rfl (QOp_loadN_pv _ _ _ _ _ _ rfl Try.isAgg27 Try.sizeOf27 rfl (colD_all _) (colD_length _)) ?_
   refine kM 2 rfl ?_
   refine AOps_q 32 _ rfl rfl rfl (QOp_lss _ _ _ _ _ _ _ rfl rfl rfl) ?_
   obtain ⟨r10, hr10, h⟩ := bindO h
   refine kC [] 33 (iV r10) [] rfl Try.call39 rfl rfl (spec_l04Code_ac k p0 p1 (decide (p2 < 2)) _ hr10) rfl ?_
   refine kN 1 rfl ?_
   cases h
   exact Weak_keep 0 hm [1, 2, 3, 4, 10] [] _ _ rfl rfl rfl
  refine ACode_skip ?_
  cases h
  exact Weak_keep 0 hm [1, 2, 3, 4, 10] [] _ _ rfl rfl rfl
 refine ACode_seq ?_
 refine kR ?_
 refine kM 1 rfl ?_
 refine AOps_q 35 _ rfl rfl rfl (QOp_neq _ _ _ _ _ _ _ rfl rfl rfl) ?_
 refine AOps_nil ?_
 refine kI h rfl (fun h _ => ?_) (fun h _ => ?_)
 ·refine kR ?_
  refine kN 3 rfl ?_
  refine ACode_ret ?_
  cases h
  exact ⟨_, _, fun r a w h => ⟨r, h⟩, _, _, [], _, (.cons (ResV_tmp _ _ rfl) (.cons (ResV_tmp _ _ rfl) .nil)), rfl, rfl, rfl, rfl, rfl⟩
 refine ACode_skip ?_
 refine kR ?_
 refine kN 1 rfl ?_
 refine kO (fun s24 => [(3, iV p3), (11, iV s24)]) (fun s24 => []) h (fun os24 h hks24 => ?_) (fun s24 h => ?_)
 ·refine kR ?_
  refine kN 1 rfl ?_
  refine ACode_block ?_
  refine kR ?_
  refine AOps_q 45 _ rfl rfl rfl (QOp_eql _ _ _ _ _ _ _ rfl rfl rfl) ?_
  refine kN 1 rfl ?_
  refine kI h rfl (fun h _ => ?_) (fun h _ => ?_)
  ·refine (ACode_region ?_)
   refine AOps_q 46 _ rfl rfl rfl (QOp_loadN_pv _ _ _ _ _ _ rfl Try.isAgg27 Try.sizeOf27 rfl (colD_all _) (colD_length _)) ?_
   refine kM 1 rfl ?_
   obtain ⟨r14, hr14, h⟩ := bindO h
   refine kC [] 48 (.vec 0 0) [.vec 0 (intsD r14)] rfl Try.call40 rfl rfl (spec_l04Path_ac k p0 p1 _ hr14) rfl ?_
   refine AOps_q 49 _ rfl rfl rfl (QOp_len_vec _ _ _ _ _ _ _ _ (intsD_length _) rfl rfl rfl rfl Try.underlying34 rfl rfl) ?_
   refine kN 1 rfl ?_
   cases h
   exact ⟨_, rfl, Weak_keep 0 hm [3, 11] [] _ _ rfl rfl rfl⟩
  refine kR ?_
  refine AOps_q 51 _ rfl rfl rfl (QOp_eql _ _ _ _ _ _ _ rfl rfl rfl) ?_
  refine kN 1 rfl ?_
  refine kI h rfl (fun h _ => ?_) (fun h _ => ?_)
  ·refine kR ?_
   refine AOps_q 52 _ rfl rfl rfl (QOp_loadN_pv _ _ _ _ _ _ rfl Try.isAgg27 Try.sizeOf27 rfl (colD_all _) (colD_length _)) ?_
   refine kM 2 rfl ?_
   obtain ⟨r16, hr16, h⟩ := bindO h
   refine kC [] 55 (bV r16) [] rfl Try.call41 rfl rfl (spec_l04Has_ac k p0 p1 p3 _ hr16) rfl ?_
   refine AOps_q 56 _ rfl rfl rfl (QOp_not _ _ _ rfl rfl) ?_
   refine kN 2 rfl ?_
   refine ACode_ret ?_
   cases h
   have h := hks24
   cases h
   exact ⟨_, _, fun r a w h => ⟨r, h⟩, _, _, [], _, (.cons (ResV_tmp _ _ rfl) (.cons (ResV_tmp _ _ rfl) .nil)), rfl, rfl, rfl, rfl, rfl⟩
  refine kR ?_
  refine AOps_q 58 _ rfl rfl rfl (QOp_eql _ _ _ _ _ _ _ rfl rfl rfl) ?_
  refine kN 1 rfl ?_
  refine kI h rfl (fun h _ => ?_) (fun h _ => ?_)
  ·refine (ACode_region ?_)
   refine AOps_q 60 _ rfl rfl rfl (QOp_loadN_pv _ _ _ _ _ _ rfl Try.isAgg27 Try.sizeOf27 rfl (colD_all _) (colD_length _)) ?_
   refine kM 1 rfl ?_
   obtain ⟨r18, hr18, h⟩ := bindO h
   refine kC [] 62 (.tup [iV r18.1, iV r18.2]) [] rfl Try.call42 rfl rfl (spec_l04Star_ac k p0 p1 _ hr18) rfl ?_
   refine kN 4 rfl ?_
   cases h
   exact ⟨_, rfl, Weak_keep 0 hm [3, 11] [] _ _ rfl rfl rfl⟩
  refine kR ?_
  refine AOps_q 66 _ rfl rfl rfl (QOp_eql _ _ _ _ _ _ _ rfl rfl rfl) ?_
  refine kN 1 rfl ?_
  refine kI h rfl (fun h _ => ?_) (fun h _ => ?_)
  ·refine (ACode_region ?_)
   refine AOps_q 67 _ rfl rfl rfl (QOp_loadN_pv _ _ _ _ _ _ rfl Try.isAgg27 Try.sizeOf27 rfl (colD_all _) (colD_length _)) ?_
   refine kM 1 rfl ?_
   obtain ⟨r20, hr20, h⟩ := bindO h
   refine kC [] 69 (.vec 0 0) [.vec 0 (rowsD r20)] rfl Try.call43 rfl rfl (spec_l04Matching_ac k p0 p1 _ hr20) rfl ?_
   refine AOps_q 70 _ rfl rfl rfl (QOp_len_vec _ _ _ _ _ _ _ _ (rowsD_length _) rfl rfl rfl rfl Try.underlying45 rfl rfl) ?_
   refine kN 1 rfl ?_
   cases h
   exact ⟨_, rfl, Weak_keep 0 hm [3, 11] [] _ _ rfl rfl rfl⟩
  refine kR ?_
  refine AOps_q 72 _ rfl rfl rfl (QOp_eql _ _ _ _ _ _ _ rfl rfl rfl) ?_
  refine kN 1 rfl ?_
  refine kI h rfl (fun h _ => ?_) (fun h _ => ?_)
  ·refine (ACode_region ?_)
   refine AOps_q 74 _ rfl rfl rfl (QOp_loadN_pv _ _ _ _ _ _ rfl Try.isAgg27 Try.sizeOf27 rfl (colD_all _) (colD_length _)) ?_
   refine kM 1 rfl ?_
   obtain ⟨r22, hr22, h⟩ := bindO h
   refine kC [] 76 (.tup [.vec 0 0, iV r22.2]) [.vec 0 (intsD r22.1)] rfl Try.call44 rfl rfl (spec_l04Double_ac k p0 p1 false _ hr22) rfl ?_
   refine kN 4 rfl ?_
   cases h
   exact ⟨_, rfl, Weak_keep 0 hm [3, 11] [] _ _ rfl rfl rfl⟩
  refine (ACode_region ?_)
  refine AOps_q 39 _ rfl rfl rfl (QOp_loadN_pv _ _ _ _ _ _ rfl Try.isAgg27 Try.sizeOf27 rfl (colD_all _) (colD_length _)) ?_
  refine kM 1 rfl ?_
  obtain ⟨r23, hr23, h⟩ := bindO h
  refine kC [] 41 (.tup [.vec 0 0, iV r23.2]) [.vec 0 (intsD r23.1)] rfl Try.call44 rfl rfl (spec_l04Double_ac k p0 p1 true _ hr23) rfl ?_
  refine kN 4 rfl ?_
  cases h
  exact ⟨_, rfl, Weak_keep 0 hm [3, 11] [] _ _ rfl rfl rfl⟩
 refine kR ?_
 refine kM 2 rfl ?_
 refine AOps_q 81 _ rfl rfl rfl (QOp_lss _ _ _ _ _ _ _ rfl rfl rfl) ?_
 refine kN 2 rfl ?_
 refine ACode_ret ?_
 cases h
 exact ⟨_, _, fun r a w h => ⟨r, h⟩, _, _, [], _, (.cons (ResV_tmp _ _ rfl) (.cons (ResV_tmp _ _ rfl) .nil)), rfl, rfl, rfl, rfl, rfl⟩

-- loop.example/g01362/impl.in
def impl_in (p0 : Int) (p1 : Int) (p2 : Int) : Bool :=
 letO (if decide (p1 ≤ p0) then decide (p0 ≤ p2) else false) fun (s2 : Bool) => s2
set_option maxRecDepth 100000 in
theorem impl_in_ac (p0 : Int) (p1 : Int) (p2 : Int) : AC Try.prog 47 [iV p0, iV p1, iV p2] [] (fun res H' => res = [bV (impl_in p0 p1 p2)] ∧ H' = []) := by
 refine AC_of_body true Try.func47 rfl Try.ntmps47 (rvs := [.tmp 6]) rfl rfl (fun G hG => ?_)
 have hm : G.H.length = 0 := by rw [hG]; rfl
 have hz : zeroG G.H = true := by rw [hG]; rfl
 obtain ⟨r, h⟩ : ∃ r, impl_in p0 p1 p2 = r := ⟨_, rfl⟩
 rw [h]
 unfold impl_in at h
 refine kR ?_
 refine kN 1 rfl ?_
 refine kL (fun s2 => [(6, bV s2)]) (fun s2 => []) h (fun s2 h => ?_) (fun s2 h => ?_)
 ·refine (ACode_region ?_)
  refine kM 2 rfl ?_
  refine AOps_q 9 _ rfl rfl rfl (QOp_geq _ _ _ _ _ _ _ rfl rfl rfl) ?_
  refine kM 1 rfl ?_
  refine AOps_case 10 _ rfl (fun hb1 => ?_) (fun hb1 => ?_)
  ·have h := iteT hb1 h
   refine kM 2 rfl ?_
   refine AOps_q 13 _ rfl rfl rfl (QOp_leq _ _ _ _ _ _ _ rfl rfl rfl) ?_
   refine kN 2 rfl ?_
   cases h
   exact Weak_keep 0 hm [6] [] _ _ rfl rfl rfl
  have h := iteF hb1 h
  refine AOps_skip 11 rfl rfl rfl ?_
  refine AOps_skip 12 rfl rfl rfl ?_
  refine AOps_skip 13 rfl rfl rfl ?_
  refine kN 2 rfl ?_
  cases h
  exact Weak_keep 0 hm [6] [] _ _ rfl rfl rfl
 refine ACode_ret ?_
 cases h
 exact ⟨_, _, fun r a w h => ⟨r, h⟩, _, _, [], _, (.cons (ResV_tmp _ _ rfl) .nil), rfl, rfl, rfl, rfl, rfl⟩

-- (*loop.example/g01362/impl.Colouring).edges
def impl_Colouring_edges (p0 : Col) : Int :=
 w64 ((w64 (p0.p * (w64 (p0.p - 1)))).tdiv 2)
set_option maxRecDepth 100000 in
theorem impl_Colouring_edges_ac (p0 : Col) : AC Try.prog 103 [.d (.pv (colD p0) 0)] [] (fun res H' => res = [iV (impl_Colouring_edges p0)] ∧ H' = []) := by
 refine AC_of_body true Try.func103 rfl Try.ntmps103 (rvs := [.tmp 2]) rfl rfl (fun G hG => ?_)
 have hm : G.H.length = 0 := by rw [hG]; rfl
 have hz : zeroG G.H = true := by rw [hG]; rfl
 obtain ⟨r, h⟩ : ∃ r, impl_Colouring_edges p0 = r := ⟨_, rfl⟩
 rw [h]
 unfold impl_Colouring_edges at h
 refine kR ?_
 refine kN 1 rfl ?_
 refine ACode_seq (ACode_quiet mixed (by kernel_rfl) ?_)
 refine kQ 1 rfl ?_
 refine AQ_q 4 _ rfl rfl rfl (QOp_nilCheck_pv _ _ _ rfl rfl) ?_
 refine AQ_q 5 _ rfl rfl rfl (QOp_fieldAddr_pv _ _ _ _ _ 0 _ _ rfl Try.underlying27 rfl _ Try.sizeOf2 rfl rfl) ?_
 refine AQ_q 6 _ rfl rfl rfl (QOp_load_pv _ _ _ _ _ rfl Try.isAgg2 rfl rfl) ?_
 refine kQ 1 rfl ?_
 refine AQ_q 8 _ rfl rfl rfl (QOp_nilCheck_pv _ _ _ rfl rfl) ?_
 refine AQ_q 9 _ rfl rfl rfl (QOp_fieldAddr_pv _ _ _ _ _ 0 _ _ rfl Try.underlying27 rfl _ Try.sizeOf2 rfl rfl) ?_
 refine AQ_q 10 _ rfl rfl rfl (QOp_load_pv _ _ _ _ _ rfl Try.isAgg2 rfl rfl) ?_
 refine AQ_q 11 _ rfl rfl rfl (QOp_sub _ _ _ _ _ _ _ rfl rfl rfl) ?_
 refine AQ_q 12 _ rfl rfl rfl (QOp_mul _ _ _ _ _ _ _ rfl rfl rfl) ?_
 refine AQ_q 13 _ rfl rfl rfl (QOp_quo _ _ _ _ _ _ _ (by decide) rfl rfl rfl) ?_
 refine kQ 1 rfl ?_
 refine AQ_nil ?_
 refine ACode_ret ?_
 cases h
 exact ⟨_, _, fun r a w h => ⟨r, h⟩, _, _, [], _, (.cons (ResV_tmp _ _ rfl) .nil), rfl, rfl, rfl, rfl, rfl⟩

-- (*loop.example/g01362/impl.Colouring).isColouring
def impl_Colouring_isColouring_l0 (k : Nat) (p0 : Col) : Nat → Int → Option (Sum (Unit) (Bool))
 | 0, _ => none
 | k0 + 1, x7 => (if decide (x7 < 136) then ((if 0 ≤ x7 ∧ x7 < 136 then letO (if decide (p0.k ≤ ((p0.e.get x7.toNat).toNat : Int)) then true else (if decide ((impl_Colouring_edges p0) ≤ x7) then !decide (((p0.e.get x7.toNat).toNat : Int) = 0) else false)) fun (s13 : Bool) => (if s13 then (some (.inr false)).bind fun rr => some (.inr rr) else some (.inl ())) else none) : Option (Sum (Unit) (Sum (Unit) (Bool)))).bind fun os15 => (match os15 with | .inl s15 => impl_Colouring_isColouring_l0 k p0 k0 (w64 (x7 + 1)) | .inr rr => some rr) else some (.inl ()))
def impl_Colouring_isColouring (k : Nat) (p0 : Col) : Option (Bool) :=
 (letO (if !(impl_in p0.p 1 17) then true else !(impl_in p0.k 1 4)) fun (s4 : Bool) => (if s4 then some (.inr false) else some (.inl ())) : Option (Sum (Unit) (Bool))).bind fun os6 => (match os6 with | .inl s6 => (impl_Colouring_isColouring_l0 k p0 k 0 : Option (Sum (Unit) (Bool))).bind fun os16 => (match os16 with | .inl s16 => some true | .inr rr => some rr) | .inr rr => some rr)
set_option maxRecDepth 100000 in
theorem impl_Colouring_isColouring_ac (k : Nat) (p0 : Col) (r : Bool) (h : impl_Colouring_isColouring k p0 = some r) : AC Try.prog 95 [.d (.pv (colD p0) 0)] [] (fun res H' => res = [bV r] ∧ H' = []) := by
 refine AC_of_body true Try.func95 rfl Try.ntmps95 (rvs := [.tmp 2]) rfl rfl (fun G hG => ?_)
 have hm : G.H.length = 0 := by rw [hG]; rfl
 have hz : zeroG G.H = true := by rw [hG]; rfl
 unfold impl_Colouring_isColouring at h
 refine kR ?_
 refine kN 1 rfl ?_
 refine kO (fun s6 => [(0, .d (.pv (colD p0) 0))]) (fun s6 => []) h (fun os6 h hks6 => ?_) (fun s6 h => ?_)
 ·refine kL (fun s4 => [(0, .d (.pv (colD p0) 0)), (18, bV s4)]) (fun s4 => []) h (fun s4 h => ?_) (fun s4 h => ?_)
  ·refine (ACode_region ?_)
   refine kM 1 rfl ?_
   refine AOps_q 6 _ rfl rfl rfl (QOp_nilCheck_pv _ _ _ rfl rfl) ?_
   refine AOps_q 7 _ rfl rfl rfl (QOp_fieldAddr_pv _ _ _ _ _ 0 _ _ rfl Try.underlying27 rfl _ Try.sizeOf2 rfl rfl) ?_
   refine AOps_q 8 _ rfl rfl rfl (QOp_load_pv _ _ _ _ _ rfl Try.isAgg2 rfl rfl) ?_
   refine kC [] 9 (bV (impl_in p0.p 1 17)) [] rfl Try.call47 rfl rfl (impl_in_ac p0.p 1 17) rfl ?_
   refine AOps_q 10 _ rfl rfl rfl (QOp_not _ _ _ rfl rfl) ?_
   refine kM 1 rfl ?_
   refine AOps_case 11 _ rfl (fun hb2 => ?_) (fun hb2 => ?_)
   ·have h := iteT hb2 h
    refine AOps_skip 12 rfl rfl rfl ?_
    refine AOps_skip 13 rfl rfl rfl ?_
    refine AOps_skip 14 rfl rfl rfl ?_
    refine AOps_skip 15 rfl rfl rfl ?_
    refine AOps_skip 16 rfl rfl rfl ?_
    refine AOps_skip 17 rfl rfl rfl ?_
    refine kN 1 rfl ?_
    cases h
    exact Weak_keep 0 hm [0, 18] [] _ _ rfl rfl rfl
   have h := iteF hb2 h
   refine kM 1 rfl ?_
   refine AOps_q 13 _ rfl rfl rfl (QOp_nilCheck_pv _ _ _ rfl rfl) ?_
   refine AOps_q 14 _ rfl rfl rfl (QOp_fieldAddr_pv _ _ _ _ _ 1 _ _ rfl Try.underlying27 rfl _ Try.sizeOf2 rfl rfl) ?_
   refine AOps_q 15 _ rfl rfl rfl (QOp_load_pv _ _ _ _ _ rfl Try.isAgg2 rfl rfl) ?_
   refine kC [] 16 (bV (impl_in p0.k 1 4)) [] rfl Try.call47 rfl rfl (impl_in_ac p0.k 1 4) rfl ?_
   refine AOps_q 17 _ rfl rfl rfl (QOp_not _ _ _ rfl rfl) ?_
   refine kN 1 rfl ?_
   cases h
   exact Weak_keep 0 hm [0, 18] [] _ _ rfl rfl rfl
  refine kI h rfl (fun h _ => ?_) (fun h _ => ?_)
  ·refine kR ?_
   refine kN 1 rfl ?_
   refine ACode_ret ?_
   cases h
   have h := hks6
   cases h
   exact ⟨_, _, fun r a w h => ⟨r, h⟩, _, _, [], _, (.cons (ResV_tmp _ _ rfl) .nil), rfl, rfl, rfl, rfl, rfl⟩
  refine ACode_skip ?_
  cases h
  exact ⟨_, rfl, Weak_keep 0 hm [0] [] _ _ rfl rfl rfl⟩
 refine kO (fun s16 => []) (fun s16 => []) h (fun os16 h hks16 => ?_) (fun s16 h => ?_)
 ·refine kR ?_
  refine kM 1 rfl ?_
  refine AOps_q 20 _ rfl rfl rfl (QOp_nilCheck_pv _ _ _ rfl rfl) ?_
  refine AOps_q 21 _ rfl rfl rfl (QOp_fieldAddr_pv _ _ _ _ _ 2 _ _ rfl Try.underlying27 rfl _ Try.sizeOf22 rfl rfl) ?_
  refine AOps_q 22 _ rfl rfl rfl (QOp_loadN_pv _ _ _ _ _ _ rfl Try.isAgg22 Try.sizeOf22 rfl (colD_edges _) (byD_length _)) ?_
  refine kN 1 rfl ?_
  refine ACode_block ?_
  refine ACode_loopW (fun k0 E H => ∃ (x7 : Int), E = [(0, .d (.pv (colD p0) 0)), (22, .d (.agg (byD p0.e))), (23, iV x7)] ∧ H = [] ∧ impl_Colouring_isColouring_l0 k p0 k0 x7 = some os16) k _ _ (Weak_keep 0 hm [0, 22, 23] [] _ _ rfl rfl rfl) ⟨_, rfl, rfl, h⟩ ?_
  clear h
  rintro k0 E H ⟨x7, rfl, rfl, h⟩
  cases k0 with
  | zero => cases (show (none : Option (Sum (Unit) (Bool))) = some _ from h)
  | succ k0 =>
   rw [impl_Colouring_isColouring_l0] at h
   refine kR ?_
   refine AOps_q 24 _ rfl rfl rfl (QOp_lss _ _ _ _ _ _ _ rfl rfl rfl) ?_
   refine AOps_nil ?_
   refine ACode_seq ?_
   refine kI h rfl (fun h _ => ?_) (fun h _ => ?_)
   ·refine ACode_skip ?_
    refine kO (fun s15 => [(0, .d (.pv (colD p0) 0)), (22, .d (.agg (byD p0.e))), (23, iV x7)]) (fun s15 => []) h (fun os15 h hks15 => ?_) (fun s15 h => ?_)
    ·refine ACode_block ?_
     refine kR ?_
     refine kM 1 rfl ?_
     obtain ⟨hc9, h⟩ := guardO h
     refine AOps_q 26 _ rfl rfl rfl (QOp_index_agg _ _ _ _ _ _ _ _ _ rfl Try.underlying22 Try.sizeOf5 Try.isAgg5 hc9.1 hc9.2 rfl rfl (byD_get _ _ (by omega))) ?_
     refine kN 2 rfl ?_
     refine kL (fun s13 => [(0, .d (.pv (colD p0) 0)), (22, .d (.agg (byD p0.e))), (23, iV x7), (43, bV s13)]) (fun s13 => []) h (fun s13 h => ?_) (fun s13 h => ?_)
     ·refine (ACode_region ?_)
      refine kM 1 rfl ?_
      refine AOps_q 28 _ rfl rfl rfl (QOp_fromByte _ _ _ _ _ rfl rfl Try.underlying2 wrap_i64_byte rfl) ?_
      refine kM 1 rfl ?_
      refine AOps_q 30 _ rfl rfl rfl (QOp_nilCheck_pv _ _ _ rfl rfl) ?_
      refine AOps_q 31 _ rfl rfl rfl (QOp_fieldAddr_pv _ _ _ _ _ 1 _ _ rfl Try.underlying27 rfl _ Try.sizeOf2 rfl rfl) ?_
      refine AOps_q 32 _ rfl rfl rfl (QOp_load_pv _ _ _ _ _ rfl Try.isAgg2 rfl rfl) ?_
      refine AOps_q 33 _ rfl rfl rfl (QOp_geq _ _ _ _ _ _ _ rfl rfl rfl) ?_
      refine kM 1 rfl ?_
      refine AOps_case 34 _ rfl (fun hb10 => ?_) (fun hb10 => ?_)
      ·have h := iteT hb10 h
       refine AOps_skip 35 rfl rfl rfl ?_
       refine AOps_skip 36 rfl rfl rfl ?_
       refine AOps_skip 37 rfl rfl rfl ?_
       refine AOps_skip 38 rfl rfl rfl ?_
       refine AOps_skip 39 rfl rfl rfl ?_
       refine AOps_skip 40 rfl rfl rfl ?_
       refine AOps_skip 41 rfl rfl rfl ?_
       refine AOps_skip 42 rfl rfl rfl ?_
       refine kN 1 rfl ?_
       cases h
       exact Weak_keep 0 hm [0, 22, 23, 43] [] _ _ rfl rfl rfl
      have h := iteF hb10 h
      refine kM 2 rfl ?_
      refine kC [] 37 (iV (impl_Colouring_edges p0)) [] rfl Try.call103 rfl rfl (impl_Colouring_edges_ac p0) rfl ?_
      refine AOps_q 38 _ rfl rfl rfl (QOp_geq _ _ _ _ _ _ _ rfl rfl rfl) ?_
      refine kM 1 rfl ?_
      refine AOps_case 39 _ rfl (fun hb12 => ?_) (fun hb12 => ?_)
      ·have h := iteT hb12 h
       refine kM 1 rfl ?_
       refine AOps_q 41 _ rfl rfl rfl (QOp_neq _ _ _ _ _ _ _ rfl rfl rfl) ?_
       refine kN 2 rfl ?_
       cases h
       exact Weak_keep 0 hm [0, 22, 23, 43] [] _ _ rfl rfl rfl
      have h := iteF hb12 h
      refine AOps_skip 40 rfl rfl rfl ?_
      refine AOps_skip 41 rfl rfl rfl ?_
      refine kN 2 rfl ?_
      cases h
      exact Weak_keep 0 hm [0, 22, 23, 43] [] _ _ rfl rfl rfl
     refine kI h rfl (fun h _ => ?_) (fun h _ => ?_)
     ·refine kR ?_
      refine kN 1 rfl ?_
      refine ACode_ret ?_
      obtain ⟨rr, hz17, h2⟩ := bindO h
      obtain rfl := Option.some.inj h2
      obtain rfl := Option.some.inj (show some rr = some _ from hks15)
      have h := hz17
      cases h
      have h := hks16
      cases h
      exact ⟨_, _, fun r a w h => ⟨r, h⟩, _, _, [], _, (.cons (ResV_tmp _ _ rfl) .nil), rfl, rfl, rfl, rfl, rfl⟩
     refine ACode_skip ?_
     cases h
     exact ⟨_, rfl, Weak_keep 0 hm [0, 22, 23] [] _ _ rfl rfl rfl⟩
    refine (ACode_region ?_)
    refine AOps_q 44 _ rfl rfl rfl (QOp_add _ _ _ _ _ _ _ rfl rfl rfl) ?_
    refine kN 1 rfl ?_
    exact ⟨k0, _, _, Nat.lt_succ_self _, Weak_keep 0 hm [0, 22, 23] [] _ _ rfl rfl rfl, _, rfl, rfl, h⟩
   refine ACode_exit ?_
   cases h
   exact ⟨_, rfl, Weak_keep 0 hm [] [] _ _ rfl rfl rfl⟩
 refine kR ?_
 refine kN 1 rfl ?_
 refine ACode_ret ?_
 cases h
 exact ⟨_, _, fun r a w h => ⟨r, h⟩, _, _, [], _, (.cons (ResV_tmp _ _ rfl) .nil), rfl, rfl, rfl, rfl, rfl⟩

-- (*loop.example/g01362/impl.Colouring).code
def impl_Colouring_code (k : Nat) (p0 : Col) (p1 : Option (Bool)) : Option (Int) :=
 (impl_Colouring_isColouring k p0).bind fun r1 => (if !r1 then some 1 else (p1).bind fun r3 => (if !r3 then some 2 else some 0))
set_option maxRecDepth 100000 in
theorem impl_Colouring_code_ac (k : Nat) (p0 : Col) (p1 : Option (Bool)) (g_p1 : FuncId) (c_p1 : List D) (hg_p1 : ∀ args w, (callFunc g_p1 args).run Try.prog w = .ok (.enter g_p1 args) w) (hf_p1 : ∀ (r : Bool), p1 = some r → AC Try.prog g_p1 ([] ++ c_p1.map AV.d) [] (fun res H' => res = [bV r] ∧ H' = [])) (r : Int) (h : impl_Colouring_code k p0 p1 = some r) : AC Try.prog 64 [.d (.pv (colD p0) 0), .d (.clo g_p1 c_p1)] [] (fun res H' => res = [iV r] ∧ H' = []) := by
 refine AC_of_body true Try.func64 rfl Try.ntmps64 (rvs := [.tmp 4]) rfl rfl (fun G hG => ?_)
 have hm : G.H.length = 0 := by rw [hG]; rfl
 have hz : zeroG G.H = true := by rw [hG]; rfl
 unfold impl_Colouring_code at h
 refine kR ?_
 refine kN 1 rfl ?_
 refine ACode_seq ?_
 refine ACode_block ?_
 refine kR ?_
 refine kM 1 rfl ?_
 obtain ⟨r1, hr1, h⟩ := bindO h
 refine kC [] 7 (bV r1) [] rfl Try.call95 rfl rfl (impl_Colouring_isColouring_ac k p0 _ hr1) rfl ?_
 refine AOps_q 8 _ rfl rfl rfl (QOp_not _ _ _ rfl rfl) ?_
 refine kN 1 rfl ?_
 refine kI h rfl (fun h _ => ?_) (fun h _ => ?_)
 ·refine kR ?_
  refine kN 1 rfl ?_
  refine ACode_ret ?_
  cases h
  exact ⟨_, _, fun r a w h => ⟨r, h⟩, _, _, [], _, (.cons (ResV_tmp _ _ rfl) .nil), rfl, rfl, rfl, rfl, rfl⟩
 refine kR ?_
 refine kM 1 rfl ?_
 obtain ⟨r3, hr3, h⟩ := bindO h
 refine kC [] 11 (bV r3) [] rfl hg_p1 rfl (viewA_mapD _) (hf_p1 _ hr3) rfl ?_
 refine AOps_q 12 _ rfl rfl rfl (QOp_not _ _ _ rfl rfl) ?_
 refine kN 1 rfl ?_
 refine kI h rfl (fun h _ => ?_) (fun h _ => ?_)
 ·refine kR ?_
  refine kN 1 rfl ?_
  refine ACode_ret ?_
  cases h
  exact ⟨_, _, fun r a w h => ⟨r, h⟩, _, _, [], _, (.cons (ResV_tmp _ _ rfl) .nil), rfl, rfl, rfl, rfl, rfl⟩
 refine ACode_skip ?_
 refine kR ?_
 refine kN 1 rfl ?_
 refine ACode_ret ?_
 cases h
 exact ⟨_, _, fun r a w h => ⟨r, h⟩, _, _, [], _, (.cons (ResV_tmp _ _ rfl) .nil), rfl, rfl, rfl, rfl, rfl⟩

-- (*loop.example/g01362/impl.Colouring).hasColour
def impl_Colouring_hasColour (p0 : Col) (p1 : Int) : Bool :=
 (impl_in p1 0 (w64 (p0.k - 1)))
set_option maxRecDepth 100000 in
theorem impl_Colouring_hasColour_ac (p0 : Col) (p1 : Int) : AC Try.prog 70 [.d (.pv (colD p0) 0), iV p1] [] (fun res H' => res = [bV (impl_Colouring_hasColour p0 p1)] ∧ H' = []) := by
 refine AC_of_body true Try.func70 rfl Try.ntmps70 (rvs := [.tmp 4]) rfl rfl (fun G hG => ?_)
 have hm : G.H.length = 0 := by rw [hG]; rfl
 have hz : zeroG G.H = true := by rw [hG]; rfl
 obtain ⟨r, h⟩ : ∃ r, impl_Colouring_hasColour p0 p1 = r := ⟨_, rfl⟩
 rw [h]
 unfold impl_Colouring_hasColour at h
 refine kR ?_
 refine kN 1 rfl ?_
 refine kR ?_
 refine kM 2 rfl ?_
 refine AOps_q 7 _ rfl rfl rfl (QOp_nilCheck_pv _ _ _ rfl rfl) ?_
 refine AOps_q 8 _ rfl rfl rfl (QOp_fieldAddr_pv _ _ _ _ _ 1 _ _ rfl Try.underlying27 rfl _ Try.sizeOf2 rfl rfl) ?_
 refine AOps_q 9 _ rfl rfl rfl (QOp_load_pv _ _ _ _ _ rfl Try.isAgg2 rfl rfl) ?_
 refine AOps_q 10 _ rfl rfl rfl (QOp_sub _ _ _ _ _ _ _ rfl rfl rfl) ?_
 refine kC [] 11 (bV (impl_in p1 0 (w64 (p0.k - 1)))) [] rfl Try.call47 rfl rfl (impl_in_ac p1 0 (w64 (p0.k - 1))) rfl ?_
 refine kN 1 rfl ?_
 refine ACode_ret ?_
 cases h
 exact ⟨_, _, fun r a w h => ⟨r, h⟩, _, _, [], _, (.cons (ResV_tmp _ _ rfl) .nil), rfl, rfl, rfl, rfl, rfl⟩

-- (*loop.example/g01362/impl.Colouring).colourCode$1
def impl_Colouring_colourCode_c1 (p0 : Col) (p1 : Int) (p2 : Bool) : Bool :=
 letO (if (impl_Colouring_hasColour p0 p1) then p2 else false) fun (s3 : Bool) => s3
set_option maxRecDepth 100000 in
theorem impl_Colouring_colourCode_c1_ac (p0 : Col) (p1 : Int) (p2 : Bool) : AC Try.prog 85 [.d (.pv ([.pv (colD p0) 0]) 0), .d (.pv ([iD p1]) 0), .d (.pv ([.s (.bool p2)]) 0)] [] (fun res H' => res = [bV (impl_Colouring_colourCode_c1 p0 p1 p2)] ∧ H' = []) := by
 refine AC_of_body true Try.func85 rfl Try.ntmps85 (rvs := [.tmp 3]) rfl rfl (fun G hG => ?_)
 have hm : G.H.length = 0 := by rw [hG]; rfl
 have hz : zeroG G.H = true := by rw [hG]; rfl
 obtain ⟨r, h⟩ : ∃ r, impl_Colouring_colourCode_c1 p0 p1 p2 = r := ⟨_, rfl⟩
 rw [h]
 unfold impl_Colouring_colourCode_c1 at h
 refine kR ?_
 refine kN 1 rfl ?_
 refine kL (fun s3 => [(3, bV s3)]) (fun s3 => []) h (fun s3 h => ?_) (fun s3 h => ?_)
 ·refine (ACode_region ?_)
  refine AOps_q 4 _ rfl rfl rfl (QOp_load_pv _ _ _ _ _ rfl Try.isAgg96 rfl rfl) ?_
  refine AOps_q 5 _ rfl rfl rfl (QOp_load_pv _ _ _ _ _ rfl Try.isAgg2 rfl rfl) ?_
  refine kC [] 6 (bV (impl_Colouring_hasColour p0 p1)) [] rfl Try.call70 rfl rfl (impl_Colouring_hasColour_ac p0 p1) rfl ?_
  refine kM 1 rfl ?_
  refine AOps_case 7 _ rfl (fun hb2 => ?_) (fun hb2 => ?_)
  ·have h := iteT hb2 h
   refine AOps_q 8 _ rfl rfl rfl (QOp_load_pv _ _ _ _ _ rfl Try.isAgg4 rfl rfl) ?_
   refine kN 2 rfl ?_
   cases h
   exact Weak_keep 0 hm [3] [] _ _ rfl rfl rfl
  have h := iteF hb2 h
  refine AOps_skip 8 rfl rfl rfl ?_
  refine kN 2 rfl ?_
  cases h
  exact Weak_keep 0 hm [3] [] _ _ rfl rfl rfl
 refine ACode_ret ?_
 cases h
 exact ⟨_, _, fun r a w h => ⟨r, h⟩, _, _, [], _, (.cons (ResV_tmp _ _ rfl) .nil), rfl, rfl, rfl, rfl, rfl⟩

-- (*loop.example/g01362/impl.Colouring).colourCode
def impl_Colouring_colourCode (k : Nat) (p0 : Col) (p1 : Int) (p2 : Bool) : Option (Int) :=
 (impl_Colouring_code k p0 (some (impl_Colouring_colourCode_c1 p0 p1 p2))).bind fun r1 => some r1
set_option maxRecDepth 100000 in
theorem impl_Colouring_colourCode_ac (k : Nat) (p0 : Col) (p1 : Int) (p2 : Bool) (r : Int) (h : impl_Colouring_colourCode k p0 p1 p2 = some r) : AC Try.prog 46 [.d (.pv (colD p0) 0), iV p1, bV p2] [] (fun res H' => res = [iV r] ∧ H' = []) := by
 refine AC_of_body true Try.func46 rfl Try.ntmps46 (rvs := [.tmp 6]) rfl rfl (fun G hG => ?_)
 have hm : G.H.length = 0 := by rw [hG]; rfl
 have hz : zeroG G.H = true := by rw [hG]; rfl
 unfold impl_Colouring_colourCode at h
 refine kR ?_
 refine AOps_boxI 3 _ _ (.pv (colD p0) 0) _ rfl (fun c hc => by cases hc with | head => rfl | tail _ h => cases h) rfl rfl rfl rfl rfl ?_
 refine AOps_boxI 4 _ _ (iD p1) _ rfl (fun c hc => by cases hc with | head => rfl | tail _ h => cases h) rfl rfl rfl rfl rfl ?_
 refine AOps_boxI 5 _ _ (.s (.bool p2)) _ rfl (fun c hc => by cases hc with | head => rfl | tail _ h => cases h) rfl rfl rfl rfl rfl ?_
 refine kN 1 rfl ?_
 refine kR ?_
 refine AOps_q 7 _ rfl rfl rfl (QOp_load_pv _ _ _ _ _ rfl Try.isAgg96 rfl rfl) ?_
 refine AOps_q 8 _ rfl rfl rfl (QOp_makeFuncD _ _ _ _ rfl rfl rfl) ?_
 obtain ⟨r1, hr1, h⟩ := bindO h
 refine kC [] 9 (iV r1) [] rfl Try.call64 rfl rfl (impl_Colouring_code_ac k p0 (some (impl_Colouring_colourCode_c1 p0 p1 p2)) 85 ([.pv ([.pv (colD p0) 0]) 0, .pv ([iD p1]) 0, .pv ([.s (.bool p2)]) 0]) Try.call85 (fun r h => by cases h; exact impl_Colouring_colourCode_c1_ac p0 p1 p2) _ hr1) rfl ?_
 refine kN 1 rfl ?_
 refine ACode_ret ?_
 cases h
 exact ⟨_, _, fun r a w h => ⟨r, h⟩, _, _, [], _, (.cons (ResV_tmp _ _ rfl) .nil), rfl, rfl, rfl, rfl, rfl⟩

-- (*loop.example/g01362/impl.Colouring).that
def impl_Colouring_that_l0 (p0 : Col) (p1 : Int → Option (Bool)) : Nat → Int → (List Int) → Option (List Int)
 | 0, _, _ => none
 | k0 + 1, x1, x2 => (if decide (x1 < p0.p) then ((p1 x1).bind fun r4 => (if r4 then (if x2.length + ([x1]).length ≤ 1099511627776 then some (x2 ++ ([x1])) else none) else some x2) : Option (List Int)).bind fun s7 => impl_Colouring_that_l0 p0 p1 k0 (w64 (x1 + 1)) s7 else some x2)
def impl_Colouring_that (k : Nat) (p0 : Col) (p1 : Int → Option (Bool)) : Option (List Int) :=
 (impl_Colouring_that_l0 p0 p1 k 0 ([] : List Int) : Option (List Int)).bind fun s8 => some s8
set_option maxRecDepth 100000 in
theorem impl_Colouring_that_ac (k : Nat) (p0 : Col) (p1 : Int → Option (Bool)) (g_p1 : FuncId) (c_p1 : List D) (hg_p1 : ∀ args w, (callFunc g_p1 args).run Try.prog w = .ok (.enter g_p1 args) w) (hf_p1 : ∀ (a0 : Int) (r : Bool), p1 a0 = some r → AC Try.prog g_p1 ([iV a0] ++ c_p1.map AV.d) [] (fun res H' => res = [bV r] ∧ H' = [])) (r : List Int) (h : impl_Colouring_that k p0 p1 = some r) : AC Try.prog 71 [.d (.pv (colD p0) 0), .d (.clo g_p1 c_p1)] [] (fun res H' => res = [.vec 0 0] ∧ H' = [.vec 0 (intsD r)]) := by
 refine AC_of_body true Try.func71 rfl Try.ntmps71 (rvs := [.tmp 4]) rfl rfl (fun G hG => ?_)
 have hm : G.H.length = 0 := by rw [hG]; rfl
 have hz : zeroG G.H = true := by rw [hG]; rfl
 unfold impl_Colouring_that at h
 refine kR ?_
 refine kN 1 rfl ?_
 refine kR ?_
 refine AOps_buildSlice 7 _ _ _ [] (intsD ([] : List Int)) _ rfl rfl rfl rfl rfl (by decide) Try.underlying34 Try.sizeOf2 (zero_of Try.typeInfo2 rfl) rfl rfl (intsD_one _) ?_
 refine kN 1 rfl ?_
 refine kB (fun s8 => [(5, .vec 0 0)]) (fun s8 => [.vec 0 (intsD s8)]) h (fun s8 h => ?_) (fun s8 h => ?_)
 ·refine kR ?_
  refine kM 1 rfl ?_
  refine AOps_q 9 _ rfl rfl rfl (QOp_nilCheck_pv _ _ _ rfl rfl) ?_
  refine AOps_q 10 _ rfl rfl rfl (QOp_fieldAddr_pv _ _ _ _ _ 0 _ _ rfl Try.underlying27 rfl _ Try.sizeOf2 rfl rfl) ?_
  refine AOps_q 11 _ rfl rfl rfl (QOp_load_pv _ _ _ _ _ rfl Try.isAgg2 rfl rfl) ?_
  refine kN 1 rfl ?_
  refine ACode_block ?_
  refine ACode_loopW (fun k0 E H => ∃ (x1 : Int) (x2 : List Int), E = [(1, .d (.clo g_p1 c_p1)), (5, .vec 0 0), (11, iV p0.p), (12, iV x1)] ∧ H = [.vec 0 (intsD x2)] ∧ impl_Colouring_that_l0 p0 p1 k0 x1 x2 = some s8) k _ _ (Weak_keep 0 hm [1, 5, 11, 12] [0] _ _ rfl rfl rfl) ⟨_, _, rfl, rfl, h⟩ ?_
  clear h
  rintro k0 E H ⟨x1, x2, rfl, rfl, h⟩
  cases k0 with
  | zero => cases (show (none : Option (List Int)) = some _ from h)
  | succ k0 =>
   rw [impl_Colouring_that_l0] at h
   refine kR ?_
   refine AOps_q 13 _ rfl rfl rfl (QOp_lss _ _ _ _ _ _ _ rfl rfl rfl) ?_
   refine AOps_nil ?_
   refine ACode_seq ?_
   refine kI h rfl (fun h _ => ?_) (fun h _ => ?_)
   ·refine ACode_skip ?_
    refine kB (fun s7 => [(1, .d (.clo g_p1 c_p1)), (5, .vec 0 0), (11, iV p0.p), (12, iV x1)]) (fun s7 => [.vec 0 (intsD s7)]) h (fun s7 h => ?_) (fun s7 h => ?_)
    ·refine ACode_block ?_
     refine kR ?_
     refine kN 2 rfl ?_
     refine kR ?_
     refine kM 2 rfl ?_
     obtain ⟨r4, hr4, h⟩ := bindO h
     refine kC [] 17 (bV r4) [.vec 0 (intsD x2)] rfl hg_p1 rfl (viewA_mapD _) (hf_p1 x1 _ hr4) rfl ?_
     refine AOps_nil ?_
     refine kI h rfl (fun h _ => ?_) (fun h _ => ?_)
     ·refine (ACode_region ?_)
      refine kM 2 rfl ?_
      refine AOps_buildSlice 20 _ _ _ [_] (intsD ([x1])) _ rfl rfl rfl rfl rfl (by decide) Try.underlying34 Try.sizeOf2 (zero_of Try.typeInfo2 rfl) rfl rfl (intsD_one _) ?_
      obtain ⟨hc6, h⟩ := guardO h
      refine AOps_append 21 _ _ _ _ _ _ _ _ _ _ _ _ rfl rfl rfl rfl rfl rfl rfl Try.underlying34 Try.type2 rfl rfl rfl (by decide) rfl rfl rfl rfl (intsD_one _) (by rw [intsD_length, intsD_length]; exact hc6) ?_
      rw [intsD_app]
      refine kN 1 rfl ?_
      cases h
      exact Weak_trans (Weak_keep 0 hm [1, 5, 11, 12] [0] _ _ rfl rfl rfl) (Weak_reset 0 hm hz [1, 5, 11, 12] _ _ rfl rfl)
     refine ACode_skip ?_
     cases h
     exact Weak_keep 0 hm [1, 5, 11, 12] [0] _ _ rfl rfl rfl
    refine (ACode_region ?_)
    refine AOps_q 22 _ rfl rfl rfl (QOp_add _ _ _ _ _ _ _ rfl rfl rfl) ?_
    refine kN 1 rfl ?_
    exact ⟨k0, _, _, Nat.lt_succ_self _, Weak_keep 0 hm [1, 5, 11, 12] [0] _ _ rfl rfl rfl, _, _, rfl, rfl, h⟩
   refine ACode_exit ?_
   cases h
   exact Weak_keep 0 hm [5] [0] _ _ rfl rfl rfl
 refine kR ?_
 refine kN 2 rfl ?_
 refine ACode_ret ?_
 cases h
 exact ⟨_, _, Weak_reset 0 hm hz [4] _ _ rfl rfl, _, _, [0], _, (.cons (ResV_tmp _ _ rfl) .nil), rfl, rfl, rfl, rfl, rfl⟩

-- loop.example/g01362/impl.number
def impl_number (p0 : Int) (p1 : Int) : Int :=
 w64 ((w64 ((w64 ((if p0 < p1 then p1 else p0) * (w64 ((if p0 < p1 then p1 else p0) - 1)))).tdiv 2)) + (if p1 < p0 then p1 else p0))
set_option maxRecDepth 100000 in
theorem impl_number_ac (p0 : Int) (p1 : Int) : AC Try.prog 96 [iV p0, iV p1] [] (fun res H' => res = [iV (impl_number p0 p1)] ∧ H' = []) := by
 refine AC_of_body true Try.func96 rfl Try.ntmps96 (rvs := [.tmp 4]) rfl rfl (fun G hG => ?_)
 have hm : G.H.length = 0 := by rw [hG]; rfl
 have hz : zeroG G.H = true := by rw [hG]; rfl
 obtain ⟨r, h⟩ : ∃ r, impl_number p0 p1 = r := ⟨_, rfl⟩
 rw [h]
 unfold impl_number at h
 refine kR ?_
 refine kN 1 rfl ?_
 refine kR ?_
 refine kM 2 rfl ?_
 refine AOps_q 7 _ rfl rfl rfl (QOp_min _ _ _ _ _ _ rfl rfl rfl rfl rfl) ?_
 refine kM 2 rfl ?_
 refine AOps_q 10 _ rfl rfl rfl (QOp_max _ _ _ _ _ _ rfl rfl rfl rfl rfl) ?_
 refine kN 2 rfl ?_
 refine kR ?_
 refine kM 2 rfl ?_
 refine AOps_q 13 _ rfl rfl rfl (QOp_sub _ _ _ _ _ _ _ rfl rfl rfl) ?_
 refine AOps_q 14 _ rfl rfl rfl (QOp_mul _ _ _ _ _ _ _ rfl rfl rfl) ?_
 refine AOps_q 15 _ rfl rfl rfl (QOp_quo _ _ _ _ _ _ _ (by decide) rfl rfl rfl) ?_
 refine kM 1 rfl ?_
 refine AOps_q 17 _ rfl rfl rfl (QOp_add _ _ _ _ _ _ _ rfl rfl rfl) ?_
 refine kN 1 rfl ?_
 refine ACode_ret ?_
 cases h
 exact ⟨_, _, fun r a w h => ⟨r, h⟩, _, _, [], _, (.cons (ResV_tmp _ _ rfl) .nil), rfl, rfl, rfl, rfl, rfl⟩

-- (*loop.example/g01362/impl.Colouring).at
def impl_Colouring_at (p0 : Col) (p1 : Int) (p2 : Int) : Option (Int) :=
 (if 0 ≤ (impl_number p1 p2) ∧ (impl_number p1 p2) < 136 then some ((p0.get ((impl_number p1 p2).toNat)).toNat : Int) else none)
set_option maxRecDepth 100000 in
theorem impl_Colouring_at_ac (p0 : Col) (p1 : Int) (p2 : Int) (r : Int) (h : impl_Colouring_at p0 p1 p2 = some r) : AC Try.prog 67 [.d (.pv (colD p0) 0), iV p1, iV p2] [] (fun res H' => res = [iV r] ∧ H' = []) := by
 refine AC_of_body true Try.func67 rfl Try.ntmps67 (rvs := [.tmp 6]) rfl rfl (fun G hG => ?_)
 have hm : G.H.length = 0 := by rw [hG]; rfl
 have hz : zeroG G.H = true := by rw [hG]; rfl
 unfold impl_Colouring_at at h
 refine kR ?_
 refine kN 1 rfl ?_
 refine ACode_seq (ACode_quiet mixed (by kernel_rfl) ?_)
 refine kQ 3 rfl ?_
 refine AQ_call 10 _ _ _ _ _ _ _ _ _ rfl rfl rfl rfl rfl rfl rfl Try.call96 rfl rfl rfl (impl_number_ac p1 p2) ?_
 refine AQ_q 11 _ rfl rfl rfl (QOp_nilCheck_pv _ _ _ rfl rfl) ?_
 refine AQ_q 12 _ rfl rfl rfl (QOp_fieldAddr_pv _ _ _ _ _ 2 _ _ rfl Try.underlying27 rfl _ Try.sizeOf22 rfl rfl) ?_
 obtain ⟨hc2, h⟩ := guardO h
 refine AQ_q 13 _ rfl rfl rfl (QOp_indexAddrA_pv _ _ _ _ _ _ _ _ _ rfl Try.underlying22 Try.sizeOf5 hc2.1 hc2.2 rfl rfl) ?_
 refine AQ_q 14 _ rfl rfl rfl (QOp_load_pv _ _ _ _ _ rfl Try.isAgg5 rfl (colD_get _ _ (by omega))) ?_
 refine AQ_q 15 _ rfl rfl rfl (QOp_fromByte _ _ _ _ _ rfl rfl Try.underlying2 wrap_i64_byte rfl) ?_
 refine kQ 1 rfl ?_
 refine AQ_nil ?_
 refine ACode_ret ?_
 cases h
 exact ⟨_, _, fun r a w h => ⟨r, h⟩, _, _, [], _, (.cons (ResV_tmp _ _ rfl) .nil), rfl, rfl, rfl, rfl, rfl⟩

-- (*loop.example/g01362/impl.Colouring).joins
def impl_Colouring_joins (p0 : Col) (p1 : Int) (p2 : Int) (p3 : Int) : Option (Bool) :=
 ((if !decide (p1 = p2) then (impl_Colouring_at p0 p1 p2).bind fun r2 => some (decide (r2 = p3)) else some false) : Option (Bool)).bind fun s3 => some s3
set_option maxRecDepth 100000 in
theorem impl_Colouring_joins_ac (p0 : Col) (p1 : Int) (p2 : Int) (p3 : Int) (r : Bool) (h : impl_Colouring_joins p0 p1 p2 p3 = some r) : AC Try.prog 73 [.d (.pv (colD p0) 0), iV p1, iV p2, iV p3] [] (fun res H' => res = [bV r] ∧ H' = []) := by
 refine AC_of_body true Try.func73 rfl Try.ntmps73 (rvs := [.tmp 8]) rfl rfl (fun G hG => ?_)
 have hm : G.H.length = 0 := by rw [hG]; rfl
 have hz : zeroG G.H = true := by rw [hG]; rfl
 unfold impl_Colouring_joins at h
 refine kR ?_
 refine kN 1 rfl ?_
 refine kB (fun s3 => [(8, bV s3)]) (fun s3 => []) h (fun s3 h => ?_) (fun s3 h => ?_)
 ·refine (ACode_region ?_)
  refine kM 2 rfl ?_
  refine AOps_q 11 _ rfl rfl rfl (QOp_neq _ _ _ _ _ _ _ rfl rfl rfl) ?_
  refine kM 1 rfl ?_
  refine AOps_case 12 _ rfl (fun hb1 => ?_) (fun hb1 => ?_)
  ·have h := iteT hb1 h
   refine kM 3 rfl ?_
   obtain ⟨r2, hr2, h⟩ := bindO h
   refine kC [] 16 (iV r2) [] rfl Try.call67 rfl rfl (impl_Colouring_at_ac p0 p1 p2 _ hr2) rfl ?_
   refine kM 1 rfl ?_
   refine AOps_q 18 _ rfl rfl rfl (QOp_eql _ _ _ _ _ _ _ rfl rfl rfl) ?_
   refine kN 2 rfl ?_
   cases h
   exact Weak_keep 0 hm [8] [] _ _ rfl rfl rfl
  have h := iteF hb1 h
  refine AOps_skip 13 rfl rfl rfl ?_
  refine AOps_skip 14 rfl rfl rfl ?_
  refine AOps_skip 15 rfl rfl rfl ?_
  refine AOps_skip 16 rfl rfl rfl ?_
  refine AOps_skip 17 rfl rfl rfl ?_
  refine AOps_skip 18 rfl rfl rfl ?_
  refine kN 2 rfl ?_
  cases h
  exact Weak_keep 0 hm [8] [] _ _ rfl rfl rfl
 refine ACode_ret ?_
 cases h
 exact ⟨_, _, fun r a w h => ⟨r, h⟩, _, _, [], _, (.cons (ResV_tmp _ _ rfl) .nil), rfl, rfl, rfl, rfl, rfl⟩

-- (*loop.example/g01362/impl.Colouring).neighbours$1
def impl_Colouring_neighbours_c1 (p0 : Int) (p1 : Col) (p2 : Int) (p3 : Int) : Option (Bool) :=
 (impl_Colouring_joins p1 p2 p0 p3).bind fun r1 => some r1
set_option maxRecDepth 100000 in
theorem impl_Colouring_neighbours_c1_ac (p0 : Int) (p1 : Col) (p2 : Int) (p3 : Int) (r : Bool) (h : impl_Colouring_neighbours_c1 p0 p1 p2 p3 = some r) : AC Try.prog 97 [iV p0, .d (.pv ([.pv (colD p1) 0]) 0), .d (.pv ([iD p2]) 0), .d (.pv ([iD p3]) 0)] [] (fun res H' => res = [bV r] ∧ H' = []) := by
 refine AC_of_body true Try.func97 rfl Try.ntmps97 (rvs := [.tmp 5]) rfl rfl (fun G hG => ?_)
 have hm : G.H.length = 0 := by rw [hG]; rfl
 have hz : zeroG G.H = true := by rw [hG]; rfl
 unfold impl_Colouring_neighbours_c1 at h
 refine kR ?_
 refine kN 1 rfl ?_
 refine kR ?_
 refine AOps_q 6 _ rfl rfl rfl (QOp_load_pv _ _ _ _ _ rfl Try.isAgg96 rfl rfl) ?_
 refine AOps_q 7 _ rfl rfl rfl (QOp_load_pv _ _ _ _ _ rfl Try.isAgg2 rfl rfl) ?_
 refine kM 1 rfl ?_
 refine AOps_q 9 _ rfl rfl rfl (QOp_load_pv _ _ _ _ _ rfl Try.isAgg2 rfl rfl) ?_
 obtain ⟨r1, hr1, h⟩ := bindO h
 refine kC [] 10 (bV r1) [] rfl Try.call73 rfl rfl (impl_Colouring_joins_ac p1 p2 p0 p3 _ hr1) rfl ?_
 refine kN 1 rfl ?_
 refine ACode_ret ?_
 cases h
 exact ⟨_, _, fun r a w h => ⟨r, h⟩, _, _, [], _, (.cons (ResV_tmp _ _ rfl) .nil), rfl, rfl, rfl, rfl, rfl⟩

-- (*loop.example/g01362/impl.Colouring).neighbours
def impl_Colouring_neighbours (k : Nat) (p0 : Col) (p1 : Int) (p2 : Int) : Option (List Int) :=
 (impl_Colouring_that k p0 (fun a0 => impl_Colouring_neighbours_c1 a0 p0 p1 p2)).bind fun r1 => some r1
set_option maxRecDepth 100000 in
theorem impl_Colouring_neighbours_ac (k : Nat) (p0 : Col) (p1 : Int) (p2 : Int) (r : List Int) (h : impl_Colouring_neighbours k p0 p1 p2 = some r) : AC Try.prog 76 [.d (.pv (colD p0) 0), iV p1, iV p2] [] (fun res H' => res = [.vec 0 0] ∧ H' = [.vec 0 (intsD r)]) := by
 refine AC_of_body true Try.func76 rfl Try.ntmps76 (rvs := [.tmp 6]) rfl rfl (fun G hG => ?_)
 have hm : G.H.length = 0 := by rw [hG]; rfl
 have hz : zeroG G.H = true := by rw [hG]; rfl
 unfold impl_Colouring_neighbours at h
 refine kR ?_
 refine AOps_boxI 3 _ _ (.pv (colD p0) 0) _ rfl (fun c hc => by cases hc with | head => rfl | tail _ h => cases h) rfl rfl rfl rfl rfl ?_
 refine AOps_boxI 4 _ _ (iD p1) _ rfl (fun c hc => by cases hc with | head => rfl | tail _ h => cases h) rfl rfl rfl rfl rfl ?_
 refine AOps_boxI 5 _ _ (iD p2) _ rfl (fun c hc => by cases hc with | head => rfl | tail _ h => cases h) rfl rfl rfl rfl rfl ?_
 refine kN 1 rfl ?_
 refine kR ?_
 refine AOps_q 7 _ rfl rfl rfl (QOp_load_pv _ _ _ _ _ rfl Try.isAgg96 rfl rfl) ?_
 refine AOps_q 8 _ rfl rfl rfl (QOp_makeFuncD _ _ _ _ rfl rfl rfl) ?_
 obtain ⟨r1, hr1, h⟩ := bindO h
 refine kC [] 9 (.vec 0 0) [.vec 0 (intsD r1)] rfl Try.call71 rfl rfl (impl_Colouring_that_ac k p0 (fun a0 => impl_Colouring_neighbours_c1 a0 p0 p1 p2) 97 ([.pv ([.pv (colD p0) 0]) 0, .pv ([iD p1]) 0, .pv ([iD p2]) 0]) Try.call97 (fun a0 r h => impl_Colouring_neighbours_c1_ac a0 p0 p1 p2 r h) _ hr1) rfl ?_
 refine kN 1 rfl ?_
 refine ACode_ret ?_
 cases h
 exact ⟨_, _, Weak_reset 0 hm hz [6] _ _ rfl rfl, _, _, [0], _, (.cons (ResV_tmp _ _ rfl) .nil), rfl, rfl, rfl, rfl, rfl⟩

-- (*loop.example/g01362/impl.longest).behind
def impl_longest_behind_l0 (self : Lon → (List (MK × Int)) → Int → Int → Option (Int × List (MK × Int))) (p0 : Lon) (p1 : Int) (r3 : List Int) : Nat → Int → Int → (List (MK × Int)) → Option (Int × List (MK × Int))
 | 0, _, _, _ => none
 | k0 + 1, x4, x5, x6 => (if decide (x5 < (r3.length : Int)) then ((if 0 ≤ x5 ∧ x5 < (r3.length : Int) then (if 0 ≤ (r3.getD x5.toNat 0) then (if decide (bAnd .i64 (bShr .i64 p1 (r3.getD x5.toNat 0)) 1 = 0) then (if 0 ≤ (r3.getD x5.toNat 0) then (self p0 x6 (bOr .i64 p1 (bShl .i64 1 (r3.getD x5.toNat 0))) (r3.getD x5.toNat 0)).bind fun r12 => some ((if x4 < w64 (r12.1 + 1) then w64 (r12.1 + 1) else x4), r12.2) else none) else some (x4, x6)) else none) else none) : Option (Int × List (MK × Int))).bind fun s13 => impl_longest_behind_l0 self p0 p1 r3 k0 s13.1 (w64 (x5 + 1)) s13.2 else some (x4, x6))
def impl_longest_behind_body (self : Lon → (List (MK × Int)) → Int → Int → Option (Int × List (MK × Int))) (k : Nat) (p0 : Lon) (p0m : List (MK × Int)) (p1 : Int) (p2 : Int) : Option (Int × List (MK × Int)) :=
 (if okK (MK.l ([p1, p2] : List Int)) = true ∧ ([p1, p2] : List Int).length = 2 then (if (lookM p0m (MK.l ([p1, p2] : List Int))).isSome then some (((lookM p0m (MK.l ([p1, p2] : List Int))).getD 0), p0m) else ((impl_Colouring_neighbours k p0.x p2 p0.c).bind fun r3 => impl_longest_behind_l0 self p0 p1 r3 k 0 0 p0m : Option (Int × List (MK × Int))).bind fun s14 => (if (okK (MK.l ([p1, p2] : List Int)) = true ∧ ([p1, p2] : List Int).length = 2) ∧ okI s14.1 = true ∧ s14.2.length < 4611686018427387904 then some (s14.1, ((MK.l ([p1, p2] : List Int), s14.1) :: s14.2)) else none)) else none)
def impl_longest_behind : Nat → Lon → (List (MK × Int)) → Int → Int → Option (Int × List (MK × Int))
 | 0, _, _, _, _ => none
 | k + 1, p0, p0m, p1, p2 => impl_longest_behind_body (impl_longest_behind k) k p0 p0m p1 p2
set_option maxRecDepth 100000 in
theorem impl_longest_behind_ac {vp0 : Value} (k : Nat) (p0 : Lon) (p0m : List (MK × Int)) (p1 : Int) (p2 : Int) (r : Int × List (MK × Int)) (h : impl_longest_behind k p0 p0m p1 p2 = some r) : AC Try.prog 86 [.d (.pv (lonD p0 vp0) 0), iV p1, iV p2] [.mp vp0 (mapI Try.prog 111 2 p0m)] (fun res H' => res = [iV r.1] ∧ H' = [.mp vp0 (mapI Try.prog 111 2 r.2)]) := by
 induction k generalizing p0 p0m p1 p2 r with
 | zero => simp [impl_longest_behind] at h
 | succ k ih =>
  rw [impl_longest_behind] at h
  obtain ⟨self, hself, hk⟩ : ∃ self : Lon → (List (MK × Int)) → Int → Int → Option (Int × List (MK × Int)), (∀ (p0 : Lon) (p0m : List (MK × Int)) (p1 : Int) (p2 : Int) (r : Int × List (MK × Int)), self p0 p0m p1 p2 = some r → AC Try.prog 86 [.d (.pv (lonD p0 vp0) 0), iV p1, iV p2] [.mp vp0 (mapI Try.prog 111 2 p0m)] (fun res H' => res = [iV r.1] ∧ H' = [.mp vp0 (mapI Try.prog 111 2 r.2)])) ∧ impl_longest_behind k = self := ⟨impl_longest_behind k, fun p0 p0m p1 p2 r h => ih p0 p0m p1 p2 r h, rfl⟩
  rw [hk] at h
  clear ih hk
  refine AC_of_body true Try.func86 rfl Try.ntmps86 (rvs := [.tmp 6]) rfl rfl (fun G hG => ?_)
  have hm : G.H.length = 1 := by rw [hG]; rfl
  have hz : zeroG G.H = true := by rw [hG]; rfl
  unfold impl_longest_behind_body at h
  refine kR ?_
  refine kN 1 rfl ?_
  refine kR ?_
  refine kM 2 rfl ?_
  refine AOps_q 15 _ rfl rfl rfl (QOp_buildA _ _ _ [_, _] [0, 1] [iD p1, iD p2] _ (intsD ([0, 0] : List Int)) (intsD ([p1, p2] : List Int)) rfl rfl Try.underlying111 (zero_of Try.typeInfo111 rfl) Try.sizeOf2 (by decide) rfl (by rfl) (by rfl) (allc (ok1 rfl) (allc (ok1 rfl) (fun _ h => nomatch h)))) ?_
  refine AOps_alloc 7 _ _ (intsD ([0, 0] : List Int)) (zero_of Try.typeInfo111 rfl) (by rfl) rfl rfl rfl rfl ?_
  refine AOps_store _ _ _ _ _ _ (intsD _) _ _ rfl rfl rfl rfl rfl rfl rfl (intsD_one _) (by rw [intsD_length]; exact Try.sizeOf111) (by rw [intsD_length, intsD_length]; exact Nat.le_refl _) (ints_whole ([0, 0] : List Int) ([p1, p2] : List Int) rfl) ?_
  refine AOps_nil ?_
  refine ACode_seq ?_
  refine ACode_seq (ACode_quiet mixed (by kernel_rfl) ?_)
  refine kQ 1 rfl ?_
  refine AQ_q 18 _ rfl rfl rfl (QOp_nilCheck_pv _ _ _ rfl rfl) ?_
  refine AQ_q 19 _ rfl rfl rfl (QOp_fieldAddr_pv _ _ _ _ _ 2 _ _ rfl Try.underlying100 rfl _ Try.sizeOf98 rfl rfl) ?_
  refine AQ_q 20 _ rfl rfl rfl (QOp_load_pv _ _ _ _ _ rfl Try.isAgg98 rfl rfl) ?_
  refine AQ_q 21 _ rfl rfl rfl (QOp_loadN_ptr _ _ _ _ _ _ _ rfl Try.isAgg111 Try.sizeOf111 rfl rfl (ints_all _ rfl) (by rw [intsD_length]; exact rfl)) ?_
  obtain ⟨hc1, h⟩ := guardO h
  refine AQ_q 22 _ rfl rfl rfl (QOp_lookup keyed111_Try Try.underlying98 Try.underlying2 (fun w => by kernel_rfl) 0 _ p0m (MK.l ([p1, p2] : List Int)) _ _ _ rfl rfl rfl rfl (isKey_l _) (key111_Try hc1)) ?_
  refine kQ 5 rfl ?_
  refine AQ_nil ?_
  refine kR ?_
  refine kN 1 rfl ?_
  refine kI h rfl (fun h _ => ?_) (fun h _ => ?_)
  ·refine kR ?_
   refine kN 2 rfl ?_
   refine ACode_ret ?_
   cases h
   exact ⟨_, _, fun r a w h => ⟨r, h⟩, _, _, [], _, (.cons (ResV_tmp _ _ rfl) .nil), rfl, rfl, rfl, rfl, rfl⟩
  refine ACode_skip ?_
  refine kR ?_
  refine kN 1 rfl ?_
  refine kB (fun s14 => [(0, .d (.pv (lonD p0 vp0) 0)), (7, .ptr 1 0), (10, iV s14.1)]) (fun s14 => [.mp vp0 (mapI Try.prog 111 2 s14.2), .box (intsD ([p1, p2] : List Int))]) h (fun s14 h => ?_) (fun s14 h => ?_)
  ·obtain ⟨r3, hr3, h⟩ := bindO h
   refine ACode_seqJ (fun E' H' => Weak 65 G E' H' [(0, .d (.pv (lonD p0 vp0) 0)), (1, iV p1), (7, .ptr 1 0), (10, iV 0), (36, .vec 2 0), (37, iV (r3.length : Int)), (38, iV 0)] [.mp vp0 (mapI Try.prog 111 2 p0m), .box (intsD ([p1, p2] : List Int)), .vec 0 (intsD r3)]) ?_ ?_
   ·refine ACode_any mixed ?_
    refine AAny_q 0 27 _ rfl (by kernel_rfl) rfl rfl rfl (QOp_move _ _ rfl rfl) ?_
    refine AAny_q 1 28 _ rfl (by kernel_rfl) rfl rfl rfl (QOp_nilCheck_pv _ _ _ rfl rfl) ?_
    refine AAny_q 2 29 _ rfl (by kernel_rfl) rfl rfl rfl (QOp_fieldAddr_pv _ _ _ _ _ 0 _ _ rfl Try.underlying100 rfl _ Try.sizeOf96 rfl rfl) ?_
    refine AAny_q 3 30 _ rfl (by kernel_rfl) rfl rfl rfl (QOp_load_pv _ _ _ _ _ rfl Try.isAgg96 rfl rfl) ?_
    refine AAny_q 4 31 _ rfl (by kernel_rfl) rfl rfl rfl (QOp_move _ _ rfl rfl) ?_
    refine AAny_q 5 32 _ rfl (by kernel_rfl) rfl rfl rfl (QOp_move _ _ rfl rfl) ?_
    refine AAny_q 6 33 _ rfl (by kernel_rfl) rfl rfl rfl (QOp_nilCheck_pv _ _ _ rfl rfl) ?_
    refine AAny_q 7 34 _ rfl (by kernel_rfl) rfl rfl rfl (QOp_fieldAddr_pv _ _ _ _ _ 1 _ _ rfl Try.underlying100 rfl _ Try.sizeOf2 rfl rfl) ?_
    refine AAny_q 8 35 _ rfl (by kernel_rfl) rfl rfl rfl (QOp_load_pv _ _ _ _ _ rfl Try.isAgg2 rfl rfl) ?_
    refine AAny_q 11 38 _ rfl (by kernel_rfl) rfl rfl rfl (QOp_move _ _ rfl rfl) ?_
    refine AAny_all [9] (by kernel_rfl) rfl (allc ?_ (fun _ h => nomatch h))
    refine AStep_callN 9 36 _ _ _ _ _ _ _ _ _ rfl rfl rfl rfl rfl rfl rfl rfl Try.call76 rfl rfl rfl (impl_Colouring_neighbours_ac k p0.x p2 p0.c _ hr3) ?_
    rintro _ _ ⟨rfl, rfl⟩
    refine ⟨(allc (fun _ _ => trivial) (fun _ h => nomatch h)), (allc (trivial) (fun _ h => nomatch h)), AAny_as 36 (v' := .vec 2 0) (H' := [.mp vp0 (mapI Try.prog 111 2 p0m), .box (intsD ([p1, p2] : List Int)), .vec 0 (intsD r3)]) rfl rfl ?_⟩
    refine AAny_q 10 37 _ rfl (by kernel_rfl) rfl rfl rfl (QOp_len_vec _ _ _ _ _ _ _ _ (intsD_length _) rfl rfl rfl rfl Try.underlying34 rfl rfl) ?_
    refine AAny_done (by kernel_rfl) ?_
    exact Weak_keep 1 hm [0, 1, 7, 10, 36, 37, 38] [1, 2] _ _ rfl rfl rfl
   intro E' H' hw
   refine ACode_weak hw ?_
   refine ACode_block ?_
   refine ACode_loopW (fun k0 E H => ∃ (x4 : Int) (x5 : Int) (x6 : List (MK × Int)), E = [(0, .d (.pv (lonD p0 vp0) 0)), (1, iV p1), (7, .ptr 1 0), (10, iV x4), (36, .vec 2 0), (37, iV (r3.length : Int)), (38, iV x5)] ∧ H = [.mp vp0 (mapI Try.prog 111 2 x6), .box (intsD ([p1, p2] : List Int)), .vec 0 (intsD r3)] ∧ impl_longest_behind_l0 self p0 p1 r3 k0 x4 x5 x6 = some s14) k _ _ (Weak_keep 1 hm [0, 1, 7, 10, 36, 37, 38] [1, 2] _ _ rfl rfl rfl) ⟨_, _, _, rfl, rfl, h⟩ ?_
   clear h
   rintro k0 E H ⟨x4, x5, x6, rfl, rfl, h⟩
   cases k0 with
   | zero => cases (show (none : Option (Int × List (MK × Int))) = some _ from h)
   | succ k0 =>
    rw [impl_longest_behind_l0] at h
    refine kR ?_
    refine AOps_q 39 _ rfl rfl rfl (QOp_lss _ _ _ _ _ _ _ rfl rfl rfl) ?_
    refine AOps_nil ?_
    refine ACode_seq ?_
    refine kI h rfl (fun h _ => ?_) (fun h _ => ?_)
    ·refine ACode_skip ?_
     refine kB (fun s13 => [(0, .d (.pv (lonD p0 vp0) 0)), (1, iV p1), (7, .ptr 1 0), (10, iV s13.1), (36, .vec 2 0), (37, iV (r3.length : Int)), (38, iV x5)]) (fun s13 => [.mp vp0 (mapI Try.prog 111 2 s13.2), .box (intsD ([p1, p2] : List Int)), .vec 0 (intsD r3)]) h (fun s13 h => ?_) (fun s13 h => ?_)
     ·refine ACode_block ?_
      refine kR ?_
      obtain ⟨hc8, h⟩ := guardO h
      refine AOps_q 40 _ rfl rfl rfl (QOp_indexAddr_vec _ _ _ _ _ _ _ _ _ rfl Try.underlying34 Try.sizeOf2 hc8.1 (by rw [intsD_length]; exact hc8.2) rfl rfl rfl) ?_
      refine AOps_q 41 _ rfl rfl rfl (QOp_load_eptr _ _ _ _ _ _ _ rfl Try.isAgg2 rfl rfl (intsD_get _ _ 0 (by omega))) ?_
      refine kN 1 rfl ?_
      refine kR ?_
      refine kM 2 rfl ?_
      obtain ⟨hc9, h⟩ := guardO h
      refine AOps_q 44 _ rfl rfl rfl (QOp_shr _ _ _ _ _ _ _ _ hc9 rfl rfl rfl) ?_
      refine AOps_q 45 _ rfl rfl rfl (QOp_and _ _ _ _ _ _ _ rfl rfl rfl) ?_
      refine AOps_q 46 _ rfl rfl rfl (QOp_eql _ _ _ _ _ _ _ rfl rfl rfl) ?_
      refine AOps_nil ?_
      refine kI h rfl (fun h _ => ?_) (fun h _ => ?_)
      ·refine (ACode_region ?_)
       refine kM 4 rfl ?_
       obtain ⟨hc11, h⟩ := guardO h
       refine AOps_q 51 _ rfl rfl rfl (QOp_shl _ _ _ _ _ _ _ _ hc11 rfl rfl rfl) ?_
       refine AOps_q 52 _ rfl rfl rfl (QOp_or _ _ _ _ _ _ _ rfl rfl rfl) ?_
       refine kM 1 rfl ?_
       obtain ⟨r12, hr12, h⟩ := bindO h
       refine kC [0] 54 (iV r12.1) [.mp vp0 (mapI Try.prog 111 2 r12.2), .box (intsD ([p1, p2] : List Int)), .vec 0 (intsD r3)] rfl Try.call86 rfl rfl (hself p0 x6 (bOr .i64 p1 (bShl .i64 1 (r3.getD x5.toNat 0))) (r3.getD x5.toNat 0) _ hr12) rfl ?_
       refine AOps_q 55 _ rfl rfl rfl (QOp_add _ _ _ _ _ _ _ rfl rfl rfl) ?_
       refine AOps_q 56 _ rfl rfl rfl (QOp_max _ _ _ _ _ _ rfl rfl rfl rfl rfl) ?_
       refine kN 1 rfl ?_
       cases h
       exact Weak_keep 1 hm [0, 1, 7, 10, 36, 37, 38] [1, 2] _ _ rfl rfl rfl
      refine ACode_skip ?_
      cases h
      exact Weak_keep 1 hm [0, 1, 7, 10, 36, 37, 38] [1, 2] _ _ rfl rfl rfl
     refine (ACode_region ?_)
     refine AOps_q 57 _ rfl rfl rfl (QOp_add _ _ _ _ _ _ _ rfl rfl rfl) ?_
     refine kN 1 rfl ?_
     exact ⟨k0, _, _, Nat.lt_succ_self _, Weak_keep 1 hm [0, 1, 7, 10, 36, 37, 38] [1, 2] _ _ rfl rfl rfl, _, _, _, rfl, rfl, h⟩
    refine ACode_exit ?_
    cases h
    exact Weak_keep 1 hm [0, 7, 10] [1] _ _ rfl rfl rfl
  refine ACode_seq (ACode_last (l := [_, _, _, _, _, _]) mixed (by kernel_rfl) (by kernel_rfl) ?_)
  refine kQ 1 rfl ?_
  refine AQ_q 59 _ rfl rfl rfl (QOp_nilCheck_pv _ _ _ rfl rfl) ?_
  refine AQ_q 60 _ rfl rfl rfl (QOp_fieldAddr_pv _ _ _ _ _ 2 _ _ rfl Try.underlying100 rfl _ Try.sizeOf98 rfl rfl) ?_
  refine AQ_q 61 _ rfl rfl rfl (QOp_load_pv _ _ _ _ _ rfl Try.isAgg98 rfl rfl) ?_
  refine AQ_q 62 _ rfl rfl rfl (QOp_loadN_ptr _ _ _ _ _ _ _ rfl Try.isAgg111 Try.sizeOf111 rfl rfl (ints_all _ rfl) (by rw [intsD_length]; exact rfl)) ?_
  refine kQ 1 rfl ?_
  refine AQ_nil ?_
  obtain ⟨hc15, h⟩ := guardO h
  refine AOps_mapUpdate keyed111_Try Try.underlying98 Try.underlying2 0 _ s14.2 (MK.l ([p1, p2] : List Int)) _ s14.1 _ _ _ rfl rfl rfl rfl rfl rfl (isKey_l _) (key111_Try hc15.1) rfl hc15.2.1 hc15.2.2 ?_
  refine AOps_nil ?_
  refine kR ?_
  refine kN 2 rfl ?_
  refine ACode_ret ?_
  cases h
  exact ⟨_, _, fun r a w h => ⟨r, h⟩, _, _, [], _, (.cons (ResV_tmp _ _ rfl) .nil), rfl, rfl, rfl, rfl, rfl⟩

-- (*loop.example/g01362/impl.Colouring).path
def impl_Colouring_path_l0 (k : Nat) (p0 : Col) (p1 : Int) : Nat → Int → Int → Int → (List (MK × Int)) → Option (Int × Int × List (MK × Int))
 | 0, _, _, _, _ => none
 | k0 + 1, x2, x3, x4, x5 => (if decide (x4 < p0.p) then ((if 0 ≤ x4 then (impl_longest_behind k (⟨p0, p1⟩ : Lon) x5 (bShl .i64 1 x4) x4).bind fun r8 => (if decide (x3 < r8.1) then some (x4, r8.1, r8.2) else some (x2, x3, r8.2)) else none) : Option (Int × Int × List (MK × Int))).bind fun s10 => impl_Colouring_path_l0 k p0 p1 k0 s10.1 s10.2.1 (w64 (x4 + 1)) s10.2.2 else some (x2, x3, x5))
def impl_Colouring_path_l2 (k : Nat) (p0 : Col) (p1 : Int) (x14 : Int) (r19 : List Int) : Nat → Int → Int → (List (MK × Int)) → (List Int) → Option (Int × List (MK × Int) × List Int)
 | 0, _, _, _, _ => none
 | k2 + 1, x20, x21, x22, x23 => (if decide (x21 < (r19.length : Int)) then ((if 0 ≤ x21 ∧ x21 < (r19.length : Int) then ((if 0 ≤ (r19.getD x21.toNat 0) then (if decide (bAnd .i64 (bShr .i64 x20 (r19.getD x21.toNat 0)) 1 = 0) then (if 0 ≤ (r19.getD x21.toNat 0) then (impl_longest_behind k (⟨p0, p1⟩ : Lon) x22 (bOr .i64 x20 (bShl .i64 1 (r19.getD x21.toNat 0))) (r19.getD x21.toNat 0)).bind fun r29 => some (decide (r29.1 = w64 (x14 - 1)), r29.2) else none) else some (false, x22)) else none) : Option (Bool × List (MK × Int))).bind fun s30 => (if s30.1 then (if 0 ≤ (r19.getD x21.toNat 0) then (if x23.length + ([(r19.getD x21.toNat 0)]).length ≤ 1099511627776 then (some (bOr .i64 x20 (bShl .i64 1 (r19.getD x21.toNat 0)), s30.2, (x23 ++ ([(r19.getD x21.toNat 0)])))).bind fun rr => some (.inr rr) else none) else none) else some (.inl s30.2)) else none) : Option (Sum (List (MK × Int)) (Int × List (MK × Int) × List Int))).bind fun os34 => (match os34 with | .inl s34 => impl_Colouring_path_l2 k p0 p1 x14 r19 k2 x20 (w64 (x21 + 1)) s34 x23 | .inr rr => some rr) else some (x20, x22, x23))
def impl_Colouring_path_l1 (k : Nat) (p0 : Col) (p1 : Int) : Nat → Int → Int → (List (MK × Int)) → (List Int) → Option (List Int)
 | 0, _, _, _, _ => none
 | k1 + 1, x13, x14, x15, x16 => (if decide (0 < x14) then ((if 0 ≤ w64 ((x16.length : Int) - 1) ∧ w64 ((x16.length : Int) - 1) < (x16.length : Int) then (impl_Colouring_neighbours k p0 (x16.getD (w64 ((x16.length : Int) - 1)).toNat 0) p1).bind fun r19 => impl_Colouring_path_l2 k p0 p1 x14 r19 k x13 0 x15 x16 else none) : Option (Int × List (MK × Int) × List Int)).bind fun s35 => impl_Colouring_path_l1 k p0 p1 k1 s35.1 (w64 (x14 - 1)) s35.2.1 s35.2.2 else some x16)
def impl_Colouring_path (k : Nat) (p0 : Col) (p1 : Int) : Option (List Int) :=
 (impl_Colouring_path_l0 k p0 p1 k 0 (-1) 0 ([] : List (MK × Int)) : Option (Int × Int × List (MK × Int))).bind fun s11 => (if 0 ≤ s11.1 then (impl_Colouring_path_l1 k p0 p1 k (bShl .i64 1 s11.1) s11.2.1 s11.2.2 ([s11.1]) : Option (List Int)).bind fun s36 => some s36 else none)
set_option maxRecDepth 100000 in
theorem impl_Colouring_path_ac (k : Nat) (p0 : Col) (p1 : Int) (r : List Int) (h : impl_Colouring_path k p0 p1 = some r) : AC Try.prog 49 [.d (.pv (colD p0) 0), iV p1] [] (fun res H' => res = [.vec 0 0] ∧ H' = [.vec 0 (intsD r)]) := by
 refine AC_of_body true Try.func49 rfl Try.ntmps49 (rvs := [.tmp 4]) rfl rfl (fun G hG => ?_)
 have hm : G.H.length = 0 := by rw [hG]; rfl
 have hz : zeroG G.H = true := by rw [hG]; rfl
 unfold impl_Colouring_path at h
 refine kR ?_
 refine kN 1 rfl ?_
 refine kR ?_
 refine kM 2 rfl ?_
 refine AOps_makeMap 17 _ rfl rfl rfl rfl 111 2 (fun m1 hm1 => ?_)
 refine AOps_q 18 _ rfl rfl rfl (QOp_build _ _ [_, _, _] [0, 1, 2] [.pv (colD p0) 0, iD p1, .s m1] _ [.s (.pointer none), iD 0, .s (.map none)] (lonD (⟨p0, p1⟩ : Lon) m1) [(0, 1), (1, 1), (2, 1)] rfl rfl Try.underlying100 (zero_of Try.typeInfo100 rfl) (fun w => by simp [Try.sizeOf96, Try.sizeOf2, Try.sizeOf98]) rfl (by rfl) (lonZ_fill (⟨p0, p1⟩ : Lon) m1) (allc (ok1 rfl) (allc (ok1 rfl) (allc (ok1 hm1) (fun _ h => nomatch h))))) ?_
 refine AOps_boxI 19 _ _ (.agg (lonD (⟨p0, p1⟩ : Lon) m1)) (lonD (⟨p0, p1⟩ : Lon) m1) rfl (lonD_one _ _ hm1) rfl rfl rfl rfl rfl ?_
 refine kN 1 rfl ?_
 refine kR ?_
 refine kN 2 rfl ?_
 refine kB (fun s11 => [(0, .d (.pv (colD p0) 0)), (1, iV p1), (5, .d (.pv (lonD (⟨p0, p1⟩ : Lon) m1) 0)), (6, iV s11.1), (7, iV s11.2.1)]) (fun s11 => [.mp m1 (mapI Try.prog 111 2 s11.2.2)]) h (fun s11 h => ?_) (fun s11 h => ?_)
 ·refine kR ?_
  refine kM 1 rfl ?_
  refine AOps_q 21 _ rfl rfl rfl (QOp_nilCheck_pv _ _ _ rfl rfl) ?_
  refine AOps_q 22 _ rfl rfl rfl (QOp_fieldAddr_pv _ _ _ _ _ 0 _ _ rfl Try.underlying27 rfl _ Try.sizeOf2 rfl rfl) ?_
  refine AOps_q 23 _ rfl rfl rfl (QOp_load_pv _ _ _ _ _ rfl Try.isAgg2 rfl rfl) ?_
  refine kN 1 rfl ?_
  refine ACode_block ?_
  refine ACode_loopW (fun k0 E H => ∃ (x2 : Int) (x3 : Int) (x4 : Int) (x5 : List (MK × Int)), E = [(0, .d (.pv (colD p0) 0)), (1, iV p1), (5, .d (.pv (lonD (⟨p0, p1⟩ : Lon) m1) 0)), (6, iV x2), (7, iV x3), (23, iV p0.p), (24, iV x4)] ∧ H = [.mp m1 (mapI Try.prog 111 2 x5)] ∧ impl_Colouring_path_l0 k p0 p1 k0 x2 x3 x4 x5 = some s11) k _ _ (Weak_keep 0 hm [0, 1, 5, 6, 7, 23, 24] [0] _ _ rfl rfl rfl) ⟨_, _, _, _, rfl, rfl, h⟩ ?_
  clear h
  rintro k0 E H ⟨x2, x3, x4, x5, rfl, rfl, h⟩
  cases k0 with
  | zero => cases (show (none : Option (Int × Int × List (MK × Int))) = some _ from h)
  | succ k0 =>
   rw [impl_Colouring_path_l0] at h
   refine kR ?_
   refine AOps_q 25 _ rfl rfl rfl (QOp_lss _ _ _ _ _ _ _ rfl rfl rfl) ?_
   refine AOps_nil ?_
   refine ACode_seq ?_
   refine kI h rfl (fun h _ => ?_) (fun h _ => ?_)
   ·refine ACode_skip ?_
    refine kB (fun s10 => [(0, .d (.pv (colD p0) 0)), (1, iV p1), (5, .d (.pv (lonD (⟨p0, p1⟩ : Lon) m1) 0)), (6, iV s10.1), (7, iV s10.2.1), (23, iV p0.p), (24, iV x4)]) (fun s10 => [.mp m1 (mapI Try.prog 111 2 s10.2.2)]) h (fun s10 h => ?_) (fun s10 h => ?_)
    ·refine ACode_block ?_
     refine kR ?_
     refine kN 2 rfl ?_
     refine kR ?_
     refine kM 2 rfl ?_
     obtain ⟨hc7, h⟩ := guardO h
     refine AOps_q 29 _ rfl rfl rfl (QOp_shl _ _ _ _ _ _ _ _ hc7 rfl rfl rfl) ?_
     refine kM 1 rfl ?_
     obtain ⟨r8, hr8, h⟩ := bindO h
     refine kC [0] 31 (iV r8.1) [.mp m1 (mapI Try.prog 111 2 r8.2)] rfl Try.call86 rfl rfl (impl_longest_behind_ac k (⟨p0, p1⟩ : Lon) x5 (bShl .i64 1 x4) x4 _ hr8) rfl ?_
     refine kN 1 rfl ?_
     refine kR ?_
     refine kM 2 rfl ?_
     refine AOps_q 34 _ rfl rfl rfl (QOp_gtr _ _ _ _ _ _ _ rfl rfl rfl) ?_
     refine AOps_nil ?_
     refine kI h rfl (fun h _ => ?_) (fun h _ => ?_)
     ·refine (ACode_region ?_)
      refine kN 4 rfl ?_
      cases h
      exact Weak_keep 0 hm [0, 1, 5, 6, 7, 23, 24] [0] _ _ rfl rfl rfl
     refine ACode_skip ?_
     cases h
     exact Weak_keep 0 hm [0, 1, 5, 6, 7, 23, 24] [0] _ _ rfl rfl rfl
    refine (ACode_region ?_)
    refine AOps_q 37 _ rfl rfl rfl (QOp_add _ _ _ _ _ _ _ rfl rfl rfl) ?_
    refine kN 1 rfl ?_
    exact ⟨k0, _, _, Nat.lt_succ_self _, Weak_keep 0 hm [0, 1, 5, 6, 7, 23, 24] [0] _ _ rfl rfl rfl, _, _, _, _, rfl, rfl, h⟩
   refine ACode_exit ?_
   cases h
   exact Weak_keep 0 hm [0, 1, 5, 6, 7] [0] _ _ rfl rfl rfl
 refine ACode_seq (ACode_anyU mixed ?_)
 refine AU_u 0 38 _ rfl (by kernel_rfl) rfl rfl rfl (UOp_move _ _ rfl rfl) ?_
 refine AU_u 2 40 _ rfl (by kernel_rfl) rfl rfl rfl (UOp_move _ _ rfl rfl) ?_
 obtain ⟨hc12, h⟩ := guardO h
 refine AU_u 3 41 _ rfl (by kernel_rfl) rfl rfl rfl (UOp_shl _ _ _ _ _ _ _ _ hc12 rfl rfl rfl) ?_
 refine AU_all [1] (by kernel_rfl) rfl (allc ?_ (fun _ h => nomatch h))
 refine US_of 1 rfl rfl ?_
 refine AOps_buildSlice 39 _ _ _ [_] (intsD ([s11.1])) _ rfl rfl rfl rfl rfl (by decide) Try.underlying34 Try.sizeOf2 (zero_of Try.typeInfo2 rfl) rfl rfl (intsD_one _) ?_
 refine AOps_nil ?_
 refine AU_u 4 10 _ rfl (by kernel_rfl) rfl rfl rfl (UOp_assign _ _ rfl rfl) ?_
 refine AU_u 5 11 _ rfl (by kernel_rfl) rfl rfl rfl (UOp_assign _ _ rfl rfl) ?_
 refine AU_done (by kernel_rfl) ?_
 refine kB (fun s36 => [(10, .vec 0 0)]) (fun s36 => [.vec 0 (intsD s36)]) h (fun s36 h => ?_) (fun s36 h => ?_)
 ·refine kR ?_
  refine kN 2 rfl ?_
  refine ACode_block ?_
  refine ACode_loopW (fun k1 E H => ∃ (x13 : Int) (x14 : Int) (x15 : List (MK × Int)) (x16 : List Int), E = [(0, .d (.pv (colD p0) 0)), (1, iV p1), (5, .d (.pv (lonD (⟨p0, p1⟩ : Lon) m1) 0)), (10, .vec 1 0), (11, iV x13), (12, iV x14)] ∧ H = [.mp m1 (mapI Try.prog 111 2 x15), .vec 0 (intsD x16)] ∧ impl_Colouring_path_l1 k p0 p1 k1 x13 x14 x15 x16 = some s36) k _ _ (Weak_keep 0 hm [0, 1, 5, 10, 11, 12] [0, 1] _ _ rfl rfl rfl) ⟨_, _, _, _, rfl, rfl, h⟩ ?_
  clear h
  rintro k1 E H ⟨x13, x14, x15, x16, rfl, rfl, h⟩
  cases k1 with
  | zero => cases (show (none : Option (List Int)) = some _ from h)
  | succ k1 =>
   rw [impl_Colouring_path_l1] at h
   refine ACode_seq ?_
   refine kR ?_
   refine kM 1 rfl ?_
   refine AOps_q 44 _ rfl rfl rfl (QOp_gtr _ _ _ _ _ _ _ rfl rfl rfl) ?_
   refine AOps_nil ?_
   refine kI h rfl (fun h _ => ?_) (fun h _ => ?_)
   ·refine ACode_skip ?_
    refine kB (fun s35 => [(0, .d (.pv (colD p0) 0)), (1, iV p1), (5, .d (.pv (lonD (⟨p0, p1⟩ : Lon) m1) 0)), (10, .vec 1 0), (11, iV s35.1), (12, iV x14)]) (fun s35 => [.mp m1 (mapI Try.prog 111 2 s35.2.1), .vec 0 (intsD s35.2.2)]) h (fun s35 h => ?_) (fun s35 h => ?_)
    ·refine ACode_block ?_
     refine kR ?_
     refine kM 3 rfl ?_
     refine AOps_q 50 _ rfl rfl rfl (QOp_len_vec _ _ _ _ _ _ _ _ (intsD_length _) rfl rfl rfl rfl Try.underlying34 rfl rfl) ?_
     refine AOps_q 51 _ rfl rfl rfl (QOp_sub _ _ _ _ _ _ _ rfl rfl rfl) ?_
     obtain ⟨hc18, h⟩ := guardO h
     refine AOps_q 52 _ rfl rfl rfl (QOp_indexAddr_vec _ _ _ _ _ _ _ _ _ rfl Try.underlying34 Try.sizeOf2 hc18.1 (by rw [intsD_length]; exact hc18.2) rfl rfl rfl) ?_
     refine AOps_q 53 _ rfl rfl rfl (QOp_load_eptr _ _ _ _ _ _ _ rfl Try.isAgg2 rfl rfl (intsD_get _ _ 0 (by omega))) ?_
     refine kM 1 rfl ?_
     obtain ⟨r19, hr19, h⟩ := bindO h
     refine kC [] 55 (.vec 2 0) [.mp m1 (mapI Try.prog 111 2 x15), .vec 0 (intsD x16), .vec 0 (intsD r19)] rfl Try.call76 rfl rfl (impl_Colouring_neighbours_ac k p0 (x16.getD (w64 ((x16.length : Int) - 1)).toNat 0) p1 _ hr19) rfl ?_
     refine AOps_q 56 _ rfl rfl rfl (QOp_len_vec _ _ _ _ _ _ _ _ (intsD_length _) rfl rfl rfl rfl Try.underlying34 rfl rfl) ?_
     refine kN 1 rfl ?_
     refine ACode_block ?_
     refine ACode_loopW (fun k2 E H => ∃ (x20 : Int) (x21 : Int) (x22 : List (MK × Int)) (x23 : List Int), E = [(0, .d (.pv (colD p0) 0)), (1, iV p1), (5, .d (.pv (lonD (⟨p0, p1⟩ : Lon) m1) 0)), (10, .vec 1 0), (11, iV x20), (12, iV x14), (55, .vec 2 0), (56, iV (r19.length : Int)), (57, iV x21)] ∧ H = [.mp m1 (mapI Try.prog 111 2 x22), .vec 0 (intsD x23), .vec 0 (intsD r19)] ∧ impl_Colouring_path_l2 k p0 p1 x14 r19 k2 x20 x21 x22 x23 = some s35) k _ _ (Weak_keep 0 hm [0, 1, 5, 10, 11, 12, 55, 56, 57] [0, 1, 2] _ _ rfl rfl rfl) ⟨_, _, _, _, rfl, rfl, h⟩ ?_
     clear h
     rintro k2 E H ⟨x20, x21, x22, x23, rfl, rfl, h⟩
     cases k2 with
     | zero => cases (show (none : Option (Int × List (MK × Int) × List Int)) = some _ from h)
     | succ k2 =>
      rw [impl_Colouring_path_l2] at h
      refine kR ?_
      refine AOps_q 58 _ rfl rfl rfl (QOp_lss _ _ _ _ _ _ _ rfl rfl rfl) ?_
      refine AOps_nil ?_
      refine ACode_seq ?_
      refine kI h rfl (fun h _ => ?_) (fun h _ => ?_)
      ·refine ACode_skip ?_
       refine kO (fun s34 => [(0, .d (.pv (colD p0) 0)), (1, iV p1), (5, .d (.pv (lonD (⟨p0, p1⟩ : Lon) m1) 0)), (10, .vec 1 0), (11, iV x20), (12, iV x14), (55, .vec 2 0), (56, iV (r19.length : Int)), (57, iV x21)]) (fun s34 => [.mp m1 (mapI Try.prog 111 2 s34), .vec 0 (intsD x23), .vec 0 (intsD r19)]) h (fun os34 h hks34 => ?_) (fun s34 h => ?_)
       ·refine ACode_block ?_
        refine kR ?_
        obtain ⟨hc25, h⟩ := guardO h
        refine AOps_q 59 _ rfl rfl rfl (QOp_indexAddr_vec _ _ _ _ _ _ _ _ _ rfl Try.underlying34 Try.sizeOf2 hc25.1 (by rw [intsD_length]; exact hc25.2) rfl rfl rfl) ?_
        refine AOps_q 60 _ rfl rfl rfl (QOp_load_eptr _ _ _ _ _ _ _ rfl Try.isAgg2 rfl rfl (intsD_get _ _ 0 (by omega))) ?_
        refine kN 1 rfl ?_
        refine kB (fun s30 => [(0, .d (.pv (colD p0) 0)), (1, iV p1), (5, .d (.pv (lonD (⟨p0, p1⟩ : Lon) m1) 0)), (10, .vec 1 0), (11, iV x20), (12, iV x14), (14, iV (r19.getD x21.toNat 0)), (55, .vec 2 0), (56, iV (r19.length : Int)), (57, iV x21), (77, bV s30.1)]) (fun s30 => [.mp m1 (mapI Try.prog 111 2 s30.2), .vec 0 (intsD x23), .vec 0 (intsD r19)]) h (fun s30 h => ?_) (fun s30 h => ?_)
        ·refine (ACode_region ?_)
         refine kM 2 rfl ?_
         obtain ⟨hc26, h⟩ := guardO h
         refine AOps_q 63 _ rfl rfl rfl (QOp_shr _ _ _ _ _ _ _ _ hc26 rfl rfl rfl) ?_
         refine AOps_q 64 _ rfl rfl rfl (QOp_and _ _ _ _ _ _ _ rfl rfl rfl) ?_
         refine AOps_q 65 _ rfl rfl rfl (QOp_eql _ _ _ _ _ _ _ rfl rfl rfl) ?_
         refine kM 1 rfl ?_
         refine AOps_case 66 _ rfl (fun hb27 => ?_) (fun hb27 => ?_)
         ·have h := iteT hb27 h
          refine kM 3 rfl ?_
          obtain ⟨hc28, h⟩ := guardO h
          refine AOps_q 70 _ rfl rfl rfl (QOp_shl _ _ _ _ _ _ _ _ hc28 rfl rfl rfl) ?_
          refine AOps_q 71 _ rfl rfl rfl (QOp_or _ _ _ _ _ _ _ rfl rfl rfl) ?_
          refine kM 1 rfl ?_
          obtain ⟨r29, hr29, h⟩ := bindO h
          refine kC [0] 73 (iV r29.1) [.mp m1 (mapI Try.prog 111 2 r29.2), .vec 0 (intsD x23), .vec 0 (intsD r19)] rfl Try.call86 rfl rfl (impl_longest_behind_ac k (⟨p0, p1⟩ : Lon) x22 (bOr .i64 x20 (bShl .i64 1 (r19.getD x21.toNat 0))) (r19.getD x21.toNat 0) _ hr29) rfl ?_
          refine kM 1 rfl ?_
          refine AOps_q 75 _ rfl rfl rfl (QOp_sub _ _ _ _ _ _ _ rfl rfl rfl) ?_
          refine AOps_q 76 _ rfl rfl rfl (QOp_eql _ _ _ _ _ _ _ rfl rfl rfl) ?_
          refine kN 1 rfl ?_
          cases h
          exact Weak_keep 0 hm [0, 1, 5, 10, 11, 12, 14, 55, 56, 57, 77] [0, 1, 2] _ _ rfl rfl rfl
         have h := iteF hb27 h
         refine AOps_skip 67 rfl rfl rfl ?_
         refine AOps_skip 68 rfl rfl rfl ?_
         refine AOps_skip 69 rfl rfl rfl ?_
         refine AOps_skip 70 rfl rfl rfl ?_
         refine AOps_skip 71 rfl rfl rfl ?_
         refine AOps_skip 72 rfl rfl rfl ?_
         refine AOps_skip 73 rfl rfl rfl ?_
         refine AOps_skip 74 rfl rfl rfl ?_
         refine AOps_skip 75 rfl rfl rfl ?_
         refine AOps_skip 76 rfl rfl rfl ?_
         refine kN 1 rfl ?_
         cases h
         exact Weak_keep 0 hm [0, 1, 5, 10, 11, 12, 14, 55, 56, 57, 77] [0, 1, 2] _ _ rfl rfl rfl
        refine kI h rfl (fun h _ => ?_) (fun h _ => ?_)
        ·refine ACode_seq (ACode_anyU mixed ?_)
         refine AU_u 0 78 _ rfl (by kernel_rfl) rfl rfl rfl (UOp_move _ _ rfl rfl) ?_
         refine AU_u 1 79 _ rfl (by kernel_rfl) rfl rfl rfl (UOp_move _ _ rfl rfl) ?_
         refine AU_u 4 82 _ rfl (by kernel_rfl) rfl rfl rfl (UOp_move _ _ rfl rfl) ?_
         refine AU_u 5 83 _ rfl (by kernel_rfl) rfl rfl rfl (UOp_move _ _ rfl rfl) ?_
         obtain ⟨hc32, h⟩ := guardO h
         refine AU_u 6 84 _ rfl (by kernel_rfl) rfl rfl rfl (UOp_shl _ _ _ _ _ _ _ _ hc32 rfl rfl rfl) ?_
         refine AU_u 7 85 _ rfl (by kernel_rfl) rfl rfl rfl (UOp_or _ _ _ _ _ _ _ rfl rfl rfl) ?_
         refine AU_all [2] (by kernel_rfl) rfl (allc ?_ (fun _ h => nomatch h))
         refine US_of 2 rfl rfl ?_
         refine AOps_buildSlice 80 _ _ _ [_] (intsD ([(r19.getD x21.toNat 0)])) _ rfl rfl rfl rfl rfl (by decide) Try.underlying34 Try.sizeOf2 (zero_of Try.typeInfo2 rfl) rfl rfl (intsD_one _) ?_
         refine AOps_nil ?_
         refine AU_all [3] (by kernel_rfl) rfl (allc ?_ (fun _ h => nomatch h))
         refine US_of 3 rfl rfl ?_
         obtain ⟨hc33, h⟩ := guardO h
         refine AOps_append 81 _ _ _ _ _ _ _ _ _ _ _ _ rfl rfl rfl rfl rfl rfl rfl Try.underlying34 Try.type2 rfl rfl rfl (by decide) rfl rfl rfl rfl (intsD_one _) (by rw [intsD_length, intsD_length]; exact hc33) ?_
         rw [intsD_app]
         refine AOps_nil ?_
         refine AU_u 8 10 _ rfl (by kernel_rfl) rfl rfl rfl (UOp_assign _ _ rfl rfl) ?_
         refine AU_u 9 11 _ rfl (by kernel_rfl) rfl rfl rfl (UOp_assign _ _ rfl rfl) ?_
         refine AU_done (by kernel_rfl) ?_
         refine ACode_exit ?_
         obtain ⟨rr, hz37, h2⟩ := bindO h
         obtain rfl := Option.some.inj h2
         obtain rfl := Option.some.inj (show some rr = some _ from hks34)
         have h := hz37
         cases h
         exact Weak_trans (Weak_keep 0 hm [0, 1, 5, 10, 11, 12] [0, 1] _ _ rfl rfl rfl) (Weak_reset 0 hm hz [0, 1, 5, 10, 11, 12] _ _ rfl rfl)
        refine ACode_skip ?_
        cases h
        exact ⟨_, rfl, Weak_keep 0 hm [0, 1, 5, 10, 11, 12, 55, 56, 57] [0, 1, 2] _ _ rfl rfl rfl⟩
       refine (ACode_region ?_)
       refine AOps_q 86 _ rfl rfl rfl (QOp_add _ _ _ _ _ _ _ rfl rfl rfl) ?_
       refine kN 1 rfl ?_
       exact ⟨k2, _, _, Nat.lt_succ_self _, Weak_keep 0 hm [0, 1, 5, 10, 11, 12, 55, 56, 57] [0, 1, 2] _ _ rfl rfl rfl, _, _, _, _, rfl, rfl, h⟩
      refine ACode_exit ?_
      cases h
      exact Weak_keep 0 hm [0, 1, 5, 10, 11, 12] [0, 1] _ _ rfl rfl rfl
    refine (ACode_region ?_)
    refine kM 1 rfl ?_
    refine AOps_q 46 _ rfl rfl rfl (QOp_sub _ _ _ _ _ _ _ rfl rfl rfl) ?_
    refine kN 1 rfl ?_
    exact ⟨k1, _, _, Nat.lt_succ_self _, Weak_keep 0 hm [0, 1, 5, 10, 11, 12] [0, 1] _ _ rfl rfl rfl, _, _, _, _, rfl, rfl, h⟩
   refine ACode_exit ?_
   cases h
   exact Weak_keep 0 hm [10] [1] _ _ rfl rfl rfl
 refine kR ?_
 refine kN 2 rfl ?_
 refine ACode_ret ?_
 cases h
 exact ⟨_, _, Weak_reset 0 hm hz [4] _ _ rfl rfl, _, _, [0], _, (.cons (ResV_tmp _ _ rfl) .nil), rfl, rfl, rfl, rfl, rfl⟩

-- loop.example/g01362/impl.size[int64]
def impl_size (p0 : List Int) : Int :=
 (p0.length : Int)
set_option maxRecDepth 100000 in
theorem impl_size_ac (p0 : List Int) : AC Try.prog 48 [.d (.sl none (intsD p0))] [] (fun res H' => res = [iV (impl_size p0)] ∧ H' = []) := by
 refine AC_of_body true Try.func48 rfl Try.ntmps48 (rvs := [.tmp 2]) rfl rfl (fun G hG => ?_)
 have hm : G.H.length = 0 := by rw [hG]; rfl
 have hz : zeroG G.H = true := by rw [hG]; rfl
 obtain ⟨r, h⟩ : ∃ r, impl_size p0 = r := ⟨_, rfl⟩
 rw [h]
 unfold impl_size at h
 refine kR ?_
 refine kN 1 rfl ?_
 refine kR ?_
 refine kM 1 rfl ?_
 refine AOps_q 4 _ rfl rfl rfl (QOp_len_sl _ _ _ _ _ _ _ (intsD_length _) rfl rfl rfl rfl Try.underlying34 rfl) ?_
 refine kN 1 rfl ?_
 refine ACode_ret ?_
 cases h
 exact ⟨_, _, fun r a w h => ⟨r, h⟩, _, _, [], _, (.cons (ResV_tmp _ _ rfl) .nil), rfl, rfl, rfl, rfl, rfl⟩

-- slices.Index[[]int64,int64]
def slices_Index_l0 (p0 : List Int) (p1 : Int) : Nat → Int → Option (Sum (Unit) (Int))
 | 0, _ => none
 | k0 + 1, x1 => (if decide (x1 < (p0.length : Int)) then (if 0 ≤ x1 ∧ x1 < (p0.length : Int) then (if decide (p1 = (p0.getD x1.toNat 0)) then some (.inr x1) else slices_Index_l0 p0 p1 k0 (w64 (x1 + 1))) else none) else some (.inl ()))
def slices_Index (k : Nat) (p0 : List Int) (p1 : Int) : Option (Int) :=
 (slices_Index_l0 p0 p1 k 0 : Option (Sum (Unit) (Int))).bind fun os5 => (match os5 with | .inl s5 => some (-1) | .inr rr => some rr)
set_option maxRecDepth 100000 in
theorem slices_Index_ac (k : Nat) (p0 : List Int) (p1 : Int) (r : Int) (h : slices_Index k p0 p1 = some r) : AC Try.prog 105 [.d (.sl none (intsD p0)), iV p1] [] (fun res H' => res = [iV r] ∧ H' = []) := by
 refine AC_of_body true Try.func105 rfl Try.ntmps105 (rvs := [.tmp 4]) rfl rfl (fun G hG => ?_)
 have hm : G.H.length = 0 := by rw [hG]; rfl
 have hz : zeroG G.H = true := by rw [hG]; rfl
 unfold slices_Index at h
 refine kR ?_
 refine kN 1 rfl ?_
 refine kO (fun s5 => []) (fun s5 => []) h (fun os5 h hks5 => ?_) (fun s5 h => ?_)
 ·refine kR ?_
  refine kM 1 rfl ?_
  refine AOps_q 7 _ rfl rfl rfl (QOp_len_sl _ _ _ _ _ _ _ (intsD_length _) rfl rfl rfl rfl Try.underlying34 rfl) ?_
  refine kN 1 rfl ?_
  refine ACode_block ?_
  refine ACode_loopW (fun k0 E H => ∃ (x1 : Int), E = [(0, .d (.sl none (intsD p0))), (1, iV p1), (7, iV (p0.length : Int)), (8, iV x1)] ∧ H = [] ∧ slices_Index_l0 p0 p1 k0 x1 = some os5) k _ _ (Weak_keep 0 hm [0, 1, 7, 8] [] _ _ rfl rfl rfl) ⟨_, rfl, rfl, h⟩ ?_
  clear h
  rintro k0 E H ⟨x1, rfl, rfl, h⟩
  cases k0 with
  | zero => cases (show (none : Option (Sum (Unit) (Int))) = some _ from h)
  | succ k0 =>
   rw [slices_Index_l0] at h
   refine kR ?_
   refine AOps_q 9 _ rfl rfl rfl (QOp_lss _ _ _ _ _ _ _ rfl rfl rfl) ?_
   refine AOps_nil ?_
   refine ACode_seq ?_
   refine kI h rfl (fun h _ => ?_) (fun h _ => ?_)
   ·refine ACode_skip ?_
    refine ACode_seq ?_
    refine ACode_block ?_
    refine kR ?_
    refine kN 2 rfl ?_
    refine kR ?_
    refine kM 3 rfl ?_
    obtain ⟨hc3, h⟩ := guardO h
    refine AOps_q 14 _ rfl rfl rfl (QOp_indexAddr_sl _ _ _ _ _ _ _ _ rfl Try.underlying34 Try.sizeOf2 hc3.1 (by rw [intsD_length]; exact hc3.2) rfl rfl) ?_
    refine AOps_q 15 _ rfl rfl rfl (QOp_load_pv _ _ _ _ _ rfl Try.isAgg2 rfl (intsD_get _ _ 0 (by omega))) ?_
    refine AOps_q 16 _ rfl rfl rfl (QOp_eql _ _ _ _ _ _ _ rfl rfl rfl) ?_
    refine AOps_nil ?_
    refine kI h rfl (fun h _ => ?_) (fun h _ => ?_)
    ·refine kR ?_
     refine kN 2 rfl ?_
     refine ACode_ret ?_
     cases h
     have h := hks5
     cases h
     exact ⟨_, _, fun r a w h => ⟨r, h⟩, _, _, [], _, (.cons (ResV_tmp _ _ rfl) .nil), rfl, rfl, rfl, rfl, rfl⟩
    refine ACode_skip ?_
    refine (ACode_region ?_)
    refine AOps_q 18 _ rfl rfl rfl (QOp_add _ _ _ _ _ _ _ rfl rfl rfl) ?_
    refine kN 1 rfl ?_
    exact ⟨k0, _, _, Nat.lt_succ_self _, Weak_keep 0 hm [0, 1, 7, 8] [] _ _ rfl rfl rfl, _, rfl, rfl, h⟩
   refine ACode_exit ?_
   cases h
   exact ⟨_, rfl, Weak_keep 0 hm [] [] _ _ rfl rfl rfl⟩
 refine kR ?_
 refine kN 1 rfl ?_
 refine ACode_ret ?_
 cases h
 exact ⟨_, _, fun r a w h => ⟨r, h⟩, _, _, [], _, (.cons (ResV_tmp _ _ rfl) .nil), rfl, rfl, rfl, rfl, rfl⟩

-- slices.Contains[[]int64,int64]
def slices_Contains (k : Nat) (p0 : List Int) (p1 : Int) : Option (Bool) :=
 (slices_Index k p0 p1).bind fun r1 => some (decide (0 ≤ r1))
set_option maxRecDepth 100000 in
theorem slices_Contains_ac (k : Nat) (p0 : List Int) (p1 : Int) (r : Bool) (h : slices_Contains k p0 p1 = some r) : AC Try.prog 99 [.d (.sl none (intsD p0)), iV p1] [] (fun res H' => res = [bV r] ∧ H' = []) := by
 refine AC_of_body true Try.func99 rfl Try.ntmps99 (rvs := [.tmp 4]) rfl rfl (fun G hG => ?_)
 have hm : G.H.length = 0 := by rw [hG]; rfl
 have hz : zeroG G.H = true := by rw [hG]; rfl
 unfold slices_Contains at h
 refine kR ?_
 refine kN 1 rfl ?_
 refine kR ?_
 refine kM 2 rfl ?_
 obtain ⟨r1, hr1, h⟩ := bindO h
 refine kC [] 7 (iV r1) [] rfl Try.call105 rfl rfl (slices_Index_ac k p0 p1 _ hr1) rfl ?_
 refine AOps_q 8 _ rfl rfl rfl (QOp_geq _ _ _ _ _ _ _ rfl rfl rfl) ?_
 refine kN 1 rfl ?_
 refine ACode_ret ?_
 cases h
 exact ⟨_, _, fun r a w h => ⟨r, h⟩, _, _, [], _, (.cons (ResV_tmp _ _ rfl) .nil), rfl, rfl, rfl, rfl, rfl⟩

-- (*loop.example/g01362/impl.Colouring).cycle
def impl_Colouring_cycle_l0 (k : Nat) (self : Col → Int → Int → (List Int) → Nat → Option (Option Nat × List Int)) (p0 : Col) (p1 : Int) (p2 : Int) (p3 : List Int) (p3n : Nat) : Nat → Int → (List Int) → Option (Sum (List Int) (Option Nat × List Int))
 | 0, _, _ => none
 | k0 + 1, x12, x13 => (if decide (x12 < p0.p) then (((slices_Contains k ((x13.drop 0).take p3n) x12).bind fun r15 => (if !r15 then (impl_Colouring_joins p0 (p3.getD (0 + (w64 (((p3n : Nat) : Int) - 1)).toNat) 0) x12 p1).bind fun r17 => some r17 else some false) : Option (Bool)).bind fun s18 => (if s18 then (if 0 + p3n + ([x12]).length ≤ x13.length ∧ 1 ≤ ([x12]).length then (self p0 p1 p2 (splicedL x13 (0 + p3n) (([x12]).length) ([x12])) (p3n + ([x12]).length)).bind fun r21 => (match r21.1 with | none => some (.inl r21.2) | some l22 => (some (.inr (some l22, r21.2))).bind fun rr => some (.inr rr)) else none) else some (.inl x13)) : Option (Sum (List Int) (Sum (List Int) (Option Nat × List Int)))).bind fun os24 => (match os24 with | .inl s24 => impl_Colouring_cycle_l0 k self p0 p1 p2 p3 p3n k0 (w64 (x12 + 1)) s24 | .inr rr => some rr) else some (.inl x13))
def impl_Colouring_cycle_body (self : Col → Int → Int → (List Int) → Nat → Option (Option Nat × List Int)) (k : Nat) (p0 : Col) (p1 : Int) (p2 : Int) (p3 : List Int) (p3n : Nat) : Option (Option Nat × List Int) :=
 (if 0 ≤ w64 (((p3n : Nat) : Int) - 1) ∧ w64 (((p3n : Nat) : Int) - 1) < ((p3n : Nat) : Int) ∧ 0 + p3n ≤ p3.length then (if decide ((impl_size ((p3.drop 0).take p3n)) = p2) then (((if 0 ≤ (0 : Int) ∧ (0 : Int) < ((p3n : Nat) : Int) ∧ 0 + p3n ≤ p3.length then (impl_Colouring_joins p0 (p3.getD (0 + (0 : Int).toNat) 0) (p3.getD (0 + (w64 (((p3n : Nat) : Int) - 1)).toNat) 0) p1).bind fun r5 => (if r5 then (if 0 ≤ (1 : Int) ∧ (1 : Int) < ((p3n : Nat) : Int) ∧ 0 + p3n ≤ p3.length then some (decide ((p3.getD (0 + (1 : Int).toNat) 0) < (p3.getD (0 + (w64 (((p3n : Nat) : Int) - 1)).toNat) 0))) else none) else some false) else none) : Option (Bool)).bind fun s8 => (if s8 then some (.inr (some p3n, p3)) else some (.inl ())) : Option (Sum (Unit) (Option Nat × List Int))).bind fun os10 => (match os10 with | .inl s10 => some (none, p3) | .inr rr => some rr) else ((if 0 ≤ (0 : Int) ∧ (0 : Int) < ((p3n : Nat) : Int) ∧ 0 + p3n ≤ p3.length then impl_Colouring_cycle_l0 k self p0 p1 p2 p3 p3n k (w64 ((p3.getD (0 + (0 : Int).toNat) 0) + 1)) p3 else none) : Option (Sum (List Int) (Option Nat × List Int))).bind fun os25 => (match os25 with | .inl s25 => some (none, s25) | .inr rr => some rr)) else none)
def impl_Colouring_cycle : Nat → Col → Int → Int → (List Int) → Nat → Option (Option Nat × List Int)
 | 0, _, _, _, _, _ => none
 | k + 1, p0, p1, p2, p3, p3n => impl_Colouring_cycle_body (impl_Colouring_cycle k) k p0 p1 p2 p3 p3n
set_option maxRecDepth 100000 in
theorem impl_Colouring_cycle_ac (k : Nat) (p0 : Col) (p1 : Int) (p2 : Int) (p3 : List Int) (p3n : Nat) (r : Option Nat × List Int) (h : impl_Colouring_cycle k p0 p1 p2 p3 p3n = some r) : AC Try.prog 87 [.d (.pv (colD p0) 0), iV p1, iV p2, .part 0 0 0 p3n] [.vec 0 (intsD p3)] (fun res H' => res = [bufA 0 r.1] ∧ H' = [.vec 0 (intsD r.2)]) := by
 induction k generalizing p0 p1 p2 p3 p3n r with
 | zero => simp [impl_Colouring_cycle] at h
 | succ k ih =>
  rw [impl_Colouring_cycle] at h
  obtain ⟨self, hself, hk⟩ : ∃ self : Col → Int → Int → (List Int) → Nat → Option (Option Nat × List Int), (∀ (p0 : Col) (p1 : Int) (p2 : Int) (p3 : List Int) (p3n : Nat) (r : Option Nat × List Int), self p0 p1 p2 p3 p3n = some r → AC Try.prog 87 [.d (.pv (colD p0) 0), iV p1, iV p2, .part 0 0 0 p3n] [.vec 0 (intsD p3)] (fun res H' => res = [bufA 0 r.1] ∧ H' = [.vec 0 (intsD r.2)])) ∧ impl_Colouring_cycle k = self := ⟨impl_Colouring_cycle k, fun p0 p1 p2 p3 p3n r h => ih p0 p1 p2 p3 p3n r h, rfl⟩
  rw [hk] at h
  clear ih hk
  refine AC_of_body false Try.func87 rfl Try.ntmps87 (rvs := [.tmp 8]) rfl rfl (fun G hG => ?_)
  have hm : G.H.length = 1 := by rw [hG]; rfl
  have hz : zeroG G.H = true := by rw [hG]; rfl
  unfold impl_Colouring_cycle_body at h
  refine kR ?_
  refine kN 1 rfl ?_
  refine kR ?_
  refine kM 2 rfl ?_
  refine AOps_q 14 _ rfl rfl rfl (QOp_len_part _ _ _ _ _ _ _ _ _ _ rfl rfl rfl rfl Try.underlying34 rfl rfl rfl) ?_
  refine AOps_q 15 _ rfl rfl rfl (QOp_sub _ _ _ _ _ _ _ rfl rfl rfl) ?_
  obtain ⟨hc1, h⟩ := guardO h
  refine AOps_q 16 _ rfl rfl rfl (QOp_indexAddr_part _ _ _ _ _ _ _ _ _ _ _ _ rfl Try.underlying34 Try.sizeOf2 hc1.1 hc1.2.1 rfl rfl rfl rfl) ?_
  refine AOps_q 17 _ rfl rfl rfl (QOp_load_eptr _ _ _ _ _ _ _ rfl Try.isAgg2 rfl rfl (intsD_get _ _ 0 (by omega))) ?_
  refine kN 1 rfl ?_
  refine ACode_seq ?_
  refine kR ?_
  refine kM 1 rfl ?_
  refine AOps_callL [] 19 _ _ _ _ _ _ _ _ _ _ rfl rfl rfl rfl rfl rfl rfl Try.call48 rfl (nodupB_sound _ rfl) rfl rfl rfl (by have q := impl_size_ac ((p3.drop 0).take p3n); simp only [intsD_dt] at q; exact q) ?_
  rintro _ _ ⟨rfl, rfl⟩
  refine ⟨(fun _ h => nomatch h), (allc (flat_s _) (fun _ h => nomatch h)), AOps_as 19 (v' := iV (impl_size ((p3.drop 0).take p3n))) (H' := [.vec 0 (intsD p3)]) rfl rfl ?_⟩
  refine kM 1 rfl ?_
  refine AOps_q 21 _ rfl rfl rfl (QOp_eql _ _ _ _ _ _ _ rfl rfl rfl) ?_
  refine AOps_nil ?_
  refine kI h rfl (fun h _ => ?_) (fun h _ => ?_)
  ·refine kO (fun s10 => []) (fun s10 => [.vec 0 (intsD p3)]) h (fun os10 h hks10 => ?_) (fun s10 h => ?_)
   ·refine kB (fun s8 => [(3, .part 0 0 0 p3n), (35, bV s8)]) (fun s8 => [.vec 0 (intsD p3)]) h (fun s8 h => ?_) (fun s8 h => ?_)
    ·refine (ACode_region ?_)
     refine kM 2 rfl ?_
     obtain ⟨hc4, h⟩ := guardO h
     refine AOps_q 24 _ rfl rfl rfl (QOp_indexAddr_part _ _ _ _ _ _ _ _ _ _ _ _ rfl Try.underlying34 Try.sizeOf2 hc4.1 hc4.2.1 rfl rfl rfl rfl) ?_
     refine AOps_q 25 _ rfl rfl rfl (QOp_load_eptr _ _ _ _ _ _ _ rfl Try.isAgg2 rfl rfl (intsD_get _ _ 0 (by omega))) ?_
     refine kM 2 rfl ?_
     obtain ⟨r5, hr5, h⟩ := bindO h
     refine kC [] 28 (bV r5) [.vec 0 (intsD p3)] rfl Try.call73 rfl rfl (impl_Colouring_joins_ac p0 (p3.getD (0 + (0 : Int).toNat) 0) (p3.getD (0 + (w64 (((p3n : Nat) : Int) - 1)).toNat) 0) p1 _ hr5) rfl ?_
     refine kM 1 rfl ?_
     refine AOps_case 29 _ rfl (fun hb6 => ?_) (fun hb6 => ?_)
     ·have h := iteT hb6 h
      refine kM 1 rfl ?_
      obtain ⟨hc7, h⟩ := guardO h
      refine AOps_q 31 _ rfl rfl rfl (QOp_indexAddr_part _ _ _ _ _ _ _ _ _ _ _ _ rfl Try.underlying34 Try.sizeOf2 hc7.1 hc7.2.1 rfl rfl rfl rfl) ?_
      refine AOps_q 32 _ rfl rfl rfl (QOp_load_eptr _ _ _ _ _ _ _ rfl Try.isAgg2 rfl rfl (intsD_get _ _ 0 (by omega))) ?_
      refine kM 1 rfl ?_
      refine AOps_q 34 _ rfl rfl rfl (QOp_lss _ _ _ _ _ _ _ rfl rfl rfl) ?_
      refine kN 1 rfl ?_
      cases h
      exact Weak_keep 1 hm [3, 35] [] _ _ rfl rfl rfl
     have h := iteF hb6 h
     refine AOps_skip 30 rfl rfl rfl ?_
     refine AOps_skip 31 rfl rfl rfl ?_
     refine AOps_skip 32 rfl rfl rfl ?_
     refine AOps_skip 33 rfl rfl rfl ?_
     refine AOps_skip 34 rfl rfl rfl ?_
     refine kN 1 rfl ?_
     cases h
     exact Weak_keep 1 hm [3, 35] [] _ _ rfl rfl rfl
    refine kI h rfl (fun h _ => ?_) (fun h _ => ?_)
    ·refine kR ?_
     refine kN 2 rfl ?_
     refine ACode_ret ?_
     cases h
     have h := hks10
     cases h
     exact ⟨_, _, fun r a w h => ⟨r, h⟩, _, _, [], _, (.cons (ResV_tmp _ _ rfl) .nil), rfl, rfl, rfl, rfl, rfl⟩
    refine ACode_skip ?_
    cases h
    exact ⟨_, rfl, Weak_keep 1 hm [] [] _ _ rfl rfl rfl⟩
   refine kR ?_
   refine kN 1 rfl ?_
   refine ACode_ret ?_
   cases h
   exact ⟨_, _, fun r a w h => ⟨r, h⟩, _, _, [], _, (.cons (ResV_tmp _ _ rfl) .nil), rfl, rfl, rfl, rfl, rfl⟩
  refine ACode_skip ?_
  refine kO (fun s25 => []) (fun s25 => [.vec 0 (intsD s25)]) h (fun os25 h hks25 => ?_) (fun s25 h => ?_)
  ·refine kR ?_
   refine kM 1 rfl ?_
   obtain ⟨hc11, h⟩ := guardO h
   refine AOps_q 38 _ rfl rfl rfl (QOp_indexAddr_part _ _ _ _ _ _ _ _ _ _ _ _ rfl Try.underlying34 Try.sizeOf2 hc11.1 hc11.2.1 rfl rfl rfl rfl) ?_
   refine AOps_q 39 _ rfl rfl rfl (QOp_load_eptr _ _ _ _ _ _ _ rfl Try.isAgg2 rfl rfl (intsD_get _ _ 0 (by omega))) ?_
   refine AOps_q 40 _ rfl rfl rfl (QOp_add _ _ _ _ _ _ _ rfl rfl rfl) ?_
   refine kN 1 rfl ?_
   refine ACode_block ?_
   refine ACode_loopW (fun k0 E H => ∃ (x12 : Int) (x13 : List Int), E = [(0, .d (.pv (colD p0) 0)), (1, iV p1), (2, iV p2), (3, .part 0 0 0 p3n), (9, iV (p3.getD (0 + (w64 (((p3n : Nat) : Int) - 1)).toNat) 0)), (10, iV x12)] ∧ H = [.vec 0 (intsD x13)] ∧ impl_Colouring_cycle_l0 k self p0 p1 p2 p3 p3n k0 x12 x13 = some os25) k _ _ (Weak_keep 1 hm [0, 1, 2, 3, 9, 10] [] _ _ rfl rfl rfl) ⟨_, _, rfl, rfl, h⟩ ?_
   clear h
   rintro k0 E H ⟨x12, x13, rfl, rfl, h⟩
   cases k0 with
   | zero => cases (show (none : Option (Sum (List Int) (Option Nat × List Int))) = some _ from h)
   | succ k0 =>
    rw [impl_Colouring_cycle_l0] at h
    refine ACode_seq ?_
    refine kR ?_
    refine kM 2 rfl ?_
    refine AOps_q 43 _ rfl rfl rfl (QOp_nilCheck_pv _ _ _ rfl rfl) ?_
    refine AOps_q 44 _ rfl rfl rfl (QOp_fieldAddr_pv _ _ _ _ _ 0 _ _ rfl Try.underlying27 rfl _ Try.sizeOf2 rfl rfl) ?_
    refine AOps_q 45 _ rfl rfl rfl (QOp_load_pv _ _ _ _ _ rfl Try.isAgg2 rfl rfl) ?_
    refine AOps_q 46 _ rfl rfl rfl (QOp_lss _ _ _ _ _ _ _ rfl rfl rfl) ?_
    refine AOps_nil ?_
    refine kI h rfl (fun h _ => ?_) (fun h _ => ?_)
    ·refine ACode_skip ?_
     refine kO (fun s24 => [(0, .d (.pv (colD p0) 0)), (1, iV p1), (2, iV p2), (3, .part 0 0 0 p3n), (9, iV (p3.getD (0 + (w64 (((p3n : Nat) : Int) - 1)).toNat) 0)), (10, iV x12)]) (fun s24 => [.vec 0 (intsD s24)]) h (fun os24 h hks24 => ?_) (fun s24 h => ?_)
     ·refine ACode_block ?_
      refine kB (fun s18 => [(0, .d (.pv (colD p0) 0)), (1, iV p1), (2, iV p2), (3, .part 0 0 0 p3n), (9, iV (p3.getD (0 + (w64 (((p3n : Nat) : Int) - 1)).toNat) 0)), (10, iV x12), (59, bV s18)]) (fun s18 => [.vec 0 (intsD x13)]) h (fun s18 h => ?_) (fun s18 h => ?_)
      ·refine (ACode_region ?_)
       refine kM 2 rfl ?_
       obtain ⟨r15, hr15, h⟩ := bindO h
       refine AOps_callL [] 51 _ _ _ _ _ _ _ _ _ _ rfl rfl rfl rfl rfl rfl rfl Try.call99 rfl (nodupB_sound _ rfl) rfl rfl rfl (by have q := slices_Contains_ac k ((x13.drop 0).take p3n) x12 _ hr15; simp only [intsD_dt] at q; exact q) ?_
       rintro _ _ ⟨rfl, rfl⟩
       refine ⟨(fun _ h => nomatch h), (allc (flat_s _) (fun _ h => nomatch h)), AOps_as 51 (v' := bV r15) (H' := [.vec 0 (intsD x13)]) rfl rfl ?_⟩
       refine AOps_q 52 _ rfl rfl rfl (QOp_not _ _ _ rfl rfl) ?_
       refine kM 1 rfl ?_
       refine AOps_case 53 _ rfl (fun hb16 => ?_) (fun hb16 => ?_)
       ·have h := iteT hb16 h
        refine kM 4 rfl ?_
        obtain ⟨r17, hr17, h⟩ := bindO h
        refine kC [] 58 (bV r17) [.vec 0 (intsD x13)] rfl Try.call73 rfl rfl (impl_Colouring_joins_ac p0 (p3.getD (0 + (w64 (((p3n : Nat) : Int) - 1)).toNat) 0) x12 p1 _ hr17) rfl ?_
        refine kN 1 rfl ?_
        cases h
        exact Weak_keep 1 hm [0, 1, 2, 3, 9, 10, 59] [] _ _ rfl rfl rfl
       have h := iteF hb16 h
       refine AOps_skip 54 rfl rfl rfl ?_
       refine AOps_skip 55 rfl rfl rfl ?_
       refine AOps_skip 56 rfl rfl rfl ?_
       refine AOps_skip 57 rfl rfl rfl ?_
       refine AOps_skip 58 rfl rfl rfl ?_
       refine kN 1 rfl ?_
       cases h
       exact Weak_keep 1 hm [0, 1, 2, 3, 9, 10, 59] [] _ _ rfl rfl rfl
      refine kI h rfl (fun h _ => ?_) (fun h _ => ?_)
      ·refine kR ?_
       refine kM 5 rfl ?_
       refine AOps_buildSlice 65 _ _ _ [_] (intsD ([x12])) _ rfl rfl rfl rfl rfl (by decide) Try.underlying34 Try.sizeOf2 (zero_of Try.typeInfo2 rfl) rfl rfl (intsD_one _) ?_
       obtain ⟨hc20, h⟩ := guardO h
       refine AOps_append_part 66 _ _ _ _ _ 0 0 0 p3n (p3n + ([x12]).length) _ (intsD x13) (intsD ([x12])) _ rfl rfl rfl rfl rfl rfl rfl Try.underlying34 Try.type2 rfl rfl rfl rfl rfl (intsD_one _) (by rw [intsD_length]; exact hc20.2) (by rw [intsD_length, intsD_length]; exact hc20.1) (by rw [intsD_length]) ?_
       rw [intsD_length, intsD_spl]
       obtain ⟨r21, hr21, h⟩ := bindO h
       refine AOps_call [0] 67 _ _ _ _ _ _ _ _ _ _ rfl rfl rfl rfl rfl rfl rfl Try.call87 rfl (nodupB_sound _ rfl) rfl rfl rfl (hself p0 p1 p2 (splicedL x13 (0 + p3n) (([x12]).length) ([x12])) (p3n + ([x12]).length) _ hr21) ?_
       revert h
       cases hx23 : r21.1 with
       | none =>
        intro h
        rintro _ _ ⟨rfl, rfl⟩
        refine ⟨(allc (fun _ _ => trivial) (fun _ h => nomatch h)), (allc (trivial) (fun _ h => nomatch h)), AOps_as 67 (v' := .d (.sl (some true) [])) (H' := [.vec 0 (intsD r21.2), .vec 0 (intsD ([x12]))]) rfl rfl ?_⟩
        refine kN 1 rfl ?_
        refine kR ?_
        refine kM 1 rfl ?_
        refine AOps_q 69 _ rfl rfl rfl (QOp_isnilN _ _ _ _ _ _ _ rfl rfl rfl Try.underlying34) ?_
        refine AOps_nil ?_
        refine ACode_condF rfl ?_
        refine ACode_skip ?_
        cases h
        exact ⟨_, rfl, Weak_keep 1 hm [0, 1, 2, 3, 9, 10] [] _ _ rfl rfl rfl⟩
       | some l22 =>
        intro h
        rintro _ _ ⟨rfl, rfl⟩
        refine ⟨(allc (fun _ _ => trivial) (fun _ h => nomatch h)), (allc (trivial) (fun _ h => nomatch h)), AOps_as 67 (v' := .part 0 0 0 l22) (H' := [.vec 0 (intsD r21.2), .vec 0 (intsD ([x12]))]) rfl rfl ?_⟩
        refine kN 1 rfl ?_
        refine kR ?_
        refine kM 1 rfl ?_
        refine AOps_q 69 _ rfl rfl rfl (QOp_partnilN _ _ _ _ _ _ _ _ _ _ rfl rfl rfl rfl Try.underlying34) ?_
        refine AOps_nil ?_
        refine ACode_condT rfl ?_
        refine kR ?_
        refine kN 2 rfl ?_
        refine ACode_ret ?_
        obtain ⟨rr, hz26, h2⟩ := bindO h
        obtain rfl := Option.some.inj h2
        obtain rfl := Option.some.inj (show some rr = some _ from hks24)
        have h := hz26
        cases h
        have h := hks25
        cases h
        exact ⟨_, _, fun r a w h => ⟨r, h⟩, _, _, [], _, (.cons (ResV_tmp _ _ rfl) .nil), rfl, rfl, rfl, rfl, rfl⟩
      refine ACode_skip ?_
      cases h
      exact ⟨_, rfl, Weak_keep 1 hm [0, 1, 2, 3, 9, 10] [] _ _ rfl rfl rfl⟩
     refine (ACode_region ?_)
     refine kM 1 rfl ?_
     refine AOps_q 48 _ rfl rfl rfl (QOp_add _ _ _ _ _ _ _ rfl rfl rfl) ?_
     refine kN 1 rfl ?_
     exact ⟨k0, _, _, Nat.lt_succ_self _, Weak_keep 1 hm [0, 1, 2, 3, 9, 10] [] _ _ rfl rfl rfl, _, _, rfl, rfl, h⟩
    refine ACode_exit ?_
    cases h
    exact ⟨_, rfl, Weak_keep 1 hm [] [] _ _ rfl rfl rfl⟩
  refine kR ?_
  refine kN 1 rfl ?_
  refine ACode_ret ?_
  cases h
  exact ⟨_, _, fun r a w h => ⟨r, h⟩, _, _, [], _, (.cons (ResV_tmp _ _ rfl) .nil), rfl, rfl, rfl, rfl, rfl⟩

-- (*loop.example/g01362/impl.Colouring).firstCycle
def impl_Colouring_firstCycle_l0 (k : Nat) (p0 : Col) (p1 : Int) (p2 : Int) : Nat → Int → Option (Sum (Unit) (Option (List Int)))
 | 0, _ => none
 | k0 + 1, x2 => (if decide (x2 < w64 ((w64 (p0.p - p2)) + 1)) then (if 0 + 0 + ([x2]).length ≤ (List.replicate 17 (0 : Int)).length ∧ 1 ≤ ([x2]).length then (impl_Colouring_cycle k p0 p1 p2 (splicedL (List.replicate 17 (0 : Int)) (0 + 0) (([x2]).length) ([x2])) (0 + ([x2]).length)).bind fun r6 => (match r6.1 with | none => impl_Colouring_firstCycle_l0 k p0 p1 p2 k0 (w64 (x2 + 1)) | some l7 => ((if l7 ≤ r6.2.length ∧ 0 < r6.2.length then some (some (r6.2.take l7)) else none)).bind fun rr => some (.inr rr)) else none) else some (.inl ()))
def impl_Colouring_firstCycle (k : Nat) (p0 : Col) (p1 : Int) (p2 : Int) : Option (Option (List Int)) :=
 (if decide (p2 < 3) then some none else (impl_Colouring_firstCycle_l0 k p0 p1 p2 k 0 : Option (Sum (Unit) (Option (List Int)))).bind fun os9 => (match os9 with | .inl s9 => some none | .inr rr => some rr))
set_option maxRecDepth 100000 in
theorem impl_Colouring_firstCycle_ac (k : Nat) (p0 : Col) (p1 : Int) (p2 : Int) (r : Option (List Int)) (h : impl_Colouring_firstCycle k p0 p1 p2 = some r) : AC Try.prog 50 [.d (.pv (colD p0) 0), iV p1, iV p2] [] (fun res H' => res = [ownA 0 (r.map intsD)] ∧ H' = [] ++ ownH (r.map intsD)) := by
 refine AC_of_body false Try.func50 rfl Try.ntmps50 (rvs := [.tmp 6]) rfl rfl (fun G hG => ?_)
 have hm : G.H.length = 0 := by rw [hG]; rfl
 have hz : zeroG G.H = true := by rw [hG]; rfl
 unfold impl_Colouring_firstCycle at h
 refine kR ?_
 refine kN 1 rfl ?_
 refine ACode_seq ?_
 refine kR ?_
 refine kM 1 rfl ?_
 refine AOps_q 10 _ rfl rfl rfl (QOp_lss _ _ _ _ _ _ _ rfl rfl rfl) ?_
 refine AOps_nil ?_
 refine kI h rfl (fun h _ => ?_) (fun h _ => ?_)
 ·refine kR ?_
  refine kN 1 rfl ?_
  refine ACode_ret ?_
  cases h
  exact ⟨_, _, fun r a w h => ⟨r, h⟩, _, _, [], _, (.cons (ResV_tmp _ _ rfl) .nil), rfl, rfl, rfl, rfl, rfl⟩
 refine ACode_skip ?_
 refine kO (fun s9 => []) (fun s9 => []) h (fun os9 h hks9 => ?_) (fun s9 h => ?_)
 ·refine kR ?_
  refine kM 1 rfl ?_
  refine AOps_q 12 _ rfl rfl rfl (QOp_nilCheck_pv _ _ _ rfl rfl) ?_
  refine AOps_q 13 _ rfl rfl rfl (QOp_fieldAddr_pv _ _ _ _ _ 0 _ _ rfl Try.underlying27 rfl _ Try.sizeOf2 rfl rfl) ?_
  refine AOps_q 14 _ rfl rfl rfl (QOp_load_pv _ _ _ _ _ rfl Try.isAgg2 rfl rfl) ?_
  refine kM 1 rfl ?_
  refine AOps_q 16 _ rfl rfl rfl (QOp_sub _ _ _ _ _ _ _ rfl rfl rfl) ?_
  refine AOps_q 17 _ rfl rfl rfl (QOp_add _ _ _ _ _ _ _ rfl rfl rfl) ?_
  refine kN 1 rfl ?_
  refine ACode_block ?_
  refine ACode_loopW (fun k0 E H => ∃ (x2 : Int), E = [(0, .d (.pv (colD p0) 0)), (1, iV p1), (2, iV p2), (17, iV (w64 ((w64 (p0.p - p2)) + 1))), (18, iV x2)] ∧ H = [] ∧ impl_Colouring_firstCycle_l0 k p0 p1 p2 k0 x2 = some os9) k _ _ (Weak_keep 0 hm [0, 1, 2, 17, 18] [] _ _ rfl rfl rfl) ⟨_, rfl, rfl, h⟩ ?_
  clear h
  rintro k0 E H ⟨x2, rfl, rfl, h⟩
  cases k0 with
  | zero => cases (show (none : Option (Sum (Unit) (Option (List Int)))) = some _ from h)
  | succ k0 =>
   rw [impl_Colouring_firstCycle_l0] at h
   refine kR ?_
   refine AOps_q 19 _ rfl rfl rfl (QOp_lss _ _ _ _ _ _ _ rfl rfl rfl) ?_
   refine AOps_nil ?_
   refine ACode_seq ?_
   refine kI h rfl (fun h _ => ?_) (fun h _ => ?_)
   ·refine ACode_skip ?_
    refine ACode_seq ?_
    refine ACode_block ?_
    refine kR ?_
    refine kN 2 rfl ?_
    refine kR ?_
    refine kM 3 rfl ?_
    refine AOps_makeBufG intsD iD 0 (intsD_rep · _) 24 _ _ _ _ _ _ 17 _ (.int .i64 0) rfl rfl rfl rfl rfl rfl Try.underlying34 Try.type2 rfl rfl (by decide) rfl rfl (by decide) ?_
    refine kM 1 rfl ?_
    refine AOps_buildSlice 26 _ _ _ [_] (intsD ([x2])) _ rfl rfl rfl rfl rfl (by decide) Try.underlying34 Try.sizeOf2 (zero_of Try.typeInfo2 rfl) rfl rfl (intsD_one _) ?_
    obtain ⟨hc5, h⟩ := guardO h
    refine AOps_append_part 27 _ _ _ _ _ 0 0 0 0 (0 + ([x2]).length) _ (intsD (List.replicate 17 (0 : Int))) (intsD ([x2])) _ rfl rfl rfl rfl rfl rfl rfl Try.underlying34 Try.type2 rfl rfl rfl rfl rfl (intsD_one _) (by rw [intsD_length]; exact hc5.2) (by rw [intsD_length, intsD_length]; exact hc5.1) (by rw [intsD_length]) ?_
    rw [intsD_length, intsD_spl]
    obtain ⟨r6, hr6, h⟩ := bindO h
    refine AOps_call [0] 28 _ _ _ _ _ _ _ _ _ _ rfl rfl rfl rfl rfl rfl rfl Try.call87 rfl (nodupB_sound _ rfl) rfl rfl rfl (impl_Colouring_cycle_ac k p0 p1 p2 (splicedL (List.replicate 17 (0 : Int)) (0 + 0) (([x2]).length) ([x2])) (0 + ([x2]).length) _ hr6) ?_
    revert h
    cases hx8 : r6.1 with
    | none =>
     intro h
     rintro _ _ ⟨rfl, rfl⟩
     refine ⟨(allc (fun _ _ => trivial) (fun _ h => nomatch h)), (allc (trivial) (fun _ h => nomatch h)), AOps_as 28 (v' := .d (.sl (some true) [])) (H' := [.vec 0 (intsD r6.2), .vec 0 (intsD ([x2]))]) rfl rfl ?_⟩
     refine kN 1 rfl ?_
     refine kR ?_
     refine kM 1 rfl ?_
     refine AOps_q 30 _ rfl rfl rfl (QOp_isnilN _ _ _ _ _ _ _ rfl rfl rfl Try.underlying34) ?_
     refine AOps_nil ?_
     refine ACode_condF rfl ?_
     refine ACode_skip ?_
     refine (ACode_region ?_)
     refine AOps_q 32 _ rfl rfl rfl (QOp_add _ _ _ _ _ _ _ rfl rfl rfl) ?_
     refine kN 1 rfl ?_
     exact ⟨k0, _, _, Nat.lt_succ_self _, Weak_keep 0 hm [0, 1, 2, 17, 18] [] _ _ rfl rfl rfl, _, rfl, rfl, h⟩
    | some l7 =>
     intro h
     rintro _ _ ⟨rfl, rfl⟩
     refine ⟨(allc (fun _ _ => trivial) (fun _ h => nomatch h)), (allc (trivial) (fun _ h => nomatch h)), AOps_as 28 (v' := .part 0 0 0 l7) (H' := [.vec 0 (intsD r6.2), .vec 0 (intsD ([x2]))]) rfl rfl ?_⟩
     refine kN 1 rfl ?_
     refine kR ?_
     refine kM 1 rfl ?_
     refine AOps_q 30 _ rfl rfl rfl (QOp_partnilN _ _ _ _ _ _ _ _ _ _ rfl rfl rfl rfl Try.underlying34) ?_
     refine AOps_nil ?_
     refine ACode_condT rfl ?_
     refine kR ?_
     refine kN 2 rfl ?_
     refine ACode_ret ?_
     obtain ⟨rr, hz10, h2⟩ := bindO h
     obtain rfl := Option.some.inj h2
     obtain rfl := Option.some.inj (show some rr = some _ from hks9)
     have h := hz10
     obtain ⟨hcR, h⟩ := guardO h
     cases h
     exact ⟨_, _, (Weak_trans (Weak_shrink 6 0 0 l7 (intsD r6.2) _ rfl rfl (by rw [intsD_length]; exact hcR.1) (by rw [intsD_length]; exact hcR.2) (ints_take _ _)) (Weak_reset 0 hm hz [6] _ _ rfl rfl)), _, _, [0], _, (.cons (ResV_tmp _ _ rfl) .nil), rfl, rfl, rfl, rfl, rfl⟩
   refine ACode_exit ?_
   cases h
   exact ⟨_, rfl, Weak_keep 0 hm [] [] _ _ rfl rfl rfl⟩
 refine kR ?_
 refine kN 1 rfl ?_
 refine ACode_ret ?_
 cases h
 exact ⟨_, _, fun r a w h => ⟨r, h⟩, _, _, [], _, (.cons (ResV_tmp _ _ rfl) .nil), rfl, rfl, rfl, rfl, rfl⟩

-- (*loop.example/g01362/impl.Colouring).degrees
def impl_Colouring_degrees_l0 (k : Nat) (p0 : Col) (p1 : Int) : Nat → Int → (List Int) → Option (List Int)
 | 0, _, _ => none
 | k0 + 1, x1, x2 => (if decide (x1 < p0.p) then (impl_Colouring_neighbours k p0 x1 p1).bind fun r4 => (if x2.length + ([(impl_size r4)]).length ≤ 1099511627776 then impl_Colouring_degrees_l0 k p0 p1 k0 (w64 (x1 + 1)) (x2 ++ ([(impl_size r4)])) else none) else some x2)
def impl_Colouring_degrees (k : Nat) (p0 : Col) (p1 : Int) : Option (List Int) :=
 (impl_Colouring_degrees_l0 k p0 p1 k 0 ([] : List Int) : Option (List Int)).bind fun s7 => some s7
set_option maxRecDepth 100000 in
theorem impl_Colouring_degrees_ac (k : Nat) (p0 : Col) (p1 : Int) (r : List Int) (h : impl_Colouring_degrees k p0 p1 = some r) : AC Try.prog 88 [.d (.pv (colD p0) 0), iV p1] [] (fun res H' => res = [.vec 0 0] ∧ H' = [.vec 0 (intsD r)]) := by
 refine AC_of_body true Try.func88 rfl Try.ntmps88 (rvs := [.tmp 4]) rfl rfl (fun G hG => ?_)
 have hm : G.H.length = 0 := by rw [hG]; rfl
 have hz : zeroG G.H = true := by rw [hG]; rfl
 unfold impl_Colouring_degrees at h
 refine kR ?_
 refine kN 1 rfl ?_
 refine kR ?_
 refine AOps_buildSlice 7 _ _ _ [] (intsD ([] : List Int)) _ rfl rfl rfl rfl rfl (by decide) Try.underlying34 Try.sizeOf2 (zero_of Try.typeInfo2 rfl) rfl rfl (intsD_one _) ?_
 refine kN 1 rfl ?_
 refine kB (fun s7 => [(5, .vec 0 0)]) (fun s7 => [.vec 0 (intsD s7)]) h (fun s7 h => ?_) (fun s7 h => ?_)
 ·refine kR ?_
  refine kM 1 rfl ?_
  refine AOps_q 9 _ rfl rfl rfl (QOp_nilCheck_pv _ _ _ rfl rfl) ?_
  refine AOps_q 10 _ rfl rfl rfl (QOp_fieldAddr_pv _ _ _ _ _ 0 _ _ rfl Try.underlying27 rfl _ Try.sizeOf2 rfl rfl) ?_
  refine AOps_q 11 _ rfl rfl rfl (QOp_load_pv _ _ _ _ _ rfl Try.isAgg2 rfl rfl) ?_
  refine kN 1 rfl ?_
  refine ACode_block ?_
  refine ACode_loopW (fun k0 E H => ∃ (x1 : Int) (x2 : List Int), E = [(0, .d (.pv (colD p0) 0)), (1, iV p1), (5, .vec 0 0), (11, iV p0.p), (12, iV x1)] ∧ H = [.vec 0 (intsD x2)] ∧ impl_Colouring_degrees_l0 k p0 p1 k0 x1 x2 = some s7) k _ _ (Weak_keep 0 hm [0, 1, 5, 11, 12] [0] _ _ rfl rfl rfl) ⟨_, _, rfl, rfl, h⟩ ?_
  clear h
  rintro k0 E H ⟨x1, x2, rfl, rfl, h⟩
  cases k0 with
  | zero => cases (show (none : Option (List Int)) = some _ from h)
  | succ k0 =>
   rw [impl_Colouring_degrees_l0] at h
   refine kR ?_
   refine AOps_q 13 _ rfl rfl rfl (QOp_lss _ _ _ _ _ _ _ rfl rfl rfl) ?_
   refine AOps_nil ?_
   refine ACode_seq ?_
   refine kI h rfl (fun h _ => ?_) (fun h _ => ?_)
   ·refine ACode_skip ?_
    refine ACode_seq ?_
    refine ACode_block ?_
    refine kR ?_
    refine kN 2 rfl ?_
    refine (ACode_region ?_)
    refine kM 4 rfl ?_
    obtain ⟨r4, hr4, h⟩ := bindO h
    refine kC [] 19 (.vec 1 0) [.vec 0 (intsD x2), .vec 0 (intsD r4)] rfl Try.call76 rfl rfl (impl_Colouring_neighbours_ac k p0 x1 p1 _ hr4) rfl ?_
    refine AOps_callL [] 20 _ _ _ _ _ _ _ _ _ _ rfl rfl rfl rfl rfl rfl rfl Try.call48 rfl (nodupB_sound _ rfl) rfl rfl rfl (impl_size_ac r4) ?_
    rintro _ _ ⟨rfl, rfl⟩
    refine ⟨(fun _ h => nomatch h), (allc (flat_s _) (fun _ h => nomatch h)), AOps_as 20 (v' := iV (impl_size r4)) (H' := [.vec 0 (intsD x2), .vec 0 (intsD r4)]) rfl rfl ?_⟩
    refine AOps_buildSlice 21 _ _ _ [_] (intsD ([(impl_size r4)])) _ rfl rfl rfl rfl rfl (by decide) Try.underlying34 Try.sizeOf2 (zero_of Try.typeInfo2 rfl) rfl rfl (intsD_one _) ?_
    obtain ⟨hc6, h⟩ := guardO h
    refine AOps_append 22 _ _ _ _ _ _ _ _ _ _ _ _ rfl rfl rfl rfl rfl rfl rfl Try.underlying34 Try.type2 rfl rfl rfl (by decide) rfl rfl rfl rfl (intsD_one _) (by rw [intsD_length, intsD_length]; exact hc6) ?_
    rw [intsD_app]
    refine kN 1 rfl ?_
    refine (ACode_region ?_)
    refine AOps_q 23 _ rfl rfl rfl (QOp_add _ _ _ _ _ _ _ rfl rfl rfl) ?_
    refine kN 1 rfl ?_
    exact ⟨k0, _, _, Nat.lt_succ_self _, Weak_trans (Weak_keep 0 hm [0, 1, 5, 11, 12] [0] _ _ rfl rfl rfl) (Weak_reset 0 hm hz [0, 1, 5, 11, 12] _ _ rfl rfl), _, _, rfl, rfl, h⟩
   refine ACode_exit ?_
   cases h
   exact Weak_keep 0 hm [5] [0] _ _ rfl rfl rfl
 refine kR ?_
 refine kN 2 rfl ?_
 refine ACode_ret ?_
 cases h
 exact ⟨_, _, Weak_reset 0 hm hz [4] _ _ rfl rfl, _, _, [0], _, (.cons (ResV_tmp _ _ rfl) .nil), rfl, rfl, rfl, rfl, rfl⟩

-- (*loop.example/g01362/impl.Colouring).star
def impl_Colouring_star_l0 (r1 : List Int) : Nat → Int → Int → Int → Option (Int × Int)
 | 0, _, _, _ => none
 | k0 + 1, x2, x3, x4 => (if decide (x4 < (r1.length : Int)) then ((if 0 ≤ x4 ∧ x4 < (r1.length : Int) then (if decide (x3 < (r1.getD x4.toNat 0)) then some (x4, (r1.getD x4.toNat 0)) else some (x2, x3)) else none) : Option (Int × Int)).bind fun s8 => impl_Colouring_star_l0 r1 k0 s8.1 s8.2 (w64 (x4 + 1)) else some (x2, x3))
def impl_Colouring_star (k : Nat) (p0 : Col) (p1 : Int) : Option (Int × Int) :=
 ((impl_Colouring_degrees k p0 p1).bind fun r1 => impl_Colouring_star_l0 r1 k 0 (-1) 0 : Option (Int × Int)).bind fun s9 => some (s9.1, s9.2)
set_option maxRecDepth 100000 in
theorem impl_Colouring_star_ac (k : Nat) (p0 : Col) (p1 : Int) (r : Int × Int) (h : impl_Colouring_star k p0 p1 = some r) : AC Try.prog 51 [.d (.pv (colD p0) 0), iV p1] [] (fun res H' => res = [iV r.1, iV r.2] ∧ H' = []) := by
 refine AC_of_body true Try.func51 rfl Try.ntmps51 (rvs := [.tmp 4, .tmp 5]) rfl rfl (fun G hG => ?_)
 have hm : G.H.length = 0 := by rw [hG]; rfl
 have hz : zeroG G.H = true := by rw [hG]; rfl
 unfold impl_Colouring_star at h
 refine kR ?_
 refine kN 2 rfl ?_
 refine kR ?_
 refine kN 2 rfl ?_
 refine kB (fun s9 => [(6, iV s9.1), (7, iV s9.2)]) (fun s9 => []) h (fun s9 h => ?_) (fun s9 h => ?_)
 ·refine kR ?_
  refine kM 2 rfl ?_
  obtain ⟨r1, hr1, h⟩ := bindO h
  refine kC [] 12 (.vec 0 0) [.vec 0 (intsD r1)] rfl Try.call88 rfl rfl (impl_Colouring_degrees_ac k p0 p1 _ hr1) rfl ?_
  refine AOps_q 13 _ rfl rfl rfl (QOp_len_vec _ _ _ _ _ _ _ _ (intsD_length _) rfl rfl rfl rfl Try.underlying34 rfl rfl) ?_
  refine kN 1 rfl ?_
  refine ACode_block ?_
  refine ACode_loopW (fun k0 E H => ∃ (x2 : Int) (x3 : Int) (x4 : Int), E = [(6, iV x2), (7, iV x3), (12, .vec 0 0), (13, iV (r1.length : Int)), (14, iV x4)] ∧ H = [.vec 0 (intsD r1)] ∧ impl_Colouring_star_l0 r1 k0 x2 x3 x4 = some s9) k _ _ (Weak_keep 0 hm [6, 7, 12, 13, 14] [0] _ _ rfl rfl rfl) ⟨_, _, _, rfl, rfl, h⟩ ?_
  clear h
  rintro k0 E H ⟨x2, x3, x4, rfl, rfl, h⟩
  cases k0 with
  | zero => cases (show (none : Option (Int × Int)) = some _ from h)
  | succ k0 =>
   rw [impl_Colouring_star_l0] at h
   refine kR ?_
   refine AOps_q 15 _ rfl rfl rfl (QOp_lss _ _ _ _ _ _ _ rfl rfl rfl) ?_
   refine AOps_nil ?_
   refine ACode_seq ?_
   refine kI h rfl (fun h _ => ?_) (fun h _ => ?_)
   ·refine ACode_skip ?_
    refine kB (fun s8 => [(6, iV s8.1), (7, iV s8.2), (12, .vec 0 0), (13, iV (r1.length : Int)), (14, iV x4)]) (fun s8 => [.vec 0 (intsD r1)]) h (fun s8 h => ?_) (fun s8 h => ?_)
    ·refine ACode_block ?_
     refine kR ?_
     refine kM 1 rfl ?_
     obtain ⟨hc6, h⟩ := guardO h
     refine AOps_q 17 _ rfl rfl rfl (QOp_indexAddr_vec _ _ _ _ _ _ _ _ _ rfl Try.underlying34 Try.sizeOf2 hc6.1 (by rw [intsD_length]; exact hc6.2) rfl rfl rfl) ?_
     refine AOps_q 18 _ rfl rfl rfl (QOp_load_eptr _ _ _ _ _ _ _ rfl Try.isAgg2 rfl rfl (intsD_get _ _ 0 (by omega))) ?_
     refine kN 2 rfl ?_
     refine kR ?_
     refine kM 2 rfl ?_
     refine AOps_q 21 _ rfl rfl rfl (QOp_gtr _ _ _ _ _ _ _ rfl rfl rfl) ?_
     refine AOps_nil ?_
     refine kI h rfl (fun h _ => ?_) (fun h _ => ?_)
     ·refine (ACode_region ?_)
      refine kN 4 rfl ?_
      cases h
      exact Weak_keep 0 hm [6, 7, 12, 13, 14] [0] _ _ rfl rfl rfl
     refine ACode_skip ?_
     cases h
     exact Weak_keep 0 hm [6, 7, 12, 13, 14] [0] _ _ rfl rfl rfl
    refine (ACode_region ?_)
    refine AOps_q 24 _ rfl rfl rfl (QOp_add _ _ _ _ _ _ _ rfl rfl rfl) ?_
    refine kN 1 rfl ?_
    exact ⟨k0, _, _, Nat.lt_succ_self _, Weak_keep 0 hm [6, 7, 12, 13, 14] [0] _ _ rfl rfl rfl, _, _, _, rfl, rfl, h⟩
   refine ACode_exit ?_
   cases h
   exact Weak_keep 0 hm [6, 7] [] _ _ rfl rfl rfl
 refine kR ?_
 refine kN 4 rfl ?_
 refine ACode_ret ?_
 cases h
 exact ⟨_, _, fun r a w h => ⟨r, h⟩, _, _, [], _, (.cons (ResV_tmp _ _ rfl) (.cons (ResV_tmp _ _ rfl) .nil)), rfl, rfl, rfl, rfl, rfl⟩

-- (*loop.example/g01362/impl.matcher).behind
def impl_matcher_behind_l0 (p1 : Int) : Nat → Int → Option (Int)
 | 0, _ => none
 | k0 + 1, x4 => (if 0 ≤ x4 then (if decide (bAnd .i64 (bShr .i64 p1 x4) 1 = 0) then impl_matcher_behind_l0 p1 k0 (w64 (x4 + 1)) else some x4) else none)
def impl_matcher_behind_l1 (self : Lon → (List (MK × Int)) → Int → Option (Int × List (MK × Int))) (p0 : Lon) (p1 : Int) (s7 : Int) : Nat → Int → Int → (List (MK × Int)) → Option (Int × List (MK × Int))
 | 0, _, _, _ => none
 | k1 + 1, x10, x11, x12 => (if decide (x11 < p0.x.p) then (((if 0 ≤ x11 then (if decide (bAnd .i64 (bShr .i64 (bAndNot .i64 p1 (bShl .i64 1 s7)) x11) 1 = 1) then (impl_Colouring_joins p0.x s7 x11 p0.c).bind fun r16 => some r16 else some false) else none) : Option (Bool)).bind fun s17 => (if s17 then (if 0 ≤ x11 then (self p0 x12 (bAndNot .i64 (bAndNot .i64 p1 (bShl .i64 1 s7)) (bShl .i64 1 x11))).bind fun r20 => some ((if x10 < w64 (r20.1 + 1) then w64 (r20.1 + 1) else x10), r20.2) else none) else some (x10, x12)) : Option (Int × List (MK × Int))).bind fun s21 => impl_matcher_behind_l1 self p0 p1 s7 k1 s21.1 (w64 (x11 + 1)) s21.2 else some (x10, x12))
def impl_matcher_behind_body (self : Lon → (List (MK × Int)) → Int → Option (Int × List (MK × Int))) (k : Nat) (p0 : Lon) (p0m : List (MK × Int)) (p1 : Int) : Option (Int × List (MK × Int)) :=
 (if decide (p1 = 0) then some (0, p0m) else (if okK (MK.i p1) = true then (if (lookM p0m (MK.i p1)).isSome then some (((lookM p0m (MK.i p1)).getD 0), p0m) else (impl_matcher_behind_l0 p1 k 0 : Option (Int)).bind fun s7 => (if 0 ≤ s7 then (self p0 p0m (bAndNot .i64 p1 (bShl .i64 1 s7))).bind fun r9 => (impl_matcher_behind_l1 self p0 p1 s7 k r9.1 (w64 (s7 + 1)) r9.2 : Option (Int × List (MK × Int))).bind fun s22 => (if (okK (MK.i p1) = true) ∧ okI s22.1 = true ∧ s22.2.length < 4611686018427387904 then some (s22.1, ((MK.i p1, s22.1) :: s22.2)) else none) else none)) else none))
def impl_matcher_behind : Nat → Lon → (List (MK × Int)) → Int → Option (Int × List (MK × Int))
 | 0, _, _, _ => none
 | k + 1, p0, p0m, p1 => impl_matcher_behind_body (impl_matcher_behind k) k p0 p0m p1
set_option maxRecDepth 100000 in
theorem impl_matcher_behind_ac {vp0 : Value} (k : Nat) (p0 : Lon) (p0m : List (MK × Int)) (p1 : Int) (r : Int × List (MK × Int)) (h : impl_matcher_behind k p0 p0m p1 = some r) : AC Try.prog 89 [.d (.pv (lonD p0 vp0) 0), iV p1] [.mp vp0 (mapI Try.prog 2 2 p0m)] (fun res H' => res = [iV r.1] ∧ H' = [.mp vp0 (mapI Try.prog 2 2 r.2)]) := by
 induction k generalizing p0 p0m p1 r with
 | zero => simp [impl_matcher_behind] at h
 | succ k ih =>
  rw [impl_matcher_behind] at h
  obtain ⟨self, hself, hk⟩ : ∃ self : Lon → (List (MK × Int)) → Int → Option (Int × List (MK × Int)), (∀ (p0 : Lon) (p0m : List (MK × Int)) (p1 : Int) (r : Int × List (MK × Int)), self p0 p0m p1 = some r → AC Try.prog 89 [.d (.pv (lonD p0 vp0) 0), iV p1] [.mp vp0 (mapI Try.prog 2 2 p0m)] (fun res H' => res = [iV r.1] ∧ H' = [.mp vp0 (mapI Try.prog 2 2 r.2)])) ∧ impl_matcher_behind k = self := ⟨impl_matcher_behind k, fun p0 p0m p1 r h => ih p0 p0m p1 r h, rfl⟩
  rw [hk] at h
  clear ih hk
  refine AC_of_body true Try.func89 rfl Try.ntmps89 (rvs := [.tmp 4]) rfl rfl (fun G hG => ?_)
  have hm : G.H.length = 1 := by rw [hG]; rfl
  have hz : zeroG G.H = true := by rw [hG]; rfl
  unfold impl_matcher_behind_body at h
  refine kR ?_
  refine kN 1 rfl ?_
  refine ACode_seq ?_
  refine kR ?_
  refine kM 1 rfl ?_
  refine AOps_q 12 _ rfl rfl rfl (QOp_eql _ _ _ _ _ _ _ rfl rfl rfl) ?_
  refine AOps_nil ?_
  refine kI h rfl (fun h _ => ?_) (fun h _ => ?_)
  ·refine kR ?_
   refine kN 1 rfl ?_
   refine ACode_ret ?_
   cases h
   exact ⟨_, _, fun r a w h => ⟨r, h⟩, _, _, [], _, (.cons (ResV_tmp _ _ rfl) .nil), rfl, rfl, rfl, rfl, rfl⟩
  refine ACode_skip ?_
  refine ACode_seq ?_
  refine kR ?_
  refine kM 1 rfl ?_
  refine AOps_q 15 _ rfl rfl rfl (QOp_nilCheck_pv _ _ _ rfl rfl) ?_
  refine AOps_q 16 _ rfl rfl rfl (QOp_fieldAddr_pv _ _ _ _ _ 2 _ _ rfl Try.underlying105 rfl _ Try.sizeOf103 rfl rfl) ?_
  refine AOps_q 17 _ rfl rfl rfl (QOp_load_pv _ _ _ _ _ rfl Try.isAgg103 rfl rfl) ?_
  refine kM 1 rfl ?_
  obtain ⟨hc2, h⟩ := guardO h
  refine AOps_q 19 _ rfl rfl rfl (QOp_lookup keyed2_Try Try.underlying103 Try.underlying2 (fun w => by kernel_rfl) 0 _ p0m (MK.i p1) _ _ _ rfl rfl rfl rfl (isKey_i _) (keyI Try.underlying2 hc2)) ?_
  refine kN 5 rfl ?_
  refine kR ?_
  refine kN 1 rfl ?_
  refine kI h rfl (fun h _ => ?_) (fun h _ => ?_)
  ·refine kR ?_
   refine kN 2 rfl ?_
   refine ACode_ret ?_
   cases h
   exact ⟨_, _, fun r a w h => ⟨r, h⟩, _, _, [], _, (.cons (ResV_tmp _ _ rfl) .nil), rfl, rfl, rfl, rfl, rfl⟩
  refine ACode_skip ?_
  refine kR ?_
  refine kN 1 rfl ?_
  refine kB (fun s7 => [(0, .d (.pv (lonD p0 vp0) 0)), (1, iV p1), (7, iV s7)]) (fun s7 => [.mp vp0 (mapI Try.prog 2 2 p0m)]) h (fun s7 h => ?_) (fun s7 h => ?_)
  ·refine ACode_block ?_
   refine ACode_loopW (fun k0 E H => ∃ (x4 : Int), E = [(0, .d (.pv (lonD p0 vp0) 0)), (1, iV p1), (7, iV x4)] ∧ H = [.mp vp0 (mapI Try.prog 2 2 p0m)] ∧ impl_matcher_behind_l0 p1 k0 x4 = some s7) k _ _ (Weak_keep 1 hm [0, 1, 7] [] _ _ rfl rfl rfl) ⟨_, rfl, rfl, h⟩ ?_
   clear h
   rintro k0 E H ⟨x4, rfl, rfl, h⟩
   cases k0 with
   | zero => cases (show (none : Option (Int)) = some _ from h)
   | succ k0 =>
    rw [impl_matcher_behind_l0] at h
    refine ACode_seq ?_
    refine kR ?_
    refine kM 2 rfl ?_
    obtain ⟨hc5, h⟩ := guardO h
    refine AOps_q 26 _ rfl rfl rfl (QOp_shr _ _ _ _ _ _ _ _ hc5 rfl rfl rfl) ?_
    refine AOps_q 27 _ rfl rfl rfl (QOp_and _ _ _ _ _ _ _ rfl rfl rfl) ?_
    refine AOps_q 28 _ rfl rfl rfl (QOp_eql _ _ _ _ _ _ _ rfl rfl rfl) ?_
    refine AOps_nil ?_
    refine kI h rfl (fun h _ => ?_) (fun h _ => ?_)
    ·refine ACode_skip ?_
     refine ACode_block ?_
     refine (ACode_region ?_)
     refine kM 1 rfl ?_
     refine AOps_q 30 _ rfl rfl rfl (QOp_add _ _ _ _ _ _ _ rfl rfl rfl) ?_
     refine kN 1 rfl ?_
     exact ⟨k0, _, _, Nat.lt_succ_self _, Weak_keep 1 hm [0, 1, 7] [] _ _ rfl rfl rfl, _, rfl, rfl, h⟩
    refine ACode_exit ?_
    cases h
    exact Weak_keep 1 hm [0, 1, 7] [] _ _ rfl rfl rfl
  refine kR ?_
  refine kM 2 rfl ?_
  obtain ⟨hc8, h⟩ := guardO h
  refine AOps_q 33 _ rfl rfl rfl (QOp_shl _ _ _ _ _ _ _ _ hc8 rfl rfl rfl) ?_
  refine AOps_q 34 _ rfl rfl rfl (QOp_andNot _ _ _ _ _ _ _ rfl rfl rfl) ?_
  refine kN 1 rfl ?_
  refine kR ?_
  refine kM 2 rfl ?_
  obtain ⟨r9, hr9, h⟩ := bindO h
  refine kC [0] 37 (iV r9.1) [.mp vp0 (mapI Try.prog 2 2 r9.2)] rfl Try.call89 rfl rfl (hself p0 p0m (bAndNot .i64 p1 (bShl .i64 1 s7)) _ hr9) rfl ?_
  refine kN 1 rfl ?_
  refine kB (fun s22 => [(0, .d (.pv (lonD p0 vp0) 0)), (1, iV p1), (9, iV s22.1)]) (fun s22 => [.mp vp0 (mapI Try.prog 2 2 s22.2)]) h (fun s22 h => ?_) (fun s22 h => ?_)
  ·refine kR ?_
   refine kM 1 rfl ?_
   refine AOps_q 39 _ rfl rfl rfl (QOp_add _ _ _ _ _ _ _ rfl rfl rfl) ?_
   refine kN 1 rfl ?_
   refine ACode_block ?_
   refine ACode_loopW (fun k1 E H => ∃ (x10 : Int) (x11 : Int) (x12 : List (MK × Int)), E = [(0, .d (.pv (lonD p0 vp0) 0)), (1, iV p1), (7, iV s7), (8, iV (bAndNot .i64 p1 (bShl .i64 1 s7))), (9, iV x10), (10, iV x11)] ∧ H = [.mp vp0 (mapI Try.prog 2 2 x12)] ∧ impl_matcher_behind_l1 self p0 p1 s7 k1 x10 x11 x12 = some s22) k _ _ (Weak_keep 1 hm [0, 1, 7, 8, 9, 10] [] _ _ rfl rfl rfl) ⟨_, _, _, rfl, rfl, h⟩ ?_
   clear h
   rintro k1 E H ⟨x10, x11, x12, rfl, rfl, h⟩
   cases k1 with
   | zero => cases (show (none : Option (Int × List (MK × Int))) = some _ from h)
   | succ k1 =>
    rw [impl_matcher_behind_l1] at h
    refine ACode_seq ?_
    refine kR ?_
    refine kM 2 rfl ?_
    refine AOps_q 42 _ rfl rfl rfl (QOp_nilCheck_pv _ _ _ rfl rfl) ?_
    refine AOps_q 43 _ rfl rfl rfl (QOp_fieldAddr_pv _ _ _ _ _ 0 _ _ rfl Try.underlying105 rfl _ Try.sizeOf96 rfl rfl) ?_
    refine AOps_q 44 _ rfl rfl rfl (QOp_load_pv _ _ _ _ _ rfl Try.isAgg96 rfl rfl) ?_
    refine AOps_q 45 _ rfl rfl rfl (QOp_nilCheck_pv _ _ _ rfl rfl) ?_
    refine AOps_q 46 _ rfl rfl rfl (QOp_fieldAddr_pv _ _ _ _ _ 0 _ _ rfl Try.underlying27 rfl _ Try.sizeOf2 rfl rfl) ?_
    refine AOps_q 47 _ rfl rfl rfl (QOp_load_pv _ _ _ _ _ rfl Try.isAgg2 rfl rfl) ?_
    refine AOps_q 48 _ rfl rfl rfl (QOp_lss _ _ _ _ _ _ _ rfl rfl rfl) ?_
    refine AOps_nil ?_
    refine kI h rfl (fun h _ => ?_) (fun h _ => ?_)
    ·refine ACode_skip ?_
     refine kB (fun s21 => [(0, .d (.pv (lonD p0 vp0) 0)), (1, iV p1), (7, iV s7), (8, iV (bAndNot .i64 p1 (bShl .i64 1 s7))), (9, iV s21.1), (10, iV x11)]) (fun s21 => [.mp vp0 (mapI Try.prog 2 2 s21.2)]) h (fun s21 h => ?_) (fun s21 h => ?_)
     ·refine ACode_block ?_
      refine kB (fun s17 => [(0, .d (.pv (lonD p0 vp0) 0)), (1, iV p1), (7, iV s7), (8, iV (bAndNot .i64 p1 (bShl .i64 1 s7))), (9, iV x10), (10, iV x11), (68, bV s17)]) (fun s17 => [.mp vp0 (mapI Try.prog 2 2 x12)]) h (fun s17 h => ?_) (fun s17 h => ?_)
      ·refine (ACode_quiet mixed (by kernel_rfl) ?_)
       refine kQ 2 rfl ?_
       obtain ⟨hc14, h⟩ := guardO h
       refine AQ_q 53 _ rfl rfl rfl (QOp_shr _ _ _ _ _ _ _ _ hc14 rfl rfl rfl) ?_
       refine AQ_q 54 _ rfl rfl rfl (QOp_and _ _ _ _ _ _ _ rfl rfl rfl) ?_
       refine AQ_q 55 _ rfl rfl rfl (QOp_eql _ _ _ _ _ _ _ rfl rfl rfl) ?_
       refine kQ 1 rfl ?_
       refine AQ_case 56 _ rfl (fun hb15 => ?_) (fun hb15 => ?_)
       ·have h := iteT hb15 h
        refine kQ 1 rfl ?_
        refine AQ_q 58 _ rfl rfl rfl (QOp_nilCheck_pv _ _ _ rfl rfl) ?_
        refine AQ_q 59 _ rfl rfl rfl (QOp_fieldAddr_pv _ _ _ _ _ 0 _ _ rfl Try.underlying105 rfl _ Try.sizeOf96 rfl rfl) ?_
        refine AQ_q 60 _ rfl rfl rfl (QOp_load_pv _ _ _ _ _ rfl Try.isAgg96 rfl rfl) ?_
        refine kQ 3 rfl ?_
        refine AQ_q 64 _ rfl rfl rfl (QOp_nilCheck_pv _ _ _ rfl rfl) ?_
        refine AQ_q 65 _ rfl rfl rfl (QOp_fieldAddr_pv _ _ _ _ _ 1 _ _ rfl Try.underlying105 rfl _ Try.sizeOf2 rfl rfl) ?_
        refine AQ_q 66 _ rfl rfl rfl (QOp_load_pv _ _ _ _ _ rfl Try.isAgg2 rfl rfl) ?_
        obtain ⟨r16, hr16, h⟩ := bindO h
        refine AQ_call 67 _ _ _ _ _ _ _ _ _ rfl rfl rfl rfl rfl rfl rfl Try.call73 rfl rfl rfl (impl_Colouring_joins_ac p0.x s7 x11 p0.c _ hr16) ?_
        refine kQ 1 rfl ?_
        refine AQ_nil ?_
        cases h
        exact Weak_keep 1 hm [0, 1, 7, 8, 9, 10, 68] [] _ _ rfl rfl rfl
       have h := iteF hb15 h
       refine AQ_skip 57 rfl rfl rfl ?_
       refine AQ_skip 58 rfl rfl rfl ?_
       refine AQ_skip 59 rfl rfl rfl ?_
       refine AQ_skip 60 rfl rfl rfl ?_
       refine AQ_skip 61 rfl rfl rfl ?_
       refine AQ_skip 62 rfl rfl rfl ?_
       refine AQ_skip 63 rfl rfl rfl ?_
       refine AQ_skip 64 rfl rfl rfl ?_
       refine AQ_skip 65 rfl rfl rfl ?_
       refine AQ_skip 66 rfl rfl rfl ?_
       refine AQ_skip 67 rfl rfl rfl ?_
       refine kQ 1 rfl ?_
       refine AQ_nil ?_
       cases h
       exact Weak_keep 1 hm [0, 1, 7, 8, 9, 10, 68] [] _ _ rfl rfl rfl
      refine kI h rfl (fun h _ => ?_) (fun h _ => ?_)
      ·refine (ACode_region ?_)
       refine kM 4 rfl ?_
       obtain ⟨hc19, h⟩ := guardO h
       refine AOps_q 73 _ rfl rfl rfl (QOp_shl _ _ _ _ _ _ _ _ hc19 rfl rfl rfl) ?_
       refine AOps_q 74 _ rfl rfl rfl (QOp_andNot _ _ _ _ _ _ _ rfl rfl rfl) ?_
       obtain ⟨r20, hr20, h⟩ := bindO h
       refine kC [0] 75 (iV r20.1) [.mp vp0 (mapI Try.prog 2 2 r20.2)] rfl Try.call89 rfl rfl (hself p0 x12 (bAndNot .i64 (bAndNot .i64 p1 (bShl .i64 1 s7)) (bShl .i64 1 x11)) _ hr20) rfl ?_
       refine AOps_q 76 _ rfl rfl rfl (QOp_add _ _ _ _ _ _ _ rfl rfl rfl) ?_
       refine AOps_q 77 _ rfl rfl rfl (QOp_max _ _ _ _ _ _ rfl rfl rfl rfl rfl) ?_
       refine kN 1 rfl ?_
       cases h
       exact Weak_keep 1 hm [0, 1, 7, 8, 9, 10] [] _ _ rfl rfl rfl
      refine ACode_skip ?_
      cases h
      exact Weak_keep 1 hm [0, 1, 7, 8, 9, 10] [] _ _ rfl rfl rfl
     refine (ACode_region ?_)
     refine kM 1 rfl ?_
     refine AOps_q 50 _ rfl rfl rfl (QOp_add _ _ _ _ _ _ _ rfl rfl rfl) ?_
     refine kN 1 rfl ?_
     exact ⟨k1, _, _, Nat.lt_succ_self _, Weak_keep 1 hm [0, 1, 7, 8, 9, 10] [] _ _ rfl rfl rfl, _, _, _, rfl, rfl, h⟩
    refine ACode_exit ?_
    cases h
    exact Weak_keep 1 hm [0, 1, 9] [] _ _ rfl rfl rfl
  refine kR ?_
  refine kM 1 rfl ?_
  refine AOps_q 79 _ rfl rfl rfl (QOp_nilCheck_pv _ _ _ rfl rfl) ?_
  refine AOps_q 80 _ rfl rfl rfl (QOp_fieldAddr_pv _ _ _ _ _ 2 _ _ rfl Try.underlying105 rfl _ Try.sizeOf103 rfl rfl) ?_
  refine AOps_q 81 _ rfl rfl rfl (QOp_load_pv _ _ _ _ _ rfl Try.isAgg103 rfl rfl) ?_
  refine kM 2 rfl ?_
  obtain ⟨hc23, h⟩ := guardO h
  refine AOps_mapUpdate keyed2_Try Try.underlying103 Try.underlying2 0 _ s22.2 (MK.i p1) _ s22.1 _ _ _ rfl rfl rfl rfl rfl rfl (isKey_i _) (keyI Try.underlying2 hc23.1) rfl hc23.2.1 hc23.2.2 ?_
  refine AOps_nil ?_
  refine kR ?_
  refine kN 2 rfl ?_
  refine ACode_ret ?_
  cases h
  exact ⟨_, _, fun r a w h => ⟨r, h⟩, _, _, [], _, (.cons (ResV_tmp _ _ rfl) .nil), rfl, rfl, rfl, rfl, rfl⟩

-- (*loop.example/g01362/impl.Colouring).matching
def impl_Colouring_matching_l1 (k : Nat) (p0 : Col) (p1 : Int) (x3 : Int) (x4 : Int) (r11 : Int × List (MK × Int)) : Nat → Int → Int → (List (MK × Int)) → (List (List Int)) → Option (Int × List (MK × Int) × List (List Int))
 | 0, _, _, _, _ => none
 | k1 + 1, x12, x13, x14, x15 => (if decide (x13 < p0.p) then (((if 0 ≤ x13 then (if decide (bAnd .i64 (bShr .i64 (bAndNot .i64 x3 (bShl .i64 1 x4)) x13) 1 = 1) then (impl_Colouring_joins p0 x4 x13 p1).bind fun r19 => (if r19 then (if 0 ≤ x13 then (impl_matcher_behind k (⟨p0, p1⟩ : Lon) x14 (bAndNot .i64 (bAndNot .i64 x3 (bShl .i64 1 x4)) (bShl .i64 1 x13))).bind fun r22 => some (decide (w64 (r22.1 + 1) = r11.1), r22.2) else none) else some (false, x14)) else some (false, x14)) else none) : Option (Bool × List (MK × Int))).bind fun s23 => (if s23.1 then (if 0 ≤ x13 then (if x15.length + ([[x4, x13]]).length ≤ 1099511627776 then (some (bAndNot .i64 (bAndNot .i64 x3 (bShl .i64 1 x4)) (bShl .i64 1 x13), s23.2, (x15 ++ ([[x4, x13]])))).bind fun rr => some (.inr rr) else none) else none) else some (.inl s23.2)) : Option (Sum (List (MK × Int)) (Int × List (MK × Int) × List (List Int)))).bind fun os27 => (match os27 with | .inl s27 => impl_Colouring_matching_l1 k p0 p1 x3 x4 r11 k1 x12 (w64 (x13 + 1)) s27 x15 | .inr rr => some rr) else some (x12, x14, x15))
def impl_Colouring_matching_l0 (k : Nat) (p0 : Col) (p1 : Int) : Nat → Int → Int → (List (MK × Int)) → (List (List Int)) → Option (List (List Int))
 | 0, _, _, _, _ => none
 | k0 + 1, x3, x4, x5, x6 => (if decide (x4 < p0.p) then ((if 0 ≤ x4 then (if decide (bAnd .i64 (bShr .i64 x3 x4) 1 = 0) then some (x3, x5, x6) else (if 0 ≤ x4 then (impl_matcher_behind k (⟨p0, p1⟩ : Lon) x5 x3).bind fun r11 => impl_Colouring_matching_l1 k p0 p1 x3 x4 r11 k (bAndNot .i64 x3 (bShl .i64 1 x4)) (w64 (x4 + 1)) r11.2 x6 else none)) else none) : Option (Int × List (MK × Int) × List (List Int))).bind fun s28 => impl_Colouring_matching_l0 k p0 p1 k0 s28.1 (w64 (x4 + 1)) s28.2.1 s28.2.2 else some x6)
def impl_Colouring_matching (k : Nat) (p0 : Col) (p1 : Int) : Option (List (List Int)) :=
 (if 0 ≤ p0.p then (impl_Colouring_matching_l0 k p0 p1 k (w64 ((bShl .i64 1 p0.p) - 1)) 0 ([] : List (MK × Int)) ([] : List (List Int)) : Option (List (List Int))).bind fun s29 => some s29 else none)
set_option maxRecDepth 100000 in
theorem impl_Colouring_matching_ac (k : Nat) (p0 : Col) (p1 : Int) (r : List (List Int)) (h : impl_Colouring_matching k p0 p1 = some r) : AC Try.prog 53 [.d (.pv (colD p0) 0), iV p1] [] (fun res H' => res = [.vec 0 0] ∧ H' = [.vec 0 (rowsD r)]) := by
 refine AC_of_body true Try.func53 rfl Try.ntmps53 (rvs := [.tmp 4]) rfl rfl (fun G hG => ?_)
 have hm : G.H.length = 0 := by rw [hG]; rfl
 have hz : zeroG G.H = true := by rw [hG]; rfl
 unfold impl_Colouring_matching at h
 refine kR ?_
 refine kN 1 rfl ?_
 refine kR ?_
 refine kM 2 rfl ?_
 refine AOps_makeMap 14 _ rfl rfl rfl rfl 2 2 (fun m1 hm1 => ?_)
 refine AOps_q 15 _ rfl rfl rfl (QOp_build _ _ [_, _, _] [0, 1, 2] [.pv (colD p0) 0, iD p1, .s m1] _ [.s (.pointer none), iD 0, .s (.map none)] (lonD (⟨p0, p1⟩ : Lon) m1) [(0, 1), (1, 1), (2, 1)] rfl rfl Try.underlying105 (zero_of Try.typeInfo105 rfl) (fun w => by simp [Try.sizeOf96, Try.sizeOf2, Try.sizeOf103]) rfl (by rfl) (lonZ_fill (⟨p0, p1⟩ : Lon) m1) (allc (ok1 rfl) (allc (ok1 rfl) (allc (ok1 hm1) (fun _ h => nomatch h))))) ?_
 refine AOps_boxI 16 _ _ (.agg (lonD (⟨p0, p1⟩ : Lon) m1)) (lonD (⟨p0, p1⟩ : Lon) m1) rfl (lonD_one _ _ hm1) rfl rfl rfl rfl rfl ?_
 refine AOps_buildSlice 17 _ _ _ [] (rowsD ([] : List (List Int))) _ rfl rfl rfl rfl rfl (by decide) Try.underlying45 Try.sizeOf34 (zero_of Try.typeInfo34 rfl) rfl rfl (rowsD_one _) ?_
 refine kN 2 rfl ?_
 refine kR ?_
 refine kM 1 rfl ?_
 refine AOps_q 19 _ rfl rfl rfl (QOp_nilCheck_pv _ _ _ rfl rfl) ?_
 refine AOps_q 20 _ rfl rfl rfl (QOp_fieldAddr_pv _ _ _ _ _ 0 _ _ rfl Try.underlying27 rfl _ Try.sizeOf2 rfl rfl) ?_
 refine AOps_q 21 _ rfl rfl rfl (QOp_load_pv _ _ _ _ _ rfl Try.isAgg2 rfl rfl) ?_
 obtain ⟨hc2, h⟩ := guardO h
 refine AOps_q 22 _ rfl rfl rfl (QOp_shl _ _ _ _ _ _ _ _ hc2 rfl rfl rfl) ?_
 refine AOps_q 23 _ rfl rfl rfl (QOp_sub _ _ _ _ _ _ _ rfl rfl rfl) ?_
 refine kN 1 rfl ?_
 refine kB (fun s29 => [(6, .vec 0 0)]) (fun s29 => [.vec 0 (rowsD s29)]) h (fun s29 h => ?_) (fun s29 h => ?_)
 ·refine kR ?_
  refine kM 1 rfl ?_
  refine AOps_q 25 _ rfl rfl rfl (QOp_nilCheck_pv _ _ _ rfl rfl) ?_
  refine AOps_q 26 _ rfl rfl rfl (QOp_fieldAddr_pv _ _ _ _ _ 0 _ _ rfl Try.underlying27 rfl _ Try.sizeOf2 rfl rfl) ?_
  refine AOps_q 27 _ rfl rfl rfl (QOp_load_pv _ _ _ _ _ rfl Try.isAgg2 rfl rfl) ?_
  refine kN 1 rfl ?_
  refine ACode_block ?_
  refine ACode_loopW (fun k0 E H => ∃ (x3 : Int) (x4 : Int) (x5 : List (MK × Int)) (x6 : List (List Int)), E = [(0, .d (.pv (colD p0) 0)), (1, iV p1), (5, .d (.pv (lonD (⟨p0, p1⟩ : Lon) m1) 0)), (6, .vec 1 0), (7, iV x3), (27, iV p0.p), (28, iV x4)] ∧ H = [.mp m1 (mapI Try.prog 2 2 x5), .vec 0 (rowsD x6)] ∧ impl_Colouring_matching_l0 k p0 p1 k0 x3 x4 x5 x6 = some s29) k _ _ (Weak_keep 0 hm [0, 1, 5, 6, 7, 27, 28] [0, 1] _ _ rfl rfl rfl) ⟨_, _, _, _, rfl, rfl, h⟩ ?_
  clear h
  rintro k0 E H ⟨x3, x4, x5, x6, rfl, rfl, h⟩
  cases k0 with
  | zero => cases (show (none : Option (List (List Int))) = some _ from h)
  | succ k0 =>
   rw [impl_Colouring_matching_l0] at h
   refine kR ?_
   refine AOps_q 29 _ rfl rfl rfl (QOp_lss _ _ _ _ _ _ _ rfl rfl rfl) ?_
   refine AOps_nil ?_
   refine ACode_seq ?_
   refine kI h rfl (fun h _ => ?_) (fun h _ => ?_)
   ·refine ACode_skip ?_
    refine kB (fun s28 => [(0, .d (.pv (colD p0) 0)), (1, iV p1), (5, .d (.pv (lonD (⟨p0, p1⟩ : Lon) m1) 0)), (6, .vec 1 0), (7, iV s28.1), (27, iV p0.p), (28, iV x4)]) (fun s28 => [.mp m1 (mapI Try.prog 2 2 s28.2.1), .vec 0 (rowsD s28.2.2)]) h (fun s28 h => ?_) (fun s28 h => ?_)
    ·refine ACode_block ?_
     refine kR ?_
     refine kN 2 rfl ?_
     refine ACode_seq ?_
     refine kR ?_
     refine kM 2 rfl ?_
     obtain ⟨hc8, h⟩ := guardO h
     refine AOps_q 33 _ rfl rfl rfl (QOp_shr _ _ _ _ _ _ _ _ hc8 rfl rfl rfl) ?_
     refine AOps_q 34 _ rfl rfl rfl (QOp_and _ _ _ _ _ _ _ rfl rfl rfl) ?_
     refine AOps_q 35 _ rfl rfl rfl (QOp_eql _ _ _ _ _ _ _ rfl rfl rfl) ?_
     refine AOps_nil ?_
     refine kI h rfl (fun h _ => ?_) (fun h _ => ?_)
     ·refine ACode_exit ?_
      cases h
      exact Weak_keep 0 hm [0, 1, 5, 6, 7, 27, 28] [0, 1] _ _ rfl rfl rfl
     refine ACode_skip ?_
     refine ACode_seq (ACode_anyU mixed ?_)
     refine AU_u 0 36 _ rfl (by kernel_rfl) rfl rfl rfl (UOp_move _ _ rfl rfl) ?_
     refine AU_u 1 37 _ rfl (by kernel_rfl) rfl rfl rfl (UOp_move _ _ rfl rfl) ?_
     refine AU_u 3 39 _ rfl (by kernel_rfl) rfl rfl rfl (UOp_move _ _ rfl rfl) ?_
     refine AU_u 4 40 _ rfl (by kernel_rfl) rfl rfl rfl (UOp_move _ _ rfl rfl) ?_
     obtain ⟨hc10, h⟩ := guardO h
     refine AU_u 5 41 _ rfl (by kernel_rfl) rfl rfl rfl (UOp_shl _ _ _ _ _ _ _ _ hc10 rfl rfl rfl) ?_
     refine AU_u 6 42 _ rfl (by kernel_rfl) rfl rfl rfl (UOp_andNot _ _ _ _ _ _ _ rfl rfl rfl) ?_
     refine AU_all [2] (by kernel_rfl) rfl (allc ?_ (fun _ h => nomatch h))
     refine US_of 2 rfl rfl ?_
     obtain ⟨r11, hr11, h⟩ := bindO h
     refine kC [0] 38 (iV r11.1) [.mp m1 (mapI Try.prog 2 2 r11.2), .vec 0 (rowsD x6)] rfl Try.call89 rfl rfl (impl_matcher_behind_ac k (⟨p0, p1⟩ : Lon) x5 x3 _ hr11) rfl ?_
     refine AOps_nil ?_
     refine AU_u 7 9 _ rfl (by kernel_rfl) rfl rfl rfl (UOp_assign _ _ rfl rfl) ?_
     refine AU_u 8 10 _ rfl (by kernel_rfl) rfl rfl rfl (UOp_assign _ _ rfl rfl) ?_
     refine AU_done (by kernel_rfl) ?_
     refine kR ?_
     refine kN 2 rfl ?_
     refine kR ?_
     refine kM 1 rfl ?_
     refine AOps_q 45 _ rfl rfl rfl (QOp_add _ _ _ _ _ _ _ rfl rfl rfl) ?_
     refine kN 1 rfl ?_
     refine ACode_block ?_
     refine ACode_loopW (fun k1 E H => ∃ (x12 : Int) (x13 : Int) (x14 : List (MK × Int)) (x15 : List (List Int)), E = [(0, .d (.pv (colD p0) 0)), (1, iV p1), (5, .d (.pv (lonD (⟨p0, p1⟩ : Lon) m1) 0)), (6, .vec 1 0), (7, iV x12), (8, iV x4), (9, iV r11.1), (10, iV (bAndNot .i64 x3 (bShl .i64 1 x4))), (11, iV x13), (27, iV p0.p), (28, iV x4)] ∧ H = [.mp m1 (mapI Try.prog 2 2 x14), .vec 0 (rowsD x15)] ∧ impl_Colouring_matching_l1 k p0 p1 x3 x4 r11 k1 x12 x13 x14 x15 = some s28) k _ _ (Weak_keep 0 hm [0, 1, 5, 6, 7, 8, 9, 10, 11, 27, 28] [0, 1] _ _ rfl rfl rfl) ⟨_, _, _, _, rfl, rfl, h⟩ ?_
     clear h
     rintro k1 E H ⟨x12, x13, x14, x15, rfl, rfl, h⟩
     cases k1 with
     | zero => cases (show (none : Option (Int × List (MK × Int) × List (List Int))) = some _ from h)
     | succ k1 =>
      rw [impl_Colouring_matching_l1] at h
      refine ACode_seq ?_
      refine kR ?_
      refine kM 2 rfl ?_
      refine AOps_q 48 _ rfl rfl rfl (QOp_nilCheck_pv _ _ _ rfl rfl) ?_
      refine AOps_q 49 _ rfl rfl rfl (QOp_fieldAddr_pv _ _ _ _ _ 0 _ _ rfl Try.underlying27 rfl _ Try.sizeOf2 rfl rfl) ?_
      refine AOps_q 50 _ rfl rfl rfl (QOp_load_pv _ _ _ _ _ rfl Try.isAgg2 rfl rfl) ?_
      refine AOps_q 51 _ rfl rfl rfl (QOp_lss _ _ _ _ _ _ _ rfl rfl rfl) ?_
      refine AOps_nil ?_
      refine kI h rfl (fun h _ => ?_) (fun h _ => ?_)
      ·refine ACode_skip ?_
       refine kO (fun s27 => [(0, .d (.pv (colD p0) 0)), (1, iV p1), (5, .d (.pv (lonD (⟨p0, p1⟩ : Lon) m1) 0)), (6, .vec 1 0), (7, iV x12), (8, iV x4), (9, iV r11.1), (10, iV (bAndNot .i64 x3 (bShl .i64 1 x4))), (11, iV x13), (27, iV p0.p), (28, iV x4)]) (fun s27 => [.mp m1 (mapI Try.prog 2 2 s27), .vec 0 (rowsD x15)]) h (fun os27 h hks27 => ?_) (fun s27 h => ?_)
       ·refine ACode_block ?_
        refine kB (fun s23 => [(0, .d (.pv (colD p0) 0)), (1, iV p1), (5, .d (.pv (lonD (⟨p0, p1⟩ : Lon) m1) 0)), (6, .vec 1 0), (7, iV x12), (8, iV x4), (9, iV r11.1), (10, iV (bAndNot .i64 x3 (bShl .i64 1 x4))), (11, iV x13), (27, iV p0.p), (28, iV x4), (76, bV s23.1)]) (fun s23 => [.mp m1 (mapI Try.prog 2 2 s23.2), .vec 0 (rowsD x15)]) h (fun s23 h => ?_) (fun s23 h => ?_)
        ·refine (ACode_region ?_)
         refine kM 2 rfl ?_
         obtain ⟨hc17, h⟩ := guardO h
         refine AOps_q 56 _ rfl rfl rfl (QOp_shr _ _ _ _ _ _ _ _ hc17 rfl rfl rfl) ?_
         refine AOps_q 57 _ rfl rfl rfl (QOp_and _ _ _ _ _ _ _ rfl rfl rfl) ?_
         refine AOps_q 58 _ rfl rfl rfl (QOp_eql _ _ _ _ _ _ _ rfl rfl rfl) ?_
         refine kM 1 rfl ?_
         refine AOps_case 59 _ rfl (fun hb18 => ?_) (fun hb18 => ?_)
         ·have h := iteT hb18 h
          refine kM 4 rfl ?_
          obtain ⟨r19, hr19, h⟩ := bindO h
          refine kC [] 64 (bV r19) [.mp m1 (mapI Try.prog 2 2 x14), .vec 0 (rowsD x15)] rfl Try.call73 rfl rfl (impl_Colouring_joins_ac p0 x4 x13 p1 _ hr19) rfl ?_
          refine kM 2 rfl ?_
          refine AOps_case 66 _ rfl (fun hb20 => ?_) (fun hb20 => ?_)
          ·have h := iteT hb20 h
           refine kM 3 rfl ?_
           obtain ⟨hc21, h⟩ := guardO h
           refine AOps_q 70 _ rfl rfl rfl (QOp_shl _ _ _ _ _ _ _ _ hc21 rfl rfl rfl) ?_
           refine AOps_q 71 _ rfl rfl rfl (QOp_andNot _ _ _ _ _ _ _ rfl rfl rfl) ?_
           obtain ⟨r22, hr22, h⟩ := bindO h
           refine kC [0] 72 (iV r22.1) [.mp m1 (mapI Try.prog 2 2 r22.2), .vec 0 (rowsD x15)] rfl Try.call89 rfl rfl (impl_matcher_behind_ac k (⟨p0, p1⟩ : Lon) x14 (bAndNot .i64 (bAndNot .i64 x3 (bShl .i64 1 x4)) (bShl .i64 1 x13)) _ hr22) rfl ?_
           refine AOps_q 73 _ rfl rfl rfl (QOp_add _ _ _ _ _ _ _ rfl rfl rfl) ?_
           refine kM 1 rfl ?_
           refine AOps_q 75 _ rfl rfl rfl (QOp_eql _ _ _ _ _ _ _ rfl rfl rfl) ?_
           refine kN 1 rfl ?_
           cases h
           exact Weak_keep 0 hm [0, 1, 5, 6, 7, 8, 9, 10, 11, 27, 28, 76] [0, 1] _ _ rfl rfl rfl
          have h := iteF hb20 h
          refine AOps_skip 67 rfl rfl rfl ?_
          refine AOps_skip 68 rfl rfl rfl ?_
          refine AOps_skip 69 rfl rfl rfl ?_
          refine AOps_skip 70 rfl rfl rfl ?_
          refine AOps_skip 71 rfl rfl rfl ?_
          refine AOps_skip 72 rfl rfl rfl ?_
          refine AOps_skip 73 rfl rfl rfl ?_
          refine AOps_skip 74 rfl rfl rfl ?_
          refine AOps_skip 75 rfl rfl rfl ?_
          refine kN 1 rfl ?_
          cases h
          exact Weak_keep 0 hm [0, 1, 5, 6, 7, 8, 9, 10, 11, 27, 28, 76] [0, 1] _ _ rfl rfl rfl
         have h := iteF hb18 h
         refine AOps_skip 60 rfl rfl rfl ?_
         refine AOps_skip 61 rfl rfl rfl ?_
         refine AOps_skip 62 rfl rfl rfl ?_
         refine AOps_skip 63 rfl rfl rfl ?_
         refine AOps_skip 64 rfl rfl rfl ?_
         refine kM 2 rfl ?_
         refine AOps_skip 67 rfl rfl rfl ?_
         refine AOps_skip 68 rfl rfl rfl ?_
         refine AOps_skip 69 rfl rfl rfl ?_
         refine AOps_skip 70 rfl rfl rfl ?_
         refine AOps_skip 71 rfl rfl rfl ?_
         refine AOps_skip 72 rfl rfl rfl ?_
         refine AOps_skip 73 rfl rfl rfl ?_
         refine AOps_skip 74 rfl rfl rfl ?_
         refine AOps_skip 75 rfl rfl rfl ?_
         refine kN 1 rfl ?_
         cases h
         exact Weak_keep 0 hm [0, 1, 5, 6, 7, 8, 9, 10, 11, 27, 28, 76] [0, 1] _ _ rfl rfl rfl
        refine kI h rfl (fun h _ => ?_) (fun h _ => ?_)
        ·refine ACode_seq (ACode_anyU mixed ?_)
         refine AU_u 0 77 _ rfl (by kernel_rfl) rfl rfl rfl (UOp_move _ _ rfl rfl) ?_
         refine AU_u 1 78 _ rfl (by kernel_rfl) rfl rfl rfl (UOp_move _ _ rfl rfl) ?_
         refine AU_u 2 79 _ rfl (by kernel_rfl) rfl rfl rfl (UOp_move _ _ rfl rfl) ?_
         refine AU_u 6 83 _ rfl (by kernel_rfl) rfl rfl rfl (UOp_move _ _ rfl rfl) ?_
         refine AU_u 7 84 _ rfl (by kernel_rfl) rfl rfl rfl (UOp_move _ _ rfl rfl) ?_
         obtain ⟨hc25, h⟩ := guardO h
         refine AU_u 8 85 _ rfl (by kernel_rfl) rfl rfl rfl (UOp_shl _ _ _ _ _ _ _ _ hc25 rfl rfl rfl) ?_
         refine AU_u 9 86 _ rfl (by kernel_rfl) rfl rfl rfl (UOp_andNot _ _ _ _ _ _ _ rfl rfl rfl) ?_
         refine AU_all [3] (by kernel_rfl) rfl (allc ?_ (fun _ h => nomatch h))
         refine US_of 3 rfl rfl ?_
         refine AOps_buildSlice 80 _ _ _ [_, _] (intsD ([x4, x13])) _ rfl rfl rfl rfl rfl (by decide) Try.underlying34 Try.sizeOf2 (zero_of Try.typeInfo2 rfl) rfl rfl (intsD_one _) ?_
         refine AOps_nil ?_
         refine AU_all [4] (by kernel_rfl) rfl (allc ?_ (fun _ h => nomatch h))
         refine US_of 4 rfl rfl ?_
         refine AOps_freeze 80 2 0 _ rfl rfl ?_
         refine AOps_buildSlice 81 _ _ _ [_] (rowsD ([[x4, x13]])) _ rfl rfl rfl rfl rfl (by decide) Try.underlying45 Try.sizeOf34 (zero_of Try.typeInfo34 rfl) rfl rfl (rowsD_one _) ?_
         refine AOps_nil ?_
         refine AU_all [5] (by kernel_rfl) rfl (allc ?_ (fun _ h => nomatch h))
         refine US_of 5 rfl rfl ?_
         obtain ⟨hc26, h⟩ := guardO h
         refine AOps_append 82 _ _ _ _ _ _ _ _ _ _ _ _ rfl rfl rfl rfl rfl rfl rfl Try.underlying45 Try.type34 rfl rfl rfl (by decide) rfl rfl rfl rfl (rowsD_one _) (by rw [rowsD_length, rowsD_length]; exact hc26) ?_
         rw [rowsD_app]
         refine AOps_nil ?_
         refine AU_u 10 6 _ rfl (by kernel_rfl) rfl rfl rfl (UOp_assign _ _ rfl rfl) ?_
         refine AU_u 11 7 _ rfl (by kernel_rfl) rfl rfl rfl (UOp_assign _ _ rfl rfl) ?_
         refine AU_done (by kernel_rfl) ?_
         refine ACode_exit ?_
         obtain ⟨rr, hz30, h2⟩ := bindO h
         obtain rfl := Option.some.inj h2
         obtain rfl := Option.some.inj (show some rr = some _ from hks27)
         have h := hz30
         cases h
         exact Weak_trans (Weak_keep 0 hm [0, 1, 5, 6, 7, 27, 28] [0, 1] _ _ rfl rfl rfl) (Weak_reset 0 hm hz [0, 1, 5, 6, 7, 27, 28] _ _ rfl rfl)
        refine ACode_skip ?_
        cases h
        exact ⟨_, rfl, Weak_keep 0 hm [0, 1, 5, 6, 7, 8, 9, 10, 11, 27, 28] [0, 1] _ _ rfl rfl rfl⟩
       refine (ACode_region ?_)
       refine kM 1 rfl ?_
       refine AOps_q 53 _ rfl rfl rfl (QOp_add _ _ _ _ _ _ _ rfl rfl rfl) ?_
       refine kN 1 rfl ?_
       exact ⟨k1, _, _, Nat.lt_succ_self _, Weak_keep 0 hm [0, 1, 5, 6, 7, 8, 9, 10, 11, 27, 28] [0, 1] _ _ rfl rfl rfl, _, _, _, _, rfl, rfl, h⟩
      refine ACode_exit ?_
      cases h
      exact Weak_keep 0 hm [0, 1, 5, 6, 7, 27, 28] [0, 1] _ _ rfl rfl rfl
    refine (ACode_region ?_)
    refine AOps_q 87 _ rfl rfl rfl (QOp_add _ _ _ _ _ _ _ rfl rfl rfl) ?_
    refine kN 1 rfl ?_
    exact ⟨k0, _, _, Nat.lt_succ_self _, Weak_keep 0 hm [0, 1, 5, 6, 7, 27, 28] [0, 1] _ _ rfl rfl rfl, _, _, _, _, rfl, rfl, h⟩
   refine ACode_exit ?_
   cases h
   exact Weak_keep 0 hm [6] [1] _ _ rfl rfl rfl
 refine kR ?_
 refine kN 2 rfl ?_
 refine ACode_ret ?_
 cases h
 exact ⟨_, _, Weak_reset 0 hm hz [4] _ _ rfl rfl, _, _, [0], _, (.cons (ResV_tmp _ _ rfl) .nil), rfl, rfl, rfl, rfl, rfl⟩

-- loop.example/g01362/impl.size[[]int64]
def impl_size_R (p0 : List (List Int)) : Int :=
 (p0.length : Int)
set_option maxRecDepth 100000 in
theorem impl_size_R_ac (p0 : List (List Int)) : AC Try.prog 52 [.d (.sl none (rowsD p0))] [] (fun res H' => res = [iV (impl_size_R p0)] ∧ H' = []) := by
 refine AC_of_body true Try.func52 rfl Try.ntmps52 (rvs := [.tmp 2]) rfl rfl (fun G hG => ?_)
 have hm : G.H.length = 0 := by rw [hG]; rfl
 have hz : zeroG G.H = true := by rw [hG]; rfl
 obtain ⟨r, h⟩ : ∃ r, impl_size_R p0 = r := ⟨_, rfl⟩
 rw [h]
 unfold impl_size_R at h
 refine kR ?_
 refine kN 1 rfl ?_
 refine kR ?_
 refine kM 1 rfl ?_
 refine AOps_q 4 _ rfl rfl rfl (QOp_len_sl _ _ _ _ _ _ _ (rowsD_length _) rfl rfl rfl rfl Try.underlying45 rfl) ?_
 refine kN 1 rfl ?_
 refine ACode_ret ?_
 cases h
 exact ⟨_, _, fun r a w h => ⟨r, h⟩, _, _, [], _, (.cons (ResV_tmp _ _ rfl) .nil), rfl, rfl, rfl, rfl, rfl⟩

-- (*loop.example/g01362/impl.Colouring).double$1
def impl_Colouring_double_c1 (p0 : Int) (p1 : Col) (p2 : Int) (p3 : Int) (p4 : Int) : Option (Bool) :=
 ((impl_Colouring_joins p1 p2 p0 p3).bind fun r1 => (if r1 then (impl_Colouring_joins p1 p4 p0 p3).bind fun r3 => some r3 else some false) : Option (Bool)).bind fun s4 => some s4
set_option maxRecDepth 100000 in
theorem impl_Colouring_double_c1_ac (p0 : Int) (p1 : Col) (p2 : Int) (p3 : Int) (p4 : Int) (r : Bool) (h : impl_Colouring_double_c1 p0 p1 p2 p3 p4 = some r) : AC Try.prog 90 [iV p0, .d (.pv ([.pv (colD p1) 0]) 0), .d (.pv ([iD p2]) 0), .d (.pv ([iD p3]) 0), .d (.pv ([iD p4]) 0)] [] (fun res H' => res = [bV r] ∧ H' = []) := by
 refine AC_of_body true Try.func90 rfl Try.ntmps90 (rvs := [.tmp 6]) rfl rfl (fun G hG => ?_)
 have hm : G.H.length = 0 := by rw [hG]; rfl
 have hz : zeroG G.H = true := by rw [hG]; rfl
 unfold impl_Colouring_double_c1 at h
 refine kR ?_
 refine kN 1 rfl ?_
 refine kB (fun s4 => [(6, bV s4)]) (fun s4 => []) h (fun s4 h => ?_) (fun s4 h => ?_)
 ·refine (ACode_region ?_)
  refine AOps_q 7 _ rfl rfl rfl (QOp_load_pv _ _ _ _ _ rfl Try.isAgg96 rfl rfl) ?_
  refine AOps_q 8 _ rfl rfl rfl (QOp_load_pv _ _ _ _ _ rfl Try.isAgg2 rfl rfl) ?_
  refine kM 1 rfl ?_
  refine AOps_q 10 _ rfl rfl rfl (QOp_load_pv _ _ _ _ _ rfl Try.isAgg2 rfl rfl) ?_
  obtain ⟨r1, hr1, h⟩ := bindO h
  refine kC [] 11 (bV r1) [] rfl Try.call73 rfl rfl (impl_Colouring_joins_ac p1 p2 p0 p3 _ hr1) rfl ?_
  refine kM 1 rfl ?_
  refine AOps_case 12 _ rfl (fun hb2 => ?_) (fun hb2 => ?_)
  ·have h := iteT hb2 h
   refine AOps_q 13 _ rfl rfl rfl (QOp_load_pv _ _ _ _ _ rfl Try.isAgg96 rfl rfl) ?_
   refine AOps_q 14 _ rfl rfl rfl (QOp_load_pv _ _ _ _ _ rfl Try.isAgg2 rfl rfl) ?_
   refine kM 1 rfl ?_
   refine AOps_q 16 _ rfl rfl rfl (QOp_load_pv _ _ _ _ _ rfl Try.isAgg2 rfl rfl) ?_
   obtain ⟨r3, hr3, h⟩ := bindO h
   refine kC [] 17 (bV r3) [] rfl Try.call73 rfl rfl (impl_Colouring_joins_ac p1 p4 p0 p3 _ hr3) rfl ?_
   refine kN 2 rfl ?_
   cases h
   exact Weak_keep 0 hm [6] [] _ _ rfl rfl rfl
  have h := iteF hb2 h
  refine AOps_skip 13 rfl rfl rfl ?_
  refine AOps_skip 14 rfl rfl rfl ?_
  refine AOps_skip 15 rfl rfl rfl ?_
  refine AOps_skip 16 rfl rfl rfl ?_
  refine AOps_skip 17 rfl rfl rfl ?_
  refine kN 2 rfl ?_
  cases h
  exact Weak_keep 0 hm [6] [] _ _ rfl rfl rfl
 refine ACode_ret ?_
 cases h
 exact ⟨_, _, fun r a w h => ⟨r, h⟩, _, _, [], _, (.cons (ResV_tmp _ _ rfl) .nil), rfl, rfl, rfl, rfl, rfl⟩

-- (*loop.example/g01362/impl.Colouring).double
def impl_Colouring_double_l1 (k : Nat) (p0 : Col) (p1 : Int) (p2 : Bool) (x3 : Int) : Nat → (List Int) → Int → Int → Option (List Int × Int)
 | 0, _, _, _ => none
 | k1 + 1, x5, x6, x7 => (if decide (x7 < p0.p) then ((((if p2 then (impl_Colouring_joins p0 x3 x7 p1).bind fun r10 => some (!r10) else some false) : Option (Bool)).bind fun s11 => (if s11 then (some (x5, x6)).bind fun rr => some (.inr rr) else some (.inl ())) : Option (Sum (Unit) (List Int × Int))).bind fun os13 => (match os13 with | .inl s13 => (impl_Colouring_that k p0 (fun a0 => impl_Colouring_double_c1 a0 p0 x3 p1 x7)).bind fun r14 => (if decide (x6 < (impl_size r14)) then some ([x3, x7], (impl_size r14)) else some (x5, x6)) | .inr rr => some rr) : Option (List Int × Int)).bind fun s17 => impl_Colouring_double_l1 k p0 p1 p2 x3 k1 s17.1 s17.2 (w64 (x7 + 1)) else some (x5, x6))
def impl_Colouring_double_l0 (k : Nat) (p0 : Col) (p1 : Int) (p2 : Bool) : Nat → (List Int) → Int → Int → Option (List Int × Int)
 | 0, _, _, _ => none
 | k0 + 1, x1, x2, x3 => (if decide (x3 < p0.p) then (impl_Colouring_double_l1 k p0 p1 p2 x3 k x1 x2 (w64 (x3 + 1)) : Option (List Int × Int)).bind fun s18 => impl_Colouring_double_l0 k p0 p1 p2 k0 s18.1 s18.2 (w64 (x3 + 1)) else some (x1, x2))
def impl_Colouring_double (k : Nat) (p0 : Col) (p1 : Int) (p2 : Bool) : Option (List Int × Int) :=
 (impl_Colouring_double_l0 k p0 p1 p2 k ([]) (-1) 0 : Option (List Int × Int)).bind fun s19 => some (s19.1, s19.2)
set_option maxRecDepth 100000 in
theorem impl_Colouring_double_ac (k : Nat) (p0 : Col) (p1 : Int) (p2 : Bool) (r : List Int × Int) (h : impl_Colouring_double k p0 p1 p2 = some r) : AC Try.prog 54 [.d (.pv (colD p0) 0), iV p1, bV p2] [] (fun res H' => res = [.d (.sl none (intsD r.1)), iV r.2] ∧ H' = []) := by
 refine AC_of_body true Try.func54 rfl Try.ntmps54 (rvs := [.tmp 6, .tmp 7]) rfl rfl (fun G hG => ?_)
 have hm : G.H.length = 0 := by rw [hG]; rfl
 have hz : zeroG G.H = true := by rw [hG]; rfl
 unfold impl_Colouring_double at h
 refine kR ?_
 refine AOps_boxI 3 _ _ (.pv (colD p0) 0) _ rfl (fun c hc => by cases hc with | head => rfl | tail _ h => cases h) rfl rfl rfl rfl rfl ?_
 refine AOps_boxI 4 _ _ (iD p1) _ rfl (fun c hc => by cases hc with | head => rfl | tail _ h => cases h) rfl rfl rfl rfl rfl ?_
 refine kN 2 rfl ?_
 refine kR ?_
 refine kN 1 rfl ?_
 refine kR ?_
 refine kN 1 rfl ?_
 refine kB (fun s19 => [(8, .d (.sl none (intsD s19.1))), (9, iV s19.2)]) (fun s19 => []) h (fun s19 h => ?_) (fun s19 h => ?_)
 ·refine kR ?_
  refine AOps_q 13 _ rfl rfl rfl (QOp_load_pv _ _ _ _ _ rfl Try.isAgg96 rfl rfl) ?_
  refine AOps_q 14 _ rfl rfl rfl (QOp_nilCheck_pv _ _ _ rfl rfl) ?_
  refine AOps_q 15 _ rfl rfl rfl (QOp_fieldAddr_pv _ _ _ _ _ 0 _ _ rfl Try.underlying27 rfl _ Try.sizeOf2 rfl rfl) ?_
  refine AOps_q 16 _ rfl rfl rfl (QOp_load_pv _ _ _ _ _ rfl Try.isAgg2 rfl rfl) ?_
  refine kN 1 rfl ?_
  refine ACode_block ?_
  refine ACode_loopW (fun k0 E H => ∃ (x1 : List Int) (x2 : Int) (x3 : Int), E = [(2, bV p2), (3, .d (.pv ([.pv (colD p0) 0]) 0)), (4, .d (.pv ([iD p1]) 0)), (8, .d (.sl none (intsD x1))), (9, iV x2), (16, iV p0.p), (17, iV x3)] ∧ H = [] ∧ impl_Colouring_double_l0 k p0 p1 p2 k0 x1 x2 x3 = some s19) k _ _ (Weak_trans (Weak_dropF 8 _ _ rfl) (Weak_keep 0 hm [2, 3, 4, 8, 9, 16, 17] [] _ _ rfl rfl rfl)) ⟨_, _, _, rfl, rfl, h⟩ ?_
  clear h
  rintro k0 E H ⟨x1, x2, x3, rfl, rfl, h⟩
  cases k0 with
  | zero => cases (show (none : Option (List Int × Int)) = some _ from h)
  | succ k0 =>
   rw [impl_Colouring_double_l0] at h
   refine kR ?_
   refine AOps_q 18 _ rfl rfl rfl (QOp_lss _ _ _ _ _ _ _ rfl rfl rfl) ?_
   refine AOps_nil ?_
   refine ACode_seq ?_
   refine kI h rfl (fun h _ => ?_) (fun h _ => ?_)
   ·refine ACode_skip ?_
    refine kB (fun s18 => [(2, bV p2), (3, .d (.pv ([.pv (colD p0) 0]) 0)), (4, .d (.pv ([iD p1]) 0)), (8, .d (.sl none (intsD s18.1))), (9, iV s18.2), (16, iV p0.p), (17, iV x3)]) (fun s18 => []) h (fun s18 h => ?_) (fun s18 h => ?_)
    ·refine ACode_block ?_
     refine kR ?_
     refine kM 1 rfl ?_
     refine AOps_alloc 10 _ _ ([iD 0]) (zero_of Try.typeInfo2 rfl) (by rfl) rfl rfl rfl rfl ?_
     refine AOps_store1 _ _ _ _ _ _ _ _ rfl rfl rfl rfl rfl rfl rfl Try.sizeOf2 (Nat.le_of_ble_eq_true rfl) rfl ?_
     refine AOps_nil ?_
     refine kR ?_
     refine AOps_q 20 _ rfl rfl rfl (QOp_load_ptr _ _ _ _ _ _ rfl Try.isAgg2 rfl rfl rfl) ?_
     refine AOps_q 21 _ rfl rfl rfl (QOp_add _ _ _ _ _ _ _ rfl rfl rfl) ?_
     refine AOps_alloc 11 _ _ ([iD 0]) (zero_of Try.typeInfo2 rfl) (by rfl) rfl rfl rfl rfl ?_
     refine AOps_store1 _ _ _ _ _ _ _ _ rfl rfl rfl rfl rfl rfl rfl Try.sizeOf2 (Nat.le_of_ble_eq_true rfl) rfl ?_
     refine AOps_nil ?_
     refine ACode_block ?_
     refine ACode_loopW (fun k1 E H => ∃ (x5 : List Int) (x6 : Int) (x7 : Int), E = [(2, bV p2), (3, .d (.pv ([.pv (colD p0) 0]) 0)), (4, .d (.pv ([iD p1]) 0)), (8, .d (.sl none (intsD x5))), (9, iV x6), (10, .ptr 0 0), (11, .ptr 1 0), (16, iV p0.p), (17, iV x3)] ∧ H = [.box [iD x3], .box [iD x7]] ∧ impl_Colouring_double_l1 k p0 p1 p2 x3 k1 x5 x6 x7 = some s18) k _ _ (Weak_keep 0 hm [2, 3, 4, 8, 9, 10, 11, 16, 17] [0, 1] _ _ rfl rfl rfl) ⟨_, _, _, rfl, rfl, h⟩ ?_
     clear h
     rintro k1 E H ⟨x5, x6, x7, rfl, rfl, h⟩
     cases k1 with
     | zero => cases (show (none : Option (List Int × Int)) = some _ from h)
     | succ k1 =>
      rw [impl_Colouring_double_l1] at h
      refine ACode_seq ?_
      refine ACode_seq (ACode_quiet mixed (by kernel_rfl) ?_)
      refine AQ_q 22 _ rfl rfl rfl (QOp_load_ptr _ _ _ _ _ _ rfl Try.isAgg2 rfl rfl rfl) ?_
      refine AQ_q 23 _ rfl rfl rfl (QOp_load_pv _ _ _ _ _ rfl Try.isAgg96 rfl rfl) ?_
      refine AQ_q 24 _ rfl rfl rfl (QOp_nilCheck_pv _ _ _ rfl rfl) ?_
      refine AQ_q 25 _ rfl rfl rfl (QOp_fieldAddr_pv _ _ _ _ _ 0 _ _ rfl Try.underlying27 rfl _ Try.sizeOf2 rfl rfl) ?_
      refine AQ_q 26 _ rfl rfl rfl (QOp_load_pv _ _ _ _ _ rfl Try.isAgg2 rfl rfl) ?_
      refine AQ_q 27 _ rfl rfl rfl (QOp_lss _ _ _ _ _ _ _ rfl rfl rfl) ?_
      refine AQ_nil ?_
      refine kI h rfl (fun h _ => ?_) (fun h _ => ?_)
      ·refine ACode_skip ?_
       refine kB (fun s17 => [(2, bV p2), (3, .d (.pv ([.pv (colD p0) 0]) 0)), (4, .d (.pv ([iD p1]) 0)), (8, .d (.sl none (intsD s17.1))), (9, iV s17.2), (10, .ptr 0 0), (11, .ptr 1 0), (16, iV p0.p), (17, iV x3)]) (fun s17 => [.box [iD x3], .box [iD x7]]) h (fun s17 h => ?_) (fun s17 h => ?_)
       ·refine ACode_block ?_
        refine kO (fun s13 => [(2, bV p2), (3, .d (.pv ([.pv (colD p0) 0]) 0)), (4, .d (.pv ([iD p1]) 0)), (8, .d (.sl none (intsD x5))), (9, iV x6), (10, .ptr 0 0), (11, .ptr 1 0), (16, iV p0.p), (17, iV x3)]) (fun s13 => [.box [iD x3], .box [iD x7]]) h (fun os13 h hks13 => ?_) (fun s13 h => ?_)
        ·refine kB (fun s11 => [(2, bV p2), (3, .d (.pv ([.pv (colD p0) 0]) 0)), (4, .d (.pv ([iD p1]) 0)), (8, .d (.sl none (intsD x5))), (9, iV x6), (10, .ptr 0 0), (11, .ptr 1 0), (16, iV p0.p), (17, iV x3), (38, bV s11)]) (fun s11 => [.box [iD x3], .box [iD x7]]) h (fun s11 h => ?_) (fun s11 h => ?_)
         ·refine (ACode_region ?_)
          refine kM 2 rfl ?_
          refine AOps_case 31 _ rfl (fun hb9 => ?_) (fun hb9 => ?_)
          ·have h := iteT hb9 h
           refine AOps_q 32 _ rfl rfl rfl (QOp_load_pv _ _ _ _ _ rfl Try.isAgg96 rfl rfl) ?_
           refine AOps_q 33 _ rfl rfl rfl (QOp_load_ptr _ _ _ _ _ _ rfl Try.isAgg2 rfl rfl rfl) ?_
           refine AOps_q 34 _ rfl rfl rfl (QOp_load_ptr _ _ _ _ _ _ rfl Try.isAgg2 rfl rfl rfl) ?_
           refine AOps_q 35 _ rfl rfl rfl (QOp_load_pv _ _ _ _ _ rfl Try.isAgg2 rfl rfl) ?_
           obtain ⟨r10, hr10, h⟩ := bindO h
           refine kC [] 36 (bV r10) [.box [iD x3], .box [iD x7]] rfl Try.call73 rfl rfl (impl_Colouring_joins_ac p0 x3 x7 p1 _ hr10) rfl ?_
           refine AOps_q 37 _ rfl rfl rfl (QOp_not _ _ _ rfl rfl) ?_
           refine kN 1 rfl ?_
           cases h
           exact Weak_keep 0 hm [2, 3, 4, 8, 9, 10, 11, 16, 17, 38] [0, 1] _ _ rfl rfl rfl
          have h := iteF hb9 h
          refine AOps_skip 32 rfl rfl rfl ?_
          refine AOps_skip 33 rfl rfl rfl ?_
          refine AOps_skip 34 rfl rfl rfl ?_
          refine AOps_skip 35 rfl rfl rfl ?_
          refine AOps_skip 36 rfl rfl rfl ?_
          refine AOps_skip 37 rfl rfl rfl ?_
          refine kN 1 rfl ?_
          cases h
          exact Weak_keep 0 hm [2, 3, 4, 8, 9, 10, 11, 16, 17, 38] [0, 1] _ _ rfl rfl rfl
         refine kI h rfl (fun h _ => ?_) (fun h _ => ?_)
         ·refine ACode_exit ?_
          obtain ⟨rr, hz20, h2⟩ := bindO h
          obtain rfl := Option.some.inj h2
          obtain rfl := Option.some.inj (show some rr = some _ from hks13)
          have h := hz20
          cases h
          exact Weak_keep 0 hm [2, 3, 4, 8, 9, 10, 11, 16, 17] [0, 1] _ _ rfl rfl rfl
         refine ACode_skip ?_
         cases h
         exact ⟨_, rfl, Weak_keep 0 hm [2, 3, 4, 8, 9, 10, 11, 16, 17] [0, 1] _ _ rfl rfl rfl⟩
        refine kR ?_
        refine AOps_q 39 _ rfl rfl rfl (QOp_load_pv _ _ _ _ _ rfl Try.isAgg96 rfl rfl) ?_
        refine AOps_q 40 _ rfl rfl rfl (QOp_makeFunc _ _ _ rfl rfl) ?_
        obtain ⟨r14, hr14, h⟩ := bindO h
        refine AOps_callL [] 41 _ _ _ _ _ _ _ _ _ _ rfl rfl rfl rfl rfl rfl rfl Try.call71 rfl (nodupB_sound _ rfl) rfl rfl rfl (impl_Colouring_that_ac k p0 (fun a0 => impl_Colouring_double_c1 a0 p0 x3 p1 x7) 90 ([.pv ([.pv (colD p0) 0]) 0, .pv ([iD x3]) 0, .pv ([iD p1]) 0, .pv ([iD x7]) 0]) Try.call90 (fun a0 r h => impl_Colouring_double_c1_ac a0 p0 x3 p1 x7 r h) _ hr14) ?_
        rintro _ _ ⟨rfl, rfl⟩
        refine ⟨(allc (intsD_flat _) (fun _ h => nomatch h)), (allc (trivial) (fun _ h => nomatch h)), AOps_as 41 (v' := .vec 2 0) (H' := [.box [iD x3], .box [iD x7], .vec 0 (intsD r14)]) rfl rfl ?_⟩
        refine AOps_callL [] 42 _ _ _ _ _ _ _ _ _ _ rfl rfl rfl rfl rfl rfl rfl Try.call48 rfl (nodupB_sound _ rfl) rfl rfl rfl (impl_size_ac r14) ?_
        rintro _ _ ⟨rfl, rfl⟩
        refine ⟨(fun _ h => nomatch h), (allc (flat_s _) (fun _ h => nomatch h)), AOps_as 42 (v' := iV (impl_size r14)) (H' := [.box [iD x3], .box [iD x7], .vec 0 (intsD r14)]) rfl rfl ?_⟩
        refine kN 1 rfl ?_
        refine kR ?_
        refine kM 2 rfl ?_
        refine AOps_q 45 _ rfl rfl rfl (QOp_gtr _ _ _ _ _ _ _ rfl rfl rfl) ?_
        refine AOps_nil ?_
        refine kI h rfl (fun h _ => ?_) (fun h _ => ?_)
        ·refine (ACode_region ?_)
         refine AOps_q 46 _ rfl rfl rfl (QOp_load_ptr _ _ _ _ _ _ rfl Try.isAgg2 rfl rfl rfl) ?_
         refine AOps_q 47 _ rfl rfl rfl (QOp_load_ptr _ _ _ _ _ _ rfl Try.isAgg2 rfl rfl rfl) ?_
         refine AOps_buildSlice 48 _ _ _ [_, _] (intsD ([x3, x7])) _ rfl rfl rfl rfl rfl (by decide) Try.underlying34 Try.sizeOf2 (zero_of Try.typeInfo2 rfl) rfl rfl (intsD_one _) ?_
         refine kN 3 rfl ?_
         cases h
         exact Weak_trans (Weak_frz [8, 48] [] 3 0 _ (allc (rfl) (allc (rfl) (fun _ h => nomatch h))) (fun _ h => nomatch h) rfl) (Weak_keep 0 hm [2, 3, 4, 8, 9, 10, 11, 16, 17] [0, 1] _ _ rfl rfl rfl)
        refine ACode_skip ?_
        cases h
        exact Weak_keep 0 hm [2, 3, 4, 8, 9, 10, 11, 16, 17] [0, 1] _ _ rfl rfl rfl
       refine ACode_seq ?_
       refine kR ?_
       refine AOps_q 50 _ rfl rfl rfl (QOp_load_ptr _ _ _ _ _ _ rfl Try.isAgg2 rfl rfl rfl) ?_
       refine AOps_nil ?_
       refine (ACode_region ?_)
       refine AOps_alloc 11 _ _ ([iD 0]) (zero_of Try.typeInfo2 rfl) (by rfl) rfl rfl rfl rfl ?_
       refine AOps_store1 _ _ _ _ _ _ _ _ rfl rfl rfl rfl rfl rfl rfl Try.sizeOf2 (Nat.le_of_ble_eq_true rfl) rfl ?_
       refine AOps_nil ?_
       refine (ACode_region ?_)
       refine AOps_q 28 _ rfl rfl rfl (QOp_load_ptr _ _ _ _ _ _ rfl Try.isAgg2 rfl rfl rfl) ?_
       refine AOps_q 29 _ rfl rfl rfl (QOp_add _ _ _ _ _ _ _ rfl rfl rfl) ?_
       refine AOps_store1 _ _ _ _ _ _ _ _ rfl rfl rfl rfl rfl rfl rfl Try.sizeOf2 (Nat.le_of_ble_eq_true rfl) rfl ?_
       refine AOps_nil ?_
       exact ⟨k1, _, _, Nat.lt_succ_self _, Weak_keep 0 hm [2, 3, 4, 8, 9, 10, 11, 16, 17] [0, 2] _ _ rfl rfl rfl, _, _, _, rfl, rfl, h⟩
      refine ACode_exit ?_
      cases h
      exact Weak_keep 0 hm [2, 3, 4, 8, 9, 16, 17] [] _ _ rfl rfl rfl
    refine (ACode_region ?_)
    refine AOps_q 51 _ rfl rfl rfl (QOp_add _ _ _ _ _ _ _ rfl rfl rfl) ?_
    refine kN 1 rfl ?_
    exact ⟨k0, _, _, Nat.lt_succ_self _, Weak_keep 0 hm [2, 3, 4, 8, 9, 16, 17] [] _ _ rfl rfl rfl, _, _, _, rfl, rfl, h⟩
   refine ACode_exit ?_
   cases h
   exact Weak_keep 0 hm [8, 9] [] _ _ rfl rfl rfl
 refine kR ?_
 refine kN 4 rfl ?_
 refine ACode_ret ?_
 cases h
 exact ⟨_, _, fun r a w h => ⟨r, h⟩, _, _, [], _, (.cons (ResV_tmp _ _ rfl) (.cons (ResV_tmp _ _ rfl) .nil)), rfl, rfl, rfl, rfl, rfl⟩

-- loop.example/g01362/impl.AvoidsPattern
def impl_AvoidsPattern (k : Nat) (p0 : Col) (p1 : Int) (p2 : Int) (p3 : Int) : Option (Bool × Int) :=
 ((if (impl_in p2 0 5) then (impl_Colouring_colourCode k p0 p1 (impl_in p3 1 17)).bind fun r4 => some r4 else (impl_Colouring_colourCode k p0 p1 false).bind fun r5 => some r5) : Option (Int)).bind fun s6 => letO (letO (if decide (s6 = 0) then (if decide (p2 ≤ 1) then decide (11 < p0.p) else false) else false) fun (s9 : Bool) => (if s9 then 3 else s6)) fun (s11 : Int) => (if !decide (s11 = 0) then some (false, s11) else (if decide (p2 = 0) then (impl_Colouring_path k p0 p1).bind fun r14 => some (decide ((impl_size r14) < p3), 0) else (if decide (p2 = 1) then (impl_Colouring_firstCycle k p0 p1 p3).bind fun r17 => (match r17 with | none => some (true, 0) | some l18 => some (false, 0)) else (if decide (p2 = 2) then (impl_Colouring_star k p0 p1).bind fun r21 => some (decide (r21.2 < p3), 0) else (if decide (p2 = 3) then (impl_Colouring_matching k p0 p1).bind fun r23 => some (decide ((impl_size_R r23) < p3), 0) else (impl_Colouring_double k p0 p1 (decide (p2 = 5))).bind fun r25 => some (decide (r25.2 < p3), 0))))))
set_option maxRecDepth 100000 in
theorem impl_AvoidsPattern_ac (k : Nat) (p0 : Col) (p1 : Int) (p2 : Int) (p3 : Int) (r : Bool × Int) (h : impl_AvoidsPattern k p0 p1 p2 p3 = some r) : AC Try.prog 8 [.d (.agg (colD p0)), iV p1, iV p2, iV p3] [] (fun res H' => res = [bV r.1, iV r.2] ∧ H' = []) := by
 refine AC_of_body true Try.func8 rfl Try.ntmps8 (rvs := [.tmp 8, .tmp 9]) rfl rfl (fun G hG => ?_)
 have hm : G.H.length = 0 := by rw [hG]; rfl
 have hz : zeroG G.H = true := by rw [hG]; rfl
 unfold impl_AvoidsPattern at h
 refine kR ?_
 refine AOps_boxI 4 _ _ (.agg (colD p0)) (colD p0) rfl (colD_one _) rfl rfl rfl rfl rfl ?_
 refine kN 2 rfl ?_
 refine kB (fun s6 => [(1, iV p1), (2, iV p2), (3, iV p3), (4, .d (.pv (colD p0) 0)), (10, iV s6)]) (fun s6 => []) h (fun s6 h => ?_) (fun s6 h => ?_)
 ·refine (ACode_region ?_)
  refine kM 2 rfl ?_
  refine kC [] 17 (bV (impl_in p2 0 5)) [] rfl Try.call47 rfl rfl (impl_in_ac p2 0 5) rfl ?_
  refine kM 1 rfl ?_
  refine AOps_case 18 _ rfl (fun hb2 => ?_) (fun hb2 => ?_)
  ·have h := iteT hb2 h
   refine kM 1 rfl ?_
   refine kC [] 20 (bV (impl_in p3 1 17)) [] rfl Try.call47 rfl rfl (impl_in_ac p3 1 17) rfl ?_
   refine kM 1 rfl ?_
   obtain ⟨r4, hr4, h⟩ := bindO h
   refine kC [] 22 (iV r4) [] rfl Try.call46 rfl rfl (impl_Colouring_colourCode_ac k p0 p1 (impl_in p3 1 17) _ hr4) rfl ?_
   refine kN 1 rfl ?_
   cases h
   exact Weak_keep 0 hm [1, 2, 3, 4, 10] [] _ _ rfl rfl rfl
  have h := iteF hb2 h
  refine AOps_skip 19 rfl rfl rfl ?_
  refine AOps_skip 20 rfl rfl rfl ?_
  refine kM 1 rfl ?_
  obtain ⟨r5, hr5, h⟩ := bindO h
  refine kC [] 22 (iV r5) [] rfl Try.call46 rfl rfl (impl_Colouring_colourCode_ac k p0 p1 false _ hr5) rfl ?_
  refine kN 1 rfl ?_
  cases h
  exact Weak_keep 0 hm [1, 2, 3, 4, 10] [] _ _ rfl rfl rfl
 refine kL (fun s11 => [(1, iV p1), (2, iV p2), (3, iV p3), (4, .d (.pv (colD p0) 0)), (10, iV s11)]) (fun s11 => []) h (fun s11 h => ?_) (fun s11 h => ?_)
 ·refine kL (fun s9 => [(1, iV p1), (2, iV p2), (3, iV p3), (4, .d (.pv (colD p0) 0)), (10, iV s6), (33, bV s9)]) (fun s9 => []) h (fun s9 h => ?_) (fun s9 h => ?_)
  ·refine (ACode_region ?_)
   refine kM 1 rfl ?_
   refine AOps_q 24 _ rfl rfl rfl (QOp_eql _ _ _ _ _ _ _ rfl rfl rfl) ?_
   refine kM 1 rfl ?_
   refine AOps_case 25 _ rfl (fun hb7 => ?_) (fun hb7 => ?_)
   ·have h := iteT hb7 h
    refine kM 1 rfl ?_
    refine AOps_q 27 _ rfl rfl rfl (QOp_leq _ _ _ _ _ _ _ rfl rfl rfl) ?_
    refine kM 2 rfl ?_
    refine AOps_case 29 _ rfl (fun hb8 => ?_) (fun hb8 => ?_)
    ·have h := iteT hb8 h
     refine AOps_q 30 _ rfl rfl rfl (QOp_fieldAddr_pv _ _ _ _ _ 0 _ _ rfl Try.underlying27 rfl _ Try.sizeOf2 rfl rfl) ?_
     refine AOps_q 31 _ rfl rfl rfl (QOp_load_pv _ _ _ _ _ rfl Try.isAgg2 rfl rfl) ?_
     refine AOps_q 32 _ rfl rfl rfl (QOp_gtr _ _ _ _ _ _ _ rfl rfl rfl) ?_
     refine kN 1 rfl ?_
     cases h
     exact Weak_keep 0 hm [1, 2, 3, 4, 10, 33] [] _ _ rfl rfl rfl
    have h := iteF hb8 h
    refine AOps_skip 30 rfl rfl rfl ?_
    refine AOps_skip 31 rfl rfl rfl ?_
    refine AOps_skip 32 rfl rfl rfl ?_
    refine kN 1 rfl ?_
    cases h
    exact Weak_keep 0 hm [1, 2, 3, 4, 10, 33] [] _ _ rfl rfl rfl
   have h := iteF hb7 h
   refine AOps_skip 26 rfl rfl rfl ?_
   refine AOps_skip 27 rfl rfl rfl ?_
   refine kM 2 rfl ?_
   refine AOps_skip 30 rfl rfl rfl ?_
   refine AOps_skip 31 rfl rfl rfl ?_
   refine AOps_skip 32 rfl rfl rfl ?_
   refine kN 1 rfl ?_
   cases h
   exact Weak_keep 0 hm [1, 2, 3, 4, 10, 33] [] _ _ rfl rfl rfl
  refine kI h rfl (fun h _ => ?_) (fun h _ => ?_)
  ·refine (ACode_region ?_)
   refine kN 1 rfl ?_
   cases h
   exact Weak_keep 0 hm [1, 2, 3, 4, 10] [] _ _ rfl rfl rfl
  refine ACode_skip ?_
  cases h
  exact Weak_keep 0 hm [1, 2, 3, 4, 10] [] _ _ rfl rfl rfl
 refine ACode_seq ?_
 refine kR ?_
 refine kM 1 rfl ?_
 refine AOps_q 35 _ rfl rfl rfl (QOp_neq _ _ _ _ _ _ _ rfl rfl rfl) ?_
 refine AOps_nil ?_
 refine kI h rfl (fun h _ => ?_) (fun h _ => ?_)
 ·refine kR ?_
  refine kN 3 rfl ?_
  refine ACode_ret ?_
  cases h
  exact ⟨_, _, fun r a w h => ⟨r, h⟩, _, _, [], _, (.cons (ResV_tmp _ _ rfl) (.cons (ResV_tmp _ _ rfl) .nil)), rfl, rfl, rfl, rfl, rfl⟩
 refine ACode_skip ?_
 refine ACode_seq ?_
 refine kR ?_
 refine kN 1 rfl ?_
 refine ACode_block ?_
 refine kR ?_
 refine AOps_q 39 _ rfl rfl rfl (QOp_eql _ _ _ _ _ _ _ rfl rfl rfl) ?_
 refine kN 1 rfl ?_
 refine kI h rfl (fun h _ => ?_) (fun h _ => ?_)
 ·refine kR ?_
  refine kM 1 rfl ?_
  obtain ⟨r14, hr14, h⟩ := bindO h
  refine kC [] 41 (.vec 0 0) [.vec 0 (intsD r14)] rfl Try.call49 rfl rfl (impl_Colouring_path_ac k p0 p1 _ hr14) rfl ?_
  refine AOps_callL [] 42 _ _ _ _ _ _ _ _ _ _ rfl rfl rfl rfl rfl rfl rfl Try.call48 rfl (nodupB_sound _ rfl) rfl rfl rfl (impl_size_ac r14) ?_
  rintro _ _ ⟨rfl, rfl⟩
  refine ⟨(fun _ h => nomatch h), (allc (flat_s _) (fun _ h => nomatch h)), AOps_as 42 (v' := iV (impl_size r14)) (H' := [.vec 0 (intsD r14)]) rfl rfl ?_⟩
  refine kM 1 rfl ?_
  refine AOps_q 44 _ rfl rfl rfl (QOp_lss _ _ _ _ _ _ _ rfl rfl rfl) ?_
  refine kN 2 rfl ?_
  refine ACode_ret ?_
  cases h
  exact ⟨_, _, fun r a w h => ⟨r, h⟩, _, _, [], _, (.cons (ResV_tmp _ _ rfl) (.cons (ResV_tmp _ _ rfl) .nil)), rfl, rfl, rfl, rfl, rfl⟩
 refine kR ?_
 refine AOps_q 46 _ rfl rfl rfl (QOp_eql _ _ _ _ _ _ _ rfl rfl rfl) ?_
 refine kN 1 rfl ?_
 refine kI h rfl (fun h _ => ?_) (fun h _ => ?_)
 ·refine kR ?_
  refine kM 2 rfl ?_
  obtain ⟨r17, hr17, h⟩ := bindO h
  refine AOps_call [] 49 _ _ _ _ _ _ _ _ _ _ rfl rfl rfl rfl rfl rfl rfl Try.call50 rfl (nodupB_sound _ rfl) rfl rfl rfl (impl_Colouring_firstCycle_ac k p0 p1 p3 _ hr17) ?_
  revert h
  cases hx19 : r17 with
  | none =>
   intro h
   rintro _ _ ⟨rfl, rfl⟩
   refine ⟨(fun _ h => nomatch h), (allc (trivial) (fun _ h => nomatch h)), AOps_as 49 (v' := .d (.sl (some true) [])) (H' := []) rfl rfl ?_⟩
   refine AOps_q 50 _ rfl rfl rfl (QOp_isnil _ _ _ _ _ _ _ rfl rfl rfl Try.underlying34) ?_
   refine kN 2 rfl ?_
   refine ACode_ret ?_
   cases h
   exact ⟨_, _, fun r a w h => ⟨r, h⟩, _, _, [], _, (.cons (ResV_tmp _ _ rfl) (.cons (ResV_tmp _ _ rfl) .nil)), rfl, rfl, rfl, rfl, rfl⟩
  | some l18 =>
   intro h
   rintro _ _ ⟨rfl, rfl⟩
   refine ⟨(allc (fun _ _ => trivial) (fun _ h => nomatch h)), (allc (trivial) (fun _ h => nomatch h)), AOps_as 49 (v' := .vec 0 0) (H' := [.vec 0 (intsD l18)]) rfl rfl ?_⟩
   refine AOps_q 50 _ rfl rfl rfl (QOp_vecnil _ _ _ _ _ _ _ _ rfl rfl rfl rfl Try.underlying34) ?_
   refine kN 2 rfl ?_
   refine ACode_ret ?_
   cases h
   exact ⟨_, _, fun r a w h => ⟨r, h⟩, _, _, [], _, (.cons (ResV_tmp _ _ rfl) (.cons (ResV_tmp _ _ rfl) .nil)), rfl, rfl, rfl, rfl, rfl⟩
 refine kR ?_
 refine AOps_q 52 _ rfl rfl rfl (QOp_eql _ _ _ _ _ _ _ rfl rfl rfl) ?_
 refine kN 1 rfl ?_
 refine kI h rfl (fun h _ => ?_) (fun h _ => ?_)
 ·refine kR ?_
  refine kM 1 rfl ?_
  obtain ⟨r21, hr21, h⟩ := bindO h
  refine kC [] 55 (.tup [iV r21.1, iV r21.2]) [] rfl Try.call51 rfl rfl (impl_Colouring_star_ac k p0 p1 _ hr21) rfl ?_
  refine kN 5 rfl ?_
  refine kR ?_
  refine kM 2 rfl ?_
  refine AOps_q 60 _ rfl rfl rfl (QOp_lss _ _ _ _ _ _ _ rfl rfl rfl) ?_
  refine kN 2 rfl ?_
  refine ACode_ret ?_
  cases h
  exact ⟨_, _, fun r a w h => ⟨r, h⟩, _, _, [], _, (.cons (ResV_tmp _ _ rfl) (.cons (ResV_tmp _ _ rfl) .nil)), rfl, rfl, rfl, rfl, rfl⟩
 refine kR ?_
 refine AOps_q 62 _ rfl rfl rfl (QOp_eql _ _ _ _ _ _ _ rfl rfl rfl) ?_
 refine kN 1 rfl ?_
 refine kI h rfl (fun h _ => ?_) (fun h _ => ?_)
 ·refine kR ?_
  refine kM 1 rfl ?_
  obtain ⟨r23, hr23, h⟩ := bindO h
  refine kC [] 64 (.vec 0 0) [.vec 0 (rowsD r23)] rfl Try.call53 rfl rfl (impl_Colouring_matching_ac k p0 p1 _ hr23) rfl ?_
  refine AOps_callL [] 65 _ _ _ _ _ _ _ _ _ _ rfl rfl rfl rfl rfl rfl rfl Try.call52 rfl (nodupB_sound _ rfl) rfl rfl rfl (impl_size_R_ac r23) ?_
  rintro _ _ ⟨rfl, rfl⟩
  refine ⟨(fun _ h => nomatch h), (allc (flat_s _) (fun _ h => nomatch h)), AOps_as 65 (v' := iV (impl_size_R r23)) (H' := [.vec 0 (rowsD r23)]) rfl rfl ?_⟩
  refine kM 1 rfl ?_
  refine AOps_q 67 _ rfl rfl rfl (QOp_lss _ _ _ _ _ _ _ rfl rfl rfl) ?_
  refine kN 2 rfl ?_
  refine ACode_ret ?_
  cases h
  exact ⟨_, _, fun r a w h => ⟨r, h⟩, _, _, [], _, (.cons (ResV_tmp _ _ rfl) (.cons (ResV_tmp _ _ rfl) .nil)), rfl, rfl, rfl, rfl, rfl⟩
 refine ACode_skip ?_
 refine kR ?_
 refine kM 2 rfl ?_
 refine AOps_q 71 _ rfl rfl rfl (QOp_eql _ _ _ _ _ _ _ rfl rfl rfl) ?_
 obtain ⟨r25, hr25, h⟩ := bindO h
 refine kC [] 72 (.tup [.d (.sl none (intsD r25.1)), iV r25.2]) [] rfl Try.call54 rfl rfl (impl_Colouring_double_ac k p0 p1 (decide (p2 = 5)) _ hr25) rfl ?_
 refine kN 5 rfl ?_
 refine kR ?_
 refine kM 2 rfl ?_
 refine AOps_q 77 _ rfl rfl rfl (QOp_lss _ _ _ _ _ _ _ rfl rfl rfl) ?_
 refine kN 2 rfl ?_
 refine ACode_ret ?_
 cases h
 exact ⟨_, _, fun r a w h => ⟨r, h⟩, _, _, [], _, (.cons (ResV_tmp _ _ rfl) (.cons (ResV_tmp _ _ rfl) .nil)), rfl, rfl, rfl, rfl, rfl⟩

-- loop.example/g01362/laws.FnExactAvoidsPattern
def laws_FnExactAvoidsPattern (k : Nat) (p0 : Col) (p1 : Int) (p2 : Int) (p3 : Int) : Option (Bool) :=
 (laws_toColouring k p0).bind fun r1 => (spec_AvoidsPattern k r1 p1 p2 p3).bind fun r2 => (laws_toColouring k p0).bind fun r3 => (impl_AvoidsPattern k r3 p1 p2 p3).bind fun r4 => (letO (if !(r4.1 == r2.1) then true else !decide (r4.2 = r2.2)) fun (s6 : Bool) => (if s6 then some (.inr false) else some (.inl ())) : Option (Sum (Unit) (Bool))).bind fun os8 => (match os8 with | .inl s8 => some true | .inr rr => some rr)
set_option maxHeartbeats 2000000 in
set_option maxRecDepth 100000 in
theorem laws_FnExactAvoidsPattern_ac (k : Nat) (p0 : Col) (p1 : Int) (p2 : Int) (p3 : Int) (r : Bool) (h : laws_FnExactAvoidsPattern k p0 p1 p2 p3 = some r) : AC Try.prog 3 [.d (.agg (colD p0)), iV p1, iV p2, iV p3] [] (fun res H' => res = [bV r] ∧ H' = []) := by
 refine AC_of_body true Try.func3 rfl Try.ntmps3 (rvs := [.tmp 8]) rfl rfl (fun G hG => ?_)
 have hm : G.H.length = 0 := by rw [hG]; rfl
 have hz : zeroG G.H = true := by rw [hG]; rfl
 unfold laws_FnExactAvoidsPattern at h
 refine kR ?_
 refine AOps_boxI 4 _ _ (.agg (colD p0)) (colD p0) rfl (colD_one _) rfl rfl rfl rfl rfl ?_
 refine kN 1 rfl ?_
 refine kR ?_
 refine AOps_q 14 _ rfl rfl rfl (QOp_loadN_pv _ _ _ _ _ _ rfl Try.isAgg24 Try.sizeOf24 rfl (colD_all _) (colD_length _)) ?_
 obtain ⟨r1, hr1, h⟩ := bindO h
 refine kC [] 15 (.d (.agg (colD r1))) [] rfl Try.call7 rfl rfl (laws_toColouring_ac k p0 _ hr1) rfl ?_
 refine kM 3 rfl ?_
 obtain ⟨r2, hr2, h⟩ := bindO h
 refine kC [] 19 (.tup [bV r2.1, iV r2.2]) [] rfl Try.call6 rfl rfl (spec_AvoidsPattern_ac k r1 p1 p2 p3 _ hr2) rfl ?_
 refine kN 5 rfl ?_
 refine kR ?_
 refine AOps_q 23 _ rfl rfl rfl (QOp_loadN_pv _ _ _ _ _ _ rfl Try.isAgg24 Try.sizeOf24 rfl (colD_all _) (colD_length _)) ?_
 obtain ⟨r3, hr3, h⟩ := bindO h
 refine kC [] 24 (.d (.agg (colD r3))) [] rfl Try.call7 rfl rfl (laws_toColouring_ac k p0 _ hr3) rfl ?_
 refine kM 3 rfl ?_
 obtain ⟨r4, hr4, h⟩ := bindO h
 refine kC [] 28 (.tup [bV r4.1, iV r4.2]) [] rfl Try.call8 rfl rfl (impl_AvoidsPattern_ac k r3 p1 p2 p3 _ hr4) rfl ?_
 refine kN 5 rfl ?_
 refine kO (fun s8 => []) (fun s8 => []) h (fun os8 h hks8 => ?_) (fun s8 h => ?_)
 ·refine kL (fun s6 => [(38, bV s6)]) (fun s6 => []) h (fun s6 h => ?_) (fun s6 h => ?_)
  ·refine (ACode_region ?_)
   refine kM 2 rfl ?_
   refine AOps_q 33 _ rfl rfl rfl (QOp_bneq _ _ _ _ _ _ rfl rfl rfl Try.underlying4) ?_
   refine kM 1 rfl ?_
   refine AOps_case 34 _ rfl (fun hb5 => ?_) (fun hb5 => ?_)
   ·have h := iteT hb5 h
    refine AOps_skip 35 rfl rfl rfl ?_
    refine AOps_skip 36 rfl rfl rfl ?_
    refine AOps_skip 37 rfl rfl rfl ?_
    refine kN 1 rfl ?_
    cases h
    exact Weak_keep 0 hm [38] [] _ _ rfl rfl rfl
   have h := iteF hb5 h
   refine kM 2 rfl ?_
   refine AOps_q 37 _ rfl rfl rfl (QOp_neq _ _ _ _ _ _ _ rfl rfl rfl) ?_
   refine kN 1 rfl ?_
   cases h
   exact Weak_keep 0 hm [38] [] _ _ rfl rfl rfl
  refine kI h rfl (fun h _ => ?_) (fun h _ => ?_)
  ·refine kR ?_
   refine kN 1 rfl ?_
   refine ACode_ret ?_
   cases h
   have h := hks8
   cases h
   exact ⟨_, _, fun r a w h => ⟨r, h⟩, _, _, [], _, (.cons (ResV_tmp _ _ rfl) .nil), rfl, rfl, rfl, rfl, rfl⟩
  refine ACode_skip ?_
  cases h
  exact ⟨_, rfl, Weak_keep 0 hm [] [] _ _ rfl rfl rfl⟩
 refine kR ?_
 refine kN 1 rfl ?_
 refine ACode_ret ?_
 cases h
 exact ⟨_, _, fun r a w h => ⟨r, h⟩, _, _, [], _, (.cons (ResV_tmp _ _ rfl) .nil), rfl, rfl, rfl, rfl, rfl⟩

end Go.Proofs.Ytghhnpdhehjlaaa
