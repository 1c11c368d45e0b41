/- Plain functions of the program and that the program computes them: printed by the own tool gen.py. No conditions. -/
import Derived.Test.YtkknnbmmcmhngaaGreatGen22b
set_option linter.unusedVariables false
set_option linter.unusedSimpArgs false
namespace Go.Proofs.YtkknnbmmcmhngaaGreat
open Go Go.RowKit Ab

-- loop.example/g01362/spec.JoinColours
def spec_JoinColours_l0 (k : Nat) (p0 : Col) (p1 : Int) (p2 : Int) : Nat → Int → (List Int) → Option (List Int)
 | 0, _, _ => none
 | k0 + 1, x8, x9 => (if decide (x8 < p0.k) then ((if decide (x8 < p2) then (if x9.length + ([x8]).length ≤ 1099511627776 then some (x9 ++ ([x8])) else none) else (if decide (x8 = p2) then (if x9.length + ([p1]).length ≤ 1099511627776 then some (x9 ++ ([p1])) else none) else (if x9.length + ([w64 (x8 - 1)]).length ≤ 1099511627776 then some (x9 ++ ([w64 (x8 - 1)])) else none))) : Option (List Int)).bind fun s16 => spec_JoinColours_l0 k p0 p1 p2 k0 (w64 (x8 + 1)) s16 else some x9)
def spec_JoinColours (k : Nat) (p0 : Col) (p1 : Int) (p2 : Int) : Option (Col × Int) :=
 (spec_l01Given k p0 p1 ([])).bind fun r1 => letO (letO (if decide (r1 = 0) then !(spec_l01In p2 (w64 (p1 + 1)) (w64 (p0.k - 1))) else false) fun (s4 : Bool) => (if s4 then 2 else r1)) fun (s6 : Int) => (if !decide (s6 = 0) then some ((⟨0, 0, B136.zero⟩ : Col), s6) else (spec_JoinColours_l0 k p0 p1 p2 k 0 ([] : List Int) : Option (List Int)).bind fun s17 => (spec_l01Turned k p0 s17).bind fun r18 => some ((⟨r18.p, w64 (r18.k - 1), r18.e⟩ : Col), 0))
set_option maxRecDepth 100000 in
theorem spec_JoinColours_ac (k : Nat) (p0 : Col) (p1 : Int) (p2 : Int) (r : Col × Int) (h : spec_JoinColours k p0 p1 p2 = some r) : AC Tryz.prog 21 [.d (.agg (colD p0)), iV p1, iV p2] [] (fun res H' => res = [.d (.agg (colD r.1)), iV r.2] ∧ H' = []) := by
 refine AC_of_body true Tryz.func21 rfl Tryz.ntmps21 (rvs := [.cell 6 26, .tmp 7]) rfl rfl (fun G hG => ?_)
 have hm : G.H.length = 0 := by rw [hG]; rfl
 have hz : zeroG G.H = true := by rw [hG]; rfl
 unfold spec_JoinColours at h
 refine kR ?_
 refine AOps_boxI 3 _ _ (.agg (colD p0)) (colD p0) rfl (colD_one _) rfl rfl rfl rfl rfl ?_
 refine AOps_alloc 6 _ _ (colD Col.zero) (zero_of Tryz.typeInfo26 rfl) (by rfl) rfl rfl rfl rfl ?_
 refine kN 1 rfl ?_
 refine kR ?_
 refine AOps_q 12 _ rfl rfl rfl (QOp_loadN_pv _ _ _ _ _ _ rfl Tryz.isAgg26 Tryz.sizeOf26 rfl (colD_all _) (colD_length _)) ?_
 refine kM 1 rfl ?_
 obtain ⟨r1, hr1, h⟩ := bindO h
 refine kC [] 14 (iV r1) [.box (colD Col.zero)] rfl Tryz.call99 rfl rfl (spec_l01Given_ac k p0 p1 ([]) _ hr1) rfl ?_
 refine kN 1 rfl ?_
 refine kL (fun s6 => [(1, iV p1), (2, iV p2), (3, .d (.pv (colD p0) 0)), (6, .ptr 0 0), (8, iV s6)]) (fun s6 => [.box (colD Col.zero)]) h (fun s6 h => ?_) (fun s6 h => ?_)
 ·refine kL (fun s4 => [(1, iV p1), (2, iV p2), (3, .d (.pv (colD p0) 0)), (6, .ptr 0 0), (8, iV r1), (26, bV s4)]) (fun s4 => [.box (colD Col.zero)]) h (fun s4 h => ?_) (fun s4 h => ?_)
  ·refine (ACode_region ?_)
   refine kM 1 rfl ?_
   refine AOps_q 16 _ rfl rfl rfl (QOp_eql _ _ _ _ _ _ _ rfl rfl rfl) ?_
   refine kM 1 rfl ?_
   refine AOps_case 17 _ rfl (fun hb2 => ?_) (fun hb2 => ?_)
   ·have h := iteT hb2 h
    refine kM 2 rfl ?_
    refine AOps_q 20 _ rfl rfl rfl (QOp_add _ _ _ _ _ _ _ rfl rfl rfl) ?_
    refine AOps_q 21 _ rfl rfl rfl (QOp_fieldAddr_pv _ _ _ _ _ 1 _ _ rfl Tryz.underlying26 rfl _ Tryz.sizeOf2 rfl rfl) ?_
    refine AOps_q 22 _ rfl rfl rfl (QOp_load_pv _ _ _ _ _ rfl Tryz.isAgg2 rfl rfl) ?_
    refine AOps_q 23 _ rfl rfl rfl (QOp_sub _ _ _ _ _ _ _ rfl rfl rfl) ?_
    refine kC [] 24 (bV (spec_l01In p2 (w64 (p1 + 1)) (w64 (p0.k - 1)))) [.box (colD Col.zero)] rfl Tryz.call100 rfl rfl (spec_l01In_ac p2 (w64 (p1 + 1)) (w64 (p0.k - 1))) rfl ?_
    refine AOps_q 25 _ rfl rfl rfl (QOp_not _ _ _ rfl rfl) ?_
    refine kN 1 rfl ?_
    cases h
    exact Weak_keep 0 hm [1, 2, 3, 6, 8, 26] [0] _ _ rfl rfl rfl
   have h := iteF hb2 h
   refine AOps_skip 18 rfl rfl rfl ?_
   refine AOps_skip 19 rfl rfl rfl ?_
   refine AOps_skip 20 rfl rfl rfl ?_
   refine AOps_skip 21 rfl rfl rfl ?_
   refine AOps_skip 22 rfl rfl rfl ?_
   refine AOps_skip 23 rfl rfl rfl ?_
   refine AOps_skip 24 rfl rfl rfl ?_
   refine AOps_skip 25 rfl rfl rfl ?_
   refine kN 1 rfl ?_
   cases h
   exact Weak_keep 0 hm [1, 2, 3, 6, 8, 26] [0] _ _ rfl rfl rfl
  refine kI h rfl (fun h _ => ?_) (fun h _ => ?_)
  ·refine (ACode_region ?_)
   refine kN 1 rfl ?_
   cases h
   exact Weak_keep 0 hm [1, 2, 3, 6, 8] [0] _ _ rfl rfl rfl
  refine ACode_skip ?_
  cases h
  exact Weak_keep 0 hm [1, 2, 3, 6, 8] [0] _ _ rfl rfl rfl
 refine ACode_seq ?_
 refine kR ?_
 refine kM 1 rfl ?_
 refine AOps_q 28 _ rfl rfl rfl (QOp_neq _ _ _ _ _ _ _ rfl rfl rfl) ?_
 refine AOps_nil ?_
 refine kI h rfl (fun h _ => ?_) (fun h _ => ?_)
 ·refine kR ?_
  refine AOps_q 29 _ rfl rfl rfl (QOp_build _ _ [] [] [] _ (colD Col.zero) (colD (⟨0, 0, B136.zero⟩ : Col)) [(0, 1), (1, 1), (2, 136)] rfl rfl Tryz.underlying26 (zero_of Tryz.typeInfo26 rfl) (fun w => by simp [Tryz.sizeOf2, Tryz.sizeOf2, Tryz.sizeOf24]) rfl (by rfl) (by rfl) (fun _ h => nomatch h)) ?_
  refine kM 1 rfl ?_
  refine AOps_store _ _ _ _ _ _ (colD _) _ _ rfl rfl rfl rfl rfl rfl rfl (colD_one _) (by rw [colD_length]; exact Tryz.sizeOf26) (by rw [colD_length, colD_length]; decide) (colD_whole _ _) ?_
  refine kN 1 rfl ?_
  refine ACode_ret ?_
  cases h
  exact ⟨_, _, fun r a w h => ⟨r, h⟩, _, _, [], _, (.cons (ResV_agg _ _ _ _ _ _ Tryz.isAgg26 Tryz.sizeOf26 rfl rfl (colD_take _) (colD_length _)) (.cons (ResV_tmp _ _ rfl) .nil)), rfl, rfl, rfl, rfl, rfl⟩
 refine ACode_skip ?_
 refine kR ?_
 refine AOps_buildSlice 31 _ _ _ [] (intsD ([] : List Int)) _ rfl rfl rfl rfl rfl (by decide) Tryz.underlying27 Tryz.sizeOf2 (zero_of Tryz.typeInfo2 rfl) rfl rfl (intsD_one _) ?_
 refine kN 1 rfl ?_
 refine kB (fun s17 => [(3, .d (.pv (colD p0) 0)), (6, .ptr 0 0), (9, .vec 1 0)]) (fun s17 => [.box (colD Col.zero), .vec 0 (intsD s17)]) h (fun s17 h => ?_) (fun s17 h => ?_)
 ·refine kR ?_
  refine kN 1 rfl ?_
  refine ACode_block ?_
  refine ACode_loopW (fun k0 E H => ∃ (x8 : Int) (x9 : List Int), E = [(1, iV p1), (2, iV p2), (3, .d (.pv (colD p0) 0)), (6, .ptr 0 0), (9, .vec 1 0), (10, iV x8)] ∧ H = [.box (colD Col.zero), .vec 0 (intsD x9)] ∧ spec_JoinColours_l0 k p0 p1 p2 k0 x8 x9 = some s17) k _ _ (Weak_keep 0 hm [1, 2, 3, 6, 9, 10] [0, 1] _ _ rfl rfl rfl) ⟨_, _, rfl, rfl, h⟩ ?_
  clear h
  rintro k0 E H ⟨x8, x9, rfl, rfl, h⟩
  cases k0 with
  | zero => cases (show (none : Option (List Int)) = some _ from h)
  | succ k0 =>
   rw [spec_JoinColours_l0] at h
   refine ACode_seq ?_
   refine kR ?_
   refine kM 1 rfl ?_
   refine AOps_q 33 _ rfl rfl rfl (QOp_fieldAddr_pv _ _ _ _ _ 1 _ _ rfl Tryz.underlying26 rfl _ Tryz.sizeOf2 rfl rfl) ?_
   refine AOps_q 34 _ rfl rfl rfl (QOp_load_pv _ _ _ _ _ rfl Tryz.isAgg2 rfl rfl) ?_
   refine AOps_q 35 _ rfl rfl rfl (QOp_lss _ _ _ _ _ _ _ rfl rfl rfl) ?_
   refine AOps_nil ?_
   refine kI h rfl (fun h _ => ?_) (fun h _ => ?_)
   ·refine ACode_skip ?_
    refine kB (fun s16 => [(1, iV p1), (2, iV p2), (3, .d (.pv (colD p0) 0)), (6, .ptr 0 0), (9, .vec 1 0), (10, iV x8)]) (fun s16 => [.box (colD Col.zero), .vec 0 (intsD s16)]) h (fun s16 h => ?_) (fun s16 h => ?_)
    ·refine ACode_block ?_
     refine ACode_block ?_
     refine kR ?_
     refine kM 2 rfl ?_
     refine AOps_q 46 _ rfl rfl rfl (QOp_lss _ _ _ _ _ _ _ rfl rfl rfl) ?_
     refine kN 1 rfl ?_
     refine kI h rfl (fun h _ => ?_) (fun h _ => ?_)
     ·refine (ACode_region ?_)
      refine kM 2 rfl ?_
      refine AOps_buildSlice 49 _ _ _ [_] (intsD ([x8])) _ rfl rfl rfl rfl rfl (by decide) Tryz.underlying27 Tryz.sizeOf2 (zero_of Tryz.typeInfo2 rfl) rfl rfl (intsD_one _) ?_
      obtain ⟨hc12, h⟩ := guardO h
      refine AOps_append 50 _ _ _ _ _ _ _ _ _ _ _ _ rfl rfl rfl rfl rfl rfl rfl Tryz.underlying27 Tryz.type2 rfl rfl rfl (by decide) rfl rfl rfl rfl (intsD_one _) (by rw [intsD_length, intsD_length]; exact hc12) ?_
      rw [intsD_app]
      refine kN 1 rfl ?_
      cases h
      exact Weak_trans (Weak_keep 0 hm [1, 2, 3, 6, 9, 10] [0, 1] _ _ rfl rfl rfl) (Weak_reset 0 hm hz [1, 2, 3, 6, 9, 10] _ _ rfl rfl)
     refine kR ?_
     refine kM 2 rfl ?_
     refine AOps_q 54 _ rfl rfl rfl (QOp_eql _ _ _ _ _ _ _ rfl rfl rfl) ?_
     refine kN 1 rfl ?_
     refine kI h rfl (fun h _ => ?_) (fun h _ => ?_)
     ·refine (ACode_region ?_)
      refine kM 2 rfl ?_
      refine AOps_buildSlice 57 _ _ _ [_] (intsD ([p1])) _ rfl rfl rfl rfl rfl (by decide) Tryz.underlying27 Tryz.sizeOf2 (zero_of Tryz.typeInfo2 rfl) rfl rfl (intsD_one _) ?_
      obtain ⟨hc14, h⟩ := guardO h
      refine AOps_append 58 _ _ _ _ _ _ _ _ _ _ _ _ rfl rfl rfl rfl rfl rfl rfl Tryz.underlying27 Tryz.type2 rfl rfl rfl (by decide) rfl rfl rfl rfl (intsD_one _) (by rw [intsD_length, intsD_length]; exact hc14) ?_
      rw [intsD_app]
      refine kN 1 rfl ?_
      cases h
      exact Weak_trans (Weak_keep 0 hm [1, 2, 3, 6, 9, 10] [0, 1] _ _ rfl rfl rfl) (Weak_reset 0 hm hz [1, 2, 3, 6, 9, 10] _ _ rfl rfl)
     refine (ACode_region ?_)
     refine kM 2 rfl ?_
     refine AOps_q 40 _ rfl rfl rfl (QOp_sub _ _ _ _ _ _ _ rfl rfl rfl) ?_
     refine AOps_buildSlice 41 _ _ _ [_] (intsD ([w64 (x8 - 1)])) _ rfl rfl rfl rfl rfl (by decide) Tryz.underlying27 Tryz.sizeOf2 (zero_of Tryz.typeInfo2 rfl) rfl rfl (intsD_one _) ?_
     obtain ⟨hc15, h⟩ := guardO h
     refine AOps_append 42 _ _ _ _ _ _ _ _ _ _ _ _ rfl rfl rfl rfl rfl rfl rfl Tryz.underlying27 Tryz.type2 rfl rfl rfl (by decide) rfl rfl rfl rfl (intsD_one _) (by rw [intsD_length, intsD_length]; exact hc15) ?_
     rw [intsD_app]
     refine kN 1 rfl ?_
     cases h
     exact Weak_trans (Weak_keep 0 hm [1, 2, 3, 6, 9, 10] [0, 1] _ _ rfl rfl rfl) (Weak_reset 0 hm hz [1, 2, 3, 6, 9, 10] _ _ rfl rfl)
    refine (ACode_region ?_)
    refine kM 1 rfl ?_
    refine AOps_q 37 _ rfl rfl rfl (QOp_add _ _ _ _ _ _ _ rfl rfl rfl) ?_
    refine kN 1 rfl ?_
    exact ⟨k0, _, _, Nat.lt_succ_self _, Weak_keep 0 hm [1, 2, 3, 6, 9, 10] [0, 1] _ _ rfl rfl rfl, _, _, rfl, rfl, h⟩
   refine ACode_exit ?_
   cases h
   exact Weak_keep 0 hm [3, 6, 9] [0, 1] _ _ rfl rfl rfl
 refine kR ?_
 refine AOps_q 59 _ rfl rfl rfl (QOp_loadN_pv _ _ _ _ _ _ rfl Tryz.isAgg26 Tryz.sizeOf26 rfl (colD_all _) (colD_length _)) ?_
 refine kM 1 rfl ?_
 obtain ⟨r18, hr18, h⟩ := bindO h
 refine AOps_callL [] 61 _ _ _ _ _ _ _ _ _ _ rfl rfl rfl rfl rfl rfl rfl Tryz.call92 rfl (nodupB_sound _ rfl) rfl rfl rfl (spec_l01Turned_ac k p0 s17 _ hr18) ?_
 rintro _ _ ⟨rfl, rfl⟩
 refine ⟨(fun _ h => nomatch h), (allc (flat_agg (colD_flat _)) (fun _ h => nomatch h)), AOps_as 61 (v' := .d (.agg (colD r18))) (H' := [.box (colD Col.zero), .vec 0 (intsD s17)]) rfl rfl ?_⟩
 refine AOps_alloc 11 _ _ (colD Col.zero) (zero_of Tryz.typeInfo26 rfl) (by rfl) rfl rfl rfl rfl ?_
 refine AOps_store _ _ _ _ _ _ (colD _) _ _ rfl rfl rfl rfl rfl rfl rfl (colD_one _) (by rw [colD_length]; exact Tryz.sizeOf26) (by rw [colD_length, colD_length]; decide) (colD_whole _ _) ?_
 refine AOps_nil ?_
 refine kR ?_
 refine AOps_q 62 _ rfl rfl rfl (QOp_fieldAddr_ptr _ _ _ _ _ _ 1 _ _ rfl Tryz.underlying26 rfl _ Tryz.sizeOf2 rfl rfl rfl rfl) ?_
 refine AOps_q 63 _ rfl rfl rfl (QOp_load_ptr _ _ _ _ _ _ rfl Tryz.isAgg2 rfl rfl rfl) ?_
 refine AOps_q 64 _ rfl rfl rfl (QOp_sub _ _ _ _ _ _ _ rfl rfl rfl) ?_
 refine AOps_q 65 _ rfl rfl rfl (QOp_fieldAddr_ptr _ _ _ _ _ _ 1 _ _ rfl Tryz.underlying26 rfl _ Tryz.sizeOf2 rfl rfl rfl rfl) ?_
 refine AOps_store1 _ _ _ _ _ _ (colD (⟨r18.p, w64 (r18.k - 1), r18.e⟩ : Col)) _ rfl rfl rfl rfl rfl rfl rfl Tryz.sizeOf2 (by rw [colD_length]; omega) (colD_set1 _ _) ?_
 refine AOps_nil ?_
 refine kR ?_
 refine AOps_q 66 _ rfl rfl rfl (QOp_loadN_ptr _ _ _ _ _ _ _ rfl Tryz.isAgg26 Tryz.sizeOf26 rfl rfl (colD_all _) (colD_length _)) ?_
 refine AOps_store _ _ _ _ _ _ (colD _) _ _ rfl rfl rfl rfl rfl rfl rfl (colD_one _) (by rw [colD_length]; exact Tryz.sizeOf26) (by rw [colD_length, colD_length]; decide) (colD_whole _ _) ?_
 refine kN 1 rfl ?_
 refine ACode_ret ?_
 cases h
 exact ⟨_, _, fun r a w h => ⟨r, h⟩, _, _, [], _, (.cons (ResV_agg _ _ _ _ _ _ Tryz.isAgg26 Tryz.sizeOf26 rfl rfl (colD_take _) (colD_length _)) (.cons (ResV_tmp _ _ rfl) .nil)), rfl, rfl, rfl, rfl, rfl⟩

-- loop.example/g01362/spec.l01DrawSet
def spec_l01DrawSet_l0 (p1 : Int) (r1 : Int × Src) : Nat → Int → Src → (List Int) → Option (Src × List Int)
 | 0, _, _, _ => none
 | k0 + 1, x2, x3, x4 => (if decide (x2 < p1) then ((spec_l01Next x3 4).bind fun r6 => (if decide (r6.1 < r1.1) then (if x4.length + ([x2]).length ≤ 1099511627776 then some (r6.2, (x4 ++ ([x2]))) else none) else some (r6.2, x4)) : Option (Src × List Int)).bind fun s9 => spec_l01DrawSet_l0 p1 r1 k0 (w64 (x2 + 1)) s9.1 s9.2 else some (x3, x4))
def spec_l01DrawSet (k : Nat) (p0 : Src) (p1 : Int) : Option (List Int × Src) :=
 (spec_l01Pick p0 ([1, 2, 3])).bind fun r1 => (spec_l01DrawSet_l0 p1 r1 k 0 r1.2 ([] : List Int) : Option (Src × List Int)).bind fun s10 => ((spec_l01Next s10.1 24).bind fun r11 => (if decide (r11.1 = 0) then (spec_l01Pick r11.2 ([0, (-1), p1])).bind fun r13 => (if s10.2.length + ([r13.1]).length ≤ 1099511627776 then some (r13.2, (s10.2 ++ ([r13.1]))) else none) else some (r11.2, s10.2)) : Option (Src × List Int)).bind fun s15 => some (s15.2, s15.1)
set_option maxRecDepth 100000 in
theorem spec_l01DrawSet_ac (k : Nat) (p0 : Src) (p1 : Int) (r : List Int × Src) (h : spec_l01DrawSet k p0 p1 = some r) : AC Tryz.prog 101 [.ptr 0 0, iV p1] [.box (srcD p0)] (fun res H' => res = [.vec 1 0] ∧ H' = [.box (srcD r.2), .vec 0 (intsD r.1)]) := by
 refine AC_of_body true Tryz.func101 rfl Tryz.ntmps101 (rvs := [.tmp 4]) rfl rfl (fun G hG => ?_)
 have hm : G.H.length = 1 := by rw [hG]; rfl
 have hz : zeroG G.H = true := by rw [hG]; rfl
 unfold spec_l01DrawSet at h
 refine kR ?_
 refine kN 1 rfl ?_
 refine kR ?_
 refine AOps_buildSlice 8 _ _ _ [] (intsD ([] : List Int)) _ rfl rfl rfl rfl rfl (by decide) Tryz.underlying27 Tryz.sizeOf2 (zero_of Tryz.typeInfo2 rfl) rfl rfl (intsD_one _) ?_
 refine kM 1 rfl ?_
 refine AOps_buildSlice 10 _ _ _ [_, _, _] (intsD ([1, 2, 3])) _ rfl rfl rfl rfl rfl (by decide) Tryz.underlying27 Tryz.sizeOf2 (zero_of Tryz.typeInfo2 rfl) rfl rfl (intsD_one _) ?_
 refine AOps_freezeL [10] 2 0 _ (allc (rfl) (fun _ h => nomatch h)) rfl ?_
 obtain ⟨r1, hr1, h⟩ := bindO h
 refine kC [0] 11 (iV r1.1) [.box (srcD r1.2), .vec 0 (intsD ([] : List Int)), .gone] rfl Tryz.call67 rfl rfl (spec_l01Pick_ac p0 ([1, 2, 3]) _ hr1) rfl ?_
 refine kN 2 rfl ?_
 refine kB (fun s10 => [(0, .ptr 0 0), (1, iV p1), (5, .vec 1 0)]) (fun s10 => [.box (srcD s10.1), .vec 0 (intsD s10.2)]) h (fun s10 h => ?_) (fun s10 h => ?_)
 ·refine kR ?_
  refine kN 1 rfl ?_
  refine ACode_block ?_
  refine ACode_loopW (fun k0 E H => ∃ (x2 : Int) (x3 : Src) (x4 : List Int), E = [(0, .ptr 0 0), (1, iV p1), (5, .vec 1 0), (6, iV r1.1), (7, iV x2)] ∧ H = [.box (srcD x3), .vec 0 (intsD x4)] ∧ spec_l01DrawSet_l0 p1 r1 k0 x2 x3 x4 = some s10) k _ _ (Weak_keep 1 hm [0, 1, 5, 6, 7] [1] _ _ rfl rfl rfl) ⟨_, _, _, rfl, rfl, h⟩ ?_
  clear h
  rintro k0 E H ⟨x2, x3, x4, rfl, rfl, h⟩
  cases k0 with
  | zero => cases (show (none : Option (Src × List Int)) = some _ from h)
  | succ k0 =>
   rw [spec_l01DrawSet_l0] at h
   refine ACode_seq ?_
   refine kR ?_
   refine kM 2 rfl ?_
   refine AOps_q 14 _ rfl rfl rfl (QOp_lss _ _ _ _ _ _ _ rfl rfl rfl) ?_
   refine AOps_nil ?_
   refine kI h rfl (fun h _ => ?_) (fun h _ => ?_)
   ·refine ACode_skip ?_
    refine kB (fun s9 => [(0, .ptr 0 0), (1, iV p1), (5, .vec 1 0), (6, iV r1.1), (7, iV x2)]) (fun s9 => [.box (srcD s9.1), .vec 0 (intsD s9.2)]) h (fun s9 h => ?_) (fun s9 h => ?_)
    ·refine ACode_block ?_
     refine kR ?_
     refine kM 1 rfl ?_
     obtain ⟨r6, hr6, h⟩ := bindO h
     refine kC [0] 18 (iV r6.1) [.box (srcD r6.2), .vec 0 (intsD x4)] rfl Tryz.call66 rfl rfl (spec_l01Next_ac x3 4 _ hr6) rfl ?_
     refine kM 1 rfl ?_
     refine AOps_q 20 _ rfl rfl rfl (QOp_lss _ _ _ _ _ _ _ rfl rfl rfl) ?_
     refine AOps_nil ?_
     refine kI h rfl (fun h _ => ?_) (fun h _ => ?_)
     ·refine (ACode_region ?_)
      refine kM 2 rfl ?_
      refine AOps_buildSlice 23 _ _ _ [_] (intsD ([x2])) _ rfl rfl rfl rfl rfl (by decide) Tryz.underlying27 Tryz.sizeOf2 (zero_of Tryz.typeInfo2 rfl) rfl rfl (intsD_one _) ?_
      obtain ⟨hc8, h⟩ := guardO h
      refine AOps_append 24 _ _ _ _ _ _ _ _ _ _ _ _ rfl rfl rfl rfl rfl rfl rfl Tryz.underlying27 Tryz.type2 rfl rfl rfl (by decide) rfl rfl rfl rfl (intsD_one _) (by rw [intsD_length, intsD_length]; exact hc8) ?_
      rw [intsD_app]
      refine kN 1 rfl ?_
      cases h
      exact Weak_trans (Weak_keep 1 hm [0, 1, 5, 6, 7] [1] _ _ rfl rfl rfl) (Weak_reset 1 hm hz [0, 1, 5, 6, 7] _ _ rfl rfl)
     refine ACode_skip ?_
     cases h
     exact Weak_keep 1 hm [0, 1, 5, 6, 7] [1] _ _ rfl rfl rfl
    refine (ACode_region ?_)
    refine kM 1 rfl ?_
    refine AOps_q 16 _ rfl rfl rfl (QOp_add _ _ _ _ _ _ _ rfl rfl rfl) ?_
    refine kN 1 rfl ?_
    exact ⟨k0, _, _, Nat.lt_succ_self _, Weak_keep 1 hm [0, 1, 5, 6, 7] [1] _ _ rfl rfl rfl, _, _, _, rfl, rfl, h⟩
   refine ACode_exit ?_
   cases h
   exact Weak_keep 1 hm [0, 1, 5] [1] _ _ rfl rfl rfl
 refine kB (fun s15 => [(5, .vec 1 0)]) (fun s15 => [.box (srcD s15.1), .vec 0 (intsD s15.2)]) h (fun s15 h => ?_) (fun s15 h => ?_)
 ·refine kR ?_
  refine kM 1 rfl ?_
  obtain ⟨r11, hr11, h⟩ := bindO h
  refine kC [0] 26 (iV r11.1) [.box (srcD r11.2), .vec 0 (intsD s10.2)] rfl Tryz.call66 rfl rfl (spec_l01Next_ac s10.1 24 _ hr11) rfl ?_
  refine AOps_q 27 _ rfl rfl rfl (QOp_eql _ _ _ _ _ _ _ rfl rfl rfl) ?_
  refine AOps_nil ?_
  refine kI h rfl (fun h _ => ?_) (fun h _ => ?_)
  ·refine (ACode_region ?_)
   refine kM 3 rfl ?_
   refine AOps_buildSlice 31 _ _ _ [_, _, _] (intsD ([0, (-1), p1])) _ rfl rfl rfl rfl rfl (by decide) Tryz.underlying27 Tryz.sizeOf2 (zero_of Tryz.typeInfo2 rfl) rfl rfl (intsD_one _) ?_
   refine AOps_freezeL [31] 2 0 _ (allc (rfl) (fun _ h => nomatch h)) rfl ?_
   obtain ⟨r13, hr13, h⟩ := bindO h
   refine kC [0] 32 (iV r13.1) [.box (srcD r13.2), .vec 0 (intsD s10.2), .gone] rfl Tryz.call67 rfl rfl (spec_l01Pick_ac r11.2 ([0, (-1), p1]) _ hr13) rfl ?_
   refine AOps_buildSlice 33 _ _ _ [_] (intsD ([r13.1])) _ rfl rfl rfl rfl rfl (by decide) Tryz.underlying27 Tryz.sizeOf2 (zero_of Tryz.typeInfo2 rfl) rfl rfl (intsD_one _) ?_
   obtain ⟨hc14, h⟩ := guardO h
   refine AOps_append 34 _ _ _ _ _ _ _ _ _ _ _ _ rfl rfl rfl rfl rfl rfl rfl Tryz.underlying27 Tryz.type2 rfl rfl rfl (by decide) rfl rfl rfl rfl (intsD_one _) (by rw [intsD_length, intsD_length]; exact hc14) ?_
   rw [intsD_app]
   refine kN 1 rfl ?_
   cases h
   exact Weak_trans (Weak_keep 1 hm [5] [1] _ _ rfl rfl rfl) (Weak_reset 1 hm hz [5] _ _ rfl rfl)
  refine ACode_skip ?_
  cases h
  exact Weak_keep 1 hm [5] [1] _ _ rfl rfl rfl
 refine kR ?_
 refine kN 2 rfl ?_
 refine ACode_ret ?_
 cases h
 exact ⟨_, _, Weak_reset 1 hm hz [4] _ _ rfl rfl, _, _, [1], _, (.cons (ResV_tmp _ _ rfl) .nil), rfl, rfl, rfl, rfl, rfl⟩

-- loop.example/g01362/spec.DrawPartOn
def spec_DrawPartOn (k : Nat) (p0 : List UInt8) : Option (Col × List Int) :=
 (spec_l01From k p0).bind fun r1 => (spec_l01Draw k r1).bind fun r2 => (spec_l01DrawSet k r2.2 r2.1.p).bind fun r3 => (spec_l01Bad r3.2 r2.1).bind fun r4 => some (r4.1, r3.1)
set_option maxRecDepth 100000 in
theorem spec_DrawPartOn_ac (k : Nat) (p0 : List UInt8) (r : Col × List Int) (h : spec_DrawPartOn k p0 = some r) : AC Tryz.prog 22 [.d (.sl none (bysD p0))] [] (fun res H' => res = [.d (.agg (colD r.1)), .vec 0 0] ∧ H' = [.vec 0 (intsD r.2)]) := by
 refine AC_of_body true Tryz.func22 rfl Tryz.ntmps22 (rvs := [.cell 2 26, .tmp 3]) rfl rfl (fun G hG => ?_)
 have hm : G.H.length = 0 := by rw [hG]; rfl
 have hz : zeroG G.H = true := by rw [hG]; rfl
 unfold spec_DrawPartOn at h
 refine kR ?_
 refine AOps_alloc 2 _ _ (colD Col.zero) (zero_of Tryz.typeInfo26 rfl) (by rfl) rfl rfl rfl rfl ?_
 refine kN 1 rfl ?_
 refine kR ?_
 refine kM 1 rfl ?_
 obtain ⟨r1, hr1, h⟩ := bindO h
 refine kC [] 8 (.ptr 1 0) [.box (colD Col.zero), .box (srcD r1)] rfl Tryz.call64 rfl rfl (spec_l01From_ac k p0 _ hr1) rfl ?_
 refine kN 1 rfl ?_
 refine kR ?_
 refine kM 1 rfl ?_
 obtain ⟨r2, hr2, h⟩ := bindO h
 refine kC [1] 10 (.d (.agg (colD r2.1))) [.box (colD Col.zero), .box (srcD r2.2)] rfl Tryz.call65 rfl rfl (spec_l01Draw_ac k r1 _ hr2) rfl ?_
 refine AOps_alloc 5 _ _ (colD Col.zero) (zero_of Tryz.typeInfo26 rfl) (by rfl) rfl rfl rfl rfl ?_
 refine AOps_store _ _ _ _ _ _ (colD _) _ _ rfl rfl rfl rfl rfl rfl rfl (colD_one _) (by rw [colD_length]; exact Tryz.sizeOf26) (by rw [colD_length, colD_length]; decide) (colD_whole _ _) ?_
 refine AOps_nil ?_
 refine kR ?_
 refine kM 1 rfl ?_
 refine AOps_q 12 _ rfl rfl rfl (QOp_fieldAddr_ptr _ _ _ _ _ _ 0 _ _ rfl Tryz.underlying26 rfl _ Tryz.sizeOf2 rfl rfl rfl rfl) ?_
 refine AOps_q 13 _ rfl rfl rfl (QOp_load_ptr _ _ _ _ _ _ rfl Tryz.isAgg2 rfl rfl rfl) ?_
 obtain ⟨r3, hr3, h⟩ := bindO h
 refine kC [1] 14 (.vec 3 0) [.box (colD Col.zero), .box (srcD r3.2), .box (colD r2.1), .vec 0 (intsD r3.1)] rfl Tryz.call101 rfl rfl (spec_l01DrawSet_ac k r2.2 r2.1.p _ hr3) rfl ?_
 refine kN 1 rfl ?_
 refine kR ?_
 refine kM 1 rfl ?_
 refine AOps_q 16 _ rfl rfl rfl (QOp_loadN_ptr _ _ _ _ _ _ _ rfl Tryz.isAgg26 Tryz.sizeOf26 rfl rfl (colD_all _) (colD_length _)) ?_
 obtain ⟨r4, hr4, h⟩ := bindO h
 refine kC [1] 17 (.d (.agg (colD r4.1))) [.box (colD Col.zero), .box (srcD r4.2), .box (colD r2.1), .vec 0 (intsD r3.1)] rfl Tryz.call68 rfl rfl (spec_l01Bad_ac r3.2 r2.1 _ hr4) rfl ?_
 refine kM 1 rfl ?_
 refine AOps_store _ _ _ _ _ _ (colD _) _ _ rfl rfl rfl rfl rfl rfl rfl (colD_one _) (by rw [colD_length]; exact Tryz.sizeOf26) (by rw [colD_length, colD_length]; decide) (colD_whole _ _) ?_
 refine kN 1 rfl ?_
 refine ACode_ret ?_
 cases h
 exact ⟨_, _, Weak_reset 0 hm hz [2, 3] _ _ rfl rfl, _, _, [3], _, (.cons (ResV_agg _ _ _ _ _ _ Tryz.isAgg26 Tryz.sizeOf26 rfl rfl (colD_take _) (colD_length _)) (.cons (ResV_tmp _ _ rfl) .nil)), rfl, rfl, rfl, rfl, rfl⟩

-- loop.example/g01362/spec.l01Set
def spec_l01Set_l0 (p1 : List Int) : Nat → Int → Option (Sum (Unit) (Int))
 | 0, _ => none
 | k0 + 1, x3 => (if decide (x3 < (p1.length : Int)) then (if 0 ≤ x3 ∧ x3 < (p1.length : Int) then (if 0 ≤ w64 (x3 - 1) ∧ w64 (x3 - 1) < (p1.length : Int) then (if decide ((p1.getD x3.toNat 0) ≤ (p1.getD (w64 (x3 - 1)).toNat 0)) then some (.inr 2) else spec_l01Set_l0 p1 k0 (w64 (x3 + 1))) else none) else none) else some (.inl ()))
def spec_l01Set (k : Nat) (p0 : Col) (p1 : List Int) : Option (Int) :=
 (spec_l01Given k p0 0 p1).bind fun r1 => (if !decide (r1 = 0) then some r1 else (spec_l01Set_l0 p1 k 1 : Option (Sum (Unit) (Int))).bind fun os8 => (match os8 with | .inl s8 => some 0 | .inr rr => some rr))
set_option maxRecDepth 100000 in
theorem spec_l01Set_ac (k : Nat) (p0 : Col) (p1 : List Int) (r : Int) (h : spec_l01Set k p0 p1 = some r) : AC Tryz.prog 102 [.d (.agg (colD p0)), .d (.sl none (intsD p1))] [] (fun res H' => res = [iV r] ∧ H' = []) := by
 refine AC_of_body true Tryz.func102 rfl Tryz.ntmps102 (rvs := [.tmp 4]) rfl rfl (fun G hG => ?_)
 have hm : G.H.length = 0 := by rw [hG]; rfl
 have hz : zeroG G.H = true := by rw [hG]; rfl
 unfold spec_l01Set at h
 refine kR ?_
 refine AOps_boxI 2 _ _ (.agg (colD p0)) (colD p0) rfl (colD_one _) rfl rfl rfl rfl rfl ?_
 refine kN 1 rfl ?_
 refine ACode_seq ?_
 refine kR ?_
 refine AOps_q 7 _ rfl rfl rfl (QOp_loadN_pv _ _ _ _ _ _ rfl Tryz.isAgg26 Tryz.sizeOf26 rfl (colD_all _) (colD_length _)) ?_
 refine kM 1 rfl ?_
 obtain ⟨r1, hr1, h⟩ := bindO h
 refine kC [] 9 (iV r1) [] rfl Tryz.call99 rfl rfl (spec_l01Given_ac k p0 0 p1 _ hr1) rfl ?_
 refine kN 1 rfl ?_
 refine kR ?_
 refine kM 1 rfl ?_
 refine AOps_q 11 _ rfl rfl rfl (QOp_neq _ _ _ _ _ _ _ rfl rfl rfl) ?_
 refine AOps_nil ?_
 refine kI h rfl (fun h _ => ?_) (fun h _ => ?_)
 ·refine kR ?_
  refine kN 2 rfl ?_
  refine ACode_ret ?_
  cases h
  exact ⟨_, _, fun r a w h => ⟨r, h⟩, _, _, [], _, (.cons (ResV_tmp _ _ rfl) .nil), rfl, rfl, rfl, rfl, rfl⟩
 refine ACode_skip ?_
 refine kO (fun s8 => []) (fun s8 => []) h (fun os8 h hks8 => ?_) (fun s8 h => ?_)
 ·refine kR ?_
  refine kN 1 rfl ?_
  refine ACode_block ?_
  refine ACode_loopW (fun k0 E H => ∃ (x3 : Int), E = [(1, .d (.sl none (intsD p1))), (6, iV x3)] ∧ H = [] ∧ spec_l01Set_l0 p1 k0 x3 = some os8) k _ _ (Weak_keep 0 hm [1, 6] [] _ _ rfl rfl rfl) ⟨_, rfl, rfl, h⟩ ?_
  clear h
  rintro k0 E H ⟨x3, rfl, rfl, h⟩
  cases k0 with
  | zero => cases (show (none : Option (Sum (Unit) (Int))) = some _ from h)
  | succ k0 =>
   rw [spec_l01Set_l0] at h
   refine ACode_seq ?_
   refine kR ?_
   refine kM 2 rfl ?_
   refine AOps_q 15 _ rfl rfl rfl (QOp_len_sl _ _ _ _ _ _ _ (intsD_length _) rfl rfl rfl rfl Tryz.underlying27 rfl) ?_
   refine AOps_q 16 _ rfl rfl rfl (QOp_lss _ _ _ _ _ _ _ rfl rfl rfl) ?_
   refine AOps_nil ?_
   refine kI h rfl (fun h _ => ?_) (fun h _ => ?_)
   ·refine ACode_skip ?_
    refine ACode_seq ?_
    refine ACode_block ?_
    refine ACode_seq (ACode_quiet mixed (by kernel_rfl) ?_)
    refine kQ 2 rfl ?_
    obtain ⟨hc5, h⟩ := guardO h
    refine AQ_q 21 _ rfl rfl rfl (QOp_indexAddr_sl _ _ _ _ _ _ _ _ rfl Tryz.underlying27 Tryz.sizeOf2 hc5.1 (by rw [intsD_length]; exact hc5.2) rfl rfl) ?_
    refine AQ_q 22 _ rfl rfl rfl (QOp_load_pv _ _ _ _ _ rfl Tryz.isAgg2 rfl (intsD_get _ _ 0 (by omega))) ?_
    refine kQ 2 rfl ?_
    refine AQ_q 25 _ rfl rfl rfl (QOp_sub _ _ _ _ _ _ _ rfl rfl rfl) ?_
    obtain ⟨hc6, h⟩ := guardO h
    refine AQ_q 26 _ rfl rfl rfl (QOp_indexAddr_sl _ _ _ _ _ _ _ _ rfl Tryz.underlying27 Tryz.sizeOf2 hc6.1 (by rw [intsD_length]; exact hc6.2) rfl rfl) ?_
    refine AQ_q 27 _ rfl rfl rfl (QOp_load_pv _ _ _ _ _ rfl Tryz.isAgg2 rfl (intsD_get _ _ 0 (by omega))) ?_
    refine AQ_q 28 _ rfl rfl rfl (QOp_leq _ _ _ _ _ _ _ rfl rfl rfl) ?_
    refine AQ_nil ?_
    refine kI h rfl (fun h _ => ?_) (fun h _ => ?_)
    ·refine kR ?_
     refine kN 1 rfl ?_
     refine ACode_ret ?_
     cases h
     have h := hks8
     cases h
     exact ⟨_, _, fun r a w h => ⟨r, h⟩, _, _, [], _, (.cons (ResV_tmp _ _ rfl) .nil), rfl, rfl, rfl, rfl, rfl⟩
    refine ACode_skip ?_
    refine (ACode_region ?_)
    refine kM 1 rfl ?_
    refine AOps_q 18 _ rfl rfl rfl (QOp_add _ _ _ _ _ _ _ rfl rfl rfl) ?_
    refine kN 1 rfl ?_
    exact ⟨k0, _, _, Nat.lt_succ_self _, Weak_keep 0 hm [1, 6] [] _ _ rfl rfl rfl, _, rfl, rfl, h⟩
   refine ACode_exit ?_
   cases h
   exact ⟨_, rfl, Weak_keep 0 hm [] [] _ _ rfl rfl rfl⟩
 refine kR ?_
 refine kN 1 rfl ?_
 refine ACode_ret ?_
 cases h
 exact ⟨_, _, fun r a w h => ⟨r, h⟩, _, _, [], _, (.cons (ResV_tmp _ _ rfl) .nil), rfl, rfl, rfl, rfl, rfl⟩

-- loop.example/g01362/spec.l01Part
def spec_l01Part_l1 (p0 : Col) (p1 : List Int) (x1 : Int) : Nat → Int → Col → Option (Col)
 | 0, _, _ => none
 | k1 + 1, x4, x5 => (if decide (x4 < x1) then (if 0 ≤ x4 ∧ x4 < (p1.length : Int) then (if 0 ≤ x1 ∧ x1 < (p1.length : Int) then (spec_l01At p0 (p1.getD x4.toNat 0) (p1.getD x1.toNat 0)).bind fun r10 => (if 0 ≤ (spec_l01Edge x4 x1) ∧ (spec_l01Edge x4 x1) < 136 then spec_l01Part_l1 p0 p1 x1 k1 (w64 (x4 + 1)) (x5.set ((spec_l01Edge x4 x1).toNat) (toByte r10)) else none) else none) else none) else some x5)
def spec_l01Part_l0 (k : Nat) (p0 : Col) (p1 : List Int) : Nat → Int → Col → Option (Col)
 | 0, _, _ => none
 | k0 + 1, x1, x2 => (if decide (x1 < x2.p) then (spec_l01Part_l1 p0 p1 x1 k 0 x2 : Option (Col)).bind fun s12 => spec_l01Part_l0 k p0 p1 k0 (w64 (x1 + 1)) s12 else some x2)
def spec_l01Part (k : Nat) (p0 : Col) (p1 : List Int) : Option (Col) :=
 (spec_l01Part_l0 k p0 p1 k 1 (⟨(p1.length : Int), p0.k, B136.zero⟩ : Col) : Option (Col)).bind fun s13 => some s13
set_option maxRecDepth 100000 in
theorem spec_l01Part_ac (k : Nat) (p0 : Col) (p1 : List Int) (r : Col) (h : spec_l01Part k p0 p1 = some r) : AC Tryz.prog 103 [.d (.agg (colD p0)), .d (.sl none (intsD p1))] [] (fun res H' => res = [.d (.agg (colD r))] ∧ H' = []) := by
 refine AC_of_body true Tryz.func103 rfl Tryz.ntmps103 (rvs := [.cell 4 26]) rfl rfl (fun G hG => ?_)
 have hm : G.H.length = 0 := by rw [hG]; rfl
 have hz : zeroG G.H = true := by rw [hG]; rfl
 unfold spec_l01Part at h
 refine kR ?_
 refine AOps_boxI 2 _ _ (.agg (colD p0)) (colD p0) rfl (colD_one _) rfl rfl rfl rfl rfl ?_
 refine AOps_alloc 4 _ _ (colD Col.zero) (zero_of Tryz.typeInfo26 rfl) (by rfl) rfl rfl rfl rfl ?_
 refine AOps_nil ?_
 refine kR ?_
 refine kM 1 rfl ?_
 refine AOps_q 9 _ rfl rfl rfl (QOp_len_sl _ _ _ _ _ _ _ (intsD_length _) rfl rfl rfl rfl Tryz.underlying27 rfl) ?_
 refine AOps_q 10 _ rfl rfl rfl (QOp_fieldAddr_pv _ _ _ _ _ 1 _ _ rfl Tryz.underlying26 rfl _ Tryz.sizeOf2 rfl rfl) ?_
 refine AOps_q 11 _ rfl rfl rfl (QOp_load_pv _ _ _ _ _ rfl Tryz.isAgg2 rfl rfl) ?_
 refine AOps_q 12 _ rfl rfl rfl (QOp_build _ _ [_, _] [0, 1] [iD (p1.length : Int), iD p0.k] _ (colD Col.zero) (colD (⟨(p1.length : Int), p0.k, B136.zero⟩ : Col)) [(0, 1), (1, 1), (2, 136)] rfl rfl Tryz.underlying26 (zero_of Tryz.typeInfo26 rfl) (fun w => by simp [Tryz.sizeOf2, Tryz.sizeOf2, Tryz.sizeOf24]) rfl (by rfl) (by rfl) (allc (ok1 rfl) (allc (ok1 rfl) (fun _ h => nomatch h)))) ?_
 refine AOps_alloc 5 _ _ (colD Col.zero) (zero_of Tryz.typeInfo26 rfl) (by rfl) rfl rfl rfl rfl ?_
 refine AOps_store _ _ _ _ _ _ (colD _) _ _ rfl rfl rfl rfl rfl rfl rfl (colD_one _) (by rw [colD_length]; exact Tryz.sizeOf26) (by rw [colD_length, colD_length]; decide) (colD_whole _ _) ?_
 refine AOps_nil ?_
 refine kB (fun s13 => [(4, .ptr 0 0), (5, .ptr 1 0)]) (fun s13 => [.box (colD Col.zero), .box (colD s13)]) h (fun s13 h => ?_) (fun s13 h => ?_)
 ·refine kR ?_
  refine kN 1 rfl ?_
  refine ACode_block ?_
  refine ACode_loopW (fun k0 E H => ∃ (x1 : Int) (x2 : Col), E = [(1, .d (.sl none (intsD p1))), (2, .d (.pv (colD p0) 0)), (4, .ptr 0 0), (5, .ptr 1 0), (6, iV x1)] ∧ H = [.box (colD Col.zero), .box (colD x2)] ∧ spec_l01Part_l0 k p0 p1 k0 x1 x2 = some s13) k _ _ (Weak_keep 0 hm [1, 2, 4, 5, 6] [0, 1] _ _ rfl rfl rfl) ⟨_, _, rfl, rfl, h⟩ ?_
  clear h
  rintro k0 E H ⟨x1, x2, rfl, rfl, h⟩
  cases k0 with
  | zero => cases (show (none : Option (Col)) = some _ from h)
  | succ k0 =>
   rw [spec_l01Part_l0] at h
   refine ACode_seq ?_
   refine kR ?_
   refine kM 1 rfl ?_
   refine AOps_q 14 _ rfl rfl rfl (QOp_fieldAddr_ptr _ _ _ _ _ _ 0 _ _ rfl Tryz.underlying26 rfl _ Tryz.sizeOf2 rfl rfl rfl rfl) ?_
   refine AOps_q 15 _ rfl rfl rfl (QOp_load_ptr _ _ _ _ _ _ rfl Tryz.isAgg2 rfl rfl rfl) ?_
   refine AOps_q 16 _ rfl rfl rfl (QOp_lss _ _ _ _ _ _ _ rfl rfl rfl) ?_
   refine AOps_nil ?_
   refine kI h rfl (fun h _ => ?_) (fun h _ => ?_)
   ·refine ACode_skip ?_
    refine kB (fun s12 => [(1, .d (.sl none (intsD p1))), (2, .d (.pv (colD p0) 0)), (4, .ptr 0 0), (5, .ptr 1 0), (6, iV x1)]) (fun s12 => [.box (colD Col.zero), .box (colD s12)]) h (fun s12 h => ?_) (fun s12 h => ?_)
    ·refine ACode_block ?_
     refine kR ?_
     refine kN 1 rfl ?_
     refine ACode_block ?_
     refine ACode_loopW (fun k1 E H => ∃ (x4 : Int) (x5 : Col), E = [(1, .d (.sl none (intsD p1))), (2, .d (.pv (colD p0) 0)), (4, .ptr 0 0), (5, .ptr 1 0), (6, iV x1), (7, iV x4)] ∧ H = [.box (colD Col.zero), .box (colD x5)] ∧ spec_l01Part_l1 p0 p1 x1 k1 x4 x5 = some s12) k _ _ (Weak_keep 0 hm [1, 2, 4, 5, 6, 7] [0, 1] _ _ rfl rfl rfl) ⟨_, _, rfl, rfl, h⟩ ?_
     clear h
     rintro k1 E H ⟨x4, x5, rfl, rfl, h⟩
     cases k1 with
     | zero => cases (show (none : Option (Col)) = some _ from h)
     | succ k1 =>
      rw [spec_l01Part_l1] at h
      refine ACode_seq ?_
      refine kR ?_
      refine kM 2 rfl ?_
      refine AOps_q 21 _ rfl rfl rfl (QOp_lss _ _ _ _ _ _ _ rfl rfl rfl) ?_
      refine AOps_nil ?_
      refine kI h rfl (fun h _ => ?_) (fun h _ => ?_)
      ·refine ACode_skip ?_
       refine ACode_seq ?_
       refine ACode_block ?_
       refine (ACode_last (l := [_, _, _, _, _, _, _, _, _, _, _, _, _, _, _, _]) mixed (by kernel_rfl) (by kernel_rfl) ?_)
       refine kQ 2 rfl ?_
       refine AQ_call 26 _ _ _ _ _ _ _ _ _ rfl rfl rfl rfl rfl rfl rfl Tryz.call147 rfl rfl rfl (spec_l01Edge_ac x4 x1) ?_
       refine AQ_q 27 _ rfl rfl rfl (QOp_loadN_pv _ _ _ _ _ _ rfl Tryz.isAgg26 Tryz.sizeOf26 rfl (colD_all _) (colD_length _)) ?_
       refine kQ 2 rfl ?_
       obtain ⟨hc8, h⟩ := guardO h
       refine AQ_q 30 _ rfl rfl rfl (QOp_indexAddr_sl _ _ _ _ _ _ _ _ rfl Tryz.underlying27 Tryz.sizeOf2 hc8.1 (by rw [intsD_length]; exact hc8.2) rfl rfl) ?_
       refine AQ_q 31 _ rfl rfl rfl (QOp_load_pv _ _ _ _ _ rfl Tryz.isAgg2 rfl (intsD_get _ _ 0 (by omega))) ?_
       refine kQ 2 rfl ?_
       obtain ⟨hc9, h⟩ := guardO h
       refine AQ_q 34 _ rfl rfl rfl (QOp_indexAddr_sl _ _ _ _ _ _ _ _ rfl Tryz.underlying27 Tryz.sizeOf2 hc9.1 (by rw [intsD_length]; exact hc9.2) rfl rfl) ?_
       refine AQ_q 35 _ rfl rfl rfl (QOp_load_pv _ _ _ _ _ rfl Tryz.isAgg2 rfl (intsD_get _ _ 0 (by omega))) ?_
       obtain ⟨r10, hr10, h⟩ := bindO h
       refine AQ_call 36 _ _ _ _ _ _ _ _ _ rfl rfl rfl rfl rfl rfl rfl Tryz.call131 rfl rfl rfl (spec_l01At_ac p0 (p1.getD x4.toNat 0) (p1.getD x1.toNat 0) _ hr10) ?_
       refine AQ_q 37 _ rfl rfl rfl (QOp_toByte _ _ _ _ _ rfl rfl Tryz.underlying5 rfl) ?_
       refine AQ_q 38 _ rfl rfl rfl (QOp_fieldAddr_ptr _ _ _ _ _ _ 2 _ _ rfl Tryz.underlying26 rfl _ Tryz.sizeOf24 rfl rfl rfl rfl) ?_
       obtain ⟨hc11, h⟩ := guardO h
       refine AQ_q 39 _ rfl rfl rfl (QOp_indexAddrA_ptr _ _ _ _ _ _ _ _ _ _ rfl Tryz.underlying24 Tryz.sizeOf5 hc11.1 hc11.2 rfl rfl rfl rfl) ?_
       refine AQ_nil ?_
       refine AOps_store1 _ _ _ _ _ _ (colD (x5.set ((spec_l01Edge x4 x1).toNat) (toByte r10))) _ rfl rfl rfl rfl rfl rfl rfl Tryz.sizeOf5 (by rw [colD_length]; omega) (colD_setE x5 ((spec_l01Edge x4 x1).toNat) (toByte r10)) ?_
       refine AOps_nil ?_
       refine (ACode_region ?_)
       refine kM 1 rfl ?_
       refine AOps_q 23 _ rfl rfl rfl (QOp_add _ _ _ _ _ _ _ rfl rfl rfl) ?_
       refine kN 1 rfl ?_
       exact ⟨k1, _, _, Nat.lt_succ_self _, Weak_keep 0 hm [1, 2, 4, 5, 6, 7] [0, 1] _ _ rfl rfl rfl, _, _, rfl, rfl, h⟩
      refine ACode_exit ?_
      cases h
      exact Weak_keep 0 hm [1, 2, 4, 5, 6] [0, 1] _ _ rfl rfl rfl
    refine (ACode_region ?_)
    refine kM 1 rfl ?_
    refine AOps_q 18 _ rfl rfl rfl (QOp_add _ _ _ _ _ _ _ rfl rfl rfl) ?_
    refine kN 1 rfl ?_
    exact ⟨k0, _, _, Nat.lt_succ_self _, Weak_keep 0 hm [1, 2, 4, 5, 6] [0, 1] _ _ rfl rfl rfl, _, _, rfl, rfl, h⟩
   refine ACode_exit ?_
   cases h
   exact Weak_keep 0 hm [4, 5] [0, 1] _ _ rfl rfl rfl
 refine kR ?_
 refine AOps_q 40 _ rfl rfl rfl (QOp_loadN_ptr _ _ _ _ _ _ _ rfl Tryz.isAgg26 Tryz.sizeOf26 rfl rfl (colD_all _) (colD_length _)) ?_
 refine AOps_store _ _ _ _ _ _ (colD _) _ _ rfl rfl rfl rfl rfl rfl rfl (colD_one _) (by rw [colD_length]; exact Tryz.sizeOf26) (by rw [colD_length, colD_length]; decide) (colD_whole _ _) ?_
 refine AOps_nil ?_
 refine ACode_ret ?_
 cases h
 exact ⟨_, _, fun r a w h => ⟨r, h⟩, _, _, [], _, (.cons (ResV_agg _ _ _ _ _ _ Tryz.isAgg26 Tryz.sizeOf26 rfl rfl (colD_take _) (colD_length _)) .nil), rfl, rfl, rfl, rfl, rfl⟩

-- loop.example/g01362/spec.PartOn
def spec_PartOn (k : Nat) (p0 : Col) (p1 : List Int) : Option (Col × Int) :=
 (spec_l01Set k p0 p1).bind fun r1 => letO (letO (if decide (r1 = 0) then decide ((p1.length : Int) = 0) else false) fun (s3 : Bool) => (if s3 then 2 else r1)) fun (s5 : Int) => (if !decide (s5 = 0) then some ((⟨0, 0, B136.zero⟩ : Col), s5) else (spec_l01Part k p0 p1).bind fun r7 => some (r7, 0))
set_option maxRecDepth 100000 in
theorem spec_PartOn_ac (k : Nat) (p0 : Col) (p1 : List Int) (r : Col × Int) (h : spec_PartOn k p0 p1 = some r) : AC Tryz.prog 23 [.d (.agg (colD p0)), .d (.sl none (intsD p1))] [] (fun res H' => res = [.d (.agg (colD r.1)), iV r.2] ∧ H' = []) := by
 refine AC_of_body true Tryz.func23 rfl Tryz.ntmps23 (rvs := [.cell 4 26, .tmp 5]) rfl rfl (fun G hG => ?_)
 have hm : G.H.length = 0 := by rw [hG]; rfl
 have hz : zeroG G.H = true := by rw [hG]; rfl
 unfold spec_PartOn at h
 refine kR ?_
 refine AOps_boxI 2 _ _ (.agg (colD p0)) (colD p0) rfl (colD_one _) rfl rfl rfl rfl rfl ?_
 refine AOps_alloc 4 _ _ (colD Col.zero) (zero_of Tryz.typeInfo26 rfl) (by rfl) rfl rfl rfl rfl ?_
 refine kN 1 rfl ?_
 refine kR ?_
 refine AOps_q 7 _ rfl rfl rfl (QOp_loadN_pv _ _ _ _ _ _ rfl Tryz.isAgg26 Tryz.sizeOf26 rfl (colD_all _) (colD_length _)) ?_
 refine kM 1 rfl ?_
 obtain ⟨r1, hr1, h⟩ := bindO h
 refine kC [] 9 (iV r1) [.box (colD Col.zero)] rfl Tryz.call102 rfl rfl (spec_l01Set_ac k p0 p1 _ hr1) rfl ?_
 refine kN 1 rfl ?_
 refine kL (fun s5 => [(1, .d (.sl none (intsD p1))), (2, .d (.pv (colD p0) 0)), (4, .ptr 0 0), (6, iV s5)]) (fun s5 => [.box (colD Col.zero)]) h (fun s5 h => ?_) (fun s5 h => ?_)
 ·refine kL (fun s3 => [(1, .d (.sl none (intsD p1))), (2, .d (.pv (colD p0) 0)), (4, .ptr 0 0), (6, iV r1), (16, bV s3)]) (fun s3 => [.box (colD Col.zero)]) h (fun s3 h => ?_) (fun s3 h => ?_)
  ·refine (ACode_region ?_)
   refine kM 1 rfl ?_
   refine AOps_q 11 _ rfl rfl rfl (QOp_eql _ _ _ _ _ _ _ rfl rfl rfl) ?_
   refine kM 1 rfl ?_
   refine AOps_case 12 _ rfl (fun hb2 => ?_) (fun hb2 => ?_)
   ·have h := iteT hb2 h
    refine kM 1 rfl ?_
    refine AOps_q 14 _ rfl rfl rfl (QOp_len_sl _ _ _ _ _ _ _ (intsD_length _) rfl rfl rfl rfl Tryz.underlying27 rfl) ?_
    refine AOps_q 15 _ rfl rfl rfl (QOp_eql _ _ _ _ _ _ _ rfl rfl rfl) ?_
    refine kN 1 rfl ?_
    cases h
    exact Weak_keep 0 hm [1, 2, 4, 6, 16] [0] _ _ rfl rfl rfl
   have h := iteF hb2 h
   refine AOps_skip 13 rfl rfl rfl ?_
   refine AOps_skip 14 rfl rfl rfl ?_
   refine AOps_skip 15 rfl rfl rfl ?_
   refine kN 1 rfl ?_
   cases h
   exact Weak_keep 0 hm [1, 2, 4, 6, 16] [0] _ _ rfl rfl rfl
  refine kI h rfl (fun h _ => ?_) (fun h _ => ?_)
  ·refine (ACode_region ?_)
   refine kN 1 rfl ?_
   cases h
   exact Weak_keep 0 hm [1, 2, 4, 6] [0] _ _ rfl rfl rfl
  refine ACode_skip ?_
  cases h
  exact Weak_keep 0 hm [1, 2, 4, 6] [0] _ _ rfl rfl rfl
 refine ACode_seq ?_
 refine kR ?_
 refine kM 1 rfl ?_
 refine AOps_q 18 _ rfl rfl rfl (QOp_neq _ _ _ _ _ _ _ rfl rfl rfl) ?_
 refine AOps_nil ?_
 refine kI h rfl (fun h _ => ?_) (fun h _ => ?_)
 ·refine kR ?_
  refine AOps_q 19 _ rfl rfl rfl (QOp_build _ _ [] [] [] _ (colD Col.zero) (colD (⟨0, 0, B136.zero⟩ : Col)) [(0, 1), (1, 1), (2, 136)] rfl rfl Tryz.underlying26 (zero_of Tryz.typeInfo26 rfl) (fun w => by simp [Tryz.sizeOf2, Tryz.sizeOf2, Tryz.sizeOf24]) rfl (by rfl) (by rfl) (fun _ h => nomatch h)) ?_
  refine kM 1 rfl ?_
  refine AOps_store _ _ _ _ _ _ (colD _) _ _ rfl rfl rfl rfl rfl rfl rfl (colD_one _) (by rw [colD_length]; exact Tryz.sizeOf26) (by rw [colD_length, colD_length]; decide) (colD_whole _ _) ?_
  refine kN 1 rfl ?_
  refine ACode_ret ?_
  cases h
  exact ⟨_, _, fun r a w h => ⟨r, h⟩, _, _, [], _, (.cons (ResV_agg _ _ _ _ _ _ Tryz.isAgg26 Tryz.sizeOf26 rfl rfl (colD_take _) (colD_length _)) (.cons (ResV_tmp _ _ rfl) .nil)), rfl, rfl, rfl, rfl, rfl⟩
 refine ACode_skip ?_
 refine kR ?_
 refine AOps_q 21 _ rfl rfl rfl (QOp_loadN_pv _ _ _ _ _ _ rfl Tryz.isAgg26 Tryz.sizeOf26 rfl (colD_all _) (colD_length _)) ?_
 refine kM 1 rfl ?_
 obtain ⟨r7, hr7, h⟩ := bindO h
 refine kC [] 23 (.d (.agg (colD r7))) [.box (colD Col.zero)] rfl Tryz.call103 rfl rfl (spec_l01Part_ac k p0 p1 _ hr7) rfl ?_
 refine AOps_store _ _ _ _ _ _ (colD _) _ _ rfl rfl rfl rfl rfl rfl rfl (colD_one _) (by rw [colD_length]; exact Tryz.sizeOf26) (by rw [colD_length, colD_length]; decide) (colD_whole _ _) ?_
 refine kN 1 rfl ?_
 refine ACode_ret ?_
 cases h
 exact ⟨_, _, fun r a w h => ⟨r, h⟩, _, _, [], _, (.cons (ResV_agg _ _ _ _ _ _ Tryz.isAgg26 Tryz.sizeOf26 rfl rfl (colD_take _) (colD_length _)) (.cons (ResV_tmp _ _ rfl) .nil)), rfl, rfl, rfl, rfl, rfl⟩

-- loop.example/g01362/spec.l01Given2
def spec_l01Given2 (k : Nat) (p0 : List UInt8) : Option (Col × Int × Int × Int) :=
 (spec_l01From k p0).bind fun r1 => (spec_l01Draw k r1).bind fun r2 => (spec_l01Near r2.2 (w64 (r2.1.p - 1))).bind fun r3 => (spec_l01Near r3.2 (w64 (r2.1.p - 1))).bind fun r4 => (spec_l01Near r4.2 (w64 (r2.1.k - 1))).bind fun r5 => (spec_l01Bad r5.2 r2.1).bind fun r6 => some (r6.1, r3.1, r4.1, r5.1)
set_option maxRecDepth 100000 in
theorem spec_l01Given2_ac (k : Nat) (p0 : List UInt8) (r : Col × Int × Int × Int) (h : spec_l01Given2 k p0 = some r) : AC Tryz.prog 104 [.d (.sl none (bysD p0))] [] (fun res H' => res = [.d (.agg (colD r.1)), iV r.2.1, iV r.2.2.1, iV r.2.2.2] ∧ H' = []) := by
 refine AC_of_body true Tryz.func104 rfl Tryz.ntmps104 (rvs := [.cell 2 26, .tmp 3, .tmp 4, .tmp 5]) rfl rfl (fun G hG => ?_)
 have hm : G.H.length = 0 := by rw [hG]; rfl
 have hz : zeroG G.H = true := by rw [hG]; rfl
 unfold spec_l01Given2 at h
 refine kR ?_
 refine AOps_alloc 2 _ _ (colD Col.zero) (zero_of Tryz.typeInfo26 rfl) (by rfl) rfl rfl rfl rfl ?_
 refine kN 3 rfl ?_
 refine kR ?_
 refine kM 1 rfl ?_
 obtain ⟨r1, hr1, h⟩ := bindO h
 refine kC [] 12 (.ptr 1 0) [.box (colD Col.zero), .box (srcD r1)] rfl Tryz.call64 rfl rfl (spec_l01From_ac k p0 _ hr1) rfl ?_
 refine kN 1 rfl ?_
 refine kR ?_
 refine kM 1 rfl ?_
 obtain ⟨r2, hr2, h⟩ := bindO h
 refine kC [1] 14 (.d (.agg (colD r2.1))) [.box (colD Col.zero), .box (srcD r2.2)] rfl Tryz.call65 rfl rfl (spec_l01Draw_ac k r1 _ hr2) rfl ?_
 refine AOps_alloc 7 _ _ (colD Col.zero) (zero_of Tryz.typeInfo26 rfl) (by rfl) rfl rfl rfl rfl ?_
 refine AOps_store _ _ _ _ _ _ (colD _) _ _ rfl rfl rfl rfl rfl rfl rfl (colD_one _) (by rw [colD_length]; exact Tryz.sizeOf26) (by rw [colD_length, colD_length]; decide) (colD_whole _ _) ?_
 refine AOps_nil ?_
 refine kR ?_
 refine kM 1 rfl ?_
 refine AOps_q 16 _ rfl rfl rfl (QOp_fieldAddr_ptr _ _ _ _ _ _ 0 _ _ rfl Tryz.underlying26 rfl _ Tryz.sizeOf2 rfl rfl rfl rfl) ?_
 refine AOps_q 17 _ rfl rfl rfl (QOp_load_ptr _ _ _ _ _ _ rfl Tryz.isAgg2 rfl rfl rfl) ?_
 refine AOps_q 18 _ rfl rfl rfl (QOp_sub _ _ _ _ _ _ _ rfl rfl rfl) ?_
 obtain ⟨r3, hr3, h⟩ := bindO h
 refine kC [1] 19 (iV r3.1) [.box (colD Col.zero), .box (srcD r3.2), .box (colD r2.1)] rfl Tryz.call95 rfl rfl (spec_l01Near_ac r2.2 (w64 (r2.1.p - 1)) _ hr3) rfl ?_
 refine kN 1 rfl ?_
 refine kR ?_
 refine kM 1 rfl ?_
 refine AOps_q 21 _ rfl rfl rfl (QOp_fieldAddr_ptr _ _ _ _ _ _ 0 _ _ rfl Tryz.underlying26 rfl _ Tryz.sizeOf2 rfl rfl rfl rfl) ?_
 refine AOps_q 22 _ rfl rfl rfl (QOp_load_ptr _ _ _ _ _ _ rfl Tryz.isAgg2 rfl rfl rfl) ?_
 refine AOps_q 23 _ rfl rfl rfl (QOp_sub _ _ _ _ _ _ _ rfl rfl rfl) ?_
 obtain ⟨r4, hr4, h⟩ := bindO h
 refine kC [1] 24 (iV r4.1) [.box (colD Col.zero), .box (srcD r4.2), .box (colD r2.1)] rfl Tryz.call95 rfl rfl (spec_l01Near_ac r3.2 (w64 (r2.1.p - 1)) _ hr4) rfl ?_
 refine kN 1 rfl ?_
 refine kR ?_
 refine kM 1 rfl ?_
 refine AOps_q 26 _ rfl rfl rfl (QOp_fieldAddr_ptr _ _ _ _ _ _ 1 _ _ rfl Tryz.underlying26 rfl _ Tryz.sizeOf2 rfl rfl rfl rfl) ?_
 refine AOps_q 27 _ rfl rfl rfl (QOp_load_ptr _ _ _ _ _ _ rfl Tryz.isAgg2 rfl rfl rfl) ?_
 refine AOps_q 28 _ rfl rfl rfl (QOp_sub _ _ _ _ _ _ _ rfl rfl rfl) ?_
 obtain ⟨r5, hr5, h⟩ := bindO h
 refine kC [1] 29 (iV r5.1) [.box (colD Col.zero), .box (srcD r5.2), .box (colD r2.1)] rfl Tryz.call95 rfl rfl (spec_l01Near_ac r4.2 (w64 (r2.1.k - 1)) _ hr5) rfl ?_
 refine kN 1 rfl ?_
 refine kR ?_
 refine kM 1 rfl ?_
 refine AOps_q 31 _ rfl rfl rfl (QOp_loadN_ptr _ _ _ _ _ _ _ rfl Tryz.isAgg26 Tryz.sizeOf26 rfl rfl (colD_all _) (colD_length _)) ?_
 obtain ⟨r6, hr6, h⟩ := bindO h
 refine kC [1] 32 (.d (.agg (colD r6.1))) [.box (colD Col.zero), .box (srcD r6.2), .box (colD r2.1)] rfl Tryz.call68 rfl rfl (spec_l01Bad_ac r5.2 r2.1 _ hr6) rfl ?_
 refine kM 3 rfl ?_
 refine AOps_store _ _ _ _ _ _ (colD _) _ _ rfl rfl rfl rfl rfl rfl rfl (colD_one _) (by rw [colD_length]; exact Tryz.sizeOf26) (by rw [colD_length, colD_length]; decide) (colD_whole _ _) ?_
 refine kN 3 rfl ?_
 refine ACode_ret ?_
 cases h
 exact ⟨_, _, fun r a w h => ⟨r, h⟩, _, _, [], _, (.cons (ResV_agg _ _ _ _ _ _ Tryz.isAgg26 Tryz.sizeOf26 rfl rfl (colD_take _) (colD_length _)) (.cons (ResV_tmp _ _ rfl) (.cons (ResV_tmp _ _ rfl) (.cons (ResV_tmp _ _ rfl) .nil)))), rfl, rfl, rfl, rfl, rfl⟩

-- loop.example/g01362/spec.DrawTakePoint
def spec_DrawTakePoint (k : Nat) (p0 : List UInt8) : Option (Col × Int) :=
 (spec_l01Given2 k p0).bind fun r1 => some (r1.1, r1.2.1)
set_option maxRecDepth 100000 in
theorem spec_DrawTakePoint_ac (k : Nat) (p0 : List UInt8) (r : Col × Int) (h : spec_DrawTakePoint k p0 = some r) : AC Tryz.prog 24 [.d (.sl none (bysD p0))] [] (fun res H' => res = [.d (.agg (colD r.1)), iV r.2] ∧ H' = []) := by
 refine AC_of_body true Tryz.func24 rfl Tryz.ntmps24 (rvs := [.cell 2 26, .tmp 3]) rfl rfl (fun G hG => ?_)
 have hm : G.H.length = 0 := by rw [hG]; rfl
 have hz : zeroG G.H = true := by rw [hG]; rfl
 unfold spec_DrawTakePoint at h
 refine kR ?_
 refine AOps_alloc 2 _ _ (colD Col.zero) (zero_of Tryz.typeInfo26 rfl) (by rfl) rfl rfl rfl rfl ?_
 refine kN 1 rfl ?_
 refine kR ?_
 refine kM 1 rfl ?_
 obtain ⟨r1, hr1, h⟩ := bindO h
 refine kC [] 10 (.tup [.d (.agg (colD r1.1)), iV r1.2.1, iV r1.2.2.1, iV r1.2.2.2]) [.box (colD Col.zero)] rfl Tryz.call104 rfl rfl (spec_l01Given2_ac k p0 _ hr1) rfl ?_
 refine kM 5 rfl ?_
 refine AOps_alloc 4 _ _ (colD Col.zero) (zero_of Tryz.typeInfo26 rfl) (by rfl) rfl rfl rfl rfl ?_
 refine AOps_store _ _ _ _ _ _ (colD _) _ _ rfl rfl rfl rfl rfl rfl rfl (colD_one _) (by rw [colD_length]; exact Tryz.sizeOf26) (by rw [colD_length, colD_length]; decide) (colD_whole _ _) ?_
 refine kN 3 rfl ?_
 refine kR ?_
 refine AOps_q 15 _ rfl rfl rfl (QOp_loadN_ptr _ _ _ _ _ _ _ rfl Tryz.isAgg26 Tryz.sizeOf26 rfl rfl (colD_all _) (colD_length _)) ?_
 refine kM 1 rfl ?_
 refine AOps_store _ _ _ _ _ _ (colD _) _ _ rfl rfl rfl rfl rfl rfl rfl (colD_one _) (by rw [colD_length]; exact Tryz.sizeOf26) (by rw [colD_length, colD_length]; decide) (colD_whole _ _) ?_
 refine kN 1 rfl ?_
 refine ACode_ret ?_
 cases h
 exact ⟨_, _, fun r a w h => ⟨r, h⟩, _, _, [], _, (.cons (ResV_agg _ _ _ _ _ _ Tryz.isAgg26 Tryz.sizeOf26 rfl rfl (colD_take _) (colD_length _)) (.cons (ResV_tmp _ _ rfl) .nil)), rfl, rfl, rfl, rfl, rfl⟩

-- loop.example/g01362/spec.l01Take
def spec_l01Take_l0 (p0 : Col) (p1 : Int) : Nat → Int → (List Int) → Option (List Int)
 | 0, _, _ => none
 | k0 + 1, x1, x2 => (if decide (x1 < p0.p) then ((if !decide (x1 = p1) then (if x2.length + ([x1]).length ≤ 1099511627776 then some (x2 ++ ([x1])) else none) else some x2) : Option (List Int)).bind fun s6 => spec_l01Take_l0 p0 p1 k0 (w64 (x1 + 1)) s6 else some x2)
def spec_l01Take (k : Nat) (p0 : Col) (p1 : Int) : Option (Col) :=
 (spec_l01Take_l0 p0 p1 k 0 ([] : List Int) : Option (List Int)).bind fun s7 => (spec_l01Part k p0 s7).bind fun r8 => some r8
set_option maxRecDepth 100000 in
theorem spec_l01Take_ac (k : Nat) (p0 : Col) (p1 : Int) (r : Col) (h : spec_l01Take k p0 p1 = some r) : AC Tryz.prog 105 [.d (.agg (colD p0)), iV p1] [] (fun res H' => res = [.d (.agg (colD r))] ∧ H' = []) := by
 refine AC_of_body true Tryz.func105 rfl Tryz.ntmps105 (rvs := [.cell 4 26]) rfl rfl (fun G hG => ?_)
 have hm : G.H.length = 0 := by rw [hG]; rfl
 have hz : zeroG G.H = true := by rw [hG]; rfl
 unfold spec_l01Take at h
 refine kR ?_
 refine AOps_boxI 2 _ _ (.agg (colD p0)) (colD p0) rfl (colD_one _) rfl rfl rfl rfl rfl ?_
 refine AOps_alloc 4 _ _ (colD Col.zero) (zero_of Tryz.typeInfo26 rfl) (by rfl) rfl rfl rfl rfl ?_
 refine AOps_nil ?_
 refine kR ?_
 refine AOps_buildSlice 7 _ _ _ [] (intsD ([] : List Int)) _ rfl rfl rfl rfl rfl (by decide) Tryz.underlying27 Tryz.sizeOf2 (zero_of Tryz.typeInfo2 rfl) rfl rfl (intsD_one _) ?_
 refine kN 1 rfl ?_
 refine kB (fun s7 => [(2, .d (.pv (colD p0) 0)), (4, .ptr 0 0), (5, .vec 1 0)]) (fun s7 => [.box (colD Col.zero), .vec 0 (intsD s7)]) h (fun s7 h => ?_) (fun s7 h => ?_)
 ·refine kR ?_
  refine kN 1 rfl ?_
  refine ACode_block ?_
  refine ACode_loopW (fun k0 E H => ∃ (x1 : Int) (x2 : List Int), E = [(1, iV p1), (2, .d (.pv (colD p0) 0)), (4, .ptr 0 0), (5, .vec 1 0), (6, iV x1)] ∧ H = [.box (colD Col.zero), .vec 0 (intsD x2)] ∧ spec_l01Take_l0 p0 p1 k0 x1 x2 = some s7) k _ _ (Weak_keep 0 hm [1, 2, 4, 5, 6] [0, 1] _ _ rfl rfl rfl) ⟨_, _, rfl, rfl, h⟩ ?_
  clear h
  rintro k0 E H ⟨x1, x2, rfl, rfl, h⟩
  cases k0 with
  | zero => cases (show (none : Option (List Int)) = some _ from h)
  | succ k0 =>
   rw [spec_l01Take_l0] at h
   refine ACode_seq ?_
   refine kR ?_
   refine kM 1 rfl ?_
   refine AOps_q 9 _ rfl rfl rfl (QOp_fieldAddr_pv _ _ _ _ _ 0 _ _ rfl Tryz.underlying26 rfl _ Tryz.sizeOf2 rfl rfl) ?_
   refine AOps_q 10 _ rfl rfl rfl (QOp_load_pv _ _ _ _ _ rfl Tryz.isAgg2 rfl rfl) ?_
   refine AOps_q 11 _ rfl rfl rfl (QOp_lss _ _ _ _ _ _ _ rfl rfl rfl) ?_
   refine AOps_nil ?_
   refine kI h rfl (fun h _ => ?_) (fun h _ => ?_)
   ·refine ACode_skip ?_
    refine kB (fun s6 => [(1, iV p1), (2, .d (.pv (colD p0) 0)), (4, .ptr 0 0), (5, .vec 1 0), (6, iV x1)]) (fun s6 => [.box (colD Col.zero), .vec 0 (intsD s6)]) h (fun s6 h => ?_) (fun s6 h => ?_)
    ·refine ACode_block ?_
     refine kR ?_
     refine kM 2 rfl ?_
     refine AOps_q 16 _ rfl rfl rfl (QOp_neq _ _ _ _ _ _ _ rfl rfl rfl) ?_
     refine AOps_nil ?_
     refine kI h rfl (fun h _ => ?_) (fun h _ => ?_)
     ·refine (ACode_region ?_)
      refine kM 2 rfl ?_
      refine AOps_buildSlice 19 _ _ _ [_] (intsD ([x1])) _ rfl rfl rfl rfl rfl (by decide) Tryz.underlying27 Tryz.sizeOf2 (zero_of Tryz.typeInfo2 rfl) rfl rfl (intsD_one _) ?_
      obtain ⟨hc5, h⟩ := guardO h
      refine AOps_append 20 _ _ _ _ _ _ _ _ _ _ _ _ rfl rfl rfl rfl rfl rfl rfl Tryz.underlying27 Tryz.type2 rfl rfl rfl (by decide) rfl rfl rfl rfl (intsD_one _) (by rw [intsD_length, intsD_length]; exact hc5) ?_
      rw [intsD_app]
      refine kN 1 rfl ?_
      cases h
      exact Weak_trans (Weak_keep 0 hm [1, 2, 4, 5, 6] [0, 1] _ _ rfl rfl rfl) (Weak_reset 0 hm hz [1, 2, 4, 5, 6] _ _ rfl rfl)
     refine ACode_skip ?_
     cases h
     exact Weak_keep 0 hm [1, 2, 4, 5, 6] [0, 1] _ _ rfl rfl rfl
    refine (ACode_region ?_)
    refine kM 1 rfl ?_
    refine AOps_q 13 _ rfl rfl rfl (QOp_add _ _ _ _ _ _ _ rfl rfl rfl) ?_
    refine kN 1 rfl ?_
    exact ⟨k0, _, _, Nat.lt_succ_self _, Weak_keep 0 hm [1, 2, 4, 5, 6] [0, 1] _ _ rfl rfl rfl, _, _, rfl, rfl, h⟩
   refine ACode_exit ?_
   cases h
   exact Weak_keep 0 hm [2, 4, 5] [0, 1] _ _ rfl rfl rfl
 refine kR ?_
 refine AOps_q 21 _ rfl rfl rfl (QOp_loadN_pv _ _ _ _ _ _ rfl Tryz.isAgg26 Tryz.sizeOf26 rfl (colD_all _) (colD_length _)) ?_
 refine kM 1 rfl ?_
 obtain ⟨r8, hr8, h⟩ := bindO h
 refine AOps_callL [] 23 _ _ _ _ _ _ _ _ _ _ rfl rfl rfl rfl rfl rfl rfl Tryz.call103 rfl (nodupB_sound _ rfl) rfl rfl rfl (spec_l01Part_ac k p0 s7 _ hr8) ?_
 rintro _ _ ⟨rfl, rfl⟩
 refine ⟨(fun _ h => nomatch h), (allc (flat_agg (colD_flat _)) (fun _ h => nomatch h)), AOps_as 23 (v' := .d (.agg (colD r8))) (H' := [.box (colD Col.zero), .vec 0 (intsD s7)]) rfl rfl ?_⟩
 refine AOps_store _ _ _ _ _ _ (colD _) _ _ rfl rfl rfl rfl rfl rfl rfl (colD_one _) (by rw [colD_length]; exact Tryz.sizeOf26) (by rw [colD_length, colD_length]; decide) (colD_whole _ _) ?_
 refine AOps_nil ?_
 refine ACode_ret ?_
 cases h
 exact ⟨_, _, fun r a w h => ⟨r, h⟩, _, _, [], _, (.cons (ResV_agg _ _ _ _ _ _ Tryz.isAgg26 Tryz.sizeOf26 rfl rfl (colD_take _) (colD_length _)) .nil), rfl, rfl, rfl, rfl, rfl⟩

-- loop.example/g01362/spec.TakePoint
def spec_TakePoint (k : Nat) (p0 : Col) (p1 : Int) : Option (Col × Int) :=
 (spec_l01Given k p0 0 ([p1])).bind fun r1 => (if !decide (r1 = 0) then some ((⟨0, 0, B136.zero⟩ : Col), r1) else (if decide (p0.p = 1) then some ((⟨0, 0, B136.zero⟩ : Col), 5) else (spec_l01Take k p0 p1).bind fun r4 => some (r4, 0)))
set_option maxRecDepth 100000 in
theorem spec_TakePoint_ac (k : Nat) (p0 : Col) (p1 : Int) (r : Col × Int) (h : spec_TakePoint k p0 p1 = some r) : AC Tryz.prog 25 [.d (.agg (colD p0)), iV p1] [] (fun res H' => res = [.d (.agg (colD r.1)), iV r.2] ∧ H' = []) := by
 refine AC_of_body true Tryz.func25 rfl Tryz.ntmps25 (rvs := [.cell 4 26, .tmp 5]) rfl rfl (fun G hG => ?_)
 have hm : G.H.length = 0 := by rw [hG]; rfl
 have hz : zeroG G.H = true := by rw [hG]; rfl
 unfold spec_TakePoint at h
 refine kR ?_
 refine AOps_boxI 2 _ _ (.agg (colD p0)) (colD p0) rfl (colD_one _) rfl rfl rfl rfl rfl ?_
 refine AOps_alloc 4 _ _ (colD Col.zero) (zero_of Tryz.typeInfo26 rfl) (by rfl) rfl rfl rfl rfl ?_
 refine kN 1 rfl ?_
 refine ACode_seq ?_
 refine kR ?_
 refine AOps_q 7 _ rfl rfl rfl (QOp_loadN_pv _ _ _ _ _ _ rfl Tryz.isAgg26 Tryz.sizeOf26 rfl (colD_all _) (colD_length _)) ?_
 refine kM 1 rfl ?_
 refine AOps_buildSlice 9 _ _ _ [_] (intsD ([p1])) _ rfl rfl rfl rfl rfl (by decide) Tryz.underlying27 Tryz.sizeOf2 (zero_of Tryz.typeInfo2 rfl) rfl rfl (intsD_one _) ?_
 obtain ⟨r1, hr1, h⟩ := bindO h
 refine AOps_callL [] 10 _ _ _ _ _ _ _ _ _ _ rfl rfl rfl rfl rfl rfl rfl Tryz.call99 rfl (nodupB_sound _ rfl) rfl rfl rfl (spec_l01Given_ac k p0 0 ([p1]) _ hr1) ?_
 rintro _ _ ⟨rfl, rfl⟩
 refine ⟨(fun _ h => nomatch h), (allc (flat_s _) (fun _ h => nomatch h)), AOps_as 10 (v' := iV r1) (H' := [.box (colD Col.zero), .vec 0 (intsD ([p1]))]) rfl rfl ?_⟩
 refine kN 1 rfl ?_
 refine kR ?_
 refine kM 1 rfl ?_
 refine AOps_q 12 _ rfl rfl rfl (QOp_neq _ _ _ _ _ _ _ rfl rfl rfl) ?_
 refine AOps_nil ?_
 refine kI h rfl (fun h _ => ?_) (fun h _ => ?_)
 ·refine kR ?_
  refine AOps_q 13 _ rfl rfl rfl (QOp_build _ _ [] [] [] _ (colD Col.zero) (colD (⟨0, 0, B136.zero⟩ : Col)) [(0, 1), (1, 1), (2, 136)] rfl rfl Tryz.underlying26 (zero_of Tryz.typeInfo26 rfl) (fun w => by simp [Tryz.sizeOf2, Tryz.sizeOf2, Tryz.sizeOf24]) rfl (by rfl) (by rfl) (fun _ h => nomatch h)) ?_
  refine kM 1 rfl ?_
  refine AOps_store _ _ _ _ _ _ (colD _) _ _ rfl rfl rfl rfl rfl rfl rfl (colD_one _) (by rw [colD_length]; exact Tryz.sizeOf26) (by rw [colD_length, colD_length]; decide) (colD_whole _ _) ?_
  refine kN 1 rfl ?_
  refine ACode_ret ?_
  cases h
  exact ⟨_, _, fun r a w h => ⟨r, h⟩, _, _, [], _, (.cons (ResV_agg _ _ _ _ _ _ Tryz.isAgg26 Tryz.sizeOf26 rfl rfl (colD_take _) (colD_length _)) (.cons (ResV_tmp _ _ rfl) .nil)), rfl, rfl, rfl, rfl, rfl⟩
 refine ACode_skip ?_
 refine ACode_seq ?_
 refine kR ?_
 refine AOps_q 15 _ rfl rfl rfl (QOp_fieldAddr_pv _ _ _ _ _ 0 _ _ rfl Tryz.underlying26 rfl _ Tryz.sizeOf2 rfl rfl) ?_
 refine AOps_q 16 _ rfl rfl rfl (QOp_load_pv _ _ _ _ _ rfl Tryz.isAgg2 rfl rfl) ?_
 refine AOps_q 17 _ rfl rfl rfl (QOp_eql _ _ _ _ _ _ _ rfl rfl rfl) ?_
 refine AOps_nil ?_
 refine kI h rfl (fun h _ => ?_) (fun h _ => ?_)
 ·refine kR ?_
  refine AOps_q 18 _ rfl rfl rfl (QOp_build _ _ [] [] [] _ (colD Col.zero) (colD (⟨0, 0, B136.zero⟩ : Col)) [(0, 1), (1, 1), (2, 136)] rfl rfl Tryz.underlying26 (zero_of Tryz.typeInfo26 rfl) (fun w => by simp [Tryz.sizeOf2, Tryz.sizeOf2, Tryz.sizeOf24]) rfl (by rfl) (by rfl) (fun _ h => nomatch h)) ?_
  refine AOps_store _ _ _ _ _ _ (colD _) _ _ rfl rfl rfl rfl rfl rfl rfl (colD_one _) (by rw [colD_length]; exact Tryz.sizeOf26) (by rw [colD_length, colD_length]; decide) (colD_whole _ _) ?_
  refine kN 1 rfl ?_
  refine ACode_ret ?_
  cases h
  exact ⟨_, _, fun r a w h => ⟨r, h⟩, _, _, [], _, (.cons (ResV_agg _ _ _ _ _ _ Tryz.isAgg26 Tryz.sizeOf26 rfl rfl (colD_take _) (colD_length _)) (.cons (ResV_tmp _ _ rfl) .nil)), rfl, rfl, rfl, rfl, rfl⟩
 refine ACode_skip ?_
 refine kR ?_
 refine AOps_q 19 _ rfl rfl rfl (QOp_loadN_pv _ _ _ _ _ _ rfl Tryz.isAgg26 Tryz.sizeOf26 rfl (colD_all _) (colD_length _)) ?_
 refine kM 1 rfl ?_
 obtain ⟨r4, hr4, h⟩ := bindO h
 refine kC [] 21 (.d (.agg (colD r4))) [.box (colD Col.zero), .vec 0 (intsD ([p1]))] rfl Tryz.call105 rfl rfl (spec_l01Take_ac k p0 p1 _ hr4) rfl ?_
 refine AOps_store _ _ _ _ _ _ (colD _) _ _ rfl rfl rfl rfl rfl rfl rfl (colD_one _) (by rw [colD_length]; exact Tryz.sizeOf26) (by rw [colD_length, colD_length]; decide) (colD_whole _ _) ?_
 refine kN 1 rfl ?_
 refine ACode_ret ?_
 cases h
 exact ⟨_, _, fun r a w h => ⟨r, h⟩, _, _, [], _, (.cons (ResV_agg _ _ _ _ _ _ Tryz.isAgg26 Tryz.sizeOf26 rfl rfl (colD_take _) (colD_length _)) (.cons (ResV_tmp _ _ rfl) .nil)), rfl, rfl, rfl, rfl, rfl⟩

-- loop.example/g01362/spec.DrawNamedColouring
def spec_DrawNamedColouring (k : Nat) (p0 : List UInt8) : Option (ByteArray) :=
 (spec_l01From k p0).bind fun r1 => (if (spec_l01Names).length + ([(⟨#[]⟩ : ByteArray), (⟨#[69, 105, 103, 104, 116]⟩ : ByteArray), (⟨#[102, 105, 118, 101]⟩ : ByteArray)]).length ≤ 1099511627776 then (spec_l01Next r1 (((spec_l01Names) ++ ([(⟨#[]⟩ : ByteArray), (⟨#[69, 105, 103, 104, 116]⟩ : ByteArray), (⟨#[102, 105, 118, 101]⟩ : ByteArray)])).length : Int)).bind fun r4 => (if 0 ≤ r4.1 ∧ r4.1 < (((spec_l01Names) ++ ([(⟨#[]⟩ : ByteArray), (⟨#[69, 105, 103, 104, 116]⟩ : ByteArray), (⟨#[102, 105, 118, 101]⟩ : ByteArray)])).length : Int) then some (((spec_l01Names) ++ ([(⟨#[]⟩ : ByteArray), (⟨#[69, 105, 103, 104, 116]⟩ : ByteArray), (⟨#[102, 105, 118, 101]⟩ : ByteArray)])).getD r4.1.toNat ByteArray.empty) else none) else none)
set_option maxRecDepth 100000 in
theorem spec_DrawNamedColouring_ac (k : Nat) (p0 : List UInt8) (r : ByteArray) (h : spec_DrawNamedColouring k p0 = some r) : AC Tryz.prog 26 [.d (.sl none (bysD p0))] [] (fun res H' => res = [.d (.s (.string r))] ∧ H' = []) := by
 refine AC_of_body true Tryz.func26 rfl Tryz.ntmps26 (rvs := [.tmp 2]) rfl rfl (fun G hG => ?_)
 have hm : G.H.length = 0 := by rw [hG]; rfl
 have hz : zeroG G.H = true := by rw [hG]; rfl
 unfold spec_DrawNamedColouring at h
 refine kR ?_
 refine kN 1 rfl ?_
 refine kR ?_
 refine kM 1 rfl ?_
 obtain ⟨r1, hr1, h⟩ := bindO h
 refine kC [] 6 (.ptr 0 0) [.box (srcD r1)] rfl Tryz.call64 rfl rfl (spec_l01From_ac k p0 _ hr1) rfl ?_
 refine kN 1 rfl ?_
 refine kR ?_
 refine kC [] 7 (.vec 1 0) [.box (srcD r1), .vec 0 (stsD (spec_l01Names))] rfl Tryz.call106 rfl rfl (spec_l01Names_ac) rfl ?_
 refine AOps_buildSlice 8 _ _ _ [_, _, _] (stsD ([(⟨#[]⟩ : ByteArray), (⟨#[69, 105, 103, 104, 116]⟩ : ByteArray), (⟨#[102, 105, 118, 101]⟩ : ByteArray)])) _ rfl rfl rfl rfl rfl (by decide) Tryz.underlying86 Tryz.sizeOf9 (zero_of Tryz.typeInfo9 rfl) rfl rfl (stsD_one _) ?_
 obtain ⟨hc3, h⟩ := guardO h
 refine AOps_append 9 _ _ _ _ _ _ _ _ _ _ _ _ rfl rfl rfl rfl rfl rfl rfl Tryz.underlying86 Tryz.type9 rfl rfl rfl (by decide) rfl rfl rfl rfl (stsD_one _) (by rw [stsD_length, stsD_length]; exact hc3) ?_
 rw [stsD_app]
 refine kN 1 rfl ?_
 refine kR ?_
 refine kM 3 rfl ?_
 refine AOps_q 13 _ rfl rfl rfl (QOp_len_vec _ _ _ _ _ _ _ _ (stsD_length _) rfl rfl rfl rfl Tryz.underlying86 rfl rfl) ?_
 obtain ⟨r4, hr4, h⟩ := bindO h
 refine kC [0] 14 (iV r4.1) [.box (srcD r4.2), .vec 1 (stsD ((spec_l01Names) ++ ([(⟨#[]⟩ : ByteArray), (⟨#[69, 105, 103, 104, 116]⟩ : ByteArray), (⟨#[102, 105, 118, 101]⟩ : ByteArray)]))), .vec 0 (stsD ([(⟨#[]⟩ : ByteArray), (⟨#[69, 105, 103, 104, 116]⟩ : ByteArray), (⟨#[102, 105, 118, 101]⟩ : ByteArray)]))] rfl Tryz.call66 rfl rfl (spec_l01Next_ac r1 (((spec_l01Names) ++ ([(⟨#[]⟩ : ByteArray), (⟨#[69, 105, 103, 104, 116]⟩ : ByteArray), (⟨#[102, 105, 118, 101]⟩ : ByteArray)])).length : Int) _ hr4) rfl ?_
 obtain ⟨hc5, h⟩ := guardO h
 refine AOps_q 15 _ rfl rfl rfl (QOp_indexAddr_vec _ _ _ _ _ _ _ _ _ rfl Tryz.underlying86 Tryz.sizeOf9 hc5.1 (by rw [stsD_length]; exact hc5.2) rfl rfl rfl) ?_
 refine AOps_q 16 _ rfl rfl rfl (QOp_load_eptr _ _ _ _ _ _ _ rfl Tryz.isAgg9 rfl rfl (stsD_get _ _ ByteArray.empty (by omega))) ?_
 refine kN 1 rfl ?_
 refine ACode_ret ?_
 cases h
 exact ⟨_, _, Weak_reset 0 hm hz [2] _ _ rfl rfl, _, _, [], _, (.cons (ResV_tmp _ _ rfl) .nil), rfl, rfl, rfl, rfl, rfl⟩

-- slices.Index[[]int64,int64]
def slices_Index_l0 (p0 : List Int) (p1 : Int) : Nat → Int → Option (Sum (Unit) (Int))
 | 0, _ => none
 | k0 + 1, x1 => (if decide (x1 < (p0.length : Int)) then (if 0 ≤ x1 ∧ x1 < (p0.length : Int) then (if decide (p1 = (p0.getD x1.toNat 0)) then some (.inr x1) else slices_Index_l0 p0 p1 k0 (w64 (x1 + 1))) else none) else some (.inl ()))
def slices_Index (k : Nat) (p0 : List Int) (p1 : Int) : Option (Int) :=
 (slices_Index_l0 p0 p1 k 0 : Option (Sum (Unit) (Int))).bind fun os5 => (match os5 with | .inl s5 => some (-1) | .inr rr => some rr)
set_option maxRecDepth 100000 in
theorem slices_Index_ac (k : Nat) (p0 : List Int) (p1 : Int) (r : Int) (h : slices_Index k p0 p1 = some r) : AC Tryz.prog 182 [.d (.sl none (intsD p0)), iV p1] [] (fun res H' => res = [iV r] ∧ H' = []) := by
 refine AC_of_body true Tryz.func182 rfl Tryz.ntmps182 (rvs := [.tmp 4]) rfl rfl (fun G hG => ?_)
 have hm : G.H.length = 0 := by rw [hG]; rfl
 have hz : zeroG G.H = true := by rw [hG]; rfl
 unfold slices_Index at h
 refine kR ?_
 refine kN 1 rfl ?_
 refine kO (fun s5 => []) (fun s5 => []) h (fun os5 h hks5 => ?_) (fun s5 h => ?_)
 ·refine kR ?_
  refine kM 1 rfl ?_
  refine AOps_q 7 _ rfl rfl rfl (QOp_len_sl _ _ _ _ _ _ _ (intsD_length _) rfl rfl rfl rfl Tryz.underlying27 rfl) ?_
  refine kN 1 rfl ?_
  refine ACode_block ?_
  refine ACode_loopW (fun k0 E H => ∃ (x1 : Int), E = [(0, .d (.sl none (intsD p0))), (1, iV p1), (7, iV (p0.length : Int)), (8, iV x1)] ∧ H = [] ∧ slices_Index_l0 p0 p1 k0 x1 = some os5) k _ _ (Weak_keep 0 hm [0, 1, 7, 8] [] _ _ rfl rfl rfl) ⟨_, rfl, rfl, h⟩ ?_
  clear h
  rintro k0 E H ⟨x1, rfl, rfl, h⟩
  cases k0 with
  | zero => cases (show (none : Option (Sum (Unit) (Int))) = some _ from h)
  | succ k0 =>
   rw [slices_Index_l0] at h
   refine kR ?_
   refine AOps_q 9 _ rfl rfl rfl (QOp_lss _ _ _ _ _ _ _ rfl rfl rfl) ?_
   refine AOps_nil ?_
   refine ACode_seq ?_
   refine kI h rfl (fun h _ => ?_) (fun h _ => ?_)
   ·refine ACode_skip ?_
    refine ACode_seq ?_
    refine ACode_block ?_
    refine kR ?_
    refine kN 2 rfl ?_
    refine kR ?_
    refine kM 3 rfl ?_
    obtain ⟨hc3, h⟩ := guardO h
    refine AOps_q 14 _ rfl rfl rfl (QOp_indexAddr_sl _ _ _ _ _ _ _ _ rfl Tryz.underlying27 Tryz.sizeOf2 hc3.1 (by rw [intsD_length]; exact hc3.2) rfl rfl) ?_
    refine AOps_q 15 _ rfl rfl rfl (QOp_load_pv _ _ _ _ _ rfl Tryz.isAgg2 rfl (intsD_get _ _ 0 (by omega))) ?_
    refine AOps_q 16 _ rfl rfl rfl (QOp_eql _ _ _ _ _ _ _ rfl rfl rfl) ?_
    refine AOps_nil ?_
    refine kI h rfl (fun h _ => ?_) (fun h _ => ?_)
    ·refine kR ?_
     refine kN 2 rfl ?_
     refine ACode_ret ?_
     cases h
     have h := hks5
     cases h
     exact ⟨_, _, fun r a w h => ⟨r, h⟩, _, _, [], _, (.cons (ResV_tmp _ _ rfl) .nil), rfl, rfl, rfl, rfl, rfl⟩
    refine ACode_skip ?_
    refine (ACode_region ?_)
    refine AOps_q 18 _ rfl rfl rfl (QOp_add _ _ _ _ _ _ _ rfl rfl rfl) ?_
    refine kN 1 rfl ?_
    exact ⟨k0, _, _, Nat.lt_succ_self _, Weak_keep 0 hm [0, 1, 7, 8] [] _ _ rfl rfl rfl, _, rfl, rfl, h⟩
   refine ACode_exit ?_
   cases h
   exact ⟨_, rfl, Weak_keep 0 hm [] [] _ _ rfl rfl rfl⟩
 refine kR ?_
 refine kN 1 rfl ?_
 refine ACode_ret ?_
 cases h
 exact ⟨_, _, fun r a w h => ⟨r, h⟩, _, _, [], _, (.cons (ResV_tmp _ _ rfl) .nil), rfl, rfl, rfl, rfl, rfl⟩

-- slices.Contains[[]int64,int64]
def slices_Contains (k : Nat) (p0 : List Int) (p1 : Int) : Option (Bool) :=
 (slices_Index k p0 p1).bind fun r1 => some (decide (0 ≤ r1))
set_option maxRecDepth 100000 in
theorem slices_Contains_ac (k : Nat) (p0 : List Int) (p1 : Int) (r : Bool) (h : slices_Contains k p0 p1 = some r) : AC Tryz.prog 171 [.d (.sl none (intsD p0)), iV p1] [] (fun res H' => res = [bV r] ∧ H' = []) := by
 refine AC_of_body true Tryz.func171 rfl Tryz.ntmps171 (rvs := [.tmp 4]) rfl rfl (fun G hG => ?_)
 have hm : G.H.length = 0 := by rw [hG]; rfl
 have hz : zeroG G.H = true := by rw [hG]; rfl
 unfold slices_Contains at h
 refine kR ?_
 refine kN 1 rfl ?_
 refine kR ?_
 refine kM 2 rfl ?_
 obtain ⟨r1, hr1, h⟩ := bindO h
 refine kC [] 7 (iV r1) [] rfl Tryz.call182 rfl rfl (slices_Index_ac k p0 p1 _ hr1) rfl ?_
 refine AOps_q 8 _ rfl rfl rfl (QOp_geq _ _ _ _ _ _ _ rfl rfl rfl) ?_
 refine kN 1 rfl ?_
 refine ACode_ret ?_
 cases h
 exact ⟨_, _, fun r a w h => ⟨r, h⟩, _, _, [], _, (.cons (ResV_tmp _ _ rfl) .nil), rfl, rfl, rfl, rfl, rfl⟩

-- loop.example/g01362/impl.byDifference$1
def impl_byDifference_c1 (k : Nat) (p0 : Int) (p1 : Int) (p2 : List Int) (p3 : Int) : Option (Int) :=
 (((slices_Contains k p2 (w64 (p1 - p0))).bind fun r1 => (if r1 then some true else (slices_Contains k p2 (w64 ((w64 (p3 - p1)) + p0))).bind fun r3 => some r3) : Option (Bool)).bind fun s4 => (if s4 then some (.inr 0) else some (.inl ())) : Option (Sum (Unit) (Int))).bind fun os6 => (match os6 with | .inl s6 => some 1 | .inr rr => some rr)
set_option maxRecDepth 100000 in
theorem impl_byDifference_c1_ac (k : Nat) (p0 : Int) (p1 : Int) (p2 : List Int) (p3 : Int) (r : Int) (h : impl_byDifference_c1 k p0 p1 p2 p3 = some r) : AC Tryz.prog 170 [iV p0, iV p1, .d (.pv ([.sl none (intsD p2)]) 0), .d (.pv ([iD p3]) 0)] [] (fun res H' => res = [iV r] ∧ H' = []) := by
 refine AC_of_body true Tryz.func170 rfl Tryz.ntmps170 (rvs := [.tmp 6]) rfl rfl (fun G hG => ?_)
 have hm : G.H.length = 0 := by rw [hG]; rfl
 have hz : zeroG G.H = true := by rw [hG]; rfl
 unfold impl_byDifference_c1 at h
 refine kR ?_
 refine kN 1 rfl ?_
 refine kO (fun s6 => []) (fun s6 => []) h (fun os6 h hks6 => ?_) (fun s6 h => ?_)
 ·refine kB (fun s4 => [(20, bV s4)]) (fun s4 => []) h (fun s4 h => ?_) (fun s4 h => ?_)
  ·refine (ACode_region ?_)
   refine AOps_q 7 _ rfl rfl rfl (QOp_load_pv _ _ _ _ _ rfl Tryz.isAgg27 rfl rfl) ?_
   refine kM 2 rfl ?_
   refine AOps_q 10 _ rfl rfl rfl (QOp_sub _ _ _ _ _ _ _ rfl rfl rfl) ?_
   obtain ⟨r1, hr1, h⟩ := bindO h
   refine kC [] 11 (bV r1) [] rfl Tryz.call171 rfl rfl (slices_Contains_ac k p2 (w64 (p1 - p0)) _ hr1) rfl ?_
   refine kM 1 rfl ?_
   refine AOps_case 12 _ rfl (fun hb2 => ?_) (fun hb2 => ?_)
   ·have h := iteT hb2 h
    refine AOps_skip 13 rfl rfl rfl ?_
    refine AOps_skip 14 rfl rfl rfl ?_
    refine AOps_skip 15 rfl rfl rfl ?_
    refine AOps_skip 16 rfl rfl rfl ?_
    refine AOps_skip 17 rfl rfl rfl ?_
    refine AOps_skip 18 rfl rfl rfl ?_
    refine AOps_skip 19 rfl rfl rfl ?_
    refine kN 1 rfl ?_
    cases h
    exact Weak_keep 0 hm [20] [] _ _ rfl rfl rfl
   have h := iteF hb2 h
   refine AOps_q 13 _ rfl rfl rfl (QOp_load_pv _ _ _ _ _ rfl Tryz.isAgg27 rfl rfl) ?_
   refine AOps_q 14 _ rfl rfl rfl (QOp_load_pv _ _ _ _ _ rfl Tryz.isAgg2 rfl rfl) ?_
   refine kM 1 rfl ?_
   refine AOps_q 16 _ rfl rfl rfl (QOp_sub _ _ _ _ _ _ _ rfl rfl rfl) ?_
   refine kM 1 rfl ?_
   refine AOps_q 18 _ rfl rfl rfl (QOp_add _ _ _ _ _ _ _ rfl rfl rfl) ?_
   obtain ⟨r3, hr3, h⟩ := bindO h
   refine kC [] 19 (bV r3) [] rfl Tryz.call171 rfl rfl (slices_Contains_ac k p2 (w64 ((w64 (p3 - p1)) + p0)) _ hr3) rfl ?_
   refine kN 1 rfl ?_
   cases h
   exact Weak_keep 0 hm [20] [] _ _ rfl rfl rfl
  refine kI h rfl (fun h _ => ?_) (fun h _ => ?_)
  ·refine kR ?_
   refine kN 1 rfl ?_
   refine ACode_ret ?_
   cases h
   have h := hks6
   cases h
   exact ⟨_, _, fun r a w h => ⟨r, h⟩, _, _, [], _, (.cons (ResV_tmp _ _ rfl) .nil), rfl, rfl, rfl, rfl, rfl⟩
  refine ACode_skip ?_
  cases h
  exact ⟨_, rfl, Weak_keep 0 hm [] [] _ _ rfl rfl rfl⟩
 refine kR ?_
 refine kN 1 rfl ?_
 refine ACode_ret ?_
 cases h
 exact ⟨_, _, fun r a w h => ⟨r, h⟩, _, _, [], _, (.cons (ResV_tmp _ _ rfl) .nil), rfl, rfl, rfl, rfl, rfl⟩

-- loop.example/g01362/impl.byDifference
def impl_byDifference (k : Nat) (p0 : Int) (p1 : List Int) : Option (Col) :=
 (impl_made k p0 2 (fun a0 a1 => impl_byDifference_c1 k a0 a1 p1 p0)).bind fun r1 => some r1
set_option maxRecDepth 100000 in
theorem impl_byDifference_ac (k : Nat) (p0 : Int) (p1 : List Int) (r : Col) (h : impl_byDifference k p0 p1 = some r) : AC Tryz.prog 134 [iV p0, .d (.sl none (intsD p1))] [] (fun res H' => res = [.d (.agg (colD r))] ∧ H' = []) := by
 refine AC_of_body true Tryz.func134 rfl Tryz.ntmps134 (rvs := [.cell 4 26]) rfl rfl (fun G hG => ?_)
 have hm : G.H.length = 0 := by rw [hG]; rfl
 have hz : zeroG G.H = true := by rw [hG]; rfl
 unfold impl_byDifference at h
 refine kR ?_
 refine AOps_boxI 2 _ _ (iD p0) _ rfl (fun c hc => by cases hc with | head => rfl | tail _ h => cases h) rfl rfl rfl rfl rfl ?_
 refine AOps_boxI 3 _ _ (.sl none (intsD p1)) _ rfl (fun c hc => by cases hc with | head => rfl | tail _ h => cases h) rfl rfl rfl rfl rfl ?_
 refine AOps_alloc 4 _ _ (colD Col.zero) (zero_of Tryz.typeInfo26 rfl) (by rfl) rfl rfl rfl rfl ?_
 refine AOps_nil ?_
 refine kR ?_
 refine AOps_q 5 _ rfl rfl rfl (QOp_load_pv _ _ _ _ _ rfl Tryz.isAgg2 rfl rfl) ?_
 refine AOps_q 6 _ rfl rfl rfl (QOp_makeFuncD _ _ _ _ rfl rfl rfl) ?_
 obtain ⟨r1, hr1, h⟩ := bindO h
 refine kC [] 7 (.d (.agg (colD r1))) [.box (colD Col.zero)] rfl Tryz.call148 rfl rfl (impl_made_ac k p0 2 (fun a0 a1 => impl_byDifference_c1 k a0 a1 p1 p0) 170 ([.pv ([.sl none (intsD p1)]) 0, .pv ([iD p0]) 0]) Tryz.call170 (fun a0 a1 r h => impl_byDifference_c1_ac k a0 a1 p1 p0 r h) _ hr1) rfl ?_
 refine AOps_store _ _ _ _ _ _ (colD _) _ _ rfl rfl rfl rfl rfl rfl rfl (colD_one _) (by rw [colD_length]; exact Tryz.sizeOf26) (by rw [colD_length, colD_length]; decide) (colD_whole _ _) ?_
 refine AOps_nil ?_
 refine ACode_ret ?_
 cases h
 exact ⟨_, _, fun r a w h => ⟨r, h⟩, _, _, [], _, (.cons (ResV_agg _ _ _ _ _ _ Tryz.isAgg26 Tryz.sizeOf26 rfl rfl (colD_take _) (colD_length _)) .nil), rfl, rfl, rfl, rfl, rfl⟩

-- loop.example/g01362/impl.named$1
def impl_named_c1 (p0 : Int) (p1 : Int) : Option (Int) :=
 (letO (if decide (bXor .i64 p0 p1 = 1) then decide (bXor .i64 p0 p1 = 1) else (if decide (bXor .i64 p0 p1 = 8) then decide (bXor .i64 p0 p1 = 8) else (if decide (bXor .i64 p0 p1 = 10) then decide (bXor .i64 p0 p1 = 10) else (if decide (bXor .i64 p0 p1 = 12) then decide (bXor .i64 p0 p1 = 12) else decide (bXor .i64 p0 p1 = 15))))) fun (s5 : Bool) => (if s5 then some (.inr 0) else letO (if decide (bXor .i64 p0 p1 = 2) then decide (bXor .i64 p0 p1 = 2) else (if decide (bXor .i64 p0 p1 = 3) then decide (bXor .i64 p0 p1 = 3) else (if decide (bXor .i64 p0 p1 = 7) then decide (bXor .i64 p0 p1 = 7) else (if decide (bXor .i64 p0 p1 = 11) then decide (bXor .i64 p0 p1 = 11) else decide (bXor .i64 p0 p1 = 13))))) fun (s11 : Bool) => (if s11 then some (.inr 1) else some (.inl ()))) : Option (Sum (Unit) (Int))).bind fun os13 => (match os13 with | .inl s13 => some 2 | .inr rr => some rr)
set_option maxRecDepth 100000 in
theorem impl_named_c1_ac (p0 : Int) (p1 : Int) (r : Int) (h : impl_named_c1 p0 p1 = some r) : AC Tryz.prog 155 [iV p0, iV p1] [] (fun res H' => res = [iV r] ∧ H' = []) := by
 refine AC_of_body true Tryz.func155 rfl Tryz.ntmps155 (rvs := [.tmp 4]) rfl rfl (fun G hG => ?_)
 have hm : G.H.length = 0 := by rw [hG]; rfl
 have hz : zeroG G.H = true := by rw [hG]; rfl
 unfold impl_named_c1 at h
 refine kR ?_
 refine kN 1 rfl ?_
 refine kO (fun s13 => []) (fun s13 => []) h (fun os13 h hks13 => ?_) (fun s13 h => ?_)
 ·refine kR ?_
  refine kM 2 rfl ?_
  refine AOps_q 7 _ rfl rfl rfl (QOp_xor _ _ _ _ _ _ _ rfl rfl rfl) ?_
  refine AOps_nil ?_
  refine ACode_block ?_
  refine kL (fun s5 => [(7, iV (bXor .i64 p0 p1)), (8, bV s5)]) (fun s5 => []) h (fun s5 h => ?_) (fun s5 h => ?_)
  ·refine kR ?_
   refine AOps_q 9 _ rfl rfl rfl (QOp_eql _ _ _ _ _ _ _ rfl rfl rfl) ?_
   refine kN 1 rfl ?_
   refine kI h rfl (fun h _ => ?_) (fun h _ => ?_)
   ·refine ACode_skip ?_
    cases h
    exact Weak_keep 0 hm [7, 8] [] _ _ rfl rfl rfl
   refine kR ?_
   refine AOps_q 10 _ rfl rfl rfl (QOp_eql _ _ _ _ _ _ _ rfl rfl rfl) ?_
   refine kN 1 rfl ?_
   refine kI h rfl (fun h _ => ?_) (fun h _ => ?_)
   ·refine ACode_skip ?_
    cases h
    exact Weak_keep 0 hm [7, 8] [] _ _ rfl rfl rfl
   refine kR ?_
   refine AOps_q 11 _ rfl rfl rfl (QOp_eql _ _ _ _ _ _ _ rfl rfl rfl) ?_
   refine kN 1 rfl ?_
   refine kI h rfl (fun h _ => ?_) (fun h _ => ?_)
   ·refine ACode_skip ?_
    cases h
    exact Weak_keep 0 hm [7, 8] [] _ _ rfl rfl rfl
   refine kR ?_
   refine AOps_q 12 _ rfl rfl rfl (QOp_eql _ _ _ _ _ _ _ rfl rfl rfl) ?_
   refine kN 1 rfl ?_
   refine kI h rfl (fun h _ => ?_) (fun h _ => ?_)
   ·refine ACode_skip ?_
    cases h
    exact Weak_keep 0 hm [7, 8] [] _ _ rfl rfl rfl
   refine (ACode_region ?_)
   refine AOps_q 13 _ rfl rfl rfl (QOp_eql _ _ _ _ _ _ _ rfl rfl rfl) ?_
   refine kN 1 rfl ?_
   cases h
   exact Weak_keep 0 hm [7, 8] [] _ _ rfl rfl rfl
  refine kI h rfl (fun h _ => ?_) (fun h _ => ?_)
  ·refine kR ?_
   refine kN 1 rfl ?_
   refine ACode_ret ?_
   cases h
   have h := hks13
   cases h
   exact ⟨_, _, fun r a w h => ⟨r, h⟩, _, _, [], _, (.cons (ResV_tmp _ _ rfl) .nil), rfl, rfl, rfl, rfl, rfl⟩
  refine kL (fun s11 => [(14, bV s11)]) (fun s11 => []) h (fun s11 h => ?_) (fun s11 h => ?_)
  ·refine kR ?_
   refine AOps_q 15 _ rfl rfl rfl (QOp_eql _ _ _ _ _ _ _ rfl rfl rfl) ?_
   refine kN 1 rfl ?_
   refine kI h rfl (fun h _ => ?_) (fun h _ => ?_)
   ·refine ACode_skip ?_
    cases h
    exact Weak_keep 0 hm [14] [] _ _ rfl rfl rfl
   refine kR ?_
   refine AOps_q 16 _ rfl rfl rfl (QOp_eql _ _ _ _ _ _ _ rfl rfl rfl) ?_
   refine kN 1 rfl ?_
   refine kI h rfl (fun h _ => ?_) (fun h _ => ?_)
   ·refine ACode_skip ?_
    cases h
    exact Weak_keep 0 hm [14] [] _ _ rfl rfl rfl
   refine kR ?_
   refine AOps_q 17 _ rfl rfl rfl (QOp_eql _ _ _ _ _ _ _ rfl rfl rfl) ?_
   refine kN 1 rfl ?_
   refine kI h rfl (fun h _ => ?_) (fun h _ => ?_)
   ·refine ACode_skip ?_
    cases h
    exact Weak_keep 0 hm [14] [] _ _ rfl rfl rfl
   refine kR ?_
   refine AOps_q 18 _ rfl rfl rfl (QOp_eql _ _ _ _ _ _ _ rfl rfl rfl) ?_
   refine kN 1 rfl ?_
   refine kI h rfl (fun h _ => ?_) (fun h _ => ?_)
   ·refine ACode_skip ?_
    cases h
    exact Weak_keep 0 hm [14] [] _ _ rfl rfl rfl
   refine (ACode_region ?_)
   refine AOps_q 19 _ rfl rfl rfl (QOp_eql _ _ _ _ _ _ _ rfl rfl rfl) ?_
   refine kN 1 rfl ?_
   cases h
   exact Weak_keep 0 hm [14] [] _ _ rfl rfl rfl
  refine kI h rfl (fun h _ => ?_) (fun h _ => ?_)
  ·refine kR ?_
   refine kN 1 rfl ?_
   refine ACode_ret ?_
   cases h
   have h := hks13
   cases h
   exact ⟨_, _, fun r a w h => ⟨r, h⟩, _, _, [], _, (.cons (ResV_tmp _ _ rfl) .nil), rfl, rfl, rfl, rfl, rfl⟩
  refine ACode_skip ?_
  cases h
  exact ⟨_, rfl, Weak_keep 0 hm [] [] _ _ rfl rfl rfl⟩
 refine kR ?_
 refine kN 1 rfl ?_
 refine ACode_ret ?_
 cases h
 exact ⟨_, _, fun r a w h => ⟨r, h⟩, _, _, [], _, (.cons (ResV_tmp _ _ rfl) .nil), rfl, rfl, rfl, rfl, rfl⟩

-- loop.example/g01362/impl.named
def impl_named (k : Nat) (p0 : ByteArray) : Option (Col × Bool) :=
 (if (p0 == (⟨#[112, 101, 110, 116, 97, 103, 111, 110]⟩ : ByteArray)) then (impl_byDifference k 5 ([1])).bind fun r2 => some (r2, true) else (if (p0 == (⟨#[101, 105, 103, 104, 116]⟩ : ByteArray)) then (impl_byDifference k 8 ([1, 4])).bind fun r4 => some (r4, true) else (if (p0 == (⟨#[116, 104, 105, 114, 116, 101, 101, 110]⟩ : ByteArray)) then (impl_byDifference k 13 ([1, 5])).bind fun r6 => some (r6, true) else (if (p0 == (⟨#[115, 101, 118, 101, 110, 116, 101, 101, 110]⟩ : ByteArray)) then (impl_byDifference k 17 ([1, 2, 4, 8])).bind fun r8 => some (r8, true) else (if (p0 == (⟨#[115, 105, 120, 116, 101, 101, 110]⟩ : ByteArray)) then (impl_made k 16 3 (fun a0 a1 => impl_named_c1 a0 a1)).bind fun r10 => some (r10, true) else some ((⟨0, 0, B136.zero⟩ : Col), false))))))
set_option maxRecDepth 100000 in
theorem impl_named_ac (k : Nat) (p0 : ByteArray) (r : Col × Bool) (h : impl_named k p0 = some r) : AC Tryz.prog 107 [.d (.s (.string p0))] [] (fun res H' => res = [.d (.agg (colD r.1)), bV r.2] ∧ H' = []) := by
 refine AC_of_body true Tryz.func107 rfl Tryz.ntmps107 (rvs := [.cell 2 26, .tmp 3]) rfl rfl (fun G hG => ?_)
 have hm : G.H.length = 0 := by rw [hG]; rfl
 have hz : zeroG G.H = true := by rw [hG]; rfl
 unfold impl_named at h
 refine kR ?_
 refine AOps_alloc 2 _ _ (colD Col.zero) (zero_of Tryz.typeInfo26 rfl) (by rfl) rfl rfl rfl rfl ?_
 refine kN 1 rfl ?_
 refine ACode_seq ?_
 refine kR ?_
 refine kN 1 rfl ?_
 refine ACode_block ?_
 refine kR ?_
 refine AOps_q 6 _ rfl rfl rfl (QOp_seq _ _ _ _ _ _ rfl rfl rfl Tryz.underlying9) ?_
 refine kN 1 rfl ?_
 refine kI h rfl (fun h _ => ?_) (fun h _ => ?_)
 ·refine kR ?_
  refine AOps_buildSlice 7 _ _ _ [_] (intsD ([1])) _ rfl rfl rfl rfl rfl (by decide) Tryz.underlying27 Tryz.sizeOf2 (zero_of Tryz.typeInfo2 rfl) rfl rfl (intsD_one _) ?_
  obtain ⟨r2, hr2, h⟩ := bindO h
  refine AOps_callL [] 8 _ _ _ _ _ _ _ _ _ _ rfl rfl rfl rfl rfl rfl rfl Tryz.call134 rfl (nodupB_sound _ rfl) rfl rfl rfl (impl_byDifference_ac k 5 ([1]) _ hr2) ?_
  rintro _ _ ⟨rfl, rfl⟩
  refine ⟨(fun _ h => nomatch h), (allc (flat_agg (colD_flat _)) (fun _ h => nomatch h)), AOps_as 8 (v' := .d (.agg (colD r2))) (H' := [.box (colD Col.zero), .vec 0 (intsD ([1]))]) rfl rfl ?_⟩
  refine AOps_store _ _ _ _ _ _ (colD _) _ _ rfl rfl rfl rfl rfl rfl rfl (colD_one _) (by rw [colD_length]; exact Tryz.sizeOf26) (by rw [colD_length, colD_length]; decide) (colD_whole _ _) ?_
  refine kN 1 rfl ?_
  refine ACode_ret ?_
  cases h
  exact ⟨_, _, fun r a w h => ⟨r, h⟩, _, _, [], _, (.cons (ResV_agg _ _ _ _ _ _ Tryz.isAgg26 Tryz.sizeOf26 rfl rfl (colD_take _) (colD_length _)) (.cons (ResV_tmp _ _ rfl) .nil)), rfl, rfl, rfl, rfl, rfl⟩
 refine kR ?_
 refine AOps_q 10 _ rfl rfl rfl (QOp_seq _ _ _ _ _ _ rfl rfl rfl Tryz.underlying9) ?_
 refine kN 1 rfl ?_
 refine kI h rfl (fun h _ => ?_) (fun h _ => ?_)
 ·refine kR ?_
  refine AOps_buildSlice 11 _ _ _ [_, _] (intsD ([1, 4])) _ rfl rfl rfl rfl rfl (by decide) Tryz.underlying27 Tryz.sizeOf2 (zero_of Tryz.typeInfo2 rfl) rfl rfl (intsD_one _) ?_
  obtain ⟨r4, hr4, h⟩ := bindO h
  refine AOps_callL [] 12 _ _ _ _ _ _ _ _ _ _ rfl rfl rfl rfl rfl rfl rfl Tryz.call134 rfl (nodupB_sound _ rfl) rfl rfl rfl (impl_byDifference_ac k 8 ([1, 4]) _ hr4) ?_
  rintro _ _ ⟨rfl, rfl⟩
  refine ⟨(fun _ h => nomatch h), (allc (flat_agg (colD_flat _)) (fun _ h => nomatch h)), AOps_as 12 (v' := .d (.agg (colD r4))) (H' := [.box (colD Col.zero), .vec 0 (intsD ([1, 4]))]) rfl rfl ?_⟩
  refine AOps_store _ _ _ _ _ _ (colD _) _ _ rfl rfl rfl rfl rfl rfl rfl (colD_one _) (by rw [colD_length]; exact Tryz.sizeOf26) (by rw [colD_length, colD_length]; decide) (colD_whole _ _) ?_
  refine kN 1 rfl ?_
  refine ACode_ret ?_
  cases h
  exact ⟨_, _, fun r a w h => ⟨r, h⟩, _, _, [], _, (.cons (ResV_agg _ _ _ _ _ _ Tryz.isAgg26 Tryz.sizeOf26 rfl rfl (colD_take _) (colD_length _)) (.cons (ResV_tmp _ _ rfl) .nil)), rfl, rfl, rfl, rfl, rfl⟩
 refine kR ?_
 refine AOps_q 14 _ rfl rfl rfl (QOp_seq _ _ _ _ _ _ rfl rfl rfl Tryz.underlying9) ?_
 refine kN 1 rfl ?_
 refine kI h rfl (fun h _ => ?_) (fun h _ => ?_)
 ·refine kR ?_
  refine AOps_buildSlice 15 _ _ _ [_, _] (intsD ([1, 5])) _ rfl rfl rfl rfl rfl (by decide) Tryz.underlying27 Tryz.sizeOf2 (zero_of Tryz.typeInfo2 rfl) rfl rfl (intsD_one _) ?_
  obtain ⟨r6, hr6, h⟩ := bindO h
  refine AOps_callL [] 16 _ _ _ _ _ _ _ _ _ _ rfl rfl rfl rfl rfl rfl rfl Tryz.call134 rfl (nodupB_sound _ rfl) rfl rfl rfl (impl_byDifference_ac k 13 ([1, 5]) _ hr6) ?_
  rintro _ _ ⟨rfl, rfl⟩
  refine ⟨(fun _ h => nomatch h), (allc (flat_agg (colD_flat _)) (fun _ h => nomatch h)), AOps_as 16 (v' := .d (.agg (colD r6))) (H' := [.box (colD Col.zero), .vec 0 (intsD ([1, 5]))]) rfl rfl ?_⟩
  refine AOps_store _ _ _ _ _ _ (colD _) _ _ rfl rfl rfl rfl rfl rfl rfl (colD_one _) (by rw [colD_length]; exact Tryz.sizeOf26) (by rw [colD_length, colD_length]; decide) (colD_whole _ _) ?_
  refine kN 1 rfl ?_
  refine ACode_ret ?_
  cases h
  exact ⟨_, _, fun r a w h => ⟨r, h⟩, _, _, [], _, (.cons (ResV_agg _ _ _ _ _ _ Tryz.isAgg26 Tryz.sizeOf26 rfl rfl (colD_take _) (colD_length _)) (.cons (ResV_tmp _ _ rfl) .nil)), rfl, rfl, rfl, rfl, rfl⟩
 refine kR ?_
 refine AOps_q 18 _ rfl rfl rfl (QOp_seq _ _ _ _ _ _ rfl rfl rfl Tryz.underlying9) ?_
 refine kN 1 rfl ?_
 refine kI h rfl (fun h _ => ?_) (fun h _ => ?_)
 ·refine kR ?_
  refine AOps_buildSlice 19 _ _ _ [_, _, _, _] (intsD ([1, 2, 4, 8])) _ rfl rfl rfl rfl rfl (by decide) Tryz.underlying27 Tryz.sizeOf2 (zero_of Tryz.typeInfo2 rfl) rfl rfl (intsD_one _) ?_
  obtain ⟨r8, hr8, h⟩ := bindO h
  refine AOps_callL [] 20 _ _ _ _ _ _ _ _ _ _ rfl rfl rfl rfl rfl rfl rfl Tryz.call134 rfl (nodupB_sound _ rfl) rfl rfl rfl (impl_byDifference_ac k 17 ([1, 2, 4, 8]) _ hr8) ?_
  rintro _ _ ⟨rfl, rfl⟩
  refine ⟨(fun _ h => nomatch h), (allc (flat_agg (colD_flat _)) (fun _ h => nomatch h)), AOps_as 20 (v' := .d (.agg (colD r8))) (H' := [.box (colD Col.zero), .vec 0 (intsD ([1, 2, 4, 8]))]) rfl rfl ?_⟩
  refine AOps_store _ _ _ _ _ _ (colD _) _ _ rfl rfl rfl rfl rfl rfl rfl (colD_one _) (by rw [colD_length]; exact Tryz.sizeOf26) (by rw [colD_length, colD_length]; decide) (colD_whole _ _) ?_
  refine kN 1 rfl ?_
  refine ACode_ret ?_
  cases h
  exact ⟨_, _, fun r a w h => ⟨r, h⟩, _, _, [], _, (.cons (ResV_agg _ _ _ _ _ _ Tryz.isAgg26 Tryz.sizeOf26 rfl rfl (colD_take _) (colD_length _)) (.cons (ResV_tmp _ _ rfl) .nil)), rfl, rfl, rfl, rfl, rfl⟩
 refine kR ?_
 refine AOps_q 22 _ rfl rfl rfl (QOp_seq _ _ _ _ _ _ rfl rfl rfl Tryz.underlying9) ?_
 refine kN 1 rfl ?_
 refine kI h rfl (fun h _ => ?_) (fun h _ => ?_)
 ·refine kR ?_
  obtain ⟨r10, hr10, h⟩ := bindO h
  refine kC [] 23 (.d (.agg (colD r10))) [.box (colD Col.zero)] rfl Tryz.call148 rfl rfl (impl_made_ac k 16 3 (fun a0 a1 => impl_named_c1 a0 a1) 155 ([]) Tryz.call155 (fun a0 a1 r h => impl_named_c1_ac a0 a1 r h) _ hr10) rfl ?_
  refine AOps_store _ _ _ _ _ _ (colD _) _ _ rfl rfl rfl rfl rfl rfl rfl (colD_one _) (by rw [colD_length]; exact Tryz.sizeOf26) (by rw [colD_length, colD_length]; decide) (colD_whole _ _) ?_
  refine kN 1 rfl ?_
  refine ACode_ret ?_
  cases h
  exact ⟨_, _, fun r a w h => ⟨r, h⟩, _, _, [], _, (.cons (ResV_agg _ _ _ _ _ _ Tryz.isAgg26 Tryz.sizeOf26 rfl rfl (colD_take _) (colD_length _)) (.cons (ResV_tmp _ _ rfl) .nil)), rfl, rfl, rfl, rfl, rfl⟩
 refine ACode_skip ?_
 refine kR ?_
 refine AOps_q 24 _ rfl rfl rfl (QOp_build _ _ [] [] [] _ (colD Col.zero) (colD (⟨0, 0, B136.zero⟩ : Col)) [(0, 1), (1, 1), (2, 136)] rfl rfl Tryz.underlying26 (zero_of Tryz.typeInfo26 rfl) (fun w => by simp [Tryz.sizeOf2, Tryz.sizeOf2, Tryz.sizeOf24]) rfl (by rfl) (by rfl) (fun _ h => nomatch h)) ?_
 refine AOps_store _ _ _ _ _ _ (colD _) _ _ rfl rfl rfl rfl rfl rfl rfl (colD_one _) (by rw [colD_length]; exact Tryz.sizeOf26) (by rw [colD_length, colD_length]; decide) (colD_whole _ _) ?_
 refine kN 1 rfl ?_
 refine ACode_ret ?_
 cases h
 exact ⟨_, _, fun r a w h => ⟨r, h⟩, _, _, [], _, (.cons (ResV_agg _ _ _ _ _ _ Tryz.isAgg26 Tryz.sizeOf26 rfl rfl (colD_take _) (colD_length _)) (.cons (ResV_tmp _ _ rfl) .nil)), rfl, rfl, rfl, rfl, rfl⟩

-- loop.example/g01362/impl.NamedColouring
def impl_NamedColouring (k : Nat) (p0 : ByteArray) : Option (Col × Int) :=
 (impl_named k p0).bind fun r1 => (if !r1.2 then some ((⟨0, 0, B136.zero⟩ : Col), 4) else some (r1.1, 0))
set_option maxRecDepth 100000 in
theorem impl_NamedColouring_ac (k : Nat) (p0 : ByteArray) (r : Col × Int) (h : impl_NamedColouring k p0 = some r) : AC Tryz.prog 27 [.d (.s (.string p0))] [] (fun res H' => res = [.d (.agg (colD r.1)), iV r.2] ∧ H' = []) := by
 refine AC_of_body true Tryz.func27 rfl Tryz.ntmps27 (rvs := [.cell 2 26, .tmp 3]) rfl rfl (fun G hG => ?_)
 have hm : G.H.length = 0 := by rw [hG]; rfl
 have hz : zeroG G.H = true := by rw [hG]; rfl
 unfold impl_NamedColouring at h
 refine kR ?_
 refine AOps_alloc 2 _ _ (colD Col.zero) (zero_of Tryz.typeInfo26 rfl) (by rfl) rfl rfl rfl rfl ?_
 refine kN 1 rfl ?_
 refine kR ?_
 refine kM 1 rfl ?_
 obtain ⟨r1, hr1, h⟩ := bindO h
 refine kC [] 8 (.tup [.d (.agg (colD r1.1)), bV r1.2]) [.box (colD Col.zero)] rfl Tryz.call107 rfl rfl (impl_named_ac k p0 _ hr1) rfl ?_
 refine kM 3 rfl ?_
 refine AOps_alloc 4 _ _ (colD Col.zero) (zero_of Tryz.typeInfo26 rfl) (by rfl) rfl rfl rfl rfl ?_
 refine AOps_store _ _ _ _ _ _ (colD _) _ _ rfl rfl rfl rfl rfl rfl rfl (colD_one _) (by rw [colD_length]; exact Tryz.sizeOf26) (by rw [colD_length, colD_length]; decide) (colD_whole _ _) ?_
 refine kN 1 rfl ?_
 refine ACode_seq ?_
 refine kR ?_
 refine kM 1 rfl ?_
 refine AOps_q 12 _ rfl rfl rfl (QOp_not _ _ _ rfl rfl) ?_
 refine AOps_nil ?_
 refine kI h rfl (fun h _ => ?_) (fun h _ => ?_)
 ·refine kR ?_
  refine AOps_q 13 _ rfl rfl rfl (QOp_build _ _ [] [] [] _ (colD Col.zero) (colD (⟨0, 0, B136.zero⟩ : Col)) [(0, 1), (1, 1), (2, 136)] rfl rfl Tryz.underlying26 (zero_of Tryz.typeInfo26 rfl) (fun w => by simp [Tryz.sizeOf2, Tryz.sizeOf2, Tryz.sizeOf24]) rfl (by rfl) (by rfl) (fun _ h => nomatch h)) ?_
  refine AOps_store _ _ _ _ _ _ (colD _) _ _ rfl rfl rfl rfl rfl rfl rfl (colD_one _) (by rw [colD_length]; exact Tryz.sizeOf26) (by rw [colD_length, colD_length]; decide) (colD_whole _ _) ?_
  refine kN 1 rfl ?_
  refine ACode_ret ?_
  cases h
  exact ⟨_, _, fun r a w h => ⟨r, h⟩, _, _, [], _, (.cons (ResV_agg _ _ _ _ _ _ Tryz.isAgg26 Tryz.sizeOf26 rfl rfl (colD_take _) (colD_length _)) (.cons (ResV_tmp _ _ rfl) .nil)), rfl, rfl, rfl, rfl, rfl⟩
 refine ACode_skip ?_
 refine kR ?_
 refine AOps_q 14 _ rfl rfl rfl (QOp_loadN_ptr _ _ _ _ _ _ _ rfl Tryz.isAgg26 Tryz.sizeOf26 rfl rfl (colD_all _) (colD_length _)) ?_
 refine AOps_store _ _ _ _ _ _ (colD _) _ _ rfl rfl rfl rfl rfl rfl rfl (colD_one _) (by rw [colD_length]; exact Tryz.sizeOf26) (by rw [colD_length, colD_length]; decide) (colD_whole _ _) ?_
 refine kN 1 rfl ?_
 refine ACode_ret ?_
 cases h
 exact ⟨_, _, fun r a w h => ⟨r, h⟩, _, _, [], _, (.cons (ResV_agg _ _ _ _ _ _ Tryz.isAgg26 Tryz.sizeOf26 rfl rfl (colD_take _) (colD_length _)) (.cons (ResV_tmp _ _ rfl) .nil)), rfl, rfl, rfl, rfl, rfl⟩

-- loop.example/g01362/spec.NamedColouring
def spec_NamedColouring (k : Nat) (p0 : ByteArray) : Option (Col × Int) :=
 (spec_l01Named k p0).bind fun r1 => (if !r1.2 then some ((⟨0, 0, B136.zero⟩ : Col), 4) else some (r1.1, 0))
set_option maxRecDepth 100000 in
theorem spec_NamedColouring_ac (k : Nat) (p0 : ByteArray) (r : Col × Int) (h : spec_NamedColouring k p0 = some r) : AC Tryz.prog 28 [.d (.s (.string p0))] [] (fun res H' => res = [.d (.agg (colD r.1)), iV r.2] ∧ H' = []) := by
 refine AC_of_body true Tryz.func28 rfl Tryz.ntmps28 (rvs := [.cell 2 26, .tmp 3]) rfl rfl (fun G hG => ?_)
 have hm : G.H.length = 0 := by rw [hG]; rfl
 have hz : zeroG G.H = true := by rw [hG]; rfl
 unfold spec_NamedColouring at h
 refine kR ?_
 refine AOps_alloc 2 _ _ (colD Col.zero) (zero_of Tryz.typeInfo26 rfl) (by rfl) rfl rfl rfl rfl ?_
 refine kN 1 rfl ?_
 refine kR ?_
 refine kM 1 rfl ?_
 obtain ⟨r1, hr1, h⟩ := bindO h
 refine kC [] 8 (.tup [.d (.agg (colD r1.1)), bV r1.2]) [.box (colD Col.zero)] rfl Tryz.call108 rfl rfl (spec_l01Named_ac k p0 _ hr1) rfl ?_
 refine kM 3 rfl ?_
 refine AOps_alloc 4 _ _ (colD Col.zero) (zero_of Tryz.typeInfo26 rfl) (by rfl) rfl rfl rfl rfl ?_
 refine AOps_store _ _ _ _ _ _ (colD _) _ _ rfl rfl rfl rfl rfl rfl rfl (colD_one _) (by rw [colD_length]; exact Tryz.sizeOf26) (by rw [colD_length, colD_length]; decide) (colD_whole _ _) ?_
 refine kN 1 rfl ?_
 refine ACode_seq ?_
 refine kR ?_
 refine kM 1 rfl ?_
 refine AOps_q 12 _ rfl rfl rfl (QOp_not _ _ _ rfl rfl) ?_
 refine AOps_nil ?_
 refine kI h rfl (fun h _ => ?_) (fun h _ => ?_)
 ·refine kR ?_
  refine AOps_q 13 _ rfl rfl rfl (QOp_build _ _ [] [] [] _ (colD Col.zero) (colD (⟨0, 0, B136.zero⟩ : Col)) [(0, 1), (1, 1), (2, 136)] rfl rfl Tryz.underlying26 (zero_of Tryz.typeInfo26 rfl) (fun w => by simp [Tryz.sizeOf2, Tryz.sizeOf2, Tryz.sizeOf24]) rfl (by rfl) (by rfl) (fun _ h => nomatch h)) ?_
  refine AOps_store _ _ _ _ _ _ (colD _) _ _ rfl rfl rfl rfl rfl rfl rfl (colD_one _) (by rw [colD_length]; exact Tryz.sizeOf26) (by rw [colD_length, colD_length]; decide) (colD_whole _ _) ?_
  refine kN 1 rfl ?_
  refine ACode_ret ?_
  cases h
  exact ⟨_, _, fun r a w h => ⟨r, h⟩, _, _, [], _, (.cons (ResV_agg _ _ _ _ _ _ Tryz.isAgg26 Tryz.sizeOf26 rfl rfl (colD_take _) (colD_length _)) (.cons (ResV_tmp _ _ rfl) .nil)), rfl, rfl, rfl, rfl, rfl⟩
 refine ACode_skip ?_
 refine kR ?_
 refine AOps_q 14 _ rfl rfl rfl (QOp_loadN_ptr _ _ _ _ _ _ _ rfl Tryz.isAgg26 Tryz.sizeOf26 rfl rfl (colD_all _) (colD_length _)) ?_
 refine AOps_store _ _ _ _ _ _ (colD _) _ _ rfl rfl rfl rfl rfl rfl rfl (colD_one _) (by rw [colD_length]; exact Tryz.sizeOf26) (by rw [colD_length, colD_length]; decide) (colD_whole _ _) ?_
 refine kN 1 rfl ?_
 refine ACode_ret ?_
 cases h
 exact ⟨_, _, fun r a w h => ⟨r, h⟩, _, _, [], _, (.cons (ResV_agg _ _ _ _ _ _ Tryz.isAgg26 Tryz.sizeOf26 rfl rfl (colD_take _) (colD_length _)) (.cons (ResV_tmp _ _ rfl) .nil)), rfl, rfl, rfl, rfl, rfl⟩

-- loop.example/g01362/laws.FnChangedColourings
def laws_FnChangedColourings_l0 (r3 : Col × List Int) : Nat → Int → (List Int) → Option (List Int)
 | 0, _, _ => none
 | k0 + 1, x12, x13 => (if decide (x12 < r3.1.p) then (if x13.length + ([x12]).length ≤ 1099511627776 then laws_FnChangedColourings_l0 r3 k0 (w64 (x12 + 1)) (x13 ++ ([x12])) else none) else some x13)
def laws_FnChangedColourings_l1 (r24 : Col × List Int) : Nat → Int → (List Int) → Option (List Int)
 | 0, _, _ => none
 | k1 + 1, x33, x34 => (if decide (x33 < (r24.2.length : Int)) then (if 0 ≤ x33 ∧ x33 < (r24.2.length : Int) then (if 0 ≤ (r24.2.getD x33.toNat 0) ∧ (r24.2.getD x33.toNat 0) < (x34.length : Int) then laws_FnChangedColourings_l1 r24 k1 (w64 (x33 + 1)) (x34.set (r24.2.getD x33.toNat 0).toNat x33) else none) else none) else some x34)
def laws_FnChangedColourings_l2 (r44 : Col × List Int) (r52 : Option (List Int) × Int) (r53 : Option (List Int) × Int) : Nat → Int → Option (Sum (Unit) (Bool))
 | 0, _ => none
 | k2 + 1, x60 => (if decide (x60 < (r44.2.length : Int)) then (if 0 ≤ x60 ∧ x60 < (r44.2.length : Int) then (if 0 ≤ (r44.2.getD x60.toNat 0) ∧ (r44.2.getD x60.toNat 0) < ((r53.1.getD []).length : Int) then (if 0 ≤ x60 ∧ x60 < ((r52.1.getD []).length : Int) then (if !decide (((r53.1.getD []).getD (r44.2.getD x60.toNat 0).toNat 0) = ((r52.1.getD []).getD x60.toNat 0)) then some (.inr false) else laws_FnChangedColourings_l2 r44 r52 r53 k2 (w64 (x60 + 1))) else none) else none) else none) else some (.inl ()))
def laws_FnChangedColourings (k : Nat) (p0 : List UInt8) : Option (Bool) :=
 (if (laws_big p0) then some true else (spec_DrawPutPoint k p0).bind fun r3 => (impl_PutPoint k r3.1 r3.2).bind fun r4 => (spec_PutPoint k r3.1 r3.2).bind fun r5 => (letO (if !decide (r4.2 = r5.2) then true else !(r4.1.eqb r5.1)) fun (s7 : Bool) => (if s7 then some (.inr false) else some (.inl ())) : Option (Sum (Unit) (Bool))).bind fun os9 => (match os9 with | .inl s9 => ((if decide (r4.2 = 0) then (impl_TakePoint k r4.1 r3.1.p).bind fun r11 => (laws_FnChangedColourings_l0 r3 k 0 ([] : List Int) : Option (List Int)).bind fun s16 => (impl_PartOn k r4.1 s16).bind fun r17 => letO (if !decide (r11.2 = 0) then true else (if !decide (r17.2 = 0) then true else (if !(r11.1.eqb r3.1) then true else !(r17.1.eqb r3.1)))) fun (s21 : Bool) => (if s21 then some (.inr false) else some (.inl ())) else some (.inl ())) : Option (Sum (Unit) (Bool))).bind fun os23 => (match os23 with | .inl s23 => (spec_DrawRenumberPoints k p0).bind fun r24 => (impl_RenumberPoints k r24.1 r24.2).bind fun r25 => (spec_RenumberPoints k r24.1 r24.2).bind fun r26 => (letO (if !decide (r25.2 = r26.2) then true else !(r25.1.eqb r26.1)) fun (s28 : Bool) => (if s28 then some (.inr false) else some (.inl ())) : Option (Sum (Unit) (Bool))).bind fun os30 => (match os30 with | .inl s30 => ((if decide (r25.2 = 0) then (if 0 ≤ (r24.2.length : Int) ∧ (r24.2.length : Int) ≤ (r24.2.length : Int) ∧ (r24.2.length : Int) ≤ 1099511627776 then (laws_FnChangedColourings_l1 r24 k 0 (List.replicate (r24.2.length : Int).toNat (0 : Int)) : Option (List Int)).bind fun s38 => (impl_RenumberPoints k r25.1 s38).bind fun r39 => letO (if !decide (r39.2 = 0) then true else !(r39.1.eqb r24.1)) fun (s41 : Bool) => (if s41 then some (.inr false) else some (.inl ())) else none) else some (.inl ())) : Option (Sum (Unit) (Bool))).bind fun os43 => (match os43 with | .inl s43 => (spec_DrawExchangeColours k p0).bind fun r44 => (impl_ExchangeColours k r44.1 r44.2).bind fun r45 => (spec_ExchangeColours k r44.1 r44.2).bind fun r46 => (letO (if !decide (r45.2 = r46.2) then true else !(r45.1.eqb r46.1)) fun (s48 : Bool) => (if s48 then some (.inr false) else some (.inl ())) : Option (Sum (Unit) (Bool))).bind fun os50 => (match os50 with | .inl s50 => ((if decide (r45.2 = 0) then (impl_CountEdges k r44.1).bind fun r52 => (impl_CountEdges k r45.1).bind fun r53 => (letO (if !decide (r52.2 = 0) then true else (if !decide (r53.2 = 0) then true else (if !decide (((r52.1.getD []).length : Int) = (r44.2.length : Int)) then true else !decide (((r53.1.getD []).length : Int) = (r44.2.length : Int))))) fun (s57 : Bool) => (if s57 then (some (.inr false)).bind fun rr => some (.inr rr) else some (.inl ())) : Option (Sum (Unit) (Sum (Unit) (Bool)))).bind fun os59 => (match os59 with | .inl s59 => laws_FnChangedColourings_l2 r44 r52 r53 k 0 | .inr rr => some rr) else some (.inl ())) : Option (Sum (Unit) (Bool))).bind fun os66 => (match os66 with | .inl s66 => (spec_DrawJoinColours k p0).bind fun r67 => (impl_JoinColours k r67.1 r67.2.1 r67.2.2).bind fun r68 => (spec_JoinColours k r67.1 r67.2.1 r67.2.2).bind fun r69 => (letO (if !decide (r68.2 = r69.2) then true else !(r68.1.eqb r69.1)) fun (s71 : Bool) => (if s71 then some (.inr false) else some (.inl ())) : Option (Sum (Unit) (Bool))).bind fun os73 => (match os73 with | .inl s73 => ((if decide (r68.2 = 0) then (impl_CountEdges k r67.1).bind fun r75 => (impl_CountEdges k r68.1).bind fun r76 => ((if !decide (r75.2 = 0) then some true else (if !decide (r76.2 = 0) then some true else (if !decide (w64 (((r76.1.getD []).length : Int) + 1) = ((r75.1.getD []).length : Int)) then some true else (if 0 ≤ r67.2.1 ∧ r67.2.1 < ((r76.1.getD []).length : Int) then (if 0 ≤ r67.2.1 ∧ r67.2.1 < ((r75.1.getD []).length : Int) then (if 0 ≤ r67.2.2 ∧ r67.2.2 < ((r75.1.getD []).length : Int) then some (!decide (((r76.1.getD []).getD r67.2.1.toNat 0) = w64 (((r75.1.getD []).getD r67.2.1.toNat 0) + ((r75.1.getD []).getD r67.2.2.toNat 0)))) else none) else none) else none)))) : Option (Bool)).bind fun s83 => (if s83 then some (.inr false) else some (.inl ())) else some (.inl ())) : Option (Sum (Unit) (Bool))).bind fun os85 => (match os85 with | .inl s85 => (spec_DrawPartOn k p0).bind fun r86 => (impl_PartOn k r86.1 r86.2).bind fun r87 => (spec_PartOn k r86.1 r86.2).bind fun r88 => (spec_DrawTakePoint k p0).bind fun r89 => (impl_TakePoint k r89.1 r89.2).bind fun r90 => (spec_TakePoint k r89.1 r89.2).bind fun r91 => (spec_DrawNamedColouring k p0).bind fun r92 => (impl_NamedColouring k r92).bind fun r93 => (spec_NamedColouring k r92).bind fun r94 => letO (if decide (r87.2 = r88.2) then (if (r87.1.eqb r88.1) then (if decide (r90.2 = r91.2) then (if (r90.1.eqb r91.1) then (if decide (r93.2 = r94.2) then (r93.1.eqb r94.1) else false) else false) else false) else false) else false) fun (s100 : Bool) => some s100 | .inr rr => some rr) | .inr rr => some rr) | .inr rr => some rr) | .inr rr => some rr) | .inr rr => some rr) | .inr rr => some rr) | .inr rr => some rr) | .inr rr => some rr))
set_option maxRecDepth 100000 in
theorem laws_FnChangedColourings_ac (k : Nat) (p0 : List UInt8) (r : Bool) (h : laws_FnChangedColourings k p0 = some r) : AC Tryz.prog 3 [.d (.sl none (bysD p0))] [] (fun res H' => res = [bV r] ∧ H' = []) := by
 refine AC_of_body true Tryz.func3 rfl Tryz.ntmps3 (rvs := [.tmp 2]) rfl rfl (fun G hG => ?_)
 have hm : G.H.length = 0 := by rw [hG]; rfl
 have hz : zeroG G.H = true := by rw [hG]; rfl
 unfold laws_FnChangedColourings at h
 refine kR ?_
 refine kN 1 rfl ?_
 refine ACode_seq ?_
 refine kR ?_
 refine kM 1 rfl ?_
 refine kC [] 65 (bV (laws_big p0)) [] rfl Tryz.call6 rfl rfl (laws_big_ac p0) rfl ?_
 refine AOps_nil ?_
 refine kI h rfl (fun h _ => ?_) (fun h _ => ?_)
 ·refine kR ?_
  refine kN 1 rfl ?_
  refine ACode_ret ?_
  cases h
  exact ⟨_, _, fun r a w h => ⟨r, h⟩, _, _, [], _, (.cons (ResV_tmp _ _ rfl) .nil), rfl, rfl, rfl, rfl, rfl⟩
 refine ACode_skip ?_
 refine kR ?_
 refine kM 1 rfl ?_
 obtain ⟨r3, hr3, h⟩ := bindO h
 refine kC [] 68 (.tup [.d (.agg (colD r3.1)), .vec 0 0]) [.vec 0 (intsD r3.2)] rfl Tryz.call7 rfl rfl (spec_DrawPutPoint_ac k p0 _ hr3) rfl ?_
 refine kM 3 rfl ?_
 refine AOps_alloc 3 _ _ (colD Col.zero) (zero_of Tryz.typeInfo26 rfl) (by rfl) rfl rfl rfl rfl ?_
 refine AOps_store _ _ _ _ _ _ (colD _) _ _ rfl rfl rfl rfl rfl rfl rfl (colD_one _) (by rw [colD_length]; exact Tryz.sizeOf26) (by rw [colD_length, colD_length]; decide) (colD_whole _ _) ?_
 refine kN 1 rfl ?_
 refine kR ?_
 refine AOps_q 72 _ rfl rfl rfl (QOp_loadN_ptr _ _ _ _ _ _ _ rfl Tryz.isAgg26 Tryz.sizeOf26 rfl rfl (colD_all _) (colD_length _)) ?_
 refine kM 1 rfl ?_
 obtain ⟨r4, hr4, h⟩ := bindO h
 refine AOps_callL [] 74 _ _ _ _ _ _ _ _ _ _ rfl rfl rfl rfl rfl rfl rfl Tryz.call8 rfl (nodupB_sound _ rfl) rfl rfl rfl (impl_PutPoint_ac k r3.1 r3.2 _ hr4) ?_
 rintro _ _ ⟨rfl, rfl⟩
 refine ⟨(fun _ h => nomatch h), (allc (flat_agg (colD_flat _)) (allc (flat_s _) (fun _ h => nomatch h))), AOps_as 74 (v' := .tup [.d (.agg (colD r4.1)), iV r4.2]) (H' := [.vec 0 (intsD r3.2), .box (colD r3.1)]) rfl rfl ?_⟩
 refine kM 3 rfl ?_
 refine AOps_alloc 5 _ _ (colD Col.zero) (zero_of Tryz.typeInfo26 rfl) (by rfl) rfl rfl rfl rfl ?_
 refine AOps_store _ _ _ _ _ _ (colD _) _ _ rfl rfl rfl rfl rfl rfl rfl (colD_one _) (by rw [colD_length]; exact Tryz.sizeOf26) (by rw [colD_length, colD_length]; decide) (colD_whole _ _) ?_
 refine kN 1 rfl ?_
 refine kR ?_
 refine AOps_q 78 _ rfl rfl rfl (QOp_loadN_ptr _ _ _ _ _ _ _ rfl Tryz.isAgg26 Tryz.sizeOf26 rfl rfl (colD_all _) (colD_length _)) ?_
 refine kM 1 rfl ?_
 obtain ⟨r5, hr5, h⟩ := bindO h
 refine AOps_callL [] 80 _ _ _ _ _ _ _ _ _ _ rfl rfl rfl rfl rfl rfl rfl Tryz.call9 rfl (nodupB_sound _ rfl) rfl rfl rfl (spec_PutPoint_ac k r3.1 r3.2 _ hr5) ?_
 rintro _ _ ⟨rfl, rfl⟩
 refine ⟨(fun _ h => nomatch h), (allc (flat_agg (colD_flat _)) (allc (flat_s _) (fun _ h => nomatch h))), AOps_as 80 (v' := .tup [.d (.agg (colD r5.1)), iV r5.2]) (H' := [.vec 0 (intsD r3.2), .box (colD r3.1), .box (colD r4.1)]) rfl rfl ?_⟩
 refine kM 3 rfl ?_
 refine AOps_alloc 7 _ _ (colD Col.zero) (zero_of Tryz.typeInfo26 rfl) (by rfl) rfl rfl rfl rfl ?_
 refine AOps_store _ _ _ _ _ _ (colD _) _ _ rfl rfl rfl rfl rfl rfl rfl (colD_one _) (by rw [colD_length]; exact Tryz.sizeOf26) (by rw [colD_length, colD_length]; decide) (colD_whole _ _) ?_
 refine kN 1 rfl ?_
 refine kO (fun s9 => [(0, .d (.sl none (bysD p0))), (3, .ptr 0 0), (5, .ptr 1 0), (6, iV r4.2)]) (fun s9 => [.box (colD r3.1), .box (colD r4.1)]) h (fun os9 h hks9 => ?_) (fun s9 h => ?_)
 ·refine kL (fun s7 => [(0, .d (.sl none (bysD p0))), (3, .ptr 0 0), (5, .ptr 1 0), (6, iV r4.2), (90, bV s7)]) (fun s7 => [.box (colD r3.1), .box (colD r4.1)]) h (fun s7 h => ?_) (fun s7 h => ?_)
  ·refine (ACode_region ?_)
   refine kM 2 rfl ?_
   refine AOps_q 85 _ rfl rfl rfl (QOp_neq _ _ _ _ _ _ _ rfl rfl rfl) ?_
   refine kM 1 rfl ?_
   refine AOps_case 86 _ rfl (fun hb6 => ?_) (fun hb6 => ?_)
   ·have h := iteT hb6 h
    refine AOps_skip 87 rfl rfl rfl ?_
    refine AOps_skip 88 rfl rfl rfl ?_
    refine AOps_skip 89 rfl rfl rfl ?_
    refine kN 1 rfl ?_
    cases h
    exact Weak_keep 0 hm [0, 3, 5, 6, 90] [1, 2] _ _ rfl rfl rfl
   have h := iteF hb6 h
   refine AOps_q 87 _ rfl rfl rfl (QOp_loadN_ptr _ _ _ _ _ _ _ rfl Tryz.isAgg26 Tryz.sizeOf26 rfl rfl (colD_all _) (colD_length _)) ?_
   refine AOps_q 88 _ rfl rfl rfl (QOp_loadN_ptr _ _ _ _ _ _ _ rfl Tryz.isAgg26 Tryz.sizeOf26 rfl rfl (colD_all _) (colD_length _)) ?_
   refine AOps_q 89 _ rfl rfl rfl (QOp_neqCol _ _ _ _ _ _ _ _ _ _ _ _ rfl rfl rfl Tryz.underlying26 (by kernel_rfl) (by kernel_rfl) (by decide) (by decide) (by decide) rfl rfl rfl rfl rfl rfl Tryz.underlying2 Tryz.underlying24 Tryz.underlying5 Tryz.sizeOf5 Tryz.sizeOf24) ?_
   refine kN 1 rfl ?_
   cases h
   exact Weak_keep 0 hm [0, 3, 5, 6, 90] [1, 2] _ _ rfl rfl rfl
  refine kI h rfl (fun h _ => ?_) (fun h _ => ?_)
  ·refine kR ?_
   refine kN 1 rfl ?_
   refine ACode_ret ?_
   cases h
   have h := hks9
   cases h
   exact ⟨_, _, fun r a w h => ⟨r, h⟩, _, _, [], _, (.cons (ResV_tmp _ _ rfl) .nil), rfl, rfl, rfl, rfl, rfl⟩
  refine ACode_skip ?_
  cases h
  exact ⟨_, rfl, Weak_keep 0 hm [0, 3, 5, 6] [0, 1] _ _ rfl rfl rfl⟩
 refine kO (fun s23 => [(0, .d (.sl none (bysD p0)))]) (fun s23 => []) h (fun os23 h hks23 => ?_) (fun s23 h => ?_)
 ·refine kR ?_
  refine kM 1 rfl ?_
  refine AOps_q 92 _ rfl rfl rfl (QOp_eql _ _ _ _ _ _ _ rfl rfl rfl) ?_
  refine AOps_nil ?_
  refine kI h rfl (fun h _ => ?_) (fun h _ => ?_)
  ·refine kR ?_
   refine AOps_q 94 _ rfl rfl rfl (QOp_loadN_ptr _ _ _ _ _ _ _ rfl Tryz.isAgg26 Tryz.sizeOf26 rfl rfl (colD_all _) (colD_length _)) ?_
   refine AOps_q 95 _ rfl rfl rfl (QOp_fieldAddr_ptr _ _ _ _ _ _ 0 _ _ rfl Tryz.underlying26 rfl _ Tryz.sizeOf2 rfl rfl rfl rfl) ?_
   refine AOps_q 96 _ rfl rfl rfl (QOp_load_ptr _ _ _ _ _ _ rfl Tryz.isAgg2 rfl rfl rfl) ?_
   obtain ⟨r11, hr11, h⟩ := bindO h
   refine kC [] 97 (.tup [.d (.agg (colD r11.1)), iV r11.2]) [.box (colD r3.1), .box (colD r4.1)] rfl Tryz.call10 rfl rfl (impl_TakePoint_ac k r4.1 r3.1.p _ hr11) rfl ?_
   refine kM 3 rfl ?_
   refine AOps_alloc 9 _ _ (colD Col.zero) (zero_of Tryz.typeInfo26 rfl) (by rfl) rfl rfl rfl rfl ?_
   refine AOps_store _ _ _ _ _ _ (colD _) _ _ rfl rfl rfl rfl rfl rfl rfl (colD_one _) (by rw [colD_length]; exact Tryz.sizeOf26) (by rw [colD_length, colD_length]; decide) (colD_whole _ _) ?_
   refine kN 1 rfl ?_
   refine kR ?_
   refine AOps_buildSlice 100 _ _ _ [] (intsD ([] : List Int)) _ rfl rfl rfl rfl rfl (by decide) Tryz.underlying27 Tryz.sizeOf2 (zero_of Tryz.typeInfo2 rfl) rfl rfl (intsD_one _) ?_
   refine kN 1 rfl ?_
   refine kB (fun s16 => [(0, .d (.sl none (bysD p0))), (3, .ptr 0 0), (5, .ptr 1 0), (9, .ptr 2 0), (10, iV r11.2), (11, .vec 3 0)]) (fun s16 => [.box (colD r3.1), .box (colD r4.1), .box (colD r11.1), .vec 0 (intsD s16)]) h (fun s16 h => ?_) (fun s16 h => ?_)
   ·refine kR ?_
    refine kN 1 rfl ?_
    refine ACode_block ?_
    refine ACode_loopW (fun k0 E H => ∃ (x12 : Int) (x13 : List Int), E = [(0, .d (.sl none (bysD p0))), (3, .ptr 0 0), (5, .ptr 1 0), (9, .ptr 2 0), (10, iV r11.2), (11, .vec 3 0), (12, iV x12)] ∧ H = [.box (colD r3.1), .box (colD r4.1), .box (colD r11.1), .vec 0 (intsD x13)] ∧ laws_FnChangedColourings_l0 r3 k0 x12 x13 = some s16) k _ _ (Weak_keep 0 hm [0, 3, 5, 9, 10, 11, 12] [0, 1, 2, 3] _ _ rfl rfl rfl) ⟨_, _, rfl, rfl, h⟩ ?_
    clear h
    rintro k0 E H ⟨x12, x13, rfl, rfl, h⟩
    cases k0 with
    | zero => cases (show (none : Option (List Int)) = some _ from h)
    | succ k0 =>
     rw [laws_FnChangedColourings_l0] at h
     refine ACode_seq ?_
     refine kR ?_
     refine kM 1 rfl ?_
     refine AOps_q 102 _ rfl rfl rfl (QOp_fieldAddr_ptr _ _ _ _ _ _ 0 _ _ rfl Tryz.underlying26 rfl _ Tryz.sizeOf2 rfl rfl rfl rfl) ?_
     refine AOps_q 103 _ rfl rfl rfl (QOp_load_ptr _ _ _ _ _ _ rfl Tryz.isAgg2 rfl rfl rfl) ?_
     refine AOps_q 104 _ rfl rfl rfl (QOp_lss _ _ _ _ _ _ _ rfl rfl rfl) ?_
     refine AOps_nil ?_
     refine kI h rfl (fun h _ => ?_) (fun h _ => ?_)
     ·refine ACode_skip ?_
      refine ACode_seq ?_
      refine ACode_block ?_
      refine (ACode_region ?_)
      refine kM 2 rfl ?_
      refine AOps_buildSlice 109 _ _ _ [_] (intsD ([x12])) _ rfl rfl rfl rfl rfl (by decide) Tryz.underlying27 Tryz.sizeOf2 (zero_of Tryz.typeInfo2 rfl) rfl rfl (intsD_one _) ?_
      obtain ⟨hc15, h⟩ := guardO h
      refine AOps_append 110 _ _ _ _ _ _ _ _ _ _ _ _ rfl rfl rfl rfl rfl rfl rfl Tryz.underlying27 Tryz.type2 rfl rfl rfl (by decide) rfl rfl rfl rfl (intsD_one _) (by rw [intsD_length, intsD_length]; exact hc15) ?_
      rw [intsD_app]
      refine kN 1 rfl ?_
      refine (ACode_region ?_)
      refine kM 1 rfl ?_
      refine AOps_q 106 _ rfl rfl rfl (QOp_add _ _ _ _ _ _ _ rfl rfl rfl) ?_
      refine kN 1 rfl ?_
      exact ⟨k0, _, _, Nat.lt_succ_self _, Weak_trans (Weak_keep 0 hm [0, 3, 5, 9, 10, 11, 12] [0, 1, 2, 3] _ _ rfl rfl rfl) (Weak_reset 0 hm hz [0, 3, 5, 9, 10, 11, 12] _ _ rfl rfl), _, _, rfl, rfl, h⟩
     refine ACode_exit ?_
     cases h
     exact Weak_keep 0 hm [0, 3, 5, 9, 10, 11] [0, 1, 2, 3] _ _ rfl rfl rfl
   refine kR ?_
   refine AOps_q 112 _ rfl rfl rfl (QOp_loadN_ptr _ _ _ _ _ _ _ rfl Tryz.isAgg26 Tryz.sizeOf26 rfl rfl (colD_all _) (colD_length _)) ?_
   refine kM 1 rfl ?_
   obtain ⟨r17, hr17, h⟩ := bindO h
   refine AOps_callL [] 114 _ _ _ _ _ _ _ _ _ _ rfl rfl rfl rfl rfl rfl rfl Tryz.call11 rfl (nodupB_sound _ rfl) rfl rfl rfl (impl_PartOn_ac k r4.1 s16 _ hr17) ?_
   rintro _ _ ⟨rfl, rfl⟩
   refine ⟨(fun _ h => nomatch h), (allc (flat_agg (colD_flat _)) (allc (flat_s _) (fun _ h => nomatch h))), AOps_as 114 (v' := .tup [.d (.agg (colD r17.1)), iV r17.2]) (H' := [.box (colD r3.1), .box (colD r4.1), .box (colD r11.1), .vec 0 (intsD s16)]) rfl rfl ?_⟩
   refine kM 3 rfl ?_
   refine AOps_alloc 13 _ _ (colD Col.zero) (zero_of Tryz.typeInfo26 rfl) (by rfl) rfl rfl rfl rfl ?_
   refine AOps_store _ _ _ _ _ _ (colD _) _ _ rfl rfl rfl rfl rfl rfl rfl (colD_one _) (by rw [colD_length]; exact Tryz.sizeOf26) (by rw [colD_length, colD_length]; decide) (colD_whole _ _) ?_
   refine kN 1 rfl ?_
   refine kL (fun s21 => [(0, .d (.sl none (bysD p0))), (132, bV s21)]) (fun s21 => []) h (fun s21 h => ?_) (fun s21 h => ?_)
   ·refine (ACode_region ?_)
    refine kM 1 rfl ?_
    refine AOps_q 118 _ rfl rfl rfl (QOp_neq _ _ _ _ _ _ _ rfl rfl rfl) ?_
    refine kM 1 rfl ?_
    refine AOps_case 119 _ rfl (fun hb18 => ?_) (fun hb18 => ?_)
    ·have h := iteT hb18 h
     refine AOps_skip 120 rfl rfl rfl ?_
     refine AOps_skip 121 rfl rfl rfl ?_
     refine kM 2 rfl ?_
     refine AOps_skip 124 rfl rfl rfl ?_
     refine AOps_skip 125 rfl rfl rfl ?_
     refine AOps_skip 126 rfl rfl rfl ?_
     refine kM 2 rfl ?_
     refine AOps_skip 129 rfl rfl rfl ?_
     refine AOps_skip 130 rfl rfl rfl ?_
     refine AOps_skip 131 rfl rfl rfl ?_
     refine kN 1 rfl ?_
     cases h
     exact Weak_keep 0 hm [0, 132] [] _ _ rfl rfl rfl
    have h := iteF hb18 h
    refine kM 1 rfl ?_
    refine AOps_q 121 _ rfl rfl rfl (QOp_neq _ _ _ _ _ _ _ rfl rfl rfl) ?_
    refine kM 2 rfl ?_
    refine AOps_case 123 _ rfl (fun hb19 => ?_) (fun hb19 => ?_)
    ·have h := iteT hb19 h
     refine AOps_skip 124 rfl rfl rfl ?_
     refine AOps_skip 125 rfl rfl rfl ?_
     refine AOps_skip 126 rfl rfl rfl ?_
     refine kM 2 rfl ?_
     refine AOps_skip 129 rfl rfl rfl ?_
     refine AOps_skip 130 rfl rfl rfl ?_
     refine AOps_skip 131 rfl rfl rfl ?_
     refine kN 1 rfl ?_
     cases h
     exact Weak_keep 0 hm [0, 132] [] _ _ rfl rfl rfl
    have h := iteF hb19 h
    refine AOps_q 124 _ rfl rfl rfl (QOp_loadN_ptr _ _ _ _ _ _ _ rfl Tryz.isAgg26 Tryz.sizeOf26 rfl rfl (colD_all _) (colD_length _)) ?_
    refine AOps_q 125 _ rfl rfl rfl (QOp_loadN_ptr _ _ _ _ _ _ _ rfl Tryz.isAgg26 Tryz.sizeOf26 rfl rfl (colD_all _) (colD_length _)) ?_
    refine AOps_q 126 _ rfl rfl rfl (QOp_neqCol _ _ _ _ _ _ _ _ _ _ _ _ rfl rfl rfl Tryz.underlying26 (by kernel_rfl) (by kernel_rfl) (by decide) (by decide) (by decide) rfl rfl rfl rfl rfl rfl Tryz.underlying2 Tryz.underlying24 Tryz.underlying5 Tryz.sizeOf5 Tryz.sizeOf24) ?_
    refine kM 2 rfl ?_
    refine AOps_case 128 _ rfl (fun hb20 => ?_) (fun hb20 => ?_)
    ·have h := iteT hb20 h
     refine AOps_skip 129 rfl rfl rfl ?_
     refine AOps_skip 130 rfl rfl rfl ?_
     refine AOps_skip 131 rfl rfl rfl ?_
     refine kN 1 rfl ?_
     cases h
     exact Weak_keep 0 hm [0, 132] [] _ _ rfl rfl rfl
    have h := iteF hb20 h
    refine AOps_q 129 _ rfl rfl rfl (QOp_loadN_ptr _ _ _ _ _ _ _ rfl Tryz.isAgg26 Tryz.sizeOf26 rfl rfl (colD_all _) (colD_length _)) ?_
    refine AOps_q 130 _ rfl rfl rfl (QOp_loadN_ptr _ _ _ _ _ _ _ rfl Tryz.isAgg26 Tryz.sizeOf26 rfl rfl (colD_all _) (colD_length _)) ?_
    refine AOps_q 131 _ rfl rfl rfl (QOp_neqCol _ _ _ _ _ _ _ _ _ _ _ _ rfl rfl rfl Tryz.underlying26 (by kernel_rfl) (by kernel_rfl) (by decide) (by decide) (by decide) rfl rfl rfl rfl rfl rfl Tryz.underlying2 Tryz.underlying24 Tryz.underlying5 Tryz.sizeOf5 Tryz.sizeOf24) ?_
    refine kN 1 rfl ?_
    cases h
    exact Weak_keep 0 hm [0, 132] [] _ _ rfl rfl rfl
   refine kI h rfl (fun h _ => ?_) (fun h _ => ?_)
   ·refine kR ?_
    refine kN 1 rfl ?_
    refine ACode_ret ?_
    cases h
    have h := hks23
    cases h
    exact ⟨_, _, fun r a w h => ⟨r, h⟩, _, _, [], _, (.cons (ResV_tmp _ _ rfl) .nil), rfl, rfl, rfl, rfl, rfl⟩
   refine ACode_skip ?_
   cases h
   exact ⟨_, rfl, Weak_keep 0 hm [0] [] _ _ rfl rfl rfl⟩
  refine ACode_skip ?_
  cases h
  exact ⟨_, rfl, Weak_keep 0 hm [0] [] _ _ rfl rfl rfl⟩
 refine kR ?_
 refine kM 1 rfl ?_
 obtain ⟨r24, hr24, h⟩ := bindO h
 refine kC [] 135 (.tup [.d (.agg (colD r24.1)), .vec 0 0]) [.vec 0 (intsD r24.2)] rfl Tryz.call12 rfl rfl (spec_DrawRenumberPoints_ac k p0 _ hr24) rfl ?_
 refine kM 3 rfl ?_
 refine AOps_alloc 15 _ _ (colD Col.zero) (zero_of Tryz.typeInfo26 rfl) (by rfl) rfl rfl rfl rfl ?_
 refine AOps_store _ _ _ _ _ _ (colD _) _ _ rfl rfl rfl rfl rfl rfl rfl (colD_one _) (by rw [colD_length]; exact Tryz.sizeOf26) (by rw [colD_length, colD_length]; decide) (colD_whole _ _) ?_
 refine kN 1 rfl ?_
 refine kR ?_
 refine AOps_q 139 _ rfl rfl rfl (QOp_loadN_ptr _ _ _ _ _ _ _ rfl Tryz.isAgg26 Tryz.sizeOf26 rfl rfl (colD_all _) (colD_length _)) ?_
 refine kM 1 rfl ?_
 obtain ⟨r25, hr25, h⟩ := bindO h
 refine AOps_callL [] 141 _ _ _ _ _ _ _ _ _ _ rfl rfl rfl rfl rfl rfl rfl Tryz.call13 rfl (nodupB_sound _ rfl) rfl rfl rfl (impl_RenumberPoints_ac k r24.1 r24.2 _ hr25) ?_
 rintro _ _ ⟨rfl, rfl⟩
 refine ⟨(fun _ h => nomatch h), (allc (flat_agg (colD_flat _)) (allc (flat_s _) (fun _ h => nomatch h))), AOps_as 141 (v' := .tup [.d (.agg (colD r25.1)), iV r25.2]) (H' := [.vec 0 (intsD r24.2), .box (colD r24.1)]) rfl rfl ?_⟩
 refine kM 3 rfl ?_
 refine AOps_alloc 17 _ _ (colD Col.zero) (zero_of Tryz.typeInfo26 rfl) (by rfl) rfl rfl rfl rfl ?_
 refine AOps_store _ _ _ _ _ _ (colD _) _ _ rfl rfl rfl rfl rfl rfl rfl (colD_one _) (by rw [colD_length]; exact Tryz.sizeOf26) (by rw [colD_length, colD_length]; decide) (colD_whole _ _) ?_
 refine kN 1 rfl ?_
 refine kR ?_
 refine AOps_q 145 _ rfl rfl rfl (QOp_loadN_ptr _ _ _ _ _ _ _ rfl Tryz.isAgg26 Tryz.sizeOf26 rfl rfl (colD_all _) (colD_length _)) ?_
 refine kM 1 rfl ?_
 obtain ⟨r26, hr26, h⟩ := bindO h
 refine AOps_callL [] 147 _ _ _ _ _ _ _ _ _ _ rfl rfl rfl rfl rfl rfl rfl Tryz.call14 rfl (nodupB_sound _ rfl) rfl rfl rfl (spec_RenumberPoints_ac k r24.1 r24.2 _ hr26) ?_
 rintro _ _ ⟨rfl, rfl⟩
 refine ⟨(fun _ h => nomatch h), (allc (flat_agg (colD_flat _)) (allc (flat_s _) (fun _ h => nomatch h))), AOps_as 147 (v' := .tup [.d (.agg (colD r26.1)), iV r26.2]) (H' := [.vec 0 (intsD r24.2), .box (colD r24.1), .box (colD r25.1)]) rfl rfl ?_⟩
 refine kM 3 rfl ?_
 refine AOps_alloc 19 _ _ (colD Col.zero) (zero_of Tryz.typeInfo26 rfl) (by rfl) rfl rfl rfl rfl ?_
 refine AOps_store _ _ _ _ _ _ (colD _) _ _ rfl rfl rfl rfl rfl rfl rfl (colD_one _) (by rw [colD_length]; exact Tryz.sizeOf26) (by rw [colD_length, colD_length]; decide) (colD_whole _ _) ?_
 refine kN 1 rfl ?_
 refine kO (fun s30 => [(0, .d (.sl none (bysD p0))), (15, .ptr 0 0), (16, .vec 1 0), (17, .ptr 2 0), (18, iV r25.2)]) (fun s30 => [.box (colD r24.1), .vec 0 (intsD r24.2), .box (colD r25.1)]) h (fun os30 h hks30 => ?_) (fun s30 h => ?_)
 ·refine kL (fun s28 => [(0, .d (.sl none (bysD p0))), (15, .ptr 0 0), (16, .vec 1 0), (17, .ptr 2 0), (18, iV r25.2), (157, bV s28)]) (fun s28 => [.box (colD r24.1), .vec 0 (intsD r24.2), .box (colD r25.1)]) h (fun s28 h => ?_) (fun s28 h => ?_)
  ·refine (ACode_region ?_)
   refine kM 2 rfl ?_
   refine AOps_q 152 _ rfl rfl rfl (QOp_neq _ _ _ _ _ _ _ rfl rfl rfl) ?_
   refine kM 1 rfl ?_
   refine AOps_case 153 _ rfl (fun hb27 => ?_) (fun hb27 => ?_)
   ·have h := iteT hb27 h
    refine AOps_skip 154 rfl rfl rfl ?_
    refine AOps_skip 155 rfl rfl rfl ?_
    refine AOps_skip 156 rfl rfl rfl ?_
    refine kN 1 rfl ?_
    cases h
    exact Weak_keep 0 hm [0, 15, 16, 17, 18, 157] [1, 0, 2] _ _ rfl rfl rfl
   have h := iteF hb27 h
   refine AOps_q 154 _ rfl rfl rfl (QOp_loadN_ptr _ _ _ _ _ _ _ rfl Tryz.isAgg26 Tryz.sizeOf26 rfl rfl (colD_all _) (colD_length _)) ?_
   refine AOps_q 155 _ rfl rfl rfl (QOp_loadN_ptr _ _ _ _ _ _ _ rfl Tryz.isAgg26 Tryz.sizeOf26 rfl rfl (colD_all _) (colD_length _)) ?_
   refine AOps_q 156 _ rfl rfl rfl (QOp_neqCol _ _ _ _ _ _ _ _ _ _ _ _ rfl rfl rfl Tryz.underlying26 (by kernel_rfl) (by kernel_rfl) (by decide) (by decide) (by decide) rfl rfl rfl rfl rfl rfl Tryz.underlying2 Tryz.underlying24 Tryz.underlying5 Tryz.sizeOf5 Tryz.sizeOf24) ?_
   refine kN 1 rfl ?_
   cases h
   exact Weak_keep 0 hm [0, 15, 16, 17, 18, 157] [1, 0, 2] _ _ rfl rfl rfl
  refine kI h rfl (fun h _ => ?_) (fun h _ => ?_)
  ·refine kR ?_
   refine kN 1 rfl ?_
   refine ACode_ret ?_
   cases h
   have h := hks30
   cases h
   exact ⟨_, _, fun r a w h => ⟨r, h⟩, _, _, [], _, (.cons (ResV_tmp _ _ rfl) .nil), rfl, rfl, rfl, rfl, rfl⟩
  refine ACode_skip ?_
  cases h
  exact ⟨_, rfl, Weak_keep 0 hm [0, 15, 16, 17, 18] [0, 1, 2] _ _ rfl rfl rfl⟩
 refine kO (fun s43 => [(0, .d (.sl none (bysD p0)))]) (fun s43 => []) h (fun os43 h hks43 => ?_) (fun s43 h => ?_)
 ·refine kR ?_
  refine kM 1 rfl ?_
  refine AOps_q 159 _ rfl rfl rfl (QOp_eql _ _ _ _ _ _ _ rfl rfl rfl) ?_
  refine AOps_nil ?_
  refine kI h rfl (fun h _ => ?_) (fun h _ => ?_)
  ·refine kR ?_
   refine kM 1 rfl ?_
   refine AOps_q 161 _ rfl rfl rfl (QOp_len_vec _ _ _ _ _ _ _ _ (intsD_length _) rfl rfl rfl rfl Tryz.underlying27 rfl rfl) ?_
   obtain ⟨hc32, h⟩ := guardO h
   refine AOps_makeSliceG intsD iD 0 (intsD_rep · _) 162 _ _ _ _ _ _ (r24.2.length : Int) (r24.2.length : Int) _ (.int .i64 0) rfl rfl rfl rfl rfl rfl Tryz.underlying27 Tryz.type2 rfl rfl (by decide) rfl rfl hc32.1 hc32.2.1 hc32.2.2 ?_
   refine kN 1 rfl ?_
   refine kB (fun s38 => [(0, .d (.sl none (bysD p0))), (15, .ptr 0 0), (17, .ptr 1 0), (21, .vec 2 0)]) (fun s38 => [.box (colD r24.1), .box (colD r25.1), .vec 0 (intsD s38)]) h (fun s38 h => ?_) (fun s38 h => ?_)
   ·refine kR ?_
    refine kN 1 rfl ?_
    refine ACode_block ?_
    refine ACode_loopW (fun k1 E H => ∃ (x33 : Int) (x34 : List Int), E = [(0, .d (.sl none (bysD p0))), (15, .ptr 0 0), (16, .vec 1 0), (17, .ptr 2 0), (21, .vec 3 0), (22, iV x33)] ∧ H = [.box (colD r24.1), .vec 0 (intsD r24.2), .box (colD r25.1), .vec 0 (intsD x34)] ∧ laws_FnChangedColourings_l1 r24 k1 x33 x34 = some s38) k _ _ (Weak_keep 0 hm [0, 15, 16, 17, 21, 22] [0, 1, 2, 3] _ _ rfl rfl rfl) ⟨_, _, rfl, rfl, h⟩ ?_
    clear h
    rintro k1 E H ⟨x33, x34, rfl, rfl, h⟩
    cases k1 with
    | zero => cases (show (none : Option (List Int)) = some _ from h)
    | succ k1 =>
     rw [laws_FnChangedColourings_l1] at h
     refine ACode_seq ?_
     refine kR ?_
     refine kM 2 rfl ?_
     refine AOps_q 165 _ rfl rfl rfl (QOp_len_vec _ _ _ _ _ _ _ _ (intsD_length _) rfl rfl rfl rfl Tryz.underlying27 rfl rfl) ?_
     refine AOps_q 166 _ rfl rfl rfl (QOp_lss _ _ _ _ _ _ _ rfl rfl rfl) ?_
     refine AOps_nil ?_
     refine kI h rfl (fun h _ => ?_) (fun h _ => ?_)
     ·refine ACode_skip ?_
      refine ACode_seq ?_
      refine ACode_block ?_
      refine (ACode_region ?_)
      refine kM 3 rfl ?_
      obtain ⟨hc36, h⟩ := guardO h
      refine AOps_q 172 _ rfl rfl rfl (QOp_indexAddr_vec _ _ _ _ _ _ _ _ _ rfl Tryz.underlying27 Tryz.sizeOf2 hc36.1 (by rw [intsD_length]; exact hc36.2) rfl rfl rfl) ?_
      refine AOps_q 173 _ rfl rfl rfl (QOp_load_eptr _ _ _ _ _ _ _ rfl Tryz.isAgg2 rfl rfl (intsD_get _ _ 0 (by omega))) ?_
      refine kM 1 rfl ?_
      obtain ⟨hc37, h⟩ := guardO h
      refine AOps_q 175 _ rfl rfl rfl (QOp_indexAddr_vec _ _ _ _ _ _ _ _ _ rfl Tryz.underlying27 Tryz.sizeOf2 hc37.1 (by rw [intsD_length]; exact hc37.2) rfl rfl rfl) ?_
      refine AOps_store_eptr _ _ _ _ _ _ (intsD x34) _ rfl rfl rfl rfl rfl rfl rfl Tryz.sizeOf2 (by rw [intsD_length]; omega) ?_
      rw [intsD_set]
      refine AOps_nil ?_
      refine (ACode_region ?_)
      refine kM 1 rfl ?_
      refine AOps_q 168 _ rfl rfl rfl (QOp_add _ _ _ _ _ _ _ rfl rfl rfl) ?_
      refine kN 1 rfl ?_
      exact ⟨k1, _, _, Nat.lt_succ_self _, Weak_keep 0 hm [0, 15, 16, 17, 21, 22] [0, 1, 2, 3] _ _ rfl rfl rfl, _, _, rfl, rfl, h⟩
     refine ACode_exit ?_
     cases h
     exact Weak_keep 0 hm [0, 15, 17, 21] [0, 2, 3] _ _ rfl rfl rfl
   refine kR ?_
   refine AOps_q 177 _ rfl rfl rfl (QOp_loadN_ptr _ _ _ _ _ _ _ rfl Tryz.isAgg26 Tryz.sizeOf26 rfl rfl (colD_all _) (colD_length _)) ?_
   refine kM 1 rfl ?_
   obtain ⟨r39, hr39, h⟩ := bindO h
   refine AOps_callL [] 179 _ _ _ _ _ _ _ _ _ _ rfl rfl rfl rfl rfl rfl rfl Tryz.call13 rfl (nodupB_sound _ rfl) rfl rfl rfl (impl_RenumberPoints_ac k r25.1 s38 _ hr39) ?_
   rintro _ _ ⟨rfl, rfl⟩
   refine ⟨(fun _ h => nomatch h), (allc (flat_agg (colD_flat _)) (allc (flat_s _) (fun _ h => nomatch h))), AOps_as 179 (v' := .tup [.d (.agg (colD r39.1)), iV r39.2]) (H' := [.box (colD r24.1), .box (colD r25.1), .vec 0 (intsD s38)]) rfl rfl ?_⟩
   refine kM 3 rfl ?_
   refine AOps_alloc 23 _ _ (colD Col.zero) (zero_of Tryz.typeInfo26 rfl) (by rfl) rfl rfl rfl rfl ?_
   refine AOps_store _ _ _ _ _ _ (colD _) _ _ rfl rfl rfl rfl rfl rfl rfl (colD_one _) (by rw [colD_length]; exact Tryz.sizeOf26) (by rw [colD_length, colD_length]; decide) (colD_whole _ _) ?_
   refine kN 1 rfl ?_
   refine kL (fun s41 => [(0, .d (.sl none (bysD p0))), (188, bV s41)]) (fun s41 => []) h (fun s41 h => ?_) (fun s41 h => ?_)
   ·refine (ACode_region ?_)
    refine kM 1 rfl ?_
    refine AOps_q 183 _ rfl rfl rfl (QOp_neq _ _ _ _ _ _ _ rfl rfl rfl) ?_
    refine kM 1 rfl ?_
    refine AOps_case 184 _ rfl (fun hb40 => ?_) (fun hb40 => ?_)
    ·have h := iteT hb40 h
     refine AOps_skip 185 rfl rfl rfl ?_
     refine AOps_skip 186 rfl rfl rfl ?_
     refine AOps_skip 187 rfl rfl rfl ?_
     refine kN 1 rfl ?_
     cases h
     exact Weak_keep 0 hm [0, 188] [] _ _ rfl rfl rfl
    have h := iteF hb40 h
    refine AOps_q 185 _ rfl rfl rfl (QOp_loadN_ptr _ _ _ _ _ _ _ rfl Tryz.isAgg26 Tryz.sizeOf26 rfl rfl (colD_all _) (colD_length _)) ?_
    refine AOps_q 186 _ rfl rfl rfl (QOp_loadN_ptr _ _ _ _ _ _ _ rfl Tryz.isAgg26 Tryz.sizeOf26 rfl rfl (colD_all _) (colD_length _)) ?_
    refine AOps_q 187 _ rfl rfl rfl (QOp_neqCol _ _ _ _ _ _ _ _ _ _ _ _ rfl rfl rfl Tryz.underlying26 (by kernel_rfl) (by kernel_rfl) (by decide) (by decide) (by decide) rfl rfl rfl rfl rfl rfl Tryz.underlying2 Tryz.underlying24 Tryz.underlying5 Tryz.sizeOf5 Tryz.sizeOf24) ?_
    refine kN 1 rfl ?_
    cases h
    exact Weak_keep 0 hm [0, 188] [] _ _ rfl rfl rfl
   refine kI h rfl (fun h _ => ?_) (fun h _ => ?_)
   ·refine kR ?_
    refine kN 1 rfl ?_
    refine ACode_ret ?_
    cases h
    have h := hks43
    cases h
    exact ⟨_, _, fun r a w h => ⟨r, h⟩, _, _, [], _, (.cons (ResV_tmp _ _ rfl) .nil), rfl, rfl, rfl, rfl, rfl⟩
   refine ACode_skip ?_
   cases h
   exact ⟨_, rfl, Weak_keep 0 hm [0] [] _ _ rfl rfl rfl⟩
  refine ACode_skip ?_
  cases h
  exact ⟨_, rfl, Weak_keep 0 hm [0] [] _ _ rfl rfl rfl⟩
 refine kR ?_
 refine kM 1 rfl ?_
 obtain ⟨r44, hr44, h⟩ := bindO h
 refine kC [] 191 (.tup [.d (.agg (colD r44.1)), .vec 0 0]) [.vec 0 (intsD r44.2)] rfl Tryz.call15 rfl rfl (spec_DrawExchangeColours_ac k p0 _ hr44) rfl ?_
 refine kM 3 rfl ?_
 refine AOps_alloc 25 _ _ (colD Col.zero) (zero_of Tryz.typeInfo26 rfl) (by rfl) rfl rfl rfl rfl ?_
 refine AOps_store _ _ _ _ _ _ (colD _) _ _ rfl rfl rfl rfl rfl rfl rfl (colD_one _) (by rw [colD_length]; exact Tryz.sizeOf26) (by rw [colD_length, colD_length]; decide) (colD_whole _ _) ?_
 refine kN 1 rfl ?_
 refine kR ?_
 refine AOps_q 195 _ rfl rfl rfl (QOp_loadN_ptr _ _ _ _ _ _ _ rfl Tryz.isAgg26 Tryz.sizeOf26 rfl rfl (colD_all _) (colD_length _)) ?_
 refine kM 1 rfl ?_
 obtain ⟨r45, hr45, h⟩ := bindO h
 refine AOps_callL [] 197 _ _ _ _ _ _ _ _ _ _ rfl rfl rfl rfl rfl rfl rfl Tryz.call16 rfl (nodupB_sound _ rfl) rfl rfl rfl (impl_ExchangeColours_ac k r44.1 r44.2 _ hr45) ?_
 rintro _ _ ⟨rfl, rfl⟩
 refine ⟨(fun _ h => nomatch h), (allc (flat_agg (colD_flat _)) (allc (flat_s _) (fun _ h => nomatch h))), AOps_as 197 (v' := .tup [.d (.agg (colD r45.1)), iV r45.2]) (H' := [.vec 0 (intsD r44.2), .box (colD r44.1)]) rfl rfl ?_⟩
 refine kM 3 rfl ?_
 refine AOps_alloc 27 _ _ (colD Col.zero) (zero_of Tryz.typeInfo26 rfl) (by rfl) rfl rfl rfl rfl ?_
 refine AOps_store _ _ _ _ _ _ (colD _) _ _ rfl rfl rfl rfl rfl rfl rfl (colD_one _) (by rw [colD_length]; exact Tryz.sizeOf26) (by rw [colD_length, colD_length]; decide) (colD_whole _ _) ?_
 refine kN 1 rfl ?_
 refine kR ?_
 refine AOps_q 201 _ rfl rfl rfl (QOp_loadN_ptr _ _ _ _ _ _ _ rfl Tryz.isAgg26 Tryz.sizeOf26 rfl rfl (colD_all _) (colD_length _)) ?_
 refine kM 1 rfl ?_
 obtain ⟨r46, hr46, h⟩ := bindO h
 refine AOps_callL [] 203 _ _ _ _ _ _ _ _ _ _ rfl rfl rfl rfl rfl rfl rfl Tryz.call17 rfl (nodupB_sound _ rfl) rfl rfl rfl (spec_ExchangeColours_ac k r44.1 r44.2 _ hr46) ?_
 rintro _ _ ⟨rfl, rfl⟩
 refine ⟨(fun _ h => nomatch h), (allc (flat_agg (colD_flat _)) (allc (flat_s _) (fun _ h => nomatch h))), AOps_as 203 (v' := .tup [.d (.agg (colD r46.1)), iV r46.2]) (H' := [.vec 0 (intsD r44.2), .box (colD r44.1), .box (colD r45.1)]) rfl rfl ?_⟩
 refine kM 3 rfl ?_
 refine AOps_alloc 29 _ _ (colD Col.zero) (zero_of Tryz.typeInfo26 rfl) (by rfl) rfl rfl rfl rfl ?_
 refine AOps_store _ _ _ _ _ _ (colD _) _ _ rfl rfl rfl rfl rfl rfl rfl (colD_one _) (by rw [colD_length]; exact Tryz.sizeOf26) (by rw [colD_length, colD_length]; decide) (colD_whole _ _) ?_
 refine kN 1 rfl ?_
 refine kO (fun s50 => [(0, .d (.sl none (bysD p0))), (25, .ptr 0 0), (26, .vec 1 0), (27, .ptr 2 0), (28, iV r45.2)]) (fun s50 => [.box (colD r44.1), .vec 0 (intsD r44.2), .box (colD r45.1)]) h (fun os50 h hks50 => ?_) (fun s50 h => ?_)
 ·refine kL (fun s48 => [(0, .d (.sl none (bysD p0))), (25, .ptr 0 0), (26, .vec 1 0), (27, .ptr 2 0), (28, iV r45.2), (213, bV s48)]) (fun s48 => [.box (colD r44.1), .vec 0 (intsD r44.2), .box (colD r45.1)]) h (fun s48 h => ?_) (fun s48 h => ?_)
  ·refine (ACode_region ?_)
   refine kM 2 rfl ?_
   refine AOps_q 208 _ rfl rfl rfl (QOp_neq _ _ _ _ _ _ _ rfl rfl rfl) ?_
   refine kM 1 rfl ?_
   refine AOps_case 209 _ rfl (fun hb47 => ?_) (fun hb47 => ?_)
   ·have h := iteT hb47 h
    refine AOps_skip 210 rfl rfl rfl ?_
    refine AOps_skip 211 rfl rfl rfl ?_
    refine AOps_skip 212 rfl rfl rfl ?_
    refine kN 1 rfl ?_
    cases h
    exact Weak_keep 0 hm [0, 25, 26, 27, 28, 213] [1, 0, 2] _ _ rfl rfl rfl
   have h := iteF hb47 h
   refine AOps_q 210 _ rfl rfl rfl (QOp_loadN_ptr _ _ _ _ _ _ _ rfl Tryz.isAgg26 Tryz.sizeOf26 rfl rfl (colD_all _) (colD_length _)) ?_
   refine AOps_q 211 _ rfl rfl rfl (QOp_loadN_ptr _ _ _ _ _ _ _ rfl Tryz.isAgg26 Tryz.sizeOf26 rfl rfl (colD_all _) (colD_length _)) ?_
   refine AOps_q 212 _ rfl rfl rfl (QOp_neqCol _ _ _ _ _ _ _ _ _ _ _ _ rfl rfl rfl Tryz.underlying26 (by kernel_rfl) (by kernel_rfl) (by decide) (by decide) (by decide) rfl rfl rfl rfl rfl rfl Tryz.underlying2 Tryz.underlying24 Tryz.underlying5 Tryz.sizeOf5 Tryz.sizeOf24) ?_
   refine kN 1 rfl ?_
   cases h
   exact Weak_keep 0 hm [0, 25, 26, 27, 28, 213] [1, 0, 2] _ _ rfl rfl rfl
  refine kI h rfl (fun h _ => ?_) (fun h _ => ?_)
  ·refine kR ?_
   refine kN 1 rfl ?_
   refine ACode_ret ?_
   cases h
   have h := hks50
   cases h
   exact ⟨_, _, fun r a w h => ⟨r, h⟩, _, _, [], _, (.cons (ResV_tmp _ _ rfl) .nil), rfl, rfl, rfl, rfl, rfl⟩
  refine ACode_skip ?_
  cases h
  exact ⟨_, rfl, Weak_keep 0 hm [0, 25, 26, 27, 28] [0, 1, 2] _ _ rfl rfl rfl⟩
 refine kO (fun s66 => [(0, .d (.sl none (bysD p0)))]) (fun s66 => []) h (fun os66 h hks66 => ?_) (fun s66 h => ?_)
 ·refine kR ?_
  refine kM 1 rfl ?_
  refine AOps_q 215 _ rfl rfl rfl (QOp_eql _ _ _ _ _ _ _ rfl rfl rfl) ?_
  refine AOps_nil ?_
  refine kI h rfl (fun h _ => ?_) (fun h _ => ?_)
  ·refine kR ?_
   refine AOps_q 217 _ rfl rfl rfl (QOp_loadN_ptr _ _ _ _ _ _ _ rfl Tryz.isAgg26 Tryz.sizeOf26 rfl rfl (colD_all _) (colD_length _)) ?_
   obtain ⟨r52, hr52, h⟩ := bindO h
   refine kC [] 218 (.tup [.d (.sl none (intsD (r52.1.getD []))), iV r52.2]) [.box (colD r44.1), .vec 0 (intsD r44.2), .box (colD r45.1)] rfl Tryz.call18 rfl rfl (AC_frz rfl (frz_cons frz_nil) (impl_CountEdges_ac k r44.1 _ hr52)) rfl ?_
   refine kN 5 rfl ?_
   refine kR ?_
   refine AOps_q 222 _ rfl rfl rfl (QOp_loadN_ptr _ _ _ _ _ _ _ rfl Tryz.isAgg26 Tryz.sizeOf26 rfl rfl (colD_all _) (colD_length _)) ?_
   obtain ⟨r53, hr53, h⟩ := bindO h
   refine kC [] 223 (.tup [.d (.sl none (intsD (r53.1.getD []))), iV r53.2]) [.box (colD r44.1), .vec 0 (intsD r44.2), .box (colD r45.1)] rfl Tryz.call18 rfl rfl (AC_frz rfl (frz_cons frz_nil) (impl_CountEdges_ac k r45.1 _ hr53)) rfl ?_
   refine kN 5 rfl ?_
   refine kO (fun s59 => [(0, .d (.sl none (bysD p0))), (26, .vec 0 0), (31, .d (.sl none (intsD (r52.1.getD [])))), (33, .d (.sl none (intsD (r53.1.getD []))))]) (fun s59 => [.vec 0 (intsD r44.2)]) h (fun os59 h hks59 => ?_) (fun s59 h => ?_)
   ·refine kL (fun s57 => [(0, .d (.sl none (bysD p0))), (26, .vec 0 0), (31, .d (.sl none (intsD (r52.1.getD [])))), (33, .d (.sl none (intsD (r53.1.getD [])))), (245, bV s57)]) (fun s57 => [.vec 0 (intsD r44.2)]) h (fun s57 h => ?_) (fun s57 h => ?_)
    ·refine (ACode_region ?_)
     refine kM 1 rfl ?_
     refine AOps_q 227 _ rfl rfl rfl (QOp_neq _ _ _ _ _ _ _ rfl rfl rfl) ?_
     refine kM 1 rfl ?_
     refine AOps_case 228 _ rfl (fun hb54 => ?_) (fun hb54 => ?_)
     ·have h := iteT hb54 h
      refine AOps_skip 229 rfl rfl rfl ?_
      refine AOps_skip 230 rfl rfl rfl ?_
      refine kM 2 rfl ?_
      refine AOps_skip 233 rfl rfl rfl ?_
      refine AOps_skip 234 rfl rfl rfl ?_
      refine AOps_skip 235 rfl rfl rfl ?_
      refine AOps_skip 236 rfl rfl rfl ?_
      refine AOps_skip 237 rfl rfl rfl ?_
      refine kM 2 rfl ?_
      refine AOps_skip 240 rfl rfl rfl ?_
      refine AOps_skip 241 rfl rfl rfl ?_
      refine AOps_skip 242 rfl rfl rfl ?_
      refine AOps_skip 243 rfl rfl rfl ?_
      refine AOps_skip 244 rfl rfl rfl ?_
      refine kN 1 rfl ?_
      cases h
      exact Weak_keep 0 hm [0, 26, 31, 33, 245] [1] _ _ rfl rfl rfl
     have h := iteF hb54 h
     refine kM 1 rfl ?_
     refine AOps_q 230 _ rfl rfl rfl (QOp_neq _ _ _ _ _ _ _ rfl rfl rfl) ?_
     refine kM 2 rfl ?_
     refine AOps_case 232 _ rfl (fun hb55 => ?_) (fun hb55 => ?_)
     ·have h := iteT hb55 h
      refine AOps_skip 233 rfl rfl rfl ?_
      refine AOps_skip 234 rfl rfl rfl ?_
      refine AOps_skip 235 rfl rfl rfl ?_
      refine AOps_skip 236 rfl rfl rfl ?_
      refine AOps_skip 237 rfl rfl rfl ?_
      refine kM 2 rfl ?_
      refine AOps_skip 240 rfl rfl rfl ?_
      refine AOps_skip 241 rfl rfl rfl ?_
      refine AOps_skip 242 rfl rfl rfl ?_
      refine AOps_skip 243 rfl rfl rfl ?_
      refine AOps_skip 244 rfl rfl rfl ?_
      refine kN 1 rfl ?_
      cases h
      exact Weak_keep 0 hm [0, 26, 31, 33, 245] [1] _ _ rfl rfl rfl
     have h := iteF hb55 h
     refine kM 1 rfl ?_
     refine AOps_q 234 _ rfl rfl rfl (QOp_len_sl _ _ _ _ _ _ _ (intsD_length _) rfl rfl rfl rfl Tryz.underlying27 rfl) ?_
     refine kM 1 rfl ?_
     refine AOps_q 236 _ rfl rfl rfl (QOp_len_vec _ _ _ _ _ _ _ _ (intsD_length _) rfl rfl rfl rfl Tryz.underlying27 rfl rfl) ?_
     refine AOps_q 237 _ rfl rfl rfl (QOp_neq _ _ _ _ _ _ _ rfl rfl rfl) ?_
     refine kM 2 rfl ?_
     refine AOps_case 239 _ rfl (fun hb56 => ?_) (fun hb56 => ?_)
     ·have h := iteT hb56 h
      refine AOps_skip 240 rfl rfl rfl ?_
      refine AOps_skip 241 rfl rfl rfl ?_
      refine AOps_skip 242 rfl rfl rfl ?_
      refine AOps_skip 243 rfl rfl rfl ?_
      refine AOps_skip 244 rfl rfl rfl ?_
      refine kN 1 rfl ?_
      cases h
      exact Weak_keep 0 hm [0, 26, 31, 33, 245] [1] _ _ rfl rfl rfl
     have h := iteF hb56 h
     refine kM 1 rfl ?_
     refine AOps_q 241 _ rfl rfl rfl (QOp_len_sl _ _ _ _ _ _ _ (intsD_length _) rfl rfl rfl rfl Tryz.underlying27 rfl) ?_
     refine kM 1 rfl ?_
     refine AOps_q 243 _ rfl rfl rfl (QOp_len_vec _ _ _ _ _ _ _ _ (intsD_length _) rfl rfl rfl rfl Tryz.underlying27 rfl rfl) ?_
     refine AOps_q 244 _ rfl rfl rfl (QOp_neq _ _ _ _ _ _ _ rfl rfl rfl) ?_
     refine kN 1 rfl ?_
     cases h
     exact Weak_keep 0 hm [0, 26, 31, 33, 245] [1] _ _ rfl rfl rfl
    refine kI h rfl (fun h _ => ?_) (fun h _ => ?_)
    ·refine kR ?_
     refine kN 1 rfl ?_
     refine ACode_ret ?_
     obtain ⟨rr, hz101, h2⟩ := bindO h
     obtain rfl := Option.some.inj h2
     obtain rfl := Option.some.inj (show some rr = some _ from hks59)
     have h := hz101
     cases h
     have h := hks66
     cases h
     exact ⟨_, _, fun r a w h => ⟨r, h⟩, _, _, [], _, (.cons (ResV_tmp _ _ rfl) .nil), rfl, rfl, rfl, rfl, rfl⟩
    refine ACode_skip ?_
    cases h
    exact ⟨_, rfl, Weak_keep 0 hm [0, 26, 31, 33] [0] _ _ rfl rfl rfl⟩
   refine kR ?_
   refine kN 1 rfl ?_
   refine ACode_block ?_
   refine ACode_loopW (fun k2 E H => ∃ (x60 : Int), E = [(0, .d (.sl none (bysD p0))), (26, .vec 0 0), (31, .d (.sl none (intsD (r52.1.getD [])))), (33, .d (.sl none (intsD (r53.1.getD [])))), (35, iV x60)] ∧ H = [.vec 0 (intsD r44.2)] ∧ laws_FnChangedColourings_l2 r44 r52 r53 k2 x60 = some os66) k _ _ (Weak_keep 0 hm [0, 26, 31, 33, 35] [0] _ _ rfl rfl rfl) ⟨_, rfl, rfl, h⟩ ?_
   clear h
   rintro k2 E H ⟨x60, rfl, rfl, h⟩
   cases k2 with
   | zero => cases (show (none : Option (Sum (Unit) (Bool))) = some _ from h)
   | succ k2 =>
    rw [laws_FnChangedColourings_l2] at h
    refine ACode_seq ?_
    refine kR ?_
    refine kM 2 rfl ?_
    refine AOps_q 248 _ rfl rfl rfl (QOp_len_vec _ _ _ _ _ _ _ _ (intsD_length _) rfl rfl rfl rfl Tryz.underlying27 rfl rfl) ?_
    refine AOps_q 249 _ rfl rfl rfl (QOp_lss _ _ _ _ _ _ _ rfl rfl rfl) ?_
    refine AOps_nil ?_
    refine kI h rfl (fun h _ => ?_) (fun h _ => ?_)
    ·refine ACode_skip ?_
     refine ACode_seq ?_
     refine ACode_block ?_
     refine ACode_seq (ACode_quiet mixed (by kernel_rfl) ?_)
     refine kQ 3 rfl ?_
     obtain ⟨hc62, h⟩ := guardO h
     refine AQ_q 255 _ rfl rfl rfl (QOp_indexAddr_vec _ _ _ _ _ _ _ _ _ rfl Tryz.underlying27 Tryz.sizeOf2 hc62.1 (by rw [intsD_length]; exact hc62.2) rfl rfl rfl) ?_
     refine AQ_q 256 _ rfl rfl rfl (QOp_load_eptr _ _ _ _ _ _ _ rfl Tryz.isAgg2 rfl rfl (intsD_get _ _ 0 (by omega))) ?_
     obtain ⟨hc63, h⟩ := guardO h
     refine AQ_q 257 _ rfl rfl rfl (QOp_indexAddr_sl _ _ _ _ _ _ _ _ rfl Tryz.underlying27 Tryz.sizeOf2 hc63.1 (by rw [intsD_length]; exact hc63.2) rfl rfl) ?_
     refine AQ_q 258 _ rfl rfl rfl (QOp_load_pv _ _ _ _ _ rfl Tryz.isAgg2 rfl (intsD_get _ _ 0 (by omega))) ?_
     refine kQ 2 rfl ?_
     obtain ⟨hc64, h⟩ := guardO h
     refine AQ_q 261 _ rfl rfl rfl (QOp_indexAddr_sl _ _ _ _ _ _ _ _ rfl Tryz.underlying27 Tryz.sizeOf2 hc64.1 (by rw [intsD_length]; exact hc64.2) rfl rfl) ?_
     refine AQ_q 262 _ rfl rfl rfl (QOp_load_pv _ _ _ _ _ rfl Tryz.isAgg2 rfl (intsD_get _ _ 0 (by omega))) ?_
     refine AQ_q 263 _ rfl rfl rfl (QOp_neq _ _ _ _ _ _ _ rfl rfl rfl) ?_
     refine AQ_nil ?_
     refine kI h rfl (fun h _ => ?_) (fun h _ => ?_)
     ·refine kR ?_
      refine kN 1 rfl ?_
      refine ACode_ret ?_
      cases h
      have h := hks66
      cases h
      exact ⟨_, _, fun r a w h => ⟨r, h⟩, _, _, [], _, (.cons (ResV_tmp _ _ rfl) .nil), rfl, rfl, rfl, rfl, rfl⟩
     refine ACode_skip ?_
     refine (ACode_region ?_)
     refine kM 1 rfl ?_
     refine AOps_q 251 _ rfl rfl rfl (QOp_add _ _ _ _ _ _ _ rfl rfl rfl) ?_
     refine kN 1 rfl ?_
     exact ⟨k2, _, _, Nat.lt_succ_self _, Weak_keep 0 hm [0, 26, 31, 33, 35] [0] _ _ rfl rfl rfl, _, rfl, rfl, h⟩
    refine ACode_exit ?_
    cases h
    exact ⟨_, rfl, Weak_keep 0 hm [0] [] _ _ rfl rfl rfl⟩
  refine ACode_skip ?_
  cases h
  exact ⟨_, rfl, Weak_keep 0 hm [0] [] _ _ rfl rfl rfl⟩
 refine kR ?_
 refine kM 1 rfl ?_
 obtain ⟨r67, hr67, h⟩ := bindO h
 refine kC [] 266 (.tup [.d (.agg (colD r67.1)), iV r67.2.1, iV r67.2.2]) [] rfl Tryz.call19 rfl rfl (spec_DrawJoinColours_ac k p0 _ hr67) rfl ?_
 refine kM 4 rfl ?_
 refine AOps_alloc 36 _ _ (colD Col.zero) (zero_of Tryz.typeInfo26 rfl) (by rfl) rfl rfl rfl rfl ?_
 refine AOps_store _ _ _ _ _ _ (colD _) _ _ rfl rfl rfl rfl rfl rfl rfl (colD_one _) (by rw [colD_length]; exact Tryz.sizeOf26) (by rw [colD_length, colD_length]; decide) (colD_whole _ _) ?_
 refine kN 2 rfl ?_
 refine kR ?_
 refine AOps_q 271 _ rfl rfl rfl (QOp_loadN_ptr _ _ _ _ _ _ _ rfl Tryz.isAgg26 Tryz.sizeOf26 rfl rfl (colD_all _) (colD_length _)) ?_
 refine kM 2 rfl ?_
 obtain ⟨r68, hr68, h⟩ := bindO h
 refine kC [] 274 (.tup [.d (.agg (colD r68.1)), iV r68.2]) [.box (colD r67.1)] rfl Tryz.call20 rfl rfl (impl_JoinColours_ac k r67.1 r67.2.1 r67.2.2 _ hr68) rfl ?_
 refine kM 3 rfl ?_
 refine AOps_alloc 39 _ _ (colD Col.zero) (zero_of Tryz.typeInfo26 rfl) (by rfl) rfl rfl rfl rfl ?_
 refine AOps_store _ _ _ _ _ _ (colD _) _ _ rfl rfl rfl rfl rfl rfl rfl (colD_one _) (by rw [colD_length]; exact Tryz.sizeOf26) (by rw [colD_length, colD_length]; decide) (colD_whole _ _) ?_
 refine kN 1 rfl ?_
 refine kR ?_
 refine AOps_q 278 _ rfl rfl rfl (QOp_loadN_ptr _ _ _ _ _ _ _ rfl Tryz.isAgg26 Tryz.sizeOf26 rfl rfl (colD_all _) (colD_length _)) ?_
 refine kM 2 rfl ?_
 obtain ⟨r69, hr69, h⟩ := bindO h
 refine kC [] 281 (.tup [.d (.agg (colD r69.1)), iV r69.2]) [.box (colD r67.1), .box (colD r68.1)] rfl Tryz.call21 rfl rfl (spec_JoinColours_ac k r67.1 r67.2.1 r67.2.2 _ hr69) rfl ?_
 refine kM 3 rfl ?_
 refine AOps_alloc 41 _ _ (colD Col.zero) (zero_of Tryz.typeInfo26 rfl) (by rfl) rfl rfl rfl rfl ?_
 refine AOps_store _ _ _ _ _ _ (colD _) _ _ rfl rfl rfl rfl rfl rfl rfl (colD_one _) (by rw [colD_length]; exact Tryz.sizeOf26) (by rw [colD_length, colD_length]; decide) (colD_whole _ _) ?_
 refine kN 1 rfl ?_
 refine kO (fun s73 => [(0, .d (.sl none (bysD p0))), (36, .ptr 0 0), (37, iV r67.2.1), (38, iV r67.2.2), (39, .ptr 1 0), (40, iV r68.2)]) (fun s73 => [.box (colD r67.1), .box (colD r68.1)]) h (fun os73 h hks73 => ?_) (fun s73 h => ?_)
 ·refine kL (fun s71 => [(0, .d (.sl none (bysD p0))), (36, .ptr 0 0), (37, iV r67.2.1), (38, iV r67.2.2), (39, .ptr 1 0), (40, iV r68.2), (291, bV s71)]) (fun s71 => [.box (colD r67.1), .box (colD r68.1)]) h (fun s71 h => ?_) (fun s71 h => ?_)
  ·refine (ACode_region ?_)
   refine kM 2 rfl ?_
   refine AOps_q 286 _ rfl rfl rfl (QOp_neq _ _ _ _ _ _ _ rfl rfl rfl) ?_
   refine kM 1 rfl ?_
   refine AOps_case 287 _ rfl (fun hb70 => ?_) (fun hb70 => ?_)
   ·have h := iteT hb70 h
    refine AOps_skip 288 rfl rfl rfl ?_
    refine AOps_skip 289 rfl rfl rfl ?_
    refine AOps_skip 290 rfl rfl rfl ?_
    refine kN 1 rfl ?_
    cases h
    exact Weak_keep 0 hm [0, 36, 37, 38, 39, 40, 291] [0, 1] _ _ rfl rfl rfl
   have h := iteF hb70 h
   refine AOps_q 288 _ rfl rfl rfl (QOp_loadN_ptr _ _ _ _ _ _ _ rfl Tryz.isAgg26 Tryz.sizeOf26 rfl rfl (colD_all _) (colD_length _)) ?_
   refine AOps_q 289 _ rfl rfl rfl (QOp_loadN_ptr _ _ _ _ _ _ _ rfl Tryz.isAgg26 Tryz.sizeOf26 rfl rfl (colD_all _) (colD_length _)) ?_
   refine AOps_q 290 _ rfl rfl rfl (QOp_neqCol _ _ _ _ _ _ _ _ _ _ _ _ rfl rfl rfl Tryz.underlying26 (by kernel_rfl) (by kernel_rfl) (by decide) (by decide) (by decide) rfl rfl rfl rfl rfl rfl Tryz.underlying2 Tryz.underlying24 Tryz.underlying5 Tryz.sizeOf5 Tryz.sizeOf24) ?_
   refine kN 1 rfl ?_
   cases h
   exact Weak_keep 0 hm [0, 36, 37, 38, 39, 40, 291] [0, 1] _ _ rfl rfl rfl
  refine kI h rfl (fun h _ => ?_) (fun h _ => ?_)
  ·refine kR ?_
   refine kN 1 rfl ?_
   refine ACode_ret ?_
   cases h
   have h := hks73
   cases h
   exact ⟨_, _, fun r a w h => ⟨r, h⟩, _, _, [], _, (.cons (ResV_tmp _ _ rfl) .nil), rfl, rfl, rfl, rfl, rfl⟩
  refine ACode_skip ?_
  cases h
  exact ⟨_, rfl, Weak_keep 0 hm [0, 36, 37, 38, 39, 40] [0, 1] _ _ rfl rfl rfl⟩
 refine kO (fun s85 => [(0, .d (.sl none (bysD p0)))]) (fun s85 => []) h (fun os85 h hks85 => ?_) (fun s85 h => ?_)
 ·refine kR ?_
  refine kM 1 rfl ?_
  refine AOps_q 293 _ rfl rfl rfl (QOp_eql _ _ _ _ _ _ _ rfl rfl rfl) ?_
  refine AOps_nil ?_
  refine kI h rfl (fun h _ => ?_) (fun h _ => ?_)
  ·refine kR ?_
   refine AOps_q 295 _ rfl rfl rfl (QOp_loadN_ptr _ _ _ _ _ _ _ rfl Tryz.isAgg26 Tryz.sizeOf26 rfl rfl (colD_all _) (colD_length _)) ?_
   obtain ⟨r75, hr75, h⟩ := bindO h
   refine kC [] 296 (.tup [.d (.sl none (intsD (r75.1.getD []))), iV r75.2]) [.box (colD r67.1), .box (colD r68.1)] rfl Tryz.call18 rfl rfl (AC_frz rfl (frz_cons frz_nil) (impl_CountEdges_ac k r67.1 _ hr75)) rfl ?_
   refine kN 5 rfl ?_
   refine kR ?_
   refine AOps_q 300 _ rfl rfl rfl (QOp_loadN_ptr _ _ _ _ _ _ _ rfl Tryz.isAgg26 Tryz.sizeOf26 rfl rfl (colD_all _) (colD_length _)) ?_
   obtain ⟨r76, hr76, h⟩ := bindO h
   refine kC [] 301 (.tup [.d (.sl none (intsD (r76.1.getD []))), iV r76.2]) [.box (colD r67.1), .box (colD r68.1)] rfl Tryz.call18 rfl rfl (AC_frz rfl (frz_cons frz_nil) (impl_CountEdges_ac k r68.1 _ hr76)) rfl ?_
   refine kN 5 rfl ?_
   refine kB (fun s83 => [(0, .d (.sl none (bysD p0))), (333, bV s83)]) (fun s83 => []) h (fun s83 h => ?_) (fun s83 h => ?_)
   ·refine (ACode_quiet mixed (by kernel_rfl) ?_)
    refine kQ 1 rfl ?_
    refine AQ_q 305 _ rfl rfl rfl (QOp_neq _ _ _ _ _ _ _ rfl rfl rfl) ?_
    refine kQ 1 rfl ?_
    refine AQ_case 306 _ rfl (fun hb77 => ?_) (fun hb77 => ?_)
    ·have h := iteT hb77 h
     refine AQ_skip 307 rfl rfl rfl ?_
     refine AQ_skip 308 rfl rfl rfl ?_
     refine kQ 2 rfl ?_
     refine AQ_skip 311 rfl rfl rfl ?_
     refine AQ_skip 312 rfl rfl rfl ?_
     refine AQ_skip 313 rfl rfl rfl ?_
     refine AQ_skip 314 rfl rfl rfl ?_
     refine AQ_skip 315 rfl rfl rfl ?_
     refine AQ_skip 316 rfl rfl rfl ?_
     refine kQ 2 rfl ?_
     refine AQ_skip 319 rfl rfl rfl ?_
     refine AQ_skip 320 rfl rfl rfl ?_
     refine AQ_skip 321 rfl rfl rfl ?_
     refine AQ_skip 322 rfl rfl rfl ?_
     refine AQ_skip 323 rfl rfl rfl ?_
     refine AQ_skip 324 rfl rfl rfl ?_
     refine AQ_skip 325 rfl rfl rfl ?_
     refine AQ_skip 326 rfl rfl rfl ?_
     refine AQ_skip 327 rfl rfl rfl ?_
     refine AQ_skip 328 rfl rfl rfl ?_
     refine AQ_skip 329 rfl rfl rfl ?_
     refine AQ_skip 330 rfl rfl rfl ?_
     refine AQ_skip 331 rfl rfl rfl ?_
     refine AQ_skip 332 rfl rfl rfl ?_
     refine kQ 1 rfl ?_
     refine AQ_nil ?_
     cases h
     exact Weak_keep 0 hm [0, 333] [] _ _ rfl rfl rfl
    have h := iteF hb77 h
    refine kQ 1 rfl ?_
    refine AQ_q 308 _ rfl rfl rfl (QOp_neq _ _ _ _ _ _ _ rfl rfl rfl) ?_
    refine kQ 2 rfl ?_
    refine AQ_case 310 _ rfl (fun hb78 => ?_) (fun hb78 => ?_)
    ·have h := iteT hb78 h
     refine AQ_skip 311 rfl rfl rfl ?_
     refine AQ_skip 312 rfl rfl rfl ?_
     refine AQ_skip 313 rfl rfl rfl ?_
     refine AQ_skip 314 rfl rfl rfl ?_
     refine AQ_skip 315 rfl rfl rfl ?_
     refine AQ_skip 316 rfl rfl rfl ?_
     refine kQ 2 rfl ?_
     refine AQ_skip 319 rfl rfl rfl ?_
     refine AQ_skip 320 rfl rfl rfl ?_
     refine AQ_skip 321 rfl rfl rfl ?_
     refine AQ_skip 322 rfl rfl rfl ?_
     refine AQ_skip 323 rfl rfl rfl ?_
     refine AQ_skip 324 rfl rfl rfl ?_
     refine AQ_skip 325 rfl rfl rfl ?_
     refine AQ_skip 326 rfl rfl rfl ?_
     refine AQ_skip 327 rfl rfl rfl ?_
     refine AQ_skip 328 rfl rfl rfl ?_
     refine AQ_skip 329 rfl rfl rfl ?_
     refine AQ_skip 330 rfl rfl rfl ?_
     refine AQ_skip 331 rfl rfl rfl ?_
     refine AQ_skip 332 rfl rfl rfl ?_
     refine kQ 1 rfl ?_
     refine AQ_nil ?_
     cases h
     exact Weak_keep 0 hm [0, 333] [] _ _ rfl rfl rfl
    have h := iteF hb78 h
    refine kQ 1 rfl ?_
    refine AQ_q 312 _ rfl rfl rfl (QOp_len_sl _ _ _ _ _ _ _ (intsD_length _) rfl rfl rfl rfl Tryz.underlying27 rfl) ?_
    refine AQ_q 313 _ rfl rfl rfl (QOp_add _ _ _ _ _ _ _ rfl rfl rfl) ?_
    refine kQ 1 rfl ?_
    refine AQ_q 315 _ rfl rfl rfl (QOp_len_sl _ _ _ _ _ _ _ (intsD_length _) rfl rfl rfl rfl Tryz.underlying27 rfl) ?_
    refine AQ_q 316 _ rfl rfl rfl (QOp_neq _ _ _ _ _ _ _ rfl rfl rfl) ?_
    refine kQ 2 rfl ?_
    refine AQ_case 318 _ rfl (fun hb79 => ?_) (fun hb79 => ?_)
    ·have h := iteT hb79 h
     refine AQ_skip 319 rfl rfl rfl ?_
     refine AQ_skip 320 rfl rfl rfl ?_
     refine AQ_skip 321 rfl rfl rfl ?_
     refine AQ_skip 322 rfl rfl rfl ?_
     refine AQ_skip 323 rfl rfl rfl ?_
     refine AQ_skip 324 rfl rfl rfl ?_
     refine AQ_skip 325 rfl rfl rfl ?_
     refine AQ_skip 326 rfl rfl rfl ?_
     refine AQ_skip 327 rfl rfl rfl ?_
     refine AQ_skip 328 rfl rfl rfl ?_
     refine AQ_skip 329 rfl rfl rfl ?_
     refine AQ_skip 330 rfl rfl rfl ?_
     refine AQ_skip 331 rfl rfl rfl ?_
     refine AQ_skip 332 rfl rfl rfl ?_
     refine kQ 1 rfl ?_
     refine AQ_nil ?_
     cases h
     exact Weak_keep 0 hm [0, 333] [] _ _ rfl rfl rfl
    have h := iteF hb79 h
    refine kQ 2 rfl ?_
    obtain ⟨hc80, h⟩ := guardO h
    refine AQ_q 321 _ rfl rfl rfl (QOp_indexAddr_sl _ _ _ _ _ _ _ _ rfl Tryz.underlying27 Tryz.sizeOf2 hc80.1 (by rw [intsD_length]; exact hc80.2) rfl rfl) ?_
    refine AQ_q 322 _ rfl rfl rfl (QOp_load_pv _ _ _ _ _ rfl Tryz.isAgg2 rfl (intsD_get _ _ 0 (by omega))) ?_
    refine kQ 2 rfl ?_
    obtain ⟨hc81, h⟩ := guardO h
    refine AQ_q 325 _ rfl rfl rfl (QOp_indexAddr_sl _ _ _ _ _ _ _ _ rfl Tryz.underlying27 Tryz.sizeOf2 hc81.1 (by rw [intsD_length]; exact hc81.2) rfl rfl) ?_
    refine AQ_q 326 _ rfl rfl rfl (QOp_load_pv _ _ _ _ _ rfl Tryz.isAgg2 rfl (intsD_get _ _ 0 (by omega))) ?_
    refine kQ 2 rfl ?_
    obtain ⟨hc82, h⟩ := guardO h
    refine AQ_q 329 _ rfl rfl rfl (QOp_indexAddr_sl _ _ _ _ _ _ _ _ rfl Tryz.underlying27 Tryz.sizeOf2 hc82.1 (by rw [intsD_length]; exact hc82.2) rfl rfl) ?_
    refine AQ_q 330 _ rfl rfl rfl (QOp_load_pv _ _ _ _ _ rfl Tryz.isAgg2 rfl (intsD_get _ _ 0 (by omega))) ?_
    refine AQ_q 331 _ rfl rfl rfl (QOp_add _ _ _ _ _ _ _ rfl rfl rfl) ?_
    refine AQ_q 332 _ rfl rfl rfl (QOp_neq _ _ _ _ _ _ _ rfl rfl rfl) ?_
    refine kQ 1 rfl ?_
    refine AQ_nil ?_
    cases h
    exact Weak_keep 0 hm [0, 333] [] _ _ rfl rfl rfl
   refine kI h rfl (fun h _ => ?_) (fun h _ => ?_)
   ·refine kR ?_
    refine kN 1 rfl ?_
    refine ACode_ret ?_
    cases h
    have h := hks85
    cases h
    exact ⟨_, _, fun r a w h => ⟨r, h⟩, _, _, [], _, (.cons (ResV_tmp _ _ rfl) .nil), rfl, rfl, rfl, rfl, rfl⟩
   refine ACode_skip ?_
   cases h
   exact ⟨_, rfl, Weak_keep 0 hm [0] [] _ _ rfl rfl rfl⟩
  refine ACode_skip ?_
  cases h
  exact ⟨_, rfl, Weak_keep 0 hm [0] [] _ _ rfl rfl rfl⟩
 refine kR ?_
 refine kM 1 rfl ?_
 obtain ⟨r86, hr86, h⟩ := bindO h
 refine kC [] 336 (.tup [.d (.agg (colD r86.1)), .vec 0 0]) [.vec 0 (intsD r86.2)] rfl Tryz.call22 rfl rfl (spec_DrawPartOn_ac k p0 _ hr86) rfl ?_
 refine kM 3 rfl ?_
 refine AOps_alloc 47 _ _ (colD Col.zero) (zero_of Tryz.typeInfo26 rfl) (by rfl) rfl rfl rfl rfl ?_
 refine AOps_store _ _ _ _ _ _ (colD _) _ _ rfl rfl rfl rfl rfl rfl rfl (colD_one _) (by rw [colD_length]; exact Tryz.sizeOf26) (by rw [colD_length, colD_length]; decide) (colD_whole _ _) ?_
 refine kN 1 rfl ?_
 refine kR ?_
 refine AOps_q 340 _ rfl rfl rfl (QOp_loadN_ptr _ _ _ _ _ _ _ rfl Tryz.isAgg26 Tryz.sizeOf26 rfl rfl (colD_all _) (colD_length _)) ?_
 refine kM 1 rfl ?_
 obtain ⟨r87, hr87, h⟩ := bindO h
 refine AOps_callL [] 342 _ _ _ _ _ _ _ _ _ _ rfl rfl rfl rfl rfl rfl rfl Tryz.call11 rfl (nodupB_sound _ rfl) rfl rfl rfl (impl_PartOn_ac k r86.1 r86.2 _ hr87) ?_
 rintro _ _ ⟨rfl, rfl⟩
 refine ⟨(fun _ h => nomatch h), (allc (flat_agg (colD_flat _)) (allc (flat_s _) (fun _ h => nomatch h))), AOps_as 342 (v' := .tup [.d (.agg (colD r87.1)), iV r87.2]) (H' := [.vec 0 (intsD r86.2), .box (colD r86.1)]) rfl rfl ?_⟩
 refine kM 3 rfl ?_
 refine AOps_alloc 49 _ _ (colD Col.zero) (zero_of Tryz.typeInfo26 rfl) (by rfl) rfl rfl rfl rfl ?_
 refine AOps_store _ _ _ _ _ _ (colD _) _ _ rfl rfl rfl rfl rfl rfl rfl (colD_one _) (by rw [colD_length]; exact Tryz.sizeOf26) (by rw [colD_length, colD_length]; decide) (colD_whole _ _) ?_
 refine kN 1 rfl ?_
 refine kR ?_
 refine AOps_q 346 _ rfl rfl rfl (QOp_loadN_ptr _ _ _ _ _ _ _ rfl Tryz.isAgg26 Tryz.sizeOf26 rfl rfl (colD_all _) (colD_length _)) ?_
 refine kM 1 rfl ?_
 obtain ⟨r88, hr88, h⟩ := bindO h
 refine AOps_callL [] 348 _ _ _ _ _ _ _ _ _ _ rfl rfl rfl rfl rfl rfl rfl Tryz.call23 rfl (nodupB_sound _ rfl) rfl rfl rfl (spec_PartOn_ac k r86.1 r86.2 _ hr88) ?_
 rintro _ _ ⟨rfl, rfl⟩
 refine ⟨(fun _ h => nomatch h), (allc (flat_agg (colD_flat _)) (allc (flat_s _) (fun _ h => nomatch h))), AOps_as 348 (v' := .tup [.d (.agg (colD r88.1)), iV r88.2]) (H' := [.vec 0 (intsD r86.2), .box (colD r86.1), .box (colD r87.1)]) rfl rfl ?_⟩
 refine kM 3 rfl ?_
 refine AOps_alloc 51 _ _ (colD Col.zero) (zero_of Tryz.typeInfo26 rfl) (by rfl) rfl rfl rfl rfl ?_
 refine AOps_store _ _ _ _ _ _ (colD _) _ _ rfl rfl rfl rfl rfl rfl rfl (colD_one _) (by rw [colD_length]; exact Tryz.sizeOf26) (by rw [colD_length, colD_length]; decide) (colD_whole _ _) ?_
 refine kN 1 rfl ?_
 refine kR ?_
 refine kM 1 rfl ?_
 obtain ⟨r89, hr89, h⟩ := bindO h
 refine kC [] 353 (.tup [.d (.agg (colD r89.1)), iV r89.2]) [.vec 0 (intsD r86.2), .box (colD r86.1), .box (colD r87.1), .box (colD r88.1)] rfl Tryz.call24 rfl rfl (spec_DrawTakePoint_ac k p0 _ hr89) rfl ?_
 refine kM 3 rfl ?_
 refine AOps_alloc 53 _ _ (colD Col.zero) (zero_of Tryz.typeInfo26 rfl) (by rfl) rfl rfl rfl rfl ?_
 refine AOps_store _ _ _ _ _ _ (colD _) _ _ rfl rfl rfl rfl rfl rfl rfl (colD_one _) (by rw [colD_length]; exact Tryz.sizeOf26) (by rw [colD_length, colD_length]; decide) (colD_whole _ _) ?_
 refine kN 1 rfl ?_
 refine kR ?_
 refine AOps_q 357 _ rfl rfl rfl (QOp_loadN_ptr _ _ _ _ _ _ _ rfl Tryz.isAgg26 Tryz.sizeOf26 rfl rfl (colD_all _) (colD_length _)) ?_
 refine kM 1 rfl ?_
 obtain ⟨r90, hr90, h⟩ := bindO h
 refine kC [] 359 (.tup [.d (.agg (colD r90.1)), iV r90.2]) [.vec 0 (intsD r86.2), .box (colD r86.1), .box (colD r87.1), .box (colD r88.1), .box (colD r89.1)] rfl Tryz.call10 rfl rfl (impl_TakePoint_ac k r89.1 r89.2 _ hr90) rfl ?_
 refine kM 3 rfl ?_
 refine AOps_alloc 55 _ _ (colD Col.zero) (zero_of Tryz.typeInfo26 rfl) (by rfl) rfl rfl rfl rfl ?_
 refine AOps_store _ _ _ _ _ _ (colD _) _ _ rfl rfl rfl rfl rfl rfl rfl (colD_one _) (by rw [colD_length]; exact Tryz.sizeOf26) (by rw [colD_length, colD_length]; decide) (colD_whole _ _) ?_
 refine kN 1 rfl ?_
 refine kR ?_
 refine AOps_q 363 _ rfl rfl rfl (QOp_loadN_ptr _ _ _ _ _ _ _ rfl Tryz.isAgg26 Tryz.sizeOf26 rfl rfl (colD_all _) (colD_length _)) ?_
 refine kM 1 rfl ?_
 obtain ⟨r91, hr91, h⟩ := bindO h
 refine kC [] 365 (.tup [.d (.agg (colD r91.1)), iV r91.2]) [.vec 0 (intsD r86.2), .box (colD r86.1), .box (colD r87.1), .box (colD r88.1), .box (colD r89.1), .box (colD r90.1)] rfl Tryz.call25 rfl rfl (spec_TakePoint_ac k r89.1 r89.2 _ hr91) rfl ?_
 refine kM 3 rfl ?_
 refine AOps_alloc 57 _ _ (colD Col.zero) (zero_of Tryz.typeInfo26 rfl) (by rfl) rfl rfl rfl rfl ?_
 refine AOps_store _ _ _ _ _ _ (colD _) _ _ rfl rfl rfl rfl rfl rfl rfl (colD_one _) (by rw [colD_length]; exact Tryz.sizeOf26) (by rw [colD_length, colD_length]; decide) (colD_whole _ _) ?_
 refine kN 1 rfl ?_
 refine kR ?_
 refine kM 1 rfl ?_
 obtain ⟨r92, hr92, h⟩ := bindO h
 refine kC [] 369 (.d (.s (.string r92))) [.vec 0 (intsD r86.2), .box (colD r86.1), .box (colD r87.1), .box (colD r88.1), .box (colD r89.1), .box (colD r90.1), .box (colD r91.1)] rfl Tryz.call26 rfl rfl (spec_DrawNamedColouring_ac k p0 _ hr92) rfl ?_
 refine kN 1 rfl ?_
 refine kR ?_
 refine kM 1 rfl ?_
 obtain ⟨r93, hr93, h⟩ := bindO h
 refine kC [] 372 (.tup [.d (.agg (colD r93.1)), iV r93.2]) [.vec 0 (intsD r86.2), .box (colD r86.1), .box (colD r87.1), .box (colD r88.1), .box (colD r89.1), .box (colD r90.1), .box (colD r91.1)] rfl Tryz.call27 rfl rfl (impl_NamedColouring_ac k r92 _ hr93) rfl ?_
 refine kM 3 rfl ?_
 refine AOps_alloc 60 _ _ (colD Col.zero) (zero_of Tryz.typeInfo26 rfl) (by rfl) rfl rfl rfl rfl ?_
 refine AOps_store _ _ _ _ _ _ (colD _) _ _ rfl rfl rfl rfl rfl rfl rfl (colD_one _) (by rw [colD_length]; exact Tryz.sizeOf26) (by rw [colD_length, colD_length]; decide) (colD_whole _ _) ?_
 refine kN 1 rfl ?_
 refine kR ?_
 refine kM 1 rfl ?_
 obtain ⟨r94, hr94, h⟩ := bindO h
 refine kC [] 377 (.tup [.d (.agg (colD r94.1)), iV r94.2]) [.vec 0 (intsD r86.2), .box (colD r86.1), .box (colD r87.1), .box (colD r88.1), .box (colD r89.1), .box (colD r90.1), .box (colD r91.1), .box (colD r93.1)] rfl Tryz.call28 rfl rfl (spec_NamedColouring_ac k r92 _ hr94) rfl ?_
 refine kM 3 rfl ?_
 refine AOps_alloc 62 _ _ (colD Col.zero) (zero_of Tryz.typeInfo26 rfl) (by rfl) rfl rfl rfl rfl ?_
 refine AOps_store _ _ _ _ _ _ (colD _) _ _ rfl rfl rfl rfl rfl rfl rfl (colD_one _) (by rw [colD_length]; exact Tryz.sizeOf26) (by rw [colD_length, colD_length]; decide) (colD_whole _ _) ?_
 refine kN 1 rfl ?_
 refine kL (fun s100 => [(2, bV s100)]) (fun s100 => []) h (fun s100 h => ?_) (fun s100 h => ?_)
 ·refine (ACode_region ?_)
  refine kM 2 rfl ?_
  refine AOps_q 382 _ rfl rfl rfl (QOp_eql _ _ _ _ _ _ _ rfl rfl rfl) ?_
  refine kM 1 rfl ?_
  refine AOps_case 383 _ rfl (fun hb95 => ?_) (fun hb95 => ?_)
  ·have h := iteT hb95 h
   refine AOps_q 384 _ rfl rfl rfl (QOp_loadN_ptr _ _ _ _ _ _ _ rfl Tryz.isAgg26 Tryz.sizeOf26 rfl rfl (colD_all _) (colD_length _)) ?_
   refine AOps_q 385 _ rfl rfl rfl (QOp_loadN_ptr _ _ _ _ _ _ _ rfl Tryz.isAgg26 Tryz.sizeOf26 rfl rfl (colD_all _) (colD_length _)) ?_
   refine AOps_q 386 _ rfl rfl rfl (QOp_eqCol _ _ _ _ _ _ _ _ _ _ _ _ rfl rfl rfl Tryz.underlying26 (by kernel_rfl) (by kernel_rfl) (by decide) (by decide) (by decide) rfl rfl rfl rfl rfl rfl Tryz.underlying2 Tryz.underlying24 Tryz.underlying5 Tryz.sizeOf5 Tryz.sizeOf24) ?_
   refine kM 2 rfl ?_
   refine AOps_case 388 _ rfl (fun hb96 => ?_) (fun hb96 => ?_)
   ·have h := iteT hb96 h
    refine kM 2 rfl ?_
    refine AOps_q 391 _ rfl rfl rfl (QOp_eql _ _ _ _ _ _ _ rfl rfl rfl) ?_
    refine kM 2 rfl ?_
    refine AOps_case 393 _ rfl (fun hb97 => ?_) (fun hb97 => ?_)
    ·have h := iteT hb97 h
     refine AOps_q 394 _ rfl rfl rfl (QOp_loadN_ptr _ _ _ _ _ _ _ rfl Tryz.isAgg26 Tryz.sizeOf26 rfl rfl (colD_all _) (colD_length _)) ?_
     refine AOps_q 395 _ rfl rfl rfl (QOp_loadN_ptr _ _ _ _ _ _ _ rfl Tryz.isAgg26 Tryz.sizeOf26 rfl rfl (colD_all _) (colD_length _)) ?_
     refine AOps_q 396 _ rfl rfl rfl (QOp_eqCol _ _ _ _ _ _ _ _ _ _ _ _ rfl rfl rfl Tryz.underlying26 (by kernel_rfl) (by kernel_rfl) (by decide) (by decide) (by decide) rfl rfl rfl rfl rfl rfl Tryz.underlying2 Tryz.underlying24 Tryz.underlying5 Tryz.sizeOf5 Tryz.sizeOf24) ?_
     refine kM 2 rfl ?_
     refine AOps_case 398 _ rfl (fun hb98 => ?_) (fun hb98 => ?_)
     ·have h := iteT hb98 h
      refine kM 2 rfl ?_
      refine AOps_q 401 _ rfl rfl rfl (QOp_eql _ _ _ _ _ _ _ rfl rfl rfl) ?_
      refine kM 2 rfl ?_
      refine AOps_case 403 _ rfl (fun hb99 => ?_) (fun hb99 => ?_)
      ·have h := iteT hb99 h
       refine AOps_q 404 _ rfl rfl rfl (QOp_loadN_ptr _ _ _ _ _ _ _ rfl Tryz.isAgg26 Tryz.sizeOf26 rfl rfl (colD_all _) (colD_length _)) ?_
       refine AOps_q 405 _ rfl rfl rfl (QOp_loadN_ptr _ _ _ _ _ _ _ rfl Tryz.isAgg26 Tryz.sizeOf26 rfl rfl (colD_all _) (colD_length _)) ?_
       refine AOps_q 406 _ rfl rfl rfl (QOp_eqCol _ _ _ _ _ _ _ _ _ _ _ _ rfl rfl rfl Tryz.underlying26 (by kernel_rfl) (by kernel_rfl) (by decide) (by decide) (by decide) rfl rfl rfl rfl rfl rfl Tryz.underlying2 Tryz.underlying24 Tryz.underlying5 Tryz.sizeOf5 Tryz.sizeOf24) ?_
       refine kN 2 rfl ?_
       cases h
       exact Weak_keep 0 hm [2] [] _ _ rfl rfl rfl
      have h := iteF hb99 h
      refine AOps_skip 404 rfl rfl rfl ?_
      refine AOps_skip 405 rfl rfl rfl ?_
      refine AOps_skip 406 rfl rfl rfl ?_
      refine kN 2 rfl ?_
      cases h
      exact Weak_keep 0 hm [2] [] _ _ rfl rfl rfl
     have h := iteF hb98 h
     refine AOps_skip 399 rfl rfl rfl ?_
     refine AOps_skip 400 rfl rfl rfl ?_
     refine AOps_skip 401 rfl rfl rfl ?_
     refine kM 2 rfl ?_
     refine AOps_skip 404 rfl rfl rfl ?_
     refine AOps_skip 405 rfl rfl rfl ?_
     refine AOps_skip 406 rfl rfl rfl ?_
     refine kN 2 rfl ?_
     cases h
     exact Weak_keep 0 hm [2] [] _ _ rfl rfl rfl
    have h := iteF hb97 h
    refine AOps_skip 394 rfl rfl rfl ?_
    refine AOps_skip 395 rfl rfl rfl ?_
    refine AOps_skip 396 rfl rfl rfl ?_
    refine kM 2 rfl ?_
    refine AOps_skip 399 rfl rfl rfl ?_
    refine AOps_skip 400 rfl rfl rfl ?_
    refine AOps_skip 401 rfl rfl rfl ?_
    refine kM 2 rfl ?_
    refine AOps_skip 404 rfl rfl rfl ?_
    refine AOps_skip 405 rfl rfl rfl ?_
    refine AOps_skip 406 rfl rfl rfl ?_
    refine kN 2 rfl ?_
    cases h
    exact Weak_keep 0 hm [2] [] _ _ rfl rfl rfl
   have h := iteF hb96 h
   refine AOps_skip 389 rfl rfl rfl ?_
   refine AOps_skip 390 rfl rfl rfl ?_
   refine AOps_skip 391 rfl rfl rfl ?_
   refine kM 2 rfl ?_
   refine AOps_skip 394 rfl rfl rfl ?_
   refine AOps_skip 395 rfl rfl rfl ?_
   refine AOps_skip 396 rfl rfl rfl ?_
   refine kM 2 rfl ?_
   refine AOps_skip 399 rfl rfl rfl ?_
   refine AOps_skip 400 rfl rfl rfl ?_
   refine AOps_skip 401 rfl rfl rfl ?_
   refine kM 2 rfl ?_
   refine AOps_skip 404 rfl rfl rfl ?_
   refine AOps_skip 405 rfl rfl rfl ?_
   refine AOps_skip 406 rfl rfl rfl ?_
   refine kN 2 rfl ?_
   cases h
   exact Weak_keep 0 hm [2] [] _ _ rfl rfl rfl
  have h := iteF hb95 h
  refine AOps_skip 384 rfl rfl rfl ?_
  refine AOps_skip 385 rfl rfl rfl ?_
  refine AOps_skip 386 rfl rfl rfl ?_
  refine kM 2 rfl ?_
  refine AOps_skip 389 rfl rfl rfl ?_
  refine AOps_skip 390 rfl rfl rfl ?_
  refine AOps_skip 391 rfl rfl rfl ?_
  refine kM 2 rfl ?_
  refine AOps_skip 394 rfl rfl rfl ?_
  refine AOps_skip 395 rfl rfl rfl ?_
  refine AOps_skip 396 rfl rfl rfl ?_
  refine kM 2 rfl ?_
  refine AOps_skip 399 rfl rfl rfl ?_
  refine AOps_skip 400 rfl rfl rfl ?_
  refine AOps_skip 401 rfl rfl rfl ?_
  refine kM 2 rfl ?_
  refine AOps_skip 404 rfl rfl rfl ?_
  refine AOps_skip 405 rfl rfl rfl ?_
  refine AOps_skip 406 rfl rfl rfl ?_
  refine kN 2 rfl ?_
  cases h
  exact Weak_keep 0 hm [2] [] _ _ rfl rfl rfl
 refine ACode_ret ?_
 cases h
 exact ⟨_, _, fun r a w h => ⟨r, h⟩, _, _, [], _, (.cons (ResV_tmp _ _ rfl) .nil), rfl, rfl, rfl, rfl, rfl⟩

end Go.Proofs.YtkknnbmmcmhngaaGreat
