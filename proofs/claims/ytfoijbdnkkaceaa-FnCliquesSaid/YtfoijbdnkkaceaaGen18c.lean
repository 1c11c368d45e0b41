/- Plain functions of the program and that the program computes them: printed by the own tool gen.py. No conditions. -/
import Derived.Test.YtfoijbdnkkaceaaGen18b
set_option linter.unusedVariables false
set_option linter.unusedSimpArgs false
namespace Go.Proofs.Ytfoijbdnkkaceaa
open Go Go.RowKit Ab

-- loop.example/g01362/spec.l02With
def spec_l02With (k : Nat) (p0 : List UInt8) : Option (Col × Int) :=
 (spec_l01From k p0).bind fun r1 => (spec_l01Spoil k r1).bind fun r2 => (spec_l01Near r2.2 (if 3 < (if w64 (r2.1.k - 1) < 0 then 0 else w64 (r2.1.k - 1)) then 3 else (if w64 (r2.1.k - 1) < 0 then 0 else w64 (r2.1.k - 1)))).bind fun r3 => some (r2.1, r3.1)
set_option maxRecDepth 100000 in
theorem spec_l02With_ac (k : Nat) (p0 : List UInt8) (r : Col × Int) (h : spec_l02With k p0 = some r) : AC Try.prog 114 [.d (.sl none (bysD p0))] [] (fun res H' => res = [.d (.agg (colD r.1)), iV r.2] ∧ H' = []) := by
 refine AC_of_body true Try.func114 rfl Try.ntmps114 (rvs := [.cell 2 29, .tmp 3]) rfl rfl (fun G hG => ?_)
 have hm : G.H.length = 0 := by rw [hG]; rfl
 have hz : zeroG G.H = true := by rw [hG]; rfl
 unfold spec_l02With at h
 refine ACode_seq (ACode_region ?_)
 refine AOps_alloc 2 _ _ (colD Col.zero) (zero_of Try.typeInfo29 rfl) (by rfl) rfl rfl rfl rfl ?_
 refine AOps_q 3 _ rfl rfl rfl (QOp_assign _ _ rfl rfl) ?_
 refine AOps_nil ?_
 refine ACode_seq (ACode_region ?_)
 refine AOps_q 6 _ rfl rfl rfl (QOp_move _ _ rfl rfl) ?_
 obtain ⟨r1, hr1, h⟩ := bindO h
 refine AOps_call [] 7 _ _ _ _ _ _ _ _ _ _ rfl rfl rfl rfl rfl rfl rfl Try.call78 rfl (nodupB_sound _ rfl) rfl rfl rfl (spec_l01From_ac k p0 _ hr1) ?_
 rintro _ _ ⟨rfl, rfl⟩
 refine ⟨(allc (fun _ _ => trivial) (fun _ h => nomatch h)), (allc (trivial) (fun _ h => nomatch h)), AOps_as 7 (v' := .ptr 1 0) (H' := [.box (colD Col.zero), .box (srcD r1)]) rfl rfl ?_⟩
 refine AOps_q 4 _ rfl rfl rfl (QOp_assign _ _ rfl rfl) ?_
 refine AOps_nil ?_
 refine ACode_seq (ACode_region ?_)
 refine AOps_q 8 _ rfl rfl rfl (QOp_move _ _ rfl rfl) ?_
 obtain ⟨r2, hr2, h⟩ := bindO h
 refine AOps_call [1] 9 _ _ _ _ _ _ _ _ _ _ rfl rfl rfl rfl rfl rfl rfl Try.call91 rfl (nodupB_sound _ rfl) rfl rfl rfl (spec_l01Spoil_ac k r1 _ hr2) ?_
 rintro _ _ ⟨rfl, rfl⟩
 refine ⟨(allc (fun _ _ => trivial) (fun _ h => nomatch h)), (allc (trivial) (fun _ h => nomatch h)), AOps_as 9 (v' := .d (.agg (colD r2.1))) (H' := [.box (colD Col.zero), .box (srcD r2.2)]) rfl rfl ?_⟩
 refine AOps_alloc 5 _ _ (colD Col.zero) (zero_of Try.typeInfo29 rfl) (by rfl) rfl rfl rfl rfl ?_
 refine AOps_store _ _ _ _ _ _ (colD _) _ _ rfl rfl rfl rfl rfl rfl rfl (colD_one _) (by rw [colD_length]; exact Try.sizeOf29) (by rw [colD_length, colD_length]; decide) (colD_whole _ _) ?_
 refine AOps_nil ?_
 obtain ⟨r3, hr3, h⟩ := bindO h
 refine ACode_seq (ACode_reg [(2, .ptr 0 0), (3, iV r3.1)] [.box (colD r2.1)] ?_ ?_)
 ·refine ACode_anyU mixed ?_
  refine AU_u 1 11 _ rfl (by kernel_rfl) rfl rfl rfl (UOp_move _ _ rfl rfl) ?_
  refine AU_u 2 12 _ rfl (by kernel_rfl) rfl rfl rfl (UOp_fieldAddr_ptr _ _ _ _ _ _ 1 _ _ rfl Try.underlying29 rfl _ Try.sizeOf2 rfl rfl rfl rfl) ?_
  refine AU_all [0, 3] (by kernel_rfl) rfl (allc ?_ (allc ?_ (fun _ h => nomatch h)))
  ·refine US_of 0 rfl rfl ?_
   refine AOps_q 10 _ rfl rfl rfl (QOp_loadN_ptr _ _ _ _ _ _ _ rfl Try.isAgg29 Try.sizeOf29 rfl rfl (colD_all _) (colD_length _)) ?_
   refine AOps_nil ?_
   refine AU_all [3] (by kernel_rfl) rfl (allc ?_ (fun _ h => nomatch h))
   ·refine US_of 3 rfl rfl ?_
    refine AOps_q 13 _ rfl rfl rfl (QOp_load_ptr _ _ _ _ _ _ rfl Try.isAgg2 rfl rfl rfl) ?_
    refine AOps_nil ?_
    refine AU_u 4 14 _ rfl (by kernel_rfl) rfl rfl rfl (UOp_sub _ _ _ _ _ _ _ rfl rfl rfl) ?_
    refine AU_u 5 15 _ rfl (by kernel_rfl) rfl rfl rfl (UOp_max _ _ _ _ _ _ rfl rfl rfl rfl rfl) ?_
    refine AU_u 6 16 _ rfl (by kernel_rfl) rfl rfl rfl (UOp_min _ _ _ _ _ _ rfl rfl rfl rfl rfl) ?_
    refine AU_all [7] (by kernel_rfl) rfl (allc ?_ (fun _ h => nomatch h))
    ·refine US_of 7 rfl rfl ?_
     refine AOps_call [1] 17 _ _ _ _ _ _ _ _ _ _ rfl rfl rfl rfl rfl rfl rfl Try.call98 rfl (nodupB_sound _ rfl) rfl rfl rfl (spec_l01Near_ac r2.2 (if 3 < (if w64 (r2.1.k - 1) < 0 then 0 else w64 (r2.1.k - 1)) then 3 else (if w64 (r2.1.k - 1) < 0 then 0 else w64 (r2.1.k - 1))) _ hr3) ?_
     rintro _ _ ⟨rfl, rfl⟩
     refine ⟨(allc (fun _ _ => trivial) (fun _ h => nomatch h)), (allc (trivial) (fun _ h => nomatch h)), AOps_as 17 (v' := iV r3.1) (H' := [.box (colD Col.zero), .box (srcD r3.2), .box (colD r2.1)]) rfl rfl ?_⟩
     refine AOps_nil ?_
     refine AU_all [8] (by kernel_rfl) rfl (allc ?_ (fun _ h => nomatch h))
     ·refine US_of 8 rfl rfl ?_
      refine AOps_store _ _ _ _ _ _ (colD _) _ _ rfl rfl rfl rfl rfl rfl rfl (colD_one _) (by rw [colD_length]; exact Try.sizeOf29) (by rw [colD_length, colD_length]; decide) (colD_whole _ _) ?_
      refine AOps_nil ?_
      refine AU_u 9 3 _ rfl (by kernel_rfl) rfl rfl rfl (UOp_assign _ _ rfl rfl) ?_
      refine AU_done (by kernel_rfl) ?_
      exact ⟨rfl, Weak_keep 0 hm [2, 3] [0] _ _ rfl rfl rfl⟩
  ·refine US_of 3 rfl rfl ?_
   refine AOps_q 13 _ rfl rfl rfl (QOp_load_ptr _ _ _ _ _ _ rfl Try.isAgg2 rfl rfl rfl) ?_
   refine AOps_nil ?_
   refine AU_u 4 14 _ rfl (by kernel_rfl) rfl rfl rfl (UOp_sub _ _ _ _ _ _ _ rfl rfl rfl) ?_
   refine AU_u 5 15 _ rfl (by kernel_rfl) rfl rfl rfl (UOp_max _ _ _ _ _ _ rfl rfl rfl rfl rfl) ?_
   refine AU_u 6 16 _ rfl (by kernel_rfl) rfl rfl rfl (UOp_min _ _ _ _ _ _ rfl rfl rfl rfl rfl) ?_
   refine AU_all [0, 7] (by kernel_rfl) rfl (allc ?_ (allc ?_ (fun _ h => nomatch h)))
   ·refine US_of 0 rfl rfl ?_
    refine AOps_q 10 _ rfl rfl rfl (QOp_loadN_ptr _ _ _ _ _ _ _ rfl Try.isAgg29 Try.sizeOf29 rfl rfl (colD_all _) (colD_length _)) ?_
    refine AOps_nil ?_
    refine AU_all [7] (by kernel_rfl) rfl (allc ?_ (fun _ h => nomatch h))
    ·refine US_of 7 rfl rfl ?_
     refine AOps_call [1] 17 _ _ _ _ _ _ _ _ _ _ rfl rfl rfl rfl rfl rfl rfl Try.call98 rfl (nodupB_sound _ rfl) rfl rfl rfl (spec_l01Near_ac r2.2 (if 3 < (if w64 (r2.1.k - 1) < 0 then 0 else w64 (r2.1.k - 1)) then 3 else (if w64 (r2.1.k - 1) < 0 then 0 else w64 (r2.1.k - 1))) _ hr3) ?_
     rintro _ _ ⟨rfl, rfl⟩
     refine ⟨(allc (fun _ _ => trivial) (fun _ h => nomatch h)), (allc (trivial) (fun _ h => nomatch h)), AOps_as 17 (v' := iV r3.1) (H' := [.box (colD Col.zero), .box (srcD r3.2), .box (colD r2.1)]) rfl rfl ?_⟩
     refine AOps_nil ?_
     refine AU_all [8] (by kernel_rfl) rfl (allc ?_ (fun _ h => nomatch h))
     ·refine US_of 8 rfl rfl ?_
      refine AOps_store _ _ _ _ _ _ (colD _) _ _ rfl rfl rfl rfl rfl rfl rfl (colD_one _) (by rw [colD_length]; exact Try.sizeOf29) (by rw [colD_length, colD_length]; decide) (colD_whole _ _) ?_
      refine AOps_nil ?_
      refine AU_u 9 3 _ rfl (by kernel_rfl) rfl rfl rfl (UOp_assign _ _ rfl rfl) ?_
      refine AU_done (by kernel_rfl) ?_
      exact ⟨rfl, Weak_keep 0 hm [2, 3] [0] _ _ rfl rfl rfl⟩
   ·refine US_of 7 rfl rfl ?_
    refine AOps_call [1] 17 _ _ _ _ _ _ _ _ _ _ rfl rfl rfl rfl rfl rfl rfl Try.call98 rfl (nodupB_sound _ rfl) rfl rfl rfl (spec_l01Near_ac r2.2 (if 3 < (if w64 (r2.1.k - 1) < 0 then 0 else w64 (r2.1.k - 1)) then 3 else (if w64 (r2.1.k - 1) < 0 then 0 else w64 (r2.1.k - 1))) _ hr3) ?_
    rintro _ _ ⟨rfl, rfl⟩
    refine ⟨(allc (fun _ _ => trivial) (fun _ h => nomatch h)), (allc (trivial) (fun _ h => nomatch h)), AOps_as 17 (v' := iV r3.1) (H' := [.box (colD Col.zero), .box (srcD r3.2), .box (colD r2.1)]) rfl rfl ?_⟩
    refine AOps_nil ?_
    refine AU_all [0] (by kernel_rfl) rfl (allc ?_ (fun _ h => nomatch h))
    ·refine US_of 0 rfl rfl ?_
     refine AOps_q 10 _ rfl rfl rfl (QOp_loadN_ptr _ _ _ _ _ _ _ rfl Try.isAgg29 Try.sizeOf29 rfl rfl (colD_all _) (colD_length _)) ?_
     refine AOps_nil ?_
     refine AU_all [8] (by kernel_rfl) rfl (allc ?_ (fun _ h => nomatch h))
     ·refine US_of 8 rfl rfl ?_
      refine AOps_store _ _ _ _ _ _ (colD _) _ _ rfl rfl rfl rfl rfl rfl rfl (colD_one _) (by rw [colD_length]; exact Try.sizeOf29) (by rw [colD_length, colD_length]; decide) (colD_whole _ _) ?_
      refine AOps_nil ?_
      refine AU_u 9 3 _ rfl (by kernel_rfl) rfl rfl rfl (UOp_assign _ _ rfl rfl) ?_
      refine AU_done (by kernel_rfl) ?_
      exact ⟨rfl, Weak_keep 0 hm [2, 3] [0] _ _ rfl rfl rfl⟩
 refine ACode_ret ?_
 cases h
 exact ⟨_, _, fun r a w h => ⟨r, h⟩, _, _, [], _, (.cons (ResV_agg _ _ _ _ _ _ Try.isAgg29 Try.sizeOf29 rfl rfl (colD_take _) (colD_length _)) (.cons (ResV_tmp _ _ rfl) .nil)), rfl, rfl, rfl, rfl, rfl⟩

-- loop.example/g01362/spec.DrawCountCliques
def spec_DrawCountCliques (k : Nat) (p0 : List UInt8) : Option (Col × Int × Int) :=
 (spec_l02With k p0).bind fun r1 => (spec_l01From k p0).bind fun r2 => (spec_l01Near r2 17).bind fun r3 => (spec_l01Pick r3.2 ([2, 3, 3, 4, 5, r3.1])).bind fun r4 => some (r1.1, r1.2, r4.1)
set_option maxRecDepth 100000 in
theorem spec_DrawCountCliques_ac (k : Nat) (p0 : List UInt8) (r : Col × Int × Int) (h : spec_DrawCountCliques k p0 = some r) : AC Try.prog 101 [.d (.sl none (bysD p0))] [] (fun res H' => res = [.d (.agg (colD r.1)), iV r.2.1, iV r.2.2] ∧ H' = []) := by
 refine AC_of_body true Try.func101 rfl Try.ntmps101 (rvs := [.cell 2 29, .tmp 3, .tmp 4]) rfl rfl (fun G hG => ?_)
 have hm : G.H.length = 0 := by rw [hG]; rfl
 have hz : zeroG G.H = true := by rw [hG]; rfl
 unfold spec_DrawCountCliques at h
 refine ACode_seq (ACode_region ?_)
 refine AOps_alloc 2 _ _ (colD Col.zero) (zero_of Try.typeInfo29 rfl) (by rfl) rfl rfl rfl rfl ?_
 refine AOps_q 3 _ rfl rfl rfl (QOp_assign _ _ rfl rfl) ?_
 refine AOps_q 4 _ rfl rfl rfl (QOp_assign _ _ rfl rfl) ?_
 refine AOps_nil ?_
 refine ACode_seq (ACode_region ?_)
 refine AOps_q 9 _ rfl rfl rfl (QOp_move _ _ rfl rfl) ?_
 obtain ⟨r1, hr1, h⟩ := bindO h
 refine AOps_call [] 10 _ _ _ _ _ _ _ _ _ _ rfl rfl rfl rfl rfl rfl rfl Try.call114 rfl (nodupB_sound _ rfl) rfl rfl rfl (spec_l02With_ac k p0 _ hr1) ?_
 rintro _ _ ⟨rfl, rfl⟩
 refine ⟨(fun _ h => nomatch h), (allc (trivial) (allc (trivial) (fun _ h => nomatch h))), AOps_as 10 (v' := .tup [.d (.agg (colD r1.1)), iV r1.2]) (H' := [.box (colD Col.zero)]) rfl rfl ?_⟩
 refine AOps_q 8 _ rfl rfl rfl (QOp_move _ _ rfl rfl) ?_
 refine AOps_q 11 _ rfl rfl rfl (QOp_extract _ _ _ _ rfl rfl rfl) ?_
 refine AOps_q 12 _ rfl rfl rfl (QOp_extract _ _ _ _ rfl rfl rfl) ?_
 refine AOps_alloc 5 _ _ (colD Col.zero) (zero_of Try.typeInfo29 rfl) (by rfl) rfl rfl rfl rfl ?_
 refine AOps_store _ _ _ _ _ _ (colD _) _ _ rfl rfl rfl rfl rfl rfl rfl (colD_one _) (by rw [colD_length]; exact Try.sizeOf29) (by rw [colD_length, colD_length]; decide) (colD_whole _ _) ?_
 refine AOps_q 6 _ rfl rfl rfl (QOp_assign _ _ rfl rfl) ?_
 refine AOps_nil ?_
 refine ACode_seq (ACode_region ?_)
 refine AOps_q 13 _ rfl rfl rfl (QOp_move _ _ rfl rfl) ?_
 obtain ⟨r2, hr2, h⟩ := bindO h
 refine AOps_call [] 14 _ _ _ _ _ _ _ _ _ _ rfl rfl rfl rfl rfl rfl rfl Try.call78 rfl (nodupB_sound _ rfl) rfl rfl rfl (spec_l01From_ac k p0 _ hr2) ?_
 rintro _ _ ⟨rfl, rfl⟩
 refine ⟨(allc (fun _ _ => trivial) (fun _ h => nomatch h)), (allc (trivial) (fun _ h => nomatch h)), AOps_as 14 (v' := .ptr 2 0) (H' := [.box (colD Col.zero), .box (colD r1.1), .box (srcD r2)]) rfl rfl ?_⟩
 refine AOps_q 7 _ rfl rfl rfl (QOp_assign _ _ rfl rfl) ?_
 refine AOps_nil ?_
 obtain ⟨r3, hr3, h⟩ := bindO h
 obtain ⟨r4, hr4, h⟩ := bindO h
 refine ACode_seq (ACode_reg [(2, .ptr 0 0), (3, iV r1.2), (4, iV r4.1)] [.box (colD r1.1)] ?_ ?_)
 ·refine ACode_anyU mixed ?_
  refine AU_u 1 16 _ rfl (by kernel_rfl) rfl rfl rfl (UOp_move _ _ rfl rfl) ?_
  refine AU_u 2 17 _ rfl (by kernel_rfl) rfl rfl rfl (UOp_move _ _ rfl rfl) ?_
  refine AU_u 3 18 _ rfl (by kernel_rfl) rfl rfl rfl (UOp_move _ _ rfl rfl) ?_
  refine AU_all [0, 4] (by kernel_rfl) rfl (allc ?_ (allc ?_ (fun _ h => nomatch h)))
  ·refine US_of 0 rfl rfl ?_
   refine AOps_q 15 _ rfl rfl rfl (QOp_loadN_ptr _ _ _ _ _ _ _ rfl Try.isAgg29 Try.sizeOf29 rfl rfl (colD_all _) (colD_length _)) ?_
   refine AOps_nil ?_
   refine AU_all [4] (by kernel_rfl) rfl (allc ?_ (fun _ h => nomatch h))
   ·refine US_of 4 rfl rfl ?_
    refine AOps_call [2] 19 _ _ _ _ _ _ _ _ _ _ rfl rfl rfl rfl rfl rfl rfl Try.call98 rfl (nodupB_sound _ rfl) rfl rfl rfl (spec_l01Near_ac r2 17 _ hr3) ?_
    rintro _ _ ⟨rfl, rfl⟩
    refine ⟨(allc (fun _ _ => trivial) (fun _ h => nomatch h)), (allc (trivial) (fun _ h => nomatch h)), AOps_as 19 (v' := iV r3.1) (H' := [.box (colD Col.zero), .box (colD r1.1), .box (srcD r3.2)]) rfl rfl ?_⟩
    refine AOps_nil ?_
    refine AU_all [5] (by kernel_rfl) rfl (allc ?_ (fun _ h => nomatch h))
    ·refine US_of 5 rfl rfl ?_
     refine AOps_buildSlice 20 _ _ _ [_, _, _, _, _, _] (intsD ([2, 3, 3, 4, 5, r3.1])) _ rfl rfl rfl rfl rfl (by decide) Try.underlying24 Try.sizeOf2 (zero_of Try.typeInfo2 rfl) rfl rfl (intsD_one _) ?_
     refine AOps_nil ?_
     refine AU_all [6] (by kernel_rfl) rfl (allc ?_ (fun _ h => nomatch h))
     ·refine US_of 6 rfl rfl ?_
      refine AOps_freezeL [20] 3 0 _ (allc (rfl) (fun _ h => nomatch h)) rfl ?_
      refine AOps_call [2] 21 _ _ _ _ _ _ _ _ _ _ rfl rfl rfl rfl rfl rfl rfl Try.call125 rfl (nodupB_sound _ rfl) rfl rfl rfl (spec_l01Pick_ac r3.2 ([2, 3, 3, 4, 5, r3.1]) _ hr4) ?_
      rintro _ _ ⟨rfl, rfl⟩
      refine ⟨(allc (fun _ _ => trivial) (fun _ h => nomatch h)), (allc (trivial) (fun _ h => nomatch h)), AOps_as 21 (v' := iV r4.1) (H' := [.box (colD Col.zero), .box (colD r1.1), .box (srcD r4.2), .gone]) rfl rfl ?_⟩
      refine AOps_nil ?_
      refine AU_all [7] (by kernel_rfl) rfl (allc ?_ (fun _ h => nomatch h))
      ·refine US_of 7 rfl rfl ?_
       refine AOps_store _ _ _ _ _ _ (colD _) _ _ rfl rfl rfl rfl rfl rfl rfl (colD_one _) (by rw [colD_length]; exact Try.sizeOf29) (by rw [colD_length, colD_length]; decide) (colD_whole _ _) ?_
       refine AOps_nil ?_
       refine AU_u 8 3 _ rfl (by kernel_rfl) rfl rfl rfl (UOp_assign _ _ rfl rfl) ?_
       refine AU_u 9 4 _ rfl (by kernel_rfl) rfl rfl rfl (UOp_assign _ _ rfl rfl) ?_
       refine AU_done (by kernel_rfl) ?_
       exact ⟨rfl, Weak_keep 0 hm [2, 3, 4] [0] _ _ rfl rfl rfl⟩
  ·refine US_of 4 rfl rfl ?_
   refine AOps_call [2] 19 _ _ _ _ _ _ _ _ _ _ rfl rfl rfl rfl rfl rfl rfl Try.call98 rfl (nodupB_sound _ rfl) rfl rfl rfl (spec_l01Near_ac r2 17 _ hr3) ?_
   rintro _ _ ⟨rfl, rfl⟩
   refine ⟨(allc (fun _ _ => trivial) (fun _ h => nomatch h)), (allc (trivial) (fun _ h => nomatch h)), AOps_as 19 (v' := iV r3.1) (H' := [.box (colD Col.zero), .box (colD r1.1), .box (srcD r3.2)]) rfl rfl ?_⟩
   refine AOps_nil ?_
   refine AU_all [0, 5] (by kernel_rfl) rfl (allc ?_ (allc ?_ (fun _ h => nomatch h)))
   ·refine US_of 0 rfl rfl ?_
    refine AOps_q 15 _ rfl rfl rfl (QOp_loadN_ptr _ _ _ _ _ _ _ rfl Try.isAgg29 Try.sizeOf29 rfl rfl (colD_all _) (colD_length _)) ?_
    refine AOps_nil ?_
    refine AU_all [5] (by kernel_rfl) rfl (allc ?_ (fun _ h => nomatch h))
    ·refine US_of 5 rfl rfl ?_
     refine AOps_buildSlice 20 _ _ _ [_, _, _, _, _, _] (intsD ([2, 3, 3, 4, 5, r3.1])) _ rfl rfl rfl rfl rfl (by decide) Try.underlying24 Try.sizeOf2 (zero_of Try.typeInfo2 rfl) rfl rfl (intsD_one _) ?_
     refine AOps_nil ?_
     refine AU_all [6] (by kernel_rfl) rfl (allc ?_ (fun _ h => nomatch h))
     ·refine US_of 6 rfl rfl ?_
      refine AOps_freezeL [20] 3 0 _ (allc (rfl) (fun _ h => nomatch h)) rfl ?_
      refine AOps_call [2] 21 _ _ _ _ _ _ _ _ _ _ rfl rfl rfl rfl rfl rfl rfl Try.call125 rfl (nodupB_sound _ rfl) rfl rfl rfl (spec_l01Pick_ac r3.2 ([2, 3, 3, 4, 5, r3.1]) _ hr4) ?_
      rintro _ _ ⟨rfl, rfl⟩
      refine ⟨(allc (fun _ _ => trivial) (fun _ h => nomatch h)), (allc (trivial) (fun _ h => nomatch h)), AOps_as 21 (v' := iV r4.1) (H' := [.box (colD Col.zero), .box (colD r1.1), .box (srcD r4.2), .gone]) rfl rfl ?_⟩
      refine AOps_nil ?_
      refine AU_all [7] (by kernel_rfl) rfl (allc ?_ (fun _ h => nomatch h))
      ·refine US_of 7 rfl rfl ?_
       refine AOps_store _ _ _ _ _ _ (colD _) _ _ rfl rfl rfl rfl rfl rfl rfl (colD_one _) (by rw [colD_length]; exact Try.sizeOf29) (by rw [colD_length, colD_length]; decide) (colD_whole _ _) ?_
       refine AOps_nil ?_
       refine AU_u 8 3 _ rfl (by kernel_rfl) rfl rfl rfl (UOp_assign _ _ rfl rfl) ?_
       refine AU_u 9 4 _ rfl (by kernel_rfl) rfl rfl rfl (UOp_assign _ _ rfl rfl) ?_
       refine AU_done (by kernel_rfl) ?_
       exact ⟨rfl, Weak_keep 0 hm [2, 3, 4] [0] _ _ rfl rfl rfl⟩
   ·refine US_of 5 rfl rfl ?_
    refine AOps_buildSlice 20 _ _ _ [_, _, _, _, _, _] (intsD ([2, 3, 3, 4, 5, r3.1])) _ rfl rfl rfl rfl rfl (by decide) Try.underlying24 Try.sizeOf2 (zero_of Try.typeInfo2 rfl) rfl rfl (intsD_one _) ?_
    refine AOps_nil ?_
    refine AU_all [0, 6] (by kernel_rfl) rfl (allc ?_ (allc ?_ (fun _ h => nomatch h)))
    ·refine US_of 0 rfl rfl ?_
     refine AOps_q 15 _ rfl rfl rfl (QOp_loadN_ptr _ _ _ _ _ _ _ rfl Try.isAgg29 Try.sizeOf29 rfl rfl (colD_all _) (colD_length _)) ?_
     refine AOps_nil ?_
     refine AU_all [6] (by kernel_rfl) rfl (allc ?_ (fun _ h => nomatch h))
     ·refine US_of 6 rfl rfl ?_
      refine AOps_freezeL [20] 3 0 _ (allc (rfl) (fun _ h => nomatch h)) rfl ?_
      refine AOps_call [2] 21 _ _ _ _ _ _ _ _ _ _ rfl rfl rfl rfl rfl rfl rfl Try.call125 rfl (nodupB_sound _ rfl) rfl rfl rfl (spec_l01Pick_ac r3.2 ([2, 3, 3, 4, 5, r3.1]) _ hr4) ?_
      rintro _ _ ⟨rfl, rfl⟩
      refine ⟨(allc (fun _ _ => trivial) (fun _ h => nomatch h)), (allc (trivial) (fun _ h => nomatch h)), AOps_as 21 (v' := iV r4.1) (H' := [.box (colD Col.zero), .box (colD r1.1), .box (srcD r4.2), .gone]) rfl rfl ?_⟩
      refine AOps_nil ?_
      refine AU_all [7] (by kernel_rfl) rfl (allc ?_ (fun _ h => nomatch h))
      ·refine US_of 7 rfl rfl ?_
       refine AOps_store _ _ _ _ _ _ (colD _) _ _ rfl rfl rfl rfl rfl rfl rfl (colD_one _) (by rw [colD_length]; exact Try.sizeOf29) (by rw [colD_length, colD_length]; decide) (colD_whole _ _) ?_
       refine AOps_nil ?_
       refine AU_u 8 3 _ rfl (by kernel_rfl) rfl rfl rfl (UOp_assign _ _ rfl rfl) ?_
       refine AU_u 9 4 _ rfl (by kernel_rfl) rfl rfl rfl (UOp_assign _ _ rfl rfl) ?_
       refine AU_done (by kernel_rfl) ?_
       exact ⟨rfl, Weak_keep 0 hm [2, 3, 4] [0] _ _ rfl rfl rfl⟩
    ·refine US_of 6 rfl rfl ?_
     refine AOps_freezeL [20] 3 0 _ (allc (rfl) (fun _ h => nomatch h)) rfl ?_
     refine AOps_call [2] 21 _ _ _ _ _ _ _ _ _ _ rfl rfl rfl rfl rfl rfl rfl Try.call125 rfl (nodupB_sound _ rfl) rfl rfl rfl (spec_l01Pick_ac r3.2 ([2, 3, 3, 4, 5, r3.1]) _ hr4) ?_
     rintro _ _ ⟨rfl, rfl⟩
     refine ⟨(allc (fun _ _ => trivial) (fun _ h => nomatch h)), (allc (trivial) (fun _ h => nomatch h)), AOps_as 21 (v' := iV r4.1) (H' := [.box (colD Col.zero), .box (colD r1.1), .box (srcD r4.2), .gone]) rfl rfl ?_⟩
     refine AOps_nil ?_
     refine AU_all [0] (by kernel_rfl) rfl (allc ?_ (fun _ h => nomatch h))
     ·refine US_of 0 rfl rfl ?_
      refine AOps_q 15 _ rfl rfl rfl (QOp_loadN_ptr _ _ _ _ _ _ _ rfl Try.isAgg29 Try.sizeOf29 rfl rfl (colD_all _) (colD_length _)) ?_
      refine AOps_nil ?_
      refine AU_all [7] (by kernel_rfl) rfl (allc ?_ (fun _ h => nomatch h))
      ·refine US_of 7 rfl rfl ?_
       refine AOps_store _ _ _ _ _ _ (colD _) _ _ rfl rfl rfl rfl rfl rfl rfl (colD_one _) (by rw [colD_length]; exact Try.sizeOf29) (by rw [colD_length, colD_length]; decide) (colD_whole _ _) ?_
       refine AOps_nil ?_
       refine AU_u 8 3 _ rfl (by kernel_rfl) rfl rfl rfl (UOp_assign _ _ rfl rfl) ?_
       refine AU_u 9 4 _ rfl (by kernel_rfl) rfl rfl rfl (UOp_assign _ _ rfl rfl) ?_
       refine AU_done (by kernel_rfl) ?_
       exact ⟨rfl, Weak_keep 0 hm [2, 3, 4] [0] _ _ rfl rfl rfl⟩
 refine ACode_ret ?_
 cases h
 exact ⟨_, _, fun r a w h => ⟨r, h⟩, _, _, [], _, (.cons (ResV_agg _ _ _ _ _ _ Try.isAgg29 Try.sizeOf29 rfl rfl (colD_take _) (colD_length _)) (.cons (ResV_tmp _ _ rfl) (.cons (ResV_tmp _ _ rfl) .nil))), rfl, rfl, rfl, rfl, rfl⟩

-- loop.example/g01362/spec.DrawCliqueList
def spec_DrawCliqueList (k : Nat) (p0 : List UInt8) : Option (Col × Int × Int) :=
 (spec_DrawCountCliques k p0).bind fun r1 => some (r1.1, r1.2.1, r1.2.2)
set_option maxRecDepth 100000 in
theorem spec_DrawCliqueList_ac (k : Nat) (p0 : List UInt8) (r : Col × Int × Int) (h : spec_DrawCliqueList k p0 = some r) : AC Try.prog 25 [.d (.sl none (bysD p0))] [] (fun res H' => res = [.d (.agg (colD r.1)), iV r.2.1, iV r.2.2] ∧ H' = []) := by
 refine AC_of_body true Try.func25 rfl Try.ntmps25 (rvs := [.cell 2 29, .tmp 3, .tmp 4]) rfl rfl (fun G hG => ?_)
 have hm : G.H.length = 0 := by rw [hG]; rfl
 have hz : zeroG G.H = true := by rw [hG]; rfl
 unfold spec_DrawCliqueList at h
 refine ACode_seq (ACode_region ?_)
 refine AOps_alloc 2 _ _ (colD Col.zero) (zero_of Try.typeInfo29 rfl) (by rfl) rfl rfl rfl rfl ?_
 refine AOps_q 3 _ rfl rfl rfl (QOp_assign _ _ rfl rfl) ?_
 refine AOps_q 4 _ rfl rfl rfl (QOp_assign _ _ rfl rfl) ?_
 refine AOps_nil ?_
 refine ACode_seq (ACode_region ?_)
 refine AOps_q 5 _ rfl rfl rfl (QOp_move _ _ rfl rfl) ?_
 obtain ⟨r1, hr1, h⟩ := bindO h
 refine AOps_call [] 6 _ _ _ _ _ _ _ _ _ _ rfl rfl rfl rfl rfl rfl rfl Try.call101 rfl (nodupB_sound _ rfl) rfl rfl rfl (spec_DrawCountCliques_ac k p0 _ hr1) ?_
 rintro _ _ ⟨rfl, rfl⟩
 refine ⟨(fun _ h => nomatch h), (allc (trivial) (allc (trivial) (allc (trivial) (fun _ h => nomatch h)))), AOps_as 6 (v' := .tup [.d (.agg (colD r1.1)), iV r1.2.1, iV r1.2.2]) (H' := [.box (colD Col.zero)]) rfl rfl ?_⟩
 refine AOps_q 7 _ rfl rfl rfl (QOp_extract _ _ _ _ rfl rfl rfl) ?_
 refine AOps_q 8 _ rfl rfl rfl (QOp_extract _ _ _ _ rfl rfl rfl) ?_
 refine AOps_q 9 _ rfl rfl rfl (QOp_extract _ _ _ _ rfl rfl rfl) ?_
 refine AOps_store _ _ _ _ _ _ (colD _) _ _ rfl rfl rfl rfl rfl rfl rfl (colD_one _) (by rw [colD_length]; exact Try.sizeOf29) (by rw [colD_length, colD_length]; decide) (colD_whole _ _) ?_
 refine AOps_q 3 _ rfl rfl rfl (QOp_assign _ _ rfl rfl) ?_
 refine AOps_q 4 _ rfl rfl rfl (QOp_assign _ _ rfl rfl) ?_
 refine AOps_nil ?_
 refine ACode_ret ?_
 cases h
 exact ⟨_, _, fun r a w h => ⟨r, h⟩, _, _, [], _, (.cons (ResV_agg _ _ _ _ _ _ Try.isAgg29 Try.sizeOf29 rfl rfl (colD_take _) (colD_length _)) (.cons (ResV_tmp _ _ rfl) (.cons (ResV_tmp _ _ rfl) .nil))), rfl, rfl, rfl, rfl, rfl⟩

-- loop.example/g01362/impl.in
def impl_in (p0 : Int) (p1 : Int) (p2 : Int) : Bool :=
 letO (if decide (p1 ≤ p0) then decide (p0 ≤ p2) else false) fun (s2 : Bool) => s2
set_option maxRecDepth 100000 in
theorem impl_in_ac (p0 : Int) (p1 : Int) (p2 : Int) : AC Try.prog 99 [iV p0, iV p1, iV p2] [] (fun res H' => res = [bV (impl_in p0 p1 p2)] ∧ H' = []) := by
 refine AC_of_body true Try.func99 rfl Try.ntmps99 (rvs := [.tmp 6]) rfl rfl (fun G hG => ?_)
 have hm : G.H.length = 0 := by rw [hG]; rfl
 have hz : zeroG G.H = true := by rw [hG]; rfl
 obtain ⟨r, h⟩ : ∃ r, impl_in p0 p1 p2 = r := ⟨_, rfl⟩
 rw [h]
 unfold impl_in at h
 refine ACode_seq (ACode_region ?_)
 refine AOps_q 6 _ rfl rfl rfl (QOp_assign _ _ rfl rfl) ?_
 refine AOps_nil ?_
 obtain ⟨s2, hss2, hks2⟩ := letS h
 clear h
 refine ACode_seqJ (fun E' H' => Weak 15 G E' H' [(6, bV s2)] []) ?_ ?_
 ·have h := hss2
  clear hss2
  refine (ACode_region ?_)
  refine AOps_q 7 _ rfl rfl rfl (QOp_move _ _ rfl rfl) ?_
  refine AOps_q 8 _ rfl rfl rfl (QOp_move _ _ rfl rfl) ?_
  refine AOps_q 9 _ rfl rfl rfl (QOp_geq _ _ _ _ _ _ _ rfl rfl rfl) ?_
  refine AOps_q 10 _ rfl rfl rfl (QOp_move _ _ rfl rfl) ?_
  refine AOps_case 10 _ rfl (fun hb1 => ?_) (fun hb1 => ?_)
  ·have h := iteT hb1 h
   refine AOps_q 11 _ rfl rfl rfl (QOp_move _ _ rfl rfl) ?_
   refine AOps_q 12 _ rfl rfl rfl (QOp_move _ _ rfl rfl) ?_
   refine AOps_q 13 _ rfl rfl rfl (QOp_leq _ _ _ _ _ _ _ rfl rfl rfl) ?_
   refine AOps_q 14 _ rfl rfl rfl (QOp_pick_t _ _ _ _ rfl rfl rfl) ?_
   refine AOps_q 6 _ rfl rfl rfl (QOp_assign _ _ rfl rfl) ?_
   refine AOps_nil ?_
   cases h
   exact Weak_keep 0 hm [6] [] _ _ rfl rfl rfl
  ·have h := iteF hb1 h
   refine AOps_skip 11 rfl rfl rfl ?_
   refine AOps_skip 12 rfl rfl rfl ?_
   refine AOps_skip 13 rfl rfl rfl ?_
   refine AOps_q 14 _ rfl rfl rfl (QOp_pick_f _ _ _ _ rfl rfl rfl) ?_
   refine AOps_q 6 _ rfl rfl rfl (QOp_assign _ _ rfl rfl) ?_
   refine AOps_nil ?_
   cases h
   exact Weak_keep 0 hm [6] [] _ _ rfl rfl rfl
 intro E' H' hw
 refine ACode_weak hw ?_
 have h := hks2
 refine ACode_ret ?_
 cases h
 exact ⟨_, _, fun r a w h => ⟨r, h⟩, _, _, [], _, (.cons (ResV_tmp _ _ rfl) .nil), rfl, rfl, rfl, rfl, rfl⟩

-- (*loop.example/g01362/impl.Colouring).edges
def impl_Colouring_edges (p0 : Col) : Int :=
 w64 ((w64 (p0.p * (w64 (p0.p - 1)))).tdiv 2)
set_option maxRecDepth 100000 in
theorem impl_Colouring_edges_ac (p0 : Col) : AC Try.prog 217 [.d (.pv (colD p0) 0)] [] (fun res H' => res = [iV (impl_Colouring_edges p0)] ∧ H' = []) := by
 refine AC_of_body true Try.func217 rfl Try.ntmps217 (rvs := [.tmp 2]) rfl rfl (fun G hG => ?_)
 have hm : G.H.length = 0 := by rw [hG]; rfl
 have hz : zeroG G.H = true := by rw [hG]; rfl
 obtain ⟨r, h⟩ : ∃ r, impl_Colouring_edges p0 = r := ⟨_, rfl⟩
 rw [h]
 unfold impl_Colouring_edges at h
 refine ACode_seq (ACode_region ?_)
 refine AOps_q 2 _ rfl rfl rfl (QOp_assign _ _ rfl rfl) ?_
 refine AOps_nil ?_
 refine ACode_seq (ACode_quiet mixed (by kernel_rfl) ?_)
 refine AQ_q 3 _ rfl rfl rfl (QOp_move _ _ rfl rfl) ?_
 refine AQ_q 4 _ rfl rfl rfl (QOp_nilCheck_pv _ _ _ rfl rfl) ?_
 refine AQ_q 5 _ rfl rfl rfl (QOp_fieldAddr_pv _ _ _ _ _ 0 _ _ rfl Try.underlying29 rfl _ Try.sizeOf2 rfl rfl) ?_
 refine AQ_q 6 _ rfl rfl rfl (QOp_load_pv _ _ _ _ _ rfl Try.isAgg2 rfl rfl) ?_
 refine AQ_q 7 _ rfl rfl rfl (QOp_move _ _ rfl rfl) ?_
 refine AQ_q 8 _ rfl rfl rfl (QOp_nilCheck_pv _ _ _ rfl rfl) ?_
 refine AQ_q 9 _ rfl rfl rfl (QOp_fieldAddr_pv _ _ _ _ _ 0 _ _ rfl Try.underlying29 rfl _ Try.sizeOf2 rfl rfl) ?_
 refine AQ_q 10 _ rfl rfl rfl (QOp_load_pv _ _ _ _ _ rfl Try.isAgg2 rfl rfl) ?_
 refine AQ_q 11 _ rfl rfl rfl (QOp_sub _ _ _ _ _ _ _ rfl rfl rfl) ?_
 refine AQ_q 12 _ rfl rfl rfl (QOp_mul _ _ _ _ _ _ _ rfl rfl rfl) ?_
 refine AQ_q 13 _ rfl rfl rfl (QOp_quo _ _ _ _ _ _ _ (by decide) rfl rfl rfl) ?_
 refine AQ_q 2 _ rfl rfl rfl (QOp_assign _ _ rfl rfl) ?_
 refine AQ_nil ?_
 refine ACode_ret ?_
 cases h
 exact ⟨_, _, fun r a w h => ⟨r, h⟩, _, _, [], _, (.cons (ResV_tmp _ _ rfl) .nil), rfl, rfl, rfl, rfl, rfl⟩

-- (*loop.example/g01362/impl.Colouring).isColouring
def impl_Colouring_isColouring_l0 (k : Nat) (p0 : Col) : Nat → Int → Option (Sum (Unit) (Bool))
 | 0, _ => none
 | k0 + 1, x7 => (if decide (x7 < 136) then ((if 0 ≤ x7 ∧ x7 < 136 then letO (if decide (p0.k ≤ ((p0.e.get x7.toNat).toNat : Int)) then true else (if decide ((impl_Colouring_edges p0) ≤ x7) then !decide (((p0.e.get x7.toNat).toNat : Int) = 0) else false)) fun (s13 : Bool) => (if s13 then (some (.inr false)).bind fun rr => some (.inr rr) else some (.inl ())) else none) : Option (Sum (Unit) (Sum (Unit) (Bool)))).bind fun os15 => (match os15 with | .inl s15 => impl_Colouring_isColouring_l0 k p0 k0 (w64 (x7 + 1)) | .inr rr => some rr) else some (.inl ()))
def impl_Colouring_isColouring (k : Nat) (p0 : Col) : Option (Bool) :=
 (letO (if !(impl_in p0.p 1 17) then true else !(impl_in p0.k 1 4)) fun (s4 : Bool) => (if s4 then some (.inr false) else some (.inl ())) : Option (Sum (Unit) (Bool))).bind fun os6 => (match os6 with | .inl s6 => (impl_Colouring_isColouring_l0 k p0 k 0 : Option (Sum (Unit) (Bool))).bind fun os16 => (match os16 with | .inl s16 => some true | .inr rr => some rr) | .inr rr => some rr)
set_option maxRecDepth 100000 in
theorem impl_Colouring_isColouring_ac (k : Nat) (p0 : Col) (r : Bool) (h : impl_Colouring_isColouring k p0 = some r) : AC Try.prog 181 [.d (.pv (colD p0) 0)] [] (fun res H' => res = [bV r] ∧ H' = []) := by
 refine AC_of_body true Try.func181 rfl Try.ntmps181 (rvs := [.tmp 2]) rfl rfl (fun G hG => ?_)
 have hm : G.H.length = 0 := by rw [hG]; rfl
 have hz : zeroG G.H = true := by rw [hG]; rfl
 unfold impl_Colouring_isColouring at h
 refine ACode_seq (ACode_region ?_)
 refine AOps_q 2 _ rfl rfl rfl (QOp_assign _ _ rfl rfl) ?_
 refine AOps_nil ?_
 obtain ⟨os6, hss6, hks6⟩ := bindO h
 clear h
 refine ACode_seqJ (fun E' H' => ∃ s6 : Unit, os6 = .inl s6 ∧ Weak 45 G E' H' [(0, .d (.pv (colD p0) 0))] []) ?_ ?_
 ·have h := hss6
  clear hss6
  obtain ⟨s4, hss4, hks4⟩ := letS h
  clear h
  refine ACode_seqJ (fun E' H' => Weak 45 G E' H' [(0, .d (.pv (colD p0) 0)), (18, bV s4)] []) ?_ ?_
  ·have h := hss4
   clear hss4
   refine (ACode_region ?_)
   refine AOps_q 5 _ rfl rfl rfl (QOp_move _ _ rfl rfl) ?_
   refine AOps_q 6 _ rfl rfl rfl (QOp_nilCheck_pv _ _ _ rfl rfl) ?_
   refine AOps_q 7 _ rfl rfl rfl (QOp_fieldAddr_pv _ _ _ _ _ 0 _ _ rfl Try.underlying29 rfl _ Try.sizeOf2 rfl rfl) ?_
   refine AOps_q 8 _ rfl rfl rfl (QOp_load_pv _ _ _ _ _ rfl Try.isAgg2 rfl rfl) ?_
   refine AOps_call [] 9 _ _ _ _ _ _ _ _ _ _ rfl rfl rfl rfl rfl rfl rfl Try.call99 rfl (nodupB_sound _ rfl) rfl rfl rfl (impl_in_ac p0.p 1 17) ?_
   rintro _ _ ⟨rfl, rfl⟩
   refine ⟨(fun _ h => nomatch h), (allc (trivial) (fun _ h => nomatch h)), AOps_as 9 (v' := bV (impl_in p0.p 1 17)) (H' := []) rfl rfl ?_⟩
   refine AOps_q 10 _ rfl rfl rfl (QOp_not _ _ _ rfl rfl) ?_
   refine AOps_q 11 _ rfl rfl rfl (QOp_move _ _ rfl rfl) ?_
   refine AOps_case 11 _ rfl (fun hb2 => ?_) (fun hb2 => ?_)
   ·have h := iteT hb2 h
    refine AOps_skip 12 rfl rfl rfl ?_
    refine AOps_skip 13 rfl rfl rfl ?_
    refine AOps_skip 14 rfl rfl rfl ?_
    refine AOps_skip 15 rfl rfl rfl ?_
    refine AOps_skip 16 rfl rfl rfl ?_
    refine AOps_skip 17 rfl rfl rfl ?_
    refine AOps_q 18 _ rfl rfl rfl (QOp_pick_t _ _ _ _ rfl rfl rfl) ?_
    refine AOps_nil ?_
    cases h
    exact Weak_keep 0 hm [0, 18] [] _ _ rfl rfl rfl
   ·have h := iteF hb2 h
    refine AOps_q 12 _ rfl rfl rfl (QOp_move _ _ rfl rfl) ?_
    refine AOps_q 13 _ rfl rfl rfl (QOp_nilCheck_pv _ _ _ rfl rfl) ?_
    refine AOps_q 14 _ rfl rfl rfl (QOp_fieldAddr_pv _ _ _ _ _ 1 _ _ rfl Try.underlying29 rfl _ Try.sizeOf2 rfl rfl) ?_
    refine AOps_q 15 _ rfl rfl rfl (QOp_load_pv _ _ _ _ _ rfl Try.isAgg2 rfl rfl) ?_
    refine AOps_call [] 16 _ _ _ _ _ _ _ _ _ _ rfl rfl rfl rfl rfl rfl rfl Try.call99 rfl (nodupB_sound _ rfl) rfl rfl rfl (impl_in_ac p0.k 1 4) ?_
    rintro _ _ ⟨rfl, rfl⟩
    refine ⟨(fun _ h => nomatch h), (allc (trivial) (fun _ h => nomatch h)), AOps_as 16 (v' := bV (impl_in p0.k 1 4)) (H' := []) rfl rfl ?_⟩
    refine AOps_q 17 _ rfl rfl rfl (QOp_not _ _ _ rfl rfl) ?_
    refine AOps_q 18 _ rfl rfl rfl (QOp_pick_f _ _ _ _ rfl rfl rfl) ?_
    refine AOps_nil ?_
    cases h
    exact Weak_keep 0 hm [0, 18] [] _ _ rfl rfl rfl
  intro E' H' hw
  refine ACode_weak hw ?_
  have h := hks4
  refine ACode_cond _ rfl (fun hb5 => ?_) (fun hb5 => ?_)
  ·have h := iteT hb5 h
   refine ACode_seq (ACode_region ?_)
   refine AOps_q 2 _ rfl rfl rfl (QOp_assign _ _ rfl rfl) ?_
   refine AOps_nil ?_
   refine ACode_ret ?_
   cases h
   have h := hks6
   cases h
   exact ⟨_, _, fun r a w h => ⟨r, h⟩, _, _, [], _, (.cons (ResV_tmp _ _ rfl) .nil), rfl, rfl, rfl, rfl, rfl⟩
  ·have h := iteF hb5 h
   refine ACode_skip ?_
   cases h
   exact ⟨_, rfl, Weak_keep 0 hm [0] [] _ _ rfl rfl rfl⟩
 rintro E' H' ⟨s6, rfl, hw⟩
 refine ACode_weak hw ?_
 have h := hks6
 obtain ⟨os16, hss16, hks16⟩ := bindO h
 clear h
 refine ACode_seqJ (fun E' H' => ∃ s16 : Unit, os16 = .inl s16 ∧ Weak 45 G E' H' [] []) ?_ ?_
 ·have h := hss16
  clear hss16
  refine ACode_seq (ACode_region ?_)
  refine AOps_q 19 _ rfl rfl rfl (QOp_move _ _ rfl rfl) ?_
  refine AOps_q 20 _ rfl rfl rfl (QOp_nilCheck_pv _ _ _ rfl rfl) ?_
  refine AOps_q 21 _ rfl rfl rfl (QOp_fieldAddr_pv _ _ _ _ _ 2 _ _ rfl Try.underlying29 rfl _ Try.sizeOf27 rfl rfl) ?_
  refine AOps_q 22 _ rfl rfl rfl (QOp_loadN_pv _ _ _ _ _ _ rfl Try.isAgg27 Try.sizeOf27 rfl (colD_edges _) (byD_length _)) ?_
  refine AOps_q 23 _ rfl rfl rfl (QOp_move _ _ rfl rfl) ?_
  refine AOps_nil ?_
  refine ACode_block ?_
  refine ACode_loopW (fun k0 E H => ∃ (x7 : Int), E = [(0, .d (.pv (colD p0) 0)), (22, .d (.agg (byD p0.e))), (23, iV x7)] ∧ H = [] ∧ impl_Colouring_isColouring_l0 k p0 k0 x7 = some os16) k _ _ (Weak_keep 0 hm [0, 22, 23] [] _ _ rfl rfl rfl) ⟨_, rfl, rfl, h⟩ ?_
  clear h
  rintro k0 E H ⟨x7, rfl, rfl, h⟩
  cases k0 with
  | zero => cases (show (none : Option (Sum (Unit) (Bool))) = some _ from h)
  | succ k0 =>
   rw [impl_Colouring_isColouring_l0] at h
   refine ACode_seq (ACode_region ?_)
   refine AOps_q 24 _ rfl rfl rfl (QOp_lss _ _ _ _ _ _ _ rfl rfl rfl) ?_
   refine AOps_nil ?_
   refine ACode_seq ?_
   refine ACode_cond _ rfl (fun hb8 => ?_) (fun hb8 => ?_)
   ·have h := iteT hb8 h
    refine ACode_skip ?_
    obtain ⟨os15, hss15, hks15⟩ := bindO h
    clear h
    refine ACode_seqJ (fun E' H' => ∃ s15 : Unit, os15 = .inl s15 ∧ Weak 45 G E' H' [(0, .d (.pv (colD p0) 0)), (22, .d (.agg (byD p0.e))), (23, iV x7)] []) ?_ ?_
    ·have h := hss15
     clear hss15
     refine ACode_block ?_
     refine ACode_seq (ACode_region ?_)
     refine AOps_q 25 _ rfl rfl rfl (QOp_move _ _ rfl rfl) ?_
     obtain ⟨hc9, h⟩ := guardO h
     refine AOps_q 26 _ rfl rfl rfl (QOp_index_agg _ _ _ _ _ _ _ _ _ rfl Try.underlying27 Try.sizeOf5 Try.isAgg5 hc9.1 hc9.2 rfl rfl (byD_get _ _ (by omega))) ?_
     refine AOps_q 3 _ rfl rfl rfl (QOp_assign _ _ rfl rfl) ?_
     refine AOps_q 4 _ rfl rfl rfl (QOp_assign _ _ rfl rfl) ?_
     refine AOps_nil ?_
     obtain ⟨s13, hss13, hks13⟩ := letS h
     clear h
     refine ACode_seqJ (fun E' H' => Weak 45 G E' H' [(0, .d (.pv (colD p0) 0)), (22, .d (.agg (byD p0.e))), (23, iV x7), (43, bV s13)] []) ?_ ?_
     ·have h := hss13
      clear hss13
      refine (ACode_region ?_)
      refine AOps_q 27 _ rfl rfl rfl (QOp_move _ _ rfl rfl) ?_
      refine AOps_q 28 _ rfl rfl rfl (QOp_fromByte _ _ _ _ _ rfl rfl Try.underlying2 wrap_i64_byte rfl) ?_
      refine AOps_q 29 _ rfl rfl rfl (QOp_move _ _ rfl rfl) ?_
      refine AOps_q 30 _ rfl rfl rfl (QOp_nilCheck_pv _ _ _ rfl rfl) ?_
      refine AOps_q 31 _ rfl rfl rfl (QOp_fieldAddr_pv _ _ _ _ _ 1 _ _ rfl Try.underlying29 rfl _ Try.sizeOf2 rfl rfl) ?_
      refine AOps_q 32 _ rfl rfl rfl (QOp_load_pv _ _ _ _ _ rfl Try.isAgg2 rfl rfl) ?_
      refine AOps_q 33 _ rfl rfl rfl (QOp_geq _ _ _ _ _ _ _ rfl rfl rfl) ?_
      refine AOps_q 34 _ rfl rfl rfl (QOp_move _ _ rfl rfl) ?_
      refine AOps_case 34 _ rfl (fun hb10 => ?_) (fun hb10 => ?_)
      ·have h := iteT hb10 h
       refine AOps_skip 35 rfl rfl rfl ?_
       refine AOps_skip 36 rfl rfl rfl ?_
       refine AOps_skip 37 rfl rfl rfl ?_
       refine AOps_skip 38 rfl rfl rfl ?_
       refine AOps_skip 39 rfl rfl rfl ?_
       refine AOps_skip 40 rfl rfl rfl ?_
       refine AOps_skip 41 rfl rfl rfl ?_
       refine AOps_skip 42 rfl rfl rfl ?_
       refine AOps_q 43 _ rfl rfl rfl (QOp_pick_t _ _ _ _ rfl rfl rfl) ?_
       refine AOps_nil ?_
       cases h
       exact Weak_keep 0 hm [0, 22, 23, 43] [] _ _ rfl rfl rfl
      ·have h := iteF hb10 h
       refine AOps_q 35 _ rfl rfl rfl (QOp_move _ _ rfl rfl) ?_
       refine AOps_q 36 _ rfl rfl rfl (QOp_move _ _ rfl rfl) ?_
       refine AOps_call [] 37 _ _ _ _ _ _ _ _ _ _ rfl rfl rfl rfl rfl rfl rfl Try.call217 rfl (nodupB_sound _ rfl) rfl rfl rfl (impl_Colouring_edges_ac p0) ?_
       rintro _ _ ⟨rfl, rfl⟩
       refine ⟨(fun _ h => nomatch h), (allc (trivial) (fun _ h => nomatch h)), AOps_as 37 (v' := iV (impl_Colouring_edges p0)) (H' := []) rfl rfl ?_⟩
       refine AOps_q 38 _ rfl rfl rfl (QOp_geq _ _ _ _ _ _ _ rfl rfl rfl) ?_
       refine AOps_q 39 _ rfl rfl rfl (QOp_move _ _ rfl rfl) ?_
       refine AOps_case 39 _ rfl (fun hb12 => ?_) (fun hb12 => ?_)
       ·have h := iteT hb12 h
        refine AOps_q 40 _ rfl rfl rfl (QOp_move _ _ rfl rfl) ?_
        refine AOps_q 41 _ rfl rfl rfl (QOp_neq _ _ _ _ _ _ _ rfl rfl rfl) ?_
        refine AOps_q 42 _ rfl rfl rfl (QOp_pick_t _ _ _ _ rfl rfl rfl) ?_
        refine AOps_q 43 _ rfl rfl rfl (QOp_pick_f _ _ _ _ rfl rfl rfl) ?_
        refine AOps_nil ?_
        cases h
        exact Weak_keep 0 hm [0, 22, 23, 43] [] _ _ rfl rfl rfl
       ·have h := iteF hb12 h
        refine AOps_skip 40 rfl rfl rfl ?_
        refine AOps_skip 41 rfl rfl rfl ?_
        refine AOps_q 42 _ rfl rfl rfl (QOp_pick_f _ _ _ _ rfl rfl rfl) ?_
        refine AOps_q 43 _ rfl rfl rfl (QOp_pick_f _ _ _ _ rfl rfl rfl) ?_
        refine AOps_nil ?_
        cases h
        exact Weak_keep 0 hm [0, 22, 23, 43] [] _ _ rfl rfl rfl
     intro E' H' hw
     refine ACode_weak hw ?_
     have h := hks13
     refine ACode_cond _ rfl (fun hb14 => ?_) (fun hb14 => ?_)
     ·have h := iteT hb14 h
      refine ACode_seq (ACode_region ?_)
      refine AOps_q 2 _ rfl rfl rfl (QOp_assign _ _ rfl rfl) ?_
      refine AOps_nil ?_
      refine ACode_ret ?_
      obtain ⟨rr, hz17, h2⟩ := bindO h
      obtain rfl := Option.some.inj h2
      obtain rfl := Option.some.inj (show some rr = some _ from hks15)
      have h := hz17
      cases h
      have h := hks16
      cases h
      exact ⟨_, _, fun r a w h => ⟨r, h⟩, _, _, [], _, (.cons (ResV_tmp _ _ rfl) .nil), rfl, rfl, rfl, rfl, rfl⟩
     ·have h := iteF hb14 h
      refine ACode_skip ?_
      cases h
      exact ⟨_, rfl, Weak_keep 0 hm [0, 22, 23] [] _ _ rfl rfl rfl⟩
    rintro E' H' ⟨s15, rfl, hw⟩
    refine ACode_weak hw ?_
    have h := hks15
    refine (ACode_region ?_)
    refine AOps_q 44 _ rfl rfl rfl (QOp_add _ _ _ _ _ _ _ rfl rfl rfl) ?_
    refine AOps_q 23 _ rfl rfl rfl (QOp_move _ _ rfl rfl) ?_
    refine AOps_nil ?_
    exact ⟨k0, _, _, Nat.lt_succ_self _, Weak_keep 0 hm [0, 22, 23] [] _ _ rfl rfl rfl, _, rfl, rfl, h⟩
   ·have h := iteF hb8 h
    refine ACode_exit ?_
    cases h
    exact ⟨_, rfl, Weak_keep 0 hm [] [] _ _ rfl rfl rfl⟩
 rintro E' H' ⟨s16, rfl, hw⟩
 refine ACode_weak hw ?_
 have h := hks16
 refine ACode_seq (ACode_region ?_)
 refine AOps_q 2 _ rfl rfl rfl (QOp_assign _ _ rfl rfl) ?_
 refine AOps_nil ?_
 refine ACode_ret ?_
 cases h
 exact ⟨_, _, fun r a w h => ⟨r, h⟩, _, _, [], _, (.cons (ResV_tmp _ _ rfl) .nil), rfl, rfl, rfl, rfl, rfl⟩

-- (*loop.example/g01362/impl.Colouring).code
def impl_Colouring_code (k : Nat) (p0 : Col) (p1 : Option (Bool)) : Option (Int) :=
 (impl_Colouring_isColouring k p0).bind fun r1 => (if !r1 then some 1 else (p1).bind fun r3 => (if !r3 then some 2 else some 0))
set_option maxRecDepth 100000 in
theorem impl_Colouring_code_ac (k : Nat) (p0 : Col) (p1 : Option (Bool)) (g_p1 : FuncId) (c_p1 : List D) (hg_p1 : ∀ args w, (callFunc g_p1 args).run Try.prog w = .ok (.enter g_p1 args) w) (hf_p1 : ∀ (r : Bool), p1 = some r → AC Try.prog g_p1 ([] ++ c_p1.map AV.d) [] (fun res H' => res = [bV r] ∧ H' = [])) (r : Int) (h : impl_Colouring_code k p0 p1 = some r) : AC Try.prog 83 [.d (.pv (colD p0) 0), .d (.clo g_p1 c_p1)] [] (fun res H' => res = [iV r] ∧ H' = []) := by
 refine AC_of_body true Try.func83 rfl Try.ntmps83 (rvs := [.tmp 4]) rfl rfl (fun G hG => ?_)
 have hm : G.H.length = 0 := by rw [hG]; rfl
 have hz : zeroG G.H = true := by rw [hG]; rfl
 unfold impl_Colouring_code at h
 refine ACode_seq (ACode_region ?_)
 refine AOps_q 4 _ rfl rfl rfl (QOp_assign _ _ rfl rfl) ?_
 refine AOps_nil ?_
 refine ACode_seq ?_
 refine ACode_block ?_
 refine ACode_seq (ACode_region ?_)
 refine AOps_q 6 _ rfl rfl rfl (QOp_move _ _ rfl rfl) ?_
 obtain ⟨r1, hr1, h⟩ := bindO h
 refine AOps_call [] 7 _ _ _ _ _ _ _ _ _ _ rfl rfl rfl rfl rfl rfl rfl Try.call181 rfl (nodupB_sound _ rfl) rfl rfl rfl (impl_Colouring_isColouring_ac k p0 _ hr1) ?_
 rintro _ _ ⟨rfl, rfl⟩
 refine ⟨(fun _ h => nomatch h), (allc (trivial) (fun _ h => nomatch h)), AOps_as 7 (v' := bV r1) (H' := []) rfl rfl ?_⟩
 refine AOps_q 8 _ rfl rfl rfl (QOp_not _ _ _ rfl rfl) ?_
 refine AOps_q 5 _ rfl rfl rfl (QOp_assign _ _ rfl rfl) ?_
 refine AOps_nil ?_
 refine ACode_cond _ rfl (fun hb2 => ?_) (fun hb2 => ?_)
 ·have h := iteT hb2 h
  refine ACode_seq (ACode_region ?_)
  refine AOps_q 4 _ rfl rfl rfl (QOp_assign _ _ rfl rfl) ?_
  refine AOps_nil ?_
  refine ACode_ret ?_
  cases h
  exact ⟨_, _, fun r a w h => ⟨r, h⟩, _, _, [], _, (.cons (ResV_tmp _ _ rfl) .nil), rfl, rfl, rfl, rfl, rfl⟩
 ·have h := iteF hb2 h
  refine ACode_seq (ACode_region ?_)
  refine AOps_q 10 _ rfl rfl rfl (QOp_move _ _ rfl rfl) ?_
  obtain ⟨r3, hr3, h⟩ := bindO h
  refine AOps_call [] 11 _ _ _ _ _ _ _ _ _ _ rfl rfl rfl rfl rfl rfl rfl hg_p1 rfl (nodupB_sound _ rfl) rfl rfl (viewA_mapD _) (hf_p1 _ hr3) ?_
  rintro _ _ ⟨rfl, rfl⟩
  refine ⟨(fun _ h => nomatch h), (allc (trivial) (fun _ h => nomatch h)), AOps_as 11 (v' := bV r3) (H' := []) rfl rfl ?_⟩
  refine AOps_q 12 _ rfl rfl rfl (QOp_not _ _ _ rfl rfl) ?_
  refine AOps_q 9 _ rfl rfl rfl (QOp_assign _ _ rfl rfl) ?_
  refine AOps_nil ?_
  refine ACode_cond _ rfl (fun hb4 => ?_) (fun hb4 => ?_)
  ·have h := iteT hb4 h
   refine ACode_seq (ACode_region ?_)
   refine AOps_q 4 _ rfl rfl rfl (QOp_assign _ _ rfl rfl) ?_
   refine AOps_nil ?_
   refine ACode_ret ?_
   cases h
   exact ⟨_, _, fun r a w h => ⟨r, h⟩, _, _, [], _, (.cons (ResV_tmp _ _ rfl) .nil), rfl, rfl, rfl, rfl, rfl⟩
  ·have h := iteF hb4 h
   refine ACode_skip ?_
   refine ACode_seq (ACode_region ?_)
   refine AOps_q 4 _ rfl rfl rfl (QOp_assign _ _ rfl rfl) ?_
   refine AOps_nil ?_
   refine ACode_ret ?_
   cases h
   exact ⟨_, _, fun r a w h => ⟨r, h⟩, _, _, [], _, (.cons (ResV_tmp _ _ rfl) .nil), rfl, rfl, rfl, rfl, rfl⟩

-- (*loop.example/g01362/impl.Colouring).hasColour
def impl_Colouring_hasColour (p0 : Col) (p1 : Int) : Bool :=
 (impl_in p1 0 (w64 (p0.k - 1)))
set_option maxRecDepth 100000 in
theorem impl_Colouring_hasColour_ac (p0 : Col) (p1 : Int) : AC Try.prog 103 [.d (.pv (colD p0) 0), iV p1] [] (fun res H' => res = [bV (impl_Colouring_hasColour p0 p1)] ∧ H' = []) := by
 refine AC_of_body true Try.func103 rfl Try.ntmps103 (rvs := [.tmp 4]) rfl rfl (fun G hG => ?_)
 have hm : G.H.length = 0 := by rw [hG]; rfl
 have hz : zeroG G.H = true := by rw [hG]; rfl
 obtain ⟨r, h⟩ : ∃ r, impl_Colouring_hasColour p0 p1 = r := ⟨_, rfl⟩
 rw [h]
 unfold impl_Colouring_hasColour at h
 refine ACode_seq (ACode_region ?_)
 refine AOps_q 4 _ rfl rfl rfl (QOp_assign _ _ rfl rfl) ?_
 refine AOps_nil ?_
 refine ACode_seq (ACode_region ?_)
 refine AOps_q 5 _ rfl rfl rfl (QOp_move _ _ rfl rfl) ?_
 refine AOps_q 6 _ rfl rfl rfl (QOp_move _ _ rfl rfl) ?_
 refine AOps_q 7 _ rfl rfl rfl (QOp_nilCheck_pv _ _ _ rfl rfl) ?_
 refine AOps_q 8 _ rfl rfl rfl (QOp_fieldAddr_pv _ _ _ _ _ 1 _ _ rfl Try.underlying29 rfl _ Try.sizeOf2 rfl rfl) ?_
 refine AOps_q 9 _ rfl rfl rfl (QOp_load_pv _ _ _ _ _ rfl Try.isAgg2 rfl rfl) ?_
 refine AOps_q 10 _ rfl rfl rfl (QOp_sub _ _ _ _ _ _ _ rfl rfl rfl) ?_
 refine AOps_call [] 11 _ _ _ _ _ _ _ _ _ _ rfl rfl rfl rfl rfl rfl rfl Try.call99 rfl (nodupB_sound _ rfl) rfl rfl rfl (impl_in_ac p1 0 (w64 (p0.k - 1))) ?_
 rintro _ _ ⟨rfl, rfl⟩
 refine ⟨(fun _ h => nomatch h), (allc (trivial) (fun _ h => nomatch h)), AOps_as 11 (v' := bV (impl_in p1 0 (w64 (p0.k - 1)))) (H' := []) rfl rfl ?_⟩
 refine AOps_q 4 _ rfl rfl rfl (QOp_assign _ _ rfl rfl) ?_
 refine AOps_nil ?_
 refine ACode_ret ?_
 cases h
 exact ⟨_, _, fun r a w h => ⟨r, h⟩, _, _, [], _, (.cons (ResV_tmp _ _ rfl) .nil), rfl, rfl, rfl, rfl, rfl⟩

-- loop.example/g01362/impl.CliqueList$1
def impl_CliqueList_c1 (p0 : Col) (p1 : Int) (p2 : Int) : Bool :=
 letO (if (impl_Colouring_hasColour p0 p1) then (impl_in p2 1 17) else false) fun (s4 : Bool) => s4
set_option maxRecDepth 100000 in
theorem impl_CliqueList_c1_ac (p0 : Col) (p1 : Int) (p2 : Int) : AC Try.prog 102 [.d (.pv (colD p0) 0), .d (.pv ([iD p1]) 0), .d (.pv ([iD p2]) 0)] [] (fun res H' => res = [bV (impl_CliqueList_c1 p0 p1 p2)] ∧ H' = []) := by
 refine AC_of_body true Try.func102 rfl Try.ntmps102 (rvs := [.tmp 3]) rfl rfl (fun G hG => ?_)
 have hm : G.H.length = 0 := by rw [hG]; rfl
 have hz : zeroG G.H = true := by rw [hG]; rfl
 obtain ⟨r, h⟩ : ∃ r, impl_CliqueList_c1 p0 p1 p2 = r := ⟨_, rfl⟩
 rw [h]
 unfold impl_CliqueList_c1 at h
 refine ACode_seq (ACode_region ?_)
 refine AOps_q 3 _ rfl rfl rfl (QOp_assign _ _ rfl rfl) ?_
 refine AOps_nil ?_
 obtain ⟨s4, hss4, hks4⟩ := letS h
 clear h
 refine ACode_seqJ (fun E' H' => Weak 10 G E' H' [(3, bV s4)] []) ?_ ?_
 ·have h := hss4
  clear hss4
  refine (ACode_region ?_)
  refine AOps_q 4 _ rfl rfl rfl (QOp_load_pv _ _ _ _ _ rfl Try.isAgg2 rfl rfl) ?_
  refine AOps_call [] 5 _ _ _ _ _ _ _ _ _ _ rfl rfl rfl rfl rfl rfl rfl Try.call103 rfl (nodupB_sound _ rfl) rfl rfl rfl (impl_Colouring_hasColour_ac p0 p1) ?_
  rintro _ _ ⟨rfl, rfl⟩
  refine ⟨(fun _ h => nomatch h), (allc (trivial) (fun _ h => nomatch h)), AOps_as 5 (v' := bV (impl_Colouring_hasColour p0 p1)) (H' := []) rfl rfl ?_⟩
  refine AOps_q 6 _ rfl rfl rfl (QOp_move _ _ rfl rfl) ?_
  refine AOps_case 6 _ rfl (fun hb2 => ?_) (fun hb2 => ?_)
  ·have h := iteT hb2 h
   refine AOps_q 7 _ rfl rfl rfl (QOp_load_pv _ _ _ _ _ rfl Try.isAgg2 rfl rfl) ?_
   refine AOps_call [] 8 _ _ _ _ _ _ _ _ _ _ rfl rfl rfl rfl rfl rfl rfl Try.call99 rfl (nodupB_sound _ rfl) rfl rfl rfl (impl_in_ac p2 1 17) ?_
   rintro _ _ ⟨rfl, rfl⟩
   refine ⟨(fun _ h => nomatch h), (allc (trivial) (fun _ h => nomatch h)), AOps_as 8 (v' := bV (impl_in p2 1 17)) (H' := []) rfl rfl ?_⟩
   refine AOps_q 9 _ rfl rfl rfl (QOp_pick_t _ _ _ _ rfl rfl rfl) ?_
   refine AOps_q 3 _ rfl rfl rfl (QOp_assign _ _ rfl rfl) ?_
   refine AOps_nil ?_
   cases h
   exact Weak_keep 0 hm [3] [] _ _ rfl rfl rfl
  ·have h := iteF hb2 h
   refine AOps_skip 7 rfl rfl rfl ?_
   refine AOps_skip 8 rfl rfl rfl ?_
   refine AOps_q 9 _ rfl rfl rfl (QOp_pick_f _ _ _ _ rfl rfl rfl) ?_
   refine AOps_q 3 _ rfl rfl rfl (QOp_assign _ _ rfl rfl) ?_
   refine AOps_nil ?_
   cases h
   exact Weak_keep 0 hm [3] [] _ _ rfl rfl rfl
 intro E' H' hw
 refine ACode_weak hw ?_
 have h := hks4
 refine ACode_ret ?_
 cases h
 exact ⟨_, _, fun r a w h => ⟨r, h⟩, _, _, [], _, (.cons (ResV_tmp _ _ rfl) .nil), rfl, rfl, rfl, rfl, rfl⟩

-- (*loop.example/g01362/impl.Colouring).listThat$1
def impl_Colouring_listThat_c1 (p0 : List Int) (p1 : (List Int) → Option (Bool)) (p2 : List (List Int)) : Option (Bool × List (List Int)) :=
 ((p1 p0).bind fun r1 => (if r1 then (if p2.length + ([p0]).length ≤ 1099511627776 then some (p2 ++ ([p0])) else none) else some p2) : Option (List (List Int))).bind fun s4 => some (decide ((s4.length : Int) ≤ 200), s4)
set_option maxRecDepth 100000 in
theorem impl_Colouring_listThat_c1_ac (p0 : List Int) (p1 : (List Int) → Option (Bool)) (p2 : List (List Int)) (g_p1 : FuncId) (c_p1 : List D) (hg_p1 : ∀ args w, (callFunc g_p1 args).run Try.prog w = .ok (.enter g_p1 args) w) (hf_p1 : ∀ (a0 : List Int) (r : Bool), p1 a0 = some r → AC Try.prog g_p1 ([.d (.sl none (intsD a0))] ++ c_p1.map AV.d) [] (fun res H' => res = [bV r] ∧ H' = [])) (r : Bool × List (List Int)) (h : impl_Colouring_listThat_c1 p0 p1 p2 = some r) : AC Try.prog 192 [.d (.sl none (intsD p0)), .d (.pv ([.clo g_p1 c_p1]) 0), .ptr 0 0] [.ref (.vec 1 0), .vec 0 (rowsD p2)] (fun res H' => res = [bV r.1] ∧ H' = [.ref (.vec 1 1), .vec 1 (rowsD r.2)]) := by
 refine AC_of_body true Try.func192 rfl Try.ntmps192 (rvs := [.tmp 4]) rfl rfl (fun G hG => ?_)
 have hm : G.H.length = 2 := by rw [hG]; rfl
 have hz : zeroG G.H = true := by rw [hG]; rfl
 refine ACode_weak (Weak_bump 0 1 _ rfl rfl _ rfl) ?_
 unfold impl_Colouring_listThat_c1 at h
 refine ACode_seq (ACode_region ?_)
 refine AOps_q 4 _ rfl rfl rfl (QOp_assign _ _ rfl rfl) ?_
 refine AOps_nil ?_
 obtain ⟨s4, hss4, hks4⟩ := bindO h
 clear h
 refine ACode_seqJ (fun E' H' => Weak 15 G E' H' [(2, .ptr 0 0)] [.ref (.vec 1 1), .vec 1 (rowsD s4)]) ?_ ?_
 ·have h := hss4
  clear hss4
  refine ACode_seq (ACode_region ?_)
  refine AOps_q 5 _ rfl rfl rfl (QOp_load_pv _ _ _ _ _ rfl Try.isAgg91 rfl rfl) ?_
  refine AOps_q 6 _ rfl rfl rfl (QOp_move _ _ rfl rfl) ?_
  obtain ⟨r1, hr1, h⟩ := bindO h
  refine AOps_call [] 7 _ _ _ _ _ _ _ _ _ _ rfl rfl rfl rfl rfl rfl rfl hg_p1 rfl (nodupB_sound _ rfl) rfl rfl (viewA_mapD _) (hf_p1 p0 _ hr1) ?_
  rintro _ _ ⟨rfl, rfl⟩
  refine ⟨(fun _ h => nomatch h), (allc (trivial) (fun _ h => nomatch h)), AOps_as 7 (v' := bV r1) (H' := [.ref (.vec 1 1), .vec 1 (rowsD p2)]) rfl rfl ?_⟩
  refine AOps_nil ?_
  refine ACode_cond _ rfl (fun hb2 => ?_) (fun hb2 => ?_)
  ·have h := iteT hb2 h
   refine (ACode_region ?_)
   refine AOps_q 8 _ rfl rfl rfl (QOp_load_ref _ _ _ _ rfl Try.isAgg45 rfl rfl) ?_
   refine AOps_q 9 _ rfl rfl rfl (QOp_move _ _ rfl rfl) ?_
   refine AOps_buildSlice 10 _ _ _ [_] (rowsD ([p0])) _ rfl rfl rfl rfl rfl (by decide) Try.underlying45 Try.sizeOf24 (zero_of Try.typeInfo24 rfl) rfl rfl (rowsD_one _) ?_
   obtain ⟨hc3, h⟩ := guardO h
   refine AOps_append 11 _ _ _ _ _ _ _ _ _ _ _ _ rfl rfl rfl rfl rfl rfl rfl Try.underlying45 Try.type24 rfl rfl rfl (by decide) rfl rfl rfl rfl (rowsD_one _) (by rw [rowsD_length, rowsD_length]; exact hc3) ?_
   rw [rowsD_app]
   refine AOps_storeR 0 _ _ _ _ _ rfl rfl rfl rfl rfl rfl rfl rfl Try.sizeOf45 (fun r a w hr => vec_one hr rfl rfl rfl) ?_
   refine AOps_nil ?_
   cases h
   exact Weak_trans (Weak_keep 2 hm [2] [] _ _ rfl rfl rfl) (Weak_reset 2 hm hz [2] _ _ rfl rfl)
  ·have h := iteF hb2 h
   refine ACode_skip ?_
   cases h
   exact Weak_keep 2 hm [2] [] _ _ rfl rfl rfl
 intro E' H' hw
 refine ACode_weak hw ?_
 have h := hks4
 refine ACode_seq (ACode_region ?_)
 refine AOps_q 12 _ rfl rfl rfl (QOp_load_ref _ _ _ _ rfl Try.isAgg45 rfl rfl) ?_
 refine AOps_q 13 _ rfl rfl rfl (QOp_len_vec _ _ _ _ _ _ _ _ (rowsD_length _) rfl rfl rfl rfl Try.underlying45 rfl rfl) ?_
 refine AOps_q 14 _ rfl rfl rfl (QOp_leq _ _ _ _ _ _ _ rfl rfl rfl) ?_
 refine AOps_q 4 _ rfl rfl rfl (QOp_assign _ _ rfl rfl) ?_
 refine AOps_nil ?_
 refine ACode_ret ?_
 cases h
 exact ⟨_, _, fun r a w h => ⟨r, h⟩, _, _, [], _, (.cons (ResV_tmp _ _ rfl) .nil), rfl, rfl, rfl, rfl, rfl⟩

-- slices.IndexFunc[[]int64,int64]
def slices_IndexFunc_l0 (p0 : List Int) (p1 : Int → Option (Bool)) : Nat → Int → Option (Sum (Unit) (Int))
 | 0, _ => none
 | k0 + 1, x1 => (if decide (x1 < (p0.length : Int)) then (if 0 ≤ x1 ∧ x1 < (p0.length : Int) then (p1 (p0.getD x1.toNat 0)).bind fun r4 => (if r4 then some (.inr x1) else slices_IndexFunc_l0 p0 p1 k0 (w64 (x1 + 1))) else none) else some (.inl ()))
def slices_IndexFunc (k : Nat) (p0 : List Int) (p1 : Int → Option (Bool)) : Option (Int) :=
 (slices_IndexFunc_l0 p0 p1 k 0 : Option (Sum (Unit) (Int))).bind fun os6 => (match os6 with | .inl s6 => some (-1) | .inr rr => some rr)
set_option maxRecDepth 100000 in
theorem slices_IndexFunc_ac (k : Nat) (p0 : List Int) (p1 : Int → Option (Bool)) (g_p1 : FuncId) (c_p1 : List D) (hg_p1 : ∀ args w, (callFunc g_p1 args).run Try.prog w = .ok (.enter g_p1 args) w) (hf_p1 : ∀ (a0 : Int) (r : Bool), p1 a0 = some r → AC Try.prog g_p1 ([iV a0] ++ c_p1.map AV.d) [] (fun res H' => res = [bV r] ∧ H' = [])) (r : Int) (h : slices_IndexFunc k p0 p1 = some r) : AC Try.prog 229 [.d (.sl none (intsD p0)), .d (.clo g_p1 c_p1)] [] (fun res H' => res = [iV r] ∧ H' = []) := by
 refine AC_of_body true Try.func229 rfl Try.ntmps229 (rvs := [.tmp 4]) rfl rfl (fun G hG => ?_)
 have hm : G.H.length = 0 := by rw [hG]; rfl
 have hz : zeroG G.H = true := by rw [hG]; rfl
 unfold slices_IndexFunc at h
 refine ACode_seq (ACode_region ?_)
 refine AOps_q 4 _ rfl rfl rfl (QOp_assign _ _ rfl rfl) ?_
 refine AOps_nil ?_
 obtain ⟨os6, hss6, hks6⟩ := bindO h
 clear h
 refine ACode_seqJ (fun E' H' => ∃ s6 : Unit, os6 = .inl s6 ∧ Weak 19 G E' H' [] []) ?_ ?_
 ·have h := hss6
  clear hss6
  refine ACode_seq (ACode_region ?_)
  refine AOps_q 6 _ rfl rfl rfl (QOp_move _ _ rfl rfl) ?_
  refine AOps_q 7 _ rfl rfl rfl (QOp_len_sl _ _ _ _ _ _ _ (intsD_length _) rfl rfl rfl rfl Try.underlying24 rfl) ?_
  refine AOps_q 8 _ rfl rfl rfl (QOp_move _ _ rfl rfl) ?_
  refine AOps_nil ?_
  refine ACode_block ?_
  refine ACode_loopW (fun k0 E H => ∃ (x1 : Int), E = [(0, .d (.sl none (intsD p0))), (1, .d (.clo g_p1 c_p1)), (7, iV (p0.length : Int)), (8, iV x1)] ∧ H = [] ∧ slices_IndexFunc_l0 p0 p1 k0 x1 = some os6) k _ _ (Weak_keep 0 hm [0, 1, 7, 8] [] _ _ rfl rfl rfl) ⟨_, rfl, rfl, h⟩ ?_
  clear h
  rintro k0 E H ⟨x1, rfl, rfl, h⟩
  cases k0 with
  | zero => cases (show (none : Option (Sum (Unit) (Int))) = some _ from h)
  | succ k0 =>
   rw [slices_IndexFunc_l0] at h
   refine ACode_seq (ACode_region ?_)
   refine AOps_q 9 _ rfl rfl rfl (QOp_lss _ _ _ _ _ _ _ rfl rfl rfl) ?_
   refine AOps_nil ?_
   refine ACode_seq ?_
   refine ACode_cond _ rfl (fun hb2 => ?_) (fun hb2 => ?_)
   ·have h := iteT hb2 h
    refine ACode_skip ?_
    refine ACode_seq ?_
    refine ACode_block ?_
    refine ACode_seq (ACode_region ?_)
    refine AOps_q 10 _ rfl rfl rfl (QOp_move _ _ rfl rfl) ?_
    refine AOps_q 5 _ rfl rfl rfl (QOp_assign _ _ rfl rfl) ?_
    refine AOps_nil ?_
    refine ACode_seq (ACode_region ?_)
    refine AOps_q 11 _ rfl rfl rfl (QOp_move _ _ rfl rfl) ?_
    refine AOps_q 12 _ rfl rfl rfl (QOp_move _ _ rfl rfl) ?_
    refine AOps_q 13 _ rfl rfl rfl (QOp_move _ _ rfl rfl) ?_
    obtain ⟨hc3, h⟩ := guardO h
    refine AOps_q 14 _ rfl rfl rfl (QOp_indexAddr_sl _ _ _ _ _ _ _ _ rfl Try.underlying24 Try.sizeOf2 hc3.1 (by rw [intsD_length]; exact hc3.2) rfl rfl) ?_
    refine AOps_q 15 _ rfl rfl rfl (QOp_load_pv _ _ _ _ _ rfl Try.isAgg2 rfl (intsD_get _ _ 0 (by omega))) ?_
    obtain ⟨r4, hr4, h⟩ := bindO h
    refine AOps_call [] 16 _ _ _ _ _ _ _ _ _ _ rfl rfl rfl rfl rfl rfl rfl hg_p1 rfl (nodupB_sound _ rfl) rfl rfl (viewA_mapD _) (hf_p1 (p0.getD x1.toNat 0) _ hr4) ?_
    rintro _ _ ⟨rfl, rfl⟩
    refine ⟨(fun _ h => nomatch h), (allc (trivial) (fun _ h => nomatch h)), AOps_as 16 (v' := bV r4) (H' := []) rfl rfl ?_⟩
    refine AOps_nil ?_
    refine ACode_cond _ rfl (fun hb5 => ?_) (fun hb5 => ?_)
    ·have h := iteT hb5 h
     refine ACode_seq (ACode_region ?_)
     refine AOps_q 17 _ rfl rfl rfl (QOp_move _ _ rfl rfl) ?_
     refine AOps_q 4 _ rfl rfl rfl (QOp_assign _ _ rfl rfl) ?_
     refine AOps_nil ?_
     refine ACode_ret ?_
     cases h
     have h := hks6
     cases h
     exact ⟨_, _, fun r a w h => ⟨r, h⟩, _, _, [], _, (.cons (ResV_tmp _ _ rfl) .nil), rfl, rfl, rfl, rfl, rfl⟩
    ·have h := iteF hb5 h
     refine ACode_skip ?_
     refine (ACode_region ?_)
     refine AOps_q 18 _ rfl rfl rfl (QOp_add _ _ _ _ _ _ _ rfl rfl rfl) ?_
     refine AOps_q 8 _ rfl rfl rfl (QOp_move _ _ rfl rfl) ?_
     refine AOps_nil ?_
     exact ⟨k0, _, _, Nat.lt_succ_self _, Weak_keep 0 hm [0, 1, 7, 8] [] _ _ rfl rfl rfl, _, rfl, rfl, h⟩
   ·have h := iteF hb2 h
    refine ACode_exit ?_
    cases h
    exact ⟨_, rfl, Weak_keep 0 hm [] [] _ _ rfl rfl rfl⟩
 rintro E' H' ⟨s6, rfl, hw⟩
 refine ACode_weak hw ?_
 have h := hks6
 refine ACode_seq (ACode_region ?_)
 refine AOps_q 4 _ rfl rfl rfl (QOp_assign _ _ rfl rfl) ?_
 refine AOps_nil ?_
 refine ACode_ret ?_
 cases h
 exact ⟨_, _, fun r a w h => ⟨r, h⟩, _, _, [], _, (.cons (ResV_tmp _ _ rfl) .nil), rfl, rfl, rfl, rfl, rfl⟩

-- slices.ContainsFunc[[]int64,int64]
def slices_ContainsFunc (k : Nat) (p0 : List Int) (p1 : Int → Option (Bool)) : Option (Bool) :=
 (slices_IndexFunc k p0 p1).bind fun r1 => some (decide (0 ≤ r1))
set_option maxRecDepth 100000 in
theorem slices_ContainsFunc_ac (k : Nat) (p0 : List Int) (p1 : Int → Option (Bool)) (g_p1 : FuncId) (c_p1 : List D) (hg_p1 : ∀ args w, (callFunc g_p1 args).run Try.prog w = .ok (.enter g_p1 args) w) (hf_p1 : ∀ (a0 : Int) (r : Bool), p1 a0 = some r → AC Try.prog g_p1 ([iV a0] ++ c_p1.map AV.d) [] (fun res H' => res = [bV r] ∧ H' = [])) (r : Bool) (h : slices_ContainsFunc k p0 p1 = some r) : AC Try.prog 198 [.d (.sl none (intsD p0)), .d (.clo g_p1 c_p1)] [] (fun res H' => res = [bV r] ∧ H' = []) := by
 refine AC_of_body true Try.func198 rfl Try.ntmps198 (rvs := [.tmp 4]) rfl rfl (fun G hG => ?_)
 have hm : G.H.length = 0 := by rw [hG]; rfl
 have hz : zeroG G.H = true := by rw [hG]; rfl
 unfold slices_ContainsFunc at h
 refine ACode_seq (ACode_region ?_)
 refine AOps_q 4 _ rfl rfl rfl (QOp_assign _ _ rfl rfl) ?_
 refine AOps_nil ?_
 refine ACode_seq (ACode_region ?_)
 refine AOps_q 5 _ rfl rfl rfl (QOp_move _ _ rfl rfl) ?_
 refine AOps_q 6 _ rfl rfl rfl (QOp_move _ _ rfl rfl) ?_
 obtain ⟨r1, hr1, h⟩ := bindO h
 refine AOps_call [] 7 _ _ _ _ _ _ _ _ _ _ rfl rfl rfl rfl rfl rfl rfl Try.call229 rfl (nodupB_sound _ rfl) rfl rfl rfl (slices_IndexFunc_ac k p0 p1 g_p1 c_p1 hg_p1 hf_p1 _ hr1) ?_
 rintro _ _ ⟨rfl, rfl⟩
 refine ⟨(fun _ h => nomatch h), (allc (trivial) (fun _ h => nomatch h)), AOps_as 7 (v' := iV r1) (H' := []) rfl rfl ?_⟩
 refine AOps_q 8 _ rfl rfl rfl (QOp_geq _ _ _ _ _ _ _ rfl rfl rfl) ?_
 refine AOps_q 4 _ rfl rfl rfl (QOp_assign _ _ rfl rfl) ?_
 refine AOps_nil ?_
 refine ACode_ret ?_
 cases h
 exact ⟨_, _, fun r a w h => ⟨r, h⟩, _, _, [], _, (.cons (ResV_tmp _ _ rfl) .nil), rfl, rfl, rfl, rfl, rfl⟩

-- loop.example/g01362/impl.number
def impl_number (p0 : Int) (p1 : Int) : Int :=
 w64 ((w64 ((w64 ((if p0 < p1 then p1 else p0) * (w64 ((if p0 < p1 then p1 else p0) - 1)))).tdiv 2)) + (if p1 < p0 then p1 else p0))
set_option maxRecDepth 100000 in
theorem impl_number_ac (p0 : Int) (p1 : Int) : AC Try.prog 182 [iV p0, iV p1] [] (fun res H' => res = [iV (impl_number p0 p1)] ∧ H' = []) := by
 refine AC_of_body true Try.func182 rfl Try.ntmps182 (rvs := [.tmp 4]) rfl rfl (fun G hG => ?_)
 have hm : G.H.length = 0 := by rw [hG]; rfl
 have hz : zeroG G.H = true := by rw [hG]; rfl
 obtain ⟨r, h⟩ : ∃ r, impl_number p0 p1 = r := ⟨_, rfl⟩
 rw [h]
 unfold impl_number at h
 refine ACode_seq (ACode_region ?_)
 refine AOps_q 4 _ rfl rfl rfl (QOp_assign _ _ rfl rfl) ?_
 refine AOps_nil ?_
 refine ACode_seq (ACode_region ?_)
 refine AOps_q 5 _ rfl rfl rfl (QOp_move _ _ rfl rfl) ?_
 refine AOps_q 6 _ rfl rfl rfl (QOp_move _ _ rfl rfl) ?_
 refine AOps_q 7 _ rfl rfl rfl (QOp_min _ _ _ _ _ _ rfl rfl rfl rfl rfl) ?_
 refine AOps_q 8 _ rfl rfl rfl (QOp_move _ _ rfl rfl) ?_
 refine AOps_q 9 _ rfl rfl rfl (QOp_move _ _ rfl rfl) ?_
 refine AOps_q 10 _ rfl rfl rfl (QOp_max _ _ _ _ _ _ rfl rfl rfl rfl rfl) ?_
 refine AOps_q 0 _ rfl rfl rfl (QOp_assign _ _ rfl rfl) ?_
 refine AOps_q 1 _ rfl rfl rfl (QOp_assign _ _ rfl rfl) ?_
 refine AOps_nil ?_
 refine ACode_seq (ACode_region ?_)
 refine AOps_q 11 _ rfl rfl rfl (QOp_move _ _ rfl rfl) ?_
 refine AOps_q 12 _ rfl rfl rfl (QOp_move _ _ rfl rfl) ?_
 refine AOps_q 13 _ rfl rfl rfl (QOp_sub _ _ _ _ _ _ _ rfl rfl rfl) ?_
 refine AOps_q 14 _ rfl rfl rfl (QOp_mul _ _ _ _ _ _ _ rfl rfl rfl) ?_
 refine AOps_q 15 _ rfl rfl rfl (QOp_quo _ _ _ _ _ _ _ (by decide) rfl rfl rfl) ?_
 refine AOps_q 16 _ rfl rfl rfl (QOp_move _ _ rfl rfl) ?_
 refine AOps_q 17 _ rfl rfl rfl (QOp_add _ _ _ _ _ _ _ rfl rfl rfl) ?_
 refine AOps_q 4 _ rfl rfl rfl (QOp_assign _ _ rfl rfl) ?_
 refine AOps_nil ?_
 refine ACode_ret ?_
 cases h
 exact ⟨_, _, fun r a w h => ⟨r, h⟩, _, _, [], _, (.cons (ResV_tmp _ _ rfl) .nil), rfl, rfl, rfl, rfl, rfl⟩

-- (*loop.example/g01362/impl.Colouring).at
def impl_Colouring_at (p0 : Col) (p1 : Int) (p2 : Int) : Option (Int) :=
 (if 0 ≤ (impl_number p1 p2) ∧ (impl_number p1 p2) < 136 then some ((p0.get ((impl_number p1 p2).toNat)).toNat : Int) else none)
set_option maxRecDepth 100000 in
theorem impl_Colouring_at_ac (p0 : Col) (p1 : Int) (p2 : Int) (r : Int) (h : impl_Colouring_at p0 p1 p2 = some r) : AC Try.prog 85 [.d (.pv (colD p0) 0), iV p1, iV p2] [] (fun res H' => res = [iV r] ∧ H' = []) := by
 refine AC_of_body true Try.func85 rfl Try.ntmps85 (rvs := [.tmp 6]) rfl rfl (fun G hG => ?_)
 have hm : G.H.length = 0 := by rw [hG]; rfl
 have hz : zeroG G.H = true := by rw [hG]; rfl
 unfold impl_Colouring_at at h
 refine ACode_seq (ACode_region ?_)
 refine AOps_q 6 _ rfl rfl rfl (QOp_assign _ _ rfl rfl) ?_
 refine AOps_nil ?_
 refine ACode_seq (ACode_quiet mixed (by kernel_rfl) ?_)
 refine AQ_q 7 _ rfl rfl rfl (QOp_move _ _ rfl rfl) ?_
 refine AQ_q 8 _ rfl rfl rfl (QOp_move _ _ rfl rfl) ?_
 refine AQ_q 9 _ rfl rfl rfl (QOp_move _ _ rfl rfl) ?_
 refine AQ_call 10 _ _ _ _ _ _ _ _ _ rfl rfl rfl rfl rfl rfl rfl Try.call182 rfl rfl rfl (impl_number_ac p1 p2) ?_
 refine AQ_q 11 _ rfl rfl rfl (QOp_nilCheck_pv _ _ _ rfl rfl) ?_
 refine AQ_q 12 _ rfl rfl rfl (QOp_fieldAddr_pv _ _ _ _ _ 2 _ _ rfl Try.underlying29 rfl _ Try.sizeOf27 rfl rfl) ?_
 obtain ⟨hc2, h⟩ := guardO h
 refine AQ_q 13 _ rfl rfl rfl (QOp_indexAddrA_pv _ _ _ _ _ _ _ _ _ rfl Try.underlying27 Try.sizeOf5 hc2.1 hc2.2 rfl rfl) ?_
 refine AQ_q 14 _ rfl rfl rfl (QOp_load_pv _ _ _ _ _ rfl Try.isAgg5 rfl (colD_get _ _ (by omega))) ?_
 refine AQ_q 15 _ rfl rfl rfl (QOp_fromByte _ _ _ _ _ rfl rfl Try.underlying2 wrap_i64_byte rfl) ?_
 refine AQ_q 6 _ rfl rfl rfl (QOp_assign _ _ rfl rfl) ?_
 refine AQ_nil ?_
 refine ACode_ret ?_
 cases h
 exact ⟨_, _, fun r a w h => ⟨r, h⟩, _, _, [], _, (.cons (ResV_tmp _ _ rfl) .nil), rfl, rfl, rfl, rfl, rfl⟩

-- (*loop.example/g01362/impl.Colouring).joins
def impl_Colouring_joins (p0 : Col) (p1 : Int) (p2 : Int) (p3 : Int) : Option (Bool) :=
 ((if !decide (p1 = p2) then (impl_Colouring_at p0 p1 p2).bind fun r2 => some (decide (r2 = p3)) else some false) : Option (Bool)).bind fun s3 => some s3
set_option maxRecDepth 100000 in
theorem impl_Colouring_joins_ac (p0 : Col) (p1 : Int) (p2 : Int) (p3 : Int) (r : Bool) (h : impl_Colouring_joins p0 p1 p2 p3 = some r) : AC Try.prog 200 [.d (.pv (colD p0) 0), iV p1, iV p2, iV p3] [] (fun res H' => res = [bV r] ∧ H' = []) := by
 refine AC_of_body true Try.func200 rfl Try.ntmps200 (rvs := [.tmp 8]) rfl rfl (fun G hG => ?_)
 have hm : G.H.length = 0 := by rw [hG]; rfl
 have hz : zeroG G.H = true := by rw [hG]; rfl
 unfold impl_Colouring_joins at h
 refine ACode_seq (ACode_region ?_)
 refine AOps_q 8 _ rfl rfl rfl (QOp_assign _ _ rfl rfl) ?_
 refine AOps_nil ?_
 obtain ⟨s3, hss3, hks3⟩ := bindO h
 clear h
 refine ACode_seqJ (fun E' H' => Weak 20 G E' H' [(8, bV s3)] []) ?_ ?_
 ·have h := hss3
  clear hss3
  refine (ACode_region ?_)
  refine AOps_q 9 _ rfl rfl rfl (QOp_move _ _ rfl rfl) ?_
  refine AOps_q 10 _ rfl rfl rfl (QOp_move _ _ rfl rfl) ?_
  refine AOps_q 11 _ rfl rfl rfl (QOp_neq _ _ _ _ _ _ _ rfl rfl rfl) ?_
  refine AOps_q 12 _ rfl rfl rfl (QOp_move _ _ rfl rfl) ?_
  refine AOps_case 12 _ rfl (fun hb1 => ?_) (fun hb1 => ?_)
  ·have h := iteT hb1 h
   refine AOps_q 13 _ rfl rfl rfl (QOp_move _ _ rfl rfl) ?_
   refine AOps_q 14 _ rfl rfl rfl (QOp_move _ _ rfl rfl) ?_
   refine AOps_q 15 _ rfl rfl rfl (QOp_move _ _ rfl rfl) ?_
   obtain ⟨r2, hr2, h⟩ := bindO h
   refine AOps_call [] 16 _ _ _ _ _ _ _ _ _ _ rfl rfl rfl rfl rfl rfl rfl Try.call85 rfl (nodupB_sound _ rfl) rfl rfl rfl (impl_Colouring_at_ac p0 p1 p2 _ hr2) ?_
   rintro _ _ ⟨rfl, rfl⟩
   refine ⟨(fun _ h => nomatch h), (allc (trivial) (fun _ h => nomatch h)), AOps_as 16 (v' := iV r2) (H' := []) rfl rfl ?_⟩
   refine AOps_q 17 _ rfl rfl rfl (QOp_move _ _ rfl rfl) ?_
   refine AOps_q 18 _ rfl rfl rfl (QOp_eql _ _ _ _ _ _ _ rfl rfl rfl) ?_
   refine AOps_q 19 _ rfl rfl rfl (QOp_pick_t _ _ _ _ rfl rfl rfl) ?_
   refine AOps_q 8 _ rfl rfl rfl (QOp_assign _ _ rfl rfl) ?_
   refine AOps_nil ?_
   cases h
   exact Weak_keep 0 hm [8] [] _ _ rfl rfl rfl
  ·have h := iteF hb1 h
   refine AOps_skip 13 rfl rfl rfl ?_
   refine AOps_skip 14 rfl rfl rfl ?_
   refine AOps_skip 15 rfl rfl rfl ?_
   refine AOps_skip 16 rfl rfl rfl ?_
   refine AOps_skip 17 rfl rfl rfl ?_
   refine AOps_skip 18 rfl rfl rfl ?_
   refine AOps_q 19 _ rfl rfl rfl (QOp_pick_f _ _ _ _ rfl rfl rfl) ?_
   refine AOps_q 8 _ rfl rfl rfl (QOp_assign _ _ rfl rfl) ?_
   refine AOps_nil ?_
   cases h
   exact Weak_keep 0 hm [8] [] _ _ rfl rfl rfl
 intro E' H' hw
 refine ACode_weak hw ?_
 have h := hks3
 refine ACode_ret ?_
 cases h
 exact ⟨_, _, fun r a w h => ⟨r, h⟩, _, _, [], _, (.cons (ResV_tmp _ _ rfl) .nil), rfl, rfl, rfl, rfl, rfl⟩

-- (*loop.example/g01362/impl.Colouring).goesWith$1
def impl_Colouring_goesWith_c1 (p0 : Int) (p1 : Col) (p2 : Int) (p3 : Int) : Option (Bool) :=
 (impl_Colouring_joins p1 p0 p2 p3).bind fun r1 => some (!r1)
set_option maxRecDepth 100000 in
theorem impl_Colouring_goesWith_c1_ac (p0 : Int) (p1 : Col) (p2 : Int) (p3 : Int) (r : Bool) (h : impl_Colouring_goesWith_c1 p0 p1 p2 p3 = some r) : AC Try.prog 199 [iV p0, .d (.pv ([.pv (colD p1) 0]) 0), .d (.pv ([iD p2]) 0), .d (.pv ([iD p3]) 0)] [] (fun res H' => res = [bV r] ∧ H' = []) := by
 refine AC_of_body true Try.func199 rfl Try.ntmps199 (rvs := [.tmp 5]) rfl rfl (fun G hG => ?_)
 have hm : G.H.length = 0 := by rw [hG]; rfl
 have hz : zeroG G.H = true := by rw [hG]; rfl
 unfold impl_Colouring_goesWith_c1 at h
 refine ACode_seq (ACode_region ?_)
 refine AOps_q 5 _ rfl rfl rfl (QOp_assign _ _ rfl rfl) ?_
 refine AOps_nil ?_
 refine ACode_seq (ACode_region ?_)
 refine AOps_q 6 _ rfl rfl rfl (QOp_load_pv _ _ _ _ _ rfl Try.isAgg143 rfl rfl) ?_
 refine AOps_q 7 _ rfl rfl rfl (QOp_move _ _ rfl rfl) ?_
 refine AOps_q 8 _ rfl rfl rfl (QOp_load_pv _ _ _ _ _ rfl Try.isAgg2 rfl rfl) ?_
 refine AOps_q 9 _ rfl rfl rfl (QOp_load_pv _ _ _ _ _ rfl Try.isAgg2 rfl rfl) ?_
 obtain ⟨r1, hr1, h⟩ := bindO h
 refine AOps_call [] 10 _ _ _ _ _ _ _ _ _ _ rfl rfl rfl rfl rfl rfl rfl Try.call200 rfl (nodupB_sound _ rfl) rfl rfl rfl (impl_Colouring_joins_ac p1 p0 p2 p3 _ hr1) ?_
 rintro _ _ ⟨rfl, rfl⟩
 refine ⟨(fun _ h => nomatch h), (allc (trivial) (fun _ h => nomatch h)), AOps_as 10 (v' := bV r1) (H' := []) rfl rfl ?_⟩
 refine AOps_q 11 _ rfl rfl rfl (QOp_not _ _ _ rfl rfl) ?_
 refine AOps_q 5 _ rfl rfl rfl (QOp_assign _ _ rfl rfl) ?_
 refine AOps_nil ?_
 refine ACode_ret ?_
 cases h
 exact ⟨_, _, fun r a w h => ⟨r, h⟩, _, _, [], _, (.cons (ResV_tmp _ _ rfl) .nil), rfl, rfl, rfl, rfl, rfl⟩

-- (*loop.example/g01362/impl.Colouring).goesWith
def impl_Colouring_goesWith (k : Nat) (p0 : Col) (p1 : Int) (p2 : List Int) (p3 : Int) : Option (Bool) :=
 (slices_ContainsFunc k p2 (fun a0 => impl_Colouring_goesWith_c1 a0 p0 p3 p1)).bind fun r1 => some (!r1)
set_option maxRecDepth 100000 in
theorem impl_Colouring_goesWith_ac (k : Nat) (p0 : Col) (p1 : Int) (p2 : List Int) (p3 : Int) (r : Bool) (h : impl_Colouring_goesWith k p0 p1 p2 p3 = some r) : AC Try.prog 138 [.d (.pv (colD p0) 0), iV p1, .d (.sl none (intsD p2)), iV p3] [] (fun res H' => res = [bV r] ∧ H' = []) := by
 refine AC_of_body true Try.func138 rfl Try.ntmps138 (rvs := [.tmp 8]) rfl rfl (fun G hG => ?_)
 have hm : G.H.length = 0 := by rw [hG]; rfl
 have hz : zeroG G.H = true := by rw [hG]; rfl
 unfold impl_Colouring_goesWith at h
 refine ACode_seq (ACode_region ?_)
 refine AOps_boxI 4 _ _ (.pv (colD p0) 0) _ rfl (fun c hc => by cases hc with | head => rfl | tail _ h => cases h) rfl rfl rfl rfl rfl ?_
 refine AOps_boxI 5 _ _ (iD p1) _ rfl (fun c hc => by cases hc with | head => rfl | tail _ h => cases h) rfl rfl rfl rfl rfl ?_
 refine AOps_boxI 7 _ _ (iD p3) _ rfl (fun c hc => by cases hc with | head => rfl | tail _ h => cases h) rfl rfl rfl rfl rfl ?_
 refine AOps_q 8 _ rfl rfl rfl (QOp_assign _ _ rfl rfl) ?_
 refine AOps_nil ?_
 refine ACode_seq (ACode_region ?_)
 refine AOps_q 9 _ rfl rfl rfl (QOp_move _ _ rfl rfl) ?_
 refine AOps_q 10 _ rfl rfl rfl (QOp_makeFuncD _ _ _ _ rfl rfl rfl) ?_
 obtain ⟨r1, hr1, h⟩ := bindO h
 refine AOps_call [] 11 _ _ _ _ _ _ _ _ _ _ rfl rfl rfl rfl rfl rfl rfl Try.call198 rfl (nodupB_sound _ rfl) rfl rfl rfl (slices_ContainsFunc_ac k p2 (fun a0 => impl_Colouring_goesWith_c1 a0 p0 p3 p1) 199 ([.pv ([.pv (colD p0) 0]) 0, .pv ([iD p3]) 0, .pv ([iD p1]) 0]) Try.call199 (fun a0 r h => impl_Colouring_goesWith_c1_ac a0 p0 p3 p1 r h) _ hr1) ?_
 rintro _ _ ⟨rfl, rfl⟩
 refine ⟨(fun _ h => nomatch h), (allc (trivial) (fun _ h => nomatch h)), AOps_as 11 (v' := bV r1) (H' := []) rfl rfl ?_⟩
 refine AOps_q 12 _ rfl rfl rfl (QOp_not _ _ _ rfl rfl) ?_
 refine AOps_q 8 _ rfl rfl rfl (QOp_assign _ _ rfl rfl) ?_
 refine AOps_nil ?_
 refine ACode_ret ?_
 cases h
 exact ⟨_, _, fun r a w h => ⟨r, h⟩, _, _, [], _, (.cons (ResV_tmp _ _ rfl) .nil), rfl, rfl, rfl, rfl, rfl⟩

-- (*loop.example/g01362/impl.Colouring).cliques
def impl_Colouring_cliques_on_listThat_c1_l0 (k : Nat) (self : Col → Int → (List Int) → ((List Int) → Option (Bool)) → (List (List Int)) → Option (Bool × List (List Int))) (p0 : Col) (p1 : Int) (p2 : List Int) (p3_0 : (List Int) → Option (Bool)) : Nat → Int → (List (List Int)) → Option (Sum (List (List Int)) (Bool × List (List Int)))
 | 0, _, _ => none
 | k0 + 1, x6, x7 => (if decide (x6 < p0.p) then (((impl_Colouring_goesWith k p0 p1 p2 x6).bind fun r9 => (if r9 then (if p2.isEmpty then (if ([x6]).length ≤ 1099511627776 ∧ ([x6]).length ≠ 0 then (self p0 p1 ([x6]) p3_0 x7).bind fun r14 => some (!r14.1, r14.2) else none) else (cloneA p2).bind fun r15 => (if r15.length + ([x6]).length ≤ 1099511627776 then (self p0 p1 (r15 ++ ([x6])) p3_0 x7).bind fun r17 => some (!r17.1, r17.2) else none)) else some (false, x7)) : Option (Bool × List (List Int))).bind fun s18 => (if s18.1 then (some (.inr (false, s18.2))).bind fun rr => some (.inr rr) else some (.inl s18.2)) : Option (Sum (List (List Int)) (Sum (List (List Int)) (Bool × List (List Int))))).bind fun os20 => (match os20 with | .inl s20 => impl_Colouring_cliques_on_listThat_c1_l0 k self p0 p1 p2 p3_0 k0 (w64 (x6 + 1)) s20 | .inr rr => some rr) else some (.inl x7))
def impl_Colouring_cliques_on_listThat_c1_body (self : Col → Int → (List Int) → ((List Int) → Option (Bool)) → (List (List Int)) → Option (Bool × List (List Int))) (k : Nat) (p0 : Col) (p1 : Int) (p2 : List Int) (p3_0 : (List Int) → Option (Bool)) (p3_1 : List (List Int)) : Option (Bool × List (List Int)) :=
 (impl_Colouring_listThat_c1 p2 p3_0 p3_1).bind fun r1 => (if !r1.1 then some (false, r1.2) else ((if decide (0 < (p2.length : Int)) then (if 0 ≤ w64 ((p2.length : Int) - 1) ∧ w64 ((p2.length : Int) - 1) < (p2.length : Int) then some (w64 ((p2.getD (w64 ((p2.length : Int) - 1)).toNat 0) + 1)) else none) else some 0) : Option (Int)).bind fun s5 => (impl_Colouring_cliques_on_listThat_c1_l0 k self p0 p1 p2 p3_0 k s5 r1.2 : Option (Sum (List (List Int)) (Bool × List (List Int)))).bind fun os21 => (match os21 with | .inl s21 => some (true, s21) | .inr rr => some rr))
def impl_Colouring_cliques_on_listThat_c1 : Nat → Col → Int → (List Int) → ((List Int) → Option (Bool)) → (List (List Int)) → Option (Bool × List (List Int))
 | 0, _, _, _, _, _ => none
 | k + 1, p0, p1, p2, p3_0, p3_1 => impl_Colouring_cliques_on_listThat_c1_body (impl_Colouring_cliques_on_listThat_c1 k) k p0 p1 p2 p3_0 p3_1
set_option maxRecDepth 100000 in
theorem impl_Colouring_cliques_on_listThat_c1_ac (k : Nat) (p0 : Col) (p1 : Int) (p2 : List Int) (p3_0 : (List Int) → Option (Bool)) (p3_1 : List (List Int)) (g_p3_0 : FuncId) (c_p3_0 : List D) (hg_p3_0 : ∀ args w, (callFunc g_p3_0 args).run Try.prog w = .ok (.enter g_p3_0 args) w) (hf_p3_0 : ∀ (a0 : List Int) (r : Bool), p3_0 a0 = some r → AC Try.prog g_p3_0 ([.d (.sl none (intsD a0))] ++ c_p3_0.map AV.d) [] (fun res H' => res = [bV r] ∧ H' = [])) (r : Bool × List (List Int)) (h : impl_Colouring_cliques_on_listThat_c1 k p0 p1 p2 p3_0 p3_1 = some r) : AC Try.prog 191 [.d (.pv (colD p0) 0), iV p1, .d (.sl none (intsD p2)), .clo 192 [.d (.pv ([.clo g_p3_0 c_p3_0]) 0), .ptr 0 0]] [.ref (.vec 1 0), .vec 0 (rowsD p3_1)] (fun res H' => res = [bV r.1] ∧ H' = [.ref (.vec 1 1), .vec 1 (rowsD r.2)]) := by
 induction k generalizing p0 p1 p2 p3_1 r with
 | zero => simp [impl_Colouring_cliques_on_listThat_c1] at h
 | succ k ih =>
  rw [impl_Colouring_cliques_on_listThat_c1] at h
  obtain ⟨self, hself, hk⟩ : ∃ self : Col → Int → (List Int) → ((List Int) → Option (Bool)) → (List (List Int)) → Option (Bool × List (List Int)), (∀ (p0 : Col) (p1 : Int) (p2 : List Int) (p3_1 : List (List Int)) (r : Bool × List (List Int)), self p0 p1 p2 p3_0 p3_1 = some r → AC Try.prog 191 [.d (.pv (colD p0) 0), iV p1, .d (.sl none (intsD p2)), .clo 192 [.d (.pv ([.clo g_p3_0 c_p3_0]) 0), .ptr 0 0]] [.ref (.vec 1 0), .vec 0 (rowsD p3_1)] (fun res H' => res = [bV r.1] ∧ H' = [.ref (.vec 1 1), .vec 1 (rowsD r.2)])) ∧ impl_Colouring_cliques_on_listThat_c1 k = self := ⟨impl_Colouring_cliques_on_listThat_c1 k, fun p0 p1 p2 p3_1 r h => ih p0 p1 p2 p3_1 r h, rfl⟩
  rw [hk] at h
  clear ih hk
  refine AC_of_body true Try.func191 rfl Try.ntmps191 (rvs := [.tmp 8]) rfl rfl (fun G hG => ?_)
  have hm : G.H.length = 2 := by rw [hG]; rfl
  have hz : zeroG G.H = true := by rw [hG]; rfl
  refine ACode_weak (Weak_bump 0 1 _ rfl rfl _ rfl) ?_
  unfold impl_Colouring_cliques_on_listThat_c1_body at h
  refine ACode_seq (ACode_region ?_)
  refine AOps_q 8 _ rfl rfl rfl (QOp_assign _ _ rfl rfl) ?_
  refine AOps_nil ?_
  refine ACode_seq ?_
  refine ACode_seq (ACode_region ?_)
  refine AOps_q 11 _ rfl rfl rfl (QOp_move _ _ rfl rfl) ?_
  refine AOps_q 12 _ rfl rfl rfl (QOp_move _ _ rfl rfl) ?_
  obtain ⟨r1, hr1, h⟩ := bindO h
  refine AOps_call [0, 1] 13 _ _ _ _ _ _ _ _ _ _ rfl rfl rfl rfl rfl rfl rfl Try.call192 rfl (nodupB_sound _ rfl) rfl rfl rfl (impl_Colouring_listThat_c1_ac p2 p3_0 p3_1 g_p3_0 c_p3_0 hg_p3_0 hf_p3_0 _ hr1) ?_
  rintro _ _ ⟨rfl, rfl⟩
  refine ⟨(allc (trivial) (allc (fun _ _ => trivial) (fun _ h => nomatch h))), (allc (trivial) (fun _ h => nomatch h)), AOps_as 13 (v' := bV r1.1) (H' := [.ref (.vec 1 2), .vec 2 (rowsD r1.2)]) rfl rfl ?_⟩
  refine AOps_q 14 _ rfl rfl rfl (QOp_not _ _ _ rfl rfl) ?_
  refine AOps_nil ?_
  refine ACode_cond _ rfl (fun hb2 => ?_) (fun hb2 => ?_)
  ·have h := iteT hb2 h
   refine ACode_seq (ACode_region ?_)
   refine AOps_q 8 _ rfl rfl rfl (QOp_assign _ _ rfl rfl) ?_
   refine AOps_nil ?_
   refine ACode_ret ?_
   cases h
   exact ⟨_, _, Weak_reset 2 hm hz [8] _ _ rfl rfl, _, _, [], _, (.cons (ResV_tmp _ _ rfl) .nil), rfl, rfl, rfl, rfl, rfl⟩
  ·have h := iteF hb2 h
   refine ACode_skip ?_
   refine ACode_seq (ACode_region ?_)
   refine AOps_q 9 _ rfl rfl rfl (QOp_assign _ _ rfl rfl) ?_
   refine AOps_nil ?_
   obtain ⟨s5, hss5, hks5⟩ := bindO h
   clear h
   refine ACode_seqJ (fun E' H' => Weak 51 G E' H' [(0, .d (.pv (colD p0) 0)), (1, iV p1), (2, .d (.sl none (intsD p2))), (3, .clo 192 [.d (.pv ([.clo g_p3_0 c_p3_0]) 0), .ptr 0 0]), (9, iV s5)] [.ref (.vec 1 1), .vec 1 (rowsD r1.2)]) ?_ ?_
   ·have h := hss5
    clear hss5
    refine ACode_seq (ACode_region ?_)
    refine AOps_q 15 _ rfl rfl rfl (QOp_move _ _ rfl rfl) ?_
    refine AOps_q 16 _ rfl rfl rfl (QOp_len_sl _ _ _ _ _ _ _ (intsD_length _) rfl rfl rfl rfl Try.underlying24 rfl) ?_
    refine AOps_q 17 _ rfl rfl rfl (QOp_gtr _ _ _ _ _ _ _ rfl rfl rfl) ?_
    refine AOps_nil ?_
    refine ACode_cond _ rfl (fun hb3 => ?_) (fun hb3 => ?_)
    ·have h := iteT hb3 h
     refine (ACode_region ?_)
     refine AOps_q 18 _ rfl rfl rfl (QOp_move _ _ rfl rfl) ?_
     refine AOps_q 19 _ rfl rfl rfl (QOp_move _ _ rfl rfl) ?_
     refine AOps_q 20 _ rfl rfl rfl (QOp_len_sl _ _ _ _ _ _ _ (intsD_length _) rfl rfl rfl rfl Try.underlying24 rfl) ?_
     refine AOps_q 21 _ rfl rfl rfl (QOp_sub _ _ _ _ _ _ _ rfl rfl rfl) ?_
     obtain ⟨hc4, h⟩ := guardO h
     refine AOps_q 22 _ rfl rfl rfl (QOp_indexAddr_sl _ _ _ _ _ _ _ _ rfl Try.underlying24 Try.sizeOf2 hc4.1 (by rw [intsD_length]; exact hc4.2) rfl rfl) ?_
     refine AOps_q 23 _ rfl rfl rfl (QOp_load_pv _ _ _ _ _ rfl Try.isAgg2 rfl (intsD_get _ _ 0 (by omega))) ?_
     refine AOps_q 24 _ rfl rfl rfl (QOp_add _ _ _ _ _ _ _ rfl rfl rfl) ?_
     refine AOps_q 9 _ rfl rfl rfl (QOp_assign _ _ rfl rfl) ?_
     refine AOps_nil ?_
     cases h
     exact Weak_trans (Weak_keep 2 hm [0, 1, 2, 3, 9] [] _ _ rfl rfl rfl) (Weak_reset 2 hm hz [0, 1, 2, 3, 9] _ _ rfl rfl)
    ·have h := iteF hb3 h
     refine ACode_skip ?_
     cases h
     exact Weak_trans (Weak_keep 2 hm [0, 1, 2, 3, 9] [] _ _ rfl rfl rfl) (Weak_reset 2 hm hz [0, 1, 2, 3, 9] _ _ rfl rfl)
   intro E' H' hw
   refine ACode_weak hw ?_
   have h := hks5
   obtain ⟨os21, hss21, hks21⟩ := bindO h
   clear h
   refine ACode_seqJ (fun E' H' => ∃ s21 : List (List Int), os21 = .inl s21 ∧ Weak 51 G E' H' [] [.ref (.vec 1 1), .vec 1 (rowsD s21)]) ?_ ?_
   ·have h := hss21
    clear hss21
    refine ACode_seq (ACode_region ?_)
    refine AOps_q 25 _ rfl rfl rfl (QOp_move _ _ rfl rfl) ?_
    refine AOps_q 10 _ rfl rfl rfl (QOp_assign _ _ rfl rfl) ?_
    refine AOps_nil ?_
    refine ACode_block ?_
    refine ACode_loopW (fun k0 E H => ∃ (x6 : Int) (x7 : List (List Int)), E = [(0, .d (.pv (colD p0) 0)), (1, iV p1), (2, .d (.sl none (intsD p2))), (3, .clo 192 [.d (.pv ([.clo g_p3_0 c_p3_0]) 0), .ptr 0 0]), (10, iV x6)] ∧ H = [.ref (.vec 1 1), .vec 1 (rowsD x7)] ∧ impl_Colouring_cliques_on_listThat_c1_l0 k self p0 p1 p2 p3_0 k0 x6 x7 = some os21) k _ _ (Weak_keep 2 hm [0, 1, 2, 3, 10] [] _ _ rfl rfl rfl) ⟨_, _, rfl, rfl, h⟩ ?_
    clear h
    rintro k0 E H ⟨x6, x7, rfl, rfl, h⟩
    cases k0 with
    | zero => cases (show (none : Option (Sum (List (List Int)) (Bool × List (List Int)))) = some _ from h)
    | succ k0 =>
     rw [impl_Colouring_cliques_on_listThat_c1_l0] at h
     refine ACode_seq ?_
     refine ACode_seq (ACode_region ?_)
     refine AOps_q 26 _ rfl rfl rfl (QOp_move _ _ rfl rfl) ?_
     refine AOps_q 27 _ rfl rfl rfl (QOp_move _ _ rfl rfl) ?_
     refine AOps_q 28 _ rfl rfl rfl (QOp_nilCheck_pv _ _ _ rfl rfl) ?_
     refine AOps_q 29 _ rfl rfl rfl (QOp_fieldAddr_pv _ _ _ _ _ 0 _ _ rfl Try.underlying29 rfl _ Try.sizeOf2 rfl rfl) ?_
     refine AOps_q 30 _ rfl rfl rfl (QOp_load_pv _ _ _ _ _ rfl Try.isAgg2 rfl rfl) ?_
     refine AOps_q 31 _ rfl rfl rfl (QOp_lss _ _ _ _ _ _ _ rfl rfl rfl) ?_
     refine AOps_nil ?_
     refine ACode_cond _ rfl (fun hb8 => ?_) (fun hb8 => ?_)
     ·have h := iteT hb8 h
      refine ACode_skip ?_
      obtain ⟨os20, hss20, hks20⟩ := bindO h
      clear h
      refine ACode_seqJ (fun E' H' => ∃ s20 : List (List Int), os20 = .inl s20 ∧ Weak 51 G E' H' [(0, .d (.pv (colD p0) 0)), (1, iV p1), (2, .d (.sl none (intsD p2))), (3, .clo 192 [.d (.pv ([.clo g_p3_0 c_p3_0]) 0), .ptr 0 0]), (10, iV x6)] [.ref (.vec 1 1), .vec 1 (rowsD s20)]) ?_ ?_
      ·have h := hss20
       clear hss20
       refine ACode_block ?_
       obtain ⟨s18, hss18, hks18⟩ := bindO h
       clear h
       refine ACode_seqJ (fun E' H' => Weak 51 G E' H' [(0, .d (.pv (colD p0) 0)), (1, iV p1), (2, .d (.sl none (intsD p2))), (3, .clo 192 [.d (.pv ([.clo g_p3_0 c_p3_0]) 0), .ptr 0 0]), (10, iV x6), (50, bV s18.1)] [.ref (.vec 1 1), .vec 1 (rowsD s18.2)]) ?_ ?_
       ·have h := hss18
        clear hss18
        refine (ACode_region ?_)
        refine AOps_q 34 _ rfl rfl rfl (QOp_move _ _ rfl rfl) ?_
        refine AOps_q 35 _ rfl rfl rfl (QOp_move _ _ rfl rfl) ?_
        refine AOps_q 36 _ rfl rfl rfl (QOp_move _ _ rfl rfl) ?_
        refine AOps_q 37 _ rfl rfl rfl (QOp_move _ _ rfl rfl) ?_
        obtain ⟨r9, hr9, h⟩ := bindO h
        refine AOps_call [] 38 _ _ _ _ _ _ _ _ _ _ rfl rfl rfl rfl rfl rfl rfl Try.call138 rfl (nodupB_sound _ rfl) rfl rfl rfl (impl_Colouring_goesWith_ac k p0 p1 p2 x6 _ hr9) ?_
        rintro _ _ ⟨rfl, rfl⟩
        refine ⟨(fun _ h => nomatch h), (allc (trivial) (fun _ h => nomatch h)), AOps_as 38 (v' := bV r9) (H' := [.ref (.vec 1 1), .vec 1 (rowsD x7)]) rfl rfl ?_⟩
        refine AOps_q 39 _ rfl rfl rfl (QOp_move _ _ rfl rfl) ?_
        refine AOps_case 39 _ rfl (fun hb10 => ?_) (fun hb10 => ?_)
        ·have h := iteT hb10 h
         refine AOps_q 40 _ rfl rfl rfl (QOp_move _ _ rfl rfl) ?_
         refine AOps_q 41 _ rfl rfl rfl (QOp_move _ _ rfl rfl) ?_
         refine AOps_q 42 _ rfl rfl rfl (QOp_move _ _ rfl rfl) ?_
         refine bsplit (p2.isEmpty) (fun hb11 => ?_) (fun hb11 => ?_)
         ·have h := iteT hb11 h
          refine AOps_call [] 43 _ _ _ _ _ _ _ _ _ _ rfl rfl rfl rfl rfl rfl rfl Try.call96 rfl (nodupB_sound _ rfl) rfl rfl rfl (cloneB_ac p2 hb11) ?_
          rintro _ _ ⟨rfl, rfl⟩
          refine ⟨(fun _ h => nomatch h), (allc (trivial) (fun _ h => nomatch h)), AOps_as 43 (v' := .d (.se none)) (H' := [.ref (.vec 1 1), .vec 1 (rowsD x7)]) rfl rfl ?_⟩
          refine AOps_q 44 _ rfl rfl rfl (QOp_move _ _ rfl rfl) ?_
          refine AOps_buildSlice 45 _ _ _ [_] (intsD ([x6])) _ rfl rfl rfl rfl rfl (by decide) Try.underlying24 Try.sizeOf2 (zero_of Try.typeInfo2 rfl) rfl rfl (intsD_one _) ?_
          obtain ⟨hc13, h⟩ := guardO h
          refine AOps_append0 46 _ _ _ _ _ _ _ _ _ _ rfl rfl rfl rfl rfl rfl rfl Try.underlying24 Try.type2 rfl rfl rfl (by decide) rfl rfl rfl (intsD_one _) (by rw [intsD_length]; exact hc13.1) (by rw [intsD_length]; exact hc13.2) ?_
          refine AOps_q 47 _ rfl rfl rfl (QOp_move _ _ rfl rfl) ?_
          refine AOps_freezeL [46] 3 0 _ (allc (rfl) (fun _ h => nomatch h)) rfl ?_
          obtain ⟨r14, hr14, h⟩ := bindO h
          refine AOps_call [0, 1] 48 _ _ _ _ _ _ _ _ _ _ rfl rfl rfl rfl rfl rfl rfl Try.call191 rfl (nodupB_sound _ rfl) rfl rfl rfl (hself p0 p1 ([x6]) x7 _ hr14) ?_
          rintro _ _ ⟨rfl, rfl⟩
          refine ⟨(allc (trivial) (allc (fun _ _ => trivial) (fun _ h => nomatch h))), (allc (trivial) (fun _ h => nomatch h)), AOps_as 48 (v' := bV r14.1) (H' := [.ref (.vec 1 2), .vec 2 (rowsD r14.2), .vec 0 (intsD ([x6])), .gone]) rfl rfl ?_⟩
          refine AOps_q 49 _ rfl rfl rfl (QOp_not _ _ _ rfl rfl) ?_
          refine AOps_q 50 _ rfl rfl rfl (QOp_pick_t _ _ _ _ rfl rfl rfl) ?_
          refine AOps_nil ?_
          cases h
          exact Weak_trans (Weak_keep 2 hm [0, 1, 2, 3, 10, 50] [] _ _ rfl rfl rfl) (Weak_reset 2 hm hz [0, 1, 2, 3, 10, 50] _ _ rfl rfl)
         ·have h := iteF hb11 h
          obtain ⟨r15, hr15, h⟩ := bindO h
          refine AOps_call [] 43 _ _ _ _ _ _ _ _ _ _ rfl rfl rfl rfl rfl rfl rfl Try.call96 rfl (nodupB_sound _ rfl) rfl rfl rfl (cloneA_ac p2 _ hb11 hr15) ?_
          rintro _ _ ⟨rfl, rfl⟩
          refine ⟨(allc (fun _ _ => trivial) (fun _ h => nomatch h)), (allc (trivial) (fun _ h => nomatch h)), AOps_as 43 (v' := .vec 2 0) (H' := [.ref (.vec 1 1), .vec 1 (rowsD x7), .vec 0 (intsD r15)]) rfl rfl ?_⟩
          refine AOps_q 44 _ rfl rfl rfl (QOp_move _ _ rfl rfl) ?_
          refine AOps_buildSlice 45 _ _ _ [_] (intsD ([x6])) _ rfl rfl rfl rfl rfl (by decide) Try.underlying24 Try.sizeOf2 (zero_of Try.typeInfo2 rfl) rfl rfl (intsD_one _) ?_
          obtain ⟨hc16, h⟩ := guardO h
          refine AOps_append 46 _ _ _ _ _ _ _ _ _ _ _ _ rfl rfl rfl rfl rfl rfl rfl Try.underlying24 Try.type2 rfl rfl rfl (by decide) rfl rfl rfl rfl (intsD_one _) (by rw [intsD_length, intsD_length]; exact hc16) ?_
          rw [intsD_app]
          refine AOps_q 47 _ rfl rfl rfl (QOp_move _ _ rfl rfl) ?_
          refine AOps_freezeL [46] 2 1 _ (allc (rfl) (fun _ h => nomatch h)) rfl ?_
          obtain ⟨r17, hr17, h⟩ := bindO h
          refine AOps_call [0, 1] 48 _ _ _ _ _ _ _ _ _ _ rfl rfl rfl rfl rfl rfl rfl Try.call191 rfl (nodupB_sound _ rfl) rfl rfl rfl (hself p0 p1 (r15 ++ ([x6])) x7 _ hr17) ?_
          rintro _ _ ⟨rfl, rfl⟩
          refine ⟨(allc (trivial) (allc (fun _ _ => trivial) (fun _ h => nomatch h))), (allc (trivial) (fun _ h => nomatch h)), AOps_as 48 (v' := bV r17.1) (H' := [.ref (.vec 1 2), .vec 2 (rowsD r17.2), .gone, .vec 0 (intsD ([x6]))]) rfl rfl ?_⟩
          refine AOps_q 49 _ rfl rfl rfl (QOp_not _ _ _ rfl rfl) ?_
          refine AOps_q 50 _ rfl rfl rfl (QOp_pick_t _ _ _ _ rfl rfl rfl) ?_
          refine AOps_nil ?_
          cases h
          exact Weak_trans (Weak_keep 2 hm [0, 1, 2, 3, 10, 50] [] _ _ rfl rfl rfl) (Weak_reset 2 hm hz [0, 1, 2, 3, 10, 50] _ _ rfl rfl)
        ·have h := iteF hb10 h
         refine AOps_skip 40 rfl rfl rfl ?_
         refine AOps_skip 41 rfl rfl rfl ?_
         refine AOps_skip 42 rfl rfl rfl ?_
         refine AOps_skip 43 rfl rfl rfl ?_
         refine AOps_skip 44 rfl rfl rfl ?_
         refine AOps_skip 45 rfl rfl rfl ?_
         refine AOps_skip 46 rfl rfl rfl ?_
         refine AOps_skip 47 rfl rfl rfl ?_
         refine AOps_skip 48 rfl rfl rfl ?_
         refine AOps_skip 49 rfl rfl rfl ?_
         refine AOps_q 50 _ rfl rfl rfl (QOp_pick_f _ _ _ _ rfl rfl rfl) ?_
         refine AOps_nil ?_
         cases h
         exact Weak_keep 2 hm [0, 1, 2, 3, 10, 50] [] _ _ rfl rfl rfl
       intro E' H' hw
       refine ACode_weak hw ?_
       have h := hks18
       refine ACode_cond _ rfl (fun hb19 => ?_) (fun hb19 => ?_)
       ·have h := iteT hb19 h
        refine ACode_seq (ACode_region ?_)
        refine AOps_q 8 _ rfl rfl rfl (QOp_assign _ _ rfl rfl) ?_
        refine AOps_nil ?_
        refine ACode_ret ?_
        obtain ⟨rr, hz22, h2⟩ := bindO h
        obtain rfl := Option.some.inj h2
        obtain rfl := Option.some.inj (show some rr = some _ from hks20)
        have h := hz22
        cases h
        have h := hks21
        cases h
        exact ⟨_, _, fun r a w h => ⟨r, h⟩, _, _, [], _, (.cons (ResV_tmp _ _ rfl) .nil), rfl, rfl, rfl, rfl, rfl⟩
       ·have h := iteF hb19 h
        refine ACode_skip ?_
        cases h
        exact ⟨_, rfl, Weak_keep 2 hm [0, 1, 2, 3, 10] [] _ _ rfl rfl rfl⟩
      rintro E' H' ⟨s20, rfl, hw⟩
      refine ACode_weak hw ?_
      have h := hks20
      refine (ACode_region ?_)
      refine AOps_q 32 _ rfl rfl rfl (QOp_move _ _ rfl rfl) ?_
      refine AOps_q 33 _ rfl rfl rfl (QOp_add _ _ _ _ _ _ _ rfl rfl rfl) ?_
      refine AOps_q 10 _ rfl rfl rfl (QOp_assign _ _ rfl rfl) ?_
      refine AOps_nil ?_
      exact ⟨k0, _, _, Nat.lt_succ_self _, Weak_keep 2 hm [0, 1, 2, 3, 10] [] _ _ rfl rfl rfl, _, _, rfl, rfl, h⟩
     ·have h := iteF hb8 h
      refine ACode_exit ?_
      cases h
      exact ⟨_, rfl, Weak_keep 2 hm [] [] _ _ rfl rfl rfl⟩
   rintro E' H' ⟨s21, rfl, hw⟩
   refine ACode_weak hw ?_
   have h := hks21
   refine ACode_seq (ACode_region ?_)
   refine AOps_q 8 _ rfl rfl rfl (QOp_assign _ _ rfl rfl) ?_
   refine AOps_nil ?_
   refine ACode_ret ?_
   cases h
   exact ⟨_, _, fun r a w h => ⟨r, h⟩, _, _, [], _, (.cons (ResV_tmp _ _ rfl) .nil), rfl, rfl, rfl, rfl, rfl⟩

-- (*loop.example/g01362/impl.Colouring).listThat
def impl_Colouring_listThat (k : Nat) (p0 : Col) (p1 : Int) (p2 : (List Int) → Option (Bool)) : Option (Option (List (List Int)) × Int) :=
 (impl_Colouring_cliques_on_listThat_c1 k p0 p1 ([]) p2 ([] : List (List Int))).bind fun r1 => (if !r1.1 then some (none, 3) else some (some r1.2, 0))
set_option maxRecDepth 100000 in
theorem impl_Colouring_listThat_ac (k : Nat) (p0 : Col) (p1 : Int) (p2 : (List Int) → Option (Bool)) (g_p2 : FuncId) (c_p2 : List D) (hg_p2 : ∀ args w, (callFunc g_p2 args).run Try.prog w = .ok (.enter g_p2 args) w) (hf_p2 : ∀ (a0 : List Int) (r : Bool), p2 a0 = some r → AC Try.prog g_p2 ([.d (.sl none (intsD a0))] ++ c_p2.map AV.d) [] (fun res H' => res = [bV r] ∧ H' = [])) (r : Option (List (List Int)) × Int) (h : impl_Colouring_listThat k p0 p1 p2 = some r) : AC Try.prog 104 [.d (.pv (colD p0) 0), iV p1, .d (.clo g_p2 c_p2)] [] (fun res H' => res = [ownA 0 (r.1.map rowsD), iV r.2] ∧ H' = [] ++ ownH (r.1.map rowsD)) := by
 refine AC_of_body false Try.func104 rfl Try.ntmps104 (rvs := [.tmp 6, .tmp 7]) rfl rfl (fun G hG => ?_)
 have hm : G.H.length = 0 := by rw [hG]; rfl
 have hz : zeroG G.H = true := by rw [hG]; rfl
 unfold impl_Colouring_listThat at h
 refine ACode_seq (ACode_region ?_)
 refine AOps_boxI 5 _ _ (.clo g_p2 c_p2) _ rfl (fun c hc => by cases hc with | head => rfl | tail _ h => cases h) rfl rfl rfl rfl rfl ?_
 refine AOps_q 6 _ rfl rfl rfl (QOp_assign _ _ rfl rfl) ?_
 refine AOps_q 7 _ rfl rfl rfl (QOp_assign _ _ rfl rfl) ?_
 refine AOps_nil ?_
 refine ACode_seq (ACode_region ?_)
 refine AOps_buildSlice 10 _ _ _ [] (rowsD ([] : List (List Int))) _ rfl rfl rfl rfl rfl (by decide) Try.underlying45 Try.sizeOf24 (zero_of Try.typeInfo24 rfl) rfl rfl (rowsD_one _) ?_
 refine AOps_alloc 8 _ _ ([.sl (some true) []]) (zero_of Try.typeInfo45 rfl) (by rfl) rfl rfl rfl rfl ?_
 refine AOps_storeR 1 _ _ _ _ _ rfl rfl rfl rfl rfl rfl rfl rfl Try.sizeOf45 (fun r a w hr => vec_one hr rfl rfl rfl) ?_
 refine AOps_nil ?_
 refine ACode_seq (ACode_region ?_)
 refine AOps_q 11 _ rfl rfl rfl (QOp_move _ _ rfl rfl) ?_
 refine AOps_q 12 _ rfl rfl rfl (QOp_move _ _ rfl rfl) ?_
 refine AOps_q 13 _ rfl rfl rfl (QOp_makeFunc _ _ _ rfl rfl) ?_
 obtain ⟨r1, hr1, h⟩ := bindO h
 refine AOps_call [1, 0] 14 _ _ _ _ _ _ _ _ _ _ rfl rfl rfl rfl rfl rfl rfl Try.call191 rfl (nodupB_sound _ rfl) rfl rfl rfl (impl_Colouring_cliques_on_listThat_c1_ac k p0 p1 ([]) p2 ([] : List (List Int)) g_p2 c_p2 hg_p2 hf_p2 _ hr1) ?_
 rintro _ _ ⟨rfl, rfl⟩
 refine ⟨(allc (trivial) (allc (fun _ _ => trivial) (fun _ h => nomatch h))), (allc (trivial) (fun _ h => nomatch h)), AOps_as 14 (v' := bV r1.1) (H' := [.vec 1 (rowsD r1.2), .ref (.vec 0 1)]) rfl rfl ?_⟩
 refine AOps_q 9 _ rfl rfl rfl (QOp_assign _ _ rfl rfl) ?_
 refine AOps_nil ?_
 refine ACode_seq ?_
 refine ACode_seq (ACode_region ?_)
 refine AOps_q 15 _ rfl rfl rfl (QOp_move _ _ rfl rfl) ?_
 refine AOps_q 16 _ rfl rfl rfl (QOp_not _ _ _ rfl rfl) ?_
 refine AOps_nil ?_
 refine ACode_cond _ rfl (fun hb2 => ?_) (fun hb2 => ?_)
 ·have h := iteT hb2 h
  refine ACode_seq (ACode_region ?_)
  refine AOps_q 6 _ rfl rfl rfl (QOp_assign _ _ rfl rfl) ?_
  refine AOps_q 7 _ rfl rfl rfl (QOp_assign _ _ rfl rfl) ?_
  refine AOps_nil ?_
  refine ACode_ret ?_
  cases h
  exact ⟨_, _, Weak_reset 0 hm hz [6, 7] _ _ rfl rfl, _, _, [], _, (.cons (ResV_tmp _ _ rfl) (.cons (ResV_tmp _ _ rfl) .nil)), rfl, rfl, rfl, rfl, rfl⟩
 ·have h := iteF hb2 h
  refine ACode_skip ?_
  refine ACode_seq (ACode_region ?_)
  refine AOps_q 17 _ rfl rfl rfl (QOp_load_ref _ _ _ _ rfl Try.isAgg45 rfl rfl) ?_
  refine AOps_q 6 _ rfl rfl rfl (QOp_assign _ _ rfl rfl) ?_
  refine AOps_q 7 _ rfl rfl rfl (QOp_assign _ _ rfl rfl) ?_
  refine AOps_nil ?_
  refine ACode_ret ?_
  cases h
  exact ⟨_, _, Weak_reset 0 hm hz [6, 7] _ _ rfl rfl, _, _, [0], _, (.cons (ResV_tmp _ _ rfl) (.cons (ResV_tmp _ _ rfl) .nil)), rfl, rfl, rfl, rfl, rfl⟩

-- loop.example/g01362/impl.size[int64]
def impl_size (p0 : List Int) : Int :=
 (p0.length : Int)
set_option maxRecDepth 100000 in
theorem impl_size_ac (p0 : List Int) : AC Try.prog 106 [.d (.sl none (intsD p0))] [] (fun res H' => res = [iV (impl_size p0)] ∧ H' = []) := by
 refine AC_of_body true Try.func106 rfl Try.ntmps106 (rvs := [.tmp 2]) rfl rfl (fun G hG => ?_)
 have hm : G.H.length = 0 := by rw [hG]; rfl
 have hz : zeroG G.H = true := by rw [hG]; rfl
 obtain ⟨r, h⟩ : ∃ r, impl_size p0 = r := ⟨_, rfl⟩
 rw [h]
 unfold impl_size at h
 refine ACode_seq (ACode_region ?_)
 refine AOps_q 2 _ rfl rfl rfl (QOp_assign _ _ rfl rfl) ?_
 refine AOps_nil ?_
 refine ACode_seq (ACode_region ?_)
 refine AOps_q 3 _ rfl rfl rfl (QOp_move _ _ rfl rfl) ?_
 refine AOps_q 4 _ rfl rfl rfl (QOp_len_sl _ _ _ _ _ _ _ (intsD_length _) rfl rfl rfl rfl Try.underlying24 rfl) ?_
 refine AOps_q 2 _ rfl rfl rfl (QOp_assign _ _ rfl rfl) ?_
 refine AOps_nil ?_
 refine ACode_ret ?_
 cases h
 exact ⟨_, _, fun r a w h => ⟨r, h⟩, _, _, [], _, (.cons (ResV_tmp _ _ rfl) .nil), rfl, rfl, rfl, rfl, rfl⟩

-- loop.example/g01362/impl.CliqueList$2
def impl_CliqueList_c2 (p0 : List Int) (p1 : Int) : Bool :=
 decide ((impl_size p0) = p1)
set_option maxRecDepth 100000 in
theorem impl_CliqueList_c2_ac (p0 : List Int) (p1 : Int) : AC Try.prog 105 [.d (.sl none (intsD p0)), .d (.pv ([iD p1]) 0)] [] (fun res H' => res = [bV (impl_CliqueList_c2 p0 p1)] ∧ H' = []) := by
 refine AC_of_body true Try.func105 rfl Try.ntmps105 (rvs := [.tmp 3]) rfl rfl (fun G hG => ?_)
 have hm : G.H.length = 0 := by rw [hG]; rfl
 have hz : zeroG G.H = true := by rw [hG]; rfl
 obtain ⟨r, h⟩ : ∃ r, impl_CliqueList_c2 p0 p1 = r := ⟨_, rfl⟩
 rw [h]
 unfold impl_CliqueList_c2 at h
 refine ACode_seq (ACode_region ?_)
 refine AOps_q 3 _ rfl rfl rfl (QOp_assign _ _ rfl rfl) ?_
 refine AOps_nil ?_
 refine ACode_seq (ACode_quiet mixed (by kernel_rfl) ?_)
 refine AQ_q 4 _ rfl rfl rfl (QOp_move _ _ rfl rfl) ?_
 refine AQ_call 5 _ _ _ _ _ _ _ _ _ rfl rfl rfl rfl rfl rfl rfl Try.call106 rfl rfl rfl (impl_size_ac p0) ?_
 refine AQ_q 6 _ rfl rfl rfl (QOp_load_pv _ _ _ _ _ rfl Try.isAgg2 rfl rfl) ?_
 refine AQ_q 7 _ rfl rfl rfl (QOp_eql _ _ _ _ _ _ _ rfl rfl rfl) ?_
 refine AQ_q 3 _ rfl rfl rfl (QOp_assign _ _ rfl rfl) ?_
 refine AQ_nil ?_
 refine ACode_ret ?_
 cases h
 exact ⟨_, _, fun r a w h => ⟨r, h⟩, _, _, [], _, (.cons (ResV_tmp _ _ rfl) .nil), rfl, rfl, rfl, rfl, rfl⟩

-- loop.example/g01362/impl.CliqueList
def impl_CliqueList (k : Nat) (p0 : Col) (p1 : Int) (p2 : Int) : Option (Option (List (List Int)) × Int) :=
 (impl_Colouring_code k p0 (some (impl_CliqueList_c1 p0 p1 p2))).bind fun r1 => (if !decide (r1 = 0) then some (none, r1) else (impl_Colouring_listThat k p0 p1 (fun a0 => some (impl_CliqueList_c2 a0 p2))).bind fun r3 => (match r3.1 with | none => some (none, r3.2) | some l4 => some (some l4, r3.2)))
set_option maxRecDepth 100000 in
theorem impl_CliqueList_ac (k : Nat) (p0 : Col) (p1 : Int) (p2 : Int) (r : Option (List (List Int)) × Int) (h : impl_CliqueList k p0 p1 p2 = some r) : AC Try.prog 26 [.d (.agg (colD p0)), iV p1, iV p2] [] (fun res H' => res = [ownA 0 (r.1.map rowsD), iV r.2] ∧ H' = [] ++ ownH (r.1.map rowsD)) := by
 refine AC_of_body false Try.func26 rfl Try.ntmps26 (rvs := [.tmp 6, .tmp 7]) rfl rfl (fun G hG => ?_)
 have hm : G.H.length = 0 := by rw [hG]; rfl
 have hz : zeroG G.H = true := by rw [hG]; rfl
 unfold impl_CliqueList at h
 refine ACode_seq (ACode_region ?_)
 refine AOps_boxI 3 _ _ (.agg (colD p0)) (colD p0) rfl (colD_one _) rfl rfl rfl rfl rfl ?_
 refine AOps_boxI 4 _ _ (iD p1) _ rfl (fun c hc => by cases hc with | head => rfl | tail _ h => cases h) rfl rfl rfl rfl rfl ?_
 refine AOps_boxI 5 _ _ (iD p2) _ rfl (fun c hc => by cases hc with | head => rfl | tail _ h => cases h) rfl rfl rfl rfl rfl ?_
 refine AOps_q 6 _ rfl rfl rfl (QOp_assign _ _ rfl rfl) ?_
 refine AOps_q 7 _ rfl rfl rfl (QOp_assign _ _ rfl rfl) ?_
 refine AOps_nil ?_
 refine ACode_seq ?_
 refine ACode_seq (ACode_region ?_)
 refine AOps_q 9 _ rfl rfl rfl (QOp_makeFuncD _ _ _ _ rfl rfl rfl) ?_
 obtain ⟨r1, hr1, h⟩ := bindO h
 refine AOps_call [] 10 _ _ _ _ _ _ _ _ _ _ rfl rfl rfl rfl rfl rfl rfl Try.call83 rfl (nodupB_sound _ rfl) rfl rfl rfl (impl_Colouring_code_ac k p0 (some (impl_CliqueList_c1 p0 p1 p2)) 102 ([.pv (colD p0) 0, .pv ([iD p1]) 0, .pv ([iD p2]) 0]) Try.call102 (fun r h => by cases h; exact impl_CliqueList_c1_ac p0 p1 p2) _ hr1) ?_
 rintro _ _ ⟨rfl, rfl⟩
 refine ⟨(fun _ h => nomatch h), (allc (trivial) (fun _ h => nomatch h)), AOps_as 10 (v' := iV r1) (H' := []) rfl rfl ?_⟩
 refine AOps_q 8 _ rfl rfl rfl (QOp_assign _ _ rfl rfl) ?_
 refine AOps_nil ?_
 refine ACode_seq (ACode_region ?_)
 refine AOps_q 11 _ rfl rfl rfl (QOp_move _ _ rfl rfl) ?_
 refine AOps_q 12 _ rfl rfl rfl (QOp_neq _ _ _ _ _ _ _ rfl rfl rfl) ?_
 refine AOps_nil ?_
 refine ACode_cond _ rfl (fun hb2 => ?_) (fun hb2 => ?_)
 ·have h := iteT hb2 h
  refine ACode_seq (ACode_region ?_)
  refine AOps_q 13 _ rfl rfl rfl (QOp_move _ _ rfl rfl) ?_
  refine AOps_q 6 _ rfl rfl rfl (QOp_assign _ _ rfl rfl) ?_
  refine AOps_q 7 _ rfl rfl rfl (QOp_assign _ _ rfl rfl) ?_
  refine AOps_nil ?_
  refine ACode_ret ?_
  cases h
  exact ⟨_, _, fun r a w h => ⟨r, h⟩, _, _, [], _, (.cons (ResV_tmp _ _ rfl) (.cons (ResV_tmp _ _ rfl) .nil)), rfl, rfl, rfl, rfl, rfl⟩
 ·have h := iteF hb2 h
  refine ACode_skip ?_
  refine ACode_seq (ACode_region ?_)
  refine AOps_q 14 _ rfl rfl rfl (QOp_load_pv _ _ _ _ _ rfl Try.isAgg2 rfl rfl) ?_
  refine AOps_q 15 _ rfl rfl rfl (QOp_makeFuncD _ _ _ _ rfl rfl rfl) ?_
  obtain ⟨r3, hr3, h⟩ := bindO h
  refine AOps_call [] 16 _ _ _ _ _ _ _ _ _ _ rfl rfl rfl rfl rfl rfl rfl Try.call104 rfl (nodupB_sound _ rfl) rfl rfl rfl (impl_Colouring_listThat_ac k p0 p1 (fun a0 => some (impl_CliqueList_c2 a0 p2)) 105 ([.pv ([iD p2]) 0]) Try.call105 (fun a0 r h => by cases h; exact impl_CliqueList_c2_ac a0 p2) _ hr3) ?_
  revert h
  cases hx5 : r3.1 with
  | none =>
   intro h
   rintro _ _ ⟨rfl, rfl⟩
   refine ⟨(fun _ h => nomatch h), (allc (trivial) (allc (trivial) (fun _ h => nomatch h))), AOps_as 16 (v' := .tup [.d (.sl (some true) []), iV r3.2]) (H' := []) rfl rfl ?_⟩
   refine AOps_q 17 _ rfl rfl rfl (QOp_extract _ _ _ _ rfl rfl rfl) ?_
   refine AOps_q 18 _ rfl rfl rfl (QOp_extract _ _ _ _ rfl rfl rfl) ?_
   refine AOps_q 6 _ rfl rfl rfl (QOp_assign _ _ rfl rfl) ?_
   refine AOps_q 7 _ rfl rfl rfl (QOp_assign _ _ rfl rfl) ?_
   refine AOps_nil ?_
   refine ACode_ret ?_
   cases h
   exact ⟨_, _, fun r a w h => ⟨r, h⟩, _, _, [], _, (.cons (ResV_tmp _ _ rfl) (.cons (ResV_tmp _ _ rfl) .nil)), rfl, rfl, rfl, rfl, rfl⟩
  | some l4 =>
   intro h
   rintro _ _ ⟨rfl, rfl⟩
   refine ⟨(allc (fun _ _ => trivial) (fun _ h => nomatch h)), (allc (trivial) (allc (trivial) (fun _ h => nomatch h))), AOps_as 16 (v' := .tup [.vec 0 0, iV r3.2]) (H' := [.vec 0 (rowsD l4)]) rfl rfl ?_⟩
   refine AOps_q 17 _ rfl rfl rfl (QOp_extract _ _ _ _ rfl rfl rfl) ?_
   refine AOps_q 18 _ rfl rfl rfl (QOp_extract _ _ _ _ rfl rfl rfl) ?_
   refine AOps_q 6 _ rfl rfl rfl (QOp_assign _ _ rfl rfl) ?_
   refine AOps_q 7 _ rfl rfl rfl (QOp_assign _ _ rfl rfl) ?_
   refine AOps_nil ?_
   refine ACode_ret ?_
   cases h
   exact ⟨_, _, Weak_reset 0 hm hz [6, 7] _ _ rfl rfl, _, _, [0], _, (.cons (ResV_tmp _ _ rfl) (.cons (ResV_tmp _ _ rfl) .nil)), rfl, rfl, rfl, rfl, rfl⟩

-- loop.example/g01362/spec.l01In
def spec_l01In (p0 : Int) (p1 : Int) (p2 : Int) : Bool :=
 letO (if decide (p1 ≤ p0) then decide (p0 ≤ p2) else false) fun (s2 : Bool) => s2
set_option maxRecDepth 100000 in
theorem spec_l01In_ac (p0 : Int) (p1 : Int) (p2 : Int) : AC Try.prog 100 [iV p0, iV p1, iV p2] [] (fun res H' => res = [bV (spec_l01In p0 p1 p2)] ∧ H' = []) := by
 refine AC_of_body true Try.func100 rfl Try.ntmps100 (rvs := [.tmp 6]) rfl rfl (fun G hG => ?_)
 have hm : G.H.length = 0 := by rw [hG]; rfl
 have hz : zeroG G.H = true := by rw [hG]; rfl
 obtain ⟨r, h⟩ : ∃ r, spec_l01In p0 p1 p2 = r := ⟨_, rfl⟩
 rw [h]
 unfold spec_l01In at h
 refine ACode_seq (ACode_region ?_)
 refine AOps_q 6 _ rfl rfl rfl (QOp_assign _ _ rfl rfl) ?_
 refine AOps_nil ?_
 obtain ⟨s2, hss2, hks2⟩ := letS h
 clear h
 refine ACode_seqJ (fun E' H' => Weak 15 G E' H' [(6, bV s2)] []) ?_ ?_
 ·have h := hss2
  clear hss2
  refine (ACode_region ?_)
  refine AOps_q 7 _ rfl rfl rfl (QOp_move _ _ rfl rfl) ?_
  refine AOps_q 8 _ rfl rfl rfl (QOp_move _ _ rfl rfl) ?_
  refine AOps_q 9 _ rfl rfl rfl (QOp_geq _ _ _ _ _ _ _ rfl rfl rfl) ?_
  refine AOps_q 10 _ rfl rfl rfl (QOp_move _ _ rfl rfl) ?_
  refine AOps_case 10 _ rfl (fun hb1 => ?_) (fun hb1 => ?_)
  ·have h := iteT hb1 h
   refine AOps_q 11 _ rfl rfl rfl (QOp_move _ _ rfl rfl) ?_
   refine AOps_q 12 _ rfl rfl rfl (QOp_move _ _ rfl rfl) ?_
   refine AOps_q 13 _ rfl rfl rfl (QOp_leq _ _ _ _ _ _ _ rfl rfl rfl) ?_
   refine AOps_q 14 _ rfl rfl rfl (QOp_pick_t _ _ _ _ rfl rfl rfl) ?_
   refine AOps_q 6 _ rfl rfl rfl (QOp_assign _ _ rfl rfl) ?_
   refine AOps_nil ?_
   cases h
   exact Weak_keep 0 hm [6] [] _ _ rfl rfl rfl
  ·have h := iteF hb1 h
   refine AOps_skip 11 rfl rfl rfl ?_
   refine AOps_skip 12 rfl rfl rfl ?_
   refine AOps_skip 13 rfl rfl rfl ?_
   refine AOps_q 14 _ rfl rfl rfl (QOp_pick_f _ _ _ _ rfl rfl rfl) ?_
   refine AOps_q 6 _ rfl rfl rfl (QOp_assign _ _ rfl rfl) ?_
   refine AOps_nil ?_
   cases h
   exact Weak_keep 0 hm [6] [] _ _ rfl rfl rfl
 intro E' H' hw
 refine ACode_weak hw ?_
 have h := hks2
 refine ACode_ret ?_
 cases h
 exact ⟨_, _, fun r a w h => ⟨r, h⟩, _, _, [], _, (.cons (ResV_tmp _ _ rfl) .nil), rfl, rfl, rfl, rfl, rfl⟩

-- loop.example/g01362/spec.l01Is
def spec_l01Is_l0 (k : Nat) (p0 : Col) : Nat → Int → Option (Sum (Unit) (Bool))
 | 0, _ => none
 | k0 + 1, x7 => (if decide (x7 < 136) then (((if decide (x7 < w64 ((w64 (p0.p * (w64 (p0.p - 1)))).tdiv 2)) then (if 0 ≤ x7 ∧ x7 < 136 then (if decide (p0.k ≤ ((p0.get x7.toNat).toNat : Int)) then some true else (if decide (w64 ((w64 (p0.p * (w64 (p0.p - 1)))).tdiv 2) ≤ x7) then (if 0 ≤ x7 ∧ x7 < 136 then some (!decide (((p0.get x7.toNat).toNat : Int) = 0)) else none) else some false)) else none) else (if decide (w64 ((w64 (p0.p * (w64 (p0.p - 1)))).tdiv 2) ≤ x7) then (if 0 ≤ x7 ∧ x7 < 136 then some (!decide (((p0.get x7.toNat).toNat : Int) = 0)) else none) else some false)) : Option (Bool)).bind fun s16 => (if s16 then (some (.inr false)).bind fun rr => some (.inr rr) else some (.inl ())) : Option (Sum (Unit) (Sum (Unit) (Bool)))).bind fun os18 => (match os18 with | .inl s18 => spec_l01Is_l0 k p0 k0 (w64 (x7 + 1)) | .inr rr => some rr) else some (.inl ()))
def spec_l01Is (k : Nat) (p0 : Col) : Option (Bool) :=
 (letO (if !(spec_l01In p0.p 1 17) then true else !(spec_l01In p0.k 1 4)) fun (s4 : Bool) => (if s4 then some (.inr false) else some (.inl ())) : Option (Sum (Unit) (Bool))).bind fun os6 => (match os6 with | .inl s6 => (spec_l01Is_l0 k p0 k 0 : Option (Sum (Unit) (Bool))).bind fun os19 => (match os19 with | .inl s19 => some true | .inr rr => some rr) | .inr rr => some rr)
set_option maxRecDepth 100000 in
theorem spec_l01Is_ac (k : Nat) (p0 : Col) (r : Bool) (h : spec_l01Is k p0 = some r) : AC Try.prog 94 [.d (.agg (colD p0))] [] (fun res H' => res = [bV r] ∧ H' = []) := by
 refine AC_of_body true Try.func94 rfl Try.ntmps94 (rvs := [.tmp 2]) rfl rfl (fun G hG => ?_)
 have hm : G.H.length = 0 := by rw [hG]; rfl
 have hz : zeroG G.H = true := by rw [hG]; rfl
 unfold spec_l01Is at h
 refine ACode_seq (ACode_region ?_)
 refine AOps_boxI 1 _ _ (.agg (colD p0)) (colD p0) rfl (colD_one _) rfl rfl rfl rfl rfl ?_
 refine AOps_q 2 _ rfl rfl rfl (QOp_assign _ _ rfl rfl) ?_
 refine AOps_nil ?_
 obtain ⟨os6, hss6, hks6⟩ := bindO h
 clear h
 refine ACode_seqJ (fun E' H' => ∃ s6 : Unit, os6 = .inl s6 ∧ Weak 51 G E' H' [(1, .d (.pv (colD p0) 0))] []) ?_ ?_
 ·have h := hss6
  clear hss6
  obtain ⟨s4, hss4, hks4⟩ := letS h
  clear h
  refine ACode_seqJ (fun E' H' => Weak 51 G E' H' [(1, .d (.pv (colD p0) 0)), (14, bV s4)] []) ?_ ?_
  ·have h := hss4
   clear hss4
   refine (ACode_region ?_)
   refine AOps_q 5 _ rfl rfl rfl (QOp_fieldAddr_pv _ _ _ _ _ 0 _ _ rfl Try.underlying29 rfl _ Try.sizeOf2 rfl rfl) ?_
   refine AOps_q 6 _ rfl rfl rfl (QOp_load_pv _ _ _ _ _ rfl Try.isAgg2 rfl rfl) ?_
   refine AOps_call [] 7 _ _ _ _ _ _ _ _ _ _ rfl rfl rfl rfl rfl rfl rfl Try.call100 rfl (nodupB_sound _ rfl) rfl rfl rfl (spec_l01In_ac p0.p 1 17) ?_
   rintro _ _ ⟨rfl, rfl⟩
   refine ⟨(fun _ h => nomatch h), (allc (trivial) (fun _ h => nomatch h)), AOps_as 7 (v' := bV (spec_l01In p0.p 1 17)) (H' := []) rfl rfl ?_⟩
   refine AOps_q 8 _ rfl rfl rfl (QOp_not _ _ _ rfl rfl) ?_
   refine AOps_q 9 _ rfl rfl rfl (QOp_move _ _ rfl rfl) ?_
   refine AOps_case 9 _ rfl (fun hb2 => ?_) (fun hb2 => ?_)
   ·have h := iteT hb2 h
    refine AOps_skip 10 rfl rfl rfl ?_
    refine AOps_skip 11 rfl rfl rfl ?_
    refine AOps_skip 12 rfl rfl rfl ?_
    refine AOps_skip 13 rfl rfl rfl ?_
    refine AOps_q 14 _ rfl rfl rfl (QOp_pick_t _ _ _ _ rfl rfl rfl) ?_
    refine AOps_nil ?_
    cases h
    exact Weak_keep 0 hm [1, 14] [] _ _ rfl rfl rfl
   ·have h := iteF hb2 h
    refine AOps_q 10 _ rfl rfl rfl (QOp_fieldAddr_pv _ _ _ _ _ 1 _ _ rfl Try.underlying29 rfl _ Try.sizeOf2 rfl rfl) ?_
    refine AOps_q 11 _ rfl rfl rfl (QOp_load_pv _ _ _ _ _ rfl Try.isAgg2 rfl rfl) ?_
    refine AOps_call [] 12 _ _ _ _ _ _ _ _ _ _ rfl rfl rfl rfl rfl rfl rfl Try.call100 rfl (nodupB_sound _ rfl) rfl rfl rfl (spec_l01In_ac p0.k 1 4) ?_
    rintro _ _ ⟨rfl, rfl⟩
    refine ⟨(fun _ h => nomatch h), (allc (trivial) (fun _ h => nomatch h)), AOps_as 12 (v' := bV (spec_l01In p0.k 1 4)) (H' := []) rfl rfl ?_⟩
    refine AOps_q 13 _ rfl rfl rfl (QOp_not _ _ _ rfl rfl) ?_
    refine AOps_q 14 _ rfl rfl rfl (QOp_pick_f _ _ _ _ rfl rfl rfl) ?_
    refine AOps_nil ?_
    cases h
    exact Weak_keep 0 hm [1, 14] [] _ _ rfl rfl rfl
  intro E' H' hw
  refine ACode_weak hw ?_
  have h := hks4
  refine ACode_cond _ rfl (fun hb5 => ?_) (fun hb5 => ?_)
  ·have h := iteT hb5 h
   refine ACode_seq (ACode_region ?_)
   refine AOps_q 2 _ rfl rfl rfl (QOp_assign _ _ rfl rfl) ?_
   refine AOps_nil ?_
   refine ACode_ret ?_
   cases h
   have h := hks6
   cases h
   exact ⟨_, _, fun r a w h => ⟨r, h⟩, _, _, [], _, (.cons (ResV_tmp _ _ rfl) .nil), rfl, rfl, rfl, rfl, rfl⟩
  ·have h := iteF hb5 h
   refine ACode_skip ?_
   cases h
   exact ⟨_, rfl, Weak_keep 0 hm [1] [] _ _ rfl rfl rfl⟩
 rintro E' H' ⟨s6, rfl, hw⟩
 refine ACode_weak hw ?_
 have h := hks6
 refine ACode_seq (ACode_region ?_)
 refine AOps_q 15 _ rfl rfl rfl (QOp_fieldAddr_pv _ _ _ _ _ 0 _ _ rfl Try.underlying29 rfl _ Try.sizeOf2 rfl rfl) ?_
 refine AOps_q 16 _ rfl rfl rfl (QOp_load_pv _ _ _ _ _ rfl Try.isAgg2 rfl rfl) ?_
 refine AOps_q 17 _ rfl rfl rfl (QOp_fieldAddr_pv _ _ _ _ _ 0 _ _ rfl Try.underlying29 rfl _ Try.sizeOf2 rfl rfl) ?_
 refine AOps_q 18 _ rfl rfl rfl (QOp_load_pv _ _ _ _ _ rfl Try.isAgg2 rfl rfl) ?_
 refine AOps_q 19 _ rfl rfl rfl (QOp_sub _ _ _ _ _ _ _ rfl rfl rfl) ?_
 refine AOps_q 20 _ rfl rfl rfl (QOp_mul _ _ _ _ _ _ _ rfl rfl rfl) ?_
 refine AOps_q 21 _ rfl rfl rfl (QOp_quo _ _ _ _ _ _ _ (by decide) rfl rfl rfl) ?_
 refine AOps_q 3 _ rfl rfl rfl (QOp_assign _ _ rfl rfl) ?_
 refine AOps_nil ?_
 obtain ⟨os19, hss19, hks19⟩ := bindO h
 clear h
 refine ACode_seqJ (fun E' H' => ∃ s19 : Unit, os19 = .inl s19 ∧ Weak 51 G E' H' [] []) ?_ ?_
 ·have h := hss19
  clear hss19
  refine ACode_seq (ACode_region ?_)
  refine AOps_q 4 _ rfl rfl rfl (QOp_assign _ _ rfl rfl) ?_
  refine AOps_nil ?_
  refine ACode_block ?_
  refine ACode_loopW (fun k0 E H => ∃ (x7 : Int), E = [(1, .d (.pv (colD p0) 0)), (3, iV (w64 ((w64 (p0.p * (w64 (p0.p - 1)))).tdiv 2))), (4, iV x7)] ∧ H = [] ∧ spec_l01Is_l0 k p0 k0 x7 = some os19) k _ _ (Weak_keep 0 hm [1, 3, 4] [] _ _ rfl rfl rfl) ⟨_, rfl, rfl, h⟩ ?_
  clear h
  rintro k0 E H ⟨x7, rfl, rfl, h⟩
  cases k0 with
  | zero => cases (show (none : Option (Sum (Unit) (Bool))) = some _ from h)
  | succ k0 =>
   rw [spec_l01Is_l0] at h
   refine ACode_seq ?_
   refine ACode_seq (ACode_region ?_)
   refine AOps_q 22 _ rfl rfl rfl (QOp_move _ _ rfl rfl) ?_
   refine AOps_q 23 _ rfl rfl rfl (QOp_lss _ _ _ _ _ _ _ rfl rfl rfl) ?_
   refine AOps_nil ?_
   refine ACode_cond _ rfl (fun hb8 => ?_) (fun hb8 => ?_)
   ·have h := iteT hb8 h
    refine ACode_skip ?_
    obtain ⟨os18, hss18, hks18⟩ := bindO h
    clear h
    refine ACode_seqJ (fun E' H' => ∃ s18 : Unit, os18 = .inl s18 ∧ Weak 51 G E' H' [(1, .d (.pv (colD p0) 0)), (3, iV (w64 ((w64 (p0.p * (w64 (p0.p - 1)))).tdiv 2))), (4, iV x7)] []) ?_ ?_
    ·have h := hss18
     clear hss18
     refine ACode_block ?_
     obtain ⟨s16, hss16, hks16⟩ := bindO h
     clear h
     refine ACode_seqJ (fun E' H' => Weak 51 G E' H' [(1, .d (.pv (colD p0) 0)), (3, iV (w64 ((w64 (p0.p * (w64 (p0.p - 1)))).tdiv 2))), (4, iV x7), (50, bV s16)] []) ?_ ?_
     ·have h := hss16
      clear hss16
      refine (ACode_quiet mixed (by kernel_rfl) ?_)
      refine AQ_q 26 _ rfl rfl rfl (QOp_move _ _ rfl rfl) ?_
      refine AQ_q 27 _ rfl rfl rfl (QOp_move _ _ rfl rfl) ?_
      refine AQ_q 28 _ rfl rfl rfl (QOp_lss _ _ _ _ _ _ _ rfl rfl rfl) ?_
      refine AQ_q 29 _ rfl rfl rfl (QOp_move _ _ rfl rfl) ?_
      refine AQ_case 29 _ rfl (fun hb9 => ?_) (fun hb9 => ?_)
      ·have h := iteT hb9 h
       refine AQ_q 30 _ rfl rfl rfl (QOp_move _ _ rfl rfl) ?_
       refine AQ_q 31 _ rfl rfl rfl (QOp_fieldAddr_pv _ _ _ _ _ 2 _ _ rfl Try.underlying29 rfl _ Try.sizeOf27 rfl rfl) ?_
       obtain ⟨hc10, h⟩ := guardO h
       refine AQ_q 32 _ rfl rfl rfl (QOp_indexAddrA_pv _ _ _ _ _ _ _ _ _ rfl Try.underlying27 Try.sizeOf5 hc10.1 hc10.2 rfl rfl) ?_
       refine AQ_q 33 _ rfl rfl rfl (QOp_load_pv _ _ _ _ _ rfl Try.isAgg5 rfl (colD_get _ _ (by omega))) ?_
       refine AQ_q 34 _ rfl rfl rfl (QOp_fromByte _ _ _ _ _ rfl rfl Try.underlying2 wrap_i64_byte rfl) ?_
       refine AQ_q 35 _ rfl rfl rfl (QOp_fieldAddr_pv _ _ _ _ _ 1 _ _ rfl Try.underlying29 rfl _ Try.sizeOf2 rfl rfl) ?_
       refine AQ_q 36 _ rfl rfl rfl (QOp_load_pv _ _ _ _ _ rfl Try.isAgg2 rfl rfl) ?_
       refine AQ_q 37 _ rfl rfl rfl (QOp_geq _ _ _ _ _ _ _ rfl rfl rfl) ?_
       refine AQ_q 38 _ rfl rfl rfl (QOp_pick_t _ _ _ _ rfl rfl rfl) ?_
       refine AQ_q 39 _ rfl rfl rfl (QOp_move _ _ rfl rfl) ?_
       refine AQ_case 39 _ rfl (fun hb11 => ?_) (fun hb11 => ?_)
       ·have h := iteT hb11 h
        refine AQ_skip 40 rfl rfl rfl ?_
        refine AQ_skip 41 rfl rfl rfl ?_
        refine AQ_skip 42 rfl rfl rfl ?_
        refine AQ_skip 43 rfl rfl rfl ?_
        refine AQ_skip 44 rfl rfl rfl ?_
        refine AQ_skip 45 rfl rfl rfl ?_
        refine AQ_skip 46 rfl rfl rfl ?_
        refine AQ_skip 47 rfl rfl rfl ?_
        refine AQ_skip 48 rfl rfl rfl ?_
        refine AQ_skip 49 rfl rfl rfl ?_
        refine AQ_q 50 _ rfl rfl rfl (QOp_pick_t _ _ _ _ rfl rfl rfl) ?_
        refine AQ_nil ?_
        cases h
        exact Weak_keep 0 hm [1, 3, 4, 50] [] _ _ rfl rfl rfl
       ·have h := iteF hb11 h
        refine AQ_q 40 _ rfl rfl rfl (QOp_move _ _ rfl rfl) ?_
        refine AQ_q 41 _ rfl rfl rfl (QOp_move _ _ rfl rfl) ?_
        refine AQ_q 42 _ rfl rfl rfl (QOp_geq _ _ _ _ _ _ _ rfl rfl rfl) ?_
        refine AQ_q 43 _ rfl rfl rfl (QOp_move _ _ rfl rfl) ?_
        refine AQ_case 43 _ rfl (fun hb12 => ?_) (fun hb12 => ?_)
        ·have h := iteT hb12 h
         refine AQ_q 44 _ rfl rfl rfl (QOp_move _ _ rfl rfl) ?_
         refine AQ_q 45 _ rfl rfl rfl (QOp_fieldAddr_pv _ _ _ _ _ 2 _ _ rfl Try.underlying29 rfl _ Try.sizeOf27 rfl rfl) ?_
         obtain ⟨hc13, h⟩ := guardO h
         refine AQ_q 46 _ rfl rfl rfl (QOp_indexAddrA_pv _ _ _ _ _ _ _ _ _ rfl Try.underlying27 Try.sizeOf5 hc13.1 hc13.2 rfl rfl) ?_
         refine AQ_q 47 _ rfl rfl rfl (QOp_load_pv _ _ _ _ _ rfl Try.isAgg5 rfl (colD_get _ _ (by omega))) ?_
         refine AQ_q 48 _ rfl rfl rfl (QOp_neq _ _ _ _ _ _ _ rfl rfl rfl) ?_
         refine AQ_q 49 _ rfl rfl rfl (QOp_pick_t _ _ _ _ rfl rfl rfl) ?_
         refine AQ_q 50 _ rfl rfl rfl (QOp_pick_f _ _ _ _ rfl rfl rfl) ?_
         refine AQ_nil ?_
         cases h
         exact Weak_keep 0 hm [1, 3, 4, 50] [] _ _ rfl rfl rfl
        ·have h := iteF hb12 h
         refine AQ_skip 44 rfl rfl rfl ?_
         refine AQ_skip 45 rfl rfl rfl ?_
         refine AQ_skip 46 rfl rfl rfl ?_
         refine AQ_skip 47 rfl rfl rfl ?_
         refine AQ_skip 48 rfl rfl rfl ?_
         refine AQ_q 49 _ rfl rfl rfl (QOp_pick_f _ _ _ _ rfl rfl rfl) ?_
         refine AQ_q 50 _ rfl rfl rfl (QOp_pick_f _ _ _ _ rfl rfl rfl) ?_
         refine AQ_nil ?_
         cases h
         exact Weak_keep 0 hm [1, 3, 4, 50] [] _ _ rfl rfl rfl
      ·have h := iteF hb9 h
       refine AQ_skip 30 rfl rfl rfl ?_
       refine AQ_skip 31 rfl rfl rfl ?_
       refine AQ_skip 32 rfl rfl rfl ?_
       refine AQ_skip 33 rfl rfl rfl ?_
       refine AQ_skip 34 rfl rfl rfl ?_
       refine AQ_skip 35 rfl rfl rfl ?_
       refine AQ_skip 36 rfl rfl rfl ?_
       refine AQ_skip 37 rfl rfl rfl ?_
       refine AQ_q 38 _ rfl rfl rfl (QOp_pick_f _ _ _ _ rfl rfl rfl) ?_
       refine AQ_q 39 _ rfl rfl rfl (QOp_move _ _ rfl rfl) ?_
       refine AQ_q 40 _ rfl rfl rfl (QOp_move _ _ rfl rfl) ?_
       refine AQ_q 41 _ rfl rfl rfl (QOp_move _ _ rfl rfl) ?_
       refine AQ_q 42 _ rfl rfl rfl (QOp_geq _ _ _ _ _ _ _ rfl rfl rfl) ?_
       refine AQ_q 43 _ rfl rfl rfl (QOp_move _ _ rfl rfl) ?_
       refine AQ_case 43 _ rfl (fun hb14 => ?_) (fun hb14 => ?_)
       ·have h := iteT hb14 h
        refine AQ_q 44 _ rfl rfl rfl (QOp_move _ _ rfl rfl) ?_
        refine AQ_q 45 _ rfl rfl rfl (QOp_fieldAddr_pv _ _ _ _ _ 2 _ _ rfl Try.underlying29 rfl _ Try.sizeOf27 rfl rfl) ?_
        obtain ⟨hc15, h⟩ := guardO h
        refine AQ_q 46 _ rfl rfl rfl (QOp_indexAddrA_pv _ _ _ _ _ _ _ _ _ rfl Try.underlying27 Try.sizeOf5 hc15.1 hc15.2 rfl rfl) ?_
        refine AQ_q 47 _ rfl rfl rfl (QOp_load_pv _ _ _ _ _ rfl Try.isAgg5 rfl (colD_get _ _ (by omega))) ?_
        refine AQ_q 48 _ rfl rfl rfl (QOp_neq _ _ _ _ _ _ _ rfl rfl rfl) ?_
        refine AQ_q 49 _ rfl rfl rfl (QOp_pick_t _ _ _ _ rfl rfl rfl) ?_
        refine AQ_q 50 _ rfl rfl rfl (QOp_pick_f _ _ _ _ rfl rfl rfl) ?_
        refine AQ_nil ?_
        cases h
        exact Weak_keep 0 hm [1, 3, 4, 50] [] _ _ rfl rfl rfl
       ·have h := iteF hb14 h
        refine AQ_skip 44 rfl rfl rfl ?_
        refine AQ_skip 45 rfl rfl rfl ?_
        refine AQ_skip 46 rfl rfl rfl ?_
        refine AQ_skip 47 rfl rfl rfl ?_
        refine AQ_skip 48 rfl rfl rfl ?_
        refine AQ_q 49 _ rfl rfl rfl (QOp_pick_f _ _ _ _ rfl rfl rfl) ?_
        refine AQ_q 50 _ rfl rfl rfl (QOp_pick_f _ _ _ _ rfl rfl rfl) ?_
        refine AQ_nil ?_
        cases h
        exact Weak_keep 0 hm [1, 3, 4, 50] [] _ _ rfl rfl rfl
     intro E' H' hw
     refine ACode_weak hw ?_
     have h := hks16
     refine ACode_cond _ rfl (fun hb17 => ?_) (fun hb17 => ?_)
     ·have h := iteT hb17 h
      refine ACode_seq (ACode_region ?_)
      refine AOps_q 2 _ rfl rfl rfl (QOp_assign _ _ rfl rfl) ?_
      refine AOps_nil ?_
      refine ACode_ret ?_
      obtain ⟨rr, hz20, h2⟩ := bindO h
      obtain rfl := Option.some.inj h2
      obtain rfl := Option.some.inj (show some rr = some _ from hks18)
      have h := hz20
      cases h
      have h := hks19
      cases h
      exact ⟨_, _, fun r a w h => ⟨r, h⟩, _, _, [], _, (.cons (ResV_tmp _ _ rfl) .nil), rfl, rfl, rfl, rfl, rfl⟩
     ·have h := iteF hb17 h
      refine ACode_skip ?_
      cases h
      exact ⟨_, rfl, Weak_keep 0 hm [1, 3, 4] [] _ _ rfl rfl rfl⟩
    rintro E' H' ⟨s18, rfl, hw⟩
    refine ACode_weak hw ?_
    have h := hks18
    refine (ACode_region ?_)
    refine AOps_q 24 _ rfl rfl rfl (QOp_move _ _ rfl rfl) ?_
    refine AOps_q 25 _ rfl rfl rfl (QOp_add _ _ _ _ _ _ _ rfl rfl rfl) ?_
    refine AOps_q 4 _ rfl rfl rfl (QOp_assign _ _ rfl rfl) ?_
    refine AOps_nil ?_
    exact ⟨k0, _, _, Nat.lt_succ_self _, Weak_keep 0 hm [1, 3, 4] [] _ _ rfl rfl rfl, _, rfl, rfl, h⟩
   ·have h := iteF hb8 h
    refine ACode_exit ?_
    cases h
    exact ⟨_, rfl, Weak_keep 0 hm [] [] _ _ rfl rfl rfl⟩
 rintro E' H' ⟨s19, rfl, hw⟩
 refine ACode_weak hw ?_
 have h := hks19
 refine ACode_seq (ACode_region ?_)
 refine AOps_q 2 _ rfl rfl rfl (QOp_assign _ _ rfl rfl) ?_
 refine AOps_nil ?_
 refine ACode_ret ?_
 cases h
 exact ⟨_, _, fun r a w h => ⟨r, h⟩, _, _, [], _, (.cons (ResV_tmp _ _ rfl) .nil), rfl, rfl, rfl, rfl, rfl⟩

-- loop.example/g01362/spec.l01All
def spec_l01All_l0 (p0 : List Int) (p1 : Int) : Nat → Int → Option (Sum (Unit) (Bool))
 | 0, _ => none
 | k0 + 1, x1 => (if decide (x1 < (p0.length : Int)) then (if 0 ≤ x1 ∧ x1 < (p0.length : Int) then (if !(spec_l01In (p0.getD x1.toNat 0) 0 (w64 (p1 - 1))) then some (.inr false) else spec_l01All_l0 p0 p1 k0 (w64 (x1 + 1))) else none) else some (.inl ()))
def spec_l01All (k : Nat) (p0 : List Int) (p1 : Int) : Option (Bool) :=
 (spec_l01All_l0 p0 p1 k 0 : Option (Sum (Unit) (Bool))).bind fun os6 => (match os6 with | .inl s6 => some true | .inr rr => some rr)
set_option maxRecDepth 100000 in
theorem spec_l01All_ac (k : Nat) (p0 : List Int) (p1 : Int) (r : Bool) (h : spec_l01All k p0 p1 = some r) : AC Try.prog 179 [.d (.sl none (intsD p0)), iV p1] [] (fun res H' => res = [bV r] ∧ H' = []) := by
 refine AC_of_body true Try.func179 rfl Try.ntmps179 (rvs := [.tmp 4]) rfl rfl (fun G hG => ?_)
 have hm : G.H.length = 0 := by rw [hG]; rfl
 have hz : zeroG G.H = true := by rw [hG]; rfl
 unfold spec_l01All at h
 refine ACode_seq (ACode_region ?_)
 refine AOps_q 4 _ rfl rfl rfl (QOp_assign _ _ rfl rfl) ?_
 refine AOps_nil ?_
 obtain ⟨os6, hss6, hks6⟩ := bindO h
 clear h
 refine ACode_seqJ (fun E' H' => ∃ s6 : Unit, os6 = .inl s6 ∧ Weak 20 G E' H' [] []) ?_ ?_
 ·have h := hss6
  clear hss6
  refine ACode_seq (ACode_region ?_)
  refine AOps_q 5 _ rfl rfl rfl (QOp_assign _ _ rfl rfl) ?_
  refine AOps_nil ?_
  refine ACode_block ?_
  refine ACode_loopW (fun k0 E H => ∃ (x1 : Int), E = [(0, .d (.sl none (intsD p0))), (1, iV p1), (5, iV x1)] ∧ H = [] ∧ spec_l01All_l0 p0 p1 k0 x1 = some os6) k _ _ (Weak_keep 0 hm [0, 1, 5] [] _ _ rfl rfl rfl) ⟨_, rfl, rfl, h⟩ ?_
  clear h
  rintro k0 E H ⟨x1, rfl, rfl, h⟩
  cases k0 with
  | zero => cases (show (none : Option (Sum (Unit) (Bool))) = some _ from h)
  | succ k0 =>
   rw [spec_l01All_l0] at h
   refine ACode_seq ?_
   refine ACode_seq (ACode_region ?_)
   refine AOps_q 6 _ rfl rfl rfl (QOp_move _ _ rfl rfl) ?_
   refine AOps_q 7 _ rfl rfl rfl (QOp_move _ _ rfl rfl) ?_
   refine AOps_q 8 _ rfl rfl rfl (QOp_len_sl _ _ _ _ _ _ _ (intsD_length _) rfl rfl rfl rfl Try.underlying24 rfl) ?_
   refine AOps_q 9 _ rfl rfl rfl (QOp_lss _ _ _ _ _ _ _ rfl rfl rfl) ?_
   refine AOps_nil ?_
   refine ACode_cond _ rfl (fun hb2 => ?_) (fun hb2 => ?_)
   ·have h := iteT hb2 h
    refine ACode_skip ?_
    refine ACode_seq ?_
    refine ACode_block ?_
    refine ACode_seq (ACode_region ?_)
    refine AOps_q 12 _ rfl rfl rfl (QOp_move _ _ rfl rfl) ?_
    refine AOps_q 13 _ rfl rfl rfl (QOp_move _ _ rfl rfl) ?_
    obtain ⟨hc3, h⟩ := guardO h
    refine AOps_q 14 _ rfl rfl rfl (QOp_indexAddr_sl _ _ _ _ _ _ _ _ rfl Try.underlying24 Try.sizeOf2 hc3.1 (by rw [intsD_length]; exact hc3.2) rfl rfl) ?_
    refine AOps_q 15 _ rfl rfl rfl (QOp_load_pv _ _ _ _ _ rfl Try.isAgg2 rfl (intsD_get _ _ 0 (by omega))) ?_
    refine AOps_q 16 _ rfl rfl rfl (QOp_move _ _ rfl rfl) ?_
    refine AOps_q 17 _ rfl rfl rfl (QOp_sub _ _ _ _ _ _ _ rfl rfl rfl) ?_
    refine AOps_call [] 18 _ _ _ _ _ _ _ _ _ _ rfl rfl rfl rfl rfl rfl rfl Try.call100 rfl (nodupB_sound _ rfl) rfl rfl rfl (spec_l01In_ac (p0.getD x1.toNat 0) 0 (w64 (p1 - 1))) ?_
    rintro _ _ ⟨rfl, rfl⟩
    refine ⟨(fun _ h => nomatch h), (allc (trivial) (fun _ h => nomatch h)), AOps_as 18 (v' := bV (spec_l01In (p0.getD x1.toNat 0) 0 (w64 (p1 - 1)))) (H' := []) rfl rfl ?_⟩
    refine AOps_q 19 _ rfl rfl rfl (QOp_not _ _ _ rfl rfl) ?_
    refine AOps_nil ?_
    refine ACode_cond _ rfl (fun hb5 => ?_) (fun hb5 => ?_)
    ·have h := iteT hb5 h
     refine ACode_seq (ACode_region ?_)
     refine AOps_q 4 _ rfl rfl rfl (QOp_assign _ _ rfl rfl) ?_
     refine AOps_nil ?_
     refine ACode_ret ?_
     cases h
     have h := hks6
     cases h
     exact ⟨_, _, fun r a w h => ⟨r, h⟩, _, _, [], _, (.cons (ResV_tmp _ _ rfl) .nil), rfl, rfl, rfl, rfl, rfl⟩
    ·have h := iteF hb5 h
     refine ACode_skip ?_
     refine (ACode_region ?_)
     refine AOps_q 10 _ rfl rfl rfl (QOp_move _ _ rfl rfl) ?_
     refine AOps_q 11 _ rfl rfl rfl (QOp_add _ _ _ _ _ _ _ rfl rfl rfl) ?_
     refine AOps_q 5 _ rfl rfl rfl (QOp_assign _ _ rfl rfl) ?_
     refine AOps_nil ?_
     exact ⟨k0, _, _, Nat.lt_succ_self _, Weak_keep 0 hm [0, 1, 5] [] _ _ rfl rfl rfl, _, rfl, rfl, h⟩
   ·have h := iteF hb2 h
    refine ACode_exit ?_
    cases h
    exact ⟨_, rfl, Weak_keep 0 hm [] [] _ _ rfl rfl rfl⟩
 rintro E' H' ⟨s6, rfl, hw⟩
 refine ACode_weak hw ?_
 have h := hks6
 refine ACode_seq (ACode_region ?_)
 refine AOps_q 4 _ rfl rfl rfl (QOp_assign _ _ rfl rfl) ?_
 refine AOps_nil ?_
 refine ACode_ret ?_
 cases h
 exact ⟨_, _, fun r a w h => ⟨r, h⟩, _, _, [], _, (.cons (ResV_tmp _ _ rfl) .nil), rfl, rfl, rfl, rfl, rfl⟩

-- loop.example/g01362/spec.l01Given
def spec_l01Given (k : Nat) (p0 : Col) (p1 : Int) (p2 : List Int) : Option (Int) :=
 ((spec_l01Is k p0).bind fun r1 => (if !r1 then some (.inr 1) else ((if !(spec_l01In p1 0 (w64 (p0.k - 1))) then some true else (spec_l01All k p2 p0.p).bind fun r5 => some (!r5)) : Option (Bool)).bind fun s6 => (if s6 then some (.inr 2) else some (.inl ()))) : Option (Sum (Unit) (Int))).bind fun os8 => (match os8 with | .inl s8 => some 0 | .inr rr => some rr)
set_option maxRecDepth 100000 in
theorem spec_l01Given_ac (k : Nat) (p0 : Col) (p1 : Int) (p2 : List Int) (r : Int) (h : spec_l01Given k p0 p1 p2 = some r) : AC Try.prog 107 [.d (.agg (colD p0)), iV p1, .d (.sl none (intsD p2))] [] (fun res H' => res = [iV r] ∧ H' = []) := by
 refine AC_of_body true Try.func107 rfl Try.ntmps107 (rvs := [.tmp 6]) rfl rfl (fun G hG => ?_)
 have hm : G.H.length = 0 := by rw [hG]; rfl
 have hz : zeroG G.H = true := by rw [hG]; rfl
 unfold spec_l01Given at h
 refine ACode_seq (ACode_region ?_)
 refine AOps_boxI 3 _ _ (.agg (colD p0)) (colD p0) rfl (colD_one _) rfl rfl rfl rfl rfl ?_
 refine AOps_q 6 _ rfl rfl rfl (QOp_assign _ _ rfl rfl) ?_
 refine AOps_nil ?_
 obtain ⟨os8, hss8, hks8⟩ := bindO h
 clear h
 refine ACode_seqJ (fun E' H' => ∃ s8 : Unit, os8 = .inl s8 ∧ Weak 25 G E' H' [] []) ?_ ?_
 ·have h := hss8
  clear hss8
  refine ACode_block ?_
  refine ACode_seq (ACode_region ?_)
  refine AOps_q 8 _ rfl rfl rfl (QOp_loadN_pv _ _ _ _ _ _ rfl Try.isAgg29 Try.sizeOf29 rfl (colD_all _) (colD_length _)) ?_
  obtain ⟨r1, hr1, h⟩ := bindO h
  refine AOps_call [] 9 _ _ _ _ _ _ _ _ _ _ rfl rfl rfl rfl rfl rfl rfl Try.call94 rfl (nodupB_sound _ rfl) rfl rfl rfl (spec_l01Is_ac k p0 _ hr1) ?_
  rintro _ _ ⟨rfl, rfl⟩
  refine ⟨(fun _ h => nomatch h), (allc (trivial) (fun _ h => nomatch h)), AOps_as 9 (v' := bV r1) (H' := []) rfl rfl ?_⟩
  refine AOps_q 10 _ rfl rfl rfl (QOp_not _ _ _ rfl rfl) ?_
  refine AOps_q 7 _ rfl rfl rfl (QOp_assign _ _ rfl rfl) ?_
  refine AOps_nil ?_
  refine ACode_cond _ rfl (fun hb2 => ?_) (fun hb2 => ?_)
  ·have h := iteT hb2 h
   refine ACode_seq (ACode_region ?_)
   refine AOps_q 6 _ rfl rfl rfl (QOp_assign _ _ rfl rfl) ?_
   refine AOps_nil ?_
   refine ACode_ret ?_
   cases h
   have h := hks8
   cases h
   exact ⟨_, _, fun r a w h => ⟨r, h⟩, _, _, [], _, (.cons (ResV_tmp _ _ rfl) .nil), rfl, rfl, rfl, rfl, rfl⟩
  ·have h := iteF hb2 h
   obtain ⟨s6, hss6, hks6⟩ := bindO h
   clear h
   refine ACode_seqJ (fun E' H' => Weak 25 G E' H' [(11, bV s6)] []) ?_ ?_
   ·have h := hss6
    clear hss6
    refine (ACode_region ?_)
    refine AOps_q 12 _ rfl rfl rfl (QOp_move _ _ rfl rfl) ?_
    refine AOps_q 13 _ rfl rfl rfl (QOp_fieldAddr_pv _ _ _ _ _ 1 _ _ rfl Try.underlying29 rfl _ Try.sizeOf2 rfl rfl) ?_
    refine AOps_q 14 _ rfl rfl rfl (QOp_load_pv _ _ _ _ _ rfl Try.isAgg2 rfl rfl) ?_
    refine AOps_q 15 _ rfl rfl rfl (QOp_sub _ _ _ _ _ _ _ rfl rfl rfl) ?_
    refine AOps_call [] 16 _ _ _ _ _ _ _ _ _ _ rfl rfl rfl rfl rfl rfl rfl Try.call100 rfl (nodupB_sound _ rfl) rfl rfl rfl (spec_l01In_ac p1 0 (w64 (p0.k - 1))) ?_
    rintro _ _ ⟨rfl, rfl⟩
    refine ⟨(fun _ h => nomatch h), (allc (trivial) (fun _ h => nomatch h)), AOps_as 16 (v' := bV (spec_l01In p1 0 (w64 (p0.k - 1)))) (H' := []) rfl rfl ?_⟩
    refine AOps_q 17 _ rfl rfl rfl (QOp_not _ _ _ rfl rfl) ?_
    refine AOps_q 18 _ rfl rfl rfl (QOp_move _ _ rfl rfl) ?_
    refine AOps_case 18 _ rfl (fun hb4 => ?_) (fun hb4 => ?_)
    ·have h := iteT hb4 h
     refine AOps_skip 19 rfl rfl rfl ?_
     refine AOps_skip 20 rfl rfl rfl ?_
     refine AOps_skip 21 rfl rfl rfl ?_
     refine AOps_skip 22 rfl rfl rfl ?_
     refine AOps_skip 23 rfl rfl rfl ?_
     refine AOps_q 24 _ rfl rfl rfl (QOp_pick_t _ _ _ _ rfl rfl rfl) ?_
     refine AOps_q 11 _ rfl rfl rfl (QOp_assign _ _ rfl rfl) ?_
     refine AOps_nil ?_
     cases h
     exact Weak_keep 0 hm [11] [] _ _ rfl rfl rfl
    ·have h := iteF hb4 h
     refine AOps_q 19 _ rfl rfl rfl (QOp_move _ _ rfl rfl) ?_
     refine AOps_q 20 _ rfl rfl rfl (QOp_fieldAddr_pv _ _ _ _ _ 0 _ _ rfl Try.underlying29 rfl _ Try.sizeOf2 rfl rfl) ?_
     refine AOps_q 21 _ rfl rfl rfl (QOp_load_pv _ _ _ _ _ rfl Try.isAgg2 rfl rfl) ?_
     obtain ⟨r5, hr5, h⟩ := bindO h
     refine AOps_call [] 22 _ _ _ _ _ _ _ _ _ _ rfl rfl rfl rfl rfl rfl rfl Try.call179 rfl (nodupB_sound _ rfl) rfl rfl rfl (spec_l01All_ac k p2 p0.p _ hr5) ?_
     rintro _ _ ⟨rfl, rfl⟩
     refine ⟨(fun _ h => nomatch h), (allc (trivial) (fun _ h => nomatch h)), AOps_as 22 (v' := bV r5) (H' := []) rfl rfl ?_⟩
     refine AOps_q 23 _ rfl rfl rfl (QOp_not _ _ _ rfl rfl) ?_
     refine AOps_q 24 _ rfl rfl rfl (QOp_pick_f _ _ _ _ rfl rfl rfl) ?_
     refine AOps_q 11 _ rfl rfl rfl (QOp_assign _ _ rfl rfl) ?_
     refine AOps_nil ?_
     cases h
     exact Weak_keep 0 hm [11] [] _ _ rfl rfl rfl
   intro E' H' hw
   refine ACode_weak hw ?_
   have h := hks6
   refine ACode_cond _ rfl (fun hb7 => ?_) (fun hb7 => ?_)
   ·have h := iteT hb7 h
    refine ACode_seq (ACode_region ?_)
    refine AOps_q 6 _ rfl rfl rfl (QOp_assign _ _ rfl rfl) ?_
    refine AOps_nil ?_
    refine ACode_ret ?_
    cases h
    have h := hks8
    cases h
    exact ⟨_, _, fun r a w h => ⟨r, h⟩, _, _, [], _, (.cons (ResV_tmp _ _ rfl) .nil), rfl, rfl, rfl, rfl, rfl⟩
   ·have h := iteF hb7 h
    refine ACode_skip ?_
    cases h
    exact ⟨_, rfl, Weak_keep 0 hm [] [] _ _ rfl rfl rfl⟩
 rintro E' H' ⟨s8, rfl, hw⟩
 refine ACode_weak hw ?_
 have h := hks8
 refine ACode_seq (ACode_region ?_)
 refine AOps_q 6 _ rfl rfl rfl (QOp_assign _ _ rfl rfl) ?_
 refine AOps_nil ?_
 refine ACode_ret ?_
 cases h
 exact ⟨_, _, fun r a w h => ⟨r, h⟩, _, _, [], _, (.cons (ResV_tmp _ _ rfl) .nil), rfl, rfl, rfl, rfl, rfl⟩

-- loop.example/g01362/spec.l01Around
def spec_l01Around_l0 (p0 : Col) (p1 : Int) (p2 : Int) : Nat → Int → Int → Option (Int)
 | 0, _, _ => none
 | k0 + 1, x1, x2 => (if decide (x2 < p0.p) then (((if !decide (x2 = p1) then (spec_l01At p0 p1 x2).bind fun r5 => some (decide (r5 = p2)) else some false) : Option (Bool)).bind fun s6 => (if s6 then (if 0 ≤ IntKind.u64.wrap x2 then some (bOr .i64 x1 (bShl .i64 1 (IntKind.u64.wrap x2))) else none) else some x1) : Option (Int)).bind fun s9 => spec_l01Around_l0 p0 p1 p2 k0 s9 (w64 (x2 + 1)) else some x1)
def spec_l01Around (k : Nat) (p0 : Col) (p1 : Int) (p2 : Int) : Option (Int) :=
 (spec_l01Around_l0 p0 p1 p2 k 0 0 : Option (Int)).bind fun s10 => some s10
set_option maxRecDepth 100000 in
theorem spec_l01Around_ac (k : Nat) (p0 : Col) (p1 : Int) (p2 : Int) (r : Int) (h : spec_l01Around k p0 p1 p2 = some r) : AC Try.prog 133 [.d (.agg (colD p0)), iV p1, iV p2] [] (fun res H' => res = [iV r] ∧ H' = []) := by
 refine AC_of_body true Try.func133 rfl Try.ntmps133 (rvs := [.tmp 6]) rfl rfl (fun G hG => ?_)
 have hm : G.H.length = 0 := by rw [hG]; rfl
 have hz : zeroG G.H = true := by rw [hG]; rfl
 unfold spec_l01Around at h
 refine ACode_seq (ACode_region ?_)
 refine AOps_boxI 3 _ _ (.agg (colD p0)) (colD p0) rfl (colD_one _) rfl rfl rfl rfl rfl ?_
 refine AOps_q 6 _ rfl rfl rfl (QOp_assign _ _ rfl rfl) ?_
 refine AOps_nil ?_
 refine ACode_seq (ACode_region ?_)
 refine AOps_q 7 _ rfl rfl rfl (QOp_assign _ _ rfl rfl) ?_
 refine AOps_nil ?_
 obtain ⟨s10, hss10, hks10⟩ := bindO h
 clear h
 refine ACode_seqJ (fun E' H' => Weak 32 G E' H' [(7, iV s10)] []) ?_ ?_
 ·have h := hss10
  clear hss10
  refine ACode_seq (ACode_region ?_)
  refine AOps_q 8 _ rfl rfl rfl (QOp_assign _ _ rfl rfl) ?_
  refine AOps_nil ?_
  refine ACode_block ?_
  refine ACode_loopW (fun k0 E H => ∃ (x1 : Int) (x2 : Int), E = [(1, iV p1), (2, iV p2), (3, .d (.pv (colD p0) 0)), (7, iV x1), (8, iV x2)] ∧ H = [] ∧ spec_l01Around_l0 p0 p1 p2 k0 x1 x2 = some s10) k _ _ (Weak_keep 0 hm [1, 2, 3, 7, 8] [] _ _ rfl rfl rfl) ⟨_, _, rfl, rfl, h⟩ ?_
  clear h
  rintro k0 E H ⟨x1, x2, rfl, rfl, h⟩
  cases k0 with
  | zero => cases (show (none : Option (Int)) = some _ from h)
  | succ k0 =>
   rw [spec_l01Around_l0] at h
   refine ACode_seq ?_
   refine ACode_seq (ACode_region ?_)
   refine AOps_q 9 _ rfl rfl rfl (QOp_move _ _ rfl rfl) ?_
   refine AOps_q 10 _ rfl rfl rfl (QOp_fieldAddr_pv _ _ _ _ _ 0 _ _ rfl Try.underlying29 rfl _ Try.sizeOf2 rfl rfl) ?_
   refine AOps_q 11 _ rfl rfl rfl (QOp_load_pv _ _ _ _ _ rfl Try.isAgg2 rfl rfl) ?_
   refine AOps_q 12 _ rfl rfl rfl (QOp_lss _ _ _ _ _ _ _ rfl rfl rfl) ?_
   refine AOps_nil ?_
   refine ACode_cond _ rfl (fun hb3 => ?_) (fun hb3 => ?_)
   ·have h := iteT hb3 h
    refine ACode_skip ?_
    obtain ⟨s9, hss9, hks9⟩ := bindO h
    clear h
    refine ACode_seqJ (fun E' H' => Weak 32 G E' H' [(1, iV p1), (2, iV p2), (3, .d (.pv (colD p0) 0)), (7, iV s9), (8, iV x2)] []) ?_ ?_
    ·have h := hss9
     clear hss9
     refine ACode_block ?_
     obtain ⟨s6, hss6, hks6⟩ := bindO h
     clear h
     refine ACode_seqJ (fun E' H' => Weak 32 G E' H' [(1, iV p1), (2, iV p2), (3, .d (.pv (colD p0) 0)), (7, iV x1), (8, iV x2), (25, bV s6)] []) ?_ ?_
     ·have h := hss6
      clear hss6
      refine (ACode_region ?_)
      refine AOps_q 15 _ rfl rfl rfl (QOp_move _ _ rfl rfl) ?_
      refine AOps_q 16 _ rfl rfl rfl (QOp_move _ _ rfl rfl) ?_
      refine AOps_q 17 _ rfl rfl rfl (QOp_neq _ _ _ _ _ _ _ rfl rfl rfl) ?_
      refine AOps_q 18 _ rfl rfl rfl (QOp_move _ _ rfl rfl) ?_
      refine AOps_case 18 _ rfl (fun hb4 => ?_) (fun hb4 => ?_)
      ·have h := iteT hb4 h
       refine AOps_q 19 _ rfl rfl rfl (QOp_loadN_pv _ _ _ _ _ _ rfl Try.isAgg29 Try.sizeOf29 rfl (colD_all _) (colD_length _)) ?_
       refine AOps_q 20 _ rfl rfl rfl (QOp_move _ _ rfl rfl) ?_
       refine AOps_q 21 _ rfl rfl rfl (QOp_move _ _ rfl rfl) ?_
       obtain ⟨r5, hr5, h⟩ := bindO h
       refine AOps_call [] 22 _ _ _ _ _ _ _ _ _ _ rfl rfl rfl rfl rfl rfl rfl Try.call95 rfl (nodupB_sound _ rfl) rfl rfl rfl (spec_l01At_ac p0 p1 x2 _ hr5) ?_
       rintro _ _ ⟨rfl, rfl⟩
       refine ⟨(fun _ h => nomatch h), (allc (trivial) (fun _ h => nomatch h)), AOps_as 22 (v' := iV r5) (H' := []) rfl rfl ?_⟩
       refine AOps_q 23 _ rfl rfl rfl (QOp_move _ _ rfl rfl) ?_
       refine AOps_q 24 _ rfl rfl rfl (QOp_eql _ _ _ _ _ _ _ rfl rfl rfl) ?_
       refine AOps_q 25 _ rfl rfl rfl (QOp_pick_t _ _ _ _ rfl rfl rfl) ?_
       refine AOps_nil ?_
       cases h
       exact Weak_keep 0 hm [1, 2, 3, 7, 8, 25] [] _ _ rfl rfl rfl
      ·have h := iteF hb4 h
       refine AOps_skip 19 rfl rfl rfl ?_
       refine AOps_skip 20 rfl rfl rfl ?_
       refine AOps_skip 21 rfl rfl rfl ?_
       refine AOps_skip 22 rfl rfl rfl ?_
       refine AOps_skip 23 rfl rfl rfl ?_
       refine AOps_skip 24 rfl rfl rfl ?_
       refine AOps_q 25 _ rfl rfl rfl (QOp_pick_f _ _ _ _ rfl rfl rfl) ?_
       refine AOps_nil ?_
       cases h
       exact Weak_keep 0 hm [1, 2, 3, 7, 8, 25] [] _ _ rfl rfl rfl
     intro E' H' hw
     refine ACode_weak hw ?_
     have h := hks6
     refine ACode_cond _ rfl (fun hb7 => ?_) (fun hb7 => ?_)
     ·have h := iteT hb7 h
      refine (ACode_region ?_)
      refine AOps_q 26 _ rfl rfl rfl (QOp_move _ _ rfl rfl) ?_
      refine AOps_q 27 _ rfl rfl rfl (QOp_move _ _ rfl rfl) ?_
      refine AOps_q 28 _ rfl rfl rfl (QOp_conv _ _ _ _ _ _ rfl rfl Try.underlying106 rfl) ?_
      obtain ⟨hc8, h⟩ := guardO h
      refine AOps_q 29 _ rfl rfl rfl (QOp_shl _ _ _ _ _ _ _ _ hc8 rfl rfl rfl) ?_
      refine AOps_q 30 _ rfl rfl rfl (QOp_or _ _ _ _ _ _ _ rfl rfl rfl) ?_
      refine AOps_q 7 _ rfl rfl rfl (QOp_assign _ _ rfl rfl) ?_
      refine AOps_nil ?_
      cases h
      exact Weak_keep 0 hm [1, 2, 3, 7, 8] [] _ _ rfl rfl rfl
     ·have h := iteF hb7 h
      refine ACode_skip ?_
      cases h
      exact Weak_keep 0 hm [1, 2, 3, 7, 8] [] _ _ rfl rfl rfl
    intro E' H' hw
    refine ACode_weak hw ?_
    have h := hks9
    refine (ACode_region ?_)
    refine AOps_q 13 _ rfl rfl rfl (QOp_move _ _ rfl rfl) ?_
    refine AOps_q 14 _ rfl rfl rfl (QOp_add _ _ _ _ _ _ _ rfl rfl rfl) ?_
    refine AOps_q 8 _ rfl rfl rfl (QOp_assign _ _ rfl rfl) ?_
    refine AOps_nil ?_
    exact ⟨k0, _, _, Nat.lt_succ_self _, Weak_keep 0 hm [1, 2, 3, 7, 8] [] _ _ rfl rfl rfl, _, _, rfl, rfl, h⟩
   ·have h := iteF hb3 h
    refine ACode_exit ?_
    cases h
    exact Weak_keep 0 hm [7] [] _ _ rfl rfl rfl
 intro E' H' hw
 refine ACode_weak hw ?_
 have h := hks10
 refine ACode_seq (ACode_region ?_)
 refine AOps_q 31 _ rfl rfl rfl (QOp_move _ _ rfl rfl) ?_
 refine AOps_q 6 _ rfl rfl rfl (QOp_assign _ _ rfl rfl) ?_
 refine AOps_nil ?_
 refine ACode_ret ?_
 cases h
 exact ⟨_, _, fun r a w h => ⟨r, h⟩, _, _, [], _, (.cons (ResV_tmp _ _ rfl) .nil), rfl, rfl, rfl, rfl, rfl⟩

-- loop.example/g01362/spec.l02Rows
def spec_l02Rows_l0 (k : Nat) (p0 : Col) (p1 : Int) : Nat → Int → (List Int) → Option (List Int)
 | 0, _, _ => none
 | k0 + 1, x1, x2 => (if decide (x1 < p0.p) then (spec_l01Around k p0 x1 p1).bind fun r4 => (if x2.length + ([r4]).length ≤ 1099511627776 then spec_l02Rows_l0 k p0 p1 k0 (w64 (x1 + 1)) (x2 ++ ([r4])) else none) else some x2)
def spec_l02Rows (k : Nat) (p0 : Col) (p1 : Int) : Option (List Int) :=
 (spec_l02Rows_l0 k p0 p1 k 0 ([] : List Int) : Option (List Int)).bind fun s6 => some s6
set_option maxRecDepth 100000 in
theorem spec_l02Rows_ac (k : Nat) (p0 : Col) (p1 : Int) (r : List Int) (h : spec_l02Rows k p0 p1 = some r) : AC Try.prog 113 [.d (.agg (colD p0)), iV p1] [] (fun res H' => res = [.vec 0 0] ∧ H' = [.vec 0 (intsD r)]) := by
 refine AC_of_body true Try.func113 rfl Try.ntmps113 (rvs := [.tmp 4]) rfl rfl (fun G hG => ?_)
 have hm : G.H.length = 0 := by rw [hG]; rfl
 have hz : zeroG G.H = true := by rw [hG]; rfl
 unfold spec_l02Rows at h
 refine ACode_seq (ACode_region ?_)
 refine AOps_boxI 2 _ _ (.agg (colD p0)) (colD p0) rfl (colD_one _) rfl rfl rfl rfl rfl ?_
 refine AOps_q 4 _ rfl rfl rfl (QOp_assign _ _ rfl rfl) ?_
 refine AOps_nil ?_
 refine ACode_seq (ACode_region ?_)
 refine AOps_buildSlice 7 _ _ _ [] (intsD ([] : List Int)) _ rfl rfl rfl rfl rfl (by decide) Try.underlying24 Try.sizeOf2 (zero_of Try.typeInfo2 rfl) rfl rfl (intsD_one _) ?_
 refine AOps_q 5 _ rfl rfl rfl (QOp_assign _ _ rfl rfl) ?_
 refine AOps_nil ?_
 obtain ⟨s6, hss6, hks6⟩ := bindO h
 clear h
 refine ACode_seqJ (fun E' H' => Weak 22 G E' H' [(5, .vec 0 0)] [.vec 0 (intsD s6)]) ?_ ?_
 ·have h := hss6
  clear hss6
  refine ACode_seq (ACode_region ?_)
  refine AOps_q 6 _ rfl rfl rfl (QOp_assign _ _ rfl rfl) ?_
  refine AOps_nil ?_
  refine ACode_block ?_
  refine ACode_loopW (fun k0 E H => ∃ (x1 : Int) (x2 : List Int), E = [(1, iV p1), (2, .d (.pv (colD p0) 0)), (5, .vec 0 0), (6, iV x1)] ∧ H = [.vec 0 (intsD x2)] ∧ spec_l02Rows_l0 k p0 p1 k0 x1 x2 = some s6) k _ _ (Weak_keep 0 hm [1, 2, 5, 6] [0] _ _ rfl rfl rfl) ⟨_, _, rfl, rfl, h⟩ ?_
  clear h
  rintro k0 E H ⟨x1, x2, rfl, rfl, h⟩
  cases k0 with
  | zero => cases (show (none : Option (List Int)) = some _ from h)
  | succ k0 =>
   rw [spec_l02Rows_l0] at h
   refine ACode_seq ?_
   refine ACode_seq (ACode_region ?_)
   refine AOps_q 8 _ rfl rfl rfl (QOp_move _ _ rfl rfl) ?_
   refine AOps_q 9 _ rfl rfl rfl (QOp_fieldAddr_pv _ _ _ _ _ 0 _ _ rfl Try.underlying29 rfl _ Try.sizeOf2 rfl rfl) ?_
   refine AOps_q 10 _ rfl rfl rfl (QOp_load_pv _ _ _ _ _ rfl Try.isAgg2 rfl rfl) ?_
   refine AOps_q 11 _ rfl rfl rfl (QOp_lss _ _ _ _ _ _ _ rfl rfl rfl) ?_
   refine AOps_nil ?_
   refine ACode_cond _ rfl (fun hb3 => ?_) (fun hb3 => ?_)
   ·have h := iteT hb3 h
    refine ACode_skip ?_
    refine ACode_seq ?_
    refine ACode_block ?_
    refine (ACode_region ?_)
    refine AOps_q 14 _ rfl rfl rfl (QOp_move _ _ rfl rfl) ?_
    refine AOps_q 15 _ rfl rfl rfl (QOp_loadN_pv _ _ _ _ _ _ rfl Try.isAgg29 Try.sizeOf29 rfl (colD_all _) (colD_length _)) ?_
    refine AOps_q 16 _ rfl rfl rfl (QOp_move _ _ rfl rfl) ?_
    refine AOps_q 17 _ rfl rfl rfl (QOp_move _ _ rfl rfl) ?_
    obtain ⟨r4, hr4, h⟩ := bindO h
    refine AOps_call [] 18 _ _ _ _ _ _ _ _ _ _ rfl rfl rfl rfl rfl rfl rfl Try.call133 rfl (nodupB_sound _ rfl) rfl rfl rfl (spec_l01Around_ac k p0 x1 p1 _ hr4) ?_
    rintro _ _ ⟨rfl, rfl⟩
    refine ⟨(fun _ h => nomatch h), (allc (trivial) (fun _ h => nomatch h)), AOps_as 18 (v' := iV r4) (H' := [.vec 0 (intsD x2)]) rfl rfl ?_⟩
    refine AOps_buildSlice 19 _ _ _ [_] (intsD ([r4])) _ rfl rfl rfl rfl rfl (by decide) Try.underlying24 Try.sizeOf2 (zero_of Try.typeInfo2 rfl) rfl rfl (intsD_one _) ?_
    obtain ⟨hc5, h⟩ := guardO h
    refine AOps_append 20 _ _ _ _ _ _ _ _ _ _ _ _ rfl rfl rfl rfl rfl rfl rfl Try.underlying24 Try.type2 rfl rfl rfl (by decide) rfl rfl rfl rfl (intsD_one _) (by rw [intsD_length, intsD_length]; exact hc5) ?_
    rw [intsD_app]
    refine AOps_q 5 _ rfl rfl rfl (QOp_assign _ _ rfl rfl) ?_
    refine AOps_nil ?_
    refine (ACode_region ?_)
    refine AOps_q 12 _ rfl rfl rfl (QOp_move _ _ rfl rfl) ?_
    refine AOps_q 13 _ rfl rfl rfl (QOp_add _ _ _ _ _ _ _ rfl rfl rfl) ?_
    refine AOps_q 6 _ rfl rfl rfl (QOp_assign _ _ rfl rfl) ?_
    refine AOps_nil ?_
    exact ⟨k0, _, _, Nat.lt_succ_self _, Weak_trans (Weak_keep 0 hm [1, 2, 5, 6] [0] _ _ rfl rfl rfl) (Weak_reset 0 hm hz [1, 2, 5, 6] _ _ rfl rfl), _, _, rfl, rfl, h⟩
   ·have h := iteF hb3 h
    refine ACode_exit ?_
    cases h
    exact Weak_keep 0 hm [5] [0] _ _ rfl rfl rfl
 intro E' H' hw
 refine ACode_weak hw ?_
 have h := hks6
 refine ACode_seq (ACode_region ?_)
 refine AOps_q 21 _ rfl rfl rfl (QOp_move _ _ rfl rfl) ?_
 refine AOps_q 4 _ rfl rfl rfl (QOp_assign _ _ rfl rfl) ?_
 refine AOps_nil ?_
 refine ACode_ret ?_
 cases h
 exact ⟨_, _, Weak_reset 0 hm hz [4] _ _ rfl rfl, _, _, [0], _, (.cons (ResV_tmp _ _ rfl) .nil), rfl, rfl, rfl, rfl, rfl⟩

-- loop.example/g01362/spec.l01Ones
def spec_l01Ones_l0 : Nat → Int → Int → Option (Int)
 | 0, _, _ => none
 | k0 + 1, x1, x2 => (if decide (0 < x1) then spec_l01Ones_l0 k0 (w64 (x1.tdiv 2)) (w64 (x2 + (x1.tmod 2))) else some x2)
def spec_l01Ones (k : Nat) (p0 : Int) : Option (Int) :=
 (spec_l01Ones_l0 k p0 0 : Option (Int)).bind fun s4 => some s4
set_option maxRecDepth 100000 in
theorem spec_l01Ones_ac (k : Nat) (p0 : Int) (r : Int) (h : spec_l01Ones k p0 = some r) : AC Try.prog 132 [iV p0] [] (fun res H' => res = [iV r] ∧ H' = []) := by
 refine AC_of_body true Try.func132 rfl Try.ntmps132 (rvs := [.tmp 2]) rfl rfl (fun G hG => ?_)
 have hm : G.H.length = 0 := by rw [hG]; rfl
 have hz : zeroG G.H = true := by rw [hG]; rfl
 unfold spec_l01Ones at h
 refine ACode_seq (ACode_region ?_)
 refine AOps_q 2 _ rfl rfl rfl (QOp_assign _ _ rfl rfl) ?_
 refine AOps_nil ?_
 refine ACode_seq (ACode_region ?_)
 refine AOps_q 3 _ rfl rfl rfl (QOp_assign _ _ rfl rfl) ?_
 refine AOps_nil ?_
 obtain ⟨s4, hss4, hks4⟩ := bindO h
 clear h
 refine ACode_seqJ (fun E' H' => Weak 13 G E' H' [(3, iV s4)] []) ?_ ?_
 ·have h := hss4
  clear hss4
  refine ACode_block ?_
  refine ACode_loopW (fun k0 E H => ∃ (x1 : Int) (x2 : Int), E = [(0, iV x1), (3, iV x2)] ∧ H = [] ∧ spec_l01Ones_l0 k0 x1 x2 = some s4) k _ _ (Weak_keep 0 hm [0, 3] [] _ _ rfl rfl rfl) ⟨_, _, rfl, rfl, h⟩ ?_
  clear h
  rintro k0 E H ⟨x1, x2, rfl, rfl, h⟩
  cases k0 with
  | zero => cases (show (none : Option (Int)) = some _ from h)
  | succ k0 =>
   rw [spec_l01Ones_l0] at h
   refine ACode_seq ?_
   refine ACode_seq (ACode_region ?_)
   refine AOps_q 4 _ rfl rfl rfl (QOp_move _ _ rfl rfl) ?_
   refine AOps_q 5 _ rfl rfl rfl (QOp_gtr _ _ _ _ _ _ _ rfl rfl rfl) ?_
   refine AOps_nil ?_
   refine ACode_cond _ rfl (fun hb3 => ?_) (fun hb3 => ?_)
   ·have h := iteT hb3 h
    refine ACode_skip ?_
    refine ACode_seq ?_
    refine ACode_block ?_
    refine (ACode_region ?_)
    refine AOps_q 8 _ rfl rfl rfl (QOp_move _ _ rfl rfl) ?_
    refine AOps_q 9 _ rfl rfl rfl (QOp_move _ _ rfl rfl) ?_
    refine AOps_q 10 _ rfl rfl rfl (QOp_rem _ _ _ _ _ _ _ (by decide) rfl rfl rfl) ?_
    refine AOps_q 11 _ rfl rfl rfl (QOp_add _ _ _ _ _ _ _ rfl rfl rfl) ?_
    refine AOps_q 3 _ rfl rfl rfl (QOp_assign _ _ rfl rfl) ?_
    refine AOps_nil ?_
    refine (ACode_region ?_)
    refine AOps_q 6 _ rfl rfl rfl (QOp_move _ _ rfl rfl) ?_
    refine AOps_q 7 _ rfl rfl rfl (QOp_quo _ _ _ _ _ _ _ (by decide) rfl rfl rfl) ?_
    refine AOps_q 0 _ rfl rfl rfl (QOp_assign _ _ rfl rfl) ?_
    refine AOps_nil ?_
    exact ⟨k0, _, _, Nat.lt_succ_self _, Weak_keep 0 hm [0, 3] [] _ _ rfl rfl rfl, _, _, rfl, rfl, h⟩
   ·have h := iteF hb3 h
    refine ACode_exit ?_
    cases h
    exact Weak_keep 0 hm [3] [] _ _ rfl rfl rfl
 intro E' H' hw
 refine ACode_weak hw ?_
 have h := hks4
 refine ACode_seq (ACode_region ?_)
 refine AOps_q 12 _ rfl rfl rfl (QOp_move _ _ rfl rfl) ?_
 refine AOps_q 2 _ rfl rfl rfl (QOp_assign _ _ rfl rfl) ?_
 refine AOps_nil ?_
 refine ACode_ret ?_
 cases h
 exact ⟨_, _, fun r a w h => ⟨r, h⟩, _, _, [], _, (.cons (ResV_tmp _ _ rfl) .nil), rfl, rfl, rfl, rfl, rfl⟩

-- loop.example/g01362/spec.l02Go
def spec_l02Go_l0 (self : (List Int) → (List Int) → Int → Int → (List (List Int)) → Int → Option (List (List Int))) (p0 : List Int) (p1 : List Int) (p2 : Int) (p3 : Int) (p5 : Int) : Nat → Int → (List (List Int)) → Option (List (List Int))
 | 0, _, _ => none
 | k0 + 1, x6, x7 => (letO (if decide (x6 < (p0.length : Int)) then decide ((x7.length : Int) < p5) else false) fun (s9 : Bool) => (if s9 then some (.inl ()) else (some x7).bind fun rr => some (.inr rr)) : Option (Sum (Unit) (List (List Int)))).bind fun os11 => (match os11 with | .inl s11 => ((if 0 ≤ IntKind.u64.wrap x6 then (if decide (bAnd .i64 (bShr .i64 p2 (IntKind.u64.wrap x6)) 1 = 1) then (if 0 ≤ x6 ∧ x6 < (p0.length : Int) then (spec_l01Own p1).bind fun r15 => (if r15.length + ([x6]).length ≤ 1099511627776 then (if 0 ≤ IntKind.u64.wrap x6 then (if 0 ≤ IntKind.u64.wrap x6 then (self p0 (r15 ++ ([x6])) (bShl .i64 (bShr .i64 (bAnd .i64 p2 (p0.getD x6.toNat 0)) (IntKind.u64.wrap x6)) (IntKind.u64.wrap x6)) p3 x7 p5).bind fun r19 => some r19 else none) else none) else none) else none) else some x7) else none) : Option (List (List Int))).bind fun s20 => spec_l02Go_l0 self p0 p1 p2 p3 p5 k0 (w64 (x6 + 1)) s20 | .inr rr => some rr)
def spec_l02Go_body (self : (List Int) → (List Int) → Int → Int → (List (List Int)) → Int → Option (List (List Int))) (k : Nat) (p0 : List Int) (p1 : List Int) (p2 : Int) (p3 : Int) (p4 : List (List Int)) (p5 : Int) : Option (List (List Int)) :=
 (if decide ((p1.length : Int) = p3) then (spec_l01Own p1).bind fun r2 => (if p4.length + ([r2]).length ≤ 1099511627776 then some (p4 ++ ([r2])) else none) else (spec_l01Ones k p2).bind fun r4 => (if decide (w64 ((p1.length : Int) + r4) < p3) then some p4 else (spec_l02Go_l0 self p0 p1 p2 p3 p5 k 0 p4 : Option (List (List Int))).bind fun s21 => some s21))
def spec_l02Go : Nat → (List Int) → (List Int) → Int → Int → (List (List Int)) → Int → Option (List (List Int))
 | 0, _, _, _, _, _, _ => none
 | k + 1, p0, p1, p2, p3, p4, p5 => spec_l02Go_body (spec_l02Go k) k p0 p1 p2 p3 p4 p5
set_option maxRecDepth 100000 in
theorem spec_l02Go_ac (k : Nat) (p0 : List Int) (p1 : List Int) (p2 : Int) (p3 : Int) (p4 : List (List Int)) (p5 : Int) (r : List (List Int)) (h : spec_l02Go k p0 p1 p2 p3 p4 p5 = some r) : AC Try.prog 193 [.d (.sl none (intsD p0)), .d (.sl none (intsD p1)), iV p2, iV p3, .vec 0 0, iV p5] [.vec 0 (rowsD p4)] (fun res H' => res = [.vec 0 1] ∧ H' = [.vec 1 (rowsD r)]) := by
 induction k generalizing p0 p1 p2 p3 p4 p5 r with
 | zero => simp [spec_l02Go] at h
 | succ k ih =>
  rw [spec_l02Go] at h
  obtain ⟨self, hself, hk⟩ : ∃ self : (List Int) → (List Int) → Int → Int → (List (List Int)) → Int → Option (List (List Int)), (∀ (p0 : List Int) (p1 : List Int) (p2 : Int) (p3 : Int) (p4 : List (List Int)) (p5 : Int) (r : List (List Int)), self p0 p1 p2 p3 p4 p5 = some r → AC Try.prog 193 [.d (.sl none (intsD p0)), .d (.sl none (intsD p1)), iV p2, iV p3, .vec 0 0, iV p5] [.vec 0 (rowsD p4)] (fun res H' => res = [.vec 0 1] ∧ H' = [.vec 1 (rowsD r)])) ∧ spec_l02Go k = self := ⟨spec_l02Go k, fun p0 p1 p2 p3 p4 p5 r h => ih p0 p1 p2 p3 p4 p5 r h, rfl⟩
  rw [hk] at h
  clear ih hk
  refine AC_of_body true Try.func193 rfl Try.ntmps193 (rvs := [.tmp 12]) rfl rfl (fun G hG => ?_)
  have hm : G.H.length = 1 := by rw [hG]; rfl
  have hz : zeroG G.H = true := by rw [hG]; rfl
  refine ACode_weak (Weak_ren 4 0 _ rfl rfl) ?_
  unfold spec_l02Go_body at h
  refine ACode_seq (ACode_region ?_)
  refine AOps_q 12 _ rfl rfl rfl (QOp_assign _ _ rfl rfl) ?_
  refine AOps_nil ?_
  refine ACode_seq ?_
  refine ACode_seq (ACode_region ?_)
  refine AOps_q 14 _ rfl rfl rfl (QOp_move _ _ rfl rfl) ?_
  refine AOps_q 15 _ rfl rfl rfl (QOp_len_sl _ _ _ _ _ _ _ (intsD_length _) rfl rfl rfl rfl Try.underlying24 rfl) ?_
  refine AOps_q 16 _ rfl rfl rfl (QOp_move _ _ rfl rfl) ?_
  refine AOps_q 17 _ rfl rfl rfl (QOp_eql _ _ _ _ _ _ _ rfl rfl rfl) ?_
  refine AOps_nil ?_
  refine ACode_cond _ rfl (fun hb1 => ?_) (fun hb1 => ?_)
  ·have h := iteT hb1 h
   refine ACode_seq (ACode_region ?_)
   refine AOps_q 18 _ rfl rfl rfl (QOp_move _ _ rfl rfl) ?_
   refine AOps_q 19 _ rfl rfl rfl (QOp_move _ _ rfl rfl) ?_
   obtain ⟨r2, hr2, h⟩ := bindO h
   refine AOps_call [] 20 _ _ _ _ _ _ _ _ _ _ rfl rfl rfl rfl rfl rfl rfl Try.call227 rfl (nodupB_sound _ rfl) rfl rfl rfl (spec_l01Own_ac p1 _ hr2) ?_
   rintro _ _ ⟨rfl, rfl⟩
   refine ⟨(allc (fun _ _ => trivial) (fun _ h => nomatch h)), (allc (trivial) (fun _ h => nomatch h)), AOps_as 20 (v' := .vec 1 0) (H' := [.vec 1 (rowsD p4), .vec 0 (intsD r2)]) rfl rfl ?_⟩
   refine AOps_freeze 20 1 0 _ rfl rfl ?_
   refine AOps_buildSlice 21 _ _ _ [_] (rowsD ([r2])) _ rfl rfl rfl rfl rfl (by decide) Try.underlying45 Try.sizeOf24 (zero_of Try.typeInfo24 rfl) rfl rfl (rowsD_one _) ?_
   obtain ⟨hc3, h⟩ := guardO h
   refine AOps_append 22 _ _ _ _ _ _ _ _ _ _ _ _ rfl rfl rfl rfl rfl rfl rfl Try.underlying45 Try.type24 rfl rfl rfl (by decide) rfl rfl rfl rfl (rowsD_one _) (by rw [rowsD_length, rowsD_length]; exact hc3) ?_
   rw [rowsD_app]
   refine AOps_q 12 _ rfl rfl rfl (QOp_assign _ _ rfl rfl) ?_
   refine AOps_nil ?_
   refine ACode_ret ?_
   cases h
   exact ⟨_, _, Weak_reset 1 hm hz [12] _ _ rfl rfl, _, _, [], _, (.cons (ResV_tmp _ _ rfl) .nil), rfl, rfl, rfl, rfl, rfl⟩
  ·have h := iteF hb1 h
   refine ACode_skip ?_
   refine ACode_seq ?_
   refine ACode_seq (ACode_region ?_)
   refine AOps_q 23 _ rfl rfl rfl (QOp_move _ _ rfl rfl) ?_
   refine AOps_q 24 _ rfl rfl rfl (QOp_len_sl _ _ _ _ _ _ _ (intsD_length _) rfl rfl rfl rfl Try.underlying24 rfl) ?_
   refine AOps_q 25 _ rfl rfl rfl (QOp_move _ _ rfl rfl) ?_
   obtain ⟨r4, hr4, h⟩ := bindO h
   refine AOps_call [] 26 _ _ _ _ _ _ _ _ _ _ rfl rfl rfl rfl rfl rfl rfl Try.call132 rfl (nodupB_sound _ rfl) rfl rfl rfl (spec_l01Ones_ac k p2 _ hr4) ?_
   rintro _ _ ⟨rfl, rfl⟩
   refine ⟨(fun _ h => nomatch h), (allc (trivial) (fun _ h => nomatch h)), AOps_as 26 (v' := iV r4) (H' := [.vec 1 (rowsD p4)]) rfl rfl ?_⟩
   refine AOps_q 27 _ rfl rfl rfl (QOp_add _ _ _ _ _ _ _ rfl rfl rfl) ?_
   refine AOps_q 28 _ rfl rfl rfl (QOp_move _ _ rfl rfl) ?_
   refine AOps_q 29 _ rfl rfl rfl (QOp_lss _ _ _ _ _ _ _ rfl rfl rfl) ?_
   refine AOps_nil ?_
   refine ACode_cond _ rfl (fun hb5 => ?_) (fun hb5 => ?_)
   ·have h := iteT hb5 h
    refine ACode_seq (ACode_region ?_)
    refine AOps_q 30 _ rfl rfl rfl (QOp_move _ _ rfl rfl) ?_
    refine AOps_q 12 _ rfl rfl rfl (QOp_assign _ _ rfl rfl) ?_
    refine AOps_nil ?_
    refine ACode_ret ?_
    cases h
    exact ⟨_, _, fun r a w h => ⟨r, h⟩, _, _, [], _, (.cons (ResV_tmp _ _ rfl) .nil), rfl, rfl, rfl, rfl, rfl⟩
   ·have h := iteF hb5 h
    refine ACode_skip ?_
    obtain ⟨s21, hss21, hks21⟩ := bindO h
    clear h
    refine ACode_seqJ (fun E' H' => Weak 72 G E' H' [(4, .vec 0 1)] [.vec 1 (rowsD s21)]) ?_ ?_
    ·have h := hss21
     clear hss21
     refine ACode_seq (ACode_region ?_)
     refine AOps_q 13 _ rfl rfl rfl (QOp_assign _ _ rfl rfl) ?_
     refine AOps_nil ?_
     refine ACode_block ?_
     refine ACode_loopW (fun k0 E H => ∃ (x6 : Int) (x7 : List (List Int)), E = [(0, .d (.sl none (intsD p0))), (1, .d (.sl none (intsD p1))), (2, iV p2), (3, iV p3), (4, .vec 0 1), (5, iV p5), (13, iV x6)] ∧ H = [.vec 1 (rowsD x7)] ∧ spec_l02Go_l0 self p0 p1 p2 p3 p5 k0 x6 x7 = some s21) k _ _ (Weak_keep 1 hm [0, 1, 2, 3, 4, 5, 13] [] _ _ rfl rfl rfl) ⟨_, _, rfl, rfl, h⟩ ?_
     clear h
     rintro k0 E H ⟨x6, x7, rfl, rfl, h⟩
     cases k0 with
     | zero => cases (show (none : Option (List (List Int))) = some _ from h)
     | succ k0 =>
      rw [spec_l02Go_l0] at h
      obtain ⟨os11, hss11, hks11⟩ := bindO h
      clear h
      refine ACode_seqJ (fun E' H' => ∃ s11 : Unit, os11 = .inl s11 ∧ Weak 72 G E' H' [(0, .d (.sl none (intsD p0))), (1, .d (.sl none (intsD p1))), (2, iV p2), (3, iV p3), (4, .vec 0 1), (5, iV p5), (13, iV x6)] [.vec 1 (rowsD x7)]) ?_ ?_
      ·have h := hss11
       clear hss11
       obtain ⟨s9, hss9, hks9⟩ := letS h
       clear h
       refine ACode_seqJ (fun E' H' => Weak 72 G E' H' [(0, .d (.sl none (intsD p0))), (1, .d (.sl none (intsD p1))), (2, iV p2), (3, iV p3), (4, .vec 0 1), (5, iV p5), (13, iV x6), (40, bV s9)] [.vec 1 (rowsD x7)]) ?_ ?_
       ·have h := hss9
        clear hss9
        refine (ACode_region ?_)
        refine AOps_q 31 _ rfl rfl rfl (QOp_move _ _ rfl rfl) ?_
        refine AOps_q 32 _ rfl rfl rfl (QOp_move _ _ rfl rfl) ?_
        refine AOps_q 33 _ rfl rfl rfl (QOp_len_sl _ _ _ _ _ _ _ (intsD_length _) rfl rfl rfl rfl Try.underlying24 rfl) ?_
        refine AOps_q 34 _ rfl rfl rfl (QOp_lss _ _ _ _ _ _ _ rfl rfl rfl) ?_
        refine AOps_q 35 _ rfl rfl rfl (QOp_move _ _ rfl rfl) ?_
        refine AOps_case 35 _ rfl (fun hb8 => ?_) (fun hb8 => ?_)
        ·have h := iteT hb8 h
         refine AOps_q 36 _ rfl rfl rfl (QOp_move _ _ rfl rfl) ?_
         refine AOps_q 37 _ rfl rfl rfl (QOp_len_vec _ _ _ _ _ _ _ _ (rowsD_length _) rfl rfl rfl rfl Try.underlying45 rfl rfl) ?_
         refine AOps_q 38 _ rfl rfl rfl (QOp_move _ _ rfl rfl) ?_
         refine AOps_q 39 _ rfl rfl rfl (QOp_lss _ _ _ _ _ _ _ rfl rfl rfl) ?_
         refine AOps_q 40 _ rfl rfl rfl (QOp_pick_t _ _ _ _ rfl rfl rfl) ?_
         refine AOps_nil ?_
         cases h
         exact Weak_keep 1 hm [0, 1, 2, 3, 4, 5, 13, 40] [] _ _ rfl rfl rfl
        ·have h := iteF hb8 h
         refine AOps_skip 36 rfl rfl rfl ?_
         refine AOps_skip 37 rfl rfl rfl ?_
         refine AOps_skip 38 rfl rfl rfl ?_
         refine AOps_skip 39 rfl rfl rfl ?_
         refine AOps_q 40 _ rfl rfl rfl (QOp_pick_f _ _ _ _ rfl rfl rfl) ?_
         refine AOps_nil ?_
         cases h
         exact Weak_keep 1 hm [0, 1, 2, 3, 4, 5, 13, 40] [] _ _ rfl rfl rfl
       intro E' H' hw
       refine ACode_weak hw ?_
       have h := hks9
       refine ACode_cond _ rfl (fun hb10 => ?_) (fun hb10 => ?_)
       ·have h := iteT hb10 h
        refine ACode_skip ?_
        cases h
        exact ⟨_, rfl, Weak_keep 1 hm [0, 1, 2, 3, 4, 5, 13] [] _ _ rfl rfl rfl⟩
       ·have h := iteF hb10 h
        refine ACode_exit ?_
        obtain ⟨rr, hz22, h2⟩ := bindO h
        obtain rfl := Option.some.inj h2
        obtain rfl := Option.some.inj (show some rr = some _ from hks11)
        have h := hz22
        cases h
        exact Weak_keep 1 hm [4] [] _ _ rfl rfl rfl
      rintro E' H' ⟨s11, rfl, hw⟩
      refine ACode_weak hw ?_
      have h := hks11
      obtain ⟨s20, hss20, hks20⟩ := bindO h
      clear h
      refine ACode_seqJ (fun E' H' => Weak 72 G E' H' [(0, .d (.sl none (intsD p0))), (1, .d (.sl none (intsD p1))), (2, iV p2), (3, iV p3), (4, .vec 0 1), (5, iV p5), (13, iV x6)] [.vec 1 (rowsD s20)]) ?_ ?_
      ·have h := hss20
       clear hss20
       refine ACode_block ?_
       refine ACode_seq (ACode_region ?_)
       refine AOps_q 43 _ rfl rfl rfl (QOp_move _ _ rfl rfl) ?_
       refine AOps_q 44 _ rfl rfl rfl (QOp_move _ _ rfl rfl) ?_
       refine AOps_q 45 _ rfl rfl rfl (QOp_conv _ _ _ _ _ _ rfl rfl Try.underlying106 rfl) ?_
       obtain ⟨hc12, h⟩ := guardO h
       refine AOps_q 46 _ rfl rfl rfl (QOp_shr _ _ _ _ _ _ _ _ hc12 rfl rfl rfl) ?_
       refine AOps_q 47 _ rfl rfl rfl (QOp_and _ _ _ _ _ _ _ rfl rfl rfl) ?_
       refine AOps_q 48 _ rfl rfl rfl (QOp_eql _ _ _ _ _ _ _ rfl rfl rfl) ?_
       refine AOps_nil ?_
       refine ACode_cond _ rfl (fun hb13 => ?_) (fun hb13 => ?_)
       ·have h := iteT hb13 h
        obtain ⟨hc14, h⟩ := guardO h
        obtain ⟨r15, hr15, h⟩ := bindO h
        obtain ⟨hc16, h⟩ := guardO h
        obtain ⟨hc17, h⟩ := guardO h
        obtain ⟨hc18, h⟩ := guardO h
        obtain ⟨r19, hr19, h⟩ := bindO h
        refine ACode_reg [(0, .d (.sl none (intsD p0))), (1, .d (.sl none (intsD p1))), (2, iV p2), (3, iV p3), (4, .vec 0 1), (5, iV p5), (13, iV x6)] [.vec 1 (rowsD r19)] ?_ ?_
        ·refine ACode_anyU mixed ?_
         refine AU_u 0 49 _ rfl (by kernel_rfl) rfl rfl rfl (UOp_move _ _ rfl rfl) ?_
         refine AU_u 1 50 _ rfl (by kernel_rfl) rfl rfl rfl (UOp_move _ _ rfl rfl) ?_
         refine AU_u 3 52 _ rfl (by kernel_rfl) rfl rfl rfl (UOp_move _ _ rfl rfl) ?_
         refine AU_u 6 55 _ rfl (by kernel_rfl) rfl rfl rfl (UOp_move _ _ rfl rfl) ?_
         refine AU_u 7 56 _ rfl (by kernel_rfl) rfl rfl rfl (UOp_move _ _ rfl rfl) ?_
         refine AU_u 8 57 _ rfl (by kernel_rfl) rfl rfl rfl (UOp_move _ _ rfl rfl) ?_
         refine AU_u 9 58 _ rfl (by kernel_rfl) rfl rfl rfl (UOp_indexAddr_sl _ _ _ _ _ _ _ _ rfl Try.underlying24 Try.sizeOf2 hc14.1 (by rw [intsD_length]; exact hc14.2) rfl rfl) ?_
         refine AU_u 12 61 _ rfl (by kernel_rfl) rfl rfl rfl (UOp_move _ _ rfl rfl) ?_
         refine AU_u 13 62 _ rfl (by kernel_rfl) rfl rfl rfl (UOp_conv _ _ _ _ _ _ rfl rfl Try.underlying106 rfl) ?_
         refine AU_u 15 64 _ rfl (by kernel_rfl) rfl rfl rfl (UOp_move _ _ rfl rfl) ?_
         refine AU_u 16 65 _ rfl (by kernel_rfl) rfl rfl rfl (UOp_conv _ _ _ _ _ _ rfl rfl Try.underlying106 rfl) ?_
         refine AU_u 18 67 _ rfl (by kernel_rfl) rfl rfl rfl (UOp_move _ _ rfl rfl) ?_
         refine AU_u 19 68 _ rfl (by kernel_rfl) rfl rfl rfl (UOp_move _ _ rfl rfl) ?_
         refine AU_u 20 69 _ rfl (by kernel_rfl) rfl rfl rfl (UOp_move _ _ rfl rfl) ?_
         refine AU_all [2, 4, 10] (by kernel_rfl) rfl (allc ?_ (allc ?_ (allc ?_ (fun _ h => nomatch h))))
         ·refine US_of 2 rfl rfl ?_
          refine AOps_call [] 51 _ _ _ _ _ _ _ _ _ _ rfl rfl rfl rfl rfl rfl rfl Try.call227 rfl (nodupB_sound _ rfl) rfl rfl rfl (spec_l01Own_ac p1 _ hr15) ?_
          rintro _ _ ⟨rfl, rfl⟩
          refine ⟨(allc (fun _ _ => trivial) (fun _ h => nomatch h)), (allc (trivial) (fun _ h => nomatch h)), AOps_as 51 (v' := .vec 1 0) (H' := [.vec 1 (rowsD x7), .vec 0 (intsD r15)]) rfl rfl ?_⟩
          refine AOps_nil ?_
          refine AU_all [4, 10] (by kernel_rfl) rfl (allc ?_ (allc ?_ (fun _ h => nomatch h)))
          ·refine US_of 4 rfl rfl ?_
           refine AOps_buildSlice 53 _ _ _ [_] (intsD ([x6])) _ rfl rfl rfl rfl rfl (by decide) Try.underlying24 Try.sizeOf2 (zero_of Try.typeInfo2 rfl) rfl rfl (intsD_one _) ?_
           refine AOps_nil ?_
           refine AU_all [5, 10] (by kernel_rfl) rfl (allc ?_ (allc ?_ (fun _ h => nomatch h)))
           ·refine US_of 5 rfl rfl ?_
            refine AOps_append 54 _ _ _ _ _ _ _ _ _ _ _ _ rfl rfl rfl rfl rfl rfl rfl Try.underlying24 Try.type2 rfl rfl rfl (by decide) rfl rfl rfl rfl (intsD_one _) (by rw [intsD_length, intsD_length]; exact hc16) ?_
            rw [intsD_app]
            refine AOps_nil ?_
            refine AU_all [10] (by kernel_rfl) rfl (allc ?_ (fun _ h => nomatch h))
            ·refine US_of 10 rfl rfl ?_
             refine AOps_q 59 _ rfl rfl rfl (QOp_load_pv _ _ _ _ _ rfl Try.isAgg2 rfl (intsD_get _ _ 0 (by omega))) ?_
             refine AOps_nil ?_
             refine AU_u 11 60 _ rfl (by kernel_rfl) rfl rfl rfl (UOp_and _ _ _ _ _ _ _ rfl rfl rfl) ?_
             refine AU_u 14 63 _ rfl (by kernel_rfl) rfl rfl rfl (UOp_shr _ _ _ _ _ _ _ _ hc17 rfl rfl rfl) ?_
             refine AU_u 17 66 _ rfl (by kernel_rfl) rfl rfl rfl (UOp_shl _ _ _ _ _ _ _ _ hc18 rfl rfl rfl) ?_
             refine AU_all [21] (by kernel_rfl) rfl (allc ?_ (fun _ h => nomatch h))
             ·refine US_of 21 rfl rfl ?_
              refine AOps_freezeL [54] 1 1 _ (allc (rfl) (fun _ h => nomatch h)) rfl ?_
              refine AOps_call [0] 70 _ _ _ _ _ _ _ _ _ _ rfl rfl rfl rfl rfl rfl rfl Try.call193 rfl (nodupB_sound _ rfl) rfl rfl rfl (hself p0 (r15 ++ ([x6])) (bShl .i64 (bShr .i64 (bAnd .i64 p2 (p0.getD x6.toNat 0)) (IntKind.u64.wrap x6)) (IntKind.u64.wrap x6)) p3 x7 p5 _ hr19) ?_
              rintro _ _ ⟨rfl, rfl⟩
              refine ⟨(allc (fun _ _ => trivial) (fun _ h => nomatch h)), (allc (trivial) (fun _ h => nomatch h)), AOps_as 70 (v' := .vec 0 2) (H' := [.vec 2 (rowsD r19), .gone, .vec 0 (intsD ([x6]))]) rfl rfl ?_⟩
              refine AOps_nil ?_
              refine AU_u 22 4 _ rfl (by kernel_rfl) rfl rfl rfl (UOp_assign _ _ rfl rfl) ?_
              refine AU_done (by kernel_rfl) ?_
              exact ⟨rfl, Weak_trans (Weak_keep 1 hm [0, 1, 2, 3, 4, 5, 13] [] _ _ rfl rfl rfl) (Weak_reset 1 hm hz [0, 1, 2, 3, 4, 5, 13] _ _ rfl rfl)⟩
           ·refine US_of 10 rfl rfl ?_
            refine AOps_q 59 _ rfl rfl rfl (QOp_load_pv _ _ _ _ _ rfl Try.isAgg2 rfl (intsD_get _ _ 0 (by omega))) ?_
            refine AOps_nil ?_
            refine AU_u 11 60 _ rfl (by kernel_rfl) rfl rfl rfl (UOp_and _ _ _ _ _ _ _ rfl rfl rfl) ?_
            refine AU_u 14 63 _ rfl (by kernel_rfl) rfl rfl rfl (UOp_shr _ _ _ _ _ _ _ _ hc17 rfl rfl rfl) ?_
            refine AU_u 17 66 _ rfl (by kernel_rfl) rfl rfl rfl (UOp_shl _ _ _ _ _ _ _ _ hc18 rfl rfl rfl) ?_
            refine AU_all [5] (by kernel_rfl) rfl (allc ?_ (fun _ h => nomatch h))
            ·refine US_of 5 rfl rfl ?_
             refine AOps_append 54 _ _ _ _ _ _ _ _ _ _ _ _ rfl rfl rfl rfl rfl rfl rfl Try.underlying24 Try.type2 rfl rfl rfl (by decide) rfl rfl rfl rfl (intsD_one _) (by rw [intsD_length, intsD_length]; exact hc16) ?_
             rw [intsD_app]
             refine AOps_nil ?_
             refine AU_all [21] (by kernel_rfl) rfl (allc ?_ (fun _ h => nomatch h))
             ·refine US_of 21 rfl rfl ?_
              refine AOps_freezeL [54] 1 1 _ (allc (rfl) (fun _ h => nomatch h)) rfl ?_
              refine AOps_call [0] 70 _ _ _ _ _ _ _ _ _ _ rfl rfl rfl rfl rfl rfl rfl Try.call193 rfl (nodupB_sound _ rfl) rfl rfl rfl (hself p0 (r15 ++ ([x6])) (bShl .i64 (bShr .i64 (bAnd .i64 p2 (p0.getD x6.toNat 0)) (IntKind.u64.wrap x6)) (IntKind.u64.wrap x6)) p3 x7 p5 _ hr19) ?_
              rintro _ _ ⟨rfl, rfl⟩
              refine ⟨(allc (fun _ _ => trivial) (fun _ h => nomatch h)), (allc (trivial) (fun _ h => nomatch h)), AOps_as 70 (v' := .vec 0 2) (H' := [.vec 2 (rowsD r19), .gone, .vec 0 (intsD ([x6]))]) rfl rfl ?_⟩
              refine AOps_nil ?_
              refine AU_u 22 4 _ rfl (by kernel_rfl) rfl rfl rfl (UOp_assign _ _ rfl rfl) ?_
              refine AU_done (by kernel_rfl) ?_
              exact ⟨rfl, Weak_trans (Weak_keep 1 hm [0, 1, 2, 3, 4, 5, 13] [] _ _ rfl rfl rfl) (Weak_reset 1 hm hz [0, 1, 2, 3, 4, 5, 13] _ _ rfl rfl)⟩
          ·refine US_of 10 rfl rfl ?_
           refine AOps_q 59 _ rfl rfl rfl (QOp_load_pv _ _ _ _ _ rfl Try.isAgg2 rfl (intsD_get _ _ 0 (by omega))) ?_
           refine AOps_nil ?_
           refine AU_u 11 60 _ rfl (by kernel_rfl) rfl rfl rfl (UOp_and _ _ _ _ _ _ _ rfl rfl rfl) ?_
           refine AU_u 14 63 _ rfl (by kernel_rfl) rfl rfl rfl (UOp_shr _ _ _ _ _ _ _ _ hc17 rfl rfl rfl) ?_
           refine AU_u 17 66 _ rfl (by kernel_rfl) rfl rfl rfl (UOp_shl _ _ _ _ _ _ _ _ hc18 rfl rfl rfl) ?_
           refine AU_all [4] (by kernel_rfl) rfl (allc ?_ (fun _ h => nomatch h))
           ·refine US_of 4 rfl rfl ?_
            refine AOps_buildSlice 53 _ _ _ [_] (intsD ([x6])) _ rfl rfl rfl rfl rfl (by decide) Try.underlying24 Try.sizeOf2 (zero_of Try.typeInfo2 rfl) rfl rfl (intsD_one _) ?_
            refine AOps_nil ?_
            refine AU_all [5] (by kernel_rfl) rfl (allc ?_ (fun _ h => nomatch h))
            ·refine US_of 5 rfl rfl ?_
             refine AOps_append 54 _ _ _ _ _ _ _ _ _ _ _ _ rfl rfl rfl rfl rfl rfl rfl Try.underlying24 Try.type2 rfl rfl rfl (by decide) rfl rfl rfl rfl (intsD_one _) (by rw [intsD_length, intsD_length]; exact hc16) ?_
             rw [intsD_app]
             refine AOps_nil ?_
             refine AU_all [21] (by kernel_rfl) rfl (allc ?_ (fun _ h => nomatch h))
             ·refine US_of 21 rfl rfl ?_
              refine AOps_freezeL [54] 1 1 _ (allc (rfl) (fun _ h => nomatch h)) rfl ?_
              refine AOps_call [0] 70 _ _ _ _ _ _ _ _ _ _ rfl rfl rfl rfl rfl rfl rfl Try.call193 rfl (nodupB_sound _ rfl) rfl rfl rfl (hself p0 (r15 ++ ([x6])) (bShl .i64 (bShr .i64 (bAnd .i64 p2 (p0.getD x6.toNat 0)) (IntKind.u64.wrap x6)) (IntKind.u64.wrap x6)) p3 x7 p5 _ hr19) ?_
              rintro _ _ ⟨rfl, rfl⟩
              refine ⟨(allc (fun _ _ => trivial) (fun _ h => nomatch h)), (allc (trivial) (fun _ h => nomatch h)), AOps_as 70 (v' := .vec 0 2) (H' := [.vec 2 (rowsD r19), .gone, .vec 0 (intsD ([x6]))]) rfl rfl ?_⟩
              refine AOps_nil ?_
              refine AU_u 22 4 _ rfl (by kernel_rfl) rfl rfl rfl (UOp_assign _ _ rfl rfl) ?_
              refine AU_done (by kernel_rfl) ?_
              exact ⟨rfl, Weak_trans (Weak_keep 1 hm [0, 1, 2, 3, 4, 5, 13] [] _ _ rfl rfl rfl) (Weak_reset 1 hm hz [0, 1, 2, 3, 4, 5, 13] _ _ rfl rfl)⟩
         ·refine US_of 4 rfl rfl ?_
          refine AOps_buildSlice 53 _ _ _ [_] (intsD ([x6])) _ rfl rfl rfl rfl rfl (by decide) Try.underlying24 Try.sizeOf2 (zero_of Try.typeInfo2 rfl) rfl rfl (intsD_one _) ?_
          refine AOps_nil ?_
          refine AU_all [2, 10] (by kernel_rfl) rfl (allc ?_ (allc ?_ (fun _ h => nomatch h)))
          ·refine US_of 2 rfl rfl ?_
           refine AOps_call [] 51 _ _ _ _ _ _ _ _ _ _ rfl rfl rfl rfl rfl rfl rfl Try.call227 rfl (nodupB_sound _ rfl) rfl rfl rfl (spec_l01Own_ac p1 _ hr15) ?_
           rintro _ _ ⟨rfl, rfl⟩
           refine ⟨(allc (fun _ _ => trivial) (fun _ h => nomatch h)), (allc (trivial) (fun _ h => nomatch h)), AOps_as 51 (v' := .vec 2 0) (H' := [.vec 1 (rowsD x7), .vec 0 (intsD ([x6])), .vec 0 (intsD r15)]) rfl rfl ?_⟩
           refine AOps_nil ?_
           refine AU_all [5, 10] (by kernel_rfl) rfl (allc ?_ (allc ?_ (fun _ h => nomatch h)))
           ·refine US_of 5 rfl rfl ?_
            refine AOps_append 54 _ _ _ _ _ _ _ _ _ _ _ _ rfl rfl rfl rfl rfl rfl rfl Try.underlying24 Try.type2 rfl rfl rfl (by decide) rfl rfl rfl rfl (intsD_one _) (by rw [intsD_length, intsD_length]; exact hc16) ?_
            rw [intsD_app]
            refine AOps_nil ?_
            refine AU_all [10] (by kernel_rfl) rfl (allc ?_ (fun _ h => nomatch h))
            ·refine US_of 10 rfl rfl ?_
             refine AOps_q 59 _ rfl rfl rfl (QOp_load_pv _ _ _ _ _ rfl Try.isAgg2 rfl (intsD_get _ _ 0 (by omega))) ?_
             refine AOps_nil ?_
             refine AU_u 11 60 _ rfl (by kernel_rfl) rfl rfl rfl (UOp_and _ _ _ _ _ _ _ rfl rfl rfl) ?_
             refine AU_u 14 63 _ rfl (by kernel_rfl) rfl rfl rfl (UOp_shr _ _ _ _ _ _ _ _ hc17 rfl rfl rfl) ?_
             refine AU_u 17 66 _ rfl (by kernel_rfl) rfl rfl rfl (UOp_shl _ _ _ _ _ _ _ _ hc18 rfl rfl rfl) ?_
             refine AU_all [21] (by kernel_rfl) rfl (allc ?_ (fun _ h => nomatch h))
             ·refine US_of 21 rfl rfl ?_
              refine AOps_freezeL [54] 2 1 _ (allc (rfl) (fun _ h => nomatch h)) rfl ?_
              refine AOps_call [0] 70 _ _ _ _ _ _ _ _ _ _ rfl rfl rfl rfl rfl rfl rfl Try.call193 rfl (nodupB_sound _ rfl) rfl rfl rfl (hself p0 (r15 ++ ([x6])) (bShl .i64 (bShr .i64 (bAnd .i64 p2 (p0.getD x6.toNat 0)) (IntKind.u64.wrap x6)) (IntKind.u64.wrap x6)) p3 x7 p5 _ hr19) ?_
              rintro _ _ ⟨rfl, rfl⟩
              refine ⟨(allc (fun _ _ => trivial) (fun _ h => nomatch h)), (allc (trivial) (fun _ h => nomatch h)), AOps_as 70 (v' := .vec 0 2) (H' := [.vec 2 (rowsD r19), .vec 0 (intsD ([x6])), .gone]) rfl rfl ?_⟩
              refine AOps_nil ?_
              refine AU_u 22 4 _ rfl (by kernel_rfl) rfl rfl rfl (UOp_assign _ _ rfl rfl) ?_
              refine AU_done (by kernel_rfl) ?_
              exact ⟨rfl, Weak_trans (Weak_keep 1 hm [0, 1, 2, 3, 4, 5, 13] [] _ _ rfl rfl rfl) (Weak_reset 1 hm hz [0, 1, 2, 3, 4, 5, 13] _ _ rfl rfl)⟩
           ·refine US_of 10 rfl rfl ?_
            refine AOps_q 59 _ rfl rfl rfl (QOp_load_pv _ _ _ _ _ rfl Try.isAgg2 rfl (intsD_get _ _ 0 (by omega))) ?_
            refine AOps_nil ?_
            refine AU_u 11 60 _ rfl (by kernel_rfl) rfl rfl rfl (UOp_and _ _ _ _ _ _ _ rfl rfl rfl) ?_
            refine AU_u 14 63 _ rfl (by kernel_rfl) rfl rfl rfl (UOp_shr _ _ _ _ _ _ _ _ hc17 rfl rfl rfl) ?_
            refine AU_u 17 66 _ rfl (by kernel_rfl) rfl rfl rfl (UOp_shl _ _ _ _ _ _ _ _ hc18 rfl rfl rfl) ?_
            refine AU_all [5] (by kernel_rfl) rfl (allc ?_ (fun _ h => nomatch h))
            ·refine US_of 5 rfl rfl ?_
             refine AOps_append 54 _ _ _ _ _ _ _ _ _ _ _ _ rfl rfl rfl rfl rfl rfl rfl Try.underlying24 Try.type2 rfl rfl rfl (by decide) rfl rfl rfl rfl (intsD_one _) (by rw [intsD_length, intsD_length]; exact hc16) ?_
             rw [intsD_app]
             refine AOps_nil ?_
             refine AU_all [21] (by kernel_rfl) rfl (allc ?_ (fun _ h => nomatch h))
             ·refine US_of 21 rfl rfl ?_
              refine AOps_freezeL [54] 2 1 _ (allc (rfl) (fun _ h => nomatch h)) rfl ?_
              refine AOps_call [0] 70 _ _ _ _ _ _ _ _ _ _ rfl rfl rfl rfl rfl rfl rfl Try.call193 rfl (nodupB_sound _ rfl) rfl rfl rfl (hself p0 (r15 ++ ([x6])) (bShl .i64 (bShr .i64 (bAnd .i64 p2 (p0.getD x6.toNat 0)) (IntKind.u64.wrap x6)) (IntKind.u64.wrap x6)) p3 x7 p5 _ hr19) ?_
              rintro _ _ ⟨rfl, rfl⟩
              refine ⟨(allc (fun _ _ => trivial) (fun _ h => nomatch h)), (allc (trivial) (fun _ h => nomatch h)), AOps_as 70 (v' := .vec 0 2) (H' := [.vec 2 (rowsD r19), .vec 0 (intsD ([x6])), .gone]) rfl rfl ?_⟩
              refine AOps_nil ?_
              refine AU_u 22 4 _ rfl (by kernel_rfl) rfl rfl rfl (UOp_assign _ _ rfl rfl) ?_
              refine AU_done (by kernel_rfl) ?_
              exact ⟨rfl, Weak_trans (Weak_keep 1 hm [0, 1, 2, 3, 4, 5, 13] [] _ _ rfl rfl rfl) (Weak_reset 1 hm hz [0, 1, 2, 3, 4, 5, 13] _ _ rfl rfl)⟩
          ·refine US_of 10 rfl rfl ?_
           refine AOps_q 59 _ rfl rfl rfl (QOp_load_pv _ _ _ _ _ rfl Try.isAgg2 rfl (intsD_get _ _ 0 (by omega))) ?_
           refine AOps_nil ?_
           refine AU_u 11 60 _ rfl (by kernel_rfl) rfl rfl rfl (UOp_and _ _ _ _ _ _ _ rfl rfl rfl) ?_
           refine AU_u 14 63 _ rfl (by kernel_rfl) rfl rfl rfl (UOp_shr _ _ _ _ _ _ _ _ hc17 rfl rfl rfl) ?_
           refine AU_u 17 66 _ rfl (by kernel_rfl) rfl rfl rfl (UOp_shl _ _ _ _ _ _ _ _ hc18 rfl rfl rfl) ?_
           refine AU_all [2] (by kernel_rfl) rfl (allc ?_ (fun _ h => nomatch h))
           ·refine US_of 2 rfl rfl ?_
            refine AOps_call [] 51 _ _ _ _ _ _ _ _ _ _ rfl rfl rfl rfl rfl rfl rfl Try.call227 rfl (nodupB_sound _ rfl) rfl rfl rfl (spec_l01Own_ac p1 _ hr15) ?_
            rintro _ _ ⟨rfl, rfl⟩
            refine ⟨(allc (fun _ _ => trivial) (fun _ h => nomatch h)), (allc (trivial) (fun _ h => nomatch h)), AOps_as 51 (v' := .vec 2 0) (H' := [.vec 1 (rowsD x7), .vec 0 (intsD ([x6])), .vec 0 (intsD r15)]) rfl rfl ?_⟩
            refine AOps_nil ?_
            refine AU_all [5] (by kernel_rfl) rfl (allc ?_ (fun _ h => nomatch h))
            ·refine US_of 5 rfl rfl ?_
             refine AOps_append 54 _ _ _ _ _ _ _ _ _ _ _ _ rfl rfl rfl rfl rfl rfl rfl Try.underlying24 Try.type2 rfl rfl rfl (by decide) rfl rfl rfl rfl (intsD_one _) (by rw [intsD_length, intsD_length]; exact hc16) ?_
             rw [intsD_app]
             refine AOps_nil ?_
             refine AU_all [21] (by kernel_rfl) rfl (allc ?_ (fun _ h => nomatch h))
             ·refine US_of 21 rfl rfl ?_
              refine AOps_freezeL [54] 2 1 _ (allc (rfl) (fun _ h => nomatch h)) rfl ?_
              refine AOps_call [0] 70 _ _ _ _ _ _ _ _ _ _ rfl rfl rfl rfl rfl rfl rfl Try.call193 rfl (nodupB_sound _ rfl) rfl rfl rfl (hself p0 (r15 ++ ([x6])) (bShl .i64 (bShr .i64 (bAnd .i64 p2 (p0.getD x6.toNat 0)) (IntKind.u64.wrap x6)) (IntKind.u64.wrap x6)) p3 x7 p5 _ hr19) ?_
              rintro _ _ ⟨rfl, rfl⟩
              refine ⟨(allc (fun _ _ => trivial) (fun _ h => nomatch h)), (allc (trivial) (fun _ h => nomatch h)), AOps_as 70 (v' := .vec 0 2) (H' := [.vec 2 (rowsD r19), .vec 0 (intsD ([x6])), .gone]) rfl rfl ?_⟩
              refine AOps_nil ?_
              refine AU_u 22 4 _ rfl (by kernel_rfl) rfl rfl rfl (UOp_assign _ _ rfl rfl) ?_
              refine AU_done (by kernel_rfl) ?_
              exact ⟨rfl, Weak_trans (Weak_keep 1 hm [0, 1, 2, 3, 4, 5, 13] [] _ _ rfl rfl rfl) (Weak_reset 1 hm hz [0, 1, 2, 3, 4, 5, 13] _ _ rfl rfl)⟩
         ·refine US_of 10 rfl rfl ?_
          refine AOps_q 59 _ rfl rfl rfl (QOp_load_pv _ _ _ _ _ rfl Try.isAgg2 rfl (intsD_get _ _ 0 (by omega))) ?_
          refine AOps_nil ?_
          refine AU_u 11 60 _ rfl (by kernel_rfl) rfl rfl rfl (UOp_and _ _ _ _ _ _ _ rfl rfl rfl) ?_
          refine AU_u 14 63 _ rfl (by kernel_rfl) rfl rfl rfl (UOp_shr _ _ _ _ _ _ _ _ hc17 rfl rfl rfl) ?_
          refine AU_u 17 66 _ rfl (by kernel_rfl) rfl rfl rfl (UOp_shl _ _ _ _ _ _ _ _ hc18 rfl rfl rfl) ?_
          refine AU_all [2, 4] (by kernel_rfl) rfl (allc ?_ (allc ?_ (fun _ h => nomatch h)))
          ·refine US_of 2 rfl rfl ?_
           refine AOps_call [] 51 _ _ _ _ _ _ _ _ _ _ rfl rfl rfl rfl rfl rfl rfl Try.call227 rfl (nodupB_sound _ rfl) rfl rfl rfl (spec_l01Own_ac p1 _ hr15) ?_
           rintro _ _ ⟨rfl, rfl⟩
           refine ⟨(allc (fun _ _ => trivial) (fun _ h => nomatch h)), (allc (trivial) (fun _ h => nomatch h)), AOps_as 51 (v' := .vec 1 0) (H' := [.vec 1 (rowsD x7), .vec 0 (intsD r15)]) rfl rfl ?_⟩
           refine AOps_nil ?_
           refine AU_all [4] (by kernel_rfl) rfl (allc ?_ (fun _ h => nomatch h))
           ·refine US_of 4 rfl rfl ?_
            refine AOps_buildSlice 53 _ _ _ [_] (intsD ([x6])) _ rfl rfl rfl rfl rfl (by decide) Try.underlying24 Try.sizeOf2 (zero_of Try.typeInfo2 rfl) rfl rfl (intsD_one _) ?_
            refine AOps_nil ?_
            refine AU_all [5] (by kernel_rfl) rfl (allc ?_ (fun _ h => nomatch h))
            ·refine US_of 5 rfl rfl ?_
             refine AOps_append 54 _ _ _ _ _ _ _ _ _ _ _ _ rfl rfl rfl rfl rfl rfl rfl Try.underlying24 Try.type2 rfl rfl rfl (by decide) rfl rfl rfl rfl (intsD_one _) (by rw [intsD_length, intsD_length]; exact hc16) ?_
             rw [intsD_app]
             refine AOps_nil ?_
             refine AU_all [21] (by kernel_rfl) rfl (allc ?_ (fun _ h => nomatch h))
             ·refine US_of 21 rfl rfl ?_
              refine AOps_freezeL [54] 1 1 _ (allc (rfl) (fun _ h => nomatch h)) rfl ?_
              refine AOps_call [0] 70 _ _ _ _ _ _ _ _ _ _ rfl rfl rfl rfl rfl rfl rfl Try.call193 rfl (nodupB_sound _ rfl) rfl rfl rfl (hself p0 (r15 ++ ([x6])) (bShl .i64 (bShr .i64 (bAnd .i64 p2 (p0.getD x6.toNat 0)) (IntKind.u64.wrap x6)) (IntKind.u64.wrap x6)) p3 x7 p5 _ hr19) ?_
              rintro _ _ ⟨rfl, rfl⟩
              refine ⟨(allc (fun _ _ => trivial) (fun _ h => nomatch h)), (allc (trivial) (fun _ h => nomatch h)), AOps_as 70 (v' := .vec 0 2) (H' := [.vec 2 (rowsD r19), .gone, .vec 0 (intsD ([x6]))]) rfl rfl ?_⟩
              refine AOps_nil ?_
              refine AU_u 22 4 _ rfl (by kernel_rfl) rfl rfl rfl (UOp_assign _ _ rfl rfl) ?_
              refine AU_done (by kernel_rfl) ?_
              exact ⟨rfl, Weak_trans (Weak_keep 1 hm [0, 1, 2, 3, 4, 5, 13] [] _ _ rfl rfl rfl) (Weak_reset 1 hm hz [0, 1, 2, 3, 4, 5, 13] _ _ rfl rfl)⟩
          ·refine US_of 4 rfl rfl ?_
           refine AOps_buildSlice 53 _ _ _ [_] (intsD ([x6])) _ rfl rfl rfl rfl rfl (by decide) Try.underlying24 Try.sizeOf2 (zero_of Try.typeInfo2 rfl) rfl rfl (intsD_one _) ?_
           refine AOps_nil ?_
           refine AU_all [2] (by kernel_rfl) rfl (allc ?_ (fun _ h => nomatch h))
           ·refine US_of 2 rfl rfl ?_
            refine AOps_call [] 51 _ _ _ _ _ _ _ _ _ _ rfl rfl rfl rfl rfl rfl rfl Try.call227 rfl (nodupB_sound _ rfl) rfl rfl rfl (spec_l01Own_ac p1 _ hr15) ?_
            rintro _ _ ⟨rfl, rfl⟩
            refine ⟨(allc (fun _ _ => trivial) (fun _ h => nomatch h)), (allc (trivial) (fun _ h => nomatch h)), AOps_as 51 (v' := .vec 2 0) (H' := [.vec 1 (rowsD x7), .vec 0 (intsD ([x6])), .vec 0 (intsD r15)]) rfl rfl ?_⟩
            refine AOps_nil ?_
            refine AU_all [5] (by kernel_rfl) rfl (allc ?_ (fun _ h => nomatch h))
            ·refine US_of 5 rfl rfl ?_
             refine AOps_append 54 _ _ _ _ _ _ _ _ _ _ _ _ rfl rfl rfl rfl rfl rfl rfl Try.underlying24 Try.type2 rfl rfl rfl (by decide) rfl rfl rfl rfl (intsD_one _) (by rw [intsD_length, intsD_length]; exact hc16) ?_
             rw [intsD_app]
             refine AOps_nil ?_
             refine AU_all [21] (by kernel_rfl) rfl (allc ?_ (fun _ h => nomatch h))
             ·refine US_of 21 rfl rfl ?_
              refine AOps_freezeL [54] 2 1 _ (allc (rfl) (fun _ h => nomatch h)) rfl ?_
              refine AOps_call [0] 70 _ _ _ _ _ _ _ _ _ _ rfl rfl rfl rfl rfl rfl rfl Try.call193 rfl (nodupB_sound _ rfl) rfl rfl rfl (hself p0 (r15 ++ ([x6])) (bShl .i64 (bShr .i64 (bAnd .i64 p2 (p0.getD x6.toNat 0)) (IntKind.u64.wrap x6)) (IntKind.u64.wrap x6)) p3 x7 p5 _ hr19) ?_
              rintro _ _ ⟨rfl, rfl⟩
              refine ⟨(allc (fun _ _ => trivial) (fun _ h => nomatch h)), (allc (trivial) (fun _ h => nomatch h)), AOps_as 70 (v' := .vec 0 2) (H' := [.vec 2 (rowsD r19), .vec 0 (intsD ([x6])), .gone]) rfl rfl ?_⟩
              refine AOps_nil ?_
              refine AU_u 22 4 _ rfl (by kernel_rfl) rfl rfl rfl (UOp_assign _ _ rfl rfl) ?_
              refine AU_done (by kernel_rfl) ?_
              exact ⟨rfl, Weak_trans (Weak_keep 1 hm [0, 1, 2, 3, 4, 5, 13] [] _ _ rfl rfl rfl) (Weak_reset 1 hm hz [0, 1, 2, 3, 4, 5, 13] _ _ rfl rfl)⟩
        cases h
        exact Weak_keep 1 hm [0, 1, 2, 3, 4, 5, 13] [] _ _ rfl rfl rfl
       ·have h := iteF hb13 h
        refine ACode_skip ?_
        cases h
        exact Weak_keep 1 hm [0, 1, 2, 3, 4, 5, 13] [] _ _ rfl rfl rfl
      intro E' H' hw
      refine ACode_weak hw ?_
      have h := hks20
      refine (ACode_region ?_)
      refine AOps_q 41 _ rfl rfl rfl (QOp_move _ _ rfl rfl) ?_
      refine AOps_q 42 _ rfl rfl rfl (QOp_add _ _ _ _ _ _ _ rfl rfl rfl) ?_
      refine AOps_q 13 _ rfl rfl rfl (QOp_assign _ _ rfl rfl) ?_
      refine AOps_nil ?_
      exact ⟨k0, _, _, Nat.lt_succ_self _, Weak_keep 1 hm [0, 1, 2, 3, 4, 5, 13] [] _ _ rfl rfl rfl, _, _, rfl, rfl, h⟩
    intro E' H' hw
    refine ACode_weak hw ?_
    have h := hks21
    refine ACode_seq (ACode_region ?_)
    refine AOps_q 71 _ rfl rfl rfl (QOp_move _ _ rfl rfl) ?_
    refine AOps_q 12 _ rfl rfl rfl (QOp_assign _ _ rfl rfl) ?_
    refine AOps_nil ?_
    refine ACode_ret ?_
    cases h
    exact ⟨_, _, fun r a w h => ⟨r, h⟩, _, _, [], _, (.cons (ResV_tmp _ _ rfl) .nil), rfl, rfl, rfl, rfl, rfl⟩

end Go.Proofs.Ytfoijbdnkkaceaa
