/- Plain functions of the program and that the program computes them: printed by the own tool gen.py. No conditions. -/
import Derived.Test.YtfoijbdnkkaceaaGen18e
set_option linter.unusedVariables false
set_option linter.unusedSimpArgs false
namespace Go.Proofs.Ytfoijbdnkkaceaa
open Go Go.RowKit Ab

-- loop.example/g01362/spec.DrawCliquesAt
def spec_DrawCliquesAt (k : Nat) (p0 : List UInt8) : Option (Col × Int × Int × Int) :=
 (spec_l01From k p0).bind fun r1 => (spec_l02With k p0).bind fun r2 => (spec_l01Near r1 (if 16 < (if w64 (r2.1.p - 1) < 0 then 0 else w64 (r2.1.p - 1)) then 16 else (if w64 (r2.1.p - 1) < 0 then 0 else w64 (r2.1.p - 1)))).bind fun r3 => (spec_l01Pick r3.2 ([1, 2, 3, 3, 4, 18])).bind fun r4 => some (r2.1, r2.2, r3.1, r4.1)
set_option maxRecDepth 100000 in
theorem spec_DrawCliquesAt_ac (k : Nat) (p0 : List UInt8) (r : Col × Int × Int × Int) (h : spec_DrawCliquesAt k p0 = some r) : AC Try.prog 37 [.d (.sl none (bysD p0))] [] (fun res H' => res = [.d (.agg (colD r.1)), iV r.2.1, iV r.2.2.1, iV r.2.2.2] ∧ H' = []) := by
 refine AC_of_body true Try.func37 rfl Try.ntmps37 (rvs := [.cell 2 29, .tmp 3, .tmp 4, .tmp 5]) rfl rfl (fun G hG => ?_)
 have hm : G.H.length = 0 := by rw [hG]; rfl
 have hz : zeroG G.H = true := by rw [hG]; rfl
 unfold spec_DrawCliquesAt at h
 refine ACode_seq (ACode_region ?_)
 refine AOps_alloc 2 _ _ (colD Col.zero) (zero_of Try.typeInfo29 rfl) (by rfl) rfl rfl rfl rfl ?_
 refine AOps_q 3 _ rfl rfl rfl (QOp_assign _ _ rfl rfl) ?_
 refine AOps_q 4 _ rfl rfl rfl (QOp_assign _ _ rfl rfl) ?_
 refine AOps_q 5 _ rfl rfl rfl (QOp_assign _ _ rfl rfl) ?_
 refine AOps_nil ?_
 refine ACode_seq (ACode_region ?_)
 refine AOps_q 9 _ rfl rfl rfl (QOp_move _ _ rfl rfl) ?_
 obtain ⟨r1, hr1, h⟩ := bindO h
 refine AOps_call [] 10 _ _ _ _ _ _ _ _ _ _ rfl rfl rfl rfl rfl rfl rfl Try.call78 rfl (nodupB_sound _ rfl) rfl rfl rfl (spec_l01From_ac k p0 _ hr1) ?_
 rintro _ _ ⟨rfl, rfl⟩
 refine ⟨(allc (fun _ _ => trivial) (fun _ h => nomatch h)), (allc (trivial) (fun _ h => nomatch h)), AOps_as 10 (v' := .ptr 1 0) (H' := [.box (colD Col.zero), .box (srcD r1)]) rfl rfl ?_⟩
 refine AOps_q 6 _ rfl rfl rfl (QOp_assign _ _ rfl rfl) ?_
 refine AOps_nil ?_
 refine ACode_seq (ACode_region ?_)
 refine AOps_q 12 _ rfl rfl rfl (QOp_move _ _ rfl rfl) ?_
 obtain ⟨r2, hr2, h⟩ := bindO h
 refine AOps_call [] 13 _ _ _ _ _ _ _ _ _ _ rfl rfl rfl rfl rfl rfl rfl Try.call114 rfl (nodupB_sound _ rfl) rfl rfl rfl (spec_l02With_ac k p0 _ hr2) ?_
 rintro _ _ ⟨rfl, rfl⟩
 refine ⟨(fun _ h => nomatch h), (allc (trivial) (allc (trivial) (fun _ h => nomatch h))), AOps_as 13 (v' := .tup [.d (.agg (colD r2.1)), iV r2.2]) (H' := [.box (colD Col.zero), .box (srcD r1)]) rfl rfl ?_⟩
 refine AOps_q 11 _ rfl rfl rfl (QOp_move _ _ rfl rfl) ?_
 refine AOps_q 14 _ rfl rfl rfl (QOp_extract _ _ _ _ rfl rfl rfl) ?_
 refine AOps_q 15 _ rfl rfl rfl (QOp_extract _ _ _ _ rfl rfl rfl) ?_
 refine AOps_alloc 7 _ _ (colD Col.zero) (zero_of Try.typeInfo29 rfl) (by rfl) rfl rfl rfl rfl ?_
 refine AOps_store _ _ _ _ _ _ (colD _) _ _ rfl rfl rfl rfl rfl rfl rfl (colD_one _) (by rw [colD_length]; exact Try.sizeOf29) (by rw [colD_length, colD_length]; decide) (colD_whole _ _) ?_
 refine AOps_q 8 _ rfl rfl rfl (QOp_assign _ _ rfl rfl) ?_
 refine AOps_nil ?_
 obtain ⟨r3, hr3, h⟩ := bindO h
 obtain ⟨r4, hr4, h⟩ := bindO h
 refine ACode_seq (ACode_reg [(2, .ptr 0 0), (3, iV r2.2), (4, iV r3.1), (5, iV r4.1)] [.box (colD r2.1)] ?_ ?_)
 ·refine ACode_anyU mixed ?_
  refine AU_u 1 17 _ rfl (by kernel_rfl) rfl rfl rfl (UOp_move _ _ rfl rfl) ?_
  refine AU_u 2 18 _ rfl (by kernel_rfl) rfl rfl rfl (UOp_move _ _ rfl rfl) ?_
  refine AU_u 3 19 _ rfl (by kernel_rfl) rfl rfl rfl (UOp_fieldAddr_ptr _ _ _ _ _ _ 0 _ _ rfl Try.underlying29 rfl _ Try.sizeOf2 rfl rfl rfl rfl) ?_
  refine AU_u 9 25 _ rfl (by kernel_rfl) rfl rfl rfl (UOp_move _ _ rfl rfl) ?_
  refine AU_all [0, 4, 10] (by kernel_rfl) rfl (allc ?_ (allc ?_ (allc ?_ (fun _ h => nomatch h))))
  ·refine US_of 0 rfl rfl ?_
   refine AOps_q 16 _ rfl rfl rfl (QOp_loadN_ptr _ _ _ _ _ _ _ rfl Try.isAgg29 Try.sizeOf29 rfl rfl (colD_all _) (colD_length _)) ?_
   refine AOps_nil ?_
   refine AU_all [4, 10] (by kernel_rfl) rfl (allc ?_ (allc ?_ (fun _ h => nomatch h)))
   ·refine US_of 4 rfl rfl ?_
    refine AOps_q 20 _ rfl rfl rfl (QOp_load_ptr _ _ _ _ _ _ rfl Try.isAgg2 rfl rfl rfl) ?_
    refine AOps_nil ?_
    refine AU_u 5 21 _ rfl (by kernel_rfl) rfl rfl rfl (UOp_sub _ _ _ _ _ _ _ rfl rfl rfl) ?_
    refine AU_u 6 22 _ rfl (by kernel_rfl) rfl rfl rfl (UOp_max _ _ _ _ _ _ rfl rfl rfl rfl rfl) ?_
    refine AU_u 7 23 _ rfl (by kernel_rfl) rfl rfl rfl (UOp_min _ _ _ _ _ _ rfl rfl rfl rfl rfl) ?_
    refine AU_all [8, 10] (by kernel_rfl) rfl (allc ?_ (allc ?_ (fun _ h => nomatch h)))
    ·refine US_of 8 rfl rfl ?_
     refine AOps_call [1] 24 _ _ _ _ _ _ _ _ _ _ rfl rfl rfl rfl rfl rfl rfl Try.call98 rfl (nodupB_sound _ rfl) rfl rfl rfl (spec_l01Near_ac r1 (if 16 < (if w64 (r2.1.p - 1) < 0 then 0 else w64 (r2.1.p - 1)) then 16 else (if w64 (r2.1.p - 1) < 0 then 0 else w64 (r2.1.p - 1))) _ hr3) ?_
     rintro _ _ ⟨rfl, rfl⟩
     refine ⟨(allc (fun _ _ => trivial) (fun _ h => nomatch h)), (allc (trivial) (fun _ h => nomatch h)), AOps_as 24 (v' := iV r3.1) (H' := [.box (colD Col.zero), .box (srcD r3.2), .box (colD r2.1)]) rfl rfl ?_⟩
     refine AOps_nil ?_
     refine AU_all [10] (by kernel_rfl) rfl (allc ?_ (fun _ h => nomatch h))
     ·refine US_of 10 rfl rfl ?_
      refine AOps_buildSlice 26 _ _ _ [_, _, _, _, _, _] (intsD ([1, 2, 3, 3, 4, 18])) _ rfl rfl rfl rfl rfl (by decide) Try.underlying24 Try.sizeOf2 (zero_of Try.typeInfo2 rfl) rfl rfl (intsD_one _) ?_
      refine AOps_nil ?_
      refine AU_all [11] (by kernel_rfl) rfl (allc ?_ (fun _ h => nomatch h))
      ·refine US_of 11 rfl rfl ?_
       refine AOps_freezeL [26] 3 0 _ (allc (rfl) (fun _ h => nomatch h)) rfl ?_
       refine AOps_call [1] 27 _ _ _ _ _ _ _ _ _ _ rfl rfl rfl rfl rfl rfl rfl Try.call125 rfl (nodupB_sound _ rfl) rfl rfl rfl (spec_l01Pick_ac r3.2 ([1, 2, 3, 3, 4, 18]) _ hr4) ?_
       rintro _ _ ⟨rfl, rfl⟩
       refine ⟨(allc (fun _ _ => trivial) (fun _ h => nomatch h)), (allc (trivial) (fun _ h => nomatch h)), AOps_as 27 (v' := iV r4.1) (H' := [.box (colD Col.zero), .box (srcD r4.2), .box (colD r2.1), .gone]) rfl rfl ?_⟩
       refine AOps_nil ?_
       refine AU_all [12] (by kernel_rfl) rfl (allc ?_ (fun _ h => nomatch h))
       ·refine US_of 12 rfl rfl ?_
        refine AOps_store _ _ _ _ _ _ (colD _) _ _ rfl rfl rfl rfl rfl rfl rfl (colD_one _) (by rw [colD_length]; exact Try.sizeOf29) (by rw [colD_length, colD_length]; decide) (colD_whole _ _) ?_
        refine AOps_nil ?_
        refine AU_u 13 3 _ rfl (by kernel_rfl) rfl rfl rfl (UOp_assign _ _ rfl rfl) ?_
        refine AU_u 14 4 _ rfl (by kernel_rfl) rfl rfl rfl (UOp_assign _ _ rfl rfl) ?_
        refine AU_u 15 5 _ rfl (by kernel_rfl) rfl rfl rfl (UOp_assign _ _ rfl rfl) ?_
        refine AU_done (by kernel_rfl) ?_
        exact ⟨rfl, Weak_keep 0 hm [2, 3, 4, 5] [0] _ _ rfl rfl rfl⟩
    ·refine US_of 10 rfl rfl ?_
     refine AOps_buildSlice 26 _ _ _ [_, _, _, _, _, _] (intsD ([1, 2, 3, 3, 4, 18])) _ rfl rfl rfl rfl rfl (by decide) Try.underlying24 Try.sizeOf2 (zero_of Try.typeInfo2 rfl) rfl rfl (intsD_one _) ?_
     refine AOps_nil ?_
     refine AU_all [8] (by kernel_rfl) rfl (allc ?_ (fun _ h => nomatch h))
     ·refine US_of 8 rfl rfl ?_
      refine AOps_call [1] 24 _ _ _ _ _ _ _ _ _ _ rfl rfl rfl rfl rfl rfl rfl Try.call98 rfl (nodupB_sound _ rfl) rfl rfl rfl (spec_l01Near_ac r1 (if 16 < (if w64 (r2.1.p - 1) < 0 then 0 else w64 (r2.1.p - 1)) then 16 else (if w64 (r2.1.p - 1) < 0 then 0 else w64 (r2.1.p - 1))) _ hr3) ?_
      rintro _ _ ⟨rfl, rfl⟩
      refine ⟨(allc (fun _ _ => trivial) (fun _ h => nomatch h)), (allc (trivial) (fun _ h => nomatch h)), AOps_as 24 (v' := iV r3.1) (H' := [.box (colD Col.zero), .box (srcD r3.2), .box (colD r2.1), .vec 0 (intsD ([1, 2, 3, 3, 4, 18]))]) rfl rfl ?_⟩
      refine AOps_nil ?_
      refine AU_all [11] (by kernel_rfl) rfl (allc ?_ (fun _ h => nomatch h))
      ·refine US_of 11 rfl rfl ?_
       refine AOps_freezeL [26] 3 0 _ (allc (rfl) (fun _ h => nomatch h)) rfl ?_
       refine AOps_call [1] 27 _ _ _ _ _ _ _ _ _ _ rfl rfl rfl rfl rfl rfl rfl Try.call125 rfl (nodupB_sound _ rfl) rfl rfl rfl (spec_l01Pick_ac r3.2 ([1, 2, 3, 3, 4, 18]) _ hr4) ?_
       rintro _ _ ⟨rfl, rfl⟩
       refine ⟨(allc (fun _ _ => trivial) (fun _ h => nomatch h)), (allc (trivial) (fun _ h => nomatch h)), AOps_as 27 (v' := iV r4.1) (H' := [.box (colD Col.zero), .box (srcD r4.2), .box (colD r2.1), .gone]) rfl rfl ?_⟩
       refine AOps_nil ?_
       refine AU_all [12] (by kernel_rfl) rfl (allc ?_ (fun _ h => nomatch h))
       ·refine US_of 12 rfl rfl ?_
        refine AOps_store _ _ _ _ _ _ (colD _) _ _ rfl rfl rfl rfl rfl rfl rfl (colD_one _) (by rw [colD_length]; exact Try.sizeOf29) (by rw [colD_length, colD_length]; decide) (colD_whole _ _) ?_
        refine AOps_nil ?_
        refine AU_u 13 3 _ rfl (by kernel_rfl) rfl rfl rfl (UOp_assign _ _ rfl rfl) ?_
        refine AU_u 14 4 _ rfl (by kernel_rfl) rfl rfl rfl (UOp_assign _ _ rfl rfl) ?_
        refine AU_u 15 5 _ rfl (by kernel_rfl) rfl rfl rfl (UOp_assign _ _ rfl rfl) ?_
        refine AU_done (by kernel_rfl) ?_
        exact ⟨rfl, Weak_keep 0 hm [2, 3, 4, 5] [0] _ _ rfl rfl rfl⟩
   ·refine US_of 10 rfl rfl ?_
    refine AOps_buildSlice 26 _ _ _ [_, _, _, _, _, _] (intsD ([1, 2, 3, 3, 4, 18])) _ rfl rfl rfl rfl rfl (by decide) Try.underlying24 Try.sizeOf2 (zero_of Try.typeInfo2 rfl) rfl rfl (intsD_one _) ?_
    refine AOps_nil ?_
    refine AU_all [4] (by kernel_rfl) rfl (allc ?_ (fun _ h => nomatch h))
    ·refine US_of 4 rfl rfl ?_
     refine AOps_q 20 _ rfl rfl rfl (QOp_load_ptr _ _ _ _ _ _ rfl Try.isAgg2 rfl rfl rfl) ?_
     refine AOps_nil ?_
     refine AU_u 5 21 _ rfl (by kernel_rfl) rfl rfl rfl (UOp_sub _ _ _ _ _ _ _ rfl rfl rfl) ?_
     refine AU_u 6 22 _ rfl (by kernel_rfl) rfl rfl rfl (UOp_max _ _ _ _ _ _ rfl rfl rfl rfl rfl) ?_
     refine AU_u 7 23 _ rfl (by kernel_rfl) rfl rfl rfl (UOp_min _ _ _ _ _ _ rfl rfl rfl rfl rfl) ?_
     refine AU_all [8] (by kernel_rfl) rfl (allc ?_ (fun _ h => nomatch h))
     ·refine US_of 8 rfl rfl ?_
      refine AOps_call [1] 24 _ _ _ _ _ _ _ _ _ _ rfl rfl rfl rfl rfl rfl rfl Try.call98 rfl (nodupB_sound _ rfl) rfl rfl rfl (spec_l01Near_ac r1 (if 16 < (if w64 (r2.1.p - 1) < 0 then 0 else w64 (r2.1.p - 1)) then 16 else (if w64 (r2.1.p - 1) < 0 then 0 else w64 (r2.1.p - 1))) _ hr3) ?_
      rintro _ _ ⟨rfl, rfl⟩
      refine ⟨(allc (fun _ _ => trivial) (fun _ h => nomatch h)), (allc (trivial) (fun _ h => nomatch h)), AOps_as 24 (v' := iV r3.1) (H' := [.box (colD Col.zero), .box (srcD r3.2), .box (colD r2.1), .vec 0 (intsD ([1, 2, 3, 3, 4, 18]))]) rfl rfl ?_⟩
      refine AOps_nil ?_
      refine AU_all [11] (by kernel_rfl) rfl (allc ?_ (fun _ h => nomatch h))
      ·refine US_of 11 rfl rfl ?_
       refine AOps_freezeL [26] 3 0 _ (allc (rfl) (fun _ h => nomatch h)) rfl ?_
       refine AOps_call [1] 27 _ _ _ _ _ _ _ _ _ _ rfl rfl rfl rfl rfl rfl rfl Try.call125 rfl (nodupB_sound _ rfl) rfl rfl rfl (spec_l01Pick_ac r3.2 ([1, 2, 3, 3, 4, 18]) _ hr4) ?_
       rintro _ _ ⟨rfl, rfl⟩
       refine ⟨(allc (fun _ _ => trivial) (fun _ h => nomatch h)), (allc (trivial) (fun _ h => nomatch h)), AOps_as 27 (v' := iV r4.1) (H' := [.box (colD Col.zero), .box (srcD r4.2), .box (colD r2.1), .gone]) rfl rfl ?_⟩
       refine AOps_nil ?_
       refine AU_all [12] (by kernel_rfl) rfl (allc ?_ (fun _ h => nomatch h))
       ·refine US_of 12 rfl rfl ?_
        refine AOps_store _ _ _ _ _ _ (colD _) _ _ rfl rfl rfl rfl rfl rfl rfl (colD_one _) (by rw [colD_length]; exact Try.sizeOf29) (by rw [colD_length, colD_length]; decide) (colD_whole _ _) ?_
        refine AOps_nil ?_
        refine AU_u 13 3 _ rfl (by kernel_rfl) rfl rfl rfl (UOp_assign _ _ rfl rfl) ?_
        refine AU_u 14 4 _ rfl (by kernel_rfl) rfl rfl rfl (UOp_assign _ _ rfl rfl) ?_
        refine AU_u 15 5 _ rfl (by kernel_rfl) rfl rfl rfl (UOp_assign _ _ rfl rfl) ?_
        refine AU_done (by kernel_rfl) ?_
        exact ⟨rfl, Weak_keep 0 hm [2, 3, 4, 5] [0] _ _ rfl rfl rfl⟩
  ·refine US_of 4 rfl rfl ?_
   refine AOps_q 20 _ rfl rfl rfl (QOp_load_ptr _ _ _ _ _ _ rfl Try.isAgg2 rfl rfl rfl) ?_
   refine AOps_nil ?_
   refine AU_u 5 21 _ rfl (by kernel_rfl) rfl rfl rfl (UOp_sub _ _ _ _ _ _ _ rfl rfl rfl) ?_
   refine AU_u 6 22 _ rfl (by kernel_rfl) rfl rfl rfl (UOp_max _ _ _ _ _ _ rfl rfl rfl rfl rfl) ?_
   refine AU_u 7 23 _ rfl (by kernel_rfl) rfl rfl rfl (UOp_min _ _ _ _ _ _ rfl rfl rfl rfl rfl) ?_
   refine AU_all [0, 8, 10] (by kernel_rfl) rfl (allc ?_ (allc ?_ (allc ?_ (fun _ h => nomatch h))))
   ·refine US_of 0 rfl rfl ?_
    refine AOps_q 16 _ rfl rfl rfl (QOp_loadN_ptr _ _ _ _ _ _ _ rfl Try.isAgg29 Try.sizeOf29 rfl rfl (colD_all _) (colD_length _)) ?_
    refine AOps_nil ?_
    refine AU_all [8, 10] (by kernel_rfl) rfl (allc ?_ (allc ?_ (fun _ h => nomatch h)))
    ·refine US_of 8 rfl rfl ?_
     refine AOps_call [1] 24 _ _ _ _ _ _ _ _ _ _ rfl rfl rfl rfl rfl rfl rfl Try.call98 rfl (nodupB_sound _ rfl) rfl rfl rfl (spec_l01Near_ac r1 (if 16 < (if w64 (r2.1.p - 1) < 0 then 0 else w64 (r2.1.p - 1)) then 16 else (if w64 (r2.1.p - 1) < 0 then 0 else w64 (r2.1.p - 1))) _ hr3) ?_
     rintro _ _ ⟨rfl, rfl⟩
     refine ⟨(allc (fun _ _ => trivial) (fun _ h => nomatch h)), (allc (trivial) (fun _ h => nomatch h)), AOps_as 24 (v' := iV r3.1) (H' := [.box (colD Col.zero), .box (srcD r3.2), .box (colD r2.1)]) rfl rfl ?_⟩
     refine AOps_nil ?_
     refine AU_all [10] (by kernel_rfl) rfl (allc ?_ (fun _ h => nomatch h))
     ·refine US_of 10 rfl rfl ?_
      refine AOps_buildSlice 26 _ _ _ [_, _, _, _, _, _] (intsD ([1, 2, 3, 3, 4, 18])) _ rfl rfl rfl rfl rfl (by decide) Try.underlying24 Try.sizeOf2 (zero_of Try.typeInfo2 rfl) rfl rfl (intsD_one _) ?_
      refine AOps_nil ?_
      refine AU_all [11] (by kernel_rfl) rfl (allc ?_ (fun _ h => nomatch h))
      ·refine US_of 11 rfl rfl ?_
       refine AOps_freezeL [26] 3 0 _ (allc (rfl) (fun _ h => nomatch h)) rfl ?_
       refine AOps_call [1] 27 _ _ _ _ _ _ _ _ _ _ rfl rfl rfl rfl rfl rfl rfl Try.call125 rfl (nodupB_sound _ rfl) rfl rfl rfl (spec_l01Pick_ac r3.2 ([1, 2, 3, 3, 4, 18]) _ hr4) ?_
       rintro _ _ ⟨rfl, rfl⟩
       refine ⟨(allc (fun _ _ => trivial) (fun _ h => nomatch h)), (allc (trivial) (fun _ h => nomatch h)), AOps_as 27 (v' := iV r4.1) (H' := [.box (colD Col.zero), .box (srcD r4.2), .box (colD r2.1), .gone]) rfl rfl ?_⟩
       refine AOps_nil ?_
       refine AU_all [12] (by kernel_rfl) rfl (allc ?_ (fun _ h => nomatch h))
       ·refine US_of 12 rfl rfl ?_
        refine AOps_store _ _ _ _ _ _ (colD _) _ _ rfl rfl rfl rfl rfl rfl rfl (colD_one _) (by rw [colD_length]; exact Try.sizeOf29) (by rw [colD_length, colD_length]; decide) (colD_whole _ _) ?_
        refine AOps_nil ?_
        refine AU_u 13 3 _ rfl (by kernel_rfl) rfl rfl rfl (UOp_assign _ _ rfl rfl) ?_
        refine AU_u 14 4 _ rfl (by kernel_rfl) rfl rfl rfl (UOp_assign _ _ rfl rfl) ?_
        refine AU_u 15 5 _ rfl (by kernel_rfl) rfl rfl rfl (UOp_assign _ _ rfl rfl) ?_
        refine AU_done (by kernel_rfl) ?_
        exact ⟨rfl, Weak_keep 0 hm [2, 3, 4, 5] [0] _ _ rfl rfl rfl⟩
    ·refine US_of 10 rfl rfl ?_
     refine AOps_buildSlice 26 _ _ _ [_, _, _, _, _, _] (intsD ([1, 2, 3, 3, 4, 18])) _ rfl rfl rfl rfl rfl (by decide) Try.underlying24 Try.sizeOf2 (zero_of Try.typeInfo2 rfl) rfl rfl (intsD_one _) ?_
     refine AOps_nil ?_
     refine AU_all [8] (by kernel_rfl) rfl (allc ?_ (fun _ h => nomatch h))
     ·refine US_of 8 rfl rfl ?_
      refine AOps_call [1] 24 _ _ _ _ _ _ _ _ _ _ rfl rfl rfl rfl rfl rfl rfl Try.call98 rfl (nodupB_sound _ rfl) rfl rfl rfl (spec_l01Near_ac r1 (if 16 < (if w64 (r2.1.p - 1) < 0 then 0 else w64 (r2.1.p - 1)) then 16 else (if w64 (r2.1.p - 1) < 0 then 0 else w64 (r2.1.p - 1))) _ hr3) ?_
      rintro _ _ ⟨rfl, rfl⟩
      refine ⟨(allc (fun _ _ => trivial) (fun _ h => nomatch h)), (allc (trivial) (fun _ h => nomatch h)), AOps_as 24 (v' := iV r3.1) (H' := [.box (colD Col.zero), .box (srcD r3.2), .box (colD r2.1), .vec 0 (intsD ([1, 2, 3, 3, 4, 18]))]) rfl rfl ?_⟩
      refine AOps_nil ?_
      refine AU_all [11] (by kernel_rfl) rfl (allc ?_ (fun _ h => nomatch h))
      ·refine US_of 11 rfl rfl ?_
       refine AOps_freezeL [26] 3 0 _ (allc (rfl) (fun _ h => nomatch h)) rfl ?_
       refine AOps_call [1] 27 _ _ _ _ _ _ _ _ _ _ rfl rfl rfl rfl rfl rfl rfl Try.call125 rfl (nodupB_sound _ rfl) rfl rfl rfl (spec_l01Pick_ac r3.2 ([1, 2, 3, 3, 4, 18]) _ hr4) ?_
       rintro _ _ ⟨rfl, rfl⟩
       refine ⟨(allc (fun _ _ => trivial) (fun _ h => nomatch h)), (allc (trivial) (fun _ h => nomatch h)), AOps_as 27 (v' := iV r4.1) (H' := [.box (colD Col.zero), .box (srcD r4.2), .box (colD r2.1), .gone]) rfl rfl ?_⟩
       refine AOps_nil ?_
       refine AU_all [12] (by kernel_rfl) rfl (allc ?_ (fun _ h => nomatch h))
       ·refine US_of 12 rfl rfl ?_
        refine AOps_store _ _ _ _ _ _ (colD _) _ _ rfl rfl rfl rfl rfl rfl rfl (colD_one _) (by rw [colD_length]; exact Try.sizeOf29) (by rw [colD_length, colD_length]; decide) (colD_whole _ _) ?_
        refine AOps_nil ?_
        refine AU_u 13 3 _ rfl (by kernel_rfl) rfl rfl rfl (UOp_assign _ _ rfl rfl) ?_
        refine AU_u 14 4 _ rfl (by kernel_rfl) rfl rfl rfl (UOp_assign _ _ rfl rfl) ?_
        refine AU_u 15 5 _ rfl (by kernel_rfl) rfl rfl rfl (UOp_assign _ _ rfl rfl) ?_
        refine AU_done (by kernel_rfl) ?_
        exact ⟨rfl, Weak_keep 0 hm [2, 3, 4, 5] [0] _ _ rfl rfl rfl⟩
   ·refine US_of 8 rfl rfl ?_
    refine AOps_call [1] 24 _ _ _ _ _ _ _ _ _ _ rfl rfl rfl rfl rfl rfl rfl Try.call98 rfl (nodupB_sound _ rfl) rfl rfl rfl (spec_l01Near_ac r1 (if 16 < (if w64 (r2.1.p - 1) < 0 then 0 else w64 (r2.1.p - 1)) then 16 else (if w64 (r2.1.p - 1) < 0 then 0 else w64 (r2.1.p - 1))) _ hr3) ?_
    rintro _ _ ⟨rfl, rfl⟩
    refine ⟨(allc (fun _ _ => trivial) (fun _ h => nomatch h)), (allc (trivial) (fun _ h => nomatch h)), AOps_as 24 (v' := iV r3.1) (H' := [.box (colD Col.zero), .box (srcD r3.2), .box (colD r2.1)]) rfl rfl ?_⟩
    refine AOps_nil ?_
    refine AU_all [0, 10] (by kernel_rfl) rfl (allc ?_ (allc ?_ (fun _ h => nomatch h)))
    ·refine US_of 0 rfl rfl ?_
     refine AOps_q 16 _ rfl rfl rfl (QOp_loadN_ptr _ _ _ _ _ _ _ rfl Try.isAgg29 Try.sizeOf29 rfl rfl (colD_all _) (colD_length _)) ?_
     refine AOps_nil ?_
     refine AU_all [10] (by kernel_rfl) rfl (allc ?_ (fun _ h => nomatch h))
     ·refine US_of 10 rfl rfl ?_
      refine AOps_buildSlice 26 _ _ _ [_, _, _, _, _, _] (intsD ([1, 2, 3, 3, 4, 18])) _ rfl rfl rfl rfl rfl (by decide) Try.underlying24 Try.sizeOf2 (zero_of Try.typeInfo2 rfl) rfl rfl (intsD_one _) ?_
      refine AOps_nil ?_
      refine AU_all [11] (by kernel_rfl) rfl (allc ?_ (fun _ h => nomatch h))
      ·refine US_of 11 rfl rfl ?_
       refine AOps_freezeL [26] 3 0 _ (allc (rfl) (fun _ h => nomatch h)) rfl ?_
       refine AOps_call [1] 27 _ _ _ _ _ _ _ _ _ _ rfl rfl rfl rfl rfl rfl rfl Try.call125 rfl (nodupB_sound _ rfl) rfl rfl rfl (spec_l01Pick_ac r3.2 ([1, 2, 3, 3, 4, 18]) _ hr4) ?_
       rintro _ _ ⟨rfl, rfl⟩
       refine ⟨(allc (fun _ _ => trivial) (fun _ h => nomatch h)), (allc (trivial) (fun _ h => nomatch h)), AOps_as 27 (v' := iV r4.1) (H' := [.box (colD Col.zero), .box (srcD r4.2), .box (colD r2.1), .gone]) rfl rfl ?_⟩
       refine AOps_nil ?_
       refine AU_all [12] (by kernel_rfl) rfl (allc ?_ (fun _ h => nomatch h))
       ·refine US_of 12 rfl rfl ?_
        refine AOps_store _ _ _ _ _ _ (colD _) _ _ rfl rfl rfl rfl rfl rfl rfl (colD_one _) (by rw [colD_length]; exact Try.sizeOf29) (by rw [colD_length, colD_length]; decide) (colD_whole _ _) ?_
        refine AOps_nil ?_
        refine AU_u 13 3 _ rfl (by kernel_rfl) rfl rfl rfl (UOp_assign _ _ rfl rfl) ?_
        refine AU_u 14 4 _ rfl (by kernel_rfl) rfl rfl rfl (UOp_assign _ _ rfl rfl) ?_
        refine AU_u 15 5 _ rfl (by kernel_rfl) rfl rfl rfl (UOp_assign _ _ rfl rfl) ?_
        refine AU_done (by kernel_rfl) ?_
        exact ⟨rfl, Weak_keep 0 hm [2, 3, 4, 5] [0] _ _ rfl rfl rfl⟩
    ·refine US_of 10 rfl rfl ?_
     refine AOps_buildSlice 26 _ _ _ [_, _, _, _, _, _] (intsD ([1, 2, 3, 3, 4, 18])) _ rfl rfl rfl rfl rfl (by decide) Try.underlying24 Try.sizeOf2 (zero_of Try.typeInfo2 rfl) rfl rfl (intsD_one _) ?_
     refine AOps_nil ?_
     refine AU_all [0, 11] (by kernel_rfl) rfl (allc ?_ (allc ?_ (fun _ h => nomatch h)))
     ·refine US_of 0 rfl rfl ?_
      refine AOps_q 16 _ rfl rfl rfl (QOp_loadN_ptr _ _ _ _ _ _ _ rfl Try.isAgg29 Try.sizeOf29 rfl rfl (colD_all _) (colD_length _)) ?_
      refine AOps_nil ?_
      refine AU_all [11] (by kernel_rfl) rfl (allc ?_ (fun _ h => nomatch h))
      ·refine US_of 11 rfl rfl ?_
       refine AOps_freezeL [26] 3 0 _ (allc (rfl) (fun _ h => nomatch h)) rfl ?_
       refine AOps_call [1] 27 _ _ _ _ _ _ _ _ _ _ rfl rfl rfl rfl rfl rfl rfl Try.call125 rfl (nodupB_sound _ rfl) rfl rfl rfl (spec_l01Pick_ac r3.2 ([1, 2, 3, 3, 4, 18]) _ hr4) ?_
       rintro _ _ ⟨rfl, rfl⟩
       refine ⟨(allc (fun _ _ => trivial) (fun _ h => nomatch h)), (allc (trivial) (fun _ h => nomatch h)), AOps_as 27 (v' := iV r4.1) (H' := [.box (colD Col.zero), .box (srcD r4.2), .box (colD r2.1), .gone]) rfl rfl ?_⟩
       refine AOps_nil ?_
       refine AU_all [12] (by kernel_rfl) rfl (allc ?_ (fun _ h => nomatch h))
       ·refine US_of 12 rfl rfl ?_
        refine AOps_store _ _ _ _ _ _ (colD _) _ _ rfl rfl rfl rfl rfl rfl rfl (colD_one _) (by rw [colD_length]; exact Try.sizeOf29) (by rw [colD_length, colD_length]; decide) (colD_whole _ _) ?_
        refine AOps_nil ?_
        refine AU_u 13 3 _ rfl (by kernel_rfl) rfl rfl rfl (UOp_assign _ _ rfl rfl) ?_
        refine AU_u 14 4 _ rfl (by kernel_rfl) rfl rfl rfl (UOp_assign _ _ rfl rfl) ?_
        refine AU_u 15 5 _ rfl (by kernel_rfl) rfl rfl rfl (UOp_assign _ _ rfl rfl) ?_
        refine AU_done (by kernel_rfl) ?_
        exact ⟨rfl, Weak_keep 0 hm [2, 3, 4, 5] [0] _ _ rfl rfl rfl⟩
     ·refine US_of 11 rfl rfl ?_
      refine AOps_freezeL [26] 3 0 _ (allc (rfl) (fun _ h => nomatch h)) rfl ?_
      refine AOps_call [1] 27 _ _ _ _ _ _ _ _ _ _ rfl rfl rfl rfl rfl rfl rfl Try.call125 rfl (nodupB_sound _ rfl) rfl rfl rfl (spec_l01Pick_ac r3.2 ([1, 2, 3, 3, 4, 18]) _ hr4) ?_
      rintro _ _ ⟨rfl, rfl⟩
      refine ⟨(allc (fun _ _ => trivial) (fun _ h => nomatch h)), (allc (trivial) (fun _ h => nomatch h)), AOps_as 27 (v' := iV r4.1) (H' := [.box (colD Col.zero), .box (srcD r4.2), .box (colD r2.1), .gone]) rfl rfl ?_⟩
      refine AOps_nil ?_
      refine AU_all [0] (by kernel_rfl) rfl (allc ?_ (fun _ h => nomatch h))
      ·refine US_of 0 rfl rfl ?_
       refine AOps_q 16 _ rfl rfl rfl (QOp_loadN_ptr _ _ _ _ _ _ _ rfl Try.isAgg29 Try.sizeOf29 rfl rfl (colD_all _) (colD_length _)) ?_
       refine AOps_nil ?_
       refine AU_all [12] (by kernel_rfl) rfl (allc ?_ (fun _ h => nomatch h))
       ·refine US_of 12 rfl rfl ?_
        refine AOps_store _ _ _ _ _ _ (colD _) _ _ rfl rfl rfl rfl rfl rfl rfl (colD_one _) (by rw [colD_length]; exact Try.sizeOf29) (by rw [colD_length, colD_length]; decide) (colD_whole _ _) ?_
        refine AOps_nil ?_
        refine AU_u 13 3 _ rfl (by kernel_rfl) rfl rfl rfl (UOp_assign _ _ rfl rfl) ?_
        refine AU_u 14 4 _ rfl (by kernel_rfl) rfl rfl rfl (UOp_assign _ _ rfl rfl) ?_
        refine AU_u 15 5 _ rfl (by kernel_rfl) rfl rfl rfl (UOp_assign _ _ rfl rfl) ?_
        refine AU_done (by kernel_rfl) ?_
        exact ⟨rfl, Weak_keep 0 hm [2, 3, 4, 5] [0] _ _ rfl rfl rfl⟩
   ·refine US_of 10 rfl rfl ?_
    refine AOps_buildSlice 26 _ _ _ [_, _, _, _, _, _] (intsD ([1, 2, 3, 3, 4, 18])) _ rfl rfl rfl rfl rfl (by decide) Try.underlying24 Try.sizeOf2 (zero_of Try.typeInfo2 rfl) rfl rfl (intsD_one _) ?_
    refine AOps_nil ?_
    refine AU_all [0, 8] (by kernel_rfl) rfl (allc ?_ (allc ?_ (fun _ h => nomatch h)))
    ·refine US_of 0 rfl rfl ?_
     refine AOps_q 16 _ rfl rfl rfl (QOp_loadN_ptr _ _ _ _ _ _ _ rfl Try.isAgg29 Try.sizeOf29 rfl rfl (colD_all _) (colD_length _)) ?_
     refine AOps_nil ?_
     refine AU_all [8] (by kernel_rfl) rfl (allc ?_ (fun _ h => nomatch h))
     ·refine US_of 8 rfl rfl ?_
      refine AOps_call [1] 24 _ _ _ _ _ _ _ _ _ _ rfl rfl rfl rfl rfl rfl rfl Try.call98 rfl (nodupB_sound _ rfl) rfl rfl rfl (spec_l01Near_ac r1 (if 16 < (if w64 (r2.1.p - 1) < 0 then 0 else w64 (r2.1.p - 1)) then 16 else (if w64 (r2.1.p - 1) < 0 then 0 else w64 (r2.1.p - 1))) _ hr3) ?_
      rintro _ _ ⟨rfl, rfl⟩
      refine ⟨(allc (fun _ _ => trivial) (fun _ h => nomatch h)), (allc (trivial) (fun _ h => nomatch h)), AOps_as 24 (v' := iV r3.1) (H' := [.box (colD Col.zero), .box (srcD r3.2), .box (colD r2.1), .vec 0 (intsD ([1, 2, 3, 3, 4, 18]))]) rfl rfl ?_⟩
      refine AOps_nil ?_
      refine AU_all [11] (by kernel_rfl) rfl (allc ?_ (fun _ h => nomatch h))
      ·refine US_of 11 rfl rfl ?_
       refine AOps_freezeL [26] 3 0 _ (allc (rfl) (fun _ h => nomatch h)) rfl ?_
       refine AOps_call [1] 27 _ _ _ _ _ _ _ _ _ _ rfl rfl rfl rfl rfl rfl rfl Try.call125 rfl (nodupB_sound _ rfl) rfl rfl rfl (spec_l01Pick_ac r3.2 ([1, 2, 3, 3, 4, 18]) _ hr4) ?_
       rintro _ _ ⟨rfl, rfl⟩
       refine ⟨(allc (fun _ _ => trivial) (fun _ h => nomatch h)), (allc (trivial) (fun _ h => nomatch h)), AOps_as 27 (v' := iV r4.1) (H' := [.box (colD Col.zero), .box (srcD r4.2), .box (colD r2.1), .gone]) rfl rfl ?_⟩
       refine AOps_nil ?_
       refine AU_all [12] (by kernel_rfl) rfl (allc ?_ (fun _ h => nomatch h))
       ·refine US_of 12 rfl rfl ?_
        refine AOps_store _ _ _ _ _ _ (colD _) _ _ rfl rfl rfl rfl rfl rfl rfl (colD_one _) (by rw [colD_length]; exact Try.sizeOf29) (by rw [colD_length, colD_length]; decide) (colD_whole _ _) ?_
        refine AOps_nil ?_
        refine AU_u 13 3 _ rfl (by kernel_rfl) rfl rfl rfl (UOp_assign _ _ rfl rfl) ?_
        refine AU_u 14 4 _ rfl (by kernel_rfl) rfl rfl rfl (UOp_assign _ _ rfl rfl) ?_
        refine AU_u 15 5 _ rfl (by kernel_rfl) rfl rfl rfl (UOp_assign _ _ rfl rfl) ?_
        refine AU_done (by kernel_rfl) ?_
        exact ⟨rfl, Weak_keep 0 hm [2, 3, 4, 5] [0] _ _ rfl rfl rfl⟩
    ·refine US_of 8 rfl rfl ?_
     refine AOps_call [1] 24 _ _ _ _ _ _ _ _ _ _ rfl rfl rfl rfl rfl rfl rfl Try.call98 rfl (nodupB_sound _ rfl) rfl rfl rfl (spec_l01Near_ac r1 (if 16 < (if w64 (r2.1.p - 1) < 0 then 0 else w64 (r2.1.p - 1)) then 16 else (if w64 (r2.1.p - 1) < 0 then 0 else w64 (r2.1.p - 1))) _ hr3) ?_
     rintro _ _ ⟨rfl, rfl⟩
     refine ⟨(allc (fun _ _ => trivial) (fun _ h => nomatch h)), (allc (trivial) (fun _ h => nomatch h)), AOps_as 24 (v' := iV r3.1) (H' := [.box (colD Col.zero), .box (srcD r3.2), .box (colD r2.1), .vec 0 (intsD ([1, 2, 3, 3, 4, 18]))]) rfl rfl ?_⟩
     refine AOps_nil ?_
     refine AU_all [0, 11] (by kernel_rfl) rfl (allc ?_ (allc ?_ (fun _ h => nomatch h)))
     ·refine US_of 0 rfl rfl ?_
      refine AOps_q 16 _ rfl rfl rfl (QOp_loadN_ptr _ _ _ _ _ _ _ rfl Try.isAgg29 Try.sizeOf29 rfl rfl (colD_all _) (colD_length _)) ?_
      refine AOps_nil ?_
      refine AU_all [11] (by kernel_rfl) rfl (allc ?_ (fun _ h => nomatch h))
      ·refine US_of 11 rfl rfl ?_
       refine AOps_freezeL [26] 3 0 _ (allc (rfl) (fun _ h => nomatch h)) rfl ?_
       refine AOps_call [1] 27 _ _ _ _ _ _ _ _ _ _ rfl rfl rfl rfl rfl rfl rfl Try.call125 rfl (nodupB_sound _ rfl) rfl rfl rfl (spec_l01Pick_ac r3.2 ([1, 2, 3, 3, 4, 18]) _ hr4) ?_
       rintro _ _ ⟨rfl, rfl⟩
       refine ⟨(allc (fun _ _ => trivial) (fun _ h => nomatch h)), (allc (trivial) (fun _ h => nomatch h)), AOps_as 27 (v' := iV r4.1) (H' := [.box (colD Col.zero), .box (srcD r4.2), .box (colD r2.1), .gone]) rfl rfl ?_⟩
       refine AOps_nil ?_
       refine AU_all [12] (by kernel_rfl) rfl (allc ?_ (fun _ h => nomatch h))
       ·refine US_of 12 rfl rfl ?_
        refine AOps_store _ _ _ _ _ _ (colD _) _ _ rfl rfl rfl rfl rfl rfl rfl (colD_one _) (by rw [colD_length]; exact Try.sizeOf29) (by rw [colD_length, colD_length]; decide) (colD_whole _ _) ?_
        refine AOps_nil ?_
        refine AU_u 13 3 _ rfl (by kernel_rfl) rfl rfl rfl (UOp_assign _ _ rfl rfl) ?_
        refine AU_u 14 4 _ rfl (by kernel_rfl) rfl rfl rfl (UOp_assign _ _ rfl rfl) ?_
        refine AU_u 15 5 _ rfl (by kernel_rfl) rfl rfl rfl (UOp_assign _ _ rfl rfl) ?_
        refine AU_done (by kernel_rfl) ?_
        exact ⟨rfl, Weak_keep 0 hm [2, 3, 4, 5] [0] _ _ rfl rfl rfl⟩
     ·refine US_of 11 rfl rfl ?_
      refine AOps_freezeL [26] 3 0 _ (allc (rfl) (fun _ h => nomatch h)) rfl ?_
      refine AOps_call [1] 27 _ _ _ _ _ _ _ _ _ _ rfl rfl rfl rfl rfl rfl rfl Try.call125 rfl (nodupB_sound _ rfl) rfl rfl rfl (spec_l01Pick_ac r3.2 ([1, 2, 3, 3, 4, 18]) _ hr4) ?_
      rintro _ _ ⟨rfl, rfl⟩
      refine ⟨(allc (fun _ _ => trivial) (fun _ h => nomatch h)), (allc (trivial) (fun _ h => nomatch h)), AOps_as 27 (v' := iV r4.1) (H' := [.box (colD Col.zero), .box (srcD r4.2), .box (colD r2.1), .gone]) rfl rfl ?_⟩
      refine AOps_nil ?_
      refine AU_all [0] (by kernel_rfl) rfl (allc ?_ (fun _ h => nomatch h))
      ·refine US_of 0 rfl rfl ?_
       refine AOps_q 16 _ rfl rfl rfl (QOp_loadN_ptr _ _ _ _ _ _ _ rfl Try.isAgg29 Try.sizeOf29 rfl rfl (colD_all _) (colD_length _)) ?_
       refine AOps_nil ?_
       refine AU_all [12] (by kernel_rfl) rfl (allc ?_ (fun _ h => nomatch h))
       ·refine US_of 12 rfl rfl ?_
        refine AOps_store _ _ _ _ _ _ (colD _) _ _ rfl rfl rfl rfl rfl rfl rfl (colD_one _) (by rw [colD_length]; exact Try.sizeOf29) (by rw [colD_length, colD_length]; decide) (colD_whole _ _) ?_
        refine AOps_nil ?_
        refine AU_u 13 3 _ rfl (by kernel_rfl) rfl rfl rfl (UOp_assign _ _ rfl rfl) ?_
        refine AU_u 14 4 _ rfl (by kernel_rfl) rfl rfl rfl (UOp_assign _ _ rfl rfl) ?_
        refine AU_u 15 5 _ rfl (by kernel_rfl) rfl rfl rfl (UOp_assign _ _ rfl rfl) ?_
        refine AU_done (by kernel_rfl) ?_
        exact ⟨rfl, Weak_keep 0 hm [2, 3, 4, 5] [0] _ _ rfl rfl rfl⟩
  ·refine US_of 10 rfl rfl ?_
   refine AOps_buildSlice 26 _ _ _ [_, _, _, _, _, _] (intsD ([1, 2, 3, 3, 4, 18])) _ rfl rfl rfl rfl rfl (by decide) Try.underlying24 Try.sizeOf2 (zero_of Try.typeInfo2 rfl) rfl rfl (intsD_one _) ?_
   refine AOps_nil ?_
   refine AU_all [0, 4] (by kernel_rfl) rfl (allc ?_ (allc ?_ (fun _ h => nomatch h)))
   ·refine US_of 0 rfl rfl ?_
    refine AOps_q 16 _ rfl rfl rfl (QOp_loadN_ptr _ _ _ _ _ _ _ rfl Try.isAgg29 Try.sizeOf29 rfl rfl (colD_all _) (colD_length _)) ?_
    refine AOps_nil ?_
    refine AU_all [4] (by kernel_rfl) rfl (allc ?_ (fun _ h => nomatch h))
    ·refine US_of 4 rfl rfl ?_
     refine AOps_q 20 _ rfl rfl rfl (QOp_load_ptr _ _ _ _ _ _ rfl Try.isAgg2 rfl rfl rfl) ?_
     refine AOps_nil ?_
     refine AU_u 5 21 _ rfl (by kernel_rfl) rfl rfl rfl (UOp_sub _ _ _ _ _ _ _ rfl rfl rfl) ?_
     refine AU_u 6 22 _ rfl (by kernel_rfl) rfl rfl rfl (UOp_max _ _ _ _ _ _ rfl rfl rfl rfl rfl) ?_
     refine AU_u 7 23 _ rfl (by kernel_rfl) rfl rfl rfl (UOp_min _ _ _ _ _ _ rfl rfl rfl rfl rfl) ?_
     refine AU_all [8] (by kernel_rfl) rfl (allc ?_ (fun _ h => nomatch h))
     ·refine US_of 8 rfl rfl ?_
      refine AOps_call [1] 24 _ _ _ _ _ _ _ _ _ _ rfl rfl rfl rfl rfl rfl rfl Try.call98 rfl (nodupB_sound _ rfl) rfl rfl rfl (spec_l01Near_ac r1 (if 16 < (if w64 (r2.1.p - 1) < 0 then 0 else w64 (r2.1.p - 1)) then 16 else (if w64 (r2.1.p - 1) < 0 then 0 else w64 (r2.1.p - 1))) _ hr3) ?_
      rintro _ _ ⟨rfl, rfl⟩
      refine ⟨(allc (fun _ _ => trivial) (fun _ h => nomatch h)), (allc (trivial) (fun _ h => nomatch h)), AOps_as 24 (v' := iV r3.1) (H' := [.box (colD Col.zero), .box (srcD r3.2), .box (colD r2.1), .vec 0 (intsD ([1, 2, 3, 3, 4, 18]))]) rfl rfl ?_⟩
      refine AOps_nil ?_
      refine AU_all [11] (by kernel_rfl) rfl (allc ?_ (fun _ h => nomatch h))
      ·refine US_of 11 rfl rfl ?_
       refine AOps_freezeL [26] 3 0 _ (allc (rfl) (fun _ h => nomatch h)) rfl ?_
       refine AOps_call [1] 27 _ _ _ _ _ _ _ _ _ _ rfl rfl rfl rfl rfl rfl rfl Try.call125 rfl (nodupB_sound _ rfl) rfl rfl rfl (spec_l01Pick_ac r3.2 ([1, 2, 3, 3, 4, 18]) _ hr4) ?_
       rintro _ _ ⟨rfl, rfl⟩
       refine ⟨(allc (fun _ _ => trivial) (fun _ h => nomatch h)), (allc (trivial) (fun _ h => nomatch h)), AOps_as 27 (v' := iV r4.1) (H' := [.box (colD Col.zero), .box (srcD r4.2), .box (colD r2.1), .gone]) rfl rfl ?_⟩
       refine AOps_nil ?_
       refine AU_all [12] (by kernel_rfl) rfl (allc ?_ (fun _ h => nomatch h))
       ·refine US_of 12 rfl rfl ?_
        refine AOps_store _ _ _ _ _ _ (colD _) _ _ rfl rfl rfl rfl rfl rfl rfl (colD_one _) (by rw [colD_length]; exact Try.sizeOf29) (by rw [colD_length, colD_length]; decide) (colD_whole _ _) ?_
        refine AOps_nil ?_
        refine AU_u 13 3 _ rfl (by kernel_rfl) rfl rfl rfl (UOp_assign _ _ rfl rfl) ?_
        refine AU_u 14 4 _ rfl (by kernel_rfl) rfl rfl rfl (UOp_assign _ _ rfl rfl) ?_
        refine AU_u 15 5 _ rfl (by kernel_rfl) rfl rfl rfl (UOp_assign _ _ rfl rfl) ?_
        refine AU_done (by kernel_rfl) ?_
        exact ⟨rfl, Weak_keep 0 hm [2, 3, 4, 5] [0] _ _ rfl rfl rfl⟩
   ·refine US_of 4 rfl rfl ?_
    refine AOps_q 20 _ rfl rfl rfl (QOp_load_ptr _ _ _ _ _ _ rfl Try.isAgg2 rfl rfl rfl) ?_
    refine AOps_nil ?_
    refine AU_u 5 21 _ rfl (by kernel_rfl) rfl rfl rfl (UOp_sub _ _ _ _ _ _ _ rfl rfl rfl) ?_
    refine AU_u 6 22 _ rfl (by kernel_rfl) rfl rfl rfl (UOp_max _ _ _ _ _ _ rfl rfl rfl rfl rfl) ?_
    refine AU_u 7 23 _ rfl (by kernel_rfl) rfl rfl rfl (UOp_min _ _ _ _ _ _ rfl rfl rfl rfl rfl) ?_
    refine AU_all [0, 8] (by kernel_rfl) rfl (allc ?_ (allc ?_ (fun _ h => nomatch h)))
    ·refine US_of 0 rfl rfl ?_
     refine AOps_q 16 _ rfl rfl rfl (QOp_loadN_ptr _ _ _ _ _ _ _ rfl Try.isAgg29 Try.sizeOf29 rfl rfl (colD_all _) (colD_length _)) ?_
     refine AOps_nil ?_
     refine AU_all [8] (by kernel_rfl) rfl (allc ?_ (fun _ h => nomatch h))
     ·refine US_of 8 rfl rfl ?_
      refine AOps_call [1] 24 _ _ _ _ _ _ _ _ _ _ rfl rfl rfl rfl rfl rfl rfl Try.call98 rfl (nodupB_sound _ rfl) rfl rfl rfl (spec_l01Near_ac r1 (if 16 < (if w64 (r2.1.p - 1) < 0 then 0 else w64 (r2.1.p - 1)) then 16 else (if w64 (r2.1.p - 1) < 0 then 0 else w64 (r2.1.p - 1))) _ hr3) ?_
      rintro _ _ ⟨rfl, rfl⟩
      refine ⟨(allc (fun _ _ => trivial) (fun _ h => nomatch h)), (allc (trivial) (fun _ h => nomatch h)), AOps_as 24 (v' := iV r3.1) (H' := [.box (colD Col.zero), .box (srcD r3.2), .box (colD r2.1), .vec 0 (intsD ([1, 2, 3, 3, 4, 18]))]) rfl rfl ?_⟩
      refine AOps_nil ?_
      refine AU_all [11] (by kernel_rfl) rfl (allc ?_ (fun _ h => nomatch h))
      ·refine US_of 11 rfl rfl ?_
       refine AOps_freezeL [26] 3 0 _ (allc (rfl) (fun _ h => nomatch h)) rfl ?_
       refine AOps_call [1] 27 _ _ _ _ _ _ _ _ _ _ rfl rfl rfl rfl rfl rfl rfl Try.call125 rfl (nodupB_sound _ rfl) rfl rfl rfl (spec_l01Pick_ac r3.2 ([1, 2, 3, 3, 4, 18]) _ hr4) ?_
       rintro _ _ ⟨rfl, rfl⟩
       refine ⟨(allc (fun _ _ => trivial) (fun _ h => nomatch h)), (allc (trivial) (fun _ h => nomatch h)), AOps_as 27 (v' := iV r4.1) (H' := [.box (colD Col.zero), .box (srcD r4.2), .box (colD r2.1), .gone]) rfl rfl ?_⟩
       refine AOps_nil ?_
       refine AU_all [12] (by kernel_rfl) rfl (allc ?_ (fun _ h => nomatch h))
       ·refine US_of 12 rfl rfl ?_
        refine AOps_store _ _ _ _ _ _ (colD _) _ _ rfl rfl rfl rfl rfl rfl rfl (colD_one _) (by rw [colD_length]; exact Try.sizeOf29) (by rw [colD_length, colD_length]; decide) (colD_whole _ _) ?_
        refine AOps_nil ?_
        refine AU_u 13 3 _ rfl (by kernel_rfl) rfl rfl rfl (UOp_assign _ _ rfl rfl) ?_
        refine AU_u 14 4 _ rfl (by kernel_rfl) rfl rfl rfl (UOp_assign _ _ rfl rfl) ?_
        refine AU_u 15 5 _ rfl (by kernel_rfl) rfl rfl rfl (UOp_assign _ _ rfl rfl) ?_
        refine AU_done (by kernel_rfl) ?_
        exact ⟨rfl, Weak_keep 0 hm [2, 3, 4, 5] [0] _ _ rfl rfl rfl⟩
    ·refine US_of 8 rfl rfl ?_
     refine AOps_call [1] 24 _ _ _ _ _ _ _ _ _ _ rfl rfl rfl rfl rfl rfl rfl Try.call98 rfl (nodupB_sound _ rfl) rfl rfl rfl (spec_l01Near_ac r1 (if 16 < (if w64 (r2.1.p - 1) < 0 then 0 else w64 (r2.1.p - 1)) then 16 else (if w64 (r2.1.p - 1) < 0 then 0 else w64 (r2.1.p - 1))) _ hr3) ?_
     rintro _ _ ⟨rfl, rfl⟩
     refine ⟨(allc (fun _ _ => trivial) (fun _ h => nomatch h)), (allc (trivial) (fun _ h => nomatch h)), AOps_as 24 (v' := iV r3.1) (H' := [.box (colD Col.zero), .box (srcD r3.2), .box (colD r2.1), .vec 0 (intsD ([1, 2, 3, 3, 4, 18]))]) rfl rfl ?_⟩
     refine AOps_nil ?_
     refine AU_all [0, 11] (by kernel_rfl) rfl (allc ?_ (allc ?_ (fun _ h => nomatch h)))
     ·refine US_of 0 rfl rfl ?_
      refine AOps_q 16 _ rfl rfl rfl (QOp_loadN_ptr _ _ _ _ _ _ _ rfl Try.isAgg29 Try.sizeOf29 rfl rfl (colD_all _) (colD_length _)) ?_
      refine AOps_nil ?_
      refine AU_all [11] (by kernel_rfl) rfl (allc ?_ (fun _ h => nomatch h))
      ·refine US_of 11 rfl rfl ?_
       refine AOps_freezeL [26] 3 0 _ (allc (rfl) (fun _ h => nomatch h)) rfl ?_
       refine AOps_call [1] 27 _ _ _ _ _ _ _ _ _ _ rfl rfl rfl rfl rfl rfl rfl Try.call125 rfl (nodupB_sound _ rfl) rfl rfl rfl (spec_l01Pick_ac r3.2 ([1, 2, 3, 3, 4, 18]) _ hr4) ?_
       rintro _ _ ⟨rfl, rfl⟩
       refine ⟨(allc (fun _ _ => trivial) (fun _ h => nomatch h)), (allc (trivial) (fun _ h => nomatch h)), AOps_as 27 (v' := iV r4.1) (H' := [.box (colD Col.zero), .box (srcD r4.2), .box (colD r2.1), .gone]) rfl rfl ?_⟩
       refine AOps_nil ?_
       refine AU_all [12] (by kernel_rfl) rfl (allc ?_ (fun _ h => nomatch h))
       ·refine US_of 12 rfl rfl ?_
        refine AOps_store _ _ _ _ _ _ (colD _) _ _ rfl rfl rfl rfl rfl rfl rfl (colD_one _) (by rw [colD_length]; exact Try.sizeOf29) (by rw [colD_length, colD_length]; decide) (colD_whole _ _) ?_
        refine AOps_nil ?_
        refine AU_u 13 3 _ rfl (by kernel_rfl) rfl rfl rfl (UOp_assign _ _ rfl rfl) ?_
        refine AU_u 14 4 _ rfl (by kernel_rfl) rfl rfl rfl (UOp_assign _ _ rfl rfl) ?_
        refine AU_u 15 5 _ rfl (by kernel_rfl) rfl rfl rfl (UOp_assign _ _ rfl rfl) ?_
        refine AU_done (by kernel_rfl) ?_
        exact ⟨rfl, Weak_keep 0 hm [2, 3, 4, 5] [0] _ _ rfl rfl rfl⟩
     ·refine US_of 11 rfl rfl ?_
      refine AOps_freezeL [26] 3 0 _ (allc (rfl) (fun _ h => nomatch h)) rfl ?_
      refine AOps_call [1] 27 _ _ _ _ _ _ _ _ _ _ rfl rfl rfl rfl rfl rfl rfl Try.call125 rfl (nodupB_sound _ rfl) rfl rfl rfl (spec_l01Pick_ac r3.2 ([1, 2, 3, 3, 4, 18]) _ hr4) ?_
      rintro _ _ ⟨rfl, rfl⟩
      refine ⟨(allc (fun _ _ => trivial) (fun _ h => nomatch h)), (allc (trivial) (fun _ h => nomatch h)), AOps_as 27 (v' := iV r4.1) (H' := [.box (colD Col.zero), .box (srcD r4.2), .box (colD r2.1), .gone]) rfl rfl ?_⟩
      refine AOps_nil ?_
      refine AU_all [0] (by kernel_rfl) rfl (allc ?_ (fun _ h => nomatch h))
      ·refine US_of 0 rfl rfl ?_
       refine AOps_q 16 _ rfl rfl rfl (QOp_loadN_ptr _ _ _ _ _ _ _ rfl Try.isAgg29 Try.sizeOf29 rfl rfl (colD_all _) (colD_length _)) ?_
       refine AOps_nil ?_
       refine AU_all [12] (by kernel_rfl) rfl (allc ?_ (fun _ h => nomatch h))
       ·refine US_of 12 rfl rfl ?_
        refine AOps_store _ _ _ _ _ _ (colD _) _ _ rfl rfl rfl rfl rfl rfl rfl (colD_one _) (by rw [colD_length]; exact Try.sizeOf29) (by rw [colD_length, colD_length]; decide) (colD_whole _ _) ?_
        refine AOps_nil ?_
        refine AU_u 13 3 _ rfl (by kernel_rfl) rfl rfl rfl (UOp_assign _ _ rfl rfl) ?_
        refine AU_u 14 4 _ rfl (by kernel_rfl) rfl rfl rfl (UOp_assign _ _ rfl rfl) ?_
        refine AU_u 15 5 _ rfl (by kernel_rfl) rfl rfl rfl (UOp_assign _ _ rfl rfl) ?_
        refine AU_done (by kernel_rfl) ?_
        exact ⟨rfl, Weak_keep 0 hm [2, 3, 4, 5] [0] _ _ rfl rfl rfl⟩
 refine ACode_ret ?_
 cases h
 exact ⟨_, _, fun r a w h => ⟨r, h⟩, _, _, [], _, (.cons (ResV_agg _ _ _ _ _ _ Try.isAgg29 Try.sizeOf29 rfl rfl (colD_take _) (colD_length _)) (.cons (ResV_tmp _ _ rfl) (.cons (ResV_tmp _ _ rfl) (.cons (ResV_tmp _ _ rfl) .nil)))), rfl, rfl, rfl, rfl, rfl⟩

-- loop.example/g01362/impl.CliquesAt$1
def impl_CliquesAt_c1 (p0 : Col) (p1 : Int) (p2 : Int) (p3 : Int) : Bool :=
 letO (if (impl_Colouring_hasColour p0 p1) then (if (impl_Colouring_has p0 p2) then (impl_in p3 1 17) else false) else false) fun (s6 : Bool) => s6
set_option maxRecDepth 100000 in
theorem impl_CliquesAt_c1_ac (p0 : Col) (p1 : Int) (p2 : Int) (p3 : Int) : AC Try.prog 126 [.d (.pv (colD p0) 0), .d (.pv ([iD p1]) 0), .d (.pv ([iD p2]) 0), .d (.pv ([iD p3]) 0)] [] (fun res H' => res = [bV (impl_CliquesAt_c1 p0 p1 p2 p3)] ∧ H' = []) := by
 refine AC_of_body true Try.func126 rfl Try.ntmps126 (rvs := [.tmp 4]) rfl rfl (fun G hG => ?_)
 have hm : G.H.length = 0 := by rw [hG]; rfl
 have hz : zeroG G.H = true := by rw [hG]; rfl
 obtain ⟨r, h⟩ : ∃ r, impl_CliquesAt_c1 p0 p1 p2 p3 = r := ⟨_, rfl⟩
 rw [h]
 unfold impl_CliquesAt_c1 at h
 refine ACode_seq (ACode_region ?_)
 refine AOps_q 4 _ rfl rfl rfl (QOp_assign _ _ rfl rfl) ?_
 refine AOps_nil ?_
 obtain ⟨s6, hss6, hks6⟩ := letS h
 clear h
 refine ACode_seqJ (fun E' H' => Weak 15 G E' H' [(4, bV s6)] []) ?_ ?_
 ·have h := hss6
  clear hss6
  refine (ACode_region ?_)
  refine AOps_q 5 _ rfl rfl rfl (QOp_load_pv _ _ _ _ _ rfl Try.isAgg2 rfl rfl) ?_
  refine AOps_call [] 6 _ _ _ _ _ _ _ _ _ _ rfl rfl rfl rfl rfl rfl rfl Try.call103 rfl (nodupB_sound _ rfl) rfl rfl rfl (impl_Colouring_hasColour_ac p0 p1) ?_
  rintro _ _ ⟨rfl, rfl⟩
  refine ⟨(fun _ h => nomatch h), (allc (trivial) (fun _ h => nomatch h)), AOps_as 6 (v' := bV (impl_Colouring_hasColour p0 p1)) (H' := []) rfl rfl ?_⟩
  refine AOps_q 7 _ rfl rfl rfl (QOp_move _ _ rfl rfl) ?_
  refine AOps_case 7 _ rfl (fun hb2 => ?_) (fun hb2 => ?_)
  ·have h := iteT hb2 h
   refine AOps_q 8 _ rfl rfl rfl (QOp_load_pv _ _ _ _ _ rfl Try.isAgg2 rfl rfl) ?_
   refine AOps_call [] 9 _ _ _ _ _ _ _ _ _ _ rfl rfl rfl rfl rfl rfl rfl Try.call127 rfl (nodupB_sound _ rfl) rfl rfl rfl (impl_Colouring_has_ac p0 p2) ?_
   rintro _ _ ⟨rfl, rfl⟩
   refine ⟨(fun _ h => nomatch h), (allc (trivial) (fun _ h => nomatch h)), AOps_as 9 (v' := bV (impl_Colouring_has p0 p2)) (H' := []) rfl rfl ?_⟩
   refine AOps_q 10 _ rfl rfl rfl (QOp_pick_t _ _ _ _ rfl rfl rfl) ?_
   refine AOps_q 11 _ rfl rfl rfl (QOp_move _ _ rfl rfl) ?_
   refine AOps_case 11 _ rfl (fun hb4 => ?_) (fun hb4 => ?_)
   ·have h := iteT hb4 h
    refine AOps_q 12 _ rfl rfl rfl (QOp_load_pv _ _ _ _ _ rfl Try.isAgg2 rfl rfl) ?_
    refine AOps_call [] 13 _ _ _ _ _ _ _ _ _ _ rfl rfl rfl rfl rfl rfl rfl Try.call99 rfl (nodupB_sound _ rfl) rfl rfl rfl (impl_in_ac p3 1 17) ?_
    rintro _ _ ⟨rfl, rfl⟩
    refine ⟨(fun _ h => nomatch h), (allc (trivial) (fun _ h => nomatch h)), AOps_as 13 (v' := bV (impl_in p3 1 17)) (H' := []) rfl rfl ?_⟩
    refine AOps_q 14 _ rfl rfl rfl (QOp_pick_t _ _ _ _ rfl rfl rfl) ?_
    refine AOps_q 4 _ rfl rfl rfl (QOp_assign _ _ rfl rfl) ?_
    refine AOps_nil ?_
    cases h
    exact Weak_keep 0 hm [4] [] _ _ rfl rfl rfl
   ·have h := iteF hb4 h
    refine AOps_skip 12 rfl rfl rfl ?_
    refine AOps_skip 13 rfl rfl rfl ?_
    refine AOps_q 14 _ rfl rfl rfl (QOp_pick_f _ _ _ _ rfl rfl rfl) ?_
    refine AOps_q 4 _ rfl rfl rfl (QOp_assign _ _ rfl rfl) ?_
    refine AOps_nil ?_
    cases h
    exact Weak_keep 0 hm [4] [] _ _ rfl rfl rfl
  ·have h := iteF hb2 h
   refine AOps_skip 8 rfl rfl rfl ?_
   refine AOps_skip 9 rfl rfl rfl ?_
   refine AOps_q 10 _ rfl rfl rfl (QOp_pick_f _ _ _ _ rfl rfl rfl) ?_
   refine AOps_q 11 _ rfl rfl rfl (QOp_move _ _ rfl rfl) ?_
   refine AOps_skip 12 rfl rfl rfl ?_
   refine AOps_skip 13 rfl rfl rfl ?_
   refine AOps_q 14 _ rfl rfl rfl (QOp_pick_f _ _ _ _ rfl rfl rfl) ?_
   refine AOps_q 4 _ rfl rfl rfl (QOp_assign _ _ rfl rfl) ?_
   refine AOps_nil ?_
   cases h
   exact Weak_keep 0 hm [4] [] _ _ rfl rfl rfl
 intro E' H' hw
 refine ACode_weak hw ?_
 have h := hks6
 refine ACode_ret ?_
 cases h
 exact ⟨_, _, fun r a w h => ⟨r, h⟩, _, _, [], _, (.cons (ResV_tmp _ _ rfl) .nil), rfl, rfl, rfl, rfl, rfl⟩

-- slices.Index[[]int64,int64]
def slices_Index_l0 (p0 : List Int) (p1 : Int) : Nat → Int → Option (Sum (Unit) (Int))
 | 0, _ => none
 | k0 + 1, x1 => (if decide (x1 < (p0.length : Int)) then (if 0 ≤ x1 ∧ x1 < (p0.length : Int) then (if decide (p1 = (p0.getD x1.toNat 0)) then some (.inr x1) else slices_Index_l0 p0 p1 k0 (w64 (x1 + 1))) else none) else some (.inl ()))
def slices_Index (k : Nat) (p0 : List Int) (p1 : Int) : Option (Int) :=
 (slices_Index_l0 p0 p1 k 0 : Option (Sum (Unit) (Int))).bind fun os5 => (match os5 with | .inl s5 => some (-1) | .inr rr => some rr)
set_option maxRecDepth 100000 in
theorem slices_Index_ac (k : Nat) (p0 : List Int) (p1 : Int) (r : Int) (h : slices_Index k p0 p1 = some r) : AC Try.prog 196 [.d (.sl none (intsD p0)), iV p1] [] (fun res H' => res = [iV r] ∧ H' = []) := by
 refine AC_of_body true Try.func196 rfl Try.ntmps196 (rvs := [.tmp 4]) rfl rfl (fun G hG => ?_)
 have hm : G.H.length = 0 := by rw [hG]; rfl
 have hz : zeroG G.H = true := by rw [hG]; rfl
 unfold slices_Index at h
 refine ACode_seq (ACode_region ?_)
 refine AOps_q 4 _ rfl rfl rfl (QOp_assign _ _ rfl rfl) ?_
 refine AOps_nil ?_
 obtain ⟨os5, hss5, hks5⟩ := bindO h
 clear h
 refine ACode_seqJ (fun E' H' => ∃ s5 : Unit, os5 = .inl s5 ∧ Weak 19 G E' H' [] []) ?_ ?_
 ·have h := hss5
  clear hss5
  refine ACode_seq (ACode_region ?_)
  refine AOps_q 6 _ rfl rfl rfl (QOp_move _ _ rfl rfl) ?_
  refine AOps_q 7 _ rfl rfl rfl (QOp_len_sl _ _ _ _ _ _ _ (intsD_length _) rfl rfl rfl rfl Try.underlying24 rfl) ?_
  refine AOps_q 8 _ rfl rfl rfl (QOp_move _ _ rfl rfl) ?_
  refine AOps_nil ?_
  refine ACode_block ?_
  refine ACode_loopW (fun k0 E H => ∃ (x1 : Int), E = [(0, .d (.sl none (intsD p0))), (1, iV p1), (7, iV (p0.length : Int)), (8, iV x1)] ∧ H = [] ∧ slices_Index_l0 p0 p1 k0 x1 = some os5) k _ _ (Weak_keep 0 hm [0, 1, 7, 8] [] _ _ rfl rfl rfl) ⟨_, rfl, rfl, h⟩ ?_
  clear h
  rintro k0 E H ⟨x1, rfl, rfl, h⟩
  cases k0 with
  | zero => cases (show (none : Option (Sum (Unit) (Int))) = some _ from h)
  | succ k0 =>
   rw [slices_Index_l0] at h
   refine ACode_seq (ACode_region ?_)
   refine AOps_q 9 _ rfl rfl rfl (QOp_lss _ _ _ _ _ _ _ rfl rfl rfl) ?_
   refine AOps_nil ?_
   refine ACode_seq ?_
   refine ACode_cond _ rfl (fun hb2 => ?_) (fun hb2 => ?_)
   ·have h := iteT hb2 h
    refine ACode_skip ?_
    refine ACode_seq ?_
    refine ACode_block ?_
    refine ACode_seq (ACode_region ?_)
    refine AOps_q 10 _ rfl rfl rfl (QOp_move _ _ rfl rfl) ?_
    refine AOps_q 5 _ rfl rfl rfl (QOp_assign _ _ rfl rfl) ?_
    refine AOps_nil ?_
    refine ACode_seq (ACode_region ?_)
    refine AOps_q 11 _ rfl rfl rfl (QOp_move _ _ rfl rfl) ?_
    refine AOps_q 12 _ rfl rfl rfl (QOp_move _ _ rfl rfl) ?_
    refine AOps_q 13 _ rfl rfl rfl (QOp_move _ _ rfl rfl) ?_
    obtain ⟨hc3, h⟩ := guardO h
    refine AOps_q 14 _ rfl rfl rfl (QOp_indexAddr_sl _ _ _ _ _ _ _ _ rfl Try.underlying24 Try.sizeOf2 hc3.1 (by rw [intsD_length]; exact hc3.2) rfl rfl) ?_
    refine AOps_q 15 _ rfl rfl rfl (QOp_load_pv _ _ _ _ _ rfl Try.isAgg2 rfl (intsD_get _ _ 0 (by omega))) ?_
    refine AOps_q 16 _ rfl rfl rfl (QOp_eql _ _ _ _ _ _ _ rfl rfl rfl) ?_
    refine AOps_nil ?_
    refine ACode_cond _ rfl (fun hb4 => ?_) (fun hb4 => ?_)
    ·have h := iteT hb4 h
     refine ACode_seq (ACode_region ?_)
     refine AOps_q 17 _ rfl rfl rfl (QOp_move _ _ rfl rfl) ?_
     refine AOps_q 4 _ rfl rfl rfl (QOp_assign _ _ rfl rfl) ?_
     refine AOps_nil ?_
     refine ACode_ret ?_
     cases h
     have h := hks5
     cases h
     exact ⟨_, _, fun r a w h => ⟨r, h⟩, _, _, [], _, (.cons (ResV_tmp _ _ rfl) .nil), rfl, rfl, rfl, rfl, rfl⟩
    ·have h := iteF hb4 h
     refine ACode_skip ?_
     refine (ACode_region ?_)
     refine AOps_q 18 _ rfl rfl rfl (QOp_add _ _ _ _ _ _ _ rfl rfl rfl) ?_
     refine AOps_q 8 _ rfl rfl rfl (QOp_move _ _ rfl rfl) ?_
     refine AOps_nil ?_
     exact ⟨k0, _, _, Nat.lt_succ_self _, Weak_keep 0 hm [0, 1, 7, 8] [] _ _ rfl rfl rfl, _, rfl, rfl, h⟩
   ·have h := iteF hb2 h
    refine ACode_exit ?_
    cases h
    exact ⟨_, rfl, Weak_keep 0 hm [] [] _ _ rfl rfl rfl⟩
 rintro E' H' ⟨s5, rfl, hw⟩
 refine ACode_weak hw ?_
 have h := hks5
 refine ACode_seq (ACode_region ?_)
 refine AOps_q 4 _ rfl rfl rfl (QOp_assign _ _ rfl rfl) ?_
 refine AOps_nil ?_
 refine ACode_ret ?_
 cases h
 exact ⟨_, _, fun r a w h => ⟨r, h⟩, _, _, [], _, (.cons (ResV_tmp _ _ rfl) .nil), rfl, rfl, rfl, rfl, rfl⟩

-- slices.Contains[[]int64,int64]
def slices_Contains (k : Nat) (p0 : List Int) (p1 : Int) : Option (Bool) :=
 (slices_Index k p0 p1).bind fun r1 => some (decide (0 ≤ r1))
set_option maxRecDepth 100000 in
theorem slices_Contains_ac (k : Nat) (p0 : List Int) (p1 : Int) (r : Bool) (h : slices_Contains k p0 p1 = some r) : AC Try.prog 129 [.d (.sl none (intsD p0)), iV p1] [] (fun res H' => res = [bV r] ∧ H' = []) := by
 refine AC_of_body true Try.func129 rfl Try.ntmps129 (rvs := [.tmp 4]) rfl rfl (fun G hG => ?_)
 have hm : G.H.length = 0 := by rw [hG]; rfl
 have hz : zeroG G.H = true := by rw [hG]; rfl
 unfold slices_Contains at h
 refine ACode_seq (ACode_region ?_)
 refine AOps_q 4 _ rfl rfl rfl (QOp_assign _ _ rfl rfl) ?_
 refine AOps_nil ?_
 refine ACode_seq (ACode_region ?_)
 refine AOps_q 5 _ rfl rfl rfl (QOp_move _ _ rfl rfl) ?_
 refine AOps_q 6 _ rfl rfl rfl (QOp_move _ _ rfl rfl) ?_
 obtain ⟨r1, hr1, h⟩ := bindO h
 refine AOps_call [] 7 _ _ _ _ _ _ _ _ _ _ rfl rfl rfl rfl rfl rfl rfl Try.call196 rfl (nodupB_sound _ rfl) rfl rfl rfl (slices_Index_ac k p0 p1 _ hr1) ?_
 rintro _ _ ⟨rfl, rfl⟩
 refine ⟨(fun _ h => nomatch h), (allc (trivial) (fun _ h => nomatch h)), AOps_as 7 (v' := iV r1) (H' := []) rfl rfl ?_⟩
 refine AOps_q 8 _ rfl rfl rfl (QOp_geq _ _ _ _ _ _ _ rfl rfl rfl) ?_
 refine AOps_q 4 _ rfl rfl rfl (QOp_assign _ _ rfl rfl) ?_
 refine AOps_nil ?_
 refine ACode_ret ?_
 cases h
 exact ⟨_, _, fun r a w h => ⟨r, h⟩, _, _, [], _, (.cons (ResV_tmp _ _ rfl) .nil), rfl, rfl, rfl, rfl, rfl⟩

-- loop.example/g01362/impl.CliquesAt$2
def impl_CliquesAt_c2 (k : Nat) (p0 : List Int) (p1 : Int) : Option (Bool) :=
 (slices_Contains k p0 p1).bind fun r1 => some r1
set_option maxRecDepth 100000 in
theorem impl_CliquesAt_c2_ac (k : Nat) (p0 : List Int) (p1 : Int) (r : Bool) (h : impl_CliquesAt_c2 k p0 p1 = some r) : AC Try.prog 128 [.d (.sl none (intsD p0)), .d (.pv ([iD p1]) 0)] [] (fun res H' => res = [bV r] ∧ H' = []) := by
 refine AC_of_body true Try.func128 rfl Try.ntmps128 (rvs := [.tmp 3]) rfl rfl (fun G hG => ?_)
 have hm : G.H.length = 0 := by rw [hG]; rfl
 have hz : zeroG G.H = true := by rw [hG]; rfl
 unfold impl_CliquesAt_c2 at h
 refine ACode_seq (ACode_region ?_)
 refine AOps_q 3 _ rfl rfl rfl (QOp_assign _ _ rfl rfl) ?_
 refine AOps_nil ?_
 refine ACode_seq (ACode_region ?_)
 refine AOps_q 4 _ rfl rfl rfl (QOp_move _ _ rfl rfl) ?_
 refine AOps_q 5 _ rfl rfl rfl (QOp_load_pv _ _ _ _ _ rfl Try.isAgg2 rfl rfl) ?_
 obtain ⟨r1, hr1, h⟩ := bindO h
 refine AOps_call [] 6 _ _ _ _ _ _ _ _ _ _ rfl rfl rfl rfl rfl rfl rfl Try.call129 rfl (nodupB_sound _ rfl) rfl rfl rfl (slices_Contains_ac k p0 p1 _ hr1) ?_
 rintro _ _ ⟨rfl, rfl⟩
 refine ⟨(fun _ h => nomatch h), (allc (trivial) (fun _ h => nomatch h)), AOps_as 6 (v' := bV r1) (H' := []) rfl rfl ?_⟩
 refine AOps_q 3 _ rfl rfl rfl (QOp_assign _ _ rfl rfl) ?_
 refine AOps_nil ?_
 refine ACode_ret ?_
 cases h
 exact ⟨_, _, fun r a w h => ⟨r, h⟩, _, _, [], _, (.cons (ResV_tmp _ _ rfl) .nil), rfl, rfl, rfl, rfl, rfl⟩

-- loop.example/g01362/impl.CliquesAt
def impl_CliquesAt (k : Nat) (p0 : Col) (p1 : Int) (p2 : Int) (p3 : Int) : Option (Int × Int) :=
 (impl_Colouring_code k p0 (some (impl_CliquesAt_c1 p0 p1 p2 p3))).bind fun r1 => (if !decide (r1 = 0) then some (0, r1) else (impl_Colouring_countThat k p0 p1 p3 (fun a0 => impl_CliquesAt_c2 k a0 p2)).bind fun r3 => some (r3, 0))
set_option maxRecDepth 100000 in
theorem impl_CliquesAt_ac (k : Nat) (p0 : Col) (p1 : Int) (p2 : Int) (p3 : Int) (r : Int × Int) (h : impl_CliquesAt k p0 p1 p2 p3 = some r) : AC Try.prog 38 [.d (.agg (colD p0)), iV p1, iV p2, iV p3] [] (fun res H' => res = [iV r.1, iV r.2] ∧ H' = []) := by
 refine AC_of_body true Try.func38 rfl Try.ntmps38 (rvs := [.tmp 8, .tmp 9]) rfl rfl (fun G hG => ?_)
 have hm : G.H.length = 0 := by rw [hG]; rfl
 have hz : zeroG G.H = true := by rw [hG]; rfl
 unfold impl_CliquesAt at h
 refine ACode_seq (ACode_region ?_)
 refine AOps_boxI 4 _ _ (.agg (colD p0)) (colD p0) rfl (colD_one _) rfl rfl rfl rfl rfl ?_
 refine AOps_boxI 5 _ _ (iD p1) _ rfl (fun c hc => by cases hc with | head => rfl | tail _ h => cases h) rfl rfl rfl rfl rfl ?_
 refine AOps_boxI 6 _ _ (iD p2) _ rfl (fun c hc => by cases hc with | head => rfl | tail _ h => cases h) rfl rfl rfl rfl rfl ?_
 refine AOps_boxI 7 _ _ (iD p3) _ rfl (fun c hc => by cases hc with | head => rfl | tail _ h => cases h) rfl rfl rfl rfl rfl ?_
 refine AOps_q 8 _ rfl rfl rfl (QOp_assign _ _ rfl rfl) ?_
 refine AOps_q 9 _ rfl rfl rfl (QOp_assign _ _ rfl rfl) ?_
 refine AOps_nil ?_
 refine ACode_seq ?_
 refine ACode_seq (ACode_region ?_)
 refine AOps_q 11 _ rfl rfl rfl (QOp_makeFuncD _ _ _ _ rfl rfl rfl) ?_
 obtain ⟨r1, hr1, h⟩ := bindO h
 refine AOps_call [] 12 _ _ _ _ _ _ _ _ _ _ rfl rfl rfl rfl rfl rfl rfl Try.call83 rfl (nodupB_sound _ rfl) rfl rfl rfl (impl_Colouring_code_ac k p0 (some (impl_CliquesAt_c1 p0 p1 p2 p3)) 126 ([.pv (colD p0) 0, .pv ([iD p1]) 0, .pv ([iD p2]) 0, .pv ([iD p3]) 0]) Try.call126 (fun r h => by cases h; exact impl_CliquesAt_c1_ac p0 p1 p2 p3) _ hr1) ?_
 rintro _ _ ⟨rfl, rfl⟩
 refine ⟨(fun _ h => nomatch h), (allc (trivial) (fun _ h => nomatch h)), AOps_as 12 (v' := iV r1) (H' := []) rfl rfl ?_⟩
 refine AOps_q 10 _ rfl rfl rfl (QOp_assign _ _ rfl rfl) ?_
 refine AOps_nil ?_
 refine ACode_seq (ACode_region ?_)
 refine AOps_q 13 _ rfl rfl rfl (QOp_move _ _ rfl rfl) ?_
 refine AOps_q 14 _ rfl rfl rfl (QOp_neq _ _ _ _ _ _ _ rfl rfl rfl) ?_
 refine AOps_nil ?_
 refine ACode_cond _ rfl (fun hb2 => ?_) (fun hb2 => ?_)
 ·have h := iteT hb2 h
  refine ACode_seq (ACode_region ?_)
  refine AOps_q 15 _ rfl rfl rfl (QOp_move _ _ rfl rfl) ?_
  refine AOps_q 8 _ rfl rfl rfl (QOp_assign _ _ rfl rfl) ?_
  refine AOps_q 9 _ rfl rfl rfl (QOp_assign _ _ rfl rfl) ?_
  refine AOps_nil ?_
  refine ACode_ret ?_
  cases h
  exact ⟨_, _, fun r a w h => ⟨r, h⟩, _, _, [], _, (.cons (ResV_tmp _ _ rfl) (.cons (ResV_tmp _ _ rfl) .nil)), rfl, rfl, rfl, rfl, rfl⟩
 ·have h := iteF hb2 h
  refine ACode_skip ?_
  refine ACode_seq (ACode_region ?_)
  refine AOps_q 16 _ rfl rfl rfl (QOp_load_pv _ _ _ _ _ rfl Try.isAgg2 rfl rfl) ?_
  refine AOps_q 17 _ rfl rfl rfl (QOp_load_pv _ _ _ _ _ rfl Try.isAgg2 rfl rfl) ?_
  refine AOps_q 18 _ rfl rfl rfl (QOp_makeFuncD _ _ _ _ rfl rfl rfl) ?_
  obtain ⟨r3, hr3, h⟩ := bindO h
  refine AOps_call [] 19 _ _ _ _ _ _ _ _ _ _ rfl rfl rfl rfl rfl rfl rfl Try.call110 rfl (nodupB_sound _ rfl) rfl rfl rfl (impl_Colouring_countThat_ac k p0 p1 p3 (fun a0 => impl_CliquesAt_c2 k a0 p2) 128 ([.pv ([iD p2]) 0]) Try.call128 (fun a0 r h => impl_CliquesAt_c2_ac k a0 p2 r h) _ hr3) ?_
  rintro _ _ ⟨rfl, rfl⟩
  refine ⟨(fun _ h => nomatch h), (allc (trivial) (fun _ h => nomatch h)), AOps_as 19 (v' := iV r3) (H' := []) rfl rfl ?_⟩
  refine AOps_q 8 _ rfl rfl rfl (QOp_assign _ _ rfl rfl) ?_
  refine AOps_q 9 _ rfl rfl rfl (QOp_assign _ _ rfl rfl) ?_
  refine AOps_nil ?_
  refine ACode_ret ?_
  cases h
  exact ⟨_, _, fun r a w h => ⟨r, h⟩, _, _, [], _, (.cons (ResV_tmp _ _ rfl) (.cons (ResV_tmp _ _ rfl) .nil)), rfl, rfl, rfl, rfl, rfl⟩

-- loop.example/g01362/spec.CliquesAt
def spec_CliquesAt (k : Nat) (p0 : Col) (p1 : Int) (p2 : Int) (p3 : Int) : Option (Int × Int) :=
 (spec_l01Given k p0 p1 ([p2])).bind fun r1 => letO (letO (if decide (r1 = 0) then !(spec_l01In p3 1 17) else false) fun (s4 : Bool) => (if s4 then 2 else r1)) fun (s6 : Int) => (if !decide (s6 = 0) then some (0, s6) else (spec_l02Rows k p0 p1).bind fun r8 => (if 0 ≤ p2 ∧ p2 < (r8.length : Int) then (spec_l02Count k r8 (r8.getD p2.toNat 0) (w64 (p3 - 1))).bind fun r10 => some (r10, 0) else none))
set_option maxRecDepth 100000 in
theorem spec_CliquesAt_ac (k : Nat) (p0 : Col) (p1 : Int) (p2 : Int) (p3 : Int) (r : Int × Int) (h : spec_CliquesAt k p0 p1 p2 p3 = some r) : AC Try.prog 39 [.d (.agg (colD p0)), iV p1, iV p2, iV p3] [] (fun res H' => res = [iV r.1, iV r.2] ∧ H' = []) := by
 refine AC_of_body true Try.func39 rfl Try.ntmps39 (rvs := [.tmp 8, .tmp 9]) rfl rfl (fun G hG => ?_)
 have hm : G.H.length = 0 := by rw [hG]; rfl
 have hz : zeroG G.H = true := by rw [hG]; rfl
 unfold spec_CliquesAt at h
 refine ACode_seq (ACode_region ?_)
 refine AOps_boxI 4 _ _ (.agg (colD p0)) (colD p0) rfl (colD_one _) rfl rfl rfl rfl rfl ?_
 refine AOps_q 8 _ rfl rfl rfl (QOp_assign _ _ rfl rfl) ?_
 refine AOps_q 9 _ rfl rfl rfl (QOp_assign _ _ rfl rfl) ?_
 refine AOps_nil ?_
 refine ACode_seq (ACode_region ?_)
 refine AOps_q 12 _ rfl rfl rfl (QOp_loadN_pv _ _ _ _ _ _ rfl Try.isAgg29 Try.sizeOf29 rfl (colD_all _) (colD_length _)) ?_
 refine AOps_q 13 _ rfl rfl rfl (QOp_move _ _ rfl rfl) ?_
 refine AOps_q 14 _ rfl rfl rfl (QOp_move _ _ rfl rfl) ?_
 refine AOps_buildSlice 15 _ _ _ [_] (intsD ([p2])) _ rfl rfl rfl rfl rfl (by decide) Try.underlying24 Try.sizeOf2 (zero_of Try.typeInfo2 rfl) rfl rfl (intsD_one _) ?_
 obtain ⟨r1, hr1, h⟩ := bindO h
 refine AOps_callL [] 16 _ _ _ _ _ _ _ _ _ _ rfl rfl rfl rfl rfl rfl rfl Try.call107 rfl (nodupB_sound _ rfl) rfl rfl rfl (spec_l01Given_ac k p0 p1 ([p2]) _ hr1) ?_
 rintro _ _ ⟨rfl, rfl⟩
 refine ⟨(fun _ h => nomatch h), (allc (flat_s _) (fun _ h => nomatch h)), AOps_as 16 (v' := iV r1) (H' := [.vec 0 (intsD ([p2]))]) rfl rfl ?_⟩
 refine AOps_q 10 _ rfl rfl rfl (QOp_assign _ _ rfl rfl) ?_
 refine AOps_nil ?_
 obtain ⟨s6, hss6, hks6⟩ := letS h
 clear h
 refine ACode_seqJ (fun E' H' => Weak 38 G E' H' [(1, iV p1), (2, iV p2), (3, iV p3), (4, .d (.pv (colD p0) 0)), (10, iV s6)] []) ?_ ?_
 ·have h := hss6
  clear hss6
  obtain ⟨s4, hss4, hks4⟩ := letS h
  clear h
  refine ACode_seqJ (fun E' H' => Weak 38 G E' H' [(1, iV p1), (2, iV p2), (3, iV p3), (4, .d (.pv (colD p0) 0)), (10, iV r1), (23, bV s4)] []) ?_ ?_
  ·have h := hss4
   clear hss4
   refine (ACode_region ?_)
   refine AOps_q 17 _ rfl rfl rfl (QOp_move _ _ rfl rfl) ?_
   refine AOps_q 18 _ rfl rfl rfl (QOp_eql _ _ _ _ _ _ _ rfl rfl rfl) ?_
   refine AOps_q 19 _ rfl rfl rfl (QOp_move _ _ rfl rfl) ?_
   refine AOps_case 19 _ rfl (fun hb2 => ?_) (fun hb2 => ?_)
   ·have h := iteT hb2 h
    refine AOps_q 20 _ rfl rfl rfl (QOp_move _ _ rfl rfl) ?_
    refine AOps_call [] 21 _ _ _ _ _ _ _ _ _ _ rfl rfl rfl rfl rfl rfl rfl Try.call100 rfl (nodupB_sound _ rfl) rfl rfl rfl (spec_l01In_ac p3 1 17) ?_
    rintro _ _ ⟨rfl, rfl⟩
    refine ⟨(fun _ h => nomatch h), (allc (trivial) (fun _ h => nomatch h)), AOps_as 21 (v' := bV (spec_l01In p3 1 17)) (H' := [.vec 0 (intsD ([p2]))]) rfl rfl ?_⟩
    refine AOps_q 22 _ rfl rfl rfl (QOp_not _ _ _ rfl rfl) ?_
    refine AOps_q 23 _ rfl rfl rfl (QOp_pick_t _ _ _ _ rfl rfl rfl) ?_
    refine AOps_nil ?_
    cases h
    exact Weak_keep 0 hm [1, 2, 3, 4, 10, 23] [] _ _ rfl rfl rfl
   ·have h := iteF hb2 h
    refine AOps_skip 20 rfl rfl rfl ?_
    refine AOps_skip 21 rfl rfl rfl ?_
    refine AOps_skip 22 rfl rfl rfl ?_
    refine AOps_q 23 _ rfl rfl rfl (QOp_pick_f _ _ _ _ rfl rfl rfl) ?_
    refine AOps_nil ?_
    cases h
    exact Weak_keep 0 hm [1, 2, 3, 4, 10, 23] [] _ _ rfl rfl rfl
  intro E' H' hw
  refine ACode_weak hw ?_
  have h := hks4
  refine ACode_cond _ rfl (fun hb5 => ?_) (fun hb5 => ?_)
  ·have h := iteT hb5 h
   refine (ACode_region ?_)
   refine AOps_q 10 _ rfl rfl rfl (QOp_assign _ _ rfl rfl) ?_
   refine AOps_nil ?_
   cases h
   exact Weak_keep 0 hm [1, 2, 3, 4, 10] [] _ _ rfl rfl rfl
  ·have h := iteF hb5 h
   refine ACode_skip ?_
   cases h
   exact Weak_keep 0 hm [1, 2, 3, 4, 10] [] _ _ rfl rfl rfl
 intro E' H' hw
 refine ACode_weak hw ?_
 have h := hks6
 refine ACode_seq ?_
 refine ACode_seq (ACode_region ?_)
 refine AOps_q 24 _ rfl rfl rfl (QOp_move _ _ rfl rfl) ?_
 refine AOps_q 25 _ rfl rfl rfl (QOp_neq _ _ _ _ _ _ _ rfl rfl rfl) ?_
 refine AOps_nil ?_
 refine ACode_cond _ rfl (fun hb7 => ?_) (fun hb7 => ?_)
 ·have h := iteT hb7 h
  refine ACode_seq (ACode_region ?_)
  refine AOps_q 26 _ rfl rfl rfl (QOp_move _ _ rfl rfl) ?_
  refine AOps_q 8 _ rfl rfl rfl (QOp_assign _ _ rfl rfl) ?_
  refine AOps_q 9 _ rfl rfl rfl (QOp_assign _ _ rfl rfl) ?_
  refine AOps_nil ?_
  refine ACode_ret ?_
  cases h
  exact ⟨_, _, fun r a w h => ⟨r, h⟩, _, _, [], _, (.cons (ResV_tmp _ _ rfl) (.cons (ResV_tmp _ _ rfl) .nil)), rfl, rfl, rfl, rfl, rfl⟩
 ·have h := iteF hb7 h
  refine ACode_skip ?_
  refine ACode_seq (ACode_region ?_)
  refine AOps_q 27 _ rfl rfl rfl (QOp_loadN_pv _ _ _ _ _ _ rfl Try.isAgg29 Try.sizeOf29 rfl (colD_all _) (colD_length _)) ?_
  refine AOps_q 28 _ rfl rfl rfl (QOp_move _ _ rfl rfl) ?_
  obtain ⟨r8, hr8, h⟩ := bindO h
  refine AOps_call [] 29 _ _ _ _ _ _ _ _ _ _ rfl rfl rfl rfl rfl rfl rfl Try.call113 rfl (nodupB_sound _ rfl) rfl rfl rfl (spec_l02Rows_ac k p0 p1 _ hr8) ?_
  rintro _ _ ⟨rfl, rfl⟩
  refine ⟨(allc (fun _ _ => trivial) (fun _ h => nomatch h)), (allc (trivial) (fun _ h => nomatch h)), AOps_as 29 (v' := .vec 0 0) (H' := [.vec 0 (intsD r8)]) rfl rfl ?_⟩
  refine AOps_q 11 _ rfl rfl rfl (QOp_assign _ _ rfl rfl) ?_
  refine AOps_nil ?_
  refine ACode_seq (ACode_region ?_)
  refine AOps_q 30 _ rfl rfl rfl (QOp_move _ _ rfl rfl) ?_
  refine AOps_q 31 _ rfl rfl rfl (QOp_move _ _ rfl rfl) ?_
  refine AOps_q 32 _ rfl rfl rfl (QOp_move _ _ rfl rfl) ?_
  obtain ⟨hc9, h⟩ := guardO h
  refine AOps_q 33 _ rfl rfl rfl (QOp_indexAddr_vec _ _ _ _ _ _ _ _ _ rfl Try.underlying24 Try.sizeOf2 hc9.1 (by rw [intsD_length]; exact hc9.2) rfl rfl rfl) ?_
  refine AOps_q 34 _ rfl rfl rfl (QOp_load_eptr _ _ _ _ _ _ _ rfl Try.isAgg2 rfl rfl (intsD_get _ _ 0 (by omega))) ?_
  refine AOps_q 35 _ rfl rfl rfl (QOp_move _ _ rfl rfl) ?_
  refine AOps_q 36 _ rfl rfl rfl (QOp_sub _ _ _ _ _ _ _ rfl rfl rfl) ?_
  obtain ⟨r10, hr10, h⟩ := bindO h
  refine AOps_callL [] 37 _ _ _ _ _ _ _ _ _ _ rfl rfl rfl rfl rfl rfl rfl Try.call112 rfl (nodupB_sound _ rfl) rfl rfl rfl (spec_l02Count_ac k r8 (r8.getD p2.toNat 0) (w64 (p3 - 1)) _ hr10) ?_
  rintro _ _ ⟨rfl, rfl⟩
  refine ⟨(fun _ h => nomatch h), (allc (flat_s _) (fun _ h => nomatch h)), AOps_as 37 (v' := iV r10) (H' := [.vec 0 (intsD r8)]) rfl rfl ?_⟩
  refine AOps_q 8 _ rfl rfl rfl (QOp_assign _ _ rfl rfl) ?_
  refine AOps_q 9 _ rfl rfl rfl (QOp_assign _ _ rfl rfl) ?_
  refine AOps_nil ?_
  refine ACode_ret ?_
  cases h
  exact ⟨_, _, fun r a w h => ⟨r, h⟩, _, _, [], _, (.cons (ResV_tmp _ _ rfl) (.cons (ResV_tmp _ _ rfl) .nil)), rfl, rfl, rfl, rfl, rfl⟩

-- loop.example/g01362/laws.FnCliques
def laws_FnCliques_l0 (k : Nat) (r32 : Col × Int × Int × Int) : Nat → Int → Int → Option (Sum (Int) (Sum (Unit) (Bool)))
 | 0, _, _ => none
 | k0 + 1, x41, x42 => (if decide (x42 < r32.1.p) then (impl_CliquesAt k r32.1 r32.2.1 x42 r32.2.2.2).bind fun r44 => (if !decide (r44.2 = 0) then (some (.inr false)).bind fun rr => some (.inr rr) else laws_FnCliques_l0 k r32 k0 (w64 (x41 + r44.1)) (w64 (x42 + 1))) else some (.inl x41))
def laws_FnCliques_l1 (k : Nat) (r3 : Col × Int × Int) (r4 : Option (List (List Int)) × Int) : Nat → Int → Option (Sum (Unit) (Bool))
 | 0, _ => none
 | k1 + 1, x67 => (letO (if decide (x67 < ((r4.1.getD []).length : Int)) then decide (x67 < 6) else false) fun (s69 : Bool) => (if s69 then some (.inl ()) else (some (.inl ())).bind fun rr => some (.inr rr)) : Option (Sum (Unit) (Sum (Unit) (Bool)))).bind fun os71 => (match os71 with | .inl s71 => ((if 0 ≤ x67 ∧ x67 < ((r4.1.getD []).length : Int) then (impl_IsClique k r3.1 r3.2.1 ((r4.1.getD []).getD x67.toNat [])).bind fun r73 => ((if !decide (r73.2 = 0) then some true else (if !r73.1 then some true else (if 0 ≤ x67 ∧ x67 < ((r4.1.getD []).length : Int) then some (!decide ((((r4.1.getD []).getD x67.toNat []).length : Int) = r3.2.2)) else none))) : Option (Bool)).bind fun s77 => (if s77 then (some (.inr false)).bind fun rr => some (.inr rr) else some (.inl ())) else none) : Option (Sum (Unit) (Sum (Unit) (Bool)))).bind fun os79 => (match os79 with | .inl s79 => laws_FnCliques_l1 k r3 r4 k1 (w64 (x67 + 1)) | .inr rr => some rr) | .inr rr => some rr)
def laws_FnCliques (k : Nat) (p0 : List UInt8) : Option (Bool) :=
 (if (laws_big p0) then some true else (spec_DrawCliqueList k p0).bind fun r3 => (impl_CliqueList k r3.1 r3.2.1 r3.2.2).bind fun r4 => ((spec_CliqueList k r3.1 r3.2.1 r3.2.2).bind fun r5 => ((if !decide (r4.2 = r5.2) then some true else (laws_rows9 k (r4.1.getD []) r5.1).bind fun r7 => some (!r7)) : Option (Bool)).bind fun s8 => (if s8 then some (.inr false) else some (.inl ())) : Option (Sum (Unit) (Bool))).bind fun os10 => (match os10 with | .inl s10 => (impl_CountCliques k r3.1 r3.2.1 r3.2.2).bind fun r11 => ((spec_CountCliques k r3.1 r3.2.1 r3.2.2).bind fun r12 => letO (if !decide (r11.2 = r12.2) then true else !decide (r11.1 = r12.1)) fun (s14 : Bool) => (if s14 then some (.inr false) else some (.inl ())) : Option (Sum (Unit) (Bool))).bind fun os16 => (match os16 with | .inl s16 => (spec_DrawGreatestClique k p0).bind fun r17 => (impl_GreatestClique k r17.1 r17.2).bind fun r18 => ((spec_GreatestClique k r17.1 r17.2).bind fun r19 => ((if !decide (r18.2 = r19.2) then some true else (laws_likeInts k r18.1 r19.1).bind fun r21 => some (!r21)) : Option (Bool)).bind fun s22 => (if s22 then some (.inr false) else some (.inl ())) : Option (Sum (Unit) (Bool))).bind fun os24 => (match os24 with | .inl s24 => (spec_DrawIsClique k p0).bind fun r25 => (impl_IsClique k r25.1 r25.2.1 r25.2.2).bind fun r26 => ((spec_IsClique k r25.1 r25.2.1 r25.2.2).bind fun r27 => letO (if !decide (r26.2 = r27.2) then true else !(r26.1 == r27.1)) fun (s29 : Bool) => (if s29 then some (.inr false) else some (.inl ())) : Option (Sum (Unit) (Bool))).bind fun os31 => (match os31 with | .inl s31 => (spec_DrawCliquesAt k p0).bind fun r32 => (impl_CliquesAt k r32.1 r32.2.1 r32.2.2.1 r32.2.2.2).bind fun r33 => ((spec_CliquesAt k r32.1 r32.2.1 r32.2.2.1 r32.2.2.2).bind fun r34 => letO (if !decide (r33.2 = r34.2) then true else !decide (r33.1 = r34.1)) fun (s36 : Bool) => (if s36 then some (.inr false) else some (.inl ())) : Option (Sum (Unit) (Bool))).bind fun os38 => (match os38 with | .inl s38 => ((if decide (r33.2 = 0) then (impl_CountCliques k r32.1 r32.2.1 r32.2.2.2).bind fun r40 => (laws_FnCliques_l0 k r32 k 0 0 : Option (Sum (Int) (Sum (Unit) (Bool)))).bind fun os46 => (match os46 with | .inl s46 => letO (if !decide (r40.2 = 0) then true else !decide (s46 = w64 (r32.2.2.2 * r40.1))) fun (s48 : Bool) => (if s48 then some (.inr false) else some (.inl ())) | .inr rr => some rr) else some (.inl ())) : Option (Sum (Unit) (Bool))).bind fun os50 => (match os50 with | .inl s50 => ((if decide (r18.2 = 0) then (impl_IsClique k r17.1 r17.2 r18.1).bind fun r52 => (impl_CountCliques k r17.1 r17.2 (if 17 < w64 ((r18.1.length : Int) + 1) then 17 else w64 ((r18.1.length : Int) + 1))).bind fun r53 => letO (if !decide (r52.2 = 0) then true else (if !r52.1 then true else (if !decide (r53.2 = 0) then true else (if decide ((r18.1.length : Int) < 1) then true else (if decide ((r18.1.length : Int) < 17) then !decide (r53.1 = 0) else false))))) fun (s59 : Bool) => (if s59 then some (.inr false) else some (.inl ())) else some (.inl ())) : Option (Sum (Unit) (Bool))).bind fun os61 => (match os61 with | .inl s61 => (if !decide (r4.2 = 0) then some (decide (((r4.1.getD []).length : Int) = 0)) else (letO (if !decide (r11.2 = 0) then true else !decide (r11.1 = ((r4.1.getD []).length : Int))) fun (s64 : Bool) => (if s64 then some (.inr false) else some (.inl ())) : Option (Sum (Unit) (Bool))).bind fun os66 => (match os66 with | .inl s66 => (laws_FnCliques_l1 k r3 r4 k 0 : Option (Sum (Unit) (Bool))).bind fun os80 => (match os80 with | .inl s80 => some true | .inr rr => some rr) | .inr rr => some rr)) | .inr rr => some rr) | .inr rr => some rr) | .inr rr => some rr) | .inr rr => some rr) | .inr rr => some rr) | .inr rr => some rr) | .inr rr => some rr))
set_option maxRecDepth 100000 in
theorem laws_FnCliques_ac (k : Nat) (p0 : List UInt8) (r : Bool) (h : laws_FnCliques k p0 = some r) : AC Try.prog 4 [.d (.sl none (bysD p0))] [] (fun res H' => res = [bV r] ∧ H' = []) := by
 refine AC_of_body true Try.func4 rfl Try.ntmps4 (rvs := [.tmp 2]) rfl rfl (fun G hG => ?_)
 have hm : G.H.length = 0 := by rw [hG]; rfl
 have hz : zeroG G.H = true := by rw [hG]; rfl
 unfold laws_FnCliques at h
 refine ACode_seq (ACode_region ?_)
 refine AOps_q 2 _ rfl rfl rfl (QOp_assign _ _ rfl rfl) ?_
 refine AOps_nil ?_
 refine ACode_seq ?_
 refine ACode_seq (ACode_region ?_)
 refine AOps_q 48 _ rfl rfl rfl (QOp_move _ _ rfl rfl) ?_
 refine AOps_call [] 49 _ _ _ _ _ _ _ _ _ _ rfl rfl rfl rfl rfl rfl rfl Try.call9 rfl (nodupB_sound _ rfl) rfl rfl rfl (laws_big_ac p0) ?_
 rintro _ _ ⟨rfl, rfl⟩
 refine ⟨(fun _ h => nomatch h), (allc (trivial) (fun _ h => nomatch h)), AOps_as 49 (v' := bV (laws_big p0)) (H' := []) rfl rfl ?_⟩
 refine AOps_nil ?_
 refine ACode_cond _ rfl (fun hb2 => ?_) (fun hb2 => ?_)
 ·have h := iteT hb2 h
  refine ACode_seq (ACode_region ?_)
  refine AOps_q 2 _ rfl rfl rfl (QOp_assign _ _ rfl rfl) ?_
  refine AOps_nil ?_
  refine ACode_ret ?_
  cases h
  exact ⟨_, _, fun r a w h => ⟨r, h⟩, _, _, [], _, (.cons (ResV_tmp _ _ rfl) .nil), rfl, rfl, rfl, rfl, rfl⟩
 ·have h := iteF hb2 h
  refine ACode_skip ?_
  refine ACode_seq (ACode_region ?_)
  refine AOps_q 51 _ rfl rfl rfl (QOp_move _ _ rfl rfl) ?_
  obtain ⟨r3, hr3, h⟩ := bindO h
  refine AOps_call [] 52 _ _ _ _ _ _ _ _ _ _ rfl rfl rfl rfl rfl rfl rfl Try.call25 rfl (nodupB_sound _ rfl) rfl rfl rfl (spec_DrawCliqueList_ac k p0 _ hr3) ?_
  rintro _ _ ⟨rfl, rfl⟩
  refine ⟨(fun _ h => nomatch h), (allc (trivial) (allc (trivial) (allc (trivial) (fun _ h => nomatch h)))), AOps_as 52 (v' := .tup [.d (.agg (colD r3.1)), iV r3.2.1, iV r3.2.2]) (H' := []) rfl rfl ?_⟩
  refine AOps_q 50 _ rfl rfl rfl (QOp_move _ _ rfl rfl) ?_
  refine AOps_q 53 _ rfl rfl rfl (QOp_extract _ _ _ _ rfl rfl rfl) ?_
  refine AOps_q 54 _ rfl rfl rfl (QOp_extract _ _ _ _ rfl rfl rfl) ?_
  refine AOps_q 55 _ rfl rfl rfl (QOp_extract _ _ _ _ rfl rfl rfl) ?_
  refine AOps_alloc 3 _ _ (colD Col.zero) (zero_of Try.typeInfo29 rfl) (by rfl) rfl rfl rfl rfl ?_
  refine AOps_store _ _ _ _ _ _ (colD _) _ _ rfl rfl rfl rfl rfl rfl rfl (colD_one _) (by rw [colD_length]; exact Try.sizeOf29) (by rw [colD_length, colD_length]; decide) (colD_whole _ _) ?_
  refine AOps_q 4 _ rfl rfl rfl (QOp_assign _ _ rfl rfl) ?_
  refine AOps_q 5 _ rfl rfl rfl (QOp_assign _ _ rfl rfl) ?_
  refine AOps_nil ?_
  refine ACode_seq (ACode_region ?_)
  refine AOps_q 57 _ rfl rfl rfl (QOp_loadN_ptr _ _ _ _ _ _ _ rfl Try.isAgg29 Try.sizeOf29 rfl rfl (colD_all _) (colD_length _)) ?_
  refine AOps_q 58 _ rfl rfl rfl (QOp_move _ _ rfl rfl) ?_
  refine AOps_q 59 _ rfl rfl rfl (QOp_move _ _ rfl rfl) ?_
  obtain ⟨r4, hr4, h⟩ := bindO h
  refine AOps_call [] 60 _ _ _ _ _ _ _ _ _ _ rfl rfl rfl rfl rfl rfl rfl Try.call26 rfl (nodupB_sound _ rfl) rfl rfl rfl (AC_frz rfl (frz_cons frz_nil) (impl_CliqueList_ac k r3.1 r3.2.1 r3.2.2 _ hr4)) ?_
  rintro _ _ ⟨rfl, rfl⟩
  refine ⟨(fun _ h => nomatch h), (allc (trivial) (allc (trivial) (fun _ h => nomatch h))), AOps_as 60 (v' := .tup [.d (.sl none (rowsD (r4.1.getD []))), iV r4.2]) (H' := [.box (colD r3.1)]) rfl rfl ?_⟩
  refine AOps_q 56 _ rfl rfl rfl (QOp_move _ _ rfl rfl) ?_
  refine AOps_q 61 _ rfl rfl rfl (QOp_extract _ _ _ _ rfl rfl rfl) ?_
  refine AOps_q 62 _ rfl rfl rfl (QOp_extract _ _ _ _ rfl rfl rfl) ?_
  refine AOps_q 6 _ rfl rfl rfl (QOp_assign _ _ rfl rfl) ?_
  refine AOps_q 7 _ rfl rfl rfl (QOp_assign _ _ rfl rfl) ?_
  refine AOps_nil ?_
  obtain ⟨os10, hss10, hks10⟩ := bindO h
  clear h
  refine ACode_seqJ (fun E' H' => ∃ s10 : Unit, os10 = .inl s10 ∧ Weak 314 G E' H' [(0, .d (.sl none (bysD p0))), (3, .ptr 0 0), (4, iV r3.2.1), (5, iV r3.2.2), (6, .d (.sl none (rowsD (r4.1.getD [])))), (7, iV r4.2)] [.box (colD r3.1)]) ?_ ?_
  ·have h := hss10
   clear hss10
   refine ACode_seq (ACode_region ?_)
   refine AOps_q 64 _ rfl rfl rfl (QOp_loadN_ptr _ _ _ _ _ _ _ rfl Try.isAgg29 Try.sizeOf29 rfl rfl (colD_all _) (colD_length _)) ?_
   refine AOps_q 65 _ rfl rfl rfl (QOp_move _ _ rfl rfl) ?_
   refine AOps_q 66 _ rfl rfl rfl (QOp_move _ _ rfl rfl) ?_
   obtain ⟨r5, hr5, h⟩ := bindO h
   refine AOps_call [] 67 _ _ _ _ _ _ _ _ _ _ rfl rfl rfl rfl rfl rfl rfl Try.call27 rfl (nodupB_sound _ rfl) rfl rfl rfl (spec_CliqueList_ac k r3.1 r3.2.1 r3.2.2 _ hr5) ?_
   rintro _ _ ⟨rfl, rfl⟩
   refine ⟨(fun _ h => nomatch h), (allc (trivial) (allc (trivial) (fun _ h => nomatch h))), AOps_as 67 (v' := .tup [.d (.sl none (rowsD r5.1)), iV r5.2]) (H' := [.box (colD r3.1)]) rfl rfl ?_⟩
   refine AOps_q 63 _ rfl rfl rfl (QOp_move _ _ rfl rfl) ?_
   refine AOps_q 68 _ rfl rfl rfl (QOp_extract _ _ _ _ rfl rfl rfl) ?_
   refine AOps_q 69 _ rfl rfl rfl (QOp_extract _ _ _ _ rfl rfl rfl) ?_
   refine AOps_q 8 _ rfl rfl rfl (QOp_assign _ _ rfl rfl) ?_
   refine AOps_q 9 _ rfl rfl rfl (QOp_assign _ _ rfl rfl) ?_
   refine AOps_nil ?_
   obtain ⟨s8, hss8, hks8⟩ := bindO h
   clear h
   refine ACode_seqJ (fun E' H' => Weak 314 G E' H' [(0, .d (.sl none (bysD p0))), (3, .ptr 0 0), (4, iV r3.2.1), (5, iV r3.2.2), (6, .d (.sl none (rowsD (r4.1.getD [])))), (7, iV r4.2), (78, bV s8)] [.box (colD r3.1)]) ?_ ?_
   ·have h := hss8
    clear hss8
    refine (ACode_region ?_)
    refine AOps_q 70 _ rfl rfl rfl (QOp_move _ _ rfl rfl) ?_
    refine AOps_q 71 _ rfl rfl rfl (QOp_move _ _ rfl rfl) ?_
    refine AOps_q 72 _ rfl rfl rfl (QOp_neq _ _ _ _ _ _ _ rfl rfl rfl) ?_
    refine AOps_q 73 _ rfl rfl rfl (QOp_move _ _ rfl rfl) ?_
    refine AOps_case 73 _ rfl (fun hb6 => ?_) (fun hb6 => ?_)
    ·have h := iteT hb6 h
     refine AOps_skip 74 rfl rfl rfl ?_
     refine AOps_skip 75 rfl rfl rfl ?_
     refine AOps_skip 76 rfl rfl rfl ?_
     refine AOps_skip 77 rfl rfl rfl ?_
     refine AOps_q 78 _ rfl rfl rfl (QOp_pick_t _ _ _ _ rfl rfl rfl) ?_
     refine AOps_nil ?_
     cases h
     exact Weak_keep 0 hm [0, 3, 4, 5, 6, 7, 78] [0] _ _ rfl rfl rfl
    ·have h := iteF hb6 h
     refine AOps_q 74 _ rfl rfl rfl (QOp_move _ _ rfl rfl) ?_
     refine AOps_q 75 _ rfl rfl rfl (QOp_move _ _ rfl rfl) ?_
     obtain ⟨r7, hr7, h⟩ := bindO h
     refine AOps_call [] 76 _ _ _ _ _ _ _ _ _ _ rfl rfl rfl rfl rfl rfl rfl Try.call28 rfl (nodupB_sound _ rfl) rfl rfl rfl (laws_rows9_ac k (r4.1.getD []) r5.1 _ hr7) ?_
     rintro _ _ ⟨rfl, rfl⟩
     refine ⟨(fun _ h => nomatch h), (allc (trivial) (fun _ h => nomatch h)), AOps_as 76 (v' := bV r7) (H' := [.box (colD r3.1)]) rfl rfl ?_⟩
     refine AOps_q 77 _ rfl rfl rfl (QOp_not _ _ _ rfl rfl) ?_
     refine AOps_q 78 _ rfl rfl rfl (QOp_pick_f _ _ _ _ rfl rfl rfl) ?_
     refine AOps_nil ?_
     cases h
     exact Weak_keep 0 hm [0, 3, 4, 5, 6, 7, 78] [0] _ _ rfl rfl rfl
   intro E' H' hw
   refine ACode_weak hw ?_
   have h := hks8
   refine ACode_cond _ rfl (fun hb9 => ?_) (fun hb9 => ?_)
   ·have h := iteT hb9 h
    refine ACode_seq (ACode_region ?_)
    refine AOps_q 2 _ rfl rfl rfl (QOp_assign _ _ rfl rfl) ?_
    refine AOps_nil ?_
    refine ACode_ret ?_
    cases h
    have h := hks10
    cases h
    exact ⟨_, _, fun r a w h => ⟨r, h⟩, _, _, [], _, (.cons (ResV_tmp _ _ rfl) .nil), rfl, rfl, rfl, rfl, rfl⟩
   ·have h := iteF hb9 h
    refine ACode_skip ?_
    cases h
    exact ⟨_, rfl, Weak_keep 0 hm [0, 3, 4, 5, 6, 7] [0] _ _ rfl rfl rfl⟩
  rintro E' H' ⟨s10, rfl, hw⟩
  refine ACode_weak hw ?_
  have h := hks10
  refine ACode_seq (ACode_region ?_)
  refine AOps_q 80 _ rfl rfl rfl (QOp_loadN_ptr _ _ _ _ _ _ _ rfl Try.isAgg29 Try.sizeOf29 rfl rfl (colD_all _) (colD_length _)) ?_
  refine AOps_q 81 _ rfl rfl rfl (QOp_move _ _ rfl rfl) ?_
  refine AOps_q 82 _ rfl rfl rfl (QOp_move _ _ rfl rfl) ?_
  obtain ⟨r11, hr11, h⟩ := bindO h
  refine AOps_call [] 83 _ _ _ _ _ _ _ _ _ _ rfl rfl rfl rfl rfl rfl rfl Try.call29 rfl (nodupB_sound _ rfl) rfl rfl rfl (impl_CountCliques_ac k r3.1 r3.2.1 r3.2.2 _ hr11) ?_
  rintro _ _ ⟨rfl, rfl⟩
  refine ⟨(fun _ h => nomatch h), (allc (trivial) (allc (trivial) (fun _ h => nomatch h))), AOps_as 83 (v' := .tup [iV r11.1, iV r11.2]) (H' := [.box (colD r3.1)]) rfl rfl ?_⟩
  refine AOps_q 79 _ rfl rfl rfl (QOp_move _ _ rfl rfl) ?_
  refine AOps_q 84 _ rfl rfl rfl (QOp_extract _ _ _ _ rfl rfl rfl) ?_
  refine AOps_q 85 _ rfl rfl rfl (QOp_extract _ _ _ _ rfl rfl rfl) ?_
  refine AOps_q 10 _ rfl rfl rfl (QOp_assign _ _ rfl rfl) ?_
  refine AOps_q 11 _ rfl rfl rfl (QOp_assign _ _ rfl rfl) ?_
  refine AOps_nil ?_
  obtain ⟨os16, hss16, hks16⟩ := bindO h
  clear h
  refine ACode_seqJ (fun E' H' => ∃ s16 : Unit, os16 = .inl s16 ∧ Weak 314 G E' H' [(0, .d (.sl none (bysD p0))), (3, .ptr 0 0), (4, iV r3.2.1), (5, iV r3.2.2), (6, .d (.sl none (rowsD (r4.1.getD [])))), (7, iV r4.2), (10, iV r11.1), (11, iV r11.2)] [.box (colD r3.1)]) ?_ ?_
  ·have h := hss16
   clear hss16
   refine ACode_seq (ACode_region ?_)
   refine AOps_q 87 _ rfl rfl rfl (QOp_loadN_ptr _ _ _ _ _ _ _ rfl Try.isAgg29 Try.sizeOf29 rfl rfl (colD_all _) (colD_length _)) ?_
   refine AOps_q 88 _ rfl rfl rfl (QOp_move _ _ rfl rfl) ?_
   refine AOps_q 89 _ rfl rfl rfl (QOp_move _ _ rfl rfl) ?_
   obtain ⟨r12, hr12, h⟩ := bindO h
   refine AOps_call [] 90 _ _ _ _ _ _ _ _ _ _ rfl rfl rfl rfl rfl rfl rfl Try.call30 rfl (nodupB_sound _ rfl) rfl rfl rfl (spec_CountCliques_ac k r3.1 r3.2.1 r3.2.2 _ hr12) ?_
   rintro _ _ ⟨rfl, rfl⟩
   refine ⟨(fun _ h => nomatch h), (allc (trivial) (allc (trivial) (fun _ h => nomatch h))), AOps_as 90 (v' := .tup [iV r12.1, iV r12.2]) (H' := [.box (colD r3.1)]) rfl rfl ?_⟩
   refine AOps_q 86 _ rfl rfl rfl (QOp_move _ _ rfl rfl) ?_
   refine AOps_q 91 _ rfl rfl rfl (QOp_extract _ _ _ _ rfl rfl rfl) ?_
   refine AOps_q 92 _ rfl rfl rfl (QOp_extract _ _ _ _ rfl rfl rfl) ?_
   refine AOps_q 12 _ rfl rfl rfl (QOp_assign _ _ rfl rfl) ?_
   refine AOps_q 13 _ rfl rfl rfl (QOp_assign _ _ rfl rfl) ?_
   refine AOps_nil ?_
   obtain ⟨s14, hss14, hks14⟩ := letS h
   clear h
   refine ACode_seqJ (fun E' H' => Weak 314 G E' H' [(0, .d (.sl none (bysD p0))), (3, .ptr 0 0), (4, iV r3.2.1), (5, iV r3.2.2), (6, .d (.sl none (rowsD (r4.1.getD [])))), (7, iV r4.2), (10, iV r11.1), (11, iV r11.2), (100, bV s14)] [.box (colD r3.1)]) ?_ ?_
   ·have h := hss14
    clear hss14
    refine (ACode_region ?_)
    refine AOps_q 93 _ rfl rfl rfl (QOp_move _ _ rfl rfl) ?_
    refine AOps_q 94 _ rfl rfl rfl (QOp_move _ _ rfl rfl) ?_
    refine AOps_q 95 _ rfl rfl rfl (QOp_neq _ _ _ _ _ _ _ rfl rfl rfl) ?_
    refine AOps_q 96 _ rfl rfl rfl (QOp_move _ _ rfl rfl) ?_
    refine AOps_case 96 _ rfl (fun hb13 => ?_) (fun hb13 => ?_)
    ·have h := iteT hb13 h
     refine AOps_skip 97 rfl rfl rfl ?_
     refine AOps_skip 98 rfl rfl rfl ?_
     refine AOps_skip 99 rfl rfl rfl ?_
     refine AOps_q 100 _ rfl rfl rfl (QOp_pick_t _ _ _ _ rfl rfl rfl) ?_
     refine AOps_nil ?_
     cases h
     exact Weak_keep 0 hm [0, 3, 4, 5, 6, 7, 10, 11, 100] [0] _ _ rfl rfl rfl
    ·have h := iteF hb13 h
     refine AOps_q 97 _ rfl rfl rfl (QOp_move _ _ rfl rfl) ?_
     refine AOps_q 98 _ rfl rfl rfl (QOp_move _ _ rfl rfl) ?_
     refine AOps_q 99 _ rfl rfl rfl (QOp_neq _ _ _ _ _ _ _ rfl rfl rfl) ?_
     refine AOps_q 100 _ rfl rfl rfl (QOp_pick_f _ _ _ _ rfl rfl rfl) ?_
     refine AOps_nil ?_
     cases h
     exact Weak_keep 0 hm [0, 3, 4, 5, 6, 7, 10, 11, 100] [0] _ _ rfl rfl rfl
   intro E' H' hw
   refine ACode_weak hw ?_
   have h := hks14
   refine ACode_cond _ rfl (fun hb15 => ?_) (fun hb15 => ?_)
   ·have h := iteT hb15 h
    refine ACode_seq (ACode_region ?_)
    refine AOps_q 2 _ rfl rfl rfl (QOp_assign _ _ rfl rfl) ?_
    refine AOps_nil ?_
    refine ACode_ret ?_
    cases h
    have h := hks16
    cases h
    exact ⟨_, _, fun r a w h => ⟨r, h⟩, _, _, [], _, (.cons (ResV_tmp _ _ rfl) .nil), rfl, rfl, rfl, rfl, rfl⟩
   ·have h := iteF hb15 h
    refine ACode_skip ?_
    cases h
    exact ⟨_, rfl, Weak_keep 0 hm [0, 3, 4, 5, 6, 7, 10, 11] [0] _ _ rfl rfl rfl⟩
  rintro E' H' ⟨s16, rfl, hw⟩
  refine ACode_weak hw ?_
  have h := hks16
  refine ACode_seq (ACode_region ?_)
  refine AOps_q 102 _ rfl rfl rfl (QOp_move _ _ rfl rfl) ?_
  obtain ⟨r17, hr17, h⟩ := bindO h
  refine AOps_call [] 103 _ _ _ _ _ _ _ _ _ _ rfl rfl rfl rfl rfl rfl rfl Try.call31 rfl (nodupB_sound _ rfl) rfl rfl rfl (spec_DrawGreatestClique_ac k p0 _ hr17) ?_
  rintro _ _ ⟨rfl, rfl⟩
  refine ⟨(fun _ h => nomatch h), (allc (trivial) (allc (trivial) (fun _ h => nomatch h))), AOps_as 103 (v' := .tup [.d (.agg (colD r17.1)), iV r17.2]) (H' := [.box (colD r3.1)]) rfl rfl ?_⟩
  refine AOps_q 101 _ rfl rfl rfl (QOp_move _ _ rfl rfl) ?_
  refine AOps_q 104 _ rfl rfl rfl (QOp_extract _ _ _ _ rfl rfl rfl) ?_
  refine AOps_q 105 _ rfl rfl rfl (QOp_extract _ _ _ _ rfl rfl rfl) ?_
  refine AOps_alloc 14 _ _ (colD Col.zero) (zero_of Try.typeInfo29 rfl) (by rfl) rfl rfl rfl rfl ?_
  refine AOps_store _ _ _ _ _ _ (colD _) _ _ rfl rfl rfl rfl rfl rfl rfl (colD_one _) (by rw [colD_length]; exact Try.sizeOf29) (by rw [colD_length, colD_length]; decide) (colD_whole _ _) ?_
  refine AOps_q 15 _ rfl rfl rfl (QOp_assign _ _ rfl rfl) ?_
  refine AOps_nil ?_
  refine ACode_seq (ACode_region ?_)
  refine AOps_q 107 _ rfl rfl rfl (QOp_loadN_ptr _ _ _ _ _ _ _ rfl Try.isAgg29 Try.sizeOf29 rfl rfl (colD_all _) (colD_length _)) ?_
  refine AOps_q 108 _ rfl rfl rfl (QOp_move _ _ rfl rfl) ?_
  obtain ⟨r18, hr18, h⟩ := bindO h
  refine AOps_call [] 109 _ _ _ _ _ _ _ _ _ _ rfl rfl rfl rfl rfl rfl rfl Try.call32 rfl (nodupB_sound _ rfl) rfl rfl rfl (impl_GreatestClique_ac k r17.1 r17.2 _ hr18) ?_
  rintro _ _ ⟨rfl, rfl⟩
  refine ⟨(fun _ h => nomatch h), (allc (trivial) (allc (trivial) (fun _ h => nomatch h))), AOps_as 109 (v' := .tup [.d (.sl none (intsD r18.1)), iV r18.2]) (H' := [.box (colD r3.1), .box (colD r17.1)]) rfl rfl ?_⟩
  refine AOps_q 106 _ rfl rfl rfl (QOp_move _ _ rfl rfl) ?_
  refine AOps_q 110 _ rfl rfl rfl (QOp_extract _ _ _ _ rfl rfl rfl) ?_
  refine AOps_q 111 _ rfl rfl rfl (QOp_extract _ _ _ _ rfl rfl rfl) ?_
  refine AOps_q 16 _ rfl rfl rfl (QOp_assign _ _ rfl rfl) ?_
  refine AOps_q 17 _ rfl rfl rfl (QOp_assign _ _ rfl rfl) ?_
  refine AOps_nil ?_
  obtain ⟨os24, hss24, hks24⟩ := bindO h
  clear h
  refine ACode_seqJ (fun E' H' => ∃ s24 : Unit, os24 = .inl s24 ∧ Weak 314 G E' H' [(0, .d (.sl none (bysD p0))), (3, .ptr 0 0), (4, iV r3.2.1), (5, iV r3.2.2), (6, .d (.sl none (rowsD (r4.1.getD [])))), (7, iV r4.2), (10, iV r11.1), (11, iV r11.2), (14, .ptr 1 0), (15, iV r17.2), (16, .d (.sl none (intsD r18.1))), (17, iV r18.2)] [.box (colD r3.1), .box (colD r17.1)]) ?_ ?_
  ·have h := hss24
   clear hss24
   refine ACode_seq (ACode_region ?_)
   refine AOps_q 113 _ rfl rfl rfl (QOp_loadN_ptr _ _ _ _ _ _ _ rfl Try.isAgg29 Try.sizeOf29 rfl rfl (colD_all _) (colD_length _)) ?_
   refine AOps_q 114 _ rfl rfl rfl (QOp_move _ _ rfl rfl) ?_
   obtain ⟨r19, hr19, h⟩ := bindO h
   refine AOps_call [] 115 _ _ _ _ _ _ _ _ _ _ rfl rfl rfl rfl rfl rfl rfl Try.call33 rfl (nodupB_sound _ rfl) rfl rfl rfl (spec_GreatestClique_ac k r17.1 r17.2 _ hr19) ?_
   rintro _ _ ⟨rfl, rfl⟩
   refine ⟨(fun _ h => nomatch h), (allc (trivial) (allc (trivial) (fun _ h => nomatch h))), AOps_as 115 (v' := .tup [.d (.sl none (intsD r19.1)), iV r19.2]) (H' := [.box (colD r3.1), .box (colD r17.1)]) rfl rfl ?_⟩
   refine AOps_q 112 _ rfl rfl rfl (QOp_move _ _ rfl rfl) ?_
   refine AOps_q 116 _ rfl rfl rfl (QOp_extract _ _ _ _ rfl rfl rfl) ?_
   refine AOps_q 117 _ rfl rfl rfl (QOp_extract _ _ _ _ rfl rfl rfl) ?_
   refine AOps_q 18 _ rfl rfl rfl (QOp_assign _ _ rfl rfl) ?_
   refine AOps_q 19 _ rfl rfl rfl (QOp_assign _ _ rfl rfl) ?_
   refine AOps_nil ?_
   obtain ⟨s22, hss22, hks22⟩ := bindO h
   clear h
   refine ACode_seqJ (fun E' H' => Weak 314 G E' H' [(0, .d (.sl none (bysD p0))), (3, .ptr 0 0), (4, iV r3.2.1), (5, iV r3.2.2), (6, .d (.sl none (rowsD (r4.1.getD [])))), (7, iV r4.2), (10, iV r11.1), (11, iV r11.2), (14, .ptr 1 0), (15, iV r17.2), (16, .d (.sl none (intsD r18.1))), (17, iV r18.2), (126, bV s22)] [.box (colD r3.1), .box (colD r17.1)]) ?_ ?_
   ·have h := hss22
    clear hss22
    refine (ACode_region ?_)
    refine AOps_q 118 _ rfl rfl rfl (QOp_move _ _ rfl rfl) ?_
    refine AOps_q 119 _ rfl rfl rfl (QOp_move _ _ rfl rfl) ?_
    refine AOps_q 120 _ rfl rfl rfl (QOp_neq _ _ _ _ _ _ _ rfl rfl rfl) ?_
    refine AOps_q 121 _ rfl rfl rfl (QOp_move _ _ rfl rfl) ?_
    refine AOps_case 121 _ rfl (fun hb20 => ?_) (fun hb20 => ?_)
    ·have h := iteT hb20 h
     refine AOps_skip 122 rfl rfl rfl ?_
     refine AOps_skip 123 rfl rfl rfl ?_
     refine AOps_skip 124 rfl rfl rfl ?_
     refine AOps_skip 125 rfl rfl rfl ?_
     refine AOps_q 126 _ rfl rfl rfl (QOp_pick_t _ _ _ _ rfl rfl rfl) ?_
     refine AOps_nil ?_
     cases h
     exact Weak_keep 0 hm [0, 3, 4, 5, 6, 7, 10, 11, 14, 15, 16, 17, 126] [0, 1] _ _ rfl rfl rfl
    ·have h := iteF hb20 h
     refine AOps_q 122 _ rfl rfl rfl (QOp_move _ _ rfl rfl) ?_
     refine AOps_q 123 _ rfl rfl rfl (QOp_move _ _ rfl rfl) ?_
     obtain ⟨r21, hr21, h⟩ := bindO h
     refine AOps_call [] 124 _ _ _ _ _ _ _ _ _ _ rfl rfl rfl rfl rfl rfl rfl Try.call16 rfl (nodupB_sound _ rfl) rfl rfl rfl (laws_likeInts_ac k r18.1 r19.1 _ hr21) ?_
     rintro _ _ ⟨rfl, rfl⟩
     refine ⟨(fun _ h => nomatch h), (allc (trivial) (fun _ h => nomatch h)), AOps_as 124 (v' := bV r21) (H' := [.box (colD r3.1), .box (colD r17.1)]) rfl rfl ?_⟩
     refine AOps_q 125 _ rfl rfl rfl (QOp_not _ _ _ rfl rfl) ?_
     refine AOps_q 126 _ rfl rfl rfl (QOp_pick_f _ _ _ _ rfl rfl rfl) ?_
     refine AOps_nil ?_
     cases h
     exact Weak_keep 0 hm [0, 3, 4, 5, 6, 7, 10, 11, 14, 15, 16, 17, 126] [0, 1] _ _ rfl rfl rfl
   intro E' H' hw
   refine ACode_weak hw ?_
   have h := hks22
   refine ACode_cond _ rfl (fun hb23 => ?_) (fun hb23 => ?_)
   ·have h := iteT hb23 h
    refine ACode_seq (ACode_region ?_)
    refine AOps_q 2 _ rfl rfl rfl (QOp_assign _ _ rfl rfl) ?_
    refine AOps_nil ?_
    refine ACode_ret ?_
    cases h
    have h := hks24
    cases h
    exact ⟨_, _, fun r a w h => ⟨r, h⟩, _, _, [], _, (.cons (ResV_tmp _ _ rfl) .nil), rfl, rfl, rfl, rfl, rfl⟩
   ·have h := iteF hb23 h
    refine ACode_skip ?_
    cases h
    exact ⟨_, rfl, Weak_keep 0 hm [0, 3, 4, 5, 6, 7, 10, 11, 14, 15, 16, 17] [0, 1] _ _ rfl rfl rfl⟩
  rintro E' H' ⟨s24, rfl, hw⟩
  refine ACode_weak hw ?_
  have h := hks24
  refine ACode_seq (ACode_region ?_)
  refine AOps_q 128 _ rfl rfl rfl (QOp_move _ _ rfl rfl) ?_
  obtain ⟨r25, hr25, h⟩ := bindO h
  refine AOps_call [] 129 _ _ _ _ _ _ _ _ _ _ rfl rfl rfl rfl rfl rfl rfl Try.call34 rfl (nodupB_sound _ rfl) rfl rfl rfl (spec_DrawIsClique_ac k p0 _ hr25) ?_
  rintro _ _ ⟨rfl, rfl⟩
  refine ⟨(fun _ h => nomatch h), (allc (trivial) (allc (trivial) (allc (trivial) (fun _ h => nomatch h)))), AOps_as 129 (v' := .tup [.d (.agg (colD r25.1)), iV r25.2.1, .d (.sl none (intsD r25.2.2))]) (H' := [.box (colD r3.1), .box (colD r17.1)]) rfl rfl ?_⟩
  refine AOps_q 127 _ rfl rfl rfl (QOp_move _ _ rfl rfl) ?_
  refine AOps_q 130 _ rfl rfl rfl (QOp_extract _ _ _ _ rfl rfl rfl) ?_
  refine AOps_q 131 _ rfl rfl rfl (QOp_extract _ _ _ _ rfl rfl rfl) ?_
  refine AOps_q 132 _ rfl rfl rfl (QOp_extract _ _ _ _ rfl rfl rfl) ?_
  refine AOps_alloc 20 _ _ (colD Col.zero) (zero_of Try.typeInfo29 rfl) (by rfl) rfl rfl rfl rfl ?_
  refine AOps_store _ _ _ _ _ _ (colD _) _ _ rfl rfl rfl rfl rfl rfl rfl (colD_one _) (by rw [colD_length]; exact Try.sizeOf29) (by rw [colD_length, colD_length]; decide) (colD_whole _ _) ?_
  refine AOps_q 21 _ rfl rfl rfl (QOp_assign _ _ rfl rfl) ?_
  refine AOps_q 22 _ rfl rfl rfl (QOp_assign _ _ rfl rfl) ?_
  refine AOps_nil ?_
  refine ACode_seq (ACode_region ?_)
  refine AOps_q 134 _ rfl rfl rfl (QOp_loadN_ptr _ _ _ _ _ _ _ rfl Try.isAgg29 Try.sizeOf29 rfl rfl (colD_all _) (colD_length _)) ?_
  refine AOps_q 135 _ rfl rfl rfl (QOp_move _ _ rfl rfl) ?_
  refine AOps_q 136 _ rfl rfl rfl (QOp_move _ _ rfl rfl) ?_
  obtain ⟨r26, hr26, h⟩ := bindO h
  refine AOps_call [] 137 _ _ _ _ _ _ _ _ _ _ rfl rfl rfl rfl rfl rfl rfl Try.call35 rfl (nodupB_sound _ rfl) rfl rfl rfl (impl_IsClique_ac k r25.1 r25.2.1 r25.2.2 _ hr26) ?_
  rintro _ _ ⟨rfl, rfl⟩
  refine ⟨(fun _ h => nomatch h), (allc (trivial) (allc (trivial) (fun _ h => nomatch h))), AOps_as 137 (v' := .tup [bV r26.1, iV r26.2]) (H' := [.box (colD r3.1), .box (colD r17.1), .box (colD r25.1)]) rfl rfl ?_⟩
  refine AOps_q 133 _ rfl rfl rfl (QOp_move _ _ rfl rfl) ?_
  refine AOps_q 138 _ rfl rfl rfl (QOp_extract _ _ _ _ rfl rfl rfl) ?_
  refine AOps_q 139 _ rfl rfl rfl (QOp_extract _ _ _ _ rfl rfl rfl) ?_
  refine AOps_q 23 _ rfl rfl rfl (QOp_assign _ _ rfl rfl) ?_
  refine AOps_q 24 _ rfl rfl rfl (QOp_assign _ _ rfl rfl) ?_
  refine AOps_nil ?_
  obtain ⟨os31, hss31, hks31⟩ := bindO h
  clear h
  refine ACode_seqJ (fun E' H' => ∃ s31 : Unit, os31 = .inl s31 ∧ Weak 314 G E' H' [(0, .d (.sl none (bysD p0))), (3, .ptr 0 0), (4, iV r3.2.1), (5, iV r3.2.2), (6, .d (.sl none (rowsD (r4.1.getD [])))), (7, iV r4.2), (10, iV r11.1), (11, iV r11.2), (14, .ptr 1 0), (15, iV r17.2), (16, .d (.sl none (intsD r18.1))), (17, iV r18.2)] [.box (colD r3.1), .box (colD r17.1)]) ?_ ?_
  ·have h := hss31
   clear hss31
   refine ACode_seq (ACode_region ?_)
   refine AOps_q 141 _ rfl rfl rfl (QOp_loadN_ptr _ _ _ _ _ _ _ rfl Try.isAgg29 Try.sizeOf29 rfl rfl (colD_all _) (colD_length _)) ?_
   refine AOps_q 142 _ rfl rfl rfl (QOp_move _ _ rfl rfl) ?_
   refine AOps_q 143 _ rfl rfl rfl (QOp_move _ _ rfl rfl) ?_
   obtain ⟨r27, hr27, h⟩ := bindO h
   refine AOps_call [] 144 _ _ _ _ _ _ _ _ _ _ rfl rfl rfl rfl rfl rfl rfl Try.call36 rfl (nodupB_sound _ rfl) rfl rfl rfl (spec_IsClique_ac k r25.1 r25.2.1 r25.2.2 _ hr27) ?_
   rintro _ _ ⟨rfl, rfl⟩
   refine ⟨(fun _ h => nomatch h), (allc (trivial) (allc (trivial) (fun _ h => nomatch h))), AOps_as 144 (v' := .tup [bV r27.1, iV r27.2]) (H' := [.box (colD r3.1), .box (colD r17.1), .box (colD r25.1)]) rfl rfl ?_⟩
   refine AOps_q 140 _ rfl rfl rfl (QOp_move _ _ rfl rfl) ?_
   refine AOps_q 145 _ rfl rfl rfl (QOp_extract _ _ _ _ rfl rfl rfl) ?_
   refine AOps_q 146 _ rfl rfl rfl (QOp_extract _ _ _ _ rfl rfl rfl) ?_
   refine AOps_q 25 _ rfl rfl rfl (QOp_assign _ _ rfl rfl) ?_
   refine AOps_q 26 _ rfl rfl rfl (QOp_assign _ _ rfl rfl) ?_
   refine AOps_nil ?_
   obtain ⟨s29, hss29, hks29⟩ := letS h
   clear h
   refine ACode_seqJ (fun E' H' => Weak 314 G E' H' [(0, .d (.sl none (bysD p0))), (3, .ptr 0 0), (4, iV r3.2.1), (5, iV r3.2.2), (6, .d (.sl none (rowsD (r4.1.getD [])))), (7, iV r4.2), (10, iV r11.1), (11, iV r11.2), (14, .ptr 1 0), (15, iV r17.2), (16, .d (.sl none (intsD r18.1))), (17, iV r18.2), (154, bV s29)] [.box (colD r3.1), .box (colD r17.1)]) ?_ ?_
   ·have h := hss29
    clear hss29
    refine (ACode_region ?_)
    refine AOps_q 147 _ rfl rfl rfl (QOp_move _ _ rfl rfl) ?_
    refine AOps_q 148 _ rfl rfl rfl (QOp_move _ _ rfl rfl) ?_
    refine AOps_q 149 _ rfl rfl rfl (QOp_neq _ _ _ _ _ _ _ rfl rfl rfl) ?_
    refine AOps_q 150 _ rfl rfl rfl (QOp_move _ _ rfl rfl) ?_
    refine AOps_case 150 _ rfl (fun hb28 => ?_) (fun hb28 => ?_)
    ·have h := iteT hb28 h
     refine AOps_skip 151 rfl rfl rfl ?_
     refine AOps_skip 152 rfl rfl rfl ?_
     refine AOps_skip 153 rfl rfl rfl ?_
     refine AOps_q 154 _ rfl rfl rfl (QOp_pick_t _ _ _ _ rfl rfl rfl) ?_
     refine AOps_nil ?_
     cases h
     exact Weak_keep 0 hm [0, 3, 4, 5, 6, 7, 10, 11, 14, 15, 16, 17, 154] [0, 1] _ _ rfl rfl rfl
    ·have h := iteF hb28 h
     refine AOps_q 151 _ rfl rfl rfl (QOp_move _ _ rfl rfl) ?_
     refine AOps_q 152 _ rfl rfl rfl (QOp_move _ _ rfl rfl) ?_
     refine AOps_q 153 _ rfl rfl rfl (QOp_bneq _ _ _ _ _ _ rfl rfl rfl Try.underlying4) ?_
     refine AOps_q 154 _ rfl rfl rfl (QOp_pick_f _ _ _ _ rfl rfl rfl) ?_
     refine AOps_nil ?_
     cases h
     exact Weak_keep 0 hm [0, 3, 4, 5, 6, 7, 10, 11, 14, 15, 16, 17, 154] [0, 1] _ _ rfl rfl rfl
   intro E' H' hw
   refine ACode_weak hw ?_
   have h := hks29
   refine ACode_cond _ rfl (fun hb30 => ?_) (fun hb30 => ?_)
   ·have h := iteT hb30 h
    refine ACode_seq (ACode_region ?_)
    refine AOps_q 2 _ rfl rfl rfl (QOp_assign _ _ rfl rfl) ?_
    refine AOps_nil ?_
    refine ACode_ret ?_
    cases h
    have h := hks31
    cases h
    exact ⟨_, _, fun r a w h => ⟨r, h⟩, _, _, [], _, (.cons (ResV_tmp _ _ rfl) .nil), rfl, rfl, rfl, rfl, rfl⟩
   ·have h := iteF hb30 h
    refine ACode_skip ?_
    cases h
    exact ⟨_, rfl, Weak_keep 0 hm [0, 3, 4, 5, 6, 7, 10, 11, 14, 15, 16, 17] [0, 1] _ _ rfl rfl rfl⟩
  rintro E' H' ⟨s31, rfl, hw⟩
  refine ACode_weak hw ?_
  have h := hks31
  refine ACode_seq (ACode_region ?_)
  refine AOps_q 156 _ rfl rfl rfl (QOp_move _ _ rfl rfl) ?_
  obtain ⟨r32, hr32, h⟩ := bindO h
  refine AOps_call [] 157 _ _ _ _ _ _ _ _ _ _ rfl rfl rfl rfl rfl rfl rfl Try.call37 rfl (nodupB_sound _ rfl) rfl rfl rfl (spec_DrawCliquesAt_ac k p0 _ hr32) ?_
  rintro _ _ ⟨rfl, rfl⟩
  refine ⟨(fun _ h => nomatch h), (allc (trivial) (allc (trivial) (allc (trivial) (allc (trivial) (fun _ h => nomatch h))))), AOps_as 157 (v' := .tup [.d (.agg (colD r32.1)), iV r32.2.1, iV r32.2.2.1, iV r32.2.2.2]) (H' := [.box (colD r3.1), .box (colD r17.1)]) rfl rfl ?_⟩
  refine AOps_q 155 _ rfl rfl rfl (QOp_move _ _ rfl rfl) ?_
  refine AOps_q 158 _ rfl rfl rfl (QOp_extract _ _ _ _ rfl rfl rfl) ?_
  refine AOps_q 159 _ rfl rfl rfl (QOp_extract _ _ _ _ rfl rfl rfl) ?_
  refine AOps_q 160 _ rfl rfl rfl (QOp_extract _ _ _ _ rfl rfl rfl) ?_
  refine AOps_q 161 _ rfl rfl rfl (QOp_extract _ _ _ _ rfl rfl rfl) ?_
  refine AOps_alloc 27 _ _ (colD Col.zero) (zero_of Try.typeInfo29 rfl) (by rfl) rfl rfl rfl rfl ?_
  refine AOps_store _ _ _ _ _ _ (colD _) _ _ rfl rfl rfl rfl rfl rfl rfl (colD_one _) (by rw [colD_length]; exact Try.sizeOf29) (by rw [colD_length, colD_length]; decide) (colD_whole _ _) ?_
  refine AOps_q 28 _ rfl rfl rfl (QOp_assign _ _ rfl rfl) ?_
  refine AOps_q 29 _ rfl rfl rfl (QOp_assign _ _ rfl rfl) ?_
  refine AOps_q 30 _ rfl rfl rfl (QOp_assign _ _ rfl rfl) ?_
  refine AOps_nil ?_
  refine ACode_seq (ACode_region ?_)
  refine AOps_q 163 _ rfl rfl rfl (QOp_loadN_ptr _ _ _ _ _ _ _ rfl Try.isAgg29 Try.sizeOf29 rfl rfl (colD_all _) (colD_length _)) ?_
  refine AOps_q 164 _ rfl rfl rfl (QOp_move _ _ rfl rfl) ?_
  refine AOps_q 165 _ rfl rfl rfl (QOp_move _ _ rfl rfl) ?_
  refine AOps_q 166 _ rfl rfl rfl (QOp_move _ _ rfl rfl) ?_
  obtain ⟨r33, hr33, h⟩ := bindO h
  refine AOps_call [] 167 _ _ _ _ _ _ _ _ _ _ rfl rfl rfl rfl rfl rfl rfl Try.call38 rfl (nodupB_sound _ rfl) rfl rfl rfl (impl_CliquesAt_ac k r32.1 r32.2.1 r32.2.2.1 r32.2.2.2 _ hr33) ?_
  rintro _ _ ⟨rfl, rfl⟩
  refine ⟨(fun _ h => nomatch h), (allc (trivial) (allc (trivial) (fun _ h => nomatch h))), AOps_as 167 (v' := .tup [iV r33.1, iV r33.2]) (H' := [.box (colD r3.1), .box (colD r17.1), .box (colD r32.1)]) rfl rfl ?_⟩
  refine AOps_q 162 _ rfl rfl rfl (QOp_move _ _ rfl rfl) ?_
  refine AOps_q 168 _ rfl rfl rfl (QOp_extract _ _ _ _ rfl rfl rfl) ?_
  refine AOps_q 169 _ rfl rfl rfl (QOp_extract _ _ _ _ rfl rfl rfl) ?_
  refine AOps_q 31 _ rfl rfl rfl (QOp_assign _ _ rfl rfl) ?_
  refine AOps_q 32 _ rfl rfl rfl (QOp_assign _ _ rfl rfl) ?_
  refine AOps_nil ?_
  obtain ⟨os38, hss38, hks38⟩ := bindO h
  clear h
  refine ACode_seqJ (fun E' H' => ∃ s38 : Unit, os38 = .inl s38 ∧ Weak 314 G E' H' [(3, .ptr 0 0), (4, iV r3.2.1), (5, iV r3.2.2), (6, .d (.sl none (rowsD (r4.1.getD [])))), (7, iV r4.2), (10, iV r11.1), (11, iV r11.2), (14, .ptr 1 0), (15, iV r17.2), (16, .d (.sl none (intsD r18.1))), (17, iV r18.2), (27, .ptr 2 0), (28, iV r32.2.1), (30, iV r32.2.2.2), (32, iV r33.2)] [.box (colD r3.1), .box (colD r17.1), .box (colD r32.1)]) ?_ ?_
  ·have h := hss38
   clear hss38
   refine ACode_seq (ACode_region ?_)
   refine AOps_q 171 _ rfl rfl rfl (QOp_loadN_ptr _ _ _ _ _ _ _ rfl Try.isAgg29 Try.sizeOf29 rfl rfl (colD_all _) (colD_length _)) ?_
   refine AOps_q 172 _ rfl rfl rfl (QOp_move _ _ rfl rfl) ?_
   refine AOps_q 173 _ rfl rfl rfl (QOp_move _ _ rfl rfl) ?_
   refine AOps_q 174 _ rfl rfl rfl (QOp_move _ _ rfl rfl) ?_
   obtain ⟨r34, hr34, h⟩ := bindO h
   refine AOps_call [] 175 _ _ _ _ _ _ _ _ _ _ rfl rfl rfl rfl rfl rfl rfl Try.call39 rfl (nodupB_sound _ rfl) rfl rfl rfl (spec_CliquesAt_ac k r32.1 r32.2.1 r32.2.2.1 r32.2.2.2 _ hr34) ?_
   rintro _ _ ⟨rfl, rfl⟩
   refine ⟨(fun _ h => nomatch h), (allc (trivial) (allc (trivial) (fun _ h => nomatch h))), AOps_as 175 (v' := .tup [iV r34.1, iV r34.2]) (H' := [.box (colD r3.1), .box (colD r17.1), .box (colD r32.1)]) rfl rfl ?_⟩
   refine AOps_q 170 _ rfl rfl rfl (QOp_move _ _ rfl rfl) ?_
   refine AOps_q 176 _ rfl rfl rfl (QOp_extract _ _ _ _ rfl rfl rfl) ?_
   refine AOps_q 177 _ rfl rfl rfl (QOp_extract _ _ _ _ rfl rfl rfl) ?_
   refine AOps_q 33 _ rfl rfl rfl (QOp_assign _ _ rfl rfl) ?_
   refine AOps_q 34 _ rfl rfl rfl (QOp_assign _ _ rfl rfl) ?_
   refine AOps_nil ?_
   obtain ⟨s36, hss36, hks36⟩ := letS h
   clear h
   refine ACode_seqJ (fun E' H' => Weak 314 G E' H' [(3, .ptr 0 0), (4, iV r3.2.1), (5, iV r3.2.2), (6, .d (.sl none (rowsD (r4.1.getD [])))), (7, iV r4.2), (10, iV r11.1), (11, iV r11.2), (14, .ptr 1 0), (15, iV r17.2), (16, .d (.sl none (intsD r18.1))), (17, iV r18.2), (27, .ptr 2 0), (28, iV r32.2.1), (30, iV r32.2.2.2), (32, iV r33.2), (185, bV s36)] [.box (colD r3.1), .box (colD r17.1), .box (colD r32.1)]) ?_ ?_
   ·have h := hss36
    clear hss36
    refine (ACode_region ?_)
    refine AOps_q 178 _ rfl rfl rfl (QOp_move _ _ rfl rfl) ?_
    refine AOps_q 179 _ rfl rfl rfl (QOp_move _ _ rfl rfl) ?_
    refine AOps_q 180 _ rfl rfl rfl (QOp_neq _ _ _ _ _ _ _ rfl rfl rfl) ?_
    refine AOps_q 181 _ rfl rfl rfl (QOp_move _ _ rfl rfl) ?_
    refine AOps_case 181 _ rfl (fun hb35 => ?_) (fun hb35 => ?_)
    ·have h := iteT hb35 h
     refine AOps_skip 182 rfl rfl rfl ?_
     refine AOps_skip 183 rfl rfl rfl ?_
     refine AOps_skip 184 rfl rfl rfl ?_
     refine AOps_q 185 _ rfl rfl rfl (QOp_pick_t _ _ _ _ rfl rfl rfl) ?_
     refine AOps_nil ?_
     cases h
     exact Weak_keep 0 hm [3, 4, 5, 6, 7, 10, 11, 14, 15, 16, 17, 27, 28, 30, 32, 185] [0, 1, 2] _ _ rfl rfl rfl
    ·have h := iteF hb35 h
     refine AOps_q 182 _ rfl rfl rfl (QOp_move _ _ rfl rfl) ?_
     refine AOps_q 183 _ rfl rfl rfl (QOp_move _ _ rfl rfl) ?_
     refine AOps_q 184 _ rfl rfl rfl (QOp_neq _ _ _ _ _ _ _ rfl rfl rfl) ?_
     refine AOps_q 185 _ rfl rfl rfl (QOp_pick_f _ _ _ _ rfl rfl rfl) ?_
     refine AOps_nil ?_
     cases h
     exact Weak_keep 0 hm [3, 4, 5, 6, 7, 10, 11, 14, 15, 16, 17, 27, 28, 30, 32, 185] [0, 1, 2] _ _ rfl rfl rfl
   intro E' H' hw
   refine ACode_weak hw ?_
   have h := hks36
   refine ACode_cond _ rfl (fun hb37 => ?_) (fun hb37 => ?_)
   ·have h := iteT hb37 h
    refine ACode_seq (ACode_region ?_)
    refine AOps_q 2 _ rfl rfl rfl (QOp_assign _ _ rfl rfl) ?_
    refine AOps_nil ?_
    refine ACode_ret ?_
    cases h
    have h := hks38
    cases h
    exact ⟨_, _, fun r a w h => ⟨r, h⟩, _, _, [], _, (.cons (ResV_tmp _ _ rfl) .nil), rfl, rfl, rfl, rfl, rfl⟩
   ·have h := iteF hb37 h
    refine ACode_skip ?_
    cases h
    exact ⟨_, rfl, Weak_keep 0 hm [3, 4, 5, 6, 7, 10, 11, 14, 15, 16, 17, 27, 28, 30, 32] [0, 1, 2] _ _ rfl rfl rfl⟩
  rintro E' H' ⟨s38, rfl, hw⟩
  refine ACode_weak hw ?_
  have h := hks38
  obtain ⟨os50, hss50, hks50⟩ := bindO h
  clear h
  refine ACode_seqJ (fun E' H' => ∃ s50 : Unit, os50 = .inl s50 ∧ Weak 314 G E' H' [(3, .ptr 0 0), (4, iV r3.2.1), (5, iV r3.2.2), (6, .d (.sl none (rowsD (r4.1.getD [])))), (7, iV r4.2), (10, iV r11.1), (11, iV r11.2), (14, .ptr 1 0), (15, iV r17.2), (16, .d (.sl none (intsD r18.1))), (17, iV r18.2)] [.box (colD r3.1), .box (colD r17.1)]) ?_ ?_
  ·have h := hss50
   clear hss50
   refine ACode_seq (ACode_region ?_)
   refine AOps_q 186 _ rfl rfl rfl (QOp_move _ _ rfl rfl) ?_
   refine AOps_q 187 _ rfl rfl rfl (QOp_eql _ _ _ _ _ _ _ rfl rfl rfl) ?_
   refine AOps_nil ?_
   refine ACode_cond _ rfl (fun hb39 => ?_) (fun hb39 => ?_)
   ·have h := iteT hb39 h
    refine ACode_seq (ACode_region ?_)
    refine AOps_q 189 _ rfl rfl rfl (QOp_loadN_ptr _ _ _ _ _ _ _ rfl Try.isAgg29 Try.sizeOf29 rfl rfl (colD_all _) (colD_length _)) ?_
    refine AOps_q 190 _ rfl rfl rfl (QOp_move _ _ rfl rfl) ?_
    refine AOps_q 191 _ rfl rfl rfl (QOp_move _ _ rfl rfl) ?_
    obtain ⟨r40, hr40, h⟩ := bindO h
    refine AOps_call [] 192 _ _ _ _ _ _ _ _ _ _ rfl rfl rfl rfl rfl rfl rfl Try.call29 rfl (nodupB_sound _ rfl) rfl rfl rfl (impl_CountCliques_ac k r32.1 r32.2.1 r32.2.2.2 _ hr40) ?_
    rintro _ _ ⟨rfl, rfl⟩
    refine ⟨(fun _ h => nomatch h), (allc (trivial) (allc (trivial) (fun _ h => nomatch h))), AOps_as 192 (v' := .tup [iV r40.1, iV r40.2]) (H' := [.box (colD r3.1), .box (colD r17.1), .box (colD r32.1)]) rfl rfl ?_⟩
    refine AOps_q 188 _ rfl rfl rfl (QOp_move _ _ rfl rfl) ?_
    refine AOps_q 193 _ rfl rfl rfl (QOp_extract _ _ _ _ rfl rfl rfl) ?_
    refine AOps_q 194 _ rfl rfl rfl (QOp_extract _ _ _ _ rfl rfl rfl) ?_
    refine AOps_q 35 _ rfl rfl rfl (QOp_assign _ _ rfl rfl) ?_
    refine AOps_q 36 _ rfl rfl rfl (QOp_assign _ _ rfl rfl) ?_
    refine AOps_nil ?_
    refine ACode_seq (ACode_region ?_)
    refine AOps_q 37 _ rfl rfl rfl (QOp_assign _ _ rfl rfl) ?_
    refine AOps_nil ?_
    obtain ⟨os46, hss46, hks46⟩ := bindO h
    clear h
    refine ACode_seqJ (fun E' H' => ∃ s46 : Int, os46 = .inl s46 ∧ Weak 314 G E' H' [(3, .ptr 0 0), (4, iV r3.2.1), (5, iV r3.2.2), (6, .d (.sl none (rowsD (r4.1.getD [])))), (7, iV r4.2), (10, iV r11.1), (11, iV r11.2), (14, .ptr 1 0), (15, iV r17.2), (16, .d (.sl none (intsD r18.1))), (17, iV r18.2), (30, iV r32.2.2.2), (35, iV r40.1), (36, iV r40.2), (37, iV s46)] [.box (colD r3.1), .box (colD r17.1)]) ?_ ?_
    ·have h := hss46
     clear hss46
     refine ACode_seq (ACode_region ?_)
     refine AOps_q 38 _ rfl rfl rfl (QOp_assign _ _ rfl rfl) ?_
     refine AOps_nil ?_
     refine ACode_block ?_
     refine ACode_loopW (fun k0 E H => ∃ (x41 : Int) (x42 : Int), E = [(3, .ptr 0 0), (4, iV r3.2.1), (5, iV r3.2.2), (6, .d (.sl none (rowsD (r4.1.getD [])))), (7, iV r4.2), (10, iV r11.1), (11, iV r11.2), (14, .ptr 1 0), (15, iV r17.2), (16, .d (.sl none (intsD r18.1))), (17, iV r18.2), (27, .ptr 2 0), (28, iV r32.2.1), (30, iV r32.2.2.2), (35, iV r40.1), (36, iV r40.2), (37, iV x41), (38, iV x42)] ∧ H = [.box (colD r3.1), .box (colD r17.1), .box (colD r32.1)] ∧ laws_FnCliques_l0 k r32 k0 x41 x42 = some os46) k _ _ (Weak_keep 0 hm [3, 4, 5, 6, 7, 10, 11, 14, 15, 16, 17, 27, 28, 30, 35, 36, 37, 38] [0, 1, 2] _ _ rfl rfl rfl) ⟨_, _, rfl, rfl, h⟩ ?_
     clear h
     rintro k0 E H ⟨x41, x42, rfl, rfl, h⟩
     cases k0 with
     | zero => cases (show (none : Option (Sum (Int) (Sum (Unit) (Bool)))) = some _ from h)
     | succ k0 =>
      rw [laws_FnCliques_l0] at h
      refine ACode_seq ?_
      refine ACode_seq (ACode_region ?_)
      refine AOps_q 195 _ rfl rfl rfl (QOp_move _ _ rfl rfl) ?_
      refine AOps_q 196 _ rfl rfl rfl (QOp_fieldAddr_ptr _ _ _ _ _ _ 0 _ _ rfl Try.underlying29 rfl _ Try.sizeOf2 rfl rfl rfl rfl) ?_
      refine AOps_q 197 _ rfl rfl rfl (QOp_load_ptr _ _ _ _ _ _ rfl Try.isAgg2 rfl rfl rfl) ?_
      refine AOps_q 198 _ rfl rfl rfl (QOp_lss _ _ _ _ _ _ _ rfl rfl rfl) ?_
      refine AOps_nil ?_
      refine ACode_cond _ rfl (fun hb43 => ?_) (fun hb43 => ?_)
      ·have h := iteT hb43 h
       refine ACode_skip ?_
       refine ACode_seq ?_
       refine ACode_block ?_
       refine ACode_seq (ACode_region ?_)
       refine AOps_q 202 _ rfl rfl rfl (QOp_loadN_ptr _ _ _ _ _ _ _ rfl Try.isAgg29 Try.sizeOf29 rfl rfl (colD_all _) (colD_length _)) ?_
       refine AOps_q 203 _ rfl rfl rfl (QOp_move _ _ rfl rfl) ?_
       refine AOps_q 204 _ rfl rfl rfl (QOp_move _ _ rfl rfl) ?_
       refine AOps_q 205 _ rfl rfl rfl (QOp_move _ _ rfl rfl) ?_
       obtain ⟨r44, hr44, h⟩ := bindO h
       refine AOps_call [] 206 _ _ _ _ _ _ _ _ _ _ rfl rfl rfl rfl rfl rfl rfl Try.call38 rfl (nodupB_sound _ rfl) rfl rfl rfl (impl_CliquesAt_ac k r32.1 r32.2.1 x42 r32.2.2.2 _ hr44) ?_
       rintro _ _ ⟨rfl, rfl⟩
       refine ⟨(fun _ h => nomatch h), (allc (trivial) (allc (trivial) (fun _ h => nomatch h))), AOps_as 206 (v' := .tup [iV r44.1, iV r44.2]) (H' := [.box (colD r3.1), .box (colD r17.1), .box (colD r32.1)]) rfl rfl ?_⟩
       refine AOps_q 201 _ rfl rfl rfl (QOp_move _ _ rfl rfl) ?_
       refine AOps_q 207 _ rfl rfl rfl (QOp_extract _ _ _ _ rfl rfl rfl) ?_
       refine AOps_q 208 _ rfl rfl rfl (QOp_extract _ _ _ _ rfl rfl rfl) ?_
       refine AOps_q 39 _ rfl rfl rfl (QOp_assign _ _ rfl rfl) ?_
       refine AOps_q 40 _ rfl rfl rfl (QOp_assign _ _ rfl rfl) ?_
       refine AOps_nil ?_
       refine ACode_seq ?_
       refine ACode_seq (ACode_region ?_)
       refine AOps_q 209 _ rfl rfl rfl (QOp_move _ _ rfl rfl) ?_
       refine AOps_q 210 _ rfl rfl rfl (QOp_neq _ _ _ _ _ _ _ rfl rfl rfl) ?_
       refine AOps_nil ?_
       refine ACode_cond _ rfl (fun hb45 => ?_) (fun hb45 => ?_)
       ·have h := iteT hb45 h
        refine ACode_seq (ACode_region ?_)
        refine AOps_q 2 _ rfl rfl rfl (QOp_assign _ _ rfl rfl) ?_
        refine AOps_nil ?_
        refine ACode_ret ?_
        obtain ⟨rr, hz81, h2⟩ := bindO h
        obtain rfl := Option.some.inj h2
        obtain rfl := Option.some.inj (show some rr = some _ from hks46)
        have h := hz81
        cases h
        have h := hks50
        cases h
        exact ⟨_, _, fun r a w h => ⟨r, h⟩, _, _, [], _, (.cons (ResV_tmp _ _ rfl) .nil), rfl, rfl, rfl, rfl, rfl⟩
       ·have h := iteF hb45 h
        refine ACode_skip ?_
        refine (ACode_region ?_)
        refine AOps_q 211 _ rfl rfl rfl (QOp_move _ _ rfl rfl) ?_
        refine AOps_q 212 _ rfl rfl rfl (QOp_move _ _ rfl rfl) ?_
        refine AOps_q 213 _ rfl rfl rfl (QOp_add _ _ _ _ _ _ _ rfl rfl rfl) ?_
        refine AOps_q 37 _ rfl rfl rfl (QOp_assign _ _ rfl rfl) ?_
        refine AOps_nil ?_
        refine (ACode_region ?_)
        refine AOps_q 199 _ rfl rfl rfl (QOp_move _ _ rfl rfl) ?_
        refine AOps_q 200 _ rfl rfl rfl (QOp_add _ _ _ _ _ _ _ rfl rfl rfl) ?_
        refine AOps_q 38 _ rfl rfl rfl (QOp_assign _ _ rfl rfl) ?_
        refine AOps_nil ?_
        exact ⟨k0, _, _, Nat.lt_succ_self _, Weak_keep 0 hm [3, 4, 5, 6, 7, 10, 11, 14, 15, 16, 17, 27, 28, 30, 35, 36, 37, 38] [0, 1, 2] _ _ rfl rfl rfl, _, _, rfl, rfl, h⟩
      ·have h := iteF hb43 h
       refine ACode_exit ?_
       cases h
       exact ⟨_, rfl, Weak_keep 0 hm [3, 4, 5, 6, 7, 10, 11, 14, 15, 16, 17, 30, 35, 36, 37] [0, 1] _ _ rfl rfl rfl⟩
    rintro E' H' ⟨s46, rfl, hw⟩
    refine ACode_weak hw ?_
    have h := hks46
    obtain ⟨s48, hss48, hks48⟩ := letS h
    clear h
    refine ACode_seqJ (fun E' H' => Weak 314 G E' H' [(3, .ptr 0 0), (4, iV r3.2.1), (5, iV r3.2.2), (6, .d (.sl none (rowsD (r4.1.getD [])))), (7, iV r4.2), (10, iV r11.1), (11, iV r11.2), (14, .ptr 1 0), (15, iV r17.2), (16, .d (.sl none (intsD r18.1))), (17, iV r18.2), (222, bV s48)] [.box (colD r3.1), .box (colD r17.1)]) ?_ ?_
    ·have h := hss48
     clear hss48
     refine (ACode_region ?_)
     refine AOps_q 214 _ rfl rfl rfl (QOp_move _ _ rfl rfl) ?_
     refine AOps_q 215 _ rfl rfl rfl (QOp_neq _ _ _ _ _ _ _ rfl rfl rfl) ?_
     refine AOps_q 216 _ rfl rfl rfl (QOp_move _ _ rfl rfl) ?_
     refine AOps_case 216 _ rfl (fun hb47 => ?_) (fun hb47 => ?_)
     ·have h := iteT hb47 h
      refine AOps_skip 217 rfl rfl rfl ?_
      refine AOps_skip 218 rfl rfl rfl ?_
      refine AOps_skip 219 rfl rfl rfl ?_
      refine AOps_skip 220 rfl rfl rfl ?_
      refine AOps_skip 221 rfl rfl rfl ?_
      refine AOps_q 222 _ rfl rfl rfl (QOp_pick_t _ _ _ _ rfl rfl rfl) ?_
      refine AOps_nil ?_
      cases h
      exact Weak_keep 0 hm [3, 4, 5, 6, 7, 10, 11, 14, 15, 16, 17, 222] [0, 1] _ _ rfl rfl rfl
     ·have h := iteF hb47 h
      refine AOps_q 217 _ rfl rfl rfl (QOp_move _ _ rfl rfl) ?_
      refine AOps_q 218 _ rfl rfl rfl (QOp_move _ _ rfl rfl) ?_
      refine AOps_q 219 _ rfl rfl rfl (QOp_move _ _ rfl rfl) ?_
      refine AOps_q 220 _ rfl rfl rfl (QOp_mul _ _ _ _ _ _ _ rfl rfl rfl) ?_
      refine AOps_q 221 _ rfl rfl rfl (QOp_neq _ _ _ _ _ _ _ rfl rfl rfl) ?_
      refine AOps_q 222 _ rfl rfl rfl (QOp_pick_f _ _ _ _ rfl rfl rfl) ?_
      refine AOps_nil ?_
      cases h
      exact Weak_keep 0 hm [3, 4, 5, 6, 7, 10, 11, 14, 15, 16, 17, 222] [0, 1] _ _ rfl rfl rfl
    intro E' H' hw
    refine ACode_weak hw ?_
    have h := hks48
    refine ACode_cond _ rfl (fun hb49 => ?_) (fun hb49 => ?_)
    ·have h := iteT hb49 h
     refine ACode_seq (ACode_region ?_)
     refine AOps_q 2 _ rfl rfl rfl (QOp_assign _ _ rfl rfl) ?_
     refine AOps_nil ?_
     refine ACode_ret ?_
     cases h
     have h := hks50
     cases h
     exact ⟨_, _, fun r a w h => ⟨r, h⟩, _, _, [], _, (.cons (ResV_tmp _ _ rfl) .nil), rfl, rfl, rfl, rfl, rfl⟩
    ·have h := iteF hb49 h
     refine ACode_skip ?_
     cases h
     exact ⟨_, rfl, Weak_keep 0 hm [3, 4, 5, 6, 7, 10, 11, 14, 15, 16, 17] [0, 1] _ _ rfl rfl rfl⟩
   ·have h := iteF hb39 h
    refine ACode_skip ?_
    cases h
    exact ⟨_, rfl, Weak_keep 0 hm [3, 4, 5, 6, 7, 10, 11, 14, 15, 16, 17] [0, 1] _ _ rfl rfl rfl⟩
  rintro E' H' ⟨s50, rfl, hw⟩
  refine ACode_weak hw ?_
  have h := hks50
  obtain ⟨os61, hss61, hks61⟩ := bindO h
  clear h
  refine ACode_seqJ (fun E' H' => ∃ s61 : Unit, os61 = .inl s61 ∧ Weak 314 G E' H' [(3, .ptr 0 0), (4, iV r3.2.1), (5, iV r3.2.2), (6, .d (.sl none (rowsD (r4.1.getD [])))), (7, iV r4.2), (10, iV r11.1), (11, iV r11.2)] [.box (colD r3.1)]) ?_ ?_
  ·have h := hss61
   clear hss61
   refine ACode_seq (ACode_region ?_)
   refine AOps_q 223 _ rfl rfl rfl (QOp_move _ _ rfl rfl) ?_
   refine AOps_q 224 _ rfl rfl rfl (QOp_eql _ _ _ _ _ _ _ rfl rfl rfl) ?_
   refine AOps_nil ?_
   refine ACode_cond _ rfl (fun hb51 => ?_) (fun hb51 => ?_)
   ·have h := iteT hb51 h
    refine ACode_seq (ACode_region ?_)
    refine AOps_q 226 _ rfl rfl rfl (QOp_loadN_ptr _ _ _ _ _ _ _ rfl Try.isAgg29 Try.sizeOf29 rfl rfl (colD_all _) (colD_length _)) ?_
    refine AOps_q 227 _ rfl rfl rfl (QOp_move _ _ rfl rfl) ?_
    refine AOps_q 228 _ rfl rfl rfl (QOp_move _ _ rfl rfl) ?_
    obtain ⟨r52, hr52, h⟩ := bindO h
    refine AOps_call [] 229 _ _ _ _ _ _ _ _ _ _ rfl rfl rfl rfl rfl rfl rfl Try.call35 rfl (nodupB_sound _ rfl) rfl rfl rfl (impl_IsClique_ac k r17.1 r17.2 r18.1 _ hr52) ?_
    rintro _ _ ⟨rfl, rfl⟩
    refine ⟨(fun _ h => nomatch h), (allc (trivial) (allc (trivial) (fun _ h => nomatch h))), AOps_as 229 (v' := .tup [bV r52.1, iV r52.2]) (H' := [.box (colD r3.1), .box (colD r17.1)]) rfl rfl ?_⟩
    refine AOps_q 225 _ rfl rfl rfl (QOp_move _ _ rfl rfl) ?_
    refine AOps_q 230 _ rfl rfl rfl (QOp_extract _ _ _ _ rfl rfl rfl) ?_
    refine AOps_q 231 _ rfl rfl rfl (QOp_extract _ _ _ _ rfl rfl rfl) ?_
    refine AOps_q 41 _ rfl rfl rfl (QOp_assign _ _ rfl rfl) ?_
    refine AOps_q 42 _ rfl rfl rfl (QOp_assign _ _ rfl rfl) ?_
    refine AOps_nil ?_
    refine ACode_seq (ACode_region ?_)
    refine AOps_q 233 _ rfl rfl rfl (QOp_loadN_ptr _ _ _ _ _ _ _ rfl Try.isAgg29 Try.sizeOf29 rfl rfl (colD_all _) (colD_length _)) ?_
    refine AOps_q 234 _ rfl rfl rfl (QOp_move _ _ rfl rfl) ?_
    refine AOps_q 235 _ rfl rfl rfl (QOp_move _ _ rfl rfl) ?_
    refine AOps_q 236 _ rfl rfl rfl (QOp_len_sl _ _ _ _ _ _ _ (intsD_length _) rfl rfl rfl rfl Try.underlying24 rfl) ?_
    refine AOps_q 237 _ rfl rfl rfl (QOp_add _ _ _ _ _ _ _ rfl rfl rfl) ?_
    refine AOps_q 238 _ rfl rfl rfl (QOp_min _ _ _ _ _ _ rfl rfl rfl rfl rfl) ?_
    obtain ⟨r53, hr53, h⟩ := bindO h
    refine AOps_call [] 239 _ _ _ _ _ _ _ _ _ _ rfl rfl rfl rfl rfl rfl rfl Try.call29 rfl (nodupB_sound _ rfl) rfl rfl rfl (impl_CountCliques_ac k r17.1 r17.2 (if 17 < w64 ((r18.1.length : Int) + 1) then 17 else w64 ((r18.1.length : Int) + 1)) _ hr53) ?_
    rintro _ _ ⟨rfl, rfl⟩
    refine ⟨(fun _ h => nomatch h), (allc (trivial) (allc (trivial) (fun _ h => nomatch h))), AOps_as 239 (v' := .tup [iV r53.1, iV r53.2]) (H' := [.box (colD r3.1), .box (colD r17.1)]) rfl rfl ?_⟩
    refine AOps_q 232 _ rfl rfl rfl (QOp_move _ _ rfl rfl) ?_
    refine AOps_q 240 _ rfl rfl rfl (QOp_extract _ _ _ _ rfl rfl rfl) ?_
    refine AOps_q 241 _ rfl rfl rfl (QOp_extract _ _ _ _ rfl rfl rfl) ?_
    refine AOps_q 43 _ rfl rfl rfl (QOp_assign _ _ rfl rfl) ?_
    refine AOps_q 44 _ rfl rfl rfl (QOp_assign _ _ rfl rfl) ?_
    refine AOps_nil ?_
    obtain ⟨s59, hss59, hks59⟩ := letS h
    clear h
    refine ACode_seqJ (fun E' H' => Weak 314 G E' H' [(3, .ptr 0 0), (4, iV r3.2.1), (5, iV r3.2.2), (6, .d (.sl none (rowsD (r4.1.getD [])))), (7, iV r4.2), (10, iV r11.1), (11, iV r11.2), (265, bV s59)] [.box (colD r3.1)]) ?_ ?_
    ·have h := hss59
     clear hss59
     refine (ACode_region ?_)
     refine AOps_q 242 _ rfl rfl rfl (QOp_move _ _ rfl rfl) ?_
     refine AOps_q 243 _ rfl rfl rfl (QOp_neq _ _ _ _ _ _ _ rfl rfl rfl) ?_
     refine AOps_q 244 _ rfl rfl rfl (QOp_move _ _ rfl rfl) ?_
     refine AOps_case 244 _ rfl (fun hb54 => ?_) (fun hb54 => ?_)
     ·have h := iteT hb54 h
      refine AOps_skip 245 rfl rfl rfl ?_
      refine AOps_skip 246 rfl rfl rfl ?_
      refine AOps_q 247 _ rfl rfl rfl (QOp_pick_t _ _ _ _ rfl rfl rfl) ?_
      refine AOps_q 248 _ rfl rfl rfl (QOp_move _ _ rfl rfl) ?_
      refine AOps_skip 249 rfl rfl rfl ?_
      refine AOps_skip 250 rfl rfl rfl ?_
      refine AOps_q 251 _ rfl rfl rfl (QOp_pick_t _ _ _ _ rfl rfl rfl) ?_
      refine AOps_q 252 _ rfl rfl rfl (QOp_move _ _ rfl rfl) ?_
      refine AOps_skip 253 rfl rfl rfl ?_
      refine AOps_skip 254 rfl rfl rfl ?_
      refine AOps_skip 255 rfl rfl rfl ?_
      refine AOps_q 256 _ rfl rfl rfl (QOp_pick_t _ _ _ _ rfl rfl rfl) ?_
      refine AOps_q 257 _ rfl rfl rfl (QOp_move _ _ rfl rfl) ?_
      refine AOps_skip 258 rfl rfl rfl ?_
      refine AOps_skip 259 rfl rfl rfl ?_
      refine AOps_skip 260 rfl rfl rfl ?_
      refine AOps_skip 261 rfl rfl rfl ?_
      refine AOps_skip 262 rfl rfl rfl ?_
      refine AOps_skip 263 rfl rfl rfl ?_
      refine AOps_skip 264 rfl rfl rfl ?_
      refine AOps_q 265 _ rfl rfl rfl (QOp_pick_t _ _ _ _ rfl rfl rfl) ?_
      refine AOps_nil ?_
      cases h
      exact Weak_keep 0 hm [3, 4, 5, 6, 7, 10, 11, 265] [0] _ _ rfl rfl rfl
     ·have h := iteF hb54 h
      refine AOps_q 245 _ rfl rfl rfl (QOp_move _ _ rfl rfl) ?_
      refine AOps_q 246 _ rfl rfl rfl (QOp_not _ _ _ rfl rfl) ?_
      refine AOps_q 247 _ rfl rfl rfl (QOp_pick_f _ _ _ _ rfl rfl rfl) ?_
      refine AOps_q 248 _ rfl rfl rfl (QOp_move _ _ rfl rfl) ?_
      refine AOps_case 248 _ rfl (fun hb55 => ?_) (fun hb55 => ?_)
      ·have h := iteT hb55 h
       refine AOps_skip 249 rfl rfl rfl ?_
       refine AOps_skip 250 rfl rfl rfl ?_
       refine AOps_q 251 _ rfl rfl rfl (QOp_pick_t _ _ _ _ rfl rfl rfl) ?_
       refine AOps_q 252 _ rfl rfl rfl (QOp_move _ _ rfl rfl) ?_
       refine AOps_skip 253 rfl rfl rfl ?_
       refine AOps_skip 254 rfl rfl rfl ?_
       refine AOps_skip 255 rfl rfl rfl ?_
       refine AOps_q 256 _ rfl rfl rfl (QOp_pick_t _ _ _ _ rfl rfl rfl) ?_
       refine AOps_q 257 _ rfl rfl rfl (QOp_move _ _ rfl rfl) ?_
       refine AOps_skip 258 rfl rfl rfl ?_
       refine AOps_skip 259 rfl rfl rfl ?_
       refine AOps_skip 260 rfl rfl rfl ?_
       refine AOps_skip 261 rfl rfl rfl ?_
       refine AOps_skip 262 rfl rfl rfl ?_
       refine AOps_skip 263 rfl rfl rfl ?_
       refine AOps_skip 264 rfl rfl rfl ?_
       refine AOps_q 265 _ rfl rfl rfl (QOp_pick_t _ _ _ _ rfl rfl rfl) ?_
       refine AOps_nil ?_
       cases h
       exact Weak_keep 0 hm [3, 4, 5, 6, 7, 10, 11, 265] [0] _ _ rfl rfl rfl
      ·have h := iteF hb55 h
       refine AOps_q 249 _ rfl rfl rfl (QOp_move _ _ rfl rfl) ?_
       refine AOps_q 250 _ rfl rfl rfl (QOp_neq _ _ _ _ _ _ _ rfl rfl rfl) ?_
       refine AOps_q 251 _ rfl rfl rfl (QOp_pick_f _ _ _ _ rfl rfl rfl) ?_
       refine AOps_q 252 _ rfl rfl rfl (QOp_move _ _ rfl rfl) ?_
       refine AOps_case 252 _ rfl (fun hb56 => ?_) (fun hb56 => ?_)
       ·have h := iteT hb56 h
        refine AOps_skip 253 rfl rfl rfl ?_
        refine AOps_skip 254 rfl rfl rfl ?_
        refine AOps_skip 255 rfl rfl rfl ?_
        refine AOps_q 256 _ rfl rfl rfl (QOp_pick_t _ _ _ _ rfl rfl rfl) ?_
        refine AOps_q 257 _ rfl rfl rfl (QOp_move _ _ rfl rfl) ?_
        refine AOps_skip 258 rfl rfl rfl ?_
        refine AOps_skip 259 rfl rfl rfl ?_
        refine AOps_skip 260 rfl rfl rfl ?_
        refine AOps_skip 261 rfl rfl rfl ?_
        refine AOps_skip 262 rfl rfl rfl ?_
        refine AOps_skip 263 rfl rfl rfl ?_
        refine AOps_skip 264 rfl rfl rfl ?_
        refine AOps_q 265 _ rfl rfl rfl (QOp_pick_t _ _ _ _ rfl rfl rfl) ?_
        refine AOps_nil ?_
        cases h
        exact Weak_keep 0 hm [3, 4, 5, 6, 7, 10, 11, 265] [0] _ _ rfl rfl rfl
       ·have h := iteF hb56 h
        refine AOps_q 253 _ rfl rfl rfl (QOp_move _ _ rfl rfl) ?_
        refine AOps_q 254 _ rfl rfl rfl (QOp_len_sl _ _ _ _ _ _ _ (intsD_length _) rfl rfl rfl rfl Try.underlying24 rfl) ?_
        refine AOps_q 255 _ rfl rfl rfl (QOp_lss _ _ _ _ _ _ _ rfl rfl rfl) ?_
        refine AOps_q 256 _ rfl rfl rfl (QOp_pick_f _ _ _ _ rfl rfl rfl) ?_
        refine AOps_q 257 _ rfl rfl rfl (QOp_move _ _ rfl rfl) ?_
        refine AOps_case 257 _ rfl (fun hb57 => ?_) (fun hb57 => ?_)
        ·have h := iteT hb57 h
         refine AOps_skip 258 rfl rfl rfl ?_
         refine AOps_skip 259 rfl rfl rfl ?_
         refine AOps_skip 260 rfl rfl rfl ?_
         refine AOps_skip 261 rfl rfl rfl ?_
         refine AOps_skip 262 rfl rfl rfl ?_
         refine AOps_skip 263 rfl rfl rfl ?_
         refine AOps_skip 264 rfl rfl rfl ?_
         refine AOps_q 265 _ rfl rfl rfl (QOp_pick_t _ _ _ _ rfl rfl rfl) ?_
         refine AOps_nil ?_
         cases h
         exact Weak_keep 0 hm [3, 4, 5, 6, 7, 10, 11, 265] [0] _ _ rfl rfl rfl
        ·have h := iteF hb57 h
         refine AOps_q 258 _ rfl rfl rfl (QOp_move _ _ rfl rfl) ?_
         refine AOps_q 259 _ rfl rfl rfl (QOp_len_sl _ _ _ _ _ _ _ (intsD_length _) rfl rfl rfl rfl Try.underlying24 rfl) ?_
         refine AOps_q 260 _ rfl rfl rfl (QOp_lss _ _ _ _ _ _ _ rfl rfl rfl) ?_
         refine AOps_q 261 _ rfl rfl rfl (QOp_move _ _ rfl rfl) ?_
         refine AOps_case 261 _ rfl (fun hb58 => ?_) (fun hb58 => ?_)
         ·have h := iteT hb58 h
          refine AOps_q 262 _ rfl rfl rfl (QOp_move _ _ rfl rfl) ?_
          refine AOps_q 263 _ rfl rfl rfl (QOp_neq _ _ _ _ _ _ _ rfl rfl rfl) ?_
          refine AOps_q 264 _ rfl rfl rfl (QOp_pick_t _ _ _ _ rfl rfl rfl) ?_
          refine AOps_q 265 _ rfl rfl rfl (QOp_pick_f _ _ _ _ rfl rfl rfl) ?_
          refine AOps_nil ?_
          cases h
          exact Weak_keep 0 hm [3, 4, 5, 6, 7, 10, 11, 265] [0] _ _ rfl rfl rfl
         ·have h := iteF hb58 h
          refine AOps_skip 262 rfl rfl rfl ?_
          refine AOps_skip 263 rfl rfl rfl ?_
          refine AOps_q 264 _ rfl rfl rfl (QOp_pick_f _ _ _ _ rfl rfl rfl) ?_
          refine AOps_q 265 _ rfl rfl rfl (QOp_pick_f _ _ _ _ rfl rfl rfl) ?_
          refine AOps_nil ?_
          cases h
          exact Weak_keep 0 hm [3, 4, 5, 6, 7, 10, 11, 265] [0] _ _ rfl rfl rfl
    intro E' H' hw
    refine ACode_weak hw ?_
    have h := hks59
    refine ACode_cond _ rfl (fun hb60 => ?_) (fun hb60 => ?_)
    ·have h := iteT hb60 h
     refine ACode_seq (ACode_region ?_)
     refine AOps_q 2 _ rfl rfl rfl (QOp_assign _ _ rfl rfl) ?_
     refine AOps_nil ?_
     refine ACode_ret ?_
     cases h
     have h := hks61
     cases h
     exact ⟨_, _, fun r a w h => ⟨r, h⟩, _, _, [], _, (.cons (ResV_tmp _ _ rfl) .nil), rfl, rfl, rfl, rfl, rfl⟩
    ·have h := iteF hb60 h
     refine ACode_skip ?_
     cases h
     exact ⟨_, rfl, Weak_keep 0 hm [3, 4, 5, 6, 7, 10, 11] [0] _ _ rfl rfl rfl⟩
   ·have h := iteF hb51 h
    refine ACode_skip ?_
    cases h
    exact ⟨_, rfl, Weak_keep 0 hm [3, 4, 5, 6, 7, 10, 11] [0] _ _ rfl rfl rfl⟩
  rintro E' H' ⟨s61, rfl, hw⟩
  refine ACode_weak hw ?_
  have h := hks61
  refine ACode_seq ?_
  refine ACode_seq (ACode_region ?_)
  refine AOps_q 266 _ rfl rfl rfl (QOp_move _ _ rfl rfl) ?_
  refine AOps_q 267 _ rfl rfl rfl (QOp_neq _ _ _ _ _ _ _ rfl rfl rfl) ?_
  refine AOps_nil ?_
  refine ACode_cond _ rfl (fun hb62 => ?_) (fun hb62 => ?_)
  ·have h := iteT hb62 h
   refine ACode_seq (ACode_region ?_)
   refine AOps_q 268 _ rfl rfl rfl (QOp_move _ _ rfl rfl) ?_
   refine AOps_q 269 _ rfl rfl rfl (QOp_len_sl _ _ _ _ _ _ _ (rowsD_length _) rfl rfl rfl rfl Try.underlying45 rfl) ?_
   refine AOps_q 270 _ rfl rfl rfl (QOp_eql _ _ _ _ _ _ _ rfl rfl rfl) ?_
   refine AOps_q 2 _ rfl rfl rfl (QOp_assign _ _ rfl rfl) ?_
   refine AOps_nil ?_
   refine ACode_ret ?_
   cases h
   exact ⟨_, _, fun r a w h => ⟨r, h⟩, _, _, [], _, (.cons (ResV_tmp _ _ rfl) .nil), rfl, rfl, rfl, rfl, rfl⟩
  ·have h := iteF hb62 h
   refine ACode_skip ?_
   obtain ⟨os66, hss66, hks66⟩ := bindO h
   clear h
   refine ACode_seqJ (fun E' H' => ∃ s66 : Unit, os66 = .inl s66 ∧ Weak 314 G E' H' [(3, .ptr 0 0), (4, iV r3.2.1), (5, iV r3.2.2), (6, .d (.sl none (rowsD (r4.1.getD []))))] [.box (colD r3.1)]) ?_ ?_
   ·have h := hss66
    clear hss66
    obtain ⟨s64, hss64, hks64⟩ := letS h
    clear h
    refine ACode_seqJ (fun E' H' => Weak 314 G E' H' [(3, .ptr 0 0), (4, iV r3.2.1), (5, iV r3.2.2), (6, .d (.sl none (rowsD (r4.1.getD [])))), (278, bV s64)] [.box (colD r3.1)]) ?_ ?_
    ·have h := hss64
     clear hss64
     refine (ACode_region ?_)
     refine AOps_q 271 _ rfl rfl rfl (QOp_move _ _ rfl rfl) ?_
     refine AOps_q 272 _ rfl rfl rfl (QOp_neq _ _ _ _ _ _ _ rfl rfl rfl) ?_
     refine AOps_q 273 _ rfl rfl rfl (QOp_move _ _ rfl rfl) ?_
     refine AOps_case 273 _ rfl (fun hb63 => ?_) (fun hb63 => ?_)
     ·have h := iteT hb63 h
      refine AOps_skip 274 rfl rfl rfl ?_
      refine AOps_skip 275 rfl rfl rfl ?_
      refine AOps_skip 276 rfl rfl rfl ?_
      refine AOps_skip 277 rfl rfl rfl ?_
      refine AOps_q 278 _ rfl rfl rfl (QOp_pick_t _ _ _ _ rfl rfl rfl) ?_
      refine AOps_nil ?_
      cases h
      exact Weak_keep 0 hm [3, 4, 5, 6, 278] [0] _ _ rfl rfl rfl
     ·have h := iteF hb63 h
      refine AOps_q 274 _ rfl rfl rfl (QOp_move _ _ rfl rfl) ?_
      refine AOps_q 275 _ rfl rfl rfl (QOp_move _ _ rfl rfl) ?_
      refine AOps_q 276 _ rfl rfl rfl (QOp_len_sl _ _ _ _ _ _ _ (rowsD_length _) rfl rfl rfl rfl Try.underlying45 rfl) ?_
      refine AOps_q 277 _ rfl rfl rfl (QOp_neq _ _ _ _ _ _ _ rfl rfl rfl) ?_
      refine AOps_q 278 _ rfl rfl rfl (QOp_pick_f _ _ _ _ rfl rfl rfl) ?_
      refine AOps_nil ?_
      cases h
      exact Weak_keep 0 hm [3, 4, 5, 6, 278] [0] _ _ rfl rfl rfl
    intro E' H' hw
    refine ACode_weak hw ?_
    have h := hks64
    refine ACode_cond _ rfl (fun hb65 => ?_) (fun hb65 => ?_)
    ·have h := iteT hb65 h
     refine ACode_seq (ACode_region ?_)
     refine AOps_q 2 _ rfl rfl rfl (QOp_assign _ _ rfl rfl) ?_
     refine AOps_nil ?_
     refine ACode_ret ?_
     cases h
     have h := hks66
     cases h
     exact ⟨_, _, fun r a w h => ⟨r, h⟩, _, _, [], _, (.cons (ResV_tmp _ _ rfl) .nil), rfl, rfl, rfl, rfl, rfl⟩
    ·have h := iteF hb65 h
     refine ACode_skip ?_
     cases h
     exact ⟨_, rfl, Weak_keep 0 hm [3, 4, 5, 6] [0] _ _ rfl rfl rfl⟩
   rintro E' H' ⟨s66, rfl, hw⟩
   refine ACode_weak hw ?_
   have h := hks66
   obtain ⟨os80, hss80, hks80⟩ := bindO h
   clear h
   refine ACode_seqJ (fun E' H' => ∃ s80 : Unit, os80 = .inl s80 ∧ Weak 314 G E' H' [] []) ?_ ?_
   ·have h := hss80
    clear hss80
    refine ACode_seq (ACode_region ?_)
    refine AOps_q 45 _ rfl rfl rfl (QOp_assign _ _ rfl rfl) ?_
    refine AOps_nil ?_
    refine ACode_block ?_
    refine ACode_loopW (fun k1 E H => ∃ (x67 : Int), E = [(3, .ptr 0 0), (4, iV r3.2.1), (5, iV r3.2.2), (6, .d (.sl none (rowsD (r4.1.getD [])))), (45, iV x67)] ∧ H = [.box (colD r3.1)] ∧ laws_FnCliques_l1 k r3 r4 k1 x67 = some os80) k _ _ (Weak_keep 0 hm [3, 4, 5, 6, 45] [0] _ _ rfl rfl rfl) ⟨_, rfl, rfl, h⟩ ?_
    clear h
    rintro k1 E H ⟨x67, rfl, rfl, h⟩
    cases k1 with
    | zero => cases (show (none : Option (Sum (Unit) (Bool))) = some _ from h)
    | succ k1 =>
     rw [laws_FnCliques_l1] at h
     obtain ⟨os71, hss71, hks71⟩ := bindO h
     clear h
     refine ACode_seqJ (fun E' H' => ∃ s71 : Unit, os71 = .inl s71 ∧ Weak 314 G E' H' [(3, .ptr 0 0), (4, iV r3.2.1), (5, iV r3.2.2), (6, .d (.sl none (rowsD (r4.1.getD [])))), (45, iV x67)] [.box (colD r3.1)]) ?_ ?_
     ·have h := hss71
      clear hss71
      obtain ⟨s69, hss69, hks69⟩ := letS h
      clear h
      refine ACode_seqJ (fun E' H' => Weak 314 G E' H' [(3, .ptr 0 0), (4, iV r3.2.1), (5, iV r3.2.2), (6, .d (.sl none (rowsD (r4.1.getD [])))), (45, iV x67), (286, bV s69)] [.box (colD r3.1)]) ?_ ?_
      ·have h := hss69
       clear hss69
       refine (ACode_region ?_)
       refine AOps_q 279 _ rfl rfl rfl (QOp_move _ _ rfl rfl) ?_
       refine AOps_q 280 _ rfl rfl rfl (QOp_move _ _ rfl rfl) ?_
       refine AOps_q 281 _ rfl rfl rfl (QOp_len_sl _ _ _ _ _ _ _ (rowsD_length _) rfl rfl rfl rfl Try.underlying45 rfl) ?_
       refine AOps_q 282 _ rfl rfl rfl (QOp_lss _ _ _ _ _ _ _ rfl rfl rfl) ?_
       refine AOps_q 283 _ rfl rfl rfl (QOp_move _ _ rfl rfl) ?_
       refine AOps_case 283 _ rfl (fun hb68 => ?_) (fun hb68 => ?_)
       ·have h := iteT hb68 h
        refine AOps_q 284 _ rfl rfl rfl (QOp_move _ _ rfl rfl) ?_
        refine AOps_q 285 _ rfl rfl rfl (QOp_lss _ _ _ _ _ _ _ rfl rfl rfl) ?_
        refine AOps_q 286 _ rfl rfl rfl (QOp_pick_t _ _ _ _ rfl rfl rfl) ?_
        refine AOps_nil ?_
        cases h
        exact Weak_keep 0 hm [3, 4, 5, 6, 45, 286] [0] _ _ rfl rfl rfl
       ·have h := iteF hb68 h
        refine AOps_skip 284 rfl rfl rfl ?_
        refine AOps_skip 285 rfl rfl rfl ?_
        refine AOps_q 286 _ rfl rfl rfl (QOp_pick_f _ _ _ _ rfl rfl rfl) ?_
        refine AOps_nil ?_
        cases h
        exact Weak_keep 0 hm [3, 4, 5, 6, 45, 286] [0] _ _ rfl rfl rfl
      intro E' H' hw
      refine ACode_weak hw ?_
      have h := hks69
      refine ACode_cond _ rfl (fun hb70 => ?_) (fun hb70 => ?_)
      ·have h := iteT hb70 h
       refine ACode_skip ?_
       cases h
       exact ⟨_, rfl, Weak_keep 0 hm [3, 4, 5, 6, 45] [0] _ _ rfl rfl rfl⟩
      ·have h := iteF hb70 h
       refine ACode_exit ?_
       obtain ⟨rr, hz82, h2⟩ := bindO h
       obtain rfl := Option.some.inj h2
       obtain rfl := Option.some.inj (show some rr = some _ from hks71)
       have h := hz82
       cases h
       exact ⟨_, rfl, Weak_keep 0 hm [] [] _ _ rfl rfl rfl⟩
     rintro E' H' ⟨s71, rfl, hw⟩
     refine ACode_weak hw ?_
     have h := hks71
     obtain ⟨os79, hss79, hks79⟩ := bindO h
     clear h
     refine ACode_seqJ (fun E' H' => ∃ s79 : Unit, os79 = .inl s79 ∧ Weak 314 G E' H' [(3, .ptr 0 0), (4, iV r3.2.1), (5, iV r3.2.2), (6, .d (.sl none (rowsD (r4.1.getD [])))), (45, iV x67)] [.box (colD r3.1)]) ?_ ?_
     ·have h := hss79
      clear hss79
      refine ACode_block ?_
      obtain ⟨hc72, h⟩ := guardO h
      obtain ⟨r73, hr73, h⟩ := bindO h
      refine ACode_seqJ (fun E' H' => Weak 314 G E' H' [(3, .ptr 0 0), (4, iV r3.2.1), (5, iV r3.2.2), (6, .d (.sl none (rowsD (r4.1.getD [])))), (45, iV x67), (46, bV r73.1), (47, iV r73.2)] [.box (colD r3.1)]) ?_ ?_
      ·refine ACode_any mixed ?_
       refine AAny_q 0 290 _ rfl (by kernel_rfl) rfl rfl rfl (QOp_loadN_ptr _ _ _ _ _ _ _ rfl Try.isAgg29 Try.sizeOf29 rfl rfl (colD_all _) (colD_length _)) ?_
       refine AAny_q 1 291 _ rfl (by kernel_rfl) rfl rfl rfl (QOp_move _ _ rfl rfl) ?_
       refine AAny_q 2 292 _ rfl (by kernel_rfl) rfl rfl rfl (QOp_move _ _ rfl rfl) ?_
       refine AAny_q 3 293 _ rfl (by kernel_rfl) rfl rfl rfl (QOp_move _ _ rfl rfl) ?_
       refine AAny_q 4 294 _ rfl (by kernel_rfl) rfl rfl rfl (QOp_indexAddr_sl _ _ _ _ _ _ _ _ rfl Try.underlying45 Try.sizeOf24 hc72.1 (by rw [rowsD_length]; exact hc72.2) rfl rfl) ?_
       refine AAny_q 5 295 _ rfl (by kernel_rfl) rfl rfl rfl (QOp_load_pv _ _ _ _ _ rfl Try.isAgg24 rfl (rowsD_get _ _ [] (by omega))) ?_
       refine AAny_all [6] (by kernel_rfl) rfl (allc ?_ (fun _ h => nomatch h))
       ·refine AStep_callN 6 296 _ _ _ _ _ _ _ _ _ rfl rfl rfl rfl rfl rfl rfl rfl Try.call35 rfl rfl rfl (impl_IsClique_ac k r3.1 r3.2.1 ((r4.1.getD []).getD x67.toNat []) _ hr73) ?_
        rintro _ _ ⟨rfl, rfl⟩
        refine ⟨(fun _ h => nomatch h), (allc (trivial) (allc (trivial) (fun _ h => nomatch h))), AAny_as 296 (v' := .tup [bV r73.1, iV r73.2]) (H' := [.box (colD r3.1)]) rfl rfl ?_⟩
        refine AAny_q 7 289 _ rfl (by kernel_rfl) rfl rfl rfl (QOp_move _ _ rfl rfl) ?_
        refine AAny_q 8 297 _ rfl (by kernel_rfl) rfl rfl rfl (QOp_extract _ _ _ _ rfl rfl rfl) ?_
        refine AAny_q 9 298 _ rfl (by kernel_rfl) rfl rfl rfl (QOp_extract _ _ _ _ rfl rfl rfl) ?_
        refine AAny_q 10 46 _ rfl (by kernel_rfl) rfl rfl rfl (QOp_assign _ _ rfl rfl) ?_
        refine AAny_q 11 47 _ rfl (by kernel_rfl) rfl rfl rfl (QOp_assign _ _ rfl rfl) ?_
        refine AAny_done (by kernel_rfl) ?_
        exact Weak_keep 0 hm [3, 4, 5, 6, 45, 46, 47] [0] _ _ rfl rfl rfl
      intro E' H' hw
      refine ACode_weak hw ?_
      obtain ⟨s77, hss77, hks77⟩ := bindO h
      clear h
      refine ACode_seqJ (fun E' H' => Weak 314 G E' H' [(3, .ptr 0 0), (4, iV r3.2.1), (5, iV r3.2.2), (6, .d (.sl none (rowsD (r4.1.getD [])))), (45, iV x67), (313, bV s77)] [.box (colD r3.1)]) ?_ ?_
      ·have h := hss77
       clear hss77
       refine (ACode_region ?_)
       refine AOps_q 299 _ rfl rfl rfl (QOp_move _ _ rfl rfl) ?_
       refine AOps_q 300 _ rfl rfl rfl (QOp_neq _ _ _ _ _ _ _ rfl rfl rfl) ?_
       refine AOps_q 301 _ rfl rfl rfl (QOp_move _ _ rfl rfl) ?_
       refine AOps_case 301 _ rfl (fun hb74 => ?_) (fun hb74 => ?_)
       ·have h := iteT hb74 h
        refine AOps_skip 302 rfl rfl rfl ?_
        refine AOps_skip 303 rfl rfl rfl ?_
        refine AOps_q 304 _ rfl rfl rfl (QOp_pick_t _ _ _ _ rfl rfl rfl) ?_
        refine AOps_q 305 _ rfl rfl rfl (QOp_move _ _ rfl rfl) ?_
        refine AOps_skip 306 rfl rfl rfl ?_
        refine AOps_skip 307 rfl rfl rfl ?_
        refine AOps_skip 308 rfl rfl rfl ?_
        refine AOps_skip 309 rfl rfl rfl ?_
        refine AOps_skip 310 rfl rfl rfl ?_
        refine AOps_skip 311 rfl rfl rfl ?_
        refine AOps_skip 312 rfl rfl rfl ?_
        refine AOps_q 313 _ rfl rfl rfl (QOp_pick_t _ _ _ _ rfl rfl rfl) ?_
        refine AOps_nil ?_
        cases h
        exact Weak_keep 0 hm [3, 4, 5, 6, 45, 313] [0] _ _ rfl rfl rfl
       ·have h := iteF hb74 h
        refine AOps_q 302 _ rfl rfl rfl (QOp_move _ _ rfl rfl) ?_
        refine AOps_q 303 _ rfl rfl rfl (QOp_not _ _ _ rfl rfl) ?_
        refine AOps_q 304 _ rfl rfl rfl (QOp_pick_f _ _ _ _ rfl rfl rfl) ?_
        refine AOps_q 305 _ rfl rfl rfl (QOp_move _ _ rfl rfl) ?_
        refine AOps_case 305 _ rfl (fun hb75 => ?_) (fun hb75 => ?_)
        ·have h := iteT hb75 h
         refine AOps_skip 306 rfl rfl rfl ?_
         refine AOps_skip 307 rfl rfl rfl ?_
         refine AOps_skip 308 rfl rfl rfl ?_
         refine AOps_skip 309 rfl rfl rfl ?_
         refine AOps_skip 310 rfl rfl rfl ?_
         refine AOps_skip 311 rfl rfl rfl ?_
         refine AOps_skip 312 rfl rfl rfl ?_
         refine AOps_q 313 _ rfl rfl rfl (QOp_pick_t _ _ _ _ rfl rfl rfl) ?_
         refine AOps_nil ?_
         cases h
         exact Weak_keep 0 hm [3, 4, 5, 6, 45, 313] [0] _ _ rfl rfl rfl
        ·have h := iteF hb75 h
         refine AOps_q 306 _ rfl rfl rfl (QOp_move _ _ rfl rfl) ?_
         refine AOps_q 307 _ rfl rfl rfl (QOp_move _ _ rfl rfl) ?_
         obtain ⟨hc76, h⟩ := guardO h
         refine AOps_q 308 _ rfl rfl rfl (QOp_indexAddr_sl _ _ _ _ _ _ _ _ rfl Try.underlying45 Try.sizeOf24 hc76.1 (by rw [rowsD_length]; exact hc76.2) rfl rfl) ?_
         refine AOps_q 309 _ rfl rfl rfl (QOp_load_pv _ _ _ _ _ rfl Try.isAgg24 rfl (rowsD_get _ _ [] (by omega))) ?_
         refine AOps_q 310 _ rfl rfl rfl (QOp_len_sl _ _ _ _ _ _ _ (intsD_length _) rfl rfl rfl rfl Try.underlying24 rfl) ?_
         refine AOps_q 311 _ rfl rfl rfl (QOp_move _ _ rfl rfl) ?_
         refine AOps_q 312 _ rfl rfl rfl (QOp_neq _ _ _ _ _ _ _ rfl rfl rfl) ?_
         refine AOps_q 313 _ rfl rfl rfl (QOp_pick_f _ _ _ _ rfl rfl rfl) ?_
         refine AOps_nil ?_
         cases h
         exact Weak_keep 0 hm [3, 4, 5, 6, 45, 313] [0] _ _ rfl rfl rfl
      intro E' H' hw
      refine ACode_weak hw ?_
      have h := hks77
      refine ACode_cond _ rfl (fun hb78 => ?_) (fun hb78 => ?_)
      ·have h := iteT hb78 h
       refine ACode_seq (ACode_region ?_)
       refine AOps_q 2 _ rfl rfl rfl (QOp_assign _ _ rfl rfl) ?_
       refine AOps_nil ?_
       refine ACode_ret ?_
       obtain ⟨rr, hz83, h2⟩ := bindO h
       obtain rfl := Option.some.inj h2
       obtain rfl := Option.some.inj (show some rr = some _ from hks79)
       have h := hz83
       cases h
       have h := hks80
       cases h
       exact ⟨_, _, fun r a w h => ⟨r, h⟩, _, _, [], _, (.cons (ResV_tmp _ _ rfl) .nil), rfl, rfl, rfl, rfl, rfl⟩
      ·have h := iteF hb78 h
       refine ACode_skip ?_
       cases h
       exact ⟨_, rfl, Weak_keep 0 hm [3, 4, 5, 6, 45] [0] _ _ rfl rfl rfl⟩
     rintro E' H' ⟨s79, rfl, hw⟩
     refine ACode_weak hw ?_
     have h := hks79
     refine (ACode_region ?_)
     refine AOps_q 287 _ rfl rfl rfl (QOp_move _ _ rfl rfl) ?_
     refine AOps_q 288 _ rfl rfl rfl (QOp_add _ _ _ _ _ _ _ rfl rfl rfl) ?_
     refine AOps_q 45 _ rfl rfl rfl (QOp_assign _ _ rfl rfl) ?_
     refine AOps_nil ?_
     exact ⟨k1, _, _, Nat.lt_succ_self _, Weak_keep 0 hm [3, 4, 5, 6, 45] [0] _ _ rfl rfl rfl, _, rfl, rfl, h⟩
   rintro E' H' ⟨s80, rfl, hw⟩
   refine ACode_weak hw ?_
   have h := hks80
   refine ACode_seq (ACode_region ?_)
   refine AOps_q 2 _ rfl rfl rfl (QOp_assign _ _ rfl rfl) ?_
   refine AOps_nil ?_
   refine ACode_ret ?_
   cases h
   exact ⟨_, _, fun r a w h => ⟨r, h⟩, _, _, [], _, (.cons (ResV_tmp _ _ rfl) .nil), rfl, rfl, rfl, rfl, rfl⟩

end Go.Proofs.Ytfoijbdnkkaceaa
