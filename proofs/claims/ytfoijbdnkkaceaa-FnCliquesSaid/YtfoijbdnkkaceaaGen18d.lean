/- Plain functions of the program and that the program computes them: printed by the own tool gen.py. No conditions. -/
import Derived.Test.YtfoijbdnkkaceaaGen18c
set_option linter.unusedVariables false
set_option linter.unusedSimpArgs false
namespace Go.Proofs.Ytfoijbdnkkaceaa
open Go Go.RowKit Ab

-- loop.example/g01362/spec.l02List
def spec_l02List (k : Nat) (p0 : Col) (p1 : Int) (p2 : Int) (p3 : Int) : Option (List (List Int)) :=
 (spec_l02Rows k p0 p1).bind fun r1 => (if 0 ≤ IntKind.u64.wrap p0.p then (spec_l02Go k r1 ([] : List Int) (w64 ((bShl .i64 1 (IntKind.u64.wrap p0.p)) - 1)) p2 ([] : List (List Int)) p3).bind fun r3 => some r3 else none)
set_option maxRecDepth 100000 in
theorem spec_l02List_ac (k : Nat) (p0 : Col) (p1 : Int) (p2 : Int) (p3 : Int) (r : List (List Int)) (h : spec_l02List k p0 p1 p2 p3 = some r) : AC Try.prog 108 [.d (.agg (colD p0)), iV p1, iV p2, iV p3] [] (fun res H' => res = [.vec 0 0] ∧ H' = [.vec 0 (rowsD r)]) := by
 refine AC_of_body true Try.func108 rfl Try.ntmps108 (rvs := [.tmp 8]) rfl rfl (fun G hG => ?_)
 have hm : G.H.length = 0 := by rw [hG]; rfl
 have hz : zeroG G.H = true := by rw [hG]; rfl
 unfold spec_l02List at h
 refine ACode_seq (ACode_region ?_)
 refine AOps_boxI 4 _ _ (.agg (colD p0)) (colD p0) rfl (colD_one _) rfl rfl rfl rfl rfl ?_
 refine AOps_q 8 _ rfl rfl rfl (QOp_assign _ _ rfl rfl) ?_
 refine AOps_nil ?_
 obtain ⟨r1, hr1, h⟩ := bindO h
 obtain ⟨hc2, h⟩ := guardO h
 obtain ⟨r3, hr3, h⟩ := bindO h
 refine ACode_seq (ACode_reg [(8, .vec 0 0)] [.vec 0 (rowsD r3)] ?_ ?_)
 ·refine ACode_anyU mixed ?_
  refine AU_u 1 10 _ rfl (by kernel_rfl) rfl rfl rfl (UOp_move _ _ rfl rfl) ?_
  refine AU_u 4 13 _ rfl (by kernel_rfl) rfl rfl rfl (UOp_fieldAddr_pv _ _ _ _ _ 0 _ _ rfl Try.underlying29 rfl _ Try.sizeOf2 rfl rfl) ?_
  refine AU_u 9 18 _ rfl (by kernel_rfl) rfl rfl rfl (UOp_move _ _ rfl rfl) ?_
  refine AU_u 11 20 _ rfl (by kernel_rfl) rfl rfl rfl (UOp_move _ _ rfl rfl) ?_
  refine AU_all [0, 3, 5, 10] (by kernel_rfl) rfl (allc ?_ (allc ?_ (allc ?_ (allc ?_ (fun _ h => nomatch h)))))
  ·refine US_of 0 rfl rfl ?_
   refine AOps_q 9 _ rfl rfl rfl (QOp_loadN_pv _ _ _ _ _ _ rfl Try.isAgg29 Try.sizeOf29 rfl (colD_all _) (colD_length _)) ?_
   refine AOps_nil ?_
   refine AU_all [2, 3, 5, 10] (by kernel_rfl) rfl (allc ?_ (allc ?_ (allc ?_ (allc ?_ (fun _ h => nomatch h)))))
   ·refine US_of 2 rfl rfl ?_
    refine AOps_call [] 11 _ _ _ _ _ _ _ _ _ _ rfl rfl rfl rfl rfl rfl rfl Try.call113 rfl (nodupB_sound _ rfl) rfl rfl rfl (spec_l02Rows_ac k p0 p1 _ hr1) ?_
    rintro _ _ ⟨rfl, rfl⟩
    refine ⟨(allc (fun _ _ => trivial) (fun _ h => nomatch h)), (allc (trivial) (fun _ h => nomatch h)), AOps_as 11 (v' := .vec 0 0) (H' := [.vec 0 (intsD r1)]) rfl rfl ?_⟩
    refine AOps_nil ?_
    refine AU_all [3, 5, 10] (by kernel_rfl) rfl (allc ?_ (allc ?_ (allc ?_ (fun _ h => nomatch h))))
    ·refine US_of 3 rfl rfl ?_
     refine AOps_buildSlice 12 _ _ _ [] (intsD ([] : List Int)) _ rfl rfl rfl rfl rfl (by decide) Try.underlying24 Try.sizeOf2 (zero_of Try.typeInfo2 rfl) rfl rfl (intsD_one _) ?_
     refine AOps_nil ?_
     refine AU_all [5, 10] (by kernel_rfl) rfl (allc ?_ (allc ?_ (fun _ h => nomatch h)))
     ·refine US_of 5 rfl rfl ?_
      refine AOps_q 14 _ rfl rfl rfl (QOp_load_pv _ _ _ _ _ rfl Try.isAgg2 rfl rfl) ?_
      refine AOps_nil ?_
      refine AU_u 6 15 _ rfl (by kernel_rfl) rfl rfl rfl (UOp_conv _ _ _ _ _ _ rfl rfl Try.underlying106 rfl) ?_
      refine AU_u 7 16 _ rfl (by kernel_rfl) rfl rfl rfl (UOp_shl _ _ _ _ _ _ _ _ hc2 rfl rfl rfl) ?_
      refine AU_u 8 17 _ rfl (by kernel_rfl) rfl rfl rfl (UOp_sub _ _ _ _ _ _ _ rfl rfl rfl) ?_
      refine AU_all [10] (by kernel_rfl) rfl (allc ?_ (fun _ h => nomatch h))
      ·refine US_of 10 rfl rfl ?_
       refine AOps_buildSlice 19 _ _ _ [] (rowsD ([] : List (List Int))) _ rfl rfl rfl rfl rfl (by decide) Try.underlying45 Try.sizeOf24 (zero_of Try.typeInfo24 rfl) rfl rfl (rowsD_one _) ?_
       refine AOps_nil ?_
       refine AU_all [12] (by kernel_rfl) rfl (allc ?_ (fun _ h => nomatch h))
       ·refine US_of 12 rfl rfl ?_
        refine AOps_freezeL [11] 0 0 _ (allc (rfl) (fun _ h => nomatch h)) rfl ?_
        refine AOps_freezeL [12] 1 0 _ (allc (rfl) (fun _ h => nomatch h)) rfl ?_
        refine AOps_call [2] 21 _ _ _ _ _ _ _ _ _ _ rfl rfl rfl rfl rfl rfl rfl Try.call193 rfl (nodupB_sound _ rfl) rfl rfl rfl (spec_l02Go_ac k r1 ([] : List Int) (w64 ((bShl .i64 1 (IntKind.u64.wrap p0.p)) - 1)) p2 ([] : List (List Int)) p3 _ hr3) ?_
        rintro _ _ ⟨rfl, rfl⟩
        refine ⟨(allc (fun _ _ => trivial) (fun _ h => nomatch h)), (allc (trivial) (fun _ h => nomatch h)), AOps_as 21 (v' := .vec 2 1) (H' := [.gone, .gone, .vec 1 (rowsD r3)]) rfl rfl ?_⟩
        refine AOps_nil ?_
        refine AU_u 13 8 _ rfl (by kernel_rfl) rfl rfl rfl (UOp_assign _ _ rfl rfl) ?_
        refine AU_done (by kernel_rfl) ?_
        exact ⟨rfl, Weak_trans (Weak_keep 0 hm [8] [2] _ _ rfl rfl rfl) (Weak_reset 0 hm hz [8] _ _ rfl rfl)⟩
     ·refine US_of 10 rfl rfl ?_
      refine AOps_buildSlice 19 _ _ _ [] (rowsD ([] : List (List Int))) _ rfl rfl rfl rfl rfl (by decide) Try.underlying45 Try.sizeOf24 (zero_of Try.typeInfo24 rfl) rfl rfl (rowsD_one _) ?_
      refine AOps_nil ?_
      refine AU_all [5] (by kernel_rfl) rfl (allc ?_ (fun _ h => nomatch h))
      ·refine US_of 5 rfl rfl ?_
       refine AOps_q 14 _ rfl rfl rfl (QOp_load_pv _ _ _ _ _ rfl Try.isAgg2 rfl rfl) ?_
       refine AOps_nil ?_
       refine AU_u 6 15 _ rfl (by kernel_rfl) rfl rfl rfl (UOp_conv _ _ _ _ _ _ rfl rfl Try.underlying106 rfl) ?_
       refine AU_u 7 16 _ rfl (by kernel_rfl) rfl rfl rfl (UOp_shl _ _ _ _ _ _ _ _ hc2 rfl rfl rfl) ?_
       refine AU_u 8 17 _ rfl (by kernel_rfl) rfl rfl rfl (UOp_sub _ _ _ _ _ _ _ rfl rfl rfl) ?_
       refine AU_all [12] (by kernel_rfl) rfl (allc ?_ (fun _ h => nomatch h))
       ·refine US_of 12 rfl rfl ?_
        refine AOps_freezeL [11] 0 0 _ (allc (rfl) (fun _ h => nomatch h)) rfl ?_
        refine AOps_freezeL [12] 1 0 _ (allc (rfl) (fun _ h => nomatch h)) rfl ?_
        refine AOps_call [2] 21 _ _ _ _ _ _ _ _ _ _ rfl rfl rfl rfl rfl rfl rfl Try.call193 rfl (nodupB_sound _ rfl) rfl rfl rfl (spec_l02Go_ac k r1 ([] : List Int) (w64 ((bShl .i64 1 (IntKind.u64.wrap p0.p)) - 1)) p2 ([] : List (List Int)) p3 _ hr3) ?_
        rintro _ _ ⟨rfl, rfl⟩
        refine ⟨(allc (fun _ _ => trivial) (fun _ h => nomatch h)), (allc (trivial) (fun _ h => nomatch h)), AOps_as 21 (v' := .vec 2 1) (H' := [.gone, .gone, .vec 1 (rowsD r3)]) rfl rfl ?_⟩
        refine AOps_nil ?_
        refine AU_u 13 8 _ rfl (by kernel_rfl) rfl rfl rfl (UOp_assign _ _ rfl rfl) ?_
        refine AU_done (by kernel_rfl) ?_
        exact ⟨rfl, Weak_trans (Weak_keep 0 hm [8] [2] _ _ rfl rfl rfl) (Weak_reset 0 hm hz [8] _ _ rfl rfl)⟩
    ·refine US_of 5 rfl rfl ?_
     refine AOps_q 14 _ rfl rfl rfl (QOp_load_pv _ _ _ _ _ rfl Try.isAgg2 rfl rfl) ?_
     refine AOps_nil ?_
     refine AU_u 6 15 _ rfl (by kernel_rfl) rfl rfl rfl (UOp_conv _ _ _ _ _ _ rfl rfl Try.underlying106 rfl) ?_
     refine AU_u 7 16 _ rfl (by kernel_rfl) rfl rfl rfl (UOp_shl _ _ _ _ _ _ _ _ hc2 rfl rfl rfl) ?_
     refine AU_u 8 17 _ rfl (by kernel_rfl) rfl rfl rfl (UOp_sub _ _ _ _ _ _ _ rfl rfl rfl) ?_
     refine AU_all [3, 10] (by kernel_rfl) rfl (allc ?_ (allc ?_ (fun _ h => nomatch h)))
     ·refine US_of 3 rfl rfl ?_
      refine AOps_buildSlice 12 _ _ _ [] (intsD ([] : List Int)) _ rfl rfl rfl rfl rfl (by decide) Try.underlying24 Try.sizeOf2 (zero_of Try.typeInfo2 rfl) rfl rfl (intsD_one _) ?_
      refine AOps_nil ?_
      refine AU_all [10] (by kernel_rfl) rfl (allc ?_ (fun _ h => nomatch h))
      ·refine US_of 10 rfl rfl ?_
       refine AOps_buildSlice 19 _ _ _ [] (rowsD ([] : List (List Int))) _ rfl rfl rfl rfl rfl (by decide) Try.underlying45 Try.sizeOf24 (zero_of Try.typeInfo24 rfl) rfl rfl (rowsD_one _) ?_
       refine AOps_nil ?_
       refine AU_all [12] (by kernel_rfl) rfl (allc ?_ (fun _ h => nomatch h))
       ·refine US_of 12 rfl rfl ?_
        refine AOps_freezeL [11] 0 0 _ (allc (rfl) (fun _ h => nomatch h)) rfl ?_
        refine AOps_freezeL [12] 1 0 _ (allc (rfl) (fun _ h => nomatch h)) rfl ?_
        refine AOps_call [2] 21 _ _ _ _ _ _ _ _ _ _ rfl rfl rfl rfl rfl rfl rfl Try.call193 rfl (nodupB_sound _ rfl) rfl rfl rfl (spec_l02Go_ac k r1 ([] : List Int) (w64 ((bShl .i64 1 (IntKind.u64.wrap p0.p)) - 1)) p2 ([] : List (List Int)) p3 _ hr3) ?_
        rintro _ _ ⟨rfl, rfl⟩
        refine ⟨(allc (fun _ _ => trivial) (fun _ h => nomatch h)), (allc (trivial) (fun _ h => nomatch h)), AOps_as 21 (v' := .vec 2 1) (H' := [.gone, .gone, .vec 1 (rowsD r3)]) rfl rfl ?_⟩
        refine AOps_nil ?_
        refine AU_u 13 8 _ rfl (by kernel_rfl) rfl rfl rfl (UOp_assign _ _ rfl rfl) ?_
        refine AU_done (by kernel_rfl) ?_
        exact ⟨rfl, Weak_trans (Weak_keep 0 hm [8] [2] _ _ rfl rfl rfl) (Weak_reset 0 hm hz [8] _ _ rfl rfl)⟩
     ·refine US_of 10 rfl rfl ?_
      refine AOps_buildSlice 19 _ _ _ [] (rowsD ([] : List (List Int))) _ rfl rfl rfl rfl rfl (by decide) Try.underlying45 Try.sizeOf24 (zero_of Try.typeInfo24 rfl) rfl rfl (rowsD_one _) ?_
      refine AOps_nil ?_
      refine AU_all [3] (by kernel_rfl) rfl (allc ?_ (fun _ h => nomatch h))
      ·refine US_of 3 rfl rfl ?_
       refine AOps_buildSlice 12 _ _ _ [] (intsD ([] : List Int)) _ rfl rfl rfl rfl rfl (by decide) Try.underlying24 Try.sizeOf2 (zero_of Try.typeInfo2 rfl) rfl rfl (intsD_one _) ?_
       refine AOps_nil ?_
       refine AU_all [12] (by kernel_rfl) rfl (allc ?_ (fun _ h => nomatch h))
       ·refine US_of 12 rfl rfl ?_
        refine AOps_freezeL [11] 0 0 _ (allc (rfl) (fun _ h => nomatch h)) rfl ?_
        refine AOps_freezeL [12] 2 0 _ (allc (rfl) (fun _ h => nomatch h)) rfl ?_
        refine AOps_call [1] 21 _ _ _ _ _ _ _ _ _ _ rfl rfl rfl rfl rfl rfl rfl Try.call193 rfl (nodupB_sound _ rfl) rfl rfl rfl (spec_l02Go_ac k r1 ([] : List Int) (w64 ((bShl .i64 1 (IntKind.u64.wrap p0.p)) - 1)) p2 ([] : List (List Int)) p3 _ hr3) ?_
        rintro _ _ ⟨rfl, rfl⟩
        refine ⟨(allc (fun _ _ => trivial) (fun _ h => nomatch h)), (allc (trivial) (fun _ h => nomatch h)), AOps_as 21 (v' := .vec 1 1) (H' := [.gone, .vec 1 (rowsD r3), .gone]) rfl rfl ?_⟩
        refine AOps_nil ?_
        refine AU_u 13 8 _ rfl (by kernel_rfl) rfl rfl rfl (UOp_assign _ _ rfl rfl) ?_
        refine AU_done (by kernel_rfl) ?_
        exact ⟨rfl, Weak_trans (Weak_keep 0 hm [8] [1] _ _ rfl rfl rfl) (Weak_reset 0 hm hz [8] _ _ rfl rfl)⟩
    ·refine US_of 10 rfl rfl ?_
     refine AOps_buildSlice 19 _ _ _ [] (rowsD ([] : List (List Int))) _ rfl rfl rfl rfl rfl (by decide) Try.underlying45 Try.sizeOf24 (zero_of Try.typeInfo24 rfl) rfl rfl (rowsD_one _) ?_
     refine AOps_nil ?_
     refine AU_all [3, 5] (by kernel_rfl) rfl (allc ?_ (allc ?_ (fun _ h => nomatch h)))
     ·refine US_of 3 rfl rfl ?_
      refine AOps_buildSlice 12 _ _ _ [] (intsD ([] : List Int)) _ rfl rfl rfl rfl rfl (by decide) Try.underlying24 Try.sizeOf2 (zero_of Try.typeInfo2 rfl) rfl rfl (intsD_one _) ?_
      refine AOps_nil ?_
      refine AU_all [5] (by kernel_rfl) rfl (allc ?_ (fun _ h => nomatch h))
      ·refine US_of 5 rfl rfl ?_
       refine AOps_q 14 _ rfl rfl rfl (QOp_load_pv _ _ _ _ _ rfl Try.isAgg2 rfl rfl) ?_
       refine AOps_nil ?_
       refine AU_u 6 15 _ rfl (by kernel_rfl) rfl rfl rfl (UOp_conv _ _ _ _ _ _ rfl rfl Try.underlying106 rfl) ?_
       refine AU_u 7 16 _ rfl (by kernel_rfl) rfl rfl rfl (UOp_shl _ _ _ _ _ _ _ _ hc2 rfl rfl rfl) ?_
       refine AU_u 8 17 _ rfl (by kernel_rfl) rfl rfl rfl (UOp_sub _ _ _ _ _ _ _ rfl rfl rfl) ?_
       refine AU_all [12] (by kernel_rfl) rfl (allc ?_ (fun _ h => nomatch h))
       ·refine US_of 12 rfl rfl ?_
        refine AOps_freezeL [11] 0 0 _ (allc (rfl) (fun _ h => nomatch h)) rfl ?_
        refine AOps_freezeL [12] 2 0 _ (allc (rfl) (fun _ h => nomatch h)) rfl ?_
        refine AOps_call [1] 21 _ _ _ _ _ _ _ _ _ _ rfl rfl rfl rfl rfl rfl rfl Try.call193 rfl (nodupB_sound _ rfl) rfl rfl rfl (spec_l02Go_ac k r1 ([] : List Int) (w64 ((bShl .i64 1 (IntKind.u64.wrap p0.p)) - 1)) p2 ([] : List (List Int)) p3 _ hr3) ?_
        rintro _ _ ⟨rfl, rfl⟩
        refine ⟨(allc (fun _ _ => trivial) (fun _ h => nomatch h)), (allc (trivial) (fun _ h => nomatch h)), AOps_as 21 (v' := .vec 1 1) (H' := [.gone, .vec 1 (rowsD r3), .gone]) rfl rfl ?_⟩
        refine AOps_nil ?_
        refine AU_u 13 8 _ rfl (by kernel_rfl) rfl rfl rfl (UOp_assign _ _ rfl rfl) ?_
        refine AU_done (by kernel_rfl) ?_
        exact ⟨rfl, Weak_trans (Weak_keep 0 hm [8] [1] _ _ rfl rfl rfl) (Weak_reset 0 hm hz [8] _ _ rfl rfl)⟩
     ·refine US_of 5 rfl rfl ?_
      refine AOps_q 14 _ rfl rfl rfl (QOp_load_pv _ _ _ _ _ rfl Try.isAgg2 rfl rfl) ?_
      refine AOps_nil ?_
      refine AU_u 6 15 _ rfl (by kernel_rfl) rfl rfl rfl (UOp_conv _ _ _ _ _ _ rfl rfl Try.underlying106 rfl) ?_
      refine AU_u 7 16 _ rfl (by kernel_rfl) rfl rfl rfl (UOp_shl _ _ _ _ _ _ _ _ hc2 rfl rfl rfl) ?_
      refine AU_u 8 17 _ rfl (by kernel_rfl) rfl rfl rfl (UOp_sub _ _ _ _ _ _ _ rfl rfl rfl) ?_
      refine AU_all [3] (by kernel_rfl) rfl (allc ?_ (fun _ h => nomatch h))
      ·refine US_of 3 rfl rfl ?_
       refine AOps_buildSlice 12 _ _ _ [] (intsD ([] : List Int)) _ rfl rfl rfl rfl rfl (by decide) Try.underlying24 Try.sizeOf2 (zero_of Try.typeInfo2 rfl) rfl rfl (intsD_one _) ?_
       refine AOps_nil ?_
       refine AU_all [12] (by kernel_rfl) rfl (allc ?_ (fun _ h => nomatch h))
       ·refine US_of 12 rfl rfl ?_
        refine AOps_freezeL [11] 0 0 _ (allc (rfl) (fun _ h => nomatch h)) rfl ?_
        refine AOps_freezeL [12] 2 0 _ (allc (rfl) (fun _ h => nomatch h)) rfl ?_
        refine AOps_call [1] 21 _ _ _ _ _ _ _ _ _ _ rfl rfl rfl rfl rfl rfl rfl Try.call193 rfl (nodupB_sound _ rfl) rfl rfl rfl (spec_l02Go_ac k r1 ([] : List Int) (w64 ((bShl .i64 1 (IntKind.u64.wrap p0.p)) - 1)) p2 ([] : List (List Int)) p3 _ hr3) ?_
        rintro _ _ ⟨rfl, rfl⟩
        refine ⟨(allc (fun _ _ => trivial) (fun _ h => nomatch h)), (allc (trivial) (fun _ h => nomatch h)), AOps_as 21 (v' := .vec 1 1) (H' := [.gone, .vec 1 (rowsD r3), .gone]) rfl rfl ?_⟩
        refine AOps_nil ?_
        refine AU_u 13 8 _ rfl (by kernel_rfl) rfl rfl rfl (UOp_assign _ _ rfl rfl) ?_
        refine AU_done (by kernel_rfl) ?_
        exact ⟨rfl, Weak_trans (Weak_keep 0 hm [8] [1] _ _ rfl rfl rfl) (Weak_reset 0 hm hz [8] _ _ rfl rfl)⟩
   ·refine US_of 3 rfl rfl ?_
    refine AOps_buildSlice 12 _ _ _ [] (intsD ([] : List Int)) _ rfl rfl rfl rfl rfl (by decide) Try.underlying24 Try.sizeOf2 (zero_of Try.typeInfo2 rfl) rfl rfl (intsD_one _) ?_
    refine AOps_nil ?_
    refine AU_all [2, 5, 10] (by kernel_rfl) rfl (allc ?_ (allc ?_ (allc ?_ (fun _ h => nomatch h))))
    ·refine US_of 2 rfl rfl ?_
     refine AOps_call [] 11 _ _ _ _ _ _ _ _ _ _ rfl rfl rfl rfl rfl rfl rfl Try.call113 rfl (nodupB_sound _ rfl) rfl rfl rfl (spec_l02Rows_ac k p0 p1 _ hr1) ?_
     rintro _ _ ⟨rfl, rfl⟩
     refine ⟨(allc (fun _ _ => trivial) (fun _ h => nomatch h)), (allc (trivial) (fun _ h => nomatch h)), AOps_as 11 (v' := .vec 1 0) (H' := [.vec 0 (intsD ([] : List Int)), .vec 0 (intsD r1)]) rfl rfl ?_⟩
     refine AOps_nil ?_
     refine AU_all [5, 10] (by kernel_rfl) rfl (allc ?_ (allc ?_ (fun _ h => nomatch h)))
     ·refine US_of 5 rfl rfl ?_
      refine AOps_q 14 _ rfl rfl rfl (QOp_load_pv _ _ _ _ _ rfl Try.isAgg2 rfl rfl) ?_
      refine AOps_nil ?_
      refine AU_u 6 15 _ rfl (by kernel_rfl) rfl rfl rfl (UOp_conv _ _ _ _ _ _ rfl rfl Try.underlying106 rfl) ?_
      refine AU_u 7 16 _ rfl (by kernel_rfl) rfl rfl rfl (UOp_shl _ _ _ _ _ _ _ _ hc2 rfl rfl rfl) ?_
      refine AU_u 8 17 _ rfl (by kernel_rfl) rfl rfl rfl (UOp_sub _ _ _ _ _ _ _ rfl rfl rfl) ?_
      refine AU_all [10] (by kernel_rfl) rfl (allc ?_ (fun _ h => nomatch h))
      ·refine US_of 10 rfl rfl ?_
       refine AOps_buildSlice 19 _ _ _ [] (rowsD ([] : List (List Int))) _ rfl rfl rfl rfl rfl (by decide) Try.underlying45 Try.sizeOf24 (zero_of Try.typeInfo24 rfl) rfl rfl (rowsD_one _) ?_
       refine AOps_nil ?_
       refine AU_all [12] (by kernel_rfl) rfl (allc ?_ (fun _ h => nomatch h))
       ·refine US_of 12 rfl rfl ?_
        refine AOps_freezeL [12] 0 0 _ (allc (rfl) (fun _ h => nomatch h)) rfl ?_
        refine AOps_freezeL [11] 1 0 _ (allc (rfl) (fun _ h => nomatch h)) rfl ?_
        refine AOps_call [2] 21 _ _ _ _ _ _ _ _ _ _ rfl rfl rfl rfl rfl rfl rfl Try.call193 rfl (nodupB_sound _ rfl) rfl rfl rfl (spec_l02Go_ac k r1 ([] : List Int) (w64 ((bShl .i64 1 (IntKind.u64.wrap p0.p)) - 1)) p2 ([] : List (List Int)) p3 _ hr3) ?_
        rintro _ _ ⟨rfl, rfl⟩
        refine ⟨(allc (fun _ _ => trivial) (fun _ h => nomatch h)), (allc (trivial) (fun _ h => nomatch h)), AOps_as 21 (v' := .vec 2 1) (H' := [.gone, .gone, .vec 1 (rowsD r3)]) rfl rfl ?_⟩
        refine AOps_nil ?_
        refine AU_u 13 8 _ rfl (by kernel_rfl) rfl rfl rfl (UOp_assign _ _ rfl rfl) ?_
        refine AU_done (by kernel_rfl) ?_
        exact ⟨rfl, Weak_trans (Weak_keep 0 hm [8] [2] _ _ rfl rfl rfl) (Weak_reset 0 hm hz [8] _ _ rfl rfl)⟩
     ·refine US_of 10 rfl rfl ?_
      refine AOps_buildSlice 19 _ _ _ [] (rowsD ([] : List (List Int))) _ rfl rfl rfl rfl rfl (by decide) Try.underlying45 Try.sizeOf24 (zero_of Try.typeInfo24 rfl) rfl rfl (rowsD_one _) ?_
      refine AOps_nil ?_
      refine AU_all [5] (by kernel_rfl) rfl (allc ?_ (fun _ h => nomatch h))
      ·refine US_of 5 rfl rfl ?_
       refine AOps_q 14 _ rfl rfl rfl (QOp_load_pv _ _ _ _ _ rfl Try.isAgg2 rfl rfl) ?_
       refine AOps_nil ?_
       refine AU_u 6 15 _ rfl (by kernel_rfl) rfl rfl rfl (UOp_conv _ _ _ _ _ _ rfl rfl Try.underlying106 rfl) ?_
       refine AU_u 7 16 _ rfl (by kernel_rfl) rfl rfl rfl (UOp_shl _ _ _ _ _ _ _ _ hc2 rfl rfl rfl) ?_
       refine AU_u 8 17 _ rfl (by kernel_rfl) rfl rfl rfl (UOp_sub _ _ _ _ _ _ _ rfl rfl rfl) ?_
       refine AU_all [12] (by kernel_rfl) rfl (allc ?_ (fun _ h => nomatch h))
       ·refine US_of 12 rfl rfl ?_
        refine AOps_freezeL [12] 0 0 _ (allc (rfl) (fun _ h => nomatch h)) rfl ?_
        refine AOps_freezeL [11] 1 0 _ (allc (rfl) (fun _ h => nomatch h)) rfl ?_
        refine AOps_call [2] 21 _ _ _ _ _ _ _ _ _ _ rfl rfl rfl rfl rfl rfl rfl Try.call193 rfl (nodupB_sound _ rfl) rfl rfl rfl (spec_l02Go_ac k r1 ([] : List Int) (w64 ((bShl .i64 1 (IntKind.u64.wrap p0.p)) - 1)) p2 ([] : List (List Int)) p3 _ hr3) ?_
        rintro _ _ ⟨rfl, rfl⟩
        refine ⟨(allc (fun _ _ => trivial) (fun _ h => nomatch h)), (allc (trivial) (fun _ h => nomatch h)), AOps_as 21 (v' := .vec 2 1) (H' := [.gone, .gone, .vec 1 (rowsD r3)]) rfl rfl ?_⟩
        refine AOps_nil ?_
        refine AU_u 13 8 _ rfl (by kernel_rfl) rfl rfl rfl (UOp_assign _ _ rfl rfl) ?_
        refine AU_done (by kernel_rfl) ?_
        exact ⟨rfl, Weak_trans (Weak_keep 0 hm [8] [2] _ _ rfl rfl rfl) (Weak_reset 0 hm hz [8] _ _ rfl rfl)⟩
    ·refine US_of 5 rfl rfl ?_
     refine AOps_q 14 _ rfl rfl rfl (QOp_load_pv _ _ _ _ _ rfl Try.isAgg2 rfl rfl) ?_
     refine AOps_nil ?_
     refine AU_u 6 15 _ rfl (by kernel_rfl) rfl rfl rfl (UOp_conv _ _ _ _ _ _ rfl rfl Try.underlying106 rfl) ?_
     refine AU_u 7 16 _ rfl (by kernel_rfl) rfl rfl rfl (UOp_shl _ _ _ _ _ _ _ _ hc2 rfl rfl rfl) ?_
     refine AU_u 8 17 _ rfl (by kernel_rfl) rfl rfl rfl (UOp_sub _ _ _ _ _ _ _ rfl rfl rfl) ?_
     refine AU_all [2, 10] (by kernel_rfl) rfl (allc ?_ (allc ?_ (fun _ h => nomatch h)))
     ·refine US_of 2 rfl rfl ?_
      refine AOps_call [] 11 _ _ _ _ _ _ _ _ _ _ rfl rfl rfl rfl rfl rfl rfl Try.call113 rfl (nodupB_sound _ rfl) rfl rfl rfl (spec_l02Rows_ac k p0 p1 _ hr1) ?_
      rintro _ _ ⟨rfl, rfl⟩
      refine ⟨(allc (fun _ _ => trivial) (fun _ h => nomatch h)), (allc (trivial) (fun _ h => nomatch h)), AOps_as 11 (v' := .vec 1 0) (H' := [.vec 0 (intsD ([] : List Int)), .vec 0 (intsD r1)]) rfl rfl ?_⟩
      refine AOps_nil ?_
      refine AU_all [10] (by kernel_rfl) rfl (allc ?_ (fun _ h => nomatch h))
      ·refine US_of 10 rfl rfl ?_
       refine AOps_buildSlice 19 _ _ _ [] (rowsD ([] : List (List Int))) _ rfl rfl rfl rfl rfl (by decide) Try.underlying45 Try.sizeOf24 (zero_of Try.typeInfo24 rfl) rfl rfl (rowsD_one _) ?_
       refine AOps_nil ?_
       refine AU_all [12] (by kernel_rfl) rfl (allc ?_ (fun _ h => nomatch h))
       ·refine US_of 12 rfl rfl ?_
        refine AOps_freezeL [12] 0 0 _ (allc (rfl) (fun _ h => nomatch h)) rfl ?_
        refine AOps_freezeL [11] 1 0 _ (allc (rfl) (fun _ h => nomatch h)) rfl ?_
        refine AOps_call [2] 21 _ _ _ _ _ _ _ _ _ _ rfl rfl rfl rfl rfl rfl rfl Try.call193 rfl (nodupB_sound _ rfl) rfl rfl rfl (spec_l02Go_ac k r1 ([] : List Int) (w64 ((bShl .i64 1 (IntKind.u64.wrap p0.p)) - 1)) p2 ([] : List (List Int)) p3 _ hr3) ?_
        rintro _ _ ⟨rfl, rfl⟩
        refine ⟨(allc (fun _ _ => trivial) (fun _ h => nomatch h)), (allc (trivial) (fun _ h => nomatch h)), AOps_as 21 (v' := .vec 2 1) (H' := [.gone, .gone, .vec 1 (rowsD r3)]) rfl rfl ?_⟩
        refine AOps_nil ?_
        refine AU_u 13 8 _ rfl (by kernel_rfl) rfl rfl rfl (UOp_assign _ _ rfl rfl) ?_
        refine AU_done (by kernel_rfl) ?_
        exact ⟨rfl, Weak_trans (Weak_keep 0 hm [8] [2] _ _ rfl rfl rfl) (Weak_reset 0 hm hz [8] _ _ rfl rfl)⟩
     ·refine US_of 10 rfl rfl ?_
      refine AOps_buildSlice 19 _ _ _ [] (rowsD ([] : List (List Int))) _ rfl rfl rfl rfl rfl (by decide) Try.underlying45 Try.sizeOf24 (zero_of Try.typeInfo24 rfl) rfl rfl (rowsD_one _) ?_
      refine AOps_nil ?_
      refine AU_all [2] (by kernel_rfl) rfl (allc ?_ (fun _ h => nomatch h))
      ·refine US_of 2 rfl rfl ?_
       refine AOps_call [] 11 _ _ _ _ _ _ _ _ _ _ rfl rfl rfl rfl rfl rfl rfl Try.call113 rfl (nodupB_sound _ rfl) rfl rfl rfl (spec_l02Rows_ac k p0 p1 _ hr1) ?_
       rintro _ _ ⟨rfl, rfl⟩
       refine ⟨(allc (fun _ _ => trivial) (fun _ h => nomatch h)), (allc (trivial) (fun _ h => nomatch h)), AOps_as 11 (v' := .vec 2 0) (H' := [.vec 0 (intsD ([] : List Int)), .vec 0 (rowsD ([] : List (List Int))), .vec 0 (intsD r1)]) rfl rfl ?_⟩
       refine AOps_nil ?_
       refine AU_all [12] (by kernel_rfl) rfl (allc ?_ (fun _ h => nomatch h))
       ·refine US_of 12 rfl rfl ?_
        refine AOps_freezeL [12] 0 0 _ (allc (rfl) (fun _ h => nomatch h)) rfl ?_
        refine AOps_freezeL [11] 2 0 _ (allc (rfl) (fun _ h => nomatch h)) rfl ?_
        refine AOps_call [1] 21 _ _ _ _ _ _ _ _ _ _ rfl rfl rfl rfl rfl rfl rfl Try.call193 rfl (nodupB_sound _ rfl) rfl rfl rfl (spec_l02Go_ac k r1 ([] : List Int) (w64 ((bShl .i64 1 (IntKind.u64.wrap p0.p)) - 1)) p2 ([] : List (List Int)) p3 _ hr3) ?_
        rintro _ _ ⟨rfl, rfl⟩
        refine ⟨(allc (fun _ _ => trivial) (fun _ h => nomatch h)), (allc (trivial) (fun _ h => nomatch h)), AOps_as 21 (v' := .vec 1 1) (H' := [.gone, .vec 1 (rowsD r3), .gone]) rfl rfl ?_⟩
        refine AOps_nil ?_
        refine AU_u 13 8 _ rfl (by kernel_rfl) rfl rfl rfl (UOp_assign _ _ rfl rfl) ?_
        refine AU_done (by kernel_rfl) ?_
        exact ⟨rfl, Weak_trans (Weak_keep 0 hm [8] [1] _ _ rfl rfl rfl) (Weak_reset 0 hm hz [8] _ _ rfl rfl)⟩
    ·refine US_of 10 rfl rfl ?_
     refine AOps_buildSlice 19 _ _ _ [] (rowsD ([] : List (List Int))) _ rfl rfl rfl rfl rfl (by decide) Try.underlying45 Try.sizeOf24 (zero_of Try.typeInfo24 rfl) rfl rfl (rowsD_one _) ?_
     refine AOps_nil ?_
     refine AU_all [2, 5] (by kernel_rfl) rfl (allc ?_ (allc ?_ (fun _ h => nomatch h)))
     ·refine US_of 2 rfl rfl ?_
      refine AOps_call [] 11 _ _ _ _ _ _ _ _ _ _ rfl rfl rfl rfl rfl rfl rfl Try.call113 rfl (nodupB_sound _ rfl) rfl rfl rfl (spec_l02Rows_ac k p0 p1 _ hr1) ?_
      rintro _ _ ⟨rfl, rfl⟩
      refine ⟨(allc (fun _ _ => trivial) (fun _ h => nomatch h)), (allc (trivial) (fun _ h => nomatch h)), AOps_as 11 (v' := .vec 2 0) (H' := [.vec 0 (intsD ([] : List Int)), .vec 0 (rowsD ([] : List (List Int))), .vec 0 (intsD r1)]) rfl rfl ?_⟩
      refine AOps_nil ?_
      refine AU_all [5] (by kernel_rfl) rfl (allc ?_ (fun _ h => nomatch h))
      ·refine US_of 5 rfl rfl ?_
       refine AOps_q 14 _ rfl rfl rfl (QOp_load_pv _ _ _ _ _ rfl Try.isAgg2 rfl rfl) ?_
       refine AOps_nil ?_
       refine AU_u 6 15 _ rfl (by kernel_rfl) rfl rfl rfl (UOp_conv _ _ _ _ _ _ rfl rfl Try.underlying106 rfl) ?_
       refine AU_u 7 16 _ rfl (by kernel_rfl) rfl rfl rfl (UOp_shl _ _ _ _ _ _ _ _ hc2 rfl rfl rfl) ?_
       refine AU_u 8 17 _ rfl (by kernel_rfl) rfl rfl rfl (UOp_sub _ _ _ _ _ _ _ rfl rfl rfl) ?_
       refine AU_all [12] (by kernel_rfl) rfl (allc ?_ (fun _ h => nomatch h))
       ·refine US_of 12 rfl rfl ?_
        refine AOps_freezeL [12] 0 0 _ (allc (rfl) (fun _ h => nomatch h)) rfl ?_
        refine AOps_freezeL [11] 2 0 _ (allc (rfl) (fun _ h => nomatch h)) rfl ?_
        refine AOps_call [1] 21 _ _ _ _ _ _ _ _ _ _ rfl rfl rfl rfl rfl rfl rfl Try.call193 rfl (nodupB_sound _ rfl) rfl rfl rfl (spec_l02Go_ac k r1 ([] : List Int) (w64 ((bShl .i64 1 (IntKind.u64.wrap p0.p)) - 1)) p2 ([] : List (List Int)) p3 _ hr3) ?_
        rintro _ _ ⟨rfl, rfl⟩
        refine ⟨(allc (fun _ _ => trivial) (fun _ h => nomatch h)), (allc (trivial) (fun _ h => nomatch h)), AOps_as 21 (v' := .vec 1 1) (H' := [.gone, .vec 1 (rowsD r3), .gone]) rfl rfl ?_⟩
        refine AOps_nil ?_
        refine AU_u 13 8 _ rfl (by kernel_rfl) rfl rfl rfl (UOp_assign _ _ rfl rfl) ?_
        refine AU_done (by kernel_rfl) ?_
        exact ⟨rfl, Weak_trans (Weak_keep 0 hm [8] [1] _ _ rfl rfl rfl) (Weak_reset 0 hm hz [8] _ _ rfl rfl)⟩
     ·refine US_of 5 rfl rfl ?_
      refine AOps_q 14 _ rfl rfl rfl (QOp_load_pv _ _ _ _ _ rfl Try.isAgg2 rfl rfl) ?_
      refine AOps_nil ?_
      refine AU_u 6 15 _ rfl (by kernel_rfl) rfl rfl rfl (UOp_conv _ _ _ _ _ _ rfl rfl Try.underlying106 rfl) ?_
      refine AU_u 7 16 _ rfl (by kernel_rfl) rfl rfl rfl (UOp_shl _ _ _ _ _ _ _ _ hc2 rfl rfl rfl) ?_
      refine AU_u 8 17 _ rfl (by kernel_rfl) rfl rfl rfl (UOp_sub _ _ _ _ _ _ _ rfl rfl rfl) ?_
      refine AU_all [2] (by kernel_rfl) rfl (allc ?_ (fun _ h => nomatch h))
      ·refine US_of 2 rfl rfl ?_
       refine AOps_call [] 11 _ _ _ _ _ _ _ _ _ _ rfl rfl rfl rfl rfl rfl rfl Try.call113 rfl (nodupB_sound _ rfl) rfl rfl rfl (spec_l02Rows_ac k p0 p1 _ hr1) ?_
       rintro _ _ ⟨rfl, rfl⟩
       refine ⟨(allc (fun _ _ => trivial) (fun _ h => nomatch h)), (allc (trivial) (fun _ h => nomatch h)), AOps_as 11 (v' := .vec 2 0) (H' := [.vec 0 (intsD ([] : List Int)), .vec 0 (rowsD ([] : List (List Int))), .vec 0 (intsD r1)]) rfl rfl ?_⟩
       refine AOps_nil ?_
       refine AU_all [12] (by kernel_rfl) rfl (allc ?_ (fun _ h => nomatch h))
       ·refine US_of 12 rfl rfl ?_
        refine AOps_freezeL [12] 0 0 _ (allc (rfl) (fun _ h => nomatch h)) rfl ?_
        refine AOps_freezeL [11] 2 0 _ (allc (rfl) (fun _ h => nomatch h)) rfl ?_
        refine AOps_call [1] 21 _ _ _ _ _ _ _ _ _ _ rfl rfl rfl rfl rfl rfl rfl Try.call193 rfl (nodupB_sound _ rfl) rfl rfl rfl (spec_l02Go_ac k r1 ([] : List Int) (w64 ((bShl .i64 1 (IntKind.u64.wrap p0.p)) - 1)) p2 ([] : List (List Int)) p3 _ hr3) ?_
        rintro _ _ ⟨rfl, rfl⟩
        refine ⟨(allc (fun _ _ => trivial) (fun _ h => nomatch h)), (allc (trivial) (fun _ h => nomatch h)), AOps_as 21 (v' := .vec 1 1) (H' := [.gone, .vec 1 (rowsD r3), .gone]) rfl rfl ?_⟩
        refine AOps_nil ?_
        refine AU_u 13 8 _ rfl (by kernel_rfl) rfl rfl rfl (UOp_assign _ _ rfl rfl) ?_
        refine AU_done (by kernel_rfl) ?_
        exact ⟨rfl, Weak_trans (Weak_keep 0 hm [8] [1] _ _ rfl rfl rfl) (Weak_reset 0 hm hz [8] _ _ rfl rfl)⟩
   ·refine US_of 5 rfl rfl ?_
    refine AOps_q 14 _ rfl rfl rfl (QOp_load_pv _ _ _ _ _ rfl Try.isAgg2 rfl rfl) ?_
    refine AOps_nil ?_
    refine AU_u 6 15 _ rfl (by kernel_rfl) rfl rfl rfl (UOp_conv _ _ _ _ _ _ rfl rfl Try.underlying106 rfl) ?_
    refine AU_u 7 16 _ rfl (by kernel_rfl) rfl rfl rfl (UOp_shl _ _ _ _ _ _ _ _ hc2 rfl rfl rfl) ?_
    refine AU_u 8 17 _ rfl (by kernel_rfl) rfl rfl rfl (UOp_sub _ _ _ _ _ _ _ rfl rfl rfl) ?_
    refine AU_all [2, 3, 10] (by kernel_rfl) rfl (allc ?_ (allc ?_ (allc ?_ (fun _ h => nomatch h))))
    ·refine US_of 2 rfl rfl ?_
     refine AOps_call [] 11 _ _ _ _ _ _ _ _ _ _ rfl rfl rfl rfl rfl rfl rfl Try.call113 rfl (nodupB_sound _ rfl) rfl rfl rfl (spec_l02Rows_ac k p0 p1 _ hr1) ?_
     rintro _ _ ⟨rfl, rfl⟩
     refine ⟨(allc (fun _ _ => trivial) (fun _ h => nomatch h)), (allc (trivial) (fun _ h => nomatch h)), AOps_as 11 (v' := .vec 0 0) (H' := [.vec 0 (intsD r1)]) rfl rfl ?_⟩
     refine AOps_nil ?_
     refine AU_all [3, 10] (by kernel_rfl) rfl (allc ?_ (allc ?_ (fun _ h => nomatch h)))
     ·refine US_of 3 rfl rfl ?_
      refine AOps_buildSlice 12 _ _ _ [] (intsD ([] : List Int)) _ rfl rfl rfl rfl rfl (by decide) Try.underlying24 Try.sizeOf2 (zero_of Try.typeInfo2 rfl) rfl rfl (intsD_one _) ?_
      refine AOps_nil ?_
      refine AU_all [10] (by kernel_rfl) rfl (allc ?_ (fun _ h => nomatch h))
      ·refine US_of 10 rfl rfl ?_
       refine AOps_buildSlice 19 _ _ _ [] (rowsD ([] : List (List Int))) _ rfl rfl rfl rfl rfl (by decide) Try.underlying45 Try.sizeOf24 (zero_of Try.typeInfo24 rfl) rfl rfl (rowsD_one _) ?_
       refine AOps_nil ?_
       refine AU_all [12] (by kernel_rfl) rfl (allc ?_ (fun _ h => nomatch h))
       ·refine US_of 12 rfl rfl ?_
        refine AOps_freezeL [11] 0 0 _ (allc (rfl) (fun _ h => nomatch h)) rfl ?_
        refine AOps_freezeL [12] 1 0 _ (allc (rfl) (fun _ h => nomatch h)) rfl ?_
        refine AOps_call [2] 21 _ _ _ _ _ _ _ _ _ _ rfl rfl rfl rfl rfl rfl rfl Try.call193 rfl (nodupB_sound _ rfl) rfl rfl rfl (spec_l02Go_ac k r1 ([] : List Int) (w64 ((bShl .i64 1 (IntKind.u64.wrap p0.p)) - 1)) p2 ([] : List (List Int)) p3 _ hr3) ?_
        rintro _ _ ⟨rfl, rfl⟩
        refine ⟨(allc (fun _ _ => trivial) (fun _ h => nomatch h)), (allc (trivial) (fun _ h => nomatch h)), AOps_as 21 (v' := .vec 2 1) (H' := [.gone, .gone, .vec 1 (rowsD r3)]) rfl rfl ?_⟩
        refine AOps_nil ?_
        refine AU_u 13 8 _ rfl (by kernel_rfl) rfl rfl rfl (UOp_assign _ _ rfl rfl) ?_
        refine AU_done (by kernel_rfl) ?_
        exact ⟨rfl, Weak_trans (Weak_keep 0 hm [8] [2] _ _ rfl rfl rfl) (Weak_reset 0 hm hz [8] _ _ rfl rfl)⟩
     ·refine US_of 10 rfl rfl ?_
      refine AOps_buildSlice 19 _ _ _ [] (rowsD ([] : List (List Int))) _ rfl rfl rfl rfl rfl (by decide) Try.underlying45 Try.sizeOf24 (zero_of Try.typeInfo24 rfl) rfl rfl (rowsD_one _) ?_
      refine AOps_nil ?_
      refine AU_all [3] (by kernel_rfl) rfl (allc ?_ (fun _ h => nomatch h))
      ·refine US_of 3 rfl rfl ?_
       refine AOps_buildSlice 12 _ _ _ [] (intsD ([] : List Int)) _ rfl rfl rfl rfl rfl (by decide) Try.underlying24 Try.sizeOf2 (zero_of Try.typeInfo2 rfl) rfl rfl (intsD_one _) ?_
       refine AOps_nil ?_
       refine AU_all [12] (by kernel_rfl) rfl (allc ?_ (fun _ h => nomatch h))
       ·refine US_of 12 rfl rfl ?_
        refine AOps_freezeL [11] 0 0 _ (allc (rfl) (fun _ h => nomatch h)) rfl ?_
        refine AOps_freezeL [12] 2 0 _ (allc (rfl) (fun _ h => nomatch h)) rfl ?_
        refine AOps_call [1] 21 _ _ _ _ _ _ _ _ _ _ rfl rfl rfl rfl rfl rfl rfl Try.call193 rfl (nodupB_sound _ rfl) rfl rfl rfl (spec_l02Go_ac k r1 ([] : List Int) (w64 ((bShl .i64 1 (IntKind.u64.wrap p0.p)) - 1)) p2 ([] : List (List Int)) p3 _ hr3) ?_
        rintro _ _ ⟨rfl, rfl⟩
        refine ⟨(allc (fun _ _ => trivial) (fun _ h => nomatch h)), (allc (trivial) (fun _ h => nomatch h)), AOps_as 21 (v' := .vec 1 1) (H' := [.gone, .vec 1 (rowsD r3), .gone]) rfl rfl ?_⟩
        refine AOps_nil ?_
        refine AU_u 13 8 _ rfl (by kernel_rfl) rfl rfl rfl (UOp_assign _ _ rfl rfl) ?_
        refine AU_done (by kernel_rfl) ?_
        exact ⟨rfl, Weak_trans (Weak_keep 0 hm [8] [1] _ _ rfl rfl rfl) (Weak_reset 0 hm hz [8] _ _ rfl rfl)⟩
    ·refine US_of 3 rfl rfl ?_
     refine AOps_buildSlice 12 _ _ _ [] (intsD ([] : List Int)) _ rfl rfl rfl rfl rfl (by decide) Try.underlying24 Try.sizeOf2 (zero_of Try.typeInfo2 rfl) rfl rfl (intsD_one _) ?_
     refine AOps_nil ?_
     refine AU_all [2, 10] (by kernel_rfl) rfl (allc ?_ (allc ?_ (fun _ h => nomatch h)))
     ·refine US_of 2 rfl rfl ?_
      refine AOps_call [] 11 _ _ _ _ _ _ _ _ _ _ rfl rfl rfl rfl rfl rfl rfl Try.call113 rfl (nodupB_sound _ rfl) rfl rfl rfl (spec_l02Rows_ac k p0 p1 _ hr1) ?_
      rintro _ _ ⟨rfl, rfl⟩
      refine ⟨(allc (fun _ _ => trivial) (fun _ h => nomatch h)), (allc (trivial) (fun _ h => nomatch h)), AOps_as 11 (v' := .vec 1 0) (H' := [.vec 0 (intsD ([] : List Int)), .vec 0 (intsD r1)]) rfl rfl ?_⟩
      refine AOps_nil ?_
      refine AU_all [10] (by kernel_rfl) rfl (allc ?_ (fun _ h => nomatch h))
      ·refine US_of 10 rfl rfl ?_
       refine AOps_buildSlice 19 _ _ _ [] (rowsD ([] : List (List Int))) _ rfl rfl rfl rfl rfl (by decide) Try.underlying45 Try.sizeOf24 (zero_of Try.typeInfo24 rfl) rfl rfl (rowsD_one _) ?_
       refine AOps_nil ?_
       refine AU_all [12] (by kernel_rfl) rfl (allc ?_ (fun _ h => nomatch h))
       ·refine US_of 12 rfl rfl ?_
        refine AOps_freezeL [12] 0 0 _ (allc (rfl) (fun _ h => nomatch h)) rfl ?_
        refine AOps_freezeL [11] 1 0 _ (allc (rfl) (fun _ h => nomatch h)) rfl ?_
        refine AOps_call [2] 21 _ _ _ _ _ _ _ _ _ _ rfl rfl rfl rfl rfl rfl rfl Try.call193 rfl (nodupB_sound _ rfl) rfl rfl rfl (spec_l02Go_ac k r1 ([] : List Int) (w64 ((bShl .i64 1 (IntKind.u64.wrap p0.p)) - 1)) p2 ([] : List (List Int)) p3 _ hr3) ?_
        rintro _ _ ⟨rfl, rfl⟩
        refine ⟨(allc (fun _ _ => trivial) (fun _ h => nomatch h)), (allc (trivial) (fun _ h => nomatch h)), AOps_as 21 (v' := .vec 2 1) (H' := [.gone, .gone, .vec 1 (rowsD r3)]) rfl rfl ?_⟩
        refine AOps_nil ?_
        refine AU_u 13 8 _ rfl (by kernel_rfl) rfl rfl rfl (UOp_assign _ _ rfl rfl) ?_
        refine AU_done (by kernel_rfl) ?_
        exact ⟨rfl, Weak_trans (Weak_keep 0 hm [8] [2] _ _ rfl rfl rfl) (Weak_reset 0 hm hz [8] _ _ rfl rfl)⟩
     ·refine US_of 10 rfl rfl ?_
      refine AOps_buildSlice 19 _ _ _ [] (rowsD ([] : List (List Int))) _ rfl rfl rfl rfl rfl (by decide) Try.underlying45 Try.sizeOf24 (zero_of Try.typeInfo24 rfl) rfl rfl (rowsD_one _) ?_
      refine AOps_nil ?_
      refine AU_all [2] (by kernel_rfl) rfl (allc ?_ (fun _ h => nomatch h))
      ·refine US_of 2 rfl rfl ?_
       refine AOps_call [] 11 _ _ _ _ _ _ _ _ _ _ rfl rfl rfl rfl rfl rfl rfl Try.call113 rfl (nodupB_sound _ rfl) rfl rfl rfl (spec_l02Rows_ac k p0 p1 _ hr1) ?_
       rintro _ _ ⟨rfl, rfl⟩
       refine ⟨(allc (fun _ _ => trivial) (fun _ h => nomatch h)), (allc (trivial) (fun _ h => nomatch h)), AOps_as 11 (v' := .vec 2 0) (H' := [.vec 0 (intsD ([] : List Int)), .vec 0 (rowsD ([] : List (List Int))), .vec 0 (intsD r1)]) rfl rfl ?_⟩
       refine AOps_nil ?_
       refine AU_all [12] (by kernel_rfl) rfl (allc ?_ (fun _ h => nomatch h))
       ·refine US_of 12 rfl rfl ?_
        refine AOps_freezeL [12] 0 0 _ (allc (rfl) (fun _ h => nomatch h)) rfl ?_
        refine AOps_freezeL [11] 2 0 _ (allc (rfl) (fun _ h => nomatch h)) rfl ?_
        refine AOps_call [1] 21 _ _ _ _ _ _ _ _ _ _ rfl rfl rfl rfl rfl rfl rfl Try.call193 rfl (nodupB_sound _ rfl) rfl rfl rfl (spec_l02Go_ac k r1 ([] : List Int) (w64 ((bShl .i64 1 (IntKind.u64.wrap p0.p)) - 1)) p2 ([] : List (List Int)) p3 _ hr3) ?_
        rintro _ _ ⟨rfl, rfl⟩
        refine ⟨(allc (fun _ _ => trivial) (fun _ h => nomatch h)), (allc (trivial) (fun _ h => nomatch h)), AOps_as 21 (v' := .vec 1 1) (H' := [.gone, .vec 1 (rowsD r3), .gone]) rfl rfl ?_⟩
        refine AOps_nil ?_
        refine AU_u 13 8 _ rfl (by kernel_rfl) rfl rfl rfl (UOp_assign _ _ rfl rfl) ?_
        refine AU_done (by kernel_rfl) ?_
        exact ⟨rfl, Weak_trans (Weak_keep 0 hm [8] [1] _ _ rfl rfl rfl) (Weak_reset 0 hm hz [8] _ _ rfl rfl)⟩
    ·refine US_of 10 rfl rfl ?_
     refine AOps_buildSlice 19 _ _ _ [] (rowsD ([] : List (List Int))) _ rfl rfl rfl rfl rfl (by decide) Try.underlying45 Try.sizeOf24 (zero_of Try.typeInfo24 rfl) rfl rfl (rowsD_one _) ?_
     refine AOps_nil ?_
     refine AU_all [2, 3] (by kernel_rfl) rfl (allc ?_ (allc ?_ (fun _ h => nomatch h)))
     ·refine US_of 2 rfl rfl ?_
      refine AOps_call [] 11 _ _ _ _ _ _ _ _ _ _ rfl rfl rfl rfl rfl rfl rfl Try.call113 rfl (nodupB_sound _ rfl) rfl rfl rfl (spec_l02Rows_ac k p0 p1 _ hr1) ?_
      rintro _ _ ⟨rfl, rfl⟩
      refine ⟨(allc (fun _ _ => trivial) (fun _ h => nomatch h)), (allc (trivial) (fun _ h => nomatch h)), AOps_as 11 (v' := .vec 1 0) (H' := [.vec 0 (rowsD ([] : List (List Int))), .vec 0 (intsD r1)]) rfl rfl ?_⟩
      refine AOps_nil ?_
      refine AU_all [3] (by kernel_rfl) rfl (allc ?_ (fun _ h => nomatch h))
      ·refine US_of 3 rfl rfl ?_
       refine AOps_buildSlice 12 _ _ _ [] (intsD ([] : List Int)) _ rfl rfl rfl rfl rfl (by decide) Try.underlying24 Try.sizeOf2 (zero_of Try.typeInfo2 rfl) rfl rfl (intsD_one _) ?_
       refine AOps_nil ?_
       refine AU_all [12] (by kernel_rfl) rfl (allc ?_ (fun _ h => nomatch h))
       ·refine US_of 12 rfl rfl ?_
        refine AOps_freezeL [11] 1 0 _ (allc (rfl) (fun _ h => nomatch h)) rfl ?_
        refine AOps_freezeL [12] 2 0 _ (allc (rfl) (fun _ h => nomatch h)) rfl ?_
        refine AOps_call [0] 21 _ _ _ _ _ _ _ _ _ _ rfl rfl rfl rfl rfl rfl rfl Try.call193 rfl (nodupB_sound _ rfl) rfl rfl rfl (spec_l02Go_ac k r1 ([] : List Int) (w64 ((bShl .i64 1 (IntKind.u64.wrap p0.p)) - 1)) p2 ([] : List (List Int)) p3 _ hr3) ?_
        rintro _ _ ⟨rfl, rfl⟩
        refine ⟨(allc (fun _ _ => trivial) (fun _ h => nomatch h)), (allc (trivial) (fun _ h => nomatch h)), AOps_as 21 (v' := .vec 0 1) (H' := [.vec 1 (rowsD r3), .gone, .gone]) rfl rfl ?_⟩
        refine AOps_nil ?_
        refine AU_u 13 8 _ rfl (by kernel_rfl) rfl rfl rfl (UOp_assign _ _ rfl rfl) ?_
        refine AU_done (by kernel_rfl) ?_
        exact ⟨rfl, Weak_trans (Weak_keep 0 hm [8] [0] _ _ rfl rfl rfl) (Weak_reset 0 hm hz [8] _ _ rfl rfl)⟩
     ·refine US_of 3 rfl rfl ?_
      refine AOps_buildSlice 12 _ _ _ [] (intsD ([] : List Int)) _ rfl rfl rfl rfl rfl (by decide) Try.underlying24 Try.sizeOf2 (zero_of Try.typeInfo2 rfl) rfl rfl (intsD_one _) ?_
      refine AOps_nil ?_
      refine AU_all [2] (by kernel_rfl) rfl (allc ?_ (fun _ h => nomatch h))
      ·refine US_of 2 rfl rfl ?_
       refine AOps_call [] 11 _ _ _ _ _ _ _ _ _ _ rfl rfl rfl rfl rfl rfl rfl Try.call113 rfl (nodupB_sound _ rfl) rfl rfl rfl (spec_l02Rows_ac k p0 p1 _ hr1) ?_
       rintro _ _ ⟨rfl, rfl⟩
       refine ⟨(allc (fun _ _ => trivial) (fun _ h => nomatch h)), (allc (trivial) (fun _ h => nomatch h)), AOps_as 11 (v' := .vec 2 0) (H' := [.vec 0 (rowsD ([] : List (List Int))), .vec 0 (intsD ([] : List Int)), .vec 0 (intsD r1)]) rfl rfl ?_⟩
       refine AOps_nil ?_
       refine AU_all [12] (by kernel_rfl) rfl (allc ?_ (fun _ h => nomatch h))
       ·refine US_of 12 rfl rfl ?_
        refine AOps_freezeL [12] 1 0 _ (allc (rfl) (fun _ h => nomatch h)) rfl ?_
        refine AOps_freezeL [11] 2 0 _ (allc (rfl) (fun _ h => nomatch h)) rfl ?_
        refine AOps_call [0] 21 _ _ _ _ _ _ _ _ _ _ rfl rfl rfl rfl rfl rfl rfl Try.call193 rfl (nodupB_sound _ rfl) rfl rfl rfl (spec_l02Go_ac k r1 ([] : List Int) (w64 ((bShl .i64 1 (IntKind.u64.wrap p0.p)) - 1)) p2 ([] : List (List Int)) p3 _ hr3) ?_
        rintro _ _ ⟨rfl, rfl⟩
        refine ⟨(allc (fun _ _ => trivial) (fun _ h => nomatch h)), (allc (trivial) (fun _ h => nomatch h)), AOps_as 21 (v' := .vec 0 1) (H' := [.vec 1 (rowsD r3), .gone, .gone]) rfl rfl ?_⟩
        refine AOps_nil ?_
        refine AU_u 13 8 _ rfl (by kernel_rfl) rfl rfl rfl (UOp_assign _ _ rfl rfl) ?_
        refine AU_done (by kernel_rfl) ?_
        exact ⟨rfl, Weak_trans (Weak_keep 0 hm [8] [0] _ _ rfl rfl rfl) (Weak_reset 0 hm hz [8] _ _ rfl rfl)⟩
   ·refine US_of 10 rfl rfl ?_
    refine AOps_buildSlice 19 _ _ _ [] (rowsD ([] : List (List Int))) _ rfl rfl rfl rfl rfl (by decide) Try.underlying45 Try.sizeOf24 (zero_of Try.typeInfo24 rfl) rfl rfl (rowsD_one _) ?_
    refine AOps_nil ?_
    refine AU_all [2, 3, 5] (by kernel_rfl) rfl (allc ?_ (allc ?_ (allc ?_ (fun _ h => nomatch h))))
    ·refine US_of 2 rfl rfl ?_
     refine AOps_call [] 11 _ _ _ _ _ _ _ _ _ _ rfl rfl rfl rfl rfl rfl rfl Try.call113 rfl (nodupB_sound _ rfl) rfl rfl rfl (spec_l02Rows_ac k p0 p1 _ hr1) ?_
     rintro _ _ ⟨rfl, rfl⟩
     refine ⟨(allc (fun _ _ => trivial) (fun _ h => nomatch h)), (allc (trivial) (fun _ h => nomatch h)), AOps_as 11 (v' := .vec 1 0) (H' := [.vec 0 (rowsD ([] : List (List Int))), .vec 0 (intsD r1)]) rfl rfl ?_⟩
     refine AOps_nil ?_
     refine AU_all [3, 5] (by kernel_rfl) rfl (allc ?_ (allc ?_ (fun _ h => nomatch h)))
     ·refine US_of 3 rfl rfl ?_
      refine AOps_buildSlice 12 _ _ _ [] (intsD ([] : List Int)) _ rfl rfl rfl rfl rfl (by decide) Try.underlying24 Try.sizeOf2 (zero_of Try.typeInfo2 rfl) rfl rfl (intsD_one _) ?_
      refine AOps_nil ?_
      refine AU_all [5] (by kernel_rfl) rfl (allc ?_ (fun _ h => nomatch h))
      ·refine US_of 5 rfl rfl ?_
       refine AOps_q 14 _ rfl rfl rfl (QOp_load_pv _ _ _ _ _ rfl Try.isAgg2 rfl rfl) ?_
       refine AOps_nil ?_
       refine AU_u 6 15 _ rfl (by kernel_rfl) rfl rfl rfl (UOp_conv _ _ _ _ _ _ rfl rfl Try.underlying106 rfl) ?_
       refine AU_u 7 16 _ rfl (by kernel_rfl) rfl rfl rfl (UOp_shl _ _ _ _ _ _ _ _ hc2 rfl rfl rfl) ?_
       refine AU_u 8 17 _ rfl (by kernel_rfl) rfl rfl rfl (UOp_sub _ _ _ _ _ _ _ rfl rfl rfl) ?_
       refine AU_all [12] (by kernel_rfl) rfl (allc ?_ (fun _ h => nomatch h))
       ·refine US_of 12 rfl rfl ?_
        refine AOps_freezeL [11] 1 0 _ (allc (rfl) (fun _ h => nomatch h)) rfl ?_
        refine AOps_freezeL [12] 2 0 _ (allc (rfl) (fun _ h => nomatch h)) rfl ?_
        refine AOps_call [0] 21 _ _ _ _ _ _ _ _ _ _ rfl rfl rfl rfl rfl rfl rfl Try.call193 rfl (nodupB_sound _ rfl) rfl rfl rfl (spec_l02Go_ac k r1 ([] : List Int) (w64 ((bShl .i64 1 (IntKind.u64.wrap p0.p)) - 1)) p2 ([] : List (List Int)) p3 _ hr3) ?_
        rintro _ _ ⟨rfl, rfl⟩
        refine ⟨(allc (fun _ _ => trivial) (fun _ h => nomatch h)), (allc (trivial) (fun _ h => nomatch h)), AOps_as 21 (v' := .vec 0 1) (H' := [.vec 1 (rowsD r3), .gone, .gone]) rfl rfl ?_⟩
        refine AOps_nil ?_
        refine AU_u 13 8 _ rfl (by kernel_rfl) rfl rfl rfl (UOp_assign _ _ rfl rfl) ?_
        refine AU_done (by kernel_rfl) ?_
        exact ⟨rfl, Weak_trans (Weak_keep 0 hm [8] [0] _ _ rfl rfl rfl) (Weak_reset 0 hm hz [8] _ _ rfl rfl)⟩
     ·refine US_of 5 rfl rfl ?_
      refine AOps_q 14 _ rfl rfl rfl (QOp_load_pv _ _ _ _ _ rfl Try.isAgg2 rfl rfl) ?_
      refine AOps_nil ?_
      refine AU_u 6 15 _ rfl (by kernel_rfl) rfl rfl rfl (UOp_conv _ _ _ _ _ _ rfl rfl Try.underlying106 rfl) ?_
      refine AU_u 7 16 _ rfl (by kernel_rfl) rfl rfl rfl (UOp_shl _ _ _ _ _ _ _ _ hc2 rfl rfl rfl) ?_
      refine AU_u 8 17 _ rfl (by kernel_rfl) rfl rfl rfl (UOp_sub _ _ _ _ _ _ _ rfl rfl rfl) ?_
      refine AU_all [3] (by kernel_rfl) rfl (allc ?_ (fun _ h => nomatch h))
      ·refine US_of 3 rfl rfl ?_
       refine AOps_buildSlice 12 _ _ _ [] (intsD ([] : List Int)) _ rfl rfl rfl rfl rfl (by decide) Try.underlying24 Try.sizeOf2 (zero_of Try.typeInfo2 rfl) rfl rfl (intsD_one _) ?_
       refine AOps_nil ?_
       refine AU_all [12] (by kernel_rfl) rfl (allc ?_ (fun _ h => nomatch h))
       ·refine US_of 12 rfl rfl ?_
        refine AOps_freezeL [11] 1 0 _ (allc (rfl) (fun _ h => nomatch h)) rfl ?_
        refine AOps_freezeL [12] 2 0 _ (allc (rfl) (fun _ h => nomatch h)) rfl ?_
        refine AOps_call [0] 21 _ _ _ _ _ _ _ _ _ _ rfl rfl rfl rfl rfl rfl rfl Try.call193 rfl (nodupB_sound _ rfl) rfl rfl rfl (spec_l02Go_ac k r1 ([] : List Int) (w64 ((bShl .i64 1 (IntKind.u64.wrap p0.p)) - 1)) p2 ([] : List (List Int)) p3 _ hr3) ?_
        rintro _ _ ⟨rfl, rfl⟩
        refine ⟨(allc (fun _ _ => trivial) (fun _ h => nomatch h)), (allc (trivial) (fun _ h => nomatch h)), AOps_as 21 (v' := .vec 0 1) (H' := [.vec 1 (rowsD r3), .gone, .gone]) rfl rfl ?_⟩
        refine AOps_nil ?_
        refine AU_u 13 8 _ rfl (by kernel_rfl) rfl rfl rfl (UOp_assign _ _ rfl rfl) ?_
        refine AU_done (by kernel_rfl) ?_
        exact ⟨rfl, Weak_trans (Weak_keep 0 hm [8] [0] _ _ rfl rfl rfl) (Weak_reset 0 hm hz [8] _ _ rfl rfl)⟩
    ·refine US_of 3 rfl rfl ?_
     refine AOps_buildSlice 12 _ _ _ [] (intsD ([] : List Int)) _ rfl rfl rfl rfl rfl (by decide) Try.underlying24 Try.sizeOf2 (zero_of Try.typeInfo2 rfl) rfl rfl (intsD_one _) ?_
     refine AOps_nil ?_
     refine AU_all [2, 5] (by kernel_rfl) rfl (allc ?_ (allc ?_ (fun _ h => nomatch h)))
     ·refine US_of 2 rfl rfl ?_
      refine AOps_call [] 11 _ _ _ _ _ _ _ _ _ _ rfl rfl rfl rfl rfl rfl rfl Try.call113 rfl (nodupB_sound _ rfl) rfl rfl rfl (spec_l02Rows_ac k p0 p1 _ hr1) ?_
      rintro _ _ ⟨rfl, rfl⟩
      refine ⟨(allc (fun _ _ => trivial) (fun _ h => nomatch h)), (allc (trivial) (fun _ h => nomatch h)), AOps_as 11 (v' := .vec 2 0) (H' := [.vec 0 (rowsD ([] : List (List Int))), .vec 0 (intsD ([] : List Int)), .vec 0 (intsD r1)]) rfl rfl ?_⟩
      refine AOps_nil ?_
      refine AU_all [5] (by kernel_rfl) rfl (allc ?_ (fun _ h => nomatch h))
      ·refine US_of 5 rfl rfl ?_
       refine AOps_q 14 _ rfl rfl rfl (QOp_load_pv _ _ _ _ _ rfl Try.isAgg2 rfl rfl) ?_
       refine AOps_nil ?_
       refine AU_u 6 15 _ rfl (by kernel_rfl) rfl rfl rfl (UOp_conv _ _ _ _ _ _ rfl rfl Try.underlying106 rfl) ?_
       refine AU_u 7 16 _ rfl (by kernel_rfl) rfl rfl rfl (UOp_shl _ _ _ _ _ _ _ _ hc2 rfl rfl rfl) ?_
       refine AU_u 8 17 _ rfl (by kernel_rfl) rfl rfl rfl (UOp_sub _ _ _ _ _ _ _ rfl rfl rfl) ?_
       refine AU_all [12] (by kernel_rfl) rfl (allc ?_ (fun _ h => nomatch h))
       ·refine US_of 12 rfl rfl ?_
        refine AOps_freezeL [12] 1 0 _ (allc (rfl) (fun _ h => nomatch h)) rfl ?_
        refine AOps_freezeL [11] 2 0 _ (allc (rfl) (fun _ h => nomatch h)) rfl ?_
        refine AOps_call [0] 21 _ _ _ _ _ _ _ _ _ _ rfl rfl rfl rfl rfl rfl rfl Try.call193 rfl (nodupB_sound _ rfl) rfl rfl rfl (spec_l02Go_ac k r1 ([] : List Int) (w64 ((bShl .i64 1 (IntKind.u64.wrap p0.p)) - 1)) p2 ([] : List (List Int)) p3 _ hr3) ?_
        rintro _ _ ⟨rfl, rfl⟩
        refine ⟨(allc (fun _ _ => trivial) (fun _ h => nomatch h)), (allc (trivial) (fun _ h => nomatch h)), AOps_as 21 (v' := .vec 0 1) (H' := [.vec 1 (rowsD r3), .gone, .gone]) rfl rfl ?_⟩
        refine AOps_nil ?_
        refine AU_u 13 8 _ rfl (by kernel_rfl) rfl rfl rfl (UOp_assign _ _ rfl rfl) ?_
        refine AU_done (by kernel_rfl) ?_
        exact ⟨rfl, Weak_trans (Weak_keep 0 hm [8] [0] _ _ rfl rfl rfl) (Weak_reset 0 hm hz [8] _ _ rfl rfl)⟩
     ·refine US_of 5 rfl rfl ?_
      refine AOps_q 14 _ rfl rfl rfl (QOp_load_pv _ _ _ _ _ rfl Try.isAgg2 rfl rfl) ?_
      refine AOps_nil ?_
      refine AU_u 6 15 _ rfl (by kernel_rfl) rfl rfl rfl (UOp_conv _ _ _ _ _ _ rfl rfl Try.underlying106 rfl) ?_
      refine AU_u 7 16 _ rfl (by kernel_rfl) rfl rfl rfl (UOp_shl _ _ _ _ _ _ _ _ hc2 rfl rfl rfl) ?_
      refine AU_u 8 17 _ rfl (by kernel_rfl) rfl rfl rfl (UOp_sub _ _ _ _ _ _ _ rfl rfl rfl) ?_
      refine AU_all [2] (by kernel_rfl) rfl (allc ?_ (fun _ h => nomatch h))
      ·refine US_of 2 rfl rfl ?_
       refine AOps_call [] 11 _ _ _ _ _ _ _ _ _ _ rfl rfl rfl rfl rfl rfl rfl Try.call113 rfl (nodupB_sound _ rfl) rfl rfl rfl (spec_l02Rows_ac k p0 p1 _ hr1) ?_
       rintro _ _ ⟨rfl, rfl⟩
       refine ⟨(allc (fun _ _ => trivial) (fun _ h => nomatch h)), (allc (trivial) (fun _ h => nomatch h)), AOps_as 11 (v' := .vec 2 0) (H' := [.vec 0 (rowsD ([] : List (List Int))), .vec 0 (intsD ([] : List Int)), .vec 0 (intsD r1)]) rfl rfl ?_⟩
       refine AOps_nil ?_
       refine AU_all [12] (by kernel_rfl) rfl (allc ?_ (fun _ h => nomatch h))
       ·refine US_of 12 rfl rfl ?_
        refine AOps_freezeL [12] 1 0 _ (allc (rfl) (fun _ h => nomatch h)) rfl ?_
        refine AOps_freezeL [11] 2 0 _ (allc (rfl) (fun _ h => nomatch h)) rfl ?_
        refine AOps_call [0] 21 _ _ _ _ _ _ _ _ _ _ rfl rfl rfl rfl rfl rfl rfl Try.call193 rfl (nodupB_sound _ rfl) rfl rfl rfl (spec_l02Go_ac k r1 ([] : List Int) (w64 ((bShl .i64 1 (IntKind.u64.wrap p0.p)) - 1)) p2 ([] : List (List Int)) p3 _ hr3) ?_
        rintro _ _ ⟨rfl, rfl⟩
        refine ⟨(allc (fun _ _ => trivial) (fun _ h => nomatch h)), (allc (trivial) (fun _ h => nomatch h)), AOps_as 21 (v' := .vec 0 1) (H' := [.vec 1 (rowsD r3), .gone, .gone]) rfl rfl ?_⟩
        refine AOps_nil ?_
        refine AU_u 13 8 _ rfl (by kernel_rfl) rfl rfl rfl (UOp_assign _ _ rfl rfl) ?_
        refine AU_done (by kernel_rfl) ?_
        exact ⟨rfl, Weak_trans (Weak_keep 0 hm [8] [0] _ _ rfl rfl rfl) (Weak_reset 0 hm hz [8] _ _ rfl rfl)⟩
    ·refine US_of 5 rfl rfl ?_
     refine AOps_q 14 _ rfl rfl rfl (QOp_load_pv _ _ _ _ _ rfl Try.isAgg2 rfl rfl) ?_
     refine AOps_nil ?_
     refine AU_u 6 15 _ rfl (by kernel_rfl) rfl rfl rfl (UOp_conv _ _ _ _ _ _ rfl rfl Try.underlying106 rfl) ?_
     refine AU_u 7 16 _ rfl (by kernel_rfl) rfl rfl rfl (UOp_shl _ _ _ _ _ _ _ _ hc2 rfl rfl rfl) ?_
     refine AU_u 8 17 _ rfl (by kernel_rfl) rfl rfl rfl (UOp_sub _ _ _ _ _ _ _ rfl rfl rfl) ?_
     refine AU_all [2, 3] (by kernel_rfl) rfl (allc ?_ (allc ?_ (fun _ h => nomatch h)))
     ·refine US_of 2 rfl rfl ?_
      refine AOps_call [] 11 _ _ _ _ _ _ _ _ _ _ rfl rfl rfl rfl rfl rfl rfl Try.call113 rfl (nodupB_sound _ rfl) rfl rfl rfl (spec_l02Rows_ac k p0 p1 _ hr1) ?_
      rintro _ _ ⟨rfl, rfl⟩
      refine ⟨(allc (fun _ _ => trivial) (fun _ h => nomatch h)), (allc (trivial) (fun _ h => nomatch h)), AOps_as 11 (v' := .vec 1 0) (H' := [.vec 0 (rowsD ([] : List (List Int))), .vec 0 (intsD r1)]) rfl rfl ?_⟩
      refine AOps_nil ?_
      refine AU_all [3] (by kernel_rfl) rfl (allc ?_ (fun _ h => nomatch h))
      ·refine US_of 3 rfl rfl ?_
       refine AOps_buildSlice 12 _ _ _ [] (intsD ([] : List Int)) _ rfl rfl rfl rfl rfl (by decide) Try.underlying24 Try.sizeOf2 (zero_of Try.typeInfo2 rfl) rfl rfl (intsD_one _) ?_
       refine AOps_nil ?_
       refine AU_all [12] (by kernel_rfl) rfl (allc ?_ (fun _ h => nomatch h))
       ·refine US_of 12 rfl rfl ?_
        refine AOps_freezeL [11] 1 0 _ (allc (rfl) (fun _ h => nomatch h)) rfl ?_
        refine AOps_freezeL [12] 2 0 _ (allc (rfl) (fun _ h => nomatch h)) rfl ?_
        refine AOps_call [0] 21 _ _ _ _ _ _ _ _ _ _ rfl rfl rfl rfl rfl rfl rfl Try.call193 rfl (nodupB_sound _ rfl) rfl rfl rfl (spec_l02Go_ac k r1 ([] : List Int) (w64 ((bShl .i64 1 (IntKind.u64.wrap p0.p)) - 1)) p2 ([] : List (List Int)) p3 _ hr3) ?_
        rintro _ _ ⟨rfl, rfl⟩
        refine ⟨(allc (fun _ _ => trivial) (fun _ h => nomatch h)), (allc (trivial) (fun _ h => nomatch h)), AOps_as 21 (v' := .vec 0 1) (H' := [.vec 1 (rowsD r3), .gone, .gone]) rfl rfl ?_⟩
        refine AOps_nil ?_
        refine AU_u 13 8 _ rfl (by kernel_rfl) rfl rfl rfl (UOp_assign _ _ rfl rfl) ?_
        refine AU_done (by kernel_rfl) ?_
        exact ⟨rfl, Weak_trans (Weak_keep 0 hm [8] [0] _ _ rfl rfl rfl) (Weak_reset 0 hm hz [8] _ _ rfl rfl)⟩
     ·refine US_of 3 rfl rfl ?_
      refine AOps_buildSlice 12 _ _ _ [] (intsD ([] : List Int)) _ rfl rfl rfl rfl rfl (by decide) Try.underlying24 Try.sizeOf2 (zero_of Try.typeInfo2 rfl) rfl rfl (intsD_one _) ?_
      refine AOps_nil ?_
      refine AU_all [2] (by kernel_rfl) rfl (allc ?_ (fun _ h => nomatch h))
      ·refine US_of 2 rfl rfl ?_
       refine AOps_call [] 11 _ _ _ _ _ _ _ _ _ _ rfl rfl rfl rfl rfl rfl rfl Try.call113 rfl (nodupB_sound _ rfl) rfl rfl rfl (spec_l02Rows_ac k p0 p1 _ hr1) ?_
       rintro _ _ ⟨rfl, rfl⟩
       refine ⟨(allc (fun _ _ => trivial) (fun _ h => nomatch h)), (allc (trivial) (fun _ h => nomatch h)), AOps_as 11 (v' := .vec 2 0) (H' := [.vec 0 (rowsD ([] : List (List Int))), .vec 0 (intsD ([] : List Int)), .vec 0 (intsD r1)]) rfl rfl ?_⟩
       refine AOps_nil ?_
       refine AU_all [12] (by kernel_rfl) rfl (allc ?_ (fun _ h => nomatch h))
       ·refine US_of 12 rfl rfl ?_
        refine AOps_freezeL [12] 1 0 _ (allc (rfl) (fun _ h => nomatch h)) rfl ?_
        refine AOps_freezeL [11] 2 0 _ (allc (rfl) (fun _ h => nomatch h)) rfl ?_
        refine AOps_call [0] 21 _ _ _ _ _ _ _ _ _ _ rfl rfl rfl rfl rfl rfl rfl Try.call193 rfl (nodupB_sound _ rfl) rfl rfl rfl (spec_l02Go_ac k r1 ([] : List Int) (w64 ((bShl .i64 1 (IntKind.u64.wrap p0.p)) - 1)) p2 ([] : List (List Int)) p3 _ hr3) ?_
        rintro _ _ ⟨rfl, rfl⟩
        refine ⟨(allc (fun _ _ => trivial) (fun _ h => nomatch h)), (allc (trivial) (fun _ h => nomatch h)), AOps_as 21 (v' := .vec 0 1) (H' := [.vec 1 (rowsD r3), .gone, .gone]) rfl rfl ?_⟩
        refine AOps_nil ?_
        refine AU_u 13 8 _ rfl (by kernel_rfl) rfl rfl rfl (UOp_assign _ _ rfl rfl) ?_
        refine AU_done (by kernel_rfl) ?_
        exact ⟨rfl, Weak_trans (Weak_keep 0 hm [8] [0] _ _ rfl rfl rfl) (Weak_reset 0 hm hz [8] _ _ rfl rfl)⟩
  ·refine US_of 3 rfl rfl ?_
   refine AOps_buildSlice 12 _ _ _ [] (intsD ([] : List Int)) _ rfl rfl rfl rfl rfl (by decide) Try.underlying24 Try.sizeOf2 (zero_of Try.typeInfo2 rfl) rfl rfl (intsD_one _) ?_
   refine AOps_nil ?_
   refine AU_all [0, 5, 10] (by kernel_rfl) rfl (allc ?_ (allc ?_ (allc ?_ (fun _ h => nomatch h))))
   ·refine US_of 0 rfl rfl ?_
    refine AOps_q 9 _ rfl rfl rfl (QOp_loadN_pv _ _ _ _ _ _ rfl Try.isAgg29 Try.sizeOf29 rfl (colD_all _) (colD_length _)) ?_
    refine AOps_nil ?_
    refine AU_all [2, 5, 10] (by kernel_rfl) rfl (allc ?_ (allc ?_ (allc ?_ (fun _ h => nomatch h))))
    ·refine US_of 2 rfl rfl ?_
     refine AOps_call [] 11 _ _ _ _ _ _ _ _ _ _ rfl rfl rfl rfl rfl rfl rfl Try.call113 rfl (nodupB_sound _ rfl) rfl rfl rfl (spec_l02Rows_ac k p0 p1 _ hr1) ?_
     rintro _ _ ⟨rfl, rfl⟩
     refine ⟨(allc (fun _ _ => trivial) (fun _ h => nomatch h)), (allc (trivial) (fun _ h => nomatch h)), AOps_as 11 (v' := .vec 1 0) (H' := [.vec 0 (intsD ([] : List Int)), .vec 0 (intsD r1)]) rfl rfl ?_⟩
     refine AOps_nil ?_
     refine AU_all [5, 10] (by kernel_rfl) rfl (allc ?_ (allc ?_ (fun _ h => nomatch h)))
     ·refine US_of 5 rfl rfl ?_
      refine AOps_q 14 _ rfl rfl rfl (QOp_load_pv _ _ _ _ _ rfl Try.isAgg2 rfl rfl) ?_
      refine AOps_nil ?_
      refine AU_u 6 15 _ rfl (by kernel_rfl) rfl rfl rfl (UOp_conv _ _ _ _ _ _ rfl rfl Try.underlying106 rfl) ?_
      refine AU_u 7 16 _ rfl (by kernel_rfl) rfl rfl rfl (UOp_shl _ _ _ _ _ _ _ _ hc2 rfl rfl rfl) ?_
      refine AU_u 8 17 _ rfl (by kernel_rfl) rfl rfl rfl (UOp_sub _ _ _ _ _ _ _ rfl rfl rfl) ?_
      refine AU_all [10] (by kernel_rfl) rfl (allc ?_ (fun _ h => nomatch h))
      ·refine US_of 10 rfl rfl ?_
       refine AOps_buildSlice 19 _ _ _ [] (rowsD ([] : List (List Int))) _ rfl rfl rfl rfl rfl (by decide) Try.underlying45 Try.sizeOf24 (zero_of Try.typeInfo24 rfl) rfl rfl (rowsD_one _) ?_
       refine AOps_nil ?_
       refine AU_all [12] (by kernel_rfl) rfl (allc ?_ (fun _ h => nomatch h))
       ·refine US_of 12 rfl rfl ?_
        refine AOps_freezeL [12] 0 0 _ (allc (rfl) (fun _ h => nomatch h)) rfl ?_
        refine AOps_freezeL [11] 1 0 _ (allc (rfl) (fun _ h => nomatch h)) rfl ?_
        refine AOps_call [2] 21 _ _ _ _ _ _ _ _ _ _ rfl rfl rfl rfl rfl rfl rfl Try.call193 rfl (nodupB_sound _ rfl) rfl rfl rfl (spec_l02Go_ac k r1 ([] : List Int) (w64 ((bShl .i64 1 (IntKind.u64.wrap p0.p)) - 1)) p2 ([] : List (List Int)) p3 _ hr3) ?_
        rintro _ _ ⟨rfl, rfl⟩
        refine ⟨(allc (fun _ _ => trivial) (fun _ h => nomatch h)), (allc (trivial) (fun _ h => nomatch h)), AOps_as 21 (v' := .vec 2 1) (H' := [.gone, .gone, .vec 1 (rowsD r3)]) rfl rfl ?_⟩
        refine AOps_nil ?_
        refine AU_u 13 8 _ rfl (by kernel_rfl) rfl rfl rfl (UOp_assign _ _ rfl rfl) ?_
        refine AU_done (by kernel_rfl) ?_
        exact ⟨rfl, Weak_trans (Weak_keep 0 hm [8] [2] _ _ rfl rfl rfl) (Weak_reset 0 hm hz [8] _ _ rfl rfl)⟩
     ·refine US_of 10 rfl rfl ?_
      refine AOps_buildSlice 19 _ _ _ [] (rowsD ([] : List (List Int))) _ rfl rfl rfl rfl rfl (by decide) Try.underlying45 Try.sizeOf24 (zero_of Try.typeInfo24 rfl) rfl rfl (rowsD_one _) ?_
      refine AOps_nil ?_
      refine AU_all [5] (by kernel_rfl) rfl (allc ?_ (fun _ h => nomatch h))
      ·refine US_of 5 rfl rfl ?_
       refine AOps_q 14 _ rfl rfl rfl (QOp_load_pv _ _ _ _ _ rfl Try.isAgg2 rfl rfl) ?_
       refine AOps_nil ?_
       refine AU_u 6 15 _ rfl (by kernel_rfl) rfl rfl rfl (UOp_conv _ _ _ _ _ _ rfl rfl Try.underlying106 rfl) ?_
       refine AU_u 7 16 _ rfl (by kernel_rfl) rfl rfl rfl (UOp_shl _ _ _ _ _ _ _ _ hc2 rfl rfl rfl) ?_
       refine AU_u 8 17 _ rfl (by kernel_rfl) rfl rfl rfl (UOp_sub _ _ _ _ _ _ _ rfl rfl rfl) ?_
       refine AU_all [12] (by kernel_rfl) rfl (allc ?_ (fun _ h => nomatch h))
       ·refine US_of 12 rfl rfl ?_
        refine AOps_freezeL [12] 0 0 _ (allc (rfl) (fun _ h => nomatch h)) rfl ?_
        refine AOps_freezeL [11] 1 0 _ (allc (rfl) (fun _ h => nomatch h)) rfl ?_
        refine AOps_call [2] 21 _ _ _ _ _ _ _ _ _ _ rfl rfl rfl rfl rfl rfl rfl Try.call193 rfl (nodupB_sound _ rfl) rfl rfl rfl (spec_l02Go_ac k r1 ([] : List Int) (w64 ((bShl .i64 1 (IntKind.u64.wrap p0.p)) - 1)) p2 ([] : List (List Int)) p3 _ hr3) ?_
        rintro _ _ ⟨rfl, rfl⟩
        refine ⟨(allc (fun _ _ => trivial) (fun _ h => nomatch h)), (allc (trivial) (fun _ h => nomatch h)), AOps_as 21 (v' := .vec 2 1) (H' := [.gone, .gone, .vec 1 (rowsD r3)]) rfl rfl ?_⟩
        refine AOps_nil ?_
        refine AU_u 13 8 _ rfl (by kernel_rfl) rfl rfl rfl (UOp_assign _ _ rfl rfl) ?_
        refine AU_done (by kernel_rfl) ?_
        exact ⟨rfl, Weak_trans (Weak_keep 0 hm [8] [2] _ _ rfl rfl rfl) (Weak_reset 0 hm hz [8] _ _ rfl rfl)⟩
    ·refine US_of 5 rfl rfl ?_
     refine AOps_q 14 _ rfl rfl rfl (QOp_load_pv _ _ _ _ _ rfl Try.isAgg2 rfl rfl) ?_
     refine AOps_nil ?_
     refine AU_u 6 15 _ rfl (by kernel_rfl) rfl rfl rfl (UOp_conv _ _ _ _ _ _ rfl rfl Try.underlying106 rfl) ?_
     refine AU_u 7 16 _ rfl (by kernel_rfl) rfl rfl rfl (UOp_shl _ _ _ _ _ _ _ _ hc2 rfl rfl rfl) ?_
     refine AU_u 8 17 _ rfl (by kernel_rfl) rfl rfl rfl (UOp_sub _ _ _ _ _ _ _ rfl rfl rfl) ?_
     refine AU_all [2, 10] (by kernel_rfl) rfl (allc ?_ (allc ?_ (fun _ h => nomatch h)))
     ·refine US_of 2 rfl rfl ?_
      refine AOps_call [] 11 _ _ _ _ _ _ _ _ _ _ rfl rfl rfl rfl rfl rfl rfl Try.call113 rfl (nodupB_sound _ rfl) rfl rfl rfl (spec_l02Rows_ac k p0 p1 _ hr1) ?_
      rintro _ _ ⟨rfl, rfl⟩
      refine ⟨(allc (fun _ _ => trivial) (fun _ h => nomatch h)), (allc (trivial) (fun _ h => nomatch h)), AOps_as 11 (v' := .vec 1 0) (H' := [.vec 0 (intsD ([] : List Int)), .vec 0 (intsD r1)]) rfl rfl ?_⟩
      refine AOps_nil ?_
      refine AU_all [10] (by kernel_rfl) rfl (allc ?_ (fun _ h => nomatch h))
      ·refine US_of 10 rfl rfl ?_
       refine AOps_buildSlice 19 _ _ _ [] (rowsD ([] : List (List Int))) _ rfl rfl rfl rfl rfl (by decide) Try.underlying45 Try.sizeOf24 (zero_of Try.typeInfo24 rfl) rfl rfl (rowsD_one _) ?_
       refine AOps_nil ?_
       refine AU_all [12] (by kernel_rfl) rfl (allc ?_ (fun _ h => nomatch h))
       ·refine US_of 12 rfl rfl ?_
        refine AOps_freezeL [12] 0 0 _ (allc (rfl) (fun _ h => nomatch h)) rfl ?_
        refine AOps_freezeL [11] 1 0 _ (allc (rfl) (fun _ h => nomatch h)) rfl ?_
        refine AOps_call [2] 21 _ _ _ _ _ _ _ _ _ _ rfl rfl rfl rfl rfl rfl rfl Try.call193 rfl (nodupB_sound _ rfl) rfl rfl rfl (spec_l02Go_ac k r1 ([] : List Int) (w64 ((bShl .i64 1 (IntKind.u64.wrap p0.p)) - 1)) p2 ([] : List (List Int)) p3 _ hr3) ?_
        rintro _ _ ⟨rfl, rfl⟩
        refine ⟨(allc (fun _ _ => trivial) (fun _ h => nomatch h)), (allc (trivial) (fun _ h => nomatch h)), AOps_as 21 (v' := .vec 2 1) (H' := [.gone, .gone, .vec 1 (rowsD r3)]) rfl rfl ?_⟩
        refine AOps_nil ?_
        refine AU_u 13 8 _ rfl (by kernel_rfl) rfl rfl rfl (UOp_assign _ _ rfl rfl) ?_
        refine AU_done (by kernel_rfl) ?_
        exact ⟨rfl, Weak_trans (Weak_keep 0 hm [8] [2] _ _ rfl rfl rfl) (Weak_reset 0 hm hz [8] _ _ rfl rfl)⟩
     ·refine US_of 10 rfl rfl ?_
      refine AOps_buildSlice 19 _ _ _ [] (rowsD ([] : List (List Int))) _ rfl rfl rfl rfl rfl (by decide) Try.underlying45 Try.sizeOf24 (zero_of Try.typeInfo24 rfl) rfl rfl (rowsD_one _) ?_
      refine AOps_nil ?_
      refine AU_all [2] (by kernel_rfl) rfl (allc ?_ (fun _ h => nomatch h))
      ·refine US_of 2 rfl rfl ?_
       refine AOps_call [] 11 _ _ _ _ _ _ _ _ _ _ rfl rfl rfl rfl rfl rfl rfl Try.call113 rfl (nodupB_sound _ rfl) rfl rfl rfl (spec_l02Rows_ac k p0 p1 _ hr1) ?_
       rintro _ _ ⟨rfl, rfl⟩
       refine ⟨(allc (fun _ _ => trivial) (fun _ h => nomatch h)), (allc (trivial) (fun _ h => nomatch h)), AOps_as 11 (v' := .vec 2 0) (H' := [.vec 0 (intsD ([] : List Int)), .vec 0 (rowsD ([] : List (List Int))), .vec 0 (intsD r1)]) rfl rfl ?_⟩
       refine AOps_nil ?_
       refine AU_all [12] (by kernel_rfl) rfl (allc ?_ (fun _ h => nomatch h))
       ·refine US_of 12 rfl rfl ?_
        refine AOps_freezeL [12] 0 0 _ (allc (rfl) (fun _ h => nomatch h)) rfl ?_
        refine AOps_freezeL [11] 2 0 _ (allc (rfl) (fun _ h => nomatch h)) rfl ?_
        refine AOps_call [1] 21 _ _ _ _ _ _ _ _ _ _ rfl rfl rfl rfl rfl rfl rfl Try.call193 rfl (nodupB_sound _ rfl) rfl rfl rfl (spec_l02Go_ac k r1 ([] : List Int) (w64 ((bShl .i64 1 (IntKind.u64.wrap p0.p)) - 1)) p2 ([] : List (List Int)) p3 _ hr3) ?_
        rintro _ _ ⟨rfl, rfl⟩
        refine ⟨(allc (fun _ _ => trivial) (fun _ h => nomatch h)), (allc (trivial) (fun _ h => nomatch h)), AOps_as 21 (v' := .vec 1 1) (H' := [.gone, .vec 1 (rowsD r3), .gone]) rfl rfl ?_⟩
        refine AOps_nil ?_
        refine AU_u 13 8 _ rfl (by kernel_rfl) rfl rfl rfl (UOp_assign _ _ rfl rfl) ?_
        refine AU_done (by kernel_rfl) ?_
        exact ⟨rfl, Weak_trans (Weak_keep 0 hm [8] [1] _ _ rfl rfl rfl) (Weak_reset 0 hm hz [8] _ _ rfl rfl)⟩
    ·refine US_of 10 rfl rfl ?_
     refine AOps_buildSlice 19 _ _ _ [] (rowsD ([] : List (List Int))) _ rfl rfl rfl rfl rfl (by decide) Try.underlying45 Try.sizeOf24 (zero_of Try.typeInfo24 rfl) rfl rfl (rowsD_one _) ?_
     refine AOps_nil ?_
     refine AU_all [2, 5] (by kernel_rfl) rfl (allc ?_ (allc ?_ (fun _ h => nomatch h)))
     ·refine US_of 2 rfl rfl ?_
      refine AOps_call [] 11 _ _ _ _ _ _ _ _ _ _ rfl rfl rfl rfl rfl rfl rfl Try.call113 rfl (nodupB_sound _ rfl) rfl rfl rfl (spec_l02Rows_ac k p0 p1 _ hr1) ?_
      rintro _ _ ⟨rfl, rfl⟩
      refine ⟨(allc (fun _ _ => trivial) (fun _ h => nomatch h)), (allc (trivial) (fun _ h => nomatch h)), AOps_as 11 (v' := .vec 2 0) (H' := [.vec 0 (intsD ([] : List Int)), .vec 0 (rowsD ([] : List (List Int))), .vec 0 (intsD r1)]) rfl rfl ?_⟩
      refine AOps_nil ?_
      refine AU_all [5] (by kernel_rfl) rfl (allc ?_ (fun _ h => nomatch h))
      ·refine US_of 5 rfl rfl ?_
       refine AOps_q 14 _ rfl rfl rfl (QOp_load_pv _ _ _ _ _ rfl Try.isAgg2 rfl rfl) ?_
       refine AOps_nil ?_
       refine AU_u 6 15 _ rfl (by kernel_rfl) rfl rfl rfl (UOp_conv _ _ _ _ _ _ rfl rfl Try.underlying106 rfl) ?_
       refine AU_u 7 16 _ rfl (by kernel_rfl) rfl rfl rfl (UOp_shl _ _ _ _ _ _ _ _ hc2 rfl rfl rfl) ?_
       refine AU_u 8 17 _ rfl (by kernel_rfl) rfl rfl rfl (UOp_sub _ _ _ _ _ _ _ rfl rfl rfl) ?_
       refine AU_all [12] (by kernel_rfl) rfl (allc ?_ (fun _ h => nomatch h))
       ·refine US_of 12 rfl rfl ?_
        refine AOps_freezeL [12] 0 0 _ (allc (rfl) (fun _ h => nomatch h)) rfl ?_
        refine AOps_freezeL [11] 2 0 _ (allc (rfl) (fun _ h => nomatch h)) rfl ?_
        refine AOps_call [1] 21 _ _ _ _ _ _ _ _ _ _ rfl rfl rfl rfl rfl rfl rfl Try.call193 rfl (nodupB_sound _ rfl) rfl rfl rfl (spec_l02Go_ac k r1 ([] : List Int) (w64 ((bShl .i64 1 (IntKind.u64.wrap p0.p)) - 1)) p2 ([] : List (List Int)) p3 _ hr3) ?_
        rintro _ _ ⟨rfl, rfl⟩
        refine ⟨(allc (fun _ _ => trivial) (fun _ h => nomatch h)), (allc (trivial) (fun _ h => nomatch h)), AOps_as 21 (v' := .vec 1 1) (H' := [.gone, .vec 1 (rowsD r3), .gone]) rfl rfl ?_⟩
        refine AOps_nil ?_
        refine AU_u 13 8 _ rfl (by kernel_rfl) rfl rfl rfl (UOp_assign _ _ rfl rfl) ?_
        refine AU_done (by kernel_rfl) ?_
        exact ⟨rfl, Weak_trans (Weak_keep 0 hm [8] [1] _ _ rfl rfl rfl) (Weak_reset 0 hm hz [8] _ _ rfl rfl)⟩
     ·refine US_of 5 rfl rfl ?_
      refine AOps_q 14 _ rfl rfl rfl (QOp_load_pv _ _ _ _ _ rfl Try.isAgg2 rfl rfl) ?_
      refine AOps_nil ?_
      refine AU_u 6 15 _ rfl (by kernel_rfl) rfl rfl rfl (UOp_conv _ _ _ _ _ _ rfl rfl Try.underlying106 rfl) ?_
      refine AU_u 7 16 _ rfl (by kernel_rfl) rfl rfl rfl (UOp_shl _ _ _ _ _ _ _ _ hc2 rfl rfl rfl) ?_
      refine AU_u 8 17 _ rfl (by kernel_rfl) rfl rfl rfl (UOp_sub _ _ _ _ _ _ _ rfl rfl rfl) ?_
      refine AU_all [2] (by kernel_rfl) rfl (allc ?_ (fun _ h => nomatch h))
      ·refine US_of 2 rfl rfl ?_
       refine AOps_call [] 11 _ _ _ _ _ _ _ _ _ _ rfl rfl rfl rfl rfl rfl rfl Try.call113 rfl (nodupB_sound _ rfl) rfl rfl rfl (spec_l02Rows_ac k p0 p1 _ hr1) ?_
       rintro _ _ ⟨rfl, rfl⟩
       refine ⟨(allc (fun _ _ => trivial) (fun _ h => nomatch h)), (allc (trivial) (fun _ h => nomatch h)), AOps_as 11 (v' := .vec 2 0) (H' := [.vec 0 (intsD ([] : List Int)), .vec 0 (rowsD ([] : List (List Int))), .vec 0 (intsD r1)]) rfl rfl ?_⟩
       refine AOps_nil ?_
       refine AU_all [12] (by kernel_rfl) rfl (allc ?_ (fun _ h => nomatch h))
       ·refine US_of 12 rfl rfl ?_
        refine AOps_freezeL [12] 0 0 _ (allc (rfl) (fun _ h => nomatch h)) rfl ?_
        refine AOps_freezeL [11] 2 0 _ (allc (rfl) (fun _ h => nomatch h)) rfl ?_
        refine AOps_call [1] 21 _ _ _ _ _ _ _ _ _ _ rfl rfl rfl rfl rfl rfl rfl Try.call193 rfl (nodupB_sound _ rfl) rfl rfl rfl (spec_l02Go_ac k r1 ([] : List Int) (w64 ((bShl .i64 1 (IntKind.u64.wrap p0.p)) - 1)) p2 ([] : List (List Int)) p3 _ hr3) ?_
        rintro _ _ ⟨rfl, rfl⟩
        refine ⟨(allc (fun _ _ => trivial) (fun _ h => nomatch h)), (allc (trivial) (fun _ h => nomatch h)), AOps_as 21 (v' := .vec 1 1) (H' := [.gone, .vec 1 (rowsD r3), .gone]) rfl rfl ?_⟩
        refine AOps_nil ?_
        refine AU_u 13 8 _ rfl (by kernel_rfl) rfl rfl rfl (UOp_assign _ _ rfl rfl) ?_
        refine AU_done (by kernel_rfl) ?_
        exact ⟨rfl, Weak_trans (Weak_keep 0 hm [8] [1] _ _ rfl rfl rfl) (Weak_reset 0 hm hz [8] _ _ rfl rfl)⟩
   ·refine US_of 5 rfl rfl ?_
    refine AOps_q 14 _ rfl rfl rfl (QOp_load_pv _ _ _ _ _ rfl Try.isAgg2 rfl rfl) ?_
    refine AOps_nil ?_
    refine AU_u 6 15 _ rfl (by kernel_rfl) rfl rfl rfl (UOp_conv _ _ _ _ _ _ rfl rfl Try.underlying106 rfl) ?_
    refine AU_u 7 16 _ rfl (by kernel_rfl) rfl rfl rfl (UOp_shl _ _ _ _ _ _ _ _ hc2 rfl rfl rfl) ?_
    refine AU_u 8 17 _ rfl (by kernel_rfl) rfl rfl rfl (UOp_sub _ _ _ _ _ _ _ rfl rfl rfl) ?_
    refine AU_all [0, 10] (by kernel_rfl) rfl (allc ?_ (allc ?_ (fun _ h => nomatch h)))
    ·refine US_of 0 rfl rfl ?_
     refine AOps_q 9 _ rfl rfl rfl (QOp_loadN_pv _ _ _ _ _ _ rfl Try.isAgg29 Try.sizeOf29 rfl (colD_all _) (colD_length _)) ?_
     refine AOps_nil ?_
     refine AU_all [2, 10] (by kernel_rfl) rfl (allc ?_ (allc ?_ (fun _ h => nomatch h)))
     ·refine US_of 2 rfl rfl ?_
      refine AOps_call [] 11 _ _ _ _ _ _ _ _ _ _ rfl rfl rfl rfl rfl rfl rfl Try.call113 rfl (nodupB_sound _ rfl) rfl rfl rfl (spec_l02Rows_ac k p0 p1 _ hr1) ?_
      rintro _ _ ⟨rfl, rfl⟩
      refine ⟨(allc (fun _ _ => trivial) (fun _ h => nomatch h)), (allc (trivial) (fun _ h => nomatch h)), AOps_as 11 (v' := .vec 1 0) (H' := [.vec 0 (intsD ([] : List Int)), .vec 0 (intsD r1)]) rfl rfl ?_⟩
      refine AOps_nil ?_
      refine AU_all [10] (by kernel_rfl) rfl (allc ?_ (fun _ h => nomatch h))
      ·refine US_of 10 rfl rfl ?_
       refine AOps_buildSlice 19 _ _ _ [] (rowsD ([] : List (List Int))) _ rfl rfl rfl rfl rfl (by decide) Try.underlying45 Try.sizeOf24 (zero_of Try.typeInfo24 rfl) rfl rfl (rowsD_one _) ?_
       refine AOps_nil ?_
       refine AU_all [12] (by kernel_rfl) rfl (allc ?_ (fun _ h => nomatch h))
       ·refine US_of 12 rfl rfl ?_
        refine AOps_freezeL [12] 0 0 _ (allc (rfl) (fun _ h => nomatch h)) rfl ?_
        refine AOps_freezeL [11] 1 0 _ (allc (rfl) (fun _ h => nomatch h)) rfl ?_
        refine AOps_call [2] 21 _ _ _ _ _ _ _ _ _ _ rfl rfl rfl rfl rfl rfl rfl Try.call193 rfl (nodupB_sound _ rfl) rfl rfl rfl (spec_l02Go_ac k r1 ([] : List Int) (w64 ((bShl .i64 1 (IntKind.u64.wrap p0.p)) - 1)) p2 ([] : List (List Int)) p3 _ hr3) ?_
        rintro _ _ ⟨rfl, rfl⟩
        refine ⟨(allc (fun _ _ => trivial) (fun _ h => nomatch h)), (allc (trivial) (fun _ h => nomatch h)), AOps_as 21 (v' := .vec 2 1) (H' := [.gone, .gone, .vec 1 (rowsD r3)]) rfl rfl ?_⟩
        refine AOps_nil ?_
        refine AU_u 13 8 _ rfl (by kernel_rfl) rfl rfl rfl (UOp_assign _ _ rfl rfl) ?_
        refine AU_done (by kernel_rfl) ?_
        exact ⟨rfl, Weak_trans (Weak_keep 0 hm [8] [2] _ _ rfl rfl rfl) (Weak_reset 0 hm hz [8] _ _ rfl rfl)⟩
     ·refine US_of 10 rfl rfl ?_
      refine AOps_buildSlice 19 _ _ _ [] (rowsD ([] : List (List Int))) _ rfl rfl rfl rfl rfl (by decide) Try.underlying45 Try.sizeOf24 (zero_of Try.typeInfo24 rfl) rfl rfl (rowsD_one _) ?_
      refine AOps_nil ?_
      refine AU_all [2] (by kernel_rfl) rfl (allc ?_ (fun _ h => nomatch h))
      ·refine US_of 2 rfl rfl ?_
       refine AOps_call [] 11 _ _ _ _ _ _ _ _ _ _ rfl rfl rfl rfl rfl rfl rfl Try.call113 rfl (nodupB_sound _ rfl) rfl rfl rfl (spec_l02Rows_ac k p0 p1 _ hr1) ?_
       rintro _ _ ⟨rfl, rfl⟩
       refine ⟨(allc (fun _ _ => trivial) (fun _ h => nomatch h)), (allc (trivial) (fun _ h => nomatch h)), AOps_as 11 (v' := .vec 2 0) (H' := [.vec 0 (intsD ([] : List Int)), .vec 0 (rowsD ([] : List (List Int))), .vec 0 (intsD r1)]) rfl rfl ?_⟩
       refine AOps_nil ?_
       refine AU_all [12] (by kernel_rfl) rfl (allc ?_ (fun _ h => nomatch h))
       ·refine US_of 12 rfl rfl ?_
        refine AOps_freezeL [12] 0 0 _ (allc (rfl) (fun _ h => nomatch h)) rfl ?_
        refine AOps_freezeL [11] 2 0 _ (allc (rfl) (fun _ h => nomatch h)) rfl ?_
        refine AOps_call [1] 21 _ _ _ _ _ _ _ _ _ _ rfl rfl rfl rfl rfl rfl rfl Try.call193 rfl (nodupB_sound _ rfl) rfl rfl rfl (spec_l02Go_ac k r1 ([] : List Int) (w64 ((bShl .i64 1 (IntKind.u64.wrap p0.p)) - 1)) p2 ([] : List (List Int)) p3 _ hr3) ?_
        rintro _ _ ⟨rfl, rfl⟩
        refine ⟨(allc (fun _ _ => trivial) (fun _ h => nomatch h)), (allc (trivial) (fun _ h => nomatch h)), AOps_as 21 (v' := .vec 1 1) (H' := [.gone, .vec 1 (rowsD r3), .gone]) rfl rfl ?_⟩
        refine AOps_nil ?_
        refine AU_u 13 8 _ rfl (by kernel_rfl) rfl rfl rfl (UOp_assign _ _ rfl rfl) ?_
        refine AU_done (by kernel_rfl) ?_
        exact ⟨rfl, Weak_trans (Weak_keep 0 hm [8] [1] _ _ rfl rfl rfl) (Weak_reset 0 hm hz [8] _ _ rfl rfl)⟩
    ·refine US_of 10 rfl rfl ?_
     refine AOps_buildSlice 19 _ _ _ [] (rowsD ([] : List (List Int))) _ rfl rfl rfl rfl rfl (by decide) Try.underlying45 Try.sizeOf24 (zero_of Try.typeInfo24 rfl) rfl rfl (rowsD_one _) ?_
     refine AOps_nil ?_
     refine AU_all [0] (by kernel_rfl) rfl (allc ?_ (fun _ h => nomatch h))
     ·refine US_of 0 rfl rfl ?_
      refine AOps_q 9 _ rfl rfl rfl (QOp_loadN_pv _ _ _ _ _ _ rfl Try.isAgg29 Try.sizeOf29 rfl (colD_all _) (colD_length _)) ?_
      refine AOps_nil ?_
      refine AU_all [2] (by kernel_rfl) rfl (allc ?_ (fun _ h => nomatch h))
      ·refine US_of 2 rfl rfl ?_
       refine AOps_call [] 11 _ _ _ _ _ _ _ _ _ _ rfl rfl rfl rfl rfl rfl rfl Try.call113 rfl (nodupB_sound _ rfl) rfl rfl rfl (spec_l02Rows_ac k p0 p1 _ hr1) ?_
       rintro _ _ ⟨rfl, rfl⟩
       refine ⟨(allc (fun _ _ => trivial) (fun _ h => nomatch h)), (allc (trivial) (fun _ h => nomatch h)), AOps_as 11 (v' := .vec 2 0) (H' := [.vec 0 (intsD ([] : List Int)), .vec 0 (rowsD ([] : List (List Int))), .vec 0 (intsD r1)]) rfl rfl ?_⟩
       refine AOps_nil ?_
       refine AU_all [12] (by kernel_rfl) rfl (allc ?_ (fun _ h => nomatch h))
       ·refine US_of 12 rfl rfl ?_
        refine AOps_freezeL [12] 0 0 _ (allc (rfl) (fun _ h => nomatch h)) rfl ?_
        refine AOps_freezeL [11] 2 0 _ (allc (rfl) (fun _ h => nomatch h)) rfl ?_
        refine AOps_call [1] 21 _ _ _ _ _ _ _ _ _ _ rfl rfl rfl rfl rfl rfl rfl Try.call193 rfl (nodupB_sound _ rfl) rfl rfl rfl (spec_l02Go_ac k r1 ([] : List Int) (w64 ((bShl .i64 1 (IntKind.u64.wrap p0.p)) - 1)) p2 ([] : List (List Int)) p3 _ hr3) ?_
        rintro _ _ ⟨rfl, rfl⟩
        refine ⟨(allc (fun _ _ => trivial) (fun _ h => nomatch h)), (allc (trivial) (fun _ h => nomatch h)), AOps_as 21 (v' := .vec 1 1) (H' := [.gone, .vec 1 (rowsD r3), .gone]) rfl rfl ?_⟩
        refine AOps_nil ?_
        refine AU_u 13 8 _ rfl (by kernel_rfl) rfl rfl rfl (UOp_assign _ _ rfl rfl) ?_
        refine AU_done (by kernel_rfl) ?_
        exact ⟨rfl, Weak_trans (Weak_keep 0 hm [8] [1] _ _ rfl rfl rfl) (Weak_reset 0 hm hz [8] _ _ rfl rfl)⟩
   ·refine US_of 10 rfl rfl ?_
    refine AOps_buildSlice 19 _ _ _ [] (rowsD ([] : List (List Int))) _ rfl rfl rfl rfl rfl (by decide) Try.underlying45 Try.sizeOf24 (zero_of Try.typeInfo24 rfl) rfl rfl (rowsD_one _) ?_
    refine AOps_nil ?_
    refine AU_all [0, 5] (by kernel_rfl) rfl (allc ?_ (allc ?_ (fun _ h => nomatch h)))
    ·refine US_of 0 rfl rfl ?_
     refine AOps_q 9 _ rfl rfl rfl (QOp_loadN_pv _ _ _ _ _ _ rfl Try.isAgg29 Try.sizeOf29 rfl (colD_all _) (colD_length _)) ?_
     refine AOps_nil ?_
     refine AU_all [2, 5] (by kernel_rfl) rfl (allc ?_ (allc ?_ (fun _ h => nomatch h)))
     ·refine US_of 2 rfl rfl ?_
      refine AOps_call [] 11 _ _ _ _ _ _ _ _ _ _ rfl rfl rfl rfl rfl rfl rfl Try.call113 rfl (nodupB_sound _ rfl) rfl rfl rfl (spec_l02Rows_ac k p0 p1 _ hr1) ?_
      rintro _ _ ⟨rfl, rfl⟩
      refine ⟨(allc (fun _ _ => trivial) (fun _ h => nomatch h)), (allc (trivial) (fun _ h => nomatch h)), AOps_as 11 (v' := .vec 2 0) (H' := [.vec 0 (intsD ([] : List Int)), .vec 0 (rowsD ([] : List (List Int))), .vec 0 (intsD r1)]) rfl rfl ?_⟩
      refine AOps_nil ?_
      refine AU_all [5] (by kernel_rfl) rfl (allc ?_ (fun _ h => nomatch h))
      ·refine US_of 5 rfl rfl ?_
       refine AOps_q 14 _ rfl rfl rfl (QOp_load_pv _ _ _ _ _ rfl Try.isAgg2 rfl rfl) ?_
       refine AOps_nil ?_
       refine AU_u 6 15 _ rfl (by kernel_rfl) rfl rfl rfl (UOp_conv _ _ _ _ _ _ rfl rfl Try.underlying106 rfl) ?_
       refine AU_u 7 16 _ rfl (by kernel_rfl) rfl rfl rfl (UOp_shl _ _ _ _ _ _ _ _ hc2 rfl rfl rfl) ?_
       refine AU_u 8 17 _ rfl (by kernel_rfl) rfl rfl rfl (UOp_sub _ _ _ _ _ _ _ rfl rfl rfl) ?_
       refine AU_all [12] (by kernel_rfl) rfl (allc ?_ (fun _ h => nomatch h))
       ·refine US_of 12 rfl rfl ?_
        refine AOps_freezeL [12] 0 0 _ (allc (rfl) (fun _ h => nomatch h)) rfl ?_
        refine AOps_freezeL [11] 2 0 _ (allc (rfl) (fun _ h => nomatch h)) rfl ?_
        refine AOps_call [1] 21 _ _ _ _ _ _ _ _ _ _ rfl rfl rfl rfl rfl rfl rfl Try.call193 rfl (nodupB_sound _ rfl) rfl rfl rfl (spec_l02Go_ac k r1 ([] : List Int) (w64 ((bShl .i64 1 (IntKind.u64.wrap p0.p)) - 1)) p2 ([] : List (List Int)) p3 _ hr3) ?_
        rintro _ _ ⟨rfl, rfl⟩
        refine ⟨(allc (fun _ _ => trivial) (fun _ h => nomatch h)), (allc (trivial) (fun _ h => nomatch h)), AOps_as 21 (v' := .vec 1 1) (H' := [.gone, .vec 1 (rowsD r3), .gone]) rfl rfl ?_⟩
        refine AOps_nil ?_
        refine AU_u 13 8 _ rfl (by kernel_rfl) rfl rfl rfl (UOp_assign _ _ rfl rfl) ?_
        refine AU_done (by kernel_rfl) ?_
        exact ⟨rfl, Weak_trans (Weak_keep 0 hm [8] [1] _ _ rfl rfl rfl) (Weak_reset 0 hm hz [8] _ _ rfl rfl)⟩
     ·refine US_of 5 rfl rfl ?_
      refine AOps_q 14 _ rfl rfl rfl (QOp_load_pv _ _ _ _ _ rfl Try.isAgg2 rfl rfl) ?_
      refine AOps_nil ?_
      refine AU_u 6 15 _ rfl (by kernel_rfl) rfl rfl rfl (UOp_conv _ _ _ _ _ _ rfl rfl Try.underlying106 rfl) ?_
      refine AU_u 7 16 _ rfl (by kernel_rfl) rfl rfl rfl (UOp_shl _ _ _ _ _ _ _ _ hc2 rfl rfl rfl) ?_
      refine AU_u 8 17 _ rfl (by kernel_rfl) rfl rfl rfl (UOp_sub _ _ _ _ _ _ _ rfl rfl rfl) ?_
      refine AU_all [2] (by kernel_rfl) rfl (allc ?_ (fun _ h => nomatch h))
      ·refine US_of 2 rfl rfl ?_
       refine AOps_call [] 11 _ _ _ _ _ _ _ _ _ _ rfl rfl rfl rfl rfl rfl rfl Try.call113 rfl (nodupB_sound _ rfl) rfl rfl rfl (spec_l02Rows_ac k p0 p1 _ hr1) ?_
       rintro _ _ ⟨rfl, rfl⟩
       refine ⟨(allc (fun _ _ => trivial) (fun _ h => nomatch h)), (allc (trivial) (fun _ h => nomatch h)), AOps_as 11 (v' := .vec 2 0) (H' := [.vec 0 (intsD ([] : List Int)), .vec 0 (rowsD ([] : List (List Int))), .vec 0 (intsD r1)]) rfl rfl ?_⟩
       refine AOps_nil ?_
       refine AU_all [12] (by kernel_rfl) rfl (allc ?_ (fun _ h => nomatch h))
       ·refine US_of 12 rfl rfl ?_
        refine AOps_freezeL [12] 0 0 _ (allc (rfl) (fun _ h => nomatch h)) rfl ?_
        refine AOps_freezeL [11] 2 0 _ (allc (rfl) (fun _ h => nomatch h)) rfl ?_
        refine AOps_call [1] 21 _ _ _ _ _ _ _ _ _ _ rfl rfl rfl rfl rfl rfl rfl Try.call193 rfl (nodupB_sound _ rfl) rfl rfl rfl (spec_l02Go_ac k r1 ([] : List Int) (w64 ((bShl .i64 1 (IntKind.u64.wrap p0.p)) - 1)) p2 ([] : List (List Int)) p3 _ hr3) ?_
        rintro _ _ ⟨rfl, rfl⟩
        refine ⟨(allc (fun _ _ => trivial) (fun _ h => nomatch h)), (allc (trivial) (fun _ h => nomatch h)), AOps_as 21 (v' := .vec 1 1) (H' := [.gone, .vec 1 (rowsD r3), .gone]) rfl rfl ?_⟩
        refine AOps_nil ?_
        refine AU_u 13 8 _ rfl (by kernel_rfl) rfl rfl rfl (UOp_assign _ _ rfl rfl) ?_
        refine AU_done (by kernel_rfl) ?_
        exact ⟨rfl, Weak_trans (Weak_keep 0 hm [8] [1] _ _ rfl rfl rfl) (Weak_reset 0 hm hz [8] _ _ rfl rfl)⟩
    ·refine US_of 5 rfl rfl ?_
     refine AOps_q 14 _ rfl rfl rfl (QOp_load_pv _ _ _ _ _ rfl Try.isAgg2 rfl rfl) ?_
     refine AOps_nil ?_
     refine AU_u 6 15 _ rfl (by kernel_rfl) rfl rfl rfl (UOp_conv _ _ _ _ _ _ rfl rfl Try.underlying106 rfl) ?_
     refine AU_u 7 16 _ rfl (by kernel_rfl) rfl rfl rfl (UOp_shl _ _ _ _ _ _ _ _ hc2 rfl rfl rfl) ?_
     refine AU_u 8 17 _ rfl (by kernel_rfl) rfl rfl rfl (UOp_sub _ _ _ _ _ _ _ rfl rfl rfl) ?_
     refine AU_all [0] (by kernel_rfl) rfl (allc ?_ (fun _ h => nomatch h))
     ·refine US_of 0 rfl rfl ?_
      refine AOps_q 9 _ rfl rfl rfl (QOp_loadN_pv _ _ _ _ _ _ rfl Try.isAgg29 Try.sizeOf29 rfl (colD_all _) (colD_length _)) ?_
      refine AOps_nil ?_
      refine AU_all [2] (by kernel_rfl) rfl (allc ?_ (fun _ h => nomatch h))
      ·refine US_of 2 rfl rfl ?_
       refine AOps_call [] 11 _ _ _ _ _ _ _ _ _ _ rfl rfl rfl rfl rfl rfl rfl Try.call113 rfl (nodupB_sound _ rfl) rfl rfl rfl (spec_l02Rows_ac k p0 p1 _ hr1) ?_
       rintro _ _ ⟨rfl, rfl⟩
       refine ⟨(allc (fun _ _ => trivial) (fun _ h => nomatch h)), (allc (trivial) (fun _ h => nomatch h)), AOps_as 11 (v' := .vec 2 0) (H' := [.vec 0 (intsD ([] : List Int)), .vec 0 (rowsD ([] : List (List Int))), .vec 0 (intsD r1)]) rfl rfl ?_⟩
       refine AOps_nil ?_
       refine AU_all [12] (by kernel_rfl) rfl (allc ?_ (fun _ h => nomatch h))
       ·refine US_of 12 rfl rfl ?_
        refine AOps_freezeL [12] 0 0 _ (allc (rfl) (fun _ h => nomatch h)) rfl ?_
        refine AOps_freezeL [11] 2 0 _ (allc (rfl) (fun _ h => nomatch h)) rfl ?_
        refine AOps_call [1] 21 _ _ _ _ _ _ _ _ _ _ rfl rfl rfl rfl rfl rfl rfl Try.call193 rfl (nodupB_sound _ rfl) rfl rfl rfl (spec_l02Go_ac k r1 ([] : List Int) (w64 ((bShl .i64 1 (IntKind.u64.wrap p0.p)) - 1)) p2 ([] : List (List Int)) p3 _ hr3) ?_
        rintro _ _ ⟨rfl, rfl⟩
        refine ⟨(allc (fun _ _ => trivial) (fun _ h => nomatch h)), (allc (trivial) (fun _ h => nomatch h)), AOps_as 21 (v' := .vec 1 1) (H' := [.gone, .vec 1 (rowsD r3), .gone]) rfl rfl ?_⟩
        refine AOps_nil ?_
        refine AU_u 13 8 _ rfl (by kernel_rfl) rfl rfl rfl (UOp_assign _ _ rfl rfl) ?_
        refine AU_done (by kernel_rfl) ?_
        exact ⟨rfl, Weak_trans (Weak_keep 0 hm [8] [1] _ _ rfl rfl rfl) (Weak_reset 0 hm hz [8] _ _ rfl rfl)⟩
  ·refine US_of 5 rfl rfl ?_
   refine AOps_q 14 _ rfl rfl rfl (QOp_load_pv _ _ _ _ _ rfl Try.isAgg2 rfl rfl) ?_
   refine AOps_nil ?_
   refine AU_u 6 15 _ rfl (by kernel_rfl) rfl rfl rfl (UOp_conv _ _ _ _ _ _ rfl rfl Try.underlying106 rfl) ?_
   refine AU_u 7 16 _ rfl (by kernel_rfl) rfl rfl rfl (UOp_shl _ _ _ _ _ _ _ _ hc2 rfl rfl rfl) ?_
   refine AU_u 8 17 _ rfl (by kernel_rfl) rfl rfl rfl (UOp_sub _ _ _ _ _ _ _ rfl rfl rfl) ?_
   refine AU_all [0, 3, 10] (by kernel_rfl) rfl (allc ?_ (allc ?_ (allc ?_ (fun _ h => nomatch h))))
   ·refine US_of 0 rfl rfl ?_
    refine AOps_q 9 _ rfl rfl rfl (QOp_loadN_pv _ _ _ _ _ _ rfl Try.isAgg29 Try.sizeOf29 rfl (colD_all _) (colD_length _)) ?_
    refine AOps_nil ?_
    refine AU_all [2, 3, 10] (by kernel_rfl) rfl (allc ?_ (allc ?_ (allc ?_ (fun _ h => nomatch h))))
    ·refine US_of 2 rfl rfl ?_
     refine AOps_call [] 11 _ _ _ _ _ _ _ _ _ _ rfl rfl rfl rfl rfl rfl rfl Try.call113 rfl (nodupB_sound _ rfl) rfl rfl rfl (spec_l02Rows_ac k p0 p1 _ hr1) ?_
     rintro _ _ ⟨rfl, rfl⟩
     refine ⟨(allc (fun _ _ => trivial) (fun _ h => nomatch h)), (allc (trivial) (fun _ h => nomatch h)), AOps_as 11 (v' := .vec 0 0) (H' := [.vec 0 (intsD r1)]) rfl rfl ?_⟩
     refine AOps_nil ?_
     refine AU_all [3, 10] (by kernel_rfl) rfl (allc ?_ (allc ?_ (fun _ h => nomatch h)))
     ·refine US_of 3 rfl rfl ?_
      refine AOps_buildSlice 12 _ _ _ [] (intsD ([] : List Int)) _ rfl rfl rfl rfl rfl (by decide) Try.underlying24 Try.sizeOf2 (zero_of Try.typeInfo2 rfl) rfl rfl (intsD_one _) ?_
      refine AOps_nil ?_
      refine AU_all [10] (by kernel_rfl) rfl (allc ?_ (fun _ h => nomatch h))
      ·refine US_of 10 rfl rfl ?_
       refine AOps_buildSlice 19 _ _ _ [] (rowsD ([] : List (List Int))) _ rfl rfl rfl rfl rfl (by decide) Try.underlying45 Try.sizeOf24 (zero_of Try.typeInfo24 rfl) rfl rfl (rowsD_one _) ?_
       refine AOps_nil ?_
       refine AU_all [12] (by kernel_rfl) rfl (allc ?_ (fun _ h => nomatch h))
       ·refine US_of 12 rfl rfl ?_
        refine AOps_freezeL [11] 0 0 _ (allc (rfl) (fun _ h => nomatch h)) rfl ?_
        refine AOps_freezeL [12] 1 0 _ (allc (rfl) (fun _ h => nomatch h)) rfl ?_
        refine AOps_call [2] 21 _ _ _ _ _ _ _ _ _ _ rfl rfl rfl rfl rfl rfl rfl Try.call193 rfl (nodupB_sound _ rfl) rfl rfl rfl (spec_l02Go_ac k r1 ([] : List Int) (w64 ((bShl .i64 1 (IntKind.u64.wrap p0.p)) - 1)) p2 ([] : List (List Int)) p3 _ hr3) ?_
        rintro _ _ ⟨rfl, rfl⟩
        refine ⟨(allc (fun _ _ => trivial) (fun _ h => nomatch h)), (allc (trivial) (fun _ h => nomatch h)), AOps_as 21 (v' := .vec 2 1) (H' := [.gone, .gone, .vec 1 (rowsD r3)]) rfl rfl ?_⟩
        refine AOps_nil ?_
        refine AU_u 13 8 _ rfl (by kernel_rfl) rfl rfl rfl (UOp_assign _ _ rfl rfl) ?_
        refine AU_done (by kernel_rfl) ?_
        exact ⟨rfl, Weak_trans (Weak_keep 0 hm [8] [2] _ _ rfl rfl rfl) (Weak_reset 0 hm hz [8] _ _ rfl rfl)⟩
     ·refine US_of 10 rfl rfl ?_
      refine AOps_buildSlice 19 _ _ _ [] (rowsD ([] : List (List Int))) _ rfl rfl rfl rfl rfl (by decide) Try.underlying45 Try.sizeOf24 (zero_of Try.typeInfo24 rfl) rfl rfl (rowsD_one _) ?_
      refine AOps_nil ?_
      refine AU_all [3] (by kernel_rfl) rfl (allc ?_ (fun _ h => nomatch h))
      ·refine US_of 3 rfl rfl ?_
       refine AOps_buildSlice 12 _ _ _ [] (intsD ([] : List Int)) _ rfl rfl rfl rfl rfl (by decide) Try.underlying24 Try.sizeOf2 (zero_of Try.typeInfo2 rfl) rfl rfl (intsD_one _) ?_
       refine AOps_nil ?_
       refine AU_all [12] (by kernel_rfl) rfl (allc ?_ (fun _ h => nomatch h))
       ·refine US_of 12 rfl rfl ?_
        refine AOps_freezeL [11] 0 0 _ (allc (rfl) (fun _ h => nomatch h)) rfl ?_
        refine AOps_freezeL [12] 2 0 _ (allc (rfl) (fun _ h => nomatch h)) rfl ?_
        refine AOps_call [1] 21 _ _ _ _ _ _ _ _ _ _ rfl rfl rfl rfl rfl rfl rfl Try.call193 rfl (nodupB_sound _ rfl) rfl rfl rfl (spec_l02Go_ac k r1 ([] : List Int) (w64 ((bShl .i64 1 (IntKind.u64.wrap p0.p)) - 1)) p2 ([] : List (List Int)) p3 _ hr3) ?_
        rintro _ _ ⟨rfl, rfl⟩
        refine ⟨(allc (fun _ _ => trivial) (fun _ h => nomatch h)), (allc (trivial) (fun _ h => nomatch h)), AOps_as 21 (v' := .vec 1 1) (H' := [.gone, .vec 1 (rowsD r3), .gone]) rfl rfl ?_⟩
        refine AOps_nil ?_
        refine AU_u 13 8 _ rfl (by kernel_rfl) rfl rfl rfl (UOp_assign _ _ rfl rfl) ?_
        refine AU_done (by kernel_rfl) ?_
        exact ⟨rfl, Weak_trans (Weak_keep 0 hm [8] [1] _ _ rfl rfl rfl) (Weak_reset 0 hm hz [8] _ _ rfl rfl)⟩
    ·refine US_of 3 rfl rfl ?_
     refine AOps_buildSlice 12 _ _ _ [] (intsD ([] : List Int)) _ rfl rfl rfl rfl rfl (by decide) Try.underlying24 Try.sizeOf2 (zero_of Try.typeInfo2 rfl) rfl rfl (intsD_one _) ?_
     refine AOps_nil ?_
     refine AU_all [2, 10] (by kernel_rfl) rfl (allc ?_ (allc ?_ (fun _ h => nomatch h)))
     ·refine US_of 2 rfl rfl ?_
      refine AOps_call [] 11 _ _ _ _ _ _ _ _ _ _ rfl rfl rfl rfl rfl rfl rfl Try.call113 rfl (nodupB_sound _ rfl) rfl rfl rfl (spec_l02Rows_ac k p0 p1 _ hr1) ?_
      rintro _ _ ⟨rfl, rfl⟩
      refine ⟨(allc (fun _ _ => trivial) (fun _ h => nomatch h)), (allc (trivial) (fun _ h => nomatch h)), AOps_as 11 (v' := .vec 1 0) (H' := [.vec 0 (intsD ([] : List Int)), .vec 0 (intsD r1)]) rfl rfl ?_⟩
      refine AOps_nil ?_
      refine AU_all [10] (by kernel_rfl) rfl (allc ?_ (fun _ h => nomatch h))
      ·refine US_of 10 rfl rfl ?_
       refine AOps_buildSlice 19 _ _ _ [] (rowsD ([] : List (List Int))) _ rfl rfl rfl rfl rfl (by decide) Try.underlying45 Try.sizeOf24 (zero_of Try.typeInfo24 rfl) rfl rfl (rowsD_one _) ?_
       refine AOps_nil ?_
       refine AU_all [12] (by kernel_rfl) rfl (allc ?_ (fun _ h => nomatch h))
       ·refine US_of 12 rfl rfl ?_
        refine AOps_freezeL [12] 0 0 _ (allc (rfl) (fun _ h => nomatch h)) rfl ?_
        refine AOps_freezeL [11] 1 0 _ (allc (rfl) (fun _ h => nomatch h)) rfl ?_
        refine AOps_call [2] 21 _ _ _ _ _ _ _ _ _ _ rfl rfl rfl rfl rfl rfl rfl Try.call193 rfl (nodupB_sound _ rfl) rfl rfl rfl (spec_l02Go_ac k r1 ([] : List Int) (w64 ((bShl .i64 1 (IntKind.u64.wrap p0.p)) - 1)) p2 ([] : List (List Int)) p3 _ hr3) ?_
        rintro _ _ ⟨rfl, rfl⟩
        refine ⟨(allc (fun _ _ => trivial) (fun _ h => nomatch h)), (allc (trivial) (fun _ h => nomatch h)), AOps_as 21 (v' := .vec 2 1) (H' := [.gone, .gone, .vec 1 (rowsD r3)]) rfl rfl ?_⟩
        refine AOps_nil ?_
        refine AU_u 13 8 _ rfl (by kernel_rfl) rfl rfl rfl (UOp_assign _ _ rfl rfl) ?_
        refine AU_done (by kernel_rfl) ?_
        exact ⟨rfl, Weak_trans (Weak_keep 0 hm [8] [2] _ _ rfl rfl rfl) (Weak_reset 0 hm hz [8] _ _ rfl rfl)⟩
     ·refine US_of 10 rfl rfl ?_
      refine AOps_buildSlice 19 _ _ _ [] (rowsD ([] : List (List Int))) _ rfl rfl rfl rfl rfl (by decide) Try.underlying45 Try.sizeOf24 (zero_of Try.typeInfo24 rfl) rfl rfl (rowsD_one _) ?_
      refine AOps_nil ?_
      refine AU_all [2] (by kernel_rfl) rfl (allc ?_ (fun _ h => nomatch h))
      ·refine US_of 2 rfl rfl ?_
       refine AOps_call [] 11 _ _ _ _ _ _ _ _ _ _ rfl rfl rfl rfl rfl rfl rfl Try.call113 rfl (nodupB_sound _ rfl) rfl rfl rfl (spec_l02Rows_ac k p0 p1 _ hr1) ?_
       rintro _ _ ⟨rfl, rfl⟩
       refine ⟨(allc (fun _ _ => trivial) (fun _ h => nomatch h)), (allc (trivial) (fun _ h => nomatch h)), AOps_as 11 (v' := .vec 2 0) (H' := [.vec 0 (intsD ([] : List Int)), .vec 0 (rowsD ([] : List (List Int))), .vec 0 (intsD r1)]) rfl rfl ?_⟩
       refine AOps_nil ?_
       refine AU_all [12] (by kernel_rfl) rfl (allc ?_ (fun _ h => nomatch h))
       ·refine US_of 12 rfl rfl ?_
        refine AOps_freezeL [12] 0 0 _ (allc (rfl) (fun _ h => nomatch h)) rfl ?_
        refine AOps_freezeL [11] 2 0 _ (allc (rfl) (fun _ h => nomatch h)) rfl ?_
        refine AOps_call [1] 21 _ _ _ _ _ _ _ _ _ _ rfl rfl rfl rfl rfl rfl rfl Try.call193 rfl (nodupB_sound _ rfl) rfl rfl rfl (spec_l02Go_ac k r1 ([] : List Int) (w64 ((bShl .i64 1 (IntKind.u64.wrap p0.p)) - 1)) p2 ([] : List (List Int)) p3 _ hr3) ?_
        rintro _ _ ⟨rfl, rfl⟩
        refine ⟨(allc (fun _ _ => trivial) (fun _ h => nomatch h)), (allc (trivial) (fun _ h => nomatch h)), AOps_as 21 (v' := .vec 1 1) (H' := [.gone, .vec 1 (rowsD r3), .gone]) rfl rfl ?_⟩
        refine AOps_nil ?_
        refine AU_u 13 8 _ rfl (by kernel_rfl) rfl rfl rfl (UOp_assign _ _ rfl rfl) ?_
        refine AU_done (by kernel_rfl) ?_
        exact ⟨rfl, Weak_trans (Weak_keep 0 hm [8] [1] _ _ rfl rfl rfl) (Weak_reset 0 hm hz [8] _ _ rfl rfl)⟩
    ·refine US_of 10 rfl rfl ?_
     refine AOps_buildSlice 19 _ _ _ [] (rowsD ([] : List (List Int))) _ rfl rfl rfl rfl rfl (by decide) Try.underlying45 Try.sizeOf24 (zero_of Try.typeInfo24 rfl) rfl rfl (rowsD_one _) ?_
     refine AOps_nil ?_
     refine AU_all [2, 3] (by kernel_rfl) rfl (allc ?_ (allc ?_ (fun _ h => nomatch h)))
     ·refine US_of 2 rfl rfl ?_
      refine AOps_call [] 11 _ _ _ _ _ _ _ _ _ _ rfl rfl rfl rfl rfl rfl rfl Try.call113 rfl (nodupB_sound _ rfl) rfl rfl rfl (spec_l02Rows_ac k p0 p1 _ hr1) ?_
      rintro _ _ ⟨rfl, rfl⟩
      refine ⟨(allc (fun _ _ => trivial) (fun _ h => nomatch h)), (allc (trivial) (fun _ h => nomatch h)), AOps_as 11 (v' := .vec 1 0) (H' := [.vec 0 (rowsD ([] : List (List Int))), .vec 0 (intsD r1)]) rfl rfl ?_⟩
      refine AOps_nil ?_
      refine AU_all [3] (by kernel_rfl) rfl (allc ?_ (fun _ h => nomatch h))
      ·refine US_of 3 rfl rfl ?_
       refine AOps_buildSlice 12 _ _ _ [] (intsD ([] : List Int)) _ rfl rfl rfl rfl rfl (by decide) Try.underlying24 Try.sizeOf2 (zero_of Try.typeInfo2 rfl) rfl rfl (intsD_one _) ?_
       refine AOps_nil ?_
       refine AU_all [12] (by kernel_rfl) rfl (allc ?_ (fun _ h => nomatch h))
       ·refine US_of 12 rfl rfl ?_
        refine AOps_freezeL [11] 1 0 _ (allc (rfl) (fun _ h => nomatch h)) rfl ?_
        refine AOps_freezeL [12] 2 0 _ (allc (rfl) (fun _ h => nomatch h)) rfl ?_
        refine AOps_call [0] 21 _ _ _ _ _ _ _ _ _ _ rfl rfl rfl rfl rfl rfl rfl Try.call193 rfl (nodupB_sound _ rfl) rfl rfl rfl (spec_l02Go_ac k r1 ([] : List Int) (w64 ((bShl .i64 1 (IntKind.u64.wrap p0.p)) - 1)) p2 ([] : List (List Int)) p3 _ hr3) ?_
        rintro _ _ ⟨rfl, rfl⟩
        refine ⟨(allc (fun _ _ => trivial) (fun _ h => nomatch h)), (allc (trivial) (fun _ h => nomatch h)), AOps_as 21 (v' := .vec 0 1) (H' := [.vec 1 (rowsD r3), .gone, .gone]) rfl rfl ?_⟩
        refine AOps_nil ?_
        refine AU_u 13 8 _ rfl (by kernel_rfl) rfl rfl rfl (UOp_assign _ _ rfl rfl) ?_
        refine AU_done (by kernel_rfl) ?_
        exact ⟨rfl, Weak_trans (Weak_keep 0 hm [8] [0] _ _ rfl rfl rfl) (Weak_reset 0 hm hz [8] _ _ rfl rfl)⟩
     ·refine US_of 3 rfl rfl ?_
      refine AOps_buildSlice 12 _ _ _ [] (intsD ([] : List Int)) _ rfl rfl rfl rfl rfl (by decide) Try.underlying24 Try.sizeOf2 (zero_of Try.typeInfo2 rfl) rfl rfl (intsD_one _) ?_
      refine AOps_nil ?_
      refine AU_all [2] (by kernel_rfl) rfl (allc ?_ (fun _ h => nomatch h))
      ·refine US_of 2 rfl rfl ?_
       refine AOps_call [] 11 _ _ _ _ _ _ _ _ _ _ rfl rfl rfl rfl rfl rfl rfl Try.call113 rfl (nodupB_sound _ rfl) rfl rfl rfl (spec_l02Rows_ac k p0 p1 _ hr1) ?_
       rintro _ _ ⟨rfl, rfl⟩
       refine ⟨(allc (fun _ _ => trivial) (fun _ h => nomatch h)), (allc (trivial) (fun _ h => nomatch h)), AOps_as 11 (v' := .vec 2 0) (H' := [.vec 0 (rowsD ([] : List (List Int))), .vec 0 (intsD ([] : List Int)), .vec 0 (intsD r1)]) rfl rfl ?_⟩
       refine AOps_nil ?_
       refine AU_all [12] (by kernel_rfl) rfl (allc ?_ (fun _ h => nomatch h))
       ·refine US_of 12 rfl rfl ?_
        refine AOps_freezeL [12] 1 0 _ (allc (rfl) (fun _ h => nomatch h)) rfl ?_
        refine AOps_freezeL [11] 2 0 _ (allc (rfl) (fun _ h => nomatch h)) rfl ?_
        refine AOps_call [0] 21 _ _ _ _ _ _ _ _ _ _ rfl rfl rfl rfl rfl rfl rfl Try.call193 rfl (nodupB_sound _ rfl) rfl rfl rfl (spec_l02Go_ac k r1 ([] : List Int) (w64 ((bShl .i64 1 (IntKind.u64.wrap p0.p)) - 1)) p2 ([] : List (List Int)) p3 _ hr3) ?_
        rintro _ _ ⟨rfl, rfl⟩
        refine ⟨(allc (fun _ _ => trivial) (fun _ h => nomatch h)), (allc (trivial) (fun _ h => nomatch h)), AOps_as 21 (v' := .vec 0 1) (H' := [.vec 1 (rowsD r3), .gone, .gone]) rfl rfl ?_⟩
        refine AOps_nil ?_
        refine AU_u 13 8 _ rfl (by kernel_rfl) rfl rfl rfl (UOp_assign _ _ rfl rfl) ?_
        refine AU_done (by kernel_rfl) ?_
        exact ⟨rfl, Weak_trans (Weak_keep 0 hm [8] [0] _ _ rfl rfl rfl) (Weak_reset 0 hm hz [8] _ _ rfl rfl)⟩
   ·refine US_of 3 rfl rfl ?_
    refine AOps_buildSlice 12 _ _ _ [] (intsD ([] : List Int)) _ rfl rfl rfl rfl rfl (by decide) Try.underlying24 Try.sizeOf2 (zero_of Try.typeInfo2 rfl) rfl rfl (intsD_one _) ?_
    refine AOps_nil ?_
    refine AU_all [0, 10] (by kernel_rfl) rfl (allc ?_ (allc ?_ (fun _ h => nomatch h)))
    ·refine US_of 0 rfl rfl ?_
     refine AOps_q 9 _ rfl rfl rfl (QOp_loadN_pv _ _ _ _ _ _ rfl Try.isAgg29 Try.sizeOf29 rfl (colD_all _) (colD_length _)) ?_
     refine AOps_nil ?_
     refine AU_all [2, 10] (by kernel_rfl) rfl (allc ?_ (allc ?_ (fun _ h => nomatch h)))
     ·refine US_of 2 rfl rfl ?_
      refine AOps_call [] 11 _ _ _ _ _ _ _ _ _ _ rfl rfl rfl rfl rfl rfl rfl Try.call113 rfl (nodupB_sound _ rfl) rfl rfl rfl (spec_l02Rows_ac k p0 p1 _ hr1) ?_
      rintro _ _ ⟨rfl, rfl⟩
      refine ⟨(allc (fun _ _ => trivial) (fun _ h => nomatch h)), (allc (trivial) (fun _ h => nomatch h)), AOps_as 11 (v' := .vec 1 0) (H' := [.vec 0 (intsD ([] : List Int)), .vec 0 (intsD r1)]) rfl rfl ?_⟩
      refine AOps_nil ?_
      refine AU_all [10] (by kernel_rfl) rfl (allc ?_ (fun _ h => nomatch h))
      ·refine US_of 10 rfl rfl ?_
       refine AOps_buildSlice 19 _ _ _ [] (rowsD ([] : List (List Int))) _ rfl rfl rfl rfl rfl (by decide) Try.underlying45 Try.sizeOf24 (zero_of Try.typeInfo24 rfl) rfl rfl (rowsD_one _) ?_
       refine AOps_nil ?_
       refine AU_all [12] (by kernel_rfl) rfl (allc ?_ (fun _ h => nomatch h))
       ·refine US_of 12 rfl rfl ?_
        refine AOps_freezeL [12] 0 0 _ (allc (rfl) (fun _ h => nomatch h)) rfl ?_
        refine AOps_freezeL [11] 1 0 _ (allc (rfl) (fun _ h => nomatch h)) rfl ?_
        refine AOps_call [2] 21 _ _ _ _ _ _ _ _ _ _ rfl rfl rfl rfl rfl rfl rfl Try.call193 rfl (nodupB_sound _ rfl) rfl rfl rfl (spec_l02Go_ac k r1 ([] : List Int) (w64 ((bShl .i64 1 (IntKind.u64.wrap p0.p)) - 1)) p2 ([] : List (List Int)) p3 _ hr3) ?_
        rintro _ _ ⟨rfl, rfl⟩
        refine ⟨(allc (fun _ _ => trivial) (fun _ h => nomatch h)), (allc (trivial) (fun _ h => nomatch h)), AOps_as 21 (v' := .vec 2 1) (H' := [.gone, .gone, .vec 1 (rowsD r3)]) rfl rfl ?_⟩
        refine AOps_nil ?_
        refine AU_u 13 8 _ rfl (by kernel_rfl) rfl rfl rfl (UOp_assign _ _ rfl rfl) ?_
        refine AU_done (by kernel_rfl) ?_
        exact ⟨rfl, Weak_trans (Weak_keep 0 hm [8] [2] _ _ rfl rfl rfl) (Weak_reset 0 hm hz [8] _ _ rfl rfl)⟩
     ·refine US_of 10 rfl rfl ?_
      refine AOps_buildSlice 19 _ _ _ [] (rowsD ([] : List (List Int))) _ rfl rfl rfl rfl rfl (by decide) Try.underlying45 Try.sizeOf24 (zero_of Try.typeInfo24 rfl) rfl rfl (rowsD_one _) ?_
      refine AOps_nil ?_
      refine AU_all [2] (by kernel_rfl) rfl (allc ?_ (fun _ h => nomatch h))
      ·refine US_of 2 rfl rfl ?_
       refine AOps_call [] 11 _ _ _ _ _ _ _ _ _ _ rfl rfl rfl rfl rfl rfl rfl Try.call113 rfl (nodupB_sound _ rfl) rfl rfl rfl (spec_l02Rows_ac k p0 p1 _ hr1) ?_
       rintro _ _ ⟨rfl, rfl⟩
       refine ⟨(allc (fun _ _ => trivial) (fun _ h => nomatch h)), (allc (trivial) (fun _ h => nomatch h)), AOps_as 11 (v' := .vec 2 0) (H' := [.vec 0 (intsD ([] : List Int)), .vec 0 (rowsD ([] : List (List Int))), .vec 0 (intsD r1)]) rfl rfl ?_⟩
       refine AOps_nil ?_
       refine AU_all [12] (by kernel_rfl) rfl (allc ?_ (fun _ h => nomatch h))
       ·refine US_of 12 rfl rfl ?_
        refine AOps_freezeL [12] 0 0 _ (allc (rfl) (fun _ h => nomatch h)) rfl ?_
        refine AOps_freezeL [11] 2 0 _ (allc (rfl) (fun _ h => nomatch h)) rfl ?_
        refine AOps_call [1] 21 _ _ _ _ _ _ _ _ _ _ rfl rfl rfl rfl rfl rfl rfl Try.call193 rfl (nodupB_sound _ rfl) rfl rfl rfl (spec_l02Go_ac k r1 ([] : List Int) (w64 ((bShl .i64 1 (IntKind.u64.wrap p0.p)) - 1)) p2 ([] : List (List Int)) p3 _ hr3) ?_
        rintro _ _ ⟨rfl, rfl⟩
        refine ⟨(allc (fun _ _ => trivial) (fun _ h => nomatch h)), (allc (trivial) (fun _ h => nomatch h)), AOps_as 21 (v' := .vec 1 1) (H' := [.gone, .vec 1 (rowsD r3), .gone]) rfl rfl ?_⟩
        refine AOps_nil ?_
        refine AU_u 13 8 _ rfl (by kernel_rfl) rfl rfl rfl (UOp_assign _ _ rfl rfl) ?_
        refine AU_done (by kernel_rfl) ?_
        exact ⟨rfl, Weak_trans (Weak_keep 0 hm [8] [1] _ _ rfl rfl rfl) (Weak_reset 0 hm hz [8] _ _ rfl rfl)⟩
    ·refine US_of 10 rfl rfl ?_
     refine AOps_buildSlice 19 _ _ _ [] (rowsD ([] : List (List Int))) _ rfl rfl rfl rfl rfl (by decide) Try.underlying45 Try.sizeOf24 (zero_of Try.typeInfo24 rfl) rfl rfl (rowsD_one _) ?_
     refine AOps_nil ?_
     refine AU_all [0] (by kernel_rfl) rfl (allc ?_ (fun _ h => nomatch h))
     ·refine US_of 0 rfl rfl ?_
      refine AOps_q 9 _ rfl rfl rfl (QOp_loadN_pv _ _ _ _ _ _ rfl Try.isAgg29 Try.sizeOf29 rfl (colD_all _) (colD_length _)) ?_
      refine AOps_nil ?_
      refine AU_all [2] (by kernel_rfl) rfl (allc ?_ (fun _ h => nomatch h))
      ·refine US_of 2 rfl rfl ?_
       refine AOps_call [] 11 _ _ _ _ _ _ _ _ _ _ rfl rfl rfl rfl rfl rfl rfl Try.call113 rfl (nodupB_sound _ rfl) rfl rfl rfl (spec_l02Rows_ac k p0 p1 _ hr1) ?_
       rintro _ _ ⟨rfl, rfl⟩
       refine ⟨(allc (fun _ _ => trivial) (fun _ h => nomatch h)), (allc (trivial) (fun _ h => nomatch h)), AOps_as 11 (v' := .vec 2 0) (H' := [.vec 0 (intsD ([] : List Int)), .vec 0 (rowsD ([] : List (List Int))), .vec 0 (intsD r1)]) rfl rfl ?_⟩
       refine AOps_nil ?_
       refine AU_all [12] (by kernel_rfl) rfl (allc ?_ (fun _ h => nomatch h))
       ·refine US_of 12 rfl rfl ?_
        refine AOps_freezeL [12] 0 0 _ (allc (rfl) (fun _ h => nomatch h)) rfl ?_
        refine AOps_freezeL [11] 2 0 _ (allc (rfl) (fun _ h => nomatch h)) rfl ?_
        refine AOps_call [1] 21 _ _ _ _ _ _ _ _ _ _ rfl rfl rfl rfl rfl rfl rfl Try.call193 rfl (nodupB_sound _ rfl) rfl rfl rfl (spec_l02Go_ac k r1 ([] : List Int) (w64 ((bShl .i64 1 (IntKind.u64.wrap p0.p)) - 1)) p2 ([] : List (List Int)) p3 _ hr3) ?_
        rintro _ _ ⟨rfl, rfl⟩
        refine ⟨(allc (fun _ _ => trivial) (fun _ h => nomatch h)), (allc (trivial) (fun _ h => nomatch h)), AOps_as 21 (v' := .vec 1 1) (H' := [.gone, .vec 1 (rowsD r3), .gone]) rfl rfl ?_⟩
        refine AOps_nil ?_
        refine AU_u 13 8 _ rfl (by kernel_rfl) rfl rfl rfl (UOp_assign _ _ rfl rfl) ?_
        refine AU_done (by kernel_rfl) ?_
        exact ⟨rfl, Weak_trans (Weak_keep 0 hm [8] [1] _ _ rfl rfl rfl) (Weak_reset 0 hm hz [8] _ _ rfl rfl)⟩
   ·refine US_of 10 rfl rfl ?_
    refine AOps_buildSlice 19 _ _ _ [] (rowsD ([] : List (List Int))) _ rfl rfl rfl rfl rfl (by decide) Try.underlying45 Try.sizeOf24 (zero_of Try.typeInfo24 rfl) rfl rfl (rowsD_one _) ?_
    refine AOps_nil ?_
    refine AU_all [0, 3] (by kernel_rfl) rfl (allc ?_ (allc ?_ (fun _ h => nomatch h)))
    ·refine US_of 0 rfl rfl ?_
     refine AOps_q 9 _ rfl rfl rfl (QOp_loadN_pv _ _ _ _ _ _ rfl Try.isAgg29 Try.sizeOf29 rfl (colD_all _) (colD_length _)) ?_
     refine AOps_nil ?_
     refine AU_all [2, 3] (by kernel_rfl) rfl (allc ?_ (allc ?_ (fun _ h => nomatch h)))
     ·refine US_of 2 rfl rfl ?_
      refine AOps_call [] 11 _ _ _ _ _ _ _ _ _ _ rfl rfl rfl rfl rfl rfl rfl Try.call113 rfl (nodupB_sound _ rfl) rfl rfl rfl (spec_l02Rows_ac k p0 p1 _ hr1) ?_
      rintro _ _ ⟨rfl, rfl⟩
      refine ⟨(allc (fun _ _ => trivial) (fun _ h => nomatch h)), (allc (trivial) (fun _ h => nomatch h)), AOps_as 11 (v' := .vec 1 0) (H' := [.vec 0 (rowsD ([] : List (List Int))), .vec 0 (intsD r1)]) rfl rfl ?_⟩
      refine AOps_nil ?_
      refine AU_all [3] (by kernel_rfl) rfl (allc ?_ (fun _ h => nomatch h))
      ·refine US_of 3 rfl rfl ?_
       refine AOps_buildSlice 12 _ _ _ [] (intsD ([] : List Int)) _ rfl rfl rfl rfl rfl (by decide) Try.underlying24 Try.sizeOf2 (zero_of Try.typeInfo2 rfl) rfl rfl (intsD_one _) ?_
       refine AOps_nil ?_
       refine AU_all [12] (by kernel_rfl) rfl (allc ?_ (fun _ h => nomatch h))
       ·refine US_of 12 rfl rfl ?_
        refine AOps_freezeL [11] 1 0 _ (allc (rfl) (fun _ h => nomatch h)) rfl ?_
        refine AOps_freezeL [12] 2 0 _ (allc (rfl) (fun _ h => nomatch h)) rfl ?_
        refine AOps_call [0] 21 _ _ _ _ _ _ _ _ _ _ rfl rfl rfl rfl rfl rfl rfl Try.call193 rfl (nodupB_sound _ rfl) rfl rfl rfl (spec_l02Go_ac k r1 ([] : List Int) (w64 ((bShl .i64 1 (IntKind.u64.wrap p0.p)) - 1)) p2 ([] : List (List Int)) p3 _ hr3) ?_
        rintro _ _ ⟨rfl, rfl⟩
        refine ⟨(allc (fun _ _ => trivial) (fun _ h => nomatch h)), (allc (trivial) (fun _ h => nomatch h)), AOps_as 21 (v' := .vec 0 1) (H' := [.vec 1 (rowsD r3), .gone, .gone]) rfl rfl ?_⟩
        refine AOps_nil ?_
        refine AU_u 13 8 _ rfl (by kernel_rfl) rfl rfl rfl (UOp_assign _ _ rfl rfl) ?_
        refine AU_done (by kernel_rfl) ?_
        exact ⟨rfl, Weak_trans (Weak_keep 0 hm [8] [0] _ _ rfl rfl rfl) (Weak_reset 0 hm hz [8] _ _ rfl rfl)⟩
     ·refine US_of 3 rfl rfl ?_
      refine AOps_buildSlice 12 _ _ _ [] (intsD ([] : List Int)) _ rfl rfl rfl rfl rfl (by decide) Try.underlying24 Try.sizeOf2 (zero_of Try.typeInfo2 rfl) rfl rfl (intsD_one _) ?_
      refine AOps_nil ?_
      refine AU_all [2] (by kernel_rfl) rfl (allc ?_ (fun _ h => nomatch h))
      ·refine US_of 2 rfl rfl ?_
       refine AOps_call [] 11 _ _ _ _ _ _ _ _ _ _ rfl rfl rfl rfl rfl rfl rfl Try.call113 rfl (nodupB_sound _ rfl) rfl rfl rfl (spec_l02Rows_ac k p0 p1 _ hr1) ?_
       rintro _ _ ⟨rfl, rfl⟩
       refine ⟨(allc (fun _ _ => trivial) (fun _ h => nomatch h)), (allc (trivial) (fun _ h => nomatch h)), AOps_as 11 (v' := .vec 2 0) (H' := [.vec 0 (rowsD ([] : List (List Int))), .vec 0 (intsD ([] : List Int)), .vec 0 (intsD r1)]) rfl rfl ?_⟩
       refine AOps_nil ?_
       refine AU_all [12] (by kernel_rfl) rfl (allc ?_ (fun _ h => nomatch h))
       ·refine US_of 12 rfl rfl ?_
        refine AOps_freezeL [12] 1 0 _ (allc (rfl) (fun _ h => nomatch h)) rfl ?_
        refine AOps_freezeL [11] 2 0 _ (allc (rfl) (fun _ h => nomatch h)) rfl ?_
        refine AOps_call [0] 21 _ _ _ _ _ _ _ _ _ _ rfl rfl rfl rfl rfl rfl rfl Try.call193 rfl (nodupB_sound _ rfl) rfl rfl rfl (spec_l02Go_ac k r1 ([] : List Int) (w64 ((bShl .i64 1 (IntKind.u64.wrap p0.p)) - 1)) p2 ([] : List (List Int)) p3 _ hr3) ?_
        rintro _ _ ⟨rfl, rfl⟩
        refine ⟨(allc (fun _ _ => trivial) (fun _ h => nomatch h)), (allc (trivial) (fun _ h => nomatch h)), AOps_as 21 (v' := .vec 0 1) (H' := [.vec 1 (rowsD r3), .gone, .gone]) rfl rfl ?_⟩
        refine AOps_nil ?_
        refine AU_u 13 8 _ rfl (by kernel_rfl) rfl rfl rfl (UOp_assign _ _ rfl rfl) ?_
        refine AU_done (by kernel_rfl) ?_
        exact ⟨rfl, Weak_trans (Weak_keep 0 hm [8] [0] _ _ rfl rfl rfl) (Weak_reset 0 hm hz [8] _ _ rfl rfl)⟩
    ·refine US_of 3 rfl rfl ?_
     refine AOps_buildSlice 12 _ _ _ [] (intsD ([] : List Int)) _ rfl rfl rfl rfl rfl (by decide) Try.underlying24 Try.sizeOf2 (zero_of Try.typeInfo2 rfl) rfl rfl (intsD_one _) ?_
     refine AOps_nil ?_
     refine AU_all [0] (by kernel_rfl) rfl (allc ?_ (fun _ h => nomatch h))
     ·refine US_of 0 rfl rfl ?_
      refine AOps_q 9 _ rfl rfl rfl (QOp_loadN_pv _ _ _ _ _ _ rfl Try.isAgg29 Try.sizeOf29 rfl (colD_all _) (colD_length _)) ?_
      refine AOps_nil ?_
      refine AU_all [2] (by kernel_rfl) rfl (allc ?_ (fun _ h => nomatch h))
      ·refine US_of 2 rfl rfl ?_
       refine AOps_call [] 11 _ _ _ _ _ _ _ _ _ _ rfl rfl rfl rfl rfl rfl rfl Try.call113 rfl (nodupB_sound _ rfl) rfl rfl rfl (spec_l02Rows_ac k p0 p1 _ hr1) ?_
       rintro _ _ ⟨rfl, rfl⟩
       refine ⟨(allc (fun _ _ => trivial) (fun _ h => nomatch h)), (allc (trivial) (fun _ h => nomatch h)), AOps_as 11 (v' := .vec 2 0) (H' := [.vec 0 (rowsD ([] : List (List Int))), .vec 0 (intsD ([] : List Int)), .vec 0 (intsD r1)]) rfl rfl ?_⟩
       refine AOps_nil ?_
       refine AU_all [12] (by kernel_rfl) rfl (allc ?_ (fun _ h => nomatch h))
       ·refine US_of 12 rfl rfl ?_
        refine AOps_freezeL [12] 1 0 _ (allc (rfl) (fun _ h => nomatch h)) rfl ?_
        refine AOps_freezeL [11] 2 0 _ (allc (rfl) (fun _ h => nomatch h)) rfl ?_
        refine AOps_call [0] 21 _ _ _ _ _ _ _ _ _ _ rfl rfl rfl rfl rfl rfl rfl Try.call193 rfl (nodupB_sound _ rfl) rfl rfl rfl (spec_l02Go_ac k r1 ([] : List Int) (w64 ((bShl .i64 1 (IntKind.u64.wrap p0.p)) - 1)) p2 ([] : List (List Int)) p3 _ hr3) ?_
        rintro _ _ ⟨rfl, rfl⟩
        refine ⟨(allc (fun _ _ => trivial) (fun _ h => nomatch h)), (allc (trivial) (fun _ h => nomatch h)), AOps_as 21 (v' := .vec 0 1) (H' := [.vec 1 (rowsD r3), .gone, .gone]) rfl rfl ?_⟩
        refine AOps_nil ?_
        refine AU_u 13 8 _ rfl (by kernel_rfl) rfl rfl rfl (UOp_assign _ _ rfl rfl) ?_
        refine AU_done (by kernel_rfl) ?_
        exact ⟨rfl, Weak_trans (Weak_keep 0 hm [8] [0] _ _ rfl rfl rfl) (Weak_reset 0 hm hz [8] _ _ rfl rfl)⟩
  ·refine US_of 10 rfl rfl ?_
   refine AOps_buildSlice 19 _ _ _ [] (rowsD ([] : List (List Int))) _ rfl rfl rfl rfl rfl (by decide) Try.underlying45 Try.sizeOf24 (zero_of Try.typeInfo24 rfl) rfl rfl (rowsD_one _) ?_
   refine AOps_nil ?_
   refine AU_all [0, 3, 5] (by kernel_rfl) rfl (allc ?_ (allc ?_ (allc ?_ (fun _ h => nomatch h))))
   ·refine US_of 0 rfl rfl ?_
    refine AOps_q 9 _ rfl rfl rfl (QOp_loadN_pv _ _ _ _ _ _ rfl Try.isAgg29 Try.sizeOf29 rfl (colD_all _) (colD_length _)) ?_
    refine AOps_nil ?_
    refine AU_all [2, 3, 5] (by kernel_rfl) rfl (allc ?_ (allc ?_ (allc ?_ (fun _ h => nomatch h))))
    ·refine US_of 2 rfl rfl ?_
     refine AOps_call [] 11 _ _ _ _ _ _ _ _ _ _ rfl rfl rfl rfl rfl rfl rfl Try.call113 rfl (nodupB_sound _ rfl) rfl rfl rfl (spec_l02Rows_ac k p0 p1 _ hr1) ?_
     rintro _ _ ⟨rfl, rfl⟩
     refine ⟨(allc (fun _ _ => trivial) (fun _ h => nomatch h)), (allc (trivial) (fun _ h => nomatch h)), AOps_as 11 (v' := .vec 1 0) (H' := [.vec 0 (rowsD ([] : List (List Int))), .vec 0 (intsD r1)]) rfl rfl ?_⟩
     refine AOps_nil ?_
     refine AU_all [3, 5] (by kernel_rfl) rfl (allc ?_ (allc ?_ (fun _ h => nomatch h)))
     ·refine US_of 3 rfl rfl ?_
      refine AOps_buildSlice 12 _ _ _ [] (intsD ([] : List Int)) _ rfl rfl rfl rfl rfl (by decide) Try.underlying24 Try.sizeOf2 (zero_of Try.typeInfo2 rfl) rfl rfl (intsD_one _) ?_
      refine AOps_nil ?_
      refine AU_all [5] (by kernel_rfl) rfl (allc ?_ (fun _ h => nomatch h))
      ·refine US_of 5 rfl rfl ?_
       refine AOps_q 14 _ rfl rfl rfl (QOp_load_pv _ _ _ _ _ rfl Try.isAgg2 rfl rfl) ?_
       refine AOps_nil ?_
       refine AU_u 6 15 _ rfl (by kernel_rfl) rfl rfl rfl (UOp_conv _ _ _ _ _ _ rfl rfl Try.underlying106 rfl) ?_
       refine AU_u 7 16 _ rfl (by kernel_rfl) rfl rfl rfl (UOp_shl _ _ _ _ _ _ _ _ hc2 rfl rfl rfl) ?_
       refine AU_u 8 17 _ rfl (by kernel_rfl) rfl rfl rfl (UOp_sub _ _ _ _ _ _ _ rfl rfl rfl) ?_
       refine AU_all [12] (by kernel_rfl) rfl (allc ?_ (fun _ h => nomatch h))
       ·refine US_of 12 rfl rfl ?_
        refine AOps_freezeL [11] 1 0 _ (allc (rfl) (fun _ h => nomatch h)) rfl ?_
        refine AOps_freezeL [12] 2 0 _ (allc (rfl) (fun _ h => nomatch h)) rfl ?_
        refine AOps_call [0] 21 _ _ _ _ _ _ _ _ _ _ rfl rfl rfl rfl rfl rfl rfl Try.call193 rfl (nodupB_sound _ rfl) rfl rfl rfl (spec_l02Go_ac k r1 ([] : List Int) (w64 ((bShl .i64 1 (IntKind.u64.wrap p0.p)) - 1)) p2 ([] : List (List Int)) p3 _ hr3) ?_
        rintro _ _ ⟨rfl, rfl⟩
        refine ⟨(allc (fun _ _ => trivial) (fun _ h => nomatch h)), (allc (trivial) (fun _ h => nomatch h)), AOps_as 21 (v' := .vec 0 1) (H' := [.vec 1 (rowsD r3), .gone, .gone]) rfl rfl ?_⟩
        refine AOps_nil ?_
        refine AU_u 13 8 _ rfl (by kernel_rfl) rfl rfl rfl (UOp_assign _ _ rfl rfl) ?_
        refine AU_done (by kernel_rfl) ?_
        exact ⟨rfl, Weak_trans (Weak_keep 0 hm [8] [0] _ _ rfl rfl rfl) (Weak_reset 0 hm hz [8] _ _ rfl rfl)⟩
     ·refine US_of 5 rfl rfl ?_
      refine AOps_q 14 _ rfl rfl rfl (QOp_load_pv _ _ _ _ _ rfl Try.isAgg2 rfl rfl) ?_
      refine AOps_nil ?_
      refine AU_u 6 15 _ rfl (by kernel_rfl) rfl rfl rfl (UOp_conv _ _ _ _ _ _ rfl rfl Try.underlying106 rfl) ?_
      refine AU_u 7 16 _ rfl (by kernel_rfl) rfl rfl rfl (UOp_shl _ _ _ _ _ _ _ _ hc2 rfl rfl rfl) ?_
      refine AU_u 8 17 _ rfl (by kernel_rfl) rfl rfl rfl (UOp_sub _ _ _ _ _ _ _ rfl rfl rfl) ?_
      refine AU_all [3] (by kernel_rfl) rfl (allc ?_ (fun _ h => nomatch h))
      ·refine US_of 3 rfl rfl ?_
       refine AOps_buildSlice 12 _ _ _ [] (intsD ([] : List Int)) _ rfl rfl rfl rfl rfl (by decide) Try.underlying24 Try.sizeOf2 (zero_of Try.typeInfo2 rfl) rfl rfl (intsD_one _) ?_
       refine AOps_nil ?_
       refine AU_all [12] (by kernel_rfl) rfl (allc ?_ (fun _ h => nomatch h))
       ·refine US_of 12 rfl rfl ?_
        refine AOps_freezeL [11] 1 0 _ (allc (rfl) (fun _ h => nomatch h)) rfl ?_
        refine AOps_freezeL [12] 2 0 _ (allc (rfl) (fun _ h => nomatch h)) rfl ?_
        refine AOps_call [0] 21 _ _ _ _ _ _ _ _ _ _ rfl rfl rfl rfl rfl rfl rfl Try.call193 rfl (nodupB_sound _ rfl) rfl rfl rfl (spec_l02Go_ac k r1 ([] : List Int) (w64 ((bShl .i64 1 (IntKind.u64.wrap p0.p)) - 1)) p2 ([] : List (List Int)) p3 _ hr3) ?_
        rintro _ _ ⟨rfl, rfl⟩
        refine ⟨(allc (fun _ _ => trivial) (fun _ h => nomatch h)), (allc (trivial) (fun _ h => nomatch h)), AOps_as 21 (v' := .vec 0 1) (H' := [.vec 1 (rowsD r3), .gone, .gone]) rfl rfl ?_⟩
        refine AOps_nil ?_
        refine AU_u 13 8 _ rfl (by kernel_rfl) rfl rfl rfl (UOp_assign _ _ rfl rfl) ?_
        refine AU_done (by kernel_rfl) ?_
        exact ⟨rfl, Weak_trans (Weak_keep 0 hm [8] [0] _ _ rfl rfl rfl) (Weak_reset 0 hm hz [8] _ _ rfl rfl)⟩
    ·refine US_of 3 rfl rfl ?_
     refine AOps_buildSlice 12 _ _ _ [] (intsD ([] : List Int)) _ rfl rfl rfl rfl rfl (by decide) Try.underlying24 Try.sizeOf2 (zero_of Try.typeInfo2 rfl) rfl rfl (intsD_one _) ?_
     refine AOps_nil ?_
     refine AU_all [2, 5] (by kernel_rfl) rfl (allc ?_ (allc ?_ (fun _ h => nomatch h)))
     ·refine US_of 2 rfl rfl ?_
      refine AOps_call [] 11 _ _ _ _ _ _ _ _ _ _ rfl rfl rfl rfl rfl rfl rfl Try.call113 rfl (nodupB_sound _ rfl) rfl rfl rfl (spec_l02Rows_ac k p0 p1 _ hr1) ?_
      rintro _ _ ⟨rfl, rfl⟩
      refine ⟨(allc (fun _ _ => trivial) (fun _ h => nomatch h)), (allc (trivial) (fun _ h => nomatch h)), AOps_as 11 (v' := .vec 2 0) (H' := [.vec 0 (rowsD ([] : List (List Int))), .vec 0 (intsD ([] : List Int)), .vec 0 (intsD r1)]) rfl rfl ?_⟩
      refine AOps_nil ?_
      refine AU_all [5] (by kernel_rfl) rfl (allc ?_ (fun _ h => nomatch h))
      ·refine US_of 5 rfl rfl ?_
       refine AOps_q 14 _ rfl rfl rfl (QOp_load_pv _ _ _ _ _ rfl Try.isAgg2 rfl rfl) ?_
       refine AOps_nil ?_
       refine AU_u 6 15 _ rfl (by kernel_rfl) rfl rfl rfl (UOp_conv _ _ _ _ _ _ rfl rfl Try.underlying106 rfl) ?_
       refine AU_u 7 16 _ rfl (by kernel_rfl) rfl rfl rfl (UOp_shl _ _ _ _ _ _ _ _ hc2 rfl rfl rfl) ?_
       refine AU_u 8 17 _ rfl (by kernel_rfl) rfl rfl rfl (UOp_sub _ _ _ _ _ _ _ rfl rfl rfl) ?_
       refine AU_all [12] (by kernel_rfl) rfl (allc ?_ (fun _ h => nomatch h))
       ·refine US_of 12 rfl rfl ?_
        refine AOps_freezeL [12] 1 0 _ (allc (rfl) (fun _ h => nomatch h)) rfl ?_
        refine AOps_freezeL [11] 2 0 _ (allc (rfl) (fun _ h => nomatch h)) rfl ?_
        refine AOps_call [0] 21 _ _ _ _ _ _ _ _ _ _ rfl rfl rfl rfl rfl rfl rfl Try.call193 rfl (nodupB_sound _ rfl) rfl rfl rfl (spec_l02Go_ac k r1 ([] : List Int) (w64 ((bShl .i64 1 (IntKind.u64.wrap p0.p)) - 1)) p2 ([] : List (List Int)) p3 _ hr3) ?_
        rintro _ _ ⟨rfl, rfl⟩
        refine ⟨(allc (fun _ _ => trivial) (fun _ h => nomatch h)), (allc (trivial) (fun _ h => nomatch h)), AOps_as 21 (v' := .vec 0 1) (H' := [.vec 1 (rowsD r3), .gone, .gone]) rfl rfl ?_⟩
        refine AOps_nil ?_
        refine AU_u 13 8 _ rfl (by kernel_rfl) rfl rfl rfl (UOp_assign _ _ rfl rfl) ?_
        refine AU_done (by kernel_rfl) ?_
        exact ⟨rfl, Weak_trans (Weak_keep 0 hm [8] [0] _ _ rfl rfl rfl) (Weak_reset 0 hm hz [8] _ _ rfl rfl)⟩
     ·refine US_of 5 rfl rfl ?_
      refine AOps_q 14 _ rfl rfl rfl (QOp_load_pv _ _ _ _ _ rfl Try.isAgg2 rfl rfl) ?_
      refine AOps_nil ?_
      refine AU_u 6 15 _ rfl (by kernel_rfl) rfl rfl rfl (UOp_conv _ _ _ _ _ _ rfl rfl Try.underlying106 rfl) ?_
      refine AU_u 7 16 _ rfl (by kernel_rfl) rfl rfl rfl (UOp_shl _ _ _ _ _ _ _ _ hc2 rfl rfl rfl) ?_
      refine AU_u 8 17 _ rfl (by kernel_rfl) rfl rfl rfl (UOp_sub _ _ _ _ _ _ _ rfl rfl rfl) ?_
      refine AU_all [2] (by kernel_rfl) rfl (allc ?_ (fun _ h => nomatch h))
      ·refine US_of 2 rfl rfl ?_
       refine AOps_call [] 11 _ _ _ _ _ _ _ _ _ _ rfl rfl rfl rfl rfl rfl rfl Try.call113 rfl (nodupB_sound _ rfl) rfl rfl rfl (spec_l02Rows_ac k p0 p1 _ hr1) ?_
       rintro _ _ ⟨rfl, rfl⟩
       refine ⟨(allc (fun _ _ => trivial) (fun _ h => nomatch h)), (allc (trivial) (fun _ h => nomatch h)), AOps_as 11 (v' := .vec 2 0) (H' := [.vec 0 (rowsD ([] : List (List Int))), .vec 0 (intsD ([] : List Int)), .vec 0 (intsD r1)]) rfl rfl ?_⟩
       refine AOps_nil ?_
       refine AU_all [12] (by kernel_rfl) rfl (allc ?_ (fun _ h => nomatch h))
       ·refine US_of 12 rfl rfl ?_
        refine AOps_freezeL [12] 1 0 _ (allc (rfl) (fun _ h => nomatch h)) rfl ?_
        refine AOps_freezeL [11] 2 0 _ (allc (rfl) (fun _ h => nomatch h)) rfl ?_
        refine AOps_call [0] 21 _ _ _ _ _ _ _ _ _ _ rfl rfl rfl rfl rfl rfl rfl Try.call193 rfl (nodupB_sound _ rfl) rfl rfl rfl (spec_l02Go_ac k r1 ([] : List Int) (w64 ((bShl .i64 1 (IntKind.u64.wrap p0.p)) - 1)) p2 ([] : List (List Int)) p3 _ hr3) ?_
        rintro _ _ ⟨rfl, rfl⟩
        refine ⟨(allc (fun _ _ => trivial) (fun _ h => nomatch h)), (allc (trivial) (fun _ h => nomatch h)), AOps_as 21 (v' := .vec 0 1) (H' := [.vec 1 (rowsD r3), .gone, .gone]) rfl rfl ?_⟩
        refine AOps_nil ?_
        refine AU_u 13 8 _ rfl (by kernel_rfl) rfl rfl rfl (UOp_assign _ _ rfl rfl) ?_
        refine AU_done (by kernel_rfl) ?_
        exact ⟨rfl, Weak_trans (Weak_keep 0 hm [8] [0] _ _ rfl rfl rfl) (Weak_reset 0 hm hz [8] _ _ rfl rfl)⟩
    ·refine US_of 5 rfl rfl ?_
     refine AOps_q 14 _ rfl rfl rfl (QOp_load_pv _ _ _ _ _ rfl Try.isAgg2 rfl rfl) ?_
     refine AOps_nil ?_
     refine AU_u 6 15 _ rfl (by kernel_rfl) rfl rfl rfl (UOp_conv _ _ _ _ _ _ rfl rfl Try.underlying106 rfl) ?_
     refine AU_u 7 16 _ rfl (by kernel_rfl) rfl rfl rfl (UOp_shl _ _ _ _ _ _ _ _ hc2 rfl rfl rfl) ?_
     refine AU_u 8 17 _ rfl (by kernel_rfl) rfl rfl rfl (UOp_sub _ _ _ _ _ _ _ rfl rfl rfl) ?_
     refine AU_all [2, 3] (by kernel_rfl) rfl (allc ?_ (allc ?_ (fun _ h => nomatch h)))
     ·refine US_of 2 rfl rfl ?_
      refine AOps_call [] 11 _ _ _ _ _ _ _ _ _ _ rfl rfl rfl rfl rfl rfl rfl Try.call113 rfl (nodupB_sound _ rfl) rfl rfl rfl (spec_l02Rows_ac k p0 p1 _ hr1) ?_
      rintro _ _ ⟨rfl, rfl⟩
      refine ⟨(allc (fun _ _ => trivial) (fun _ h => nomatch h)), (allc (trivial) (fun _ h => nomatch h)), AOps_as 11 (v' := .vec 1 0) (H' := [.vec 0 (rowsD ([] : List (List Int))), .vec 0 (intsD r1)]) rfl rfl ?_⟩
      refine AOps_nil ?_
      refine AU_all [3] (by kernel_rfl) rfl (allc ?_ (fun _ h => nomatch h))
      ·refine US_of 3 rfl rfl ?_
       refine AOps_buildSlice 12 _ _ _ [] (intsD ([] : List Int)) _ rfl rfl rfl rfl rfl (by decide) Try.underlying24 Try.sizeOf2 (zero_of Try.typeInfo2 rfl) rfl rfl (intsD_one _) ?_
       refine AOps_nil ?_
       refine AU_all [12] (by kernel_rfl) rfl (allc ?_ (fun _ h => nomatch h))
       ·refine US_of 12 rfl rfl ?_
        refine AOps_freezeL [11] 1 0 _ (allc (rfl) (fun _ h => nomatch h)) rfl ?_
        refine AOps_freezeL [12] 2 0 _ (allc (rfl) (fun _ h => nomatch h)) rfl ?_
        refine AOps_call [0] 21 _ _ _ _ _ _ _ _ _ _ rfl rfl rfl rfl rfl rfl rfl Try.call193 rfl (nodupB_sound _ rfl) rfl rfl rfl (spec_l02Go_ac k r1 ([] : List Int) (w64 ((bShl .i64 1 (IntKind.u64.wrap p0.p)) - 1)) p2 ([] : List (List Int)) p3 _ hr3) ?_
        rintro _ _ ⟨rfl, rfl⟩
        refine ⟨(allc (fun _ _ => trivial) (fun _ h => nomatch h)), (allc (trivial) (fun _ h => nomatch h)), AOps_as 21 (v' := .vec 0 1) (H' := [.vec 1 (rowsD r3), .gone, .gone]) rfl rfl ?_⟩
        refine AOps_nil ?_
        refine AU_u 13 8 _ rfl (by kernel_rfl) rfl rfl rfl (UOp_assign _ _ rfl rfl) ?_
        refine AU_done (by kernel_rfl) ?_
        exact ⟨rfl, Weak_trans (Weak_keep 0 hm [8] [0] _ _ rfl rfl rfl) (Weak_reset 0 hm hz [8] _ _ rfl rfl)⟩
     ·refine US_of 3 rfl rfl ?_
      refine AOps_buildSlice 12 _ _ _ [] (intsD ([] : List Int)) _ rfl rfl rfl rfl rfl (by decide) Try.underlying24 Try.sizeOf2 (zero_of Try.typeInfo2 rfl) rfl rfl (intsD_one _) ?_
      refine AOps_nil ?_
      refine AU_all [2] (by kernel_rfl) rfl (allc ?_ (fun _ h => nomatch h))
      ·refine US_of 2 rfl rfl ?_
       refine AOps_call [] 11 _ _ _ _ _ _ _ _ _ _ rfl rfl rfl rfl rfl rfl rfl Try.call113 rfl (nodupB_sound _ rfl) rfl rfl rfl (spec_l02Rows_ac k p0 p1 _ hr1) ?_
       rintro _ _ ⟨rfl, rfl⟩
       refine ⟨(allc (fun _ _ => trivial) (fun _ h => nomatch h)), (allc (trivial) (fun _ h => nomatch h)), AOps_as 11 (v' := .vec 2 0) (H' := [.vec 0 (rowsD ([] : List (List Int))), .vec 0 (intsD ([] : List Int)), .vec 0 (intsD r1)]) rfl rfl ?_⟩
       refine AOps_nil ?_
       refine AU_all [12] (by kernel_rfl) rfl (allc ?_ (fun _ h => nomatch h))
       ·refine US_of 12 rfl rfl ?_
        refine AOps_freezeL [12] 1 0 _ (allc (rfl) (fun _ h => nomatch h)) rfl ?_
        refine AOps_freezeL [11] 2 0 _ (allc (rfl) (fun _ h => nomatch h)) rfl ?_
        refine AOps_call [0] 21 _ _ _ _ _ _ _ _ _ _ rfl rfl rfl rfl rfl rfl rfl Try.call193 rfl (nodupB_sound _ rfl) rfl rfl rfl (spec_l02Go_ac k r1 ([] : List Int) (w64 ((bShl .i64 1 (IntKind.u64.wrap p0.p)) - 1)) p2 ([] : List (List Int)) p3 _ hr3) ?_
        rintro _ _ ⟨rfl, rfl⟩
        refine ⟨(allc (fun _ _ => trivial) (fun _ h => nomatch h)), (allc (trivial) (fun _ h => nomatch h)), AOps_as 21 (v' := .vec 0 1) (H' := [.vec 1 (rowsD r3), .gone, .gone]) rfl rfl ?_⟩
        refine AOps_nil ?_
        refine AU_u 13 8 _ rfl (by kernel_rfl) rfl rfl rfl (UOp_assign _ _ rfl rfl) ?_
        refine AU_done (by kernel_rfl) ?_
        exact ⟨rfl, Weak_trans (Weak_keep 0 hm [8] [0] _ _ rfl rfl rfl) (Weak_reset 0 hm hz [8] _ _ rfl rfl)⟩
   ·refine US_of 3 rfl rfl ?_
    refine AOps_buildSlice 12 _ _ _ [] (intsD ([] : List Int)) _ rfl rfl rfl rfl rfl (by decide) Try.underlying24 Try.sizeOf2 (zero_of Try.typeInfo2 rfl) rfl rfl (intsD_one _) ?_
    refine AOps_nil ?_
    refine AU_all [0, 5] (by kernel_rfl) rfl (allc ?_ (allc ?_ (fun _ h => nomatch h)))
    ·refine US_of 0 rfl rfl ?_
     refine AOps_q 9 _ rfl rfl rfl (QOp_loadN_pv _ _ _ _ _ _ rfl Try.isAgg29 Try.sizeOf29 rfl (colD_all _) (colD_length _)) ?_
     refine AOps_nil ?_
     refine AU_all [2, 5] (by kernel_rfl) rfl (allc ?_ (allc ?_ (fun _ h => nomatch h)))
     ·refine US_of 2 rfl rfl ?_
      refine AOps_call [] 11 _ _ _ _ _ _ _ _ _ _ rfl rfl rfl rfl rfl rfl rfl Try.call113 rfl (nodupB_sound _ rfl) rfl rfl rfl (spec_l02Rows_ac k p0 p1 _ hr1) ?_
      rintro _ _ ⟨rfl, rfl⟩
      refine ⟨(allc (fun _ _ => trivial) (fun _ h => nomatch h)), (allc (trivial) (fun _ h => nomatch h)), AOps_as 11 (v' := .vec 2 0) (H' := [.vec 0 (rowsD ([] : List (List Int))), .vec 0 (intsD ([] : List Int)), .vec 0 (intsD r1)]) rfl rfl ?_⟩
      refine AOps_nil ?_
      refine AU_all [5] (by kernel_rfl) rfl (allc ?_ (fun _ h => nomatch h))
      ·refine US_of 5 rfl rfl ?_
       refine AOps_q 14 _ rfl rfl rfl (QOp_load_pv _ _ _ _ _ rfl Try.isAgg2 rfl rfl) ?_
       refine AOps_nil ?_
       refine AU_u 6 15 _ rfl (by kernel_rfl) rfl rfl rfl (UOp_conv _ _ _ _ _ _ rfl rfl Try.underlying106 rfl) ?_
       refine AU_u 7 16 _ rfl (by kernel_rfl) rfl rfl rfl (UOp_shl _ _ _ _ _ _ _ _ hc2 rfl rfl rfl) ?_
       refine AU_u 8 17 _ rfl (by kernel_rfl) rfl rfl rfl (UOp_sub _ _ _ _ _ _ _ rfl rfl rfl) ?_
       refine AU_all [12] (by kernel_rfl) rfl (allc ?_ (fun _ h => nomatch h))
       ·refine US_of 12 rfl rfl ?_
        refine AOps_freezeL [12] 1 0 _ (allc (rfl) (fun _ h => nomatch h)) rfl ?_
        refine AOps_freezeL [11] 2 0 _ (allc (rfl) (fun _ h => nomatch h)) rfl ?_
        refine AOps_call [0] 21 _ _ _ _ _ _ _ _ _ _ rfl rfl rfl rfl rfl rfl rfl Try.call193 rfl (nodupB_sound _ rfl) rfl rfl rfl (spec_l02Go_ac k r1 ([] : List Int) (w64 ((bShl .i64 1 (IntKind.u64.wrap p0.p)) - 1)) p2 ([] : List (List Int)) p3 _ hr3) ?_
        rintro _ _ ⟨rfl, rfl⟩
        refine ⟨(allc (fun _ _ => trivial) (fun _ h => nomatch h)), (allc (trivial) (fun _ h => nomatch h)), AOps_as 21 (v' := .vec 0 1) (H' := [.vec 1 (rowsD r3), .gone, .gone]) rfl rfl ?_⟩
        refine AOps_nil ?_
        refine AU_u 13 8 _ rfl (by kernel_rfl) rfl rfl rfl (UOp_assign _ _ rfl rfl) ?_
        refine AU_done (by kernel_rfl) ?_
        exact ⟨rfl, Weak_trans (Weak_keep 0 hm [8] [0] _ _ rfl rfl rfl) (Weak_reset 0 hm hz [8] _ _ rfl rfl)⟩
     ·refine US_of 5 rfl rfl ?_
      refine AOps_q 14 _ rfl rfl rfl (QOp_load_pv _ _ _ _ _ rfl Try.isAgg2 rfl rfl) ?_
      refine AOps_nil ?_
      refine AU_u 6 15 _ rfl (by kernel_rfl) rfl rfl rfl (UOp_conv _ _ _ _ _ _ rfl rfl Try.underlying106 rfl) ?_
      refine AU_u 7 16 _ rfl (by kernel_rfl) rfl rfl rfl (UOp_shl _ _ _ _ _ _ _ _ hc2 rfl rfl rfl) ?_
      refine AU_u 8 17 _ rfl (by kernel_rfl) rfl rfl rfl (UOp_sub _ _ _ _ _ _ _ rfl rfl rfl) ?_
      refine AU_all [2] (by kernel_rfl) rfl (allc ?_ (fun _ h => nomatch h))
      ·refine US_of 2 rfl rfl ?_
       refine AOps_call [] 11 _ _ _ _ _ _ _ _ _ _ rfl rfl rfl rfl rfl rfl rfl Try.call113 rfl (nodupB_sound _ rfl) rfl rfl rfl (spec_l02Rows_ac k p0 p1 _ hr1) ?_
       rintro _ _ ⟨rfl, rfl⟩
       refine ⟨(allc (fun _ _ => trivial) (fun _ h => nomatch h)), (allc (trivial) (fun _ h => nomatch h)), AOps_as 11 (v' := .vec 2 0) (H' := [.vec 0 (rowsD ([] : List (List Int))), .vec 0 (intsD ([] : List Int)), .vec 0 (intsD r1)]) rfl rfl ?_⟩
       refine AOps_nil ?_
       refine AU_all [12] (by kernel_rfl) rfl (allc ?_ (fun _ h => nomatch h))
       ·refine US_of 12 rfl rfl ?_
        refine AOps_freezeL [12] 1 0 _ (allc (rfl) (fun _ h => nomatch h)) rfl ?_
        refine AOps_freezeL [11] 2 0 _ (allc (rfl) (fun _ h => nomatch h)) rfl ?_
        refine AOps_call [0] 21 _ _ _ _ _ _ _ _ _ _ rfl rfl rfl rfl rfl rfl rfl Try.call193 rfl (nodupB_sound _ rfl) rfl rfl rfl (spec_l02Go_ac k r1 ([] : List Int) (w64 ((bShl .i64 1 (IntKind.u64.wrap p0.p)) - 1)) p2 ([] : List (List Int)) p3 _ hr3) ?_
        rintro _ _ ⟨rfl, rfl⟩
        refine ⟨(allc (fun _ _ => trivial) (fun _ h => nomatch h)), (allc (trivial) (fun _ h => nomatch h)), AOps_as 21 (v' := .vec 0 1) (H' := [.vec 1 (rowsD r3), .gone, .gone]) rfl rfl ?_⟩
        refine AOps_nil ?_
        refine AU_u 13 8 _ rfl (by kernel_rfl) rfl rfl rfl (UOp_assign _ _ rfl rfl) ?_
        refine AU_done (by kernel_rfl) ?_
        exact ⟨rfl, Weak_trans (Weak_keep 0 hm [8] [0] _ _ rfl rfl rfl) (Weak_reset 0 hm hz [8] _ _ rfl rfl)⟩
    ·refine US_of 5 rfl rfl ?_
     refine AOps_q 14 _ rfl rfl rfl (QOp_load_pv _ _ _ _ _ rfl Try.isAgg2 rfl rfl) ?_
     refine AOps_nil ?_
     refine AU_u 6 15 _ rfl (by kernel_rfl) rfl rfl rfl (UOp_conv _ _ _ _ _ _ rfl rfl Try.underlying106 rfl) ?_
     refine AU_u 7 16 _ rfl (by kernel_rfl) rfl rfl rfl (UOp_shl _ _ _ _ _ _ _ _ hc2 rfl rfl rfl) ?_
     refine AU_u 8 17 _ rfl (by kernel_rfl) rfl rfl rfl (UOp_sub _ _ _ _ _ _ _ rfl rfl rfl) ?_
     refine AU_all [0] (by kernel_rfl) rfl (allc ?_ (fun _ h => nomatch h))
     ·refine US_of 0 rfl rfl ?_
      refine AOps_q 9 _ rfl rfl rfl (QOp_loadN_pv _ _ _ _ _ _ rfl Try.isAgg29 Try.sizeOf29 rfl (colD_all _) (colD_length _)) ?_
      refine AOps_nil ?_
      refine AU_all [2] (by kernel_rfl) rfl (allc ?_ (fun _ h => nomatch h))
      ·refine US_of 2 rfl rfl ?_
       refine AOps_call [] 11 _ _ _ _ _ _ _ _ _ _ rfl rfl rfl rfl rfl rfl rfl Try.call113 rfl (nodupB_sound _ rfl) rfl rfl rfl (spec_l02Rows_ac k p0 p1 _ hr1) ?_
       rintro _ _ ⟨rfl, rfl⟩
       refine ⟨(allc (fun _ _ => trivial) (fun _ h => nomatch h)), (allc (trivial) (fun _ h => nomatch h)), AOps_as 11 (v' := .vec 2 0) (H' := [.vec 0 (rowsD ([] : List (List Int))), .vec 0 (intsD ([] : List Int)), .vec 0 (intsD r1)]) rfl rfl ?_⟩
       refine AOps_nil ?_
       refine AU_all [12] (by kernel_rfl) rfl (allc ?_ (fun _ h => nomatch h))
       ·refine US_of 12 rfl rfl ?_
        refine AOps_freezeL [12] 1 0 _ (allc (rfl) (fun _ h => nomatch h)) rfl ?_
        refine AOps_freezeL [11] 2 0 _ (allc (rfl) (fun _ h => nomatch h)) rfl ?_
        refine AOps_call [0] 21 _ _ _ _ _ _ _ _ _ _ rfl rfl rfl rfl rfl rfl rfl Try.call193 rfl (nodupB_sound _ rfl) rfl rfl rfl (spec_l02Go_ac k r1 ([] : List Int) (w64 ((bShl .i64 1 (IntKind.u64.wrap p0.p)) - 1)) p2 ([] : List (List Int)) p3 _ hr3) ?_
        rintro _ _ ⟨rfl, rfl⟩
        refine ⟨(allc (fun _ _ => trivial) (fun _ h => nomatch h)), (allc (trivial) (fun _ h => nomatch h)), AOps_as 21 (v' := .vec 0 1) (H' := [.vec 1 (rowsD r3), .gone, .gone]) rfl rfl ?_⟩
        refine AOps_nil ?_
        refine AU_u 13 8 _ rfl (by kernel_rfl) rfl rfl rfl (UOp_assign _ _ rfl rfl) ?_
        refine AU_done (by kernel_rfl) ?_
        exact ⟨rfl, Weak_trans (Weak_keep 0 hm [8] [0] _ _ rfl rfl rfl) (Weak_reset 0 hm hz [8] _ _ rfl rfl)⟩
   ·refine US_of 5 rfl rfl ?_
    refine AOps_q 14 _ rfl rfl rfl (QOp_load_pv _ _ _ _ _ rfl Try.isAgg2 rfl rfl) ?_
    refine AOps_nil ?_
    refine AU_u 6 15 _ rfl (by kernel_rfl) rfl rfl rfl (UOp_conv _ _ _ _ _ _ rfl rfl Try.underlying106 rfl) ?_
    refine AU_u 7 16 _ rfl (by kernel_rfl) rfl rfl rfl (UOp_shl _ _ _ _ _ _ _ _ hc2 rfl rfl rfl) ?_
    refine AU_u 8 17 _ rfl (by kernel_rfl) rfl rfl rfl (UOp_sub _ _ _ _ _ _ _ rfl rfl rfl) ?_
    refine AU_all [0, 3] (by kernel_rfl) rfl (allc ?_ (allc ?_ (fun _ h => nomatch h)))
    ·refine US_of 0 rfl rfl ?_
     refine AOps_q 9 _ rfl rfl rfl (QOp_loadN_pv _ _ _ _ _ _ rfl Try.isAgg29 Try.sizeOf29 rfl (colD_all _) (colD_length _)) ?_
     refine AOps_nil ?_
     refine AU_all [2, 3] (by kernel_rfl) rfl (allc ?_ (allc ?_ (fun _ h => nomatch h)))
     ·refine US_of 2 rfl rfl ?_
      refine AOps_call [] 11 _ _ _ _ _ _ _ _ _ _ rfl rfl rfl rfl rfl rfl rfl Try.call113 rfl (nodupB_sound _ rfl) rfl rfl rfl (spec_l02Rows_ac k p0 p1 _ hr1) ?_
      rintro _ _ ⟨rfl, rfl⟩
      refine ⟨(allc (fun _ _ => trivial) (fun _ h => nomatch h)), (allc (trivial) (fun _ h => nomatch h)), AOps_as 11 (v' := .vec 1 0) (H' := [.vec 0 (rowsD ([] : List (List Int))), .vec 0 (intsD r1)]) rfl rfl ?_⟩
      refine AOps_nil ?_
      refine AU_all [3] (by kernel_rfl) rfl (allc ?_ (fun _ h => nomatch h))
      ·refine US_of 3 rfl rfl ?_
       refine AOps_buildSlice 12 _ _ _ [] (intsD ([] : List Int)) _ rfl rfl rfl rfl rfl (by decide) Try.underlying24 Try.sizeOf2 (zero_of Try.typeInfo2 rfl) rfl rfl (intsD_one _) ?_
       refine AOps_nil ?_
       refine AU_all [12] (by kernel_rfl) rfl (allc ?_ (fun _ h => nomatch h))
       ·refine US_of 12 rfl rfl ?_
        refine AOps_freezeL [11] 1 0 _ (allc (rfl) (fun _ h => nomatch h)) rfl ?_
        refine AOps_freezeL [12] 2 0 _ (allc (rfl) (fun _ h => nomatch h)) rfl ?_
        refine AOps_call [0] 21 _ _ _ _ _ _ _ _ _ _ rfl rfl rfl rfl rfl rfl rfl Try.call193 rfl (nodupB_sound _ rfl) rfl rfl rfl (spec_l02Go_ac k r1 ([] : List Int) (w64 ((bShl .i64 1 (IntKind.u64.wrap p0.p)) - 1)) p2 ([] : List (List Int)) p3 _ hr3) ?_
        rintro _ _ ⟨rfl, rfl⟩
        refine ⟨(allc (fun _ _ => trivial) (fun _ h => nomatch h)), (allc (trivial) (fun _ h => nomatch h)), AOps_as 21 (v' := .vec 0 1) (H' := [.vec 1 (rowsD r3), .gone, .gone]) rfl rfl ?_⟩
        refine AOps_nil ?_
        refine AU_u 13 8 _ rfl (by kernel_rfl) rfl rfl rfl (UOp_assign _ _ rfl rfl) ?_
        refine AU_done (by kernel_rfl) ?_
        exact ⟨rfl, Weak_trans (Weak_keep 0 hm [8] [0] _ _ rfl rfl rfl) (Weak_reset 0 hm hz [8] _ _ rfl rfl)⟩
     ·refine US_of 3 rfl rfl ?_
      refine AOps_buildSlice 12 _ _ _ [] (intsD ([] : List Int)) _ rfl rfl rfl rfl rfl (by decide) Try.underlying24 Try.sizeOf2 (zero_of Try.typeInfo2 rfl) rfl rfl (intsD_one _) ?_
      refine AOps_nil ?_
      refine AU_all [2] (by kernel_rfl) rfl (allc ?_ (fun _ h => nomatch h))
      ·refine US_of 2 rfl rfl ?_
       refine AOps_call [] 11 _ _ _ _ _ _ _ _ _ _ rfl rfl rfl rfl rfl rfl rfl Try.call113 rfl (nodupB_sound _ rfl) rfl rfl rfl (spec_l02Rows_ac k p0 p1 _ hr1) ?_
       rintro _ _ ⟨rfl, rfl⟩
       refine ⟨(allc (fun _ _ => trivial) (fun _ h => nomatch h)), (allc (trivial) (fun _ h => nomatch h)), AOps_as 11 (v' := .vec 2 0) (H' := [.vec 0 (rowsD ([] : List (List Int))), .vec 0 (intsD ([] : List Int)), .vec 0 (intsD r1)]) rfl rfl ?_⟩
       refine AOps_nil ?_
       refine AU_all [12] (by kernel_rfl) rfl (allc ?_ (fun _ h => nomatch h))
       ·refine US_of 12 rfl rfl ?_
        refine AOps_freezeL [12] 1 0 _ (allc (rfl) (fun _ h => nomatch h)) rfl ?_
        refine AOps_freezeL [11] 2 0 _ (allc (rfl) (fun _ h => nomatch h)) rfl ?_
        refine AOps_call [0] 21 _ _ _ _ _ _ _ _ _ _ rfl rfl rfl rfl rfl rfl rfl Try.call193 rfl (nodupB_sound _ rfl) rfl rfl rfl (spec_l02Go_ac k r1 ([] : List Int) (w64 ((bShl .i64 1 (IntKind.u64.wrap p0.p)) - 1)) p2 ([] : List (List Int)) p3 _ hr3) ?_
        rintro _ _ ⟨rfl, rfl⟩
        refine ⟨(allc (fun _ _ => trivial) (fun _ h => nomatch h)), (allc (trivial) (fun _ h => nomatch h)), AOps_as 21 (v' := .vec 0 1) (H' := [.vec 1 (rowsD r3), .gone, .gone]) rfl rfl ?_⟩
        refine AOps_nil ?_
        refine AU_u 13 8 _ rfl (by kernel_rfl) rfl rfl rfl (UOp_assign _ _ rfl rfl) ?_
        refine AU_done (by kernel_rfl) ?_
        exact ⟨rfl, Weak_trans (Weak_keep 0 hm [8] [0] _ _ rfl rfl rfl) (Weak_reset 0 hm hz [8] _ _ rfl rfl)⟩
    ·refine US_of 3 rfl rfl ?_
     refine AOps_buildSlice 12 _ _ _ [] (intsD ([] : List Int)) _ rfl rfl rfl rfl rfl (by decide) Try.underlying24 Try.sizeOf2 (zero_of Try.typeInfo2 rfl) rfl rfl (intsD_one _) ?_
     refine AOps_nil ?_
     refine AU_all [0] (by kernel_rfl) rfl (allc ?_ (fun _ h => nomatch h))
     ·refine US_of 0 rfl rfl ?_
      refine AOps_q 9 _ rfl rfl rfl (QOp_loadN_pv _ _ _ _ _ _ rfl Try.isAgg29 Try.sizeOf29 rfl (colD_all _) (colD_length _)) ?_
      refine AOps_nil ?_
      refine AU_all [2] (by kernel_rfl) rfl (allc ?_ (fun _ h => nomatch h))
      ·refine US_of 2 rfl rfl ?_
       refine AOps_call [] 11 _ _ _ _ _ _ _ _ _ _ rfl rfl rfl rfl rfl rfl rfl Try.call113 rfl (nodupB_sound _ rfl) rfl rfl rfl (spec_l02Rows_ac k p0 p1 _ hr1) ?_
       rintro _ _ ⟨rfl, rfl⟩
       refine ⟨(allc (fun _ _ => trivial) (fun _ h => nomatch h)), (allc (trivial) (fun _ h => nomatch h)), AOps_as 11 (v' := .vec 2 0) (H' := [.vec 0 (rowsD ([] : List (List Int))), .vec 0 (intsD ([] : List Int)), .vec 0 (intsD r1)]) rfl rfl ?_⟩
       refine AOps_nil ?_
       refine AU_all [12] (by kernel_rfl) rfl (allc ?_ (fun _ h => nomatch h))
       ·refine US_of 12 rfl rfl ?_
        refine AOps_freezeL [12] 1 0 _ (allc (rfl) (fun _ h => nomatch h)) rfl ?_
        refine AOps_freezeL [11] 2 0 _ (allc (rfl) (fun _ h => nomatch h)) rfl ?_
        refine AOps_call [0] 21 _ _ _ _ _ _ _ _ _ _ rfl rfl rfl rfl rfl rfl rfl Try.call193 rfl (nodupB_sound _ rfl) rfl rfl rfl (spec_l02Go_ac k r1 ([] : List Int) (w64 ((bShl .i64 1 (IntKind.u64.wrap p0.p)) - 1)) p2 ([] : List (List Int)) p3 _ hr3) ?_
        rintro _ _ ⟨rfl, rfl⟩
        refine ⟨(allc (fun _ _ => trivial) (fun _ h => nomatch h)), (allc (trivial) (fun _ h => nomatch h)), AOps_as 21 (v' := .vec 0 1) (H' := [.vec 1 (rowsD r3), .gone, .gone]) rfl rfl ?_⟩
        refine AOps_nil ?_
        refine AU_u 13 8 _ rfl (by kernel_rfl) rfl rfl rfl (UOp_assign _ _ rfl rfl) ?_
        refine AU_done (by kernel_rfl) ?_
        exact ⟨rfl, Weak_trans (Weak_keep 0 hm [8] [0] _ _ rfl rfl rfl) (Weak_reset 0 hm hz [8] _ _ rfl rfl)⟩
 refine ACode_ret ?_
 cases h
 exact ⟨_, _, Weak_reset 0 hm hz [8] _ _ rfl rfl, _, _, [0], _, (.cons (ResV_tmp _ _ rfl) .nil), rfl, rfl, rfl, rfl, rfl⟩

-- loop.example/g01362/spec.CliqueList
def spec_CliqueList (k : Nat) (p0 : Col) (p1 : Int) (p2 : Int) : Option (List (List Int) × Int) :=
 (spec_l01Given k p0 p1 ([])).bind fun r1 => letO (letO (if decide (r1 = 0) then !(spec_l01In p2 1 17) else false) fun (s4 : Bool) => (if s4 then 2 else r1)) fun (s6 : Int) => (if !decide (s6 = 0) then some ([], s6) else (spec_l02List k p0 p1 p2 201).bind fun r8 => (if decide (200 < (r8.length : Int)) then some ([], 3) else some (r8, 0)))
set_option maxRecDepth 100000 in
theorem spec_CliqueList_ac (k : Nat) (p0 : Col) (p1 : Int) (p2 : Int) (r : List (List Int) × Int) (h : spec_CliqueList k p0 p1 p2 = some r) : AC Try.prog 27 [.d (.agg (colD p0)), iV p1, iV p2] [] (fun res H' => res = [.d (.sl none (rowsD r.1)), iV r.2] ∧ H' = []) := by
 refine AC_of_body true Try.func27 rfl Try.ntmps27 (rvs := [.tmp 6, .tmp 7]) rfl rfl (fun G hG => ?_)
 have hm : G.H.length = 0 := by rw [hG]; rfl
 have hz : zeroG G.H = true := by rw [hG]; rfl
 unfold spec_CliqueList at h
 refine ACode_seq (ACode_region ?_)
 refine AOps_boxI 3 _ _ (.agg (colD p0)) (colD p0) rfl (colD_one _) rfl rfl rfl rfl rfl ?_
 refine AOps_q 6 _ rfl rfl rfl (QOp_assign _ _ rfl rfl) ?_
 refine AOps_q 7 _ rfl rfl rfl (QOp_assign _ _ rfl rfl) ?_
 refine AOps_nil ?_
 refine ACode_seq (ACode_region ?_)
 refine AOps_q 10 _ rfl rfl rfl (QOp_loadN_pv _ _ _ _ _ _ rfl Try.isAgg29 Try.sizeOf29 rfl (colD_all _) (colD_length _)) ?_
 refine AOps_q 11 _ rfl rfl rfl (QOp_move _ _ rfl rfl) ?_
 obtain ⟨r1, hr1, h⟩ := bindO h
 refine AOps_call [] 12 _ _ _ _ _ _ _ _ _ _ rfl rfl rfl rfl rfl rfl rfl Try.call107 rfl (nodupB_sound _ rfl) rfl rfl rfl (spec_l01Given_ac k p0 p1 ([]) _ hr1) ?_
 rintro _ _ ⟨rfl, rfl⟩
 refine ⟨(fun _ h => nomatch h), (allc (trivial) (fun _ h => nomatch h)), AOps_as 12 (v' := iV r1) (H' := []) rfl rfl ?_⟩
 refine AOps_q 8 _ rfl rfl rfl (QOp_assign _ _ rfl rfl) ?_
 refine AOps_nil ?_
 obtain ⟨s6, hss6, hks6⟩ := letS h
 clear h
 refine ACode_seqJ (fun E' H' => Weak 31 G E' H' [(1, iV p1), (2, iV p2), (3, .d (.pv (colD p0) 0)), (8, iV s6)] []) ?_ ?_
 ·have h := hss6
  clear hss6
  obtain ⟨s4, hss4, hks4⟩ := letS h
  clear h
  refine ACode_seqJ (fun E' H' => Weak 31 G E' H' [(1, iV p1), (2, iV p2), (3, .d (.pv (colD p0) 0)), (8, iV r1), (19, bV s4)] []) ?_ ?_
  ·have h := hss4
   clear hss4
   refine (ACode_region ?_)
   refine AOps_q 13 _ rfl rfl rfl (QOp_move _ _ rfl rfl) ?_
   refine AOps_q 14 _ rfl rfl rfl (QOp_eql _ _ _ _ _ _ _ rfl rfl rfl) ?_
   refine AOps_q 15 _ rfl rfl rfl (QOp_move _ _ rfl rfl) ?_
   refine AOps_case 15 _ rfl (fun hb2 => ?_) (fun hb2 => ?_)
   ·have h := iteT hb2 h
    refine AOps_q 16 _ rfl rfl rfl (QOp_move _ _ rfl rfl) ?_
    refine AOps_call [] 17 _ _ _ _ _ _ _ _ _ _ rfl rfl rfl rfl rfl rfl rfl Try.call100 rfl (nodupB_sound _ rfl) rfl rfl rfl (spec_l01In_ac p2 1 17) ?_
    rintro _ _ ⟨rfl, rfl⟩
    refine ⟨(fun _ h => nomatch h), (allc (trivial) (fun _ h => nomatch h)), AOps_as 17 (v' := bV (spec_l01In p2 1 17)) (H' := []) rfl rfl ?_⟩
    refine AOps_q 18 _ rfl rfl rfl (QOp_not _ _ _ rfl rfl) ?_
    refine AOps_q 19 _ rfl rfl rfl (QOp_pick_t _ _ _ _ rfl rfl rfl) ?_
    refine AOps_nil ?_
    cases h
    exact Weak_keep 0 hm [1, 2, 3, 8, 19] [] _ _ rfl rfl rfl
   ·have h := iteF hb2 h
    refine AOps_skip 16 rfl rfl rfl ?_
    refine AOps_skip 17 rfl rfl rfl ?_
    refine AOps_skip 18 rfl rfl rfl ?_
    refine AOps_q 19 _ rfl rfl rfl (QOp_pick_f _ _ _ _ rfl rfl rfl) ?_
    refine AOps_nil ?_
    cases h
    exact Weak_keep 0 hm [1, 2, 3, 8, 19] [] _ _ rfl rfl rfl
  intro E' H' hw
  refine ACode_weak hw ?_
  have h := hks4
  refine ACode_cond _ rfl (fun hb5 => ?_) (fun hb5 => ?_)
  ·have h := iteT hb5 h
   refine (ACode_region ?_)
   refine AOps_q 8 _ rfl rfl rfl (QOp_assign _ _ rfl rfl) ?_
   refine AOps_nil ?_
   cases h
   exact Weak_keep 0 hm [1, 2, 3, 8] [] _ _ rfl rfl rfl
  ·have h := iteF hb5 h
   refine ACode_skip ?_
   cases h
   exact Weak_keep 0 hm [1, 2, 3, 8] [] _ _ rfl rfl rfl
 intro E' H' hw
 refine ACode_weak hw ?_
 have h := hks6
 refine ACode_seq ?_
 refine ACode_seq (ACode_region ?_)
 refine AOps_q 20 _ rfl rfl rfl (QOp_move _ _ rfl rfl) ?_
 refine AOps_q 21 _ rfl rfl rfl (QOp_neq _ _ _ _ _ _ _ rfl rfl rfl) ?_
 refine AOps_nil ?_
 refine ACode_cond _ rfl (fun hb7 => ?_) (fun hb7 => ?_)
 ·have h := iteT hb7 h
  refine ACode_seq (ACode_region ?_)
  refine AOps_q 22 _ rfl rfl rfl (QOp_move _ _ rfl rfl) ?_
  refine AOps_q 6 _ rfl rfl rfl (QOp_assign _ _ rfl rfl) ?_
  refine AOps_q 7 _ rfl rfl rfl (QOp_assign _ _ rfl rfl) ?_
  refine AOps_nil ?_
  refine ACode_ret ?_
  cases h
  exact ⟨_, _, fun r a w h => ⟨r, h⟩, _, _, [], _, (.cons (ResV_tmp _ _ rfl) (.cons (ResV_tmp _ _ rfl) .nil)), rfl, rfl, rfl, rfl, rfl⟩
 ·have h := iteF hb7 h
  refine ACode_skip ?_
  refine ACode_seq (ACode_region ?_)
  refine AOps_q 23 _ rfl rfl rfl (QOp_loadN_pv _ _ _ _ _ _ rfl Try.isAgg29 Try.sizeOf29 rfl (colD_all _) (colD_length _)) ?_
  refine AOps_q 24 _ rfl rfl rfl (QOp_move _ _ rfl rfl) ?_
  refine AOps_q 25 _ rfl rfl rfl (QOp_move _ _ rfl rfl) ?_
  obtain ⟨r8, hr8, h⟩ := bindO h
  refine AOps_call [] 26 _ _ _ _ _ _ _ _ _ _ rfl rfl rfl rfl rfl rfl rfl Try.call108 rfl (nodupB_sound _ rfl) rfl rfl rfl (spec_l02List_ac k p0 p1 p2 201 _ hr8) ?_
  rintro _ _ ⟨rfl, rfl⟩
  refine ⟨(allc (fun _ _ => trivial) (fun _ h => nomatch h)), (allc (trivial) (fun _ h => nomatch h)), AOps_as 26 (v' := .vec 0 0) (H' := [.vec 0 (rowsD r8)]) rfl rfl ?_⟩
  refine AOps_q 9 _ rfl rfl rfl (QOp_assign _ _ rfl rfl) ?_
  refine AOps_nil ?_
  refine ACode_seq ?_
  refine ACode_seq (ACode_region ?_)
  refine AOps_q 27 _ rfl rfl rfl (QOp_move _ _ rfl rfl) ?_
  refine AOps_q 28 _ rfl rfl rfl (QOp_len_vec _ _ _ _ _ _ _ _ (rowsD_length _) rfl rfl rfl rfl Try.underlying45 rfl rfl) ?_
  refine AOps_q 29 _ rfl rfl rfl (QOp_gtr _ _ _ _ _ _ _ rfl rfl rfl) ?_
  refine AOps_nil ?_
  refine ACode_cond _ rfl (fun hb9 => ?_) (fun hb9 => ?_)
  ·have h := iteT hb9 h
   refine ACode_seq (ACode_region ?_)
   refine AOps_q 6 _ rfl rfl rfl (QOp_assign _ _ rfl rfl) ?_
   refine AOps_q 7 _ rfl rfl rfl (QOp_assign _ _ rfl rfl) ?_
   refine AOps_nil ?_
   refine ACode_ret ?_
   cases h
   exact ⟨_, _, fun r a w h => ⟨r, h⟩, _, _, [], _, (.cons (ResV_tmp _ _ rfl) (.cons (ResV_tmp _ _ rfl) .nil)), rfl, rfl, rfl, rfl, rfl⟩
  ·have h := iteF hb9 h
   refine ACode_skip ?_
   refine ACode_seq (ACode_region ?_)
   refine AOps_q 30 _ rfl rfl rfl (QOp_move _ _ rfl rfl) ?_
   refine AOps_q 6 _ rfl rfl rfl (QOp_assign _ _ rfl rfl) ?_
   refine AOps_q 7 _ rfl rfl rfl (QOp_assign _ _ rfl rfl) ?_
   refine AOps_nil ?_
   refine ACode_ret ?_
   cases h
   exact ⟨_, _, fun r a w h => ⟨r, h⟩, _, _, [], _, (.cons (ResV_tmp _ _ rfl) (.cons (ResV_tmp _ _ rfl) .nil)), rfl, rfl, rfl, rfl, rfl⟩

-- loop.example/g01362/laws.likeInts
def laws_likeInts_l0 (p0 : List Int) (p1 : List Int) : Nat → Int → Option (Sum (Unit) (Bool))
 | 0, _ => none
 | k0 + 1, x2 => (if decide (x2 < (p0.length : Int)) then (if 0 ≤ x2 ∧ x2 < (p0.length : Int) then (if 0 ≤ x2 ∧ x2 < (p1.length : Int) then (if !decide ((p0.getD x2.toNat 0) = (p1.getD x2.toNat 0)) then some (.inr false) else laws_likeInts_l0 p0 p1 k0 (w64 (x2 + 1))) else none) else none) else some (.inl ()))
def laws_likeInts (k : Nat) (p0 : List Int) (p1 : List Int) : Option (Bool) :=
 (if !decide ((p0.length : Int) = (p1.length : Int)) then some false else (laws_likeInts_l0 p0 p1 k 0 : Option (Sum (Unit) (Bool))).bind fun os7 => (match os7 with | .inl s7 => some true | .inr rr => some rr))
set_option maxRecDepth 100000 in
theorem laws_likeInts_ac (k : Nat) (p0 : List Int) (p1 : List Int) (r : Bool) (h : laws_likeInts k p0 p1 = some r) : AC Try.prog 16 [.d (.sl none (intsD p0)), .d (.sl none (intsD p1))] [] (fun res H' => res = [bV r] ∧ H' = []) := by
 refine AC_of_body true Try.func16 rfl Try.ntmps16 (rvs := [.tmp 4]) rfl rfl (fun G hG => ?_)
 have hm : G.H.length = 0 := by rw [hG]; rfl
 have hz : zeroG G.H = true := by rw [hG]; rfl
 unfold laws_likeInts at h
 refine ACode_seq (ACode_region ?_)
 refine AOps_q 4 _ rfl rfl rfl (QOp_assign _ _ rfl rfl) ?_
 refine AOps_nil ?_
 refine ACode_seq ?_
 refine ACode_seq (ACode_region ?_)
 refine AOps_q 6 _ rfl rfl rfl (QOp_move _ _ rfl rfl) ?_
 refine AOps_q 7 _ rfl rfl rfl (QOp_len_sl _ _ _ _ _ _ _ (intsD_length _) rfl rfl rfl rfl Try.underlying24 rfl) ?_
 refine AOps_q 8 _ rfl rfl rfl (QOp_move _ _ rfl rfl) ?_
 refine AOps_q 9 _ rfl rfl rfl (QOp_len_sl _ _ _ _ _ _ _ (intsD_length _) rfl rfl rfl rfl Try.underlying24 rfl) ?_
 refine AOps_q 10 _ rfl rfl rfl (QOp_neq _ _ _ _ _ _ _ rfl rfl rfl) ?_
 refine AOps_nil ?_
 refine ACode_cond _ rfl (fun hb1 => ?_) (fun hb1 => ?_)
 ·have h := iteT hb1 h
  refine ACode_seq (ACode_region ?_)
  refine AOps_q 4 _ rfl rfl rfl (QOp_assign _ _ rfl rfl) ?_
  refine AOps_nil ?_
  refine ACode_ret ?_
  cases h
  exact ⟨_, _, fun r a w h => ⟨r, h⟩, _, _, [], _, (.cons (ResV_tmp _ _ rfl) .nil), rfl, rfl, rfl, rfl, rfl⟩
 ·have h := iteF hb1 h
  refine ACode_skip ?_
  obtain ⟨os7, hss7, hks7⟩ := bindO h
  clear h
  refine ACode_seqJ (fun E' H' => ∃ s7 : Unit, os7 = .inl s7 ∧ Weak 26 G E' H' [] []) ?_ ?_
  ·have h := hss7
   clear hss7
   refine ACode_seq (ACode_region ?_)
   refine AOps_q 5 _ rfl rfl rfl (QOp_assign _ _ rfl rfl) ?_
   refine AOps_nil ?_
   refine ACode_block ?_
   refine ACode_loopW (fun k0 E H => ∃ (x2 : Int), E = [(0, .d (.sl none (intsD p0))), (1, .d (.sl none (intsD p1))), (5, iV x2)] ∧ H = [] ∧ laws_likeInts_l0 p0 p1 k0 x2 = some os7) k _ _ (Weak_keep 0 hm [0, 1, 5] [] _ _ rfl rfl rfl) ⟨_, rfl, rfl, h⟩ ?_
   clear h
   rintro k0 E H ⟨x2, rfl, rfl, h⟩
   cases k0 with
   | zero => cases (show (none : Option (Sum (Unit) (Bool))) = some _ from h)
   | succ k0 =>
    rw [laws_likeInts_l0] at h
    refine ACode_seq ?_
    refine ACode_seq (ACode_region ?_)
    refine AOps_q 11 _ rfl rfl rfl (QOp_move _ _ rfl rfl) ?_
    refine AOps_q 12 _ rfl rfl rfl (QOp_move _ _ rfl rfl) ?_
    refine AOps_q 13 _ rfl rfl rfl (QOp_len_sl _ _ _ _ _ _ _ (intsD_length _) rfl rfl rfl rfl Try.underlying24 rfl) ?_
    refine AOps_q 14 _ rfl rfl rfl (QOp_lss _ _ _ _ _ _ _ rfl rfl rfl) ?_
    refine AOps_nil ?_
    refine ACode_cond _ rfl (fun hb3 => ?_) (fun hb3 => ?_)
    ·have h := iteT hb3 h
     refine ACode_skip ?_
     refine ACode_seq ?_
     refine ACode_block ?_
     refine ACode_seq (ACode_quiet mixed (by kernel_rfl) ?_)
     refine AQ_q 17 _ rfl rfl rfl (QOp_move _ _ rfl rfl) ?_
     refine AQ_q 18 _ rfl rfl rfl (QOp_move _ _ rfl rfl) ?_
     obtain ⟨hc4, h⟩ := guardO h
     refine AQ_q 19 _ rfl rfl rfl (QOp_indexAddr_sl _ _ _ _ _ _ _ _ rfl Try.underlying24 Try.sizeOf2 hc4.1 (by rw [intsD_length]; exact hc4.2) rfl rfl) ?_
     refine AQ_q 20 _ rfl rfl rfl (QOp_load_pv _ _ _ _ _ rfl Try.isAgg2 rfl (intsD_get _ _ 0 (by omega))) ?_
     refine AQ_q 21 _ rfl rfl rfl (QOp_move _ _ rfl rfl) ?_
     refine AQ_q 22 _ rfl rfl rfl (QOp_move _ _ rfl rfl) ?_
     obtain ⟨hc5, h⟩ := guardO h
     refine AQ_q 23 _ rfl rfl rfl (QOp_indexAddr_sl _ _ _ _ _ _ _ _ rfl Try.underlying24 Try.sizeOf2 hc5.1 (by rw [intsD_length]; exact hc5.2) rfl rfl) ?_
     refine AQ_q 24 _ rfl rfl rfl (QOp_load_pv _ _ _ _ _ rfl Try.isAgg2 rfl (intsD_get _ _ 0 (by omega))) ?_
     refine AQ_q 25 _ rfl rfl rfl (QOp_neq _ _ _ _ _ _ _ rfl rfl rfl) ?_
     refine AQ_nil ?_
     refine ACode_cond _ rfl (fun hb6 => ?_) (fun hb6 => ?_)
     ·have h := iteT hb6 h
      refine ACode_seq (ACode_region ?_)
      refine AOps_q 4 _ rfl rfl rfl (QOp_assign _ _ rfl rfl) ?_
      refine AOps_nil ?_
      refine ACode_ret ?_
      cases h
      have h := hks7
      cases h
      exact ⟨_, _, fun r a w h => ⟨r, h⟩, _, _, [], _, (.cons (ResV_tmp _ _ rfl) .nil), rfl, rfl, rfl, rfl, rfl⟩
     ·have h := iteF hb6 h
      refine ACode_skip ?_
      refine (ACode_region ?_)
      refine AOps_q 15 _ rfl rfl rfl (QOp_move _ _ rfl rfl) ?_
      refine AOps_q 16 _ rfl rfl rfl (QOp_add _ _ _ _ _ _ _ rfl rfl rfl) ?_
      refine AOps_q 5 _ rfl rfl rfl (QOp_assign _ _ rfl rfl) ?_
      refine AOps_nil ?_
      exact ⟨k0, _, _, Nat.lt_succ_self _, Weak_keep 0 hm [0, 1, 5] [] _ _ rfl rfl rfl, _, rfl, rfl, h⟩
    ·have h := iteF hb3 h
     refine ACode_exit ?_
     cases h
     exact ⟨_, rfl, Weak_keep 0 hm [] [] _ _ rfl rfl rfl⟩
  rintro E' H' ⟨s7, rfl, hw⟩
  refine ACode_weak hw ?_
  have h := hks7
  refine ACode_seq (ACode_region ?_)
  refine AOps_q 4 _ rfl rfl rfl (QOp_assign _ _ rfl rfl) ?_
  refine AOps_nil ?_
  refine ACode_ret ?_
  cases h
  exact ⟨_, _, fun r a w h => ⟨r, h⟩, _, _, [], _, (.cons (ResV_tmp _ _ rfl) .nil), rfl, rfl, rfl, rfl, rfl⟩

-- loop.example/g01362/laws.rows9
def laws_rows9_l0 (k : Nat) (p0 : List (List Int)) (p1 : List (List Int)) : Nat → Int → Option (Sum (Unit) (Bool))
 | 0, _ => none
 | k0 + 1, x2 => (if decide (x2 < (p0.length : Int)) then (if 0 ≤ x2 ∧ x2 < (p0.length : Int) then (if 0 ≤ x2 ∧ x2 < (p1.length : Int) then (laws_likeInts k (p0.getD x2.toNat []) (p1.getD x2.toNat [])).bind fun r6 => (if !r6 then some (.inr false) else laws_rows9_l0 k p0 p1 k0 (w64 (x2 + 1))) else none) else none) else some (.inl ()))
def laws_rows9 (k : Nat) (p0 : List (List Int)) (p1 : List (List Int)) : Option (Bool) :=
 (if !decide ((p0.length : Int) = (p1.length : Int)) then some false else (laws_rows9_l0 k p0 p1 k 0 : Option (Sum (Unit) (Bool))).bind fun os8 => (match os8 with | .inl s8 => some true | .inr rr => some rr))
set_option maxRecDepth 100000 in
theorem laws_rows9_ac (k : Nat) (p0 : List (List Int)) (p1 : List (List Int)) (r : Bool) (h : laws_rows9 k p0 p1 = some r) : AC Try.prog 28 [.d (.sl none (rowsD p0)), .d (.sl none (rowsD p1))] [] (fun res H' => res = [bV r] ∧ H' = []) := by
 refine AC_of_body true Try.func28 rfl Try.ntmps28 (rvs := [.tmp 4]) rfl rfl (fun G hG => ?_)
 have hm : G.H.length = 0 := by rw [hG]; rfl
 have hz : zeroG G.H = true := by rw [hG]; rfl
 unfold laws_rows9 at h
 refine ACode_seq (ACode_region ?_)
 refine AOps_q 4 _ rfl rfl rfl (QOp_assign _ _ rfl rfl) ?_
 refine AOps_nil ?_
 refine ACode_seq ?_
 refine ACode_seq (ACode_region ?_)
 refine AOps_q 6 _ rfl rfl rfl (QOp_move _ _ rfl rfl) ?_
 refine AOps_q 7 _ rfl rfl rfl (QOp_len_sl _ _ _ _ _ _ _ (rowsD_length _) rfl rfl rfl rfl Try.underlying45 rfl) ?_
 refine AOps_q 8 _ rfl rfl rfl (QOp_move _ _ rfl rfl) ?_
 refine AOps_q 9 _ rfl rfl rfl (QOp_len_sl _ _ _ _ _ _ _ (rowsD_length _) rfl rfl rfl rfl Try.underlying45 rfl) ?_
 refine AOps_q 10 _ rfl rfl rfl (QOp_neq _ _ _ _ _ _ _ rfl rfl rfl) ?_
 refine AOps_nil ?_
 refine ACode_cond _ rfl (fun hb1 => ?_) (fun hb1 => ?_)
 ·have h := iteT hb1 h
  refine ACode_seq (ACode_region ?_)
  refine AOps_q 4 _ rfl rfl rfl (QOp_assign _ _ rfl rfl) ?_
  refine AOps_nil ?_
  refine ACode_ret ?_
  cases h
  exact ⟨_, _, fun r a w h => ⟨r, h⟩, _, _, [], _, (.cons (ResV_tmp _ _ rfl) .nil), rfl, rfl, rfl, rfl, rfl⟩
 ·have h := iteF hb1 h
  refine ACode_skip ?_
  obtain ⟨os8, hss8, hks8⟩ := bindO h
  clear h
  refine ACode_seqJ (fun E' H' => ∃ s8 : Unit, os8 = .inl s8 ∧ Weak 27 G E' H' [] []) ?_ ?_
  ·have h := hss8
   clear hss8
   refine ACode_seq (ACode_region ?_)
   refine AOps_q 5 _ rfl rfl rfl (QOp_assign _ _ rfl rfl) ?_
   refine AOps_nil ?_
   refine ACode_block ?_
   refine ACode_loopW (fun k0 E H => ∃ (x2 : Int), E = [(0, .d (.sl none (rowsD p0))), (1, .d (.sl none (rowsD p1))), (5, iV x2)] ∧ H = [] ∧ laws_rows9_l0 k p0 p1 k0 x2 = some os8) k _ _ (Weak_keep 0 hm [0, 1, 5] [] _ _ rfl rfl rfl) ⟨_, rfl, rfl, h⟩ ?_
   clear h
   rintro k0 E H ⟨x2, rfl, rfl, h⟩
   cases k0 with
   | zero => cases (show (none : Option (Sum (Unit) (Bool))) = some _ from h)
   | succ k0 =>
    rw [laws_rows9_l0] at h
    refine ACode_seq ?_
    refine ACode_seq (ACode_region ?_)
    refine AOps_q 11 _ rfl rfl rfl (QOp_move _ _ rfl rfl) ?_
    refine AOps_q 12 _ rfl rfl rfl (QOp_move _ _ rfl rfl) ?_
    refine AOps_q 13 _ rfl rfl rfl (QOp_len_sl _ _ _ _ _ _ _ (rowsD_length _) rfl rfl rfl rfl Try.underlying45 rfl) ?_
    refine AOps_q 14 _ rfl rfl rfl (QOp_lss _ _ _ _ _ _ _ rfl rfl rfl) ?_
    refine AOps_nil ?_
    refine ACode_cond _ rfl (fun hb3 => ?_) (fun hb3 => ?_)
    ·have h := iteT hb3 h
     refine ACode_skip ?_
     refine ACode_seq ?_
     refine ACode_block ?_
     refine ACode_seq (ACode_quiet mixed (by kernel_rfl) ?_)
     refine AQ_q 17 _ rfl rfl rfl (QOp_move _ _ rfl rfl) ?_
     refine AQ_q 18 _ rfl rfl rfl (QOp_move _ _ rfl rfl) ?_
     obtain ⟨hc4, h⟩ := guardO h
     refine AQ_q 19 _ rfl rfl rfl (QOp_indexAddr_sl _ _ _ _ _ _ _ _ rfl Try.underlying45 Try.sizeOf24 hc4.1 (by rw [rowsD_length]; exact hc4.2) rfl rfl) ?_
     refine AQ_q 20 _ rfl rfl rfl (QOp_load_pv _ _ _ _ _ rfl Try.isAgg24 rfl (rowsD_get _ _ [] (by omega))) ?_
     refine AQ_q 21 _ rfl rfl rfl (QOp_move _ _ rfl rfl) ?_
     refine AQ_q 22 _ rfl rfl rfl (QOp_move _ _ rfl rfl) ?_
     obtain ⟨hc5, h⟩ := guardO h
     refine AQ_q 23 _ rfl rfl rfl (QOp_indexAddr_sl _ _ _ _ _ _ _ _ rfl Try.underlying45 Try.sizeOf24 hc5.1 (by rw [rowsD_length]; exact hc5.2) rfl rfl) ?_
     refine AQ_q 24 _ rfl rfl rfl (QOp_load_pv _ _ _ _ _ rfl Try.isAgg24 rfl (rowsD_get _ _ [] (by omega))) ?_
     obtain ⟨r6, hr6, h⟩ := bindO h
     refine AQ_call 25 _ _ _ _ _ _ _ _ _ rfl rfl rfl rfl rfl rfl rfl Try.call16 rfl rfl rfl (laws_likeInts_ac k (p0.getD x2.toNat []) (p1.getD x2.toNat []) _ hr6) ?_
     refine AQ_q 26 _ rfl rfl rfl (QOp_not _ _ _ rfl rfl) ?_
     refine AQ_nil ?_
     refine ACode_cond _ rfl (fun hb7 => ?_) (fun hb7 => ?_)
     ·have h := iteT hb7 h
      refine ACode_seq (ACode_region ?_)
      refine AOps_q 4 _ rfl rfl rfl (QOp_assign _ _ rfl rfl) ?_
      refine AOps_nil ?_
      refine ACode_ret ?_
      cases h
      have h := hks8
      cases h
      exact ⟨_, _, fun r a w h => ⟨r, h⟩, _, _, [], _, (.cons (ResV_tmp _ _ rfl) .nil), rfl, rfl, rfl, rfl, rfl⟩
     ·have h := iteF hb7 h
      refine ACode_skip ?_
      refine (ACode_region ?_)
      refine AOps_q 15 _ rfl rfl rfl (QOp_move _ _ rfl rfl) ?_
      refine AOps_q 16 _ rfl rfl rfl (QOp_add _ _ _ _ _ _ _ rfl rfl rfl) ?_
      refine AOps_q 5 _ rfl rfl rfl (QOp_assign _ _ rfl rfl) ?_
      refine AOps_nil ?_
      exact ⟨k0, _, _, Nat.lt_succ_self _, Weak_keep 0 hm [0, 1, 5] [] _ _ rfl rfl rfl, _, rfl, rfl, h⟩
    ·have h := iteF hb3 h
     refine ACode_exit ?_
     cases h
     exact ⟨_, rfl, Weak_keep 0 hm [] [] _ _ rfl rfl rfl⟩
  rintro E' H' ⟨s8, rfl, hw⟩
  refine ACode_weak hw ?_
  have h := hks8
  refine ACode_seq (ACode_region ?_)
  refine AOps_q 4 _ rfl rfl rfl (QOp_assign _ _ rfl rfl) ?_
  refine AOps_nil ?_
  refine ACode_ret ?_
  cases h
  exact ⟨_, _, fun r a w h => ⟨r, h⟩, _, _, [], _, (.cons (ResV_tmp _ _ rfl) .nil), rfl, rfl, rfl, rfl, rfl⟩

-- loop.example/g01362/impl.CountCliques$1
def impl_CountCliques_c1 (p0 : Col) (p1 : Int) (p2 : Int) : Bool :=
 letO (if (impl_Colouring_hasColour p0 p1) then (impl_in p2 0 17) else false) fun (s4 : Bool) => s4
set_option maxRecDepth 100000 in
theorem impl_CountCliques_c1_ac (p0 : Col) (p1 : Int) (p2 : Int) : AC Try.prog 109 [.d (.pv (colD p0) 0), .d (.pv ([iD p1]) 0), .d (.pv ([iD p2]) 0)] [] (fun res H' => res = [bV (impl_CountCliques_c1 p0 p1 p2)] ∧ H' = []) := by
 refine AC_of_body true Try.func109 rfl Try.ntmps109 (rvs := [.tmp 3]) rfl rfl (fun G hG => ?_)
 have hm : G.H.length = 0 := by rw [hG]; rfl
 have hz : zeroG G.H = true := by rw [hG]; rfl
 obtain ⟨r, h⟩ : ∃ r, impl_CountCliques_c1 p0 p1 p2 = r := ⟨_, rfl⟩
 rw [h]
 unfold impl_CountCliques_c1 at h
 refine ACode_seq (ACode_region ?_)
 refine AOps_q 3 _ rfl rfl rfl (QOp_assign _ _ rfl rfl) ?_
 refine AOps_nil ?_
 obtain ⟨s4, hss4, hks4⟩ := letS h
 clear h
 refine ACode_seqJ (fun E' H' => Weak 10 G E' H' [(3, bV s4)] []) ?_ ?_
 ·have h := hss4
  clear hss4
  refine (ACode_region ?_)
  refine AOps_q 4 _ rfl rfl rfl (QOp_load_pv _ _ _ _ _ rfl Try.isAgg2 rfl rfl) ?_
  refine AOps_call [] 5 _ _ _ _ _ _ _ _ _ _ rfl rfl rfl rfl rfl rfl rfl Try.call103 rfl (nodupB_sound _ rfl) rfl rfl rfl (impl_Colouring_hasColour_ac p0 p1) ?_
  rintro _ _ ⟨rfl, rfl⟩
  refine ⟨(fun _ h => nomatch h), (allc (trivial) (fun _ h => nomatch h)), AOps_as 5 (v' := bV (impl_Colouring_hasColour p0 p1)) (H' := []) rfl rfl ?_⟩
  refine AOps_q 6 _ rfl rfl rfl (QOp_move _ _ rfl rfl) ?_
  refine AOps_case 6 _ rfl (fun hb2 => ?_) (fun hb2 => ?_)
  ·have h := iteT hb2 h
   refine AOps_q 7 _ rfl rfl rfl (QOp_load_pv _ _ _ _ _ rfl Try.isAgg2 rfl rfl) ?_
   refine AOps_call [] 8 _ _ _ _ _ _ _ _ _ _ rfl rfl rfl rfl rfl rfl rfl Try.call99 rfl (nodupB_sound _ rfl) rfl rfl rfl (impl_in_ac p2 0 17) ?_
   rintro _ _ ⟨rfl, rfl⟩
   refine ⟨(fun _ h => nomatch h), (allc (trivial) (fun _ h => nomatch h)), AOps_as 8 (v' := bV (impl_in p2 0 17)) (H' := []) rfl rfl ?_⟩
   refine AOps_q 9 _ rfl rfl rfl (QOp_pick_t _ _ _ _ rfl rfl rfl) ?_
   refine AOps_q 3 _ rfl rfl rfl (QOp_assign _ _ rfl rfl) ?_
   refine AOps_nil ?_
   cases h
   exact Weak_keep 0 hm [3] [] _ _ rfl rfl rfl
  ·have h := iteF hb2 h
   refine AOps_skip 7 rfl rfl rfl ?_
   refine AOps_skip 8 rfl rfl rfl ?_
   refine AOps_q 9 _ rfl rfl rfl (QOp_pick_f _ _ _ _ rfl rfl rfl) ?_
   refine AOps_q 3 _ rfl rfl rfl (QOp_assign _ _ rfl rfl) ?_
   refine AOps_nil ?_
   cases h
   exact Weak_keep 0 hm [3] [] _ _ rfl rfl rfl
 intro E' H' hw
 refine ACode_weak hw ?_
 have h := hks4
 refine ACode_ret ?_
 cases h
 exact ⟨_, _, fun r a w h => ⟨r, h⟩, _, _, [], _, (.cons (ResV_tmp _ _ rfl) .nil), rfl, rfl, rfl, rfl, rfl⟩

-- (*loop.example/g01362/impl.Colouring).countThat$1
def impl_Colouring_countThat_c1 (p0 : List Int) (p1 : Int) (p2 : (List Int) → Option (Bool)) (p3 : Int) : Option (Bool × Int) :=
 (((if decide ((impl_size p0) = p1) then (p2 p0).bind fun r3 => some r3 else some false) : Option (Bool)).bind fun s4 => (if s4 then some (w64 (p3 + 1)) else some p3) : Option (Int)).bind fun s6 => some (true, s6)
set_option maxRecDepth 100000 in
theorem impl_Colouring_countThat_c1_ac (p0 : List Int) (p1 : Int) (p2 : (List Int) → Option (Bool)) (p3 : Int) (g_p2 : FuncId) (c_p2 : List D) (hg_p2 : ∀ args w, (callFunc g_p2 args).run Try.prog w = .ok (.enter g_p2 args) w) (hf_p2 : ∀ (a0 : List Int) (r : Bool), p2 a0 = some r → AC Try.prog g_p2 ([.d (.sl none (intsD a0))] ++ c_p2.map AV.d) [] (fun res H' => res = [bV r] ∧ H' = [])) (r : Bool × Int) (h : impl_Colouring_countThat_c1 p0 p1 p2 p3 = some r) : AC Try.prog 194 [.d (.sl none (intsD p0)), .d (.pv ([iD p1]) 0), .d (.pv ([.clo g_p2 c_p2]) 0), .ptr 0 0] [.box [iD p3]] (fun res H' => res = [bV r.1] ∧ H' = [.box [iD r.2]]) := by
 refine AC_of_body true Try.func194 rfl Try.ntmps194 (rvs := [.tmp 5]) rfl rfl (fun G hG => ?_)
 have hm : G.H.length = 1 := by rw [hG]; rfl
 have hz : zeroG G.H = true := by rw [hG]; rfl
 unfold impl_Colouring_countThat_c1 at h
 refine ACode_seq (ACode_region ?_)
 refine AOps_q 5 _ rfl rfl rfl (QOp_assign _ _ rfl rfl) ?_
 refine AOps_nil ?_
 obtain ⟨s6, hss6, hks6⟩ := bindO h
 clear h
 refine ACode_seqJ (fun E' H' => Weak 17 G E' H' [] [.box [iD s6]]) ?_ ?_
 ·have h := hss6
  clear hss6
  obtain ⟨s4, hss4, hks4⟩ := bindO h
  clear h
  refine ACode_seqJ (fun E' H' => Weak 17 G E' H' [(3, .ptr 0 0), (14, bV s4)] [.box [iD p3]]) ?_ ?_
  ·have h := hss4
   clear hss4
   refine (ACode_quiet mixed (by kernel_rfl) ?_)
   refine AQ_q 6 _ rfl rfl rfl (QOp_move _ _ rfl rfl) ?_
   refine AQ_call 7 _ _ _ _ _ _ _ _ _ rfl rfl rfl rfl rfl rfl rfl Try.call106 rfl rfl rfl (impl_size_ac p0) ?_
   refine AQ_q 8 _ rfl rfl rfl (QOp_load_pv _ _ _ _ _ rfl Try.isAgg2 rfl rfl) ?_
   refine AQ_q 9 _ rfl rfl rfl (QOp_eql _ _ _ _ _ _ _ rfl rfl rfl) ?_
   refine AQ_q 10 _ rfl rfl rfl (QOp_move _ _ rfl rfl) ?_
   refine AQ_case 10 _ rfl (fun hb2 => ?_) (fun hb2 => ?_)
   ·have h := iteT hb2 h
    refine AQ_q 11 _ rfl rfl rfl (QOp_load_pv _ _ _ _ _ rfl Try.isAgg91 rfl rfl) ?_
    refine AQ_q 12 _ rfl rfl rfl (QOp_move _ _ rfl rfl) ?_
    obtain ⟨r3, hr3, h⟩ := bindO h
    refine AQ_call 13 _ _ _ _ _ _ _ _ _ rfl rfl rfl rfl rfl rfl rfl hg_p2 rfl rfl (viewA_mapD _) (hf_p2 p0 _ hr3) ?_
    refine AQ_q 14 _ rfl rfl rfl (QOp_pick_t _ _ _ _ rfl rfl rfl) ?_
    refine AQ_nil ?_
    cases h
    exact Weak_keep 1 hm [3, 14] [] _ _ rfl rfl rfl
   ·have h := iteF hb2 h
    refine AQ_skip 11 rfl rfl rfl ?_
    refine AQ_skip 12 rfl rfl rfl ?_
    refine AQ_skip 13 rfl rfl rfl ?_
    refine AQ_q 14 _ rfl rfl rfl (QOp_pick_f _ _ _ _ rfl rfl rfl) ?_
    refine AQ_nil ?_
    cases h
    exact Weak_keep 1 hm [3, 14] [] _ _ rfl rfl rfl
  intro E' H' hw
  refine ACode_weak hw ?_
  have h := hks4
  refine ACode_cond _ rfl (fun hb5 => ?_) (fun hb5 => ?_)
  ·have h := iteT hb5 h
   refine (ACode_region ?_)
   refine AOps_q 15 _ rfl rfl rfl (QOp_load_ptr _ _ _ _ _ _ rfl Try.isAgg2 rfl rfl rfl) ?_
   refine AOps_q 16 _ rfl rfl rfl (QOp_add _ _ _ _ _ _ _ rfl rfl rfl) ?_
   refine AOps_store1 _ _ _ _ _ _ _ _ rfl rfl rfl rfl rfl rfl rfl Try.sizeOf2 (Nat.le_of_ble_eq_true rfl) rfl ?_
   refine AOps_nil ?_
   cases h
   exact Weak_keep 1 hm [] [] _ _ rfl rfl rfl
  ·have h := iteF hb5 h
   refine ACode_skip ?_
   cases h
   exact Weak_keep 1 hm [] [] _ _ rfl rfl rfl
 intro E' H' hw
 refine ACode_weak hw ?_
 have h := hks6
 refine ACode_seq (ACode_region ?_)
 refine AOps_q 5 _ rfl rfl rfl (QOp_assign _ _ rfl rfl) ?_
 refine AOps_nil ?_
 refine ACode_ret ?_
 cases h
 exact ⟨_, _, fun r a w h => ⟨r, h⟩, _, _, [], _, (.cons (ResV_tmp _ _ rfl) .nil), rfl, rfl, rfl, rfl, rfl⟩

-- (*loop.example/g01362/impl.Colouring).cliques
def impl_Colouring_cliques_on_countThat_c1_l0 (k : Nat) (self : Col → Int → (List Int) → Int → ((List Int) → Option (Bool)) → Int → Option (Bool × Int)) (p0 : Col) (p1 : Int) (p2 : List Int) (p3_0 : Int) (p3_1 : (List Int) → Option (Bool)) : Nat → Int → Int → Option (Sum (Int) (Bool × Int))
 | 0, _, _ => none
 | k0 + 1, x6, x7 => (if decide (x6 < p0.p) then (((impl_Colouring_goesWith k p0 p1 p2 x6).bind fun r9 => (if r9 then (if p2.isEmpty then (if ([x6]).length ≤ 1099511627776 ∧ ([x6]).length ≠ 0 then (self p0 p1 ([x6]) p3_0 p3_1 x7).bind fun r14 => some (!r14.1, r14.2) else none) else (cloneA p2).bind fun r15 => (if r15.length + ([x6]).length ≤ 1099511627776 then (self p0 p1 (r15 ++ ([x6])) p3_0 p3_1 x7).bind fun r17 => some (!r17.1, r17.2) else none)) else some (false, x7)) : Option (Bool × Int)).bind fun s18 => (if s18.1 then (some (.inr (false, s18.2))).bind fun rr => some (.inr rr) else some (.inl s18.2)) : Option (Sum (Int) (Sum (Int) (Bool × Int)))).bind fun os20 => (match os20 with | .inl s20 => impl_Colouring_cliques_on_countThat_c1_l0 k self p0 p1 p2 p3_0 p3_1 k0 (w64 (x6 + 1)) s20 | .inr rr => some rr) else some (.inl x7))
def impl_Colouring_cliques_on_countThat_c1_body (self : Col → Int → (List Int) → Int → ((List Int) → Option (Bool)) → Int → Option (Bool × Int)) (k : Nat) (p0 : Col) (p1 : Int) (p2 : List Int) (p3_0 : Int) (p3_1 : (List Int) → Option (Bool)) (p3_2 : Int) : Option (Bool × Int) :=
 (impl_Colouring_countThat_c1 p2 p3_0 p3_1 p3_2).bind fun r1 => (if !r1.1 then some (false, r1.2) else ((if decide (0 < (p2.length : Int)) then (if 0 ≤ w64 ((p2.length : Int) - 1) ∧ w64 ((p2.length : Int) - 1) < (p2.length : Int) then some (w64 ((p2.getD (w64 ((p2.length : Int) - 1)).toNat 0) + 1)) else none) else some 0) : Option (Int)).bind fun s5 => (impl_Colouring_cliques_on_countThat_c1_l0 k self p0 p1 p2 p3_0 p3_1 k s5 r1.2 : Option (Sum (Int) (Bool × Int))).bind fun os21 => (match os21 with | .inl s21 => some (true, s21) | .inr rr => some rr))
def impl_Colouring_cliques_on_countThat_c1 : Nat → Col → Int → (List Int) → Int → ((List Int) → Option (Bool)) → Int → Option (Bool × Int)
 | 0, _, _, _, _, _, _ => none
 | k + 1, p0, p1, p2, p3_0, p3_1, p3_2 => impl_Colouring_cliques_on_countThat_c1_body (impl_Colouring_cliques_on_countThat_c1 k) k p0 p1 p2 p3_0 p3_1 p3_2
set_option maxRecDepth 100000 in
theorem impl_Colouring_cliques_on_countThat_c1_ac (k : Nat) (p0 : Col) (p1 : Int) (p2 : List Int) (p3_0 : Int) (p3_1 : (List Int) → Option (Bool)) (p3_2 : Int) (g_p3_1 : FuncId) (c_p3_1 : List D) (hg_p3_1 : ∀ args w, (callFunc g_p3_1 args).run Try.prog w = .ok (.enter g_p3_1 args) w) (hf_p3_1 : ∀ (a0 : List Int) (r : Bool), p3_1 a0 = some r → AC Try.prog g_p3_1 ([.d (.sl none (intsD a0))] ++ c_p3_1.map AV.d) [] (fun res H' => res = [bV r] ∧ H' = [])) (r : Bool × Int) (h : impl_Colouring_cliques_on_countThat_c1 k p0 p1 p2 p3_0 p3_1 p3_2 = some r) : AC Try.prog 191 [.d (.pv (colD p0) 0), iV p1, .d (.sl none (intsD p2)), .clo 194 [.d (.pv ([iD p3_0]) 0), .d (.pv ([.clo g_p3_1 c_p3_1]) 0), .ptr 0 0]] [.box [iD p3_2]] (fun res H' => res = [bV r.1] ∧ H' = [.box [iD r.2]]) := by
 induction k generalizing p0 p1 p2 p3_0 p3_2 r with
 | zero => simp [impl_Colouring_cliques_on_countThat_c1] at h
 | succ k ih =>
  rw [impl_Colouring_cliques_on_countThat_c1] at h
  obtain ⟨self, hself, hk⟩ : ∃ self : Col → Int → (List Int) → Int → ((List Int) → Option (Bool)) → Int → Option (Bool × Int), (∀ (p0 : Col) (p1 : Int) (p2 : List Int) (p3_0 : Int) (p3_2 : Int) (r : Bool × Int), self p0 p1 p2 p3_0 p3_1 p3_2 = some r → AC Try.prog 191 [.d (.pv (colD p0) 0), iV p1, .d (.sl none (intsD p2)), .clo 194 [.d (.pv ([iD p3_0]) 0), .d (.pv ([.clo g_p3_1 c_p3_1]) 0), .ptr 0 0]] [.box [iD p3_2]] (fun res H' => res = [bV r.1] ∧ H' = [.box [iD r.2]])) ∧ impl_Colouring_cliques_on_countThat_c1 k = self := ⟨impl_Colouring_cliques_on_countThat_c1 k, fun p0 p1 p2 p3_0 p3_2 r h => ih p0 p1 p2 p3_0 p3_2 r h, rfl⟩
  rw [hk] at h
  clear ih hk
  refine AC_of_body true Try.func191 rfl Try.ntmps191 (rvs := [.tmp 8]) rfl rfl (fun G hG => ?_)
  have hm : G.H.length = 1 := by rw [hG]; rfl
  have hz : zeroG G.H = true := by rw [hG]; rfl
  unfold impl_Colouring_cliques_on_countThat_c1_body at h
  refine ACode_seq (ACode_region ?_)
  refine AOps_q 8 _ rfl rfl rfl (QOp_assign _ _ rfl rfl) ?_
  refine AOps_nil ?_
  refine ACode_seq ?_
  refine ACode_seq (ACode_region ?_)
  refine AOps_q 11 _ rfl rfl rfl (QOp_move _ _ rfl rfl) ?_
  refine AOps_q 12 _ rfl rfl rfl (QOp_move _ _ rfl rfl) ?_
  obtain ⟨r1, hr1, h⟩ := bindO h
  refine AOps_call [0] 13 _ _ _ _ _ _ _ _ _ _ rfl rfl rfl rfl rfl rfl rfl Try.call194 rfl (nodupB_sound _ rfl) rfl rfl rfl (impl_Colouring_countThat_c1_ac p2 p3_0 p3_1 p3_2 g_p3_1 c_p3_1 hg_p3_1 hf_p3_1 _ hr1) ?_
  rintro _ _ ⟨rfl, rfl⟩
  refine ⟨(allc (fun _ _ => trivial) (fun _ h => nomatch h)), (allc (trivial) (fun _ h => nomatch h)), AOps_as 13 (v' := bV r1.1) (H' := [.box [iD r1.2]]) rfl rfl ?_⟩
  refine AOps_q 14 _ rfl rfl rfl (QOp_not _ _ _ rfl rfl) ?_
  refine AOps_nil ?_
  refine ACode_cond _ rfl (fun hb2 => ?_) (fun hb2 => ?_)
  ·have h := iteT hb2 h
   refine ACode_seq (ACode_region ?_)
   refine AOps_q 8 _ rfl rfl rfl (QOp_assign _ _ rfl rfl) ?_
   refine AOps_nil ?_
   refine ACode_ret ?_
   cases h
   exact ⟨_, _, fun r a w h => ⟨r, h⟩, _, _, [], _, (.cons (ResV_tmp _ _ rfl) .nil), rfl, rfl, rfl, rfl, rfl⟩
  ·have h := iteF hb2 h
   refine ACode_skip ?_
   refine ACode_seq (ACode_region ?_)
   refine AOps_q 9 _ rfl rfl rfl (QOp_assign _ _ rfl rfl) ?_
   refine AOps_nil ?_
   obtain ⟨s5, hss5, hks5⟩ := bindO h
   clear h
   refine ACode_seqJ (fun E' H' => Weak 51 G E' H' [(0, .d (.pv (colD p0) 0)), (1, iV p1), (2, .d (.sl none (intsD p2))), (3, .clo 194 [.d (.pv ([iD p3_0]) 0), .d (.pv ([.clo g_p3_1 c_p3_1]) 0), .ptr 0 0]), (9, iV s5)] [.box [iD r1.2]]) ?_ ?_
   ·have h := hss5
    clear hss5
    refine ACode_seq (ACode_region ?_)
    refine AOps_q 15 _ rfl rfl rfl (QOp_move _ _ rfl rfl) ?_
    refine AOps_q 16 _ rfl rfl rfl (QOp_len_sl _ _ _ _ _ _ _ (intsD_length _) rfl rfl rfl rfl Try.underlying24 rfl) ?_
    refine AOps_q 17 _ rfl rfl rfl (QOp_gtr _ _ _ _ _ _ _ rfl rfl rfl) ?_
    refine AOps_nil ?_
    refine ACode_cond _ rfl (fun hb3 => ?_) (fun hb3 => ?_)
    ·have h := iteT hb3 h
     refine (ACode_region ?_)
     refine AOps_q 18 _ rfl rfl rfl (QOp_move _ _ rfl rfl) ?_
     refine AOps_q 19 _ rfl rfl rfl (QOp_move _ _ rfl rfl) ?_
     refine AOps_q 20 _ rfl rfl rfl (QOp_len_sl _ _ _ _ _ _ _ (intsD_length _) rfl rfl rfl rfl Try.underlying24 rfl) ?_
     refine AOps_q 21 _ rfl rfl rfl (QOp_sub _ _ _ _ _ _ _ rfl rfl rfl) ?_
     obtain ⟨hc4, h⟩ := guardO h
     refine AOps_q 22 _ rfl rfl rfl (QOp_indexAddr_sl _ _ _ _ _ _ _ _ rfl Try.underlying24 Try.sizeOf2 hc4.1 (by rw [intsD_length]; exact hc4.2) rfl rfl) ?_
     refine AOps_q 23 _ rfl rfl rfl (QOp_load_pv _ _ _ _ _ rfl Try.isAgg2 rfl (intsD_get _ _ 0 (by omega))) ?_
     refine AOps_q 24 _ rfl rfl rfl (QOp_add _ _ _ _ _ _ _ rfl rfl rfl) ?_
     refine AOps_q 9 _ rfl rfl rfl (QOp_assign _ _ rfl rfl) ?_
     refine AOps_nil ?_
     cases h
     exact Weak_keep 1 hm [0, 1, 2, 3, 9] [] _ _ rfl rfl rfl
    ·have h := iteF hb3 h
     refine ACode_skip ?_
     cases h
     exact Weak_keep 1 hm [0, 1, 2, 3, 9] [] _ _ rfl rfl rfl
   intro E' H' hw
   refine ACode_weak hw ?_
   have h := hks5
   obtain ⟨os21, hss21, hks21⟩ := bindO h
   clear h
   refine ACode_seqJ (fun E' H' => ∃ s21 : Int, os21 = .inl s21 ∧ Weak 51 G E' H' [] [.box [iD s21]]) ?_ ?_
   ·have h := hss21
    clear hss21
    refine ACode_seq (ACode_region ?_)
    refine AOps_q 25 _ rfl rfl rfl (QOp_move _ _ rfl rfl) ?_
    refine AOps_q 10 _ rfl rfl rfl (QOp_assign _ _ rfl rfl) ?_
    refine AOps_nil ?_
    refine ACode_block ?_
    refine ACode_loopW (fun k0 E H => ∃ (x6 : Int) (x7 : Int), E = [(0, .d (.pv (colD p0) 0)), (1, iV p1), (2, .d (.sl none (intsD p2))), (3, .clo 194 [.d (.pv ([iD p3_0]) 0), .d (.pv ([.clo g_p3_1 c_p3_1]) 0), .ptr 0 0]), (10, iV x6)] ∧ H = [.box [iD x7]] ∧ impl_Colouring_cliques_on_countThat_c1_l0 k self p0 p1 p2 p3_0 p3_1 k0 x6 x7 = some os21) k _ _ (Weak_keep 1 hm [0, 1, 2, 3, 10] [] _ _ rfl rfl rfl) ⟨_, _, rfl, rfl, h⟩ ?_
    clear h
    rintro k0 E H ⟨x6, x7, rfl, rfl, h⟩
    cases k0 with
    | zero => cases (show (none : Option (Sum (Int) (Bool × Int))) = some _ from h)
    | succ k0 =>
     rw [impl_Colouring_cliques_on_countThat_c1_l0] at h
     refine ACode_seq ?_
     refine ACode_seq (ACode_region ?_)
     refine AOps_q 26 _ rfl rfl rfl (QOp_move _ _ rfl rfl) ?_
     refine AOps_q 27 _ rfl rfl rfl (QOp_move _ _ rfl rfl) ?_
     refine AOps_q 28 _ rfl rfl rfl (QOp_nilCheck_pv _ _ _ rfl rfl) ?_
     refine AOps_q 29 _ rfl rfl rfl (QOp_fieldAddr_pv _ _ _ _ _ 0 _ _ rfl Try.underlying29 rfl _ Try.sizeOf2 rfl rfl) ?_
     refine AOps_q 30 _ rfl rfl rfl (QOp_load_pv _ _ _ _ _ rfl Try.isAgg2 rfl rfl) ?_
     refine AOps_q 31 _ rfl rfl rfl (QOp_lss _ _ _ _ _ _ _ rfl rfl rfl) ?_
     refine AOps_nil ?_
     refine ACode_cond _ rfl (fun hb8 => ?_) (fun hb8 => ?_)
     ·have h := iteT hb8 h
      refine ACode_skip ?_
      obtain ⟨os20, hss20, hks20⟩ := bindO h
      clear h
      refine ACode_seqJ (fun E' H' => ∃ s20 : Int, os20 = .inl s20 ∧ Weak 51 G E' H' [(0, .d (.pv (colD p0) 0)), (1, iV p1), (2, .d (.sl none (intsD p2))), (3, .clo 194 [.d (.pv ([iD p3_0]) 0), .d (.pv ([.clo g_p3_1 c_p3_1]) 0), .ptr 0 0]), (10, iV x6)] [.box [iD s20]]) ?_ ?_
      ·have h := hss20
       clear hss20
       refine ACode_block ?_
       obtain ⟨s18, hss18, hks18⟩ := bindO h
       clear h
       refine ACode_seqJ (fun E' H' => Weak 51 G E' H' [(0, .d (.pv (colD p0) 0)), (1, iV p1), (2, .d (.sl none (intsD p2))), (3, .clo 194 [.d (.pv ([iD p3_0]) 0), .d (.pv ([.clo g_p3_1 c_p3_1]) 0), .ptr 0 0]), (10, iV x6), (50, bV s18.1)] [.box [iD s18.2]]) ?_ ?_
       ·have h := hss18
        clear hss18
        refine (ACode_region ?_)
        refine AOps_q 34 _ rfl rfl rfl (QOp_move _ _ rfl rfl) ?_
        refine AOps_q 35 _ rfl rfl rfl (QOp_move _ _ rfl rfl) ?_
        refine AOps_q 36 _ rfl rfl rfl (QOp_move _ _ rfl rfl) ?_
        refine AOps_q 37 _ rfl rfl rfl (QOp_move _ _ rfl rfl) ?_
        obtain ⟨r9, hr9, h⟩ := bindO h
        refine AOps_call [] 38 _ _ _ _ _ _ _ _ _ _ rfl rfl rfl rfl rfl rfl rfl Try.call138 rfl (nodupB_sound _ rfl) rfl rfl rfl (impl_Colouring_goesWith_ac k p0 p1 p2 x6 _ hr9) ?_
        rintro _ _ ⟨rfl, rfl⟩
        refine ⟨(fun _ h => nomatch h), (allc (trivial) (fun _ h => nomatch h)), AOps_as 38 (v' := bV r9) (H' := [.box [iD x7]]) rfl rfl ?_⟩
        refine AOps_q 39 _ rfl rfl rfl (QOp_move _ _ rfl rfl) ?_
        refine AOps_case 39 _ rfl (fun hb10 => ?_) (fun hb10 => ?_)
        ·have h := iteT hb10 h
         refine AOps_q 40 _ rfl rfl rfl (QOp_move _ _ rfl rfl) ?_
         refine AOps_q 41 _ rfl rfl rfl (QOp_move _ _ rfl rfl) ?_
         refine AOps_q 42 _ rfl rfl rfl (QOp_move _ _ rfl rfl) ?_
         refine bsplit (p2.isEmpty) (fun hb11 => ?_) (fun hb11 => ?_)
         ·have h := iteT hb11 h
          refine AOps_call [] 43 _ _ _ _ _ _ _ _ _ _ rfl rfl rfl rfl rfl rfl rfl Try.call96 rfl (nodupB_sound _ rfl) rfl rfl rfl (cloneB_ac p2 hb11) ?_
          rintro _ _ ⟨rfl, rfl⟩
          refine ⟨(fun _ h => nomatch h), (allc (trivial) (fun _ h => nomatch h)), AOps_as 43 (v' := .d (.se none)) (H' := [.box [iD x7]]) rfl rfl ?_⟩
          refine AOps_q 44 _ rfl rfl rfl (QOp_move _ _ rfl rfl) ?_
          refine AOps_buildSlice 45 _ _ _ [_] (intsD ([x6])) _ rfl rfl rfl rfl rfl (by decide) Try.underlying24 Try.sizeOf2 (zero_of Try.typeInfo2 rfl) rfl rfl (intsD_one _) ?_
          obtain ⟨hc13, h⟩ := guardO h
          refine AOps_append0 46 _ _ _ _ _ _ _ _ _ _ rfl rfl rfl rfl rfl rfl rfl Try.underlying24 Try.type2 rfl rfl rfl (by decide) rfl rfl rfl (intsD_one _) (by rw [intsD_length]; exact hc13.1) (by rw [intsD_length]; exact hc13.2) ?_
          refine AOps_q 47 _ rfl rfl rfl (QOp_move _ _ rfl rfl) ?_
          obtain ⟨r14, hr14, h⟩ := bindO h
          refine AOps_callL [0] 48 _ _ _ _ _ _ _ _ _ _ rfl rfl rfl rfl rfl rfl rfl Try.call191 rfl (nodupB_sound _ rfl) rfl rfl rfl (hself p0 p1 ([x6]) p3_0 x7 _ hr14) ?_
          rintro _ _ ⟨rfl, rfl⟩
          refine ⟨(allc ((fun c hc => by cases hc with | head => exact flat_s _ | tail _ h => cases h)) (fun _ h => nomatch h)), (allc (flat_s _) (fun _ h => nomatch h)), AOps_as 48 (v' := bV r14.1) (H' := [.box [iD r14.2], .vec 0 (intsD ([x6])), .vec 0 (intsD ([x6]))]) rfl rfl ?_⟩
          refine AOps_q 49 _ rfl rfl rfl (QOp_not _ _ _ rfl rfl) ?_
          refine AOps_q 50 _ rfl rfl rfl (QOp_pick_t _ _ _ _ rfl rfl rfl) ?_
          refine AOps_nil ?_
          cases h
          exact Weak_keep 1 hm [0, 1, 2, 3, 10, 50] [] _ _ rfl rfl rfl
         ·have h := iteF hb11 h
          obtain ⟨r15, hr15, h⟩ := bindO h
          refine AOps_call [] 43 _ _ _ _ _ _ _ _ _ _ rfl rfl rfl rfl rfl rfl rfl Try.call96 rfl (nodupB_sound _ rfl) rfl rfl rfl (cloneA_ac p2 _ hb11 hr15) ?_
          rintro _ _ ⟨rfl, rfl⟩
          refine ⟨(allc (fun _ _ => trivial) (fun _ h => nomatch h)), (allc (trivial) (fun _ h => nomatch h)), AOps_as 43 (v' := .vec 1 0) (H' := [.box [iD x7], .vec 0 (intsD r15)]) rfl rfl ?_⟩
          refine AOps_q 44 _ rfl rfl rfl (QOp_move _ _ rfl rfl) ?_
          refine AOps_buildSlice 45 _ _ _ [_] (intsD ([x6])) _ rfl rfl rfl rfl rfl (by decide) Try.underlying24 Try.sizeOf2 (zero_of Try.typeInfo2 rfl) rfl rfl (intsD_one _) ?_
          obtain ⟨hc16, h⟩ := guardO h
          refine AOps_append 46 _ _ _ _ _ _ _ _ _ _ _ _ rfl rfl rfl rfl rfl rfl rfl Try.underlying24 Try.type2 rfl rfl rfl (by decide) rfl rfl rfl rfl (intsD_one _) (by rw [intsD_length, intsD_length]; exact hc16) ?_
          rw [intsD_app]
          refine AOps_q 47 _ rfl rfl rfl (QOp_move _ _ rfl rfl) ?_
          obtain ⟨r17, hr17, h⟩ := bindO h
          refine AOps_callL [0] 48 _ _ _ _ _ _ _ _ _ _ rfl rfl rfl rfl rfl rfl rfl Try.call191 rfl (nodupB_sound _ rfl) rfl rfl rfl (hself p0 p1 (r15 ++ ([x6])) p3_0 x7 _ hr17) ?_
          rintro _ _ ⟨rfl, rfl⟩
          refine ⟨(allc ((fun c hc => by cases hc with | head => exact flat_s _ | tail _ h => cases h)) (fun _ h => nomatch h)), (allc (flat_s _) (fun _ h => nomatch h)), AOps_as 48 (v' := bV r17.1) (H' := [.box [iD r17.2], .vec 1 (intsD (r15 ++ ([x6]))), .vec 0 (intsD ([x6]))]) rfl rfl ?_⟩
          refine AOps_q 49 _ rfl rfl rfl (QOp_not _ _ _ rfl rfl) ?_
          refine AOps_q 50 _ rfl rfl rfl (QOp_pick_t _ _ _ _ rfl rfl rfl) ?_
          refine AOps_nil ?_
          cases h
          exact Weak_keep 1 hm [0, 1, 2, 3, 10, 50] [] _ _ rfl rfl rfl
        ·have h := iteF hb10 h
         refine AOps_skip 40 rfl rfl rfl ?_
         refine AOps_skip 41 rfl rfl rfl ?_
         refine AOps_skip 42 rfl rfl rfl ?_
         refine AOps_skip 43 rfl rfl rfl ?_
         refine AOps_skip 44 rfl rfl rfl ?_
         refine AOps_skip 45 rfl rfl rfl ?_
         refine AOps_skip 46 rfl rfl rfl ?_
         refine AOps_skip 47 rfl rfl rfl ?_
         refine AOps_skip 48 rfl rfl rfl ?_
         refine AOps_skip 49 rfl rfl rfl ?_
         refine AOps_q 50 _ rfl rfl rfl (QOp_pick_f _ _ _ _ rfl rfl rfl) ?_
         refine AOps_nil ?_
         cases h
         exact Weak_keep 1 hm [0, 1, 2, 3, 10, 50] [] _ _ rfl rfl rfl
       intro E' H' hw
       refine ACode_weak hw ?_
       have h := hks18
       refine ACode_cond _ rfl (fun hb19 => ?_) (fun hb19 => ?_)
       ·have h := iteT hb19 h
        refine ACode_seq (ACode_region ?_)
        refine AOps_q 8 _ rfl rfl rfl (QOp_assign _ _ rfl rfl) ?_
        refine AOps_nil ?_
        refine ACode_ret ?_
        obtain ⟨rr, hz22, h2⟩ := bindO h
        obtain rfl := Option.some.inj h2
        obtain rfl := Option.some.inj (show some rr = some _ from hks20)
        have h := hz22
        cases h
        have h := hks21
        cases h
        exact ⟨_, _, fun r a w h => ⟨r, h⟩, _, _, [], _, (.cons (ResV_tmp _ _ rfl) .nil), rfl, rfl, rfl, rfl, rfl⟩
       ·have h := iteF hb19 h
        refine ACode_skip ?_
        cases h
        exact ⟨_, rfl, Weak_keep 1 hm [0, 1, 2, 3, 10] [] _ _ rfl rfl rfl⟩
      rintro E' H' ⟨s20, rfl, hw⟩
      refine ACode_weak hw ?_
      have h := hks20
      refine (ACode_region ?_)
      refine AOps_q 32 _ rfl rfl rfl (QOp_move _ _ rfl rfl) ?_
      refine AOps_q 33 _ rfl rfl rfl (QOp_add _ _ _ _ _ _ _ rfl rfl rfl) ?_
      refine AOps_q 10 _ rfl rfl rfl (QOp_assign _ _ rfl rfl) ?_
      refine AOps_nil ?_
      exact ⟨k0, _, _, Nat.lt_succ_self _, Weak_keep 1 hm [0, 1, 2, 3, 10] [] _ _ rfl rfl rfl, _, _, rfl, rfl, h⟩
     ·have h := iteF hb8 h
      refine ACode_exit ?_
      cases h
      exact ⟨_, rfl, Weak_keep 1 hm [] [] _ _ rfl rfl rfl⟩
   rintro E' H' ⟨s21, rfl, hw⟩
   refine ACode_weak hw ?_
   have h := hks21
   refine ACode_seq (ACode_region ?_)
   refine AOps_q 8 _ rfl rfl rfl (QOp_assign _ _ rfl rfl) ?_
   refine AOps_nil ?_
   refine ACode_ret ?_
   cases h
   exact ⟨_, _, fun r a w h => ⟨r, h⟩, _, _, [], _, (.cons (ResV_tmp _ _ rfl) .nil), rfl, rfl, rfl, rfl, rfl⟩

end Go.Proofs.Ytfoijbdnkkaceaa
