/- Own library: impl.ExtensionList with rows that are the whole of their blocks: turned from the printed contracts by mku41.py. No conditions. -/
import Derived.Test.YtldgmcghdohmeaaGen41
import Derived.Test.YtldgmcghdohmeaaExtW
set_option linter.unusedVariables false
set_option linter.unusedSimpArgs false
namespace Go.Proofs.Ytldgmcghdohmeaa
open Go Go.RowKit Ab

set_option maxRecDepth 100000 in
theorem impl_ExtensionList_c1_acU (p0 : List Int) (p0n : Nat) (p1 : List (List Int)) (r : Bool × List Int × List (List Int)) (h : impl_ExtensionList_c1 p0 p0n p1 = some r) : AC Try.prog 19 [.part 0 0 0 p0n, .ptr 1 0] [.vec 0 (intsD p0), .ref (.vec 2 0), .vec 0 (rowsU p1)] (fun res H' => res = [bV r.1] ∧ H' = [.vec 0 (intsD r.2.1), .ref (.vec 2 1), .vec 1 (rowsU r.2.2)]) := by
 refine AC_of_body true Try.func19 rfl Try.ntmps19 (rvs := [.tmp 3]) rfl rfl (fun G hG => ?_)
 have hm : G.H.length = 3 := by rw [hG]; rfl
 have hz : zeroG G.H = true := by rw [hG]; rfl
 refine ACode_weak (Weak_bump 1 2 _ rfl rfl _ rfl) ?_
 unfold impl_ExtensionList_c1 at h
 refine kR ?_
 refine kN 1 rfl ?_
 refine bsplit (((p0.drop 0).take p0n).isEmpty) (fun hb1 => ?_) (fun hb1 => ?_)
 ·have h := iteT hb1 h
  cases h
 have h := iteF hb1 h
 obtain ⟨r2, hr2, h⟩ := bindO h
 obtain ⟨hc3, h⟩ := guardO h
 refine ACode_seq (ACode_reg [(1, .ptr 1 0)] [.vec 0 (intsD p0), .ref (.vec 2 1), .vec 1 (rowsU (p1 ++ ([r2])))] ?_ ?_)
 ·refine ACode_anyU mixed ?_
  refine AU_cut 2 #[true, true, true, true, false, false] [(1, .ptr 1 0), (4, .vec 2 1), (7, .vec 3 0)] [.vec 0 (intsD p0), .ref (.vec 2 1), .vec 1 (rowsU p1), .vec 0 (rowsU ([r2]))] ?_ (fun hS0 => ?_)
  ·refine AU_one 4 (by kernel_rfl) rfl rfl ?_
   refine AOps_append 8 _ _ _ _ _ _ _ _ _ _ _ _ rfl rfl rfl rfl rfl rfl rfl Try.underlying26 Try.type25 rfl rfl rfl (by decide) rfl rfl rfl rfl (rowsU_one _) (by rw [rowsU_length, rowsU_length]; exact hc3) ?_
   rw [rowsU_app]
   refine AOps_nil ?_
   refine AU_one 5 (by kernel_rfl) rfl rfl ?_
   refine AOps_storeR 1 _ _ _ _ _ rfl rfl rfl rfl rfl rfl rfl rfl Try.sizeOf26 (fun r a w hr => vec_one hr rfl rfl rfl) ?_
   refine AOps_nil ?_
   refine AU_done (by kernel_rfl) ?_
   exact ⟨rfl, Weak_trans (Weak_keep 3 hm [1] [] _ _ rfl rfl rfl) (Weak_reset 3 hm hz [1] _ _ rfl rfl)⟩
  refine AU_cut 3 #[true, true, true, false, false, false] [(1, .ptr 1 0), (4, .vec 2 1), (6, .vec 3 0)] [.vec 0 (intsD p0), .ref (.vec 2 1), .vec 1 (rowsU p1), .vec 0 (intsD r2)] ?_ (fun hS1 => ?_)
  ·refine AU_one 3 (by kernel_rfl) rfl rfl ?_
   refine AOps_weak (Weak_frzU 6 3 0 _ rfl rfl) ?_
   refine AOps_buildSlice 7 _ _ _ [_] (rowsU ([r2])) _ rfl rfl rfl rfl rfl (by decide) Try.underlying26 Try.sizeOf25 (zero_of Try.typeInfo25 rfl) rfl rfl (rowsU_one _) ?_
   refine AOps_nil ?_
   exact AU_to (by kernel_rfl) hS0 (Weak_keep 3 hm [1, 4, 7] [4] _ _ rfl rfl rfl)
  refine AU_u 1 5 _ rfl (by kernel_rfl) rfl rfl rfl (UOp_move _ _ rfl rfl) ?_
  refine AU_all [0, 2] (by kernel_rfl) rfl (allc ?_ (allc ?_ (fun _ h => nomatch h)))
  ·refine US_of 0 rfl rfl ?_
   refine AOps_q 4 _ rfl rfl rfl (QOp_load_ref _ _ _ _ rfl Try.isAgg26 rfl rfl) ?_
   refine AOps_nil ?_
   refine AU_one 2 (by kernel_rfl) rfl rfl ?_
   refine AOps_callL [] 6 _ _ _ _ _ _ _ _ _ _ rfl rfl rfl rfl rfl rfl rfl Try.call20 rfl (nodupB_sound _ rfl) rfl rfl rfl (by have q := cloneA_ac ((p0.drop 0).take p0n) _ hb1 hr2; simp only [intsD_dt] at q; exact q) ?_
   rintro _ _ ⟨rfl, rfl⟩
   refine ⟨(allc (intsD_flat _) (fun _ h => nomatch h)), (allc (trivial) (fun _ h => nomatch h)), AOps_as 6 (v' := .vec 3 0) (H' := [.vec 0 (intsD p0), .ref (.vec 2 1), .vec 1 (rowsU p1), .vec 0 (intsD r2)]) rfl rfl ?_⟩
   refine AOps_nil ?_
   exact AU_to (by kernel_rfl) hS1 (Weak_keep 3 hm [1, 4, 6] [3] _ _ rfl rfl rfl)
  refine US_of 2 rfl rfl ?_
  refine AOps_callL [] 6 _ _ _ _ _ _ _ _ _ _ rfl rfl rfl rfl rfl rfl rfl Try.call20 rfl (nodupB_sound _ rfl) rfl rfl rfl (by have q := cloneA_ac ((p0.drop 0).take p0n) _ hb1 hr2; simp only [intsD_dt] at q; exact q) ?_
  rintro _ _ ⟨rfl, rfl⟩
  refine ⟨(allc (intsD_flat _) (fun _ h => nomatch h)), (allc (trivial) (fun _ h => nomatch h)), AOps_as 6 (v' := .vec 3 0) (H' := [.vec 0 (intsD p0), .ref (.vec 2 1), .vec 1 (rowsU p1), .vec 0 (intsD r2)]) rfl rfl ?_⟩
  refine AOps_nil ?_
  refine AU_all [0, 3] (by kernel_rfl) rfl (allc ?_ (allc ?_ (fun _ h => nomatch h)))
  ·refine US_of 0 rfl rfl ?_
   refine AOps_q 4 _ rfl rfl rfl (QOp_load_ref _ _ _ _ rfl Try.isAgg26 rfl rfl) ?_
   refine AOps_nil ?_
   exact AU_to (by kernel_rfl) hS1 (Weak_keep 3 hm [1, 4, 6] [3] _ _ rfl rfl rfl)
  refine US_of 3 rfl rfl ?_
  refine AOps_weak (Weak_frzU 6 3 0 _ rfl rfl) ?_
  refine AOps_buildSlice 7 _ _ _ [_] (rowsU ([r2])) _ rfl rfl rfl rfl rfl (by decide) Try.underlying26 Try.sizeOf25 (zero_of Try.typeInfo25 rfl) rfl rfl (rowsU_one _) ?_
  refine AOps_nil ?_
  refine AU_one 0 (by kernel_rfl) rfl rfl ?_
  refine AOps_q 4 _ rfl rfl rfl (QOp_load_ref _ _ _ _ rfl Try.isAgg26 rfl rfl) ?_
  refine AOps_nil ?_
  exact AU_to (by kernel_rfl) hS0 (Weak_keep 3 hm [1, 4, 7] [4] _ _ rfl rfl rfl)
 refine kR ?_
 refine AOps_q 9 _ rfl rfl rfl (QOp_load_ref _ _ _ _ rfl Try.isAgg26 rfl rfl) ?_
 refine AOps_q 10 _ rfl rfl rfl (QOp_len_vec _ _ _ _ _ _ _ _ (rowsU_length _) rfl rfl rfl rfl Try.underlying26 rfl rfl) ?_
 refine AOps_q 11 _ rfl rfl rfl (QOp_leq _ _ _ _ _ _ _ rfl rfl rfl) ?_
 refine kN 1 rfl ?_
 refine ACode_ret ?_
 cases h
 exact ⟨_, _, fun r a w h => ⟨r, h⟩, _, _, [], _, (.cons (ResV_tmp _ _ rfl) .nil), rfl, rfl, rfl, rfl, rfl⟩

set_option maxRecDepth 100000 in
theorem impl_Colouring_extensions_o1_on_ExtensionList_c1_acU (k : Nat) (p0 : Col) (p1 : List Int) (p2 : List Int) (p2n : Nat) (p3_0 : List (List Int)) (r : Bool × List Int × List (List Int)) (h : impl_Colouring_extensions_o1_on_ExtensionList_c1 k p0 p1 p2 p2n p3_0 = some r) : AC Try.prog 26 [.d (.pv (colD p0) 0), .vec 0 0, .part 1 0 0 p2n, .clo 19 [.ptr 2 0]] [.vec 0 (intsD p1), .vec 0 (intsD p2), .ref (.vec 3 0), .vec 0 (rowsU p3_0)] (fun res H' => res = [bV r.1] ∧ H' = [.vec 0 (intsD p1), .vec 0 (intsD r.2.1), .ref (.vec 3 1), .vec 1 (rowsU r.2.2)]) := by
 induction k generalizing p0 p1 p2 p2n p3_0 r with
 | zero => simp [impl_Colouring_extensions_o1_on_ExtensionList_c1] at h
 | succ k ih =>
  rw [impl_Colouring_extensions_o1_on_ExtensionList_c1] at h
  obtain ⟨self, hself, hk⟩ : ∃ self : Col → (List Int) → (List Int) → Nat → (List (List Int)) → Option (Bool × List Int × List (List Int)), (∀ (p0 : Col) (p1 : List Int) (p2 : List Int) (p2n : Nat) (p3_0 : List (List Int)) (r : Bool × List Int × List (List Int)), self p0 p1 p2 p2n p3_0 = some r → AC Try.prog 26 [.d (.pv (colD p0) 0), .vec 0 0, .part 1 0 0 p2n, .clo 19 [.ptr 2 0]] [.vec 0 (intsD p1), .vec 0 (intsD p2), .ref (.vec 3 0), .vec 0 (rowsU p3_0)] (fun res H' => res = [bV r.1] ∧ H' = [.vec 0 (intsD p1), .vec 0 (intsD r.2.1), .ref (.vec 3 1), .vec 1 (rowsU r.2.2)])) ∧ impl_Colouring_extensions_o1_on_ExtensionList_c1 k = self := ⟨impl_Colouring_extensions_o1_on_ExtensionList_c1 k, fun p0 p1 p2 p2n p3_0 r h => ih p0 p1 p2 p2n p3_0 r h, rfl⟩
  rw [hk] at h
  clear ih hk
  refine AC_of_body true Try.func26 rfl Try.ntmps26 (rvs := [.tmp 8]) rfl rfl (fun G hG => ?_)
  have hm : G.H.length = 4 := by rw [hG]; rfl
  have hz : zeroG G.H = true := by rw [hG]; rfl
  refine ACode_weak (Weak_bump 2 3 _ rfl rfl _ rfl) ?_
  unfold impl_Colouring_extensions_o1_on_ExtensionList_c1_body at h
  refine kR ?_
  refine kN 1 rfl ?_
  refine kR ?_
  refine kM 1 rfl ?_
  refine AOps_callL [] 15 _ _ _ _ _ _ _ _ _ _ rfl rfl rfl rfl rfl rfl rfl Try.call36 rfl (nodupB_sound _ rfl) rfl rfl rfl (by have q := impl_size_ac ((p2.drop 0).take p2n); simp only [intsD_dt] at q; exact q) ?_
  rintro _ _ ⟨rfl, rfl⟩
  refine ⟨(fun _ h => nomatch h), (allc (flat_s _) (fun _ h => nomatch h)), AOps_as 15 (v' := iV (impl_size ((p2.drop 0).take p2n))) (H' := [.vec 0 (intsD p1), .vec 0 (intsD p2), .ref (.vec 3 1), .vec 1 (rowsU p3_0)]) rfl rfl ?_⟩
  refine kN 1 rfl ?_
  refine ACode_seq ?_
  refine kR ?_
  refine kM 2 rfl ?_
  refine AOps_q 18 _ rfl rfl rfl (QOp_nilCheck_pv _ _ _ rfl rfl) ?_
  refine AOps_q 19 _ rfl rfl rfl (QOp_fieldAddr_pv _ _ _ _ _ 0 _ _ rfl Try.underlying29 rfl _ Try.sizeOf2 rfl rfl) ?_
  refine AOps_q 20 _ rfl rfl rfl (QOp_load_pv _ _ _ _ _ rfl Try.isAgg2 rfl rfl) ?_
  refine AOps_q 21 _ rfl rfl rfl (QOp_eql _ _ _ _ _ _ _ rfl rfl rfl) ?_
  refine AOps_nil ?_
  refine kI h rfl (fun h _ => ?_) (fun h _ => ?_)
  ·refine kR ?_
   refine kM 2 rfl ?_
   obtain ⟨r3, hr3, h⟩ := bindO h
   refine kC [1, 2, 3] 24 (bV r3.1) [.vec 0 (intsD p1), .vec 0 (intsD r3.2.1), .ref (.vec 3 2), .vec 2 (rowsU r3.2.2)] rfl Try.call19 rfl rfl (impl_ExtensionList_c1_acU p2 p2n p3_0 _ hr3) rfl ?_
   refine kN 1 rfl ?_
   refine ACode_ret ?_
   cases h
   exact ⟨_, _, Weak_reset 4 hm hz [8] _ _ rfl rfl, _, _, [], _, (.cons (ResV_tmp _ _ rfl) .nil), rfl, rfl, rfl, rfl, rfl⟩
  refine ACode_skip ?_
  refine kO (fun s27 => []) (fun s27 => [.vec 0 (intsD p1), .vec 0 (intsD s27.1), .ref (.vec 3 1), .vec 1 (rowsU s27.2)]) h (fun os27 h hks27 => ?_) (fun s27 h => ?_)
  ·refine kR ?_
   refine kM 1 rfl ?_
   refine AOps_q 26 _ rfl rfl rfl (QOp_nilCheck_pv _ _ _ rfl rfl) ?_
   refine AOps_q 27 _ rfl rfl rfl (QOp_fieldAddr_pv _ _ _ _ _ 1 _ _ rfl Try.underlying29 rfl _ Try.sizeOf2 rfl rfl) ?_
   refine AOps_q 28 _ rfl rfl rfl (QOp_load_pv _ _ _ _ _ rfl Try.isAgg2 rfl rfl) ?_
   refine kN 1 rfl ?_
   refine ACode_block ?_
   refine ACode_loopW (fun k0 E H => ∃ (x4 : Int) (x5 : List Int) (x6 : List (List Int)), E = [(0, .d (.pv (colD p0) 0)), (1, .vec 0 0), (2, .part 1 0 0 p2n), (3, .clo 19 [.ptr 2 0]), (9, iV (impl_size ((p2.drop 0).take p2n))), (28, iV p0.k), (29, iV x4)] ∧ H = [.vec 0 (intsD p1), .vec 0 (intsD x5), .ref (.vec 3 1), .vec 1 (rowsU x6)] ∧ impl_Colouring_extensions_o1_on_ExtensionList_c1_l0 k self p0 p1 p2 p2n k0 x4 x5 x6 = some os27) k _ _ (Weak_keep 4 hm [0, 1, 2, 3, 9, 28, 29] [] _ _ rfl rfl rfl) ⟨_, _, _, rfl, rfl, h⟩ ?_
   clear h
   rintro k0 E H ⟨x4, x5, x6, rfl, rfl, h⟩
   cases k0 with
   | zero => cases (show (none : Option (Sum (List Int × List (List Int)) (Bool × List Int × List (List Int)))) = some _ from h)
   | succ k0 =>
    rw [impl_Colouring_extensions_o1_on_ExtensionList_c1_l0] at h
    refine kR ?_
    refine AOps_q 30 _ rfl rfl rfl (QOp_lss _ _ _ _ _ _ _ rfl rfl rfl) ?_
    refine AOps_nil ?_
    refine ACode_seq ?_
    refine kI h rfl (fun h _ => ?_) (fun h _ => ?_)
    ·refine ACode_skip ?_
     refine kO (fun s26 => [(0, .d (.pv (colD p0) 0)), (1, .vec 0 0), (2, .part 1 0 0 p2n), (3, .clo 19 [.ptr 2 0]), (9, iV (impl_size ((p2.drop 0).take p2n))), (28, iV p0.k), (29, iV x4)]) (fun s26 => [.vec 0 (intsD p1), .vec 0 (intsD s26.1), .ref (.vec 3 1), .vec 1 (rowsU s26.2)]) h (fun os26 h hks26 => ?_) (fun s26 h => ?_)
     ·refine ACode_block ?_
      refine kR ?_
      refine kN 2 rfl ?_
      refine kR ?_
      refine AOps_buildSlice 32 _ _ _ [] (intsD ([] : List Int)) _ rfl rfl rfl rfl rfl (by decide) Try.underlying25 Try.sizeOf2 (zero_of Try.typeInfo2 rfl) rfl rfl (intsD_one _) ?_
      refine kN 1 rfl ?_
      refine kB (fun s18 => [(0, .d (.pv (colD p0) 0)), (1, .vec 0 0), (2, .part 1 0 0 p2n), (3, .clo 19 [.ptr 2 0]), (9, iV (impl_size ((p2.drop 0).take p2n))), (10, iV x4), (11, .vec 4 0), (28, iV p0.k), (29, iV x4)]) (fun s18 => [.vec 0 (intsD p1), .vec 0 (intsD x5), .ref (.vec 3 1), .vec 1 (rowsU x6), .vec 0 (intsD s18)]) h (fun s18 h => ?_) (fun s18 h => ?_)
      ·refine kR ?_
       refine kM 1 rfl ?_
       refine AOps_q 34 _ rfl rfl rfl (QOp_len_part _ _ _ _ _ _ _ _ _ _ rfl rfl rfl rfl Try.underlying25 rfl rfl rfl) ?_
       refine kN 1 rfl ?_
       refine ACode_block ?_
       refine ACode_loopW (fun k1 E H => ∃ (x8 : Int) (x9 : List Int), E = [(0, .d (.pv (colD p0) 0)), (1, .vec 0 0), (2, .part 1 0 0 p2n), (3, .clo 19 [.ptr 2 0]), (9, iV (impl_size ((p2.drop 0).take p2n))), (10, iV x4), (11, .vec 4 0), (28, iV p0.k), (29, iV x4), (33, .part 1 0 0 p2n), (34, iV ((p2n : Nat) : Int)), (35, iV x8)] ∧ H = [.vec 0 (intsD p1), .vec 0 (intsD x5), .ref (.vec 3 1), .vec 1 (rowsU x6), .vec 0 (intsD x9)] ∧ impl_Colouring_extensions_o1_on_ExtensionList_c1_l1 p0 p2 p2n x4 x5 k1 x8 x9 = some s18) k _ _ (Weak_keep 4 hm [0, 1, 2, 3, 9, 10, 11, 28, 29, 33, 34, 35] [4] _ _ rfl rfl rfl) ⟨_, _, rfl, rfl, h⟩ ?_
       clear h
       rintro k1 E H ⟨x8, x9, rfl, rfl, h⟩
       cases k1 with
       | zero => cases (show (none : Option (List Int)) = some _ from h)
       | succ k1 =>
        rw [impl_Colouring_extensions_o1_on_ExtensionList_c1_l1] at h
        refine kR ?_
        refine AOps_q 36 _ rfl rfl rfl (QOp_lss _ _ _ _ _ _ _ rfl rfl rfl) ?_
        refine AOps_nil ?_
        refine ACode_seq ?_
        refine kI h rfl (fun h _ => ?_) (fun h _ => ?_)
        ·refine ACode_skip ?_
         refine kB (fun s17 => [(0, .d (.pv (colD p0) 0)), (1, .vec 0 0), (2, .part 1 0 0 p2n), (3, .clo 19 [.ptr 2 0]), (9, iV (impl_size ((p2.drop 0).take p2n))), (10, iV x4), (11, .vec 4 0), (28, iV p0.k), (29, iV x4), (33, .part 1 0 0 p2n), (34, iV ((p2n : Nat) : Int)), (35, iV x8)]) (fun s17 => [.vec 0 (intsD p1), .vec 0 (intsD x5), .ref (.vec 3 1), .vec 1 (rowsU x6), .vec 0 (intsD s17)]) h (fun s17 h => ?_) (fun s17 h => ?_)
         ·refine ACode_block ?_
          refine kR ?_
          refine kM 1 rfl ?_
          obtain ⟨hc11, h⟩ := guardO h
          refine AOps_q 38 _ rfl rfl rfl (QOp_indexAddr_part _ _ _ _ _ _ _ _ _ _ _ _ rfl Try.underlying25 Try.sizeOf2 hc11.1 hc11.2.1 rfl rfl rfl rfl) ?_
          refine AOps_q 39 _ rfl rfl rfl (QOp_load_eptr _ _ _ _ _ _ _ rfl Try.isAgg2 rfl rfl (intsD_get _ _ 0 (by omega))) ?_
          refine kN 2 rfl ?_
          refine kB (fun s14 => [(0, .d (.pv (colD p0) 0)), (1, .vec 0 0), (2, .part 1 0 0 p2n), (3, .clo 19 [.ptr 2 0]), (9, iV (impl_size ((p2.drop 0).take p2n))), (10, iV x4), (11, .vec 4 0), (12, iV x8), (28, iV p0.k), (29, iV x4), (33, .part 1 0 0 p2n), (34, iV ((p2n : Nat) : Int)), (35, iV x8), (49, bV s14)]) (fun s14 => [.vec 0 (intsD p1), .vec 0 (intsD x5), .ref (.vec 3 1), .vec 1 (rowsU x6), .vec 0 (intsD x9)]) h (fun s14 h => ?_) (fun s14 h => ?_)
          ·refine (ACode_region ?_)
           refine kM 2 rfl ?_
           refine AOps_q 42 _ rfl rfl rfl (QOp_eql _ _ _ _ _ _ _ rfl rfl rfl) ?_
           refine kM 1 rfl ?_
           refine AOps_case 43 _ rfl (fun hb12 => ?_) (fun hb12 => ?_)
           ·have h := iteT hb12 h
            refine kM 4 rfl ?_
            obtain ⟨r13, hr13, h⟩ := bindO h
            refine kC [] 48 (bV r13) [.vec 0 (intsD p1), .vec 0 (intsD x5), .ref (.vec 3 1), .vec 1 (rowsU x6), .vec 0 (intsD x9)] rfl Try.call37 rfl rfl (impl_Colouring_joins_ac p0 x8 (impl_size ((p2.drop 0).take p2n)) x4 _ hr13) rfl ?_
            refine kN 1 rfl ?_
            cases h
            exact Weak_keep 4 hm [0, 1, 2, 3, 9, 10, 11, 12, 28, 29, 33, 34, 35, 49] [4] _ _ rfl rfl rfl
           have h := iteF hb12 h
           refine AOps_skip 44 rfl rfl rfl ?_
           refine AOps_skip 45 rfl rfl rfl ?_
           refine AOps_skip 46 rfl rfl rfl ?_
           refine AOps_skip 47 rfl rfl rfl ?_
           refine AOps_skip 48 rfl rfl rfl ?_
           refine kN 1 rfl ?_
           cases h
           exact Weak_keep 4 hm [0, 1, 2, 3, 9, 10, 11, 12, 28, 29, 33, 34, 35, 49] [4] _ _ rfl rfl rfl
          refine kI h rfl (fun h _ => ?_) (fun h _ => ?_)
          ·refine (ACode_region ?_)
           refine kM 2 rfl ?_
           refine AOps_buildSlice 52 _ _ _ [_] (intsD ([x8])) _ rfl rfl rfl rfl rfl (by decide) Try.underlying25 Try.sizeOf2 (zero_of Try.typeInfo2 rfl) rfl rfl (intsD_one _) ?_
           obtain ⟨hc16, h⟩ := guardO h
           refine AOps_append 53 _ _ _ _ _ _ _ _ _ _ _ _ rfl rfl rfl rfl rfl rfl rfl Try.underlying25 Try.type2 rfl rfl rfl (by decide) rfl rfl rfl rfl (intsD_one _) (by rw [intsD_length, intsD_length]; exact hc16) ?_
           rw [intsD_app]
           refine kN 1 rfl ?_
           cases h
           exact Weak_trans (Weak_keep 4 hm [0, 1, 2, 3, 9, 10, 11, 28, 29, 33, 34, 35] [4] _ _ rfl rfl rfl) (Weak_reset 4 hm hz [0, 1, 2, 3, 9, 10, 11, 28, 29, 33, 34, 35] _ _ rfl rfl)
          refine ACode_skip ?_
          cases h
          exact Weak_keep 4 hm [0, 1, 2, 3, 9, 10, 11, 28, 29, 33, 34, 35] [4] _ _ rfl rfl rfl
         refine (ACode_region ?_)
         refine AOps_q 54 _ rfl rfl rfl (QOp_add _ _ _ _ _ _ _ rfl rfl rfl) ?_
         refine kN 1 rfl ?_
         exact ⟨k1, _, _, Nat.lt_succ_self _, Weak_keep 4 hm [0, 1, 2, 3, 9, 10, 11, 28, 29, 33, 34, 35] [4] _ _ rfl rfl rfl, _, _, rfl, rfl, h⟩
        refine ACode_exit ?_
        cases h
        exact Weak_keep 4 hm [0, 1, 2, 3, 9, 10, 11, 28, 29] [4] _ _ rfl rfl rfl
      refine kB (fun s24 => [(0, .d (.pv (colD p0) 0)), (1, .vec 0 0), (2, .part 1 0 0 p2n), (3, .clo 19 [.ptr 2 0]), (9, iV (impl_size ((p2.drop 0).take p2n))), (28, iV p0.k), (29, iV x4), (75, bV s24.1)]) (fun s24 => [.vec 0 (intsD p1), .vec 0 (intsD s24.2.1), .ref (.vec 3 1), .vec 1 (rowsU s24.2.2)]) h (fun s24 h => ?_) (fun s24 h => ?_)
      ·refine (ACode_region ?_)
       refine kM 4 rfl ?_
       obtain ⟨hc19, h⟩ := guardO h
       refine AOps_q 59 _ rfl rfl rfl (QOp_indexAddr_vec _ _ _ _ _ _ _ _ _ rfl Try.underlying25 Try.sizeOf2 hc19.1 (by rw [intsD_length]; exact hc19.2) rfl rfl rfl) ?_
       refine AOps_q 60 _ rfl rfl rfl (QOp_load_eptr _ _ _ _ _ _ _ rfl Try.isAgg2 rfl rfl (intsD_get _ _ 0 (by omega))) ?_
       refine AOps_q 61 _ rfl rfl rfl (QOp_sub _ _ _ _ _ _ _ rfl rfl rfl) ?_
       refine kM 1 rfl ?_
       obtain ⟨r20, hr20, h⟩ := bindO h
       refine AOps_callL [] 63 _ _ _ _ _ _ _ _ _ _ rfl rfl rfl rfl rfl rfl rfl Try.call38 rfl (nodupB_sound _ rfl) rfl rfl rfl (impl_Colouring_hasClique_ac k p0 x4 (w64 ((p1.getD x4.toNat 0) - 2)) s18 _ hr20) ?_
       rintro _ _ ⟨rfl, rfl⟩
       refine ⟨(fun _ h => nomatch h), (allc (flat_s _) (fun _ h => nomatch h)), AOps_as 63 (v' := bV r20) (H' := [.vec 0 (intsD p1), .vec 0 (intsD x5), .ref (.vec 3 1), .vec 1 (rowsU x6), .vec 0 (intsD s18)]) rfl rfl ?_⟩
       refine AOps_q 64 _ rfl rfl rfl (QOp_not _ _ _ rfl rfl) ?_
       refine kM 1 rfl ?_
       refine AOps_case 65 _ rfl (fun hb21 => ?_) (fun hb21 => ?_)
       ·have h := iteT hb21 h
        refine kM 4 rfl ?_
        refine AOps_buildSlice 70 _ _ _ [_] (intsD ([x4])) _ rfl rfl rfl rfl rfl (by decide) Try.underlying25 Try.sizeOf2 (zero_of Try.typeInfo2 rfl) rfl rfl (intsD_one _) ?_
        obtain ⟨hc22, h⟩ := guardO h
        refine AOps_append_part 71 _ _ _ _ _ 1 0 0 p2n (p2n + ([x4]).length) _ (intsD x5) (intsD ([x4])) _ rfl rfl rfl rfl rfl rfl rfl Try.underlying25 Try.type2 rfl rfl rfl rfl rfl (intsD_one _) (by rw [intsD_length]; exact hc22.2) (by rw [intsD_length, intsD_length]; exact hc22.1) (by rw [intsD_length]) ?_
        rw [intsD_length, intsD_spl]
        refine kM 1 rfl ?_
        obtain ⟨r23, hr23, h⟩ := bindO h
        refine kC [0, 1, 2, 3] 73 (bV r23.1) [.vec 0 (intsD p1), .vec 0 (intsD r23.2.1), .ref (.vec 3 2), .vec 2 (rowsU r23.2.2), .vec 0 (intsD s18), .vec 0 (intsD ([x4]))] rfl Try.call26 rfl rfl (hself p0 p1 (splicedL x5 (0 + p2n) (([x4]).length) ([x4])) (p2n + ([x4]).length) x6 _ hr23) rfl ?_
        refine AOps_q 74 _ rfl rfl rfl (QOp_not _ _ _ rfl rfl) ?_
        refine kN 1 rfl ?_
        cases h
        exact Weak_trans (Weak_keep 4 hm [0, 1, 2, 3, 9, 28, 29, 75] [] _ _ rfl rfl rfl) (Weak_reset 4 hm hz [0, 1, 2, 3, 9, 28, 29, 75] _ _ rfl rfl)
       have h := iteF hb21 h
       refine AOps_skip 66 rfl rfl rfl ?_
       refine AOps_skip 67 rfl rfl rfl ?_
       refine AOps_skip 68 rfl rfl rfl ?_
       refine AOps_skip 69 rfl rfl rfl ?_
       refine AOps_skip 70 rfl rfl rfl ?_
       refine AOps_skip 71 rfl rfl rfl ?_
       refine AOps_skip 72 rfl rfl rfl ?_
       refine AOps_skip 73 rfl rfl rfl ?_
       refine AOps_skip 74 rfl rfl rfl ?_
       refine kN 1 rfl ?_
       cases h
       exact Weak_keep 4 hm [0, 1, 2, 3, 9, 28, 29, 75] [] _ _ rfl rfl rfl
      refine kI h rfl (fun h _ => ?_) (fun h _ => ?_)
      ·refine kR ?_
       refine kN 1 rfl ?_
       refine ACode_ret ?_
       obtain ⟨rr, hz28, h2⟩ := bindO h
       obtain rfl := Option.some.inj h2
       obtain rfl := Option.some.inj (show some rr = some _ from hks26)
       have h := hz28
       cases h
       have h := hks27
       cases h
       exact ⟨_, _, fun r a w h => ⟨r, h⟩, _, _, [], _, (.cons (ResV_tmp _ _ rfl) .nil), rfl, rfl, rfl, rfl, rfl⟩
      refine ACode_skip ?_
      cases h
      exact ⟨_, rfl, Weak_keep 4 hm [0, 1, 2, 3, 9, 28, 29] [] _ _ rfl rfl rfl⟩
     refine (ACode_region ?_)
     refine AOps_q 76 _ rfl rfl rfl (QOp_add _ _ _ _ _ _ _ rfl rfl rfl) ?_
     refine kN 1 rfl ?_
     exact ⟨k0, _, _, Nat.lt_succ_self _, Weak_keep 4 hm [0, 1, 2, 3, 9, 28, 29] [] _ _ rfl rfl rfl, _, _, _, rfl, rfl, h⟩
    refine ACode_exit ?_
    cases h
    exact ⟨_, rfl, Weak_keep 4 hm [] [] _ _ rfl rfl rfl⟩
  refine kR ?_
  refine kN 1 rfl ?_
  refine ACode_ret ?_
  cases h
  exact ⟨_, _, fun r a w h => ⟨r, h⟩, _, _, [], _, (.cons (ResV_tmp _ _ rfl) .nil), rfl, rfl, rfl, rfl, rfl⟩

set_option maxRecDepth 100000 in
theorem impl_Colouring_extend_o1_on_ExtensionList_c1_acU (k : Nat) (p0 : Col) (p1 : List Int) (p2_0 : List (List Int)) (r : Bool × List (List Int)) (h : impl_Colouring_extend_o1_on_ExtensionList_c1 k p0 p1 p2_0 = some r) : AC Try.prog 18 [.d (.pv (colD p0) 0), .vec 0 0, .clo 19 [.ptr 1 0]] [.vec 0 (intsD p1), .ref (.vec 2 0), .vec 0 (rowsU p2_0)] (fun res H' => res = [bV r.1] ∧ H' = [.vec 0 (intsD p1), .ref (.vec 2 1), .vec 1 (rowsU r.2)]) := by
 refine AC_of_body true Try.func18 rfl Try.ntmps18 (rvs := [.tmp 6]) rfl rfl (fun G hG => ?_)
 have hm : G.H.length = 3 := by rw [hG]; rfl
 have hz : zeroG G.H = true := by rw [hG]; rfl
 refine ACode_weak (Weak_bump 1 2 _ rfl rfl _ rfl) ?_
 unfold impl_Colouring_extend_o1_on_ExtensionList_c1 at h
 refine kR ?_
 refine kN 1 rfl ?_
 refine kR ?_
 refine kM 2 rfl ?_
 refine AOps_makeBufG intsD iD 0 (intsD_rep · _) 9 _ _ _ _ _ _ 17 _ (.int .i64 0) rfl rfl rfl rfl rfl rfl Try.underlying25 Try.type2 rfl rfl (by decide) rfl rfl (by decide) ?_
 refine kM 1 rfl ?_
 obtain ⟨r2, hr2, h⟩ := bindO h
 refine kC [0, 3, 1, 2] 11 (bV r2.1) [.vec 0 (intsD p1), .ref (.vec 2 2), .vec 2 (rowsU r2.2.2), .vec 0 (intsD r2.2.1)] rfl Try.call26 rfl rfl (impl_Colouring_extensions_o1_on_ExtensionList_c1_acU k p0 p1 (List.replicate 17 (0 : Int)) 0 p2_0 _ hr2) rfl ?_
 refine kN 1 rfl ?_
 refine ACode_ret ?_
 cases h
 exact ⟨_, _, Weak_reset 3 hm hz [6] _ _ rfl rfl, _, _, [], _, (.cons (ResV_tmp _ _ rfl) .nil), rfl, rfl, rfl, rfl, rfl⟩

set_option maxRecDepth 100000 in
theorem impl_ExtensionList_o1_acU (k : Nat) (p0 : Col) (p1 : List Int) (r : Option (List (List Int)) × Int) (h : impl_ExtensionList_o1 k p0 p1 = some r) : AC Try.prog 7 [.d (.agg (colD p0)), .vec 0 0] [.vec 0 (intsD p1)] (fun res H' => res = [ownA 1 (r.1.map rowsU), iV r.2] ∧ H' = [.vec 0 (intsD p1)] ++ ownH (r.1.map rowsU)) := by
 refine AC_of_body false Try.func7 rfl Try.ntmps7 (rvs := [.tmp 4, .tmp 5]) rfl rfl (fun G hG => ?_)
 have hm : G.H.length = 1 := by rw [hG]; rfl
 have hz : zeroG G.H = true := by rw [hG]; rfl
 unfold impl_ExtensionList_o1 at h
 refine kR ?_
 refine AOps_boxI 2 _ _ (.agg (colD p0)) (colD p0) rfl (colD_one _) rfl rfl rfl rfl rfl ?_
 refine kN 2 rfl ?_
 refine ACode_seq ?_
 refine kR ?_
 refine kM 1 rfl ?_
 obtain ⟨r1, hr1, h⟩ := bindO h
 refine AOps_callL [] 10 _ _ _ _ _ _ _ _ _ _ rfl rfl rfl rfl rfl rfl rfl Try.call16 rfl (nodupB_sound _ rfl) rfl rfl rfl (impl_Colouring_extendingCode_ac k p0 p1 (some (impl_always)) 12 17 ([]) Try.call17 (fun r h => by cases h; exact impl_always_ac) _ hr1) ?_
 rintro _ _ ⟨rfl, rfl⟩
 refine ⟨(fun _ h => nomatch h), (allc (flat_s _) (fun _ h => nomatch h)), AOps_as 10 (v' := iV r1) (H' := [.vec 0 (intsD p1)]) rfl rfl ?_⟩
 refine kN 1 rfl ?_
 refine kR ?_
 refine kM 1 rfl ?_
 refine AOps_q 12 _ rfl rfl rfl (QOp_neq _ _ _ _ _ _ _ rfl rfl rfl) ?_
 refine AOps_nil ?_
 refine kI h rfl (fun h _ => ?_) (fun h _ => ?_)
 ·refine kR ?_
  refine kN 3 rfl ?_
  refine ACode_ret ?_
  cases h
  exact ⟨_, _, fun r a w h => ⟨r, h⟩, _, _, [], _, (.cons (ResV_tmp _ _ rfl) (.cons (ResV_tmp _ _ rfl) .nil)), rfl, rfl, rfl, rfl, rfl⟩
 refine ACode_skip ?_
 refine kR ?_
 refine AOps_buildSlice 14 _ _ _ [] (rowsU ([] : List (List Int))) _ rfl rfl rfl rfl rfl (by decide) Try.underlying26 Try.sizeOf25 (zero_of Try.typeInfo25 rfl) rfl rfl (rowsU_one _) ?_
 refine AOps_alloc 7 _ _ ([.sl (some true) []]) (zero_of Try.typeInfo26 rfl) (by rfl) rfl rfl rfl rfl ?_
 refine AOps_storeR 2 _ _ _ _ _ rfl rfl rfl rfl rfl rfl rfl rfl Try.sizeOf26 (fun r a w hr => vec_one hr rfl rfl rfl) ?_
 refine AOps_nil ?_
 refine kR ?_
 refine kM 1 rfl ?_
 refine AOps_q 16 _ rfl rfl rfl (QOp_makeFunc _ _ _ rfl rfl) ?_
 obtain ⟨r3, hr3, h⟩ := bindO h
 refine kC [0, 2, 1] 17 (bV r3.1) [.vec 0 (intsD p1), .vec 1 (rowsU r3.2), .ref (.vec 1 1)] rfl Try.call18 rfl rfl (impl_Colouring_extend_o1_on_ExtensionList_c1_acU k p0 p1 ([] : List (List Int)) _ hr3) rfl ?_
 refine kN 1 rfl ?_
 refine ACode_seq ?_
 refine kR ?_
 refine kM 1 rfl ?_
 refine AOps_q 19 _ rfl rfl rfl (QOp_not _ _ _ rfl rfl) ?_
 refine AOps_nil ?_
 refine kI h rfl (fun h _ => ?_) (fun h _ => ?_)
 ·refine kR ?_
  refine kN 2 rfl ?_
  refine ACode_ret ?_
  cases h
  exact ⟨_, _, Weak_reset 1 hm hz [4, 5] _ _ rfl rfl, _, _, [], _, (.cons (ResV_tmp _ _ rfl) (.cons (ResV_tmp _ _ rfl) .nil)), rfl, rfl, rfl, rfl, rfl⟩
 refine ACode_skip ?_
 refine kR ?_
 refine AOps_q 20 _ rfl rfl rfl (QOp_load_ref _ _ _ _ rfl Try.isAgg26 rfl rfl) ?_
 refine kN 2 rfl ?_
 refine ACode_ret ?_
 cases h
 exact ⟨_, _, Weak_reset 1 hm hz [4, 5] _ _ rfl rfl, _, _, [1], _, (.cons (ResV_tmp _ _ rfl) (.cons (ResV_tmp _ _ rfl) .nil)), rfl, rfl, rfl, rfl, rfl⟩

end Go.Proofs.Ytldgmcghdohmeaa
