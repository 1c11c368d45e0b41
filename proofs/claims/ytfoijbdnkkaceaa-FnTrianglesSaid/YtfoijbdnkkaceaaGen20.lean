/- Plain functions of the program and that the program computes them: printed by the own tool gen.py. No conditions. -/
import Derived.Test.YtfoijbdnkkaceaaGen20b
set_option linter.unusedVariables false
set_option linter.unusedSimpArgs false
namespace Go.Proofs.Ytfoijbdnkkaceaa
open Go Go.RowKit Ab

-- loop.example/g01362/spec.l02Before
def spec_l02Before_l0 (p0 : List Int) (p1 : List Int) : Nat → Int → Option (Sum (Unit) (Bool))
 | 0, _ => none
 | k0 + 1, x1 => (letO (if decide (x1 < (p0.length : Int)) then decide (x1 < (p1.length : Int)) else false) fun (s3 : Bool) => (if s3 then some (.inl ()) else (some (.inl ())).bind fun rr => some (.inr rr)) : Option (Sum (Unit) (Sum (Unit) (Bool)))).bind fun os5 => (match os5 with | .inl s5 => (if 0 ≤ x1 ∧ x1 < (p0.length : Int) then (if 0 ≤ x1 ∧ x1 < (p1.length : Int) then (if !decide ((p0.getD x1.toNat 0) = (p1.getD x1.toNat 0)) then (if 0 ≤ x1 ∧ x1 < (p0.length : Int) then (if 0 ≤ x1 ∧ x1 < (p1.length : Int) then some (.inr (decide ((p0.getD x1.toNat 0) < (p1.getD x1.toNat 0)))) else none) else none) else spec_l02Before_l0 p0 p1 k0 (w64 (x1 + 1))) else none) else none) | .inr rr => some rr)
def spec_l02Before (k : Nat) (p0 : List Int) (p1 : List Int) : Option (Bool) :=
 (spec_l02Before_l0 p0 p1 k 0 : Option (Sum (Unit) (Bool))).bind fun os11 => (match os11 with | .inl s11 => some (decide ((p0.length : Int) < (p1.length : Int))) | .inr rr => some rr)
set_option maxRecDepth 100000 in
theorem spec_l02Before_ac (k : Nat) (p0 : List Int) (p1 : List Int) (r : Bool) (h : spec_l02Before k p0 p1 = some r) : AC Try.prog 141 [.d (.sl none (intsD p0)), .d (.sl none (intsD p1))] [] (fun res H' => res = [bV r] ∧ H' = []) := by
 refine AC_of_body true Try.func141 rfl Try.ntmps141 (rvs := [.tmp 4]) rfl rfl (fun G hG => ?_)
 have hm : G.H.length = 0 := by rw [hG]; rfl
 have hz : zeroG G.H = true := by rw [hG]; rfl
 unfold spec_l02Before at h
 refine kR ?_
 refine kN 1 rfl ?_
 refine kO (fun s11 => [(0, .d (.sl none (intsD p0))), (1, .d (.sl none (intsD p1)))]) (fun s11 => []) h (fun os11 h hks11 => ?_) (fun s11 h => ?_)
 ·refine kR ?_
  refine kN 1 rfl ?_
  refine ACode_block ?_
  refine ACode_loopW (fun k0 E H => ∃ (x1 : Int), E = [(0, .d (.sl none (intsD p0))), (1, .d (.sl none (intsD p1))), (5, iV x1)] ∧ H = [] ∧ spec_l02Before_l0 p0 p1 k0 x1 = some os11) k _ _ (Weak_keep 0 hm [0, 1, 5] [] _ _ rfl rfl rfl) ⟨_, rfl, rfl, h⟩ ?_
  clear h
  rintro k0 E H ⟨x1, rfl, rfl, h⟩
  cases k0 with
  | zero => cases (show (none : Option (Sum (Unit) (Bool))) = some _ from h)
  | succ k0 =>
   rw [spec_l02Before_l0] at h
   refine kO (fun s5 => [(0, .d (.sl none (intsD p0))), (1, .d (.sl none (intsD p1))), (5, iV x1)]) (fun s5 => []) h (fun os5 h hks5 => ?_) (fun s5 h => ?_)
   ·refine kL (fun s3 => [(0, .d (.sl none (intsD p0))), (1, .d (.sl none (intsD p1))), (5, iV x1), (15, bV s3)]) (fun s3 => []) h (fun s3 h => ?_) (fun s3 h => ?_)
    ·refine (ACode_region ?_)
     refine kM 2 rfl ?_
     refine AOps_q 8 _ rfl rfl rfl (QOp_len_sl _ _ _ _ _ _ _ (intsD_length _) rfl rfl rfl rfl Try.underlying24 rfl) ?_
     refine AOps_q 9 _ rfl rfl rfl (QOp_lss _ _ _ _ _ _ _ rfl rfl rfl) ?_
     refine kM 1 rfl ?_
     refine AOps_case 10 _ rfl (fun hb2 => ?_) (fun hb2 => ?_)
     ·have h := iteT hb2 h
      refine kM 2 rfl ?_
      refine AOps_q 13 _ rfl rfl rfl (QOp_len_sl _ _ _ _ _ _ _ (intsD_length _) rfl rfl rfl rfl Try.underlying24 rfl) ?_
      refine AOps_q 14 _ rfl rfl rfl (QOp_lss _ _ _ _ _ _ _ rfl rfl rfl) ?_
      refine kN 1 rfl ?_
      cases h
      exact Weak_keep 0 hm [0, 1, 5, 15] [] _ _ rfl rfl rfl
     have h := iteF hb2 h
     refine AOps_skip 11 rfl rfl rfl ?_
     refine AOps_skip 12 rfl rfl rfl ?_
     refine AOps_skip 13 rfl rfl rfl ?_
     refine AOps_skip 14 rfl rfl rfl ?_
     refine kN 1 rfl ?_
     cases h
     exact Weak_keep 0 hm [0, 1, 5, 15] [] _ _ rfl rfl rfl
    refine kI h rfl (fun h _ => ?_) (fun h _ => ?_)
    ·refine ACode_skip ?_
     cases h
     exact ⟨_, rfl, Weak_keep 0 hm [0, 1, 5] [] _ _ rfl rfl rfl⟩
    refine ACode_exit ?_
    obtain ⟨rr, hz12, h2⟩ := bindO h
    obtain rfl := Option.some.inj h2
    obtain rfl := Option.some.inj (show some rr = some _ from hks5)
    have h := hz12
    cases h
    exact ⟨_, rfl, Weak_keep 0 hm [0, 1] [] _ _ rfl rfl rfl⟩
   refine ACode_seq ?_
   refine ACode_block ?_
   refine ACode_seq (ACode_quiet mixed (by kernel_rfl) ?_)
   refine kQ 2 rfl ?_
   obtain ⟨hc6, h⟩ := guardO h
   refine AQ_q 20 _ rfl rfl rfl (QOp_indexAddr_sl _ _ _ _ _ _ _ _ rfl Try.underlying24 Try.sizeOf2 hc6.1 (by rw [intsD_length]; exact hc6.2) rfl rfl) ?_
   refine AQ_q 21 _ rfl rfl rfl (QOp_load_pv _ _ _ _ _ rfl Try.isAgg2 rfl (intsD_get _ _ 0 (by omega))) ?_
   refine kQ 2 rfl ?_
   obtain ⟨hc7, h⟩ := guardO h
   refine AQ_q 24 _ rfl rfl rfl (QOp_indexAddr_sl _ _ _ _ _ _ _ _ rfl Try.underlying24 Try.sizeOf2 hc7.1 (by rw [intsD_length]; exact hc7.2) rfl rfl) ?_
   refine AQ_q 25 _ rfl rfl rfl (QOp_load_pv _ _ _ _ _ rfl Try.isAgg2 rfl (intsD_get _ _ 0 (by omega))) ?_
   refine AQ_q 26 _ rfl rfl rfl (QOp_neq _ _ _ _ _ _ _ rfl rfl rfl) ?_
   refine AQ_nil ?_
   refine kI h rfl (fun h _ => ?_) (fun h _ => ?_)
   ·refine ACode_seq (ACode_quiet mixed (by kernel_rfl) ?_)
    refine kQ 2 rfl ?_
    obtain ⟨hc9, h⟩ := guardO h
    refine AQ_q 29 _ rfl rfl rfl (QOp_indexAddr_sl _ _ _ _ _ _ _ _ rfl Try.underlying24 Try.sizeOf2 hc9.1 (by rw [intsD_length]; exact hc9.2) rfl rfl) ?_
    refine AQ_q 30 _ rfl rfl rfl (QOp_load_pv _ _ _ _ _ rfl Try.isAgg2 rfl (intsD_get _ _ 0 (by omega))) ?_
    refine kQ 2 rfl ?_
    obtain ⟨hc10, h⟩ := guardO h
    refine AQ_q 33 _ rfl rfl rfl (QOp_indexAddr_sl _ _ _ _ _ _ _ _ rfl Try.underlying24 Try.sizeOf2 hc10.1 (by rw [intsD_length]; exact hc10.2) rfl rfl) ?_
    refine AQ_q 34 _ rfl rfl rfl (QOp_load_pv _ _ _ _ _ rfl Try.isAgg2 rfl (intsD_get _ _ 0 (by omega))) ?_
    refine AQ_q 35 _ rfl rfl rfl (QOp_lss _ _ _ _ _ _ _ rfl rfl rfl) ?_
    refine kQ 1 rfl ?_
    refine AQ_nil ?_
    refine ACode_ret ?_
    cases h
    have h := hks11
    cases h
    exact ⟨_, _, fun r a w h => ⟨r, h⟩, _, _, [], _, (.cons (ResV_tmp _ _ rfl) .nil), rfl, rfl, rfl, rfl, rfl⟩
   refine ACode_skip ?_
   refine (ACode_region ?_)
   refine kM 1 rfl ?_
   refine AOps_q 17 _ rfl rfl rfl (QOp_add _ _ _ _ _ _ _ rfl rfl rfl) ?_
   refine kN 1 rfl ?_
   exact ⟨k0, _, _, Nat.lt_succ_self _, Weak_keep 0 hm [0, 1, 5] [] _ _ rfl rfl rfl, _, rfl, rfl, h⟩
 refine kR ?_
 refine kM 1 rfl ?_
 refine AOps_q 37 _ rfl rfl rfl (QOp_len_sl _ _ _ _ _ _ _ (intsD_length _) rfl rfl rfl rfl Try.underlying24 rfl) ?_
 refine kM 1 rfl ?_
 refine AOps_q 39 _ rfl rfl rfl (QOp_len_sl _ _ _ _ _ _ _ (intsD_length _) rfl rfl rfl rfl Try.underlying24 rfl) ?_
 refine AOps_q 40 _ rfl rfl rfl (QOp_lss _ _ _ _ _ _ _ rfl rfl rfl) ?_
 refine kN 1 rfl ?_
 refine ACode_ret ?_
 cases h
 exact ⟨_, _, fun r a w h => ⟨r, h⟩, _, _, [], _, (.cons (ResV_tmp _ _ rfl) .nil), rfl, rfl, rfl, rfl, rfl⟩

-- loop.example/g01362/spec.FullCliques
def spec_FullCliques_l1 (k : Nat) (r11 : List Int) : Nat → Int → (List (List Int)) → Option (Int × List (List Int))
 | 0, _, _ => none
 | k1 + 1, x13, x14 => (((if decide (0 < x13) then (if 0 ≤ w64 (x13 - 1) ∧ w64 (x13 - 1) < (x14.length : Int) then (spec_l02Before k r11 (x14.getD (w64 (x13 - 1)).toNat [])).bind fun r17 => some r17 else none) else some false) : Option (Bool)).bind fun s18 => (if s18 then some (.inl ()) else (some (x13, x14)).bind fun rr => some (.inr rr)) : Option (Sum (Unit) (Int × List (List Int)))).bind fun os20 => (match os20 with | .inl s20 => (if 0 ≤ w64 (x13 - 1) ∧ w64 (x13 - 1) < (x14.length : Int) then (if 0 ≤ x13 ∧ x13 < (x14.length : Int) then spec_FullCliques_l1 k r11 k1 (w64 (x13 - 1)) (x14.set x13.toNat (x14.getD (w64 (x13 - 1)).toNat [])) else none) else none) | .inr rr => some rr)
def spec_FullCliques_l0 (k : Nat) (r5 : List Int) : Nat → Int → (List (List Int)) → Option (List (List Int))
 | 0, _, _ => none
 | k0 + 1, x7, x8 => (if decide (x7 < (r5.length : Int)) then ((if 0 ≤ x7 ∧ x7 < (r5.length : Int) then (spec_l01Points k (r5.getD x7.toNat 0)).bind fun r11 => (if x8.length + ([r11]).length ≤ 1099511627776 then (spec_FullCliques_l1 k r11 k (x8.length : Int) (x8 ++ ([r11])) : Option (Int × List (List Int))).bind fun s23 => (if 0 ≤ s23.1 ∧ s23.1 < (s23.2.length : Int) then some (s23.2.set s23.1.toNat r11) else none) else none) else none) : Option (List (List Int))).bind fun s25 => spec_FullCliques_l0 k r5 k0 (w64 (x7 + 1)) s25 else some x8)
def spec_FullCliques (k : Nat) (p0 : Col) (p1 : Int) : Option (List (List Int) × Int) :=
 (spec_l01Given k p0 p1 ([])).bind fun r1 => (if !decide (r1 = 0) then some ([], r1) else (spec_l02Rows k p0 p1).bind fun r3 => (if 0 ≤ IntKind.u64.wrap p0.p then (spec_l02Full k r3 0 (w64 ((bShl .i64 1 (IntKind.u64.wrap p0.p)) - 1)) 0 ([] : List Int) 201).bind fun r5 => (if decide (200 < (r5.length : Int)) then some ([], 3) else (spec_FullCliques_l0 k r5 k 0 ([] : List (List Int)) : Option (List (List Int))).bind fun s26 => some (s26, 0)) else none))
set_option maxRecDepth 100000 in
theorem spec_FullCliques_ac (k : Nat) (p0 : Col) (p1 : Int) (r : List (List Int) × Int) (h : spec_FullCliques k p0 p1 = some r) : AC Try.prog 50 [.d (.agg (colD p0)), iV p1] [] (fun res H' => res = [.d (.sl none (rowsD r.1)), iV r.2] ∧ H' = []) := by
 refine AC_of_body true Try.func50 rfl Try.ntmps50 (rvs := [.tmp 4, .tmp 5]) rfl rfl (fun G hG => ?_)
 have hm : G.H.length = 0 := by rw [hG]; rfl
 have hz : zeroG G.H = true := by rw [hG]; rfl
 unfold spec_FullCliques at h
 refine kR ?_
 refine AOps_boxI 2 _ _ (.agg (colD p0)) (colD p0) rfl (colD_one _) rfl rfl rfl rfl rfl ?_
 refine kN 2 rfl ?_
 refine ACode_seq ?_
 refine kR ?_
 refine AOps_q 12 _ rfl rfl rfl (QOp_loadN_pv _ _ _ _ _ _ rfl Try.isAgg29 Try.sizeOf29 rfl (colD_all _) (colD_length _)) ?_
 refine kM 1 rfl ?_
 obtain ⟨r1, hr1, h⟩ := bindO h
 refine kC [] 14 (iV r1) [] rfl Try.call107 rfl rfl (spec_l01Given_ac k p0 p1 ([]) _ hr1) rfl ?_
 refine kN 1 rfl ?_
 refine kR ?_
 refine kM 1 rfl ?_
 refine AOps_q 16 _ rfl rfl rfl (QOp_neq _ _ _ _ _ _ _ rfl rfl rfl) ?_
 refine AOps_nil ?_
 refine kI h rfl (fun h _ => ?_) (fun h _ => ?_)
 ·refine kR ?_
  refine kN 3 rfl ?_
  refine ACode_ret ?_
  cases h
  exact ⟨_, _, fun r a w h => ⟨r, h⟩, _, _, [], _, (.cons (ResV_tmp _ _ rfl) (.cons (ResV_tmp _ _ rfl) .nil)), rfl, rfl, rfl, rfl, rfl⟩
 refine ACode_skip ?_
 obtain ⟨r3, hr3, h⟩ := bindO h
 obtain ⟨hc4, h⟩ := guardO h
 obtain ⟨r5, hr5, h⟩ := bindO h
 refine ACode_seq (ACode_reg [(7, .vec 0 0), (8, .vec 1 0)] [.vec 0 (intsD r5), .vec 0 (rowsD ([] : List (List Int)))] ?_ ?_)
 ·refine ACode_anyU mixed ?_
  refine AU_cut 3 #[true, true, true, true, true, true, true, true, true, false, true, false, false] [(20, .vec 0 0), (25, iV (w64 ((bShl .i64 1 (IntKind.u64.wrap p0.p)) - 1))), (26, .vec 1 0), (28, .vec 2 0)] [.vec 0 (intsD r3), .vec 0 (intsD ([] : List Int)), .vec 0 (rowsD ([] : List (List Int)))] ?_ (fun hS0 => ?_)
  ·refine AU_one 9 (by kernel_rfl) rfl rfl ?_
   refine AOps_callL [1] 27 _ _ _ _ _ _ _ _ _ _ rfl rfl rfl rfl rfl rfl rfl Try.call139 rfl (nodupB_sound _ rfl) rfl rfl rfl (spec_l02Full_ac k r3 0 (w64 ((bShl .i64 1 (IntKind.u64.wrap p0.p)) - 1)) 0 ([] : List Int) 201 _ hr5) ?_
   rintro _ _ ⟨rfl, rfl⟩
   refine ⟨(allc (intsD_flat _) (fun _ h => nomatch h)), (allc (trivial) (fun _ h => nomatch h)), AOps_as 27 (v' := .vec 1 1) (H' := [.vec 0 (intsD r3), .vec 1 (intsD r5), .vec 0 (rowsD ([] : List (List Int)))]) rfl rfl ?_⟩
   refine AOps_nil ?_
   refine AU_u 11 7 _ rfl (by kernel_rfl) rfl rfl rfl (UOp_assign _ _ rfl rfl) ?_
   refine AU_u 12 8 _ rfl (by kernel_rfl) rfl rfl rfl (UOp_assign _ _ rfl rfl) ?_
   refine AU_done (by kernel_rfl) ?_
   exact ⟨rfl, Weak_trans (Weak_keep 0 hm [7, 8] [1, 2] _ _ rfl rfl rfl) (Weak_reset 0 hm hz [7, 8] _ _ rfl rfl)⟩
  refine AU_cut 4 #[true, true, true, true, true, true, true, true, true, false, false, false, false] [(20, .vec 0 0), (25, iV (w64 ((bShl .i64 1 (IntKind.u64.wrap p0.p)) - 1))), (26, .vec 1 0)] [.vec 0 (intsD r3), .vec 0 (intsD ([] : List Int))] ?_ (fun hS1 => ?_)
  ·refine AU_all [9, 10] (by kernel_rfl) rfl (allc ?_ (allc ?_ (fun _ h => nomatch h)))
   ·refine US_of 9 rfl rfl ?_
    refine AOps_callL [1] 27 _ _ _ _ _ _ _ _ _ _ rfl rfl rfl rfl rfl rfl rfl Try.call139 rfl (nodupB_sound _ rfl) rfl rfl rfl (spec_l02Full_ac k r3 0 (w64 ((bShl .i64 1 (IntKind.u64.wrap p0.p)) - 1)) 0 ([] : List Int) 201 _ hr5) ?_
    rintro _ _ ⟨rfl, rfl⟩
    refine ⟨(allc (intsD_flat _) (fun _ h => nomatch h)), (allc (trivial) (fun _ h => nomatch h)), AOps_as 27 (v' := .vec 1 1) (H' := [.vec 0 (intsD r3), .vec 1 (intsD r5)]) rfl rfl ?_⟩
    refine AOps_nil ?_
    refine AU_u 11 7 _ rfl (by kernel_rfl) rfl rfl rfl (UOp_assign _ _ rfl rfl) ?_
    refine AU_one 10 (by kernel_rfl) rfl rfl ?_
    refine AOps_buildSlice 28 _ _ _ [] (rowsD ([] : List (List Int))) _ rfl rfl rfl rfl rfl (by decide) Try.underlying45 Try.sizeOf24 (zero_of Try.typeInfo24 rfl) rfl rfl (rowsD_one _) ?_
    refine AOps_nil ?_
    refine AU_u 12 8 _ rfl (by kernel_rfl) rfl rfl rfl (UOp_assign _ _ rfl rfl) ?_
    refine AU_done (by kernel_rfl) ?_
    exact ⟨rfl, Weak_trans (Weak_keep 0 hm [7, 8] [1, 2] _ _ rfl rfl rfl) (Weak_reset 0 hm hz [7, 8] _ _ rfl rfl)⟩
   refine US_of 10 rfl rfl ?_
   refine AOps_buildSlice 28 _ _ _ [] (rowsD ([] : List (List Int))) _ rfl rfl rfl rfl rfl (by decide) Try.underlying45 Try.sizeOf24 (zero_of Try.typeInfo24 rfl) rfl rfl (rowsD_one _) ?_
   refine AOps_nil ?_
   exact AU_to (by kernel_rfl) hS0 (Weak_keep 0 hm [20, 25, 26, 28] [0, 1, 2] _ _ rfl rfl rfl)
  refine AU_cut 4 #[true, true, true, true, true, true, true, true, false, false, true, false, false] [(20, .vec 0 0), (25, iV (w64 ((bShl .i64 1 (IntKind.u64.wrap p0.p)) - 1))), (28, .vec 1 0)] [.vec 0 (intsD r3), .vec 0 (rowsD ([] : List (List Int)))] ?_ (fun hS2 => ?_)
  ·refine AU_one 8 (by kernel_rfl) rfl rfl ?_
   refine AOps_buildSlice 26 _ _ _ [] (intsD ([] : List Int)) _ rfl rfl rfl rfl rfl (by decide) Try.underlying24 Try.sizeOf2 (zero_of Try.typeInfo2 rfl) rfl rfl (intsD_one _) ?_
   refine AOps_nil ?_
   exact AU_to (by kernel_rfl) hS0 (Weak_keep 0 hm [20, 25, 26, 28] [0, 2, 1] _ _ rfl rfl rfl)
  refine AU_cut 4 #[true, true, false, true, true, true, true, true, true, false, true, false, false] [(18, .d (.agg (colD p0))), (19, iV p1), (25, iV (w64 ((bShl .i64 1 (IntKind.u64.wrap p0.p)) - 1))), (26, .vec 0 0), (28, .vec 1 0)] [.vec 0 (intsD ([] : List Int)), .vec 0 (rowsD ([] : List (List Int)))] ?_ (fun hS3 => ?_)
  ·refine AU_one 2 (by kernel_rfl) rfl rfl ?_
   refine kC [] 20 (.vec 2 0) [.vec 0 (intsD ([] : List Int)), .vec 0 (rowsD ([] : List (List Int))), .vec 0 (intsD r3)] rfl Try.call113 rfl rfl (spec_l02Rows_ac k p0 p1 _ hr3) rfl ?_
   refine AOps_nil ?_
   exact AU_to (by kernel_rfl) hS0 (Weak_keep 0 hm [20, 25, 26, 28] [2, 0, 1] _ _ rfl rfl rfl)
  refine AU_cut 5 #[true, true, true, true, true, true, true, true, false, false, false, false, false] [(20, .vec 0 0), (25, iV (w64 ((bShl .i64 1 (IntKind.u64.wrap p0.p)) - 1)))] [.vec 0 (intsD r3)] ?_ (fun hS4 => ?_)
  ·refine AU_all [8, 10] (by kernel_rfl) rfl (allc ?_ (allc ?_ (fun _ h => nomatch h)))
   ·refine US_of 8 rfl rfl ?_
    refine AOps_buildSlice 26 _ _ _ [] (intsD ([] : List Int)) _ rfl rfl rfl rfl rfl (by decide) Try.underlying24 Try.sizeOf2 (zero_of Try.typeInfo2 rfl) rfl rfl (intsD_one _) ?_
    refine AOps_nil ?_
    exact AU_to (by kernel_rfl) hS1 (Weak_keep 0 hm [20, 25, 26] [0, 1] _ _ rfl rfl rfl)
   refine US_of 10 rfl rfl ?_
   refine AOps_buildSlice 28 _ _ _ [] (rowsD ([] : List (List Int))) _ rfl rfl rfl rfl rfl (by decide) Try.underlying45 Try.sizeOf24 (zero_of Try.typeInfo24 rfl) rfl rfl (rowsD_one _) ?_
   refine AOps_nil ?_
   exact AU_to (by kernel_rfl) hS2 (Weak_keep 0 hm [20, 25, 28] [0, 1] _ _ rfl rfl rfl)
  refine AU_cut 5 #[true, true, false, true, true, true, true, true, true, false, false, false, false] [(18, .d (.agg (colD p0))), (19, iV p1), (25, iV (w64 ((bShl .i64 1 (IntKind.u64.wrap p0.p)) - 1))), (26, .vec 0 0)] [.vec 0 (intsD ([] : List Int))] ?_ (fun hS5 => ?_)
  ·refine AU_all [2, 10] (by kernel_rfl) rfl (allc ?_ (allc ?_ (fun _ h => nomatch h)))
   ·refine US_of 2 rfl rfl ?_
    refine kC [] 20 (.vec 1 0) [.vec 0 (intsD ([] : List Int)), .vec 0 (intsD r3)] rfl Try.call113 rfl rfl (spec_l02Rows_ac k p0 p1 _ hr3) rfl ?_
    refine AOps_nil ?_
    exact AU_to (by kernel_rfl) hS1 (Weak_keep 0 hm [20, 25, 26] [1, 0] _ _ rfl rfl rfl)
   refine US_of 10 rfl rfl ?_
   refine AOps_buildSlice 28 _ _ _ [] (rowsD ([] : List (List Int))) _ rfl rfl rfl rfl rfl (by decide) Try.underlying45 Try.sizeOf24 (zero_of Try.typeInfo24 rfl) rfl rfl (rowsD_one _) ?_
   refine AOps_nil ?_
   exact AU_to (by kernel_rfl) hS3 (Weak_keep 0 hm [18, 19, 25, 26, 28] [0, 1] _ _ rfl rfl rfl)
  refine AU_cut 5 #[true, true, false, true, true, true, true, true, false, false, true, false, false] [(18, .d (.agg (colD p0))), (19, iV p1), (25, iV (w64 ((bShl .i64 1 (IntKind.u64.wrap p0.p)) - 1))), (28, .vec 0 0)] [.vec 0 (rowsD ([] : List (List Int)))] ?_ (fun hS6 => ?_)
  ·refine AU_all [2, 8] (by kernel_rfl) rfl (allc ?_ (allc ?_ (fun _ h => nomatch h)))
   ·refine US_of 2 rfl rfl ?_
    refine kC [] 20 (.vec 1 0) [.vec 0 (rowsD ([] : List (List Int))), .vec 0 (intsD r3)] rfl Try.call113 rfl rfl (spec_l02Rows_ac k p0 p1 _ hr3) rfl ?_
    refine AOps_nil ?_
    exact AU_to (by kernel_rfl) hS2 (Weak_keep 0 hm [20, 25, 28] [1, 0] _ _ rfl rfl rfl)
   refine US_of 8 rfl rfl ?_
   refine AOps_buildSlice 26 _ _ _ [] (intsD ([] : List Int)) _ rfl rfl rfl rfl rfl (by decide) Try.underlying24 Try.sizeOf2 (zero_of Try.typeInfo2 rfl) rfl rfl (intsD_one _) ?_
   refine AOps_nil ?_
   exact AU_to (by kernel_rfl) hS3 (Weak_keep 0 hm [18, 19, 25, 26, 28] [1, 0] _ _ rfl rfl rfl)
  refine AU_cut 5 #[false, true, false, true, true, true, true, true, true, false, true, false, false] [(2, .d (.pv (colD p0) 0)), (19, iV p1), (25, iV (w64 ((bShl .i64 1 (IntKind.u64.wrap p0.p)) - 1))), (26, .vec 0 0), (28, .vec 1 0)] [.vec 0 (intsD ([] : List Int)), .vec 0 (rowsD ([] : List (List Int)))] ?_ (fun hS7 => ?_)
  ·refine AU_one 0 (by kernel_rfl) rfl rfl ?_
   refine AOps_q 18 _ rfl rfl rfl (QOp_loadN_pv _ _ _ _ _ _ rfl Try.isAgg29 Try.sizeOf29 rfl (colD_all _) (colD_length _)) ?_
   refine AOps_nil ?_
   exact AU_to (by kernel_rfl) hS3 (Weak_keep 0 hm [18, 19, 25, 26, 28] [0, 1] _ _ rfl rfl rfl)
  refine AU_cut 6 #[true, true, false, true, true, true, true, true, false, false, false, false, false] [(18, .d (.agg (colD p0))), (19, iV p1), (25, iV (w64 ((bShl .i64 1 (IntKind.u64.wrap p0.p)) - 1)))] [] ?_ (fun hS8 => ?_)
  ·refine AU_all [2, 8, 10] (by kernel_rfl) rfl (allc ?_ (allc ?_ (allc ?_ (fun _ h => nomatch h))))
   ·refine US_of 2 rfl rfl ?_
    refine kC [] 20 (.vec 0 0) [.vec 0 (intsD r3)] rfl Try.call113 rfl rfl (spec_l02Rows_ac k p0 p1 _ hr3) rfl ?_
    refine AOps_nil ?_
    exact AU_to (by kernel_rfl) hS4 (Weak_keep 0 hm [20, 25] [0] _ _ rfl rfl rfl)
   ·refine US_of 8 rfl rfl ?_
    refine AOps_buildSlice 26 _ _ _ [] (intsD ([] : List Int)) _ rfl rfl rfl rfl rfl (by decide) Try.underlying24 Try.sizeOf2 (zero_of Try.typeInfo2 rfl) rfl rfl (intsD_one _) ?_
    refine AOps_nil ?_
    exact AU_to (by kernel_rfl) hS5 (Weak_keep 0 hm [18, 19, 25, 26] [0] _ _ rfl rfl rfl)
   refine US_of 10 rfl rfl ?_
   refine AOps_buildSlice 28 _ _ _ [] (rowsD ([] : List (List Int))) _ rfl rfl rfl rfl rfl (by decide) Try.underlying45 Try.sizeOf24 (zero_of Try.typeInfo24 rfl) rfl rfl (rowsD_one _) ?_
   refine AOps_nil ?_
   exact AU_to (by kernel_rfl) hS6 (Weak_keep 0 hm [18, 19, 25, 28] [0] _ _ rfl rfl rfl)
  refine AU_cut 6 #[false, true, false, true, true, true, true, true, true, false, false, false, false] [(2, .d (.pv (colD p0) 0)), (19, iV p1), (25, iV (w64 ((bShl .i64 1 (IntKind.u64.wrap p0.p)) - 1))), (26, .vec 0 0)] [.vec 0 (intsD ([] : List Int))] ?_ (fun hS9 => ?_)
  ·refine AU_all [0, 10] (by kernel_rfl) rfl (allc ?_ (allc ?_ (fun _ h => nomatch h)))
   ·refine US_of 0 rfl rfl ?_
    refine AOps_q 18 _ rfl rfl rfl (QOp_loadN_pv _ _ _ _ _ _ rfl Try.isAgg29 Try.sizeOf29 rfl (colD_all _) (colD_length _)) ?_
    refine AOps_nil ?_
    exact AU_to (by kernel_rfl) hS5 (Weak_keep 0 hm [18, 19, 25, 26] [0] _ _ rfl rfl rfl)
   refine US_of 10 rfl rfl ?_
   refine AOps_buildSlice 28 _ _ _ [] (rowsD ([] : List (List Int))) _ rfl rfl rfl rfl rfl (by decide) Try.underlying45 Try.sizeOf24 (zero_of Try.typeInfo24 rfl) rfl rfl (rowsD_one _) ?_
   refine AOps_nil ?_
   exact AU_to (by kernel_rfl) hS7 (Weak_keep 0 hm [2, 19, 25, 26, 28] [0, 1] _ _ rfl rfl rfl)
  refine AU_cut 6 #[false, true, false, true, true, true, true, true, false, false, true, false, false] [(2, .d (.pv (colD p0) 0)), (19, iV p1), (25, iV (w64 ((bShl .i64 1 (IntKind.u64.wrap p0.p)) - 1))), (28, .vec 0 0)] [.vec 0 (rowsD ([] : List (List Int)))] ?_ (fun hS10 => ?_)
  ·refine AU_all [0, 8] (by kernel_rfl) rfl (allc ?_ (allc ?_ (fun _ h => nomatch h)))
   ·refine US_of 0 rfl rfl ?_
    refine AOps_q 18 _ rfl rfl rfl (QOp_loadN_pv _ _ _ _ _ _ rfl Try.isAgg29 Try.sizeOf29 rfl (colD_all _) (colD_length _)) ?_
    refine AOps_nil ?_
    exact AU_to (by kernel_rfl) hS6 (Weak_keep 0 hm [18, 19, 25, 28] [0] _ _ rfl rfl rfl)
   refine US_of 8 rfl rfl ?_
   refine AOps_buildSlice 26 _ _ _ [] (intsD ([] : List Int)) _ rfl rfl rfl rfl rfl (by decide) Try.underlying24 Try.sizeOf2 (zero_of Try.typeInfo2 rfl) rfl rfl (intsD_one _) ?_
   refine AOps_nil ?_
   exact AU_to (by kernel_rfl) hS7 (Weak_keep 0 hm [2, 19, 25, 26, 28] [1, 0] _ _ rfl rfl rfl)
  refine AU_cut 7 #[true, true, true, true, false, false, false, false, true, false, true, false, false] [(20, .vec 0 0), (21, .d (.pv (colD p0) 0)), (26, .vec 1 0), (28, .vec 2 0)] [.vec 0 (intsD r3), .vec 0 (intsD ([] : List Int)), .vec 0 (rowsD ([] : List (List Int)))] ?_ (fun hS11 => ?_)
  ·refine AU_one 4 (by kernel_rfl) rfl rfl ?_
   refine AOps_q 22 _ rfl rfl rfl (QOp_load_pv _ _ _ _ _ rfl Try.isAgg2 rfl rfl) ?_
   refine AOps_nil ?_
   refine AU_u 5 23 _ rfl (by kernel_rfl) rfl rfl rfl (UOp_conv _ _ _ _ _ _ rfl rfl Try.underlying106 rfl) ?_
   refine AU_u 6 24 _ rfl (by kernel_rfl) rfl rfl rfl (UOp_shl _ _ _ _ _ _ _ _ hc4 rfl rfl rfl) ?_
   refine AU_u 7 25 _ rfl (by kernel_rfl) rfl rfl rfl (UOp_sub _ _ _ _ _ _ _ rfl rfl rfl) ?_
   exact AU_to (by kernel_rfl) hS0 (Weak_keep 0 hm [20, 25, 26, 28] [0, 1, 2] _ _ rfl rfl rfl)
  refine AU_cut 8 #[true, true, true, true, false, false, false, false, true, false, false, false, false] [(20, .vec 0 0), (21, .d (.pv (colD p0) 0)), (26, .vec 1 0)] [.vec 0 (intsD r3), .vec 0 (intsD ([] : List Int))] ?_ (fun hS12 => ?_)
  ·refine AU_all [4, 10] (by kernel_rfl) rfl (allc ?_ (allc ?_ (fun _ h => nomatch h)))
   ·refine US_of 4 rfl rfl ?_
    refine AOps_q 22 _ rfl rfl rfl (QOp_load_pv _ _ _ _ _ rfl Try.isAgg2 rfl rfl) ?_
    refine AOps_nil ?_
    refine AU_u 5 23 _ rfl (by kernel_rfl) rfl rfl rfl (UOp_conv _ _ _ _ _ _ rfl rfl Try.underlying106 rfl) ?_
    refine AU_u 6 24 _ rfl (by kernel_rfl) rfl rfl rfl (UOp_shl _ _ _ _ _ _ _ _ hc4 rfl rfl rfl) ?_
    refine AU_u 7 25 _ rfl (by kernel_rfl) rfl rfl rfl (UOp_sub _ _ _ _ _ _ _ rfl rfl rfl) ?_
    exact AU_to (by kernel_rfl) hS1 (Weak_keep 0 hm [20, 25, 26] [0, 1] _ _ rfl rfl rfl)
   refine US_of 10 rfl rfl ?_
   refine AOps_buildSlice 28 _ _ _ [] (rowsD ([] : List (List Int))) _ rfl rfl rfl rfl rfl (by decide) Try.underlying45 Try.sizeOf24 (zero_of Try.typeInfo24 rfl) rfl rfl (rowsD_one _) ?_
   refine AOps_nil ?_
   exact AU_to (by kernel_rfl) hS11 (Weak_keep 0 hm [20, 21, 26, 28] [0, 1, 2] _ _ rfl rfl rfl)
  refine AU_cut 8 #[true, true, true, true, false, false, false, false, false, false, true, false, false] [(20, .vec 0 0), (21, .d (.pv (colD p0) 0)), (28, .vec 1 0)] [.vec 0 (intsD r3), .vec 0 (rowsD ([] : List (List Int)))] ?_ (fun hS13 => ?_)
  ·refine AU_all [4, 8] (by kernel_rfl) rfl (allc ?_ (allc ?_ (fun _ h => nomatch h)))
   ·refine US_of 4 rfl rfl ?_
    refine AOps_q 22 _ rfl rfl rfl (QOp_load_pv _ _ _ _ _ rfl Try.isAgg2 rfl rfl) ?_
    refine AOps_nil ?_
    refine AU_u 5 23 _ rfl (by kernel_rfl) rfl rfl rfl (UOp_conv _ _ _ _ _ _ rfl rfl Try.underlying106 rfl) ?_
    refine AU_u 6 24 _ rfl (by kernel_rfl) rfl rfl rfl (UOp_shl _ _ _ _ _ _ _ _ hc4 rfl rfl rfl) ?_
    refine AU_u 7 25 _ rfl (by kernel_rfl) rfl rfl rfl (UOp_sub _ _ _ _ _ _ _ rfl rfl rfl) ?_
    exact AU_to (by kernel_rfl) hS2 (Weak_keep 0 hm [20, 25, 28] [0, 1] _ _ rfl rfl rfl)
   refine US_of 8 rfl rfl ?_
   refine AOps_buildSlice 26 _ _ _ [] (intsD ([] : List Int)) _ rfl rfl rfl rfl rfl (by decide) Try.underlying24 Try.sizeOf2 (zero_of Try.typeInfo2 rfl) rfl rfl (intsD_one _) ?_
   refine AOps_nil ?_
   exact AU_to (by kernel_rfl) hS11 (Weak_keep 0 hm [20, 21, 26, 28] [0, 2, 1] _ _ rfl rfl rfl)
  refine AU_cut 8 #[true, true, false, true, false, false, false, false, true, false, true, false, false] [(18, .d (.agg (colD p0))), (19, iV p1), (21, .d (.pv (colD p0) 0)), (26, .vec 0 0), (28, .vec 1 0)] [.vec 0 (intsD ([] : List Int)), .vec 0 (rowsD ([] : List (List Int)))] ?_ (fun hS14 => ?_)
  ·refine AU_all [2, 4] (by kernel_rfl) rfl (allc ?_ (allc ?_ (fun _ h => nomatch h)))
   ·refine US_of 2 rfl rfl ?_
    refine kC [] 20 (.vec 2 0) [.vec 0 (intsD ([] : List Int)), .vec 0 (rowsD ([] : List (List Int))), .vec 0 (intsD r3)] rfl Try.call113 rfl rfl (spec_l02Rows_ac k p0 p1 _ hr3) rfl ?_
    refine AOps_nil ?_
    exact AU_to (by kernel_rfl) hS11 (Weak_keep 0 hm [20, 21, 26, 28] [2, 0, 1] _ _ rfl rfl rfl)
   refine US_of 4 rfl rfl ?_
   refine AOps_q 22 _ rfl rfl rfl (QOp_load_pv _ _ _ _ _ rfl Try.isAgg2 rfl rfl) ?_
   refine AOps_nil ?_
   refine AU_u 5 23 _ rfl (by kernel_rfl) rfl rfl rfl (UOp_conv _ _ _ _ _ _ rfl rfl Try.underlying106 rfl) ?_
   refine AU_u 6 24 _ rfl (by kernel_rfl) rfl rfl rfl (UOp_shl _ _ _ _ _ _ _ _ hc4 rfl rfl rfl) ?_
   refine AU_u 7 25 _ rfl (by kernel_rfl) rfl rfl rfl (UOp_sub _ _ _ _ _ _ _ rfl rfl rfl) ?_
   exact AU_to (by kernel_rfl) hS3 (Weak_keep 0 hm [18, 19, 25, 26, 28] [0, 1] _ _ rfl rfl rfl)
  refine AU_cut 9 #[true, true, false, true, false, false, false, false, true, false, false, false, false] [(18, .d (.agg (colD p0))), (19, iV p1), (21, .d (.pv (colD p0) 0)), (26, .vec 0 0)] [.vec 0 (intsD ([] : List Int))] ?_ (fun hS15 => ?_)
  ·refine AU_all [2, 4, 10] (by kernel_rfl) rfl (allc ?_ (allc ?_ (allc ?_ (fun _ h => nomatch h))))
   ·refine US_of 2 rfl rfl ?_
    refine kC [] 20 (.vec 1 0) [.vec 0 (intsD ([] : List Int)), .vec 0 (intsD r3)] rfl Try.call113 rfl rfl (spec_l02Rows_ac k p0 p1 _ hr3) rfl ?_
    refine AOps_nil ?_
    exact AU_to (by kernel_rfl) hS12 (Weak_keep 0 hm [20, 21, 26] [1, 0] _ _ rfl rfl rfl)
   ·refine US_of 4 rfl rfl ?_
    refine AOps_q 22 _ rfl rfl rfl (QOp_load_pv _ _ _ _ _ rfl Try.isAgg2 rfl rfl) ?_
    refine AOps_nil ?_
    refine AU_u 5 23 _ rfl (by kernel_rfl) rfl rfl rfl (UOp_conv _ _ _ _ _ _ rfl rfl Try.underlying106 rfl) ?_
    refine AU_u 6 24 _ rfl (by kernel_rfl) rfl rfl rfl (UOp_shl _ _ _ _ _ _ _ _ hc4 rfl rfl rfl) ?_
    refine AU_u 7 25 _ rfl (by kernel_rfl) rfl rfl rfl (UOp_sub _ _ _ _ _ _ _ rfl rfl rfl) ?_
    exact AU_to (by kernel_rfl) hS5 (Weak_keep 0 hm [18, 19, 25, 26] [0] _ _ rfl rfl rfl)
   refine US_of 10 rfl rfl ?_
   refine AOps_buildSlice 28 _ _ _ [] (rowsD ([] : List (List Int))) _ rfl rfl rfl rfl rfl (by decide) Try.underlying45 Try.sizeOf24 (zero_of Try.typeInfo24 rfl) rfl rfl (rowsD_one _) ?_
   refine AOps_nil ?_
   exact AU_to (by kernel_rfl) hS14 (Weak_keep 0 hm [18, 19, 21, 26, 28] [0, 1] _ _ rfl rfl rfl)
  refine AU_cut 9 #[true, true, false, true, false, false, false, false, false, false, true, false, false] [(18, .d (.agg (colD p0))), (19, iV p1), (21, .d (.pv (colD p0) 0)), (28, .vec 0 0)] [.vec 0 (rowsD ([] : List (List Int)))] ?_ (fun hS16 => ?_)
  ·refine AU_all [2, 4, 8] (by kernel_rfl) rfl (allc ?_ (allc ?_ (allc ?_ (fun _ h => nomatch h))))
   ·refine US_of 2 rfl rfl ?_
    refine kC [] 20 (.vec 1 0) [.vec 0 (rowsD ([] : List (List Int))), .vec 0 (intsD r3)] rfl Try.call113 rfl rfl (spec_l02Rows_ac k p0 p1 _ hr3) rfl ?_
    refine AOps_nil ?_
    exact AU_to (by kernel_rfl) hS13 (Weak_keep 0 hm [20, 21, 28] [1, 0] _ _ rfl rfl rfl)
   ·refine US_of 4 rfl rfl ?_
    refine AOps_q 22 _ rfl rfl rfl (QOp_load_pv _ _ _ _ _ rfl Try.isAgg2 rfl rfl) ?_
    refine AOps_nil ?_
    refine AU_u 5 23 _ rfl (by kernel_rfl) rfl rfl rfl (UOp_conv _ _ _ _ _ _ rfl rfl Try.underlying106 rfl) ?_
    refine AU_u 6 24 _ rfl (by kernel_rfl) rfl rfl rfl (UOp_shl _ _ _ _ _ _ _ _ hc4 rfl rfl rfl) ?_
    refine AU_u 7 25 _ rfl (by kernel_rfl) rfl rfl rfl (UOp_sub _ _ _ _ _ _ _ rfl rfl rfl) ?_
    exact AU_to (by kernel_rfl) hS6 (Weak_keep 0 hm [18, 19, 25, 28] [0] _ _ rfl rfl rfl)
   refine US_of 8 rfl rfl ?_
   refine AOps_buildSlice 26 _ _ _ [] (intsD ([] : List Int)) _ rfl rfl rfl rfl rfl (by decide) Try.underlying24 Try.sizeOf2 (zero_of Try.typeInfo2 rfl) rfl rfl (intsD_one _) ?_
   refine AOps_nil ?_
   exact AU_to (by kernel_rfl) hS14 (Weak_keep 0 hm [18, 19, 21, 26, 28] [1, 0] _ _ rfl rfl rfl)
  refine AU_cut 9 #[false, true, false, true, false, false, false, false, true, false, true, false, false] [(2, .d (.pv (colD p0) 0)), (19, iV p1), (21, .d (.pv (colD p0) 0)), (26, .vec 0 0), (28, .vec 1 0)] [.vec 0 (intsD ([] : List Int)), .vec 0 (rowsD ([] : List (List Int)))] ?_ (fun hS17 => ?_)
  ·refine AU_all [0, 4] (by kernel_rfl) rfl (allc ?_ (allc ?_ (fun _ h => nomatch h)))
   ·refine US_of 0 rfl rfl ?_
    refine AOps_q 18 _ rfl rfl rfl (QOp_loadN_pv _ _ _ _ _ _ rfl Try.isAgg29 Try.sizeOf29 rfl (colD_all _) (colD_length _)) ?_
    refine AOps_nil ?_
    exact AU_to (by kernel_rfl) hS14 (Weak_keep 0 hm [18, 19, 21, 26, 28] [0, 1] _ _ rfl rfl rfl)
   refine US_of 4 rfl rfl ?_
   refine AOps_q 22 _ rfl rfl rfl (QOp_load_pv _ _ _ _ _ rfl Try.isAgg2 rfl rfl) ?_
   refine AOps_nil ?_
   refine AU_u 5 23 _ rfl (by kernel_rfl) rfl rfl rfl (UOp_conv _ _ _ _ _ _ rfl rfl Try.underlying106 rfl) ?_
   refine AU_u 6 24 _ rfl (by kernel_rfl) rfl rfl rfl (UOp_shl _ _ _ _ _ _ _ _ hc4 rfl rfl rfl) ?_
   refine AU_u 7 25 _ rfl (by kernel_rfl) rfl rfl rfl (UOp_sub _ _ _ _ _ _ _ rfl rfl rfl) ?_
   exact AU_to (by kernel_rfl) hS7 (Weak_keep 0 hm [2, 19, 25, 26, 28] [0, 1] _ _ rfl rfl rfl)
  refine AU_u 1 19 _ rfl (by kernel_rfl) rfl rfl rfl (UOp_move _ _ rfl rfl) ?_
  refine AU_u 3 21 _ rfl (by kernel_rfl) rfl rfl rfl (UOp_fieldAddr_pv _ _ _ _ _ 0 _ _ rfl Try.underlying29 rfl _ Try.sizeOf2 rfl rfl) ?_
  refine AU_all [0, 4, 8, 10] (by kernel_rfl) rfl (allc ?_ (allc ?_ (allc ?_ (allc ?_ (fun _ h => nomatch h)))))
  ·refine US_of 0 rfl rfl ?_
   refine AOps_q 18 _ rfl rfl rfl (QOp_loadN_pv _ _ _ _ _ _ rfl Try.isAgg29 Try.sizeOf29 rfl (colD_all _) (colD_length _)) ?_
   refine AOps_nil ?_
   refine AU_all [2, 4, 8, 10] (by kernel_rfl) rfl (allc ?_ (allc ?_ (allc ?_ (allc ?_ (fun _ h => nomatch h)))))
   ·refine US_of 2 rfl rfl ?_
    refine kC [] 20 (.vec 0 0) [.vec 0 (intsD r3)] rfl Try.call113 rfl rfl (spec_l02Rows_ac k p0 p1 _ hr3) rfl ?_
    refine AOps_nil ?_
    refine AU_all [4, 8, 10] (by kernel_rfl) rfl (allc ?_ (allc ?_ (allc ?_ (fun _ h => nomatch h))))
    ·refine US_of 4 rfl rfl ?_
     refine AOps_q 22 _ rfl rfl rfl (QOp_load_pv _ _ _ _ _ rfl Try.isAgg2 rfl rfl) ?_
     refine AOps_nil ?_
     refine AU_u 5 23 _ rfl (by kernel_rfl) rfl rfl rfl (UOp_conv _ _ _ _ _ _ rfl rfl Try.underlying106 rfl) ?_
     refine AU_u 6 24 _ rfl (by kernel_rfl) rfl rfl rfl (UOp_shl _ _ _ _ _ _ _ _ hc4 rfl rfl rfl) ?_
     refine AU_u 7 25 _ rfl (by kernel_rfl) rfl rfl rfl (UOp_sub _ _ _ _ _ _ _ rfl rfl rfl) ?_
     exact AU_to (by kernel_rfl) hS4 (Weak_keep 0 hm [20, 25] [0] _ _ rfl rfl rfl)
    ·refine US_of 8 rfl rfl ?_
     refine AOps_buildSlice 26 _ _ _ [] (intsD ([] : List Int)) _ rfl rfl rfl rfl rfl (by decide) Try.underlying24 Try.sizeOf2 (zero_of Try.typeInfo2 rfl) rfl rfl (intsD_one _) ?_
     refine AOps_nil ?_
     exact AU_to (by kernel_rfl) hS12 (Weak_keep 0 hm [20, 21, 26] [0, 1] _ _ rfl rfl rfl)
    refine US_of 10 rfl rfl ?_
    refine AOps_buildSlice 28 _ _ _ [] (rowsD ([] : List (List Int))) _ rfl rfl rfl rfl rfl (by decide) Try.underlying45 Try.sizeOf24 (zero_of Try.typeInfo24 rfl) rfl rfl (rowsD_one _) ?_
    refine AOps_nil ?_
    exact AU_to (by kernel_rfl) hS13 (Weak_keep 0 hm [20, 21, 28] [0, 1] _ _ rfl rfl rfl)
   ·refine US_of 4 rfl rfl ?_
    refine AOps_q 22 _ rfl rfl rfl (QOp_load_pv _ _ _ _ _ rfl Try.isAgg2 rfl rfl) ?_
    refine AOps_nil ?_
    refine AU_u 5 23 _ rfl (by kernel_rfl) rfl rfl rfl (UOp_conv _ _ _ _ _ _ rfl rfl Try.underlying106 rfl) ?_
    refine AU_u 6 24 _ rfl (by kernel_rfl) rfl rfl rfl (UOp_shl _ _ _ _ _ _ _ _ hc4 rfl rfl rfl) ?_
    refine AU_u 7 25 _ rfl (by kernel_rfl) rfl rfl rfl (UOp_sub _ _ _ _ _ _ _ rfl rfl rfl) ?_
    exact AU_to (by kernel_rfl) hS8 (Weak_keep 0 hm [18, 19, 25] [] _ _ rfl rfl rfl)
   ·refine US_of 8 rfl rfl ?_
    refine AOps_buildSlice 26 _ _ _ [] (intsD ([] : List Int)) _ rfl rfl rfl rfl rfl (by decide) Try.underlying24 Try.sizeOf2 (zero_of Try.typeInfo2 rfl) rfl rfl (intsD_one _) ?_
    refine AOps_nil ?_
    exact AU_to (by kernel_rfl) hS15 (Weak_keep 0 hm [18, 19, 21, 26] [0] _ _ rfl rfl rfl)
   refine US_of 10 rfl rfl ?_
   refine AOps_buildSlice 28 _ _ _ [] (rowsD ([] : List (List Int))) _ rfl rfl rfl rfl rfl (by decide) Try.underlying45 Try.sizeOf24 (zero_of Try.typeInfo24 rfl) rfl rfl (rowsD_one _) ?_
   refine AOps_nil ?_
   exact AU_to (by kernel_rfl) hS16 (Weak_keep 0 hm [18, 19, 21, 28] [0] _ _ rfl rfl rfl)
  ·refine US_of 4 rfl rfl ?_
   refine AOps_q 22 _ rfl rfl rfl (QOp_load_pv _ _ _ _ _ rfl Try.isAgg2 rfl rfl) ?_
   refine AOps_nil ?_
   refine AU_u 5 23 _ rfl (by kernel_rfl) rfl rfl rfl (UOp_conv _ _ _ _ _ _ rfl rfl Try.underlying106 rfl) ?_
   refine AU_u 6 24 _ rfl (by kernel_rfl) rfl rfl rfl (UOp_shl _ _ _ _ _ _ _ _ hc4 rfl rfl rfl) ?_
   refine AU_u 7 25 _ rfl (by kernel_rfl) rfl rfl rfl (UOp_sub _ _ _ _ _ _ _ rfl rfl rfl) ?_
   refine AU_all [0, 8, 10] (by kernel_rfl) rfl (allc ?_ (allc ?_ (allc ?_ (fun _ h => nomatch h))))
   ·refine US_of 0 rfl rfl ?_
    refine AOps_q 18 _ rfl rfl rfl (QOp_loadN_pv _ _ _ _ _ _ rfl Try.isAgg29 Try.sizeOf29 rfl (colD_all _) (colD_length _)) ?_
    refine AOps_nil ?_
    exact AU_to (by kernel_rfl) hS8 (Weak_keep 0 hm [18, 19, 25] [] _ _ rfl rfl rfl)
   ·refine US_of 8 rfl rfl ?_
    refine AOps_buildSlice 26 _ _ _ [] (intsD ([] : List Int)) _ rfl rfl rfl rfl rfl (by decide) Try.underlying24 Try.sizeOf2 (zero_of Try.typeInfo2 rfl) rfl rfl (intsD_one _) ?_
    refine AOps_nil ?_
    exact AU_to (by kernel_rfl) hS9 (Weak_keep 0 hm [2, 19, 25, 26] [0] _ _ rfl rfl rfl)
   refine US_of 10 rfl rfl ?_
   refine AOps_buildSlice 28 _ _ _ [] (rowsD ([] : List (List Int))) _ rfl rfl rfl rfl rfl (by decide) Try.underlying45 Try.sizeOf24 (zero_of Try.typeInfo24 rfl) rfl rfl (rowsD_one _) ?_
   refine AOps_nil ?_
   exact AU_to (by kernel_rfl) hS10 (Weak_keep 0 hm [2, 19, 25, 28] [0] _ _ rfl rfl rfl)
  ·refine US_of 8 rfl rfl ?_
   refine AOps_buildSlice 26 _ _ _ [] (intsD ([] : List Int)) _ rfl rfl rfl rfl rfl (by decide) Try.underlying24 Try.sizeOf2 (zero_of Try.typeInfo2 rfl) rfl rfl (intsD_one _) ?_
   refine AOps_nil ?_
   refine AU_all [0, 4, 10] (by kernel_rfl) rfl (allc ?_ (allc ?_ (allc ?_ (fun _ h => nomatch h))))
   ·refine US_of 0 rfl rfl ?_
    refine AOps_q 18 _ rfl rfl rfl (QOp_loadN_pv _ _ _ _ _ _ rfl Try.isAgg29 Try.sizeOf29 rfl (colD_all _) (colD_length _)) ?_
    refine AOps_nil ?_
    exact AU_to (by kernel_rfl) hS15 (Weak_keep 0 hm [18, 19, 21, 26] [0] _ _ rfl rfl rfl)
   ·refine US_of 4 rfl rfl ?_
    refine AOps_q 22 _ rfl rfl rfl (QOp_load_pv _ _ _ _ _ rfl Try.isAgg2 rfl rfl) ?_
    refine AOps_nil ?_
    refine AU_u 5 23 _ rfl (by kernel_rfl) rfl rfl rfl (UOp_conv _ _ _ _ _ _ rfl rfl Try.underlying106 rfl) ?_
    refine AU_u 6 24 _ rfl (by kernel_rfl) rfl rfl rfl (UOp_shl _ _ _ _ _ _ _ _ hc4 rfl rfl rfl) ?_
    refine AU_u 7 25 _ rfl (by kernel_rfl) rfl rfl rfl (UOp_sub _ _ _ _ _ _ _ rfl rfl rfl) ?_
    exact AU_to (by kernel_rfl) hS9 (Weak_keep 0 hm [2, 19, 25, 26] [0] _ _ rfl rfl rfl)
   refine US_of 10 rfl rfl ?_
   refine AOps_buildSlice 28 _ _ _ [] (rowsD ([] : List (List Int))) _ rfl rfl rfl rfl rfl (by decide) Try.underlying45 Try.sizeOf24 (zero_of Try.typeInfo24 rfl) rfl rfl (rowsD_one _) ?_
   refine AOps_nil ?_
   exact AU_to (by kernel_rfl) hS17 (Weak_keep 0 hm [2, 19, 21, 26, 28] [0, 1] _ _ rfl rfl rfl)
  refine US_of 10 rfl rfl ?_
  refine AOps_buildSlice 28 _ _ _ [] (rowsD ([] : List (List Int))) _ rfl rfl rfl rfl rfl (by decide) Try.underlying45 Try.sizeOf24 (zero_of Try.typeInfo24 rfl) rfl rfl (rowsD_one _) ?_
  refine AOps_nil ?_
  refine AU_all [0, 4, 8] (by kernel_rfl) rfl (allc ?_ (allc ?_ (allc ?_ (fun _ h => nomatch h))))
  ·refine US_of 0 rfl rfl ?_
   refine AOps_q 18 _ rfl rfl rfl (QOp_loadN_pv _ _ _ _ _ _ rfl Try.isAgg29 Try.sizeOf29 rfl (colD_all _) (colD_length _)) ?_
   refine AOps_nil ?_
   exact AU_to (by kernel_rfl) hS16 (Weak_keep 0 hm [18, 19, 21, 28] [0] _ _ rfl rfl rfl)
  ·refine US_of 4 rfl rfl ?_
   refine AOps_q 22 _ rfl rfl rfl (QOp_load_pv _ _ _ _ _ rfl Try.isAgg2 rfl rfl) ?_
   refine AOps_nil ?_
   refine AU_u 5 23 _ rfl (by kernel_rfl) rfl rfl rfl (UOp_conv _ _ _ _ _ _ rfl rfl Try.underlying106 rfl) ?_
   refine AU_u 6 24 _ rfl (by kernel_rfl) rfl rfl rfl (UOp_shl _ _ _ _ _ _ _ _ hc4 rfl rfl rfl) ?_
   refine AU_u 7 25 _ rfl (by kernel_rfl) rfl rfl rfl (UOp_sub _ _ _ _ _ _ _ rfl rfl rfl) ?_
   exact AU_to (by kernel_rfl) hS10 (Weak_keep 0 hm [2, 19, 25, 28] [0] _ _ rfl rfl rfl)
  refine US_of 8 rfl rfl ?_
  refine AOps_buildSlice 26 _ _ _ [] (intsD ([] : List Int)) _ rfl rfl rfl rfl rfl (by decide) Try.underlying24 Try.sizeOf2 (zero_of Try.typeInfo2 rfl) rfl rfl (intsD_one _) ?_
  refine AOps_nil ?_
  exact AU_to (by kernel_rfl) hS17 (Weak_keep 0 hm [2, 19, 21, 26, 28] [1, 0] _ _ rfl rfl rfl)
 refine ACode_seq ?_
 refine kR ?_
 refine kM 1 rfl ?_
 refine AOps_q 30 _ rfl rfl rfl (QOp_len_vec _ _ _ _ _ _ _ _ (intsD_length _) rfl rfl rfl rfl Try.underlying24 rfl rfl) ?_
 refine AOps_q 31 _ rfl rfl rfl (QOp_gtr _ _ _ _ _ _ _ rfl rfl rfl) ?_
 refine AOps_nil ?_
 refine kI h rfl (fun h _ => ?_) (fun h _ => ?_)
 ·refine kR ?_
  refine kN 2 rfl ?_
  refine ACode_ret ?_
  cases h
  exact ⟨_, _, fun r a w h => ⟨r, h⟩, _, _, [], _, (.cons (ResV_tmp _ _ rfl) (.cons (ResV_tmp _ _ rfl) .nil)), rfl, rfl, rfl, rfl, rfl⟩
 refine ACode_skip ?_
 refine kB (fun s26 => [(8, .vec 0 0)]) (fun s26 => [.vec 0 (rowsD s26)]) h (fun s26 h => ?_) (fun s26 h => ?_)
 ·refine kR ?_
  refine kN 1 rfl ?_
  refine ACode_block ?_
  refine ACode_loopW (fun k0 E H => ∃ (x7 : Int) (x8 : List (List Int)), E = [(7, .vec 0 0), (8, .vec 1 0), (9, iV x7)] ∧ H = [.vec 0 (intsD r5), .vec 0 (rowsD x8)] ∧ spec_FullCliques_l0 k r5 k0 x7 x8 = some s26) k _ _ (Weak_keep 0 hm [7, 8, 9] [0, 1] _ _ rfl rfl rfl) ⟨_, _, rfl, rfl, h⟩ ?_
  clear h
  rintro k0 E H ⟨x7, x8, rfl, rfl, h⟩
  cases k0 with
  | zero => cases (show (none : Option (List (List Int))) = some _ from h)
  | succ k0 =>
   rw [spec_FullCliques_l0] at h
   refine ACode_seq ?_
   refine kR ?_
   refine kM 2 rfl ?_
   refine AOps_q 34 _ rfl rfl rfl (QOp_len_vec _ _ _ _ _ _ _ _ (intsD_length _) rfl rfl rfl rfl Try.underlying24 rfl rfl) ?_
   refine AOps_q 35 _ rfl rfl rfl (QOp_lss _ _ _ _ _ _ _ rfl rfl rfl) ?_
   refine AOps_nil ?_
   refine kI h rfl (fun h _ => ?_) (fun h _ => ?_)
   ·refine ACode_skip ?_
    refine kB (fun s25 => [(7, .vec 0 0), (8, .vec 1 0), (9, iV x7)]) (fun s25 => [.vec 0 (intsD r5), .vec 0 (rowsD s25)]) h (fun s25 h => ?_) (fun s25 h => ?_)
    ·refine ACode_block ?_
     refine kR ?_
     refine kM 2 rfl ?_
     obtain ⟨hc10, h⟩ := guardO h
     refine AOps_q 40 _ rfl rfl rfl (QOp_indexAddr_vec _ _ _ _ _ _ _ _ _ rfl Try.underlying24 Try.sizeOf2 hc10.1 (by rw [intsD_length]; exact hc10.2) rfl rfl rfl) ?_
     refine AOps_q 41 _ rfl rfl rfl (QOp_load_eptr _ _ _ _ _ _ _ rfl Try.isAgg2 rfl rfl (intsD_get _ _ 0 (by omega))) ?_
     obtain ⟨r11, hr11, h⟩ := bindO h
     refine kC [] 42 (.vec 2 0) [.vec 0 (intsD r5), .vec 0 (rowsD x8), .vec 0 (intsD r11)] rfl Try.call140 rfl rfl (spec_l01Points_ac k (r5.getD x7.toNat 0) _ hr11) rfl ?_
     refine kM 1 rfl ?_
     refine AOps_q 44 _ rfl rfl rfl (QOp_len_vec _ _ _ _ _ _ _ _ (rowsD_length _) rfl rfl rfl rfl Try.underlying45 rfl rfl) ?_
     refine kN 2 rfl ?_
     refine kR ?_
     refine kM 2 rfl ?_
     refine AOps_freezeL [10, 42, 46] 2 0 _ (allc (rfl) (allc (rfl) (allc (rfl) (fun _ h => nomatch h)))) rfl ?_
     refine AOps_buildSlice 47 _ _ _ [_] (rowsD ([r11])) _ rfl rfl rfl rfl rfl (by decide) Try.underlying45 Try.sizeOf24 (zero_of Try.typeInfo24 rfl) rfl rfl (rowsD_one _) ?_
     obtain ⟨hc12, h⟩ := guardO h
     refine AOps_append 48 _ _ _ _ _ _ _ _ _ _ _ _ rfl rfl rfl rfl rfl rfl rfl Try.underlying45 Try.type24 rfl rfl rfl (by decide) rfl rfl rfl rfl (rowsD_one _) (by rw [rowsD_length, rowsD_length]; exact hc12) ?_
     rw [rowsD_app]
     refine kN 1 rfl ?_
     refine kB (fun s23 => [(7, .vec 0 0), (8, .vec 1 0), (9, iV x7), (10, .d (.sl none (intsD r11))), (11, iV s23.1)]) (fun s23 => [.vec 0 (intsD r5), .vec 0 (rowsD s23.2)]) h (fun s23 h => ?_) (fun s23 h => ?_)
     ·refine ACode_block ?_
      refine ACode_loopW (fun k1 E H => ∃ (x13 : Int) (x14 : List (List Int)), E = [(7, .vec 0 0), (8, .vec 1 0), (9, iV x7), (10, .d (.sl none (intsD r11))), (11, iV x13)] ∧ H = [.vec 0 (intsD r5), .vec 0 (rowsD x14)] ∧ spec_FullCliques_l1 k r11 k1 x13 x14 = some s23) k _ _ (Weak_trans (Weak_keep 0 hm [7, 8, 9, 10, 11] [0, 1] _ _ rfl rfl rfl) (Weak_reset 0 hm hz [7, 8, 9, 10, 11] _ _ rfl rfl)) ⟨_, _, rfl, rfl, h⟩ ?_
      clear h
      rintro k1 E H ⟨x13, x14, rfl, rfl, h⟩
      cases k1 with
      | zero => cases (show (none : Option (Int × List (List Int))) = some _ from h)
      | succ k1 =>
       rw [spec_FullCliques_l1] at h
       refine kO (fun s20 => [(7, .vec 0 0), (8, .vec 1 0), (9, iV x7), (10, .d (.sl none (intsD r11))), (11, iV x13)]) (fun s20 => [.vec 0 (intsD r5), .vec 0 (rowsD x14)]) h (fun os20 h hks20 => ?_) (fun s20 h => ?_)
       ·refine kB (fun s18 => [(7, .vec 0 0), (8, .vec 1 0), (9, iV x7), (10, .d (.sl none (intsD r11))), (11, iV x13), (59, bV s18)]) (fun s18 => [.vec 0 (intsD r5), .vec 0 (rowsD x14)]) h (fun s18 h => ?_) (fun s18 h => ?_)
        ·refine (ACode_region ?_)
         refine kM 1 rfl ?_
         refine AOps_q 50 _ rfl rfl rfl (QOp_gtr _ _ _ _ _ _ _ rfl rfl rfl) ?_
         refine kM 1 rfl ?_
         refine AOps_case 51 _ rfl (fun hb15 => ?_) (fun hb15 => ?_)
         ·have h := iteT hb15 h
          refine kM 3 rfl ?_
          refine AOps_q 55 _ rfl rfl rfl (QOp_sub _ _ _ _ _ _ _ rfl rfl rfl) ?_
          obtain ⟨hc16, h⟩ := guardO h
          refine AOps_q 56 _ rfl rfl rfl (QOp_indexAddr_vec _ _ _ _ _ _ _ _ _ rfl Try.underlying45 Try.sizeOf24 hc16.1 (by rw [rowsD_length]; exact hc16.2) rfl rfl rfl) ?_
          refine AOps_q 57 _ rfl rfl rfl (QOp_load_eptr _ _ _ _ _ _ _ rfl Try.isAgg24 rfl rfl (rowsD_get _ _ [] (by omega))) ?_
          obtain ⟨r17, hr17, h⟩ := bindO h
          refine kC [] 58 (bV r17) [.vec 0 (intsD r5), .vec 0 (rowsD x14)] rfl Try.call141 rfl rfl (spec_l02Before_ac k r11 (x14.getD (w64 (x13 - 1)).toNat []) _ hr17) rfl ?_
          refine kN 1 rfl ?_
          cases h
          exact Weak_keep 0 hm [7, 8, 9, 10, 11, 59] [0, 1] _ _ rfl rfl rfl
         have h := iteF hb15 h
         refine AOps_skip 52 rfl rfl rfl ?_
         refine AOps_skip 53 rfl rfl rfl ?_
         refine AOps_skip 54 rfl rfl rfl ?_
         refine AOps_skip 55 rfl rfl rfl ?_
         refine AOps_skip 56 rfl rfl rfl ?_
         refine AOps_skip 57 rfl rfl rfl ?_
         refine AOps_skip 58 rfl rfl rfl ?_
         refine kN 1 rfl ?_
         cases h
         exact Weak_keep 0 hm [7, 8, 9, 10, 11, 59] [0, 1] _ _ rfl rfl rfl
        refine kI h rfl (fun h _ => ?_) (fun h _ => ?_)
        ·refine ACode_skip ?_
         cases h
         exact ⟨_, rfl, Weak_keep 0 hm [7, 8, 9, 10, 11] [0, 1] _ _ rfl rfl rfl⟩
        refine ACode_exit ?_
        obtain ⟨rr, hz27, h2⟩ := bindO h
        obtain rfl := Option.some.inj h2
        obtain rfl := Option.some.inj (show some rr = some _ from hks20)
        have h := hz27
        cases h
        exact Weak_keep 0 hm [7, 8, 9, 10, 11] [0, 1] _ _ rfl rfl rfl
       refine ACode_block ?_
       refine kR ?_
       refine kM 4 rfl ?_
       refine AOps_q 64 _ rfl rfl rfl (QOp_sub _ _ _ _ _ _ _ rfl rfl rfl) ?_
       obtain ⟨hc21, h⟩ := guardO h
       refine AOps_q 65 _ rfl rfl rfl (QOp_indexAddr_vec _ _ _ _ _ _ _ _ _ rfl Try.underlying45 Try.sizeOf24 hc21.1 (by rw [rowsD_length]; exact hc21.2) rfl rfl rfl) ?_
       refine AOps_q 66 _ rfl rfl rfl (QOp_load_eptr _ _ _ _ _ _ _ rfl Try.isAgg24 rfl rfl (rowsD_get _ _ [] (by omega))) ?_
       obtain ⟨hc22, h⟩ := guardO h
       refine AOps_q 67 _ rfl rfl rfl (QOp_indexAddr_vec _ _ _ _ _ _ _ _ _ rfl Try.underlying45 Try.sizeOf24 hc22.1 (by rw [rowsD_length]; exact hc22.2) rfl rfl rfl) ?_
       refine AOps_store_eptr _ _ _ _ _ _ (rowsD x14) _ rfl rfl rfl rfl rfl rfl rfl Try.sizeOf24 (by rw [rowsD_length]; omega) ?_
       rw [rowsD_set]
       refine AOps_nil ?_
       refine (ACode_region ?_)
       refine kM 1 rfl ?_
       refine AOps_q 69 _ rfl rfl rfl (QOp_sub _ _ _ _ _ _ _ rfl rfl rfl) ?_
       refine kN 1 rfl ?_
       exact ⟨k1, _, _, Nat.lt_succ_self _, Weak_keep 0 hm [7, 8, 9, 10, 11] [0, 1] _ _ rfl rfl rfl, _, _, rfl, rfl, h⟩
     refine (ACode_region ?_)
     refine kM 3 rfl ?_
     obtain ⟨hc24, h⟩ := guardO h
     refine AOps_q 73 _ rfl rfl rfl (QOp_indexAddr_vec _ _ _ _ _ _ _ _ _ rfl Try.underlying45 Try.sizeOf24 hc24.1 (by rw [rowsD_length]; exact hc24.2) rfl rfl rfl) ?_
     refine AOps_store_eptr _ _ _ _ _ _ (rowsD s23.2) _ rfl rfl rfl rfl rfl rfl rfl Try.sizeOf24 (by rw [rowsD_length]; omega) ?_
     rw [rowsD_set]
     refine AOps_nil ?_
     cases h
     exact Weak_keep 0 hm [7, 8, 9] [0, 1] _ _ rfl rfl rfl
    refine (ACode_region ?_)
    refine kM 1 rfl ?_
    refine AOps_q 37 _ rfl rfl rfl (QOp_add _ _ _ _ _ _ _ rfl rfl rfl) ?_
    refine kN 1 rfl ?_
    exact ⟨k0, _, _, Nat.lt_succ_self _, Weak_keep 0 hm [7, 8, 9] [0, 1] _ _ rfl rfl rfl, _, _, rfl, rfl, h⟩
   refine ACode_exit ?_
   cases h
   exact Weak_keep 0 hm [8] [1] _ _ rfl rfl rfl
 refine kR ?_
 refine kN 3 rfl ?_
 refine ACode_ret ?_
 cases h
 exact ⟨_, _, fun r a w h => ⟨r, h⟩, _, _, [], _, (.cons (ResV_tmp _ _ rfl) (.cons (ResV_tmp _ _ rfl) .nil)), rfl, rfl, rfl, rfl, rfl⟩

-- loop.example/g01362/laws.rows9
def laws_rows9_l0 (k : Nat) (p0 : List (List Int)) (p1 : List (List Int)) : Nat → Int → Option (Sum (Unit) (Bool))
 | 0, _ => none
 | k0 + 1, x2 => (if decide (x2 < (p0.length : Int)) then (if 0 ≤ x2 ∧ x2 < (p0.length : Int) then (if 0 ≤ x2 ∧ x2 < (p1.length : Int) then (laws_likeInts k (p0.getD x2.toNat []) (p1.getD x2.toNat [])).bind fun r6 => (if !r6 then some (.inr false) else laws_rows9_l0 k p0 p1 k0 (w64 (x2 + 1))) else none) else none) else some (.inl ()))
def laws_rows9 (k : Nat) (p0 : List (List Int)) (p1 : List (List Int)) : Option (Bool) :=
 (if !decide ((p0.length : Int) = (p1.length : Int)) then some false else (laws_rows9_l0 k p0 p1 k 0 : Option (Sum (Unit) (Bool))).bind fun os8 => (match os8 with | .inl s8 => some true | .inr rr => some rr))
set_option maxRecDepth 100000 in
theorem laws_rows9_ac (k : Nat) (p0 : List (List Int)) (p1 : List (List Int)) (r : Bool) (h : laws_rows9 k p0 p1 = some r) : AC Try.prog 28 [.d (.sl none (rowsD p0)), .d (.sl none (rowsD p1))] [] (fun res H' => res = [bV r] ∧ H' = []) := by
 refine AC_of_body true Try.func28 rfl Try.ntmps28 (rvs := [.tmp 4]) rfl rfl (fun G hG => ?_)
 have hm : G.H.length = 0 := by rw [hG]; rfl
 have hz : zeroG G.H = true := by rw [hG]; rfl
 unfold laws_rows9 at h
 refine kR ?_
 refine kN 1 rfl ?_
 refine ACode_seq ?_
 refine kR ?_
 refine kM 1 rfl ?_
 refine AOps_q 7 _ rfl rfl rfl (QOp_len_sl _ _ _ _ _ _ _ (rowsD_length _) rfl rfl rfl rfl Try.underlying45 rfl) ?_
 refine kM 1 rfl ?_
 refine AOps_q 9 _ rfl rfl rfl (QOp_len_sl _ _ _ _ _ _ _ (rowsD_length _) rfl rfl rfl rfl Try.underlying45 rfl) ?_
 refine AOps_q 10 _ rfl rfl rfl (QOp_neq _ _ _ _ _ _ _ rfl rfl rfl) ?_
 refine AOps_nil ?_
 refine kI h rfl (fun h _ => ?_) (fun h _ => ?_)
 ·refine kR ?_
  refine kN 1 rfl ?_
  refine ACode_ret ?_
  cases h
  exact ⟨_, _, fun r a w h => ⟨r, h⟩, _, _, [], _, (.cons (ResV_tmp _ _ rfl) .nil), rfl, rfl, rfl, rfl, rfl⟩
 refine ACode_skip ?_
 refine kO (fun s8 => []) (fun s8 => []) h (fun os8 h hks8 => ?_) (fun s8 h => ?_)
 ·refine kR ?_
  refine kN 1 rfl ?_
  refine ACode_block ?_
  refine ACode_loopW (fun k0 E H => ∃ (x2 : Int), E = [(0, .d (.sl none (rowsD p0))), (1, .d (.sl none (rowsD p1))), (5, iV x2)] ∧ H = [] ∧ laws_rows9_l0 k p0 p1 k0 x2 = some os8) k _ _ (Weak_keep 0 hm [0, 1, 5] [] _ _ rfl rfl rfl) ⟨_, rfl, rfl, h⟩ ?_
  clear h
  rintro k0 E H ⟨x2, rfl, rfl, h⟩
  cases k0 with
  | zero => cases (show (none : Option (Sum (Unit) (Bool))) = some _ from h)
  | succ k0 =>
   rw [laws_rows9_l0] at h
   refine ACode_seq ?_
   refine kR ?_
   refine kM 2 rfl ?_
   refine AOps_q 13 _ rfl rfl rfl (QOp_len_sl _ _ _ _ _ _ _ (rowsD_length _) rfl rfl rfl rfl Try.underlying45 rfl) ?_
   refine AOps_q 14 _ rfl rfl rfl (QOp_lss _ _ _ _ _ _ _ rfl rfl rfl) ?_
   refine AOps_nil ?_
   refine kI h rfl (fun h _ => ?_) (fun h _ => ?_)
   ·refine ACode_skip ?_
    refine ACode_seq ?_
    refine ACode_block ?_
    refine ACode_seq (ACode_quiet mixed (by kernel_rfl) ?_)
    refine kQ 2 rfl ?_
    obtain ⟨hc4, h⟩ := guardO h
    refine AQ_q 19 _ rfl rfl rfl (QOp_indexAddr_sl _ _ _ _ _ _ _ _ rfl Try.underlying45 Try.sizeOf24 hc4.1 (by rw [rowsD_length]; exact hc4.2) rfl rfl) ?_
    refine AQ_q 20 _ rfl rfl rfl (QOp_load_pv _ _ _ _ _ rfl Try.isAgg24 rfl (rowsD_get _ _ [] (by omega))) ?_
    refine kQ 2 rfl ?_
    obtain ⟨hc5, h⟩ := guardO h
    refine AQ_q 23 _ rfl rfl rfl (QOp_indexAddr_sl _ _ _ _ _ _ _ _ rfl Try.underlying45 Try.sizeOf24 hc5.1 (by rw [rowsD_length]; exact hc5.2) rfl rfl) ?_
    refine AQ_q 24 _ rfl rfl rfl (QOp_load_pv _ _ _ _ _ rfl Try.isAgg24 rfl (rowsD_get _ _ [] (by omega))) ?_
    obtain ⟨r6, hr6, h⟩ := bindO h
    refine AQ_call 25 _ _ _ _ _ _ _ _ _ rfl rfl rfl rfl rfl rfl rfl Try.call16 rfl rfl rfl (laws_likeInts_ac k (p0.getD x2.toNat []) (p1.getD x2.toNat []) _ hr6) ?_
    refine AQ_q 26 _ rfl rfl rfl (QOp_not _ _ _ rfl rfl) ?_
    refine AQ_nil ?_
    refine kI h rfl (fun h _ => ?_) (fun h _ => ?_)
    ·refine kR ?_
     refine kN 1 rfl ?_
     refine ACode_ret ?_
     cases h
     have h := hks8
     cases h
     exact ⟨_, _, fun r a w h => ⟨r, h⟩, _, _, [], _, (.cons (ResV_tmp _ _ rfl) .nil), rfl, rfl, rfl, rfl, rfl⟩
    refine ACode_skip ?_
    refine (ACode_region ?_)
    refine kM 1 rfl ?_
    refine AOps_q 16 _ rfl rfl rfl (QOp_add _ _ _ _ _ _ _ rfl rfl rfl) ?_
    refine kN 1 rfl ?_
    exact ⟨k0, _, _, Nat.lt_succ_self _, Weak_keep 0 hm [0, 1, 5] [] _ _ rfl rfl rfl, _, rfl, rfl, h⟩
   refine ACode_exit ?_
   cases h
   exact ⟨_, rfl, Weak_keep 0 hm [] [] _ _ rfl rfl rfl⟩
 refine kR ?_
 refine kN 1 rfl ?_
 refine ACode_ret ?_
 cases h
 exact ⟨_, _, fun r a w h => ⟨r, h⟩, _, _, [], _, (.cons (ResV_tmp _ _ rfl) .nil), rfl, rfl, rfl, rfl, rfl⟩

-- (*loop.example/g01362/impl.Colouring).greatest$1
def impl_Colouring_greatest_c1 (p0 : List Int) (p1 : List Int) : Bool × List Int :=
 letO (if decide ((p1.length : Int) < (p0.length : Int)) then p0 else p1) fun (s2 : List Int) => (true, s2)
set_option maxRecDepth 100000 in
theorem impl_Colouring_greatest_c1_ac (p0 : List Int) (p1 : List Int) : AC Try.prog 195 [.d (.sl none (intsD p0)), .ptr 0 0] [.box [.sl none (intsD p1)]] (fun res H' => res = [bV ((impl_Colouring_greatest_c1 p0 p1).1)] ∧ H' = [.box [.sl none (intsD ((impl_Colouring_greatest_c1 p0 p1).2))]]) := by
 refine AC_of_body true Try.func195 rfl Try.ntmps195 (rvs := [.tmp 3]) rfl rfl (fun G hG => ?_)
 have hm : G.H.length = 1 := by rw [hG]; rfl
 have hz : zeroG G.H = true := by rw [hG]; rfl
 obtain ⟨r, h⟩ : ∃ r, impl_Colouring_greatest_c1 p0 p1 = r := ⟨_, rfl⟩
 rw [h]
 unfold impl_Colouring_greatest_c1 at h
 refine kR ?_
 refine kN 1 rfl ?_
 refine kL (fun s2 => []) (fun s2 => [.box [.sl none (intsD s2)]]) h (fun s2 h => ?_) (fun s2 h => ?_)
 ·refine kR ?_
  refine kM 1 rfl ?_
  refine AOps_q 5 _ rfl rfl rfl (QOp_len_sl _ _ _ _ _ _ _ (intsD_length _) rfl rfl rfl rfl Try.underlying24 rfl) ?_
  refine AOps_q 6 _ rfl rfl rfl (QOp_load_ptr _ _ _ _ _ _ rfl Try.isAgg24 rfl rfl rfl) ?_
  refine AOps_q 7 _ rfl rfl rfl (QOp_len_sl _ _ _ _ _ _ _ (intsD_length _) rfl rfl rfl rfl Try.underlying24 rfl) ?_
  refine AOps_q 8 _ rfl rfl rfl (QOp_gtr _ _ _ _ _ _ _ rfl rfl rfl) ?_
  refine AOps_nil ?_
  refine kI h rfl (fun h _ => ?_) (fun h _ => ?_)
  ·refine (ACode_region ?_)
   refine kM 1 rfl ?_
   refine AOps_store1 _ _ _ _ _ _ _ _ rfl rfl rfl rfl rfl rfl rfl Try.sizeOf24 (Nat.le_of_ble_eq_true rfl) rfl ?_
   refine AOps_nil ?_
   cases h
   exact Weak_keep 1 hm [] [] _ _ rfl rfl rfl
  refine ACode_skip ?_
  cases h
  exact Weak_keep 1 hm [] [] _ _ rfl rfl rfl
 refine kR ?_
 refine kN 1 rfl ?_
 refine ACode_ret ?_
 cases h
 exact ⟨_, _, fun r a w h => ⟨r, h⟩, _, _, [], _, (.cons (ResV_tmp _ _ rfl) .nil), rfl, rfl, rfl, rfl, rfl⟩

-- (*loop.example/g01362/impl.Colouring).cliques
def impl_Colouring_cliques_on_greatest_c1_l0 (k : Nat) (self : Col → Int → (List Int) → (List Int) → Option (Bool × List Int)) (p0 : Col) (p1 : Int) (p2 : List Int) : Nat → Int → (List Int) → Option (Sum (List Int) (Bool × List Int))
 | 0, _, _ => none
 | k0 + 1, x6, x7 => (if decide (x6 < p0.p) then (((impl_Colouring_goesWith k p0 p1 p2 x6).bind fun r9 => (if r9 then (if p2.isEmpty then (if ([x6]).length ≤ 1099511627776 ∧ ([x6]).length ≠ 0 then (self p0 p1 ([x6]) x7).bind fun r14 => some (!r14.1, r14.2) else none) else (cloneA p2).bind fun r15 => (if r15.length + ([x6]).length ≤ 1099511627776 then (self p0 p1 (r15 ++ ([x6])) x7).bind fun r17 => some (!r17.1, r17.2) else none)) else some (false, x7)) : Option (Bool × List Int)).bind fun s18 => (if s18.1 then (some (.inr (false, s18.2))).bind fun rr => some (.inr rr) else some (.inl s18.2)) : Option (Sum (List Int) (Sum (List Int) (Bool × List Int)))).bind fun os20 => (match os20 with | .inl s20 => impl_Colouring_cliques_on_greatest_c1_l0 k self p0 p1 p2 k0 (w64 (x6 + 1)) s20 | .inr rr => some rr) else some (.inl x7))
def impl_Colouring_cliques_on_greatest_c1_body (self : Col → Int → (List Int) → (List Int) → Option (Bool × List Int)) (k : Nat) (p0 : Col) (p1 : Int) (p2 : List Int) (p3_0 : List Int) : Option (Bool × List Int) :=
 (if !((impl_Colouring_greatest_c1 p2 p3_0).1) then some (false, (impl_Colouring_greatest_c1 p2 p3_0).2) else ((if decide (0 < (p2.length : Int)) then (if 0 ≤ w64 ((p2.length : Int) - 1) ∧ w64 ((p2.length : Int) - 1) < (p2.length : Int) then some (w64 ((p2.getD (w64 ((p2.length : Int) - 1)).toNat 0) + 1)) else none) else some 0) : Option (Int)).bind fun s5 => (impl_Colouring_cliques_on_greatest_c1_l0 k self p0 p1 p2 k s5 ((impl_Colouring_greatest_c1 p2 p3_0).2) : Option (Sum (List Int) (Bool × List Int))).bind fun os21 => (match os21 with | .inl s21 => some (true, s21) | .inr rr => some rr))
def impl_Colouring_cliques_on_greatest_c1 : Nat → Col → Int → (List Int) → (List Int) → Option (Bool × List Int)
 | 0, _, _, _, _ => none
 | k + 1, p0, p1, p2, p3_0 => impl_Colouring_cliques_on_greatest_c1_body (impl_Colouring_cliques_on_greatest_c1 k) k p0 p1 p2 p3_0
set_option maxRecDepth 100000 in
theorem impl_Colouring_cliques_on_greatest_c1_ac (k : Nat) (p0 : Col) (p1 : Int) (p2 : List Int) (p3_0 : List Int) (r : Bool × List Int) (h : impl_Colouring_cliques_on_greatest_c1 k p0 p1 p2 p3_0 = some r) : AC Try.prog 191 [.d (.pv (colD p0) 0), iV p1, .d (.sl none (intsD p2)), .clo 195 [.ptr 0 0]] [.box [.sl none (intsD p3_0)]] (fun res H' => res = [bV r.1] ∧ H' = [.box [.sl none (intsD r.2)]]) := by
 induction k generalizing p0 p1 p2 p3_0 r with
 | zero => simp [impl_Colouring_cliques_on_greatest_c1] at h
 | succ k ih =>
  rw [impl_Colouring_cliques_on_greatest_c1] at h
  obtain ⟨self, hself, hk⟩ : ∃ self : Col → Int → (List Int) → (List Int) → Option (Bool × List Int), (∀ (p0 : Col) (p1 : Int) (p2 : List Int) (p3_0 : List Int) (r : Bool × List Int), self p0 p1 p2 p3_0 = some r → AC Try.prog 191 [.d (.pv (colD p0) 0), iV p1, .d (.sl none (intsD p2)), .clo 195 [.ptr 0 0]] [.box [.sl none (intsD p3_0)]] (fun res H' => res = [bV r.1] ∧ H' = [.box [.sl none (intsD r.2)]])) ∧ impl_Colouring_cliques_on_greatest_c1 k = self := ⟨impl_Colouring_cliques_on_greatest_c1 k, fun p0 p1 p2 p3_0 r h => ih p0 p1 p2 p3_0 r h, rfl⟩
  rw [hk] at h
  clear ih hk
  refine AC_of_body true Try.func191 rfl Try.ntmps191 (rvs := [.tmp 8]) rfl rfl (fun G hG => ?_)
  have hm : G.H.length = 1 := by rw [hG]; rfl
  have hz : zeroG G.H = true := by rw [hG]; rfl
  unfold impl_Colouring_cliques_on_greatest_c1_body at h
  refine kR ?_
  refine kN 1 rfl ?_
  refine ACode_seq ?_
  refine kR ?_
  refine kM 2 rfl ?_
  refine kC [0] 13 (bV ((impl_Colouring_greatest_c1 p2 p3_0).1)) [.box [.sl none (intsD ((impl_Colouring_greatest_c1 p2 p3_0).2))]] rfl Try.call195 rfl rfl (impl_Colouring_greatest_c1_ac p2 p3_0) rfl ?_
  refine AOps_q 14 _ rfl rfl rfl (QOp_not _ _ _ rfl rfl) ?_
  refine AOps_nil ?_
  refine kI h rfl (fun h _ => ?_) (fun h _ => ?_)
  ·refine kR ?_
   refine kN 1 rfl ?_
   refine ACode_ret ?_
   cases h
   exact ⟨_, _, fun r a w h => ⟨r, h⟩, _, _, [], _, (.cons (ResV_tmp _ _ rfl) .nil), rfl, rfl, rfl, rfl, rfl⟩
  refine ACode_skip ?_
  refine kR ?_
  refine kN 1 rfl ?_
  refine kB (fun s5 => [(0, .d (.pv (colD p0) 0)), (1, iV p1), (2, .d (.sl none (intsD p2))), (3, .clo 195 [.ptr 0 0]), (9, iV s5)]) (fun s5 => [.box [.sl none (intsD ((impl_Colouring_greatest_c1 p2 p3_0).2))]]) h (fun s5 h => ?_) (fun s5 h => ?_)
  ·refine kR ?_
   refine kM 1 rfl ?_
   refine AOps_q 16 _ rfl rfl rfl (QOp_len_sl _ _ _ _ _ _ _ (intsD_length _) rfl rfl rfl rfl Try.underlying24 rfl) ?_
   refine AOps_q 17 _ rfl rfl rfl (QOp_gtr _ _ _ _ _ _ _ rfl rfl rfl) ?_
   refine AOps_nil ?_
   refine kI h rfl (fun h _ => ?_) (fun h _ => ?_)
   ·refine (ACode_region ?_)
    refine kM 2 rfl ?_
    refine AOps_q 20 _ rfl rfl rfl (QOp_len_sl _ _ _ _ _ _ _ (intsD_length _) rfl rfl rfl rfl Try.underlying24 rfl) ?_
    refine AOps_q 21 _ rfl rfl rfl (QOp_sub _ _ _ _ _ _ _ rfl rfl rfl) ?_
    obtain ⟨hc4, h⟩ := guardO h
    refine AOps_q 22 _ rfl rfl rfl (QOp_indexAddr_sl _ _ _ _ _ _ _ _ rfl Try.underlying24 Try.sizeOf2 hc4.1 (by rw [intsD_length]; exact hc4.2) rfl rfl) ?_
    refine AOps_q 23 _ rfl rfl rfl (QOp_load_pv _ _ _ _ _ rfl Try.isAgg2 rfl (intsD_get _ _ 0 (by omega))) ?_
    refine AOps_q 24 _ rfl rfl rfl (QOp_add _ _ _ _ _ _ _ rfl rfl rfl) ?_
    refine kN 1 rfl ?_
    cases h
    exact Weak_keep 1 hm [0, 1, 2, 3, 9] [] _ _ rfl rfl rfl
   refine ACode_skip ?_
   cases h
   exact Weak_keep 1 hm [0, 1, 2, 3, 9] [] _ _ rfl rfl rfl
  refine kO (fun s21 => []) (fun s21 => [.box [.sl none (intsD s21)]]) h (fun os21 h hks21 => ?_) (fun s21 h => ?_)
  ·refine kR ?_
   refine kN 2 rfl ?_
   refine ACode_block ?_
   refine ACode_loopW (fun k0 E H => ∃ (x6 : Int) (x7 : List Int), E = [(0, .d (.pv (colD p0) 0)), (1, iV p1), (2, .d (.sl none (intsD p2))), (3, .clo 195 [.ptr 0 0]), (10, iV x6)] ∧ H = [.box [.sl none (intsD x7)]] ∧ impl_Colouring_cliques_on_greatest_c1_l0 k self p0 p1 p2 k0 x6 x7 = some os21) k _ _ (Weak_keep 1 hm [0, 1, 2, 3, 10] [] _ _ rfl rfl rfl) ⟨_, _, rfl, rfl, h⟩ ?_
   clear h
   rintro k0 E H ⟨x6, x7, rfl, rfl, h⟩
   cases k0 with
   | zero => cases (show (none : Option (Sum (List Int) (Bool × List Int))) = some _ from h)
   | succ k0 =>
    rw [impl_Colouring_cliques_on_greatest_c1_l0] at h
    refine ACode_seq ?_
    refine kR ?_
    refine kM 2 rfl ?_
    refine AOps_q 28 _ rfl rfl rfl (QOp_nilCheck_pv _ _ _ rfl rfl) ?_
    refine AOps_q 29 _ rfl rfl rfl (QOp_fieldAddr_pv _ _ _ _ _ 0 _ _ rfl Try.underlying29 rfl _ Try.sizeOf2 rfl rfl) ?_
    refine AOps_q 30 _ rfl rfl rfl (QOp_load_pv _ _ _ _ _ rfl Try.isAgg2 rfl rfl) ?_
    refine AOps_q 31 _ rfl rfl rfl (QOp_lss _ _ _ _ _ _ _ rfl rfl rfl) ?_
    refine AOps_nil ?_
    refine kI h rfl (fun h _ => ?_) (fun h _ => ?_)
    ·refine ACode_skip ?_
     refine kO (fun s20 => [(0, .d (.pv (colD p0) 0)), (1, iV p1), (2, .d (.sl none (intsD p2))), (3, .clo 195 [.ptr 0 0]), (10, iV x6)]) (fun s20 => [.box [.sl none (intsD s20)]]) h (fun os20 h hks20 => ?_) (fun s20 h => ?_)
     ·refine ACode_block ?_
      refine kB (fun s18 => [(0, .d (.pv (colD p0) 0)), (1, iV p1), (2, .d (.sl none (intsD p2))), (3, .clo 195 [.ptr 0 0]), (10, iV x6), (50, bV s18.1)]) (fun s18 => [.box [.sl none (intsD s18.2)]]) h (fun s18 h => ?_) (fun s18 h => ?_)
      ·refine (ACode_region ?_)
       refine kM 4 rfl ?_
       obtain ⟨r9, hr9, h⟩ := bindO h
       refine kC [] 38 (bV r9) [.box [.sl none (intsD x7)]] rfl Try.call138 rfl rfl (impl_Colouring_goesWith_ac k p0 p1 p2 x6 _ hr9) rfl ?_
       refine kM 1 rfl ?_
       refine AOps_case 39 _ rfl (fun hb10 => ?_) (fun hb10 => ?_)
       ·have h := iteT hb10 h
        refine kM 3 rfl ?_
        refine bsplit (p2.isEmpty) (fun hb11 => ?_) (fun hb11 => ?_)
        ·have h := iteT hb11 h
         refine kC [] 43 (.d (.se none)) [.box [.sl none (intsD x7)]] rfl Try.call96 rfl rfl (cloneB_ac p2 hb11) rfl ?_
         refine kM 1 rfl ?_
         refine AOps_buildSlice 45 _ _ _ [_] (intsD ([x6])) _ rfl rfl rfl rfl rfl (by decide) Try.underlying24 Try.sizeOf2 (zero_of Try.typeInfo2 rfl) rfl rfl (intsD_one _) ?_
         obtain ⟨hc13, h⟩ := guardO h
         refine AOps_append0 46 _ _ _ _ _ _ _ _ _ _ rfl rfl rfl rfl rfl rfl rfl Try.underlying24 Try.type2 rfl rfl rfl (by decide) rfl rfl rfl (intsD_one _) (by rw [intsD_length]; exact hc13.1) (by rw [intsD_length]; exact hc13.2) ?_
         refine kM 1 rfl ?_
         refine AOps_freezeL [46] 2 0 _ (allc (rfl) (fun _ h => nomatch h)) rfl ?_
         obtain ⟨r14, hr14, h⟩ := bindO h
         refine kC [0] 48 (bV r14.1) [.box [.sl none (intsD r14.2)], .vec 0 (intsD ([x6])), .gone] rfl Try.call191 rfl rfl (hself p0 p1 ([x6]) x7 _ hr14) rfl ?_
         refine AOps_q 49 _ rfl rfl rfl (QOp_not _ _ _ rfl rfl) ?_
         refine kN 1 rfl ?_
         cases h
         exact Weak_keep 1 hm [0, 1, 2, 3, 10, 50] [] _ _ rfl rfl rfl
        have h := iteF hb11 h
        obtain ⟨r15, hr15, h⟩ := bindO h
        refine kC [] 43 (.vec 1 0) [.box [.sl none (intsD x7)], .vec 0 (intsD r15)] rfl Try.call96 rfl rfl (cloneA_ac p2 _ hb11 hr15) rfl ?_
        refine kM 1 rfl ?_
        refine AOps_buildSlice 45 _ _ _ [_] (intsD ([x6])) _ rfl rfl rfl rfl rfl (by decide) Try.underlying24 Try.sizeOf2 (zero_of Try.typeInfo2 rfl) rfl rfl (intsD_one _) ?_
        obtain ⟨hc16, h⟩ := guardO h
        refine AOps_append 46 _ _ _ _ _ _ _ _ _ _ _ _ rfl rfl rfl rfl rfl rfl rfl Try.underlying24 Try.type2 rfl rfl rfl (by decide) rfl rfl rfl rfl (intsD_one _) (by rw [intsD_length, intsD_length]; exact hc16) ?_
        rw [intsD_app]
        refine kM 1 rfl ?_
        refine AOps_freezeL [46] 1 1 _ (allc (rfl) (fun _ h => nomatch h)) rfl ?_
        obtain ⟨r17, hr17, h⟩ := bindO h
        refine kC [0] 48 (bV r17.1) [.box [.sl none (intsD r17.2)], .gone, .vec 0 (intsD ([x6]))] rfl Try.call191 rfl rfl (hself p0 p1 (r15 ++ ([x6])) x7 _ hr17) rfl ?_
        refine AOps_q 49 _ rfl rfl rfl (QOp_not _ _ _ rfl rfl) ?_
        refine kN 1 rfl ?_
        cases h
        exact Weak_keep 1 hm [0, 1, 2, 3, 10, 50] [] _ _ rfl rfl rfl
       have h := iteF hb10 h
       refine AOps_skip 40 rfl rfl rfl ?_
       refine AOps_skip 41 rfl rfl rfl ?_
       refine AOps_skip 42 rfl rfl rfl ?_
       refine AOps_skip 43 rfl rfl rfl ?_
       refine AOps_skip 44 rfl rfl rfl ?_
       refine AOps_skip 45 rfl rfl rfl ?_
       refine AOps_skip 46 rfl rfl rfl ?_
       refine AOps_skip 47 rfl rfl rfl ?_
       refine AOps_skip 48 rfl rfl rfl ?_
       refine AOps_skip 49 rfl rfl rfl ?_
       refine kN 1 rfl ?_
       cases h
       exact Weak_keep 1 hm [0, 1, 2, 3, 10, 50] [] _ _ rfl rfl rfl
      refine kI h rfl (fun h _ => ?_) (fun h _ => ?_)
      ·refine kR ?_
       refine kN 1 rfl ?_
       refine ACode_ret ?_
       obtain ⟨rr, hz22, h2⟩ := bindO h
       obtain rfl := Option.some.inj h2
       obtain rfl := Option.some.inj (show some rr = some _ from hks20)
       have h := hz22
       cases h
       have h := hks21
       cases h
       exact ⟨_, _, fun r a w h => ⟨r, h⟩, _, _, [], _, (.cons (ResV_tmp _ _ rfl) .nil), rfl, rfl, rfl, rfl, rfl⟩
      refine ACode_skip ?_
      cases h
      exact ⟨_, rfl, Weak_keep 1 hm [0, 1, 2, 3, 10] [] _ _ rfl rfl rfl⟩
     refine (ACode_region ?_)
     refine kM 1 rfl ?_
     refine AOps_q 33 _ rfl rfl rfl (QOp_add _ _ _ _ _ _ _ rfl rfl rfl) ?_
     refine kN 1 rfl ?_
     exact ⟨k0, _, _, Nat.lt_succ_self _, Weak_keep 1 hm [0, 1, 2, 3, 10] [] _ _ rfl rfl rfl, _, _, rfl, rfl, h⟩
    refine ACode_exit ?_
    cases h
    exact ⟨_, rfl, Weak_keep 1 hm [] [] _ _ rfl rfl rfl⟩
  refine kR ?_
  refine kN 1 rfl ?_
  refine ACode_ret ?_
  cases h
  exact ⟨_, _, fun r a w h => ⟨r, h⟩, _, _, [], _, (.cons (ResV_tmp _ _ rfl) .nil), rfl, rfl, rfl, rfl, rfl⟩

-- (*loop.example/g01362/impl.Colouring).greatest
def impl_Colouring_greatest (k : Nat) (p0 : Col) (p1 : Int) : Option (List Int) :=
 (impl_Colouring_cliques_on_greatest_c1 k p0 p1 ([]) ([] : List Int)).bind fun r1 => some r1.2
set_option maxRecDepth 100000 in
theorem impl_Colouring_greatest_ac (k : Nat) (p0 : Col) (p1 : Int) (r : List Int) (h : impl_Colouring_greatest k p0 p1 = some r) : AC Try.prog 116 [.d (.pv (colD p0) 0), iV p1] [] (fun res H' => res = [.d (.sl none (intsD r))] ∧ H' = []) := by
 refine AC_of_body true Try.func116 rfl Try.ntmps116 (rvs := [.tmp 4]) rfl rfl (fun G hG => ?_)
 have hm : G.H.length = 0 := by rw [hG]; rfl
 have hz : zeroG G.H = true := by rw [hG]; rfl
 unfold impl_Colouring_greatest at h
 refine kR ?_
 refine kN 1 rfl ?_
 refine kR ?_
 refine AOps_buildSlice 6 _ _ _ [] (intsD ([] : List Int)) _ rfl rfl rfl rfl rfl (by decide) Try.underlying24 Try.sizeOf2 (zero_of Try.typeInfo2 rfl) rfl rfl (intsD_one _) ?_
 refine AOps_alloc 5 _ _ ([.sl (some true) []]) (zero_of Try.typeInfo24 rfl) (by rfl) rfl rfl rfl rfl ?_
 refine AOps_freeze 6 0 0 _ rfl rfl ?_
 refine AOps_store1 _ _ _ _ _ _ _ _ rfl rfl rfl rfl rfl rfl rfl Try.sizeOf24 (Nat.le_of_ble_eq_true rfl) rfl ?_
 refine AOps_nil ?_
 refine kR ?_
 refine kM 2 rfl ?_
 refine AOps_q 9 _ rfl rfl rfl (QOp_makeFunc _ _ _ rfl rfl) ?_
 obtain ⟨r1, hr1, h⟩ := bindO h
 refine kC [1] 10 (bV r1.1) [.gone, .box [.sl none (intsD r1.2)]] rfl Try.call191 rfl rfl (impl_Colouring_cliques_on_greatest_c1_ac k p0 p1 ([]) ([] : List Int) _ hr1) rfl ?_
 refine AOps_nil ?_
 refine kR ?_
 refine AOps_q 11 _ rfl rfl rfl (QOp_load_ptr _ _ _ _ _ _ rfl Try.isAgg24 rfl rfl rfl) ?_
 refine kN 1 rfl ?_
 refine ACode_ret ?_
 cases h
 exact ⟨_, _, fun r a w h => ⟨r, h⟩, _, _, [], _, (.cons (ResV_tmp _ _ rfl) .nil), rfl, rfl, rfl, rfl, rfl⟩

-- (*loop.example/g01362/impl.Colouring).cliqueNumbers
def impl_Colouring_cliqueNumbers_l0 (k : Nat) (p0 : Col) : Nat → Int → (List Int) → Option (List Int)
 | 0, _, _ => none
 | k0 + 1, x1, x2 => (if decide (x1 < p0.k) then (impl_Colouring_greatest k p0 x1).bind fun r4 => (if x2.length + ([(impl_size r4)]).length ≤ 1099511627776 then impl_Colouring_cliqueNumbers_l0 k p0 k0 (w64 (x1 + 1)) (x2 ++ ([(impl_size r4)])) else none) else some x2)
def impl_Colouring_cliqueNumbers (k : Nat) (p0 : Col) : Option (List Int) :=
 (impl_Colouring_cliqueNumbers_l0 k p0 k 0 ([] : List Int) : Option (List Int)).bind fun s7 => some s7
set_option maxRecDepth 100000 in
theorem impl_Colouring_cliqueNumbers_ac (k : Nat) (p0 : Col) (r : List Int) (h : impl_Colouring_cliqueNumbers k p0 = some r) : AC Try.prog 142 [.d (.pv (colD p0) 0)] [] (fun res H' => res = [.vec 0 0] ∧ H' = [.vec 0 (intsD r)]) := by
 refine AC_of_body true Try.func142 rfl Try.ntmps142 (rvs := [.tmp 2]) rfl rfl (fun G hG => ?_)
 have hm : G.H.length = 0 := by rw [hG]; rfl
 have hz : zeroG G.H = true := by rw [hG]; rfl
 unfold impl_Colouring_cliqueNumbers at h
 refine kR ?_
 refine kN 1 rfl ?_
 refine kR ?_
 refine AOps_buildSlice 5 _ _ _ [] (intsD ([] : List Int)) _ rfl rfl rfl rfl rfl (by decide) Try.underlying24 Try.sizeOf2 (zero_of Try.typeInfo2 rfl) rfl rfl (intsD_one _) ?_
 refine kN 1 rfl ?_
 refine kB (fun s7 => [(3, .vec 0 0)]) (fun s7 => [.vec 0 (intsD s7)]) h (fun s7 h => ?_) (fun s7 h => ?_)
 ·refine kR ?_
  refine kM 1 rfl ?_
  refine AOps_q 7 _ rfl rfl rfl (QOp_nilCheck_pv _ _ _ rfl rfl) ?_
  refine AOps_q 8 _ rfl rfl rfl (QOp_fieldAddr_pv _ _ _ _ _ 1 _ _ rfl Try.underlying29 rfl _ Try.sizeOf2 rfl rfl) ?_
  refine AOps_q 9 _ rfl rfl rfl (QOp_load_pv _ _ _ _ _ rfl Try.isAgg2 rfl rfl) ?_
  refine kN 1 rfl ?_
  refine ACode_block ?_
  refine ACode_loopW (fun k0 E H => ∃ (x1 : Int) (x2 : List Int), E = [(0, .d (.pv (colD p0) 0)), (3, .vec 0 0), (9, iV p0.k), (10, iV x1)] ∧ H = [.vec 0 (intsD x2)] ∧ impl_Colouring_cliqueNumbers_l0 k p0 k0 x1 x2 = some s7) k _ _ (Weak_keep 0 hm [0, 3, 9, 10] [0] _ _ rfl rfl rfl) ⟨_, _, rfl, rfl, h⟩ ?_
  clear h
  rintro k0 E H ⟨x1, x2, rfl, rfl, h⟩
  cases k0 with
  | zero => cases (show (none : Option (List Int)) = some _ from h)
  | succ k0 =>
   rw [impl_Colouring_cliqueNumbers_l0] at h
   refine kR ?_
   refine AOps_q 11 _ rfl rfl rfl (QOp_lss _ _ _ _ _ _ _ rfl rfl rfl) ?_
   refine AOps_nil ?_
   refine ACode_seq ?_
   refine kI h rfl (fun h _ => ?_) (fun h _ => ?_)
   ·refine ACode_skip ?_
    refine ACode_seq ?_
    refine ACode_block ?_
    refine kR ?_
    refine kN 2 rfl ?_
    refine (ACode_region ?_)
    refine kM 3 rfl ?_
    obtain ⟨r4, hr4, h⟩ := bindO h
    refine kC [] 16 (.d (.sl none (intsD r4))) [.vec 0 (intsD x2)] rfl Try.call116 rfl rfl (impl_Colouring_greatest_ac k p0 x1 _ hr4) rfl ?_
    refine kC [] 17 (iV (impl_size r4)) [.vec 0 (intsD x2)] rfl Try.call106 rfl rfl (impl_size_ac r4) rfl ?_
    refine AOps_buildSlice 18 _ _ _ [_] (intsD ([(impl_size r4)])) _ rfl rfl rfl rfl rfl (by decide) Try.underlying24 Try.sizeOf2 (zero_of Try.typeInfo2 rfl) rfl rfl (intsD_one _) ?_
    obtain ⟨hc6, h⟩ := guardO h
    refine AOps_append 19 _ _ _ _ _ _ _ _ _ _ _ _ rfl rfl rfl rfl rfl rfl rfl Try.underlying24 Try.type2 rfl rfl rfl (by decide) rfl rfl rfl rfl (intsD_one _) (by rw [intsD_length, intsD_length]; exact hc6) ?_
    rw [intsD_app]
    refine kN 1 rfl ?_
    refine (ACode_region ?_)
    refine AOps_q 20 _ rfl rfl rfl (QOp_add _ _ _ _ _ _ _ rfl rfl rfl) ?_
    refine kN 1 rfl ?_
    exact ⟨k0, _, _, Nat.lt_succ_self _, Weak_trans (Weak_keep 0 hm [0, 3, 9, 10] [0] _ _ rfl rfl rfl) (Weak_reset 0 hm hz [0, 3, 9, 10] _ _ rfl rfl), _, _, rfl, rfl, h⟩
   refine ACode_exit ?_
   cases h
   exact Weak_keep 0 hm [3] [0] _ _ rfl rfl rfl
 refine kR ?_
 refine kN 2 rfl ?_
 refine ACode_ret ?_
 cases h
 exact ⟨_, _, Weak_reset 0 hm hz [2] _ _ rfl rfl, _, _, [0], _, (.cons (ResV_tmp _ _ rfl) .nil), rfl, rfl, rfl, rfl, rfl⟩

-- loop.example/g01362/impl.CliqueNumbers
def impl_CliqueNumbers (k : Nat) (p0 : Col) : Option (Option (List Int) × Int) :=
 (impl_Colouring_code k p0 (some (impl_always))).bind fun r1 => (if !decide (r1 = 0) then some (none, r1) else (impl_Colouring_cliqueNumbers k p0).bind fun r3 => some (some r3, 0))
set_option maxRecDepth 100000 in
theorem impl_CliqueNumbers_ac (k : Nat) (p0 : Col) (r : Option (List Int) × Int) (h : impl_CliqueNumbers k p0 = some r) : AC Try.prog 51 [.d (.agg (colD p0))] [] (fun res H' => res = [ownA 0 (r.1.map intsD), iV r.2] ∧ H' = [] ++ ownH (r.1.map intsD)) := by
 refine AC_of_body false Try.func51 rfl Try.ntmps51 (rvs := [.tmp 2, .tmp 3]) rfl rfl (fun G hG => ?_)
 have hm : G.H.length = 0 := by rw [hG]; rfl
 have hz : zeroG G.H = true := by rw [hG]; rfl
 unfold impl_CliqueNumbers at h
 refine kR ?_
 refine AOps_boxI 1 _ _ (.agg (colD p0)) (colD p0) rfl (colD_one _) rfl rfl rfl rfl rfl ?_
 refine kN 2 rfl ?_
 refine ACode_seq ?_
 refine kR ?_
 obtain ⟨r1, hr1, h⟩ := bindO h
 refine kC [] 5 (iV r1) [] rfl Try.call83 rfl rfl (impl_Colouring_code_ac k p0 (some (impl_always)) 89 ([]) Try.call89 (fun r h => by cases h; exact impl_always_ac) _ hr1) rfl ?_
 refine kN 1 rfl ?_
 refine kR ?_
 refine kM 1 rfl ?_
 refine AOps_q 7 _ rfl rfl rfl (QOp_neq _ _ _ _ _ _ _ rfl rfl rfl) ?_
 refine AOps_nil ?_
 refine kI h rfl (fun h _ => ?_) (fun h _ => ?_)
 ·refine kR ?_
  refine kN 3 rfl ?_
  refine ACode_ret ?_
  cases h
  exact ⟨_, _, fun r a w h => ⟨r, h⟩, _, _, [], _, (.cons (ResV_tmp _ _ rfl) (.cons (ResV_tmp _ _ rfl) .nil)), rfl, rfl, rfl, rfl, rfl⟩
 refine ACode_skip ?_
 refine kR ?_
 obtain ⟨r3, hr3, h⟩ := bindO h
 refine kC [] 9 (.vec 0 0) [.vec 0 (intsD r3)] rfl Try.call142 rfl rfl (impl_Colouring_cliqueNumbers_ac k p0 _ hr3) rfl ?_
 refine kN 2 rfl ?_
 refine ACode_ret ?_
 cases h
 exact ⟨_, _, Weak_reset 0 hm hz [2, 3] _ _ rfl rfl, _, _, [0], _, (.cons (ResV_tmp _ _ rfl) (.cons (ResV_tmp _ _ rfl) .nil)), rfl, rfl, rfl, rfl, rfl⟩

-- loop.example/g01362/spec.l02Go
def spec_l02Go_l0 (self : (List Int) → (List Int) → Int → Int → (List (List Int)) → Int → Option (List (List Int))) (p0 : List Int) (p1 : List Int) (p2 : Int) (p3 : Int) (p5 : Int) : Nat → Int → (List (List Int)) → Option (List (List Int))
 | 0, _, _ => none
 | k0 + 1, x6, x7 => (letO (if decide (x6 < (p0.length : Int)) then decide ((x7.length : Int) < p5) else false) fun (s9 : Bool) => (if s9 then some (.inl ()) else (some x7).bind fun rr => some (.inr rr)) : Option (Sum (Unit) (List (List Int)))).bind fun os11 => (match os11 with | .inl s11 => ((if 0 ≤ IntKind.u64.wrap x6 then (if decide (bAnd .i64 (bShr .i64 p2 (IntKind.u64.wrap x6)) 1 = 1) then (if 0 ≤ x6 ∧ x6 < (p0.length : Int) then (spec_l01Own p1).bind fun r15 => (if r15.length + ([x6]).length ≤ 1099511627776 then (if 0 ≤ IntKind.u64.wrap x6 then (if 0 ≤ IntKind.u64.wrap x6 then (self p0 (r15 ++ ([x6])) (bShl .i64 (bShr .i64 (bAnd .i64 p2 (p0.getD x6.toNat 0)) (IntKind.u64.wrap x6)) (IntKind.u64.wrap x6)) p3 x7 p5).bind fun r19 => some r19 else none) else none) else none) else none) else some x7) else none) : Option (List (List Int))).bind fun s20 => spec_l02Go_l0 self p0 p1 p2 p3 p5 k0 (w64 (x6 + 1)) s20 | .inr rr => some rr)
def spec_l02Go_body (self : (List Int) → (List Int) → Int → Int → (List (List Int)) → Int → Option (List (List Int))) (k : Nat) (p0 : List Int) (p1 : List Int) (p2 : Int) (p3 : Int) (p4 : List (List Int)) (p5 : Int) : Option (List (List Int)) :=
 (if decide ((p1.length : Int) = p3) then (spec_l01Own p1).bind fun r2 => (if p4.length + ([r2]).length ≤ 1099511627776 then some (p4 ++ ([r2])) else none) else (spec_l01Ones k p2).bind fun r4 => (if decide (w64 ((p1.length : Int) + r4) < p3) then some p4 else (spec_l02Go_l0 self p0 p1 p2 p3 p5 k 0 p4 : Option (List (List Int))).bind fun s21 => some s21))
def spec_l02Go : Nat → (List Int) → (List Int) → Int → Int → (List (List Int)) → Int → Option (List (List Int))
 | 0, _, _, _, _, _, _ => none
 | k + 1, p0, p1, p2, p3, p4, p5 => spec_l02Go_body (spec_l02Go k) k p0 p1 p2 p3 p4 p5
set_option maxRecDepth 100000 in
theorem spec_l02Go_ac (k : Nat) (p0 : List Int) (p1 : List Int) (p2 : Int) (p3 : Int) (p4 : List (List Int)) (p5 : Int) (r : List (List Int)) (h : spec_l02Go k p0 p1 p2 p3 p4 p5 = some r) : AC Try.prog 193 [.d (.sl none (intsD p0)), .d (.sl none (intsD p1)), iV p2, iV p3, .vec 0 0, iV p5] [.vec 0 (rowsD p4)] (fun res H' => res = [.vec 0 1] ∧ H' = [.vec 1 (rowsD r)]) := by
 induction k generalizing p0 p1 p2 p3 p4 p5 r with
 | zero => simp [spec_l02Go] at h
 | succ k ih =>
  rw [spec_l02Go] at h
  obtain ⟨self, hself, hk⟩ : ∃ self : (List Int) → (List Int) → Int → Int → (List (List Int)) → Int → Option (List (List Int)), (∀ (p0 : List Int) (p1 : List Int) (p2 : Int) (p3 : Int) (p4 : List (List Int)) (p5 : Int) (r : List (List Int)), self p0 p1 p2 p3 p4 p5 = some r → AC Try.prog 193 [.d (.sl none (intsD p0)), .d (.sl none (intsD p1)), iV p2, iV p3, .vec 0 0, iV p5] [.vec 0 (rowsD p4)] (fun res H' => res = [.vec 0 1] ∧ H' = [.vec 1 (rowsD r)])) ∧ spec_l02Go k = self := ⟨spec_l02Go k, fun p0 p1 p2 p3 p4 p5 r h => ih p0 p1 p2 p3 p4 p5 r h, rfl⟩
  rw [hk] at h
  clear ih hk
  refine AC_of_body true Try.func193 rfl Try.ntmps193 (rvs := [.tmp 12]) rfl rfl (fun G hG => ?_)
  have hm : G.H.length = 1 := by rw [hG]; rfl
  have hz : zeroG G.H = true := by rw [hG]; rfl
  refine ACode_weak (Weak_ren 4 0 _ rfl rfl) ?_
  unfold spec_l02Go_body at h
  refine kR ?_
  refine kN 1 rfl ?_
  refine ACode_seq ?_
  refine kR ?_
  refine kM 1 rfl ?_
  refine AOps_q 15 _ rfl rfl rfl (QOp_len_sl _ _ _ _ _ _ _ (intsD_length _) rfl rfl rfl rfl Try.underlying24 rfl) ?_
  refine kM 1 rfl ?_
  refine AOps_q 17 _ rfl rfl rfl (QOp_eql _ _ _ _ _ _ _ rfl rfl rfl) ?_
  refine AOps_nil ?_
  refine kI h rfl (fun h _ => ?_) (fun h _ => ?_)
  ·refine kR ?_
   refine kM 2 rfl ?_
   obtain ⟨r2, hr2, h⟩ := bindO h
   refine kC [] 20 (.vec 1 0) [.vec 1 (rowsD p4), .vec 0 (intsD r2)] rfl Try.call227 rfl rfl (spec_l01Own_ac p1 _ hr2) rfl ?_
   refine AOps_freeze 20 1 0 _ rfl rfl ?_
   refine AOps_buildSlice 21 _ _ _ [_] (rowsD ([r2])) _ rfl rfl rfl rfl rfl (by decide) Try.underlying45 Try.sizeOf24 (zero_of Try.typeInfo24 rfl) rfl rfl (rowsD_one _) ?_
   obtain ⟨hc3, h⟩ := guardO h
   refine AOps_append 22 _ _ _ _ _ _ _ _ _ _ _ _ rfl rfl rfl rfl rfl rfl rfl Try.underlying45 Try.type24 rfl rfl rfl (by decide) rfl rfl rfl rfl (rowsD_one _) (by rw [rowsD_length, rowsD_length]; exact hc3) ?_
   rw [rowsD_app]
   refine kN 1 rfl ?_
   refine ACode_ret ?_
   cases h
   exact ⟨_, _, Weak_reset 1 hm hz [12] _ _ rfl rfl, _, _, [], _, (.cons (ResV_tmp _ _ rfl) .nil), rfl, rfl, rfl, rfl, rfl⟩
  refine ACode_skip ?_
  refine ACode_seq ?_
  refine kR ?_
  refine kM 1 rfl ?_
  refine AOps_q 24 _ rfl rfl rfl (QOp_len_sl _ _ _ _ _ _ _ (intsD_length _) rfl rfl rfl rfl Try.underlying24 rfl) ?_
  refine kM 1 rfl ?_
  obtain ⟨r4, hr4, h⟩ := bindO h
  refine kC [] 26 (iV r4) [.vec 1 (rowsD p4)] rfl Try.call132 rfl rfl (spec_l01Ones_ac k p2 _ hr4) rfl ?_
  refine AOps_q 27 _ rfl rfl rfl (QOp_add _ _ _ _ _ _ _ rfl rfl rfl) ?_
  refine kM 1 rfl ?_
  refine AOps_q 29 _ rfl rfl rfl (QOp_lss _ _ _ _ _ _ _ rfl rfl rfl) ?_
  refine AOps_nil ?_
  refine kI h rfl (fun h _ => ?_) (fun h _ => ?_)
  ·refine kR ?_
   refine kN 2 rfl ?_
   refine ACode_ret ?_
   cases h
   exact ⟨_, _, fun r a w h => ⟨r, h⟩, _, _, [], _, (.cons (ResV_tmp _ _ rfl) .nil), rfl, rfl, rfl, rfl, rfl⟩
  refine ACode_skip ?_
  refine kB (fun s21 => [(4, .vec 0 1)]) (fun s21 => [.vec 1 (rowsD s21)]) h (fun s21 h => ?_) (fun s21 h => ?_)
  ·refine kR ?_
   refine kN 1 rfl ?_
   refine ACode_block ?_
   refine ACode_loopW (fun k0 E H => ∃ (x6 : Int) (x7 : List (List Int)), E = [(0, .d (.sl none (intsD p0))), (1, .d (.sl none (intsD p1))), (2, iV p2), (3, iV p3), (4, .vec 0 1), (5, iV p5), (13, iV x6)] ∧ H = [.vec 1 (rowsD x7)] ∧ spec_l02Go_l0 self p0 p1 p2 p3 p5 k0 x6 x7 = some s21) k _ _ (Weak_keep 1 hm [0, 1, 2, 3, 4, 5, 13] [] _ _ rfl rfl rfl) ⟨_, _, rfl, rfl, h⟩ ?_
   clear h
   rintro k0 E H ⟨x6, x7, rfl, rfl, h⟩
   cases k0 with
   | zero => cases (show (none : Option (List (List Int))) = some _ from h)
   | succ k0 =>
    rw [spec_l02Go_l0] at h
    refine kO (fun s11 => [(0, .d (.sl none (intsD p0))), (1, .d (.sl none (intsD p1))), (2, iV p2), (3, iV p3), (4, .vec 0 1), (5, iV p5), (13, iV x6)]) (fun s11 => [.vec 1 (rowsD x7)]) h (fun os11 h hks11 => ?_) (fun s11 h => ?_)
    ·refine kL (fun s9 => [(0, .d (.sl none (intsD p0))), (1, .d (.sl none (intsD p1))), (2, iV p2), (3, iV p3), (4, .vec 0 1), (5, iV p5), (13, iV x6), (40, bV s9)]) (fun s9 => [.vec 1 (rowsD x7)]) h (fun s9 h => ?_) (fun s9 h => ?_)
     ·refine (ACode_region ?_)
      refine kM 2 rfl ?_
      refine AOps_q 33 _ rfl rfl rfl (QOp_len_sl _ _ _ _ _ _ _ (intsD_length _) rfl rfl rfl rfl Try.underlying24 rfl) ?_
      refine AOps_q 34 _ rfl rfl rfl (QOp_lss _ _ _ _ _ _ _ rfl rfl rfl) ?_
      refine kM 1 rfl ?_
      refine AOps_case 35 _ rfl (fun hb8 => ?_) (fun hb8 => ?_)
      ·have h := iteT hb8 h
       refine kM 1 rfl ?_
       refine AOps_q 37 _ rfl rfl rfl (QOp_len_vec _ _ _ _ _ _ _ _ (rowsD_length _) rfl rfl rfl rfl Try.underlying45 rfl rfl) ?_
       refine kM 1 rfl ?_
       refine AOps_q 39 _ rfl rfl rfl (QOp_lss _ _ _ _ _ _ _ rfl rfl rfl) ?_
       refine kN 1 rfl ?_
       cases h
       exact Weak_keep 1 hm [0, 1, 2, 3, 4, 5, 13, 40] [] _ _ rfl rfl rfl
      have h := iteF hb8 h
      refine AOps_skip 36 rfl rfl rfl ?_
      refine AOps_skip 37 rfl rfl rfl ?_
      refine AOps_skip 38 rfl rfl rfl ?_
      refine AOps_skip 39 rfl rfl rfl ?_
      refine kN 1 rfl ?_
      cases h
      exact Weak_keep 1 hm [0, 1, 2, 3, 4, 5, 13, 40] [] _ _ rfl rfl rfl
     refine kI h rfl (fun h _ => ?_) (fun h _ => ?_)
     ·refine ACode_skip ?_
      cases h
      exact ⟨_, rfl, Weak_keep 1 hm [0, 1, 2, 3, 4, 5, 13] [] _ _ rfl rfl rfl⟩
     refine ACode_exit ?_
     obtain ⟨rr, hz22, h2⟩ := bindO h
     obtain rfl := Option.some.inj h2
     obtain rfl := Option.some.inj (show some rr = some _ from hks11)
     have h := hz22
     cases h
     exact Weak_keep 1 hm [4] [] _ _ rfl rfl rfl
    refine kB (fun s20 => [(0, .d (.sl none (intsD p0))), (1, .d (.sl none (intsD p1))), (2, iV p2), (3, iV p3), (4, .vec 0 1), (5, iV p5), (13, iV x6)]) (fun s20 => [.vec 1 (rowsD s20)]) h (fun s20 h => ?_) (fun s20 h => ?_)
    ·refine ACode_block ?_
     refine kR ?_
     refine kM 2 rfl ?_
     refine AOps_q 45 _ rfl rfl rfl (QOp_conv _ _ _ _ _ _ rfl rfl Try.underlying106 rfl) ?_
     obtain ⟨hc12, h⟩ := guardO h
     refine AOps_q 46 _ rfl rfl rfl (QOp_shr _ _ _ _ _ _ _ _ hc12 rfl rfl rfl) ?_
     refine AOps_q 47 _ rfl rfl rfl (QOp_and _ _ _ _ _ _ _ rfl rfl rfl) ?_
     refine AOps_q 48 _ rfl rfl rfl (QOp_eql _ _ _ _ _ _ _ rfl rfl rfl) ?_
     refine AOps_nil ?_
     refine kI h rfl (fun h _ => ?_) (fun h _ => ?_)
     ·obtain ⟨hc14, h⟩ := guardO h
      obtain ⟨r15, hr15, h⟩ := bindO h
      obtain ⟨hc16, h⟩ := guardO h
      obtain ⟨hc17, h⟩ := guardO h
      obtain ⟨hc18, h⟩ := guardO h
      obtain ⟨r19, hr19, h⟩ := bindO h
      refine ACode_reg [(0, .d (.sl none (intsD p0))), (1, .d (.sl none (intsD p1))), (2, iV p2), (3, iV p3), (4, .vec 0 1), (5, iV p5), (13, iV x6)] [.vec 1 (rowsD r19)] ?_ ?_
      ·refine ACode_anyU mixed ?_
       refine AU_cut 2 #[true, true, true, true, true, true, true, true, true, true, true, true, true, true, true, true, true, true, true, true, true, false, false] [(0, .d (.sl none (intsD p0))), (1, .d (.sl none (intsD p1))), (2, iV p2), (3, iV p3), (4, .vec 0 1), (5, iV p5), (13, iV x6), (49, .d (.sl none (intsD p0))), (54, .vec 1 0), (66, iV (bShl .i64 (bShr .i64 (bAnd .i64 p2 (p0.getD x6.toNat 0)) (IntKind.u64.wrap x6)) (IntKind.u64.wrap x6))), (67, iV p3), (68, .vec 0 1), (69, iV p5)] [.vec 1 (rowsD x7), .vec 0 (intsD (r15 ++ ([x6])))] ?_ (fun hS0 => ?_)
       ·refine AU_one 21 (by kernel_rfl) rfl rfl ?_
        refine AOps_freezeL [54] 1 0 _ (allc (rfl) (fun _ h => nomatch h)) rfl ?_
        refine kC [0] 70 (.vec 0 2) [.vec 2 (rowsD r19), .gone] rfl Try.call193 rfl rfl (hself p0 (r15 ++ ([x6])) (bShl .i64 (bShr .i64 (bAnd .i64 p2 (p0.getD x6.toNat 0)) (IntKind.u64.wrap x6)) (IntKind.u64.wrap x6)) p3 x7 p5 _ hr19) rfl ?_
        refine AOps_nil ?_
        refine AU_u 22 4 _ rfl (by kernel_rfl) rfl rfl rfl (UOp_assign _ _ rfl rfl) ?_
        refine AU_done (by kernel_rfl) ?_
        exact ⟨rfl, Weak_trans (Weak_keep 1 hm [0, 1, 2, 3, 4, 5, 13] [] _ _ rfl rfl rfl) (Weak_reset 1 hm hz [0, 1, 2, 3, 4, 5, 13] _ _ rfl rfl)⟩
       refine AU_cut 3 #[true, true, true, true, true, false, true, true, true, true, true, true, true, true, true, true, true, true, true, true, true, false, false] [(0, .d (.sl none (intsD p0))), (1, .d (.sl none (intsD p1))), (2, iV p2), (3, iV p3), (4, .vec 0 1), (5, iV p5), (13, iV x6), (49, .d (.sl none (intsD p0))), (51, .vec 1 0), (53, .vec 2 0), (66, iV (bShl .i64 (bShr .i64 (bAnd .i64 p2 (p0.getD x6.toNat 0)) (IntKind.u64.wrap x6)) (IntKind.u64.wrap x6))), (67, iV p3), (68, .vec 0 1), (69, iV p5)] [.vec 1 (rowsD x7), .vec 0 (intsD r15), .vec 0 (intsD ([x6]))] ?_ (fun hS1 => ?_)
       ·refine AU_one 5 (by kernel_rfl) rfl rfl ?_
        refine AOps_append 54 _ _ _ _ _ _ _ _ _ _ _ _ rfl rfl rfl rfl rfl rfl rfl Try.underlying24 Try.type2 rfl rfl rfl (by decide) rfl rfl rfl rfl (intsD_one _) (by rw [intsD_length, intsD_length]; exact hc16) ?_
        rw [intsD_app]
        refine AOps_nil ?_
        exact AU_to (by kernel_rfl) hS0 (Weak_trans (Weak_keep 1 hm [0, 1, 2, 3, 4, 5, 13, 49, 54, 66, 67, 68, 69] [1] _ _ rfl rfl rfl) (Weak_reset 1 hm hz [0, 1, 2, 3, 4, 5, 13, 49, 54, 66, 67, 68, 69] _ _ rfl rfl))
       refine AU_cut 4 #[true, true, true, true, false, false, true, true, true, true, true, true, true, true, true, true, true, true, true, true, true, false, false] [(0, .d (.sl none (intsD p0))), (1, .d (.sl none (intsD p1))), (2, iV p2), (3, iV p3), (4, .vec 0 1), (5, iV p5), (13, iV x6), (49, .d (.sl none (intsD p0))), (51, .vec 1 0), (52, iV x6), (66, iV (bShl .i64 (bShr .i64 (bAnd .i64 p2 (p0.getD x6.toNat 0)) (IntKind.u64.wrap x6)) (IntKind.u64.wrap x6))), (67, iV p3), (68, .vec 0 1), (69, iV p5)] [.vec 1 (rowsD x7), .vec 0 (intsD r15)] ?_ (fun hS2 => ?_)
       ·refine AU_one 4 (by kernel_rfl) rfl rfl ?_
        refine AOps_buildSlice 53 _ _ _ [_] (intsD ([x6])) _ rfl rfl rfl rfl rfl (by decide) Try.underlying24 Try.sizeOf2 (zero_of Try.typeInfo2 rfl) rfl rfl (intsD_one _) ?_
        refine AOps_nil ?_
        exact AU_to (by kernel_rfl) hS1 (Weak_keep 1 hm [0, 1, 2, 3, 4, 5, 13, 49, 51, 53, 66, 67, 68, 69] [1, 2] _ _ rfl rfl rfl)
       refine AU_cut 4 #[true, true, false, true, true, false, true, true, true, true, true, true, true, true, true, true, true, true, true, true, true, false, false] [(0, .d (.sl none (intsD p0))), (1, .d (.sl none (intsD p1))), (2, iV p2), (3, iV p3), (4, .vec 0 1), (5, iV p5), (13, iV x6), (49, .d (.sl none (intsD p0))), (50, .d (.sl none (intsD p1))), (53, .vec 1 0), (66, iV (bShl .i64 (bShr .i64 (bAnd .i64 p2 (p0.getD x6.toNat 0)) (IntKind.u64.wrap x6)) (IntKind.u64.wrap x6))), (67, iV p3), (68, .vec 0 1), (69, iV p5)] [.vec 1 (rowsD x7), .vec 0 (intsD ([x6]))] ?_ (fun hS3 => ?_)
       ·refine AU_one 2 (by kernel_rfl) rfl rfl ?_
        refine kC [] 51 (.vec 2 0) [.vec 1 (rowsD x7), .vec 0 (intsD ([x6])), .vec 0 (intsD r15)] rfl Try.call227 rfl rfl (spec_l01Own_ac p1 _ hr15) rfl ?_
        refine AOps_nil ?_
        exact AU_to (by kernel_rfl) hS1 (Weak_keep 1 hm [0, 1, 2, 3, 4, 5, 13, 49, 51, 53, 66, 67, 68, 69] [2, 1] _ _ rfl rfl rfl)
       refine AU_cut 7 #[true, true, true, true, true, false, true, true, true, true, false, false, true, true, false, true, true, false, true, true, true, false, false] [(0, .d (.sl none (intsD p0))), (1, .d (.sl none (intsD p1))), (2, iV p2), (3, iV p3), (4, .vec 0 1), (5, iV p5), (13, iV x6), (49, .d (.sl none (intsD p0))), (51, .vec 1 0), (53, .vec 2 0), (55, iV p2), (58, .d (.pv (intsD p0) x6.toNat)), (62, .d (.s (.int .u64 (IntKind.u64.wrap x6)))), (65, .d (.s (.int .u64 (IntKind.u64.wrap x6)))), (67, iV p3), (68, .vec 0 1), (69, iV p5)] [.vec 1 (rowsD x7), .vec 0 (intsD r15), .vec 0 (intsD ([x6]))] ?_ (fun hS4 => ?_)
       ·refine AU_all [5, 10] (by kernel_rfl) rfl (allc ?_ (allc ?_ (fun _ h => nomatch h)))
        ·refine US_of 5 rfl rfl ?_
         refine AOps_append 54 _ _ _ _ _ _ _ _ _ _ _ _ rfl rfl rfl rfl rfl rfl rfl Try.underlying24 Try.type2 rfl rfl rfl (by decide) rfl rfl rfl rfl (intsD_one _) (by rw [intsD_length, intsD_length]; exact hc16) ?_
         rw [intsD_app]
         refine AOps_nil ?_
         refine AU_one 10 (by kernel_rfl) rfl rfl ?_
         refine AOps_q 59 _ rfl rfl rfl (QOp_load_pv _ _ _ _ _ rfl Try.isAgg2 rfl (intsD_get _ _ 0 (by omega))) ?_
         refine AOps_nil ?_
         refine AU_u 11 60 _ rfl (by kernel_rfl) rfl rfl rfl (UOp_and _ _ _ _ _ _ _ rfl rfl rfl) ?_
         refine AU_u 14 63 _ rfl (by kernel_rfl) rfl rfl rfl (UOp_shr _ _ _ _ _ _ _ _ hc17 rfl rfl rfl) ?_
         refine AU_u 17 66 _ rfl (by kernel_rfl) rfl rfl rfl (UOp_shl _ _ _ _ _ _ _ _ hc18 rfl rfl rfl) ?_
         exact AU_to (by kernel_rfl) hS0 (Weak_trans (Weak_keep 1 hm [0, 1, 2, 3, 4, 5, 13, 49, 54, 66, 67, 68, 69] [1] _ _ rfl rfl rfl) (Weak_reset 1 hm hz [0, 1, 2, 3, 4, 5, 13, 49, 54, 66, 67, 68, 69] _ _ rfl rfl))
        refine US_of 10 rfl rfl ?_
        refine AOps_q 59 _ rfl rfl rfl (QOp_load_pv _ _ _ _ _ rfl Try.isAgg2 rfl (intsD_get _ _ 0 (by omega))) ?_
        refine AOps_nil ?_
        refine AU_u 11 60 _ rfl (by kernel_rfl) rfl rfl rfl (UOp_and _ _ _ _ _ _ _ rfl rfl rfl) ?_
        refine AU_u 14 63 _ rfl (by kernel_rfl) rfl rfl rfl (UOp_shr _ _ _ _ _ _ _ _ hc17 rfl rfl rfl) ?_
        refine AU_u 17 66 _ rfl (by kernel_rfl) rfl rfl rfl (UOp_shl _ _ _ _ _ _ _ _ hc18 rfl rfl rfl) ?_
        exact AU_to (by kernel_rfl) hS1 (Weak_keep 1 hm [0, 1, 2, 3, 4, 5, 13, 49, 51, 53, 66, 67, 68, 69] [1, 2] _ _ rfl rfl rfl)
       refine AU_u 0 49 _ rfl (by kernel_rfl) rfl rfl rfl (UOp_move _ _ rfl rfl) ?_
       refine AU_u 1 50 _ rfl (by kernel_rfl) rfl rfl rfl (UOp_move _ _ rfl rfl) ?_
       refine AU_u 3 52 _ rfl (by kernel_rfl) rfl rfl rfl (UOp_move _ _ rfl rfl) ?_
       refine AU_u 6 55 _ rfl (by kernel_rfl) rfl rfl rfl (UOp_move _ _ rfl rfl) ?_
       refine AU_u 7 56 _ rfl (by kernel_rfl) rfl rfl rfl (UOp_move _ _ rfl rfl) ?_
       refine AU_u 8 57 _ rfl (by kernel_rfl) rfl rfl rfl (UOp_move _ _ rfl rfl) ?_
       refine AU_u 9 58 _ rfl (by kernel_rfl) rfl rfl rfl (UOp_indexAddr_sl _ _ _ _ _ _ _ _ rfl Try.underlying24 Try.sizeOf2 hc14.1 (by rw [intsD_length]; exact hc14.2) rfl rfl) ?_
       refine AU_u 12 61 _ rfl (by kernel_rfl) rfl rfl rfl (UOp_move _ _ rfl rfl) ?_
       refine AU_u 13 62 _ rfl (by kernel_rfl) rfl rfl rfl (UOp_conv _ _ _ _ _ _ rfl rfl Try.underlying106 rfl) ?_
       refine AU_u 15 64 _ rfl (by kernel_rfl) rfl rfl rfl (UOp_move _ _ rfl rfl) ?_
       refine AU_u 16 65 _ rfl (by kernel_rfl) rfl rfl rfl (UOp_conv _ _ _ _ _ _ rfl rfl Try.underlying106 rfl) ?_
       refine AU_u 18 67 _ rfl (by kernel_rfl) rfl rfl rfl (UOp_move _ _ rfl rfl) ?_
       refine AU_u 19 68 _ rfl (by kernel_rfl) rfl rfl rfl (UOp_move _ _ rfl rfl) ?_
       refine AU_u 20 69 _ rfl (by kernel_rfl) rfl rfl rfl (UOp_move _ _ rfl rfl) ?_
       refine AU_all [2, 4, 10] (by kernel_rfl) rfl (allc ?_ (allc ?_ (allc ?_ (fun _ h => nomatch h))))
       ·refine US_of 2 rfl rfl ?_
        refine kC [] 51 (.vec 1 0) [.vec 1 (rowsD x7), .vec 0 (intsD r15)] rfl Try.call227 rfl rfl (spec_l01Own_ac p1 _ hr15) rfl ?_
        refine AOps_nil ?_
        refine AU_all [4, 10] (by kernel_rfl) rfl (allc ?_ (allc ?_ (fun _ h => nomatch h)))
        ·refine US_of 4 rfl rfl ?_
         refine AOps_buildSlice 53 _ _ _ [_] (intsD ([x6])) _ rfl rfl rfl rfl rfl (by decide) Try.underlying24 Try.sizeOf2 (zero_of Try.typeInfo2 rfl) rfl rfl (intsD_one _) ?_
         refine AOps_nil ?_
         exact AU_to (by kernel_rfl) hS4 (Weak_keep 1 hm [0, 1, 2, 3, 4, 5, 13, 49, 51, 53, 55, 58, 62, 65, 67, 68, 69] [1, 2] _ _ rfl rfl rfl)
        refine US_of 10 rfl rfl ?_
        refine AOps_q 59 _ rfl rfl rfl (QOp_load_pv _ _ _ _ _ rfl Try.isAgg2 rfl (intsD_get _ _ 0 (by omega))) ?_
        refine AOps_nil ?_
        refine AU_u 11 60 _ rfl (by kernel_rfl) rfl rfl rfl (UOp_and _ _ _ _ _ _ _ rfl rfl rfl) ?_
        refine AU_u 14 63 _ rfl (by kernel_rfl) rfl rfl rfl (UOp_shr _ _ _ _ _ _ _ _ hc17 rfl rfl rfl) ?_
        refine AU_u 17 66 _ rfl (by kernel_rfl) rfl rfl rfl (UOp_shl _ _ _ _ _ _ _ _ hc18 rfl rfl rfl) ?_
        exact AU_to (by kernel_rfl) hS2 (Weak_keep 1 hm [0, 1, 2, 3, 4, 5, 13, 49, 51, 52, 66, 67, 68, 69] [1] _ _ rfl rfl rfl)
       ·refine US_of 4 rfl rfl ?_
        refine AOps_buildSlice 53 _ _ _ [_] (intsD ([x6])) _ rfl rfl rfl rfl rfl (by decide) Try.underlying24 Try.sizeOf2 (zero_of Try.typeInfo2 rfl) rfl rfl (intsD_one _) ?_
        refine AOps_nil ?_
        refine AU_all [2, 10] (by kernel_rfl) rfl (allc ?_ (allc ?_ (fun _ h => nomatch h)))
        ·refine US_of 2 rfl rfl ?_
         refine kC [] 51 (.vec 2 0) [.vec 1 (rowsD x7), .vec 0 (intsD ([x6])), .vec 0 (intsD r15)] rfl Try.call227 rfl rfl (spec_l01Own_ac p1 _ hr15) rfl ?_
         refine AOps_nil ?_
         exact AU_to (by kernel_rfl) hS4 (Weak_keep 1 hm [0, 1, 2, 3, 4, 5, 13, 49, 51, 53, 55, 58, 62, 65, 67, 68, 69] [2, 1] _ _ rfl rfl rfl)
        refine US_of 10 rfl rfl ?_
        refine AOps_q 59 _ rfl rfl rfl (QOp_load_pv _ _ _ _ _ rfl Try.isAgg2 rfl (intsD_get _ _ 0 (by omega))) ?_
        refine AOps_nil ?_
        refine AU_u 11 60 _ rfl (by kernel_rfl) rfl rfl rfl (UOp_and _ _ _ _ _ _ _ rfl rfl rfl) ?_
        refine AU_u 14 63 _ rfl (by kernel_rfl) rfl rfl rfl (UOp_shr _ _ _ _ _ _ _ _ hc17 rfl rfl rfl) ?_
        refine AU_u 17 66 _ rfl (by kernel_rfl) rfl rfl rfl (UOp_shl _ _ _ _ _ _ _ _ hc18 rfl rfl rfl) ?_
        exact AU_to (by kernel_rfl) hS3 (Weak_keep 1 hm [0, 1, 2, 3, 4, 5, 13, 49, 50, 53, 66, 67, 68, 69] [1] _ _ rfl rfl rfl)
       refine US_of 10 rfl rfl ?_
       refine AOps_q 59 _ rfl rfl rfl (QOp_load_pv _ _ _ _ _ rfl Try.isAgg2 rfl (intsD_get _ _ 0 (by omega))) ?_
       refine AOps_nil ?_
       refine AU_u 11 60 _ rfl (by kernel_rfl) rfl rfl rfl (UOp_and _ _ _ _ _ _ _ rfl rfl rfl) ?_
       refine AU_u 14 63 _ rfl (by kernel_rfl) rfl rfl rfl (UOp_shr _ _ _ _ _ _ _ _ hc17 rfl rfl rfl) ?_
       refine AU_u 17 66 _ rfl (by kernel_rfl) rfl rfl rfl (UOp_shl _ _ _ _ _ _ _ _ hc18 rfl rfl rfl) ?_
       refine AU_all [2, 4] (by kernel_rfl) rfl (allc ?_ (allc ?_ (fun _ h => nomatch h)))
       ·refine US_of 2 rfl rfl ?_
        refine kC [] 51 (.vec 1 0) [.vec 1 (rowsD x7), .vec 0 (intsD r15)] rfl Try.call227 rfl rfl (spec_l01Own_ac p1 _ hr15) rfl ?_
        refine AOps_nil ?_
        exact AU_to (by kernel_rfl) hS2 (Weak_keep 1 hm [0, 1, 2, 3, 4, 5, 13, 49, 51, 52, 66, 67, 68, 69] [1] _ _ rfl rfl rfl)
       refine US_of 4 rfl rfl ?_
       refine AOps_buildSlice 53 _ _ _ [_] (intsD ([x6])) _ rfl rfl rfl rfl rfl (by decide) Try.underlying24 Try.sizeOf2 (zero_of Try.typeInfo2 rfl) rfl rfl (intsD_one _) ?_
       refine AOps_nil ?_
       exact AU_to (by kernel_rfl) hS3 (Weak_keep 1 hm [0, 1, 2, 3, 4, 5, 13, 49, 50, 53, 66, 67, 68, 69] [1] _ _ rfl rfl rfl)
      cases h
      exact Weak_keep 1 hm [0, 1, 2, 3, 4, 5, 13] [] _ _ rfl rfl rfl
     refine ACode_skip ?_
     cases h
     exact Weak_keep 1 hm [0, 1, 2, 3, 4, 5, 13] [] _ _ rfl rfl rfl
    refine (ACode_region ?_)
    refine kM 1 rfl ?_
    refine AOps_q 42 _ rfl rfl rfl (QOp_add _ _ _ _ _ _ _ rfl rfl rfl) ?_
    refine kN 1 rfl ?_
    exact ⟨k0, _, _, Nat.lt_succ_self _, Weak_keep 1 hm [0, 1, 2, 3, 4, 5, 13] [] _ _ rfl rfl rfl, _, _, rfl, rfl, h⟩
  refine kR ?_
  refine kN 2 rfl ?_
  refine ACode_ret ?_
  cases h
  exact ⟨_, _, fun r a w h => ⟨r, h⟩, _, _, [], _, (.cons (ResV_tmp _ _ rfl) .nil), rfl, rfl, rfl, rfl, rfl⟩

-- loop.example/g01362/spec.l02List
def spec_l02List (k : Nat) (p0 : Col) (p1 : Int) (p2 : Int) (p3 : Int) : Option (List (List Int)) :=
 (spec_l02Rows k p0 p1).bind fun r1 => (if 0 ≤ IntKind.u64.wrap p0.p then (spec_l02Go k r1 ([] : List Int) (w64 ((bShl .i64 1 (IntKind.u64.wrap p0.p)) - 1)) p2 ([] : List (List Int)) p3).bind fun r3 => some r3 else none)
set_option maxRecDepth 100000 in
theorem spec_l02List_ac (k : Nat) (p0 : Col) (p1 : Int) (p2 : Int) (p3 : Int) (r : List (List Int)) (h : spec_l02List k p0 p1 p2 p3 = some r) : AC Try.prog 108 [.d (.agg (colD p0)), iV p1, iV p2, iV p3] [] (fun res H' => res = [.vec 0 0] ∧ H' = [.vec 0 (rowsD r)]) := by
 refine AC_of_body true Try.func108 rfl Try.ntmps108 (rvs := [.tmp 8]) rfl rfl (fun G hG => ?_)
 have hm : G.H.length = 0 := by rw [hG]; rfl
 have hz : zeroG G.H = true := by rw [hG]; rfl
 unfold spec_l02List at h
 refine kR ?_
 refine AOps_boxI 4 _ _ (.agg (colD p0)) (colD p0) rfl (colD_one _) rfl rfl rfl rfl rfl ?_
 refine kN 1 rfl ?_
 obtain ⟨r1, hr1, h⟩ := bindO h
 obtain ⟨hc2, h⟩ := guardO h
 obtain ⟨r3, hr3, h⟩ := bindO h
 refine ACode_seq (ACode_reg [(8, .vec 0 0)] [.vec 0 (rowsD r3)] ?_ ?_)
 ·refine ACode_anyU mixed ?_
  refine AU_cut 2 #[true, true, true, true, true, true, true, true, true, true, true, true, false, false] [(8, .d (.sl (some true) [])), (11, .vec 0 0), (12, .vec 1 0), (17, iV (w64 ((bShl .i64 1 (IntKind.u64.wrap p0.p)) - 1))), (18, iV p2), (19, .vec 2 0), (20, iV p3)] [.vec 0 (intsD r1), .vec 0 (intsD ([] : List Int)), .vec 0 (rowsD ([] : List (List Int)))] ?_ (fun hS0 => ?_)
  ·refine AU_one 12 (by kernel_rfl) rfl rfl ?_
   refine AOps_freezeL [11] 0 0 _ (allc (rfl) (fun _ h => nomatch h)) rfl ?_
   refine AOps_freezeL [12] 1 0 _ (allc (rfl) (fun _ h => nomatch h)) rfl ?_
   refine kC [2] 21 (.vec 2 1) [.gone, .gone, .vec 1 (rowsD r3)] rfl Try.call193 rfl rfl (spec_l02Go_ac k r1 ([] : List Int) (w64 ((bShl .i64 1 (IntKind.u64.wrap p0.p)) - 1)) p2 ([] : List (List Int)) p3 _ hr3) rfl ?_
   refine AOps_nil ?_
   refine AU_u 13 8 _ rfl (by kernel_rfl) rfl rfl rfl (UOp_assign _ _ rfl rfl) ?_
   refine AU_done (by kernel_rfl) ?_
   exact ⟨rfl, Weak_trans (Weak_keep 0 hm [8] [2] _ _ rfl rfl rfl) (Weak_reset 0 hm hz [8] _ _ rfl rfl)⟩
  refine AU_cut 3 #[true, true, true, true, true, true, true, true, true, true, false, true, false, false] [(8, .d (.sl (some true) [])), (11, .vec 0 0), (12, .vec 1 0), (17, iV (w64 ((bShl .i64 1 (IntKind.u64.wrap p0.p)) - 1))), (18, iV p2), (20, iV p3)] [.vec 0 (intsD r1), .vec 0 (intsD ([] : List Int))] ?_ (fun hS1 => ?_)
  ·refine AU_one 10 (by kernel_rfl) rfl rfl ?_
   refine AOps_buildSlice 19 _ _ _ [] (rowsD ([] : List (List Int))) _ rfl rfl rfl rfl rfl (by decide) Try.underlying45 Try.sizeOf24 (zero_of Try.typeInfo24 rfl) rfl rfl (rowsD_one _) ?_
   refine AOps_nil ?_
   exact AU_to (by kernel_rfl) hS0 (Weak_keep 0 hm [8, 11, 12, 17, 18, 19, 20] [0, 1, 2] _ _ rfl rfl rfl)
  refine AU_cut 3 #[true, true, true, false, true, true, true, true, true, true, true, true, false, false] [(8, .d (.sl (some true) [])), (11, .vec 0 0), (17, iV (w64 ((bShl .i64 1 (IntKind.u64.wrap p0.p)) - 1))), (18, iV p2), (19, .vec 1 0), (20, iV p3)] [.vec 0 (intsD r1), .vec 0 (rowsD ([] : List (List Int)))] ?_ (fun hS2 => ?_)
  ·refine AU_one 3 (by kernel_rfl) rfl rfl ?_
   refine AOps_buildSlice 12 _ _ _ [] (intsD ([] : List Int)) _ rfl rfl rfl rfl rfl (by decide) Try.underlying24 Try.sizeOf2 (zero_of Try.typeInfo2 rfl) rfl rfl (intsD_one _) ?_
   refine AOps_nil ?_
   exact AU_to (by kernel_rfl) hS0 (Weak_keep 0 hm [8, 11, 12, 17, 18, 19, 20] [0, 2, 1] _ _ rfl rfl rfl)
  refine AU_cut 3 #[true, true, false, true, true, true, true, true, true, true, true, true, false, false] [(8, .d (.sl (some true) [])), (9, .d (.agg (colD p0))), (10, iV p1), (12, .vec 0 0), (17, iV (w64 ((bShl .i64 1 (IntKind.u64.wrap p0.p)) - 1))), (18, iV p2), (19, .vec 1 0), (20, iV p3)] [.vec 0 (intsD ([] : List Int)), .vec 0 (rowsD ([] : List (List Int)))] ?_ (fun hS3 => ?_)
  ·refine AU_one 2 (by kernel_rfl) rfl rfl ?_
   refine kC [] 11 (.vec 2 0) [.vec 0 (intsD ([] : List Int)), .vec 0 (rowsD ([] : List (List Int))), .vec 0 (intsD r1)] rfl Try.call113 rfl rfl (spec_l02Rows_ac k p0 p1 _ hr1) rfl ?_
   refine AOps_nil ?_
   exact AU_to (by kernel_rfl) hS0 (Weak_keep 0 hm [8, 11, 12, 17, 18, 19, 20] [2, 0, 1] _ _ rfl rfl rfl)
  refine AU_cut 4 #[true, true, true, false, true, true, true, true, true, true, false, true, false, false] [(8, .d (.sl (some true) [])), (11, .vec 0 0), (17, iV (w64 ((bShl .i64 1 (IntKind.u64.wrap p0.p)) - 1))), (18, iV p2), (20, iV p3)] [.vec 0 (intsD r1)] ?_ (fun hS4 => ?_)
  ·refine AU_all [3, 10] (by kernel_rfl) rfl (allc ?_ (allc ?_ (fun _ h => nomatch h)))
   ·refine US_of 3 rfl rfl ?_
    refine AOps_buildSlice 12 _ _ _ [] (intsD ([] : List Int)) _ rfl rfl rfl rfl rfl (by decide) Try.underlying24 Try.sizeOf2 (zero_of Try.typeInfo2 rfl) rfl rfl (intsD_one _) ?_
    refine AOps_nil ?_
    exact AU_to (by kernel_rfl) hS1 (Weak_keep 0 hm [8, 11, 12, 17, 18, 20] [0, 1] _ _ rfl rfl rfl)
   refine US_of 10 rfl rfl ?_
   refine AOps_buildSlice 19 _ _ _ [] (rowsD ([] : List (List Int))) _ rfl rfl rfl rfl rfl (by decide) Try.underlying45 Try.sizeOf24 (zero_of Try.typeInfo24 rfl) rfl rfl (rowsD_one _) ?_
   refine AOps_nil ?_
   exact AU_to (by kernel_rfl) hS2 (Weak_keep 0 hm [8, 11, 17, 18, 19, 20] [0, 1] _ _ rfl rfl rfl)
  refine AU_cut 4 #[true, true, false, true, true, true, true, true, true, true, false, true, false, false] [(8, .d (.sl (some true) [])), (9, .d (.agg (colD p0))), (10, iV p1), (12, .vec 0 0), (17, iV (w64 ((bShl .i64 1 (IntKind.u64.wrap p0.p)) - 1))), (18, iV p2), (20, iV p3)] [.vec 0 (intsD ([] : List Int))] ?_ (fun hS5 => ?_)
  ·refine AU_all [2, 10] (by kernel_rfl) rfl (allc ?_ (allc ?_ (fun _ h => nomatch h)))
   ·refine US_of 2 rfl rfl ?_
    refine kC [] 11 (.vec 1 0) [.vec 0 (intsD ([] : List Int)), .vec 0 (intsD r1)] rfl Try.call113 rfl rfl (spec_l02Rows_ac k p0 p1 _ hr1) rfl ?_
    refine AOps_nil ?_
    exact AU_to (by kernel_rfl) hS1 (Weak_keep 0 hm [8, 11, 12, 17, 18, 20] [1, 0] _ _ rfl rfl rfl)
   refine US_of 10 rfl rfl ?_
   refine AOps_buildSlice 19 _ _ _ [] (rowsD ([] : List (List Int))) _ rfl rfl rfl rfl rfl (by decide) Try.underlying45 Try.sizeOf24 (zero_of Try.typeInfo24 rfl) rfl rfl (rowsD_one _) ?_
   refine AOps_nil ?_
   exact AU_to (by kernel_rfl) hS3 (Weak_keep 0 hm [8, 9, 10, 12, 17, 18, 19, 20] [0, 1] _ _ rfl rfl rfl)
  refine AU_cut 4 #[true, true, false, false, true, true, true, true, true, true, true, true, false, false] [(8, .d (.sl (some true) [])), (9, .d (.agg (colD p0))), (10, iV p1), (17, iV (w64 ((bShl .i64 1 (IntKind.u64.wrap p0.p)) - 1))), (18, iV p2), (19, .vec 0 0), (20, iV p3)] [.vec 0 (rowsD ([] : List (List Int)))] ?_ (fun hS6 => ?_)
  ·refine AU_all [2, 3] (by kernel_rfl) rfl (allc ?_ (allc ?_ (fun _ h => nomatch h)))
   ·refine US_of 2 rfl rfl ?_
    refine kC [] 11 (.vec 1 0) [.vec 0 (rowsD ([] : List (List Int))), .vec 0 (intsD r1)] rfl Try.call113 rfl rfl (spec_l02Rows_ac k p0 p1 _ hr1) rfl ?_
    refine AOps_nil ?_
    exact AU_to (by kernel_rfl) hS2 (Weak_keep 0 hm [8, 11, 17, 18, 19, 20] [1, 0] _ _ rfl rfl rfl)
   refine US_of 3 rfl rfl ?_
   refine AOps_buildSlice 12 _ _ _ [] (intsD ([] : List Int)) _ rfl rfl rfl rfl rfl (by decide) Try.underlying24 Try.sizeOf2 (zero_of Try.typeInfo2 rfl) rfl rfl (intsD_one _) ?_
   refine AOps_nil ?_
   exact AU_to (by kernel_rfl) hS3 (Weak_keep 0 hm [8, 9, 10, 12, 17, 18, 19, 20] [1, 0] _ _ rfl rfl rfl)
  refine AU_cut 4 #[false, true, false, true, true, true, true, true, true, true, true, true, false, false] [(4, .d (.pv (colD p0) 0)), (8, .d (.sl (some true) [])), (10, iV p1), (12, .vec 0 0), (17, iV (w64 ((bShl .i64 1 (IntKind.u64.wrap p0.p)) - 1))), (18, iV p2), (19, .vec 1 0), (20, iV p3)] [.vec 0 (intsD ([] : List Int)), .vec 0 (rowsD ([] : List (List Int)))] ?_ (fun hS7 => ?_)
  ·refine AU_one 0 (by kernel_rfl) rfl rfl ?_
   refine AOps_q 9 _ rfl rfl rfl (QOp_loadN_pv _ _ _ _ _ _ rfl Try.isAgg29 Try.sizeOf29 rfl (colD_all _) (colD_length _)) ?_
   refine AOps_nil ?_
   exact AU_to (by kernel_rfl) hS3 (Weak_keep 0 hm [8, 9, 10, 12, 17, 18, 19, 20] [0, 1] _ _ rfl rfl rfl)
  refine AU_cut 5 #[true, true, false, false, true, true, true, true, true, true, false, true, false, false] [(8, .d (.sl (some true) [])), (9, .d (.agg (colD p0))), (10, iV p1), (17, iV (w64 ((bShl .i64 1 (IntKind.u64.wrap p0.p)) - 1))), (18, iV p2), (20, iV p3)] [] ?_ (fun hS8 => ?_)
  ·refine AU_all [2, 3, 10] (by kernel_rfl) rfl (allc ?_ (allc ?_ (allc ?_ (fun _ h => nomatch h))))
   ·refine US_of 2 rfl rfl ?_
    refine kC [] 11 (.vec 0 0) [.vec 0 (intsD r1)] rfl Try.call113 rfl rfl (spec_l02Rows_ac k p0 p1 _ hr1) rfl ?_
    refine AOps_nil ?_
    exact AU_to (by kernel_rfl) hS4 (Weak_keep 0 hm [8, 11, 17, 18, 20] [0] _ _ rfl rfl rfl)
   ·refine US_of 3 rfl rfl ?_
    refine AOps_buildSlice 12 _ _ _ [] (intsD ([] : List Int)) _ rfl rfl rfl rfl rfl (by decide) Try.underlying24 Try.sizeOf2 (zero_of Try.typeInfo2 rfl) rfl rfl (intsD_one _) ?_
    refine AOps_nil ?_
    exact AU_to (by kernel_rfl) hS5 (Weak_keep 0 hm [8, 9, 10, 12, 17, 18, 20] [0] _ _ rfl rfl rfl)
   refine US_of 10 rfl rfl ?_
   refine AOps_buildSlice 19 _ _ _ [] (rowsD ([] : List (List Int))) _ rfl rfl rfl rfl rfl (by decide) Try.underlying45 Try.sizeOf24 (zero_of Try.typeInfo24 rfl) rfl rfl (rowsD_one _) ?_
   refine AOps_nil ?_
   exact AU_to (by kernel_rfl) hS6 (Weak_keep 0 hm [8, 9, 10, 17, 18, 19, 20] [0] _ _ rfl rfl rfl)
  refine AU_cut 5 #[false, true, false, true, true, true, true, true, true, true, false, true, false, false] [(4, .d (.pv (colD p0) 0)), (8, .d (.sl (some true) [])), (10, iV p1), (12, .vec 0 0), (17, iV (w64 ((bShl .i64 1 (IntKind.u64.wrap p0.p)) - 1))), (18, iV p2), (20, iV p3)] [.vec 0 (intsD ([] : List Int))] ?_ (fun hS9 => ?_)
  ·refine AU_all [0, 10] (by kernel_rfl) rfl (allc ?_ (allc ?_ (fun _ h => nomatch h)))
   ·refine US_of 0 rfl rfl ?_
    refine AOps_q 9 _ rfl rfl rfl (QOp_loadN_pv _ _ _ _ _ _ rfl Try.isAgg29 Try.sizeOf29 rfl (colD_all _) (colD_length _)) ?_
    refine AOps_nil ?_
    exact AU_to (by kernel_rfl) hS5 (Weak_keep 0 hm [8, 9, 10, 12, 17, 18, 20] [0] _ _ rfl rfl rfl)
   refine US_of 10 rfl rfl ?_
   refine AOps_buildSlice 19 _ _ _ [] (rowsD ([] : List (List Int))) _ rfl rfl rfl rfl rfl (by decide) Try.underlying45 Try.sizeOf24 (zero_of Try.typeInfo24 rfl) rfl rfl (rowsD_one _) ?_
   refine AOps_nil ?_
   exact AU_to (by kernel_rfl) hS7 (Weak_keep 0 hm [4, 8, 10, 12, 17, 18, 19, 20] [0, 1] _ _ rfl rfl rfl)
  refine AU_cut 5 #[false, true, false, false, true, true, true, true, true, true, true, true, false, false] [(4, .d (.pv (colD p0) 0)), (8, .d (.sl (some true) [])), (10, iV p1), (17, iV (w64 ((bShl .i64 1 (IntKind.u64.wrap p0.p)) - 1))), (18, iV p2), (19, .vec 0 0), (20, iV p3)] [.vec 0 (rowsD ([] : List (List Int)))] ?_ (fun hS10 => ?_)
  ·refine AU_all [0, 3] (by kernel_rfl) rfl (allc ?_ (allc ?_ (fun _ h => nomatch h)))
   ·refine US_of 0 rfl rfl ?_
    refine AOps_q 9 _ rfl rfl rfl (QOp_loadN_pv _ _ _ _ _ _ rfl Try.isAgg29 Try.sizeOf29 rfl (colD_all _) (colD_length _)) ?_
    refine AOps_nil ?_
    exact AU_to (by kernel_rfl) hS6 (Weak_keep 0 hm [8, 9, 10, 17, 18, 19, 20] [0] _ _ rfl rfl rfl)
   refine US_of 3 rfl rfl ?_
   refine AOps_buildSlice 12 _ _ _ [] (intsD ([] : List Int)) _ rfl rfl rfl rfl rfl (by decide) Try.underlying24 Try.sizeOf2 (zero_of Try.typeInfo2 rfl) rfl rfl (intsD_one _) ?_
   refine AOps_nil ?_
   exact AU_to (by kernel_rfl) hS7 (Weak_keep 0 hm [4, 8, 10, 12, 17, 18, 19, 20] [1, 0] _ _ rfl rfl rfl)
  refine AU_cut 6 #[true, true, true, true, true, false, false, false, false, true, true, true, false, false] [(8, .d (.sl (some true) [])), (11, .vec 0 0), (12, .vec 1 0), (13, .d (.pv (colD p0) 0)), (18, iV p2), (19, .vec 2 0), (20, iV p3)] [.vec 0 (intsD r1), .vec 0 (intsD ([] : List Int)), .vec 0 (rowsD ([] : List (List Int)))] ?_ (fun hS11 => ?_)
  ·refine AU_one 5 (by kernel_rfl) rfl rfl ?_
   refine AOps_q 14 _ rfl rfl rfl (QOp_load_pv _ _ _ _ _ rfl Try.isAgg2 rfl rfl) ?_
   refine AOps_nil ?_
   refine AU_u 6 15 _ rfl (by kernel_rfl) rfl rfl rfl (UOp_conv _ _ _ _ _ _ rfl rfl Try.underlying106 rfl) ?_
   refine AU_u 7 16 _ rfl (by kernel_rfl) rfl rfl rfl (UOp_shl _ _ _ _ _ _ _ _ hc2 rfl rfl rfl) ?_
   refine AU_u 8 17 _ rfl (by kernel_rfl) rfl rfl rfl (UOp_sub _ _ _ _ _ _ _ rfl rfl rfl) ?_
   exact AU_to (by kernel_rfl) hS0 (Weak_keep 0 hm [8, 11, 12, 17, 18, 19, 20] [0, 1, 2] _ _ rfl rfl rfl)
  refine AU_cut 7 #[true, true, true, true, true, false, false, false, false, true, false, true, false, false] [(8, .d (.sl (some true) [])), (11, .vec 0 0), (12, .vec 1 0), (13, .d (.pv (colD p0) 0)), (18, iV p2), (20, iV p3)] [.vec 0 (intsD r1), .vec 0 (intsD ([] : List Int))] ?_ (fun hS12 => ?_)
  ·refine AU_all [5, 10] (by kernel_rfl) rfl (allc ?_ (allc ?_ (fun _ h => nomatch h)))
   ·refine US_of 5 rfl rfl ?_
    refine AOps_q 14 _ rfl rfl rfl (QOp_load_pv _ _ _ _ _ rfl Try.isAgg2 rfl rfl) ?_
    refine AOps_nil ?_
    refine AU_u 6 15 _ rfl (by kernel_rfl) rfl rfl rfl (UOp_conv _ _ _ _ _ _ rfl rfl Try.underlying106 rfl) ?_
    refine AU_u 7 16 _ rfl (by kernel_rfl) rfl rfl rfl (UOp_shl _ _ _ _ _ _ _ _ hc2 rfl rfl rfl) ?_
    refine AU_u 8 17 _ rfl (by kernel_rfl) rfl rfl rfl (UOp_sub _ _ _ _ _ _ _ rfl rfl rfl) ?_
    exact AU_to (by kernel_rfl) hS1 (Weak_keep 0 hm [8, 11, 12, 17, 18, 20] [0, 1] _ _ rfl rfl rfl)
   refine US_of 10 rfl rfl ?_
   refine AOps_buildSlice 19 _ _ _ [] (rowsD ([] : List (List Int))) _ rfl rfl rfl rfl rfl (by decide) Try.underlying45 Try.sizeOf24 (zero_of Try.typeInfo24 rfl) rfl rfl (rowsD_one _) ?_
   refine AOps_nil ?_
   exact AU_to (by kernel_rfl) hS11 (Weak_keep 0 hm [8, 11, 12, 13, 18, 19, 20] [0, 1, 2] _ _ rfl rfl rfl)
  refine AU_cut 7 #[true, true, true, false, true, false, false, false, false, true, true, true, false, false] [(8, .d (.sl (some true) [])), (11, .vec 0 0), (13, .d (.pv (colD p0) 0)), (18, iV p2), (19, .vec 1 0), (20, iV p3)] [.vec 0 (intsD r1), .vec 0 (rowsD ([] : List (List Int)))] ?_ (fun hS13 => ?_)
  ·refine AU_all [3, 5] (by kernel_rfl) rfl (allc ?_ (allc ?_ (fun _ h => nomatch h)))
   ·refine US_of 3 rfl rfl ?_
    refine AOps_buildSlice 12 _ _ _ [] (intsD ([] : List Int)) _ rfl rfl rfl rfl rfl (by decide) Try.underlying24 Try.sizeOf2 (zero_of Try.typeInfo2 rfl) rfl rfl (intsD_one _) ?_
    refine AOps_nil ?_
    exact AU_to (by kernel_rfl) hS11 (Weak_keep 0 hm [8, 11, 12, 13, 18, 19, 20] [0, 2, 1] _ _ rfl rfl rfl)
   refine US_of 5 rfl rfl ?_
   refine AOps_q 14 _ rfl rfl rfl (QOp_load_pv _ _ _ _ _ rfl Try.isAgg2 rfl rfl) ?_
   refine AOps_nil ?_
   refine AU_u 6 15 _ rfl (by kernel_rfl) rfl rfl rfl (UOp_conv _ _ _ _ _ _ rfl rfl Try.underlying106 rfl) ?_
   refine AU_u 7 16 _ rfl (by kernel_rfl) rfl rfl rfl (UOp_shl _ _ _ _ _ _ _ _ hc2 rfl rfl rfl) ?_
   refine AU_u 8 17 _ rfl (by kernel_rfl) rfl rfl rfl (UOp_sub _ _ _ _ _ _ _ rfl rfl rfl) ?_
   exact AU_to (by kernel_rfl) hS2 (Weak_keep 0 hm [8, 11, 17, 18, 19, 20] [0, 1] _ _ rfl rfl rfl)
  refine AU_cut 7 #[true, true, false, true, true, false, false, false, false, true, true, true, false, false] [(8, .d (.sl (some true) [])), (9, .d (.agg (colD p0))), (10, iV p1), (12, .vec 0 0), (13, .d (.pv (colD p0) 0)), (18, iV p2), (19, .vec 1 0), (20, iV p3)] [.vec 0 (intsD ([] : List Int)), .vec 0 (rowsD ([] : List (List Int)))] ?_ (fun hS14 => ?_)
  ·refine AU_all [2, 5] (by kernel_rfl) rfl (allc ?_ (allc ?_ (fun _ h => nomatch h)))
   ·refine US_of 2 rfl rfl ?_
    refine kC [] 11 (.vec 2 0) [.vec 0 (intsD ([] : List Int)), .vec 0 (rowsD ([] : List (List Int))), .vec 0 (intsD r1)] rfl Try.call113 rfl rfl (spec_l02Rows_ac k p0 p1 _ hr1) rfl ?_
    refine AOps_nil ?_
    exact AU_to (by kernel_rfl) hS11 (Weak_keep 0 hm [8, 11, 12, 13, 18, 19, 20] [2, 0, 1] _ _ rfl rfl rfl)
   refine US_of 5 rfl rfl ?_
   refine AOps_q 14 _ rfl rfl rfl (QOp_load_pv _ _ _ _ _ rfl Try.isAgg2 rfl rfl) ?_
   refine AOps_nil ?_
   refine AU_u 6 15 _ rfl (by kernel_rfl) rfl rfl rfl (UOp_conv _ _ _ _ _ _ rfl rfl Try.underlying106 rfl) ?_
   refine AU_u 7 16 _ rfl (by kernel_rfl) rfl rfl rfl (UOp_shl _ _ _ _ _ _ _ _ hc2 rfl rfl rfl) ?_
   refine AU_u 8 17 _ rfl (by kernel_rfl) rfl rfl rfl (UOp_sub _ _ _ _ _ _ _ rfl rfl rfl) ?_
   exact AU_to (by kernel_rfl) hS3 (Weak_keep 0 hm [8, 9, 10, 12, 17, 18, 19, 20] [0, 1] _ _ rfl rfl rfl)
  refine AU_cut 8 #[true, true, false, true, true, false, false, false, false, true, false, true, false, false] [(8, .d (.sl (some true) [])), (9, .d (.agg (colD p0))), (10, iV p1), (12, .vec 0 0), (13, .d (.pv (colD p0) 0)), (18, iV p2), (20, iV p3)] [.vec 0 (intsD ([] : List Int))] ?_ (fun hS15 => ?_)
  ·refine AU_all [2, 5, 10] (by kernel_rfl) rfl (allc ?_ (allc ?_ (allc ?_ (fun _ h => nomatch h))))
   ·refine US_of 2 rfl rfl ?_
    refine kC [] 11 (.vec 1 0) [.vec 0 (intsD ([] : List Int)), .vec 0 (intsD r1)] rfl Try.call113 rfl rfl (spec_l02Rows_ac k p0 p1 _ hr1) rfl ?_
    refine AOps_nil ?_
    exact AU_to (by kernel_rfl) hS12 (Weak_keep 0 hm [8, 11, 12, 13, 18, 20] [1, 0] _ _ rfl rfl rfl)
   ·refine US_of 5 rfl rfl ?_
    refine AOps_q 14 _ rfl rfl rfl (QOp_load_pv _ _ _ _ _ rfl Try.isAgg2 rfl rfl) ?_
    refine AOps_nil ?_
    refine AU_u 6 15 _ rfl (by kernel_rfl) rfl rfl rfl (UOp_conv _ _ _ _ _ _ rfl rfl Try.underlying106 rfl) ?_
    refine AU_u 7 16 _ rfl (by kernel_rfl) rfl rfl rfl (UOp_shl _ _ _ _ _ _ _ _ hc2 rfl rfl rfl) ?_
    refine AU_u 8 17 _ rfl (by kernel_rfl) rfl rfl rfl (UOp_sub _ _ _ _ _ _ _ rfl rfl rfl) ?_
    exact AU_to (by kernel_rfl) hS5 (Weak_keep 0 hm [8, 9, 10, 12, 17, 18, 20] [0] _ _ rfl rfl rfl)
   refine US_of 10 rfl rfl ?_
   refine AOps_buildSlice 19 _ _ _ [] (rowsD ([] : List (List Int))) _ rfl rfl rfl rfl rfl (by decide) Try.underlying45 Try.sizeOf24 (zero_of Try.typeInfo24 rfl) rfl rfl (rowsD_one _) ?_
   refine AOps_nil ?_
   exact AU_to (by kernel_rfl) hS14 (Weak_keep 0 hm [8, 9, 10, 12, 13, 18, 19, 20] [0, 1] _ _ rfl rfl rfl)
  refine AU_cut 8 #[true, true, false, false, true, false, false, false, false, true, true, true, false, false] [(8, .d (.sl (some true) [])), (9, .d (.agg (colD p0))), (10, iV p1), (13, .d (.pv (colD p0) 0)), (18, iV p2), (19, .vec 0 0), (20, iV p3)] [.vec 0 (rowsD ([] : List (List Int)))] ?_ (fun hS16 => ?_)
  ·refine AU_all [2, 3, 5] (by kernel_rfl) rfl (allc ?_ (allc ?_ (allc ?_ (fun _ h => nomatch h))))
   ·refine US_of 2 rfl rfl ?_
    refine kC [] 11 (.vec 1 0) [.vec 0 (rowsD ([] : List (List Int))), .vec 0 (intsD r1)] rfl Try.call113 rfl rfl (spec_l02Rows_ac k p0 p1 _ hr1) rfl ?_
    refine AOps_nil ?_
    exact AU_to (by kernel_rfl) hS13 (Weak_keep 0 hm [8, 11, 13, 18, 19, 20] [1, 0] _ _ rfl rfl rfl)
   ·refine US_of 3 rfl rfl ?_
    refine AOps_buildSlice 12 _ _ _ [] (intsD ([] : List Int)) _ rfl rfl rfl rfl rfl (by decide) Try.underlying24 Try.sizeOf2 (zero_of Try.typeInfo2 rfl) rfl rfl (intsD_one _) ?_
    refine AOps_nil ?_
    exact AU_to (by kernel_rfl) hS14 (Weak_keep 0 hm [8, 9, 10, 12, 13, 18, 19, 20] [1, 0] _ _ rfl rfl rfl)
   refine US_of 5 rfl rfl ?_
   refine AOps_q 14 _ rfl rfl rfl (QOp_load_pv _ _ _ _ _ rfl Try.isAgg2 rfl rfl) ?_
   refine AOps_nil ?_
   refine AU_u 6 15 _ rfl (by kernel_rfl) rfl rfl rfl (UOp_conv _ _ _ _ _ _ rfl rfl Try.underlying106 rfl) ?_
   refine AU_u 7 16 _ rfl (by kernel_rfl) rfl rfl rfl (UOp_shl _ _ _ _ _ _ _ _ hc2 rfl rfl rfl) ?_
   refine AU_u 8 17 _ rfl (by kernel_rfl) rfl rfl rfl (UOp_sub _ _ _ _ _ _ _ rfl rfl rfl) ?_
   exact AU_to (by kernel_rfl) hS6 (Weak_keep 0 hm [8, 9, 10, 17, 18, 19, 20] [0] _ _ rfl rfl rfl)
  refine AU_cut 8 #[false, true, false, true, true, false, false, false, false, true, true, true, false, false] [(4, .d (.pv (colD p0) 0)), (8, .d (.sl (some true) [])), (10, iV p1), (12, .vec 0 0), (13, .d (.pv (colD p0) 0)), (18, iV p2), (19, .vec 1 0), (20, iV p3)] [.vec 0 (intsD ([] : List Int)), .vec 0 (rowsD ([] : List (List Int)))] ?_ (fun hS17 => ?_)
  ·refine AU_all [0, 5] (by kernel_rfl) rfl (allc ?_ (allc ?_ (fun _ h => nomatch h)))
   ·refine US_of 0 rfl rfl ?_
    refine AOps_q 9 _ rfl rfl rfl (QOp_loadN_pv _ _ _ _ _ _ rfl Try.isAgg29 Try.sizeOf29 rfl (colD_all _) (colD_length _)) ?_
    refine AOps_nil ?_
    exact AU_to (by kernel_rfl) hS14 (Weak_keep 0 hm [8, 9, 10, 12, 13, 18, 19, 20] [0, 1] _ _ rfl rfl rfl)
   refine US_of 5 rfl rfl ?_
   refine AOps_q 14 _ rfl rfl rfl (QOp_load_pv _ _ _ _ _ rfl Try.isAgg2 rfl rfl) ?_
   refine AOps_nil ?_
   refine AU_u 6 15 _ rfl (by kernel_rfl) rfl rfl rfl (UOp_conv _ _ _ _ _ _ rfl rfl Try.underlying106 rfl) ?_
   refine AU_u 7 16 _ rfl (by kernel_rfl) rfl rfl rfl (UOp_shl _ _ _ _ _ _ _ _ hc2 rfl rfl rfl) ?_
   refine AU_u 8 17 _ rfl (by kernel_rfl) rfl rfl rfl (UOp_sub _ _ _ _ _ _ _ rfl rfl rfl) ?_
   exact AU_to (by kernel_rfl) hS7 (Weak_keep 0 hm [4, 8, 10, 12, 17, 18, 19, 20] [0, 1] _ _ rfl rfl rfl)
  refine AU_u 1 10 _ rfl (by kernel_rfl) rfl rfl rfl (UOp_move _ _ rfl rfl) ?_
  refine AU_u 4 13 _ rfl (by kernel_rfl) rfl rfl rfl (UOp_fieldAddr_pv _ _ _ _ _ 0 _ _ rfl Try.underlying29 rfl _ Try.sizeOf2 rfl rfl) ?_
  refine AU_u 9 18 _ rfl (by kernel_rfl) rfl rfl rfl (UOp_move _ _ rfl rfl) ?_
  refine AU_u 11 20 _ rfl (by kernel_rfl) rfl rfl rfl (UOp_move _ _ rfl rfl) ?_
  refine AU_all [0, 3, 5, 10] (by kernel_rfl) rfl (allc ?_ (allc ?_ (allc ?_ (allc ?_ (fun _ h => nomatch h)))))
  ·refine US_of 0 rfl rfl ?_
   refine AOps_q 9 _ rfl rfl rfl (QOp_loadN_pv _ _ _ _ _ _ rfl Try.isAgg29 Try.sizeOf29 rfl (colD_all _) (colD_length _)) ?_
   refine AOps_nil ?_
   refine AU_all [2, 3, 5, 10] (by kernel_rfl) rfl (allc ?_ (allc ?_ (allc ?_ (allc ?_ (fun _ h => nomatch h)))))
   ·refine US_of 2 rfl rfl ?_
    refine kC [] 11 (.vec 0 0) [.vec 0 (intsD r1)] rfl Try.call113 rfl rfl (spec_l02Rows_ac k p0 p1 _ hr1) rfl ?_
    refine AOps_nil ?_
    refine AU_all [3, 5, 10] (by kernel_rfl) rfl (allc ?_ (allc ?_ (allc ?_ (fun _ h => nomatch h))))
    ·refine US_of 3 rfl rfl ?_
     refine AOps_buildSlice 12 _ _ _ [] (intsD ([] : List Int)) _ rfl rfl rfl rfl rfl (by decide) Try.underlying24 Try.sizeOf2 (zero_of Try.typeInfo2 rfl) rfl rfl (intsD_one _) ?_
     refine AOps_nil ?_
     exact AU_to (by kernel_rfl) hS12 (Weak_keep 0 hm [8, 11, 12, 13, 18, 20] [0, 1] _ _ rfl rfl rfl)
    ·refine US_of 5 rfl rfl ?_
     refine AOps_q 14 _ rfl rfl rfl (QOp_load_pv _ _ _ _ _ rfl Try.isAgg2 rfl rfl) ?_
     refine AOps_nil ?_
     refine AU_u 6 15 _ rfl (by kernel_rfl) rfl rfl rfl (UOp_conv _ _ _ _ _ _ rfl rfl Try.underlying106 rfl) ?_
     refine AU_u 7 16 _ rfl (by kernel_rfl) rfl rfl rfl (UOp_shl _ _ _ _ _ _ _ _ hc2 rfl rfl rfl) ?_
     refine AU_u 8 17 _ rfl (by kernel_rfl) rfl rfl rfl (UOp_sub _ _ _ _ _ _ _ rfl rfl rfl) ?_
     exact AU_to (by kernel_rfl) hS4 (Weak_keep 0 hm [8, 11, 17, 18, 20] [0] _ _ rfl rfl rfl)
    refine US_of 10 rfl rfl ?_
    refine AOps_buildSlice 19 _ _ _ [] (rowsD ([] : List (List Int))) _ rfl rfl rfl rfl rfl (by decide) Try.underlying45 Try.sizeOf24 (zero_of Try.typeInfo24 rfl) rfl rfl (rowsD_one _) ?_
    refine AOps_nil ?_
    exact AU_to (by kernel_rfl) hS13 (Weak_keep 0 hm [8, 11, 13, 18, 19, 20] [0, 1] _ _ rfl rfl rfl)
   ·refine US_of 3 rfl rfl ?_
    refine AOps_buildSlice 12 _ _ _ [] (intsD ([] : List Int)) _ rfl rfl rfl rfl rfl (by decide) Try.underlying24 Try.sizeOf2 (zero_of Try.typeInfo2 rfl) rfl rfl (intsD_one _) ?_
    refine AOps_nil ?_
    exact AU_to (by kernel_rfl) hS15 (Weak_keep 0 hm [8, 9, 10, 12, 13, 18, 20] [0] _ _ rfl rfl rfl)
   ·refine US_of 5 rfl rfl ?_
    refine AOps_q 14 _ rfl rfl rfl (QOp_load_pv _ _ _ _ _ rfl Try.isAgg2 rfl rfl) ?_
    refine AOps_nil ?_
    refine AU_u 6 15 _ rfl (by kernel_rfl) rfl rfl rfl (UOp_conv _ _ _ _ _ _ rfl rfl Try.underlying106 rfl) ?_
    refine AU_u 7 16 _ rfl (by kernel_rfl) rfl rfl rfl (UOp_shl _ _ _ _ _ _ _ _ hc2 rfl rfl rfl) ?_
    refine AU_u 8 17 _ rfl (by kernel_rfl) rfl rfl rfl (UOp_sub _ _ _ _ _ _ _ rfl rfl rfl) ?_
    exact AU_to (by kernel_rfl) hS8 (Weak_keep 0 hm [8, 9, 10, 17, 18, 20] [] _ _ rfl rfl rfl)
   refine US_of 10 rfl rfl ?_
   refine AOps_buildSlice 19 _ _ _ [] (rowsD ([] : List (List Int))) _ rfl rfl rfl rfl rfl (by decide) Try.underlying45 Try.sizeOf24 (zero_of Try.typeInfo24 rfl) rfl rfl (rowsD_one _) ?_
   refine AOps_nil ?_
   exact AU_to (by kernel_rfl) hS16 (Weak_keep 0 hm [8, 9, 10, 13, 18, 19, 20] [0] _ _ rfl rfl rfl)
  ·refine US_of 3 rfl rfl ?_
   refine AOps_buildSlice 12 _ _ _ [] (intsD ([] : List Int)) _ rfl rfl rfl rfl rfl (by decide) Try.underlying24 Try.sizeOf2 (zero_of Try.typeInfo2 rfl) rfl rfl (intsD_one _) ?_
   refine AOps_nil ?_
   refine AU_all [0, 5, 10] (by kernel_rfl) rfl (allc ?_ (allc ?_ (allc ?_ (fun _ h => nomatch h))))
   ·refine US_of 0 rfl rfl ?_
    refine AOps_q 9 _ rfl rfl rfl (QOp_loadN_pv _ _ _ _ _ _ rfl Try.isAgg29 Try.sizeOf29 rfl (colD_all _) (colD_length _)) ?_
    refine AOps_nil ?_
    exact AU_to (by kernel_rfl) hS15 (Weak_keep 0 hm [8, 9, 10, 12, 13, 18, 20] [0] _ _ rfl rfl rfl)
   ·refine US_of 5 rfl rfl ?_
    refine AOps_q 14 _ rfl rfl rfl (QOp_load_pv _ _ _ _ _ rfl Try.isAgg2 rfl rfl) ?_
    refine AOps_nil ?_
    refine AU_u 6 15 _ rfl (by kernel_rfl) rfl rfl rfl (UOp_conv _ _ _ _ _ _ rfl rfl Try.underlying106 rfl) ?_
    refine AU_u 7 16 _ rfl (by kernel_rfl) rfl rfl rfl (UOp_shl _ _ _ _ _ _ _ _ hc2 rfl rfl rfl) ?_
    refine AU_u 8 17 _ rfl (by kernel_rfl) rfl rfl rfl (UOp_sub _ _ _ _ _ _ _ rfl rfl rfl) ?_
    exact AU_to (by kernel_rfl) hS9 (Weak_keep 0 hm [4, 8, 10, 12, 17, 18, 20] [0] _ _ rfl rfl rfl)
   refine US_of 10 rfl rfl ?_
   refine AOps_buildSlice 19 _ _ _ [] (rowsD ([] : List (List Int))) _ rfl rfl rfl rfl rfl (by decide) Try.underlying45 Try.sizeOf24 (zero_of Try.typeInfo24 rfl) rfl rfl (rowsD_one _) ?_
   refine AOps_nil ?_
   exact AU_to (by kernel_rfl) hS17 (Weak_keep 0 hm [4, 8, 10, 12, 13, 18, 19, 20] [0, 1] _ _ rfl rfl rfl)
  ·refine US_of 5 rfl rfl ?_
   refine AOps_q 14 _ rfl rfl rfl (QOp_load_pv _ _ _ _ _ rfl Try.isAgg2 rfl rfl) ?_
   refine AOps_nil ?_
   refine AU_u 6 15 _ rfl (by kernel_rfl) rfl rfl rfl (UOp_conv _ _ _ _ _ _ rfl rfl Try.underlying106 rfl) ?_
   refine AU_u 7 16 _ rfl (by kernel_rfl) rfl rfl rfl (UOp_shl _ _ _ _ _ _ _ _ hc2 rfl rfl rfl) ?_
   refine AU_u 8 17 _ rfl (by kernel_rfl) rfl rfl rfl (UOp_sub _ _ _ _ _ _ _ rfl rfl rfl) ?_
   refine AU_all [0, 3, 10] (by kernel_rfl) rfl (allc ?_ (allc ?_ (allc ?_ (fun _ h => nomatch h))))
   ·refine US_of 0 rfl rfl ?_
    refine AOps_q 9 _ rfl rfl rfl (QOp_loadN_pv _ _ _ _ _ _ rfl Try.isAgg29 Try.sizeOf29 rfl (colD_all _) (colD_length _)) ?_
    refine AOps_nil ?_
    exact AU_to (by kernel_rfl) hS8 (Weak_keep 0 hm [8, 9, 10, 17, 18, 20] [] _ _ rfl rfl rfl)
   ·refine US_of 3 rfl rfl ?_
    refine AOps_buildSlice 12 _ _ _ [] (intsD ([] : List Int)) _ rfl rfl rfl rfl rfl (by decide) Try.underlying24 Try.sizeOf2 (zero_of Try.typeInfo2 rfl) rfl rfl (intsD_one _) ?_
    refine AOps_nil ?_
    exact AU_to (by kernel_rfl) hS9 (Weak_keep 0 hm [4, 8, 10, 12, 17, 18, 20] [0] _ _ rfl rfl rfl)
   refine US_of 10 rfl rfl ?_
   refine AOps_buildSlice 19 _ _ _ [] (rowsD ([] : List (List Int))) _ rfl rfl rfl rfl rfl (by decide) Try.underlying45 Try.sizeOf24 (zero_of Try.typeInfo24 rfl) rfl rfl (rowsD_one _) ?_
   refine AOps_nil ?_
   exact AU_to (by kernel_rfl) hS10 (Weak_keep 0 hm [4, 8, 10, 17, 18, 19, 20] [0] _ _ rfl rfl rfl)
  refine US_of 10 rfl rfl ?_
  refine AOps_buildSlice 19 _ _ _ [] (rowsD ([] : List (List Int))) _ rfl rfl rfl rfl rfl (by decide) Try.underlying45 Try.sizeOf24 (zero_of Try.typeInfo24 rfl) rfl rfl (rowsD_one _) ?_
  refine AOps_nil ?_
  refine AU_all [0, 3, 5] (by kernel_rfl) rfl (allc ?_ (allc ?_ (allc ?_ (fun _ h => nomatch h))))
  ·refine US_of 0 rfl rfl ?_
   refine AOps_q 9 _ rfl rfl rfl (QOp_loadN_pv _ _ _ _ _ _ rfl Try.isAgg29 Try.sizeOf29 rfl (colD_all _) (colD_length _)) ?_
   refine AOps_nil ?_
   exact AU_to (by kernel_rfl) hS16 (Weak_keep 0 hm [8, 9, 10, 13, 18, 19, 20] [0] _ _ rfl rfl rfl)
  ·refine US_of 3 rfl rfl ?_
   refine AOps_buildSlice 12 _ _ _ [] (intsD ([] : List Int)) _ rfl rfl rfl rfl rfl (by decide) Try.underlying24 Try.sizeOf2 (zero_of Try.typeInfo2 rfl) rfl rfl (intsD_one _) ?_
   refine AOps_nil ?_
   exact AU_to (by kernel_rfl) hS17 (Weak_keep 0 hm [4, 8, 10, 12, 13, 18, 19, 20] [1, 0] _ _ rfl rfl rfl)
  refine US_of 5 rfl rfl ?_
  refine AOps_q 14 _ rfl rfl rfl (QOp_load_pv _ _ _ _ _ rfl Try.isAgg2 rfl rfl) ?_
  refine AOps_nil ?_
  refine AU_u 6 15 _ rfl (by kernel_rfl) rfl rfl rfl (UOp_conv _ _ _ _ _ _ rfl rfl Try.underlying106 rfl) ?_
  refine AU_u 7 16 _ rfl (by kernel_rfl) rfl rfl rfl (UOp_shl _ _ _ _ _ _ _ _ hc2 rfl rfl rfl) ?_
  refine AU_u 8 17 _ rfl (by kernel_rfl) rfl rfl rfl (UOp_sub _ _ _ _ _ _ _ rfl rfl rfl) ?_
  exact AU_to (by kernel_rfl) hS10 (Weak_keep 0 hm [4, 8, 10, 17, 18, 19, 20] [0] _ _ rfl rfl rfl)
 refine ACode_ret ?_
 cases h
 exact ⟨_, _, Weak_reset 0 hm hz [8] _ _ rfl rfl, _, _, [0], _, (.cons (ResV_tmp _ _ rfl) .nil), rfl, rfl, rfl, rfl, rfl⟩

-- loop.example/g01362/spec.l02Greatest
def spec_l02Greatest_l0 (k : Nat) (p0 : Col) (p1 : Int) : Nat → (List Int) → Option (List Int)
 | 0, _ => none
 | k0 + 1, x1 => (spec_l02List k p0 p1 (w64 ((x1.length : Int) + 1)) 1).bind fun r2 => (if decide ((r2.length : Int) = 0) then some x1 else (if 0 ≤ (0 : Int) ∧ (0 : Int) < (r2.length : Int) then spec_l02Greatest_l0 k p0 p1 k0 (r2.getD (0 : Int).toNat []) else none))
def spec_l02Greatest (k : Nat) (p0 : Col) (p1 : Int) : Option (List Int) :=
 (spec_l02Greatest_l0 k p0 p1 k ([0]) : Option (List Int)).bind fun s5 => some s5
set_option maxRecDepth 100000 in
theorem spec_l02Greatest_ac (k : Nat) (p0 : Col) (p1 : Int) (r : List Int) (h : spec_l02Greatest k p0 p1 = some r) : AC Try.prog 117 [.d (.agg (colD p0)), iV p1] [] (fun res H' => res = [.d (.sl none (intsD r))] ∧ H' = []) := by
 refine AC_of_body true Try.func117 rfl Try.ntmps117 (rvs := [.tmp 4]) rfl rfl (fun G hG => ?_)
 have hm : G.H.length = 0 := by rw [hG]; rfl
 have hz : zeroG G.H = true := by rw [hG]; rfl
 unfold spec_l02Greatest at h
 refine kR ?_
 refine AOps_boxI 2 _ _ (.agg (colD p0)) (colD p0) rfl (colD_one _) rfl rfl rfl rfl rfl ?_
 refine kN 1 rfl ?_
 refine kR ?_
 refine AOps_buildSlice 7 _ _ _ [_] (intsD ([0])) _ rfl rfl rfl rfl rfl (by decide) Try.underlying24 Try.sizeOf2 (zero_of Try.typeInfo2 rfl) rfl rfl (intsD_one _) ?_
 refine kN 1 rfl ?_
 refine kB (fun s5 => [(5, .d (.sl none (intsD s5)))]) (fun s5 => []) h (fun s5 h => ?_) (fun s5 h => ?_)
 ·refine ACode_block ?_
  refine ACode_loopW (fun k0 E H => ∃ (x1 : List Int), E = [(1, iV p1), (2, .d (.pv (colD p0) 0)), (5, .d (.sl none (intsD x1)))] ∧ H = [] ∧ spec_l02Greatest_l0 k p0 p1 k0 x1 = some s5) k _ _ (Weak_trans (Weak_frz [5, 7] [] 0 0 _ (allc (rfl) (allc (rfl) (fun _ h => nomatch h))) (fun _ h => nomatch h) rfl) (Weak_keep 0 hm [1, 2, 5] [] _ _ rfl rfl rfl)) ⟨_, rfl, rfl, h⟩ ?_
  clear h
  rintro k0 E H ⟨x1, rfl, rfl, h⟩
  cases k0 with
  | zero => cases (show (none : Option (List Int)) = some _ from h)
  | succ k0 =>
   rw [spec_l02Greatest_l0] at h
   refine ACode_block ?_
   refine kR ?_
   refine AOps_q 8 _ rfl rfl rfl (QOp_loadN_pv _ _ _ _ _ _ rfl Try.isAgg29 Try.sizeOf29 rfl (colD_all _) (colD_length _)) ?_
   refine kM 2 rfl ?_
   refine AOps_q 11 _ rfl rfl rfl (QOp_len_sl _ _ _ _ _ _ _ (intsD_length _) rfl rfl rfl rfl Try.underlying24 rfl) ?_
   refine AOps_q 12 _ rfl rfl rfl (QOp_add _ _ _ _ _ _ _ rfl rfl rfl) ?_
   obtain ⟨r2, hr2, h⟩ := bindO h
   refine kC [] 13 (.vec 0 0) [.vec 0 (rowsD r2)] rfl Try.call108 rfl rfl (spec_l02List_ac k p0 p1 (w64 ((x1.length : Int) + 1)) 1 _ hr2) rfl ?_
   refine kN 1 rfl ?_
   refine ACode_seq ?_
   refine kR ?_
   refine kM 1 rfl ?_
   refine AOps_q 15 _ rfl rfl rfl (QOp_len_vec _ _ _ _ _ _ _ _ (rowsD_length _) rfl rfl rfl rfl Try.underlying45 rfl rfl) ?_
   refine AOps_q 16 _ rfl rfl rfl (QOp_eql _ _ _ _ _ _ _ rfl rfl rfl) ?_
   refine AOps_nil ?_
   refine kI h rfl (fun h _ => ?_) (fun h _ => ?_)
   ·refine ACode_exit ?_
    cases h
    exact Weak_keep 0 hm [5] [] _ _ rfl rfl rfl
   refine ACode_skip ?_
   refine (ACode_region ?_)
   refine kM 1 rfl ?_
   obtain ⟨hc4, h⟩ := guardO h
   refine AOps_q 18 _ rfl rfl rfl (QOp_indexAddr_vec _ _ _ _ _ _ _ _ _ rfl Try.underlying45 Try.sizeOf24 hc4.1 (by rw [rowsD_length]; exact hc4.2) rfl rfl rfl) ?_
   refine AOps_q 19 _ rfl rfl rfl (QOp_load_eptr _ _ _ _ _ _ _ rfl Try.isAgg24 rfl rfl (rowsD_get _ _ [] (by omega))) ?_
   refine kN 1 rfl ?_
   exact ⟨k0, _, _, Nat.lt_succ_self _, Weak_keep 0 hm [1, 2, 5] [] _ _ rfl rfl rfl, _, rfl, rfl, h⟩
 refine kR ?_
 refine kN 2 rfl ?_
 refine ACode_ret ?_
 cases h
 exact ⟨_, _, fun r a w h => ⟨r, h⟩, _, _, [], _, (.cons (ResV_tmp _ _ rfl) .nil), rfl, rfl, rfl, rfl, rfl⟩

-- loop.example/g01362/spec.CliqueNumbers
def spec_CliqueNumbers_l0 (k : Nat) (p0 : Col) : Nat → Int → (List Int) → Option (List Int)
 | 0, _, _ => none
 | k0 + 1, x3, x4 => (if decide (x3 < p0.k) then (spec_l02Greatest k p0 x3).bind fun r6 => (if x4.length + ([(r6.length : Int)]).length ≤ 1099511627776 then spec_CliqueNumbers_l0 k p0 k0 (w64 (x3 + 1)) (x4 ++ ([(r6.length : Int)])) else none) else some x4)
def spec_CliqueNumbers (k : Nat) (p0 : Col) : Option (List Int × Int) :=
 (spec_l01Is k p0).bind fun r1 => (if !r1 then some ([], 1) else (spec_CliqueNumbers_l0 k p0 k 0 ([] : List Int) : Option (List Int)).bind fun s8 => some (s8, 0))
set_option maxRecDepth 100000 in
theorem spec_CliqueNumbers_ac (k : Nat) (p0 : Col) (r : List Int × Int) (h : spec_CliqueNumbers k p0 = some r) : AC Try.prog 52 [.d (.agg (colD p0))] [] (fun res H' => res = [.d (.sl none (intsD r.1)), iV r.2] ∧ H' = []) := by
 refine AC_of_body true Try.func52 rfl Try.ntmps52 (rvs := [.tmp 2, .tmp 3]) rfl rfl (fun G hG => ?_)
 have hm : G.H.length = 0 := by rw [hG]; rfl
 have hz : zeroG G.H = true := by rw [hG]; rfl
 unfold spec_CliqueNumbers at h
 refine kR ?_
 refine AOps_boxI 1 _ _ (.agg (colD p0)) (colD p0) rfl (colD_one _) rfl rfl rfl rfl rfl ?_
 refine kN 2 rfl ?_
 refine ACode_seq ?_
 refine kR ?_
 refine AOps_q 6 _ rfl rfl rfl (QOp_loadN_pv _ _ _ _ _ _ rfl Try.isAgg29 Try.sizeOf29 rfl (colD_all _) (colD_length _)) ?_
 obtain ⟨r1, hr1, h⟩ := bindO h
 refine kC [] 7 (bV r1) [] rfl Try.call94 rfl rfl (spec_l01Is_ac k p0 _ hr1) rfl ?_
 refine AOps_q 8 _ rfl rfl rfl (QOp_not _ _ _ rfl rfl) ?_
 refine AOps_nil ?_
 refine kI h rfl (fun h _ => ?_) (fun h _ => ?_)
 ·refine kR ?_
  refine kN 2 rfl ?_
  refine ACode_ret ?_
  cases h
  exact ⟨_, _, fun r a w h => ⟨r, h⟩, _, _, [], _, (.cons (ResV_tmp _ _ rfl) (.cons (ResV_tmp _ _ rfl) .nil)), rfl, rfl, rfl, rfl, rfl⟩
 refine ACode_skip ?_
 refine kR ?_
 refine AOps_buildSlice 9 _ _ _ [] (intsD ([] : List Int)) _ rfl rfl rfl rfl rfl (by decide) Try.underlying24 Try.sizeOf2 (zero_of Try.typeInfo2 rfl) rfl rfl (intsD_one _) ?_
 refine kN 1 rfl ?_
 refine kB (fun s8 => [(4, .vec 0 0)]) (fun s8 => [.vec 0 (intsD s8)]) h (fun s8 h => ?_) (fun s8 h => ?_)
 ·refine kR ?_
  refine kN 1 rfl ?_
  refine ACode_block ?_
  refine ACode_loopW (fun k0 E H => ∃ (x3 : Int) (x4 : List Int), E = [(1, .d (.pv (colD p0) 0)), (4, .vec 0 0), (5, iV x3)] ∧ H = [.vec 0 (intsD x4)] ∧ spec_CliqueNumbers_l0 k p0 k0 x3 x4 = some s8) k _ _ (Weak_keep 0 hm [1, 4, 5] [0] _ _ rfl rfl rfl) ⟨_, _, rfl, rfl, h⟩ ?_
  clear h
  rintro k0 E H ⟨x3, x4, rfl, rfl, h⟩
  cases k0 with
  | zero => cases (show (none : Option (List Int)) = some _ from h)
  | succ k0 =>
   rw [spec_CliqueNumbers_l0] at h
   refine ACode_seq ?_
   refine kR ?_
   refine kM 1 rfl ?_
   refine AOps_q 11 _ rfl rfl rfl (QOp_fieldAddr_pv _ _ _ _ _ 1 _ _ rfl Try.underlying29 rfl _ Try.sizeOf2 rfl rfl) ?_
   refine AOps_q 12 _ rfl rfl rfl (QOp_load_pv _ _ _ _ _ rfl Try.isAgg2 rfl rfl) ?_
   refine AOps_q 13 _ rfl rfl rfl (QOp_lss _ _ _ _ _ _ _ rfl rfl rfl) ?_
   refine AOps_nil ?_
   refine kI h rfl (fun h _ => ?_) (fun h _ => ?_)
   ·refine ACode_skip ?_
    refine ACode_seq ?_
    refine ACode_block ?_
    refine (ACode_region ?_)
    refine kM 1 rfl ?_
    refine AOps_q 17 _ rfl rfl rfl (QOp_loadN_pv _ _ _ _ _ _ rfl Try.isAgg29 Try.sizeOf29 rfl (colD_all _) (colD_length _)) ?_
    refine kM 1 rfl ?_
    obtain ⟨r6, hr6, h⟩ := bindO h
    refine kC [] 19 (.d (.sl none (intsD r6))) [.vec 0 (intsD x4)] rfl Try.call117 rfl rfl (spec_l02Greatest_ac k p0 x3 _ hr6) rfl ?_
    refine AOps_q 20 _ rfl rfl rfl (QOp_len_sl _ _ _ _ _ _ _ (intsD_length _) rfl rfl rfl rfl Try.underlying24 rfl) ?_
    refine AOps_buildSlice 21 _ _ _ [_] (intsD ([(r6.length : Int)])) _ rfl rfl rfl rfl rfl (by decide) Try.underlying24 Try.sizeOf2 (zero_of Try.typeInfo2 rfl) rfl rfl (intsD_one _) ?_
    obtain ⟨hc7, h⟩ := guardO h
    refine AOps_append 22 _ _ _ _ _ _ _ _ _ _ _ _ rfl rfl rfl rfl rfl rfl rfl Try.underlying24 Try.type2 rfl rfl rfl (by decide) rfl rfl rfl rfl (intsD_one _) (by rw [intsD_length, intsD_length]; exact hc7) ?_
    rw [intsD_app]
    refine kN 1 rfl ?_
    refine (ACode_region ?_)
    refine kM 1 rfl ?_
    refine AOps_q 15 _ rfl rfl rfl (QOp_add _ _ _ _ _ _ _ rfl rfl rfl) ?_
    refine kN 1 rfl ?_
    exact ⟨k0, _, _, Nat.lt_succ_self _, Weak_trans (Weak_keep 0 hm [1, 4, 5] [0] _ _ rfl rfl rfl) (Weak_reset 0 hm hz [1, 4, 5] _ _ rfl rfl), _, _, rfl, rfl, h⟩
   refine ACode_exit ?_
   cases h
   exact Weak_keep 0 hm [4] [0] _ _ rfl rfl rfl
 refine kR ?_
 refine kN 3 rfl ?_
 refine ACode_ret ?_
 cases h
 exact ⟨_, _, fun r a w h => ⟨r, h⟩, _, _, [], _, (.cons (ResV_tmp _ _ rfl) (.cons (ResV_tmp _ _ rfl) .nil)), rfl, rfl, rfl, rfl, rfl⟩

-- loop.example/g01362/laws.sum
def laws_sum_l0 (p0 : List Int) : Nat → Int → Int → Option (Int)
 | 0, _, _ => none
 | k0 + 1, x1, x2 => (if decide (x2 < (p0.length : Int)) then (if 0 ≤ x2 ∧ x2 < (p0.length : Int) then laws_sum_l0 p0 k0 (w64 (x1 + (p0.getD x2.toNat 0))) (w64 (x2 + 1)) else none) else some x1)
def laws_sum (k : Nat) (p0 : List Int) : Option (Int) :=
 (laws_sum_l0 p0 k 0 0 : Option (Int)).bind fun s5 => some s5
set_option maxRecDepth 100000 in
theorem laws_sum_ac (k : Nat) (p0 : List Int) (r : Int) (h : laws_sum k p0 = some r) : AC Try.prog 53 [.d (.sl none (intsD p0))] [] (fun res H' => res = [iV r] ∧ H' = []) := by
 refine AC_of_body true Try.func53 rfl Try.ntmps53 (rvs := [.tmp 2]) rfl rfl (fun G hG => ?_)
 have hm : G.H.length = 0 := by rw [hG]; rfl
 have hz : zeroG G.H = true := by rw [hG]; rfl
 unfold laws_sum at h
 refine kR ?_
 refine kN 1 rfl ?_
 refine kR ?_
 refine kN 1 rfl ?_
 refine kB (fun s5 => [(3, iV s5)]) (fun s5 => []) h (fun s5 h => ?_) (fun s5 h => ?_)
 ·refine kR ?_
  refine kN 1 rfl ?_
  refine ACode_block ?_
  refine ACode_loopW (fun k0 E H => ∃ (x1 : Int) (x2 : Int), E = [(0, .d (.sl none (intsD p0))), (3, iV x1), (4, iV x2)] ∧ H = [] ∧ laws_sum_l0 p0 k0 x1 x2 = some s5) k _ _ (Weak_keep 0 hm [0, 3, 4] [] _ _ rfl rfl rfl) ⟨_, _, rfl, rfl, h⟩ ?_
  clear h
  rintro k0 E H ⟨x1, x2, rfl, rfl, h⟩
  cases k0 with
  | zero => cases (show (none : Option (Int)) = some _ from h)
  | succ k0 =>
   rw [laws_sum_l0] at h
   refine ACode_seq ?_
   refine kR ?_
   refine kM 2 rfl ?_
   refine AOps_q 7 _ rfl rfl rfl (QOp_len_sl _ _ _ _ _ _ _ (intsD_length _) rfl rfl rfl rfl Try.underlying24 rfl) ?_
   refine AOps_q 8 _ rfl rfl rfl (QOp_lss _ _ _ _ _ _ _ rfl rfl rfl) ?_
   refine AOps_nil ?_
   refine kI h rfl (fun h _ => ?_) (fun h _ => ?_)
   ·refine ACode_skip ?_
    refine ACode_seq ?_
    refine ACode_block ?_
    refine (ACode_region ?_)
    refine kM 3 rfl ?_
    obtain ⟨hc4, h⟩ := guardO h
    refine AOps_q 14 _ rfl rfl rfl (QOp_indexAddr_sl _ _ _ _ _ _ _ _ rfl Try.underlying24 Try.sizeOf2 hc4.1 (by rw [intsD_length]; exact hc4.2) rfl rfl) ?_
    refine AOps_q 15 _ rfl rfl rfl (QOp_load_pv _ _ _ _ _ rfl Try.isAgg2 rfl (intsD_get _ _ 0 (by omega))) ?_
    refine AOps_q 16 _ rfl rfl rfl (QOp_add _ _ _ _ _ _ _ rfl rfl rfl) ?_
    refine kN 1 rfl ?_
    refine (ACode_region ?_)
    refine kM 1 rfl ?_
    refine AOps_q 10 _ rfl rfl rfl (QOp_add _ _ _ _ _ _ _ rfl rfl rfl) ?_
    refine kN 1 rfl ?_
    exact ⟨k0, _, _, Nat.lt_succ_self _, Weak_keep 0 hm [0, 3, 4] [] _ _ rfl rfl rfl, _, _, rfl, rfl, h⟩
   refine ACode_exit ?_
   cases h
   exact Weak_keep 0 hm [3] [] _ _ rfl rfl rfl
 refine kR ?_
 refine kN 2 rfl ?_
 refine ACode_ret ?_
 cases h
 exact ⟨_, _, fun r a w h => ⟨r, h⟩, _, _, [], _, (.cons (ResV_tmp _ _ rfl) .nil), rfl, rfl, rfl, rfl, rfl⟩

-- loop.example/g01362/laws.FnTriangles
def laws_FnTriangles_l0 (r25 : Option (List (List Int)) × Int) : Nat → Int → Int → Option (Int)
 | 0, _, _ => none
 | k0 + 1, x40, x41 => (if decide (x41 < ((r25.1.getD []).length : Int)) then (if 0 ≤ x41 ∧ x41 < ((r25.1.getD []).length : Int) then laws_FnTriangles_l0 r25 k0 (if x40 < (((r25.1.getD []).getD x41.toNat []).length : Int) then (((r25.1.getD []).getD x41.toNat []).length : Int) else x40) (w64 (x41 + 1)) else none) else some x40)
def laws_FnTriangles (k : Nat) (p0 : List UInt8) : Option (Bool) :=
 (if (laws_big p0) then some true else (spec_DrawCountTriangles k p0).bind fun r3 => (impl_CountTriangles k r3).bind fun r4 => ((spec_CountTriangles k r3).bind fun r5 => ((if !decide (r4.2 = r5.2) then some true else (laws_likeInts k (r4.1.getD []) r5.1).bind fun r7 => some (!r7)) : Option (Bool)).bind fun s8 => (if s8 then some (.inr false) else some (.inl ())) : Option (Sum (Unit) (Bool))).bind fun os10 => (match os10 with | .inl s10 => (impl_AngleNumber k r3).bind fun r11 => ((spec_AngleNumber k r3).bind fun r12 => letO (if !decide (r11.2 = r12.2) then true else !decide (r11.1 = r12.1)) fun (s14 : Bool) => (if s14 then some (.inr false) else some (.inl ())) : Option (Sum (Unit) (Bool))).bind fun os16 => (match os16 with | .inl s16 => (spec_DrawLeastTriangles k p0).bind fun r17 => (letO (if !decide ((impl_LeastTriangles r17).2 = (spec_LeastTriangles r17).2) then true else !decide ((impl_LeastTriangles r17).1 = (spec_LeastTriangles r17).1)) fun (s21 : Bool) => (if s21 then some (.inr false) else some (.inl ())) : Option (Sum (Unit) (Bool))).bind fun os23 => (match os23 with | .inl s23 => (spec_DrawFullCliques k p0).bind fun r24 => (impl_FullCliques k r24.1 r24.2).bind fun r25 => ((spec_FullCliques k r24.1 r24.2).bind fun r26 => ((if !decide (r25.2 = r26.2) then some true else (laws_rows9 k (r25.1.getD []) r26.1).bind fun r28 => some (!r28)) : Option (Bool)).bind fun s29 => (if s29 then some (.inr false) else some (.inl ())) : Option (Sum (Unit) (Bool))).bind fun os31 => (match os31 with | .inl s31 => (impl_CliqueNumbers k r24.1).bind fun r32 => ((spec_CliqueNumbers k r24.1).bind fun r33 => ((if !decide (r32.2 = r33.2) then some true else (laws_likeInts k (r32.1.getD []) r33.1).bind fun r35 => some (!r35)) : Option (Bool)).bind fun s36 => (if s36 then some (.inr false) else some (.inl ())) : Option (Sum (Unit) (Bool))).bind fun os38 => (match os38 with | .inl s38 => ((if decide (r25.2 = 0) then (laws_FnTriangles_l0 r25 k 0 0 : Option (Int)).bind fun s44 => ((if !decide (r32.2 = 0) then some true else (if 0 ≤ r24.2 ∧ r24.2 < ((r32.1.getD []).length : Int) then some (!decide (s44 = ((r32.1.getD []).getD r24.2.toNat 0))) else none)) : Option (Bool)).bind fun s47 => (if s47 then some (.inr false) else some (.inl ())) else some (.inl ())) : Option (Sum (Unit) (Bool))).bind fun os49 => (match os49 with | .inl s49 => (if !decide (r4.2 = 0) then letO (if decide (((r4.1.getD []).length : Int) = 0) then decide (r11.2 = r4.2) else false) fun (s52 : Bool) => some s52 else (((if !decide (r11.2 = 0) then some true else (if !decide ((impl_LeastTriangles r3.p).2 = 0) then some true else (laws_sum k (r4.1.getD [])).bind fun r56 => some (decide (w64 ((w64 ((w64 (r3.p * (w64 (r3.p - 1)))) * (w64 (r3.p - 2)))).tdiv 6) < r56)))) : Option (Bool)).bind fun s57 => (if s57 then some (.inr false) else some (.inl ())) : Option (Sum (Unit) (Bool))).bind fun os59 => (match os59 with | .inl s59 => (if decide (2 < r3.k) then (laws_sum k (r4.1.getD [])).bind fun r61 => some (decide (w64 (2 * (w64 ((w64 ((w64 ((w64 (r3.p * (w64 (r3.p - 1)))) * (w64 (r3.p - 2)))).tdiv 6)) - r61))) ≤ r11.1)) else ((laws_sum k (r4.1.getD [])).bind fun r62 => (if decide ((impl_LeastTriangles r3.p).1 ≤ r62) then (laws_sum k (r4.1.getD [])).bind fun r64 => some (decide (r11.1 = w64 (2 * (w64 ((w64 ((w64 ((w64 (r3.p * (w64 (r3.p - 1)))) * (w64 (r3.p - 2)))).tdiv 6)) - r64))))) else some false) : Option (Bool)).bind fun s65 => some s65) | .inr rr => some rr)) | .inr rr => some rr) | .inr rr => some rr) | .inr rr => some rr) | .inr rr => some rr) | .inr rr => some rr) | .inr rr => some rr))
set_option maxRecDepth 100000 in
theorem laws_FnTriangles_ac (k : Nat) (p0 : List UInt8) (r : Bool) (h : laws_FnTriangles k p0 = some r) : AC Try.prog 5 [.d (.sl none (bysD p0))] [] (fun res H' => res = [bV r] ∧ H' = []) := by
 refine AC_of_body true Try.func5 rfl Try.ntmps5 (rvs := [.tmp 2]) rfl rfl (fun G hG => ?_)
 have hm : G.H.length = 0 := by rw [hG]; rfl
 have hz : zeroG G.H = true := by rw [hG]; rfl
 unfold laws_FnTriangles at h
 refine kR ?_
 refine kN 1 rfl ?_
 refine ACode_seq ?_
 refine kR ?_
 refine kM 1 rfl ?_
 refine kC [] 34 (bV (laws_big p0)) [] rfl Try.call9 rfl rfl (laws_big_ac p0) rfl ?_
 refine AOps_nil ?_
 refine kI h rfl (fun h _ => ?_) (fun h _ => ?_)
 ·refine kR ?_
  refine kN 1 rfl ?_
  refine ACode_ret ?_
  cases h
  exact ⟨_, _, fun r a w h => ⟨r, h⟩, _, _, [], _, (.cons (ResV_tmp _ _ rfl) .nil), rfl, rfl, rfl, rfl, rfl⟩
 refine ACode_skip ?_
 refine kR ?_
 refine kM 1 rfl ?_
 obtain ⟨r3, hr3, h⟩ := bindO h
 refine kC [] 36 (.d (.agg (colD r3))) [] rfl Try.call40 rfl rfl (spec_DrawCountTriangles_ac k p0 _ hr3) rfl ?_
 refine AOps_alloc 3 _ _ (colD Col.zero) (zero_of Try.typeInfo29 rfl) (by rfl) rfl rfl rfl rfl ?_
 refine AOps_store _ _ _ _ _ _ (colD _) _ _ rfl rfl rfl rfl rfl rfl rfl (colD_one _) (by rw [colD_length]; exact Try.sizeOf29) (by rw [colD_length, colD_length]; decide) (colD_whole _ _) ?_
 refine AOps_nil ?_
 refine kR ?_
 refine AOps_q 38 _ rfl rfl rfl (QOp_loadN_ptr _ _ _ _ _ _ _ rfl Try.isAgg29 Try.sizeOf29 rfl rfl (colD_all _) (colD_length _)) ?_
 obtain ⟨r4, hr4, h⟩ := bindO h
 refine kC [] 39 (.tup [.d (.sl none (intsD (r4.1.getD []))), iV r4.2]) [.box (colD r3)] rfl Try.call41 rfl rfl (AC_frz rfl (frz_cons frz_nil) (impl_CountTriangles_ac k r3 _ hr4)) rfl ?_
 refine kN 5 rfl ?_
 refine kO (fun s10 => [(0, .d (.sl none (bysD p0))), (3, .ptr 0 0), (4, .d (.sl none (intsD (r4.1.getD [])))), (5, iV r4.2)]) (fun s10 => [.box (colD r3)]) h (fun os10 h hks10 => ?_) (fun s10 h => ?_)
 ·refine kR ?_
  refine AOps_q 43 _ rfl rfl rfl (QOp_loadN_ptr _ _ _ _ _ _ _ rfl Try.isAgg29 Try.sizeOf29 rfl rfl (colD_all _) (colD_length _)) ?_
  obtain ⟨r5, hr5, h⟩ := bindO h
  refine kC [] 44 (.tup [.d (.sl none (intsD r5.1)), iV r5.2]) [.box (colD r3)] rfl Try.call42 rfl rfl (spec_CountTriangles_ac k r3 _ hr5) rfl ?_
  refine kN 5 rfl ?_
  refine kB (fun s8 => [(0, .d (.sl none (bysD p0))), (3, .ptr 0 0), (4, .d (.sl none (intsD (r4.1.getD [])))), (5, iV r4.2), (55, bV s8)]) (fun s8 => [.box (colD r3)]) h (fun s8 h => ?_) (fun s8 h => ?_)
  ·refine (ACode_region ?_)
   refine kM 2 rfl ?_
   refine AOps_q 49 _ rfl rfl rfl (QOp_neq _ _ _ _ _ _ _ rfl rfl rfl) ?_
   refine kM 1 rfl ?_
   refine AOps_case 50 _ rfl (fun hb6 => ?_) (fun hb6 => ?_)
   ·have h := iteT hb6 h
    refine AOps_skip 51 rfl rfl rfl ?_
    refine AOps_skip 52 rfl rfl rfl ?_
    refine AOps_skip 53 rfl rfl rfl ?_
    refine AOps_skip 54 rfl rfl rfl ?_
    refine kN 1 rfl ?_
    cases h
    exact Weak_keep 0 hm [0, 3, 4, 5, 55] [0] _ _ rfl rfl rfl
   have h := iteF hb6 h
   refine kM 2 rfl ?_
   obtain ⟨r7, hr7, h⟩ := bindO h
   refine kC [] 53 (bV r7) [.box (colD r3)] rfl Try.call16 rfl rfl (laws_likeInts_ac k (r4.1.getD []) r5.1 _ hr7) rfl ?_
   refine AOps_q 54 _ rfl rfl rfl (QOp_not _ _ _ rfl rfl) ?_
   refine kN 1 rfl ?_
   cases h
   exact Weak_keep 0 hm [0, 3, 4, 5, 55] [0] _ _ rfl rfl rfl
  refine kI h rfl (fun h _ => ?_) (fun h _ => ?_)
  ·refine kR ?_
   refine kN 1 rfl ?_
   refine ACode_ret ?_
   cases h
   have h := hks10
   cases h
   exact ⟨_, _, fun r a w h => ⟨r, h⟩, _, _, [], _, (.cons (ResV_tmp _ _ rfl) .nil), rfl, rfl, rfl, rfl, rfl⟩
  refine ACode_skip ?_
  cases h
  exact ⟨_, rfl, Weak_keep 0 hm [0, 3, 4, 5] [0] _ _ rfl rfl rfl⟩
 refine kR ?_
 refine AOps_q 57 _ rfl rfl rfl (QOp_loadN_ptr _ _ _ _ _ _ _ rfl Try.isAgg29 Try.sizeOf29 rfl rfl (colD_all _) (colD_length _)) ?_
 obtain ⟨r11, hr11, h⟩ := bindO h
 refine kC [] 58 (.tup [iV r11.1, iV r11.2]) [.box (colD r3)] rfl Try.call43 rfl rfl (impl_AngleNumber_ac k r3 _ hr11) rfl ?_
 refine kN 5 rfl ?_
 refine kO (fun s16 => [(0, .d (.sl none (bysD p0))), (3, .ptr 0 0), (4, .d (.sl none (intsD (r4.1.getD [])))), (5, iV r4.2), (8, iV r11.1), (9, iV r11.2)]) (fun s16 => [.box (colD r3)]) h (fun os16 h hks16 => ?_) (fun s16 h => ?_)
 ·refine kR ?_
  refine AOps_q 62 _ rfl rfl rfl (QOp_loadN_ptr _ _ _ _ _ _ _ rfl Try.isAgg29 Try.sizeOf29 rfl rfl (colD_all _) (colD_length _)) ?_
  obtain ⟨r12, hr12, h⟩ := bindO h
  refine kC [] 63 (.tup [iV r12.1, iV r12.2]) [.box (colD r3)] rfl Try.call44 rfl rfl (spec_AngleNumber_ac k r3 _ hr12) rfl ?_
  refine kN 5 rfl ?_
  refine kL (fun s14 => [(0, .d (.sl none (bysD p0))), (3, .ptr 0 0), (4, .d (.sl none (intsD (r4.1.getD [])))), (5, iV r4.2), (8, iV r11.1), (9, iV r11.2), (73, bV s14)]) (fun s14 => [.box (colD r3)]) h (fun s14 h => ?_) (fun s14 h => ?_)
  ·refine (ACode_region ?_)
   refine kM 2 rfl ?_
   refine AOps_q 68 _ rfl rfl rfl (QOp_neq _ _ _ _ _ _ _ rfl rfl rfl) ?_
   refine kM 1 rfl ?_
   refine AOps_case 69 _ rfl (fun hb13 => ?_) (fun hb13 => ?_)
   ·have h := iteT hb13 h
    refine AOps_skip 70 rfl rfl rfl ?_
    refine AOps_skip 71 rfl rfl rfl ?_
    refine AOps_skip 72 rfl rfl rfl ?_
    refine kN 1 rfl ?_
    cases h
    exact Weak_keep 0 hm [0, 3, 4, 5, 8, 9, 73] [0] _ _ rfl rfl rfl
   have h := iteF hb13 h
   refine kM 2 rfl ?_
   refine AOps_q 72 _ rfl rfl rfl (QOp_neq _ _ _ _ _ _ _ rfl rfl rfl) ?_
   refine kN 1 rfl ?_
   cases h
   exact Weak_keep 0 hm [0, 3, 4, 5, 8, 9, 73] [0] _ _ rfl rfl rfl
  refine kI h rfl (fun h _ => ?_) (fun h _ => ?_)
  ·refine kR ?_
   refine kN 1 rfl ?_
   refine ACode_ret ?_
   cases h
   have h := hks16
   cases h
   exact ⟨_, _, fun r a w h => ⟨r, h⟩, _, _, [], _, (.cons (ResV_tmp _ _ rfl) .nil), rfl, rfl, rfl, rfl, rfl⟩
  refine ACode_skip ?_
  cases h
  exact ⟨_, rfl, Weak_keep 0 hm [0, 3, 4, 5, 8, 9] [0] _ _ rfl rfl rfl⟩
 refine kR ?_
 refine kM 1 rfl ?_
 obtain ⟨r17, hr17, h⟩ := bindO h
 refine kC [] 75 (iV r17) [.box (colD r3)] rfl Try.call45 rfl rfl (spec_DrawLeastTriangles_ac k p0 _ hr17) rfl ?_
 refine kN 1 rfl ?_
 refine kR ?_
 refine kM 1 rfl ?_
 refine kC [] 78 (.tup [iV ((impl_LeastTriangles r17).1), iV ((impl_LeastTriangles r17).2)]) [.box (colD r3)] rfl Try.call46 rfl rfl (impl_LeastTriangles_ac r17) rfl ?_
 refine kN 5 rfl ?_
 refine kO (fun s23 => [(0, .d (.sl none (bysD p0))), (3, .ptr 0 0), (4, .d (.sl none (intsD (r4.1.getD [])))), (5, iV r4.2), (8, iV r11.1), (9, iV r11.2)]) (fun s23 => [.box (colD r3)]) h (fun os23 h hks23 => ?_) (fun s23 h => ?_)
 ·refine kR ?_
  refine kM 1 rfl ?_
  refine kC [] 83 (.tup [iV ((spec_LeastTriangles r17).1), iV ((spec_LeastTriangles r17).2)]) [.box (colD r3)] rfl Try.call47 rfl rfl (spec_LeastTriangles_ac r17) rfl ?_
  refine kN 5 rfl ?_
  refine kL (fun s21 => [(0, .d (.sl none (bysD p0))), (3, .ptr 0 0), (4, .d (.sl none (intsD (r4.1.getD [])))), (5, iV r4.2), (8, iV r11.1), (9, iV r11.2), (93, bV s21)]) (fun s21 => [.box (colD r3)]) h (fun s21 h => ?_) (fun s21 h => ?_)
  ·refine (ACode_region ?_)
   refine kM 2 rfl ?_
   refine AOps_q 88 _ rfl rfl rfl (QOp_neq _ _ _ _ _ _ _ rfl rfl rfl) ?_
   refine kM 1 rfl ?_
   refine AOps_case 89 _ rfl (fun hb20 => ?_) (fun hb20 => ?_)
   ·have h := iteT hb20 h
    refine AOps_skip 90 rfl rfl rfl ?_
    refine AOps_skip 91 rfl rfl rfl ?_
    refine AOps_skip 92 rfl rfl rfl ?_
    refine kN 1 rfl ?_
    cases h
    exact Weak_keep 0 hm [0, 3, 4, 5, 8, 9, 93] [0] _ _ rfl rfl rfl
   have h := iteF hb20 h
   refine kM 2 rfl ?_
   refine AOps_q 92 _ rfl rfl rfl (QOp_neq _ _ _ _ _ _ _ rfl rfl rfl) ?_
   refine kN 1 rfl ?_
   cases h
   exact Weak_keep 0 hm [0, 3, 4, 5, 8, 9, 93] [0] _ _ rfl rfl rfl
  refine kI h rfl (fun h _ => ?_) (fun h _ => ?_)
  ·refine kR ?_
   refine kN 1 rfl ?_
   refine ACode_ret ?_
   cases h
   have h := hks23
   cases h
   exact ⟨_, _, fun r a w h => ⟨r, h⟩, _, _, [], _, (.cons (ResV_tmp _ _ rfl) .nil), rfl, rfl, rfl, rfl, rfl⟩
  refine ACode_skip ?_
  cases h
  exact ⟨_, rfl, Weak_keep 0 hm [0, 3, 4, 5, 8, 9] [0] _ _ rfl rfl rfl⟩
 refine kR ?_
 refine kM 1 rfl ?_
 obtain ⟨r24, hr24, h⟩ := bindO h
 refine kC [] 96 (.tup [.d (.agg (colD r24.1)), iV r24.2]) [.box (colD r3)] rfl Try.call48 rfl rfl (spec_DrawFullCliques_ac k p0 _ hr24) rfl ?_
 refine kM 3 rfl ?_
 refine AOps_alloc 17 _ _ (colD Col.zero) (zero_of Try.typeInfo29 rfl) (by rfl) rfl rfl rfl rfl ?_
 refine AOps_store _ _ _ _ _ _ (colD _) _ _ rfl rfl rfl rfl rfl rfl rfl (colD_one _) (by rw [colD_length]; exact Try.sizeOf29) (by rw [colD_length, colD_length]; decide) (colD_whole _ _) ?_
 refine kN 1 rfl ?_
 refine kR ?_
 refine AOps_q 100 _ rfl rfl rfl (QOp_loadN_ptr _ _ _ _ _ _ _ rfl Try.isAgg29 Try.sizeOf29 rfl rfl (colD_all _) (colD_length _)) ?_
 refine kM 1 rfl ?_
 obtain ⟨r25, hr25, h⟩ := bindO h
 refine kC [] 102 (.tup [.d (.sl none (rowsD (r25.1.getD []))), iV r25.2]) [.box (colD r3), .box (colD r24.1)] rfl Try.call49 rfl rfl (AC_frz rfl (frz_cons frz_nil) (impl_FullCliques_ac k r24.1 r24.2 _ hr25)) rfl ?_
 refine kN 5 rfl ?_
 refine kO (fun s31 => [(3, .ptr 0 0), (4, .d (.sl none (intsD (r4.1.getD [])))), (5, iV r4.2), (8, iV r11.1), (9, iV r11.2), (17, .ptr 1 0), (18, iV r24.2), (19, .d (.sl none (rowsD (r25.1.getD [])))), (20, iV r25.2)]) (fun s31 => [.box (colD r3), .box (colD r24.1)]) h (fun os31 h hks31 => ?_) (fun s31 h => ?_)
 ·refine kR ?_
  refine AOps_q 106 _ rfl rfl rfl (QOp_loadN_ptr _ _ _ _ _ _ _ rfl Try.isAgg29 Try.sizeOf29 rfl rfl (colD_all _) (colD_length _)) ?_
  refine kM 1 rfl ?_
  obtain ⟨r26, hr26, h⟩ := bindO h
  refine kC [] 108 (.tup [.d (.sl none (rowsD r26.1)), iV r26.2]) [.box (colD r3), .box (colD r24.1)] rfl Try.call50 rfl rfl (spec_FullCliques_ac k r24.1 r24.2 _ hr26) rfl ?_
  refine kN 5 rfl ?_
  refine kB (fun s29 => [(3, .ptr 0 0), (4, .d (.sl none (intsD (r4.1.getD [])))), (5, iV r4.2), (8, iV r11.1), (9, iV r11.2), (17, .ptr 1 0), (18, iV r24.2), (19, .d (.sl none (rowsD (r25.1.getD [])))), (20, iV r25.2), (119, bV s29)]) (fun s29 => [.box (colD r3), .box (colD r24.1)]) h (fun s29 h => ?_) (fun s29 h => ?_)
  ·refine (ACode_region ?_)
   refine kM 2 rfl ?_
   refine AOps_q 113 _ rfl rfl rfl (QOp_neq _ _ _ _ _ _ _ rfl rfl rfl) ?_
   refine kM 1 rfl ?_
   refine AOps_case 114 _ rfl (fun hb27 => ?_) (fun hb27 => ?_)
   ·have h := iteT hb27 h
    refine AOps_skip 115 rfl rfl rfl ?_
    refine AOps_skip 116 rfl rfl rfl ?_
    refine AOps_skip 117 rfl rfl rfl ?_
    refine AOps_skip 118 rfl rfl rfl ?_
    refine kN 1 rfl ?_
    cases h
    exact Weak_keep 0 hm [3, 4, 5, 8, 9, 17, 18, 19, 20, 119] [0, 1] _ _ rfl rfl rfl
   have h := iteF hb27 h
   refine kM 2 rfl ?_
   obtain ⟨r28, hr28, h⟩ := bindO h
   refine kC [] 117 (bV r28) [.box (colD r3), .box (colD r24.1)] rfl Try.call28 rfl rfl (laws_rows9_ac k (r25.1.getD []) r26.1 _ hr28) rfl ?_
   refine AOps_q 118 _ rfl rfl rfl (QOp_not _ _ _ rfl rfl) ?_
   refine kN 1 rfl ?_
   cases h
   exact Weak_keep 0 hm [3, 4, 5, 8, 9, 17, 18, 19, 20, 119] [0, 1] _ _ rfl rfl rfl
  refine kI h rfl (fun h _ => ?_) (fun h _ => ?_)
  ·refine kR ?_
   refine kN 1 rfl ?_
   refine ACode_ret ?_
   cases h
   have h := hks31
   cases h
   exact ⟨_, _, fun r a w h => ⟨r, h⟩, _, _, [], _, (.cons (ResV_tmp _ _ rfl) .nil), rfl, rfl, rfl, rfl, rfl⟩
  refine ACode_skip ?_
  cases h
  exact ⟨_, rfl, Weak_keep 0 hm [3, 4, 5, 8, 9, 17, 18, 19, 20] [0, 1] _ _ rfl rfl rfl⟩
 refine kR ?_
 refine AOps_q 121 _ rfl rfl rfl (QOp_loadN_ptr _ _ _ _ _ _ _ rfl Try.isAgg29 Try.sizeOf29 rfl rfl (colD_all _) (colD_length _)) ?_
 obtain ⟨r32, hr32, h⟩ := bindO h
 refine kC [] 122 (.tup [.d (.sl none (intsD (r32.1.getD []))), iV r32.2]) [.box (colD r3), .box (colD r24.1)] rfl Try.call51 rfl rfl (AC_frz rfl (frz_cons frz_nil) (impl_CliqueNumbers_ac k r24.1 _ hr32)) rfl ?_
 refine kN 5 rfl ?_
 refine kO (fun s38 => [(3, .ptr 0 0), (4, .d (.sl none (intsD (r4.1.getD [])))), (5, iV r4.2), (8, iV r11.1), (9, iV r11.2), (18, iV r24.2), (19, .d (.sl none (rowsD (r25.1.getD [])))), (20, iV r25.2), (23, .d (.sl none (intsD (r32.1.getD [])))), (24, iV r32.2)]) (fun s38 => [.box (colD r3)]) h (fun os38 h hks38 => ?_) (fun s38 h => ?_)
 ·refine kR ?_
  refine AOps_q 126 _ rfl rfl rfl (QOp_loadN_ptr _ _ _ _ _ _ _ rfl Try.isAgg29 Try.sizeOf29 rfl rfl (colD_all _) (colD_length _)) ?_
  obtain ⟨r33, hr33, h⟩ := bindO h
  refine kC [] 127 (.tup [.d (.sl none (intsD r33.1)), iV r33.2]) [.box (colD r3), .box (colD r24.1)] rfl Try.call52 rfl rfl (spec_CliqueNumbers_ac k r24.1 _ hr33) rfl ?_
  refine kN 5 rfl ?_
  refine kB (fun s36 => [(3, .ptr 0 0), (4, .d (.sl none (intsD (r4.1.getD [])))), (5, iV r4.2), (8, iV r11.1), (9, iV r11.2), (18, iV r24.2), (19, .d (.sl none (rowsD (r25.1.getD [])))), (20, iV r25.2), (23, .d (.sl none (intsD (r32.1.getD [])))), (24, iV r32.2), (138, bV s36)]) (fun s36 => [.box (colD r3)]) h (fun s36 h => ?_) (fun s36 h => ?_)
  ·refine (ACode_region ?_)
   refine kM 2 rfl ?_
   refine AOps_q 132 _ rfl rfl rfl (QOp_neq _ _ _ _ _ _ _ rfl rfl rfl) ?_
   refine kM 1 rfl ?_
   refine AOps_case 133 _ rfl (fun hb34 => ?_) (fun hb34 => ?_)
   ·have h := iteT hb34 h
    refine AOps_skip 134 rfl rfl rfl ?_
    refine AOps_skip 135 rfl rfl rfl ?_
    refine AOps_skip 136 rfl rfl rfl ?_
    refine AOps_skip 137 rfl rfl rfl ?_
    refine kN 1 rfl ?_
    cases h
    exact Weak_keep 0 hm [3, 4, 5, 8, 9, 18, 19, 20, 23, 24, 138] [0] _ _ rfl rfl rfl
   have h := iteF hb34 h
   refine kM 2 rfl ?_
   obtain ⟨r35, hr35, h⟩ := bindO h
   refine kC [] 136 (bV r35) [.box (colD r3), .box (colD r24.1)] rfl Try.call16 rfl rfl (laws_likeInts_ac k (r32.1.getD []) r33.1 _ hr35) rfl ?_
   refine AOps_q 137 _ rfl rfl rfl (QOp_not _ _ _ rfl rfl) ?_
   refine kN 1 rfl ?_
   cases h
   exact Weak_keep 0 hm [3, 4, 5, 8, 9, 18, 19, 20, 23, 24, 138] [0] _ _ rfl rfl rfl
  refine kI h rfl (fun h _ => ?_) (fun h _ => ?_)
  ·refine kR ?_
   refine kN 1 rfl ?_
   refine ACode_ret ?_
   cases h
   have h := hks38
   cases h
   exact ⟨_, _, fun r a w h => ⟨r, h⟩, _, _, [], _, (.cons (ResV_tmp _ _ rfl) .nil), rfl, rfl, rfl, rfl, rfl⟩
  refine ACode_skip ?_
  cases h
  exact ⟨_, rfl, Weak_keep 0 hm [3, 4, 5, 8, 9, 18, 19, 20, 23, 24] [0] _ _ rfl rfl rfl⟩
 refine kO (fun s49 => [(3, .ptr 0 0), (4, .d (.sl none (intsD (r4.1.getD [])))), (5, iV r4.2), (8, iV r11.1), (9, iV r11.2)]) (fun s49 => [.box (colD r3)]) h (fun os49 h hks49 => ?_) (fun s49 h => ?_)
 ·refine kR ?_
  refine kM 1 rfl ?_
  refine AOps_q 140 _ rfl rfl rfl (QOp_eql _ _ _ _ _ _ _ rfl rfl rfl) ?_
  refine AOps_nil ?_
  refine kI h rfl (fun h _ => ?_) (fun h _ => ?_)
  ·refine kR ?_
   refine kN 1 rfl ?_
   refine kB (fun s44 => [(3, .ptr 0 0), (4, .d (.sl none (intsD (r4.1.getD [])))), (5, iV r4.2), (8, iV r11.1), (9, iV r11.2), (18, iV r24.2), (23, .d (.sl none (intsD (r32.1.getD [])))), (24, iV r32.2), (27, iV s44)]) (fun s44 => [.box (colD r3)]) h (fun s44 h => ?_) (fun s44 h => ?_)
   ·refine kR ?_
    refine kN 1 rfl ?_
    refine ACode_block ?_
    refine ACode_loopW (fun k0 E H => ∃ (x40 : Int) (x41 : Int), E = [(3, .ptr 0 0), (4, .d (.sl none (intsD (r4.1.getD [])))), (5, iV r4.2), (8, iV r11.1), (9, iV r11.2), (18, iV r24.2), (19, .d (.sl none (rowsD (r25.1.getD [])))), (23, .d (.sl none (intsD (r32.1.getD [])))), (24, iV r32.2), (27, iV x40), (28, iV x41)] ∧ H = [.box (colD r3)] ∧ laws_FnTriangles_l0 r25 k0 x40 x41 = some s44) k _ _ (Weak_keep 0 hm [3, 4, 5, 8, 9, 18, 19, 23, 24, 27, 28] [0] _ _ rfl rfl rfl) ⟨_, _, rfl, rfl, h⟩ ?_
    clear h
    rintro k0 E H ⟨x40, x41, rfl, rfl, h⟩
    cases k0 with
    | zero => cases (show (none : Option (Int)) = some _ from h)
    | succ k0 =>
     rw [laws_FnTriangles_l0] at h
     refine ACode_seq ?_
     refine kR ?_
     refine kM 2 rfl ?_
     refine AOps_q 143 _ rfl rfl rfl (QOp_len_sl _ _ _ _ _ _ _ (rowsD_length _) rfl rfl rfl rfl Try.underlying45 rfl) ?_
     refine AOps_q 144 _ rfl rfl rfl (QOp_lss _ _ _ _ _ _ _ rfl rfl rfl) ?_
     refine AOps_nil ?_
     refine kI h rfl (fun h _ => ?_) (fun h _ => ?_)
     ·refine ACode_skip ?_
      refine ACode_seq ?_
      refine ACode_block ?_
      refine (ACode_region ?_)
      refine kM 3 rfl ?_
      obtain ⟨hc43, h⟩ := guardO h
      refine AOps_q 150 _ rfl rfl rfl (QOp_indexAddr_sl _ _ _ _ _ _ _ _ rfl Try.underlying45 Try.sizeOf24 hc43.1 (by rw [rowsD_length]; exact hc43.2) rfl rfl) ?_
      refine AOps_q 151 _ rfl rfl rfl (QOp_load_pv _ _ _ _ _ rfl Try.isAgg24 rfl (rowsD_get _ _ [] (by omega))) ?_
      refine AOps_q 152 _ rfl rfl rfl (QOp_len_sl _ _ _ _ _ _ _ (intsD_length _) rfl rfl rfl rfl Try.underlying24 rfl) ?_
      refine AOps_q 153 _ rfl rfl rfl (QOp_max _ _ _ _ _ _ rfl rfl rfl rfl rfl) ?_
      refine kN 1 rfl ?_
      refine (ACode_region ?_)
      refine kM 1 rfl ?_
      refine AOps_q 146 _ rfl rfl rfl (QOp_add _ _ _ _ _ _ _ rfl rfl rfl) ?_
      refine kN 1 rfl ?_
      exact ⟨k0, _, _, Nat.lt_succ_self _, Weak_keep 0 hm [3, 4, 5, 8, 9, 18, 19, 23, 24, 27, 28] [0] _ _ rfl rfl rfl, _, _, rfl, rfl, h⟩
     refine ACode_exit ?_
     cases h
     exact Weak_keep 0 hm [3, 4, 5, 8, 9, 18, 23, 24, 27] [0] _ _ rfl rfl rfl
   refine kB (fun s47 => [(3, .ptr 0 0), (4, .d (.sl none (intsD (r4.1.getD [])))), (5, iV r4.2), (8, iV r11.1), (9, iV r11.2), (163, bV s47)]) (fun s47 => [.box (colD r3)]) h (fun s47 h => ?_) (fun s47 h => ?_)
   ·refine (ACode_region ?_)
    refine kM 1 rfl ?_
    refine AOps_q 155 _ rfl rfl rfl (QOp_neq _ _ _ _ _ _ _ rfl rfl rfl) ?_
    refine kM 1 rfl ?_
    refine AOps_case 156 _ rfl (fun hb45 => ?_) (fun hb45 => ?_)
    ·have h := iteT hb45 h
     refine AOps_skip 157 rfl rfl rfl ?_
     refine AOps_skip 158 rfl rfl rfl ?_
     refine AOps_skip 159 rfl rfl rfl ?_
     refine AOps_skip 160 rfl rfl rfl ?_
     refine AOps_skip 161 rfl rfl rfl ?_
     refine AOps_skip 162 rfl rfl rfl ?_
     refine kN 1 rfl ?_
     cases h
     exact Weak_keep 0 hm [3, 4, 5, 8, 9, 163] [0] _ _ rfl rfl rfl
    have h := iteF hb45 h
    refine kM 3 rfl ?_
    obtain ⟨hc46, h⟩ := guardO h
    refine AOps_q 160 _ rfl rfl rfl (QOp_indexAddr_sl _ _ _ _ _ _ _ _ rfl Try.underlying24 Try.sizeOf2 hc46.1 (by rw [intsD_length]; exact hc46.2) rfl rfl) ?_
    refine AOps_q 161 _ rfl rfl rfl (QOp_load_pv _ _ _ _ _ rfl Try.isAgg2 rfl (intsD_get _ _ 0 (by omega))) ?_
    refine AOps_q 162 _ rfl rfl rfl (QOp_neq _ _ _ _ _ _ _ rfl rfl rfl) ?_
    refine kN 1 rfl ?_
    cases h
    exact Weak_keep 0 hm [3, 4, 5, 8, 9, 163] [0] _ _ rfl rfl rfl
   refine kI h rfl (fun h _ => ?_) (fun h _ => ?_)
   ·refine kR ?_
    refine kN 1 rfl ?_
    refine ACode_ret ?_
    cases h
    have h := hks49
    cases h
    exact ⟨_, _, fun r a w h => ⟨r, h⟩, _, _, [], _, (.cons (ResV_tmp _ _ rfl) .nil), rfl, rfl, rfl, rfl, rfl⟩
   refine ACode_skip ?_
   cases h
   exact ⟨_, rfl, Weak_keep 0 hm [3, 4, 5, 8, 9] [0] _ _ rfl rfl rfl⟩
  refine ACode_skip ?_
  cases h
  exact ⟨_, rfl, Weak_keep 0 hm [3, 4, 5, 8, 9] [0] _ _ rfl rfl rfl⟩
 refine ACode_seq ?_
 refine kR ?_
 refine kM 1 rfl ?_
 refine AOps_q 165 _ rfl rfl rfl (QOp_neq _ _ _ _ _ _ _ rfl rfl rfl) ?_
 refine AOps_nil ?_
 refine kI h rfl (fun h _ => ?_) (fun h _ => ?_)
 ·refine kL (fun s52 => [(2, bV s52)]) (fun s52 => []) h (fun s52 h => ?_) (fun s52 h => ?_)
  ·refine (ACode_region ?_)
   refine kM 1 rfl ?_
   refine AOps_q 167 _ rfl rfl rfl (QOp_len_sl _ _ _ _ _ _ _ (intsD_length _) rfl rfl rfl rfl Try.underlying24 rfl) ?_
   refine AOps_q 168 _ rfl rfl rfl (QOp_eql _ _ _ _ _ _ _ rfl rfl rfl) ?_
   refine kM 1 rfl ?_
   refine AOps_case 169 _ rfl (fun hb51 => ?_) (fun hb51 => ?_)
   ·have h := iteT hb51 h
    refine kM 2 rfl ?_
    refine AOps_q 172 _ rfl rfl rfl (QOp_eql _ _ _ _ _ _ _ rfl rfl rfl) ?_
    refine kN 2 rfl ?_
    cases h
    exact Weak_keep 0 hm [2] [] _ _ rfl rfl rfl
   have h := iteF hb51 h
   refine AOps_skip 170 rfl rfl rfl ?_
   refine AOps_skip 171 rfl rfl rfl ?_
   refine AOps_skip 172 rfl rfl rfl ?_
   refine kN 2 rfl ?_
   cases h
   exact Weak_keep 0 hm [2] [] _ _ rfl rfl rfl
  refine ACode_ret ?_
  cases h
  exact ⟨_, _, fun r a w h => ⟨r, h⟩, _, _, [], _, (.cons (ResV_tmp _ _ rfl) .nil), rfl, rfl, rfl, rfl, rfl⟩
 refine ACode_skip ?_
 refine kR ?_
 refine AOps_q 174 _ rfl rfl rfl (QOp_fieldAddr_ptr _ _ _ _ _ _ 0 _ _ rfl Try.underlying29 rfl _ Try.sizeOf2 rfl rfl rfl rfl) ?_
 refine AOps_q 175 _ rfl rfl rfl (QOp_load_ptr _ _ _ _ _ _ rfl Try.isAgg2 rfl rfl rfl) ?_
 refine kN 1 rfl ?_
 refine kR ?_
 refine kM 2 rfl ?_
 refine AOps_q 178 _ rfl rfl rfl (QOp_sub _ _ _ _ _ _ _ rfl rfl rfl) ?_
 refine AOps_q 179 _ rfl rfl rfl (QOp_mul _ _ _ _ _ _ _ rfl rfl rfl) ?_
 refine kM 1 rfl ?_
 refine AOps_q 181 _ rfl rfl rfl (QOp_sub _ _ _ _ _ _ _ rfl rfl rfl) ?_
 refine AOps_q 182 _ rfl rfl rfl (QOp_mul _ _ _ _ _ _ _ rfl rfl rfl) ?_
 refine AOps_q 183 _ rfl rfl rfl (QOp_quo _ _ _ _ _ _ _ (by decide) rfl rfl rfl) ?_
 refine kN 1 rfl ?_
 refine kR ?_
 refine kM 1 rfl ?_
 refine kC [] 186 (.tup [iV ((impl_LeastTriangles r3.p).1), iV ((impl_LeastTriangles r3.p).2)]) [.box (colD r3)] rfl Try.call46 rfl rfl (impl_LeastTriangles_ac r3.p) rfl ?_
 refine kN 5 rfl ?_
 refine kO (fun s59 => [(3, .ptr 0 0), (4, .d (.sl none (intsD (r4.1.getD [])))), (8, iV r11.1), (30, iV (w64 ((w64 ((w64 (r3.p * (w64 (r3.p - 1)))) * (w64 (r3.p - 2)))).tdiv 6))), (31, iV ((impl_LeastTriangles r3.p).1))]) (fun s59 => [.box (colD r3)]) h (fun os59 h hks59 => ?_) (fun s59 h => ?_)
 ·refine kB (fun s57 => [(3, .ptr 0 0), (4, .d (.sl none (intsD (r4.1.getD [])))), (8, iV r11.1), (30, iV (w64 ((w64 ((w64 (r3.p * (w64 (r3.p - 1)))) * (w64 (r3.p - 2)))).tdiv 6))), (31, iV ((impl_LeastTriangles r3.p).1)), (200, bV s57)]) (fun s57 => [.box (colD r3)]) h (fun s57 h => ?_) (fun s57 h => ?_)
  ·refine (ACode_region ?_)
   refine kM 1 rfl ?_
   refine AOps_q 190 _ rfl rfl rfl (QOp_neq _ _ _ _ _ _ _ rfl rfl rfl) ?_
   refine kM 1 rfl ?_
   refine AOps_case 191 _ rfl (fun hb54 => ?_) (fun hb54 => ?_)
   ·have h := iteT hb54 h
    refine AOps_skip 192 rfl rfl rfl ?_
    refine AOps_skip 193 rfl rfl rfl ?_
    refine kM 2 rfl ?_
    refine AOps_skip 196 rfl rfl rfl ?_
    refine AOps_skip 197 rfl rfl rfl ?_
    refine AOps_skip 198 rfl rfl rfl ?_
    refine AOps_skip 199 rfl rfl rfl ?_
    refine kN 1 rfl ?_
    cases h
    exact Weak_keep 0 hm [3, 4, 8, 30, 31, 200] [0] _ _ rfl rfl rfl
   have h := iteF hb54 h
   refine kM 1 rfl ?_
   refine AOps_q 193 _ rfl rfl rfl (QOp_neq _ _ _ _ _ _ _ rfl rfl rfl) ?_
   refine kM 2 rfl ?_
   refine AOps_case 195 _ rfl (fun hb55 => ?_) (fun hb55 => ?_)
   ·have h := iteT hb55 h
    refine AOps_skip 196 rfl rfl rfl ?_
    refine AOps_skip 197 rfl rfl rfl ?_
    refine AOps_skip 198 rfl rfl rfl ?_
    refine AOps_skip 199 rfl rfl rfl ?_
    refine kN 1 rfl ?_
    cases h
    exact Weak_keep 0 hm [3, 4, 8, 30, 31, 200] [0] _ _ rfl rfl rfl
   have h := iteF hb55 h
   refine kM 1 rfl ?_
   obtain ⟨r56, hr56, h⟩ := bindO h
   refine kC [] 197 (iV r56) [.box (colD r3)] rfl Try.call53 rfl rfl (laws_sum_ac k (r4.1.getD []) _ hr56) rfl ?_
   refine kM 1 rfl ?_
   refine AOps_q 199 _ rfl rfl rfl (QOp_gtr _ _ _ _ _ _ _ rfl rfl rfl) ?_
   refine kN 1 rfl ?_
   cases h
   exact Weak_keep 0 hm [3, 4, 8, 30, 31, 200] [0] _ _ rfl rfl rfl
  refine kI h rfl (fun h _ => ?_) (fun h _ => ?_)
  ·refine kR ?_
   refine kN 1 rfl ?_
   refine ACode_ret ?_
   cases h
   have h := hks59
   cases h
   exact ⟨_, _, fun r a w h => ⟨r, h⟩, _, _, [], _, (.cons (ResV_tmp _ _ rfl) .nil), rfl, rfl, rfl, rfl, rfl⟩
  refine ACode_skip ?_
  cases h
  exact ⟨_, rfl, Weak_keep 0 hm [3, 4, 8, 30, 31] [0] _ _ rfl rfl rfl⟩
 refine ACode_seq ?_
 refine kR ?_
 refine AOps_q 201 _ rfl rfl rfl (QOp_fieldAddr_ptr _ _ _ _ _ _ 1 _ _ rfl Try.underlying29 rfl _ Try.sizeOf2 rfl rfl rfl rfl) ?_
 refine AOps_q 202 _ rfl rfl rfl (QOp_load_ptr _ _ _ _ _ _ rfl Try.isAgg2 rfl rfl rfl) ?_
 refine AOps_q 203 _ rfl rfl rfl (QOp_gtr _ _ _ _ _ _ _ rfl rfl rfl) ?_
 refine AOps_nil ?_
 refine kI h rfl (fun h _ => ?_) (fun h _ => ?_)
 ·refine kR ?_
  refine kM 3 rfl ?_
  obtain ⟨r61, hr61, h⟩ := bindO h
  refine kC [] 207 (iV r61) [.box (colD r3)] rfl Try.call53 rfl rfl (laws_sum_ac k (r4.1.getD []) _ hr61) rfl ?_
  refine AOps_q 208 _ rfl rfl rfl (QOp_sub _ _ _ _ _ _ _ rfl rfl rfl) ?_
  refine AOps_q 209 _ rfl rfl rfl (QOp_mul _ _ _ _ _ _ _ rfl rfl rfl) ?_
  refine AOps_q 210 _ rfl rfl rfl (QOp_geq _ _ _ _ _ _ _ rfl rfl rfl) ?_
  refine kN 1 rfl ?_
  refine ACode_ret ?_
  cases h
  exact ⟨_, _, fun r a w h => ⟨r, h⟩, _, _, [], _, (.cons (ResV_tmp _ _ rfl) .nil), rfl, rfl, rfl, rfl, rfl⟩
 refine ACode_skip ?_
 refine kB (fun s65 => [(2, bV s65)]) (fun s65 => []) h (fun s65 h => ?_) (fun s65 h => ?_)
 ·refine (ACode_region ?_)
  refine kM 1 rfl ?_
  obtain ⟨r62, hr62, h⟩ := bindO h
  refine kC [] 212 (iV r62) [.box (colD r3)] rfl Try.call53 rfl rfl (laws_sum_ac k (r4.1.getD []) _ hr62) rfl ?_
  refine kM 1 rfl ?_
  refine AOps_q 214 _ rfl rfl rfl (QOp_geq _ _ _ _ _ _ _ rfl rfl rfl) ?_
  refine kM 1 rfl ?_
  refine AOps_case 215 _ rfl (fun hb63 => ?_) (fun hb63 => ?_)
  ·have h := iteT hb63 h
   refine kM 3 rfl ?_
   obtain ⟨r64, hr64, h⟩ := bindO h
   refine kC [] 219 (iV r64) [.box (colD r3)] rfl Try.call53 rfl rfl (laws_sum_ac k (r4.1.getD []) _ hr64) rfl ?_
   refine AOps_q 220 _ rfl rfl rfl (QOp_sub _ _ _ _ _ _ _ rfl rfl rfl) ?_
   refine AOps_q 221 _ rfl rfl rfl (QOp_mul _ _ _ _ _ _ _ rfl rfl rfl) ?_
   refine AOps_q 222 _ rfl rfl rfl (QOp_eql _ _ _ _ _ _ _ rfl rfl rfl) ?_
   refine kN 2 rfl ?_
   cases h
   exact Weak_keep 0 hm [2] [] _ _ rfl rfl rfl
  have h := iteF hb63 h
  refine AOps_skip 216 rfl rfl rfl ?_
  refine AOps_skip 217 rfl rfl rfl ?_
  refine AOps_skip 218 rfl rfl rfl ?_
  refine AOps_skip 219 rfl rfl rfl ?_
  refine AOps_skip 220 rfl rfl rfl ?_
  refine AOps_skip 221 rfl rfl rfl ?_
  refine AOps_skip 222 rfl rfl rfl ?_
  refine kN 2 rfl ?_
  cases h
  exact Weak_keep 0 hm [2] [] _ _ rfl rfl rfl
 refine ACode_ret ?_
 cases h
 exact ⟨_, _, fun r a w h => ⟨r, h⟩, _, _, [], _, (.cons (ResV_tmp _ _ rfl) .nil), rfl, rfl, rfl, rfl, rfl⟩

end Go.Proofs.Ytfoijbdnkkaceaa
