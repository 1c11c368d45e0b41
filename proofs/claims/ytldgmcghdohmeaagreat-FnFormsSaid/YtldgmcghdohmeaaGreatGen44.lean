/- Plain functions of the program and that the program computes them: printed by the own tool gen.py. No conditions. -/
import Derived.Test.YtldgmcghdohmeaaGreatAb23
import Derived.Test.YtldgmcghdohmeaaGreatMg24
import Derived.Test.YtldgmcghdohmeaaGreatAb27
import Derived.Test.YtldgmcghdohmeaaGreatPtOrb
set_option linter.unusedVariables false
set_option linter.unusedSimpArgs false
namespace Go.Proofs.YtldgmcghdohmeaaGreat
open Go Go.RowKit Ab

def laws_FnForms_l0 (r11 : Option (List (List Int)) × Int) (r18 : Int × Int) : Nat → Int → Int → Option (Sum (Int) (Sum (Unit) (Bool)))
 | 0, _, _ => none
 | k0 + 1, x47, x48 => (if decide (x48 < ((r11.1.getD []).length : Int)) then ((if 0 ≤ x48 ∧ x48 < ((r11.1.getD []).length : Int) then ((if decide (r18.2 = 0) then (if 0 ≤ x48 ∧ x48 < ((r11.1.getD []).length : Int) then (if (((r11.1.getD []).getD x48.toNat []).length : Int) ≠ 0 then some (!decide (r18.1.tmod (((r11.1.getD []).getD x48.toNat []).length : Int) = 0)) else none) else none) else some false) : Option (Bool)).bind fun s54 => (if s54 then ((some (.inr false)).bind fun rr => some (.inr rr)).bind fun rr => some (.inr rr) else some (.inl ())) else none) : Option (Sum (Unit) (Sum (Int) (Sum (Unit) (Bool))))).bind fun os56 => (match os56 with | .inl s56 => laws_FnForms_l0 r11 r18 k0 (w64 (x47 + (((r11.1.getD []).getD x48.toNat []).length : Int))) (w64 (x48 + 1)) | .inr rr => some rr) else some (.inl x47))
def laws_FnForms_l1 (r3 : Col) : Nat → Int → (List Int) → Option (List Int)
 | 0, _, _ => none
 | k1 + 1, x73, x74 => (if decide (x73 < r3.p) then (if r3.p ≠ 0 then (if x74.length + ([(w64 (x73 + 1)).tmod r3.p]).length ≤ 1099511627776 then laws_FnForms_l1 r3 k1 (w64 (x73 + 1)) (x74 ++ ([(w64 (x73 + 1)).tmod r3.p])) else none) else none) else some x74)
def laws_FnForms (k : Nat) (p0 : List UInt8) : Option (Bool) :=
 (if (laws_big p0) then some true else (spec_DrawLeastForm k p0).bind fun r3 => (impl_LeastForm k r3).bind fun r4 => ((spec_LeastForm k r3).bind fun r5 => letO (if !decide (r4.2 = r5.2) then true else !(r4.1.eqb r5.1)) fun (s7 : Bool) => (if s7 then some (.inr false) else some (.inl ())) : Option (Sum (Unit) (Bool))).bind fun os9 => (match os9 with | .inl s9 => (spec_DrawPointOrbits k p0).bind fun r10 => (impl_PointOrbits k r10).bind fun r11 => ((spec_PointOrbits k r10).bind fun r12 => ((if !decide (r11.2 = r12.2) then some true else (laws_rows9 k (r11.1.getD []) r12.1).bind fun r14 => some (!r14)) : Option (Bool)).bind fun s15 => (if s15 then some (.inr false) else some (.inl ())) : Option (Sum (Unit) (Bool))).bind fun os17 => (match os17 with | .inl s17 => (impl_CountAutomorphisms k r10).bind fun r18 => ((spec_CountAutomorphisms k r10).bind fun r19 => letO (if !decide (r18.2 = r19.2) then true else !decide (r18.1 = r19.1)) fun (s21 : Bool) => (if s21 then some (.inr false) else some (.inl ())) : Option (Sum (Unit) (Bool))).bind fun os23 => (match os23 with | .inl s23 => (impl_IsSelfAlike k r10).bind fun r24 => ((spec_IsSelfAlike k r10).bind fun r25 => letO (if !decide (r24.2 = r25.2) then true else !(r24.1 == r25.1)) fun (s27 : Bool) => (if s27 then some (.inr false) else some (.inl ())) : Option (Sum (Unit) (Bool))).bind fun os29 => (match os29 with | .inl s29 => (spec_DrawCountClasses k p0).bind fun r30 => (impl_CountClasses k r30.1 r30.2).bind fun r31 => ((spec_CountClasses k r30.1 r30.2).bind fun r32 => letO (if !decide (r31.2 = r32.2) then true else !decide (r31.1 = r32.1)) fun (s34 : Bool) => (if s34 then some (.inr false) else some (.inl ())) : Option (Sum (Unit) (Bool))).bind fun os36 => (match os36 with | .inl s36 => (letO (if decide (r31.2 = 0) then (if decide (r31.1 < 1) then true else (if decide (r30.1 = 1) then (if !decide (r31.1 = 1) then true else (if decide (r30.1 = 2) then !decide (r31.1 = r30.2) else false)) else (if decide (r30.1 = 2) then !decide (r31.1 = r30.2) else false))) else false) fun (s43 : Bool) => (if s43 then some (.inr false) else some (.inl ())) : Option (Sum (Unit) (Bool))).bind fun os45 => (match os45 with | .inl s45 => ((if decide (r11.2 = 0) then (laws_FnForms_l0 r11 r18 k 0 0 : Option (Sum (Int) (Sum (Unit) (Bool)))).bind fun os57 => (match os57 with | .inl s57 => (if !decide (s57 = r10.p) then some (.inr false) else some (.inl ())) | .inr rr => some rr) else some (.inl ())) : Option (Sum (Unit) (Bool))).bind fun os59 => (match os59 with | .inl s59 => (letO (if decide (r24.2 = 0) then (if r24.1 then decide (r10.k = 2) else false) else false) fun (s62 : Bool) => (if s62 then (impl_CountEdges k r10).bind fun r64 => ((if !decide (r64.2 = 0) then some true else (if 0 ≤ (0 : Int) ∧ (0 : Int) < ((r64.1.getD []).length : Int) then (if 0 ≤ (1 : Int) ∧ (1 : Int) < ((r64.1.getD []).length : Int) then some (!decide (((r64.1.getD []).getD (0 : Int).toNat 0) = ((r64.1.getD []).getD (1 : Int).toNat 0))) else none) else none)) : Option (Bool)).bind fun s68 => (if s68 then some (.inr false) else some (.inl ())) else some (.inl ())) : Option (Sum (Unit) (Bool))).bind fun os70 => (match os70 with | .inl s70 => (if !decide (r4.2 = 0) then some (decide (r4.1.p = 0)) else (impl_AreIsomorphic k r3 r4.1).bind fun r72 => (laws_FnForms_l1 r3 k 0 ([] : List Int) : Option (List Int)).bind fun s78 => (impl_RenumberPoints k r3 s78).bind fun r79 => (impl_LeastForm k r79.1).bind fun r80 => letO (if decide (r72.2 = 0) then (if r72.1 then (if decide (r79.2 = 0) then (if decide (r80.2 = 0) then (r80.1.eqb r4.1) else false) else false) else false) else false) fun (s85 : Bool) => some s85) | .inr rr => some rr) | .inr rr => some rr) | .inr rr => some rr) | .inr rr => some rr) | .inr rr => some rr) | .inr rr => some rr) | .inr rr => some rr) | .inr rr => some rr))
set_option maxHeartbeats 2000000 in
set_option maxRecDepth 100000 in
theorem laws_FnForms_ac (k : Nat) (p0 : List UInt8) (r : Bool) (h : laws_FnForms k p0 = some r) : AC Tryz.prog 3 [.d (.sl none (bysD p0))] [] (fun res H' => res = [bV r] ∧ H' = []) := by
 refine AC_of_body true Tryz.func3 rfl Tryz.ntmps3 (rvs := [.tmp 2]) rfl rfl (fun G hG => ?_)
 have hm : G.H.length = 0 := by rw [hG]; rfl
 have hz : zeroG G.H = true := by rw [hG]; rfl
 unfold laws_FnForms at h
 refine kR ?_
 refine kN 1 rfl ?_
 refine ACode_seq ?_
 refine kR ?_
 refine kM 1 rfl ?_
 refine kC [] 40 (bV (laws_big p0)) [] rfl Tryz.call4 rfl rfl (laws_big_ac p0) rfl ?_
 refine AOps_nil ?_
 refine kI h rfl (fun h _ => ?_) (fun h _ => ?_)
 ·refine kR ?_
  refine kN 1 rfl ?_
  refine ACode_ret ?_
  cases h
  exact ⟨_, _, fun r a w h => ⟨r, h⟩, _, _, [], _, (.cons (ResV_tmp _ _ rfl) .nil), rfl, rfl, rfl, rfl, rfl⟩
 refine ACode_skip ?_
 refine kR ?_
 refine kM 1 rfl ?_
 obtain ⟨r3, hr3, h⟩ := bindO h
 refine kC [] 42 (.d (.agg (colD r3))) [] rfl Tryz.call5 rfl rfl (spec_DrawLeastForm_ac k p0 _ hr3) rfl ?_
 refine AOps_alloc 3 _ _ (colD Col.zero) (zero_of Tryz.typeInfo26 rfl) (by rfl) rfl rfl rfl rfl ?_
 refine AOps_store _ _ _ _ _ _ (colD _) _ _ rfl rfl rfl rfl rfl rfl rfl (colD_one _) (by rw [colD_length]; exact Tryz.sizeOf26) (by rw [colD_length, colD_length]; decide) (colD_whole _ _) ?_
 refine AOps_nil ?_
 refine kR ?_
 refine AOps_q 44 _ rfl rfl rfl (QOp_loadN_ptr _ _ _ _ _ _ _ rfl Tryz.isAgg26 Tryz.sizeOf26 rfl rfl (colD_all _) (colD_length _)) ?_
 obtain ⟨r4, hr4, h⟩ := bindO h
 refine kC [] 45 (.tup [.d (.agg (colD r4.1)), iV r4.2]) [.box (colD r3)] rfl Tryz.call6 rfl rfl (impl_LeastForm_ac k r3 _ hr4) rfl ?_
 refine kM 3 rfl ?_
 refine AOps_alloc 4 _ _ (colD Col.zero) (zero_of Tryz.typeInfo26 rfl) (by rfl) rfl rfl rfl rfl ?_
 refine AOps_store _ _ _ _ _ _ (colD _) _ _ rfl rfl rfl rfl rfl rfl rfl (colD_one _) (by rw [colD_length]; exact Tryz.sizeOf26) (by rw [colD_length, colD_length]; decide) (colD_whole _ _) ?_
 refine kN 1 rfl ?_
 refine kO (fun s9 => [(0, .d (.sl none (bysD p0))), (3, .ptr 0 0), (4, .ptr 1 0), (5, iV r4.2)]) (fun s9 => [.box (colD r3), .box (colD r4.1)]) h (fun os9 h hks9 => ?_) (fun s9 h => ?_)
 ·refine kR ?_
  refine AOps_q 49 _ rfl rfl rfl (QOp_loadN_ptr _ _ _ _ _ _ _ rfl Tryz.isAgg26 Tryz.sizeOf26 rfl rfl (colD_all _) (colD_length _)) ?_
  obtain ⟨r5, hr5, h⟩ := bindO h
  refine kC [] 50 (.tup [.d (.agg (colD r5.1)), iV r5.2]) [.box (colD r3), .box (colD r4.1)] rfl Tryz.call7 rfl rfl (spec_LeastForm_ac k r3 _ hr5) rfl ?_
  refine kM 3 rfl ?_
  refine AOps_alloc 6 _ _ (colD Col.zero) (zero_of Tryz.typeInfo26 rfl) (by rfl) rfl rfl rfl rfl ?_
  refine AOps_store _ _ _ _ _ _ (colD _) _ _ rfl rfl rfl rfl rfl rfl rfl (colD_one _) (by rw [colD_length]; exact Tryz.sizeOf26) (by rw [colD_length, colD_length]; decide) (colD_whole _ _) ?_
  refine kN 1 rfl ?_
  refine kL (fun s7 => [(0, .d (.sl none (bysD p0))), (3, .ptr 0 0), (4, .ptr 1 0), (5, iV r4.2), (60, bV s7)]) (fun s7 => [.box (colD r3), .box (colD r4.1)]) h (fun s7 h => ?_) (fun s7 h => ?_)
  ·refine (ACode_region ?_)
   refine kM 2 rfl ?_
   refine AOps_q 55 _ rfl rfl rfl (QOp_neq _ _ _ _ _ _ _ rfl rfl rfl) ?_
   refine kM 1 rfl ?_
   refine AOps_case 56 _ rfl (fun hb6 => ?_) (fun hb6 => ?_)
   ·have h := iteT hb6 h
    refine AOps_skip 57 rfl rfl rfl ?_
    refine AOps_skip 58 rfl rfl rfl ?_
    refine AOps_skip 59 rfl rfl rfl ?_
    refine kN 1 rfl ?_
    cases h
    exact Weak_keep 0 hm [0, 3, 4, 5, 60] [0, 1] _ _ rfl rfl rfl
   have h := iteF hb6 h
   refine AOps_q 57 _ rfl rfl rfl (QOp_loadN_ptr _ _ _ _ _ _ _ rfl Tryz.isAgg26 Tryz.sizeOf26 rfl rfl (colD_all _) (colD_length _)) ?_
   refine AOps_q 58 _ rfl rfl rfl (QOp_loadN_ptr _ _ _ _ _ _ _ rfl Tryz.isAgg26 Tryz.sizeOf26 rfl rfl (colD_all _) (colD_length _)) ?_
   refine AOps_q 59 _ rfl rfl rfl (QOp_neqCol _ _ _ _ _ _ _ _ _ _ _ _ rfl rfl rfl Tryz.underlying26 (by kernel_rfl) (by kernel_rfl) (by decide) (by decide) (by decide) rfl rfl rfl rfl rfl rfl Tryz.underlying2 Tryz.underlying24 Tryz.underlying5 Tryz.sizeOf5 Tryz.sizeOf24) ?_
   refine kN 1 rfl ?_
   cases h
   exact Weak_keep 0 hm [0, 3, 4, 5, 60] [0, 1] _ _ rfl rfl rfl
  refine kI h rfl (fun h _ => ?_) (fun h _ => ?_)
  ·refine kR ?_
   refine kN 1 rfl ?_
   refine ACode_ret ?_
   cases h
   have h := hks9
   cases h
   exact ⟨_, _, fun r a w h => ⟨r, h⟩, _, _, [], _, (.cons (ResV_tmp _ _ rfl) .nil), rfl, rfl, rfl, rfl, rfl⟩
  refine ACode_skip ?_
  cases h
  exact ⟨_, rfl, Weak_keep 0 hm [0, 3, 4, 5] [0, 1] _ _ rfl rfl rfl⟩
 refine kR ?_
 refine kM 1 rfl ?_
 obtain ⟨r10, hr10, h⟩ := bindO h
 refine kC [] 62 (.d (.agg (colD r10))) [.box (colD r3), .box (colD r4.1)] rfl Tryz.call8 rfl rfl (spec_DrawPointOrbits_ac k p0 _ hr10) rfl ?_
 refine AOps_alloc 8 _ _ (colD Col.zero) (zero_of Tryz.typeInfo26 rfl) (by rfl) rfl rfl rfl rfl ?_
 refine AOps_store _ _ _ _ _ _ (colD _) _ _ rfl rfl rfl rfl rfl rfl rfl (colD_one _) (by rw [colD_length]; exact Tryz.sizeOf26) (by rw [colD_length, colD_length]; decide) (colD_whole _ _) ?_
 refine AOps_nil ?_
 refine kR ?_
 refine AOps_q 64 _ rfl rfl rfl (QOp_loadN_ptr _ _ _ _ _ _ _ rfl Tryz.isAgg26 Tryz.sizeOf26 rfl rfl (colD_all _) (colD_length _)) ?_
 obtain ⟨r11, hr11, h⟩ := bindO h
 refine kC [] 65 (.tup [.d (.sl none (rowsD (r11.1.getD []))), iV r11.2]) [.box (colD r3), .box (colD r4.1), .box (colD r10)] rfl Tryz.call9 rfl rfl (AC_frz rfl (frz_cons frz_nil) (impl_PointOrbits_ac k r10 _ hr11)) rfl ?_
 refine kN 5 rfl ?_
 refine kO (fun s17 => [(0, .d (.sl none (bysD p0))), (3, .ptr 0 0), (4, .ptr 1 0), (5, iV r4.2), (8, .ptr 2 0), (9, .d (.sl none (rowsD (r11.1.getD [])))), (10, iV r11.2)]) (fun s17 => [.box (colD r3), .box (colD r4.1), .box (colD r10)]) h (fun os17 h hks17 => ?_) (fun s17 h => ?_)
 ·refine kR ?_
  refine AOps_q 69 _ rfl rfl rfl (QOp_loadN_ptr _ _ _ _ _ _ _ rfl Tryz.isAgg26 Tryz.sizeOf26 rfl rfl (colD_all _) (colD_length _)) ?_
  obtain ⟨r12, hr12, h⟩ := bindO h
  refine kC [] 70 (.tup [.d (.sl none (rowsD r12.1)), iV r12.2]) [.box (colD r3), .box (colD r4.1), .box (colD r10)] rfl Tryz.call10 rfl rfl (spec_PointOrbits_ac k r10 _ hr12) rfl ?_
  refine kN 5 rfl ?_
  refine kB (fun s15 => [(0, .d (.sl none (bysD p0))), (3, .ptr 0 0), (4, .ptr 1 0), (5, iV r4.2), (8, .ptr 2 0), (9, .d (.sl none (rowsD (r11.1.getD [])))), (10, iV r11.2), (81, bV s15)]) (fun s15 => [.box (colD r3), .box (colD r4.1), .box (colD r10)]) h (fun s15 h => ?_) (fun s15 h => ?_)
  ·refine (ACode_region ?_)
   refine kM 2 rfl ?_
   refine AOps_q 75 _ rfl rfl rfl (QOp_neq _ _ _ _ _ _ _ rfl rfl rfl) ?_
   refine kM 1 rfl ?_
   refine AOps_case 76 _ rfl (fun hb13 => ?_) (fun hb13 => ?_)
   ·have h := iteT hb13 h
    refine AOps_skip 77 rfl rfl rfl ?_
    refine AOps_skip 78 rfl rfl rfl ?_
    refine AOps_skip 79 rfl rfl rfl ?_
    refine AOps_skip 80 rfl rfl rfl ?_
    refine kN 1 rfl ?_
    cases h
    exact Weak_keep 0 hm [0, 3, 4, 5, 8, 9, 10, 81] [0, 1, 2] _ _ rfl rfl rfl
   have h := iteF hb13 h
   refine kM 2 rfl ?_
   obtain ⟨r14, hr14, h⟩ := bindO h
   refine kC [] 79 (bV r14) [.box (colD r3), .box (colD r4.1), .box (colD r10)] rfl Tryz.call11 rfl rfl (laws_rows9_ac k (r11.1.getD []) r12.1 _ hr14) rfl ?_
   refine AOps_q 80 _ rfl rfl rfl (QOp_not _ _ _ rfl rfl) ?_
   refine kN 1 rfl ?_
   cases h
   exact Weak_keep 0 hm [0, 3, 4, 5, 8, 9, 10, 81] [0, 1, 2] _ _ rfl rfl rfl
  refine kI h rfl (fun h _ => ?_) (fun h _ => ?_)
  ·refine kR ?_
   refine kN 1 rfl ?_
   refine ACode_ret ?_
   cases h
   have h := hks17
   cases h
   exact ⟨_, _, fun r a w h => ⟨r, h⟩, _, _, [], _, (.cons (ResV_tmp _ _ rfl) .nil), rfl, rfl, rfl, rfl, rfl⟩
  refine ACode_skip ?_
  cases h
  exact ⟨_, rfl, Weak_keep 0 hm [0, 3, 4, 5, 8, 9, 10] [0, 1, 2] _ _ rfl rfl rfl⟩
 refine kR ?_
 refine AOps_q 83 _ rfl rfl rfl (QOp_loadN_ptr _ _ _ _ _ _ _ rfl Tryz.isAgg26 Tryz.sizeOf26 rfl rfl (colD_all _) (colD_length _)) ?_
 obtain ⟨r18, hr18, h⟩ := bindO h
 refine kC [] 84 (.tup [iV r18.1, iV r18.2]) [.box (colD r3), .box (colD r4.1), .box (colD r10)] rfl Tryz.call12 rfl rfl (impl_CountAutomorphisms_ac k r10 _ hr18) rfl ?_
 refine kN 5 rfl ?_
 refine kO (fun s23 => [(0, .d (.sl none (bysD p0))), (3, .ptr 0 0), (4, .ptr 1 0), (5, iV r4.2), (8, .ptr 2 0), (9, .d (.sl none (rowsD (r11.1.getD [])))), (10, iV r11.2), (13, iV r18.1), (14, iV r18.2)]) (fun s23 => [.box (colD r3), .box (colD r4.1), .box (colD r10)]) h (fun os23 h hks23 => ?_) (fun s23 h => ?_)
 ·refine kR ?_
  refine AOps_q 88 _ rfl rfl rfl (QOp_loadN_ptr _ _ _ _ _ _ _ rfl Tryz.isAgg26 Tryz.sizeOf26 rfl rfl (colD_all _) (colD_length _)) ?_
  obtain ⟨r19, hr19, h⟩ := bindO h
  refine kC [] 89 (.tup [iV r19.1, iV r19.2]) [.box (colD r3), .box (colD r4.1), .box (colD r10)] rfl Tryz.call13 rfl rfl (spec_CountAutomorphisms_ac k r10 _ hr19) rfl ?_
  refine kN 5 rfl ?_
  refine kL (fun s21 => [(0, .d (.sl none (bysD p0))), (3, .ptr 0 0), (4, .ptr 1 0), (5, iV r4.2), (8, .ptr 2 0), (9, .d (.sl none (rowsD (r11.1.getD [])))), (10, iV r11.2), (13, iV r18.1), (14, iV r18.2), (99, bV s21)]) (fun s21 => [.box (colD r3), .box (colD r4.1), .box (colD r10)]) h (fun s21 h => ?_) (fun s21 h => ?_)
  ·refine (ACode_region ?_)
   refine kM 2 rfl ?_
   refine AOps_q 94 _ rfl rfl rfl (QOp_neq _ _ _ _ _ _ _ rfl rfl rfl) ?_
   refine kM 1 rfl ?_
   refine AOps_case 95 _ rfl (fun hb20 => ?_) (fun hb20 => ?_)
   ·have h := iteT hb20 h
    refine AOps_skip 96 rfl rfl rfl ?_
    refine AOps_skip 97 rfl rfl rfl ?_
    refine AOps_skip 98 rfl rfl rfl ?_
    refine kN 1 rfl ?_
    cases h
    exact Weak_keep 0 hm [0, 3, 4, 5, 8, 9, 10, 13, 14, 99] [0, 1, 2] _ _ rfl rfl rfl
   have h := iteF hb20 h
   refine kM 2 rfl ?_
   refine AOps_q 98 _ rfl rfl rfl (QOp_neq _ _ _ _ _ _ _ rfl rfl rfl) ?_
   refine kN 1 rfl ?_
   cases h
   exact Weak_keep 0 hm [0, 3, 4, 5, 8, 9, 10, 13, 14, 99] [0, 1, 2] _ _ rfl rfl rfl
  refine kI h rfl (fun h _ => ?_) (fun h _ => ?_)
  ·refine kR ?_
   refine kN 1 rfl ?_
   refine ACode_ret ?_
   cases h
   have h := hks23
   cases h
   exact ⟨_, _, fun r a w h => ⟨r, h⟩, _, _, [], _, (.cons (ResV_tmp _ _ rfl) .nil), rfl, rfl, rfl, rfl, rfl⟩
  refine ACode_skip ?_
  cases h
  exact ⟨_, rfl, Weak_keep 0 hm [0, 3, 4, 5, 8, 9, 10, 13, 14] [0, 1, 2] _ _ rfl rfl rfl⟩
 refine kR ?_
 refine AOps_q 101 _ rfl rfl rfl (QOp_loadN_ptr _ _ _ _ _ _ _ rfl Tryz.isAgg26 Tryz.sizeOf26 rfl rfl (colD_all _) (colD_length _)) ?_
 obtain ⟨r24, hr24, h⟩ := bindO h
 refine kC [] 102 (.tup [bV r24.1, iV r24.2]) [.box (colD r3), .box (colD r4.1), .box (colD r10)] rfl Tryz.call14 rfl rfl (impl_IsSelfAlike_ac k r10 _ hr24) rfl ?_
 refine kN 5 rfl ?_
 refine kO (fun s29 => [(0, .d (.sl none (bysD p0))), (3, .ptr 0 0), (4, .ptr 1 0), (5, iV r4.2), (8, .ptr 2 0), (9, .d (.sl none (rowsD (r11.1.getD [])))), (10, iV r11.2), (13, iV r18.1), (14, iV r18.2), (17, bV r24.1), (18, iV r24.2)]) (fun s29 => [.box (colD r3), .box (colD r4.1), .box (colD r10)]) h (fun os29 h hks29 => ?_) (fun s29 h => ?_)
 ·refine kR ?_
  refine AOps_q 106 _ rfl rfl rfl (QOp_loadN_ptr _ _ _ _ _ _ _ rfl Tryz.isAgg26 Tryz.sizeOf26 rfl rfl (colD_all _) (colD_length _)) ?_
  obtain ⟨r25, hr25, h⟩ := bindO h
  refine kC [] 107 (.tup [bV r25.1, iV r25.2]) [.box (colD r3), .box (colD r4.1), .box (colD r10)] rfl Tryz.call15 rfl rfl (spec_IsSelfAlike_ac k r10 _ hr25) rfl ?_
  refine kN 5 rfl ?_
  refine kL (fun s27 => [(0, .d (.sl none (bysD p0))), (3, .ptr 0 0), (4, .ptr 1 0), (5, iV r4.2), (8, .ptr 2 0), (9, .d (.sl none (rowsD (r11.1.getD [])))), (10, iV r11.2), (13, iV r18.1), (14, iV r18.2), (17, bV r24.1), (18, iV r24.2), (117, bV s27)]) (fun s27 => [.box (colD r3), .box (colD r4.1), .box (colD r10)]) h (fun s27 h => ?_) (fun s27 h => ?_)
  ·refine (ACode_region ?_)
   refine kM 2 rfl ?_
   refine AOps_q 112 _ rfl rfl rfl (QOp_neq _ _ _ _ _ _ _ rfl rfl rfl) ?_
   refine kM 1 rfl ?_
   refine AOps_case 113 _ rfl (fun hb26 => ?_) (fun hb26 => ?_)
   ·have h := iteT hb26 h
    refine AOps_skip 114 rfl rfl rfl ?_
    refine AOps_skip 115 rfl rfl rfl ?_
    refine AOps_skip 116 rfl rfl rfl ?_
    refine kN 1 rfl ?_
    cases h
    exact Weak_keep 0 hm [0, 3, 4, 5, 8, 9, 10, 13, 14, 17, 18, 117] [0, 1, 2] _ _ rfl rfl rfl
   have h := iteF hb26 h
   refine kM 2 rfl ?_
   refine AOps_q 116 _ rfl rfl rfl (QOp_bneq _ _ _ _ _ _ rfl rfl rfl Tryz.underlying4) ?_
   refine kN 1 rfl ?_
   cases h
   exact Weak_keep 0 hm [0, 3, 4, 5, 8, 9, 10, 13, 14, 17, 18, 117] [0, 1, 2] _ _ rfl rfl rfl
  refine kI h rfl (fun h _ => ?_) (fun h _ => ?_)
  ·refine kR ?_
   refine kN 1 rfl ?_
   refine ACode_ret ?_
   cases h
   have h := hks29
   cases h
   exact ⟨_, _, fun r a w h => ⟨r, h⟩, _, _, [], _, (.cons (ResV_tmp _ _ rfl) .nil), rfl, rfl, rfl, rfl, rfl⟩
  refine ACode_skip ?_
  cases h
  exact ⟨_, rfl, Weak_keep 0 hm [0, 3, 4, 5, 8, 9, 10, 13, 14, 17, 18] [0, 1, 2] _ _ rfl rfl rfl⟩
 refine kR ?_
 refine kM 1 rfl ?_
 obtain ⟨r30, hr30, h⟩ := bindO h
 refine kC [] 120 (.tup [iV r30.1, iV r30.2]) [.box (colD r3), .box (colD r4.1), .box (colD r10)] rfl Tryz.call16 rfl rfl (spec_DrawCountClasses_ac k p0 _ hr30) rfl ?_
 refine kN 5 rfl ?_
 refine kR ?_
 refine kM 2 rfl ?_
 obtain ⟨r31, hr31, h⟩ := bindO h
 refine kC [] 126 (.tup [iV r31.1, iV r31.2]) [.box (colD r3), .box (colD r4.1), .box (colD r10)] rfl Tryz.call17 rfl rfl (impl_CountClasses_ac k r30.1 r30.2 _ hr31) rfl ?_
 refine kN 5 rfl ?_
 refine kO (fun s36 => [(3, .ptr 0 0), (4, .ptr 1 0), (5, iV r4.2), (8, .ptr 2 0), (9, .d (.sl none (rowsD (r11.1.getD [])))), (10, iV r11.2), (13, iV r18.1), (14, iV r18.2), (17, bV r24.1), (18, iV r24.2), (21, iV r30.1), (22, iV r30.2), (23, iV r31.1), (24, iV r31.2)]) (fun s36 => [.box (colD r3), .box (colD r4.1), .box (colD r10)]) h (fun os36 h hks36 => ?_) (fun s36 h => ?_)
 ·refine kR ?_
  refine kM 2 rfl ?_
  obtain ⟨r32, hr32, h⟩ := bindO h
  refine kC [] 132 (.tup [iV r32.1, iV r32.2]) [.box (colD r3), .box (colD r4.1), .box (colD r10)] rfl Tryz.call18 rfl rfl (spec_CountClasses_ac k r30.1 r30.2 _ hr32) rfl ?_
  refine kN 5 rfl ?_
  refine kL (fun s34 => [(3, .ptr 0 0), (4, .ptr 1 0), (5, iV r4.2), (8, .ptr 2 0), (9, .d (.sl none (rowsD (r11.1.getD [])))), (10, iV r11.2), (13, iV r18.1), (14, iV r18.2), (17, bV r24.1), (18, iV r24.2), (21, iV r30.1), (22, iV r30.2), (23, iV r31.1), (24, iV r31.2), (142, bV s34)]) (fun s34 => [.box (colD r3), .box (colD r4.1), .box (colD r10)]) h (fun s34 h => ?_) (fun s34 h => ?_)
  ·refine (ACode_region ?_)
   refine kM 2 rfl ?_
   refine AOps_q 137 _ rfl rfl rfl (QOp_neq _ _ _ _ _ _ _ rfl rfl rfl) ?_
   refine kM 1 rfl ?_
   refine AOps_case 138 _ rfl (fun hb33 => ?_) (fun hb33 => ?_)
   ·have h := iteT hb33 h
    refine AOps_skip 139 rfl rfl rfl ?_
    refine AOps_skip 140 rfl rfl rfl ?_
    refine AOps_skip 141 rfl rfl rfl ?_
    refine kN 1 rfl ?_
    cases h
    exact Weak_keep 0 hm [3, 4, 5, 8, 9, 10, 13, 14, 17, 18, 21, 22, 23, 24, 142] [0, 1, 2] _ _ rfl rfl rfl
   have h := iteF hb33 h
   refine kM 2 rfl ?_
   refine AOps_q 141 _ rfl rfl rfl (QOp_neq _ _ _ _ _ _ _ rfl rfl rfl) ?_
   refine kN 1 rfl ?_
   cases h
   exact Weak_keep 0 hm [3, 4, 5, 8, 9, 10, 13, 14, 17, 18, 21, 22, 23, 24, 142] [0, 1, 2] _ _ rfl rfl rfl
  refine kI h rfl (fun h _ => ?_) (fun h _ => ?_)
  ·refine kR ?_
   refine kN 1 rfl ?_
   refine ACode_ret ?_
   cases h
   have h := hks36
   cases h
   exact ⟨_, _, fun r a w h => ⟨r, h⟩, _, _, [], _, (.cons (ResV_tmp _ _ rfl) .nil), rfl, rfl, rfl, rfl, rfl⟩
  refine ACode_skip ?_
  cases h
  exact ⟨_, rfl, Weak_keep 0 hm [3, 4, 5, 8, 9, 10, 13, 14, 17, 18, 21, 22, 23, 24] [0, 1, 2] _ _ rfl rfl rfl⟩
 refine kO (fun s45 => [(3, .ptr 0 0), (4, .ptr 1 0), (5, iV r4.2), (8, .ptr 2 0), (9, .d (.sl none (rowsD (r11.1.getD [])))), (10, iV r11.2), (13, iV r18.1), (14, iV r18.2), (17, bV r24.1), (18, iV r24.2)]) (fun s45 => [.box (colD r3), .box (colD r4.1), .box (colD r10)]) h (fun os45 h hks45 => ?_) (fun s45 h => ?_)
 ·refine kL (fun s43 => [(3, .ptr 0 0), (4, .ptr 1 0), (5, iV r4.2), (8, .ptr 2 0), (9, .d (.sl none (rowsD (r11.1.getD [])))), (10, iV r11.2), (13, iV r18.1), (14, iV r18.2), (17, bV r24.1), (18, iV r24.2), (165, bV s43)]) (fun s43 => [.box (colD r3), .box (colD r4.1), .box (colD r10)]) h (fun s43 h => ?_) (fun s43 h => ?_)
  ·refine (ACode_region ?_)
   refine kM 1 rfl ?_
   refine AOps_q 144 _ rfl rfl rfl (QOp_eql _ _ _ _ _ _ _ rfl rfl rfl) ?_
   refine kM 1 rfl ?_
   refine AOps_case 145 _ rfl (fun hb37 => ?_) (fun hb37 => ?_)
   ·have h := iteT hb37 h
    refine kM 1 rfl ?_
    refine AOps_q 147 _ rfl rfl rfl (QOp_lss _ _ _ _ _ _ _ rfl rfl rfl) ?_
    refine kM 1 rfl ?_
    refine AOps_case 148 _ rfl (fun hb38 => ?_) (fun hb38 => ?_)
    ·have h := iteT hb38 h
     refine AOps_skip 149 rfl rfl rfl ?_
     refine AOps_skip 150 rfl rfl rfl ?_
     refine AOps_skip 151 rfl rfl rfl ?_
     refine AOps_skip 152 rfl rfl rfl ?_
     refine AOps_skip 153 rfl rfl rfl ?_
     refine AOps_skip 154 rfl rfl rfl ?_
     refine kM 2 rfl ?_
     refine AOps_skip 157 rfl rfl rfl ?_
     refine AOps_skip 158 rfl rfl rfl ?_
     refine AOps_skip 159 rfl rfl rfl ?_
     refine AOps_skip 160 rfl rfl rfl ?_
     refine AOps_skip 161 rfl rfl rfl ?_
     refine AOps_skip 162 rfl rfl rfl ?_
     refine AOps_skip 163 rfl rfl rfl ?_
     refine kN 2 rfl ?_
     cases h
     exact Weak_keep 0 hm [3, 4, 5, 8, 9, 10, 13, 14, 17, 18, 165] [0, 1, 2] _ _ rfl rfl rfl
    have h := iteF hb38 h
    refine kM 1 rfl ?_
    refine AOps_q 150 _ rfl rfl rfl (QOp_eql _ _ _ _ _ _ _ rfl rfl rfl) ?_
    refine kM 1 rfl ?_
    refine AOps_case 151 _ rfl (fun hb39 => ?_) (fun hb39 => ?_)
    ·have h := iteT hb39 h
     refine kM 1 rfl ?_
     refine AOps_q 153 _ rfl rfl rfl (QOp_neq _ _ _ _ _ _ _ rfl rfl rfl) ?_
     refine kM 3 rfl ?_
     refine AOps_case 156 _ rfl (fun hb40 => ?_) (fun hb40 => ?_)
     ·have h := iteT hb40 h
      refine AOps_skip 157 rfl rfl rfl ?_
      refine AOps_skip 158 rfl rfl rfl ?_
      refine AOps_skip 159 rfl rfl rfl ?_
      refine AOps_skip 160 rfl rfl rfl ?_
      refine AOps_skip 161 rfl rfl rfl ?_
      refine AOps_skip 162 rfl rfl rfl ?_
      refine AOps_skip 163 rfl rfl rfl ?_
      refine kN 2 rfl ?_
      cases h
      exact Weak_keep 0 hm [3, 4, 5, 8, 9, 10, 13, 14, 17, 18, 165] [0, 1, 2] _ _ rfl rfl rfl
     have h := iteF hb40 h
     refine kM 1 rfl ?_
     refine AOps_q 158 _ rfl rfl rfl (QOp_eql _ _ _ _ _ _ _ rfl rfl rfl) ?_
     refine kM 1 rfl ?_
     refine AOps_case 159 _ rfl (fun hb41 => ?_) (fun hb41 => ?_)
     ·have h := iteT hb41 h
      refine kM 2 rfl ?_
      refine AOps_q 162 _ rfl rfl rfl (QOp_neq _ _ _ _ _ _ _ rfl rfl rfl) ?_
      refine kN 3 rfl ?_
      cases h
      exact Weak_keep 0 hm [3, 4, 5, 8, 9, 10, 13, 14, 17, 18, 165] [0, 1, 2] _ _ rfl rfl rfl
     have h := iteF hb41 h
     refine AOps_skip 160 rfl rfl rfl ?_
     refine AOps_skip 161 rfl rfl rfl ?_
     refine AOps_skip 162 rfl rfl rfl ?_
     refine kN 3 rfl ?_
     cases h
     exact Weak_keep 0 hm [3, 4, 5, 8, 9, 10, 13, 14, 17, 18, 165] [0, 1, 2] _ _ rfl rfl rfl
    have h := iteF hb39 h
    refine AOps_skip 152 rfl rfl rfl ?_
    refine AOps_skip 153 rfl rfl rfl ?_
    refine kM 4 rfl ?_
    refine AOps_q 158 _ rfl rfl rfl (QOp_eql _ _ _ _ _ _ _ rfl rfl rfl) ?_
    refine kM 1 rfl ?_
    refine AOps_case 159 _ rfl (fun hb42 => ?_) (fun hb42 => ?_)
    ·have h := iteT hb42 h
     refine kM 2 rfl ?_
     refine AOps_q 162 _ rfl rfl rfl (QOp_neq _ _ _ _ _ _ _ rfl rfl rfl) ?_
     refine kN 3 rfl ?_
     cases h
     exact Weak_keep 0 hm [3, 4, 5, 8, 9, 10, 13, 14, 17, 18, 165] [0, 1, 2] _ _ rfl rfl rfl
    have h := iteF hb42 h
    refine AOps_skip 160 rfl rfl rfl ?_
    refine AOps_skip 161 rfl rfl rfl ?_
    refine AOps_skip 162 rfl rfl rfl ?_
    refine kN 3 rfl ?_
    cases h
    exact Weak_keep 0 hm [3, 4, 5, 8, 9, 10, 13, 14, 17, 18, 165] [0, 1, 2] _ _ rfl rfl rfl
   have h := iteF hb37 h
   refine AOps_skip 146 rfl rfl rfl ?_
   refine AOps_skip 147 rfl rfl rfl ?_
   refine AOps_skip 148 rfl rfl rfl ?_
   refine AOps_skip 149 rfl rfl rfl ?_
   refine AOps_skip 150 rfl rfl rfl ?_
   refine AOps_skip 151 rfl rfl rfl ?_
   refine AOps_skip 152 rfl rfl rfl ?_
   refine AOps_skip 153 rfl rfl rfl ?_
   refine AOps_skip 154 rfl rfl rfl ?_
   refine AOps_skip 155 rfl rfl rfl ?_
   refine AOps_skip 156 rfl rfl rfl ?_
   refine AOps_skip 157 rfl rfl rfl ?_
   refine AOps_skip 158 rfl rfl rfl ?_
   refine AOps_skip 159 rfl rfl rfl ?_
   refine AOps_skip 160 rfl rfl rfl ?_
   refine AOps_skip 161 rfl rfl rfl ?_
   refine AOps_skip 162 rfl rfl rfl ?_
   refine AOps_skip 163 rfl rfl rfl ?_
   refine AOps_skip 164 rfl rfl rfl ?_
   refine kN 1 rfl ?_
   cases h
   exact Weak_keep 0 hm [3, 4, 5, 8, 9, 10, 13, 14, 17, 18, 165] [0, 1, 2] _ _ rfl rfl rfl
  refine kI h rfl (fun h _ => ?_) (fun h _ => ?_)
  ·refine kR ?_
   refine kN 1 rfl ?_
   refine ACode_ret ?_
   cases h
   have h := hks45
   cases h
   exact ⟨_, _, fun r a w h => ⟨r, h⟩, _, _, [], _, (.cons (ResV_tmp _ _ rfl) .nil), rfl, rfl, rfl, rfl, rfl⟩
  refine ACode_skip ?_
  cases h
  exact ⟨_, rfl, Weak_keep 0 hm [3, 4, 5, 8, 9, 10, 13, 14, 17, 18] [0, 1, 2] _ _ rfl rfl rfl⟩
 refine kO (fun s59 => [(3, .ptr 0 0), (4, .ptr 1 0), (5, iV r4.2), (8, .ptr 2 0), (17, bV r24.1), (18, iV r24.2)]) (fun s59 => [.box (colD r3), .box (colD r4.1), .box (colD r10)]) h (fun os59 h hks59 => ?_) (fun s59 h => ?_)
 ·refine kR ?_
  refine kM 1 rfl ?_
  refine AOps_q 167 _ rfl rfl rfl (QOp_eql _ _ _ _ _ _ _ rfl rfl rfl) ?_
  refine AOps_nil ?_
  refine kI h rfl (fun h _ => ?_) (fun h _ => ?_)
  ·refine kR ?_
   refine kN 1 rfl ?_
   refine kO (fun s57 => [(3, .ptr 0 0), (4, .ptr 1 0), (5, iV r4.2), (8, .ptr 2 0), (17, bV r24.1), (18, iV r24.2), (27, iV s57)]) (fun s57 => [.box (colD r3), .box (colD r4.1), .box (colD r10)]) h (fun os57 h hks57 => ?_) (fun s57 h => ?_)
   ·refine kR ?_
    refine kN 1 rfl ?_
    refine ACode_block ?_
    refine ACode_loopW (fun k0 E H => ∃ (x47 : Int) (x48 : Int), E = [(3, .ptr 0 0), (4, .ptr 1 0), (5, iV r4.2), (8, .ptr 2 0), (9, .d (.sl none (rowsD (r11.1.getD [])))), (13, iV r18.1), (14, iV r18.2), (17, bV r24.1), (18, iV r24.2), (27, iV x47), (28, iV x48)] ∧ H = [.box (colD r3), .box (colD r4.1), .box (colD r10)] ∧ laws_FnForms_l0 r11 r18 k0 x47 x48 = some os57) k _ _ (Weak_keep 0 hm [3, 4, 5, 8, 9, 13, 14, 17, 18, 27, 28] [0, 1, 2] _ _ rfl rfl rfl) ⟨_, _, rfl, rfl, h⟩ ?_
    clear h
    rintro k0 E H ⟨x47, x48, rfl, rfl, h⟩
    cases k0 with
    | zero => cases (show (none : Option (Sum (Int) (Sum (Unit) (Bool)))) = some _ from h)
    | succ k0 =>
     rw [laws_FnForms_l0] at h
     refine ACode_seq ?_
     refine kR ?_
     refine kM 2 rfl ?_
     refine AOps_q 170 _ rfl rfl rfl (QOp_len_sl _ _ _ _ _ _ _ (rowsD_length _) rfl rfl rfl rfl Tryz.underlying30 rfl) ?_
     refine AOps_q 171 _ rfl rfl rfl (QOp_lss _ _ _ _ _ _ _ rfl rfl rfl) ?_
     refine AOps_nil ?_
     refine kI h rfl (fun h _ => ?_) (fun h _ => ?_)
     ·refine ACode_skip ?_
      refine kO (fun s56 => [(3, .ptr 0 0), (4, .ptr 1 0), (5, iV r4.2), (8, .ptr 2 0), (9, .d (.sl none (rowsD (r11.1.getD [])))), (13, iV r18.1), (14, iV r18.2), (17, bV r24.1), (18, iV r24.2), (27, iV (w64 (x47 + (((r11.1.getD []).getD x48.toNat []).length : Int)))), (28, iV x48)]) (fun s56 => [.box (colD r3), .box (colD r4.1), .box (colD r10)]) h (fun os56 h hks56 => ?_) (fun s56 h => ?_)
      ·refine ACode_block ?_
       refine kR ?_
       refine kM 3 rfl ?_
       obtain ⟨hc50, h⟩ := guardO h
       refine AOps_q 177 _ rfl rfl rfl (QOp_indexAddr_sl _ _ _ _ _ _ _ _ rfl Tryz.underlying30 Tryz.sizeOf40 hc50.1 (by rw [rowsD_length]; exact hc50.2) rfl rfl) ?_
       refine AOps_q 178 _ rfl rfl rfl (QOp_load_pv _ _ _ _ _ rfl Tryz.isAgg40 rfl (rowsD_get _ _ [] (by omega))) ?_
       refine AOps_q 179 _ rfl rfl rfl (QOp_len_sl _ _ _ _ _ _ _ (intsD_length _) rfl rfl rfl rfl Tryz.underlying40 rfl) ?_
       refine AOps_q 180 _ rfl rfl rfl (QOp_add _ _ _ _ _ _ _ rfl rfl rfl) ?_
       refine kN 1 rfl ?_
       refine kB (fun s54 => [(3, .ptr 0 0), (4, .ptr 1 0), (5, iV r4.2), (8, .ptr 2 0), (9, .d (.sl none (rowsD (r11.1.getD [])))), (13, iV r18.1), (14, iV r18.2), (17, bV r24.1), (18, iV r24.2), (27, iV (w64 (x47 + (((r11.1.getD []).getD x48.toNat []).length : Int)))), (28, iV x48), (192, bV s54)]) (fun s54 => [.box (colD r3), .box (colD r4.1), .box (colD r10)]) h (fun s54 h => ?_) (fun s54 h => ?_)
       ·refine (ACode_region ?_)
        refine kM 1 rfl ?_
        refine AOps_q 182 _ rfl rfl rfl (QOp_eql _ _ _ _ _ _ _ rfl rfl rfl) ?_
        refine kM 1 rfl ?_
        refine AOps_case 183 _ rfl (fun hb51 => ?_) (fun hb51 => ?_)
        ·have h := iteT hb51 h
         refine kM 3 rfl ?_
         obtain ⟨hc52, h⟩ := guardO h
         refine AOps_q 187 _ rfl rfl rfl (QOp_indexAddr_sl _ _ _ _ _ _ _ _ rfl Tryz.underlying30 Tryz.sizeOf40 hc52.1 (by rw [rowsD_length]; exact hc52.2) rfl rfl) ?_
         refine AOps_q 188 _ rfl rfl rfl (QOp_load_pv _ _ _ _ _ rfl Tryz.isAgg40 rfl (rowsD_get _ _ [] (by omega))) ?_
         refine AOps_q 189 _ rfl rfl rfl (QOp_len_sl _ _ _ _ _ _ _ (intsD_length _) rfl rfl rfl rfl Tryz.underlying40 rfl) ?_
         obtain ⟨hc53, h⟩ := guardO h
         refine AOps_q 190 _ rfl rfl rfl (QOp_rem _ _ _ _ _ _ _ hc53 rfl rfl rfl) ?_
         refine AOps_q 191 _ rfl rfl rfl (QOp_neq _ _ _ _ _ _ _ rfl rfl rfl) ?_
         refine kN 1 rfl ?_
         cases h
         exact Weak_keep 0 hm [3, 4, 5, 8, 9, 13, 14, 17, 18, 27, 28, 192] [0, 1, 2] _ _ rfl rfl rfl
        have h := iteF hb51 h
        refine AOps_skip 184 rfl rfl rfl ?_
        refine AOps_skip 185 rfl rfl rfl ?_
        refine AOps_skip 186 rfl rfl rfl ?_
        refine AOps_skip 187 rfl rfl rfl ?_
        refine AOps_skip 188 rfl rfl rfl ?_
        refine AOps_skip 189 rfl rfl rfl ?_
        refine AOps_skip 190 rfl rfl rfl ?_
        refine AOps_skip 191 rfl rfl rfl ?_
        refine kN 1 rfl ?_
        cases h
        exact Weak_keep 0 hm [3, 4, 5, 8, 9, 13, 14, 17, 18, 27, 28, 192] [0, 1, 2] _ _ rfl rfl rfl
       refine kI h rfl (fun h _ => ?_) (fun h _ => ?_)
       ·refine kR ?_
        refine kN 1 rfl ?_
        refine ACode_ret ?_
        obtain ⟨rr, hz87, h2⟩ := bindO h
        obtain rfl := Option.some.inj h2
        obtain rfl := Option.some.inj (show some rr = some _ from hks56)
        have h := hz87
        obtain ⟨rr, hz86, h2⟩ := bindO h
        obtain rfl := Option.some.inj h2
        obtain rfl := Option.some.inj (show some rr = some _ from hks57)
        have h := hz86
        cases h
        have h := hks59
        cases h
        exact ⟨_, _, fun r a w h => ⟨r, h⟩, _, _, [], _, (.cons (ResV_tmp _ _ rfl) .nil), rfl, rfl, rfl, rfl, rfl⟩
       refine ACode_skip ?_
       cases h
       exact ⟨_, rfl, Weak_keep 0 hm [3, 4, 5, 8, 9, 13, 14, 17, 18, 27, 28] [0, 1, 2] _ _ rfl rfl rfl⟩
      refine (ACode_region ?_)
      refine kM 1 rfl ?_
      refine AOps_q 173 _ rfl rfl rfl (QOp_add _ _ _ _ _ _ _ rfl rfl rfl) ?_
      refine kN 1 rfl ?_
      exact ⟨k0, _, _, Nat.lt_succ_self _, Weak_keep 0 hm [3, 4, 5, 8, 9, 13, 14, 17, 18, 27, 28] [0, 1, 2] _ _ rfl rfl rfl, _, _, rfl, rfl, h⟩
     refine ACode_exit ?_
     cases h
     exact ⟨_, rfl, Weak_keep 0 hm [3, 4, 5, 8, 17, 18, 27] [0, 1, 2] _ _ rfl rfl rfl⟩
   refine kR ?_
   refine kM 1 rfl ?_
   refine AOps_q 194 _ rfl rfl rfl (QOp_fieldAddr_ptr _ _ _ _ _ _ 0 _ _ rfl Tryz.underlying26 rfl _ Tryz.sizeOf2 rfl rfl rfl rfl) ?_
   refine AOps_q 195 _ rfl rfl rfl (QOp_load_ptr _ _ _ _ _ _ rfl Tryz.isAgg2 rfl rfl rfl) ?_
   refine AOps_q 196 _ rfl rfl rfl (QOp_neq _ _ _ _ _ _ _ rfl rfl rfl) ?_
   refine AOps_nil ?_
   refine kI h rfl (fun h _ => ?_) (fun h _ => ?_)
   ·refine kR ?_
    refine kN 1 rfl ?_
    refine ACode_ret ?_
    cases h
    have h := hks59
    cases h
    exact ⟨_, _, fun r a w h => ⟨r, h⟩, _, _, [], _, (.cons (ResV_tmp _ _ rfl) .nil), rfl, rfl, rfl, rfl, rfl⟩
   refine ACode_skip ?_
   cases h
   exact ⟨_, rfl, Weak_keep 0 hm [3, 4, 5, 8, 17, 18] [0, 1, 2] _ _ rfl rfl rfl⟩
  refine ACode_skip ?_
  cases h
  exact ⟨_, rfl, Weak_keep 0 hm [3, 4, 5, 8, 17, 18] [0, 1, 2] _ _ rfl rfl rfl⟩
 refine kO (fun s70 => [(3, .ptr 0 0), (4, .ptr 1 0), (5, iV r4.2)]) (fun s70 => [.box (colD r3), .box (colD r4.1)]) h (fun os70 h hks70 => ?_) (fun s70 h => ?_)
 ·refine kL (fun s62 => [(3, .ptr 0 0), (4, .ptr 1 0), (5, iV r4.2), (8, .ptr 2 0), (206, bV s62)]) (fun s62 => [.box (colD r3), .box (colD r4.1), .box (colD r10)]) h (fun s62 h => ?_) (fun s62 h => ?_)
  ·refine (ACode_region ?_)
   refine kM 1 rfl ?_
   refine AOps_q 198 _ rfl rfl rfl (QOp_eql _ _ _ _ _ _ _ rfl rfl rfl) ?_
   refine kM 1 rfl ?_
   refine AOps_case 199 _ rfl (fun hb60 => ?_) (fun hb60 => ?_)
   ·have h := iteT hb60 h
    refine kM 3 rfl ?_
    refine AOps_case 202 _ rfl (fun hb61 => ?_) (fun hb61 => ?_)
    ·have h := iteT hb61 h
     refine AOps_q 203 _ rfl rfl rfl (QOp_fieldAddr_ptr _ _ _ _ _ _ 1 _ _ rfl Tryz.underlying26 rfl _ Tryz.sizeOf2 rfl rfl rfl rfl) ?_
     refine AOps_q 204 _ rfl rfl rfl (QOp_load_ptr _ _ _ _ _ _ rfl Tryz.isAgg2 rfl rfl rfl) ?_
     refine AOps_q 205 _ rfl rfl rfl (QOp_eql _ _ _ _ _ _ _ rfl rfl rfl) ?_
     refine kN 1 rfl ?_
     cases h
     exact Weak_keep 0 hm [3, 4, 5, 8, 206] [0, 1, 2] _ _ rfl rfl rfl
    have h := iteF hb61 h
    refine AOps_skip 203 rfl rfl rfl ?_
    refine AOps_skip 204 rfl rfl rfl ?_
    refine AOps_skip 205 rfl rfl rfl ?_
    refine kN 1 rfl ?_
    cases h
    exact Weak_keep 0 hm [3, 4, 5, 8, 206] [0, 1, 2] _ _ rfl rfl rfl
   have h := iteF hb60 h
   refine AOps_skip 200 rfl rfl rfl ?_
   refine kM 2 rfl ?_
   refine AOps_skip 203 rfl rfl rfl ?_
   refine AOps_skip 204 rfl rfl rfl ?_
   refine AOps_skip 205 rfl rfl rfl ?_
   refine kN 1 rfl ?_
   cases h
   exact Weak_keep 0 hm [3, 4, 5, 8, 206] [0, 1, 2] _ _ rfl rfl rfl
  refine kI h rfl (fun h _ => ?_) (fun h _ => ?_)
  ·refine kR ?_
   refine AOps_q 208 _ rfl rfl rfl (QOp_loadN_ptr _ _ _ _ _ _ _ rfl Tryz.isAgg26 Tryz.sizeOf26 rfl rfl (colD_all _) (colD_length _)) ?_
   obtain ⟨r64, hr64, h⟩ := bindO h
   refine kC [] 209 (.tup [.d (.sl none (intsD (r64.1.getD []))), iV r64.2]) [.box (colD r3), .box (colD r4.1), .box (colD r10)] rfl Tryz.call19 rfl rfl (AC_frz rfl (frz_cons frz_nil) (impl_CountEdges_ac k r10 _ hr64)) rfl ?_
   refine kN 5 rfl ?_
   refine kB (fun s68 => [(3, .ptr 0 0), (4, .ptr 1 0), (5, iV r4.2), (222, bV s68)]) (fun s68 => [.box (colD r3), .box (colD r4.1)]) h (fun s68 h => ?_) (fun s68 h => ?_)
   ·refine (ACode_quiet mixed (by kernel_rfl) ?_)
    refine kQ 1 rfl ?_
    refine AQ_q 213 _ rfl rfl rfl (QOp_neq _ _ _ _ _ _ _ rfl rfl rfl) ?_
    refine kQ 1 rfl ?_
    refine AQ_case 214 _ rfl (fun hb65 => ?_) (fun hb65 => ?_)
    ·have h := iteT hb65 h
     refine AQ_skip 215 rfl rfl rfl ?_
     refine AQ_skip 216 rfl rfl rfl ?_
     refine AQ_skip 217 rfl rfl rfl ?_
     refine AQ_skip 218 rfl rfl rfl ?_
     refine AQ_skip 219 rfl rfl rfl ?_
     refine AQ_skip 220 rfl rfl rfl ?_
     refine AQ_skip 221 rfl rfl rfl ?_
     refine kQ 1 rfl ?_
     refine AQ_nil ?_
     cases h
     exact Weak_keep 0 hm [3, 4, 5, 222] [0, 1] _ _ rfl rfl rfl
    have h := iteF hb65 h
    refine kQ 1 rfl ?_
    obtain ⟨hc66, h⟩ := guardO h
    refine AQ_q 216 _ rfl rfl rfl (QOp_indexAddr_sl _ _ _ _ _ _ _ _ rfl Tryz.underlying40 Tryz.sizeOf2 hc66.1 (by rw [intsD_length]; exact hc66.2) rfl rfl) ?_
    refine AQ_q 217 _ rfl rfl rfl (QOp_load_pv _ _ _ _ _ rfl Tryz.isAgg2 rfl (intsD_get _ _ 0 (by omega))) ?_
    refine kQ 1 rfl ?_
    obtain ⟨hc67, h⟩ := guardO h
    refine AQ_q 219 _ rfl rfl rfl (QOp_indexAddr_sl _ _ _ _ _ _ _ _ rfl Tryz.underlying40 Tryz.sizeOf2 hc67.1 (by rw [intsD_length]; exact hc67.2) rfl rfl) ?_
    refine AQ_q 220 _ rfl rfl rfl (QOp_load_pv _ _ _ _ _ rfl Tryz.isAgg2 rfl (intsD_get _ _ 0 (by omega))) ?_
    refine AQ_q 221 _ rfl rfl rfl (QOp_neq _ _ _ _ _ _ _ rfl rfl rfl) ?_
    refine kQ 1 rfl ?_
    refine AQ_nil ?_
    cases h
    exact Weak_keep 0 hm [3, 4, 5, 222] [0, 1] _ _ rfl rfl rfl
   refine kI h rfl (fun h _ => ?_) (fun h _ => ?_)
   ·refine kR ?_
    refine kN 1 rfl ?_
    refine ACode_ret ?_
    cases h
    have h := hks70
    cases h
    exact ⟨_, _, fun r a w h => ⟨r, h⟩, _, _, [], _, (.cons (ResV_tmp _ _ rfl) .nil), rfl, rfl, rfl, rfl, rfl⟩
   refine ACode_skip ?_
   cases h
   exact ⟨_, rfl, Weak_keep 0 hm [3, 4, 5] [0, 1] _ _ rfl rfl rfl⟩
  refine ACode_skip ?_
  cases h
  exact ⟨_, rfl, Weak_keep 0 hm [3, 4, 5] [0, 1] _ _ rfl rfl rfl⟩
 refine ACode_seq ?_
 refine kR ?_
 refine kM 1 rfl ?_
 refine AOps_q 224 _ rfl rfl rfl (QOp_neq _ _ _ _ _ _ _ rfl rfl rfl) ?_
 refine AOps_nil ?_
 refine kI h rfl (fun h _ => ?_) (fun h _ => ?_)
 ·refine kR ?_
  refine AOps_q 225 _ rfl rfl rfl (QOp_fieldAddr_ptr _ _ _ _ _ _ 0 _ _ rfl Tryz.underlying26 rfl _ Tryz.sizeOf2 rfl rfl rfl rfl) ?_
  refine AOps_q 226 _ rfl rfl rfl (QOp_load_ptr _ _ _ _ _ _ rfl Tryz.isAgg2 rfl rfl rfl) ?_
  refine AOps_q 227 _ rfl rfl rfl (QOp_eql _ _ _ _ _ _ _ rfl rfl rfl) ?_
  refine kN 1 rfl ?_
  refine ACode_ret ?_
  cases h
  exact ⟨_, _, fun r a w h => ⟨r, h⟩, _, _, [], _, (.cons (ResV_tmp _ _ rfl) .nil), rfl, rfl, rfl, rfl, rfl⟩
 refine ACode_skip ?_
 refine kR ?_
 refine AOps_q 229 _ rfl rfl rfl (QOp_loadN_ptr _ _ _ _ _ _ _ rfl Tryz.isAgg26 Tryz.sizeOf26 rfl rfl (colD_all _) (colD_length _)) ?_
 refine AOps_q 230 _ rfl rfl rfl (QOp_loadN_ptr _ _ _ _ _ _ _ rfl Tryz.isAgg26 Tryz.sizeOf26 rfl rfl (colD_all _) (colD_length _)) ?_
 obtain ⟨r72, hr72, h⟩ := bindO h
 refine kC [] 231 (.tup [bV r72.1, iV r72.2]) [.box (colD r3), .box (colD r4.1)] rfl Tryz.call20 rfl rfl (impl_AreIsomorphic_ac k r3 r4.1 _ hr72) rfl ?_
 refine kN 5 rfl ?_
 refine kR ?_
 refine AOps_buildSlice 234 _ _ _ [] (intsD ([] : List Int)) _ rfl rfl rfl rfl rfl (by decide) Tryz.underlying40 Tryz.sizeOf2 (zero_of Tryz.typeInfo2 rfl) rfl rfl (intsD_one _) ?_
 refine kN 1 rfl ?_
 refine kB (fun s78 => [(3, .ptr 0 0), (4, .ptr 1 0), (31, bV r72.1), (32, iV r72.2), (33, .vec 2 0)]) (fun s78 => [.box (colD r3), .box (colD r4.1), .vec 0 (intsD s78)]) h (fun s78 h => ?_) (fun s78 h => ?_)
 ·refine kR ?_
  refine kN 1 rfl ?_
  refine ACode_block ?_
  refine ACode_loopW (fun k1 E H => ∃ (x73 : Int) (x74 : List Int), E = [(3, .ptr 0 0), (4, .ptr 1 0), (31, bV r72.1), (32, iV r72.2), (33, .vec 2 0), (34, iV x73)] ∧ H = [.box (colD r3), .box (colD r4.1), .vec 0 (intsD x74)] ∧ laws_FnForms_l1 r3 k1 x73 x74 = some s78) k _ _ (Weak_keep 0 hm [3, 4, 31, 32, 33, 34] [0, 1, 2] _ _ rfl rfl rfl) ⟨_, _, rfl, rfl, h⟩ ?_
  clear h
  rintro k1 E H ⟨x73, x74, rfl, rfl, h⟩
  cases k1 with
  | zero => cases (show (none : Option (List Int)) = some _ from h)
  | succ k1 =>
   rw [laws_FnForms_l1] at h
   refine ACode_seq ?_
   refine kR ?_
   refine kM 1 rfl ?_
   refine AOps_q 236 _ rfl rfl rfl (QOp_fieldAddr_ptr _ _ _ _ _ _ 0 _ _ rfl Tryz.underlying26 rfl _ Tryz.sizeOf2 rfl rfl rfl rfl) ?_
   refine AOps_q 237 _ rfl rfl rfl (QOp_load_ptr _ _ _ _ _ _ rfl Tryz.isAgg2 rfl rfl rfl) ?_
   refine AOps_q 238 _ rfl rfl rfl (QOp_lss _ _ _ _ _ _ _ rfl rfl rfl) ?_
   refine AOps_nil ?_
   refine kI h rfl (fun h _ => ?_) (fun h _ => ?_)
   ·refine ACode_skip ?_
    refine ACode_seq ?_
    refine ACode_block ?_
    refine (ACode_region ?_)
    refine kM 2 rfl ?_
    refine AOps_q 243 _ rfl rfl rfl (QOp_add _ _ _ _ _ _ _ rfl rfl rfl) ?_
    refine AOps_q 244 _ rfl rfl rfl (QOp_fieldAddr_ptr _ _ _ _ _ _ 0 _ _ rfl Tryz.underlying26 rfl _ Tryz.sizeOf2 rfl rfl rfl rfl) ?_
    refine AOps_q 245 _ rfl rfl rfl (QOp_load_ptr _ _ _ _ _ _ rfl Tryz.isAgg2 rfl rfl rfl) ?_
    obtain ⟨hc76, h⟩ := guardO h
    refine AOps_q 246 _ rfl rfl rfl (QOp_rem _ _ _ _ _ _ _ hc76 rfl rfl rfl) ?_
    refine AOps_buildSlice 247 _ _ _ [_] (intsD ([(w64 (x73 + 1)).tmod r3.p])) _ rfl rfl rfl rfl rfl (by decide) Tryz.underlying40 Tryz.sizeOf2 (zero_of Tryz.typeInfo2 rfl) rfl rfl (intsD_one _) ?_
    obtain ⟨hc77, h⟩ := guardO h
    refine AOps_append 248 _ _ _ _ _ _ _ _ _ _ _ _ rfl rfl rfl rfl rfl rfl rfl Tryz.underlying40 Tryz.type2 rfl rfl rfl (by decide) rfl rfl rfl rfl (intsD_one _) (by rw [intsD_length, intsD_length]; exact hc77) ?_
    rw [intsD_app]
    refine kN 1 rfl ?_
    refine (ACode_region ?_)
    refine kM 1 rfl ?_
    refine AOps_q 240 _ rfl rfl rfl (QOp_add _ _ _ _ _ _ _ rfl rfl rfl) ?_
    refine kN 1 rfl ?_
    exact ⟨k1, _, _, Nat.lt_succ_self _, Weak_trans (Weak_keep 0 hm [3, 4, 31, 32, 33, 34] [0, 1, 2] _ _ rfl rfl rfl) (Weak_reset 0 hm hz [3, 4, 31, 32, 33, 34] _ _ rfl rfl), _, _, rfl, rfl, h⟩
   refine ACode_exit ?_
   cases h
   exact Weak_keep 0 hm [3, 4, 31, 32, 33] [0, 1, 2] _ _ rfl rfl rfl
 refine kR ?_
 refine AOps_q 250 _ rfl rfl rfl (QOp_loadN_ptr _ _ _ _ _ _ _ rfl Tryz.isAgg26 Tryz.sizeOf26 rfl rfl (colD_all _) (colD_length _)) ?_
 refine kM 1 rfl ?_
 obtain ⟨r79, hr79, h⟩ := bindO h
 refine AOps_callL [] 252 _ _ _ _ _ _ _ _ _ _ rfl rfl rfl rfl rfl rfl rfl Tryz.call21 rfl (nodupB_sound _ rfl) rfl rfl rfl (impl_RenumberPoints_ac k r3 s78 _ hr79) ?_
 rintro _ _ ⟨rfl, rfl⟩
 refine ⟨(fun _ h => nomatch h), (allc (flat_agg (colD_flat _)) (allc (flat_s _) (fun _ h => nomatch h))), AOps_as 252 (v' := .tup [.d (.agg (colD r79.1)), iV r79.2]) (H' := [.box (colD r3), .box (colD r4.1), .vec 0 (intsD s78)]) rfl rfl ?_⟩
 refine kM 3 rfl ?_
 refine AOps_alloc 35 _ _ (colD Col.zero) (zero_of Tryz.typeInfo26 rfl) (by rfl) rfl rfl rfl rfl ?_
 refine AOps_store _ _ _ _ _ _ (colD _) _ _ rfl rfl rfl rfl rfl rfl rfl (colD_one _) (by rw [colD_length]; exact Tryz.sizeOf26) (by rw [colD_length, colD_length]; decide) (colD_whole _ _) ?_
 refine kN 1 rfl ?_
 refine kR ?_
 refine AOps_q 256 _ rfl rfl rfl (QOp_loadN_ptr _ _ _ _ _ _ _ rfl Tryz.isAgg26 Tryz.sizeOf26 rfl rfl (colD_all _) (colD_length _)) ?_
 obtain ⟨r80, hr80, h⟩ := bindO h
 refine kC [] 257 (.tup [.d (.agg (colD r80.1)), iV r80.2]) [.box (colD r3), .box (colD r4.1), .vec 0 (intsD s78), .box (colD r79.1)] rfl Tryz.call6 rfl rfl (impl_LeastForm_ac k r79.1 _ hr80) rfl ?_
 refine kM 3 rfl ?_
 refine AOps_alloc 37 _ _ (colD Col.zero) (zero_of Tryz.typeInfo26 rfl) (by rfl) rfl rfl rfl rfl ?_
 refine AOps_store _ _ _ _ _ _ (colD _) _ _ rfl rfl rfl rfl rfl rfl rfl (colD_one _) (by rw [colD_length]; exact Tryz.sizeOf26) (by rw [colD_length, colD_length]; decide) (colD_whole _ _) ?_
 refine kN 1 rfl ?_
 refine kL (fun s85 => [(2, bV s85)]) (fun s85 => []) h (fun s85 h => ?_) (fun s85 h => ?_)
 ·refine (ACode_region ?_)
  refine kM 1 rfl ?_
  refine AOps_q 261 _ rfl rfl rfl (QOp_eql _ _ _ _ _ _ _ rfl rfl rfl) ?_
  refine kM 1 rfl ?_
  refine AOps_case 262 _ rfl (fun hb81 => ?_) (fun hb81 => ?_)
  ·have h := iteT hb81 h
   refine kM 3 rfl ?_
   refine AOps_case 265 _ rfl (fun hb82 => ?_) (fun hb82 => ?_)
   ·have h := iteT hb82 h
    refine kM 1 rfl ?_
    refine AOps_q 267 _ rfl rfl rfl (QOp_eql _ _ _ _ _ _ _ rfl rfl rfl) ?_
    refine kM 2 rfl ?_
    refine AOps_case 269 _ rfl (fun hb83 => ?_) (fun hb83 => ?_)
    ·have h := iteT hb83 h
     refine kM 1 rfl ?_
     refine AOps_q 271 _ rfl rfl rfl (QOp_eql _ _ _ _ _ _ _ rfl rfl rfl) ?_
     refine kM 2 rfl ?_
     refine AOps_case 273 _ rfl (fun hb84 => ?_) (fun hb84 => ?_)
     ·have h := iteT hb84 h
      refine AOps_q 274 _ rfl rfl rfl (QOp_loadN_ptr _ _ _ _ _ _ _ rfl Tryz.isAgg26 Tryz.sizeOf26 rfl rfl (colD_all _) (colD_length _)) ?_
      refine AOps_q 275 _ rfl rfl rfl (QOp_loadN_ptr _ _ _ _ _ _ _ rfl Tryz.isAgg26 Tryz.sizeOf26 rfl rfl (colD_all _) (colD_length _)) ?_
      refine AOps_q 276 _ rfl rfl rfl (QOp_eqCol _ _ _ _ _ _ _ _ _ _ _ _ rfl rfl rfl Tryz.underlying26 (by kernel_rfl) (by kernel_rfl) (by decide) (by decide) (by decide) rfl rfl rfl rfl rfl rfl Tryz.underlying2 Tryz.underlying24 Tryz.underlying5 Tryz.sizeOf5 Tryz.sizeOf24) ?_
      refine kN 2 rfl ?_
      cases h
      exact Weak_keep 0 hm [2] [] _ _ rfl rfl rfl
     have h := iteF hb84 h
     refine AOps_skip 274 rfl rfl rfl ?_
     refine AOps_skip 275 rfl rfl rfl ?_
     refine AOps_skip 276 rfl rfl rfl ?_
     refine kN 2 rfl ?_
     cases h
     exact Weak_keep 0 hm [2] [] _ _ rfl rfl rfl
    have h := iteF hb83 h
    refine AOps_skip 270 rfl rfl rfl ?_
    refine AOps_skip 271 rfl rfl rfl ?_
    refine kM 2 rfl ?_
    refine AOps_skip 274 rfl rfl rfl ?_
    refine AOps_skip 275 rfl rfl rfl ?_
    refine AOps_skip 276 rfl rfl rfl ?_
    refine kN 2 rfl ?_
    cases h
    exact Weak_keep 0 hm [2] [] _ _ rfl rfl rfl
   have h := iteF hb82 h
   refine AOps_skip 266 rfl rfl rfl ?_
   refine AOps_skip 267 rfl rfl rfl ?_
   refine kM 2 rfl ?_
   refine AOps_skip 270 rfl rfl rfl ?_
   refine AOps_skip 271 rfl rfl rfl ?_
   refine kM 2 rfl ?_
   refine AOps_skip 274 rfl rfl rfl ?_
   refine AOps_skip 275 rfl rfl rfl ?_
   refine AOps_skip 276 rfl rfl rfl ?_
   refine kN 2 rfl ?_
   cases h
   exact Weak_keep 0 hm [2] [] _ _ rfl rfl rfl
  have h := iteF hb81 h
  refine AOps_skip 263 rfl rfl rfl ?_
  refine kM 2 rfl ?_
  refine AOps_skip 266 rfl rfl rfl ?_
  refine AOps_skip 267 rfl rfl rfl ?_
  refine kM 2 rfl ?_
  refine AOps_skip 270 rfl rfl rfl ?_
  refine AOps_skip 271 rfl rfl rfl ?_
  refine kM 2 rfl ?_
  refine AOps_skip 274 rfl rfl rfl ?_
  refine AOps_skip 275 rfl rfl rfl ?_
  refine AOps_skip 276 rfl rfl rfl ?_
  refine kN 2 rfl ?_
  cases h
  exact Weak_keep 0 hm [2] [] _ _ rfl rfl rfl
 refine ACode_ret ?_
 cases h
 exact ⟨_, _, fun r a w h => ⟨r, h⟩, _, _, [], _, (.cons (ResV_tmp _ _ rfl) .nil), rfl, rfl, rfl, rfl, rfl⟩

end Go.Proofs.YtldgmcghdohmeaaGreat
