/- Plain functions of the program and that the program computes them: printed by the own tool gen.py. No conditions. -/
import Derived.Test.YtfnbhfobgimnjaaGen27c
set_option linter.unusedVariables false
set_option linter.unusedSimpArgs false
namespace Go.Proofs.Ytfnbhfobgimnjaa
open Go Go.RowKit Ab

-- loop.example/g01362/laws.FnAvoiding
def laws_FnAvoiding_l0 (k : Nat) (r43 : Col × List Int) (r44 : Option (List (List Int)) × Int) : Nat → Int → Option (Sum (Unit) (Bool))
 | 0, _ => none
 | k0 + 1, x51 => (letO (if decide (x51 < ((r44.1.getD []).length : Int)) then decide (x51 < 12) else false) fun (s53 : Bool) => (if s53 then some (.inl ()) else (some (.inl ())).bind fun rr => some (.inr rr)) : Option (Sum (Unit) (Sum (Unit) (Bool)))).bind fun os55 => (match os55 with | .inl s55 => ((if 0 ≤ x51 ∧ x51 < ((r44.1.getD []).length : Int) then (if !decide ((((r44.1.getD []).getD x51.toNat []).length : Int) = 3) then (some (.inr false)).bind fun rr => some (.inr rr) else (if 0 ≤ x51 ∧ x51 < ((r44.1.getD []).length : Int) then (if 0 ≤ x51 ∧ x51 < ((r44.1.getD []).length : Int) then (if 0 ≤ x51 ∧ x51 < ((r44.1.getD []).length : Int) then (if 0 ≤ (0 : Int) ∧ (0 : Int) < (((r44.1.getD []).getD x51.toNat []).length : Int) then (if 0 ≤ (1 : Int) ∧ (1 : Int) < (((r44.1.getD []).getD x51.toNat []).length : Int) then (if 0 ≤ (2 : Int) ∧ (2 : Int) < (((r44.1.getD []).getD x51.toNat []).length : Int) then (impl_ChangeEdge k r43.1 (((r44.1.getD []).getD x51.toNat []).getD (0 : Int).toNat 0) (((r44.1.getD []).getD x51.toNat []).getD (1 : Int).toNat 0) (((r44.1.getD []).getD x51.toNat []).getD (2 : Int).toNat 0)).bind fun r64 => (impl_AvoidsSizes k r64.1 r43.2).bind fun r65 => letO (if !decide (r64.2 = 0) then true else (if !decide (r65.2 = 0) then true else (if !r65.1 then true else (r64.1.eqb r43.1)))) fun (s69 : Bool) => (if s69 then (some (.inr false)).bind fun rr => some (.inr rr) else some (.inl ())) else none) else none) else none) else none) else none) else none)) else none) : Option (Sum (Unit) (Sum (Unit) (Bool)))).bind fun os71 => (match os71 with | .inl s71 => laws_FnAvoiding_l0 k r43 r44 k0 (w64 (x51 + 1)) | .inr rr => some rr) | .inr rr => some rr)
def laws_FnAvoiding (k : Nat) (p0 : List UInt8) : Option (Bool) :=
 (if (laws_big p0) then some true else (spec_DrawFirstAvoiding k p0).bind fun r3 => (impl_FirstAvoiding k r3.1 r3.2).bind fun r4 => (spec_FirstAvoiding k r3.1 r3.2).bind fun r5 => (letO (if !decide (r4.2 = r5.2) then true else !(r4.1.eqb r5.1)) fun (s7 : Bool) => (if s7 then some (.inr false) else some (.inl ())) : Option (Sum (Unit) (Bool))).bind fun os9 => (match os9 with | .inl s9 => ((if decide (r4.2 = 0) then (impl_AvoidsSizes k r4.1 r3.2).bind fun r11 => (letO (if !decide (r11.2 = 0) then true else (if !r11.1 then true else !decide (r4.1.p = r3.1))) fun (s14 : Bool) => (if s14 then (some (.inr false)).bind fun rr => some (.inr rr) else some (.inl ())) : Option (Sum (Unit) (Sum (Unit) (Bool)))).bind fun os16 => (match os16 with | .inl s16 => (if decide (1 < r3.1) then (impl_TakePoint k r4.1 (w64 (r3.1 - 1))).bind fun r18 => (impl_FirstExtension k r18.1 r3.2).bind fun r19 => letO (if !decide (r18.2 = 0) then true else (if !decide (r19.2 = 0) then true else !decide (((r19.1.getD []).length : Int) = w64 (r3.1 - 1)))) fun (s22 : Bool) => (if s22 then some (.inr false) else some (.inl ())) else some (.inl ())) | .inr rr => some rr) else some (.inl ())) : Option (Sum (Unit) (Bool))).bind fun os24 => (match os24 with | .inl s24 => (spec_DrawCountAvoiding k p0).bind fun r25 => (impl_CountAvoiding k r25.1 r25.2).bind fun r26 => (spec_CountAvoiding k r25.1 r25.2).bind fun r27 => (letO (if !decide (r26.2 = r27.2) then true else !decide (r26.1 = r27.1)) fun (s29 : Bool) => (if s29 then some (.inr false) else some (.inl ())) : Option (Sum (Unit) (Bool))).bind fun os31 => (match os31 with | .inl s31 => (letO (if decide (r26.2 = 0) then decide (r25.1 < 4) else false) fun (s33 : Bool) => (if s33 then (if ([] : List Int).length + r25.2.length ≤ 1099511627776 then (if 0 ≤ w64 (((([] : List Int) ++ r25.2).length : Int) - 1) ∧ w64 (((([] : List Int) ++ r25.2).length : Int) - 1) < ((([] : List Int) ++ r25.2).length : Int) then (if 0 ≤ w64 (((([] : List Int) ++ r25.2).length : Int) - 1) ∧ w64 (((([] : List Int) ++ r25.2).length : Int) - 1) < ((([] : List Int) ++ r25.2).length : Int) then (impl_CountAvoiding k r25.1 ((([] : List Int) ++ r25.2).set (w64 (((([] : List Int) ++ r25.2).length : Int) - 1)).toNat (if 17 < w64 (((([] : List Int) ++ r25.2).getD (w64 (((([] : List Int) ++ r25.2).length : Int) - 1)).toNat 0) + 1) then 17 else w64 (((([] : List Int) ++ r25.2).getD (w64 (((([] : List Int) ++ r25.2).length : Int) - 1)).toNat 0) + 1)))).bind fun r38 => letO (if !decide (r38.2 = 0) then true else decide (r38.1 < r26.1)) fun (s40 : Bool) => (if s40 then some (.inr false) else some (.inl ())) else none) else none) else none) else some (.inl ())) : Option (Sum (Unit) (Bool))).bind fun os42 => (match os42 with | .inl s42 => (spec_DrawFreeChanges k p0).bind fun r43 => (impl_FreeChanges k r43.1 r43.2).bind fun r44 => (spec_FreeChanges k r43.1 r43.2).bind fun r45 => (((if !decide (r44.2 = r45.2) then some true else (laws_rows5 k (r44.1.getD []) r45.1).bind fun r47 => some (!r47)) : Option (Bool)).bind fun s48 => (if s48 then some (.inr false) else some (.inl ())) : Option (Sum (Unit) (Bool))).bind fun os50 => (match os50 with | .inl s50 => (laws_FnAvoiding_l0 k r43 r44 k 0 : Option (Sum (Unit) (Bool))).bind fun os72 => (match os72 with | .inl s72 => some true | .inr rr => some rr) | .inr rr => some rr) | .inr rr => some rr) | .inr rr => some rr) | .inr rr => some rr) | .inr rr => some rr))
set_option maxHeartbeats 2000000 in
set_option maxRecDepth 100000 in
theorem laws_FnAvoiding_ac (k : Nat) (p0 : List UInt8) (r : Bool) (h : laws_FnAvoiding k p0 = some r) : AC Try.prog 3 [.d (.sl none (bysD p0))] [] (fun res H' => res = [bV r] ∧ H' = []) := by
 refine AC_of_body true Try.func3 rfl Try.ntmps3 (rvs := [.tmp 2]) rfl rfl (fun G hG => ?_)
 have hm : G.H.length = 0 := by rw [hG]; rfl
 have hz : zeroG G.H = true := by rw [hG]; rfl
 unfold laws_FnAvoiding at h
 refine kR ?_
 refine kN 1 rfl ?_
 refine ACode_seq ?_
 refine kR ?_
 refine kM 1 rfl ?_
 refine kC [] 36 (bV (laws_big p0)) [] rfl Try.call5 rfl rfl (laws_big_ac p0) rfl ?_
 refine AOps_nil ?_
 refine kI h rfl (fun h _ => ?_) (fun h _ => ?_)
 ·refine kR ?_
  refine kN 1 rfl ?_
  refine ACode_ret ?_
  cases h
  exact ⟨_, _, fun r a w h => ⟨r, h⟩, _, _, [], _, (.cons (ResV_tmp _ _ rfl) .nil), rfl, rfl, rfl, rfl, rfl⟩
 refine ACode_skip ?_
 refine kR ?_
 refine kM 1 rfl ?_
 obtain ⟨r3, hr3, h⟩ := bindO h
 refine kC [] 39 (.tup [iV r3.1, .vec 0 0]) [.vec 0 (intsD r3.2)] rfl Try.call6 rfl rfl (spec_DrawFirstAvoiding_ac k p0 _ hr3) rfl ?_
 refine kN 5 rfl ?_
 refine kR ?_
 refine kM 2 rfl ?_
 obtain ⟨r4, hr4, h⟩ := bindO h
 refine AOps_callL [] 45 _ _ _ _ _ _ _ _ _ _ rfl rfl rfl rfl rfl rfl rfl Try.call7 rfl (nodupB_sound _ rfl) rfl rfl rfl (impl_FirstAvoiding_ac k r3.1 r3.2 _ hr4) ?_
 rintro _ _ ⟨rfl, rfl⟩
 refine ⟨(fun _ h => nomatch h), (allc (flat_agg (colD_flat _)) (allc (flat_s _) (fun _ h => nomatch h))), AOps_as 45 (v' := .tup [.d (.agg (colD r4.1)), iV r4.2]) (H' := [.vec 0 (intsD r3.2)]) rfl rfl ?_⟩
 refine kM 3 rfl ?_
 refine AOps_alloc 5 _ _ (colD Col.zero) (zero_of Try.typeInfo29 rfl) (by rfl) rfl rfl rfl rfl ?_
 refine AOps_store _ _ _ _ _ _ (colD _) _ _ rfl rfl rfl rfl rfl rfl rfl (colD_one _) (by rw [colD_length]; exact Try.sizeOf29) (by rw [colD_length, colD_length]; decide) (colD_whole _ _) ?_
 refine kN 1 rfl ?_
 refine kR ?_
 refine kM 2 rfl ?_
 obtain ⟨r5, hr5, h⟩ := bindO h
 refine AOps_callL [] 51 _ _ _ _ _ _ _ _ _ _ rfl rfl rfl rfl rfl rfl rfl Try.call8 rfl (nodupB_sound _ rfl) rfl rfl rfl (spec_FirstAvoiding_ac k r3.1 r3.2 _ hr5) ?_
 rintro _ _ ⟨rfl, rfl⟩
 refine ⟨(fun _ h => nomatch h), (allc (flat_agg (colD_flat _)) (allc (flat_s _) (fun _ h => nomatch h))), AOps_as 51 (v' := .tup [.d (.agg (colD r5.1)), iV r5.2]) (H' := [.vec 0 (intsD r3.2), .box (colD r4.1)]) rfl rfl ?_⟩
 refine kM 3 rfl ?_
 refine AOps_alloc 7 _ _ (colD Col.zero) (zero_of Try.typeInfo29 rfl) (by rfl) rfl rfl rfl rfl ?_
 refine AOps_store _ _ _ _ _ _ (colD _) _ _ rfl rfl rfl rfl rfl rfl rfl (colD_one _) (by rw [colD_length]; exact Try.sizeOf29) (by rw [colD_length, colD_length]; decide) (colD_whole _ _) ?_
 refine kN 1 rfl ?_
 refine kO (fun s9 => [(0, .d (.sl none (bysD p0))), (3, iV r3.1), (4, .vec 0 0), (5, .ptr 1 0), (6, iV r4.2)]) (fun s9 => [.vec 0 (intsD r3.2), .box (colD r4.1)]) h (fun os9 h hks9 => ?_) (fun s9 h => ?_)
 ·refine kL (fun s7 => [(0, .d (.sl none (bysD p0))), (3, iV r3.1), (4, .vec 0 0), (5, .ptr 1 0), (6, iV r4.2), (61, bV s7)]) (fun s7 => [.vec 0 (intsD r3.2), .box (colD r4.1)]) h (fun s7 h => ?_) (fun s7 h => ?_)
  ·refine (ACode_region ?_)
   refine kM 2 rfl ?_
   refine AOps_q 56 _ rfl rfl rfl (QOp_neq _ _ _ _ _ _ _ rfl rfl rfl) ?_
   refine kM 1 rfl ?_
   refine AOps_case 57 _ rfl (fun hb6 => ?_) (fun hb6 => ?_)
   ·have h := iteT hb6 h
    refine AOps_skip 58 rfl rfl rfl ?_
    refine AOps_skip 59 rfl rfl rfl ?_
    refine AOps_skip 60 rfl rfl rfl ?_
    refine kN 1 rfl ?_
    cases h
    exact Weak_keep 0 hm [0, 3, 4, 5, 6, 61] [0, 1] _ _ rfl rfl rfl
   have h := iteF hb6 h
   refine AOps_q 58 _ rfl rfl rfl (QOp_loadN_ptr _ _ _ _ _ _ _ rfl Try.isAgg29 Try.sizeOf29 rfl rfl (colD_all _) (colD_length _)) ?_
   refine AOps_q 59 _ rfl rfl rfl (QOp_loadN_ptr _ _ _ _ _ _ _ rfl Try.isAgg29 Try.sizeOf29 rfl rfl (colD_all _) (colD_length _)) ?_
   refine AOps_q 60 _ rfl rfl rfl (QOp_neqCol _ _ _ _ _ _ _ _ _ _ _ _ rfl rfl rfl Try.underlying29 (by kernel_rfl) (by kernel_rfl) (by decide) (by decide) (by decide) rfl rfl rfl rfl rfl rfl Try.underlying2 Try.underlying27 Try.underlying5 Try.sizeOf5 Try.sizeOf27) ?_
   refine kN 1 rfl ?_
   cases h
   exact Weak_keep 0 hm [0, 3, 4, 5, 6, 61] [0, 1] _ _ rfl rfl rfl
  refine kI h rfl (fun h _ => ?_) (fun h _ => ?_)
  ·refine kR ?_
   refine kN 1 rfl ?_
   refine ACode_ret ?_
   cases h
   have h := hks9
   cases h
   exact ⟨_, _, fun r a w h => ⟨r, h⟩, _, _, [], _, (.cons (ResV_tmp _ _ rfl) .nil), rfl, rfl, rfl, rfl, rfl⟩
  refine ACode_skip ?_
  cases h
  exact ⟨_, rfl, Weak_keep 0 hm [0, 3, 4, 5, 6] [0, 1] _ _ rfl rfl rfl⟩
 refine kO (fun s24 => [(0, .d (.sl none (bysD p0)))]) (fun s24 => []) h (fun os24 h hks24 => ?_) (fun s24 h => ?_)
 ·refine kR ?_
  refine kM 1 rfl ?_
  refine AOps_q 63 _ rfl rfl rfl (QOp_eql _ _ _ _ _ _ _ rfl rfl rfl) ?_
  refine AOps_nil ?_
  refine kI h rfl (fun h _ => ?_) (fun h _ => ?_)
  ·refine kR ?_
   refine AOps_q 65 _ rfl rfl rfl (QOp_loadN_ptr _ _ _ _ _ _ _ rfl Try.isAgg29 Try.sizeOf29 rfl rfl (colD_all _) (colD_length _)) ?_
   refine kM 1 rfl ?_
   obtain ⟨r11, hr11, h⟩ := bindO h
   refine AOps_callL [] 67 _ _ _ _ _ _ _ _ _ _ rfl rfl rfl rfl rfl rfl rfl Try.call9 rfl (nodupB_sound _ rfl) rfl rfl rfl (impl_AvoidsSizes_ac k r4.1 r3.2 _ hr11) ?_
   rintro _ _ ⟨rfl, rfl⟩
   refine ⟨(fun _ h => nomatch h), (allc (flat_s _) (allc (flat_s _) (fun _ h => nomatch h))), AOps_as 67 (v' := .tup [bV r11.1, iV r11.2]) (H' := [.vec 0 (intsD r3.2), .box (colD r4.1)]) rfl rfl ?_⟩
   refine kN 5 rfl ?_
   refine kO (fun s16 => [(0, .d (.sl none (bysD p0))), (3, iV r3.1), (4, .vec 0 0), (5, .ptr 1 0)]) (fun s16 => [.vec 0 (intsD r3.2), .box (colD r4.1)]) h (fun os16 h hks16 => ?_) (fun s16 h => ?_)
   ·refine kL (fun s14 => [(0, .d (.sl none (bysD p0))), (3, iV r3.1), (4, .vec 0 0), (5, .ptr 1 0), (81, bV s14)]) (fun s14 => [.vec 0 (intsD r3.2), .box (colD r4.1)]) h (fun s14 h => ?_) (fun s14 h => ?_)
    ·refine (ACode_region ?_)
     refine kM 1 rfl ?_
     refine AOps_q 71 _ rfl rfl rfl (QOp_neq _ _ _ _ _ _ _ rfl rfl rfl) ?_
     refine kM 1 rfl ?_
     refine AOps_case 72 _ rfl (fun hb12 => ?_) (fun hb12 => ?_)
     ·have h := iteT hb12 h
      refine AOps_skip 73 rfl rfl rfl ?_
      refine AOps_skip 74 rfl rfl rfl ?_
      refine kM 2 rfl ?_
      refine AOps_skip 77 rfl rfl rfl ?_
      refine AOps_skip 78 rfl rfl rfl ?_
      refine AOps_skip 79 rfl rfl rfl ?_
      refine AOps_skip 80 rfl rfl rfl ?_
      refine kN 1 rfl ?_
      cases h
      exact Weak_keep 0 hm [0, 3, 4, 5, 81] [0, 1] _ _ rfl rfl rfl
     have h := iteF hb12 h
     refine kM 1 rfl ?_
     refine AOps_q 74 _ rfl rfl rfl (QOp_not _ _ _ rfl rfl) ?_
     refine kM 2 rfl ?_
     refine AOps_case 76 _ rfl (fun hb13 => ?_) (fun hb13 => ?_)
     ·have h := iteT hb13 h
      refine AOps_skip 77 rfl rfl rfl ?_
      refine AOps_skip 78 rfl rfl rfl ?_
      refine AOps_skip 79 rfl rfl rfl ?_
      refine AOps_skip 80 rfl rfl rfl ?_
      refine kN 1 rfl ?_
      cases h
      exact Weak_keep 0 hm [0, 3, 4, 5, 81] [0, 1] _ _ rfl rfl rfl
     have h := iteF hb13 h
     refine AOps_q 77 _ rfl rfl rfl (QOp_fieldAddr_ptr _ _ _ _ _ _ 0 _ _ rfl Try.underlying29 rfl _ Try.sizeOf2 rfl rfl rfl rfl) ?_
     refine AOps_q 78 _ rfl rfl rfl (QOp_load_ptr _ _ _ _ _ _ rfl Try.isAgg2 rfl rfl rfl) ?_
     refine kM 1 rfl ?_
     refine AOps_q 80 _ rfl rfl rfl (QOp_neq _ _ _ _ _ _ _ rfl rfl rfl) ?_
     refine kN 1 rfl ?_
     cases h
     exact Weak_keep 0 hm [0, 3, 4, 5, 81] [0, 1] _ _ rfl rfl rfl
    refine kI h rfl (fun h _ => ?_) (fun h _ => ?_)
    ·refine kR ?_
     refine kN 1 rfl ?_
     refine ACode_ret ?_
     obtain ⟨rr, hz73, h2⟩ := bindO h
     obtain rfl := Option.some.inj h2
     obtain rfl := Option.some.inj (show some rr = some _ from hks16)
     have h := hz73
     cases h
     have h := hks24
     cases h
     exact ⟨_, _, fun r a w h => ⟨r, h⟩, _, _, [], _, (.cons (ResV_tmp _ _ rfl) .nil), rfl, rfl, rfl, rfl, rfl⟩
    refine ACode_skip ?_
    cases h
    exact ⟨_, rfl, Weak_keep 0 hm [0, 3, 4, 5] [0, 1] _ _ rfl rfl rfl⟩
   refine kR ?_
   refine kM 1 rfl ?_
   refine AOps_q 83 _ rfl rfl rfl (QOp_gtr _ _ _ _ _ _ _ rfl rfl rfl) ?_
   refine AOps_nil ?_
   refine kI h rfl (fun h _ => ?_) (fun h _ => ?_)
   ·refine kR ?_
    refine AOps_q 85 _ rfl rfl rfl (QOp_loadN_ptr _ _ _ _ _ _ _ rfl Try.isAgg29 Try.sizeOf29 rfl rfl (colD_all _) (colD_length _)) ?_
    refine kM 1 rfl ?_
    refine AOps_q 87 _ rfl rfl rfl (QOp_sub _ _ _ _ _ _ _ rfl rfl rfl) ?_
    obtain ⟨r18, hr18, h⟩ := bindO h
    refine kC [] 88 (.tup [.d (.agg (colD r18.1)), iV r18.2]) [.vec 0 (intsD r3.2), .box (colD r4.1)] rfl Try.call10 rfl rfl (impl_TakePoint_ac k r4.1 (w64 (r3.1 - 1)) _ hr18) rfl ?_
    refine kM 3 rfl ?_
    refine AOps_alloc 11 _ _ (colD Col.zero) (zero_of Try.typeInfo29 rfl) (by rfl) rfl rfl rfl rfl ?_
    refine AOps_store _ _ _ _ _ _ (colD _) _ _ rfl rfl rfl rfl rfl rfl rfl (colD_one _) (by rw [colD_length]; exact Try.sizeOf29) (by rw [colD_length, colD_length]; decide) (colD_whole _ _) ?_
    refine kN 1 rfl ?_
    refine kR ?_
    refine AOps_q 92 _ rfl rfl rfl (QOp_loadN_ptr _ _ _ _ _ _ _ rfl Try.isAgg29 Try.sizeOf29 rfl rfl (colD_all _) (colD_length _)) ?_
    refine kM 1 rfl ?_
    refine AOps_freezeL [4, 93] 0 0 _ (allc (rfl) (allc (rfl) (fun _ h => nomatch h))) rfl ?_
    obtain ⟨r19, hr19, h⟩ := bindO h
    refine kC [] 94 (.tup [.d (.sl none (intsD (r19.1.getD []))), iV r19.2]) [.gone, .box (colD r4.1), .box (colD r18.1)] rfl Try.call11 rfl rfl (AC_frz rfl (frz_cons frz_nil) (impl_FirstExtension_ac k r18.1 r3.2 _ hr19)) rfl ?_
    refine kN 5 rfl ?_
    refine kL (fun s22 => [(0, .d (.sl none (bysD p0))), (109, bV s22)]) (fun s22 => []) h (fun s22 h => ?_) (fun s22 h => ?_)
    ·refine (ACode_region ?_)
     refine kM 1 rfl ?_
     refine AOps_q 98 _ rfl rfl rfl (QOp_neq _ _ _ _ _ _ _ rfl rfl rfl) ?_
     refine kM 1 rfl ?_
     refine AOps_case 99 _ rfl (fun hb20 => ?_) (fun hb20 => ?_)
     ·have h := iteT hb20 h
      refine AOps_skip 100 rfl rfl rfl ?_
      refine AOps_skip 101 rfl rfl rfl ?_
      refine kM 2 rfl ?_
      refine AOps_skip 104 rfl rfl rfl ?_
      refine AOps_skip 105 rfl rfl rfl ?_
      refine AOps_skip 106 rfl rfl rfl ?_
      refine AOps_skip 107 rfl rfl rfl ?_
      refine AOps_skip 108 rfl rfl rfl ?_
      refine kN 1 rfl ?_
      cases h
      exact Weak_keep 0 hm [0, 109] [] _ _ rfl rfl rfl
     have h := iteF hb20 h
     refine kM 1 rfl ?_
     refine AOps_q 101 _ rfl rfl rfl (QOp_neq _ _ _ _ _ _ _ rfl rfl rfl) ?_
     refine kM 2 rfl ?_
     refine AOps_case 103 _ rfl (fun hb21 => ?_) (fun hb21 => ?_)
     ·have h := iteT hb21 h
      refine AOps_skip 104 rfl rfl rfl ?_
      refine AOps_skip 105 rfl rfl rfl ?_
      refine AOps_skip 106 rfl rfl rfl ?_
      refine AOps_skip 107 rfl rfl rfl ?_
      refine AOps_skip 108 rfl rfl rfl ?_
      refine kN 1 rfl ?_
      cases h
      exact Weak_keep 0 hm [0, 109] [] _ _ rfl rfl rfl
     have h := iteF hb21 h
     refine kM 1 rfl ?_
     refine AOps_q 105 _ rfl rfl rfl (QOp_len_sl _ _ _ _ _ _ _ (intsD_length _) rfl rfl rfl rfl Try.underlying24 rfl) ?_
     refine kM 1 rfl ?_
     refine AOps_q 107 _ rfl rfl rfl (QOp_sub _ _ _ _ _ _ _ rfl rfl rfl) ?_
     refine AOps_q 108 _ rfl rfl rfl (QOp_neq _ _ _ _ _ _ _ rfl rfl rfl) ?_
     refine kN 1 rfl ?_
     cases h
     exact Weak_keep 0 hm [0, 109] [] _ _ rfl rfl rfl
    refine kI h rfl (fun h _ => ?_) (fun h _ => ?_)
    ·refine kR ?_
     refine kN 1 rfl ?_
     refine ACode_ret ?_
     cases h
     have h := hks24
     cases h
     exact ⟨_, _, fun r a w h => ⟨r, h⟩, _, _, [], _, (.cons (ResV_tmp _ _ rfl) .nil), rfl, rfl, rfl, rfl, rfl⟩
    refine ACode_skip ?_
    cases h
    exact ⟨_, rfl, Weak_keep 0 hm [0] [] _ _ rfl rfl rfl⟩
   refine ACode_skip ?_
   cases h
   exact ⟨_, rfl, Weak_keep 0 hm [0] [] _ _ rfl rfl rfl⟩
  refine ACode_skip ?_
  cases h
  exact ⟨_, rfl, Weak_keep 0 hm [0] [] _ _ rfl rfl rfl⟩
 refine kR ?_
 refine kM 1 rfl ?_
 obtain ⟨r25, hr25, h⟩ := bindO h
 refine kC [] 112 (.tup [iV r25.1, .vec 0 0]) [.vec 0 (intsD r25.2)] rfl Try.call12 rfl rfl (spec_DrawCountAvoiding_ac k p0 _ hr25) rfl ?_
 refine kN 5 rfl ?_
 refine kR ?_
 refine kM 2 rfl ?_
 obtain ⟨r26, hr26, h⟩ := bindO h
 refine AOps_callL [] 118 _ _ _ _ _ _ _ _ _ _ rfl rfl rfl rfl rfl rfl rfl Try.call13 rfl (nodupB_sound _ rfl) rfl rfl rfl (impl_CountAvoiding_ac k r25.1 r25.2 _ hr26) ?_
 rintro _ _ ⟨rfl, rfl⟩
 refine ⟨(fun _ h => nomatch h), (allc (flat_s _) (allc (flat_s _) (fun _ h => nomatch h))), AOps_as 118 (v' := .tup [iV r26.1, iV r26.2]) (H' := [.vec 0 (intsD r25.2)]) rfl rfl ?_⟩
 refine kN 5 rfl ?_
 refine kR ?_
 refine kM 2 rfl ?_
 obtain ⟨r27, hr27, h⟩ := bindO h
 refine AOps_callL [] 124 _ _ _ _ _ _ _ _ _ _ rfl rfl rfl rfl rfl rfl rfl Try.call14 rfl (nodupB_sound _ rfl) rfl rfl rfl (spec_CountAvoiding_ac k r25.1 r25.2 _ hr27) ?_
 rintro _ _ ⟨rfl, rfl⟩
 refine ⟨(fun _ h => nomatch h), (allc (flat_s _) (allc (flat_s _) (fun _ h => nomatch h))), AOps_as 124 (v' := .tup [iV r27.1, iV r27.2]) (H' := [.vec 0 (intsD r25.2)]) rfl rfl ?_⟩
 refine kN 5 rfl ?_
 refine kO (fun s31 => [(0, .d (.sl none (bysD p0))), (15, iV r25.1), (16, .vec 0 0), (17, iV r26.1), (18, iV r26.2)]) (fun s31 => [.vec 0 (intsD r25.2)]) h (fun os31 h hks31 => ?_) (fun s31 h => ?_)
 ·refine kL (fun s29 => [(0, .d (.sl none (bysD p0))), (15, iV r25.1), (16, .vec 0 0), (17, iV r26.1), (18, iV r26.2), (134, bV s29)]) (fun s29 => [.vec 0 (intsD r25.2)]) h (fun s29 h => ?_) (fun s29 h => ?_)
  ·refine (ACode_region ?_)
   refine kM 2 rfl ?_
   refine AOps_q 129 _ rfl rfl rfl (QOp_neq _ _ _ _ _ _ _ rfl rfl rfl) ?_
   refine kM 1 rfl ?_
   refine AOps_case 130 _ rfl (fun hb28 => ?_) (fun hb28 => ?_)
   ·have h := iteT hb28 h
    refine AOps_skip 131 rfl rfl rfl ?_
    refine AOps_skip 132 rfl rfl rfl ?_
    refine AOps_skip 133 rfl rfl rfl ?_
    refine kN 1 rfl ?_
    cases h
    exact Weak_keep 0 hm [0, 15, 16, 17, 18, 134] [0] _ _ rfl rfl rfl
   have h := iteF hb28 h
   refine kM 2 rfl ?_
   refine AOps_q 133 _ rfl rfl rfl (QOp_neq _ _ _ _ _ _ _ rfl rfl rfl) ?_
   refine kN 1 rfl ?_
   cases h
   exact Weak_keep 0 hm [0, 15, 16, 17, 18, 134] [0] _ _ rfl rfl rfl
  refine kI h rfl (fun h _ => ?_) (fun h _ => ?_)
  ·refine kR ?_
   refine kN 1 rfl ?_
   refine ACode_ret ?_
   cases h
   have h := hks31
   cases h
   exact ⟨_, _, fun r a w h => ⟨r, h⟩, _, _, [], _, (.cons (ResV_tmp _ _ rfl) .nil), rfl, rfl, rfl, rfl, rfl⟩
  refine ACode_skip ?_
  cases h
  exact ⟨_, rfl, Weak_keep 0 hm [0, 15, 16, 17, 18] [0] _ _ rfl rfl rfl⟩
 refine kO (fun s42 => [(0, .d (.sl none (bysD p0)))]) (fun s42 => []) h (fun os42 h hks42 => ?_) (fun s42 h => ?_)
 ·refine kL (fun s33 => [(0, .d (.sl none (bysD p0))), (15, iV r25.1), (16, .vec 0 0), (17, iV r26.1), (140, bV s33)]) (fun s33 => [.vec 0 (intsD r25.2)]) h (fun s33 h => ?_) (fun s33 h => ?_)
  ·refine (ACode_region ?_)
   refine kM 1 rfl ?_
   refine AOps_q 136 _ rfl rfl rfl (QOp_eql _ _ _ _ _ _ _ rfl rfl rfl) ?_
   refine kM 1 rfl ?_
   refine AOps_case 137 _ rfl (fun hb32 => ?_) (fun hb32 => ?_)
   ·have h := iteT hb32 h
    refine kM 1 rfl ?_
    refine AOps_q 139 _ rfl rfl rfl (QOp_lss _ _ _ _ _ _ _ rfl rfl rfl) ?_
    refine kN 1 rfl ?_
    cases h
    exact Weak_keep 0 hm [0, 15, 16, 17, 140] [0] _ _ rfl rfl rfl
   have h := iteF hb32 h
   refine AOps_skip 138 rfl rfl rfl ?_
   refine AOps_skip 139 rfl rfl rfl ?_
   refine kN 1 rfl ?_
   cases h
   exact Weak_keep 0 hm [0, 15, 16, 17, 140] [0] _ _ rfl rfl rfl
  refine kI h rfl (fun h _ => ?_) (fun h _ => ?_)
  ·refine kR ?_
   refine AOps_buildSlice 141 _ _ _ [] (intsD ([] : List Int)) _ rfl rfl rfl rfl rfl (by decide) Try.underlying24 Try.sizeOf2 (zero_of Try.typeInfo2 rfl) rfl rfl (intsD_one _) ?_
   refine kM 1 rfl ?_
   obtain ⟨hc35, h⟩ := guardO h
   refine AOps_append 143 _ _ _ _ _ _ _ _ _ _ _ _ rfl rfl rfl rfl rfl rfl rfl Try.underlying24 Try.type2 rfl rfl rfl (by decide) rfl rfl rfl rfl (intsD_one _) (by rw [intsD_length, intsD_length]; exact hc35) ?_
   rw [intsD_app]
   refine kN 1 rfl ?_
   refine kR ?_
   refine kM 2 rfl ?_
   refine AOps_q 146 _ rfl rfl rfl (QOp_len_vec _ _ _ _ _ _ _ _ (intsD_length _) rfl rfl rfl rfl Try.underlying24 rfl rfl) ?_
   refine AOps_q 147 _ rfl rfl rfl (QOp_sub _ _ _ _ _ _ _ rfl rfl rfl) ?_
   refine kM 2 rfl ?_
   refine AOps_q 150 _ rfl rfl rfl (QOp_len_vec _ _ _ _ _ _ _ _ (intsD_length _) rfl rfl rfl rfl Try.underlying24 rfl rfl) ?_
   refine AOps_q 151 _ rfl rfl rfl (QOp_sub _ _ _ _ _ _ _ rfl rfl rfl) ?_
   obtain ⟨hc36, h⟩ := guardO h
   refine AOps_q 152 _ rfl rfl rfl (QOp_indexAddr_vec _ _ _ _ _ _ _ _ _ rfl Try.underlying24 Try.sizeOf2 hc36.1 (by rw [intsD_length]; exact hc36.2) rfl rfl rfl) ?_
   refine AOps_q 153 _ rfl rfl rfl (QOp_load_eptr _ _ _ _ _ _ _ rfl Try.isAgg2 rfl rfl (intsD_get _ _ 0 (by omega))) ?_
   refine AOps_q 154 _ rfl rfl rfl (QOp_add _ _ _ _ _ _ _ rfl rfl rfl) ?_
   refine AOps_q 155 _ rfl rfl rfl (QOp_min _ _ _ _ _ _ rfl rfl rfl rfl rfl) ?_
   obtain ⟨hc37, h⟩ := guardO h
   refine AOps_q 156 _ rfl rfl rfl (QOp_indexAddr_vec _ _ _ _ _ _ _ _ _ rfl Try.underlying24 Try.sizeOf2 hc37.1 (by rw [intsD_length]; exact hc37.2) rfl rfl rfl) ?_
   refine AOps_store_eptr _ _ _ _ _ _ (intsD (([] : List Int) ++ r25.2)) _ rfl rfl rfl rfl rfl rfl rfl Try.sizeOf2 (by rw [intsD_length]; omega) ?_
   rw [intsD_set]
   refine AOps_nil ?_
   refine kR ?_
   refine kM 2 rfl ?_
   obtain ⟨r38, hr38, h⟩ := bindO h
   refine AOps_callL [] 160 _ _ _ _ _ _ _ _ _ _ rfl rfl rfl rfl rfl rfl rfl Try.call13 rfl (nodupB_sound _ rfl) rfl rfl rfl (impl_CountAvoiding_ac k r25.1 ((([] : List Int) ++ r25.2).set (w64 (((([] : List Int) ++ r25.2).length : Int) - 1)).toNat (if 17 < w64 (((([] : List Int) ++ r25.2).getD (w64 (((([] : List Int) ++ r25.2).length : Int) - 1)).toNat 0) + 1) then 17 else w64 (((([] : List Int) ++ r25.2).getD (w64 (((([] : List Int) ++ r25.2).length : Int) - 1)).toNat 0) + 1))) _ hr38) ?_
   rintro _ _ ⟨rfl, rfl⟩
   refine ⟨(fun _ h => nomatch h), (allc (flat_s _) (allc (flat_s _) (fun _ h => nomatch h))), AOps_as 160 (v' := .tup [iV r38.1, iV r38.2]) (H' := [.vec 0 (intsD r25.2), .vec 1 (intsD ((([] : List Int) ++ r25.2).set (w64 (((([] : List Int) ++ r25.2).length : Int) - 1)).toNat (if 17 < w64 (((([] : List Int) ++ r25.2).getD (w64 (((([] : List Int) ++ r25.2).length : Int) - 1)).toNat 0) + 1) then 17 else w64 (((([] : List Int) ++ r25.2).getD (w64 (((([] : List Int) ++ r25.2).length : Int) - 1)).toNat 0) + 1))))]) rfl rfl ?_⟩
   refine kN 5 rfl ?_
   refine kL (fun s40 => [(0, .d (.sl none (bysD p0))), (169, bV s40)]) (fun s40 => []) h (fun s40 h => ?_) (fun s40 h => ?_)
   ·refine (ACode_region ?_)
    refine kM 1 rfl ?_
    refine AOps_q 164 _ rfl rfl rfl (QOp_neq _ _ _ _ _ _ _ rfl rfl rfl) ?_
    refine kM 1 rfl ?_
    refine AOps_case 165 _ rfl (fun hb39 => ?_) (fun hb39 => ?_)
    ·have h := iteT hb39 h
     refine AOps_skip 166 rfl rfl rfl ?_
     refine AOps_skip 167 rfl rfl rfl ?_
     refine AOps_skip 168 rfl rfl rfl ?_
     refine kN 1 rfl ?_
     cases h
     exact Weak_keep 0 hm [0, 169] [] _ _ rfl rfl rfl
    have h := iteF hb39 h
    refine kM 2 rfl ?_
    refine AOps_q 168 _ rfl rfl rfl (QOp_lss _ _ _ _ _ _ _ rfl rfl rfl) ?_
    refine kN 1 rfl ?_
    cases h
    exact Weak_keep 0 hm [0, 169] [] _ _ rfl rfl rfl
   refine kI h rfl (fun h _ => ?_) (fun h _ => ?_)
   ·refine kR ?_
    refine kN 1 rfl ?_
    refine ACode_ret ?_
    cases h
    have h := hks42
    cases h
    exact ⟨_, _, fun r a w h => ⟨r, h⟩, _, _, [], _, (.cons (ResV_tmp _ _ rfl) .nil), rfl, rfl, rfl, rfl, rfl⟩
   refine ACode_skip ?_
   cases h
   exact ⟨_, rfl, Weak_keep 0 hm [0] [] _ _ rfl rfl rfl⟩
  refine ACode_skip ?_
  cases h
  exact ⟨_, rfl, Weak_keep 0 hm [0] [] _ _ rfl rfl rfl⟩
 refine kR ?_
 refine kM 1 rfl ?_
 obtain ⟨r43, hr43, h⟩ := bindO h
 refine kC [] 172 (.tup [.d (.agg (colD r43.1)), .d (.sl none (intsD r43.2))]) [] rfl Try.call15 rfl rfl (spec_DrawFreeChanges_ac k p0 _ hr43) rfl ?_
 refine kM 3 rfl ?_
 refine AOps_alloc 24 _ _ (colD Col.zero) (zero_of Try.typeInfo29 rfl) (by rfl) rfl rfl rfl rfl ?_
 refine AOps_store _ _ _ _ _ _ (colD _) _ _ rfl rfl rfl rfl rfl rfl rfl (colD_one _) (by rw [colD_length]; exact Try.sizeOf29) (by rw [colD_length, colD_length]; decide) (colD_whole _ _) ?_
 refine kN 1 rfl ?_
 refine kR ?_
 refine AOps_q 176 _ rfl rfl rfl (QOp_loadN_ptr _ _ _ _ _ _ _ rfl Try.isAgg29 Try.sizeOf29 rfl rfl (colD_all _) (colD_length _)) ?_
 refine kM 1 rfl ?_
 obtain ⟨r44, hr44, h⟩ := bindO h
 refine kC [] 178 (.tup [.d (.sl none (rowsD (r44.1.getD []))), iV r44.2]) [.box (colD r43.1)] rfl Try.call16 rfl rfl (AC_frz rfl (frz_cons frz_nil) (impl_FreeChanges_ac k r43.1 r43.2 _ hr44)) rfl ?_
 refine kN 5 rfl ?_
 refine kR ?_
 refine AOps_q 182 _ rfl rfl rfl (QOp_loadN_ptr _ _ _ _ _ _ _ rfl Try.isAgg29 Try.sizeOf29 rfl rfl (colD_all _) (colD_length _)) ?_
 refine kM 1 rfl ?_
 obtain ⟨r45, hr45, h⟩ := bindO h
 refine kC [] 184 (.tup [.d (.sl none (rowsD r45.1)), iV r45.2]) [.box (colD r43.1)] rfl Try.call17 rfl rfl (spec_FreeChanges_ac k r43.1 r43.2 _ hr45) rfl ?_
 refine kN 5 rfl ?_
 refine kO (fun s50 => [(24, .ptr 0 0), (25, .d (.sl none (intsD r43.2))), (26, .d (.sl none (rowsD (r44.1.getD []))))]) (fun s50 => [.box (colD r43.1)]) h (fun os50 h hks50 => ?_) (fun s50 h => ?_)
 ·refine kB (fun s48 => [(24, .ptr 0 0), (25, .d (.sl none (intsD r43.2))), (26, .d (.sl none (rowsD (r44.1.getD [])))), (195, bV s48)]) (fun s48 => [.box (colD r43.1)]) h (fun s48 h => ?_) (fun s48 h => ?_)
  ·refine (ACode_region ?_)
   refine kM 2 rfl ?_
   refine AOps_q 189 _ rfl rfl rfl (QOp_neq _ _ _ _ _ _ _ rfl rfl rfl) ?_
   refine kM 1 rfl ?_
   refine AOps_case 190 _ rfl (fun hb46 => ?_) (fun hb46 => ?_)
   ·have h := iteT hb46 h
    refine AOps_skip 191 rfl rfl rfl ?_
    refine AOps_skip 192 rfl rfl rfl ?_
    refine AOps_skip 193 rfl rfl rfl ?_
    refine AOps_skip 194 rfl rfl rfl ?_
    refine kN 1 rfl ?_
    cases h
    exact Weak_keep 0 hm [24, 25, 26, 195] [0] _ _ rfl rfl rfl
   have h := iteF hb46 h
   refine kM 2 rfl ?_
   obtain ⟨r47, hr47, h⟩ := bindO h
   refine kC [] 193 (bV r47) [.box (colD r43.1)] rfl Try.call18 rfl rfl (laws_rows5_ac k (r44.1.getD []) r45.1 _ hr47) rfl ?_
   refine AOps_q 194 _ rfl rfl rfl (QOp_not _ _ _ rfl rfl) ?_
   refine kN 1 rfl ?_
   cases h
   exact Weak_keep 0 hm [24, 25, 26, 195] [0] _ _ rfl rfl rfl
  refine kI h rfl (fun h _ => ?_) (fun h _ => ?_)
  ·refine kR ?_
   refine kN 1 rfl ?_
   refine ACode_ret ?_
   cases h
   have h := hks50
   cases h
   exact ⟨_, _, fun r a w h => ⟨r, h⟩, _, _, [], _, (.cons (ResV_tmp _ _ rfl) .nil), rfl, rfl, rfl, rfl, rfl⟩
  refine ACode_skip ?_
  cases h
  exact ⟨_, rfl, Weak_keep 0 hm [24, 25, 26] [0] _ _ rfl rfl rfl⟩
 refine kO (fun s72 => []) (fun s72 => []) h (fun os72 h hks72 => ?_) (fun s72 h => ?_)
 ·refine kR ?_
  refine kN 1 rfl ?_
  refine ACode_block ?_
  refine ACode_loopW (fun k0 E H => ∃ (x51 : Int), E = [(24, .ptr 0 0), (25, .d (.sl none (intsD r43.2))), (26, .d (.sl none (rowsD (r44.1.getD [])))), (30, iV x51)] ∧ H = [.box (colD r43.1)] ∧ laws_FnAvoiding_l0 k r43 r44 k0 x51 = some os72) k _ _ (Weak_keep 0 hm [24, 25, 26, 30] [0] _ _ rfl rfl rfl) ⟨_, rfl, rfl, h⟩ ?_
  clear h
  rintro k0 E H ⟨x51, rfl, rfl, h⟩
  cases k0 with
  | zero => cases (show (none : Option (Sum (Unit) (Bool))) = some _ from h)
  | succ k0 =>
   rw [laws_FnAvoiding_l0] at h
   refine kO (fun s55 => [(24, .ptr 0 0), (25, .d (.sl none (intsD r43.2))), (26, .d (.sl none (rowsD (r44.1.getD [])))), (30, iV x51)]) (fun s55 => [.box (colD r43.1)]) h (fun os55 h hks55 => ?_) (fun s55 h => ?_)
   ·refine kL (fun s53 => [(24, .ptr 0 0), (25, .d (.sl none (intsD r43.2))), (26, .d (.sl none (rowsD (r44.1.getD [])))), (30, iV x51), (203, bV s53)]) (fun s53 => [.box (colD r43.1)]) h (fun s53 h => ?_) (fun s53 h => ?_)
    ·refine (ACode_region ?_)
     refine kM 2 rfl ?_
     refine AOps_q 198 _ rfl rfl rfl (QOp_len_sl _ _ _ _ _ _ _ (rowsD_length _) rfl rfl rfl rfl Try.underlying41 rfl) ?_
     refine AOps_q 199 _ rfl rfl rfl (QOp_lss _ _ _ _ _ _ _ rfl rfl rfl) ?_
     refine kM 1 rfl ?_
     refine AOps_case 200 _ rfl (fun hb52 => ?_) (fun hb52 => ?_)
     ·have h := iteT hb52 h
      refine kM 1 rfl ?_
      refine AOps_q 202 _ rfl rfl rfl (QOp_lss _ _ _ _ _ _ _ rfl rfl rfl) ?_
      refine kN 1 rfl ?_
      cases h
      exact Weak_keep 0 hm [24, 25, 26, 30, 203] [0] _ _ rfl rfl rfl
     have h := iteF hb52 h
     refine AOps_skip 201 rfl rfl rfl ?_
     refine AOps_skip 202 rfl rfl rfl ?_
     refine kN 1 rfl ?_
     cases h
     exact Weak_keep 0 hm [24, 25, 26, 30, 203] [0] _ _ rfl rfl rfl
    refine kI h rfl (fun h _ => ?_) (fun h _ => ?_)
    ·refine ACode_skip ?_
     cases h
     exact ⟨_, rfl, Weak_keep 0 hm [24, 25, 26, 30] [0] _ _ rfl rfl rfl⟩
    refine ACode_exit ?_
    obtain ⟨rr, hz74, h2⟩ := bindO h
    obtain rfl := Option.some.inj h2
    obtain rfl := Option.some.inj (show some rr = some _ from hks55)
    have h := hz74
    cases h
    exact ⟨_, rfl, Weak_keep 0 hm [] [] _ _ rfl rfl rfl⟩
   refine kO (fun s71 => [(24, .ptr 0 0), (25, .d (.sl none (intsD r43.2))), (26, .d (.sl none (rowsD (r44.1.getD [])))), (30, iV x51)]) (fun s71 => [.box (colD r43.1)]) h (fun os71 h hks71 => ?_) (fun s71 h => ?_)
   ·refine ACode_block ?_
    refine ACode_seq ?_
    refine kR ?_
    refine kM 2 rfl ?_
    obtain ⟨hc56, h⟩ := guardO h
    refine AOps_q 208 _ rfl rfl rfl (QOp_indexAddr_sl _ _ _ _ _ _ _ _ rfl Try.underlying41 Try.sizeOf24 hc56.1 (by rw [rowsD_length]; exact hc56.2) rfl rfl) ?_
    refine AOps_q 209 _ rfl rfl rfl (QOp_load_pv _ _ _ _ _ rfl Try.isAgg24 rfl (rowsD_get _ _ [] (by omega))) ?_
    refine AOps_q 210 _ rfl rfl rfl (QOp_len_sl _ _ _ _ _ _ _ (intsD_length _) rfl rfl rfl rfl Try.underlying24 rfl) ?_
    refine AOps_q 211 _ rfl rfl rfl (QOp_neq _ _ _ _ _ _ _ rfl rfl rfl) ?_
    refine AOps_nil ?_
    refine kI h rfl (fun h _ => ?_) (fun h _ => ?_)
    ·refine kR ?_
     refine kN 1 rfl ?_
     refine ACode_ret ?_
     obtain ⟨rr, hz75, h2⟩ := bindO h
     obtain rfl := Option.some.inj h2
     obtain rfl := Option.some.inj (show some rr = some _ from hks71)
     have h := hz75
     cases h
     have h := hks72
     cases h
     exact ⟨_, _, fun r a w h => ⟨r, h⟩, _, _, [], _, (.cons (ResV_tmp _ _ rfl) .nil), rfl, rfl, rfl, rfl, rfl⟩
    refine ACode_skip ?_
    obtain ⟨hc58, h⟩ := guardO h
    obtain ⟨hc59, h⟩ := guardO h
    obtain ⟨hc60, h⟩ := guardO h
    obtain ⟨hc61, h⟩ := guardO h
    obtain ⟨hc62, h⟩ := guardO h
    obtain ⟨hc63, h⟩ := guardO h
    obtain ⟨r64, hr64, h⟩ := bindO h
    refine ACode_seq (ACode_reg [(24, .ptr 0 0), (25, .d (.sl none (intsD r43.2))), (26, .d (.sl none (rowsD (r44.1.getD [])))), (30, iV x51), (31, .ptr 1 0), (32, iV r64.2)] [.box (colD r43.1), .box (colD r64.1)] ?_ ?_)
    ·refine ACode_anyU mixed ?_
     refine AU_cut 2 #[true, true, true, true, true, true, true, true, true, true, true, true, true, true, true, true, true, true, true, true, true, true, true, true, false, false] [(24, .ptr 0 0), (25, .d (.sl none (intsD r43.2))), (26, .d (.sl none (rowsD (r44.1.getD [])))), (30, iV x51), (31, .ptr 1 0), (233, .d (.agg (colD r64.1))), (234, iV r64.2)] [.box (colD r43.1), .box (colD Col.zero)] ?_ (fun hS0 => ?_)
     ·refine AU_one 24 (by kernel_rfl) rfl rfl ?_
      refine AOps_store _ _ _ _ _ _ (colD _) _ _ rfl rfl rfl rfl rfl rfl rfl (colD_one _) (by rw [colD_length]; exact Try.sizeOf29) (by rw [colD_length, colD_length]; decide) (colD_whole _ _) ?_
      refine AOps_nil ?_
      refine AU_u 25 32 _ rfl (by kernel_rfl) rfl rfl rfl (UOp_assign _ _ rfl rfl) ?_
      refine AU_done (by kernel_rfl) ?_
      exact ⟨rfl, Weak_keep 0 hm [24, 25, 26, 30, 31, 32] [0, 1] _ _ rfl rfl rfl⟩
     refine AU_cut 6 #[true, true, true, true, true, true, true, true, true, true, true, true, true, true, true, true, true, true, true, false, false, false, false, true, false, false] [(24, .ptr 0 0), (25, .d (.sl none (intsD r43.2))), (26, .d (.sl none (rowsD (r44.1.getD [])))), (30, iV x51), (31, .ptr 1 0), (213, .d (.agg (colD r43.1))), (219, iV (((r44.1.getD []).getD x51.toNat []).getD (0 : Int).toNat 0)), (225, iV (((r44.1.getD []).getD x51.toNat []).getD (1 : Int).toNat 0)), (231, iV (((r44.1.getD []).getD x51.toNat []).getD (2 : Int).toNat 0))] [.box (colD r43.1), .box (colD Col.zero)] ?_ (fun hS1 => ?_)
     ·refine AU_one 19 (by kernel_rfl) rfl rfl ?_
      refine kC [] 232 (.tup [.d (.agg (colD r64.1)), iV r64.2]) [.box (colD r43.1), .box (colD Col.zero)] rfl Try.call19 rfl rfl (impl_ChangeEdge_ac k r43.1 (((r44.1.getD []).getD x51.toNat []).getD (0 : Int).toNat 0) (((r44.1.getD []).getD x51.toNat []).getD (1 : Int).toNat 0) (((r44.1.getD []).getD x51.toNat []).getD (2 : Int).toNat 0) _ hr64) rfl ?_
      refine AOps_nil ?_
      refine AU_u 20 212 _ rfl (by kernel_rfl) rfl rfl rfl (UOp_move _ _ rfl rfl) ?_
      refine AU_u 21 233 _ rfl (by kernel_rfl) rfl rfl rfl (UOp_extract _ _ _ _ rfl rfl rfl) ?_
      refine AU_u 22 234 _ rfl (by kernel_rfl) rfl rfl rfl (UOp_extract _ _ _ _ rfl rfl rfl) ?_
      exact AU_to (by kernel_rfl) hS0 (Weak_keep 0 hm [24, 25, 26, 30, 31, 233, 234] [0, 1] _ _ rfl rfl rfl)
     refine AU_cut 7 #[true, true, true, true, true, true, true, true, true, true, true, true, true, true, true, true, true, true, true, false, false, false, false, false, false, false] [(24, .ptr 0 0), (25, .d (.sl none (intsD r43.2))), (26, .d (.sl none (rowsD (r44.1.getD [])))), (30, iV x51), (213, .d (.agg (colD r43.1))), (219, iV (((r44.1.getD []).getD x51.toNat []).getD (0 : Int).toNat 0)), (225, iV (((r44.1.getD []).getD x51.toNat []).getD (1 : Int).toNat 0)), (231, iV (((r44.1.getD []).getD x51.toNat []).getD (2 : Int).toNat 0))] [.box (colD r43.1)] ?_ (fun hS2 => ?_)
     ·refine AU_all [19, 23] (by kernel_rfl) rfl (allc ?_ (allc ?_ (fun _ h => nomatch h)))
      ·refine US_of 19 rfl rfl ?_
       refine kC [] 232 (.tup [.d (.agg (colD r64.1)), iV r64.2]) [.box (colD r43.1)] rfl Try.call19 rfl rfl (impl_ChangeEdge_ac k r43.1 (((r44.1.getD []).getD x51.toNat []).getD (0 : Int).toNat 0) (((r44.1.getD []).getD x51.toNat []).getD (1 : Int).toNat 0) (((r44.1.getD []).getD x51.toNat []).getD (2 : Int).toNat 0) _ hr64) rfl ?_
       refine AOps_nil ?_
       refine AU_u 20 212 _ rfl (by kernel_rfl) rfl rfl rfl (UOp_move _ _ rfl rfl) ?_
       refine AU_u 21 233 _ rfl (by kernel_rfl) rfl rfl rfl (UOp_extract _ _ _ _ rfl rfl rfl) ?_
       refine AU_u 22 234 _ rfl (by kernel_rfl) rfl rfl rfl (UOp_extract _ _ _ _ rfl rfl rfl) ?_
       refine AU_one 23 (by kernel_rfl) rfl rfl ?_
       refine AOps_alloc 31 _ _ (colD Col.zero) (zero_of Try.typeInfo29 rfl) (by rfl) rfl rfl rfl rfl ?_
       refine AOps_nil ?_
       exact AU_to (by kernel_rfl) hS0 (Weak_keep 0 hm [24, 25, 26, 30, 31, 233, 234] [0, 1] _ _ rfl rfl rfl)
      refine US_of 23 rfl rfl ?_
      refine AOps_alloc 31 _ _ (colD Col.zero) (zero_of Try.typeInfo29 rfl) (by rfl) rfl rfl rfl rfl ?_
      refine AOps_nil ?_
      exact AU_to (by kernel_rfl) hS1 (Weak_keep 0 hm [24, 25, 26, 30, 31, 213, 219, 225, 231] [0, 1] _ _ rfl rfl rfl)
     refine AU_cut 7 #[true, true, true, true, true, true, true, true, true, true, true, true, true, true, true, true, true, true, false, false, false, false, false, true, false, false] [(24, .ptr 0 0), (25, .d (.sl none (intsD r43.2))), (26, .d (.sl none (rowsD (r44.1.getD [])))), (30, iV x51), (31, .ptr 1 0), (213, .d (.agg (colD r43.1))), (219, iV (((r44.1.getD []).getD x51.toNat []).getD (0 : Int).toNat 0)), (225, iV (((r44.1.getD []).getD x51.toNat []).getD (1 : Int).toNat 0)), (230, .d (.pv (intsD ((r44.1.getD []).getD x51.toNat [])) (2 : Int).toNat))] [.box (colD r43.1), .box (colD Col.zero)] ?_ (fun hS3 => ?_)
     ·refine AU_one 18 (by kernel_rfl) rfl rfl ?_
      refine AOps_q 231 _ rfl rfl rfl (QOp_load_pv _ _ _ _ _ rfl Try.isAgg2 rfl (intsD_get _ _ 0 (by omega))) ?_
      refine AOps_nil ?_
      exact AU_to (by kernel_rfl) hS1 (Weak_keep 0 hm [24, 25, 26, 30, 31, 213, 219, 225, 231] [0, 1] _ _ rfl rfl rfl)
     refine AU_cut 7 #[true, true, true, true, true, true, true, true, true, true, true, true, false, true, true, true, true, true, true, false, false, false, false, true, false, false] [(24, .ptr 0 0), (25, .d (.sl none (intsD r43.2))), (26, .d (.sl none (rowsD (r44.1.getD [])))), (30, iV x51), (31, .ptr 1 0), (213, .d (.agg (colD r43.1))), (219, iV (((r44.1.getD []).getD x51.toNat []).getD (0 : Int).toNat 0)), (224, .d (.pv (intsD ((r44.1.getD []).getD x51.toNat [])) (1 : Int).toNat)), (231, iV (((r44.1.getD []).getD x51.toNat []).getD (2 : Int).toNat 0))] [.box (colD r43.1), .box (colD Col.zero)] ?_ (fun hS4 => ?_)
     ·refine AU_one 12 (by kernel_rfl) rfl rfl ?_
      refine AOps_q 225 _ rfl rfl rfl (QOp_load_pv _ _ _ _ _ rfl Try.isAgg2 rfl (intsD_get _ _ 0 (by omega))) ?_
      refine AOps_nil ?_
      exact AU_to (by kernel_rfl) hS1 (Weak_keep 0 hm [24, 25, 26, 30, 31, 213, 219, 225, 231] [0, 1] _ _ rfl rfl rfl)
     refine AU_cut 7 #[true, true, true, true, true, true, false, true, true, true, true, true, true, true, true, true, true, true, true, false, false, false, false, true, false, false] [(24, .ptr 0 0), (25, .d (.sl none (intsD r43.2))), (26, .d (.sl none (rowsD (r44.1.getD [])))), (30, iV x51), (31, .ptr 1 0), (213, .d (.agg (colD r43.1))), (218, .d (.pv (intsD ((r44.1.getD []).getD x51.toNat [])) (0 : Int).toNat)), (225, iV (((r44.1.getD []).getD x51.toNat []).getD (1 : Int).toNat 0)), (231, iV (((r44.1.getD []).getD x51.toNat []).getD (2 : Int).toNat 0))] [.box (colD r43.1), .box (colD Col.zero)] ?_ (fun hS5 => ?_)
     ·refine AU_one 6 (by kernel_rfl) rfl rfl ?_
      refine AOps_q 219 _ rfl rfl rfl (QOp_load_pv _ _ _ _ _ rfl Try.isAgg2 rfl (intsD_get _ _ 0 (by omega))) ?_
      refine AOps_nil ?_
      exact AU_to (by kernel_rfl) hS1 (Weak_keep 0 hm [24, 25, 26, 30, 31, 213, 219, 225, 231] [0, 1] _ _ rfl rfl rfl)
     refine AU_cut 7 #[false, true, true, true, true, true, true, true, true, true, true, true, true, true, true, true, true, true, true, false, false, false, false, true, false, false] [(24, .ptr 0 0), (25, .d (.sl none (intsD r43.2))), (26, .d (.sl none (rowsD (r44.1.getD [])))), (30, iV x51), (31, .ptr 1 0), (219, iV (((r44.1.getD []).getD x51.toNat []).getD (0 : Int).toNat 0)), (225, iV (((r44.1.getD []).getD x51.toNat []).getD (1 : Int).toNat 0)), (231, iV (((r44.1.getD []).getD x51.toNat []).getD (2 : Int).toNat 0))] [.box (colD r43.1), .box (colD Col.zero)] ?_ (fun hS6 => ?_)
     ·refine AU_one 0 (by kernel_rfl) rfl rfl ?_
      refine AOps_q 213 _ rfl rfl rfl (QOp_loadN_ptr _ _ _ _ _ _ _ rfl Try.isAgg29 Try.sizeOf29 rfl rfl (colD_all _) (colD_length _)) ?_
      refine AOps_nil ?_
      exact AU_to (by kernel_rfl) hS1 (Weak_keep 0 hm [24, 25, 26, 30, 31, 213, 219, 225, 231] [0, 1] _ _ rfl rfl rfl)
     refine AU_cut 8 #[true, true, true, true, true, true, true, true, true, true, true, true, true, true, true, true, true, true, false, false, false, false, false, false, false, false] [(24, .ptr 0 0), (25, .d (.sl none (intsD r43.2))), (26, .d (.sl none (rowsD (r44.1.getD [])))), (30, iV x51), (213, .d (.agg (colD r43.1))), (219, iV (((r44.1.getD []).getD x51.toNat []).getD (0 : Int).toNat 0)), (225, iV (((r44.1.getD []).getD x51.toNat []).getD (1 : Int).toNat 0)), (230, .d (.pv (intsD ((r44.1.getD []).getD x51.toNat [])) (2 : Int).toNat))] [.box (colD r43.1)] ?_ (fun hS7 => ?_)
     ·refine AU_all [18, 23] (by kernel_rfl) rfl (allc ?_ (allc ?_ (fun _ h => nomatch h)))
      ·refine US_of 18 rfl rfl ?_
       refine AOps_q 231 _ rfl rfl rfl (QOp_load_pv _ _ _ _ _ rfl Try.isAgg2 rfl (intsD_get _ _ 0 (by omega))) ?_
       refine AOps_nil ?_
       exact AU_to (by kernel_rfl) hS2 (Weak_keep 0 hm [24, 25, 26, 30, 213, 219, 225, 231] [0] _ _ rfl rfl rfl)
      refine US_of 23 rfl rfl ?_
      refine AOps_alloc 31 _ _ (colD Col.zero) (zero_of Try.typeInfo29 rfl) (by rfl) rfl rfl rfl rfl ?_
      refine AOps_nil ?_
      exact AU_to (by kernel_rfl) hS3 (Weak_keep 0 hm [24, 25, 26, 30, 31, 213, 219, 225, 230] [0, 1] _ _ rfl rfl rfl)
     refine AU_cut 8 #[true, true, true, true, true, true, true, true, true, true, true, true, false, true, true, true, true, true, true, false, false, false, false, false, false, false] [(24, .ptr 0 0), (25, .d (.sl none (intsD r43.2))), (26, .d (.sl none (rowsD (r44.1.getD [])))), (30, iV x51), (213, .d (.agg (colD r43.1))), (219, iV (((r44.1.getD []).getD x51.toNat []).getD (0 : Int).toNat 0)), (224, .d (.pv (intsD ((r44.1.getD []).getD x51.toNat [])) (1 : Int).toNat)), (231, iV (((r44.1.getD []).getD x51.toNat []).getD (2 : Int).toNat 0))] [.box (colD r43.1)] ?_ (fun hS8 => ?_)
     ·refine AU_all [12, 23] (by kernel_rfl) rfl (allc ?_ (allc ?_ (fun _ h => nomatch h)))
      ·refine US_of 12 rfl rfl ?_
       refine AOps_q 225 _ rfl rfl rfl (QOp_load_pv _ _ _ _ _ rfl Try.isAgg2 rfl (intsD_get _ _ 0 (by omega))) ?_
       refine AOps_nil ?_
       exact AU_to (by kernel_rfl) hS2 (Weak_keep 0 hm [24, 25, 26, 30, 213, 219, 225, 231] [0] _ _ rfl rfl rfl)
      refine US_of 23 rfl rfl ?_
      refine AOps_alloc 31 _ _ (colD Col.zero) (zero_of Try.typeInfo29 rfl) (by rfl) rfl rfl rfl rfl ?_
      refine AOps_nil ?_
      exact AU_to (by kernel_rfl) hS4 (Weak_keep 0 hm [24, 25, 26, 30, 31, 213, 219, 224, 231] [0, 1] _ _ rfl rfl rfl)
     refine AU_cut 8 #[true, true, true, true, true, true, true, true, true, true, true, true, false, true, true, true, true, true, false, false, false, false, false, true, false, false] [(24, .ptr 0 0), (25, .d (.sl none (intsD r43.2))), (26, .d (.sl none (rowsD (r44.1.getD [])))), (30, iV x51), (31, .ptr 1 0), (213, .d (.agg (colD r43.1))), (219, iV (((r44.1.getD []).getD x51.toNat []).getD (0 : Int).toNat 0)), (224, .d (.pv (intsD ((r44.1.getD []).getD x51.toNat [])) (1 : Int).toNat)), (230, .d (.pv (intsD ((r44.1.getD []).getD x51.toNat [])) (2 : Int).toNat))] [.box (colD r43.1), .box (colD Col.zero)] ?_ (fun hS9 => ?_)
     ·refine AU_all [12, 18] (by kernel_rfl) rfl (allc ?_ (allc ?_ (fun _ h => nomatch h)))
      ·refine US_of 12 rfl rfl ?_
       refine AOps_q 225 _ rfl rfl rfl (QOp_load_pv _ _ _ _ _ rfl Try.isAgg2 rfl (intsD_get _ _ 0 (by omega))) ?_
       refine AOps_nil ?_
       exact AU_to (by kernel_rfl) hS3 (Weak_keep 0 hm [24, 25, 26, 30, 31, 213, 219, 225, 230] [0, 1] _ _ rfl rfl rfl)
      refine US_of 18 rfl rfl ?_
      refine AOps_q 231 _ rfl rfl rfl (QOp_load_pv _ _ _ _ _ rfl Try.isAgg2 rfl (intsD_get _ _ 0 (by omega))) ?_
      refine AOps_nil ?_
      exact AU_to (by kernel_rfl) hS4 (Weak_keep 0 hm [24, 25, 26, 30, 31, 213, 219, 224, 231] [0, 1] _ _ rfl rfl rfl)
     refine AU_cut 8 #[true, true, true, true, true, true, false, true, true, true, true, true, true, true, true, true, true, true, true, false, false, false, false, false, false, false] [(24, .ptr 0 0), (25, .d (.sl none (intsD r43.2))), (26, .d (.sl none (rowsD (r44.1.getD [])))), (30, iV x51), (213, .d (.agg (colD r43.1))), (218, .d (.pv (intsD ((r44.1.getD []).getD x51.toNat [])) (0 : Int).toNat)), (225, iV (((r44.1.getD []).getD x51.toNat []).getD (1 : Int).toNat 0)), (231, iV (((r44.1.getD []).getD x51.toNat []).getD (2 : Int).toNat 0))] [.box (colD r43.1)] ?_ (fun hS10 => ?_)
     ·refine AU_all [6, 23] (by kernel_rfl) rfl (allc ?_ (allc ?_ (fun _ h => nomatch h)))
      ·refine US_of 6 rfl rfl ?_
       refine AOps_q 219 _ rfl rfl rfl (QOp_load_pv _ _ _ _ _ rfl Try.isAgg2 rfl (intsD_get _ _ 0 (by omega))) ?_
       refine AOps_nil ?_
       exact AU_to (by kernel_rfl) hS2 (Weak_keep 0 hm [24, 25, 26, 30, 213, 219, 225, 231] [0] _ _ rfl rfl rfl)
      refine US_of 23 rfl rfl ?_
      refine AOps_alloc 31 _ _ (colD Col.zero) (zero_of Try.typeInfo29 rfl) (by rfl) rfl rfl rfl rfl ?_
      refine AOps_nil ?_
      exact AU_to (by kernel_rfl) hS5 (Weak_keep 0 hm [24, 25, 26, 30, 31, 213, 218, 225, 231] [0, 1] _ _ rfl rfl rfl)
     refine AU_cut 8 #[true, true, true, true, true, true, false, true, true, true, true, true, true, true, true, true, true, true, false, false, false, false, false, true, false, false] [(24, .ptr 0 0), (25, .d (.sl none (intsD r43.2))), (26, .d (.sl none (rowsD (r44.1.getD [])))), (30, iV x51), (31, .ptr 1 0), (213, .d (.agg (colD r43.1))), (218, .d (.pv (intsD ((r44.1.getD []).getD x51.toNat [])) (0 : Int).toNat)), (225, iV (((r44.1.getD []).getD x51.toNat []).getD (1 : Int).toNat 0)), (230, .d (.pv (intsD ((r44.1.getD []).getD x51.toNat [])) (2 : Int).toNat))] [.box (colD r43.1), .box (colD Col.zero)] ?_ (fun hS11 => ?_)
     ·refine AU_all [6, 18] (by kernel_rfl) rfl (allc ?_ (allc ?_ (fun _ h => nomatch h)))
      ·refine US_of 6 rfl rfl ?_
       refine AOps_q 219 _ rfl rfl rfl (QOp_load_pv _ _ _ _ _ rfl Try.isAgg2 rfl (intsD_get _ _ 0 (by omega))) ?_
       refine AOps_nil ?_
       exact AU_to (by kernel_rfl) hS3 (Weak_keep 0 hm [24, 25, 26, 30, 31, 213, 219, 225, 230] [0, 1] _ _ rfl rfl rfl)
      refine US_of 18 rfl rfl ?_
      refine AOps_q 231 _ rfl rfl rfl (QOp_load_pv _ _ _ _ _ rfl Try.isAgg2 rfl (intsD_get _ _ 0 (by omega))) ?_
      refine AOps_nil ?_
      exact AU_to (by kernel_rfl) hS5 (Weak_keep 0 hm [24, 25, 26, 30, 31, 213, 218, 225, 231] [0, 1] _ _ rfl rfl rfl)
     refine AU_cut 8 #[true, true, true, true, true, true, false, true, true, true, true, true, false, true, true, true, true, true, true, false, false, false, false, true, false, false] [(24, .ptr 0 0), (25, .d (.sl none (intsD r43.2))), (26, .d (.sl none (rowsD (r44.1.getD [])))), (30, iV x51), (31, .ptr 1 0), (213, .d (.agg (colD r43.1))), (218, .d (.pv (intsD ((r44.1.getD []).getD x51.toNat [])) (0 : Int).toNat)), (224, .d (.pv (intsD ((r44.1.getD []).getD x51.toNat [])) (1 : Int).toNat)), (231, iV (((r44.1.getD []).getD x51.toNat []).getD (2 : Int).toNat 0))] [.box (colD r43.1), .box (colD Col.zero)] ?_ (fun hS12 => ?_)
     ·refine AU_all [6, 12] (by kernel_rfl) rfl (allc ?_ (allc ?_ (fun _ h => nomatch h)))
      ·refine US_of 6 rfl rfl ?_
       refine AOps_q 219 _ rfl rfl rfl (QOp_load_pv _ _ _ _ _ rfl Try.isAgg2 rfl (intsD_get _ _ 0 (by omega))) ?_
       refine AOps_nil ?_
       exact AU_to (by kernel_rfl) hS4 (Weak_keep 0 hm [24, 25, 26, 30, 31, 213, 219, 224, 231] [0, 1] _ _ rfl rfl rfl)
      refine US_of 12 rfl rfl ?_
      refine AOps_q 225 _ rfl rfl rfl (QOp_load_pv _ _ _ _ _ rfl Try.isAgg2 rfl (intsD_get _ _ 0 (by omega))) ?_
      refine AOps_nil ?_
      exact AU_to (by kernel_rfl) hS5 (Weak_keep 0 hm [24, 25, 26, 30, 31, 213, 218, 225, 231] [0, 1] _ _ rfl rfl rfl)
     refine AU_cut 8 #[false, true, true, true, true, true, true, true, true, true, true, true, true, true, true, true, true, true, true, false, false, false, false, false, false, false] [(24, .ptr 0 0), (25, .d (.sl none (intsD r43.2))), (26, .d (.sl none (rowsD (r44.1.getD [])))), (30, iV x51), (219, iV (((r44.1.getD []).getD x51.toNat []).getD (0 : Int).toNat 0)), (225, iV (((r44.1.getD []).getD x51.toNat []).getD (1 : Int).toNat 0)), (231, iV (((r44.1.getD []).getD x51.toNat []).getD (2 : Int).toNat 0))] [.box (colD r43.1)] ?_ (fun hS13 => ?_)
     ·refine AU_all [0, 23] (by kernel_rfl) rfl (allc ?_ (allc ?_ (fun _ h => nomatch h)))
      ·refine US_of 0 rfl rfl ?_
       refine AOps_q 213 _ rfl rfl rfl (QOp_loadN_ptr _ _ _ _ _ _ _ rfl Try.isAgg29 Try.sizeOf29 rfl rfl (colD_all _) (colD_length _)) ?_
       refine AOps_nil ?_
       exact AU_to (by kernel_rfl) hS2 (Weak_keep 0 hm [24, 25, 26, 30, 213, 219, 225, 231] [0] _ _ rfl rfl rfl)
      refine US_of 23 rfl rfl ?_
      refine AOps_alloc 31 _ _ (colD Col.zero) (zero_of Try.typeInfo29 rfl) (by rfl) rfl rfl rfl rfl ?_
      refine AOps_nil ?_
      exact AU_to (by kernel_rfl) hS6 (Weak_keep 0 hm [24, 25, 26, 30, 31, 219, 225, 231] [0, 1] _ _ rfl rfl rfl)
     refine AU_cut 8 #[false, true, true, true, true, true, true, true, true, true, true, true, true, true, true, true, true, true, false, false, false, false, false, true, false, false] [(24, .ptr 0 0), (25, .d (.sl none (intsD r43.2))), (26, .d (.sl none (rowsD (r44.1.getD [])))), (30, iV x51), (31, .ptr 1 0), (219, iV (((r44.1.getD []).getD x51.toNat []).getD (0 : Int).toNat 0)), (225, iV (((r44.1.getD []).getD x51.toNat []).getD (1 : Int).toNat 0)), (230, .d (.pv (intsD ((r44.1.getD []).getD x51.toNat [])) (2 : Int).toNat))] [.box (colD r43.1), .box (colD Col.zero)] ?_ (fun hS14 => ?_)
     ·refine AU_all [0, 18] (by kernel_rfl) rfl (allc ?_ (allc ?_ (fun _ h => nomatch h)))
      ·refine US_of 0 rfl rfl ?_
       refine AOps_q 213 _ rfl rfl rfl (QOp_loadN_ptr _ _ _ _ _ _ _ rfl Try.isAgg29 Try.sizeOf29 rfl rfl (colD_all _) (colD_length _)) ?_
       refine AOps_nil ?_
       exact AU_to (by kernel_rfl) hS3 (Weak_keep 0 hm [24, 25, 26, 30, 31, 213, 219, 225, 230] [0, 1] _ _ rfl rfl rfl)
      refine US_of 18 rfl rfl ?_
      refine AOps_q 231 _ rfl rfl rfl (QOp_load_pv _ _ _ _ _ rfl Try.isAgg2 rfl (intsD_get _ _ 0 (by omega))) ?_
      refine AOps_nil ?_
      exact AU_to (by kernel_rfl) hS6 (Weak_keep 0 hm [24, 25, 26, 30, 31, 219, 225, 231] [0, 1] _ _ rfl rfl rfl)
     refine AU_cut 8 #[false, true, true, true, true, true, true, true, true, true, true, true, false, true, true, true, true, true, true, false, false, false, false, true, false, false] [(24, .ptr 0 0), (25, .d (.sl none (intsD r43.2))), (26, .d (.sl none (rowsD (r44.1.getD [])))), (30, iV x51), (31, .ptr 1 0), (219, iV (((r44.1.getD []).getD x51.toNat []).getD (0 : Int).toNat 0)), (224, .d (.pv (intsD ((r44.1.getD []).getD x51.toNat [])) (1 : Int).toNat)), (231, iV (((r44.1.getD []).getD x51.toNat []).getD (2 : Int).toNat 0))] [.box (colD r43.1), .box (colD Col.zero)] ?_ (fun hS15 => ?_)
     ·refine AU_all [0, 12] (by kernel_rfl) rfl (allc ?_ (allc ?_ (fun _ h => nomatch h)))
      ·refine US_of 0 rfl rfl ?_
       refine AOps_q 213 _ rfl rfl rfl (QOp_loadN_ptr _ _ _ _ _ _ _ rfl Try.isAgg29 Try.sizeOf29 rfl rfl (colD_all _) (colD_length _)) ?_
       refine AOps_nil ?_
       exact AU_to (by kernel_rfl) hS4 (Weak_keep 0 hm [24, 25, 26, 30, 31, 213, 219, 224, 231] [0, 1] _ _ rfl rfl rfl)
      refine US_of 12 rfl rfl ?_
      refine AOps_q 225 _ rfl rfl rfl (QOp_load_pv _ _ _ _ _ rfl Try.isAgg2 rfl (intsD_get _ _ 0 (by omega))) ?_
      refine AOps_nil ?_
      exact AU_to (by kernel_rfl) hS6 (Weak_keep 0 hm [24, 25, 26, 30, 31, 219, 225, 231] [0, 1] _ _ rfl rfl rfl)
     refine AU_cut 8 #[false, true, true, true, true, true, false, true, true, true, true, true, true, true, true, true, true, true, true, false, false, false, false, true, false, false] [(24, .ptr 0 0), (25, .d (.sl none (intsD r43.2))), (26, .d (.sl none (rowsD (r44.1.getD [])))), (30, iV x51), (31, .ptr 1 0), (218, .d (.pv (intsD ((r44.1.getD []).getD x51.toNat [])) (0 : Int).toNat)), (225, iV (((r44.1.getD []).getD x51.toNat []).getD (1 : Int).toNat 0)), (231, iV (((r44.1.getD []).getD x51.toNat []).getD (2 : Int).toNat 0))] [.box (colD r43.1), .box (colD Col.zero)] ?_ (fun hS16 => ?_)
     ·refine AU_all [0, 6] (by kernel_rfl) rfl (allc ?_ (allc ?_ (fun _ h => nomatch h)))
      ·refine US_of 0 rfl rfl ?_
       refine AOps_q 213 _ rfl rfl rfl (QOp_loadN_ptr _ _ _ _ _ _ _ rfl Try.isAgg29 Try.sizeOf29 rfl rfl (colD_all _) (colD_length _)) ?_
       refine AOps_nil ?_
       exact AU_to (by kernel_rfl) hS5 (Weak_keep 0 hm [24, 25, 26, 30, 31, 213, 218, 225, 231] [0, 1] _ _ rfl rfl rfl)
      refine US_of 6 rfl rfl ?_
      refine AOps_q 219 _ rfl rfl rfl (QOp_load_pv _ _ _ _ _ rfl Try.isAgg2 rfl (intsD_get _ _ 0 (by omega))) ?_
      refine AOps_nil ?_
      exact AU_to (by kernel_rfl) hS6 (Weak_keep 0 hm [24, 25, 26, 30, 31, 219, 225, 231] [0, 1] _ _ rfl rfl rfl)
     refine AU_cut 9 #[true, true, true, true, true, true, true, true, true, true, true, true, true, true, true, true, false, false, false, false, false, false, false, true, false, false] [(24, .ptr 0 0), (25, .d (.sl none (intsD r43.2))), (26, .d (.sl none (rowsD (r44.1.getD [])))), (30, iV x51), (31, .ptr 1 0), (213, .d (.agg (colD r43.1))), (219, iV (((r44.1.getD []).getD x51.toNat []).getD (0 : Int).toNat 0)), (225, iV (((r44.1.getD []).getD x51.toNat []).getD (1 : Int).toNat 0)), (228, .d (.pv (rowsD (r44.1.getD [])) x51.toNat))] [.box (colD r43.1), .box (colD Col.zero)] ?_ (fun hS17 => ?_)
     ·refine AU_one 16 (by kernel_rfl) rfl rfl ?_
      refine AOps_q 229 _ rfl rfl rfl (QOp_load_pv _ _ _ _ _ rfl Try.isAgg24 rfl (rowsD_get _ _ [] (by omega))) ?_
      refine AOps_nil ?_
      refine AU_u 17 230 _ rfl (by kernel_rfl) rfl rfl rfl (UOp_indexAddr_sl _ _ _ _ _ _ _ _ rfl Try.underlying24 Try.sizeOf2 hc63.1 (by rw [intsD_length]; exact hc63.2) rfl rfl) ?_
      exact AU_to (by kernel_rfl) hS3 (Weak_keep 0 hm [24, 25, 26, 30, 31, 213, 219, 225, 230] [0, 1] _ _ rfl rfl rfl)
     refine AU_cut 9 #[true, true, true, true, true, true, true, true, true, true, true, true, false, true, true, true, true, true, false, false, false, false, false, false, false, false] [(24, .ptr 0 0), (25, .d (.sl none (intsD r43.2))), (26, .d (.sl none (rowsD (r44.1.getD [])))), (30, iV x51), (213, .d (.agg (colD r43.1))), (219, iV (((r44.1.getD []).getD x51.toNat []).getD (0 : Int).toNat 0)), (224, .d (.pv (intsD ((r44.1.getD []).getD x51.toNat [])) (1 : Int).toNat)), (230, .d (.pv (intsD ((r44.1.getD []).getD x51.toNat [])) (2 : Int).toNat))] [.box (colD r43.1)] ?_ (fun hS18 => ?_)
     ·refine AU_all [12, 18, 23] (by kernel_rfl) rfl (allc ?_ (allc ?_ (allc ?_ (fun _ h => nomatch h))))
      ·refine US_of 12 rfl rfl ?_
       refine AOps_q 225 _ rfl rfl rfl (QOp_load_pv _ _ _ _ _ rfl Try.isAgg2 rfl (intsD_get _ _ 0 (by omega))) ?_
       refine AOps_nil ?_
       exact AU_to (by kernel_rfl) hS7 (Weak_keep 0 hm [24, 25, 26, 30, 213, 219, 225, 230] [0] _ _ rfl rfl rfl)
      ·refine US_of 18 rfl rfl ?_
       refine AOps_q 231 _ rfl rfl rfl (QOp_load_pv _ _ _ _ _ rfl Try.isAgg2 rfl (intsD_get _ _ 0 (by omega))) ?_
       refine AOps_nil ?_
       exact AU_to (by kernel_rfl) hS8 (Weak_keep 0 hm [24, 25, 26, 30, 213, 219, 224, 231] [0] _ _ rfl rfl rfl)
      refine US_of 23 rfl rfl ?_
      refine AOps_alloc 31 _ _ (colD Col.zero) (zero_of Try.typeInfo29 rfl) (by rfl) rfl rfl rfl rfl ?_
      refine AOps_nil ?_
      exact AU_to (by kernel_rfl) hS9 (Weak_keep 0 hm [24, 25, 26, 30, 31, 213, 219, 224, 230] [0, 1] _ _ rfl rfl rfl)
     refine AU_cut 9 #[true, true, true, true, true, true, true, true, true, true, false, false, false, true, true, true, true, true, true, false, false, false, false, true, false, false] [(24, .ptr 0 0), (25, .d (.sl none (intsD r43.2))), (26, .d (.sl none (rowsD (r44.1.getD [])))), (30, iV x51), (31, .ptr 1 0), (213, .d (.agg (colD r43.1))), (219, iV (((r44.1.getD []).getD x51.toNat []).getD (0 : Int).toNat 0)), (222, .d (.pv (rowsD (r44.1.getD [])) x51.toNat)), (231, iV (((r44.1.getD []).getD x51.toNat []).getD (2 : Int).toNat 0))] [.box (colD r43.1), .box (colD Col.zero)] ?_ (fun hS19 => ?_)
     ·refine AU_one 10 (by kernel_rfl) rfl rfl ?_
      refine AOps_q 223 _ rfl rfl rfl (QOp_load_pv _ _ _ _ _ rfl Try.isAgg24 rfl (rowsD_get _ _ [] (by omega))) ?_
      refine AOps_nil ?_
      refine AU_u 11 224 _ rfl (by kernel_rfl) rfl rfl rfl (UOp_indexAddr_sl _ _ _ _ _ _ _ _ rfl Try.underlying24 Try.sizeOf2 hc62.1 (by rw [intsD_length]; exact hc62.2) rfl rfl) ?_
      exact AU_to (by kernel_rfl) hS4 (Weak_keep 0 hm [24, 25, 26, 30, 31, 213, 219, 224, 231] [0, 1] _ _ rfl rfl rfl)
     refine AU_cut 9 #[true, true, true, true, true, true, false, true, true, true, true, true, true, true, true, true, true, true, false, false, false, false, false, false, false, false] [(24, .ptr 0 0), (25, .d (.sl none (intsD r43.2))), (26, .d (.sl none (rowsD (r44.1.getD [])))), (30, iV x51), (213, .d (.agg (colD r43.1))), (218, .d (.pv (intsD ((r44.1.getD []).getD x51.toNat [])) (0 : Int).toNat)), (225, iV (((r44.1.getD []).getD x51.toNat []).getD (1 : Int).toNat 0)), (230, .d (.pv (intsD ((r44.1.getD []).getD x51.toNat [])) (2 : Int).toNat))] [.box (colD r43.1)] ?_ (fun hS20 => ?_)
     ·refine AU_all [6, 18, 23] (by kernel_rfl) rfl (allc ?_ (allc ?_ (allc ?_ (fun _ h => nomatch h))))
      ·refine US_of 6 rfl rfl ?_
       refine AOps_q 219 _ rfl rfl rfl (QOp_load_pv _ _ _ _ _ rfl Try.isAgg2 rfl (intsD_get _ _ 0 (by omega))) ?_
       refine AOps_nil ?_
       exact AU_to (by kernel_rfl) hS7 (Weak_keep 0 hm [24, 25, 26, 30, 213, 219, 225, 230] [0] _ _ rfl rfl rfl)
      ·refine US_of 18 rfl rfl ?_
       refine AOps_q 231 _ rfl rfl rfl (QOp_load_pv _ _ _ _ _ rfl Try.isAgg2 rfl (intsD_get _ _ 0 (by omega))) ?_
       refine AOps_nil ?_
       exact AU_to (by kernel_rfl) hS10 (Weak_keep 0 hm [24, 25, 26, 30, 213, 218, 225, 231] [0] _ _ rfl rfl rfl)
      refine US_of 23 rfl rfl ?_
      refine AOps_alloc 31 _ _ (colD Col.zero) (zero_of Try.typeInfo29 rfl) (by rfl) rfl rfl rfl rfl ?_
      refine AOps_nil ?_
      exact AU_to (by kernel_rfl) hS11 (Weak_keep 0 hm [24, 25, 26, 30, 31, 213, 218, 225, 230] [0, 1] _ _ rfl rfl rfl)
     refine AU_cut 9 #[true, true, true, true, true, true, false, true, true, true, true, true, false, true, true, true, true, true, true, false, false, false, false, false, false, false] [(24, .ptr 0 0), (25, .d (.sl none (intsD r43.2))), (26, .d (.sl none (rowsD (r44.1.getD [])))), (30, iV x51), (213, .d (.agg (colD r43.1))), (218, .d (.pv (intsD ((r44.1.getD []).getD x51.toNat [])) (0 : Int).toNat)), (224, .d (.pv (intsD ((r44.1.getD []).getD x51.toNat [])) (1 : Int).toNat)), (231, iV (((r44.1.getD []).getD x51.toNat []).getD (2 : Int).toNat 0))] [.box (colD r43.1)] ?_ (fun hS21 => ?_)
     ·refine AU_all [6, 12, 23] (by kernel_rfl) rfl (allc ?_ (allc ?_ (allc ?_ (fun _ h => nomatch h))))
      ·refine US_of 6 rfl rfl ?_
       refine AOps_q 219 _ rfl rfl rfl (QOp_load_pv _ _ _ _ _ rfl Try.isAgg2 rfl (intsD_get _ _ 0 (by omega))) ?_
       refine AOps_nil ?_
       exact AU_to (by kernel_rfl) hS8 (Weak_keep 0 hm [24, 25, 26, 30, 213, 219, 224, 231] [0] _ _ rfl rfl rfl)
      ·refine US_of 12 rfl rfl ?_
       refine AOps_q 225 _ rfl rfl rfl (QOp_load_pv _ _ _ _ _ rfl Try.isAgg2 rfl (intsD_get _ _ 0 (by omega))) ?_
       refine AOps_nil ?_
       exact AU_to (by kernel_rfl) hS10 (Weak_keep 0 hm [24, 25, 26, 30, 213, 218, 225, 231] [0] _ _ rfl rfl rfl)
      refine US_of 23 rfl rfl ?_
      refine AOps_alloc 31 _ _ (colD Col.zero) (zero_of Try.typeInfo29 rfl) (by rfl) rfl rfl rfl rfl ?_
      refine AOps_nil ?_
      exact AU_to (by kernel_rfl) hS12 (Weak_keep 0 hm [24, 25, 26, 30, 31, 213, 218, 224, 231] [0, 1] _ _ rfl rfl rfl)
     refine AU_cut 9 #[true, true, true, true, true, true, false, true, true, true, true, true, false, true, true, true, true, true, false, false, false, false, false, true, false, false] [(24, .ptr 0 0), (25, .d (.sl none (intsD r43.2))), (26, .d (.sl none (rowsD (r44.1.getD [])))), (30, iV x51), (31, .ptr 1 0), (213, .d (.agg (colD r43.1))), (218, .d (.pv (intsD ((r44.1.getD []).getD x51.toNat [])) (0 : Int).toNat)), (224, .d (.pv (intsD ((r44.1.getD []).getD x51.toNat [])) (1 : Int).toNat)), (230, .d (.pv (intsD ((r44.1.getD []).getD x51.toNat [])) (2 : Int).toNat))] [.box (colD r43.1), .box (colD Col.zero)] ?_ (fun hS22 => ?_)
     ·refine AU_all [6, 12, 18] (by kernel_rfl) rfl (allc ?_ (allc ?_ (allc ?_ (fun _ h => nomatch h))))
      ·refine US_of 6 rfl rfl ?_
       refine AOps_q 219 _ rfl rfl rfl (QOp_load_pv _ _ _ _ _ rfl Try.isAgg2 rfl (intsD_get _ _ 0 (by omega))) ?_
       refine AOps_nil ?_
       exact AU_to (by kernel_rfl) hS9 (Weak_keep 0 hm [24, 25, 26, 30, 31, 213, 219, 224, 230] [0, 1] _ _ rfl rfl rfl)
      ·refine US_of 12 rfl rfl ?_
       refine AOps_q 225 _ rfl rfl rfl (QOp_load_pv _ _ _ _ _ rfl Try.isAgg2 rfl (intsD_get _ _ 0 (by omega))) ?_
       refine AOps_nil ?_
       exact AU_to (by kernel_rfl) hS11 (Weak_keep 0 hm [24, 25, 26, 30, 31, 213, 218, 225, 230] [0, 1] _ _ rfl rfl rfl)
      refine US_of 18 rfl rfl ?_
      refine AOps_q 231 _ rfl rfl rfl (QOp_load_pv _ _ _ _ _ rfl Try.isAgg2 rfl (intsD_get _ _ 0 (by omega))) ?_
      refine AOps_nil ?_
      exact AU_to (by kernel_rfl) hS12 (Weak_keep 0 hm [24, 25, 26, 30, 31, 213, 218, 224, 231] [0, 1] _ _ rfl rfl rfl)
     refine AU_cut 9 #[true, true, true, true, false, false, false, true, true, true, true, true, true, true, true, true, true, true, true, false, false, false, false, true, false, false] [(24, .ptr 0 0), (25, .d (.sl none (intsD r43.2))), (26, .d (.sl none (rowsD (r44.1.getD [])))), (30, iV x51), (31, .ptr 1 0), (213, .d (.agg (colD r43.1))), (216, .d (.pv (rowsD (r44.1.getD [])) x51.toNat)), (225, iV (((r44.1.getD []).getD x51.toNat []).getD (1 : Int).toNat 0)), (231, iV (((r44.1.getD []).getD x51.toNat []).getD (2 : Int).toNat 0))] [.box (colD r43.1), .box (colD Col.zero)] ?_ (fun hS23 => ?_)
     ·refine AU_one 4 (by kernel_rfl) rfl rfl ?_
      refine AOps_q 217 _ rfl rfl rfl (QOp_load_pv _ _ _ _ _ rfl Try.isAgg24 rfl (rowsD_get _ _ [] (by omega))) ?_
      refine AOps_nil ?_
      refine AU_u 5 218 _ rfl (by kernel_rfl) rfl rfl rfl (UOp_indexAddr_sl _ _ _ _ _ _ _ _ rfl Try.underlying24 Try.sizeOf2 hc61.1 (by rw [intsD_length]; exact hc61.2) rfl rfl) ?_
      exact AU_to (by kernel_rfl) hS5 (Weak_keep 0 hm [24, 25, 26, 30, 31, 213, 218, 225, 231] [0, 1] _ _ rfl rfl rfl)
     refine AU_cut 9 #[false, true, true, true, true, true, true, true, true, true, true, true, true, true, true, true, true, true, false, false, false, false, false, false, false, false] [(24, .ptr 0 0), (25, .d (.sl none (intsD r43.2))), (26, .d (.sl none (rowsD (r44.1.getD [])))), (30, iV x51), (219, iV (((r44.1.getD []).getD x51.toNat []).getD (0 : Int).toNat 0)), (225, iV (((r44.1.getD []).getD x51.toNat []).getD (1 : Int).toNat 0)), (230, .d (.pv (intsD ((r44.1.getD []).getD x51.toNat [])) (2 : Int).toNat))] [.box (colD r43.1)] ?_ (fun hS24 => ?_)
     ·refine AU_all [0, 18, 23] (by kernel_rfl) rfl (allc ?_ (allc ?_ (allc ?_ (fun _ h => nomatch h))))
      ·refine US_of 0 rfl rfl ?_
       refine AOps_q 213 _ rfl rfl rfl (QOp_loadN_ptr _ _ _ _ _ _ _ rfl Try.isAgg29 Try.sizeOf29 rfl rfl (colD_all _) (colD_length _)) ?_
       refine AOps_nil ?_
       exact AU_to (by kernel_rfl) hS7 (Weak_keep 0 hm [24, 25, 26, 30, 213, 219, 225, 230] [0] _ _ rfl rfl rfl)
      ·refine US_of 18 rfl rfl ?_
       refine AOps_q 231 _ rfl rfl rfl (QOp_load_pv _ _ _ _ _ rfl Try.isAgg2 rfl (intsD_get _ _ 0 (by omega))) ?_
       refine AOps_nil ?_
       exact AU_to (by kernel_rfl) hS13 (Weak_keep 0 hm [24, 25, 26, 30, 219, 225, 231] [0] _ _ rfl rfl rfl)
      refine US_of 23 rfl rfl ?_
      refine AOps_alloc 31 _ _ (colD Col.zero) (zero_of Try.typeInfo29 rfl) (by rfl) rfl rfl rfl rfl ?_
      refine AOps_nil ?_
      exact AU_to (by kernel_rfl) hS14 (Weak_keep 0 hm [24, 25, 26, 30, 31, 219, 225, 230] [0, 1] _ _ rfl rfl rfl)
     refine AU_cut 9 #[false, true, true, true, true, true, true, true, true, true, true, true, false, true, true, true, true, true, true, false, false, false, false, false, false, false] [(24, .ptr 0 0), (25, .d (.sl none (intsD r43.2))), (26, .d (.sl none (rowsD (r44.1.getD [])))), (30, iV x51), (219, iV (((r44.1.getD []).getD x51.toNat []).getD (0 : Int).toNat 0)), (224, .d (.pv (intsD ((r44.1.getD []).getD x51.toNat [])) (1 : Int).toNat)), (231, iV (((r44.1.getD []).getD x51.toNat []).getD (2 : Int).toNat 0))] [.box (colD r43.1)] ?_ (fun hS25 => ?_)
     ·refine AU_all [0, 12, 23] (by kernel_rfl) rfl (allc ?_ (allc ?_ (allc ?_ (fun _ h => nomatch h))))
      ·refine US_of 0 rfl rfl ?_
       refine AOps_q 213 _ rfl rfl rfl (QOp_loadN_ptr _ _ _ _ _ _ _ rfl Try.isAgg29 Try.sizeOf29 rfl rfl (colD_all _) (colD_length _)) ?_
       refine AOps_nil ?_
       exact AU_to (by kernel_rfl) hS8 (Weak_keep 0 hm [24, 25, 26, 30, 213, 219, 224, 231] [0] _ _ rfl rfl rfl)
      ·refine US_of 12 rfl rfl ?_
       refine AOps_q 225 _ rfl rfl rfl (QOp_load_pv _ _ _ _ _ rfl Try.isAgg2 rfl (intsD_get _ _ 0 (by omega))) ?_
       refine AOps_nil ?_
       exact AU_to (by kernel_rfl) hS13 (Weak_keep 0 hm [24, 25, 26, 30, 219, 225, 231] [0] _ _ rfl rfl rfl)
      refine US_of 23 rfl rfl ?_
      refine AOps_alloc 31 _ _ (colD Col.zero) (zero_of Try.typeInfo29 rfl) (by rfl) rfl rfl rfl rfl ?_
      refine AOps_nil ?_
      exact AU_to (by kernel_rfl) hS15 (Weak_keep 0 hm [24, 25, 26, 30, 31, 219, 224, 231] [0, 1] _ _ rfl rfl rfl)
     refine AU_cut 9 #[false, true, true, true, true, true, true, true, true, true, true, true, false, true, true, true, true, true, false, false, false, false, false, true, false, false] [(24, .ptr 0 0), (25, .d (.sl none (intsD r43.2))), (26, .d (.sl none (rowsD (r44.1.getD [])))), (30, iV x51), (31, .ptr 1 0), (219, iV (((r44.1.getD []).getD x51.toNat []).getD (0 : Int).toNat 0)), (224, .d (.pv (intsD ((r44.1.getD []).getD x51.toNat [])) (1 : Int).toNat)), (230, .d (.pv (intsD ((r44.1.getD []).getD x51.toNat [])) (2 : Int).toNat))] [.box (colD r43.1), .box (colD Col.zero)] ?_ (fun hS26 => ?_)
     ·refine AU_all [0, 12, 18] (by kernel_rfl) rfl (allc ?_ (allc ?_ (allc ?_ (fun _ h => nomatch h))))
      ·refine US_of 0 rfl rfl ?_
       refine AOps_q 213 _ rfl rfl rfl (QOp_loadN_ptr _ _ _ _ _ _ _ rfl Try.isAgg29 Try.sizeOf29 rfl rfl (colD_all _) (colD_length _)) ?_
       refine AOps_nil ?_
       exact AU_to (by kernel_rfl) hS9 (Weak_keep 0 hm [24, 25, 26, 30, 31, 213, 219, 224, 230] [0, 1] _ _ rfl rfl rfl)
      ·refine US_of 12 rfl rfl ?_
       refine AOps_q 225 _ rfl rfl rfl (QOp_load_pv _ _ _ _ _ rfl Try.isAgg2 rfl (intsD_get _ _ 0 (by omega))) ?_
       refine AOps_nil ?_
       exact AU_to (by kernel_rfl) hS14 (Weak_keep 0 hm [24, 25, 26, 30, 31, 219, 225, 230] [0, 1] _ _ rfl rfl rfl)
      refine US_of 18 rfl rfl ?_
      refine AOps_q 231 _ rfl rfl rfl (QOp_load_pv _ _ _ _ _ rfl Try.isAgg2 rfl (intsD_get _ _ 0 (by omega))) ?_
      refine AOps_nil ?_
      exact AU_to (by kernel_rfl) hS15 (Weak_keep 0 hm [24, 25, 26, 30, 31, 219, 224, 231] [0, 1] _ _ rfl rfl rfl)
     refine AU_cut 9 #[false, true, true, true, true, true, false, true, true, true, true, true, true, true, true, true, true, true, true, false, false, false, false, false, false, false] [(24, .ptr 0 0), (25, .d (.sl none (intsD r43.2))), (26, .d (.sl none (rowsD (r44.1.getD [])))), (30, iV x51), (218, .d (.pv (intsD ((r44.1.getD []).getD x51.toNat [])) (0 : Int).toNat)), (225, iV (((r44.1.getD []).getD x51.toNat []).getD (1 : Int).toNat 0)), (231, iV (((r44.1.getD []).getD x51.toNat []).getD (2 : Int).toNat 0))] [.box (colD r43.1)] ?_ (fun hS27 => ?_)
     ·refine AU_all [0, 6, 23] (by kernel_rfl) rfl (allc ?_ (allc ?_ (allc ?_ (fun _ h => nomatch h))))
      ·refine US_of 0 rfl rfl ?_
       refine AOps_q 213 _ rfl rfl rfl (QOp_loadN_ptr _ _ _ _ _ _ _ rfl Try.isAgg29 Try.sizeOf29 rfl rfl (colD_all _) (colD_length _)) ?_
       refine AOps_nil ?_
       exact AU_to (by kernel_rfl) hS10 (Weak_keep 0 hm [24, 25, 26, 30, 213, 218, 225, 231] [0] _ _ rfl rfl rfl)
      ·refine US_of 6 rfl rfl ?_
       refine AOps_q 219 _ rfl rfl rfl (QOp_load_pv _ _ _ _ _ rfl Try.isAgg2 rfl (intsD_get _ _ 0 (by omega))) ?_
       refine AOps_nil ?_
       exact AU_to (by kernel_rfl) hS13 (Weak_keep 0 hm [24, 25, 26, 30, 219, 225, 231] [0] _ _ rfl rfl rfl)
      refine US_of 23 rfl rfl ?_
      refine AOps_alloc 31 _ _ (colD Col.zero) (zero_of Try.typeInfo29 rfl) (by rfl) rfl rfl rfl rfl ?_
      refine AOps_nil ?_
      exact AU_to (by kernel_rfl) hS16 (Weak_keep 0 hm [24, 25, 26, 30, 31, 218, 225, 231] [0, 1] _ _ rfl rfl rfl)
     refine AU_cut 9 #[false, true, true, true, true, true, false, true, true, true, true, true, true, true, true, true, true, true, false, false, false, false, false, true, false, false] [(24, .ptr 0 0), (25, .d (.sl none (intsD r43.2))), (26, .d (.sl none (rowsD (r44.1.getD [])))), (30, iV x51), (31, .ptr 1 0), (218, .d (.pv (intsD ((r44.1.getD []).getD x51.toNat [])) (0 : Int).toNat)), (225, iV (((r44.1.getD []).getD x51.toNat []).getD (1 : Int).toNat 0)), (230, .d (.pv (intsD ((r44.1.getD []).getD x51.toNat [])) (2 : Int).toNat))] [.box (colD r43.1), .box (colD Col.zero)] ?_ (fun hS28 => ?_)
     ·refine AU_all [0, 6, 18] (by kernel_rfl) rfl (allc ?_ (allc ?_ (allc ?_ (fun _ h => nomatch h))))
      ·refine US_of 0 rfl rfl ?_
       refine AOps_q 213 _ rfl rfl rfl (QOp_loadN_ptr _ _ _ _ _ _ _ rfl Try.isAgg29 Try.sizeOf29 rfl rfl (colD_all _) (colD_length _)) ?_
       refine AOps_nil ?_
       exact AU_to (by kernel_rfl) hS11 (Weak_keep 0 hm [24, 25, 26, 30, 31, 213, 218, 225, 230] [0, 1] _ _ rfl rfl rfl)
      ·refine US_of 6 rfl rfl ?_
       refine AOps_q 219 _ rfl rfl rfl (QOp_load_pv _ _ _ _ _ rfl Try.isAgg2 rfl (intsD_get _ _ 0 (by omega))) ?_
       refine AOps_nil ?_
       exact AU_to (by kernel_rfl) hS14 (Weak_keep 0 hm [24, 25, 26, 30, 31, 219, 225, 230] [0, 1] _ _ rfl rfl rfl)
      refine US_of 18 rfl rfl ?_
      refine AOps_q 231 _ rfl rfl rfl (QOp_load_pv _ _ _ _ _ rfl Try.isAgg2 rfl (intsD_get _ _ 0 (by omega))) ?_
      refine AOps_nil ?_
      exact AU_to (by kernel_rfl) hS16 (Weak_keep 0 hm [24, 25, 26, 30, 31, 218, 225, 231] [0, 1] _ _ rfl rfl rfl)
     refine AU_cut 9 #[false, true, true, true, true, true, false, true, true, true, true, true, false, true, true, true, true, true, true, false, false, false, false, true, false, false] [(24, .ptr 0 0), (25, .d (.sl none (intsD r43.2))), (26, .d (.sl none (rowsD (r44.1.getD [])))), (30, iV x51), (31, .ptr 1 0), (218, .d (.pv (intsD ((r44.1.getD []).getD x51.toNat [])) (0 : Int).toNat)), (224, .d (.pv (intsD ((r44.1.getD []).getD x51.toNat [])) (1 : Int).toNat)), (231, iV (((r44.1.getD []).getD x51.toNat []).getD (2 : Int).toNat 0))] [.box (colD r43.1), .box (colD Col.zero)] ?_ (fun hS29 => ?_)
     ·refine AU_all [0, 6, 12] (by kernel_rfl) rfl (allc ?_ (allc ?_ (allc ?_ (fun _ h => nomatch h))))
      ·refine US_of 0 rfl rfl ?_
       refine AOps_q 213 _ rfl rfl rfl (QOp_loadN_ptr _ _ _ _ _ _ _ rfl Try.isAgg29 Try.sizeOf29 rfl rfl (colD_all _) (colD_length _)) ?_
       refine AOps_nil ?_
       exact AU_to (by kernel_rfl) hS12 (Weak_keep 0 hm [24, 25, 26, 30, 31, 213, 218, 224, 231] [0, 1] _ _ rfl rfl rfl)
      ·refine US_of 6 rfl rfl ?_
       refine AOps_q 219 _ rfl rfl rfl (QOp_load_pv _ _ _ _ _ rfl Try.isAgg2 rfl (intsD_get _ _ 0 (by omega))) ?_
       refine AOps_nil ?_
       exact AU_to (by kernel_rfl) hS15 (Weak_keep 0 hm [24, 25, 26, 30, 31, 219, 224, 231] [0, 1] _ _ rfl rfl rfl)
      refine US_of 12 rfl rfl ?_
      refine AOps_q 225 _ rfl rfl rfl (QOp_load_pv _ _ _ _ _ rfl Try.isAgg2 rfl (intsD_get _ _ 0 (by omega))) ?_
      refine AOps_nil ?_
      exact AU_to (by kernel_rfl) hS16 (Weak_keep 0 hm [24, 25, 26, 30, 31, 218, 225, 231] [0, 1] _ _ rfl rfl rfl)
     refine AU_cut 10 #[true, true, true, true, true, true, true, true, true, true, true, true, true, true, true, true, false, false, false, false, false, false, false, false, false, false] [(24, .ptr 0 0), (25, .d (.sl none (intsD r43.2))), (26, .d (.sl none (rowsD (r44.1.getD [])))), (30, iV x51), (213, .d (.agg (colD r43.1))), (219, iV (((r44.1.getD []).getD x51.toNat []).getD (0 : Int).toNat 0)), (225, iV (((r44.1.getD []).getD x51.toNat []).getD (1 : Int).toNat 0)), (228, .d (.pv (rowsD (r44.1.getD [])) x51.toNat))] [.box (colD r43.1)] ?_ (fun hS30 => ?_)
     ·refine AU_all [16, 23] (by kernel_rfl) rfl (allc ?_ (allc ?_ (fun _ h => nomatch h)))
      ·refine US_of 16 rfl rfl ?_
       refine AOps_q 229 _ rfl rfl rfl (QOp_load_pv _ _ _ _ _ rfl Try.isAgg24 rfl (rowsD_get _ _ [] (by omega))) ?_
       refine AOps_nil ?_
       refine AU_u 17 230 _ rfl (by kernel_rfl) rfl rfl rfl (UOp_indexAddr_sl _ _ _ _ _ _ _ _ rfl Try.underlying24 Try.sizeOf2 hc63.1 (by rw [intsD_length]; exact hc63.2) rfl rfl) ?_
       exact AU_to (by kernel_rfl) hS7 (Weak_keep 0 hm [24, 25, 26, 30, 213, 219, 225, 230] [0] _ _ rfl rfl rfl)
      refine US_of 23 rfl rfl ?_
      refine AOps_alloc 31 _ _ (colD Col.zero) (zero_of Try.typeInfo29 rfl) (by rfl) rfl rfl rfl rfl ?_
      refine AOps_nil ?_
      exact AU_to (by kernel_rfl) hS17 (Weak_keep 0 hm [24, 25, 26, 30, 31, 213, 219, 225, 228] [0, 1] _ _ rfl rfl rfl)
     refine AU_cut 10 #[true, true, true, true, true, true, true, true, true, true, true, true, false, true, true, true, false, false, false, false, false, false, false, true, false, false] [(24, .ptr 0 0), (25, .d (.sl none (intsD r43.2))), (26, .d (.sl none (rowsD (r44.1.getD [])))), (30, iV x51), (31, .ptr 1 0), (213, .d (.agg (colD r43.1))), (219, iV (((r44.1.getD []).getD x51.toNat []).getD (0 : Int).toNat 0)), (224, .d (.pv (intsD ((r44.1.getD []).getD x51.toNat [])) (1 : Int).toNat)), (228, .d (.pv (rowsD (r44.1.getD [])) x51.toNat))] [.box (colD r43.1), .box (colD Col.zero)] ?_ (fun hS31 => ?_)
     ·refine AU_all [12, 16] (by kernel_rfl) rfl (allc ?_ (allc ?_ (fun _ h => nomatch h)))
      ·refine US_of 12 rfl rfl ?_
       refine AOps_q 225 _ rfl rfl rfl (QOp_load_pv _ _ _ _ _ rfl Try.isAgg2 rfl (intsD_get _ _ 0 (by omega))) ?_
       refine AOps_nil ?_
       exact AU_to (by kernel_rfl) hS17 (Weak_keep 0 hm [24, 25, 26, 30, 31, 213, 219, 225, 228] [0, 1] _ _ rfl rfl rfl)
      refine US_of 16 rfl rfl ?_
      refine AOps_q 229 _ rfl rfl rfl (QOp_load_pv _ _ _ _ _ rfl Try.isAgg24 rfl (rowsD_get _ _ [] (by omega))) ?_
      refine AOps_nil ?_
      refine AU_u 17 230 _ rfl (by kernel_rfl) rfl rfl rfl (UOp_indexAddr_sl _ _ _ _ _ _ _ _ rfl Try.underlying24 Try.sizeOf2 hc63.1 (by rw [intsD_length]; exact hc63.2) rfl rfl) ?_
      exact AU_to (by kernel_rfl) hS9 (Weak_keep 0 hm [24, 25, 26, 30, 31, 213, 219, 224, 230] [0, 1] _ _ rfl rfl rfl)
     refine AU_cut 10 #[true, true, true, true, true, true, true, true, true, true, false, false, false, true, true, true, true, true, true, false, false, false, false, false, false, false] [(24, .ptr 0 0), (25, .d (.sl none (intsD r43.2))), (26, .d (.sl none (rowsD (r44.1.getD [])))), (30, iV x51), (213, .d (.agg (colD r43.1))), (219, iV (((r44.1.getD []).getD x51.toNat []).getD (0 : Int).toNat 0)), (222, .d (.pv (rowsD (r44.1.getD [])) x51.toNat)), (231, iV (((r44.1.getD []).getD x51.toNat []).getD (2 : Int).toNat 0))] [.box (colD r43.1)] ?_ (fun hS32 => ?_)
     ·refine AU_all [10, 23] (by kernel_rfl) rfl (allc ?_ (allc ?_ (fun _ h => nomatch h)))
      ·refine US_of 10 rfl rfl ?_
       refine AOps_q 223 _ rfl rfl rfl (QOp_load_pv _ _ _ _ _ rfl Try.isAgg24 rfl (rowsD_get _ _ [] (by omega))) ?_
       refine AOps_nil ?_
       refine AU_u 11 224 _ rfl (by kernel_rfl) rfl rfl rfl (UOp_indexAddr_sl _ _ _ _ _ _ _ _ rfl Try.underlying24 Try.sizeOf2 hc62.1 (by rw [intsD_length]; exact hc62.2) rfl rfl) ?_
       exact AU_to (by kernel_rfl) hS8 (Weak_keep 0 hm [24, 25, 26, 30, 213, 219, 224, 231] [0] _ _ rfl rfl rfl)
      refine US_of 23 rfl rfl ?_
      refine AOps_alloc 31 _ _ (colD Col.zero) (zero_of Try.typeInfo29 rfl) (by rfl) rfl rfl rfl rfl ?_
      refine AOps_nil ?_
      exact AU_to (by kernel_rfl) hS19 (Weak_keep 0 hm [24, 25, 26, 30, 31, 213, 219, 222, 231] [0, 1] _ _ rfl rfl rfl)
     refine AU_cut 10 #[true, true, true, true, true, true, true, true, true, true, false, false, false, true, true, true, true, true, false, false, false, false, false, true, false, false] [(24, .ptr 0 0), (25, .d (.sl none (intsD r43.2))), (26, .d (.sl none (rowsD (r44.1.getD [])))), (30, iV x51), (31, .ptr 1 0), (213, .d (.agg (colD r43.1))), (219, iV (((r44.1.getD []).getD x51.toNat []).getD (0 : Int).toNat 0)), (222, .d (.pv (rowsD (r44.1.getD [])) x51.toNat)), (230, .d (.pv (intsD ((r44.1.getD []).getD x51.toNat [])) (2 : Int).toNat))] [.box (colD r43.1), .box (colD Col.zero)] ?_ (fun hS33 => ?_)
     ·refine AU_all [10, 18] (by kernel_rfl) rfl (allc ?_ (allc ?_ (fun _ h => nomatch h)))
      ·refine US_of 10 rfl rfl ?_
       refine AOps_q 223 _ rfl rfl rfl (QOp_load_pv _ _ _ _ _ rfl Try.isAgg24 rfl (rowsD_get _ _ [] (by omega))) ?_
       refine AOps_nil ?_
       refine AU_u 11 224 _ rfl (by kernel_rfl) rfl rfl rfl (UOp_indexAddr_sl _ _ _ _ _ _ _ _ rfl Try.underlying24 Try.sizeOf2 hc62.1 (by rw [intsD_length]; exact hc62.2) rfl rfl) ?_
       exact AU_to (by kernel_rfl) hS9 (Weak_keep 0 hm [24, 25, 26, 30, 31, 213, 219, 224, 230] [0, 1] _ _ rfl rfl rfl)
      refine US_of 18 rfl rfl ?_
      refine AOps_q 231 _ rfl rfl rfl (QOp_load_pv _ _ _ _ _ rfl Try.isAgg2 rfl (intsD_get _ _ 0 (by omega))) ?_
      refine AOps_nil ?_
      exact AU_to (by kernel_rfl) hS19 (Weak_keep 0 hm [24, 25, 26, 30, 31, 213, 219, 222, 231] [0, 1] _ _ rfl rfl rfl)
     refine AU_cut 10 #[true, true, true, true, true, true, false, true, true, true, true, true, true, true, true, true, false, false, false, false, false, false, false, true, false, false] [(24, .ptr 0 0), (25, .d (.sl none (intsD r43.2))), (26, .d (.sl none (rowsD (r44.1.getD [])))), (30, iV x51), (31, .ptr 1 0), (213, .d (.agg (colD r43.1))), (218, .d (.pv (intsD ((r44.1.getD []).getD x51.toNat [])) (0 : Int).toNat)), (225, iV (((r44.1.getD []).getD x51.toNat []).getD (1 : Int).toNat 0)), (228, .d (.pv (rowsD (r44.1.getD [])) x51.toNat))] [.box (colD r43.1), .box (colD Col.zero)] ?_ (fun hS34 => ?_)
     ·refine AU_all [6, 16] (by kernel_rfl) rfl (allc ?_ (allc ?_ (fun _ h => nomatch h)))
      ·refine US_of 6 rfl rfl ?_
       refine AOps_q 219 _ rfl rfl rfl (QOp_load_pv _ _ _ _ _ rfl Try.isAgg2 rfl (intsD_get _ _ 0 (by omega))) ?_
       refine AOps_nil ?_
       exact AU_to (by kernel_rfl) hS17 (Weak_keep 0 hm [24, 25, 26, 30, 31, 213, 219, 225, 228] [0, 1] _ _ rfl rfl rfl)
      refine US_of 16 rfl rfl ?_
      refine AOps_q 229 _ rfl rfl rfl (QOp_load_pv _ _ _ _ _ rfl Try.isAgg24 rfl (rowsD_get _ _ [] (by omega))) ?_
      refine AOps_nil ?_
      refine AU_u 17 230 _ rfl (by kernel_rfl) rfl rfl rfl (UOp_indexAddr_sl _ _ _ _ _ _ _ _ rfl Try.underlying24 Try.sizeOf2 hc63.1 (by rw [intsD_length]; exact hc63.2) rfl rfl) ?_
      exact AU_to (by kernel_rfl) hS11 (Weak_keep 0 hm [24, 25, 26, 30, 31, 213, 218, 225, 230] [0, 1] _ _ rfl rfl rfl)
     refine AU_cut 10 #[true, true, true, true, true, true, false, true, true, true, true, true, false, true, true, true, true, true, false, false, false, false, false, false, false, false] [(24, .ptr 0 0), (25, .d (.sl none (intsD r43.2))), (26, .d (.sl none (rowsD (r44.1.getD [])))), (30, iV x51), (213, .d (.agg (colD r43.1))), (218, .d (.pv (intsD ((r44.1.getD []).getD x51.toNat [])) (0 : Int).toNat)), (224, .d (.pv (intsD ((r44.1.getD []).getD x51.toNat [])) (1 : Int).toNat)), (230, .d (.pv (intsD ((r44.1.getD []).getD x51.toNat [])) (2 : Int).toNat))] [.box (colD r43.1)] ?_ (fun hS35 => ?_)
     ·refine AU_all [6, 12, 18, 23] (by kernel_rfl) rfl (allc ?_ (allc ?_ (allc ?_ (allc ?_ (fun _ h => nomatch h)))))
      ·refine US_of 6 rfl rfl ?_
       refine AOps_q 219 _ rfl rfl rfl (QOp_load_pv _ _ _ _ _ rfl Try.isAgg2 rfl (intsD_get _ _ 0 (by omega))) ?_
       refine AOps_nil ?_
       exact AU_to (by kernel_rfl) hS18 (Weak_keep 0 hm [24, 25, 26, 30, 213, 219, 224, 230] [0] _ _ rfl rfl rfl)
      ·refine US_of 12 rfl rfl ?_
       refine AOps_q 225 _ rfl rfl rfl (QOp_load_pv _ _ _ _ _ rfl Try.isAgg2 rfl (intsD_get _ _ 0 (by omega))) ?_
       refine AOps_nil ?_
       exact AU_to (by kernel_rfl) hS20 (Weak_keep 0 hm [24, 25, 26, 30, 213, 218, 225, 230] [0] _ _ rfl rfl rfl)
      ·refine US_of 18 rfl rfl ?_
       refine AOps_q 231 _ rfl rfl rfl (QOp_load_pv _ _ _ _ _ rfl Try.isAgg2 rfl (intsD_get _ _ 0 (by omega))) ?_
       refine AOps_nil ?_
       exact AU_to (by kernel_rfl) hS21 (Weak_keep 0 hm [24, 25, 26, 30, 213, 218, 224, 231] [0] _ _ rfl rfl rfl)
      refine US_of 23 rfl rfl ?_
      refine AOps_alloc 31 _ _ (colD Col.zero) (zero_of Try.typeInfo29 rfl) (by rfl) rfl rfl rfl rfl ?_
      refine AOps_nil ?_
      exact AU_to (by kernel_rfl) hS22 (Weak_keep 0 hm [24, 25, 26, 30, 31, 213, 218, 224, 230] [0, 1] _ _ rfl rfl rfl)
     refine AU_cut 10 #[true, true, true, true, true, true, false, true, true, true, false, false, false, true, true, true, true, true, true, false, false, false, false, true, false, false] [(24, .ptr 0 0), (25, .d (.sl none (intsD r43.2))), (26, .d (.sl none (rowsD (r44.1.getD [])))), (30, iV x51), (31, .ptr 1 0), (213, .d (.agg (colD r43.1))), (218, .d (.pv (intsD ((r44.1.getD []).getD x51.toNat [])) (0 : Int).toNat)), (222, .d (.pv (rowsD (r44.1.getD [])) x51.toNat)), (231, iV (((r44.1.getD []).getD x51.toNat []).getD (2 : Int).toNat 0))] [.box (colD r43.1), .box (colD Col.zero)] ?_ (fun hS36 => ?_)
     ·refine AU_all [6, 10] (by kernel_rfl) rfl (allc ?_ (allc ?_ (fun _ h => nomatch h)))
      ·refine US_of 6 rfl rfl ?_
       refine AOps_q 219 _ rfl rfl rfl (QOp_load_pv _ _ _ _ _ rfl Try.isAgg2 rfl (intsD_get _ _ 0 (by omega))) ?_
       refine AOps_nil ?_
       exact AU_to (by kernel_rfl) hS19 (Weak_keep 0 hm [24, 25, 26, 30, 31, 213, 219, 222, 231] [0, 1] _ _ rfl rfl rfl)
      refine US_of 10 rfl rfl ?_
      refine AOps_q 223 _ rfl rfl rfl (QOp_load_pv _ _ _ _ _ rfl Try.isAgg24 rfl (rowsD_get _ _ [] (by omega))) ?_
      refine AOps_nil ?_
      refine AU_u 11 224 _ rfl (by kernel_rfl) rfl rfl rfl (UOp_indexAddr_sl _ _ _ _ _ _ _ _ rfl Try.underlying24 Try.sizeOf2 hc62.1 (by rw [intsD_length]; exact hc62.2) rfl rfl) ?_
      exact AU_to (by kernel_rfl) hS12 (Weak_keep 0 hm [24, 25, 26, 30, 31, 213, 218, 224, 231] [0, 1] _ _ rfl rfl rfl)
     refine AU_cut 10 #[true, true, true, true, false, false, false, true, true, true, true, true, true, true, true, true, true, true, true, false, false, false, false, false, false, false] [(24, .ptr 0 0), (25, .d (.sl none (intsD r43.2))), (26, .d (.sl none (rowsD (r44.1.getD [])))), (30, iV x51), (213, .d (.agg (colD r43.1))), (216, .d (.pv (rowsD (r44.1.getD [])) x51.toNat)), (225, iV (((r44.1.getD []).getD x51.toNat []).getD (1 : Int).toNat 0)), (231, iV (((r44.1.getD []).getD x51.toNat []).getD (2 : Int).toNat 0))] [.box (colD r43.1)] ?_ (fun hS37 => ?_)
     ·refine AU_all [4, 23] (by kernel_rfl) rfl (allc ?_ (allc ?_ (fun _ h => nomatch h)))
      ·refine US_of 4 rfl rfl ?_
       refine AOps_q 217 _ rfl rfl rfl (QOp_load_pv _ _ _ _ _ rfl Try.isAgg24 rfl (rowsD_get _ _ [] (by omega))) ?_
       refine AOps_nil ?_
       refine AU_u 5 218 _ rfl (by kernel_rfl) rfl rfl rfl (UOp_indexAddr_sl _ _ _ _ _ _ _ _ rfl Try.underlying24 Try.sizeOf2 hc61.1 (by rw [intsD_length]; exact hc61.2) rfl rfl) ?_
       exact AU_to (by kernel_rfl) hS10 (Weak_keep 0 hm [24, 25, 26, 30, 213, 218, 225, 231] [0] _ _ rfl rfl rfl)
      refine US_of 23 rfl rfl ?_
      refine AOps_alloc 31 _ _ (colD Col.zero) (zero_of Try.typeInfo29 rfl) (by rfl) rfl rfl rfl rfl ?_
      refine AOps_nil ?_
      exact AU_to (by kernel_rfl) hS23 (Weak_keep 0 hm [24, 25, 26, 30, 31, 213, 216, 225, 231] [0, 1] _ _ rfl rfl rfl)
     refine AU_cut 10 #[true, true, true, true, false, false, false, true, true, true, true, true, true, true, true, true, true, true, false, false, false, false, false, true, false, false] [(24, .ptr 0 0), (25, .d (.sl none (intsD r43.2))), (26, .d (.sl none (rowsD (r44.1.getD [])))), (30, iV x51), (31, .ptr 1 0), (213, .d (.agg (colD r43.1))), (216, .d (.pv (rowsD (r44.1.getD [])) x51.toNat)), (225, iV (((r44.1.getD []).getD x51.toNat []).getD (1 : Int).toNat 0)), (230, .d (.pv (intsD ((r44.1.getD []).getD x51.toNat [])) (2 : Int).toNat))] [.box (colD r43.1), .box (colD Col.zero)] ?_ (fun hS38 => ?_)
     ·refine AU_all [4, 18] (by kernel_rfl) rfl (allc ?_ (allc ?_ (fun _ h => nomatch h)))
      ·refine US_of 4 rfl rfl ?_
       refine AOps_q 217 _ rfl rfl rfl (QOp_load_pv _ _ _ _ _ rfl Try.isAgg24 rfl (rowsD_get _ _ [] (by omega))) ?_
       refine AOps_nil ?_
       refine AU_u 5 218 _ rfl (by kernel_rfl) rfl rfl rfl (UOp_indexAddr_sl _ _ _ _ _ _ _ _ rfl Try.underlying24 Try.sizeOf2 hc61.1 (by rw [intsD_length]; exact hc61.2) rfl rfl) ?_
       exact AU_to (by kernel_rfl) hS11 (Weak_keep 0 hm [24, 25, 26, 30, 31, 213, 218, 225, 230] [0, 1] _ _ rfl rfl rfl)
      refine US_of 18 rfl rfl ?_
      refine AOps_q 231 _ rfl rfl rfl (QOp_load_pv _ _ _ _ _ rfl Try.isAgg2 rfl (intsD_get _ _ 0 (by omega))) ?_
      refine AOps_nil ?_
      exact AU_to (by kernel_rfl) hS23 (Weak_keep 0 hm [24, 25, 26, 30, 31, 213, 216, 225, 231] [0, 1] _ _ rfl rfl rfl)
     refine AU_cut 10 #[true, true, true, true, false, false, false, true, true, true, true, true, false, true, true, true, true, true, true, false, false, false, false, true, false, false] [(24, .ptr 0 0), (25, .d (.sl none (intsD r43.2))), (26, .d (.sl none (rowsD (r44.1.getD [])))), (30, iV x51), (31, .ptr 1 0), (213, .d (.agg (colD r43.1))), (216, .d (.pv (rowsD (r44.1.getD [])) x51.toNat)), (224, .d (.pv (intsD ((r44.1.getD []).getD x51.toNat [])) (1 : Int).toNat)), (231, iV (((r44.1.getD []).getD x51.toNat []).getD (2 : Int).toNat 0))] [.box (colD r43.1), .box (colD Col.zero)] ?_ (fun hS39 => ?_)
     ·refine AU_all [4, 12] (by kernel_rfl) rfl (allc ?_ (allc ?_ (fun _ h => nomatch h)))
      ·refine US_of 4 rfl rfl ?_
       refine AOps_q 217 _ rfl rfl rfl (QOp_load_pv _ _ _ _ _ rfl Try.isAgg24 rfl (rowsD_get _ _ [] (by omega))) ?_
       refine AOps_nil ?_
       refine AU_u 5 218 _ rfl (by kernel_rfl) rfl rfl rfl (UOp_indexAddr_sl _ _ _ _ _ _ _ _ rfl Try.underlying24 Try.sizeOf2 hc61.1 (by rw [intsD_length]; exact hc61.2) rfl rfl) ?_
       exact AU_to (by kernel_rfl) hS12 (Weak_keep 0 hm [24, 25, 26, 30, 31, 213, 218, 224, 231] [0, 1] _ _ rfl rfl rfl)
      refine US_of 12 rfl rfl ?_
      refine AOps_q 225 _ rfl rfl rfl (QOp_load_pv _ _ _ _ _ rfl Try.isAgg2 rfl (intsD_get _ _ 0 (by omega))) ?_
      refine AOps_nil ?_
      exact AU_to (by kernel_rfl) hS23 (Weak_keep 0 hm [24, 25, 26, 30, 31, 213, 216, 225, 231] [0, 1] _ _ rfl rfl rfl)
     refine AU_cut 10 #[false, true, true, true, true, true, true, true, true, true, true, true, true, true, true, true, false, false, false, false, false, false, false, true, false, false] [(24, .ptr 0 0), (25, .d (.sl none (intsD r43.2))), (26, .d (.sl none (rowsD (r44.1.getD [])))), (30, iV x51), (31, .ptr 1 0), (219, iV (((r44.1.getD []).getD x51.toNat []).getD (0 : Int).toNat 0)), (225, iV (((r44.1.getD []).getD x51.toNat []).getD (1 : Int).toNat 0)), (228, .d (.pv (rowsD (r44.1.getD [])) x51.toNat))] [.box (colD r43.1), .box (colD Col.zero)] ?_ (fun hS40 => ?_)
     ·refine AU_all [0, 16] (by kernel_rfl) rfl (allc ?_ (allc ?_ (fun _ h => nomatch h)))
      ·refine US_of 0 rfl rfl ?_
       refine AOps_q 213 _ rfl rfl rfl (QOp_loadN_ptr _ _ _ _ _ _ _ rfl Try.isAgg29 Try.sizeOf29 rfl rfl (colD_all _) (colD_length _)) ?_
       refine AOps_nil ?_
       exact AU_to (by kernel_rfl) hS17 (Weak_keep 0 hm [24, 25, 26, 30, 31, 213, 219, 225, 228] [0, 1] _ _ rfl rfl rfl)
      refine US_of 16 rfl rfl ?_
      refine AOps_q 229 _ rfl rfl rfl (QOp_load_pv _ _ _ _ _ rfl Try.isAgg24 rfl (rowsD_get _ _ [] (by omega))) ?_
      refine AOps_nil ?_
      refine AU_u 17 230 _ rfl (by kernel_rfl) rfl rfl rfl (UOp_indexAddr_sl _ _ _ _ _ _ _ _ rfl Try.underlying24 Try.sizeOf2 hc63.1 (by rw [intsD_length]; exact hc63.2) rfl rfl) ?_
      exact AU_to (by kernel_rfl) hS14 (Weak_keep 0 hm [24, 25, 26, 30, 31, 219, 225, 230] [0, 1] _ _ rfl rfl rfl)
     refine AU_cut 10 #[false, true, true, true, true, true, true, true, true, true, true, true, false, true, true, true, true, true, false, false, false, false, false, false, false, false] [(24, .ptr 0 0), (25, .d (.sl none (intsD r43.2))), (26, .d (.sl none (rowsD (r44.1.getD [])))), (30, iV x51), (219, iV (((r44.1.getD []).getD x51.toNat []).getD (0 : Int).toNat 0)), (224, .d (.pv (intsD ((r44.1.getD []).getD x51.toNat [])) (1 : Int).toNat)), (230, .d (.pv (intsD ((r44.1.getD []).getD x51.toNat [])) (2 : Int).toNat))] [.box (colD r43.1)] ?_ (fun hS41 => ?_)
     ·refine AU_all [0, 12, 18, 23] (by kernel_rfl) rfl (allc ?_ (allc ?_ (allc ?_ (allc ?_ (fun _ h => nomatch h)))))
      ·refine US_of 0 rfl rfl ?_
       refine AOps_q 213 _ rfl rfl rfl (QOp_loadN_ptr _ _ _ _ _ _ _ rfl Try.isAgg29 Try.sizeOf29 rfl rfl (colD_all _) (colD_length _)) ?_
       refine AOps_nil ?_
       exact AU_to (by kernel_rfl) hS18 (Weak_keep 0 hm [24, 25, 26, 30, 213, 219, 224, 230] [0] _ _ rfl rfl rfl)
      ·refine US_of 12 rfl rfl ?_
       refine AOps_q 225 _ rfl rfl rfl (QOp_load_pv _ _ _ _ _ rfl Try.isAgg2 rfl (intsD_get _ _ 0 (by omega))) ?_
       refine AOps_nil ?_
       exact AU_to (by kernel_rfl) hS24 (Weak_keep 0 hm [24, 25, 26, 30, 219, 225, 230] [0] _ _ rfl rfl rfl)
      ·refine US_of 18 rfl rfl ?_
       refine AOps_q 231 _ rfl rfl rfl (QOp_load_pv _ _ _ _ _ rfl Try.isAgg2 rfl (intsD_get _ _ 0 (by omega))) ?_
       refine AOps_nil ?_
       exact AU_to (by kernel_rfl) hS25 (Weak_keep 0 hm [24, 25, 26, 30, 219, 224, 231] [0] _ _ rfl rfl rfl)
      refine US_of 23 rfl rfl ?_
      refine AOps_alloc 31 _ _ (colD Col.zero) (zero_of Try.typeInfo29 rfl) (by rfl) rfl rfl rfl rfl ?_
      refine AOps_nil ?_
      exact AU_to (by kernel_rfl) hS26 (Weak_keep 0 hm [24, 25, 26, 30, 31, 219, 224, 230] [0, 1] _ _ rfl rfl rfl)
     refine AU_cut 10 #[false, true, true, true, true, true, true, true, true, true, false, false, false, true, true, true, true, true, true, false, false, false, false, true, false, false] [(24, .ptr 0 0), (25, .d (.sl none (intsD r43.2))), (26, .d (.sl none (rowsD (r44.1.getD [])))), (30, iV x51), (31, .ptr 1 0), (219, iV (((r44.1.getD []).getD x51.toNat []).getD (0 : Int).toNat 0)), (222, .d (.pv (rowsD (r44.1.getD [])) x51.toNat)), (231, iV (((r44.1.getD []).getD x51.toNat []).getD (2 : Int).toNat 0))] [.box (colD r43.1), .box (colD Col.zero)] ?_ (fun hS42 => ?_)
     ·refine AU_all [0, 10] (by kernel_rfl) rfl (allc ?_ (allc ?_ (fun _ h => nomatch h)))
      ·refine US_of 0 rfl rfl ?_
       refine AOps_q 213 _ rfl rfl rfl (QOp_loadN_ptr _ _ _ _ _ _ _ rfl Try.isAgg29 Try.sizeOf29 rfl rfl (colD_all _) (colD_length _)) ?_
       refine AOps_nil ?_
       exact AU_to (by kernel_rfl) hS19 (Weak_keep 0 hm [24, 25, 26, 30, 31, 213, 219, 222, 231] [0, 1] _ _ rfl rfl rfl)
      refine US_of 10 rfl rfl ?_
      refine AOps_q 223 _ rfl rfl rfl (QOp_load_pv _ _ _ _ _ rfl Try.isAgg24 rfl (rowsD_get _ _ [] (by omega))) ?_
      refine AOps_nil ?_
      refine AU_u 11 224 _ rfl (by kernel_rfl) rfl rfl rfl (UOp_indexAddr_sl _ _ _ _ _ _ _ _ rfl Try.underlying24 Try.sizeOf2 hc62.1 (by rw [intsD_length]; exact hc62.2) rfl rfl) ?_
      exact AU_to (by kernel_rfl) hS15 (Weak_keep 0 hm [24, 25, 26, 30, 31, 219, 224, 231] [0, 1] _ _ rfl rfl rfl)
     refine AU_cut 10 #[false, true, true, true, true, true, false, true, true, true, true, true, true, true, true, true, true, true, false, false, false, false, false, false, false, false] [(24, .ptr 0 0), (25, .d (.sl none (intsD r43.2))), (26, .d (.sl none (rowsD (r44.1.getD [])))), (30, iV x51), (218, .d (.pv (intsD ((r44.1.getD []).getD x51.toNat [])) (0 : Int).toNat)), (225, iV (((r44.1.getD []).getD x51.toNat []).getD (1 : Int).toNat 0)), (230, .d (.pv (intsD ((r44.1.getD []).getD x51.toNat [])) (2 : Int).toNat))] [.box (colD r43.1)] ?_ (fun hS43 => ?_)
     ·refine AU_all [0, 6, 18, 23] (by kernel_rfl) rfl (allc ?_ (allc ?_ (allc ?_ (allc ?_ (fun _ h => nomatch h)))))
      ·refine US_of 0 rfl rfl ?_
       refine AOps_q 213 _ rfl rfl rfl (QOp_loadN_ptr _ _ _ _ _ _ _ rfl Try.isAgg29 Try.sizeOf29 rfl rfl (colD_all _) (colD_length _)) ?_
       refine AOps_nil ?_
       exact AU_to (by kernel_rfl) hS20 (Weak_keep 0 hm [24, 25, 26, 30, 213, 218, 225, 230] [0] _ _ rfl rfl rfl)
      ·refine US_of 6 rfl rfl ?_
       refine AOps_q 219 _ rfl rfl rfl (QOp_load_pv _ _ _ _ _ rfl Try.isAgg2 rfl (intsD_get _ _ 0 (by omega))) ?_
       refine AOps_nil ?_
       exact AU_to (by kernel_rfl) hS24 (Weak_keep 0 hm [24, 25, 26, 30, 219, 225, 230] [0] _ _ rfl rfl rfl)
      ·refine US_of 18 rfl rfl ?_
       refine AOps_q 231 _ rfl rfl rfl (QOp_load_pv _ _ _ _ _ rfl Try.isAgg2 rfl (intsD_get _ _ 0 (by omega))) ?_
       refine AOps_nil ?_
       exact AU_to (by kernel_rfl) hS27 (Weak_keep 0 hm [24, 25, 26, 30, 218, 225, 231] [0] _ _ rfl rfl rfl)
      refine US_of 23 rfl rfl ?_
      refine AOps_alloc 31 _ _ (colD Col.zero) (zero_of Try.typeInfo29 rfl) (by rfl) rfl rfl rfl rfl ?_
      refine AOps_nil ?_
      exact AU_to (by kernel_rfl) hS28 (Weak_keep 0 hm [24, 25, 26, 30, 31, 218, 225, 230] [0, 1] _ _ rfl rfl rfl)
     refine AU_cut 10 #[false, true, true, true, true, true, false, true, true, true, true, true, false, true, true, true, true, true, true, false, false, false, false, false, false, false] [(24, .ptr 0 0), (25, .d (.sl none (intsD r43.2))), (26, .d (.sl none (rowsD (r44.1.getD [])))), (30, iV x51), (218, .d (.pv (intsD ((r44.1.getD []).getD x51.toNat [])) (0 : Int).toNat)), (224, .d (.pv (intsD ((r44.1.getD []).getD x51.toNat [])) (1 : Int).toNat)), (231, iV (((r44.1.getD []).getD x51.toNat []).getD (2 : Int).toNat 0))] [.box (colD r43.1)] ?_ (fun hS44 => ?_)
     ·refine AU_all [0, 6, 12, 23] (by kernel_rfl) rfl (allc ?_ (allc ?_ (allc ?_ (allc ?_ (fun _ h => nomatch h)))))
      ·refine US_of 0 rfl rfl ?_
       refine AOps_q 213 _ rfl rfl rfl (QOp_loadN_ptr _ _ _ _ _ _ _ rfl Try.isAgg29 Try.sizeOf29 rfl rfl (colD_all _) (colD_length _)) ?_
       refine AOps_nil ?_
       exact AU_to (by kernel_rfl) hS21 (Weak_keep 0 hm [24, 25, 26, 30, 213, 218, 224, 231] [0] _ _ rfl rfl rfl)
      ·refine US_of 6 rfl rfl ?_
       refine AOps_q 219 _ rfl rfl rfl (QOp_load_pv _ _ _ _ _ rfl Try.isAgg2 rfl (intsD_get _ _ 0 (by omega))) ?_
       refine AOps_nil ?_
       exact AU_to (by kernel_rfl) hS25 (Weak_keep 0 hm [24, 25, 26, 30, 219, 224, 231] [0] _ _ rfl rfl rfl)
      ·refine US_of 12 rfl rfl ?_
       refine AOps_q 225 _ rfl rfl rfl (QOp_load_pv _ _ _ _ _ rfl Try.isAgg2 rfl (intsD_get _ _ 0 (by omega))) ?_
       refine AOps_nil ?_
       exact AU_to (by kernel_rfl) hS27 (Weak_keep 0 hm [24, 25, 26, 30, 218, 225, 231] [0] _ _ rfl rfl rfl)
      refine US_of 23 rfl rfl ?_
      refine AOps_alloc 31 _ _ (colD Col.zero) (zero_of Try.typeInfo29 rfl) (by rfl) rfl rfl rfl rfl ?_
      refine AOps_nil ?_
      exact AU_to (by kernel_rfl) hS29 (Weak_keep 0 hm [24, 25, 26, 30, 31, 218, 224, 231] [0, 1] _ _ rfl rfl rfl)
     refine AU_cut 10 #[false, true, true, true, true, true, false, true, true, true, true, true, false, true, true, true, true, true, false, false, false, false, false, true, false, false] [(24, .ptr 0 0), (25, .d (.sl none (intsD r43.2))), (26, .d (.sl none (rowsD (r44.1.getD [])))), (30, iV x51), (31, .ptr 1 0), (218, .d (.pv (intsD ((r44.1.getD []).getD x51.toNat [])) (0 : Int).toNat)), (224, .d (.pv (intsD ((r44.1.getD []).getD x51.toNat [])) (1 : Int).toNat)), (230, .d (.pv (intsD ((r44.1.getD []).getD x51.toNat [])) (2 : Int).toNat))] [.box (colD r43.1), .box (colD Col.zero)] ?_ (fun hS45 => ?_)
     ·refine AU_all [0, 6, 12, 18] (by kernel_rfl) rfl (allc ?_ (allc ?_ (allc ?_ (allc ?_ (fun _ h => nomatch h)))))
      ·refine US_of 0 rfl rfl ?_
       refine AOps_q 213 _ rfl rfl rfl (QOp_loadN_ptr _ _ _ _ _ _ _ rfl Try.isAgg29 Try.sizeOf29 rfl rfl (colD_all _) (colD_length _)) ?_
       refine AOps_nil ?_
       exact AU_to (by kernel_rfl) hS22 (Weak_keep 0 hm [24, 25, 26, 30, 31, 213, 218, 224, 230] [0, 1] _ _ rfl rfl rfl)
      ·refine US_of 6 rfl rfl ?_
       refine AOps_q 219 _ rfl rfl rfl (QOp_load_pv _ _ _ _ _ rfl Try.isAgg2 rfl (intsD_get _ _ 0 (by omega))) ?_
       refine AOps_nil ?_
       exact AU_to (by kernel_rfl) hS26 (Weak_keep 0 hm [24, 25, 26, 30, 31, 219, 224, 230] [0, 1] _ _ rfl rfl rfl)
      ·refine US_of 12 rfl rfl ?_
       refine AOps_q 225 _ rfl rfl rfl (QOp_load_pv _ _ _ _ _ rfl Try.isAgg2 rfl (intsD_get _ _ 0 (by omega))) ?_
       refine AOps_nil ?_
       exact AU_to (by kernel_rfl) hS28 (Weak_keep 0 hm [24, 25, 26, 30, 31, 218, 225, 230] [0, 1] _ _ rfl rfl rfl)
      refine US_of 18 rfl rfl ?_
      refine AOps_q 231 _ rfl rfl rfl (QOp_load_pv _ _ _ _ _ rfl Try.isAgg2 rfl (intsD_get _ _ 0 (by omega))) ?_
      refine AOps_nil ?_
      exact AU_to (by kernel_rfl) hS29 (Weak_keep 0 hm [24, 25, 26, 30, 31, 218, 224, 231] [0, 1] _ _ rfl rfl rfl)
     refine AU_cut 10 #[false, true, true, true, false, false, false, true, true, true, true, true, true, true, true, true, true, true, true, false, false, false, false, true, false, false] [(24, .ptr 0 0), (25, .d (.sl none (intsD r43.2))), (26, .d (.sl none (rowsD (r44.1.getD [])))), (30, iV x51), (31, .ptr 1 0), (216, .d (.pv (rowsD (r44.1.getD [])) x51.toNat)), (225, iV (((r44.1.getD []).getD x51.toNat []).getD (1 : Int).toNat 0)), (231, iV (((r44.1.getD []).getD x51.toNat []).getD (2 : Int).toNat 0))] [.box (colD r43.1), .box (colD Col.zero)] ?_ (fun hS46 => ?_)
     ·refine AU_all [0, 4] (by kernel_rfl) rfl (allc ?_ (allc ?_ (fun _ h => nomatch h)))
      ·refine US_of 0 rfl rfl ?_
       refine AOps_q 213 _ rfl rfl rfl (QOp_loadN_ptr _ _ _ _ _ _ _ rfl Try.isAgg29 Try.sizeOf29 rfl rfl (colD_all _) (colD_length _)) ?_
       refine AOps_nil ?_
       exact AU_to (by kernel_rfl) hS23 (Weak_keep 0 hm [24, 25, 26, 30, 31, 213, 216, 225, 231] [0, 1] _ _ rfl rfl rfl)
      refine US_of 4 rfl rfl ?_
      refine AOps_q 217 _ rfl rfl rfl (QOp_load_pv _ _ _ _ _ rfl Try.isAgg24 rfl (rowsD_get _ _ [] (by omega))) ?_
      refine AOps_nil ?_
      refine AU_u 5 218 _ rfl (by kernel_rfl) rfl rfl rfl (UOp_indexAddr_sl _ _ _ _ _ _ _ _ rfl Try.underlying24 Try.sizeOf2 hc61.1 (by rw [intsD_length]; exact hc61.2) rfl rfl) ?_
      exact AU_to (by kernel_rfl) hS16 (Weak_keep 0 hm [24, 25, 26, 30, 31, 218, 225, 231] [0, 1] _ _ rfl rfl rfl)
     refine AU_cut 11 #[true, true, true, true, true, true, true, true, true, true, true, true, false, true, true, true, false, false, false, false, false, false, false, false, false, false] [(24, .ptr 0 0), (25, .d (.sl none (intsD r43.2))), (26, .d (.sl none (rowsD (r44.1.getD [])))), (30, iV x51), (213, .d (.agg (colD r43.1))), (219, iV (((r44.1.getD []).getD x51.toNat []).getD (0 : Int).toNat 0)), (224, .d (.pv (intsD ((r44.1.getD []).getD x51.toNat [])) (1 : Int).toNat)), (228, .d (.pv (rowsD (r44.1.getD [])) x51.toNat))] [.box (colD r43.1)] ?_ (fun hS47 => ?_)
     ·refine AU_all [12, 16, 23] (by kernel_rfl) rfl (allc ?_ (allc ?_ (allc ?_ (fun _ h => nomatch h))))
      ·refine US_of 12 rfl rfl ?_
       refine AOps_q 225 _ rfl rfl rfl (QOp_load_pv _ _ _ _ _ rfl Try.isAgg2 rfl (intsD_get _ _ 0 (by omega))) ?_
       refine AOps_nil ?_
       exact AU_to (by kernel_rfl) hS30 (Weak_keep 0 hm [24, 25, 26, 30, 213, 219, 225, 228] [0] _ _ rfl rfl rfl)
      ·refine US_of 16 rfl rfl ?_
       refine AOps_q 229 _ rfl rfl rfl (QOp_load_pv _ _ _ _ _ rfl Try.isAgg24 rfl (rowsD_get _ _ [] (by omega))) ?_
       refine AOps_nil ?_
       refine AU_u 17 230 _ rfl (by kernel_rfl) rfl rfl rfl (UOp_indexAddr_sl _ _ _ _ _ _ _ _ rfl Try.underlying24 Try.sizeOf2 hc63.1 (by rw [intsD_length]; exact hc63.2) rfl rfl) ?_
       exact AU_to (by kernel_rfl) hS18 (Weak_keep 0 hm [24, 25, 26, 30, 213, 219, 224, 230] [0] _ _ rfl rfl rfl)
      refine US_of 23 rfl rfl ?_
      refine AOps_alloc 31 _ _ (colD Col.zero) (zero_of Try.typeInfo29 rfl) (by rfl) rfl rfl rfl rfl ?_
      refine AOps_nil ?_
      exact AU_to (by kernel_rfl) hS31 (Weak_keep 0 hm [24, 25, 26, 30, 31, 213, 219, 224, 228] [0, 1] _ _ rfl rfl rfl)
     refine AU_cut 11 #[true, true, true, true, true, true, true, true, true, true, false, false, false, true, true, true, true, true, false, false, false, false, false, false, false, false] [(24, .ptr 0 0), (25, .d (.sl none (intsD r43.2))), (26, .d (.sl none (rowsD (r44.1.getD [])))), (30, iV x51), (213, .d (.agg (colD r43.1))), (219, iV (((r44.1.getD []).getD x51.toNat []).getD (0 : Int).toNat 0)), (222, .d (.pv (rowsD (r44.1.getD [])) x51.toNat)), (230, .d (.pv (intsD ((r44.1.getD []).getD x51.toNat [])) (2 : Int).toNat))] [.box (colD r43.1)] ?_ (fun hS48 => ?_)
     ·refine AU_all [10, 18, 23] (by kernel_rfl) rfl (allc ?_ (allc ?_ (allc ?_ (fun _ h => nomatch h))))
      ·refine US_of 10 rfl rfl ?_
       refine AOps_q 223 _ rfl rfl rfl (QOp_load_pv _ _ _ _ _ rfl Try.isAgg24 rfl (rowsD_get _ _ [] (by omega))) ?_
       refine AOps_nil ?_
       refine AU_u 11 224 _ rfl (by kernel_rfl) rfl rfl rfl (UOp_indexAddr_sl _ _ _ _ _ _ _ _ rfl Try.underlying24 Try.sizeOf2 hc62.1 (by rw [intsD_length]; exact hc62.2) rfl rfl) ?_
       exact AU_to (by kernel_rfl) hS18 (Weak_keep 0 hm [24, 25, 26, 30, 213, 219, 224, 230] [0] _ _ rfl rfl rfl)
      ·refine US_of 18 rfl rfl ?_
       refine AOps_q 231 _ rfl rfl rfl (QOp_load_pv _ _ _ _ _ rfl Try.isAgg2 rfl (intsD_get _ _ 0 (by omega))) ?_
       refine AOps_nil ?_
       exact AU_to (by kernel_rfl) hS32 (Weak_keep 0 hm [24, 25, 26, 30, 213, 219, 222, 231] [0] _ _ rfl rfl rfl)
      refine US_of 23 rfl rfl ?_
      refine AOps_alloc 31 _ _ (colD Col.zero) (zero_of Try.typeInfo29 rfl) (by rfl) rfl rfl rfl rfl ?_
      refine AOps_nil ?_
      exact AU_to (by kernel_rfl) hS33 (Weak_keep 0 hm [24, 25, 26, 30, 31, 213, 219, 222, 230] [0, 1] _ _ rfl rfl rfl)
     refine AU_cut 11 #[true, true, true, true, true, true, false, true, true, true, true, true, true, true, true, true, false, false, false, false, false, false, false, false, false, false] [(24, .ptr 0 0), (25, .d (.sl none (intsD r43.2))), (26, .d (.sl none (rowsD (r44.1.getD [])))), (30, iV x51), (213, .d (.agg (colD r43.1))), (218, .d (.pv (intsD ((r44.1.getD []).getD x51.toNat [])) (0 : Int).toNat)), (225, iV (((r44.1.getD []).getD x51.toNat []).getD (1 : Int).toNat 0)), (228, .d (.pv (rowsD (r44.1.getD [])) x51.toNat))] [.box (colD r43.1)] ?_ (fun hS49 => ?_)
     ·refine AU_all [6, 16, 23] (by kernel_rfl) rfl (allc ?_ (allc ?_ (allc ?_ (fun _ h => nomatch h))))
      ·refine US_of 6 rfl rfl ?_
       refine AOps_q 219 _ rfl rfl rfl (QOp_load_pv _ _ _ _ _ rfl Try.isAgg2 rfl (intsD_get _ _ 0 (by omega))) ?_
       refine AOps_nil ?_
       exact AU_to (by kernel_rfl) hS30 (Weak_keep 0 hm [24, 25, 26, 30, 213, 219, 225, 228] [0] _ _ rfl rfl rfl)
      ·refine US_of 16 rfl rfl ?_
       refine AOps_q 229 _ rfl rfl rfl (QOp_load_pv _ _ _ _ _ rfl Try.isAgg24 rfl (rowsD_get _ _ [] (by omega))) ?_
       refine AOps_nil ?_
       refine AU_u 17 230 _ rfl (by kernel_rfl) rfl rfl rfl (UOp_indexAddr_sl _ _ _ _ _ _ _ _ rfl Try.underlying24 Try.sizeOf2 hc63.1 (by rw [intsD_length]; exact hc63.2) rfl rfl) ?_
       exact AU_to (by kernel_rfl) hS20 (Weak_keep 0 hm [24, 25, 26, 30, 213, 218, 225, 230] [0] _ _ rfl rfl rfl)
      refine US_of 23 rfl rfl ?_
      refine AOps_alloc 31 _ _ (colD Col.zero) (zero_of Try.typeInfo29 rfl) (by rfl) rfl rfl rfl rfl ?_
      refine AOps_nil ?_
      exact AU_to (by kernel_rfl) hS34 (Weak_keep 0 hm [24, 25, 26, 30, 31, 213, 218, 225, 228] [0, 1] _ _ rfl rfl rfl)
     refine AU_cut 11 #[true, true, true, true, true, true, false, true, true, true, true, true, false, true, true, true, false, false, false, false, false, false, false, true, false, false] [(24, .ptr 0 0), (25, .d (.sl none (intsD r43.2))), (26, .d (.sl none (rowsD (r44.1.getD [])))), (30, iV x51), (31, .ptr 1 0), (213, .d (.agg (colD r43.1))), (218, .d (.pv (intsD ((r44.1.getD []).getD x51.toNat [])) (0 : Int).toNat)), (224, .d (.pv (intsD ((r44.1.getD []).getD x51.toNat [])) (1 : Int).toNat)), (228, .d (.pv (rowsD (r44.1.getD [])) x51.toNat))] [.box (colD r43.1), .box (colD Col.zero)] ?_ (fun hS50 => ?_)
     ·refine AU_all [6, 12, 16] (by kernel_rfl) rfl (allc ?_ (allc ?_ (allc ?_ (fun _ h => nomatch h))))
      ·refine US_of 6 rfl rfl ?_
       refine AOps_q 219 _ rfl rfl rfl (QOp_load_pv _ _ _ _ _ rfl Try.isAgg2 rfl (intsD_get _ _ 0 (by omega))) ?_
       refine AOps_nil ?_
       exact AU_to (by kernel_rfl) hS31 (Weak_keep 0 hm [24, 25, 26, 30, 31, 213, 219, 224, 228] [0, 1] _ _ rfl rfl rfl)
      ·refine US_of 12 rfl rfl ?_
       refine AOps_q 225 _ rfl rfl rfl (QOp_load_pv _ _ _ _ _ rfl Try.isAgg2 rfl (intsD_get _ _ 0 (by omega))) ?_
       refine AOps_nil ?_
       exact AU_to (by kernel_rfl) hS34 (Weak_keep 0 hm [24, 25, 26, 30, 31, 213, 218, 225, 228] [0, 1] _ _ rfl rfl rfl)
      refine US_of 16 rfl rfl ?_
      refine AOps_q 229 _ rfl rfl rfl (QOp_load_pv _ _ _ _ _ rfl Try.isAgg24 rfl (rowsD_get _ _ [] (by omega))) ?_
      refine AOps_nil ?_
      refine AU_u 17 230 _ rfl (by kernel_rfl) rfl rfl rfl (UOp_indexAddr_sl _ _ _ _ _ _ _ _ rfl Try.underlying24 Try.sizeOf2 hc63.1 (by rw [intsD_length]; exact hc63.2) rfl rfl) ?_
      exact AU_to (by kernel_rfl) hS22 (Weak_keep 0 hm [24, 25, 26, 30, 31, 213, 218, 224, 230] [0, 1] _ _ rfl rfl rfl)
     refine AU_cut 11 #[true, true, true, true, true, true, false, true, true, true, false, false, false, true, true, true, true, true, true, false, false, false, false, false, false, false] [(24, .ptr 0 0), (25, .d (.sl none (intsD r43.2))), (26, .d (.sl none (rowsD (r44.1.getD [])))), (30, iV x51), (213, .d (.agg (colD r43.1))), (218, .d (.pv (intsD ((r44.1.getD []).getD x51.toNat [])) (0 : Int).toNat)), (222, .d (.pv (rowsD (r44.1.getD [])) x51.toNat)), (231, iV (((r44.1.getD []).getD x51.toNat []).getD (2 : Int).toNat 0))] [.box (colD r43.1)] ?_ (fun hS51 => ?_)
     ·refine AU_all [6, 10, 23] (by kernel_rfl) rfl (allc ?_ (allc ?_ (allc ?_ (fun _ h => nomatch h))))
      ·refine US_of 6 rfl rfl ?_
       refine AOps_q 219 _ rfl rfl rfl (QOp_load_pv _ _ _ _ _ rfl Try.isAgg2 rfl (intsD_get _ _ 0 (by omega))) ?_
       refine AOps_nil ?_
       exact AU_to (by kernel_rfl) hS32 (Weak_keep 0 hm [24, 25, 26, 30, 213, 219, 222, 231] [0] _ _ rfl rfl rfl)
      ·refine US_of 10 rfl rfl ?_
       refine AOps_q 223 _ rfl rfl rfl (QOp_load_pv _ _ _ _ _ rfl Try.isAgg24 rfl (rowsD_get _ _ [] (by omega))) ?_
       refine AOps_nil ?_
       refine AU_u 11 224 _ rfl (by kernel_rfl) rfl rfl rfl (UOp_indexAddr_sl _ _ _ _ _ _ _ _ rfl Try.underlying24 Try.sizeOf2 hc62.1 (by rw [intsD_length]; exact hc62.2) rfl rfl) ?_
       exact AU_to (by kernel_rfl) hS21 (Weak_keep 0 hm [24, 25, 26, 30, 213, 218, 224, 231] [0] _ _ rfl rfl rfl)
      refine US_of 23 rfl rfl ?_
      refine AOps_alloc 31 _ _ (colD Col.zero) (zero_of Try.typeInfo29 rfl) (by rfl) rfl rfl rfl rfl ?_
      refine AOps_nil ?_
      exact AU_to (by kernel_rfl) hS36 (Weak_keep 0 hm [24, 25, 26, 30, 31, 213, 218, 222, 231] [0, 1] _ _ rfl rfl rfl)
     refine AU_cut 11 #[true, true, true, true, true, true, false, true, true, true, false, false, false, true, true, true, true, true, false, false, false, false, false, true, false, false] [(24, .ptr 0 0), (25, .d (.sl none (intsD r43.2))), (26, .d (.sl none (rowsD (r44.1.getD [])))), (30, iV x51), (31, .ptr 1 0), (213, .d (.agg (colD r43.1))), (218, .d (.pv (intsD ((r44.1.getD []).getD x51.toNat [])) (0 : Int).toNat)), (222, .d (.pv (rowsD (r44.1.getD [])) x51.toNat)), (230, .d (.pv (intsD ((r44.1.getD []).getD x51.toNat [])) (2 : Int).toNat))] [.box (colD r43.1), .box (colD Col.zero)] ?_ (fun hS52 => ?_)
     ·refine AU_all [6, 10, 18] (by kernel_rfl) rfl (allc ?_ (allc ?_ (allc ?_ (fun _ h => nomatch h))))
      ·refine US_of 6 rfl rfl ?_
       refine AOps_q 219 _ rfl rfl rfl (QOp_load_pv _ _ _ _ _ rfl Try.isAgg2 rfl (intsD_get _ _ 0 (by omega))) ?_
       refine AOps_nil ?_
       exact AU_to (by kernel_rfl) hS33 (Weak_keep 0 hm [24, 25, 26, 30, 31, 213, 219, 222, 230] [0, 1] _ _ rfl rfl rfl)
      ·refine US_of 10 rfl rfl ?_
       refine AOps_q 223 _ rfl rfl rfl (QOp_load_pv _ _ _ _ _ rfl Try.isAgg24 rfl (rowsD_get _ _ [] (by omega))) ?_
       refine AOps_nil ?_
       refine AU_u 11 224 _ rfl (by kernel_rfl) rfl rfl rfl (UOp_indexAddr_sl _ _ _ _ _ _ _ _ rfl Try.underlying24 Try.sizeOf2 hc62.1 (by rw [intsD_length]; exact hc62.2) rfl rfl) ?_
       exact AU_to (by kernel_rfl) hS22 (Weak_keep 0 hm [24, 25, 26, 30, 31, 213, 218, 224, 230] [0, 1] _ _ rfl rfl rfl)
      refine US_of 18 rfl rfl ?_
      refine AOps_q 231 _ rfl rfl rfl (QOp_load_pv _ _ _ _ _ rfl Try.isAgg2 rfl (intsD_get _ _ 0 (by omega))) ?_
      refine AOps_nil ?_
      exact AU_to (by kernel_rfl) hS36 (Weak_keep 0 hm [24, 25, 26, 30, 31, 213, 218, 222, 231] [0, 1] _ _ rfl rfl rfl)
     refine AU_cut 11 #[true, true, true, true, false, false, false, true, true, true, true, true, true, true, true, true, true, true, false, false, false, false, false, false, false, false] [(24, .ptr 0 0), (25, .d (.sl none (intsD r43.2))), (26, .d (.sl none (rowsD (r44.1.getD [])))), (30, iV x51), (213, .d (.agg (colD r43.1))), (216, .d (.pv (rowsD (r44.1.getD [])) x51.toNat)), (225, iV (((r44.1.getD []).getD x51.toNat []).getD (1 : Int).toNat 0)), (230, .d (.pv (intsD ((r44.1.getD []).getD x51.toNat [])) (2 : Int).toNat))] [.box (colD r43.1)] ?_ (fun hS53 => ?_)
     ·refine AU_all [4, 18, 23] (by kernel_rfl) rfl (allc ?_ (allc ?_ (allc ?_ (fun _ h => nomatch h))))
      ·refine US_of 4 rfl rfl ?_
       refine AOps_q 217 _ rfl rfl rfl (QOp_load_pv _ _ _ _ _ rfl Try.isAgg24 rfl (rowsD_get _ _ [] (by omega))) ?_
       refine AOps_nil ?_
       refine AU_u 5 218 _ rfl (by kernel_rfl) rfl rfl rfl (UOp_indexAddr_sl _ _ _ _ _ _ _ _ rfl Try.underlying24 Try.sizeOf2 hc61.1 (by rw [intsD_length]; exact hc61.2) rfl rfl) ?_
       exact AU_to (by kernel_rfl) hS20 (Weak_keep 0 hm [24, 25, 26, 30, 213, 218, 225, 230] [0] _ _ rfl rfl rfl)
      ·refine US_of 18 rfl rfl ?_
       refine AOps_q 231 _ rfl rfl rfl (QOp_load_pv _ _ _ _ _ rfl Try.isAgg2 rfl (intsD_get _ _ 0 (by omega))) ?_
       refine AOps_nil ?_
       exact AU_to (by kernel_rfl) hS37 (Weak_keep 0 hm [24, 25, 26, 30, 213, 216, 225, 231] [0] _ _ rfl rfl rfl)
      refine US_of 23 rfl rfl ?_
      refine AOps_alloc 31 _ _ (colD Col.zero) (zero_of Try.typeInfo29 rfl) (by rfl) rfl rfl rfl rfl ?_
      refine AOps_nil ?_
      exact AU_to (by kernel_rfl) hS38 (Weak_keep 0 hm [24, 25, 26, 30, 31, 213, 216, 225, 230] [0, 1] _ _ rfl rfl rfl)
     refine AU_cut 11 #[true, true, true, true, false, false, false, true, true, true, true, true, false, true, true, true, true, true, true, false, false, false, false, false, false, false] [(24, .ptr 0 0), (25, .d (.sl none (intsD r43.2))), (26, .d (.sl none (rowsD (r44.1.getD [])))), (30, iV x51), (213, .d (.agg (colD r43.1))), (216, .d (.pv (rowsD (r44.1.getD [])) x51.toNat)), (224, .d (.pv (intsD ((r44.1.getD []).getD x51.toNat [])) (1 : Int).toNat)), (231, iV (((r44.1.getD []).getD x51.toNat []).getD (2 : Int).toNat 0))] [.box (colD r43.1)] ?_ (fun hS54 => ?_)
     ·refine AU_all [4, 12, 23] (by kernel_rfl) rfl (allc ?_ (allc ?_ (allc ?_ (fun _ h => nomatch h))))
      ·refine US_of 4 rfl rfl ?_
       refine AOps_q 217 _ rfl rfl rfl (QOp_load_pv _ _ _ _ _ rfl Try.isAgg24 rfl (rowsD_get _ _ [] (by omega))) ?_
       refine AOps_nil ?_
       refine AU_u 5 218 _ rfl (by kernel_rfl) rfl rfl rfl (UOp_indexAddr_sl _ _ _ _ _ _ _ _ rfl Try.underlying24 Try.sizeOf2 hc61.1 (by rw [intsD_length]; exact hc61.2) rfl rfl) ?_
       exact AU_to (by kernel_rfl) hS21 (Weak_keep 0 hm [24, 25, 26, 30, 213, 218, 224, 231] [0] _ _ rfl rfl rfl)
      ·refine US_of 12 rfl rfl ?_
       refine AOps_q 225 _ rfl rfl rfl (QOp_load_pv _ _ _ _ _ rfl Try.isAgg2 rfl (intsD_get _ _ 0 (by omega))) ?_
       refine AOps_nil ?_
       exact AU_to (by kernel_rfl) hS37 (Weak_keep 0 hm [24, 25, 26, 30, 213, 216, 225, 231] [0] _ _ rfl rfl rfl)
      refine US_of 23 rfl rfl ?_
      refine AOps_alloc 31 _ _ (colD Col.zero) (zero_of Try.typeInfo29 rfl) (by rfl) rfl rfl rfl rfl ?_
      refine AOps_nil ?_
      exact AU_to (by kernel_rfl) hS39 (Weak_keep 0 hm [24, 25, 26, 30, 31, 213, 216, 224, 231] [0, 1] _ _ rfl rfl rfl)
     refine AU_cut 11 #[true, true, true, true, false, false, false, true, true, true, true, true, false, true, true, true, true, true, false, false, false, false, false, true, false, false] [(24, .ptr 0 0), (25, .d (.sl none (intsD r43.2))), (26, .d (.sl none (rowsD (r44.1.getD [])))), (30, iV x51), (31, .ptr 1 0), (213, .d (.agg (colD r43.1))), (216, .d (.pv (rowsD (r44.1.getD [])) x51.toNat)), (224, .d (.pv (intsD ((r44.1.getD []).getD x51.toNat [])) (1 : Int).toNat)), (230, .d (.pv (intsD ((r44.1.getD []).getD x51.toNat [])) (2 : Int).toNat))] [.box (colD r43.1), .box (colD Col.zero)] ?_ (fun hS55 => ?_)
     ·refine AU_all [4, 12, 18] (by kernel_rfl) rfl (allc ?_ (allc ?_ (allc ?_ (fun _ h => nomatch h))))
      ·refine US_of 4 rfl rfl ?_
       refine AOps_q 217 _ rfl rfl rfl (QOp_load_pv _ _ _ _ _ rfl Try.isAgg24 rfl (rowsD_get _ _ [] (by omega))) ?_
       refine AOps_nil ?_
       refine AU_u 5 218 _ rfl (by kernel_rfl) rfl rfl rfl (UOp_indexAddr_sl _ _ _ _ _ _ _ _ rfl Try.underlying24 Try.sizeOf2 hc61.1 (by rw [intsD_length]; exact hc61.2) rfl rfl) ?_
       exact AU_to (by kernel_rfl) hS22 (Weak_keep 0 hm [24, 25, 26, 30, 31, 213, 218, 224, 230] [0, 1] _ _ rfl rfl rfl)
      ·refine US_of 12 rfl rfl ?_
       refine AOps_q 225 _ rfl rfl rfl (QOp_load_pv _ _ _ _ _ rfl Try.isAgg2 rfl (intsD_get _ _ 0 (by omega))) ?_
       refine AOps_nil ?_
       exact AU_to (by kernel_rfl) hS38 (Weak_keep 0 hm [24, 25, 26, 30, 31, 213, 216, 225, 230] [0, 1] _ _ rfl rfl rfl)
      refine US_of 18 rfl rfl ?_
      refine AOps_q 231 _ rfl rfl rfl (QOp_load_pv _ _ _ _ _ rfl Try.isAgg2 rfl (intsD_get _ _ 0 (by omega))) ?_
      refine AOps_nil ?_
      exact AU_to (by kernel_rfl) hS39 (Weak_keep 0 hm [24, 25, 26, 30, 31, 213, 216, 224, 231] [0, 1] _ _ rfl rfl rfl)
     refine AU_cut 11 #[false, true, true, true, true, true, true, true, true, true, true, true, true, true, true, true, false, false, false, false, false, false, false, false, false, false] [(24, .ptr 0 0), (25, .d (.sl none (intsD r43.2))), (26, .d (.sl none (rowsD (r44.1.getD [])))), (30, iV x51), (219, iV (((r44.1.getD []).getD x51.toNat []).getD (0 : Int).toNat 0)), (225, iV (((r44.1.getD []).getD x51.toNat []).getD (1 : Int).toNat 0)), (228, .d (.pv (rowsD (r44.1.getD [])) x51.toNat))] [.box (colD r43.1)] ?_ (fun hS56 => ?_)
     ·refine AU_all [0, 16, 23] (by kernel_rfl) rfl (allc ?_ (allc ?_ (allc ?_ (fun _ h => nomatch h))))
      ·refine US_of 0 rfl rfl ?_
       refine AOps_q 213 _ rfl rfl rfl (QOp_loadN_ptr _ _ _ _ _ _ _ rfl Try.isAgg29 Try.sizeOf29 rfl rfl (colD_all _) (colD_length _)) ?_
       refine AOps_nil ?_
       exact AU_to (by kernel_rfl) hS30 (Weak_keep 0 hm [24, 25, 26, 30, 213, 219, 225, 228] [0] _ _ rfl rfl rfl)
      ·refine US_of 16 rfl rfl ?_
       refine AOps_q 229 _ rfl rfl rfl (QOp_load_pv _ _ _ _ _ rfl Try.isAgg24 rfl (rowsD_get _ _ [] (by omega))) ?_
       refine AOps_nil ?_
       refine AU_u 17 230 _ rfl (by kernel_rfl) rfl rfl rfl (UOp_indexAddr_sl _ _ _ _ _ _ _ _ rfl Try.underlying24 Try.sizeOf2 hc63.1 (by rw [intsD_length]; exact hc63.2) rfl rfl) ?_
       exact AU_to (by kernel_rfl) hS24 (Weak_keep 0 hm [24, 25, 26, 30, 219, 225, 230] [0] _ _ rfl rfl rfl)
      refine US_of 23 rfl rfl ?_
      refine AOps_alloc 31 _ _ (colD Col.zero) (zero_of Try.typeInfo29 rfl) (by rfl) rfl rfl rfl rfl ?_
      refine AOps_nil ?_
      exact AU_to (by kernel_rfl) hS40 (Weak_keep 0 hm [24, 25, 26, 30, 31, 219, 225, 228] [0, 1] _ _ rfl rfl rfl)
     refine AU_cut 11 #[false, true, true, true, true, true, true, true, true, true, true, true, false, true, true, true, false, false, false, false, false, false, false, true, false, false] [(24, .ptr 0 0), (25, .d (.sl none (intsD r43.2))), (26, .d (.sl none (rowsD (r44.1.getD [])))), (30, iV x51), (31, .ptr 1 0), (219, iV (((r44.1.getD []).getD x51.toNat []).getD (0 : Int).toNat 0)), (224, .d (.pv (intsD ((r44.1.getD []).getD x51.toNat [])) (1 : Int).toNat)), (228, .d (.pv (rowsD (r44.1.getD [])) x51.toNat))] [.box (colD r43.1), .box (colD Col.zero)] ?_ (fun hS57 => ?_)
     ·refine AU_all [0, 12, 16] (by kernel_rfl) rfl (allc ?_ (allc ?_ (allc ?_ (fun _ h => nomatch h))))
      ·refine US_of 0 rfl rfl ?_
       refine AOps_q 213 _ rfl rfl rfl (QOp_loadN_ptr _ _ _ _ _ _ _ rfl Try.isAgg29 Try.sizeOf29 rfl rfl (colD_all _) (colD_length _)) ?_
       refine AOps_nil ?_
       exact AU_to (by kernel_rfl) hS31 (Weak_keep 0 hm [24, 25, 26, 30, 31, 213, 219, 224, 228] [0, 1] _ _ rfl rfl rfl)
      ·refine US_of 12 rfl rfl ?_
       refine AOps_q 225 _ rfl rfl rfl (QOp_load_pv _ _ _ _ _ rfl Try.isAgg2 rfl (intsD_get _ _ 0 (by omega))) ?_
       refine AOps_nil ?_
       exact AU_to (by kernel_rfl) hS40 (Weak_keep 0 hm [24, 25, 26, 30, 31, 219, 225, 228] [0, 1] _ _ rfl rfl rfl)
      refine US_of 16 rfl rfl ?_
      refine AOps_q 229 _ rfl rfl rfl (QOp_load_pv _ _ _ _ _ rfl Try.isAgg24 rfl (rowsD_get _ _ [] (by omega))) ?_
      refine AOps_nil ?_
      refine AU_u 17 230 _ rfl (by kernel_rfl) rfl rfl rfl (UOp_indexAddr_sl _ _ _ _ _ _ _ _ rfl Try.underlying24 Try.sizeOf2 hc63.1 (by rw [intsD_length]; exact hc63.2) rfl rfl) ?_
      exact AU_to (by kernel_rfl) hS26 (Weak_keep 0 hm [24, 25, 26, 30, 31, 219, 224, 230] [0, 1] _ _ rfl rfl rfl)
     refine AU_cut 11 #[false, true, true, true, true, true, true, true, true, true, false, false, false, true, true, true, true, true, true, false, false, false, false, false, false, false] [(24, .ptr 0 0), (25, .d (.sl none (intsD r43.2))), (26, .d (.sl none (rowsD (r44.1.getD [])))), (30, iV x51), (219, iV (((r44.1.getD []).getD x51.toNat []).getD (0 : Int).toNat 0)), (222, .d (.pv (rowsD (r44.1.getD [])) x51.toNat)), (231, iV (((r44.1.getD []).getD x51.toNat []).getD (2 : Int).toNat 0))] [.box (colD r43.1)] ?_ (fun hS58 => ?_)
     ·refine AU_all [0, 10, 23] (by kernel_rfl) rfl (allc ?_ (allc ?_ (allc ?_ (fun _ h => nomatch h))))
      ·refine US_of 0 rfl rfl ?_
       refine AOps_q 213 _ rfl rfl rfl (QOp_loadN_ptr _ _ _ _ _ _ _ rfl Try.isAgg29 Try.sizeOf29 rfl rfl (colD_all _) (colD_length _)) ?_
       refine AOps_nil ?_
       exact AU_to (by kernel_rfl) hS32 (Weak_keep 0 hm [24, 25, 26, 30, 213, 219, 222, 231] [0] _ _ rfl rfl rfl)
      ·refine US_of 10 rfl rfl ?_
       refine AOps_q 223 _ rfl rfl rfl (QOp_load_pv _ _ _ _ _ rfl Try.isAgg24 rfl (rowsD_get _ _ [] (by omega))) ?_
       refine AOps_nil ?_
       refine AU_u 11 224 _ rfl (by kernel_rfl) rfl rfl rfl (UOp_indexAddr_sl _ _ _ _ _ _ _ _ rfl Try.underlying24 Try.sizeOf2 hc62.1 (by rw [intsD_length]; exact hc62.2) rfl rfl) ?_
       exact AU_to (by kernel_rfl) hS25 (Weak_keep 0 hm [24, 25, 26, 30, 219, 224, 231] [0] _ _ rfl rfl rfl)
      refine US_of 23 rfl rfl ?_
      refine AOps_alloc 31 _ _ (colD Col.zero) (zero_of Try.typeInfo29 rfl) (by rfl) rfl rfl rfl rfl ?_
      refine AOps_nil ?_
      exact AU_to (by kernel_rfl) hS42 (Weak_keep 0 hm [24, 25, 26, 30, 31, 219, 222, 231] [0, 1] _ _ rfl rfl rfl)
     refine AU_cut 11 #[false, true, true, true, true, true, true, true, true, true, false, false, false, true, true, true, true, true, false, false, false, false, false, true, false, false] [(24, .ptr 0 0), (25, .d (.sl none (intsD r43.2))), (26, .d (.sl none (rowsD (r44.1.getD [])))), (30, iV x51), (31, .ptr 1 0), (219, iV (((r44.1.getD []).getD x51.toNat []).getD (0 : Int).toNat 0)), (222, .d (.pv (rowsD (r44.1.getD [])) x51.toNat)), (230, .d (.pv (intsD ((r44.1.getD []).getD x51.toNat [])) (2 : Int).toNat))] [.box (colD r43.1), .box (colD Col.zero)] ?_ (fun hS59 => ?_)
     ·refine AU_all [0, 10, 18] (by kernel_rfl) rfl (allc ?_ (allc ?_ (allc ?_ (fun _ h => nomatch h))))
      ·refine US_of 0 rfl rfl ?_
       refine AOps_q 213 _ rfl rfl rfl (QOp_loadN_ptr _ _ _ _ _ _ _ rfl Try.isAgg29 Try.sizeOf29 rfl rfl (colD_all _) (colD_length _)) ?_
       refine AOps_nil ?_
       exact AU_to (by kernel_rfl) hS33 (Weak_keep 0 hm [24, 25, 26, 30, 31, 213, 219, 222, 230] [0, 1] _ _ rfl rfl rfl)
      ·refine US_of 10 rfl rfl ?_
       refine AOps_q 223 _ rfl rfl rfl (QOp_load_pv _ _ _ _ _ rfl Try.isAgg24 rfl (rowsD_get _ _ [] (by omega))) ?_
       refine AOps_nil ?_
       refine AU_u 11 224 _ rfl (by kernel_rfl) rfl rfl rfl (UOp_indexAddr_sl _ _ _ _ _ _ _ _ rfl Try.underlying24 Try.sizeOf2 hc62.1 (by rw [intsD_length]; exact hc62.2) rfl rfl) ?_
       exact AU_to (by kernel_rfl) hS26 (Weak_keep 0 hm [24, 25, 26, 30, 31, 219, 224, 230] [0, 1] _ _ rfl rfl rfl)
      refine US_of 18 rfl rfl ?_
      refine AOps_q 231 _ rfl rfl rfl (QOp_load_pv _ _ _ _ _ rfl Try.isAgg2 rfl (intsD_get _ _ 0 (by omega))) ?_
      refine AOps_nil ?_
      exact AU_to (by kernel_rfl) hS42 (Weak_keep 0 hm [24, 25, 26, 30, 31, 219, 222, 231] [0, 1] _ _ rfl rfl rfl)
     refine AU_cut 11 #[false, true, true, true, true, true, false, true, true, true, true, true, true, true, true, true, false, false, false, false, false, false, false, true, false, false] [(24, .ptr 0 0), (25, .d (.sl none (intsD r43.2))), (26, .d (.sl none (rowsD (r44.1.getD [])))), (30, iV x51), (31, .ptr 1 0), (218, .d (.pv (intsD ((r44.1.getD []).getD x51.toNat [])) (0 : Int).toNat)), (225, iV (((r44.1.getD []).getD x51.toNat []).getD (1 : Int).toNat 0)), (228, .d (.pv (rowsD (r44.1.getD [])) x51.toNat))] [.box (colD r43.1), .box (colD Col.zero)] ?_ (fun hS60 => ?_)
     ·refine AU_all [0, 6, 16] (by kernel_rfl) rfl (allc ?_ (allc ?_ (allc ?_ (fun _ h => nomatch h))))
      ·refine US_of 0 rfl rfl ?_
       refine AOps_q 213 _ rfl rfl rfl (QOp_loadN_ptr _ _ _ _ _ _ _ rfl Try.isAgg29 Try.sizeOf29 rfl rfl (colD_all _) (colD_length _)) ?_
       refine AOps_nil ?_
       exact AU_to (by kernel_rfl) hS34 (Weak_keep 0 hm [24, 25, 26, 30, 31, 213, 218, 225, 228] [0, 1] _ _ rfl rfl rfl)
      ·refine US_of 6 rfl rfl ?_
       refine AOps_q 219 _ rfl rfl rfl (QOp_load_pv _ _ _ _ _ rfl Try.isAgg2 rfl (intsD_get _ _ 0 (by omega))) ?_
       refine AOps_nil ?_
       exact AU_to (by kernel_rfl) hS40 (Weak_keep 0 hm [24, 25, 26, 30, 31, 219, 225, 228] [0, 1] _ _ rfl rfl rfl)
      refine US_of 16 rfl rfl ?_
      refine AOps_q 229 _ rfl rfl rfl (QOp_load_pv _ _ _ _ _ rfl Try.isAgg24 rfl (rowsD_get _ _ [] (by omega))) ?_
      refine AOps_nil ?_
      refine AU_u 17 230 _ rfl (by kernel_rfl) rfl rfl rfl (UOp_indexAddr_sl _ _ _ _ _ _ _ _ rfl Try.underlying24 Try.sizeOf2 hc63.1 (by rw [intsD_length]; exact hc63.2) rfl rfl) ?_
      exact AU_to (by kernel_rfl) hS28 (Weak_keep 0 hm [24, 25, 26, 30, 31, 218, 225, 230] [0, 1] _ _ rfl rfl rfl)
     refine AU_cut 11 #[false, true, true, true, true, true, false, true, true, true, true, true, false, true, true, true, true, true, false, false, false, false, false, false, false, false] [(24, .ptr 0 0), (25, .d (.sl none (intsD r43.2))), (26, .d (.sl none (rowsD (r44.1.getD [])))), (30, iV x51), (218, .d (.pv (intsD ((r44.1.getD []).getD x51.toNat [])) (0 : Int).toNat)), (224, .d (.pv (intsD ((r44.1.getD []).getD x51.toNat [])) (1 : Int).toNat)), (230, .d (.pv (intsD ((r44.1.getD []).getD x51.toNat [])) (2 : Int).toNat))] [.box (colD r43.1)] ?_ (fun hS61 => ?_)
     ·refine AU_all [0, 6, 12, 18, 23] (by kernel_rfl) rfl (allc ?_ (allc ?_ (allc ?_ (allc ?_ (allc ?_ (fun _ h => nomatch h))))))
      ·refine US_of 0 rfl rfl ?_
       refine AOps_q 213 _ rfl rfl rfl (QOp_loadN_ptr _ _ _ _ _ _ _ rfl Try.isAgg29 Try.sizeOf29 rfl rfl (colD_all _) (colD_length _)) ?_
       refine AOps_nil ?_
       exact AU_to (by kernel_rfl) hS35 (Weak_keep 0 hm [24, 25, 26, 30, 213, 218, 224, 230] [0] _ _ rfl rfl rfl)
      ·refine US_of 6 rfl rfl ?_
       refine AOps_q 219 _ rfl rfl rfl (QOp_load_pv _ _ _ _ _ rfl Try.isAgg2 rfl (intsD_get _ _ 0 (by omega))) ?_
       refine AOps_nil ?_
       exact AU_to (by kernel_rfl) hS41 (Weak_keep 0 hm [24, 25, 26, 30, 219, 224, 230] [0] _ _ rfl rfl rfl)
      ·refine US_of 12 rfl rfl ?_
       refine AOps_q 225 _ rfl rfl rfl (QOp_load_pv _ _ _ _ _ rfl Try.isAgg2 rfl (intsD_get _ _ 0 (by omega))) ?_
       refine AOps_nil ?_
       exact AU_to (by kernel_rfl) hS43 (Weak_keep 0 hm [24, 25, 26, 30, 218, 225, 230] [0] _ _ rfl rfl rfl)
      ·refine US_of 18 rfl rfl ?_
       refine AOps_q 231 _ rfl rfl rfl (QOp_load_pv _ _ _ _ _ rfl Try.isAgg2 rfl (intsD_get _ _ 0 (by omega))) ?_
       refine AOps_nil ?_
       exact AU_to (by kernel_rfl) hS44 (Weak_keep 0 hm [24, 25, 26, 30, 218, 224, 231] [0] _ _ rfl rfl rfl)
      refine US_of 23 rfl rfl ?_
      refine AOps_alloc 31 _ _ (colD Col.zero) (zero_of Try.typeInfo29 rfl) (by rfl) rfl rfl rfl rfl ?_
      refine AOps_nil ?_
      exact AU_to (by kernel_rfl) hS45 (Weak_keep 0 hm [24, 25, 26, 30, 31, 218, 224, 230] [0, 1] _ _ rfl rfl rfl)
     refine AU_cut 11 #[false, true, true, true, true, true, false, true, true, true, false, false, false, true, true, true, true, true, true, false, false, false, false, true, false, false] [(24, .ptr 0 0), (25, .d (.sl none (intsD r43.2))), (26, .d (.sl none (rowsD (r44.1.getD [])))), (30, iV x51), (31, .ptr 1 0), (218, .d (.pv (intsD ((r44.1.getD []).getD x51.toNat [])) (0 : Int).toNat)), (222, .d (.pv (rowsD (r44.1.getD [])) x51.toNat)), (231, iV (((r44.1.getD []).getD x51.toNat []).getD (2 : Int).toNat 0))] [.box (colD r43.1), .box (colD Col.zero)] ?_ (fun hS62 => ?_)
     ·refine AU_all [0, 6, 10] (by kernel_rfl) rfl (allc ?_ (allc ?_ (allc ?_ (fun _ h => nomatch h))))
      ·refine US_of 0 rfl rfl ?_
       refine AOps_q 213 _ rfl rfl rfl (QOp_loadN_ptr _ _ _ _ _ _ _ rfl Try.isAgg29 Try.sizeOf29 rfl rfl (colD_all _) (colD_length _)) ?_
       refine AOps_nil ?_
       exact AU_to (by kernel_rfl) hS36 (Weak_keep 0 hm [24, 25, 26, 30, 31, 213, 218, 222, 231] [0, 1] _ _ rfl rfl rfl)
      ·refine US_of 6 rfl rfl ?_
       refine AOps_q 219 _ rfl rfl rfl (QOp_load_pv _ _ _ _ _ rfl Try.isAgg2 rfl (intsD_get _ _ 0 (by omega))) ?_
       refine AOps_nil ?_
       exact AU_to (by kernel_rfl) hS42 (Weak_keep 0 hm [24, 25, 26, 30, 31, 219, 222, 231] [0, 1] _ _ rfl rfl rfl)
      refine US_of 10 rfl rfl ?_
      refine AOps_q 223 _ rfl rfl rfl (QOp_load_pv _ _ _ _ _ rfl Try.isAgg24 rfl (rowsD_get _ _ [] (by omega))) ?_
      refine AOps_nil ?_
      refine AU_u 11 224 _ rfl (by kernel_rfl) rfl rfl rfl (UOp_indexAddr_sl _ _ _ _ _ _ _ _ rfl Try.underlying24 Try.sizeOf2 hc62.1 (by rw [intsD_length]; exact hc62.2) rfl rfl) ?_
      exact AU_to (by kernel_rfl) hS29 (Weak_keep 0 hm [24, 25, 26, 30, 31, 218, 224, 231] [0, 1] _ _ rfl rfl rfl)
     refine AU_cut 11 #[false, true, true, true, false, false, false, true, true, true, true, true, true, true, true, true, true, true, true, false, false, false, false, false, false, false] [(24, .ptr 0 0), (25, .d (.sl none (intsD r43.2))), (26, .d (.sl none (rowsD (r44.1.getD [])))), (30, iV x51), (216, .d (.pv (rowsD (r44.1.getD [])) x51.toNat)), (225, iV (((r44.1.getD []).getD x51.toNat []).getD (1 : Int).toNat 0)), (231, iV (((r44.1.getD []).getD x51.toNat []).getD (2 : Int).toNat 0))] [.box (colD r43.1)] ?_ (fun hS63 => ?_)
     ·refine AU_all [0, 4, 23] (by kernel_rfl) rfl (allc ?_ (allc ?_ (allc ?_ (fun _ h => nomatch h))))
      ·refine US_of 0 rfl rfl ?_
       refine AOps_q 213 _ rfl rfl rfl (QOp_loadN_ptr _ _ _ _ _ _ _ rfl Try.isAgg29 Try.sizeOf29 rfl rfl (colD_all _) (colD_length _)) ?_
       refine AOps_nil ?_
       exact AU_to (by kernel_rfl) hS37 (Weak_keep 0 hm [24, 25, 26, 30, 213, 216, 225, 231] [0] _ _ rfl rfl rfl)
      ·refine US_of 4 rfl rfl ?_
       refine AOps_q 217 _ rfl rfl rfl (QOp_load_pv _ _ _ _ _ rfl Try.isAgg24 rfl (rowsD_get _ _ [] (by omega))) ?_
       refine AOps_nil ?_
       refine AU_u 5 218 _ rfl (by kernel_rfl) rfl rfl rfl (UOp_indexAddr_sl _ _ _ _ _ _ _ _ rfl Try.underlying24 Try.sizeOf2 hc61.1 (by rw [intsD_length]; exact hc61.2) rfl rfl) ?_
       exact AU_to (by kernel_rfl) hS27 (Weak_keep 0 hm [24, 25, 26, 30, 218, 225, 231] [0] _ _ rfl rfl rfl)
      refine US_of 23 rfl rfl ?_
      refine AOps_alloc 31 _ _ (colD Col.zero) (zero_of Try.typeInfo29 rfl) (by rfl) rfl rfl rfl rfl ?_
      refine AOps_nil ?_
      exact AU_to (by kernel_rfl) hS46 (Weak_keep 0 hm [24, 25, 26, 30, 31, 216, 225, 231] [0, 1] _ _ rfl rfl rfl)
     refine AU_cut 11 #[false, true, true, true, false, false, false, true, true, true, true, true, true, true, true, true, true, true, false, false, false, false, false, true, false, false] [(24, .ptr 0 0), (25, .d (.sl none (intsD r43.2))), (26, .d (.sl none (rowsD (r44.1.getD [])))), (30, iV x51), (31, .ptr 1 0), (216, .d (.pv (rowsD (r44.1.getD [])) x51.toNat)), (225, iV (((r44.1.getD []).getD x51.toNat []).getD (1 : Int).toNat 0)), (230, .d (.pv (intsD ((r44.1.getD []).getD x51.toNat [])) (2 : Int).toNat))] [.box (colD r43.1), .box (colD Col.zero)] ?_ (fun hS64 => ?_)
     ·refine AU_all [0, 4, 18] (by kernel_rfl) rfl (allc ?_ (allc ?_ (allc ?_ (fun _ h => nomatch h))))
      ·refine US_of 0 rfl rfl ?_
       refine AOps_q 213 _ rfl rfl rfl (QOp_loadN_ptr _ _ _ _ _ _ _ rfl Try.isAgg29 Try.sizeOf29 rfl rfl (colD_all _) (colD_length _)) ?_
       refine AOps_nil ?_
       exact AU_to (by kernel_rfl) hS38 (Weak_keep 0 hm [24, 25, 26, 30, 31, 213, 216, 225, 230] [0, 1] _ _ rfl rfl rfl)
      ·refine US_of 4 rfl rfl ?_
       refine AOps_q 217 _ rfl rfl rfl (QOp_load_pv _ _ _ _ _ rfl Try.isAgg24 rfl (rowsD_get _ _ [] (by omega))) ?_
       refine AOps_nil ?_
       refine AU_u 5 218 _ rfl (by kernel_rfl) rfl rfl rfl (UOp_indexAddr_sl _ _ _ _ _ _ _ _ rfl Try.underlying24 Try.sizeOf2 hc61.1 (by rw [intsD_length]; exact hc61.2) rfl rfl) ?_
       exact AU_to (by kernel_rfl) hS28 (Weak_keep 0 hm [24, 25, 26, 30, 31, 218, 225, 230] [0, 1] _ _ rfl rfl rfl)
      refine US_of 18 rfl rfl ?_
      refine AOps_q 231 _ rfl rfl rfl (QOp_load_pv _ _ _ _ _ rfl Try.isAgg2 rfl (intsD_get _ _ 0 (by omega))) ?_
      refine AOps_nil ?_
      exact AU_to (by kernel_rfl) hS46 (Weak_keep 0 hm [24, 25, 26, 30, 31, 216, 225, 231] [0, 1] _ _ rfl rfl rfl)
     refine AU_cut 11 #[false, true, true, true, false, false, false, true, true, true, true, true, false, true, true, true, true, true, true, false, false, false, false, true, false, false] [(24, .ptr 0 0), (25, .d (.sl none (intsD r43.2))), (26, .d (.sl none (rowsD (r44.1.getD [])))), (30, iV x51), (31, .ptr 1 0), (216, .d (.pv (rowsD (r44.1.getD [])) x51.toNat)), (224, .d (.pv (intsD ((r44.1.getD []).getD x51.toNat [])) (1 : Int).toNat)), (231, iV (((r44.1.getD []).getD x51.toNat []).getD (2 : Int).toNat 0))] [.box (colD r43.1), .box (colD Col.zero)] ?_ (fun hS65 => ?_)
     ·refine AU_all [0, 4, 12] (by kernel_rfl) rfl (allc ?_ (allc ?_ (allc ?_ (fun _ h => nomatch h))))
      ·refine US_of 0 rfl rfl ?_
       refine AOps_q 213 _ rfl rfl rfl (QOp_loadN_ptr _ _ _ _ _ _ _ rfl Try.isAgg29 Try.sizeOf29 rfl rfl (colD_all _) (colD_length _)) ?_
       refine AOps_nil ?_
       exact AU_to (by kernel_rfl) hS39 (Weak_keep 0 hm [24, 25, 26, 30, 31, 213, 216, 224, 231] [0, 1] _ _ rfl rfl rfl)
      ·refine US_of 4 rfl rfl ?_
       refine AOps_q 217 _ rfl rfl rfl (QOp_load_pv _ _ _ _ _ rfl Try.isAgg24 rfl (rowsD_get _ _ [] (by omega))) ?_
       refine AOps_nil ?_
       refine AU_u 5 218 _ rfl (by kernel_rfl) rfl rfl rfl (UOp_indexAddr_sl _ _ _ _ _ _ _ _ rfl Try.underlying24 Try.sizeOf2 hc61.1 (by rw [intsD_length]; exact hc61.2) rfl rfl) ?_
       exact AU_to (by kernel_rfl) hS29 (Weak_keep 0 hm [24, 25, 26, 30, 31, 218, 224, 231] [0, 1] _ _ rfl rfl rfl)
      refine US_of 12 rfl rfl ?_
      refine AOps_q 225 _ rfl rfl rfl (QOp_load_pv _ _ _ _ _ rfl Try.isAgg2 rfl (intsD_get _ _ 0 (by omega))) ?_
      refine AOps_nil ?_
      exact AU_to (by kernel_rfl) hS46 (Weak_keep 0 hm [24, 25, 26, 30, 31, 216, 225, 231] [0, 1] _ _ rfl rfl rfl)
     refine AU_cut 12 #[true, true, true, true, true, true, true, true, true, true, false, false, false, true, true, true, false, false, false, false, false, false, false, true, false, false] [(24, .ptr 0 0), (25, .d (.sl none (intsD r43.2))), (26, .d (.sl none (rowsD (r44.1.getD [])))), (30, iV x51), (31, .ptr 1 0), (213, .d (.agg (colD r43.1))), (219, iV (((r44.1.getD []).getD x51.toNat []).getD (0 : Int).toNat 0)), (222, .d (.pv (rowsD (r44.1.getD [])) x51.toNat)), (228, .d (.pv (rowsD (r44.1.getD [])) x51.toNat))] [.box (colD r43.1), .box (colD Col.zero)] ?_ (fun hS66 => ?_)
     ·refine AU_all [10, 16] (by kernel_rfl) rfl (allc ?_ (allc ?_ (fun _ h => nomatch h)))
      ·refine US_of 10 rfl rfl ?_
       refine AOps_q 223 _ rfl rfl rfl (QOp_load_pv _ _ _ _ _ rfl Try.isAgg24 rfl (rowsD_get _ _ [] (by omega))) ?_
       refine AOps_nil ?_
       refine AU_u 11 224 _ rfl (by kernel_rfl) rfl rfl rfl (UOp_indexAddr_sl _ _ _ _ _ _ _ _ rfl Try.underlying24 Try.sizeOf2 hc62.1 (by rw [intsD_length]; exact hc62.2) rfl rfl) ?_
       exact AU_to (by kernel_rfl) hS31 (Weak_keep 0 hm [24, 25, 26, 30, 31, 213, 219, 224, 228] [0, 1] _ _ rfl rfl rfl)
      refine US_of 16 rfl rfl ?_
      refine AOps_q 229 _ rfl rfl rfl (QOp_load_pv _ _ _ _ _ rfl Try.isAgg24 rfl (rowsD_get _ _ [] (by omega))) ?_
      refine AOps_nil ?_
      refine AU_u 17 230 _ rfl (by kernel_rfl) rfl rfl rfl (UOp_indexAddr_sl _ _ _ _ _ _ _ _ rfl Try.underlying24 Try.sizeOf2 hc63.1 (by rw [intsD_length]; exact hc63.2) rfl rfl) ?_
      exact AU_to (by kernel_rfl) hS33 (Weak_keep 0 hm [24, 25, 26, 30, 31, 213, 219, 222, 230] [0, 1] _ _ rfl rfl rfl)
     refine AU_cut 12 #[true, true, true, true, true, true, false, true, true, true, true, true, false, true, true, true, false, false, false, false, false, false, false, false, false, false] [(24, .ptr 0 0), (25, .d (.sl none (intsD r43.2))), (26, .d (.sl none (rowsD (r44.1.getD [])))), (30, iV x51), (213, .d (.agg (colD r43.1))), (218, .d (.pv (intsD ((r44.1.getD []).getD x51.toNat [])) (0 : Int).toNat)), (224, .d (.pv (intsD ((r44.1.getD []).getD x51.toNat [])) (1 : Int).toNat)), (228, .d (.pv (rowsD (r44.1.getD [])) x51.toNat))] [.box (colD r43.1)] ?_ (fun hS67 => ?_)
     ·refine AU_all [6, 12, 16, 23] (by kernel_rfl) rfl (allc ?_ (allc ?_ (allc ?_ (allc ?_ (fun _ h => nomatch h)))))
      ·refine US_of 6 rfl rfl ?_
       refine AOps_q 219 _ rfl rfl rfl (QOp_load_pv _ _ _ _ _ rfl Try.isAgg2 rfl (intsD_get _ _ 0 (by omega))) ?_
       refine AOps_nil ?_
       exact AU_to (by kernel_rfl) hS47 (Weak_keep 0 hm [24, 25, 26, 30, 213, 219, 224, 228] [0] _ _ rfl rfl rfl)
      ·refine US_of 12 rfl rfl ?_
       refine AOps_q 225 _ rfl rfl rfl (QOp_load_pv _ _ _ _ _ rfl Try.isAgg2 rfl (intsD_get _ _ 0 (by omega))) ?_
       refine AOps_nil ?_
       exact AU_to (by kernel_rfl) hS49 (Weak_keep 0 hm [24, 25, 26, 30, 213, 218, 225, 228] [0] _ _ rfl rfl rfl)
      ·refine US_of 16 rfl rfl ?_
       refine AOps_q 229 _ rfl rfl rfl (QOp_load_pv _ _ _ _ _ rfl Try.isAgg24 rfl (rowsD_get _ _ [] (by omega))) ?_
       refine AOps_nil ?_
       refine AU_u 17 230 _ rfl (by kernel_rfl) rfl rfl rfl (UOp_indexAddr_sl _ _ _ _ _ _ _ _ rfl Try.underlying24 Try.sizeOf2 hc63.1 (by rw [intsD_length]; exact hc63.2) rfl rfl) ?_
       exact AU_to (by kernel_rfl) hS35 (Weak_keep 0 hm [24, 25, 26, 30, 213, 218, 224, 230] [0] _ _ rfl rfl rfl)
      refine US_of 23 rfl rfl ?_
      refine AOps_alloc 31 _ _ (colD Col.zero) (zero_of Try.typeInfo29 rfl) (by rfl) rfl rfl rfl rfl ?_
      refine AOps_nil ?_
      exact AU_to (by kernel_rfl) hS50 (Weak_keep 0 hm [24, 25, 26, 30, 31, 213, 218, 224, 228] [0, 1] _ _ rfl rfl rfl)
     refine AU_cut 12 #[true, true, true, true, true, true, false, true, true, true, false, false, false, true, true, true, true, true, false, false, false, false, false, false, false, false] [(24, .ptr 0 0), (25, .d (.sl none (intsD r43.2))), (26, .d (.sl none (rowsD (r44.1.getD [])))), (30, iV x51), (213, .d (.agg (colD r43.1))), (218, .d (.pv (intsD ((r44.1.getD []).getD x51.toNat [])) (0 : Int).toNat)), (222, .d (.pv (rowsD (r44.1.getD [])) x51.toNat)), (230, .d (.pv (intsD ((r44.1.getD []).getD x51.toNat [])) (2 : Int).toNat))] [.box (colD r43.1)] ?_ (fun hS68 => ?_)
     ·refine AU_all [6, 10, 18, 23] (by kernel_rfl) rfl (allc ?_ (allc ?_ (allc ?_ (allc ?_ (fun _ h => nomatch h)))))
      ·refine US_of 6 rfl rfl ?_
       refine AOps_q 219 _ rfl rfl rfl (QOp_load_pv _ _ _ _ _ rfl Try.isAgg2 rfl (intsD_get _ _ 0 (by omega))) ?_
       refine AOps_nil ?_
       exact AU_to (by kernel_rfl) hS48 (Weak_keep 0 hm [24, 25, 26, 30, 213, 219, 222, 230] [0] _ _ rfl rfl rfl)
      ·refine US_of 10 rfl rfl ?_
       refine AOps_q 223 _ rfl rfl rfl (QOp_load_pv _ _ _ _ _ rfl Try.isAgg24 rfl (rowsD_get _ _ [] (by omega))) ?_
       refine AOps_nil ?_
       refine AU_u 11 224 _ rfl (by kernel_rfl) rfl rfl rfl (UOp_indexAddr_sl _ _ _ _ _ _ _ _ rfl Try.underlying24 Try.sizeOf2 hc62.1 (by rw [intsD_length]; exact hc62.2) rfl rfl) ?_
       exact AU_to (by kernel_rfl) hS35 (Weak_keep 0 hm [24, 25, 26, 30, 213, 218, 224, 230] [0] _ _ rfl rfl rfl)
      ·refine US_of 18 rfl rfl ?_
       refine AOps_q 231 _ rfl rfl rfl (QOp_load_pv _ _ _ _ _ rfl Try.isAgg2 rfl (intsD_get _ _ 0 (by omega))) ?_
       refine AOps_nil ?_
       exact AU_to (by kernel_rfl) hS51 (Weak_keep 0 hm [24, 25, 26, 30, 213, 218, 222, 231] [0] _ _ rfl rfl rfl)
      refine US_of 23 rfl rfl ?_
      refine AOps_alloc 31 _ _ (colD Col.zero) (zero_of Try.typeInfo29 rfl) (by rfl) rfl rfl rfl rfl ?_
      refine AOps_nil ?_
      exact AU_to (by kernel_rfl) hS52 (Weak_keep 0 hm [24, 25, 26, 30, 31, 213, 218, 222, 230] [0, 1] _ _ rfl rfl rfl)
     refine AU_cut 12 #[true, true, true, true, false, false, false, true, true, true, true, true, true, true, true, true, false, false, false, false, false, false, false, true, false, false] [(24, .ptr 0 0), (25, .d (.sl none (intsD r43.2))), (26, .d (.sl none (rowsD (r44.1.getD [])))), (30, iV x51), (31, .ptr 1 0), (213, .d (.agg (colD r43.1))), (216, .d (.pv (rowsD (r44.1.getD [])) x51.toNat)), (225, iV (((r44.1.getD []).getD x51.toNat []).getD (1 : Int).toNat 0)), (228, .d (.pv (rowsD (r44.1.getD [])) x51.toNat))] [.box (colD r43.1), .box (colD Col.zero)] ?_ (fun hS69 => ?_)
     ·refine AU_all [4, 16] (by kernel_rfl) rfl (allc ?_ (allc ?_ (fun _ h => nomatch h)))
      ·refine US_of 4 rfl rfl ?_
       refine AOps_q 217 _ rfl rfl rfl (QOp_load_pv _ _ _ _ _ rfl Try.isAgg24 rfl (rowsD_get _ _ [] (by omega))) ?_
       refine AOps_nil ?_
       refine AU_u 5 218 _ rfl (by kernel_rfl) rfl rfl rfl (UOp_indexAddr_sl _ _ _ _ _ _ _ _ rfl Try.underlying24 Try.sizeOf2 hc61.1 (by rw [intsD_length]; exact hc61.2) rfl rfl) ?_
       exact AU_to (by kernel_rfl) hS34 (Weak_keep 0 hm [24, 25, 26, 30, 31, 213, 218, 225, 228] [0, 1] _ _ rfl rfl rfl)
      refine US_of 16 rfl rfl ?_
      refine AOps_q 229 _ rfl rfl rfl (QOp_load_pv _ _ _ _ _ rfl Try.isAgg24 rfl (rowsD_get _ _ [] (by omega))) ?_
      refine AOps_nil ?_
      refine AU_u 17 230 _ rfl (by kernel_rfl) rfl rfl rfl (UOp_indexAddr_sl _ _ _ _ _ _ _ _ rfl Try.underlying24 Try.sizeOf2 hc63.1 (by rw [intsD_length]; exact hc63.2) rfl rfl) ?_
      exact AU_to (by kernel_rfl) hS38 (Weak_keep 0 hm [24, 25, 26, 30, 31, 213, 216, 225, 230] [0, 1] _ _ rfl rfl rfl)
     refine AU_cut 12 #[true, true, true, true, false, false, false, true, true, true, true, true, false, true, true, true, true, true, false, false, false, false, false, false, false, false] [(24, .ptr 0 0), (25, .d (.sl none (intsD r43.2))), (26, .d (.sl none (rowsD (r44.1.getD [])))), (30, iV x51), (213, .d (.agg (colD r43.1))), (216, .d (.pv (rowsD (r44.1.getD [])) x51.toNat)), (224, .d (.pv (intsD ((r44.1.getD []).getD x51.toNat [])) (1 : Int).toNat)), (230, .d (.pv (intsD ((r44.1.getD []).getD x51.toNat [])) (2 : Int).toNat))] [.box (colD r43.1)] ?_ (fun hS70 => ?_)
     ·refine AU_all [4, 12, 18, 23] (by kernel_rfl) rfl (allc ?_ (allc ?_ (allc ?_ (allc ?_ (fun _ h => nomatch h)))))
      ·refine US_of 4 rfl rfl ?_
       refine AOps_q 217 _ rfl rfl rfl (QOp_load_pv _ _ _ _ _ rfl Try.isAgg24 rfl (rowsD_get _ _ [] (by omega))) ?_
       refine AOps_nil ?_
       refine AU_u 5 218 _ rfl (by kernel_rfl) rfl rfl rfl (UOp_indexAddr_sl _ _ _ _ _ _ _ _ rfl Try.underlying24 Try.sizeOf2 hc61.1 (by rw [intsD_length]; exact hc61.2) rfl rfl) ?_
       exact AU_to (by kernel_rfl) hS35 (Weak_keep 0 hm [24, 25, 26, 30, 213, 218, 224, 230] [0] _ _ rfl rfl rfl)
      ·refine US_of 12 rfl rfl ?_
       refine AOps_q 225 _ rfl rfl rfl (QOp_load_pv _ _ _ _ _ rfl Try.isAgg2 rfl (intsD_get _ _ 0 (by omega))) ?_
       refine AOps_nil ?_
       exact AU_to (by kernel_rfl) hS53 (Weak_keep 0 hm [24, 25, 26, 30, 213, 216, 225, 230] [0] _ _ rfl rfl rfl)
      ·refine US_of 18 rfl rfl ?_
       refine AOps_q 231 _ rfl rfl rfl (QOp_load_pv _ _ _ _ _ rfl Try.isAgg2 rfl (intsD_get _ _ 0 (by omega))) ?_
       refine AOps_nil ?_
       exact AU_to (by kernel_rfl) hS54 (Weak_keep 0 hm [24, 25, 26, 30, 213, 216, 224, 231] [0] _ _ rfl rfl rfl)
      refine US_of 23 rfl rfl ?_
      refine AOps_alloc 31 _ _ (colD Col.zero) (zero_of Try.typeInfo29 rfl) (by rfl) rfl rfl rfl rfl ?_
      refine AOps_nil ?_
      exact AU_to (by kernel_rfl) hS55 (Weak_keep 0 hm [24, 25, 26, 30, 31, 213, 216, 224, 230] [0, 1] _ _ rfl rfl rfl)
     refine AU_cut 12 #[true, true, true, true, false, false, false, true, true, true, false, false, false, true, true, true, true, true, true, false, false, false, false, true, false, false] [(24, .ptr 0 0), (25, .d (.sl none (intsD r43.2))), (26, .d (.sl none (rowsD (r44.1.getD [])))), (30, iV x51), (31, .ptr 1 0), (213, .d (.agg (colD r43.1))), (216, .d (.pv (rowsD (r44.1.getD [])) x51.toNat)), (222, .d (.pv (rowsD (r44.1.getD [])) x51.toNat)), (231, iV (((r44.1.getD []).getD x51.toNat []).getD (2 : Int).toNat 0))] [.box (colD r43.1), .box (colD Col.zero)] ?_ (fun hS71 => ?_)
     ·refine AU_all [4, 10] (by kernel_rfl) rfl (allc ?_ (allc ?_ (fun _ h => nomatch h)))
      ·refine US_of 4 rfl rfl ?_
       refine AOps_q 217 _ rfl rfl rfl (QOp_load_pv _ _ _ _ _ rfl Try.isAgg24 rfl (rowsD_get _ _ [] (by omega))) ?_
       refine AOps_nil ?_
       refine AU_u 5 218 _ rfl (by kernel_rfl) rfl rfl rfl (UOp_indexAddr_sl _ _ _ _ _ _ _ _ rfl Try.underlying24 Try.sizeOf2 hc61.1 (by rw [intsD_length]; exact hc61.2) rfl rfl) ?_
       exact AU_to (by kernel_rfl) hS36 (Weak_keep 0 hm [24, 25, 26, 30, 31, 213, 218, 222, 231] [0, 1] _ _ rfl rfl rfl)
      refine US_of 10 rfl rfl ?_
      refine AOps_q 223 _ rfl rfl rfl (QOp_load_pv _ _ _ _ _ rfl Try.isAgg24 rfl (rowsD_get _ _ [] (by omega))) ?_
      refine AOps_nil ?_
      refine AU_u 11 224 _ rfl (by kernel_rfl) rfl rfl rfl (UOp_indexAddr_sl _ _ _ _ _ _ _ _ rfl Try.underlying24 Try.sizeOf2 hc62.1 (by rw [intsD_length]; exact hc62.2) rfl rfl) ?_
      exact AU_to (by kernel_rfl) hS39 (Weak_keep 0 hm [24, 25, 26, 30, 31, 213, 216, 224, 231] [0, 1] _ _ rfl rfl rfl)
     refine AU_cut 12 #[false, true, true, true, true, true, true, true, true, true, true, true, false, true, true, true, false, false, false, false, false, false, false, false, false, false] [(24, .ptr 0 0), (25, .d (.sl none (intsD r43.2))), (26, .d (.sl none (rowsD (r44.1.getD [])))), (30, iV x51), (219, iV (((r44.1.getD []).getD x51.toNat []).getD (0 : Int).toNat 0)), (224, .d (.pv (intsD ((r44.1.getD []).getD x51.toNat [])) (1 : Int).toNat)), (228, .d (.pv (rowsD (r44.1.getD [])) x51.toNat))] [.box (colD r43.1)] ?_ (fun hS72 => ?_)
     ·refine AU_all [0, 12, 16, 23] (by kernel_rfl) rfl (allc ?_ (allc ?_ (allc ?_ (allc ?_ (fun _ h => nomatch h)))))
      ·refine US_of 0 rfl rfl ?_
       refine AOps_q 213 _ rfl rfl rfl (QOp_loadN_ptr _ _ _ _ _ _ _ rfl Try.isAgg29 Try.sizeOf29 rfl rfl (colD_all _) (colD_length _)) ?_
       refine AOps_nil ?_
       exact AU_to (by kernel_rfl) hS47 (Weak_keep 0 hm [24, 25, 26, 30, 213, 219, 224, 228] [0] _ _ rfl rfl rfl)
      ·refine US_of 12 rfl rfl ?_
       refine AOps_q 225 _ rfl rfl rfl (QOp_load_pv _ _ _ _ _ rfl Try.isAgg2 rfl (intsD_get _ _ 0 (by omega))) ?_
       refine AOps_nil ?_
       exact AU_to (by kernel_rfl) hS56 (Weak_keep 0 hm [24, 25, 26, 30, 219, 225, 228] [0] _ _ rfl rfl rfl)
      ·refine US_of 16 rfl rfl ?_
       refine AOps_q 229 _ rfl rfl rfl (QOp_load_pv _ _ _ _ _ rfl Try.isAgg24 rfl (rowsD_get _ _ [] (by omega))) ?_
       refine AOps_nil ?_
       refine AU_u 17 230 _ rfl (by kernel_rfl) rfl rfl rfl (UOp_indexAddr_sl _ _ _ _ _ _ _ _ rfl Try.underlying24 Try.sizeOf2 hc63.1 (by rw [intsD_length]; exact hc63.2) rfl rfl) ?_
       exact AU_to (by kernel_rfl) hS41 (Weak_keep 0 hm [24, 25, 26, 30, 219, 224, 230] [0] _ _ rfl rfl rfl)
      refine US_of 23 rfl rfl ?_
      refine AOps_alloc 31 _ _ (colD Col.zero) (zero_of Try.typeInfo29 rfl) (by rfl) rfl rfl rfl rfl ?_
      refine AOps_nil ?_
      exact AU_to (by kernel_rfl) hS57 (Weak_keep 0 hm [24, 25, 26, 30, 31, 219, 224, 228] [0, 1] _ _ rfl rfl rfl)
     refine AU_cut 12 #[false, true, true, true, true, true, true, true, true, true, false, false, false, true, true, true, true, true, false, false, false, false, false, false, false, false] [(24, .ptr 0 0), (25, .d (.sl none (intsD r43.2))), (26, .d (.sl none (rowsD (r44.1.getD [])))), (30, iV x51), (219, iV (((r44.1.getD []).getD x51.toNat []).getD (0 : Int).toNat 0)), (222, .d (.pv (rowsD (r44.1.getD [])) x51.toNat)), (230, .d (.pv (intsD ((r44.1.getD []).getD x51.toNat [])) (2 : Int).toNat))] [.box (colD r43.1)] ?_ (fun hS73 => ?_)
     ·refine AU_all [0, 10, 18, 23] (by kernel_rfl) rfl (allc ?_ (allc ?_ (allc ?_ (allc ?_ (fun _ h => nomatch h)))))
      ·refine US_of 0 rfl rfl ?_
       refine AOps_q 213 _ rfl rfl rfl (QOp_loadN_ptr _ _ _ _ _ _ _ rfl Try.isAgg29 Try.sizeOf29 rfl rfl (colD_all _) (colD_length _)) ?_
       refine AOps_nil ?_
       exact AU_to (by kernel_rfl) hS48 (Weak_keep 0 hm [24, 25, 26, 30, 213, 219, 222, 230] [0] _ _ rfl rfl rfl)
      ·refine US_of 10 rfl rfl ?_
       refine AOps_q 223 _ rfl rfl rfl (QOp_load_pv _ _ _ _ _ rfl Try.isAgg24 rfl (rowsD_get _ _ [] (by omega))) ?_
       refine AOps_nil ?_
       refine AU_u 11 224 _ rfl (by kernel_rfl) rfl rfl rfl (UOp_indexAddr_sl _ _ _ _ _ _ _ _ rfl Try.underlying24 Try.sizeOf2 hc62.1 (by rw [intsD_length]; exact hc62.2) rfl rfl) ?_
       exact AU_to (by kernel_rfl) hS41 (Weak_keep 0 hm [24, 25, 26, 30, 219, 224, 230] [0] _ _ rfl rfl rfl)
      ·refine US_of 18 rfl rfl ?_
       refine AOps_q 231 _ rfl rfl rfl (QOp_load_pv _ _ _ _ _ rfl Try.isAgg2 rfl (intsD_get _ _ 0 (by omega))) ?_
       refine AOps_nil ?_
       exact AU_to (by kernel_rfl) hS58 (Weak_keep 0 hm [24, 25, 26, 30, 219, 222, 231] [0] _ _ rfl rfl rfl)
      refine US_of 23 rfl rfl ?_
      refine AOps_alloc 31 _ _ (colD Col.zero) (zero_of Try.typeInfo29 rfl) (by rfl) rfl rfl rfl rfl ?_
      refine AOps_nil ?_
      exact AU_to (by kernel_rfl) hS59 (Weak_keep 0 hm [24, 25, 26, 30, 31, 219, 222, 230] [0, 1] _ _ rfl rfl rfl)
     refine AU_cut 12 #[false, true, true, true, true, true, false, true, true, true, true, true, true, true, true, true, false, false, false, false, false, false, false, false, false, false] [(24, .ptr 0 0), (25, .d (.sl none (intsD r43.2))), (26, .d (.sl none (rowsD (r44.1.getD [])))), (30, iV x51), (218, .d (.pv (intsD ((r44.1.getD []).getD x51.toNat [])) (0 : Int).toNat)), (225, iV (((r44.1.getD []).getD x51.toNat []).getD (1 : Int).toNat 0)), (228, .d (.pv (rowsD (r44.1.getD [])) x51.toNat))] [.box (colD r43.1)] ?_ (fun hS74 => ?_)
     ·refine AU_all [0, 6, 16, 23] (by kernel_rfl) rfl (allc ?_ (allc ?_ (allc ?_ (allc ?_ (fun _ h => nomatch h)))))
      ·refine US_of 0 rfl rfl ?_
       refine AOps_q 213 _ rfl rfl rfl (QOp_loadN_ptr _ _ _ _ _ _ _ rfl Try.isAgg29 Try.sizeOf29 rfl rfl (colD_all _) (colD_length _)) ?_
       refine AOps_nil ?_
       exact AU_to (by kernel_rfl) hS49 (Weak_keep 0 hm [24, 25, 26, 30, 213, 218, 225, 228] [0] _ _ rfl rfl rfl)
      ·refine US_of 6 rfl rfl ?_
       refine AOps_q 219 _ rfl rfl rfl (QOp_load_pv _ _ _ _ _ rfl Try.isAgg2 rfl (intsD_get _ _ 0 (by omega))) ?_
       refine AOps_nil ?_
       exact AU_to (by kernel_rfl) hS56 (Weak_keep 0 hm [24, 25, 26, 30, 219, 225, 228] [0] _ _ rfl rfl rfl)
      ·refine US_of 16 rfl rfl ?_
       refine AOps_q 229 _ rfl rfl rfl (QOp_load_pv _ _ _ _ _ rfl Try.isAgg24 rfl (rowsD_get _ _ [] (by omega))) ?_
       refine AOps_nil ?_
       refine AU_u 17 230 _ rfl (by kernel_rfl) rfl rfl rfl (UOp_indexAddr_sl _ _ _ _ _ _ _ _ rfl Try.underlying24 Try.sizeOf2 hc63.1 (by rw [intsD_length]; exact hc63.2) rfl rfl) ?_
       exact AU_to (by kernel_rfl) hS43 (Weak_keep 0 hm [24, 25, 26, 30, 218, 225, 230] [0] _ _ rfl rfl rfl)
      refine US_of 23 rfl rfl ?_
      refine AOps_alloc 31 _ _ (colD Col.zero) (zero_of Try.typeInfo29 rfl) (by rfl) rfl rfl rfl rfl ?_
      refine AOps_nil ?_
      exact AU_to (by kernel_rfl) hS60 (Weak_keep 0 hm [24, 25, 26, 30, 31, 218, 225, 228] [0, 1] _ _ rfl rfl rfl)
     refine AU_cut 12 #[false, true, true, true, true, true, false, true, true, true, true, true, false, true, true, true, false, false, false, false, false, false, false, true, false, false] [(24, .ptr 0 0), (25, .d (.sl none (intsD r43.2))), (26, .d (.sl none (rowsD (r44.1.getD [])))), (30, iV x51), (31, .ptr 1 0), (218, .d (.pv (intsD ((r44.1.getD []).getD x51.toNat [])) (0 : Int).toNat)), (224, .d (.pv (intsD ((r44.1.getD []).getD x51.toNat [])) (1 : Int).toNat)), (228, .d (.pv (rowsD (r44.1.getD [])) x51.toNat))] [.box (colD r43.1), .box (colD Col.zero)] ?_ (fun hS75 => ?_)
     ·refine AU_all [0, 6, 12, 16] (by kernel_rfl) rfl (allc ?_ (allc ?_ (allc ?_ (allc ?_ (fun _ h => nomatch h)))))
      ·refine US_of 0 rfl rfl ?_
       refine AOps_q 213 _ rfl rfl rfl (QOp_loadN_ptr _ _ _ _ _ _ _ rfl Try.isAgg29 Try.sizeOf29 rfl rfl (colD_all _) (colD_length _)) ?_
       refine AOps_nil ?_
       exact AU_to (by kernel_rfl) hS50 (Weak_keep 0 hm [24, 25, 26, 30, 31, 213, 218, 224, 228] [0, 1] _ _ rfl rfl rfl)
      ·refine US_of 6 rfl rfl ?_
       refine AOps_q 219 _ rfl rfl rfl (QOp_load_pv _ _ _ _ _ rfl Try.isAgg2 rfl (intsD_get _ _ 0 (by omega))) ?_
       refine AOps_nil ?_
       exact AU_to (by kernel_rfl) hS57 (Weak_keep 0 hm [24, 25, 26, 30, 31, 219, 224, 228] [0, 1] _ _ rfl rfl rfl)
      ·refine US_of 12 rfl rfl ?_
       refine AOps_q 225 _ rfl rfl rfl (QOp_load_pv _ _ _ _ _ rfl Try.isAgg2 rfl (intsD_get _ _ 0 (by omega))) ?_
       refine AOps_nil ?_
       exact AU_to (by kernel_rfl) hS60 (Weak_keep 0 hm [24, 25, 26, 30, 31, 218, 225, 228] [0, 1] _ _ rfl rfl rfl)
      refine US_of 16 rfl rfl ?_
      refine AOps_q 229 _ rfl rfl rfl (QOp_load_pv _ _ _ _ _ rfl Try.isAgg24 rfl (rowsD_get _ _ [] (by omega))) ?_
      refine AOps_nil ?_
      refine AU_u 17 230 _ rfl (by kernel_rfl) rfl rfl rfl (UOp_indexAddr_sl _ _ _ _ _ _ _ _ rfl Try.underlying24 Try.sizeOf2 hc63.1 (by rw [intsD_length]; exact hc63.2) rfl rfl) ?_
      exact AU_to (by kernel_rfl) hS45 (Weak_keep 0 hm [24, 25, 26, 30, 31, 218, 224, 230] [0, 1] _ _ rfl rfl rfl)
     refine AU_cut 12 #[false, true, true, true, true, true, false, true, true, true, false, false, false, true, true, true, true, true, true, false, false, false, false, false, false, false] [(24, .ptr 0 0), (25, .d (.sl none (intsD r43.2))), (26, .d (.sl none (rowsD (r44.1.getD [])))), (30, iV x51), (218, .d (.pv (intsD ((r44.1.getD []).getD x51.toNat [])) (0 : Int).toNat)), (222, .d (.pv (rowsD (r44.1.getD [])) x51.toNat)), (231, iV (((r44.1.getD []).getD x51.toNat []).getD (2 : Int).toNat 0))] [.box (colD r43.1)] ?_ (fun hS76 => ?_)
     ·refine AU_all [0, 6, 10, 23] (by kernel_rfl) rfl (allc ?_ (allc ?_ (allc ?_ (allc ?_ (fun _ h => nomatch h)))))
      ·refine US_of 0 rfl rfl ?_
       refine AOps_q 213 _ rfl rfl rfl (QOp_loadN_ptr _ _ _ _ _ _ _ rfl Try.isAgg29 Try.sizeOf29 rfl rfl (colD_all _) (colD_length _)) ?_
       refine AOps_nil ?_
       exact AU_to (by kernel_rfl) hS51 (Weak_keep 0 hm [24, 25, 26, 30, 213, 218, 222, 231] [0] _ _ rfl rfl rfl)
      ·refine US_of 6 rfl rfl ?_
       refine AOps_q 219 _ rfl rfl rfl (QOp_load_pv _ _ _ _ _ rfl Try.isAgg2 rfl (intsD_get _ _ 0 (by omega))) ?_
       refine AOps_nil ?_
       exact AU_to (by kernel_rfl) hS58 (Weak_keep 0 hm [24, 25, 26, 30, 219, 222, 231] [0] _ _ rfl rfl rfl)
      ·refine US_of 10 rfl rfl ?_
       refine AOps_q 223 _ rfl rfl rfl (QOp_load_pv _ _ _ _ _ rfl Try.isAgg24 rfl (rowsD_get _ _ [] (by omega))) ?_
       refine AOps_nil ?_
       refine AU_u 11 224 _ rfl (by kernel_rfl) rfl rfl rfl (UOp_indexAddr_sl _ _ _ _ _ _ _ _ rfl Try.underlying24 Try.sizeOf2 hc62.1 (by rw [intsD_length]; exact hc62.2) rfl rfl) ?_
       exact AU_to (by kernel_rfl) hS44 (Weak_keep 0 hm [24, 25, 26, 30, 218, 224, 231] [0] _ _ rfl rfl rfl)
      refine US_of 23 rfl rfl ?_
      refine AOps_alloc 31 _ _ (colD Col.zero) (zero_of Try.typeInfo29 rfl) (by rfl) rfl rfl rfl rfl ?_
      refine AOps_nil ?_
      exact AU_to (by kernel_rfl) hS62 (Weak_keep 0 hm [24, 25, 26, 30, 31, 218, 222, 231] [0, 1] _ _ rfl rfl rfl)
     refine AU_cut 12 #[false, true, true, true, true, true, false, true, true, true, false, false, false, true, true, true, true, true, false, false, false, false, false, true, false, false] [(24, .ptr 0 0), (25, .d (.sl none (intsD r43.2))), (26, .d (.sl none (rowsD (r44.1.getD [])))), (30, iV x51), (31, .ptr 1 0), (218, .d (.pv (intsD ((r44.1.getD []).getD x51.toNat [])) (0 : Int).toNat)), (222, .d (.pv (rowsD (r44.1.getD [])) x51.toNat)), (230, .d (.pv (intsD ((r44.1.getD []).getD x51.toNat [])) (2 : Int).toNat))] [.box (colD r43.1), .box (colD Col.zero)] ?_ (fun hS77 => ?_)
     ·refine AU_all [0, 6, 10, 18] (by kernel_rfl) rfl (allc ?_ (allc ?_ (allc ?_ (allc ?_ (fun _ h => nomatch h)))))
      ·refine US_of 0 rfl rfl ?_
       refine AOps_q 213 _ rfl rfl rfl (QOp_loadN_ptr _ _ _ _ _ _ _ rfl Try.isAgg29 Try.sizeOf29 rfl rfl (colD_all _) (colD_length _)) ?_
       refine AOps_nil ?_
       exact AU_to (by kernel_rfl) hS52 (Weak_keep 0 hm [24, 25, 26, 30, 31, 213, 218, 222, 230] [0, 1] _ _ rfl rfl rfl)
      ·refine US_of 6 rfl rfl ?_
       refine AOps_q 219 _ rfl rfl rfl (QOp_load_pv _ _ _ _ _ rfl Try.isAgg2 rfl (intsD_get _ _ 0 (by omega))) ?_
       refine AOps_nil ?_
       exact AU_to (by kernel_rfl) hS59 (Weak_keep 0 hm [24, 25, 26, 30, 31, 219, 222, 230] [0, 1] _ _ rfl rfl rfl)
      ·refine US_of 10 rfl rfl ?_
       refine AOps_q 223 _ rfl rfl rfl (QOp_load_pv _ _ _ _ _ rfl Try.isAgg24 rfl (rowsD_get _ _ [] (by omega))) ?_
       refine AOps_nil ?_
       refine AU_u 11 224 _ rfl (by kernel_rfl) rfl rfl rfl (UOp_indexAddr_sl _ _ _ _ _ _ _ _ rfl Try.underlying24 Try.sizeOf2 hc62.1 (by rw [intsD_length]; exact hc62.2) rfl rfl) ?_
       exact AU_to (by kernel_rfl) hS45 (Weak_keep 0 hm [24, 25, 26, 30, 31, 218, 224, 230] [0, 1] _ _ rfl rfl rfl)
      refine US_of 18 rfl rfl ?_
      refine AOps_q 231 _ rfl rfl rfl (QOp_load_pv _ _ _ _ _ rfl Try.isAgg2 rfl (intsD_get _ _ 0 (by omega))) ?_
      refine AOps_nil ?_
      exact AU_to (by kernel_rfl) hS62 (Weak_keep 0 hm [24, 25, 26, 30, 31, 218, 222, 231] [0, 1] _ _ rfl rfl rfl)
     refine AU_cut 12 #[false, true, true, true, false, false, false, true, true, true, true, true, true, true, true, true, true, true, false, false, false, false, false, false, false, false] [(24, .ptr 0 0), (25, .d (.sl none (intsD r43.2))), (26, .d (.sl none (rowsD (r44.1.getD [])))), (30, iV x51), (216, .d (.pv (rowsD (r44.1.getD [])) x51.toNat)), (225, iV (((r44.1.getD []).getD x51.toNat []).getD (1 : Int).toNat 0)), (230, .d (.pv (intsD ((r44.1.getD []).getD x51.toNat [])) (2 : Int).toNat))] [.box (colD r43.1)] ?_ (fun hS78 => ?_)
     ·refine AU_all [0, 4, 18, 23] (by kernel_rfl) rfl (allc ?_ (allc ?_ (allc ?_ (allc ?_ (fun _ h => nomatch h)))))
      ·refine US_of 0 rfl rfl ?_
       refine AOps_q 213 _ rfl rfl rfl (QOp_loadN_ptr _ _ _ _ _ _ _ rfl Try.isAgg29 Try.sizeOf29 rfl rfl (colD_all _) (colD_length _)) ?_
       refine AOps_nil ?_
       exact AU_to (by kernel_rfl) hS53 (Weak_keep 0 hm [24, 25, 26, 30, 213, 216, 225, 230] [0] _ _ rfl rfl rfl)
      ·refine US_of 4 rfl rfl ?_
       refine AOps_q 217 _ rfl rfl rfl (QOp_load_pv _ _ _ _ _ rfl Try.isAgg24 rfl (rowsD_get _ _ [] (by omega))) ?_
       refine AOps_nil ?_
       refine AU_u 5 218 _ rfl (by kernel_rfl) rfl rfl rfl (UOp_indexAddr_sl _ _ _ _ _ _ _ _ rfl Try.underlying24 Try.sizeOf2 hc61.1 (by rw [intsD_length]; exact hc61.2) rfl rfl) ?_
       exact AU_to (by kernel_rfl) hS43 (Weak_keep 0 hm [24, 25, 26, 30, 218, 225, 230] [0] _ _ rfl rfl rfl)
      ·refine US_of 18 rfl rfl ?_
       refine AOps_q 231 _ rfl rfl rfl (QOp_load_pv _ _ _ _ _ rfl Try.isAgg2 rfl (intsD_get _ _ 0 (by omega))) ?_
       refine AOps_nil ?_
       exact AU_to (by kernel_rfl) hS63 (Weak_keep 0 hm [24, 25, 26, 30, 216, 225, 231] [0] _ _ rfl rfl rfl)
      refine US_of 23 rfl rfl ?_
      refine AOps_alloc 31 _ _ (colD Col.zero) (zero_of Try.typeInfo29 rfl) (by rfl) rfl rfl rfl rfl ?_
      refine AOps_nil ?_
      exact AU_to (by kernel_rfl) hS64 (Weak_keep 0 hm [24, 25, 26, 30, 31, 216, 225, 230] [0, 1] _ _ rfl rfl rfl)
     refine AU_cut 12 #[false, true, true, true, false, false, false, true, true, true, true, true, false, true, true, true, true, true, true, false, false, false, false, false, false, false] [(24, .ptr 0 0), (25, .d (.sl none (intsD r43.2))), (26, .d (.sl none (rowsD (r44.1.getD [])))), (30, iV x51), (216, .d (.pv (rowsD (r44.1.getD [])) x51.toNat)), (224, .d (.pv (intsD ((r44.1.getD []).getD x51.toNat [])) (1 : Int).toNat)), (231, iV (((r44.1.getD []).getD x51.toNat []).getD (2 : Int).toNat 0))] [.box (colD r43.1)] ?_ (fun hS79 => ?_)
     ·refine AU_all [0, 4, 12, 23] (by kernel_rfl) rfl (allc ?_ (allc ?_ (allc ?_ (allc ?_ (fun _ h => nomatch h)))))
      ·refine US_of 0 rfl rfl ?_
       refine AOps_q 213 _ rfl rfl rfl (QOp_loadN_ptr _ _ _ _ _ _ _ rfl Try.isAgg29 Try.sizeOf29 rfl rfl (colD_all _) (colD_length _)) ?_
       refine AOps_nil ?_
       exact AU_to (by kernel_rfl) hS54 (Weak_keep 0 hm [24, 25, 26, 30, 213, 216, 224, 231] [0] _ _ rfl rfl rfl)
      ·refine US_of 4 rfl rfl ?_
       refine AOps_q 217 _ rfl rfl rfl (QOp_load_pv _ _ _ _ _ rfl Try.isAgg24 rfl (rowsD_get _ _ [] (by omega))) ?_
       refine AOps_nil ?_
       refine AU_u 5 218 _ rfl (by kernel_rfl) rfl rfl rfl (UOp_indexAddr_sl _ _ _ _ _ _ _ _ rfl Try.underlying24 Try.sizeOf2 hc61.1 (by rw [intsD_length]; exact hc61.2) rfl rfl) ?_
       exact AU_to (by kernel_rfl) hS44 (Weak_keep 0 hm [24, 25, 26, 30, 218, 224, 231] [0] _ _ rfl rfl rfl)
      ·refine US_of 12 rfl rfl ?_
       refine AOps_q 225 _ rfl rfl rfl (QOp_load_pv _ _ _ _ _ rfl Try.isAgg2 rfl (intsD_get _ _ 0 (by omega))) ?_
       refine AOps_nil ?_
       exact AU_to (by kernel_rfl) hS63 (Weak_keep 0 hm [24, 25, 26, 30, 216, 225, 231] [0] _ _ rfl rfl rfl)
      refine US_of 23 rfl rfl ?_
      refine AOps_alloc 31 _ _ (colD Col.zero) (zero_of Try.typeInfo29 rfl) (by rfl) rfl rfl rfl rfl ?_
      refine AOps_nil ?_
      exact AU_to (by kernel_rfl) hS65 (Weak_keep 0 hm [24, 25, 26, 30, 31, 216, 224, 231] [0, 1] _ _ rfl rfl rfl)
     refine AU_cut 12 #[false, true, true, true, false, false, false, true, true, true, true, true, false, true, true, true, true, true, false, false, false, false, false, true, false, false] [(24, .ptr 0 0), (25, .d (.sl none (intsD r43.2))), (26, .d (.sl none (rowsD (r44.1.getD [])))), (30, iV x51), (31, .ptr 1 0), (216, .d (.pv (rowsD (r44.1.getD [])) x51.toNat)), (224, .d (.pv (intsD ((r44.1.getD []).getD x51.toNat [])) (1 : Int).toNat)), (230, .d (.pv (intsD ((r44.1.getD []).getD x51.toNat [])) (2 : Int).toNat))] [.box (colD r43.1), .box (colD Col.zero)] ?_ (fun hS80 => ?_)
     ·refine AU_all [0, 4, 12, 18] (by kernel_rfl) rfl (allc ?_ (allc ?_ (allc ?_ (allc ?_ (fun _ h => nomatch h)))))
      ·refine US_of 0 rfl rfl ?_
       refine AOps_q 213 _ rfl rfl rfl (QOp_loadN_ptr _ _ _ _ _ _ _ rfl Try.isAgg29 Try.sizeOf29 rfl rfl (colD_all _) (colD_length _)) ?_
       refine AOps_nil ?_
       exact AU_to (by kernel_rfl) hS55 (Weak_keep 0 hm [24, 25, 26, 30, 31, 213, 216, 224, 230] [0, 1] _ _ rfl rfl rfl)
      ·refine US_of 4 rfl rfl ?_
       refine AOps_q 217 _ rfl rfl rfl (QOp_load_pv _ _ _ _ _ rfl Try.isAgg24 rfl (rowsD_get _ _ [] (by omega))) ?_
       refine AOps_nil ?_
       refine AU_u 5 218 _ rfl (by kernel_rfl) rfl rfl rfl (UOp_indexAddr_sl _ _ _ _ _ _ _ _ rfl Try.underlying24 Try.sizeOf2 hc61.1 (by rw [intsD_length]; exact hc61.2) rfl rfl) ?_
       exact AU_to (by kernel_rfl) hS45 (Weak_keep 0 hm [24, 25, 26, 30, 31, 218, 224, 230] [0, 1] _ _ rfl rfl rfl)
      ·refine US_of 12 rfl rfl ?_
       refine AOps_q 225 _ rfl rfl rfl (QOp_load_pv _ _ _ _ _ rfl Try.isAgg2 rfl (intsD_get _ _ 0 (by omega))) ?_
       refine AOps_nil ?_
       exact AU_to (by kernel_rfl) hS64 (Weak_keep 0 hm [24, 25, 26, 30, 31, 216, 225, 230] [0, 1] _ _ rfl rfl rfl)
      refine US_of 18 rfl rfl ?_
      refine AOps_q 231 _ rfl rfl rfl (QOp_load_pv _ _ _ _ _ rfl Try.isAgg2 rfl (intsD_get _ _ 0 (by omega))) ?_
      refine AOps_nil ?_
      exact AU_to (by kernel_rfl) hS65 (Weak_keep 0 hm [24, 25, 26, 30, 31, 216, 224, 231] [0, 1] _ _ rfl rfl rfl)
     refine AU_cut 13 #[true, true, true, true, true, true, true, true, true, true, false, false, false, true, true, true, false, false, false, false, false, false, false, false, false, false] [(24, .ptr 0 0), (25, .d (.sl none (intsD r43.2))), (26, .d (.sl none (rowsD (r44.1.getD [])))), (30, iV x51), (213, .d (.agg (colD r43.1))), (219, iV (((r44.1.getD []).getD x51.toNat []).getD (0 : Int).toNat 0)), (222, .d (.pv (rowsD (r44.1.getD [])) x51.toNat)), (228, .d (.pv (rowsD (r44.1.getD [])) x51.toNat))] [.box (colD r43.1)] ?_ (fun hS81 => ?_)
     ·refine AU_all [10, 16, 23] (by kernel_rfl) rfl (allc ?_ (allc ?_ (allc ?_ (fun _ h => nomatch h))))
      ·refine US_of 10 rfl rfl ?_
       refine AOps_q 223 _ rfl rfl rfl (QOp_load_pv _ _ _ _ _ rfl Try.isAgg24 rfl (rowsD_get _ _ [] (by omega))) ?_
       refine AOps_nil ?_
       refine AU_u 11 224 _ rfl (by kernel_rfl) rfl rfl rfl (UOp_indexAddr_sl _ _ _ _ _ _ _ _ rfl Try.underlying24 Try.sizeOf2 hc62.1 (by rw [intsD_length]; exact hc62.2) rfl rfl) ?_
       exact AU_to (by kernel_rfl) hS47 (Weak_keep 0 hm [24, 25, 26, 30, 213, 219, 224, 228] [0] _ _ rfl rfl rfl)
      ·refine US_of 16 rfl rfl ?_
       refine AOps_q 229 _ rfl rfl rfl (QOp_load_pv _ _ _ _ _ rfl Try.isAgg24 rfl (rowsD_get _ _ [] (by omega))) ?_
       refine AOps_nil ?_
       refine AU_u 17 230 _ rfl (by kernel_rfl) rfl rfl rfl (UOp_indexAddr_sl _ _ _ _ _ _ _ _ rfl Try.underlying24 Try.sizeOf2 hc63.1 (by rw [intsD_length]; exact hc63.2) rfl rfl) ?_
       exact AU_to (by kernel_rfl) hS48 (Weak_keep 0 hm [24, 25, 26, 30, 213, 219, 222, 230] [0] _ _ rfl rfl rfl)
      refine US_of 23 rfl rfl ?_
      refine AOps_alloc 31 _ _ (colD Col.zero) (zero_of Try.typeInfo29 rfl) (by rfl) rfl rfl rfl rfl ?_
      refine AOps_nil ?_
      exact AU_to (by kernel_rfl) hS66 (Weak_keep 0 hm [24, 25, 26, 30, 31, 213, 219, 222, 228] [0, 1] _ _ rfl rfl rfl)
     refine AU_cut 13 #[true, true, true, true, true, true, false, true, true, true, false, false, false, true, true, true, false, false, false, false, false, false, false, true, false, false] [(24, .ptr 0 0), (25, .d (.sl none (intsD r43.2))), (26, .d (.sl none (rowsD (r44.1.getD [])))), (30, iV x51), (31, .ptr 1 0), (213, .d (.agg (colD r43.1))), (218, .d (.pv (intsD ((r44.1.getD []).getD x51.toNat [])) (0 : Int).toNat)), (222, .d (.pv (rowsD (r44.1.getD [])) x51.toNat)), (228, .d (.pv (rowsD (r44.1.getD [])) x51.toNat))] [.box (colD r43.1), .box (colD Col.zero)] ?_ (fun hS82 => ?_)
     ·refine AU_all [6, 10, 16] (by kernel_rfl) rfl (allc ?_ (allc ?_ (allc ?_ (fun _ h => nomatch h))))
      ·refine US_of 6 rfl rfl ?_
       refine AOps_q 219 _ rfl rfl rfl (QOp_load_pv _ _ _ _ _ rfl Try.isAgg2 rfl (intsD_get _ _ 0 (by omega))) ?_
       refine AOps_nil ?_
       exact AU_to (by kernel_rfl) hS66 (Weak_keep 0 hm [24, 25, 26, 30, 31, 213, 219, 222, 228] [0, 1] _ _ rfl rfl rfl)
      ·refine US_of 10 rfl rfl ?_
       refine AOps_q 223 _ rfl rfl rfl (QOp_load_pv _ _ _ _ _ rfl Try.isAgg24 rfl (rowsD_get _ _ [] (by omega))) ?_
       refine AOps_nil ?_
       refine AU_u 11 224 _ rfl (by kernel_rfl) rfl rfl rfl (UOp_indexAddr_sl _ _ _ _ _ _ _ _ rfl Try.underlying24 Try.sizeOf2 hc62.1 (by rw [intsD_length]; exact hc62.2) rfl rfl) ?_
       exact AU_to (by kernel_rfl) hS50 (Weak_keep 0 hm [24, 25, 26, 30, 31, 213, 218, 224, 228] [0, 1] _ _ rfl rfl rfl)
      refine US_of 16 rfl rfl ?_
      refine AOps_q 229 _ rfl rfl rfl (QOp_load_pv _ _ _ _ _ rfl Try.isAgg24 rfl (rowsD_get _ _ [] (by omega))) ?_
      refine AOps_nil ?_
      refine AU_u 17 230 _ rfl (by kernel_rfl) rfl rfl rfl (UOp_indexAddr_sl _ _ _ _ _ _ _ _ rfl Try.underlying24 Try.sizeOf2 hc63.1 (by rw [intsD_length]; exact hc63.2) rfl rfl) ?_
      exact AU_to (by kernel_rfl) hS52 (Weak_keep 0 hm [24, 25, 26, 30, 31, 213, 218, 222, 230] [0, 1] _ _ rfl rfl rfl)
     refine AU_cut 13 #[true, true, true, true, false, false, false, true, true, true, true, true, true, true, true, true, false, false, false, false, false, false, false, false, false, false] [(24, .ptr 0 0), (25, .d (.sl none (intsD r43.2))), (26, .d (.sl none (rowsD (r44.1.getD [])))), (30, iV x51), (213, .d (.agg (colD r43.1))), (216, .d (.pv (rowsD (r44.1.getD [])) x51.toNat)), (225, iV (((r44.1.getD []).getD x51.toNat []).getD (1 : Int).toNat 0)), (228, .d (.pv (rowsD (r44.1.getD [])) x51.toNat))] [.box (colD r43.1)] ?_ (fun hS83 => ?_)
     ·refine AU_all [4, 16, 23] (by kernel_rfl) rfl (allc ?_ (allc ?_ (allc ?_ (fun _ h => nomatch h))))
      ·refine US_of 4 rfl rfl ?_
       refine AOps_q 217 _ rfl rfl rfl (QOp_load_pv _ _ _ _ _ rfl Try.isAgg24 rfl (rowsD_get _ _ [] (by omega))) ?_
       refine AOps_nil ?_
       refine AU_u 5 218 _ rfl (by kernel_rfl) rfl rfl rfl (UOp_indexAddr_sl _ _ _ _ _ _ _ _ rfl Try.underlying24 Try.sizeOf2 hc61.1 (by rw [intsD_length]; exact hc61.2) rfl rfl) ?_
       exact AU_to (by kernel_rfl) hS49 (Weak_keep 0 hm [24, 25, 26, 30, 213, 218, 225, 228] [0] _ _ rfl rfl rfl)
      ·refine US_of 16 rfl rfl ?_
       refine AOps_q 229 _ rfl rfl rfl (QOp_load_pv _ _ _ _ _ rfl Try.isAgg24 rfl (rowsD_get _ _ [] (by omega))) ?_
       refine AOps_nil ?_
       refine AU_u 17 230 _ rfl (by kernel_rfl) rfl rfl rfl (UOp_indexAddr_sl _ _ _ _ _ _ _ _ rfl Try.underlying24 Try.sizeOf2 hc63.1 (by rw [intsD_length]; exact hc63.2) rfl rfl) ?_
       exact AU_to (by kernel_rfl) hS53 (Weak_keep 0 hm [24, 25, 26, 30, 213, 216, 225, 230] [0] _ _ rfl rfl rfl)
      refine US_of 23 rfl rfl ?_
      refine AOps_alloc 31 _ _ (colD Col.zero) (zero_of Try.typeInfo29 rfl) (by rfl) rfl rfl rfl rfl ?_
      refine AOps_nil ?_
      exact AU_to (by kernel_rfl) hS69 (Weak_keep 0 hm [24, 25, 26, 30, 31, 213, 216, 225, 228] [0, 1] _ _ rfl rfl rfl)
     refine AU_cut 13 #[true, true, true, true, false, false, false, true, true, true, true, true, false, true, true, true, false, false, false, false, false, false, false, true, false, false] [(24, .ptr 0 0), (25, .d (.sl none (intsD r43.2))), (26, .d (.sl none (rowsD (r44.1.getD [])))), (30, iV x51), (31, .ptr 1 0), (213, .d (.agg (colD r43.1))), (216, .d (.pv (rowsD (r44.1.getD [])) x51.toNat)), (224, .d (.pv (intsD ((r44.1.getD []).getD x51.toNat [])) (1 : Int).toNat)), (228, .d (.pv (rowsD (r44.1.getD [])) x51.toNat))] [.box (colD r43.1), .box (colD Col.zero)] ?_ (fun hS84 => ?_)
     ·refine AU_all [4, 12, 16] (by kernel_rfl) rfl (allc ?_ (allc ?_ (allc ?_ (fun _ h => nomatch h))))
      ·refine US_of 4 rfl rfl ?_
       refine AOps_q 217 _ rfl rfl rfl (QOp_load_pv _ _ _ _ _ rfl Try.isAgg24 rfl (rowsD_get _ _ [] (by omega))) ?_
       refine AOps_nil ?_
       refine AU_u 5 218 _ rfl (by kernel_rfl) rfl rfl rfl (UOp_indexAddr_sl _ _ _ _ _ _ _ _ rfl Try.underlying24 Try.sizeOf2 hc61.1 (by rw [intsD_length]; exact hc61.2) rfl rfl) ?_
       exact AU_to (by kernel_rfl) hS50 (Weak_keep 0 hm [24, 25, 26, 30, 31, 213, 218, 224, 228] [0, 1] _ _ rfl rfl rfl)
      ·refine US_of 12 rfl rfl ?_
       refine AOps_q 225 _ rfl rfl rfl (QOp_load_pv _ _ _ _ _ rfl Try.isAgg2 rfl (intsD_get _ _ 0 (by omega))) ?_
       refine AOps_nil ?_
       exact AU_to (by kernel_rfl) hS69 (Weak_keep 0 hm [24, 25, 26, 30, 31, 213, 216, 225, 228] [0, 1] _ _ rfl rfl rfl)
      refine US_of 16 rfl rfl ?_
      refine AOps_q 229 _ rfl rfl rfl (QOp_load_pv _ _ _ _ _ rfl Try.isAgg24 rfl (rowsD_get _ _ [] (by omega))) ?_
      refine AOps_nil ?_
      refine AU_u 17 230 _ rfl (by kernel_rfl) rfl rfl rfl (UOp_indexAddr_sl _ _ _ _ _ _ _ _ rfl Try.underlying24 Try.sizeOf2 hc63.1 (by rw [intsD_length]; exact hc63.2) rfl rfl) ?_
      exact AU_to (by kernel_rfl) hS55 (Weak_keep 0 hm [24, 25, 26, 30, 31, 213, 216, 224, 230] [0, 1] _ _ rfl rfl rfl)
     refine AU_cut 13 #[true, true, true, true, false, false, false, true, true, true, false, false, false, true, true, true, true, true, true, false, false, false, false, false, false, false] [(24, .ptr 0 0), (25, .d (.sl none (intsD r43.2))), (26, .d (.sl none (rowsD (r44.1.getD [])))), (30, iV x51), (213, .d (.agg (colD r43.1))), (216, .d (.pv (rowsD (r44.1.getD [])) x51.toNat)), (222, .d (.pv (rowsD (r44.1.getD [])) x51.toNat)), (231, iV (((r44.1.getD []).getD x51.toNat []).getD (2 : Int).toNat 0))] [.box (colD r43.1)] ?_ (fun hS85 => ?_)
     ·refine AU_all [4, 10, 23] (by kernel_rfl) rfl (allc ?_ (allc ?_ (allc ?_ (fun _ h => nomatch h))))
      ·refine US_of 4 rfl rfl ?_
       refine AOps_q 217 _ rfl rfl rfl (QOp_load_pv _ _ _ _ _ rfl Try.isAgg24 rfl (rowsD_get _ _ [] (by omega))) ?_
       refine AOps_nil ?_
       refine AU_u 5 218 _ rfl (by kernel_rfl) rfl rfl rfl (UOp_indexAddr_sl _ _ _ _ _ _ _ _ rfl Try.underlying24 Try.sizeOf2 hc61.1 (by rw [intsD_length]; exact hc61.2) rfl rfl) ?_
       exact AU_to (by kernel_rfl) hS51 (Weak_keep 0 hm [24, 25, 26, 30, 213, 218, 222, 231] [0] _ _ rfl rfl rfl)
      ·refine US_of 10 rfl rfl ?_
       refine AOps_q 223 _ rfl rfl rfl (QOp_load_pv _ _ _ _ _ rfl Try.isAgg24 rfl (rowsD_get _ _ [] (by omega))) ?_
       refine AOps_nil ?_
       refine AU_u 11 224 _ rfl (by kernel_rfl) rfl rfl rfl (UOp_indexAddr_sl _ _ _ _ _ _ _ _ rfl Try.underlying24 Try.sizeOf2 hc62.1 (by rw [intsD_length]; exact hc62.2) rfl rfl) ?_
       exact AU_to (by kernel_rfl) hS54 (Weak_keep 0 hm [24, 25, 26, 30, 213, 216, 224, 231] [0] _ _ rfl rfl rfl)
      refine US_of 23 rfl rfl ?_
      refine AOps_alloc 31 _ _ (colD Col.zero) (zero_of Try.typeInfo29 rfl) (by rfl) rfl rfl rfl rfl ?_
      refine AOps_nil ?_
      exact AU_to (by kernel_rfl) hS71 (Weak_keep 0 hm [24, 25, 26, 30, 31, 213, 216, 222, 231] [0, 1] _ _ rfl rfl rfl)
     refine AU_cut 13 #[true, true, true, true, false, false, false, true, true, true, false, false, false, true, true, true, true, true, false, false, false, false, false, true, false, false] [(24, .ptr 0 0), (25, .d (.sl none (intsD r43.2))), (26, .d (.sl none (rowsD (r44.1.getD [])))), (30, iV x51), (31, .ptr 1 0), (213, .d (.agg (colD r43.1))), (216, .d (.pv (rowsD (r44.1.getD [])) x51.toNat)), (222, .d (.pv (rowsD (r44.1.getD [])) x51.toNat)), (230, .d (.pv (intsD ((r44.1.getD []).getD x51.toNat [])) (2 : Int).toNat))] [.box (colD r43.1), .box (colD Col.zero)] ?_ (fun hS86 => ?_)
     ·refine AU_all [4, 10, 18] (by kernel_rfl) rfl (allc ?_ (allc ?_ (allc ?_ (fun _ h => nomatch h))))
      ·refine US_of 4 rfl rfl ?_
       refine AOps_q 217 _ rfl rfl rfl (QOp_load_pv _ _ _ _ _ rfl Try.isAgg24 rfl (rowsD_get _ _ [] (by omega))) ?_
       refine AOps_nil ?_
       refine AU_u 5 218 _ rfl (by kernel_rfl) rfl rfl rfl (UOp_indexAddr_sl _ _ _ _ _ _ _ _ rfl Try.underlying24 Try.sizeOf2 hc61.1 (by rw [intsD_length]; exact hc61.2) rfl rfl) ?_
       exact AU_to (by kernel_rfl) hS52 (Weak_keep 0 hm [24, 25, 26, 30, 31, 213, 218, 222, 230] [0, 1] _ _ rfl rfl rfl)
      ·refine US_of 10 rfl rfl ?_
       refine AOps_q 223 _ rfl rfl rfl (QOp_load_pv _ _ _ _ _ rfl Try.isAgg24 rfl (rowsD_get _ _ [] (by omega))) ?_
       refine AOps_nil ?_
       refine AU_u 11 224 _ rfl (by kernel_rfl) rfl rfl rfl (UOp_indexAddr_sl _ _ _ _ _ _ _ _ rfl Try.underlying24 Try.sizeOf2 hc62.1 (by rw [intsD_length]; exact hc62.2) rfl rfl) ?_
       exact AU_to (by kernel_rfl) hS55 (Weak_keep 0 hm [24, 25, 26, 30, 31, 213, 216, 224, 230] [0, 1] _ _ rfl rfl rfl)
      refine US_of 18 rfl rfl ?_
      refine AOps_q 231 _ rfl rfl rfl (QOp_load_pv _ _ _ _ _ rfl Try.isAgg2 rfl (intsD_get _ _ 0 (by omega))) ?_
      refine AOps_nil ?_
      exact AU_to (by kernel_rfl) hS71 (Weak_keep 0 hm [24, 25, 26, 30, 31, 213, 216, 222, 231] [0, 1] _ _ rfl rfl rfl)
     refine AU_cut 13 #[false, true, true, true, true, true, true, true, true, true, false, false, false, true, true, true, false, false, false, false, false, false, false, true, false, false] [(24, .ptr 0 0), (25, .d (.sl none (intsD r43.2))), (26, .d (.sl none (rowsD (r44.1.getD [])))), (30, iV x51), (31, .ptr 1 0), (219, iV (((r44.1.getD []).getD x51.toNat []).getD (0 : Int).toNat 0)), (222, .d (.pv (rowsD (r44.1.getD [])) x51.toNat)), (228, .d (.pv (rowsD (r44.1.getD [])) x51.toNat))] [.box (colD r43.1), .box (colD Col.zero)] ?_ (fun hS87 => ?_)
     ·refine AU_all [0, 10, 16] (by kernel_rfl) rfl (allc ?_ (allc ?_ (allc ?_ (fun _ h => nomatch h))))
      ·refine US_of 0 rfl rfl ?_
       refine AOps_q 213 _ rfl rfl rfl (QOp_loadN_ptr _ _ _ _ _ _ _ rfl Try.isAgg29 Try.sizeOf29 rfl rfl (colD_all _) (colD_length _)) ?_
       refine AOps_nil ?_
       exact AU_to (by kernel_rfl) hS66 (Weak_keep 0 hm [24, 25, 26, 30, 31, 213, 219, 222, 228] [0, 1] _ _ rfl rfl rfl)
      ·refine US_of 10 rfl rfl ?_
       refine AOps_q 223 _ rfl rfl rfl (QOp_load_pv _ _ _ _ _ rfl Try.isAgg24 rfl (rowsD_get _ _ [] (by omega))) ?_
       refine AOps_nil ?_
       refine AU_u 11 224 _ rfl (by kernel_rfl) rfl rfl rfl (UOp_indexAddr_sl _ _ _ _ _ _ _ _ rfl Try.underlying24 Try.sizeOf2 hc62.1 (by rw [intsD_length]; exact hc62.2) rfl rfl) ?_
       exact AU_to (by kernel_rfl) hS57 (Weak_keep 0 hm [24, 25, 26, 30, 31, 219, 224, 228] [0, 1] _ _ rfl rfl rfl)
      refine US_of 16 rfl rfl ?_
      refine AOps_q 229 _ rfl rfl rfl (QOp_load_pv _ _ _ _ _ rfl Try.isAgg24 rfl (rowsD_get _ _ [] (by omega))) ?_
      refine AOps_nil ?_
      refine AU_u 17 230 _ rfl (by kernel_rfl) rfl rfl rfl (UOp_indexAddr_sl _ _ _ _ _ _ _ _ rfl Try.underlying24 Try.sizeOf2 hc63.1 (by rw [intsD_length]; exact hc63.2) rfl rfl) ?_
      exact AU_to (by kernel_rfl) hS59 (Weak_keep 0 hm [24, 25, 26, 30, 31, 219, 222, 230] [0, 1] _ _ rfl rfl rfl)
     refine AU_cut 13 #[false, true, true, true, true, true, false, true, true, true, true, true, false, true, true, true, false, false, false, false, false, false, false, false, false, false] [(24, .ptr 0 0), (25, .d (.sl none (intsD r43.2))), (26, .d (.sl none (rowsD (r44.1.getD [])))), (30, iV x51), (218, .d (.pv (intsD ((r44.1.getD []).getD x51.toNat [])) (0 : Int).toNat)), (224, .d (.pv (intsD ((r44.1.getD []).getD x51.toNat [])) (1 : Int).toNat)), (228, .d (.pv (rowsD (r44.1.getD [])) x51.toNat))] [.box (colD r43.1)] ?_ (fun hS88 => ?_)
     ·refine AU_all [0, 6, 12, 16, 23] (by kernel_rfl) rfl (allc ?_ (allc ?_ (allc ?_ (allc ?_ (allc ?_ (fun _ h => nomatch h))))))
      ·refine US_of 0 rfl rfl ?_
       refine AOps_q 213 _ rfl rfl rfl (QOp_loadN_ptr _ _ _ _ _ _ _ rfl Try.isAgg29 Try.sizeOf29 rfl rfl (colD_all _) (colD_length _)) ?_
       refine AOps_nil ?_
       exact AU_to (by kernel_rfl) hS67 (Weak_keep 0 hm [24, 25, 26, 30, 213, 218, 224, 228] [0] _ _ rfl rfl rfl)
      ·refine US_of 6 rfl rfl ?_
       refine AOps_q 219 _ rfl rfl rfl (QOp_load_pv _ _ _ _ _ rfl Try.isAgg2 rfl (intsD_get _ _ 0 (by omega))) ?_
       refine AOps_nil ?_
       exact AU_to (by kernel_rfl) hS72 (Weak_keep 0 hm [24, 25, 26, 30, 219, 224, 228] [0] _ _ rfl rfl rfl)
      ·refine US_of 12 rfl rfl ?_
       refine AOps_q 225 _ rfl rfl rfl (QOp_load_pv _ _ _ _ _ rfl Try.isAgg2 rfl (intsD_get _ _ 0 (by omega))) ?_
       refine AOps_nil ?_
       exact AU_to (by kernel_rfl) hS74 (Weak_keep 0 hm [24, 25, 26, 30, 218, 225, 228] [0] _ _ rfl rfl rfl)
      ·refine US_of 16 rfl rfl ?_
       refine AOps_q 229 _ rfl rfl rfl (QOp_load_pv _ _ _ _ _ rfl Try.isAgg24 rfl (rowsD_get _ _ [] (by omega))) ?_
       refine AOps_nil ?_
       refine AU_u 17 230 _ rfl (by kernel_rfl) rfl rfl rfl (UOp_indexAddr_sl _ _ _ _ _ _ _ _ rfl Try.underlying24 Try.sizeOf2 hc63.1 (by rw [intsD_length]; exact hc63.2) rfl rfl) ?_
       exact AU_to (by kernel_rfl) hS61 (Weak_keep 0 hm [24, 25, 26, 30, 218, 224, 230] [0] _ _ rfl rfl rfl)
      refine US_of 23 rfl rfl ?_
      refine AOps_alloc 31 _ _ (colD Col.zero) (zero_of Try.typeInfo29 rfl) (by rfl) rfl rfl rfl rfl ?_
      refine AOps_nil ?_
      exact AU_to (by kernel_rfl) hS75 (Weak_keep 0 hm [24, 25, 26, 30, 31, 218, 224, 228] [0, 1] _ _ rfl rfl rfl)
     refine AU_cut 13 #[false, true, true, true, true, true, false, true, true, true, false, false, false, true, true, true, true, true, false, false, false, false, false, false, false, false] [(24, .ptr 0 0), (25, .d (.sl none (intsD r43.2))), (26, .d (.sl none (rowsD (r44.1.getD [])))), (30, iV x51), (218, .d (.pv (intsD ((r44.1.getD []).getD x51.toNat [])) (0 : Int).toNat)), (222, .d (.pv (rowsD (r44.1.getD [])) x51.toNat)), (230, .d (.pv (intsD ((r44.1.getD []).getD x51.toNat [])) (2 : Int).toNat))] [.box (colD r43.1)] ?_ (fun hS89 => ?_)
     ·refine AU_all [0, 6, 10, 18, 23] (by kernel_rfl) rfl (allc ?_ (allc ?_ (allc ?_ (allc ?_ (allc ?_ (fun _ h => nomatch h))))))
      ·refine US_of 0 rfl rfl ?_
       refine AOps_q 213 _ rfl rfl rfl (QOp_loadN_ptr _ _ _ _ _ _ _ rfl Try.isAgg29 Try.sizeOf29 rfl rfl (colD_all _) (colD_length _)) ?_
       refine AOps_nil ?_
       exact AU_to (by kernel_rfl) hS68 (Weak_keep 0 hm [24, 25, 26, 30, 213, 218, 222, 230] [0] _ _ rfl rfl rfl)
      ·refine US_of 6 rfl rfl ?_
       refine AOps_q 219 _ rfl rfl rfl (QOp_load_pv _ _ _ _ _ rfl Try.isAgg2 rfl (intsD_get _ _ 0 (by omega))) ?_
       refine AOps_nil ?_
       exact AU_to (by kernel_rfl) hS73 (Weak_keep 0 hm [24, 25, 26, 30, 219, 222, 230] [0] _ _ rfl rfl rfl)
      ·refine US_of 10 rfl rfl ?_
       refine AOps_q 223 _ rfl rfl rfl (QOp_load_pv _ _ _ _ _ rfl Try.isAgg24 rfl (rowsD_get _ _ [] (by omega))) ?_
       refine AOps_nil ?_
       refine AU_u 11 224 _ rfl (by kernel_rfl) rfl rfl rfl (UOp_indexAddr_sl _ _ _ _ _ _ _ _ rfl Try.underlying24 Try.sizeOf2 hc62.1 (by rw [intsD_length]; exact hc62.2) rfl rfl) ?_
       exact AU_to (by kernel_rfl) hS61 (Weak_keep 0 hm [24, 25, 26, 30, 218, 224, 230] [0] _ _ rfl rfl rfl)
      ·refine US_of 18 rfl rfl ?_
       refine AOps_q 231 _ rfl rfl rfl (QOp_load_pv _ _ _ _ _ rfl Try.isAgg2 rfl (intsD_get _ _ 0 (by omega))) ?_
       refine AOps_nil ?_
       exact AU_to (by kernel_rfl) hS76 (Weak_keep 0 hm [24, 25, 26, 30, 218, 222, 231] [0] _ _ rfl rfl rfl)
      refine US_of 23 rfl rfl ?_
      refine AOps_alloc 31 _ _ (colD Col.zero) (zero_of Try.typeInfo29 rfl) (by rfl) rfl rfl rfl rfl ?_
      refine AOps_nil ?_
      exact AU_to (by kernel_rfl) hS77 (Weak_keep 0 hm [24, 25, 26, 30, 31, 218, 222, 230] [0, 1] _ _ rfl rfl rfl)
     refine AU_cut 13 #[false, true, true, true, false, false, false, true, true, true, true, true, true, true, true, true, false, false, false, false, false, false, false, true, false, false] [(24, .ptr 0 0), (25, .d (.sl none (intsD r43.2))), (26, .d (.sl none (rowsD (r44.1.getD [])))), (30, iV x51), (31, .ptr 1 0), (216, .d (.pv (rowsD (r44.1.getD [])) x51.toNat)), (225, iV (((r44.1.getD []).getD x51.toNat []).getD (1 : Int).toNat 0)), (228, .d (.pv (rowsD (r44.1.getD [])) x51.toNat))] [.box (colD r43.1), .box (colD Col.zero)] ?_ (fun hS90 => ?_)
     ·refine AU_all [0, 4, 16] (by kernel_rfl) rfl (allc ?_ (allc ?_ (allc ?_ (fun _ h => nomatch h))))
      ·refine US_of 0 rfl rfl ?_
       refine AOps_q 213 _ rfl rfl rfl (QOp_loadN_ptr _ _ _ _ _ _ _ rfl Try.isAgg29 Try.sizeOf29 rfl rfl (colD_all _) (colD_length _)) ?_
       refine AOps_nil ?_
       exact AU_to (by kernel_rfl) hS69 (Weak_keep 0 hm [24, 25, 26, 30, 31, 213, 216, 225, 228] [0, 1] _ _ rfl rfl rfl)
      ·refine US_of 4 rfl rfl ?_
       refine AOps_q 217 _ rfl rfl rfl (QOp_load_pv _ _ _ _ _ rfl Try.isAgg24 rfl (rowsD_get _ _ [] (by omega))) ?_
       refine AOps_nil ?_
       refine AU_u 5 218 _ rfl (by kernel_rfl) rfl rfl rfl (UOp_indexAddr_sl _ _ _ _ _ _ _ _ rfl Try.underlying24 Try.sizeOf2 hc61.1 (by rw [intsD_length]; exact hc61.2) rfl rfl) ?_
       exact AU_to (by kernel_rfl) hS60 (Weak_keep 0 hm [24, 25, 26, 30, 31, 218, 225, 228] [0, 1] _ _ rfl rfl rfl)
      refine US_of 16 rfl rfl ?_
      refine AOps_q 229 _ rfl rfl rfl (QOp_load_pv _ _ _ _ _ rfl Try.isAgg24 rfl (rowsD_get _ _ [] (by omega))) ?_
      refine AOps_nil ?_
      refine AU_u 17 230 _ rfl (by kernel_rfl) rfl rfl rfl (UOp_indexAddr_sl _ _ _ _ _ _ _ _ rfl Try.underlying24 Try.sizeOf2 hc63.1 (by rw [intsD_length]; exact hc63.2) rfl rfl) ?_
      exact AU_to (by kernel_rfl) hS64 (Weak_keep 0 hm [24, 25, 26, 30, 31, 216, 225, 230] [0, 1] _ _ rfl rfl rfl)
     refine AU_cut 13 #[false, true, true, true, false, false, false, true, true, true, true, true, false, true, true, true, true, true, false, false, false, false, false, false, false, false] [(24, .ptr 0 0), (25, .d (.sl none (intsD r43.2))), (26, .d (.sl none (rowsD (r44.1.getD [])))), (30, iV x51), (216, .d (.pv (rowsD (r44.1.getD [])) x51.toNat)), (224, .d (.pv (intsD ((r44.1.getD []).getD x51.toNat [])) (1 : Int).toNat)), (230, .d (.pv (intsD ((r44.1.getD []).getD x51.toNat [])) (2 : Int).toNat))] [.box (colD r43.1)] ?_ (fun hS91 => ?_)
     ·refine AU_all [0, 4, 12, 18, 23] (by kernel_rfl) rfl (allc ?_ (allc ?_ (allc ?_ (allc ?_ (allc ?_ (fun _ h => nomatch h))))))
      ·refine US_of 0 rfl rfl ?_
       refine AOps_q 213 _ rfl rfl rfl (QOp_loadN_ptr _ _ _ _ _ _ _ rfl Try.isAgg29 Try.sizeOf29 rfl rfl (colD_all _) (colD_length _)) ?_
       refine AOps_nil ?_
       exact AU_to (by kernel_rfl) hS70 (Weak_keep 0 hm [24, 25, 26, 30, 213, 216, 224, 230] [0] _ _ rfl rfl rfl)
      ·refine US_of 4 rfl rfl ?_
       refine AOps_q 217 _ rfl rfl rfl (QOp_load_pv _ _ _ _ _ rfl Try.isAgg24 rfl (rowsD_get _ _ [] (by omega))) ?_
       refine AOps_nil ?_
       refine AU_u 5 218 _ rfl (by kernel_rfl) rfl rfl rfl (UOp_indexAddr_sl _ _ _ _ _ _ _ _ rfl Try.underlying24 Try.sizeOf2 hc61.1 (by rw [intsD_length]; exact hc61.2) rfl rfl) ?_
       exact AU_to (by kernel_rfl) hS61 (Weak_keep 0 hm [24, 25, 26, 30, 218, 224, 230] [0] _ _ rfl rfl rfl)
      ·refine US_of 12 rfl rfl ?_
       refine AOps_q 225 _ rfl rfl rfl (QOp_load_pv _ _ _ _ _ rfl Try.isAgg2 rfl (intsD_get _ _ 0 (by omega))) ?_
       refine AOps_nil ?_
       exact AU_to (by kernel_rfl) hS78 (Weak_keep 0 hm [24, 25, 26, 30, 216, 225, 230] [0] _ _ rfl rfl rfl)
      ·refine US_of 18 rfl rfl ?_
       refine AOps_q 231 _ rfl rfl rfl (QOp_load_pv _ _ _ _ _ rfl Try.isAgg2 rfl (intsD_get _ _ 0 (by omega))) ?_
       refine AOps_nil ?_
       exact AU_to (by kernel_rfl) hS79 (Weak_keep 0 hm [24, 25, 26, 30, 216, 224, 231] [0] _ _ rfl rfl rfl)
      refine US_of 23 rfl rfl ?_
      refine AOps_alloc 31 _ _ (colD Col.zero) (zero_of Try.typeInfo29 rfl) (by rfl) rfl rfl rfl rfl ?_
      refine AOps_nil ?_
      exact AU_to (by kernel_rfl) hS80 (Weak_keep 0 hm [24, 25, 26, 30, 31, 216, 224, 230] [0, 1] _ _ rfl rfl rfl)
     refine AU_cut 13 #[false, true, true, true, false, false, false, true, true, true, false, false, false, true, true, true, true, true, true, false, false, false, false, true, false, false] [(24, .ptr 0 0), (25, .d (.sl none (intsD r43.2))), (26, .d (.sl none (rowsD (r44.1.getD [])))), (30, iV x51), (31, .ptr 1 0), (216, .d (.pv (rowsD (r44.1.getD [])) x51.toNat)), (222, .d (.pv (rowsD (r44.1.getD [])) x51.toNat)), (231, iV (((r44.1.getD []).getD x51.toNat []).getD (2 : Int).toNat 0))] [.box (colD r43.1), .box (colD Col.zero)] ?_ (fun hS92 => ?_)
     ·refine AU_all [0, 4, 10] (by kernel_rfl) rfl (allc ?_ (allc ?_ (allc ?_ (fun _ h => nomatch h))))
      ·refine US_of 0 rfl rfl ?_
       refine AOps_q 213 _ rfl rfl rfl (QOp_loadN_ptr _ _ _ _ _ _ _ rfl Try.isAgg29 Try.sizeOf29 rfl rfl (colD_all _) (colD_length _)) ?_
       refine AOps_nil ?_
       exact AU_to (by kernel_rfl) hS71 (Weak_keep 0 hm [24, 25, 26, 30, 31, 213, 216, 222, 231] [0, 1] _ _ rfl rfl rfl)
      ·refine US_of 4 rfl rfl ?_
       refine AOps_q 217 _ rfl rfl rfl (QOp_load_pv _ _ _ _ _ rfl Try.isAgg24 rfl (rowsD_get _ _ [] (by omega))) ?_
       refine AOps_nil ?_
       refine AU_u 5 218 _ rfl (by kernel_rfl) rfl rfl rfl (UOp_indexAddr_sl _ _ _ _ _ _ _ _ rfl Try.underlying24 Try.sizeOf2 hc61.1 (by rw [intsD_length]; exact hc61.2) rfl rfl) ?_
       exact AU_to (by kernel_rfl) hS62 (Weak_keep 0 hm [24, 25, 26, 30, 31, 218, 222, 231] [0, 1] _ _ rfl rfl rfl)
      refine US_of 10 rfl rfl ?_
      refine AOps_q 223 _ rfl rfl rfl (QOp_load_pv _ _ _ _ _ rfl Try.isAgg24 rfl (rowsD_get _ _ [] (by omega))) ?_
      refine AOps_nil ?_
      refine AU_u 11 224 _ rfl (by kernel_rfl) rfl rfl rfl (UOp_indexAddr_sl _ _ _ _ _ _ _ _ rfl Try.underlying24 Try.sizeOf2 hc62.1 (by rw [intsD_length]; exact hc62.2) rfl rfl) ?_
      exact AU_to (by kernel_rfl) hS65 (Weak_keep 0 hm [24, 25, 26, 30, 31, 216, 224, 231] [0, 1] _ _ rfl rfl rfl)
     refine AU_cut 14 #[true, true, true, true, true, true, false, true, true, true, false, false, false, true, true, true, false, false, false, false, false, false, false, false, false, false] [(24, .ptr 0 0), (25, .d (.sl none (intsD r43.2))), (26, .d (.sl none (rowsD (r44.1.getD [])))), (30, iV x51), (213, .d (.agg (colD r43.1))), (218, .d (.pv (intsD ((r44.1.getD []).getD x51.toNat [])) (0 : Int).toNat)), (222, .d (.pv (rowsD (r44.1.getD [])) x51.toNat)), (228, .d (.pv (rowsD (r44.1.getD [])) x51.toNat))] [.box (colD r43.1)] ?_ (fun hS93 => ?_)
     ·refine AU_all [6, 10, 16, 23] (by kernel_rfl) rfl (allc ?_ (allc ?_ (allc ?_ (allc ?_ (fun _ h => nomatch h)))))
      ·refine US_of 6 rfl rfl ?_
       refine AOps_q 219 _ rfl rfl rfl (QOp_load_pv _ _ _ _ _ rfl Try.isAgg2 rfl (intsD_get _ _ 0 (by omega))) ?_
       refine AOps_nil ?_
       exact AU_to (by kernel_rfl) hS81 (Weak_keep 0 hm [24, 25, 26, 30, 213, 219, 222, 228] [0] _ _ rfl rfl rfl)
      ·refine US_of 10 rfl rfl ?_
       refine AOps_q 223 _ rfl rfl rfl (QOp_load_pv _ _ _ _ _ rfl Try.isAgg24 rfl (rowsD_get _ _ [] (by omega))) ?_
       refine AOps_nil ?_
       refine AU_u 11 224 _ rfl (by kernel_rfl) rfl rfl rfl (UOp_indexAddr_sl _ _ _ _ _ _ _ _ rfl Try.underlying24 Try.sizeOf2 hc62.1 (by rw [intsD_length]; exact hc62.2) rfl rfl) ?_
       exact AU_to (by kernel_rfl) hS67 (Weak_keep 0 hm [24, 25, 26, 30, 213, 218, 224, 228] [0] _ _ rfl rfl rfl)
      ·refine US_of 16 rfl rfl ?_
       refine AOps_q 229 _ rfl rfl rfl (QOp_load_pv _ _ _ _ _ rfl Try.isAgg24 rfl (rowsD_get _ _ [] (by omega))) ?_
       refine AOps_nil ?_
       refine AU_u 17 230 _ rfl (by kernel_rfl) rfl rfl rfl (UOp_indexAddr_sl _ _ _ _ _ _ _ _ rfl Try.underlying24 Try.sizeOf2 hc63.1 (by rw [intsD_length]; exact hc63.2) rfl rfl) ?_
       exact AU_to (by kernel_rfl) hS68 (Weak_keep 0 hm [24, 25, 26, 30, 213, 218, 222, 230] [0] _ _ rfl rfl rfl)
      refine US_of 23 rfl rfl ?_
      refine AOps_alloc 31 _ _ (colD Col.zero) (zero_of Try.typeInfo29 rfl) (by rfl) rfl rfl rfl rfl ?_
      refine AOps_nil ?_
      exact AU_to (by kernel_rfl) hS82 (Weak_keep 0 hm [24, 25, 26, 30, 31, 213, 218, 222, 228] [0, 1] _ _ rfl rfl rfl)
     refine AU_cut 14 #[true, true, true, true, false, false, false, true, true, true, true, true, false, true, true, true, false, false, false, false, false, false, false, false, false, false] [(24, .ptr 0 0), (25, .d (.sl none (intsD r43.2))), (26, .d (.sl none (rowsD (r44.1.getD [])))), (30, iV x51), (213, .d (.agg (colD r43.1))), (216, .d (.pv (rowsD (r44.1.getD [])) x51.toNat)), (224, .d (.pv (intsD ((r44.1.getD []).getD x51.toNat [])) (1 : Int).toNat)), (228, .d (.pv (rowsD (r44.1.getD [])) x51.toNat))] [.box (colD r43.1)] ?_ (fun hS94 => ?_)
     ·refine AU_all [4, 12, 16, 23] (by kernel_rfl) rfl (allc ?_ (allc ?_ (allc ?_ (allc ?_ (fun _ h => nomatch h)))))
      ·refine US_of 4 rfl rfl ?_
       refine AOps_q 217 _ rfl rfl rfl (QOp_load_pv _ _ _ _ _ rfl Try.isAgg24 rfl (rowsD_get _ _ [] (by omega))) ?_
       refine AOps_nil ?_
       refine AU_u 5 218 _ rfl (by kernel_rfl) rfl rfl rfl (UOp_indexAddr_sl _ _ _ _ _ _ _ _ rfl Try.underlying24 Try.sizeOf2 hc61.1 (by rw [intsD_length]; exact hc61.2) rfl rfl) ?_
       exact AU_to (by kernel_rfl) hS67 (Weak_keep 0 hm [24, 25, 26, 30, 213, 218, 224, 228] [0] _ _ rfl rfl rfl)
      ·refine US_of 12 rfl rfl ?_
       refine AOps_q 225 _ rfl rfl rfl (QOp_load_pv _ _ _ _ _ rfl Try.isAgg2 rfl (intsD_get _ _ 0 (by omega))) ?_
       refine AOps_nil ?_
       exact AU_to (by kernel_rfl) hS83 (Weak_keep 0 hm [24, 25, 26, 30, 213, 216, 225, 228] [0] _ _ rfl rfl rfl)
      ·refine US_of 16 rfl rfl ?_
       refine AOps_q 229 _ rfl rfl rfl (QOp_load_pv _ _ _ _ _ rfl Try.isAgg24 rfl (rowsD_get _ _ [] (by omega))) ?_
       refine AOps_nil ?_
       refine AU_u 17 230 _ rfl (by kernel_rfl) rfl rfl rfl (UOp_indexAddr_sl _ _ _ _ _ _ _ _ rfl Try.underlying24 Try.sizeOf2 hc63.1 (by rw [intsD_length]; exact hc63.2) rfl rfl) ?_
       exact AU_to (by kernel_rfl) hS70 (Weak_keep 0 hm [24, 25, 26, 30, 213, 216, 224, 230] [0] _ _ rfl rfl rfl)
      refine US_of 23 rfl rfl ?_
      refine AOps_alloc 31 _ _ (colD Col.zero) (zero_of Try.typeInfo29 rfl) (by rfl) rfl rfl rfl rfl ?_
      refine AOps_nil ?_
      exact AU_to (by kernel_rfl) hS84 (Weak_keep 0 hm [24, 25, 26, 30, 31, 213, 216, 224, 228] [0, 1] _ _ rfl rfl rfl)
     refine AU_cut 14 #[true, true, true, true, false, false, false, true, true, true, false, false, false, true, true, true, true, true, false, false, false, false, false, false, false, false] [(24, .ptr 0 0), (25, .d (.sl none (intsD r43.2))), (26, .d (.sl none (rowsD (r44.1.getD [])))), (30, iV x51), (213, .d (.agg (colD r43.1))), (216, .d (.pv (rowsD (r44.1.getD [])) x51.toNat)), (222, .d (.pv (rowsD (r44.1.getD [])) x51.toNat)), (230, .d (.pv (intsD ((r44.1.getD []).getD x51.toNat [])) (2 : Int).toNat))] [.box (colD r43.1)] ?_ (fun hS95 => ?_)
     ·refine AU_all [4, 10, 18, 23] (by kernel_rfl) rfl (allc ?_ (allc ?_ (allc ?_ (allc ?_ (fun _ h => nomatch h)))))
      ·refine US_of 4 rfl rfl ?_
       refine AOps_q 217 _ rfl rfl rfl (QOp_load_pv _ _ _ _ _ rfl Try.isAgg24 rfl (rowsD_get _ _ [] (by omega))) ?_
       refine AOps_nil ?_
       refine AU_u 5 218 _ rfl (by kernel_rfl) rfl rfl rfl (UOp_indexAddr_sl _ _ _ _ _ _ _ _ rfl Try.underlying24 Try.sizeOf2 hc61.1 (by rw [intsD_length]; exact hc61.2) rfl rfl) ?_
       exact AU_to (by kernel_rfl) hS68 (Weak_keep 0 hm [24, 25, 26, 30, 213, 218, 222, 230] [0] _ _ rfl rfl rfl)
      ·refine US_of 10 rfl rfl ?_
       refine AOps_q 223 _ rfl rfl rfl (QOp_load_pv _ _ _ _ _ rfl Try.isAgg24 rfl (rowsD_get _ _ [] (by omega))) ?_
       refine AOps_nil ?_
       refine AU_u 11 224 _ rfl (by kernel_rfl) rfl rfl rfl (UOp_indexAddr_sl _ _ _ _ _ _ _ _ rfl Try.underlying24 Try.sizeOf2 hc62.1 (by rw [intsD_length]; exact hc62.2) rfl rfl) ?_
       exact AU_to (by kernel_rfl) hS70 (Weak_keep 0 hm [24, 25, 26, 30, 213, 216, 224, 230] [0] _ _ rfl rfl rfl)
      ·refine US_of 18 rfl rfl ?_
       refine AOps_q 231 _ rfl rfl rfl (QOp_load_pv _ _ _ _ _ rfl Try.isAgg2 rfl (intsD_get _ _ 0 (by omega))) ?_
       refine AOps_nil ?_
       exact AU_to (by kernel_rfl) hS85 (Weak_keep 0 hm [24, 25, 26, 30, 213, 216, 222, 231] [0] _ _ rfl rfl rfl)
      refine US_of 23 rfl rfl ?_
      refine AOps_alloc 31 _ _ (colD Col.zero) (zero_of Try.typeInfo29 rfl) (by rfl) rfl rfl rfl rfl ?_
      refine AOps_nil ?_
      exact AU_to (by kernel_rfl) hS86 (Weak_keep 0 hm [24, 25, 26, 30, 31, 213, 216, 222, 230] [0, 1] _ _ rfl rfl rfl)
     refine AU_cut 14 #[false, true, true, true, true, true, false, true, true, true, false, false, false, true, true, true, false, false, false, false, false, false, false, true, false, false] [(24, .ptr 0 0), (25, .d (.sl none (intsD r43.2))), (26, .d (.sl none (rowsD (r44.1.getD [])))), (30, iV x51), (31, .ptr 1 0), (218, .d (.pv (intsD ((r44.1.getD []).getD x51.toNat [])) (0 : Int).toNat)), (222, .d (.pv (rowsD (r44.1.getD [])) x51.toNat)), (228, .d (.pv (rowsD (r44.1.getD [])) x51.toNat))] [.box (colD r43.1), .box (colD Col.zero)] ?_ (fun hS96 => ?_)
     ·refine AU_all [0, 6, 10, 16] (by kernel_rfl) rfl (allc ?_ (allc ?_ (allc ?_ (allc ?_ (fun _ h => nomatch h)))))
      ·refine US_of 0 rfl rfl ?_
       refine AOps_q 213 _ rfl rfl rfl (QOp_loadN_ptr _ _ _ _ _ _ _ rfl Try.isAgg29 Try.sizeOf29 rfl rfl (colD_all _) (colD_length _)) ?_
       refine AOps_nil ?_
       exact AU_to (by kernel_rfl) hS82 (Weak_keep 0 hm [24, 25, 26, 30, 31, 213, 218, 222, 228] [0, 1] _ _ rfl rfl rfl)
      ·refine US_of 6 rfl rfl ?_
       refine AOps_q 219 _ rfl rfl rfl (QOp_load_pv _ _ _ _ _ rfl Try.isAgg2 rfl (intsD_get _ _ 0 (by omega))) ?_
       refine AOps_nil ?_
       exact AU_to (by kernel_rfl) hS87 (Weak_keep 0 hm [24, 25, 26, 30, 31, 219, 222, 228] [0, 1] _ _ rfl rfl rfl)
      ·refine US_of 10 rfl rfl ?_
       refine AOps_q 223 _ rfl rfl rfl (QOp_load_pv _ _ _ _ _ rfl Try.isAgg24 rfl (rowsD_get _ _ [] (by omega))) ?_
       refine AOps_nil ?_
       refine AU_u 11 224 _ rfl (by kernel_rfl) rfl rfl rfl (UOp_indexAddr_sl _ _ _ _ _ _ _ _ rfl Try.underlying24 Try.sizeOf2 hc62.1 (by rw [intsD_length]; exact hc62.2) rfl rfl) ?_
       exact AU_to (by kernel_rfl) hS75 (Weak_keep 0 hm [24, 25, 26, 30, 31, 218, 224, 228] [0, 1] _ _ rfl rfl rfl)
      refine US_of 16 rfl rfl ?_
      refine AOps_q 229 _ rfl rfl rfl (QOp_load_pv _ _ _ _ _ rfl Try.isAgg24 rfl (rowsD_get _ _ [] (by omega))) ?_
      refine AOps_nil ?_
      refine AU_u 17 230 _ rfl (by kernel_rfl) rfl rfl rfl (UOp_indexAddr_sl _ _ _ _ _ _ _ _ rfl Try.underlying24 Try.sizeOf2 hc63.1 (by rw [intsD_length]; exact hc63.2) rfl rfl) ?_
      exact AU_to (by kernel_rfl) hS77 (Weak_keep 0 hm [24, 25, 26, 30, 31, 218, 222, 230] [0, 1] _ _ rfl rfl rfl)
     refine AU_cut 14 #[false, true, true, true, false, false, false, true, true, true, true, true, false, true, true, true, false, false, false, false, false, false, false, true, false, false] [(24, .ptr 0 0), (25, .d (.sl none (intsD r43.2))), (26, .d (.sl none (rowsD (r44.1.getD [])))), (30, iV x51), (31, .ptr 1 0), (216, .d (.pv (rowsD (r44.1.getD [])) x51.toNat)), (224, .d (.pv (intsD ((r44.1.getD []).getD x51.toNat [])) (1 : Int).toNat)), (228, .d (.pv (rowsD (r44.1.getD [])) x51.toNat))] [.box (colD r43.1), .box (colD Col.zero)] ?_ (fun hS97 => ?_)
     ·refine AU_all [0, 4, 12, 16] (by kernel_rfl) rfl (allc ?_ (allc ?_ (allc ?_ (allc ?_ (fun _ h => nomatch h)))))
      ·refine US_of 0 rfl rfl ?_
       refine AOps_q 213 _ rfl rfl rfl (QOp_loadN_ptr _ _ _ _ _ _ _ rfl Try.isAgg29 Try.sizeOf29 rfl rfl (colD_all _) (colD_length _)) ?_
       refine AOps_nil ?_
       exact AU_to (by kernel_rfl) hS84 (Weak_keep 0 hm [24, 25, 26, 30, 31, 213, 216, 224, 228] [0, 1] _ _ rfl rfl rfl)
      ·refine US_of 4 rfl rfl ?_
       refine AOps_q 217 _ rfl rfl rfl (QOp_load_pv _ _ _ _ _ rfl Try.isAgg24 rfl (rowsD_get _ _ [] (by omega))) ?_
       refine AOps_nil ?_
       refine AU_u 5 218 _ rfl (by kernel_rfl) rfl rfl rfl (UOp_indexAddr_sl _ _ _ _ _ _ _ _ rfl Try.underlying24 Try.sizeOf2 hc61.1 (by rw [intsD_length]; exact hc61.2) rfl rfl) ?_
       exact AU_to (by kernel_rfl) hS75 (Weak_keep 0 hm [24, 25, 26, 30, 31, 218, 224, 228] [0, 1] _ _ rfl rfl rfl)
      ·refine US_of 12 rfl rfl ?_
       refine AOps_q 225 _ rfl rfl rfl (QOp_load_pv _ _ _ _ _ rfl Try.isAgg2 rfl (intsD_get _ _ 0 (by omega))) ?_
       refine AOps_nil ?_
       exact AU_to (by kernel_rfl) hS90 (Weak_keep 0 hm [24, 25, 26, 30, 31, 216, 225, 228] [0, 1] _ _ rfl rfl rfl)
      refine US_of 16 rfl rfl ?_
      refine AOps_q 229 _ rfl rfl rfl (QOp_load_pv _ _ _ _ _ rfl Try.isAgg24 rfl (rowsD_get _ _ [] (by omega))) ?_
      refine AOps_nil ?_
      refine AU_u 17 230 _ rfl (by kernel_rfl) rfl rfl rfl (UOp_indexAddr_sl _ _ _ _ _ _ _ _ rfl Try.underlying24 Try.sizeOf2 hc63.1 (by rw [intsD_length]; exact hc63.2) rfl rfl) ?_
      exact AU_to (by kernel_rfl) hS80 (Weak_keep 0 hm [24, 25, 26, 30, 31, 216, 224, 230] [0, 1] _ _ rfl rfl rfl)
     refine AU_cut 14 #[false, true, true, true, false, false, false, true, true, true, false, false, false, true, true, true, true, true, false, false, false, false, false, true, false, false] [(24, .ptr 0 0), (25, .d (.sl none (intsD r43.2))), (26, .d (.sl none (rowsD (r44.1.getD [])))), (30, iV x51), (31, .ptr 1 0), (216, .d (.pv (rowsD (r44.1.getD [])) x51.toNat)), (222, .d (.pv (rowsD (r44.1.getD [])) x51.toNat)), (230, .d (.pv (intsD ((r44.1.getD []).getD x51.toNat [])) (2 : Int).toNat))] [.box (colD r43.1), .box (colD Col.zero)] ?_ (fun hS98 => ?_)
     ·refine AU_all [0, 4, 10, 18] (by kernel_rfl) rfl (allc ?_ (allc ?_ (allc ?_ (allc ?_ (fun _ h => nomatch h)))))
      ·refine US_of 0 rfl rfl ?_
       refine AOps_q 213 _ rfl rfl rfl (QOp_loadN_ptr _ _ _ _ _ _ _ rfl Try.isAgg29 Try.sizeOf29 rfl rfl (colD_all _) (colD_length _)) ?_
       refine AOps_nil ?_
       exact AU_to (by kernel_rfl) hS86 (Weak_keep 0 hm [24, 25, 26, 30, 31, 213, 216, 222, 230] [0, 1] _ _ rfl rfl rfl)
      ·refine US_of 4 rfl rfl ?_
       refine AOps_q 217 _ rfl rfl rfl (QOp_load_pv _ _ _ _ _ rfl Try.isAgg24 rfl (rowsD_get _ _ [] (by omega))) ?_
       refine AOps_nil ?_
       refine AU_u 5 218 _ rfl (by kernel_rfl) rfl rfl rfl (UOp_indexAddr_sl _ _ _ _ _ _ _ _ rfl Try.underlying24 Try.sizeOf2 hc61.1 (by rw [intsD_length]; exact hc61.2) rfl rfl) ?_
       exact AU_to (by kernel_rfl) hS77 (Weak_keep 0 hm [24, 25, 26, 30, 31, 218, 222, 230] [0, 1] _ _ rfl rfl rfl)
      ·refine US_of 10 rfl rfl ?_
       refine AOps_q 223 _ rfl rfl rfl (QOp_load_pv _ _ _ _ _ rfl Try.isAgg24 rfl (rowsD_get _ _ [] (by omega))) ?_
       refine AOps_nil ?_
       refine AU_u 11 224 _ rfl (by kernel_rfl) rfl rfl rfl (UOp_indexAddr_sl _ _ _ _ _ _ _ _ rfl Try.underlying24 Try.sizeOf2 hc62.1 (by rw [intsD_length]; exact hc62.2) rfl rfl) ?_
       exact AU_to (by kernel_rfl) hS80 (Weak_keep 0 hm [24, 25, 26, 30, 31, 216, 224, 230] [0, 1] _ _ rfl rfl rfl)
      refine US_of 18 rfl rfl ?_
      refine AOps_q 231 _ rfl rfl rfl (QOp_load_pv _ _ _ _ _ rfl Try.isAgg2 rfl (intsD_get _ _ 0 (by omega))) ?_
      refine AOps_nil ?_
      exact AU_to (by kernel_rfl) hS92 (Weak_keep 0 hm [24, 25, 26, 30, 31, 216, 222, 231] [0, 1] _ _ rfl rfl rfl)
     refine AU_cut 15 #[true, true, true, true, false, false, false, true, true, true, false, false, false, true, true, true, false, false, false, false, false, false, false, true, false, false] [(24, .ptr 0 0), (25, .d (.sl none (intsD r43.2))), (26, .d (.sl none (rowsD (r44.1.getD [])))), (30, iV x51), (31, .ptr 1 0), (213, .d (.agg (colD r43.1))), (216, .d (.pv (rowsD (r44.1.getD [])) x51.toNat)), (222, .d (.pv (rowsD (r44.1.getD [])) x51.toNat)), (228, .d (.pv (rowsD (r44.1.getD [])) x51.toNat))] [.box (colD r43.1), .box (colD Col.zero)] ?_ (fun hS99 => ?_)
     ·refine AU_all [4, 10, 16] (by kernel_rfl) rfl (allc ?_ (allc ?_ (allc ?_ (fun _ h => nomatch h))))
      ·refine US_of 4 rfl rfl ?_
       refine AOps_q 217 _ rfl rfl rfl (QOp_load_pv _ _ _ _ _ rfl Try.isAgg24 rfl (rowsD_get _ _ [] (by omega))) ?_
       refine AOps_nil ?_
       refine AU_u 5 218 _ rfl (by kernel_rfl) rfl rfl rfl (UOp_indexAddr_sl _ _ _ _ _ _ _ _ rfl Try.underlying24 Try.sizeOf2 hc61.1 (by rw [intsD_length]; exact hc61.2) rfl rfl) ?_
       exact AU_to (by kernel_rfl) hS82 (Weak_keep 0 hm [24, 25, 26, 30, 31, 213, 218, 222, 228] [0, 1] _ _ rfl rfl rfl)
      ·refine US_of 10 rfl rfl ?_
       refine AOps_q 223 _ rfl rfl rfl (QOp_load_pv _ _ _ _ _ rfl Try.isAgg24 rfl (rowsD_get _ _ [] (by omega))) ?_
       refine AOps_nil ?_
       refine AU_u 11 224 _ rfl (by kernel_rfl) rfl rfl rfl (UOp_indexAddr_sl _ _ _ _ _ _ _ _ rfl Try.underlying24 Try.sizeOf2 hc62.1 (by rw [intsD_length]; exact hc62.2) rfl rfl) ?_
       exact AU_to (by kernel_rfl) hS84 (Weak_keep 0 hm [24, 25, 26, 30, 31, 213, 216, 224, 228] [0, 1] _ _ rfl rfl rfl)
      refine US_of 16 rfl rfl ?_
      refine AOps_q 229 _ rfl rfl rfl (QOp_load_pv _ _ _ _ _ rfl Try.isAgg24 rfl (rowsD_get _ _ [] (by omega))) ?_
      refine AOps_nil ?_
      refine AU_u 17 230 _ rfl (by kernel_rfl) rfl rfl rfl (UOp_indexAddr_sl _ _ _ _ _ _ _ _ rfl Try.underlying24 Try.sizeOf2 hc63.1 (by rw [intsD_length]; exact hc63.2) rfl rfl) ?_
      exact AU_to (by kernel_rfl) hS86 (Weak_keep 0 hm [24, 25, 26, 30, 31, 213, 216, 222, 230] [0, 1] _ _ rfl rfl rfl)
     refine AU_u 1 214 _ rfl (by kernel_rfl) rfl rfl rfl (UOp_move _ _ rfl rfl) ?_
     refine AU_u 2 215 _ rfl (by kernel_rfl) rfl rfl rfl (UOp_move _ _ rfl rfl) ?_
     refine AU_u 3 216 _ rfl (by kernel_rfl) rfl rfl rfl (UOp_indexAddr_sl _ _ _ _ _ _ _ _ rfl Try.underlying41 Try.sizeOf24 hc58.1 (by rw [rowsD_length]; exact hc58.2) rfl rfl) ?_
     refine AU_u 7 220 _ rfl (by kernel_rfl) rfl rfl rfl (UOp_move _ _ rfl rfl) ?_
     refine AU_u 8 221 _ rfl (by kernel_rfl) rfl rfl rfl (UOp_move _ _ rfl rfl) ?_
     refine AU_u 9 222 _ rfl (by kernel_rfl) rfl rfl rfl (UOp_indexAddr_sl _ _ _ _ _ _ _ _ rfl Try.underlying41 Try.sizeOf24 hc59.1 (by rw [rowsD_length]; exact hc59.2) rfl rfl) ?_
     refine AU_u 13 226 _ rfl (by kernel_rfl) rfl rfl rfl (UOp_move _ _ rfl rfl) ?_
     refine AU_u 14 227 _ rfl (by kernel_rfl) rfl rfl rfl (UOp_move _ _ rfl rfl) ?_
     refine AU_u 15 228 _ rfl (by kernel_rfl) rfl rfl rfl (UOp_indexAddr_sl _ _ _ _ _ _ _ _ rfl Try.underlying41 Try.sizeOf24 hc60.1 (by rw [rowsD_length]; exact hc60.2) rfl rfl) ?_
     refine AU_all [0, 4, 10, 16, 23] (by kernel_rfl) rfl (allc ?_ (allc ?_ (allc ?_ (allc ?_ (allc ?_ (fun _ h => nomatch h))))))
     ·refine US_of 0 rfl rfl ?_
      refine AOps_q 213 _ rfl rfl rfl (QOp_loadN_ptr _ _ _ _ _ _ _ rfl Try.isAgg29 Try.sizeOf29 rfl rfl (colD_all _) (colD_length _)) ?_
      refine AOps_nil ?_
      refine AU_all [4, 10, 16, 23] (by kernel_rfl) rfl (allc ?_ (allc ?_ (allc ?_ (allc ?_ (fun _ h => nomatch h)))))
      ·refine US_of 4 rfl rfl ?_
       refine AOps_q 217 _ rfl rfl rfl (QOp_load_pv _ _ _ _ _ rfl Try.isAgg24 rfl (rowsD_get _ _ [] (by omega))) ?_
       refine AOps_nil ?_
       refine AU_u 5 218 _ rfl (by kernel_rfl) rfl rfl rfl (UOp_indexAddr_sl _ _ _ _ _ _ _ _ rfl Try.underlying24 Try.sizeOf2 hc61.1 (by rw [intsD_length]; exact hc61.2) rfl rfl) ?_
       exact AU_to (by kernel_rfl) hS93 (Weak_keep 0 hm [24, 25, 26, 30, 213, 218, 222, 228] [0] _ _ rfl rfl rfl)
      ·refine US_of 10 rfl rfl ?_
       refine AOps_q 223 _ rfl rfl rfl (QOp_load_pv _ _ _ _ _ rfl Try.isAgg24 rfl (rowsD_get _ _ [] (by omega))) ?_
       refine AOps_nil ?_
       refine AU_u 11 224 _ rfl (by kernel_rfl) rfl rfl rfl (UOp_indexAddr_sl _ _ _ _ _ _ _ _ rfl Try.underlying24 Try.sizeOf2 hc62.1 (by rw [intsD_length]; exact hc62.2) rfl rfl) ?_
       exact AU_to (by kernel_rfl) hS94 (Weak_keep 0 hm [24, 25, 26, 30, 213, 216, 224, 228] [0] _ _ rfl rfl rfl)
      ·refine US_of 16 rfl rfl ?_
       refine AOps_q 229 _ rfl rfl rfl (QOp_load_pv _ _ _ _ _ rfl Try.isAgg24 rfl (rowsD_get _ _ [] (by omega))) ?_
       refine AOps_nil ?_
       refine AU_u 17 230 _ rfl (by kernel_rfl) rfl rfl rfl (UOp_indexAddr_sl _ _ _ _ _ _ _ _ rfl Try.underlying24 Try.sizeOf2 hc63.1 (by rw [intsD_length]; exact hc63.2) rfl rfl) ?_
       exact AU_to (by kernel_rfl) hS95 (Weak_keep 0 hm [24, 25, 26, 30, 213, 216, 222, 230] [0] _ _ rfl rfl rfl)
      refine US_of 23 rfl rfl ?_
      refine AOps_alloc 31 _ _ (colD Col.zero) (zero_of Try.typeInfo29 rfl) (by rfl) rfl rfl rfl rfl ?_
      refine AOps_nil ?_
      exact AU_to (by kernel_rfl) hS99 (Weak_keep 0 hm [24, 25, 26, 30, 31, 213, 216, 222, 228] [0, 1] _ _ rfl rfl rfl)
     ·refine US_of 4 rfl rfl ?_
      refine AOps_q 217 _ rfl rfl rfl (QOp_load_pv _ _ _ _ _ rfl Try.isAgg24 rfl (rowsD_get _ _ [] (by omega))) ?_
      refine AOps_nil ?_
      refine AU_u 5 218 _ rfl (by kernel_rfl) rfl rfl rfl (UOp_indexAddr_sl _ _ _ _ _ _ _ _ rfl Try.underlying24 Try.sizeOf2 hc61.1 (by rw [intsD_length]; exact hc61.2) rfl rfl) ?_
      refine AU_all [0, 6, 10, 16, 23] (by kernel_rfl) rfl (allc ?_ (allc ?_ (allc ?_ (allc ?_ (allc ?_ (fun _ h => nomatch h))))))
      ·refine US_of 0 rfl rfl ?_
       refine AOps_q 213 _ rfl rfl rfl (QOp_loadN_ptr _ _ _ _ _ _ _ rfl Try.isAgg29 Try.sizeOf29 rfl rfl (colD_all _) (colD_length _)) ?_
       refine AOps_nil ?_
       exact AU_to (by kernel_rfl) hS93 (Weak_keep 0 hm [24, 25, 26, 30, 213, 218, 222, 228] [0] _ _ rfl rfl rfl)
      ·refine US_of 6 rfl rfl ?_
       refine AOps_q 219 _ rfl rfl rfl (QOp_load_pv _ _ _ _ _ rfl Try.isAgg2 rfl (intsD_get _ _ 0 (by omega))) ?_
       refine AOps_nil ?_
       refine AU_all [0, 10, 16, 23] (by kernel_rfl) rfl (allc ?_ (allc ?_ (allc ?_ (allc ?_ (fun _ h => nomatch h)))))
       ·refine US_of 0 rfl rfl ?_
        refine AOps_q 213 _ rfl rfl rfl (QOp_loadN_ptr _ _ _ _ _ _ _ rfl Try.isAgg29 Try.sizeOf29 rfl rfl (colD_all _) (colD_length _)) ?_
        refine AOps_nil ?_
        exact AU_to (by kernel_rfl) hS81 (Weak_keep 0 hm [24, 25, 26, 30, 213, 219, 222, 228] [0] _ _ rfl rfl rfl)
       ·refine US_of 10 rfl rfl ?_
        refine AOps_q 223 _ rfl rfl rfl (QOp_load_pv _ _ _ _ _ rfl Try.isAgg24 rfl (rowsD_get _ _ [] (by omega))) ?_
        refine AOps_nil ?_
        refine AU_u 11 224 _ rfl (by kernel_rfl) rfl rfl rfl (UOp_indexAddr_sl _ _ _ _ _ _ _ _ rfl Try.underlying24 Try.sizeOf2 hc62.1 (by rw [intsD_length]; exact hc62.2) rfl rfl) ?_
        exact AU_to (by kernel_rfl) hS72 (Weak_keep 0 hm [24, 25, 26, 30, 219, 224, 228] [0] _ _ rfl rfl rfl)
       ·refine US_of 16 rfl rfl ?_
        refine AOps_q 229 _ rfl rfl rfl (QOp_load_pv _ _ _ _ _ rfl Try.isAgg24 rfl (rowsD_get _ _ [] (by omega))) ?_
        refine AOps_nil ?_
        refine AU_u 17 230 _ rfl (by kernel_rfl) rfl rfl rfl (UOp_indexAddr_sl _ _ _ _ _ _ _ _ rfl Try.underlying24 Try.sizeOf2 hc63.1 (by rw [intsD_length]; exact hc63.2) rfl rfl) ?_
        exact AU_to (by kernel_rfl) hS73 (Weak_keep 0 hm [24, 25, 26, 30, 219, 222, 230] [0] _ _ rfl rfl rfl)
       refine US_of 23 rfl rfl ?_
       refine AOps_alloc 31 _ _ (colD Col.zero) (zero_of Try.typeInfo29 rfl) (by rfl) rfl rfl rfl rfl ?_
       refine AOps_nil ?_
       exact AU_to (by kernel_rfl) hS87 (Weak_keep 0 hm [24, 25, 26, 30, 31, 219, 222, 228] [0, 1] _ _ rfl rfl rfl)
      ·refine US_of 10 rfl rfl ?_
       refine AOps_q 223 _ rfl rfl rfl (QOp_load_pv _ _ _ _ _ rfl Try.isAgg24 rfl (rowsD_get _ _ [] (by omega))) ?_
       refine AOps_nil ?_
       refine AU_u 11 224 _ rfl (by kernel_rfl) rfl rfl rfl (UOp_indexAddr_sl _ _ _ _ _ _ _ _ rfl Try.underlying24 Try.sizeOf2 hc62.1 (by rw [intsD_length]; exact hc62.2) rfl rfl) ?_
       exact AU_to (by kernel_rfl) hS88 (Weak_keep 0 hm [24, 25, 26, 30, 218, 224, 228] [0] _ _ rfl rfl rfl)
      ·refine US_of 16 rfl rfl ?_
       refine AOps_q 229 _ rfl rfl rfl (QOp_load_pv _ _ _ _ _ rfl Try.isAgg24 rfl (rowsD_get _ _ [] (by omega))) ?_
       refine AOps_nil ?_
       refine AU_u 17 230 _ rfl (by kernel_rfl) rfl rfl rfl (UOp_indexAddr_sl _ _ _ _ _ _ _ _ rfl Try.underlying24 Try.sizeOf2 hc63.1 (by rw [intsD_length]; exact hc63.2) rfl rfl) ?_
       exact AU_to (by kernel_rfl) hS89 (Weak_keep 0 hm [24, 25, 26, 30, 218, 222, 230] [0] _ _ rfl rfl rfl)
      refine US_of 23 rfl rfl ?_
      refine AOps_alloc 31 _ _ (colD Col.zero) (zero_of Try.typeInfo29 rfl) (by rfl) rfl rfl rfl rfl ?_
      refine AOps_nil ?_
      exact AU_to (by kernel_rfl) hS96 (Weak_keep 0 hm [24, 25, 26, 30, 31, 218, 222, 228] [0, 1] _ _ rfl rfl rfl)
     ·refine US_of 10 rfl rfl ?_
      refine AOps_q 223 _ rfl rfl rfl (QOp_load_pv _ _ _ _ _ rfl Try.isAgg24 rfl (rowsD_get _ _ [] (by omega))) ?_
      refine AOps_nil ?_
      refine AU_u 11 224 _ rfl (by kernel_rfl) rfl rfl rfl (UOp_indexAddr_sl _ _ _ _ _ _ _ _ rfl Try.underlying24 Try.sizeOf2 hc62.1 (by rw [intsD_length]; exact hc62.2) rfl rfl) ?_
      refine AU_all [0, 4, 12, 16, 23] (by kernel_rfl) rfl (allc ?_ (allc ?_ (allc ?_ (allc ?_ (allc ?_ (fun _ h => nomatch h))))))
      ·refine US_of 0 rfl rfl ?_
       refine AOps_q 213 _ rfl rfl rfl (QOp_loadN_ptr _ _ _ _ _ _ _ rfl Try.isAgg29 Try.sizeOf29 rfl rfl (colD_all _) (colD_length _)) ?_
       refine AOps_nil ?_
       exact AU_to (by kernel_rfl) hS94 (Weak_keep 0 hm [24, 25, 26, 30, 213, 216, 224, 228] [0] _ _ rfl rfl rfl)
      ·refine US_of 4 rfl rfl ?_
       refine AOps_q 217 _ rfl rfl rfl (QOp_load_pv _ _ _ _ _ rfl Try.isAgg24 rfl (rowsD_get _ _ [] (by omega))) ?_
       refine AOps_nil ?_
       refine AU_u 5 218 _ rfl (by kernel_rfl) rfl rfl rfl (UOp_indexAddr_sl _ _ _ _ _ _ _ _ rfl Try.underlying24 Try.sizeOf2 hc61.1 (by rw [intsD_length]; exact hc61.2) rfl rfl) ?_
       exact AU_to (by kernel_rfl) hS88 (Weak_keep 0 hm [24, 25, 26, 30, 218, 224, 228] [0] _ _ rfl rfl rfl)
      ·refine US_of 12 rfl rfl ?_
       refine AOps_q 225 _ rfl rfl rfl (QOp_load_pv _ _ _ _ _ rfl Try.isAgg2 rfl (intsD_get _ _ 0 (by omega))) ?_
       refine AOps_nil ?_
       refine AU_all [0, 4, 16, 23] (by kernel_rfl) rfl (allc ?_ (allc ?_ (allc ?_ (allc ?_ (fun _ h => nomatch h)))))
       ·refine US_of 0 rfl rfl ?_
        refine AOps_q 213 _ rfl rfl rfl (QOp_loadN_ptr _ _ _ _ _ _ _ rfl Try.isAgg29 Try.sizeOf29 rfl rfl (colD_all _) (colD_length _)) ?_
        refine AOps_nil ?_
        exact AU_to (by kernel_rfl) hS83 (Weak_keep 0 hm [24, 25, 26, 30, 213, 216, 225, 228] [0] _ _ rfl rfl rfl)
       ·refine US_of 4 rfl rfl ?_
        refine AOps_q 217 _ rfl rfl rfl (QOp_load_pv _ _ _ _ _ rfl Try.isAgg24 rfl (rowsD_get _ _ [] (by omega))) ?_
        refine AOps_nil ?_
        refine AU_u 5 218 _ rfl (by kernel_rfl) rfl rfl rfl (UOp_indexAddr_sl _ _ _ _ _ _ _ _ rfl Try.underlying24 Try.sizeOf2 hc61.1 (by rw [intsD_length]; exact hc61.2) rfl rfl) ?_
        exact AU_to (by kernel_rfl) hS74 (Weak_keep 0 hm [24, 25, 26, 30, 218, 225, 228] [0] _ _ rfl rfl rfl)
       ·refine US_of 16 rfl rfl ?_
        refine AOps_q 229 _ rfl rfl rfl (QOp_load_pv _ _ _ _ _ rfl Try.isAgg24 rfl (rowsD_get _ _ [] (by omega))) ?_
        refine AOps_nil ?_
        refine AU_u 17 230 _ rfl (by kernel_rfl) rfl rfl rfl (UOp_indexAddr_sl _ _ _ _ _ _ _ _ rfl Try.underlying24 Try.sizeOf2 hc63.1 (by rw [intsD_length]; exact hc63.2) rfl rfl) ?_
        exact AU_to (by kernel_rfl) hS78 (Weak_keep 0 hm [24, 25, 26, 30, 216, 225, 230] [0] _ _ rfl rfl rfl)
       refine US_of 23 rfl rfl ?_
       refine AOps_alloc 31 _ _ (colD Col.zero) (zero_of Try.typeInfo29 rfl) (by rfl) rfl rfl rfl rfl ?_
       refine AOps_nil ?_
       exact AU_to (by kernel_rfl) hS90 (Weak_keep 0 hm [24, 25, 26, 30, 31, 216, 225, 228] [0, 1] _ _ rfl rfl rfl)
      ·refine US_of 16 rfl rfl ?_
       refine AOps_q 229 _ rfl rfl rfl (QOp_load_pv _ _ _ _ _ rfl Try.isAgg24 rfl (rowsD_get _ _ [] (by omega))) ?_
       refine AOps_nil ?_
       refine AU_u 17 230 _ rfl (by kernel_rfl) rfl rfl rfl (UOp_indexAddr_sl _ _ _ _ _ _ _ _ rfl Try.underlying24 Try.sizeOf2 hc63.1 (by rw [intsD_length]; exact hc63.2) rfl rfl) ?_
       exact AU_to (by kernel_rfl) hS91 (Weak_keep 0 hm [24, 25, 26, 30, 216, 224, 230] [0] _ _ rfl rfl rfl)
      refine US_of 23 rfl rfl ?_
      refine AOps_alloc 31 _ _ (colD Col.zero) (zero_of Try.typeInfo29 rfl) (by rfl) rfl rfl rfl rfl ?_
      refine AOps_nil ?_
      exact AU_to (by kernel_rfl) hS97 (Weak_keep 0 hm [24, 25, 26, 30, 31, 216, 224, 228] [0, 1] _ _ rfl rfl rfl)
     ·refine US_of 16 rfl rfl ?_
      refine AOps_q 229 _ rfl rfl rfl (QOp_load_pv _ _ _ _ _ rfl Try.isAgg24 rfl (rowsD_get _ _ [] (by omega))) ?_
      refine AOps_nil ?_
      refine AU_u 17 230 _ rfl (by kernel_rfl) rfl rfl rfl (UOp_indexAddr_sl _ _ _ _ _ _ _ _ rfl Try.underlying24 Try.sizeOf2 hc63.1 (by rw [intsD_length]; exact hc63.2) rfl rfl) ?_
      refine AU_all [0, 4, 10, 18, 23] (by kernel_rfl) rfl (allc ?_ (allc ?_ (allc ?_ (allc ?_ (allc ?_ (fun _ h => nomatch h))))))
      ·refine US_of 0 rfl rfl ?_
       refine AOps_q 213 _ rfl rfl rfl (QOp_loadN_ptr _ _ _ _ _ _ _ rfl Try.isAgg29 Try.sizeOf29 rfl rfl (colD_all _) (colD_length _)) ?_
       refine AOps_nil ?_
       exact AU_to (by kernel_rfl) hS95 (Weak_keep 0 hm [24, 25, 26, 30, 213, 216, 222, 230] [0] _ _ rfl rfl rfl)
      ·refine US_of 4 rfl rfl ?_
       refine AOps_q 217 _ rfl rfl rfl (QOp_load_pv _ _ _ _ _ rfl Try.isAgg24 rfl (rowsD_get _ _ [] (by omega))) ?_
       refine AOps_nil ?_
       refine AU_u 5 218 _ rfl (by kernel_rfl) rfl rfl rfl (UOp_indexAddr_sl _ _ _ _ _ _ _ _ rfl Try.underlying24 Try.sizeOf2 hc61.1 (by rw [intsD_length]; exact hc61.2) rfl rfl) ?_
       exact AU_to (by kernel_rfl) hS89 (Weak_keep 0 hm [24, 25, 26, 30, 218, 222, 230] [0] _ _ rfl rfl rfl)
      ·refine US_of 10 rfl rfl ?_
       refine AOps_q 223 _ rfl rfl rfl (QOp_load_pv _ _ _ _ _ rfl Try.isAgg24 rfl (rowsD_get _ _ [] (by omega))) ?_
       refine AOps_nil ?_
       refine AU_u 11 224 _ rfl (by kernel_rfl) rfl rfl rfl (UOp_indexAddr_sl _ _ _ _ _ _ _ _ rfl Try.underlying24 Try.sizeOf2 hc62.1 (by rw [intsD_length]; exact hc62.2) rfl rfl) ?_
       exact AU_to (by kernel_rfl) hS91 (Weak_keep 0 hm [24, 25, 26, 30, 216, 224, 230] [0] _ _ rfl rfl rfl)
      ·refine US_of 18 rfl rfl ?_
       refine AOps_q 231 _ rfl rfl rfl (QOp_load_pv _ _ _ _ _ rfl Try.isAgg2 rfl (intsD_get _ _ 0 (by omega))) ?_
       refine AOps_nil ?_
       refine AU_all [0, 4, 10, 23] (by kernel_rfl) rfl (allc ?_ (allc ?_ (allc ?_ (allc ?_ (fun _ h => nomatch h)))))
       ·refine US_of 0 rfl rfl ?_
        refine AOps_q 213 _ rfl rfl rfl (QOp_loadN_ptr _ _ _ _ _ _ _ rfl Try.isAgg29 Try.sizeOf29 rfl rfl (colD_all _) (colD_length _)) ?_
        refine AOps_nil ?_
        exact AU_to (by kernel_rfl) hS85 (Weak_keep 0 hm [24, 25, 26, 30, 213, 216, 222, 231] [0] _ _ rfl rfl rfl)
       ·refine US_of 4 rfl rfl ?_
        refine AOps_q 217 _ rfl rfl rfl (QOp_load_pv _ _ _ _ _ rfl Try.isAgg24 rfl (rowsD_get _ _ [] (by omega))) ?_
        refine AOps_nil ?_
        refine AU_u 5 218 _ rfl (by kernel_rfl) rfl rfl rfl (UOp_indexAddr_sl _ _ _ _ _ _ _ _ rfl Try.underlying24 Try.sizeOf2 hc61.1 (by rw [intsD_length]; exact hc61.2) rfl rfl) ?_
        exact AU_to (by kernel_rfl) hS76 (Weak_keep 0 hm [24, 25, 26, 30, 218, 222, 231] [0] _ _ rfl rfl rfl)
       ·refine US_of 10 rfl rfl ?_
        refine AOps_q 223 _ rfl rfl rfl (QOp_load_pv _ _ _ _ _ rfl Try.isAgg24 rfl (rowsD_get _ _ [] (by omega))) ?_
        refine AOps_nil ?_
        refine AU_u 11 224 _ rfl (by kernel_rfl) rfl rfl rfl (UOp_indexAddr_sl _ _ _ _ _ _ _ _ rfl Try.underlying24 Try.sizeOf2 hc62.1 (by rw [intsD_length]; exact hc62.2) rfl rfl) ?_
        exact AU_to (by kernel_rfl) hS79 (Weak_keep 0 hm [24, 25, 26, 30, 216, 224, 231] [0] _ _ rfl rfl rfl)
       refine US_of 23 rfl rfl ?_
       refine AOps_alloc 31 _ _ (colD Col.zero) (zero_of Try.typeInfo29 rfl) (by rfl) rfl rfl rfl rfl ?_
       refine AOps_nil ?_
       exact AU_to (by kernel_rfl) hS92 (Weak_keep 0 hm [24, 25, 26, 30, 31, 216, 222, 231] [0, 1] _ _ rfl rfl rfl)
      refine US_of 23 rfl rfl ?_
      refine AOps_alloc 31 _ _ (colD Col.zero) (zero_of Try.typeInfo29 rfl) (by rfl) rfl rfl rfl rfl ?_
      refine AOps_nil ?_
      exact AU_to (by kernel_rfl) hS98 (Weak_keep 0 hm [24, 25, 26, 30, 31, 216, 222, 230] [0, 1] _ _ rfl rfl rfl)
     refine US_of 23 rfl rfl ?_
     refine AOps_alloc 31 _ _ (colD Col.zero) (zero_of Try.typeInfo29 rfl) (by rfl) rfl rfl rfl rfl ?_
     refine AOps_nil ?_
     refine AU_all [0, 4, 10, 16] (by kernel_rfl) rfl (allc ?_ (allc ?_ (allc ?_ (allc ?_ (fun _ h => nomatch h)))))
     ·refine US_of 0 rfl rfl ?_
      refine AOps_q 213 _ rfl rfl rfl (QOp_loadN_ptr _ _ _ _ _ _ _ rfl Try.isAgg29 Try.sizeOf29 rfl rfl (colD_all _) (colD_length _)) ?_
      refine AOps_nil ?_
      exact AU_to (by kernel_rfl) hS99 (Weak_keep 0 hm [24, 25, 26, 30, 31, 213, 216, 222, 228] [0, 1] _ _ rfl rfl rfl)
     ·refine US_of 4 rfl rfl ?_
      refine AOps_q 217 _ rfl rfl rfl (QOp_load_pv _ _ _ _ _ rfl Try.isAgg24 rfl (rowsD_get _ _ [] (by omega))) ?_
      refine AOps_nil ?_
      refine AU_u 5 218 _ rfl (by kernel_rfl) rfl rfl rfl (UOp_indexAddr_sl _ _ _ _ _ _ _ _ rfl Try.underlying24 Try.sizeOf2 hc61.1 (by rw [intsD_length]; exact hc61.2) rfl rfl) ?_
      exact AU_to (by kernel_rfl) hS96 (Weak_keep 0 hm [24, 25, 26, 30, 31, 218, 222, 228] [0, 1] _ _ rfl rfl rfl)
     ·refine US_of 10 rfl rfl ?_
      refine AOps_q 223 _ rfl rfl rfl (QOp_load_pv _ _ _ _ _ rfl Try.isAgg24 rfl (rowsD_get _ _ [] (by omega))) ?_
      refine AOps_nil ?_
      refine AU_u 11 224 _ rfl (by kernel_rfl) rfl rfl rfl (UOp_indexAddr_sl _ _ _ _ _ _ _ _ rfl Try.underlying24 Try.sizeOf2 hc62.1 (by rw [intsD_length]; exact hc62.2) rfl rfl) ?_
      exact AU_to (by kernel_rfl) hS97 (Weak_keep 0 hm [24, 25, 26, 30, 31, 216, 224, 228] [0, 1] _ _ rfl rfl rfl)
     refine US_of 16 rfl rfl ?_
     refine AOps_q 229 _ rfl rfl rfl (QOp_load_pv _ _ _ _ _ rfl Try.isAgg24 rfl (rowsD_get _ _ [] (by omega))) ?_
     refine AOps_nil ?_
     refine AU_u 17 230 _ rfl (by kernel_rfl) rfl rfl rfl (UOp_indexAddr_sl _ _ _ _ _ _ _ _ rfl Try.underlying24 Try.sizeOf2 hc63.1 (by rw [intsD_length]; exact hc63.2) rfl rfl) ?_
     exact AU_to (by kernel_rfl) hS98 (Weak_keep 0 hm [24, 25, 26, 30, 31, 216, 222, 230] [0, 1] _ _ rfl rfl rfl)
    refine kR ?_
    refine AOps_q 236 _ rfl rfl rfl (QOp_loadN_ptr _ _ _ _ _ _ _ rfl Try.isAgg29 Try.sizeOf29 rfl rfl (colD_all _) (colD_length _)) ?_
    refine kM 1 rfl ?_
    obtain ⟨r65, hr65, h⟩ := bindO h
    refine kC [] 238 (.tup [bV r65.1, iV r65.2]) [.box (colD r43.1), .box (colD r64.1)] rfl Try.call9 rfl rfl (impl_AvoidsSizes_ac k r64.1 r43.2 _ hr65) rfl ?_
    refine kN 5 rfl ?_
    refine kL (fun s69 => [(24, .ptr 0 0), (25, .d (.sl none (intsD r43.2))), (26, .d (.sl none (rowsD (r44.1.getD [])))), (30, iV x51), (255, bV s69)]) (fun s69 => [.box (colD r43.1)]) h (fun s69 h => ?_) (fun s69 h => ?_)
    ·refine (ACode_region ?_)
     refine kM 1 rfl ?_
     refine AOps_q 242 _ rfl rfl rfl (QOp_neq _ _ _ _ _ _ _ rfl rfl rfl) ?_
     refine kM 1 rfl ?_
     refine AOps_case 243 _ rfl (fun hb66 => ?_) (fun hb66 => ?_)
     ·have h := iteT hb66 h
      refine AOps_skip 244 rfl rfl rfl ?_
      refine AOps_skip 245 rfl rfl rfl ?_
      refine kM 2 rfl ?_
      refine AOps_skip 248 rfl rfl rfl ?_
      refine AOps_skip 249 rfl rfl rfl ?_
      refine kM 2 rfl ?_
      refine AOps_skip 252 rfl rfl rfl ?_
      refine AOps_skip 253 rfl rfl rfl ?_
      refine AOps_skip 254 rfl rfl rfl ?_
      refine kN 1 rfl ?_
      cases h
      exact Weak_keep 0 hm [24, 25, 26, 30, 255] [0] _ _ rfl rfl rfl
     have h := iteF hb66 h
     refine kM 1 rfl ?_
     refine AOps_q 245 _ rfl rfl rfl (QOp_neq _ _ _ _ _ _ _ rfl rfl rfl) ?_
     refine kM 2 rfl ?_
     refine AOps_case 247 _ rfl (fun hb67 => ?_) (fun hb67 => ?_)
     ·have h := iteT hb67 h
      refine AOps_skip 248 rfl rfl rfl ?_
      refine AOps_skip 249 rfl rfl rfl ?_
      refine kM 2 rfl ?_
      refine AOps_skip 252 rfl rfl rfl ?_
      refine AOps_skip 253 rfl rfl rfl ?_
      refine AOps_skip 254 rfl rfl rfl ?_
      refine kN 1 rfl ?_
      cases h
      exact Weak_keep 0 hm [24, 25, 26, 30, 255] [0] _ _ rfl rfl rfl
     have h := iteF hb67 h
     refine kM 1 rfl ?_
     refine AOps_q 249 _ rfl rfl rfl (QOp_not _ _ _ rfl rfl) ?_
     refine kM 2 rfl ?_
     refine AOps_case 251 _ rfl (fun hb68 => ?_) (fun hb68 => ?_)
     ·have h := iteT hb68 h
      refine AOps_skip 252 rfl rfl rfl ?_
      refine AOps_skip 253 rfl rfl rfl ?_
      refine AOps_skip 254 rfl rfl rfl ?_
      refine kN 1 rfl ?_
      cases h
      exact Weak_keep 0 hm [24, 25, 26, 30, 255] [0] _ _ rfl rfl rfl
     have h := iteF hb68 h
     refine AOps_q 252 _ rfl rfl rfl (QOp_loadN_ptr _ _ _ _ _ _ _ rfl Try.isAgg29 Try.sizeOf29 rfl rfl (colD_all _) (colD_length _)) ?_
     refine AOps_q 253 _ rfl rfl rfl (QOp_loadN_ptr _ _ _ _ _ _ _ rfl Try.isAgg29 Try.sizeOf29 rfl rfl (colD_all _) (colD_length _)) ?_
     refine AOps_q 254 _ rfl rfl rfl (QOp_eqCol _ _ _ _ _ _ _ _ _ _ _ _ rfl rfl rfl Try.underlying29 (by kernel_rfl) (by kernel_rfl) (by decide) (by decide) (by decide) rfl rfl rfl rfl rfl rfl Try.underlying2 Try.underlying27 Try.underlying5 Try.sizeOf5 Try.sizeOf27) ?_
     refine kN 1 rfl ?_
     cases h
     exact Weak_keep 0 hm [24, 25, 26, 30, 255] [0] _ _ rfl rfl rfl
    refine kI h rfl (fun h _ => ?_) (fun h _ => ?_)
    ·refine kR ?_
     refine kN 1 rfl ?_
     refine ACode_ret ?_
     obtain ⟨rr, hz76, h2⟩ := bindO h
     obtain rfl := Option.some.inj h2
     obtain rfl := Option.some.inj (show some rr = some _ from hks71)
     have h := hz76
     cases h
     have h := hks72
     cases h
     exact ⟨_, _, fun r a w h => ⟨r, h⟩, _, _, [], _, (.cons (ResV_tmp _ _ rfl) .nil), rfl, rfl, rfl, rfl, rfl⟩
    refine ACode_skip ?_
    cases h
    exact ⟨_, rfl, Weak_keep 0 hm [24, 25, 26, 30] [0] _ _ rfl rfl rfl⟩
   refine (ACode_region ?_)
   refine kM 1 rfl ?_
   refine AOps_q 205 _ rfl rfl rfl (QOp_add _ _ _ _ _ _ _ rfl rfl rfl) ?_
   refine kN 1 rfl ?_
   exact ⟨k0, _, _, Nat.lt_succ_self _, Weak_keep 0 hm [24, 25, 26, 30] [0] _ _ rfl rfl rfl, _, rfl, rfl, h⟩
 refine kR ?_
 refine kN 1 rfl ?_
 refine ACode_ret ?_
 cases h
 exact ⟨_, _, fun r a w h => ⟨r, h⟩, _, _, [], _, (.cons (ResV_tmp _ _ rfl) .nil), rfl, rfl, rfl, rfl, rfl⟩

end Go.Proofs.Ytfnbhfobgimnjaa
