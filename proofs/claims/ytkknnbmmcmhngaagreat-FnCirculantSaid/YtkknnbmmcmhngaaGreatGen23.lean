/- Plain functions of the program and that the program computes them: printed by the own tool gen.py. No conditions. -/
import Derived.Test.YtkknnbmmcmhngaaGreatGen23c
set_option linter.unusedVariables false
set_option linter.unusedSimpArgs false
namespace Go.Proofs.YtkknnbmmcmhngaaGreat
open Go Go.RowKit Ab

-- loop.example/g01362/laws.FnCirculant
def laws_FnCirculant_l0 (k : Nat) (r3 : Col) (r6 : Option (List Int) × Int) : Nat → Int → Option (Sum (Unit) (Bool))
 | 0, _ => none
 | k0 + 1, x28 => (letO (if decide (x28 < ((r6.1.getD []).length : Int)) then decide (x28 < 6) else false) fun (s30 : Bool) => (if s30 then some (.inl ()) else (some (.inl ())).bind fun rr => some (.inr rr)) : Option (Sum (Unit) (Sum (Unit) (Bool)))).bind fun os32 => (match os32 with | .inl s32 => ((if 0 ≤ x28 ∧ x28 < ((r6.1.getD []).length : Int) then (impl_TurnColouring k r3 ((r6.1.getD []).getD x28.toNat 0)).bind fun r34 => letO (if !decide (r34.2 = 0) then true else !(r34.1.eqb r3)) fun (s36 : Bool) => (if s36 then (some (.inr false)).bind fun rr => some (.inr rr) else some (.inl ())) else none) : Option (Sum (Unit) (Sum (Unit) (Bool)))).bind fun os38 => (match os38 with | .inl s38 => laws_FnCirculant_l0 k r3 r6 k0 (w64 (x28 + 1)) | .inr rr => some rr) | .inr rr => some rr)
def laws_FnCirculant_l1 (r40 : Col) : Nat → Int → Option (Int)
 | 0, _ => none
 | k1 + 1, x49 => (if 0 ≤ IntKind.u64.wrap x49 then (if decide (bShl .i64 1 (IntKind.u64.wrap x49) < r40.p) then laws_FnCirculant_l1 r40 k1 (w64 (x49 + 1)) else some x49) else none)
def laws_FnCirculant (k : Nat) (p0 : List UInt8) : Option (Bool) :=
 (if (laws_big p0) then some true else (spec_DrawListOfCircular k p0).bind fun r3 => (impl_ListOfCircular k r3).bind fun r4 => (spec_ListOfCircular k r3).bind fun r5 => (impl_MultipliersOf k r3).bind fun r6 => (spec_MultipliersOf k r3).bind fun r7 => (((if !decide (r4.2 = r5.2) then some true else (laws_likeInts k (r4.1.getD []) r5.1).bind fun r9 => (if !r9 then some true else (if !decide (r6.2 = r7.2) then some true else (laws_likeInts k (r6.1.getD []) r7.1).bind fun r12 => (if !r12 then some true else some (!decide (r4.2 = r6.2)))))) : Option (Bool)).bind fun s14 => (if s14 then some (.inr false) else some (.inl ())) : Option (Sum (Unit) (Bool))).bind fun os16 => (match os16 with | .inl s16 => ((if decide (r4.2 = 0) then (impl_CircularOf k r3.p r3.k (r4.1.getD [])).bind fun r18 => (impl_IsBalanced k r3).bind fun r19 => (((if !decide (r18.2 = 0) then some true else (if !decide (r19.2 = 0) then some true else (if !(r18.1.eqb r3) then some true else (if !r19.1 then some true else (laws_hasInt k (r6.1.getD []) 1).bind fun r24 => some (!r24))))) : Option (Bool)).bind fun s25 => (if s25 then (some (.inr false)).bind fun rr => some (.inr rr) else some (.inl ())) : Option (Sum (Unit) (Sum (Unit) (Bool)))).bind fun os27 => (match os27 with | .inl s27 => laws_FnCirculant_l0 k r3 r6 k 0 | .inr rr => some rr) else some (.inl ())) : Option (Sum (Unit) (Bool))).bind fun os39 => (match os39 with | .inl s39 => (spec_DrawListOfDigital k p0).bind fun r40 => (impl_ListOfDigital k r40).bind fun r41 => (spec_ListOfDigital k r40).bind fun r42 => (((if !decide (r41.2 = r42.2) then some true else (laws_likeInts k (r41.1.getD []) r42.1).bind fun r44 => some (!r44)) : Option (Bool)).bind fun s45 => (if s45 then some (.inr false) else some (.inl ())) : Option (Sum (Unit) (Bool))).bind fun os47 => (match os47 with | .inl s47 => ((if decide (r41.2 = 0) then (laws_FnCirculant_l1 r40 k 0 : Option (Int)).bind fun s52 => (impl_DigitalOf k s52 r40.k (r41.1.getD [])).bind fun r53 => (impl_IsBalanced k r40).bind fun r54 => letO (if !decide (r53.2 = 0) then true else (if !decide (r54.2 = 0) then true else (if !(r53.1.eqb r40) then true else !r54.1))) fun (s58 : Bool) => (if s58 then some (.inr false) else some (.inl ())) else some (.inl ())) : Option (Sum (Unit) (Bool))).bind fun os60 => (match os60 with | .inl s60 => (spec_DrawTurnColouring k p0).bind fun r61 => (impl_TurnColouring k r61.1 r61.2).bind fun r62 => (spec_TurnColouring k r61.1 r61.2).bind fun r63 => (spec_DrawBySquares k p0).bind fun r64 => (impl_BySquares k r64).bind fun r65 => (spec_BySquares k r64).bind fun r66 => (spec_DrawCircularOf k p0).bind fun r67 => (impl_CircularOf k r67.1 r67.2.1 r67.2.2).bind fun r68 => (spec_CircularOf k r67.1 r67.2.1 r67.2.2).bind fun r69 => (spec_DrawDigitalOf k p0).bind fun r70 => (impl_DigitalOf k r70.1 r70.2.1 r70.2.2).bind fun r71 => (spec_DigitalOf k r70.1 r70.2.1 r70.2.2).bind fun r72 => (impl_IsBalanced k r3).bind fun r73 => (spec_IsBalanced k r3).bind fun r74 => (letO (if !decide (r62.2 = r63.2) then true else (if !(r62.1.eqb r63.1) then true else (if !decide (r65.2 = r66.2) then true else (if !(r65.1.eqb r66.1) then true else (if !decide (r68.2 = r69.2) then true else (if !(r68.1.eqb r69.1) then true else (if !decide (r71.2 = r72.2) then true else (if !(r71.1.eqb r72.1) then true else (if !decide (r73.2 = r74.2) then true else !(r73.1 == r74.1)))))))))) fun (s84 : Bool) => (if s84 then some (.inr false) else some (.inl ())) : Option (Sum (Unit) (Bool))).bind fun os86 => (match os86 with | .inl s86 => (if decide (r65.2 = 0) then (impl_ExchangeColours k r65.1 ([1, 0])).bind fun r88 => letO (if decide (r64 = 5) then 2 else 3) fun (s90 : Int) => letO (if decide (r64 = 13) then 2 else s90) fun (s92 : Int) => (impl_TurnColouring k r65.1 s92).bind fun r93 => letO (if decide (r88.2 = 0) then (if decide (r93.2 = 0) then (r93.1.eqb r88.1) else false) else false) fun (s96 : Bool) => some s96 else some true) | .inr rr => some rr) | .inr rr => some rr) | .inr rr => some rr) | .inr rr => some rr) | .inr rr => some rr))
set_option maxRecDepth 100000 in
theorem laws_FnCirculant_ac (k : Nat) (p0 : List UInt8) (r : Bool) (h : laws_FnCirculant k p0 = some r) : AC Tryz.prog 5 [.d (.sl none (bysD p0))] [] (fun res H' => res = [bV r] ∧ H' = []) := by
 refine AC_of_body true Tryz.func5 rfl Tryz.ntmps5 (rvs := [.tmp 2]) rfl rfl (fun G hG => ?_)
 have hm : G.H.length = 0 := by rw [hG]; rfl
 have hz : zeroG G.H = true := by rw [hG]; rfl
 unfold laws_FnCirculant at h
 refine kR ?_
 refine kN 1 rfl ?_
 refine ACode_seq ?_
 refine kR ?_
 refine kM 1 rfl ?_
 refine kC [] 64 (bV (laws_big p0)) [] rfl Tryz.call6 rfl rfl (laws_big_ac p0) rfl ?_
 refine AOps_nil ?_
 refine kI h rfl (fun h _ => ?_) (fun h _ => ?_)
 ·refine kR ?_
  refine kN 1 rfl ?_
  refine ACode_ret ?_
  cases h
  exact ⟨_, _, fun r a w h => ⟨r, h⟩, _, _, [], _, (.cons (ResV_tmp _ _ rfl) .nil), rfl, rfl, rfl, rfl, rfl⟩
 refine ACode_skip ?_
 refine kR ?_
 refine kM 1 rfl ?_
 obtain ⟨r3, hr3, h⟩ := bindO h
 refine kC [] 66 (.d (.agg (colD r3))) [] rfl Tryz.call41 rfl rfl (spec_DrawListOfCircular_ac k p0 _ hr3) rfl ?_
 refine AOps_alloc 3 _ _ (colD Col.zero) (zero_of Tryz.typeInfo26 rfl) (by rfl) rfl rfl rfl rfl ?_
 refine AOps_store _ _ _ _ _ _ (colD _) _ _ rfl rfl rfl rfl rfl rfl rfl (colD_one _) (by rw [colD_length]; exact Tryz.sizeOf26) (by rw [colD_length, colD_length]; decide) (colD_whole _ _) ?_
 refine AOps_nil ?_
 refine kR ?_
 refine AOps_q 68 _ rfl rfl rfl (QOp_loadN_ptr _ _ _ _ _ _ _ rfl Tryz.isAgg26 Tryz.sizeOf26 rfl rfl (colD_all _) (colD_length _)) ?_
 obtain ⟨r4, hr4, h⟩ := bindO h
 refine kC [] 69 (.tup [.d (.sl none (intsD (r4.1.getD []))), iV r4.2]) [.box (colD r3)] rfl Tryz.call42 rfl rfl (AC_frz rfl (frz_cons frz_nil) (impl_ListOfCircular_ac k r3 _ hr4)) rfl ?_
 refine kN 5 rfl ?_
 refine kR ?_
 refine AOps_q 73 _ rfl rfl rfl (QOp_loadN_ptr _ _ _ _ _ _ _ rfl Tryz.isAgg26 Tryz.sizeOf26 rfl rfl (colD_all _) (colD_length _)) ?_
 obtain ⟨r5, hr5, h⟩ := bindO h
 refine kC [] 74 (.tup [.d (.sl none (intsD r5.1)), iV r5.2]) [.box (colD r3)] rfl Tryz.call43 rfl rfl (spec_ListOfCircular_ac k r3 _ hr5) rfl ?_
 refine kN 5 rfl ?_
 refine kR ?_
 refine AOps_q 78 _ rfl rfl rfl (QOp_loadN_ptr _ _ _ _ _ _ _ rfl Tryz.isAgg26 Tryz.sizeOf26 rfl rfl (colD_all _) (colD_length _)) ?_
 obtain ⟨r6, hr6, h⟩ := bindO h
 refine kC [] 79 (.tup [.d (.sl none (intsD (r6.1.getD []))), iV r6.2]) [.box (colD r3)] rfl Tryz.call44 rfl rfl (AC_frz rfl (frz_cons frz_nil) (impl_MultipliersOf_ac k r3 _ hr6)) rfl ?_
 refine kN 5 rfl ?_
 refine kR ?_
 refine AOps_q 83 _ rfl rfl rfl (QOp_loadN_ptr _ _ _ _ _ _ _ rfl Tryz.isAgg26 Tryz.sizeOf26 rfl rfl (colD_all _) (colD_length _)) ?_
 obtain ⟨r7, hr7, h⟩ := bindO h
 refine kC [] 84 (.tup [.d (.sl none (intsD r7.1)), iV r7.2]) [.box (colD r3)] rfl Tryz.call45 rfl rfl (spec_MultipliersOf_ac k r3 _ hr7) rfl ?_
 refine kN 5 rfl ?_
 refine kO (fun s16 => [(0, .d (.sl none (bysD p0))), (3, .ptr 0 0), (4, .d (.sl none (intsD (r4.1.getD [])))), (5, iV r4.2), (8, .d (.sl none (intsD (r6.1.getD []))))]) (fun s16 => [.box (colD r3)]) h (fun os16 h hks16 => ?_) (fun s16 h => ?_)
 ·refine kB (fun s14 => [(0, .d (.sl none (bysD p0))), (3, .ptr 0 0), (4, .d (.sl none (intsD (r4.1.getD [])))), (5, iV r4.2), (8, .d (.sl none (intsD (r6.1.getD [])))), (111, bV s14)]) (fun s14 => [.box (colD r3)]) h (fun s14 h => ?_) (fun s14 h => ?_)
  ·refine (ACode_region ?_)
   refine kM 2 rfl ?_
   refine AOps_q 89 _ rfl rfl rfl (QOp_neq _ _ _ _ _ _ _ rfl rfl rfl) ?_
   refine kM 1 rfl ?_
   refine AOps_case 90 _ rfl (fun hb8 => ?_) (fun hb8 => ?_)
   ·have h := iteT hb8 h
    refine AOps_skip 91 rfl rfl rfl ?_
    refine AOps_skip 92 rfl rfl rfl ?_
    refine AOps_skip 93 rfl rfl rfl ?_
    refine AOps_skip 94 rfl rfl rfl ?_
    refine kM 2 rfl ?_
    refine AOps_skip 97 rfl rfl rfl ?_
    refine AOps_skip 98 rfl rfl rfl ?_
    refine AOps_skip 99 rfl rfl rfl ?_
    refine kM 2 rfl ?_
    refine AOps_skip 102 rfl rfl rfl ?_
    refine AOps_skip 103 rfl rfl rfl ?_
    refine AOps_skip 104 rfl rfl rfl ?_
    refine AOps_skip 105 rfl rfl rfl ?_
    refine kM 2 rfl ?_
    refine AOps_skip 108 rfl rfl rfl ?_
    refine AOps_skip 109 rfl rfl rfl ?_
    refine AOps_skip 110 rfl rfl rfl ?_
    refine kN 1 rfl ?_
    cases h
    exact Weak_keep 0 hm [0, 3, 4, 5, 8, 111] [0] _ _ rfl rfl rfl
   have h := iteF hb8 h
   refine kM 2 rfl ?_
   obtain ⟨r9, hr9, h⟩ := bindO h
   refine kC [] 93 (bV r9) [.box (colD r3)] rfl Tryz.call32 rfl rfl (laws_likeInts_ac k (r4.1.getD []) r5.1 _ hr9) rfl ?_
   refine AOps_q 94 _ rfl rfl rfl (QOp_not _ _ _ rfl rfl) ?_
   refine kM 2 rfl ?_
   refine AOps_case 96 _ rfl (fun hb10 => ?_) (fun hb10 => ?_)
   ·have h := iteT hb10 h
    refine AOps_skip 97 rfl rfl rfl ?_
    refine AOps_skip 98 rfl rfl rfl ?_
    refine AOps_skip 99 rfl rfl rfl ?_
    refine kM 2 rfl ?_
    refine AOps_skip 102 rfl rfl rfl ?_
    refine AOps_skip 103 rfl rfl rfl ?_
    refine AOps_skip 104 rfl rfl rfl ?_
    refine AOps_skip 105 rfl rfl rfl ?_
    refine kM 2 rfl ?_
    refine AOps_skip 108 rfl rfl rfl ?_
    refine AOps_skip 109 rfl rfl rfl ?_
    refine AOps_skip 110 rfl rfl rfl ?_
    refine kN 1 rfl ?_
    cases h
    exact Weak_keep 0 hm [0, 3, 4, 5, 8, 111] [0] _ _ rfl rfl rfl
   have h := iteF hb10 h
   refine kM 2 rfl ?_
   refine AOps_q 99 _ rfl rfl rfl (QOp_neq _ _ _ _ _ _ _ rfl rfl rfl) ?_
   refine kM 2 rfl ?_
   refine AOps_case 101 _ rfl (fun hb11 => ?_) (fun hb11 => ?_)
   ·have h := iteT hb11 h
    refine AOps_skip 102 rfl rfl rfl ?_
    refine AOps_skip 103 rfl rfl rfl ?_
    refine AOps_skip 104 rfl rfl rfl ?_
    refine AOps_skip 105 rfl rfl rfl ?_
    refine kM 2 rfl ?_
    refine AOps_skip 108 rfl rfl rfl ?_
    refine AOps_skip 109 rfl rfl rfl ?_
    refine AOps_skip 110 rfl rfl rfl ?_
    refine kN 1 rfl ?_
    cases h
    exact Weak_keep 0 hm [0, 3, 4, 5, 8, 111] [0] _ _ rfl rfl rfl
   have h := iteF hb11 h
   refine kM 2 rfl ?_
   obtain ⟨r12, hr12, h⟩ := bindO h
   refine kC [] 104 (bV r12) [.box (colD r3)] rfl Tryz.call32 rfl rfl (laws_likeInts_ac k (r6.1.getD []) r7.1 _ hr12) rfl ?_
   refine AOps_q 105 _ rfl rfl rfl (QOp_not _ _ _ rfl rfl) ?_
   refine kM 2 rfl ?_
   refine AOps_case 107 _ rfl (fun hb13 => ?_) (fun hb13 => ?_)
   ·have h := iteT hb13 h
    refine AOps_skip 108 rfl rfl rfl ?_
    refine AOps_skip 109 rfl rfl rfl ?_
    refine AOps_skip 110 rfl rfl rfl ?_
    refine kN 1 rfl ?_
    cases h
    exact Weak_keep 0 hm [0, 3, 4, 5, 8, 111] [0] _ _ rfl rfl rfl
   have h := iteF hb13 h
   refine kM 2 rfl ?_
   refine AOps_q 110 _ rfl rfl rfl (QOp_neq _ _ _ _ _ _ _ rfl rfl rfl) ?_
   refine kN 1 rfl ?_
   cases h
   exact Weak_keep 0 hm [0, 3, 4, 5, 8, 111] [0] _ _ rfl rfl rfl
  refine kI h rfl (fun h _ => ?_) (fun h _ => ?_)
  ·refine kR ?_
   refine kN 1 rfl ?_
   refine ACode_ret ?_
   cases h
   have h := hks16
   cases h
   exact ⟨_, _, fun r a w h => ⟨r, h⟩, _, _, [], _, (.cons (ResV_tmp _ _ rfl) .nil), rfl, rfl, rfl, rfl, rfl⟩
  refine ACode_skip ?_
  cases h
  exact ⟨_, rfl, Weak_keep 0 hm [0, 3, 4, 5, 8] [0] _ _ rfl rfl rfl⟩
 refine kO (fun s39 => [(0, .d (.sl none (bysD p0))), (3, .ptr 0 0)]) (fun s39 => [.box (colD r3)]) h (fun os39 h hks39 => ?_) (fun s39 h => ?_)
 ·refine kR ?_
  refine kM 1 rfl ?_
  refine AOps_q 113 _ rfl rfl rfl (QOp_eql _ _ _ _ _ _ _ rfl rfl rfl) ?_
  refine AOps_nil ?_
  refine kI h rfl (fun h _ => ?_) (fun h _ => ?_)
  ·refine kR ?_
   refine AOps_q 115 _ rfl rfl rfl (QOp_fieldAddr_ptr _ _ _ _ _ _ 0 _ _ rfl Tryz.underlying26 rfl _ Tryz.sizeOf2 rfl rfl rfl rfl) ?_
   refine AOps_q 116 _ rfl rfl rfl (QOp_load_ptr _ _ _ _ _ _ rfl Tryz.isAgg2 rfl rfl rfl) ?_
   refine AOps_q 117 _ rfl rfl rfl (QOp_fieldAddr_ptr _ _ _ _ _ _ 1 _ _ rfl Tryz.underlying26 rfl _ Tryz.sizeOf2 rfl rfl rfl rfl) ?_
   refine AOps_q 118 _ rfl rfl rfl (QOp_load_ptr _ _ _ _ _ _ rfl Tryz.isAgg2 rfl rfl rfl) ?_
   refine kM 1 rfl ?_
   obtain ⟨r18, hr18, h⟩ := bindO h
   refine kC [] 120 (.tup [.d (.agg (colD r18.1)), iV r18.2]) [.box (colD r3)] rfl Tryz.call46 rfl rfl (impl_CircularOf_ac k r3.p r3.k (r4.1.getD []) _ hr18) rfl ?_
   refine kM 3 rfl ?_
   refine AOps_alloc 12 _ _ (colD Col.zero) (zero_of Tryz.typeInfo26 rfl) (by rfl) rfl rfl rfl rfl ?_
   refine AOps_store _ _ _ _ _ _ (colD _) _ _ rfl rfl rfl rfl rfl rfl rfl (colD_one _) (by rw [colD_length]; exact Tryz.sizeOf26) (by rw [colD_length, colD_length]; decide) (colD_whole _ _) ?_
   refine kN 1 rfl ?_
   refine kR ?_
   refine AOps_q 124 _ rfl rfl rfl (QOp_loadN_ptr _ _ _ _ _ _ _ rfl Tryz.isAgg26 Tryz.sizeOf26 rfl rfl (colD_all _) (colD_length _)) ?_
   obtain ⟨r19, hr19, h⟩ := bindO h
   refine kC [] 125 (.tup [bV r19.1, iV r19.2]) [.box (colD r3), .box (colD r18.1)] rfl Tryz.call47 rfl rfl (impl_IsBalanced_ac k r3 _ hr19) rfl ?_
   refine kN 5 rfl ?_
   refine kO (fun s27 => [(0, .d (.sl none (bysD p0))), (3, .ptr 0 0), (8, .d (.sl none (intsD (r6.1.getD []))))]) (fun s27 => [.box (colD r3)]) h (fun os27 h hks27 => ?_) (fun s27 h => ?_)
   ·refine kB (fun s25 => [(0, .d (.sl none (bysD p0))), (3, .ptr 0 0), (8, .d (.sl none (intsD (r6.1.getD [])))), (147, bV s25)]) (fun s25 => [.box (colD r3)]) h (fun s25 h => ?_) (fun s25 h => ?_)
    ·refine (ACode_region ?_)
     refine kM 1 rfl ?_
     refine AOps_q 129 _ rfl rfl rfl (QOp_neq _ _ _ _ _ _ _ rfl rfl rfl) ?_
     refine kM 1 rfl ?_
     refine AOps_case 130 _ rfl (fun hb20 => ?_) (fun hb20 => ?_)
     ·have h := iteT hb20 h
      refine AOps_skip 131 rfl rfl rfl ?_
      refine AOps_skip 132 rfl rfl rfl ?_
      refine kM 2 rfl ?_
      refine AOps_skip 135 rfl rfl rfl ?_
      refine AOps_skip 136 rfl rfl rfl ?_
      refine AOps_skip 137 rfl rfl rfl ?_
      refine kM 2 rfl ?_
      refine AOps_skip 140 rfl rfl rfl ?_
      refine AOps_skip 141 rfl rfl rfl ?_
      refine kM 2 rfl ?_
      refine AOps_skip 144 rfl rfl rfl ?_
      refine AOps_skip 145 rfl rfl rfl ?_
      refine AOps_skip 146 rfl rfl rfl ?_
      refine kN 1 rfl ?_
      cases h
      exact Weak_keep 0 hm [0, 3, 8, 147] [0] _ _ rfl rfl rfl
     have h := iteF hb20 h
     refine kM 1 rfl ?_
     refine AOps_q 132 _ rfl rfl rfl (QOp_neq _ _ _ _ _ _ _ rfl rfl rfl) ?_
     refine kM 2 rfl ?_
     refine AOps_case 134 _ rfl (fun hb21 => ?_) (fun hb21 => ?_)
     ·have h := iteT hb21 h
      refine AOps_skip 135 rfl rfl rfl ?_
      refine AOps_skip 136 rfl rfl rfl ?_
      refine AOps_skip 137 rfl rfl rfl ?_
      refine kM 2 rfl ?_
      refine AOps_skip 140 rfl rfl rfl ?_
      refine AOps_skip 141 rfl rfl rfl ?_
      refine kM 2 rfl ?_
      refine AOps_skip 144 rfl rfl rfl ?_
      refine AOps_skip 145 rfl rfl rfl ?_
      refine AOps_skip 146 rfl rfl rfl ?_
      refine kN 1 rfl ?_
      cases h
      exact Weak_keep 0 hm [0, 3, 8, 147] [0] _ _ rfl rfl rfl
     have h := iteF hb21 h
     refine AOps_q 135 _ rfl rfl rfl (QOp_loadN_ptr _ _ _ _ _ _ _ rfl Tryz.isAgg26 Tryz.sizeOf26 rfl rfl (colD_all _) (colD_length _)) ?_
     refine AOps_q 136 _ rfl rfl rfl (QOp_loadN_ptr _ _ _ _ _ _ _ rfl Tryz.isAgg26 Tryz.sizeOf26 rfl rfl (colD_all _) (colD_length _)) ?_
     refine AOps_q 137 _ rfl rfl rfl (QOp_neqCol _ _ _ _ _ _ _ _ _ _ _ _ rfl rfl rfl Tryz.underlying26 (by kernel_rfl) (by kernel_rfl) (by decide) (by decide) (by decide) rfl rfl rfl rfl rfl rfl Tryz.underlying2 Tryz.underlying24 Tryz.underlying5 Tryz.sizeOf5 Tryz.sizeOf24) ?_
     refine kM 2 rfl ?_
     refine AOps_case 139 _ rfl (fun hb22 => ?_) (fun hb22 => ?_)
     ·have h := iteT hb22 h
      refine AOps_skip 140 rfl rfl rfl ?_
      refine AOps_skip 141 rfl rfl rfl ?_
      refine kM 2 rfl ?_
      refine AOps_skip 144 rfl rfl rfl ?_
      refine AOps_skip 145 rfl rfl rfl ?_
      refine AOps_skip 146 rfl rfl rfl ?_
      refine kN 1 rfl ?_
      cases h
      exact Weak_keep 0 hm [0, 3, 8, 147] [0] _ _ rfl rfl rfl
     have h := iteF hb22 h
     refine kM 1 rfl ?_
     refine AOps_q 141 _ rfl rfl rfl (QOp_not _ _ _ rfl rfl) ?_
     refine kM 2 rfl ?_
     refine AOps_case 143 _ rfl (fun hb23 => ?_) (fun hb23 => ?_)
     ·have h := iteT hb23 h
      refine AOps_skip 144 rfl rfl rfl ?_
      refine AOps_skip 145 rfl rfl rfl ?_
      refine AOps_skip 146 rfl rfl rfl ?_
      refine kN 1 rfl ?_
      cases h
      exact Weak_keep 0 hm [0, 3, 8, 147] [0] _ _ rfl rfl rfl
     have h := iteF hb23 h
     refine kM 1 rfl ?_
     obtain ⟨r24, hr24, h⟩ := bindO h
     refine kC [] 145 (bV r24) [.box (colD r3), .box (colD r18.1)] rfl Tryz.call48 rfl rfl (laws_hasInt_ac k (r6.1.getD []) 1 _ hr24) rfl ?_
     refine AOps_q 146 _ rfl rfl rfl (QOp_not _ _ _ rfl rfl) ?_
     refine kN 1 rfl ?_
     cases h
     exact Weak_keep 0 hm [0, 3, 8, 147] [0] _ _ rfl rfl rfl
    refine kI h rfl (fun h _ => ?_) (fun h _ => ?_)
    ·refine kR ?_
     refine kN 1 rfl ?_
     refine ACode_ret ?_
     obtain ⟨rr, hz97, h2⟩ := bindO h
     obtain rfl := Option.some.inj h2
     obtain rfl := Option.some.inj (show some rr = some _ from hks27)
     have h := hz97
     cases h
     have h := hks39
     cases h
     exact ⟨_, _, fun r a w h => ⟨r, h⟩, _, _, [], _, (.cons (ResV_tmp _ _ rfl) .nil), rfl, rfl, rfl, rfl, rfl⟩
    refine ACode_skip ?_
    cases h
    exact ⟨_, rfl, Weak_keep 0 hm [0, 3, 8] [0] _ _ rfl rfl rfl⟩
   refine kR ?_
   refine kN 1 rfl ?_
   refine ACode_block ?_
   refine ACode_loopW (fun k0 E H => ∃ (x28 : Int), E = [(0, .d (.sl none (bysD p0))), (3, .ptr 0 0), (8, .d (.sl none (intsD (r6.1.getD [])))), (16, iV x28)] ∧ H = [.box (colD r3)] ∧ laws_FnCirculant_l0 k r3 r6 k0 x28 = some os39) k _ _ (Weak_keep 0 hm [0, 3, 8, 16] [0] _ _ rfl rfl rfl) ⟨_, rfl, rfl, h⟩ ?_
   clear h
   rintro k0 E H ⟨x28, rfl, rfl, h⟩
   cases k0 with
   | zero => cases (show (none : Option (Sum (Unit) (Bool))) = some _ from h)
   | succ k0 =>
    rw [laws_FnCirculant_l0] at h
    refine kO (fun s32 => [(0, .d (.sl none (bysD p0))), (3, .ptr 0 0), (8, .d (.sl none (intsD (r6.1.getD [])))), (16, iV x28)]) (fun s32 => [.box (colD r3)]) h (fun os32 h hks32 => ?_) (fun s32 h => ?_)
    ·refine kL (fun s30 => [(0, .d (.sl none (bysD p0))), (3, .ptr 0 0), (8, .d (.sl none (intsD (r6.1.getD [])))), (16, iV x28), (155, bV s30)]) (fun s30 => [.box (colD r3)]) h (fun s30 h => ?_) (fun s30 h => ?_)
     ·refine (ACode_region ?_)
      refine kM 2 rfl ?_
      refine AOps_q 150 _ rfl rfl rfl (QOp_len_sl _ _ _ _ _ _ _ (intsD_length _) rfl rfl rfl rfl Tryz.underlying27 rfl) ?_
      refine AOps_q 151 _ rfl rfl rfl (QOp_lss _ _ _ _ _ _ _ rfl rfl rfl) ?_
      refine kM 1 rfl ?_
      refine AOps_case 152 _ rfl (fun hb29 => ?_) (fun hb29 => ?_)
      ·have h := iteT hb29 h
       refine kM 1 rfl ?_
       refine AOps_q 154 _ rfl rfl rfl (QOp_lss _ _ _ _ _ _ _ rfl rfl rfl) ?_
       refine kN 1 rfl ?_
       cases h
       exact Weak_keep 0 hm [0, 3, 8, 16, 155] [0] _ _ rfl rfl rfl
      have h := iteF hb29 h
      refine AOps_skip 153 rfl rfl rfl ?_
      refine AOps_skip 154 rfl rfl rfl ?_
      refine kN 1 rfl ?_
      cases h
      exact Weak_keep 0 hm [0, 3, 8, 16, 155] [0] _ _ rfl rfl rfl
     refine kI h rfl (fun h _ => ?_) (fun h _ => ?_)
     ·refine ACode_skip ?_
      cases h
      exact ⟨_, rfl, Weak_keep 0 hm [0, 3, 8, 16] [0] _ _ rfl rfl rfl⟩
     refine ACode_exit ?_
     obtain ⟨rr, hz98, h2⟩ := bindO h
     obtain rfl := Option.some.inj h2
     obtain rfl := Option.some.inj (show some rr = some _ from hks32)
     have h := hz98
     cases h
     exact ⟨_, rfl, Weak_keep 0 hm [0, 3] [0] _ _ rfl rfl rfl⟩
    refine kO (fun s38 => [(0, .d (.sl none (bysD p0))), (3, .ptr 0 0), (8, .d (.sl none (intsD (r6.1.getD [])))), (16, iV x28)]) (fun s38 => [.box (colD r3)]) h (fun os38 h hks38 => ?_) (fun s38 h => ?_)
    ·refine ACode_block ?_
     obtain ⟨hc33, h⟩ := guardO h
     obtain ⟨r34, hr34, h⟩ := bindO h
     refine ACode_seq (ACode_reg [(0, .d (.sl none (bysD p0))), (3, .ptr 0 0), (8, .d (.sl none (intsD (r6.1.getD [])))), (16, iV x28), (17, .ptr 1 0), (18, iV r34.2)] [.box (colD r3), .box (colD r34.1)] ?_ ?_)
     ·refine ACode_anyU mixed ?_
      refine AU_cut 2 #[true, true, true, true, true, true, true, true, true, true, false, false] [(0, .d (.sl none (bysD p0))), (3, .ptr 0 0), (8, .d (.sl none (intsD (r6.1.getD [])))), (16, iV x28), (17, .ptr 1 0), (165, .d (.agg (colD r34.1))), (166, iV r34.2)] [.box (colD r3), .box (colD Col.zero)] ?_ (fun hS0 => ?_)
      ·refine AU_one 10 (by kernel_rfl) rfl rfl ?_
       refine AOps_store _ _ _ _ _ _ (colD _) _ _ rfl rfl rfl rfl rfl rfl rfl (colD_one _) (by rw [colD_length]; exact Tryz.sizeOf26) (by rw [colD_length, colD_length]; decide) (colD_whole _ _) ?_
       refine AOps_nil ?_
       refine AU_u 11 18 _ rfl (by kernel_rfl) rfl rfl rfl (UOp_assign _ _ rfl rfl) ?_
       refine AU_done (by kernel_rfl) ?_
       exact ⟨rfl, Weak_keep 0 hm [0, 3, 8, 16, 17, 18] [0, 1] _ _ rfl rfl rfl⟩
      refine AU_cut 6 #[true, true, true, true, true, false, false, false, false, true, false, false] [(0, .d (.sl none (bysD p0))), (3, .ptr 0 0), (8, .d (.sl none (intsD (r6.1.getD [])))), (16, iV x28), (17, .ptr 1 0), (159, .d (.agg (colD r3))), (163, iV ((r6.1.getD []).getD x28.toNat 0))] [.box (colD r3), .box (colD Col.zero)] ?_ (fun hS1 => ?_)
      ·refine AU_one 5 (by kernel_rfl) rfl rfl ?_
       refine kC [] 164 (.tup [.d (.agg (colD r34.1)), iV r34.2]) [.box (colD r3), .box (colD Col.zero)] rfl Tryz.call49 rfl rfl (impl_TurnColouring_ac k r3 ((r6.1.getD []).getD x28.toNat 0) _ hr34) rfl ?_
       refine AOps_nil ?_
       refine AU_u 6 158 _ rfl (by kernel_rfl) rfl rfl rfl (UOp_move _ _ rfl rfl) ?_
       refine AU_u 7 165 _ rfl (by kernel_rfl) rfl rfl rfl (UOp_extract _ _ _ _ rfl rfl rfl) ?_
       refine AU_u 8 166 _ rfl (by kernel_rfl) rfl rfl rfl (UOp_extract _ _ _ _ rfl rfl rfl) ?_
       exact AU_to (by kernel_rfl) hS0 (Weak_keep 0 hm [0, 3, 8, 16, 17, 165, 166] [0, 1] _ _ rfl rfl rfl)
      refine AU_cut 7 #[true, true, true, true, true, false, false, false, false, false, false, false] [(0, .d (.sl none (bysD p0))), (3, .ptr 0 0), (8, .d (.sl none (intsD (r6.1.getD [])))), (16, iV x28), (159, .d (.agg (colD r3))), (163, iV ((r6.1.getD []).getD x28.toNat 0))] [.box (colD r3)] ?_ (fun hS2 => ?_)
      ·refine AU_all [5, 9] (by kernel_rfl) rfl (allc ?_ (allc ?_ (fun _ h => nomatch h)))
       ·refine US_of 5 rfl rfl ?_
        refine kC [] 164 (.tup [.d (.agg (colD r34.1)), iV r34.2]) [.box (colD r3)] rfl Tryz.call49 rfl rfl (impl_TurnColouring_ac k r3 ((r6.1.getD []).getD x28.toNat 0) _ hr34) rfl ?_
        refine AOps_nil ?_
        refine AU_u 6 158 _ rfl (by kernel_rfl) rfl rfl rfl (UOp_move _ _ rfl rfl) ?_
        refine AU_u 7 165 _ rfl (by kernel_rfl) rfl rfl rfl (UOp_extract _ _ _ _ rfl rfl rfl) ?_
        refine AU_u 8 166 _ rfl (by kernel_rfl) rfl rfl rfl (UOp_extract _ _ _ _ rfl rfl rfl) ?_
        refine AU_one 9 (by kernel_rfl) rfl rfl ?_
        refine AOps_alloc 17 _ _ (colD Col.zero) (zero_of Tryz.typeInfo26 rfl) (by rfl) rfl rfl rfl rfl ?_
        refine AOps_nil ?_
        exact AU_to (by kernel_rfl) hS0 (Weak_keep 0 hm [0, 3, 8, 16, 17, 165, 166] [0, 1] _ _ rfl rfl rfl)
       refine US_of 9 rfl rfl ?_
       refine AOps_alloc 17 _ _ (colD Col.zero) (zero_of Tryz.typeInfo26 rfl) (by rfl) rfl rfl rfl rfl ?_
       refine AOps_nil ?_
       exact AU_to (by kernel_rfl) hS1 (Weak_keep 0 hm [0, 3, 8, 16, 17, 159, 163] [0, 1] _ _ rfl rfl rfl)
      refine AU_cut 7 #[true, true, true, true, false, false, false, false, false, true, false, false] [(0, .d (.sl none (bysD p0))), (3, .ptr 0 0), (8, .d (.sl none (intsD (r6.1.getD [])))), (16, iV x28), (17, .ptr 1 0), (159, .d (.agg (colD r3))), (162, .d (.pv (intsD (r6.1.getD [])) x28.toNat))] [.box (colD r3), .box (colD Col.zero)] ?_ (fun hS3 => ?_)
      ·refine AU_one 4 (by kernel_rfl) rfl rfl ?_
       refine AOps_q 163 _ rfl rfl rfl (QOp_load_pv _ _ _ _ _ rfl Tryz.isAgg2 rfl (intsD_get _ _ 0 (by omega))) ?_
       refine AOps_nil ?_
       exact AU_to (by kernel_rfl) hS1 (Weak_keep 0 hm [0, 3, 8, 16, 17, 159, 163] [0, 1] _ _ rfl rfl rfl)
      refine AU_cut 7 #[false, true, true, true, true, false, false, false, false, true, false, false] [(0, .d (.sl none (bysD p0))), (3, .ptr 0 0), (8, .d (.sl none (intsD (r6.1.getD [])))), (16, iV x28), (17, .ptr 1 0), (163, iV ((r6.1.getD []).getD x28.toNat 0))] [.box (colD r3), .box (colD Col.zero)] ?_ (fun hS4 => ?_)
      ·refine AU_one 0 (by kernel_rfl) rfl rfl ?_
       refine AOps_q 159 _ rfl rfl rfl (QOp_loadN_ptr _ _ _ _ _ _ _ rfl Tryz.isAgg26 Tryz.sizeOf26 rfl rfl (colD_all _) (colD_length _)) ?_
       refine AOps_nil ?_
       exact AU_to (by kernel_rfl) hS1 (Weak_keep 0 hm [0, 3, 8, 16, 17, 159, 163] [0, 1] _ _ rfl rfl rfl)
      refine AU_u 1 160 _ rfl (by kernel_rfl) rfl rfl rfl (UOp_move _ _ rfl rfl) ?_
      refine AU_u 2 161 _ rfl (by kernel_rfl) rfl rfl rfl (UOp_move _ _ rfl rfl) ?_
      refine AU_u 3 162 _ rfl (by kernel_rfl) rfl rfl rfl (UOp_indexAddr_sl _ _ _ _ _ _ _ _ rfl Tryz.underlying27 Tryz.sizeOf2 hc33.1 (by rw [intsD_length]; exact hc33.2) rfl rfl) ?_
      refine AU_all [0, 4, 9] (by kernel_rfl) rfl (allc ?_ (allc ?_ (allc ?_ (fun _ h => nomatch h))))
      ·refine US_of 0 rfl rfl ?_
       refine AOps_q 159 _ rfl rfl rfl (QOp_loadN_ptr _ _ _ _ _ _ _ rfl Tryz.isAgg26 Tryz.sizeOf26 rfl rfl (colD_all _) (colD_length _)) ?_
       refine AOps_nil ?_
       refine AU_all [4, 9] (by kernel_rfl) rfl (allc ?_ (allc ?_ (fun _ h => nomatch h)))
       ·refine US_of 4 rfl rfl ?_
        refine AOps_q 163 _ rfl rfl rfl (QOp_load_pv _ _ _ _ _ rfl Tryz.isAgg2 rfl (intsD_get _ _ 0 (by omega))) ?_
        refine AOps_nil ?_
        exact AU_to (by kernel_rfl) hS2 (Weak_keep 0 hm [0, 3, 8, 16, 159, 163] [0] _ _ rfl rfl rfl)
       refine US_of 9 rfl rfl ?_
       refine AOps_alloc 17 _ _ (colD Col.zero) (zero_of Tryz.typeInfo26 rfl) (by rfl) rfl rfl rfl rfl ?_
       refine AOps_nil ?_
       exact AU_to (by kernel_rfl) hS3 (Weak_keep 0 hm [0, 3, 8, 16, 17, 159, 162] [0, 1] _ _ rfl rfl rfl)
      ·refine US_of 4 rfl rfl ?_
       refine AOps_q 163 _ rfl rfl rfl (QOp_load_pv _ _ _ _ _ rfl Tryz.isAgg2 rfl (intsD_get _ _ 0 (by omega))) ?_
       refine AOps_nil ?_
       refine AU_all [0, 9] (by kernel_rfl) rfl (allc ?_ (allc ?_ (fun _ h => nomatch h)))
       ·refine US_of 0 rfl rfl ?_
        refine AOps_q 159 _ rfl rfl rfl (QOp_loadN_ptr _ _ _ _ _ _ _ rfl Tryz.isAgg26 Tryz.sizeOf26 rfl rfl (colD_all _) (colD_length _)) ?_
        refine AOps_nil ?_
        exact AU_to (by kernel_rfl) hS2 (Weak_keep 0 hm [0, 3, 8, 16, 159, 163] [0] _ _ rfl rfl rfl)
       refine US_of 9 rfl rfl ?_
       refine AOps_alloc 17 _ _ (colD Col.zero) (zero_of Tryz.typeInfo26 rfl) (by rfl) rfl rfl rfl rfl ?_
       refine AOps_nil ?_
       exact AU_to (by kernel_rfl) hS4 (Weak_keep 0 hm [0, 3, 8, 16, 17, 163] [0, 1] _ _ rfl rfl rfl)
      refine US_of 9 rfl rfl ?_
      refine AOps_alloc 17 _ _ (colD Col.zero) (zero_of Tryz.typeInfo26 rfl) (by rfl) rfl rfl rfl rfl ?_
      refine AOps_nil ?_
      refine AU_all [0, 4] (by kernel_rfl) rfl (allc ?_ (allc ?_ (fun _ h => nomatch h)))
      ·refine US_of 0 rfl rfl ?_
       refine AOps_q 159 _ rfl rfl rfl (QOp_loadN_ptr _ _ _ _ _ _ _ rfl Tryz.isAgg26 Tryz.sizeOf26 rfl rfl (colD_all _) (colD_length _)) ?_
       refine AOps_nil ?_
       exact AU_to (by kernel_rfl) hS3 (Weak_keep 0 hm [0, 3, 8, 16, 17, 159, 162] [0, 1] _ _ rfl rfl rfl)
      refine US_of 4 rfl rfl ?_
      refine AOps_q 163 _ rfl rfl rfl (QOp_load_pv _ _ _ _ _ rfl Tryz.isAgg2 rfl (intsD_get _ _ 0 (by omega))) ?_
      refine AOps_nil ?_
      exact AU_to (by kernel_rfl) hS4 (Weak_keep 0 hm [0, 3, 8, 16, 17, 163] [0, 1] _ _ rfl rfl rfl)
     refine kL (fun s36 => [(0, .d (.sl none (bysD p0))), (3, .ptr 0 0), (8, .d (.sl none (intsD (r6.1.getD [])))), (16, iV x28), (173, bV s36)]) (fun s36 => [.box (colD r3)]) h (fun s36 h => ?_) (fun s36 h => ?_)
     ·refine (ACode_region ?_)
      refine kM 1 rfl ?_
      refine AOps_q 168 _ rfl rfl rfl (QOp_neq _ _ _ _ _ _ _ rfl rfl rfl) ?_
      refine kM 1 rfl ?_
      refine AOps_case 169 _ rfl (fun hb35 => ?_) (fun hb35 => ?_)
      ·have h := iteT hb35 h
       refine AOps_skip 170 rfl rfl rfl ?_
       refine AOps_skip 171 rfl rfl rfl ?_
       refine AOps_skip 172 rfl rfl rfl ?_
       refine kN 1 rfl ?_
       cases h
       exact Weak_keep 0 hm [0, 3, 8, 16, 173] [0] _ _ rfl rfl rfl
      have h := iteF hb35 h
      refine AOps_q 170 _ rfl rfl rfl (QOp_loadN_ptr _ _ _ _ _ _ _ rfl Tryz.isAgg26 Tryz.sizeOf26 rfl rfl (colD_all _) (colD_length _)) ?_
      refine AOps_q 171 _ rfl rfl rfl (QOp_loadN_ptr _ _ _ _ _ _ _ rfl Tryz.isAgg26 Tryz.sizeOf26 rfl rfl (colD_all _) (colD_length _)) ?_
      refine AOps_q 172 _ rfl rfl rfl (QOp_neqCol _ _ _ _ _ _ _ _ _ _ _ _ rfl rfl rfl Tryz.underlying26 (by kernel_rfl) (by kernel_rfl) (by decide) (by decide) (by decide) rfl rfl rfl rfl rfl rfl Tryz.underlying2 Tryz.underlying24 Tryz.underlying5 Tryz.sizeOf5 Tryz.sizeOf24) ?_
      refine kN 1 rfl ?_
      cases h
      exact Weak_keep 0 hm [0, 3, 8, 16, 173] [0] _ _ rfl rfl rfl
     refine kI h rfl (fun h _ => ?_) (fun h _ => ?_)
     ·refine kR ?_
      refine kN 1 rfl ?_
      refine ACode_ret ?_
      obtain ⟨rr, hz99, h2⟩ := bindO h
      obtain rfl := Option.some.inj h2
      obtain rfl := Option.some.inj (show some rr = some _ from hks38)
      have h := hz99
      cases h
      have h := hks39
      cases h
      exact ⟨_, _, fun r a w h => ⟨r, h⟩, _, _, [], _, (.cons (ResV_tmp _ _ rfl) .nil), rfl, rfl, rfl, rfl, rfl⟩
     refine ACode_skip ?_
     cases h
     exact ⟨_, rfl, Weak_keep 0 hm [0, 3, 8, 16] [0] _ _ rfl rfl rfl⟩
    refine (ACode_region ?_)
    refine kM 1 rfl ?_
    refine AOps_q 157 _ rfl rfl rfl (QOp_add _ _ _ _ _ _ _ rfl rfl rfl) ?_
    refine kN 1 rfl ?_
    exact ⟨k0, _, _, Nat.lt_succ_self _, Weak_keep 0 hm [0, 3, 8, 16] [0] _ _ rfl rfl rfl, _, rfl, rfl, h⟩
  refine ACode_skip ?_
  cases h
  exact ⟨_, rfl, Weak_keep 0 hm [0, 3] [0] _ _ rfl rfl rfl⟩
 refine kR ?_
 refine kM 1 rfl ?_
 obtain ⟨r40, hr40, h⟩ := bindO h
 refine kC [] 175 (.d (.agg (colD r40))) [.box (colD r3)] rfl Tryz.call50 rfl rfl (spec_DrawListOfDigital_ac k p0 _ hr40) rfl ?_
 refine AOps_alloc 19 _ _ (colD Col.zero) (zero_of Tryz.typeInfo26 rfl) (by rfl) rfl rfl rfl rfl ?_
 refine AOps_store _ _ _ _ _ _ (colD _) _ _ rfl rfl rfl rfl rfl rfl rfl (colD_one _) (by rw [colD_length]; exact Tryz.sizeOf26) (by rw [colD_length, colD_length]; decide) (colD_whole _ _) ?_
 refine AOps_nil ?_
 refine kR ?_
 refine AOps_q 177 _ rfl rfl rfl (QOp_loadN_ptr _ _ _ _ _ _ _ rfl Tryz.isAgg26 Tryz.sizeOf26 rfl rfl (colD_all _) (colD_length _)) ?_
 obtain ⟨r41, hr41, h⟩ := bindO h
 refine kC [] 178 (.tup [.d (.sl none (intsD (r41.1.getD []))), iV r41.2]) [.box (colD r3), .box (colD r40)] rfl Tryz.call51 rfl rfl (AC_frz rfl (frz_cons frz_nil) (impl_ListOfDigital_ac k r40 _ hr41)) rfl ?_
 refine kN 5 rfl ?_
 refine kR ?_
 refine AOps_q 182 _ rfl rfl rfl (QOp_loadN_ptr _ _ _ _ _ _ _ rfl Tryz.isAgg26 Tryz.sizeOf26 rfl rfl (colD_all _) (colD_length _)) ?_
 obtain ⟨r42, hr42, h⟩ := bindO h
 refine kC [] 183 (.tup [.d (.sl none (intsD r42.1)), iV r42.2]) [.box (colD r3), .box (colD r40)] rfl Tryz.call52 rfl rfl (spec_ListOfDigital_ac k r40 _ hr42) rfl ?_
 refine kN 5 rfl ?_
 refine kO (fun s47 => [(0, .d (.sl none (bysD p0))), (3, .ptr 0 0), (19, .ptr 1 0), (20, .d (.sl none (intsD (r41.1.getD [])))), (21, iV r41.2)]) (fun s47 => [.box (colD r3), .box (colD r40)]) h (fun os47 h hks47 => ?_) (fun s47 h => ?_)
 ·refine kB (fun s45 => [(0, .d (.sl none (bysD p0))), (3, .ptr 0 0), (19, .ptr 1 0), (20, .d (.sl none (intsD (r41.1.getD [])))), (21, iV r41.2), (194, bV s45)]) (fun s45 => [.box (colD r3), .box (colD r40)]) h (fun s45 h => ?_) (fun s45 h => ?_)
  ·refine (ACode_region ?_)
   refine kM 2 rfl ?_
   refine AOps_q 188 _ rfl rfl rfl (QOp_neq _ _ _ _ _ _ _ rfl rfl rfl) ?_
   refine kM 1 rfl ?_
   refine AOps_case 189 _ rfl (fun hb43 => ?_) (fun hb43 => ?_)
   ·have h := iteT hb43 h
    refine AOps_skip 190 rfl rfl rfl ?_
    refine AOps_skip 191 rfl rfl rfl ?_
    refine AOps_skip 192 rfl rfl rfl ?_
    refine AOps_skip 193 rfl rfl rfl ?_
    refine kN 1 rfl ?_
    cases h
    exact Weak_keep 0 hm [0, 3, 19, 20, 21, 194] [0, 1] _ _ rfl rfl rfl
   have h := iteF hb43 h
   refine kM 2 rfl ?_
   obtain ⟨r44, hr44, h⟩ := bindO h
   refine kC [] 192 (bV r44) [.box (colD r3), .box (colD r40)] rfl Tryz.call32 rfl rfl (laws_likeInts_ac k (r41.1.getD []) r42.1 _ hr44) rfl ?_
   refine AOps_q 193 _ rfl rfl rfl (QOp_not _ _ _ rfl rfl) ?_
   refine kN 1 rfl ?_
   cases h
   exact Weak_keep 0 hm [0, 3, 19, 20, 21, 194] [0, 1] _ _ rfl rfl rfl
  refine kI h rfl (fun h _ => ?_) (fun h _ => ?_)
  ·refine kR ?_
   refine kN 1 rfl ?_
   refine ACode_ret ?_
   cases h
   have h := hks47
   cases h
   exact ⟨_, _, fun r a w h => ⟨r, h⟩, _, _, [], _, (.cons (ResV_tmp _ _ rfl) .nil), rfl, rfl, rfl, rfl, rfl⟩
  refine ACode_skip ?_
  cases h
  exact ⟨_, rfl, Weak_keep 0 hm [0, 3, 19, 20, 21] [0, 1] _ _ rfl rfl rfl⟩
 refine kO (fun s60 => [(0, .d (.sl none (bysD p0))), (3, .ptr 0 0)]) (fun s60 => [.box (colD r3)]) h (fun os60 h hks60 => ?_) (fun s60 h => ?_)
 ·refine kR ?_
  refine kM 1 rfl ?_
  refine AOps_q 196 _ rfl rfl rfl (QOp_eql _ _ _ _ _ _ _ rfl rfl rfl) ?_
  refine AOps_nil ?_
  refine kI h rfl (fun h _ => ?_) (fun h _ => ?_)
  ·refine kR ?_
   refine kN 1 rfl ?_
   refine kB (fun s52 => [(0, .d (.sl none (bysD p0))), (3, .ptr 0 0), (19, .ptr 1 0), (20, .d (.sl none (intsD (r41.1.getD [])))), (24, iV s52)]) (fun s52 => [.box (colD r3), .box (colD r40)]) h (fun s52 h => ?_) (fun s52 h => ?_)
   ·refine ACode_block ?_
    refine ACode_loopW (fun k1 E H => ∃ (x49 : Int), E = [(0, .d (.sl none (bysD p0))), (3, .ptr 0 0), (19, .ptr 1 0), (20, .d (.sl none (intsD (r41.1.getD [])))), (24, iV x49)] ∧ H = [.box (colD r3), .box (colD r40)] ∧ laws_FnCirculant_l1 r40 k1 x49 = some s52) k _ _ (Weak_keep 0 hm [0, 3, 19, 20, 24] [0, 1] _ _ rfl rfl rfl) ⟨_, rfl, rfl, h⟩ ?_
    clear h
    rintro k1 E H ⟨x49, rfl, rfl, h⟩
    cases k1 with
    | zero => cases (show (none : Option (Int)) = some _ from h)
    | succ k1 =>
     rw [laws_FnCirculant_l1] at h
     refine ACode_seq ?_
     refine kR ?_
     refine kM 1 rfl ?_
     refine AOps_q 198 _ rfl rfl rfl (QOp_conv _ _ _ _ _ _ rfl rfl Tryz.underlying56 rfl) ?_
     obtain ⟨hc50, h⟩ := guardO h
     refine AOps_q 199 _ rfl rfl rfl (QOp_shl _ _ _ _ _ _ _ _ hc50 rfl rfl rfl) ?_
     refine AOps_q 200 _ rfl rfl rfl (QOp_fieldAddr_ptr _ _ _ _ _ _ 0 _ _ rfl Tryz.underlying26 rfl _ Tryz.sizeOf2 rfl rfl rfl rfl) ?_
     refine AOps_q 201 _ rfl rfl rfl (QOp_load_ptr _ _ _ _ _ _ rfl Tryz.isAgg2 rfl rfl rfl) ?_
     refine AOps_q 202 _ rfl rfl rfl (QOp_lss _ _ _ _ _ _ _ rfl rfl rfl) ?_
     refine AOps_nil ?_
     refine kI h rfl (fun h _ => ?_) (fun h _ => ?_)
     ·refine ACode_skip ?_
      refine ACode_block ?_
      refine (ACode_region ?_)
      refine kM 1 rfl ?_
      refine AOps_q 204 _ rfl rfl rfl (QOp_add _ _ _ _ _ _ _ rfl rfl rfl) ?_
      refine kN 1 rfl ?_
      exact ⟨k1, _, _, Nat.lt_succ_self _, Weak_keep 0 hm [0, 3, 19, 20, 24] [0, 1] _ _ rfl rfl rfl, _, rfl, rfl, h⟩
     refine ACode_exit ?_
     cases h
     exact Weak_keep 0 hm [0, 3, 19, 20, 24] [0, 1] _ _ rfl rfl rfl
   refine kR ?_
   refine kM 1 rfl ?_
   refine AOps_q 207 _ rfl rfl rfl (QOp_fieldAddr_ptr _ _ _ _ _ _ 1 _ _ rfl Tryz.underlying26 rfl _ Tryz.sizeOf2 rfl rfl rfl rfl) ?_
   refine AOps_q 208 _ rfl rfl rfl (QOp_load_ptr _ _ _ _ _ _ rfl Tryz.isAgg2 rfl rfl rfl) ?_
   refine kM 1 rfl ?_
   obtain ⟨r53, hr53, h⟩ := bindO h
   refine kC [] 210 (.tup [.d (.agg (colD r53.1)), iV r53.2]) [.box (colD r3), .box (colD r40)] rfl Tryz.call53 rfl rfl (impl_DigitalOf_ac k s52 r40.k (r41.1.getD []) _ hr53) rfl ?_
   refine kM 3 rfl ?_
   refine AOps_alloc 25 _ _ (colD Col.zero) (zero_of Tryz.typeInfo26 rfl) (by rfl) rfl rfl rfl rfl ?_
   refine AOps_store _ _ _ _ _ _ (colD _) _ _ rfl rfl rfl rfl rfl rfl rfl (colD_one _) (by rw [colD_length]; exact Tryz.sizeOf26) (by rw [colD_length, colD_length]; decide) (colD_whole _ _) ?_
   refine kN 1 rfl ?_
   refine kR ?_
   refine AOps_q 214 _ rfl rfl rfl (QOp_loadN_ptr _ _ _ _ _ _ _ rfl Tryz.isAgg26 Tryz.sizeOf26 rfl rfl (colD_all _) (colD_length _)) ?_
   obtain ⟨r54, hr54, h⟩ := bindO h
   refine kC [] 215 (.tup [bV r54.1, iV r54.2]) [.box (colD r3), .box (colD r40), .box (colD r53.1)] rfl Tryz.call47 rfl rfl (impl_IsBalanced_ac k r40 _ hr54) rfl ?_
   refine kN 5 rfl ?_
   refine kL (fun s58 => [(0, .d (.sl none (bysD p0))), (3, .ptr 0 0), (232, bV s58)]) (fun s58 => [.box (colD r3)]) h (fun s58 h => ?_) (fun s58 h => ?_)
   ·refine (ACode_region ?_)
    refine kM 1 rfl ?_
    refine AOps_q 219 _ rfl rfl rfl (QOp_neq _ _ _ _ _ _ _ rfl rfl rfl) ?_
    refine kM 1 rfl ?_
    refine AOps_case 220 _ rfl (fun hb55 => ?_) (fun hb55 => ?_)
    ·have h := iteT hb55 h
     refine AOps_skip 221 rfl rfl rfl ?_
     refine AOps_skip 222 rfl rfl rfl ?_
     refine kM 2 rfl ?_
     refine AOps_skip 225 rfl rfl rfl ?_
     refine AOps_skip 226 rfl rfl rfl ?_
     refine AOps_skip 227 rfl rfl rfl ?_
     refine kM 2 rfl ?_
     refine AOps_skip 230 rfl rfl rfl ?_
     refine AOps_skip 231 rfl rfl rfl ?_
     refine kN 1 rfl ?_
     cases h
     exact Weak_keep 0 hm [0, 3, 232] [0] _ _ rfl rfl rfl
    have h := iteF hb55 h
    refine kM 1 rfl ?_
    refine AOps_q 222 _ rfl rfl rfl (QOp_neq _ _ _ _ _ _ _ rfl rfl rfl) ?_
    refine kM 2 rfl ?_
    refine AOps_case 224 _ rfl (fun hb56 => ?_) (fun hb56 => ?_)
    ·have h := iteT hb56 h
     refine AOps_skip 225 rfl rfl rfl ?_
     refine AOps_skip 226 rfl rfl rfl ?_
     refine AOps_skip 227 rfl rfl rfl ?_
     refine kM 2 rfl ?_
     refine AOps_skip 230 rfl rfl rfl ?_
     refine AOps_skip 231 rfl rfl rfl ?_
     refine kN 1 rfl ?_
     cases h
     exact Weak_keep 0 hm [0, 3, 232] [0] _ _ rfl rfl rfl
    have h := iteF hb56 h
    refine AOps_q 225 _ rfl rfl rfl (QOp_loadN_ptr _ _ _ _ _ _ _ rfl Tryz.isAgg26 Tryz.sizeOf26 rfl rfl (colD_all _) (colD_length _)) ?_
    refine AOps_q 226 _ rfl rfl rfl (QOp_loadN_ptr _ _ _ _ _ _ _ rfl Tryz.isAgg26 Tryz.sizeOf26 rfl rfl (colD_all _) (colD_length _)) ?_
    refine AOps_q 227 _ rfl rfl rfl (QOp_neqCol _ _ _ _ _ _ _ _ _ _ _ _ rfl rfl rfl Tryz.underlying26 (by kernel_rfl) (by kernel_rfl) (by decide) (by decide) (by decide) rfl rfl rfl rfl rfl rfl Tryz.underlying2 Tryz.underlying24 Tryz.underlying5 Tryz.sizeOf5 Tryz.sizeOf24) ?_
    refine kM 2 rfl ?_
    refine AOps_case 229 _ rfl (fun hb57 => ?_) (fun hb57 => ?_)
    ·have h := iteT hb57 h
     refine AOps_skip 230 rfl rfl rfl ?_
     refine AOps_skip 231 rfl rfl rfl ?_
     refine kN 1 rfl ?_
     cases h
     exact Weak_keep 0 hm [0, 3, 232] [0] _ _ rfl rfl rfl
    have h := iteF hb57 h
    refine kM 1 rfl ?_
    refine AOps_q 231 _ rfl rfl rfl (QOp_not _ _ _ rfl rfl) ?_
    refine kN 1 rfl ?_
    cases h
    exact Weak_keep 0 hm [0, 3, 232] [0] _ _ rfl rfl rfl
   refine kI h rfl (fun h _ => ?_) (fun h _ => ?_)
   ·refine kR ?_
    refine kN 1 rfl ?_
    refine ACode_ret ?_
    cases h
    have h := hks60
    cases h
    exact ⟨_, _, fun r a w h => ⟨r, h⟩, _, _, [], _, (.cons (ResV_tmp _ _ rfl) .nil), rfl, rfl, rfl, rfl, rfl⟩
   refine ACode_skip ?_
   cases h
   exact ⟨_, rfl, Weak_keep 0 hm [0, 3] [0] _ _ rfl rfl rfl⟩
  refine ACode_skip ?_
  cases h
  exact ⟨_, rfl, Weak_keep 0 hm [0, 3] [0] _ _ rfl rfl rfl⟩
 refine kR ?_
 refine kM 1 rfl ?_
 obtain ⟨r61, hr61, h⟩ := bindO h
 refine kC [] 235 (.tup [.d (.agg (colD r61.1)), iV r61.2]) [.box (colD r3)] rfl Tryz.call54 rfl rfl (spec_DrawTurnColouring_ac k p0 _ hr61) rfl ?_
 refine kM 3 rfl ?_
 refine AOps_alloc 29 _ _ (colD Col.zero) (zero_of Tryz.typeInfo26 rfl) (by rfl) rfl rfl rfl rfl ?_
 refine AOps_store _ _ _ _ _ _ (colD _) _ _ rfl rfl rfl rfl rfl rfl rfl (colD_one _) (by rw [colD_length]; exact Tryz.sizeOf26) (by rw [colD_length, colD_length]; decide) (colD_whole _ _) ?_
 refine kN 1 rfl ?_
 refine kR ?_
 refine AOps_q 239 _ rfl rfl rfl (QOp_loadN_ptr _ _ _ _ _ _ _ rfl Tryz.isAgg26 Tryz.sizeOf26 rfl rfl (colD_all _) (colD_length _)) ?_
 refine kM 1 rfl ?_
 obtain ⟨r62, hr62, h⟩ := bindO h
 refine kC [] 241 (.tup [.d (.agg (colD r62.1)), iV r62.2]) [.box (colD r3), .box (colD r61.1)] rfl Tryz.call49 rfl rfl (impl_TurnColouring_ac k r61.1 r61.2 _ hr62) rfl ?_
 refine kM 3 rfl ?_
 refine AOps_alloc 31 _ _ (colD Col.zero) (zero_of Tryz.typeInfo26 rfl) (by rfl) rfl rfl rfl rfl ?_
 refine AOps_store _ _ _ _ _ _ (colD _) _ _ rfl rfl rfl rfl rfl rfl rfl (colD_one _) (by rw [colD_length]; exact Tryz.sizeOf26) (by rw [colD_length, colD_length]; decide) (colD_whole _ _) ?_
 refine kN 1 rfl ?_
 refine kR ?_
 refine AOps_q 245 _ rfl rfl rfl (QOp_loadN_ptr _ _ _ _ _ _ _ rfl Tryz.isAgg26 Tryz.sizeOf26 rfl rfl (colD_all _) (colD_length _)) ?_
 refine kM 1 rfl ?_
 obtain ⟨r63, hr63, h⟩ := bindO h
 refine kC [] 247 (.tup [.d (.agg (colD r63.1)), iV r63.2]) [.box (colD r3), .box (colD r61.1), .box (colD r62.1)] rfl Tryz.call55 rfl rfl (spec_TurnColouring_ac k r61.1 r61.2 _ hr63) rfl ?_
 refine kM 3 rfl ?_
 refine AOps_alloc 33 _ _ (colD Col.zero) (zero_of Tryz.typeInfo26 rfl) (by rfl) rfl rfl rfl rfl ?_
 refine AOps_store _ _ _ _ _ _ (colD _) _ _ rfl rfl rfl rfl rfl rfl rfl (colD_one _) (by rw [colD_length]; exact Tryz.sizeOf26) (by rw [colD_length, colD_length]; decide) (colD_whole _ _) ?_
 refine kN 1 rfl ?_
 refine kR ?_
 refine kM 1 rfl ?_
 obtain ⟨r64, hr64, h⟩ := bindO h
 refine kC [] 251 (iV r64) [.box (colD r3), .box (colD r61.1), .box (colD r62.1), .box (colD r63.1)] rfl Tryz.call56 rfl rfl (spec_DrawBySquares_ac k p0 _ hr64) rfl ?_
 refine kN 1 rfl ?_
 refine kR ?_
 refine kM 1 rfl ?_
 obtain ⟨r65, hr65, h⟩ := bindO h
 refine kC [] 254 (.tup [.d (.agg (colD r65.1)), iV r65.2]) [.box (colD r3), .box (colD r61.1), .box (colD r62.1), .box (colD r63.1)] rfl Tryz.call57 rfl rfl (impl_BySquares_ac k r64 _ hr65) rfl ?_
 refine kM 3 rfl ?_
 refine AOps_alloc 36 _ _ (colD Col.zero) (zero_of Tryz.typeInfo26 rfl) (by rfl) rfl rfl rfl rfl ?_
 refine AOps_store _ _ _ _ _ _ (colD _) _ _ rfl rfl rfl rfl rfl rfl rfl (colD_one _) (by rw [colD_length]; exact Tryz.sizeOf26) (by rw [colD_length, colD_length]; decide) (colD_whole _ _) ?_
 refine kN 1 rfl ?_
 refine kR ?_
 refine kM 1 rfl ?_
 obtain ⟨r66, hr66, h⟩ := bindO h
 refine kC [] 259 (.tup [.d (.agg (colD r66.1)), iV r66.2]) [.box (colD r3), .box (colD r61.1), .box (colD r62.1), .box (colD r63.1), .box (colD r65.1)] rfl Tryz.call58 rfl rfl (spec_BySquares_ac k r64 _ hr66) rfl ?_
 refine kM 3 rfl ?_
 refine AOps_alloc 38 _ _ (colD Col.zero) (zero_of Tryz.typeInfo26 rfl) (by rfl) rfl rfl rfl rfl ?_
 refine AOps_store _ _ _ _ _ _ (colD _) _ _ rfl rfl rfl rfl rfl rfl rfl (colD_one _) (by rw [colD_length]; exact Tryz.sizeOf26) (by rw [colD_length, colD_length]; decide) (colD_whole _ _) ?_
 refine kN 1 rfl ?_
 refine kR ?_
 refine kM 1 rfl ?_
 obtain ⟨r67, hr67, h⟩ := bindO h
 refine kC [] 264 (.tup [iV r67.1, iV r67.2.1, .vec 6 0]) [.box (colD r3), .box (colD r61.1), .box (colD r62.1), .box (colD r63.1), .box (colD r65.1), .box (colD r66.1), .vec 0 (intsD r67.2.2)] rfl Tryz.call59 rfl rfl (spec_DrawCircularOf_ac k p0 _ hr67) rfl ?_
 refine kN 7 rfl ?_
 refine kR ?_
 refine kM 3 rfl ?_
 obtain ⟨r68, hr68, h⟩ := bindO h
 refine AOps_callL [] 272 _ _ _ _ _ _ _ _ _ _ rfl rfl rfl rfl rfl rfl rfl Tryz.call46 rfl (nodupB_sound _ rfl) rfl rfl rfl (impl_CircularOf_ac k r67.1 r67.2.1 r67.2.2 _ hr68) ?_
 rintro _ _ ⟨rfl, rfl⟩
 refine ⟨(fun _ h => nomatch h), (allc (flat_agg (colD_flat _)) (allc (flat_s _) (fun _ h => nomatch h))), AOps_as 272 (v' := .tup [.d (.agg (colD r68.1)), iV r68.2]) (H' := [.box (colD r3), .box (colD r61.1), .box (colD r62.1), .box (colD r63.1), .box (colD r65.1), .box (colD r66.1), .vec 0 (intsD r67.2.2)]) rfl rfl ?_⟩
 refine kM 3 rfl ?_
 refine AOps_alloc 43 _ _ (colD Col.zero) (zero_of Tryz.typeInfo26 rfl) (by rfl) rfl rfl rfl rfl ?_
 refine AOps_store _ _ _ _ _ _ (colD _) _ _ rfl rfl rfl rfl rfl rfl rfl (colD_one _) (by rw [colD_length]; exact Tryz.sizeOf26) (by rw [colD_length, colD_length]; decide) (colD_whole _ _) ?_
 refine kN 1 rfl ?_
 refine kR ?_
 refine kM 3 rfl ?_
 obtain ⟨r69, hr69, h⟩ := bindO h
 refine AOps_callL [] 279 _ _ _ _ _ _ _ _ _ _ rfl rfl rfl rfl rfl rfl rfl Tryz.call60 rfl (nodupB_sound _ rfl) rfl rfl rfl (spec_CircularOf_ac k r67.1 r67.2.1 r67.2.2 _ hr69) ?_
 rintro _ _ ⟨rfl, rfl⟩
 refine ⟨(fun _ h => nomatch h), (allc (flat_agg (colD_flat _)) (allc (flat_s _) (fun _ h => nomatch h))), AOps_as 279 (v' := .tup [.d (.agg (colD r69.1)), iV r69.2]) (H' := [.box (colD r3), .box (colD r61.1), .box (colD r62.1), .box (colD r63.1), .box (colD r65.1), .box (colD r66.1), .vec 0 (intsD r67.2.2), .box (colD r68.1)]) rfl rfl ?_⟩
 refine kM 3 rfl ?_
 refine AOps_alloc 45 _ _ (colD Col.zero) (zero_of Tryz.typeInfo26 rfl) (by rfl) rfl rfl rfl rfl ?_
 refine AOps_store _ _ _ _ _ _ (colD _) _ _ rfl rfl rfl rfl rfl rfl rfl (colD_one _) (by rw [colD_length]; exact Tryz.sizeOf26) (by rw [colD_length, colD_length]; decide) (colD_whole _ _) ?_
 refine kN 1 rfl ?_
 refine kR ?_
 refine kM 1 rfl ?_
 obtain ⟨r70, hr70, h⟩ := bindO h
 refine kC [] 284 (.tup [iV r70.1, iV r70.2.1, .vec 9 0]) [.box (colD r3), .box (colD r61.1), .box (colD r62.1), .box (colD r63.1), .box (colD r65.1), .box (colD r66.1), .vec 0 (intsD r67.2.2), .box (colD r68.1), .box (colD r69.1), .vec 0 (intsD r70.2.2)] rfl Tryz.call61 rfl rfl (spec_DrawDigitalOf_ac k p0 _ hr70) rfl ?_
 refine kN 7 rfl ?_
 refine kR ?_
 refine kM 3 rfl ?_
 obtain ⟨r71, hr71, h⟩ := bindO h
 refine AOps_callL [] 292 _ _ _ _ _ _ _ _ _ _ rfl rfl rfl rfl rfl rfl rfl Tryz.call53 rfl (nodupB_sound _ rfl) rfl rfl rfl (impl_DigitalOf_ac k r70.1 r70.2.1 r70.2.2 _ hr71) ?_
 rintro _ _ ⟨rfl, rfl⟩
 refine ⟨(fun _ h => nomatch h), (allc (flat_agg (colD_flat _)) (allc (flat_s _) (fun _ h => nomatch h))), AOps_as 292 (v' := .tup [.d (.agg (colD r71.1)), iV r71.2]) (H' := [.box (colD r3), .box (colD r61.1), .box (colD r62.1), .box (colD r63.1), .box (colD r65.1), .box (colD r66.1), .vec 0 (intsD r67.2.2), .box (colD r68.1), .box (colD r69.1), .vec 0 (intsD r70.2.2)]) rfl rfl ?_⟩
 refine kM 3 rfl ?_
 refine AOps_alloc 50 _ _ (colD Col.zero) (zero_of Tryz.typeInfo26 rfl) (by rfl) rfl rfl rfl rfl ?_
 refine AOps_store _ _ _ _ _ _ (colD _) _ _ rfl rfl rfl rfl rfl rfl rfl (colD_one _) (by rw [colD_length]; exact Tryz.sizeOf26) (by rw [colD_length, colD_length]; decide) (colD_whole _ _) ?_
 refine kN 1 rfl ?_
 refine kR ?_
 refine kM 3 rfl ?_
 obtain ⟨r72, hr72, h⟩ := bindO h
 refine AOps_callL [] 299 _ _ _ _ _ _ _ _ _ _ rfl rfl rfl rfl rfl rfl rfl Tryz.call62 rfl (nodupB_sound _ rfl) rfl rfl rfl (spec_DigitalOf_ac k r70.1 r70.2.1 r70.2.2 _ hr72) ?_
 rintro _ _ ⟨rfl, rfl⟩
 refine ⟨(fun _ h => nomatch h), (allc (flat_agg (colD_flat _)) (allc (flat_s _) (fun _ h => nomatch h))), AOps_as 299 (v' := .tup [.d (.agg (colD r72.1)), iV r72.2]) (H' := [.box (colD r3), .box (colD r61.1), .box (colD r62.1), .box (colD r63.1), .box (colD r65.1), .box (colD r66.1), .vec 0 (intsD r67.2.2), .box (colD r68.1), .box (colD r69.1), .vec 0 (intsD r70.2.2), .box (colD r71.1)]) rfl rfl ?_⟩
 refine kM 3 rfl ?_
 refine AOps_alloc 52 _ _ (colD Col.zero) (zero_of Tryz.typeInfo26 rfl) (by rfl) rfl rfl rfl rfl ?_
 refine AOps_store _ _ _ _ _ _ (colD _) _ _ rfl rfl rfl rfl rfl rfl rfl (colD_one _) (by rw [colD_length]; exact Tryz.sizeOf26) (by rw [colD_length, colD_length]; decide) (colD_whole _ _) ?_
 refine kN 1 rfl ?_
 refine kR ?_
 refine AOps_q 303 _ rfl rfl rfl (QOp_loadN_ptr _ _ _ _ _ _ _ rfl Tryz.isAgg26 Tryz.sizeOf26 rfl rfl (colD_all _) (colD_length _)) ?_
 obtain ⟨r73, hr73, h⟩ := bindO h
 refine kC [] 304 (.tup [bV r73.1, iV r73.2]) [.box (colD r3), .box (colD r61.1), .box (colD r62.1), .box (colD r63.1), .box (colD r65.1), .box (colD r66.1), .vec 0 (intsD r67.2.2), .box (colD r68.1), .box (colD r69.1), .vec 0 (intsD r70.2.2), .box (colD r71.1), .box (colD r72.1)] rfl Tryz.call47 rfl rfl (impl_IsBalanced_ac k r3 _ hr73) rfl ?_
 refine kN 5 rfl ?_
 refine kR ?_
 refine AOps_q 308 _ rfl rfl rfl (QOp_loadN_ptr _ _ _ _ _ _ _ rfl Tryz.isAgg26 Tryz.sizeOf26 rfl rfl (colD_all _) (colD_length _)) ?_
 obtain ⟨r74, hr74, h⟩ := bindO h
 refine kC [] 309 (.tup [bV r74.1, iV r74.2]) [.box (colD r3), .box (colD r61.1), .box (colD r62.1), .box (colD r63.1), .box (colD r65.1), .box (colD r66.1), .vec 0 (intsD r67.2.2), .box (colD r68.1), .box (colD r69.1), .vec 0 (intsD r70.2.2), .box (colD r71.1), .box (colD r72.1)] rfl Tryz.call63 rfl rfl (spec_IsBalanced_ac k r3 _ hr74) rfl ?_
 refine kN 5 rfl ?_
 refine kO (fun s86 => [(35, iV r64), (36, .ptr 0 0), (37, iV r65.2)]) (fun s86 => [.box (colD r65.1)]) h (fun os86 h hks86 => ?_) (fun s86 h => ?_)
 ·refine kL (fun s84 => [(35, iV r64), (36, .ptr 0 0), (37, iV r65.2), (359, bV s84)]) (fun s84 => [.box (colD r65.1)]) h (fun s84 h => ?_) (fun s84 h => ?_)
  ·refine (ACode_region ?_)
   refine kM 2 rfl ?_
   refine AOps_q 314 _ rfl rfl rfl (QOp_neq _ _ _ _ _ _ _ rfl rfl rfl) ?_
   refine kM 1 rfl ?_
   refine AOps_case 315 _ rfl (fun hb75 => ?_) (fun hb75 => ?_)
   ·have h := iteT hb75 h
    refine AOps_skip 316 rfl rfl rfl ?_
    refine AOps_skip 317 rfl rfl rfl ?_
    refine AOps_skip 318 rfl rfl rfl ?_
    refine kM 2 rfl ?_
    refine AOps_skip 321 rfl rfl rfl ?_
    refine AOps_skip 322 rfl rfl rfl ?_
    refine AOps_skip 323 rfl rfl rfl ?_
    refine kM 2 rfl ?_
    refine AOps_skip 326 rfl rfl rfl ?_
    refine AOps_skip 327 rfl rfl rfl ?_
    refine AOps_skip 328 rfl rfl rfl ?_
    refine kM 2 rfl ?_
    refine AOps_skip 331 rfl rfl rfl ?_
    refine AOps_skip 332 rfl rfl rfl ?_
    refine AOps_skip 333 rfl rfl rfl ?_
    refine kM 2 rfl ?_
    refine AOps_skip 336 rfl rfl rfl ?_
    refine AOps_skip 337 rfl rfl rfl ?_
    refine AOps_skip 338 rfl rfl rfl ?_
    refine kM 2 rfl ?_
    refine AOps_skip 341 rfl rfl rfl ?_
    refine AOps_skip 342 rfl rfl rfl ?_
    refine AOps_skip 343 rfl rfl rfl ?_
    refine kM 2 rfl ?_
    refine AOps_skip 346 rfl rfl rfl ?_
    refine AOps_skip 347 rfl rfl rfl ?_
    refine AOps_skip 348 rfl rfl rfl ?_
    refine kM 2 rfl ?_
    refine AOps_skip 351 rfl rfl rfl ?_
    refine AOps_skip 352 rfl rfl rfl ?_
    refine AOps_skip 353 rfl rfl rfl ?_
    refine kM 2 rfl ?_
    refine AOps_skip 356 rfl rfl rfl ?_
    refine AOps_skip 357 rfl rfl rfl ?_
    refine AOps_skip 358 rfl rfl rfl ?_
    refine kN 1 rfl ?_
    cases h
    exact Weak_keep 0 hm [35, 36, 37, 359] [4] _ _ rfl rfl rfl
   have h := iteF hb75 h
   refine AOps_q 316 _ rfl rfl rfl (QOp_loadN_ptr _ _ _ _ _ _ _ rfl Tryz.isAgg26 Tryz.sizeOf26 rfl rfl (colD_all _) (colD_length _)) ?_
   refine AOps_q 317 _ rfl rfl rfl (QOp_loadN_ptr _ _ _ _ _ _ _ rfl Tryz.isAgg26 Tryz.sizeOf26 rfl rfl (colD_all _) (colD_length _)) ?_
   refine AOps_q 318 _ rfl rfl rfl (QOp_neqCol _ _ _ _ _ _ _ _ _ _ _ _ rfl rfl rfl Tryz.underlying26 (by kernel_rfl) (by kernel_rfl) (by decide) (by decide) (by decide) rfl rfl rfl rfl rfl rfl Tryz.underlying2 Tryz.underlying24 Tryz.underlying5 Tryz.sizeOf5 Tryz.sizeOf24) ?_
   refine kM 2 rfl ?_
   refine AOps_case 320 _ rfl (fun hb76 => ?_) (fun hb76 => ?_)
   ·have h := iteT hb76 h
    refine AOps_skip 321 rfl rfl rfl ?_
    refine AOps_skip 322 rfl rfl rfl ?_
    refine AOps_skip 323 rfl rfl rfl ?_
    refine kM 2 rfl ?_
    refine AOps_skip 326 rfl rfl rfl ?_
    refine AOps_skip 327 rfl rfl rfl ?_
    refine AOps_skip 328 rfl rfl rfl ?_
    refine kM 2 rfl ?_
    refine AOps_skip 331 rfl rfl rfl ?_
    refine AOps_skip 332 rfl rfl rfl ?_
    refine AOps_skip 333 rfl rfl rfl ?_
    refine kM 2 rfl ?_
    refine AOps_skip 336 rfl rfl rfl ?_
    refine AOps_skip 337 rfl rfl rfl ?_
    refine AOps_skip 338 rfl rfl rfl ?_
    refine kM 2 rfl ?_
    refine AOps_skip 341 rfl rfl rfl ?_
    refine AOps_skip 342 rfl rfl rfl ?_
    refine AOps_skip 343 rfl rfl rfl ?_
    refine kM 2 rfl ?_
    refine AOps_skip 346 rfl rfl rfl ?_
    refine AOps_skip 347 rfl rfl rfl ?_
    refine AOps_skip 348 rfl rfl rfl ?_
    refine kM 2 rfl ?_
    refine AOps_skip 351 rfl rfl rfl ?_
    refine AOps_skip 352 rfl rfl rfl ?_
    refine AOps_skip 353 rfl rfl rfl ?_
    refine kM 2 rfl ?_
    refine AOps_skip 356 rfl rfl rfl ?_
    refine AOps_skip 357 rfl rfl rfl ?_
    refine AOps_skip 358 rfl rfl rfl ?_
    refine kN 1 rfl ?_
    cases h
    exact Weak_keep 0 hm [35, 36, 37, 359] [4] _ _ rfl rfl rfl
   have h := iteF hb76 h
   refine kM 2 rfl ?_
   refine AOps_q 323 _ rfl rfl rfl (QOp_neq _ _ _ _ _ _ _ rfl rfl rfl) ?_
   refine kM 2 rfl ?_
   refine AOps_case 325 _ rfl (fun hb77 => ?_) (fun hb77 => ?_)
   ·have h := iteT hb77 h
    refine AOps_skip 326 rfl rfl rfl ?_
    refine AOps_skip 327 rfl rfl rfl ?_
    refine AOps_skip 328 rfl rfl rfl ?_
    refine kM 2 rfl ?_
    refine AOps_skip 331 rfl rfl rfl ?_
    refine AOps_skip 332 rfl rfl rfl ?_
    refine AOps_skip 333 rfl rfl rfl ?_
    refine kM 2 rfl ?_
    refine AOps_skip 336 rfl rfl rfl ?_
    refine AOps_skip 337 rfl rfl rfl ?_
    refine AOps_skip 338 rfl rfl rfl ?_
    refine kM 2 rfl ?_
    refine AOps_skip 341 rfl rfl rfl ?_
    refine AOps_skip 342 rfl rfl rfl ?_
    refine AOps_skip 343 rfl rfl rfl ?_
    refine kM 2 rfl ?_
    refine AOps_skip 346 rfl rfl rfl ?_
    refine AOps_skip 347 rfl rfl rfl ?_
    refine AOps_skip 348 rfl rfl rfl ?_
    refine kM 2 rfl ?_
    refine AOps_skip 351 rfl rfl rfl ?_
    refine AOps_skip 352 rfl rfl rfl ?_
    refine AOps_skip 353 rfl rfl rfl ?_
    refine kM 2 rfl ?_
    refine AOps_skip 356 rfl rfl rfl ?_
    refine AOps_skip 357 rfl rfl rfl ?_
    refine AOps_skip 358 rfl rfl rfl ?_
    refine kN 1 rfl ?_
    cases h
    exact Weak_keep 0 hm [35, 36, 37, 359] [4] _ _ rfl rfl rfl
   have h := iteF hb77 h
   refine AOps_q 326 _ rfl rfl rfl (QOp_loadN_ptr _ _ _ _ _ _ _ rfl Tryz.isAgg26 Tryz.sizeOf26 rfl rfl (colD_all _) (colD_length _)) ?_
   refine AOps_q 327 _ rfl rfl rfl (QOp_loadN_ptr _ _ _ _ _ _ _ rfl Tryz.isAgg26 Tryz.sizeOf26 rfl rfl (colD_all _) (colD_length _)) ?_
   refine AOps_q 328 _ rfl rfl rfl (QOp_neqCol _ _ _ _ _ _ _ _ _ _ _ _ rfl rfl rfl Tryz.underlying26 (by kernel_rfl) (by kernel_rfl) (by decide) (by decide) (by decide) rfl rfl rfl rfl rfl rfl Tryz.underlying2 Tryz.underlying24 Tryz.underlying5 Tryz.sizeOf5 Tryz.sizeOf24) ?_
   refine kM 2 rfl ?_
   refine AOps_case 330 _ rfl (fun hb78 => ?_) (fun hb78 => ?_)
   ·have h := iteT hb78 h
    refine AOps_skip 331 rfl rfl rfl ?_
    refine AOps_skip 332 rfl rfl rfl ?_
    refine AOps_skip 333 rfl rfl rfl ?_
    refine kM 2 rfl ?_
    refine AOps_skip 336 rfl rfl rfl ?_
    refine AOps_skip 337 rfl rfl rfl ?_
    refine AOps_skip 338 rfl rfl rfl ?_
    refine kM 2 rfl ?_
    refine AOps_skip 341 rfl rfl rfl ?_
    refine AOps_skip 342 rfl rfl rfl ?_
    refine AOps_skip 343 rfl rfl rfl ?_
    refine kM 2 rfl ?_
    refine AOps_skip 346 rfl rfl rfl ?_
    refine AOps_skip 347 rfl rfl rfl ?_
    refine AOps_skip 348 rfl rfl rfl ?_
    refine kM 2 rfl ?_
    refine AOps_skip 351 rfl rfl rfl ?_
    refine AOps_skip 352 rfl rfl rfl ?_
    refine AOps_skip 353 rfl rfl rfl ?_
    refine kM 2 rfl ?_
    refine AOps_skip 356 rfl rfl rfl ?_
    refine AOps_skip 357 rfl rfl rfl ?_
    refine AOps_skip 358 rfl rfl rfl ?_
    refine kN 1 rfl ?_
    cases h
    exact Weak_keep 0 hm [35, 36, 37, 359] [4] _ _ rfl rfl rfl
   have h := iteF hb78 h
   refine kM 2 rfl ?_
   refine AOps_q 333 _ rfl rfl rfl (QOp_neq _ _ _ _ _ _ _ rfl rfl rfl) ?_
   refine kM 2 rfl ?_
   refine AOps_case 335 _ rfl (fun hb79 => ?_) (fun hb79 => ?_)
   ·have h := iteT hb79 h
    refine AOps_skip 336 rfl rfl rfl ?_
    refine AOps_skip 337 rfl rfl rfl ?_
    refine AOps_skip 338 rfl rfl rfl ?_
    refine kM 2 rfl ?_
    refine AOps_skip 341 rfl rfl rfl ?_
    refine AOps_skip 342 rfl rfl rfl ?_
    refine AOps_skip 343 rfl rfl rfl ?_
    refine kM 2 rfl ?_
    refine AOps_skip 346 rfl rfl rfl ?_
    refine AOps_skip 347 rfl rfl rfl ?_
    refine AOps_skip 348 rfl rfl rfl ?_
    refine kM 2 rfl ?_
    refine AOps_skip 351 rfl rfl rfl ?_
    refine AOps_skip 352 rfl rfl rfl ?_
    refine AOps_skip 353 rfl rfl rfl ?_
    refine kM 2 rfl ?_
    refine AOps_skip 356 rfl rfl rfl ?_
    refine AOps_skip 357 rfl rfl rfl ?_
    refine AOps_skip 358 rfl rfl rfl ?_
    refine kN 1 rfl ?_
    cases h
    exact Weak_keep 0 hm [35, 36, 37, 359] [4] _ _ rfl rfl rfl
   have h := iteF hb79 h
   refine AOps_q 336 _ rfl rfl rfl (QOp_loadN_ptr _ _ _ _ _ _ _ rfl Tryz.isAgg26 Tryz.sizeOf26 rfl rfl (colD_all _) (colD_length _)) ?_
   refine AOps_q 337 _ rfl rfl rfl (QOp_loadN_ptr _ _ _ _ _ _ _ rfl Tryz.isAgg26 Tryz.sizeOf26 rfl rfl (colD_all _) (colD_length _)) ?_
   refine AOps_q 338 _ rfl rfl rfl (QOp_neqCol _ _ _ _ _ _ _ _ _ _ _ _ rfl rfl rfl Tryz.underlying26 (by kernel_rfl) (by kernel_rfl) (by decide) (by decide) (by decide) rfl rfl rfl rfl rfl rfl Tryz.underlying2 Tryz.underlying24 Tryz.underlying5 Tryz.sizeOf5 Tryz.sizeOf24) ?_
   refine kM 2 rfl ?_
   refine AOps_case 340 _ rfl (fun hb80 => ?_) (fun hb80 => ?_)
   ·have h := iteT hb80 h
    refine AOps_skip 341 rfl rfl rfl ?_
    refine AOps_skip 342 rfl rfl rfl ?_
    refine AOps_skip 343 rfl rfl rfl ?_
    refine kM 2 rfl ?_
    refine AOps_skip 346 rfl rfl rfl ?_
    refine AOps_skip 347 rfl rfl rfl ?_
    refine AOps_skip 348 rfl rfl rfl ?_
    refine kM 2 rfl ?_
    refine AOps_skip 351 rfl rfl rfl ?_
    refine AOps_skip 352 rfl rfl rfl ?_
    refine AOps_skip 353 rfl rfl rfl ?_
    refine kM 2 rfl ?_
    refine AOps_skip 356 rfl rfl rfl ?_
    refine AOps_skip 357 rfl rfl rfl ?_
    refine AOps_skip 358 rfl rfl rfl ?_
    refine kN 1 rfl ?_
    cases h
    exact Weak_keep 0 hm [35, 36, 37, 359] [4] _ _ rfl rfl rfl
   have h := iteF hb80 h
   refine kM 2 rfl ?_
   refine AOps_q 343 _ rfl rfl rfl (QOp_neq _ _ _ _ _ _ _ rfl rfl rfl) ?_
   refine kM 2 rfl ?_
   refine AOps_case 345 _ rfl (fun hb81 => ?_) (fun hb81 => ?_)
   ·have h := iteT hb81 h
    refine AOps_skip 346 rfl rfl rfl ?_
    refine AOps_skip 347 rfl rfl rfl ?_
    refine AOps_skip 348 rfl rfl rfl ?_
    refine kM 2 rfl ?_
    refine AOps_skip 351 rfl rfl rfl ?_
    refine AOps_skip 352 rfl rfl rfl ?_
    refine AOps_skip 353 rfl rfl rfl ?_
    refine kM 2 rfl ?_
    refine AOps_skip 356 rfl rfl rfl ?_
    refine AOps_skip 357 rfl rfl rfl ?_
    refine AOps_skip 358 rfl rfl rfl ?_
    refine kN 1 rfl ?_
    cases h
    exact Weak_keep 0 hm [35, 36, 37, 359] [4] _ _ rfl rfl rfl
   have h := iteF hb81 h
   refine AOps_q 346 _ rfl rfl rfl (QOp_loadN_ptr _ _ _ _ _ _ _ rfl Tryz.isAgg26 Tryz.sizeOf26 rfl rfl (colD_all _) (colD_length _)) ?_
   refine AOps_q 347 _ rfl rfl rfl (QOp_loadN_ptr _ _ _ _ _ _ _ rfl Tryz.isAgg26 Tryz.sizeOf26 rfl rfl (colD_all _) (colD_length _)) ?_
   refine AOps_q 348 _ rfl rfl rfl (QOp_neqCol _ _ _ _ _ _ _ _ _ _ _ _ rfl rfl rfl Tryz.underlying26 (by kernel_rfl) (by kernel_rfl) (by decide) (by decide) (by decide) rfl rfl rfl rfl rfl rfl Tryz.underlying2 Tryz.underlying24 Tryz.underlying5 Tryz.sizeOf5 Tryz.sizeOf24) ?_
   refine kM 2 rfl ?_
   refine AOps_case 350 _ rfl (fun hb82 => ?_) (fun hb82 => ?_)
   ·have h := iteT hb82 h
    refine AOps_skip 351 rfl rfl rfl ?_
    refine AOps_skip 352 rfl rfl rfl ?_
    refine AOps_skip 353 rfl rfl rfl ?_
    refine kM 2 rfl ?_
    refine AOps_skip 356 rfl rfl rfl ?_
    refine AOps_skip 357 rfl rfl rfl ?_
    refine AOps_skip 358 rfl rfl rfl ?_
    refine kN 1 rfl ?_
    cases h
    exact Weak_keep 0 hm [35, 36, 37, 359] [4] _ _ rfl rfl rfl
   have h := iteF hb82 h
   refine kM 2 rfl ?_
   refine AOps_q 353 _ rfl rfl rfl (QOp_neq _ _ _ _ _ _ _ rfl rfl rfl) ?_
   refine kM 2 rfl ?_
   refine AOps_case 355 _ rfl (fun hb83 => ?_) (fun hb83 => ?_)
   ·have h := iteT hb83 h
    refine AOps_skip 356 rfl rfl rfl ?_
    refine AOps_skip 357 rfl rfl rfl ?_
    refine AOps_skip 358 rfl rfl rfl ?_
    refine kN 1 rfl ?_
    cases h
    exact Weak_keep 0 hm [35, 36, 37, 359] [4] _ _ rfl rfl rfl
   have h := iteF hb83 h
   refine kM 2 rfl ?_
   refine AOps_q 358 _ rfl rfl rfl (QOp_bneq _ _ _ _ _ _ rfl rfl rfl Tryz.underlying4) ?_
   refine kN 1 rfl ?_
   cases h
   exact Weak_keep 0 hm [35, 36, 37, 359] [4] _ _ rfl rfl rfl
  refine kI h rfl (fun h _ => ?_) (fun h _ => ?_)
  ·refine kR ?_
   refine kN 1 rfl ?_
   refine ACode_ret ?_
   cases h
   have h := hks86
   cases h
   exact ⟨_, _, fun r a w h => ⟨r, h⟩, _, _, [], _, (.cons (ResV_tmp _ _ rfl) .nil), rfl, rfl, rfl, rfl, rfl⟩
  refine ACode_skip ?_
  cases h
  exact ⟨_, rfl, Weak_keep 0 hm [35, 36, 37] [0] _ _ rfl rfl rfl⟩
 refine ACode_seq ?_
 refine kR ?_
 refine kM 1 rfl ?_
 refine AOps_q 361 _ rfl rfl rfl (QOp_eql _ _ _ _ _ _ _ rfl rfl rfl) ?_
 refine AOps_nil ?_
 refine kI h rfl (fun h _ => ?_) (fun h _ => ?_)
 ·refine kR ?_
  refine AOps_q 363 _ rfl rfl rfl (QOp_loadN_ptr _ _ _ _ _ _ _ rfl Tryz.isAgg26 Tryz.sizeOf26 rfl rfl (colD_all _) (colD_length _)) ?_
  refine AOps_buildSlice 364 _ _ _ [_, _] (intsD ([1, 0])) _ rfl rfl rfl rfl rfl (by decide) Tryz.underlying27 Tryz.sizeOf2 (zero_of Tryz.typeInfo2 rfl) rfl rfl (intsD_one _) ?_
  obtain ⟨r88, hr88, h⟩ := bindO h
  refine AOps_callL [] 365 _ _ _ _ _ _ _ _ _ _ rfl rfl rfl rfl rfl rfl rfl Tryz.call16 rfl (nodupB_sound _ rfl) rfl rfl rfl (impl_ExchangeColours_ac k r65.1 ([1, 0]) _ hr88) ?_
  rintro _ _ ⟨rfl, rfl⟩
  refine ⟨(fun _ h => nomatch h), (allc (flat_agg (colD_flat _)) (allc (flat_s _) (fun _ h => nomatch h))), AOps_as 365 (v' := .tup [.d (.agg (colD r88.1)), iV r88.2]) (H' := [.box (colD r65.1), .vec 0 (intsD ([1, 0]))]) rfl rfl ?_⟩
  refine kM 3 rfl ?_
  refine AOps_alloc 58 _ _ (colD Col.zero) (zero_of Tryz.typeInfo26 rfl) (by rfl) rfl rfl rfl rfl ?_
  refine AOps_store _ _ _ _ _ _ (colD _) _ _ rfl rfl rfl rfl rfl rfl rfl (colD_one _) (by rw [colD_length]; exact Tryz.sizeOf26) (by rw [colD_length, colD_length]; decide) (colD_whole _ _) ?_
  refine kN 1 rfl ?_
  refine kR ?_
  refine kN 1 rfl ?_
  refine kL (fun s90 => [(35, iV r64), (36, .ptr 0 0), (58, .ptr 1 0), (59, iV r88.2), (60, iV s90)]) (fun s90 => [.box (colD r65.1), .box (colD r88.1)]) h (fun s90 h => ?_) (fun s90 h => ?_)
  ·refine kR ?_
   refine kM 1 rfl ?_
   refine AOps_q 369 _ rfl rfl rfl (QOp_eql _ _ _ _ _ _ _ rfl rfl rfl) ?_
   refine AOps_nil ?_
   refine kI h rfl (fun h _ => ?_) (fun h _ => ?_)
   ·refine (ACode_region ?_)
    refine kN 1 rfl ?_
    cases h
    exact Weak_keep 0 hm [35, 36, 58, 59, 60] [0, 2] _ _ rfl rfl rfl
   refine ACode_skip ?_
   cases h
   exact Weak_keep 0 hm [35, 36, 58, 59, 60] [0, 2] _ _ rfl rfl rfl
  refine kL (fun s92 => [(36, .ptr 0 0), (58, .ptr 1 0), (59, iV r88.2), (60, iV s92)]) (fun s92 => [.box (colD r65.1), .box (colD r88.1)]) h (fun s92 h => ?_) (fun s92 h => ?_)
  ·refine kR ?_
   refine kM 1 rfl ?_
   refine AOps_q 371 _ rfl rfl rfl (QOp_eql _ _ _ _ _ _ _ rfl rfl rfl) ?_
   refine AOps_nil ?_
   refine kI h rfl (fun h _ => ?_) (fun h _ => ?_)
   ·refine (ACode_region ?_)
    refine kN 1 rfl ?_
    cases h
    exact Weak_keep 0 hm [36, 58, 59, 60] [0, 1] _ _ rfl rfl rfl
   refine ACode_skip ?_
   cases h
   exact Weak_keep 0 hm [36, 58, 59, 60] [0, 1] _ _ rfl rfl rfl
  refine kR ?_
  refine AOps_q 373 _ rfl rfl rfl (QOp_loadN_ptr _ _ _ _ _ _ _ rfl Tryz.isAgg26 Tryz.sizeOf26 rfl rfl (colD_all _) (colD_length _)) ?_
  refine kM 1 rfl ?_
  obtain ⟨r93, hr93, h⟩ := bindO h
  refine kC [] 375 (.tup [.d (.agg (colD r93.1)), iV r93.2]) [.box (colD r65.1), .box (colD r88.1)] rfl Tryz.call49 rfl rfl (impl_TurnColouring_ac k r65.1 s92 _ hr93) rfl ?_
  refine kM 3 rfl ?_
  refine AOps_alloc 61 _ _ (colD Col.zero) (zero_of Tryz.typeInfo26 rfl) (by rfl) rfl rfl rfl rfl ?_
  refine AOps_store _ _ _ _ _ _ (colD _) _ _ rfl rfl rfl rfl rfl rfl rfl (colD_one _) (by rw [colD_length]; exact Tryz.sizeOf26) (by rw [colD_length, colD_length]; decide) (colD_whole _ _) ?_
  refine kN 1 rfl ?_
  refine kL (fun s96 => [(2, bV s96)]) (fun s96 => []) h (fun s96 h => ?_) (fun s96 h => ?_)
  ·refine (ACode_region ?_)
   refine kM 1 rfl ?_
   refine AOps_q 379 _ rfl rfl rfl (QOp_eql _ _ _ _ _ _ _ rfl rfl rfl) ?_
   refine kM 1 rfl ?_
   refine AOps_case 380 _ rfl (fun hb94 => ?_) (fun hb94 => ?_)
   ·have h := iteT hb94 h
    refine kM 1 rfl ?_
    refine AOps_q 382 _ rfl rfl rfl (QOp_eql _ _ _ _ _ _ _ rfl rfl rfl) ?_
    refine kM 2 rfl ?_
    refine AOps_case 384 _ rfl (fun hb95 => ?_) (fun hb95 => ?_)
    ·have h := iteT hb95 h
     refine AOps_q 385 _ rfl rfl rfl (QOp_loadN_ptr _ _ _ _ _ _ _ rfl Tryz.isAgg26 Tryz.sizeOf26 rfl rfl (colD_all _) (colD_length _)) ?_
     refine AOps_q 386 _ rfl rfl rfl (QOp_loadN_ptr _ _ _ _ _ _ _ rfl Tryz.isAgg26 Tryz.sizeOf26 rfl rfl (colD_all _) (colD_length _)) ?_
     refine AOps_q 387 _ rfl rfl rfl (QOp_eqCol _ _ _ _ _ _ _ _ _ _ _ _ rfl rfl rfl Tryz.underlying26 (by kernel_rfl) (by kernel_rfl) (by decide) (by decide) (by decide) rfl rfl rfl rfl rfl rfl Tryz.underlying2 Tryz.underlying24 Tryz.underlying5 Tryz.sizeOf5 Tryz.sizeOf24) ?_
     refine kN 2 rfl ?_
     cases h
     exact Weak_keep 0 hm [2] [] _ _ rfl rfl rfl
    have h := iteF hb95 h
    refine AOps_skip 385 rfl rfl rfl ?_
    refine AOps_skip 386 rfl rfl rfl ?_
    refine AOps_skip 387 rfl rfl rfl ?_
    refine kN 2 rfl ?_
    cases h
    exact Weak_keep 0 hm [2] [] _ _ rfl rfl rfl
   have h := iteF hb94 h
   refine AOps_skip 381 rfl rfl rfl ?_
   refine AOps_skip 382 rfl rfl rfl ?_
   refine kM 2 rfl ?_
   refine AOps_skip 385 rfl rfl rfl ?_
   refine AOps_skip 386 rfl rfl rfl ?_
   refine AOps_skip 387 rfl rfl rfl ?_
   refine kN 2 rfl ?_
   cases h
   exact Weak_keep 0 hm [2] [] _ _ rfl rfl rfl
  refine ACode_ret ?_
  cases h
  exact ⟨_, _, fun r a w h => ⟨r, h⟩, _, _, [], _, (.cons (ResV_tmp _ _ rfl) .nil), rfl, rfl, rfl, rfl, rfl⟩
 refine ACode_skip ?_
 refine kR ?_
 refine kN 1 rfl ?_
 refine ACode_ret ?_
 cases h
 exact ⟨_, _, fun r a w h => ⟨r, h⟩, _, _, [], _, (.cons (ResV_tmp _ _ rfl) .nil), rfl, rfl, rfl, rfl, rfl⟩

end Go.Proofs.YtkknnbmmcmhngaaGreat
