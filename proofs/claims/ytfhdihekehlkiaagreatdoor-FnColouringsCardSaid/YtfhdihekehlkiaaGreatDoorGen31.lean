/- Plain functions of the program and that the program computes them: printed by the own tool gen.py. No conditions. -/
import Derived.Test.YtfhdihekehlkiaaGreatDoorGen31c
set_option linter.unusedVariables false
set_option linter.unusedSimpArgs false
namespace Go.Proofs.YtfhdihekehlkiaaGreatDoor
open Go Go.RowKit Ab

-- loop.example/g01362/laws.FnColourings
def laws_FnColourings_l0 (k : Nat) (r39 : Col × Int × Int × Int) (r40 : Option (List Int) × Int) (r48 : Option (List Int) × Int) (r49 : Option (List Int) × Int) : Nat → Int → Option (Sum (Unit) (Bool))
 | 0, _ => none
 | k0 + 1, x54 => (if decide (x54 < r39.1.p) then (((laws_hasInt k (r40.1.getD []) x54).bind fun r56 => (laws_hasInt k (r48.1.getD []) x54).bind fun r57 => (if r57 then (laws_hasInt k (r49.1.getD []) x54).bind fun r59 => some (!(r56 == r59)) else some (!(r56 == false))) : Option (Bool)).bind fun s60 => (if s60 then (some (.inr false)).bind fun rr => some (.inr rr) else some (.inl ())) : Option (Sum (Unit) (Sum (Unit) (Bool)))).bind fun os62 => (match os62 with | .inl s62 => laws_FnColourings_l0 k r39 r40 r48 r49 k0 (w64 (x54 + 1)) | .inr rr => some rr) else some (.inl ()))
def laws_FnColourings (k : Nat) (p0 : List UInt8) : Option (Bool) :=
 (if (laws_big p0) then some true else (spec_DrawChangeEdge k p0).bind fun r3 => (impl_ChangeEdge k r3.1 r3.2.1 r3.2.2.1 r3.2.2.2).bind fun r4 => (spec_ChangeEdge k r3.1 r3.2.1 r3.2.2.1 r3.2.2.2).bind fun r5 => (((if !decide (r4.2 = r5.2) then some true else (if !(r4.1.eqb r5.1) then some true else (impl_IsColouring k r3.1).bind fun r8 => (spec_IsColouring k r3.1).bind fun r9 => some (!(r8 == r9)))) : Option (Bool)).bind fun s10 => (if s10 then some (.inr false) else some (.inl ())) : Option (Sum (Unit) (Bool))).bind fun os12 => (match os12 with | .inl s12 => ((if decide (r4.2 = 0) then (impl_ColourOf k r4.1 r3.2.2.1 r3.2.1).bind fun r14 => (impl_ColourOf k r3.1 r3.2.1 r3.2.2.1).bind fun r15 => (impl_ChangeEdge k r4.1 r3.2.1 r3.2.2.1 r15.1).bind fun r16 => (impl_DegreesOf k r4.1 r3.2.2.2).bind fun r17 => (impl_CountEdges k r4.1).bind fun r18 => (impl_ColouringText k r4.1).bind fun r19 => (impl_ParseColouring k r19.1).bind fun r20 => ((if !decide (r14.2 = 0) then some true else (if !decide (r15.2 = 0) then some true else (if !decide (r16.2 = 0) then some true else (if !decide (r17.2 = 0) then some true else (if !decide (r18.2 = 0) then some true else (if !decide (r19.2 = 0) then some true else (if !decide (r20.2 = 0) then some true else (if !decide (r14.1 = r3.2.2.2) then some true else (if !(r16.1.eqb r3.1) then some true else (if !decide (((r18.1.getD []).length : Int) = r3.1.k) then some true else (laws_sum k (r17.1.getD [])).bind fun r31 => (if 0 ≤ r3.2.2.2 ∧ r3.2.2.2 < ((r18.1.getD []).length : Int) then (if !decide (r31 = w64 (2 * ((r18.1.getD []).getD r3.2.2.2.toNat 0))) then some true else (laws_sum k (r18.1.getD [])).bind fun r34 => (if !decide (w64 (2 * r34) = w64 (r3.1.p * (w64 (r3.1.p - 1)))) then some true else some (!(r20.1.eqb r4.1)))) else none))))))))))) : Option (Bool)).bind fun s36 => (if s36 then some (.inr false) else some (.inl ())) else some (.inl ())) : Option (Sum (Unit) (Bool))).bind fun os38 => (match os38 with | .inl s38 => (spec_DrawCommonNeighbours k p0).bind fun r39 => (impl_CommonNeighbours k r39.1 r39.2.1 r39.2.2.1 r39.2.2.2).bind fun r40 => (spec_CommonNeighbours k r39.1 r39.2.1 r39.2.2.1 r39.2.2.2).bind fun r41 => (((if !decide (r40.2 = r41.2) then some true else (laws_likeInts k (r40.1.getD []) r41.1).bind fun r43 => some (!r43)) : Option (Bool)).bind fun s44 => (if s44 then some (.inr false) else some (.inl ())) : Option (Sum (Unit) (Bool))).bind fun os46 => (match os46 with | .inl s46 => ((if decide (r40.2 = 0) then (impl_NeighboursOf k r39.1 r39.2.1 r39.2.2.2).bind fun r48 => (impl_NeighboursOf k r39.1 r39.2.2.1 r39.2.2.2).bind fun r49 => (letO (if !decide (r48.2 = 0) then true else !decide (r49.2 = 0)) fun (s51 : Bool) => (if s51 then (some (.inr false)).bind fun rr => some (.inr rr) else some (.inl ())) : Option (Sum (Unit) (Sum (Unit) (Bool)))).bind fun os53 => (match os53 with | .inl s53 => laws_FnColourings_l0 k r39 r40 r48 r49 k 0 | .inr rr => some rr) else some (.inl ())) : Option (Sum (Unit) (Bool))).bind fun os63 => (match os63 with | .inl s63 => (spec_DrawColouringOf k p0).bind fun r64 => (impl_ColouringOf k r64.1 r64.2.1 r64.2.2).bind fun r65 => (spec_ColouringOf k r64.1 r64.2.1 r64.2.2).bind fun r66 => (spec_DrawColourOf k p0).bind fun r67 => (impl_ColourOf k r67.1 r67.2.1 r67.2.2).bind fun r68 => (spec_ColourOf k r67.1 r67.2.1 r67.2.2).bind fun r69 => (spec_DrawNeighboursOf k p0).bind fun r70 => (impl_NeighboursOf k r70.1 r70.2.1 r70.2.2).bind fun r71 => (spec_NeighboursOf k r70.1 r70.2.1 r70.2.2).bind fun r72 => (spec_DrawDegreesOf k p0).bind fun r73 => (impl_DegreesOf k r73.1 r73.2).bind fun r74 => (spec_DegreesOf k r73.1 r73.2).bind fun r75 => (spec_DrawParseColouring k p0).bind fun r76 => (impl_ParseColouring k r76).bind fun r77 => (spec_ParseColouring k r76).bind fun r78 => (spec_DrawCountEdges k p0).bind fun r79 => (impl_CountEdges k r79).bind fun r80 => (spec_CountEdges k r79).bind fun r81 => (impl_ColouringText k r79).bind fun r82 => (spec_ColouringText k r79).bind fun r83 => ((if decide (r65.2 = r66.2) then (if (r65.1.eqb r66.1) then (if decide (r68.2 = r69.2) then (if decide (r68.1 = r69.1) then (if decide (r71.2 = r72.2) then (laws_likeInts k (r71.1.getD []) r72.1).bind fun r89 => (if r89 then (if decide (r74.2 = r75.2) then (laws_likeInts k (r74.1.getD []) r75.1).bind fun r92 => (if r92 then (if decide (r77.2 = r78.2) then (if (r77.1.eqb r78.1) then (if decide (r80.2 = r81.2) then (laws_likeInts k (r80.1.getD []) r81.1).bind fun r97 => (if r97 then (if decide (r82.2 = r83.2) then some (r82.1 == r83.1) else some false) else some false) else some false) else some false) else some false) else some false) else some false) else some false) else some false) else some false) else some false) else some false) else some false) : Option (Bool)).bind fun s100 => some s100 | .inr rr => some rr) | .inr rr => some rr) | .inr rr => some rr) | .inr rr => some rr))
set_option maxHeartbeats 2000000 in
set_option maxRecDepth 100000 in
theorem laws_FnColourings_ac (k : Nat) (p0 : List UInt8) (r : Bool) (h : laws_FnColourings k p0 = some r) : ACg GK Tryz.prog 3 [.d (.sl none (bysD p0))] [] (fun res H' => res = [bV r] ∧ H' = []) := by
 refine AC_of_bodyG gok true Tryz.func3 rfl Tryz.ntmps3 (rvs := [.tmp 2]) rfl rfl (fun G hG hgl => ?_)
 have hm : G.H.length = 0 := by rw [hG]; rfl
 have hz : zeroG G.H = true := by rw [hG]; rfl
 unfold laws_FnColourings at h
 refine kR ?_
 refine kN 1 rfl ?_
 refine ACode_seq ?_
 refine kR ?_
 refine kM 1 rfl ?_
 refine kC [] 80 (bV (laws_big p0)) [] rfl Tryz.call4 rfl rfl (laws_big_ac p0) rfl ?_
 refine AOps_nil ?_
 refine kI h rfl (fun h _ => ?_) (fun h _ => ?_)
 ·refine kR ?_
  refine kN 1 rfl ?_
  refine ACode_ret ?_
  cases h
  exact ⟨_, _, fun r a w h => ⟨r, h⟩, _, _, [], _, (.cons (ResV_tmp _ _ rfl) .nil), rfl, rfl, rfl, rfl, rfl⟩
 refine ACode_skip ?_
 refine kR ?_
 refine kM 1 rfl ?_
 obtain ⟨r3, hr3, h⟩ := bindO h
 refine kC [] 83 (.tup [.d (.agg (colD r3.1)), iV r3.2.1, iV r3.2.2.1, iV r3.2.2.2]) [] rfl Tryz.call5 rfl rfl (spec_DrawChangeEdge_ac k p0 _ hr3) rfl ?_
 refine kM 5 rfl ?_
 refine AOps_alloc 3 _ _ (colD Col.zero) (zero_of Tryz.typeInfo26 rfl) (by rfl) rfl rfl rfl rfl ?_
 refine AOps_store _ _ _ _ _ _ (colD _) _ _ rfl rfl rfl rfl rfl rfl rfl (colD_one _) (by rw [colD_length]; exact Tryz.sizeOf26) (by rw [colD_length, colD_length]; decide) (colD_whole _ _) ?_
 refine kN 3 rfl ?_
 refine kR ?_
 refine AOps_q 89 _ rfl rfl rfl (QOp_loadN_ptr _ _ _ _ _ _ _ rfl Tryz.isAgg26 Tryz.sizeOf26 rfl rfl (colD_all _) (colD_length _)) ?_
 refine kM 3 rfl ?_
 obtain ⟨r4, hr4, h⟩ := bindO h
 refine kC [] 93 (.tup [.d (.agg (colD r4.1)), iV r4.2]) [.box (colD r3.1)] rfl Tryz.call6 rfl rfl (impl_ChangeEdge_ac k r3.1 r3.2.1 r3.2.2.1 r3.2.2.2 _ hr4) rfl ?_
 refine kM 3 rfl ?_
 refine AOps_alloc 7 _ _ (colD Col.zero) (zero_of Tryz.typeInfo26 rfl) (by rfl) rfl rfl rfl rfl ?_
 refine AOps_store _ _ _ _ _ _ (colD _) _ _ rfl rfl rfl rfl rfl rfl rfl (colD_one _) (by rw [colD_length]; exact Tryz.sizeOf26) (by rw [colD_length, colD_length]; decide) (colD_whole _ _) ?_
 refine kN 1 rfl ?_
 refine kR ?_
 refine AOps_q 97 _ rfl rfl rfl (QOp_loadN_ptr _ _ _ _ _ _ _ rfl Tryz.isAgg26 Tryz.sizeOf26 rfl rfl (colD_all _) (colD_length _)) ?_
 refine kM 3 rfl ?_
 obtain ⟨r5, hr5, h⟩ := bindO h
 refine kC [] 101 (.tup [.d (.agg (colD r5.1)), iV r5.2]) [.box (colD r3.1), .box (colD r4.1)] rfl Tryz.call7 rfl rfl (spec_ChangeEdge_ac k r3.1 r3.2.1 r3.2.2.1 r3.2.2.2 _ hr5) rfl ?_
 refine kM 3 rfl ?_
 refine AOps_alloc 9 _ _ (colD Col.zero) (zero_of Tryz.typeInfo26 rfl) (by rfl) rfl rfl rfl rfl ?_
 refine AOps_store _ _ _ _ _ _ (colD _) _ _ rfl rfl rfl rfl rfl rfl rfl (colD_one _) (by rw [colD_length]; exact Tryz.sizeOf26) (by rw [colD_length, colD_length]; decide) (colD_whole _ _) ?_
 refine kN 1 rfl ?_
 refine kO (fun s12 => [(0, .d (.sl none (bysD p0))), (3, .ptr 0 0), (4, iV r3.2.1), (5, iV r3.2.2.1), (6, iV r3.2.2.2), (7, .ptr 1 0), (8, iV r4.2)]) (fun s12 => [.box (colD r3.1), .box (colD r4.1)]) h (fun os12 h hks12 => ?_) (fun s12 h => ?_)
 ·refine kB (fun s10 => [(0, .d (.sl none (bysD p0))), (3, .ptr 0 0), (4, iV r3.2.1), (5, iV r3.2.2.1), (6, iV r3.2.2.2), (7, .ptr 1 0), (8, iV r4.2), (118, bV s10)]) (fun s10 => [.box (colD r3.1), .box (colD r4.1)]) h (fun s10 h => ?_) (fun s10 h => ?_)
  ·refine (ACode_quiet mixed (by kernel_rfl) ?_)
   refine kQ 2 rfl ?_
   refine AQ_q 106 _ rfl rfl rfl (QOp_neq _ _ _ _ _ _ _ rfl rfl rfl) ?_
   refine kQ 1 rfl ?_
   refine AQ_case 107 _ rfl (fun hb6 => ?_) (fun hb6 => ?_)
   ·have h := iteT hb6 h
    refine AQ_skip 108 rfl rfl rfl ?_
    refine AQ_skip 109 rfl rfl rfl ?_
    refine AQ_skip 110 rfl rfl rfl ?_
    refine kQ 2 rfl ?_
    refine AQ_skip 113 rfl rfl rfl ?_
    refine AQ_skip 114 rfl rfl rfl ?_
    refine AQ_skip 115 rfl rfl rfl ?_
    refine AQ_skip 116 rfl rfl rfl ?_
    refine AQ_skip 117 rfl rfl rfl ?_
    refine kQ 1 rfl ?_
    refine AQ_nil ?_
    cases h
    exact Weak_keep 0 hm [0, 3, 4, 5, 6, 7, 8, 118] [0, 1] _ _ rfl rfl rfl
   have h := iteF hb6 h
   refine AQ_q 108 _ rfl rfl rfl (QOp_loadN_ptr _ _ _ _ _ _ _ rfl Tryz.isAgg26 Tryz.sizeOf26 rfl rfl (colD_all _) (colD_length _)) ?_
   refine AQ_q 109 _ rfl rfl rfl (QOp_loadN_ptr _ _ _ _ _ _ _ rfl Tryz.isAgg26 Tryz.sizeOf26 rfl rfl (colD_all _) (colD_length _)) ?_
   refine AQ_q 110 _ rfl rfl rfl (QOp_neqCol _ _ _ _ _ _ _ _ _ _ _ _ rfl rfl rfl Tryz.underlying26 (by kernel_rfl) (by kernel_rfl) (by decide) (by decide) (by decide) rfl rfl rfl rfl rfl rfl Tryz.underlying2 Tryz.underlying24 Tryz.underlying5 Tryz.sizeOf5 Tryz.sizeOf24) ?_
   refine kQ 2 rfl ?_
   refine AQ_case 112 _ rfl (fun hb7 => ?_) (fun hb7 => ?_)
   ·have h := iteT hb7 h
    refine AQ_skip 113 rfl rfl rfl ?_
    refine AQ_skip 114 rfl rfl rfl ?_
    refine AQ_skip 115 rfl rfl rfl ?_
    refine AQ_skip 116 rfl rfl rfl ?_
    refine AQ_skip 117 rfl rfl rfl ?_
    refine kQ 1 rfl ?_
    refine AQ_nil ?_
    cases h
    exact Weak_keep 0 hm [0, 3, 4, 5, 6, 7, 8, 118] [0, 1] _ _ rfl rfl rfl
   have h := iteF hb7 h
   refine AQ_q 113 _ rfl rfl rfl (QOp_loadN_ptr _ _ _ _ _ _ _ rfl Tryz.isAgg26 Tryz.sizeOf26 rfl rfl (colD_all _) (colD_length _)) ?_
   obtain ⟨r8, hr8, h⟩ := bindO h
   refine AQ_call 114 _ _ _ _ _ _ _ _ _ rfl rfl rfl rfl rfl rfl rfl Tryz.call8 rfl rfl rfl (impl_IsColouring_ac k r3.1 _ hr8) ?_
   refine AQ_q 115 _ rfl rfl rfl (QOp_loadN_ptr _ _ _ _ _ _ _ rfl Tryz.isAgg26 Tryz.sizeOf26 rfl rfl (colD_all _) (colD_length _)) ?_
   obtain ⟨r9, hr9, h⟩ := bindO h
   refine AQ_call 116 _ _ _ _ _ _ _ _ _ rfl rfl rfl rfl rfl rfl rfl Tryz.call9 rfl rfl rfl (spec_IsColouring_ac k r3.1 _ hr9) ?_
   refine AQ_q 117 _ rfl rfl rfl (QOp_bneq _ _ _ _ _ _ rfl rfl rfl Tryz.underlying4) ?_
   refine kQ 1 rfl ?_
   refine AQ_nil ?_
   cases h
   exact Weak_keep 0 hm [0, 3, 4, 5, 6, 7, 8, 118] [0, 1] _ _ rfl rfl rfl
  refine kI h rfl (fun h _ => ?_) (fun h _ => ?_)
  ·refine kR ?_
   refine kN 1 rfl ?_
   refine ACode_ret ?_
   cases h
   have h := hks12
   cases h
   exact ⟨_, _, fun r a w h => ⟨r, h⟩, _, _, [], _, (.cons (ResV_tmp _ _ rfl) .nil), rfl, rfl, rfl, rfl, rfl⟩
  refine ACode_skip ?_
  cases h
  exact ⟨_, rfl, Weak_keep 0 hm [0, 3, 4, 5, 6, 7, 8] [0, 1] _ _ rfl rfl rfl⟩
 refine kO (fun s38 => [(0, .d (.sl none (bysD p0)))]) (fun s38 => []) h (fun os38 h hks38 => ?_) (fun s38 h => ?_)
 ·refine kR ?_
  refine kM 1 rfl ?_
  refine AOps_q 120 _ rfl rfl rfl (QOp_eql _ _ _ _ _ _ _ rfl rfl rfl) ?_
  refine AOps_nil ?_
  refine kI h rfl (fun h _ => ?_) (fun h _ => ?_)
  ·refine kR ?_
   refine AOps_q 122 _ rfl rfl rfl (QOp_loadN_ptr _ _ _ _ _ _ _ rfl Tryz.isAgg26 Tryz.sizeOf26 rfl rfl (colD_all _) (colD_length _)) ?_
   refine kM 2 rfl ?_
   obtain ⟨r14, hr14, h⟩ := bindO h
   refine kC [] 125 (.tup [iV r14.1, iV r14.2]) [.box (colD r3.1), .box (colD r4.1)] rfl Tryz.call10 rfl rfl (impl_ColourOf_ac k r4.1 r3.2.2.1 r3.2.1 _ hr14) rfl ?_
   refine kN 5 rfl ?_
   refine kR ?_
   refine AOps_q 129 _ rfl rfl rfl (QOp_loadN_ptr _ _ _ _ _ _ _ rfl Tryz.isAgg26 Tryz.sizeOf26 rfl rfl (colD_all _) (colD_length _)) ?_
   refine kM 2 rfl ?_
   obtain ⟨r15, hr15, h⟩ := bindO h
   refine kC [] 132 (.tup [iV r15.1, iV r15.2]) [.box (colD r3.1), .box (colD r4.1)] rfl Tryz.call10 rfl rfl (impl_ColourOf_ac k r3.1 r3.2.1 r3.2.2.1 _ hr15) rfl ?_
   refine kN 5 rfl ?_
   refine kR ?_
   refine AOps_q 136 _ rfl rfl rfl (QOp_loadN_ptr _ _ _ _ _ _ _ rfl Tryz.isAgg26 Tryz.sizeOf26 rfl rfl (colD_all _) (colD_length _)) ?_
   refine kM 3 rfl ?_
   obtain ⟨r16, hr16, h⟩ := bindO h
   refine kC [] 140 (.tup [.d (.agg (colD r16.1)), iV r16.2]) [.box (colD r3.1), .box (colD r4.1)] rfl Tryz.call6 rfl rfl (impl_ChangeEdge_ac k r4.1 r3.2.1 r3.2.2.1 r15.1 _ hr16) rfl ?_
   refine kM 3 rfl ?_
   refine AOps_alloc 15 _ _ (colD Col.zero) (zero_of Tryz.typeInfo26 rfl) (by rfl) rfl rfl rfl rfl ?_
   refine AOps_store _ _ _ _ _ _ (colD _) _ _ rfl rfl rfl rfl rfl rfl rfl (colD_one _) (by rw [colD_length]; exact Tryz.sizeOf26) (by rw [colD_length, colD_length]; decide) (colD_whole _ _) ?_
   refine kN 1 rfl ?_
   refine kR ?_
   refine AOps_q 144 _ rfl rfl rfl (QOp_loadN_ptr _ _ _ _ _ _ _ rfl Tryz.isAgg26 Tryz.sizeOf26 rfl rfl (colD_all _) (colD_length _)) ?_
   refine kM 1 rfl ?_
   obtain ⟨r17, hr17, h⟩ := bindO h
   refine kC [] 146 (.tup [.d (.sl none (intsD (r17.1.getD []))), iV r17.2]) [.box (colD r3.1), .box (colD r4.1), .box (colD r16.1)] rfl Tryz.call11 rfl rfl (AC_frz rfl (frz_cons frz_nil) (impl_DegreesOf_ac k r4.1 r3.2.2.2 _ hr17)) rfl ?_
   refine kN 5 rfl ?_
   refine kR ?_
   refine AOps_q 150 _ rfl rfl rfl (QOp_loadN_ptr _ _ _ _ _ _ _ rfl Tryz.isAgg26 Tryz.sizeOf26 rfl rfl (colD_all _) (colD_length _)) ?_
   obtain ⟨r18, hr18, h⟩ := bindO h
   refine kC [] 151 (.tup [.d (.sl none (intsD (r18.1.getD []))), iV r18.2]) [.box (colD r3.1), .box (colD r4.1), .box (colD r16.1)] rfl Tryz.call12 rfl rfl (AC_frz rfl (frz_cons frz_nil) (impl_CountEdges_ac k r4.1 _ hr18)) rfl ?_
   refine kN 5 rfl ?_
   refine kR ?_
   refine AOps_q 155 _ rfl rfl rfl (QOp_loadN_ptr _ _ _ _ _ _ _ rfl Tryz.isAgg26 Tryz.sizeOf26 rfl rfl (colD_all _) (colD_length _)) ?_
   obtain ⟨r19, hr19, h⟩ := bindO h
   refine kC [] 156 (.tup [.d (.s (.string r19.1)), iV r19.2]) [.box (colD r3.1), .box (colD r4.1), .box (colD r16.1)] rfl Tryz.call13 rfl rfl (impl_ColouringText_ac k r4.1 _ hr19) rfl ?_
   refine kN 5 rfl ?_
   refine kR ?_
   refine kM 1 rfl ?_
   obtain ⟨r20, hr20, h⟩ := bindO h
   refine AOps_callG [] 161 _ _ _ _ _ _ _ _ _ _ rfl rfl rfl rfl rfl rfl rfl Tryz.call14 rfl (nodupB_sound _ rfl) rfl rfl rfl gok hgl (impl_ParseColouring_ac k r19.1 _ hr20) ?_
   rintro _ _ ⟨rfl, rfl⟩
   refine ⟨(fun _ h => nomatch h), (allc (trivial) (allc (trivial) (fun _ h => nomatch h))), AOps_as 161 (v' := .tup [.d (.agg (colD r20.1)), iV r20.2]) (H' := [.box (colD r3.1), .box (colD r4.1), .box (colD r16.1)]) rfl rfl ?_⟩
   refine kM 3 rfl ?_
   refine AOps_alloc 23 _ _ (colD Col.zero) (zero_of Tryz.typeInfo26 rfl) (by rfl) rfl rfl rfl rfl ?_
   refine AOps_store _ _ _ _ _ _ (colD _) _ _ rfl rfl rfl rfl rfl rfl rfl (colD_one _) (by rw [colD_length]; exact Tryz.sizeOf26) (by rw [colD_length, colD_length]; decide) (colD_whole _ _) ?_
   refine kN 1 rfl ?_
   refine kB (fun s36 => [(0, .d (.sl none (bysD p0))), (233, bV s36)]) (fun s36 => []) h (fun s36 h => ?_) (fun s36 h => ?_)
   ·refine (ACode_quiet mixed (by kernel_rfl) ?_)
    refine kQ 1 rfl ?_
    refine AQ_q 165 _ rfl rfl rfl (QOp_neq _ _ _ _ _ _ _ rfl rfl rfl) ?_
    refine kQ 1 rfl ?_
    refine AQ_case 166 _ rfl (fun hb21 => ?_) (fun hb21 => ?_)
    ·have h := iteT hb21 h
     refine AQ_skip 167 rfl rfl rfl ?_
     refine AQ_skip 168 rfl rfl rfl ?_
     refine kQ 2 rfl ?_
     refine AQ_skip 171 rfl rfl rfl ?_
     refine AQ_skip 172 rfl rfl rfl ?_
     refine kQ 2 rfl ?_
     refine AQ_skip 175 rfl rfl rfl ?_
     refine AQ_skip 176 rfl rfl rfl ?_
     refine kQ 2 rfl ?_
     refine AQ_skip 179 rfl rfl rfl ?_
     refine AQ_skip 180 rfl rfl rfl ?_
     refine kQ 2 rfl ?_
     refine AQ_skip 183 rfl rfl rfl ?_
     refine AQ_skip 184 rfl rfl rfl ?_
     refine kQ 2 rfl ?_
     refine AQ_skip 187 rfl rfl rfl ?_
     refine AQ_skip 188 rfl rfl rfl ?_
     refine kQ 2 rfl ?_
     refine AQ_skip 191 rfl rfl rfl ?_
     refine AQ_skip 192 rfl rfl rfl ?_
     refine AQ_skip 193 rfl rfl rfl ?_
     refine kQ 2 rfl ?_
     refine AQ_skip 196 rfl rfl rfl ?_
     refine AQ_skip 197 rfl rfl rfl ?_
     refine AQ_skip 198 rfl rfl rfl ?_
     refine kQ 2 rfl ?_
     refine AQ_skip 201 rfl rfl rfl ?_
     refine AQ_skip 202 rfl rfl rfl ?_
     refine AQ_skip 203 rfl rfl rfl ?_
     refine AQ_skip 204 rfl rfl rfl ?_
     refine AQ_skip 205 rfl rfl rfl ?_
     refine kQ 2 rfl ?_
     refine AQ_skip 208 rfl rfl rfl ?_
     refine AQ_skip 209 rfl rfl rfl ?_
     refine AQ_skip 210 rfl rfl rfl ?_
     refine AQ_skip 211 rfl rfl rfl ?_
     refine AQ_skip 212 rfl rfl rfl ?_
     refine AQ_skip 213 rfl rfl rfl ?_
     refine AQ_skip 214 rfl rfl rfl ?_
     refine AQ_skip 215 rfl rfl rfl ?_
     refine kQ 2 rfl ?_
     refine AQ_skip 218 rfl rfl rfl ?_
     refine AQ_skip 219 rfl rfl rfl ?_
     refine AQ_skip 220 rfl rfl rfl ?_
     refine AQ_skip 221 rfl rfl rfl ?_
     refine AQ_skip 222 rfl rfl rfl ?_
     refine AQ_skip 223 rfl rfl rfl ?_
     refine AQ_skip 224 rfl rfl rfl ?_
     refine AQ_skip 225 rfl rfl rfl ?_
     refine AQ_skip 226 rfl rfl rfl ?_
     refine AQ_skip 227 rfl rfl rfl ?_
     refine kQ 2 rfl ?_
     refine AQ_skip 230 rfl rfl rfl ?_
     refine AQ_skip 231 rfl rfl rfl ?_
     refine AQ_skip 232 rfl rfl rfl ?_
     refine kQ 1 rfl ?_
     refine AQ_nil ?_
     cases h
     exact Weak_keep 0 hm [0, 233] [] _ _ rfl rfl rfl
    have h := iteF hb21 h
    refine kQ 1 rfl ?_
    refine AQ_q 168 _ rfl rfl rfl (QOp_neq _ _ _ _ _ _ _ rfl rfl rfl) ?_
    refine kQ 2 rfl ?_
    refine AQ_case 170 _ rfl (fun hb22 => ?_) (fun hb22 => ?_)
    ·have h := iteT hb22 h
     refine AQ_skip 171 rfl rfl rfl ?_
     refine AQ_skip 172 rfl rfl rfl ?_
     refine kQ 2 rfl ?_
     refine AQ_skip 175 rfl rfl rfl ?_
     refine AQ_skip 176 rfl rfl rfl ?_
     refine kQ 2 rfl ?_
     refine AQ_skip 179 rfl rfl rfl ?_
     refine AQ_skip 180 rfl rfl rfl ?_
     refine kQ 2 rfl ?_
     refine AQ_skip 183 rfl rfl rfl ?_
     refine AQ_skip 184 rfl rfl rfl ?_
     refine kQ 2 rfl ?_
     refine AQ_skip 187 rfl rfl rfl ?_
     refine AQ_skip 188 rfl rfl rfl ?_
     refine kQ 2 rfl ?_
     refine AQ_skip 191 rfl rfl rfl ?_
     refine AQ_skip 192 rfl rfl rfl ?_
     refine AQ_skip 193 rfl rfl rfl ?_
     refine kQ 2 rfl ?_
     refine AQ_skip 196 rfl rfl rfl ?_
     refine AQ_skip 197 rfl rfl rfl ?_
     refine AQ_skip 198 rfl rfl rfl ?_
     refine kQ 2 rfl ?_
     refine AQ_skip 201 rfl rfl rfl ?_
     refine AQ_skip 202 rfl rfl rfl ?_
     refine AQ_skip 203 rfl rfl rfl ?_
     refine AQ_skip 204 rfl rfl rfl ?_
     refine AQ_skip 205 rfl rfl rfl ?_
     refine kQ 2 rfl ?_
     refine AQ_skip 208 rfl rfl rfl ?_
     refine AQ_skip 209 rfl rfl rfl ?_
     refine AQ_skip 210 rfl rfl rfl ?_
     refine AQ_skip 211 rfl rfl rfl ?_
     refine AQ_skip 212 rfl rfl rfl ?_
     refine AQ_skip 213 rfl rfl rfl ?_
     refine AQ_skip 214 rfl rfl rfl ?_
     refine AQ_skip 215 rfl rfl rfl ?_
     refine kQ 2 rfl ?_
     refine AQ_skip 218 rfl rfl rfl ?_
     refine AQ_skip 219 rfl rfl rfl ?_
     refine AQ_skip 220 rfl rfl rfl ?_
     refine AQ_skip 221 rfl rfl rfl ?_
     refine AQ_skip 222 rfl rfl rfl ?_
     refine AQ_skip 223 rfl rfl rfl ?_
     refine AQ_skip 224 rfl rfl rfl ?_
     refine AQ_skip 225 rfl rfl rfl ?_
     refine AQ_skip 226 rfl rfl rfl ?_
     refine AQ_skip 227 rfl rfl rfl ?_
     refine kQ 2 rfl ?_
     refine AQ_skip 230 rfl rfl rfl ?_
     refine AQ_skip 231 rfl rfl rfl ?_
     refine AQ_skip 232 rfl rfl rfl ?_
     refine kQ 1 rfl ?_
     refine AQ_nil ?_
     cases h
     exact Weak_keep 0 hm [0, 233] [] _ _ rfl rfl rfl
    have h := iteF hb22 h
    refine kQ 1 rfl ?_
    refine AQ_q 172 _ rfl rfl rfl (QOp_neq _ _ _ _ _ _ _ rfl rfl rfl) ?_
    refine kQ 2 rfl ?_
    refine AQ_case 174 _ rfl (fun hb23 => ?_) (fun hb23 => ?_)
    ·have h := iteT hb23 h
     refine AQ_skip 175 rfl rfl rfl ?_
     refine AQ_skip 176 rfl rfl rfl ?_
     refine kQ 2 rfl ?_
     refine AQ_skip 179 rfl rfl rfl ?_
     refine AQ_skip 180 rfl rfl rfl ?_
     refine kQ 2 rfl ?_
     refine AQ_skip 183 rfl rfl rfl ?_
     refine AQ_skip 184 rfl rfl rfl ?_
     refine kQ 2 rfl ?_
     refine AQ_skip 187 rfl rfl rfl ?_
     refine AQ_skip 188 rfl rfl rfl ?_
     refine kQ 2 rfl ?_
     refine AQ_skip 191 rfl rfl rfl ?_
     refine AQ_skip 192 rfl rfl rfl ?_
     refine AQ_skip 193 rfl rfl rfl ?_
     refine kQ 2 rfl ?_
     refine AQ_skip 196 rfl rfl rfl ?_
     refine AQ_skip 197 rfl rfl rfl ?_
     refine AQ_skip 198 rfl rfl rfl ?_
     refine kQ 2 rfl ?_
     refine AQ_skip 201 rfl rfl rfl ?_
     refine AQ_skip 202 rfl rfl rfl ?_
     refine AQ_skip 203 rfl rfl rfl ?_
     refine AQ_skip 204 rfl rfl rfl ?_
     refine AQ_skip 205 rfl rfl rfl ?_
     refine kQ 2 rfl ?_
     refine AQ_skip 208 rfl rfl rfl ?_
     refine AQ_skip 209 rfl rfl rfl ?_
     refine AQ_skip 210 rfl rfl rfl ?_
     refine AQ_skip 211 rfl rfl rfl ?_
     refine AQ_skip 212 rfl rfl rfl ?_
     refine AQ_skip 213 rfl rfl rfl ?_
     refine AQ_skip 214 rfl rfl rfl ?_
     refine AQ_skip 215 rfl rfl rfl ?_
     refine kQ 2 rfl ?_
     refine AQ_skip 218 rfl rfl rfl ?_
     refine AQ_skip 219 rfl rfl rfl ?_
     refine AQ_skip 220 rfl rfl rfl ?_
     refine AQ_skip 221 rfl rfl rfl ?_
     refine AQ_skip 222 rfl rfl rfl ?_
     refine AQ_skip 223 rfl rfl rfl ?_
     refine AQ_skip 224 rfl rfl rfl ?_
     refine AQ_skip 225 rfl rfl rfl ?_
     refine AQ_skip 226 rfl rfl rfl ?_
     refine AQ_skip 227 rfl rfl rfl ?_
     refine kQ 2 rfl ?_
     refine AQ_skip 230 rfl rfl rfl ?_
     refine AQ_skip 231 rfl rfl rfl ?_
     refine AQ_skip 232 rfl rfl rfl ?_
     refine kQ 1 rfl ?_
     refine AQ_nil ?_
     cases h
     exact Weak_keep 0 hm [0, 233] [] _ _ rfl rfl rfl
    have h := iteF hb23 h
    refine kQ 1 rfl ?_
    refine AQ_q 176 _ rfl rfl rfl (QOp_neq _ _ _ _ _ _ _ rfl rfl rfl) ?_
    refine kQ 2 rfl ?_
    refine AQ_case 178 _ rfl (fun hb24 => ?_) (fun hb24 => ?_)
    ·have h := iteT hb24 h
     refine AQ_skip 179 rfl rfl rfl ?_
     refine AQ_skip 180 rfl rfl rfl ?_
     refine kQ 2 rfl ?_
     refine AQ_skip 183 rfl rfl rfl ?_
     refine AQ_skip 184 rfl rfl rfl ?_
     refine kQ 2 rfl ?_
     refine AQ_skip 187 rfl rfl rfl ?_
     refine AQ_skip 188 rfl rfl rfl ?_
     refine kQ 2 rfl ?_
     refine AQ_skip 191 rfl rfl rfl ?_
     refine AQ_skip 192 rfl rfl rfl ?_
     refine AQ_skip 193 rfl rfl rfl ?_
     refine kQ 2 rfl ?_
     refine AQ_skip 196 rfl rfl rfl ?_
     refine AQ_skip 197 rfl rfl rfl ?_
     refine AQ_skip 198 rfl rfl rfl ?_
     refine kQ 2 rfl ?_
     refine AQ_skip 201 rfl rfl rfl ?_
     refine AQ_skip 202 rfl rfl rfl ?_
     refine AQ_skip 203 rfl rfl rfl ?_
     refine AQ_skip 204 rfl rfl rfl ?_
     refine AQ_skip 205 rfl rfl rfl ?_
     refine kQ 2 rfl ?_
     refine AQ_skip 208 rfl rfl rfl ?_
     refine AQ_skip 209 rfl rfl rfl ?_
     refine AQ_skip 210 rfl rfl rfl ?_
     refine AQ_skip 211 rfl rfl rfl ?_
     refine AQ_skip 212 rfl rfl rfl ?_
     refine AQ_skip 213 rfl rfl rfl ?_
     refine AQ_skip 214 rfl rfl rfl ?_
     refine AQ_skip 215 rfl rfl rfl ?_
     refine kQ 2 rfl ?_
     refine AQ_skip 218 rfl rfl rfl ?_
     refine AQ_skip 219 rfl rfl rfl ?_
     refine AQ_skip 220 rfl rfl rfl ?_
     refine AQ_skip 221 rfl rfl rfl ?_
     refine AQ_skip 222 rfl rfl rfl ?_
     refine AQ_skip 223 rfl rfl rfl ?_
     refine AQ_skip 224 rfl rfl rfl ?_
     refine AQ_skip 225 rfl rfl rfl ?_
     refine AQ_skip 226 rfl rfl rfl ?_
     refine AQ_skip 227 rfl rfl rfl ?_
     refine kQ 2 rfl ?_
     refine AQ_skip 230 rfl rfl rfl ?_
     refine AQ_skip 231 rfl rfl rfl ?_
     refine AQ_skip 232 rfl rfl rfl ?_
     refine kQ 1 rfl ?_
     refine AQ_nil ?_
     cases h
     exact Weak_keep 0 hm [0, 233] [] _ _ rfl rfl rfl
    have h := iteF hb24 h
    refine kQ 1 rfl ?_
    refine AQ_q 180 _ rfl rfl rfl (QOp_neq _ _ _ _ _ _ _ rfl rfl rfl) ?_
    refine kQ 2 rfl ?_
    refine AQ_case 182 _ rfl (fun hb25 => ?_) (fun hb25 => ?_)
    ·have h := iteT hb25 h
     refine AQ_skip 183 rfl rfl rfl ?_
     refine AQ_skip 184 rfl rfl rfl ?_
     refine kQ 2 rfl ?_
     refine AQ_skip 187 rfl rfl rfl ?_
     refine AQ_skip 188 rfl rfl rfl ?_
     refine kQ 2 rfl ?_
     refine AQ_skip 191 rfl rfl rfl ?_
     refine AQ_skip 192 rfl rfl rfl ?_
     refine AQ_skip 193 rfl rfl rfl ?_
     refine kQ 2 rfl ?_
     refine AQ_skip 196 rfl rfl rfl ?_
     refine AQ_skip 197 rfl rfl rfl ?_
     refine AQ_skip 198 rfl rfl rfl ?_
     refine kQ 2 rfl ?_
     refine AQ_skip 201 rfl rfl rfl ?_
     refine AQ_skip 202 rfl rfl rfl ?_
     refine AQ_skip 203 rfl rfl rfl ?_
     refine AQ_skip 204 rfl rfl rfl ?_
     refine AQ_skip 205 rfl rfl rfl ?_
     refine kQ 2 rfl ?_
     refine AQ_skip 208 rfl rfl rfl ?_
     refine AQ_skip 209 rfl rfl rfl ?_
     refine AQ_skip 210 rfl rfl rfl ?_
     refine AQ_skip 211 rfl rfl rfl ?_
     refine AQ_skip 212 rfl rfl rfl ?_
     refine AQ_skip 213 rfl rfl rfl ?_
     refine AQ_skip 214 rfl rfl rfl ?_
     refine AQ_skip 215 rfl rfl rfl ?_
     refine kQ 2 rfl ?_
     refine AQ_skip 218 rfl rfl rfl ?_
     refine AQ_skip 219 rfl rfl rfl ?_
     refine AQ_skip 220 rfl rfl rfl ?_
     refine AQ_skip 221 rfl rfl rfl ?_
     refine AQ_skip 222 rfl rfl rfl ?_
     refine AQ_skip 223 rfl rfl rfl ?_
     refine AQ_skip 224 rfl rfl rfl ?_
     refine AQ_skip 225 rfl rfl rfl ?_
     refine AQ_skip 226 rfl rfl rfl ?_
     refine AQ_skip 227 rfl rfl rfl ?_
     refine kQ 2 rfl ?_
     refine AQ_skip 230 rfl rfl rfl ?_
     refine AQ_skip 231 rfl rfl rfl ?_
     refine AQ_skip 232 rfl rfl rfl ?_
     refine kQ 1 rfl ?_
     refine AQ_nil ?_
     cases h
     exact Weak_keep 0 hm [0, 233] [] _ _ rfl rfl rfl
    have h := iteF hb25 h
    refine kQ 1 rfl ?_
    refine AQ_q 184 _ rfl rfl rfl (QOp_neq _ _ _ _ _ _ _ rfl rfl rfl) ?_
    refine kQ 2 rfl ?_
    refine AQ_case 186 _ rfl (fun hb26 => ?_) (fun hb26 => ?_)
    ·have h := iteT hb26 h
     refine AQ_skip 187 rfl rfl rfl ?_
     refine AQ_skip 188 rfl rfl rfl ?_
     refine kQ 2 rfl ?_
     refine AQ_skip 191 rfl rfl rfl ?_
     refine AQ_skip 192 rfl rfl rfl ?_
     refine AQ_skip 193 rfl rfl rfl ?_
     refine kQ 2 rfl ?_
     refine AQ_skip 196 rfl rfl rfl ?_
     refine AQ_skip 197 rfl rfl rfl ?_
     refine AQ_skip 198 rfl rfl rfl ?_
     refine kQ 2 rfl ?_
     refine AQ_skip 201 rfl rfl rfl ?_
     refine AQ_skip 202 rfl rfl rfl ?_
     refine AQ_skip 203 rfl rfl rfl ?_
     refine AQ_skip 204 rfl rfl rfl ?_
     refine AQ_skip 205 rfl rfl rfl ?_
     refine kQ 2 rfl ?_
     refine AQ_skip 208 rfl rfl rfl ?_
     refine AQ_skip 209 rfl rfl rfl ?_
     refine AQ_skip 210 rfl rfl rfl ?_
     refine AQ_skip 211 rfl rfl rfl ?_
     refine AQ_skip 212 rfl rfl rfl ?_
     refine AQ_skip 213 rfl rfl rfl ?_
     refine AQ_skip 214 rfl rfl rfl ?_
     refine AQ_skip 215 rfl rfl rfl ?_
     refine kQ 2 rfl ?_
     refine AQ_skip 218 rfl rfl rfl ?_
     refine AQ_skip 219 rfl rfl rfl ?_
     refine AQ_skip 220 rfl rfl rfl ?_
     refine AQ_skip 221 rfl rfl rfl ?_
     refine AQ_skip 222 rfl rfl rfl ?_
     refine AQ_skip 223 rfl rfl rfl ?_
     refine AQ_skip 224 rfl rfl rfl ?_
     refine AQ_skip 225 rfl rfl rfl ?_
     refine AQ_skip 226 rfl rfl rfl ?_
     refine AQ_skip 227 rfl rfl rfl ?_
     refine kQ 2 rfl ?_
     refine AQ_skip 230 rfl rfl rfl ?_
     refine AQ_skip 231 rfl rfl rfl ?_
     refine AQ_skip 232 rfl rfl rfl ?_
     refine kQ 1 rfl ?_
     refine AQ_nil ?_
     cases h
     exact Weak_keep 0 hm [0, 233] [] _ _ rfl rfl rfl
    have h := iteF hb26 h
    refine kQ 1 rfl ?_
    refine AQ_q 188 _ rfl rfl rfl (QOp_neq _ _ _ _ _ _ _ rfl rfl rfl) ?_
    refine kQ 2 rfl ?_
    refine AQ_case 190 _ rfl (fun hb27 => ?_) (fun hb27 => ?_)
    ·have h := iteT hb27 h
     refine AQ_skip 191 rfl rfl rfl ?_
     refine AQ_skip 192 rfl rfl rfl ?_
     refine AQ_skip 193 rfl rfl rfl ?_
     refine kQ 2 rfl ?_
     refine AQ_skip 196 rfl rfl rfl ?_
     refine AQ_skip 197 rfl rfl rfl ?_
     refine AQ_skip 198 rfl rfl rfl ?_
     refine kQ 2 rfl ?_
     refine AQ_skip 201 rfl rfl rfl ?_
     refine AQ_skip 202 rfl rfl rfl ?_
     refine AQ_skip 203 rfl rfl rfl ?_
     refine AQ_skip 204 rfl rfl rfl ?_
     refine AQ_skip 205 rfl rfl rfl ?_
     refine kQ 2 rfl ?_
     refine AQ_skip 208 rfl rfl rfl ?_
     refine AQ_skip 209 rfl rfl rfl ?_
     refine AQ_skip 210 rfl rfl rfl ?_
     refine AQ_skip 211 rfl rfl rfl ?_
     refine AQ_skip 212 rfl rfl rfl ?_
     refine AQ_skip 213 rfl rfl rfl ?_
     refine AQ_skip 214 rfl rfl rfl ?_
     refine AQ_skip 215 rfl rfl rfl ?_
     refine kQ 2 rfl ?_
     refine AQ_skip 218 rfl rfl rfl ?_
     refine AQ_skip 219 rfl rfl rfl ?_
     refine AQ_skip 220 rfl rfl rfl ?_
     refine AQ_skip 221 rfl rfl rfl ?_
     refine AQ_skip 222 rfl rfl rfl ?_
     refine AQ_skip 223 rfl rfl rfl ?_
     refine AQ_skip 224 rfl rfl rfl ?_
     refine AQ_skip 225 rfl rfl rfl ?_
     refine AQ_skip 226 rfl rfl rfl ?_
     refine AQ_skip 227 rfl rfl rfl ?_
     refine kQ 2 rfl ?_
     refine AQ_skip 230 rfl rfl rfl ?_
     refine AQ_skip 231 rfl rfl rfl ?_
     refine AQ_skip 232 rfl rfl rfl ?_
     refine kQ 1 rfl ?_
     refine AQ_nil ?_
     cases h
     exact Weak_keep 0 hm [0, 233] [] _ _ rfl rfl rfl
    have h := iteF hb27 h
    refine kQ 2 rfl ?_
    refine AQ_q 193 _ rfl rfl rfl (QOp_neq _ _ _ _ _ _ _ rfl rfl rfl) ?_
    refine kQ 2 rfl ?_
    refine AQ_case 195 _ rfl (fun hb28 => ?_) (fun hb28 => ?_)
    ·have h := iteT hb28 h
     refine AQ_skip 196 rfl rfl rfl ?_
     refine AQ_skip 197 rfl rfl rfl ?_
     refine AQ_skip 198 rfl rfl rfl ?_
     refine kQ 2 rfl ?_
     refine AQ_skip 201 rfl rfl rfl ?_
     refine AQ_skip 202 rfl rfl rfl ?_
     refine AQ_skip 203 rfl rfl rfl ?_
     refine AQ_skip 204 rfl rfl rfl ?_
     refine AQ_skip 205 rfl rfl rfl ?_
     refine kQ 2 rfl ?_
     refine AQ_skip 208 rfl rfl rfl ?_
     refine AQ_skip 209 rfl rfl rfl ?_
     refine AQ_skip 210 rfl rfl rfl ?_
     refine AQ_skip 211 rfl rfl rfl ?_
     refine AQ_skip 212 rfl rfl rfl ?_
     refine AQ_skip 213 rfl rfl rfl ?_
     refine AQ_skip 214 rfl rfl rfl ?_
     refine AQ_skip 215 rfl rfl rfl ?_
     refine kQ 2 rfl ?_
     refine AQ_skip 218 rfl rfl rfl ?_
     refine AQ_skip 219 rfl rfl rfl ?_
     refine AQ_skip 220 rfl rfl rfl ?_
     refine AQ_skip 221 rfl rfl rfl ?_
     refine AQ_skip 222 rfl rfl rfl ?_
     refine AQ_skip 223 rfl rfl rfl ?_
     refine AQ_skip 224 rfl rfl rfl ?_
     refine AQ_skip 225 rfl rfl rfl ?_
     refine AQ_skip 226 rfl rfl rfl ?_
     refine AQ_skip 227 rfl rfl rfl ?_
     refine kQ 2 rfl ?_
     refine AQ_skip 230 rfl rfl rfl ?_
     refine AQ_skip 231 rfl rfl rfl ?_
     refine AQ_skip 232 rfl rfl rfl ?_
     refine kQ 1 rfl ?_
     refine AQ_nil ?_
     cases h
     exact Weak_keep 0 hm [0, 233] [] _ _ rfl rfl rfl
    have h := iteF hb28 h
    refine AQ_q 196 _ rfl rfl rfl (QOp_loadN_ptr _ _ _ _ _ _ _ rfl Tryz.isAgg26 Tryz.sizeOf26 rfl rfl (colD_all _) (colD_length _)) ?_
    refine AQ_q 197 _ rfl rfl rfl (QOp_loadN_ptr _ _ _ _ _ _ _ rfl Tryz.isAgg26 Tryz.sizeOf26 rfl rfl (colD_all _) (colD_length _)) ?_
    refine AQ_q 198 _ rfl rfl rfl (QOp_neqCol _ _ _ _ _ _ _ _ _ _ _ _ rfl rfl rfl Tryz.underlying26 (by kernel_rfl) (by kernel_rfl) (by decide) (by decide) (by decide) rfl rfl rfl rfl rfl rfl Tryz.underlying2 Tryz.underlying24 Tryz.underlying5 Tryz.sizeOf5 Tryz.sizeOf24) ?_
    refine kQ 2 rfl ?_
    refine AQ_case 200 _ rfl (fun hb29 => ?_) (fun hb29 => ?_)
    ·have h := iteT hb29 h
     refine AQ_skip 201 rfl rfl rfl ?_
     refine AQ_skip 202 rfl rfl rfl ?_
     refine AQ_skip 203 rfl rfl rfl ?_
     refine AQ_skip 204 rfl rfl rfl ?_
     refine AQ_skip 205 rfl rfl rfl ?_
     refine kQ 2 rfl ?_
     refine AQ_skip 208 rfl rfl rfl ?_
     refine AQ_skip 209 rfl rfl rfl ?_
     refine AQ_skip 210 rfl rfl rfl ?_
     refine AQ_skip 211 rfl rfl rfl ?_
     refine AQ_skip 212 rfl rfl rfl ?_
     refine AQ_skip 213 rfl rfl rfl ?_
     refine AQ_skip 214 rfl rfl rfl ?_
     refine AQ_skip 215 rfl rfl rfl ?_
     refine kQ 2 rfl ?_
     refine AQ_skip 218 rfl rfl rfl ?_
     refine AQ_skip 219 rfl rfl rfl ?_
     refine AQ_skip 220 rfl rfl rfl ?_
     refine AQ_skip 221 rfl rfl rfl ?_
     refine AQ_skip 222 rfl rfl rfl ?_
     refine AQ_skip 223 rfl rfl rfl ?_
     refine AQ_skip 224 rfl rfl rfl ?_
     refine AQ_skip 225 rfl rfl rfl ?_
     refine AQ_skip 226 rfl rfl rfl ?_
     refine AQ_skip 227 rfl rfl rfl ?_
     refine kQ 2 rfl ?_
     refine AQ_skip 230 rfl rfl rfl ?_
     refine AQ_skip 231 rfl rfl rfl ?_
     refine AQ_skip 232 rfl rfl rfl ?_
     refine kQ 1 rfl ?_
     refine AQ_nil ?_
     cases h
     exact Weak_keep 0 hm [0, 233] [] _ _ rfl rfl rfl
    have h := iteF hb29 h
    refine kQ 1 rfl ?_
    refine AQ_q 202 _ rfl rfl rfl (QOp_len_sl _ _ _ _ _ _ _ (intsD_length _) rfl rfl rfl rfl Tryz.underlying34 rfl) ?_
    refine AQ_q 203 _ rfl rfl rfl (QOp_fieldAddr_ptr _ _ _ _ _ _ 1 _ _ rfl Tryz.underlying26 rfl _ Tryz.sizeOf2 rfl rfl rfl rfl) ?_
    refine AQ_q 204 _ rfl rfl rfl (QOp_load_ptr _ _ _ _ _ _ rfl Tryz.isAgg2 rfl rfl rfl) ?_
    refine AQ_q 205 _ rfl rfl rfl (QOp_neq _ _ _ _ _ _ _ rfl rfl rfl) ?_
    refine kQ 2 rfl ?_
    refine AQ_case 207 _ rfl (fun hb30 => ?_) (fun hb30 => ?_)
    ·have h := iteT hb30 h
     refine AQ_skip 208 rfl rfl rfl ?_
     refine AQ_skip 209 rfl rfl rfl ?_
     refine AQ_skip 210 rfl rfl rfl ?_
     refine AQ_skip 211 rfl rfl rfl ?_
     refine AQ_skip 212 rfl rfl rfl ?_
     refine AQ_skip 213 rfl rfl rfl ?_
     refine AQ_skip 214 rfl rfl rfl ?_
     refine AQ_skip 215 rfl rfl rfl ?_
     refine kQ 2 rfl ?_
     refine AQ_skip 218 rfl rfl rfl ?_
     refine AQ_skip 219 rfl rfl rfl ?_
     refine AQ_skip 220 rfl rfl rfl ?_
     refine AQ_skip 221 rfl rfl rfl ?_
     refine AQ_skip 222 rfl rfl rfl ?_
     refine AQ_skip 223 rfl rfl rfl ?_
     refine AQ_skip 224 rfl rfl rfl ?_
     refine AQ_skip 225 rfl rfl rfl ?_
     refine AQ_skip 226 rfl rfl rfl ?_
     refine AQ_skip 227 rfl rfl rfl ?_
     refine kQ 2 rfl ?_
     refine AQ_skip 230 rfl rfl rfl ?_
     refine AQ_skip 231 rfl rfl rfl ?_
     refine AQ_skip 232 rfl rfl rfl ?_
     refine kQ 1 rfl ?_
     refine AQ_nil ?_
     cases h
     exact Weak_keep 0 hm [0, 233] [] _ _ rfl rfl rfl
    have h := iteF hb30 h
    refine kQ 1 rfl ?_
    obtain ⟨r31, hr31, h⟩ := bindO h
    refine AQ_call 209 _ _ _ _ _ _ _ _ _ rfl rfl rfl rfl rfl rfl rfl Tryz.call15 rfl rfl rfl (laws_sum_ac k (r17.1.getD []) _ hr31) ?_
    refine kQ 2 rfl ?_
    obtain ⟨hc32, h⟩ := guardO h
    refine AQ_q 212 _ rfl rfl rfl (QOp_indexAddr_sl _ _ _ _ _ _ _ _ rfl Tryz.underlying34 Tryz.sizeOf2 hc32.1 (by rw [intsD_length]; exact hc32.2) rfl rfl) ?_
    refine AQ_q 213 _ rfl rfl rfl (QOp_load_pv _ _ _ _ _ rfl Tryz.isAgg2 rfl (intsD_get _ _ 0 (by omega))) ?_
    refine AQ_q 214 _ rfl rfl rfl (QOp_mul _ _ _ _ _ _ _ rfl rfl rfl) ?_
    refine AQ_q 215 _ rfl rfl rfl (QOp_neq _ _ _ _ _ _ _ rfl rfl rfl) ?_
    refine kQ 2 rfl ?_
    refine AQ_case 217 _ rfl (fun hb33 => ?_) (fun hb33 => ?_)
    ·have h := iteT hb33 h
     refine AQ_skip 218 rfl rfl rfl ?_
     refine AQ_skip 219 rfl rfl rfl ?_
     refine AQ_skip 220 rfl rfl rfl ?_
     refine AQ_skip 221 rfl rfl rfl ?_
     refine AQ_skip 222 rfl rfl rfl ?_
     refine AQ_skip 223 rfl rfl rfl ?_
     refine AQ_skip 224 rfl rfl rfl ?_
     refine AQ_skip 225 rfl rfl rfl ?_
     refine AQ_skip 226 rfl rfl rfl ?_
     refine AQ_skip 227 rfl rfl rfl ?_
     refine kQ 2 rfl ?_
     refine AQ_skip 230 rfl rfl rfl ?_
     refine AQ_skip 231 rfl rfl rfl ?_
     refine AQ_skip 232 rfl rfl rfl ?_
     refine kQ 1 rfl ?_
     refine AQ_nil ?_
     cases h
     exact Weak_keep 0 hm [0, 233] [] _ _ rfl rfl rfl
    have h := iteF hb33 h
    refine kQ 1 rfl ?_
    obtain ⟨r34, hr34, h⟩ := bindO h
    refine AQ_call 219 _ _ _ _ _ _ _ _ _ rfl rfl rfl rfl rfl rfl rfl Tryz.call15 rfl rfl rfl (laws_sum_ac k (r18.1.getD []) _ hr34) ?_
    refine AQ_q 220 _ rfl rfl rfl (QOp_mul _ _ _ _ _ _ _ rfl rfl rfl) ?_
    refine AQ_q 221 _ rfl rfl rfl (QOp_fieldAddr_ptr _ _ _ _ _ _ 0 _ _ rfl Tryz.underlying26 rfl _ Tryz.sizeOf2 rfl rfl rfl rfl) ?_
    refine AQ_q 222 _ rfl rfl rfl (QOp_load_ptr _ _ _ _ _ _ rfl Tryz.isAgg2 rfl rfl rfl) ?_
    refine AQ_q 223 _ rfl rfl rfl (QOp_fieldAddr_ptr _ _ _ _ _ _ 0 _ _ rfl Tryz.underlying26 rfl _ Tryz.sizeOf2 rfl rfl rfl rfl) ?_
    refine AQ_q 224 _ rfl rfl rfl (QOp_load_ptr _ _ _ _ _ _ rfl Tryz.isAgg2 rfl rfl rfl) ?_
    refine AQ_q 225 _ rfl rfl rfl (QOp_sub _ _ _ _ _ _ _ rfl rfl rfl) ?_
    refine AQ_q 226 _ rfl rfl rfl (QOp_mul _ _ _ _ _ _ _ rfl rfl rfl) ?_
    refine AQ_q 227 _ rfl rfl rfl (QOp_neq _ _ _ _ _ _ _ rfl rfl rfl) ?_
    refine kQ 2 rfl ?_
    refine AQ_case 229 _ rfl (fun hb35 => ?_) (fun hb35 => ?_)
    ·have h := iteT hb35 h
     refine AQ_skip 230 rfl rfl rfl ?_
     refine AQ_skip 231 rfl rfl rfl ?_
     refine AQ_skip 232 rfl rfl rfl ?_
     refine kQ 1 rfl ?_
     refine AQ_nil ?_
     cases h
     exact Weak_keep 0 hm [0, 233] [] _ _ rfl rfl rfl
    have h := iteF hb35 h
    refine AQ_q 230 _ rfl rfl rfl (QOp_loadN_ptr _ _ _ _ _ _ _ rfl Tryz.isAgg26 Tryz.sizeOf26 rfl rfl (colD_all _) (colD_length _)) ?_
    refine AQ_q 231 _ rfl rfl rfl (QOp_loadN_ptr _ _ _ _ _ _ _ rfl Tryz.isAgg26 Tryz.sizeOf26 rfl rfl (colD_all _) (colD_length _)) ?_
    refine AQ_q 232 _ rfl rfl rfl (QOp_neqCol _ _ _ _ _ _ _ _ _ _ _ _ rfl rfl rfl Tryz.underlying26 (by kernel_rfl) (by kernel_rfl) (by decide) (by decide) (by decide) rfl rfl rfl rfl rfl rfl Tryz.underlying2 Tryz.underlying24 Tryz.underlying5 Tryz.sizeOf5 Tryz.sizeOf24) ?_
    refine kQ 1 rfl ?_
    refine AQ_nil ?_
    cases h
    exact Weak_keep 0 hm [0, 233] [] _ _ rfl rfl rfl
   refine kI h rfl (fun h _ => ?_) (fun h _ => ?_)
   ·refine kR ?_
    refine kN 1 rfl ?_
    refine ACode_ret ?_
    cases h
    have h := hks38
    cases h
    exact ⟨_, _, fun r a w h => ⟨r, h⟩, _, _, [], _, (.cons (ResV_tmp _ _ rfl) .nil), rfl, rfl, rfl, rfl, rfl⟩
   refine ACode_skip ?_
   cases h
   exact ⟨_, rfl, Weak_keep 0 hm [0] [] _ _ rfl rfl rfl⟩
  refine ACode_skip ?_
  cases h
  exact ⟨_, rfl, Weak_keep 0 hm [0] [] _ _ rfl rfl rfl⟩
 refine kR ?_
 refine kM 1 rfl ?_
 obtain ⟨r39, hr39, h⟩ := bindO h
 refine kC [] 236 (.tup [.d (.agg (colD r39.1)), iV r39.2.1, iV r39.2.2.1, iV r39.2.2.2]) [] rfl Tryz.call16 rfl rfl (spec_DrawCommonNeighbours_ac k p0 _ hr39) rfl ?_
 refine kM 5 rfl ?_
 refine AOps_alloc 25 _ _ (colD Col.zero) (zero_of Tryz.typeInfo26 rfl) (by rfl) rfl rfl rfl rfl ?_
 refine AOps_store _ _ _ _ _ _ (colD _) _ _ rfl rfl rfl rfl rfl rfl rfl (colD_one _) (by rw [colD_length]; exact Tryz.sizeOf26) (by rw [colD_length, colD_length]; decide) (colD_whole _ _) ?_
 refine kN 3 rfl ?_
 refine kR ?_
 refine AOps_q 242 _ rfl rfl rfl (QOp_loadN_ptr _ _ _ _ _ _ _ rfl Tryz.isAgg26 Tryz.sizeOf26 rfl rfl (colD_all _) (colD_length _)) ?_
 refine kM 3 rfl ?_
 obtain ⟨r40, hr40, h⟩ := bindO h
 refine kC [] 246 (.tup [.d (.sl none (intsD (r40.1.getD []))), iV r40.2]) [.box (colD r39.1)] rfl Tryz.call17 rfl rfl (AC_frz rfl (frz_cons frz_nil) (impl_CommonNeighbours_ac k r39.1 r39.2.1 r39.2.2.1 r39.2.2.2 _ hr40)) rfl ?_
 refine kN 5 rfl ?_
 refine kR ?_
 refine AOps_q 250 _ rfl rfl rfl (QOp_loadN_ptr _ _ _ _ _ _ _ rfl Tryz.isAgg26 Tryz.sizeOf26 rfl rfl (colD_all _) (colD_length _)) ?_
 refine kM 3 rfl ?_
 obtain ⟨r41, hr41, h⟩ := bindO h
 refine kC [] 254 (.tup [.d (.sl none (intsD r41.1)), iV r41.2]) [.box (colD r39.1)] rfl Tryz.call18 rfl rfl (spec_CommonNeighbours_ac k r39.1 r39.2.1 r39.2.2.1 r39.2.2.2 _ hr41) rfl ?_
 refine kN 5 rfl ?_
 refine kO (fun s46 => [(0, .d (.sl none (bysD p0))), (25, .ptr 0 0), (26, iV r39.2.1), (27, iV r39.2.2.1), (28, iV r39.2.2.2), (29, .d (.sl none (intsD (r40.1.getD [])))), (30, iV r40.2)]) (fun s46 => [.box (colD r39.1)]) h (fun os46 h hks46 => ?_) (fun s46 h => ?_)
 ·refine kB (fun s44 => [(0, .d (.sl none (bysD p0))), (25, .ptr 0 0), (26, iV r39.2.1), (27, iV r39.2.2.1), (28, iV r39.2.2.2), (29, .d (.sl none (intsD (r40.1.getD [])))), (30, iV r40.2), (265, bV s44)]) (fun s44 => [.box (colD r39.1)]) h (fun s44 h => ?_) (fun s44 h => ?_)
  ·refine (ACode_region ?_)
   refine kM 2 rfl ?_
   refine AOps_q 259 _ rfl rfl rfl (QOp_neq _ _ _ _ _ _ _ rfl rfl rfl) ?_
   refine kM 1 rfl ?_
   refine AOps_case 260 _ rfl (fun hb42 => ?_) (fun hb42 => ?_)
   ·have h := iteT hb42 h
    refine AOps_skip 261 rfl rfl rfl ?_
    refine AOps_skip 262 rfl rfl rfl ?_
    refine AOps_skip 263 rfl rfl rfl ?_
    refine AOps_skip 264 rfl rfl rfl ?_
    refine kN 1 rfl ?_
    cases h
    exact Weak_keep 0 hm [0, 25, 26, 27, 28, 29, 30, 265] [0] _ _ rfl rfl rfl
   have h := iteF hb42 h
   refine kM 2 rfl ?_
   obtain ⟨r43, hr43, h⟩ := bindO h
   refine kC [] 263 (bV r43) [.box (colD r39.1)] rfl Tryz.call19 rfl rfl (laws_likeInts_ac k (r40.1.getD []) r41.1 _ hr43) rfl ?_
   refine AOps_q 264 _ rfl rfl rfl (QOp_not _ _ _ rfl rfl) ?_
   refine kN 1 rfl ?_
   cases h
   exact Weak_keep 0 hm [0, 25, 26, 27, 28, 29, 30, 265] [0] _ _ rfl rfl rfl
  refine kI h rfl (fun h _ => ?_) (fun h _ => ?_)
  ·refine kR ?_
   refine kN 1 rfl ?_
   refine ACode_ret ?_
   cases h
   have h := hks46
   cases h
   exact ⟨_, _, fun r a w h => ⟨r, h⟩, _, _, [], _, (.cons (ResV_tmp _ _ rfl) .nil), rfl, rfl, rfl, rfl, rfl⟩
  refine ACode_skip ?_
  cases h
  exact ⟨_, rfl, Weak_keep 0 hm [0, 25, 26, 27, 28, 29, 30] [0] _ _ rfl rfl rfl⟩
 refine kO (fun s63 => [(0, .d (.sl none (bysD p0)))]) (fun s63 => []) h (fun os63 h hks63 => ?_) (fun s63 h => ?_)
 ·refine kR ?_
  refine kM 1 rfl ?_
  refine AOps_q 267 _ rfl rfl rfl (QOp_eql _ _ _ _ _ _ _ rfl rfl rfl) ?_
  refine AOps_nil ?_
  refine kI h rfl (fun h _ => ?_) (fun h _ => ?_)
  ·refine kR ?_
   refine AOps_q 269 _ rfl rfl rfl (QOp_loadN_ptr _ _ _ _ _ _ _ rfl Tryz.isAgg26 Tryz.sizeOf26 rfl rfl (colD_all _) (colD_length _)) ?_
   refine kM 2 rfl ?_
   obtain ⟨r48, hr48, h⟩ := bindO h
   refine kC [] 272 (.tup [.d (.sl none (intsD (r48.1.getD []))), iV r48.2]) [.box (colD r39.1)] rfl Tryz.call20 rfl rfl (AC_frz rfl (frz_cons frz_nil) (impl_NeighboursOf_ac k r39.1 r39.2.1 r39.2.2.2 _ hr48)) rfl ?_
   refine kN 5 rfl ?_
   refine kR ?_
   refine AOps_q 276 _ rfl rfl rfl (QOp_loadN_ptr _ _ _ _ _ _ _ rfl Tryz.isAgg26 Tryz.sizeOf26 rfl rfl (colD_all _) (colD_length _)) ?_
   refine kM 2 rfl ?_
   obtain ⟨r49, hr49, h⟩ := bindO h
   refine kC [] 279 (.tup [.d (.sl none (intsD (r49.1.getD []))), iV r49.2]) [.box (colD r39.1)] rfl Tryz.call20 rfl rfl (AC_frz rfl (frz_cons frz_nil) (impl_NeighboursOf_ac k r39.1 r39.2.2.1 r39.2.2.2 _ hr49)) rfl ?_
   refine kN 5 rfl ?_
   refine kO (fun s53 => [(0, .d (.sl none (bysD p0))), (25, .ptr 0 0), (29, .d (.sl none (intsD (r40.1.getD [])))), (33, .d (.sl none (intsD (r48.1.getD [])))), (35, .d (.sl none (intsD (r49.1.getD []))))]) (fun s53 => [.box (colD r39.1)]) h (fun os53 h hks53 => ?_) (fun s53 h => ?_)
   ·refine kL (fun s51 => [(0, .d (.sl none (bysD p0))), (25, .ptr 0 0), (29, .d (.sl none (intsD (r40.1.getD [])))), (33, .d (.sl none (intsD (r48.1.getD [])))), (35, .d (.sl none (intsD (r49.1.getD [])))), (287, bV s51)]) (fun s51 => [.box (colD r39.1)]) h (fun s51 h => ?_) (fun s51 h => ?_)
    ·refine (ACode_region ?_)
     refine kM 1 rfl ?_
     refine AOps_q 283 _ rfl rfl rfl (QOp_neq _ _ _ _ _ _ _ rfl rfl rfl) ?_
     refine kM 1 rfl ?_
     refine AOps_case 284 _ rfl (fun hb50 => ?_) (fun hb50 => ?_)
     ·have h := iteT hb50 h
      refine AOps_skip 285 rfl rfl rfl ?_
      refine AOps_skip 286 rfl rfl rfl ?_
      refine kN 1 rfl ?_
      cases h
      exact Weak_keep 0 hm [0, 25, 29, 33, 35, 287] [0] _ _ rfl rfl rfl
     have h := iteF hb50 h
     refine kM 1 rfl ?_
     refine AOps_q 286 _ rfl rfl rfl (QOp_neq _ _ _ _ _ _ _ rfl rfl rfl) ?_
     refine kN 1 rfl ?_
     cases h
     exact Weak_keep 0 hm [0, 25, 29, 33, 35, 287] [0] _ _ rfl rfl rfl
    refine kI h rfl (fun h _ => ?_) (fun h _ => ?_)
    ·refine kR ?_
     refine kN 1 rfl ?_
     refine ACode_ret ?_
     obtain ⟨rr, hz101, h2⟩ := bindO h
     obtain rfl := Option.some.inj h2
     obtain rfl := Option.some.inj (show some rr = some _ from hks53)
     have h := hz101
     cases h
     have h := hks63
     cases h
     exact ⟨_, _, fun r a w h => ⟨r, h⟩, _, _, [], _, (.cons (ResV_tmp _ _ rfl) .nil), rfl, rfl, rfl, rfl, rfl⟩
    refine ACode_skip ?_
    cases h
    exact ⟨_, rfl, Weak_keep 0 hm [0, 25, 29, 33, 35] [0] _ _ rfl rfl rfl⟩
   refine kR ?_
   refine kN 1 rfl ?_
   refine ACode_block ?_
   refine ACode_loopW (fun k0 E H => ∃ (x54 : Int), E = [(0, .d (.sl none (bysD p0))), (25, .ptr 0 0), (29, .d (.sl none (intsD (r40.1.getD [])))), (33, .d (.sl none (intsD (r48.1.getD [])))), (35, .d (.sl none (intsD (r49.1.getD [])))), (37, iV x54)] ∧ H = [.box (colD r39.1)] ∧ laws_FnColourings_l0 k r39 r40 r48 r49 k0 x54 = some os63) k _ _ (Weak_keep 0 hm [0, 25, 29, 33, 35, 37] [0] _ _ rfl rfl rfl) ⟨_, rfl, rfl, h⟩ ?_
   clear h
   rintro k0 E H ⟨x54, rfl, rfl, h⟩
   cases k0 with
   | zero => cases (show (none : Option (Sum (Unit) (Bool))) = some _ from h)
   | succ k0 =>
    rw [laws_FnColourings_l0] at h
    refine ACode_seq ?_
    refine kR ?_
    refine kM 1 rfl ?_
    refine AOps_q 289 _ rfl rfl rfl (QOp_fieldAddr_ptr _ _ _ _ _ _ 0 _ _ rfl Tryz.underlying26 rfl _ Tryz.sizeOf2 rfl rfl rfl rfl) ?_
    refine AOps_q 290 _ rfl rfl rfl (QOp_load_ptr _ _ _ _ _ _ rfl Tryz.isAgg2 rfl rfl rfl) ?_
    refine AOps_q 291 _ rfl rfl rfl (QOp_lss _ _ _ _ _ _ _ rfl rfl rfl) ?_
    refine AOps_nil ?_
    refine kI h rfl (fun h _ => ?_) (fun h _ => ?_)
    ·refine ACode_skip ?_
     refine kO (fun s62 => [(0, .d (.sl none (bysD p0))), (25, .ptr 0 0), (29, .d (.sl none (intsD (r40.1.getD [])))), (33, .d (.sl none (intsD (r48.1.getD [])))), (35, .d (.sl none (intsD (r49.1.getD [])))), (37, iV x54)]) (fun s62 => [.box (colD r39.1)]) h (fun os62 h hks62 => ?_) (fun s62 h => ?_)
     ·refine ACode_block ?_
      refine kB (fun s60 => [(0, .d (.sl none (bysD p0))), (25, .ptr 0 0), (29, .d (.sl none (intsD (r40.1.getD [])))), (33, .d (.sl none (intsD (r48.1.getD [])))), (35, .d (.sl none (intsD (r49.1.getD [])))), (37, iV x54), (305, bV s60)]) (fun s60 => [.box (colD r39.1)]) h (fun s60 h => ?_) (fun s60 h => ?_)
      ·refine (ACode_region ?_)
       refine kM 2 rfl ?_
       obtain ⟨r56, hr56, h⟩ := bindO h
       refine kC [] 296 (bV r56) [.box (colD r39.1)] rfl Tryz.call21 rfl rfl (laws_hasInt_ac k (r40.1.getD []) x54 _ hr56) rfl ?_
       refine kM 2 rfl ?_
       obtain ⟨r57, hr57, h⟩ := bindO h
       refine kC [] 299 (bV r57) [.box (colD r39.1)] rfl Tryz.call21 rfl rfl (laws_hasInt_ac k (r48.1.getD []) x54 _ hr57) rfl ?_
       refine kM 1 rfl ?_
       refine AOps_case 300 _ rfl (fun hb58 => ?_) (fun hb58 => ?_)
       ·have h := iteT hb58 h
        refine kM 2 rfl ?_
        obtain ⟨r59, hr59, h⟩ := bindO h
        refine kC [] 303 (bV r59) [.box (colD r39.1)] rfl Tryz.call21 rfl rfl (laws_hasInt_ac k (r49.1.getD []) x54 _ hr59) rfl ?_
        refine kM 1 rfl ?_
        refine AOps_q 305 _ rfl rfl rfl (QOp_bneq _ _ _ _ _ _ rfl rfl rfl Tryz.underlying4) ?_
        refine AOps_nil ?_
        cases h
        exact Weak_keep 0 hm [0, 25, 29, 33, 35, 37, 305] [0] _ _ rfl rfl rfl
       have h := iteF hb58 h
       refine AOps_skip 301 rfl rfl rfl ?_
       refine AOps_skip 302 rfl rfl rfl ?_
       refine AOps_skip 303 rfl rfl rfl ?_
       refine kM 1 rfl ?_
       refine AOps_q 305 _ rfl rfl rfl (QOp_bneq _ _ _ _ _ _ rfl rfl rfl Tryz.underlying4) ?_
       refine AOps_nil ?_
       cases h
       exact Weak_keep 0 hm [0, 25, 29, 33, 35, 37, 305] [0] _ _ rfl rfl rfl
      refine kI h rfl (fun h _ => ?_) (fun h _ => ?_)
      ·refine kR ?_
       refine kN 1 rfl ?_
       refine ACode_ret ?_
       obtain ⟨rr, hz102, h2⟩ := bindO h
       obtain rfl := Option.some.inj h2
       obtain rfl := Option.some.inj (show some rr = some _ from hks62)
       have h := hz102
       cases h
       have h := hks63
       cases h
       exact ⟨_, _, fun r a w h => ⟨r, h⟩, _, _, [], _, (.cons (ResV_tmp _ _ rfl) .nil), rfl, rfl, rfl, rfl, rfl⟩
      refine ACode_skip ?_
      cases h
      exact ⟨_, rfl, Weak_keep 0 hm [0, 25, 29, 33, 35, 37] [0] _ _ rfl rfl rfl⟩
     refine (ACode_region ?_)
     refine kM 1 rfl ?_
     refine AOps_q 293 _ rfl rfl rfl (QOp_add _ _ _ _ _ _ _ rfl rfl rfl) ?_
     refine kN 1 rfl ?_
     exact ⟨k0, _, _, Nat.lt_succ_self _, Weak_keep 0 hm [0, 25, 29, 33, 35, 37] [0] _ _ rfl rfl rfl, _, rfl, rfl, h⟩
    refine ACode_exit ?_
    cases h
    exact ⟨_, rfl, Weak_keep 0 hm [0] [] _ _ rfl rfl rfl⟩
  refine ACode_skip ?_
  cases h
  exact ⟨_, rfl, Weak_keep 0 hm [0] [] _ _ rfl rfl rfl⟩
 refine kR ?_
 refine kM 1 rfl ?_
 obtain ⟨r64, hr64, h⟩ := bindO h
 refine kC [] 308 (.tup [iV r64.1, iV r64.2.1, .vec 0 0]) [.vec 0 (intsD r64.2.2)] rfl Tryz.call22 rfl rfl (spec_DrawColouringOf_ac k p0 _ hr64) rfl ?_
 refine kN 7 rfl ?_
 refine kR ?_
 refine kM 3 rfl ?_
 obtain ⟨r65, hr65, h⟩ := bindO h
 refine AOps_callL [] 316 _ _ _ _ _ _ _ _ _ _ rfl rfl rfl rfl rfl rfl rfl Tryz.call23 rfl (nodupB_sound _ rfl) rfl rfl rfl (impl_ColouringOf_ac k r64.1 r64.2.1 r64.2.2 _ hr65) ?_
 rintro _ _ ⟨rfl, rfl⟩
 refine ⟨(fun _ h => nomatch h), (allc (flat_agg (colD_flat _)) (allc (flat_s _) (fun _ h => nomatch h))), AOps_as 316 (v' := .tup [.d (.agg (colD r65.1)), iV r65.2]) (H' := [.vec 0 (intsD r64.2.2)]) rfl rfl ?_⟩
 refine kM 3 rfl ?_
 refine AOps_alloc 41 _ _ (colD Col.zero) (zero_of Tryz.typeInfo26 rfl) (by rfl) rfl rfl rfl rfl ?_
 refine AOps_store _ _ _ _ _ _ (colD _) _ _ rfl rfl rfl rfl rfl rfl rfl (colD_one _) (by rw [colD_length]; exact Tryz.sizeOf26) (by rw [colD_length, colD_length]; decide) (colD_whole _ _) ?_
 refine kN 1 rfl ?_
 refine kR ?_
 refine kM 3 rfl ?_
 obtain ⟨r66, hr66, h⟩ := bindO h
 refine AOps_callL [] 323 _ _ _ _ _ _ _ _ _ _ rfl rfl rfl rfl rfl rfl rfl Tryz.call24 rfl (nodupB_sound _ rfl) rfl rfl rfl (spec_ColouringOf_ac k r64.1 r64.2.1 r64.2.2 _ hr66) ?_
 rintro _ _ ⟨rfl, rfl⟩
 refine ⟨(fun _ h => nomatch h), (allc (flat_agg (colD_flat _)) (allc (flat_s _) (fun _ h => nomatch h))), AOps_as 323 (v' := .tup [.d (.agg (colD r66.1)), iV r66.2]) (H' := [.vec 0 (intsD r64.2.2), .box (colD r65.1)]) rfl rfl ?_⟩
 refine kM 3 rfl ?_
 refine AOps_alloc 43 _ _ (colD Col.zero) (zero_of Tryz.typeInfo26 rfl) (by rfl) rfl rfl rfl rfl ?_
 refine AOps_store _ _ _ _ _ _ (colD _) _ _ rfl rfl rfl rfl rfl rfl rfl (colD_one _) (by rw [colD_length]; exact Tryz.sizeOf26) (by rw [colD_length, colD_length]; decide) (colD_whole _ _) ?_
 refine kN 1 rfl ?_
 refine kR ?_
 refine kM 1 rfl ?_
 obtain ⟨r67, hr67, h⟩ := bindO h
 refine kC [] 328 (.tup [.d (.agg (colD r67.1)), iV r67.2.1, iV r67.2.2]) [.vec 0 (intsD r64.2.2), .box (colD r65.1), .box (colD r66.1)] rfl Tryz.call25 rfl rfl (spec_DrawColourOf_ac k p0 _ hr67) rfl ?_
 refine kM 4 rfl ?_
 refine AOps_alloc 45 _ _ (colD Col.zero) (zero_of Tryz.typeInfo26 rfl) (by rfl) rfl rfl rfl rfl ?_
 refine AOps_store _ _ _ _ _ _ (colD _) _ _ rfl rfl rfl rfl rfl rfl rfl (colD_one _) (by rw [colD_length]; exact Tryz.sizeOf26) (by rw [colD_length, colD_length]; decide) (colD_whole _ _) ?_
 refine kN 2 rfl ?_
 refine kR ?_
 refine AOps_q 333 _ rfl rfl rfl (QOp_loadN_ptr _ _ _ _ _ _ _ rfl Tryz.isAgg26 Tryz.sizeOf26 rfl rfl (colD_all _) (colD_length _)) ?_
 refine kM 2 rfl ?_
 obtain ⟨r68, hr68, h⟩ := bindO h
 refine kC [] 336 (.tup [iV r68.1, iV r68.2]) [.vec 0 (intsD r64.2.2), .box (colD r65.1), .box (colD r66.1), .box (colD r67.1)] rfl Tryz.call10 rfl rfl (impl_ColourOf_ac k r67.1 r67.2.1 r67.2.2 _ hr68) rfl ?_
 refine kN 5 rfl ?_
 refine kR ?_
 refine AOps_q 340 _ rfl rfl rfl (QOp_loadN_ptr _ _ _ _ _ _ _ rfl Tryz.isAgg26 Tryz.sizeOf26 rfl rfl (colD_all _) (colD_length _)) ?_
 refine kM 2 rfl ?_
 obtain ⟨r69, hr69, h⟩ := bindO h
 refine kC [] 343 (.tup [iV r69.1, iV r69.2]) [.vec 0 (intsD r64.2.2), .box (colD r65.1), .box (colD r66.1), .box (colD r67.1)] rfl Tryz.call26 rfl rfl (spec_ColourOf_ac k r67.1 r67.2.1 r67.2.2 _ hr69) rfl ?_
 refine kN 5 rfl ?_
 refine kR ?_
 refine kM 1 rfl ?_
 obtain ⟨r70, hr70, h⟩ := bindO h
 refine kC [] 348 (.tup [.d (.agg (colD r70.1)), iV r70.2.1, iV r70.2.2]) [.vec 0 (intsD r64.2.2), .box (colD r65.1), .box (colD r66.1), .box (colD r67.1)] rfl Tryz.call27 rfl rfl (spec_DrawNeighboursOf_ac k p0 _ hr70) rfl ?_
 refine kM 4 rfl ?_
 refine AOps_alloc 52 _ _ (colD Col.zero) (zero_of Tryz.typeInfo26 rfl) (by rfl) rfl rfl rfl rfl ?_
 refine AOps_store _ _ _ _ _ _ (colD _) _ _ rfl rfl rfl rfl rfl rfl rfl (colD_one _) (by rw [colD_length]; exact Tryz.sizeOf26) (by rw [colD_length, colD_length]; decide) (colD_whole _ _) ?_
 refine kN 2 rfl ?_
 refine kR ?_
 refine AOps_q 353 _ rfl rfl rfl (QOp_loadN_ptr _ _ _ _ _ _ _ rfl Tryz.isAgg26 Tryz.sizeOf26 rfl rfl (colD_all _) (colD_length _)) ?_
 refine kM 2 rfl ?_
 obtain ⟨r71, hr71, h⟩ := bindO h
 refine kC [] 356 (.tup [.d (.sl none (intsD (r71.1.getD []))), iV r71.2]) [.vec 0 (intsD r64.2.2), .box (colD r65.1), .box (colD r66.1), .box (colD r67.1), .box (colD r70.1)] rfl Tryz.call20 rfl rfl (AC_frz rfl (frz_cons frz_nil) (impl_NeighboursOf_ac k r70.1 r70.2.1 r70.2.2 _ hr71)) rfl ?_
 refine kN 5 rfl ?_
 refine kR ?_
 refine AOps_q 360 _ rfl rfl rfl (QOp_loadN_ptr _ _ _ _ _ _ _ rfl Tryz.isAgg26 Tryz.sizeOf26 rfl rfl (colD_all _) (colD_length _)) ?_
 refine kM 2 rfl ?_
 obtain ⟨r72, hr72, h⟩ := bindO h
 refine kC [] 363 (.tup [.d (.sl none (intsD r72.1)), iV r72.2]) [.vec 0 (intsD r64.2.2), .box (colD r65.1), .box (colD r66.1), .box (colD r67.1), .box (colD r70.1)] rfl Tryz.call28 rfl rfl (spec_NeighboursOf_ac k r70.1 r70.2.1 r70.2.2 _ hr72) rfl ?_
 refine kN 5 rfl ?_
 refine kR ?_
 refine kM 1 rfl ?_
 obtain ⟨r73, hr73, h⟩ := bindO h
 refine kC [] 368 (.tup [.d (.agg (colD r73.1)), iV r73.2]) [.vec 0 (intsD r64.2.2), .box (colD r65.1), .box (colD r66.1), .box (colD r67.1), .box (colD r70.1)] rfl Tryz.call29 rfl rfl (spec_DrawDegreesOf_ac k p0 _ hr73) rfl ?_
 refine kM 3 rfl ?_
 refine AOps_alloc 59 _ _ (colD Col.zero) (zero_of Tryz.typeInfo26 rfl) (by rfl) rfl rfl rfl rfl ?_
 refine AOps_store _ _ _ _ _ _ (colD _) _ _ rfl rfl rfl rfl rfl rfl rfl (colD_one _) (by rw [colD_length]; exact Tryz.sizeOf26) (by rw [colD_length, colD_length]; decide) (colD_whole _ _) ?_
 refine kN 1 rfl ?_
 refine kR ?_
 refine AOps_q 372 _ rfl rfl rfl (QOp_loadN_ptr _ _ _ _ _ _ _ rfl Tryz.isAgg26 Tryz.sizeOf26 rfl rfl (colD_all _) (colD_length _)) ?_
 refine kM 1 rfl ?_
 obtain ⟨r74, hr74, h⟩ := bindO h
 refine kC [] 374 (.tup [.d (.sl none (intsD (r74.1.getD []))), iV r74.2]) [.vec 0 (intsD r64.2.2), .box (colD r65.1), .box (colD r66.1), .box (colD r67.1), .box (colD r70.1), .box (colD r73.1)] rfl Tryz.call11 rfl rfl (AC_frz rfl (frz_cons frz_nil) (impl_DegreesOf_ac k r73.1 r73.2 _ hr74)) rfl ?_
 refine kN 5 rfl ?_
 refine kR ?_
 refine AOps_q 378 _ rfl rfl rfl (QOp_loadN_ptr _ _ _ _ _ _ _ rfl Tryz.isAgg26 Tryz.sizeOf26 rfl rfl (colD_all _) (colD_length _)) ?_
 refine kM 1 rfl ?_
 obtain ⟨r75, hr75, h⟩ := bindO h
 refine kC [] 380 (.tup [.d (.sl none (intsD r75.1)), iV r75.2]) [.vec 0 (intsD r64.2.2), .box (colD r65.1), .box (colD r66.1), .box (colD r67.1), .box (colD r70.1), .box (colD r73.1)] rfl Tryz.call30 rfl rfl (spec_DegreesOf_ac k r73.1 r73.2 _ hr75) rfl ?_
 refine kN 5 rfl ?_
 refine kR ?_
 refine kM 1 rfl ?_
 obtain ⟨r76, hr76, h⟩ := bindO h
 refine kC [] 384 (.d (.s (.string r76))) [.vec 0 (intsD r64.2.2), .box (colD r65.1), .box (colD r66.1), .box (colD r67.1), .box (colD r70.1), .box (colD r73.1)] rfl Tryz.call31 rfl rfl (spec_DrawParseColouring_ac k p0 _ hr76) rfl ?_
 refine kN 1 rfl ?_
 refine kR ?_
 refine kM 1 rfl ?_
 obtain ⟨r77, hr77, h⟩ := bindO h
 refine AOps_callG [] 387 _ _ _ _ _ _ _ _ _ _ rfl rfl rfl rfl rfl rfl rfl Tryz.call14 rfl (nodupB_sound _ rfl) rfl rfl rfl gok hgl (impl_ParseColouring_ac k r76 _ hr77) ?_
 rintro _ _ ⟨rfl, rfl⟩
 refine ⟨(fun _ h => nomatch h), (allc (trivial) (allc (trivial) (fun _ h => nomatch h))), AOps_as 387 (v' := .tup [.d (.agg (colD r77.1)), iV r77.2]) (H' := [.vec 0 (intsD r64.2.2), .box (colD r65.1), .box (colD r66.1), .box (colD r67.1), .box (colD r70.1), .box (colD r73.1)]) rfl rfl ?_⟩
 refine kM 3 rfl ?_
 refine AOps_alloc 66 _ _ (colD Col.zero) (zero_of Tryz.typeInfo26 rfl) (by rfl) rfl rfl rfl rfl ?_
 refine AOps_store _ _ _ _ _ _ (colD _) _ _ rfl rfl rfl rfl rfl rfl rfl (colD_one _) (by rw [colD_length]; exact Tryz.sizeOf26) (by rw [colD_length, colD_length]; decide) (colD_whole _ _) ?_
 refine kN 1 rfl ?_
 refine kR ?_
 refine kM 1 rfl ?_
 obtain ⟨r78, hr78, h⟩ := bindO h
 refine kC [] 392 (.tup [.d (.agg (colD r78.1)), iV r78.2]) [.vec 0 (intsD r64.2.2), .box (colD r65.1), .box (colD r66.1), .box (colD r67.1), .box (colD r70.1), .box (colD r73.1), .box (colD r77.1)] rfl Tryz.call32 rfl rfl (spec_ParseColouring_ac k r76 _ hr78) rfl ?_
 refine kM 3 rfl ?_
 refine AOps_alloc 68 _ _ (colD Col.zero) (zero_of Tryz.typeInfo26 rfl) (by rfl) rfl rfl rfl rfl ?_
 refine AOps_store _ _ _ _ _ _ (colD _) _ _ rfl rfl rfl rfl rfl rfl rfl (colD_one _) (by rw [colD_length]; exact Tryz.sizeOf26) (by rw [colD_length, colD_length]; decide) (colD_whole _ _) ?_
 refine kN 1 rfl ?_
 refine kR ?_
 refine kM 1 rfl ?_
 obtain ⟨r79, hr79, h⟩ := bindO h
 refine kC [] 396 (.d (.agg (colD r79))) [.vec 0 (intsD r64.2.2), .box (colD r65.1), .box (colD r66.1), .box (colD r67.1), .box (colD r70.1), .box (colD r73.1), .box (colD r77.1), .box (colD r78.1)] rfl Tryz.call33 rfl rfl (spec_DrawCountEdges_ac k p0 _ hr79) rfl ?_
 refine AOps_alloc 70 _ _ (colD Col.zero) (zero_of Tryz.typeInfo26 rfl) (by rfl) rfl rfl rfl rfl ?_
 refine AOps_store _ _ _ _ _ _ (colD _) _ _ rfl rfl rfl rfl rfl rfl rfl (colD_one _) (by rw [colD_length]; exact Tryz.sizeOf26) (by rw [colD_length, colD_length]; decide) (colD_whole _ _) ?_
 refine AOps_nil ?_
 refine kR ?_
 refine AOps_q 398 _ rfl rfl rfl (QOp_loadN_ptr _ _ _ _ _ _ _ rfl Tryz.isAgg26 Tryz.sizeOf26 rfl rfl (colD_all _) (colD_length _)) ?_
 obtain ⟨r80, hr80, h⟩ := bindO h
 refine kC [] 399 (.tup [.d (.sl none (intsD (r80.1.getD []))), iV r80.2]) [.vec 0 (intsD r64.2.2), .box (colD r65.1), .box (colD r66.1), .box (colD r67.1), .box (colD r70.1), .box (colD r73.1), .box (colD r77.1), .box (colD r78.1), .box (colD r79)] rfl Tryz.call12 rfl rfl (AC_frz rfl (frz_cons frz_nil) (impl_CountEdges_ac k r79 _ hr80)) rfl ?_
 refine kN 5 rfl ?_
 refine kR ?_
 refine AOps_q 403 _ rfl rfl rfl (QOp_loadN_ptr _ _ _ _ _ _ _ rfl Tryz.isAgg26 Tryz.sizeOf26 rfl rfl (colD_all _) (colD_length _)) ?_
 obtain ⟨r81, hr81, h⟩ := bindO h
 refine kC [] 404 (.tup [.d (.sl none (intsD r81.1)), iV r81.2]) [.vec 0 (intsD r64.2.2), .box (colD r65.1), .box (colD r66.1), .box (colD r67.1), .box (colD r70.1), .box (colD r73.1), .box (colD r77.1), .box (colD r78.1), .box (colD r79)] rfl Tryz.call34 rfl rfl (spec_CountEdges_ac k r79 _ hr81) rfl ?_
 refine kN 5 rfl ?_
 refine kR ?_
 refine AOps_q 408 _ rfl rfl rfl (QOp_loadN_ptr _ _ _ _ _ _ _ rfl Tryz.isAgg26 Tryz.sizeOf26 rfl rfl (colD_all _) (colD_length _)) ?_
 obtain ⟨r82, hr82, h⟩ := bindO h
 refine kC [] 409 (.tup [.d (.s (.string r82.1)), iV r82.2]) [.vec 0 (intsD r64.2.2), .box (colD r65.1), .box (colD r66.1), .box (colD r67.1), .box (colD r70.1), .box (colD r73.1), .box (colD r77.1), .box (colD r78.1), .box (colD r79)] rfl Tryz.call13 rfl rfl (impl_ColouringText_ac k r79 _ hr82) rfl ?_
 refine kN 5 rfl ?_
 refine kR ?_
 refine AOps_q 413 _ rfl rfl rfl (QOp_loadN_ptr _ _ _ _ _ _ _ rfl Tryz.isAgg26 Tryz.sizeOf26 rfl rfl (colD_all _) (colD_length _)) ?_
 obtain ⟨r83, hr83, h⟩ := bindO h
 refine kC [] 414 (.tup [.d (.s (.string r83.1)), iV r83.2]) [.vec 0 (intsD r64.2.2), .box (colD r65.1), .box (colD r66.1), .box (colD r67.1), .box (colD r70.1), .box (colD r73.1), .box (colD r77.1), .box (colD r78.1), .box (colD r79)] rfl Tryz.call35 rfl rfl (spec_ColouringText_ac k r79 _ hr83) rfl ?_
 refine kN 5 rfl ?_
 refine kB (fun s100 => [(2, bV s100)]) (fun s100 => []) h (fun s100 h => ?_) (fun s100 h => ?_)
 ·refine (ACode_region ?_)
  refine kM 2 rfl ?_
  refine AOps_q 419 _ rfl rfl rfl (QOp_eql _ _ _ _ _ _ _ rfl rfl rfl) ?_
  refine kM 1 rfl ?_
  refine AOps_case 420 _ rfl (fun hb84 => ?_) (fun hb84 => ?_)
  ·have h := iteT hb84 h
   refine AOps_q 421 _ rfl rfl rfl (QOp_loadN_ptr _ _ _ _ _ _ _ rfl Tryz.isAgg26 Tryz.sizeOf26 rfl rfl (colD_all _) (colD_length _)) ?_
   refine AOps_q 422 _ rfl rfl rfl (QOp_loadN_ptr _ _ _ _ _ _ _ rfl Tryz.isAgg26 Tryz.sizeOf26 rfl rfl (colD_all _) (colD_length _)) ?_
   refine AOps_q 423 _ rfl rfl rfl (QOp_eqCol _ _ _ _ _ _ _ _ _ _ _ _ rfl rfl rfl Tryz.underlying26 (by kernel_rfl) (by kernel_rfl) (by decide) (by decide) (by decide) rfl rfl rfl rfl rfl rfl Tryz.underlying2 Tryz.underlying24 Tryz.underlying5 Tryz.sizeOf5 Tryz.sizeOf24) ?_
   refine kM 2 rfl ?_
   refine AOps_case 425 _ rfl (fun hb85 => ?_) (fun hb85 => ?_)
   ·have h := iteT hb85 h
    refine kM 2 rfl ?_
    refine AOps_q 428 _ rfl rfl rfl (QOp_eql _ _ _ _ _ _ _ rfl rfl rfl) ?_
    refine kM 2 rfl ?_
    refine AOps_case 430 _ rfl (fun hb86 => ?_) (fun hb86 => ?_)
    ·have h := iteT hb86 h
     refine kM 2 rfl ?_
     refine AOps_q 433 _ rfl rfl rfl (QOp_eql _ _ _ _ _ _ _ rfl rfl rfl) ?_
     refine kM 2 rfl ?_
     refine AOps_case 435 _ rfl (fun hb87 => ?_) (fun hb87 => ?_)
     ·have h := iteT hb87 h
      refine kM 2 rfl ?_
      refine AOps_q 438 _ rfl rfl rfl (QOp_eql _ _ _ _ _ _ _ rfl rfl rfl) ?_
      refine kM 2 rfl ?_
      refine AOps_case 440 _ rfl (fun hb88 => ?_) (fun hb88 => ?_)
      ·have h := iteT hb88 h
       refine kM 2 rfl ?_
       obtain ⟨r89, hr89, h⟩ := bindO h
       refine kC [] 443 (bV r89) [.vec 0 (intsD r64.2.2), .box (colD r65.1), .box (colD r66.1), .box (colD r67.1), .box (colD r70.1), .box (colD r73.1), .box (colD r77.1), .box (colD r78.1), .box (colD r79)] rfl Tryz.call19 rfl rfl (laws_likeInts_ac k (r71.1.getD []) r72.1 _ hr89) rfl ?_
       refine kM 2 rfl ?_
       refine AOps_case 445 _ rfl (fun hb90 => ?_) (fun hb90 => ?_)
       ·have h := iteT hb90 h
        refine kM 2 rfl ?_
        refine AOps_q 448 _ rfl rfl rfl (QOp_eql _ _ _ _ _ _ _ rfl rfl rfl) ?_
        refine kM 2 rfl ?_
        refine AOps_case 450 _ rfl (fun hb91 => ?_) (fun hb91 => ?_)
        ·have h := iteT hb91 h
         refine kM 2 rfl ?_
         obtain ⟨r92, hr92, h⟩ := bindO h
         refine kC [] 453 (bV r92) [.vec 0 (intsD r64.2.2), .box (colD r65.1), .box (colD r66.1), .box (colD r67.1), .box (colD r70.1), .box (colD r73.1), .box (colD r77.1), .box (colD r78.1), .box (colD r79)] rfl Tryz.call19 rfl rfl (laws_likeInts_ac k (r74.1.getD []) r75.1 _ hr92) rfl ?_
         refine kM 2 rfl ?_
         refine AOps_case 455 _ rfl (fun hb93 => ?_) (fun hb93 => ?_)
         ·have h := iteT hb93 h
          refine kM 2 rfl ?_
          refine AOps_q 458 _ rfl rfl rfl (QOp_eql _ _ _ _ _ _ _ rfl rfl rfl) ?_
          refine kM 2 rfl ?_
          refine AOps_case 460 _ rfl (fun hb94 => ?_) (fun hb94 => ?_)
          ·have h := iteT hb94 h
           refine AOps_q 461 _ rfl rfl rfl (QOp_loadN_ptr _ _ _ _ _ _ _ rfl Tryz.isAgg26 Tryz.sizeOf26 rfl rfl (colD_all _) (colD_length _)) ?_
           refine AOps_q 462 _ rfl rfl rfl (QOp_loadN_ptr _ _ _ _ _ _ _ rfl Tryz.isAgg26 Tryz.sizeOf26 rfl rfl (colD_all _) (colD_length _)) ?_
           refine AOps_q 463 _ rfl rfl rfl (QOp_eqCol _ _ _ _ _ _ _ _ _ _ _ _ rfl rfl rfl Tryz.underlying26 (by kernel_rfl) (by kernel_rfl) (by decide) (by decide) (by decide) rfl rfl rfl rfl rfl rfl Tryz.underlying2 Tryz.underlying24 Tryz.underlying5 Tryz.sizeOf5 Tryz.sizeOf24) ?_
           refine kM 2 rfl ?_
           refine AOps_case 465 _ rfl (fun hb95 => ?_) (fun hb95 => ?_)
           ·have h := iteT hb95 h
            refine kM 2 rfl ?_
            refine AOps_q 468 _ rfl rfl rfl (QOp_eql _ _ _ _ _ _ _ rfl rfl rfl) ?_
            refine kM 2 rfl ?_
            refine AOps_case 470 _ rfl (fun hb96 => ?_) (fun hb96 => ?_)
            ·have h := iteT hb96 h
             refine kM 2 rfl ?_
             obtain ⟨r97, hr97, h⟩ := bindO h
             refine kC [] 473 (bV r97) [.vec 0 (intsD r64.2.2), .box (colD r65.1), .box (colD r66.1), .box (colD r67.1), .box (colD r70.1), .box (colD r73.1), .box (colD r77.1), .box (colD r78.1), .box (colD r79)] rfl Tryz.call19 rfl rfl (laws_likeInts_ac k (r80.1.getD []) r81.1 _ hr97) rfl ?_
             refine kM 2 rfl ?_
             refine AOps_case 475 _ rfl (fun hb98 => ?_) (fun hb98 => ?_)
             ·have h := iteT hb98 h
              refine kM 2 rfl ?_
              refine AOps_q 478 _ rfl rfl rfl (QOp_eql _ _ _ _ _ _ _ rfl rfl rfl) ?_
              refine kM 2 rfl ?_
              refine AOps_case 480 _ rfl (fun hb99 => ?_) (fun hb99 => ?_)
              ·have h := iteT hb99 h
               refine kM 2 rfl ?_
               refine AOps_q 483 _ rfl rfl rfl (QOp_seq _ _ _ _ _ _ rfl rfl rfl Tryz.underlying9) ?_
               refine kN 2 rfl ?_
               cases h
               exact Weak_keep 0 hm [2] [] _ _ rfl rfl rfl
              have h := iteF hb99 h
              refine AOps_skip 481 rfl rfl rfl ?_
              refine AOps_skip 482 rfl rfl rfl ?_
              refine AOps_skip 483 rfl rfl rfl ?_
              refine kN 2 rfl ?_
              cases h
              exact Weak_keep 0 hm [2] [] _ _ rfl rfl rfl
             have h := iteF hb98 h
             refine AOps_skip 476 rfl rfl rfl ?_
             refine AOps_skip 477 rfl rfl rfl ?_
             refine AOps_skip 478 rfl rfl rfl ?_
             refine kM 2 rfl ?_
             refine AOps_skip 481 rfl rfl rfl ?_
             refine AOps_skip 482 rfl rfl rfl ?_
             refine AOps_skip 483 rfl rfl rfl ?_
             refine kN 2 rfl ?_
             cases h
             exact Weak_keep 0 hm [2] [] _ _ rfl rfl rfl
            have h := iteF hb96 h
            refine AOps_skip 471 rfl rfl rfl ?_
            refine AOps_skip 472 rfl rfl rfl ?_
            refine AOps_skip 473 rfl rfl rfl ?_
            refine kM 2 rfl ?_
            refine AOps_skip 476 rfl rfl rfl ?_
            refine AOps_skip 477 rfl rfl rfl ?_
            refine AOps_skip 478 rfl rfl rfl ?_
            refine kM 2 rfl ?_
            refine AOps_skip 481 rfl rfl rfl ?_
            refine AOps_skip 482 rfl rfl rfl ?_
            refine AOps_skip 483 rfl rfl rfl ?_
            refine kN 2 rfl ?_
            cases h
            exact Weak_keep 0 hm [2] [] _ _ rfl rfl rfl
           have h := iteF hb95 h
           refine AOps_skip 466 rfl rfl rfl ?_
           refine AOps_skip 467 rfl rfl rfl ?_
           refine AOps_skip 468 rfl rfl rfl ?_
           refine kM 2 rfl ?_
           refine AOps_skip 471 rfl rfl rfl ?_
           refine AOps_skip 472 rfl rfl rfl ?_
           refine AOps_skip 473 rfl rfl rfl ?_
           refine kM 2 rfl ?_
           refine AOps_skip 476 rfl rfl rfl ?_
           refine AOps_skip 477 rfl rfl rfl ?_
           refine AOps_skip 478 rfl rfl rfl ?_
           refine kM 2 rfl ?_
           refine AOps_skip 481 rfl rfl rfl ?_
           refine AOps_skip 482 rfl rfl rfl ?_
           refine AOps_skip 483 rfl rfl rfl ?_
           refine kN 2 rfl ?_
           cases h
           exact Weak_keep 0 hm [2] [] _ _ rfl rfl rfl
          have h := iteF hb94 h
          refine AOps_skip 461 rfl rfl rfl ?_
          refine AOps_skip 462 rfl rfl rfl ?_
          refine AOps_skip 463 rfl rfl rfl ?_
          refine kM 2 rfl ?_
          refine AOps_skip 466 rfl rfl rfl ?_
          refine AOps_skip 467 rfl rfl rfl ?_
          refine AOps_skip 468 rfl rfl rfl ?_
          refine kM 2 rfl ?_
          refine AOps_skip 471 rfl rfl rfl ?_
          refine AOps_skip 472 rfl rfl rfl ?_
          refine AOps_skip 473 rfl rfl rfl ?_
          refine kM 2 rfl ?_
          refine AOps_skip 476 rfl rfl rfl ?_
          refine AOps_skip 477 rfl rfl rfl ?_
          refine AOps_skip 478 rfl rfl rfl ?_
          refine kM 2 rfl ?_
          refine AOps_skip 481 rfl rfl rfl ?_
          refine AOps_skip 482 rfl rfl rfl ?_
          refine AOps_skip 483 rfl rfl rfl ?_
          refine kN 2 rfl ?_
          cases h
          exact Weak_keep 0 hm [2] [] _ _ rfl rfl rfl
         have h := iteF hb93 h
         refine AOps_skip 456 rfl rfl rfl ?_
         refine AOps_skip 457 rfl rfl rfl ?_
         refine AOps_skip 458 rfl rfl rfl ?_
         refine kM 2 rfl ?_
         refine AOps_skip 461 rfl rfl rfl ?_
         refine AOps_skip 462 rfl rfl rfl ?_
         refine AOps_skip 463 rfl rfl rfl ?_
         refine kM 2 rfl ?_
         refine AOps_skip 466 rfl rfl rfl ?_
         refine AOps_skip 467 rfl rfl rfl ?_
         refine AOps_skip 468 rfl rfl rfl ?_
         refine kM 2 rfl ?_
         refine AOps_skip 471 rfl rfl rfl ?_
         refine AOps_skip 472 rfl rfl rfl ?_
         refine AOps_skip 473 rfl rfl rfl ?_
         refine kM 2 rfl ?_
         refine AOps_skip 476 rfl rfl rfl ?_
         refine AOps_skip 477 rfl rfl rfl ?_
         refine AOps_skip 478 rfl rfl rfl ?_
         refine kM 2 rfl ?_
         refine AOps_skip 481 rfl rfl rfl ?_
         refine AOps_skip 482 rfl rfl rfl ?_
         refine AOps_skip 483 rfl rfl rfl ?_
         refine kN 2 rfl ?_
         cases h
         exact Weak_keep 0 hm [2] [] _ _ rfl rfl rfl
        have h := iteF hb91 h
        refine AOps_skip 451 rfl rfl rfl ?_
        refine AOps_skip 452 rfl rfl rfl ?_
        refine AOps_skip 453 rfl rfl rfl ?_
        refine kM 2 rfl ?_
        refine AOps_skip 456 rfl rfl rfl ?_
        refine AOps_skip 457 rfl rfl rfl ?_
        refine AOps_skip 458 rfl rfl rfl ?_
        refine kM 2 rfl ?_
        refine AOps_skip 461 rfl rfl rfl ?_
        refine AOps_skip 462 rfl rfl rfl ?_
        refine AOps_skip 463 rfl rfl rfl ?_
        refine kM 2 rfl ?_
        refine AOps_skip 466 rfl rfl rfl ?_
        refine AOps_skip 467 rfl rfl rfl ?_
        refine AOps_skip 468 rfl rfl rfl ?_
        refine kM 2 rfl ?_
        refine AOps_skip 471 rfl rfl rfl ?_
        refine AOps_skip 472 rfl rfl rfl ?_
        refine AOps_skip 473 rfl rfl rfl ?_
        refine kM 2 rfl ?_
        refine AOps_skip 476 rfl rfl rfl ?_
        refine AOps_skip 477 rfl rfl rfl ?_
        refine AOps_skip 478 rfl rfl rfl ?_
        refine kM 2 rfl ?_
        refine AOps_skip 481 rfl rfl rfl ?_
        refine AOps_skip 482 rfl rfl rfl ?_
        refine AOps_skip 483 rfl rfl rfl ?_
        refine kN 2 rfl ?_
        cases h
        exact Weak_keep 0 hm [2] [] _ _ rfl rfl rfl
       have h := iteF hb90 h
       refine AOps_skip 446 rfl rfl rfl ?_
       refine AOps_skip 447 rfl rfl rfl ?_
       refine AOps_skip 448 rfl rfl rfl ?_
       refine kM 2 rfl ?_
       refine AOps_skip 451 rfl rfl rfl ?_
       refine AOps_skip 452 rfl rfl rfl ?_
       refine AOps_skip 453 rfl rfl rfl ?_
       refine kM 2 rfl ?_
       refine AOps_skip 456 rfl rfl rfl ?_
       refine AOps_skip 457 rfl rfl rfl ?_
       refine AOps_skip 458 rfl rfl rfl ?_
       refine kM 2 rfl ?_
       refine AOps_skip 461 rfl rfl rfl ?_
       refine AOps_skip 462 rfl rfl rfl ?_
       refine AOps_skip 463 rfl rfl rfl ?_
       refine kM 2 rfl ?_
       refine AOps_skip 466 rfl rfl rfl ?_
       refine AOps_skip 467 rfl rfl rfl ?_
       refine AOps_skip 468 rfl rfl rfl ?_
       refine kM 2 rfl ?_
       refine AOps_skip 471 rfl rfl rfl ?_
       refine AOps_skip 472 rfl rfl rfl ?_
       refine AOps_skip 473 rfl rfl rfl ?_
       refine kM 2 rfl ?_
       refine AOps_skip 476 rfl rfl rfl ?_
       refine AOps_skip 477 rfl rfl rfl ?_
       refine AOps_skip 478 rfl rfl rfl ?_
       refine kM 2 rfl ?_
       refine AOps_skip 481 rfl rfl rfl ?_
       refine AOps_skip 482 rfl rfl rfl ?_
       refine AOps_skip 483 rfl rfl rfl ?_
       refine kN 2 rfl ?_
       cases h
       exact Weak_keep 0 hm [2] [] _ _ rfl rfl rfl
      have h := iteF hb88 h
      refine AOps_skip 441 rfl rfl rfl ?_
      refine AOps_skip 442 rfl rfl rfl ?_
      refine AOps_skip 443 rfl rfl rfl ?_
      refine kM 2 rfl ?_
      refine AOps_skip 446 rfl rfl rfl ?_
      refine AOps_skip 447 rfl rfl rfl ?_
      refine AOps_skip 448 rfl rfl rfl ?_
      refine kM 2 rfl ?_
      refine AOps_skip 451 rfl rfl rfl ?_
      refine AOps_skip 452 rfl rfl rfl ?_
      refine AOps_skip 453 rfl rfl rfl ?_
      refine kM 2 rfl ?_
      refine AOps_skip 456 rfl rfl rfl ?_
      refine AOps_skip 457 rfl rfl rfl ?_
      refine AOps_skip 458 rfl rfl rfl ?_
      refine kM 2 rfl ?_
      refine AOps_skip 461 rfl rfl rfl ?_
      refine AOps_skip 462 rfl rfl rfl ?_
      refine AOps_skip 463 rfl rfl rfl ?_
      refine kM 2 rfl ?_
      refine AOps_skip 466 rfl rfl rfl ?_
      refine AOps_skip 467 rfl rfl rfl ?_
      refine AOps_skip 468 rfl rfl rfl ?_
      refine kM 2 rfl ?_
      refine AOps_skip 471 rfl rfl rfl ?_
      refine AOps_skip 472 rfl rfl rfl ?_
      refine AOps_skip 473 rfl rfl rfl ?_
      refine kM 2 rfl ?_
      refine AOps_skip 476 rfl rfl rfl ?_
      refine AOps_skip 477 rfl rfl rfl ?_
      refine AOps_skip 478 rfl rfl rfl ?_
      refine kM 2 rfl ?_
      refine AOps_skip 481 rfl rfl rfl ?_
      refine AOps_skip 482 rfl rfl rfl ?_
      refine AOps_skip 483 rfl rfl rfl ?_
      refine kN 2 rfl ?_
      cases h
      exact Weak_keep 0 hm [2] [] _ _ rfl rfl rfl
     have h := iteF hb87 h
     refine AOps_skip 436 rfl rfl rfl ?_
     refine AOps_skip 437 rfl rfl rfl ?_
     refine AOps_skip 438 rfl rfl rfl ?_
     refine kM 2 rfl ?_
     refine AOps_skip 441 rfl rfl rfl ?_
     refine AOps_skip 442 rfl rfl rfl ?_
     refine AOps_skip 443 rfl rfl rfl ?_
     refine kM 2 rfl ?_
     refine AOps_skip 446 rfl rfl rfl ?_
     refine AOps_skip 447 rfl rfl rfl ?_
     refine AOps_skip 448 rfl rfl rfl ?_
     refine kM 2 rfl ?_
     refine AOps_skip 451 rfl rfl rfl ?_
     refine AOps_skip 452 rfl rfl rfl ?_
     refine AOps_skip 453 rfl rfl rfl ?_
     refine kM 2 rfl ?_
     refine AOps_skip 456 rfl rfl rfl ?_
     refine AOps_skip 457 rfl rfl rfl ?_
     refine AOps_skip 458 rfl rfl rfl ?_
     refine kM 2 rfl ?_
     refine AOps_skip 461 rfl rfl rfl ?_
     refine AOps_skip 462 rfl rfl rfl ?_
     refine AOps_skip 463 rfl rfl rfl ?_
     refine kM 2 rfl ?_
     refine AOps_skip 466 rfl rfl rfl ?_
     refine AOps_skip 467 rfl rfl rfl ?_
     refine AOps_skip 468 rfl rfl rfl ?_
     refine kM 2 rfl ?_
     refine AOps_skip 471 rfl rfl rfl ?_
     refine AOps_skip 472 rfl rfl rfl ?_
     refine AOps_skip 473 rfl rfl rfl ?_
     refine kM 2 rfl ?_
     refine AOps_skip 476 rfl rfl rfl ?_
     refine AOps_skip 477 rfl rfl rfl ?_
     refine AOps_skip 478 rfl rfl rfl ?_
     refine kM 2 rfl ?_
     refine AOps_skip 481 rfl rfl rfl ?_
     refine AOps_skip 482 rfl rfl rfl ?_
     refine AOps_skip 483 rfl rfl rfl ?_
     refine kN 2 rfl ?_
     cases h
     exact Weak_keep 0 hm [2] [] _ _ rfl rfl rfl
    have h := iteF hb86 h
    refine AOps_skip 431 rfl rfl rfl ?_
    refine AOps_skip 432 rfl rfl rfl ?_
    refine AOps_skip 433 rfl rfl rfl ?_
    refine kM 2 rfl ?_
    refine AOps_skip 436 rfl rfl rfl ?_
    refine AOps_skip 437 rfl rfl rfl ?_
    refine AOps_skip 438 rfl rfl rfl ?_
    refine kM 2 rfl ?_
    refine AOps_skip 441 rfl rfl rfl ?_
    refine AOps_skip 442 rfl rfl rfl ?_
    refine AOps_skip 443 rfl rfl rfl ?_
    refine kM 2 rfl ?_
    refine AOps_skip 446 rfl rfl rfl ?_
    refine AOps_skip 447 rfl rfl rfl ?_
    refine AOps_skip 448 rfl rfl rfl ?_
    refine kM 2 rfl ?_
    refine AOps_skip 451 rfl rfl rfl ?_
    refine AOps_skip 452 rfl rfl rfl ?_
    refine AOps_skip 453 rfl rfl rfl ?_
    refine kM 2 rfl ?_
    refine AOps_skip 456 rfl rfl rfl ?_
    refine AOps_skip 457 rfl rfl rfl ?_
    refine AOps_skip 458 rfl rfl rfl ?_
    refine kM 2 rfl ?_
    refine AOps_skip 461 rfl rfl rfl ?_
    refine AOps_skip 462 rfl rfl rfl ?_
    refine AOps_skip 463 rfl rfl rfl ?_
    refine kM 2 rfl ?_
    refine AOps_skip 466 rfl rfl rfl ?_
    refine AOps_skip 467 rfl rfl rfl ?_
    refine AOps_skip 468 rfl rfl rfl ?_
    refine kM 2 rfl ?_
    refine AOps_skip 471 rfl rfl rfl ?_
    refine AOps_skip 472 rfl rfl rfl ?_
    refine AOps_skip 473 rfl rfl rfl ?_
    refine kM 2 rfl ?_
    refine AOps_skip 476 rfl rfl rfl ?_
    refine AOps_skip 477 rfl rfl rfl ?_
    refine AOps_skip 478 rfl rfl rfl ?_
    refine kM 2 rfl ?_
    refine AOps_skip 481 rfl rfl rfl ?_
    refine AOps_skip 482 rfl rfl rfl ?_
    refine AOps_skip 483 rfl rfl rfl ?_
    refine kN 2 rfl ?_
    cases h
    exact Weak_keep 0 hm [2] [] _ _ rfl rfl rfl
   have h := iteF hb85 h
   refine AOps_skip 426 rfl rfl rfl ?_
   refine AOps_skip 427 rfl rfl rfl ?_
   refine AOps_skip 428 rfl rfl rfl ?_
   refine kM 2 rfl ?_
   refine AOps_skip 431 rfl rfl rfl ?_
   refine AOps_skip 432 rfl rfl rfl ?_
   refine AOps_skip 433 rfl rfl rfl ?_
   refine kM 2 rfl ?_
   refine AOps_skip 436 rfl rfl rfl ?_
   refine AOps_skip 437 rfl rfl rfl ?_
   refine AOps_skip 438 rfl rfl rfl ?_
   refine kM 2 rfl ?_
   refine AOps_skip 441 rfl rfl rfl ?_
   refine AOps_skip 442 rfl rfl rfl ?_
   refine AOps_skip 443 rfl rfl rfl ?_
   refine kM 2 rfl ?_
   refine AOps_skip 446 rfl rfl rfl ?_
   refine AOps_skip 447 rfl rfl rfl ?_
   refine AOps_skip 448 rfl rfl rfl ?_
   refine kM 2 rfl ?_
   refine AOps_skip 451 rfl rfl rfl ?_
   refine AOps_skip 452 rfl rfl rfl ?_
   refine AOps_skip 453 rfl rfl rfl ?_
   refine kM 2 rfl ?_
   refine AOps_skip 456 rfl rfl rfl ?_
   refine AOps_skip 457 rfl rfl rfl ?_
   refine AOps_skip 458 rfl rfl rfl ?_
   refine kM 2 rfl ?_
   refine AOps_skip 461 rfl rfl rfl ?_
   refine AOps_skip 462 rfl rfl rfl ?_
   refine AOps_skip 463 rfl rfl rfl ?_
   refine kM 2 rfl ?_
   refine AOps_skip 466 rfl rfl rfl ?_
   refine AOps_skip 467 rfl rfl rfl ?_
   refine AOps_skip 468 rfl rfl rfl ?_
   refine kM 2 rfl ?_
   refine AOps_skip 471 rfl rfl rfl ?_
   refine AOps_skip 472 rfl rfl rfl ?_
   refine AOps_skip 473 rfl rfl rfl ?_
   refine kM 2 rfl ?_
   refine AOps_skip 476 rfl rfl rfl ?_
   refine AOps_skip 477 rfl rfl rfl ?_
   refine AOps_skip 478 rfl rfl rfl ?_
   refine kM 2 rfl ?_
   refine AOps_skip 481 rfl rfl rfl ?_
   refine AOps_skip 482 rfl rfl rfl ?_
   refine AOps_skip 483 rfl rfl rfl ?_
   refine kN 2 rfl ?_
   cases h
   exact Weak_keep 0 hm [2] [] _ _ rfl rfl rfl
  have h := iteF hb84 h
  refine AOps_skip 421 rfl rfl rfl ?_
  refine AOps_skip 422 rfl rfl rfl ?_
  refine AOps_skip 423 rfl rfl rfl ?_
  refine kM 2 rfl ?_
  refine AOps_skip 426 rfl rfl rfl ?_
  refine AOps_skip 427 rfl rfl rfl ?_
  refine AOps_skip 428 rfl rfl rfl ?_
  refine kM 2 rfl ?_
  refine AOps_skip 431 rfl rfl rfl ?_
  refine AOps_skip 432 rfl rfl rfl ?_
  refine AOps_skip 433 rfl rfl rfl ?_
  refine kM 2 rfl ?_
  refine AOps_skip 436 rfl rfl rfl ?_
  refine AOps_skip 437 rfl rfl rfl ?_
  refine AOps_skip 438 rfl rfl rfl ?_
  refine kM 2 rfl ?_
  refine AOps_skip 441 rfl rfl rfl ?_
  refine AOps_skip 442 rfl rfl rfl ?_
  refine AOps_skip 443 rfl rfl rfl ?_
  refine kM 2 rfl ?_
  refine AOps_skip 446 rfl rfl rfl ?_
  refine AOps_skip 447 rfl rfl rfl ?_
  refine AOps_skip 448 rfl rfl rfl ?_
  refine kM 2 rfl ?_
  refine AOps_skip 451 rfl rfl rfl ?_
  refine AOps_skip 452 rfl rfl rfl ?_
  refine AOps_skip 453 rfl rfl rfl ?_
  refine kM 2 rfl ?_
  refine AOps_skip 456 rfl rfl rfl ?_
  refine AOps_skip 457 rfl rfl rfl ?_
  refine AOps_skip 458 rfl rfl rfl ?_
  refine kM 2 rfl ?_
  refine AOps_skip 461 rfl rfl rfl ?_
  refine AOps_skip 462 rfl rfl rfl ?_
  refine AOps_skip 463 rfl rfl rfl ?_
  refine kM 2 rfl ?_
  refine AOps_skip 466 rfl rfl rfl ?_
  refine AOps_skip 467 rfl rfl rfl ?_
  refine AOps_skip 468 rfl rfl rfl ?_
  refine kM 2 rfl ?_
  refine AOps_skip 471 rfl rfl rfl ?_
  refine AOps_skip 472 rfl rfl rfl ?_
  refine AOps_skip 473 rfl rfl rfl ?_
  refine kM 2 rfl ?_
  refine AOps_skip 476 rfl rfl rfl ?_
  refine AOps_skip 477 rfl rfl rfl ?_
  refine AOps_skip 478 rfl rfl rfl ?_
  refine kM 2 rfl ?_
  refine AOps_skip 481 rfl rfl rfl ?_
  refine AOps_skip 482 rfl rfl rfl ?_
  refine AOps_skip 483 rfl rfl rfl ?_
  refine kN 2 rfl ?_
  cases h
  exact Weak_keep 0 hm [2] [] _ _ rfl rfl rfl
 refine ACode_ret ?_
 cases h
 exact ⟨_, _, fun r a w h => ⟨r, h⟩, _, _, [], _, (.cons (ResV_tmp _ _ rfl) .nil), rfl, rfl, rfl, rfl, rfl⟩

end Go.Proofs.YtfhdihekehlkiaaGreatDoor
