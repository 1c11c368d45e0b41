/- Plain functions of the program and that the program computes them: printed by the own tool gen.py. No conditions. -/
import Derived.Test.YtghhnpdhehjlaaaGreatGen40b
set_option linter.unusedVariables false
set_option linter.unusedSimpArgs false
namespace Go.Proofs.YtghhnpdhehjlaaaGreat
open Go Go.RowKit Ab

-- loop.example/g01362/laws.FnGameOutcomes
def laws_FnGameOutcomes_l0 (k : Nat) (r3 : Int × List Int) (r6 : Option (List Int) × Int) : Nat → (List Int) → Int → Option (Sum (List Int) (Sum (Unit) (Bool)))
 | 0, _, _ => none
 | k0 + 1, x22, x23 => (if decide (x23 < ((r6.1.getD []).length : Int)) then (if 0 ≤ x23 ∧ x23 < ((r6.1.getD []).length : Int) then (impl_MakeMove k r3.1 x22 ((r6.1.getD []).getD x23.toNat 0)).bind fun r26 => (if !decide (r26.2 = 0) then (some (.inr false)).bind fun rr => some (.inr rr) else laws_FnGameOutcomes_l0 k r3 r6 k0 r26.1 (w64 (x23 + 1))) else none) else some (.inl x22))
def laws_FnGameOutcomes_l1 (k : Nat) (r3 : Int × List Int) (r4 : Int × Int) (r8 : Option (List Int) × Int) : Nat → Int → Option (Sum (Unit) (Sum (Unit) (Bool)))
 | 0, _ => none
 | k1 + 1, x39 => (letO (if decide (x39 < ((r8.1.getD []).length : Int)) then decide (x39 < 3) else false) fun (s41 : Bool) => (if s41 then some (.inl ()) else (some (.inl ())).bind fun rr => some (.inr rr)) : Option (Sum (Unit) (Sum (Unit) (Sum (Unit) (Bool))))).bind fun os43 => (match os43 with | .inl s43 => ((if 0 ≤ x39 ∧ x39 < ((r8.1.getD []).length : Int) then (impl_MakeMove k r3.1 r3.2 ((r8.1.getD []).getD x39.toNat 0)).bind fun r45 => (impl_OutcomeOf k r3.1 r45.1).bind fun r46 => letO (if !decide (r45.2 = 0) then true else (if !decide (r46.2 = 0) then true else !decide (r46.1 = r4.1))) fun (s49 : Bool) => (if s49 then ((some (.inr false)).bind fun rr => some (.inr rr)).bind fun rr => some (.inr rr) else some (.inl ())) else none) : Option (Sum (Unit) (Sum (Unit) (Sum (Unit) (Bool))))).bind fun os51 => (match os51 with | .inl s51 => laws_FnGameOutcomes_l1 k r3 r4 r8 k1 (w64 (x39 + 1)) | .inr rr => some rr) | .inr rr => some rr)
def laws_FnGameOutcomes (k : Nat) (p0 : List UInt8) : Option (Bool) :=
 (if (laws_big p0) then some true else (spec_DrawOutcomeOf k p0).bind fun r3 => (impl_OutcomeOf k r3.1 r3.2).bind fun r4 => (spec_OutcomeOf k r3.1 r3.2).bind fun r5 => (impl_PlayOut k r3.1 r3.2).bind fun r6 => (spec_PlayOut k r3.1 r3.2).bind fun r7 => (impl_BestMoves k r3.1 r3.2).bind fun r8 => (spec_BestMoves k r3.1 r3.2).bind fun r9 => (((if !decide (r4.2 = r5.2) then some true else (if !decide (r4.1 = r5.1) then some true else (if !decide (r6.2 = r7.2) then some true else (laws_likeInts k (r6.1.getD []) r7.1).bind fun r13 => (if !r13 then some true else (if !decide (r8.2 = r9.2) then some true else (laws_likeInts k (r8.1.getD []) r9.1).bind fun r16 => some (!r16)))))) : Option (Bool)).bind fun s17 => (if s17 then some (.inr false) else some (.inl ())) : Option (Sum (Unit) (Bool))).bind fun os19 => (match os19 with | .inl s19 => ((if decide (r4.2 = 0) then (if ([] : List Int).length + r3.2.length ≤ 1099511627776 then (laws_FnGameOutcomes_l0 k r3 r6 k (([] : List Int) ++ r3.2) 0 : Option (Sum (List Int) (Sum (Unit) (Bool)))).bind fun os28 => (match os28 with | .inl s28 => (impl_ResultOf k r3.1 s28).bind fun r29 => (((if !decide (r29.2 = 0) then some true else (if !decide (r29.1 = r4.1) then some true else (if decide (0 < ((r6.1.getD []).length : Int)) then (if decide (((r8.1.getD []).length : Int) < 1) then some true else (if 0 ≤ (0 : Int) ∧ (0 : Int) < ((r6.1.getD []).length : Int) then (if 0 ≤ (0 : Int) ∧ (0 : Int) < ((r8.1.getD []).length : Int) then some (!decide (((r6.1.getD []).getD (0 : Int).toNat 0) = ((r8.1.getD []).getD (0 : Int).toNat 0))) else none) else none)) else some false))) : Option (Bool)).bind fun s36 => (if s36 then (some (.inr false)).bind fun rr => some (.inr rr) else some (.inl ())) : Option (Sum (Unit) (Sum (Unit) (Bool)))).bind fun os38 => (match os38 with | .inl s38 => (laws_FnGameOutcomes_l1 k r3 r4 r8 k 0 : Option (Sum (Unit) (Sum (Unit) (Bool)))).bind fun os52 => (match os52 with | .inl s52 => (impl_LeastPosition k r3.1 r3.2).bind fun r53 => (impl_OutcomeOf k r3.1 r53.1).bind fun r54 => letO (if !decide (r53.2 = 0) then true else (if !decide (r54.2 = 0) then true else !decide (r54.1 = r4.1))) fun (s57 : Bool) => (if s57 then some (.inr false) else some (.inl ())) | .inr rr => some rr) | .inr rr => some rr) | .inr rr => some rr) else none) else some (.inl ())) : Option (Sum (Unit) (Bool))).bind fun os59 => (match os59 with | .inl s59 => (spec_DrawRenumberPosition k p0).bind fun r60 => (impl_RenumberPosition k r60.1 r60.2.1 r60.2.2).bind fun r61 => (spec_RenumberPosition k r60.1 r60.2.1 r60.2.2).bind fun r62 => (((if !decide (r61.2 = r62.2) then some true else (laws_likeInts k (r61.1.getD []) r62.1).bind fun r64 => some (!r64)) : Option (Bool)).bind fun s65 => (if s65 then some (.inr false) else some (.inl ())) : Option (Sum (Unit) (Bool))).bind fun os67 => (match os67 with | .inl s67 => ((if decide (r61.2 = 0) then (impl_LeastPosition k r60.1 r60.2.1).bind fun r69 => (impl_LeastPosition k r60.1 (r61.1.getD [])).bind fun r70 => ((if !decide (r69.2 = 0) then some true else (if !decide (r70.2 = 0) then some true else (laws_likeInts k r69.1 r70.1).bind fun r73 => some (!r73))) : Option (Bool)).bind fun s74 => (if s74 then some (.inr false) else some (.inl ())) else some (.inl ())) : Option (Sum (Unit) (Bool))).bind fun os76 => (match os76 with | .inl s76 => (spec_DrawLeastPosition k p0).bind fun r77 => (impl_LeastPosition k r77.1 r77.2).bind fun r78 => (spec_LeastPosition k r77.1 r77.2).bind fun r79 => ((if decide (r78.2 = r79.2) then (laws_likeInts k r78.1 r79.1).bind fun r81 => some r81 else some false) : Option (Bool)).bind fun s82 => some s82 | .inr rr => some rr) | .inr rr => some rr) | .inr rr => some rr) | .inr rr => some rr))
set_option maxHeartbeats 2000000 in
set_option maxRecDepth 100000 in
theorem laws_FnGameOutcomes_ac (k : Nat) (p0 : List UInt8) (r : Bool) (h : laws_FnGameOutcomes k p0 = some r) : AC Tryz.prog 5 [.d (.sl none (bysD p0))] [] (fun res H' => res = [bV r] ∧ H' = []) := by
 refine AC_of_body true Tryz.func5 rfl Tryz.ntmps5 (rvs := [.tmp 2]) rfl rfl (fun G hG => ?_)
 have hm : G.H.length = 0 := by rw [hG]; rfl
 have hz : zeroG G.H = true := by rw [hG]; rfl
 unfold laws_FnGameOutcomes at h
 refine kR ?_
 refine kN 1 rfl ?_
 refine ACode_seq ?_
 refine kR ?_
 refine kM 1 rfl ?_
 refine kC [] 50 (bV (laws_big p0)) [] rfl Tryz.call6 rfl rfl (laws_big_ac p0) rfl ?_
 refine AOps_nil ?_
 refine kI h rfl (fun h _ => ?_) (fun h _ => ?_)
 ·refine kR ?_
  refine kN 1 rfl ?_
  refine ACode_ret ?_
  cases h
  exact ⟨_, _, fun r a w h => ⟨r, h⟩, _, _, [], _, (.cons (ResV_tmp _ _ rfl) .nil), rfl, rfl, rfl, rfl, rfl⟩
 refine ACode_skip ?_
 refine kR ?_
 refine kM 1 rfl ?_
 obtain ⟨r3, hr3, h⟩ := bindO h
 refine kC [] 53 (.tup [iV r3.1, .vec 0 0]) [.vec 0 (intsD r3.2)] rfl Tryz.call42 rfl rfl (spec_DrawOutcomeOf_ac k p0 _ hr3) rfl ?_
 refine kN 5 rfl ?_
 refine kR ?_
 refine kM 2 rfl ?_
 obtain ⟨r4, hr4, h⟩ := bindO h
 refine AOps_callL [] 59 _ _ _ _ _ _ _ _ _ _ rfl rfl rfl rfl rfl rfl rfl Tryz.call43 rfl (nodupB_sound _ rfl) rfl rfl rfl (impl_OutcomeOf_ac k r3.1 r3.2 _ hr4) ?_
 rintro _ _ ⟨rfl, rfl⟩
 refine ⟨(fun _ h => nomatch h), (allc (flat_s _) (allc (flat_s _) (fun _ h => nomatch h))), AOps_as 59 (v' := .tup [iV r4.1, iV r4.2]) (H' := [.vec 0 (intsD r3.2)]) rfl rfl ?_⟩
 refine kN 5 rfl ?_
 refine kR ?_
 refine kM 2 rfl ?_
 obtain ⟨r5, hr5, h⟩ := bindO h
 refine AOps_callL [] 65 _ _ _ _ _ _ _ _ _ _ rfl rfl rfl rfl rfl rfl rfl Tryz.call44 rfl (nodupB_sound _ rfl) rfl rfl rfl (spec_OutcomeOf_ac k r3.1 r3.2 _ hr5) ?_
 rintro _ _ ⟨rfl, rfl⟩
 refine ⟨(fun _ h => nomatch h), (allc (flat_s _) (allc (flat_s _) (fun _ h => nomatch h))), AOps_as 65 (v' := .tup [iV r5.1, iV r5.2]) (H' := [.vec 0 (intsD r3.2)]) rfl rfl ?_⟩
 refine kN 5 rfl ?_
 refine kR ?_
 refine kM 2 rfl ?_
 refine AOps_freezeL [4, 55, 58, 64, 70] 0 0 _ (allc (rfl) (allc (rfl) (allc (rfl) (allc (rfl) (allc (rfl) (fun _ h => nomatch h)))))) rfl ?_
 obtain ⟨r6, hr6, h⟩ := bindO h
 refine kC [] 71 (.tup [.d (.sl none (intsD (r6.1.getD []))), iV r6.2]) [.gone] rfl Tryz.call45 rfl rfl (AC_frz rfl (frz_cons frz_nil) (impl_PlayOut_ac k r3.1 r3.2 _ hr6)) rfl ?_
 refine kN 5 rfl ?_
 refine kR ?_
 refine kM 2 rfl ?_
 obtain ⟨r7, hr7, h⟩ := bindO h
 refine kC [] 77 (.tup [.d (.sl none (intsD r7.1)), iV r7.2]) [.gone] rfl Tryz.call46 rfl rfl (spec_PlayOut_ac k r3.1 r3.2 _ hr7) rfl ?_
 refine kN 5 rfl ?_
 refine kR ?_
 refine kM 2 rfl ?_
 obtain ⟨r8, hr8, h⟩ := bindO h
 refine kC [] 83 (.tup [.d (.sl none (intsD (r8.1.getD []))), iV r8.2]) [.gone] rfl Tryz.call47 rfl rfl (AC_frz rfl (frz_cons frz_nil) (impl_BestMoves_ac k r3.1 r3.2 _ hr8)) rfl ?_
 refine kN 5 rfl ?_
 refine kR ?_
 refine kM 2 rfl ?_
 obtain ⟨r9, hr9, h⟩ := bindO h
 refine kC [] 89 (.tup [.d (.sl none (intsD r9.1)), iV r9.2]) [.gone] rfl Tryz.call48 rfl rfl (spec_BestMoves_ac k r3.1 r3.2 _ hr9) rfl ?_
 refine kN 5 rfl ?_
 refine kO (fun s19 => [(0, .d (.sl none (bysD p0))), (3, iV r3.1), (4, .d (.sl none (intsD r3.2))), (5, iV r4.1), (6, iV r4.2), (9, .d (.sl none (intsD (r6.1.getD [])))), (13, .d (.sl none (intsD (r8.1.getD []))))]) (fun s19 => []) h (fun os19 h hks19 => ?_) (fun s19 h => ?_)
 ·refine kB (fun s17 => [(0, .d (.sl none (bysD p0))), (3, iV r3.1), (4, .d (.sl none (intsD r3.2))), (5, iV r4.1), (6, iV r4.2), (9, .d (.sl none (intsD (r6.1.getD [])))), (13, .d (.sl none (intsD (r8.1.getD [])))), (121, bV s17)]) (fun s17 => []) h (fun s17 h => ?_) (fun s17 h => ?_)
  ·refine (ACode_region ?_)
   refine kM 2 rfl ?_
   refine AOps_q 94 _ rfl rfl rfl (QOp_neq _ _ _ _ _ _ _ rfl rfl rfl) ?_
   refine kM 1 rfl ?_
   refine AOps_case 95 _ rfl (fun hb10 => ?_) (fun hb10 => ?_)
   ·have h := iteT hb10 h
    refine AOps_skip 96 rfl rfl rfl ?_
    refine AOps_skip 97 rfl rfl rfl ?_
    refine AOps_skip 98 rfl rfl rfl ?_
    refine kM 2 rfl ?_
    refine AOps_skip 101 rfl rfl rfl ?_
    refine AOps_skip 102 rfl rfl rfl ?_
    refine AOps_skip 103 rfl rfl rfl ?_
    refine kM 2 rfl ?_
    refine AOps_skip 106 rfl rfl rfl ?_
    refine AOps_skip 107 rfl rfl rfl ?_
    refine AOps_skip 108 rfl rfl rfl ?_
    refine AOps_skip 109 rfl rfl rfl ?_
    refine kM 2 rfl ?_
    refine AOps_skip 112 rfl rfl rfl ?_
    refine AOps_skip 113 rfl rfl rfl ?_
    refine AOps_skip 114 rfl rfl rfl ?_
    refine kM 2 rfl ?_
    refine AOps_skip 117 rfl rfl rfl ?_
    refine AOps_skip 118 rfl rfl rfl ?_
    refine AOps_skip 119 rfl rfl rfl ?_
    refine AOps_skip 120 rfl rfl rfl ?_
    refine kN 1 rfl ?_
    cases h
    exact Weak_keep 0 hm [0, 3, 4, 5, 6, 9, 13, 121] [] _ _ rfl rfl rfl
   have h := iteF hb10 h
   refine kM 2 rfl ?_
   refine AOps_q 98 _ rfl rfl rfl (QOp_neq _ _ _ _ _ _ _ rfl rfl rfl) ?_
   refine kM 2 rfl ?_
   refine AOps_case 100 _ rfl (fun hb11 => ?_) (fun hb11 => ?_)
   ·have h := iteT hb11 h
    refine AOps_skip 101 rfl rfl rfl ?_
    refine AOps_skip 102 rfl rfl rfl ?_
    refine AOps_skip 103 rfl rfl rfl ?_
    refine kM 2 rfl ?_
    refine AOps_skip 106 rfl rfl rfl ?_
    refine AOps_skip 107 rfl rfl rfl ?_
    refine AOps_skip 108 rfl rfl rfl ?_
    refine AOps_skip 109 rfl rfl rfl ?_
    refine kM 2 rfl ?_
    refine AOps_skip 112 rfl rfl rfl ?_
    refine AOps_skip 113 rfl rfl rfl ?_
    refine AOps_skip 114 rfl rfl rfl ?_
    refine kM 2 rfl ?_
    refine AOps_skip 117 rfl rfl rfl ?_
    refine AOps_skip 118 rfl rfl rfl ?_
    refine AOps_skip 119 rfl rfl rfl ?_
    refine AOps_skip 120 rfl rfl rfl ?_
    refine kN 1 rfl ?_
    cases h
    exact Weak_keep 0 hm [0, 3, 4, 5, 6, 9, 13, 121] [] _ _ rfl rfl rfl
   have h := iteF hb11 h
   refine kM 2 rfl ?_
   refine AOps_q 103 _ rfl rfl rfl (QOp_neq _ _ _ _ _ _ _ rfl rfl rfl) ?_
   refine kM 2 rfl ?_
   refine AOps_case 105 _ rfl (fun hb12 => ?_) (fun hb12 => ?_)
   ·have h := iteT hb12 h
    refine AOps_skip 106 rfl rfl rfl ?_
    refine AOps_skip 107 rfl rfl rfl ?_
    refine AOps_skip 108 rfl rfl rfl ?_
    refine AOps_skip 109 rfl rfl rfl ?_
    refine kM 2 rfl ?_
    refine AOps_skip 112 rfl rfl rfl ?_
    refine AOps_skip 113 rfl rfl rfl ?_
    refine AOps_skip 114 rfl rfl rfl ?_
    refine kM 2 rfl ?_
    refine AOps_skip 117 rfl rfl rfl ?_
    refine AOps_skip 118 rfl rfl rfl ?_
    refine AOps_skip 119 rfl rfl rfl ?_
    refine AOps_skip 120 rfl rfl rfl ?_
    refine kN 1 rfl ?_
    cases h
    exact Weak_keep 0 hm [0, 3, 4, 5, 6, 9, 13, 121] [] _ _ rfl rfl rfl
   have h := iteF hb12 h
   refine kM 2 rfl ?_
   obtain ⟨r13, hr13, h⟩ := bindO h
   refine kC [] 108 (bV r13) [.gone] rfl Tryz.call32 rfl rfl (laws_likeInts_ac k (r6.1.getD []) r7.1 _ hr13) rfl ?_
   refine AOps_q 109 _ rfl rfl rfl (QOp_not _ _ _ rfl rfl) ?_
   refine kM 2 rfl ?_
   refine AOps_case 111 _ rfl (fun hb14 => ?_) (fun hb14 => ?_)
   ·have h := iteT hb14 h
    refine AOps_skip 112 rfl rfl rfl ?_
    refine AOps_skip 113 rfl rfl rfl ?_
    refine AOps_skip 114 rfl rfl rfl ?_
    refine kM 2 rfl ?_
    refine AOps_skip 117 rfl rfl rfl ?_
    refine AOps_skip 118 rfl rfl rfl ?_
    refine AOps_skip 119 rfl rfl rfl ?_
    refine AOps_skip 120 rfl rfl rfl ?_
    refine kN 1 rfl ?_
    cases h
    exact Weak_keep 0 hm [0, 3, 4, 5, 6, 9, 13, 121] [] _ _ rfl rfl rfl
   have h := iteF hb14 h
   refine kM 2 rfl ?_
   refine AOps_q 114 _ rfl rfl rfl (QOp_neq _ _ _ _ _ _ _ rfl rfl rfl) ?_
   refine kM 2 rfl ?_
   refine AOps_case 116 _ rfl (fun hb15 => ?_) (fun hb15 => ?_)
   ·have h := iteT hb15 h
    refine AOps_skip 117 rfl rfl rfl ?_
    refine AOps_skip 118 rfl rfl rfl ?_
    refine AOps_skip 119 rfl rfl rfl ?_
    refine AOps_skip 120 rfl rfl rfl ?_
    refine kN 1 rfl ?_
    cases h
    exact Weak_keep 0 hm [0, 3, 4, 5, 6, 9, 13, 121] [] _ _ rfl rfl rfl
   have h := iteF hb15 h
   refine kM 2 rfl ?_
   obtain ⟨r16, hr16, h⟩ := bindO h
   refine kC [] 119 (bV r16) [.gone] rfl Tryz.call32 rfl rfl (laws_likeInts_ac k (r8.1.getD []) r9.1 _ hr16) rfl ?_
   refine AOps_q 120 _ rfl rfl rfl (QOp_not _ _ _ rfl rfl) ?_
   refine kN 1 rfl ?_
   cases h
   exact Weak_keep 0 hm [0, 3, 4, 5, 6, 9, 13, 121] [] _ _ rfl rfl rfl
  refine kI h rfl (fun h _ => ?_) (fun h _ => ?_)
  ·refine kR ?_
   refine kN 1 rfl ?_
   refine ACode_ret ?_
   cases h
   have h := hks19
   cases h
   exact ⟨_, _, fun r a w h => ⟨r, h⟩, _, _, [], _, (.cons (ResV_tmp _ _ rfl) .nil), rfl, rfl, rfl, rfl, rfl⟩
  refine ACode_skip ?_
  cases h
  exact ⟨_, rfl, Weak_keep 0 hm [0, 3, 4, 5, 6, 9, 13] [] _ _ rfl rfl rfl⟩
 refine kO (fun s59 => [(0, .d (.sl none (bysD p0)))]) (fun s59 => []) h (fun os59 h hks59 => ?_) (fun s59 h => ?_)
 ·refine kR ?_
  refine kM 1 rfl ?_
  refine AOps_q 123 _ rfl rfl rfl (QOp_eql _ _ _ _ _ _ _ rfl rfl rfl) ?_
  refine AOps_nil ?_
  refine kI h rfl (fun h _ => ?_) (fun h _ => ?_)
  ·refine kR ?_
   refine AOps_buildSlice 124 _ _ _ [] (intsD ([] : List Int)) _ rfl rfl rfl rfl rfl (by decide) Tryz.underlying27 Tryz.sizeOf2 (zero_of Tryz.typeInfo2 rfl) rfl rfl (intsD_one _) ?_
   refine kM 1 rfl ?_
   obtain ⟨hc21, h⟩ := guardO h
   refine AOps_append 126 _ _ _ _ _ _ _ _ _ _ _ _ rfl rfl rfl rfl rfl rfl rfl Tryz.underlying27 Tryz.type2 rfl rfl rfl (by decide) rfl rfl rfl rfl (intsD_one _) (by rw [intsD_length, intsD_length]; exact hc21) ?_
   rw [intsD_app]
   refine kN 1 rfl ?_
   refine kO (fun s28 => [(0, .d (.sl none (bysD p0))), (3, iV r3.1), (4, .d (.sl none (intsD r3.2))), (5, iV r4.1), (9, .d (.sl none (intsD (r6.1.getD [])))), (13, .d (.sl none (intsD (r8.1.getD [])))), (17, .d (.sl none (intsD s28)))]) (fun s28 => []) h (fun os28 h hks28 => ?_) (fun s28 h => ?_)
   ·refine kR ?_
    refine kN 1 rfl ?_
    refine ACode_block ?_
    refine ACode_loopW (fun k0 E H => ∃ (x22 : List Int) (x23 : Int), E = [(0, .d (.sl none (bysD p0))), (3, iV r3.1), (4, .d (.sl none (intsD r3.2))), (5, iV r4.1), (9, .d (.sl none (intsD (r6.1.getD [])))), (13, .d (.sl none (intsD (r8.1.getD [])))), (17, .d (.sl none (intsD x22))), (18, iV x23)] ∧ H = [] ∧ laws_FnGameOutcomes_l0 k r3 r6 k0 x22 x23 = some os28) k _ _ (Weak_trans (Weak_frz [17, 126] [] 0 1 _ (allc (rfl) (allc (rfl) (fun _ h => nomatch h))) (fun _ h => nomatch h) rfl) (Weak_keep 0 hm [0, 3, 4, 5, 9, 13, 17, 18] [] _ _ rfl rfl rfl)) ⟨_, _, rfl, rfl, h⟩ ?_
    clear h
    rintro k0 E H ⟨x22, x23, rfl, rfl, h⟩
    cases k0 with
    | zero => cases (show (none : Option (Sum (List Int) (Sum (Unit) (Bool)))) = some _ from h)
    | succ k0 =>
     rw [laws_FnGameOutcomes_l0] at h
     refine ACode_seq ?_
     refine kR ?_
     refine kM 2 rfl ?_
     refine AOps_q 129 _ rfl rfl rfl (QOp_len_sl _ _ _ _ _ _ _ (intsD_length _) rfl rfl rfl rfl Tryz.underlying27 rfl) ?_
     refine AOps_q 130 _ rfl rfl rfl (QOp_lss _ _ _ _ _ _ _ rfl rfl rfl) ?_
     refine AOps_nil ?_
     refine kI h rfl (fun h _ => ?_) (fun h _ => ?_)
     ·refine ACode_skip ?_
      refine ACode_seq ?_
      refine ACode_block ?_
      refine kR ?_
      refine kM 4 rfl ?_
      obtain ⟨hc25, h⟩ := guardO h
      refine AOps_q 138 _ rfl rfl rfl (QOp_indexAddr_sl _ _ _ _ _ _ _ _ rfl Tryz.underlying27 Tryz.sizeOf2 hc25.1 (by rw [intsD_length]; exact hc25.2) rfl rfl) ?_
      refine AOps_q 139 _ rfl rfl rfl (QOp_load_pv _ _ _ _ _ rfl Tryz.isAgg2 rfl (intsD_get _ _ 0 (by omega))) ?_
      obtain ⟨r26, hr26, h⟩ := bindO h
      refine kC [] 140 (.tup [.d (.sl none (intsD r26.1)), iV r26.2]) [] rfl Tryz.call49 rfl rfl (impl_MakeMove_ac k r3.1 x22 ((r6.1.getD []).getD x23.toNat 0) _ hr26) rfl ?_
      refine kN 5 rfl ?_
      refine ACode_seq ?_
      refine kR ?_
      refine kM 1 rfl ?_
      refine AOps_q 144 _ rfl rfl rfl (QOp_neq _ _ _ _ _ _ _ rfl rfl rfl) ?_
      refine AOps_nil ?_
      refine kI h rfl (fun h _ => ?_) (fun h _ => ?_)
      ·refine kR ?_
       refine kN 1 rfl ?_
       refine ACode_ret ?_
       obtain ⟨rr, hz83, h2⟩ := bindO h
       obtain rfl := Option.some.inj h2
       obtain rfl := Option.some.inj (show some rr = some _ from hks28)
       have h := hz83
       cases h
       have h := hks59
       cases h
       exact ⟨_, _, fun r a w h => ⟨r, h⟩, _, _, [], _, (.cons (ResV_tmp _ _ rfl) .nil), rfl, rfl, rfl, rfl, rfl⟩
      refine ACode_skip ?_
      refine (ACode_region ?_)
      refine kN 2 rfl ?_
      refine (ACode_region ?_)
      refine kM 1 rfl ?_
      refine AOps_q 132 _ rfl rfl rfl (QOp_add _ _ _ _ _ _ _ rfl rfl rfl) ?_
      refine kN 1 rfl ?_
      exact ⟨k0, _, _, Nat.lt_succ_self _, Weak_keep 0 hm [0, 3, 4, 5, 9, 13, 17, 18] [] _ _ rfl rfl rfl, _, _, rfl, rfl, h⟩
     refine ACode_exit ?_
     cases h
     exact ⟨_, rfl, Weak_keep 0 hm [0, 3, 4, 5, 9, 13, 17] [] _ _ rfl rfl rfl⟩
   refine kR ?_
   refine kM 2 rfl ?_
   obtain ⟨r29, hr29, h⟩ := bindO h
   refine kC [] 149 (.tup [iV r29.1, iV r29.2]) [] rfl Tryz.call50 rfl rfl (impl_ResultOf_ac k r3.1 s28 _ hr29) rfl ?_
   refine kN 5 rfl ?_
   refine kO (fun s38 => [(0, .d (.sl none (bysD p0))), (3, iV r3.1), (4, .d (.sl none (intsD r3.2))), (5, iV r4.1), (13, .d (.sl none (intsD (r8.1.getD []))))]) (fun s38 => []) h (fun os38 h hks38 => ?_) (fun s38 h => ?_)
   ·refine kB (fun s36 => [(0, .d (.sl none (bysD p0))), (3, iV r3.1), (4, .d (.sl none (intsD r3.2))), (5, iV r4.1), (13, .d (.sl none (intsD (r8.1.getD [])))), (177, bV s36)]) (fun s36 => []) h (fun s36 h => ?_) (fun s36 h => ?_)
    ·refine (ACode_quiet mixed (by kernel_rfl) ?_)
     refine kQ 1 rfl ?_
     refine AQ_q 153 _ rfl rfl rfl (QOp_neq _ _ _ _ _ _ _ rfl rfl rfl) ?_
     refine kQ 1 rfl ?_
     refine AQ_case 154 _ rfl (fun hb30 => ?_) (fun hb30 => ?_)
     ·have h := iteT hb30 h
      refine AQ_skip 155 rfl rfl rfl ?_
      refine AQ_skip 156 rfl rfl rfl ?_
      refine AQ_skip 157 rfl rfl rfl ?_
      refine kQ 2 rfl ?_
      refine AQ_skip 160 rfl rfl rfl ?_
      refine AQ_skip 161 rfl rfl rfl ?_
      refine AQ_skip 162 rfl rfl rfl ?_
      refine AQ_skip 163 rfl rfl rfl ?_
      refine AQ_skip 164 rfl rfl rfl ?_
      refine AQ_skip 165 rfl rfl rfl ?_
      refine AQ_skip 166 rfl rfl rfl ?_
      refine AQ_skip 167 rfl rfl rfl ?_
      refine AQ_skip 168 rfl rfl rfl ?_
      refine AQ_skip 169 rfl rfl rfl ?_
      refine AQ_skip 170 rfl rfl rfl ?_
      refine AQ_skip 171 rfl rfl rfl ?_
      refine AQ_skip 172 rfl rfl rfl ?_
      refine AQ_skip 173 rfl rfl rfl ?_
      refine AQ_skip 174 rfl rfl rfl ?_
      refine AQ_skip 175 rfl rfl rfl ?_
      refine AQ_skip 176 rfl rfl rfl ?_
      refine kQ 1 rfl ?_
      refine AQ_nil ?_
      cases h
      exact Weak_keep 0 hm [0, 3, 4, 5, 13, 177] [] _ _ rfl rfl rfl
     have h := iteF hb30 h
     refine kQ 2 rfl ?_
     refine AQ_q 157 _ rfl rfl rfl (QOp_neq _ _ _ _ _ _ _ rfl rfl rfl) ?_
     refine kQ 2 rfl ?_
     refine AQ_case 159 _ rfl (fun hb31 => ?_) (fun hb31 => ?_)
     ·have h := iteT hb31 h
      refine AQ_skip 160 rfl rfl rfl ?_
      refine AQ_skip 161 rfl rfl rfl ?_
      refine AQ_skip 162 rfl rfl rfl ?_
      refine AQ_skip 163 rfl rfl rfl ?_
      refine AQ_skip 164 rfl rfl rfl ?_
      refine AQ_skip 165 rfl rfl rfl ?_
      refine AQ_skip 166 rfl rfl rfl ?_
      refine AQ_skip 167 rfl rfl rfl ?_
      refine AQ_skip 168 rfl rfl rfl ?_
      refine AQ_skip 169 rfl rfl rfl ?_
      refine AQ_skip 170 rfl rfl rfl ?_
      refine AQ_skip 171 rfl rfl rfl ?_
      refine AQ_skip 172 rfl rfl rfl ?_
      refine AQ_skip 173 rfl rfl rfl ?_
      refine AQ_skip 174 rfl rfl rfl ?_
      refine AQ_skip 175 rfl rfl rfl ?_
      refine AQ_skip 176 rfl rfl rfl ?_
      refine kQ 1 rfl ?_
      refine AQ_nil ?_
      cases h
      exact Weak_keep 0 hm [0, 3, 4, 5, 13, 177] [] _ _ rfl rfl rfl
     have h := iteF hb31 h
     refine kQ 1 rfl ?_
     refine AQ_q 161 _ rfl rfl rfl (QOp_len_sl _ _ _ _ _ _ _ (intsD_length _) rfl rfl rfl rfl Tryz.underlying27 rfl) ?_
     refine AQ_q 162 _ rfl rfl rfl (QOp_gtr _ _ _ _ _ _ _ rfl rfl rfl) ?_
     refine kQ 1 rfl ?_
     refine AQ_case 163 _ rfl (fun hb32 => ?_) (fun hb32 => ?_)
     ·have h := iteT hb32 h
      refine kQ 1 rfl ?_
      refine AQ_q 165 _ rfl rfl rfl (QOp_len_sl _ _ _ _ _ _ _ (intsD_length _) rfl rfl rfl rfl Tryz.underlying27 rfl) ?_
      refine AQ_q 166 _ rfl rfl rfl (QOp_lss _ _ _ _ _ _ _ rfl rfl rfl) ?_
      refine kQ 1 rfl ?_
      refine AQ_case 167 _ rfl (fun hb33 => ?_) (fun hb33 => ?_)
      ·have h := iteT hb33 h
       refine AQ_skip 168 rfl rfl rfl ?_
       refine AQ_skip 169 rfl rfl rfl ?_
       refine AQ_skip 170 rfl rfl rfl ?_
       refine AQ_skip 171 rfl rfl rfl ?_
       refine AQ_skip 172 rfl rfl rfl ?_
       refine AQ_skip 173 rfl rfl rfl ?_
       refine AQ_skip 174 rfl rfl rfl ?_
       refine kQ 3 rfl ?_
       refine AQ_nil ?_
       cases h
       exact Weak_keep 0 hm [0, 3, 4, 5, 13, 177] [] _ _ rfl rfl rfl
      have h := iteF hb33 h
      refine kQ 1 rfl ?_
      obtain ⟨hc34, h⟩ := guardO h
      refine AQ_q 169 _ rfl rfl rfl (QOp_indexAddr_sl _ _ _ _ _ _ _ _ rfl Tryz.underlying27 Tryz.sizeOf2 hc34.1 (by rw [intsD_length]; exact hc34.2) rfl rfl) ?_
      refine AQ_q 170 _ rfl rfl rfl (QOp_load_pv _ _ _ _ _ rfl Tryz.isAgg2 rfl (intsD_get _ _ 0 (by omega))) ?_
      refine kQ 1 rfl ?_
      obtain ⟨hc35, h⟩ := guardO h
      refine AQ_q 172 _ rfl rfl rfl (QOp_indexAddr_sl _ _ _ _ _ _ _ _ rfl Tryz.underlying27 Tryz.sizeOf2 hc35.1 (by rw [intsD_length]; exact hc35.2) rfl rfl) ?_
      refine AQ_q 173 _ rfl rfl rfl (QOp_load_pv _ _ _ _ _ rfl Tryz.isAgg2 rfl (intsD_get _ _ 0 (by omega))) ?_
      refine AQ_q 174 _ rfl rfl rfl (QOp_neq _ _ _ _ _ _ _ rfl rfl rfl) ?_
      refine kQ 3 rfl ?_
      refine AQ_nil ?_
      cases h
      exact Weak_keep 0 hm [0, 3, 4, 5, 13, 177] [] _ _ rfl rfl rfl
     have h := iteF hb32 h
     refine AQ_skip 164 rfl rfl rfl ?_
     refine AQ_skip 165 rfl rfl rfl ?_
     refine AQ_skip 166 rfl rfl rfl ?_
     refine AQ_skip 167 rfl rfl rfl ?_
     refine AQ_skip 168 rfl rfl rfl ?_
     refine AQ_skip 169 rfl rfl rfl ?_
     refine AQ_skip 170 rfl rfl rfl ?_
     refine AQ_skip 171 rfl rfl rfl ?_
     refine AQ_skip 172 rfl rfl rfl ?_
     refine AQ_skip 173 rfl rfl rfl ?_
     refine AQ_skip 174 rfl rfl rfl ?_
     refine AQ_skip 175 rfl rfl rfl ?_
     refine kQ 2 rfl ?_
     refine AQ_nil ?_
     cases h
     exact Weak_keep 0 hm [0, 3, 4, 5, 13, 177] [] _ _ rfl rfl rfl
    refine kI h rfl (fun h _ => ?_) (fun h _ => ?_)
    ·refine kR ?_
     refine kN 1 rfl ?_
     refine ACode_ret ?_
     obtain ⟨rr, hz84, h2⟩ := bindO h
     obtain rfl := Option.some.inj h2
     obtain rfl := Option.some.inj (show some rr = some _ from hks38)
     have h := hz84
     cases h
     have h := hks59
     cases h
     exact ⟨_, _, fun r a w h => ⟨r, h⟩, _, _, [], _, (.cons (ResV_tmp _ _ rfl) .nil), rfl, rfl, rfl, rfl, rfl⟩
    refine ACode_skip ?_
    cases h
    exact ⟨_, rfl, Weak_keep 0 hm [0, 3, 4, 5, 13] [] _ _ rfl rfl rfl⟩
   refine kO (fun s52 => [(0, .d (.sl none (bysD p0))), (3, iV r3.1), (4, .d (.sl none (intsD r3.2))), (5, iV r4.1)]) (fun s52 => []) h (fun os52 h hks52 => ?_) (fun s52 h => ?_)
   ·refine kR ?_
    refine kN 1 rfl ?_
    refine ACode_block ?_
    refine ACode_loopW (fun k1 E H => ∃ (x39 : Int), E = [(0, .d (.sl none (bysD p0))), (3, iV r3.1), (4, .d (.sl none (intsD r3.2))), (5, iV r4.1), (13, .d (.sl none (intsD (r8.1.getD [])))), (23, iV x39)] ∧ H = [] ∧ laws_FnGameOutcomes_l1 k r3 r4 r8 k1 x39 = some os52) k _ _ (Weak_keep 0 hm [0, 3, 4, 5, 13, 23] [] _ _ rfl rfl rfl) ⟨_, rfl, rfl, h⟩ ?_
    clear h
    rintro k1 E H ⟨x39, rfl, rfl, h⟩
    cases k1 with
    | zero => cases (show (none : Option (Sum (Unit) (Sum (Unit) (Bool)))) = some _ from h)
    | succ k1 =>
     rw [laws_FnGameOutcomes_l1] at h
     refine kO (fun s43 => [(0, .d (.sl none (bysD p0))), (3, iV r3.1), (4, .d (.sl none (intsD r3.2))), (5, iV r4.1), (13, .d (.sl none (intsD (r8.1.getD [])))), (23, iV x39)]) (fun s43 => []) h (fun os43 h hks43 => ?_) (fun s43 h => ?_)
     ·refine kL (fun s41 => [(0, .d (.sl none (bysD p0))), (3, iV r3.1), (4, .d (.sl none (intsD r3.2))), (5, iV r4.1), (13, .d (.sl none (intsD (r8.1.getD [])))), (23, iV x39), (185, bV s41)]) (fun s41 => []) h (fun s41 h => ?_) (fun s41 h => ?_)
      ·refine (ACode_region ?_)
       refine kM 2 rfl ?_
       refine AOps_q 180 _ rfl rfl rfl (QOp_len_sl _ _ _ _ _ _ _ (intsD_length _) rfl rfl rfl rfl Tryz.underlying27 rfl) ?_
       refine AOps_q 181 _ rfl rfl rfl (QOp_lss _ _ _ _ _ _ _ rfl rfl rfl) ?_
       refine kM 1 rfl ?_
       refine AOps_case 182 _ rfl (fun hb40 => ?_) (fun hb40 => ?_)
       ·have h := iteT hb40 h
        refine kM 1 rfl ?_
        refine AOps_q 184 _ rfl rfl rfl (QOp_lss _ _ _ _ _ _ _ rfl rfl rfl) ?_
        refine kN 1 rfl ?_
        cases h
        exact Weak_keep 0 hm [0, 3, 4, 5, 13, 23, 185] [] _ _ rfl rfl rfl
       have h := iteF hb40 h
       refine AOps_skip 183 rfl rfl rfl ?_
       refine AOps_skip 184 rfl rfl rfl ?_
       refine kN 1 rfl ?_
       cases h
       exact Weak_keep 0 hm [0, 3, 4, 5, 13, 23, 185] [] _ _ rfl rfl rfl
      refine kI h rfl (fun h _ => ?_) (fun h _ => ?_)
      ·refine ACode_skip ?_
       cases h
       exact ⟨_, rfl, Weak_keep 0 hm [0, 3, 4, 5, 13, 23] [] _ _ rfl rfl rfl⟩
      refine ACode_exit ?_
      obtain ⟨rr, hz85, h2⟩ := bindO h
      obtain rfl := Option.some.inj h2
      obtain rfl := Option.some.inj (show some rr = some _ from hks43)
      have h := hz85
      cases h
      exact ⟨_, rfl, Weak_keep 0 hm [0, 3, 4, 5] [] _ _ rfl rfl rfl⟩
     refine kO (fun s51 => [(0, .d (.sl none (bysD p0))), (3, iV r3.1), (4, .d (.sl none (intsD r3.2))), (5, iV r4.1), (13, .d (.sl none (intsD (r8.1.getD [])))), (23, iV x39)]) (fun s51 => []) h (fun os51 h hks51 => ?_) (fun s51 h => ?_)
     ·refine ACode_block ?_
      refine kR ?_
      refine kM 4 rfl ?_
      obtain ⟨hc44, h⟩ := guardO h
      refine AOps_q 193 _ rfl rfl rfl (QOp_indexAddr_sl _ _ _ _ _ _ _ _ rfl Tryz.underlying27 Tryz.sizeOf2 hc44.1 (by rw [intsD_length]; exact hc44.2) rfl rfl) ?_
      refine AOps_q 194 _ rfl rfl rfl (QOp_load_pv _ _ _ _ _ rfl Tryz.isAgg2 rfl (intsD_get _ _ 0 (by omega))) ?_
      obtain ⟨r45, hr45, h⟩ := bindO h
      refine kC [] 195 (.tup [.d (.sl none (intsD r45.1)), iV r45.2]) [] rfl Tryz.call49 rfl rfl (impl_MakeMove_ac k r3.1 r3.2 ((r8.1.getD []).getD x39.toNat 0) _ hr45) rfl ?_
      refine kN 5 rfl ?_
      refine kR ?_
      refine kM 2 rfl ?_
      obtain ⟨r46, hr46, h⟩ := bindO h
      refine kC [] 201 (.tup [iV r46.1, iV r46.2]) [] rfl Tryz.call43 rfl rfl (impl_OutcomeOf_ac k r3.1 r45.1 _ hr46) rfl ?_
      refine kN 5 rfl ?_
      refine kL (fun s49 => [(0, .d (.sl none (bysD p0))), (3, iV r3.1), (4, .d (.sl none (intsD r3.2))), (5, iV r4.1), (13, .d (.sl none (intsD (r8.1.getD [])))), (23, iV x39), (214, bV s49)]) (fun s49 => []) h (fun s49 h => ?_) (fun s49 h => ?_)
      ·refine (ACode_region ?_)
       refine kM 1 rfl ?_
       refine AOps_q 205 _ rfl rfl rfl (QOp_neq _ _ _ _ _ _ _ rfl rfl rfl) ?_
       refine kM 1 rfl ?_
       refine AOps_case 206 _ rfl (fun hb47 => ?_) (fun hb47 => ?_)
       ·have h := iteT hb47 h
        refine AOps_skip 207 rfl rfl rfl ?_
        refine AOps_skip 208 rfl rfl rfl ?_
        refine kM 2 rfl ?_
        refine AOps_skip 211 rfl rfl rfl ?_
        refine AOps_skip 212 rfl rfl rfl ?_
        refine AOps_skip 213 rfl rfl rfl ?_
        refine kN 1 rfl ?_
        cases h
        exact Weak_keep 0 hm [0, 3, 4, 5, 13, 23, 214] [] _ _ rfl rfl rfl
       have h := iteF hb47 h
       refine kM 1 rfl ?_
       refine AOps_q 208 _ rfl rfl rfl (QOp_neq _ _ _ _ _ _ _ rfl rfl rfl) ?_
       refine kM 2 rfl ?_
       refine AOps_case 210 _ rfl (fun hb48 => ?_) (fun hb48 => ?_)
       ·have h := iteT hb48 h
        refine AOps_skip 211 rfl rfl rfl ?_
        refine AOps_skip 212 rfl rfl rfl ?_
        refine AOps_skip 213 rfl rfl rfl ?_
        refine kN 1 rfl ?_
        cases h
        exact Weak_keep 0 hm [0, 3, 4, 5, 13, 23, 214] [] _ _ rfl rfl rfl
       have h := iteF hb48 h
       refine kM 2 rfl ?_
       refine AOps_q 213 _ rfl rfl rfl (QOp_neq _ _ _ _ _ _ _ rfl rfl rfl) ?_
       refine kN 1 rfl ?_
       cases h
       exact Weak_keep 0 hm [0, 3, 4, 5, 13, 23, 214] [] _ _ rfl rfl rfl
      refine kI h rfl (fun h _ => ?_) (fun h _ => ?_)
      ·refine kR ?_
       refine kN 1 rfl ?_
       refine ACode_ret ?_
       obtain ⟨rr, hz87, h2⟩ := bindO h
       obtain rfl := Option.some.inj h2
       obtain rfl := Option.some.inj (show some rr = some _ from hks51)
       have h := hz87
       obtain ⟨rr, hz86, h2⟩ := bindO h
       obtain rfl := Option.some.inj h2
       obtain rfl := Option.some.inj (show some rr = some _ from hks52)
       have h := hz86
       cases h
       have h := hks59
       cases h
       exact ⟨_, _, fun r a w h => ⟨r, h⟩, _, _, [], _, (.cons (ResV_tmp _ _ rfl) .nil), rfl, rfl, rfl, rfl, rfl⟩
      refine ACode_skip ?_
      cases h
      exact ⟨_, rfl, Weak_keep 0 hm [0, 3, 4, 5, 13, 23] [] _ _ rfl rfl rfl⟩
     refine (ACode_region ?_)
     refine kM 1 rfl ?_
     refine AOps_q 187 _ rfl rfl rfl (QOp_add _ _ _ _ _ _ _ rfl rfl rfl) ?_
     refine kN 1 rfl ?_
     exact ⟨k1, _, _, Nat.lt_succ_self _, Weak_keep 0 hm [0, 3, 4, 5, 13, 23] [] _ _ rfl rfl rfl, _, rfl, rfl, h⟩
   refine kR ?_
   refine kM 2 rfl ?_
   obtain ⟨r53, hr53, h⟩ := bindO h
   refine kC [] 218 (.tup [.d (.sl none (intsD r53.1)), iV r53.2]) [] rfl Tryz.call51 rfl rfl (impl_LeastPosition_ac k r3.1 r3.2 _ hr53) rfl ?_
   refine kN 5 rfl ?_
   refine kR ?_
   refine kM 2 rfl ?_
   obtain ⟨r54, hr54, h⟩ := bindO h
   refine kC [] 224 (.tup [iV r54.1, iV r54.2]) [] rfl Tryz.call43 rfl rfl (impl_OutcomeOf_ac k r3.1 r53.1 _ hr54) rfl ?_
   refine kN 5 rfl ?_
   refine kL (fun s57 => [(0, .d (.sl none (bysD p0))), (237, bV s57)]) (fun s57 => []) h (fun s57 h => ?_) (fun s57 h => ?_)
   ·refine (ACode_region ?_)
    refine kM 1 rfl ?_
    refine AOps_q 228 _ rfl rfl rfl (QOp_neq _ _ _ _ _ _ _ rfl rfl rfl) ?_
    refine kM 1 rfl ?_
    refine AOps_case 229 _ rfl (fun hb55 => ?_) (fun hb55 => ?_)
    ·have h := iteT hb55 h
     refine AOps_skip 230 rfl rfl rfl ?_
     refine AOps_skip 231 rfl rfl rfl ?_
     refine kM 2 rfl ?_
     refine AOps_skip 234 rfl rfl rfl ?_
     refine AOps_skip 235 rfl rfl rfl ?_
     refine AOps_skip 236 rfl rfl rfl ?_
     refine kN 1 rfl ?_
     cases h
     exact Weak_keep 0 hm [0, 237] [] _ _ rfl rfl rfl
    have h := iteF hb55 h
    refine kM 1 rfl ?_
    refine AOps_q 231 _ rfl rfl rfl (QOp_neq _ _ _ _ _ _ _ rfl rfl rfl) ?_
    refine kM 2 rfl ?_
    refine AOps_case 233 _ rfl (fun hb56 => ?_) (fun hb56 => ?_)
    ·have h := iteT hb56 h
     refine AOps_skip 234 rfl rfl rfl ?_
     refine AOps_skip 235 rfl rfl rfl ?_
     refine AOps_skip 236 rfl rfl rfl ?_
     refine kN 1 rfl ?_
     cases h
     exact Weak_keep 0 hm [0, 237] [] _ _ rfl rfl rfl
    have h := iteF hb56 h
    refine kM 2 rfl ?_
    refine AOps_q 236 _ rfl rfl rfl (QOp_neq _ _ _ _ _ _ _ rfl rfl rfl) ?_
    refine kN 1 rfl ?_
    cases h
    exact Weak_keep 0 hm [0, 237] [] _ _ rfl rfl rfl
   refine kI h rfl (fun h _ => ?_) (fun h _ => ?_)
   ·refine kR ?_
    refine kN 1 rfl ?_
    refine ACode_ret ?_
    cases h
    have h := hks59
    cases h
    exact ⟨_, _, fun r a w h => ⟨r, h⟩, _, _, [], _, (.cons (ResV_tmp _ _ rfl) .nil), rfl, rfl, rfl, rfl, rfl⟩
   refine ACode_skip ?_
   cases h
   exact ⟨_, rfl, Weak_keep 0 hm [0] [] _ _ rfl rfl rfl⟩
  refine ACode_skip ?_
  cases h
  exact ⟨_, rfl, Weak_keep 0 hm [0] [] _ _ rfl rfl rfl⟩
 refine kR ?_
 refine kM 1 rfl ?_
 obtain ⟨r60, hr60, h⟩ := bindO h
 refine kC [] 240 (.tup [iV r60.1, .vec 0 0, .vec 1 0]) [.vec 0 (intsD r60.2.1), .vec 0 (intsD r60.2.2)] rfl Tryz.call52 rfl rfl (spec_DrawRenumberPosition_ac k p0 _ hr60) rfl ?_
 refine kN 7 rfl ?_
 refine kR ?_
 refine kM 3 rfl ?_
 refine AOps_freezeL [33, 242, 246] 0 0 _ (allc (rfl) (allc (rfl) (allc (rfl) (fun _ h => nomatch h)))) rfl ?_
 refine AOps_freezeL [34, 243, 247] 1 0 _ (allc (rfl) (allc (rfl) (allc (rfl) (fun _ h => nomatch h)))) rfl ?_
 obtain ⟨r61, hr61, h⟩ := bindO h
 refine kC [] 248 (.tup [.d (.sl none (intsD (r61.1.getD []))), iV r61.2]) [.gone, .gone] rfl Tryz.call53 rfl rfl (AC_frz rfl (frz_cons frz_nil) (impl_RenumberPosition_ac k r60.1 r60.2.1 r60.2.2 _ hr61)) rfl ?_
 refine kN 5 rfl ?_
 refine kR ?_
 refine kM 3 rfl ?_
 obtain ⟨r62, hr62, h⟩ := bindO h
 refine kC [] 255 (.tup [.d (.sl none (intsD r62.1)), iV r62.2]) [.gone, .gone] rfl Tryz.call54 rfl rfl (spec_RenumberPosition_ac k r60.1 r60.2.1 r60.2.2 _ hr62) rfl ?_
 refine kN 5 rfl ?_
 refine kO (fun s67 => [(0, .d (.sl none (bysD p0))), (32, iV r60.1), (33, .d (.sl none (intsD r60.2.1))), (35, .d (.sl none (intsD (r61.1.getD [])))), (36, iV r61.2)]) (fun s67 => []) h (fun os67 h hks67 => ?_) (fun s67 h => ?_)
 ·refine kB (fun s65 => [(0, .d (.sl none (bysD p0))), (32, iV r60.1), (33, .d (.sl none (intsD r60.2.1))), (35, .d (.sl none (intsD (r61.1.getD [])))), (36, iV r61.2), (266, bV s65)]) (fun s65 => []) h (fun s65 h => ?_) (fun s65 h => ?_)
  ·refine (ACode_region ?_)
   refine kM 2 rfl ?_
   refine AOps_q 260 _ rfl rfl rfl (QOp_neq _ _ _ _ _ _ _ rfl rfl rfl) ?_
   refine kM 1 rfl ?_
   refine AOps_case 261 _ rfl (fun hb63 => ?_) (fun hb63 => ?_)
   ·have h := iteT hb63 h
    refine AOps_skip 262 rfl rfl rfl ?_
    refine AOps_skip 263 rfl rfl rfl ?_
    refine AOps_skip 264 rfl rfl rfl ?_
    refine AOps_skip 265 rfl rfl rfl ?_
    refine kN 1 rfl ?_
    cases h
    exact Weak_keep 0 hm [0, 32, 33, 35, 36, 266] [] _ _ rfl rfl rfl
   have h := iteF hb63 h
   refine kM 2 rfl ?_
   obtain ⟨r64, hr64, h⟩ := bindO h
   refine kC [] 264 (bV r64) [.gone, .gone] rfl Tryz.call32 rfl rfl (laws_likeInts_ac k (r61.1.getD []) r62.1 _ hr64) rfl ?_
   refine AOps_q 265 _ rfl rfl rfl (QOp_not _ _ _ rfl rfl) ?_
   refine kN 1 rfl ?_
   cases h
   exact Weak_keep 0 hm [0, 32, 33, 35, 36, 266] [] _ _ rfl rfl rfl
  refine kI h rfl (fun h _ => ?_) (fun h _ => ?_)
  ·refine kR ?_
   refine kN 1 rfl ?_
   refine ACode_ret ?_
   cases h
   have h := hks67
   cases h
   exact ⟨_, _, fun r a w h => ⟨r, h⟩, _, _, [], _, (.cons (ResV_tmp _ _ rfl) .nil), rfl, rfl, rfl, rfl, rfl⟩
  refine ACode_skip ?_
  cases h
  exact ⟨_, rfl, Weak_keep 0 hm [0, 32, 33, 35, 36] [] _ _ rfl rfl rfl⟩
 refine kO (fun s76 => [(0, .d (.sl none (bysD p0)))]) (fun s76 => []) h (fun os76 h hks76 => ?_) (fun s76 h => ?_)
 ·refine kR ?_
  refine kM 1 rfl ?_
  refine AOps_q 268 _ rfl rfl rfl (QOp_eql _ _ _ _ _ _ _ rfl rfl rfl) ?_
  refine AOps_nil ?_
  refine kI h rfl (fun h _ => ?_) (fun h _ => ?_)
  ·refine kR ?_
   refine kM 2 rfl ?_
   obtain ⟨r69, hr69, h⟩ := bindO h
   refine kC [] 272 (.tup [.d (.sl none (intsD r69.1)), iV r69.2]) [] rfl Tryz.call51 rfl rfl (impl_LeastPosition_ac k r60.1 r60.2.1 _ hr69) rfl ?_
   refine kN 5 rfl ?_
   refine kR ?_
   refine kM 2 rfl ?_
   obtain ⟨r70, hr70, h⟩ := bindO h
   refine kC [] 278 (.tup [.d (.sl none (intsD r70.1)), iV r70.2]) [] rfl Tryz.call51 rfl rfl (impl_LeastPosition_ac k r60.1 (r61.1.getD []) _ hr70) rfl ?_
   refine kN 5 rfl ?_
   refine kB (fun s74 => [(0, .d (.sl none (bysD p0))), (292, bV s74)]) (fun s74 => []) h (fun s74 h => ?_) (fun s74 h => ?_)
   ·refine (ACode_region ?_)
    refine kM 1 rfl ?_
    refine AOps_q 282 _ rfl rfl rfl (QOp_neq _ _ _ _ _ _ _ rfl rfl rfl) ?_
    refine kM 1 rfl ?_
    refine AOps_case 283 _ rfl (fun hb71 => ?_) (fun hb71 => ?_)
    ·have h := iteT hb71 h
     refine AOps_skip 284 rfl rfl rfl ?_
     refine AOps_skip 285 rfl rfl rfl ?_
     refine kM 2 rfl ?_
     refine AOps_skip 288 rfl rfl rfl ?_
     refine AOps_skip 289 rfl rfl rfl ?_
     refine AOps_skip 290 rfl rfl rfl ?_
     refine AOps_skip 291 rfl rfl rfl ?_
     refine kN 1 rfl ?_
     cases h
     exact Weak_keep 0 hm [0, 292] [] _ _ rfl rfl rfl
    have h := iteF hb71 h
    refine kM 1 rfl ?_
    refine AOps_q 285 _ rfl rfl rfl (QOp_neq _ _ _ _ _ _ _ rfl rfl rfl) ?_
    refine kM 2 rfl ?_
    refine AOps_case 287 _ rfl (fun hb72 => ?_) (fun hb72 => ?_)
    ·have h := iteT hb72 h
     refine AOps_skip 288 rfl rfl rfl ?_
     refine AOps_skip 289 rfl rfl rfl ?_
     refine AOps_skip 290 rfl rfl rfl ?_
     refine AOps_skip 291 rfl rfl rfl ?_
     refine kN 1 rfl ?_
     cases h
     exact Weak_keep 0 hm [0, 292] [] _ _ rfl rfl rfl
    have h := iteF hb72 h
    refine kM 2 rfl ?_
    obtain ⟨r73, hr73, h⟩ := bindO h
    refine kC [] 290 (bV r73) [] rfl Tryz.call32 rfl rfl (laws_likeInts_ac k r69.1 r70.1 _ hr73) rfl ?_
    refine AOps_q 291 _ rfl rfl rfl (QOp_not _ _ _ rfl rfl) ?_
    refine kN 1 rfl ?_
    cases h
    exact Weak_keep 0 hm [0, 292] [] _ _ rfl rfl rfl
   refine kI h rfl (fun h _ => ?_) (fun h _ => ?_)
   ·refine kR ?_
    refine kN 1 rfl ?_
    refine ACode_ret ?_
    cases h
    have h := hks76
    cases h
    exact ⟨_, _, fun r a w h => ⟨r, h⟩, _, _, [], _, (.cons (ResV_tmp _ _ rfl) .nil), rfl, rfl, rfl, rfl, rfl⟩
   refine ACode_skip ?_
   cases h
   exact ⟨_, rfl, Weak_keep 0 hm [0] [] _ _ rfl rfl rfl⟩
  refine ACode_skip ?_
  cases h
  exact ⟨_, rfl, Weak_keep 0 hm [0] [] _ _ rfl rfl rfl⟩
 refine kR ?_
 refine kM 1 rfl ?_
 obtain ⟨r77, hr77, h⟩ := bindO h
 refine kC [] 295 (.tup [iV r77.1, .vec 0 0]) [.vec 0 (intsD r77.2)] rfl Tryz.call55 rfl rfl (spec_DrawLeastPosition_ac k p0 _ hr77) rfl ?_
 refine kN 5 rfl ?_
 refine kR ?_
 refine kM 2 rfl ?_
 refine AOps_freezeL [44, 297, 300] 0 0 _ (allc (rfl) (allc (rfl) (allc (rfl) (fun _ h => nomatch h)))) rfl ?_
 obtain ⟨r78, hr78, h⟩ := bindO h
 refine kC [] 301 (.tup [.d (.sl none (intsD r78.1)), iV r78.2]) [.gone] rfl Tryz.call51 rfl rfl (impl_LeastPosition_ac k r77.1 r77.2 _ hr78) rfl ?_
 refine kN 5 rfl ?_
 refine kR ?_
 refine kM 2 rfl ?_
 obtain ⟨r79, hr79, h⟩ := bindO h
 refine kC [] 307 (.tup [.d (.sl none (intsD r79.1)), iV r79.2]) [.gone] rfl Tryz.call56 rfl rfl (spec_LeastPosition_ac k r77.1 r77.2 _ hr79) rfl ?_
 refine kN 5 rfl ?_
 refine kB (fun s82 => [(2, bV s82)]) (fun s82 => []) h (fun s82 h => ?_) (fun s82 h => ?_)
 ·refine (ACode_region ?_)
  refine kM 2 rfl ?_
  refine AOps_q 312 _ rfl rfl rfl (QOp_eql _ _ _ _ _ _ _ rfl rfl rfl) ?_
  refine kM 1 rfl ?_
  refine AOps_case 313 _ rfl (fun hb80 => ?_) (fun hb80 => ?_)
  ·have h := iteT hb80 h
   refine kM 2 rfl ?_
   obtain ⟨r81, hr81, h⟩ := bindO h
   refine kC [] 316 (bV r81) [.gone] rfl Tryz.call32 rfl rfl (laws_likeInts_ac k r78.1 r79.1 _ hr81) rfl ?_
   refine kN 2 rfl ?_
   cases h
   exact Weak_keep 0 hm [2] [] _ _ rfl rfl rfl
  have h := iteF hb80 h
  refine AOps_skip 314 rfl rfl rfl ?_
  refine AOps_skip 315 rfl rfl rfl ?_
  refine AOps_skip 316 rfl rfl rfl ?_
  refine kN 2 rfl ?_
  cases h
  exact Weak_keep 0 hm [2] [] _ _ rfl rfl rfl
 refine ACode_ret ?_
 cases h
 exact ⟨_, _, fun r a w h => ⟨r, h⟩, _, _, [], _, (.cons (ResV_tmp _ _ rfl) .nil), rfl, rfl, rfl, rfl, rfl⟩

end Go.Proofs.YtghhnpdhehjlaaaGreat
