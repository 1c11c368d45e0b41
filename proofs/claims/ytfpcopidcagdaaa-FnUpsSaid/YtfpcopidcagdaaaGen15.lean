/- Plain functions of the program and that the program computes them: printed by the own tool gen.py. No conditions. -/
import Derived.Test.YtfpcopidcagdaaaGen15d
set_option linter.unusedVariables false
set_option linter.unusedSimpArgs false
namespace Go.Proofs.Ytfpcopidcagdaaa
open Go Go.RowKit Ab

-- loop.example/g01362/laws.FnUps
def laws_FnUps_l0 (r11 : Option (List Int) × Int) : Nat → Int → Int → Option (Int)
  | 0, _, _ => none
  | k0 + 1, x64, x65 => (if decide (x65 < ((r11.1.getD []).length : Int)) then (if 0 ≤ x65 ∧ x65 < ((r11.1.getD []).length : Int) then laws_FnUps_l0 r11 k0 (if x64 < ((r11.1.getD []).getD x65.toNat 0) then ((r11.1.getD []).getD x65.toNat 0) else x64) (w64 (x65 + 1)) else none) else some x64)
def laws_FnUps_l1 (k : Nat) (r3 : Col × Int) (r4 : Option (List Int) × Int) : Nat → Int → Option (Sum (Unit) (Bool))
  | 0, _ => none
  | k1 + 1, x69 => (if decide (w64 (x69 + 1) < ((r4.1.getD []).length : Int)) then ((if 0 ≤ x69 ∧ x69 < ((r4.1.getD []).length : Int) then (if 0 ≤ w64 (x69 + 1) ∧ w64 (x69 + 1) < ((r4.1.getD []).length : Int) then (impl_ColourOf k r3.1 ((r4.1.getD []).getD x69.toNat 0) ((r4.1.getD []).getD (w64 (x69 + 1)).toNat 0)).bind fun r73 => ((if !decide (r73.2 = 0) then some true else (if !decide (r73.1 = r3.2) then some true else (if 0 ≤ x69 ∧ x69 < ((r4.1.getD []).length : Int) then (if 0 ≤ w64 (x69 + 1) ∧ w64 (x69 + 1) < ((r4.1.getD []).length : Int) then some (decide (((r4.1.getD []).getD (w64 (x69 + 1)).toNat 0) ≤ ((r4.1.getD []).getD x69.toNat 0))) else none) else none))) : Option (Bool)).bind fun s78 => (if s78 then (some (.inr false)).bind fun rr => some (.inr rr) else some (.inl ())) else none) else none) : Option (Sum (Unit) (Sum (Unit) (Bool)))).bind fun os80 => (match os80 with | .inl s80 => laws_FnUps_l1 k r3 r4 k1 (w64 (x69 + 1)) | .inr rr => some rr) else some (.inl ()))
def laws_FnUps (k : Nat) (p0 : List UInt8) : Option (Bool) :=
  (if (laws_big p0) then some true else (spec_DrawLongestUp k p0).bind fun r3 => (impl_LongestUp k r3.1 r3.2).bind fun r4 => ((spec_LongestUp k r3.1 r3.2).bind fun r5 => ((if !decide (r4.2 = r5.2) then some true else (laws_likeInts k (r4.1.getD []) r5.1).bind fun r7 => some (!r7)) : Option (Bool)).bind fun s8 => (if s8 then some (.inr false) else some (.inl ())) : Option (Sum (Unit) (Bool))).bind fun os10 => (match os10 with | .inl s10 => (impl_UpLengths k r3.1 r3.2).bind fun r11 => ((spec_UpLengths k r3.1 r3.2).bind fun r12 => ((if !decide (r11.2 = r12.2) then some true else (laws_likeInts k (r11.1.getD []) r12.1).bind fun r14 => some (!r14)) : Option (Bool)).bind fun s15 => (if s15 then some (.inr false) else some (.inl ())) : Option (Sum (Unit) (Bool))).bind fun os17 => (match os17 with | .inl s17 => (impl_IsClosedColour k r3.1 r3.2).bind fun r18 => ((spec_IsClosedColour k r3.1 r3.2).bind fun r19 => letO (if !decide (r18.2 = r19.2) then true else !(r18.1 == r19.1)) fun (s21 : Bool) => (if s21 then some (.inr false) else some (.inl ())) : Option (Sum (Unit) (Bool))).bind fun os23 => (match os23 with | .inl s23 => (spec_DrawSequenceColouring k p0).bind fun r24 => (impl_SequenceColouring k r24).bind fun r25 => ((spec_SequenceColouring k r24).bind fun r26 => letO (if !decide (r25.2 = r26.2) then true else !(r25.1.eqb r26.1)) fun (s28 : Bool) => (if s28 then some (.inr false) else some (.inl ())) : Option (Sum (Unit) (Bool))).bind fun os30 => (match os30 with | .inl s30 => (spec_DrawOrderOf k p0).bind fun r31 => (impl_OrderOf k r31).bind fun r32 => ((spec_OrderOf k r31).bind fun r33 => ((if !decide (r32.2 = r33.2) then some true else (laws_likeInts k (r32.1.getD []) r33.1).bind fun r35 => some (!r35)) : Option (Bool)).bind fun s36 => (if s36 then some (.inr false) else some (.inl ())) : Option (Sum (Unit) (Bool))).bind fun os38 => (match os38 with | .inl s38 => ((if decide (r32.2 = 0) then (impl_SequenceColouring k (r32.1.getD [])).bind fun r40 => letO (if !decide (r40.2 = 0) then true else !(r40.1.eqb r31)) fun (s42 : Bool) => (if s42 then some (.inr false) else some (.inl ())) else some (.inl ())) : Option (Sum (Unit) (Bool))).bind fun os44 => (match os44 with | .inl s44 => ((if decide (r25.2 = 0) then (impl_IsClosedColour k r25.1 0).bind fun r46 => (impl_IsClosedColour k r25.1 1).bind fun r47 => (impl_LongestUp k r25.1 0).bind fun r48 => (impl_LongestUp k r25.1 1).bind fun r49 => letO (if !decide (r46.2 = 0) then true else (if !r46.1 then true else (if !decide (r47.2 = 0) then true else (if !r47.1 then true else (if !decide (r48.2 = 0) then true else (if !decide (r49.2 = 0) then true else (if !decide ((impl_ErdosNumber (w64 (((r48.1.getD []).length : Int) + 1)) (w64 (((r49.1.getD []).length : Int) + 1))).2 = 0) then true else decide ((impl_ErdosNumber (w64 (((r48.1.getD []).length : Int) + 1)) (w64 (((r49.1.getD []).length : Int) + 1))).1 ≤ r25.1.p)))))))) fun (s58 : Bool) => (if s58 then some (.inr false) else some (.inl ())) else some (.inl ())) : Option (Sum (Unit) (Bool))).bind fun os60 => (match os60 with | .inl s60 => (if !decide (r4.2 = 0) then letO (if decide (((r4.1.getD []).length : Int) = 0) then decide (r11.2 = r4.2) else false) fun (s63 : Bool) => some s63 else (laws_FnUps_l0 r11 k 0 0 : Option (Int)).bind fun s68 => (laws_FnUps_l1 k r3 r4 k 0 : Option (Sum (Unit) (Bool))).bind fun os81 => (match os81 with | .inl s81 => ((if r18.1 then (impl_IsClique k r3.1 r3.2 (r4.1.getD [])).bind fun r83 => letO (if !decide (r83.2 = 0) then true else !r83.1) fun (s85 : Bool) => (if s85 then some (.inr false) else some (.inl ())) else some (.inl ())) : Option (Sum (Unit) (Bool))).bind fun os87 => (match os87 with | .inl s87 => letO (if decide (r11.2 = 0) then (if decide (r18.2 = 0) then decide (((r4.1.getD []).length : Int) = s68) else false) else false) fun (s90 : Bool) => some s90 | .inr rr => some rr) | .inr rr => some rr)) | .inr rr => some rr) | .inr rr => some rr) | .inr rr => some rr) | .inr rr => some rr) | .inr rr => some rr) | .inr rr => some rr) | .inr rr => some rr))
set_option maxRecDepth 100000 in
theorem laws_FnUps_ac (k : Nat) (p0 : List UInt8) (r : Bool) (h : laws_FnUps k p0 = some r) : AC Try.prog 3 [.d (.sl none (bysD p0))] [] (fun res H' => res = [bV r] ∧ H' = []) := by
  refine AC_of_body true Try.func3 rfl Try.ntmps3 (rvs := [.tmp 2]) rfl rfl (fun G hG => ?_)
  have hm : G.H.length = 0 := by rw [hG]; rfl
  have hz : zeroG G.H = true := by rw [hG]; rfl
  unfold laws_FnUps at h
  refine ACode_seq (ACode_region ?_)
  refine AOps_q 2 _ rfl rfl rfl (QOp_assign _ _ rfl rfl) ?_
  refine AOps_nil ?_
  refine ACode_seq ?_
  refine ACode_seq (ACode_region ?_)
  refine AOps_q 46 _ rfl rfl rfl (QOp_move _ _ rfl rfl) ?_
  refine AOps_call [] 47 _ _ _ _ _ _ _ _ _ _ rfl rfl rfl rfl rfl rfl rfl Try.call6 rfl (nodupB_sound _ rfl) rfl rfl rfl (laws_big_ac p0) ?_
  rintro _ _ ⟨rfl, rfl⟩
  refine ⟨(fun _ h => nomatch h), (allc (trivial) (fun _ h => nomatch h)), AOps_as 47 (v' := bV (laws_big p0)) (H' := []) rfl rfl ?_⟩
  refine AOps_nil ?_
  refine ACode_cond _ rfl (fun hb2 => ?_) (fun hb2 => ?_)
  · have h := iteT hb2 h
    refine ACode_seq (ACode_region ?_)
    refine AOps_q 2 _ rfl rfl rfl (QOp_assign _ _ rfl rfl) ?_
    refine AOps_nil ?_
    refine ACode_ret ?_
    cases h
    exact ⟨_, _, fun r a w h => ⟨r, h⟩, _, _, [], _, (.cons (ResV_tmp _ _ rfl) .nil), rfl, rfl, rfl, rfl, rfl⟩
  · have h := iteF hb2 h
    refine ACode_skip ?_
    refine ACode_seq (ACode_region ?_)
    refine AOps_q 49 _ rfl rfl rfl (QOp_move _ _ rfl rfl) ?_
    obtain ⟨r3, hr3, h⟩ := bindO h
    refine AOps_call [] 50 _ _ _ _ _ _ _ _ _ _ rfl rfl rfl rfl rfl rfl rfl Try.call7 rfl (nodupB_sound _ rfl) rfl rfl rfl (spec_DrawLongestUp_ac k p0 _ hr3) ?_
    rintro _ _ ⟨rfl, rfl⟩
    refine ⟨(fun _ h => nomatch h), (allc (trivial) (allc (trivial) (fun _ h => nomatch h))), AOps_as 50 (v' := .tup [.d (.agg (colD r3.1)), iV r3.2]) (H' := []) rfl rfl ?_⟩
    refine AOps_q 48 _ rfl rfl rfl (QOp_move _ _ rfl rfl) ?_
    refine AOps_q 51 _ rfl rfl rfl (QOp_extract _ _ _ _ rfl rfl rfl) ?_
    refine AOps_q 52 _ rfl rfl rfl (QOp_extract _ _ _ _ rfl rfl rfl) ?_
    refine AOps_alloc 3 _ _ (colD Col.zero) (zero_of Try.typeInfo26 rfl) (by rfl) rfl rfl rfl rfl ?_
    refine AOps_store _ _ _ _ _ _ (colD _) _ _ rfl rfl rfl rfl rfl rfl rfl (colD_one _) (by rw [colD_length]; exact Try.sizeOf26) (by rw [colD_length, colD_length]; decide) (colD_whole _ _) ?_
    refine AOps_q 4 _ rfl rfl rfl (QOp_assign _ _ rfl rfl) ?_
    refine AOps_nil ?_
    refine ACode_seq (ACode_region ?_)
    refine AOps_q 54 _ rfl rfl rfl (QOp_loadN_ptr _ _ _ _ _ _ _ rfl Try.isAgg26 Try.sizeOf26 rfl rfl (colD_all _) (colD_length _)) ?_
    refine AOps_q 55 _ rfl rfl rfl (QOp_move _ _ rfl rfl) ?_
    obtain ⟨r4, hr4, h⟩ := bindO h
    refine AOps_call [] 56 _ _ _ _ _ _ _ _ _ _ rfl rfl rfl rfl rfl rfl rfl Try.call8 rfl (nodupB_sound _ rfl) rfl rfl rfl (AC_frz rfl (frz_cons frz_nil) (impl_LongestUp_ac k r3.1 r3.2 _ hr4)) ?_
    rintro _ _ ⟨rfl, rfl⟩
    refine ⟨(fun _ h => nomatch h), (allc (trivial) (allc (trivial) (fun _ h => nomatch h))), AOps_as 56 (v' := .tup [.d (.sl none (intsD (r4.1.getD []))), iV r4.2]) (H' := [.box (colD r3.1)]) rfl rfl ?_⟩
    refine AOps_q 53 _ rfl rfl rfl (QOp_move _ _ rfl rfl) ?_
    refine AOps_q 57 _ rfl rfl rfl (QOp_extract _ _ _ _ rfl rfl rfl) ?_
    refine AOps_q 58 _ rfl rfl rfl (QOp_extract _ _ _ _ rfl rfl rfl) ?_
    refine AOps_q 5 _ rfl rfl rfl (QOp_assign _ _ rfl rfl) ?_
    refine AOps_q 6 _ rfl rfl rfl (QOp_assign _ _ rfl rfl) ?_
    refine AOps_nil ?_
    obtain ⟨os10, hss10, hks10⟩ := bindO h
    clear h
    refine ACode_seqJ (fun E' H' => ∃ s10 : Unit, os10 = .inl s10 ∧ Weak 322 G E' H' [(0, .d (.sl none (bysD p0))), (3, .ptr 0 0), (4, iV r3.2), (5, .d (.sl none (intsD (r4.1.getD [])))), (6, iV r4.2)] [.box (colD r3.1)]) ?_ ?_
    · have h := hss10
      clear hss10
      refine ACode_seq (ACode_region ?_)
      refine AOps_q 60 _ rfl rfl rfl (QOp_loadN_ptr _ _ _ _ _ _ _ rfl Try.isAgg26 Try.sizeOf26 rfl rfl (colD_all _) (colD_length _)) ?_
      refine AOps_q 61 _ rfl rfl rfl (QOp_move _ _ rfl rfl) ?_
      obtain ⟨r5, hr5, h⟩ := bindO h
      refine AOps_call [] 62 _ _ _ _ _ _ _ _ _ _ rfl rfl rfl rfl rfl rfl rfl Try.call9 rfl (nodupB_sound _ rfl) rfl rfl rfl (spec_LongestUp_ac k r3.1 r3.2 _ hr5) ?_
      rintro _ _ ⟨rfl, rfl⟩
      refine ⟨(fun _ h => nomatch h), (allc (trivial) (allc (trivial) (fun _ h => nomatch h))), AOps_as 62 (v' := .tup [.d (.sl none (intsD r5.1)), iV r5.2]) (H' := [.box (colD r3.1)]) rfl rfl ?_⟩
      refine AOps_q 59 _ rfl rfl rfl (QOp_move _ _ rfl rfl) ?_
      refine AOps_q 63 _ rfl rfl rfl (QOp_extract _ _ _ _ rfl rfl rfl) ?_
      refine AOps_q 64 _ rfl rfl rfl (QOp_extract _ _ _ _ rfl rfl rfl) ?_
      refine AOps_q 7 _ rfl rfl rfl (QOp_assign _ _ rfl rfl) ?_
      refine AOps_q 8 _ rfl rfl rfl (QOp_assign _ _ rfl rfl) ?_
      refine AOps_nil ?_
      obtain ⟨s8, hss8, hks8⟩ := bindO h
      clear h
      refine ACode_seqJ (fun E' H' => Weak 322 G E' H' [(0, .d (.sl none (bysD p0))), (3, .ptr 0 0), (4, iV r3.2), (5, .d (.sl none (intsD (r4.1.getD [])))), (6, iV r4.2), (73, bV s8)] [.box (colD r3.1)]) ?_ ?_
      · have h := hss8
        clear hss8
        refine (ACode_region ?_)
        refine AOps_q 65 _ rfl rfl rfl (QOp_move _ _ rfl rfl) ?_
        refine AOps_q 66 _ rfl rfl rfl (QOp_move _ _ rfl rfl) ?_
        refine AOps_q 67 _ rfl rfl rfl (QOp_neq _ _ _ _ _ _ _ rfl rfl rfl) ?_
        refine AOps_q 68 _ rfl rfl rfl (QOp_move _ _ rfl rfl) ?_
        refine AOps_case 68 _ rfl (fun hb6 => ?_) (fun hb6 => ?_)
        · have h := iteT hb6 h
          refine AOps_skip 69 rfl rfl rfl ?_
          refine AOps_skip 70 rfl rfl rfl ?_
          refine AOps_skip 71 rfl rfl rfl ?_
          refine AOps_skip 72 rfl rfl rfl ?_
          refine AOps_q 73 _ rfl rfl rfl (QOp_pick_t _ _ _ _ rfl rfl rfl) ?_
          refine AOps_nil ?_
          cases h
          exact Weak_keep 0 hm [0, 3, 4, 5, 6, 73] [0] _ _ rfl rfl rfl
        · have h := iteF hb6 h
          refine AOps_q 69 _ rfl rfl rfl (QOp_move _ _ rfl rfl) ?_
          refine AOps_q 70 _ rfl rfl rfl (QOp_move _ _ rfl rfl) ?_
          obtain ⟨r7, hr7, h⟩ := bindO h
          refine AOps_call [] 71 _ _ _ _ _ _ _ _ _ _ rfl rfl rfl rfl rfl rfl rfl Try.call10 rfl (nodupB_sound _ rfl) rfl rfl rfl (laws_likeInts_ac k (r4.1.getD []) r5.1 _ hr7) ?_
          rintro _ _ ⟨rfl, rfl⟩
          refine ⟨(fun _ h => nomatch h), (allc (trivial) (fun _ h => nomatch h)), AOps_as 71 (v' := bV r7) (H' := [.box (colD r3.1)]) rfl rfl ?_⟩
          refine AOps_q 72 _ rfl rfl rfl (QOp_not _ _ _ rfl rfl) ?_
          refine AOps_q 73 _ rfl rfl rfl (QOp_pick_f _ _ _ _ rfl rfl rfl) ?_
          refine AOps_nil ?_
          cases h
          exact Weak_keep 0 hm [0, 3, 4, 5, 6, 73] [0] _ _ rfl rfl rfl
      intro E' H' hw
      refine ACode_weak hw ?_
      have h := hks8
      refine ACode_cond _ rfl (fun hb9 => ?_) (fun hb9 => ?_)
      · have h := iteT hb9 h
        refine ACode_seq (ACode_region ?_)
        refine AOps_q 2 _ rfl rfl rfl (QOp_assign _ _ rfl rfl) ?_
        refine AOps_nil ?_
        refine ACode_ret ?_
        cases h
        have h := hks10
        cases h
        exact ⟨_, _, fun r a w h => ⟨r, h⟩, _, _, [], _, (.cons (ResV_tmp _ _ rfl) .nil), rfl, rfl, rfl, rfl, rfl⟩
      · have h := iteF hb9 h
        refine ACode_skip ?_
        cases h
        exact ⟨_, rfl, Weak_keep 0 hm [0, 3, 4, 5, 6] [0] _ _ rfl rfl rfl⟩
    rintro E' H' ⟨s10, rfl, hw⟩
    refine ACode_weak hw ?_
    have h := hks10
    refine ACode_seq (ACode_region ?_)
    refine AOps_q 75 _ rfl rfl rfl (QOp_loadN_ptr _ _ _ _ _ _ _ rfl Try.isAgg26 Try.sizeOf26 rfl rfl (colD_all _) (colD_length _)) ?_
    refine AOps_q 76 _ rfl rfl rfl (QOp_move _ _ rfl rfl) ?_
    obtain ⟨r11, hr11, h⟩ := bindO h
    refine AOps_call [] 77 _ _ _ _ _ _ _ _ _ _ rfl rfl rfl rfl rfl rfl rfl Try.call11 rfl (nodupB_sound _ rfl) rfl rfl rfl (AC_frz rfl (frz_cons frz_nil) (impl_UpLengths_ac k r3.1 r3.2 _ hr11)) ?_
    rintro _ _ ⟨rfl, rfl⟩
    refine ⟨(fun _ h => nomatch h), (allc (trivial) (allc (trivial) (fun _ h => nomatch h))), AOps_as 77 (v' := .tup [.d (.sl none (intsD (r11.1.getD []))), iV r11.2]) (H' := [.box (colD r3.1)]) rfl rfl ?_⟩
    refine AOps_q 74 _ rfl rfl rfl (QOp_move _ _ rfl rfl) ?_
    refine AOps_q 78 _ rfl rfl rfl (QOp_extract _ _ _ _ rfl rfl rfl) ?_
    refine AOps_q 79 _ rfl rfl rfl (QOp_extract _ _ _ _ rfl rfl rfl) ?_
    refine AOps_q 9 _ rfl rfl rfl (QOp_assign _ _ rfl rfl) ?_
    refine AOps_q 10 _ rfl rfl rfl (QOp_assign _ _ rfl rfl) ?_
    refine AOps_nil ?_
    obtain ⟨os17, hss17, hks17⟩ := bindO h
    clear h
    refine ACode_seqJ (fun E' H' => ∃ s17 : Unit, os17 = .inl s17 ∧ Weak 322 G E' H' [(0, .d (.sl none (bysD p0))), (3, .ptr 0 0), (4, iV r3.2), (5, .d (.sl none (intsD (r4.1.getD [])))), (6, iV r4.2), (9, .d (.sl none (intsD (r11.1.getD [])))), (10, iV r11.2)] [.box (colD r3.1)]) ?_ ?_
    · have h := hss17
      clear hss17
      refine ACode_seq (ACode_region ?_)
      refine AOps_q 81 _ rfl rfl rfl (QOp_loadN_ptr _ _ _ _ _ _ _ rfl Try.isAgg26 Try.sizeOf26 rfl rfl (colD_all _) (colD_length _)) ?_
      refine AOps_q 82 _ rfl rfl rfl (QOp_move _ _ rfl rfl) ?_
      obtain ⟨r12, hr12, h⟩ := bindO h
      refine AOps_call [] 83 _ _ _ _ _ _ _ _ _ _ rfl rfl rfl rfl rfl rfl rfl Try.call12 rfl (nodupB_sound _ rfl) rfl rfl rfl (spec_UpLengths_ac k r3.1 r3.2 _ hr12) ?_
      rintro _ _ ⟨rfl, rfl⟩
      refine ⟨(fun _ h => nomatch h), (allc (trivial) (allc (trivial) (fun _ h => nomatch h))), AOps_as 83 (v' := .tup [.d (.sl none (intsD r12.1)), iV r12.2]) (H' := [.box (colD r3.1)]) rfl rfl ?_⟩
      refine AOps_q 80 _ rfl rfl rfl (QOp_move _ _ rfl rfl) ?_
      refine AOps_q 84 _ rfl rfl rfl (QOp_extract _ _ _ _ rfl rfl rfl) ?_
      refine AOps_q 85 _ rfl rfl rfl (QOp_extract _ _ _ _ rfl rfl rfl) ?_
      refine AOps_q 11 _ rfl rfl rfl (QOp_assign _ _ rfl rfl) ?_
      refine AOps_q 12 _ rfl rfl rfl (QOp_assign _ _ rfl rfl) ?_
      refine AOps_nil ?_
      obtain ⟨s15, hss15, hks15⟩ := bindO h
      clear h
      refine ACode_seqJ (fun E' H' => Weak 322 G E' H' [(0, .d (.sl none (bysD p0))), (3, .ptr 0 0), (4, iV r3.2), (5, .d (.sl none (intsD (r4.1.getD [])))), (6, iV r4.2), (9, .d (.sl none (intsD (r11.1.getD [])))), (10, iV r11.2), (94, bV s15)] [.box (colD r3.1)]) ?_ ?_
      · have h := hss15
        clear hss15
        refine (ACode_region ?_)
        refine AOps_q 86 _ rfl rfl rfl (QOp_move _ _ rfl rfl) ?_
        refine AOps_q 87 _ rfl rfl rfl (QOp_move _ _ rfl rfl) ?_
        refine AOps_q 88 _ rfl rfl rfl (QOp_neq _ _ _ _ _ _ _ rfl rfl rfl) ?_
        refine AOps_q 89 _ rfl rfl rfl (QOp_move _ _ rfl rfl) ?_
        refine AOps_case 89 _ rfl (fun hb13 => ?_) (fun hb13 => ?_)
        · have h := iteT hb13 h
          refine AOps_skip 90 rfl rfl rfl ?_
          refine AOps_skip 91 rfl rfl rfl ?_
          refine AOps_skip 92 rfl rfl rfl ?_
          refine AOps_skip 93 rfl rfl rfl ?_
          refine AOps_q 94 _ rfl rfl rfl (QOp_pick_t _ _ _ _ rfl rfl rfl) ?_
          refine AOps_nil ?_
          cases h
          exact Weak_keep 0 hm [0, 3, 4, 5, 6, 9, 10, 94] [0] _ _ rfl rfl rfl
        · have h := iteF hb13 h
          refine AOps_q 90 _ rfl rfl rfl (QOp_move _ _ rfl rfl) ?_
          refine AOps_q 91 _ rfl rfl rfl (QOp_move _ _ rfl rfl) ?_
          obtain ⟨r14, hr14, h⟩ := bindO h
          refine AOps_call [] 92 _ _ _ _ _ _ _ _ _ _ rfl rfl rfl rfl rfl rfl rfl Try.call10 rfl (nodupB_sound _ rfl) rfl rfl rfl (laws_likeInts_ac k (r11.1.getD []) r12.1 _ hr14) ?_
          rintro _ _ ⟨rfl, rfl⟩
          refine ⟨(fun _ h => nomatch h), (allc (trivial) (fun _ h => nomatch h)), AOps_as 92 (v' := bV r14) (H' := [.box (colD r3.1)]) rfl rfl ?_⟩
          refine AOps_q 93 _ rfl rfl rfl (QOp_not _ _ _ rfl rfl) ?_
          refine AOps_q 94 _ rfl rfl rfl (QOp_pick_f _ _ _ _ rfl rfl rfl) ?_
          refine AOps_nil ?_
          cases h
          exact Weak_keep 0 hm [0, 3, 4, 5, 6, 9, 10, 94] [0] _ _ rfl rfl rfl
      intro E' H' hw
      refine ACode_weak hw ?_
      have h := hks15
      refine ACode_cond _ rfl (fun hb16 => ?_) (fun hb16 => ?_)
      · have h := iteT hb16 h
        refine ACode_seq (ACode_region ?_)
        refine AOps_q 2 _ rfl rfl rfl (QOp_assign _ _ rfl rfl) ?_
        refine AOps_nil ?_
        refine ACode_ret ?_
        cases h
        have h := hks17
        cases h
        exact ⟨_, _, fun r a w h => ⟨r, h⟩, _, _, [], _, (.cons (ResV_tmp _ _ rfl) .nil), rfl, rfl, rfl, rfl, rfl⟩
      · have h := iteF hb16 h
        refine ACode_skip ?_
        cases h
        exact ⟨_, rfl, Weak_keep 0 hm [0, 3, 4, 5, 6, 9, 10] [0] _ _ rfl rfl rfl⟩
    rintro E' H' ⟨s17, rfl, hw⟩
    refine ACode_weak hw ?_
    have h := hks17
    refine ACode_seq (ACode_region ?_)
    refine AOps_q 96 _ rfl rfl rfl (QOp_loadN_ptr _ _ _ _ _ _ _ rfl Try.isAgg26 Try.sizeOf26 rfl rfl (colD_all _) (colD_length _)) ?_
    refine AOps_q 97 _ rfl rfl rfl (QOp_move _ _ rfl rfl) ?_
    obtain ⟨r18, hr18, h⟩ := bindO h
    refine AOps_call [] 98 _ _ _ _ _ _ _ _ _ _ rfl rfl rfl rfl rfl rfl rfl Try.call13 rfl (nodupB_sound _ rfl) rfl rfl rfl (impl_IsClosedColour_ac k r3.1 r3.2 _ hr18) ?_
    rintro _ _ ⟨rfl, rfl⟩
    refine ⟨(fun _ h => nomatch h), (allc (trivial) (allc (trivial) (fun _ h => nomatch h))), AOps_as 98 (v' := .tup [bV r18.1, iV r18.2]) (H' := [.box (colD r3.1)]) rfl rfl ?_⟩
    refine AOps_q 95 _ rfl rfl rfl (QOp_move _ _ rfl rfl) ?_
    refine AOps_q 99 _ rfl rfl rfl (QOp_extract _ _ _ _ rfl rfl rfl) ?_
    refine AOps_q 100 _ rfl rfl rfl (QOp_extract _ _ _ _ rfl rfl rfl) ?_
    refine AOps_q 13 _ rfl rfl rfl (QOp_assign _ _ rfl rfl) ?_
    refine AOps_q 14 _ rfl rfl rfl (QOp_assign _ _ rfl rfl) ?_
    refine AOps_nil ?_
    obtain ⟨os23, hss23, hks23⟩ := bindO h
    clear h
    refine ACode_seqJ (fun E' H' => ∃ s23 : Unit, os23 = .inl s23 ∧ Weak 322 G E' H' [(0, .d (.sl none (bysD p0))), (3, .ptr 0 0), (4, iV r3.2), (5, .d (.sl none (intsD (r4.1.getD [])))), (6, iV r4.2), (9, .d (.sl none (intsD (r11.1.getD [])))), (10, iV r11.2), (13, bV r18.1), (14, iV r18.2)] [.box (colD r3.1)]) ?_ ?_
    · have h := hss23
      clear hss23
      refine ACode_seq (ACode_region ?_)
      refine AOps_q 102 _ rfl rfl rfl (QOp_loadN_ptr _ _ _ _ _ _ _ rfl Try.isAgg26 Try.sizeOf26 rfl rfl (colD_all _) (colD_length _)) ?_
      refine AOps_q 103 _ rfl rfl rfl (QOp_move _ _ rfl rfl) ?_
      obtain ⟨r19, hr19, h⟩ := bindO h
      refine AOps_call [] 104 _ _ _ _ _ _ _ _ _ _ rfl rfl rfl rfl rfl rfl rfl Try.call14 rfl (nodupB_sound _ rfl) rfl rfl rfl (spec_IsClosedColour_ac k r3.1 r3.2 _ hr19) ?_
      rintro _ _ ⟨rfl, rfl⟩
      refine ⟨(fun _ h => nomatch h), (allc (trivial) (allc (trivial) (fun _ h => nomatch h))), AOps_as 104 (v' := .tup [bV r19.1, iV r19.2]) (H' := [.box (colD r3.1)]) rfl rfl ?_⟩
      refine AOps_q 101 _ rfl rfl rfl (QOp_move _ _ rfl rfl) ?_
      refine AOps_q 105 _ rfl rfl rfl (QOp_extract _ _ _ _ rfl rfl rfl) ?_
      refine AOps_q 106 _ rfl rfl rfl (QOp_extract _ _ _ _ rfl rfl rfl) ?_
      refine AOps_q 15 _ rfl rfl rfl (QOp_assign _ _ rfl rfl) ?_
      refine AOps_q 16 _ rfl rfl rfl (QOp_assign _ _ rfl rfl) ?_
      refine AOps_nil ?_
      obtain ⟨s21, hss21, hks21⟩ := letS h
      clear h
      refine ACode_seqJ (fun E' H' => Weak 322 G E' H' [(0, .d (.sl none (bysD p0))), (3, .ptr 0 0), (4, iV r3.2), (5, .d (.sl none (intsD (r4.1.getD [])))), (6, iV r4.2), (9, .d (.sl none (intsD (r11.1.getD [])))), (10, iV r11.2), (13, bV r18.1), (14, iV r18.2), (114, bV s21)] [.box (colD r3.1)]) ?_ ?_
      · have h := hss21
        clear hss21
        refine (ACode_region ?_)
        refine AOps_q 107 _ rfl rfl rfl (QOp_move _ _ rfl rfl) ?_
        refine AOps_q 108 _ rfl rfl rfl (QOp_move _ _ rfl rfl) ?_
        refine AOps_q 109 _ rfl rfl rfl (QOp_neq _ _ _ _ _ _ _ rfl rfl rfl) ?_
        refine AOps_q 110 _ rfl rfl rfl (QOp_move _ _ rfl rfl) ?_
        refine AOps_case 110 _ rfl (fun hb20 => ?_) (fun hb20 => ?_)
        · have h := iteT hb20 h
          refine AOps_skip 111 rfl rfl rfl ?_
          refine AOps_skip 112 rfl rfl rfl ?_
          refine AOps_skip 113 rfl rfl rfl ?_
          refine AOps_q 114 _ rfl rfl rfl (QOp_pick_t _ _ _ _ rfl rfl rfl) ?_
          refine AOps_nil ?_
          cases h
          exact Weak_keep 0 hm [0, 3, 4, 5, 6, 9, 10, 13, 14, 114] [0] _ _ rfl rfl rfl
        · have h := iteF hb20 h
          refine AOps_q 111 _ rfl rfl rfl (QOp_move _ _ rfl rfl) ?_
          refine AOps_q 112 _ rfl rfl rfl (QOp_move _ _ rfl rfl) ?_
          refine AOps_q 113 _ rfl rfl rfl (QOp_bneq _ _ _ _ _ _ rfl rfl rfl Try.underlying4) ?_
          refine AOps_q 114 _ rfl rfl rfl (QOp_pick_f _ _ _ _ rfl rfl rfl) ?_
          refine AOps_nil ?_
          cases h
          exact Weak_keep 0 hm [0, 3, 4, 5, 6, 9, 10, 13, 14, 114] [0] _ _ rfl rfl rfl
      intro E' H' hw
      refine ACode_weak hw ?_
      have h := hks21
      refine ACode_cond _ rfl (fun hb22 => ?_) (fun hb22 => ?_)
      · have h := iteT hb22 h
        refine ACode_seq (ACode_region ?_)
        refine AOps_q 2 _ rfl rfl rfl (QOp_assign _ _ rfl rfl) ?_
        refine AOps_nil ?_
        refine ACode_ret ?_
        cases h
        have h := hks23
        cases h
        exact ⟨_, _, fun r a w h => ⟨r, h⟩, _, _, [], _, (.cons (ResV_tmp _ _ rfl) .nil), rfl, rfl, rfl, rfl, rfl⟩
      · have h := iteF hb22 h
        refine ACode_skip ?_
        cases h
        exact ⟨_, rfl, Weak_keep 0 hm [0, 3, 4, 5, 6, 9, 10, 13, 14] [0] _ _ rfl rfl rfl⟩
    rintro E' H' ⟨s23, rfl, hw⟩
    refine ACode_weak hw ?_
    have h := hks23
    refine ACode_seq (ACode_region ?_)
    refine AOps_q 115 _ rfl rfl rfl (QOp_move _ _ rfl rfl) ?_
    obtain ⟨r24, hr24, h⟩ := bindO h
    refine AOps_call [] 116 _ _ _ _ _ _ _ _ _ _ rfl rfl rfl rfl rfl rfl rfl Try.call15 rfl (nodupB_sound _ rfl) rfl rfl rfl (AC_frzV frz_nil (spec_DrawSequenceColouring_ac k p0 _ hr24)) ?_
    rintro _ _ ⟨rfl, rfl⟩
    refine ⟨(fun _ h => nomatch h), (allc (trivial) (fun _ h => nomatch h)), AOps_as 116 (v' := .d (.sl none (intsD r24))) (H' := [.box (colD r3.1)]) rfl rfl ?_⟩
    refine AOps_q 17 _ rfl rfl rfl (QOp_assign _ _ rfl rfl) ?_
    refine AOps_nil ?_
    refine ACode_seq (ACode_region ?_)
    refine AOps_q 118 _ rfl rfl rfl (QOp_move _ _ rfl rfl) ?_
    obtain ⟨r25, hr25, h⟩ := bindO h
    refine AOps_call [] 119 _ _ _ _ _ _ _ _ _ _ rfl rfl rfl rfl rfl rfl rfl Try.call16 rfl (nodupB_sound _ rfl) rfl rfl rfl (impl_SequenceColouring_ac k r24 _ hr25) ?_
    rintro _ _ ⟨rfl, rfl⟩
    refine ⟨(fun _ h => nomatch h), (allc (trivial) (allc (trivial) (fun _ h => nomatch h))), AOps_as 119 (v' := .tup [.d (.agg (colD r25.1)), iV r25.2]) (H' := [.box (colD r3.1)]) rfl rfl ?_⟩
    refine AOps_q 117 _ rfl rfl rfl (QOp_move _ _ rfl rfl) ?_
    refine AOps_q 120 _ rfl rfl rfl (QOp_extract _ _ _ _ rfl rfl rfl) ?_
    refine AOps_q 121 _ rfl rfl rfl (QOp_extract _ _ _ _ rfl rfl rfl) ?_
    refine AOps_alloc 18 _ _ (colD Col.zero) (zero_of Try.typeInfo26 rfl) (by rfl) rfl rfl rfl rfl ?_
    refine AOps_store _ _ _ _ _ _ (colD _) _ _ rfl rfl rfl rfl rfl rfl rfl (colD_one _) (by rw [colD_length]; exact Try.sizeOf26) (by rw [colD_length, colD_length]; decide) (colD_whole _ _) ?_
    refine AOps_q 19 _ rfl rfl rfl (QOp_assign _ _ rfl rfl) ?_
    refine AOps_nil ?_
    obtain ⟨os30, hss30, hks30⟩ := bindO h
    clear h
    refine ACode_seqJ (fun E' H' => ∃ s30 : Unit, os30 = .inl s30 ∧ Weak 322 G E' H' [(0, .d (.sl none (bysD p0))), (3, .ptr 0 0), (4, iV r3.2), (5, .d (.sl none (intsD (r4.1.getD [])))), (6, iV r4.2), (9, .d (.sl none (intsD (r11.1.getD [])))), (10, iV r11.2), (13, bV r18.1), (14, iV r18.2), (18, .ptr 1 0), (19, iV r25.2)] [.box (colD r3.1), .box (colD r25.1)]) ?_ ?_
    · have h := hss30
      clear hss30
      refine ACode_seq (ACode_region ?_)
      refine AOps_q 123 _ rfl rfl rfl (QOp_move _ _ rfl rfl) ?_
      obtain ⟨r26, hr26, h⟩ := bindO h
      refine AOps_call [] 124 _ _ _ _ _ _ _ _ _ _ rfl rfl rfl rfl rfl rfl rfl Try.call17 rfl (nodupB_sound _ rfl) rfl rfl rfl (spec_SequenceColouring_ac k r24 _ hr26) ?_
      rintro _ _ ⟨rfl, rfl⟩
      refine ⟨(fun _ h => nomatch h), (allc (trivial) (allc (trivial) (fun _ h => nomatch h))), AOps_as 124 (v' := .tup [.d (.agg (colD r26.1)), iV r26.2]) (H' := [.box (colD r3.1), .box (colD r25.1)]) rfl rfl ?_⟩
      refine AOps_q 122 _ rfl rfl rfl (QOp_move _ _ rfl rfl) ?_
      refine AOps_q 125 _ rfl rfl rfl (QOp_extract _ _ _ _ rfl rfl rfl) ?_
      refine AOps_q 126 _ rfl rfl rfl (QOp_extract _ _ _ _ rfl rfl rfl) ?_
      refine AOps_alloc 20 _ _ (colD Col.zero) (zero_of Try.typeInfo26 rfl) (by rfl) rfl rfl rfl rfl ?_
      refine AOps_store _ _ _ _ _ _ (colD _) _ _ rfl rfl rfl rfl rfl rfl rfl (colD_one _) (by rw [colD_length]; exact Try.sizeOf26) (by rw [colD_length, colD_length]; decide) (colD_whole _ _) ?_
      refine AOps_q 21 _ rfl rfl rfl (QOp_assign _ _ rfl rfl) ?_
      refine AOps_nil ?_
      obtain ⟨s28, hss28, hks28⟩ := letS h
      clear h
      refine ACode_seqJ (fun E' H' => Weak 322 G E' H' [(0, .d (.sl none (bysD p0))), (3, .ptr 0 0), (4, iV r3.2), (5, .d (.sl none (intsD (r4.1.getD [])))), (6, iV r4.2), (9, .d (.sl none (intsD (r11.1.getD [])))), (10, iV r11.2), (13, bV r18.1), (14, iV r18.2), (18, .ptr 1 0), (19, iV r25.2), (134, bV s28)] [.box (colD r3.1), .box (colD r25.1)]) ?_ ?_
      · have h := hss28
        clear hss28
        refine (ACode_region ?_)
        refine AOps_q 127 _ rfl rfl rfl (QOp_move _ _ rfl rfl) ?_
        refine AOps_q 128 _ rfl rfl rfl (QOp_move _ _ rfl rfl) ?_
        refine AOps_q 129 _ rfl rfl rfl (QOp_neq _ _ _ _ _ _ _ rfl rfl rfl) ?_
        refine AOps_q 130 _ rfl rfl rfl (QOp_move _ _ rfl rfl) ?_
        refine AOps_case 130 _ rfl (fun hb27 => ?_) (fun hb27 => ?_)
        · have h := iteT hb27 h
          refine AOps_skip 131 rfl rfl rfl ?_
          refine AOps_skip 132 rfl rfl rfl ?_
          refine AOps_skip 133 rfl rfl rfl ?_
          refine AOps_q 134 _ rfl rfl rfl (QOp_pick_t _ _ _ _ rfl rfl rfl) ?_
          refine AOps_nil ?_
          cases h
          exact Weak_keep 0 hm [0, 3, 4, 5, 6, 9, 10, 13, 14, 18, 19, 134] [0, 1] _ _ rfl rfl rfl
        · have h := iteF hb27 h
          refine AOps_q 131 _ rfl rfl rfl (QOp_loadN_ptr _ _ _ _ _ _ _ rfl Try.isAgg26 Try.sizeOf26 rfl rfl (colD_all _) (colD_length _)) ?_
          refine AOps_q 132 _ rfl rfl rfl (QOp_loadN_ptr _ _ _ _ _ _ _ rfl Try.isAgg26 Try.sizeOf26 rfl rfl (colD_all _) (colD_length _)) ?_
          refine AOps_q 133 _ rfl rfl rfl (QOp_neqCol _ _ _ _ _ _ _ _ _ _ _ _ rfl rfl rfl Try.underlying26 (by kernel_rfl) (by kernel_rfl) (by decide) (by decide) (by decide) rfl rfl rfl rfl rfl rfl Try.underlying2 Try.underlying24 Try.underlying5 Try.sizeOf5 Try.sizeOf24) ?_
          refine AOps_q 134 _ rfl rfl rfl (QOp_pick_f _ _ _ _ rfl rfl rfl) ?_
          refine AOps_nil ?_
          cases h
          exact Weak_keep 0 hm [0, 3, 4, 5, 6, 9, 10, 13, 14, 18, 19, 134] [0, 1] _ _ rfl rfl rfl
      intro E' H' hw
      refine ACode_weak hw ?_
      have h := hks28
      refine ACode_cond _ rfl (fun hb29 => ?_) (fun hb29 => ?_)
      · have h := iteT hb29 h
        refine ACode_seq (ACode_region ?_)
        refine AOps_q 2 _ rfl rfl rfl (QOp_assign _ _ rfl rfl) ?_
        refine AOps_nil ?_
        refine ACode_ret ?_
        cases h
        have h := hks30
        cases h
        exact ⟨_, _, fun r a w h => ⟨r, h⟩, _, _, [], _, (.cons (ResV_tmp _ _ rfl) .nil), rfl, rfl, rfl, rfl, rfl⟩
      · have h := iteF hb29 h
        refine ACode_skip ?_
        cases h
        exact ⟨_, rfl, Weak_keep 0 hm [0, 3, 4, 5, 6, 9, 10, 13, 14, 18, 19] [0, 1] _ _ rfl rfl rfl⟩
    rintro E' H' ⟨s30, rfl, hw⟩
    refine ACode_weak hw ?_
    have h := hks30
    refine ACode_seq (ACode_region ?_)
    refine AOps_q 135 _ rfl rfl rfl (QOp_move _ _ rfl rfl) ?_
    obtain ⟨r31, hr31, h⟩ := bindO h
    refine AOps_call [] 136 _ _ _ _ _ _ _ _ _ _ rfl rfl rfl rfl rfl rfl rfl Try.call18 rfl (nodupB_sound _ rfl) rfl rfl rfl (spec_DrawOrderOf_ac k p0 _ hr31) ?_
    rintro _ _ ⟨rfl, rfl⟩
    refine ⟨(fun _ h => nomatch h), (allc (trivial) (fun _ h => nomatch h)), AOps_as 136 (v' := .d (.agg (colD r31))) (H' := [.box (colD r3.1), .box (colD r25.1)]) rfl rfl ?_⟩
    refine AOps_alloc 22 _ _ (colD Col.zero) (zero_of Try.typeInfo26 rfl) (by rfl) rfl rfl rfl rfl ?_
    refine AOps_store _ _ _ _ _ _ (colD _) _ _ rfl rfl rfl rfl rfl rfl rfl (colD_one _) (by rw [colD_length]; exact Try.sizeOf26) (by rw [colD_length, colD_length]; decide) (colD_whole _ _) ?_
    refine AOps_nil ?_
    refine ACode_seq (ACode_region ?_)
    refine AOps_q 138 _ rfl rfl rfl (QOp_loadN_ptr _ _ _ _ _ _ _ rfl Try.isAgg26 Try.sizeOf26 rfl rfl (colD_all _) (colD_length _)) ?_
    obtain ⟨r32, hr32, h⟩ := bindO h
    refine AOps_call [] 139 _ _ _ _ _ _ _ _ _ _ rfl rfl rfl rfl rfl rfl rfl Try.call19 rfl (nodupB_sound _ rfl) rfl rfl rfl (AC_frz rfl (frz_cons frz_nil) (impl_OrderOf_ac k r31 _ hr32)) ?_
    rintro _ _ ⟨rfl, rfl⟩
    refine ⟨(fun _ h => nomatch h), (allc (trivial) (allc (trivial) (fun _ h => nomatch h))), AOps_as 139 (v' := .tup [.d (.sl none (intsD (r32.1.getD []))), iV r32.2]) (H' := [.box (colD r3.1), .box (colD r25.1), .box (colD r31)]) rfl rfl ?_⟩
    refine AOps_q 137 _ rfl rfl rfl (QOp_move _ _ rfl rfl) ?_
    refine AOps_q 140 _ rfl rfl rfl (QOp_extract _ _ _ _ rfl rfl rfl) ?_
    refine AOps_q 141 _ rfl rfl rfl (QOp_extract _ _ _ _ rfl rfl rfl) ?_
    refine AOps_q 23 _ rfl rfl rfl (QOp_assign _ _ rfl rfl) ?_
    refine AOps_q 24 _ rfl rfl rfl (QOp_assign _ _ rfl rfl) ?_
    refine AOps_nil ?_
    obtain ⟨os38, hss38, hks38⟩ := bindO h
    clear h
    refine ACode_seqJ (fun E' H' => ∃ s38 : Unit, os38 = .inl s38 ∧ Weak 322 G E' H' [(3, .ptr 0 0), (4, iV r3.2), (5, .d (.sl none (intsD (r4.1.getD [])))), (6, iV r4.2), (9, .d (.sl none (intsD (r11.1.getD [])))), (10, iV r11.2), (13, bV r18.1), (14, iV r18.2), (18, .ptr 1 0), (19, iV r25.2), (22, .ptr 2 0), (23, .d (.sl none (intsD (r32.1.getD [])))), (24, iV r32.2)] [.box (colD r3.1), .box (colD r25.1), .box (colD r31)]) ?_ ?_
    · have h := hss38
      clear hss38
      refine ACode_seq (ACode_region ?_)
      refine AOps_q 143 _ rfl rfl rfl (QOp_loadN_ptr _ _ _ _ _ _ _ rfl Try.isAgg26 Try.sizeOf26 rfl rfl (colD_all _) (colD_length _)) ?_
      obtain ⟨r33, hr33, h⟩ := bindO h
      refine AOps_call [] 144 _ _ _ _ _ _ _ _ _ _ rfl rfl rfl rfl rfl rfl rfl Try.call20 rfl (nodupB_sound _ rfl) rfl rfl rfl (spec_OrderOf_ac k r31 _ hr33) ?_
      rintro _ _ ⟨rfl, rfl⟩
      refine ⟨(fun _ h => nomatch h), (allc (trivial) (allc (trivial) (fun _ h => nomatch h))), AOps_as 144 (v' := .tup [.d (.sl none (intsD r33.1)), iV r33.2]) (H' := [.box (colD r3.1), .box (colD r25.1), .box (colD r31)]) rfl rfl ?_⟩
      refine AOps_q 142 _ rfl rfl rfl (QOp_move _ _ rfl rfl) ?_
      refine AOps_q 145 _ rfl rfl rfl (QOp_extract _ _ _ _ rfl rfl rfl) ?_
      refine AOps_q 146 _ rfl rfl rfl (QOp_extract _ _ _ _ rfl rfl rfl) ?_
      refine AOps_q 25 _ rfl rfl rfl (QOp_assign _ _ rfl rfl) ?_
      refine AOps_q 26 _ rfl rfl rfl (QOp_assign _ _ rfl rfl) ?_
      refine AOps_nil ?_
      obtain ⟨s36, hss36, hks36⟩ := bindO h
      clear h
      refine ACode_seqJ (fun E' H' => Weak 322 G E' H' [(3, .ptr 0 0), (4, iV r3.2), (5, .d (.sl none (intsD (r4.1.getD [])))), (6, iV r4.2), (9, .d (.sl none (intsD (r11.1.getD [])))), (10, iV r11.2), (13, bV r18.1), (14, iV r18.2), (18, .ptr 1 0), (19, iV r25.2), (22, .ptr 2 0), (23, .d (.sl none (intsD (r32.1.getD [])))), (24, iV r32.2), (155, bV s36)] [.box (colD r3.1), .box (colD r25.1), .box (colD r31)]) ?_ ?_
      · have h := hss36
        clear hss36
        refine (ACode_region ?_)
        refine AOps_q 147 _ rfl rfl rfl (QOp_move _ _ rfl rfl) ?_
        refine AOps_q 148 _ rfl rfl rfl (QOp_move _ _ rfl rfl) ?_
        refine AOps_q 149 _ rfl rfl rfl (QOp_neq _ _ _ _ _ _ _ rfl rfl rfl) ?_
        refine AOps_q 150 _ rfl rfl rfl (QOp_move _ _ rfl rfl) ?_
        refine AOps_case 150 _ rfl (fun hb34 => ?_) (fun hb34 => ?_)
        · have h := iteT hb34 h
          refine AOps_skip 151 rfl rfl rfl ?_
          refine AOps_skip 152 rfl rfl rfl ?_
          refine AOps_skip 153 rfl rfl rfl ?_
          refine AOps_skip 154 rfl rfl rfl ?_
          refine AOps_q 155 _ rfl rfl rfl (QOp_pick_t _ _ _ _ rfl rfl rfl) ?_
          refine AOps_nil ?_
          cases h
          exact Weak_keep 0 hm [3, 4, 5, 6, 9, 10, 13, 14, 18, 19, 22, 23, 24, 155] [0, 1, 2] _ _ rfl rfl rfl
        · have h := iteF hb34 h
          refine AOps_q 151 _ rfl rfl rfl (QOp_move _ _ rfl rfl) ?_
          refine AOps_q 152 _ rfl rfl rfl (QOp_move _ _ rfl rfl) ?_
          obtain ⟨r35, hr35, h⟩ := bindO h
          refine AOps_call [] 153 _ _ _ _ _ _ _ _ _ _ rfl rfl rfl rfl rfl rfl rfl Try.call10 rfl (nodupB_sound _ rfl) rfl rfl rfl (laws_likeInts_ac k (r32.1.getD []) r33.1 _ hr35) ?_
          rintro _ _ ⟨rfl, rfl⟩
          refine ⟨(fun _ h => nomatch h), (allc (trivial) (fun _ h => nomatch h)), AOps_as 153 (v' := bV r35) (H' := [.box (colD r3.1), .box (colD r25.1), .box (colD r31)]) rfl rfl ?_⟩
          refine AOps_q 154 _ rfl rfl rfl (QOp_not _ _ _ rfl rfl) ?_
          refine AOps_q 155 _ rfl rfl rfl (QOp_pick_f _ _ _ _ rfl rfl rfl) ?_
          refine AOps_nil ?_
          cases h
          exact Weak_keep 0 hm [3, 4, 5, 6, 9, 10, 13, 14, 18, 19, 22, 23, 24, 155] [0, 1, 2] _ _ rfl rfl rfl
      intro E' H' hw
      refine ACode_weak hw ?_
      have h := hks36
      refine ACode_cond _ rfl (fun hb37 => ?_) (fun hb37 => ?_)
      · have h := iteT hb37 h
        refine ACode_seq (ACode_region ?_)
        refine AOps_q 2 _ rfl rfl rfl (QOp_assign _ _ rfl rfl) ?_
        refine AOps_nil ?_
        refine ACode_ret ?_
        cases h
        have h := hks38
        cases h
        exact ⟨_, _, fun r a w h => ⟨r, h⟩, _, _, [], _, (.cons (ResV_tmp _ _ rfl) .nil), rfl, rfl, rfl, rfl, rfl⟩
      · have h := iteF hb37 h
        refine ACode_skip ?_
        cases h
        exact ⟨_, rfl, Weak_keep 0 hm [3, 4, 5, 6, 9, 10, 13, 14, 18, 19, 22, 23, 24] [0, 1, 2] _ _ rfl rfl rfl⟩
    rintro E' H' ⟨s38, rfl, hw⟩
    refine ACode_weak hw ?_
    have h := hks38
    obtain ⟨os44, hss44, hks44⟩ := bindO h
    clear h
    refine ACode_seqJ (fun E' H' => ∃ s44 : Unit, os44 = .inl s44 ∧ Weak 322 G E' H' [(3, .ptr 0 0), (4, iV r3.2), (5, .d (.sl none (intsD (r4.1.getD [])))), (6, iV r4.2), (9, .d (.sl none (intsD (r11.1.getD [])))), (10, iV r11.2), (13, bV r18.1), (14, iV r18.2), (18, .ptr 1 0), (19, iV r25.2)] [.box (colD r3.1), .box (colD r25.1)]) ?_ ?_
    · have h := hss44
      clear hss44
      refine ACode_seq (ACode_region ?_)
      refine AOps_q 156 _ rfl rfl rfl (QOp_move _ _ rfl rfl) ?_
      refine AOps_q 157 _ rfl rfl rfl (QOp_eql _ _ _ _ _ _ _ rfl rfl rfl) ?_
      refine AOps_nil ?_
      refine ACode_cond _ rfl (fun hb39 => ?_) (fun hb39 => ?_)
      · have h := iteT hb39 h
        refine ACode_seq (ACode_region ?_)
        refine AOps_q 159 _ rfl rfl rfl (QOp_move _ _ rfl rfl) ?_
        obtain ⟨r40, hr40, h⟩ := bindO h
        refine AOps_call [] 160 _ _ _ _ _ _ _ _ _ _ rfl rfl rfl rfl rfl rfl rfl Try.call16 rfl (nodupB_sound _ rfl) rfl rfl rfl (impl_SequenceColouring_ac k (r32.1.getD []) _ hr40) ?_
        rintro _ _ ⟨rfl, rfl⟩
        refine ⟨(fun _ h => nomatch h), (allc (trivial) (allc (trivial) (fun _ h => nomatch h))), AOps_as 160 (v' := .tup [.d (.agg (colD r40.1)), iV r40.2]) (H' := [.box (colD r3.1), .box (colD r25.1), .box (colD r31)]) rfl rfl ?_⟩
        refine AOps_q 158 _ rfl rfl rfl (QOp_move _ _ rfl rfl) ?_
        refine AOps_q 161 _ rfl rfl rfl (QOp_extract _ _ _ _ rfl rfl rfl) ?_
        refine AOps_q 162 _ rfl rfl rfl (QOp_extract _ _ _ _ rfl rfl rfl) ?_
        refine AOps_alloc 27 _ _ (colD Col.zero) (zero_of Try.typeInfo26 rfl) (by rfl) rfl rfl rfl rfl ?_
        refine AOps_store _ _ _ _ _ _ (colD _) _ _ rfl rfl rfl rfl rfl rfl rfl (colD_one _) (by rw [colD_length]; exact Try.sizeOf26) (by rw [colD_length, colD_length]; decide) (colD_whole _ _) ?_
        refine AOps_q 28 _ rfl rfl rfl (QOp_assign _ _ rfl rfl) ?_
        refine AOps_nil ?_
        obtain ⟨s42, hss42, hks42⟩ := letS h
        clear h
        refine ACode_seqJ (fun E' H' => Weak 322 G E' H' [(3, .ptr 0 0), (4, iV r3.2), (5, .d (.sl none (intsD (r4.1.getD [])))), (6, iV r4.2), (9, .d (.sl none (intsD (r11.1.getD [])))), (10, iV r11.2), (13, bV r18.1), (14, iV r18.2), (18, .ptr 1 0), (19, iV r25.2), (169, bV s42)] [.box (colD r3.1), .box (colD r25.1)]) ?_ ?_
        · have h := hss42
          clear hss42
          refine (ACode_region ?_)
          refine AOps_q 163 _ rfl rfl rfl (QOp_move _ _ rfl rfl) ?_
          refine AOps_q 164 _ rfl rfl rfl (QOp_neq _ _ _ _ _ _ _ rfl rfl rfl) ?_
          refine AOps_q 165 _ rfl rfl rfl (QOp_move _ _ rfl rfl) ?_
          refine AOps_case 165 _ rfl (fun hb41 => ?_) (fun hb41 => ?_)
          · have h := iteT hb41 h
            refine AOps_skip 166 rfl rfl rfl ?_
            refine AOps_skip 167 rfl rfl rfl ?_
            refine AOps_skip 168 rfl rfl rfl ?_
            refine AOps_q 169 _ rfl rfl rfl (QOp_pick_t _ _ _ _ rfl rfl rfl) ?_
            refine AOps_nil ?_
            cases h
            exact Weak_keep 0 hm [3, 4, 5, 6, 9, 10, 13, 14, 18, 19, 169] [0, 1] _ _ rfl rfl rfl
          · have h := iteF hb41 h
            refine AOps_q 166 _ rfl rfl rfl (QOp_loadN_ptr _ _ _ _ _ _ _ rfl Try.isAgg26 Try.sizeOf26 rfl rfl (colD_all _) (colD_length _)) ?_
            refine AOps_q 167 _ rfl rfl rfl (QOp_loadN_ptr _ _ _ _ _ _ _ rfl Try.isAgg26 Try.sizeOf26 rfl rfl (colD_all _) (colD_length _)) ?_
            refine AOps_q 168 _ rfl rfl rfl (QOp_neqCol _ _ _ _ _ _ _ _ _ _ _ _ rfl rfl rfl Try.underlying26 (by kernel_rfl) (by kernel_rfl) (by decide) (by decide) (by decide) rfl rfl rfl rfl rfl rfl Try.underlying2 Try.underlying24 Try.underlying5 Try.sizeOf5 Try.sizeOf24) ?_
            refine AOps_q 169 _ rfl rfl rfl (QOp_pick_f _ _ _ _ rfl rfl rfl) ?_
            refine AOps_nil ?_
            cases h
            exact Weak_keep 0 hm [3, 4, 5, 6, 9, 10, 13, 14, 18, 19, 169] [0, 1] _ _ rfl rfl rfl
        intro E' H' hw
        refine ACode_weak hw ?_
        have h := hks42
        refine ACode_cond _ rfl (fun hb43 => ?_) (fun hb43 => ?_)
        · have h := iteT hb43 h
          refine ACode_seq (ACode_region ?_)
          refine AOps_q 2 _ rfl rfl rfl (QOp_assign _ _ rfl rfl) ?_
          refine AOps_nil ?_
          refine ACode_ret ?_
          cases h
          have h := hks44
          cases h
          exact ⟨_, _, fun r a w h => ⟨r, h⟩, _, _, [], _, (.cons (ResV_tmp _ _ rfl) .nil), rfl, rfl, rfl, rfl, rfl⟩
        · have h := iteF hb43 h
          refine ACode_skip ?_
          cases h
          exact ⟨_, rfl, Weak_keep 0 hm [3, 4, 5, 6, 9, 10, 13, 14, 18, 19] [0, 1] _ _ rfl rfl rfl⟩
      · have h := iteF hb39 h
        refine ACode_skip ?_
        cases h
        exact ⟨_, rfl, Weak_keep 0 hm [3, 4, 5, 6, 9, 10, 13, 14, 18, 19] [0, 1] _ _ rfl rfl rfl⟩
    rintro E' H' ⟨s44, rfl, hw⟩
    refine ACode_weak hw ?_
    have h := hks44
    obtain ⟨os60, hss60, hks60⟩ := bindO h
    clear h
    refine ACode_seqJ (fun E' H' => ∃ s60 : Unit, os60 = .inl s60 ∧ Weak 322 G E' H' [(3, .ptr 0 0), (4, iV r3.2), (5, .d (.sl none (intsD (r4.1.getD [])))), (6, iV r4.2), (9, .d (.sl none (intsD (r11.1.getD [])))), (10, iV r11.2), (13, bV r18.1), (14, iV r18.2)] [.box (colD r3.1)]) ?_ ?_
    · have h := hss60
      clear hss60
      refine ACode_seq (ACode_region ?_)
      refine AOps_q 170 _ rfl rfl rfl (QOp_move _ _ rfl rfl) ?_
      refine AOps_q 171 _ rfl rfl rfl (QOp_eql _ _ _ _ _ _ _ rfl rfl rfl) ?_
      refine AOps_nil ?_
      refine ACode_cond _ rfl (fun hb45 => ?_) (fun hb45 => ?_)
      · have h := iteT hb45 h
        refine ACode_seq (ACode_region ?_)
        refine AOps_q 173 _ rfl rfl rfl (QOp_loadN_ptr _ _ _ _ _ _ _ rfl Try.isAgg26 Try.sizeOf26 rfl rfl (colD_all _) (colD_length _)) ?_
        obtain ⟨r46, hr46, h⟩ := bindO h
        refine AOps_call [] 174 _ _ _ _ _ _ _ _ _ _ rfl rfl rfl rfl rfl rfl rfl Try.call13 rfl (nodupB_sound _ rfl) rfl rfl rfl (impl_IsClosedColour_ac k r25.1 0 _ hr46) ?_
        rintro _ _ ⟨rfl, rfl⟩
        refine ⟨(fun _ h => nomatch h), (allc (trivial) (allc (trivial) (fun _ h => nomatch h))), AOps_as 174 (v' := .tup [bV r46.1, iV r46.2]) (H' := [.box (colD r3.1), .box (colD r25.1)]) rfl rfl ?_⟩
        refine AOps_q 172 _ rfl rfl rfl (QOp_move _ _ rfl rfl) ?_
        refine AOps_q 175 _ rfl rfl rfl (QOp_extract _ _ _ _ rfl rfl rfl) ?_
        refine AOps_q 176 _ rfl rfl rfl (QOp_extract _ _ _ _ rfl rfl rfl) ?_
        refine AOps_q 29 _ rfl rfl rfl (QOp_assign _ _ rfl rfl) ?_
        refine AOps_q 30 _ rfl rfl rfl (QOp_assign _ _ rfl rfl) ?_
        refine AOps_nil ?_
        refine ACode_seq (ACode_region ?_)
        refine AOps_q 178 _ rfl rfl rfl (QOp_loadN_ptr _ _ _ _ _ _ _ rfl Try.isAgg26 Try.sizeOf26 rfl rfl (colD_all _) (colD_length _)) ?_
        obtain ⟨r47, hr47, h⟩ := bindO h
        refine AOps_call [] 179 _ _ _ _ _ _ _ _ _ _ rfl rfl rfl rfl rfl rfl rfl Try.call13 rfl (nodupB_sound _ rfl) rfl rfl rfl (impl_IsClosedColour_ac k r25.1 1 _ hr47) ?_
        rintro _ _ ⟨rfl, rfl⟩
        refine ⟨(fun _ h => nomatch h), (allc (trivial) (allc (trivial) (fun _ h => nomatch h))), AOps_as 179 (v' := .tup [bV r47.1, iV r47.2]) (H' := [.box (colD r3.1), .box (colD r25.1)]) rfl rfl ?_⟩
        refine AOps_q 177 _ rfl rfl rfl (QOp_move _ _ rfl rfl) ?_
        refine AOps_q 180 _ rfl rfl rfl (QOp_extract _ _ _ _ rfl rfl rfl) ?_
        refine AOps_q 181 _ rfl rfl rfl (QOp_extract _ _ _ _ rfl rfl rfl) ?_
        refine AOps_q 31 _ rfl rfl rfl (QOp_assign _ _ rfl rfl) ?_
        refine AOps_q 32 _ rfl rfl rfl (QOp_assign _ _ rfl rfl) ?_
        refine AOps_nil ?_
        refine ACode_seq (ACode_region ?_)
        refine AOps_q 183 _ rfl rfl rfl (QOp_loadN_ptr _ _ _ _ _ _ _ rfl Try.isAgg26 Try.sizeOf26 rfl rfl (colD_all _) (colD_length _)) ?_
        obtain ⟨r48, hr48, h⟩ := bindO h
        refine AOps_call [] 184 _ _ _ _ _ _ _ _ _ _ rfl rfl rfl rfl rfl rfl rfl Try.call8 rfl (nodupB_sound _ rfl) rfl rfl rfl (AC_frz rfl (frz_cons frz_nil) (impl_LongestUp_ac k r25.1 0 _ hr48)) ?_
        rintro _ _ ⟨rfl, rfl⟩
        refine ⟨(fun _ h => nomatch h), (allc (trivial) (allc (trivial) (fun _ h => nomatch h))), AOps_as 184 (v' := .tup [.d (.sl none (intsD (r48.1.getD []))), iV r48.2]) (H' := [.box (colD r3.1), .box (colD r25.1)]) rfl rfl ?_⟩
        refine AOps_q 182 _ rfl rfl rfl (QOp_move _ _ rfl rfl) ?_
        refine AOps_q 185 _ rfl rfl rfl (QOp_extract _ _ _ _ rfl rfl rfl) ?_
        refine AOps_q 186 _ rfl rfl rfl (QOp_extract _ _ _ _ rfl rfl rfl) ?_
        refine AOps_q 33 _ rfl rfl rfl (QOp_assign _ _ rfl rfl) ?_
        refine AOps_q 34 _ rfl rfl rfl (QOp_assign _ _ rfl rfl) ?_
        refine AOps_nil ?_
        refine ACode_seq (ACode_region ?_)
        refine AOps_q 188 _ rfl rfl rfl (QOp_loadN_ptr _ _ _ _ _ _ _ rfl Try.isAgg26 Try.sizeOf26 rfl rfl (colD_all _) (colD_length _)) ?_
        obtain ⟨r49, hr49, h⟩ := bindO h
        refine AOps_call [] 189 _ _ _ _ _ _ _ _ _ _ rfl rfl rfl rfl rfl rfl rfl Try.call8 rfl (nodupB_sound _ rfl) rfl rfl rfl (AC_frz rfl (frz_cons frz_nil) (impl_LongestUp_ac k r25.1 1 _ hr49)) ?_
        rintro _ _ ⟨rfl, rfl⟩
        refine ⟨(fun _ h => nomatch h), (allc (trivial) (allc (trivial) (fun _ h => nomatch h))), AOps_as 189 (v' := .tup [.d (.sl none (intsD (r49.1.getD []))), iV r49.2]) (H' := [.box (colD r3.1), .box (colD r25.1)]) rfl rfl ?_⟩
        refine AOps_q 187 _ rfl rfl rfl (QOp_move _ _ rfl rfl) ?_
        refine AOps_q 190 _ rfl rfl rfl (QOp_extract _ _ _ _ rfl rfl rfl) ?_
        refine AOps_q 191 _ rfl rfl rfl (QOp_extract _ _ _ _ rfl rfl rfl) ?_
        refine AOps_q 35 _ rfl rfl rfl (QOp_assign _ _ rfl rfl) ?_
        refine AOps_q 36 _ rfl rfl rfl (QOp_assign _ _ rfl rfl) ?_
        refine AOps_nil ?_
        refine ACode_seq (ACode_region ?_)
        refine AOps_q 193 _ rfl rfl rfl (QOp_move _ _ rfl rfl) ?_
        refine AOps_q 194 _ rfl rfl rfl (QOp_len_sl _ _ _ _ _ _ _ (intsD_length _) rfl rfl rfl rfl Try.underlying29 rfl) ?_
        refine AOps_q 195 _ rfl rfl rfl (QOp_add _ _ _ _ _ _ _ rfl rfl rfl) ?_
        refine AOps_q 196 _ rfl rfl rfl (QOp_move _ _ rfl rfl) ?_
        refine AOps_q 197 _ rfl rfl rfl (QOp_len_sl _ _ _ _ _ _ _ (intsD_length _) rfl rfl rfl rfl Try.underlying29 rfl) ?_
        refine AOps_q 198 _ rfl rfl rfl (QOp_add _ _ _ _ _ _ _ rfl rfl rfl) ?_
        refine AOps_call [] 199 _ _ _ _ _ _ _ _ _ _ rfl rfl rfl rfl rfl rfl rfl Try.call21 rfl (nodupB_sound _ rfl) rfl rfl rfl (impl_ErdosNumber_ac (w64 (((r48.1.getD []).length : Int) + 1)) (w64 (((r49.1.getD []).length : Int) + 1))) ?_
        rintro _ _ ⟨rfl, rfl⟩
        refine ⟨(fun _ h => nomatch h), (allc (trivial) (allc (trivial) (fun _ h => nomatch h))), AOps_as 199 (v' := .tup [iV ((impl_ErdosNumber (w64 (((r48.1.getD []).length : Int) + 1)) (w64 (((r49.1.getD []).length : Int) + 1))).1), iV ((impl_ErdosNumber (w64 (((r48.1.getD []).length : Int) + 1)) (w64 (((r49.1.getD []).length : Int) + 1))).2)]) (H' := [.box (colD r3.1), .box (colD r25.1)]) rfl rfl ?_⟩
        refine AOps_q 192 _ rfl rfl rfl (QOp_move _ _ rfl rfl) ?_
        refine AOps_q 200 _ rfl rfl rfl (QOp_extract _ _ _ _ rfl rfl rfl) ?_
        refine AOps_q 201 _ rfl rfl rfl (QOp_extract _ _ _ _ rfl rfl rfl) ?_
        refine AOps_q 37 _ rfl rfl rfl (QOp_assign _ _ rfl rfl) ?_
        refine AOps_q 38 _ rfl rfl rfl (QOp_assign _ _ rfl rfl) ?_
        refine AOps_nil ?_
        obtain ⟨s58, hss58, hks58⟩ := letS h
        clear h
        refine ACode_seqJ (fun E' H' => Weak 322 G E' H' [(3, .ptr 0 0), (4, iV r3.2), (5, .d (.sl none (intsD (r4.1.getD [])))), (6, iV r4.2), (9, .d (.sl none (intsD (r11.1.getD [])))), (10, iV r11.2), (13, bV r18.1), (14, iV r18.2), (233, bV s58)] [.box (colD r3.1)]) ?_ ?_
        · have h := hss58
          clear hss58
          refine (ACode_region ?_)
          refine AOps_q 202 _ rfl rfl rfl (QOp_move _ _ rfl rfl) ?_
          refine AOps_q 203 _ rfl rfl rfl (QOp_neq _ _ _ _ _ _ _ rfl rfl rfl) ?_
          refine AOps_q 204 _ rfl rfl rfl (QOp_move _ _ rfl rfl) ?_
          refine AOps_case 204 _ rfl (fun hb51 => ?_) (fun hb51 => ?_)
          · have h := iteT hb51 h
            refine AOps_skip 205 rfl rfl rfl ?_
            refine AOps_skip 206 rfl rfl rfl ?_
            refine AOps_q 207 _ rfl rfl rfl (QOp_pick_t _ _ _ _ rfl rfl rfl) ?_
            refine AOps_q 208 _ rfl rfl rfl (QOp_move _ _ rfl rfl) ?_
            refine AOps_skip 209 rfl rfl rfl ?_
            refine AOps_skip 210 rfl rfl rfl ?_
            refine AOps_q 211 _ rfl rfl rfl (QOp_pick_t _ _ _ _ rfl rfl rfl) ?_
            refine AOps_q 212 _ rfl rfl rfl (QOp_move _ _ rfl rfl) ?_
            refine AOps_skip 213 rfl rfl rfl ?_
            refine AOps_skip 214 rfl rfl rfl ?_
            refine AOps_q 215 _ rfl rfl rfl (QOp_pick_t _ _ _ _ rfl rfl rfl) ?_
            refine AOps_q 216 _ rfl rfl rfl (QOp_move _ _ rfl rfl) ?_
            refine AOps_skip 217 rfl rfl rfl ?_
            refine AOps_skip 218 rfl rfl rfl ?_
            refine AOps_q 219 _ rfl rfl rfl (QOp_pick_t _ _ _ _ rfl rfl rfl) ?_
            refine AOps_q 220 _ rfl rfl rfl (QOp_move _ _ rfl rfl) ?_
            refine AOps_skip 221 rfl rfl rfl ?_
            refine AOps_skip 222 rfl rfl rfl ?_
            refine AOps_q 223 _ rfl rfl rfl (QOp_pick_t _ _ _ _ rfl rfl rfl) ?_
            refine AOps_q 224 _ rfl rfl rfl (QOp_move _ _ rfl rfl) ?_
            refine AOps_skip 225 rfl rfl rfl ?_
            refine AOps_skip 226 rfl rfl rfl ?_
            refine AOps_q 227 _ rfl rfl rfl (QOp_pick_t _ _ _ _ rfl rfl rfl) ?_
            refine AOps_q 228 _ rfl rfl rfl (QOp_move _ _ rfl rfl) ?_
            refine AOps_skip 229 rfl rfl rfl ?_
            refine AOps_skip 230 rfl rfl rfl ?_
            refine AOps_skip 231 rfl rfl rfl ?_
            refine AOps_skip 232 rfl rfl rfl ?_
            refine AOps_q 233 _ rfl rfl rfl (QOp_pick_t _ _ _ _ rfl rfl rfl) ?_
            refine AOps_nil ?_
            cases h
            exact Weak_keep 0 hm [3, 4, 5, 6, 9, 10, 13, 14, 233] [0] _ _ rfl rfl rfl
          · have h := iteF hb51 h
            refine AOps_q 205 _ rfl rfl rfl (QOp_move _ _ rfl rfl) ?_
            refine AOps_q 206 _ rfl rfl rfl (QOp_not _ _ _ rfl rfl) ?_
            refine AOps_q 207 _ rfl rfl rfl (QOp_pick_f _ _ _ _ rfl rfl rfl) ?_
            refine AOps_q 208 _ rfl rfl rfl (QOp_move _ _ rfl rfl) ?_
            refine AOps_case 208 _ rfl (fun hb52 => ?_) (fun hb52 => ?_)
            · have h := iteT hb52 h
              refine AOps_skip 209 rfl rfl rfl ?_
              refine AOps_skip 210 rfl rfl rfl ?_
              refine AOps_q 211 _ rfl rfl rfl (QOp_pick_t _ _ _ _ rfl rfl rfl) ?_
              refine AOps_q 212 _ rfl rfl rfl (QOp_move _ _ rfl rfl) ?_
              refine AOps_skip 213 rfl rfl rfl ?_
              refine AOps_skip 214 rfl rfl rfl ?_
              refine AOps_q 215 _ rfl rfl rfl (QOp_pick_t _ _ _ _ rfl rfl rfl) ?_
              refine AOps_q 216 _ rfl rfl rfl (QOp_move _ _ rfl rfl) ?_
              refine AOps_skip 217 rfl rfl rfl ?_
              refine AOps_skip 218 rfl rfl rfl ?_
              refine AOps_q 219 _ rfl rfl rfl (QOp_pick_t _ _ _ _ rfl rfl rfl) ?_
              refine AOps_q 220 _ rfl rfl rfl (QOp_move _ _ rfl rfl) ?_
              refine AOps_skip 221 rfl rfl rfl ?_
              refine AOps_skip 222 rfl rfl rfl ?_
              refine AOps_q 223 _ rfl rfl rfl (QOp_pick_t _ _ _ _ rfl rfl rfl) ?_
              refine AOps_q 224 _ rfl rfl rfl (QOp_move _ _ rfl rfl) ?_
              refine AOps_skip 225 rfl rfl rfl ?_
              refine AOps_skip 226 rfl rfl rfl ?_
              refine AOps_q 227 _ rfl rfl rfl (QOp_pick_t _ _ _ _ rfl rfl rfl) ?_
              refine AOps_q 228 _ rfl rfl rfl (QOp_move _ _ rfl rfl) ?_
              refine AOps_skip 229 rfl rfl rfl ?_
              refine AOps_skip 230 rfl rfl rfl ?_
              refine AOps_skip 231 rfl rfl rfl ?_
              refine AOps_skip 232 rfl rfl rfl ?_
              refine AOps_q 233 _ rfl rfl rfl (QOp_pick_t _ _ _ _ rfl rfl rfl) ?_
              refine AOps_nil ?_
              cases h
              exact Weak_keep 0 hm [3, 4, 5, 6, 9, 10, 13, 14, 233] [0] _ _ rfl rfl rfl
            · have h := iteF hb52 h
              refine AOps_q 209 _ rfl rfl rfl (QOp_move _ _ rfl rfl) ?_
              refine AOps_q 210 _ rfl rfl rfl (QOp_neq _ _ _ _ _ _ _ rfl rfl rfl) ?_
              refine AOps_q 211 _ rfl rfl rfl (QOp_pick_f _ _ _ _ rfl rfl rfl) ?_
              refine AOps_q 212 _ rfl rfl rfl (QOp_move _ _ rfl rfl) ?_
              refine AOps_case 212 _ rfl (fun hb53 => ?_) (fun hb53 => ?_)
              · have h := iteT hb53 h
                refine AOps_skip 213 rfl rfl rfl ?_
                refine AOps_skip 214 rfl rfl rfl ?_
                refine AOps_q 215 _ rfl rfl rfl (QOp_pick_t _ _ _ _ rfl rfl rfl) ?_
                refine AOps_q 216 _ rfl rfl rfl (QOp_move _ _ rfl rfl) ?_
                refine AOps_skip 217 rfl rfl rfl ?_
                refine AOps_skip 218 rfl rfl rfl ?_
                refine AOps_q 219 _ rfl rfl rfl (QOp_pick_t _ _ _ _ rfl rfl rfl) ?_
                refine AOps_q 220 _ rfl rfl rfl (QOp_move _ _ rfl rfl) ?_
                refine AOps_skip 221 rfl rfl rfl ?_
                refine AOps_skip 222 rfl rfl rfl ?_
                refine AOps_q 223 _ rfl rfl rfl (QOp_pick_t _ _ _ _ rfl rfl rfl) ?_
                refine AOps_q 224 _ rfl rfl rfl (QOp_move _ _ rfl rfl) ?_
                refine AOps_skip 225 rfl rfl rfl ?_
                refine AOps_skip 226 rfl rfl rfl ?_
                refine AOps_q 227 _ rfl rfl rfl (QOp_pick_t _ _ _ _ rfl rfl rfl) ?_
                refine AOps_q 228 _ rfl rfl rfl (QOp_move _ _ rfl rfl) ?_
                refine AOps_skip 229 rfl rfl rfl ?_
                refine AOps_skip 230 rfl rfl rfl ?_
                refine AOps_skip 231 rfl rfl rfl ?_
                refine AOps_skip 232 rfl rfl rfl ?_
                refine AOps_q 233 _ rfl rfl rfl (QOp_pick_t _ _ _ _ rfl rfl rfl) ?_
                refine AOps_nil ?_
                cases h
                exact Weak_keep 0 hm [3, 4, 5, 6, 9, 10, 13, 14, 233] [0] _ _ rfl rfl rfl
              · have h := iteF hb53 h
                refine AOps_q 213 _ rfl rfl rfl (QOp_move _ _ rfl rfl) ?_
                refine AOps_q 214 _ rfl rfl rfl (QOp_not _ _ _ rfl rfl) ?_
                refine AOps_q 215 _ rfl rfl rfl (QOp_pick_f _ _ _ _ rfl rfl rfl) ?_
                refine AOps_q 216 _ rfl rfl rfl (QOp_move _ _ rfl rfl) ?_
                refine AOps_case 216 _ rfl (fun hb54 => ?_) (fun hb54 => ?_)
                · have h := iteT hb54 h
                  refine AOps_skip 217 rfl rfl rfl ?_
                  refine AOps_skip 218 rfl rfl rfl ?_
                  refine AOps_q 219 _ rfl rfl rfl (QOp_pick_t _ _ _ _ rfl rfl rfl) ?_
                  refine AOps_q 220 _ rfl rfl rfl (QOp_move _ _ rfl rfl) ?_
                  refine AOps_skip 221 rfl rfl rfl ?_
                  refine AOps_skip 222 rfl rfl rfl ?_
                  refine AOps_q 223 _ rfl rfl rfl (QOp_pick_t _ _ _ _ rfl rfl rfl) ?_
                  refine AOps_q 224 _ rfl rfl rfl (QOp_move _ _ rfl rfl) ?_
                  refine AOps_skip 225 rfl rfl rfl ?_
                  refine AOps_skip 226 rfl rfl rfl ?_
                  refine AOps_q 227 _ rfl rfl rfl (QOp_pick_t _ _ _ _ rfl rfl rfl) ?_
                  refine AOps_q 228 _ rfl rfl rfl (QOp_move _ _ rfl rfl) ?_
                  refine AOps_skip 229 rfl rfl rfl ?_
                  refine AOps_skip 230 rfl rfl rfl ?_
                  refine AOps_skip 231 rfl rfl rfl ?_
                  refine AOps_skip 232 rfl rfl rfl ?_
                  refine AOps_q 233 _ rfl rfl rfl (QOp_pick_t _ _ _ _ rfl rfl rfl) ?_
                  refine AOps_nil ?_
                  cases h
                  exact Weak_keep 0 hm [3, 4, 5, 6, 9, 10, 13, 14, 233] [0] _ _ rfl rfl rfl
                · have h := iteF hb54 h
                  refine AOps_q 217 _ rfl rfl rfl (QOp_move _ _ rfl rfl) ?_
                  refine AOps_q 218 _ rfl rfl rfl (QOp_neq _ _ _ _ _ _ _ rfl rfl rfl) ?_
                  refine AOps_q 219 _ rfl rfl rfl (QOp_pick_f _ _ _ _ rfl rfl rfl) ?_
                  refine AOps_q 220 _ rfl rfl rfl (QOp_move _ _ rfl rfl) ?_
                  refine AOps_case 220 _ rfl (fun hb55 => ?_) (fun hb55 => ?_)
                  · have h := iteT hb55 h
                    refine AOps_skip 221 rfl rfl rfl ?_
                    refine AOps_skip 222 rfl rfl rfl ?_
                    refine AOps_q 223 _ rfl rfl rfl (QOp_pick_t _ _ _ _ rfl rfl rfl) ?_
                    refine AOps_q 224 _ rfl rfl rfl (QOp_move _ _ rfl rfl) ?_
                    refine AOps_skip 225 rfl rfl rfl ?_
                    refine AOps_skip 226 rfl rfl rfl ?_
                    refine AOps_q 227 _ rfl rfl rfl (QOp_pick_t _ _ _ _ rfl rfl rfl) ?_
                    refine AOps_q 228 _ rfl rfl rfl (QOp_move _ _ rfl rfl) ?_
                    refine AOps_skip 229 rfl rfl rfl ?_
                    refine AOps_skip 230 rfl rfl rfl ?_
                    refine AOps_skip 231 rfl rfl rfl ?_
                    refine AOps_skip 232 rfl rfl rfl ?_
                    refine AOps_q 233 _ rfl rfl rfl (QOp_pick_t _ _ _ _ rfl rfl rfl) ?_
                    refine AOps_nil ?_
                    cases h
                    exact Weak_keep 0 hm [3, 4, 5, 6, 9, 10, 13, 14, 233] [0] _ _ rfl rfl rfl
                  · have h := iteF hb55 h
                    refine AOps_q 221 _ rfl rfl rfl (QOp_move _ _ rfl rfl) ?_
                    refine AOps_q 222 _ rfl rfl rfl (QOp_neq _ _ _ _ _ _ _ rfl rfl rfl) ?_
                    refine AOps_q 223 _ rfl rfl rfl (QOp_pick_f _ _ _ _ rfl rfl rfl) ?_
                    refine AOps_q 224 _ rfl rfl rfl (QOp_move _ _ rfl rfl) ?_
                    refine AOps_case 224 _ rfl (fun hb56 => ?_) (fun hb56 => ?_)
                    · have h := iteT hb56 h
                      refine AOps_skip 225 rfl rfl rfl ?_
                      refine AOps_skip 226 rfl rfl rfl ?_
                      refine AOps_q 227 _ rfl rfl rfl (QOp_pick_t _ _ _ _ rfl rfl rfl) ?_
                      refine AOps_q 228 _ rfl rfl rfl (QOp_move _ _ rfl rfl) ?_
                      refine AOps_skip 229 rfl rfl rfl ?_
                      refine AOps_skip 230 rfl rfl rfl ?_
                      refine AOps_skip 231 rfl rfl rfl ?_
                      refine AOps_skip 232 rfl rfl rfl ?_
                      refine AOps_q 233 _ rfl rfl rfl (QOp_pick_t _ _ _ _ rfl rfl rfl) ?_
                      refine AOps_nil ?_
                      cases h
                      exact Weak_keep 0 hm [3, 4, 5, 6, 9, 10, 13, 14, 233] [0] _ _ rfl rfl rfl
                    · have h := iteF hb56 h
                      refine AOps_q 225 _ rfl rfl rfl (QOp_move _ _ rfl rfl) ?_
                      refine AOps_q 226 _ rfl rfl rfl (QOp_neq _ _ _ _ _ _ _ rfl rfl rfl) ?_
                      refine AOps_q 227 _ rfl rfl rfl (QOp_pick_f _ _ _ _ rfl rfl rfl) ?_
                      refine AOps_q 228 _ rfl rfl rfl (QOp_move _ _ rfl rfl) ?_
                      refine AOps_case 228 _ rfl (fun hb57 => ?_) (fun hb57 => ?_)
                      · have h := iteT hb57 h
                        refine AOps_skip 229 rfl rfl rfl ?_
                        refine AOps_skip 230 rfl rfl rfl ?_
                        refine AOps_skip 231 rfl rfl rfl ?_
                        refine AOps_skip 232 rfl rfl rfl ?_
                        refine AOps_q 233 _ rfl rfl rfl (QOp_pick_t _ _ _ _ rfl rfl rfl) ?_
                        refine AOps_nil ?_
                        cases h
                        exact Weak_keep 0 hm [3, 4, 5, 6, 9, 10, 13, 14, 233] [0] _ _ rfl rfl rfl
                      · have h := iteF hb57 h
                        refine AOps_q 229 _ rfl rfl rfl (QOp_fieldAddr_ptr _ _ _ _ _ _ 0 _ _ rfl Try.underlying26 rfl _ Try.sizeOf2 rfl rfl rfl rfl) ?_
                        refine AOps_q 230 _ rfl rfl rfl (QOp_load_ptr _ _ _ _ _ _ rfl Try.isAgg2 rfl rfl rfl) ?_
                        refine AOps_q 231 _ rfl rfl rfl (QOp_move _ _ rfl rfl) ?_
                        refine AOps_q 232 _ rfl rfl rfl (QOp_geq _ _ _ _ _ _ _ rfl rfl rfl) ?_
                        refine AOps_q 233 _ rfl rfl rfl (QOp_pick_f _ _ _ _ rfl rfl rfl) ?_
                        refine AOps_nil ?_
                        cases h
                        exact Weak_keep 0 hm [3, 4, 5, 6, 9, 10, 13, 14, 233] [0] _ _ rfl rfl rfl
        intro E' H' hw
        refine ACode_weak hw ?_
        have h := hks58
        refine ACode_cond _ rfl (fun hb59 => ?_) (fun hb59 => ?_)
        · have h := iteT hb59 h
          refine ACode_seq (ACode_region ?_)
          refine AOps_q 2 _ rfl rfl rfl (QOp_assign _ _ rfl rfl) ?_
          refine AOps_nil ?_
          refine ACode_ret ?_
          cases h
          have h := hks60
          cases h
          exact ⟨_, _, fun r a w h => ⟨r, h⟩, _, _, [], _, (.cons (ResV_tmp _ _ rfl) .nil), rfl, rfl, rfl, rfl, rfl⟩
        · have h := iteF hb59 h
          refine ACode_skip ?_
          cases h
          exact ⟨_, rfl, Weak_keep 0 hm [3, 4, 5, 6, 9, 10, 13, 14] [0] _ _ rfl rfl rfl⟩
      · have h := iteF hb45 h
        refine ACode_skip ?_
        cases h
        exact ⟨_, rfl, Weak_keep 0 hm [3, 4, 5, 6, 9, 10, 13, 14] [0] _ _ rfl rfl rfl⟩
    rintro E' H' ⟨s60, rfl, hw⟩
    refine ACode_weak hw ?_
    have h := hks60
    refine ACode_seq ?_
    refine ACode_seq (ACode_region ?_)
    refine AOps_q 234 _ rfl rfl rfl (QOp_move _ _ rfl rfl) ?_
    refine AOps_q 235 _ rfl rfl rfl (QOp_neq _ _ _ _ _ _ _ rfl rfl rfl) ?_
    refine AOps_nil ?_
    refine ACode_cond _ rfl (fun hb61 => ?_) (fun hb61 => ?_)
    · have h := iteT hb61 h
      obtain ⟨s63, hss63, hks63⟩ := letS h
      clear h
      refine ACode_seqJ (fun E' H' => Weak 322 G E' H' [(2, bV s63)] []) ?_ ?_
      · have h := hss63
        clear hss63
        refine (ACode_region ?_)
        refine AOps_q 236 _ rfl rfl rfl (QOp_move _ _ rfl rfl) ?_
        refine AOps_q 237 _ rfl rfl rfl (QOp_len_sl _ _ _ _ _ _ _ (intsD_length _) rfl rfl rfl rfl Try.underlying29 rfl) ?_
        refine AOps_q 238 _ rfl rfl rfl (QOp_eql _ _ _ _ _ _ _ rfl rfl rfl) ?_
        refine AOps_q 239 _ rfl rfl rfl (QOp_move _ _ rfl rfl) ?_
        refine AOps_case 239 _ rfl (fun hb62 => ?_) (fun hb62 => ?_)
        · have h := iteT hb62 h
          refine AOps_q 240 _ rfl rfl rfl (QOp_move _ _ rfl rfl) ?_
          refine AOps_q 241 _ rfl rfl rfl (QOp_move _ _ rfl rfl) ?_
          refine AOps_q 242 _ rfl rfl rfl (QOp_eql _ _ _ _ _ _ _ rfl rfl rfl) ?_
          refine AOps_q 243 _ rfl rfl rfl (QOp_pick_t _ _ _ _ rfl rfl rfl) ?_
          refine AOps_q 2 _ rfl rfl rfl (QOp_assign _ _ rfl rfl) ?_
          refine AOps_nil ?_
          cases h
          exact Weak_keep 0 hm [2] [] _ _ rfl rfl rfl
        · have h := iteF hb62 h
          refine AOps_skip 240 rfl rfl rfl ?_
          refine AOps_skip 241 rfl rfl rfl ?_
          refine AOps_skip 242 rfl rfl rfl ?_
          refine AOps_q 243 _ rfl rfl rfl (QOp_pick_f _ _ _ _ rfl rfl rfl) ?_
          refine AOps_q 2 _ rfl rfl rfl (QOp_assign _ _ rfl rfl) ?_
          refine AOps_nil ?_
          cases h
          exact Weak_keep 0 hm [2] [] _ _ rfl rfl rfl
      intro E' H' hw
      refine ACode_weak hw ?_
      have h := hks63
      refine ACode_ret ?_
      cases h
      exact ⟨_, _, fun r a w h => ⟨r, h⟩, _, _, [], _, (.cons (ResV_tmp _ _ rfl) .nil), rfl, rfl, rfl, rfl, rfl⟩
    · have h := iteF hb61 h
      refine ACode_skip ?_
      refine ACode_seq (ACode_region ?_)
      refine AOps_q 39 _ rfl rfl rfl (QOp_assign _ _ rfl rfl) ?_
      refine AOps_nil ?_
      obtain ⟨s68, hss68, hks68⟩ := bindO h
      clear h
      refine ACode_seqJ (fun E' H' => Weak 322 G E' H' [(3, .ptr 0 0), (4, iV r3.2), (5, .d (.sl none (intsD (r4.1.getD [])))), (10, iV r11.2), (13, bV r18.1), (14, iV r18.2), (39, iV s68)] [.box (colD r3.1)]) ?_ ?_
      · have h := hss68
        clear hss68
        refine ACode_seq (ACode_region ?_)
        refine AOps_q 40 _ rfl rfl rfl (QOp_assign _ _ rfl rfl) ?_
        refine AOps_nil ?_
        refine ACode_block ?_
        refine ACode_loopW (fun k0 E H => ∃ (x64 : Int) (x65 : Int), E = [(3, .ptr 0 0), (4, iV r3.2), (5, .d (.sl none (intsD (r4.1.getD [])))), (9, .d (.sl none (intsD (r11.1.getD [])))), (10, iV r11.2), (13, bV r18.1), (14, iV r18.2), (39, iV x64), (40, iV x65)] ∧ H = [.box (colD r3.1)] ∧ laws_FnUps_l0 r11 k0 x64 x65 = some s68) k _ _ (Weak_keep 0 hm [3, 4, 5, 9, 10, 13, 14, 39, 40] [0] _ _ rfl rfl rfl) ⟨_, _, rfl, rfl, h⟩ ?_
        clear h
        rintro k0 E H ⟨x64, x65, rfl, rfl, h⟩
        cases k0 with
        | zero => cases (show (none : Option (Int)) = some _ from h)
        | succ k0 =>
          rw [laws_FnUps_l0] at h
          refine ACode_seq ?_
          refine ACode_seq (ACode_region ?_)
          refine AOps_q 244 _ rfl rfl rfl (QOp_move _ _ rfl rfl) ?_
          refine AOps_q 245 _ rfl rfl rfl (QOp_move _ _ rfl rfl) ?_
          refine AOps_q 246 _ rfl rfl rfl (QOp_len_sl _ _ _ _ _ _ _ (intsD_length _) rfl rfl rfl rfl Try.underlying29 rfl) ?_
          refine AOps_q 247 _ rfl rfl rfl (QOp_lss _ _ _ _ _ _ _ rfl rfl rfl) ?_
          refine AOps_nil ?_
          refine ACode_cond _ rfl (fun hb66 => ?_) (fun hb66 => ?_)
          · have h := iteT hb66 h
            refine ACode_skip ?_
            refine ACode_seq ?_
            refine ACode_block ?_
            refine (ACode_region ?_)
            refine AOps_q 250 _ rfl rfl rfl (QOp_move _ _ rfl rfl) ?_
            refine AOps_q 251 _ rfl rfl rfl (QOp_move _ _ rfl rfl) ?_
            refine AOps_q 252 _ rfl rfl rfl (QOp_move _ _ rfl rfl) ?_
            obtain ⟨hc67, h⟩ := guardO h
            refine AOps_q 253 _ rfl rfl rfl (QOp_indexAddr_sl _ _ _ _ _ _ _ _ rfl Try.underlying29 Try.sizeOf2 hc67.1 (by rw [intsD_length]; exact hc67.2) rfl rfl) ?_
            refine AOps_q 254 _ rfl rfl rfl (QOp_load_pv _ _ _ _ _ rfl Try.isAgg2 rfl (intsD_get _ _ 0 (by omega))) ?_
            refine AOps_q 255 _ rfl rfl rfl (QOp_max _ _ _ _ _ _ rfl rfl rfl rfl rfl) ?_
            refine AOps_q 39 _ rfl rfl rfl (QOp_assign _ _ rfl rfl) ?_
            refine AOps_nil ?_
            refine (ACode_region ?_)
            refine AOps_q 248 _ rfl rfl rfl (QOp_move _ _ rfl rfl) ?_
            refine AOps_q 249 _ rfl rfl rfl (QOp_add _ _ _ _ _ _ _ rfl rfl rfl) ?_
            refine AOps_q 40 _ rfl rfl rfl (QOp_assign _ _ rfl rfl) ?_
            refine AOps_nil ?_
            exact ⟨k0, _, _, Nat.lt_succ_self _, Weak_keep 0 hm [3, 4, 5, 9, 10, 13, 14, 39, 40] [0] _ _ rfl rfl rfl, _, _, rfl, rfl, h⟩
          · have h := iteF hb66 h
            refine ACode_exit ?_
            cases h
            exact Weak_keep 0 hm [3, 4, 5, 10, 13, 14, 39] [0] _ _ rfl rfl rfl
      intro E' H' hw
      refine ACode_weak hw ?_
      have h := hks68
      obtain ⟨os81, hss81, hks81⟩ := bindO h
      clear h
      refine ACode_seqJ (fun E' H' => ∃ s81 : Unit, os81 = .inl s81 ∧ Weak 322 G E' H' [(3, .ptr 0 0), (4, iV r3.2), (5, .d (.sl none (intsD (r4.1.getD [])))), (10, iV r11.2), (13, bV r18.1), (14, iV r18.2), (39, iV s68)] [.box (colD r3.1)]) ?_ ?_
      · have h := hss81
        clear hss81
        refine ACode_seq (ACode_region ?_)
        refine AOps_q 41 _ rfl rfl rfl (QOp_assign _ _ rfl rfl) ?_
        refine AOps_nil ?_
        refine ACode_block ?_
        refine ACode_loopW (fun k1 E H => ∃ (x69 : Int), E = [(3, .ptr 0 0), (4, iV r3.2), (5, .d (.sl none (intsD (r4.1.getD [])))), (10, iV r11.2), (13, bV r18.1), (14, iV r18.2), (39, iV s68), (41, iV x69)] ∧ H = [.box (colD r3.1)] ∧ laws_FnUps_l1 k r3 r4 k1 x69 = some os81) k _ _ (Weak_keep 0 hm [3, 4, 5, 10, 13, 14, 39, 41] [0] _ _ rfl rfl rfl) ⟨_, rfl, rfl, h⟩ ?_
        clear h
        rintro k1 E H ⟨x69, rfl, rfl, h⟩
        cases k1 with
        | zero => cases (show (none : Option (Sum (Unit) (Bool))) = some _ from h)
        | succ k1 =>
          rw [laws_FnUps_l1] at h
          refine ACode_seq ?_
          refine ACode_seq (ACode_region ?_)
          refine AOps_q 256 _ rfl rfl rfl (QOp_move _ _ rfl rfl) ?_
          refine AOps_q 257 _ rfl rfl rfl (QOp_add _ _ _ _ _ _ _ rfl rfl rfl) ?_
          refine AOps_q 258 _ rfl rfl rfl (QOp_move _ _ rfl rfl) ?_
          refine AOps_q 259 _ rfl rfl rfl (QOp_len_sl _ _ _ _ _ _ _ (intsD_length _) rfl rfl rfl rfl Try.underlying29 rfl) ?_
          refine AOps_q 260 _ rfl rfl rfl (QOp_lss _ _ _ _ _ _ _ rfl rfl rfl) ?_
          refine AOps_nil ?_
          refine ACode_cond _ rfl (fun hb70 => ?_) (fun hb70 => ?_)
          · have h := iteT hb70 h
            refine ACode_skip ?_
            obtain ⟨os80, hss80, hks80⟩ := bindO h
            clear h
            refine ACode_seqJ (fun E' H' => ∃ s80 : Unit, os80 = .inl s80 ∧ Weak 322 G E' H' [(3, .ptr 0 0), (4, iV r3.2), (5, .d (.sl none (intsD (r4.1.getD [])))), (10, iV r11.2), (13, bV r18.1), (14, iV r18.2), (39, iV s68), (41, iV x69)] [.box (colD r3.1)]) ?_ ?_
            · have h := hss80
              clear hss80
              refine ACode_block ?_
              obtain ⟨hc71, h⟩ := guardO h
              obtain ⟨hc72, h⟩ := guardO h
              obtain ⟨r73, hr73, h⟩ := bindO h
              refine ACode_seqJ (fun E' H' => Weak 322 G E' H' [(3, .ptr 0 0), (4, iV r3.2), (5, .d (.sl none (intsD (r4.1.getD [])))), (10, iV r11.2), (13, bV r18.1), (14, iV r18.2), (39, iV s68), (41, iV x69), (42, iV r73.1), (43, iV r73.2)] [.box (colD r3.1)]) ?_ ?_
              · refine ACode_any mixed ?_
                refine AAny_q 0 264 _ rfl (by kernel_rfl) rfl rfl rfl (QOp_loadN_ptr _ _ _ _ _ _ _ rfl Try.isAgg26 Try.sizeOf26 rfl rfl (colD_all _) (colD_length _)) ?_
                refine AAny_q 1 265 _ rfl (by kernel_rfl) rfl rfl rfl (QOp_move _ _ rfl rfl) ?_
                refine AAny_q 2 266 _ rfl (by kernel_rfl) rfl rfl rfl (QOp_move _ _ rfl rfl) ?_
                refine AAny_q 3 267 _ rfl (by kernel_rfl) rfl rfl rfl (QOp_indexAddr_sl _ _ _ _ _ _ _ _ rfl Try.underlying29 Try.sizeOf2 hc71.1 (by rw [intsD_length]; exact hc71.2) rfl rfl) ?_
                refine AAny_q 4 268 _ rfl (by kernel_rfl) rfl rfl rfl (QOp_load_pv _ _ _ _ _ rfl Try.isAgg2 rfl (intsD_get _ _ 0 (by omega))) ?_
                refine AAny_q 5 269 _ rfl (by kernel_rfl) rfl rfl rfl (QOp_move _ _ rfl rfl) ?_
                refine AAny_q 6 270 _ rfl (by kernel_rfl) rfl rfl rfl (QOp_move _ _ rfl rfl) ?_
                refine AAny_q 7 271 _ rfl (by kernel_rfl) rfl rfl rfl (QOp_add _ _ _ _ _ _ _ rfl rfl rfl) ?_
                refine AAny_q 8 272 _ rfl (by kernel_rfl) rfl rfl rfl (QOp_indexAddr_sl _ _ _ _ _ _ _ _ rfl Try.underlying29 Try.sizeOf2 hc72.1 (by rw [intsD_length]; exact hc72.2) rfl rfl) ?_
                refine AAny_q 9 273 _ rfl (by kernel_rfl) rfl rfl rfl (QOp_load_pv _ _ _ _ _ rfl Try.isAgg2 rfl (intsD_get _ _ 0 (by omega))) ?_
                refine AAny_all [10] (by kernel_rfl) rfl (allc ?_ (fun _ h => nomatch h))
                · refine AStep_callN 10 274 _ _ _ _ _ _ _ _ _ rfl rfl rfl rfl rfl rfl rfl rfl Try.call22 rfl rfl rfl (impl_ColourOf_ac k r3.1 ((r4.1.getD []).getD x69.toNat 0) ((r4.1.getD []).getD (w64 (x69 + 1)).toNat 0) _ hr73) ?_
                  rintro _ _ ⟨rfl, rfl⟩
                  refine ⟨(fun _ h => nomatch h), (allc (trivial) (allc (trivial) (fun _ h => nomatch h))), AAny_as 274 (v' := .tup [iV r73.1, iV r73.2]) (H' := [.box (colD r3.1)]) rfl rfl ?_⟩
                  refine AAny_q 11 263 _ rfl (by kernel_rfl) rfl rfl rfl (QOp_move _ _ rfl rfl) ?_
                  refine AAny_q 12 275 _ rfl (by kernel_rfl) rfl rfl rfl (QOp_extract _ _ _ _ rfl rfl rfl) ?_
                  refine AAny_q 13 276 _ rfl (by kernel_rfl) rfl rfl rfl (QOp_extract _ _ _ _ rfl rfl rfl) ?_
                  refine AAny_q 14 42 _ rfl (by kernel_rfl) rfl rfl rfl (QOp_assign _ _ rfl rfl) ?_
                  refine AAny_q 15 43 _ rfl (by kernel_rfl) rfl rfl rfl (QOp_assign _ _ rfl rfl) ?_
                  refine AAny_done (by kernel_rfl) ?_
                  exact Weak_keep 0 hm [3, 4, 5, 10, 13, 14, 39, 41, 42, 43] [0] _ _ rfl rfl rfl
              intro E' H' hw
              refine ACode_weak hw ?_
              obtain ⟨s78, hss78, hks78⟩ := bindO h
              clear h
              refine ACode_seqJ (fun E' H' => Weak 322 G E' H' [(3, .ptr 0 0), (4, iV r3.2), (5, .d (.sl none (intsD (r4.1.getD [])))), (10, iV r11.2), (13, bV r18.1), (14, iV r18.2), (39, iV s68), (41, iV x69), (295, bV s78)] [.box (colD r3.1)]) ?_ ?_
              · have h := hss78
                clear hss78
                refine (ACode_quiet mixed (by kernel_rfl) ?_)
                refine AQ_q 277 _ rfl rfl rfl (QOp_move _ _ rfl rfl) ?_
                refine AQ_q 278 _ rfl rfl rfl (QOp_neq _ _ _ _ _ _ _ rfl rfl rfl) ?_
                refine AQ_q 279 _ rfl rfl rfl (QOp_move _ _ rfl rfl) ?_
                refine AQ_case 279 _ rfl (fun hb74 => ?_) (fun hb74 => ?_)
                · have h := iteT hb74 h
                  refine AQ_skip 280 rfl rfl rfl ?_
                  refine AQ_skip 281 rfl rfl rfl ?_
                  refine AQ_skip 282 rfl rfl rfl ?_
                  refine AQ_q 283 _ rfl rfl rfl (QOp_pick_t _ _ _ _ rfl rfl rfl) ?_
                  refine AQ_q 284 _ rfl rfl rfl (QOp_move _ _ rfl rfl) ?_
                  refine AQ_skip 285 rfl rfl rfl ?_
                  refine AQ_skip 286 rfl rfl rfl ?_
                  refine AQ_skip 287 rfl rfl rfl ?_
                  refine AQ_skip 288 rfl rfl rfl ?_
                  refine AQ_skip 289 rfl rfl rfl ?_
                  refine AQ_skip 290 rfl rfl rfl ?_
                  refine AQ_skip 291 rfl rfl rfl ?_
                  refine AQ_skip 292 rfl rfl rfl ?_
                  refine AQ_skip 293 rfl rfl rfl ?_
                  refine AQ_skip 294 rfl rfl rfl ?_
                  refine AQ_q 295 _ rfl rfl rfl (QOp_pick_t _ _ _ _ rfl rfl rfl) ?_
                  refine AQ_nil ?_
                  cases h
                  exact Weak_keep 0 hm [3, 4, 5, 10, 13, 14, 39, 41, 295] [0] _ _ rfl rfl rfl
                · have h := iteF hb74 h
                  refine AQ_q 280 _ rfl rfl rfl (QOp_move _ _ rfl rfl) ?_
                  refine AQ_q 281 _ rfl rfl rfl (QOp_move _ _ rfl rfl) ?_
                  refine AQ_q 282 _ rfl rfl rfl (QOp_neq _ _ _ _ _ _ _ rfl rfl rfl) ?_
                  refine AQ_q 283 _ rfl rfl rfl (QOp_pick_f _ _ _ _ rfl rfl rfl) ?_
                  refine AQ_q 284 _ rfl rfl rfl (QOp_move _ _ rfl rfl) ?_
                  refine AQ_case 284 _ rfl (fun hb75 => ?_) (fun hb75 => ?_)
                  · have h := iteT hb75 h
                    refine AQ_skip 285 rfl rfl rfl ?_
                    refine AQ_skip 286 rfl rfl rfl ?_
                    refine AQ_skip 287 rfl rfl rfl ?_
                    refine AQ_skip 288 rfl rfl rfl ?_
                    refine AQ_skip 289 rfl rfl rfl ?_
                    refine AQ_skip 290 rfl rfl rfl ?_
                    refine AQ_skip 291 rfl rfl rfl ?_
                    refine AQ_skip 292 rfl rfl rfl ?_
                    refine AQ_skip 293 rfl rfl rfl ?_
                    refine AQ_skip 294 rfl rfl rfl ?_
                    refine AQ_q 295 _ rfl rfl rfl (QOp_pick_t _ _ _ _ rfl rfl rfl) ?_
                    refine AQ_nil ?_
                    cases h
                    exact Weak_keep 0 hm [3, 4, 5, 10, 13, 14, 39, 41, 295] [0] _ _ rfl rfl rfl
                  · have h := iteF hb75 h
                    refine AQ_q 285 _ rfl rfl rfl (QOp_move _ _ rfl rfl) ?_
                    refine AQ_q 286 _ rfl rfl rfl (QOp_move _ _ rfl rfl) ?_
                    obtain ⟨hc76, h⟩ := guardO h
                    refine AQ_q 287 _ rfl rfl rfl (QOp_indexAddr_sl _ _ _ _ _ _ _ _ rfl Try.underlying29 Try.sizeOf2 hc76.1 (by rw [intsD_length]; exact hc76.2) rfl rfl) ?_
                    refine AQ_q 288 _ rfl rfl rfl (QOp_load_pv _ _ _ _ _ rfl Try.isAgg2 rfl (intsD_get _ _ 0 (by omega))) ?_
                    refine AQ_q 289 _ rfl rfl rfl (QOp_move _ _ rfl rfl) ?_
                    refine AQ_q 290 _ rfl rfl rfl (QOp_move _ _ rfl rfl) ?_
                    refine AQ_q 291 _ rfl rfl rfl (QOp_add _ _ _ _ _ _ _ rfl rfl rfl) ?_
                    obtain ⟨hc77, h⟩ := guardO h
                    refine AQ_q 292 _ rfl rfl rfl (QOp_indexAddr_sl _ _ _ _ _ _ _ _ rfl Try.underlying29 Try.sizeOf2 hc77.1 (by rw [intsD_length]; exact hc77.2) rfl rfl) ?_
                    refine AQ_q 293 _ rfl rfl rfl (QOp_load_pv _ _ _ _ _ rfl Try.isAgg2 rfl (intsD_get _ _ 0 (by omega))) ?_
                    refine AQ_q 294 _ rfl rfl rfl (QOp_geq _ _ _ _ _ _ _ rfl rfl rfl) ?_
                    refine AQ_q 295 _ rfl rfl rfl (QOp_pick_f _ _ _ _ rfl rfl rfl) ?_
                    refine AQ_nil ?_
                    cases h
                    exact Weak_keep 0 hm [3, 4, 5, 10, 13, 14, 39, 41, 295] [0] _ _ rfl rfl rfl
              intro E' H' hw
              refine ACode_weak hw ?_
              have h := hks78
              refine ACode_cond _ rfl (fun hb79 => ?_) (fun hb79 => ?_)
              · have h := iteT hb79 h
                refine ACode_seq (ACode_region ?_)
                refine AOps_q 2 _ rfl rfl rfl (QOp_assign _ _ rfl rfl) ?_
                refine AOps_nil ?_
                refine ACode_ret ?_
                obtain ⟨rr, hz91, h2⟩ := bindO h
                obtain rfl := Option.some.inj h2
                obtain rfl := Option.some.inj (show some rr = some _ from hks80)
                have h := hz91
                cases h
                have h := hks81
                cases h
                exact ⟨_, _, fun r a w h => ⟨r, h⟩, _, _, [], _, (.cons (ResV_tmp _ _ rfl) .nil), rfl, rfl, rfl, rfl, rfl⟩
              · have h := iteF hb79 h
                refine ACode_skip ?_
                cases h
                exact ⟨_, rfl, Weak_keep 0 hm [3, 4, 5, 10, 13, 14, 39, 41] [0] _ _ rfl rfl rfl⟩
            rintro E' H' ⟨s80, rfl, hw⟩
            refine ACode_weak hw ?_
            have h := hks80
            refine (ACode_region ?_)
            refine AOps_q 261 _ rfl rfl rfl (QOp_move _ _ rfl rfl) ?_
            refine AOps_q 262 _ rfl rfl rfl (QOp_add _ _ _ _ _ _ _ rfl rfl rfl) ?_
            refine AOps_q 41 _ rfl rfl rfl (QOp_assign _ _ rfl rfl) ?_
            refine AOps_nil ?_
            exact ⟨k1, _, _, Nat.lt_succ_self _, Weak_keep 0 hm [3, 4, 5, 10, 13, 14, 39, 41] [0] _ _ rfl rfl rfl, _, rfl, rfl, h⟩
          · have h := iteF hb70 h
            refine ACode_exit ?_
            cases h
            exact ⟨_, rfl, Weak_keep 0 hm [3, 4, 5, 10, 13, 14, 39] [0] _ _ rfl rfl rfl⟩
      rintro E' H' ⟨s81, rfl, hw⟩
      refine ACode_weak hw ?_
      have h := hks81
      obtain ⟨os87, hss87, hks87⟩ := bindO h
      clear h
      refine ACode_seqJ (fun E' H' => ∃ s87 : Unit, os87 = .inl s87 ∧ Weak 322 G E' H' [(5, .d (.sl none (intsD (r4.1.getD [])))), (10, iV r11.2), (14, iV r18.2), (39, iV s68)] []) ?_ ?_
      · have h := hss87
        clear hss87
        refine ACode_seq (ACode_region ?_)
        refine AOps_q 296 _ rfl rfl rfl (QOp_move _ _ rfl rfl) ?_
        refine AOps_nil ?_
        refine ACode_cond _ rfl (fun hb82 => ?_) (fun hb82 => ?_)
        · have h := iteT hb82 h
          refine ACode_seq (ACode_region ?_)
          refine AOps_q 298 _ rfl rfl rfl (QOp_loadN_ptr _ _ _ _ _ _ _ rfl Try.isAgg26 Try.sizeOf26 rfl rfl (colD_all _) (colD_length _)) ?_
          refine AOps_q 299 _ rfl rfl rfl (QOp_move _ _ rfl rfl) ?_
          refine AOps_q 300 _ rfl rfl rfl (QOp_move _ _ rfl rfl) ?_
          obtain ⟨r83, hr83, h⟩ := bindO h
          refine AOps_call [] 301 _ _ _ _ _ _ _ _ _ _ rfl rfl rfl rfl rfl rfl rfl Try.call23 rfl (nodupB_sound _ rfl) rfl rfl rfl (impl_IsClique_ac k r3.1 r3.2 (r4.1.getD []) _ hr83) ?_
          rintro _ _ ⟨rfl, rfl⟩
          refine ⟨(fun _ h => nomatch h), (allc (trivial) (allc (trivial) (fun _ h => nomatch h))), AOps_as 301 (v' := .tup [bV r83.1, iV r83.2]) (H' := [.box (colD r3.1)]) rfl rfl ?_⟩
          refine AOps_q 297 _ rfl rfl rfl (QOp_move _ _ rfl rfl) ?_
          refine AOps_q 302 _ rfl rfl rfl (QOp_extract _ _ _ _ rfl rfl rfl) ?_
          refine AOps_q 303 _ rfl rfl rfl (QOp_extract _ _ _ _ rfl rfl rfl) ?_
          refine AOps_q 44 _ rfl rfl rfl (QOp_assign _ _ rfl rfl) ?_
          refine AOps_q 45 _ rfl rfl rfl (QOp_assign _ _ rfl rfl) ?_
          refine AOps_nil ?_
          obtain ⟨s85, hss85, hks85⟩ := letS h
          clear h
          refine ACode_seqJ (fun E' H' => Weak 322 G E' H' [(5, .d (.sl none (intsD (r4.1.getD [])))), (10, iV r11.2), (14, iV r18.2), (39, iV s68), (309, bV s85)] []) ?_ ?_
          · have h := hss85
            clear hss85
            refine (ACode_region ?_)
            refine AOps_q 304 _ rfl rfl rfl (QOp_move _ _ rfl rfl) ?_
            refine AOps_q 305 _ rfl rfl rfl (QOp_neq _ _ _ _ _ _ _ rfl rfl rfl) ?_
            refine AOps_q 306 _ rfl rfl rfl (QOp_move _ _ rfl rfl) ?_
            refine AOps_case 306 _ rfl (fun hb84 => ?_) (fun hb84 => ?_)
            · have h := iteT hb84 h
              refine AOps_skip 307 rfl rfl rfl ?_
              refine AOps_skip 308 rfl rfl rfl ?_
              refine AOps_q 309 _ rfl rfl rfl (QOp_pick_t _ _ _ _ rfl rfl rfl) ?_
              refine AOps_nil ?_
              cases h
              exact Weak_keep 0 hm [5, 10, 14, 39, 309] [] _ _ rfl rfl rfl
            · have h := iteF hb84 h
              refine AOps_q 307 _ rfl rfl rfl (QOp_move _ _ rfl rfl) ?_
              refine AOps_q 308 _ rfl rfl rfl (QOp_not _ _ _ rfl rfl) ?_
              refine AOps_q 309 _ rfl rfl rfl (QOp_pick_f _ _ _ _ rfl rfl rfl) ?_
              refine AOps_nil ?_
              cases h
              exact Weak_keep 0 hm [5, 10, 14, 39, 309] [] _ _ rfl rfl rfl
          intro E' H' hw
          refine ACode_weak hw ?_
          have h := hks85
          refine ACode_cond _ rfl (fun hb86 => ?_) (fun hb86 => ?_)
          · have h := iteT hb86 h
            refine ACode_seq (ACode_region ?_)
            refine AOps_q 2 _ rfl rfl rfl (QOp_assign _ _ rfl rfl) ?_
            refine AOps_nil ?_
            refine ACode_ret ?_
            cases h
            have h := hks87
            cases h
            exact ⟨_, _, fun r a w h => ⟨r, h⟩, _, _, [], _, (.cons (ResV_tmp _ _ rfl) .nil), rfl, rfl, rfl, rfl, rfl⟩
          · have h := iteF hb86 h
            refine ACode_skip ?_
            cases h
            exact ⟨_, rfl, Weak_keep 0 hm [5, 10, 14, 39] [] _ _ rfl rfl rfl⟩
        · have h := iteF hb82 h
          refine ACode_skip ?_
          cases h
          exact ⟨_, rfl, Weak_keep 0 hm [5, 10, 14, 39] [] _ _ rfl rfl rfl⟩
      rintro E' H' ⟨s87, rfl, hw⟩
      refine ACode_weak hw ?_
      have h := hks87
      obtain ⟨s90, hss90, hks90⟩ := letS h
      clear h
      refine ACode_seqJ (fun E' H' => Weak 322 G E' H' [(2, bV s90)] []) ?_ ?_
      · have h := hss90
        clear hss90
        refine (ACode_region ?_)
        refine AOps_q 310 _ rfl rfl rfl (QOp_move _ _ rfl rfl) ?_
        refine AOps_q 311 _ rfl rfl rfl (QOp_eql _ _ _ _ _ _ _ rfl rfl rfl) ?_
        refine AOps_q 312 _ rfl rfl rfl (QOp_move _ _ rfl rfl) ?_
        refine AOps_case 312 _ rfl (fun hb88 => ?_) (fun hb88 => ?_)
        · have h := iteT hb88 h
          refine AOps_q 313 _ rfl rfl rfl (QOp_move _ _ rfl rfl) ?_
          refine AOps_q 314 _ rfl rfl rfl (QOp_eql _ _ _ _ _ _ _ rfl rfl rfl) ?_
          refine AOps_q 315 _ rfl rfl rfl (QOp_pick_t _ _ _ _ rfl rfl rfl) ?_
          refine AOps_q 316 _ rfl rfl rfl (QOp_move _ _ rfl rfl) ?_
          refine AOps_case 316 _ rfl (fun hb89 => ?_) (fun hb89 => ?_)
          · have h := iteT hb89 h
            refine AOps_q 317 _ rfl rfl rfl (QOp_move _ _ rfl rfl) ?_
            refine AOps_q 318 _ rfl rfl rfl (QOp_len_sl _ _ _ _ _ _ _ (intsD_length _) rfl rfl rfl rfl Try.underlying29 rfl) ?_
            refine AOps_q 319 _ rfl rfl rfl (QOp_move _ _ rfl rfl) ?_
            refine AOps_q 320 _ rfl rfl rfl (QOp_eql _ _ _ _ _ _ _ rfl rfl rfl) ?_
            refine AOps_q 321 _ rfl rfl rfl (QOp_pick_t _ _ _ _ rfl rfl rfl) ?_
            refine AOps_q 2 _ rfl rfl rfl (QOp_assign _ _ rfl rfl) ?_
            refine AOps_nil ?_
            cases h
            exact Weak_keep 0 hm [2] [] _ _ rfl rfl rfl
          · have h := iteF hb89 h
            refine AOps_skip 317 rfl rfl rfl ?_
            refine AOps_skip 318 rfl rfl rfl ?_
            refine AOps_skip 319 rfl rfl rfl ?_
            refine AOps_skip 320 rfl rfl rfl ?_
            refine AOps_q 321 _ rfl rfl rfl (QOp_pick_f _ _ _ _ rfl rfl rfl) ?_
            refine AOps_q 2 _ rfl rfl rfl (QOp_assign _ _ rfl rfl) ?_
            refine AOps_nil ?_
            cases h
            exact Weak_keep 0 hm [2] [] _ _ rfl rfl rfl
        · have h := iteF hb88 h
          refine AOps_skip 313 rfl rfl rfl ?_
          refine AOps_skip 314 rfl rfl rfl ?_
          refine AOps_q 315 _ rfl rfl rfl (QOp_pick_f _ _ _ _ rfl rfl rfl) ?_
          refine AOps_q 316 _ rfl rfl rfl (QOp_move _ _ rfl rfl) ?_
          refine AOps_skip 317 rfl rfl rfl ?_
          refine AOps_skip 318 rfl rfl rfl ?_
          refine AOps_skip 319 rfl rfl rfl ?_
          refine AOps_skip 320 rfl rfl rfl ?_
          refine AOps_q 321 _ rfl rfl rfl (QOp_pick_f _ _ _ _ rfl rfl rfl) ?_
          refine AOps_q 2 _ rfl rfl rfl (QOp_assign _ _ rfl rfl) ?_
          refine AOps_nil ?_
          cases h
          exact Weak_keep 0 hm [2] [] _ _ rfl rfl rfl
      intro E' H' hw
      refine ACode_weak hw ?_
      have h := hks90
      refine ACode_ret ?_
      cases h
      exact ⟨_, _, fun r a w h => ⟨r, h⟩, _, _, [], _, (.cons (ResV_tmp _ _ rfl) .nil), rfl, rfl, rfl, rfl, rfl⟩

end Go.Proofs.Ytfpcopidcagdaaa
