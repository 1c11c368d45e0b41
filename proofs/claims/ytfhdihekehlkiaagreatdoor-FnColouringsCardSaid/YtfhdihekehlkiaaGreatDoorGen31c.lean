/- Plain functions of the program and that the program computes them: printed by the own tool gen.py. No conditions. -/
import Derived.Test.YtfhdihekehlkiaaGreatDoorGen31b
set_option linter.unusedVariables false
set_option linter.unusedSimpArgs false
namespace Go.Proofs.YtfhdihekehlkiaaGreatDoor
open Go Go.RowKit Ab

-- loop.example/g01362/spec.ColouringOf
def spec_ColouringOf_l0 (p2 : List Int) : Nat → Int → Col → Option (Col)
 | 0, _, _ => none
 | k0 + 1, x10, x11 => (if decide (x10 < (p2.length : Int)) then (if 0 ≤ x10 ∧ x10 < (p2.length : Int) then (if 0 ≤ x10 ∧ x10 < 136 then spec_ColouringOf_l0 p2 k0 (w64 (x10 + 1)) (x11.set x10.toNat (toByte (p2.getD x10.toNat 0))) else none) else none) else some x11)
def spec_ColouringOf (k : Nat) (p0 : Int) (p1 : Int) (p2 : List Int) : Option (Col × Int) :=
 (((if !(spec_l01In p0 1 17) then some true else (if !(spec_l01In p1 1 4) then some true else (if !decide ((p2.length : Int) = w64 ((w64 (p0 * (w64 (p0 - 1)))).tdiv 2)) then some true else (spec_l01All k p2 p1).bind fun r6 => some (!r6)))) : Option (Bool)).bind fun s7 => (if s7 then some (.inr ((⟨0, 0, B136.zero⟩ : Col), 2)) else some (.inl ())) : Option (Sum (Unit) (Col × Int))).bind fun os9 => (match os9 with | .inl s9 => (spec_ColouringOf_l0 p2 k 0 (⟨p0, p1, B136.zero⟩ : Col) : Option (Col)).bind fun s15 => some (s15, 0) | .inr rr => some rr)
set_option maxRecDepth 100000 in
theorem spec_ColouringOf_ac (k : Nat) (p0 : Int) (p1 : Int) (p2 : List Int) (r : Col × Int) (h : spec_ColouringOf k p0 p1 p2 = some r) : AC Tryz.prog 24 [iV p0, iV p1, .d (.sl none (intsD p2))] [] (fun res H' => res = [.d (.agg (colD r.1)), iV r.2] ∧ H' = []) := by
 refine AC_of_body true Tryz.func24 rfl Tryz.ntmps24 (rvs := [.cell 6 26, .tmp 7]) rfl rfl (fun G hG => ?_)
 have hm : G.H.length = 0 := by rw [hG]; rfl
 have hz : zeroG G.H = true := by rw [hG]; rfl
 unfold spec_ColouringOf at h
 refine kR ?_
 refine AOps_alloc 6 _ _ (colD Col.zero) (zero_of Tryz.typeInfo26 rfl) (by rfl) rfl rfl rfl rfl ?_
 refine kN 1 rfl ?_
 refine kO (fun s9 => [(0, iV p0), (1, iV p1), (2, .d (.sl none (intsD p2))), (6, .ptr 0 0)]) (fun s9 => [.box (colD Col.zero)]) h (fun os9 h hks9 => ?_) (fun s9 h => ?_)
 ·refine kB (fun s7 => [(0, iV p0), (1, iV p1), (2, .d (.sl none (intsD p2))), (6, .ptr 0 0), (33, bV s7)]) (fun s7 => [.box (colD Col.zero)]) h (fun s7 h => ?_) (fun s7 h => ?_)
  ·refine (ACode_region ?_)
   refine kM 1 rfl ?_
   refine kC [] 11 (bV (spec_l01In p0 1 17)) [.box (colD Col.zero)] rfl Tryz.call73 rfl rfl (spec_l01In_ac p0 1 17) rfl ?_
   refine AOps_q 12 _ rfl rfl rfl (QOp_not _ _ _ rfl rfl) ?_
   refine kM 1 rfl ?_
   refine AOps_case 13 _ rfl (fun hb2 => ?_) (fun hb2 => ?_)
   ·have h := iteT hb2 h
    refine AOps_skip 14 rfl rfl rfl ?_
    refine AOps_skip 15 rfl rfl rfl ?_
    refine AOps_skip 16 rfl rfl rfl ?_
    refine kM 2 rfl ?_
    refine AOps_skip 19 rfl rfl rfl ?_
    refine AOps_skip 20 rfl rfl rfl ?_
    refine AOps_skip 21 rfl rfl rfl ?_
    refine AOps_skip 22 rfl rfl rfl ?_
    refine AOps_skip 23 rfl rfl rfl ?_
    refine AOps_skip 24 rfl rfl rfl ?_
    refine AOps_skip 25 rfl rfl rfl ?_
    refine AOps_skip 26 rfl rfl rfl ?_
    refine kM 2 rfl ?_
    refine AOps_skip 29 rfl rfl rfl ?_
    refine AOps_skip 30 rfl rfl rfl ?_
    refine AOps_skip 31 rfl rfl rfl ?_
    refine AOps_skip 32 rfl rfl rfl ?_
    refine kN 1 rfl ?_
    cases h
    exact Weak_keep 0 hm [0, 1, 2, 6, 33] [0] _ _ rfl rfl rfl
   have h := iteF hb2 h
   refine kM 1 rfl ?_
   refine kC [] 15 (bV (spec_l01In p1 1 4)) [.box (colD Col.zero)] rfl Tryz.call73 rfl rfl (spec_l01In_ac p1 1 4) rfl ?_
   refine AOps_q 16 _ rfl rfl rfl (QOp_not _ _ _ rfl rfl) ?_
   refine kM 2 rfl ?_
   refine AOps_case 18 _ rfl (fun hb4 => ?_) (fun hb4 => ?_)
   ·have h := iteT hb4 h
    refine AOps_skip 19 rfl rfl rfl ?_
    refine AOps_skip 20 rfl rfl rfl ?_
    refine AOps_skip 21 rfl rfl rfl ?_
    refine AOps_skip 22 rfl rfl rfl ?_
    refine AOps_skip 23 rfl rfl rfl ?_
    refine AOps_skip 24 rfl rfl rfl ?_
    refine AOps_skip 25 rfl rfl rfl ?_
    refine AOps_skip 26 rfl rfl rfl ?_
    refine kM 2 rfl ?_
    refine AOps_skip 29 rfl rfl rfl ?_
    refine AOps_skip 30 rfl rfl rfl ?_
    refine AOps_skip 31 rfl rfl rfl ?_
    refine AOps_skip 32 rfl rfl rfl ?_
    refine kN 1 rfl ?_
    cases h
    exact Weak_keep 0 hm [0, 1, 2, 6, 33] [0] _ _ rfl rfl rfl
   have h := iteF hb4 h
   refine kM 1 rfl ?_
   refine AOps_q 20 _ rfl rfl rfl (QOp_len_sl _ _ _ _ _ _ _ (intsD_length _) rfl rfl rfl rfl Tryz.underlying34 rfl) ?_
   refine kM 2 rfl ?_
   refine AOps_q 23 _ rfl rfl rfl (QOp_sub _ _ _ _ _ _ _ rfl rfl rfl) ?_
   refine AOps_q 24 _ rfl rfl rfl (QOp_mul _ _ _ _ _ _ _ rfl rfl rfl) ?_
   refine AOps_q 25 _ rfl rfl rfl (QOp_quo _ _ _ _ _ _ _ (by decide) rfl rfl rfl) ?_
   refine AOps_q 26 _ rfl rfl rfl (QOp_neq _ _ _ _ _ _ _ rfl rfl rfl) ?_
   refine kM 2 rfl ?_
   refine AOps_case 28 _ rfl (fun hb5 => ?_) (fun hb5 => ?_)
   ·have h := iteT hb5 h
    refine AOps_skip 29 rfl rfl rfl ?_
    refine AOps_skip 30 rfl rfl rfl ?_
    refine AOps_skip 31 rfl rfl rfl ?_
    refine AOps_skip 32 rfl rfl rfl ?_
    refine kN 1 rfl ?_
    cases h
    exact Weak_keep 0 hm [0, 1, 2, 6, 33] [0] _ _ rfl rfl rfl
   have h := iteF hb5 h
   refine kM 2 rfl ?_
   obtain ⟨r6, hr6, h⟩ := bindO h
   refine kC [] 31 (bV r6) [.box (colD Col.zero)] rfl Tryz.call74 rfl rfl (spec_l01All_ac k p2 p1 _ hr6) rfl ?_
   refine AOps_q 32 _ rfl rfl rfl (QOp_not _ _ _ rfl rfl) ?_
   refine kN 1 rfl ?_
   cases h
   exact Weak_keep 0 hm [0, 1, 2, 6, 33] [0] _ _ rfl rfl rfl
  refine kI h rfl (fun h _ => ?_) (fun h _ => ?_)
  ·refine kR ?_
   refine AOps_q 34 _ rfl rfl rfl (QOp_build _ _ [] [] [] _ (colD Col.zero) (colD (⟨0, 0, B136.zero⟩ : Col)) [(0, 1), (1, 1), (2, 136)] rfl rfl Tryz.underlying26 (zero_of Tryz.typeInfo26 rfl) (fun w => by simp [Tryz.sizeOf2, Tryz.sizeOf2, Tryz.sizeOf24]) rfl (by rfl) (by rfl) (fun _ h => nomatch h)) ?_
   refine AOps_store _ _ _ _ _ _ (colD _) _ _ rfl rfl rfl rfl rfl rfl rfl (colD_one _) (by rw [colD_length]; exact Tryz.sizeOf26) (by rw [colD_length, colD_length]; decide) (colD_whole _ _) ?_
   refine kN 1 rfl ?_
   refine ACode_ret ?_
   cases h
   have h := hks9
   cases h
   exact ⟨_, _, fun r a w h => ⟨r, h⟩, _, _, [], _, (.cons (ResV_agg _ _ _ _ _ _ Tryz.isAgg26 Tryz.sizeOf26 rfl rfl (colD_take _) (colD_length _)) (.cons (ResV_tmp _ _ rfl) .nil)), rfl, rfl, rfl, rfl, rfl⟩
  refine ACode_skip ?_
  cases h
  exact ⟨_, rfl, Weak_keep 0 hm [0, 1, 2, 6] [0] _ _ rfl rfl rfl⟩
 refine kR ?_
 refine kM 2 rfl ?_
 refine AOps_q 37 _ rfl rfl rfl (QOp_build _ _ [_, _] [0, 1] [iD p0, iD p1] _ (colD Col.zero) (colD (⟨p0, p1, B136.zero⟩ : Col)) [(0, 1), (1, 1), (2, 136)] rfl rfl Tryz.underlying26 (zero_of Tryz.typeInfo26 rfl) (fun w => by simp [Tryz.sizeOf2, Tryz.sizeOf2, Tryz.sizeOf24]) rfl (by rfl) (by rfl) (allc (ok1 rfl) (allc (ok1 rfl) (fun _ h => nomatch h)))) ?_
 refine AOps_alloc 8 _ _ (colD Col.zero) (zero_of Tryz.typeInfo26 rfl) (by rfl) rfl rfl rfl rfl ?_
 refine AOps_store _ _ _ _ _ _ (colD _) _ _ rfl rfl rfl rfl rfl rfl rfl (colD_one _) (by rw [colD_length]; exact Tryz.sizeOf26) (by rw [colD_length, colD_length]; decide) (colD_whole _ _) ?_
 refine AOps_nil ?_
 refine kB (fun s15 => [(6, .ptr 0 0), (8, .ptr 1 0)]) (fun s15 => [.box (colD Col.zero), .box (colD s15)]) h (fun s15 h => ?_) (fun s15 h => ?_)
 ·refine kR ?_
  refine kN 1 rfl ?_
  refine ACode_block ?_
  refine ACode_loopW (fun k0 E H => ∃ (x10 : Int) (x11 : Col), E = [(2, .d (.sl none (intsD p2))), (6, .ptr 0 0), (8, .ptr 1 0), (9, iV x10)] ∧ H = [.box (colD Col.zero), .box (colD x11)] ∧ spec_ColouringOf_l0 p2 k0 x10 x11 = some s15) k _ _ (Weak_keep 0 hm [2, 6, 8, 9] [0, 1] _ _ rfl rfl rfl) ⟨_, _, rfl, rfl, h⟩ ?_
  clear h
  rintro k0 E H ⟨x10, x11, rfl, rfl, h⟩
  cases k0 with
  | zero => cases (show (none : Option (Col)) = some _ from h)
  | succ k0 =>
   rw [spec_ColouringOf_l0] at h
   refine ACode_seq ?_
   refine kR ?_
   refine kM 2 rfl ?_
   refine AOps_q 40 _ rfl rfl rfl (QOp_len_sl _ _ _ _ _ _ _ (intsD_length _) rfl rfl rfl rfl Tryz.underlying34 rfl) ?_
   refine AOps_q 41 _ rfl rfl rfl (QOp_lss _ _ _ _ _ _ _ rfl rfl rfl) ?_
   refine AOps_nil ?_
   refine kI h rfl (fun h _ => ?_) (fun h _ => ?_)
   ·refine ACode_skip ?_
    refine ACode_seq ?_
    refine ACode_block ?_
    refine (ACode_region ?_)
    refine kM 3 rfl ?_
    obtain ⟨hc13, h⟩ := guardO h
    refine AOps_q 47 _ rfl rfl rfl (QOp_indexAddr_sl _ _ _ _ _ _ _ _ rfl Tryz.underlying34 Tryz.sizeOf2 hc13.1 (by rw [intsD_length]; exact hc13.2) rfl rfl) ?_
    refine AOps_q 48 _ rfl rfl rfl (QOp_load_pv _ _ _ _ _ rfl Tryz.isAgg2 rfl (intsD_get _ _ 0 (by omega))) ?_
    refine AOps_q 49 _ rfl rfl rfl (QOp_toByte _ _ _ _ _ rfl rfl Tryz.underlying5 rfl) ?_
    refine AOps_q 50 _ rfl rfl rfl (QOp_fieldAddr_ptr _ _ _ _ _ _ 2 _ _ rfl Tryz.underlying26 rfl _ Tryz.sizeOf24 rfl rfl rfl rfl) ?_
    obtain ⟨hc14, h⟩ := guardO h
    refine AOps_q 51 _ rfl rfl rfl (QOp_indexAddrA_ptr _ _ _ _ _ _ _ _ _ _ rfl Tryz.underlying24 Tryz.sizeOf5 hc14.1 hc14.2 rfl rfl rfl rfl) ?_
    refine AOps_store1 _ _ _ _ _ _ (colD (x11.set x10.toNat (toByte (p2.getD x10.toNat 0)))) _ rfl rfl rfl rfl rfl rfl rfl Tryz.sizeOf5 (by rw [colD_length]; omega) (colD_setE x11 x10.toNat (toByte (p2.getD x10.toNat 0))) ?_
    refine AOps_nil ?_
    refine (ACode_region ?_)
    refine kM 1 rfl ?_
    refine AOps_q 43 _ rfl rfl rfl (QOp_add _ _ _ _ _ _ _ rfl rfl rfl) ?_
    refine kN 1 rfl ?_
    exact ⟨k0, _, _, Nat.lt_succ_self _, Weak_keep 0 hm [2, 6, 8, 9] [0, 1] _ _ rfl rfl rfl, _, _, rfl, rfl, h⟩
   refine ACode_exit ?_
   cases h
   exact Weak_keep 0 hm [6, 8] [0, 1] _ _ rfl rfl rfl
 refine kR ?_
 refine AOps_q 52 _ rfl rfl rfl (QOp_loadN_ptr _ _ _ _ _ _ _ rfl Tryz.isAgg26 Tryz.sizeOf26 rfl rfl (colD_all _) (colD_length _)) ?_
 refine AOps_store _ _ _ _ _ _ (colD _) _ _ rfl rfl rfl rfl rfl rfl rfl (colD_one _) (by rw [colD_length]; exact Tryz.sizeOf26) (by rw [colD_length, colD_length]; decide) (colD_whole _ _) ?_
 refine kN 1 rfl ?_
 refine ACode_ret ?_
 cases h
 exact ⟨_, _, fun r a w h => ⟨r, h⟩, _, _, [], _, (.cons (ResV_agg _ _ _ _ _ _ Tryz.isAgg26 Tryz.sizeOf26 rfl rfl (colD_take _) (colD_length _)) (.cons (ResV_tmp _ _ rfl) .nil)), rfl, rfl, rfl, rfl, rfl⟩

-- loop.example/g01362/spec.DrawColourOf
def spec_DrawColourOf (k : Nat) (p0 : List UInt8) : Option (Col × Int × Int) :=
 (spec_l01Given2 k p0).bind fun r1 => some (r1.1, r1.2.1, r1.2.2.1)
set_option maxRecDepth 100000 in
theorem spec_DrawColourOf_ac (k : Nat) (p0 : List UInt8) (r : Col × Int × Int) (h : spec_DrawColourOf k p0 = some r) : AC Tryz.prog 25 [.d (.sl none (bysD p0))] [] (fun res H' => res = [.d (.agg (colD r.1)), iV r.2.1, iV r.2.2] ∧ H' = []) := by
 refine AC_of_body true Tryz.func25 rfl Tryz.ntmps25 (rvs := [.cell 2 26, .tmp 3, .tmp 4]) rfl rfl (fun G hG => ?_)
 have hm : G.H.length = 0 := by rw [hG]; rfl
 have hz : zeroG G.H = true := by rw [hG]; rfl
 unfold spec_DrawColourOf at h
 refine kR ?_
 refine AOps_alloc 2 _ _ (colD Col.zero) (zero_of Tryz.typeInfo26 rfl) (by rfl) rfl rfl rfl rfl ?_
 refine kN 2 rfl ?_
 refine kR ?_
 refine kM 1 rfl ?_
 obtain ⟨r1, hr1, h⟩ := bindO h
 refine kC [] 11 (.tup [.d (.agg (colD r1.1)), iV r1.2.1, iV r1.2.2.1, iV r1.2.2.2]) [.box (colD Col.zero)] rfl Tryz.call36 rfl rfl (spec_l01Given2_ac k p0 _ hr1) rfl ?_
 refine kM 5 rfl ?_
 refine AOps_alloc 5 _ _ (colD Col.zero) (zero_of Tryz.typeInfo26 rfl) (by rfl) rfl rfl rfl rfl ?_
 refine AOps_store _ _ _ _ _ _ (colD _) _ _ rfl rfl rfl rfl rfl rfl rfl (colD_one _) (by rw [colD_length]; exact Tryz.sizeOf26) (by rw [colD_length, colD_length]; decide) (colD_whole _ _) ?_
 refine kN 3 rfl ?_
 refine kR ?_
 refine AOps_q 16 _ rfl rfl rfl (QOp_loadN_ptr _ _ _ _ _ _ _ rfl Tryz.isAgg26 Tryz.sizeOf26 rfl rfl (colD_all _) (colD_length _)) ?_
 refine kM 2 rfl ?_
 refine AOps_store _ _ _ _ _ _ (colD _) _ _ rfl rfl rfl rfl rfl rfl rfl (colD_one _) (by rw [colD_length]; exact Tryz.sizeOf26) (by rw [colD_length, colD_length]; decide) (colD_whole _ _) ?_
 refine kN 2 rfl ?_
 refine ACode_ret ?_
 cases h
 exact ⟨_, _, fun r a w h => ⟨r, h⟩, _, _, [], _, (.cons (ResV_agg _ _ _ _ _ _ Tryz.isAgg26 Tryz.sizeOf26 rfl rfl (colD_take _) (colD_length _)) (.cons (ResV_tmp _ _ rfl) (.cons (ResV_tmp _ _ rfl) .nil))), rfl, rfl, rfl, rfl, rfl⟩

-- loop.example/g01362/spec.ColourOf
def spec_ColourOf (k : Nat) (p0 : Col) (p1 : Int) (p2 : Int) : Option (Int × Int) :=
 (spec_l01Given k p0 0 ([p1, p2])).bind fun r1 => letO (letO (if decide (r1 = 0) then decide (p1 = p2) else false) fun (s3 : Bool) => (if s3 then 2 else r1)) fun (s5 : Int) => (if !decide (s5 = 0) then some (0, s5) else (spec_l01At p0 p1 p2).bind fun r7 => some (r7, 0))
set_option maxRecDepth 100000 in
theorem spec_ColourOf_ac (k : Nat) (p0 : Col) (p1 : Int) (p2 : Int) (r : Int × Int) (h : spec_ColourOf k p0 p1 p2 = some r) : AC Tryz.prog 26 [.d (.agg (colD p0)), iV p1, iV p2] [] (fun res H' => res = [iV r.1, iV r.2] ∧ H' = []) := by
 refine AC_of_body true Tryz.func26 rfl Tryz.ntmps26 (rvs := [.tmp 6, .tmp 7]) rfl rfl (fun G hG => ?_)
 have hm : G.H.length = 0 := by rw [hG]; rfl
 have hz : zeroG G.H = true := by rw [hG]; rfl
 unfold spec_ColourOf at h
 refine kR ?_
 refine AOps_boxI 3 _ _ (.agg (colD p0)) (colD p0) rfl (colD_one _) rfl rfl rfl rfl rfl ?_
 refine kN 2 rfl ?_
 refine kR ?_
 refine AOps_q 9 _ rfl rfl rfl (QOp_loadN_pv _ _ _ _ _ _ rfl Tryz.isAgg26 Tryz.sizeOf26 rfl (colD_all _) (colD_length _)) ?_
 refine kM 2 rfl ?_
 refine AOps_buildSlice 12 _ _ _ [_, _] (intsD ([p1, p2])) _ rfl rfl rfl rfl rfl (by decide) Tryz.underlying34 Tryz.sizeOf2 (zero_of Tryz.typeInfo2 rfl) rfl rfl (intsD_one _) ?_
 obtain ⟨r1, hr1, h⟩ := bindO h
 refine AOps_callL [] 13 _ _ _ _ _ _ _ _ _ _ rfl rfl rfl rfl rfl rfl rfl Tryz.call42 rfl (nodupB_sound _ rfl) rfl rfl rfl (spec_l01Given_ac k p0 0 ([p1, p2]) _ hr1) ?_
 rintro _ _ ⟨rfl, rfl⟩
 refine ⟨(fun _ h => nomatch h), (allc (flat_s _) (fun _ h => nomatch h)), AOps_as 13 (v' := iV r1) (H' := [.vec 0 (intsD ([p1, p2]))]) rfl rfl ?_⟩
 refine kN 1 rfl ?_
 refine kL (fun s5 => [(1, iV p1), (2, iV p2), (3, .d (.pv (colD p0) 0)), (8, iV s5)]) (fun s5 => []) h (fun s5 h => ?_) (fun s5 h => ?_)
 ·refine kL (fun s3 => [(1, iV p1), (2, iV p2), (3, .d (.pv (colD p0) 0)), (8, iV r1), (20, bV s3)]) (fun s3 => []) h (fun s3 h => ?_) (fun s3 h => ?_)
  ·refine (ACode_region ?_)
   refine kM 1 rfl ?_
   refine AOps_q 15 _ rfl rfl rfl (QOp_eql _ _ _ _ _ _ _ rfl rfl rfl) ?_
   refine kM 1 rfl ?_
   refine AOps_case 16 _ rfl (fun hb2 => ?_) (fun hb2 => ?_)
   ·have h := iteT hb2 h
    refine kM 2 rfl ?_
    refine AOps_q 19 _ rfl rfl rfl (QOp_eql _ _ _ _ _ _ _ rfl rfl rfl) ?_
    refine kN 1 rfl ?_
    cases h
    exact Weak_keep 0 hm [1, 2, 3, 8, 20] [] _ _ rfl rfl rfl
   have h := iteF hb2 h
   refine AOps_skip 17 rfl rfl rfl ?_
   refine AOps_skip 18 rfl rfl rfl ?_
   refine AOps_skip 19 rfl rfl rfl ?_
   refine kN 1 rfl ?_
   cases h
   exact Weak_keep 0 hm [1, 2, 3, 8, 20] [] _ _ rfl rfl rfl
  refine kI h rfl (fun h _ => ?_) (fun h _ => ?_)
  ·refine (ACode_region ?_)
   refine kN 1 rfl ?_
   cases h
   exact Weak_keep 0 hm [1, 2, 3, 8] [] _ _ rfl rfl rfl
  refine ACode_skip ?_
  cases h
  exact Weak_keep 0 hm [1, 2, 3, 8] [] _ _ rfl rfl rfl
 refine ACode_seq ?_
 refine kR ?_
 refine kM 1 rfl ?_
 refine AOps_q 22 _ rfl rfl rfl (QOp_neq _ _ _ _ _ _ _ rfl rfl rfl) ?_
 refine AOps_nil ?_
 refine kI h rfl (fun h _ => ?_) (fun h _ => ?_)
 ·refine kR ?_
  refine kN 3 rfl ?_
  refine ACode_ret ?_
  cases h
  exact ⟨_, _, fun r a w h => ⟨r, h⟩, _, _, [], _, (.cons (ResV_tmp _ _ rfl) (.cons (ResV_tmp _ _ rfl) .nil)), rfl, rfl, rfl, rfl, rfl⟩
 refine ACode_skip ?_
 refine kR ?_
 refine AOps_q 24 _ rfl rfl rfl (QOp_loadN_pv _ _ _ _ _ _ rfl Tryz.isAgg26 Tryz.sizeOf26 rfl (colD_all _) (colD_length _)) ?_
 refine kM 2 rfl ?_
 obtain ⟨r7, hr7, h⟩ := bindO h
 refine kC [] 27 (iV r7) [] rfl Tryz.call75 rfl rfl (spec_l01At_ac p0 p1 p2 _ hr7) rfl ?_
 refine kN 2 rfl ?_
 refine ACode_ret ?_
 cases h
 exact ⟨_, _, fun r a w h => ⟨r, h⟩, _, _, [], _, (.cons (ResV_tmp _ _ rfl) (.cons (ResV_tmp _ _ rfl) .nil)), rfl, rfl, rfl, rfl, rfl⟩

-- loop.example/g01362/spec.DrawNeighboursOf
def spec_DrawNeighboursOf (k : Nat) (p0 : List UInt8) : Option (Col × Int × Int) :=
 (spec_l01Given2 k p0).bind fun r1 => some (r1.1, r1.2.1, r1.2.2.2)
set_option maxRecDepth 100000 in
theorem spec_DrawNeighboursOf_ac (k : Nat) (p0 : List UInt8) (r : Col × Int × Int) (h : spec_DrawNeighboursOf k p0 = some r) : AC Tryz.prog 27 [.d (.sl none (bysD p0))] [] (fun res H' => res = [.d (.agg (colD r.1)), iV r.2.1, iV r.2.2] ∧ H' = []) := by
 refine AC_of_body true Tryz.func27 rfl Tryz.ntmps27 (rvs := [.cell 2 26, .tmp 3, .tmp 4]) rfl rfl (fun G hG => ?_)
 have hm : G.H.length = 0 := by rw [hG]; rfl
 have hz : zeroG G.H = true := by rw [hG]; rfl
 unfold spec_DrawNeighboursOf at h
 refine kR ?_
 refine AOps_alloc 2 _ _ (colD Col.zero) (zero_of Tryz.typeInfo26 rfl) (by rfl) rfl rfl rfl rfl ?_
 refine kN 2 rfl ?_
 refine kR ?_
 refine kM 1 rfl ?_
 obtain ⟨r1, hr1, h⟩ := bindO h
 refine kC [] 11 (.tup [.d (.agg (colD r1.1)), iV r1.2.1, iV r1.2.2.1, iV r1.2.2.2]) [.box (colD Col.zero)] rfl Tryz.call36 rfl rfl (spec_l01Given2_ac k p0 _ hr1) rfl ?_
 refine kM 5 rfl ?_
 refine AOps_alloc 5 _ _ (colD Col.zero) (zero_of Tryz.typeInfo26 rfl) (by rfl) rfl rfl rfl rfl ?_
 refine AOps_store _ _ _ _ _ _ (colD _) _ _ rfl rfl rfl rfl rfl rfl rfl (colD_one _) (by rw [colD_length]; exact Tryz.sizeOf26) (by rw [colD_length, colD_length]; decide) (colD_whole _ _) ?_
 refine kN 3 rfl ?_
 refine kR ?_
 refine AOps_q 16 _ rfl rfl rfl (QOp_loadN_ptr _ _ _ _ _ _ _ rfl Tryz.isAgg26 Tryz.sizeOf26 rfl rfl (colD_all _) (colD_length _)) ?_
 refine kM 2 rfl ?_
 refine AOps_store _ _ _ _ _ _ (colD _) _ _ rfl rfl rfl rfl rfl rfl rfl (colD_one _) (by rw [colD_length]; exact Tryz.sizeOf26) (by rw [colD_length, colD_length]; decide) (colD_whole _ _) ?_
 refine kN 2 rfl ?_
 refine ACode_ret ?_
 cases h
 exact ⟨_, _, fun r a w h => ⟨r, h⟩, _, _, [], _, (.cons (ResV_agg _ _ _ _ _ _ Tryz.isAgg26 Tryz.sizeOf26 rfl rfl (colD_take _) (colD_length _)) (.cons (ResV_tmp _ _ rfl) (.cons (ResV_tmp _ _ rfl) .nil))), rfl, rfl, rfl, rfl, rfl⟩

-- loop.example/g01362/spec.NeighboursOf
def spec_NeighboursOf (k : Nat) (p0 : Col) (p1 : Int) (p2 : Int) : Option (List Int × Int) :=
 (spec_l01Given k p0 p2 ([p1])).bind fun r1 => (if !decide (r1 = 0) then some ([], r1) else (spec_l01Around k p0 p1 p2).bind fun r3 => (spec_l01Points k r3).bind fun r4 => some (r4, 0))
set_option maxRecDepth 100000 in
theorem spec_NeighboursOf_ac (k : Nat) (p0 : Col) (p1 : Int) (p2 : Int) (r : List Int × Int) (h : spec_NeighboursOf k p0 p1 p2 = some r) : AC Tryz.prog 28 [.d (.agg (colD p0)), iV p1, iV p2] [] (fun res H' => res = [.d (.sl none (intsD r.1)), iV r.2] ∧ H' = []) := by
 refine AC_of_body true Tryz.func28 rfl Tryz.ntmps28 (rvs := [.tmp 6, .tmp 7]) rfl rfl (fun G hG => ?_)
 have hm : G.H.length = 0 := by rw [hG]; rfl
 have hz : zeroG G.H = true := by rw [hG]; rfl
 unfold spec_NeighboursOf at h
 refine kR ?_
 refine AOps_boxI 3 _ _ (.agg (colD p0)) (colD p0) rfl (colD_one _) rfl rfl rfl rfl rfl ?_
 refine kN 2 rfl ?_
 refine ACode_seq ?_
 refine kR ?_
 refine AOps_q 9 _ rfl rfl rfl (QOp_loadN_pv _ _ _ _ _ _ rfl Tryz.isAgg26 Tryz.sizeOf26 rfl (colD_all _) (colD_length _)) ?_
 refine kM 2 rfl ?_
 refine AOps_buildSlice 12 _ _ _ [_] (intsD ([p1])) _ rfl rfl rfl rfl rfl (by decide) Tryz.underlying34 Tryz.sizeOf2 (zero_of Tryz.typeInfo2 rfl) rfl rfl (intsD_one _) ?_
 obtain ⟨r1, hr1, h⟩ := bindO h
 refine AOps_callL [] 13 _ _ _ _ _ _ _ _ _ _ rfl rfl rfl rfl rfl rfl rfl Tryz.call42 rfl (nodupB_sound _ rfl) rfl rfl rfl (spec_l01Given_ac k p0 p2 ([p1]) _ hr1) ?_
 rintro _ _ ⟨rfl, rfl⟩
 refine ⟨(fun _ h => nomatch h), (allc (flat_s _) (fun _ h => nomatch h)), AOps_as 13 (v' := iV r1) (H' := [.vec 0 (intsD ([p1]))]) rfl rfl ?_⟩
 refine kN 1 rfl ?_
 refine kR ?_
 refine kM 1 rfl ?_
 refine AOps_q 15 _ rfl rfl rfl (QOp_neq _ _ _ _ _ _ _ rfl rfl rfl) ?_
 refine AOps_nil ?_
 refine kI h rfl (fun h _ => ?_) (fun h _ => ?_)
 ·refine kR ?_
  refine kN 3 rfl ?_
  refine ACode_ret ?_
  cases h
  exact ⟨_, _, fun r a w h => ⟨r, h⟩, _, _, [], _, (.cons (ResV_tmp _ _ rfl) (.cons (ResV_tmp _ _ rfl) .nil)), rfl, rfl, rfl, rfl, rfl⟩
 refine ACode_skip ?_
 refine kR ?_
 refine AOps_q 17 _ rfl rfl rfl (QOp_loadN_pv _ _ _ _ _ _ rfl Tryz.isAgg26 Tryz.sizeOf26 rfl (colD_all _) (colD_length _)) ?_
 refine kM 2 rfl ?_
 obtain ⟨r3, hr3, h⟩ := bindO h
 refine kC [] 20 (iV r3) [.vec 0 (intsD ([p1]))] rfl Tryz.call62 rfl rfl (spec_l01Around_ac k p0 p1 p2 _ hr3) rfl ?_
 obtain ⟨r4, hr4, h⟩ := bindO h
 refine kC [] 21 (.vec 1 0) [.vec 0 (intsD ([p1])), .vec 0 (intsD r4)] rfl Tryz.call61 rfl rfl (spec_l01Points_ac k r3 _ hr4) rfl ?_
 refine kN 2 rfl ?_
 refine ACode_ret ?_
 cases h
 exact ⟨_, _, fun r a w h => ⟨r, h⟩, _, _, [], _, (.cons (ResV_tmp _ _ rfl) (.cons (ResV_tmp _ _ rfl) .nil)), rfl, rfl, rfl, rfl, rfl⟩

-- loop.example/g01362/spec.DrawDegreesOf
def spec_DrawDegreesOf (k : Nat) (p0 : List UInt8) : Option (Col × Int) :=
 (spec_l01Given2 k p0).bind fun r1 => some (r1.1, r1.2.2.2)
set_option maxRecDepth 100000 in
theorem spec_DrawDegreesOf_ac (k : Nat) (p0 : List UInt8) (r : Col × Int) (h : spec_DrawDegreesOf k p0 = some r) : AC Tryz.prog 29 [.d (.sl none (bysD p0))] [] (fun res H' => res = [.d (.agg (colD r.1)), iV r.2] ∧ H' = []) := by
 refine AC_of_body true Tryz.func29 rfl Tryz.ntmps29 (rvs := [.cell 2 26, .tmp 3]) rfl rfl (fun G hG => ?_)
 have hm : G.H.length = 0 := by rw [hG]; rfl
 have hz : zeroG G.H = true := by rw [hG]; rfl
 unfold spec_DrawDegreesOf at h
 refine kR ?_
 refine AOps_alloc 2 _ _ (colD Col.zero) (zero_of Tryz.typeInfo26 rfl) (by rfl) rfl rfl rfl rfl ?_
 refine kN 1 rfl ?_
 refine kR ?_
 refine kM 1 rfl ?_
 obtain ⟨r1, hr1, h⟩ := bindO h
 refine kC [] 10 (.tup [.d (.agg (colD r1.1)), iV r1.2.1, iV r1.2.2.1, iV r1.2.2.2]) [.box (colD Col.zero)] rfl Tryz.call36 rfl rfl (spec_l01Given2_ac k p0 _ hr1) rfl ?_
 refine kM 5 rfl ?_
 refine AOps_alloc 4 _ _ (colD Col.zero) (zero_of Tryz.typeInfo26 rfl) (by rfl) rfl rfl rfl rfl ?_
 refine AOps_store _ _ _ _ _ _ (colD _) _ _ rfl rfl rfl rfl rfl rfl rfl (colD_one _) (by rw [colD_length]; exact Tryz.sizeOf26) (by rw [colD_length, colD_length]; decide) (colD_whole _ _) ?_
 refine kN 3 rfl ?_
 refine kR ?_
 refine AOps_q 15 _ rfl rfl rfl (QOp_loadN_ptr _ _ _ _ _ _ _ rfl Tryz.isAgg26 Tryz.sizeOf26 rfl rfl (colD_all _) (colD_length _)) ?_
 refine kM 1 rfl ?_
 refine AOps_store _ _ _ _ _ _ (colD _) _ _ rfl rfl rfl rfl rfl rfl rfl (colD_one _) (by rw [colD_length]; exact Tryz.sizeOf26) (by rw [colD_length, colD_length]; decide) (colD_whole _ _) ?_
 refine kN 1 rfl ?_
 refine ACode_ret ?_
 cases h
 exact ⟨_, _, fun r a w h => ⟨r, h⟩, _, _, [], _, (.cons (ResV_agg _ _ _ _ _ _ Tryz.isAgg26 Tryz.sizeOf26 rfl rfl (colD_take _) (colD_length _)) (.cons (ResV_tmp _ _ rfl) .nil)), rfl, rfl, rfl, rfl, rfl⟩

-- loop.example/g01362/spec.l01Ones
def spec_l01Ones_l0 : Nat → Int → Int → Option (Int)
 | 0, _, _ => none
 | k0 + 1, x1, x2 => (if decide (0 < x1) then spec_l01Ones_l0 k0 (w64 (x1.tdiv 2)) (w64 (x2 + (x1.tmod 2))) else some x2)
def spec_l01Ones (k : Nat) (p0 : Int) : Option (Int) :=
 (spec_l01Ones_l0 k p0 0 : Option (Int)).bind fun s4 => some s4
set_option maxRecDepth 100000 in
theorem spec_l01Ones_ac (k : Nat) (p0 : Int) (r : Int) (h : spec_l01Ones k p0 = some r) : AC Tryz.prog 76 [iV p0] [] (fun res H' => res = [iV r] ∧ H' = []) := by
 refine AC_of_body true Tryz.func76 rfl Tryz.ntmps76 (rvs := [.tmp 2]) rfl rfl (fun G hG => ?_)
 have hm : G.H.length = 0 := by rw [hG]; rfl
 have hz : zeroG G.H = true := by rw [hG]; rfl
 unfold spec_l01Ones at h
 refine kR ?_
 refine kN 1 rfl ?_
 refine kR ?_
 refine kN 1 rfl ?_
 refine kB (fun s4 => [(3, iV s4)]) (fun s4 => []) h (fun s4 h => ?_) (fun s4 h => ?_)
 ·refine ACode_block ?_
  refine ACode_loopW (fun k0 E H => ∃ (x1 : Int) (x2 : Int), E = [(0, iV x1), (3, iV x2)] ∧ H = [] ∧ spec_l01Ones_l0 k0 x1 x2 = some s4) k _ _ (Weak_keep 0 hm [0, 3] [] _ _ rfl rfl rfl) ⟨_, _, rfl, rfl, h⟩ ?_
  clear h
  rintro k0 E H ⟨x1, x2, rfl, rfl, h⟩
  cases k0 with
  | zero => cases (show (none : Option (Int)) = some _ from h)
  | succ k0 =>
   rw [spec_l01Ones_l0] at h
   refine ACode_seq ?_
   refine kR ?_
   refine kM 1 rfl ?_
   refine AOps_q 5 _ rfl rfl rfl (QOp_gtr _ _ _ _ _ _ _ rfl rfl rfl) ?_
   refine AOps_nil ?_
   refine kI h rfl (fun h _ => ?_) (fun h _ => ?_)
   ·refine ACode_skip ?_
    refine ACode_seq ?_
    refine ACode_block ?_
    refine (ACode_region ?_)
    refine kM 2 rfl ?_
    refine AOps_q 10 _ rfl rfl rfl (QOp_rem _ _ _ _ _ _ _ (by decide) rfl rfl rfl) ?_
    refine AOps_q 11 _ rfl rfl rfl (QOp_add _ _ _ _ _ _ _ rfl rfl rfl) ?_
    refine kN 1 rfl ?_
    refine (ACode_region ?_)
    refine kM 1 rfl ?_
    refine AOps_q 7 _ rfl rfl rfl (QOp_quo _ _ _ _ _ _ _ (by decide) rfl rfl rfl) ?_
    refine kN 1 rfl ?_
    exact ⟨k0, _, _, Nat.lt_succ_self _, Weak_keep 0 hm [0, 3] [] _ _ rfl rfl rfl, _, _, rfl, rfl, h⟩
   refine ACode_exit ?_
   cases h
   exact Weak_keep 0 hm [3] [] _ _ rfl rfl rfl
 refine kR ?_
 refine kN 2 rfl ?_
 refine ACode_ret ?_
 cases h
 exact ⟨_, _, fun r a w h => ⟨r, h⟩, _, _, [], _, (.cons (ResV_tmp _ _ rfl) .nil), rfl, rfl, rfl, rfl, rfl⟩

-- loop.example/g01362/spec.DegreesOf
def spec_DegreesOf_l0 (k : Nat) (p0 : Col) (p1 : Int) : Nat → Int → (List Int) → Option (List Int)
 | 0, _, _ => none
 | k0 + 1, x3, x4 => (if decide (x3 < p0.p) then (spec_l01Around k p0 x3 p1).bind fun r6 => (spec_l01Ones k r6).bind fun r7 => (if x4.length + ([r7]).length ≤ 1099511627776 then spec_DegreesOf_l0 k p0 p1 k0 (w64 (x3 + 1)) (x4 ++ ([r7])) else none) else some x4)
def spec_DegreesOf (k : Nat) (p0 : Col) (p1 : Int) : Option (List Int × Int) :=
 (spec_l01Given k p0 p1 ([])).bind fun r1 => (if !decide (r1 = 0) then some ([], r1) else (spec_DegreesOf_l0 k p0 p1 k 0 ([] : List Int) : Option (List Int)).bind fun s9 => some (s9, 0))
set_option maxRecDepth 100000 in
theorem spec_DegreesOf_ac (k : Nat) (p0 : Col) (p1 : Int) (r : List Int × Int) (h : spec_DegreesOf k p0 p1 = some r) : AC Tryz.prog 30 [.d (.agg (colD p0)), iV p1] [] (fun res H' => res = [.d (.sl none (intsD r.1)), iV r.2] ∧ H' = []) := by
 refine AC_of_body true Tryz.func30 rfl Tryz.ntmps30 (rvs := [.tmp 4, .tmp 5]) rfl rfl (fun G hG => ?_)
 have hm : G.H.length = 0 := by rw [hG]; rfl
 have hz : zeroG G.H = true := by rw [hG]; rfl
 unfold spec_DegreesOf at h
 refine kR ?_
 refine AOps_boxI 2 _ _ (.agg (colD p0)) (colD p0) rfl (colD_one _) rfl rfl rfl rfl rfl ?_
 refine kN 2 rfl ?_
 refine ACode_seq ?_
 refine kR ?_
 refine AOps_q 9 _ rfl rfl rfl (QOp_loadN_pv _ _ _ _ _ _ rfl Tryz.isAgg26 Tryz.sizeOf26 rfl (colD_all _) (colD_length _)) ?_
 refine kM 1 rfl ?_
 obtain ⟨r1, hr1, h⟩ := bindO h
 refine kC [] 11 (iV r1) [] rfl Tryz.call42 rfl rfl (spec_l01Given_ac k p0 p1 ([]) _ hr1) rfl ?_
 refine kN 1 rfl ?_
 refine kR ?_
 refine kM 1 rfl ?_
 refine AOps_q 13 _ rfl rfl rfl (QOp_neq _ _ _ _ _ _ _ rfl rfl rfl) ?_
 refine AOps_nil ?_
 refine kI h rfl (fun h _ => ?_) (fun h _ => ?_)
 ·refine kR ?_
  refine kN 3 rfl ?_
  refine ACode_ret ?_
  cases h
  exact ⟨_, _, fun r a w h => ⟨r, h⟩, _, _, [], _, (.cons (ResV_tmp _ _ rfl) (.cons (ResV_tmp _ _ rfl) .nil)), rfl, rfl, rfl, rfl, rfl⟩
 refine ACode_skip ?_
 refine kR ?_
 refine AOps_buildSlice 15 _ _ _ [] (intsD ([] : List Int)) _ rfl rfl rfl rfl rfl (by decide) Tryz.underlying34 Tryz.sizeOf2 (zero_of Tryz.typeInfo2 rfl) rfl rfl (intsD_one _) ?_
 refine kN 1 rfl ?_
 refine kB (fun s9 => [(7, .vec 0 0)]) (fun s9 => [.vec 0 (intsD s9)]) h (fun s9 h => ?_) (fun s9 h => ?_)
 ·refine kR ?_
  refine kN 1 rfl ?_
  refine ACode_block ?_
  refine ACode_loopW (fun k0 E H => ∃ (x3 : Int) (x4 : List Int), E = [(1, iV p1), (2, .d (.pv (colD p0) 0)), (7, .vec 0 0), (8, iV x3)] ∧ H = [.vec 0 (intsD x4)] ∧ spec_DegreesOf_l0 k p0 p1 k0 x3 x4 = some s9) k _ _ (Weak_keep 0 hm [1, 2, 7, 8] [0] _ _ rfl rfl rfl) ⟨_, _, rfl, rfl, h⟩ ?_
  clear h
  rintro k0 E H ⟨x3, x4, rfl, rfl, h⟩
  cases k0 with
  | zero => cases (show (none : Option (List Int)) = some _ from h)
  | succ k0 =>
   rw [spec_DegreesOf_l0] at h
   refine ACode_seq ?_
   refine kR ?_
   refine kM 1 rfl ?_
   refine AOps_q 17 _ rfl rfl rfl (QOp_fieldAddr_pv _ _ _ _ _ 0 _ _ rfl Tryz.underlying26 rfl _ Tryz.sizeOf2 rfl rfl) ?_
   refine AOps_q 18 _ rfl rfl rfl (QOp_load_pv _ _ _ _ _ rfl Tryz.isAgg2 rfl rfl) ?_
   refine AOps_q 19 _ rfl rfl rfl (QOp_lss _ _ _ _ _ _ _ rfl rfl rfl) ?_
   refine AOps_nil ?_
   refine kI h rfl (fun h _ => ?_) (fun h _ => ?_)
   ·refine ACode_skip ?_
    refine ACode_seq ?_
    refine ACode_block ?_
    refine (ACode_region ?_)
    refine kM 1 rfl ?_
    refine AOps_q 23 _ rfl rfl rfl (QOp_loadN_pv _ _ _ _ _ _ rfl Tryz.isAgg26 Tryz.sizeOf26 rfl (colD_all _) (colD_length _)) ?_
    refine kM 2 rfl ?_
    obtain ⟨r6, hr6, h⟩ := bindO h
    refine kC [] 26 (iV r6) [.vec 0 (intsD x4)] rfl Tryz.call62 rfl rfl (spec_l01Around_ac k p0 x3 p1 _ hr6) rfl ?_
    obtain ⟨r7, hr7, h⟩ := bindO h
    refine kC [] 27 (iV r7) [.vec 0 (intsD x4)] rfl Tryz.call76 rfl rfl (spec_l01Ones_ac k r6 _ hr7) rfl ?_
    refine AOps_buildSlice 28 _ _ _ [_] (intsD ([r7])) _ rfl rfl rfl rfl rfl (by decide) Tryz.underlying34 Tryz.sizeOf2 (zero_of Tryz.typeInfo2 rfl) rfl rfl (intsD_one _) ?_
    obtain ⟨hc8, h⟩ := guardO h
    refine AOps_append 29 _ _ _ _ _ _ _ _ _ _ _ _ rfl rfl rfl rfl rfl rfl rfl Tryz.underlying34 Tryz.type2 rfl rfl rfl (by decide) rfl rfl rfl rfl (intsD_one _) (by rw [intsD_length, intsD_length]; exact hc8) ?_
    rw [intsD_app]
    refine kN 1 rfl ?_
    refine (ACode_region ?_)
    refine kM 1 rfl ?_
    refine AOps_q 21 _ rfl rfl rfl (QOp_add _ _ _ _ _ _ _ rfl rfl rfl) ?_
    refine kN 1 rfl ?_
    exact ⟨k0, _, _, Nat.lt_succ_self _, Weak_trans (Weak_keep 0 hm [1, 2, 7, 8] [0] _ _ rfl rfl rfl) (Weak_reset 0 hm hz [1, 2, 7, 8] _ _ rfl rfl), _, _, rfl, rfl, h⟩
   refine ACode_exit ?_
   cases h
   exact Weak_keep 0 hm [7] [0] _ _ rfl rfl rfl
 refine kR ?_
 refine kN 3 rfl ?_
 refine ACode_ret ?_
 cases h
 exact ⟨_, _, fun r a w h => ⟨r, h⟩, _, _, [], _, (.cons (ResV_tmp _ _ rfl) (.cons (ResV_tmp _ _ rfl) .nil)), rfl, rfl, rfl, rfl, rfl⟩

-- loop.example/g01362/spec.l01Dec
def spec_l01Dec_body (self : Int → Option (ByteArray)) (k : Nat) (p0 : Int) : Option (ByteArray) :=
 (if decide (p0 < 0) then (self (w64 (0 - p0))).bind fun r2 => (if (⟨#[45]⟩ : ByteArray).size + r2.size ≤ 1099511627776 then some ((⟨#[45]⟩ : ByteArray) ++ r2) else none) else (if decide (p0 < 10) then some (⟨([toByte (w64 (48 + p0))]).toArray⟩ : ByteArray) else (self (w64 (p0.tdiv 10))).bind fun r5 => (if r5.size + (⟨([toByte (w64 (48 + (p0.tmod 10)))]).toArray⟩ : ByteArray).size ≤ 1099511627776 then some (r5 ++ (⟨([toByte (w64 (48 + (p0.tmod 10)))]).toArray⟩ : ByteArray)) else none)))
def spec_l01Dec : Nat → Int → Option (ByteArray)
 | 0, _ => none
 | k + 1, p0 => spec_l01Dec_body (spec_l01Dec k) k p0
set_option maxRecDepth 100000 in
theorem spec_l01Dec_ac (k : Nat) (p0 : Int) (r : ByteArray) (h : spec_l01Dec k p0 = some r) : AC Tryz.prog 97 [iV p0] [] (fun res H' => res = [.d (.s (.string r))] ∧ H' = []) := by
 induction k generalizing p0 r with
 | zero => simp [spec_l01Dec] at h
 | succ k ih =>
  rw [spec_l01Dec] at h
  obtain ⟨self, hself, hk⟩ : ∃ self : Int → Option (ByteArray), (∀ (p0 : Int) (r : ByteArray), self p0 = some r → AC Tryz.prog 97 [iV p0] [] (fun res H' => res = [.d (.s (.string r))] ∧ H' = [])) ∧ spec_l01Dec k = self := ⟨spec_l01Dec k, fun p0 r h => ih p0 r h, rfl⟩
  rw [hk] at h
  clear ih hk
  refine AC_of_body true Tryz.func97 rfl Tryz.ntmps97 (rvs := [.tmp 2]) rfl rfl (fun G hG => ?_)
  have hm : G.H.length = 0 := by rw [hG]; rfl
  have hz : zeroG G.H = true := by rw [hG]; rfl
  unfold spec_l01Dec_body at h
  refine kR ?_
  refine kN 1 rfl ?_
  refine ACode_seq ?_
  refine kR ?_
  refine kM 1 rfl ?_
  refine AOps_q 4 _ rfl rfl rfl (QOp_lss _ _ _ _ _ _ _ rfl rfl rfl) ?_
  refine AOps_nil ?_
  refine kI h rfl (fun h _ => ?_) (fun h _ => ?_)
  ·refine kR ?_
   refine kM 1 rfl ?_
   refine AOps_q 6 _ rfl rfl rfl (QOp_neg _ _ _ _ rfl rfl) ?_
   obtain ⟨r2, hr2, h⟩ := bindO h
   refine kC [] 7 (.d (.s (.string r2))) [] rfl Tryz.call97 rfl rfl (hself (w64 (0 - p0)) _ hr2) rfl ?_
   obtain ⟨hc3, h⟩ := guardO h
   refine AOps_q 8 _ rfl rfl rfl (QOp_sadd _ _ _ _ _ _ rfl rfl rfl hc3) ?_
   refine kN 1 rfl ?_
   refine ACode_ret ?_
   cases h
   exact ⟨_, _, fun r a w h => ⟨r, h⟩, _, _, [], _, (.cons (ResV_tmp _ _ rfl) .nil), rfl, rfl, rfl, rfl, rfl⟩
  refine ACode_skip ?_
  refine ACode_seq ?_
  refine kR ?_
  refine kM 1 rfl ?_
  refine AOps_q 10 _ rfl rfl rfl (QOp_lss _ _ _ _ _ _ _ rfl rfl rfl) ?_
  refine AOps_nil ?_
  refine kI h rfl (fun h _ => ?_) (fun h _ => ?_)
  ·refine kR ?_
   refine kM 1 rfl ?_
   refine AOps_q 12 _ rfl rfl rfl (QOp_add _ _ _ _ _ _ _ rfl rfl rfl) ?_
   refine AOps_q 13 _ rfl rfl rfl (QOp_toByte _ _ _ _ _ rfl rfl Tryz.underlying5 rfl) ?_
   refine AOps_buildSlice 14 _ _ _ [_] (bysD ([toByte (w64 (48 + p0))])) _ rfl rfl rfl rfl rfl (by decide) Tryz.underlying22 Tryz.sizeOf5 (zero_of Tryz.typeInfo5 rfl) rfl rfl (bysD_one _) ?_
   refine AOps_q 15 _ rfl rfl rfl (QOp_bstr _ _ _ _ _ _ _ rfl Tryz.underlying22 Tryz.underlying5 Tryz.underlying9 rfl rfl) ?_
   refine kN 1 rfl ?_
   refine ACode_ret ?_
   cases h
   exact ⟨_, _, fun r a w h => ⟨r, h⟩, _, _, [], _, (.cons (ResV_tmp _ _ rfl) .nil), rfl, rfl, rfl, rfl, rfl⟩
  refine ACode_skip ?_
  obtain ⟨r5, hr5, h⟩ := bindO h
  obtain ⟨hc6, h⟩ := guardO h
  refine ACode_seq (ACode_reg [(2, .d (.s (.string (r5 ++ (⟨([toByte (w64 (48 + (p0.tmod 10)))]).toArray⟩ : ByteArray)))))] [] ?_ ?_)
  ·refine ACode_anyU mixed ?_
   refine AU_cut 3 #[true, true, true, true, true, true, true, true, false, false, false] [(2, .d (.s (.string (⟨#[]⟩ : ByteArray)))), (18, .d (.s (.string r5))), (23, .vec 0 0)] [.vec 0 (bysD ([toByte (w64 (48 + (p0.tmod 10)))]))] ?_ (fun hS0 => ?_)
   ·refine AU_one 8 (by kernel_rfl) rfl rfl ?_
    refine AOps_q 24 _ rfl rfl rfl (QOp_bstr _ _ _ _ _ _ _ rfl Tryz.underlying22 Tryz.underlying5 Tryz.underlying9 rfl rfl) ?_
    refine AOps_nil ?_
    refine AU_u 9 25 _ rfl (by kernel_rfl) rfl rfl rfl (UOp_sadd _ _ _ _ _ _ rfl rfl rfl hc6) ?_
    refine AU_u 10 2 _ rfl (by kernel_rfl) rfl rfl rfl (UOp_assign _ _ rfl rfl) ?_
    refine AU_done (by kernel_rfl) ?_
    exact ⟨rfl, Weak_keep 0 hm [2] [] _ _ rfl rfl rfl⟩
   refine AU_u 0 16 _ rfl (by kernel_rfl) rfl rfl rfl (UOp_move _ _ rfl rfl) ?_
   refine AU_u 1 17 _ rfl (by kernel_rfl) rfl rfl rfl (UOp_quo _ _ _ _ _ _ _ (by decide) rfl rfl rfl) ?_
   refine AU_u 3 19 _ rfl (by kernel_rfl) rfl rfl rfl (UOp_move _ _ rfl rfl) ?_
   refine AU_u 4 20 _ rfl (by kernel_rfl) rfl rfl rfl (UOp_rem _ _ _ _ _ _ _ (by decide) rfl rfl rfl) ?_
   refine AU_u 5 21 _ rfl (by kernel_rfl) rfl rfl rfl (UOp_add _ _ _ _ _ _ _ rfl rfl rfl) ?_
   refine AU_u 6 22 _ rfl (by kernel_rfl) rfl rfl rfl (UOp_toByte _ _ _ _ _ rfl rfl Tryz.underlying5 rfl) ?_
   refine AU_all [2, 7] (by kernel_rfl) rfl (allc ?_ (allc ?_ (fun _ h => nomatch h)))
   ·refine US_of 2 rfl rfl ?_
    refine kC [] 18 (.d (.s (.string r5))) [] rfl Tryz.call97 rfl rfl (hself (w64 (p0.tdiv 10)) _ hr5) rfl ?_
    refine AOps_nil ?_
    refine AU_one 7 (by kernel_rfl) rfl rfl ?_
    refine AOps_buildSlice 23 _ _ _ [_] (bysD ([toByte (w64 (48 + (p0.tmod 10)))])) _ rfl rfl rfl rfl rfl (by decide) Tryz.underlying22 Tryz.sizeOf5 (zero_of Tryz.typeInfo5 rfl) rfl rfl (bysD_one _) ?_
    refine AOps_nil ?_
    exact AU_to (by kernel_rfl) hS0 (Weak_keep 0 hm [2, 18, 23] [0] _ _ rfl rfl rfl)
   refine US_of 7 rfl rfl ?_
   refine AOps_buildSlice 23 _ _ _ [_] (bysD ([toByte (w64 (48 + (p0.tmod 10)))])) _ rfl rfl rfl rfl rfl (by decide) Tryz.underlying22 Tryz.sizeOf5 (zero_of Tryz.typeInfo5 rfl) rfl rfl (bysD_one _) ?_
   refine AOps_nil ?_
   refine AU_all [2, 8] (by kernel_rfl) rfl (allc ?_ (allc ?_ (fun _ h => nomatch h)))
   ·refine US_of 2 rfl rfl ?_
    refine kC [] 18 (.d (.s (.string r5))) [.vec 0 (bysD ([toByte (w64 (48 + (p0.tmod 10)))]))] rfl Tryz.call97 rfl rfl (hself (w64 (p0.tdiv 10)) _ hr5) rfl ?_
    refine AOps_nil ?_
    exact AU_to (by kernel_rfl) hS0 (Weak_keep 0 hm [2, 18, 23] [0] _ _ rfl rfl rfl)
   refine US_of 8 rfl rfl ?_
   refine AOps_q 24 _ rfl rfl rfl (QOp_bstr _ _ _ _ _ _ _ rfl Tryz.underlying22 Tryz.underlying5 Tryz.underlying9 rfl rfl) ?_
   refine AOps_nil ?_
   refine AU_one 2 (by kernel_rfl) rfl rfl ?_
   refine kC [] 18 (.d (.s (.string r5))) [.vec 0 (bysD ([toByte (w64 (48 + (p0.tmod 10)))]))] rfl Tryz.call97 rfl rfl (hself (w64 (p0.tdiv 10)) _ hr5) rfl ?_
   refine AOps_nil ?_
   refine AU_u 9 25 _ rfl (by kernel_rfl) rfl rfl rfl (UOp_sadd _ _ _ _ _ _ rfl rfl rfl hc6) ?_
   refine AU_u 10 2 _ rfl (by kernel_rfl) rfl rfl rfl (UOp_assign _ _ rfl rfl) ?_
   refine AU_done (by kernel_rfl) ?_
   exact ⟨rfl, Weak_keep 0 hm [2] [] _ _ rfl rfl rfl⟩
  refine ACode_ret ?_
  cases h
  exact ⟨_, _, fun r a w h => ⟨r, h⟩, _, _, [], _, (.cons (ResV_tmp _ _ rfl) .nil), rfl, rfl, rfl, rfl, rfl⟩

-- loop.example/g01362/spec.l01Text
def spec_l01Text_l1 (k : Nat) (p0 : Col) (x7 : Int) : Nat → ByteArray → Int → Option (ByteArray)
 | 0, _, _ => none
 | k1 + 1, x12, x13 => (if decide (x13 < x7) then (spec_l01At p0 x13 x7).bind fun r15 => (spec_l01Dec k r15).bind fun r16 => (if x12.size + r16.size ≤ 1099511627776 then spec_l01Text_l1 k p0 x7 k1 (x12 ++ r16) (w64 (x13 + 1)) else none) else some x12)
def spec_l01Text_l0 (k : Nat) (p0 : Col) : Nat → ByteArray → Int → Option (ByteArray)
 | 0, _, _ => none
 | k0 + 1, x6, x7 => (if decide (x7 < p0.p) then (((if decide (1 < x7) then (if x6.size + (⟨#[44]⟩ : ByteArray).size ≤ 1099511627776 then some (x6 ++ (⟨#[44]⟩ : ByteArray)) else none) else some x6) : Option (ByteArray)).bind fun s11 => spec_l01Text_l1 k p0 x7 k s11 0 : Option (ByteArray)).bind fun s18 => spec_l01Text_l0 k p0 k0 s18 (w64 (x7 + 1)) else some x6)
def spec_l01Text (k : Nat) (p0 : Col) : Option (ByteArray) :=
 (spec_l01Dec k p0.p).bind fun r1 => (if r1.size + (⟨#[44]⟩ : ByteArray).size ≤ 1099511627776 then (spec_l01Dec k p0.k).bind fun r3 => (if (r1 ++ (⟨#[44]⟩ : ByteArray)).size + r3.size ≤ 1099511627776 then (if ((r1 ++ (⟨#[44]⟩ : ByteArray)) ++ r3).size + (⟨#[58]⟩ : ByteArray).size ≤ 1099511627776 then (spec_l01Text_l0 k p0 k (((r1 ++ (⟨#[44]⟩ : ByteArray)) ++ r3) ++ (⟨#[58]⟩ : ByteArray)) 1 : Option (ByteArray)).bind fun s19 => some s19 else none) else none) else none)
set_option maxRecDepth 100000 in
theorem spec_l01Text_ac (k : Nat) (p0 : Col) (r : ByteArray) (h : spec_l01Text k p0 = some r) : AC Tryz.prog 77 [.d (.agg (colD p0))] [] (fun res H' => res = [.d (.s (.string r))] ∧ H' = []) := by
 refine AC_of_body true Tryz.func77 rfl Tryz.ntmps77 (rvs := [.tmp 2]) rfl rfl (fun G hG => ?_)
 have hm : G.H.length = 0 := by rw [hG]; rfl
 have hz : zeroG G.H = true := by rw [hG]; rfl
 unfold spec_l01Text at h
 refine kR ?_
 refine AOps_boxI 1 _ _ (.agg (colD p0)) (colD p0) rfl (colD_one _) rfl rfl rfl rfl rfl ?_
 refine kN 1 rfl ?_
 refine ACode_seq (ACode_quiet mixed (by kernel_rfl) ?_)
 refine AQ_q 6 _ rfl rfl rfl (QOp_fieldAddr_pv _ _ _ _ _ 0 _ _ rfl Tryz.underlying26 rfl _ Tryz.sizeOf2 rfl rfl) ?_
 refine AQ_q 7 _ rfl rfl rfl (QOp_load_pv _ _ _ _ _ rfl Tryz.isAgg2 rfl rfl) ?_
 obtain ⟨r1, hr1, h⟩ := bindO h
 refine AQ_call 8 _ _ _ _ _ _ _ _ _ rfl rfl rfl rfl rfl rfl rfl Tryz.call97 rfl rfl rfl (spec_l01Dec_ac k p0.p _ hr1) ?_
 obtain ⟨hc2, h⟩ := guardO h
 refine AQ_q 9 _ rfl rfl rfl (QOp_sadd _ _ _ _ _ _ rfl rfl rfl hc2) ?_
 refine AQ_q 10 _ rfl rfl rfl (QOp_fieldAddr_pv _ _ _ _ _ 1 _ _ rfl Tryz.underlying26 rfl _ Tryz.sizeOf2 rfl rfl) ?_
 refine AQ_q 11 _ rfl rfl rfl (QOp_load_pv _ _ _ _ _ rfl Tryz.isAgg2 rfl rfl) ?_
 obtain ⟨r3, hr3, h⟩ := bindO h
 refine AQ_call 12 _ _ _ _ _ _ _ _ _ rfl rfl rfl rfl rfl rfl rfl Tryz.call97 rfl rfl rfl (spec_l01Dec_ac k p0.k _ hr3) ?_
 obtain ⟨hc4, h⟩ := guardO h
 refine AQ_q 13 _ rfl rfl rfl (QOp_sadd _ _ _ _ _ _ rfl rfl rfl hc4) ?_
 obtain ⟨hc5, h⟩ := guardO h
 refine AQ_q 14 _ rfl rfl rfl (QOp_sadd _ _ _ _ _ _ rfl rfl rfl hc5) ?_
 refine kQ 1 rfl ?_
 refine AQ_nil ?_
 refine kB (fun s19 => [(3, .d (.s (.string s19)))]) (fun s19 => []) h (fun s19 h => ?_) (fun s19 h => ?_)
 ·refine kR ?_
  refine kN 1 rfl ?_
  refine ACode_block ?_
  refine ACode_loopW (fun k0 E H => ∃ (x6 : ByteArray) (x7 : Int), E = [(1, .d (.pv (colD p0) 0)), (3, .d (.s (.string x6))), (4, iV x7)] ∧ H = [] ∧ spec_l01Text_l0 k p0 k0 x6 x7 = some s19) k _ _ (Weak_keep 0 hm [1, 3, 4] [] _ _ rfl rfl rfl) ⟨_, _, rfl, rfl, h⟩ ?_
  clear h
  rintro k0 E H ⟨x6, x7, rfl, rfl, h⟩
  cases k0 with
  | zero => cases (show (none : Option (ByteArray)) = some _ from h)
  | succ k0 =>
   rw [spec_l01Text_l0] at h
   refine ACode_seq ?_
   refine kR ?_
   refine kM 1 rfl ?_
   refine AOps_q 16 _ rfl rfl rfl (QOp_fieldAddr_pv _ _ _ _ _ 0 _ _ rfl Tryz.underlying26 rfl _ Tryz.sizeOf2 rfl rfl) ?_
   refine AOps_q 17 _ rfl rfl rfl (QOp_load_pv _ _ _ _ _ rfl Tryz.isAgg2 rfl rfl) ?_
   refine AOps_q 18 _ rfl rfl rfl (QOp_lss _ _ _ _ _ _ _ rfl rfl rfl) ?_
   refine AOps_nil ?_
   refine kI h rfl (fun h _ => ?_) (fun h _ => ?_)
   ·refine ACode_skip ?_
    refine kB (fun s18 => [(1, .d (.pv (colD p0) 0)), (3, .d (.s (.string s18))), (4, iV x7)]) (fun s18 => []) h (fun s18 h => ?_) (fun s18 h => ?_)
    ·refine ACode_block ?_
     refine kB (fun s11 => [(1, .d (.pv (colD p0) 0)), (3, .d (.s (.string s11))), (4, iV x7)]) (fun s11 => []) h (fun s11 h => ?_) (fun s11 h => ?_)
     ·refine kR ?_
      refine kM 1 rfl ?_
      refine AOps_q 22 _ rfl rfl rfl (QOp_gtr _ _ _ _ _ _ _ rfl rfl rfl) ?_
      refine AOps_nil ?_
      refine kI h rfl (fun h _ => ?_) (fun h _ => ?_)
      ·refine (ACode_region ?_)
       refine kM 1 rfl ?_
       obtain ⟨hc10, h⟩ := guardO h
       refine AOps_q 24 _ rfl rfl rfl (QOp_sadd _ _ _ _ _ _ rfl rfl rfl hc10) ?_
       refine kN 1 rfl ?_
       cases h
       exact Weak_keep 0 hm [1, 3, 4] [] _ _ rfl rfl rfl
      refine ACode_skip ?_
      cases h
      exact Weak_keep 0 hm [1, 3, 4] [] _ _ rfl rfl rfl
     refine kR ?_
     refine kN 1 rfl ?_
     refine ACode_block ?_
     refine ACode_loopW (fun k1 E H => ∃ (x12 : ByteArray) (x13 : Int), E = [(1, .d (.pv (colD p0) 0)), (3, .d (.s (.string x12))), (4, iV x7), (5, iV x13)] ∧ H = [] ∧ spec_l01Text_l1 k p0 x7 k1 x12 x13 = some s18) k _ _ (Weak_keep 0 hm [1, 3, 4, 5] [] _ _ rfl rfl rfl) ⟨_, _, rfl, rfl, h⟩ ?_
     clear h
     rintro k1 E H ⟨x12, x13, rfl, rfl, h⟩
     cases k1 with
     | zero => cases (show (none : Option (ByteArray)) = some _ from h)
     | succ k1 =>
      rw [spec_l01Text_l1] at h
      refine ACode_seq ?_
      refine kR ?_
      refine kM 2 rfl ?_
      refine AOps_q 27 _ rfl rfl rfl (QOp_lss _ _ _ _ _ _ _ rfl rfl rfl) ?_
      refine AOps_nil ?_
      refine kI h rfl (fun h _ => ?_) (fun h _ => ?_)
      ·refine ACode_skip ?_
       refine ACode_seq ?_
       refine ACode_block ?_
       refine (ACode_region ?_)
       refine kM 1 rfl ?_
       refine AOps_q 31 _ rfl rfl rfl (QOp_loadN_pv _ _ _ _ _ _ rfl Tryz.isAgg26 Tryz.sizeOf26 rfl (colD_all _) (colD_length _)) ?_
       refine kM 2 rfl ?_
       obtain ⟨r15, hr15, h⟩ := bindO h
       refine kC [] 34 (iV r15) [] rfl Tryz.call75 rfl rfl (spec_l01At_ac p0 x13 x7 _ hr15) rfl ?_
       obtain ⟨r16, hr16, h⟩ := bindO h
       refine kC [] 35 (.d (.s (.string r16))) [] rfl Tryz.call97 rfl rfl (spec_l01Dec_ac k r15 _ hr16) rfl ?_
       obtain ⟨hc17, h⟩ := guardO h
       refine AOps_q 36 _ rfl rfl rfl (QOp_sadd _ _ _ _ _ _ rfl rfl rfl hc17) ?_
       refine kN 1 rfl ?_
       refine (ACode_region ?_)
       refine kM 1 rfl ?_
       refine AOps_q 29 _ rfl rfl rfl (QOp_add _ _ _ _ _ _ _ rfl rfl rfl) ?_
       refine kN 1 rfl ?_
       exact ⟨k1, _, _, Nat.lt_succ_self _, Weak_keep 0 hm [1, 3, 4, 5] [] _ _ rfl rfl rfl, _, _, rfl, rfl, h⟩
      refine ACode_exit ?_
      cases h
      exact Weak_keep 0 hm [1, 3, 4] [] _ _ rfl rfl rfl
    refine (ACode_region ?_)
    refine kM 1 rfl ?_
    refine AOps_q 20 _ rfl rfl rfl (QOp_add _ _ _ _ _ _ _ rfl rfl rfl) ?_
    refine kN 1 rfl ?_
    exact ⟨k0, _, _, Nat.lt_succ_self _, Weak_keep 0 hm [1, 3, 4] [] _ _ rfl rfl rfl, _, _, rfl, rfl, h⟩
   refine ACode_exit ?_
   cases h
   exact Weak_keep 0 hm [3] [] _ _ rfl rfl rfl
 refine kR ?_
 refine kN 2 rfl ?_
 refine ACode_ret ?_
 cases h
 exact ⟨_, _, fun r a w h => ⟨r, h⟩, _, _, [], _, (.cons (ResV_tmp _ _ rfl) .nil), rfl, rfl, rfl, rfl, rfl⟩

-- loop.example/g01362/spec.l01Damage
def spec_l01Damage (p0 : Src) (p1 : ByteArray) : Option (ByteArray × Src) :=
 (spec_l01Next p0 (([(⟨#[48]⟩ : ByteArray), (⟨#[49]⟩ : ByteArray), (⟨#[50]⟩ : ByteArray), (⟨#[51]⟩ : ByteArray), (⟨#[55]⟩ : ByteArray), (⟨#[44]⟩ : ByteArray), (⟨#[58]⟩ : ByteArray), (⟨#[32]⟩ : ByteArray), (⟨#[120]⟩ : ByteArray), (⟨#[10]⟩ : ByteArray)]).length : Int)).bind fun r1 => (if 0 ≤ r1.1 ∧ r1.1 < (([(⟨#[48]⟩ : ByteArray), (⟨#[49]⟩ : ByteArray), (⟨#[50]⟩ : ByteArray), (⟨#[51]⟩ : ByteArray), (⟨#[55]⟩ : ByteArray), (⟨#[44]⟩ : ByteArray), (⟨#[58]⟩ : ByteArray), (⟨#[32]⟩ : ByteArray), (⟨#[120]⟩ : ByteArray), (⟨#[10]⟩ : ByteArray)]).length : Int) then (if decide ((p1.size : Int) = 0) then some ((([(⟨#[48]⟩ : ByteArray), (⟨#[49]⟩ : ByteArray), (⟨#[50]⟩ : ByteArray), (⟨#[51]⟩ : ByteArray), (⟨#[55]⟩ : ByteArray), (⟨#[44]⟩ : ByteArray), (⟨#[58]⟩ : ByteArray), (⟨#[32]⟩ : ByteArray), (⟨#[120]⟩ : ByteArray), (⟨#[10]⟩ : ByteArray)]).getD r1.1.toNat ByteArray.empty), r1.2) else (spec_l01Next r1.2 (p1.size : Int)).bind fun r4 => (spec_l01Next r4.2 3).bind fun r5 => (if decide (r5.1 = 0) then (if 0 ≤ (0 : Int) ∧ 0 ≤ r4.1 ∧ r4.1 ≤ ((p1 : ByteArray).size : Int) then (if ((p1 : ByteArray).extract (0) (r4.1.toNat)).size + (([(⟨#[48]⟩ : ByteArray), (⟨#[49]⟩ : ByteArray), (⟨#[50]⟩ : ByteArray), (⟨#[51]⟩ : ByteArray), (⟨#[55]⟩ : ByteArray), (⟨#[44]⟩ : ByteArray), (⟨#[58]⟩ : ByteArray), (⟨#[32]⟩ : ByteArray), (⟨#[120]⟩ : ByteArray), (⟨#[10]⟩ : ByteArray)]).getD r1.1.toNat ByteArray.empty).size ≤ 1099511627776 then (if 0 ≤ w64 (r4.1 + 1) ∧ w64 (r4.1 + 1) ≤ ((p1 : ByteArray).size : Int) ∧ ((p1 : ByteArray).size : Int) ≤ ((p1 : ByteArray).size : Int) then (if (((p1 : ByteArray).extract (0) (r4.1.toNat)) ++ (([(⟨#[48]⟩ : ByteArray), (⟨#[49]⟩ : ByteArray), (⟨#[50]⟩ : ByteArray), (⟨#[51]⟩ : ByteArray), (⟨#[55]⟩ : ByteArray), (⟨#[44]⟩ : ByteArray), (⟨#[58]⟩ : ByteArray), (⟨#[32]⟩ : ByteArray), (⟨#[120]⟩ : ByteArray), (⟨#[10]⟩ : ByteArray)]).getD r1.1.toNat ByteArray.empty)).size + ((p1 : ByteArray).extract ((w64 (r4.1 + 1)).toNat) ((p1 : ByteArray).size)).size ≤ 1099511627776 then some (((((p1 : ByteArray).extract (0) (r4.1.toNat)) ++ (([(⟨#[48]⟩ : ByteArray), (⟨#[49]⟩ : ByteArray), (⟨#[50]⟩ : ByteArray), (⟨#[51]⟩ : ByteArray), (⟨#[55]⟩ : ByteArray), (⟨#[44]⟩ : ByteArray), (⟨#[58]⟩ : ByteArray), (⟨#[32]⟩ : ByteArray), (⟨#[120]⟩ : ByteArray), (⟨#[10]⟩ : ByteArray)]).getD r1.1.toNat ByteArray.empty)) ++ ((p1 : ByteArray).extract ((w64 (r4.1 + 1)).toNat) ((p1 : ByteArray).size))), r5.2) else none) else none) else none) else none) else (if decide (r5.1 = 1) then (if 0 ≤ (0 : Int) ∧ 0 ≤ r4.1 ∧ r4.1 ≤ ((p1 : ByteArray).size : Int) then (if 0 ≤ w64 (r4.1 + 1) ∧ w64 (r4.1 + 1) ≤ ((p1 : ByteArray).size : Int) ∧ ((p1 : ByteArray).size : Int) ≤ ((p1 : ByteArray).size : Int) then (if ((p1 : ByteArray).extract (0) (r4.1.toNat)).size + ((p1 : ByteArray).extract ((w64 (r4.1 + 1)).toNat) ((p1 : ByteArray).size)).size ≤ 1099511627776 then some ((((p1 : ByteArray).extract (0) (r4.1.toNat)) ++ ((p1 : ByteArray).extract ((w64 (r4.1 + 1)).toNat) ((p1 : ByteArray).size))), r5.2) else none) else none) else none) else (if 0 ≤ (0 : Int) ∧ 0 ≤ r4.1 ∧ r4.1 ≤ ((p1 : ByteArray).size : Int) then (if ((p1 : ByteArray).extract (0) (r4.1.toNat)).size + (([(⟨#[48]⟩ : ByteArray), (⟨#[49]⟩ : ByteArray), (⟨#[50]⟩ : ByteArray), (⟨#[51]⟩ : ByteArray), (⟨#[55]⟩ : ByteArray), (⟨#[44]⟩ : ByteArray), (⟨#[58]⟩ : ByteArray), (⟨#[32]⟩ : ByteArray), (⟨#[120]⟩ : ByteArray), (⟨#[10]⟩ : ByteArray)]).getD r1.1.toNat ByteArray.empty).size ≤ 1099511627776 then (if 0 ≤ r4.1 ∧ r4.1 ≤ ((p1 : ByteArray).size : Int) ∧ ((p1 : ByteArray).size : Int) ≤ ((p1 : ByteArray).size : Int) then (if (((p1 : ByteArray).extract (0) (r4.1.toNat)) ++ (([(⟨#[48]⟩ : ByteArray), (⟨#[49]⟩ : ByteArray), (⟨#[50]⟩ : ByteArray), (⟨#[51]⟩ : ByteArray), (⟨#[55]⟩ : ByteArray), (⟨#[44]⟩ : ByteArray), (⟨#[58]⟩ : ByteArray), (⟨#[32]⟩ : ByteArray), (⟨#[120]⟩ : ByteArray), (⟨#[10]⟩ : ByteArray)]).getD r1.1.toNat ByteArray.empty)).size + ((p1 : ByteArray).extract (r4.1.toNat) ((p1 : ByteArray).size)).size ≤ 1099511627776 then some (((((p1 : ByteArray).extract (0) (r4.1.toNat)) ++ (([(⟨#[48]⟩ : ByteArray), (⟨#[49]⟩ : ByteArray), (⟨#[50]⟩ : ByteArray), (⟨#[51]⟩ : ByteArray), (⟨#[55]⟩ : ByteArray), (⟨#[44]⟩ : ByteArray), (⟨#[58]⟩ : ByteArray), (⟨#[32]⟩ : ByteArray), (⟨#[120]⟩ : ByteArray), (⟨#[10]⟩ : ByteArray)]).getD r1.1.toNat ByteArray.empty)) ++ ((p1 : ByteArray).extract (r4.1.toNat) ((p1 : ByteArray).size))), r5.2) else none) else none) else none) else none)))) else none)
set_option maxRecDepth 100000 in
theorem spec_l01Damage_ac (p0 : Src) (p1 : ByteArray) (r : ByteArray × Src) (h : spec_l01Damage p0 p1 = some r) : AC Tryz.prog 80 [.ptr 0 0, .d (.s (.string p1))] [.box (srcD p0)] (fun res H' => res = [.d (.s (.string r.1))] ∧ H' = [.box (srcD r.2)]) := by
 refine AC_of_body true Tryz.func80 rfl Tryz.ntmps80 (rvs := [.tmp 4]) rfl rfl (fun G hG => ?_)
 have hm : G.H.length = 1 := by rw [hG]; rfl
 have hz : zeroG G.H = true := by rw [hG]; rfl
 unfold spec_l01Damage at h
 refine kR ?_
 refine kN 1 rfl ?_
 refine kR ?_
 refine AOps_buildSlice 8 _ _ _ [_, _, _, _, _, _, _, _, _, _] (stsD ([(⟨#[48]⟩ : ByteArray), (⟨#[49]⟩ : ByteArray), (⟨#[50]⟩ : ByteArray), (⟨#[51]⟩ : ByteArray), (⟨#[55]⟩ : ByteArray), (⟨#[44]⟩ : ByteArray), (⟨#[58]⟩ : ByteArray), (⟨#[32]⟩ : ByteArray), (⟨#[120]⟩ : ByteArray), (⟨#[10]⟩ : ByteArray)])) _ rfl rfl rfl rfl rfl (by decide) Tryz.underlying89 Tryz.sizeOf9 (zero_of Tryz.typeInfo9 rfl) rfl rfl (stsD_one _) ?_
 refine kN 1 rfl ?_
 refine kR ?_
 refine kM 3 rfl ?_
 refine AOps_q 12 _ rfl rfl rfl (QOp_len_vec _ _ _ _ _ _ _ _ (stsD_length _) rfl rfl rfl rfl Tryz.underlying89 rfl rfl) ?_
 obtain ⟨r1, hr1, h⟩ := bindO h
 refine kC [0] 13 (iV r1.1) [.box (srcD r1.2), .vec 0 (stsD ([(⟨#[48]⟩ : ByteArray), (⟨#[49]⟩ : ByteArray), (⟨#[50]⟩ : ByteArray), (⟨#[51]⟩ : ByteArray), (⟨#[55]⟩ : ByteArray), (⟨#[44]⟩ : ByteArray), (⟨#[58]⟩ : ByteArray), (⟨#[32]⟩ : ByteArray), (⟨#[120]⟩ : ByteArray), (⟨#[10]⟩ : ByteArray)]))] rfl Tryz.call67 rfl rfl (spec_l01Next_ac p0 (([(⟨#[48]⟩ : ByteArray), (⟨#[49]⟩ : ByteArray), (⟨#[50]⟩ : ByteArray), (⟨#[51]⟩ : ByteArray), (⟨#[55]⟩ : ByteArray), (⟨#[44]⟩ : ByteArray), (⟨#[58]⟩ : ByteArray), (⟨#[32]⟩ : ByteArray), (⟨#[120]⟩ : ByteArray), (⟨#[10]⟩ : ByteArray)]).length : Int) _ hr1) rfl ?_
 obtain ⟨hc2, h⟩ := guardO h
 refine AOps_q 14 _ rfl rfl rfl (QOp_indexAddr_vec _ _ _ _ _ _ _ _ _ rfl Tryz.underlying89 Tryz.sizeOf9 hc2.1 (by rw [stsD_length]; exact hc2.2) rfl rfl rfl) ?_
 refine AOps_q 15 _ rfl rfl rfl (QOp_load_eptr _ _ _ _ _ _ _ rfl Tryz.isAgg9 rfl rfl (stsD_get _ _ ByteArray.empty (by omega))) ?_
 refine kN 1 rfl ?_
 refine ACode_seq ?_
 refine kR ?_
 refine kM 1 rfl ?_
 refine AOps_q 17 _ rfl rfl rfl (QOp_len_str _ _ _ _ rfl rfl rfl rfl Tryz.underlying9 rfl) ?_
 refine AOps_q 18 _ rfl rfl rfl (QOp_eql _ _ _ _ _ _ _ rfl rfl rfl) ?_
 refine AOps_nil ?_
 refine kI h rfl (fun h _ => ?_) (fun h _ => ?_)
 ·refine kR ?_
  refine kN 2 rfl ?_
  refine ACode_ret ?_
  cases h
  exact ⟨_, _, fun r a w h => ⟨r, h⟩, _, _, [], _, (.cons (ResV_tmp _ _ rfl) .nil), rfl, rfl, rfl, rfl, rfl⟩
 refine ACode_skip ?_
 refine kR ?_
 refine kM 2 rfl ?_
 refine AOps_q 22 _ rfl rfl rfl (QOp_len_str _ _ _ _ rfl rfl rfl rfl Tryz.underlying9 rfl) ?_
 obtain ⟨r4, hr4, h⟩ := bindO h
 refine kC [0] 23 (iV r4.1) [.box (srcD r4.2), .vec 0 (stsD ([(⟨#[48]⟩ : ByteArray), (⟨#[49]⟩ : ByteArray), (⟨#[50]⟩ : ByteArray), (⟨#[51]⟩ : ByteArray), (⟨#[55]⟩ : ByteArray), (⟨#[44]⟩ : ByteArray), (⟨#[58]⟩ : ByteArray), (⟨#[32]⟩ : ByteArray), (⟨#[120]⟩ : ByteArray), (⟨#[10]⟩ : ByteArray)]))] rfl Tryz.call67 rfl rfl (spec_l01Next_ac r1.2 (p1.size : Int) _ hr4) rfl ?_
 refine kN 1 rfl ?_
 refine ACode_seq ?_
 refine kR ?_
 refine kM 1 rfl ?_
 obtain ⟨r5, hr5, h⟩ := bindO h
 refine kC [0] 25 (iV r5.1) [.box (srcD r5.2), .vec 0 (stsD ([(⟨#[48]⟩ : ByteArray), (⟨#[49]⟩ : ByteArray), (⟨#[50]⟩ : ByteArray), (⟨#[51]⟩ : ByteArray), (⟨#[55]⟩ : ByteArray), (⟨#[44]⟩ : ByteArray), (⟨#[58]⟩ : ByteArray), (⟨#[32]⟩ : ByteArray), (⟨#[120]⟩ : ByteArray), (⟨#[10]⟩ : ByteArray)]))] rfl Tryz.call67 rfl rfl (spec_l01Next_ac r4.2 3 _ hr5) rfl ?_
 refine AOps_nil ?_
 refine ACode_block ?_
 refine kR ?_
 refine AOps_q 27 _ rfl rfl rfl (QOp_eql _ _ _ _ _ _ _ rfl rfl rfl) ?_
 refine kN 1 rfl ?_
 refine kI h rfl (fun h _ => ?_) (fun h _ => ?_)
 ·refine ACode_seq (ACode_quiet mixed (by kernel_rfl) ?_)
  refine kQ 2 rfl ?_
  obtain ⟨hc7, h⟩ := guardO h
  refine AQ_q 30 _ rfl rfl rfl (QOp_sslice _ _ _ _ _ (0) (r4.1.toNat) rfl Tryz.underlying9 rfl rfl ⟨_, by rw [Int.toNat_of_nonneg (by omega)]; rfl⟩ (Nat.zero_le _) (Int.toNat_le.2 hc7.2.2)) ?_
  refine kQ 1 rfl ?_
  obtain ⟨hc8, h⟩ := guardO h
  refine AQ_q 32 _ rfl rfl rfl (QOp_sadd _ _ _ _ _ _ rfl rfl rfl hc8) ?_
  refine kQ 2 rfl ?_
  refine AQ_q 35 _ rfl rfl rfl (QOp_add _ _ _ _ _ _ _ rfl rfl rfl) ?_
  obtain ⟨hc9, h⟩ := guardO h
  refine AQ_q 36 _ rfl rfl rfl (QOp_sslice _ _ _ _ _ ((w64 (r4.1 + 1)).toNat) ((p1 : ByteArray).size) rfl Tryz.underlying9 rfl ⟨_, by rw [Int.toNat_of_nonneg (by omega)]; rfl⟩ rfl (Int.toNat_le.2 hc9.2.1) (Nat.le_refl _)) ?_
  obtain ⟨hc10, h⟩ := guardO h
  refine AQ_q 37 _ rfl rfl rfl (QOp_sadd _ _ _ _ _ _ rfl rfl rfl hc10) ?_
  refine kQ 1 rfl ?_
  refine AQ_nil ?_
  refine ACode_ret ?_
  cases h
  exact ⟨_, _, fun r a w h => ⟨r, h⟩, _, _, [], _, (.cons (ResV_tmp _ _ rfl) .nil), rfl, rfl, rfl, rfl, rfl⟩
 refine kR ?_
 refine AOps_q 39 _ rfl rfl rfl (QOp_eql _ _ _ _ _ _ _ rfl rfl rfl) ?_
 refine kN 1 rfl ?_
 refine kI h rfl (fun h _ => ?_) (fun h _ => ?_)
 ·refine ACode_seq (ACode_quiet mixed (by kernel_rfl) ?_)
  refine kQ 2 rfl ?_
  obtain ⟨hc12, h⟩ := guardO h
  refine AQ_q 42 _ rfl rfl rfl (QOp_sslice _ _ _ _ _ (0) (r4.1.toNat) rfl Tryz.underlying9 rfl rfl ⟨_, by rw [Int.toNat_of_nonneg (by omega)]; rfl⟩ (Nat.zero_le _) (Int.toNat_le.2 hc12.2.2)) ?_
  refine kQ 2 rfl ?_
  refine AQ_q 45 _ rfl rfl rfl (QOp_add _ _ _ _ _ _ _ rfl rfl rfl) ?_
  obtain ⟨hc13, h⟩ := guardO h
  refine AQ_q 46 _ rfl rfl rfl (QOp_sslice _ _ _ _ _ ((w64 (r4.1 + 1)).toNat) ((p1 : ByteArray).size) rfl Tryz.underlying9 rfl ⟨_, by rw [Int.toNat_of_nonneg (by omega)]; rfl⟩ rfl (Int.toNat_le.2 hc13.2.1) (Nat.le_refl _)) ?_
  obtain ⟨hc14, h⟩ := guardO h
  refine AQ_q 47 _ rfl rfl rfl (QOp_sadd _ _ _ _ _ _ rfl rfl rfl hc14) ?_
  refine kQ 1 rfl ?_
  refine AQ_nil ?_
  refine ACode_ret ?_
  cases h
  exact ⟨_, _, fun r a w h => ⟨r, h⟩, _, _, [], _, (.cons (ResV_tmp _ _ rfl) .nil), rfl, rfl, rfl, rfl, rfl⟩
 refine ACode_skip ?_
 refine ACode_seq (ACode_quiet mixed (by kernel_rfl) ?_)
 refine kQ 2 rfl ?_
 obtain ⟨hc15, h⟩ := guardO h
 refine AQ_q 50 _ rfl rfl rfl (QOp_sslice _ _ _ _ _ (0) (r4.1.toNat) rfl Tryz.underlying9 rfl rfl ⟨_, by rw [Int.toNat_of_nonneg (by omega)]; rfl⟩ (Nat.zero_le _) (Int.toNat_le.2 hc15.2.2)) ?_
 refine kQ 1 rfl ?_
 obtain ⟨hc16, h⟩ := guardO h
 refine AQ_q 52 _ rfl rfl rfl (QOp_sadd _ _ _ _ _ _ rfl rfl rfl hc16) ?_
 refine kQ 2 rfl ?_
 obtain ⟨hc17, h⟩ := guardO h
 refine AQ_q 55 _ rfl rfl rfl (QOp_sslice _ _ _ _ _ (r4.1.toNat) ((p1 : ByteArray).size) rfl Tryz.underlying9 rfl ⟨_, by rw [Int.toNat_of_nonneg (by omega)]; rfl⟩ rfl (Int.toNat_le.2 hc17.2.1) (Nat.le_refl _)) ?_
 obtain ⟨hc18, h⟩ := guardO h
 refine AQ_q 56 _ rfl rfl rfl (QOp_sadd _ _ _ _ _ _ rfl rfl rfl hc18) ?_
 refine kQ 1 rfl ?_
 refine AQ_nil ?_
 refine ACode_ret ?_
 cases h
 exact ⟨_, _, fun r a w h => ⟨r, h⟩, _, _, [], _, (.cons (ResV_tmp _ _ rfl) .nil), rfl, rfl, rfl, rfl, rfl⟩

-- loop.example/g01362/spec.DrawParseColouring
def spec_DrawParseColouring_l0 : Nat → ByteArray → Src → Option (ByteArray)
 | 0, _, _ => none
 | k0 + 1, x9, x10 => (spec_l01Next x10 3).bind fun r11 => (if decide (r11.1 = 0) then (spec_l01Damage r11.2 x9).bind fun r13 => spec_DrawParseColouring_l0 k0 r13.1 r13.2 else some x9)
def spec_DrawParseColouring (k : Nat) (p0 : List UInt8) : Option (ByteArray) :=
 (spec_l01From k p0).bind fun r1 => (spec_l01Small k r1).bind fun r2 => (spec_l01Text k r2.1).bind fun r3 => ((spec_l01Next r2.2 4).bind fun r4 => (if decide (r4.1 = 0) then (spec_l01Draw k r4.2).bind fun r6 => (spec_l01Text k r6.1).bind fun r7 => some (r7, r6.2) else some (r3, r4.2)) : Option (ByteArray × Src)).bind fun s8 => (spec_DrawParseColouring_l0 k s8.1 s8.2 : Option (ByteArray)).bind fun s14 => some s14
set_option maxRecDepth 100000 in
theorem spec_DrawParseColouring_ac (k : Nat) (p0 : List UInt8) (r : ByteArray) (h : spec_DrawParseColouring k p0 = some r) : AC Tryz.prog 31 [.d (.sl none (bysD p0))] [] (fun res H' => res = [.d (.s (.string r))] ∧ H' = []) := by
 refine AC_of_body true Tryz.func31 rfl Tryz.ntmps31 (rvs := [.tmp 2]) rfl rfl (fun G hG => ?_)
 have hm : G.H.length = 0 := by rw [hG]; rfl
 have hz : zeroG G.H = true := by rw [hG]; rfl
 unfold spec_DrawParseColouring at h
 refine kR ?_
 refine kN 1 rfl ?_
 refine kR ?_
 refine kM 1 rfl ?_
 obtain ⟨r1, hr1, h⟩ := bindO h
 refine kC [] 6 (.ptr 0 0) [.box (srcD r1)] rfl Tryz.call66 rfl rfl (spec_l01From_ac k p0 _ hr1) rfl ?_
 refine kN 1 rfl ?_
 refine kR ?_
 refine kM 1 rfl ?_
 obtain ⟨r2, hr2, h⟩ := bindO h
 refine kC [0] 8 (.d (.agg (colD r2.1))) [.box (srcD r2.2)] rfl Tryz.call78 rfl rfl (spec_l01Small_ac k r1 _ hr2) rfl ?_
 obtain ⟨r3, hr3, h⟩ := bindO h
 refine kC [] 9 (.d (.s (.string r3))) [.box (srcD r2.2)] rfl Tryz.call77 rfl rfl (spec_l01Text_ac k r2.1 _ hr3) rfl ?_
 refine kN 1 rfl ?_
 refine kB (fun s8 => [(3, .ptr 0 0), (4, .d (.s (.string s8.1)))]) (fun s8 => [.box (srcD s8.2)]) h (fun s8 h => ?_) (fun s8 h => ?_)
 ·refine kR ?_
  refine kM 1 rfl ?_
  obtain ⟨r4, hr4, h⟩ := bindO h
  refine kC [0] 11 (iV r4.1) [.box (srcD r4.2)] rfl Tryz.call67 rfl rfl (spec_l01Next_ac r2.2 4 _ hr4) rfl ?_
  refine AOps_q 12 _ rfl rfl rfl (QOp_eql _ _ _ _ _ _ _ rfl rfl rfl) ?_
  refine AOps_nil ?_
  refine kI h rfl (fun h _ => ?_) (fun h _ => ?_)
  ·refine (ACode_region ?_)
   refine kM 1 rfl ?_
   obtain ⟨r6, hr6, h⟩ := bindO h
   refine kC [0] 14 (.d (.agg (colD r6.1))) [.box (srcD r6.2)] rfl Tryz.call79 rfl rfl (spec_l01Draw_ac k r4.2 _ hr6) rfl ?_
   obtain ⟨r7, hr7, h⟩ := bindO h
   refine kC [] 15 (.d (.s (.string r7))) [.box (srcD r6.2)] rfl Tryz.call77 rfl rfl (spec_l01Text_ac k r6.1 _ hr7) rfl ?_
   refine kN 1 rfl ?_
   cases h
   exact Weak_keep 0 hm [3, 4] [0] _ _ rfl rfl rfl
  refine ACode_skip ?_
  cases h
  exact Weak_keep 0 hm [3, 4] [0] _ _ rfl rfl rfl
 refine kB (fun s14 => [(4, .d (.s (.string s14)))]) (fun s14 => []) h (fun s14 h => ?_) (fun s14 h => ?_)
 ·refine ACode_block ?_
  refine ACode_loopW (fun k0 E H => ∃ (x9 : ByteArray) (x10 : Src), E = [(3, .ptr 0 0), (4, .d (.s (.string x9)))] ∧ H = [.box (srcD x10)] ∧ spec_DrawParseColouring_l0 k0 x9 x10 = some s14) k _ _ (Weak_keep 0 hm [3, 4] [0] _ _ rfl rfl rfl) ⟨_, _, rfl, rfl, h⟩ ?_
  clear h
  rintro k0 E H ⟨x9, x10, rfl, rfl, h⟩
  cases k0 with
  | zero => cases (show (none : Option (ByteArray)) = some _ from h)
  | succ k0 =>
   rw [spec_DrawParseColouring_l0] at h
   refine ACode_seq ?_
   refine kR ?_
   refine kM 1 rfl ?_
   obtain ⟨r11, hr11, h⟩ := bindO h
   refine kC [0] 17 (iV r11.1) [.box (srcD r11.2)] rfl Tryz.call67 rfl rfl (spec_l01Next_ac x10 3 _ hr11) rfl ?_
   refine AOps_q 18 _ rfl rfl rfl (QOp_eql _ _ _ _ _ _ _ rfl rfl rfl) ?_
   refine AOps_nil ?_
   refine kI h rfl (fun h _ => ?_) (fun h _ => ?_)
   ·refine ACode_skip ?_
    refine ACode_block ?_
    refine (ACode_region ?_)
    refine kM 2 rfl ?_
    obtain ⟨r13, hr13, h⟩ := bindO h
    refine kC [0] 21 (.d (.s (.string r13.1))) [.box (srcD r13.2)] rfl Tryz.call80 rfl rfl (spec_l01Damage_ac r11.2 x9 _ hr13) rfl ?_
    refine kN 1 rfl ?_
    exact ⟨k0, _, _, Nat.lt_succ_self _, Weak_keep 0 hm [3, 4] [0] _ _ rfl rfl rfl, _, _, rfl, rfl, h⟩
   refine ACode_exit ?_
   cases h
   exact Weak_keep 0 hm [4] [] _ _ rfl rfl rfl
 refine kR ?_
 refine kN 2 rfl ?_
 refine ACode_ret ?_
 cases h
 exact ⟨_, _, fun r a w h => ⟨r, h⟩, _, _, [], _, (.cons (ResV_tmp _ _ rfl) .nil), rfl, rfl, rfl, rfl, rfl⟩

-- loop.example/g01362/spec.l01Split
def spec_l01Split_l0 (p0 : ByteArray) (p1 : UInt8) : Nat → Int → Int → (List ByteArray) → Option (Int × List ByteArray)
 | 0, _, _, _ => none
 | k0 + 1, x1, x2, x3 => (if decide (x2 < (p0.size : Int)) then ((if 0 ≤ x2 ∧ x2 < ((p0 : ByteArray).size : Int) then (if decide ((((p0 : ByteArray).data.toList.getD x2.toNat 0).toNat : Int) = (p1.toNat : Int)) then (if 0 ≤ x1 ∧ x1 ≤ x2 ∧ x2 ≤ ((p0 : ByteArray).size : Int) then (if x3.length + ([((p0 : ByteArray).extract (x1.toNat) (x2.toNat))]).length ≤ 1099511627776 then some (w64 (x2 + 1), (x3 ++ ([((p0 : ByteArray).extract (x1.toNat) (x2.toNat))]))) else none) else none) else some (x1, x3)) else none) : Option (Int × List ByteArray)).bind fun s9 => spec_l01Split_l0 p0 p1 k0 s9.1 (w64 (x2 + 1)) s9.2 else some (x1, x3))
def spec_l01Split (k : Nat) (p0 : ByteArray) (p1 : UInt8) : Option (List ByteArray) :=
 (spec_l01Split_l0 p0 p1 k 0 0 ([] : List ByteArray) : Option (Int × List ByteArray)).bind fun s10 => (if 0 ≤ s10.1 ∧ s10.1 ≤ ((p0 : ByteArray).size : Int) ∧ ((p0 : ByteArray).size : Int) ≤ ((p0 : ByteArray).size : Int) then (if s10.2.length + ([((p0 : ByteArray).extract (s10.1.toNat) ((p0 : ByteArray).size))]).length ≤ 1099511627776 then some (s10.2 ++ ([((p0 : ByteArray).extract (s10.1.toNat) ((p0 : ByteArray).size))])) else none) else none)
set_option maxRecDepth 100000 in
theorem spec_l01Split_ac (k : Nat) (p0 : ByteArray) (p1 : UInt8) (r : List ByteArray) (h : spec_l01Split k p0 p1 = some r) : AC Tryz.prog 103 [.d (.s (.string p0)), .d (uD p1)] [] (fun res H' => res = [.vec 0 0] ∧ H' = [.vec 0 (stsD r)]) := by
 refine AC_of_body true Tryz.func103 rfl Tryz.ntmps103 (rvs := [.tmp 4]) rfl rfl (fun G hG => ?_)
 have hm : G.H.length = 0 := by rw [hG]; rfl
 have hz : zeroG G.H = true := by rw [hG]; rfl
 unfold spec_l01Split at h
 refine kR ?_
 refine kN 1 rfl ?_
 refine kR ?_
 refine AOps_buildSlice 8 _ _ _ [] (stsD ([] : List ByteArray)) _ rfl rfl rfl rfl rfl (by decide) Tryz.underlying89 Tryz.sizeOf9 (zero_of Tryz.typeInfo9 rfl) rfl rfl (stsD_one _) ?_
 refine kN 1 rfl ?_
 refine kR ?_
 refine kN 1 rfl ?_
 refine kB (fun s10 => [(0, .d (.s (.string p0))), (5, .vec 0 0), (6, iV s10.1)]) (fun s10 => [.vec 0 (stsD s10.2)]) h (fun s10 h => ?_) (fun s10 h => ?_)
 ·refine kR ?_
  refine kN 1 rfl ?_
  refine ACode_block ?_
  refine ACode_loopW (fun k0 E H => ∃ (x1 : Int) (x2 : Int) (x3 : List ByteArray), E = [(0, .d (.s (.string p0))), (1, .d (uD p1)), (5, .vec 0 0), (6, iV x1), (7, iV x2)] ∧ H = [.vec 0 (stsD x3)] ∧ spec_l01Split_l0 p0 p1 k0 x1 x2 x3 = some s10) k _ _ (Weak_keep 0 hm [0, 1, 5, 6, 7] [0] _ _ rfl rfl rfl) ⟨_, _, _, rfl, rfl, h⟩ ?_
  clear h
  rintro k0 E H ⟨x1, x2, x3, rfl, rfl, h⟩
  cases k0 with
  | zero => cases (show (none : Option (Int × List ByteArray)) = some _ from h)
  | succ k0 =>
   rw [spec_l01Split_l0] at h
   refine ACode_seq ?_
   refine kR ?_
   refine kM 2 rfl ?_
   refine AOps_q 11 _ rfl rfl rfl (QOp_len_str _ _ _ _ rfl rfl rfl rfl Tryz.underlying9 rfl) ?_
   refine AOps_q 12 _ rfl rfl rfl (QOp_lss _ _ _ _ _ _ _ rfl rfl rfl) ?_
   refine AOps_nil ?_
   refine kI h rfl (fun h _ => ?_) (fun h _ => ?_)
   ·refine ACode_skip ?_
    refine kB (fun s9 => [(0, .d (.s (.string p0))), (1, .d (uD p1)), (5, .vec 0 0), (6, iV s9.1), (7, iV x2)]) (fun s9 => [.vec 0 (stsD s9.2)]) h (fun s9 h => ?_) (fun s9 h => ?_)
    ·refine ACode_block ?_
     refine kR ?_
     refine kM 2 rfl ?_
     obtain ⟨hc5, h⟩ := guardO h
     refine AOps_q 17 _ rfl rfl rfl (QOp_sindex _ _ _ _ _ _ rfl Tryz.underlying9 hc5.1 hc5.2 rfl rfl) ?_
     refine kM 1 rfl ?_
     refine AOps_q 19 _ rfl rfl rfl (QOp_eql _ _ _ _ _ _ _ rfl rfl rfl) ?_
     refine AOps_nil ?_
     refine kI h rfl (fun h _ => ?_) (fun h _ => ?_)
     ·refine kR ?_
      refine kM 4 rfl ?_
      obtain ⟨hc7, h⟩ := guardO h
      refine AOps_q 24 _ rfl rfl rfl (QOp_sslice _ _ _ _ _ (x1.toNat) (x2.toNat) rfl Tryz.underlying9 rfl ⟨_, by rw [Int.toNat_of_nonneg (by omega)]; rfl⟩ ⟨_, by rw [Int.toNat_of_nonneg (by omega)]; rfl⟩ (Int.toNat_le_toNat hc7.2.1) (Int.toNat_le.2 hc7.2.2)) ?_
      refine AOps_buildSlice 25 _ _ _ [_] (stsD ([((p0 : ByteArray).extract (x1.toNat) (x2.toNat))])) _ rfl rfl rfl rfl rfl (by decide) Tryz.underlying89 Tryz.sizeOf9 (zero_of Tryz.typeInfo9 rfl) rfl rfl (stsD_one _) ?_
      obtain ⟨hc8, h⟩ := guardO h
      refine AOps_append 26 _ _ _ _ _ _ _ _ _ _ _ _ rfl rfl rfl rfl rfl rfl rfl Tryz.underlying89 Tryz.type9 rfl rfl rfl (by decide) rfl rfl rfl rfl (stsD_one _) (by rw [stsD_length, stsD_length]; exact hc8) ?_
      rw [stsD_app]
      refine kN 1 rfl ?_
      refine (ACode_region ?_)
      refine kM 1 rfl ?_
      refine AOps_q 28 _ rfl rfl rfl (QOp_add _ _ _ _ _ _ _ rfl rfl rfl) ?_
      refine kN 1 rfl ?_
      cases h
      exact Weak_trans (Weak_keep 0 hm [0, 1, 5, 6, 7] [0] _ _ rfl rfl rfl) (Weak_reset 0 hm hz [0, 1, 5, 6, 7] _ _ rfl rfl)
     refine ACode_skip ?_
     cases h
     exact Weak_keep 0 hm [0, 1, 5, 6, 7] [0] _ _ rfl rfl rfl
    refine (ACode_region ?_)
    refine kM 1 rfl ?_
    refine AOps_q 14 _ rfl rfl rfl (QOp_add _ _ _ _ _ _ _ rfl rfl rfl) ?_
    refine kN 1 rfl ?_
    exact ⟨k0, _, _, Nat.lt_succ_self _, Weak_keep 0 hm [0, 1, 5, 6, 7] [0] _ _ rfl rfl rfl, _, _, _, rfl, rfl, h⟩
   refine ACode_exit ?_
   cases h
   exact Weak_keep 0 hm [0, 5, 6] [0] _ _ rfl rfl rfl
 refine kR ?_
 refine kM 3 rfl ?_
 obtain ⟨hc11, h⟩ := guardO h
 refine AOps_q 32 _ rfl rfl rfl (QOp_sslice _ _ _ _ _ (s10.1.toNat) ((p0 : ByteArray).size) rfl Tryz.underlying9 rfl ⟨_, by rw [Int.toNat_of_nonneg (by omega)]; rfl⟩ rfl (Int.toNat_le.2 hc11.2.1) (Nat.le_refl _)) ?_
 refine AOps_buildSlice 33 _ _ _ [_] (stsD ([((p0 : ByteArray).extract (s10.1.toNat) ((p0 : ByteArray).size))])) _ rfl rfl rfl rfl rfl (by decide) Tryz.underlying89 Tryz.sizeOf9 (zero_of Tryz.typeInfo9 rfl) rfl rfl (stsD_one _) ?_
 obtain ⟨hc12, h⟩ := guardO h
 refine AOps_append 34 _ _ _ _ _ _ _ _ _ _ _ _ rfl rfl rfl rfl rfl rfl rfl Tryz.underlying89 Tryz.type9 rfl rfl rfl (by decide) rfl rfl rfl rfl (stsD_one _) (by rw [stsD_length, stsD_length]; exact hc12) ?_
 rw [stsD_app]
 refine kN 1 rfl ?_
 refine ACode_ret ?_
 cases h
 exact ⟨_, _, Weak_reset 0 hm hz [4] _ _ rfl rfl, _, _, [0], _, (.cons (ResV_tmp _ _ rfl) .nil), rfl, rfl, rfl, rfl, rfl⟩

-- loop.example/g01362/spec.l01Number
def spec_l01Number_l0 (p0 : ByteArray) : Nat → Int → Int → Option (Sum (Int) (Int))
 | 0, _, _ => none
 | k0 + 1, x8, x9 => (if decide (x9 < (p0.size : Int)) then ((((if 0 ≤ x9 ∧ x9 < ((p0 : ByteArray).size : Int) then (if decide ((((p0 : ByteArray).data.toList.getD x9.toNat 0).toNat : Int) < 48) then some true else (if 0 ≤ x9 ∧ x9 < ((p0 : ByteArray).size : Int) then some (decide (57 < (((p0 : ByteArray).data.toList.getD x9.toNat 0).toNat : Int))) else none)) else none) : Option (Bool)).bind fun s14 => (if s14 then ((some (.inr (-1))).bind fun rr => some (.inr rr)).bind fun rr => some (.inr rr) else some (.inl ())) : Option (Sum (Unit) (Sum (Unit) (Sum (Int) (Int))))).bind fun os16 => (match os16 with | .inl s16 => (if 0 ≤ x9 ∧ x9 < ((p0 : ByteArray).size : Int) then some (.inl ()) else none) | .inr rr => some rr) : Option (Sum (Unit) (Sum (Int) (Int)))).bind fun os18 => (match os18 with | .inl s18 => spec_l01Number_l0 p0 k0 (w64 ((w64 (x8 * 10)) + (w64 (IntKind.u8.wrap ((((p0 : ByteArray).data.toList.getD x9.toNat 0).toNat : Int) - 48))))) (w64 (x9 + 1)) | .inr rr => some rr) else some (.inl x8))
def spec_l01Number (k : Nat) (p0 : ByteArray) : Option (Int) :=
 (((if decide ((p0.size : Int) = 0) then some true else (if decide (9 < (p0.size : Int)) then some true else (if decide (1 < (p0.size : Int)) then (if 0 ≤ (0 : Int) ∧ 0 < ((p0 : ByteArray).size : Int) then some (decide ((((p0 : ByteArray).data.toList.getD (0 : Int).toNat 0).toNat : Int) = 48)) else none) else some false))) : Option (Bool)).bind fun s5 => (if s5 then some (.inr (-1)) else some (.inl ())) : Option (Sum (Unit) (Int))).bind fun os7 => (match os7 with | .inl s7 => (spec_l01Number_l0 p0 k 0 0 : Option (Sum (Int) (Int))).bind fun os19 => (match os19 with | .inl s19 => some s19 | .inr rr => some rr) | .inr rr => some rr)
set_option maxRecDepth 100000 in
theorem spec_l01Number_ac (k : Nat) (p0 : ByteArray) (r : Int) (h : spec_l01Number k p0 = some r) : AC Tryz.prog 104 [.d (.s (.string p0))] [] (fun res H' => res = [iV r] ∧ H' = []) := by
 refine AC_of_body true Tryz.func104 rfl Tryz.ntmps104 (rvs := [.tmp 2]) rfl rfl (fun G hG => ?_)
 have hm : G.H.length = 0 := by rw [hG]; rfl
 have hz : zeroG G.H = true := by rw [hG]; rfl
 unfold spec_l01Number at h
 refine kR ?_
 refine kN 1 rfl ?_
 refine kO (fun s7 => [(0, .d (.s (.string p0)))]) (fun s7 => []) h (fun os7 h hks7 => ?_) (fun s7 h => ?_)
 ·refine kB (fun s5 => [(0, .d (.s (.string p0))), (22, bV s5)]) (fun s5 => []) h (fun s5 h => ?_) (fun s5 h => ?_)
  ·refine (ACode_region ?_)
   refine kM 1 rfl ?_
   refine AOps_q 6 _ rfl rfl rfl (QOp_len_str _ _ _ _ rfl rfl rfl rfl Tryz.underlying9 rfl) ?_
   refine AOps_q 7 _ rfl rfl rfl (QOp_eql _ _ _ _ _ _ _ rfl rfl rfl) ?_
   refine kM 1 rfl ?_
   refine AOps_case 8 _ rfl (fun hb1 => ?_) (fun hb1 => ?_)
   ·have h := iteT hb1 h
    refine AOps_skip 9 rfl rfl rfl ?_
    refine AOps_skip 10 rfl rfl rfl ?_
    refine AOps_skip 11 rfl rfl rfl ?_
    refine kM 2 rfl ?_
    refine AOps_skip 14 rfl rfl rfl ?_
    refine AOps_skip 15 rfl rfl rfl ?_
    refine AOps_skip 16 rfl rfl rfl ?_
    refine AOps_skip 17 rfl rfl rfl ?_
    refine AOps_skip 18 rfl rfl rfl ?_
    refine AOps_skip 19 rfl rfl rfl ?_
    refine AOps_skip 20 rfl rfl rfl ?_
    refine AOps_skip 21 rfl rfl rfl ?_
    refine kN 1 rfl ?_
    cases h
    exact Weak_keep 0 hm [0, 22] [] _ _ rfl rfl rfl
   have h := iteF hb1 h
   refine kM 1 rfl ?_
   refine AOps_q 10 _ rfl rfl rfl (QOp_len_str _ _ _ _ rfl rfl rfl rfl Tryz.underlying9 rfl) ?_
   refine AOps_q 11 _ rfl rfl rfl (QOp_gtr _ _ _ _ _ _ _ rfl rfl rfl) ?_
   refine kM 2 rfl ?_
   refine AOps_case 13 _ rfl (fun hb2 => ?_) (fun hb2 => ?_)
   ·have h := iteT hb2 h
    refine AOps_skip 14 rfl rfl rfl ?_
    refine AOps_skip 15 rfl rfl rfl ?_
    refine AOps_skip 16 rfl rfl rfl ?_
    refine AOps_skip 17 rfl rfl rfl ?_
    refine AOps_skip 18 rfl rfl rfl ?_
    refine AOps_skip 19 rfl rfl rfl ?_
    refine AOps_skip 20 rfl rfl rfl ?_
    refine AOps_skip 21 rfl rfl rfl ?_
    refine kN 1 rfl ?_
    cases h
    exact Weak_keep 0 hm [0, 22] [] _ _ rfl rfl rfl
   have h := iteF hb2 h
   refine kM 1 rfl ?_
   refine AOps_q 15 _ rfl rfl rfl (QOp_len_str _ _ _ _ rfl rfl rfl rfl Tryz.underlying9 rfl) ?_
   refine AOps_q 16 _ rfl rfl rfl (QOp_gtr _ _ _ _ _ _ _ rfl rfl rfl) ?_
   refine kM 1 rfl ?_
   refine AOps_case 17 _ rfl (fun hb3 => ?_) (fun hb3 => ?_)
   ·have h := iteT hb3 h
    refine kM 1 rfl ?_
    obtain ⟨hc4, h⟩ := guardO h
    refine AOps_q 19 _ rfl rfl rfl (QOp_sindex _ _ _ _ _ _ rfl Tryz.underlying9 hc4.1 hc4.2 rfl rfl) ?_
    refine AOps_q 20 _ rfl rfl rfl (QOp_eql _ _ _ _ _ _ _ rfl rfl rfl) ?_
    refine kN 2 rfl ?_
    cases h
    exact Weak_keep 0 hm [0, 22] [] _ _ rfl rfl rfl
   have h := iteF hb3 h
   refine AOps_skip 18 rfl rfl rfl ?_
   refine AOps_skip 19 rfl rfl rfl ?_
   refine AOps_skip 20 rfl rfl rfl ?_
   refine kN 2 rfl ?_
   cases h
   exact Weak_keep 0 hm [0, 22] [] _ _ rfl rfl rfl
  refine kI h rfl (fun h _ => ?_) (fun h _ => ?_)
  ·refine kR ?_
   refine kN 1 rfl ?_
   refine ACode_ret ?_
   cases h
   have h := hks7
   cases h
   exact ⟨_, _, fun r a w h => ⟨r, h⟩, _, _, [], _, (.cons (ResV_tmp _ _ rfl) .nil), rfl, rfl, rfl, rfl, rfl⟩
  refine ACode_skip ?_
  cases h
  exact ⟨_, rfl, Weak_keep 0 hm [0] [] _ _ rfl rfl rfl⟩
 refine kR ?_
 refine kN 1 rfl ?_
 refine kO (fun s19 => [(3, iV s19)]) (fun s19 => []) h (fun os19 h hks19 => ?_) (fun s19 h => ?_)
 ·refine kR ?_
  refine kN 1 rfl ?_
  refine ACode_block ?_
  refine ACode_loopW (fun k0 E H => ∃ (x8 : Int) (x9 : Int), E = [(0, .d (.s (.string p0))), (3, iV x8), (4, iV x9)] ∧ H = [] ∧ spec_l01Number_l0 p0 k0 x8 x9 = some os19) k _ _ (Weak_keep 0 hm [0, 3, 4] [] _ _ rfl rfl rfl) ⟨_, _, rfl, rfl, h⟩ ?_
  clear h
  rintro k0 E H ⟨x8, x9, rfl, rfl, h⟩
  cases k0 with
  | zero => cases (show (none : Option (Sum (Int) (Int))) = some _ from h)
  | succ k0 =>
   rw [spec_l01Number_l0] at h
   refine ACode_seq ?_
   refine kR ?_
   refine kM 2 rfl ?_
   refine AOps_q 25 _ rfl rfl rfl (QOp_len_str _ _ _ _ rfl rfl rfl rfl Tryz.underlying9 rfl) ?_
   refine AOps_q 26 _ rfl rfl rfl (QOp_lss _ _ _ _ _ _ _ rfl rfl rfl) ?_
   refine AOps_nil ?_
   refine kI h rfl (fun h _ => ?_) (fun h _ => ?_)
   ·refine ACode_skip ?_
    refine kO (fun s18 => [(0, .d (.s (.string p0))), (3, iV (w64 ((w64 (x8 * 10)) + (w64 (IntKind.u8.wrap ((((p0 : ByteArray).data.toList.getD x9.toNat 0).toNat : Int) - 48)))))), (4, iV x9)]) (fun s18 => []) h (fun os18 h hks18 => ?_) (fun s18 h => ?_)
    ·refine ACode_block ?_
     refine kO (fun s16 => [(0, .d (.s (.string p0))), (3, iV x8), (4, iV x9)]) (fun s16 => []) h (fun os16 h hks16 => ?_) (fun s16 h => ?_)
     ·refine kB (fun s14 => [(0, .d (.s (.string p0))), (3, iV x8), (4, iV x9), (38, bV s14)]) (fun s14 => []) h (fun s14 h => ?_) (fun s14 h => ?_)
      ·refine (ACode_region ?_)
       refine kM 2 rfl ?_
       obtain ⟨hc11, h⟩ := guardO h
       refine AOps_q 31 _ rfl rfl rfl (QOp_sindex _ _ _ _ _ _ rfl Tryz.underlying9 hc11.1 hc11.2 rfl rfl) ?_
       refine AOps_q 32 _ rfl rfl rfl (QOp_lss _ _ _ _ _ _ _ rfl rfl rfl) ?_
       refine kM 1 rfl ?_
       refine AOps_case 33 _ rfl (fun hb12 => ?_) (fun hb12 => ?_)
       ·have h := iteT hb12 h
        refine AOps_skip 34 rfl rfl rfl ?_
        refine AOps_skip 35 rfl rfl rfl ?_
        refine AOps_skip 36 rfl rfl rfl ?_
        refine AOps_skip 37 rfl rfl rfl ?_
        refine kN 1 rfl ?_
        cases h
        exact Weak_keep 0 hm [0, 3, 4, 38] [] _ _ rfl rfl rfl
       have h := iteF hb12 h
       refine kM 2 rfl ?_
       obtain ⟨hc13, h⟩ := guardO h
       refine AOps_q 36 _ rfl rfl rfl (QOp_sindex _ _ _ _ _ _ rfl Tryz.underlying9 hc13.1 hc13.2 rfl rfl) ?_
       refine AOps_q 37 _ rfl rfl rfl (QOp_gtr _ _ _ _ _ _ _ rfl rfl rfl) ?_
       refine kN 1 rfl ?_
       cases h
       exact Weak_keep 0 hm [0, 3, 4, 38] [] _ _ rfl rfl rfl
      refine kI h rfl (fun h _ => ?_) (fun h _ => ?_)
      ·refine kR ?_
       refine kN 1 rfl ?_
       refine ACode_ret ?_
       obtain ⟨rr, hz21, h2⟩ := bindO h
       obtain rfl := Option.some.inj h2
       obtain rfl := Option.some.inj (show some rr = some _ from hks16)
       have h := hz21
       obtain ⟨rr, hz20, h2⟩ := bindO h
       obtain rfl := Option.some.inj h2
       obtain rfl := Option.some.inj (show some rr = some _ from hks18)
       have h := hz20
       cases h
       have h := hks19
       cases h
       exact ⟨_, _, fun r a w h => ⟨r, h⟩, _, _, [], _, (.cons (ResV_tmp _ _ rfl) .nil), rfl, rfl, rfl, rfl, rfl⟩
      refine ACode_skip ?_
      cases h
      exact ⟨_, rfl, Weak_keep 0 hm [0, 3, 4] [] _ _ rfl rfl rfl⟩
     refine (ACode_region ?_)
     refine kM 1 rfl ?_
     refine AOps_q 40 _ rfl rfl rfl (QOp_mul _ _ _ _ _ _ _ rfl rfl rfl) ?_
     refine kM 2 rfl ?_
     obtain ⟨hc17, h⟩ := guardO h
     refine AOps_q 43 _ rfl rfl rfl (QOp_sindex _ _ _ _ _ _ rfl Tryz.underlying9 hc17.1 hc17.2 rfl rfl) ?_
     refine AOps_q 44 _ rfl rfl rfl (QOp_sub _ _ _ _ _ _ _ rfl rfl rfl) ?_
     refine AOps_q 45 _ rfl rfl rfl (QOp_conv _ _ _ _ _ _ rfl rfl Tryz.underlying2 rfl) ?_
     refine AOps_q 46 _ rfl rfl rfl (QOp_add _ _ _ _ _ _ _ rfl rfl rfl) ?_
     refine kN 1 rfl ?_
     cases h
     exact ⟨_, rfl, Weak_keep 0 hm [0, 3, 4] [] _ _ rfl rfl rfl⟩
    refine (ACode_region ?_)
    refine kM 1 rfl ?_
    refine AOps_q 28 _ rfl rfl rfl (QOp_add _ _ _ _ _ _ _ rfl rfl rfl) ?_
    refine kN 1 rfl ?_
    exact ⟨k0, _, _, Nat.lt_succ_self _, Weak_keep 0 hm [0, 3, 4] [] _ _ rfl rfl rfl, _, _, rfl, rfl, h⟩
   refine ACode_exit ?_
   cases h
   exact ⟨_, rfl, Weak_keep 0 hm [3] [] _ _ rfl rfl rfl⟩
 refine kR ?_
 refine kN 2 rfl ?_
 refine ACode_ret ?_
 cases h
 exact ⟨_, _, fun r a w h => ⟨r, h⟩, _, _, [], _, (.cons (ResV_tmp _ _ rfl) .nil), rfl, rfl, rfl, rfl, rfl⟩

-- loop.example/g01362/spec.l01Read
def spec_l01Read_l1 (k : Nat) (r17 : List ByteArray) (x21 : Int) : Nat → Int → Col → Col → Option (Sum (Col × Col) (Sum (Col × Col) (Col × Bool)))
 | 0, _, _, _ => none
 | k1 + 1, x27, x28, x29 => (if decide (x27 < x21) then ((((if 0 ≤ x27 ∧ x27 < (((r17.getD (w64 (x21 - 1)).toNat ByteArray.empty) : ByteArray).size : Int) then (if decide (((((r17.getD (w64 (x21 - 1)).toNat ByteArray.empty) : ByteArray).data.toList.getD x27.toNat 0).toNat : Int) < 48) then some true else (if 0 ≤ x27 ∧ x27 < (((r17.getD (w64 (x21 - 1)).toNat ByteArray.empty) : ByteArray).size : Int) then some (decide (x29.k ≤ w64 (IntKind.u8.wrap (((((r17.getD (w64 (x21 - 1)).toNat ByteArray.empty) : ByteArray).data.toList.getD x27.toNat 0).toNat : Int) - 48)))) else none)) else none) : Option (Bool)).bind fun s34 => (if s34 then (((some (.inr ((⟨0, 0, B136.zero⟩ : Col), false))).bind fun rr => some (.inr rr)).bind fun rr => some (.inr rr)).bind fun rr => some (.inr rr) else some (.inl ())) : Option (Sum (Unit) (Sum (Unit) (Sum (Col × Col) (Sum (Col × Col) (Col × Bool)))))).bind fun os36 => (match os36 with | .inl s36 => (if 0 ≤ x27 ∧ x27 < (((r17.getD (w64 (x21 - 1)).toNat ByteArray.empty) : ByteArray).size : Int) then (if 0 ≤ (spec_l01Edge x27 x21) ∧ (spec_l01Edge x27 x21) < 136 then some (.inl ()) else none) else none) | .inr rr => some rr) : Option (Sum (Unit) (Sum (Col × Col) (Sum (Col × Col) (Col × Bool))))).bind fun os40 => (match os40 with | .inl s40 => spec_l01Read_l1 k r17 x21 k1 (w64 (x27 + 1)) x28 (x29.set ((spec_l01Edge x27 x21).toNat) (toByte (((((r17.getD (w64 (x21 - 1)).toNat ByteArray.empty) : ByteArray).data.toList.getD x27.toNat 0).toNat : Int) - 48))) | .inr rr => some rr) else some (.inl (x28, x29)))
def spec_l01Read_l0 (k : Nat) (r17 : List ByteArray) : Nat → Int → Col → Col → Option (Sum (Col × Col) (Col × Bool))
 | 0, _, _, _ => none
 | k0 + 1, x21, x22, x23 => (if decide (x21 < x23.p) then ((if 0 ≤ w64 (x21 - 1) ∧ w64 (x21 - 1) < (r17.length : Int) then (if !decide (((r17.getD (w64 (x21 - 1)).toNat ByteArray.empty).size : Int) = x21) then (some (.inr ((⟨0, 0, B136.zero⟩ : Col), false))).bind fun rr => some (.inr rr) else spec_l01Read_l1 k r17 x21 k 0 x22 x23) else none) : Option (Sum (Col × Col) (Sum (Col × Col) (Col × Bool)))).bind fun os41 => (match os41 with | .inl s41 => spec_l01Read_l0 k r17 k0 (w64 (x21 + 1)) s41.1 s41.2 | .inr rr => some rr) else some (.inl (x22, x23)))
def spec_l01Read (k : Nat) (p0 : ByteArray) : Option (Col × Bool) :=
 (spec_l01Split k p0 58).bind fun r1 => (if !decide ((r1.length : Int) = 2) then some ((⟨0, 0, B136.zero⟩ : Col), false) else (if 0 ≤ (0 : Int) ∧ (0 : Int) < (r1.length : Int) then (spec_l01Split k (r1.getD (0 : Int).toNat ByteArray.empty) 44).bind fun r4 => (if !decide ((r4.length : Int) = 2) then some ((⟨0, 0, B136.zero⟩ : Col), false) else (if 0 ≤ (0 : Int) ∧ (0 : Int) < (r4.length : Int) then (spec_l01Number k (r4.getD (0 : Int).toNat ByteArray.empty)).bind fun r7 => (if 0 ≤ (1 : Int) ∧ (1 : Int) < (r4.length : Int) then (spec_l01Number k (r4.getD (1 : Int).toNat ByteArray.empty)).bind fun r9 => (letO (if !(spec_l01In ((⟨r7, r9, B136.zero⟩ : Col).p) 1 17) then true else !(spec_l01In ((⟨r7, r9, B136.zero⟩ : Col).k) 1 4)) fun (s13 : Bool) => (if s13 then some (.inr ((⟨0, 0, B136.zero⟩ : Col), false)) else some (.inl ())) : Option (Sum (Unit) (Col × Bool))).bind fun os15 => (match os15 with | .inl s15 => (if 0 ≤ (1 : Int) ∧ (1 : Int) < (r1.length : Int) then (spec_l01Split k (r1.getD (1 : Int).toNat ByteArray.empty) 44).bind fun r17 => (if decide ((⟨r7, r9, B136.zero⟩ : Col).p = 1) then (if 0 ≤ (1 : Int) ∧ (1 : Int) < (r1.length : Int) then some ((⟨r7, r9, B136.zero⟩ : Col), ((r1.getD (1 : Int).toNat ByteArray.empty) == (⟨#[]⟩ : ByteArray))) else none) else (if !decide ((r17.length : Int) = w64 (((⟨r7, r9, B136.zero⟩ : Col).p) - 1)) then some ((⟨0, 0, B136.zero⟩ : Col), false) else (spec_l01Read_l0 k r17 k 1 Col.zero (⟨r7, r9, B136.zero⟩ : Col) : Option (Sum (Col × Col) (Col × Bool))).bind fun os42 => (match os42 with | .inl s42 => some (s42.2, true) | .inr rr => some rr))) else none) | .inr rr => some rr) else none) else none)) else none))
set_option maxRecDepth 100000 in
theorem spec_l01Read_ac (k : Nat) (p0 : ByteArray) (r : Col × Bool) (h : spec_l01Read k p0 = some r) : AC Tryz.prog 81 [.d (.s (.string p0))] [] (fun res H' => res = [.d (.agg (colD r.1)), bV r.2] ∧ H' = []) := by
 refine AC_of_body true Tryz.func81 rfl Tryz.ntmps81 (rvs := [.cell 2 26, .tmp 3]) rfl rfl (fun G hG => ?_)
 have hm : G.H.length = 0 := by rw [hG]; rfl
 have hz : zeroG G.H = true := by rw [hG]; rfl
 unfold spec_l01Read at h
 refine kR ?_
 refine AOps_alloc 2 _ _ (colD Col.zero) (zero_of Tryz.typeInfo26 rfl) (by rfl) rfl rfl rfl rfl ?_
 refine kN 1 rfl ?_
 refine kR ?_
 refine kM 1 rfl ?_
 obtain ⟨r1, hr1, h⟩ := bindO h
 refine kC [] 12 (.vec 1 0) [.box (colD Col.zero), .vec 0 (stsD r1)] rfl Tryz.call103 rfl rfl (spec_l01Split_ac k p0 58 _ hr1) rfl ?_
 refine kN 1 rfl ?_
 refine ACode_seq ?_
 refine kR ?_
 refine kM 1 rfl ?_
 refine AOps_q 14 _ rfl rfl rfl (QOp_len_vec _ _ _ _ _ _ _ _ (stsD_length _) rfl rfl rfl rfl Tryz.underlying89 rfl rfl) ?_
 refine AOps_q 15 _ rfl rfl rfl (QOp_neq _ _ _ _ _ _ _ rfl rfl rfl) ?_
 refine AOps_nil ?_
 refine kI h rfl (fun h _ => ?_) (fun h _ => ?_)
 ·refine kR ?_
  refine AOps_q 16 _ rfl rfl rfl (QOp_build _ _ [] [] [] _ (colD Col.zero) (colD (⟨0, 0, B136.zero⟩ : Col)) [(0, 1), (1, 1), (2, 136)] rfl rfl Tryz.underlying26 (zero_of Tryz.typeInfo26 rfl) (fun w => by simp [Tryz.sizeOf2, Tryz.sizeOf2, Tryz.sizeOf24]) rfl (by rfl) (by rfl) (fun _ h => nomatch h)) ?_
  refine AOps_store _ _ _ _ _ _ (colD _) _ _ rfl rfl rfl rfl rfl rfl rfl (colD_one _) (by rw [colD_length]; exact Tryz.sizeOf26) (by rw [colD_length, colD_length]; decide) (colD_whole _ _) ?_
  refine kN 1 rfl ?_
  refine ACode_ret ?_
  cases h
  exact ⟨_, _, fun r a w h => ⟨r, h⟩, _, _, [], _, (.cons (ResV_agg _ _ _ _ _ _ Tryz.isAgg26 Tryz.sizeOf26 rfl rfl (colD_take _) (colD_length _)) (.cons (ResV_tmp _ _ rfl) .nil)), rfl, rfl, rfl, rfl, rfl⟩
 refine ACode_skip ?_
 refine kR ?_
 refine kM 1 rfl ?_
 obtain ⟨hc3, h⟩ := guardO h
 refine AOps_q 18 _ rfl rfl rfl (QOp_indexAddr_vec _ _ _ _ _ _ _ _ _ rfl Tryz.underlying89 Tryz.sizeOf9 hc3.1 (by rw [stsD_length]; exact hc3.2) rfl rfl rfl) ?_
 refine AOps_q 19 _ rfl rfl rfl (QOp_load_eptr _ _ _ _ _ _ _ rfl Tryz.isAgg9 rfl rfl (stsD_get _ _ ByteArray.empty (by omega))) ?_
 obtain ⟨r4, hr4, h⟩ := bindO h
 refine kC [] 20 (.vec 2 0) [.box (colD Col.zero), .vec 0 (stsD r1), .vec 0 (stsD r4)] rfl Tryz.call103 rfl rfl (spec_l01Split_ac k (r1.getD (0 : Int).toNat ByteArray.empty) 44 _ hr4) rfl ?_
 refine kN 1 rfl ?_
 refine ACode_seq ?_
 refine kR ?_
 refine kM 1 rfl ?_
 refine AOps_q 22 _ rfl rfl rfl (QOp_len_vec _ _ _ _ _ _ _ _ (stsD_length _) rfl rfl rfl rfl Tryz.underlying89 rfl rfl) ?_
 refine AOps_q 23 _ rfl rfl rfl (QOp_neq _ _ _ _ _ _ _ rfl rfl rfl) ?_
 refine AOps_nil ?_
 refine kI h rfl (fun h _ => ?_) (fun h _ => ?_)
 ·refine kR ?_
  refine AOps_q 24 _ rfl rfl rfl (QOp_build _ _ [] [] [] _ (colD Col.zero) (colD (⟨0, 0, B136.zero⟩ : Col)) [(0, 1), (1, 1), (2, 136)] rfl rfl Tryz.underlying26 (zero_of Tryz.typeInfo26 rfl) (fun w => by simp [Tryz.sizeOf2, Tryz.sizeOf2, Tryz.sizeOf24]) rfl (by rfl) (by rfl) (fun _ h => nomatch h)) ?_
  refine AOps_store _ _ _ _ _ _ (colD _) _ _ rfl rfl rfl rfl rfl rfl rfl (colD_one _) (by rw [colD_length]; exact Tryz.sizeOf26) (by rw [colD_length, colD_length]; decide) (colD_whole _ _) ?_
  refine kN 1 rfl ?_
  refine ACode_ret ?_
  cases h
  exact ⟨_, _, fun r a w h => ⟨r, h⟩, _, _, [], _, (.cons (ResV_agg _ _ _ _ _ _ Tryz.isAgg26 Tryz.sizeOf26 rfl rfl (colD_take _) (colD_length _)) (.cons (ResV_tmp _ _ rfl) .nil)), rfl, rfl, rfl, rfl, rfl⟩
 refine ACode_skip ?_
 obtain ⟨hc6, h⟩ := guardO h
 obtain ⟨r7, hr7, h⟩ := bindO h
 obtain ⟨hc8, h⟩ := guardO h
 obtain ⟨r9, hr9, h⟩ := bindO h
 refine ACode_seqJ (fun E' H' => Weak 110 G E' H' [(2, .ptr 0 0), (4, .vec 1 0), (6, .ptr 2 0)] [.box (colD Col.zero), .vec 0 (stsD r1), .box (colD (⟨r7, r9, B136.zero⟩ : Col))]) ?_ ?_
 ·refine ACode_anyLast (l := [_, _, _, _, _, _, _, _, _, _]) mixed (by kernel_rfl) ?_
  refine AAny_q 0 25 _ rfl (by kernel_rfl) rfl rfl rfl (QOp_move _ _ rfl rfl) ?_
  refine AAny_q 1 26 _ rfl (by kernel_rfl) rfl rfl rfl (QOp_indexAddr_vec _ _ _ _ _ _ _ _ _ rfl Tryz.underlying89 Tryz.sizeOf9 hc6.1 (by rw [stsD_length]; exact hc6.2) rfl rfl rfl) ?_
  refine AAny_q 2 27 _ rfl (by kernel_rfl) rfl rfl rfl (QOp_load_eptr _ _ _ _ _ _ _ rfl Tryz.isAgg9 rfl rfl (stsD_get _ _ ByteArray.empty (by omega))) ?_
  refine AAny_call 3 28 _ _ _ _ _ _ _ _ _ rfl (by kernel_rfl) rfl rfl rfl rfl rfl rfl rfl Tryz.call104 rfl rfl rfl (spec_l01Number_ac k (r4.getD (0 : Int).toNat ByteArray.empty) _ hr7) ?_
  refine AAny_q 4 29 _ rfl (by kernel_rfl) rfl rfl rfl (QOp_move _ _ rfl rfl) ?_
  refine AAny_q 5 30 _ rfl (by kernel_rfl) rfl rfl rfl (QOp_indexAddr_vec _ _ _ _ _ _ _ _ _ rfl Tryz.underlying89 Tryz.sizeOf9 hc8.1 (by rw [stsD_length]; exact hc8.2) rfl rfl rfl) ?_
  refine AAny_q 6 31 _ rfl (by kernel_rfl) rfl rfl rfl (QOp_load_eptr _ _ _ _ _ _ _ rfl Tryz.isAgg9 rfl rfl (stsD_get _ _ ByteArray.empty (by omega))) ?_
  refine AAny_call 7 32 _ _ _ _ _ _ _ _ _ rfl (by kernel_rfl) rfl rfl rfl rfl rfl rfl rfl Tryz.call104 rfl rfl rfl (spec_l01Number_ac k (r4.getD (1 : Int).toNat ByteArray.empty) _ hr9) ?_
  refine AAny_q 8 33 _ rfl (by kernel_rfl) rfl rfl rfl (QOp_build _ _ [_, _] [0, 1] [iD r7, iD r9] _ (colD Col.zero) (colD (⟨r7, r9, B136.zero⟩ : Col)) [(0, 1), (1, 1), (2, 136)] rfl rfl Tryz.underlying26 (zero_of Tryz.typeInfo26 rfl) (fun w => by simp [Tryz.sizeOf2, Tryz.sizeOf2, Tryz.sizeOf24]) rfl (by rfl) (by rfl) (allc (ok1 rfl) (allc (ok1 rfl) (fun _ h => nomatch h)))) ?_
  refine AAny_all [9] (by kernel_rfl) rfl (allc ?_ (fun _ h => nomatch h))
  refine AStep_of 9 rfl rfl (Bl_alloc _ _ (zero_of Tryz.typeInfo26 rfl) rfl) ?_
  refine AOps_alloc 6 _ _ (colD Col.zero) (zero_of Tryz.typeInfo26 rfl) (by rfl) rfl rfl rfl rfl ?_
  refine AOps_nil ?_
  refine AAny_done (by kernel_rfl) ?_
  refine AOps_store _ _ _ _ _ _ (colD _) _ _ rfl rfl rfl rfl rfl rfl rfl (colD_one _) (by rw [colD_length]; exact Tryz.sizeOf26) (by rw [colD_length, colD_length]; decide) (colD_whole _ _) ?_
  refine AOps_nil ?_
  exact Weak_keep 0 hm [2, 4, 6] [0, 1, 3] _ _ rfl rfl rfl
 intro E' H' hw
 refine ACode_weak hw ?_
 refine kO (fun s15 => [(2, .ptr 0 0), (4, .vec 1 0), (6, .ptr 2 0)]) (fun s15 => [.box (colD Col.zero), .vec 0 (stsD r1), .box (colD (⟨r7, r9, B136.zero⟩ : Col))]) h (fun os15 h hks15 => ?_) (fun s15 h => ?_)
 ·refine kL (fun s13 => [(2, .ptr 0 0), (4, .vec 1 0), (6, .ptr 2 0), (43, bV s13)]) (fun s13 => [.box (colD Col.zero), .vec 0 (stsD r1), .box (colD (⟨r7, r9, B136.zero⟩ : Col))]) h (fun s13 h => ?_) (fun s13 h => ?_)
  ·refine (ACode_region ?_)
   refine AOps_q 34 _ rfl rfl rfl (QOp_fieldAddr_ptr _ _ _ _ _ _ 0 _ _ rfl Tryz.underlying26 rfl _ Tryz.sizeOf2 rfl rfl rfl rfl) ?_
   refine AOps_q 35 _ rfl rfl rfl (QOp_load_ptr _ _ _ _ _ _ rfl Tryz.isAgg2 rfl rfl rfl) ?_
   refine kC [] 36 (bV (spec_l01In ((⟨r7, r9, B136.zero⟩ : Col).p) 1 17)) [.box (colD Col.zero), .vec 0 (stsD r1), .box (colD (⟨r7, r9, B136.zero⟩ : Col))] rfl Tryz.call73 rfl rfl (spec_l01In_ac ((⟨r7, r9, B136.zero⟩ : Col).p) 1 17) rfl ?_
   refine AOps_q 37 _ rfl rfl rfl (QOp_not _ _ _ rfl rfl) ?_
   refine kM 1 rfl ?_
   refine AOps_case 38 _ rfl (fun hb11 => ?_) (fun hb11 => ?_)
   ·have h := iteT hb11 h
    refine AOps_skip 39 rfl rfl rfl ?_
    refine AOps_skip 40 rfl rfl rfl ?_
    refine AOps_skip 41 rfl rfl rfl ?_
    refine AOps_skip 42 rfl rfl rfl ?_
    refine kN 1 rfl ?_
    cases h
    exact Weak_keep 0 hm [2, 4, 6, 43] [0, 1, 2] _ _ rfl rfl rfl
   have h := iteF hb11 h
   refine AOps_q 39 _ rfl rfl rfl (QOp_fieldAddr_ptr _ _ _ _ _ _ 1 _ _ rfl Tryz.underlying26 rfl _ Tryz.sizeOf2 rfl rfl rfl rfl) ?_
   refine AOps_q 40 _ rfl rfl rfl (QOp_load_ptr _ _ _ _ _ _ rfl Tryz.isAgg2 rfl rfl rfl) ?_
   refine kC [] 41 (bV (spec_l01In ((⟨r7, r9, B136.zero⟩ : Col).k) 1 4)) [.box (colD Col.zero), .vec 0 (stsD r1), .box (colD (⟨r7, r9, B136.zero⟩ : Col))] rfl Tryz.call73 rfl rfl (spec_l01In_ac ((⟨r7, r9, B136.zero⟩ : Col).k) 1 4) rfl ?_
   refine AOps_q 42 _ rfl rfl rfl (QOp_not _ _ _ rfl rfl) ?_
   refine kN 1 rfl ?_
   cases h
   exact Weak_keep 0 hm [2, 4, 6, 43] [0, 1, 2] _ _ rfl rfl rfl
  refine kI h rfl (fun h _ => ?_) (fun h _ => ?_)
  ·refine kR ?_
   refine AOps_q 44 _ rfl rfl rfl (QOp_build _ _ [] [] [] _ (colD Col.zero) (colD (⟨0, 0, B136.zero⟩ : Col)) [(0, 1), (1, 1), (2, 136)] rfl rfl Tryz.underlying26 (zero_of Tryz.typeInfo26 rfl) (fun w => by simp [Tryz.sizeOf2, Tryz.sizeOf2, Tryz.sizeOf24]) rfl (by rfl) (by rfl) (fun _ h => nomatch h)) ?_
   refine AOps_store _ _ _ _ _ _ (colD _) _ _ rfl rfl rfl rfl rfl rfl rfl (colD_one _) (by rw [colD_length]; exact Tryz.sizeOf26) (by rw [colD_length, colD_length]; decide) (colD_whole _ _) ?_
   refine kN 1 rfl ?_
   refine ACode_ret ?_
   cases h
   have h := hks15
   cases h
   exact ⟨_, _, fun r a w h => ⟨r, h⟩, _, _, [], _, (.cons (ResV_agg _ _ _ _ _ _ Tryz.isAgg26 Tryz.sizeOf26 rfl rfl (colD_take _) (colD_length _)) (.cons (ResV_tmp _ _ rfl) .nil)), rfl, rfl, rfl, rfl, rfl⟩
  refine ACode_skip ?_
  cases h
  exact ⟨_, rfl, Weak_keep 0 hm [2, 4, 6] [0, 1, 2] _ _ rfl rfl rfl⟩
 refine kR ?_
 refine kM 1 rfl ?_
 obtain ⟨hc16, h⟩ := guardO h
 refine AOps_q 46 _ rfl rfl rfl (QOp_indexAddr_vec _ _ _ _ _ _ _ _ _ rfl Tryz.underlying89 Tryz.sizeOf9 hc16.1 (by rw [stsD_length]; exact hc16.2) rfl rfl rfl) ?_
 refine AOps_q 47 _ rfl rfl rfl (QOp_load_eptr _ _ _ _ _ _ _ rfl Tryz.isAgg9 rfl rfl (stsD_get _ _ ByteArray.empty (by omega))) ?_
 obtain ⟨r17, hr17, h⟩ := bindO h
 refine kC [] 48 (.vec 3 0) [.box (colD Col.zero), .vec 0 (stsD r1), .box (colD (⟨r7, r9, B136.zero⟩ : Col)), .vec 0 (stsD r17)] rfl Tryz.call103 rfl rfl (spec_l01Split_ac k (r1.getD (1 : Int).toNat ByteArray.empty) 44 _ hr17) rfl ?_
 refine kN 1 rfl ?_
 refine ACode_seq ?_
 refine kR ?_
 refine AOps_q 49 _ rfl rfl rfl (QOp_fieldAddr_ptr _ _ _ _ _ _ 0 _ _ rfl Tryz.underlying26 rfl _ Tryz.sizeOf2 rfl rfl rfl rfl) ?_
 refine AOps_q 50 _ rfl rfl rfl (QOp_load_ptr _ _ _ _ _ _ rfl Tryz.isAgg2 rfl rfl rfl) ?_
 refine AOps_q 51 _ rfl rfl rfl (QOp_eql _ _ _ _ _ _ _ rfl rfl rfl) ?_
 refine AOps_nil ?_
 refine kI h rfl (fun h _ => ?_) (fun h _ => ?_)
 ·obtain ⟨hc19, h⟩ := guardO h
  refine ACode_seq (ACode_reg [(2, .ptr 0 0), (3, bV ((r1.getD (1 : Int).toNat ByteArray.empty) == (⟨#[]⟩ : ByteArray)))] [.box (colD (⟨r7, r9, B136.zero⟩ : Col))] ?_ ?_)
  ·refine ACode_anyU mixed ?_
   refine AU_cut 2 #[true, true, true, true, true, false, false] [(2, .ptr 0 0), (52, .d (.agg (colD (⟨r7, r9, B136.zero⟩ : Col)))), (56, bV ((r1.getD (1 : Int).toNat ByteArray.empty) == (⟨#[]⟩ : ByteArray)))] [.box (colD Col.zero)] ?_ (fun hS0 => ?_)
   ·refine AU_one 5 (by kernel_rfl) rfl rfl ?_
    refine AOps_store _ _ _ _ _ _ (colD _) _ _ rfl rfl rfl rfl rfl rfl rfl (colD_one _) (by rw [colD_length]; exact Tryz.sizeOf26) (by rw [colD_length, colD_length]; decide) (colD_whole _ _) ?_
    refine AOps_nil ?_
    refine AU_u 6 3 _ rfl (by kernel_rfl) rfl rfl rfl (UOp_assign _ _ rfl rfl) ?_
    refine AU_done (by kernel_rfl) ?_
    exact ⟨rfl, Weak_keep 0 hm [2, 3] [0] _ _ rfl rfl rfl⟩
   refine AU_u 1 53 _ rfl (by kernel_rfl) rfl rfl rfl (UOp_move _ _ rfl rfl) ?_
   refine AU_u 2 54 _ rfl (by kernel_rfl) rfl rfl rfl (UOp_indexAddr_vec _ _ _ _ _ _ _ _ _ rfl Tryz.underlying89 Tryz.sizeOf9 hc19.1 (by rw [stsD_length]; exact hc19.2) rfl rfl rfl) ?_
   refine AU_all [0, 3] (by kernel_rfl) rfl (allc ?_ (allc ?_ (fun _ h => nomatch h)))
   ·refine US_of 0 rfl rfl ?_
    refine AOps_q 52 _ rfl rfl rfl (QOp_loadN_ptr _ _ _ _ _ _ _ rfl Tryz.isAgg26 Tryz.sizeOf26 rfl rfl (colD_all _) (colD_length _)) ?_
    refine AOps_nil ?_
    refine AU_all [3, 5] (by kernel_rfl) rfl (allc ?_ (allc ?_ (fun _ h => nomatch h)))
    ·refine US_of 3 rfl rfl ?_
     refine AOps_q 55 _ rfl rfl rfl (QOp_load_eptr _ _ _ _ _ _ _ rfl Tryz.isAgg9 rfl rfl (stsD_get _ _ ByteArray.empty (by omega))) ?_
     refine AOps_nil ?_
     refine AU_u 4 56 _ rfl (by kernel_rfl) rfl rfl rfl (UOp_seq _ _ _ _ _ _ rfl rfl rfl Tryz.underlying9) ?_
     exact AU_to (by kernel_rfl) hS0 (Weak_keep 0 hm [2, 52, 56] [0] _ _ rfl rfl rfl)
    refine US_of 5 rfl rfl ?_
    refine AOps_store _ _ _ _ _ _ (colD _) _ _ rfl rfl rfl rfl rfl rfl rfl (colD_one _) (by rw [colD_length]; exact Tryz.sizeOf26) (by rw [colD_length, colD_length]; decide) (colD_whole _ _) ?_
    refine AOps_nil ?_
    refine AU_one 3 (by kernel_rfl) rfl rfl ?_
    refine AOps_q 55 _ rfl rfl rfl (QOp_load_eptr _ _ _ _ _ _ _ rfl Tryz.isAgg9 rfl rfl (stsD_get _ _ ByteArray.empty (by omega))) ?_
    refine AOps_nil ?_
    refine AU_u 4 56 _ rfl (by kernel_rfl) rfl rfl rfl (UOp_seq _ _ _ _ _ _ rfl rfl rfl Tryz.underlying9) ?_
    refine AU_u 6 3 _ rfl (by kernel_rfl) rfl rfl rfl (UOp_assign _ _ rfl rfl) ?_
    refine AU_done (by kernel_rfl) ?_
    exact ⟨rfl, Weak_keep 0 hm [2, 3] [0] _ _ rfl rfl rfl⟩
   refine US_of 3 rfl rfl ?_
   refine AOps_q 55 _ rfl rfl rfl (QOp_load_eptr _ _ _ _ _ _ _ rfl Tryz.isAgg9 rfl rfl (stsD_get _ _ ByteArray.empty (by omega))) ?_
   refine AOps_nil ?_
   refine AU_u 4 56 _ rfl (by kernel_rfl) rfl rfl rfl (UOp_seq _ _ _ _ _ _ rfl rfl rfl Tryz.underlying9) ?_
   refine AU_one 0 (by kernel_rfl) rfl rfl ?_
   refine AOps_q 52 _ rfl rfl rfl (QOp_loadN_ptr _ _ _ _ _ _ _ rfl Tryz.isAgg26 Tryz.sizeOf26 rfl rfl (colD_all _) (colD_length _)) ?_
   refine AOps_nil ?_
   exact AU_to (by kernel_rfl) hS0 (Weak_keep 0 hm [2, 52, 56] [0] _ _ rfl rfl rfl)
  refine ACode_ret ?_
  cases h
  exact ⟨_, _, fun r a w h => ⟨r, h⟩, _, _, [], _, (.cons (ResV_agg _ _ _ _ _ _ Tryz.isAgg26 Tryz.sizeOf26 rfl rfl (colD_take _) (colD_length _)) (.cons (ResV_tmp _ _ rfl) .nil)), rfl, rfl, rfl, rfl, rfl⟩
 refine ACode_skip ?_
 refine ACode_seq ?_
 refine kR ?_
 refine kM 1 rfl ?_
 refine AOps_q 58 _ rfl rfl rfl (QOp_len_vec _ _ _ _ _ _ _ _ (stsD_length _) rfl rfl rfl rfl Tryz.underlying89 rfl rfl) ?_
 refine AOps_q 59 _ rfl rfl rfl (QOp_fieldAddr_ptr _ _ _ _ _ _ 0 _ _ rfl Tryz.underlying26 rfl _ Tryz.sizeOf2 rfl rfl rfl rfl) ?_
 refine AOps_q 60 _ rfl rfl rfl (QOp_load_ptr _ _ _ _ _ _ rfl Tryz.isAgg2 rfl rfl rfl) ?_
 refine AOps_q 61 _ rfl rfl rfl (QOp_sub _ _ _ _ _ _ _ rfl rfl rfl) ?_
 refine AOps_q 62 _ rfl rfl rfl (QOp_neq _ _ _ _ _ _ _ rfl rfl rfl) ?_
 refine AOps_nil ?_
 refine kI h rfl (fun h _ => ?_) (fun h _ => ?_)
 ·refine kR ?_
  refine AOps_q 63 _ rfl rfl rfl (QOp_build _ _ [] [] [] _ (colD Col.zero) (colD (⟨0, 0, B136.zero⟩ : Col)) [(0, 1), (1, 1), (2, 136)] rfl rfl Tryz.underlying26 (zero_of Tryz.typeInfo26 rfl) (fun w => by simp [Tryz.sizeOf2, Tryz.sizeOf2, Tryz.sizeOf24]) rfl (by rfl) (by rfl) (fun _ h => nomatch h)) ?_
  refine AOps_store _ _ _ _ _ _ (colD _) _ _ rfl rfl rfl rfl rfl rfl rfl (colD_one _) (by rw [colD_length]; exact Tryz.sizeOf26) (by rw [colD_length, colD_length]; decide) (colD_whole _ _) ?_
  refine kN 1 rfl ?_
  refine ACode_ret ?_
  cases h
  exact ⟨_, _, fun r a w h => ⟨r, h⟩, _, _, [], _, (.cons (ResV_agg _ _ _ _ _ _ Tryz.isAgg26 Tryz.sizeOf26 rfl rfl (colD_take _) (colD_length _)) (.cons (ResV_tmp _ _ rfl) .nil)), rfl, rfl, rfl, rfl, rfl⟩
 refine ACode_skip ?_
 refine kO (fun s42 => [(2, .ptr 0 0), (6, .ptr 1 0)]) (fun s42 => [.box (colD s42.1), .box (colD s42.2)]) h (fun os42 h hks42 => ?_) (fun s42 h => ?_)
 ·refine kR ?_
  refine kN 1 rfl ?_
  refine ACode_block ?_
  refine ACode_loopW (fun k0 E H => ∃ (x21 : Int) (x22 : Col) (x23 : Col), E = [(2, .ptr 0 0), (6, .ptr 1 0), (7, .vec 2 0), (8, iV x21)] ∧ H = [.box (colD x22), .box (colD x23), .vec 0 (stsD r17)] ∧ spec_l01Read_l0 k r17 k0 x21 x22 x23 = some os42) k _ _ (Weak_keep 0 hm [2, 6, 7, 8] [0, 2, 3] _ _ rfl rfl rfl) ⟨_, _, _, rfl, rfl, h⟩ ?_
  clear h
  rintro k0 E H ⟨x21, x22, x23, rfl, rfl, h⟩
  cases k0 with
  | zero => cases (show (none : Option (Sum (Col × Col) (Col × Bool))) = some _ from h)
  | succ k0 =>
   rw [spec_l01Read_l0] at h
   refine ACode_seq ?_
   refine kR ?_
   refine kM 1 rfl ?_
   refine AOps_q 65 _ rfl rfl rfl (QOp_fieldAddr_ptr _ _ _ _ _ _ 0 _ _ rfl Tryz.underlying26 rfl _ Tryz.sizeOf2 rfl rfl rfl rfl) ?_
   refine AOps_q 66 _ rfl rfl rfl (QOp_load_ptr _ _ _ _ _ _ rfl Tryz.isAgg2 rfl rfl rfl) ?_
   refine AOps_q 67 _ rfl rfl rfl (QOp_lss _ _ _ _ _ _ _ rfl rfl rfl) ?_
   refine AOps_nil ?_
   refine kI h rfl (fun h _ => ?_) (fun h _ => ?_)
   ·refine ACode_skip ?_
    refine kO (fun s41 => [(2, .ptr 0 0), (6, .ptr 1 0), (7, .vec 2 0), (8, iV x21)]) (fun s41 => [.box (colD s41.1), .box (colD s41.2), .vec 0 (stsD r17)]) h (fun os41 h hks41 => ?_) (fun s41 h => ?_)
    ·refine ACode_block ?_
     refine kR ?_
     refine kM 2 rfl ?_
     refine AOps_q 72 _ rfl rfl rfl (QOp_sub _ _ _ _ _ _ _ rfl rfl rfl) ?_
     obtain ⟨hc25, h⟩ := guardO h
     refine AOps_q 73 _ rfl rfl rfl (QOp_indexAddr_vec _ _ _ _ _ _ _ _ _ rfl Tryz.underlying89 Tryz.sizeOf9 hc25.1 (by rw [stsD_length]; exact hc25.2) rfl rfl rfl) ?_
     refine AOps_q 74 _ rfl rfl rfl (QOp_load_eptr _ _ _ _ _ _ _ rfl Tryz.isAgg9 rfl rfl (stsD_get _ _ ByteArray.empty (by omega))) ?_
     refine kN 1 rfl ?_
     refine ACode_seq ?_
     refine kR ?_
     refine kM 1 rfl ?_
     refine AOps_q 76 _ rfl rfl rfl (QOp_len_str _ _ _ _ rfl rfl rfl rfl Tryz.underlying9 rfl) ?_
     refine kM 1 rfl ?_
     refine AOps_q 78 _ rfl rfl rfl (QOp_neq _ _ _ _ _ _ _ rfl rfl rfl) ?_
     refine AOps_nil ?_
     refine kI h rfl (fun h _ => ?_) (fun h _ => ?_)
     ·refine kR ?_
      refine AOps_q 79 _ rfl rfl rfl (QOp_build _ _ [] [] [] _ (colD Col.zero) (colD (⟨0, 0, B136.zero⟩ : Col)) [(0, 1), (1, 1), (2, 136)] rfl rfl Tryz.underlying26 (zero_of Tryz.typeInfo26 rfl) (fun w => by simp [Tryz.sizeOf2, Tryz.sizeOf2, Tryz.sizeOf24]) rfl (by rfl) (by rfl) (fun _ h => nomatch h)) ?_
      refine AOps_store _ _ _ _ _ _ (colD _) _ _ rfl rfl rfl rfl rfl rfl rfl (colD_one _) (by rw [colD_length]; exact Tryz.sizeOf26) (by rw [colD_length, colD_length]; decide) (colD_whole _ _) ?_
      refine kN 1 rfl ?_
      refine ACode_ret ?_
      obtain ⟨rr, hz43, h2⟩ := bindO h
      obtain rfl := Option.some.inj h2
      obtain rfl := Option.some.inj (show some rr = some _ from hks41)
      have h := hz43
      cases h
      have h := hks42
      cases h
      exact ⟨_, _, fun r a w h => ⟨r, h⟩, _, _, [], _, (.cons (ResV_agg _ _ _ _ _ _ Tryz.isAgg26 Tryz.sizeOf26 rfl rfl (colD_take _) (colD_length _)) (.cons (ResV_tmp _ _ rfl) .nil)), rfl, rfl, rfl, rfl, rfl⟩
     refine ACode_skip ?_
     refine kR ?_
     refine kN 1 rfl ?_
     refine ACode_block ?_
     refine ACode_loopW (fun k1 E H => ∃ (x27 : Int) (x28 : Col) (x29 : Col), E = [(2, .ptr 0 0), (6, .ptr 1 0), (7, .vec 2 0), (8, iV x21), (9, .d (.s (.string (r17.getD (w64 (x21 - 1)).toNat ByteArray.empty)))), (10, iV x27)] ∧ H = [.box (colD x28), .box (colD x29), .vec 0 (stsD r17)] ∧ spec_l01Read_l1 k r17 x21 k1 x27 x28 x29 = some os41) k _ _ (Weak_keep 0 hm [2, 6, 7, 8, 9, 10] [0, 1, 2] _ _ rfl rfl rfl) ⟨_, _, _, rfl, rfl, h⟩ ?_
     clear h
     rintro k1 E H ⟨x27, x28, x29, rfl, rfl, h⟩
     cases k1 with
     | zero => cases (show (none : Option (Sum (Col × Col) (Sum (Col × Col) (Col × Bool)))) = some _ from h)
     | succ k1 =>
      rw [spec_l01Read_l1] at h
      refine ACode_seq ?_
      refine kR ?_
      refine kM 2 rfl ?_
      refine AOps_q 82 _ rfl rfl rfl (QOp_lss _ _ _ _ _ _ _ rfl rfl rfl) ?_
      refine AOps_nil ?_
      refine kI h rfl (fun h _ => ?_) (fun h _ => ?_)
      ·refine ACode_skip ?_
       refine kO (fun s40 => [(2, .ptr 0 0), (6, .ptr 1 0), (7, .vec 2 0), (8, iV x21), (9, .d (.s (.string (r17.getD (w64 (x21 - 1)).toNat ByteArray.empty)))), (10, iV x27)]) (fun s40 => [.box (colD x28), .box (colD (x29.set ((spec_l01Edge x27 x21).toNat) (toByte (((((r17.getD (w64 (x21 - 1)).toNat ByteArray.empty) : ByteArray).data.toList.getD x27.toNat 0).toNat : Int) - 48)))), .vec 0 (stsD r17)]) h (fun os40 h hks40 => ?_) (fun s40 h => ?_)
       ·refine ACode_block ?_
        refine kO (fun s36 => [(2, .ptr 0 0), (6, .ptr 1 0), (7, .vec 2 0), (8, iV x21), (9, .d (.s (.string (r17.getD (w64 (x21 - 1)).toNat ByteArray.empty)))), (10, iV x27)]) (fun s36 => [.box (colD x28), .box (colD x29), .vec 0 (stsD r17)]) h (fun os36 h hks36 => ?_) (fun s36 h => ?_)
        ·refine kB (fun s34 => [(2, .ptr 0 0), (6, .ptr 1 0), (7, .vec 2 0), (8, iV x21), (9, .d (.s (.string (r17.getD (w64 (x21 - 1)).toNat ByteArray.empty)))), (10, iV x27), (98, bV s34)]) (fun s34 => [.box (colD x28), .box (colD x29), .vec 0 (stsD r17)]) h (fun s34 h => ?_) (fun s34 h => ?_)
         ·refine (ACode_quiet mixed (by kernel_rfl) ?_)
          refine kQ 2 rfl ?_
          obtain ⟨hc31, h⟩ := guardO h
          refine AQ_q 87 _ rfl rfl rfl (QOp_sindex _ _ _ _ _ _ rfl Tryz.underlying9 hc31.1 hc31.2 rfl rfl) ?_
          refine AQ_q 88 _ rfl rfl rfl (QOp_lss _ _ _ _ _ _ _ rfl rfl rfl) ?_
          refine kQ 1 rfl ?_
          refine AQ_case 89 _ rfl (fun hb32 => ?_) (fun hb32 => ?_)
          ·have h := iteT hb32 h
           refine AQ_skip 90 rfl rfl rfl ?_
           refine AQ_skip 91 rfl rfl rfl ?_
           refine AQ_skip 92 rfl rfl rfl ?_
           refine AQ_skip 93 rfl rfl rfl ?_
           refine AQ_skip 94 rfl rfl rfl ?_
           refine AQ_skip 95 rfl rfl rfl ?_
           refine AQ_skip 96 rfl rfl rfl ?_
           refine AQ_skip 97 rfl rfl rfl ?_
           refine kQ 1 rfl ?_
           refine AQ_nil ?_
           cases h
           exact Weak_keep 0 hm [2, 6, 7, 8, 9, 10, 98] [0, 1, 2] _ _ rfl rfl rfl
          have h := iteF hb32 h
          refine kQ 2 rfl ?_
          obtain ⟨hc33, h⟩ := guardO h
          refine AQ_q 92 _ rfl rfl rfl (QOp_sindex _ _ _ _ _ _ rfl Tryz.underlying9 hc33.1 hc33.2 rfl rfl) ?_
          refine AQ_q 93 _ rfl rfl rfl (QOp_sub _ _ _ _ _ _ _ rfl rfl rfl) ?_
          refine AQ_q 94 _ rfl rfl rfl (QOp_conv _ _ _ _ _ _ rfl rfl Tryz.underlying2 rfl) ?_
          refine AQ_q 95 _ rfl rfl rfl (QOp_fieldAddr_ptr _ _ _ _ _ _ 1 _ _ rfl Tryz.underlying26 rfl _ Tryz.sizeOf2 rfl rfl rfl rfl) ?_
          refine AQ_q 96 _ rfl rfl rfl (QOp_load_ptr _ _ _ _ _ _ rfl Tryz.isAgg2 rfl rfl rfl) ?_
          refine AQ_q 97 _ rfl rfl rfl (QOp_geq _ _ _ _ _ _ _ rfl rfl rfl) ?_
          refine kQ 1 rfl ?_
          refine AQ_nil ?_
          cases h
          exact Weak_keep 0 hm [2, 6, 7, 8, 9, 10, 98] [0, 1, 2] _ _ rfl rfl rfl
         refine kI h rfl (fun h _ => ?_) (fun h _ => ?_)
         ·refine kR ?_
          refine AOps_q 99 _ rfl rfl rfl (QOp_build _ _ [] [] [] _ (colD Col.zero) (colD (⟨0, 0, B136.zero⟩ : Col)) [(0, 1), (1, 1), (2, 136)] rfl rfl Tryz.underlying26 (zero_of Tryz.typeInfo26 rfl) (fun w => by simp [Tryz.sizeOf2, Tryz.sizeOf2, Tryz.sizeOf24]) rfl (by rfl) (by rfl) (fun _ h => nomatch h)) ?_
          refine AOps_store _ _ _ _ _ _ (colD _) _ _ rfl rfl rfl rfl rfl rfl rfl (colD_one _) (by rw [colD_length]; exact Tryz.sizeOf26) (by rw [colD_length, colD_length]; decide) (colD_whole _ _) ?_
          refine kN 1 rfl ?_
          refine ACode_ret ?_
          obtain ⟨rr, hz46, h2⟩ := bindO h
          obtain rfl := Option.some.inj h2
          obtain rfl := Option.some.inj (show some rr = some _ from hks36)
          have h := hz46
          obtain ⟨rr, hz45, h2⟩ := bindO h
          obtain rfl := Option.some.inj h2
          obtain rfl := Option.some.inj (show some rr = some _ from hks40)
          have h := hz45
          obtain ⟨rr, hz44, h2⟩ := bindO h
          obtain rfl := Option.some.inj h2
          obtain rfl := Option.some.inj (show some rr = some _ from hks41)
          have h := hz44
          cases h
          have h := hks42
          cases h
          exact ⟨_, _, fun r a w h => ⟨r, h⟩, _, _, [], _, (.cons (ResV_agg _ _ _ _ _ _ Tryz.isAgg26 Tryz.sizeOf26 rfl rfl (colD_take _) (colD_length _)) (.cons (ResV_tmp _ _ rfl) .nil)), rfl, rfl, rfl, rfl, rfl⟩
         refine ACode_skip ?_
         cases h
         exact ⟨_, rfl, Weak_keep 0 hm [2, 6, 7, 8, 9, 10] [0, 1, 2] _ _ rfl rfl rfl⟩
        refine (ACode_last (l := [_, _, _, _, _, _, _, _, _]) mixed (by kernel_rfl) (by kernel_rfl) ?_)
        refine kQ 2 rfl ?_
        refine AQ_call 102 _ _ _ _ _ _ _ _ _ rfl rfl rfl rfl rfl rfl rfl Tryz.call86 rfl rfl rfl (spec_l01Edge_ac x27 x21) ?_
        refine kQ 2 rfl ?_
        obtain ⟨hc38, h⟩ := guardO h
        refine AQ_q 105 _ rfl rfl rfl (QOp_sindex _ _ _ _ _ _ rfl Tryz.underlying9 hc38.1 hc38.2 rfl rfl) ?_
        refine AQ_q 106 _ rfl rfl rfl (QOp_sub _ _ _ _ _ _ _ rfl rfl rfl) ?_
        refine AQ_q 107 _ rfl rfl rfl (QOp_fieldAddr_ptr _ _ _ _ _ _ 2 _ _ rfl Tryz.underlying26 rfl _ Tryz.sizeOf24 rfl rfl rfl rfl) ?_
        obtain ⟨hc39, h⟩ := guardO h
        refine AQ_q 108 _ rfl rfl rfl (QOp_indexAddrA_ptr _ _ _ _ _ _ _ _ _ _ rfl Tryz.underlying24 Tryz.sizeOf5 hc39.1 hc39.2 rfl rfl rfl rfl) ?_
        refine AQ_nil ?_
        refine AOps_store1 _ _ _ _ _ _ (colD (x29.set ((spec_l01Edge x27 x21).toNat) (toByte (((((r17.getD (w64 (x21 - 1)).toNat ByteArray.empty) : ByteArray).data.toList.getD x27.toNat 0).toNat : Int) - 48)))) _ rfl rfl rfl rfl rfl rfl rfl Tryz.sizeOf5 (by rw [colD_length]; omega) (colD_setW x29 ((spec_l01Edge x27 x21).toNat) (((((r17.getD (w64 (x21 - 1)).toNat ByteArray.empty) : ByteArray).data.toList.getD x27.toNat 0).toNat : Int) - 48)) ?_
        refine AOps_nil ?_
        cases h
        exact ⟨_, rfl, Weak_keep 0 hm [2, 6, 7, 8, 9, 10] [0, 1, 2] _ _ rfl rfl rfl⟩
       refine (ACode_region ?_)
       refine kM 1 rfl ?_
       refine AOps_q 84 _ rfl rfl rfl (QOp_add _ _ _ _ _ _ _ rfl rfl rfl) ?_
       refine kN 1 rfl ?_
       exact ⟨k1, _, _, Nat.lt_succ_self _, Weak_keep 0 hm [2, 6, 7, 8, 9, 10] [0, 1, 2] _ _ rfl rfl rfl, _, _, _, rfl, rfl, h⟩
      refine ACode_exit ?_
      cases h
      exact ⟨_, rfl, Weak_keep 0 hm [2, 6, 7, 8] [0, 1, 2] _ _ rfl rfl rfl⟩
    refine (ACode_region ?_)
    refine kM 1 rfl ?_
    refine AOps_q 69 _ rfl rfl rfl (QOp_add _ _ _ _ _ _ _ rfl rfl rfl) ?_
    refine kN 1 rfl ?_
    exact ⟨k0, _, _, Nat.lt_succ_self _, Weak_keep 0 hm [2, 6, 7, 8] [0, 1, 2] _ _ rfl rfl rfl, _, _, _, rfl, rfl, h⟩
   refine ACode_exit ?_
   cases h
   exact ⟨_, rfl, Weak_keep 0 hm [2, 6] [0, 1] _ _ rfl rfl rfl⟩
 refine kR ?_
 refine AOps_q 109 _ rfl rfl rfl (QOp_loadN_ptr _ _ _ _ _ _ _ rfl Tryz.isAgg26 Tryz.sizeOf26 rfl rfl (colD_all _) (colD_length _)) ?_
 refine AOps_store _ _ _ _ _ _ (colD _) _ _ rfl rfl rfl rfl rfl rfl rfl (colD_one _) (by rw [colD_length]; exact Tryz.sizeOf26) (by rw [colD_length, colD_length]; decide) (colD_whole _ _) ?_
 refine kN 1 rfl ?_
 refine ACode_ret ?_
 cases h
 exact ⟨_, _, fun r a w h => ⟨r, h⟩, _, _, [], _, (.cons (ResV_agg _ _ _ _ _ _ Tryz.isAgg26 Tryz.sizeOf26 rfl rfl (colD_take _) (colD_length _)) (.cons (ResV_tmp _ _ rfl) .nil)), rfl, rfl, rfl, rfl, rfl⟩

-- loop.example/g01362/spec.ParseColouring
def spec_ParseColouring (k : Nat) (p0 : ByteArray) : Option (Col × Int) :=
 (spec_l01Read k p0).bind fun r1 => (if !r1.2 then some ((⟨0, 0, B136.zero⟩ : Col), 6) else some (r1.1, 0))
set_option maxRecDepth 100000 in
theorem spec_ParseColouring_ac (k : Nat) (p0 : ByteArray) (r : Col × Int) (h : spec_ParseColouring k p0 = some r) : AC Tryz.prog 32 [.d (.s (.string p0))] [] (fun res H' => res = [.d (.agg (colD r.1)), iV r.2] ∧ H' = []) := by
 refine AC_of_body true Tryz.func32 rfl Tryz.ntmps32 (rvs := [.cell 2 26, .tmp 3]) rfl rfl (fun G hG => ?_)
 have hm : G.H.length = 0 := by rw [hG]; rfl
 have hz : zeroG G.H = true := by rw [hG]; rfl
 unfold spec_ParseColouring at h
 refine kR ?_
 refine AOps_alloc 2 _ _ (colD Col.zero) (zero_of Tryz.typeInfo26 rfl) (by rfl) rfl rfl rfl rfl ?_
 refine kN 1 rfl ?_
 refine kR ?_
 refine kM 1 rfl ?_
 obtain ⟨r1, hr1, h⟩ := bindO h
 refine kC [] 8 (.tup [.d (.agg (colD r1.1)), bV r1.2]) [.box (colD Col.zero)] rfl Tryz.call81 rfl rfl (spec_l01Read_ac k p0 _ hr1) rfl ?_
 refine kM 3 rfl ?_
 refine AOps_alloc 4 _ _ (colD Col.zero) (zero_of Tryz.typeInfo26 rfl) (by rfl) rfl rfl rfl rfl ?_
 refine AOps_store _ _ _ _ _ _ (colD _) _ _ rfl rfl rfl rfl rfl rfl rfl (colD_one _) (by rw [colD_length]; exact Tryz.sizeOf26) (by rw [colD_length, colD_length]; decide) (colD_whole _ _) ?_
 refine kN 1 rfl ?_
 refine ACode_seq ?_
 refine kR ?_
 refine kM 1 rfl ?_
 refine AOps_q 12 _ rfl rfl rfl (QOp_not _ _ _ rfl rfl) ?_
 refine AOps_nil ?_
 refine kI h rfl (fun h _ => ?_) (fun h _ => ?_)
 ·refine kR ?_
  refine AOps_q 13 _ rfl rfl rfl (QOp_build _ _ [] [] [] _ (colD Col.zero) (colD (⟨0, 0, B136.zero⟩ : Col)) [(0, 1), (1, 1), (2, 136)] rfl rfl Tryz.underlying26 (zero_of Tryz.typeInfo26 rfl) (fun w => by simp [Tryz.sizeOf2, Tryz.sizeOf2, Tryz.sizeOf24]) rfl (by rfl) (by rfl) (fun _ h => nomatch h)) ?_
  refine AOps_store _ _ _ _ _ _ (colD _) _ _ rfl rfl rfl rfl rfl rfl rfl (colD_one _) (by rw [colD_length]; exact Tryz.sizeOf26) (by rw [colD_length, colD_length]; decide) (colD_whole _ _) ?_
  refine kN 1 rfl ?_
  refine ACode_ret ?_
  cases h
  exact ⟨_, _, fun r a w h => ⟨r, h⟩, _, _, [], _, (.cons (ResV_agg _ _ _ _ _ _ Tryz.isAgg26 Tryz.sizeOf26 rfl rfl (colD_take _) (colD_length _)) (.cons (ResV_tmp _ _ rfl) .nil)), rfl, rfl, rfl, rfl, rfl⟩
 refine ACode_skip ?_
 refine kR ?_
 refine AOps_q 14 _ rfl rfl rfl (QOp_loadN_ptr _ _ _ _ _ _ _ rfl Tryz.isAgg26 Tryz.sizeOf26 rfl rfl (colD_all _) (colD_length _)) ?_
 refine AOps_store _ _ _ _ _ _ (colD _) _ _ rfl rfl rfl rfl rfl rfl rfl (colD_one _) (by rw [colD_length]; exact Tryz.sizeOf26) (by rw [colD_length, colD_length]; decide) (colD_whole _ _) ?_
 refine kN 1 rfl ?_
 refine ACode_ret ?_
 cases h
 exact ⟨_, _, fun r a w h => ⟨r, h⟩, _, _, [], _, (.cons (ResV_agg _ _ _ _ _ _ Tryz.isAgg26 Tryz.sizeOf26 rfl rfl (colD_take _) (colD_length _)) (.cons (ResV_tmp _ _ rfl) .nil)), rfl, rfl, rfl, rfl, rfl⟩

-- loop.example/g01362/spec.l01Spoil
def spec_l01Spoil (k : Nat) (p0 : Src) : Option (Col × Src) :=
 (spec_l01Draw k p0).bind fun r1 => (spec_l01Bad r1.2 r1.1).bind fun r2 => some (r2.1, r2.2)
set_option maxRecDepth 100000 in
theorem spec_l01Spoil_ac (k : Nat) (p0 : Src) (r : Col × Src) (h : spec_l01Spoil k p0 = some r) : AC Tryz.prog 82 [.ptr 0 0] [.box (srcD p0)] (fun res H' => res = [.d (.agg (colD r.1))] ∧ H' = [.box (srcD r.2)]) := by
 refine AC_of_body true Tryz.func82 rfl Tryz.ntmps82 (rvs := [.cell 2 26]) rfl rfl (fun G hG => ?_)
 have hm : G.H.length = 1 := by rw [hG]; rfl
 have hz : zeroG G.H = true := by rw [hG]; rfl
 unfold spec_l01Spoil at h
 refine kR ?_
 refine AOps_alloc 2 _ _ (colD Col.zero) (zero_of Tryz.typeInfo26 rfl) (by rfl) rfl rfl rfl rfl ?_
 refine AOps_nil ?_
 refine kR ?_
 refine kM 2 rfl ?_
 obtain ⟨r1, hr1, h⟩ := bindO h
 refine kC [0] 5 (.d (.agg (colD r1.1))) [.box (srcD r1.2), .box (colD Col.zero)] rfl Tryz.call79 rfl rfl (spec_l01Draw_ac k p0 _ hr1) rfl ?_
 obtain ⟨r2, hr2, h⟩ := bindO h
 refine kC [0] 6 (.d (.agg (colD r2.1))) [.box (srcD r2.2), .box (colD Col.zero)] rfl Tryz.call84 rfl rfl (spec_l01Bad_ac r1.2 r1.1 _ hr2) rfl ?_
 refine AOps_store _ _ _ _ _ _ (colD _) _ _ rfl rfl rfl rfl rfl rfl rfl (colD_one _) (by rw [colD_length]; exact Tryz.sizeOf26) (by rw [colD_length, colD_length]; decide) (colD_whole _ _) ?_
 refine AOps_nil ?_
 refine ACode_ret ?_
 cases h
 exact ⟨_, _, fun r a w h => ⟨r, h⟩, _, _, [], _, (.cons (ResV_agg _ _ _ _ _ _ Tryz.isAgg26 Tryz.sizeOf26 rfl rfl (colD_take _) (colD_length _)) .nil), rfl, rfl, rfl, rfl, rfl⟩

-- loop.example/g01362/spec.DrawCountEdges
def spec_DrawCountEdges (k : Nat) (p0 : List UInt8) : Option (Col) :=
 (spec_l01From k p0).bind fun r1 => (spec_l01Spoil k r1).bind fun r2 => some r2.1
set_option maxRecDepth 100000 in
theorem spec_DrawCountEdges_ac (k : Nat) (p0 : List UInt8) (r : Col) (h : spec_DrawCountEdges k p0 = some r) : AC Tryz.prog 33 [.d (.sl none (bysD p0))] [] (fun res H' => res = [.d (.agg (colD r))] ∧ H' = []) := by
 refine AC_of_body true Tryz.func33 rfl Tryz.ntmps33 (rvs := [.cell 2 26]) rfl rfl (fun G hG => ?_)
 have hm : G.H.length = 0 := by rw [hG]; rfl
 have hz : zeroG G.H = true := by rw [hG]; rfl
 unfold spec_DrawCountEdges at h
 refine kR ?_
 refine AOps_alloc 2 _ _ (colD Col.zero) (zero_of Tryz.typeInfo26 rfl) (by rfl) rfl rfl rfl rfl ?_
 refine AOps_nil ?_
 refine kR ?_
 refine kM 1 rfl ?_
 obtain ⟨r1, hr1, h⟩ := bindO h
 refine kC [] 4 (.ptr 1 0) [.box (colD Col.zero), .box (srcD r1)] rfl Tryz.call66 rfl rfl (spec_l01From_ac k p0 _ hr1) rfl ?_
 obtain ⟨r2, hr2, h⟩ := bindO h
 refine kC [1] 5 (.d (.agg (colD r2.1))) [.box (colD Col.zero), .box (srcD r2.2)] rfl Tryz.call82 rfl rfl (spec_l01Spoil_ac k r1 _ hr2) rfl ?_
 refine AOps_store _ _ _ _ _ _ (colD _) _ _ rfl rfl rfl rfl rfl rfl rfl (colD_one _) (by rw [colD_length]; exact Tryz.sizeOf26) (by rw [colD_length, colD_length]; decide) (colD_whole _ _) ?_
 refine AOps_nil ?_
 refine ACode_ret ?_
 cases h
 exact ⟨_, _, fun r a w h => ⟨r, h⟩, _, _, [], _, (.cons (ResV_agg _ _ _ _ _ _ Tryz.isAgg26 Tryz.sizeOf26 rfl rfl (colD_take _) (colD_length _)) .nil), rfl, rfl, rfl, rfl, rfl⟩

-- loop.example/g01362/spec.CountEdges
def spec_CountEdges_l0 (p0 : Col) : Nat → Int → (List Int) → Option (List Int)
 | 0, _, _ => none
 | k0 + 1, x4, x5 => (if decide (x4 < w64 ((w64 (p0.p * (w64 (p0.p - 1)))).tdiv 2)) then (if 0 ≤ x4 ∧ x4 < 136 then (if 0 ≤ ((p0.get x4.toNat).toNat : Int) ∧ ((p0.get x4.toNat).toNat : Int) < (x5.length : Int) then (if 0 ≤ ((p0.get x4.toNat).toNat : Int) ∧ ((p0.get x4.toNat).toNat : Int) < (x5.length : Int) then spec_CountEdges_l0 p0 k0 (w64 (x4 + 1)) (x5.set ((p0.get x4.toNat).toNat : Int).toNat (w64 ((x5.getD ((p0.get x4.toNat).toNat : Int).toNat 0) + 1))) else none) else none) else none) else some x5)
def spec_CountEdges (k : Nat) (p0 : Col) : Option (List Int × Int) :=
 (spec_l01Is k p0).bind fun r1 => (if !r1 then some ([], 1) else (if 0 ≤ p0.k ∧ p0.k ≤ p0.k ∧ p0.k ≤ 1099511627776 then (spec_CountEdges_l0 p0 k 0 (List.replicate p0.k.toNat (0 : Int)) : Option (List Int)).bind fun s10 => some (s10, 0) else none))
set_option maxRecDepth 100000 in
theorem spec_CountEdges_ac (k : Nat) (p0 : Col) (r : List Int × Int) (h : spec_CountEdges k p0 = some r) : AC Tryz.prog 34 [.d (.agg (colD p0))] [] (fun res H' => res = [.d (.sl none (intsD r.1)), iV r.2] ∧ H' = []) := by
 refine AC_of_body true Tryz.func34 rfl Tryz.ntmps34 (rvs := [.tmp 2, .tmp 3]) rfl rfl (fun G hG => ?_)
 have hm : G.H.length = 0 := by rw [hG]; rfl
 have hz : zeroG G.H = true := by rw [hG]; rfl
 unfold spec_CountEdges at h
 refine kR ?_
 refine AOps_boxI 1 _ _ (.agg (colD p0)) (colD p0) rfl (colD_one _) rfl rfl rfl rfl rfl ?_
 refine kN 2 rfl ?_
 refine ACode_seq ?_
 refine kR ?_
 refine AOps_q 6 _ rfl rfl rfl (QOp_loadN_pv _ _ _ _ _ _ rfl Tryz.isAgg26 Tryz.sizeOf26 rfl (colD_all _) (colD_length _)) ?_
 obtain ⟨r1, hr1, h⟩ := bindO h
 refine kC [] 7 (bV r1) [] rfl Tryz.call45 rfl rfl (spec_l01Is_ac k p0 _ hr1) rfl ?_
 refine AOps_q 8 _ rfl rfl rfl (QOp_not _ _ _ rfl rfl) ?_
 refine AOps_nil ?_
 refine kI h rfl (fun h _ => ?_) (fun h _ => ?_)
 ·refine kR ?_
  refine kN 2 rfl ?_
  refine ACode_ret ?_
  cases h
  exact ⟨_, _, fun r a w h => ⟨r, h⟩, _, _, [], _, (.cons (ResV_tmp _ _ rfl) (.cons (ResV_tmp _ _ rfl) .nil)), rfl, rfl, rfl, rfl, rfl⟩
 refine ACode_skip ?_
 refine kR ?_
 refine AOps_q 9 _ rfl rfl rfl (QOp_fieldAddr_pv _ _ _ _ _ 1 _ _ rfl Tryz.underlying26 rfl _ Tryz.sizeOf2 rfl rfl) ?_
 refine AOps_q 10 _ rfl rfl rfl (QOp_load_pv _ _ _ _ _ rfl Tryz.isAgg2 rfl rfl) ?_
 obtain ⟨hc3, h⟩ := guardO h
 refine AOps_makeSliceG intsD iD 0 (intsD_rep · _) 11 _ _ _ _ _ _ p0.k p0.k _ (.int .i64 0) rfl rfl rfl rfl rfl rfl Tryz.underlying34 Tryz.type2 rfl rfl (by decide) rfl rfl hc3.1 hc3.2.1 hc3.2.2 ?_
 refine kN 1 rfl ?_
 refine kB (fun s10 => [(4, .vec 0 0)]) (fun s10 => [.vec 0 (intsD s10)]) h (fun s10 h => ?_) (fun s10 h => ?_)
 ·refine kR ?_
  refine kN 1 rfl ?_
  refine ACode_block ?_
  refine ACode_loopW (fun k0 E H => ∃ (x4 : Int) (x5 : List Int), E = [(1, .d (.pv (colD p0) 0)), (4, .vec 0 0), (5, iV x4)] ∧ H = [.vec 0 (intsD x5)] ∧ spec_CountEdges_l0 p0 k0 x4 x5 = some s10) k _ _ (Weak_keep 0 hm [1, 4, 5] [0] _ _ rfl rfl rfl) ⟨_, _, rfl, rfl, h⟩ ?_
  clear h
  rintro k0 E H ⟨x4, x5, rfl, rfl, h⟩
  cases k0 with
  | zero => cases (show (none : Option (List Int)) = some _ from h)
  | succ k0 =>
   rw [spec_CountEdges_l0] at h
   refine ACode_seq ?_
   refine kR ?_
   refine kM 1 rfl ?_
   refine AOps_q 13 _ rfl rfl rfl (QOp_fieldAddr_pv _ _ _ _ _ 0 _ _ rfl Tryz.underlying26 rfl _ Tryz.sizeOf2 rfl rfl) ?_
   refine AOps_q 14 _ rfl rfl rfl (QOp_load_pv _ _ _ _ _ rfl Tryz.isAgg2 rfl rfl) ?_
   refine AOps_q 15 _ rfl rfl rfl (QOp_fieldAddr_pv _ _ _ _ _ 0 _ _ rfl Tryz.underlying26 rfl _ Tryz.sizeOf2 rfl rfl) ?_
   refine AOps_q 16 _ rfl rfl rfl (QOp_load_pv _ _ _ _ _ rfl Tryz.isAgg2 rfl rfl) ?_
   refine AOps_q 17 _ rfl rfl rfl (QOp_sub _ _ _ _ _ _ _ rfl rfl rfl) ?_
   refine AOps_q 18 _ rfl rfl rfl (QOp_mul _ _ _ _ _ _ _ rfl rfl rfl) ?_
   refine AOps_q 19 _ rfl rfl rfl (QOp_quo _ _ _ _ _ _ _ (by decide) rfl rfl rfl) ?_
   refine AOps_q 20 _ rfl rfl rfl (QOp_lss _ _ _ _ _ _ _ rfl rfl rfl) ?_
   refine AOps_nil ?_
   refine kI h rfl (fun h _ => ?_) (fun h _ => ?_)
   ·refine ACode_skip ?_
    refine ACode_seq ?_
    refine ACode_block ?_
    refine (ACode_region ?_)
    refine kM 2 rfl ?_
    refine AOps_q 25 _ rfl rfl rfl (QOp_fieldAddr_pv _ _ _ _ _ 2 _ _ rfl Tryz.underlying26 rfl _ Tryz.sizeOf24 rfl rfl) ?_
    obtain ⟨hc7, h⟩ := guardO h
    refine AOps_q 26 _ rfl rfl rfl (QOp_indexAddrA_pv _ _ _ _ _ _ _ _ _ rfl Tryz.underlying24 Tryz.sizeOf5 hc7.1 hc7.2 rfl rfl) ?_
    refine AOps_q 27 _ rfl rfl rfl (QOp_load_pv _ _ _ _ _ rfl Tryz.isAgg5 rfl (colD_get _ _ (by omega))) ?_
    obtain ⟨hc8, h⟩ := guardO h
    refine AOps_q 28 _ rfl rfl rfl (QOp_indexAddr_vec _ _ _ _ _ _ _ _ _ rfl Tryz.underlying34 Tryz.sizeOf2 hc8.1 (by rw [intsD_length]; exact hc8.2) rfl rfl rfl) ?_
    refine AOps_q 29 _ rfl rfl rfl (QOp_load_eptr _ _ _ _ _ _ _ rfl Tryz.isAgg2 rfl rfl (intsD_get _ _ 0 (by omega))) ?_
    refine AOps_q 30 _ rfl rfl rfl (QOp_add _ _ _ _ _ _ _ rfl rfl rfl) ?_
    obtain ⟨hc9, h⟩ := guardO h
    refine AOps_q 31 _ rfl rfl rfl (QOp_indexAddr_vec _ _ _ _ _ _ _ _ _ rfl Tryz.underlying34 Tryz.sizeOf2 hc9.1 (by rw [intsD_length]; exact hc9.2) rfl rfl rfl) ?_
    refine AOps_store_eptr _ _ _ _ _ _ (intsD x5) _ rfl rfl rfl rfl rfl rfl rfl Tryz.sizeOf2 (by rw [intsD_length]; omega) ?_
    rw [intsD_set]
    refine AOps_nil ?_
    refine (ACode_region ?_)
    refine kM 1 rfl ?_
    refine AOps_q 22 _ rfl rfl rfl (QOp_add _ _ _ _ _ _ _ rfl rfl rfl) ?_
    refine kN 1 rfl ?_
    exact ⟨k0, _, _, Nat.lt_succ_self _, Weak_keep 0 hm [1, 4, 5] [0] _ _ rfl rfl rfl, _, _, rfl, rfl, h⟩
   refine ACode_exit ?_
   cases h
   exact Weak_keep 0 hm [4] [0] _ _ rfl rfl rfl
 refine kR ?_
 refine kN 3 rfl ?_
 refine ACode_ret ?_
 cases h
 exact ⟨_, _, fun r a w h => ⟨r, h⟩, _, _, [], _, (.cons (ResV_tmp _ _ rfl) (.cons (ResV_tmp _ _ rfl) .nil)), rfl, rfl, rfl, rfl, rfl⟩

-- loop.example/g01362/spec.ColouringText
def spec_ColouringText (k : Nat) (p0 : Col) : Option (ByteArray × Int) :=
 (spec_l01Is k p0).bind fun r1 => (if !r1 then some ((⟨#[]⟩ : ByteArray), 1) else (spec_l01Text k p0).bind fun r3 => some (r3, 0))
set_option maxRecDepth 100000 in
theorem spec_ColouringText_ac (k : Nat) (p0 : Col) (r : ByteArray × Int) (h : spec_ColouringText k p0 = some r) : AC Tryz.prog 35 [.d (.agg (colD p0))] [] (fun res H' => res = [.d (.s (.string r.1)), iV r.2] ∧ H' = []) := by
 refine AC_of_body true Tryz.func35 rfl Tryz.ntmps35 (rvs := [.tmp 2, .tmp 3]) rfl rfl (fun G hG => ?_)
 have hm : G.H.length = 0 := by rw [hG]; rfl
 have hz : zeroG G.H = true := by rw [hG]; rfl
 unfold spec_ColouringText at h
 refine kR ?_
 refine AOps_boxI 1 _ _ (.agg (colD p0)) (colD p0) rfl (colD_one _) rfl rfl rfl rfl rfl ?_
 refine kN 2 rfl ?_
 refine ACode_seq ?_
 refine kR ?_
 refine AOps_q 4 _ rfl rfl rfl (QOp_loadN_pv _ _ _ _ _ _ rfl Tryz.isAgg26 Tryz.sizeOf26 rfl (colD_all _) (colD_length _)) ?_
 obtain ⟨r1, hr1, h⟩ := bindO h
 refine kC [] 5 (bV r1) [] rfl Tryz.call45 rfl rfl (spec_l01Is_ac k p0 _ hr1) rfl ?_
 refine AOps_q 6 _ rfl rfl rfl (QOp_not _ _ _ rfl rfl) ?_
 refine AOps_nil ?_
 refine kI h rfl (fun h _ => ?_) (fun h _ => ?_)
 ·refine kR ?_
  refine kN 2 rfl ?_
  refine ACode_ret ?_
  cases h
  exact ⟨_, _, fun r a w h => ⟨r, h⟩, _, _, [], _, (.cons (ResV_tmp _ _ rfl) (.cons (ResV_tmp _ _ rfl) .nil)), rfl, rfl, rfl, rfl, rfl⟩
 refine ACode_skip ?_
 refine kR ?_
 refine AOps_q 7 _ rfl rfl rfl (QOp_loadN_pv _ _ _ _ _ _ rfl Tryz.isAgg26 Tryz.sizeOf26 rfl (colD_all _) (colD_length _)) ?_
 obtain ⟨r3, hr3, h⟩ := bindO h
 refine kC [] 8 (.d (.s (.string r3))) [] rfl Tryz.call77 rfl rfl (spec_l01Text_ac k p0 _ hr3) rfl ?_
 refine kN 2 rfl ?_
 refine ACode_ret ?_
 cases h
 exact ⟨_, _, fun r a w h => ⟨r, h⟩, _, _, [], _, (.cons (ResV_tmp _ _ rfl) (.cons (ResV_tmp _ _ rfl) .nil)), rfl, rfl, rfl, rfl, rfl⟩

end Go.Proofs.YtfhdihekehlkiaaGreatDoor
