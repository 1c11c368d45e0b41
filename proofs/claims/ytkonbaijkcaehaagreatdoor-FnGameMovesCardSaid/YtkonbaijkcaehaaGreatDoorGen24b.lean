/- Plain functions of the program and that the program computes them: printed by the own tool gen.py. No conditions. -/
import Derived.Test.YtkonbaijkcaehaaGreatDoorGen24a
set_option linter.unusedVariables false
set_option linter.unusedSimpArgs false
namespace Go.Proofs.YtkonbaijkcaehaaGreatDoor
open Go Go.RowKit Ab

-- internal/strconv.small
def internal_strconv_small (p0 : Int) : Option (ByteArray) :=
 (if decide (p0 < 10) then (if 0 ≤ p0 ∧ p0 ≤ w64 (p0 + 1) ∧ w64 (p0 + 1) ≤ (((⟨#[48, 49, 50, 51, 52, 53, 54, 55, 56, 57, 97, 98, 99, 100, 101, 102, 103, 104, 105, 106, 107, 108, 109, 110, 111, 112, 113, 114, 115, 116, 117, 118, 119, 120, 121, 122]⟩ : ByteArray) : ByteArray).size : Int) then some (((⟨#[48, 49, 50, 51, 52, 53, 54, 55, 56, 57, 97, 98, 99, 100, 101, 102, 103, 104, 105, 106, 107, 108, 109, 110, 111, 112, 113, 114, 115, 116, 117, 118, 119, 120, 121, 122]⟩ : ByteArray) : ByteArray).extract (p0.toNat) ((w64 (p0 + 1)).toNat)) else none) else (if 0 ≤ w64 (p0 * 2) ∧ w64 (p0 * 2) ≤ w64 ((w64 (p0 * 2)) + 2) ∧ w64 ((w64 (p0 * 2)) + 2) ≤ (((⟨#[48, 48, 48, 49, 48, 50, 48, 51, 48, 52, 48, 53, 48, 54, 48, 55, 48, 56, 48, 57, 49, 48, 49, 49, 49, 50, 49, 51, 49, 52, 49, 53, 49, 54, 49, 55, 49, 56, 49, 57, 50, 48, 50, 49, 50, 50, 50, 51, 50, 52, 50, 53, 50, 54, 50, 55, 50, 56, 50, 57, 51, 48, 51, 49, 51, 50, 51, 51, 51, 52, 51, 53, 51, 54, 51, 55, 51, 56, 51, 57, 52, 48, 52, 49, 52, 50, 52, 51, 52, 52, 52, 53, 52, 54, 52, 55, 52, 56, 52, 57, 53, 48, 53, 49, 53, 50, 53, 51, 53, 52, 53, 53, 53, 54, 53, 55, 53, 56, 53, 57, 54, 48, 54, 49, 54, 50, 54, 51, 54, 52, 54, 53, 54, 54, 54, 55, 54, 56, 54, 57, 55, 48, 55, 49, 55, 50, 55, 51, 55, 52, 55, 53, 55, 54, 55, 55, 55, 56, 55, 57, 56, 48, 56, 49, 56, 50, 56, 51, 56, 52, 56, 53, 56, 54, 56, 55, 56, 56, 56, 57, 57, 48, 57, 49, 57, 50, 57, 51, 57, 52, 57, 53, 57, 54, 57, 55, 57, 56, 57, 57]⟩ : ByteArray) : ByteArray).size : Int) then some (((⟨#[48, 48, 48, 49, 48, 50, 48, 51, 48, 52, 48, 53, 48, 54, 48, 55, 48, 56, 48, 57, 49, 48, 49, 49, 49, 50, 49, 51, 49, 52, 49, 53, 49, 54, 49, 55, 49, 56, 49, 57, 50, 48, 50, 49, 50, 50, 50, 51, 50, 52, 50, 53, 50, 54, 50, 55, 50, 56, 50, 57, 51, 48, 51, 49, 51, 50, 51, 51, 51, 52, 51, 53, 51, 54, 51, 55, 51, 56, 51, 57, 52, 48, 52, 49, 52, 50, 52, 51, 52, 52, 52, 53, 52, 54, 52, 55, 52, 56, 52, 57, 53, 48, 53, 49, 53, 50, 53, 51, 53, 52, 53, 53, 53, 54, 53, 55, 53, 56, 53, 57, 54, 48, 54, 49, 54, 50, 54, 51, 54, 52, 54, 53, 54, 54, 54, 55, 54, 56, 54, 57, 55, 48, 55, 49, 55, 50, 55, 51, 55, 52, 55, 53, 55, 54, 55, 55, 55, 56, 55, 57, 56, 48, 56, 49, 56, 50, 56, 51, 56, 52, 56, 53, 56, 54, 56, 55, 56, 56, 56, 57, 57, 48, 57, 49, 57, 50, 57, 51, 57, 52, 57, 53, 57, 54, 57, 55, 57, 56, 57, 57]⟩ : ByteArray) : ByteArray).extract ((w64 (p0 * 2)).toNat) ((w64 ((w64 (p0 * 2)) + 2)).toNat)) else none))
set_option maxRecDepth 100000 in
theorem internal_strconv_small_ac (p0 : Int) (r : ByteArray) (h : internal_strconv_small p0 = some r) : AC Tryz.prog 190 [iV p0] [] (fun res H' => res = [.d (.s (.string r))] ∧ H' = []) := by
 refine AC_of_body true Tryz.func190 rfl Tryz.ntmps190 (rvs := [.tmp 2]) rfl rfl (fun G hG => ?_)
 have hm : G.H.length = 0 := by rw [hG]; rfl
 have hz : zeroG G.H = true := by rw [hG]; rfl
 unfold internal_strconv_small at h
 refine kR ?_
 refine kN 1 rfl ?_
 refine ACode_seq ?_
 refine kR ?_
 refine kM 1 rfl ?_
 refine AOps_q 4 _ rfl rfl rfl (QOp_lss _ _ _ _ _ _ _ rfl rfl rfl) ?_
 refine AOps_nil ?_
 refine kI h rfl (fun h _ => ?_) (fun h _ => ?_)
 ·refine kR ?_
  refine kM 2 rfl ?_
  refine AOps_q 7 _ rfl rfl rfl (QOp_add _ _ _ _ _ _ _ rfl rfl rfl) ?_
  obtain ⟨hc2, h⟩ := guardO h
  refine AOps_q 8 _ rfl rfl rfl (QOp_sslice _ _ _ _ _ (p0.toNat) ((w64 (p0 + 1)).toNat) rfl Tryz.underlying9 rfl ⟨_, by rw [Int.toNat_of_nonneg (by omega)]; rfl⟩ ⟨_, by rw [Int.toNat_of_nonneg (by omega)]; rfl⟩ (Int.toNat_le_toNat hc2.2.1) (Int.toNat_le.2 hc2.2.2)) ?_
  refine kN 1 rfl ?_
  refine ACode_ret ?_
  cases h
  exact ⟨_, _, fun r a w h => ⟨r, h⟩, _, _, [], _, (.cons (ResV_tmp _ _ rfl) .nil), rfl, rfl, rfl, rfl, rfl⟩
 refine ACode_skip ?_
 refine kR ?_
 refine kM 1 rfl ?_
 refine AOps_q 10 _ rfl rfl rfl (QOp_mul _ _ _ _ _ _ _ rfl rfl rfl) ?_
 refine kM 1 rfl ?_
 refine AOps_q 12 _ rfl rfl rfl (QOp_mul _ _ _ _ _ _ _ rfl rfl rfl) ?_
 refine AOps_q 13 _ rfl rfl rfl (QOp_add _ _ _ _ _ _ _ rfl rfl rfl) ?_
 obtain ⟨hc3, h⟩ := guardO h
 refine AOps_q 14 _ rfl rfl rfl (QOp_sslice _ _ _ _ _ ((w64 (p0 * 2)).toNat) ((w64 ((w64 (p0 * 2)) + 2)).toNat) rfl Tryz.underlying9 rfl ⟨_, by rw [Int.toNat_of_nonneg (by omega)]; rfl⟩ ⟨_, by rw [Int.toNat_of_nonneg (by omega)]; rfl⟩ (Int.toNat_le_toNat hc3.2.1) (Int.toNat_le.2 hc3.2.2)) ?_
 refine kN 1 rfl ?_
 refine ACode_ret ?_
 cases h
 exact ⟨_, _, fun r a w h => ⟨r, h⟩, _, _, [], _, (.cons (ResV_tmp _ _ rfl) .nil), rfl, rfl, rfl, rfl, rfl⟩

-- internal/strconv.formatBits
-- internal/strconv.FormatInt
def internal_strconv_FormatInt (p0 : Int) (p1 : Int) : Option (ByteArray) :=
 (if decide (p1 = 10) then (letO (if decide (0 ≤ p0) then decide (p0 < 100) else false) fun (s3 : Bool) => (if s3 then (internal_strconv_small p0).bind fun r5 => some (.inr r5) else some (.inl ())) : Option (Sum (Unit) (ByteArray))).bind fun os6 => (match os6 with | .inl s6 => none | .inr rr => some rr) else none)
set_option maxRecDepth 100000 in
theorem internal_strconv_FormatInt_ac (p0 : Int) (p1 : Int) (r : ByteArray) (h : internal_strconv_FormatInt p0 p1 = some r) : AC Tryz.prog 173 [iV p0, iV p1] [] (fun res H' => res = [.d (.s (.string r))] ∧ H' = []) := by
 refine AC_of_body true Tryz.func173 rfl Tryz.ntmps173 (rvs := [.tmp 4]) rfl rfl (fun G hG => ?_)
 have hm : G.H.length = 0 := by rw [hG]; rfl
 have hz : zeroG G.H = true := by rw [hG]; rfl
 unfold internal_strconv_FormatInt at h
 refine kR ?_
 refine kN 1 rfl ?_
 refine ACode_seq ?_
 refine kR ?_
 refine kM 1 rfl ?_
 refine AOps_q 11 _ rfl rfl rfl (QOp_eql _ _ _ _ _ _ _ rfl rfl rfl) ?_
 refine AOps_nil ?_
 refine kI h rfl (fun h _ => ?_) (fun h _ => ?_)
 ·refine kO (fun s6 => [(0, iV p0)]) (fun s6 => []) h (fun os6 h hks6 => ?_) (fun s6 h => ?_)
  ·refine kL (fun s3 => [(0, iV p0), (17, bV s3)]) (fun s3 => []) h (fun s3 h => ?_) (fun s3 h => ?_)
   ·refine (ACode_region ?_)
    refine kM 1 rfl ?_
    refine AOps_q 13 _ rfl rfl rfl (QOp_leq _ _ _ _ _ _ _ rfl rfl rfl) ?_
    refine kM 1 rfl ?_
    refine AOps_case 14 _ rfl (fun hb2 => ?_) (fun hb2 => ?_)
    ·have h := iteT hb2 h
     refine kM 1 rfl ?_
     refine AOps_q 16 _ rfl rfl rfl (QOp_lss _ _ _ _ _ _ _ rfl rfl rfl) ?_
     refine kN 1 rfl ?_
     cases h
     exact Weak_keep 0 hm [0, 17] [] _ _ rfl rfl rfl
    have h := iteF hb2 h
    refine AOps_skip 15 rfl rfl rfl ?_
    refine AOps_skip 16 rfl rfl rfl ?_
    refine kN 1 rfl ?_
    cases h
    exact Weak_keep 0 hm [0, 17] [] _ _ rfl rfl rfl
   refine kI h rfl (fun h _ => ?_) (fun h _ => ?_)
   ·refine kR ?_
    refine kM 1 rfl ?_
    obtain ⟨r5, hr5, h⟩ := bindO h
    refine kC [] 19 (.d (.s (.string r5))) [] rfl Tryz.call190 rfl rfl (internal_strconv_small_ac p0 _ hr5) rfl ?_
    refine kN 1 rfl ?_
    refine ACode_ret ?_
    cases h
    have h := hks6
    cases h
    exact ⟨_, _, fun r a w h => ⟨r, h⟩, _, _, [], _, (.cons (ResV_tmp _ _ rfl) .nil), rfl, rfl, rfl, rfl, rfl⟩
   refine ACode_skip ?_
   cases h
   exact ⟨_, rfl, Weak_keep 0 hm [0] [] _ _ rfl rfl rfl⟩
  cases h
 refine ACode_skip ?_
 cases h

-- strconv.FormatInt
def strconv_FormatInt (p0 : Int) (p1 : Int) : Option (ByteArray) :=
 (internal_strconv_FormatInt p0 p1).bind fun r1 => some r1
set_option maxRecDepth 100000 in
theorem strconv_FormatInt_ac (p0 : Int) (p1 : Int) (r : ByteArray) (h : strconv_FormatInt p0 p1 = some r) : AC Tryz.prog 157 [iV p0, iV p1] [] (fun res H' => res = [.d (.s (.string r))] ∧ H' = []) := by
 refine AC_of_body true Tryz.func157 rfl Tryz.ntmps157 (rvs := [.tmp 4]) rfl rfl (fun G hG => ?_)
 have hm : G.H.length = 0 := by rw [hG]; rfl
 have hz : zeroG G.H = true := by rw [hG]; rfl
 unfold strconv_FormatInt at h
 refine kR ?_
 refine kN 1 rfl ?_
 refine kR ?_
 refine kM 2 rfl ?_
 obtain ⟨r1, hr1, h⟩ := bindO h
 refine kC [] 7 (.d (.s (.string r1))) [] rfl Tryz.call173 rfl rfl (internal_strconv_FormatInt_ac p0 p1 _ hr1) rfl ?_
 refine kN 1 rfl ?_
 refine ACode_ret ?_
 cases h
 exact ⟨_, _, fun r a w h => ⟨r, h⟩, _, _, [], _, (.cons (ResV_tmp _ _ rfl) .nil), rfl, rfl, rfl, rfl, rfl⟩

-- loop.example/g01362/impl.decimal
def impl_decimal (p0 : Int) : Option (ByteArray) :=
 (strconv_FormatInt p0 10).bind fun r1 => some r1
set_option maxRecDepth 100000 in
theorem impl_decimal_ac (p0 : Int) (r : ByteArray) (h : impl_decimal p0 = some r) : AC Tryz.prog 118 [iV p0] [] (fun res H' => res = [.d (.s (.string r))] ∧ H' = []) := by
 refine AC_of_body true Tryz.func118 rfl Tryz.ntmps118 (rvs := [.tmp 2]) rfl rfl (fun G hG => ?_)
 have hm : G.H.length = 0 := by rw [hG]; rfl
 have hz : zeroG G.H = true := by rw [hG]; rfl
 unfold impl_decimal at h
 refine kR ?_
 refine kN 1 rfl ?_
 refine kR ?_
 refine kM 1 rfl ?_
 obtain ⟨r1, hr1, h⟩ := bindO h
 refine kC [] 4 (.d (.s (.string r1))) [] rfl Tryz.call157 rfl rfl (strconv_FormatInt_ac p0 10 _ hr1) rfl ?_
 refine kN 1 rfl ?_
 refine ACode_ret ?_
 cases h
 exact ⟨_, _, fun r a w h => ⟨r, h⟩, _, _, [], _, (.cons (ResV_tmp _ _ rfl) .nil), rfl, rfl, rfl, rfl, rfl⟩

-- (loop.example/g01362/impl.position).key
def impl_position_key_l0 (p0 : Pos) : Nat → Int → (List UInt8) → Option (List UInt8)
 | 0, _, _ => none
 | k0 + 1, x1, x2 => (if decide (x1 < (p0.l.length : Int)) then (if 0 ≤ x1 ∧ x1 < (p0.l.length : Int) then (if 0 ≤ w64 ((p0.l.getD x1.toNat 0) + 1) ∧ w64 ((p0.l.getD x1.toNat 0) + 1) < (((⟨#[46, 48, 49]⟩ : ByteArray) : ByteArray).size : Int) then (if x2.length + ([(((⟨#[46, 48, 49]⟩ : ByteArray) : ByteArray).data.toList.getD (w64 ((p0.l.getD x1.toNat 0) + 1)).toNat 0)]).length ≤ 1099511627776 then impl_position_key_l0 p0 k0 (w64 (x1 + 1)) (x2 ++ ([(((⟨#[46, 48, 49]⟩ : ByteArray) : ByteArray).data.toList.getD (w64 ((p0.l.getD x1.toNat 0) + 1)).toNat 0)])) else none) else none) else none) else some x2)
def impl_position_key (k : Nat) (p0 : Pos) : Option (ByteArray) :=
 (impl_position_key_l0 p0 k 0 ([] : List UInt8) : Option (List UInt8)).bind fun s7 => some (⟨s7.toArray⟩ : ByteArray)
set_option maxRecDepth 100000 in
theorem impl_position_key_ac (k : Nat) (p0 : Pos) (r : ByteArray) (h : impl_position_key k p0 = some r) : AC Tryz.prog 119 [.d (.agg (posD p0))] [] (fun res H' => res = [.d (.s (.string r))] ∧ H' = []) := by
 refine AC_of_body true Tryz.func119 rfl Tryz.ntmps119 (rvs := [.tmp 2]) rfl rfl (fun G hG => ?_)
 have hm : G.H.length = 0 := by rw [hG]; rfl
 have hz : zeroG G.H = true := by rw [hG]; rfl
 unfold impl_position_key at h
 refine kR ?_
 refine AOps_boxI 1 _ _ (.agg (posD p0)) (posD p0) rfl (posD_one _) rfl rfl rfl rfl rfl ?_
 refine kN 1 rfl ?_
 refine kR ?_
 refine AOps_buildSlice 6 _ _ _ [] (bysD ([] : List UInt8)) _ rfl rfl rfl rfl rfl (by decide) Tryz.underlying22 Tryz.sizeOf5 (zero_of Tryz.typeInfo5 rfl) rfl rfl (bysD_one _) ?_
 refine kN 1 rfl ?_
 refine kB (fun s7 => [(3, .vec 0 0)]) (fun s7 => [.vec 0 (bysD s7)]) h (fun s7 h => ?_) (fun s7 h => ?_)
 ·refine kR ?_
  refine AOps_q 7 _ rfl rfl rfl (QOp_fieldAddr_pv _ _ _ _ _ 1 _ _ rfl Tryz.underlying97 rfl _ Tryz.sizeOf34 rfl rfl) ?_
  refine AOps_q 8 _ rfl rfl rfl (QOp_load_pv _ _ _ _ _ rfl Tryz.isAgg34 rfl rfl) ?_
  refine AOps_q 9 _ rfl rfl rfl (QOp_len_sl _ _ _ _ _ _ _ (intsD_length _) rfl rfl rfl rfl Tryz.underlying34 rfl) ?_
  refine kN 1 rfl ?_
  refine ACode_block ?_
  refine ACode_loopW (fun k0 E H => ∃ (x1 : Int) (x2 : List UInt8), E = [(3, .vec 0 0), (8, .d (.sl none (intsD p0.l))), (9, iV (p0.l.length : Int)), (10, iV x1)] ∧ H = [.vec 0 (bysD x2)] ∧ impl_position_key_l0 p0 k0 x1 x2 = some s7) k _ _ (Weak_keep 0 hm [3, 8, 9, 10] [0] _ _ rfl rfl rfl) ⟨_, _, rfl, rfl, h⟩ ?_
  clear h
  rintro k0 E H ⟨x1, x2, rfl, rfl, h⟩
  cases k0 with
  | zero => cases (show (none : Option (List UInt8)) = some _ from h)
  | succ k0 =>
   rw [impl_position_key_l0] at h
   refine kR ?_
   refine AOps_q 11 _ rfl rfl rfl (QOp_lss _ _ _ _ _ _ _ rfl rfl rfl) ?_
   refine AOps_nil ?_
   refine ACode_seq ?_
   refine kI h rfl (fun h _ => ?_) (fun h _ => ?_)
   ·refine ACode_skip ?_
    refine ACode_seq ?_
    refine ACode_block ?_
    refine kR ?_
    obtain ⟨hc4, h⟩ := guardO h
    refine AOps_q 12 _ rfl rfl rfl (QOp_indexAddr_sl _ _ _ _ _ _ _ _ rfl Tryz.underlying34 Tryz.sizeOf2 hc4.1 (by rw [intsD_length]; exact hc4.2) rfl rfl) ?_
    refine AOps_q 13 _ rfl rfl rfl (QOp_load_pv _ _ _ _ _ rfl Tryz.isAgg2 rfl (intsD_get _ _ 0 (by omega))) ?_
    refine kN 1 rfl ?_
    refine (ACode_region ?_)
    refine kM 2 rfl ?_
    refine AOps_q 16 _ rfl rfl rfl (QOp_add _ _ _ _ _ _ _ rfl rfl rfl) ?_
    obtain ⟨hc5, h⟩ := guardO h
    refine AOps_q 17 _ rfl rfl rfl (QOp_sindex _ _ _ _ _ _ rfl Tryz.underlying9 hc5.1 hc5.2 rfl rfl) ?_
    refine AOps_buildSlice 18 _ _ _ [_] (bysD ([(((⟨#[46, 48, 49]⟩ : ByteArray) : ByteArray).data.toList.getD (w64 ((p0.l.getD x1.toNat 0) + 1)).toNat 0)])) _ rfl rfl rfl rfl rfl (by decide) Tryz.underlying22 Tryz.sizeOf5 (zero_of Tryz.typeInfo5 rfl) rfl rfl (bysD_one _) ?_
    obtain ⟨hc6, h⟩ := guardO h
    refine AOps_append 19 _ _ _ _ _ _ _ _ _ _ _ _ rfl rfl rfl rfl rfl rfl rfl Tryz.underlying22 Tryz.type5 rfl rfl rfl (by decide) rfl rfl rfl rfl (bysD_one _) (by rw [bysD_length, bysD_length]; exact hc6) ?_
    rw [bysD_app]
    refine kN 1 rfl ?_
    refine (ACode_region ?_)
    refine AOps_q 20 _ rfl rfl rfl (QOp_add _ _ _ _ _ _ _ rfl rfl rfl) ?_
    refine kN 1 rfl ?_
    exact ⟨k0, _, _, Nat.lt_succ_self _, Weak_trans (Weak_keep 0 hm [3, 8, 9, 10] [0] _ _ rfl rfl rfl) (Weak_reset 0 hm hz [3, 8, 9, 10] _ _ rfl rfl), _, _, rfl, rfl, h⟩
   refine ACode_exit ?_
   cases h
   exact Weak_keep 0 hm [3] [0] _ _ rfl rfl rfl
 refine kR ?_
 refine kM 1 rfl ?_
 refine AOps_q 22 _ rfl rfl rfl (QOp_bstr _ _ _ _ _ _ _ rfl Tryz.underlying22 Tryz.underlying5 Tryz.underlying9 rfl rfl) ?_
 refine kN 1 rfl ?_
 refine ACode_ret ?_
 cases h
 exact ⟨_, _, fun r a w h => ⟨r, h⟩, _, _, [], _, (.cons (ResV_tmp _ _ rfl) .nil), rfl, rfl, rfl, rfl, rfl⟩

-- loop.example/g01362/impl.PositionText
def impl_PositionText (k : Nat) (p0 : Int) (p1 : List Int) : Option (ByteArray × Int) :=
 (impl_position_code k (⟨p0, p1⟩ : Pos) (some (impl_always))).bind fun r1 => (if !decide (r1 = 0) then some ((⟨#[]⟩ : ByteArray), r1) else (impl_decimal p0).bind fun r3 => (if r3.size + (⟨#[58]⟩ : ByteArray).size ≤ 1099511627776 then (impl_position_key k (⟨p0, p1⟩ : Pos)).bind fun r5 => (if (r3 ++ (⟨#[58]⟩ : ByteArray)).size + r5.size ≤ 1099511627776 then some (((r3 ++ (⟨#[58]⟩ : ByteArray)) ++ r5), 0) else none) else none))
set_option maxRecDepth 100000 in
theorem impl_PositionText_ac (k : Nat) (p0 : Int) (p1 : List Int) (r : ByteArray × Int) (h : impl_PositionText k p0 p1 = some r) : AC Tryz.prog 46 [iV p0, .d (.sl none (intsD p1))] [] (fun res H' => res = [.d (.s (.string r.1)), iV r.2] ∧ H' = []) := by
 refine AC_of_body true Tryz.func46 rfl Tryz.ntmps46 (rvs := [.tmp 4, .tmp 5]) rfl rfl (fun G hG => ?_)
 have hm : G.H.length = 0 := by rw [hG]; rfl
 have hz : zeroG G.H = true := by rw [hG]; rfl
 unfold impl_PositionText at h
 refine kR ?_
 refine kN 2 rfl ?_
 refine kR ?_
 refine kM 2 rfl ?_
 refine AOps_q 10 _ rfl rfl rfl (QOp_build _ _ [_, _] [0, 1] [iD p0, .sl none (intsD p1)] _ [iD 0, .sl (some true) []] (posD (⟨p0, p1⟩ : Pos)) [(0, 1), (1, 1)] rfl rfl Tryz.underlying97 (zero_of Tryz.typeInfo97 rfl) (fun w => by simp [Tryz.sizeOf2, Tryz.sizeOf34]) rfl (by rfl) (by rfl) (allc (ok1 rfl) (allc (ok1 rfl) (fun _ h => nomatch h)))) ?_
 refine AOps_alloc 6 _ _ ([iD 0, .sl (some true) []]) (zero_of Tryz.typeInfo97 rfl) (by rfl) rfl rfl rfl rfl ?_
 refine AOps_store _ _ _ _ _ _ (posD _) _ _ rfl rfl rfl rfl rfl rfl rfl (posD_one _) (by rw [posD_length]; exact Tryz.sizeOf97) (by show (2 : Nat) ≤ 2; decide) rfl ?_
 refine AOps_nil ?_
 refine ACode_seq ?_
 refine kR ?_
 refine AOps_q 11 _ rfl rfl rfl (QOp_loadN_ptr _ _ _ _ _ _ _ rfl Tryz.isAgg97 Tryz.sizeOf97 rfl rfl (posD_all _) (posD_length _)) ?_
 obtain ⟨r1, hr1, h⟩ := bindO h
 refine kC [] 12 (iV r1) [.box (posD (⟨p0, p1⟩ : Pos))] rfl Tryz.call104 rfl rfl (impl_position_code_ac k (⟨p0, p1⟩ : Pos) (some (impl_always)) 70 ([]) Tryz.call70 (fun r h => by cases h; exact impl_always_ac) _ hr1) rfl ?_
 refine kN 1 rfl ?_
 refine kR ?_
 refine kM 1 rfl ?_
 refine AOps_q 14 _ rfl rfl rfl (QOp_neq _ _ _ _ _ _ _ rfl rfl rfl) ?_
 refine AOps_nil ?_
 refine kI h rfl (fun h _ => ?_) (fun h _ => ?_)
 ·refine kR ?_
  refine kN 3 rfl ?_
  refine ACode_ret ?_
  cases h
  exact ⟨_, _, fun r a w h => ⟨r, h⟩, _, _, [], _, (.cons (ResV_tmp _ _ rfl) (.cons (ResV_tmp _ _ rfl) .nil)), rfl, rfl, rfl, rfl, rfl⟩
 refine ACode_skip ?_
 refine ACode_seq (ACode_quiet mixed (by kernel_rfl) ?_)
 refine kQ 1 rfl ?_
 obtain ⟨r3, hr3, h⟩ := bindO h
 refine AQ_call 17 _ _ _ _ _ _ _ _ _ rfl rfl rfl rfl rfl rfl rfl Tryz.call118 rfl rfl rfl (impl_decimal_ac p0 _ hr3) ?_
 obtain ⟨hc4, h⟩ := guardO h
 refine AQ_q 18 _ rfl rfl rfl (QOp_sadd _ _ _ _ _ _ rfl rfl rfl hc4) ?_
 refine AQ_q 19 _ rfl rfl rfl (QOp_loadN_ptr _ _ _ _ _ _ _ rfl Tryz.isAgg97 Tryz.sizeOf97 rfl rfl (posD_all _) (posD_length _)) ?_
 obtain ⟨r5, hr5, h⟩ := bindO h
 refine AQ_call 20 _ _ _ _ _ _ _ _ _ rfl rfl rfl rfl rfl rfl rfl Tryz.call119 rfl rfl rfl (impl_position_key_ac k (⟨p0, p1⟩ : Pos) _ hr5) ?_
 obtain ⟨hc6, h⟩ := guardO h
 refine AQ_q 21 _ rfl rfl rfl (QOp_sadd _ _ _ _ _ _ rfl rfl rfl hc6) ?_
 refine kQ 2 rfl ?_
 refine AQ_nil ?_
 refine ACode_ret ?_
 cases h
 exact ⟨_, _, fun r a w h => ⟨r, h⟩, _, _, [], _, (.cons (ResV_tmp _ _ rfl) (.cons (ResV_tmp _ _ rfl) .nil)), rfl, rfl, rfl, rfl, rfl⟩

-- loop.example/g01362/spec.l01Dec
def spec_l01Dec_body (self : Int → Option (ByteArray)) (k : Nat) (p0 : Int) : Option (ByteArray) :=
 (if decide (p0 < 0) then (self (w64 (0 - p0))).bind fun r2 => (if (⟨#[45]⟩ : ByteArray).size + r2.size ≤ 1099511627776 then some ((⟨#[45]⟩ : ByteArray) ++ r2) else none) else (if decide (p0 < 10) then some (⟨([toByte (w64 (48 + p0))]).toArray⟩ : ByteArray) else (self (w64 (p0.tdiv 10))).bind fun r5 => (if r5.size + (⟨([toByte (w64 (48 + (p0.tmod 10)))]).toArray⟩ : ByteArray).size ≤ 1099511627776 then some (r5 ++ (⟨([toByte (w64 (48 + (p0.tmod 10)))]).toArray⟩ : ByteArray)) else none)))
def spec_l01Dec : Nat → Int → Option (ByteArray)
 | 0, _ => none
 | k + 1, p0 => spec_l01Dec_body (spec_l01Dec k) k p0
set_option maxRecDepth 100000 in
theorem spec_l01Dec_ac (k : Nat) (p0 : Int) (r : ByteArray) (h : spec_l01Dec k p0 = some r) : AC Tryz.prog 144 [iV p0] [] (fun res H' => res = [.d (.s (.string r))] ∧ H' = []) := by
 induction k generalizing p0 r with
 | zero => simp [spec_l01Dec] at h
 | succ k ih =>
  rw [spec_l01Dec] at h
  obtain ⟨self, hself, hk⟩ : ∃ self : Int → Option (ByteArray), (∀ (p0 : Int) (r : ByteArray), self p0 = some r → AC Tryz.prog 144 [iV p0] [] (fun res H' => res = [.d (.s (.string r))] ∧ H' = [])) ∧ spec_l01Dec k = self := ⟨spec_l01Dec k, fun p0 r h => ih p0 r h, rfl⟩
  rw [hk] at h
  clear ih hk
  refine AC_of_body true Tryz.func144 rfl Tryz.ntmps144 (rvs := [.tmp 2]) rfl rfl (fun G hG => ?_)
  have hm : G.H.length = 0 := by rw [hG]; rfl
  have hz : zeroG G.H = true := by rw [hG]; rfl
  unfold spec_l01Dec_body at h
  refine kR ?_
  refine kN 1 rfl ?_
  refine ACode_seq ?_
  refine kR ?_
  refine kM 1 rfl ?_
  refine AOps_q 4 _ rfl rfl rfl (QOp_lss _ _ _ _ _ _ _ rfl rfl rfl) ?_
  refine AOps_nil ?_
  refine kI h rfl (fun h _ => ?_) (fun h _ => ?_)
  ·refine kR ?_
   refine kM 1 rfl ?_
   refine AOps_q 6 _ rfl rfl rfl (QOp_neg _ _ _ _ rfl rfl) ?_
   obtain ⟨r2, hr2, h⟩ := bindO h
   refine kC [] 7 (.d (.s (.string r2))) [] rfl Tryz.call144 rfl rfl (hself (w64 (0 - p0)) _ hr2) rfl ?_
   obtain ⟨hc3, h⟩ := guardO h
   refine AOps_q 8 _ rfl rfl rfl (QOp_sadd _ _ _ _ _ _ rfl rfl rfl hc3) ?_
   refine kN 1 rfl ?_
   refine ACode_ret ?_
   cases h
   exact ⟨_, _, fun r a w h => ⟨r, h⟩, _, _, [], _, (.cons (ResV_tmp _ _ rfl) .nil), rfl, rfl, rfl, rfl, rfl⟩
  refine ACode_skip ?_
  refine ACode_seq ?_
  refine kR ?_
  refine kM 1 rfl ?_
  refine AOps_q 10 _ rfl rfl rfl (QOp_lss _ _ _ _ _ _ _ rfl rfl rfl) ?_
  refine AOps_nil ?_
  refine kI h rfl (fun h _ => ?_) (fun h _ => ?_)
  ·refine kR ?_
   refine kM 1 rfl ?_
   refine AOps_q 12 _ rfl rfl rfl (QOp_add _ _ _ _ _ _ _ rfl rfl rfl) ?_
   refine AOps_q 13 _ rfl rfl rfl (QOp_toByte _ _ _ _ _ rfl rfl Tryz.underlying5 rfl) ?_
   refine AOps_buildSlice 14 _ _ _ [_] (bysD ([toByte (w64 (48 + p0))])) _ rfl rfl rfl rfl rfl (by decide) Tryz.underlying22 Tryz.sizeOf5 (zero_of Tryz.typeInfo5 rfl) rfl rfl (bysD_one _) ?_
   refine AOps_q 15 _ rfl rfl rfl (QOp_bstr _ _ _ _ _ _ _ rfl Tryz.underlying22 Tryz.underlying5 Tryz.underlying9 rfl rfl) ?_
   refine kN 1 rfl ?_
   refine ACode_ret ?_
   cases h
   exact ⟨_, _, fun r a w h => ⟨r, h⟩, _, _, [], _, (.cons (ResV_tmp _ _ rfl) .nil), rfl, rfl, rfl, rfl, rfl⟩
  refine ACode_skip ?_
  obtain ⟨r5, hr5, h⟩ := bindO h
  obtain ⟨hc6, h⟩ := guardO h
  refine ACode_seq (ACode_reg [(2, .d (.s (.string (r5 ++ (⟨([toByte (w64 (48 + (p0.tmod 10)))]).toArray⟩ : ByteArray)))))] [] ?_ ?_)
  ·refine ACode_anyU mixed ?_
   refine AU_cut 3 #[true, true, true, true, true, true, true, true, false, false, false] [(2, .d (.s (.string (⟨#[]⟩ : ByteArray)))), (18, .d (.s (.string r5))), (23, .vec 0 0)] [.vec 0 (bysD ([toByte (w64 (48 + (p0.tmod 10)))]))] ?_ (fun hS0 => ?_)
   ·refine AU_one 8 (by kernel_rfl) rfl rfl ?_
    refine AOps_q 24 _ rfl rfl rfl (QOp_bstr _ _ _ _ _ _ _ rfl Tryz.underlying22 Tryz.underlying5 Tryz.underlying9 rfl rfl) ?_
    refine AOps_nil ?_
    refine AU_u 9 25 _ rfl (by kernel_rfl) rfl rfl rfl (UOp_sadd _ _ _ _ _ _ rfl rfl rfl hc6) ?_
    refine AU_u 10 2 _ rfl (by kernel_rfl) rfl rfl rfl (UOp_assign _ _ rfl rfl) ?_
    refine AU_done (by kernel_rfl) ?_
    exact ⟨rfl, Weak_keep 0 hm [2] [] _ _ rfl rfl rfl⟩
   refine AU_u 0 16 _ rfl (by kernel_rfl) rfl rfl rfl (UOp_move _ _ rfl rfl) ?_
   refine AU_u 1 17 _ rfl (by kernel_rfl) rfl rfl rfl (UOp_quo _ _ _ _ _ _ _ (by decide) rfl rfl rfl) ?_
   refine AU_u 3 19 _ rfl (by kernel_rfl) rfl rfl rfl (UOp_move _ _ rfl rfl) ?_
   refine AU_u 4 20 _ rfl (by kernel_rfl) rfl rfl rfl (UOp_rem _ _ _ _ _ _ _ (by decide) rfl rfl rfl) ?_
   refine AU_u 5 21 _ rfl (by kernel_rfl) rfl rfl rfl (UOp_add _ _ _ _ _ _ _ rfl rfl rfl) ?_
   refine AU_u 6 22 _ rfl (by kernel_rfl) rfl rfl rfl (UOp_toByte _ _ _ _ _ rfl rfl Tryz.underlying5 rfl) ?_
   refine AU_all [2, 7] (by kernel_rfl) rfl (allc ?_ (allc ?_ (fun _ h => nomatch h)))
   ·refine US_of 2 rfl rfl ?_
    refine kC [] 18 (.d (.s (.string r5))) [] rfl Tryz.call144 rfl rfl (hself (w64 (p0.tdiv 10)) _ hr5) rfl ?_
    refine AOps_nil ?_
    refine AU_one 7 (by kernel_rfl) rfl rfl ?_
    refine AOps_buildSlice 23 _ _ _ [_] (bysD ([toByte (w64 (48 + (p0.tmod 10)))])) _ rfl rfl rfl rfl rfl (by decide) Tryz.underlying22 Tryz.sizeOf5 (zero_of Tryz.typeInfo5 rfl) rfl rfl (bysD_one _) ?_
    refine AOps_nil ?_
    exact AU_to (by kernel_rfl) hS0 (Weak_keep 0 hm [2, 18, 23] [0] _ _ rfl rfl rfl)
   refine US_of 7 rfl rfl ?_
   refine AOps_buildSlice 23 _ _ _ [_] (bysD ([toByte (w64 (48 + (p0.tmod 10)))])) _ rfl rfl rfl rfl rfl (by decide) Tryz.underlying22 Tryz.sizeOf5 (zero_of Tryz.typeInfo5 rfl) rfl rfl (bysD_one _) ?_
   refine AOps_nil ?_
   refine AU_all [2, 8] (by kernel_rfl) rfl (allc ?_ (allc ?_ (fun _ h => nomatch h)))
   ·refine US_of 2 rfl rfl ?_
    refine kC [] 18 (.d (.s (.string r5))) [.vec 0 (bysD ([toByte (w64 (48 + (p0.tmod 10)))]))] rfl Tryz.call144 rfl rfl (hself (w64 (p0.tdiv 10)) _ hr5) rfl ?_
    refine AOps_nil ?_
    exact AU_to (by kernel_rfl) hS0 (Weak_keep 0 hm [2, 18, 23] [0] _ _ rfl rfl rfl)
   refine US_of 8 rfl rfl ?_
   refine AOps_q 24 _ rfl rfl rfl (QOp_bstr _ _ _ _ _ _ _ rfl Tryz.underlying22 Tryz.underlying5 Tryz.underlying9 rfl rfl) ?_
   refine AOps_nil ?_
   refine AU_one 2 (by kernel_rfl) rfl rfl ?_
   refine kC [] 18 (.d (.s (.string r5))) [.vec 0 (bysD ([toByte (w64 (48 + (p0.tmod 10)))]))] rfl Tryz.call144 rfl rfl (hself (w64 (p0.tdiv 10)) _ hr5) rfl ?_
   refine AOps_nil ?_
   refine AU_u 9 25 _ rfl (by kernel_rfl) rfl rfl rfl (UOp_sadd _ _ _ _ _ _ rfl rfl rfl hc6) ?_
   refine AU_u 10 2 _ rfl (by kernel_rfl) rfl rfl rfl (UOp_assign _ _ rfl rfl) ?_
   refine AU_done (by kernel_rfl) ?_
   exact ⟨rfl, Weak_keep 0 hm [2] [] _ _ rfl rfl rfl⟩
  refine ACode_ret ?_
  cases h
  exact ⟨_, _, fun r a w h => ⟨r, h⟩, _, _, [], _, (.cons (ResV_tmp _ _ rfl) .nil), rfl, rfl, rfl, rfl, rfl⟩

-- loop.example/g01362/spec.l09Text
def spec_l09Text_l0 (p1 : List Int) : Nat → ByteArray → Int → Option (ByteArray)
 | 0, _, _ => none
 | k0 + 1, x3, x4 => (if decide (x4 < (p1.length : Int)) then (if 0 ≤ x4 ∧ x4 < (p1.length : Int) then (if 0 ≤ w64 ((p1.getD x4.toNat 0) + 1) ∧ w64 ((p1.getD x4.toNat 0) + 1) < (([(⟨#[46]⟩ : ByteArray), (⟨#[48]⟩ : ByteArray), (⟨#[49]⟩ : ByteArray)]).length : Int) then (if x3.size + (([(⟨#[46]⟩ : ByteArray), (⟨#[48]⟩ : ByteArray), (⟨#[49]⟩ : ByteArray)]).getD (w64 ((p1.getD x4.toNat 0) + 1)).toNat ByteArray.empty).size ≤ 1099511627776 then spec_l09Text_l0 p1 k0 (x3 ++ (([(⟨#[46]⟩ : ByteArray), (⟨#[48]⟩ : ByteArray), (⟨#[49]⟩ : ByteArray)]).getD (w64 ((p1.getD x4.toNat 0) + 1)).toNat ByteArray.empty)) (w64 (x4 + 1)) else none) else none) else none) else some x3)
def spec_l09Text (k : Nat) (p0 : Int) (p1 : List Int) : Option (ByteArray) :=
 (spec_l01Dec k p0).bind fun r1 => (if r1.size + (⟨#[58]⟩ : ByteArray).size ≤ 1099511627776 then (spec_l09Text_l0 p1 k (r1 ++ (⟨#[58]⟩ : ByteArray)) 0 : Option (ByteArray)).bind fun s9 => some s9 else none)
set_option maxRecDepth 100000 in
theorem spec_l09Text_ac (k : Nat) (p0 : Int) (p1 : List Int) (r : ByteArray) (h : spec_l09Text k p0 p1 = some r) : AC Tryz.prog 120 [iV p0, .d (.sl none (intsD p1))] [] (fun res H' => res = [.d (.s (.string r))] ∧ H' = []) := by
 refine AC_of_body true Tryz.func120 rfl Tryz.ntmps120 (rvs := [.tmp 4]) rfl rfl (fun G hG => ?_)
 have hm : G.H.length = 0 := by rw [hG]; rfl
 have hz : zeroG G.H = true := by rw [hG]; rfl
 unfold spec_l09Text at h
 refine kR ?_
 refine kN 1 rfl ?_
 refine kR ?_
 refine kM 1 rfl ?_
 obtain ⟨r1, hr1, h⟩ := bindO h
 refine kC [] 9 (.d (.s (.string r1))) [] rfl Tryz.call144 rfl rfl (spec_l01Dec_ac k p0 _ hr1) rfl ?_
 obtain ⟨hc2, h⟩ := guardO h
 refine AOps_q 10 _ rfl rfl rfl (QOp_sadd _ _ _ _ _ _ rfl rfl rfl hc2) ?_
 refine AOps_buildSlice 11 _ _ _ [_, _, _] (stsD ([(⟨#[46]⟩ : ByteArray), (⟨#[48]⟩ : ByteArray), (⟨#[49]⟩ : ByteArray)])) _ rfl rfl rfl rfl rfl (by decide) Tryz.underlying116 Tryz.sizeOf9 (zero_of Tryz.typeInfo9 rfl) rfl rfl (stsD_one _) ?_
 refine kN 2 rfl ?_
 refine kB (fun s9 => [(5, .d (.s (.string s9)))]) (fun s9 => []) h (fun s9 h => ?_) (fun s9 h => ?_)
 ·refine kR ?_
  refine kN 1 rfl ?_
  refine ACode_block ?_
  refine ACode_loopW (fun k0 E H => ∃ (x3 : ByteArray) (x4 : Int), E = [(1, .d (.sl none (intsD p1))), (5, .d (.s (.string x3))), (6, .vec 0 0), (7, iV x4)] ∧ H = [.vec 0 (stsD ([(⟨#[46]⟩ : ByteArray), (⟨#[48]⟩ : ByteArray), (⟨#[49]⟩ : ByteArray)]))] ∧ spec_l09Text_l0 p1 k0 x3 x4 = some s9) k _ _ (Weak_keep 0 hm [1, 5, 6, 7] [0] _ _ rfl rfl rfl) ⟨_, _, rfl, rfl, h⟩ ?_
  clear h
  rintro k0 E H ⟨x3, x4, rfl, rfl, h⟩
  cases k0 with
  | zero => cases (show (none : Option (ByteArray)) = some _ from h)
  | succ k0 =>
   rw [spec_l09Text_l0] at h
   refine ACode_seq ?_
   refine kR ?_
   refine kM 2 rfl ?_
   refine AOps_q 14 _ rfl rfl rfl (QOp_len_sl _ _ _ _ _ _ _ (intsD_length _) rfl rfl rfl rfl Tryz.underlying34 rfl) ?_
   refine AOps_q 15 _ rfl rfl rfl (QOp_lss _ _ _ _ _ _ _ rfl rfl rfl) ?_
   refine AOps_nil ?_
   refine kI h rfl (fun h _ => ?_) (fun h _ => ?_)
   ·refine ACode_skip ?_
    refine ACode_seq ?_
    refine ACode_block ?_
    refine (ACode_region ?_)
    refine kM 4 rfl ?_
    obtain ⟨hc6, h⟩ := guardO h
    refine AOps_q 22 _ rfl rfl rfl (QOp_indexAddr_sl _ _ _ _ _ _ _ _ rfl Tryz.underlying34 Tryz.sizeOf2 hc6.1 (by rw [intsD_length]; exact hc6.2) rfl rfl) ?_
    refine AOps_q 23 _ rfl rfl rfl (QOp_load_pv _ _ _ _ _ rfl Tryz.isAgg2 rfl (intsD_get _ _ 0 (by omega))) ?_
    refine AOps_q 24 _ rfl rfl rfl (QOp_add _ _ _ _ _ _ _ rfl rfl rfl) ?_
    obtain ⟨hc7, h⟩ := guardO h
    refine AOps_q 25 _ rfl rfl rfl (QOp_indexAddr_vec _ _ _ _ _ _ _ _ _ rfl Tryz.underlying116 Tryz.sizeOf9 hc7.1 (by rw [stsD_length]; exact hc7.2) rfl rfl rfl) ?_
    refine AOps_q 26 _ rfl rfl rfl (QOp_load_eptr _ _ _ _ _ _ _ rfl Tryz.isAgg9 rfl rfl (stsD_get _ _ ByteArray.empty (by omega))) ?_
    obtain ⟨hc8, h⟩ := guardO h
    refine AOps_q 27 _ rfl rfl rfl (QOp_sadd _ _ _ _ _ _ rfl rfl rfl hc8) ?_
    refine kN 1 rfl ?_
    refine (ACode_region ?_)
    refine kM 1 rfl ?_
    refine AOps_q 17 _ rfl rfl rfl (QOp_add _ _ _ _ _ _ _ rfl rfl rfl) ?_
    refine kN 1 rfl ?_
    exact ⟨k0, _, _, Nat.lt_succ_self _, Weak_keep 0 hm [1, 5, 6, 7] [0] _ _ rfl rfl rfl, _, _, rfl, rfl, h⟩
   refine ACode_exit ?_
   cases h
   exact Weak_keep 0 hm [5] [] _ _ rfl rfl rfl
 refine kR ?_
 refine kN 2 rfl ?_
 refine ACode_ret ?_
 cases h
 exact ⟨_, _, fun r a w h => ⟨r, h⟩, _, _, [], _, (.cons (ResV_tmp _ _ rfl) .nil), rfl, rfl, rfl, rfl, rfl⟩

-- loop.example/g01362/spec.PositionText
def spec_PositionText (k : Nat) (p0 : Int) (p1 : List Int) : Option (ByteArray × Int) :=
 (spec_l09Code k p0 p1).bind fun r1 => (if !decide (r1 = 0) then some ((⟨#[]⟩ : ByteArray), r1) else (spec_l09Text k p0 p1).bind fun r3 => some (r3, 0))
set_option maxRecDepth 100000 in
theorem spec_PositionText_ac (k : Nat) (p0 : Int) (p1 : List Int) (r : ByteArray × Int) (h : spec_PositionText k p0 p1 = some r) : AC Tryz.prog 47 [iV p0, .d (.sl none (intsD p1))] [] (fun res H' => res = [.d (.s (.string r.1)), iV r.2] ∧ H' = []) := by
 refine AC_of_body true Tryz.func47 rfl Tryz.ntmps47 (rvs := [.tmp 4, .tmp 5]) rfl rfl (fun G hG => ?_)
 have hm : G.H.length = 0 := by rw [hG]; rfl
 have hz : zeroG G.H = true := by rw [hG]; rfl
 unfold spec_PositionText at h
 refine kR ?_
 refine kN 2 rfl ?_
 refine ACode_seq ?_
 refine kR ?_
 refine kM 2 rfl ?_
 obtain ⟨r1, hr1, h⟩ := bindO h
 refine kC [] 9 (iV r1) [] rfl Tryz.call110 rfl rfl (spec_l09Code_ac k p0 p1 _ hr1) rfl ?_
 refine kN 1 rfl ?_
 refine kR ?_
 refine kM 1 rfl ?_
 refine AOps_q 11 _ rfl rfl rfl (QOp_neq _ _ _ _ _ _ _ rfl rfl rfl) ?_
 refine AOps_nil ?_
 refine kI h rfl (fun h _ => ?_) (fun h _ => ?_)
 ·refine kR ?_
  refine kN 3 rfl ?_
  refine ACode_ret ?_
  cases h
  exact ⟨_, _, fun r a w h => ⟨r, h⟩, _, _, [], _, (.cons (ResV_tmp _ _ rfl) (.cons (ResV_tmp _ _ rfl) .nil)), rfl, rfl, rfl, rfl, rfl⟩
 refine ACode_skip ?_
 refine kR ?_
 refine kM 2 rfl ?_
 obtain ⟨r3, hr3, h⟩ := bindO h
 refine kC [] 15 (.d (.s (.string r3))) [] rfl Tryz.call120 rfl rfl (spec_l09Text_ac k p0 p1 _ hr3) rfl ?_
 refine kN 2 rfl ?_
 refine ACode_ret ?_
 cases h
 exact ⟨_, _, fun r a w h => ⟨r, h⟩, _, _, [], _, (.cons (ResV_tmp _ _ rfl) (.cons (ResV_tmp _ _ rfl) .nil)), rfl, rfl, rfl, rfl, rfl⟩

-- loop.example/g01362/laws.likeInts
def laws_likeInts_l0 (p0 : List Int) (p1 : List Int) : Nat → Int → Option (Sum (Unit) (Bool))
 | 0, _ => none
 | k0 + 1, x2 => (if decide (x2 < (p0.length : Int)) then (if 0 ≤ x2 ∧ x2 < (p0.length : Int) then (if 0 ≤ x2 ∧ x2 < (p1.length : Int) then (if !decide ((p0.getD x2.toNat 0) = (p1.getD x2.toNat 0)) then some (.inr false) else laws_likeInts_l0 p0 p1 k0 (w64 (x2 + 1))) else none) else none) else some (.inl ()))
def laws_likeInts (k : Nat) (p0 : List Int) (p1 : List Int) : Option (Bool) :=
 (if !decide ((p0.length : Int) = (p1.length : Int)) then some false else (laws_likeInts_l0 p0 p1 k 0 : Option (Sum (Unit) (Bool))).bind fun os7 => (match os7 with | .inl s7 => some true | .inr rr => some rr))
set_option maxRecDepth 100000 in
theorem laws_likeInts_ac (k : Nat) (p0 : List Int) (p1 : List Int) (r : Bool) (h : laws_likeInts k p0 p1 = some r) : AC Tryz.prog 20 [.d (.sl none (intsD p0)), .d (.sl none (intsD p1))] [] (fun res H' => res = [bV r] ∧ H' = []) := by
 refine AC_of_body true Tryz.func20 rfl Tryz.ntmps20 (rvs := [.tmp 4]) rfl rfl (fun G hG => ?_)
 have hm : G.H.length = 0 := by rw [hG]; rfl
 have hz : zeroG G.H = true := by rw [hG]; rfl
 unfold laws_likeInts at h
 refine kR ?_
 refine kN 1 rfl ?_
 refine ACode_seq ?_
 refine kR ?_
 refine kM 1 rfl ?_
 refine AOps_q 7 _ rfl rfl rfl (QOp_len_sl _ _ _ _ _ _ _ (intsD_length _) rfl rfl rfl rfl Tryz.underlying34 rfl) ?_
 refine kM 1 rfl ?_
 refine AOps_q 9 _ rfl rfl rfl (QOp_len_sl _ _ _ _ _ _ _ (intsD_length _) rfl rfl rfl rfl Tryz.underlying34 rfl) ?_
 refine AOps_q 10 _ rfl rfl rfl (QOp_neq _ _ _ _ _ _ _ rfl rfl rfl) ?_
 refine AOps_nil ?_
 refine kI h rfl (fun h _ => ?_) (fun h _ => ?_)
 ·refine kR ?_
  refine kN 1 rfl ?_
  refine ACode_ret ?_
  cases h
  exact ⟨_, _, fun r a w h => ⟨r, h⟩, _, _, [], _, (.cons (ResV_tmp _ _ rfl) .nil), rfl, rfl, rfl, rfl, rfl⟩
 refine ACode_skip ?_
 refine kO (fun s7 => []) (fun s7 => []) h (fun os7 h hks7 => ?_) (fun s7 h => ?_)
 ·refine kR ?_
  refine kN 1 rfl ?_
  refine ACode_block ?_
  refine ACode_loopW (fun k0 E H => ∃ (x2 : Int), E = [(0, .d (.sl none (intsD p0))), (1, .d (.sl none (intsD p1))), (5, iV x2)] ∧ H = [] ∧ laws_likeInts_l0 p0 p1 k0 x2 = some os7) k _ _ (Weak_keep 0 hm [0, 1, 5] [] _ _ rfl rfl rfl) ⟨_, rfl, rfl, h⟩ ?_
  clear h
  rintro k0 E H ⟨x2, rfl, rfl, h⟩
  cases k0 with
  | zero => cases (show (none : Option (Sum (Unit) (Bool))) = some _ from h)
  | succ k0 =>
   rw [laws_likeInts_l0] at h
   refine ACode_seq ?_
   refine kR ?_
   refine kM 2 rfl ?_
   refine AOps_q 13 _ rfl rfl rfl (QOp_len_sl _ _ _ _ _ _ _ (intsD_length _) rfl rfl rfl rfl Tryz.underlying34 rfl) ?_
   refine AOps_q 14 _ rfl rfl rfl (QOp_lss _ _ _ _ _ _ _ rfl rfl rfl) ?_
   refine AOps_nil ?_
   refine kI h rfl (fun h _ => ?_) (fun h _ => ?_)
   ·refine ACode_skip ?_
    refine ACode_seq ?_
    refine ACode_block ?_
    refine ACode_seq (ACode_quiet mixed (by kernel_rfl) ?_)
    refine kQ 2 rfl ?_
    obtain ⟨hc4, h⟩ := guardO h
    refine AQ_q 19 _ rfl rfl rfl (QOp_indexAddr_sl _ _ _ _ _ _ _ _ rfl Tryz.underlying34 Tryz.sizeOf2 hc4.1 (by rw [intsD_length]; exact hc4.2) rfl rfl) ?_
    refine AQ_q 20 _ rfl rfl rfl (QOp_load_pv _ _ _ _ _ rfl Tryz.isAgg2 rfl (intsD_get _ _ 0 (by omega))) ?_
    refine kQ 2 rfl ?_
    obtain ⟨hc5, h⟩ := guardO h
    refine AQ_q 23 _ rfl rfl rfl (QOp_indexAddr_sl _ _ _ _ _ _ _ _ rfl Tryz.underlying34 Tryz.sizeOf2 hc5.1 (by rw [intsD_length]; exact hc5.2) rfl rfl) ?_
    refine AQ_q 24 _ rfl rfl rfl (QOp_load_pv _ _ _ _ _ rfl Tryz.isAgg2 rfl (intsD_get _ _ 0 (by omega))) ?_
    refine AQ_q 25 _ rfl rfl rfl (QOp_neq _ _ _ _ _ _ _ rfl rfl rfl) ?_
    refine AQ_nil ?_
    refine kI h rfl (fun h _ => ?_) (fun h _ => ?_)
    ·refine kR ?_
     refine kN 1 rfl ?_
     refine ACode_ret ?_
     cases h
     have h := hks7
     cases h
     exact ⟨_, _, fun r a w h => ⟨r, h⟩, _, _, [], _, (.cons (ResV_tmp _ _ rfl) .nil), rfl, rfl, rfl, rfl, rfl⟩
    refine ACode_skip ?_
    refine (ACode_region ?_)
    refine kM 1 rfl ?_
    refine AOps_q 16 _ rfl rfl rfl (QOp_add _ _ _ _ _ _ _ rfl rfl rfl) ?_
    refine kN 1 rfl ?_
    exact ⟨k0, _, _, Nat.lt_succ_self _, Weak_keep 0 hm [0, 1, 5] [] _ _ rfl rfl rfl, _, rfl, rfl, h⟩
   refine ACode_exit ?_
   cases h
   exact ⟨_, rfl, Weak_keep 0 hm [] [] _ _ rfl rfl rfl⟩
 refine kR ?_
 refine kN 1 rfl ?_
 refine ACode_ret ?_
 cases h
 exact ⟨_, _, fun r a w h => ⟨r, h⟩, _, _, [], _, (.cons (ResV_tmp _ _ rfl) .nil), rfl, rfl, rfl, rfl, rfl⟩

-- loop.example/g01362/impl.IsPosition
def impl_IsPosition (k : Nat) (p0 : Int) (p1 : List Int) : Option (Bool) :=
 ((impl_position_isShape k (⟨p0, p1⟩ : Pos)).bind fun r1 => (if r1 then (impl_position_isPosition k (⟨p0, p1⟩ : Pos)).bind fun r3 => some r3 else some false) : Option (Bool)).bind fun s4 => some s4
set_option maxRecDepth 100000 in
theorem impl_IsPosition_ac (k : Nat) (p0 : Int) (p1 : List Int) (r : Bool) (h : impl_IsPosition k p0 p1 = some r) : AC Tryz.prog 48 [iV p0, .d (.sl none (intsD p1))] [] (fun res H' => res = [bV r] ∧ H' = []) := by
 refine AC_of_body true Tryz.func48 rfl Tryz.ntmps48 (rvs := [.tmp 4]) rfl rfl (fun G hG => ?_)
 have hm : G.H.length = 0 := by rw [hG]; rfl
 have hz : zeroG G.H = true := by rw [hG]; rfl
 unfold impl_IsPosition at h
 refine kR ?_
 refine kN 1 rfl ?_
 refine kR ?_
 refine kM 2 rfl ?_
 refine AOps_q 8 _ rfl rfl rfl (QOp_build _ _ [_, _] [0, 1] [iD p0, .sl none (intsD p1)] _ [iD 0, .sl (some true) []] (posD (⟨p0, p1⟩ : Pos)) [(0, 1), (1, 1)] rfl rfl Tryz.underlying97 (zero_of Tryz.typeInfo97 rfl) (fun w => by simp [Tryz.sizeOf2, Tryz.sizeOf34]) rfl (by rfl) (by rfl) (allc (ok1 rfl) (allc (ok1 rfl) (fun _ h => nomatch h)))) ?_
 refine AOps_alloc 5 _ _ ([iD 0, .sl (some true) []]) (zero_of Tryz.typeInfo97 rfl) (by rfl) rfl rfl rfl rfl ?_
 refine AOps_store _ _ _ _ _ _ (posD _) _ _ rfl rfl rfl rfl rfl rfl rfl (posD_one _) (by rw [posD_length]; exact Tryz.sizeOf97) (by show (2 : Nat) ≤ 2; decide) rfl ?_
 refine AOps_nil ?_
 refine kB (fun s4 => [(4, bV s4)]) (fun s4 => []) h (fun s4 h => ?_) (fun s4 h => ?_)
 ·refine (ACode_region ?_)
  refine AOps_q 9 _ rfl rfl rfl (QOp_loadN_ptr _ _ _ _ _ _ _ rfl Tryz.isAgg97 Tryz.sizeOf97 rfl rfl (posD_all _) (posD_length _)) ?_
  obtain ⟨r1, hr1, h⟩ := bindO h
  refine kC [] 10 (bV r1) [.box (posD (⟨p0, p1⟩ : Pos))] rfl Tryz.call121 rfl rfl (impl_position_isShape_ac k (⟨p0, p1⟩ : Pos) _ hr1) rfl ?_
  refine kM 1 rfl ?_
  refine AOps_case 11 _ rfl (fun hb2 => ?_) (fun hb2 => ?_)
  ·have h := iteT hb2 h
   refine AOps_q 12 _ rfl rfl rfl (QOp_loadN_ptr _ _ _ _ _ _ _ rfl Tryz.isAgg97 Tryz.sizeOf97 rfl rfl (posD_all _) (posD_length _)) ?_
   obtain ⟨r3, hr3, h⟩ := bindO h
   refine kC [] 13 (bV r3) [.box (posD (⟨p0, p1⟩ : Pos))] rfl Tryz.call122 rfl rfl (impl_position_isPosition_ac k (⟨p0, p1⟩ : Pos) _ hr3) rfl ?_
   refine kN 2 rfl ?_
   cases h
   exact Weak_keep 0 hm [4] [] _ _ rfl rfl rfl
  have h := iteF hb2 h
  refine AOps_skip 12 rfl rfl rfl ?_
  refine AOps_skip 13 rfl rfl rfl ?_
  refine kN 2 rfl ?_
  cases h
  exact Weak_keep 0 hm [4] [] _ _ rfl rfl rfl
 refine ACode_ret ?_
 cases h
 exact ⟨_, _, fun r a w h => ⟨r, h⟩, _, _, [], _, (.cons (ResV_tmp _ _ rfl) .nil), rfl, rfl, rfl, rfl, rfl⟩

-- loop.example/g01362/spec.IsPosition
def spec_IsPosition (k : Nat) (p0 : Int) (p1 : List Int) : Option (Bool) :=
 ((spec_l09Lists k p0 p1).bind fun r1 => (if decide (r1 = 0) then (spec_l09Is k p0 p1).bind fun r3 => some r3 else some false) : Option (Bool)).bind fun s4 => some s4
set_option maxRecDepth 100000 in
theorem spec_IsPosition_ac (k : Nat) (p0 : Int) (p1 : List Int) (r : Bool) (h : spec_IsPosition k p0 p1 = some r) : AC Tryz.prog 49 [iV p0, .d (.sl none (intsD p1))] [] (fun res H' => res = [bV r] ∧ H' = []) := by
 refine AC_of_body true Tryz.func49 rfl Tryz.ntmps49 (rvs := [.tmp 4]) rfl rfl (fun G hG => ?_)
 have hm : G.H.length = 0 := by rw [hG]; rfl
 have hz : zeroG G.H = true := by rw [hG]; rfl
 unfold spec_IsPosition at h
 refine kR ?_
 refine kN 1 rfl ?_
 refine kB (fun s4 => [(4, bV s4)]) (fun s4 => []) h (fun s4 h => ?_) (fun s4 h => ?_)
 ·refine (ACode_region ?_)
  refine kM 2 rfl ?_
  obtain ⟨r1, hr1, h⟩ := bindO h
  refine kC [] 7 (iV r1) [] rfl Tryz.call123 rfl rfl (spec_l09Lists_ac k p0 p1 _ hr1) rfl ?_
  refine AOps_q 8 _ rfl rfl rfl (QOp_eql _ _ _ _ _ _ _ rfl rfl rfl) ?_
  refine kM 1 rfl ?_
  refine AOps_case 9 _ rfl (fun hb2 => ?_) (fun hb2 => ?_)
  ·have h := iteT hb2 h
   refine kM 2 rfl ?_
   obtain ⟨r3, hr3, h⟩ := bindO h
   refine kC [] 12 (bV r3) [] rfl Tryz.call124 rfl rfl (spec_l09Is_ac k p0 p1 _ hr3) rfl ?_
   refine kN 2 rfl ?_
   cases h
   exact Weak_keep 0 hm [4] [] _ _ rfl rfl rfl
  have h := iteF hb2 h
  refine AOps_skip 10 rfl rfl rfl ?_
  refine AOps_skip 11 rfl rfl rfl ?_
  refine AOps_skip 12 rfl rfl rfl ?_
  refine kN 2 rfl ?_
  cases h
  exact Weak_keep 0 hm [4] [] _ _ rfl rfl rfl
 refine ACode_ret ?_
 cases h
 exact ⟨_, _, fun r a w h => ⟨r, h⟩, _, _, [], _, (.cons (ResV_tmp _ _ rfl) .nil), rfl, rfl, rfl, rfl, rfl⟩

-- internal/stringslite.Cut
def internal_stringslite_Cut (p0 : ByteArray) (p1 : ByteArray) : Option (ByteArray × ByteArray × Bool) :=
 (indexOne p0 p1).bind fun r1 => (if decide (0 ≤ r1) then (if 0 ≤ (0 : Int) ∧ 0 ≤ r1 ∧ r1 ≤ ((p0 : ByteArray).size : Int) then (if 0 ≤ w64 (r1 + (p1.size : Int)) ∧ w64 (r1 + (p1.size : Int)) ≤ ((p0 : ByteArray).size : Int) ∧ ((p0 : ByteArray).size : Int) ≤ ((p0 : ByteArray).size : Int) then some (((p0 : ByteArray).extract (0) (r1.toNat)), ((p0 : ByteArray).extract ((w64 (r1 + (p1.size : Int))).toNat) ((p0 : ByteArray).size)), true) else none) else none) else some (p0, (⟨#[]⟩ : ByteArray), false))
set_option maxRecDepth 100000 in
theorem internal_stringslite_Cut_ac (p0 : ByteArray) (p1 : ByteArray) (r : ByteArray × ByteArray × Bool) (h : internal_stringslite_Cut p0 p1 = some r) : AC Tryz.prog 138 [.d (.s (.string p0)), .d (.s (.string p1))] [] (fun res H' => res = [.d (.s (.string r.1)), .d (.s (.string r.2.1)), bV r.2.2] ∧ H' = []) := by
 refine AC_of_body true Tryz.func138 rfl Tryz.ntmps138 (rvs := [.tmp 4, .tmp 5, .tmp 6]) rfl rfl (fun G hG => ?_)
 have hm : G.H.length = 0 := by rw [hG]; rfl
 have hz : zeroG G.H = true := by rw [hG]; rfl
 unfold internal_stringslite_Cut at h
 refine kR ?_
 refine kN 3 rfl ?_
 refine ACode_seq ?_
 refine kR ?_
 refine kM 2 rfl ?_
 obtain ⟨r1, hr1, h⟩ := bindO h
 refine kC [] 10 (iV r1) [] rfl Tryz.call165 rfl rfl (indexOne_ac p0 p1 _ hr1) rfl ?_
 refine kN 1 rfl ?_
 refine kR ?_
 refine kM 1 rfl ?_
 refine AOps_q 12 _ rfl rfl rfl (QOp_geq _ _ _ _ _ _ _ rfl rfl rfl) ?_
 refine AOps_nil ?_
 refine kI h rfl (fun h _ => ?_) (fun h _ => ?_)
 ·refine ACode_seq (ACode_quiet mixed (by kernel_rfl) ?_)
  refine kQ 2 rfl ?_
  obtain ⟨hc3, h⟩ := guardO h
  refine AQ_q 15 _ rfl rfl rfl (QOp_sslice _ _ _ _ _ (0) (r1.toNat) rfl Tryz.underlying9 rfl rfl ⟨_, by rw [Int.toNat_of_nonneg (by omega)]; rfl⟩ (Nat.zero_le _) (Int.toNat_le.2 hc3.2.2)) ?_
  refine kQ 3 rfl ?_
  refine AQ_q 19 _ rfl rfl rfl (QOp_len_str _ _ _ _ rfl rfl rfl rfl Tryz.underlying9 rfl) ?_
  refine AQ_q 20 _ rfl rfl rfl (QOp_add _ _ _ _ _ _ _ rfl rfl rfl) ?_
  obtain ⟨hc4, h⟩ := guardO h
  refine AQ_q 21 _ rfl rfl rfl (QOp_sslice _ _ _ _ _ ((w64 (r1 + (p1.size : Int))).toNat) ((p0 : ByteArray).size) rfl Tryz.underlying9 rfl ⟨_, by rw [Int.toNat_of_nonneg (by omega)]; rfl⟩ rfl (Int.toNat_le.2 hc4.2.1) (Nat.le_refl _)) ?_
  refine kQ 3 rfl ?_
  refine AQ_nil ?_
  refine ACode_ret ?_
  cases h
  exact ⟨_, _, fun r a w h => ⟨r, h⟩, _, _, [], _, (.cons (ResV_tmp _ _ rfl) (.cons (ResV_tmp _ _ rfl) (.cons (ResV_tmp _ _ rfl) .nil))), rfl, rfl, rfl, rfl, rfl⟩
 refine ACode_skip ?_
 refine kR ?_
 refine kN 4 rfl ?_
 refine ACode_ret ?_
 cases h
 exact ⟨_, _, fun r a w h => ⟨r, h⟩, _, _, [], _, (.cons (ResV_tmp _ _ rfl) (.cons (ResV_tmp _ _ rfl) (.cons (ResV_tmp _ _ rfl) .nil))), rfl, rfl, rfl, rfl, rfl⟩

-- strings.Cut
def strings_Cut (p0 : ByteArray) (p1 : ByteArray) : Option (ByteArray × ByteArray × Bool) :=
 (internal_stringslite_Cut p0 p1).bind fun r1 => some (r1.1, r1.2.1, r1.2.2)
set_option maxRecDepth 100000 in
theorem strings_Cut_ac (p0 : ByteArray) (p1 : ByteArray) (r : ByteArray × ByteArray × Bool) (h : strings_Cut p0 p1 = some r) : AC Tryz.prog 73 [.d (.s (.string p0)), .d (.s (.string p1))] [] (fun res H' => res = [.d (.s (.string r.1)), .d (.s (.string r.2.1)), bV r.2.2] ∧ H' = []) := by
 refine AC_of_body true Tryz.func73 rfl Tryz.ntmps73 (rvs := [.tmp 4, .tmp 5, .tmp 6]) rfl rfl (fun G hG => ?_)
 have hm : G.H.length = 0 := by rw [hG]; rfl
 have hz : zeroG G.H = true := by rw [hG]; rfl
 unfold strings_Cut at h
 refine kR ?_
 refine kN 3 rfl ?_
 refine kR ?_
 refine kM 2 rfl ?_
 obtain ⟨r1, hr1, h⟩ := bindO h
 refine kC [] 9 (.tup [.d (.s (.string r1.1)), .d (.s (.string r1.2.1)), bV r1.2.2]) [] rfl Tryz.call138 rfl rfl (internal_stringslite_Cut_ac p0 p1 _ hr1) rfl ?_
 refine kN 6 rfl ?_
 refine ACode_ret ?_
 cases h
 exact ⟨_, _, fun r a w h => ⟨r, h⟩, _, _, [], _, (.cons (ResV_tmp _ _ rfl) (.cons (ResV_tmp _ _ rfl) (.cons (ResV_tmp _ _ rfl) .nil))), rfl, rfl, rfl, rfl, rfl⟩

-- loop.example/g01362/impl.ParsePosition
def impl_ParsePosition_l0 (r1 : ByteArray × ByteArray × Bool) : Nat → Bool → Int → (List Int) → Option (Bool × List Int)
 | 0, _, _, _ => none
 | k0 + 1, x3, x4, x5 => (if decide (x4 < (r1.2.1.size : Int)) then ((if 0 ≤ x4 ∧ x4 < ((r1.2.1 : ByteArray).size : Int) then letO (if x3 then decide (0 ≤ (indexB (⟨#[46, 48, 49]⟩ : ByteArray) ((r1.2.1 : ByteArray).data.toList.getD x4.toNat 0))) else false) fun (s10 : Bool) => (if x5.length + ([w64 ((indexB (⟨#[46, 48, 49]⟩ : ByteArray) ((r1.2.1 : ByteArray).data.toList.getD x4.toNat 0)) - 1)]).length ≤ 1099511627776 then some s10 else none) else none) : Option (Bool)).bind fun s12 => impl_ParsePosition_l0 r1 k0 s12 (w64 (x4 + 1)) (x5 ++ ([w64 ((indexB (⟨#[46, 48, 49]⟩ : ByteArray) ((r1.2.1 : ByteArray).data.toList.getD x4.toNat 0)) - 1)])) else some (x3, x5))
def impl_ParsePosition (k : Nat) (p0 : ByteArray) : Option (Int × Option (List Int) × Int) :=
 (strings_Cut p0 (⟨#[58]⟩ : ByteArray)).bind fun r1 => (readN r1.1).bind fun r2 => (impl_ParsePosition_l0 r1 k r2.2 0 ([] : List Int) : Option (Bool × List Int)).bind fun s13 => (((if !r1.2.2 then some true else (if !s13.1 then some true else (impl_IsPosition k r2.1 s13.2).bind fun r16 => some (!r16))) : Option (Bool)).bind fun s17 => (if s17 then some (.inr (0, none, 6)) else some (.inl ())) : Option (Sum (Unit) (Int × Option (List Int) × Int))).bind fun os19 => (match os19 with | .inl s19 => some (r2.1, some s13.2, 0) | .inr rr => some rr)
set_option maxRecDepth 100000 in
theorem impl_ParsePosition_ac (k : Nat) (p0 : ByteArray) (r : Int × Option (List Int) × Int) (h : impl_ParsePosition k p0 = some r) : ACg GK Tryz.prog 50 [.d (.s (.string p0))] [] (fun res H' => res = [iV r.1, ownA 0 (r.2.1.map intsD), iV r.2.2] ∧ H' = [] ++ ownH (r.2.1.map intsD)) := by
 refine AC_of_bodyG gok false Tryz.func50 rfl Tryz.ntmps50 (rvs := [.tmp 2, .tmp 3, .tmp 4]) rfl rfl (fun G hG hgl => ?_)
 have hm : G.H.length = 0 := by rw [hG]; rfl
 have hz : zeroG G.H = true := by rw [hG]; rfl
 unfold impl_ParsePosition at h
 refine kR ?_
 refine kN 3 rfl ?_
 refine kR ?_
 refine kM 1 rfl ?_
 obtain ⟨r1, hr1, h⟩ := bindO h
 refine kC [] 15 (.tup [.d (.s (.string r1.1)), .d (.s (.string r1.2.1)), bV r1.2.2]) [] rfl Tryz.call73 rfl rfl (strings_Cut_ac p0 (⟨#[58]⟩ : ByteArray) _ hr1) rfl ?_
 refine kN 7 rfl ?_
 refine kR ?_
 refine kM 1 rfl ?_
 obtain ⟨r2, hr2, h⟩ := bindO h
 refine AOps_callG [] 21 _ _ _ _ _ _ _ _ _ _ rfl rfl rfl rfl rfl rfl rfl Tryz.call74 rfl (nodupB_sound _ rfl) rfl rfl rfl gok hgl (readN_ac r1.1 _ hr2) ?_
 rintro _ _ ⟨rfl, rfl⟩
 refine ⟨(fun _ h => nomatch h), (allc (trivial) (allc (trivial) (fun _ h => nomatch h))), AOps_as 21 (v' := .tup [iV r2.1, bV r2.2]) (H' := []) rfl rfl ?_⟩
 refine kN 5 rfl ?_
 refine kR ?_
 refine AOps_buildSlice 24 _ _ _ [] (intsD ([] : List Int)) _ rfl rfl rfl rfl rfl (by decide) Tryz.underlying34 Tryz.sizeOf2 (zero_of Tryz.typeInfo2 rfl) rfl rfl (intsD_one _) ?_
 refine kN 1 rfl ?_
 refine kB (fun s13 => [(7, bV r1.2.2), (8, iV r2.1), (9, bV s13.1), (10, .vec 0 0)]) (fun s13 => [.vec 0 (intsD s13.2)]) h (fun s13 h => ?_) (fun s13 h => ?_)
 ·refine kR ?_
  refine kM 1 rfl ?_
  refine AOps_q 26 _ rfl rfl rfl (QOp_len_str _ _ _ _ rfl rfl rfl rfl Tryz.underlying9 rfl) ?_
  refine kN 1 rfl ?_
  refine ACode_block ?_
  refine ACode_loopW (fun k0 E H => ∃ (x3 : Bool) (x4 : Int) (x5 : List Int), E = [(6, .d (.s (.string r1.2.1))), (7, bV r1.2.2), (8, iV r2.1), (9, bV x3), (10, .vec 0 0), (26, iV (r1.2.1.size : Int)), (27, iV x4)] ∧ H = [.vec 0 (intsD x5)] ∧ impl_ParsePosition_l0 r1 k0 x3 x4 x5 = some s13) k _ _ (Weak_keep 0 hm [6, 7, 8, 9, 10, 26, 27] [0] _ _ rfl rfl rfl) ⟨_, _, _, rfl, rfl, h⟩ ?_
  clear h
  rintro k0 E H ⟨x3, x4, x5, rfl, rfl, h⟩
  cases k0 with
  | zero => cases (show (none : Option (Bool × List Int)) = some _ from h)
  | succ k0 =>
   rw [impl_ParsePosition_l0] at h
   refine kR ?_
   refine AOps_q 28 _ rfl rfl rfl (QOp_lss _ _ _ _ _ _ _ rfl rfl rfl) ?_
   refine AOps_nil ?_
   refine ACode_seq ?_
   refine kI h rfl (fun h _ => ?_) (fun h _ => ?_)
   ·refine ACode_skip ?_
    refine kB (fun s12 => [(6, .d (.s (.string r1.2.1))), (7, bV r1.2.2), (8, iV r2.1), (9, bV s12), (10, .vec 0 0), (26, iV (r1.2.1.size : Int)), (27, iV x4)]) (fun s12 => [.vec 0 (intsD (x5 ++ ([w64 ((indexB (⟨#[46, 48, 49]⟩ : ByteArray) ((r1.2.1 : ByteArray).data.toList.getD x4.toNat 0)) - 1)])))]) h (fun s12 h => ?_) (fun s12 h => ?_)
    ·refine ACode_block ?_
     refine kR ?_
     refine kN 2 rfl ?_
     refine kR ?_
     refine kM 2 rfl ?_
     obtain ⟨hc7, h⟩ := guardO h
     refine AOps_q 32 _ rfl rfl rfl (QOp_sindex _ _ _ _ _ _ rfl Tryz.underlying9 hc7.1 hc7.2 rfl rfl) ?_
     refine kC [] 33 (iV (indexB (⟨#[46, 48, 49]⟩ : ByteArray) ((r1.2.1 : ByteArray).data.toList.getD x4.toNat 0))) [.vec 0 (intsD x5)] rfl Tryz.call125 rfl rfl (indexB_ac (⟨#[46, 48, 49]⟩ : ByteArray) ((r1.2.1 : ByteArray).data.toList.getD x4.toNat 0)) rfl ?_
     refine kN 1 rfl ?_
     refine kL (fun s10 => [(6, .d (.s (.string r1.2.1))), (7, bV r1.2.2), (8, iV r2.1), (9, bV s10), (10, .vec 0 0), (12, iV (indexB (⟨#[46, 48, 49]⟩ : ByteArray) ((r1.2.1 : ByteArray).data.toList.getD x4.toNat 0))), (26, iV (r1.2.1.size : Int)), (27, iV x4)]) (fun s10 => [.vec 0 (intsD x5)]) h (fun s10 h => ?_) (fun s10 h => ?_)
     ·refine (ACode_region ?_)
      refine kM 2 rfl ?_
      refine AOps_case 35 _ rfl (fun hb9 => ?_) (fun hb9 => ?_)
      ·have h := iteT hb9 h
       refine kM 1 rfl ?_
       refine AOps_q 37 _ rfl rfl rfl (QOp_geq _ _ _ _ _ _ _ rfl rfl rfl) ?_
       refine kN 2 rfl ?_
       cases h
       exact Weak_keep 0 hm [6, 7, 8, 9, 10, 12, 26, 27] [0] _ _ rfl rfl rfl
      have h := iteF hb9 h
      refine AOps_skip 36 rfl rfl rfl ?_
      refine AOps_skip 37 rfl rfl rfl ?_
      refine kN 2 rfl ?_
      cases h
      exact Weak_keep 0 hm [6, 7, 8, 9, 10, 12, 26, 27] [0] _ _ rfl rfl rfl
     refine (ACode_region ?_)
     refine kM 2 rfl ?_
     refine AOps_q 41 _ rfl rfl rfl (QOp_sub _ _ _ _ _ _ _ rfl rfl rfl) ?_
     refine AOps_buildSlice 42 _ _ _ [_] (intsD ([w64 ((indexB (⟨#[46, 48, 49]⟩ : ByteArray) ((r1.2.1 : ByteArray).data.toList.getD x4.toNat 0)) - 1)])) _ rfl rfl rfl rfl rfl (by decide) Tryz.underlying34 Tryz.sizeOf2 (zero_of Tryz.typeInfo2 rfl) rfl rfl (intsD_one _) ?_
     obtain ⟨hc11, h⟩ := guardO h
     refine AOps_append 43 _ _ _ _ _ _ _ _ _ _ _ _ rfl rfl rfl rfl rfl rfl rfl Tryz.underlying34 Tryz.type2 rfl rfl rfl (by decide) rfl rfl rfl rfl (intsD_one _) (by rw [intsD_length, intsD_length]; exact hc11) ?_
     rw [intsD_app]
     refine kN 1 rfl ?_
     cases h
     exact Weak_trans (Weak_keep 0 hm [6, 7, 8, 9, 10, 26, 27] [0] _ _ rfl rfl rfl) (Weak_reset 0 hm hz [6, 7, 8, 9, 10, 26, 27] _ _ rfl rfl)
    refine (ACode_region ?_)
    refine AOps_q 44 _ rfl rfl rfl (QOp_add _ _ _ _ _ _ _ rfl rfl rfl) ?_
    refine kN 1 rfl ?_
    exact ⟨k0, _, _, Nat.lt_succ_self _, Weak_keep 0 hm [6, 7, 8, 9, 10, 26, 27] [0] _ _ rfl rfl rfl, _, _, _, rfl, rfl, h⟩
   refine ACode_exit ?_
   cases h
   exact Weak_keep 0 hm [7, 8, 9, 10] [0] _ _ rfl rfl rfl
 refine kO (fun s19 => [(8, iV r2.1), (10, .vec 0 0)]) (fun s19 => [.vec 0 (intsD s13.2)]) h (fun os19 h hks19 => ?_) (fun s19 h => ?_)
 ·refine kB (fun s17 => [(8, iV r2.1), (10, .vec 0 0), (56, bV s17)]) (fun s17 => [.vec 0 (intsD s13.2)]) h (fun s17 h => ?_) (fun s17 h => ?_)
  ·refine (ACode_region ?_)
   refine kM 1 rfl ?_
   refine AOps_q 46 _ rfl rfl rfl (QOp_not _ _ _ rfl rfl) ?_
   refine kM 1 rfl ?_
   refine AOps_case 47 _ rfl (fun hb14 => ?_) (fun hb14 => ?_)
   ·have h := iteT hb14 h
    refine AOps_skip 48 rfl rfl rfl ?_
    refine AOps_skip 49 rfl rfl rfl ?_
    refine kM 2 rfl ?_
    refine AOps_skip 52 rfl rfl rfl ?_
    refine AOps_skip 53 rfl rfl rfl ?_
    refine AOps_skip 54 rfl rfl rfl ?_
    refine AOps_skip 55 rfl rfl rfl ?_
    refine kN 1 rfl ?_
    cases h
    exact Weak_keep 0 hm [8, 10, 56] [0] _ _ rfl rfl rfl
   have h := iteF hb14 h
   refine kM 1 rfl ?_
   refine AOps_q 49 _ rfl rfl rfl (QOp_not _ _ _ rfl rfl) ?_
   refine kM 2 rfl ?_
   refine AOps_case 51 _ rfl (fun hb15 => ?_) (fun hb15 => ?_)
   ·have h := iteT hb15 h
    refine AOps_skip 52 rfl rfl rfl ?_
    refine AOps_skip 53 rfl rfl rfl ?_
    refine AOps_skip 54 rfl rfl rfl ?_
    refine AOps_skip 55 rfl rfl rfl ?_
    refine kN 1 rfl ?_
    cases h
    exact Weak_keep 0 hm [8, 10, 56] [0] _ _ rfl rfl rfl
   have h := iteF hb15 h
   refine kM 2 rfl ?_
   obtain ⟨r16, hr16, h⟩ := bindO h
   refine AOps_callL [] 54 _ _ _ _ _ _ _ _ _ _ rfl rfl rfl rfl rfl rfl rfl Tryz.call48 rfl (nodupB_sound _ rfl) rfl rfl rfl (impl_IsPosition_ac k r2.1 s13.2 _ hr16) ?_
   rintro _ _ ⟨rfl, rfl⟩
   refine ⟨(fun _ h => nomatch h), (allc (flat_s _) (fun _ h => nomatch h)), AOps_as 54 (v' := bV r16) (H' := [.vec 0 (intsD s13.2)]) rfl rfl ?_⟩
   refine AOps_q 55 _ rfl rfl rfl (QOp_not _ _ _ rfl rfl) ?_
   refine kN 1 rfl ?_
   cases h
   exact Weak_keep 0 hm [8, 10, 56] [0] _ _ rfl rfl rfl
  refine kI h rfl (fun h _ => ?_) (fun h _ => ?_)
  ·refine kR ?_
   refine kN 3 rfl ?_
   refine ACode_ret ?_
   cases h
   have h := hks19
   cases h
   exact ⟨_, _, fun r a w h => ⟨r, h⟩, _, _, [], _, (.cons (ResV_tmp _ _ rfl) (.cons (ResV_tmp _ _ rfl) (.cons (ResV_tmp _ _ rfl) .nil))), rfl, rfl, rfl, rfl, rfl⟩
  refine ACode_skip ?_
  cases h
  exact ⟨_, rfl, Weak_keep 0 hm [8, 10] [0] _ _ rfl rfl rfl⟩
 refine kR ?_
 refine kN 5 rfl ?_
 refine ACode_ret ?_
 cases h
 exact ⟨_, _, Weak_reset 0 hm hz [2, 3, 4] _ _ rfl rfl, _, _, [0], _, (.cons (ResV_tmp _ _ rfl) (.cons (ResV_tmp _ _ rfl) (.cons (ResV_tmp _ _ rfl) .nil))), rfl, rfl, rfl, rfl, rfl⟩

-- loop.example/g01362/impl.MakeMove$1
def impl_MakeMove_c1 (p0 : Int) (p1 : List Int) : Bool :=
 (impl_in p0 0 (w64 ((impl_size p1) - 1)))
set_option maxRecDepth 100000 in
theorem impl_MakeMove_c1_ac (p0 : Int) (p1 : List Int) : AC Tryz.prog 126 [.d (.pv ([iD p0]) 0), .d (.pv ([.sl none (intsD p1)]) 0)] [] (fun res H' => res = [bV (impl_MakeMove_c1 p0 p1)] ∧ H' = []) := by
 refine AC_of_body true Tryz.func126 rfl Tryz.ntmps126 (rvs := [.tmp 2]) rfl rfl (fun G hG => ?_)
 have hm : G.H.length = 0 := by rw [hG]; rfl
 have hz : zeroG G.H = true := by rw [hG]; rfl
 obtain ⟨r, h⟩ : ∃ r, impl_MakeMove_c1 p0 p1 = r := ⟨_, rfl⟩
 rw [h]
 unfold impl_MakeMove_c1 at h
 refine kR ?_
 refine kN 1 rfl ?_
 refine ACode_seq (ACode_quiet mixed (by kernel_rfl) ?_)
 refine AQ_q 3 _ rfl rfl rfl (QOp_load_pv _ _ _ _ _ rfl Tryz.isAgg2 rfl rfl) ?_
 refine AQ_q 4 _ rfl rfl rfl (QOp_load_pv _ _ _ _ _ rfl Tryz.isAgg34 rfl rfl) ?_
 refine AQ_call 5 _ _ _ _ _ _ _ _ _ rfl rfl rfl rfl rfl rfl rfl Tryz.call128 rfl rfl rfl (impl_size_ac p1) ?_
 refine AQ_q 6 _ rfl rfl rfl (QOp_sub _ _ _ _ _ _ _ rfl rfl rfl) ?_
 refine AQ_call 7 _ _ _ _ _ _ _ _ _ rfl rfl rfl rfl rfl rfl rfl Tryz.call127 rfl rfl rfl (impl_in_ac p0 0 (w64 ((impl_size p1) - 1))) ?_
 refine kQ 1 rfl ?_
 refine AQ_nil ?_
 refine ACode_ret ?_
 cases h
 exact ⟨_, _, fun r a w h => ⟨r, h⟩, _, _, [], _, (.cons (ResV_tmp _ _ rfl) .nil), rfl, rfl, rfl, rfl, rfl⟩

-- loop.example/g01362/impl.MakeMove
def impl_MakeMove (k : Nat) (p0 : Int) (p1 : List Int) (p2 : Int) : Option (List Int × Int) :=
 (impl_position_code k (⟨p0, p1⟩ : Pos) (some (impl_MakeMove_c1 p2 p1))).bind fun r1 => (((if decide (r1 = 0) then (impl_position_result k (⟨p0, p1⟩ : Pos)).bind fun r3 => (if decide (0 ≤ r3) then some true else (if 0 ≤ p2 ∧ p2 < (p1.length : Int) then some (decide (0 ≤ (p1.getD p2.toNat 0))) else none)) else some false) : Option (Bool)).bind fun s6 => (if s6 then some 5 else some r1) : Option (Int)).bind fun s8 => (if !decide (s8 = 0) then some ([], s8) else (impl_position_moved k (⟨p0, p1⟩ : Pos) p2).bind fun r10 => some (r10.l, 0))
set_option maxRecDepth 100000 in
theorem impl_MakeMove_ac (k : Nat) (p0 : Int) (p1 : List Int) (p2 : Int) (r : List Int × Int) (h : impl_MakeMove k p0 p1 p2 = some r) : AC Tryz.prog 51 [iV p0, .d (.sl none (intsD p1)), iV p2] [] (fun res H' => res = [.d (.sl none (intsD r.1)), iV r.2] ∧ H' = []) := by
 refine AC_of_body true Tryz.func51 rfl Tryz.ntmps51 (rvs := [.tmp 6, .tmp 7]) rfl rfl (fun G hG => ?_)
 have hm : G.H.length = 0 := by rw [hG]; rfl
 have hz : zeroG G.H = true := by rw [hG]; rfl
 unfold impl_MakeMove at h
 refine kR ?_
 refine AOps_boxI 4 _ _ (.sl none (intsD p1)) _ rfl (fun c hc => by cases hc with | head => rfl | tail _ h => cases h) rfl rfl rfl rfl rfl ?_
 refine AOps_boxI 5 _ _ (iD p2) _ rfl (fun c hc => by cases hc with | head => rfl | tail _ h => cases h) rfl rfl rfl rfl rfl ?_
 refine kN 2 rfl ?_
 refine kR ?_
 refine kM 1 rfl ?_
 refine AOps_q 11 _ rfl rfl rfl (QOp_load_pv _ _ _ _ _ rfl Tryz.isAgg34 rfl rfl) ?_
 refine AOps_q 12 _ rfl rfl rfl (QOp_build _ _ [_, _] [0, 1] [iD p0, .sl none (intsD p1)] _ [iD 0, .sl (some true) []] (posD (⟨p0, p1⟩ : Pos)) [(0, 1), (1, 1)] rfl rfl Tryz.underlying97 (zero_of Tryz.typeInfo97 rfl) (fun w => by simp [Tryz.sizeOf2, Tryz.sizeOf34]) rfl (by rfl) (by rfl) (allc (ok1 rfl) (allc (ok1 rfl) (fun _ h => nomatch h)))) ?_
 refine AOps_alloc 8 _ _ ([iD 0, .sl (some true) []]) (zero_of Tryz.typeInfo97 rfl) (by rfl) rfl rfl rfl rfl ?_
 refine AOps_store _ _ _ _ _ _ (posD _) _ _ rfl rfl rfl rfl rfl rfl rfl (posD_one _) (by rw [posD_length]; exact Tryz.sizeOf97) (by show (2 : Nat) ≤ 2; decide) rfl ?_
 refine AOps_nil ?_
 refine kR ?_
 refine AOps_q 13 _ rfl rfl rfl (QOp_loadN_ptr _ _ _ _ _ _ _ rfl Tryz.isAgg97 Tryz.sizeOf97 rfl rfl (posD_all _) (posD_length _)) ?_
 refine AOps_q 14 _ rfl rfl rfl (QOp_makeFuncD _ _ _ _ rfl rfl rfl) ?_
 obtain ⟨r1, hr1, h⟩ := bindO h
 refine kC [] 15 (iV r1) [.box (posD (⟨p0, p1⟩ : Pos))] rfl Tryz.call104 rfl rfl (impl_position_code_ac k (⟨p0, p1⟩ : Pos) (some (impl_MakeMove_c1 p2 p1)) 126 ([.pv ([iD p2]) 0, .pv ([.sl none (intsD p1)]) 0]) Tryz.call126 (fun r h => by cases h; exact impl_MakeMove_c1_ac p2 p1) _ hr1) rfl ?_
 refine kN 1 rfl ?_
 refine kB (fun s8 => [(5, .d (.pv ([iD p2]) 0)), (8, .ptr 0 0), (9, iV s8)]) (fun s8 => [.box (posD (⟨p0, p1⟩ : Pos))]) h (fun s8 h => ?_) (fun s8 h => ?_)
 ·refine kB (fun s6 => [(5, .d (.pv ([iD p2]) 0)), (8, .ptr 0 0), (9, iV r1), (29, bV s6)]) (fun s6 => [.box (posD (⟨p0, p1⟩ : Pos))]) h (fun s6 h => ?_) (fun s6 h => ?_)
  ·refine (ACode_region ?_)
   refine kM 1 rfl ?_
   refine AOps_q 17 _ rfl rfl rfl (QOp_eql _ _ _ _ _ _ _ rfl rfl rfl) ?_
   refine kM 1 rfl ?_
   refine AOps_case 18 _ rfl (fun hb2 => ?_) (fun hb2 => ?_)
   ·have h := iteT hb2 h
    refine AOps_q 19 _ rfl rfl rfl (QOp_loadN_ptr _ _ _ _ _ _ _ rfl Tryz.isAgg97 Tryz.sizeOf97 rfl rfl (posD_all _) (posD_length _)) ?_
    obtain ⟨r3, hr3, h⟩ := bindO h
    refine kC [] 20 (iV r3) [.box (posD (⟨p0, p1⟩ : Pos))] rfl Tryz.call116 rfl rfl (impl_position_result_ac k (⟨p0, p1⟩ : Pos) _ hr3) rfl ?_
    refine AOps_q 21 _ rfl rfl rfl (QOp_geq _ _ _ _ _ _ _ rfl rfl rfl) ?_
    refine kM 1 rfl ?_
    refine AOps_case 22 _ rfl (fun hb4 => ?_) (fun hb4 => ?_)
    ·have h := iteT hb4 h
     refine AOps_skip 23 rfl rfl rfl ?_
     refine AOps_skip 24 rfl rfl rfl ?_
     refine AOps_skip 25 rfl rfl rfl ?_
     refine AOps_skip 26 rfl rfl rfl ?_
     refine AOps_skip 27 rfl rfl rfl ?_
     refine kN 2 rfl ?_
     cases h
     exact Weak_keep 0 hm [5, 8, 9, 29] [0] _ _ rfl rfl rfl
    have h := iteF hb4 h
    refine AOps_q 23 _ rfl rfl rfl (QOp_load_pv _ _ _ _ _ rfl Tryz.isAgg34 rfl rfl) ?_
    refine AOps_q 24 _ rfl rfl rfl (QOp_load_pv _ _ _ _ _ rfl Tryz.isAgg2 rfl rfl) ?_
    obtain ⟨hc5, h⟩ := guardO h
    refine AOps_q 25 _ rfl rfl rfl (QOp_indexAddr_sl _ _ _ _ _ _ _ _ rfl Tryz.underlying34 Tryz.sizeOf2 hc5.1 (by rw [intsD_length]; exact hc5.2) rfl rfl) ?_
    refine AOps_q 26 _ rfl rfl rfl (QOp_load_pv _ _ _ _ _ rfl Tryz.isAgg2 rfl (intsD_get _ _ 0 (by omega))) ?_
    refine AOps_q 27 _ rfl rfl rfl (QOp_geq _ _ _ _ _ _ _ rfl rfl rfl) ?_
    refine kN 2 rfl ?_
    cases h
    exact Weak_keep 0 hm [5, 8, 9, 29] [0] _ _ rfl rfl rfl
   have h := iteF hb2 h
   refine AOps_skip 19 rfl rfl rfl ?_
   refine AOps_skip 20 rfl rfl rfl ?_
   refine AOps_skip 21 rfl rfl rfl ?_
   refine AOps_skip 22 rfl rfl rfl ?_
   refine AOps_skip 23 rfl rfl rfl ?_
   refine AOps_skip 24 rfl rfl rfl ?_
   refine AOps_skip 25 rfl rfl rfl ?_
   refine AOps_skip 26 rfl rfl rfl ?_
   refine AOps_skip 27 rfl rfl rfl ?_
   refine AOps_skip 28 rfl rfl rfl ?_
   refine kN 1 rfl ?_
   cases h
   exact Weak_keep 0 hm [5, 8, 9, 29] [0] _ _ rfl rfl rfl
  refine kI h rfl (fun h _ => ?_) (fun h _ => ?_)
  ·refine (ACode_region ?_)
   refine kN 1 rfl ?_
   cases h
   exact Weak_keep 0 hm [5, 8, 9] [0] _ _ rfl rfl rfl
  refine ACode_skip ?_
  cases h
  exact Weak_keep 0 hm [5, 8, 9] [0] _ _ rfl rfl rfl
 refine ACode_seq ?_
 refine kR ?_
 refine kM 1 rfl ?_
 refine AOps_q 31 _ rfl rfl rfl (QOp_neq _ _ _ _ _ _ _ rfl rfl rfl) ?_
 refine AOps_nil ?_
 refine kI h rfl (fun h _ => ?_) (fun h _ => ?_)
 ·refine kR ?_
  refine kN 3 rfl ?_
  refine ACode_ret ?_
  cases h
  exact ⟨_, _, fun r a w h => ⟨r, h⟩, _, _, [], _, (.cons (ResV_tmp _ _ rfl) (.cons (ResV_tmp _ _ rfl) .nil)), rfl, rfl, rfl, rfl, rfl⟩
 refine ACode_skip ?_
 refine kR ?_
 refine AOps_q 33 _ rfl rfl rfl (QOp_loadN_ptr _ _ _ _ _ _ _ rfl Tryz.isAgg97 Tryz.sizeOf97 rfl rfl (posD_all _) (posD_length _)) ?_
 refine AOps_q 34 _ rfl rfl rfl (QOp_load_pv _ _ _ _ _ rfl Tryz.isAgg2 rfl rfl) ?_
 obtain ⟨r10, hr10, h⟩ := bindO h
 refine kC [] 35 (.d (.agg (posD r10))) [.box (posD (⟨p0, p1⟩ : Pos))] rfl Tryz.call107 rfl rfl (impl_position_moved_ac k (⟨p0, p1⟩ : Pos) p2 _ hr10) rfl ?_
 refine AOps_q 36 _ rfl rfl rfl (QOp_field_agg _ _ _ _ 1 _ _ _ rfl Tryz.underlying97 rfl Tryz.isAgg34 rfl rfl rfl) ?_
 refine kN 2 rfl ?_
 refine ACode_ret ?_
 cases h
 exact ⟨_, _, fun r a w h => ⟨r, h⟩, _, _, [], _, (.cons (ResV_tmp _ _ rfl) (.cons (ResV_tmp _ _ rfl) .nil)), rfl, rfl, rfl, rfl, rfl⟩

-- loop.example/g01362/laws.hasInt
def laws_hasInt_l0 (p0 : List Int) (p1 : Int) : Nat → Int → Option (Sum (Unit) (Bool))
 | 0, _ => none
 | k0 + 1, x1 => (if decide (x1 < (p0.length : Int)) then (if 0 ≤ x1 ∧ x1 < (p0.length : Int) then (if decide ((p0.getD x1.toNat 0) = p1) then some (.inr true) else laws_hasInt_l0 p0 p1 k0 (w64 (x1 + 1))) else none) else some (.inl ()))
def laws_hasInt (k : Nat) (p0 : List Int) (p1 : Int) : Option (Bool) :=
 (laws_hasInt_l0 p0 p1 k 0 : Option (Sum (Unit) (Bool))).bind fun os5 => (match os5 with | .inl s5 => some false | .inr rr => some rr)
set_option maxRecDepth 100000 in
theorem laws_hasInt_ac (k : Nat) (p0 : List Int) (p1 : Int) (r : Bool) (h : laws_hasInt k p0 p1 = some r) : AC Tryz.prog 22 [.d (.sl none (intsD p0)), iV p1] [] (fun res H' => res = [bV r] ∧ H' = []) := by
 refine AC_of_body true Tryz.func22 rfl Tryz.ntmps22 (rvs := [.tmp 4]) rfl rfl (fun G hG => ?_)
 have hm : G.H.length = 0 := by rw [hG]; rfl
 have hz : zeroG G.H = true := by rw [hG]; rfl
 unfold laws_hasInt at h
 refine kR ?_
 refine kN 1 rfl ?_
 refine kO (fun s5 => []) (fun s5 => []) h (fun os5 h hks5 => ?_) (fun s5 h => ?_)
 ·refine kR ?_
  refine kN 1 rfl ?_
  refine ACode_block ?_
  refine ACode_loopW (fun k0 E H => ∃ (x1 : Int), E = [(0, .d (.sl none (intsD p0))), (1, iV p1), (5, iV x1)] ∧ H = [] ∧ laws_hasInt_l0 p0 p1 k0 x1 = some os5) k _ _ (Weak_keep 0 hm [0, 1, 5] [] _ _ rfl rfl rfl) ⟨_, rfl, rfl, h⟩ ?_
  clear h
  rintro k0 E H ⟨x1, rfl, rfl, h⟩
  cases k0 with
  | zero => cases (show (none : Option (Sum (Unit) (Bool))) = some _ from h)
  | succ k0 =>
   rw [laws_hasInt_l0] at h
   refine ACode_seq ?_
   refine kR ?_
   refine kM 2 rfl ?_
   refine AOps_q 8 _ rfl rfl rfl (QOp_len_sl _ _ _ _ _ _ _ (intsD_length _) rfl rfl rfl rfl Tryz.underlying34 rfl) ?_
   refine AOps_q 9 _ rfl rfl rfl (QOp_lss _ _ _ _ _ _ _ rfl rfl rfl) ?_
   refine AOps_nil ?_
   refine kI h rfl (fun h _ => ?_) (fun h _ => ?_)
   ·refine ACode_skip ?_
    refine ACode_seq ?_
    refine ACode_block ?_
    refine kR ?_
    refine kM 2 rfl ?_
    obtain ⟨hc3, h⟩ := guardO h
    refine AOps_q 14 _ rfl rfl rfl (QOp_indexAddr_sl _ _ _ _ _ _ _ _ rfl Tryz.underlying34 Tryz.sizeOf2 hc3.1 (by rw [intsD_length]; exact hc3.2) rfl rfl) ?_
    refine AOps_q 15 _ rfl rfl rfl (QOp_load_pv _ _ _ _ _ rfl Tryz.isAgg2 rfl (intsD_get _ _ 0 (by omega))) ?_
    refine kM 1 rfl ?_
    refine AOps_q 17 _ rfl rfl rfl (QOp_eql _ _ _ _ _ _ _ rfl rfl rfl) ?_
    refine AOps_nil ?_
    refine kI h rfl (fun h _ => ?_) (fun h _ => ?_)
    ·refine kR ?_
     refine kN 1 rfl ?_
     refine ACode_ret ?_
     cases h
     have h := hks5
     cases h
     exact ⟨_, _, fun r a w h => ⟨r, h⟩, _, _, [], _, (.cons (ResV_tmp _ _ rfl) .nil), rfl, rfl, rfl, rfl, rfl⟩
    refine ACode_skip ?_
    refine (ACode_region ?_)
    refine kM 1 rfl ?_
    refine AOps_q 11 _ rfl rfl rfl (QOp_add _ _ _ _ _ _ _ rfl rfl rfl) ?_
    refine kN 1 rfl ?_
    exact ⟨k0, _, _, Nat.lt_succ_self _, Weak_keep 0 hm [0, 1, 5] [] _ _ rfl rfl rfl, _, rfl, rfl, h⟩
   refine ACode_exit ?_
   cases h
   exact ⟨_, rfl, Weak_keep 0 hm [] [] _ _ rfl rfl rfl⟩
 refine kR ?_
 refine kN 1 rfl ?_
 refine ACode_ret ?_
 cases h
 exact ⟨_, _, fun r a w h => ⟨r, h⟩, _, _, [], _, (.cons (ResV_tmp _ _ rfl) .nil), rfl, rfl, rfl, rfl, rfl⟩

-- loop.example/g01362/spec.l01Near
def spec_l01Near (p0 : Src) (p1 : Int) : Option (Int × Src) :=
 (spec_l01Next p0 14).bind fun r1 => (if decide (r1.1 = 0) then (spec_l01Pick r1.2 ([(-1), w64 (p1 + 1), 1099511627776, (-4611686018427387904)])).bind fun r3 => some (r3.1, r3.2) else (spec_l01Next r1.2 (w64 (p1 + 1))).bind fun r4 => some (r4.1, r4.2))
set_option maxRecDepth 100000 in
theorem spec_l01Near_ac (p0 : Src) (p1 : Int) (r : Int × Src) (h : spec_l01Near p0 p1 = some r) : AC Tryz.prog 130 [.ptr 0 0, iV p1] [.box (srcD p0)] (fun res H' => res = [iV r.1] ∧ H' = [.box (srcD r.2)]) := by
 refine AC_of_body true Tryz.func130 rfl Tryz.ntmps130 (rvs := [.tmp 4]) rfl rfl (fun G hG => ?_)
 have hm : G.H.length = 1 := by rw [hG]; rfl
 have hz : zeroG G.H = true := by rw [hG]; rfl
 unfold spec_l01Near at h
 refine kR ?_
 refine kN 1 rfl ?_
 refine ACode_seq ?_
 refine kR ?_
 refine kM 1 rfl ?_
 obtain ⟨r1, hr1, h⟩ := bindO h
 refine kC [0] 6 (iV r1.1) [.box (srcD r1.2)] rfl Tryz.call87 rfl rfl (spec_l01Next_ac p0 14 _ hr1) rfl ?_
 refine AOps_q 7 _ rfl rfl rfl (QOp_eql _ _ _ _ _ _ _ rfl rfl rfl) ?_
 refine AOps_nil ?_
 refine kI h rfl (fun h _ => ?_) (fun h _ => ?_)
 ·refine kR ?_
  refine kM 2 rfl ?_
  refine AOps_q 10 _ rfl rfl rfl (QOp_add _ _ _ _ _ _ _ rfl rfl rfl) ?_
  refine AOps_buildSlice 11 _ _ _ [_, _, _, _] (intsD ([(-1), w64 (p1 + 1), 1099511627776, (-4611686018427387904)])) _ rfl rfl rfl rfl rfl (by decide) Tryz.underlying34 Tryz.sizeOf2 (zero_of Tryz.typeInfo2 rfl) rfl rfl (intsD_one _) ?_
  refine AOps_freezeL [11] 1 0 _ (allc (rfl) (fun _ h => nomatch h)) rfl ?_
  obtain ⟨r3, hr3, h⟩ := bindO h
  refine kC [0] 12 (iV r3.1) [.box (srcD r3.2), .gone] rfl Tryz.call88 rfl rfl (spec_l01Pick_ac r1.2 ([(-1), w64 (p1 + 1), 1099511627776, (-4611686018427387904)]) _ hr3) rfl ?_
  refine kN 1 rfl ?_
  refine ACode_ret ?_
  cases h
  exact ⟨_, _, fun r a w h => ⟨r, h⟩, _, _, [], _, (.cons (ResV_tmp _ _ rfl) .nil), rfl, rfl, rfl, rfl, rfl⟩
 refine ACode_skip ?_
 refine kR ?_
 refine kM 2 rfl ?_
 refine AOps_q 15 _ rfl rfl rfl (QOp_add _ _ _ _ _ _ _ rfl rfl rfl) ?_
 obtain ⟨r4, hr4, h⟩ := bindO h
 refine kC [0] 16 (iV r4.1) [.box (srcD r4.2)] rfl Tryz.call87 rfl rfl (spec_l01Next_ac r1.2 (w64 (p1 + 1)) _ hr4) rfl ?_
 refine kN 1 rfl ?_
 refine ACode_ret ?_
 cases h
 exact ⟨_, _, fun r a w h => ⟨r, h⟩, _, _, [], _, (.cons (ResV_tmp _ _ rfl) .nil), rfl, rfl, rfl, rfl, rfl⟩

-- loop.example/g01362/spec.DrawMakeMove
def spec_DrawMakeMove (k : Nat) (p0 : List UInt8) : Option (Int × List Int × Int) :=
 (spec_l01From k p0).bind fun r1 => (spec_l09Draw k r1).bind fun r2 => (spec_l01Near r2.2.2 (if w64 ((r2.2.1.length : Int) - 1) < 0 then 0 else w64 ((r2.2.1.length : Int) - 1))).bind fun r3 => ((spec_l09Free k r2.2.1).bind fun r4 => ((if decide (0 < (r4.length : Int)) then (spec_l01Next r3.2 2).bind fun r6 => some (decide (r6.1 = 0), r6.2) else some (false, r3.2)) : Option (Bool × Src)).bind fun s7 => (if s7.1 then (spec_l01Next s7.2 (r4.length : Int)).bind fun r9 => (if 0 ≤ r9.1 ∧ r9.1 < (r4.length : Int) then some ((r4.getD r9.1.toNat 0), r9.2) else none) else some (r3.1, s7.2)) : Option (Int × Src)).bind fun s11 => (spec_l09Bad k s11.2 r2.1 r2.2.1).bind fun r12 => some (r12.1, r12.2.1, s11.1)
set_option maxRecDepth 100000 in
theorem spec_DrawMakeMove_ac (k : Nat) (p0 : List UInt8) (r : Int × List Int × Int) (h : spec_DrawMakeMove k p0 = some r) : AC Tryz.prog 52 [.d (.sl none (bysD p0))] [] (fun res H' => res = [iV r.1, .vec 0 0, iV r.2.2] ∧ H' = [.vec 0 (intsD r.2.1)]) := by
 refine AC_of_body true Tryz.func52 rfl Tryz.ntmps52 (rvs := [.tmp 2, .tmp 3, .tmp 4]) rfl rfl (fun G hG => ?_)
 have hm : G.H.length = 0 := by rw [hG]; rfl
 have hz : zeroG G.H = true := by rw [hG]; rfl
 unfold spec_DrawMakeMove at h
 refine kR ?_
 refine kN 3 rfl ?_
 refine kR ?_
 refine kM 1 rfl ?_
 obtain ⟨r1, hr1, h⟩ := bindO h
 refine kC [] 11 (.ptr 0 0) [.box (srcD r1)] rfl Tryz.call86 rfl rfl (spec_l01From_ac k p0 _ hr1) rfl ?_
 refine kN 1 rfl ?_
 refine kR ?_
 refine kM 1 rfl ?_
 obtain ⟨r2, hr2, h⟩ := bindO h
 refine kC [0] 14 (.tup [iV r2.1, .vec 1 0]) [.box (srcD r2.2.2), .vec 0 (intsD r2.2.1)] rfl Tryz.call129 rfl rfl (spec_l09Draw_ac k r1 _ hr2) rfl ?_
 refine kN 5 rfl ?_
 refine kR ?_
 refine kM 2 rfl ?_
 refine AOps_q 19 _ rfl rfl rfl (QOp_len_vec _ _ _ _ _ _ _ _ (intsD_length _) rfl rfl rfl rfl Tryz.underlying34 rfl rfl) ?_
 refine AOps_q 20 _ rfl rfl rfl (QOp_sub _ _ _ _ _ _ _ rfl rfl rfl) ?_
 refine AOps_q 21 _ rfl rfl rfl (QOp_max _ _ _ _ _ _ rfl rfl rfl rfl rfl) ?_
 obtain ⟨r3, hr3, h⟩ := bindO h
 refine kC [0] 22 (iV r3.1) [.box (srcD r3.2), .vec 0 (intsD r2.2.1)] rfl Tryz.call130 rfl rfl (spec_l01Near_ac r2.2.2 (if w64 ((r2.2.1.length : Int) - 1) < 0 then 0 else w64 ((r2.2.1.length : Int) - 1)) _ hr3) rfl ?_
 refine kN 1 rfl ?_
 refine kB (fun s11 => [(5, .ptr 0 0), (6, iV r2.1), (7, .vec 1 0), (8, iV s11.1)]) (fun s11 => [.box (srcD s11.2), .vec 0 (intsD r2.2.1)]) h (fun s11 h => ?_) (fun s11 h => ?_)
 ·refine kR ?_
  refine kM 1 rfl ?_
  obtain ⟨r4, hr4, h⟩ := bindO h
  refine AOps_callL [] 24 _ _ _ _ _ _ _ _ _ _ rfl rfl rfl rfl rfl rfl rfl Tryz.call131 rfl (nodupB_sound _ rfl) rfl rfl rfl (spec_l09Free_ac k r2.2.1 _ hr4) ?_
  rintro _ _ ⟨rfl, rfl⟩
  refine ⟨(allc (intsD_flat _) (fun _ h => nomatch h)), (allc (trivial) (fun _ h => nomatch h)), AOps_as 24 (v' := .vec 2 0) (H' := [.box (srcD r3.2), .vec 0 (intsD r2.2.1), .vec 0 (intsD r4)]) rfl rfl ?_⟩
  refine kN 1 rfl ?_
  refine kB (fun s7 => [(5, .ptr 0 0), (6, iV r2.1), (7, .vec 1 0), (8, iV r3.1), (9, .vec 2 0), (32, bV s7.1)]) (fun s7 => [.box (srcD s7.2), .vec 0 (intsD r2.2.1), .vec 0 (intsD r4)]) h (fun s7 h => ?_) (fun s7 h => ?_)
  ·refine (ACode_region ?_)
   refine kM 1 rfl ?_
   refine AOps_q 26 _ rfl rfl rfl (QOp_len_vec _ _ _ _ _ _ _ _ (intsD_length _) rfl rfl rfl rfl Tryz.underlying34 rfl rfl) ?_
   refine AOps_q 27 _ rfl rfl rfl (QOp_gtr _ _ _ _ _ _ _ rfl rfl rfl) ?_
   refine kM 1 rfl ?_
   refine AOps_case 28 _ rfl (fun hb5 => ?_) (fun hb5 => ?_)
   ·have h := iteT hb5 h
    refine kM 1 rfl ?_
    obtain ⟨r6, hr6, h⟩ := bindO h
    refine kC [0] 30 (iV r6.1) [.box (srcD r6.2), .vec 0 (intsD r2.2.1), .vec 0 (intsD r4)] rfl Tryz.call87 rfl rfl (spec_l01Next_ac r3.2 2 _ hr6) rfl ?_
    refine AOps_q 31 _ rfl rfl rfl (QOp_eql _ _ _ _ _ _ _ rfl rfl rfl) ?_
    refine kN 1 rfl ?_
    cases h
    exact Weak_keep 0 hm [5, 6, 7, 8, 9, 32] [0, 1, 2] _ _ rfl rfl rfl
   have h := iteF hb5 h
   refine AOps_skip 29 rfl rfl rfl ?_
   refine AOps_skip 30 rfl rfl rfl ?_
   refine AOps_skip 31 rfl rfl rfl ?_
   refine kN 1 rfl ?_
   cases h
   exact Weak_keep 0 hm [5, 6, 7, 8, 9, 32] [0, 1, 2] _ _ rfl rfl rfl
  refine kI h rfl (fun h _ => ?_) (fun h _ => ?_)
  ·refine (ACode_region ?_)
   refine kM 3 rfl ?_
   refine AOps_q 36 _ rfl rfl rfl (QOp_len_vec _ _ _ _ _ _ _ _ (intsD_length _) rfl rfl rfl rfl Tryz.underlying34 rfl rfl) ?_
   obtain ⟨r9, hr9, h⟩ := bindO h
   refine kC [0] 37 (iV r9.1) [.box (srcD r9.2), .vec 0 (intsD r2.2.1), .vec 0 (intsD r4)] rfl Tryz.call87 rfl rfl (spec_l01Next_ac s7.2 (r4.length : Int) _ hr9) rfl ?_
   obtain ⟨hc10, h⟩ := guardO h
   refine AOps_q 38 _ rfl rfl rfl (QOp_indexAddr_vec _ _ _ _ _ _ _ _ _ rfl Tryz.underlying34 Tryz.sizeOf2 hc10.1 (by rw [intsD_length]; exact hc10.2) rfl rfl rfl) ?_
   refine AOps_q 39 _ rfl rfl rfl (QOp_load_eptr _ _ _ _ _ _ _ rfl Tryz.isAgg2 rfl rfl (intsD_get _ _ 0 (by omega))) ?_
   refine kN 1 rfl ?_
   cases h
   exact Weak_keep 0 hm [5, 6, 7, 8] [0, 1] _ _ rfl rfl rfl
  refine ACode_skip ?_
  cases h
  exact Weak_keep 0 hm [5, 6, 7, 8] [0, 1] _ _ rfl rfl rfl
 refine kR ?_
 refine kM 3 rfl ?_
 refine AOps_freezeL [7, 43] 1 0 _ (allc (rfl) (allc (rfl) (fun _ h => nomatch h))) rfl ?_
 obtain ⟨r12, hr12, h⟩ := bindO h
 refine kC [0] 44 (.tup [iV r12.1, .vec 2 0]) [.box (srcD r12.2.2), .gone, .vec 0 (intsD r12.2.1)] rfl Tryz.call132 rfl rfl (spec_l09Bad_ac k s11.2 r2.1 r2.2.1 _ hr12) rfl ?_
 refine kN 5 rfl ?_
 refine kR ?_
 refine kN 6 rfl ?_
 refine ACode_ret ?_
 cases h
 exact ⟨_, _, Weak_reset 0 hm hz [2, 3, 4] _ _ rfl rfl, _, _, [2], _, (.cons (ResV_tmp _ _ rfl) (.cons (ResV_tmp _ _ rfl) (.cons (ResV_tmp _ _ rfl) .nil))), rfl, rfl, rfl, rfl, rfl⟩

-- loop.example/g01362/spec.MakeMove
def spec_MakeMove (k : Nat) (p0 : Int) (p1 : List Int) (p2 : Int) : Option (List Int × Int) :=
 (spec_l09Lists k p0 p1).bind fun r1 => letO (letO (if decide (r1 = 0) then !(spec_l01In p2 0 (w64 ((p1.length : Int) - 1))) else false) fun (s4 : Bool) => (if s4 then 2 else r1)) fun (s6 : Int) => ((if decide (s6 = 0) then (spec_l09Code k p0 p1).bind fun r8 => some r8 else some s6) : Option (Int)).bind fun s9 => (((if decide (s9 = 0) then (spec_l09Result k p0 p1).bind fun r11 => (if decide (0 ≤ r11) then some true else (if 0 ≤ p2 ∧ p2 < (p1.length : Int) then some (decide (0 ≤ (p1.getD p2.toNat 0))) else none)) else some false) : Option (Bool)).bind fun s14 => (if s14 then some 5 else some s9) : Option (Int)).bind fun s16 => (if !decide (s16 = 0) then some ([], s16) else (spec_l09Move k p1 p2).bind fun r18 => some (r18, 0))
set_option maxRecDepth 100000 in
theorem spec_MakeMove_ac (k : Nat) (p0 : Int) (p1 : List Int) (p2 : Int) (r : List Int × Int) (h : spec_MakeMove k p0 p1 p2 = some r) : AC Tryz.prog 53 [iV p0, .d (.sl none (intsD p1)), iV p2] [] (fun res H' => res = [.d (.sl none (intsD r.1)), iV r.2] ∧ H' = []) := by
 refine AC_of_body true Tryz.func53 rfl Tryz.ntmps53 (rvs := [.tmp 6, .tmp 7]) rfl rfl (fun G hG => ?_)
 have hm : G.H.length = 0 := by rw [hG]; rfl
 have hz : zeroG G.H = true := by rw [hG]; rfl
 unfold spec_MakeMove at h
 refine kR ?_
 refine kN 2 rfl ?_
 refine kR ?_
 refine kM 2 rfl ?_
 obtain ⟨r1, hr1, h⟩ := bindO h
 refine kC [] 11 (iV r1) [] rfl Tryz.call123 rfl rfl (spec_l09Lists_ac k p0 p1 _ hr1) rfl ?_
 refine kN 1 rfl ?_
 refine kL (fun s6 => [(0, iV p0), (1, .d (.sl none (intsD p1))), (2, iV p2), (8, iV s6)]) (fun s6 => []) h (fun s6 h => ?_) (fun s6 h => ?_)
 ·refine kL (fun s4 => [(0, iV p0), (1, .d (.sl none (intsD p1))), (2, iV p2), (8, iV r1), (21, bV s4)]) (fun s4 => []) h (fun s4 h => ?_) (fun s4 h => ?_)
  ·refine (ACode_region ?_)
   refine kM 1 rfl ?_
   refine AOps_q 13 _ rfl rfl rfl (QOp_eql _ _ _ _ _ _ _ rfl rfl rfl) ?_
   refine kM 1 rfl ?_
   refine AOps_case 14 _ rfl (fun hb2 => ?_) (fun hb2 => ?_)
   ·have h := iteT hb2 h
    refine kM 2 rfl ?_
    refine AOps_q 17 _ rfl rfl rfl (QOp_len_sl _ _ _ _ _ _ _ (intsD_length _) rfl rfl rfl rfl Tryz.underlying34 rfl) ?_
    refine AOps_q 18 _ rfl rfl rfl (QOp_sub _ _ _ _ _ _ _ rfl rfl rfl) ?_
    refine kC [] 19 (bV (spec_l01In p2 0 (w64 ((p1.length : Int) - 1)))) [] rfl Tryz.call93 rfl rfl (spec_l01In_ac p2 0 (w64 ((p1.length : Int) - 1))) rfl ?_
    refine AOps_q 20 _ rfl rfl rfl (QOp_not _ _ _ rfl rfl) ?_
    refine kN 1 rfl ?_
    cases h
    exact Weak_keep 0 hm [0, 1, 2, 8, 21] [] _ _ rfl rfl rfl
   have h := iteF hb2 h
   refine AOps_skip 15 rfl rfl rfl ?_
   refine AOps_skip 16 rfl rfl rfl ?_
   refine AOps_skip 17 rfl rfl rfl ?_
   refine AOps_skip 18 rfl rfl rfl ?_
   refine AOps_skip 19 rfl rfl rfl ?_
   refine AOps_skip 20 rfl rfl rfl ?_
   refine kN 1 rfl ?_
   cases h
   exact Weak_keep 0 hm [0, 1, 2, 8, 21] [] _ _ rfl rfl rfl
  refine kI h rfl (fun h _ => ?_) (fun h _ => ?_)
  ·refine (ACode_region ?_)
   refine kN 1 rfl ?_
   cases h
   exact Weak_keep 0 hm [0, 1, 2, 8] [] _ _ rfl rfl rfl
  refine ACode_skip ?_
  cases h
  exact Weak_keep 0 hm [0, 1, 2, 8] [] _ _ rfl rfl rfl
 refine kB (fun s9 => [(0, iV p0), (1, .d (.sl none (intsD p1))), (2, iV p2), (8, iV s9)]) (fun s9 => []) h (fun s9 h => ?_) (fun s9 h => ?_)
 ·refine kR ?_
  refine kM 1 rfl ?_
  refine AOps_q 23 _ rfl rfl rfl (QOp_eql _ _ _ _ _ _ _ rfl rfl rfl) ?_
  refine AOps_nil ?_
  refine kI h rfl (fun h _ => ?_) (fun h _ => ?_)
  ·refine (ACode_region ?_)
   refine kM 2 rfl ?_
   obtain ⟨r8, hr8, h⟩ := bindO h
   refine kC [] 26 (iV r8) [] rfl Tryz.call110 rfl rfl (spec_l09Code_ac k p0 p1 _ hr8) rfl ?_
   refine kN 1 rfl ?_
   cases h
   exact Weak_keep 0 hm [0, 1, 2, 8] [] _ _ rfl rfl rfl
  refine ACode_skip ?_
  cases h
  exact Weak_keep 0 hm [0, 1, 2, 8] [] _ _ rfl rfl rfl
 refine kB (fun s16 => [(1, .d (.sl none (intsD p1))), (2, iV p2), (8, iV s16)]) (fun s16 => []) h (fun s16 h => ?_) (fun s16 h => ?_)
 ·refine kB (fun s14 => [(1, .d (.sl none (intsD p1))), (2, iV p2), (8, iV s9), (41, bV s14)]) (fun s14 => []) h (fun s14 h => ?_) (fun s14 h => ?_)
  ·refine (ACode_region ?_)
   refine kM 1 rfl ?_
   refine AOps_q 28 _ rfl rfl rfl (QOp_eql _ _ _ _ _ _ _ rfl rfl rfl) ?_
   refine kM 1 rfl ?_
   refine AOps_case 29 _ rfl (fun hb10 => ?_) (fun hb10 => ?_)
   ·have h := iteT hb10 h
    refine kM 2 rfl ?_
    obtain ⟨r11, hr11, h⟩ := bindO h
    refine kC [] 32 (iV r11) [] rfl Tryz.call117 rfl rfl (spec_l09Result_ac k p0 p1 _ hr11) rfl ?_
    refine AOps_q 33 _ rfl rfl rfl (QOp_geq _ _ _ _ _ _ _ rfl rfl rfl) ?_
    refine kM 1 rfl ?_
    refine AOps_case 34 _ rfl (fun hb12 => ?_) (fun hb12 => ?_)
    ·have h := iteT hb12 h
     refine AOps_skip 35 rfl rfl rfl ?_
     refine AOps_skip 36 rfl rfl rfl ?_
     refine AOps_skip 37 rfl rfl rfl ?_
     refine AOps_skip 38 rfl rfl rfl ?_
     refine AOps_skip 39 rfl rfl rfl ?_
     refine kN 2 rfl ?_
     cases h
     exact Weak_keep 0 hm [1, 2, 8, 41] [] _ _ rfl rfl rfl
    have h := iteF hb12 h
    refine kM 2 rfl ?_
    obtain ⟨hc13, h⟩ := guardO h
    refine AOps_q 37 _ rfl rfl rfl (QOp_indexAddr_sl _ _ _ _ _ _ _ _ rfl Tryz.underlying34 Tryz.sizeOf2 hc13.1 (by rw [intsD_length]; exact hc13.2) rfl rfl) ?_
    refine AOps_q 38 _ rfl rfl rfl (QOp_load_pv _ _ _ _ _ rfl Tryz.isAgg2 rfl (intsD_get _ _ 0 (by omega))) ?_
    refine AOps_q 39 _ rfl rfl rfl (QOp_geq _ _ _ _ _ _ _ rfl rfl rfl) ?_
    refine kN 2 rfl ?_
    cases h
    exact Weak_keep 0 hm [1, 2, 8, 41] [] _ _ rfl rfl rfl
   have h := iteF hb10 h
   refine AOps_skip 30 rfl rfl rfl ?_
   refine AOps_skip 31 rfl rfl rfl ?_
   refine AOps_skip 32 rfl rfl rfl ?_
   refine AOps_skip 33 rfl rfl rfl ?_
   refine AOps_skip 34 rfl rfl rfl ?_
   refine AOps_skip 35 rfl rfl rfl ?_
   refine AOps_skip 36 rfl rfl rfl ?_
   refine AOps_skip 37 rfl rfl rfl ?_
   refine AOps_skip 38 rfl rfl rfl ?_
   refine AOps_skip 39 rfl rfl rfl ?_
   refine AOps_skip 40 rfl rfl rfl ?_
   refine kN 1 rfl ?_
   cases h
   exact Weak_keep 0 hm [1, 2, 8, 41] [] _ _ rfl rfl rfl
  refine kI h rfl (fun h _ => ?_) (fun h _ => ?_)
  ·refine (ACode_region ?_)
   refine kN 1 rfl ?_
   cases h
   exact Weak_keep 0 hm [1, 2, 8] [] _ _ rfl rfl rfl
  refine ACode_skip ?_
  cases h
  exact Weak_keep 0 hm [1, 2, 8] [] _ _ rfl rfl rfl
 refine ACode_seq ?_
 refine kR ?_
 refine kM 1 rfl ?_
 refine AOps_q 43 _ rfl rfl rfl (QOp_neq _ _ _ _ _ _ _ rfl rfl rfl) ?_
 refine AOps_nil ?_
 refine kI h rfl (fun h _ => ?_) (fun h _ => ?_)
 ·refine kR ?_
  refine kN 3 rfl ?_
  refine ACode_ret ?_
  cases h
  exact ⟨_, _, fun r a w h => ⟨r, h⟩, _, _, [], _, (.cons (ResV_tmp _ _ rfl) (.cons (ResV_tmp _ _ rfl) .nil)), rfl, rfl, rfl, rfl, rfl⟩
 refine ACode_skip ?_
 refine kR ?_
 refine kM 2 rfl ?_
 obtain ⟨r18, hr18, h⟩ := bindO h
 refine kC [] 47 (.vec 0 0) [.vec 0 (intsD r18)] rfl Tryz.call113 rfl rfl (spec_l09Move_ac k p1 p2 _ hr18) rfl ?_
 refine kN 2 rfl ?_
 refine ACode_ret ?_
 cases h
 exact ⟨_, _, fun r a w h => ⟨r, h⟩, _, _, [], _, (.cons (ResV_tmp _ _ rfl) (.cons (ResV_tmp _ _ rfl) .nil)), rfl, rfl, rfl, rfl, rfl⟩

-- loop.example/g01362/spec.l01Damage
def spec_l01Damage (p0 : Src) (p1 : ByteArray) : Option (ByteArray × Src) :=
 (spec_l01Next p0 (([(⟨#[48]⟩ : ByteArray), (⟨#[49]⟩ : ByteArray), (⟨#[50]⟩ : ByteArray), (⟨#[51]⟩ : ByteArray), (⟨#[55]⟩ : ByteArray), (⟨#[44]⟩ : ByteArray), (⟨#[58]⟩ : ByteArray), (⟨#[32]⟩ : ByteArray), (⟨#[120]⟩ : ByteArray), (⟨#[10]⟩ : ByteArray)]).length : Int)).bind fun r1 => (if 0 ≤ r1.1 ∧ r1.1 < (([(⟨#[48]⟩ : ByteArray), (⟨#[49]⟩ : ByteArray), (⟨#[50]⟩ : ByteArray), (⟨#[51]⟩ : ByteArray), (⟨#[55]⟩ : ByteArray), (⟨#[44]⟩ : ByteArray), (⟨#[58]⟩ : ByteArray), (⟨#[32]⟩ : ByteArray), (⟨#[120]⟩ : ByteArray), (⟨#[10]⟩ : ByteArray)]).length : Int) then (if decide ((p1.size : Int) = 0) then some ((([(⟨#[48]⟩ : ByteArray), (⟨#[49]⟩ : ByteArray), (⟨#[50]⟩ : ByteArray), (⟨#[51]⟩ : ByteArray), (⟨#[55]⟩ : ByteArray), (⟨#[44]⟩ : ByteArray), (⟨#[58]⟩ : ByteArray), (⟨#[32]⟩ : ByteArray), (⟨#[120]⟩ : ByteArray), (⟨#[10]⟩ : ByteArray)]).getD r1.1.toNat ByteArray.empty), r1.2) else (spec_l01Next r1.2 (p1.size : Int)).bind fun r4 => (spec_l01Next r4.2 3).bind fun r5 => (if decide (r5.1 = 0) then (if 0 ≤ (0 : Int) ∧ 0 ≤ r4.1 ∧ r4.1 ≤ ((p1 : ByteArray).size : Int) then (if ((p1 : ByteArray).extract (0) (r4.1.toNat)).size + (([(⟨#[48]⟩ : ByteArray), (⟨#[49]⟩ : ByteArray), (⟨#[50]⟩ : ByteArray), (⟨#[51]⟩ : ByteArray), (⟨#[55]⟩ : ByteArray), (⟨#[44]⟩ : ByteArray), (⟨#[58]⟩ : ByteArray), (⟨#[32]⟩ : ByteArray), (⟨#[120]⟩ : ByteArray), (⟨#[10]⟩ : ByteArray)]).getD r1.1.toNat ByteArray.empty).size ≤ 1099511627776 then (if 0 ≤ w64 (r4.1 + 1) ∧ w64 (r4.1 + 1) ≤ ((p1 : ByteArray).size : Int) ∧ ((p1 : ByteArray).size : Int) ≤ ((p1 : ByteArray).size : Int) then (if (((p1 : ByteArray).extract (0) (r4.1.toNat)) ++ (([(⟨#[48]⟩ : ByteArray), (⟨#[49]⟩ : ByteArray), (⟨#[50]⟩ : ByteArray), (⟨#[51]⟩ : ByteArray), (⟨#[55]⟩ : ByteArray), (⟨#[44]⟩ : ByteArray), (⟨#[58]⟩ : ByteArray), (⟨#[32]⟩ : ByteArray), (⟨#[120]⟩ : ByteArray), (⟨#[10]⟩ : ByteArray)]).getD r1.1.toNat ByteArray.empty)).size + ((p1 : ByteArray).extract ((w64 (r4.1 + 1)).toNat) ((p1 : ByteArray).size)).size ≤ 1099511627776 then some (((((p1 : ByteArray).extract (0) (r4.1.toNat)) ++ (([(⟨#[48]⟩ : ByteArray), (⟨#[49]⟩ : ByteArray), (⟨#[50]⟩ : ByteArray), (⟨#[51]⟩ : ByteArray), (⟨#[55]⟩ : ByteArray), (⟨#[44]⟩ : ByteArray), (⟨#[58]⟩ : ByteArray), (⟨#[32]⟩ : ByteArray), (⟨#[120]⟩ : ByteArray), (⟨#[10]⟩ : ByteArray)]).getD r1.1.toNat ByteArray.empty)) ++ ((p1 : ByteArray).extract ((w64 (r4.1 + 1)).toNat) ((p1 : ByteArray).size))), r5.2) else none) else none) else none) else none) else (if decide (r5.1 = 1) then (if 0 ≤ (0 : Int) ∧ 0 ≤ r4.1 ∧ r4.1 ≤ ((p1 : ByteArray).size : Int) then (if 0 ≤ w64 (r4.1 + 1) ∧ w64 (r4.1 + 1) ≤ ((p1 : ByteArray).size : Int) ∧ ((p1 : ByteArray).size : Int) ≤ ((p1 : ByteArray).size : Int) then (if ((p1 : ByteArray).extract (0) (r4.1.toNat)).size + ((p1 : ByteArray).extract ((w64 (r4.1 + 1)).toNat) ((p1 : ByteArray).size)).size ≤ 1099511627776 then some ((((p1 : ByteArray).extract (0) (r4.1.toNat)) ++ ((p1 : ByteArray).extract ((w64 (r4.1 + 1)).toNat) ((p1 : ByteArray).size))), r5.2) else none) else none) else none) else (if 0 ≤ (0 : Int) ∧ 0 ≤ r4.1 ∧ r4.1 ≤ ((p1 : ByteArray).size : Int) then (if ((p1 : ByteArray).extract (0) (r4.1.toNat)).size + (([(⟨#[48]⟩ : ByteArray), (⟨#[49]⟩ : ByteArray), (⟨#[50]⟩ : ByteArray), (⟨#[51]⟩ : ByteArray), (⟨#[55]⟩ : ByteArray), (⟨#[44]⟩ : ByteArray), (⟨#[58]⟩ : ByteArray), (⟨#[32]⟩ : ByteArray), (⟨#[120]⟩ : ByteArray), (⟨#[10]⟩ : ByteArray)]).getD r1.1.toNat ByteArray.empty).size ≤ 1099511627776 then (if 0 ≤ r4.1 ∧ r4.1 ≤ ((p1 : ByteArray).size : Int) ∧ ((p1 : ByteArray).size : Int) ≤ ((p1 : ByteArray).size : Int) then (if (((p1 : ByteArray).extract (0) (r4.1.toNat)) ++ (([(⟨#[48]⟩ : ByteArray), (⟨#[49]⟩ : ByteArray), (⟨#[50]⟩ : ByteArray), (⟨#[51]⟩ : ByteArray), (⟨#[55]⟩ : ByteArray), (⟨#[44]⟩ : ByteArray), (⟨#[58]⟩ : ByteArray), (⟨#[32]⟩ : ByteArray), (⟨#[120]⟩ : ByteArray), (⟨#[10]⟩ : ByteArray)]).getD r1.1.toNat ByteArray.empty)).size + ((p1 : ByteArray).extract (r4.1.toNat) ((p1 : ByteArray).size)).size ≤ 1099511627776 then some (((((p1 : ByteArray).extract (0) (r4.1.toNat)) ++ (([(⟨#[48]⟩ : ByteArray), (⟨#[49]⟩ : ByteArray), (⟨#[50]⟩ : ByteArray), (⟨#[51]⟩ : ByteArray), (⟨#[55]⟩ : ByteArray), (⟨#[44]⟩ : ByteArray), (⟨#[58]⟩ : ByteArray), (⟨#[32]⟩ : ByteArray), (⟨#[120]⟩ : ByteArray), (⟨#[10]⟩ : ByteArray)]).getD r1.1.toNat ByteArray.empty)) ++ ((p1 : ByteArray).extract (r4.1.toNat) ((p1 : ByteArray).size))), r5.2) else none) else none) else none) else none)))) else none)
set_option maxRecDepth 100000 in
theorem spec_l01Damage_ac (p0 : Src) (p1 : ByteArray) (r : ByteArray × Src) (h : spec_l01Damage p0 p1 = some r) : AC Tryz.prog 100 [.ptr 0 0, .d (.s (.string p1))] [.box (srcD p0)] (fun res H' => res = [.d (.s (.string r.1))] ∧ H' = [.box (srcD r.2)]) := by
 refine AC_of_body true Tryz.func100 rfl Tryz.ntmps100 (rvs := [.tmp 4]) rfl rfl (fun G hG => ?_)
 have hm : G.H.length = 1 := by rw [hG]; rfl
 have hz : zeroG G.H = true := by rw [hG]; rfl
 unfold spec_l01Damage at h
 refine kR ?_
 refine kN 1 rfl ?_
 refine kR ?_
 refine AOps_buildSlice 8 _ _ _ [_, _, _, _, _, _, _, _, _, _] (stsD ([(⟨#[48]⟩ : ByteArray), (⟨#[49]⟩ : ByteArray), (⟨#[50]⟩ : ByteArray), (⟨#[51]⟩ : ByteArray), (⟨#[55]⟩ : ByteArray), (⟨#[44]⟩ : ByteArray), (⟨#[58]⟩ : ByteArray), (⟨#[32]⟩ : ByteArray), (⟨#[120]⟩ : ByteArray), (⟨#[10]⟩ : ByteArray)])) _ rfl rfl rfl rfl rfl (by decide) Tryz.underlying116 Tryz.sizeOf9 (zero_of Tryz.typeInfo9 rfl) rfl rfl (stsD_one _) ?_
 refine kN 1 rfl ?_
 refine kR ?_
 refine kM 3 rfl ?_
 refine AOps_q 12 _ rfl rfl rfl (QOp_len_vec _ _ _ _ _ _ _ _ (stsD_length _) rfl rfl rfl rfl Tryz.underlying116 rfl rfl) ?_
 obtain ⟨r1, hr1, h⟩ := bindO h
 refine kC [0] 13 (iV r1.1) [.box (srcD r1.2), .vec 0 (stsD ([(⟨#[48]⟩ : ByteArray), (⟨#[49]⟩ : ByteArray), (⟨#[50]⟩ : ByteArray), (⟨#[51]⟩ : ByteArray), (⟨#[55]⟩ : ByteArray), (⟨#[44]⟩ : ByteArray), (⟨#[58]⟩ : ByteArray), (⟨#[32]⟩ : ByteArray), (⟨#[120]⟩ : ByteArray), (⟨#[10]⟩ : ByteArray)]))] rfl Tryz.call87 rfl rfl (spec_l01Next_ac p0 (([(⟨#[48]⟩ : ByteArray), (⟨#[49]⟩ : ByteArray), (⟨#[50]⟩ : ByteArray), (⟨#[51]⟩ : ByteArray), (⟨#[55]⟩ : ByteArray), (⟨#[44]⟩ : ByteArray), (⟨#[58]⟩ : ByteArray), (⟨#[32]⟩ : ByteArray), (⟨#[120]⟩ : ByteArray), (⟨#[10]⟩ : ByteArray)]).length : Int) _ hr1) rfl ?_
 obtain ⟨hc2, h⟩ := guardO h
 refine AOps_q 14 _ rfl rfl rfl (QOp_indexAddr_vec _ _ _ _ _ _ _ _ _ rfl Tryz.underlying116 Tryz.sizeOf9 hc2.1 (by rw [stsD_length]; exact hc2.2) rfl rfl rfl) ?_
 refine AOps_q 15 _ rfl rfl rfl (QOp_load_eptr _ _ _ _ _ _ _ rfl Tryz.isAgg9 rfl rfl (stsD_get _ _ ByteArray.empty (by omega))) ?_
 refine kN 1 rfl ?_
 refine ACode_seq ?_
 refine kR ?_
 refine kM 1 rfl ?_
 refine AOps_q 17 _ rfl rfl rfl (QOp_len_str _ _ _ _ rfl rfl rfl rfl Tryz.underlying9 rfl) ?_
 refine AOps_q 18 _ rfl rfl rfl (QOp_eql _ _ _ _ _ _ _ rfl rfl rfl) ?_
 refine AOps_nil ?_
 refine kI h rfl (fun h _ => ?_) (fun h _ => ?_)
 ·refine kR ?_
  refine kN 2 rfl ?_
  refine ACode_ret ?_
  cases h
  exact ⟨_, _, fun r a w h => ⟨r, h⟩, _, _, [], _, (.cons (ResV_tmp _ _ rfl) .nil), rfl, rfl, rfl, rfl, rfl⟩
 refine ACode_skip ?_
 refine kR ?_
 refine kM 2 rfl ?_
 refine AOps_q 22 _ rfl rfl rfl (QOp_len_str _ _ _ _ rfl rfl rfl rfl Tryz.underlying9 rfl) ?_
 obtain ⟨r4, hr4, h⟩ := bindO h
 refine kC [0] 23 (iV r4.1) [.box (srcD r4.2), .vec 0 (stsD ([(⟨#[48]⟩ : ByteArray), (⟨#[49]⟩ : ByteArray), (⟨#[50]⟩ : ByteArray), (⟨#[51]⟩ : ByteArray), (⟨#[55]⟩ : ByteArray), (⟨#[44]⟩ : ByteArray), (⟨#[58]⟩ : ByteArray), (⟨#[32]⟩ : ByteArray), (⟨#[120]⟩ : ByteArray), (⟨#[10]⟩ : ByteArray)]))] rfl Tryz.call87 rfl rfl (spec_l01Next_ac r1.2 (p1.size : Int) _ hr4) rfl ?_
 refine kN 1 rfl ?_
 refine ACode_seq ?_
 refine kR ?_
 refine kM 1 rfl ?_
 obtain ⟨r5, hr5, h⟩ := bindO h
 refine kC [0] 25 (iV r5.1) [.box (srcD r5.2), .vec 0 (stsD ([(⟨#[48]⟩ : ByteArray), (⟨#[49]⟩ : ByteArray), (⟨#[50]⟩ : ByteArray), (⟨#[51]⟩ : ByteArray), (⟨#[55]⟩ : ByteArray), (⟨#[44]⟩ : ByteArray), (⟨#[58]⟩ : ByteArray), (⟨#[32]⟩ : ByteArray), (⟨#[120]⟩ : ByteArray), (⟨#[10]⟩ : ByteArray)]))] rfl Tryz.call87 rfl rfl (spec_l01Next_ac r4.2 3 _ hr5) rfl ?_
 refine AOps_nil ?_
 refine ACode_block ?_
 refine kR ?_
 refine AOps_q 27 _ rfl rfl rfl (QOp_eql _ _ _ _ _ _ _ rfl rfl rfl) ?_
 refine kN 1 rfl ?_
 refine kI h rfl (fun h _ => ?_) (fun h _ => ?_)
 ·refine ACode_seq (ACode_quiet mixed (by kernel_rfl) ?_)
  refine kQ 2 rfl ?_
  obtain ⟨hc7, h⟩ := guardO h
  refine AQ_q 30 _ rfl rfl rfl (QOp_sslice _ _ _ _ _ (0) (r4.1.toNat) rfl Tryz.underlying9 rfl rfl ⟨_, by rw [Int.toNat_of_nonneg (by omega)]; rfl⟩ (Nat.zero_le _) (Int.toNat_le.2 hc7.2.2)) ?_
  refine kQ 1 rfl ?_
  obtain ⟨hc8, h⟩ := guardO h
  refine AQ_q 32 _ rfl rfl rfl (QOp_sadd _ _ _ _ _ _ rfl rfl rfl hc8) ?_
  refine kQ 2 rfl ?_
  refine AQ_q 35 _ rfl rfl rfl (QOp_add _ _ _ _ _ _ _ rfl rfl rfl) ?_
  obtain ⟨hc9, h⟩ := guardO h
  refine AQ_q 36 _ rfl rfl rfl (QOp_sslice _ _ _ _ _ ((w64 (r4.1 + 1)).toNat) ((p1 : ByteArray).size) rfl Tryz.underlying9 rfl ⟨_, by rw [Int.toNat_of_nonneg (by omega)]; rfl⟩ rfl (Int.toNat_le.2 hc9.2.1) (Nat.le_refl _)) ?_
  obtain ⟨hc10, h⟩ := guardO h
  refine AQ_q 37 _ rfl rfl rfl (QOp_sadd _ _ _ _ _ _ rfl rfl rfl hc10) ?_
  refine kQ 1 rfl ?_
  refine AQ_nil ?_
  refine ACode_ret ?_
  cases h
  exact ⟨_, _, fun r a w h => ⟨r, h⟩, _, _, [], _, (.cons (ResV_tmp _ _ rfl) .nil), rfl, rfl, rfl, rfl, rfl⟩
 refine kR ?_
 refine AOps_q 39 _ rfl rfl rfl (QOp_eql _ _ _ _ _ _ _ rfl rfl rfl) ?_
 refine kN 1 rfl ?_
 refine kI h rfl (fun h _ => ?_) (fun h _ => ?_)
 ·refine ACode_seq (ACode_quiet mixed (by kernel_rfl) ?_)
  refine kQ 2 rfl ?_
  obtain ⟨hc12, h⟩ := guardO h
  refine AQ_q 42 _ rfl rfl rfl (QOp_sslice _ _ _ _ _ (0) (r4.1.toNat) rfl Tryz.underlying9 rfl rfl ⟨_, by rw [Int.toNat_of_nonneg (by omega)]; rfl⟩ (Nat.zero_le _) (Int.toNat_le.2 hc12.2.2)) ?_
  refine kQ 2 rfl ?_
  refine AQ_q 45 _ rfl rfl rfl (QOp_add _ _ _ _ _ _ _ rfl rfl rfl) ?_
  obtain ⟨hc13, h⟩ := guardO h
  refine AQ_q 46 _ rfl rfl rfl (QOp_sslice _ _ _ _ _ ((w64 (r4.1 + 1)).toNat) ((p1 : ByteArray).size) rfl Tryz.underlying9 rfl ⟨_, by rw [Int.toNat_of_nonneg (by omega)]; rfl⟩ rfl (Int.toNat_le.2 hc13.2.1) (Nat.le_refl _)) ?_
  obtain ⟨hc14, h⟩ := guardO h
  refine AQ_q 47 _ rfl rfl rfl (QOp_sadd _ _ _ _ _ _ rfl rfl rfl hc14) ?_
  refine kQ 1 rfl ?_
  refine AQ_nil ?_
  refine ACode_ret ?_
  cases h
  exact ⟨_, _, fun r a w h => ⟨r, h⟩, _, _, [], _, (.cons (ResV_tmp _ _ rfl) .nil), rfl, rfl, rfl, rfl, rfl⟩
 refine ACode_skip ?_
 refine ACode_seq (ACode_quiet mixed (by kernel_rfl) ?_)
 refine kQ 2 rfl ?_
 obtain ⟨hc15, h⟩ := guardO h
 refine AQ_q 50 _ rfl rfl rfl (QOp_sslice _ _ _ _ _ (0) (r4.1.toNat) rfl Tryz.underlying9 rfl rfl ⟨_, by rw [Int.toNat_of_nonneg (by omega)]; rfl⟩ (Nat.zero_le _) (Int.toNat_le.2 hc15.2.2)) ?_
 refine kQ 1 rfl ?_
 obtain ⟨hc16, h⟩ := guardO h
 refine AQ_q 52 _ rfl rfl rfl (QOp_sadd _ _ _ _ _ _ rfl rfl rfl hc16) ?_
 refine kQ 2 rfl ?_
 obtain ⟨hc17, h⟩ := guardO h
 refine AQ_q 55 _ rfl rfl rfl (QOp_sslice _ _ _ _ _ (r4.1.toNat) ((p1 : ByteArray).size) rfl Tryz.underlying9 rfl ⟨_, by rw [Int.toNat_of_nonneg (by omega)]; rfl⟩ rfl (Int.toNat_le.2 hc17.2.1) (Nat.le_refl _)) ?_
 obtain ⟨hc18, h⟩ := guardO h
 refine AQ_q 56 _ rfl rfl rfl (QOp_sadd _ _ _ _ _ _ rfl rfl rfl hc18) ?_
 refine kQ 1 rfl ?_
 refine AQ_nil ?_
 refine ACode_ret ?_
 cases h
 exact ⟨_, _, fun r a w h => ⟨r, h⟩, _, _, [], _, (.cons (ResV_tmp _ _ rfl) .nil), rfl, rfl, rfl, rfl, rfl⟩

-- loop.example/g01362/spec.DrawParsePosition
def spec_DrawParsePosition_l0 : Nat → ByteArray → Src → Option (ByteArray)
 | 0, _, _ => none
 | k0 + 1, x4, x5 => (spec_l01Next x5 3).bind fun r6 => (if decide (r6.1 = 0) then (spec_l01Damage r6.2 x4).bind fun r8 => spec_DrawParsePosition_l0 k0 r8.1 r8.2 else some x4)
def spec_DrawParsePosition (k : Nat) (p0 : List UInt8) : Option (ByteArray) :=
 (spec_l01From k p0).bind fun r1 => (spec_l09Draw k r1).bind fun r2 => (spec_l09Text k r2.1 r2.2.1).bind fun r3 => (spec_DrawParsePosition_l0 k r3 r2.2.2 : Option (ByteArray)).bind fun s9 => some s9
set_option maxRecDepth 100000 in
theorem spec_DrawParsePosition_ac (k : Nat) (p0 : List UInt8) (r : ByteArray) (h : spec_DrawParsePosition k p0 = some r) : AC Tryz.prog 54 [.d (.sl none (bysD p0))] [] (fun res H' => res = [.d (.s (.string r))] ∧ H' = []) := by
 refine AC_of_body true Tryz.func54 rfl Tryz.ntmps54 (rvs := [.tmp 2]) rfl rfl (fun G hG => ?_)
 have hm : G.H.length = 0 := by rw [hG]; rfl
 have hz : zeroG G.H = true := by rw [hG]; rfl
 unfold spec_DrawParsePosition at h
 refine kR ?_
 refine kN 1 rfl ?_
 refine kR ?_
 refine kM 1 rfl ?_
 obtain ⟨r1, hr1, h⟩ := bindO h
 refine kC [] 8 (.ptr 0 0) [.box (srcD r1)] rfl Tryz.call86 rfl rfl (spec_l01From_ac k p0 _ hr1) rfl ?_
 refine kN 1 rfl ?_
 refine kR ?_
 refine kM 1 rfl ?_
 obtain ⟨r2, hr2, h⟩ := bindO h
 refine kC [0] 11 (.tup [iV r2.1, .vec 1 0]) [.box (srcD r2.2.2), .vec 0 (intsD r2.2.1)] rfl Tryz.call129 rfl rfl (spec_l09Draw_ac k r1 _ hr2) rfl ?_
 refine kN 5 rfl ?_
 refine kR ?_
 refine kM 2 rfl ?_
 obtain ⟨r3, hr3, h⟩ := bindO h
 refine AOps_callL [] 16 _ _ _ _ _ _ _ _ _ _ rfl rfl rfl rfl rfl rfl rfl Tryz.call120 rfl (nodupB_sound _ rfl) rfl rfl rfl (spec_l09Text_ac k r2.1 r2.2.1 _ hr3) ?_
 rintro _ _ ⟨rfl, rfl⟩
 refine ⟨(fun _ h => nomatch h), (allc (flat_s _) (fun _ h => nomatch h)), AOps_as 16 (v' := .d (.s (.string r3))) (H' := [.box (srcD r2.2.2), .vec 0 (intsD r2.2.1)]) rfl rfl ?_⟩
 refine kN 1 rfl ?_
 refine kB (fun s9 => [(6, .d (.s (.string s9)))]) (fun s9 => []) h (fun s9 h => ?_) (fun s9 h => ?_)
 ·refine ACode_block ?_
  refine ACode_loopW (fun k0 E H => ∃ (x4 : ByteArray) (x5 : Src), E = [(3, .ptr 0 0), (6, .d (.s (.string x4)))] ∧ H = [.box (srcD x5)] ∧ spec_DrawParsePosition_l0 k0 x4 x5 = some s9) k _ _ (Weak_keep 0 hm [3, 6] [0] _ _ rfl rfl rfl) ⟨_, _, rfl, rfl, h⟩ ?_
  clear h
  rintro k0 E H ⟨x4, x5, rfl, rfl, h⟩
  cases k0 with
  | zero => cases (show (none : Option (ByteArray)) = some _ from h)
  | succ k0 =>
   rw [spec_DrawParsePosition_l0] at h
   refine ACode_seq ?_
   refine kR ?_
   refine kM 1 rfl ?_
   obtain ⟨r6, hr6, h⟩ := bindO h
   refine kC [0] 18 (iV r6.1) [.box (srcD r6.2)] rfl Tryz.call87 rfl rfl (spec_l01Next_ac x5 3 _ hr6) rfl ?_
   refine AOps_q 19 _ rfl rfl rfl (QOp_eql _ _ _ _ _ _ _ rfl rfl rfl) ?_
   refine AOps_nil ?_
   refine kI h rfl (fun h _ => ?_) (fun h _ => ?_)
   ·refine ACode_skip ?_
    refine ACode_block ?_
    refine (ACode_region ?_)
    refine kM 2 rfl ?_
    obtain ⟨r8, hr8, h⟩ := bindO h
    refine kC [0] 22 (.d (.s (.string r8.1))) [.box (srcD r8.2)] rfl Tryz.call100 rfl rfl (spec_l01Damage_ac r6.2 x4 _ hr8) rfl ?_
    refine kN 1 rfl ?_
    exact ⟨k0, _, _, Nat.lt_succ_self _, Weak_keep 0 hm [3, 6] [0] _ _ rfl rfl rfl, _, _, rfl, rfl, h⟩
   refine ACode_exit ?_
   cases h
   exact Weak_keep 0 hm [6] [] _ _ rfl rfl rfl
 refine kR ?_
 refine kN 2 rfl ?_
 refine ACode_ret ?_
 cases h
 exact ⟨_, _, fun r a w h => ⟨r, h⟩, _, _, [], _, (.cons (ResV_tmp _ _ rfl) .nil), rfl, rfl, rfl, rfl, rfl⟩

-- loop.example/g01362/spec.l01Split
def spec_l01Split_l0 (p0 : ByteArray) (p1 : UInt8) : Nat → Int → Int → (List ByteArray) → Option (Int × List ByteArray)
 | 0, _, _, _ => none
 | k0 + 1, x1, x2, x3 => (if decide (x2 < (p0.size : Int)) then ((if 0 ≤ x2 ∧ x2 < ((p0 : ByteArray).size : Int) then (if decide ((((p0 : ByteArray).data.toList.getD x2.toNat 0).toNat : Int) = (p1.toNat : Int)) then (if 0 ≤ x1 ∧ x1 ≤ x2 ∧ x2 ≤ ((p0 : ByteArray).size : Int) then (if x3.length + ([((p0 : ByteArray).extract (x1.toNat) (x2.toNat))]).length ≤ 1099511627776 then some (w64 (x2 + 1), (x3 ++ ([((p0 : ByteArray).extract (x1.toNat) (x2.toNat))]))) else none) else none) else some (x1, x3)) else none) : Option (Int × List ByteArray)).bind fun s9 => spec_l01Split_l0 p0 p1 k0 s9.1 (w64 (x2 + 1)) s9.2 else some (x1, x3))
def spec_l01Split (k : Nat) (p0 : ByteArray) (p1 : UInt8) : Option (List ByteArray) :=
 (spec_l01Split_l0 p0 p1 k 0 0 ([] : List ByteArray) : Option (Int × List ByteArray)).bind fun s10 => (if 0 ≤ s10.1 ∧ s10.1 ≤ ((p0 : ByteArray).size : Int) ∧ ((p0 : ByteArray).size : Int) ≤ ((p0 : ByteArray).size : Int) then (if s10.2.length + ([((p0 : ByteArray).extract (s10.1.toNat) ((p0 : ByteArray).size))]).length ≤ 1099511627776 then some (s10.2 ++ ([((p0 : ByteArray).extract (s10.1.toNat) ((p0 : ByteArray).size))])) else none) else none)
set_option maxRecDepth 100000 in
theorem spec_l01Split_ac (k : Nat) (p0 : ByteArray) (p1 : UInt8) (r : List ByteArray) (h : spec_l01Split k p0 p1 = some r) : AC Tryz.prog 150 [.d (.s (.string p0)), .d (uD p1)] [] (fun res H' => res = [.vec 0 0] ∧ H' = [.vec 0 (stsD r)]) := by
 refine AC_of_body true Tryz.func150 rfl Tryz.ntmps150 (rvs := [.tmp 4]) rfl rfl (fun G hG => ?_)
 have hm : G.H.length = 0 := by rw [hG]; rfl
 have hz : zeroG G.H = true := by rw [hG]; rfl
 unfold spec_l01Split at h
 refine kR ?_
 refine kN 1 rfl ?_
 refine kR ?_
 refine AOps_buildSlice 8 _ _ _ [] (stsD ([] : List ByteArray)) _ rfl rfl rfl rfl rfl (by decide) Tryz.underlying116 Tryz.sizeOf9 (zero_of Tryz.typeInfo9 rfl) rfl rfl (stsD_one _) ?_
 refine kN 1 rfl ?_
 refine kR ?_
 refine kN 1 rfl ?_
 refine kB (fun s10 => [(0, .d (.s (.string p0))), (5, .vec 0 0), (6, iV s10.1)]) (fun s10 => [.vec 0 (stsD s10.2)]) h (fun s10 h => ?_) (fun s10 h => ?_)
 ·refine kR ?_
  refine kN 1 rfl ?_
  refine ACode_block ?_
  refine ACode_loopW (fun k0 E H => ∃ (x1 : Int) (x2 : Int) (x3 : List ByteArray), E = [(0, .d (.s (.string p0))), (1, .d (uD p1)), (5, .vec 0 0), (6, iV x1), (7, iV x2)] ∧ H = [.vec 0 (stsD x3)] ∧ spec_l01Split_l0 p0 p1 k0 x1 x2 x3 = some s10) k _ _ (Weak_keep 0 hm [0, 1, 5, 6, 7] [0] _ _ rfl rfl rfl) ⟨_, _, _, rfl, rfl, h⟩ ?_
  clear h
  rintro k0 E H ⟨x1, x2, x3, rfl, rfl, h⟩
  cases k0 with
  | zero => cases (show (none : Option (Int × List ByteArray)) = some _ from h)
  | succ k0 =>
   rw [spec_l01Split_l0] at h
   refine ACode_seq ?_
   refine kR ?_
   refine kM 2 rfl ?_
   refine AOps_q 11 _ rfl rfl rfl (QOp_len_str _ _ _ _ rfl rfl rfl rfl Tryz.underlying9 rfl) ?_
   refine AOps_q 12 _ rfl rfl rfl (QOp_lss _ _ _ _ _ _ _ rfl rfl rfl) ?_
   refine AOps_nil ?_
   refine kI h rfl (fun h _ => ?_) (fun h _ => ?_)
   ·refine ACode_skip ?_
    refine kB (fun s9 => [(0, .d (.s (.string p0))), (1, .d (uD p1)), (5, .vec 0 0), (6, iV s9.1), (7, iV x2)]) (fun s9 => [.vec 0 (stsD s9.2)]) h (fun s9 h => ?_) (fun s9 h => ?_)
    ·refine ACode_block ?_
     refine kR ?_
     refine kM 2 rfl ?_
     obtain ⟨hc5, h⟩ := guardO h
     refine AOps_q 17 _ rfl rfl rfl (QOp_sindex _ _ _ _ _ _ rfl Tryz.underlying9 hc5.1 hc5.2 rfl rfl) ?_
     refine kM 1 rfl ?_
     refine AOps_q 19 _ rfl rfl rfl (QOp_eql _ _ _ _ _ _ _ rfl rfl rfl) ?_
     refine AOps_nil ?_
     refine kI h rfl (fun h _ => ?_) (fun h _ => ?_)
     ·refine kR ?_
      refine kM 4 rfl ?_
      obtain ⟨hc7, h⟩ := guardO h
      refine AOps_q 24 _ rfl rfl rfl (QOp_sslice _ _ _ _ _ (x1.toNat) (x2.toNat) rfl Tryz.underlying9 rfl ⟨_, by rw [Int.toNat_of_nonneg (by omega)]; rfl⟩ ⟨_, by rw [Int.toNat_of_nonneg (by omega)]; rfl⟩ (Int.toNat_le_toNat hc7.2.1) (Int.toNat_le.2 hc7.2.2)) ?_
      refine AOps_buildSlice 25 _ _ _ [_] (stsD ([((p0 : ByteArray).extract (x1.toNat) (x2.toNat))])) _ rfl rfl rfl rfl rfl (by decide) Tryz.underlying116 Tryz.sizeOf9 (zero_of Tryz.typeInfo9 rfl) rfl rfl (stsD_one _) ?_
      obtain ⟨hc8, h⟩ := guardO h
      refine AOps_append 26 _ _ _ _ _ _ _ _ _ _ _ _ rfl rfl rfl rfl rfl rfl rfl Tryz.underlying116 Tryz.type9 rfl rfl rfl (by decide) rfl rfl rfl rfl (stsD_one _) (by rw [stsD_length, stsD_length]; exact hc8) ?_
      rw [stsD_app]
      refine kN 1 rfl ?_
      refine (ACode_region ?_)
      refine kM 1 rfl ?_
      refine AOps_q 28 _ rfl rfl rfl (QOp_add _ _ _ _ _ _ _ rfl rfl rfl) ?_
      refine kN 1 rfl ?_
      cases h
      exact Weak_trans (Weak_keep 0 hm [0, 1, 5, 6, 7] [0] _ _ rfl rfl rfl) (Weak_reset 0 hm hz [0, 1, 5, 6, 7] _ _ rfl rfl)
     refine ACode_skip ?_
     cases h
     exact Weak_keep 0 hm [0, 1, 5, 6, 7] [0] _ _ rfl rfl rfl
    refine (ACode_region ?_)
    refine kM 1 rfl ?_
    refine AOps_q 14 _ rfl rfl rfl (QOp_add _ _ _ _ _ _ _ rfl rfl rfl) ?_
    refine kN 1 rfl ?_
    exact ⟨k0, _, _, Nat.lt_succ_self _, Weak_keep 0 hm [0, 1, 5, 6, 7] [0] _ _ rfl rfl rfl, _, _, _, rfl, rfl, h⟩
   refine ACode_exit ?_
   cases h
   exact Weak_keep 0 hm [0, 5, 6] [0] _ _ rfl rfl rfl
 refine kR ?_
 refine kM 3 rfl ?_
 obtain ⟨hc11, h⟩ := guardO h
 refine AOps_q 32 _ rfl rfl rfl (QOp_sslice _ _ _ _ _ (s10.1.toNat) ((p0 : ByteArray).size) rfl Tryz.underlying9 rfl ⟨_, by rw [Int.toNat_of_nonneg (by omega)]; rfl⟩ rfl (Int.toNat_le.2 hc11.2.1) (Nat.le_refl _)) ?_
 refine AOps_buildSlice 33 _ _ _ [_] (stsD ([((p0 : ByteArray).extract (s10.1.toNat) ((p0 : ByteArray).size))])) _ rfl rfl rfl rfl rfl (by decide) Tryz.underlying116 Tryz.sizeOf9 (zero_of Tryz.typeInfo9 rfl) rfl rfl (stsD_one _) ?_
 obtain ⟨hc12, h⟩ := guardO h
 refine AOps_append 34 _ _ _ _ _ _ _ _ _ _ _ _ rfl rfl rfl rfl rfl rfl rfl Tryz.underlying116 Tryz.type9 rfl rfl rfl (by decide) rfl rfl rfl rfl (stsD_one _) (by rw [stsD_length, stsD_length]; exact hc12) ?_
 rw [stsD_app]
 refine kN 1 rfl ?_
 refine ACode_ret ?_
 cases h
 exact ⟨_, _, Weak_reset 0 hm hz [4] _ _ rfl rfl, _, _, [0], _, (.cons (ResV_tmp _ _ rfl) .nil), rfl, rfl, rfl, rfl, rfl⟩

-- loop.example/g01362/spec.l01Number
def spec_l01Number_l0 (p0 : ByteArray) : Nat → Int → Int → Option (Sum (Int) (Int))
 | 0, _, _ => none
 | k0 + 1, x8, x9 => (if decide (x9 < (p0.size : Int)) then ((((if 0 ≤ x9 ∧ x9 < ((p0 : ByteArray).size : Int) then (if decide ((((p0 : ByteArray).data.toList.getD x9.toNat 0).toNat : Int) < 48) then some true else (if 0 ≤ x9 ∧ x9 < ((p0 : ByteArray).size : Int) then some (decide (57 < (((p0 : ByteArray).data.toList.getD x9.toNat 0).toNat : Int))) else none)) else none) : Option (Bool)).bind fun s14 => (if s14 then ((some (.inr (-1))).bind fun rr => some (.inr rr)).bind fun rr => some (.inr rr) else some (.inl ())) : Option (Sum (Unit) (Sum (Unit) (Sum (Int) (Int))))).bind fun os16 => (match os16 with | .inl s16 => (if 0 ≤ x9 ∧ x9 < ((p0 : ByteArray).size : Int) then some (.inl ()) else none) | .inr rr => some rr) : Option (Sum (Unit) (Sum (Int) (Int)))).bind fun os18 => (match os18 with | .inl s18 => spec_l01Number_l0 p0 k0 (w64 ((w64 (x8 * 10)) + (w64 (IntKind.u8.wrap ((((p0 : ByteArray).data.toList.getD x9.toNat 0).toNat : Int) - 48))))) (w64 (x9 + 1)) | .inr rr => some rr) else some (.inl x8))
def spec_l01Number (k : Nat) (p0 : ByteArray) : Option (Int) :=
 (((if decide ((p0.size : Int) = 0) then some true else (if decide (9 < (p0.size : Int)) then some true else (if decide (1 < (p0.size : Int)) then (if 0 ≤ (0 : Int) ∧ 0 < ((p0 : ByteArray).size : Int) then some (decide ((((p0 : ByteArray).data.toList.getD (0 : Int).toNat 0).toNat : Int) = 48)) else none) else some false))) : Option (Bool)).bind fun s5 => (if s5 then some (.inr (-1)) else some (.inl ())) : Option (Sum (Unit) (Int))).bind fun os7 => (match os7 with | .inl s7 => (spec_l01Number_l0 p0 k 0 0 : Option (Sum (Int) (Int))).bind fun os19 => (match os19 with | .inl s19 => some s19 | .inr rr => some rr) | .inr rr => some rr)
set_option maxRecDepth 100000 in
theorem spec_l01Number_ac (k : Nat) (p0 : ByteArray) (r : Int) (h : spec_l01Number k p0 = some r) : AC Tryz.prog 151 [.d (.s (.string p0))] [] (fun res H' => res = [iV r] ∧ H' = []) := by
 refine AC_of_body true Tryz.func151 rfl Tryz.ntmps151 (rvs := [.tmp 2]) rfl rfl (fun G hG => ?_)
 have hm : G.H.length = 0 := by rw [hG]; rfl
 have hz : zeroG G.H = true := by rw [hG]; rfl
 unfold spec_l01Number at h
 refine kR ?_
 refine kN 1 rfl ?_
 refine kO (fun s7 => [(0, .d (.s (.string p0)))]) (fun s7 => []) h (fun os7 h hks7 => ?_) (fun s7 h => ?_)
 ·refine kB (fun s5 => [(0, .d (.s (.string p0))), (22, bV s5)]) (fun s5 => []) h (fun s5 h => ?_) (fun s5 h => ?_)
  ·refine (ACode_region ?_)
   refine kM 1 rfl ?_
   refine AOps_q 6 _ rfl rfl rfl (QOp_len_str _ _ _ _ rfl rfl rfl rfl Tryz.underlying9 rfl) ?_
   refine AOps_q 7 _ rfl rfl rfl (QOp_eql _ _ _ _ _ _ _ rfl rfl rfl) ?_
   refine kM 1 rfl ?_
   refine AOps_case 8 _ rfl (fun hb1 => ?_) (fun hb1 => ?_)
   ·have h := iteT hb1 h
    refine AOps_skip 9 rfl rfl rfl ?_
    refine AOps_skip 10 rfl rfl rfl ?_
    refine AOps_skip 11 rfl rfl rfl ?_
    refine kM 2 rfl ?_
    refine AOps_skip 14 rfl rfl rfl ?_
    refine AOps_skip 15 rfl rfl rfl ?_
    refine AOps_skip 16 rfl rfl rfl ?_
    refine AOps_skip 17 rfl rfl rfl ?_
    refine AOps_skip 18 rfl rfl rfl ?_
    refine AOps_skip 19 rfl rfl rfl ?_
    refine AOps_skip 20 rfl rfl rfl ?_
    refine AOps_skip 21 rfl rfl rfl ?_
    refine kN 1 rfl ?_
    cases h
    exact Weak_keep 0 hm [0, 22] [] _ _ rfl rfl rfl
   have h := iteF hb1 h
   refine kM 1 rfl ?_
   refine AOps_q 10 _ rfl rfl rfl (QOp_len_str _ _ _ _ rfl rfl rfl rfl Tryz.underlying9 rfl) ?_
   refine AOps_q 11 _ rfl rfl rfl (QOp_gtr _ _ _ _ _ _ _ rfl rfl rfl) ?_
   refine kM 2 rfl ?_
   refine AOps_case 13 _ rfl (fun hb2 => ?_) (fun hb2 => ?_)
   ·have h := iteT hb2 h
    refine AOps_skip 14 rfl rfl rfl ?_
    refine AOps_skip 15 rfl rfl rfl ?_
    refine AOps_skip 16 rfl rfl rfl ?_
    refine AOps_skip 17 rfl rfl rfl ?_
    refine AOps_skip 18 rfl rfl rfl ?_
    refine AOps_skip 19 rfl rfl rfl ?_
    refine AOps_skip 20 rfl rfl rfl ?_
    refine AOps_skip 21 rfl rfl rfl ?_
    refine kN 1 rfl ?_
    cases h
    exact Weak_keep 0 hm [0, 22] [] _ _ rfl rfl rfl
   have h := iteF hb2 h
   refine kM 1 rfl ?_
   refine AOps_q 15 _ rfl rfl rfl (QOp_len_str _ _ _ _ rfl rfl rfl rfl Tryz.underlying9 rfl) ?_
   refine AOps_q 16 _ rfl rfl rfl (QOp_gtr _ _ _ _ _ _ _ rfl rfl rfl) ?_
   refine kM 1 rfl ?_
   refine AOps_case 17 _ rfl (fun hb3 => ?_) (fun hb3 => ?_)
   ·have h := iteT hb3 h
    refine kM 1 rfl ?_
    obtain ⟨hc4, h⟩ := guardO h
    refine AOps_q 19 _ rfl rfl rfl (QOp_sindex _ _ _ _ _ _ rfl Tryz.underlying9 hc4.1 hc4.2 rfl rfl) ?_
    refine AOps_q 20 _ rfl rfl rfl (QOp_eql _ _ _ _ _ _ _ rfl rfl rfl) ?_
    refine kN 2 rfl ?_
    cases h
    exact Weak_keep 0 hm [0, 22] [] _ _ rfl rfl rfl
   have h := iteF hb3 h
   refine AOps_skip 18 rfl rfl rfl ?_
   refine AOps_skip 19 rfl rfl rfl ?_
   refine AOps_skip 20 rfl rfl rfl ?_
   refine kN 2 rfl ?_
   cases h
   exact Weak_keep 0 hm [0, 22] [] _ _ rfl rfl rfl
  refine kI h rfl (fun h _ => ?_) (fun h _ => ?_)
  ·refine kR ?_
   refine kN 1 rfl ?_
   refine ACode_ret ?_
   cases h
   have h := hks7
   cases h
   exact ⟨_, _, fun r a w h => ⟨r, h⟩, _, _, [], _, (.cons (ResV_tmp _ _ rfl) .nil), rfl, rfl, rfl, rfl, rfl⟩
  refine ACode_skip ?_
  cases h
  exact ⟨_, rfl, Weak_keep 0 hm [0] [] _ _ rfl rfl rfl⟩
 refine kR ?_
 refine kN 1 rfl ?_
 refine kO (fun s19 => [(3, iV s19)]) (fun s19 => []) h (fun os19 h hks19 => ?_) (fun s19 h => ?_)
 ·refine kR ?_
  refine kN 1 rfl ?_
  refine ACode_block ?_
  refine ACode_loopW (fun k0 E H => ∃ (x8 : Int) (x9 : Int), E = [(0, .d (.s (.string p0))), (3, iV x8), (4, iV x9)] ∧ H = [] ∧ spec_l01Number_l0 p0 k0 x8 x9 = some os19) k _ _ (Weak_keep 0 hm [0, 3, 4] [] _ _ rfl rfl rfl) ⟨_, _, rfl, rfl, h⟩ ?_
  clear h
  rintro k0 E H ⟨x8, x9, rfl, rfl, h⟩
  cases k0 with
  | zero => cases (show (none : Option (Sum (Int) (Int))) = some _ from h)
  | succ k0 =>
   rw [spec_l01Number_l0] at h
   refine ACode_seq ?_
   refine kR ?_
   refine kM 2 rfl ?_
   refine AOps_q 25 _ rfl rfl rfl (QOp_len_str _ _ _ _ rfl rfl rfl rfl Tryz.underlying9 rfl) ?_
   refine AOps_q 26 _ rfl rfl rfl (QOp_lss _ _ _ _ _ _ _ rfl rfl rfl) ?_
   refine AOps_nil ?_
   refine kI h rfl (fun h _ => ?_) (fun h _ => ?_)
   ·refine ACode_skip ?_
    refine kO (fun s18 => [(0, .d (.s (.string p0))), (3, iV (w64 ((w64 (x8 * 10)) + (w64 (IntKind.u8.wrap ((((p0 : ByteArray).data.toList.getD x9.toNat 0).toNat : Int) - 48)))))), (4, iV x9)]) (fun s18 => []) h (fun os18 h hks18 => ?_) (fun s18 h => ?_)
    ·refine ACode_block ?_
     refine kO (fun s16 => [(0, .d (.s (.string p0))), (3, iV x8), (4, iV x9)]) (fun s16 => []) h (fun os16 h hks16 => ?_) (fun s16 h => ?_)
     ·refine kB (fun s14 => [(0, .d (.s (.string p0))), (3, iV x8), (4, iV x9), (38, bV s14)]) (fun s14 => []) h (fun s14 h => ?_) (fun s14 h => ?_)
      ·refine (ACode_region ?_)
       refine kM 2 rfl ?_
       obtain ⟨hc11, h⟩ := guardO h
       refine AOps_q 31 _ rfl rfl rfl (QOp_sindex _ _ _ _ _ _ rfl Tryz.underlying9 hc11.1 hc11.2 rfl rfl) ?_
       refine AOps_q 32 _ rfl rfl rfl (QOp_lss _ _ _ _ _ _ _ rfl rfl rfl) ?_
       refine kM 1 rfl ?_
       refine AOps_case 33 _ rfl (fun hb12 => ?_) (fun hb12 => ?_)
       ·have h := iteT hb12 h
        refine AOps_skip 34 rfl rfl rfl ?_
        refine AOps_skip 35 rfl rfl rfl ?_
        refine AOps_skip 36 rfl rfl rfl ?_
        refine AOps_skip 37 rfl rfl rfl ?_
        refine kN 1 rfl ?_
        cases h
        exact Weak_keep 0 hm [0, 3, 4, 38] [] _ _ rfl rfl rfl
       have h := iteF hb12 h
       refine kM 2 rfl ?_
       obtain ⟨hc13, h⟩ := guardO h
       refine AOps_q 36 _ rfl rfl rfl (QOp_sindex _ _ _ _ _ _ rfl Tryz.underlying9 hc13.1 hc13.2 rfl rfl) ?_
       refine AOps_q 37 _ rfl rfl rfl (QOp_gtr _ _ _ _ _ _ _ rfl rfl rfl) ?_
       refine kN 1 rfl ?_
       cases h
       exact Weak_keep 0 hm [0, 3, 4, 38] [] _ _ rfl rfl rfl
      refine kI h rfl (fun h _ => ?_) (fun h _ => ?_)
      ·refine kR ?_
       refine kN 1 rfl ?_
       refine ACode_ret ?_
       obtain ⟨rr, hz21, h2⟩ := bindO h
       obtain rfl := Option.some.inj h2
       obtain rfl := Option.some.inj (show some rr = some _ from hks16)
       have h := hz21
       obtain ⟨rr, hz20, h2⟩ := bindO h
       obtain rfl := Option.some.inj h2
       obtain rfl := Option.some.inj (show some rr = some _ from hks18)
       have h := hz20
       cases h
       have h := hks19
       cases h
       exact ⟨_, _, fun r a w h => ⟨r, h⟩, _, _, [], _, (.cons (ResV_tmp _ _ rfl) .nil), rfl, rfl, rfl, rfl, rfl⟩
      refine ACode_skip ?_
      cases h
      exact ⟨_, rfl, Weak_keep 0 hm [0, 3, 4] [] _ _ rfl rfl rfl⟩
     refine (ACode_region ?_)
     refine kM 1 rfl ?_
     refine AOps_q 40 _ rfl rfl rfl (QOp_mul _ _ _ _ _ _ _ rfl rfl rfl) ?_
     refine kM 2 rfl ?_
     obtain ⟨hc17, h⟩ := guardO h
     refine AOps_q 43 _ rfl rfl rfl (QOp_sindex _ _ _ _ _ _ rfl Tryz.underlying9 hc17.1 hc17.2 rfl rfl) ?_
     refine AOps_q 44 _ rfl rfl rfl (QOp_sub _ _ _ _ _ _ _ rfl rfl rfl) ?_
     refine AOps_q 45 _ rfl rfl rfl (QOp_conv _ _ _ _ _ _ rfl rfl Tryz.underlying2 rfl) ?_
     refine AOps_q 46 _ rfl rfl rfl (QOp_add _ _ _ _ _ _ _ rfl rfl rfl) ?_
     refine kN 1 rfl ?_
     cases h
     exact ⟨_, rfl, Weak_keep 0 hm [0, 3, 4] [] _ _ rfl rfl rfl⟩
    refine (ACode_region ?_)
    refine kM 1 rfl ?_
    refine AOps_q 28 _ rfl rfl rfl (QOp_add _ _ _ _ _ _ _ rfl rfl rfl) ?_
    refine kN 1 rfl ?_
    exact ⟨k0, _, _, Nat.lt_succ_self _, Weak_keep 0 hm [0, 3, 4] [] _ _ rfl rfl rfl, _, _, rfl, rfl, h⟩
   refine ACode_exit ?_
   cases h
   exact ⟨_, rfl, Weak_keep 0 hm [3] [] _ _ rfl rfl rfl⟩
 refine kR ?_
 refine kN 2 rfl ?_
 refine ACode_ret ?_
 cases h
 exact ⟨_, _, fun r a w h => ⟨r, h⟩, _, _, [], _, (.cons (ResV_tmp _ _ rfl) .nil), rfl, rfl, rfl, rfl, rfl⟩

-- loop.example/g01362/spec.l09Read
def spec_l09Read_l0 (r1 : List ByteArray) : Nat → Int → (List Int) → Option (Sum (List Int) (Int × List Int × Bool))
 | 0, _, _ => none
 | k0 + 1, x3, x4 => (if 0 ≤ (1 : Int) ∧ (1 : Int) < (r1.length : Int) then (if decide (x3 < ((r1.getD (1 : Int).toNat ByteArray.empty).size : Int)) then ((if 0 ≤ (1 : Int) ∧ (1 : Int) < (r1.length : Int) then (if 0 ≤ x3 ∧ x3 < (((r1.getD (1 : Int).toNat ByteArray.empty) : ByteArray).size : Int) then (if decide (((((r1.getD (1 : Int).toNat ByteArray.empty) : ByteArray).data.toList.getD x3.toNat 0).toNat : Int) = 46) then (if x4.length + ([(-1)]).length ≤ 1099511627776 then some (.inl (x4 ++ ([(-1)]))) else none) else (if decide (((((r1.getD (1 : Int).toNat ByteArray.empty) : ByteArray).data.toList.getD x3.toNat 0).toNat : Int) = 48) then (if x4.length + ([0]).length ≤ 1099511627776 then some (.inl (x4 ++ ([0]))) else none) else (if decide (((((r1.getD (1 : Int).toNat ByteArray.empty) : ByteArray).data.toList.getD x3.toNat 0).toNat : Int) = 49) then (if x4.length + ([1]).length ≤ 1099511627776 then some (.inl (x4 ++ ([1]))) else none) else (some (.inr (0, [], false))).bind fun rr => some (.inr rr)))) else none) else none) : Option (Sum (List Int) (Sum (List Int) (Int × List Int × Bool)))).bind fun os15 => (match os15 with | .inl s15 => spec_l09Read_l0 r1 k0 (w64 (x3 + 1)) s15 | .inr rr => some rr) else some (.inl x4)) else none)
def spec_l09Read (k : Nat) (p0 : ByteArray) : Option (Int × List Int × Bool) :=
 (spec_l01Split k p0 58).bind fun r1 => (if !decide ((r1.length : Int) = 2) then some (0, [], false) else (spec_l09Read_l0 r1 k 0 ([] : List Int) : Option (Sum (List Int) (Int × List Int × Bool))).bind fun os16 => (match os16 with | .inl s16 => (if 0 ≤ (0 : Int) ∧ (0 : Int) < (r1.length : Int) then (spec_l01Number k (r1.getD (0 : Int).toNat ByteArray.empty)).bind fun r18 => (spec_l09Code k r18 s16).bind fun r19 => (if !decide (r19 = 0) then some (0, [], false) else some (r18, s16, true)) else none) | .inr rr => some rr))
set_option maxRecDepth 100000 in
theorem spec_l09Read_ac (k : Nat) (p0 : ByteArray) (r : Int × List Int × Bool) (h : spec_l09Read k p0 = some r) : AC Tryz.prog 133 [.d (.s (.string p0))] [] (fun res H' => res = [iV r.1, .d (.sl none (intsD r.2.1)), bV r.2.2] ∧ H' = []) := by
 refine AC_of_body true Tryz.func133 rfl Tryz.ntmps133 (rvs := [.tmp 2, .tmp 3, .tmp 4]) rfl rfl (fun G hG => ?_)
 have hm : G.H.length = 0 := by rw [hG]; rfl
 have hz : zeroG G.H = true := by rw [hG]; rfl
 unfold spec_l09Read at h
 refine kR ?_
 refine kN 3 rfl ?_
 refine kR ?_
 refine kM 1 rfl ?_
 obtain ⟨r1, hr1, h⟩ := bindO h
 refine kC [] 10 (.vec 0 0) [.vec 0 (stsD r1)] rfl Tryz.call150 rfl rfl (spec_l01Split_ac k p0 58 _ hr1) rfl ?_
 refine AOps_buildSlice 11 _ _ _ [] (intsD ([] : List Int)) _ rfl rfl rfl rfl rfl (by decide) Tryz.underlying34 Tryz.sizeOf2 (zero_of Tryz.typeInfo2 rfl) rfl rfl (intsD_one _) ?_
 refine kN 2 rfl ?_
 refine ACode_seq ?_
 refine kR ?_
 refine kM 1 rfl ?_
 refine AOps_q 13 _ rfl rfl rfl (QOp_len_vec _ _ _ _ _ _ _ _ (stsD_length _) rfl rfl rfl rfl Tryz.underlying116 rfl rfl) ?_
 refine AOps_q 14 _ rfl rfl rfl (QOp_neq _ _ _ _ _ _ _ rfl rfl rfl) ?_
 refine AOps_nil ?_
 refine kI h rfl (fun h _ => ?_) (fun h _ => ?_)
 ·refine kR ?_
  refine kN 3 rfl ?_
  refine ACode_ret ?_
  cases h
  exact ⟨_, _, fun r a w h => ⟨r, h⟩, _, _, [], _, (.cons (ResV_tmp _ _ rfl) (.cons (ResV_tmp _ _ rfl) (.cons (ResV_tmp _ _ rfl) .nil))), rfl, rfl, rfl, rfl, rfl⟩
 refine ACode_skip ?_
 refine kO (fun s16 => [(5, .vec 0 0), (6, .vec 1 0)]) (fun s16 => [.vec 0 (stsD r1), .vec 0 (intsD s16)]) h (fun os16 h hks16 => ?_) (fun s16 h => ?_)
 ·refine kR ?_
  refine kN 1 rfl ?_
  refine ACode_block ?_
  refine ACode_loopW (fun k0 E H => ∃ (x3 : Int) (x4 : List Int), E = [(5, .vec 0 0), (6, .vec 1 0), (7, iV x3)] ∧ H = [.vec 0 (stsD r1), .vec 0 (intsD x4)] ∧ spec_l09Read_l0 r1 k0 x3 x4 = some os16) k _ _ (Weak_keep 0 hm [5, 6, 7] [0, 1] _ _ rfl rfl rfl) ⟨_, _, rfl, rfl, h⟩ ?_
  clear h
  rintro k0 E H ⟨x3, x4, rfl, rfl, h⟩
  cases k0 with
  | zero => cases (show (none : Option (Sum (List Int) (Int × List Int × Bool))) = some _ from h)
  | succ k0 =>
   rw [spec_l09Read_l0] at h
   refine ACode_seq ?_
   refine kR ?_
   refine kM 2 rfl ?_
   obtain ⟨hc5, h⟩ := guardO h
   refine AOps_q 17 _ rfl rfl rfl (QOp_indexAddr_vec _ _ _ _ _ _ _ _ _ rfl Tryz.underlying116 Tryz.sizeOf9 hc5.1 (by rw [stsD_length]; exact hc5.2) rfl rfl rfl) ?_
   refine AOps_q 18 _ rfl rfl rfl (QOp_load_eptr _ _ _ _ _ _ _ rfl Tryz.isAgg9 rfl rfl (stsD_get _ _ ByteArray.empty (by omega))) ?_
   refine AOps_q 19 _ rfl rfl rfl (QOp_len_str _ _ _ _ rfl rfl rfl rfl Tryz.underlying9 rfl) ?_
   refine AOps_q 20 _ rfl rfl rfl (QOp_lss _ _ _ _ _ _ _ rfl rfl rfl) ?_
   refine AOps_nil ?_
   refine kI h rfl (fun h _ => ?_) (fun h _ => ?_)
   ·refine ACode_skip ?_
    refine kO (fun s15 => [(5, .vec 0 0), (6, .vec 1 0), (7, iV x3)]) (fun s15 => [.vec 0 (stsD r1), .vec 0 (intsD s15)]) h (fun os15 h hks15 => ?_) (fun s15 h => ?_)
    ·refine ACode_block ?_
     refine kR ?_
     refine kM 1 rfl ?_
     obtain ⟨hc7, h⟩ := guardO h
     refine AOps_q 24 _ rfl rfl rfl (QOp_indexAddr_vec _ _ _ _ _ _ _ _ _ rfl Tryz.underlying116 Tryz.sizeOf9 hc7.1 (by rw [stsD_length]; exact hc7.2) rfl rfl rfl) ?_
     refine AOps_q 25 _ rfl rfl rfl (QOp_load_eptr _ _ _ _ _ _ _ rfl Tryz.isAgg9 rfl rfl (stsD_get _ _ ByteArray.empty (by omega))) ?_
     refine kM 1 rfl ?_
     obtain ⟨hc8, h⟩ := guardO h
     refine AOps_q 27 _ rfl rfl rfl (QOp_sindex _ _ _ _ _ _ rfl Tryz.underlying9 hc8.1 hc8.2 rfl rfl) ?_
     refine AOps_nil ?_
     refine ACode_block ?_
     refine kR ?_
     refine AOps_q 29 _ rfl rfl rfl (QOp_eql _ _ _ _ _ _ _ rfl rfl rfl) ?_
     refine kN 1 rfl ?_
     refine kI h rfl (fun h _ => ?_) (fun h _ => ?_)
     ·refine (ACode_region ?_)
      refine kM 1 rfl ?_
      refine AOps_buildSlice 31 _ _ _ [_] (intsD ([(-1)])) _ rfl rfl rfl rfl rfl (by decide) Tryz.underlying34 Tryz.sizeOf2 (zero_of Tryz.typeInfo2 rfl) rfl rfl (intsD_one _) ?_
      obtain ⟨hc10, h⟩ := guardO h
      refine AOps_append 32 _ _ _ _ _ _ _ _ _ _ _ _ rfl rfl rfl rfl rfl rfl rfl Tryz.underlying34 Tryz.type2 rfl rfl rfl (by decide) rfl rfl rfl rfl (intsD_one _) (by rw [intsD_length, intsD_length]; exact hc10) ?_
      rw [intsD_app]
      refine kN 1 rfl ?_
      cases h
      exact ⟨_, rfl, Weak_trans (Weak_keep 0 hm [5, 6, 7] [0, 1] _ _ rfl rfl rfl) (Weak_reset 0 hm hz [5, 6, 7] _ _ rfl rfl)⟩
     refine kR ?_
     refine AOps_q 34 _ rfl rfl rfl (QOp_eql _ _ _ _ _ _ _ rfl rfl rfl) ?_
     refine kN 1 rfl ?_
     refine kI h rfl (fun h _ => ?_) (fun h _ => ?_)
     ·refine (ACode_region ?_)
      refine kM 1 rfl ?_
      refine AOps_buildSlice 36 _ _ _ [_] (intsD ([0])) _ rfl rfl rfl rfl rfl (by decide) Tryz.underlying34 Tryz.sizeOf2 (zero_of Tryz.typeInfo2 rfl) rfl rfl (intsD_one _) ?_
      obtain ⟨hc12, h⟩ := guardO h
      refine AOps_append 37 _ _ _ _ _ _ _ _ _ _ _ _ rfl rfl rfl rfl rfl rfl rfl Tryz.underlying34 Tryz.type2 rfl rfl rfl (by decide) rfl rfl rfl rfl (intsD_one _) (by rw [intsD_length, intsD_length]; exact hc12) ?_
      rw [intsD_app]
      refine kN 1 rfl ?_
      cases h
      exact ⟨_, rfl, Weak_trans (Weak_keep 0 hm [5, 6, 7] [0, 1] _ _ rfl rfl rfl) (Weak_reset 0 hm hz [5, 6, 7] _ _ rfl rfl)⟩
     refine kR ?_
     refine AOps_q 39 _ rfl rfl rfl (QOp_eql _ _ _ _ _ _ _ rfl rfl rfl) ?_
     refine kN 1 rfl ?_
     refine kI h rfl (fun h _ => ?_) (fun h _ => ?_)
     ·refine (ACode_region ?_)
      refine kM 1 rfl ?_
      refine AOps_buildSlice 41 _ _ _ [_] (intsD ([1])) _ rfl rfl rfl rfl rfl (by decide) Tryz.underlying34 Tryz.sizeOf2 (zero_of Tryz.typeInfo2 rfl) rfl rfl (intsD_one _) ?_
      obtain ⟨hc14, h⟩ := guardO h
      refine AOps_append 42 _ _ _ _ _ _ _ _ _ _ _ _ rfl rfl rfl rfl rfl rfl rfl Tryz.underlying34 Tryz.type2 rfl rfl rfl (by decide) rfl rfl rfl rfl (intsD_one _) (by rw [intsD_length, intsD_length]; exact hc14) ?_
      rw [intsD_app]
      refine kN 1 rfl ?_
      cases h
      exact ⟨_, rfl, Weak_trans (Weak_keep 0 hm [5, 6, 7] [0, 1] _ _ rfl rfl rfl) (Weak_reset 0 hm hz [5, 6, 7] _ _ rfl rfl)⟩
     refine kR ?_
     refine kN 3 rfl ?_
     refine ACode_ret ?_
     obtain ⟨rr, hz21, h2⟩ := bindO h
     obtain rfl := Option.some.inj h2
     obtain rfl := Option.some.inj (show some rr = some _ from hks15)
     have h := hz21
     cases h
     have h := hks16
     cases h
     exact ⟨_, _, fun r a w h => ⟨r, h⟩, _, _, [], _, (.cons (ResV_tmp _ _ rfl) (.cons (ResV_tmp _ _ rfl) (.cons (ResV_tmp _ _ rfl) .nil))), rfl, rfl, rfl, rfl, rfl⟩
    refine (ACode_region ?_)
    refine kM 1 rfl ?_
    refine AOps_q 22 _ rfl rfl rfl (QOp_add _ _ _ _ _ _ _ rfl rfl rfl) ?_
    refine kN 1 rfl ?_
    exact ⟨k0, _, _, Nat.lt_succ_self _, Weak_keep 0 hm [5, 6, 7] [0, 1] _ _ rfl rfl rfl, _, _, rfl, rfl, h⟩
   refine ACode_exit ?_
   cases h
   exact ⟨_, rfl, Weak_keep 0 hm [5, 6] [0, 1] _ _ rfl rfl rfl⟩
 refine kR ?_
 refine kM 1 rfl ?_
 obtain ⟨hc17, h⟩ := guardO h
 refine AOps_q 44 _ rfl rfl rfl (QOp_indexAddr_vec _ _ _ _ _ _ _ _ _ rfl Tryz.underlying116 Tryz.sizeOf9 hc17.1 (by rw [stsD_length]; exact hc17.2) rfl rfl rfl) ?_
 refine AOps_q 45 _ rfl rfl rfl (QOp_load_eptr _ _ _ _ _ _ _ rfl Tryz.isAgg9 rfl rfl (stsD_get _ _ ByteArray.empty (by omega))) ?_
 obtain ⟨r18, hr18, h⟩ := bindO h
 refine kC [] 46 (iV r18) [.vec 0 (stsD r1), .vec 0 (intsD s16)] rfl Tryz.call151 rfl rfl (spec_l01Number_ac k (r1.getD (0 : Int).toNat ByteArray.empty) _ hr18) rfl ?_
 refine kN 1 rfl ?_
 refine ACode_seq ?_
 refine kR ?_
 refine kM 2 rfl ?_
 obtain ⟨r19, hr19, h⟩ := bindO h
 refine AOps_callL [] 49 _ _ _ _ _ _ _ _ _ _ rfl rfl rfl rfl rfl rfl rfl Tryz.call110 rfl (nodupB_sound _ rfl) rfl rfl rfl (spec_l09Code_ac k r18 s16 _ hr19) ?_
 rintro _ _ ⟨rfl, rfl⟩
 refine ⟨(fun _ h => nomatch h), (allc (flat_s _) (fun _ h => nomatch h)), AOps_as 49 (v' := iV r19) (H' := [.vec 0 (stsD r1), .vec 0 (intsD s16)]) rfl rfl ?_⟩
 refine AOps_q 50 _ rfl rfl rfl (QOp_neq _ _ _ _ _ _ _ rfl rfl rfl) ?_
 refine AOps_nil ?_
 refine kI h rfl (fun h _ => ?_) (fun h _ => ?_)
 ·refine kR ?_
  refine kN 3 rfl ?_
  refine ACode_ret ?_
  cases h
  exact ⟨_, _, fun r a w h => ⟨r, h⟩, _, _, [], _, (.cons (ResV_tmp _ _ rfl) (.cons (ResV_tmp _ _ rfl) (.cons (ResV_tmp _ _ rfl) .nil))), rfl, rfl, rfl, rfl, rfl⟩
 refine ACode_skip ?_
 refine kR ?_
 refine kN 5 rfl ?_
 refine ACode_ret ?_
 cases h
 exact ⟨_, _, fun r a w h => ⟨r, h⟩, _, _, [], _, (.cons (ResV_tmp _ _ rfl) (.cons (ResV_tmp _ _ rfl) (.cons (ResV_tmp _ _ rfl) .nil))), rfl, rfl, rfl, rfl, rfl⟩

-- loop.example/g01362/spec.ParsePosition
def spec_ParsePosition (k : Nat) (p0 : ByteArray) : Option (Int × List Int × Int) :=
 (spec_l09Read k p0).bind fun r1 => (if !r1.2.2 then some (0, [], 6) else some (r1.1, r1.2.1, 0))
set_option maxRecDepth 100000 in
theorem spec_ParsePosition_ac (k : Nat) (p0 : ByteArray) (r : Int × List Int × Int) (h : spec_ParsePosition k p0 = some r) : AC Tryz.prog 55 [.d (.s (.string p0))] [] (fun res H' => res = [iV r.1, .d (.sl none (intsD r.2.1)), iV r.2.2] ∧ H' = []) := by
 refine AC_of_body true Tryz.func55 rfl Tryz.ntmps55 (rvs := [.tmp 2, .tmp 3, .tmp 4]) rfl rfl (fun G hG => ?_)
 have hm : G.H.length = 0 := by rw [hG]; rfl
 have hz : zeroG G.H = true := by rw [hG]; rfl
 unfold spec_ParsePosition at h
 refine kR ?_
 refine kN 3 rfl ?_
 refine kR ?_
 refine kM 1 rfl ?_
 obtain ⟨r1, hr1, h⟩ := bindO h
 refine kC [] 10 (.tup [iV r1.1, .d (.sl none (intsD r1.2.1)), bV r1.2.2]) [] rfl Tryz.call133 rfl rfl (spec_l09Read_ac k p0 _ hr1) rfl ?_
 refine kN 7 rfl ?_
 refine ACode_seq ?_
 refine kR ?_
 refine kM 1 rfl ?_
 refine AOps_q 15 _ rfl rfl rfl (QOp_not _ _ _ rfl rfl) ?_
 refine AOps_nil ?_
 refine kI h rfl (fun h _ => ?_) (fun h _ => ?_)
 ·refine kR ?_
  refine kN 3 rfl ?_
  refine ACode_ret ?_
  cases h
  exact ⟨_, _, fun r a w h => ⟨r, h⟩, _, _, [], _, (.cons (ResV_tmp _ _ rfl) (.cons (ResV_tmp _ _ rfl) (.cons (ResV_tmp _ _ rfl) .nil))), rfl, rfl, rfl, rfl, rfl⟩
 refine ACode_skip ?_
 refine kR ?_
 refine kN 5 rfl ?_
 refine ACode_ret ?_
 cases h
 exact ⟨_, _, fun r a w h => ⟨r, h⟩, _, _, [], _, (.cons (ResV_tmp _ _ rfl) (.cons (ResV_tmp _ _ rfl) (.cons (ResV_tmp _ _ rfl) .nil))), rfl, rfl, rfl, rfl, rfl⟩

end Go.Proofs.YtkonbaijkcaehaaGreatDoor
