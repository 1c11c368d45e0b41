/- Plain functions of the program and that the program computes them: printed by the own tool gen.py. No conditions. -/
import Derived.Test.YtfnbhfobgimnjaaCloV
import Derived.Test.YtfnbhfobgimnjaaSrc
import Derived.Test.YtfnbhfobgimnjaaAb24
import Derived.Test.YtfnbhfobgimnjaaAb23
import Derived.Test.YtfnbhfobgimnjaaAb18
import Derived.Test.YtfnbhfobgimnjaaAb27
import Derived.Test.YtfnbhfobgimnjaaGenC
set_option linter.unusedVariables false
set_option linter.unusedSimpArgs false
namespace Go.Proofs.Ytfnbhfobgimnjaa
open Go Go.RowKit Ab

-- loop.example/g01362/laws.big
def laws_big (p0 : List UInt8) : Bool :=
 decide (4096 < (p0.length : Int))
set_option maxRecDepth 100000 in
theorem laws_big_ac (p0 : List UInt8) : AC Try.prog 5 [.d (.sl none (bysD p0))] [] (fun res H' => res = [bV (laws_big p0)] ∧ H' = []) := by
 refine AC_of_body true Try.func5 rfl Try.ntmps5 (rvs := [.tmp 2]) rfl rfl (fun G hG => ?_)
 have hm : G.H.length = 0 := by rw [hG]; rfl
 have hz : zeroG G.H = true := by rw [hG]; rfl
 obtain ⟨r, h⟩ : ∃ r, laws_big p0 = r := ⟨_, rfl⟩
 rw [h]
 unfold laws_big at h
 refine kR ?_
 refine kN 1 rfl ?_
 refine kR ?_
 refine kM 1 rfl ?_
 refine AOps_q 4 _ rfl rfl rfl (QOp_len_sl _ _ _ _ _ _ _ (bysD_length _) rfl rfl rfl rfl Try.underlying22 rfl) ?_
 refine AOps_q 5 _ rfl rfl rfl (QOp_gtr _ _ _ _ _ _ _ rfl rfl rfl) ?_
 refine kN 1 rfl ?_
 refine ACode_ret ?_
 cases h
 exact ⟨_, _, fun r a w h => ⟨r, h⟩, _, _, [], _, (.cons (ResV_tmp _ _ rfl) .nil), rfl, rfl, rfl, rfl, rfl⟩

-- loop.example/g01362/spec.l01From
def spec_l01From_l0 (p0 : List UInt8) : Nat → Int → Src → Option (Src)
 | 0, _, _ => none
 | k0 + 1, x1, x2 => (letO (if decide (x1 < (p0.length : Int)) then decide (x1 < 4096) else false) fun (s4 : Bool) => (if s4 then some (.inl ()) else (some x2).bind fun rr => some (.inr rr)) : Option (Sum (Unit) (Src))).bind fun os6 => (match os6 with | .inl s6 => (if 0 ≤ x1 ∧ x1 < (p0.length : Int) then spec_l01From_l0 p0 k0 (w64 (x1 + 1)) (⟨x2.c, x2.i, IntKind.u64.wrap ((IntKind.u64.wrap ((IntKind.u64.wrap (x2.h * 1099511628211)) + ((p0.getD x1.toNat 0).toNat : Int))) + 193)⟩ : Src) else none) | .inr rr => some rr)
def spec_l01From (k : Nat) (p0 : List UInt8) : Option (Src) :=
 (spec_l01From_l0 p0 k 0 (⟨p0, 0, IntKind.u64.wrap (13621 + (IntKind.u64.wrap (p0.length : Int)))⟩ : Src) : Option (Src)).bind fun s8 => some s8
set_option maxRecDepth 100000 in
theorem spec_l01From_ac (k : Nat) (p0 : List UInt8) (r : Src) (h : spec_l01From k p0 = some r) : AC Try.prog 33 [.d (.sl none (bysD p0))] [] (fun res H' => res = [.ptr 0 0] ∧ H' = [.box (srcD r)]) := by
 refine AC_of_body true Try.func33 rfl Try.ntmps33 (rvs := [.tmp 2]) rfl rfl (fun G hG => ?_)
 have hm : G.H.length = 0 := by rw [hG]; rfl
 have hz : zeroG G.H = true := by rw [hG]; rfl
 unfold spec_l01From at h
 refine kR ?_
 refine kN 1 rfl ?_
 refine kR ?_
 refine kM 2 rfl ?_
 refine AOps_q 7 _ rfl rfl rfl (QOp_len_sl _ _ _ _ _ _ _ (bysD_length _) rfl rfl rfl rfl Try.underlying22 rfl) ?_
 refine AOps_q 8 _ rfl rfl rfl (QOp_conv _ _ _ _ _ _ rfl rfl Try.underlying93 rfl) ?_
 refine AOps_q 9 _ rfl rfl rfl (QOp_add _ _ _ _ _ _ _ rfl rfl rfl) ?_
 refine AOps_q 10 _ rfl rfl rfl (QOp_build _ _ [_, _] [0, 2] [.sl none (bysD p0), .s (.int .u64 (IntKind.u64.wrap (13621 + (IntKind.u64.wrap (p0.length : Int)))))] _ [.sl (some true) [], iD 0, .s (.int .u64 0)] (srcD (⟨p0, 0, IntKind.u64.wrap (13621 + (IntKind.u64.wrap (p0.length : Int)))⟩ : Src)) [(0, 1), (1, 1), (2, 1)] rfl rfl Try.underlying100 (zero_of Try.typeInfo100 rfl) (fun w => by simp [Try.sizeOf22, Try.sizeOf3, Try.sizeOf93]) rfl (by rfl) (by rfl) (allc (ok1 rfl) (allc (ok1 rfl) (fun _ h => nomatch h)))) ?_
 refine AOps_boxM 11 _ _ (.agg (srcD (⟨p0, 0, IntKind.u64.wrap (13621 + (IntKind.u64.wrap (p0.length : Int)))⟩ : Src))) (srcD (⟨p0, 0, IntKind.u64.wrap (13621 + (IntKind.u64.wrap (p0.length : Int)))⟩ : Src)) rfl (srcD_one _) rfl rfl rfl rfl rfl ?_
 refine kN 1 rfl ?_
 refine kB (fun s8 => [(3, .ptr 0 0)]) (fun s8 => [.box (srcD s8)]) h (fun s8 h => ?_) (fun s8 h => ?_)
 ·refine kR ?_
  refine kN 1 rfl ?_
  refine ACode_block ?_
  refine ACode_loopW (fun k0 E H => ∃ (x1 : Int) (x2 : Src), E = [(0, .d (.sl none (bysD p0))), (3, .ptr 0 0), (4, iV x1)] ∧ H = [.box (srcD x2)] ∧ spec_l01From_l0 p0 k0 x1 x2 = some s8) k _ _ (Weak_keep 0 hm [0, 3, 4] [0] _ _ rfl rfl rfl) ⟨_, _, rfl, rfl, h⟩ ?_
  clear h
  rintro k0 E H ⟨x1, x2, rfl, rfl, h⟩
  cases k0 with
  | zero => cases (show (none : Option (Src)) = some _ from h)
  | succ k0 =>
   rw [spec_l01From_l0] at h
   refine kO (fun s6 => [(0, .d (.sl none (bysD p0))), (3, .ptr 0 0), (4, iV x1)]) (fun s6 => [.box (srcD x2)]) h (fun os6 h hks6 => ?_) (fun s6 h => ?_)
   ·refine kL (fun s4 => [(0, .d (.sl none (bysD p0))), (3, .ptr 0 0), (4, iV x1), (19, bV s4)]) (fun s4 => [.box (srcD x2)]) h (fun s4 h => ?_) (fun s4 h => ?_)
    ·refine (ACode_region ?_)
     refine kM 2 rfl ?_
     refine AOps_q 14 _ rfl rfl rfl (QOp_len_sl _ _ _ _ _ _ _ (bysD_length _) rfl rfl rfl rfl Try.underlying22 rfl) ?_
     refine AOps_q 15 _ rfl rfl rfl (QOp_lss _ _ _ _ _ _ _ rfl rfl rfl) ?_
     refine kM 1 rfl ?_
     refine AOps_case 16 _ rfl (fun hb3 => ?_) (fun hb3 => ?_)
     ·have h := iteT hb3 h
      refine kM 1 rfl ?_
      refine AOps_q 18 _ rfl rfl rfl (QOp_lss _ _ _ _ _ _ _ rfl rfl rfl) ?_
      refine kN 1 rfl ?_
      cases h
      exact Weak_keep 0 hm [0, 3, 4, 19] [0] _ _ rfl rfl rfl
     have h := iteF hb3 h
     refine AOps_skip 17 rfl rfl rfl ?_
     refine AOps_skip 18 rfl rfl rfl ?_
     refine kN 1 rfl ?_
     cases h
     exact Weak_keep 0 hm [0, 3, 4, 19] [0] _ _ rfl rfl rfl
    refine kI h rfl (fun h _ => ?_) (fun h _ => ?_)
    ·refine ACode_skip ?_
     cases h
     exact ⟨_, rfl, Weak_keep 0 hm [0, 3, 4] [0] _ _ rfl rfl rfl⟩
    refine ACode_exit ?_
    obtain ⟨rr, hz9, h2⟩ := bindO h
    obtain rfl := Option.some.inj h2
    obtain rfl := Option.some.inj (show some rr = some _ from hks6)
    have h := hz9
    cases h
    exact Weak_keep 0 hm [3] [0] _ _ rfl rfl rfl
   refine ACode_seq ?_
   refine ACode_block ?_
   refine (ACode_last (l := [_, _, _, _, _, _, _, _, _, _, _, _, _, _, _]) mixed (by kernel_rfl) (by kernel_rfl) ?_)
   refine kQ 2 rfl ?_
   refine AQ_q 24 _ rfl rfl rfl (QOp_nilCheck_ptr _ _ _ _ rfl rfl rfl rfl) ?_
   refine AQ_q 25 _ rfl rfl rfl (QOp_fieldAddr_ptr _ _ _ _ _ _ 2 _ _ rfl Try.underlying100 rfl _ Try.sizeOf93 rfl rfl rfl rfl) ?_
   refine AQ_q 26 _ rfl rfl rfl (QOp_load_ptr _ _ _ _ _ _ rfl Try.isAgg93 rfl rfl rfl) ?_
   refine AQ_q 27 _ rfl rfl rfl (QOp_mul _ _ _ _ _ _ _ rfl rfl rfl) ?_
   refine kQ 2 rfl ?_
   obtain ⟨hc7, h⟩ := guardO h
   refine AQ_q 30 _ rfl rfl rfl (QOp_indexAddr_sl _ _ _ _ _ _ _ _ rfl Try.underlying22 Try.sizeOf5 hc7.1 (by rw [bysD_length]; exact hc7.2) rfl rfl) ?_
   refine AQ_q 31 _ rfl rfl rfl (QOp_load_pv _ _ _ _ _ rfl Try.isAgg5 rfl (bysD_get _ _ 0 (by omega))) ?_
   refine AQ_q 32 _ rfl rfl rfl (QOp_fromByte _ _ _ _ _ rfl rfl Try.underlying93 wrap_u64_byte rfl) ?_
   refine AQ_q 33 _ rfl rfl rfl (QOp_add _ _ _ _ _ _ _ rfl rfl rfl) ?_
   refine AQ_q 34 _ rfl rfl rfl (QOp_add _ _ _ _ _ _ _ rfl rfl rfl) ?_
   refine AQ_q 35 _ rfl rfl rfl (QOp_nilCheck_ptr _ _ _ _ rfl rfl rfl rfl) ?_
   refine AQ_q 36 _ rfl rfl rfl (QOp_fieldAddr_ptr _ _ _ _ _ _ 2 _ _ rfl Try.underlying100 rfl _ Try.sizeOf93 rfl rfl rfl rfl) ?_
   refine AQ_nil ?_
   refine AOps_store1 _ _ _ _ _ _ (srcD (⟨x2.c, x2.i, IntKind.u64.wrap ((IntKind.u64.wrap ((IntKind.u64.wrap (x2.h * 1099511628211)) + ((p0.getD x1.toNat 0).toNat : Int))) + 193)⟩ : Src)) _ rfl rfl rfl rfl rfl rfl rfl Try.sizeOf93 (by rw [srcD_length]; decide) (srcD_set2 _ _) ?_
   refine AOps_nil ?_
   refine (ACode_region ?_)
   refine kM 1 rfl ?_
   refine AOps_q 21 _ rfl rfl rfl (QOp_add _ _ _ _ _ _ _ rfl rfl rfl) ?_
   refine kN 1 rfl ?_
   exact ⟨k0, _, _, Nat.lt_succ_self _, Weak_keep 0 hm [0, 3, 4] [0] _ _ rfl rfl rfl, _, _, rfl, rfl, h⟩
 refine kR ?_
 refine kN 2 rfl ?_
 refine ACode_ret ?_
 cases h
 exact ⟨_, _, Weak_reset 0 hm hz [2] _ _ rfl rfl, _, _, [0], _, (.cons (ResV_tmp _ _ rfl) .nil), rfl, rfl, rfl, rfl, rfl⟩

-- loop.example/g01362/spec.l01Next
def spec_l01Next (p0 : Src) (p1 : Int) : Option (Int × Src) :=
 (if decide (p1 < 1) then some (0, p0) else ((if decide ((⟨p0.c, p0.i, IntKind.u64.wrap ((IntKind.u64.wrap (p0.h * 6364136223846793005)) + 1442695040888963407)⟩ : Src).i < (((⟨p0.c, p0.i, IntKind.u64.wrap ((IntKind.u64.wrap (p0.h * 6364136223846793005)) + 1442695040888963407)⟩ : Src).c).length : Int)) then (if 0 ≤ (⟨p0.c, p0.i, IntKind.u64.wrap ((IntKind.u64.wrap (p0.h * 6364136223846793005)) + 1442695040888963407)⟩ : Src).i ∧ (⟨p0.c, p0.i, IntKind.u64.wrap ((IntKind.u64.wrap (p0.h * 6364136223846793005)) + 1442695040888963407)⟩ : Src).i < (((⟨p0.c, p0.i, IntKind.u64.wrap ((IntKind.u64.wrap (p0.h * 6364136223846793005)) + 1442695040888963407)⟩ : Src).c).length : Int) then some (w64 ((w64 (bAnd .u64 (bShr .u64 ((⟨p0.c, p0.i, IntKind.u64.wrap ((IntKind.u64.wrap (p0.h * 6364136223846793005)) + 1442695040888963407)⟩ : Src).h) 33) 16777215)) + ((((⟨p0.c, p0.i, IntKind.u64.wrap ((IntKind.u64.wrap (p0.h * 6364136223846793005)) + 1442695040888963407)⟩ : Src).c).getD ((⟨p0.c, p0.i, IntKind.u64.wrap ((IntKind.u64.wrap (p0.h * 6364136223846793005)) + 1442695040888963407)⟩ : Src).i).toNat 0).toNat : Int)), (⟨(⟨p0.c, p0.i, IntKind.u64.wrap ((IntKind.u64.wrap (p0.h * 6364136223846793005)) + 1442695040888963407)⟩ : Src).c, w64 (((⟨p0.c, p0.i, IntKind.u64.wrap ((IntKind.u64.wrap (p0.h * 6364136223846793005)) + 1442695040888963407)⟩ : Src).i) + 1), (⟨p0.c, p0.i, IntKind.u64.wrap ((IntKind.u64.wrap (p0.h * 6364136223846793005)) + 1442695040888963407)⟩ : Src).h⟩ : Src)) else none) else some (w64 (bAnd .u64 (bShr .u64 ((⟨p0.c, p0.i, IntKind.u64.wrap ((IntKind.u64.wrap (p0.h * 6364136223846793005)) + 1442695040888963407)⟩ : Src).h) 33) 16777215), (⟨p0.c, p0.i, IntKind.u64.wrap ((IntKind.u64.wrap (p0.h * 6364136223846793005)) + 1442695040888963407)⟩ : Src))) : Option (Int × Src)).bind fun s4 => (if p1 ≠ 0 then some (s4.1.tmod p1, s4.2) else none))
set_option maxRecDepth 100000 in
theorem spec_l01Next_ac (p0 : Src) (p1 : Int) (r : Int × Src) (h : spec_l01Next p0 p1 = some r) : AC Try.prog 34 [.ptr 0 0, iV p1] [.box (srcD p0)] (fun res H' => res = [iV r.1] ∧ H' = [.box (srcD r.2)]) := by
 refine AC_of_body true Try.func34 rfl Try.ntmps34 (rvs := [.tmp 4]) rfl rfl (fun G hG => ?_)
 have hm : G.H.length = 1 := by rw [hG]; rfl
 have hz : zeroG G.H = true := by rw [hG]; rfl
 unfold spec_l01Next at h
 refine kR ?_
 refine kN 1 rfl ?_
 refine ACode_seq ?_
 refine kR ?_
 refine kM 1 rfl ?_
 refine AOps_q 7 _ rfl rfl rfl (QOp_lss _ _ _ _ _ _ _ rfl rfl rfl) ?_
 refine AOps_nil ?_
 refine kI h rfl (fun h _ => ?_) (fun h _ => ?_)
 ·refine kR ?_
  refine kN 1 rfl ?_
  refine ACode_ret ?_
  cases h
  exact ⟨_, _, fun r a w h => ⟨r, h⟩, _, _, [], _, (.cons (ResV_tmp _ _ rfl) .nil), rfl, rfl, rfl, rfl, rfl⟩
 refine ACode_skip ?_
 refine kR ?_
 refine kM 2 rfl ?_
 refine AOps_q 10 _ rfl rfl rfl (QOp_nilCheck_ptr _ _ _ _ rfl rfl rfl rfl) ?_
 refine AOps_q 11 _ rfl rfl rfl (QOp_fieldAddr_ptr _ _ _ _ _ _ 2 _ _ rfl Try.underlying100 rfl _ Try.sizeOf93 rfl rfl rfl rfl) ?_
 refine AOps_q 12 _ rfl rfl rfl (QOp_load_ptr _ _ _ _ _ _ rfl Try.isAgg93 rfl rfl rfl) ?_
 refine AOps_q 13 _ rfl rfl rfl (QOp_mul _ _ _ _ _ _ _ rfl rfl rfl) ?_
 refine AOps_q 14 _ rfl rfl rfl (QOp_add _ _ _ _ _ _ _ rfl rfl rfl) ?_
 refine AOps_q 15 _ rfl rfl rfl (QOp_nilCheck_ptr _ _ _ _ rfl rfl rfl rfl) ?_
 refine AOps_q 16 _ rfl rfl rfl (QOp_fieldAddr_ptr _ _ _ _ _ _ 2 _ _ rfl Try.underlying100 rfl _ Try.sizeOf93 rfl rfl rfl rfl) ?_
 refine AOps_store1 _ _ _ _ _ _ (srcD (⟨p0.c, p0.i, IntKind.u64.wrap ((IntKind.u64.wrap (p0.h * 6364136223846793005)) + 1442695040888963407)⟩ : Src)) _ rfl rfl rfl rfl rfl rfl rfl Try.sizeOf93 (by rw [srcD_length]; decide) (srcD_set2 _ _) ?_
 refine AOps_nil ?_
 refine kR ?_
 refine kM 1 rfl ?_
 refine AOps_q 18 _ rfl rfl rfl (QOp_nilCheck_ptr _ _ _ _ rfl rfl rfl rfl) ?_
 refine AOps_q 19 _ rfl rfl rfl (QOp_fieldAddr_ptr _ _ _ _ _ _ 2 _ _ rfl Try.underlying100 rfl _ Try.sizeOf93 rfl rfl rfl rfl) ?_
 refine AOps_q 20 _ rfl rfl rfl (QOp_load_ptr _ _ _ _ _ _ rfl Try.isAgg93 rfl rfl rfl) ?_
 refine AOps_q 21 _ rfl rfl rfl (QOp_shr _ _ _ _ _ _ _ _ (by decide) rfl rfl rfl) ?_
 refine AOps_q 22 _ rfl rfl rfl (QOp_and _ _ _ _ _ _ _ rfl rfl rfl) ?_
 refine AOps_q 23 _ rfl rfl rfl (QOp_conv _ _ _ _ _ _ rfl rfl Try.underlying2 rfl) ?_
 refine kN 1 rfl ?_
 refine kB (fun s4 => [(1, iV p1), (5, iV s4.1)]) (fun s4 => [.box (srcD s4.2)]) h (fun s4 h => ?_) (fun s4 h => ?_)
 ·refine ACode_seq (ACode_quiet mixed (by kernel_rfl) ?_)
  refine kQ 1 rfl ?_
  refine AQ_q 25 _ rfl rfl rfl (QOp_nilCheck_ptr _ _ _ _ rfl rfl rfl rfl) ?_
  refine AQ_q 26 _ rfl rfl rfl (QOp_fieldAddr_ptr _ _ _ _ _ _ 1 _ _ rfl Try.underlying100 rfl _ Try.sizeOf3 rfl rfl rfl rfl) ?_
  refine AQ_q 27 _ rfl rfl rfl (QOp_load_ptr _ _ _ _ _ _ rfl Try.isAgg3 rfl rfl rfl) ?_
  refine kQ 1 rfl ?_
  refine AQ_q 29 _ rfl rfl rfl (QOp_nilCheck_ptr _ _ _ _ rfl rfl rfl rfl) ?_
  refine AQ_q 30 _ rfl rfl rfl (QOp_fieldAddr_ptr _ _ _ _ _ _ 0 _ _ rfl Try.underlying100 rfl _ Try.sizeOf22 rfl rfl rfl rfl) ?_
  refine AQ_q 31 _ rfl rfl rfl (QOp_load_ptr _ _ _ _ _ _ rfl Try.isAgg22 rfl rfl rfl) ?_
  refine AQ_q 32 _ rfl rfl rfl (QOp_len_sl _ _ _ _ _ _ _ (bysD_length _) rfl rfl rfl rfl Try.underlying22 rfl) ?_
  refine AQ_q 33 _ rfl rfl rfl (QOp_lss _ _ _ _ _ _ _ rfl rfl rfl) ?_
  refine AQ_nil ?_
  refine kI h rfl (fun h _ => ?_) (fun h _ => ?_)
  ·refine ACode_seq (ACode_quiet mixed (by kernel_rfl) ?_)
   refine kQ 2 rfl ?_
   refine AQ_q 36 _ rfl rfl rfl (QOp_nilCheck_ptr _ _ _ _ rfl rfl rfl rfl) ?_
   refine AQ_q 37 _ rfl rfl rfl (QOp_fieldAddr_ptr _ _ _ _ _ _ 0 _ _ rfl Try.underlying100 rfl _ Try.sizeOf22 rfl rfl rfl rfl) ?_
   refine AQ_q 38 _ rfl rfl rfl (QOp_load_ptr _ _ _ _ _ _ rfl Try.isAgg22 rfl rfl rfl) ?_
   refine kQ 1 rfl ?_
   refine AQ_q 40 _ rfl rfl rfl (QOp_nilCheck_ptr _ _ _ _ rfl rfl rfl rfl) ?_
   refine AQ_q 41 _ rfl rfl rfl (QOp_fieldAddr_ptr _ _ _ _ _ _ 1 _ _ rfl Try.underlying100 rfl _ Try.sizeOf3 rfl rfl rfl rfl) ?_
   refine AQ_q 42 _ rfl rfl rfl (QOp_load_ptr _ _ _ _ _ _ rfl Try.isAgg3 rfl rfl rfl) ?_
   obtain ⟨hc3, h⟩ := guardO h
   refine AQ_q 43 _ rfl rfl rfl (QOp_indexAddr_sl _ _ _ _ _ _ _ _ rfl Try.underlying22 Try.sizeOf5 hc3.1 (by rw [bysD_length]; exact hc3.2) rfl rfl) ?_
   refine AQ_q 44 _ rfl rfl rfl (QOp_load_pv _ _ _ _ _ rfl Try.isAgg5 rfl (bysD_get _ _ 0 (by omega))) ?_
   refine AQ_q 45 _ rfl rfl rfl (QOp_fromByte _ _ _ _ _ rfl rfl Try.underlying2 wrap_i64_byte rfl) ?_
   refine AQ_q 46 _ rfl rfl rfl (QOp_add _ _ _ _ _ _ _ rfl rfl rfl) ?_
   refine kQ 1 rfl ?_
   refine AQ_nil ?_
   refine (ACode_region ?_)
   refine kM 2 rfl ?_
   refine AOps_q 49 _ rfl rfl rfl (QOp_nilCheck_ptr _ _ _ _ rfl rfl rfl rfl) ?_
   refine AOps_q 50 _ rfl rfl rfl (QOp_fieldAddr_ptr _ _ _ _ _ _ 1 _ _ rfl Try.underlying100 rfl _ Try.sizeOf3 rfl rfl rfl rfl) ?_
   refine AOps_q 51 _ rfl rfl rfl (QOp_load_ptr _ _ _ _ _ _ rfl Try.isAgg3 rfl rfl rfl) ?_
   refine AOps_q 52 _ rfl rfl rfl (QOp_add _ _ _ _ _ _ _ rfl rfl rfl) ?_
   refine AOps_q 53 _ rfl rfl rfl (QOp_nilCheck_ptr _ _ _ _ rfl rfl rfl rfl) ?_
   refine AOps_q 54 _ rfl rfl rfl (QOp_fieldAddr_ptr _ _ _ _ _ _ 1 _ _ rfl Try.underlying100 rfl _ Try.sizeOf3 rfl rfl rfl rfl) ?_
   refine AOps_store1 _ _ _ _ _ _ (srcD (⟨(⟨p0.c, p0.i, IntKind.u64.wrap ((IntKind.u64.wrap (p0.h * 6364136223846793005)) + 1442695040888963407)⟩ : Src).c, w64 (((⟨p0.c, p0.i, IntKind.u64.wrap ((IntKind.u64.wrap (p0.h * 6364136223846793005)) + 1442695040888963407)⟩ : Src).i) + 1), (⟨p0.c, p0.i, IntKind.u64.wrap ((IntKind.u64.wrap (p0.h * 6364136223846793005)) + 1442695040888963407)⟩ : Src).h⟩ : Src)) _ rfl rfl rfl rfl rfl rfl rfl Try.sizeOf3 (by rw [srcD_length]; decide) (srcD_set1 _ _) ?_
   refine AOps_nil ?_
   cases h
   exact Weak_keep 1 hm [1, 5] [] _ _ rfl rfl rfl
  refine ACode_skip ?_
  cases h
  exact Weak_keep 1 hm [1, 5] [] _ _ rfl rfl rfl
 refine kR ?_
 refine kM 2 rfl ?_
 obtain ⟨hc5, h⟩ := guardO h
 refine AOps_q 57 _ rfl rfl rfl (QOp_rem _ _ _ _ _ _ _ hc5 rfl rfl rfl) ?_
 refine kN 1 rfl ?_
 refine ACode_ret ?_
 cases h
 exact ⟨_, _, fun r a w h => ⟨r, h⟩, _, _, [], _, (.cons (ResV_tmp _ _ rfl) .nil), rfl, rfl, rfl, rfl, rfl⟩

-- loop.example/g01362/spec.l01Pick
def spec_l01Pick (p0 : Src) (p1 : List Int) : Option (Int × Src) :=
 (spec_l01Next p0 (p1.length : Int)).bind fun r1 => (if 0 ≤ r1.1 ∧ r1.1 < (p1.length : Int) then some ((p1.getD r1.1.toNat 0), r1.2) else none)
set_option maxRecDepth 100000 in
theorem spec_l01Pick_ac (p0 : Src) (p1 : List Int) (r : Int × Src) (h : spec_l01Pick p0 p1 = some r) : AC Try.prog 36 [.ptr 0 0, .d (.sl none (intsD p1))] [.box (srcD p0)] (fun res H' => res = [iV r.1] ∧ H' = [.box (srcD r.2)]) := by
 refine AC_of_body true Try.func36 rfl Try.ntmps36 (rvs := [.tmp 4]) rfl rfl (fun G hG => ?_)
 have hm : G.H.length = 1 := by rw [hG]; rfl
 have hz : zeroG G.H = true := by rw [hG]; rfl
 unfold spec_l01Pick at h
 refine kR ?_
 refine kN 1 rfl ?_
 refine kR ?_
 refine kM 3 rfl ?_
 refine AOps_q 8 _ rfl rfl rfl (QOp_len_sl _ _ _ _ _ _ _ (intsD_length _) rfl rfl rfl rfl Try.underlying24 rfl) ?_
 obtain ⟨r1, hr1, h⟩ := bindO h
 refine kC [0] 9 (iV r1.1) [.box (srcD r1.2)] rfl Try.call34 rfl rfl (spec_l01Next_ac p0 (p1.length : Int) _ hr1) rfl ?_
 obtain ⟨hc2, h⟩ := guardO h
 refine AOps_q 10 _ rfl rfl rfl (QOp_indexAddr_sl _ _ _ _ _ _ _ _ rfl Try.underlying24 Try.sizeOf2 hc2.1 (by rw [intsD_length]; exact hc2.2) rfl rfl) ?_
 refine AOps_q 11 _ rfl rfl rfl (QOp_load_pv _ _ _ _ _ rfl Try.isAgg2 rfl (intsD_get _ _ 0 (by omega))) ?_
 refine kN 1 rfl ?_
 refine ACode_ret ?_
 cases h
 exact ⟨_, _, fun r a w h => ⟨r, h⟩, _, _, [], _, (.cons (ResV_tmp _ _ rfl) .nil), rfl, rfl, rfl, rfl, rfl⟩

-- loop.example/g01362/spec.l05DrawSizes
def spec_l05DrawSizes_l0 (p1 : Int) : Nat → Int → Src → (List Int) → Option (Src × List Int)
 | 0, _, _, _ => none
 | k0 + 1, x1, x2, x3 => (if decide (x1 < p1) then (spec_l01Pick x2 ([3, 3, 3, 4, 4, 2, 5])).bind fun r5 => (if x3.length + ([r5.1]).length ≤ 1099511627776 then spec_l05DrawSizes_l0 p1 k0 (w64 (x1 + 1)) r5.2 (x3 ++ ([r5.1])) else none) else some (x2, x3))
def spec_l05DrawSizes (k : Nat) (p0 : Src) (p1 : Int) : Option (List Int × Src) :=
 (spec_l05DrawSizes_l0 p1 k 0 p0 ([] : List Int) : Option (Src × List Int)).bind fun s7 => ((if decide (p1 = 1) then (spec_l01Pick s7.1 ([2, 4, 7, 17])).bind fun r9 => (if 0 ≤ (0 : Int) ∧ (0 : Int) < (s7.2.length : Int) then some (r9.2, s7.2.set (0 : Int).toNat r9.1) else none) else some (s7.1, s7.2)) : Option (Src × List Int)).bind fun s11 => some (s11.2, s11.1)
set_option maxRecDepth 100000 in
theorem spec_l05DrawSizes_ac (k : Nat) (p0 : Src) (p1 : Int) (r : List Int × Src) (h : spec_l05DrawSizes k p0 p1 = some r) : AC Try.prog 35 [.ptr 0 0, iV p1] [.box (srcD p0)] (fun res H' => res = [.vec 1 0] ∧ H' = [.box (srcD r.2), .vec 0 (intsD r.1)]) := by
 refine AC_of_body true Try.func35 rfl Try.ntmps35 (rvs := [.tmp 4]) rfl rfl (fun G hG => ?_)
 have hm : G.H.length = 1 := by rw [hG]; rfl
 have hz : zeroG G.H = true := by rw [hG]; rfl
 unfold spec_l05DrawSizes at h
 refine kR ?_
 refine kN 1 rfl ?_
 refine kR ?_
 refine AOps_buildSlice 7 _ _ _ [] (intsD ([] : List Int)) _ rfl rfl rfl rfl rfl (by decide) Try.underlying24 Try.sizeOf2 (zero_of Try.typeInfo2 rfl) rfl rfl (intsD_one _) ?_
 refine kN 1 rfl ?_
 refine kB (fun s7 => [(0, .ptr 0 0), (1, iV p1), (5, .vec 1 0)]) (fun s7 => [.box (srcD s7.1), .vec 0 (intsD s7.2)]) h (fun s7 h => ?_) (fun s7 h => ?_)
 ·refine kR ?_
  refine kN 1 rfl ?_
  refine ACode_block ?_
  refine ACode_loopW (fun k0 E H => ∃ (x1 : Int) (x2 : Src) (x3 : List Int), E = [(0, .ptr 0 0), (1, iV p1), (5, .vec 1 0), (6, iV x1)] ∧ H = [.box (srcD x2), .vec 0 (intsD x3)] ∧ spec_l05DrawSizes_l0 p1 k0 x1 x2 x3 = some s7) k _ _ (Weak_keep 1 hm [0, 1, 5, 6] [1] _ _ rfl rfl rfl) ⟨_, _, _, rfl, rfl, h⟩ ?_
  clear h
  rintro k0 E H ⟨x1, x2, x3, rfl, rfl, h⟩
  cases k0 with
  | zero => cases (show (none : Option (Src × List Int)) = some _ from h)
  | succ k0 =>
   rw [spec_l05DrawSizes_l0] at h
   refine ACode_seq ?_
   refine kR ?_
   refine kM 2 rfl ?_
   refine AOps_q 10 _ rfl rfl rfl (QOp_lss _ _ _ _ _ _ _ rfl rfl rfl) ?_
   refine AOps_nil ?_
   refine kI h rfl (fun h _ => ?_) (fun h _ => ?_)
   ·refine ACode_skip ?_
    refine ACode_seq ?_
    refine ACode_block ?_
    refine (ACode_region ?_)
    refine kM 2 rfl ?_
    refine AOps_buildSlice 15 _ _ _ [_, _, _, _, _, _, _] (intsD ([3, 3, 3, 4, 4, 2, 5])) _ rfl rfl rfl rfl rfl (by decide) Try.underlying24 Try.sizeOf2 (zero_of Try.typeInfo2 rfl) rfl rfl (intsD_one _) ?_
    refine AOps_freezeL [15] 2 0 _ (allc (rfl) (fun _ h => nomatch h)) rfl ?_
    obtain ⟨r5, hr5, h⟩ := bindO h
    refine kC [0] 16 (iV r5.1) [.box (srcD r5.2), .vec 0 (intsD x3), .gone] rfl Try.call36 rfl rfl (spec_l01Pick_ac x2 ([3, 3, 3, 4, 4, 2, 5]) _ hr5) rfl ?_
    refine AOps_buildSlice 17 _ _ _ [_] (intsD ([r5.1])) _ rfl rfl rfl rfl rfl (by decide) Try.underlying24 Try.sizeOf2 (zero_of Try.typeInfo2 rfl) rfl rfl (intsD_one _) ?_
    obtain ⟨hc6, h⟩ := guardO h
    refine AOps_append 18 _ _ _ _ _ _ _ _ _ _ _ _ rfl rfl rfl rfl rfl rfl rfl Try.underlying24 Try.type2 rfl rfl rfl (by decide) rfl rfl rfl rfl (intsD_one _) (by rw [intsD_length, intsD_length]; exact hc6) ?_
    rw [intsD_app]
    refine kN 1 rfl ?_
    refine (ACode_region ?_)
    refine kM 1 rfl ?_
    refine AOps_q 12 _ rfl rfl rfl (QOp_add _ _ _ _ _ _ _ rfl rfl rfl) ?_
    refine kN 1 rfl ?_
    exact ⟨k0, _, _, Nat.lt_succ_self _, Weak_trans (Weak_keep 1 hm [0, 1, 5, 6] [1] _ _ rfl rfl rfl) (Weak_reset 1 hm hz [0, 1, 5, 6] _ _ rfl rfl), _, _, _, rfl, rfl, h⟩
   refine ACode_exit ?_
   cases h
   exact Weak_keep 1 hm [0, 1, 5] [1] _ _ rfl rfl rfl
 refine kB (fun s11 => [(5, .vec 1 0)]) (fun s11 => [.box (srcD s11.1), .vec 0 (intsD s11.2)]) h (fun s11 h => ?_) (fun s11 h => ?_)
 ·refine kR ?_
  refine kM 1 rfl ?_
  refine AOps_q 20 _ rfl rfl rfl (QOp_eql _ _ _ _ _ _ _ rfl rfl rfl) ?_
  refine AOps_nil ?_
  refine kI h rfl (fun h _ => ?_) (fun h _ => ?_)
  ·refine (ACode_region ?_)
   refine kM 2 rfl ?_
   refine AOps_buildSlice 23 _ _ _ [_, _, _, _] (intsD ([2, 4, 7, 17])) _ rfl rfl rfl rfl rfl (by decide) Try.underlying24 Try.sizeOf2 (zero_of Try.typeInfo2 rfl) rfl rfl (intsD_one _) ?_
   refine AOps_freezeL [23] 2 0 _ (allc (rfl) (fun _ h => nomatch h)) rfl ?_
   obtain ⟨r9, hr9, h⟩ := bindO h
   refine kC [0] 24 (iV r9.1) [.box (srcD r9.2), .vec 0 (intsD s7.2), .gone] rfl Try.call36 rfl rfl (spec_l01Pick_ac s7.1 ([2, 4, 7, 17]) _ hr9) rfl ?_
   obtain ⟨hc10, h⟩ := guardO h
   refine AOps_q 25 _ rfl rfl rfl (QOp_indexAddr_vec _ _ _ _ _ _ _ _ _ rfl Try.underlying24 Try.sizeOf2 hc10.1 (by rw [intsD_length]; exact hc10.2) rfl rfl rfl) ?_
   refine AOps_store_eptr _ _ _ _ _ _ (intsD s7.2) _ rfl rfl rfl rfl rfl rfl rfl Try.sizeOf2 (by rw [intsD_length]; omega) ?_
   rw [intsD_set]
   refine AOps_nil ?_
   cases h
   exact Weak_keep 1 hm [5] [1] _ _ rfl rfl rfl
  refine ACode_skip ?_
  cases h
  exact Weak_keep 1 hm [5] [1] _ _ rfl rfl rfl
 refine kR ?_
 refine kN 2 rfl ?_
 refine ACode_ret ?_
 cases h
 exact ⟨_, _, Weak_reset 1 hm hz [4] _ _ rfl rfl, _, _, [1], _, (.cons (ResV_tmp _ _ rfl) .nil), rfl, rfl, rfl, rfl, rfl⟩

-- loop.example/g01362/spec.DrawFirstAvoiding
def spec_DrawFirstAvoiding (k : Nat) (p0 : List UInt8) : Option (Int × List Int) :=
 (spec_l01From k p0).bind fun r1 => (spec_l01Next r1 8).bind fun r2 => (spec_l05DrawSizes k r2.2 2).bind fun r3 => ((spec_l01Next r3.2 16).bind fun r4 => (if decide (r4.1 = 0) then (spec_l01Pick r4.2 ([0, 9])).bind fun r6 => some (r6.1, r3.1) else (if decide (r4.1 = 1) then (spec_l01Pick r4.2 ([0, 1, 18])).bind fun r8 => (if 0 ≤ (0 : Int) ∧ (0 : Int) < (r3.1.length : Int) then some (w64 (1 + r2.1), r3.1.set (0 : Int).toNat r8.1) else none) else (if decide (r4.1 = 2) then (if r3.1.length + ([3]).length ≤ 1099511627776 then some (w64 (1 + r2.1), (r3.1 ++ ([3]))) else none) else some (w64 (1 + r2.1), r3.1)))) : Option (Int × List Int)).bind fun s12 => some (s12.1, s12.2)
set_option maxRecDepth 100000 in
theorem spec_DrawFirstAvoiding_ac (k : Nat) (p0 : List UInt8) (r : Int × List Int) (h : spec_DrawFirstAvoiding k p0 = some r) : AC Try.prog 6 [.d (.sl none (bysD p0))] [] (fun res H' => res = [iV r.1, .vec 0 0] ∧ H' = [.vec 0 (intsD r.2)]) := by
 refine AC_of_body true Try.func6 rfl Try.ntmps6 (rvs := [.tmp 2, .tmp 3]) rfl rfl (fun G hG => ?_)
 have hm : G.H.length = 0 := by rw [hG]; rfl
 have hz : zeroG G.H = true := by rw [hG]; rfl
 unfold spec_DrawFirstAvoiding at h
 refine kR ?_
 refine kN 2 rfl ?_
 refine kR ?_
 refine kM 1 rfl ?_
 obtain ⟨r1, hr1, h⟩ := bindO h
 refine kC [] 8 (.ptr 0 0) [.box (srcD r1)] rfl Try.call33 rfl rfl (spec_l01From_ac k p0 _ hr1) rfl ?_
 refine kN 1 rfl ?_
 refine kR ?_
 refine kM 1 rfl ?_
 obtain ⟨r2, hr2, h⟩ := bindO h
 refine kC [0] 10 (iV r2.1) [.box (srcD r2.2)] rfl Try.call34 rfl rfl (spec_l01Next_ac r1 8 _ hr2) rfl ?_
 refine AOps_q 11 _ rfl rfl rfl (QOp_add _ _ _ _ _ _ _ rfl rfl rfl) ?_
 refine kM 1 rfl ?_
 obtain ⟨r3, hr3, h⟩ := bindO h
 refine kC [0] 13 (.vec 1 0) [.box (srcD r3.2), .vec 0 (intsD r3.1)] rfl Try.call35 rfl rfl (spec_l05DrawSizes_ac k r2.2 2 _ hr3) rfl ?_
 refine kN 2 rfl ?_
 refine kB (fun s12 => [(5, iV s12.1), (6, .vec 0 0)]) (fun s12 => [.vec 0 (intsD s12.2)]) h (fun s12 h => ?_) (fun s12 h => ?_)
 ·refine kR ?_
  refine kM 1 rfl ?_
  obtain ⟨r4, hr4, h⟩ := bindO h
  refine kC [0] 15 (iV r4.1) [.box (srcD r4.2), .vec 0 (intsD r3.1)] rfl Try.call34 rfl rfl (spec_l01Next_ac r3.2 16 _ hr4) rfl ?_
  refine AOps_nil ?_
  refine ACode_block ?_
  refine kR ?_
  refine AOps_q 17 _ rfl rfl rfl (QOp_eql _ _ _ _ _ _ _ rfl rfl rfl) ?_
  refine kN 1 rfl ?_
  refine kI h rfl (fun h _ => ?_) (fun h _ => ?_)
  ·refine (ACode_region ?_)
   refine kM 1 rfl ?_
   refine AOps_buildSlice 19 _ _ _ [_, _] (intsD ([0, 9])) _ rfl rfl rfl rfl rfl (by decide) Try.underlying24 Try.sizeOf2 (zero_of Try.typeInfo2 rfl) rfl rfl (intsD_one _) ?_
   refine AOps_freezeL [19] 2 0 _ (allc (rfl) (fun _ h => nomatch h)) rfl ?_
   obtain ⟨r6, hr6, h⟩ := bindO h
   refine kC [0] 20 (iV r6.1) [.box (srcD r6.2), .vec 0 (intsD r3.1), .gone] rfl Try.call36 rfl rfl (spec_l01Pick_ac r4.2 ([0, 9]) _ hr6) rfl ?_
   refine kN 1 rfl ?_
   cases h
   exact Weak_keep 0 hm [5, 6] [1] _ _ rfl rfl rfl
  refine kR ?_
  refine AOps_q 22 _ rfl rfl rfl (QOp_eql _ _ _ _ _ _ _ rfl rfl rfl) ?_
  refine kN 1 rfl ?_
  refine kI h rfl (fun h _ => ?_) (fun h _ => ?_)
  ·refine (ACode_region ?_)
   refine kM 2 rfl ?_
   refine AOps_buildSlice 25 _ _ _ [_, _, _] (intsD ([0, 1, 18])) _ rfl rfl rfl rfl rfl (by decide) Try.underlying24 Try.sizeOf2 (zero_of Try.typeInfo2 rfl) rfl rfl (intsD_one _) ?_
   refine AOps_freezeL [25] 2 0 _ (allc (rfl) (fun _ h => nomatch h)) rfl ?_
   obtain ⟨r8, hr8, h⟩ := bindO h
   refine kC [0] 26 (iV r8.1) [.box (srcD r8.2), .vec 0 (intsD r3.1), .gone] rfl Try.call36 rfl rfl (spec_l01Pick_ac r4.2 ([0, 1, 18]) _ hr8) rfl ?_
   obtain ⟨hc9, h⟩ := guardO h
   refine AOps_q 27 _ rfl rfl rfl (QOp_indexAddr_vec _ _ _ _ _ _ _ _ _ rfl Try.underlying24 Try.sizeOf2 hc9.1 (by rw [intsD_length]; exact hc9.2) rfl rfl rfl) ?_
   refine AOps_store_eptr _ _ _ _ _ _ (intsD r3.1) _ rfl rfl rfl rfl rfl rfl rfl Try.sizeOf2 (by rw [intsD_length]; omega) ?_
   rw [intsD_set]
   refine AOps_nil ?_
   cases h
   exact Weak_keep 0 hm [5, 6] [1] _ _ rfl rfl rfl
  refine kR ?_
  refine AOps_q 29 _ rfl rfl rfl (QOp_eql _ _ _ _ _ _ _ rfl rfl rfl) ?_
  refine kN 1 rfl ?_
  refine kI h rfl (fun h _ => ?_) (fun h _ => ?_)
  ·refine (ACode_region ?_)
   refine kM 1 rfl ?_
   refine AOps_buildSlice 31 _ _ _ [_] (intsD ([3])) _ rfl rfl rfl rfl rfl (by decide) Try.underlying24 Try.sizeOf2 (zero_of Try.typeInfo2 rfl) rfl rfl (intsD_one _) ?_
   obtain ⟨hc11, h⟩ := guardO h
   refine AOps_append 32 _ _ _ _ _ _ _ _ _ _ _ _ rfl rfl rfl rfl rfl rfl rfl Try.underlying24 Try.type2 rfl rfl rfl (by decide) rfl rfl rfl rfl (intsD_one _) (by rw [intsD_length, intsD_length]; exact hc11) ?_
   rw [intsD_app]
   refine kN 1 rfl ?_
   cases h
   exact Weak_trans (Weak_keep 0 hm [5, 6] [1] _ _ rfl rfl rfl) (Weak_reset 0 hm hz [5, 6] _ _ rfl rfl)
  refine ACode_skip ?_
  cases h
  exact Weak_keep 0 hm [5, 6] [1] _ _ rfl rfl rfl
 refine kR ?_
 refine kN 4 rfl ?_
 refine ACode_ret ?_
 cases h
 exact ⟨_, _, Weak_reset 0 hm hz [2, 3] _ _ rfl rfl, _, _, [0], _, (.cons (ResV_tmp _ _ rfl) (.cons (ResV_tmp _ _ rfl) .nil)), rfl, rfl, rfl, rfl, rfl⟩

-- loop.example/g01362/impl.in
def impl_in (p0 : Int) (p1 : Int) (p2 : Int) : Bool :=
 letO (if decide (p1 ≤ p0) then decide (p0 ≤ p2) else false) fun (s2 : Bool) => s2
set_option maxRecDepth 100000 in
theorem impl_in_ac (p0 : Int) (p1 : Int) (p2 : Int) : AC Try.prog 37 [iV p0, iV p1, iV p2] [] (fun res H' => res = [bV (impl_in p0 p1 p2)] ∧ H' = []) := by
 refine AC_of_body true Try.func37 rfl Try.ntmps37 (rvs := [.tmp 6]) rfl rfl (fun G hG => ?_)
 have hm : G.H.length = 0 := by rw [hG]; rfl
 have hz : zeroG G.H = true := by rw [hG]; rfl
 obtain ⟨r, h⟩ : ∃ r, impl_in p0 p1 p2 = r := ⟨_, rfl⟩
 rw [h]
 unfold impl_in at h
 refine kR ?_
 refine kN 1 rfl ?_
 refine kL (fun s2 => [(6, bV s2)]) (fun s2 => []) h (fun s2 h => ?_) (fun s2 h => ?_)
 ·refine (ACode_region ?_)
  refine kM 2 rfl ?_
  refine AOps_q 9 _ rfl rfl rfl (QOp_geq _ _ _ _ _ _ _ rfl rfl rfl) ?_
  refine kM 1 rfl ?_
  refine AOps_case 10 _ rfl (fun hb1 => ?_) (fun hb1 => ?_)
  ·have h := iteT hb1 h
   refine kM 2 rfl ?_
   refine AOps_q 13 _ rfl rfl rfl (QOp_leq _ _ _ _ _ _ _ rfl rfl rfl) ?_
   refine kN 2 rfl ?_
   cases h
   exact Weak_keep 0 hm [6] [] _ _ rfl rfl rfl
  have h := iteF hb1 h
  refine AOps_skip 11 rfl rfl rfl ?_
  refine AOps_skip 12 rfl rfl rfl ?_
  refine AOps_skip 13 rfl rfl rfl ?_
  refine kN 2 rfl ?_
  cases h
  exact Weak_keep 0 hm [6] [] _ _ rfl rfl rfl
 refine ACode_ret ?_
 cases h
 exact ⟨_, _, fun r a w h => ⟨r, h⟩, _, _, [], _, (.cons (ResV_tmp _ _ rfl) .nil), rfl, rfl, rfl, rfl, rfl⟩

-- loop.example/g01362/impl.size[int64]
def impl_size (p0 : List Int) : Int :=
 (p0.length : Int)
set_option maxRecDepth 100000 in
theorem impl_size_ac (p0 : List Int) : AC Try.prog 55 [.d (.sl none (intsD p0))] [] (fun res H' => res = [iV (impl_size p0)] ∧ H' = []) := by
 refine AC_of_body true Try.func55 rfl Try.ntmps55 (rvs := [.tmp 2]) rfl rfl (fun G hG => ?_)
 have hm : G.H.length = 0 := by rw [hG]; rfl
 have hz : zeroG G.H = true := by rw [hG]; rfl
 obtain ⟨r, h⟩ : ∃ r, impl_size p0 = r := ⟨_, rfl⟩
 rw [h]
 unfold impl_size at h
 refine kR ?_
 refine kN 1 rfl ?_
 refine kR ?_
 refine kM 1 rfl ?_
 refine AOps_q 4 _ rfl rfl rfl (QOp_len_sl _ _ _ _ _ _ _ (intsD_length _) rfl rfl rfl rfl Try.underlying24 rfl) ?_
 refine kN 1 rfl ?_
 refine ACode_ret ?_
 cases h
 exact ⟨_, _, fun r a w h => ⟨r, h⟩, _, _, [], _, (.cons (ResV_tmp _ _ rfl) .nil), rfl, rfl, rfl, rfl, rfl⟩

-- slices.IndexFunc[[]int64,int64]
def slices_IndexFunc_l0 (p0 : List Int) (p1 : Int → Option (Bool)) : Nat → Int → Option (Sum (Unit) (Int))
 | 0, _ => none
 | k0 + 1, x1 => (if decide (x1 < (p0.length : Int)) then (if 0 ≤ x1 ∧ x1 < (p0.length : Int) then (p1 (p0.getD x1.toNat 0)).bind fun r4 => (if r4 then some (.inr x1) else slices_IndexFunc_l0 p0 p1 k0 (w64 (x1 + 1))) else none) else some (.inl ()))
def slices_IndexFunc (k : Nat) (p0 : List Int) (p1 : Int → Option (Bool)) : Option (Int) :=
 (slices_IndexFunc_l0 p0 p1 k 0 : Option (Sum (Unit) (Int))).bind fun os6 => (match os6 with | .inl s6 => some (-1) | .inr rr => some rr)
set_option maxRecDepth 100000 in
theorem slices_IndexFunc_ac (k : Nat) (p0 : List Int) (p1 : Int → Option (Bool)) (g_p1 : FuncId) (c_p1 : List D) (hg_p1 : ∀ args w, (callFunc g_p1 args).run Try.prog w = .ok (.enter g_p1 args) w) (hf_p1 : ∀ (a0 : Int) (r : Bool), p1 a0 = some r → AC Try.prog g_p1 ([iV a0] ++ c_p1.map AV.d) [] (fun res H' => res = [bV r] ∧ H' = [])) (r : Int) (h : slices_IndexFunc k p0 p1 = some r) : AC Try.prog 137 [.d (.sl none (intsD p0)), .d (.clo g_p1 c_p1)] [] (fun res H' => res = [iV r] ∧ H' = []) := by
 refine AC_of_body true Try.func137 rfl Try.ntmps137 (rvs := [.tmp 4]) rfl rfl (fun G hG => ?_)
 have hm : G.H.length = 0 := by rw [hG]; rfl
 have hz : zeroG G.H = true := by rw [hG]; rfl
 unfold slices_IndexFunc at h
 refine kR ?_
 refine kN 1 rfl ?_
 refine kO (fun s6 => []) (fun s6 => []) h (fun os6 h hks6 => ?_) (fun s6 h => ?_)
 ·refine kR ?_
  refine kM 1 rfl ?_
  refine AOps_q 7 _ rfl rfl rfl (QOp_len_sl _ _ _ _ _ _ _ (intsD_length _) rfl rfl rfl rfl Try.underlying24 rfl) ?_
  refine kN 1 rfl ?_
  refine ACode_block ?_
  refine ACode_loopW (fun k0 E H => ∃ (x1 : Int), E = [(0, .d (.sl none (intsD p0))), (1, .d (.clo g_p1 c_p1)), (7, iV (p0.length : Int)), (8, iV x1)] ∧ H = [] ∧ slices_IndexFunc_l0 p0 p1 k0 x1 = some os6) k _ _ (Weak_keep 0 hm [0, 1, 7, 8] [] _ _ rfl rfl rfl) ⟨_, rfl, rfl, h⟩ ?_
  clear h
  rintro k0 E H ⟨x1, rfl, rfl, h⟩
  cases k0 with
  | zero => cases (show (none : Option (Sum (Unit) (Int))) = some _ from h)
  | succ k0 =>
   rw [slices_IndexFunc_l0] at h
   refine kR ?_
   refine AOps_q 9 _ rfl rfl rfl (QOp_lss _ _ _ _ _ _ _ rfl rfl rfl) ?_
   refine AOps_nil ?_
   refine ACode_seq ?_
   refine kI h rfl (fun h _ => ?_) (fun h _ => ?_)
   ·refine ACode_skip ?_
    refine ACode_seq ?_
    refine ACode_block ?_
    refine kR ?_
    refine kN 2 rfl ?_
    refine kR ?_
    refine kM 3 rfl ?_
    obtain ⟨hc3, h⟩ := guardO h
    refine AOps_q 14 _ rfl rfl rfl (QOp_indexAddr_sl _ _ _ _ _ _ _ _ rfl Try.underlying24 Try.sizeOf2 hc3.1 (by rw [intsD_length]; exact hc3.2) rfl rfl) ?_
    refine AOps_q 15 _ rfl rfl rfl (QOp_load_pv _ _ _ _ _ rfl Try.isAgg2 rfl (intsD_get _ _ 0 (by omega))) ?_
    obtain ⟨r4, hr4, h⟩ := bindO h
    refine kC [] 16 (bV r4) [] rfl hg_p1 rfl (viewA_mapD _) (hf_p1 (p0.getD x1.toNat 0) _ hr4) rfl ?_
    refine AOps_nil ?_
    refine kI h rfl (fun h _ => ?_) (fun h _ => ?_)
    ·refine kR ?_
     refine kN 2 rfl ?_
     refine ACode_ret ?_
     cases h
     have h := hks6
     cases h
     exact ⟨_, _, fun r a w h => ⟨r, h⟩, _, _, [], _, (.cons (ResV_tmp _ _ rfl) .nil), rfl, rfl, rfl, rfl, rfl⟩
    refine ACode_skip ?_
    refine (ACode_region ?_)
    refine AOps_q 18 _ rfl rfl rfl (QOp_add _ _ _ _ _ _ _ rfl rfl rfl) ?_
    refine kN 1 rfl ?_
    exact ⟨k0, _, _, Nat.lt_succ_self _, Weak_keep 0 hm [0, 1, 7, 8] [] _ _ rfl rfl rfl, _, rfl, rfl, h⟩
   refine ACode_exit ?_
   cases h
   exact ⟨_, rfl, Weak_keep 0 hm [] [] _ _ rfl rfl rfl⟩
 refine kR ?_
 refine kN 1 rfl ?_
 refine ACode_ret ?_
 cases h
 exact ⟨_, _, fun r a w h => ⟨r, h⟩, _, _, [], _, (.cons (ResV_tmp _ _ rfl) .nil), rfl, rfl, rfl, rfl, rfl⟩

-- slices.ContainsFunc[[]int64,int64]
def slices_ContainsFunc (k : Nat) (p0 : List Int) (p1 : Int → Option (Bool)) : Option (Bool) :=
 (slices_IndexFunc k p0 p1).bind fun r1 => some (decide (0 ≤ r1))
set_option maxRecDepth 100000 in
theorem slices_ContainsFunc_ac (k : Nat) (p0 : List Int) (p1 : Int → Option (Bool)) (g_p1 : FuncId) (c_p1 : List D) (hg_p1 : ∀ args w, (callFunc g_p1 args).run Try.prog w = .ok (.enter g_p1 args) w) (hf_p1 : ∀ (a0 : Int) (r : Bool), p1 a0 = some r → AC Try.prog g_p1 ([iV a0] ++ c_p1.map AV.d) [] (fun res H' => res = [bV r] ∧ H' = [])) (r : Bool) (h : slices_ContainsFunc k p0 p1 = some r) : AC Try.prog 119 [.d (.sl none (intsD p0)), .d (.clo g_p1 c_p1)] [] (fun res H' => res = [bV r] ∧ H' = []) := by
 refine AC_of_body true Try.func119 rfl Try.ntmps119 (rvs := [.tmp 4]) rfl rfl (fun G hG => ?_)
 have hm : G.H.length = 0 := by rw [hG]; rfl
 have hz : zeroG G.H = true := by rw [hG]; rfl
 unfold slices_ContainsFunc at h
 refine kR ?_
 refine kN 1 rfl ?_
 refine kR ?_
 refine kM 2 rfl ?_
 obtain ⟨r1, hr1, h⟩ := bindO h
 refine kC [] 7 (iV r1) [] rfl Try.call137 rfl rfl (slices_IndexFunc_ac k p0 p1 g_p1 c_p1 hg_p1 hf_p1 _ hr1) rfl ?_
 refine AOps_q 8 _ rfl rfl rfl (QOp_geq _ _ _ _ _ _ _ rfl rfl rfl) ?_
 refine kN 1 rfl ?_
 refine ACode_ret ?_
 cases h
 exact ⟨_, _, fun r a w h => ⟨r, h⟩, _, _, [], _, (.cons (ResV_tmp _ _ rfl) .nil), rfl, rfl, rfl, rfl, rfl⟩

-- loop.example/g01362/impl.areIn$1
def impl_areIn_c1 (p0 : Int) (p1 : Int) (p2 : Int) : Bool :=
 !(impl_in p0 p1 p2)
set_option maxRecDepth 100000 in
theorem impl_areIn_c1_ac (p0 : Int) (p1 : Int) (p2 : Int) : AC Try.prog 120 [iV p0, .d (.pv ([iD p1]) 0), .d (.pv ([iD p2]) 0)] [] (fun res H' => res = [bV (impl_areIn_c1 p0 p1 p2)] ∧ H' = []) := by
 refine AC_of_body true Try.func120 rfl Try.ntmps120 (rvs := [.tmp 4]) rfl rfl (fun G hG => ?_)
 have hm : G.H.length = 0 := by rw [hG]; rfl
 have hz : zeroG G.H = true := by rw [hG]; rfl
 obtain ⟨r, h⟩ : ∃ r, impl_areIn_c1 p0 p1 p2 = r := ⟨_, rfl⟩
 rw [h]
 unfold impl_areIn_c1 at h
 refine kR ?_
 refine kN 1 rfl ?_
 refine kR ?_
 refine kM 1 rfl ?_
 refine AOps_q 6 _ rfl rfl rfl (QOp_load_pv _ _ _ _ _ rfl Try.isAgg2 rfl rfl) ?_
 refine AOps_q 7 _ rfl rfl rfl (QOp_load_pv _ _ _ _ _ rfl Try.isAgg2 rfl rfl) ?_
 refine kC [] 8 (bV (impl_in p0 p1 p2)) [] rfl Try.call37 rfl rfl (impl_in_ac p0 p1 p2) rfl ?_
 refine AOps_q 9 _ rfl rfl rfl (QOp_not _ _ _ rfl rfl) ?_
 refine kN 1 rfl ?_
 refine ACode_ret ?_
 cases h
 exact ⟨_, _, fun r a w h => ⟨r, h⟩, _, _, [], _, (.cons (ResV_tmp _ _ rfl) .nil), rfl, rfl, rfl, rfl, rfl⟩

-- loop.example/g01362/impl.areIn
def impl_areIn (k : Nat) (p0 : List Int) (p1 : Int) (p2 : Int) (p3 : Int) : Option (Bool) :=
 ((if decide ((impl_size p0) = p1) then (slices_ContainsFunc k p0 (fun a0 => some (impl_areIn_c1 a0 p2 p3))).bind fun r3 => some (!r3) else some false) : Option (Bool)).bind fun s4 => some s4
set_option maxRecDepth 100000 in
theorem impl_areIn_ac (k : Nat) (p0 : List Int) (p1 : Int) (p2 : Int) (p3 : Int) (r : Bool) (h : impl_areIn k p0 p1 p2 p3 = some r) : AC Try.prog 92 [.d (.sl none (intsD p0)), iV p1, iV p2, iV p3] [] (fun res H' => res = [bV r] ∧ H' = []) := by
 refine AC_of_body true Try.func92 rfl Try.ntmps92 (rvs := [.tmp 8]) rfl rfl (fun G hG => ?_)
 have hm : G.H.length = 0 := by rw [hG]; rfl
 have hz : zeroG G.H = true := by rw [hG]; rfl
 unfold impl_areIn at h
 refine kR ?_
 refine AOps_boxI 6 _ _ (iD p2) _ rfl (fun c hc => by cases hc with | head => rfl | tail _ h => cases h) rfl rfl rfl rfl rfl ?_
 refine AOps_boxI 7 _ _ (iD p3) _ rfl (fun c hc => by cases hc with | head => rfl | tail _ h => cases h) rfl rfl rfl rfl rfl ?_
 refine kN 1 rfl ?_
 refine kB (fun s4 => [(8, bV s4)]) (fun s4 => []) h (fun s4 h => ?_) (fun s4 h => ?_)
 ·refine (ACode_region ?_)
  refine kM 1 rfl ?_
  refine kC [] 10 (iV (impl_size p0)) [] rfl Try.call55 rfl rfl (impl_size_ac p0) rfl ?_
  refine kM 1 rfl ?_
  refine AOps_q 12 _ rfl rfl rfl (QOp_eql _ _ _ _ _ _ _ rfl rfl rfl) ?_
  refine kM 1 rfl ?_
  refine AOps_case 13 _ rfl (fun hb2 => ?_) (fun hb2 => ?_)
  ·have h := iteT hb2 h
   refine kM 1 rfl ?_
   refine AOps_q 15 _ rfl rfl rfl (QOp_makeFuncD _ _ _ _ rfl rfl rfl) ?_
   obtain ⟨r3, hr3, h⟩ := bindO h
   refine kC [] 16 (bV r3) [] rfl Try.call119 rfl rfl (slices_ContainsFunc_ac k p0 (fun a0 => some (impl_areIn_c1 a0 p2 p3)) 120 ([.pv ([iD p2]) 0, .pv ([iD p3]) 0]) Try.call120 (fun a0 r h => by cases h; exact impl_areIn_c1_ac a0 p2 p3) _ hr3) rfl ?_
   refine AOps_q 17 _ rfl rfl rfl (QOp_not _ _ _ rfl rfl) ?_
   refine kN 2 rfl ?_
   cases h
   exact Weak_keep 0 hm [8] [] _ _ rfl rfl rfl
  have h := iteF hb2 h
  refine AOps_skip 14 rfl rfl rfl ?_
  refine AOps_skip 15 rfl rfl rfl ?_
  refine AOps_skip 16 rfl rfl rfl ?_
  refine AOps_skip 17 rfl rfl rfl ?_
  refine kN 2 rfl ?_
  cases h
  exact Weak_keep 0 hm [8] [] _ _ rfl rfl rfl
 refine ACode_ret ?_
 cases h
 exact ⟨_, _, fun r a w h => ⟨r, h⟩, _, _, [], _, (.cons (ResV_tmp _ _ rfl) .nil), rfl, rfl, rfl, rfl, rfl⟩

-- loop.example/g01362/impl.areForbidden
def impl_areForbidden (k : Nat) (p0 : List Int) (p1 : Int) : Option (Bool) :=
 (impl_areIn k p0 p1 1 17).bind fun r1 => some r1
set_option maxRecDepth 100000 in
theorem impl_areForbidden_ac (k : Nat) (p0 : List Int) (p1 : Int) (r : Bool) (h : impl_areForbidden k p0 p1 = some r) : AC Try.prog 38 [.d (.sl none (intsD p0)), iV p1] [] (fun res H' => res = [bV r] ∧ H' = []) := by
 refine AC_of_body true Try.func38 rfl Try.ntmps38 (rvs := [.tmp 4]) rfl rfl (fun G hG => ?_)
 have hm : G.H.length = 0 := by rw [hG]; rfl
 have hz : zeroG G.H = true := by rw [hG]; rfl
 unfold impl_areForbidden at h
 refine kR ?_
 refine kN 1 rfl ?_
 refine kR ?_
 refine kM 2 rfl ?_
 obtain ⟨r1, hr1, h⟩ := bindO h
 refine kC [] 7 (bV r1) [] rfl Try.call92 rfl rfl (impl_areIn_ac k p0 p1 1 17 _ hr1) rfl ?_
 refine kN 1 rfl ?_
 refine ACode_ret ?_
 cases h
 exact ⟨_, _, fun r a w h => ⟨r, h⟩, _, _, [], _, (.cons (ResV_tmp _ _ rfl) .nil), rfl, rfl, rfl, rfl, rfl⟩

-- slices.Min[[]int64,int64]
def slices_Min_l0 (p0 : List Int) : Nat → Int → Int → Option (Int)
 | 0, _, _ => none
 | k0 + 1, x4, x5 => (if decide (x5 < (p0.length : Int)) then (if 0 ≤ x5 ∧ x5 < (p0.length : Int) then slices_Min_l0 p0 k0 (if (p0.getD x5.toNat 0) < x4 then (p0.getD x5.toNat 0) else x4) (w64 (x5 + 1)) else none) else some x4)
def slices_Min (k : Nat) (p0 : List Int) : Option (Int) :=
 ((if decide ((p0.length : Int) < 1) then none else some ()) : Option (Unit)).bind fun s2 => (if 0 ≤ (0 : Int) ∧ (0 : Int) < (p0.length : Int) then (slices_Min_l0 p0 k (p0.getD (0 : Int).toNat 0) 1 : Option (Int)).bind fun s8 => some s8 else none)
set_option maxRecDepth 100000 in
theorem slices_Min_ac (k : Nat) (p0 : List Int) (r : Int) (h : slices_Min k p0 = some r) : AC Try.prog 104 [.d (.sl none (intsD p0))] [] (fun res H' => res = [iV r] ∧ H' = []) := by
 refine AC_of_body true Try.func104 rfl Try.ntmps104 (rvs := [.tmp 2]) rfl rfl (fun G hG => ?_)
 have hm : G.H.length = 0 := by rw [hG]; rfl
 have hz : zeroG G.H = true := by rw [hG]; rfl
 unfold slices_Min at h
 refine kR ?_
 refine kN 1 rfl ?_
 refine kB (fun s2 => [(0, .d (.sl none (intsD p0)))]) (fun s2 => []) h (fun s2 h => ?_) (fun s2 h => ?_)
 ·refine kR ?_
  refine kM 1 rfl ?_
  refine AOps_q 6 _ rfl rfl rfl (QOp_len_sl _ _ _ _ _ _ _ (intsD_length _) rfl rfl rfl rfl Try.underlying24 rfl) ?_
  refine AOps_q 7 _ rfl rfl rfl (QOp_lss _ _ _ _ _ _ _ rfl rfl rfl) ?_
  refine AOps_nil ?_
  refine kI h rfl (fun h _ => ?_) (fun h _ => ?_)
  ·refine (ACode_region ?_)
   cases h
  refine ACode_skip ?_
  cases h
  exact Weak_keep 0 hm [0] [] _ _ rfl rfl rfl
 refine kR ?_
 refine kM 1 rfl ?_
 obtain ⟨hc3, h⟩ := guardO h
 refine AOps_q 10 _ rfl rfl rfl (QOp_indexAddr_sl _ _ _ _ _ _ _ _ rfl Try.underlying24 Try.sizeOf2 hc3.1 (by rw [intsD_length]; exact hc3.2) rfl rfl) ?_
 refine AOps_q 11 _ rfl rfl rfl (QOp_load_pv _ _ _ _ _ rfl Try.isAgg2 rfl (intsD_get _ _ 0 (by omega))) ?_
 refine kN 1 rfl ?_
 refine kB (fun s8 => [(3, iV s8)]) (fun s8 => []) h (fun s8 h => ?_) (fun s8 h => ?_)
 ·refine kR ?_
  refine kN 1 rfl ?_
  refine ACode_block ?_
  refine ACode_loopW (fun k0 E H => ∃ (x4 : Int) (x5 : Int), E = [(0, .d (.sl none (intsD p0))), (3, iV x4), (4, iV x5)] ∧ H = [] ∧ slices_Min_l0 p0 k0 x4 x5 = some s8) k _ _ (Weak_keep 0 hm [0, 3, 4] [] _ _ rfl rfl rfl) ⟨_, _, rfl, rfl, h⟩ ?_
  clear h
  rintro k0 E H ⟨x4, x5, rfl, rfl, h⟩
  cases k0 with
  | zero => cases (show (none : Option (Int)) = some _ from h)
  | succ k0 =>
   rw [slices_Min_l0] at h
   refine ACode_seq ?_
   refine kR ?_
   refine kM 2 rfl ?_
   refine AOps_q 14 _ rfl rfl rfl (QOp_len_sl _ _ _ _ _ _ _ (intsD_length _) rfl rfl rfl rfl Try.underlying24 rfl) ?_
   refine AOps_q 15 _ rfl rfl rfl (QOp_lss _ _ _ _ _ _ _ rfl rfl rfl) ?_
   refine AOps_nil ?_
   refine kI h rfl (fun h _ => ?_) (fun h _ => ?_)
   ·refine ACode_skip ?_
    refine ACode_seq ?_
    refine ACode_block ?_
    refine (ACode_region ?_)
    refine kM 3 rfl ?_
    obtain ⟨hc7, h⟩ := guardO h
    refine AOps_q 21 _ rfl rfl rfl (QOp_indexAddr_sl _ _ _ _ _ _ _ _ rfl Try.underlying24 Try.sizeOf2 hc7.1 (by rw [intsD_length]; exact hc7.2) rfl rfl) ?_
    refine AOps_q 22 _ rfl rfl rfl (QOp_load_pv _ _ _ _ _ rfl Try.isAgg2 rfl (intsD_get _ _ 0 (by omega))) ?_
    refine AOps_q 23 _ rfl rfl rfl (QOp_min _ _ _ _ _ _ rfl rfl rfl rfl rfl) ?_
    refine kN 1 rfl ?_
    refine (ACode_region ?_)
    refine kM 1 rfl ?_
    refine AOps_q 17 _ rfl rfl rfl (QOp_add _ _ _ _ _ _ _ rfl rfl rfl) ?_
    refine kN 1 rfl ?_
    exact ⟨k0, _, _, Nat.lt_succ_self _, Weak_keep 0 hm [0, 3, 4] [] _ _ rfl rfl rfl, _, _, rfl, rfl, h⟩
   refine ACode_exit ?_
   cases h
   exact Weak_keep 0 hm [3] [] _ _ rfl rfl rfl
 refine kR ?_
 refine kN 2 rfl ?_
 refine ACode_ret ?_
 cases h
 exact ⟨_, _, fun r a w h => ⟨r, h⟩, _, _, [], _, (.cons (ResV_tmp _ _ rfl) .nil), rfl, rfl, rfl, rfl, rfl⟩

-- loop.example/g01362/impl.firstAvoiding$1
def impl_firstAvoiding_c1 (p0 : Col) (p1 : Col) : Bool × Col :=
 (false, p0)
set_option maxRecDepth 100000 in
theorem impl_firstAvoiding_c1_ac (p0 : Col) (p1 : Col) : AC Try.prog 93 [.d (.pv (colD p0) 0), .ptr 0 0] [.box (colD p1)] (fun res H' => res = [bV ((impl_firstAvoiding_c1 p0 p1).1)] ∧ H' = [.box (colD ((impl_firstAvoiding_c1 p0 p1).2))]) := by
 refine AC_of_body true Try.func93 rfl Try.ntmps93 (rvs := [.tmp 3]) rfl rfl (fun G hG => ?_)
 have hm : G.H.length = 1 := by rw [hG]; rfl
 have hz : zeroG G.H = true := by rw [hG]; rfl
 obtain ⟨r, h⟩ : ∃ r, impl_firstAvoiding_c1 p0 p1 = r := ⟨_, rfl⟩
 rw [h]
 unfold impl_firstAvoiding_c1 at h
 refine kR ?_
 refine kN 1 rfl ?_
 refine kR ?_
 refine kM 1 rfl ?_
 refine AOps_q 5 _ rfl rfl rfl (QOp_nilCheck_pv _ _ _ rfl rfl) ?_
 refine AOps_q 6 _ rfl rfl rfl (QOp_loadN_pv _ _ _ _ _ _ rfl Try.isAgg29 Try.sizeOf29 rfl (colD_all _) (colD_length _)) ?_
 refine AOps_store _ _ _ _ _ _ (colD _) _ _ rfl rfl rfl rfl rfl rfl rfl (colD_one _) (by rw [colD_length]; exact Try.sizeOf29) (by rw [colD_length, colD_length]; decide) (colD_whole _ _) ?_
 refine AOps_nil ?_
 refine kR ?_
 refine kN 1 rfl ?_
 refine ACode_ret ?_
 cases h
 exact ⟨_, _, fun r a w h => ⟨r, h⟩, _, _, [], _, (.cons (ResV_tmp _ _ rfl) .nil), rfl, rfl, rfl, rfl, rfl⟩

-- loop.example/g01362/impl.number
def impl_number (p0 : Int) (p1 : Int) : Int :=
 w64 ((w64 ((w64 ((if p0 < p1 then p1 else p0) * (w64 ((if p0 < p1 then p1 else p0) - 1)))).tdiv 2)) + (if p1 < p0 then p1 else p0))
set_option maxRecDepth 100000 in
theorem impl_number_ac (p0 : Int) (p1 : Int) : AC Try.prog 108 [iV p0, iV p1] [] (fun res H' => res = [iV (impl_number p0 p1)] ∧ H' = []) := by
 refine AC_of_body true Try.func108 rfl Try.ntmps108 (rvs := [.tmp 4]) rfl rfl (fun G hG => ?_)
 have hm : G.H.length = 0 := by rw [hG]; rfl
 have hz : zeroG G.H = true := by rw [hG]; rfl
 obtain ⟨r, h⟩ : ∃ r, impl_number p0 p1 = r := ⟨_, rfl⟩
 rw [h]
 unfold impl_number at h
 refine kR ?_
 refine kN 1 rfl ?_
 refine kR ?_
 refine kM 2 rfl ?_
 refine AOps_q 7 _ rfl rfl rfl (QOp_min _ _ _ _ _ _ rfl rfl rfl rfl rfl) ?_
 refine kM 2 rfl ?_
 refine AOps_q 10 _ rfl rfl rfl (QOp_max _ _ _ _ _ _ rfl rfl rfl rfl rfl) ?_
 refine kN 2 rfl ?_
 refine kR ?_
 refine kM 2 rfl ?_
 refine AOps_q 13 _ rfl rfl rfl (QOp_sub _ _ _ _ _ _ _ rfl rfl rfl) ?_
 refine AOps_q 14 _ rfl rfl rfl (QOp_mul _ _ _ _ _ _ _ rfl rfl rfl) ?_
 refine AOps_q 15 _ rfl rfl rfl (QOp_quo _ _ _ _ _ _ _ (by decide) rfl rfl rfl) ?_
 refine kM 1 rfl ?_
 refine AOps_q 17 _ rfl rfl rfl (QOp_add _ _ _ _ _ _ _ rfl rfl rfl) ?_
 refine kN 1 rfl ?_
 refine ACode_ret ?_
 cases h
 exact ⟨_, _, fun r a w h => ⟨r, h⟩, _, _, [], _, (.cons (ResV_tmp _ _ rfl) .nil), rfl, rfl, rfl, rfl, rfl⟩

-- (*loop.example/g01362/impl.Colouring).at
def impl_Colouring_at (p0 : Col) (p1 : Int) (p2 : Int) : Option (Int) :=
 (if 0 ≤ (impl_number p1 p2) ∧ (impl_number p1 p2) < 136 then some ((p0.get ((impl_number p1 p2).toNat)).toNat : Int) else none)
set_option maxRecDepth 100000 in
theorem impl_Colouring_at_ac (p0 : Col) (p1 : Int) (p2 : Int) (r : Int) (h : impl_Colouring_at p0 p1 p2 = some r) : AC Try.prog 63 [.d (.pv (colD p0) 0), iV p1, iV p2] [] (fun res H' => res = [iV r] ∧ H' = []) := by
 refine AC_of_body true Try.func63 rfl Try.ntmps63 (rvs := [.tmp 6]) rfl rfl (fun G hG => ?_)
 have hm : G.H.length = 0 := by rw [hG]; rfl
 have hz : zeroG G.H = true := by rw [hG]; rfl
 unfold impl_Colouring_at at h
 refine kR ?_
 refine kN 1 rfl ?_
 refine ACode_seq (ACode_quiet mixed (by kernel_rfl) ?_)
 refine kQ 3 rfl ?_
 refine AQ_call 10 _ _ _ _ _ _ _ _ _ rfl rfl rfl rfl rfl rfl rfl Try.call108 rfl rfl rfl (impl_number_ac p1 p2) ?_
 refine AQ_q 11 _ rfl rfl rfl (QOp_nilCheck_pv _ _ _ rfl rfl) ?_
 refine AQ_q 12 _ rfl rfl rfl (QOp_fieldAddr_pv _ _ _ _ _ 2 _ _ rfl Try.underlying29 rfl _ Try.sizeOf27 rfl rfl) ?_
 obtain ⟨hc2, h⟩ := guardO h
 refine AQ_q 13 _ rfl rfl rfl (QOp_indexAddrA_pv _ _ _ _ _ _ _ _ _ rfl Try.underlying27 Try.sizeOf5 hc2.1 hc2.2 rfl rfl) ?_
 refine AQ_q 14 _ rfl rfl rfl (QOp_load_pv _ _ _ _ _ rfl Try.isAgg5 rfl (colD_get _ _ (by omega))) ?_
 refine AQ_q 15 _ rfl rfl rfl (QOp_fromByte _ _ _ _ _ rfl rfl Try.underlying2 wrap_i64_byte rfl) ?_
 refine kQ 1 rfl ?_
 refine AQ_nil ?_
 refine ACode_ret ?_
 cases h
 exact ⟨_, _, fun r a w h => ⟨r, h⟩, _, _, [], _, (.cons (ResV_tmp _ _ rfl) .nil), rfl, rfl, rfl, rfl, rfl⟩

-- (*loop.example/g01362/impl.Colouring).joins
def impl_Colouring_joins (p0 : Col) (p1 : Int) (p2 : Int) (p3 : Int) : Option (Bool) :=
 ((if !decide (p1 = p2) then (impl_Colouring_at p0 p1 p2).bind fun r2 => some (decide (r2 = p3)) else some false) : Option (Bool)).bind fun s3 => some s3
set_option maxRecDepth 100000 in
theorem impl_Colouring_joins_ac (p0 : Col) (p1 : Int) (p2 : Int) (p3 : Int) (r : Bool) (h : impl_Colouring_joins p0 p1 p2 p3 = some r) : AC Try.prog 62 [.d (.pv (colD p0) 0), iV p1, iV p2, iV p3] [] (fun res H' => res = [bV r] ∧ H' = []) := by
 refine AC_of_body true Try.func62 rfl Try.ntmps62 (rvs := [.tmp 8]) rfl rfl (fun G hG => ?_)
 have hm : G.H.length = 0 := by rw [hG]; rfl
 have hz : zeroG G.H = true := by rw [hG]; rfl
 unfold impl_Colouring_joins at h
 refine kR ?_
 refine kN 1 rfl ?_
 refine kB (fun s3 => [(8, bV s3)]) (fun s3 => []) h (fun s3 h => ?_) (fun s3 h => ?_)
 ·refine (ACode_region ?_)
  refine kM 2 rfl ?_
  refine AOps_q 11 _ rfl rfl rfl (QOp_neq _ _ _ _ _ _ _ rfl rfl rfl) ?_
  refine kM 1 rfl ?_
  refine AOps_case 12 _ rfl (fun hb1 => ?_) (fun hb1 => ?_)
  ·have h := iteT hb1 h
   refine kM 3 rfl ?_
   obtain ⟨r2, hr2, h⟩ := bindO h
   refine kC [] 16 (iV r2) [] rfl Try.call63 rfl rfl (impl_Colouring_at_ac p0 p1 p2 _ hr2) rfl ?_
   refine kM 1 rfl ?_
   refine AOps_q 18 _ rfl rfl rfl (QOp_eql _ _ _ _ _ _ _ rfl rfl rfl) ?_
   refine kN 2 rfl ?_
   cases h
   exact Weak_keep 0 hm [8] [] _ _ rfl rfl rfl
  have h := iteF hb1 h
  refine AOps_skip 13 rfl rfl rfl ?_
  refine AOps_skip 14 rfl rfl rfl ?_
  refine AOps_skip 15 rfl rfl rfl ?_
  refine AOps_skip 16 rfl rfl rfl ?_
  refine AOps_skip 17 rfl rfl rfl ?_
  refine AOps_skip 18 rfl rfl rfl ?_
  refine kN 2 rfl ?_
  cases h
  exact Weak_keep 0 hm [8] [] _ _ rfl rfl rfl
 refine ACode_ret ?_
 cases h
 exact ⟨_, _, fun r a w h => ⟨r, h⟩, _, _, [], _, (.cons (ResV_tmp _ _ rfl) .nil), rfl, rfl, rfl, rfl, rfl⟩

-- (*loop.example/g01362/impl.Colouring).hasClique
def impl_Colouring_hasClique_l1 (p0 : Col) (p1 : Int) (p3 : List Int) (x4 : Int) : Nat → Int → (List Int) → Option (List Int)
 | 0, _, _ => none
 | k1 + 1, x8, x9 => (if decide (x8 < (((p3.take p3.length).drop (w64 (x4 + 1)).toNat).length : Int)) then ((if 0 ≤ x8 ∧ x8 < (((p3.take p3.length).drop (w64 (x4 + 1)).toNat).length : Int) then (impl_Colouring_joins p0 (p3.getD x4.toNat 0) (((p3.take p3.length).drop (w64 (x4 + 1)).toNat).getD x8.toNat 0) p1).bind fun r12 => (if r12 then (if x9.length + ([(((p3.take p3.length).drop (w64 (x4 + 1)).toNat).getD x8.toNat 0)]).length ≤ 1099511627776 then some (x9 ++ ([(((p3.take p3.length).drop (w64 (x4 + 1)).toNat).getD x8.toNat 0)])) else none) else some x9) else none) : Option (List Int)).bind fun s15 => impl_Colouring_hasClique_l1 p0 p1 p3 x4 k1 (w64 (x8 + 1)) s15 else some x9)
def impl_Colouring_hasClique_l0 (k : Nat) (self : Col → Int → Int → (List Int) → Option (Bool)) (p0 : Col) (p1 : Int) (p2 : Int) (p3 : List Int) : Nat → Int → Option (Sum (Unit) (Bool))
 | 0, _ => none
 | k0 + 1, x4 => (if decide (x4 < (p3.length : Int)) then ((if 0 ≤ x4 ∧ x4 < (p3.length : Int) then ((if 0 ≤ w64 (x4 + 1) ∧ w64 (x4 + 1) ≤ (p3.length : Int) ∧ (p3.length : Int) ≤ (p3.length : Int) then impl_Colouring_hasClique_l1 p0 p1 p3 x4 k 0 ([] : List Int) else none) : Option (List Int)).bind fun s16 => (self p0 p1 (w64 (p2 - 1)) s16).bind fun r17 => (if r17 then (some (.inr true)).bind fun rr => some (.inr rr) else some (.inl ())) else none) : Option (Sum (Unit) (Sum (Unit) (Bool)))).bind fun os19 => (match os19 with | .inl s19 => impl_Colouring_hasClique_l0 k self p0 p1 p2 p3 k0 (w64 (x4 + 1)) | .inr rr => some rr) else some (.inl ()))
def impl_Colouring_hasClique_body (self : Col → Int → Int → (List Int) → Option (Bool)) (k : Nat) (p0 : Col) (p1 : Int) (p2 : Int) (p3 : List Int) : Option (Bool) :=
 (if decide (p2 ≤ 0) then some true else (if decide ((impl_size p3) < p2) then some false else (impl_Colouring_hasClique_l0 k self p0 p1 p2 p3 k 0 : Option (Sum (Unit) (Bool))).bind fun os20 => (match os20 with | .inl s20 => some false | .inr rr => some rr)))
def impl_Colouring_hasClique : Nat → Col → Int → Int → (List Int) → Option (Bool)
 | 0, _, _, _, _ => none
 | k + 1, p0, p1, p2, p3 => impl_Colouring_hasClique_body (impl_Colouring_hasClique k) k p0 p1 p2 p3
set_option maxRecDepth 100000 in
theorem impl_Colouring_hasClique_ac (k : Nat) (p0 : Col) (p1 : Int) (p2 : Int) (p3 : List Int) (r : Bool) (h : impl_Colouring_hasClique k p0 p1 p2 p3 = some r) : AC Try.prog 64 [.d (.pv (colD p0) 0), iV p1, iV p2, .d (.sl none (intsD p3))] [] (fun res H' => res = [bV r] ∧ H' = []) := by
 induction k generalizing p0 p1 p2 p3 r with
 | zero => simp [impl_Colouring_hasClique] at h
 | succ k ih =>
  rw [impl_Colouring_hasClique] at h
  obtain ⟨self, hself, hk⟩ : ∃ self : Col → Int → Int → (List Int) → Option (Bool), (∀ (p0 : Col) (p1 : Int) (p2 : Int) (p3 : List Int) (r : Bool), self p0 p1 p2 p3 = some r → AC Try.prog 64 [.d (.pv (colD p0) 0), iV p1, iV p2, .d (.sl none (intsD p3))] [] (fun res H' => res = [bV r] ∧ H' = [])) ∧ impl_Colouring_hasClique k = self := ⟨impl_Colouring_hasClique k, fun p0 p1 p2 p3 r h => ih p0 p1 p2 p3 r h, rfl⟩
  rw [hk] at h
  clear ih hk
  refine AC_of_body true Try.func64 rfl Try.ntmps64 (rvs := [.tmp 8]) rfl rfl (fun G hG => ?_)
  have hm : G.H.length = 0 := by rw [hG]; rfl
  have hz : zeroG G.H = true := by rw [hG]; rfl
  unfold impl_Colouring_hasClique_body at h
  refine kR ?_
  refine kN 1 rfl ?_
  refine ACode_seq ?_
  refine kR ?_
  refine kM 1 rfl ?_
  refine AOps_q 15 _ rfl rfl rfl (QOp_leq _ _ _ _ _ _ _ rfl rfl rfl) ?_
  refine AOps_nil ?_
  refine kI h rfl (fun h _ => ?_) (fun h _ => ?_)
  ·refine kR ?_
   refine kN 1 rfl ?_
   refine ACode_ret ?_
   cases h
   exact ⟨_, _, fun r a w h => ⟨r, h⟩, _, _, [], _, (.cons (ResV_tmp _ _ rfl) .nil), rfl, rfl, rfl, rfl, rfl⟩
  refine ACode_skip ?_
  refine ACode_seq ?_
  refine kR ?_
  refine kM 1 rfl ?_
  refine kC [] 17 (iV (impl_size p3)) [] rfl Try.call55 rfl rfl (impl_size_ac p3) rfl ?_
  refine kM 1 rfl ?_
  refine AOps_q 19 _ rfl rfl rfl (QOp_lss _ _ _ _ _ _ _ rfl rfl rfl) ?_
  refine AOps_nil ?_
  refine kI h rfl (fun h _ => ?_) (fun h _ => ?_)
  ·refine kR ?_
   refine kN 1 rfl ?_
   refine ACode_ret ?_
   cases h
   exact ⟨_, _, fun r a w h => ⟨r, h⟩, _, _, [], _, (.cons (ResV_tmp _ _ rfl) .nil), rfl, rfl, rfl, rfl, rfl⟩
  refine ACode_skip ?_
  refine kO (fun s20 => []) (fun s20 => []) h (fun os20 h hks20 => ?_) (fun s20 h => ?_)
  ·refine kR ?_
   refine kM 1 rfl ?_
   refine AOps_q 21 _ rfl rfl rfl (QOp_len_sl _ _ _ _ _ _ _ (intsD_length _) rfl rfl rfl rfl Try.underlying24 rfl) ?_
   refine kN 1 rfl ?_
   refine ACode_block ?_
   refine ACode_loopW (fun k0 E H => ∃ (x4 : Int), E = [(0, .d (.pv (colD p0) 0)), (1, iV p1), (2, iV p2), (3, .d (.sl none (intsD p3))), (20, .d (.sl none (intsD p3))), (21, iV (p3.length : Int)), (22, iV x4)] ∧ H = [] ∧ impl_Colouring_hasClique_l0 k self p0 p1 p2 p3 k0 x4 = some os20) k _ _ (Weak_keep 0 hm [0, 1, 2, 3, 20, 21, 22] [] _ _ rfl rfl rfl) ⟨_, rfl, rfl, h⟩ ?_
   clear h
   rintro k0 E H ⟨x4, rfl, rfl, h⟩
   cases k0 with
   | zero => cases (show (none : Option (Sum (Unit) (Bool))) = some _ from h)
   | succ k0 =>
    rw [impl_Colouring_hasClique_l0] at h
    refine kR ?_
    refine AOps_q 23 _ rfl rfl rfl (QOp_lss _ _ _ _ _ _ _ rfl rfl rfl) ?_
    refine AOps_nil ?_
    refine ACode_seq ?_
    refine kI h rfl (fun h _ => ?_) (fun h _ => ?_)
    ·refine ACode_skip ?_
     refine kO (fun s19 => [(0, .d (.pv (colD p0) 0)), (1, iV p1), (2, iV p2), (3, .d (.sl none (intsD p3))), (20, .d (.sl none (intsD p3))), (21, iV (p3.length : Int)), (22, iV x4)]) (fun s19 => []) h (fun os19 h hks19 => ?_) (fun s19 h => ?_)
     ·refine ACode_block ?_
      refine kR ?_
      refine kM 1 rfl ?_
      obtain ⟨hc6, h⟩ := guardO h
      refine AOps_q 25 _ rfl rfl rfl (QOp_indexAddr_sl _ _ _ _ _ _ _ _ rfl Try.underlying24 Try.sizeOf2 hc6.1 (by rw [intsD_length]; exact hc6.2) rfl rfl) ?_
      refine AOps_q 26 _ rfl rfl rfl (QOp_load_pv _ _ _ _ _ rfl Try.isAgg2 rfl (intsD_get _ _ 0 (by omega))) ?_
      refine kN 2 rfl ?_
      refine kR ?_
      refine AOps_buildSlice 27 _ _ _ [] (intsD ([] : List Int)) _ rfl rfl rfl rfl rfl (by decide) Try.underlying24 Try.sizeOf2 (zero_of Try.typeInfo2 rfl) rfl rfl (intsD_one _) ?_
      refine kN 1 rfl ?_
      refine kB (fun s16 => [(0, .d (.pv (colD p0) 0)), (1, iV p1), (2, iV p2), (3, .d (.sl none (intsD p3))), (11, .vec 0 0), (20, .d (.sl none (intsD p3))), (21, iV (p3.length : Int)), (22, iV x4)]) (fun s16 => [.vec 0 (intsD s16)]) h (fun s16 h => ?_) (fun s16 h => ?_)
      ·refine kR ?_
       refine kM 2 rfl ?_
       refine AOps_q 30 _ rfl rfl rfl (QOp_add _ _ _ _ _ _ _ rfl rfl rfl) ?_
       obtain ⟨hc7, h⟩ := guardO h
       refine AOps_q 31 _ rfl rfl rfl (QOp_slice_sl _ _ _ _ _ _ _ _ ((w64 (x4 + 1)).toNat) (p3.length) rfl Try.underlying24 Try.sizeOf2 rfl ⟨_, by rw [Int.toNat_of_nonneg (by omega)]; rfl⟩ (by rw [intsD_length]) (by omega) (by rw [intsD_length]; omega) (intsD_part _ _ _)) ?_
       refine AOps_q 32 _ rfl rfl rfl (QOp_len_sl _ _ _ _ _ _ _ (intsD_length _) rfl rfl rfl rfl Try.underlying24 rfl) ?_
       refine kN 1 rfl ?_
       refine ACode_block ?_
       refine ACode_loopW (fun k1 E H => ∃ (x8 : Int) (x9 : List Int), E = [(0, .d (.pv (colD p0) 0)), (1, iV p1), (2, iV p2), (3, .d (.sl none (intsD p3))), (10, iV (p3.getD x4.toNat 0)), (11, .vec 0 0), (20, .d (.sl none (intsD p3))), (21, iV (p3.length : Int)), (22, iV x4), (31, .d (.sl none (intsD ((p3.take p3.length).drop (w64 (x4 + 1)).toNat)))), (32, iV (((p3.take p3.length).drop (w64 (x4 + 1)).toNat).length : Int)), (33, iV x8)] ∧ H = [.vec 0 (intsD x9)] ∧ impl_Colouring_hasClique_l1 p0 p1 p3 x4 k1 x8 x9 = some s16) k _ _ (Weak_keep 0 hm [0, 1, 2, 3, 10, 11, 20, 21, 22, 31, 32, 33] [0] _ _ rfl rfl rfl) ⟨_, _, rfl, rfl, h⟩ ?_
       clear h
       rintro k1 E H ⟨x8, x9, rfl, rfl, h⟩
       cases k1 with
       | zero => cases (show (none : Option (List Int)) = some _ from h)
       | succ k1 =>
        rw [impl_Colouring_hasClique_l1] at h
        refine kR ?_
        refine AOps_q 34 _ rfl rfl rfl (QOp_lss _ _ _ _ _ _ _ rfl rfl rfl) ?_
        refine AOps_nil ?_
        refine ACode_seq ?_
        refine kI h rfl (fun h _ => ?_) (fun h _ => ?_)
        ·refine ACode_skip ?_
         refine kB (fun s15 => [(0, .d (.pv (colD p0) 0)), (1, iV p1), (2, iV p2), (3, .d (.sl none (intsD p3))), (10, iV (p3.getD x4.toNat 0)), (11, .vec 0 0), (20, .d (.sl none (intsD p3))), (21, iV (p3.length : Int)), (22, iV x4), (31, .d (.sl none (intsD ((p3.take p3.length).drop (w64 (x4 + 1)).toNat)))), (32, iV (((p3.take p3.length).drop (w64 (x4 + 1)).toNat).length : Int)), (33, iV x8)]) (fun s15 => [.vec 0 (intsD s15)]) h (fun s15 h => ?_) (fun s15 h => ?_)
         ·refine ACode_block ?_
          refine kR ?_
          obtain ⟨hc11, h⟩ := guardO h
          refine AOps_q 35 _ rfl rfl rfl (QOp_indexAddr_sl _ _ _ _ _ _ _ _ rfl Try.underlying24 Try.sizeOf2 hc11.1 (by rw [intsD_length]; exact hc11.2) rfl rfl) ?_
          refine AOps_q 36 _ rfl rfl rfl (QOp_load_pv _ _ _ _ _ rfl Try.isAgg2 rfl (intsD_get _ _ 0 (by omega))) ?_
          refine kN 1 rfl ?_
          refine kR ?_
          refine kM 4 rfl ?_
          obtain ⟨r12, hr12, h⟩ := bindO h
          refine kC [] 41 (bV r12) [.vec 0 (intsD x9)] rfl Try.call62 rfl rfl (impl_Colouring_joins_ac p0 (p3.getD x4.toNat 0) (((p3.take p3.length).drop (w64 (x4 + 1)).toNat).getD x8.toNat 0) p1 _ hr12) rfl ?_
          refine AOps_nil ?_
          refine kI h rfl (fun h _ => ?_) (fun h _ => ?_)
          ·refine (ACode_region ?_)
           refine kM 2 rfl ?_
           refine AOps_buildSlice 44 _ _ _ [_] (intsD ([(((p3.take p3.length).drop (w64 (x4 + 1)).toNat).getD x8.toNat 0)])) _ rfl rfl rfl rfl rfl (by decide) Try.underlying24 Try.sizeOf2 (zero_of Try.typeInfo2 rfl) rfl rfl (intsD_one _) ?_
           obtain ⟨hc14, h⟩ := guardO h
           refine AOps_append 45 _ _ _ _ _ _ _ _ _ _ _ _ rfl rfl rfl rfl rfl rfl rfl Try.underlying24 Try.type2 rfl rfl rfl (by decide) rfl rfl rfl rfl (intsD_one _) (by rw [intsD_length, intsD_length]; exact hc14) ?_
           rw [intsD_app]
           refine kN 1 rfl ?_
           cases h
           exact Weak_trans (Weak_keep 0 hm [0, 1, 2, 3, 10, 11, 20, 21, 22, 31, 32, 33] [0] _ _ rfl rfl rfl) (Weak_reset 0 hm hz [0, 1, 2, 3, 10, 11, 20, 21, 22, 31, 32, 33] _ _ rfl rfl)
          refine ACode_skip ?_
          cases h
          exact Weak_keep 0 hm [0, 1, 2, 3, 10, 11, 20, 21, 22, 31, 32, 33] [0] _ _ rfl rfl rfl
         refine (ACode_region ?_)
         refine AOps_q 46 _ rfl rfl rfl (QOp_add _ _ _ _ _ _ _ rfl rfl rfl) ?_
         refine kN 1 rfl ?_
         exact ⟨k1, _, _, Nat.lt_succ_self _, Weak_keep 0 hm [0, 1, 2, 3, 10, 11, 20, 21, 22, 31, 32, 33] [0] _ _ rfl rfl rfl, _, _, rfl, rfl, h⟩
        refine ACode_exit ?_
        cases h
        exact Weak_keep 0 hm [0, 1, 2, 3, 11, 20, 21, 22] [0] _ _ rfl rfl rfl
      refine kR ?_
      refine kM 3 rfl ?_
      refine AOps_q 50 _ rfl rfl rfl (QOp_sub _ _ _ _ _ _ _ rfl rfl rfl) ?_
      refine kM 1 rfl ?_
      obtain ⟨r17, hr17, h⟩ := bindO h
      refine AOps_callL [] 52 _ _ _ _ _ _ _ _ _ _ rfl rfl rfl rfl rfl rfl rfl Try.call64 rfl (nodupB_sound _ rfl) rfl rfl rfl (hself p0 p1 (w64 (p2 - 1)) s16 _ hr17) ?_
      rintro _ _ ⟨rfl, rfl⟩
      refine ⟨(fun _ h => nomatch h), (allc (flat_s _) (fun _ h => nomatch h)), AOps_as 52 (v' := bV r17) (H' := [.vec 0 (intsD s16)]) rfl rfl ?_⟩
      refine AOps_nil ?_
      refine kI h rfl (fun h _ => ?_) (fun h _ => ?_)
      ·refine kR ?_
       refine kN 1 rfl ?_
       refine ACode_ret ?_
       obtain ⟨rr, hz21, h2⟩ := bindO h
       obtain rfl := Option.some.inj h2
       obtain rfl := Option.some.inj (show some rr = some _ from hks19)
       have h := hz21
       cases h
       have h := hks20
       cases h
       exact ⟨_, _, fun r a w h => ⟨r, h⟩, _, _, [], _, (.cons (ResV_tmp _ _ rfl) .nil), rfl, rfl, rfl, rfl, rfl⟩
      refine ACode_skip ?_
      cases h
      exact ⟨_, rfl, Weak_keep 0 hm [0, 1, 2, 3, 20, 21, 22] [] _ _ rfl rfl rfl⟩
     refine (ACode_region ?_)
     refine AOps_q 53 _ rfl rfl rfl (QOp_add _ _ _ _ _ _ _ rfl rfl rfl) ?_
     refine kN 1 rfl ?_
     exact ⟨k0, _, _, Nat.lt_succ_self _, Weak_keep 0 hm [0, 1, 2, 3, 20, 21, 22] [] _ _ rfl rfl rfl, _, rfl, rfl, h⟩
    refine ACode_exit ?_
    cases h
    exact ⟨_, rfl, Weak_keep 0 hm [] [] _ _ rfl rfl rfl⟩
  refine kR ?_
  refine kN 1 rfl ?_
  refine ACode_ret ?_
  cases h
  exact ⟨_, _, fun r a w h => ⟨r, h⟩, _, _, [], _, (.cons (ResV_tmp _ _ rfl) .nil), rfl, rfl, rfl, rfl, rfl⟩

-- (*loop.example/g01362/impl.Colouring).put
def impl_Colouring_put (p0 : Col) (p1 : Int) (p2 : Int) (p3 : Int) : Option (Col) :=
 (if 0 ≤ (impl_number p1 p2) ∧ (impl_number p1 p2) < 136 then some (p0.set ((impl_number p1 p2).toNat) (toByte p3)) else none)
set_option maxRecDepth 100000 in
theorem impl_Colouring_put_ac (p0 : Col) (p1 : Int) (p2 : Int) (p3 : Int) (r : Col) (h : impl_Colouring_put p0 p1 p2 p3 = some r) : AC Try.prog 72 [.ptr 0 0, iV p1, iV p2, iV p3] [.box (colD p0)] (fun res H' => res = [] ∧ H' = [.box (colD r)]) := by
 refine AC_of_body true Try.func72 rfl Try.ntmps72 (rvs := []) rfl rfl (fun G hG => ?_)
 have hm : G.H.length = 1 := by rw [hG]; rfl
 have hz : zeroG G.H = true := by rw [hG]; rfl
 unfold impl_Colouring_put at h
 refine (ACode_last (l := [_, _, _, _, _, _, _, _, _]) mixed (by kernel_rfl) (by kernel_rfl) ?_)
 refine kQ 3 rfl ?_
 refine AQ_call 11 _ _ _ _ _ _ _ _ _ rfl rfl rfl rfl rfl rfl rfl Try.call108 rfl rfl rfl (impl_number_ac p1 p2) ?_
 refine kQ 1 rfl ?_
 refine AQ_q 13 _ rfl rfl rfl (QOp_toByte _ _ _ _ _ rfl rfl Try.underlying5 rfl) ?_
 refine AQ_q 14 _ rfl rfl rfl (QOp_nilCheck_ptr _ _ _ _ rfl rfl rfl rfl) ?_
 refine AQ_q 15 _ rfl rfl rfl (QOp_fieldAddr_ptr _ _ _ _ _ _ 2 _ _ rfl Try.underlying29 rfl _ Try.sizeOf27 rfl rfl rfl rfl) ?_
 obtain ⟨hc2, h⟩ := guardO h
 refine AQ_q 16 _ rfl rfl rfl (QOp_indexAddrA_ptr _ _ _ _ _ _ _ _ _ _ rfl Try.underlying27 Try.sizeOf5 hc2.1 hc2.2 rfl rfl rfl rfl) ?_
 refine AQ_nil ?_
 refine AOps_store1 _ _ _ _ _ _ (colD (p0.set ((impl_number p1 p2).toNat) (toByte p3))) _ rfl rfl rfl rfl rfl rfl rfl Try.sizeOf5 (by rw [colD_length]; omega) (colD_setE p0 ((impl_number p1 p2).toNat) (toByte p3)) ?_
 refine AOps_nil ?_
 cases h
 exact ⟨_, _, fun r a w h => ⟨r, h⟩, _, _, [], _, .nil, rfl, rfl, rfl, rfl, rfl⟩

-- loop.example/g01362/impl.avoiding
def impl_avoiding_on_firstAvoiding_c1_l1 (p2 : Int) (p3 : Int) (x5 : Int) (x6 : Col) : Nat → Int → (List Int) → Option (List Int)
 | 0, _, _ => none
 | k1 + 1, x9, x10 => (if decide (x9 < p2) then (((impl_Colouring_joins x6 x9 p2 x5).bind fun r12 => (if r12 then (impl_Colouring_joins x6 x9 p3 x5).bind fun r14 => some r14 else some false) : Option (Bool)).bind fun s15 => (if s15 then (if x10.length + ([x9]).length ≤ 1099511627776 then some (x10 ++ ([x9])) else none) else some x10) : Option (List Int)).bind fun s18 => impl_avoiding_on_firstAvoiding_c1_l1 p2 p3 x5 x6 k1 (w64 (x9 + 1)) s18 else some x10)
def impl_avoiding_on_firstAvoiding_c1_l0 (k : Nat) (self : Col → (List Int) → Int → Int → Col → Option (Bool × Col × Col)) (p0 : Col) (p1 : List Int) (p2 : Int) (p3 : Int) : Nat → Int → Col → Col → Option (Sum (Col × Col) (Bool × Col × Col))
 | 0, _, _, _ => none
 | k0 + 1, x5, x6, x7 => (if decide (x5 < p0.k) then ((impl_avoiding_on_firstAvoiding_c1_l1 p2 p3 x5 x6 k 0 ([] : List Int) : Option (List Int)).bind fun s19 => (if 0 ≤ x5 ∧ x5 < (p1.length : Int) then (impl_Colouring_hasClique k x6 x5 (w64 ((p1.getD x5.toNat 0) - 2)) s19).bind fun r21 => (if r21 then some (.inl (x6, x7)) else (impl_Colouring_put x6 p2 p3 x5).bind fun r23 => (self r23 p1 (w64 (p2 + 1)) p3 x7).bind fun r24 => (if !r24.1 then (some (.inr (false, r24.2.1, r24.2.2))).bind fun rr => some (.inr rr) else some (.inl (r24.2.1, r24.2.2)))) else none) : Option (Sum (Col × Col) (Sum (Col × Col) (Bool × Col × Col)))).bind fun os26 => (match os26 with | .inl s26 => impl_avoiding_on_firstAvoiding_c1_l0 k self p0 p1 p2 p3 k0 (w64 (x5 + 1)) s26.1 s26.2 | .inr rr => some rr) else some (.inl (x6, x7)))
def impl_avoiding_on_firstAvoiding_c1_body (self : Col → (List Int) → Int → Int → Col → Option (Bool × Col × Col)) (k : Nat) (p0 : Col) (p1 : List Int) (p2 : Int) (p3 : Int) (p4_0 : Col) : Option (Bool × Col × Col) :=
 (if decide (p0.p ≤ p3) then some ((impl_firstAvoiding_c1 p0 p4_0).1, p0, (impl_firstAvoiding_c1 p0 p4_0).2) else (if decide (p2 = p3) then (self p0 p1 0 (w64 (p3 + 1)) p4_0).bind fun r4 => some (r4.1, r4.2.1, r4.2.2) else (impl_avoiding_on_firstAvoiding_c1_l0 k self p0 p1 p2 p3 k 0 p0 p4_0 : Option (Sum (Col × Col) (Bool × Col × Col))).bind fun os27 => (match os27 with | .inl s27 => (impl_Colouring_put s27.1 p2 p3 0).bind fun r28 => some (true, r28, s27.2) | .inr rr => some rr)))
def impl_avoiding_on_firstAvoiding_c1 : Nat → Col → (List Int) → Int → Int → Col → Option (Bool × Col × Col)
 | 0, _, _, _, _, _ => none
 | k + 1, p0, p1, p2, p3, p4_0 => impl_avoiding_on_firstAvoiding_c1_body (impl_avoiding_on_firstAvoiding_c1 k) k p0 p1 p2 p3 p4_0
set_option maxRecDepth 100000 in
theorem impl_avoiding_on_firstAvoiding_c1_ac (k : Nat) (p0 : Col) (p1 : List Int) (p2 : Int) (p3 : Int) (p4_0 : Col) (r : Bool × Col × Col) (h : impl_avoiding_on_firstAvoiding_c1 k p0 p1 p2 p3 p4_0 = some r) : AC Try.prog 105 [.ptr 0 0, .d (.sl none (intsD p1)), iV p2, iV p3, .clo 93 [.ptr 1 0]] [.box (colD p0), .box (colD p4_0)] (fun res H' => res = [bV r.1] ∧ H' = [.box (colD r.2.1), .box (colD r.2.2)]) := by
 induction k generalizing p0 p1 p2 p3 p4_0 r with
 | zero => simp [impl_avoiding_on_firstAvoiding_c1] at h
 | succ k ih =>
  rw [impl_avoiding_on_firstAvoiding_c1] at h
  obtain ⟨self, hself, hk⟩ : ∃ self : Col → (List Int) → Int → Int → Col → Option (Bool × Col × Col), (∀ (p0 : Col) (p1 : List Int) (p2 : Int) (p3 : Int) (p4_0 : Col) (r : Bool × Col × Col), self p0 p1 p2 p3 p4_0 = some r → AC Try.prog 105 [.ptr 0 0, .d (.sl none (intsD p1)), iV p2, iV p3, .clo 93 [.ptr 1 0]] [.box (colD p0), .box (colD p4_0)] (fun res H' => res = [bV r.1] ∧ H' = [.box (colD r.2.1), .box (colD r.2.2)])) ∧ impl_avoiding_on_firstAvoiding_c1 k = self := ⟨impl_avoiding_on_firstAvoiding_c1 k, fun p0 p1 p2 p3 p4_0 r h => ih p0 p1 p2 p3 p4_0 r h, rfl⟩
  rw [hk] at h
  clear ih hk
  refine AC_of_body true Try.func105 rfl Try.ntmps105 (rvs := [.tmp 10]) rfl rfl (fun G hG => ?_)
  have hm : G.H.length = 2 := by rw [hG]; rfl
  have hz : zeroG G.H = true := by rw [hG]; rfl
  unfold impl_avoiding_on_firstAvoiding_c1_body at h
  refine kR ?_
  refine kN 1 rfl ?_
  refine ACode_seq ?_
  refine ACode_block ?_
  refine kR ?_
  refine kM 2 rfl ?_
  refine AOps_q 17 _ rfl rfl rfl (QOp_nilCheck_ptr _ _ _ _ rfl rfl rfl rfl) ?_
  refine AOps_q 18 _ rfl rfl rfl (QOp_fieldAddr_ptr _ _ _ _ _ _ 0 _ _ rfl Try.underlying29 rfl _ Try.sizeOf2 rfl rfl rfl rfl) ?_
  refine AOps_q 19 _ rfl rfl rfl (QOp_load_ptr _ _ _ _ _ _ rfl Try.isAgg2 rfl rfl rfl) ?_
  refine AOps_q 20 _ rfl rfl rfl (QOp_geq _ _ _ _ _ _ _ rfl rfl rfl) ?_
  refine kN 1 rfl ?_
  refine kI h rfl (fun h _ => ?_) (fun h _ => ?_)
  ·refine kR ?_
   refine kM 2 rfl ?_
   refine AOps_callL [1] 23 _ _ _ _ _ _ _ _ _ _ rfl rfl rfl rfl rfl rfl rfl Try.call93 rfl (nodupB_sound _ rfl) rfl rfl rfl (impl_firstAvoiding_c1_ac p0 p4_0) ?_
   rintro _ _ ⟨rfl, rfl⟩
   refine ⟨(allc (colD_flat _) (fun _ h => nomatch h)), (allc (flat_s _) (fun _ h => nomatch h)), AOps_as 23 (v' := bV ((impl_firstAvoiding_c1 p0 p4_0).1)) (H' := [.box (colD p0), .box (colD ((impl_firstAvoiding_c1 p0 p4_0).2))]) rfl rfl ?_⟩
   refine kN 1 rfl ?_
   refine ACode_ret ?_
   cases h
   exact ⟨_, _, fun r a w h => ⟨r, h⟩, _, _, [], _, (.cons (ResV_tmp _ _ rfl) .nil), rfl, rfl, rfl, rfl, rfl⟩
  refine kR ?_
  refine kM 2 rfl ?_
  refine AOps_q 27 _ rfl rfl rfl (QOp_eql _ _ _ _ _ _ _ rfl rfl rfl) ?_
  refine kN 1 rfl ?_
  refine kI h rfl (fun h _ => ?_) (fun h _ => ?_)
  ·refine kR ?_
   refine kM 3 rfl ?_
   refine AOps_q 31 _ rfl rfl rfl (QOp_add _ _ _ _ _ _ _ rfl rfl rfl) ?_
   refine kM 1 rfl ?_
   obtain ⟨r4, hr4, h⟩ := bindO h
   refine kC [0, 1] 33 (bV r4.1) [.box (colD r4.2.1), .box (colD r4.2.2)] rfl Try.call105 rfl rfl (hself p0 p1 0 (w64 (p3 + 1)) p4_0 _ hr4) rfl ?_
   refine kN 1 rfl ?_
   refine ACode_ret ?_
   cases h
   exact ⟨_, _, fun r a w h => ⟨r, h⟩, _, _, [], _, (.cons (ResV_tmp _ _ rfl) .nil), rfl, rfl, rfl, rfl, rfl⟩
  refine ACode_skip ?_
  refine kO (fun s27 => [(0, .ptr 0 0), (2, iV p2), (3, iV p3)]) (fun s27 => [.box (colD s27.1), .box (colD s27.2)]) h (fun os27 h hks27 => ?_) (fun s27 h => ?_)
  ·refine kR ?_
   refine kM 1 rfl ?_
   refine AOps_q 35 _ rfl rfl rfl (QOp_nilCheck_ptr _ _ _ _ rfl rfl rfl rfl) ?_
   refine AOps_q 36 _ rfl rfl rfl (QOp_fieldAddr_ptr _ _ _ _ _ _ 1 _ _ rfl Try.underlying29 rfl _ Try.sizeOf2 rfl rfl rfl rfl) ?_
   refine AOps_q 37 _ rfl rfl rfl (QOp_load_ptr _ _ _ _ _ _ rfl Try.isAgg2 rfl rfl rfl) ?_
   refine kN 1 rfl ?_
   refine ACode_block ?_
   refine ACode_loopW (fun k0 E H => ∃ (x5 : Int) (x6 : Col) (x7 : Col), E = [(0, .ptr 0 0), (1, .d (.sl none (intsD p1))), (2, iV p2), (3, iV p3), (4, .clo 93 [.ptr 1 0]), (37, iV p0.k), (38, iV x5)] ∧ H = [.box (colD x6), .box (colD x7)] ∧ impl_avoiding_on_firstAvoiding_c1_l0 k self p0 p1 p2 p3 k0 x5 x6 x7 = some os27) k _ _ (Weak_keep 2 hm [0, 1, 2, 3, 4, 37, 38] [] _ _ rfl rfl rfl) ⟨_, _, _, rfl, rfl, h⟩ ?_
   clear h
   rintro k0 E H ⟨x5, x6, x7, rfl, rfl, h⟩
   cases k0 with
   | zero => cases (show (none : Option (Sum (Col × Col) (Bool × Col × Col))) = some _ from h)
   | succ k0 =>
    rw [impl_avoiding_on_firstAvoiding_c1_l0] at h
    refine kR ?_
    refine AOps_q 39 _ rfl rfl rfl (QOp_lss _ _ _ _ _ _ _ rfl rfl rfl) ?_
    refine AOps_nil ?_
    refine ACode_seq ?_
    refine kI h rfl (fun h _ => ?_) (fun h _ => ?_)
    ·refine ACode_skip ?_
     refine kO (fun s26 => [(0, .ptr 0 0), (1, .d (.sl none (intsD p1))), (2, iV p2), (3, iV p3), (4, .clo 93 [.ptr 1 0]), (37, iV p0.k), (38, iV x5)]) (fun s26 => [.box (colD s26.1), .box (colD s26.2)]) h (fun os26 h hks26 => ?_) (fun s26 h => ?_)
     ·refine ACode_block ?_
      refine kR ?_
      refine kN 2 rfl ?_
      refine kR ?_
      refine AOps_buildSlice 41 _ _ _ [] (intsD ([] : List Int)) _ rfl rfl rfl rfl rfl (by decide) Try.underlying24 Try.sizeOf2 (zero_of Try.typeInfo2 rfl) rfl rfl (intsD_one _) ?_
      refine kN 1 rfl ?_
      refine kB (fun s19 => [(0, .ptr 0 0), (1, .d (.sl none (intsD p1))), (2, iV p2), (3, iV p3), (4, .clo 93 [.ptr 1 0]), (11, iV x5), (12, .vec 2 0), (37, iV p0.k), (38, iV x5)]) (fun s19 => [.box (colD x6), .box (colD x7), .vec 0 (intsD s19)]) h (fun s19 h => ?_) (fun s19 h => ?_)
      ·refine kR ?_
       refine kN 2 rfl ?_
       refine ACode_block ?_
       refine ACode_loopW (fun k1 E H => ∃ (x9 : Int) (x10 : List Int), E = [(0, .ptr 0 0), (1, .d (.sl none (intsD p1))), (2, iV p2), (3, iV p3), (4, .clo 93 [.ptr 1 0]), (11, iV x5), (12, .vec 2 0), (37, iV p0.k), (38, iV x5), (42, iV p2), (43, iV x9)] ∧ H = [.box (colD x6), .box (colD x7), .vec 0 (intsD x10)] ∧ impl_avoiding_on_firstAvoiding_c1_l1 p2 p3 x5 x6 k1 x9 x10 = some s19) k _ _ (Weak_keep 2 hm [0, 1, 2, 3, 4, 11, 12, 37, 38, 42, 43] [2] _ _ rfl rfl rfl) ⟨_, _, rfl, rfl, h⟩ ?_
       clear h
       rintro k1 E H ⟨x9, x10, rfl, rfl, h⟩
       cases k1 with
       | zero => cases (show (none : Option (List Int)) = some _ from h)
       | succ k1 =>
        rw [impl_avoiding_on_firstAvoiding_c1_l1] at h
        refine kR ?_
        refine AOps_q 44 _ rfl rfl rfl (QOp_lss _ _ _ _ _ _ _ rfl rfl rfl) ?_
        refine AOps_nil ?_
        refine ACode_seq ?_
        refine kI h rfl (fun h _ => ?_) (fun h _ => ?_)
        ·refine ACode_skip ?_
         refine kB (fun s18 => [(0, .ptr 0 0), (1, .d (.sl none (intsD p1))), (2, iV p2), (3, iV p3), (4, .clo 93 [.ptr 1 0]), (11, iV x5), (12, .vec 2 0), (37, iV p0.k), (38, iV x5), (42, iV p2), (43, iV x9)]) (fun s18 => [.box (colD x6), .box (colD x7), .vec 0 (intsD s18)]) h (fun s18 h => ?_) (fun s18 h => ?_)
         ·refine ACode_block ?_
          refine kR ?_
          refine kN 2 rfl ?_
          refine kB (fun s15 => [(0, .ptr 0 0), (1, .d (.sl none (intsD p1))), (2, iV p2), (3, iV p3), (4, .clo 93 [.ptr 1 0]), (11, iV x5), (12, .vec 2 0), (13, iV x9), (37, iV p0.k), (38, iV x5), (42, iV p2), (43, iV x9), (57, bV s15)]) (fun s15 => [.box (colD x6), .box (colD x7), .vec 0 (intsD x10)]) h (fun s15 h => ?_) (fun s15 h => ?_)
          ·refine (ACode_region ?_)
           refine kM 4 rfl ?_
           obtain ⟨r12, hr12, h⟩ := bindO h
           refine AOps_callL [] 50 _ _ _ _ _ _ _ _ _ _ rfl rfl rfl rfl rfl rfl rfl Try.call62 rfl (nodupB_sound _ rfl) rfl rfl rfl (impl_Colouring_joins_ac x6 x9 p2 x5 _ hr12) ?_
           rintro _ _ ⟨rfl, rfl⟩
           refine ⟨(fun _ h => nomatch h), (allc (flat_s _) (fun _ h => nomatch h)), AOps_as 50 (v' := bV r12) (H' := [.box (colD x6), .box (colD x7), .vec 0 (intsD x10)]) rfl rfl ?_⟩
           refine kM 1 rfl ?_
           refine AOps_case 51 _ rfl (fun hb13 => ?_) (fun hb13 => ?_)
           ·have h := iteT hb13 h
            refine kM 4 rfl ?_
            obtain ⟨r14, hr14, h⟩ := bindO h
            refine AOps_callL [] 56 _ _ _ _ _ _ _ _ _ _ rfl rfl rfl rfl rfl rfl rfl Try.call62 rfl (nodupB_sound _ rfl) rfl rfl rfl (impl_Colouring_joins_ac x6 x9 p3 x5 _ hr14) ?_
            rintro _ _ ⟨rfl, rfl⟩
            refine ⟨(fun _ h => nomatch h), (allc (flat_s _) (fun _ h => nomatch h)), AOps_as 56 (v' := bV r14) (H' := [.box (colD x6), .box (colD x7), .vec 0 (intsD x10)]) rfl rfl ?_⟩
            refine kN 1 rfl ?_
            cases h
            exact Weak_keep 2 hm [0, 1, 2, 3, 4, 11, 12, 13, 37, 38, 42, 43, 57] [2] _ _ rfl rfl rfl
           have h := iteF hb13 h
           refine AOps_skip 52 rfl rfl rfl ?_
           refine AOps_skip 53 rfl rfl rfl ?_
           refine AOps_skip 54 rfl rfl rfl ?_
           refine AOps_skip 55 rfl rfl rfl ?_
           refine AOps_skip 56 rfl rfl rfl ?_
           refine kN 1 rfl ?_
           cases h
           exact Weak_keep 2 hm [0, 1, 2, 3, 4, 11, 12, 13, 37, 38, 42, 43, 57] [2] _ _ rfl rfl rfl
          refine kI h rfl (fun h _ => ?_) (fun h _ => ?_)
          ·refine (ACode_region ?_)
           refine kM 2 rfl ?_
           refine AOps_buildSlice 60 _ _ _ [_] (intsD ([x9])) _ rfl rfl rfl rfl rfl (by decide) Try.underlying24 Try.sizeOf2 (zero_of Try.typeInfo2 rfl) rfl rfl (intsD_one _) ?_
           obtain ⟨hc17, h⟩ := guardO h
           refine AOps_append 61 _ _ _ _ _ _ _ _ _ _ _ _ rfl rfl rfl rfl rfl rfl rfl Try.underlying24 Try.type2 rfl rfl rfl (by decide) rfl rfl rfl rfl (intsD_one _) (by rw [intsD_length, intsD_length]; exact hc17) ?_
           rw [intsD_app]
           refine kN 1 rfl ?_
           cases h
           exact Weak_trans (Weak_keep 2 hm [0, 1, 2, 3, 4, 11, 12, 37, 38, 42, 43] [2] _ _ rfl rfl rfl) (Weak_reset 2 hm hz [0, 1, 2, 3, 4, 11, 12, 37, 38, 42, 43] _ _ rfl rfl)
          refine ACode_skip ?_
          cases h
          exact Weak_keep 2 hm [0, 1, 2, 3, 4, 11, 12, 37, 38, 42, 43] [2] _ _ rfl rfl rfl
         refine (ACode_region ?_)
         refine AOps_q 62 _ rfl rfl rfl (QOp_add _ _ _ _ _ _ _ rfl rfl rfl) ?_
         refine kN 1 rfl ?_
         exact ⟨k1, _, _, Nat.lt_succ_self _, Weak_keep 2 hm [0, 1, 2, 3, 4, 11, 12, 37, 38, 42, 43] [2] _ _ rfl rfl rfl, _, _, rfl, rfl, h⟩
        refine ACode_exit ?_
        cases h
        exact Weak_keep 2 hm [0, 1, 2, 3, 4, 11, 12, 37, 38] [2] _ _ rfl rfl rfl
      refine ACode_seq ?_
      refine kR ?_
      refine kM 4 rfl ?_
      obtain ⟨hc20, h⟩ := guardO h
      refine AOps_q 67 _ rfl rfl rfl (QOp_indexAddr_sl _ _ _ _ _ _ _ _ rfl Try.underlying24 Try.sizeOf2 hc20.1 (by rw [intsD_length]; exact hc20.2) rfl rfl) ?_
      refine AOps_q 68 _ rfl rfl rfl (QOp_load_pv _ _ _ _ _ rfl Try.isAgg2 rfl (intsD_get _ _ 0 (by omega))) ?_
      refine AOps_q 69 _ rfl rfl rfl (QOp_sub _ _ _ _ _ _ _ rfl rfl rfl) ?_
      refine kM 1 rfl ?_
      obtain ⟨r21, hr21, h⟩ := bindO h
      refine AOps_callL [] 71 _ _ _ _ _ _ _ _ _ _ rfl rfl rfl rfl rfl rfl rfl Try.call64 rfl (nodupB_sound _ rfl) rfl rfl rfl (impl_Colouring_hasClique_ac k x6 x5 (w64 ((p1.getD x5.toNat 0) - 2)) s19 _ hr21) ?_
      rintro _ _ ⟨rfl, rfl⟩
      refine ⟨(fun _ h => nomatch h), (allc (flat_s _) (fun _ h => nomatch h)), AOps_as 71 (v' := bV r21) (H' := [.box (colD x6), .box (colD x7), .vec 0 (intsD s19)]) rfl rfl ?_⟩
      refine AOps_nil ?_
      refine kI h rfl (fun h _ => ?_) (fun h _ => ?_)
      ·refine ACode_exit ?_
       cases h
       exact ⟨_, rfl, Weak_keep 2 hm [0, 1, 2, 3, 4, 37, 38] [] _ _ rfl rfl rfl⟩
      refine ACode_skip ?_
      refine kR ?_
      refine kM 4 rfl ?_
      obtain ⟨r23, hr23, h⟩ := bindO h
      refine kC [0] 76 (.tup []) [.box (colD r23), .box (colD x7), .vec 0 (intsD s19)] rfl Try.call72 rfl rfl (impl_Colouring_put_ac x6 p2 p3 x5 _ hr23) rfl ?_
      refine AOps_nil ?_
      refine kR ?_
      refine kM 3 rfl ?_
      refine AOps_q 80 _ rfl rfl rfl (QOp_add _ _ _ _ _ _ _ rfl rfl rfl) ?_
      refine kM 2 rfl ?_
      obtain ⟨r24, hr24, h⟩ := bindO h
      refine kC [0, 1] 83 (bV r24.1) [.box (colD r24.2.1), .box (colD r24.2.2), .vec 0 (intsD s19)] rfl Try.call105 rfl rfl (hself r23 p1 (w64 (p2 + 1)) p3 x7 _ hr24) rfl ?_
      refine AOps_q 84 _ rfl rfl rfl (QOp_not _ _ _ rfl rfl) ?_
      refine AOps_nil ?_
      refine kI h rfl (fun h _ => ?_) (fun h _ => ?_)
      ·refine kR ?_
       refine kN 1 rfl ?_
       refine ACode_ret ?_
       obtain ⟨rr, hz29, h2⟩ := bindO h
       obtain rfl := Option.some.inj h2
       obtain rfl := Option.some.inj (show some rr = some _ from hks26)
       have h := hz29
       cases h
       have h := hks27
       cases h
       exact ⟨_, _, fun r a w h => ⟨r, h⟩, _, _, [], _, (.cons (ResV_tmp _ _ rfl) .nil), rfl, rfl, rfl, rfl, rfl⟩
      refine ACode_skip ?_
      cases h
      exact ⟨_, rfl, Weak_keep 2 hm [0, 1, 2, 3, 4, 37, 38] [] _ _ rfl rfl rfl⟩
     refine (ACode_region ?_)
     refine AOps_q 85 _ rfl rfl rfl (QOp_add _ _ _ _ _ _ _ rfl rfl rfl) ?_
     refine kN 1 rfl ?_
     exact ⟨k0, _, _, Nat.lt_succ_self _, Weak_keep 2 hm [0, 1, 2, 3, 4, 37, 38] [] _ _ rfl rfl rfl, _, _, _, rfl, rfl, h⟩
    refine ACode_exit ?_
    cases h
    exact ⟨_, rfl, Weak_keep 2 hm [0, 2, 3] [] _ _ rfl rfl rfl⟩
  refine kR ?_
  refine kM 3 rfl ?_
  obtain ⟨r28, hr28, h⟩ := bindO h
  refine kC [0] 89 (.tup []) [.box (colD r28), .box (colD s27.2)] rfl Try.call72 rfl rfl (impl_Colouring_put_ac s27.1 p2 p3 0 _ hr28) rfl ?_
  refine AOps_nil ?_
  refine kR ?_
  refine kN 1 rfl ?_
  refine ACode_ret ?_
  cases h
  exact ⟨_, _, fun r a w h => ⟨r, h⟩, _, _, [], _, (.cons (ResV_tmp _ _ rfl) .nil), rfl, rfl, rfl, rfl, rfl⟩

-- loop.example/g01362/impl.allAvoiding
def impl_allAvoiding_on_firstAvoiding_c1 (k : Nat) (p0 : Int) (p1 : List Int) (p2_0 : Col) : Option (Bool × Col) :=
 ((slices_Min k p1).bind fun r2 => (if decide (r2 = 1) then some (true, p2_0) else (impl_avoiding_on_firstAvoiding_c1 k (⟨p0, (impl_size p1), B136.zero⟩ : Col) p1 0 1 p2_0).bind fun r4 => some (r4.1, r4.2.2)) : Option (Bool × Col)).bind fun s5 => some (s5.1, s5.2)
set_option maxRecDepth 100000 in
theorem impl_allAvoiding_on_firstAvoiding_c1_ac (k : Nat) (p0 : Int) (p1 : List Int) (p2_0 : Col) (r : Bool × Col) (h : impl_allAvoiding_on_firstAvoiding_c1 k p0 p1 p2_0 = some r) : AC Try.prog 57 [iV p0, .d (.sl none (intsD p1)), .clo 93 [.ptr 0 0]] [.box (colD p2_0)] (fun res H' => res = [bV r.1] ∧ H' = [.box (colD r.2)]) := by
 refine AC_of_body true Try.func57 rfl Try.ntmps57 (rvs := [.tmp 6]) rfl rfl (fun G hG => ?_)
 have hm : G.H.length = 1 := by rw [hG]; rfl
 have hz : zeroG G.H = true := by rw [hG]; rfl
 unfold impl_allAvoiding_on_firstAvoiding_c1 at h
 refine kR ?_
 refine kN 1 rfl ?_
 refine kR ?_
 refine kM 2 rfl ?_
 refine kC [] 10 (iV (impl_size p1)) [.box (colD p2_0)] rfl Try.call55 rfl rfl (impl_size_ac p1) rfl ?_
 refine AOps_q 11 _ rfl rfl rfl (QOp_build _ _ [_, _] [0, 1] [iD p0, iD (impl_size p1)] _ (colD Col.zero) (colD (⟨p0, (impl_size p1), B136.zero⟩ : Col)) [(0, 1), (1, 1), (2, 136)] rfl rfl Try.underlying29 (zero_of Try.typeInfo29 rfl) (fun w => by simp [Try.sizeOf2, Try.sizeOf2, Try.sizeOf27]) rfl (by rfl) (by rfl) (allc (ok1 rfl) (allc (ok1 rfl) (fun _ h => nomatch h)))) ?_
 refine AOps_boxM 12 _ _ (.agg (colD (⟨p0, (impl_size p1), B136.zero⟩ : Col))) (colD (⟨p0, (impl_size p1), B136.zero⟩ : Col)) rfl (colD_one _) rfl rfl rfl rfl rfl ?_
 refine kN 1 rfl ?_
 refine kB (fun s5 => [(6, bV s5.1)]) (fun s5 => [.box (colD s5.2)]) h (fun s5 h => ?_) (fun s5 h => ?_)
 ·refine (ACode_region ?_)
  refine kM 1 rfl ?_
  obtain ⟨r2, hr2, h⟩ := bindO h
  refine kC [] 14 (iV r2) [.box (colD p2_0), .box (colD (⟨p0, (impl_size p1), B136.zero⟩ : Col))] rfl Try.call104 rfl rfl (slices_Min_ac k p1 _ hr2) rfl ?_
  refine AOps_q 15 _ rfl rfl rfl (QOp_eql _ _ _ _ _ _ _ rfl rfl rfl) ?_
  refine kM 1 rfl ?_
  refine AOps_case 16 _ rfl (fun hb3 => ?_) (fun hb3 => ?_)
  ·have h := iteT hb3 h
   refine AOps_skip 17 rfl rfl rfl ?_
   refine AOps_skip 18 rfl rfl rfl ?_
   refine AOps_skip 19 rfl rfl rfl ?_
   refine AOps_skip 20 rfl rfl rfl ?_
   refine kN 2 rfl ?_
   cases h
   exact Weak_keep 1 hm [6] [] _ _ rfl rfl rfl
  have h := iteF hb3 h
  refine kM 3 rfl ?_
  obtain ⟨r4, hr4, h⟩ := bindO h
  refine kC [1, 0] 20 (bV r4.1) [.box (colD r4.2.2), .box (colD r4.2.1)] rfl Try.call105 rfl rfl (impl_avoiding_on_firstAvoiding_c1_ac k (⟨p0, (impl_size p1), B136.zero⟩ : Col) p1 0 1 p2_0 _ hr4) rfl ?_
  refine kN 2 rfl ?_
  cases h
  exact Weak_keep 1 hm [6] [] _ _ rfl rfl rfl
 refine ACode_ret ?_
 cases h
 exact ⟨_, _, fun r a w h => ⟨r, h⟩, _, _, [], _, (.cons (ResV_tmp _ _ rfl) .nil), rfl, rfl, rfl, rfl, rfl⟩

-- loop.example/g01362/impl.firstAvoiding
def impl_firstAvoiding (k : Nat) (p0 : Int) (p1 : List Int) : Option (Col × Bool) :=
 (impl_allAvoiding_on_firstAvoiding_c1 k p0 p1 (⟨0, 0, B136.zero⟩ : Col)).bind fun r1 => some (r1.2, !r1.1)
set_option maxRecDepth 100000 in
theorem impl_firstAvoiding_ac (k : Nat) (p0 : Int) (p1 : List Int) (r : Col × Bool) (h : impl_firstAvoiding k p0 p1 = some r) : AC Try.prog 39 [iV p0, .d (.sl none (intsD p1))] [] (fun res H' => res = [.d (.agg (colD r.1)), bV r.2] ∧ H' = []) := by
 refine AC_of_body true Try.func39 rfl Try.ntmps39 (rvs := [.cell 4 29, .tmp 5]) rfl rfl (fun G hG => ?_)
 have hm : G.H.length = 0 := by rw [hG]; rfl
 have hz : zeroG G.H = true := by rw [hG]; rfl
 unfold impl_firstAvoiding at h
 refine kR ?_
 refine AOps_alloc 4 _ _ (colD Col.zero) (zero_of Try.typeInfo29 rfl) (by rfl) rfl rfl rfl rfl ?_
 refine kN 1 rfl ?_
 refine kR ?_
 refine AOps_q 8 _ rfl rfl rfl (QOp_build _ _ [] [] [] _ (colD Col.zero) (colD (⟨0, 0, B136.zero⟩ : Col)) [(0, 1), (1, 1), (2, 136)] rfl rfl Try.underlying29 (zero_of Try.typeInfo29 rfl) (fun w => by simp [Try.sizeOf2, Try.sizeOf2, Try.sizeOf27]) rfl (by rfl) (by rfl) (fun _ h => nomatch h)) ?_
 refine AOps_alloc 6 _ _ (colD Col.zero) (zero_of Try.typeInfo29 rfl) (by rfl) rfl rfl rfl rfl ?_
 refine AOps_store _ _ _ _ _ _ (colD _) _ _ rfl rfl rfl rfl rfl rfl rfl (colD_one _) (by rw [colD_length]; exact Try.sizeOf29) (by rw [colD_length, colD_length]; decide) (colD_whole _ _) ?_
 refine AOps_nil ?_
 refine kR ?_
 refine kM 2 rfl ?_
 refine AOps_q 11 _ rfl rfl rfl (QOp_makeFunc _ _ _ rfl rfl) ?_
 obtain ⟨r1, hr1, h⟩ := bindO h
 refine kC [1] 12 (bV r1.1) [.box (colD Col.zero), .box (colD r1.2)] rfl Try.call57 rfl rfl (impl_allAvoiding_on_firstAvoiding_c1_ac k p0 p1 (⟨0, 0, B136.zero⟩ : Col) _ hr1) rfl ?_
 refine kN 1 rfl ?_
 refine kR ?_
 refine AOps_q 13 _ rfl rfl rfl (QOp_loadN_ptr _ _ _ _ _ _ _ rfl Try.isAgg29 Try.sizeOf29 rfl rfl (colD_all _) (colD_length _)) ?_
 refine kM 1 rfl ?_
 refine AOps_q 15 _ rfl rfl rfl (QOp_not _ _ _ rfl rfl) ?_
 refine AOps_store _ _ _ _ _ _ (colD _) _ _ rfl rfl rfl rfl rfl rfl rfl (colD_one _) (by rw [colD_length]; exact Try.sizeOf29) (by rw [colD_length, colD_length]; decide) (colD_whole _ _) ?_
 refine kN 1 rfl ?_
 refine ACode_ret ?_
 cases h
 exact ⟨_, _, fun r a w h => ⟨r, h⟩, _, _, [], _, (.cons (ResV_agg _ _ _ _ _ _ Try.isAgg29 Try.sizeOf29 rfl rfl (colD_take _) (colD_length _)) (.cons (ResV_tmp _ _ rfl) .nil)), rfl, rfl, rfl, rfl, rfl⟩

-- loop.example/g01362/impl.FirstAvoiding
def impl_FirstAvoiding (k : Nat) (p0 : Int) (p1 : List Int) : Option (Col × Int) :=
 (((if !(impl_in p0 1 8) then some true else (impl_areForbidden k p1 2).bind fun r3 => some (!r3)) : Option (Bool)).bind fun s4 => (if s4 then some (.inr ((⟨0, 0, B136.zero⟩ : Col), 2)) else some (.inl ())) : Option (Sum (Unit) (Col × Int))).bind fun os6 => (match os6 with | .inl s6 => (impl_firstAvoiding k p0 p1).bind fun r7 => (if !r7.2 then some ((⟨0, 0, B136.zero⟩ : Col), 4) else some (r7.1, 0)) | .inr rr => some rr)
set_option maxRecDepth 100000 in
theorem impl_FirstAvoiding_ac (k : Nat) (p0 : Int) (p1 : List Int) (r : Col × Int) (h : impl_FirstAvoiding k p0 p1 = some r) : AC Try.prog 7 [iV p0, .d (.sl none (intsD p1))] [] (fun res H' => res = [.d (.agg (colD r.1)), iV r.2] ∧ H' = []) := by
 refine AC_of_body true Try.func7 rfl Try.ntmps7 (rvs := [.cell 4 29, .tmp 5]) rfl rfl (fun G hG => ?_)
 have hm : G.H.length = 0 := by rw [hG]; rfl
 have hz : zeroG G.H = true := by rw [hG]; rfl
 unfold impl_FirstAvoiding at h
 refine kR ?_
 refine AOps_alloc 4 _ _ (colD Col.zero) (zero_of Try.typeInfo29 rfl) (by rfl) rfl rfl rfl rfl ?_
 refine kN 1 rfl ?_
 refine kO (fun s6 => [(0, iV p0), (1, .d (.sl none (intsD p1))), (4, .ptr 0 0)]) (fun s6 => [.box (colD Col.zero)]) h (fun os6 h hks6 => ?_) (fun s6 h => ?_)
 ·refine kB (fun s4 => [(0, iV p0), (1, .d (.sl none (intsD p1))), (4, .ptr 0 0), (15, bV s4)]) (fun s4 => [.box (colD Col.zero)]) h (fun s4 h => ?_) (fun s4 h => ?_)
  ·refine (ACode_region ?_)
   refine kM 1 rfl ?_
   refine kC [] 9 (bV (impl_in p0 1 8)) [.box (colD Col.zero)] rfl Try.call37 rfl rfl (impl_in_ac p0 1 8) rfl ?_
   refine AOps_q 10 _ rfl rfl rfl (QOp_not _ _ _ rfl rfl) ?_
   refine kM 1 rfl ?_
   refine AOps_case 11 _ rfl (fun hb2 => ?_) (fun hb2 => ?_)
   ·have h := iteT hb2 h
    refine AOps_skip 12 rfl rfl rfl ?_
    refine AOps_skip 13 rfl rfl rfl ?_
    refine AOps_skip 14 rfl rfl rfl ?_
    refine kN 1 rfl ?_
    cases h
    exact Weak_keep 0 hm [0, 1, 4, 15] [0] _ _ rfl rfl rfl
   have h := iteF hb2 h
   refine kM 1 rfl ?_
   obtain ⟨r3, hr3, h⟩ := bindO h
   refine kC [] 13 (bV r3) [.box (colD Col.zero)] rfl Try.call38 rfl rfl (impl_areForbidden_ac k p1 2 _ hr3) rfl ?_
   refine AOps_q 14 _ rfl rfl rfl (QOp_not _ _ _ rfl rfl) ?_
   refine kN 1 rfl ?_
   cases h
   exact Weak_keep 0 hm [0, 1, 4, 15] [0] _ _ rfl rfl rfl
  refine kI h rfl (fun h _ => ?_) (fun h _ => ?_)
  ·refine kR ?_
   refine AOps_q 16 _ rfl rfl rfl (QOp_build _ _ [] [] [] _ (colD Col.zero) (colD (⟨0, 0, B136.zero⟩ : Col)) [(0, 1), (1, 1), (2, 136)] rfl rfl Try.underlying29 (zero_of Try.typeInfo29 rfl) (fun w => by simp [Try.sizeOf2, Try.sizeOf2, Try.sizeOf27]) rfl (by rfl) (by rfl) (fun _ h => nomatch h)) ?_
   refine AOps_store _ _ _ _ _ _ (colD _) _ _ rfl rfl rfl rfl rfl rfl rfl (colD_one _) (by rw [colD_length]; exact Try.sizeOf29) (by rw [colD_length, colD_length]; decide) (colD_whole _ _) ?_
   refine kN 1 rfl ?_
   refine ACode_ret ?_
   cases h
   have h := hks6
   cases h
   exact ⟨_, _, fun r a w h => ⟨r, h⟩, _, _, [], _, (.cons (ResV_agg _ _ _ _ _ _ Try.isAgg29 Try.sizeOf29 rfl rfl (colD_take _) (colD_length _)) (.cons (ResV_tmp _ _ rfl) .nil)), rfl, rfl, rfl, rfl, rfl⟩
  refine ACode_skip ?_
  cases h
  exact ⟨_, rfl, Weak_keep 0 hm [0, 1, 4] [0] _ _ rfl rfl rfl⟩
 refine kR ?_
 refine kM 2 rfl ?_
 obtain ⟨r7, hr7, h⟩ := bindO h
 refine kC [] 20 (.tup [.d (.agg (colD r7.1)), bV r7.2]) [.box (colD Col.zero)] rfl Try.call39 rfl rfl (impl_firstAvoiding_ac k p0 p1 _ hr7) rfl ?_
 refine kM 3 rfl ?_
 refine AOps_alloc 6 _ _ (colD Col.zero) (zero_of Try.typeInfo29 rfl) (by rfl) rfl rfl rfl rfl ?_
 refine AOps_store _ _ _ _ _ _ (colD _) _ _ rfl rfl rfl rfl rfl rfl rfl (colD_one _) (by rw [colD_length]; exact Try.sizeOf29) (by rw [colD_length, colD_length]; decide) (colD_whole _ _) ?_
 refine kN 1 rfl ?_
 refine ACode_seq ?_
 refine kR ?_
 refine kM 1 rfl ?_
 refine AOps_q 24 _ rfl rfl rfl (QOp_not _ _ _ rfl rfl) ?_
 refine AOps_nil ?_
 refine kI h rfl (fun h _ => ?_) (fun h _ => ?_)
 ·refine kR ?_
  refine AOps_q 25 _ rfl rfl rfl (QOp_build _ _ [] [] [] _ (colD Col.zero) (colD (⟨0, 0, B136.zero⟩ : Col)) [(0, 1), (1, 1), (2, 136)] rfl rfl Try.underlying29 (zero_of Try.typeInfo29 rfl) (fun w => by simp [Try.sizeOf2, Try.sizeOf2, Try.sizeOf27]) rfl (by rfl) (by rfl) (fun _ h => nomatch h)) ?_
  refine AOps_store _ _ _ _ _ _ (colD _) _ _ rfl rfl rfl rfl rfl rfl rfl (colD_one _) (by rw [colD_length]; exact Try.sizeOf29) (by rw [colD_length, colD_length]; decide) (colD_whole _ _) ?_
  refine kN 1 rfl ?_
  refine ACode_ret ?_
  cases h
  exact ⟨_, _, fun r a w h => ⟨r, h⟩, _, _, [], _, (.cons (ResV_agg _ _ _ _ _ _ Try.isAgg29 Try.sizeOf29 rfl rfl (colD_take _) (colD_length _)) (.cons (ResV_tmp _ _ rfl) .nil)), rfl, rfl, rfl, rfl, rfl⟩
 refine ACode_skip ?_
 refine kR ?_
 refine AOps_q 26 _ rfl rfl rfl (QOp_loadN_ptr _ _ _ _ _ _ _ rfl Try.isAgg29 Try.sizeOf29 rfl rfl (colD_all _) (colD_length _)) ?_
 refine AOps_store _ _ _ _ _ _ (colD _) _ _ rfl rfl rfl rfl rfl rfl rfl (colD_one _) (by rw [colD_length]; exact Try.sizeOf29) (by rw [colD_length, colD_length]; decide) (colD_whole _ _) ?_
 refine kN 1 rfl ?_
 refine ACode_ret ?_
 cases h
 exact ⟨_, _, fun r a w h => ⟨r, h⟩, _, _, [], _, (.cons (ResV_agg _ _ _ _ _ _ Try.isAgg29 Try.sizeOf29 rfl rfl (colD_take _) (colD_length _)) (.cons (ResV_tmp _ _ rfl) .nil)), rfl, rfl, rfl, rfl, rfl⟩

-- loop.example/g01362/spec.l01In
def spec_l01In (p0 : Int) (p1 : Int) (p2 : Int) : Bool :=
 letO (if decide (p1 ≤ p0) then decide (p0 ≤ p2) else false) fun (s2 : Bool) => s2
set_option maxRecDepth 100000 in
theorem spec_l01In_ac (p0 : Int) (p1 : Int) (p2 : Int) : AC Try.prog 40 [iV p0, iV p1, iV p2] [] (fun res H' => res = [bV (spec_l01In p0 p1 p2)] ∧ H' = []) := by
 refine AC_of_body true Try.func40 rfl Try.ntmps40 (rvs := [.tmp 6]) rfl rfl (fun G hG => ?_)
 have hm : G.H.length = 0 := by rw [hG]; rfl
 have hz : zeroG G.H = true := by rw [hG]; rfl
 obtain ⟨r, h⟩ : ∃ r, spec_l01In p0 p1 p2 = r := ⟨_, rfl⟩
 rw [h]
 unfold spec_l01In at h
 refine kR ?_
 refine kN 1 rfl ?_
 refine kL (fun s2 => [(6, bV s2)]) (fun s2 => []) h (fun s2 h => ?_) (fun s2 h => ?_)
 ·refine (ACode_region ?_)
  refine kM 2 rfl ?_
  refine AOps_q 9 _ rfl rfl rfl (QOp_geq _ _ _ _ _ _ _ rfl rfl rfl) ?_
  refine kM 1 rfl ?_
  refine AOps_case 10 _ rfl (fun hb1 => ?_) (fun hb1 => ?_)
  ·have h := iteT hb1 h
   refine kM 2 rfl ?_
   refine AOps_q 13 _ rfl rfl rfl (QOp_leq _ _ _ _ _ _ _ rfl rfl rfl) ?_
   refine kN 2 rfl ?_
   cases h
   exact Weak_keep 0 hm [6] [] _ _ rfl rfl rfl
  have h := iteF hb1 h
  refine AOps_skip 11 rfl rfl rfl ?_
  refine AOps_skip 12 rfl rfl rfl ?_
  refine AOps_skip 13 rfl rfl rfl ?_
  refine kN 2 rfl ?_
  cases h
  exact Weak_keep 0 hm [6] [] _ _ rfl rfl rfl
 refine ACode_ret ?_
 cases h
 exact ⟨_, _, fun r a w h => ⟨r, h⟩, _, _, [], _, (.cons (ResV_tmp _ _ rfl) .nil), rfl, rfl, rfl, rfl, rfl⟩

-- loop.example/g01362/spec.l05Sizes
def spec_l05Sizes_l0 (p0 : List Int) : Nat → Int → Option (Sum (Unit) (Int))
 | 0, _ => none
 | k0 + 1, x2 => (if decide (x2 < (p0.length : Int)) then (if 0 ≤ x2 ∧ x2 < (p0.length : Int) then (if !(spec_l01In (p0.getD x2.toNat 0) 1 17) then some (.inr 2) else spec_l05Sizes_l0 p0 k0 (w64 (x2 + 1))) else none) else some (.inl ()))
def spec_l05Sizes (k : Nat) (p0 : List Int) (p1 : Int) : Option (Int) :=
 (if !decide ((p0.length : Int) = p1) then some 2 else (spec_l05Sizes_l0 p0 k 0 : Option (Sum (Unit) (Int))).bind fun os7 => (match os7 with | .inl s7 => some 0 | .inr rr => some rr))
set_option maxRecDepth 100000 in
theorem spec_l05Sizes_ac (k : Nat) (p0 : List Int) (p1 : Int) (r : Int) (h : spec_l05Sizes k p0 p1 = some r) : AC Try.prog 41 [.d (.sl none (intsD p0)), iV p1] [] (fun res H' => res = [iV r] ∧ H' = []) := by
 refine AC_of_body true Try.func41 rfl Try.ntmps41 (rvs := [.tmp 4]) rfl rfl (fun G hG => ?_)
 have hm : G.H.length = 0 := by rw [hG]; rfl
 have hz : zeroG G.H = true := by rw [hG]; rfl
 unfold spec_l05Sizes at h
 refine kR ?_
 refine kN 1 rfl ?_
 refine ACode_seq ?_
 refine kR ?_
 refine kM 1 rfl ?_
 refine AOps_q 7 _ rfl rfl rfl (QOp_len_sl _ _ _ _ _ _ _ (intsD_length _) rfl rfl rfl rfl Try.underlying24 rfl) ?_
 refine kM 1 rfl ?_
 refine AOps_q 9 _ rfl rfl rfl (QOp_neq _ _ _ _ _ _ _ rfl rfl rfl) ?_
 refine AOps_nil ?_
 refine kI h rfl (fun h _ => ?_) (fun h _ => ?_)
 ·refine kR ?_
  refine kN 1 rfl ?_
  refine ACode_ret ?_
  cases h
  exact ⟨_, _, fun r a w h => ⟨r, h⟩, _, _, [], _, (.cons (ResV_tmp _ _ rfl) .nil), rfl, rfl, rfl, rfl, rfl⟩
 refine ACode_skip ?_
 refine kO (fun s7 => []) (fun s7 => []) h (fun os7 h hks7 => ?_) (fun s7 h => ?_)
 ·refine kR ?_
  refine kN 1 rfl ?_
  refine ACode_block ?_
  refine ACode_loopW (fun k0 E H => ∃ (x2 : Int), E = [(0, .d (.sl none (intsD p0))), (5, iV x2)] ∧ H = [] ∧ spec_l05Sizes_l0 p0 k0 x2 = some os7) k _ _ (Weak_keep 0 hm [0, 5] [] _ _ rfl rfl rfl) ⟨_, rfl, rfl, h⟩ ?_
  clear h
  rintro k0 E H ⟨x2, rfl, rfl, h⟩
  cases k0 with
  | zero => cases (show (none : Option (Sum (Unit) (Int))) = some _ from h)
  | succ k0 =>
   rw [spec_l05Sizes_l0] at h
   refine ACode_seq ?_
   refine kR ?_
   refine kM 2 rfl ?_
   refine AOps_q 12 _ rfl rfl rfl (QOp_len_sl _ _ _ _ _ _ _ (intsD_length _) rfl rfl rfl rfl Try.underlying24 rfl) ?_
   refine AOps_q 13 _ rfl rfl rfl (QOp_lss _ _ _ _ _ _ _ rfl rfl rfl) ?_
   refine AOps_nil ?_
   refine kI h rfl (fun h _ => ?_) (fun h _ => ?_)
   ·refine ACode_skip ?_
    refine ACode_seq ?_
    refine ACode_block ?_
    refine kR ?_
    refine kM 2 rfl ?_
    obtain ⟨hc4, h⟩ := guardO h
    refine AOps_q 18 _ rfl rfl rfl (QOp_indexAddr_sl _ _ _ _ _ _ _ _ rfl Try.underlying24 Try.sizeOf2 hc4.1 (by rw [intsD_length]; exact hc4.2) rfl rfl) ?_
    refine AOps_q 19 _ rfl rfl rfl (QOp_load_pv _ _ _ _ _ rfl Try.isAgg2 rfl (intsD_get _ _ 0 (by omega))) ?_
    refine kC [] 20 (bV (spec_l01In (p0.getD x2.toNat 0) 1 17)) [] rfl Try.call40 rfl rfl (spec_l01In_ac (p0.getD x2.toNat 0) 1 17) rfl ?_
    refine AOps_q 21 _ rfl rfl rfl (QOp_not _ _ _ rfl rfl) ?_
    refine AOps_nil ?_
    refine kI h rfl (fun h _ => ?_) (fun h _ => ?_)
    ·refine kR ?_
     refine kN 1 rfl ?_
     refine ACode_ret ?_
     cases h
     have h := hks7
     cases h
     exact ⟨_, _, fun r a w h => ⟨r, h⟩, _, _, [], _, (.cons (ResV_tmp _ _ rfl) .nil), rfl, rfl, rfl, rfl, rfl⟩
    refine ACode_skip ?_
    refine (ACode_region ?_)
    refine kM 1 rfl ?_
    refine AOps_q 15 _ rfl rfl rfl (QOp_add _ _ _ _ _ _ _ rfl rfl rfl) ?_
    refine kN 1 rfl ?_
    exact ⟨k0, _, _, Nat.lt_succ_self _, Weak_keep 0 hm [0, 5] [] _ _ rfl rfl rfl, _, rfl, rfl, h⟩
   refine ACode_exit ?_
   cases h
   exact ⟨_, rfl, Weak_keep 0 hm [] [] _ _ rfl rfl rfl⟩
 refine kR ?_
 refine kN 1 rfl ?_
 refine ACode_ret ?_
 cases h
 exact ⟨_, _, fun r a w h => ⟨r, h⟩, _, _, [], _, (.cons (ResV_tmp _ _ rfl) .nil), rfl, rfl, rfl, rfl, rfl⟩

-- loop.example/g01362/spec.l01Ones
def spec_l01Ones_l0 : Nat → Int → Int → Option (Int)
 | 0, _, _ => none
 | k0 + 1, x1, x2 => (if decide (0 < x1) then spec_l01Ones_l0 k0 (w64 (x1.tdiv 2)) (w64 (x2 + (x1.tmod 2))) else some x2)
def spec_l01Ones (k : Nat) (p0 : Int) : Option (Int) :=
 (spec_l01Ones_l0 k p0 0 : Option (Int)).bind fun s4 => some s4
set_option maxRecDepth 100000 in
theorem spec_l01Ones_ac (k : Nat) (p0 : Int) (r : Int) (h : spec_l01Ones k p0 = some r) : AC Try.prog 111 [iV p0] [] (fun res H' => res = [iV r] ∧ H' = []) := by
 refine AC_of_body true Try.func111 rfl Try.ntmps111 (rvs := [.tmp 2]) rfl rfl (fun G hG => ?_)
 have hm : G.H.length = 0 := by rw [hG]; rfl
 have hz : zeroG G.H = true := by rw [hG]; rfl
 unfold spec_l01Ones at h
 refine kR ?_
 refine kN 1 rfl ?_
 refine kR ?_
 refine kN 1 rfl ?_
 refine kB (fun s4 => [(3, iV s4)]) (fun s4 => []) h (fun s4 h => ?_) (fun s4 h => ?_)
 ·refine ACode_block ?_
  refine ACode_loopW (fun k0 E H => ∃ (x1 : Int) (x2 : Int), E = [(0, iV x1), (3, iV x2)] ∧ H = [] ∧ spec_l01Ones_l0 k0 x1 x2 = some s4) k _ _ (Weak_keep 0 hm [0, 3] [] _ _ rfl rfl rfl) ⟨_, _, rfl, rfl, h⟩ ?_
  clear h
  rintro k0 E H ⟨x1, x2, rfl, rfl, h⟩
  cases k0 with
  | zero => cases (show (none : Option (Int)) = some _ from h)
  | succ k0 =>
   rw [spec_l01Ones_l0] at h
   refine ACode_seq ?_
   refine kR ?_
   refine kM 1 rfl ?_
   refine AOps_q 5 _ rfl rfl rfl (QOp_gtr _ _ _ _ _ _ _ rfl rfl rfl) ?_
   refine AOps_nil ?_
   refine kI h rfl (fun h _ => ?_) (fun h _ => ?_)
   ·refine ACode_skip ?_
    refine ACode_seq ?_
    refine ACode_block ?_
    refine (ACode_region ?_)
    refine kM 2 rfl ?_
    refine AOps_q 10 _ rfl rfl rfl (QOp_rem _ _ _ _ _ _ _ (by decide) rfl rfl rfl) ?_
    refine AOps_q 11 _ rfl rfl rfl (QOp_add _ _ _ _ _ _ _ rfl rfl rfl) ?_
    refine kN 1 rfl ?_
    refine (ACode_region ?_)
    refine kM 1 rfl ?_
    refine AOps_q 7 _ rfl rfl rfl (QOp_quo _ _ _ _ _ _ _ (by decide) rfl rfl rfl) ?_
    refine kN 1 rfl ?_
    exact ⟨k0, _, _, Nat.lt_succ_self _, Weak_keep 0 hm [0, 3] [] _ _ rfl rfl rfl, _, _, rfl, rfl, h⟩
   refine ACode_exit ?_
   cases h
   exact Weak_keep 0 hm [3] [] _ _ rfl rfl rfl
 refine kR ?_
 refine kN 2 rfl ?_
 refine ACode_ret ?_
 cases h
 exact ⟨_, _, fun r a w h => ⟨r, h⟩, _, _, [], _, (.cons (ResV_tmp _ _ rfl) .nil), rfl, rfl, rfl, rfl, rfl⟩

-- loop.example/g01362/spec.l01Edge
def spec_l01Edge (p0 : Int) (p1 : Int) : Int :=
 (if decide (p1 < p0) then w64 ((w64 ((w64 (p0 * (w64 (p0 - 1)))).tdiv 2)) + p1) else w64 ((w64 ((w64 (p1 * (w64 (p1 - 1)))).tdiv 2)) + p0))
set_option maxRecDepth 100000 in
theorem spec_l01Edge_ac (p0 : Int) (p1 : Int) : AC Try.prog 110 [iV p0, iV p1] [] (fun res H' => res = [iV (spec_l01Edge p0 p1)] ∧ H' = []) := by
 refine AC_of_body true Try.func110 rfl Try.ntmps110 (rvs := [.tmp 4]) rfl rfl (fun G hG => ?_)
 have hm : G.H.length = 0 := by rw [hG]; rfl
 have hz : zeroG G.H = true := by rw [hG]; rfl
 obtain ⟨r, h⟩ : ∃ r, spec_l01Edge p0 p1 = r := ⟨_, rfl⟩
 rw [h]
 unfold spec_l01Edge at h
 refine kR ?_
 refine kN 1 rfl ?_
 refine ACode_seq ?_
 refine kR ?_
 refine kM 2 rfl ?_
 refine AOps_q 7 _ rfl rfl rfl (QOp_gtr _ _ _ _ _ _ _ rfl rfl rfl) ?_
 refine AOps_nil ?_
 refine kI h rfl (fun h _ => ?_) (fun h _ => ?_)
 ·refine kR ?_
  refine kM 2 rfl ?_
  refine AOps_q 10 _ rfl rfl rfl (QOp_sub _ _ _ _ _ _ _ rfl rfl rfl) ?_
  refine AOps_q 11 _ rfl rfl rfl (QOp_mul _ _ _ _ _ _ _ rfl rfl rfl) ?_
  refine AOps_q 12 _ rfl rfl rfl (QOp_quo _ _ _ _ _ _ _ (by decide) rfl rfl rfl) ?_
  refine kM 1 rfl ?_
  refine AOps_q 14 _ rfl rfl rfl (QOp_add _ _ _ _ _ _ _ rfl rfl rfl) ?_
  refine kN 1 rfl ?_
  refine ACode_ret ?_
  cases h
  exact ⟨_, _, fun r a w h => ⟨r, h⟩, _, _, [], _, (.cons (ResV_tmp _ _ rfl) .nil), rfl, rfl, rfl, rfl, rfl⟩
 refine ACode_skip ?_
 refine kR ?_
 refine kM 2 rfl ?_
 refine AOps_q 17 _ rfl rfl rfl (QOp_sub _ _ _ _ _ _ _ rfl rfl rfl) ?_
 refine AOps_q 18 _ rfl rfl rfl (QOp_mul _ _ _ _ _ _ _ rfl rfl rfl) ?_
 refine AOps_q 19 _ rfl rfl rfl (QOp_quo _ _ _ _ _ _ _ (by decide) rfl rfl rfl) ?_
 refine kM 1 rfl ?_
 refine AOps_q 21 _ rfl rfl rfl (QOp_add _ _ _ _ _ _ _ rfl rfl rfl) ?_
 refine kN 1 rfl ?_
 refine ACode_ret ?_
 cases h
 exact ⟨_, _, fun r a w h => ⟨r, h⟩, _, _, [], _, (.cons (ResV_tmp _ _ rfl) .nil), rfl, rfl, rfl, rfl, rfl⟩

-- loop.example/g01362/spec.l01At
def spec_l01At (p0 : Col) (p1 : Int) (p2 : Int) : Option (Int) :=
 (if 0 ≤ (spec_l01Edge p1 p2) ∧ (spec_l01Edge p1 p2) < 136 then some ((p0.get ((spec_l01Edge p1 p2).toNat)).toNat : Int) else none)
set_option maxRecDepth 100000 in
theorem spec_l01At_ac (p0 : Col) (p1 : Int) (p2 : Int) (r : Int) (h : spec_l01At p0 p1 p2 = some r) : AC Try.prog 66 [.d (.agg (colD p0)), iV p1, iV p2] [] (fun res H' => res = [iV r] ∧ H' = []) := by
 refine AC_of_body true Try.func66 rfl Try.ntmps66 (rvs := [.tmp 6]) rfl rfl (fun G hG => ?_)
 have hm : G.H.length = 0 := by rw [hG]; rfl
 have hz : zeroG G.H = true := by rw [hG]; rfl
 unfold spec_l01At at h
 refine kR ?_
 refine AOps_boxI 3 _ _ (.agg (colD p0)) (colD p0) rfl (colD_one _) rfl rfl rfl rfl rfl ?_
 refine kN 1 rfl ?_
 refine kR ?_
 refine kM 2 rfl ?_
 refine kC [] 9 (iV (spec_l01Edge p1 p2)) [] rfl Try.call110 rfl rfl (spec_l01Edge_ac p1 p2) rfl ?_
 refine AOps_q 10 _ rfl rfl rfl (QOp_fieldAddr_pv _ _ _ _ _ 2 _ _ rfl Try.underlying29 rfl _ Try.sizeOf27 rfl rfl) ?_
 obtain ⟨hc2, h⟩ := guardO h
 refine AOps_q 11 _ rfl rfl rfl (QOp_indexAddrA_pv _ _ _ _ _ _ _ _ _ rfl Try.underlying27 Try.sizeOf5 hc2.1 hc2.2 rfl rfl) ?_
 refine AOps_q 12 _ rfl rfl rfl (QOp_load_pv _ _ _ _ _ rfl Try.isAgg5 rfl (colD_get _ _ (by omega))) ?_
 refine AOps_q 13 _ rfl rfl rfl (QOp_fromByte _ _ _ _ _ rfl rfl Try.underlying2 wrap_i64_byte rfl) ?_
 refine kN 1 rfl ?_
 refine ACode_ret ?_
 cases h
 exact ⟨_, _, fun r a w h => ⟨r, h⟩, _, _, [], _, (.cons (ResV_tmp _ _ rfl) .nil), rfl, rfl, rfl, rfl, rfl⟩

-- loop.example/g01362/spec.l01Around
def spec_l01Around_l0 (p0 : Col) (p1 : Int) (p2 : Int) : Nat → Int → Int → Option (Int)
 | 0, _, _ => none
 | k0 + 1, x1, x2 => (if decide (x2 < p0.p) then (((if !decide (x2 = p1) then (spec_l01At p0 p1 x2).bind fun r5 => some (decide (r5 = p2)) else some false) : Option (Bool)).bind fun s6 => (if s6 then (if 0 ≤ IntKind.u64.wrap x2 then some (bOr .i64 x1 (bShl .i64 1 (IntKind.u64.wrap x2))) else none) else some x1) : Option (Int)).bind fun s9 => spec_l01Around_l0 p0 p1 p2 k0 s9 (w64 (x2 + 1)) else some x1)
def spec_l01Around (k : Nat) (p0 : Col) (p1 : Int) (p2 : Int) : Option (Int) :=
 (spec_l01Around_l0 p0 p1 p2 k 0 0 : Option (Int)).bind fun s10 => some s10
set_option maxRecDepth 100000 in
theorem spec_l01Around_ac (k : Nat) (p0 : Col) (p1 : Int) (p2 : Int) (r : Int) (h : spec_l01Around k p0 p1 p2 = some r) : AC Try.prog 68 [.d (.agg (colD p0)), iV p1, iV p2] [] (fun res H' => res = [iV r] ∧ H' = []) := by
 refine AC_of_body true Try.func68 rfl Try.ntmps68 (rvs := [.tmp 6]) rfl rfl (fun G hG => ?_)
 have hm : G.H.length = 0 := by rw [hG]; rfl
 have hz : zeroG G.H = true := by rw [hG]; rfl
 unfold spec_l01Around at h
 refine kR ?_
 refine AOps_boxI 3 _ _ (.agg (colD p0)) (colD p0) rfl (colD_one _) rfl rfl rfl rfl rfl ?_
 refine kN 1 rfl ?_
 refine kR ?_
 refine kN 1 rfl ?_
 refine kB (fun s10 => [(7, iV s10)]) (fun s10 => []) h (fun s10 h => ?_) (fun s10 h => ?_)
 ·refine kR ?_
  refine kN 1 rfl ?_
  refine ACode_block ?_
  refine ACode_loopW (fun k0 E H => ∃ (x1 : Int) (x2 : Int), E = [(1, iV p1), (2, iV p2), (3, .d (.pv (colD p0) 0)), (7, iV x1), (8, iV x2)] ∧ H = [] ∧ spec_l01Around_l0 p0 p1 p2 k0 x1 x2 = some s10) k _ _ (Weak_keep 0 hm [1, 2, 3, 7, 8] [] _ _ rfl rfl rfl) ⟨_, _, rfl, rfl, h⟩ ?_
  clear h
  rintro k0 E H ⟨x1, x2, rfl, rfl, h⟩
  cases k0 with
  | zero => cases (show (none : Option (Int)) = some _ from h)
  | succ k0 =>
   rw [spec_l01Around_l0] at h
   refine ACode_seq ?_
   refine kR ?_
   refine kM 1 rfl ?_
   refine AOps_q 10 _ rfl rfl rfl (QOp_fieldAddr_pv _ _ _ _ _ 0 _ _ rfl Try.underlying29 rfl _ Try.sizeOf2 rfl rfl) ?_
   refine AOps_q 11 _ rfl rfl rfl (QOp_load_pv _ _ _ _ _ rfl Try.isAgg2 rfl rfl) ?_
   refine AOps_q 12 _ rfl rfl rfl (QOp_lss _ _ _ _ _ _ _ rfl rfl rfl) ?_
   refine AOps_nil ?_
   refine kI h rfl (fun h _ => ?_) (fun h _ => ?_)
   ·refine ACode_skip ?_
    refine kB (fun s9 => [(1, iV p1), (2, iV p2), (3, .d (.pv (colD p0) 0)), (7, iV s9), (8, iV x2)]) (fun s9 => []) h (fun s9 h => ?_) (fun s9 h => ?_)
    ·refine ACode_block ?_
     refine kB (fun s6 => [(1, iV p1), (2, iV p2), (3, .d (.pv (colD p0) 0)), (7, iV x1), (8, iV x2), (25, bV s6)]) (fun s6 => []) h (fun s6 h => ?_) (fun s6 h => ?_)
     ·refine (ACode_region ?_)
      refine kM 2 rfl ?_
      refine AOps_q 17 _ rfl rfl rfl (QOp_neq _ _ _ _ _ _ _ rfl rfl rfl) ?_
      refine kM 1 rfl ?_
      refine AOps_case 18 _ rfl (fun hb4 => ?_) (fun hb4 => ?_)
      ·have h := iteT hb4 h
       refine AOps_q 19 _ rfl rfl rfl (QOp_loadN_pv _ _ _ _ _ _ rfl Try.isAgg29 Try.sizeOf29 rfl (colD_all _) (colD_length _)) ?_
       refine kM 2 rfl ?_
       obtain ⟨r5, hr5, h⟩ := bindO h
       refine kC [] 22 (iV r5) [] rfl Try.call66 rfl rfl (spec_l01At_ac p0 p1 x2 _ hr5) rfl ?_
       refine kM 1 rfl ?_
       refine AOps_q 24 _ rfl rfl rfl (QOp_eql _ _ _ _ _ _ _ rfl rfl rfl) ?_
       refine kN 1 rfl ?_
       cases h
       exact Weak_keep 0 hm [1, 2, 3, 7, 8, 25] [] _ _ rfl rfl rfl
      have h := iteF hb4 h
      refine AOps_skip 19 rfl rfl rfl ?_
      refine AOps_skip 20 rfl rfl rfl ?_
      refine AOps_skip 21 rfl rfl rfl ?_
      refine AOps_skip 22 rfl rfl rfl ?_
      refine AOps_skip 23 rfl rfl rfl ?_
      refine AOps_skip 24 rfl rfl rfl ?_
      refine kN 1 rfl ?_
      cases h
      exact Weak_keep 0 hm [1, 2, 3, 7, 8, 25] [] _ _ rfl rfl rfl
     refine kI h rfl (fun h _ => ?_) (fun h _ => ?_)
     ·refine (ACode_region ?_)
      refine kM 2 rfl ?_
      refine AOps_q 28 _ rfl rfl rfl (QOp_conv _ _ _ _ _ _ rfl rfl Try.underlying93 rfl) ?_
      obtain ⟨hc8, h⟩ := guardO h
      refine AOps_q 29 _ rfl rfl rfl (QOp_shl _ _ _ _ _ _ _ _ hc8 rfl rfl rfl) ?_
      refine AOps_q 30 _ rfl rfl rfl (QOp_or _ _ _ _ _ _ _ rfl rfl rfl) ?_
      refine kN 1 rfl ?_
      cases h
      exact Weak_keep 0 hm [1, 2, 3, 7, 8] [] _ _ rfl rfl rfl
     refine ACode_skip ?_
     cases h
     exact Weak_keep 0 hm [1, 2, 3, 7, 8] [] _ _ rfl rfl rfl
    refine (ACode_region ?_)
    refine kM 1 rfl ?_
    refine AOps_q 14 _ rfl rfl rfl (QOp_add _ _ _ _ _ _ _ rfl rfl rfl) ?_
    refine kN 1 rfl ?_
    exact ⟨k0, _, _, Nat.lt_succ_self _, Weak_keep 0 hm [1, 2, 3, 7, 8] [] _ _ rfl rfl rfl, _, _, rfl, rfl, h⟩
   refine ACode_exit ?_
   cases h
   exact Weak_keep 0 hm [7] [] _ _ rfl rfl rfl
 refine kR ?_
 refine kN 2 rfl ?_
 refine ACode_ret ?_
 cases h
 exact ⟨_, _, fun r a w h => ⟨r, h⟩, _, _, [], _, (.cons (ResV_tmp _ _ rfl) .nil), rfl, rfl, rfl, rfl, rfl⟩

-- loop.example/g01362/spec.l03Clique
def spec_l03Clique_l0 (k : Nat) (self : Col → Int → Int → Int → Option (Bool)) (p0 : Col) (p1 : Int) (p3 : Int) : Nat → Int → Int → Option (Sum (Unit) (Bool))
 | 0, _, _ => none
 | k0 + 1, x4, x5 => (if decide (x5 < p0.p) then ((if 0 ≤ IntKind.u64.wrap x5 then (if decide (bAnd .i64 (bShr .i64 x4 (IntKind.u64.wrap x5)) 1 = 0) then some (.inl x4) else (if 0 ≤ IntKind.u64.wrap x5 then (spec_l01Around k p0 x5 p1).bind fun r10 => (self p0 p1 (bAnd .i64 (w64 (x4 - (bShl .i64 1 (IntKind.u64.wrap x5)))) r10) (w64 (p3 - 1))).bind fun r11 => (if r11 then (some (.inr true)).bind fun rr => some (.inr rr) else some (.inl (w64 (x4 - (bShl .i64 1 (IntKind.u64.wrap x5)))))) else none)) else none) : Option (Sum (Int) (Sum (Unit) (Bool)))).bind fun os13 => (match os13 with | .inl s13 => spec_l03Clique_l0 k self p0 p1 p3 k0 s13 (w64 (x5 + 1)) | .inr rr => some rr) else some (.inl ()))
def spec_l03Clique_body (self : Col → Int → Int → Int → Option (Bool)) (k : Nat) (p0 : Col) (p1 : Int) (p2 : Int) (p3 : Int) : Option (Bool) :=
 (if decide (p3 = 0) then some true else (spec_l01Ones k p2).bind fun r2 => (if decide (r2 < p3) then some false else (spec_l03Clique_l0 k self p0 p1 p3 k p2 0 : Option (Sum (Unit) (Bool))).bind fun os14 => (match os14 with | .inl s14 => some false | .inr rr => some rr)))
def spec_l03Clique : Nat → Col → Int → Int → Int → Option (Bool)
 | 0, _, _, _, _ => none
 | k + 1, p0, p1, p2, p3 => spec_l03Clique_body (spec_l03Clique k) k p0 p1 p2 p3
set_option maxRecDepth 100000 in
theorem spec_l03Clique_ac (k : Nat) (p0 : Col) (p1 : Int) (p2 : Int) (p3 : Int) (r : Bool) (h : spec_l03Clique k p0 p1 p2 p3 = some r) : AC Try.prog 67 [.d (.agg (colD p0)), iV p1, iV p2, iV p3] [] (fun res H' => res = [bV r] ∧ H' = []) := by
 induction k generalizing p0 p1 p2 p3 r with
 | zero => simp [spec_l03Clique] at h
 | succ k ih =>
  rw [spec_l03Clique] at h
  obtain ⟨self, hself, hk⟩ : ∃ self : Col → Int → Int → Int → Option (Bool), (∀ (p0 : Col) (p1 : Int) (p2 : Int) (p3 : Int) (r : Bool), self p0 p1 p2 p3 = some r → AC Try.prog 67 [.d (.agg (colD p0)), iV p1, iV p2, iV p3] [] (fun res H' => res = [bV r] ∧ H' = [])) ∧ spec_l03Clique k = self := ⟨spec_l03Clique k, fun p0 p1 p2 p3 r h => ih p0 p1 p2 p3 r h, rfl⟩
  rw [hk] at h
  clear ih hk
  refine AC_of_body true Try.func67 rfl Try.ntmps67 (rvs := [.tmp 8]) rfl rfl (fun G hG => ?_)
  have hm : G.H.length = 0 := by rw [hG]; rfl
  have hz : zeroG G.H = true := by rw [hG]; rfl
  unfold spec_l03Clique_body at h
  refine kR ?_
  refine AOps_boxI 4 _ _ (.agg (colD p0)) (colD p0) rfl (colD_one _) rfl rfl rfl rfl rfl ?_
  refine kN 1 rfl ?_
  refine ACode_seq ?_
  refine kR ?_
  refine kM 1 rfl ?_
  refine AOps_q 11 _ rfl rfl rfl (QOp_eql _ _ _ _ _ _ _ rfl rfl rfl) ?_
  refine AOps_nil ?_
  refine kI h rfl (fun h _ => ?_) (fun h _ => ?_)
  ·refine kR ?_
   refine kN 1 rfl ?_
   refine ACode_ret ?_
   cases h
   exact ⟨_, _, fun r a w h => ⟨r, h⟩, _, _, [], _, (.cons (ResV_tmp _ _ rfl) .nil), rfl, rfl, rfl, rfl, rfl⟩
  refine ACode_skip ?_
  refine ACode_seq ?_
  refine kR ?_
  refine kM 1 rfl ?_
  obtain ⟨r2, hr2, h⟩ := bindO h
  refine kC [] 13 (iV r2) [] rfl Try.call111 rfl rfl (spec_l01Ones_ac k p2 _ hr2) rfl ?_
  refine kM 1 rfl ?_
  refine AOps_q 15 _ rfl rfl rfl (QOp_lss _ _ _ _ _ _ _ rfl rfl rfl) ?_
  refine AOps_nil ?_
  refine kI h rfl (fun h _ => ?_) (fun h _ => ?_)
  ·refine kR ?_
   refine kN 1 rfl ?_
   refine ACode_ret ?_
   cases h
   exact ⟨_, _, fun r a w h => ⟨r, h⟩, _, _, [], _, (.cons (ResV_tmp _ _ rfl) .nil), rfl, rfl, rfl, rfl, rfl⟩
  refine ACode_skip ?_
  refine kO (fun s14 => []) (fun s14 => []) h (fun os14 h hks14 => ?_) (fun s14 h => ?_)
  ·refine kR ?_
   refine kN 1 rfl ?_
   refine ACode_block ?_
   refine ACode_loopW (fun k0 E H => ∃ (x4 : Int) (x5 : Int), E = [(1, iV p1), (2, iV x4), (3, iV p3), (4, .d (.pv (colD p0) 0)), (9, iV x5)] ∧ H = [] ∧ spec_l03Clique_l0 k self p0 p1 p3 k0 x4 x5 = some os14) k _ _ (Weak_keep 0 hm [1, 2, 3, 4, 9] [] _ _ rfl rfl rfl) ⟨_, _, rfl, rfl, h⟩ ?_
   clear h
   rintro k0 E H ⟨x4, x5, rfl, rfl, h⟩
   cases k0 with
   | zero => cases (show (none : Option (Sum (Unit) (Bool))) = some _ from h)
   | succ k0 =>
    rw [spec_l03Clique_l0] at h
    refine ACode_seq ?_
    refine kR ?_
    refine kM 1 rfl ?_
    refine AOps_q 17 _ rfl rfl rfl (QOp_fieldAddr_pv _ _ _ _ _ 0 _ _ rfl Try.underlying29 rfl _ Try.sizeOf2 rfl rfl) ?_
    refine AOps_q 18 _ rfl rfl rfl (QOp_load_pv _ _ _ _ _ rfl Try.isAgg2 rfl rfl) ?_
    refine AOps_q 19 _ rfl rfl rfl (QOp_lss _ _ _ _ _ _ _ rfl rfl rfl) ?_
    refine AOps_nil ?_
    refine kI h rfl (fun h _ => ?_) (fun h _ => ?_)
    ·refine ACode_skip ?_
     refine kO (fun s13 => [(1, iV p1), (2, iV s13), (3, iV p3), (4, .d (.pv (colD p0) 0)), (9, iV x5)]) (fun s13 => []) h (fun os13 h hks13 => ?_) (fun s13 h => ?_)
     ·refine ACode_block ?_
      refine ACode_seq ?_
      refine kR ?_
      refine kM 2 rfl ?_
      refine AOps_q 24 _ rfl rfl rfl (QOp_conv _ _ _ _ _ _ rfl rfl Try.underlying93 rfl) ?_
      obtain ⟨hc7, h⟩ := guardO h
      refine AOps_q 25 _ rfl rfl rfl (QOp_shr _ _ _ _ _ _ _ _ hc7 rfl rfl rfl) ?_
      refine AOps_q 26 _ rfl rfl rfl (QOp_and _ _ _ _ _ _ _ rfl rfl rfl) ?_
      refine AOps_q 27 _ rfl rfl rfl (QOp_eql _ _ _ _ _ _ _ rfl rfl rfl) ?_
      refine AOps_nil ?_
      refine kI h rfl (fun h _ => ?_) (fun h _ => ?_)
      ·refine ACode_exit ?_
       cases h
       exact ⟨_, rfl, Weak_keep 0 hm [1, 2, 3, 4, 9] [] _ _ rfl rfl rfl⟩
      refine ACode_skip ?_
      refine kR ?_
      refine kM 2 rfl ?_
      refine AOps_q 30 _ rfl rfl rfl (QOp_conv _ _ _ _ _ _ rfl rfl Try.underlying93 rfl) ?_
      obtain ⟨hc9, h⟩ := guardO h
      refine AOps_q 31 _ rfl rfl rfl (QOp_shl _ _ _ _ _ _ _ _ hc9 rfl rfl rfl) ?_
      refine AOps_q 32 _ rfl rfl rfl (QOp_sub _ _ _ _ _ _ _ rfl rfl rfl) ?_
      refine kN 1 rfl ?_
      refine ACode_seq (ACode_quiet mixed (by kernel_rfl) ?_)
      refine AQ_q 33 _ rfl rfl rfl (QOp_loadN_pv _ _ _ _ _ _ rfl Try.isAgg29 Try.sizeOf29 rfl (colD_all _) (colD_length _)) ?_
      refine kQ 2 rfl ?_
      refine AQ_q 36 _ rfl rfl rfl (QOp_loadN_pv _ _ _ _ _ _ rfl Try.isAgg29 Try.sizeOf29 rfl (colD_all _) (colD_length _)) ?_
      refine kQ 2 rfl ?_
      obtain ⟨r10, hr10, h⟩ := bindO h
      refine AQ_call 39 _ _ _ _ _ _ _ _ _ rfl rfl rfl rfl rfl rfl rfl Try.call68 rfl rfl rfl (spec_l01Around_ac k p0 x5 p1 _ hr10) ?_
      refine AQ_q 40 _ rfl rfl rfl (QOp_and _ _ _ _ _ _ _ rfl rfl rfl) ?_
      refine kQ 1 rfl ?_
      refine AQ_q 42 _ rfl rfl rfl (QOp_sub _ _ _ _ _ _ _ rfl rfl rfl) ?_
      obtain ⟨r11, hr11, h⟩ := bindO h
      refine AQ_call 43 _ _ _ _ _ _ _ _ _ rfl rfl rfl rfl rfl rfl rfl Try.call67 rfl rfl rfl (hself p0 p1 (bAnd .i64 (w64 (x4 - (bShl .i64 1 (IntKind.u64.wrap x5)))) r10) (w64 (p3 - 1)) _ hr11) ?_
      refine AQ_nil ?_
      refine kI h rfl (fun h _ => ?_) (fun h _ => ?_)
      ·refine kR ?_
       refine kN 1 rfl ?_
       refine ACode_ret ?_
       obtain ⟨rr, hz15, h2⟩ := bindO h
       obtain rfl := Option.some.inj h2
       obtain rfl := Option.some.inj (show some rr = some _ from hks13)
       have h := hz15
       cases h
       have h := hks14
       cases h
       exact ⟨_, _, fun r a w h => ⟨r, h⟩, _, _, [], _, (.cons (ResV_tmp _ _ rfl) .nil), rfl, rfl, rfl, rfl, rfl⟩
      refine ACode_skip ?_
      cases h
      exact ⟨_, rfl, Weak_keep 0 hm [1, 2, 3, 4, 9] [] _ _ rfl rfl rfl⟩
     refine (ACode_region ?_)
     refine kM 1 rfl ?_
     refine AOps_q 21 _ rfl rfl rfl (QOp_add _ _ _ _ _ _ _ rfl rfl rfl) ?_
     refine kN 1 rfl ?_
     exact ⟨k0, _, _, Nat.lt_succ_self _, Weak_keep 0 hm [1, 2, 3, 4, 9] [] _ _ rfl rfl rfl, _, _, rfl, rfl, h⟩
    refine ACode_exit ?_
    cases h
    exact ⟨_, rfl, Weak_keep 0 hm [] [] _ _ rfl rfl rfl⟩
  refine kR ?_
  refine kN 1 rfl ?_
  refine ACode_ret ?_
  cases h
  exact ⟨_, _, fun r a w h => ⟨r, h⟩, _, _, [], _, (.cons (ResV_tmp _ _ rfl) .nil), rfl, rfl, rfl, rfl, rfl⟩

-- loop.example/g01362/spec.l05Avoids
def spec_l05Avoids_l0 (k : Nat) (p0 : Col) (p1 : List Int) : Nat → Int → Option (Sum (Unit) (Bool))
 | 0, _ => none
 | k0 + 1, x1 => (if decide (x1 < p0.k) then (if 0 ≤ IntKind.u64.wrap p0.p then (if 0 ≤ x1 ∧ x1 < (p1.length : Int) then (spec_l03Clique k p0 x1 (w64 ((bShl .i64 1 (IntKind.u64.wrap p0.p)) - 1)) (p1.getD x1.toNat 0)).bind fun r5 => (if r5 then some (.inr false) else spec_l05Avoids_l0 k p0 p1 k0 (w64 (x1 + 1))) else none) else none) else some (.inl ()))
def spec_l05Avoids (k : Nat) (p0 : Col) (p1 : List Int) : Option (Bool) :=
 (spec_l05Avoids_l0 k p0 p1 k 0 : Option (Sum (Unit) (Bool))).bind fun os7 => (match os7 with | .inl s7 => some true | .inr rr => some rr)
set_option maxRecDepth 100000 in
theorem spec_l05Avoids_ac (k : Nat) (p0 : Col) (p1 : List Int) (r : Bool) (h : spec_l05Avoids k p0 p1 = some r) : AC Try.prog 42 [.d (.agg (colD p0)), .d (.sl none (intsD p1))] [] (fun res H' => res = [bV r] ∧ H' = []) := by
 refine AC_of_body true Try.func42 rfl Try.ntmps42 (rvs := [.tmp 4]) rfl rfl (fun G hG => ?_)
 have hm : G.H.length = 0 := by rw [hG]; rfl
 have hz : zeroG G.H = true := by rw [hG]; rfl
 unfold spec_l05Avoids at h
 refine kR ?_
 refine AOps_boxI 2 _ _ (.agg (colD p0)) (colD p0) rfl (colD_one _) rfl rfl rfl rfl rfl ?_
 refine kN 1 rfl ?_
 refine kO (fun s7 => []) (fun s7 => []) h (fun os7 h hks7 => ?_) (fun s7 h => ?_)
 ·refine kR ?_
  refine kN 1 rfl ?_
  refine ACode_block ?_
  refine ACode_loopW (fun k0 E H => ∃ (x1 : Int), E = [(1, .d (.sl none (intsD p1))), (2, .d (.pv (colD p0) 0)), (5, iV x1)] ∧ H = [] ∧ spec_l05Avoids_l0 k p0 p1 k0 x1 = some os7) k _ _ (Weak_keep 0 hm [1, 2, 5] [] _ _ rfl rfl rfl) ⟨_, rfl, rfl, h⟩ ?_
  clear h
  rintro k0 E H ⟨x1, rfl, rfl, h⟩
  cases k0 with
  | zero => cases (show (none : Option (Sum (Unit) (Bool))) = some _ from h)
  | succ k0 =>
   rw [spec_l05Avoids_l0] at h
   refine ACode_seq ?_
   refine kR ?_
   refine kM 1 rfl ?_
   refine AOps_q 7 _ rfl rfl rfl (QOp_fieldAddr_pv _ _ _ _ _ 1 _ _ rfl Try.underlying29 rfl _ Try.sizeOf2 rfl rfl) ?_
   refine AOps_q 8 _ rfl rfl rfl (QOp_load_pv _ _ _ _ _ rfl Try.isAgg2 rfl rfl) ?_
   refine AOps_q 9 _ rfl rfl rfl (QOp_lss _ _ _ _ _ _ _ rfl rfl rfl) ?_
   refine AOps_nil ?_
   refine kI h rfl (fun h _ => ?_) (fun h _ => ?_)
   ·refine ACode_skip ?_
    refine ACode_seq ?_
    refine ACode_block ?_
    refine ACode_seq (ACode_quiet mixed (by kernel_rfl) ?_)
    refine AQ_q 12 _ rfl rfl rfl (QOp_loadN_pv _ _ _ _ _ _ rfl Try.isAgg29 Try.sizeOf29 rfl (colD_all _) (colD_length _)) ?_
    refine kQ 1 rfl ?_
    refine AQ_q 14 _ rfl rfl rfl (QOp_fieldAddr_pv _ _ _ _ _ 0 _ _ rfl Try.underlying29 rfl _ Try.sizeOf2 rfl rfl) ?_
    refine AQ_q 15 _ rfl rfl rfl (QOp_load_pv _ _ _ _ _ rfl Try.isAgg2 rfl rfl) ?_
    refine AQ_q 16 _ rfl rfl rfl (QOp_conv _ _ _ _ _ _ rfl rfl Try.underlying93 rfl) ?_
    obtain ⟨hc3, h⟩ := guardO h
    refine AQ_q 17 _ rfl rfl rfl (QOp_shl _ _ _ _ _ _ _ _ hc3 rfl rfl rfl) ?_
    refine AQ_q 18 _ rfl rfl rfl (QOp_sub _ _ _ _ _ _ _ rfl rfl rfl) ?_
    refine kQ 2 rfl ?_
    obtain ⟨hc4, h⟩ := guardO h
    refine AQ_q 21 _ rfl rfl rfl (QOp_indexAddr_sl _ _ _ _ _ _ _ _ rfl Try.underlying24 Try.sizeOf2 hc4.1 (by rw [intsD_length]; exact hc4.2) rfl rfl) ?_
    refine AQ_q 22 _ rfl rfl rfl (QOp_load_pv _ _ _ _ _ rfl Try.isAgg2 rfl (intsD_get _ _ 0 (by omega))) ?_
    obtain ⟨r5, hr5, h⟩ := bindO h
    refine AQ_call 23 _ _ _ _ _ _ _ _ _ rfl rfl rfl rfl rfl rfl rfl Try.call67 rfl rfl rfl (spec_l03Clique_ac k p0 x1 (w64 ((bShl .i64 1 (IntKind.u64.wrap p0.p)) - 1)) (p1.getD x1.toNat 0) _ hr5) ?_
    refine AQ_nil ?_
    refine kI h rfl (fun h _ => ?_) (fun h _ => ?_)
    ·refine kR ?_
     refine kN 1 rfl ?_
     refine ACode_ret ?_
     cases h
     have h := hks7
     cases h
     exact ⟨_, _, fun r a w h => ⟨r, h⟩, _, _, [], _, (.cons (ResV_tmp _ _ rfl) .nil), rfl, rfl, rfl, rfl, rfl⟩
    refine ACode_skip ?_
    refine (ACode_region ?_)
    refine kM 1 rfl ?_
    refine AOps_q 11 _ rfl rfl rfl (QOp_add _ _ _ _ _ _ _ rfl rfl rfl) ?_
    refine kN 1 rfl ?_
    exact ⟨k0, _, _, Nat.lt_succ_self _, Weak_keep 0 hm [1, 2, 5] [] _ _ rfl rfl rfl, _, rfl, rfl, h⟩
   refine ACode_exit ?_
   cases h
   exact ⟨_, rfl, Weak_keep 0 hm [] [] _ _ rfl rfl rfl⟩
 refine kR ?_
 refine kN 1 rfl ?_
 refine ACode_ret ?_
 cases h
 exact ⟨_, _, fun r a w h => ⟨r, h⟩, _, _, [], _, (.cons (ResV_tmp _ _ rfl) .nil), rfl, rfl, rfl, rfl, rfl⟩

-- loop.example/g01362/spec.l01Own
def spec_l01Own (p0 : List Int) : Option (List Int) :=
 (if ([] : List Int).length + p0.length ≤ 1099511627776 then some (([] : List Int) ++ p0) else none)
set_option maxRecDepth 100000 in
theorem spec_l01Own_ac (p0 : List Int) (r : List Int) (h : spec_l01Own p0 = some r) : AC Try.prog 130 [.d (.sl none (intsD p0))] [] (fun res H' => res = [.vec 0 0] ∧ H' = [.vec 0 (intsD r)]) := by
 refine AC_of_body true Try.func130 rfl Try.ntmps130 (rvs := [.tmp 2]) rfl rfl (fun G hG => ?_)
 have hm : G.H.length = 0 := by rw [hG]; rfl
 have hz : zeroG G.H = true := by rw [hG]; rfl
 unfold spec_l01Own at h
 refine kR ?_
 refine kN 1 rfl ?_
 refine kR ?_
 refine AOps_buildSlice 3 _ _ _ [] (intsD ([] : List Int)) _ rfl rfl rfl rfl rfl (by decide) Try.underlying24 Try.sizeOf2 (zero_of Try.typeInfo2 rfl) rfl rfl (intsD_one _) ?_
 refine kM 1 rfl ?_
 obtain ⟨hc1, h⟩ := guardO h
 refine AOps_append 5 _ _ _ _ _ _ _ _ _ _ _ _ rfl rfl rfl rfl rfl rfl rfl Try.underlying24 Try.type2 rfl rfl rfl (by decide) rfl rfl rfl rfl (intsD_one _) (by rw [intsD_length, intsD_length]; exact hc1) ?_
 rw [intsD_app]
 refine kN 1 rfl ?_
 refine ACode_ret ?_
 cases h
 exact ⟨_, _, Weak_reset 0 hm hz [2] _ _ rfl rfl, _, _, [0], _, (.cons (ResV_tmp _ _ rfl) .nil), rfl, rfl, rfl, rfl, rfl⟩

-- loop.example/g01362/spec.l05Search
def spec_l05Search_l0 (k : Nat) (self : Col → (List Int) → (List Int) → (List Int) → Int → Option (List (List Int))) (p0 : Col) (p1 : List Int) (p2 : List Int) (p3 : List Int) (p4 : Int) : Nat → Int → (List (List Int)) → Option (List (List Int))
 | 0, _, _ => none
 | k0 + 1, x2, x3 => (letO (if decide (x2 < p0.k) then decide ((x3.length : Int) < p4) else false) fun (s5 : Bool) => (if s5 then some (.inl ()) else (some x3).bind fun rr => some (.inr rr)) : Option (Sum (Unit) (List (List Int)))).bind fun os7 => (match os7 with | .inl s7 => ((((if 0 ≤ x2 ∧ x2 < (p1.length : Int) then (if decide ((p1.getD x2.toNat 0) < 2) then some true else (if 0 ≤ x2 ∧ x2 < (p3.length : Int) then (spec_l01Around k p0 (p2.length : Int) x2).bind fun r11 => (if 0 ≤ x2 ∧ x2 < (p1.length : Int) then (spec_l03Clique k p0 x2 (bAnd .i64 (p3.getD x2.toNat 0) r11) (w64 ((p1.getD x2.toNat 0) - 2))).bind fun r13 => some r13 else none) else none)) else none) : Option (Bool)).bind fun s14 => (if s14 then (some x3).bind fun rr => some (.inr rr) else some (.inl ())) : Option (Sum (Unit) (List (List Int)))).bind fun os16 => (match os16 with | .inl s16 => (spec_l01Own p3).bind fun r17 => (if 0 ≤ x2 ∧ x2 < (r17.length : Int) then (if 0 ≤ IntKind.u64.wrap (p2.length : Int) then (if 0 ≤ x2 ∧ x2 < (r17.length : Int) then (spec_l01Own p2).bind fun r21 => (if r21.length + ([x2]).length ≤ 1099511627776 then (self p0 p1 (r21 ++ ([x2])) (r17.set x2.toNat (bOr .i64 (r17.getD x2.toNat 0) (bShl .i64 1 (IntKind.u64.wrap (p2.length : Int))))) (w64 (p4 - (x3.length : Int)))).bind fun r23 => (if x3.length + r23.length ≤ 1099511627776 then some (x3 ++ r23) else none) else none) else none) else none) else none) | .inr rr => some rr) : Option (List (List Int))).bind fun s25 => spec_l05Search_l0 k self p0 p1 p2 p3 p4 k0 (w64 (x2 + 1)) s25 | .inr rr => some rr)
def spec_l05Search_body (self : Col → (List Int) → (List Int) → (List Int) → Int → Option (List (List Int))) (k : Nat) (p0 : Col) (p1 : List Int) (p2 : List Int) (p3 : List Int) (p4 : Int) : Option (List (List Int)) :=
 (if decide ((p2.length : Int) = p0.p) then some ([p2]) else (spec_l05Search_l0 k self p0 p1 p2 p3 p4 k 0 ([] : List (List Int)) : Option (List (List Int))).bind fun s26 => some s26)
def spec_l05Search : Nat → Col → (List Int) → (List Int) → (List Int) → Int → Option (List (List Int))
 | 0, _, _, _, _, _ => none
 | k + 1, p0, p1, p2, p3, p4 => spec_l05Search_body (spec_l05Search k) k p0 p1 p2 p3 p4
set_option maxRecDepth 100000 in
theorem spec_l05Search_ac (k : Nat) (p0 : Col) (p1 : List Int) (p2 : List Int) (p3 : List Int) (p4 : Int) (r : List (List Int)) (h : spec_l05Search k p0 p1 p2 p3 p4 = some r) : AC Try.prog 121 [.d (.agg (colD p0)), .d (.sl none (intsD p1)), .d (.sl none (intsD p2)), .d (.sl none (intsD p3)), iV p4] [] (fun res H' => res = [.d (.sl none (rowsD r))] ∧ H' = []) := by
 induction k generalizing p0 p1 p2 p3 p4 r with
 | zero => simp [spec_l05Search] at h
 | succ k ih =>
  rw [spec_l05Search] at h
  obtain ⟨self, hself, hk⟩ : ∃ self : Col → (List Int) → (List Int) → (List Int) → Int → Option (List (List Int)), (∀ (p0 : Col) (p1 : List Int) (p2 : List Int) (p3 : List Int) (p4 : Int) (r : List (List Int)), self p0 p1 p2 p3 p4 = some r → AC Try.prog 121 [.d (.agg (colD p0)), .d (.sl none (intsD p1)), .d (.sl none (intsD p2)), .d (.sl none (intsD p3)), iV p4] [] (fun res H' => res = [.d (.sl none (rowsD r))] ∧ H' = [])) ∧ spec_l05Search k = self := ⟨spec_l05Search k, fun p0 p1 p2 p3 p4 r h => ih p0 p1 p2 p3 p4 r h, rfl⟩
  rw [hk] at h
  clear ih hk
  refine AC_of_body true Try.func121 rfl Try.ntmps121 (rvs := [.tmp 10]) rfl rfl (fun G hG => ?_)
  have hm : G.H.length = 0 := by rw [hG]; rfl
  have hz : zeroG G.H = true := by rw [hG]; rfl
  unfold spec_l05Search_body at h
  refine kR ?_
  refine AOps_boxI 5 _ _ (.agg (colD p0)) (colD p0) rfl (colD_one _) rfl rfl rfl rfl rfl ?_
  refine kN 1 rfl ?_
  refine kR ?_
  refine kM 1 rfl ?_
  refine AOps_q 16 _ rfl rfl rfl (QOp_len_sl _ _ _ _ _ _ _ (intsD_length _) rfl rfl rfl rfl Try.underlying24 rfl) ?_
  refine kN 1 rfl ?_
  refine ACode_seq ?_
  refine kR ?_
  refine kM 1 rfl ?_
  refine AOps_q 18 _ rfl rfl rfl (QOp_fieldAddr_pv _ _ _ _ _ 0 _ _ rfl Try.underlying29 rfl _ Try.sizeOf2 rfl rfl) ?_
  refine AOps_q 19 _ rfl rfl rfl (QOp_load_pv _ _ _ _ _ rfl Try.isAgg2 rfl rfl) ?_
  refine AOps_q 20 _ rfl rfl rfl (QOp_eql _ _ _ _ _ _ _ rfl rfl rfl) ?_
  refine AOps_nil ?_
  refine kI h rfl (fun h _ => ?_) (fun h _ => ?_)
  ·refine kR ?_
   refine kM 1 rfl ?_
   refine AOps_buildSlice 22 _ _ _ [_] (rowsD ([p2])) _ rfl rfl rfl rfl rfl (by decide) Try.underlying41 Try.sizeOf24 (zero_of Try.typeInfo24 rfl) rfl rfl (rowsD_one _) ?_
   refine kN 1 rfl ?_
   refine ACode_ret ?_
   cases h
   exact ⟨_, _, fun r a w h => ⟨r, h⟩, _, _, [], _, (.cons (ResV_tmp _ _ rfl) .nil), rfl, rfl, rfl, rfl, rfl⟩
  refine ACode_skip ?_
  refine kR ?_
  refine AOps_buildSlice 23 _ _ _ [] (rowsD ([] : List (List Int))) _ rfl rfl rfl rfl rfl (by decide) Try.underlying41 Try.sizeOf24 (zero_of Try.typeInfo24 rfl) rfl rfl (rowsD_one _) ?_
  refine kN 1 rfl ?_
  refine kB (fun s26 => [(12, .vec 0 0)]) (fun s26 => [.vec 0 (rowsD s26)]) h (fun s26 h => ?_) (fun s26 h => ?_)
  ·refine kR ?_
   refine kN 1 rfl ?_
   refine ACode_block ?_
   refine ACode_loopW (fun k0 E H => ∃ (x2 : Int) (x3 : List (List Int)), E = [(1, .d (.sl none (intsD p1))), (2, .d (.sl none (intsD p2))), (3, .d (.sl none (intsD p3))), (4, iV p4), (5, .d (.pv (colD p0) 0)), (11, iV (p2.length : Int)), (12, .vec 0 0), (13, iV x2)] ∧ H = [.vec 0 (rowsD x3)] ∧ spec_l05Search_l0 k self p0 p1 p2 p3 p4 k0 x2 x3 = some s26) k _ _ (Weak_keep 0 hm [1, 2, 3, 4, 5, 11, 12, 13] [0] _ _ rfl rfl rfl) ⟨_, _, rfl, rfl, h⟩ ?_
   clear h
   rintro k0 E H ⟨x2, x3, rfl, rfl, h⟩
   cases k0 with
   | zero => cases (show (none : Option (List (List Int))) = some _ from h)
   | succ k0 =>
    rw [spec_l05Search_l0] at h
    refine kO (fun s7 => [(1, .d (.sl none (intsD p1))), (2, .d (.sl none (intsD p2))), (3, .d (.sl none (intsD p3))), (4, iV p4), (5, .d (.pv (colD p0) 0)), (11, iV (p2.length : Int)), (12, .vec 0 0), (13, iV x2)]) (fun s7 => [.vec 0 (rowsD x3)]) h (fun os7 h hks7 => ?_) (fun s7 h => ?_)
    ·refine kL (fun s5 => [(1, .d (.sl none (intsD p1))), (2, .d (.sl none (intsD p2))), (3, .d (.sl none (intsD p3))), (4, iV p4), (5, .d (.pv (colD p0) 0)), (11, iV (p2.length : Int)), (12, .vec 0 0), (13, iV x2), (33, bV s5)]) (fun s5 => [.vec 0 (rowsD x3)]) h (fun s5 h => ?_) (fun s5 h => ?_)
     ·refine (ACode_region ?_)
      refine kM 1 rfl ?_
      refine AOps_q 25 _ rfl rfl rfl (QOp_fieldAddr_pv _ _ _ _ _ 1 _ _ rfl Try.underlying29 rfl _ Try.sizeOf2 rfl rfl) ?_
      refine AOps_q 26 _ rfl rfl rfl (QOp_load_pv _ _ _ _ _ rfl Try.isAgg2 rfl rfl) ?_
      refine AOps_q 27 _ rfl rfl rfl (QOp_lss _ _ _ _ _ _ _ rfl rfl rfl) ?_
      refine kM 1 rfl ?_
      refine AOps_case 28 _ rfl (fun hb4 => ?_) (fun hb4 => ?_)
      ·have h := iteT hb4 h
       refine kM 1 rfl ?_
       refine AOps_q 30 _ rfl rfl rfl (QOp_len_vec _ _ _ _ _ _ _ _ (rowsD_length _) rfl rfl rfl rfl Try.underlying41 rfl rfl) ?_
       refine kM 1 rfl ?_
       refine AOps_q 32 _ rfl rfl rfl (QOp_lss _ _ _ _ _ _ _ rfl rfl rfl) ?_
       refine kN 1 rfl ?_
       cases h
       exact Weak_keep 0 hm [1, 2, 3, 4, 5, 11, 12, 13, 33] [0] _ _ rfl rfl rfl
      have h := iteF hb4 h
      refine AOps_skip 29 rfl rfl rfl ?_
      refine AOps_skip 30 rfl rfl rfl ?_
      refine AOps_skip 31 rfl rfl rfl ?_
      refine AOps_skip 32 rfl rfl rfl ?_
      refine kN 1 rfl ?_
      cases h
      exact Weak_keep 0 hm [1, 2, 3, 4, 5, 11, 12, 13, 33] [0] _ _ rfl rfl rfl
     refine kI h rfl (fun h _ => ?_) (fun h _ => ?_)
     ·refine ACode_skip ?_
      cases h
      exact ⟨_, rfl, Weak_keep 0 hm [1, 2, 3, 4, 5, 11, 12, 13] [0] _ _ rfl rfl rfl⟩
     refine ACode_exit ?_
     obtain ⟨rr, hz27, h2⟩ := bindO h
     obtain rfl := Option.some.inj h2
     obtain rfl := Option.some.inj (show some rr = some _ from hks7)
     have h := hz27
     cases h
     exact Weak_keep 0 hm [12] [0] _ _ rfl rfl rfl
    refine kB (fun s25 => [(1, .d (.sl none (intsD p1))), (2, .d (.sl none (intsD p2))), (3, .d (.sl none (intsD p3))), (4, iV p4), (5, .d (.pv (colD p0) 0)), (11, iV (p2.length : Int)), (12, .vec 0 0), (13, iV x2)]) (fun s25 => [.vec 0 (rowsD s25)]) h (fun s25 h => ?_) (fun s25 h => ?_)
    ·refine ACode_block ?_
     refine kO (fun s16 => [(1, .d (.sl none (intsD p1))), (2, .d (.sl none (intsD p2))), (3, .d (.sl none (intsD p3))), (4, iV p4), (5, .d (.pv (colD p0) 0)), (11, iV (p2.length : Int)), (12, .vec 0 0), (13, iV x2)]) (fun s16 => [.vec 0 (rowsD x3)]) h (fun os16 h hks16 => ?_) (fun s16 h => ?_)
     ·refine kB (fun s14 => [(1, .d (.sl none (intsD p1))), (2, .d (.sl none (intsD p2))), (3, .d (.sl none (intsD p3))), (4, iV p4), (5, .d (.pv (colD p0) 0)), (11, iV (p2.length : Int)), (12, .vec 0 0), (13, iV x2), (59, bV s14)]) (fun s14 => [.vec 0 (rowsD x3)]) h (fun s14 h => ?_) (fun s14 h => ?_)
      ·refine (ACode_quiet mixed (by kernel_rfl) ?_)
       refine kQ 2 rfl ?_
       obtain ⟨hc8, h⟩ := guardO h
       refine AQ_q 38 _ rfl rfl rfl (QOp_indexAddr_sl _ _ _ _ _ _ _ _ rfl Try.underlying24 Try.sizeOf2 hc8.1 (by rw [intsD_length]; exact hc8.2) rfl rfl) ?_
       refine AQ_q 39 _ rfl rfl rfl (QOp_load_pv _ _ _ _ _ rfl Try.isAgg2 rfl (intsD_get _ _ 0 (by omega))) ?_
       refine AQ_q 40 _ rfl rfl rfl (QOp_lss _ _ _ _ _ _ _ rfl rfl rfl) ?_
       refine kQ 1 rfl ?_
       refine AQ_case 41 _ rfl (fun hb9 => ?_) (fun hb9 => ?_)
       ·have h := iteT hb9 h
        refine AQ_skip 42 rfl rfl rfl ?_
        refine AQ_skip 43 rfl rfl rfl ?_
        refine AQ_skip 44 rfl rfl rfl ?_
        refine AQ_skip 45 rfl rfl rfl ?_
        refine AQ_skip 46 rfl rfl rfl ?_
        refine AQ_skip 47 rfl rfl rfl ?_
        refine AQ_skip 48 rfl rfl rfl ?_
        refine AQ_skip 49 rfl rfl rfl ?_
        refine AQ_skip 50 rfl rfl rfl ?_
        refine AQ_skip 51 rfl rfl rfl ?_
        refine AQ_skip 52 rfl rfl rfl ?_
        refine AQ_skip 53 rfl rfl rfl ?_
        refine AQ_skip 54 rfl rfl rfl ?_
        refine AQ_skip 55 rfl rfl rfl ?_
        refine AQ_skip 56 rfl rfl rfl ?_
        refine AQ_skip 57 rfl rfl rfl ?_
        refine AQ_skip 58 rfl rfl rfl ?_
        refine kQ 1 rfl ?_
        refine AQ_nil ?_
        cases h
        exact Weak_keep 0 hm [1, 2, 3, 4, 5, 11, 12, 13, 59] [0] _ _ rfl rfl rfl
       have h := iteF hb9 h
       refine AQ_q 42 _ rfl rfl rfl (QOp_loadN_pv _ _ _ _ _ _ rfl Try.isAgg29 Try.sizeOf29 rfl (colD_all _) (colD_length _)) ?_
       refine kQ 3 rfl ?_
       obtain ⟨hc10, h⟩ := guardO h
       refine AQ_q 46 _ rfl rfl rfl (QOp_indexAddr_sl _ _ _ _ _ _ _ _ rfl Try.underlying24 Try.sizeOf2 hc10.1 (by rw [intsD_length]; exact hc10.2) rfl rfl) ?_
       refine AQ_q 47 _ rfl rfl rfl (QOp_load_pv _ _ _ _ _ rfl Try.isAgg2 rfl (intsD_get _ _ 0 (by omega))) ?_
       refine AQ_q 48 _ rfl rfl rfl (QOp_loadN_pv _ _ _ _ _ _ rfl Try.isAgg29 Try.sizeOf29 rfl (colD_all _) (colD_length _)) ?_
       refine kQ 2 rfl ?_
       obtain ⟨r11, hr11, h⟩ := bindO h
       refine AQ_call 51 _ _ _ _ _ _ _ _ _ rfl rfl rfl rfl rfl rfl rfl Try.call68 rfl rfl rfl (spec_l01Around_ac k p0 (p2.length : Int) x2 _ hr11) ?_
       refine AQ_q 52 _ rfl rfl rfl (QOp_and _ _ _ _ _ _ _ rfl rfl rfl) ?_
       refine kQ 2 rfl ?_
       obtain ⟨hc12, h⟩ := guardO h
       refine AQ_q 55 _ rfl rfl rfl (QOp_indexAddr_sl _ _ _ _ _ _ _ _ rfl Try.underlying24 Try.sizeOf2 hc12.1 (by rw [intsD_length]; exact hc12.2) rfl rfl) ?_
       refine AQ_q 56 _ rfl rfl rfl (QOp_load_pv _ _ _ _ _ rfl Try.isAgg2 rfl (intsD_get _ _ 0 (by omega))) ?_
       refine AQ_q 57 _ rfl rfl rfl (QOp_sub _ _ _ _ _ _ _ rfl rfl rfl) ?_
       obtain ⟨r13, hr13, h⟩ := bindO h
       refine AQ_call 58 _ _ _ _ _ _ _ _ _ rfl rfl rfl rfl rfl rfl rfl Try.call67 rfl rfl rfl (spec_l03Clique_ac k p0 x2 (bAnd .i64 (p3.getD x2.toNat 0) r11) (w64 ((p1.getD x2.toNat 0) - 2)) _ hr13) ?_
       refine kQ 1 rfl ?_
       refine AQ_nil ?_
       cases h
       exact Weak_keep 0 hm [1, 2, 3, 4, 5, 11, 12, 13, 59] [0] _ _ rfl rfl rfl
      refine kI h rfl (fun h _ => ?_) (fun h _ => ?_)
      ·refine ACode_exit ?_
       obtain ⟨rr, hz28, h2⟩ := bindO h
       obtain rfl := Option.some.inj h2
       obtain rfl := Option.some.inj (show some rr = some _ from hks16)
       have h := hz28
       cases h
       exact Weak_keep 0 hm [1, 2, 3, 4, 5, 11, 12, 13] [0] _ _ rfl rfl rfl
      refine ACode_skip ?_
      cases h
      exact ⟨_, rfl, Weak_keep 0 hm [1, 2, 3, 4, 5, 11, 12, 13] [0] _ _ rfl rfl rfl⟩
     refine kR ?_
     refine kM 1 rfl ?_
     obtain ⟨r17, hr17, h⟩ := bindO h
     refine kC [] 61 (.vec 1 0) [.vec 0 (rowsD x3), .vec 0 (intsD r17)] rfl Try.call130 rfl rfl (spec_l01Own_ac p3 _ hr17) rfl ?_
     refine kN 1 rfl ?_
     refine kR ?_
     refine kM 4 rfl ?_
     obtain ⟨hc18, h⟩ := guardO h
     refine AOps_q 66 _ rfl rfl rfl (QOp_indexAddr_vec _ _ _ _ _ _ _ _ _ rfl Try.underlying24 Try.sizeOf2 hc18.1 (by rw [intsD_length]; exact hc18.2) rfl rfl rfl) ?_
     refine AOps_q 67 _ rfl rfl rfl (QOp_load_eptr _ _ _ _ _ _ _ rfl Try.isAgg2 rfl rfl (intsD_get _ _ 0 (by omega))) ?_
     refine kM 1 rfl ?_
     refine AOps_q 69 _ rfl rfl rfl (QOp_conv _ _ _ _ _ _ rfl rfl Try.underlying93 rfl) ?_
     obtain ⟨hc19, h⟩ := guardO h
     refine AOps_q 70 _ rfl rfl rfl (QOp_shl _ _ _ _ _ _ _ _ hc19 rfl rfl rfl) ?_
     refine AOps_q 71 _ rfl rfl rfl (QOp_or _ _ _ _ _ _ _ rfl rfl rfl) ?_
     obtain ⟨hc20, h⟩ := guardO h
     refine AOps_q 72 _ rfl rfl rfl (QOp_indexAddr_vec _ _ _ _ _ _ _ _ _ rfl Try.underlying24 Try.sizeOf2 hc20.1 (by rw [intsD_length]; exact hc20.2) rfl rfl rfl) ?_
     refine AOps_store_eptr _ _ _ _ _ _ (intsD r17) _ rfl rfl rfl rfl rfl rfl rfl Try.sizeOf2 (by rw [intsD_length]; omega) ?_
     rw [intsD_set]
     refine AOps_nil ?_
     obtain ⟨r21, hr21, h⟩ := bindO h
     obtain ⟨hc22, h⟩ := guardO h
     obtain ⟨r23, hr23, h⟩ := bindO h
     obtain ⟨hc24, h⟩ := guardO h
     refine ACode_reg [(1, .d (.sl none (intsD p1))), (2, .d (.sl none (intsD p2))), (3, .d (.sl none (intsD p3))), (4, iV p4), (5, .d (.pv (colD p0) 0)), (11, iV (p2.length : Int)), (12, .vec 0 0), (13, iV x2)] [.vec 0 (rowsD (x3 ++ r23))] ?_ ?_
     ·refine ACode_anyU mixed ?_
      refine AU_cut 3 #[true, true, true, true, true, true, true, true, true, true, true, true, true, false, false, false] [(1, .d (.sl none (intsD p1))), (2, .d (.sl none (intsD p2))), (3, .d (.sl none (intsD p3))), (4, iV p4), (5, .d (.pv (colD p0) 0)), (11, iV (p2.length : Int)), (12, .vec 0 0), (13, iV x2), (73, .vec 0 0), (74, .d (.agg (colD p0))), (75, .d (.sl none (intsD p1))), (80, .vec 1 0), (81, .vec 2 0), (85, iV (w64 (p4 - (x3.length : Int))))] [.vec 0 (rowsD x3), .vec 0 (intsD (r21 ++ ([x2]))), .vec 0 (intsD (r17.set x2.toNat (bOr .i64 (r17.getD x2.toNat 0) (bShl .i64 1 (IntKind.u64.wrap (p2.length : Int))))))] ?_ (fun hS0 => ?_)
      ·refine AU_one 13 (by kernel_rfl) rfl rfl ?_
       refine AOps_freezeL [80] 1 0 _ (allc (rfl) (fun _ h => nomatch h)) rfl ?_
       refine AOps_freezeL [81] 2 0 _ (allc (rfl) (fun _ h => nomatch h)) rfl ?_
       refine kC [] 86 (.d (.sl none (rowsD r23))) [.vec 0 (rowsD x3), .gone, .gone] rfl Try.call121 rfl rfl (hself p0 p1 (r21 ++ ([x2])) (r17.set x2.toNat (bOr .i64 (r17.getD x2.toNat 0) (bShl .i64 1 (IntKind.u64.wrap (p2.length : Int))))) (w64 (p4 - (x3.length : Int))) _ hr23) rfl ?_
       refine AOps_nil ?_
       refine AU_one 14 (by kernel_rfl) rfl rfl ?_
       refine AOps_append 87 _ _ _ _ _ _ _ _ _ _ _ _ rfl rfl rfl rfl rfl rfl rfl Try.underlying41 Try.type24 rfl rfl rfl (by decide) rfl rfl rfl rfl (rowsD_one _) (by rw [rowsD_length, rowsD_length]; exact hc24) ?_
       rw [rowsD_app]
       refine AOps_nil ?_
       refine AU_u 15 12 _ rfl (by kernel_rfl) rfl rfl rfl (UOp_assign _ _ rfl rfl) ?_
       refine AU_done (by kernel_rfl) ?_
       exact ⟨rfl, Weak_trans (Weak_keep 0 hm [1, 2, 3, 4, 5, 11, 12, 13] [0] _ _ rfl rfl rfl) (Weak_reset 0 hm hz [1, 2, 3, 4, 5, 11, 12, 13] _ _ rfl rfl)⟩
      refine AU_cut 4 #[true, true, true, true, true, true, true, false, true, true, true, true, true, false, false, false] [(1, .d (.sl none (intsD p1))), (2, .d (.sl none (intsD p2))), (3, .d (.sl none (intsD p3))), (4, iV p4), (5, .d (.pv (colD p0) 0)), (11, iV (p2.length : Int)), (12, .vec 0 0), (13, iV x2), (73, .vec 0 0), (74, .d (.agg (colD p0))), (75, .d (.sl none (intsD p1))), (77, .vec 1 0), (79, .vec 2 0), (81, .vec 3 0), (85, iV (w64 (p4 - (x3.length : Int))))] [.vec 0 (rowsD x3), .vec 0 (intsD r21), .vec 0 (intsD ([x2])), .vec 0 (intsD (r17.set x2.toNat (bOr .i64 (r17.getD x2.toNat 0) (bShl .i64 1 (IntKind.u64.wrap (p2.length : Int))))))] ?_ (fun hS1 => ?_)
      ·refine AU_one 7 (by kernel_rfl) rfl rfl ?_
       refine AOps_append 80 _ _ _ _ _ _ _ _ _ _ _ _ rfl rfl rfl rfl rfl rfl rfl Try.underlying24 Try.type2 rfl rfl rfl (by decide) rfl rfl rfl rfl (intsD_one _) (by rw [intsD_length, intsD_length]; exact hc22) ?_
       rw [intsD_app]
       refine AOps_nil ?_
       exact AU_to (by kernel_rfl) hS0 (Weak_trans (Weak_keep 0 hm [1, 2, 3, 4, 5, 11, 12, 13, 73, 74, 75, 80, 81, 85] [0, 1, 3] _ _ rfl rfl rfl) (Weak_reset 0 hm hz [1, 2, 3, 4, 5, 11, 12, 13, 73, 74, 75, 80, 81, 85] _ _ rfl rfl))
      refine AU_cut 5 #[true, true, true, true, true, true, false, false, true, true, true, true, true, false, false, false] [(1, .d (.sl none (intsD p1))), (2, .d (.sl none (intsD p2))), (3, .d (.sl none (intsD p3))), (4, iV p4), (5, .d (.pv (colD p0) 0)), (11, iV (p2.length : Int)), (12, .vec 0 0), (13, iV x2), (73, .vec 0 0), (74, .d (.agg (colD p0))), (75, .d (.sl none (intsD p1))), (77, .vec 1 0), (78, iV x2), (81, .vec 2 0), (85, iV (w64 (p4 - (x3.length : Int))))] [.vec 0 (rowsD x3), .vec 0 (intsD r21), .vec 0 (intsD (r17.set x2.toNat (bOr .i64 (r17.getD x2.toNat 0) (bShl .i64 1 (IntKind.u64.wrap (p2.length : Int))))))] ?_ (fun hS2 => ?_)
      ·refine AU_one 6 (by kernel_rfl) rfl rfl ?_
       refine AOps_buildSlice 79 _ _ _ [_] (intsD ([x2])) _ rfl rfl rfl rfl rfl (by decide) Try.underlying24 Try.sizeOf2 (zero_of Try.typeInfo2 rfl) rfl rfl (intsD_one _) ?_
       refine AOps_nil ?_
       exact AU_to (by kernel_rfl) hS1 (Weak_keep 0 hm [1, 2, 3, 4, 5, 11, 12, 13, 73, 74, 75, 77, 79, 81, 85] [0, 1, 3, 2] _ _ rfl rfl rfl)
      refine AU_cut 5 #[true, true, true, true, false, true, true, false, true, true, true, true, true, false, false, false] [(1, .d (.sl none (intsD p1))), (2, .d (.sl none (intsD p2))), (3, .d (.sl none (intsD p3))), (4, iV p4), (5, .d (.pv (colD p0) 0)), (11, iV (p2.length : Int)), (12, .vec 0 0), (13, iV x2), (73, .vec 0 0), (74, .d (.agg (colD p0))), (75, .d (.sl none (intsD p1))), (76, .d (.sl none (intsD p2))), (79, .vec 1 0), (81, .vec 2 0), (85, iV (w64 (p4 - (x3.length : Int))))] [.vec 0 (rowsD x3), .vec 0 (intsD ([x2])), .vec 0 (intsD (r17.set x2.toNat (bOr .i64 (r17.getD x2.toNat 0) (bShl .i64 1 (IntKind.u64.wrap (p2.length : Int))))))] ?_ (fun hS3 => ?_)
      ·refine AU_one 4 (by kernel_rfl) rfl rfl ?_
       refine kC [] 77 (.vec 3 0) [.vec 0 (rowsD x3), .vec 0 (intsD ([x2])), .vec 0 (intsD (r17.set x2.toNat (bOr .i64 (r17.getD x2.toNat 0) (bShl .i64 1 (IntKind.u64.wrap (p2.length : Int)))))), .vec 0 (intsD r21)] rfl Try.call130 rfl rfl (spec_l01Own_ac p2 _ hr21) rfl ?_
       refine AOps_nil ?_
       exact AU_to (by kernel_rfl) hS1 (Weak_keep 0 hm [1, 2, 3, 4, 5, 11, 12, 13, 73, 74, 75, 77, 79, 81, 85] [0, 3, 1, 2] _ _ rfl rfl rfl)
      refine AU_cut 5 #[true, false, true, true, true, true, true, false, true, true, true, true, true, false, false, false] [(1, .d (.sl none (intsD p1))), (2, .d (.sl none (intsD p2))), (3, .d (.sl none (intsD p3))), (4, iV p4), (5, .d (.pv (colD p0) 0)), (11, iV (p2.length : Int)), (12, .vec 0 0), (13, iV x2), (73, .vec 0 0), (75, .d (.sl none (intsD p1))), (77, .vec 1 0), (79, .vec 2 0), (81, .vec 3 0), (85, iV (w64 (p4 - (x3.length : Int))))] [.vec 0 (rowsD x3), .vec 0 (intsD r21), .vec 0 (intsD ([x2])), .vec 0 (intsD (r17.set x2.toNat (bOr .i64 (r17.getD x2.toNat 0) (bShl .i64 1 (IntKind.u64.wrap (p2.length : Int))))))] ?_ (fun hS4 => ?_)
      ·refine AU_all [1, 7] (by kernel_rfl) rfl (allc ?_ (allc ?_ (fun _ h => nomatch h)))
       ·refine US_of 1 rfl rfl ?_
        refine AOps_q 74 _ rfl rfl rfl (QOp_loadN_pv _ _ _ _ _ _ rfl Try.isAgg29 Try.sizeOf29 rfl (colD_all _) (colD_length _)) ?_
        refine AOps_nil ?_
        exact AU_to (by kernel_rfl) hS1 (Weak_keep 0 hm [1, 2, 3, 4, 5, 11, 12, 13, 73, 74, 75, 77, 79, 81, 85] [0, 1, 2, 3] _ _ rfl rfl rfl)
       refine US_of 7 rfl rfl ?_
       refine AOps_append 80 _ _ _ _ _ _ _ _ _ _ _ _ rfl rfl rfl rfl rfl rfl rfl Try.underlying24 Try.type2 rfl rfl rfl (by decide) rfl rfl rfl rfl (intsD_one _) (by rw [intsD_length, intsD_length]; exact hc22) ?_
       rw [intsD_app]
       refine AOps_nil ?_
       refine AU_one 1 (by kernel_rfl) rfl rfl ?_
       refine AOps_q 74 _ rfl rfl rfl (QOp_loadN_pv _ _ _ _ _ _ rfl Try.isAgg29 Try.sizeOf29 rfl (colD_all _) (colD_length _)) ?_
       refine AOps_nil ?_
       exact AU_to (by kernel_rfl) hS0 (Weak_trans (Weak_keep 0 hm [1, 2, 3, 4, 5, 11, 12, 13, 73, 74, 75, 80, 81, 85] [0, 1, 3] _ _ rfl rfl rfl) (Weak_reset 0 hm hz [1, 2, 3, 4, 5, 11, 12, 13, 73, 74, 75, 80, 81, 85] _ _ rfl rfl))
      refine AU_u 0 73 _ rfl (by kernel_rfl) rfl rfl rfl (UOp_move _ _ rfl rfl) ?_
      refine AU_u 2 75 _ rfl (by kernel_rfl) rfl rfl rfl (UOp_move _ _ rfl rfl) ?_
      refine AU_u 3 76 _ rfl (by kernel_rfl) rfl rfl rfl (UOp_move _ _ rfl rfl) ?_
      refine AU_u 5 78 _ rfl (by kernel_rfl) rfl rfl rfl (UOp_move _ _ rfl rfl) ?_
      refine AU_u 8 81 _ rfl (by kernel_rfl) rfl rfl rfl (UOp_move _ _ rfl rfl) ?_
      refine AU_u 9 82 _ rfl (by kernel_rfl) rfl rfl rfl (UOp_move _ _ rfl rfl) ?_
      refine AU_u 10 83 _ rfl (by kernel_rfl) rfl rfl rfl (UOp_move _ _ rfl rfl) ?_
      refine AU_u 11 84 _ rfl (by kernel_rfl) rfl rfl rfl (UOp_len_vec _ _ _ _ _ _ _ _ (rowsD_length _) rfl rfl rfl rfl Try.underlying41 rfl rfl) ?_
      refine AU_u 12 85 _ rfl (by kernel_rfl) rfl rfl rfl (UOp_sub _ _ _ _ _ _ _ rfl rfl rfl) ?_
      refine AU_all [1, 4, 6] (by kernel_rfl) rfl (allc ?_ (allc ?_ (allc ?_ (fun _ h => nomatch h))))
      ·refine US_of 1 rfl rfl ?_
       refine AOps_q 74 _ rfl rfl rfl (QOp_loadN_pv _ _ _ _ _ _ rfl Try.isAgg29 Try.sizeOf29 rfl (colD_all _) (colD_length _)) ?_
       refine AOps_nil ?_
       refine AU_all [4, 6] (by kernel_rfl) rfl (allc ?_ (allc ?_ (fun _ h => nomatch h)))
       ·refine US_of 4 rfl rfl ?_
        refine kC [] 77 (.vec 2 0) [.vec 0 (rowsD x3), .vec 0 (intsD (r17.set x2.toNat (bOr .i64 (r17.getD x2.toNat 0) (bShl .i64 1 (IntKind.u64.wrap (p2.length : Int)))))), .vec 0 (intsD r21)] rfl Try.call130 rfl rfl (spec_l01Own_ac p2 _ hr21) rfl ?_
        refine AOps_nil ?_
        exact AU_to (by kernel_rfl) hS2 (Weak_keep 0 hm [1, 2, 3, 4, 5, 11, 12, 13, 73, 74, 75, 77, 78, 81, 85] [0, 2, 1] _ _ rfl rfl rfl)
       refine US_of 6 rfl rfl ?_
       refine AOps_buildSlice 79 _ _ _ [_] (intsD ([x2])) _ rfl rfl rfl rfl rfl (by decide) Try.underlying24 Try.sizeOf2 (zero_of Try.typeInfo2 rfl) rfl rfl (intsD_one _) ?_
       refine AOps_nil ?_
       exact AU_to (by kernel_rfl) hS3 (Weak_keep 0 hm [1, 2, 3, 4, 5, 11, 12, 13, 73, 74, 75, 76, 79, 81, 85] [0, 2, 1] _ _ rfl rfl rfl)
      ·refine US_of 4 rfl rfl ?_
       refine kC [] 77 (.vec 2 0) [.vec 0 (rowsD x3), .vec 0 (intsD (r17.set x2.toNat (bOr .i64 (r17.getD x2.toNat 0) (bShl .i64 1 (IntKind.u64.wrap (p2.length : Int)))))), .vec 0 (intsD r21)] rfl Try.call130 rfl rfl (spec_l01Own_ac p2 _ hr21) rfl ?_
       refine AOps_nil ?_
       refine AU_all [1, 6] (by kernel_rfl) rfl (allc ?_ (allc ?_ (fun _ h => nomatch h)))
       ·refine US_of 1 rfl rfl ?_
        refine AOps_q 74 _ rfl rfl rfl (QOp_loadN_pv _ _ _ _ _ _ rfl Try.isAgg29 Try.sizeOf29 rfl (colD_all _) (colD_length _)) ?_
        refine AOps_nil ?_
        exact AU_to (by kernel_rfl) hS2 (Weak_keep 0 hm [1, 2, 3, 4, 5, 11, 12, 13, 73, 74, 75, 77, 78, 81, 85] [0, 2, 1] _ _ rfl rfl rfl)
       refine US_of 6 rfl rfl ?_
       refine AOps_buildSlice 79 _ _ _ [_] (intsD ([x2])) _ rfl rfl rfl rfl rfl (by decide) Try.underlying24 Try.sizeOf2 (zero_of Try.typeInfo2 rfl) rfl rfl (intsD_one _) ?_
       refine AOps_nil ?_
       exact AU_to (by kernel_rfl) hS4 (Weak_keep 0 hm [1, 2, 3, 4, 5, 11, 12, 13, 73, 75, 77, 79, 81, 85] [0, 2, 3, 1] _ _ rfl rfl rfl)
      refine US_of 6 rfl rfl ?_
      refine AOps_buildSlice 79 _ _ _ [_] (intsD ([x2])) _ rfl rfl rfl rfl rfl (by decide) Try.underlying24 Try.sizeOf2 (zero_of Try.typeInfo2 rfl) rfl rfl (intsD_one _) ?_
      refine AOps_nil ?_
      refine AU_all [1, 4] (by kernel_rfl) rfl (allc ?_ (allc ?_ (fun _ h => nomatch h)))
      ·refine US_of 1 rfl rfl ?_
       refine AOps_q 74 _ rfl rfl rfl (QOp_loadN_pv _ _ _ _ _ _ rfl Try.isAgg29 Try.sizeOf29 rfl (colD_all _) (colD_length _)) ?_
       refine AOps_nil ?_
       exact AU_to (by kernel_rfl) hS3 (Weak_keep 0 hm [1, 2, 3, 4, 5, 11, 12, 13, 73, 74, 75, 76, 79, 81, 85] [0, 2, 1] _ _ rfl rfl rfl)
      refine US_of 4 rfl rfl ?_
      refine kC [] 77 (.vec 3 0) [.vec 0 (rowsD x3), .vec 0 (intsD (r17.set x2.toNat (bOr .i64 (r17.getD x2.toNat 0) (bShl .i64 1 (IntKind.u64.wrap (p2.length : Int)))))), .vec 0 (intsD ([x2])), .vec 0 (intsD r21)] rfl Try.call130 rfl rfl (spec_l01Own_ac p2 _ hr21) rfl ?_
      refine AOps_nil ?_
      exact AU_to (by kernel_rfl) hS4 (Weak_keep 0 hm [1, 2, 3, 4, 5, 11, 12, 13, 73, 75, 77, 79, 81, 85] [0, 3, 2, 1] _ _ rfl rfl rfl)
     cases h
     exact Weak_keep 0 hm [1, 2, 3, 4, 5, 11, 12, 13] [0] _ _ rfl rfl rfl
    refine (ACode_region ?_)
    refine kM 1 rfl ?_
    refine AOps_q 35 _ rfl rfl rfl (QOp_add _ _ _ _ _ _ _ rfl rfl rfl) ?_
    refine kN 1 rfl ?_
    exact ⟨k0, _, _, Nat.lt_succ_self _, Weak_keep 0 hm [1, 2, 3, 4, 5, 11, 12, 13] [0] _ _ rfl rfl rfl, _, _, rfl, rfl, h⟩
  refine kR ?_
  refine kN 2 rfl ?_
  refine ACode_ret ?_
  cases h
  exact ⟨_, _, fun r a w h => ⟨r, h⟩, _, _, [], _, (.cons (ResV_tmp _ _ rfl) .nil), rfl, rfl, rfl, rfl, rfl⟩

-- loop.example/g01362/spec.l05All
def spec_l05All_l0 (p1 : List Int) : Nat → Int → Option (Sum (Unit) (List (List Int)))
 | 0, _ => none
 | k0 + 1, x1 => (if decide (x1 < (p1.length : Int)) then (if 0 ≤ x1 ∧ x1 < (p1.length : Int) then (if decide ((p1.getD x1.toNat 0) = 1) then some (.inr ([] : List (List Int))) else spec_l05All_l0 p1 k0 (w64 (x1 + 1))) else none) else some (.inl ()))
def spec_l05All (k : Nat) (p0 : Col) (p1 : List Int) (p2 : Int) : Option (List (List Int)) :=
 (spec_l05All_l0 p1 k 0 : Option (Sum (Unit) (List (List Int)))).bind fun os5 => (match os5 with | .inl s5 => (if 0 ≤ p0.k ∧ p0.k ≤ p0.k ∧ p0.k ≤ 1099511627776 then (spec_l05Search k p0 p1 ([] : List Int) (List.replicate p0.k.toNat (0 : Int)) p2).bind fun r7 => some r7 else none) | .inr rr => some rr)
set_option maxRecDepth 100000 in
theorem spec_l05All_ac (k : Nat) (p0 : Col) (p1 : List Int) (p2 : Int) (r : List (List Int)) (h : spec_l05All k p0 p1 p2 = some r) : AC Try.prog 94 [.d (.agg (colD p0)), .d (.sl none (intsD p1)), iV p2] [] (fun res H' => res = [.d (.sl none (rowsD r))] ∧ H' = []) := by
 refine AC_of_body true Try.func94 rfl Try.ntmps94 (rvs := [.tmp 6]) rfl rfl (fun G hG => ?_)
 have hm : G.H.length = 0 := by rw [hG]; rfl
 have hz : zeroG G.H = true := by rw [hG]; rfl
 unfold spec_l05All at h
 refine kR ?_
 refine AOps_boxI 3 _ _ (.agg (colD p0)) (colD p0) rfl (colD_one _) rfl rfl rfl rfl rfl ?_
 refine kN 1 rfl ?_
 refine kO (fun s5 => [(1, .d (.sl none (intsD p1))), (2, iV p2), (3, .d (.pv (colD p0) 0))]) (fun s5 => []) h (fun os5 h hks5 => ?_) (fun s5 h => ?_)
 ·refine kR ?_
  refine kN 1 rfl ?_
  refine ACode_block ?_
  refine ACode_loopW (fun k0 E H => ∃ (x1 : Int), E = [(1, .d (.sl none (intsD p1))), (2, iV p2), (3, .d (.pv (colD p0) 0)), (7, iV x1)] ∧ H = [] ∧ spec_l05All_l0 p1 k0 x1 = some os5) k _ _ (Weak_keep 0 hm [1, 2, 3, 7] [] _ _ rfl rfl rfl) ⟨_, rfl, rfl, h⟩ ?_
  clear h
  rintro k0 E H ⟨x1, rfl, rfl, h⟩
  cases k0 with
  | zero => cases (show (none : Option (Sum (Unit) (List (List Int)))) = some _ from h)
  | succ k0 =>
   rw [spec_l05All_l0] at h
   refine ACode_seq ?_
   refine kR ?_
   refine kM 2 rfl ?_
   refine AOps_q 10 _ rfl rfl rfl (QOp_len_sl _ _ _ _ _ _ _ (intsD_length _) rfl rfl rfl rfl Try.underlying24 rfl) ?_
   refine AOps_q 11 _ rfl rfl rfl (QOp_lss _ _ _ _ _ _ _ rfl rfl rfl) ?_
   refine AOps_nil ?_
   refine kI h rfl (fun h _ => ?_) (fun h _ => ?_)
   ·refine ACode_skip ?_
    refine ACode_seq ?_
    refine ACode_block ?_
    refine kR ?_
    refine kM 2 rfl ?_
    obtain ⟨hc3, h⟩ := guardO h
    refine AOps_q 16 _ rfl rfl rfl (QOp_indexAddr_sl _ _ _ _ _ _ _ _ rfl Try.underlying24 Try.sizeOf2 hc3.1 (by rw [intsD_length]; exact hc3.2) rfl rfl) ?_
    refine AOps_q 17 _ rfl rfl rfl (QOp_load_pv _ _ _ _ _ rfl Try.isAgg2 rfl (intsD_get _ _ 0 (by omega))) ?_
    refine AOps_q 18 _ rfl rfl rfl (QOp_eql _ _ _ _ _ _ _ rfl rfl rfl) ?_
    refine AOps_nil ?_
    refine kI h rfl (fun h _ => ?_) (fun h _ => ?_)
    ·refine kR ?_
     refine AOps_buildSlice 19 _ _ _ [] (rowsD ([] : List (List Int))) _ rfl rfl rfl rfl rfl (by decide) Try.underlying41 Try.sizeOf24 (zero_of Try.typeInfo24 rfl) rfl rfl (rowsD_one _) ?_
     refine kN 1 rfl ?_
     refine ACode_ret ?_
     cases h
     have h := hks5
     cases h
     exact ⟨_, _, fun r a w h => ⟨r, h⟩, _, _, [], _, (.cons (ResV_tmp _ _ rfl) .nil), rfl, rfl, rfl, rfl, rfl⟩
    refine ACode_skip ?_
    refine (ACode_region ?_)
    refine kM 1 rfl ?_
    refine AOps_q 13 _ rfl rfl rfl (QOp_add _ _ _ _ _ _ _ rfl rfl rfl) ?_
    refine kN 1 rfl ?_
    exact ⟨k0, _, _, Nat.lt_succ_self _, Weak_keep 0 hm [1, 2, 3, 7] [] _ _ rfl rfl rfl, _, rfl, rfl, h⟩
   refine ACode_exit ?_
   cases h
   exact ⟨_, rfl, Weak_keep 0 hm [1, 2, 3] [] _ _ rfl rfl rfl⟩
 obtain ⟨hc6, h⟩ := guardO h
 obtain ⟨r7, hr7, h⟩ := bindO h
 refine ACode_seq (ACode_reg [(6, .d (.sl none (rowsD r7)))] [] ?_ ?_)
 ·refine ACode_anyU mixed ?_
  refine AU_cut 2 #[true, true, true, true, true, true, true, false, false] [(20, .d (.agg (colD p0))), (21, .d (.sl none (intsD p1))), (22, .vec 0 0), (25, .vec 1 0), (26, iV p2)] [.vec 0 (intsD ([] : List Int)), .vec 0 (intsD (List.replicate p0.k.toNat (0 : Int)))] ?_ (fun hS0 => ?_)
  ·refine AU_one 7 (by kernel_rfl) rfl rfl ?_
   refine AOps_freezeL [22] 0 0 _ (allc (rfl) (fun _ h => nomatch h)) rfl ?_
   refine AOps_freezeL [25] 1 0 _ (allc (rfl) (fun _ h => nomatch h)) rfl ?_
   refine kC [] 27 (.d (.sl none (rowsD r7))) [.gone, .gone] rfl Try.call121 rfl rfl (spec_l05Search_ac k p0 p1 ([] : List Int) (List.replicate p0.k.toNat (0 : Int)) p2 _ hr7) rfl ?_
   refine AOps_nil ?_
   refine AU_u 8 6 _ rfl (by kernel_rfl) rfl rfl rfl (UOp_assign _ _ rfl rfl) ?_
   refine AU_done (by kernel_rfl) ?_
   exact ⟨rfl, Weak_keep 0 hm [6] [] _ _ rfl rfl rfl⟩
  refine AU_cut 3 #[true, true, true, true, true, false, true, false, false] [(20, .d (.agg (colD p0))), (21, .d (.sl none (intsD p1))), (22, .vec 0 0), (24, iV p0.k), (26, iV p2)] [.vec 0 (intsD ([] : List Int))] ?_ (fun hS1 => ?_)
  ·refine AU_one 5 (by kernel_rfl) rfl rfl ?_
   refine AOps_makeSliceG intsD iD 0 (intsD_rep · _) 25 _ _ _ _ _ _ p0.k p0.k _ (.int .i64 0) rfl rfl rfl rfl rfl rfl Try.underlying24 Try.type2 rfl rfl (by decide) rfl rfl hc6.1 hc6.2.1 hc6.2.2 ?_
   refine AOps_nil ?_
   exact AU_to (by kernel_rfl) hS0 (Weak_keep 0 hm [20, 21, 22, 25, 26] [0, 1] _ _ rfl rfl rfl)
  refine AU_cut 3 #[true, true, false, true, true, true, true, false, false] [(20, .d (.agg (colD p0))), (21, .d (.sl none (intsD p1))), (25, .vec 0 0), (26, iV p2)] [.vec 0 (intsD (List.replicate p0.k.toNat (0 : Int)))] ?_ (fun hS2 => ?_)
  ·refine AU_one 2 (by kernel_rfl) rfl rfl ?_
   refine AOps_buildSlice 22 _ _ _ [] (intsD ([] : List Int)) _ rfl rfl rfl rfl rfl (by decide) Try.underlying24 Try.sizeOf2 (zero_of Try.typeInfo2 rfl) rfl rfl (intsD_one _) ?_
   refine AOps_nil ?_
   exact AU_to (by kernel_rfl) hS0 (Weak_keep 0 hm [20, 21, 22, 25, 26] [1, 0] _ _ rfl rfl rfl)
  refine AU_cut 3 #[false, true, true, true, true, true, true, false, false] [(3, .d (.pv (colD p0) 0)), (21, .d (.sl none (intsD p1))), (22, .vec 0 0), (25, .vec 1 0), (26, iV p2)] [.vec 0 (intsD ([] : List Int)), .vec 0 (intsD (List.replicate p0.k.toNat (0 : Int)))] ?_ (fun hS3 => ?_)
  ·refine AU_one 0 (by kernel_rfl) rfl rfl ?_
   refine AOps_q 20 _ rfl rfl rfl (QOp_loadN_pv _ _ _ _ _ _ rfl Try.isAgg29 Try.sizeOf29 rfl (colD_all _) (colD_length _)) ?_
   refine AOps_nil ?_
   exact AU_to (by kernel_rfl) hS0 (Weak_keep 0 hm [20, 21, 22, 25, 26] [0, 1] _ _ rfl rfl rfl)
  refine AU_cut 4 #[true, true, true, true, false, false, true, false, false] [(20, .d (.agg (colD p0))), (21, .d (.sl none (intsD p1))), (22, .vec 0 0), (23, .d (.pv (colD p0) 1)), (26, iV p2)] [.vec 0 (intsD ([] : List Int))] ?_ (fun hS4 => ?_)
  ·refine AU_one 4 (by kernel_rfl) rfl rfl ?_
   refine AOps_q 24 _ rfl rfl rfl (QOp_load_pv _ _ _ _ _ rfl Try.isAgg2 rfl rfl) ?_
   refine AOps_nil ?_
   exact AU_to (by kernel_rfl) hS1 (Weak_keep 0 hm [20, 21, 22, 24, 26] [0] _ _ rfl rfl rfl)
  refine AU_cut 4 #[true, true, false, true, true, false, true, false, false] [(20, .d (.agg (colD p0))), (21, .d (.sl none (intsD p1))), (24, iV p0.k), (26, iV p2)] [] ?_ (fun hS5 => ?_)
  ·refine AU_all [2, 5] (by kernel_rfl) rfl (allc ?_ (allc ?_ (fun _ h => nomatch h)))
   ·refine US_of 2 rfl rfl ?_
    refine AOps_buildSlice 22 _ _ _ [] (intsD ([] : List Int)) _ rfl rfl rfl rfl rfl (by decide) Try.underlying24 Try.sizeOf2 (zero_of Try.typeInfo2 rfl) rfl rfl (intsD_one _) ?_
    refine AOps_nil ?_
    exact AU_to (by kernel_rfl) hS1 (Weak_keep 0 hm [20, 21, 22, 24, 26] [0] _ _ rfl rfl rfl)
   refine US_of 5 rfl rfl ?_
   refine AOps_makeSliceG intsD iD 0 (intsD_rep · _) 25 _ _ _ _ _ _ p0.k p0.k _ (.int .i64 0) rfl rfl rfl rfl rfl rfl Try.underlying24 Try.type2 rfl rfl (by decide) rfl rfl hc6.1 hc6.2.1 hc6.2.2 ?_
   refine AOps_nil ?_
   exact AU_to (by kernel_rfl) hS2 (Weak_keep 0 hm [20, 21, 25, 26] [0] _ _ rfl rfl rfl)
  refine AU_cut 4 #[false, true, true, true, true, false, true, false, false] [(3, .d (.pv (colD p0) 0)), (21, .d (.sl none (intsD p1))), (22, .vec 0 0), (24, iV p0.k), (26, iV p2)] [.vec 0 (intsD ([] : List Int))] ?_ (fun hS6 => ?_)
  ·refine AU_all [0, 5] (by kernel_rfl) rfl (allc ?_ (allc ?_ (fun _ h => nomatch h)))
   ·refine US_of 0 rfl rfl ?_
    refine AOps_q 20 _ rfl rfl rfl (QOp_loadN_pv _ _ _ _ _ _ rfl Try.isAgg29 Try.sizeOf29 rfl (colD_all _) (colD_length _)) ?_
    refine AOps_nil ?_
    exact AU_to (by kernel_rfl) hS1 (Weak_keep 0 hm [20, 21, 22, 24, 26] [0] _ _ rfl rfl rfl)
   refine US_of 5 rfl rfl ?_
   refine AOps_makeSliceG intsD iD 0 (intsD_rep · _) 25 _ _ _ _ _ _ p0.k p0.k _ (.int .i64 0) rfl rfl rfl rfl rfl rfl Try.underlying24 Try.type2 rfl rfl (by decide) rfl rfl hc6.1 hc6.2.1 hc6.2.2 ?_
   refine AOps_nil ?_
   exact AU_to (by kernel_rfl) hS3 (Weak_keep 0 hm [3, 21, 22, 25, 26] [0, 1] _ _ rfl rfl rfl)
  refine AU_u 1 21 _ rfl (by kernel_rfl) rfl rfl rfl (UOp_move _ _ rfl rfl) ?_
  refine AU_u 3 23 _ rfl (by kernel_rfl) rfl rfl rfl (UOp_fieldAddr_pv _ _ _ _ _ 1 _ _ rfl Try.underlying29 rfl _ Try.sizeOf2 rfl rfl) ?_
  refine AU_u 6 26 _ rfl (by kernel_rfl) rfl rfl rfl (UOp_move _ _ rfl rfl) ?_
  refine AU_all [0, 2, 4] (by kernel_rfl) rfl (allc ?_ (allc ?_ (allc ?_ (fun _ h => nomatch h))))
  ·refine US_of 0 rfl rfl ?_
   refine AOps_q 20 _ rfl rfl rfl (QOp_loadN_pv _ _ _ _ _ _ rfl Try.isAgg29 Try.sizeOf29 rfl (colD_all _) (colD_length _)) ?_
   refine AOps_nil ?_
   refine AU_all [2, 4] (by kernel_rfl) rfl (allc ?_ (allc ?_ (fun _ h => nomatch h)))
   ·refine US_of 2 rfl rfl ?_
    refine AOps_buildSlice 22 _ _ _ [] (intsD ([] : List Int)) _ rfl rfl rfl rfl rfl (by decide) Try.underlying24 Try.sizeOf2 (zero_of Try.typeInfo2 rfl) rfl rfl (intsD_one _) ?_
    refine AOps_nil ?_
    exact AU_to (by kernel_rfl) hS4 (Weak_keep 0 hm [20, 21, 22, 23, 26] [0] _ _ rfl rfl rfl)
   refine US_of 4 rfl rfl ?_
   refine AOps_q 24 _ rfl rfl rfl (QOp_load_pv _ _ _ _ _ rfl Try.isAgg2 rfl rfl) ?_
   refine AOps_nil ?_
   exact AU_to (by kernel_rfl) hS5 (Weak_keep 0 hm [20, 21, 24, 26] [] _ _ rfl rfl rfl)
  ·refine US_of 2 rfl rfl ?_
   refine AOps_buildSlice 22 _ _ _ [] (intsD ([] : List Int)) _ rfl rfl rfl rfl rfl (by decide) Try.underlying24 Try.sizeOf2 (zero_of Try.typeInfo2 rfl) rfl rfl (intsD_one _) ?_
   refine AOps_nil ?_
   refine AU_all [0, 4] (by kernel_rfl) rfl (allc ?_ (allc ?_ (fun _ h => nomatch h)))
   ·refine US_of 0 rfl rfl ?_
    refine AOps_q 20 _ rfl rfl rfl (QOp_loadN_pv _ _ _ _ _ _ rfl Try.isAgg29 Try.sizeOf29 rfl (colD_all _) (colD_length _)) ?_
    refine AOps_nil ?_
    exact AU_to (by kernel_rfl) hS4 (Weak_keep 0 hm [20, 21, 22, 23, 26] [0] _ _ rfl rfl rfl)
   refine US_of 4 rfl rfl ?_
   refine AOps_q 24 _ rfl rfl rfl (QOp_load_pv _ _ _ _ _ rfl Try.isAgg2 rfl rfl) ?_
   refine AOps_nil ?_
   exact AU_to (by kernel_rfl) hS6 (Weak_keep 0 hm [3, 21, 22, 24, 26] [0] _ _ rfl rfl rfl)
  refine US_of 4 rfl rfl ?_
  refine AOps_q 24 _ rfl rfl rfl (QOp_load_pv _ _ _ _ _ rfl Try.isAgg2 rfl rfl) ?_
  refine AOps_nil ?_
  refine AU_all [0, 2, 5] (by kernel_rfl) rfl (allc ?_ (allc ?_ (allc ?_ (fun _ h => nomatch h))))
  ·refine US_of 0 rfl rfl ?_
   refine AOps_q 20 _ rfl rfl rfl (QOp_loadN_pv _ _ _ _ _ _ rfl Try.isAgg29 Try.sizeOf29 rfl (colD_all _) (colD_length _)) ?_
   refine AOps_nil ?_
   exact AU_to (by kernel_rfl) hS5 (Weak_keep 0 hm [20, 21, 24, 26] [] _ _ rfl rfl rfl)
  ·refine US_of 2 rfl rfl ?_
   refine AOps_buildSlice 22 _ _ _ [] (intsD ([] : List Int)) _ rfl rfl rfl rfl rfl (by decide) Try.underlying24 Try.sizeOf2 (zero_of Try.typeInfo2 rfl) rfl rfl (intsD_one _) ?_
   refine AOps_nil ?_
   exact AU_to (by kernel_rfl) hS6 (Weak_keep 0 hm [3, 21, 22, 24, 26] [0] _ _ rfl rfl rfl)
  refine US_of 5 rfl rfl ?_
  refine AOps_makeSliceG intsD iD 0 (intsD_rep · _) 25 _ _ _ _ _ _ p0.k p0.k _ (.int .i64 0) rfl rfl rfl rfl rfl rfl Try.underlying24 Try.type2 rfl rfl (by decide) rfl rfl hc6.1 hc6.2.1 hc6.2.2 ?_
  refine AOps_nil ?_
  refine AU_all [0, 2] (by kernel_rfl) rfl (allc ?_ (allc ?_ (fun _ h => nomatch h)))
  ·refine US_of 0 rfl rfl ?_
   refine AOps_q 20 _ rfl rfl rfl (QOp_loadN_pv _ _ _ _ _ _ rfl Try.isAgg29 Try.sizeOf29 rfl (colD_all _) (colD_length _)) ?_
   refine AOps_nil ?_
   exact AU_to (by kernel_rfl) hS2 (Weak_keep 0 hm [20, 21, 25, 26] [0] _ _ rfl rfl rfl)
  refine US_of 2 rfl rfl ?_
  refine AOps_buildSlice 22 _ _ _ [] (intsD ([] : List Int)) _ rfl rfl rfl rfl rfl (by decide) Try.underlying24 Try.sizeOf2 (zero_of Try.typeInfo2 rfl) rfl rfl (intsD_one _) ?_
  refine AOps_nil ?_
  exact AU_to (by kernel_rfl) hS3 (Weak_keep 0 hm [3, 21, 22, 25, 26] [1, 0] _ _ rfl rfl rfl)
 refine ACode_ret ?_
 cases h
 exact ⟨_, _, fun r a w h => ⟨r, h⟩, _, _, [], _, (.cons (ResV_tmp _ _ rfl) .nil), rfl, rfl, rfl, rfl, rfl⟩

-- loop.example/g01362/spec.l01Put
def spec_l01Put_l0 (p1 : List Int) : Nat → Int → Col → Option (Col)
 | 0, _, _ => none
 | k0 + 1, x1, x2 => (if decide (x1 < (p1.length : Int)) then (if 0 ≤ x1 ∧ x1 < (p1.length : Int) then (if 0 ≤ (spec_l01Edge x1 (w64 (x2.p - 1))) ∧ (spec_l01Edge x1 (w64 (x2.p - 1))) < 136 then spec_l01Put_l0 p1 k0 (w64 (x1 + 1)) (x2.set ((spec_l01Edge x1 (w64 (x2.p - 1))).toNat) (toByte (p1.getD x1.toNat 0))) else none) else none) else some x2)
def spec_l01Put (k : Nat) (p0 : Col) (p1 : List Int) : Option (Col) :=
 (spec_l01Put_l0 p1 k 0 (⟨w64 (p0.p + 1), p0.k, p0.e⟩ : Col) : Option (Col)).bind fun s7 => some s7
set_option maxRecDepth 100000 in
theorem spec_l01Put_ac (k : Nat) (p0 : Col) (p1 : List Int) (r : Col) (h : spec_l01Put k p0 p1 = some r) : AC Try.prog 95 [.d (.agg (colD p0)), .d (.sl none (intsD p1))] [] (fun res H' => res = [.d (.agg (colD r))] ∧ H' = []) := by
 refine AC_of_body true Try.func95 rfl Try.ntmps95 (rvs := [.cell 4 29]) rfl rfl (fun G hG => ?_)
 have hm : G.H.length = 0 := by rw [hG]; rfl
 have hz : zeroG G.H = true := by rw [hG]; rfl
 unfold spec_l01Put at h
 refine kR ?_
 refine AOps_boxM 2 _ _ (.agg (colD p0)) (colD p0) rfl (colD_one _) rfl rfl rfl rfl rfl ?_
 refine AOps_alloc 4 _ _ (colD Col.zero) (zero_of Try.typeInfo29 rfl) (by rfl) rfl rfl rfl rfl ?_
 refine AOps_nil ?_
 refine kR ?_
 refine AOps_q 6 _ rfl rfl rfl (QOp_fieldAddr_ptr _ _ _ _ _ _ 0 _ _ rfl Try.underlying29 rfl _ Try.sizeOf2 rfl rfl rfl rfl) ?_
 refine AOps_q 7 _ rfl rfl rfl (QOp_load_ptr _ _ _ _ _ _ rfl Try.isAgg2 rfl rfl rfl) ?_
 refine AOps_q 8 _ rfl rfl rfl (QOp_add _ _ _ _ _ _ _ rfl rfl rfl) ?_
 refine AOps_q 9 _ rfl rfl rfl (QOp_fieldAddr_ptr _ _ _ _ _ _ 0 _ _ rfl Try.underlying29 rfl _ Try.sizeOf2 rfl rfl rfl rfl) ?_
 refine AOps_store1 _ _ _ _ _ _ (colD (⟨w64 (p0.p + 1), p0.k, p0.e⟩ : Col)) _ rfl rfl rfl rfl rfl rfl rfl Try.sizeOf2 (by rw [colD_length]; omega) (colD_set0 _ _) ?_
 refine AOps_nil ?_
 refine kB (fun s7 => [(2, .ptr 0 0), (4, .ptr 1 0)]) (fun s7 => [.box (colD s7), .box (colD Col.zero)]) h (fun s7 h => ?_) (fun s7 h => ?_)
 ·refine kR ?_
  refine kN 1 rfl ?_
  refine ACode_block ?_
  refine ACode_loopW (fun k0 E H => ∃ (x1 : Int) (x2 : Col), E = [(1, .d (.sl none (intsD p1))), (2, .ptr 0 0), (4, .ptr 1 0), (5, iV x1)] ∧ H = [.box (colD x2), .box (colD Col.zero)] ∧ spec_l01Put_l0 p1 k0 x1 x2 = some s7) k _ _ (Weak_keep 0 hm [1, 2, 4, 5] [0, 1] _ _ rfl rfl rfl) ⟨_, _, rfl, rfl, h⟩ ?_
  clear h
  rintro k0 E H ⟨x1, x2, rfl, rfl, h⟩
  cases k0 with
  | zero => cases (show (none : Option (Col)) = some _ from h)
  | succ k0 =>
   rw [spec_l01Put_l0] at h
   refine ACode_seq ?_
   refine kR ?_
   refine kM 2 rfl ?_
   refine AOps_q 12 _ rfl rfl rfl (QOp_len_sl _ _ _ _ _ _ _ (intsD_length _) rfl rfl rfl rfl Try.underlying24 rfl) ?_
   refine AOps_q 13 _ rfl rfl rfl (QOp_lss _ _ _ _ _ _ _ rfl rfl rfl) ?_
   refine AOps_nil ?_
   refine kI h rfl (fun h _ => ?_) (fun h _ => ?_)
   ·refine ACode_skip ?_
    refine ACode_seq ?_
    refine ACode_block ?_
    refine (ACode_last (l := [_, _, _, _, _, _, _, _, _, _, _, _]) mixed (by kernel_rfl) (by kernel_rfl) ?_)
    refine kQ 1 rfl ?_
    refine AQ_q 17 _ rfl rfl rfl (QOp_fieldAddr_ptr _ _ _ _ _ _ 0 _ _ rfl Try.underlying29 rfl _ Try.sizeOf2 rfl rfl rfl rfl) ?_
    refine AQ_q 18 _ rfl rfl rfl (QOp_load_ptr _ _ _ _ _ _ rfl Try.isAgg2 rfl rfl rfl) ?_
    refine AQ_q 19 _ rfl rfl rfl (QOp_sub _ _ _ _ _ _ _ rfl rfl rfl) ?_
    refine AQ_call 20 _ _ _ _ _ _ _ _ _ rfl rfl rfl rfl rfl rfl rfl Try.call110 rfl rfl rfl (spec_l01Edge_ac x1 (w64 (x2.p - 1))) ?_
    refine kQ 2 rfl ?_
    obtain ⟨hc5, h⟩ := guardO h
    refine AQ_q 23 _ rfl rfl rfl (QOp_indexAddr_sl _ _ _ _ _ _ _ _ rfl Try.underlying24 Try.sizeOf2 hc5.1 (by rw [intsD_length]; exact hc5.2) rfl rfl) ?_
    refine AQ_q 24 _ rfl rfl rfl (QOp_load_pv _ _ _ _ _ rfl Try.isAgg2 rfl (intsD_get _ _ 0 (by omega))) ?_
    refine AQ_q 25 _ rfl rfl rfl (QOp_toByte _ _ _ _ _ rfl rfl Try.underlying5 rfl) ?_
    refine AQ_q 26 _ rfl rfl rfl (QOp_fieldAddr_ptr _ _ _ _ _ _ 2 _ _ rfl Try.underlying29 rfl _ Try.sizeOf27 rfl rfl rfl rfl) ?_
    obtain ⟨hc6, h⟩ := guardO h
    refine AQ_q 27 _ rfl rfl rfl (QOp_indexAddrA_ptr _ _ _ _ _ _ _ _ _ _ rfl Try.underlying27 Try.sizeOf5 hc6.1 hc6.2 rfl rfl rfl rfl) ?_
    refine AQ_nil ?_
    refine AOps_store1 _ _ _ _ _ _ (colD (x2.set ((spec_l01Edge x1 (w64 (x2.p - 1))).toNat) (toByte (p1.getD x1.toNat 0)))) _ rfl rfl rfl rfl rfl rfl rfl Try.sizeOf5 (by rw [colD_length]; omega) (colD_setE x2 ((spec_l01Edge x1 (w64 (x2.p - 1))).toNat) (toByte (p1.getD x1.toNat 0))) ?_
    refine AOps_nil ?_
    refine (ACode_region ?_)
    refine kM 1 rfl ?_
    refine AOps_q 15 _ rfl rfl rfl (QOp_add _ _ _ _ _ _ _ rfl rfl rfl) ?_
    refine kN 1 rfl ?_
    exact ⟨k0, _, _, Nat.lt_succ_self _, Weak_keep 0 hm [1, 2, 4, 5] [0, 1] _ _ rfl rfl rfl, _, _, rfl, rfl, h⟩
   refine ACode_exit ?_
   cases h
   exact Weak_keep 0 hm [2, 4] [0, 1] _ _ rfl rfl rfl
 refine kR ?_
 refine AOps_q 28 _ rfl rfl rfl (QOp_loadN_ptr _ _ _ _ _ _ _ rfl Try.isAgg29 Try.sizeOf29 rfl rfl (colD_all _) (colD_length _)) ?_
 refine AOps_store _ _ _ _ _ _ (colD _) _ _ rfl rfl rfl rfl rfl rfl rfl (colD_one _) (by rw [colD_length]; exact Try.sizeOf29) (by rw [colD_length, colD_length]; decide) (colD_whole _ _) ?_
 refine AOps_nil ?_
 refine ACode_ret ?_
 cases h
 exact ⟨_, _, fun r a w h => ⟨r, h⟩, _, _, [], _, (.cons (ResV_agg _ _ _ _ _ _ Try.isAgg29 Try.sizeOf29 rfl rfl (colD_take _) (colD_length _)) .nil), rfl, rfl, rfl, rfl, rfl⟩

end Go.Proofs.Ytfnbhfobgimnjaa
