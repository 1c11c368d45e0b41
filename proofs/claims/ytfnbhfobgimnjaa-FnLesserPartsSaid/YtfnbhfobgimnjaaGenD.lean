/- Plain functions of the program and that the program computes them: printed by the own tool gen.py. No conditions. -/
import Derived.Test.YtfnbhfobgimnjaaSrc
import Derived.Test.YtfnbhfobgimnjaaAb18
import Derived.Test.YtfnbhfobgimnjaaAb27
import Derived.Test.YtfnbhfobgimnjaaGenC
set_option linter.unusedVariables false
set_option linter.unusedSimpArgs false
namespace Go.Proofs.Ytfnbhfobgimnjaa
open Go Go.RowKit Ab

-- loop.example/g01362/spec.l01From
def spec_l01From_l0 (p0 : List UInt8) : Nat → Int → Src → Option (Src)
 | 0, _, _ => none
 | k0 + 1, x1, x2 => (letO (if decide (x1 < (p0.length : Int)) then decide (x1 < 4096) else false) fun (s4 : Bool) => (if s4 then some (.inl ()) else (some x2).bind fun rr => some (.inr rr)) : Option (Sum (Unit) (Src))).bind fun os6 => (match os6 with | .inl s6 => (if 0 ≤ x1 ∧ x1 < (p0.length : Int) then spec_l01From_l0 p0 k0 (w64 (x1 + 1)) (⟨x2.c, x2.i, IntKind.u64.wrap ((IntKind.u64.wrap ((IntKind.u64.wrap (x2.h * 1099511628211)) + ((p0.getD x1.toNat 0).toNat : Int))) + 193)⟩ : Src) else none) | .inr rr => some rr)
def spec_l01From (k : Nat) (p0 : List UInt8) : Option (Src) :=
 (spec_l01From_l0 p0 k 0 (⟨p0, 0, IntKind.u64.wrap (13621 + (IntKind.u64.wrap (p0.length : Int)))⟩ : Src) : Option (Src)).bind fun s8 => some s8
set_option maxRecDepth 100000 in
theorem spec_l01From_ac (k : Nat) (p0 : List UInt8) (r : Src) (h : spec_l01From k p0 = some r) : AC Try.prog 33 [.d (.sl none (bysD p0))] [] (fun res H' => res = [.ptr 0 0] ∧ H' = [.box (srcD r)]) := by
 refine AC_of_body true Try.func33 rfl Try.ntmps33 (rvs := [.tmp 2]) rfl rfl (fun G hG => ?_)
 have hm : G.H.length = 0 := by rw [hG]; rfl
 have hz : zeroG G.H = true := by rw [hG]; rfl
 unfold spec_l01From at h
 refine kR ?_
 refine kN 1 rfl ?_
 refine kR ?_
 refine kM 2 rfl ?_
 refine AOps_q 7 _ rfl rfl rfl (QOp_len_sl _ _ _ _ _ _ _ (bysD_length _) rfl rfl rfl rfl Try.underlying22 rfl) ?_
 refine AOps_q 8 _ rfl rfl rfl (QOp_conv _ _ _ _ _ _ rfl rfl Try.underlying93 rfl) ?_
 refine AOps_q 9 _ rfl rfl rfl (QOp_add _ _ _ _ _ _ _ rfl rfl rfl) ?_
 refine AOps_q 10 _ rfl rfl rfl (QOp_build _ _ [_, _] [0, 2] [.sl none (bysD p0), .s (.int .u64 (IntKind.u64.wrap (13621 + (IntKind.u64.wrap (p0.length : Int)))))] _ [.sl (some true) [], iD 0, .s (.int .u64 0)] (srcD (⟨p0, 0, IntKind.u64.wrap (13621 + (IntKind.u64.wrap (p0.length : Int)))⟩ : Src)) [(0, 1), (1, 1), (2, 1)] rfl rfl Try.underlying100 (zero_of Try.typeInfo100 rfl) (fun w => by simp [Try.sizeOf22, Try.sizeOf3, Try.sizeOf93]) rfl (by rfl) (by rfl) (allc (ok1 rfl) (allc (ok1 rfl) (fun _ h => nomatch h)))) ?_
 refine AOps_boxM 11 _ _ (.agg (srcD (⟨p0, 0, IntKind.u64.wrap (13621 + (IntKind.u64.wrap (p0.length : Int)))⟩ : Src))) (srcD (⟨p0, 0, IntKind.u64.wrap (13621 + (IntKind.u64.wrap (p0.length : Int)))⟩ : Src)) rfl (srcD_one _) rfl rfl rfl rfl rfl ?_
 refine kN 1 rfl ?_
 refine kB (fun s8 => [(3, .ptr 0 0)]) (fun s8 => [.box (srcD s8)]) h (fun s8 h => ?_) (fun s8 h => ?_)
 ·refine kR ?_
  refine kN 1 rfl ?_
  refine ACode_block ?_
  refine ACode_loopW (fun k0 E H => ∃ (x1 : Int) (x2 : Src), E = [(0, .d (.sl none (bysD p0))), (3, .ptr 0 0), (4, iV x1)] ∧ H = [.box (srcD x2)] ∧ spec_l01From_l0 p0 k0 x1 x2 = some s8) k _ _ (Weak_keep 0 hm [0, 3, 4] [0] _ _ rfl rfl rfl) ⟨_, _, rfl, rfl, h⟩ ?_
  clear h
  rintro k0 E H ⟨x1, x2, rfl, rfl, h⟩
  cases k0 with
  | zero => cases (show (none : Option (Src)) = some _ from h)
  | succ k0 =>
   rw [spec_l01From_l0] at h
   refine kO (fun s6 => [(0, .d (.sl none (bysD p0))), (3, .ptr 0 0), (4, iV x1)]) (fun s6 => [.box (srcD x2)]) h (fun os6 h hks6 => ?_) (fun s6 h => ?_)
   ·refine kL (fun s4 => [(0, .d (.sl none (bysD p0))), (3, .ptr 0 0), (4, iV x1), (19, bV s4)]) (fun s4 => [.box (srcD x2)]) h (fun s4 h => ?_) (fun s4 h => ?_)
    ·refine (ACode_region ?_)
     refine kM 2 rfl ?_
     refine AOps_q 14 _ rfl rfl rfl (QOp_len_sl _ _ _ _ _ _ _ (bysD_length _) rfl rfl rfl rfl Try.underlying22 rfl) ?_
     refine AOps_q 15 _ rfl rfl rfl (QOp_lss _ _ _ _ _ _ _ rfl rfl rfl) ?_
     refine kM 1 rfl ?_
     refine AOps_case 16 _ rfl (fun hb3 => ?_) (fun hb3 => ?_)
     ·have h := iteT hb3 h
      refine kM 1 rfl ?_
      refine AOps_q 18 _ rfl rfl rfl (QOp_lss _ _ _ _ _ _ _ rfl rfl rfl) ?_
      refine kN 1 rfl ?_
      cases h
      exact Weak_keep 0 hm [0, 3, 4, 19] [0] _ _ rfl rfl rfl
     have h := iteF hb3 h
     refine AOps_skip 17 rfl rfl rfl ?_
     refine AOps_skip 18 rfl rfl rfl ?_
     refine kN 1 rfl ?_
     cases h
     exact Weak_keep 0 hm [0, 3, 4, 19] [0] _ _ rfl rfl rfl
    refine kI h rfl (fun h _ => ?_) (fun h _ => ?_)
    ·refine ACode_skip ?_
     cases h
     exact ⟨_, rfl, Weak_keep 0 hm [0, 3, 4] [0] _ _ rfl rfl rfl⟩
    refine ACode_exit ?_
    obtain ⟨rr, hz9, h2⟩ := bindO h
    obtain rfl := Option.some.inj h2
    obtain rfl := Option.some.inj (show some rr = some _ from hks6)
    have h := hz9
    cases h
    exact Weak_keep 0 hm [3] [0] _ _ rfl rfl rfl
   refine ACode_seq ?_
   refine ACode_block ?_
   refine (ACode_last (l := [_, _, _, _, _, _, _, _, _, _, _, _, _, _, _]) mixed (by kernel_rfl) (by kernel_rfl) ?_)
   refine kQ 2 rfl ?_
   refine AQ_q 24 _ rfl rfl rfl (QOp_nilCheck_ptr _ _ _ _ rfl rfl rfl rfl) ?_
   refine AQ_q 25 _ rfl rfl rfl (QOp_fieldAddr_ptr _ _ _ _ _ _ 2 _ _ rfl Try.underlying100 rfl _ Try.sizeOf93 rfl rfl rfl rfl) ?_
   refine AQ_q 26 _ rfl rfl rfl (QOp_load_ptr _ _ _ _ _ _ rfl Try.isAgg93 rfl rfl rfl) ?_
   refine AQ_q 27 _ rfl rfl rfl (QOp_mul _ _ _ _ _ _ _ rfl rfl rfl) ?_
   refine kQ 2 rfl ?_
   obtain ⟨hc7, h⟩ := guardO h
   refine AQ_q 30 _ rfl rfl rfl (QOp_indexAddr_sl _ _ _ _ _ _ _ _ rfl Try.underlying22 Try.sizeOf5 hc7.1 (by rw [bysD_length]; exact hc7.2) rfl rfl) ?_
   refine AQ_q 31 _ rfl rfl rfl (QOp_load_pv _ _ _ _ _ rfl Try.isAgg5 rfl (bysD_get _ _ 0 (by omega))) ?_
   refine AQ_q 32 _ rfl rfl rfl (QOp_fromByte _ _ _ _ _ rfl rfl Try.underlying93 wrap_u64_byte rfl) ?_
   refine AQ_q 33 _ rfl rfl rfl (QOp_add _ _ _ _ _ _ _ rfl rfl rfl) ?_
   refine AQ_q 34 _ rfl rfl rfl (QOp_add _ _ _ _ _ _ _ rfl rfl rfl) ?_
   refine AQ_q 35 _ rfl rfl rfl (QOp_nilCheck_ptr _ _ _ _ rfl rfl rfl rfl) ?_
   refine AQ_q 36 _ rfl rfl rfl (QOp_fieldAddr_ptr _ _ _ _ _ _ 2 _ _ rfl Try.underlying100 rfl _ Try.sizeOf93 rfl rfl rfl rfl) ?_
   refine AQ_nil ?_
   refine AOps_store1 _ _ _ _ _ _ (srcD (⟨x2.c, x2.i, IntKind.u64.wrap ((IntKind.u64.wrap ((IntKind.u64.wrap (x2.h * 1099511628211)) + ((p0.getD x1.toNat 0).toNat : Int))) + 193)⟩ : Src)) _ rfl rfl rfl rfl rfl rfl rfl Try.sizeOf93 (by rw [srcD_length]; decide) (srcD_set2 _ _) ?_
   refine AOps_nil ?_
   refine (ACode_region ?_)
   refine kM 1 rfl ?_
   refine AOps_q 21 _ rfl rfl rfl (QOp_add _ _ _ _ _ _ _ rfl rfl rfl) ?_
   refine kN 1 rfl ?_
   exact ⟨k0, _, _, Nat.lt_succ_self _, Weak_keep 0 hm [0, 3, 4] [0] _ _ rfl rfl rfl, _, _, rfl, rfl, h⟩
 refine kR ?_
 refine kN 2 rfl ?_
 refine ACode_ret ?_
 cases h
 exact ⟨_, _, Weak_reset 0 hm hz [2] _ _ rfl rfl, _, _, [0], _, (.cons (ResV_tmp _ _ rfl) .nil), rfl, rfl, rfl, rfl, rfl⟩

-- loop.example/g01362/spec.l01Next
def spec_l01Next (p0 : Src) (p1 : Int) : Option (Int × Src) :=
 (if decide (p1 < 1) then some (0, p0) else ((if decide ((⟨p0.c, p0.i, IntKind.u64.wrap ((IntKind.u64.wrap (p0.h * 6364136223846793005)) + 1442695040888963407)⟩ : Src).i < (((⟨p0.c, p0.i, IntKind.u64.wrap ((IntKind.u64.wrap (p0.h * 6364136223846793005)) + 1442695040888963407)⟩ : Src).c).length : Int)) then (if 0 ≤ (⟨p0.c, p0.i, IntKind.u64.wrap ((IntKind.u64.wrap (p0.h * 6364136223846793005)) + 1442695040888963407)⟩ : Src).i ∧ (⟨p0.c, p0.i, IntKind.u64.wrap ((IntKind.u64.wrap (p0.h * 6364136223846793005)) + 1442695040888963407)⟩ : Src).i < (((⟨p0.c, p0.i, IntKind.u64.wrap ((IntKind.u64.wrap (p0.h * 6364136223846793005)) + 1442695040888963407)⟩ : Src).c).length : Int) then some (w64 ((w64 (bAnd .u64 (bShr .u64 ((⟨p0.c, p0.i, IntKind.u64.wrap ((IntKind.u64.wrap (p0.h * 6364136223846793005)) + 1442695040888963407)⟩ : Src).h) 33) 16777215)) + ((((⟨p0.c, p0.i, IntKind.u64.wrap ((IntKind.u64.wrap (p0.h * 6364136223846793005)) + 1442695040888963407)⟩ : Src).c).getD ((⟨p0.c, p0.i, IntKind.u64.wrap ((IntKind.u64.wrap (p0.h * 6364136223846793005)) + 1442695040888963407)⟩ : Src).i).toNat 0).toNat : Int)), (⟨(⟨p0.c, p0.i, IntKind.u64.wrap ((IntKind.u64.wrap (p0.h * 6364136223846793005)) + 1442695040888963407)⟩ : Src).c, w64 (((⟨p0.c, p0.i, IntKind.u64.wrap ((IntKind.u64.wrap (p0.h * 6364136223846793005)) + 1442695040888963407)⟩ : Src).i) + 1), (⟨p0.c, p0.i, IntKind.u64.wrap ((IntKind.u64.wrap (p0.h * 6364136223846793005)) + 1442695040888963407)⟩ : Src).h⟩ : Src)) else none) else some (w64 (bAnd .u64 (bShr .u64 ((⟨p0.c, p0.i, IntKind.u64.wrap ((IntKind.u64.wrap (p0.h * 6364136223846793005)) + 1442695040888963407)⟩ : Src).h) 33) 16777215), (⟨p0.c, p0.i, IntKind.u64.wrap ((IntKind.u64.wrap (p0.h * 6364136223846793005)) + 1442695040888963407)⟩ : Src))) : Option (Int × Src)).bind fun s4 => (if p1 ≠ 0 then some (s4.1.tmod p1, s4.2) else none))
set_option maxRecDepth 100000 in
theorem spec_l01Next_ac (p0 : Src) (p1 : Int) (r : Int × Src) (h : spec_l01Next p0 p1 = some r) : AC Try.prog 34 [.ptr 0 0, iV p1] [.box (srcD p0)] (fun res H' => res = [iV r.1] ∧ H' = [.box (srcD r.2)]) := by
 refine AC_of_body true Try.func34 rfl Try.ntmps34 (rvs := [.tmp 4]) rfl rfl (fun G hG => ?_)
 have hm : G.H.length = 1 := by rw [hG]; rfl
 have hz : zeroG G.H = true := by rw [hG]; rfl
 unfold spec_l01Next at h
 refine kR ?_
 refine kN 1 rfl ?_
 refine ACode_seq ?_
 refine kR ?_
 refine kM 1 rfl ?_
 refine AOps_q 7 _ rfl rfl rfl (QOp_lss _ _ _ _ _ _ _ rfl rfl rfl) ?_
 refine AOps_nil ?_
 refine kI h rfl (fun h _ => ?_) (fun h _ => ?_)
 ·refine kR ?_
  refine kN 1 rfl ?_
  refine ACode_ret ?_
  cases h
  exact ⟨_, _, fun r a w h => ⟨r, h⟩, _, _, [], _, (.cons (ResV_tmp _ _ rfl) .nil), rfl, rfl, rfl, rfl, rfl⟩
 refine ACode_skip ?_
 refine kR ?_
 refine kM 2 rfl ?_
 refine AOps_q 10 _ rfl rfl rfl (QOp_nilCheck_ptr _ _ _ _ rfl rfl rfl rfl) ?_
 refine AOps_q 11 _ rfl rfl rfl (QOp_fieldAddr_ptr _ _ _ _ _ _ 2 _ _ rfl Try.underlying100 rfl _ Try.sizeOf93 rfl rfl rfl rfl) ?_
 refine AOps_q 12 _ rfl rfl rfl (QOp_load_ptr _ _ _ _ _ _ rfl Try.isAgg93 rfl rfl rfl) ?_
 refine AOps_q 13 _ rfl rfl rfl (QOp_mul _ _ _ _ _ _ _ rfl rfl rfl) ?_
 refine AOps_q 14 _ rfl rfl rfl (QOp_add _ _ _ _ _ _ _ rfl rfl rfl) ?_
 refine AOps_q 15 _ rfl rfl rfl (QOp_nilCheck_ptr _ _ _ _ rfl rfl rfl rfl) ?_
 refine AOps_q 16 _ rfl rfl rfl (QOp_fieldAddr_ptr _ _ _ _ _ _ 2 _ _ rfl Try.underlying100 rfl _ Try.sizeOf93 rfl rfl rfl rfl) ?_
 refine AOps_store1 _ _ _ _ _ _ (srcD (⟨p0.c, p0.i, IntKind.u64.wrap ((IntKind.u64.wrap (p0.h * 6364136223846793005)) + 1442695040888963407)⟩ : Src)) _ rfl rfl rfl rfl rfl rfl rfl Try.sizeOf93 (by rw [srcD_length]; decide) (srcD_set2 _ _) ?_
 refine AOps_nil ?_
 refine kR ?_
 refine kM 1 rfl ?_
 refine AOps_q 18 _ rfl rfl rfl (QOp_nilCheck_ptr _ _ _ _ rfl rfl rfl rfl) ?_
 refine AOps_q 19 _ rfl rfl rfl (QOp_fieldAddr_ptr _ _ _ _ _ _ 2 _ _ rfl Try.underlying100 rfl _ Try.sizeOf93 rfl rfl rfl rfl) ?_
 refine AOps_q 20 _ rfl rfl rfl (QOp_load_ptr _ _ _ _ _ _ rfl Try.isAgg93 rfl rfl rfl) ?_
 refine AOps_q 21 _ rfl rfl rfl (QOp_shr _ _ _ _ _ _ _ _ (by decide) rfl rfl rfl) ?_
 refine AOps_q 22 _ rfl rfl rfl (QOp_and _ _ _ _ _ _ _ rfl rfl rfl) ?_
 refine AOps_q 23 _ rfl rfl rfl (QOp_conv _ _ _ _ _ _ rfl rfl Try.underlying2 rfl) ?_
 refine kN 1 rfl ?_
 refine kB (fun s4 => [(1, iV p1), (5, iV s4.1)]) (fun s4 => [.box (srcD s4.2)]) h (fun s4 h => ?_) (fun s4 h => ?_)
 ·refine ACode_seq (ACode_quiet mixed (by kernel_rfl) ?_)
  refine kQ 1 rfl ?_
  refine AQ_q 25 _ rfl rfl rfl (QOp_nilCheck_ptr _ _ _ _ rfl rfl rfl rfl) ?_
  refine AQ_q 26 _ rfl rfl rfl (QOp_fieldAddr_ptr _ _ _ _ _ _ 1 _ _ rfl Try.underlying100 rfl _ Try.sizeOf3 rfl rfl rfl rfl) ?_
  refine AQ_q 27 _ rfl rfl rfl (QOp_load_ptr _ _ _ _ _ _ rfl Try.isAgg3 rfl rfl rfl) ?_
  refine kQ 1 rfl ?_
  refine AQ_q 29 _ rfl rfl rfl (QOp_nilCheck_ptr _ _ _ _ rfl rfl rfl rfl) ?_
  refine AQ_q 30 _ rfl rfl rfl (QOp_fieldAddr_ptr _ _ _ _ _ _ 0 _ _ rfl Try.underlying100 rfl _ Try.sizeOf22 rfl rfl rfl rfl) ?_
  refine AQ_q 31 _ rfl rfl rfl (QOp_load_ptr _ _ _ _ _ _ rfl Try.isAgg22 rfl rfl rfl) ?_
  refine AQ_q 32 _ rfl rfl rfl (QOp_len_sl _ _ _ _ _ _ _ (bysD_length _) rfl rfl rfl rfl Try.underlying22 rfl) ?_
  refine AQ_q 33 _ rfl rfl rfl (QOp_lss _ _ _ _ _ _ _ rfl rfl rfl) ?_
  refine AQ_nil ?_
  refine kI h rfl (fun h _ => ?_) (fun h _ => ?_)
  ·refine ACode_seq (ACode_quiet mixed (by kernel_rfl) ?_)
   refine kQ 2 rfl ?_
   refine AQ_q 36 _ rfl rfl rfl (QOp_nilCheck_ptr _ _ _ _ rfl rfl rfl rfl) ?_
   refine AQ_q 37 _ rfl rfl rfl (QOp_fieldAddr_ptr _ _ _ _ _ _ 0 _ _ rfl Try.underlying100 rfl _ Try.sizeOf22 rfl rfl rfl rfl) ?_
   refine AQ_q 38 _ rfl rfl rfl (QOp_load_ptr _ _ _ _ _ _ rfl Try.isAgg22 rfl rfl rfl) ?_
   refine kQ 1 rfl ?_
   refine AQ_q 40 _ rfl rfl rfl (QOp_nilCheck_ptr _ _ _ _ rfl rfl rfl rfl) ?_
   refine AQ_q 41 _ rfl rfl rfl (QOp_fieldAddr_ptr _ _ _ _ _ _ 1 _ _ rfl Try.underlying100 rfl _ Try.sizeOf3 rfl rfl rfl rfl) ?_
   refine AQ_q 42 _ rfl rfl rfl (QOp_load_ptr _ _ _ _ _ _ rfl Try.isAgg3 rfl rfl rfl) ?_
   obtain ⟨hc3, h⟩ := guardO h
   refine AQ_q 43 _ rfl rfl rfl (QOp_indexAddr_sl _ _ _ _ _ _ _ _ rfl Try.underlying22 Try.sizeOf5 hc3.1 (by rw [bysD_length]; exact hc3.2) rfl rfl) ?_
   refine AQ_q 44 _ rfl rfl rfl (QOp_load_pv _ _ _ _ _ rfl Try.isAgg5 rfl (bysD_get _ _ 0 (by omega))) ?_
   refine AQ_q 45 _ rfl rfl rfl (QOp_fromByte _ _ _ _ _ rfl rfl Try.underlying2 wrap_i64_byte rfl) ?_
   refine AQ_q 46 _ rfl rfl rfl (QOp_add _ _ _ _ _ _ _ rfl rfl rfl) ?_
   refine kQ 1 rfl ?_
   refine AQ_nil ?_
   refine (ACode_region ?_)
   refine kM 2 rfl ?_
   refine AOps_q 49 _ rfl rfl rfl (QOp_nilCheck_ptr _ _ _ _ rfl rfl rfl rfl) ?_
   refine AOps_q 50 _ rfl rfl rfl (QOp_fieldAddr_ptr _ _ _ _ _ _ 1 _ _ rfl Try.underlying100 rfl _ Try.sizeOf3 rfl rfl rfl rfl) ?_
   refine AOps_q 51 _ rfl rfl rfl (QOp_load_ptr _ _ _ _ _ _ rfl Try.isAgg3 rfl rfl rfl) ?_
   refine AOps_q 52 _ rfl rfl rfl (QOp_add _ _ _ _ _ _ _ rfl rfl rfl) ?_
   refine AOps_q 53 _ rfl rfl rfl (QOp_nilCheck_ptr _ _ _ _ rfl rfl rfl rfl) ?_
   refine AOps_q 54 _ rfl rfl rfl (QOp_fieldAddr_ptr _ _ _ _ _ _ 1 _ _ rfl Try.underlying100 rfl _ Try.sizeOf3 rfl rfl rfl rfl) ?_
   refine AOps_store1 _ _ _ _ _ _ (srcD (⟨(⟨p0.c, p0.i, IntKind.u64.wrap ((IntKind.u64.wrap (p0.h * 6364136223846793005)) + 1442695040888963407)⟩ : Src).c, w64 (((⟨p0.c, p0.i, IntKind.u64.wrap ((IntKind.u64.wrap (p0.h * 6364136223846793005)) + 1442695040888963407)⟩ : Src).i) + 1), (⟨p0.c, p0.i, IntKind.u64.wrap ((IntKind.u64.wrap (p0.h * 6364136223846793005)) + 1442695040888963407)⟩ : Src).h⟩ : Src)) _ rfl rfl rfl rfl rfl rfl rfl Try.sizeOf3 (by rw [srcD_length]; decide) (srcD_set1 _ _) ?_
   refine AOps_nil ?_
   cases h
   exact Weak_keep 1 hm [1, 5] [] _ _ rfl rfl rfl
  refine ACode_skip ?_
  cases h
  exact Weak_keep 1 hm [1, 5] [] _ _ rfl rfl rfl
 refine kR ?_
 refine kM 2 rfl ?_
 obtain ⟨hc5, h⟩ := guardO h
 refine AOps_q 57 _ rfl rfl rfl (QOp_rem _ _ _ _ _ _ _ hc5 rfl rfl rfl) ?_
 refine kN 1 rfl ?_
 refine ACode_ret ?_
 cases h
 exact ⟨_, _, fun r a w h => ⟨r, h⟩, _, _, [], _, (.cons (ResV_tmp _ _ rfl) .nil), rfl, rfl, rfl, rfl, rfl⟩

-- loop.example/g01362/spec.l01Pick
def spec_l01Pick (p0 : Src) (p1 : List Int) : Option (Int × Src) :=
 (spec_l01Next p0 (p1.length : Int)).bind fun r1 => (if 0 ≤ r1.1 ∧ r1.1 < (p1.length : Int) then some ((p1.getD r1.1.toNat 0), r1.2) else none)
set_option maxRecDepth 100000 in
theorem spec_l01Pick_ac (p0 : Src) (p1 : List Int) (r : Int × Src) (h : spec_l01Pick p0 p1 = some r) : AC Try.prog 36 [.ptr 0 0, .d (.sl none (intsD p1))] [.box (srcD p0)] (fun res H' => res = [iV r.1] ∧ H' = [.box (srcD r.2)]) := by
 refine AC_of_body true Try.func36 rfl Try.ntmps36 (rvs := [.tmp 4]) rfl rfl (fun G hG => ?_)
 have hm : G.H.length = 1 := by rw [hG]; rfl
 have hz : zeroG G.H = true := by rw [hG]; rfl
 unfold spec_l01Pick at h
 refine kR ?_
 refine kN 1 rfl ?_
 refine kR ?_
 refine kM 3 rfl ?_
 refine AOps_q 8 _ rfl rfl rfl (QOp_len_sl _ _ _ _ _ _ _ (intsD_length _) rfl rfl rfl rfl Try.underlying24 rfl) ?_
 obtain ⟨r1, hr1, h⟩ := bindO h
 refine kC [0] 9 (iV r1.1) [.box (srcD r1.2)] rfl Try.call34 rfl rfl (spec_l01Next_ac p0 (p1.length : Int) _ hr1) rfl ?_
 obtain ⟨hc2, h⟩ := guardO h
 refine AOps_q 10 _ rfl rfl rfl (QOp_indexAddr_sl _ _ _ _ _ _ _ _ rfl Try.underlying24 Try.sizeOf2 hc2.1 (by rw [intsD_length]; exact hc2.2) rfl rfl) ?_
 refine AOps_q 11 _ rfl rfl rfl (QOp_load_pv _ _ _ _ _ rfl Try.isAgg2 rfl (intsD_get _ _ 0 (by omega))) ?_
 refine kN 1 rfl ?_
 refine ACode_ret ?_
 cases h
 exact ⟨_, _, fun r a w h => ⟨r, h⟩, _, _, [], _, (.cons (ResV_tmp _ _ rfl) .nil), rfl, rfl, rfl, rfl, rfl⟩

end Go.Proofs.Ytfnbhfobgimnjaa
