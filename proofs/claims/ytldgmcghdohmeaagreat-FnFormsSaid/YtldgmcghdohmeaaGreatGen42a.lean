/- Plain functions of the program and that the program computes them: printed by the own tool gen.py. No conditions. -/
import Derived.Test.YtldgmcghdohmeaaGreatSrV
import Derived.Test.YtldgmcghdohmeaaGreatMg38
import Derived.Test.YtldgmcghdohmeaaGreatAb33
import Derived.Test.YtldgmcghdohmeaaGreatMg40
import Derived.Test.YtldgmcghdohmeaaGreatMg35
import Derived.Test.YtldgmcghdohmeaaGreatSea
import Derived.Test.YtldgmcghdohmeaaGreatSrc
import Derived.Test.YtldgmcghdohmeaaGreatMg24
import Derived.Test.YtldgmcghdohmeaaGreatAb27
set_option linter.unusedVariables false
set_option linter.unusedSimpArgs false
set_option maxRecDepth 100000
namespace Go.Proofs.YtldgmcghdohmeaaGreat
open Go Go.RowKit Ab

def laws_big (p0 : List UInt8) : Bool :=
 decide (4096 < (p0.length : Int))
theorem laws_big_ac (p0 : List UInt8) : AC Tryz.prog 4 [.d (.sl none (bysD p0))] [] (fun res H' => res = [bV (laws_big p0)] ∧ H' = []) := by
 refine AC_of_body true Tryz.func4 rfl Tryz.ntmps4 (rvs := [.tmp 2]) rfl rfl (fun G hG => ?_)
 have hm : G.H.length = 0 := by rw [hG]; rfl
 have hz : zeroG G.H = true := by rw [hG]; rfl
 obtain ⟨r, h⟩ : ∃ r, laws_big p0 = r := ⟨_, rfl⟩
 rw [h]
 unfold laws_big at h
 refine kR ?_
 refine kN 1 rfl ?_
 refine kR ?_
 refine kM 1 rfl ?_
 refine AOps_q 4 _ rfl rfl rfl (QOp_len_sl _ _ _ _ _ _ _ (bysD_length _) rfl rfl rfl rfl Tryz.underlying22 rfl) ?_
 refine AOps_q 5 _ rfl rfl rfl (QOp_gtr _ _ _ _ _ _ _ rfl rfl rfl) ?_
 refine kN 1 rfl ?_
 refine ACode_ret ?_
 cases h
 exact ⟨_, _, fun r a w h => ⟨r, h⟩, _, _, [], _, (.cons (ResV_tmp _ _ rfl) .nil), rfl, rfl, rfl, rfl, rfl⟩

def spec_l01From_l0 (p0 : List UInt8) : Nat → Int → Src → Option (Src)
 | 0, _, _ => none
 | k0 + 1, x1, x2 => (letO (if decide (x1 < (p0.length : Int)) then decide (x1 < 4096) else false) fun (s4 : Bool) => (if s4 then some (.inl ()) else (some x2).bind fun rr => some (.inr rr)) : Option (Sum (Unit) (Src))).bind fun os6 => (match os6 with | .inl s6 => (if 0 ≤ x1 ∧ x1 < (p0.length : Int) then spec_l01From_l0 p0 k0 (w64 (x1 + 1)) (⟨x2.c, x2.i, IntKind.u64.wrap ((IntKind.u64.wrap ((IntKind.u64.wrap (x2.h * 1099511628211)) + ((p0.getD x1.toNat 0).toNat : Int))) + 193)⟩ : Src) else none) | .inr rr => some rr)
def spec_l01From (k : Nat) (p0 : List UInt8) : Option (Src) :=
 (spec_l01From_l0 p0 k 0 (⟨p0, 0, IntKind.u64.wrap (13621 + (IntKind.u64.wrap (p0.length : Int)))⟩ : Src) : Option (Src)).bind fun s8 => some s8
theorem spec_l01From_ac (k : Nat) (p0 : List UInt8) (r : Src) (h : spec_l01From k p0 = some r) : AC Tryz.prog 22 [.d (.sl none (bysD p0))] [] (fun res H' => res = [.ptr 0 0] ∧ H' = [.box (srcD r)]) := by
 refine AC_of_body true Tryz.func22 rfl Tryz.ntmps22 (rvs := [.tmp 2]) rfl rfl (fun G hG => ?_)
 have hm : G.H.length = 0 := by rw [hG]; rfl
 have hz : zeroG G.H = true := by rw [hG]; rfl
 unfold spec_l01From at h
 refine kR ?_
 refine kN 1 rfl ?_
 refine kR ?_
 refine kM 2 rfl ?_
 refine AOps_q 7 _ rfl rfl rfl (QOp_len_sl _ _ _ _ _ _ _ (bysD_length _) rfl rfl rfl rfl Tryz.underlying22 rfl) ?_
 refine AOps_q 8 _ rfl rfl rfl (QOp_conv _ _ _ _ _ _ rfl rfl Tryz.underlying78 rfl) ?_
 refine AOps_q 9 _ rfl rfl rfl (QOp_add _ _ _ _ _ _ _ rfl rfl rfl) ?_
 refine AOps_q 10 _ rfl rfl rfl (QOp_build _ _ [_, _] [0, 2] [.sl none (bysD p0), .s (.int .u64 (IntKind.u64.wrap (13621 + (IntKind.u64.wrap (p0.length : Int)))))] _ [.sl (some true) [], iD 0, .s (.int .u64 0)] (srcD (⟨p0, 0, IntKind.u64.wrap (13621 + (IntKind.u64.wrap (p0.length : Int)))⟩ : Src)) [(0, 1), (1, 1), (2, 1)] rfl rfl Tryz.underlying80 (zero_of Tryz.typeInfo80 rfl) (fun w => by simp [Tryz.sizeOf22, Tryz.sizeOf3, Tryz.sizeOf78]) rfl (by rfl) (by rfl) (allc (ok1 rfl) (allc (ok1 rfl) (fun _ h => nomatch h)))) ?_
 refine AOps_boxM 11 _ _ (.agg (srcD (⟨p0, 0, IntKind.u64.wrap (13621 + (IntKind.u64.wrap (p0.length : Int)))⟩ : Src))) (srcD (⟨p0, 0, IntKind.u64.wrap (13621 + (IntKind.u64.wrap (p0.length : Int)))⟩ : Src)) rfl (srcD_one _) rfl rfl rfl rfl rfl ?_
 refine kN 1 rfl ?_
 refine kB (fun s8 => [(3, .ptr 0 0)]) (fun s8 => [.box (srcD s8)]) h (fun s8 h => ?_) (fun s8 h => ?_)
 ·refine kR ?_
  refine kN 1 rfl ?_
  refine ACode_block ?_
  refine ACode_loopW (fun k0 E H => ∃ (x1 : Int) (x2 : Src), E = [(0, .d (.sl none (bysD p0))), (3, .ptr 0 0), (4, iV x1)] ∧ H = [.box (srcD x2)] ∧ spec_l01From_l0 p0 k0 x1 x2 = some s8) k _ _ (Weak_keep 0 hm [0, 3, 4] [0] _ _ rfl rfl rfl) ⟨_, _, rfl, rfl, h⟩ ?_
  clear h
  rintro k0 E H ⟨x1, x2, rfl, rfl, h⟩
  cases k0 with
  | zero => cases (show (none : Option (Src)) = some _ from h)
  | succ k0 =>
   rw [spec_l01From_l0] at h
   refine kO (fun s6 => [(0, .d (.sl none (bysD p0))), (3, .ptr 0 0), (4, iV x1)]) (fun s6 => [.box (srcD x2)]) h (fun os6 h hks6 => ?_) (fun s6 h => ?_)
   ·refine kL (fun s4 => [(0, .d (.sl none (bysD p0))), (3, .ptr 0 0), (4, iV x1), (19, bV s4)]) (fun s4 => [.box (srcD x2)]) h (fun s4 h => ?_) (fun s4 h => ?_)
    ·refine (ACode_region ?_)
     refine kM 2 rfl ?_
     refine AOps_q 14 _ rfl rfl rfl (QOp_len_sl _ _ _ _ _ _ _ (bysD_length _) rfl rfl rfl rfl Tryz.underlying22 rfl) ?_
     refine AOps_q 15 _ rfl rfl rfl (QOp_lss _ _ _ _ _ _ _ rfl rfl rfl) ?_
     refine kM 1 rfl ?_
     refine AOps_case 16 _ rfl (fun hb3 => ?_) (fun hb3 => ?_)
     ·have h := iteT hb3 h
      refine kM 1 rfl ?_
      refine AOps_q 18 _ rfl rfl rfl (QOp_lss _ _ _ _ _ _ _ rfl rfl rfl) ?_
      refine kN 1 rfl ?_
      cases h
      exact Weak_keep 0 hm [0, 3, 4, 19] [0] _ _ rfl rfl rfl
     have h := iteF hb3 h
     refine AOps_skip 17 rfl rfl rfl ?_
     refine AOps_skip 18 rfl rfl rfl ?_
     refine kN 1 rfl ?_
     cases h
     exact Weak_keep 0 hm [0, 3, 4, 19] [0] _ _ rfl rfl rfl
    refine kI h rfl (fun h _ => ?_) (fun h _ => ?_)
    ·refine ACode_skip ?_
     cases h
     exact ⟨_, rfl, Weak_keep 0 hm [0, 3, 4] [0] _ _ rfl rfl rfl⟩
    refine ACode_exit ?_
    obtain ⟨rr, hz9, h2⟩ := bindO h
    obtain rfl := Option.some.inj h2
    obtain rfl := Option.some.inj (show some rr = some _ from hks6)
    have h := hz9
    cases h
    exact Weak_keep 0 hm [3] [0] _ _ rfl rfl rfl
   refine ACode_seq ?_
   refine ACode_block ?_
   refine (ACode_last (l := [_, _, _, _, _, _, _, _, _, _, _, _, _, _, _]) mixed (by kernel_rfl) (by kernel_rfl) ?_)
   refine kQ 2 rfl ?_
   refine AQ_q 24 _ rfl rfl rfl (QOp_nilCheck_ptr _ _ _ _ rfl rfl rfl rfl) ?_
   refine AQ_q 25 _ rfl rfl rfl (QOp_fieldAddr_ptr _ _ _ _ _ _ 2 _ _ rfl Tryz.underlying80 rfl _ Tryz.sizeOf78 rfl rfl rfl rfl) ?_
   refine AQ_q 26 _ rfl rfl rfl (QOp_load_ptr _ _ _ _ _ _ rfl Tryz.isAgg78 rfl rfl rfl) ?_
   refine AQ_q 27 _ rfl rfl rfl (QOp_mul _ _ _ _ _ _ _ rfl rfl rfl) ?_
   refine kQ 2 rfl ?_
   obtain ⟨hc7, h⟩ := guardO h
   refine AQ_q 30 _ rfl rfl rfl (QOp_indexAddr_sl _ _ _ _ _ _ _ _ rfl Tryz.underlying22 Tryz.sizeOf5 hc7.1 (by rw [bysD_length]; exact hc7.2) rfl rfl) ?_
   refine AQ_q 31 _ rfl rfl rfl (QOp_load_pv _ _ _ _ _ rfl Tryz.isAgg5 rfl (bysD_get _ _ 0 (by omega))) ?_
   refine AQ_q 32 _ rfl rfl rfl (QOp_fromByte _ _ _ _ _ rfl rfl Tryz.underlying78 wrap_u64_byte rfl) ?_
   refine AQ_q 33 _ rfl rfl rfl (QOp_add _ _ _ _ _ _ _ rfl rfl rfl) ?_
   refine AQ_q 34 _ rfl rfl rfl (QOp_add _ _ _ _ _ _ _ rfl rfl rfl) ?_
   refine AQ_q 35 _ rfl rfl rfl (QOp_nilCheck_ptr _ _ _ _ rfl rfl rfl rfl) ?_
   refine AQ_q 36 _ rfl rfl rfl (QOp_fieldAddr_ptr _ _ _ _ _ _ 2 _ _ rfl Tryz.underlying80 rfl _ Tryz.sizeOf78 rfl rfl rfl rfl) ?_
   refine AQ_nil ?_
   refine AOps_store1 _ _ _ _ _ _ (srcD (⟨x2.c, x2.i, IntKind.u64.wrap ((IntKind.u64.wrap ((IntKind.u64.wrap (x2.h * 1099511628211)) + ((p0.getD x1.toNat 0).toNat : Int))) + 193)⟩ : Src)) _ rfl rfl rfl rfl rfl rfl rfl Tryz.sizeOf78 (by rw [srcD_length]; decide) (srcD_set2 _ _) ?_
   refine AOps_nil ?_
   refine (ACode_region ?_)
   refine kM 1 rfl ?_
   refine AOps_q 21 _ rfl rfl rfl (QOp_add _ _ _ _ _ _ _ rfl rfl rfl) ?_
   refine kN 1 rfl ?_
   exact ⟨k0, _, _, Nat.lt_succ_self _, Weak_keep 0 hm [0, 3, 4] [0] _ _ rfl rfl rfl, _, _, rfl, rfl, h⟩
 refine kR ?_
 refine kN 2 rfl ?_
 refine ACode_ret ?_
 cases h
 exact ⟨_, _, Weak_reset 0 hm hz [2] _ _ rfl rfl, _, _, [0], _, (.cons (ResV_tmp _ _ rfl) .nil), rfl, rfl, rfl, rfl, rfl⟩

def spec_l01Next (p0 : Src) (p1 : Int) : Option (Int × Src) :=
 (if decide (p1 < 1) then some (0, p0) else ((if decide ((⟨p0.c, p0.i, IntKind.u64.wrap ((IntKind.u64.wrap (p0.h * 6364136223846793005)) + 1442695040888963407)⟩ : Src).i < (((⟨p0.c, p0.i, IntKind.u64.wrap ((IntKind.u64.wrap (p0.h * 6364136223846793005)) + 1442695040888963407)⟩ : Src).c).length : Int)) then (if 0 ≤ (⟨p0.c, p0.i, IntKind.u64.wrap ((IntKind.u64.wrap (p0.h * 6364136223846793005)) + 1442695040888963407)⟩ : Src).i ∧ (⟨p0.c, p0.i, IntKind.u64.wrap ((IntKind.u64.wrap (p0.h * 6364136223846793005)) + 1442695040888963407)⟩ : Src).i < (((⟨p0.c, p0.i, IntKind.u64.wrap ((IntKind.u64.wrap (p0.h * 6364136223846793005)) + 1442695040888963407)⟩ : Src).c).length : Int) then some (w64 ((w64 (bAnd .u64 (bShr .u64 ((⟨p0.c, p0.i, IntKind.u64.wrap ((IntKind.u64.wrap (p0.h * 6364136223846793005)) + 1442695040888963407)⟩ : Src).h) 33) 16777215)) + ((((⟨p0.c, p0.i, IntKind.u64.wrap ((IntKind.u64.wrap (p0.h * 6364136223846793005)) + 1442695040888963407)⟩ : Src).c).getD ((⟨p0.c, p0.i, IntKind.u64.wrap ((IntKind.u64.wrap (p0.h * 6364136223846793005)) + 1442695040888963407)⟩ : Src).i).toNat 0).toNat : Int)), (⟨(⟨p0.c, p0.i, IntKind.u64.wrap ((IntKind.u64.wrap (p0.h * 6364136223846793005)) + 1442695040888963407)⟩ : Src).c, w64 (((⟨p0.c, p0.i, IntKind.u64.wrap ((IntKind.u64.wrap (p0.h * 6364136223846793005)) + 1442695040888963407)⟩ : Src).i) + 1), (⟨p0.c, p0.i, IntKind.u64.wrap ((IntKind.u64.wrap (p0.h * 6364136223846793005)) + 1442695040888963407)⟩ : Src).h⟩ : Src)) else none) else some (w64 (bAnd .u64 (bShr .u64 ((⟨p0.c, p0.i, IntKind.u64.wrap ((IntKind.u64.wrap (p0.h * 6364136223846793005)) + 1442695040888963407)⟩ : Src).h) 33) 16777215), (⟨p0.c, p0.i, IntKind.u64.wrap ((IntKind.u64.wrap (p0.h * 6364136223846793005)) + 1442695040888963407)⟩ : Src))) : Option (Int × Src)).bind fun s4 => (if p1 ≠ 0 then some (s4.1.tmod p1, s4.2) else none))
theorem spec_l01Next_ac (p0 : Src) (p1 : Int) (r : Int × Src) (h : spec_l01Next p0 p1 = some r) : AC Tryz.prog 23 [.ptr 0 0, iV p1] [.box (srcD p0)] (fun res H' => res = [iV r.1] ∧ H' = [.box (srcD r.2)]) := by
 refine AC_of_body true Tryz.func23 rfl Tryz.ntmps23 (rvs := [.tmp 4]) rfl rfl (fun G hG => ?_)
 have hm : G.H.length = 1 := by rw [hG]; rfl
 have hz : zeroG G.H = true := by rw [hG]; rfl
 unfold spec_l01Next at h
 refine kR ?_
 refine kN 1 rfl ?_
 refine ACode_seq ?_
 refine kR ?_
 refine kM 1 rfl ?_
 refine AOps_q 7 _ rfl rfl rfl (QOp_lss _ _ _ _ _ _ _ rfl rfl rfl) ?_
 refine AOps_nil ?_
 refine kI h rfl (fun h _ => ?_) (fun h _ => ?_)
 ·refine kR ?_
  refine kN 1 rfl ?_
  refine ACode_ret ?_
  cases h
  exact ⟨_, _, fun r a w h => ⟨r, h⟩, _, _, [], _, (.cons (ResV_tmp _ _ rfl) .nil), rfl, rfl, rfl, rfl, rfl⟩
 refine ACode_skip ?_
 refine kR ?_
 refine kM 2 rfl ?_
 refine AOps_q 10 _ rfl rfl rfl (QOp_nilCheck_ptr _ _ _ _ rfl rfl rfl rfl) ?_
 refine AOps_q 11 _ rfl rfl rfl (QOp_fieldAddr_ptr _ _ _ _ _ _ 2 _ _ rfl Tryz.underlying80 rfl _ Tryz.sizeOf78 rfl rfl rfl rfl) ?_
 refine AOps_q 12 _ rfl rfl rfl (QOp_load_ptr _ _ _ _ _ _ rfl Tryz.isAgg78 rfl rfl rfl) ?_
 refine AOps_q 13 _ rfl rfl rfl (QOp_mul _ _ _ _ _ _ _ rfl rfl rfl) ?_
 refine AOps_q 14 _ rfl rfl rfl (QOp_add _ _ _ _ _ _ _ rfl rfl rfl) ?_
 refine AOps_q 15 _ rfl rfl rfl (QOp_nilCheck_ptr _ _ _ _ rfl rfl rfl rfl) ?_
 refine AOps_q 16 _ rfl rfl rfl (QOp_fieldAddr_ptr _ _ _ _ _ _ 2 _ _ rfl Tryz.underlying80 rfl _ Tryz.sizeOf78 rfl rfl rfl rfl) ?_
 refine AOps_store1 _ _ _ _ _ _ (srcD (⟨p0.c, p0.i, IntKind.u64.wrap ((IntKind.u64.wrap (p0.h * 6364136223846793005)) + 1442695040888963407)⟩ : Src)) _ rfl rfl rfl rfl rfl rfl rfl Tryz.sizeOf78 (by rw [srcD_length]; decide) (srcD_set2 _ _) ?_
 refine AOps_nil ?_
 refine kR ?_
 refine kM 1 rfl ?_
 refine AOps_q 18 _ rfl rfl rfl (QOp_nilCheck_ptr _ _ _ _ rfl rfl rfl rfl) ?_
 refine AOps_q 19 _ rfl rfl rfl (QOp_fieldAddr_ptr _ _ _ _ _ _ 2 _ _ rfl Tryz.underlying80 rfl _ Tryz.sizeOf78 rfl rfl rfl rfl) ?_
 refine AOps_q 20 _ rfl rfl rfl (QOp_load_ptr _ _ _ _ _ _ rfl Tryz.isAgg78 rfl rfl rfl) ?_
 refine AOps_q 21 _ rfl rfl rfl (QOp_shr _ _ _ _ _ _ _ _ (by decide) rfl rfl rfl) ?_
 refine AOps_q 22 _ rfl rfl rfl (QOp_and _ _ _ _ _ _ _ rfl rfl rfl) ?_
 refine AOps_q 23 _ rfl rfl rfl (QOp_conv _ _ _ _ _ _ rfl rfl Tryz.underlying2 rfl) ?_
 refine kN 1 rfl ?_
 refine kB (fun s4 => [(1, iV p1), (5, iV s4.1)]) (fun s4 => [.box (srcD s4.2)]) h (fun s4 h => ?_) (fun s4 h => ?_)
 ·refine ACode_seq (ACode_quiet mixed (by kernel_rfl) ?_)
  refine kQ 1 rfl ?_
  refine AQ_q 25 _ rfl rfl rfl (QOp_nilCheck_ptr _ _ _ _ rfl rfl rfl rfl) ?_
  refine AQ_q 26 _ rfl rfl rfl (QOp_fieldAddr_ptr _ _ _ _ _ _ 1 _ _ rfl Tryz.underlying80 rfl _ Tryz.sizeOf3 rfl rfl rfl rfl) ?_
  refine AQ_q 27 _ rfl rfl rfl (QOp_load_ptr _ _ _ _ _ _ rfl Tryz.isAgg3 rfl rfl rfl) ?_
  refine kQ 1 rfl ?_
  refine AQ_q 29 _ rfl rfl rfl (QOp_nilCheck_ptr _ _ _ _ rfl rfl rfl rfl) ?_
  refine AQ_q 30 _ rfl rfl rfl (QOp_fieldAddr_ptr _ _ _ _ _ _ 0 _ _ rfl Tryz.underlying80 rfl _ Tryz.sizeOf22 rfl rfl rfl rfl) ?_
  refine AQ_q 31 _ rfl rfl rfl (QOp_load_ptr _ _ _ _ _ _ rfl Tryz.isAgg22 rfl rfl rfl) ?_
  refine AQ_q 32 _ rfl rfl rfl (QOp_len_sl _ _ _ _ _ _ _ (bysD_length _) rfl rfl rfl rfl Tryz.underlying22 rfl) ?_
  refine AQ_q 33 _ rfl rfl rfl (QOp_lss _ _ _ _ _ _ _ rfl rfl rfl) ?_
  refine AQ_nil ?_
  refine kI h rfl (fun h _ => ?_) (fun h _ => ?_)
  ·refine ACode_seq (ACode_quiet mixed (by kernel_rfl) ?_)
   refine kQ 2 rfl ?_
   refine AQ_q 36 _ rfl rfl rfl (QOp_nilCheck_ptr _ _ _ _ rfl rfl rfl rfl) ?_
   refine AQ_q 37 _ rfl rfl rfl (QOp_fieldAddr_ptr _ _ _ _ _ _ 0 _ _ rfl Tryz.underlying80 rfl _ Tryz.sizeOf22 rfl rfl rfl rfl) ?_
   refine AQ_q 38 _ rfl rfl rfl (QOp_load_ptr _ _ _ _ _ _ rfl Tryz.isAgg22 rfl rfl rfl) ?_
   refine kQ 1 rfl ?_
   refine AQ_q 40 _ rfl rfl rfl (QOp_nilCheck_ptr _ _ _ _ rfl rfl rfl rfl) ?_
   refine AQ_q 41 _ rfl rfl rfl (QOp_fieldAddr_ptr _ _ _ _ _ _ 1 _ _ rfl Tryz.underlying80 rfl _ Tryz.sizeOf3 rfl rfl rfl rfl) ?_
   refine AQ_q 42 _ rfl rfl rfl (QOp_load_ptr _ _ _ _ _ _ rfl Tryz.isAgg3 rfl rfl rfl) ?_
   obtain ⟨hc3, h⟩ := guardO h
   refine AQ_q 43 _ rfl rfl rfl (QOp_indexAddr_sl _ _ _ _ _ _ _ _ rfl Tryz.underlying22 Tryz.sizeOf5 hc3.1 (by rw [bysD_length]; exact hc3.2) rfl rfl) ?_
   refine AQ_q 44 _ rfl rfl rfl (QOp_load_pv _ _ _ _ _ rfl Tryz.isAgg5 rfl (bysD_get _ _ 0 (by omega))) ?_
   refine AQ_q 45 _ rfl rfl rfl (QOp_fromByte _ _ _ _ _ rfl rfl Tryz.underlying2 wrap_i64_byte rfl) ?_
   refine AQ_q 46 _ rfl rfl rfl (QOp_add _ _ _ _ _ _ _ rfl rfl rfl) ?_
   refine kQ 1 rfl ?_
   refine AQ_nil ?_
   refine (ACode_region ?_)
   refine kM 2 rfl ?_
   refine AOps_q 49 _ rfl rfl rfl (QOp_nilCheck_ptr _ _ _ _ rfl rfl rfl rfl) ?_
   refine AOps_q 50 _ rfl rfl rfl (QOp_fieldAddr_ptr _ _ _ _ _ _ 1 _ _ rfl Tryz.underlying80 rfl _ Tryz.sizeOf3 rfl rfl rfl rfl) ?_
   refine AOps_q 51 _ rfl rfl rfl (QOp_load_ptr _ _ _ _ _ _ rfl Tryz.isAgg3 rfl rfl rfl) ?_
   refine AOps_q 52 _ rfl rfl rfl (QOp_add _ _ _ _ _ _ _ rfl rfl rfl) ?_
   refine AOps_q 53 _ rfl rfl rfl (QOp_nilCheck_ptr _ _ _ _ rfl rfl rfl rfl) ?_
   refine AOps_q 54 _ rfl rfl rfl (QOp_fieldAddr_ptr _ _ _ _ _ _ 1 _ _ rfl Tryz.underlying80 rfl _ Tryz.sizeOf3 rfl rfl rfl rfl) ?_
   refine AOps_store1 _ _ _ _ _ _ (srcD (⟨(⟨p0.c, p0.i, IntKind.u64.wrap ((IntKind.u64.wrap (p0.h * 6364136223846793005)) + 1442695040888963407)⟩ : Src).c, w64 (((⟨p0.c, p0.i, IntKind.u64.wrap ((IntKind.u64.wrap (p0.h * 6364136223846793005)) + 1442695040888963407)⟩ : Src).i) + 1), (⟨p0.c, p0.i, IntKind.u64.wrap ((IntKind.u64.wrap (p0.h * 6364136223846793005)) + 1442695040888963407)⟩ : Src).h⟩ : Src)) _ rfl rfl rfl rfl rfl rfl rfl Tryz.sizeOf3 (by rw [srcD_length]; decide) (srcD_set1 _ _) ?_
   refine AOps_nil ?_
   cases h
   exact Weak_keep 1 hm [1, 5] [] _ _ rfl rfl rfl
  refine ACode_skip ?_
  cases h
  exact Weak_keep 1 hm [1, 5] [] _ _ rfl rfl rfl
 refine kR ?_
 refine kM 2 rfl ?_
 obtain ⟨hc5, h⟩ := guardO h
 refine AOps_q 57 _ rfl rfl rfl (QOp_rem _ _ _ _ _ _ _ hc5 rfl rfl rfl) ?_
 refine kN 1 rfl ?_
 refine ACode_ret ?_
 cases h
 exact ⟨_, _, fun r a w h => ⟨r, h⟩, _, _, [], _, (.cons (ResV_tmp _ _ rfl) .nil), rfl, rfl, rfl, rfl, rfl⟩

def spec_l01Names : List ByteArray :=
 [(⟨#[112, 101, 110, 116, 97, 103, 111, 110]⟩ : ByteArray), (⟨#[101, 105, 103, 104, 116]⟩ : ByteArray), (⟨#[116, 104, 105, 114, 116, 101, 101, 110]⟩ : ByteArray), (⟨#[115, 101, 118, 101, 110, 116, 101, 101, 110]⟩ : ByteArray), (⟨#[115, 105, 120, 116, 101, 101, 110]⟩ : ByteArray)]
theorem spec_l01Names_ac : AC Tryz.prog 72 [] [] (fun res H' => res = [.vec 0 0] ∧ H' = [.vec 0 (stsD (spec_l01Names))]) := by
 refine AC_of_body true Tryz.func72 rfl Tryz.ntmps72 (rvs := [.tmp 0]) rfl rfl (fun G hG => ?_)
 have hm : G.H.length = 0 := by rw [hG]; rfl
 have hz : zeroG G.H = true := by rw [hG]; rfl
 obtain ⟨r, h⟩ : ∃ r, spec_l01Names = r := ⟨_, rfl⟩
 rw [h]
 unfold spec_l01Names at h
 refine kR ?_
 refine kN 1 rfl ?_
 refine kR ?_
 refine AOps_buildSlice 1 _ _ _ [_, _, _, _, _] (stsD ([(⟨#[112, 101, 110, 116, 97, 103, 111, 110]⟩ : ByteArray), (⟨#[101, 105, 103, 104, 116]⟩ : ByteArray), (⟨#[116, 104, 105, 114, 116, 101, 101, 110]⟩ : ByteArray), (⟨#[115, 101, 118, 101, 110, 116, 101, 101, 110]⟩ : ByteArray), (⟨#[115, 105, 120, 116, 101, 101, 110]⟩ : ByteArray)])) _ rfl rfl rfl rfl rfl (by decide) Tryz.underlying92 Tryz.sizeOf9 (zero_of Tryz.typeInfo9 rfl) rfl rfl (stsD_one _) ?_
 refine kN 1 rfl ?_
 refine ACode_ret ?_
 cases h
 exact ⟨_, _, Weak_reset 0 hm hz [0] _ _ rfl rfl, _, _, [0], _, (.cons (ResV_tmp _ _ rfl) .nil), rfl, rfl, rfl, rfl, rfl⟩

def spec_l01Edge (p0 : Int) (p1 : Int) : Int :=
 (if decide (p1 < p0) then w64 ((w64 ((w64 (p0 * (w64 (p0 - 1)))).tdiv 2)) + p1) else w64 ((w64 ((w64 (p1 * (w64 (p1 - 1)))).tdiv 2)) + p0))
theorem spec_l01Edge_ac (p0 : Int) (p1 : Int) : AC Tryz.prog 71 [iV p0, iV p1] [] (fun res H' => res = [iV (spec_l01Edge p0 p1)] ∧ H' = []) := by
 refine AC_of_body true Tryz.func71 rfl Tryz.ntmps71 (rvs := [.tmp 4]) rfl rfl (fun G hG => ?_)
 have hm : G.H.length = 0 := by rw [hG]; rfl
 have hz : zeroG G.H = true := by rw [hG]; rfl
 obtain ⟨r, h⟩ : ∃ r, spec_l01Edge p0 p1 = r := ⟨_, rfl⟩
 rw [h]
 unfold spec_l01Edge at h
 refine kR ?_
 refine kN 1 rfl ?_
 refine ACode_seq ?_
 refine kR ?_
 refine kM 2 rfl ?_
 refine AOps_q 7 _ rfl rfl rfl (QOp_gtr _ _ _ _ _ _ _ rfl rfl rfl) ?_
 refine AOps_nil ?_
 refine kI h rfl (fun h _ => ?_) (fun h _ => ?_)
 ·refine kR ?_
  refine kM 2 rfl ?_
  refine AOps_q 10 _ rfl rfl rfl (QOp_sub _ _ _ _ _ _ _ rfl rfl rfl) ?_
  refine AOps_q 11 _ rfl rfl rfl (QOp_mul _ _ _ _ _ _ _ rfl rfl rfl) ?_
  refine AOps_q 12 _ rfl rfl rfl (QOp_quo _ _ _ _ _ _ _ (by decide) rfl rfl rfl) ?_
  refine kM 1 rfl ?_
  refine AOps_q 14 _ rfl rfl rfl (QOp_add _ _ _ _ _ _ _ rfl rfl rfl) ?_
  refine kN 1 rfl ?_
  refine ACode_ret ?_
  cases h
  exact ⟨_, _, fun r a w h => ⟨r, h⟩, _, _, [], _, (.cons (ResV_tmp _ _ rfl) .nil), rfl, rfl, rfl, rfl, rfl⟩
 refine ACode_skip ?_
 refine kR ?_
 refine kM 2 rfl ?_
 refine AOps_q 17 _ rfl rfl rfl (QOp_sub _ _ _ _ _ _ _ rfl rfl rfl) ?_
 refine AOps_q 18 _ rfl rfl rfl (QOp_mul _ _ _ _ _ _ _ rfl rfl rfl) ?_
 refine AOps_q 19 _ rfl rfl rfl (QOp_quo _ _ _ _ _ _ _ (by decide) rfl rfl rfl) ?_
 refine kM 1 rfl ?_
 refine AOps_q 21 _ rfl rfl rfl (QOp_add _ _ _ _ _ _ _ rfl rfl rfl) ?_
 refine kN 1 rfl ?_
 refine ACode_ret ?_
 cases h
 exact ⟨_, _, fun r a w h => ⟨r, h⟩, _, _, [], _, (.cons (ResV_tmp _ _ rfl) .nil), rfl, rfl, rfl, rfl, rfl⟩

def spec_l01Circle_l2 (p1 : List Int) (x1 : Int) (x4 : Int) : Nat → UInt8 → Int → Option (UInt8)
 | 0, _, _ => none
 | k2 + 1, x7, x8 => (if decide (x8 < (p1.length : Int)) then ((if 0 ≤ x8 ∧ x8 < (p1.length : Int) then (if decide ((p1.getD x8.toNat 0) = w64 (x1 - x4)) then some (0 : UInt8) else some x7) else none) : Option (UInt8)).bind fun s12 => spec_l01Circle_l2 p1 x1 x4 k2 s12 (w64 (x8 + 1)) else some x7)
def spec_l01Circle_l1 (k : Nat) (p1 : List Int) (x1 : Int) : Nat → Int → Col → Option (Col)
 | 0, _, _ => none
 | k1 + 1, x4, x5 => (if decide (x4 < x1) then ((spec_l01Circle_l2 p1 x1 x4 k (1 : UInt8) 0 : Option (UInt8)).bind fun s13 => (if 0 ≤ (spec_l01Edge x4 x1) ∧ (spec_l01Edge x4 x1) < 136 then some (x5.set ((spec_l01Edge x4 x1).toNat) s13) else none) : Option (Col)).bind fun s16 => spec_l01Circle_l1 k p1 x1 k1 (w64 (x4 + 1)) s16 else some x5)
def spec_l01Circle_l0 (k : Nat) (p0 : Int) (p1 : List Int) : Nat → Int → Col → Option (Col)
 | 0, _, _ => none
 | k0 + 1, x1, x2 => (if decide (x1 < p0) then (spec_l01Circle_l1 k p1 x1 k 0 x2 : Option (Col)).bind fun s17 => spec_l01Circle_l0 k p0 p1 k0 (w64 (x1 + 1)) s17 else some x2)
def spec_l01Circle (k : Nat) (p0 : Int) (p1 : List Int) : Option (Col) :=
 (spec_l01Circle_l0 k p0 p1 k 1 (⟨p0, 2, B136.zero⟩ : Col) : Option (Col)).bind fun s18 => some s18
theorem spec_l01Circle_ac (k : Nat) (p0 : Int) (p1 : List Int) (r : Col) (h : spec_l01Circle k p0 p1 = some r) : AC Tryz.prog 88 [iV p0, .d (.sl none (intsD p1))] [] (fun res H' => res = [.d (.agg (colD r))] ∧ H' = []) := by
 refine AC_of_body true Tryz.func88 rfl Tryz.ntmps88 (rvs := [.cell 4 26]) rfl rfl (fun G hG => ?_)
 have hm : G.H.length = 0 := by rw [hG]; rfl
 have hz : zeroG G.H = true := by rw [hG]; rfl
 unfold spec_l01Circle at h
 refine kR ?_
 refine AOps_alloc 4 _ _ (colD Col.zero) (zero_of Tryz.typeInfo26 rfl) (by rfl) rfl rfl rfl rfl ?_
 refine AOps_nil ?_
 refine kR ?_
 refine kM 1 rfl ?_
 refine AOps_q 11 _ rfl rfl rfl (QOp_build _ _ [_, _] [0, 1] [iD p0, iD 2] _ (colD Col.zero) (colD (⟨p0, 2, B136.zero⟩ : Col)) [(0, 1), (1, 1), (2, 136)] rfl rfl Tryz.underlying26 (zero_of Tryz.typeInfo26 rfl) (fun w => by simp [Tryz.sizeOf2, Tryz.sizeOf2, Tryz.sizeOf24]) rfl (by rfl) (by rfl) (allc (ok1 rfl) (allc (ok1 rfl) (fun _ h => nomatch h)))) ?_
 refine AOps_alloc 5 _ _ (colD Col.zero) (zero_of Tryz.typeInfo26 rfl) (by rfl) rfl rfl rfl rfl ?_
 refine AOps_store _ _ _ _ _ _ (colD _) _ _ rfl rfl rfl rfl rfl rfl rfl (colD_one _) (by rw [colD_length]; exact Tryz.sizeOf26) (by rw [colD_length, colD_length]; decide) (colD_whole _ _) ?_
 refine AOps_nil ?_
 refine kB (fun s18 => [(4, .ptr 0 0), (5, .ptr 1 0)]) (fun s18 => [.box (colD Col.zero), .box (colD s18)]) h (fun s18 h => ?_) (fun s18 h => ?_)
 ·refine kR ?_
  refine kN 1 rfl ?_
  refine ACode_block ?_
  refine ACode_loopW (fun k0 E H => ∃ (x1 : Int) (x2 : Col), E = [(0, iV p0), (1, .d (.sl none (intsD p1))), (4, .ptr 0 0), (5, .ptr 1 0), (6, iV x1)] ∧ H = [.box (colD Col.zero), .box (colD x2)] ∧ spec_l01Circle_l0 k p0 p1 k0 x1 x2 = some s18) k _ _ (Weak_keep 0 hm [0, 1, 4, 5, 6] [0, 1] _ _ rfl rfl rfl) ⟨_, _, rfl, rfl, h⟩ ?_
  clear h
  rintro k0 E H ⟨x1, x2, rfl, rfl, h⟩
  cases k0 with
  | zero => cases (show (none : Option (Col)) = some _ from h)
  | succ k0 =>
   rw [spec_l01Circle_l0] at h
   refine ACode_seq ?_
   refine kR ?_
   refine kM 2 rfl ?_
   refine AOps_q 14 _ rfl rfl rfl (QOp_lss _ _ _ _ _ _ _ rfl rfl rfl) ?_
   refine AOps_nil ?_
   refine kI h rfl (fun h _ => ?_) (fun h _ => ?_)
   ·refine ACode_skip ?_
    refine kB (fun s17 => [(0, iV p0), (1, .d (.sl none (intsD p1))), (4, .ptr 0 0), (5, .ptr 1 0), (6, iV x1)]) (fun s17 => [.box (colD Col.zero), .box (colD s17)]) h (fun s17 h => ?_) (fun s17 h => ?_)
    ·refine ACode_block ?_
     refine kR ?_
     refine kN 1 rfl ?_
     refine ACode_block ?_
     refine ACode_loopW (fun k1 E H => ∃ (x4 : Int) (x5 : Col), E = [(0, iV p0), (1, .d (.sl none (intsD p1))), (4, .ptr 0 0), (5, .ptr 1 0), (6, iV x1), (7, iV x4)] ∧ H = [.box (colD Col.zero), .box (colD x5)] ∧ spec_l01Circle_l1 k p1 x1 k1 x4 x5 = some s17) k _ _ (Weak_keep 0 hm [0, 1, 4, 5, 6, 7] [0, 1] _ _ rfl rfl rfl) ⟨_, _, rfl, rfl, h⟩ ?_
     clear h
     rintro k1 E H ⟨x4, x5, rfl, rfl, h⟩
     cases k1 with
     | zero => cases (show (none : Option (Col)) = some _ from h)
     | succ k1 =>
      rw [spec_l01Circle_l1] at h
      refine ACode_seq ?_
      refine kR ?_
      refine kM 2 rfl ?_
      refine AOps_q 19 _ rfl rfl rfl (QOp_lss _ _ _ _ _ _ _ rfl rfl rfl) ?_
      refine AOps_nil ?_
      refine kI h rfl (fun h _ => ?_) (fun h _ => ?_)
      ·refine ACode_skip ?_
       refine kB (fun s16 => [(0, iV p0), (1, .d (.sl none (intsD p1))), (4, .ptr 0 0), (5, .ptr 1 0), (6, iV x1), (7, iV x4)]) (fun s16 => [.box (colD Col.zero), .box (colD s16)]) h (fun s16 h => ?_) (fun s16 h => ?_)
       ·refine ACode_block ?_
        refine kR ?_
        refine kN 1 rfl ?_
        refine kB (fun s13 => [(0, iV p0), (1, .d (.sl none (intsD p1))), (4, .ptr 0 0), (5, .ptr 1 0), (6, iV x1), (7, iV x4), (8, .d (uD s13))]) (fun s13 => [.box (colD Col.zero), .box (colD x5)]) h (fun s13 h => ?_) (fun s13 h => ?_)
        ·refine kR ?_
         refine kN 1 rfl ?_
         refine ACode_block ?_
         refine ACode_loopW (fun k2 E H => ∃ (x7 : UInt8) (x8 : Int), E = [(0, iV p0), (1, .d (.sl none (intsD p1))), (4, .ptr 0 0), (5, .ptr 1 0), (6, iV x1), (7, iV x4), (8, .d (uD x7)), (9, iV x8)] ∧ H = [.box (colD Col.zero), .box (colD x5)] ∧ spec_l01Circle_l2 p1 x1 x4 k2 x7 x8 = some s13) k _ _ (Weak_keep 0 hm [0, 1, 4, 5, 6, 7, 8, 9] [0, 1] _ _ rfl rfl rfl) ⟨_, _, rfl, rfl, h⟩ ?_
         clear h
         rintro k2 E H ⟨x7, x8, rfl, rfl, h⟩
         cases k2 with
         | zero => cases (show (none : Option (UInt8)) = some _ from h)
         | succ k2 =>
          rw [spec_l01Circle_l2] at h
          refine ACode_seq ?_
          refine kR ?_
          refine kM 2 rfl ?_
          refine AOps_q 24 _ rfl rfl rfl (QOp_len_sl _ _ _ _ _ _ _ (intsD_length _) rfl rfl rfl rfl Tryz.underlying40 rfl) ?_
          refine AOps_q 25 _ rfl rfl rfl (QOp_lss _ _ _ _ _ _ _ rfl rfl rfl) ?_
          refine AOps_nil ?_
          refine kI h rfl (fun h _ => ?_) (fun h _ => ?_)
          ·refine ACode_skip ?_
           refine kB (fun s12 => [(0, iV p0), (1, .d (.sl none (intsD p1))), (4, .ptr 0 0), (5, .ptr 1 0), (6, iV x1), (7, iV x4), (8, .d (uD s12)), (9, iV x8)]) (fun s12 => [.box (colD Col.zero), .box (colD x5)]) h (fun s12 h => ?_) (fun s12 h => ?_)
           ·refine ACode_block ?_
            refine kR ?_
            refine kM 2 rfl ?_
            obtain ⟨hc10, h⟩ := guardO h
            refine AOps_q 30 _ rfl rfl rfl (QOp_indexAddr_sl _ _ _ _ _ _ _ _ rfl Tryz.underlying40 Tryz.sizeOf2 hc10.1 (by rw [intsD_length]; exact hc10.2) rfl rfl) ?_
            refine AOps_q 31 _ rfl rfl rfl (QOp_load_pv _ _ _ _ _ rfl Tryz.isAgg2 rfl (intsD_get _ _ 0 (by omega))) ?_
            refine kM 2 rfl ?_
            refine AOps_q 34 _ rfl rfl rfl (QOp_sub _ _ _ _ _ _ _ rfl rfl rfl) ?_
            refine AOps_q 35 _ rfl rfl rfl (QOp_eql _ _ _ _ _ _ _ rfl rfl rfl) ?_
            refine AOps_nil ?_
            refine kI h rfl (fun h _ => ?_) (fun h _ => ?_)
            ·refine (ACode_region ?_)
             refine kN 1 rfl ?_
             cases h
             exact Weak_keep 0 hm [0, 1, 4, 5, 6, 7, 8, 9] [0, 1] _ _ rfl rfl rfl
            refine ACode_skip ?_
            cases h
            exact Weak_keep 0 hm [0, 1, 4, 5, 6, 7, 8, 9] [0, 1] _ _ rfl rfl rfl
           refine (ACode_region ?_)
           refine kM 1 rfl ?_
           refine AOps_q 27 _ rfl rfl rfl (QOp_add _ _ _ _ _ _ _ rfl rfl rfl) ?_
           refine kN 1 rfl ?_
           exact ⟨k2, _, _, Nat.lt_succ_self _, Weak_keep 0 hm [0, 1, 4, 5, 6, 7, 8, 9] [0, 1] _ _ rfl rfl rfl, _, _, rfl, rfl, h⟩
          refine ACode_exit ?_
          cases h
          exact Weak_keep 0 hm [0, 1, 4, 5, 6, 7, 8] [0, 1] _ _ rfl rfl rfl
        refine (ACode_region ?_)
        refine kM 2 rfl ?_
        refine kC [] 38 (iV (spec_l01Edge x4 x1)) [.box (colD Col.zero), .box (colD x5)] rfl Tryz.call71 rfl rfl (spec_l01Edge_ac x4 x1) rfl ?_
        refine kM 1 rfl ?_
        refine AOps_q 40 _ rfl rfl rfl (QOp_fieldAddr_ptr _ _ _ _ _ _ 2 _ _ rfl Tryz.underlying26 rfl _ Tryz.sizeOf24 rfl rfl rfl rfl) ?_
        obtain ⟨hc15, h⟩ := guardO h
        refine AOps_q 41 _ rfl rfl rfl (QOp_indexAddrA_ptr _ _ _ _ _ _ _ _ _ _ rfl Tryz.underlying24 Tryz.sizeOf5 hc15.1 hc15.2 rfl rfl rfl rfl) ?_
        refine AOps_store1 _ _ _ _ _ _ (colD (x5.set ((spec_l01Edge x4 x1).toNat) s13)) _ rfl rfl rfl rfl rfl rfl rfl Tryz.sizeOf5 (by rw [colD_length]; omega) (colD_setE x5 ((spec_l01Edge x4 x1).toNat) s13) ?_
        refine AOps_nil ?_
        cases h
        exact Weak_keep 0 hm [0, 1, 4, 5, 6, 7] [0, 1] _ _ rfl rfl rfl
       refine (ACode_region ?_)
       refine kM 1 rfl ?_
       refine AOps_q 21 _ rfl rfl rfl (QOp_add _ _ _ _ _ _ _ rfl rfl rfl) ?_
       refine kN 1 rfl ?_
       exact ⟨k1, _, _, Nat.lt_succ_self _, Weak_keep 0 hm [0, 1, 4, 5, 6, 7] [0, 1] _ _ rfl rfl rfl, _, _, rfl, rfl, h⟩
      refine ACode_exit ?_
      cases h
      exact Weak_keep 0 hm [0, 1, 4, 5, 6] [0, 1] _ _ rfl rfl rfl
    refine (ACode_region ?_)
    refine kM 1 rfl ?_
    refine AOps_q 16 _ rfl rfl rfl (QOp_add _ _ _ _ _ _ _ rfl rfl rfl) ?_
    refine kN 1 rfl ?_
    exact ⟨k0, _, _, Nat.lt_succ_self _, Weak_keep 0 hm [0, 1, 4, 5, 6] [0, 1] _ _ rfl rfl rfl, _, _, rfl, rfl, h⟩
   refine ACode_exit ?_
   cases h
   exact Weak_keep 0 hm [4, 5] [0, 1] _ _ rfl rfl rfl
 refine kR ?_
 refine AOps_q 42 _ rfl rfl rfl (QOp_loadN_ptr _ _ _ _ _ _ _ rfl Tryz.isAgg26 Tryz.sizeOf26 rfl rfl (colD_all _) (colD_length _)) ?_
 refine AOps_store _ _ _ _ _ _ (colD _) _ _ rfl rfl rfl rfl rfl rfl rfl (colD_one _) (by rw [colD_length]; exact Tryz.sizeOf26) (by rw [colD_length, colD_length]; decide) (colD_whole _ _) ?_
 refine AOps_nil ?_
 refine ACode_ret ?_
 cases h
 exact ⟨_, _, fun r a w h => ⟨r, h⟩, _, _, [], _, (.cons (ResV_agg _ _ _ _ _ _ Tryz.isAgg26 Tryz.sizeOf26 rfl rfl (colD_take _) (colD_length _)) .nil), rfl, rfl, rfl, rfl, rfl⟩

def spec_l01Named_l1 (x10 : Int) : Nat → Int → Col → Option (Col)
 | 0, _, _ => none
 | k1 + 1, x13, x14 => (if decide (x13 < x10) then (if 0 ≤ bXor .i64 x13 x10 ∧ bXor .i64 x13 x10 < (([0, 0, 1, 1, 2, 2, 2, 1, 0, 2, 0, 1, 0, 1, 2, 0]).length : Int) then (if 0 ≤ (spec_l01Edge x13 x10) ∧ (spec_l01Edge x13 x10) < 136 then spec_l01Named_l1 x10 k1 (w64 (x13 + 1)) (x14.set ((spec_l01Edge x13 x10).toNat) (([0, 0, 1, 1, 2, 2, 2, 1, 0, 2, 0, 1, 0, 1, 2, 0]).getD (bXor .i64 x13 x10).toNat 0)) else none) else none) else some x14)
def spec_l01Named_l0 (k : Nat) : Nat → Int → Col → Option (Col)
 | 0, _, _ => none
 | k0 + 1, x10, x11 => (if decide (x10 < 16) then (spec_l01Named_l1 x10 k 0 x11 : Option (Col)).bind fun s19 => spec_l01Named_l0 k k0 (w64 (x10 + 1)) s19 else some x11)
def spec_l01Named (k : Nat) (p0 : ByteArray) : Option (Col × Bool) :=
 ((if (p0 == (⟨#[112, 101, 110, 116, 97, 103, 111, 110]⟩ : ByteArray)) then (spec_l01Circle k 5 ([1, 4])).bind fun r2 => some (.inr (r2, true)) else (if (p0 == (⟨#[101, 105, 103, 104, 116]⟩ : ByteArray)) then (spec_l01Circle k 8 ([1, 4, 7])).bind fun r4 => some (.inr (r4, true)) else (if (p0 == (⟨#[116, 104, 105, 114, 116, 101, 101, 110]⟩ : ByteArray)) then (spec_l01Circle k 13 ([1, 5, 8, 12])).bind fun r6 => some (.inr (r6, true)) else (if (p0 == (⟨#[115, 101, 118, 101, 110, 116, 101, 101, 110]⟩ : ByteArray)) then (spec_l01Circle k 17 ([1, 2, 4, 8, 9, 13, 15, 16])).bind fun r8 => some (.inr (r8, true)) else (if (p0 == (⟨#[115, 105, 120, 116, 101, 101, 110]⟩ : ByteArray)) then (spec_l01Named_l0 k k 1 (⟨16, 3, B136.zero⟩ : Col) : Option (Col)).bind fun s20 => some (.inr (s20, true)) else some (.inl ())))))) : Option (Sum (Unit) (Col × Bool))).bind fun os21 => (match os21 with | .inl s21 => some ((⟨0, 0, B136.zero⟩ : Col), false) | .inr rr => some rr)
theorem spec_l01Named_ac (k : Nat) (p0 : ByteArray) (r : Col × Bool) (h : spec_l01Named k p0 = some r) : AC Tryz.prog 60 [.d (.s (.string p0))] [] (fun res H' => res = [.d (.agg (colD r.1)), bV r.2] ∧ H' = []) := by
 refine AC_of_body true Tryz.func60 rfl Tryz.ntmps60 (rvs := [.cell 2 26, .tmp 3]) rfl rfl (fun G hG => ?_)
 have hm : G.H.length = 0 := by rw [hG]; rfl
 have hz : zeroG G.H = true := by rw [hG]; rfl
 unfold spec_l01Named at h
 refine kR ?_
 refine AOps_alloc 2 _ _ (colD Col.zero) (zero_of Tryz.typeInfo26 rfl) (by rfl) rfl rfl rfl rfl ?_
 refine kN 1 rfl ?_
 refine kO (fun s21 => [(2, .ptr 0 0)]) (fun s21 => [.box (colD Col.zero)]) h (fun os21 h hks21 => ?_) (fun s21 h => ?_)
 ·refine kR ?_
  refine kN 1 rfl ?_
  refine ACode_block ?_
  refine kR ?_
  refine AOps_q 10 _ rfl rfl rfl (QOp_seq _ _ _ _ _ _ rfl rfl rfl Tryz.underlying9) ?_
  refine kN 1 rfl ?_
  refine kI h rfl (fun h _ => ?_) (fun h _ => ?_)
  ·refine kR ?_
   refine AOps_buildSlice 11 _ _ _ [_, _] (intsD ([1, 4])) _ rfl rfl rfl rfl rfl (by decide) Tryz.underlying40 Tryz.sizeOf2 (zero_of Tryz.typeInfo2 rfl) rfl rfl (intsD_one _) ?_
   obtain ⟨r2, hr2, h⟩ := bindO h
   refine AOps_callL [] 12 _ _ _ _ _ _ _ _ _ _ rfl rfl rfl rfl rfl rfl rfl Tryz.call88 rfl (nodupB_sound _ rfl) rfl rfl rfl (spec_l01Circle_ac k 5 ([1, 4]) _ hr2) ?_
   rintro _ _ ⟨rfl, rfl⟩
   refine ⟨(fun _ h => nomatch h), (allc (flat_agg (colD_flat _)) (fun _ h => nomatch h)), AOps_as 12 (v' := .d (.agg (colD r2))) (H' := [.box (colD Col.zero), .vec 0 (intsD ([1, 4]))]) rfl rfl ?_⟩
   refine AOps_store _ _ _ _ _ _ (colD _) _ _ rfl rfl rfl rfl rfl rfl rfl (colD_one _) (by rw [colD_length]; exact Tryz.sizeOf26) (by rw [colD_length, colD_length]; decide) (colD_whole _ _) ?_
   refine kN 1 rfl ?_
   refine ACode_ret ?_
   cases h
   have h := hks21
   cases h
   exact ⟨_, _, fun r a w h => ⟨r, h⟩, _, _, [], _, (.cons (ResV_agg _ _ _ _ _ _ Tryz.isAgg26 Tryz.sizeOf26 rfl rfl (colD_take _) (colD_length _)) (.cons (ResV_tmp _ _ rfl) .nil)), rfl, rfl, rfl, rfl, rfl⟩
  refine kR ?_
  refine AOps_q 14 _ rfl rfl rfl (QOp_seq _ _ _ _ _ _ rfl rfl rfl Tryz.underlying9) ?_
  refine kN 1 rfl ?_
  refine kI h rfl (fun h _ => ?_) (fun h _ => ?_)
  ·refine kR ?_
   refine AOps_buildSlice 15 _ _ _ [_, _, _] (intsD ([1, 4, 7])) _ rfl rfl rfl rfl rfl (by decide) Tryz.underlying40 Tryz.sizeOf2 (zero_of Tryz.typeInfo2 rfl) rfl rfl (intsD_one _) ?_
   obtain ⟨r4, hr4, h⟩ := bindO h
   refine AOps_callL [] 16 _ _ _ _ _ _ _ _ _ _ rfl rfl rfl rfl rfl rfl rfl Tryz.call88 rfl (nodupB_sound _ rfl) rfl rfl rfl (spec_l01Circle_ac k 8 ([1, 4, 7]) _ hr4) ?_
   rintro _ _ ⟨rfl, rfl⟩
   refine ⟨(fun _ h => nomatch h), (allc (flat_agg (colD_flat _)) (fun _ h => nomatch h)), AOps_as 16 (v' := .d (.agg (colD r4))) (H' := [.box (colD Col.zero), .vec 0 (intsD ([1, 4, 7]))]) rfl rfl ?_⟩
   refine AOps_store _ _ _ _ _ _ (colD _) _ _ rfl rfl rfl rfl rfl rfl rfl (colD_one _) (by rw [colD_length]; exact Tryz.sizeOf26) (by rw [colD_length, colD_length]; decide) (colD_whole _ _) ?_
   refine kN 1 rfl ?_
   refine ACode_ret ?_
   cases h
   have h := hks21
   cases h
   exact ⟨_, _, fun r a w h => ⟨r, h⟩, _, _, [], _, (.cons (ResV_agg _ _ _ _ _ _ Tryz.isAgg26 Tryz.sizeOf26 rfl rfl (colD_take _) (colD_length _)) (.cons (ResV_tmp _ _ rfl) .nil)), rfl, rfl, rfl, rfl, rfl⟩
  refine kR ?_
  refine AOps_q 18 _ rfl rfl rfl (QOp_seq _ _ _ _ _ _ rfl rfl rfl Tryz.underlying9) ?_
  refine kN 1 rfl ?_
  refine kI h rfl (fun h _ => ?_) (fun h _ => ?_)
  ·refine kR ?_
   refine AOps_buildSlice 19 _ _ _ [_, _, _, _] (intsD ([1, 5, 8, 12])) _ rfl rfl rfl rfl rfl (by decide) Tryz.underlying40 Tryz.sizeOf2 (zero_of Tryz.typeInfo2 rfl) rfl rfl (intsD_one _) ?_
   obtain ⟨r6, hr6, h⟩ := bindO h
   refine AOps_callL [] 20 _ _ _ _ _ _ _ _ _ _ rfl rfl rfl rfl rfl rfl rfl Tryz.call88 rfl (nodupB_sound _ rfl) rfl rfl rfl (spec_l01Circle_ac k 13 ([1, 5, 8, 12]) _ hr6) ?_
   rintro _ _ ⟨rfl, rfl⟩
   refine ⟨(fun _ h => nomatch h), (allc (flat_agg (colD_flat _)) (fun _ h => nomatch h)), AOps_as 20 (v' := .d (.agg (colD r6))) (H' := [.box (colD Col.zero), .vec 0 (intsD ([1, 5, 8, 12]))]) rfl rfl ?_⟩
   refine AOps_store _ _ _ _ _ _ (colD _) _ _ rfl rfl rfl rfl rfl rfl rfl (colD_one _) (by rw [colD_length]; exact Tryz.sizeOf26) (by rw [colD_length, colD_length]; decide) (colD_whole _ _) ?_
   refine kN 1 rfl ?_
   refine ACode_ret ?_
   cases h
   have h := hks21
   cases h
   exact ⟨_, _, fun r a w h => ⟨r, h⟩, _, _, [], _, (.cons (ResV_agg _ _ _ _ _ _ Tryz.isAgg26 Tryz.sizeOf26 rfl rfl (colD_take _) (colD_length _)) (.cons (ResV_tmp _ _ rfl) .nil)), rfl, rfl, rfl, rfl, rfl⟩
  refine kR ?_
  refine AOps_q 22 _ rfl rfl rfl (QOp_seq _ _ _ _ _ _ rfl rfl rfl Tryz.underlying9) ?_
  refine kN 1 rfl ?_
  refine kI h rfl (fun h _ => ?_) (fun h _ => ?_)
  ·refine kR ?_
   refine AOps_buildSlice 23 _ _ _ [_, _, _, _, _, _, _, _] (intsD ([1, 2, 4, 8, 9, 13, 15, 16])) _ rfl rfl rfl rfl rfl (by decide) Tryz.underlying40 Tryz.sizeOf2 (zero_of Tryz.typeInfo2 rfl) rfl rfl (intsD_one _) ?_
   obtain ⟨r8, hr8, h⟩ := bindO h
   refine AOps_callL [] 24 _ _ _ _ _ _ _ _ _ _ rfl rfl rfl rfl rfl rfl rfl Tryz.call88 rfl (nodupB_sound _ rfl) rfl rfl rfl (spec_l01Circle_ac k 17 ([1, 2, 4, 8, 9, 13, 15, 16]) _ hr8) ?_
   rintro _ _ ⟨rfl, rfl⟩
   refine ⟨(fun _ h => nomatch h), (allc (flat_agg (colD_flat _)) (fun _ h => nomatch h)), AOps_as 24 (v' := .d (.agg (colD r8))) (H' := [.box (colD Col.zero), .vec 0 (intsD ([1, 2, 4, 8, 9, 13, 15, 16]))]) rfl rfl ?_⟩
   refine AOps_store _ _ _ _ _ _ (colD _) _ _ rfl rfl rfl rfl rfl rfl rfl (colD_one _) (by rw [colD_length]; exact Tryz.sizeOf26) (by rw [colD_length, colD_length]; decide) (colD_whole _ _) ?_
   refine kN 1 rfl ?_
   refine ACode_ret ?_
   cases h
   have h := hks21
   cases h
   exact ⟨_, _, fun r a w h => ⟨r, h⟩, _, _, [], _, (.cons (ResV_agg _ _ _ _ _ _ Tryz.isAgg26 Tryz.sizeOf26 rfl rfl (colD_take _) (colD_length _)) (.cons (ResV_tmp _ _ rfl) .nil)), rfl, rfl, rfl, rfl, rfl⟩
  refine kR ?_
  refine AOps_q 26 _ rfl rfl rfl (QOp_seq _ _ _ _ _ _ rfl rfl rfl Tryz.underlying9) ?_
  refine kN 1 rfl ?_
  refine kI h rfl (fun h _ => ?_) (fun h _ => ?_)
  ·refine kR ?_
   refine AOps_buildSlice 27 _ _ _ [_, _, _, _, _, _, _, _, _, _, _, _, _, _, _, _] (bysD ([0, 0, 1, 1, 2, 2, 2, 1, 0, 2, 0, 1, 0, 1, 2, 0])) _ rfl rfl rfl rfl rfl (by decide) Tryz.underlying22 Tryz.sizeOf5 (zero_of Tryz.typeInfo5 rfl) rfl rfl (bysD_one _) ?_
   refine kN 1 rfl ?_
   refine kR ?_
   refine AOps_q 28 _ rfl rfl rfl (QOp_build _ _ [_, _] [0, 1] [iD 16, iD 3] _ (colD Col.zero) (colD (⟨16, 3, B136.zero⟩ : Col)) [(0, 1), (1, 1), (2, 136)] rfl rfl Tryz.underlying26 (zero_of Tryz.typeInfo26 rfl) (fun w => by simp [Tryz.sizeOf2, Tryz.sizeOf2, Tryz.sizeOf24]) rfl (by rfl) (by rfl) (allc (ok1 rfl) (allc (ok1 rfl) (fun _ h => nomatch h)))) ?_
   refine AOps_alloc 5 _ _ (colD Col.zero) (zero_of Tryz.typeInfo26 rfl) (by rfl) rfl rfl rfl rfl ?_
   refine AOps_store _ _ _ _ _ _ (colD _) _ _ rfl rfl rfl rfl rfl rfl rfl (colD_one _) (by rw [colD_length]; exact Tryz.sizeOf26) (by rw [colD_length, colD_length]; decide) (colD_whole _ _) ?_
   refine AOps_nil ?_
   refine kB (fun s20 => [(2, .ptr 0 0), (5, .ptr 1 0)]) (fun s20 => [.box (colD Col.zero), .box (colD s20)]) h (fun s20 h => ?_) (fun s20 h => ?_)
   ·refine kR ?_
    refine kN 1 rfl ?_
    refine ACode_block ?_
    refine ACode_loopW (fun k0 E H => ∃ (x10 : Int) (x11 : Col), E = [(2, .ptr 0 0), (4, .vec 1 0), (5, .ptr 2 0), (6, iV x10)] ∧ H = [.box (colD Col.zero), .vec 0 (bysD ([0, 0, 1, 1, 2, 2, 2, 1, 0, 2, 0, 1, 0, 1, 2, 0])), .box (colD x11)] ∧ spec_l01Named_l0 k k0 x10 x11 = some s20) k _ _ (Weak_keep 0 hm [2, 4, 5, 6] [0, 1, 2] _ _ rfl rfl rfl) ⟨_, _, rfl, rfl, h⟩ ?_
    clear h
    rintro k0 E H ⟨x10, x11, rfl, rfl, h⟩
    cases k0 with
    | zero => cases (show (none : Option (Col)) = some _ from h)
    | succ k0 =>
     rw [spec_l01Named_l0] at h
     refine ACode_seq ?_
     refine kR ?_
     refine kM 1 rfl ?_
     refine AOps_q 30 _ rfl rfl rfl (QOp_lss _ _ _ _ _ _ _ rfl rfl rfl) ?_
     refine AOps_nil ?_
     refine kI h rfl (fun h _ => ?_) (fun h _ => ?_)
     ·refine ACode_skip ?_
      refine kB (fun s19 => [(2, .ptr 0 0), (4, .vec 1 0), (5, .ptr 2 0), (6, iV x10)]) (fun s19 => [.box (colD Col.zero), .vec 0 (bysD ([0, 0, 1, 1, 2, 2, 2, 1, 0, 2, 0, 1, 0, 1, 2, 0])), .box (colD s19)]) h (fun s19 h => ?_) (fun s19 h => ?_)
      ·refine ACode_block ?_
       refine kR ?_
       refine kN 1 rfl ?_
       refine ACode_block ?_
       refine ACode_loopW (fun k1 E H => ∃ (x13 : Int) (x14 : Col), E = [(2, .ptr 0 0), (4, .vec 1 0), (5, .ptr 2 0), (6, iV x10), (7, iV x13)] ∧ H = [.box (colD Col.zero), .vec 0 (bysD ([0, 0, 1, 1, 2, 2, 2, 1, 0, 2, 0, 1, 0, 1, 2, 0])), .box (colD x14)] ∧ spec_l01Named_l1 x10 k1 x13 x14 = some s19) k _ _ (Weak_keep 0 hm [2, 4, 5, 6, 7] [0, 1, 2] _ _ rfl rfl rfl) ⟨_, _, rfl, rfl, h⟩ ?_
       clear h
       rintro k1 E H ⟨x13, x14, rfl, rfl, h⟩
       cases k1 with
       | zero => cases (show (none : Option (Col)) = some _ from h)
       | succ k1 =>
        rw [spec_l01Named_l1] at h
        refine ACode_seq ?_
        refine kR ?_
        refine kM 2 rfl ?_
        refine AOps_q 35 _ rfl rfl rfl (QOp_lss _ _ _ _ _ _ _ rfl rfl rfl) ?_
        refine AOps_nil ?_
        refine kI h rfl (fun h _ => ?_) (fun h _ => ?_)
        ·refine ACode_skip ?_
         refine ACode_seq ?_
         refine ACode_block ?_
         refine (ACode_last (l := [_, _, _, _, _, _, _, _, _, _, _]) mixed (by kernel_rfl) (by kernel_rfl) ?_)
         refine kQ 2 rfl ?_
         refine AQ_call 40 _ _ _ _ _ _ _ _ _ rfl rfl rfl rfl rfl rfl rfl Tryz.call71 rfl rfl rfl (spec_l01Edge_ac x13 x10) ?_
         refine kQ 3 rfl ?_
         refine AQ_q 44 _ rfl rfl rfl (QOp_xor _ _ _ _ _ _ _ rfl rfl rfl) ?_
         obtain ⟨hc17, h⟩ := guardO h
         refine AQ_q 45 _ rfl rfl rfl (QOp_indexAddr_vec _ _ _ _ _ _ _ _ _ rfl Tryz.underlying22 Tryz.sizeOf5 hc17.1 (by rw [bysD_length]; exact hc17.2) rfl rfl rfl) ?_
         refine AQ_q 46 _ rfl rfl rfl (QOp_load_eptr _ _ _ _ _ _ _ rfl Tryz.isAgg5 rfl rfl (bysD_get _ _ 0 (by omega))) ?_
         refine AQ_q 47 _ rfl rfl rfl (QOp_fieldAddr_ptr _ _ _ _ _ _ 2 _ _ rfl Tryz.underlying26 rfl _ Tryz.sizeOf24 rfl rfl rfl rfl) ?_
         obtain ⟨hc18, h⟩ := guardO h
         refine AQ_q 48 _ rfl rfl rfl (QOp_indexAddrA_ptr _ _ _ _ _ _ _ _ _ _ rfl Tryz.underlying24 Tryz.sizeOf5 hc18.1 hc18.2 rfl rfl rfl rfl) ?_
         refine AQ_nil ?_
         refine AOps_store1 _ _ _ _ _ _ (colD (x14.set ((spec_l01Edge x13 x10).toNat) (([0, 0, 1, 1, 2, 2, 2, 1, 0, 2, 0, 1, 0, 1, 2, 0]).getD (bXor .i64 x13 x10).toNat 0))) _ rfl rfl rfl rfl rfl rfl rfl Tryz.sizeOf5 (by rw [colD_length]; omega) (colD_setE x14 ((spec_l01Edge x13 x10).toNat) (([0, 0, 1, 1, 2, 2, 2, 1, 0, 2, 0, 1, 0, 1, 2, 0]).getD (bXor .i64 x13 x10).toNat 0)) ?_
         refine AOps_nil ?_
         refine (ACode_region ?_)
         refine kM 1 rfl ?_
         refine AOps_q 37 _ rfl rfl rfl (QOp_add _ _ _ _ _ _ _ rfl rfl rfl) ?_
         refine kN 1 rfl ?_
         exact ⟨k1, _, _, Nat.lt_succ_self _, Weak_keep 0 hm [2, 4, 5, 6, 7] [0, 1, 2] _ _ rfl rfl rfl, _, _, rfl, rfl, h⟩
        refine ACode_exit ?_
        cases h
        exact Weak_keep 0 hm [2, 4, 5, 6] [0, 1, 2] _ _ rfl rfl rfl
      refine (ACode_region ?_)
      refine kM 1 rfl ?_
      refine AOps_q 32 _ rfl rfl rfl (QOp_add _ _ _ _ _ _ _ rfl rfl rfl) ?_
      refine kN 1 rfl ?_
      exact ⟨k0, _, _, Nat.lt_succ_self _, Weak_keep 0 hm [2, 4, 5, 6] [0, 1, 2] _ _ rfl rfl rfl, _, _, rfl, rfl, h⟩
     refine ACode_exit ?_
     cases h
     exact Weak_keep 0 hm [2, 5] [0, 2] _ _ rfl rfl rfl
   refine kR ?_
   refine AOps_q 49 _ rfl rfl rfl (QOp_loadN_ptr _ _ _ _ _ _ _ rfl Tryz.isAgg26 Tryz.sizeOf26 rfl rfl (colD_all _) (colD_length _)) ?_
   refine AOps_store _ _ _ _ _ _ (colD _) _ _ rfl rfl rfl rfl rfl rfl rfl (colD_one _) (by rw [colD_length]; exact Tryz.sizeOf26) (by rw [colD_length, colD_length]; decide) (colD_whole _ _) ?_
   refine kN 1 rfl ?_
   refine ACode_ret ?_
   cases h
   have h := hks21
   cases h
   exact ⟨_, _, fun r a w h => ⟨r, h⟩, _, _, [], _, (.cons (ResV_agg _ _ _ _ _ _ Tryz.isAgg26 Tryz.sizeOf26 rfl rfl (colD_take _) (colD_length _)) (.cons (ResV_tmp _ _ rfl) .nil)), rfl, rfl, rfl, rfl, rfl⟩
  refine ACode_skip ?_
  cases h
  exact ⟨_, rfl, Weak_keep 0 hm [2] [0] _ _ rfl rfl rfl⟩
 refine kR ?_
 refine AOps_q 50 _ rfl rfl rfl (QOp_build _ _ [] [] [] _ (colD Col.zero) (colD (⟨0, 0, B136.zero⟩ : Col)) [(0, 1), (1, 1), (2, 136)] rfl rfl Tryz.underlying26 (zero_of Tryz.typeInfo26 rfl) (fun w => by simp [Tryz.sizeOf2, Tryz.sizeOf2, Tryz.sizeOf24]) rfl (by rfl) (by rfl) (fun _ h => nomatch h)) ?_
 refine AOps_store _ _ _ _ _ _ (colD _) _ _ rfl rfl rfl rfl rfl rfl rfl (colD_one _) (by rw [colD_length]; exact Tryz.sizeOf26) (by rw [colD_length, colD_length]; decide) (colD_whole _ _) ?_
 refine kN 1 rfl ?_
 refine ACode_ret ?_
 cases h
 exact ⟨_, _, fun r a w h => ⟨r, h⟩, _, _, [], _, (.cons (ResV_agg _ _ _ _ _ _ Tryz.isAgg26 Tryz.sizeOf26 rfl rfl (colD_take _) (colD_length _)) (.cons (ResV_tmp _ _ rfl) .nil)), rfl, rfl, rfl, rfl, rfl⟩

def spec_l01Own (p0 : List Int) : Option (List Int) :=
 (if ([] : List Int).length + p0.length ≤ 1099511627776 then some (([] : List Int) ++ p0) else none)
theorem spec_l01Own_ac (p0 : List Int) (r : List Int) (h : spec_l01Own p0 = some r) : AC Tryz.prog 69 [.d (.sl none (intsD p0))] [] (fun res H' => res = [.vec 0 0] ∧ H' = [.vec 0 (intsD r)]) := by
 refine AC_of_body true Tryz.func69 rfl Tryz.ntmps69 (rvs := [.tmp 2]) rfl rfl (fun G hG => ?_)
 have hm : G.H.length = 0 := by rw [hG]; rfl
 have hz : zeroG G.H = true := by rw [hG]; rfl
 unfold spec_l01Own at h
 refine kR ?_
 refine kN 1 rfl ?_
 refine kR ?_
 refine AOps_buildSlice 3 _ _ _ [] (intsD ([] : List Int)) _ rfl rfl rfl rfl rfl (by decide) Tryz.underlying40 Tryz.sizeOf2 (zero_of Tryz.typeInfo2 rfl) rfl rfl (intsD_one _) ?_
 refine kM 1 rfl ?_
 obtain ⟨hc1, h⟩ := guardO h
 refine AOps_append 5 _ _ _ _ _ _ _ _ _ _ _ _ rfl rfl rfl rfl rfl rfl rfl Tryz.underlying40 Tryz.type2 rfl rfl rfl (by decide) rfl rfl rfl rfl (intsD_one _) (by rw [intsD_length, intsD_length]; exact hc1) ?_
 rw [intsD_app]
 refine kN 1 rfl ?_
 refine ACode_ret ?_
 cases h
 exact ⟨_, _, Weak_reset 0 hm hz [2] _ _ rfl rfl, _, _, [0], _, (.cons (ResV_tmp _ _ rfl) .nil), rfl, rfl, rfl, rfl, rfl⟩

def spec_l01DrawOrder_l0 (p1 : Int) : Nat → Int → Src → (List Int) → Option (Src × List Int)
 | 0, _, _, _ => none
 | k0 + 1, x1, x2, x3 => (if decide (x1 < p1) then (spec_l01Next x2 (w64 (x1 + 1))).bind fun r5 => (if 0 ≤ 0 ∧ 0 ≤ r5.1 ∧ r5.1 ≤ ((x3.length : Nat) : Int) then (if 0 ≤ r5.1 ∧ r5.1 ≤ ((x3.length : Nat) : Int) ∧ ((x3.length : Nat) : Int) ≤ ((x3.length : Nat) : Int) then (spec_l01Own ((x3.drop 0).take (r5.1.toNat - 0))).bind fun r10 => (if r10.length + ([x1]).length ≤ 1099511627776 then (if (r10 ++ ([x1])).length + ((x3.drop r5.1.toNat).take (x3.length - r5.1.toNat)).length ≤ 1099511627776 then spec_l01DrawOrder_l0 p1 k0 (w64 (x1 + 1)) r5.2 ((r10 ++ ([x1])) ++ ((x3.drop r5.1.toNat).take (x3.length - r5.1.toNat))) else none) else none) else none) else none) else some (x2, x3))
def spec_l01DrawOrder (k : Nat) (p0 : Src) (p1 : Int) : Option (List Int × Src) :=
 (spec_l01DrawOrder_l0 p1 k 0 p0 ([] : List Int) : Option (Src × List Int)).bind fun s13 => some (s13.2, s13.1)
theorem spec_l01DrawOrder_ac (k : Nat) (p0 : Src) (p1 : Int) (r : List Int × Src) (h : spec_l01DrawOrder k p0 p1 = some r) : AC Tryz.prog 61 [.ptr 0 0, iV p1] [.box (srcD p0)] (fun res H' => res = [.vec 1 0] ∧ H' = [.box (srcD r.2), .vec 0 (intsD r.1)]) := by
 refine AC_of_body true Tryz.func61 rfl Tryz.ntmps61 (rvs := [.tmp 4]) rfl rfl (fun G hG => ?_)
 have hm : G.H.length = 1 := by rw [hG]; rfl
 have hz : zeroG G.H = true := by rw [hG]; rfl
 unfold spec_l01DrawOrder at h
 refine kR ?_
 refine kN 1 rfl ?_
 refine kR ?_
 refine AOps_buildSlice 8 _ _ _ [] (intsD ([] : List Int)) _ rfl rfl rfl rfl rfl (by decide) Tryz.underlying40 Tryz.sizeOf2 (zero_of Tryz.typeInfo2 rfl) rfl rfl (intsD_one _) ?_
 refine kN 1 rfl ?_
 refine kB (fun s13 => [(5, .vec 1 0)]) (fun s13 => [.box (srcD s13.1), .vec 0 (intsD s13.2)]) h (fun s13 h => ?_) (fun s13 h => ?_)
 ·refine kR ?_
  refine kN 1 rfl ?_
  refine ACode_block ?_
  refine ACode_loopW (fun k0 E H => ∃ (x1 : Int) (x2 : Src) (x3 : List Int), E = [(0, .ptr 0 0), (1, iV p1), (5, .vec 1 0), (6, iV x1)] ∧ H = [.box (srcD x2), .vec 0 (intsD x3)] ∧ spec_l01DrawOrder_l0 p1 k0 x1 x2 x3 = some s13) k _ _ (Weak_keep 1 hm [0, 1, 5, 6] [1] _ _ rfl rfl rfl) ⟨_, _, _, rfl, rfl, h⟩ ?_
  clear h
  rintro k0 E H ⟨x1, x2, x3, rfl, rfl, h⟩
  cases k0 with
  | zero => cases (show (none : Option (Src × List Int)) = some _ from h)
  | succ k0 =>
   rw [spec_l01DrawOrder_l0] at h
   refine ACode_seq ?_
   refine kR ?_
   refine kM 2 rfl ?_
   refine AOps_q 11 _ rfl rfl rfl (QOp_lss _ _ _ _ _ _ _ rfl rfl rfl) ?_
   refine AOps_nil ?_
   refine kI h rfl (fun h _ => ?_) (fun h _ => ?_)
   ·refine ACode_skip ?_
    refine ACode_seq ?_
    refine ACode_block ?_
    refine kR ?_
    refine kM 2 rfl ?_
    refine AOps_q 16 _ rfl rfl rfl (QOp_add _ _ _ _ _ _ _ rfl rfl rfl) ?_
    obtain ⟨r5, hr5, h⟩ := bindO h
    refine kC [0] 17 (iV r5.1) [.box (srcD r5.2), .vec 0 (intsD x3)] rfl Tryz.call23 rfl rfl (spec_l01Next_ac x2 (w64 (x1 + 1)) _ hr5) rfl ?_
    refine kN 1 rfl ?_
    obtain ⟨hc7, h⟩ := guardO h
    obtain ⟨hc9, h⟩ := guardO h
    obtain ⟨r10, hr10, h⟩ := bindO h
    obtain ⟨hc11, h⟩ := guardO h
    obtain ⟨hc12, h⟩ := guardO h
    refine ACode_reg [(0, .ptr 0 0), (1, iV p1), (5, .vec 1 0), (6, iV x1)] [.box (srcD r5.2), .vec 0 (intsD ((r10 ++ ([x1])) ++ ((x3.drop r5.1.toNat).take (x3.length - r5.1.toNat))))] ?_ ?_
    ·refine ACode_anyU mixed ?_
     refine AU_cut 3 #[true, true, true, true, true, true, false, true, true, true, false, false] [(0, .ptr 0 0), (1, iV p1), (5, .vec 1 0), (6, iV x1), (21, .vec 2 0), (23, .vec 3 0), (27, .part 1 0 r5.1.toNat (x3.length - r5.1.toNat))] [.box (srcD r5.2), .vec 0 (intsD x3), .vec 0 (intsD r10), .vec 0 (intsD ([x1]))] ?_ (fun hS0 => ?_)
     ·refine AU_one 6 (by kernel_rfl) rfl rfl ?_
      refine AOps_append 24 _ _ _ _ _ _ _ _ _ _ _ _ rfl rfl rfl rfl rfl rfl rfl Tryz.underlying40 Tryz.type2 rfl rfl rfl (by decide) rfl rfl rfl rfl (intsD_one _) (by rw [intsD_length, intsD_length]; exact hc11) ?_
      rw [intsD_app]
      refine AOps_nil ?_
      refine AU_one 10 (by kernel_rfl) rfl rfl ?_
      refine AOps_append 28 _ _ _ _ _ _ _ _ _ _ _ _ rfl rfl rfl rfl rfl rfl rfl Tryz.underlying40 Tryz.type2 rfl rfl rfl (by decide) rfl rfl rfl rfl (by rw [← intsD_dt]; exact intsD_one _) (by rw [← intsD_dt, intsD_length, intsD_length]; exact hc12) ?_
      rw [← intsD_dt, intsD_app]
      refine AOps_nil ?_
      refine AU_u 11 5 _ rfl (by kernel_rfl) rfl rfl rfl (UOp_assign _ _ rfl rfl) ?_
      refine AU_done (by kernel_rfl) ?_
      exact ⟨rfl, Weak_trans (Weak_keep 1 hm [0, 1, 5, 6] [2] _ _ rfl rfl rfl) (Weak_reset 1 hm hz [0, 1, 5, 6] _ _ rfl rfl)⟩
     refine AU_u 0 18 _ rfl (by kernel_rfl) rfl rfl rfl (UOp_move _ _ rfl rfl) ?_
     refine AU_u 1 19 _ rfl (by kernel_rfl) rfl rfl rfl (UOp_move _ _ rfl rfl) ?_
     refine AU_u 2 20 _ rfl (by kernel_rfl) rfl rfl rfl (UOp_cut _ _ _ _ _ _ _ _ _ _ _ (0) (r5.1.toNat) rfl Tryz.underlying40 Tryz.sizeOf2 rfl rfl rfl rfl (by exact ⟨_, by rw [Int.toNat_of_nonneg (by omega)]; rfl⟩) (by omega) (by rw [intsD_length]; omega) _ (Nat.zero_add _) _ rfl) ?_
     refine AU_u 4 22 _ rfl (by kernel_rfl) rfl rfl rfl (UOp_move _ _ rfl rfl) ?_
     refine AU_u 7 25 _ rfl (by kernel_rfl) rfl rfl rfl (UOp_move _ _ rfl rfl) ?_
     refine AU_u 8 26 _ rfl (by kernel_rfl) rfl rfl rfl (UOp_move _ _ rfl rfl) ?_
     refine AU_u 9 27 _ rfl (by kernel_rfl) rfl rfl rfl (UOp_cut _ _ _ _ _ _ _ _ _ _ _ (r5.1.toNat) (x3.length) rfl Tryz.underlying40 Tryz.sizeOf2 rfl rfl rfl (by exact ⟨_, by rw [Int.toNat_of_nonneg (by omega)]; rfl⟩) (intsD_length _).symm (by omega) (by rw [intsD_length]; omega) _ (Nat.zero_add _) _ rfl) ?_
     refine AU_all [3, 5] (by kernel_rfl) rfl (allc ?_ (allc ?_ (fun _ h => nomatch h)))
     ·refine US_of 3 rfl rfl ?_
      refine AOps_callL [] 21 _ _ _ _ _ _ _ _ _ _ rfl rfl rfl rfl rfl rfl rfl Tryz.call69 rfl (nodupB_sound _ rfl) rfl rfl rfl (by have q := spec_l01Own_ac ((x3.drop 0).take (r5.1.toNat - 0)) _ hr10; simp only [intsD_dt] at q; exact q) ?_
      rintro _ _ ⟨rfl, rfl⟩
      refine ⟨(allc (intsD_flat _) (fun _ h => nomatch h)), (allc (trivial) (fun _ h => nomatch h)), AOps_as 21 (v' := .vec 2 0) (H' := [.box (srcD r5.2), .vec 0 (intsD x3), .vec 0 (intsD r10)]) rfl rfl ?_⟩
      refine AOps_nil ?_
      refine AU_one 5 (by kernel_rfl) rfl rfl ?_
      refine AOps_buildSlice 23 _ _ _ [_] (intsD ([x1])) _ rfl rfl rfl rfl rfl (by decide) Tryz.underlying40 Tryz.sizeOf2 (zero_of Tryz.typeInfo2 rfl) rfl rfl (intsD_one _) ?_
      refine AOps_nil ?_
      exact AU_to (by kernel_rfl) hS0 (Weak_keep 1 hm [0, 1, 5, 6, 21, 23, 27] [1, 2, 3] _ _ rfl rfl rfl)
     refine US_of 5 rfl rfl ?_
     refine AOps_buildSlice 23 _ _ _ [_] (intsD ([x1])) _ rfl rfl rfl rfl rfl (by decide) Tryz.underlying40 Tryz.sizeOf2 (zero_of Tryz.typeInfo2 rfl) rfl rfl (intsD_one _) ?_
     refine AOps_nil ?_
     refine AU_one 3 (by kernel_rfl) rfl rfl ?_
     refine AOps_callL [] 21 _ _ _ _ _ _ _ _ _ _ rfl rfl rfl rfl rfl rfl rfl Tryz.call69 rfl (nodupB_sound _ rfl) rfl rfl rfl (by have q := spec_l01Own_ac ((x3.drop 0).take (r5.1.toNat - 0)) _ hr10; simp only [intsD_dt] at q; exact q) ?_
     rintro _ _ ⟨rfl, rfl⟩
     refine ⟨(allc (intsD_flat _) (fun _ h => nomatch h)), (allc (trivial) (fun _ h => nomatch h)), AOps_as 21 (v' := .vec 3 0) (H' := [.box (srcD r5.2), .vec 0 (intsD x3), .vec 0 (intsD ([x1])), .vec 0 (intsD r10)]) rfl rfl ?_⟩
     refine AOps_nil ?_
     exact AU_to (by kernel_rfl) hS0 (Weak_keep 1 hm [0, 1, 5, 6, 21, 23, 27] [1, 3, 2] _ _ rfl rfl rfl)
    refine (ACode_region ?_)
    refine kM 1 rfl ?_
    refine AOps_q 13 _ rfl rfl rfl (QOp_add _ _ _ _ _ _ _ rfl rfl rfl) ?_
    refine kN 1 rfl ?_
    exact ⟨k0, _, _, Nat.lt_succ_self _, Weak_keep 1 hm [0, 1, 5, 6] [1] _ _ rfl rfl rfl, _, _, _, rfl, rfl, h⟩
   refine ACode_exit ?_
   cases h
   exact Weak_keep 1 hm [5] [1] _ _ rfl rfl rfl
 refine kR ?_
 refine kN 2 rfl ?_
 refine ACode_ret ?_
 cases h
 exact ⟨_, _, Weak_reset 1 hm hz [4] _ _ rfl rfl, _, _, [1], _, (.cons (ResV_tmp _ _ rfl) .nil), rfl, rfl, rfl, rfl, rfl⟩

def spec_l01At (p0 : Col) (p1 : Int) (p2 : Int) : Option (Int) :=
 (if 0 ≤ (spec_l01Edge p1 p2) ∧ (spec_l01Edge p1 p2) < 136 then some ((p0.get ((spec_l01Edge p1 p2).toNat)).toNat : Int) else none)
theorem spec_l01At_ac (p0 : Col) (p1 : Int) (p2 : Int) (r : Int) (h : spec_l01At p0 p1 p2 = some r) : AC Tryz.prog 70 [.d (.agg (colD p0)), iV p1, iV p2] [] (fun res H' => res = [iV r] ∧ H' = []) := by
 refine AC_of_body true Tryz.func70 rfl Tryz.ntmps70 (rvs := [.tmp 6]) rfl rfl (fun G hG => ?_)
 have hm : G.H.length = 0 := by rw [hG]; rfl
 have hz : zeroG G.H = true := by rw [hG]; rfl
 unfold spec_l01At at h
 refine kR ?_
 refine AOps_boxI 3 _ _ (.agg (colD p0)) (colD p0) rfl (colD_one _) rfl rfl rfl rfl rfl ?_
 refine kN 1 rfl ?_
 refine kR ?_
 refine kM 2 rfl ?_
 refine kC [] 9 (iV (spec_l01Edge p1 p2)) [] rfl Tryz.call71 rfl rfl (spec_l01Edge_ac p1 p2) rfl ?_
 refine AOps_q 10 _ rfl rfl rfl (QOp_fieldAddr_pv _ _ _ _ _ 2 _ _ rfl Tryz.underlying26 rfl _ Tryz.sizeOf24 rfl rfl) ?_
 obtain ⟨hc2, h⟩ := guardO h
 refine AOps_q 11 _ rfl rfl rfl (QOp_indexAddrA_pv _ _ _ _ _ _ _ _ _ rfl Tryz.underlying24 Tryz.sizeOf5 hc2.1 hc2.2 rfl rfl) ?_
 refine AOps_q 12 _ rfl rfl rfl (QOp_load_pv _ _ _ _ _ rfl Tryz.isAgg5 rfl (colD_get _ _ (by omega))) ?_
 refine AOps_q 13 _ rfl rfl rfl (QOp_fromByte _ _ _ _ _ rfl rfl Tryz.underlying2 wrap_i64_byte rfl) ?_
 refine kN 1 rfl ?_
 refine ACode_ret ?_
 cases h
 exact ⟨_, _, fun r a w h => ⟨r, h⟩, _, _, [], _, (.cons (ResV_tmp _ _ rfl) .nil), rfl, rfl, rfl, rfl, rfl⟩

def spec_l01Renamed_l1 (p0 : Col) (p1 : List Int) (x1 : Int) : Nat → Int → Col → Option (Col)
 | 0, _, _ => none
 | k1 + 1, x4, x5 => (if decide (x4 < x1) then (if 0 ≤ x4 ∧ x4 < (p1.length : Int) then (if 0 ≤ x1 ∧ x1 < (p1.length : Int) then (spec_l01At p0 x4 x1).bind fun r10 => (if 0 ≤ (spec_l01Edge (p1.getD x4.toNat 0) (p1.getD x1.toNat 0)) ∧ (spec_l01Edge (p1.getD x4.toNat 0) (p1.getD x1.toNat 0)) < 136 then spec_l01Renamed_l1 p0 p1 x1 k1 (w64 (x4 + 1)) (x5.set ((spec_l01Edge (p1.getD x4.toNat 0) (p1.getD x1.toNat 0)).toNat) (toByte r10)) else none) else none) else none) else some x5)
def spec_l01Renamed_l0 (k : Nat) (p0 : Col) (p1 : List Int) : Nat → Int → Col → Option (Col)
 | 0, _, _ => none
 | k0 + 1, x1, x2 => (if decide (x1 < p0.p) then (spec_l01Renamed_l1 p0 p1 x1 k 0 x2 : Option (Col)).bind fun s12 => spec_l01Renamed_l0 k p0 p1 k0 (w64 (x1 + 1)) s12 else some x2)
def spec_l01Renamed (k : Nat) (p0 : Col) (p1 : List Int) : Option (Col) :=
 (spec_l01Renamed_l0 k p0 p1 k 1 (⟨p0.p, p0.k, B136.zero⟩ : Col) : Option (Col)).bind fun s13 => some s13
theorem spec_l01Renamed_ac (k : Nat) (p0 : Col) (p1 : List Int) (r : Col) (h : spec_l01Renamed k p0 p1 = some r) : AC Tryz.prog 34 [.d (.agg (colD p0)), .d (.sl none (intsD p1))] [] (fun res H' => res = [.d (.agg (colD r))] ∧ H' = []) := by
 refine AC_of_body true Tryz.func34 rfl Tryz.ntmps34 (rvs := [.cell 4 26]) rfl rfl (fun G hG => ?_)
 have hm : G.H.length = 0 := by rw [hG]; rfl
 have hz : zeroG G.H = true := by rw [hG]; rfl
 unfold spec_l01Renamed at h
 refine kR ?_
 refine AOps_boxI 2 _ _ (.agg (colD p0)) (colD p0) rfl (colD_one _) rfl rfl rfl rfl rfl ?_
 refine AOps_alloc 4 _ _ (colD Col.zero) (zero_of Tryz.typeInfo26 rfl) (by rfl) rfl rfl rfl rfl ?_
 refine AOps_nil ?_
 refine kR ?_
 refine AOps_q 8 _ rfl rfl rfl (QOp_fieldAddr_pv _ _ _ _ _ 0 _ _ rfl Tryz.underlying26 rfl _ Tryz.sizeOf2 rfl rfl) ?_
 refine AOps_q 9 _ rfl rfl rfl (QOp_load_pv _ _ _ _ _ rfl Tryz.isAgg2 rfl rfl) ?_
 refine AOps_q 10 _ rfl rfl rfl (QOp_fieldAddr_pv _ _ _ _ _ 1 _ _ rfl Tryz.underlying26 rfl _ Tryz.sizeOf2 rfl rfl) ?_
 refine AOps_q 11 _ rfl rfl rfl (QOp_load_pv _ _ _ _ _ rfl Tryz.isAgg2 rfl rfl) ?_
 refine AOps_q 12 _ rfl rfl rfl (QOp_build _ _ [_, _] [0, 1] [iD p0.p, iD p0.k] _ (colD Col.zero) (colD (⟨p0.p, p0.k, B136.zero⟩ : Col)) [(0, 1), (1, 1), (2, 136)] rfl rfl Tryz.underlying26 (zero_of Tryz.typeInfo26 rfl) (fun w => by simp [Tryz.sizeOf2, Tryz.sizeOf2, Tryz.sizeOf24]) rfl (by rfl) (by rfl) (allc (ok1 rfl) (allc (ok1 rfl) (fun _ h => nomatch h)))) ?_
 refine AOps_alloc 5 _ _ (colD Col.zero) (zero_of Tryz.typeInfo26 rfl) (by rfl) rfl rfl rfl rfl ?_
 refine AOps_store _ _ _ _ _ _ (colD _) _ _ rfl rfl rfl rfl rfl rfl rfl (colD_one _) (by rw [colD_length]; exact Tryz.sizeOf26) (by rw [colD_length, colD_length]; decide) (colD_whole _ _) ?_
 refine AOps_nil ?_
 refine kB (fun s13 => [(4, .ptr 0 0), (5, .ptr 1 0)]) (fun s13 => [.box (colD Col.zero), .box (colD s13)]) h (fun s13 h => ?_) (fun s13 h => ?_)
 ·refine kR ?_
  refine kN 1 rfl ?_
  refine ACode_block ?_
  refine ACode_loopW (fun k0 E H => ∃ (x1 : Int) (x2 : Col), E = [(1, .d (.sl none (intsD p1))), (2, .d (.pv (colD p0) 0)), (4, .ptr 0 0), (5, .ptr 1 0), (6, iV x1)] ∧ H = [.box (colD Col.zero), .box (colD x2)] ∧ spec_l01Renamed_l0 k p0 p1 k0 x1 x2 = some s13) k _ _ (Weak_keep 0 hm [1, 2, 4, 5, 6] [0, 1] _ _ rfl rfl rfl) ⟨_, _, rfl, rfl, h⟩ ?_
  clear h
  rintro k0 E H ⟨x1, x2, rfl, rfl, h⟩
  cases k0 with
  | zero => cases (show (none : Option (Col)) = some _ from h)
  | succ k0 =>
   rw [spec_l01Renamed_l0] at h
   refine ACode_seq ?_
   refine kR ?_
   refine kM 1 rfl ?_
   refine AOps_q 14 _ rfl rfl rfl (QOp_fieldAddr_pv _ _ _ _ _ 0 _ _ rfl Tryz.underlying26 rfl _ Tryz.sizeOf2 rfl rfl) ?_
   refine AOps_q 15 _ rfl rfl rfl (QOp_load_pv _ _ _ _ _ rfl Tryz.isAgg2 rfl rfl) ?_
   refine AOps_q 16 _ rfl rfl rfl (QOp_lss _ _ _ _ _ _ _ rfl rfl rfl) ?_
   refine AOps_nil ?_
   refine kI h rfl (fun h _ => ?_) (fun h _ => ?_)
   ·refine ACode_skip ?_
    refine kB (fun s12 => [(1, .d (.sl none (intsD p1))), (2, .d (.pv (colD p0) 0)), (4, .ptr 0 0), (5, .ptr 1 0), (6, iV x1)]) (fun s12 => [.box (colD Col.zero), .box (colD s12)]) h (fun s12 h => ?_) (fun s12 h => ?_)
    ·refine ACode_block ?_
     refine kR ?_
     refine kN 1 rfl ?_
     refine ACode_block ?_
     refine ACode_loopW (fun k1 E H => ∃ (x4 : Int) (x5 : Col), E = [(1, .d (.sl none (intsD p1))), (2, .d (.pv (colD p0) 0)), (4, .ptr 0 0), (5, .ptr 1 0), (6, iV x1), (7, iV x4)] ∧ H = [.box (colD Col.zero), .box (colD x5)] ∧ spec_l01Renamed_l1 p0 p1 x1 k1 x4 x5 = some s12) k _ _ (Weak_keep 0 hm [1, 2, 4, 5, 6, 7] [0, 1] _ _ rfl rfl rfl) ⟨_, _, rfl, rfl, h⟩ ?_
     clear h
     rintro k1 E H ⟨x4, x5, rfl, rfl, h⟩
     cases k1 with
     | zero => cases (show (none : Option (Col)) = some _ from h)
     | succ k1 =>
      rw [spec_l01Renamed_l1] at h
      refine ACode_seq ?_
      refine kR ?_
      refine kM 2 rfl ?_
      refine AOps_q 21 _ rfl rfl rfl (QOp_lss _ _ _ _ _ _ _ rfl rfl rfl) ?_
      refine AOps_nil ?_
      refine kI h rfl (fun h _ => ?_) (fun h _ => ?_)
      ·refine ACode_skip ?_
       refine ACode_seq ?_
       refine ACode_block ?_
       refine (ACode_last (l := [_, _, _, _, _, _, _, _, _, _, _, _, _, _, _, _]) mixed (by kernel_rfl) (by kernel_rfl) ?_)
       refine kQ 2 rfl ?_
       obtain ⟨hc7, h⟩ := guardO h
       refine AQ_q 26 _ rfl rfl rfl (QOp_indexAddr_sl _ _ _ _ _ _ _ _ rfl Tryz.underlying40 Tryz.sizeOf2 hc7.1 (by rw [intsD_length]; exact hc7.2) rfl rfl) ?_
       refine AQ_q 27 _ rfl rfl rfl (QOp_load_pv _ _ _ _ _ rfl Tryz.isAgg2 rfl (intsD_get _ _ 0 (by omega))) ?_
       refine kQ 2 rfl ?_
       obtain ⟨hc8, h⟩ := guardO h
       refine AQ_q 30 _ rfl rfl rfl (QOp_indexAddr_sl _ _ _ _ _ _ _ _ rfl Tryz.underlying40 Tryz.sizeOf2 hc8.1 (by rw [intsD_length]; exact hc8.2) rfl rfl) ?_
       refine AQ_q 31 _ rfl rfl rfl (QOp_load_pv _ _ _ _ _ rfl Tryz.isAgg2 rfl (intsD_get _ _ 0 (by omega))) ?_
       refine AQ_call 32 _ _ _ _ _ _ _ _ _ rfl rfl rfl rfl rfl rfl rfl Tryz.call71 rfl rfl rfl (spec_l01Edge_ac (p1.getD x4.toNat 0) (p1.getD x1.toNat 0)) ?_
       refine AQ_q 33 _ rfl rfl rfl (QOp_loadN_pv _ _ _ _ _ _ rfl Tryz.isAgg26 Tryz.sizeOf26 rfl (colD_all _) (colD_length _)) ?_
       refine kQ 2 rfl ?_
       obtain ⟨r10, hr10, h⟩ := bindO h
       refine AQ_call 36 _ _ _ _ _ _ _ _ _ rfl rfl rfl rfl rfl rfl rfl Tryz.call70 rfl rfl rfl (spec_l01At_ac p0 x4 x1 _ hr10) ?_
       refine AQ_q 37 _ rfl rfl rfl (QOp_toByte _ _ _ _ _ rfl rfl Tryz.underlying5 rfl) ?_
       refine AQ_q 38 _ rfl rfl rfl (QOp_fieldAddr_ptr _ _ _ _ _ _ 2 _ _ rfl Tryz.underlying26 rfl _ Tryz.sizeOf24 rfl rfl rfl rfl) ?_
       obtain ⟨hc11, h⟩ := guardO h
       refine AQ_q 39 _ rfl rfl rfl (QOp_indexAddrA_ptr _ _ _ _ _ _ _ _ _ _ rfl Tryz.underlying24 Tryz.sizeOf5 hc11.1 hc11.2 rfl rfl rfl rfl) ?_
       refine AQ_nil ?_
       refine AOps_store1 _ _ _ _ _ _ (colD (x5.set ((spec_l01Edge (p1.getD x4.toNat 0) (p1.getD x1.toNat 0)).toNat) (toByte r10))) _ rfl rfl rfl rfl rfl rfl rfl Tryz.sizeOf5 (by rw [colD_length]; omega) (colD_setE x5 ((spec_l01Edge (p1.getD x4.toNat 0) (p1.getD x1.toNat 0)).toNat) (toByte r10)) ?_
       refine AOps_nil ?_
       refine (ACode_region ?_)
       refine kM 1 rfl ?_
       refine AOps_q 23 _ rfl rfl rfl (QOp_add _ _ _ _ _ _ _ rfl rfl rfl) ?_
       refine kN 1 rfl ?_
       exact ⟨k1, _, _, Nat.lt_succ_self _, Weak_keep 0 hm [1, 2, 4, 5, 6, 7] [0, 1] _ _ rfl rfl rfl, _, _, rfl, rfl, h⟩
      refine ACode_exit ?_
      cases h
      exact Weak_keep 0 hm [1, 2, 4, 5, 6] [0, 1] _ _ rfl rfl rfl
    refine (ACode_region ?_)
    refine kM 1 rfl ?_
    refine AOps_q 18 _ rfl rfl rfl (QOp_add _ _ _ _ _ _ _ rfl rfl rfl) ?_
    refine kN 1 rfl ?_
    exact ⟨k0, _, _, Nat.lt_succ_self _, Weak_keep 0 hm [1, 2, 4, 5, 6] [0, 1] _ _ rfl rfl rfl, _, _, rfl, rfl, h⟩
   refine ACode_exit ?_
   cases h
   exact Weak_keep 0 hm [4, 5] [0, 1] _ _ rfl rfl rfl
 refine kR ?_
 refine AOps_q 40 _ rfl rfl rfl (QOp_loadN_ptr _ _ _ _ _ _ _ rfl Tryz.isAgg26 Tryz.sizeOf26 rfl rfl (colD_all _) (colD_length _)) ?_
 refine AOps_store _ _ _ _ _ _ (colD _) _ _ rfl rfl rfl rfl rfl rfl rfl (colD_one _) (by rw [colD_length]; exact Tryz.sizeOf26) (by rw [colD_length, colD_length]; decide) (colD_whole _ _) ?_
 refine AOps_nil ?_
 refine ACode_ret ?_
 cases h
 exact ⟨_, _, fun r a w h => ⟨r, h⟩, _, _, [], _, (.cons (ResV_agg _ _ _ _ _ _ Tryz.isAgg26 Tryz.sizeOf26 rfl rfl (colD_take _) (colD_length _)) .nil), rfl, rfl, rfl, rfl, rfl⟩

def spec_l01With (p0 : Col) (p1 : Int) (p2 : Int) (p3 : Int) : Option (Col) :=
 (if 0 ≤ (spec_l01Edge p1 p2) ∧ (spec_l01Edge p1 p2) < 136 then some (p0.set ((spec_l01Edge p1 p2).toNat) (toByte p3)) else none)
theorem spec_l01With_ac (p0 : Col) (p1 : Int) (p2 : Int) (p3 : Int) (r : Col) (h : spec_l01With p0 p1 p2 p3 = some r) : AC Tryz.prog 87 [.d (.agg (colD p0)), iV p1, iV p2, iV p3] [] (fun res H' => res = [.d (.agg (colD r))] ∧ H' = []) := by
 refine AC_of_body true Tryz.func87 rfl Tryz.ntmps87 (rvs := [.cell 8 26]) rfl rfl (fun G hG => ?_)
 have hm : G.H.length = 0 := by rw [hG]; rfl
 have hz : zeroG G.H = true := by rw [hG]; rfl
 unfold spec_l01With at h
 refine kR ?_
 refine AOps_boxM 4 _ _ (.agg (colD p0)) (colD p0) rfl (colD_one _) rfl rfl rfl rfl rfl ?_
 refine AOps_alloc 8 _ _ (colD Col.zero) (zero_of Tryz.typeInfo26 rfl) (by rfl) rfl rfl rfl rfl ?_
 refine AOps_nil ?_
 refine kR ?_
 refine kM 2 rfl ?_
 refine kC [] 11 (iV (spec_l01Edge p1 p2)) [.box (colD p0), .box (colD Col.zero)] rfl Tryz.call71 rfl rfl (spec_l01Edge_ac p1 p2) rfl ?_
 refine kM 1 rfl ?_
 refine AOps_q 13 _ rfl rfl rfl (QOp_toByte _ _ _ _ _ rfl rfl Tryz.underlying5 rfl) ?_
 refine AOps_q 14 _ rfl rfl rfl (QOp_fieldAddr_ptr _ _ _ _ _ _ 2 _ _ rfl Tryz.underlying26 rfl _ Tryz.sizeOf24 rfl rfl rfl rfl) ?_
 obtain ⟨hc2, h⟩ := guardO h
 refine AOps_q 15 _ rfl rfl rfl (QOp_indexAddrA_ptr _ _ _ _ _ _ _ _ _ _ rfl Tryz.underlying24 Tryz.sizeOf5 hc2.1 hc2.2 rfl rfl rfl rfl) ?_
 refine AOps_store1 _ _ _ _ _ _ (colD (p0.set ((spec_l01Edge p1 p2).toNat) (toByte p3))) _ rfl rfl rfl rfl rfl rfl rfl Tryz.sizeOf5 (by rw [colD_length]; omega) (colD_setE p0 ((spec_l01Edge p1 p2).toNat) (toByte p3)) ?_
 refine AOps_nil ?_
 refine kR ?_
 refine AOps_q 16 _ rfl rfl rfl (QOp_loadN_ptr _ _ _ _ _ _ _ rfl Tryz.isAgg26 Tryz.sizeOf26 rfl rfl (colD_all _) (colD_length _)) ?_
 refine AOps_store _ _ _ _ _ _ (colD _) _ _ rfl rfl rfl rfl rfl rfl rfl (colD_one _) (by rw [colD_length]; exact Tryz.sizeOf26) (by rw [colD_length, colD_length]; decide) (colD_whole _ _) ?_
 refine AOps_nil ?_
 refine ACode_ret ?_
 cases h
 exact ⟨_, _, fun r a w h => ⟨r, h⟩, _, _, [], _, (.cons (ResV_agg _ _ _ _ _ _ Tryz.isAgg26 Tryz.sizeOf26 rfl rfl (colD_take _) (colD_length _)) .nil), rfl, rfl, rfl, rfl, rfl⟩

def spec_l01Pick (p0 : Src) (p1 : List Int) : Option (Int × Src) :=
 (spec_l01Next p0 (p1.length : Int)).bind fun r1 => (if 0 ≤ r1.1 ∧ r1.1 < (p1.length : Int) then some ((p1.getD r1.1.toNat 0), r1.2) else none)
theorem spec_l01Pick_ac (p0 : Src) (p1 : List Int) (r : Int × Src) (h : spec_l01Pick p0 p1 = some r) : AC Tryz.prog 59 [.ptr 0 0, .d (.sl none (intsD p1))] [.box (srcD p0)] (fun res H' => res = [iV r.1] ∧ H' = [.box (srcD r.2)]) := by
 refine AC_of_body true Tryz.func59 rfl Tryz.ntmps59 (rvs := [.tmp 4]) rfl rfl (fun G hG => ?_)
 have hm : G.H.length = 1 := by rw [hG]; rfl
 have hz : zeroG G.H = true := by rw [hG]; rfl
 unfold spec_l01Pick at h
 refine kR ?_
 refine kN 1 rfl ?_
 refine kR ?_
 refine kM 3 rfl ?_
 refine AOps_q 8 _ rfl rfl rfl (QOp_len_sl _ _ _ _ _ _ _ (intsD_length _) rfl rfl rfl rfl Tryz.underlying40 rfl) ?_
 obtain ⟨r1, hr1, h⟩ := bindO h
 refine kC [0] 9 (iV r1.1) [.box (srcD r1.2)] rfl Tryz.call23 rfl rfl (spec_l01Next_ac p0 (p1.length : Int) _ hr1) rfl ?_
 obtain ⟨hc2, h⟩ := guardO h
 refine AOps_q 10 _ rfl rfl rfl (QOp_indexAddr_sl _ _ _ _ _ _ _ _ rfl Tryz.underlying40 Tryz.sizeOf2 hc2.1 (by rw [intsD_length]; exact hc2.2) rfl rfl) ?_
 refine AOps_q 11 _ rfl rfl rfl (QOp_load_pv _ _ _ _ _ rfl Tryz.isAgg2 rfl (intsD_get _ _ 0 (by omega))) ?_
 refine kN 1 rfl ?_
 refine ACode_ret ?_
 cases h
 exact ⟨_, _, fun r a w h => ⟨r, h⟩, _, _, [], _, (.cons (ResV_tmp _ _ rfl) .nil), rfl, rfl, rfl, rfl, rfl⟩

def spec_l01DrawOf_l0 (p1 : Int) (p2 : Int) (r1 : Int × Src) : Nat → Int → Src → Col → Option (Src × Col)
 | 0, _, _, _ => none
 | k0 + 1, x2, x3, x4 => (if decide (x2 < w64 ((w64 (p1 * (w64 (p1 - 1)))).tdiv 2)) then ((spec_l01Next x3 p2).bind fun r6 => ((spec_l01Next r6.2 5).bind fun r7 => (if decide (r7.1 = 0) then some (r1.1, r7.2) else some (r6.1, r7.2)) : Option (Int × Src)).bind fun s9 => (if 0 ≤ x2 ∧ x2 < 136 then some (s9.2, x4.set x2.toNat (toByte s9.1)) else none) : Option (Src × Col)).bind fun s11 => spec_l01DrawOf_l0 p1 p2 r1 k0 (w64 (x2 + 1)) s11.1 s11.2 else some (x3, x4))
def spec_l01DrawOf (k : Nat) (p0 : Src) (p1 : Int) (p2 : Int) : Option (Col × Src) :=
 (spec_l01Next p0 p2).bind fun r1 => (spec_l01DrawOf_l0 p1 p2 r1 k 0 r1.2 (⟨p1, p2, B136.zero⟩ : Col) : Option (Src × Col)).bind fun s12 => some (s12.2, s12.1)
theorem spec_l01DrawOf_ac (k : Nat) (p0 : Src) (p1 : Int) (p2 : Int) (r : Col × Src) (h : spec_l01DrawOf k p0 p1 p2 = some r) : AC Tryz.prog 62 [.ptr 0 0, iV p1, iV p2] [.box (srcD p0)] (fun res H' => res = [.d (.agg (colD r.1))] ∧ H' = [.box (srcD r.2)]) := by
 refine AC_of_body true Tryz.func62 rfl Tryz.ntmps62 (rvs := [.cell 6 26]) rfl rfl (fun G hG => ?_)
 have hm : G.H.length = 1 := by rw [hG]; rfl
 have hz : zeroG G.H = true := by rw [hG]; rfl
 unfold spec_l01DrawOf at h
 refine kR ?_
 refine AOps_alloc 6 _ _ (colD Col.zero) (zero_of Tryz.typeInfo26 rfl) (by rfl) rfl rfl rfl rfl ?_
 refine AOps_nil ?_
 refine kR ?_
 refine kM 2 rfl ?_
 refine AOps_q 13 _ rfl rfl rfl (QOp_build _ _ [_, _] [0, 1] [iD p1, iD p2] _ (colD Col.zero) (colD (⟨p1, p2, B136.zero⟩ : Col)) [(0, 1), (1, 1), (2, 136)] rfl rfl Tryz.underlying26 (zero_of Tryz.typeInfo26 rfl) (fun w => by simp [Tryz.sizeOf2, Tryz.sizeOf2, Tryz.sizeOf24]) rfl (by rfl) (by rfl) (allc (ok1 rfl) (allc (ok1 rfl) (fun _ h => nomatch h)))) ?_
 refine kM 2 rfl ?_
 obtain ⟨r1, hr1, h⟩ := bindO h
 refine kC [0] 16 (iV r1.1) [.box (srcD r1.2), .box (colD Col.zero)] rfl Tryz.call23 rfl rfl (spec_l01Next_ac p0 p2 _ hr1) rfl ?_
 refine AOps_alloc 7 _ _ (colD Col.zero) (zero_of Tryz.typeInfo26 rfl) (by rfl) rfl rfl rfl rfl ?_
 refine AOps_store _ _ _ _ _ _ (colD _) _ _ rfl rfl rfl rfl rfl rfl rfl (colD_one _) (by rw [colD_length]; exact Tryz.sizeOf26) (by rw [colD_length, colD_length]; decide) (colD_whole _ _) ?_
 refine kN 1 rfl ?_
 refine kB (fun s12 => [(6, .ptr 1 0), (7, .ptr 2 0)]) (fun s12 => [.box (srcD s12.1), .box (colD Col.zero), .box (colD s12.2)]) h (fun s12 h => ?_) (fun s12 h => ?_)
 ·refine kR ?_
  refine kN 1 rfl ?_
  refine ACode_block ?_
  refine ACode_loopW (fun k0 E H => ∃ (x2 : Int) (x3 : Src) (x4 : Col), E = [(0, .ptr 0 0), (1, iV p1), (2, iV p2), (6, .ptr 1 0), (7, .ptr 2 0), (8, iV r1.1), (9, iV x2)] ∧ H = [.box (srcD x3), .box (colD Col.zero), .box (colD x4)] ∧ spec_l01DrawOf_l0 p1 p2 r1 k0 x2 x3 x4 = some s12) k _ _ (Weak_keep 1 hm [0, 1, 2, 6, 7, 8, 9] [1, 2] _ _ rfl rfl rfl) ⟨_, _, _, rfl, rfl, h⟩ ?_
  clear h
  rintro k0 E H ⟨x2, x3, x4, rfl, rfl, h⟩
  cases k0 with
  | zero => cases (show (none : Option (Src × Col)) = some _ from h)
  | succ k0 =>
   rw [spec_l01DrawOf_l0] at h
   refine ACode_seq ?_
   refine kR ?_
   refine kM 3 rfl ?_
   refine AOps_q 20 _ rfl rfl rfl (QOp_sub _ _ _ _ _ _ _ rfl rfl rfl) ?_
   refine AOps_q 21 _ rfl rfl rfl (QOp_mul _ _ _ _ _ _ _ rfl rfl rfl) ?_
   refine AOps_q 22 _ rfl rfl rfl (QOp_quo _ _ _ _ _ _ _ (by decide) rfl rfl rfl) ?_
   refine AOps_q 23 _ rfl rfl rfl (QOp_lss _ _ _ _ _ _ _ rfl rfl rfl) ?_
   refine AOps_nil ?_
   refine kI h rfl (fun h _ => ?_) (fun h _ => ?_)
   ·refine ACode_skip ?_
    refine kB (fun s11 => [(0, .ptr 0 0), (1, iV p1), (2, iV p2), (6, .ptr 1 0), (7, .ptr 2 0), (8, iV r1.1), (9, iV x2)]) (fun s11 => [.box (srcD s11.1), .box (colD Col.zero), .box (colD s11.2)]) h (fun s11 h => ?_) (fun s11 h => ?_)
    ·refine ACode_block ?_
     refine kR ?_
     refine kM 2 rfl ?_
     obtain ⟨r6, hr6, h⟩ := bindO h
     refine kC [0] 28 (iV r6.1) [.box (srcD r6.2), .box (colD Col.zero), .box (colD x4)] rfl Tryz.call23 rfl rfl (spec_l01Next_ac x3 p2 _ hr6) rfl ?_
     refine kN 1 rfl ?_
     refine kB (fun s9 => [(0, .ptr 0 0), (1, iV p1), (2, iV p2), (6, .ptr 1 0), (7, .ptr 2 0), (8, iV r1.1), (9, iV x2), (10, iV s9.1)]) (fun s9 => [.box (srcD s9.2), .box (colD Col.zero), .box (colD x4)]) h (fun s9 h => ?_) (fun s9 h => ?_)
     ·refine kR ?_
      refine kM 1 rfl ?_
      obtain ⟨r7, hr7, h⟩ := bindO h
      refine kC [0] 30 (iV r7.1) [.box (srcD r7.2), .box (colD Col.zero), .box (colD x4)] rfl Tryz.call23 rfl rfl (spec_l01Next_ac r6.2 5 _ hr7) rfl ?_
      refine AOps_q 31 _ rfl rfl rfl (QOp_eql _ _ _ _ _ _ _ rfl rfl rfl) ?_
      refine AOps_nil ?_
      refine kI h rfl (fun h _ => ?_) (fun h _ => ?_)
      ·refine (ACode_region ?_)
       refine kN 2 rfl ?_
       cases h
       exact Weak_keep 1 hm [0, 1, 2, 6, 7, 8, 9, 10] [1, 2] _ _ rfl rfl rfl
      refine ACode_skip ?_
      cases h
      exact Weak_keep 1 hm [0, 1, 2, 6, 7, 8, 9, 10] [1, 2] _ _ rfl rfl rfl
     refine (ACode_region ?_)
     refine kM 2 rfl ?_
     refine AOps_q 35 _ rfl rfl rfl (QOp_toByte _ _ _ _ _ rfl rfl Tryz.underlying5 rfl) ?_
     refine AOps_q 36 _ rfl rfl rfl (QOp_fieldAddr_ptr _ _ _ _ _ _ 2 _ _ rfl Tryz.underlying26 rfl _ Tryz.sizeOf24 rfl rfl rfl rfl) ?_
     obtain ⟨hc10, h⟩ := guardO h
     refine AOps_q 37 _ rfl rfl rfl (QOp_indexAddrA_ptr _ _ _ _ _ _ _ _ _ _ rfl Tryz.underlying24 Tryz.sizeOf5 hc10.1 hc10.2 rfl rfl rfl rfl) ?_
     refine AOps_store1 _ _ _ _ _ _ (colD (x4.set x2.toNat (toByte s9.1))) _ rfl rfl rfl rfl rfl rfl rfl Tryz.sizeOf5 (by rw [colD_length]; omega) (colD_setE x4 x2.toNat (toByte s9.1)) ?_
     refine AOps_nil ?_
     cases h
     exact Weak_keep 1 hm [0, 1, 2, 6, 7, 8, 9] [1, 2] _ _ rfl rfl rfl
    refine (ACode_region ?_)
    refine kM 1 rfl ?_
    refine AOps_q 25 _ rfl rfl rfl (QOp_add _ _ _ _ _ _ _ rfl rfl rfl) ?_
    refine kN 1 rfl ?_
    exact ⟨k0, _, _, Nat.lt_succ_self _, Weak_keep 1 hm [0, 1, 2, 6, 7, 8, 9] [1, 2] _ _ rfl rfl rfl, _, _, _, rfl, rfl, h⟩
   refine ACode_exit ?_
   cases h
   exact Weak_keep 1 hm [6, 7] [1, 2] _ _ rfl rfl rfl
 refine kR ?_
 refine AOps_q 38 _ rfl rfl rfl (QOp_loadN_ptr _ _ _ _ _ _ _ rfl Tryz.isAgg26 Tryz.sizeOf26 rfl rfl (colD_all _) (colD_length _)) ?_
 refine AOps_store _ _ _ _ _ _ (colD _) _ _ rfl rfl rfl rfl rfl rfl rfl (colD_one _) (by rw [colD_length]; exact Tryz.sizeOf26) (by rw [colD_length, colD_length]; decide) (colD_whole _ _) ?_
 refine AOps_nil ?_
 refine ACode_ret ?_
 cases h
 exact ⟨_, _, fun r a w h => ⟨r, h⟩, _, _, [], _, (.cons (ResV_agg _ _ _ _ _ _ Tryz.isAgg26 Tryz.sizeOf26 rfl rfl (colD_take _) (colD_length _)) .nil), rfl, rfl, rfl, rfl, rfl⟩

def spec_l01Small (k : Nat) (p0 : Src) : Option (Col × Src) :=
 (spec_l01Next p0 5).bind fun r1 => (if decide (r1.1 = 0) then (spec_l01Named k (⟨#[112, 101, 110, 116, 97, 103, 111, 110]⟩ : ByteArray)).bind fun r3 => (spec_l01DrawOrder k r1.2 5).bind fun r4 => (spec_l01Renamed k r3.1 r4.1).bind fun r5 => some (r5, r4.2) else (spec_l01Next r1.2 6).bind fun r6 => (spec_l01Pick r6.2 ([1, 2, 2, 2, 3, 4])).bind fun r7 => (spec_l01DrawOf k r7.2 (w64 (1 + r6.1)) r7.1).bind fun r8 => some (r8.1, r8.2))
theorem spec_l01Small_ac (k : Nat) (p0 : Src) (r : Col × Src) (h : spec_l01Small k p0 = some r) : AC Tryz.prog 26 [.ptr 0 0] [.box (srcD p0)] (fun res H' => res = [.d (.agg (colD r.1))] ∧ H' = [.box (srcD r.2)]) := by
 refine AC_of_body true Tryz.func26 rfl Tryz.ntmps26 (rvs := [.cell 2 26]) rfl rfl (fun G hG => ?_)
 have hm : G.H.length = 1 := by rw [hG]; rfl
 have hz : zeroG G.H = true := by rw [hG]; rfl
 unfold spec_l01Small at h
 refine kR ?_
 refine AOps_alloc 2 _ _ (colD Col.zero) (zero_of Tryz.typeInfo26 rfl) (by rfl) rfl rfl rfl rfl ?_
 refine AOps_nil ?_
 refine ACode_seq ?_
 refine kR ?_
 refine kM 1 rfl ?_
 obtain ⟨r1, hr1, h⟩ := bindO h
 refine kC [0] 6 (iV r1.1) [.box (srcD r1.2), .box (colD Col.zero)] rfl Tryz.call23 rfl rfl (spec_l01Next_ac p0 5 _ hr1) rfl ?_
 refine AOps_q 7 _ rfl rfl rfl (QOp_eql _ _ _ _ _ _ _ rfl rfl rfl) ?_
 refine AOps_nil ?_
 refine kI h rfl (fun h _ => ?_) (fun h _ => ?_)
 ·refine kR ?_
  obtain ⟨r3, hr3, h⟩ := bindO h
  refine kC [] 9 (.tup [.d (.agg (colD r3.1)), bV r3.2]) [.box (srcD r1.2), .box (colD Col.zero)] rfl Tryz.call60 rfl rfl (spec_l01Named_ac k (⟨#[112, 101, 110, 116, 97, 103, 111, 110]⟩ : ByteArray) _ hr3) rfl ?_
  refine kM 3 rfl ?_
  refine AOps_alloc 3 _ _ (colD Col.zero) (zero_of Tryz.typeInfo26 rfl) (by rfl) rfl rfl rfl rfl ?_
  refine AOps_store _ _ _ _ _ _ (colD _) _ _ rfl rfl rfl rfl rfl rfl rfl (colD_one _) (by rw [colD_length]; exact Tryz.sizeOf26) (by rw [colD_length, colD_length]; decide) (colD_whole _ _) ?_
  refine kN 1 rfl ?_
  obtain ⟨r4, hr4, h⟩ := bindO h
  obtain ⟨r5, hr5, h⟩ := bindO h
  refine ACode_seq (ACode_reg [(2, .ptr 1 0)] [.box (srcD r4.2), .box (colD r5)] ?_ ?_)
  ·refine ACode_anyU mixed ?_
   refine AU_cut 2 #[true, true, true, false, false] [(2, .ptr 1 0), (12, .d (.agg (colD r3.1))), (14, .vec 2 0)] [.box (srcD r4.2), .box (colD Col.zero), .vec 0 (intsD r4.1)] ?_ (fun hS0 => ?_)
   ·refine AU_one 3 (by kernel_rfl) rfl rfl ?_
    refine AOps_callL [] 15 _ _ _ _ _ _ _ _ _ _ rfl rfl rfl rfl rfl rfl rfl Tryz.call34 rfl (nodupB_sound _ rfl) rfl rfl rfl (spec_l01Renamed_ac k r3.1 r4.1 _ hr5) ?_
    rintro _ _ ⟨rfl, rfl⟩
    refine ⟨(fun _ h => nomatch h), (allc (flat_agg (colD_flat _)) (fun _ h => nomatch h)), AOps_as 15 (v' := .d (.agg (colD r5))) (H' := [.box (srcD r4.2), .box (colD Col.zero), .vec 0 (intsD r4.1)]) rfl rfl ?_⟩
    refine AOps_nil ?_
    refine AU_one 4 (by kernel_rfl) rfl rfl ?_
    refine AOps_store _ _ _ _ _ _ (colD _) _ _ rfl rfl rfl rfl rfl rfl rfl (colD_one _) (by rw [colD_length]; exact Tryz.sizeOf26) (by rw [colD_length, colD_length]; decide) (colD_whole _ _) ?_
    refine AOps_nil ?_
    refine AU_done (by kernel_rfl) ?_
    exact ⟨rfl, Weak_keep 1 hm [2] [1] _ _ rfl rfl rfl⟩
   refine AU_u 1 13 _ rfl (by kernel_rfl) rfl rfl rfl (UOp_move _ _ rfl rfl) ?_
   refine AU_all [0, 2] (by kernel_rfl) rfl (allc ?_ (allc ?_ (fun _ h => nomatch h)))
   ·refine US_of 0 rfl rfl ?_
    refine AOps_q 12 _ rfl rfl rfl (QOp_loadN_ptr _ _ _ _ _ _ _ rfl Tryz.isAgg26 Tryz.sizeOf26 rfl rfl (colD_all _) (colD_length _)) ?_
    refine AOps_nil ?_
    refine AU_one 2 (by kernel_rfl) rfl rfl ?_
    refine kC [0] 14 (.vec 3 0) [.box (srcD r4.2), .box (colD Col.zero), .box (colD r3.1), .vec 0 (intsD r4.1)] rfl Tryz.call61 rfl rfl (spec_l01DrawOrder_ac k r1.2 5 _ hr4) rfl ?_
    refine AOps_nil ?_
    exact AU_to (by kernel_rfl) hS0 (Weak_keep 1 hm [2, 12, 14] [1, 3] _ _ rfl rfl rfl)
   refine US_of 2 rfl rfl ?_
   refine kC [0] 14 (.vec 3 0) [.box (srcD r4.2), .box (colD Col.zero), .box (colD r3.1), .vec 0 (intsD r4.1)] rfl Tryz.call61 rfl rfl (spec_l01DrawOrder_ac k r1.2 5 _ hr4) rfl ?_
   refine AOps_nil ?_
   refine AU_one 0 (by kernel_rfl) rfl rfl ?_
   refine AOps_q 12 _ rfl rfl rfl (QOp_loadN_ptr _ _ _ _ _ _ _ rfl Tryz.isAgg26 Tryz.sizeOf26 rfl rfl (colD_all _) (colD_length _)) ?_
   refine AOps_nil ?_
   exact AU_to (by kernel_rfl) hS0 (Weak_keep 1 hm [2, 12, 14] [1, 3] _ _ rfl rfl rfl)
  refine ACode_ret ?_
  cases h
  exact ⟨_, _, fun r a w h => ⟨r, h⟩, _, _, [], _, (.cons (ResV_agg _ _ _ _ _ _ Tryz.isAgg26 Tryz.sizeOf26 rfl rfl (colD_take _) (colD_length _)) .nil), rfl, rfl, rfl, rfl, rfl⟩
 refine ACode_skip ?_
 refine kR ?_
 refine kM 2 rfl ?_
 obtain ⟨r6, hr6, h⟩ := bindO h
 refine kC [0] 18 (iV r6.1) [.box (srcD r6.2), .box (colD Col.zero)] rfl Tryz.call23 rfl rfl (spec_l01Next_ac r1.2 6 _ hr6) rfl ?_
 refine AOps_q 19 _ rfl rfl rfl (QOp_add _ _ _ _ _ _ _ rfl rfl rfl) ?_
 refine kM 1 rfl ?_
 refine AOps_buildSlice 21 _ _ _ [_, _, _, _, _, _] (intsD ([1, 2, 2, 2, 3, 4])) _ rfl rfl rfl rfl rfl (by decide) Tryz.underlying40 Tryz.sizeOf2 (zero_of Tryz.typeInfo2 rfl) rfl rfl (intsD_one _) ?_
 refine AOps_freezeL [21] 2 0 _ (allc (rfl) (fun _ h => nomatch h)) rfl ?_
 obtain ⟨r7, hr7, h⟩ := bindO h
 refine kC [0] 22 (iV r7.1) [.box (srcD r7.2), .box (colD Col.zero), .gone] rfl Tryz.call59 rfl rfl (spec_l01Pick_ac r6.2 ([1, 2, 2, 2, 3, 4]) _ hr7) rfl ?_
 obtain ⟨r8, hr8, h⟩ := bindO h
 refine kC [0] 23 (.d (.agg (colD r8.1))) [.box (srcD r8.2), .box (colD Col.zero), .gone] rfl Tryz.call62 rfl rfl (spec_l01DrawOf_ac k r7.2 (w64 (1 + r6.1)) r7.1 _ hr8) rfl ?_
 refine AOps_store _ _ _ _ _ _ (colD _) _ _ rfl rfl rfl rfl rfl rfl rfl (colD_one _) (by rw [colD_length]; exact Tryz.sizeOf26) (by rw [colD_length, colD_length]; decide) (colD_whole _ _) ?_
 refine AOps_nil ?_
 refine ACode_ret ?_
 cases h
 exact ⟨_, _, fun r a w h => ⟨r, h⟩, _, _, [], _, (.cons (ResV_agg _ _ _ _ _ _ Tryz.isAgg26 Tryz.sizeOf26 rfl rfl (colD_take _) (colD_length _)) .nil), rfl, rfl, rfl, rfl, rfl⟩

def spec_l01Draw_l0 (k : Nat) : Nat → Int → Src → Col → Option (Src × Col)
 | 0, _, _, _ => none
 | k0 + 1, x12, x13, x14 => (if decide (0 < x12) then (spec_l01DrawOrder k x13 x14.p).bind fun r16 => (if 0 ≤ (0 : Int) ∧ (0 : Int) < (r16.1.length : Int) then (if 0 ≤ (1 : Int) ∧ (1 : Int) < (r16.1.length : Int) then (spec_l01Next r16.2 x14.k).bind fun r19 => (spec_l01With x14 (r16.1.getD (0 : Int).toNat 0) (r16.1.getD (1 : Int).toNat 0) r19.1).bind fun r20 => spec_l01Draw_l0 k k0 (w64 (x12 - 1)) r19.2 r20 else none) else none) else some (x13, x14))
def spec_l01Draw (k : Nat) (p0 : Src) : Option (Col × Src) :=
 ((spec_l01Next p0 4).bind fun r1 => (if decide (r1.1 = 0) then (spec_l01Next r1.2 ((spec_l01Names).length : Int)).bind fun r4 => (if 0 ≤ r4.1 ∧ r4.1 < ((spec_l01Names).length : Int) then (spec_l01Named k ((spec_l01Names).getD r4.1.toNat ByteArray.empty)).bind fun r6 => (spec_l01DrawOrder k r4.2 r6.1.p).bind fun r7 => (spec_l01Renamed k r6.1 r7.1).bind fun r8 => ((spec_l01Next r7.2 2).bind fun r9 => (if decide (r9.1 = 0) then (spec_l01Next r9.2 3).bind fun r11 => spec_l01Draw_l0 k k r11.1 r11.2 r8 else some (r9.2, r8)) : Option (Src × Col)).bind fun s21 => some (.inr (s21.2, s21.1)) else none) else (if decide (r1.1 = 1) then (spec_l01Next r1.2 17).bind fun r23 => (spec_l01Pick r23.2 ([2, 2, 3, 4])).bind fun r24 => (spec_l01DrawOf k r24.2 (w64 (1 + r23.1)) r24.1).bind fun r25 => some (.inr (r25.1, r25.2)) else some (.inl r1.2))) : Option (Sum (Src) (Col × Src))).bind fun os26 => (match os26 with | .inl s26 => (spec_l01Small k s26).bind fun r27 => some (r27.1, r27.2) | .inr rr => some rr)
theorem spec_l01Draw_ac (k : Nat) (p0 : Src) (r : Col × Src) (h : spec_l01Draw k p0 = some r) : AC Tryz.prog 58 [.ptr 0 0] [.box (srcD p0)] (fun res H' => res = [.d (.agg (colD r.1))] ∧ H' = [.box (srcD r.2)]) := by
 refine AC_of_body true Tryz.func58 rfl Tryz.ntmps58 (rvs := [.cell 2 26]) rfl rfl (fun G hG => ?_)
 have hm : G.H.length = 1 := by rw [hG]; rfl
 have hz : zeroG G.H = true := by rw [hG]; rfl
 unfold spec_l01Draw at h
 refine kR ?_
 refine AOps_alloc 2 _ _ (colD Col.zero) (zero_of Tryz.typeInfo26 rfl) (by rfl) rfl rfl rfl rfl ?_
 refine AOps_nil ?_
 refine kO (fun s26 => [(0, .ptr 0 0), (2, .ptr 1 0)]) (fun s26 => [.box (srcD s26), .box (colD Col.zero)]) h (fun os26 h hks26 => ?_) (fun s26 h => ?_)
 ·refine kR ?_
  refine kM 1 rfl ?_
  obtain ⟨r1, hr1, h⟩ := bindO h
  refine kC [0] 9 (iV r1.1) [.box (srcD r1.2), .box (colD Col.zero)] rfl Tryz.call23 rfl rfl (spec_l01Next_ac p0 4 _ hr1) rfl ?_
  refine AOps_nil ?_
  refine ACode_block ?_
  refine kR ?_
  refine AOps_q 11 _ rfl rfl rfl (QOp_eql _ _ _ _ _ _ _ rfl rfl rfl) ?_
  refine kN 1 rfl ?_
  refine kI h rfl (fun h _ => ?_) (fun h _ => ?_)
  ·refine kR ?_
   refine kC [] 12 (.vec 2 0) [.box (srcD r1.2), .box (colD Col.zero), .vec 0 (stsD (spec_l01Names))] rfl Tryz.call72 rfl rfl (spec_l01Names_ac) rfl ?_
   refine kN 1 rfl ?_
   refine kR ?_
   refine kM 3 rfl ?_
   refine AOps_q 17 _ rfl rfl rfl (QOp_len_vec _ _ _ _ _ _ _ _ (stsD_length _) rfl rfl rfl rfl Tryz.underlying92 rfl rfl) ?_
   obtain ⟨r4, hr4, h⟩ := bindO h
   refine kC [0] 18 (iV r4.1) [.box (srcD r4.2), .box (colD Col.zero), .vec 0 (stsD (spec_l01Names))] rfl Tryz.call23 rfl rfl (spec_l01Next_ac r1.2 ((spec_l01Names).length : Int) _ hr4) rfl ?_
   obtain ⟨hc5, h⟩ := guardO h
   refine AOps_q 19 _ rfl rfl rfl (QOp_indexAddr_vec _ _ _ _ _ _ _ _ _ rfl Tryz.underlying92 Tryz.sizeOf9 hc5.1 (by rw [stsD_length]; exact hc5.2) rfl rfl rfl) ?_
   refine AOps_q 20 _ rfl rfl rfl (QOp_load_eptr _ _ _ _ _ _ _ rfl Tryz.isAgg9 rfl rfl (stsD_get _ _ ByteArray.empty (by omega))) ?_
   obtain ⟨r6, hr6, h⟩ := bindO h
   refine kC [] 21 (.tup [.d (.agg (colD r6.1)), bV r6.2]) [.box (srcD r4.2), .box (colD Col.zero), .vec 0 (stsD (spec_l01Names))] rfl Tryz.call60 rfl rfl (spec_l01Named_ac k ((spec_l01Names).getD r4.1.toNat ByteArray.empty) _ hr6) rfl ?_
   refine kM 3 rfl ?_
   refine AOps_alloc 4 _ _ (colD Col.zero) (zero_of Tryz.typeInfo26 rfl) (by rfl) rfl rfl rfl rfl ?_
   refine AOps_store _ _ _ _ _ _ (colD _) _ _ rfl rfl rfl rfl rfl rfl rfl (colD_one _) (by rw [colD_length]; exact Tryz.sizeOf26) (by rw [colD_length, colD_length]; decide) (colD_whole _ _) ?_
   refine kN 1 rfl ?_
   obtain ⟨r7, hr7, h⟩ := bindO h
   obtain ⟨r8, hr8, h⟩ := bindO h
   refine ACode_seq (ACode_reg [(0, .ptr 0 0), (2, .ptr 1 0), (4, .ptr 2 0)] [.box (srcD r7.2), .box (colD Col.zero), .box (colD r8)] ?_ ?_)
   ·refine ACode_anyU mixed ?_
    refine AU_cut 2 #[true, true, true, true, true, false, false] [(0, .ptr 0 0), (2, .ptr 1 0), (4, .ptr 2 0), (24, .d (.agg (colD r6.1))), (28, .vec 3 0)] [.box (srcD r7.2), .box (colD Col.zero), .box (colD r6.1), .vec 0 (intsD r7.1)] ?_ (fun hS0 => ?_)
    ·refine AU_one 5 (by kernel_rfl) rfl rfl ?_
     refine AOps_callL [] 29 _ _ _ _ _ _ _ _ _ _ rfl rfl rfl rfl rfl rfl rfl Tryz.call34 rfl (nodupB_sound _ rfl) rfl rfl rfl (spec_l01Renamed_ac k r6.1 r7.1 _ hr8) ?_
     rintro _ _ ⟨rfl, rfl⟩
     refine ⟨(fun _ h => nomatch h), (allc (flat_agg (colD_flat _)) (fun _ h => nomatch h)), AOps_as 29 (v' := .d (.agg (colD r8))) (H' := [.box (srcD r7.2), .box (colD Col.zero), .box (colD r6.1), .vec 0 (intsD r7.1)]) rfl rfl ?_⟩
     refine AOps_nil ?_
     refine AU_one 6 (by kernel_rfl) rfl rfl ?_
     refine AOps_store _ _ _ _ _ _ (colD _) _ _ rfl rfl rfl rfl rfl rfl rfl (colD_one _) (by rw [colD_length]; exact Tryz.sizeOf26) (by rw [colD_length, colD_length]; decide) (colD_whole _ _) ?_
     refine AOps_nil ?_
     refine AU_done (by kernel_rfl) ?_
     exact ⟨rfl, Weak_keep 1 hm [0, 2, 4] [1, 2] _ _ rfl rfl rfl⟩
    refine AU_cut 3 #[true, true, true, true, false, false, false] [(0, .ptr 0 0), (2, .ptr 1 0), (4, .ptr 2 0), (24, .d (.agg (colD r6.1))), (25, .ptr 0 0), (27, iV r6.1.p)] [.box (srcD r4.2), .box (colD Col.zero), .box (colD r6.1)] ?_ (fun hS1 => ?_)
    ·refine AU_one 4 (by kernel_rfl) rfl rfl ?_
     refine kC [0] 28 (.vec 3 0) [.box (srcD r7.2), .box (colD Col.zero), .box (colD r6.1), .vec 0 (intsD r7.1)] rfl Tryz.call61 rfl rfl (spec_l01DrawOrder_ac k r4.2 r6.1.p _ hr7) rfl ?_
     refine AOps_nil ?_
     exact AU_to (by kernel_rfl) hS0 (Weak_keep 1 hm [0, 2, 4, 24, 28] [1, 2, 3] _ _ rfl rfl rfl)
    refine AU_u 1 25 _ rfl (by kernel_rfl) rfl rfl rfl (UOp_move _ _ rfl rfl) ?_
    refine AU_u 2 26 _ rfl (by kernel_rfl) rfl rfl rfl (UOp_fieldAddr_ptr _ _ _ _ _ _ 0 _ _ rfl Tryz.underlying26 rfl _ Tryz.sizeOf2 rfl rfl rfl rfl) ?_
    refine AU_all [0, 3] (by kernel_rfl) rfl (allc ?_ (allc ?_ (fun _ h => nomatch h)))
    ·refine US_of 0 rfl rfl ?_
     refine AOps_q 24 _ rfl rfl rfl (QOp_loadN_ptr _ _ _ _ _ _ _ rfl Tryz.isAgg26 Tryz.sizeOf26 rfl rfl (colD_all _) (colD_length _)) ?_
     refine AOps_nil ?_
     refine AU_one 3 (by kernel_rfl) rfl rfl ?_
     refine AOps_q 27 _ rfl rfl rfl (QOp_load_ptr _ _ _ _ _ _ rfl Tryz.isAgg2 rfl rfl rfl) ?_
     refine AOps_nil ?_
     exact AU_to (by kernel_rfl) hS1 (Weak_keep 1 hm [0, 2, 4, 24, 25, 27] [1, 3] _ _ rfl rfl rfl)
    refine US_of 3 rfl rfl ?_
    refine AOps_q 27 _ rfl rfl rfl (QOp_load_ptr _ _ _ _ _ _ rfl Tryz.isAgg2 rfl rfl rfl) ?_
    refine AOps_nil ?_
    refine AU_all [0, 4] (by kernel_rfl) rfl (allc ?_ (allc ?_ (fun _ h => nomatch h)))
    ·refine US_of 0 rfl rfl ?_
     refine AOps_q 24 _ rfl rfl rfl (QOp_loadN_ptr _ _ _ _ _ _ _ rfl Tryz.isAgg26 Tryz.sizeOf26 rfl rfl (colD_all _) (colD_length _)) ?_
     refine AOps_nil ?_
     exact AU_to (by kernel_rfl) hS1 (Weak_keep 1 hm [0, 2, 4, 24, 25, 27] [1, 3] _ _ rfl rfl rfl)
    refine US_of 4 rfl rfl ?_
    refine kC [0] 28 (.vec 4 0) [.box (srcD r7.2), .box (colD Col.zero), .vec 0 (stsD (spec_l01Names)), .box (colD r6.1), .vec 0 (intsD r7.1)] rfl Tryz.call61 rfl rfl (spec_l01DrawOrder_ac k r4.2 r6.1.p _ hr7) rfl ?_
    refine AOps_nil ?_
    refine AU_one 0 (by kernel_rfl) rfl rfl ?_
    refine AOps_q 24 _ rfl rfl rfl (QOp_loadN_ptr _ _ _ _ _ _ _ rfl Tryz.isAgg26 Tryz.sizeOf26 rfl rfl (colD_all _) (colD_length _)) ?_
    refine AOps_nil ?_
    exact AU_to (by kernel_rfl) hS0 (Weak_keep 1 hm [0, 2, 4, 24, 28] [1, 3, 4] _ _ rfl rfl rfl)
   refine kB (fun s21 => [(2, .ptr 1 0), (4, .ptr 2 0)]) (fun s21 => [.box (srcD s21.1), .box (colD Col.zero), .box (colD s21.2)]) h (fun s21 h => ?_) (fun s21 h => ?_)
   ·refine kR ?_
    refine kM 1 rfl ?_
    obtain ⟨r9, hr9, h⟩ := bindO h
    refine kC [0] 31 (iV r9.1) [.box (srcD r9.2), .box (colD Col.zero), .box (colD r8)] rfl Tryz.call23 rfl rfl (spec_l01Next_ac r7.2 2 _ hr9) rfl ?_
    refine AOps_q 32 _ rfl rfl rfl (QOp_eql _ _ _ _ _ _ _ rfl rfl rfl) ?_
    refine AOps_nil ?_
    refine kI h rfl (fun h _ => ?_) (fun h _ => ?_)
    ·refine kR ?_
     refine kM 1 rfl ?_
     obtain ⟨r11, hr11, h⟩ := bindO h
     refine kC [0] 34 (iV r11.1) [.box (srcD r11.2), .box (colD Col.zero), .box (colD r8)] rfl Tryz.call23 rfl rfl (spec_l01Next_ac r9.2 3 _ hr11) rfl ?_
     refine kN 1 rfl ?_
     refine ACode_block ?_
     refine ACode_loopW (fun k0 E H => ∃ (x12 : Int) (x13 : Src) (x14 : Col), E = [(0, .ptr 0 0), (2, .ptr 1 0), (4, .ptr 2 0), (6, iV x12)] ∧ H = [.box (srcD x13), .box (colD Col.zero), .box (colD x14)] ∧ spec_l01Draw_l0 k k0 x12 x13 x14 = some s21) k _ _ (Weak_keep 1 hm [0, 2, 4, 6] [1, 2] _ _ rfl rfl rfl) ⟨_, _, _, rfl, rfl, h⟩ ?_
     clear h
     rintro k0 E H ⟨x12, x13, x14, rfl, rfl, h⟩
     cases k0 with
     | zero => cases (show (none : Option (Src × Col)) = some _ from h)
     | succ k0 =>
      rw [spec_l01Draw_l0] at h
      refine ACode_seq ?_
      refine kR ?_
      refine kM 1 rfl ?_
      refine AOps_q 36 _ rfl rfl rfl (QOp_gtr _ _ _ _ _ _ _ rfl rfl rfl) ?_
      refine AOps_nil ?_
      refine kI h rfl (fun h _ => ?_) (fun h _ => ?_)
      ·refine ACode_skip ?_
       refine ACode_seq ?_
       refine ACode_block ?_
       refine kR ?_
       refine kM 1 rfl ?_
       refine AOps_q 40 _ rfl rfl rfl (QOp_fieldAddr_ptr _ _ _ _ _ _ 0 _ _ rfl Tryz.underlying26 rfl _ Tryz.sizeOf2 rfl rfl rfl rfl) ?_
       refine AOps_q 41 _ rfl rfl rfl (QOp_load_ptr _ _ _ _ _ _ rfl Tryz.isAgg2 rfl rfl rfl) ?_
       obtain ⟨r16, hr16, h⟩ := bindO h
       refine kC [0] 42 (.vec 3 0) [.box (srcD r16.2), .box (colD Col.zero), .box (colD x14), .vec 0 (intsD r16.1)] rfl Tryz.call61 rfl rfl (spec_l01DrawOrder_ac k x13 x14.p _ hr16) rfl ?_
       refine kN 1 rfl ?_
       obtain ⟨hc17, h⟩ := guardO h
       obtain ⟨hc18, h⟩ := guardO h
       obtain ⟨r19, hr19, h⟩ := bindO h
       obtain ⟨r20, hr20, h⟩ := bindO h
       refine ACode_reg [(0, .ptr 0 0), (2, .ptr 1 0), (4, .ptr 2 0), (6, iV x12)] [.box (srcD r19.2), .box (colD Col.zero), .box (colD r20)] ?_ ?_
       ·refine ACode_anyU mixed ?_
        refine AU_cut 2 #[true, true, true, true, true, true, true, true, true, true, true, false, false] [(0, .ptr 0 0), (2, .ptr 1 0), (4, .ptr 2 0), (6, iV x12), (43, .d (.agg (colD x14))), (46, iV (r16.1.getD (0 : Int).toNat 0)), (49, iV (r16.1.getD (1 : Int).toNat 0)), (53, iV r19.1)] [.box (srcD r19.2), .box (colD Col.zero), .box (colD x14)] ?_ (fun hS0 => ?_)
        ·refine AU_one 11 (by kernel_rfl) rfl rfl ?_
         refine kC [] 54 (.d (.agg (colD r20))) [.box (srcD r19.2), .box (colD Col.zero), .box (colD x14)] rfl Tryz.call87 rfl rfl (spec_l01With_ac x14 (r16.1.getD (0 : Int).toNat 0) (r16.1.getD (1 : Int).toNat 0) r19.1 _ hr20) rfl ?_
         refine AOps_nil ?_
         refine AU_one 12 (by kernel_rfl) rfl rfl ?_
         refine AOps_store _ _ _ _ _ _ (colD _) _ _ rfl rfl rfl rfl rfl rfl rfl (colD_one _) (by rw [colD_length]; exact Tryz.sizeOf26) (by rw [colD_length, colD_length]; decide) (colD_whole _ _) ?_
         refine AOps_nil ?_
         refine AU_done (by kernel_rfl) ?_
         exact ⟨rfl, Weak_keep 1 hm [0, 2, 4, 6] [1, 2] _ _ rfl rfl rfl⟩
        refine AU_cut 3 #[true, true, true, true, true, true, true, true, true, true, false, false, false] [(0, .ptr 0 0), (2, .ptr 1 0), (4, .ptr 2 0), (6, iV x12), (43, .d (.agg (colD x14))), (46, iV (r16.1.getD (0 : Int).toNat 0)), (49, iV (r16.1.getD (1 : Int).toNat 0)), (50, .ptr 0 0), (52, iV x14.k)] [.box (srcD r16.2), .box (colD Col.zero), .box (colD x14)] ?_ (fun hS1 => ?_)
        ·refine AU_one 10 (by kernel_rfl) rfl rfl ?_
         refine kC [0] 53 (iV r19.1) [.box (srcD r19.2), .box (colD Col.zero), .box (colD x14)] rfl Tryz.call23 rfl rfl (spec_l01Next_ac r16.2 x14.k _ hr19) rfl ?_
         refine AOps_nil ?_
         exact AU_to (by kernel_rfl) hS0 (Weak_keep 1 hm [0, 2, 4, 6, 43, 46, 49, 53] [1, 2] _ _ rfl rfl rfl)
        refine AU_cut 3 #[false, true, true, true, true, true, true, true, true, true, true, false, false] [(0, .ptr 0 0), (2, .ptr 1 0), (4, .ptr 2 0), (6, iV x12), (46, iV (r16.1.getD (0 : Int).toNat 0)), (49, iV (r16.1.getD (1 : Int).toNat 0)), (53, iV r19.1)] [.box (srcD r19.2), .box (colD Col.zero), .box (colD x14)] ?_ (fun hS2 => ?_)
        ·refine AU_one 0 (by kernel_rfl) rfl rfl ?_
         refine AOps_q 43 _ rfl rfl rfl (QOp_loadN_ptr _ _ _ _ _ _ _ rfl Tryz.isAgg26 Tryz.sizeOf26 rfl rfl (colD_all _) (colD_length _)) ?_
         refine AOps_nil ?_
         exact AU_to (by kernel_rfl) hS0 (Weak_keep 1 hm [0, 2, 4, 6, 43, 46, 49, 53] [1, 2] _ _ rfl rfl rfl)
        refine AU_cut 4 #[true, true, true, true, true, true, true, true, true, false, false, false, false] [(0, .ptr 0 0), (2, .ptr 1 0), (4, .ptr 2 0), (6, iV x12), (43, .d (.agg (colD x14))), (46, iV (r16.1.getD (0 : Int).toNat 0)), (49, iV (r16.1.getD (1 : Int).toNat 0)), (50, .ptr 0 0), (51, .ptr 2 1)] [.box (srcD r16.2), .box (colD Col.zero), .box (colD x14)] ?_ (fun hS3 => ?_)
        ·refine AU_one 9 (by kernel_rfl) rfl rfl ?_
         refine AOps_q 52 _ rfl rfl rfl (QOp_load_ptr _ _ _ _ _ _ rfl Tryz.isAgg2 rfl rfl rfl) ?_
         refine AOps_nil ?_
         exact AU_to (by kernel_rfl) hS1 (Weak_keep 1 hm [0, 2, 4, 6, 43, 46, 49, 50, 52] [1, 2] _ _ rfl rfl rfl)
        refine AU_cut 4 #[false, true, true, true, true, true, true, true, true, true, false, false, false] [(0, .ptr 0 0), (2, .ptr 1 0), (4, .ptr 2 0), (6, iV x12), (46, iV (r16.1.getD (0 : Int).toNat 0)), (49, iV (r16.1.getD (1 : Int).toNat 0)), (50, .ptr 0 0), (52, iV x14.k)] [.box (srcD r16.2), .box (colD Col.zero), .box (colD x14)] ?_ (fun hS4 => ?_)
        ·refine AU_all [0, 10] (by kernel_rfl) rfl (allc ?_ (allc ?_ (fun _ h => nomatch h)))
         ·refine US_of 0 rfl rfl ?_
          refine AOps_q 43 _ rfl rfl rfl (QOp_loadN_ptr _ _ _ _ _ _ _ rfl Tryz.isAgg26 Tryz.sizeOf26 rfl rfl (colD_all _) (colD_length _)) ?_
          refine AOps_nil ?_
          exact AU_to (by kernel_rfl) hS1 (Weak_keep 1 hm [0, 2, 4, 6, 43, 46, 49, 50, 52] [1, 2] _ _ rfl rfl rfl)
         refine US_of 10 rfl rfl ?_
         refine kC [0] 53 (iV r19.1) [.box (srcD r19.2), .box (colD Col.zero), .box (colD x14)] rfl Tryz.call23 rfl rfl (spec_l01Next_ac r16.2 x14.k _ hr19) rfl ?_
         refine AOps_nil ?_
         exact AU_to (by kernel_rfl) hS2 (Weak_keep 1 hm [0, 2, 4, 6, 46, 49, 53] [1, 2] _ _ rfl rfl rfl)
        refine AU_cut 5 #[false, true, true, true, true, true, true, true, true, false, false, false, false] [(0, .ptr 0 0), (2, .ptr 1 0), (4, .ptr 2 0), (6, iV x12), (46, iV (r16.1.getD (0 : Int).toNat 0)), (49, iV (r16.1.getD (1 : Int).toNat 0)), (50, .ptr 0 0), (51, .ptr 2 1)] [.box (srcD r16.2), .box (colD Col.zero), .box (colD x14)] ?_ (fun hS5 => ?_)
        ·refine AU_all [0, 9] (by kernel_rfl) rfl (allc ?_ (allc ?_ (fun _ h => nomatch h)))
         ·refine US_of 0 rfl rfl ?_
          refine AOps_q 43 _ rfl rfl rfl (QOp_loadN_ptr _ _ _ _ _ _ _ rfl Tryz.isAgg26 Tryz.sizeOf26 rfl rfl (colD_all _) (colD_length _)) ?_
          refine AOps_nil ?_
          exact AU_to (by kernel_rfl) hS3 (Weak_keep 1 hm [0, 2, 4, 6, 43, 46, 49, 50, 51] [1, 2] _ _ rfl rfl rfl)
         refine US_of 9 rfl rfl ?_
         refine AOps_q 52 _ rfl rfl rfl (QOp_load_ptr _ _ _ _ _ _ rfl Tryz.isAgg2 rfl rfl rfl) ?_
         refine AOps_nil ?_
         exact AU_to (by kernel_rfl) hS4 (Weak_keep 1 hm [0, 2, 4, 6, 46, 49, 50, 52] [1, 2] _ _ rfl rfl rfl)
        refine AU_u 1 44 _ rfl (by kernel_rfl) rfl rfl rfl (UOp_move _ _ rfl rfl) ?_
        refine AU_u 2 45 _ rfl (by kernel_rfl) rfl rfl rfl (UOp_indexAddr_vec _ _ _ _ _ _ _ _ _ rfl Tryz.underlying40 Tryz.sizeOf2 hc17.1 (by rw [intsD_length]; exact hc17.2) rfl rfl rfl) ?_
        refine AU_u 4 47 _ rfl (by kernel_rfl) rfl rfl rfl (UOp_move _ _ rfl rfl) ?_
        refine AU_u 5 48 _ rfl (by kernel_rfl) rfl rfl rfl (UOp_indexAddr_vec _ _ _ _ _ _ _ _ _ rfl Tryz.underlying40 Tryz.sizeOf2 hc18.1 (by rw [intsD_length]; exact hc18.2) rfl rfl rfl) ?_
        refine AU_u 7 50 _ rfl (by kernel_rfl) rfl rfl rfl (UOp_move _ _ rfl rfl) ?_
        refine AU_u 8 51 _ rfl (by kernel_rfl) rfl rfl rfl (UOp_fieldAddr_ptr _ _ _ _ _ _ 1 _ _ rfl Tryz.underlying26 rfl _ Tryz.sizeOf2 rfl rfl rfl rfl) ?_
        refine AU_all [0, 3, 6, 9] (by kernel_rfl) rfl (allc ?_ (allc ?_ (allc ?_ (allc ?_ (fun _ h => nomatch h)))))
        ·refine US_of 0 rfl rfl ?_
         refine AOps_q 43 _ rfl rfl rfl (QOp_loadN_ptr _ _ _ _ _ _ _ rfl Tryz.isAgg26 Tryz.sizeOf26 rfl rfl (colD_all _) (colD_length _)) ?_
         refine AOps_nil ?_
         refine AU_all [3, 6, 9] (by kernel_rfl) rfl (allc ?_ (allc ?_ (allc ?_ (fun _ h => nomatch h))))
         ·refine US_of 3 rfl rfl ?_
          refine AOps_q 46 _ rfl rfl rfl (QOp_load_eptr _ _ _ _ _ _ _ rfl Tryz.isAgg2 rfl rfl (intsD_get _ _ 0 (by omega))) ?_
          refine AOps_nil ?_
          refine AU_all [6, 9] (by kernel_rfl) rfl (allc ?_ (allc ?_ (fun _ h => nomatch h)))
          ·refine US_of 6 rfl rfl ?_
           refine AOps_q 49 _ rfl rfl rfl (QOp_load_eptr _ _ _ _ _ _ _ rfl Tryz.isAgg2 rfl rfl (intsD_get _ _ 0 (by omega))) ?_
           refine AOps_nil ?_
           exact AU_to (by kernel_rfl) hS3 (Weak_keep 1 hm [0, 2, 4, 6, 43, 46, 49, 50, 51] [1, 2] _ _ rfl rfl rfl)
          refine US_of 9 rfl rfl ?_
          refine AOps_q 52 _ rfl rfl rfl (QOp_load_ptr _ _ _ _ _ _ rfl Tryz.isAgg2 rfl rfl rfl) ?_
          refine AOps_nil ?_
          refine AU_all [6, 10] (by kernel_rfl) rfl (allc ?_ (allc ?_ (fun _ h => nomatch h)))
          ·refine US_of 6 rfl rfl ?_
           refine AOps_q 49 _ rfl rfl rfl (QOp_load_eptr _ _ _ _ _ _ _ rfl Tryz.isAgg2 rfl rfl (intsD_get _ _ 0 (by omega))) ?_
           refine AOps_nil ?_
           exact AU_to (by kernel_rfl) hS1 (Weak_keep 1 hm [0, 2, 4, 6, 43, 46, 49, 50, 52] [1, 2] _ _ rfl rfl rfl)
          refine US_of 10 rfl rfl ?_
          refine kC [0] 53 (iV r19.1) [.box (srcD r19.2), .box (colD Col.zero), .box (colD x14), .vec 0 (intsD r16.1)] rfl Tryz.call23 rfl rfl (spec_l01Next_ac r16.2 x14.k _ hr19) rfl ?_
          refine AOps_nil ?_
          refine AU_one 6 (by kernel_rfl) rfl rfl ?_
          refine AOps_q 49 _ rfl rfl rfl (QOp_load_eptr _ _ _ _ _ _ _ rfl Tryz.isAgg2 rfl rfl (intsD_get _ _ 0 (by omega))) ?_
          refine AOps_nil ?_
          exact AU_to (by kernel_rfl) hS0 (Weak_keep 1 hm [0, 2, 4, 6, 43, 46, 49, 53] [1, 2] _ _ rfl rfl rfl)
         ·refine US_of 6 rfl rfl ?_
          refine AOps_q 49 _ rfl rfl rfl (QOp_load_eptr _ _ _ _ _ _ _ rfl Tryz.isAgg2 rfl rfl (intsD_get _ _ 0 (by omega))) ?_
          refine AOps_nil ?_
          refine AU_all [3, 9] (by kernel_rfl) rfl (allc ?_ (allc ?_ (fun _ h => nomatch h)))
          ·refine US_of 3 rfl rfl ?_
           refine AOps_q 46 _ rfl rfl rfl (QOp_load_eptr _ _ _ _ _ _ _ rfl Tryz.isAgg2 rfl rfl (intsD_get _ _ 0 (by omega))) ?_
           refine AOps_nil ?_
           exact AU_to (by kernel_rfl) hS3 (Weak_keep 1 hm [0, 2, 4, 6, 43, 46, 49, 50, 51] [1, 2] _ _ rfl rfl rfl)
          refine US_of 9 rfl rfl ?_
          refine AOps_q 52 _ rfl rfl rfl (QOp_load_ptr _ _ _ _ _ _ rfl Tryz.isAgg2 rfl rfl rfl) ?_
          refine AOps_nil ?_
          refine AU_all [3, 10] (by kernel_rfl) rfl (allc ?_ (allc ?_ (fun _ h => nomatch h)))
          ·refine US_of 3 rfl rfl ?_
           refine AOps_q 46 _ rfl rfl rfl (QOp_load_eptr _ _ _ _ _ _ _ rfl Tryz.isAgg2 rfl rfl (intsD_get _ _ 0 (by omega))) ?_
           refine AOps_nil ?_
           exact AU_to (by kernel_rfl) hS1 (Weak_keep 1 hm [0, 2, 4, 6, 43, 46, 49, 50, 52] [1, 2] _ _ rfl rfl rfl)
          refine US_of 10 rfl rfl ?_
          refine kC [0] 53 (iV r19.1) [.box (srcD r19.2), .box (colD Col.zero), .box (colD x14), .vec 0 (intsD r16.1)] rfl Tryz.call23 rfl rfl (spec_l01Next_ac r16.2 x14.k _ hr19) rfl ?_
          refine AOps_nil ?_
          refine AU_one 3 (by kernel_rfl) rfl rfl ?_
          refine AOps_q 46 _ rfl rfl rfl (QOp_load_eptr _ _ _ _ _ _ _ rfl Tryz.isAgg2 rfl rfl (intsD_get _ _ 0 (by omega))) ?_
          refine AOps_nil ?_
          exact AU_to (by kernel_rfl) hS0 (Weak_keep 1 hm [0, 2, 4, 6, 43, 46, 49, 53] [1, 2] _ _ rfl rfl rfl)
         refine US_of 9 rfl rfl ?_
         refine AOps_q 52 _ rfl rfl rfl (QOp_load_ptr _ _ _ _ _ _ rfl Tryz.isAgg2 rfl rfl rfl) ?_
         refine AOps_nil ?_
         refine AU_all [3, 6, 10] (by kernel_rfl) rfl (allc ?_ (allc ?_ (allc ?_ (fun _ h => nomatch h))))
         ·refine US_of 3 rfl rfl ?_
          refine AOps_q 46 _ rfl rfl rfl (QOp_load_eptr _ _ _ _ _ _ _ rfl Tryz.isAgg2 rfl rfl (intsD_get _ _ 0 (by omega))) ?_
          refine AOps_nil ?_
          refine AU_all [6, 10] (by kernel_rfl) rfl (allc ?_ (allc ?_ (fun _ h => nomatch h)))
          ·refine US_of 6 rfl rfl ?_
           refine AOps_q 49 _ rfl rfl rfl (QOp_load_eptr _ _ _ _ _ _ _ rfl Tryz.isAgg2 rfl rfl (intsD_get _ _ 0 (by omega))) ?_
           refine AOps_nil ?_
           exact AU_to (by kernel_rfl) hS1 (Weak_keep 1 hm [0, 2, 4, 6, 43, 46, 49, 50, 52] [1, 2] _ _ rfl rfl rfl)
          refine US_of 10 rfl rfl ?_
          refine kC [0] 53 (iV r19.1) [.box (srcD r19.2), .box (colD Col.zero), .box (colD x14), .vec 0 (intsD r16.1)] rfl Tryz.call23 rfl rfl (spec_l01Next_ac r16.2 x14.k _ hr19) rfl ?_
          refine AOps_nil ?_
          refine AU_one 6 (by kernel_rfl) rfl rfl ?_
          refine AOps_q 49 _ rfl rfl rfl (QOp_load_eptr _ _ _ _ _ _ _ rfl Tryz.isAgg2 rfl rfl (intsD_get _ _ 0 (by omega))) ?_
          refine AOps_nil ?_
          exact AU_to (by kernel_rfl) hS0 (Weak_keep 1 hm [0, 2, 4, 6, 43, 46, 49, 53] [1, 2] _ _ rfl rfl rfl)
         ·refine US_of 6 rfl rfl ?_
          refine AOps_q 49 _ rfl rfl rfl (QOp_load_eptr _ _ _ _ _ _ _ rfl Tryz.isAgg2 rfl rfl (intsD_get _ _ 0 (by omega))) ?_
          refine AOps_nil ?_
          refine AU_all [3, 10] (by kernel_rfl) rfl (allc ?_ (allc ?_ (fun _ h => nomatch h)))
          ·refine US_of 3 rfl rfl ?_
           refine AOps_q 46 _ rfl rfl rfl (QOp_load_eptr _ _ _ _ _ _ _ rfl Tryz.isAgg2 rfl rfl (intsD_get _ _ 0 (by omega))) ?_
           refine AOps_nil ?_
           exact AU_to (by kernel_rfl) hS1 (Weak_keep 1 hm [0, 2, 4, 6, 43, 46, 49, 50, 52] [1, 2] _ _ rfl rfl rfl)
          refine US_of 10 rfl rfl ?_
          refine kC [0] 53 (iV r19.1) [.box (srcD r19.2), .box (colD Col.zero), .box (colD x14), .vec 0 (intsD r16.1)] rfl Tryz.call23 rfl rfl (spec_l01Next_ac r16.2 x14.k _ hr19) rfl ?_
          refine AOps_nil ?_
          refine AU_one 3 (by kernel_rfl) rfl rfl ?_
          refine AOps_q 46 _ rfl rfl rfl (QOp_load_eptr _ _ _ _ _ _ _ rfl Tryz.isAgg2 rfl rfl (intsD_get _ _ 0 (by omega))) ?_
          refine AOps_nil ?_
          exact AU_to (by kernel_rfl) hS0 (Weak_keep 1 hm [0, 2, 4, 6, 43, 46, 49, 53] [1, 2] _ _ rfl rfl rfl)
         refine US_of 10 rfl rfl ?_
         refine kC [0] 53 (iV r19.1) [.box (srcD r19.2), .box (colD Col.zero), .box (colD x14), .vec 0 (intsD r16.1)] rfl Tryz.call23 rfl rfl (spec_l01Next_ac r16.2 x14.k _ hr19) rfl ?_
         refine AOps_nil ?_
         refine AU_all [3, 6] (by kernel_rfl) rfl (allc ?_ (allc ?_ (fun _ h => nomatch h)))
         ·refine US_of 3 rfl rfl ?_
          refine AOps_q 46 _ rfl rfl rfl (QOp_load_eptr _ _ _ _ _ _ _ rfl Tryz.isAgg2 rfl rfl (intsD_get _ _ 0 (by omega))) ?_
          refine AOps_nil ?_
          refine AU_one 6 (by kernel_rfl) rfl rfl ?_
          refine AOps_q 49 _ rfl rfl rfl (QOp_load_eptr _ _ _ _ _ _ _ rfl Tryz.isAgg2 rfl rfl (intsD_get _ _ 0 (by omega))) ?_
          refine AOps_nil ?_
          exact AU_to (by kernel_rfl) hS0 (Weak_keep 1 hm [0, 2, 4, 6, 43, 46, 49, 53] [1, 2] _ _ rfl rfl rfl)
         refine US_of 6 rfl rfl ?_
         refine AOps_q 49 _ rfl rfl rfl (QOp_load_eptr _ _ _ _ _ _ _ rfl Tryz.isAgg2 rfl rfl (intsD_get _ _ 0 (by omega))) ?_
         refine AOps_nil ?_
         refine AU_one 3 (by kernel_rfl) rfl rfl ?_
         refine AOps_q 46 _ rfl rfl rfl (QOp_load_eptr _ _ _ _ _ _ _ rfl Tryz.isAgg2 rfl rfl (intsD_get _ _ 0 (by omega))) ?_
         refine AOps_nil ?_
         exact AU_to (by kernel_rfl) hS0 (Weak_keep 1 hm [0, 2, 4, 6, 43, 46, 49, 53] [1, 2] _ _ rfl rfl rfl)
        ·refine US_of 3 rfl rfl ?_
         refine AOps_q 46 _ rfl rfl rfl (QOp_load_eptr _ _ _ _ _ _ _ rfl Tryz.isAgg2 rfl rfl (intsD_get _ _ 0 (by omega))) ?_
         refine AOps_nil ?_
         refine AU_all [0, 6, 9] (by kernel_rfl) rfl (allc ?_ (allc ?_ (allc ?_ (fun _ h => nomatch h))))
         ·refine US_of 0 rfl rfl ?_
          refine AOps_q 43 _ rfl rfl rfl (QOp_loadN_ptr _ _ _ _ _ _ _ rfl Tryz.isAgg26 Tryz.sizeOf26 rfl rfl (colD_all _) (colD_length _)) ?_
          refine AOps_nil ?_
          refine AU_all [6, 9] (by kernel_rfl) rfl (allc ?_ (allc ?_ (fun _ h => nomatch h)))
          ·refine US_of 6 rfl rfl ?_
           refine AOps_q 49 _ rfl rfl rfl (QOp_load_eptr _ _ _ _ _ _ _ rfl Tryz.isAgg2 rfl rfl (intsD_get _ _ 0 (by omega))) ?_
           refine AOps_nil ?_
           exact AU_to (by kernel_rfl) hS3 (Weak_keep 1 hm [0, 2, 4, 6, 43, 46, 49, 50, 51] [1, 2] _ _ rfl rfl rfl)
          refine US_of 9 rfl rfl ?_
          refine AOps_q 52 _ rfl rfl rfl (QOp_load_ptr _ _ _ _ _ _ rfl Tryz.isAgg2 rfl rfl rfl) ?_
          refine AOps_nil ?_
          refine AU_all [6, 10] (by kernel_rfl) rfl (allc ?_ (allc ?_ (fun _ h => nomatch h)))
          ·refine US_of 6 rfl rfl ?_
           refine AOps_q 49 _ rfl rfl rfl (QOp_load_eptr _ _ _ _ _ _ _ rfl Tryz.isAgg2 rfl rfl (intsD_get _ _ 0 (by omega))) ?_
           refine AOps_nil ?_
           exact AU_to (by kernel_rfl) hS1 (Weak_keep 1 hm [0, 2, 4, 6, 43, 46, 49, 50, 52] [1, 2] _ _ rfl rfl rfl)
          refine US_of 10 rfl rfl ?_
          refine kC [0] 53 (iV r19.1) [.box (srcD r19.2), .box (colD Col.zero), .box (colD x14), .vec 0 (intsD r16.1)] rfl Tryz.call23 rfl rfl (spec_l01Next_ac r16.2 x14.k _ hr19) rfl ?_
          refine AOps_nil ?_
          refine AU_one 6 (by kernel_rfl) rfl rfl ?_
          refine AOps_q 49 _ rfl rfl rfl (QOp_load_eptr _ _ _ _ _ _ _ rfl Tryz.isAgg2 rfl rfl (intsD_get _ _ 0 (by omega))) ?_
          refine AOps_nil ?_
          exact AU_to (by kernel_rfl) hS0 (Weak_keep 1 hm [0, 2, 4, 6, 43, 46, 49, 53] [1, 2] _ _ rfl rfl rfl)
         ·refine US_of 6 rfl rfl ?_
          refine AOps_q 49 _ rfl rfl rfl (QOp_load_eptr _ _ _ _ _ _ _ rfl Tryz.isAgg2 rfl rfl (intsD_get _ _ 0 (by omega))) ?_
          refine AOps_nil ?_
          exact AU_to (by kernel_rfl) hS5 (Weak_keep 1 hm [0, 2, 4, 6, 46, 49, 50, 51] [1, 2] _ _ rfl rfl rfl)
         refine US_of 9 rfl rfl ?_
         refine AOps_q 52 _ rfl rfl rfl (QOp_load_ptr _ _ _ _ _ _ rfl Tryz.isAgg2 rfl rfl rfl) ?_
         refine AOps_nil ?_
         refine AU_all [0, 6, 10] (by kernel_rfl) rfl (allc ?_ (allc ?_ (allc ?_ (fun _ h => nomatch h))))
         ·refine US_of 0 rfl rfl ?_
          refine AOps_q 43 _ rfl rfl rfl (QOp_loadN_ptr _ _ _ _ _ _ _ rfl Tryz.isAgg26 Tryz.sizeOf26 rfl rfl (colD_all _) (colD_length _)) ?_
          refine AOps_nil ?_
          refine AU_all [6, 10] (by kernel_rfl) rfl (allc ?_ (allc ?_ (fun _ h => nomatch h)))
          ·refine US_of 6 rfl rfl ?_
           refine AOps_q 49 _ rfl rfl rfl (QOp_load_eptr _ _ _ _ _ _ _ rfl Tryz.isAgg2 rfl rfl (intsD_get _ _ 0 (by omega))) ?_
           refine AOps_nil ?_
           exact AU_to (by kernel_rfl) hS1 (Weak_keep 1 hm [0, 2, 4, 6, 43, 46, 49, 50, 52] [1, 2] _ _ rfl rfl rfl)
          refine US_of 10 rfl rfl ?_
          refine kC [0] 53 (iV r19.1) [.box (srcD r19.2), .box (colD Col.zero), .box (colD x14), .vec 0 (intsD r16.1)] rfl Tryz.call23 rfl rfl (spec_l01Next_ac r16.2 x14.k _ hr19) rfl ?_
          refine AOps_nil ?_
          refine AU_one 6 (by kernel_rfl) rfl rfl ?_
          refine AOps_q 49 _ rfl rfl rfl (QOp_load_eptr _ _ _ _ _ _ _ rfl Tryz.isAgg2 rfl rfl (intsD_get _ _ 0 (by omega))) ?_
          refine AOps_nil ?_
          exact AU_to (by kernel_rfl) hS0 (Weak_keep 1 hm [0, 2, 4, 6, 43, 46, 49, 53] [1, 2] _ _ rfl rfl rfl)
         ·refine US_of 6 rfl rfl ?_
          refine AOps_q 49 _ rfl rfl rfl (QOp_load_eptr _ _ _ _ _ _ _ rfl Tryz.isAgg2 rfl rfl (intsD_get _ _ 0 (by omega))) ?_
          refine AOps_nil ?_
          exact AU_to (by kernel_rfl) hS4 (Weak_keep 1 hm [0, 2, 4, 6, 46, 49, 50, 52] [1, 2] _ _ rfl rfl rfl)
         refine US_of 10 rfl rfl ?_
         refine kC [0] 53 (iV r19.1) [.box (srcD r19.2), .box (colD Col.zero), .box (colD x14), .vec 0 (intsD r16.1)] rfl Tryz.call23 rfl rfl (spec_l01Next_ac r16.2 x14.k _ hr19) rfl ?_
         refine AOps_nil ?_
         refine AU_all [0, 6] (by kernel_rfl) rfl (allc ?_ (allc ?_ (fun _ h => nomatch h)))
         ·refine US_of 0 rfl rfl ?_
          refine AOps_q 43 _ rfl rfl rfl (QOp_loadN_ptr _ _ _ _ _ _ _ rfl Tryz.isAgg26 Tryz.sizeOf26 rfl rfl (colD_all _) (colD_length _)) ?_
          refine AOps_nil ?_
          refine AU_one 6 (by kernel_rfl) rfl rfl ?_
          refine AOps_q 49 _ rfl rfl rfl (QOp_load_eptr _ _ _ _ _ _ _ rfl Tryz.isAgg2 rfl rfl (intsD_get _ _ 0 (by omega))) ?_
          refine AOps_nil ?_
          exact AU_to (by kernel_rfl) hS0 (Weak_keep 1 hm [0, 2, 4, 6, 43, 46, 49, 53] [1, 2] _ _ rfl rfl rfl)
         refine US_of 6 rfl rfl ?_
         refine AOps_q 49 _ rfl rfl rfl (QOp_load_eptr _ _ _ _ _ _ _ rfl Tryz.isAgg2 rfl rfl (intsD_get _ _ 0 (by omega))) ?_
         refine AOps_nil ?_
         exact AU_to (by kernel_rfl) hS2 (Weak_keep 1 hm [0, 2, 4, 6, 46, 49, 53] [1, 2] _ _ rfl rfl rfl)
        ·refine US_of 6 rfl rfl ?_
         refine AOps_q 49 _ rfl rfl rfl (QOp_load_eptr _ _ _ _ _ _ _ rfl Tryz.isAgg2 rfl rfl (intsD_get _ _ 0 (by omega))) ?_
         refine AOps_nil ?_
         refine AU_all [0, 3, 9] (by kernel_rfl) rfl (allc ?_ (allc ?_ (allc ?_ (fun _ h => nomatch h))))
         ·refine US_of 0 rfl rfl ?_
          refine AOps_q 43 _ rfl rfl rfl (QOp_loadN_ptr _ _ _ _ _ _ _ rfl Tryz.isAgg26 Tryz.sizeOf26 rfl rfl (colD_all _) (colD_length _)) ?_
          refine AOps_nil ?_
          refine AU_all [3, 9] (by kernel_rfl) rfl (allc ?_ (allc ?_ (fun _ h => nomatch h)))
          ·refine US_of 3 rfl rfl ?_
           refine AOps_q 46 _ rfl rfl rfl (QOp_load_eptr _ _ _ _ _ _ _ rfl Tryz.isAgg2 rfl rfl (intsD_get _ _ 0 (by omega))) ?_
           refine AOps_nil ?_
           exact AU_to (by kernel_rfl) hS3 (Weak_keep 1 hm [0, 2, 4, 6, 43, 46, 49, 50, 51] [1, 2] _ _ rfl rfl rfl)
          refine US_of 9 rfl rfl ?_
          refine AOps_q 52 _ rfl rfl rfl (QOp_load_ptr _ _ _ _ _ _ rfl Tryz.isAgg2 rfl rfl rfl) ?_
          refine AOps_nil ?_
          refine AU_all [3, 10] (by kernel_rfl) rfl (allc ?_ (allc ?_ (fun _ h => nomatch h)))
          ·refine US_of 3 rfl rfl ?_
           refine AOps_q 46 _ rfl rfl rfl (QOp_load_eptr _ _ _ _ _ _ _ rfl Tryz.isAgg2 rfl rfl (intsD_get _ _ 0 (by omega))) ?_
           refine AOps_nil ?_
           exact AU_to (by kernel_rfl) hS1 (Weak_keep 1 hm [0, 2, 4, 6, 43, 46, 49, 50, 52] [1, 2] _ _ rfl rfl rfl)
          refine US_of 10 rfl rfl ?_
          refine kC [0] 53 (iV r19.1) [.box (srcD r19.2), .box (colD Col.zero), .box (colD x14), .vec 0 (intsD r16.1)] rfl Tryz.call23 rfl rfl (spec_l01Next_ac r16.2 x14.k _ hr19) rfl ?_
          refine AOps_nil ?_
          refine AU_one 3 (by kernel_rfl) rfl rfl ?_
          refine AOps_q 46 _ rfl rfl rfl (QOp_load_eptr _ _ _ _ _ _ _ rfl Tryz.isAgg2 rfl rfl (intsD_get _ _ 0 (by omega))) ?_
          refine AOps_nil ?_
          exact AU_to (by kernel_rfl) hS0 (Weak_keep 1 hm [0, 2, 4, 6, 43, 46, 49, 53] [1, 2] _ _ rfl rfl rfl)
         ·refine US_of 3 rfl rfl ?_
          refine AOps_q 46 _ rfl rfl rfl (QOp_load_eptr _ _ _ _ _ _ _ rfl Tryz.isAgg2 rfl rfl (intsD_get _ _ 0 (by omega))) ?_
          refine AOps_nil ?_
          exact AU_to (by kernel_rfl) hS5 (Weak_keep 1 hm [0, 2, 4, 6, 46, 49, 50, 51] [1, 2] _ _ rfl rfl rfl)
         refine US_of 9 rfl rfl ?_
         refine AOps_q 52 _ rfl rfl rfl (QOp_load_ptr _ _ _ _ _ _ rfl Tryz.isAgg2 rfl rfl rfl) ?_
         refine AOps_nil ?_
         refine AU_all [0, 3, 10] (by kernel_rfl) rfl (allc ?_ (allc ?_ (allc ?_ (fun _ h => nomatch h))))
         ·refine US_of 0 rfl rfl ?_
          refine AOps_q 43 _ rfl rfl rfl (QOp_loadN_ptr _ _ _ _ _ _ _ rfl Tryz.isAgg26 Tryz.sizeOf26 rfl rfl (colD_all _) (colD_length _)) ?_
          refine AOps_nil ?_
          refine AU_all [3, 10] (by kernel_rfl) rfl (allc ?_ (allc ?_ (fun _ h => nomatch h)))
          ·refine US_of 3 rfl rfl ?_
           refine AOps_q 46 _ rfl rfl rfl (QOp_load_eptr _ _ _ _ _ _ _ rfl Tryz.isAgg2 rfl rfl (intsD_get _ _ 0 (by omega))) ?_
           refine AOps_nil ?_
           exact AU_to (by kernel_rfl) hS1 (Weak_keep 1 hm [0, 2, 4, 6, 43, 46, 49, 50, 52] [1, 2] _ _ rfl rfl rfl)
          refine US_of 10 rfl rfl ?_
          refine kC [0] 53 (iV r19.1) [.box (srcD r19.2), .box (colD Col.zero), .box (colD x14), .vec 0 (intsD r16.1)] rfl Tryz.call23 rfl rfl (spec_l01Next_ac r16.2 x14.k _ hr19) rfl ?_
          refine AOps_nil ?_
          refine AU_one 3 (by kernel_rfl) rfl rfl ?_
          refine AOps_q 46 _ rfl rfl rfl (QOp_load_eptr _ _ _ _ _ _ _ rfl Tryz.isAgg2 rfl rfl (intsD_get _ _ 0 (by omega))) ?_
          refine AOps_nil ?_
          exact AU_to (by kernel_rfl) hS0 (Weak_keep 1 hm [0, 2, 4, 6, 43, 46, 49, 53] [1, 2] _ _ rfl rfl rfl)
         ·refine US_of 3 rfl rfl ?_
          refine AOps_q 46 _ rfl rfl rfl (QOp_load_eptr _ _ _ _ _ _ _ rfl Tryz.isAgg2 rfl rfl (intsD_get _ _ 0 (by omega))) ?_
          refine AOps_nil ?_
          exact AU_to (by kernel_rfl) hS4 (Weak_keep 1 hm [0, 2, 4, 6, 46, 49, 50, 52] [1, 2] _ _ rfl rfl rfl)
         refine US_of 10 rfl rfl ?_
         refine kC [0] 53 (iV r19.1) [.box (srcD r19.2), .box (colD Col.zero), .box (colD x14), .vec 0 (intsD r16.1)] rfl Tryz.call23 rfl rfl (spec_l01Next_ac r16.2 x14.k _ hr19) rfl ?_
         refine AOps_nil ?_
         refine AU_all [0, 3] (by kernel_rfl) rfl (allc ?_ (allc ?_ (fun _ h => nomatch h)))
         ·refine US_of 0 rfl rfl ?_
          refine AOps_q 43 _ rfl rfl rfl (QOp_loadN_ptr _ _ _ _ _ _ _ rfl Tryz.isAgg26 Tryz.sizeOf26 rfl rfl (colD_all _) (colD_length _)) ?_
          refine AOps_nil ?_
          refine AU_one 3 (by kernel_rfl) rfl rfl ?_
          refine AOps_q 46 _ rfl rfl rfl (QOp_load_eptr _ _ _ _ _ _ _ rfl Tryz.isAgg2 rfl rfl (intsD_get _ _ 0 (by omega))) ?_
          refine AOps_nil ?_
          exact AU_to (by kernel_rfl) hS0 (Weak_keep 1 hm [0, 2, 4, 6, 43, 46, 49, 53] [1, 2] _ _ rfl rfl rfl)
         refine US_of 3 rfl rfl ?_
         refine AOps_q 46 _ rfl rfl rfl (QOp_load_eptr _ _ _ _ _ _ _ rfl Tryz.isAgg2 rfl rfl (intsD_get _ _ 0 (by omega))) ?_
         refine AOps_nil ?_
         exact AU_to (by kernel_rfl) hS2 (Weak_keep 1 hm [0, 2, 4, 6, 46, 49, 53] [1, 2] _ _ rfl rfl rfl)
        refine US_of 9 rfl rfl ?_
        refine AOps_q 52 _ rfl rfl rfl (QOp_load_ptr _ _ _ _ _ _ rfl Tryz.isAgg2 rfl rfl rfl) ?_
        refine AOps_nil ?_
        refine AU_all [0, 3, 6, 10] (by kernel_rfl) rfl (allc ?_ (allc ?_ (allc ?_ (allc ?_ (fun _ h => nomatch h)))))
        ·refine US_of 0 rfl rfl ?_
         refine AOps_q 43 _ rfl rfl rfl (QOp_loadN_ptr _ _ _ _ _ _ _ rfl Tryz.isAgg26 Tryz.sizeOf26 rfl rfl (colD_all _) (colD_length _)) ?_
         refine AOps_nil ?_
         refine AU_all [3, 6, 10] (by kernel_rfl) rfl (allc ?_ (allc ?_ (allc ?_ (fun _ h => nomatch h))))
         ·refine US_of 3 rfl rfl ?_
          refine AOps_q 46 _ rfl rfl rfl (QOp_load_eptr _ _ _ _ _ _ _ rfl Tryz.isAgg2 rfl rfl (intsD_get _ _ 0 (by omega))) ?_
          refine AOps_nil ?_
          refine AU_all [6, 10] (by kernel_rfl) rfl (allc ?_ (allc ?_ (fun _ h => nomatch h)))
          ·refine US_of 6 rfl rfl ?_
           refine AOps_q 49 _ rfl rfl rfl (QOp_load_eptr _ _ _ _ _ _ _ rfl Tryz.isAgg2 rfl rfl (intsD_get _ _ 0 (by omega))) ?_
           refine AOps_nil ?_
           exact AU_to (by kernel_rfl) hS1 (Weak_keep 1 hm [0, 2, 4, 6, 43, 46, 49, 50, 52] [1, 2] _ _ rfl rfl rfl)
          refine US_of 10 rfl rfl ?_
          refine kC [0] 53 (iV r19.1) [.box (srcD r19.2), .box (colD Col.zero), .box (colD x14), .vec 0 (intsD r16.1)] rfl Tryz.call23 rfl rfl (spec_l01Next_ac r16.2 x14.k _ hr19) rfl ?_
          refine AOps_nil ?_
          refine AU_one 6 (by kernel_rfl) rfl rfl ?_
          refine AOps_q 49 _ rfl rfl rfl (QOp_load_eptr _ _ _ _ _ _ _ rfl Tryz.isAgg2 rfl rfl (intsD_get _ _ 0 (by omega))) ?_
          refine AOps_nil ?_
          exact AU_to (by kernel_rfl) hS0 (Weak_keep 1 hm [0, 2, 4, 6, 43, 46, 49, 53] [1, 2] _ _ rfl rfl rfl)
         ·refine US_of 6 rfl rfl ?_
          refine AOps_q 49 _ rfl rfl rfl (QOp_load_eptr _ _ _ _ _ _ _ rfl Tryz.isAgg2 rfl rfl (intsD_get _ _ 0 (by omega))) ?_
          refine AOps_nil ?_
          refine AU_all [3, 10] (by kernel_rfl) rfl (allc ?_ (allc ?_ (fun _ h => nomatch h)))
          ·refine US_of 3 rfl rfl ?_
           refine AOps_q 46 _ rfl rfl rfl (QOp_load_eptr _ _ _ _ _ _ _ rfl Tryz.isAgg2 rfl rfl (intsD_get _ _ 0 (by omega))) ?_
           refine AOps_nil ?_
           exact AU_to (by kernel_rfl) hS1 (Weak_keep 1 hm [0, 2, 4, 6, 43, 46, 49, 50, 52] [1, 2] _ _ rfl rfl rfl)
          refine US_of 10 rfl rfl ?_
          refine kC [0] 53 (iV r19.1) [.box (srcD r19.2), .box (colD Col.zero), .box (colD x14), .vec 0 (intsD r16.1)] rfl Tryz.call23 rfl rfl (spec_l01Next_ac r16.2 x14.k _ hr19) rfl ?_
          refine AOps_nil ?_
          refine AU_one 3 (by kernel_rfl) rfl rfl ?_
          refine AOps_q 46 _ rfl rfl rfl (QOp_load_eptr _ _ _ _ _ _ _ rfl Tryz.isAgg2 rfl rfl (intsD_get _ _ 0 (by omega))) ?_
          refine AOps_nil ?_
          exact AU_to (by kernel_rfl) hS0 (Weak_keep 1 hm [0, 2, 4, 6, 43, 46, 49, 53] [1, 2] _ _ rfl rfl rfl)
         refine US_of 10 rfl rfl ?_
         refine kC [0] 53 (iV r19.1) [.box (srcD r19.2), .box (colD Col.zero), .box (colD x14), .vec 0 (intsD r16.1)] rfl Tryz.call23 rfl rfl (spec_l01Next_ac r16.2 x14.k _ hr19) rfl ?_
         refine AOps_nil ?_
         refine AU_all [3, 6] (by kernel_rfl) rfl (allc ?_ (allc ?_ (fun _ h => nomatch h)))
         ·refine US_of 3 rfl rfl ?_
          refine AOps_q 46 _ rfl rfl rfl (QOp_load_eptr _ _ _ _ _ _ _ rfl Tryz.isAgg2 rfl rfl (intsD_get _ _ 0 (by omega))) ?_
          refine AOps_nil ?_
          refine AU_one 6 (by kernel_rfl) rfl rfl ?_
          refine AOps_q 49 _ rfl rfl rfl (QOp_load_eptr _ _ _ _ _ _ _ rfl Tryz.isAgg2 rfl rfl (intsD_get _ _ 0 (by omega))) ?_
          refine AOps_nil ?_
          exact AU_to (by kernel_rfl) hS0 (Weak_keep 1 hm [0, 2, 4, 6, 43, 46, 49, 53] [1, 2] _ _ rfl rfl rfl)
         refine US_of 6 rfl rfl ?_
         refine AOps_q 49 _ rfl rfl rfl (QOp_load_eptr _ _ _ _ _ _ _ rfl Tryz.isAgg2 rfl rfl (intsD_get _ _ 0 (by omega))) ?_
         refine AOps_nil ?_
         refine AU_one 3 (by kernel_rfl) rfl rfl ?_
         refine AOps_q 46 _ rfl rfl rfl (QOp_load_eptr _ _ _ _ _ _ _ rfl Tryz.isAgg2 rfl rfl (intsD_get _ _ 0 (by omega))) ?_
         refine AOps_nil ?_
         exact AU_to (by kernel_rfl) hS0 (Weak_keep 1 hm [0, 2, 4, 6, 43, 46, 49, 53] [1, 2] _ _ rfl rfl rfl)
        ·refine US_of 3 rfl rfl ?_
         refine AOps_q 46 _ rfl rfl rfl (QOp_load_eptr _ _ _ _ _ _ _ rfl Tryz.isAgg2 rfl rfl (intsD_get _ _ 0 (by omega))) ?_
         refine AOps_nil ?_
         refine AU_all [0, 6, 10] (by kernel_rfl) rfl (allc ?_ (allc ?_ (allc ?_ (fun _ h => nomatch h))))
         ·refine US_of 0 rfl rfl ?_
          refine AOps_q 43 _ rfl rfl rfl (QOp_loadN_ptr _ _ _ _ _ _ _ rfl Tryz.isAgg26 Tryz.sizeOf26 rfl rfl (colD_all _) (colD_length _)) ?_
          refine AOps_nil ?_
          refine AU_all [6, 10] (by kernel_rfl) rfl (allc ?_ (allc ?_ (fun _ h => nomatch h)))
          ·refine US_of 6 rfl rfl ?_
           refine AOps_q 49 _ rfl rfl rfl (QOp_load_eptr _ _ _ _ _ _ _ rfl Tryz.isAgg2 rfl rfl (intsD_get _ _ 0 (by omega))) ?_
           refine AOps_nil ?_
           exact AU_to (by kernel_rfl) hS1 (Weak_keep 1 hm [0, 2, 4, 6, 43, 46, 49, 50, 52] [1, 2] _ _ rfl rfl rfl)
          refine US_of 10 rfl rfl ?_
          refine kC [0] 53 (iV r19.1) [.box (srcD r19.2), .box (colD Col.zero), .box (colD x14), .vec 0 (intsD r16.1)] rfl Tryz.call23 rfl rfl (spec_l01Next_ac r16.2 x14.k _ hr19) rfl ?_
          refine AOps_nil ?_
          refine AU_one 6 (by kernel_rfl) rfl rfl ?_
          refine AOps_q 49 _ rfl rfl rfl (QOp_load_eptr _ _ _ _ _ _ _ rfl Tryz.isAgg2 rfl rfl (intsD_get _ _ 0 (by omega))) ?_
          refine AOps_nil ?_
          exact AU_to (by kernel_rfl) hS0 (Weak_keep 1 hm [0, 2, 4, 6, 43, 46, 49, 53] [1, 2] _ _ rfl rfl rfl)
         ·refine US_of 6 rfl rfl ?_
          refine AOps_q 49 _ rfl rfl rfl (QOp_load_eptr _ _ _ _ _ _ _ rfl Tryz.isAgg2 rfl rfl (intsD_get _ _ 0 (by omega))) ?_
          refine AOps_nil ?_
          exact AU_to (by kernel_rfl) hS4 (Weak_keep 1 hm [0, 2, 4, 6, 46, 49, 50, 52] [1, 2] _ _ rfl rfl rfl)
         refine US_of 10 rfl rfl ?_
         refine kC [0] 53 (iV r19.1) [.box (srcD r19.2), .box (colD Col.zero), .box (colD x14), .vec 0 (intsD r16.1)] rfl Tryz.call23 rfl rfl (spec_l01Next_ac r16.2 x14.k _ hr19) rfl ?_
         refine AOps_nil ?_
         refine AU_all [0, 6] (by kernel_rfl) rfl (allc ?_ (allc ?_ (fun _ h => nomatch h)))
         ·refine US_of 0 rfl rfl ?_
          refine AOps_q 43 _ rfl rfl rfl (QOp_loadN_ptr _ _ _ _ _ _ _ rfl Tryz.isAgg26 Tryz.sizeOf26 rfl rfl (colD_all _) (colD_length _)) ?_
          refine AOps_nil ?_
          refine AU_one 6 (by kernel_rfl) rfl rfl ?_
          refine AOps_q 49 _ rfl rfl rfl (QOp_load_eptr _ _ _ _ _ _ _ rfl Tryz.isAgg2 rfl rfl (intsD_get _ _ 0 (by omega))) ?_
          refine AOps_nil ?_
          exact AU_to (by kernel_rfl) hS0 (Weak_keep 1 hm [0, 2, 4, 6, 43, 46, 49, 53] [1, 2] _ _ rfl rfl rfl)
         refine US_of 6 rfl rfl ?_
         refine AOps_q 49 _ rfl rfl rfl (QOp_load_eptr _ _ _ _ _ _ _ rfl Tryz.isAgg2 rfl rfl (intsD_get _ _ 0 (by omega))) ?_
         refine AOps_nil ?_
         exact AU_to (by kernel_rfl) hS2 (Weak_keep 1 hm [0, 2, 4, 6, 46, 49, 53] [1, 2] _ _ rfl rfl rfl)
        ·refine US_of 6 rfl rfl ?_
         refine AOps_q 49 _ rfl rfl rfl (QOp_load_eptr _ _ _ _ _ _ _ rfl Tryz.isAgg2 rfl rfl (intsD_get _ _ 0 (by omega))) ?_
         refine AOps_nil ?_
         refine AU_all [0, 3, 10] (by kernel_rfl) rfl (allc ?_ (allc ?_ (allc ?_ (fun _ h => nomatch h))))
         ·refine US_of 0 rfl rfl ?_
          refine AOps_q 43 _ rfl rfl rfl (QOp_loadN_ptr _ _ _ _ _ _ _ rfl Tryz.isAgg26 Tryz.sizeOf26 rfl rfl (colD_all _) (colD_length _)) ?_
          refine AOps_nil ?_
          refine AU_all [3, 10] (by kernel_rfl) rfl (allc ?_ (allc ?_ (fun _ h => nomatch h)))
          ·refine US_of 3 rfl rfl ?_
           refine AOps_q 46 _ rfl rfl rfl (QOp_load_eptr _ _ _ _ _ _ _ rfl Tryz.isAgg2 rfl rfl (intsD_get _ _ 0 (by omega))) ?_
           refine AOps_nil ?_
           exact AU_to (by kernel_rfl) hS1 (Weak_keep 1 hm [0, 2, 4, 6, 43, 46, 49, 50, 52] [1, 2] _ _ rfl rfl rfl)
          refine US_of 10 rfl rfl ?_
          refine kC [0] 53 (iV r19.1) [.box (srcD r19.2), .box (colD Col.zero), .box (colD x14), .vec 0 (intsD r16.1)] rfl Tryz.call23 rfl rfl (spec_l01Next_ac r16.2 x14.k _ hr19) rfl ?_
          refine AOps_nil ?_
          refine AU_one 3 (by kernel_rfl) rfl rfl ?_
          refine AOps_q 46 _ rfl rfl rfl (QOp_load_eptr _ _ _ _ _ _ _ rfl Tryz.isAgg2 rfl rfl (intsD_get _ _ 0 (by omega))) ?_
          refine AOps_nil ?_
          exact AU_to (by kernel_rfl) hS0 (Weak_keep 1 hm [0, 2, 4, 6, 43, 46, 49, 53] [1, 2] _ _ rfl rfl rfl)
         ·refine US_of 3 rfl rfl ?_
          refine AOps_q 46 _ rfl rfl rfl (QOp_load_eptr _ _ _ _ _ _ _ rfl Tryz.isAgg2 rfl rfl (intsD_get _ _ 0 (by omega))) ?_
          refine AOps_nil ?_
          exact AU_to (by kernel_rfl) hS4 (Weak_keep 1 hm [0, 2, 4, 6, 46, 49, 50, 52] [1, 2] _ _ rfl rfl rfl)
         refine US_of 10 rfl rfl ?_
         refine kC [0] 53 (iV r19.1) [.box (srcD r19.2), .box (colD Col.zero), .box (colD x14), .vec 0 (intsD r16.1)] rfl Tryz.call23 rfl rfl (spec_l01Next_ac r16.2 x14.k _ hr19) rfl ?_
         refine AOps_nil ?_
         refine AU_all [0, 3] (by kernel_rfl) rfl (allc ?_ (allc ?_ (fun _ h => nomatch h)))
         ·refine US_of 0 rfl rfl ?_
          refine AOps_q 43 _ rfl rfl rfl (QOp_loadN_ptr _ _ _ _ _ _ _ rfl Tryz.isAgg26 Tryz.sizeOf26 rfl rfl (colD_all _) (colD_length _)) ?_
          refine AOps_nil ?_
          refine AU_one 3 (by kernel_rfl) rfl rfl ?_
          refine AOps_q 46 _ rfl rfl rfl (QOp_load_eptr _ _ _ _ _ _ _ rfl Tryz.isAgg2 rfl rfl (intsD_get _ _ 0 (by omega))) ?_
          refine AOps_nil ?_
          exact AU_to (by kernel_rfl) hS0 (Weak_keep 1 hm [0, 2, 4, 6, 43, 46, 49, 53] [1, 2] _ _ rfl rfl rfl)
         refine US_of 3 rfl rfl ?_
         refine AOps_q 46 _ rfl rfl rfl (QOp_load_eptr _ _ _ _ _ _ _ rfl Tryz.isAgg2 rfl rfl (intsD_get _ _ 0 (by omega))) ?_
         refine AOps_nil ?_
         exact AU_to (by kernel_rfl) hS2 (Weak_keep 1 hm [0, 2, 4, 6, 46, 49, 53] [1, 2] _ _ rfl rfl rfl)
        refine US_of 10 rfl rfl ?_
        refine kC [0] 53 (iV r19.1) [.box (srcD r19.2), .box (colD Col.zero), .box (colD x14), .vec 0 (intsD r16.1)] rfl Tryz.call23 rfl rfl (spec_l01Next_ac r16.2 x14.k _ hr19) rfl ?_
        refine AOps_nil ?_
        refine AU_all [0, 3, 6] (by kernel_rfl) rfl (allc ?_ (allc ?_ (allc ?_ (fun _ h => nomatch h))))
        ·refine US_of 0 rfl rfl ?_
         refine AOps_q 43 _ rfl rfl rfl (QOp_loadN_ptr _ _ _ _ _ _ _ rfl Tryz.isAgg26 Tryz.sizeOf26 rfl rfl (colD_all _) (colD_length _)) ?_
         refine AOps_nil ?_
         refine AU_all [3, 6] (by kernel_rfl) rfl (allc ?_ (allc ?_ (fun _ h => nomatch h)))
         ·refine US_of 3 rfl rfl ?_
          refine AOps_q 46 _ rfl rfl rfl (QOp_load_eptr _ _ _ _ _ _ _ rfl Tryz.isAgg2 rfl rfl (intsD_get _ _ 0 (by omega))) ?_
          refine AOps_nil ?_
          refine AU_one 6 (by kernel_rfl) rfl rfl ?_
          refine AOps_q 49 _ rfl rfl rfl (QOp_load_eptr _ _ _ _ _ _ _ rfl Tryz.isAgg2 rfl rfl (intsD_get _ _ 0 (by omega))) ?_
          refine AOps_nil ?_
          exact AU_to (by kernel_rfl) hS0 (Weak_keep 1 hm [0, 2, 4, 6, 43, 46, 49, 53] [1, 2] _ _ rfl rfl rfl)
         refine US_of 6 rfl rfl ?_
         refine AOps_q 49 _ rfl rfl rfl (QOp_load_eptr _ _ _ _ _ _ _ rfl Tryz.isAgg2 rfl rfl (intsD_get _ _ 0 (by omega))) ?_
         refine AOps_nil ?_
         refine AU_one 3 (by kernel_rfl) rfl rfl ?_
         refine AOps_q 46 _ rfl rfl rfl (QOp_load_eptr _ _ _ _ _ _ _ rfl Tryz.isAgg2 rfl rfl (intsD_get _ _ 0 (by omega))) ?_
         refine AOps_nil ?_
         exact AU_to (by kernel_rfl) hS0 (Weak_keep 1 hm [0, 2, 4, 6, 43, 46, 49, 53] [1, 2] _ _ rfl rfl rfl)
        ·refine US_of 3 rfl rfl ?_
         refine AOps_q 46 _ rfl rfl rfl (QOp_load_eptr _ _ _ _ _ _ _ rfl Tryz.isAgg2 rfl rfl (intsD_get _ _ 0 (by omega))) ?_
         refine AOps_nil ?_
         refine AU_all [0, 6] (by kernel_rfl) rfl (allc ?_ (allc ?_ (fun _ h => nomatch h)))
         ·refine US_of 0 rfl rfl ?_
          refine AOps_q 43 _ rfl rfl rfl (QOp_loadN_ptr _ _ _ _ _ _ _ rfl Tryz.isAgg26 Tryz.sizeOf26 rfl rfl (colD_all _) (colD_length _)) ?_
          refine AOps_nil ?_
          refine AU_one 6 (by kernel_rfl) rfl rfl ?_
          refine AOps_q 49 _ rfl rfl rfl (QOp_load_eptr _ _ _ _ _ _ _ rfl Tryz.isAgg2 rfl rfl (intsD_get _ _ 0 (by omega))) ?_
          refine AOps_nil ?_
          exact AU_to (by kernel_rfl) hS0 (Weak_keep 1 hm [0, 2, 4, 6, 43, 46, 49, 53] [1, 2] _ _ rfl rfl rfl)
         refine US_of 6 rfl rfl ?_
         refine AOps_q 49 _ rfl rfl rfl (QOp_load_eptr _ _ _ _ _ _ _ rfl Tryz.isAgg2 rfl rfl (intsD_get _ _ 0 (by omega))) ?_
         refine AOps_nil ?_
         exact AU_to (by kernel_rfl) hS2 (Weak_keep 1 hm [0, 2, 4, 6, 46, 49, 53] [1, 2] _ _ rfl rfl rfl)
        refine US_of 6 rfl rfl ?_
        refine AOps_q 49 _ rfl rfl rfl (QOp_load_eptr _ _ _ _ _ _ _ rfl Tryz.isAgg2 rfl rfl (intsD_get _ _ 0 (by omega))) ?_
        refine AOps_nil ?_
        refine AU_all [0, 3] (by kernel_rfl) rfl (allc ?_ (allc ?_ (fun _ h => nomatch h)))
        ·refine US_of 0 rfl rfl ?_
         refine AOps_q 43 _ rfl rfl rfl (QOp_loadN_ptr _ _ _ _ _ _ _ rfl Tryz.isAgg26 Tryz.sizeOf26 rfl rfl (colD_all _) (colD_length _)) ?_
         refine AOps_nil ?_
         refine AU_one 3 (by kernel_rfl) rfl rfl ?_
         refine AOps_q 46 _ rfl rfl rfl (QOp_load_eptr _ _ _ _ _ _ _ rfl Tryz.isAgg2 rfl rfl (intsD_get _ _ 0 (by omega))) ?_
         refine AOps_nil ?_
         exact AU_to (by kernel_rfl) hS0 (Weak_keep 1 hm [0, 2, 4, 6, 43, 46, 49, 53] [1, 2] _ _ rfl rfl rfl)
        refine US_of 3 rfl rfl ?_
        refine AOps_q 46 _ rfl rfl rfl (QOp_load_eptr _ _ _ _ _ _ _ rfl Tryz.isAgg2 rfl rfl (intsD_get _ _ 0 (by omega))) ?_
        refine AOps_nil ?_
        exact AU_to (by kernel_rfl) hS2 (Weak_keep 1 hm [0, 2, 4, 6, 46, 49, 53] [1, 2] _ _ rfl rfl rfl)
       refine (ACode_region ?_)
       refine kM 1 rfl ?_
       refine AOps_q 38 _ rfl rfl rfl (QOp_sub _ _ _ _ _ _ _ rfl rfl rfl) ?_
       refine kN 1 rfl ?_
       exact ⟨k0, _, _, Nat.lt_succ_self _, Weak_keep 1 hm [0, 2, 4, 6] [1, 2] _ _ rfl rfl rfl, _, _, _, rfl, rfl, h⟩
      refine ACode_exit ?_
      cases h
      exact Weak_keep 1 hm [2, 4] [1, 2] _ _ rfl rfl rfl
    refine ACode_skip ?_
    cases h
    exact Weak_keep 1 hm [2, 4] [1, 2] _ _ rfl rfl rfl
   refine kR ?_
   refine AOps_q 55 _ rfl rfl rfl (QOp_loadN_ptr _ _ _ _ _ _ _ rfl Tryz.isAgg26 Tryz.sizeOf26 rfl rfl (colD_all _) (colD_length _)) ?_
   refine AOps_store _ _ _ _ _ _ (colD _) _ _ rfl rfl rfl rfl rfl rfl rfl (colD_one _) (by rw [colD_length]; exact Tryz.sizeOf26) (by rw [colD_length, colD_length]; decide) (colD_whole _ _) ?_
   refine AOps_nil ?_
   refine ACode_ret ?_
   cases h
   have h := hks26
   cases h
   exact ⟨_, _, fun r a w h => ⟨r, h⟩, _, _, [], _, (.cons (ResV_agg _ _ _ _ _ _ Tryz.isAgg26 Tryz.sizeOf26 rfl rfl (colD_take _) (colD_length _)) .nil), rfl, rfl, rfl, rfl, rfl⟩
  refine kR ?_
  refine AOps_q 57 _ rfl rfl rfl (QOp_eql _ _ _ _ _ _ _ rfl rfl rfl) ?_
  refine kN 1 rfl ?_
  refine kI h rfl (fun h _ => ?_) (fun h _ => ?_)
  ·refine kR ?_
   refine kM 2 rfl ?_
   obtain ⟨r23, hr23, h⟩ := bindO h
   refine kC [0] 60 (iV r23.1) [.box (srcD r23.2), .box (colD Col.zero)] rfl Tryz.call23 rfl rfl (spec_l01Next_ac r1.2 17 _ hr23) rfl ?_
   refine AOps_q 61 _ rfl rfl rfl (QOp_add _ _ _ _ _ _ _ rfl rfl rfl) ?_
   refine kM 1 rfl ?_
   refine AOps_buildSlice 63 _ _ _ [_, _, _, _] (intsD ([2, 2, 3, 4])) _ rfl rfl rfl rfl rfl (by decide) Tryz.underlying40 Tryz.sizeOf2 (zero_of Tryz.typeInfo2 rfl) rfl rfl (intsD_one _) ?_
   refine AOps_freezeL [63] 2 0 _ (allc (rfl) (fun _ h => nomatch h)) rfl ?_
   obtain ⟨r24, hr24, h⟩ := bindO h
   refine kC [0] 64 (iV r24.1) [.box (srcD r24.2), .box (colD Col.zero), .gone] rfl Tryz.call59 rfl rfl (spec_l01Pick_ac r23.2 ([2, 2, 3, 4]) _ hr24) rfl ?_
   obtain ⟨r25, hr25, h⟩ := bindO h
   refine kC [0] 65 (.d (.agg (colD r25.1))) [.box (srcD r25.2), .box (colD Col.zero), .gone] rfl Tryz.call62 rfl rfl (spec_l01DrawOf_ac k r24.2 (w64 (1 + r23.1)) r24.1 _ hr25) rfl ?_
   refine AOps_store _ _ _ _ _ _ (colD _) _ _ rfl rfl rfl rfl rfl rfl rfl (colD_one _) (by rw [colD_length]; exact Tryz.sizeOf26) (by rw [colD_length, colD_length]; decide) (colD_whole _ _) ?_
   refine AOps_nil ?_
   refine ACode_ret ?_
   cases h
   have h := hks26
   cases h
   exact ⟨_, _, fun r a w h => ⟨r, h⟩, _, _, [], _, (.cons (ResV_agg _ _ _ _ _ _ Tryz.isAgg26 Tryz.sizeOf26 rfl rfl (colD_take _) (colD_length _)) .nil), rfl, rfl, rfl, rfl, rfl⟩
  refine ACode_skip ?_
  cases h
  exact ⟨_, rfl, Weak_keep 1 hm [0, 2] [1] _ _ rfl rfl rfl⟩
 refine kR ?_
 refine kM 1 rfl ?_
 obtain ⟨r27, hr27, h⟩ := bindO h
 refine kC [0] 67 (.d (.agg (colD r27.1))) [.box (srcD r27.2), .box (colD Col.zero)] rfl Tryz.call26 rfl rfl (spec_l01Small_ac k s26 _ hr27) rfl ?_
 refine AOps_store _ _ _ _ _ _ (colD _) _ _ rfl rfl rfl rfl rfl rfl rfl (colD_one _) (by rw [colD_length]; exact Tryz.sizeOf26) (by rw [colD_length, colD_length]; decide) (colD_whole _ _) ?_
 refine AOps_nil ?_
 refine ACode_ret ?_
 cases h
 exact ⟨_, _, fun r a w h => ⟨r, h⟩, _, _, [], _, (.cons (ResV_agg _ _ _ _ _ _ Tryz.isAgg26 Tryz.sizeOf26 rfl rfl (colD_take _) (colD_length _)) .nil), rfl, rfl, rfl, rfl, rfl⟩

def spec_l01Bad (p0 : Src) (p1 : Col) : Option (Col × Src) :=
 ((spec_l01Next p0 50).bind fun r1 => (if decide (r1.1 = 0) then (spec_l01Pick r1.2 ([0, 18, (-1), w64 (p1.p - 1)])).bind fun r3 => some (r3.2, (⟨r3.1, p1.k, p1.e⟩ : Col)) else (if decide (r1.1 = 1) then (spec_l01Pick r1.2 ([0, 5, (-1)])).bind fun r5 => some (r5.2, (⟨p1.p, r5.1, p1.e⟩ : Col)) else (if decide (r1.1 = 2) then (spec_l01Next r1.2 136).bind fun r7 => (spec_l01Pick r7.2 ([1, 4, 200])).bind fun r8 => (if 0 ≤ r7.1 ∧ r7.1 < 136 then some (r8.2, p1.set r7.1.toNat (toByte r8.1)) else none) else some (r1.2, p1)))) : Option (Src × Col)).bind fun s10 => some (s10.2, s10.1)
theorem spec_l01Bad_ac (p0 : Src) (p1 : Col) (r : Col × Src) (h : spec_l01Bad p0 p1 = some r) : AC Tryz.prog 25 [.ptr 0 0, .d (.agg (colD p1))] [.box (srcD p0)] (fun res H' => res = [.d (.agg (colD r.1))] ∧ H' = [.box (srcD r.2)]) := by
 refine AC_of_body true Tryz.func25 rfl Tryz.ntmps25 (rvs := [.cell 4 26]) rfl rfl (fun G hG => ?_)
 have hm : G.H.length = 1 := by rw [hG]; rfl
 have hz : zeroG G.H = true := by rw [hG]; rfl
 unfold spec_l01Bad at h
 refine kR ?_
 refine AOps_boxM 3 _ _ (.agg (colD p1)) (colD p1) rfl (colD_one _) rfl rfl rfl rfl rfl ?_
 refine AOps_alloc 4 _ _ (colD Col.zero) (zero_of Tryz.typeInfo26 rfl) (by rfl) rfl rfl rfl rfl ?_
 refine AOps_nil ?_
 refine kB (fun s10 => [(3, .ptr 1 0), (4, .ptr 2 0)]) (fun s10 => [.box (srcD s10.1), .box (colD s10.2), .box (colD Col.zero)]) h (fun s10 h => ?_) (fun s10 h => ?_)
 ·refine kR ?_
  refine kM 1 rfl ?_
  obtain ⟨r1, hr1, h⟩ := bindO h
  refine kC [0] 6 (iV r1.1) [.box (srcD r1.2), .box (colD p1), .box (colD Col.zero)] rfl Tryz.call23 rfl rfl (spec_l01Next_ac p0 50 _ hr1) rfl ?_
  refine AOps_nil ?_
  refine ACode_block ?_
  refine kR ?_
  refine AOps_q 8 _ rfl rfl rfl (QOp_eql _ _ _ _ _ _ _ rfl rfl rfl) ?_
  refine kN 1 rfl ?_
  refine kI h rfl (fun h _ => ?_) (fun h _ => ?_)
  ·refine (ACode_region ?_)
   refine kM 1 rfl ?_
   refine AOps_q 10 _ rfl rfl rfl (QOp_fieldAddr_ptr _ _ _ _ _ _ 0 _ _ rfl Tryz.underlying26 rfl _ Tryz.sizeOf2 rfl rfl rfl rfl) ?_
   refine AOps_q 11 _ rfl rfl rfl (QOp_load_ptr _ _ _ _ _ _ rfl Tryz.isAgg2 rfl rfl rfl) ?_
   refine AOps_q 12 _ rfl rfl rfl (QOp_sub _ _ _ _ _ _ _ rfl rfl rfl) ?_
   refine AOps_buildSlice 13 _ _ _ [_, _, _, _] (intsD ([0, 18, (-1), w64 (p1.p - 1)])) _ rfl rfl rfl rfl rfl (by decide) Tryz.underlying40 Tryz.sizeOf2 (zero_of Tryz.typeInfo2 rfl) rfl rfl (intsD_one _) ?_
   refine AOps_freezeL [13] 3 0 _ (allc (rfl) (fun _ h => nomatch h)) rfl ?_
   obtain ⟨r3, hr3, h⟩ := bindO h
   refine kC [0] 14 (iV r3.1) [.box (srcD r3.2), .box (colD p1), .box (colD Col.zero), .gone] rfl Tryz.call59 rfl rfl (spec_l01Pick_ac r1.2 ([0, 18, (-1), w64 (p1.p - 1)]) _ hr3) rfl ?_
   refine AOps_q 15 _ rfl rfl rfl (QOp_fieldAddr_ptr _ _ _ _ _ _ 0 _ _ rfl Tryz.underlying26 rfl _ Tryz.sizeOf2 rfl rfl rfl rfl) ?_
   refine AOps_store1 _ _ _ _ _ _ (colD (⟨r3.1, p1.k, p1.e⟩ : Col)) _ rfl rfl rfl rfl rfl rfl rfl Tryz.sizeOf2 (by rw [colD_length]; omega) (colD_set0 _ _) ?_
   refine AOps_nil ?_
   cases h
   exact Weak_keep 1 hm [3, 4] [1, 2] _ _ rfl rfl rfl
  refine kR ?_
  refine AOps_q 17 _ rfl rfl rfl (QOp_eql _ _ _ _ _ _ _ rfl rfl rfl) ?_
  refine kN 1 rfl ?_
  refine kI h rfl (fun h _ => ?_) (fun h _ => ?_)
  ·refine (ACode_region ?_)
   refine kM 1 rfl ?_
   refine AOps_buildSlice 19 _ _ _ [_, _, _] (intsD ([0, 5, (-1)])) _ rfl rfl rfl rfl rfl (by decide) Tryz.underlying40 Tryz.sizeOf2 (zero_of Tryz.typeInfo2 rfl) rfl rfl (intsD_one _) ?_
   refine AOps_freezeL [19] 3 0 _ (allc (rfl) (fun _ h => nomatch h)) rfl ?_
   obtain ⟨r5, hr5, h⟩ := bindO h
   refine kC [0] 20 (iV r5.1) [.box (srcD r5.2), .box (colD p1), .box (colD Col.zero), .gone] rfl Tryz.call59 rfl rfl (spec_l01Pick_ac r1.2 ([0, 5, (-1)]) _ hr5) rfl ?_
   refine AOps_q 21 _ rfl rfl rfl (QOp_fieldAddr_ptr _ _ _ _ _ _ 1 _ _ rfl Tryz.underlying26 rfl _ Tryz.sizeOf2 rfl rfl rfl rfl) ?_
   refine AOps_store1 _ _ _ _ _ _ (colD (⟨p1.p, r5.1, p1.e⟩ : Col)) _ rfl rfl rfl rfl rfl rfl rfl Tryz.sizeOf2 (by rw [colD_length]; omega) (colD_set1 _ _) ?_
   refine AOps_nil ?_
   cases h
   exact Weak_keep 1 hm [3, 4] [1, 2] _ _ rfl rfl rfl
  refine kR ?_
  refine AOps_q 23 _ rfl rfl rfl (QOp_eql _ _ _ _ _ _ _ rfl rfl rfl) ?_
  refine kN 1 rfl ?_
  refine kI h rfl (fun h _ => ?_) (fun h _ => ?_)
  ·refine (ACode_region ?_)
   refine kM 1 rfl ?_
   obtain ⟨r7, hr7, h⟩ := bindO h
   refine kC [0] 25 (iV r7.1) [.box (srcD r7.2), .box (colD p1), .box (colD Col.zero)] rfl Tryz.call23 rfl rfl (spec_l01Next_ac r1.2 136 _ hr7) rfl ?_
   refine kM 1 rfl ?_
   refine AOps_buildSlice 27 _ _ _ [_, _, _] (intsD ([1, 4, 200])) _ rfl rfl rfl rfl rfl (by decide) Tryz.underlying40 Tryz.sizeOf2 (zero_of Tryz.typeInfo2 rfl) rfl rfl (intsD_one _) ?_
   refine AOps_freezeL [27] 3 0 _ (allc (rfl) (fun _ h => nomatch h)) rfl ?_
   obtain ⟨r8, hr8, h⟩ := bindO h
   refine kC [0] 28 (iV r8.1) [.box (srcD r8.2), .box (colD p1), .box (colD Col.zero), .gone] rfl Tryz.call59 rfl rfl (spec_l01Pick_ac r7.2 ([1, 4, 200]) _ hr8) rfl ?_
   refine AOps_q 29 _ rfl rfl rfl (QOp_toByte _ _ _ _ _ rfl rfl Tryz.underlying5 rfl) ?_
   refine AOps_q 30 _ rfl rfl rfl (QOp_fieldAddr_ptr _ _ _ _ _ _ 2 _ _ rfl Tryz.underlying26 rfl _ Tryz.sizeOf24 rfl rfl rfl rfl) ?_
   obtain ⟨hc9, h⟩ := guardO h
   refine AOps_q 31 _ rfl rfl rfl (QOp_indexAddrA_ptr _ _ _ _ _ _ _ _ _ _ rfl Tryz.underlying24 Tryz.sizeOf5 hc9.1 hc9.2 rfl rfl rfl rfl) ?_
   refine AOps_store1 _ _ _ _ _ _ (colD (p1.set r7.1.toNat (toByte r8.1))) _ rfl rfl rfl rfl rfl rfl rfl Tryz.sizeOf5 (by rw [colD_length]; omega) (colD_setE p1 r7.1.toNat (toByte r8.1)) ?_
   refine AOps_nil ?_
   cases h
   exact Weak_keep 1 hm [3, 4] [1, 2] _ _ rfl rfl rfl
  refine ACode_skip ?_
  cases h
  exact Weak_keep 1 hm [3, 4] [1, 2] _ _ rfl rfl rfl
 refine kR ?_
 refine AOps_q 32 _ rfl rfl rfl (QOp_loadN_ptr _ _ _ _ _ _ _ rfl Tryz.isAgg26 Tryz.sizeOf26 rfl rfl (colD_all _) (colD_length _)) ?_
 refine AOps_store _ _ _ _ _ _ (colD _) _ _ rfl rfl rfl rfl rfl rfl rfl (colD_one _) (by rw [colD_length]; exact Tryz.sizeOf26) (by rw [colD_length, colD_length]; decide) (colD_whole _ _) ?_
 refine AOps_nil ?_
 refine ACode_ret ?_
 cases h
 exact ⟨_, _, fun r a w h => ⟨r, h⟩, _, _, [], _, (.cons (ResV_agg _ _ _ _ _ _ Tryz.isAgg26 Tryz.sizeOf26 rfl rfl (colD_take _) (colD_length _)) .nil), rfl, rfl, rfl, rfl, rfl⟩

def spec_l01Spoil (k : Nat) (p0 : Src) : Option (Col × Src) :=
 (spec_l01Draw k p0).bind fun r1 => (spec_l01Bad r1.2 r1.1).bind fun r2 => some (r2.1, r2.2)
theorem spec_l01Spoil_ac (k : Nat) (p0 : Src) (r : Col × Src) (h : spec_l01Spoil k p0 = some r) : AC Tryz.prog 24 [.ptr 0 0] [.box (srcD p0)] (fun res H' => res = [.d (.agg (colD r.1))] ∧ H' = [.box (srcD r.2)]) := by
 refine AC_of_body true Tryz.func24 rfl Tryz.ntmps24 (rvs := [.cell 2 26]) rfl rfl (fun G hG => ?_)
 have hm : G.H.length = 1 := by rw [hG]; rfl
 have hz : zeroG G.H = true := by rw [hG]; rfl
 unfold spec_l01Spoil at h
 refine kR ?_
 refine AOps_alloc 2 _ _ (colD Col.zero) (zero_of Tryz.typeInfo26 rfl) (by rfl) rfl rfl rfl rfl ?_
 refine AOps_nil ?_
 refine kR ?_
 refine kM 2 rfl ?_
 obtain ⟨r1, hr1, h⟩ := bindO h
 refine kC [0] 5 (.d (.agg (colD r1.1))) [.box (srcD r1.2), .box (colD Col.zero)] rfl Tryz.call58 rfl rfl (spec_l01Draw_ac k p0 _ hr1) rfl ?_
 obtain ⟨r2, hr2, h⟩ := bindO h
 refine kC [0] 6 (.d (.agg (colD r2.1))) [.box (srcD r2.2), .box (colD Col.zero)] rfl Tryz.call25 rfl rfl (spec_l01Bad_ac r1.2 r1.1 _ hr2) rfl ?_
 refine AOps_store _ _ _ _ _ _ (colD _) _ _ rfl rfl rfl rfl rfl rfl rfl (colD_one _) (by rw [colD_length]; exact Tryz.sizeOf26) (by rw [colD_length, colD_length]; decide) (colD_whole _ _) ?_
 refine AOps_nil ?_
 refine ACode_ret ?_
 cases h
 exact ⟨_, _, fun r a w h => ⟨r, h⟩, _, _, [], _, (.cons (ResV_agg _ _ _ _ _ _ Tryz.isAgg26 Tryz.sizeOf26 rfl rfl (colD_take _) (colD_length _)) .nil), rfl, rfl, rfl, rfl, rfl⟩

def spec_DrawLeastForm (k : Nat) (p0 : List UInt8) : Option (Col) :=
 (spec_l01From k p0).bind fun r1 => (spec_l01Next r1 12).bind fun r2 => (if decide (r2.1 = 0) then (spec_l01Spoil k r2.2).bind fun r4 => some r4.1 else (spec_l01Small k r2.2).bind fun r5 => (spec_l01Bad r5.2 r5.1).bind fun r6 => some r6.1)
theorem spec_DrawLeastForm_ac (k : Nat) (p0 : List UInt8) (r : Col) (h : spec_DrawLeastForm k p0 = some r) : AC Tryz.prog 5 [.d (.sl none (bysD p0))] [] (fun res H' => res = [.d (.agg (colD r))] ∧ H' = []) := by
 refine AC_of_body true Tryz.func5 rfl Tryz.ntmps5 (rvs := [.cell 2 26]) rfl rfl (fun G hG => ?_)
 have hm : G.H.length = 0 := by rw [hG]; rfl
 have hz : zeroG G.H = true := by rw [hG]; rfl
 unfold spec_DrawLeastForm at h
 refine kR ?_
 refine AOps_alloc 2 _ _ (colD Col.zero) (zero_of Tryz.typeInfo26 rfl) (by rfl) rfl rfl rfl rfl ?_
 refine AOps_nil ?_
 refine kR ?_
 refine kM 1 rfl ?_
 obtain ⟨r1, hr1, h⟩ := bindO h
 refine kC [] 5 (.ptr 1 0) [.box (colD Col.zero), .box (srcD r1)] rfl Tryz.call22 rfl rfl (spec_l01From_ac k p0 _ hr1) rfl ?_
 refine kN 1 rfl ?_
 refine ACode_seq ?_
 refine kR ?_
 refine kM 1 rfl ?_
 obtain ⟨r2, hr2, h⟩ := bindO h
 refine kC [1] 7 (iV r2.1) [.box (colD Col.zero), .box (srcD r2.2)] rfl Tryz.call23 rfl rfl (spec_l01Next_ac r1 12 _ hr2) rfl ?_
 refine AOps_q 8 _ rfl rfl rfl (QOp_eql _ _ _ _ _ _ _ rfl rfl rfl) ?_
 refine AOps_nil ?_
 refine kI h rfl (fun h _ => ?_) (fun h _ => ?_)
 ·refine kR ?_
  refine kM 1 rfl ?_
  obtain ⟨r4, hr4, h⟩ := bindO h
  refine kC [1] 10 (.d (.agg (colD r4.1))) [.box (colD Col.zero), .box (srcD r4.2)] rfl Tryz.call24 rfl rfl (spec_l01Spoil_ac k r2.2 _ hr4) rfl ?_
  refine AOps_store _ _ _ _ _ _ (colD _) _ _ rfl rfl rfl rfl rfl rfl rfl (colD_one _) (by rw [colD_length]; exact Tryz.sizeOf26) (by rw [colD_length, colD_length]; decide) (colD_whole _ _) ?_
  refine AOps_nil ?_
  refine ACode_ret ?_
  cases h
  exact ⟨_, _, fun r a w h => ⟨r, h⟩, _, _, [], _, (.cons (ResV_agg _ _ _ _ _ _ Tryz.isAgg26 Tryz.sizeOf26 rfl rfl (colD_take _) (colD_length _)) .nil), rfl, rfl, rfl, rfl, rfl⟩
 refine ACode_skip ?_
 refine kR ?_
 refine kM 2 rfl ?_
 obtain ⟨r5, hr5, h⟩ := bindO h
 refine kC [1] 13 (.d (.agg (colD r5.1))) [.box (colD Col.zero), .box (srcD r5.2)] rfl Tryz.call26 rfl rfl (spec_l01Small_ac k r2.2 _ hr5) rfl ?_
 obtain ⟨r6, hr6, h⟩ := bindO h
 refine kC [1] 14 (.d (.agg (colD r6.1))) [.box (colD Col.zero), .box (srcD r6.2)] rfl Tryz.call25 rfl rfl (spec_l01Bad_ac r5.2 r5.1 _ hr6) rfl ?_
 refine AOps_store _ _ _ _ _ _ (colD _) _ _ rfl rfl rfl rfl rfl rfl rfl (colD_one _) (by rw [colD_length]; exact Tryz.sizeOf26) (by rw [colD_length, colD_length]; decide) (colD_whole _ _) ?_
 refine AOps_nil ?_
 refine ACode_ret ?_
 cases h
 exact ⟨_, _, fun r a w h => ⟨r, h⟩, _, _, [], _, (.cons (ResV_agg _ _ _ _ _ _ Tryz.isAgg26 Tryz.sizeOf26 rfl rfl (colD_take _) (colD_length _)) .nil), rfl, rfl, rfl, rfl, rfl⟩

def impl_in (p0 : Int) (p1 : Int) (p2 : Int) : Bool :=
 letO (if decide (p1 ≤ p0) then decide (p0 ≤ p2) else false) fun (s2 : Bool) => s2
theorem impl_in_ac (p0 : Int) (p1 : Int) (p2 : Int) : AC Tryz.prog 48 [iV p0, iV p1, iV p2] [] (fun res H' => res = [bV (impl_in p0 p1 p2)] ∧ H' = []) := by
 refine AC_of_body true Tryz.func48 rfl Tryz.ntmps48 (rvs := [.tmp 6]) rfl rfl (fun G hG => ?_)
 have hm : G.H.length = 0 := by rw [hG]; rfl
 have hz : zeroG G.H = true := by rw [hG]; rfl
 obtain ⟨r, h⟩ : ∃ r, impl_in p0 p1 p2 = r := ⟨_, rfl⟩
 rw [h]
 unfold impl_in at h
 refine kR ?_
 refine kN 1 rfl ?_
 refine kL (fun s2 => [(6, bV s2)]) (fun s2 => []) h (fun s2 h => ?_) (fun s2 h => ?_)
 ·refine (ACode_region ?_)
  refine kM 2 rfl ?_
  refine AOps_q 9 _ rfl rfl rfl (QOp_geq _ _ _ _ _ _ _ rfl rfl rfl) ?_
  refine kM 1 rfl ?_
  refine AOps_case 10 _ rfl (fun hb1 => ?_) (fun hb1 => ?_)
  ·have h := iteT hb1 h
   refine kM 2 rfl ?_
   refine AOps_q 13 _ rfl rfl rfl (QOp_leq _ _ _ _ _ _ _ rfl rfl rfl) ?_
   refine kN 2 rfl ?_
   cases h
   exact Weak_keep 0 hm [6] [] _ _ rfl rfl rfl
  have h := iteF hb1 h
  refine AOps_skip 11 rfl rfl rfl ?_
  refine AOps_skip 12 rfl rfl rfl ?_
  refine AOps_skip 13 rfl rfl rfl ?_
  refine kN 2 rfl ?_
  cases h
  exact Weak_keep 0 hm [6] [] _ _ rfl rfl rfl
 refine ACode_ret ?_
 cases h
 exact ⟨_, _, fun r a w h => ⟨r, h⟩, _, _, [], _, (.cons (ResV_tmp _ _ rfl) .nil), rfl, rfl, rfl, rfl, rfl⟩

def impl_Colouring_edges (p0 : Col) : Int :=
 w64 ((w64 (p0.p * (w64 (p0.p - 1)))).tdiv 2)
theorem impl_Colouring_edges_ac (p0 : Col) : AC Tryz.prog 83 [.d (.pv (colD p0) 0)] [] (fun res H' => res = [iV (impl_Colouring_edges p0)] ∧ H' = []) := by
 refine AC_of_body true Tryz.func83 rfl Tryz.ntmps83 (rvs := [.tmp 2]) rfl rfl (fun G hG => ?_)
 have hm : G.H.length = 0 := by rw [hG]; rfl
 have hz : zeroG G.H = true := by rw [hG]; rfl
 obtain ⟨r, h⟩ : ∃ r, impl_Colouring_edges p0 = r := ⟨_, rfl⟩
 rw [h]
 unfold impl_Colouring_edges at h
 refine kR ?_
 refine kN 1 rfl ?_
 refine ACode_seq (ACode_quiet mixed (by kernel_rfl) ?_)
 refine kQ 1 rfl ?_
 refine AQ_q 4 _ rfl rfl rfl (QOp_nilCheck_pv _ _ _ rfl rfl) ?_
 refine AQ_q 5 _ rfl rfl rfl (QOp_fieldAddr_pv _ _ _ _ _ 0 _ _ rfl Tryz.underlying26 rfl _ Tryz.sizeOf2 rfl rfl) ?_
 refine AQ_q 6 _ rfl rfl rfl (QOp_load_pv _ _ _ _ _ rfl Tryz.isAgg2 rfl rfl) ?_
 refine kQ 1 rfl ?_
 refine AQ_q 8 _ rfl rfl rfl (QOp_nilCheck_pv _ _ _ rfl rfl) ?_
 refine AQ_q 9 _ rfl rfl rfl (QOp_fieldAddr_pv _ _ _ _ _ 0 _ _ rfl Tryz.underlying26 rfl _ Tryz.sizeOf2 rfl rfl) ?_
 refine AQ_q 10 _ rfl rfl rfl (QOp_load_pv _ _ _ _ _ rfl Tryz.isAgg2 rfl rfl) ?_
 refine AQ_q 11 _ rfl rfl rfl (QOp_sub _ _ _ _ _ _ _ rfl rfl rfl) ?_
 refine AQ_q 12 _ rfl rfl rfl (QOp_mul _ _ _ _ _ _ _ rfl rfl rfl) ?_
 refine AQ_q 13 _ rfl rfl rfl (QOp_quo _ _ _ _ _ _ _ (by decide) rfl rfl rfl) ?_
 refine kQ 1 rfl ?_
 refine AQ_nil ?_
 refine ACode_ret ?_
 cases h
 exact ⟨_, _, fun r a w h => ⟨r, h⟩, _, _, [], _, (.cons (ResV_tmp _ _ rfl) .nil), rfl, rfl, rfl, rfl, rfl⟩

def impl_Colouring_isColouring_l0 (k : Nat) (p0 : Col) : Nat → Int → Option (Sum (Unit) (Bool))
 | 0, _ => none
 | k0 + 1, x7 => (if decide (x7 < 136) then ((if 0 ≤ x7 ∧ x7 < 136 then letO (if decide (p0.k ≤ ((p0.e.get x7.toNat).toNat : Int)) then true else (if decide ((impl_Colouring_edges p0) ≤ x7) then !decide (((p0.e.get x7.toNat).toNat : Int) = 0) else false)) fun (s13 : Bool) => (if s13 then (some (.inr false)).bind fun rr => some (.inr rr) else some (.inl ())) else none) : Option (Sum (Unit) (Sum (Unit) (Bool)))).bind fun os15 => (match os15 with | .inl s15 => impl_Colouring_isColouring_l0 k p0 k0 (w64 (x7 + 1)) | .inr rr => some rr) else some (.inl ()))
def impl_Colouring_isColouring (k : Nat) (p0 : Col) : Option (Bool) :=
 (letO (if !(impl_in p0.p 1 17) then true else !(impl_in p0.k 1 4)) fun (s4 : Bool) => (if s4 then some (.inr false) else some (.inl ())) : Option (Sum (Unit) (Bool))).bind fun os6 => (match os6 with | .inl s6 => (impl_Colouring_isColouring_l0 k p0 k 0 : Option (Sum (Unit) (Bool))).bind fun os16 => (match os16 with | .inl s16 => some true | .inr rr => some rr) | .inr rr => some rr)
theorem impl_Colouring_isColouring_ac (k : Nat) (p0 : Col) (r : Bool) (h : impl_Colouring_isColouring k p0 = some r) : AC Tryz.prog 54 [.d (.pv (colD p0) 0)] [] (fun res H' => res = [bV r] ∧ H' = []) := by
 refine AC_of_body true Tryz.func54 rfl Tryz.ntmps54 (rvs := [.tmp 2]) rfl rfl (fun G hG => ?_)
 have hm : G.H.length = 0 := by rw [hG]; rfl
 have hz : zeroG G.H = true := by rw [hG]; rfl
 unfold impl_Colouring_isColouring at h
 refine kR ?_
 refine kN 1 rfl ?_
 refine kO (fun s6 => [(0, .d (.pv (colD p0) 0))]) (fun s6 => []) h (fun os6 h hks6 => ?_) (fun s6 h => ?_)
 ·refine kL (fun s4 => [(0, .d (.pv (colD p0) 0)), (18, bV s4)]) (fun s4 => []) h (fun s4 h => ?_) (fun s4 h => ?_)
  ·refine (ACode_region ?_)
   refine kM 1 rfl ?_
   refine AOps_q 6 _ rfl rfl rfl (QOp_nilCheck_pv _ _ _ rfl rfl) ?_
   refine AOps_q 7 _ rfl rfl rfl (QOp_fieldAddr_pv _ _ _ _ _ 0 _ _ rfl Tryz.underlying26 rfl _ Tryz.sizeOf2 rfl rfl) ?_
   refine AOps_q 8 _ rfl rfl rfl (QOp_load_pv _ _ _ _ _ rfl Tryz.isAgg2 rfl rfl) ?_
   refine kC [] 9 (bV (impl_in p0.p 1 17)) [] rfl Tryz.call48 rfl rfl (impl_in_ac p0.p 1 17) rfl ?_
   refine AOps_q 10 _ rfl rfl rfl (QOp_not _ _ _ rfl rfl) ?_
   refine kM 1 rfl ?_
   refine AOps_case 11 _ rfl (fun hb2 => ?_) (fun hb2 => ?_)
   ·have h := iteT hb2 h
    refine AOps_skip 12 rfl rfl rfl ?_
    refine AOps_skip 13 rfl rfl rfl ?_
    refine AOps_skip 14 rfl rfl rfl ?_
    refine AOps_skip 15 rfl rfl rfl ?_
    refine AOps_skip 16 rfl rfl rfl ?_
    refine AOps_skip 17 rfl rfl rfl ?_
    refine kN 1 rfl ?_
    cases h
    exact Weak_keep 0 hm [0, 18] [] _ _ rfl rfl rfl
   have h := iteF hb2 h
   refine kM 1 rfl ?_
   refine AOps_q 13 _ rfl rfl rfl (QOp_nilCheck_pv _ _ _ rfl rfl) ?_
   refine AOps_q 14 _ rfl rfl rfl (QOp_fieldAddr_pv _ _ _ _ _ 1 _ _ rfl Tryz.underlying26 rfl _ Tryz.sizeOf2 rfl rfl) ?_
   refine AOps_q 15 _ rfl rfl rfl (QOp_load_pv _ _ _ _ _ rfl Tryz.isAgg2 rfl rfl) ?_
   refine kC [] 16 (bV (impl_in p0.k 1 4)) [] rfl Tryz.call48 rfl rfl (impl_in_ac p0.k 1 4) rfl ?_
   refine AOps_q 17 _ rfl rfl rfl (QOp_not _ _ _ rfl rfl) ?_
   refine kN 1 rfl ?_
   cases h
   exact Weak_keep 0 hm [0, 18] [] _ _ rfl rfl rfl
  refine kI h rfl (fun h _ => ?_) (fun h _ => ?_)
  ·refine kR ?_
   refine kN 1 rfl ?_
   refine ACode_ret ?_
   cases h
   have h := hks6
   cases h
   exact ⟨_, _, fun r a w h => ⟨r, h⟩, _, _, [], _, (.cons (ResV_tmp _ _ rfl) .nil), rfl, rfl, rfl, rfl, rfl⟩
  refine ACode_skip ?_
  cases h
  exact ⟨_, rfl, Weak_keep 0 hm [0] [] _ _ rfl rfl rfl⟩
 refine kO (fun s16 => []) (fun s16 => []) h (fun os16 h hks16 => ?_) (fun s16 h => ?_)
 ·refine kR ?_
  refine kM 1 rfl ?_
  refine AOps_q 20 _ rfl rfl rfl (QOp_nilCheck_pv _ _ _ rfl rfl) ?_
  refine AOps_q 21 _ rfl rfl rfl (QOp_fieldAddr_pv _ _ _ _ _ 2 _ _ rfl Tryz.underlying26 rfl _ Tryz.sizeOf24 rfl rfl) ?_
  refine AOps_q 22 _ rfl rfl rfl (QOp_loadN_pv _ _ _ _ _ _ rfl Tryz.isAgg24 Tryz.sizeOf24 rfl (colD_edges _) (byD_length _)) ?_
  refine kN 1 rfl ?_
  refine ACode_block ?_
  refine ACode_loopW (fun k0 E H => ∃ (x7 : Int), E = [(0, .d (.pv (colD p0) 0)), (22, .d (.agg (byD p0.e))), (23, iV x7)] ∧ H = [] ∧ impl_Colouring_isColouring_l0 k p0 k0 x7 = some os16) k _ _ (Weak_keep 0 hm [0, 22, 23] [] _ _ rfl rfl rfl) ⟨_, rfl, rfl, h⟩ ?_
  clear h
  rintro k0 E H ⟨x7, rfl, rfl, h⟩
  cases k0 with
  | zero => cases (show (none : Option (Sum (Unit) (Bool))) = some _ from h)
  | succ k0 =>
   rw [impl_Colouring_isColouring_l0] at h
   refine kR ?_
   refine AOps_q 24 _ rfl rfl rfl (QOp_lss _ _ _ _ _ _ _ rfl rfl rfl) ?_
   refine AOps_nil ?_
   refine ACode_seq ?_
   refine kI h rfl (fun h _ => ?_) (fun h _ => ?_)
   ·refine ACode_skip ?_
    refine kO (fun s15 => [(0, .d (.pv (colD p0) 0)), (22, .d (.agg (byD p0.e))), (23, iV x7)]) (fun s15 => []) h (fun os15 h hks15 => ?_) (fun s15 h => ?_)
    ·refine ACode_block ?_
     refine kR ?_
     refine kM 1 rfl ?_
     obtain ⟨hc9, h⟩ := guardO h
     refine AOps_q 26 _ rfl rfl rfl (QOp_index_agg _ _ _ _ _ _ _ _ _ rfl Tryz.underlying24 Tryz.sizeOf5 Tryz.isAgg5 hc9.1 hc9.2 rfl rfl (byD_get _ _ (by omega))) ?_
     refine kN 2 rfl ?_
     refine kL (fun s13 => [(0, .d (.pv (colD p0) 0)), (22, .d (.agg (byD p0.e))), (23, iV x7), (43, bV s13)]) (fun s13 => []) h (fun s13 h => ?_) (fun s13 h => ?_)
     ·refine (ACode_region ?_)
      refine kM 1 rfl ?_
      refine AOps_q 28 _ rfl rfl rfl (QOp_fromByte _ _ _ _ _ rfl rfl Tryz.underlying2 wrap_i64_byte rfl) ?_
      refine kM 1 rfl ?_
      refine AOps_q 30 _ rfl rfl rfl (QOp_nilCheck_pv _ _ _ rfl rfl) ?_
      refine AOps_q 31 _ rfl rfl rfl (QOp_fieldAddr_pv _ _ _ _ _ 1 _ _ rfl Tryz.underlying26 rfl _ Tryz.sizeOf2 rfl rfl) ?_
      refine AOps_q 32 _ rfl rfl rfl (QOp_load_pv _ _ _ _ _ rfl Tryz.isAgg2 rfl rfl) ?_
      refine AOps_q 33 _ rfl rfl rfl (QOp_geq _ _ _ _ _ _ _ rfl rfl rfl) ?_
      refine kM 1 rfl ?_
      refine AOps_case 34 _ rfl (fun hb10 => ?_) (fun hb10 => ?_)
      ·have h := iteT hb10 h
       refine AOps_skip 35 rfl rfl rfl ?_
       refine AOps_skip 36 rfl rfl rfl ?_
       refine AOps_skip 37 rfl rfl rfl ?_
       refine AOps_skip 38 rfl rfl rfl ?_
       refine AOps_skip 39 rfl rfl rfl ?_
       refine AOps_skip 40 rfl rfl rfl ?_
       refine AOps_skip 41 rfl rfl rfl ?_
       refine AOps_skip 42 rfl rfl rfl ?_
       refine kN 1 rfl ?_
       cases h
       exact Weak_keep 0 hm [0, 22, 23, 43] [] _ _ rfl rfl rfl
      have h := iteF hb10 h
      refine kM 2 rfl ?_
      refine kC [] 37 (iV (impl_Colouring_edges p0)) [] rfl Tryz.call83 rfl rfl (impl_Colouring_edges_ac p0) rfl ?_
      refine AOps_q 38 _ rfl rfl rfl (QOp_geq _ _ _ _ _ _ _ rfl rfl rfl) ?_
      refine kM 1 rfl ?_
      refine AOps_case 39 _ rfl (fun hb12 => ?_) (fun hb12 => ?_)
      ·have h := iteT hb12 h
       refine kM 1 rfl ?_
       refine AOps_q 41 _ rfl rfl rfl (QOp_neq _ _ _ _ _ _ _ rfl rfl rfl) ?_
       refine kN 2 rfl ?_
       cases h
       exact Weak_keep 0 hm [0, 22, 23, 43] [] _ _ rfl rfl rfl
      have h := iteF hb12 h
      refine AOps_skip 40 rfl rfl rfl ?_
      refine AOps_skip 41 rfl rfl rfl ?_
      refine kN 2 rfl ?_
      cases h
      exact Weak_keep 0 hm [0, 22, 23, 43] [] _ _ rfl rfl rfl
     refine kI h rfl (fun h _ => ?_) (fun h _ => ?_)
     ·refine kR ?_
      refine kN 1 rfl ?_
      refine ACode_ret ?_
      obtain ⟨rr, hz17, h2⟩ := bindO h
      obtain rfl := Option.some.inj h2
      obtain rfl := Option.some.inj (show some rr = some _ from hks15)
      have h := hz17
      cases h
      have h := hks16
      cases h
      exact ⟨_, _, fun r a w h => ⟨r, h⟩, _, _, [], _, (.cons (ResV_tmp _ _ rfl) .nil), rfl, rfl, rfl, rfl, rfl⟩
     refine ACode_skip ?_
     cases h
     exact ⟨_, rfl, Weak_keep 0 hm [0, 22, 23] [] _ _ rfl rfl rfl⟩
    refine (ACode_region ?_)
    refine AOps_q 44 _ rfl rfl rfl (QOp_add _ _ _ _ _ _ _ rfl rfl rfl) ?_
    refine kN 1 rfl ?_
    exact ⟨k0, _, _, Nat.lt_succ_self _, Weak_keep 0 hm [0, 22, 23] [] _ _ rfl rfl rfl, _, rfl, rfl, h⟩
   refine ACode_exit ?_
   cases h
   exact ⟨_, rfl, Weak_keep 0 hm [] [] _ _ rfl rfl rfl⟩
 refine kR ?_
 refine kN 1 rfl ?_
 refine ACode_ret ?_
 cases h
 exact ⟨_, _, fun r a w h => ⟨r, h⟩, _, _, [], _, (.cons (ResV_tmp _ _ rfl) .nil), rfl, rfl, rfl, rfl, rfl⟩

def impl_Colouring_code (k : Nat) (p0 : Col) (p1 : Option (Bool)) : Option (Int) :=
 (impl_Colouring_isColouring k p0).bind fun r1 => (if !r1 then some 1 else (p1).bind fun r3 => (if !r3 then some 2 else some 0))
theorem impl_Colouring_code_ac (k : Nat) (p0 : Col) (p1 : Option (Bool)) (g_p1 : FuncId) (c_p1 : List D) (hg_p1 : ∀ args w, (callFunc g_p1 args).run Tryz.prog w = .ok (.enter g_p1 args) w) (hf_p1 : ∀ (r : Bool), p1 = some r → AC Tryz.prog g_p1 ([] ++ c_p1.map AV.d) [] (fun res H' => res = [bV r] ∧ H' = [])) (r : Int) (h : impl_Colouring_code k p0 p1 = some r) : AC Tryz.prog 27 [.d (.pv (colD p0) 0), .d (.clo g_p1 c_p1)] [] (fun res H' => res = [iV r] ∧ H' = []) := by
 refine AC_of_body true Tryz.func27 rfl Tryz.ntmps27 (rvs := [.tmp 4]) rfl rfl (fun G hG => ?_)
 have hm : G.H.length = 0 := by rw [hG]; rfl
 have hz : zeroG G.H = true := by rw [hG]; rfl
 unfold impl_Colouring_code at h
 refine kR ?_
 refine kN 1 rfl ?_
 refine ACode_seq ?_
 refine ACode_block ?_
 refine kR ?_
 refine kM 1 rfl ?_
 obtain ⟨r1, hr1, h⟩ := bindO h
 refine kC [] 7 (bV r1) [] rfl Tryz.call54 rfl rfl (impl_Colouring_isColouring_ac k p0 _ hr1) rfl ?_
 refine AOps_q 8 _ rfl rfl rfl (QOp_not _ _ _ rfl rfl) ?_
 refine kN 1 rfl ?_
 refine kI h rfl (fun h _ => ?_) (fun h _ => ?_)
 ·refine kR ?_
  refine kN 1 rfl ?_
  refine ACode_ret ?_
  cases h
  exact ⟨_, _, fun r a w h => ⟨r, h⟩, _, _, [], _, (.cons (ResV_tmp _ _ rfl) .nil), rfl, rfl, rfl, rfl, rfl⟩
 refine kR ?_
 refine kM 1 rfl ?_
 obtain ⟨r3, hr3, h⟩ := bindO h
 refine kC [] 11 (bV r3) [] rfl hg_p1 rfl (viewA_mapD _) (hf_p1 _ hr3) rfl ?_
 refine AOps_q 12 _ rfl rfl rfl (QOp_not _ _ _ rfl rfl) ?_
 refine kN 1 rfl ?_
 refine kI h rfl (fun h _ => ?_) (fun h _ => ?_)
 ·refine kR ?_
  refine kN 1 rfl ?_
  refine ACode_ret ?_
  cases h
  exact ⟨_, _, fun r a w h => ⟨r, h⟩, _, _, [], _, (.cons (ResV_tmp _ _ rfl) .nil), rfl, rfl, rfl, rfl, rfl⟩
 refine ACode_skip ?_
 refine kR ?_
 refine kN 1 rfl ?_
 refine ACode_ret ?_
 cases h
 exact ⟨_, _, fun r a w h => ⟨r, h⟩, _, _, [], _, (.cons (ResV_tmp _ _ rfl) .nil), rfl, rfl, rfl, rfl, rfl⟩

def impl_always : Bool :=
 true
theorem impl_always_ac : AC Tryz.prog 28 [] [] (fun res H' => res = [bV (impl_always)] ∧ H' = []) := by
 refine AC_of_body true Tryz.func28 rfl Tryz.ntmps28 (rvs := [.tmp 0]) rfl rfl (fun G hG => ?_)
 have hm : G.H.length = 0 := by rw [hG]; rfl
 have hz : zeroG G.H = true := by rw [hG]; rfl
 obtain ⟨r, h⟩ : ∃ r, impl_always = r := ⟨_, rfl⟩
 rw [h]
 unfold impl_always at h
 refine kR ?_
 refine kN 1 rfl ?_
 refine kR ?_
 refine kN 1 rfl ?_
 refine ACode_ret ?_
 cases h
 exact ⟨_, _, fun r a w h => ⟨r, h⟩, _, _, [], _, (.cons (ResV_tmp _ _ rfl) .nil), rfl, rfl, rfl, rfl, rfl⟩

def impl_size (p0 : List Int) : Int :=
 (p0.length : Int)
theorem impl_size_ac (p0 : List Int) : AC Tryz.prog 63 [.d (.sl none (intsD p0))] [] (fun res H' => res = [iV (impl_size p0)] ∧ H' = []) := by
 refine AC_of_body true Tryz.func63 rfl Tryz.ntmps63 (rvs := [.tmp 2]) rfl rfl (fun G hG => ?_)
 have hm : G.H.length = 0 := by rw [hG]; rfl
 have hz : zeroG G.H = true := by rw [hG]; rfl
 obtain ⟨r, h⟩ : ∃ r, impl_size p0 = r := ⟨_, rfl⟩
 rw [h]
 unfold impl_size at h
 refine kR ?_
 refine kN 1 rfl ?_
 refine kR ?_
 refine kM 1 rfl ?_
 refine AOps_q 4 _ rfl rfl rfl (QOp_len_sl _ _ _ _ _ _ _ (intsD_length _) rfl rfl rfl rfl Tryz.underlying40 rfl) ?_
 refine kN 1 rfl ?_
 refine ACode_ret ?_
 cases h
 exact ⟨_, _, fun r a w h => ⟨r, h⟩, _, _, [], _, (.cons (ResV_tmp _ _ rfl) .nil), rfl, rfl, rfl, rfl, rfl⟩

def slices_Index_l0 (p0 : List Int) (p1 : Int) : Nat → Int → Option (Sum (Unit) (Int))
 | 0, _ => none
 | k0 + 1, x1 => (if decide (x1 < (p0.length : Int)) then (if 0 ≤ x1 ∧ x1 < (p0.length : Int) then (if decide (p1 = (p0.getD x1.toNat 0)) then some (.inr x1) else slices_Index_l0 p0 p1 k0 (w64 (x1 + 1))) else none) else some (.inl ()))
def slices_Index (k : Nat) (p0 : List Int) (p1 : Int) : Option (Int) :=
 (slices_Index_l0 p0 p1 k 0 : Option (Sum (Unit) (Int))).bind fun os5 => (match os5 with | .inl s5 => some (-1) | .inr rr => some rr)
theorem slices_Index_ac (k : Nat) (p0 : List Int) (p1 : Int) (r : Int) (h : slices_Index k p0 p1 = some r) : AC Tryz.prog 89 [.d (.sl none (intsD p0)), iV p1] [] (fun res H' => res = [iV r] ∧ H' = []) := by
 refine AC_of_body true Tryz.func89 rfl Tryz.ntmps89 (rvs := [.tmp 4]) rfl rfl (fun G hG => ?_)
 have hm : G.H.length = 0 := by rw [hG]; rfl
 have hz : zeroG G.H = true := by rw [hG]; rfl
 unfold slices_Index at h
 refine kR ?_
 refine kN 1 rfl ?_
 refine kO (fun s5 => []) (fun s5 => []) h (fun os5 h hks5 => ?_) (fun s5 h => ?_)
 ·refine kR ?_
  refine kM 1 rfl ?_
  refine AOps_q 7 _ rfl rfl rfl (QOp_len_sl _ _ _ _ _ _ _ (intsD_length _) rfl rfl rfl rfl Tryz.underlying40 rfl) ?_
  refine kN 1 rfl ?_
  refine ACode_block ?_
  refine ACode_loopW (fun k0 E H => ∃ (x1 : Int), E = [(0, .d (.sl none (intsD p0))), (1, iV p1), (7, iV (p0.length : Int)), (8, iV x1)] ∧ H = [] ∧ slices_Index_l0 p0 p1 k0 x1 = some os5) k _ _ (Weak_keep 0 hm [0, 1, 7, 8] [] _ _ rfl rfl rfl) ⟨_, rfl, rfl, h⟩ ?_
  clear h
  rintro k0 E H ⟨x1, rfl, rfl, h⟩
  cases k0 with
  | zero => cases (show (none : Option (Sum (Unit) (Int))) = some _ from h)
  | succ k0 =>
   rw [slices_Index_l0] at h
   refine kR ?_
   refine AOps_q 9 _ rfl rfl rfl (QOp_lss _ _ _ _ _ _ _ rfl rfl rfl) ?_
   refine AOps_nil ?_
   refine ACode_seq ?_
   refine kI h rfl (fun h _ => ?_) (fun h _ => ?_)
   ·refine ACode_skip ?_
    refine ACode_seq ?_
    refine ACode_block ?_
    refine kR ?_
    refine kN 2 rfl ?_
    refine kR ?_
    refine kM 3 rfl ?_
    obtain ⟨hc3, h⟩ := guardO h
    refine AOps_q 14 _ rfl rfl rfl (QOp_indexAddr_sl _ _ _ _ _ _ _ _ rfl Tryz.underlying40 Tryz.sizeOf2 hc3.1 (by rw [intsD_length]; exact hc3.2) rfl rfl) ?_
    refine AOps_q 15 _ rfl rfl rfl (QOp_load_pv _ _ _ _ _ rfl Tryz.isAgg2 rfl (intsD_get _ _ 0 (by omega))) ?_
    refine AOps_q 16 _ rfl rfl rfl (QOp_eql _ _ _ _ _ _ _ rfl rfl rfl) ?_
    refine AOps_nil ?_
    refine kI h rfl (fun h _ => ?_) (fun h _ => ?_)
    ·refine kR ?_
     refine kN 2 rfl ?_
     refine ACode_ret ?_
     cases h
     have h := hks5
     cases h
     exact ⟨_, _, fun r a w h => ⟨r, h⟩, _, _, [], _, (.cons (ResV_tmp _ _ rfl) .nil), rfl, rfl, rfl, rfl, rfl⟩
    refine ACode_skip ?_
    refine (ACode_region ?_)
    refine AOps_q 18 _ rfl rfl rfl (QOp_add _ _ _ _ _ _ _ rfl rfl rfl) ?_
    refine kN 1 rfl ?_
    exact ⟨k0, _, _, Nat.lt_succ_self _, Weak_keep 0 hm [0, 1, 7, 8] [] _ _ rfl rfl rfl, _, rfl, rfl, h⟩
   refine ACode_exit ?_
   cases h
   exact ⟨_, rfl, Weak_keep 0 hm [] [] _ _ rfl rfl rfl⟩
 refine kR ?_
 refine kN 1 rfl ?_
 refine ACode_ret ?_
 cases h
 exact ⟨_, _, fun r a w h => ⟨r, h⟩, _, _, [], _, (.cons (ResV_tmp _ _ rfl) .nil), rfl, rfl, rfl, rfl, rfl⟩

def slices_Contains (k : Nat) (p0 : List Int) (p1 : Int) : Option (Bool) :=
 (slices_Index k p0 p1).bind fun r1 => some (decide (0 ≤ r1))
theorem slices_Contains_ac (k : Nat) (p0 : List Int) (p1 : Int) (r : Bool) (h : slices_Contains k p0 p1 = some r) : AC Tryz.prog 64 [.d (.sl none (intsD p0)), iV p1] [] (fun res H' => res = [bV r] ∧ H' = []) := by
 refine AC_of_body true Tryz.func64 rfl Tryz.ntmps64 (rvs := [.tmp 4]) rfl rfl (fun G hG => ?_)
 have hm : G.H.length = 0 := by rw [hG]; rfl
 have hz : zeroG G.H = true := by rw [hG]; rfl
 unfold slices_Contains at h
 refine kR ?_
 refine kN 1 rfl ?_
 refine kR ?_
 refine kM 2 rfl ?_
 obtain ⟨r1, hr1, h⟩ := bindO h
 refine kC [] 7 (iV r1) [] rfl Tryz.call89 rfl rfl (slices_Index_ac k p0 p1 _ hr1) rfl ?_
 refine AOps_q 8 _ rfl rfl rfl (QOp_geq _ _ _ _ _ _ _ rfl rfl rfl) ?_
 refine kN 1 rfl ?_
 refine ACode_ret ?_
 cases h
 exact ⟨_, _, fun r a w h => ⟨r, h⟩, _, _, [], _, (.cons (ResV_tmp _ _ rfl) .nil), rfl, rfl, rfl, rfl, rfl⟩

def impl_orders_l0 (k : Nat) (self : Int → (List Int) → Option (List (List Int))) (p0 : Int) (p1 : List Int) : Nat → Int → (List (List Int)) → Option (List (List Int))
 | 0, _, _ => none
 | k0 + 1, x3, x4 => (if decide (x3 < p0) then ((slices_Contains k p1 x3).bind fun r6 => (if !r6 then (if p1.isEmpty then (if ([x3]).length ≤ 1099511627776 ∧ ([x3]).length ≠ 0 then (self p0 ([x3])).bind fun r11 => (if x4.length + r11.length ≤ 1099511627776 then some (x4 ++ r11) else none) else none) else (cloneA p1).bind fun r13 => (if r13.length + ([x3]).length ≤ 1099511627776 then (self p0 (r13 ++ ([x3]))).bind fun r15 => (if x4.length + r15.length ≤ 1099511627776 then some (x4 ++ r15) else none) else none)) else some x4) : Option (List (List Int))).bind fun s17 => impl_orders_l0 k self p0 p1 k0 (w64 (x3 + 1)) s17 else some x4)
def impl_orders_body (self : Int → (List Int) → Option (List (List Int))) (k : Nat) (p0 : Int) (p1 : List Int) : Option (List (List Int)) :=
 (if decide ((impl_size p1) = p0) then some ([p1]) else (impl_orders_l0 k self p0 p1 k 0 ([] : List (List Int)) : Option (List (List Int))).bind fun s18 => some s18)
def impl_orders : Nat → Int → (List Int) → Option (List (List Int))
 | 0, _, _ => none
 | k + 1, p0, p1 => impl_orders_body (impl_orders k) k p0 p1
theorem impl_orders_ac (k : Nat) (p0 : Int) (p1 : List Int) (r : List (List Int)) (h : impl_orders k p0 p1 = some r) : AC Tryz.prog 29 [iV p0, .d (.sl none (intsD p1))] [] (fun res H' => res = [.d (.sl none (rowsD r))] ∧ H' = []) := by
 induction k generalizing p0 p1 r with
 | zero => simp [impl_orders] at h
 | succ k ih =>
  rw [impl_orders] at h
  obtain ⟨self, hself, hk⟩ : ∃ self : Int → (List Int) → Option (List (List Int)), (∀ (p0 : Int) (p1 : List Int) (r : List (List Int)), self p0 p1 = some r → AC Tryz.prog 29 [iV p0, .d (.sl none (intsD p1))] [] (fun res H' => res = [.d (.sl none (rowsD r))] ∧ H' = [])) ∧ impl_orders k = self := ⟨impl_orders k, fun p0 p1 r h => ih p0 p1 r h, rfl⟩
  rw [hk] at h
  clear ih hk
  refine AC_of_body true Tryz.func29 rfl Tryz.ntmps29 (rvs := [.tmp 4]) rfl rfl (fun G hG => ?_)
  have hm : G.H.length = 0 := by rw [hG]; rfl
  have hz : zeroG G.H = true := by rw [hG]; rfl
  unfold impl_orders_body at h
  refine kR ?_
  refine kN 1 rfl ?_
  refine ACode_seq ?_
  refine kR ?_
  refine kM 1 rfl ?_
  refine kC [] 8 (iV (impl_size p1)) [] rfl Tryz.call63 rfl rfl (impl_size_ac p1) rfl ?_
  refine kM 1 rfl ?_
  refine AOps_q 10 _ rfl rfl rfl (QOp_eql _ _ _ _ _ _ _ rfl rfl rfl) ?_
  refine AOps_nil ?_
  refine kI h rfl (fun h _ => ?_) (fun h _ => ?_)
  ·refine kR ?_
   refine kM 1 rfl ?_
   refine AOps_buildSlice 12 _ _ _ [_] (rowsD ([p1])) _ rfl rfl rfl rfl rfl (by decide) Tryz.underlying30 Tryz.sizeOf40 (zero_of Tryz.typeInfo40 rfl) rfl rfl (rowsD_one _) ?_
   refine kN 1 rfl ?_
   refine ACode_ret ?_
   cases h
   exact ⟨_, _, fun r a w h => ⟨r, h⟩, _, _, [], _, (.cons (ResV_tmp _ _ rfl) .nil), rfl, rfl, rfl, rfl, rfl⟩
  refine ACode_skip ?_
  refine kR ?_
  refine AOps_buildSlice 13 _ _ _ [] (rowsD ([] : List (List Int))) _ rfl rfl rfl rfl rfl (by decide) Tryz.underlying30 Tryz.sizeOf40 (zero_of Tryz.typeInfo40 rfl) rfl rfl (rowsD_one _) ?_
  refine kN 1 rfl ?_
  refine kB (fun s18 => [(5, .vec 0 0)]) (fun s18 => [.vec 0 (rowsD s18)]) h (fun s18 h => ?_) (fun s18 h => ?_)
  ·refine kR ?_
   refine kN 2 rfl ?_
   refine ACode_block ?_
   refine ACode_loopW (fun k0 E H => ∃ (x3 : Int) (x4 : List (List Int)), E = [(0, iV p0), (1, .d (.sl none (intsD p1))), (5, .vec 0 0), (14, iV p0), (15, iV x3)] ∧ H = [.vec 0 (rowsD x4)] ∧ impl_orders_l0 k self p0 p1 k0 x3 x4 = some s18) k _ _ (Weak_keep 0 hm [0, 1, 5, 14, 15] [0] _ _ rfl rfl rfl) ⟨_, _, rfl, rfl, h⟩ ?_
   clear h
   rintro k0 E H ⟨x3, x4, rfl, rfl, h⟩
   cases k0 with
   | zero => cases (show (none : Option (List (List Int))) = some _ from h)
   | succ k0 =>
    rw [impl_orders_l0] at h
    refine kR ?_
    refine AOps_q 16 _ rfl rfl rfl (QOp_lss _ _ _ _ _ _ _ rfl rfl rfl) ?_
    refine AOps_nil ?_
    refine ACode_seq ?_
    refine kI h rfl (fun h _ => ?_) (fun h _ => ?_)
    ·refine ACode_skip ?_
     refine kB (fun s17 => [(0, iV p0), (1, .d (.sl none (intsD p1))), (5, .vec 0 0), (14, iV p0), (15, iV x3)]) (fun s17 => [.vec 0 (rowsD s17)]) h (fun s17 h => ?_) (fun s17 h => ?_)
     ·refine ACode_block ?_
      refine kR ?_
      refine kN 2 rfl ?_
      refine kR ?_
      refine kM 2 rfl ?_
      obtain ⟨r6, hr6, h⟩ := bindO h
      refine kC [] 20 (bV r6) [.vec 0 (rowsD x4)] rfl Tryz.call64 rfl rfl (slices_Contains_ac k p1 x3 _ hr6) rfl ?_
      refine AOps_q 21 _ rfl rfl rfl (QOp_not _ _ _ rfl rfl) ?_
      refine AOps_nil ?_
      refine kI h rfl (fun h _ => ?_) (fun h _ => ?_)
      ·refine (ACode_region ?_)
       refine kM 3 rfl ?_
       refine bsplit (p1.isEmpty) (fun hb8 => ?_) (fun hb8 => ?_)
       ·have h := iteT hb8 h
        refine kC [] 25 (.d (.se none)) [.vec 0 (rowsD x4)] rfl Tryz.call65 rfl rfl (cloneB_ac p1 hb8) rfl ?_
        refine kM 1 rfl ?_
        refine AOps_buildSlice 27 _ _ _ [_] (intsD ([x3])) _ rfl rfl rfl rfl rfl (by decide) Tryz.underlying40 Tryz.sizeOf2 (zero_of Tryz.typeInfo2 rfl) rfl rfl (intsD_one _) ?_
        obtain ⟨hc10, h⟩ := guardO h
        refine AOps_append0 28 _ _ _ _ _ _ _ _ _ _ rfl rfl rfl rfl rfl rfl rfl Tryz.underlying40 Tryz.type2 rfl rfl rfl (by decide) rfl rfl rfl (intsD_one _) (by rw [intsD_length]; exact hc10.1) (by rw [intsD_length]; exact hc10.2) ?_
        refine AOps_freezeL [28] 2 0 _ (allc (rfl) (fun _ h => nomatch h)) rfl ?_
        obtain ⟨r11, hr11, h⟩ := bindO h
        refine kC [] 29 (.d (.sl none (rowsD r11))) [.vec 0 (rowsD x4), .vec 0 (intsD ([x3])), .gone] rfl Tryz.call29 rfl rfl (hself p0 ([x3]) _ hr11) rfl ?_
        obtain ⟨hc12, h⟩ := guardO h
        refine AOps_append 30 _ _ _ _ _ _ _ _ _ _ _ _ rfl rfl rfl rfl rfl rfl rfl Tryz.underlying30 Tryz.type40 rfl rfl rfl (by decide) rfl rfl rfl rfl (rowsD_one _) (by rw [rowsD_length, rowsD_length]; exact hc12) ?_
        rw [rowsD_app]
        refine kN 1 rfl ?_
        cases h
        exact Weak_trans (Weak_keep 0 hm [0, 1, 5, 14, 15] [0] _ _ rfl rfl rfl) (Weak_reset 0 hm hz [0, 1, 5, 14, 15] _ _ rfl rfl)
       have h := iteF hb8 h
       obtain ⟨r13, hr13, h⟩ := bindO h
       refine kC [] 25 (.vec 1 0) [.vec 0 (rowsD x4), .vec 0 (intsD r13)] rfl Tryz.call65 rfl rfl (cloneA_ac p1 _ hb8 hr13) rfl ?_
       refine kM 1 rfl ?_
       refine AOps_buildSlice 27 _ _ _ [_] (intsD ([x3])) _ rfl rfl rfl rfl rfl (by decide) Tryz.underlying40 Tryz.sizeOf2 (zero_of Tryz.typeInfo2 rfl) rfl rfl (intsD_one _) ?_
       obtain ⟨hc14, h⟩ := guardO h
       refine AOps_append 28 _ _ _ _ _ _ _ _ _ _ _ _ rfl rfl rfl rfl rfl rfl rfl Tryz.underlying40 Tryz.type2 rfl rfl rfl (by decide) rfl rfl rfl rfl (intsD_one _) (by rw [intsD_length, intsD_length]; exact hc14) ?_
       rw [intsD_app]
       refine AOps_freezeL [28] 1 1 _ (allc (rfl) (fun _ h => nomatch h)) rfl ?_
       obtain ⟨r15, hr15, h⟩ := bindO h
       refine kC [] 29 (.d (.sl none (rowsD r15))) [.vec 0 (rowsD x4), .gone, .vec 0 (intsD ([x3]))] rfl Tryz.call29 rfl rfl (hself p0 (r13 ++ ([x3])) _ hr15) rfl ?_
       obtain ⟨hc16, h⟩ := guardO h
       refine AOps_append 30 _ _ _ _ _ _ _ _ _ _ _ _ rfl rfl rfl rfl rfl rfl rfl Tryz.underlying30 Tryz.type40 rfl rfl rfl (by decide) rfl rfl rfl rfl (rowsD_one _) (by rw [rowsD_length, rowsD_length]; exact hc16) ?_
       rw [rowsD_app]
       refine kN 1 rfl ?_
       cases h
       exact Weak_trans (Weak_keep 0 hm [0, 1, 5, 14, 15] [0] _ _ rfl rfl rfl) (Weak_reset 0 hm hz [0, 1, 5, 14, 15] _ _ rfl rfl)
      refine ACode_skip ?_
      cases h
      exact Weak_keep 0 hm [0, 1, 5, 14, 15] [0] _ _ rfl rfl rfl
     refine (ACode_region ?_)
     refine AOps_q 31 _ rfl rfl rfl (QOp_add _ _ _ _ _ _ _ rfl rfl rfl) ?_
     refine kN 1 rfl ?_
     exact ⟨k0, _, _, Nat.lt_succ_self _, Weak_keep 0 hm [0, 1, 5, 14, 15] [0] _ _ rfl rfl rfl, _, _, rfl, rfl, h⟩
    refine ACode_exit ?_
    cases h
    exact Weak_keep 0 hm [5] [0] _ _ rfl rfl rfl
  refine kR ?_
  refine kN 2 rfl ?_
  refine ACode_ret ?_
  cases h
  exact ⟨_, _, fun r a w h => ⟨r, h⟩, _, _, [], _, (.cons (ResV_tmp _ _ rfl) .nil), rfl, rfl, rfl, rfl, rfl⟩

def impl_number (p0 : Int) (p1 : Int) : Int :=
 w64 ((w64 ((w64 ((if p0 < p1 then p1 else p0) * (w64 ((if p0 < p1 then p1 else p0) - 1)))).tdiv 2)) + (if p1 < p0 then p1 else p0))
theorem impl_number_ac (p0 : Int) (p1 : Int) : AC Tryz.prog 82 [iV p0, iV p1] [] (fun res H' => res = [iV (impl_number p0 p1)] ∧ H' = []) := by
 refine AC_of_body true Tryz.func82 rfl Tryz.ntmps82 (rvs := [.tmp 4]) rfl rfl (fun G hG => ?_)
 have hm : G.H.length = 0 := by rw [hG]; rfl
 have hz : zeroG G.H = true := by rw [hG]; rfl
 obtain ⟨r, h⟩ : ∃ r, impl_number p0 p1 = r := ⟨_, rfl⟩
 rw [h]
 unfold impl_number at h
 refine kR ?_
 refine kN 1 rfl ?_
 refine kR ?_
 refine kM 2 rfl ?_
 refine AOps_q 7 _ rfl rfl rfl (QOp_min _ _ _ _ _ _ rfl rfl rfl rfl rfl) ?_
 refine kM 2 rfl ?_
 refine AOps_q 10 _ rfl rfl rfl (QOp_max _ _ _ _ _ _ rfl rfl rfl rfl rfl) ?_
 refine kN 2 rfl ?_
 refine kR ?_
 refine kM 2 rfl ?_
 refine AOps_q 13 _ rfl rfl rfl (QOp_sub _ _ _ _ _ _ _ rfl rfl rfl) ?_
 refine AOps_q 14 _ rfl rfl rfl (QOp_mul _ _ _ _ _ _ _ rfl rfl rfl) ?_
 refine AOps_q 15 _ rfl rfl rfl (QOp_quo _ _ _ _ _ _ _ (by decide) rfl rfl rfl) ?_
 refine kM 1 rfl ?_
 refine AOps_q 17 _ rfl rfl rfl (QOp_add _ _ _ _ _ _ _ rfl rfl rfl) ?_
 refine kN 1 rfl ?_
 refine ACode_ret ?_
 cases h
 exact ⟨_, _, fun r a w h => ⟨r, h⟩, _, _, [], _, (.cons (ResV_tmp _ _ rfl) .nil), rfl, rfl, rfl, rfl, rfl⟩

def impl_Colouring_at (p0 : Col) (p1 : Int) (p2 : Int) : Option (Int) :=
 (if 0 ≤ (impl_number p1 p2) ∧ (impl_number p1 p2) < 136 then some ((p0.get ((impl_number p1 p2).toNat)).toNat : Int) else none)
theorem impl_Colouring_at_ac (p0 : Col) (p1 : Int) (p2 : Int) (r : Int) (h : impl_Colouring_at p0 p1 p2 = some r) : AC Tryz.prog 67 [.d (.pv (colD p0) 0), iV p1, iV p2] [] (fun res H' => res = [iV r] ∧ H' = []) := by
 refine AC_of_body true Tryz.func67 rfl Tryz.ntmps67 (rvs := [.tmp 6]) rfl rfl (fun G hG => ?_)
 have hm : G.H.length = 0 := by rw [hG]; rfl
 have hz : zeroG G.H = true := by rw [hG]; rfl
 unfold impl_Colouring_at at h
 refine kR ?_
 refine kN 1 rfl ?_
 refine ACode_seq (ACode_quiet mixed (by kernel_rfl) ?_)
 refine kQ 3 rfl ?_
 refine AQ_call 10 _ _ _ _ _ _ _ _ _ rfl rfl rfl rfl rfl rfl rfl Tryz.call82 rfl rfl rfl (impl_number_ac p1 p2) ?_
 refine AQ_q 11 _ rfl rfl rfl (QOp_nilCheck_pv _ _ _ rfl rfl) ?_
 refine AQ_q 12 _ rfl rfl rfl (QOp_fieldAddr_pv _ _ _ _ _ 2 _ _ rfl Tryz.underlying26 rfl _ Tryz.sizeOf24 rfl rfl) ?_
 obtain ⟨hc2, h⟩ := guardO h
 refine AQ_q 13 _ rfl rfl rfl (QOp_indexAddrA_pv _ _ _ _ _ _ _ _ _ rfl Tryz.underlying24 Tryz.sizeOf5 hc2.1 hc2.2 rfl rfl) ?_
 refine AQ_q 14 _ rfl rfl rfl (QOp_load_pv _ _ _ _ _ rfl Tryz.isAgg5 rfl (colD_get _ _ (by omega))) ?_
 refine AQ_q 15 _ rfl rfl rfl (QOp_fromByte _ _ _ _ _ rfl rfl Tryz.underlying2 wrap_i64_byte rfl) ?_
 refine kQ 1 rfl ?_
 refine AQ_nil ?_
 refine ACode_ret ?_
 cases h
 exact ⟨_, _, fun r a w h => ⟨r, h⟩, _, _, [], _, (.cons (ResV_tmp _ _ rfl) .nil), rfl, rfl, rfl, rfl, rfl⟩

end Go.Proofs.YtldgmcghdohmeaaGreat
