/- Plain functions of the program and that the program computes them: printed by the own tool gen.py. No conditions. -/
import Derived.Test.YtjcgphgipleccaaGreatCloV
import Derived.Test.YtjcgphgipleccaaGreatSrc
import Derived.Test.YtjcgphgipleccaaGreatAb24
import Derived.Test.YtjcgphgipleccaaGreatAb23
import Derived.Test.YtjcgphgipleccaaGreatAb18
import Derived.Test.YtjcgphgipleccaaGreatAb27
import Derived.Test.YtjcgphgipleccaaGreatGenC
set_option linter.unusedVariables false
set_option linter.unusedSimpArgs false
namespace Go.Proofs.YtjcgphgipleccaaGreat
open Go Go.RowKit Ab

-- loop.example/g01362/laws.big
def laws_big (p0 : List UInt8) : Bool :=
 decide (4096 < (p0.length : Int))
set_option maxRecDepth 100000 in
theorem laws_big_ac (p0 : List UInt8) : AC Tryz.prog 4 [.d (.sl none (bysD p0))] [] (fun res H' => res = [bV (laws_big p0)] ∧ H' = []) := by
 refine AC_of_body true Tryz.func4 rfl Tryz.ntmps4 (rvs := [.tmp 2]) rfl rfl (fun G hG => ?_)
 have hm : G.H.length = 0 := by rw [hG]; rfl
 have hz : zeroG G.H = true := by rw [hG]; rfl
 obtain ⟨r, h⟩ : ∃ r, laws_big p0 = r := ⟨_, rfl⟩
 rw [h]
 unfold laws_big at h
 refine kR ?_
 refine kN 1 rfl ?_
 refine kR ?_
 refine kM 1 rfl ?_
 refine AOps_q 4 _ rfl rfl rfl (QOp_len_sl _ _ _ _ _ _ _ (bysD_length _) rfl rfl rfl rfl Tryz.underlying22 rfl) ?_
 refine AOps_q 5 _ rfl rfl rfl (QOp_gtr _ _ _ _ _ _ _ rfl rfl rfl) ?_
 refine kN 1 rfl ?_
 refine ACode_ret ?_
 cases h
 exact ⟨_, _, fun r a w h => ⟨r, h⟩, _, _, [], _, (.cons (ResV_tmp _ _ rfl) .nil), rfl, rfl, rfl, rfl, rfl⟩

-- loop.example/g01362/spec.l01From
def spec_l01From_l0 (p0 : List UInt8) : Nat → Int → Src → Option (Src)
 | 0, _, _ => none
 | k0 + 1, x1, x2 => (letO (if decide (x1 < (p0.length : Int)) then decide (x1 < 4096) else false) fun (s4 : Bool) => (if s4 then some (.inl ()) else (some x2).bind fun rr => some (.inr rr)) : Option (Sum (Unit) (Src))).bind fun os6 => (match os6 with | .inl s6 => (if 0 ≤ x1 ∧ x1 < (p0.length : Int) then spec_l01From_l0 p0 k0 (w64 (x1 + 1)) (⟨x2.c, x2.i, IntKind.u64.wrap ((IntKind.u64.wrap ((IntKind.u64.wrap (x2.h * 1099511628211)) + ((p0.getD x1.toNat 0).toNat : Int))) + 193)⟩ : Src) else none) | .inr rr => some rr)
def spec_l01From (k : Nat) (p0 : List UInt8) : Option (Src) :=
 (spec_l01From_l0 p0 k 0 (⟨p0, 0, IntKind.u64.wrap (13621 + (IntKind.u64.wrap (p0.length : Int)))⟩ : Src) : Option (Src)).bind fun s8 => some s8
set_option maxRecDepth 100000 in
theorem spec_l01From_ac (k : Nat) (p0 : List UInt8) (r : Src) (h : spec_l01From k p0 = some r) : AC Tryz.prog 48 [.d (.sl none (bysD p0))] [] (fun res H' => res = [.ptr 0 0] ∧ H' = [.box (srcD r)]) := by
 refine AC_of_body true Tryz.func48 rfl Tryz.ntmps48 (rvs := [.tmp 2]) rfl rfl (fun G hG => ?_)
 have hm : G.H.length = 0 := by rw [hG]; rfl
 have hz : zeroG G.H = true := by rw [hG]; rfl
 unfold spec_l01From at h
 refine kR ?_
 refine kN 1 rfl ?_
 refine kR ?_
 refine kM 2 rfl ?_
 refine AOps_q 7 _ rfl rfl rfl (QOp_len_sl _ _ _ _ _ _ _ (bysD_length _) rfl rfl rfl rfl Tryz.underlying22 rfl) ?_
 refine AOps_q 8 _ rfl rfl rfl (QOp_conv _ _ _ _ _ _ rfl rfl Tryz.underlying83 rfl) ?_
 refine AOps_q 9 _ rfl rfl rfl (QOp_add _ _ _ _ _ _ _ rfl rfl rfl) ?_
 refine AOps_q 10 _ rfl rfl rfl (QOp_build _ _ [_, _] [0, 2] [.sl none (bysD p0), .s (.int .u64 (IntKind.u64.wrap (13621 + (IntKind.u64.wrap (p0.length : Int)))))] _ [.sl (some true) [], iD 0, .s (.int .u64 0)] (srcD (⟨p0, 0, IntKind.u64.wrap (13621 + (IntKind.u64.wrap (p0.length : Int)))⟩ : Src)) [(0, 1), (1, 1), (2, 1)] rfl rfl Tryz.underlying88 (zero_of Tryz.typeInfo88 rfl) (fun w => by simp [Tryz.sizeOf22, Tryz.sizeOf3, Tryz.sizeOf83]) rfl (by rfl) (by rfl) (allc (ok1 rfl) (allc (ok1 rfl) (fun _ h => nomatch h)))) ?_
 refine AOps_boxM 11 _ _ (.agg (srcD (⟨p0, 0, IntKind.u64.wrap (13621 + (IntKind.u64.wrap (p0.length : Int)))⟩ : Src))) (srcD (⟨p0, 0, IntKind.u64.wrap (13621 + (IntKind.u64.wrap (p0.length : Int)))⟩ : Src)) rfl (srcD_one _) rfl rfl rfl rfl rfl ?_
 refine kN 1 rfl ?_
 refine kB (fun s8 => [(3, .ptr 0 0)]) (fun s8 => [.box (srcD s8)]) h (fun s8 h => ?_) (fun s8 h => ?_)
 ·refine kR ?_
  refine kN 1 rfl ?_
  refine ACode_block ?_
  refine ACode_loopW (fun k0 E H => ∃ (x1 : Int) (x2 : Src), E = [(0, .d (.sl none (bysD p0))), (3, .ptr 0 0), (4, iV x1)] ∧ H = [.box (srcD x2)] ∧ spec_l01From_l0 p0 k0 x1 x2 = some s8) k _ _ (Weak_keep 0 hm [0, 3, 4] [0] _ _ rfl rfl rfl) ⟨_, _, rfl, rfl, h⟩ ?_
  clear h
  rintro k0 E H ⟨x1, x2, rfl, rfl, h⟩
  cases k0 with
  | zero => cases (show (none : Option (Src)) = some _ from h)
  | succ k0 =>
   rw [spec_l01From_l0] at h
   refine kO (fun s6 => [(0, .d (.sl none (bysD p0))), (3, .ptr 0 0), (4, iV x1)]) (fun s6 => [.box (srcD x2)]) h (fun os6 h hks6 => ?_) (fun s6 h => ?_)
   ·refine kL (fun s4 => [(0, .d (.sl none (bysD p0))), (3, .ptr 0 0), (4, iV x1), (19, bV s4)]) (fun s4 => [.box (srcD x2)]) h (fun s4 h => ?_) (fun s4 h => ?_)
    ·refine (ACode_region ?_)
     refine kM 2 rfl ?_
     refine AOps_q 14 _ rfl rfl rfl (QOp_len_sl _ _ _ _ _ _ _ (bysD_length _) rfl rfl rfl rfl Tryz.underlying22 rfl) ?_
     refine AOps_q 15 _ rfl rfl rfl (QOp_lss _ _ _ _ _ _ _ rfl rfl rfl) ?_
     refine kM 1 rfl ?_
     refine AOps_case 16 _ rfl (fun hb3 => ?_) (fun hb3 => ?_)
     ·have h := iteT hb3 h
      refine kM 1 rfl ?_
      refine AOps_q 18 _ rfl rfl rfl (QOp_lss _ _ _ _ _ _ _ rfl rfl rfl) ?_
      refine kN 1 rfl ?_
      cases h
      exact Weak_keep 0 hm [0, 3, 4, 19] [0] _ _ rfl rfl rfl
     have h := iteF hb3 h
     refine AOps_skip 17 rfl rfl rfl ?_
     refine AOps_skip 18 rfl rfl rfl ?_
     refine kN 1 rfl ?_
     cases h
     exact Weak_keep 0 hm [0, 3, 4, 19] [0] _ _ rfl rfl rfl
    refine kI h rfl (fun h _ => ?_) (fun h _ => ?_)
    ·refine ACode_skip ?_
     cases h
     exact ⟨_, rfl, Weak_keep 0 hm [0, 3, 4] [0] _ _ rfl rfl rfl⟩
    refine ACode_exit ?_
    obtain ⟨rr, hz9, h2⟩ := bindO h
    obtain rfl := Option.some.inj h2
    obtain rfl := Option.some.inj (show some rr = some _ from hks6)
    have h := hz9
    cases h
    exact Weak_keep 0 hm [3] [0] _ _ rfl rfl rfl
   refine ACode_seq ?_
   refine ACode_block ?_
   refine (ACode_last (l := [_, _, _, _, _, _, _, _, _, _, _, _, _, _, _]) mixed (by kernel_rfl) (by kernel_rfl) ?_)
   refine kQ 2 rfl ?_
   refine AQ_q 24 _ rfl rfl rfl (QOp_nilCheck_ptr _ _ _ _ rfl rfl rfl rfl) ?_
   refine AQ_q 25 _ rfl rfl rfl (QOp_fieldAddr_ptr _ _ _ _ _ _ 2 _ _ rfl Tryz.underlying88 rfl _ Tryz.sizeOf83 rfl rfl rfl rfl) ?_
   refine AQ_q 26 _ rfl rfl rfl (QOp_load_ptr _ _ _ _ _ _ rfl Tryz.isAgg83 rfl rfl rfl) ?_
   refine AQ_q 27 _ rfl rfl rfl (QOp_mul _ _ _ _ _ _ _ rfl rfl rfl) ?_
   refine kQ 2 rfl ?_
   obtain ⟨hc7, h⟩ := guardO h
   refine AQ_q 30 _ rfl rfl rfl (QOp_indexAddr_sl _ _ _ _ _ _ _ _ rfl Tryz.underlying22 Tryz.sizeOf5 hc7.1 (by rw [bysD_length]; exact hc7.2) rfl rfl) ?_
   refine AQ_q 31 _ rfl rfl rfl (QOp_load_pv _ _ _ _ _ rfl Tryz.isAgg5 rfl (bysD_get _ _ 0 (by omega))) ?_
   refine AQ_q 32 _ rfl rfl rfl (QOp_fromByte _ _ _ _ _ rfl rfl Tryz.underlying83 wrap_u64_byte rfl) ?_
   refine AQ_q 33 _ rfl rfl rfl (QOp_add _ _ _ _ _ _ _ rfl rfl rfl) ?_
   refine AQ_q 34 _ rfl rfl rfl (QOp_add _ _ _ _ _ _ _ rfl rfl rfl) ?_
   refine AQ_q 35 _ rfl rfl rfl (QOp_nilCheck_ptr _ _ _ _ rfl rfl rfl rfl) ?_
   refine AQ_q 36 _ rfl rfl rfl (QOp_fieldAddr_ptr _ _ _ _ _ _ 2 _ _ rfl Tryz.underlying88 rfl _ Tryz.sizeOf83 rfl rfl rfl rfl) ?_
   refine AQ_nil ?_
   refine AOps_store1 _ _ _ _ _ _ (srcD (⟨x2.c, x2.i, IntKind.u64.wrap ((IntKind.u64.wrap ((IntKind.u64.wrap (x2.h * 1099511628211)) + ((p0.getD x1.toNat 0).toNat : Int))) + 193)⟩ : Src)) _ rfl rfl rfl rfl rfl rfl rfl Tryz.sizeOf83 (by rw [srcD_length]; decide) (srcD_set2 _ _) ?_
   refine AOps_nil ?_
   refine (ACode_region ?_)
   refine kM 1 rfl ?_
   refine AOps_q 21 _ rfl rfl rfl (QOp_add _ _ _ _ _ _ _ rfl rfl rfl) ?_
   refine kN 1 rfl ?_
   exact ⟨k0, _, _, Nat.lt_succ_self _, Weak_keep 0 hm [0, 3, 4] [0] _ _ rfl rfl rfl, _, _, rfl, rfl, h⟩
 refine kR ?_
 refine kN 2 rfl ?_
 refine ACode_ret ?_
 cases h
 exact ⟨_, _, Weak_reset 0 hm hz [2] _ _ rfl rfl, _, _, [0], _, (.cons (ResV_tmp _ _ rfl) .nil), rfl, rfl, rfl, rfl, rfl⟩

-- loop.example/g01362/spec.l01Next
def spec_l01Next (p0 : Src) (p1 : Int) : Option (Int × Src) :=
 (if decide (p1 < 1) then some (0, p0) else ((if decide ((⟨p0.c, p0.i, IntKind.u64.wrap ((IntKind.u64.wrap (p0.h * 6364136223846793005)) + 1442695040888963407)⟩ : Src).i < (((⟨p0.c, p0.i, IntKind.u64.wrap ((IntKind.u64.wrap (p0.h * 6364136223846793005)) + 1442695040888963407)⟩ : Src).c).length : Int)) then (if 0 ≤ (⟨p0.c, p0.i, IntKind.u64.wrap ((IntKind.u64.wrap (p0.h * 6364136223846793005)) + 1442695040888963407)⟩ : Src).i ∧ (⟨p0.c, p0.i, IntKind.u64.wrap ((IntKind.u64.wrap (p0.h * 6364136223846793005)) + 1442695040888963407)⟩ : Src).i < (((⟨p0.c, p0.i, IntKind.u64.wrap ((IntKind.u64.wrap (p0.h * 6364136223846793005)) + 1442695040888963407)⟩ : Src).c).length : Int) then some (w64 ((w64 (bAnd .u64 (bShr .u64 ((⟨p0.c, p0.i, IntKind.u64.wrap ((IntKind.u64.wrap (p0.h * 6364136223846793005)) + 1442695040888963407)⟩ : Src).h) 33) 16777215)) + ((((⟨p0.c, p0.i, IntKind.u64.wrap ((IntKind.u64.wrap (p0.h * 6364136223846793005)) + 1442695040888963407)⟩ : Src).c).getD ((⟨p0.c, p0.i, IntKind.u64.wrap ((IntKind.u64.wrap (p0.h * 6364136223846793005)) + 1442695040888963407)⟩ : Src).i).toNat 0).toNat : Int)), (⟨(⟨p0.c, p0.i, IntKind.u64.wrap ((IntKind.u64.wrap (p0.h * 6364136223846793005)) + 1442695040888963407)⟩ : Src).c, w64 (((⟨p0.c, p0.i, IntKind.u64.wrap ((IntKind.u64.wrap (p0.h * 6364136223846793005)) + 1442695040888963407)⟩ : Src).i) + 1), (⟨p0.c, p0.i, IntKind.u64.wrap ((IntKind.u64.wrap (p0.h * 6364136223846793005)) + 1442695040888963407)⟩ : Src).h⟩ : Src)) else none) else some (w64 (bAnd .u64 (bShr .u64 ((⟨p0.c, p0.i, IntKind.u64.wrap ((IntKind.u64.wrap (p0.h * 6364136223846793005)) + 1442695040888963407)⟩ : Src).h) 33) 16777215), (⟨p0.c, p0.i, IntKind.u64.wrap ((IntKind.u64.wrap (p0.h * 6364136223846793005)) + 1442695040888963407)⟩ : Src))) : Option (Int × Src)).bind fun s4 => (if p1 ≠ 0 then some (s4.1.tmod p1, s4.2) else none))
set_option maxRecDepth 100000 in
theorem spec_l01Next_ac (p0 : Src) (p1 : Int) (r : Int × Src) (h : spec_l01Next p0 p1 = some r) : AC Tryz.prog 51 [.ptr 0 0, iV p1] [.box (srcD p0)] (fun res H' => res = [iV r.1] ∧ H' = [.box (srcD r.2)]) := by
 refine AC_of_body true Tryz.func51 rfl Tryz.ntmps51 (rvs := [.tmp 4]) rfl rfl (fun G hG => ?_)
 have hm : G.H.length = 1 := by rw [hG]; rfl
 have hz : zeroG G.H = true := by rw [hG]; rfl
 unfold spec_l01Next at h
 refine kR ?_
 refine kN 1 rfl ?_
 refine ACode_seq ?_
 refine kR ?_
 refine kM 1 rfl ?_
 refine AOps_q 7 _ rfl rfl rfl (QOp_lss _ _ _ _ _ _ _ rfl rfl rfl) ?_
 refine AOps_nil ?_
 refine kI h rfl (fun h _ => ?_) (fun h _ => ?_)
 ·refine kR ?_
  refine kN 1 rfl ?_
  refine ACode_ret ?_
  cases h
  exact ⟨_, _, fun r a w h => ⟨r, h⟩, _, _, [], _, (.cons (ResV_tmp _ _ rfl) .nil), rfl, rfl, rfl, rfl, rfl⟩
 refine ACode_skip ?_
 refine kR ?_
 refine kM 2 rfl ?_
 refine AOps_q 10 _ rfl rfl rfl (QOp_nilCheck_ptr _ _ _ _ rfl rfl rfl rfl) ?_
 refine AOps_q 11 _ rfl rfl rfl (QOp_fieldAddr_ptr _ _ _ _ _ _ 2 _ _ rfl Tryz.underlying88 rfl _ Tryz.sizeOf83 rfl rfl rfl rfl) ?_
 refine AOps_q 12 _ rfl rfl rfl (QOp_load_ptr _ _ _ _ _ _ rfl Tryz.isAgg83 rfl rfl rfl) ?_
 refine AOps_q 13 _ rfl rfl rfl (QOp_mul _ _ _ _ _ _ _ rfl rfl rfl) ?_
 refine AOps_q 14 _ rfl rfl rfl (QOp_add _ _ _ _ _ _ _ rfl rfl rfl) ?_
 refine AOps_q 15 _ rfl rfl rfl (QOp_nilCheck_ptr _ _ _ _ rfl rfl rfl rfl) ?_
 refine AOps_q 16 _ rfl rfl rfl (QOp_fieldAddr_ptr _ _ _ _ _ _ 2 _ _ rfl Tryz.underlying88 rfl _ Tryz.sizeOf83 rfl rfl rfl rfl) ?_
 refine AOps_store1 _ _ _ _ _ _ (srcD (⟨p0.c, p0.i, IntKind.u64.wrap ((IntKind.u64.wrap (p0.h * 6364136223846793005)) + 1442695040888963407)⟩ : Src)) _ rfl rfl rfl rfl rfl rfl rfl Tryz.sizeOf83 (by rw [srcD_length]; decide) (srcD_set2 _ _) ?_
 refine AOps_nil ?_
 refine kR ?_
 refine kM 1 rfl ?_
 refine AOps_q 18 _ rfl rfl rfl (QOp_nilCheck_ptr _ _ _ _ rfl rfl rfl rfl) ?_
 refine AOps_q 19 _ rfl rfl rfl (QOp_fieldAddr_ptr _ _ _ _ _ _ 2 _ _ rfl Tryz.underlying88 rfl _ Tryz.sizeOf83 rfl rfl rfl rfl) ?_
 refine AOps_q 20 _ rfl rfl rfl (QOp_load_ptr _ _ _ _ _ _ rfl Tryz.isAgg83 rfl rfl rfl) ?_
 refine AOps_q 21 _ rfl rfl rfl (QOp_shr _ _ _ _ _ _ _ _ (by decide) rfl rfl rfl) ?_
 refine AOps_q 22 _ rfl rfl rfl (QOp_and _ _ _ _ _ _ _ rfl rfl rfl) ?_
 refine AOps_q 23 _ rfl rfl rfl (QOp_conv _ _ _ _ _ _ rfl rfl Tryz.underlying2 rfl) ?_
 refine kN 1 rfl ?_
 refine kB (fun s4 => [(1, iV p1), (5, iV s4.1)]) (fun s4 => [.box (srcD s4.2)]) h (fun s4 h => ?_) (fun s4 h => ?_)
 ·refine ACode_seq (ACode_quiet mixed (by kernel_rfl) ?_)
  refine kQ 1 rfl ?_
  refine AQ_q 25 _ rfl rfl rfl (QOp_nilCheck_ptr _ _ _ _ rfl rfl rfl rfl) ?_
  refine AQ_q 26 _ rfl rfl rfl (QOp_fieldAddr_ptr _ _ _ _ _ _ 1 _ _ rfl Tryz.underlying88 rfl _ Tryz.sizeOf3 rfl rfl rfl rfl) ?_
  refine AQ_q 27 _ rfl rfl rfl (QOp_load_ptr _ _ _ _ _ _ rfl Tryz.isAgg3 rfl rfl rfl) ?_
  refine kQ 1 rfl ?_
  refine AQ_q 29 _ rfl rfl rfl (QOp_nilCheck_ptr _ _ _ _ rfl rfl rfl rfl) ?_
  refine AQ_q 30 _ rfl rfl rfl (QOp_fieldAddr_ptr _ _ _ _ _ _ 0 _ _ rfl Tryz.underlying88 rfl _ Tryz.sizeOf22 rfl rfl rfl rfl) ?_
  refine AQ_q 31 _ rfl rfl rfl (QOp_load_ptr _ _ _ _ _ _ rfl Tryz.isAgg22 rfl rfl rfl) ?_
  refine AQ_q 32 _ rfl rfl rfl (QOp_len_sl _ _ _ _ _ _ _ (bysD_length _) rfl rfl rfl rfl Tryz.underlying22 rfl) ?_
  refine AQ_q 33 _ rfl rfl rfl (QOp_lss _ _ _ _ _ _ _ rfl rfl rfl) ?_
  refine AQ_nil ?_
  refine kI h rfl (fun h _ => ?_) (fun h _ => ?_)
  ·refine ACode_seq (ACode_quiet mixed (by kernel_rfl) ?_)
   refine kQ 2 rfl ?_
   refine AQ_q 36 _ rfl rfl rfl (QOp_nilCheck_ptr _ _ _ _ rfl rfl rfl rfl) ?_
   refine AQ_q 37 _ rfl rfl rfl (QOp_fieldAddr_ptr _ _ _ _ _ _ 0 _ _ rfl Tryz.underlying88 rfl _ Tryz.sizeOf22 rfl rfl rfl rfl) ?_
   refine AQ_q 38 _ rfl rfl rfl (QOp_load_ptr _ _ _ _ _ _ rfl Tryz.isAgg22 rfl rfl rfl) ?_
   refine kQ 1 rfl ?_
   refine AQ_q 40 _ rfl rfl rfl (QOp_nilCheck_ptr _ _ _ _ rfl rfl rfl rfl) ?_
   refine AQ_q 41 _ rfl rfl rfl (QOp_fieldAddr_ptr _ _ _ _ _ _ 1 _ _ rfl Tryz.underlying88 rfl _ Tryz.sizeOf3 rfl rfl rfl rfl) ?_
   refine AQ_q 42 _ rfl rfl rfl (QOp_load_ptr _ _ _ _ _ _ rfl Tryz.isAgg3 rfl rfl rfl) ?_
   obtain ⟨hc3, h⟩ := guardO h
   refine AQ_q 43 _ rfl rfl rfl (QOp_indexAddr_sl _ _ _ _ _ _ _ _ rfl Tryz.underlying22 Tryz.sizeOf5 hc3.1 (by rw [bysD_length]; exact hc3.2) rfl rfl) ?_
   refine AQ_q 44 _ rfl rfl rfl (QOp_load_pv _ _ _ _ _ rfl Tryz.isAgg5 rfl (bysD_get _ _ 0 (by omega))) ?_
   refine AQ_q 45 _ rfl rfl rfl (QOp_fromByte _ _ _ _ _ rfl rfl Tryz.underlying2 wrap_i64_byte rfl) ?_
   refine AQ_q 46 _ rfl rfl rfl (QOp_add _ _ _ _ _ _ _ rfl rfl rfl) ?_
   refine kQ 1 rfl ?_
   refine AQ_nil ?_
   refine (ACode_region ?_)
   refine kM 2 rfl ?_
   refine AOps_q 49 _ rfl rfl rfl (QOp_nilCheck_ptr _ _ _ _ rfl rfl rfl rfl) ?_
   refine AOps_q 50 _ rfl rfl rfl (QOp_fieldAddr_ptr _ _ _ _ _ _ 1 _ _ rfl Tryz.underlying88 rfl _ Tryz.sizeOf3 rfl rfl rfl rfl) ?_
   refine AOps_q 51 _ rfl rfl rfl (QOp_load_ptr _ _ _ _ _ _ rfl Tryz.isAgg3 rfl rfl rfl) ?_
   refine AOps_q 52 _ rfl rfl rfl (QOp_add _ _ _ _ _ _ _ rfl rfl rfl) ?_
   refine AOps_q 53 _ rfl rfl rfl (QOp_nilCheck_ptr _ _ _ _ rfl rfl rfl rfl) ?_
   refine AOps_q 54 _ rfl rfl rfl (QOp_fieldAddr_ptr _ _ _ _ _ _ 1 _ _ rfl Tryz.underlying88 rfl _ Tryz.sizeOf3 rfl rfl rfl rfl) ?_
   refine AOps_store1 _ _ _ _ _ _ (srcD (⟨(⟨p0.c, p0.i, IntKind.u64.wrap ((IntKind.u64.wrap (p0.h * 6364136223846793005)) + 1442695040888963407)⟩ : Src).c, w64 (((⟨p0.c, p0.i, IntKind.u64.wrap ((IntKind.u64.wrap (p0.h * 6364136223846793005)) + 1442695040888963407)⟩ : Src).i) + 1), (⟨p0.c, p0.i, IntKind.u64.wrap ((IntKind.u64.wrap (p0.h * 6364136223846793005)) + 1442695040888963407)⟩ : Src).h⟩ : Src)) _ rfl rfl rfl rfl rfl rfl rfl Tryz.sizeOf3 (by rw [srcD_length]; decide) (srcD_set1 _ _) ?_
   refine AOps_nil ?_
   cases h
   exact Weak_keep 1 hm [1, 5] [] _ _ rfl rfl rfl
  refine ACode_skip ?_
  cases h
  exact Weak_keep 1 hm [1, 5] [] _ _ rfl rfl rfl
 refine kR ?_
 refine kM 2 rfl ?_
 obtain ⟨hc5, h⟩ := guardO h
 refine AOps_q 57 _ rfl rfl rfl (QOp_rem _ _ _ _ _ _ _ hc5 rfl rfl rfl) ?_
 refine kN 1 rfl ?_
 refine ACode_ret ?_
 cases h
 exact ⟨_, _, fun r a w h => ⟨r, h⟩, _, _, [], _, (.cons (ResV_tmp _ _ rfl) .nil), rfl, rfl, rfl, rfl, rfl⟩

-- loop.example/g01362/spec.l01Pick
def spec_l01Pick (p0 : Src) (p1 : List Int) : Option (Int × Src) :=
 (spec_l01Next p0 (p1.length : Int)).bind fun r1 => (if 0 ≤ r1.1 ∧ r1.1 < (p1.length : Int) then some ((p1.getD r1.1.toNat 0), r1.2) else none)
set_option maxRecDepth 100000 in
theorem spec_l01Pick_ac (p0 : Src) (p1 : List Int) (r : Int × Src) (h : spec_l01Pick p0 p1 = some r) : AC Tryz.prog 53 [.ptr 0 0, .d (.sl none (intsD p1))] [.box (srcD p0)] (fun res H' => res = [iV r.1] ∧ H' = [.box (srcD r.2)]) := by
 refine AC_of_body true Tryz.func53 rfl Tryz.ntmps53 (rvs := [.tmp 4]) rfl rfl (fun G hG => ?_)
 have hm : G.H.length = 1 := by rw [hG]; rfl
 have hz : zeroG G.H = true := by rw [hG]; rfl
 unfold spec_l01Pick at h
 refine kR ?_
 refine kN 1 rfl ?_
 refine kR ?_
 refine kM 3 rfl ?_
 refine AOps_q 8 _ rfl rfl rfl (QOp_len_sl _ _ _ _ _ _ _ (intsD_length _) rfl rfl rfl rfl Tryz.underlying27 rfl) ?_
 obtain ⟨r1, hr1, h⟩ := bindO h
 refine kC [0] 9 (iV r1.1) [.box (srcD r1.2)] rfl Tryz.call51 rfl rfl (spec_l01Next_ac p0 (p1.length : Int) _ hr1) rfl ?_
 obtain ⟨hc2, h⟩ := guardO h
 refine AOps_q 10 _ rfl rfl rfl (QOp_indexAddr_sl _ _ _ _ _ _ _ _ rfl Tryz.underlying27 Tryz.sizeOf2 hc2.1 (by rw [intsD_length]; exact hc2.2) rfl rfl) ?_
 refine AOps_q 11 _ rfl rfl rfl (QOp_load_pv _ _ _ _ _ rfl Tryz.isAgg2 rfl (intsD_get _ _ 0 (by omega))) ?_
 refine kN 1 rfl ?_
 refine ACode_ret ?_
 cases h
 exact ⟨_, _, fun r a w h => ⟨r, h⟩, _, _, [], _, (.cons (ResV_tmp _ _ rfl) .nil), rfl, rfl, rfl, rfl, rfl⟩

-- loop.example/g01362/spec.l05DrawSizes
def spec_l05DrawSizes_l0 (p1 : Int) : Nat → Int → Src → (List Int) → Option (Src × List Int)
 | 0, _, _, _ => none
 | k0 + 1, x1, x2, x3 => (if decide (x1 < p1) then (spec_l01Pick x2 ([3, 3, 3, 4, 4, 2, 5])).bind fun r5 => (if x3.length + ([r5.1]).length ≤ 1099511627776 then spec_l05DrawSizes_l0 p1 k0 (w64 (x1 + 1)) r5.2 (x3 ++ ([r5.1])) else none) else some (x2, x3))
def spec_l05DrawSizes (k : Nat) (p0 : Src) (p1 : Int) : Option (List Int × Src) :=
 (spec_l05DrawSizes_l0 p1 k 0 p0 ([] : List Int) : Option (Src × List Int)).bind fun s7 => ((if decide (p1 = 1) then (spec_l01Pick s7.1 ([2, 4, 7, 17])).bind fun r9 => (if 0 ≤ (0 : Int) ∧ (0 : Int) < (s7.2.length : Int) then some (r9.2, s7.2.set (0 : Int).toNat r9.1) else none) else some (s7.1, s7.2)) : Option (Src × List Int)).bind fun s11 => some (s11.2, s11.1)
set_option maxRecDepth 100000 in
theorem spec_l05DrawSizes_ac (k : Nat) (p0 : Src) (p1 : Int) (r : List Int × Src) (h : spec_l05DrawSizes k p0 p1 = some r) : AC Tryz.prog 58 [.ptr 0 0, iV p1] [.box (srcD p0)] (fun res H' => res = [.vec 1 0] ∧ H' = [.box (srcD r.2), .vec 0 (intsD r.1)]) := by
 refine AC_of_body true Tryz.func58 rfl Tryz.ntmps58 (rvs := [.tmp 4]) rfl rfl (fun G hG => ?_)
 have hm : G.H.length = 1 := by rw [hG]; rfl
 have hz : zeroG G.H = true := by rw [hG]; rfl
 unfold spec_l05DrawSizes at h
 refine kR ?_
 refine kN 1 rfl ?_
 refine kR ?_
 refine AOps_buildSlice 7 _ _ _ [] (intsD ([] : List Int)) _ rfl rfl rfl rfl rfl (by decide) Tryz.underlying27 Tryz.sizeOf2 (zero_of Tryz.typeInfo2 rfl) rfl rfl (intsD_one _) ?_
 refine kN 1 rfl ?_
 refine kB (fun s7 => [(0, .ptr 0 0), (1, iV p1), (5, .vec 1 0)]) (fun s7 => [.box (srcD s7.1), .vec 0 (intsD s7.2)]) h (fun s7 h => ?_) (fun s7 h => ?_)
 ·refine kR ?_
  refine kN 1 rfl ?_
  refine ACode_block ?_
  refine ACode_loopW (fun k0 E H => ∃ (x1 : Int) (x2 : Src) (x3 : List Int), E = [(0, .ptr 0 0), (1, iV p1), (5, .vec 1 0), (6, iV x1)] ∧ H = [.box (srcD x2), .vec 0 (intsD x3)] ∧ spec_l05DrawSizes_l0 p1 k0 x1 x2 x3 = some s7) k _ _ (Weak_keep 1 hm [0, 1, 5, 6] [1] _ _ rfl rfl rfl) ⟨_, _, _, rfl, rfl, h⟩ ?_
  clear h
  rintro k0 E H ⟨x1, x2, x3, rfl, rfl, h⟩
  cases k0 with
  | zero => cases (show (none : Option (Src × List Int)) = some _ from h)
  | succ k0 =>
   rw [spec_l05DrawSizes_l0] at h
   refine ACode_seq ?_
   refine kR ?_
   refine kM 2 rfl ?_
   refine AOps_q 10 _ rfl rfl rfl (QOp_lss _ _ _ _ _ _ _ rfl rfl rfl) ?_
   refine AOps_nil ?_
   refine kI h rfl (fun h _ => ?_) (fun h _ => ?_)
   ·refine ACode_skip ?_
    refine ACode_seq ?_
    refine ACode_block ?_
    refine (ACode_region ?_)
    refine kM 2 rfl ?_
    refine AOps_buildSlice 15 _ _ _ [_, _, _, _, _, _, _] (intsD ([3, 3, 3, 4, 4, 2, 5])) _ rfl rfl rfl rfl rfl (by decide) Tryz.underlying27 Tryz.sizeOf2 (zero_of Tryz.typeInfo2 rfl) rfl rfl (intsD_one _) ?_
    refine AOps_freezeL [15] 2 0 _ (allc (rfl) (fun _ h => nomatch h)) rfl ?_
    obtain ⟨r5, hr5, h⟩ := bindO h
    refine kC [0] 16 (iV r5.1) [.box (srcD r5.2), .vec 0 (intsD x3), .gone] rfl Tryz.call53 rfl rfl (spec_l01Pick_ac x2 ([3, 3, 3, 4, 4, 2, 5]) _ hr5) rfl ?_
    refine AOps_buildSlice 17 _ _ _ [_] (intsD ([r5.1])) _ rfl rfl rfl rfl rfl (by decide) Tryz.underlying27 Tryz.sizeOf2 (zero_of Tryz.typeInfo2 rfl) rfl rfl (intsD_one _) ?_
    obtain ⟨hc6, h⟩ := guardO h
    refine AOps_append 18 _ _ _ _ _ _ _ _ _ _ _ _ rfl rfl rfl rfl rfl rfl rfl Tryz.underlying27 Tryz.type2 rfl rfl rfl (by decide) rfl rfl rfl rfl (intsD_one _) (by rw [intsD_length, intsD_length]; exact hc6) ?_
    rw [intsD_app]
    refine kN 1 rfl ?_
    refine (ACode_region ?_)
    refine kM 1 rfl ?_
    refine AOps_q 12 _ rfl rfl rfl (QOp_add _ _ _ _ _ _ _ rfl rfl rfl) ?_
    refine kN 1 rfl ?_
    exact ⟨k0, _, _, Nat.lt_succ_self _, Weak_trans (Weak_keep 1 hm [0, 1, 5, 6] [1] _ _ rfl rfl rfl) (Weak_reset 1 hm hz [0, 1, 5, 6] _ _ rfl rfl), _, _, _, rfl, rfl, h⟩
   refine ACode_exit ?_
   cases h
   exact Weak_keep 1 hm [0, 1, 5] [1] _ _ rfl rfl rfl
 refine kB (fun s11 => [(5, .vec 1 0)]) (fun s11 => [.box (srcD s11.1), .vec 0 (intsD s11.2)]) h (fun s11 h => ?_) (fun s11 h => ?_)
 ·refine kR ?_
  refine kM 1 rfl ?_
  refine AOps_q 20 _ rfl rfl rfl (QOp_eql _ _ _ _ _ _ _ rfl rfl rfl) ?_
  refine AOps_nil ?_
  refine kI h rfl (fun h _ => ?_) (fun h _ => ?_)
  ·refine (ACode_region ?_)
   refine kM 2 rfl ?_
   refine AOps_buildSlice 23 _ _ _ [_, _, _, _] (intsD ([2, 4, 7, 17])) _ rfl rfl rfl rfl rfl (by decide) Tryz.underlying27 Tryz.sizeOf2 (zero_of Tryz.typeInfo2 rfl) rfl rfl (intsD_one _) ?_
   refine AOps_freezeL [23] 2 0 _ (allc (rfl) (fun _ h => nomatch h)) rfl ?_
   obtain ⟨r9, hr9, h⟩ := bindO h
   refine kC [0] 24 (iV r9.1) [.box (srcD r9.2), .vec 0 (intsD s7.2), .gone] rfl Tryz.call53 rfl rfl (spec_l01Pick_ac s7.1 ([2, 4, 7, 17]) _ hr9) rfl ?_
   obtain ⟨hc10, h⟩ := guardO h
   refine AOps_q 25 _ rfl rfl rfl (QOp_indexAddr_vec _ _ _ _ _ _ _ _ _ rfl Tryz.underlying27 Tryz.sizeOf2 hc10.1 (by rw [intsD_length]; exact hc10.2) rfl rfl rfl) ?_
   refine AOps_store_eptr _ _ _ _ _ _ (intsD s7.2) _ rfl rfl rfl rfl rfl rfl rfl Tryz.sizeOf2 (by rw [intsD_length]; omega) ?_
   rw [intsD_set]
   refine AOps_nil ?_
   cases h
   exact Weak_keep 1 hm [5] [1] _ _ rfl rfl rfl
  refine ACode_skip ?_
  cases h
  exact Weak_keep 1 hm [5] [1] _ _ rfl rfl rfl
 refine kR ?_
 refine kN 2 rfl ?_
 refine ACode_ret ?_
 cases h
 exact ⟨_, _, Weak_reset 1 hm hz [4] _ _ rfl rfl, _, _, [1], _, (.cons (ResV_tmp _ _ rfl) .nil), rfl, rfl, rfl, rfl, rfl⟩

-- loop.example/g01362/spec.l01Edge
def spec_l01Edge (p0 : Int) (p1 : Int) : Int :=
 (if decide (p1 < p0) then w64 ((w64 ((w64 (p0 * (w64 (p0 - 1)))).tdiv 2)) + p1) else w64 ((w64 ((w64 (p1 * (w64 (p1 - 1)))).tdiv 2)) + p0))
set_option maxRecDepth 100000 in
theorem spec_l01Edge_ac (p0 : Int) (p1 : Int) : AC Tryz.prog 85 [iV p0, iV p1] [] (fun res H' => res = [iV (spec_l01Edge p0 p1)] ∧ H' = []) := by
 refine AC_of_body true Tryz.func85 rfl Tryz.ntmps85 (rvs := [.tmp 4]) rfl rfl (fun G hG => ?_)
 have hm : G.H.length = 0 := by rw [hG]; rfl
 have hz : zeroG G.H = true := by rw [hG]; rfl
 obtain ⟨r, h⟩ : ∃ r, spec_l01Edge p0 p1 = r := ⟨_, rfl⟩
 rw [h]
 unfold spec_l01Edge at h
 refine kR ?_
 refine kN 1 rfl ?_
 refine ACode_seq ?_
 refine kR ?_
 refine kM 2 rfl ?_
 refine AOps_q 7 _ rfl rfl rfl (QOp_gtr _ _ _ _ _ _ _ rfl rfl rfl) ?_
 refine AOps_nil ?_
 refine kI h rfl (fun h _ => ?_) (fun h _ => ?_)
 ·refine kR ?_
  refine kM 2 rfl ?_
  refine AOps_q 10 _ rfl rfl rfl (QOp_sub _ _ _ _ _ _ _ rfl rfl rfl) ?_
  refine AOps_q 11 _ rfl rfl rfl (QOp_mul _ _ _ _ _ _ _ rfl rfl rfl) ?_
  refine AOps_q 12 _ rfl rfl rfl (QOp_quo _ _ _ _ _ _ _ (by decide) rfl rfl rfl) ?_
  refine kM 1 rfl ?_
  refine AOps_q 14 _ rfl rfl rfl (QOp_add _ _ _ _ _ _ _ rfl rfl rfl) ?_
  refine kN 1 rfl ?_
  refine ACode_ret ?_
  cases h
  exact ⟨_, _, fun r a w h => ⟨r, h⟩, _, _, [], _, (.cons (ResV_tmp _ _ rfl) .nil), rfl, rfl, rfl, rfl, rfl⟩
 refine ACode_skip ?_
 refine kR ?_
 refine kM 2 rfl ?_
 refine AOps_q 17 _ rfl rfl rfl (QOp_sub _ _ _ _ _ _ _ rfl rfl rfl) ?_
 refine AOps_q 18 _ rfl rfl rfl (QOp_mul _ _ _ _ _ _ _ rfl rfl rfl) ?_
 refine AOps_q 19 _ rfl rfl rfl (QOp_quo _ _ _ _ _ _ _ (by decide) rfl rfl rfl) ?_
 refine kM 1 rfl ?_
 refine AOps_q 21 _ rfl rfl rfl (QOp_add _ _ _ _ _ _ _ rfl rfl rfl) ?_
 refine kN 1 rfl ?_
 refine ACode_ret ?_
 cases h
 exact ⟨_, _, fun r a w h => ⟨r, h⟩, _, _, [], _, (.cons (ResV_tmp _ _ rfl) .nil), rfl, rfl, rfl, rfl, rfl⟩

-- loop.example/g01362/spec.l01At
def spec_l01At (p0 : Col) (p1 : Int) (p2 : Int) : Option (Int) :=
 (if 0 ≤ (spec_l01Edge p1 p2) ∧ (spec_l01Edge p1 p2) < 136 then some ((p0.get ((spec_l01Edge p1 p2).toNat)).toNat : Int) else none)
set_option maxRecDepth 100000 in
theorem spec_l01At_ac (p0 : Col) (p1 : Int) (p2 : Int) (r : Int) (h : spec_l01At p0 p1 p2 = some r) : AC Tryz.prog 93 [.d (.agg (colD p0)), iV p1, iV p2] [] (fun res H' => res = [iV r] ∧ H' = []) := by
 refine AC_of_body true Tryz.func93 rfl Tryz.ntmps93 (rvs := [.tmp 6]) rfl rfl (fun G hG => ?_)
 have hm : G.H.length = 0 := by rw [hG]; rfl
 have hz : zeroG G.H = true := by rw [hG]; rfl
 unfold spec_l01At at h
 refine kR ?_
 refine AOps_boxI 3 _ _ (.agg (colD p0)) (colD p0) rfl (colD_one _) rfl rfl rfl rfl rfl ?_
 refine kN 1 rfl ?_
 refine kR ?_
 refine kM 2 rfl ?_
 refine kC [] 9 (iV (spec_l01Edge p1 p2)) [] rfl Tryz.call85 rfl rfl (spec_l01Edge_ac p1 p2) rfl ?_
 refine AOps_q 10 _ rfl rfl rfl (QOp_fieldAddr_pv _ _ _ _ _ 2 _ _ rfl Tryz.underlying26 rfl _ Tryz.sizeOf24 rfl rfl) ?_
 obtain ⟨hc2, h⟩ := guardO h
 refine AOps_q 11 _ rfl rfl rfl (QOp_indexAddrA_pv _ _ _ _ _ _ _ _ _ rfl Tryz.underlying24 Tryz.sizeOf5 hc2.1 hc2.2 rfl rfl) ?_
 refine AOps_q 12 _ rfl rfl rfl (QOp_load_pv _ _ _ _ _ rfl Tryz.isAgg5 rfl (colD_get _ _ (by omega))) ?_
 refine AOps_q 13 _ rfl rfl rfl (QOp_fromByte _ _ _ _ _ rfl rfl Tryz.underlying2 wrap_i64_byte rfl) ?_
 refine kN 1 rfl ?_
 refine ACode_ret ?_
 cases h
 exact ⟨_, _, fun r a w h => ⟨r, h⟩, _, _, [], _, (.cons (ResV_tmp _ _ rfl) .nil), rfl, rfl, rfl, rfl, rfl⟩

-- loop.example/g01362/spec.l01Around
def spec_l01Around_l0 (p0 : Col) (p1 : Int) (p2 : Int) : Nat → Int → Int → Option (Int)
 | 0, _, _ => none
 | k0 + 1, x1, x2 => (if decide (x2 < p0.p) then (((if !decide (x2 = p1) then (spec_l01At p0 p1 x2).bind fun r5 => some (decide (r5 = p2)) else some false) : Option (Bool)).bind fun s6 => (if s6 then (if 0 ≤ IntKind.u64.wrap x2 then some (bOr .i64 x1 (bShl .i64 1 (IntKind.u64.wrap x2))) else none) else some x1) : Option (Int)).bind fun s9 => spec_l01Around_l0 p0 p1 p2 k0 s9 (w64 (x2 + 1)) else some x1)
def spec_l01Around (k : Nat) (p0 : Col) (p1 : Int) (p2 : Int) : Option (Int) :=
 (spec_l01Around_l0 p0 p1 p2 k 0 0 : Option (Int)).bind fun s10 => some s10
set_option maxRecDepth 100000 in
theorem spec_l01Around_ac (k : Nat) (p0 : Col) (p1 : Int) (p2 : Int) (r : Int) (h : spec_l01Around k p0 p1 p2 = some r) : AC Tryz.prog 97 [.d (.agg (colD p0)), iV p1, iV p2] [] (fun res H' => res = [iV r] ∧ H' = []) := by
 refine AC_of_body true Tryz.func97 rfl Tryz.ntmps97 (rvs := [.tmp 6]) rfl rfl (fun G hG => ?_)
 have hm : G.H.length = 0 := by rw [hG]; rfl
 have hz : zeroG G.H = true := by rw [hG]; rfl
 unfold spec_l01Around at h
 refine kR ?_
 refine AOps_boxI 3 _ _ (.agg (colD p0)) (colD p0) rfl (colD_one _) rfl rfl rfl rfl rfl ?_
 refine kN 1 rfl ?_
 refine kR ?_
 refine kN 1 rfl ?_
 refine kB (fun s10 => [(7, iV s10)]) (fun s10 => []) h (fun s10 h => ?_) (fun s10 h => ?_)
 ·refine kR ?_
  refine kN 1 rfl ?_
  refine ACode_block ?_
  refine ACode_loopW (fun k0 E H => ∃ (x1 : Int) (x2 : Int), E = [(1, iV p1), (2, iV p2), (3, .d (.pv (colD p0) 0)), (7, iV x1), (8, iV x2)] ∧ H = [] ∧ spec_l01Around_l0 p0 p1 p2 k0 x1 x2 = some s10) k _ _ (Weak_keep 0 hm [1, 2, 3, 7, 8] [] _ _ rfl rfl rfl) ⟨_, _, rfl, rfl, h⟩ ?_
  clear h
  rintro k0 E H ⟨x1, x2, rfl, rfl, h⟩
  cases k0 with
  | zero => cases (show (none : Option (Int)) = some _ from h)
  | succ k0 =>
   rw [spec_l01Around_l0] at h
   refine ACode_seq ?_
   refine kR ?_
   refine kM 1 rfl ?_
   refine AOps_q 10 _ rfl rfl rfl (QOp_fieldAddr_pv _ _ _ _ _ 0 _ _ rfl Tryz.underlying26 rfl _ Tryz.sizeOf2 rfl rfl) ?_
   refine AOps_q 11 _ rfl rfl rfl (QOp_load_pv _ _ _ _ _ rfl Tryz.isAgg2 rfl rfl) ?_
   refine AOps_q 12 _ rfl rfl rfl (QOp_lss _ _ _ _ _ _ _ rfl rfl rfl) ?_
   refine AOps_nil ?_
   refine kI h rfl (fun h _ => ?_) (fun h _ => ?_)
   ·refine ACode_skip ?_
    refine kB (fun s9 => [(1, iV p1), (2, iV p2), (3, .d (.pv (colD p0) 0)), (7, iV s9), (8, iV x2)]) (fun s9 => []) h (fun s9 h => ?_) (fun s9 h => ?_)
    ·refine ACode_block ?_
     refine kB (fun s6 => [(1, iV p1), (2, iV p2), (3, .d (.pv (colD p0) 0)), (7, iV x1), (8, iV x2), (25, bV s6)]) (fun s6 => []) h (fun s6 h => ?_) (fun s6 h => ?_)
     ·refine (ACode_region ?_)
      refine kM 2 rfl ?_
      refine AOps_q 17 _ rfl rfl rfl (QOp_neq _ _ _ _ _ _ _ rfl rfl rfl) ?_
      refine kM 1 rfl ?_
      refine AOps_case 18 _ rfl (fun hb4 => ?_) (fun hb4 => ?_)
      ·have h := iteT hb4 h
       refine AOps_q 19 _ rfl rfl rfl (QOp_loadN_pv _ _ _ _ _ _ rfl Tryz.isAgg26 Tryz.sizeOf26 rfl (colD_all _) (colD_length _)) ?_
       refine kM 2 rfl ?_
       obtain ⟨r5, hr5, h⟩ := bindO h
       refine kC [] 22 (iV r5) [] rfl Tryz.call93 rfl rfl (spec_l01At_ac p0 p1 x2 _ hr5) rfl ?_
       refine kM 1 rfl ?_
       refine AOps_q 24 _ rfl rfl rfl (QOp_eql _ _ _ _ _ _ _ rfl rfl rfl) ?_
       refine kN 1 rfl ?_
       cases h
       exact Weak_keep 0 hm [1, 2, 3, 7, 8, 25] [] _ _ rfl rfl rfl
      have h := iteF hb4 h
      refine AOps_skip 19 rfl rfl rfl ?_
      refine AOps_skip 20 rfl rfl rfl ?_
      refine AOps_skip 21 rfl rfl rfl ?_
      refine AOps_skip 22 rfl rfl rfl ?_
      refine AOps_skip 23 rfl rfl rfl ?_
      refine AOps_skip 24 rfl rfl rfl ?_
      refine kN 1 rfl ?_
      cases h
      exact Weak_keep 0 hm [1, 2, 3, 7, 8, 25] [] _ _ rfl rfl rfl
     refine kI h rfl (fun h _ => ?_) (fun h _ => ?_)
     ·refine (ACode_region ?_)
      refine kM 2 rfl ?_
      refine AOps_q 28 _ rfl rfl rfl (QOp_conv _ _ _ _ _ _ rfl rfl Tryz.underlying83 rfl) ?_
      obtain ⟨hc8, h⟩ := guardO h
      refine AOps_q 29 _ rfl rfl rfl (QOp_shl _ _ _ _ _ _ _ _ hc8 rfl rfl rfl) ?_
      refine AOps_q 30 _ rfl rfl rfl (QOp_or _ _ _ _ _ _ _ rfl rfl rfl) ?_
      refine kN 1 rfl ?_
      cases h
      exact Weak_keep 0 hm [1, 2, 3, 7, 8] [] _ _ rfl rfl rfl
     refine ACode_skip ?_
     cases h
     exact Weak_keep 0 hm [1, 2, 3, 7, 8] [] _ _ rfl rfl rfl
    refine (ACode_region ?_)
    refine kM 1 rfl ?_
    refine AOps_q 14 _ rfl rfl rfl (QOp_add _ _ _ _ _ _ _ rfl rfl rfl) ?_
    refine kN 1 rfl ?_
    exact ⟨k0, _, _, Nat.lt_succ_self _, Weak_keep 0 hm [1, 2, 3, 7, 8] [] _ _ rfl rfl rfl, _, _, rfl, rfl, h⟩
   refine ACode_exit ?_
   cases h
   exact Weak_keep 0 hm [7] [] _ _ rfl rfl rfl
 refine kR ?_
 refine kN 2 rfl ?_
 refine ACode_ret ?_
 cases h
 exact ⟨_, _, fun r a w h => ⟨r, h⟩, _, _, [], _, (.cons (ResV_tmp _ _ rfl) .nil), rfl, rfl, rfl, rfl, rfl⟩

-- loop.example/g01362/spec.l01Ones
def spec_l01Ones_l0 : Nat → Int → Int → Option (Int)
 | 0, _, _ => none
 | k0 + 1, x1, x2 => (if decide (0 < x1) then spec_l01Ones_l0 k0 (w64 (x1.tdiv 2)) (w64 (x2 + (x1.tmod 2))) else some x2)
def spec_l01Ones (k : Nat) (p0 : Int) : Option (Int) :=
 (spec_l01Ones_l0 k p0 0 : Option (Int)).bind fun s4 => some s4
set_option maxRecDepth 100000 in
theorem spec_l01Ones_ac (k : Nat) (p0 : Int) (r : Int) (h : spec_l01Ones k p0 = some r) : AC Tryz.prog 96 [iV p0] [] (fun res H' => res = [iV r] ∧ H' = []) := by
 refine AC_of_body true Tryz.func96 rfl Tryz.ntmps96 (rvs := [.tmp 2]) rfl rfl (fun G hG => ?_)
 have hm : G.H.length = 0 := by rw [hG]; rfl
 have hz : zeroG G.H = true := by rw [hG]; rfl
 unfold spec_l01Ones at h
 refine kR ?_
 refine kN 1 rfl ?_
 refine kR ?_
 refine kN 1 rfl ?_
 refine kB (fun s4 => [(3, iV s4)]) (fun s4 => []) h (fun s4 h => ?_) (fun s4 h => ?_)
 ·refine ACode_block ?_
  refine ACode_loopW (fun k0 E H => ∃ (x1 : Int) (x2 : Int), E = [(0, iV x1), (3, iV x2)] ∧ H = [] ∧ spec_l01Ones_l0 k0 x1 x2 = some s4) k _ _ (Weak_keep 0 hm [0, 3] [] _ _ rfl rfl rfl) ⟨_, _, rfl, rfl, h⟩ ?_
  clear h
  rintro k0 E H ⟨x1, x2, rfl, rfl, h⟩
  cases k0 with
  | zero => cases (show (none : Option (Int)) = some _ from h)
  | succ k0 =>
   rw [spec_l01Ones_l0] at h
   refine ACode_seq ?_
   refine kR ?_
   refine kM 1 rfl ?_
   refine AOps_q 5 _ rfl rfl rfl (QOp_gtr _ _ _ _ _ _ _ rfl rfl rfl) ?_
   refine AOps_nil ?_
   refine kI h rfl (fun h _ => ?_) (fun h _ => ?_)
   ·refine ACode_skip ?_
    refine ACode_seq ?_
    refine ACode_block ?_
    refine (ACode_region ?_)
    refine kM 2 rfl ?_
    refine AOps_q 10 _ rfl rfl rfl (QOp_rem _ _ _ _ _ _ _ (by decide) rfl rfl rfl) ?_
    refine AOps_q 11 _ rfl rfl rfl (QOp_add _ _ _ _ _ _ _ rfl rfl rfl) ?_
    refine kN 1 rfl ?_
    refine (ACode_region ?_)
    refine kM 1 rfl ?_
    refine AOps_q 7 _ rfl rfl rfl (QOp_quo _ _ _ _ _ _ _ (by decide) rfl rfl rfl) ?_
    refine kN 1 rfl ?_
    exact ⟨k0, _, _, Nat.lt_succ_self _, Weak_keep 0 hm [0, 3] [] _ _ rfl rfl rfl, _, _, rfl, rfl, h⟩
   refine ACode_exit ?_
   cases h
   exact Weak_keep 0 hm [3] [] _ _ rfl rfl rfl
 refine kR ?_
 refine kN 2 rfl ?_
 refine ACode_ret ?_
 cases h
 exact ⟨_, _, fun r a w h => ⟨r, h⟩, _, _, [], _, (.cons (ResV_tmp _ _ rfl) .nil), rfl, rfl, rfl, rfl, rfl⟩

-- loop.example/g01362/spec.l03Clique
def spec_l03Clique_l0 (k : Nat) (self : Col → Int → Int → Int → Option (Bool)) (p0 : Col) (p1 : Int) (p3 : Int) : Nat → Int → Int → Option (Sum (Unit) (Bool))
 | 0, _, _ => none
 | k0 + 1, x4, x5 => (if decide (x5 < p0.p) then ((if 0 ≤ IntKind.u64.wrap x5 then (if decide (bAnd .i64 (bShr .i64 x4 (IntKind.u64.wrap x5)) 1 = 0) then some (.inl x4) else (if 0 ≤ IntKind.u64.wrap x5 then (spec_l01Around k p0 x5 p1).bind fun r10 => (self p0 p1 (bAnd .i64 (w64 (x4 - (bShl .i64 1 (IntKind.u64.wrap x5)))) r10) (w64 (p3 - 1))).bind fun r11 => (if r11 then (some (.inr true)).bind fun rr => some (.inr rr) else some (.inl (w64 (x4 - (bShl .i64 1 (IntKind.u64.wrap x5)))))) else none)) else none) : Option (Sum (Int) (Sum (Unit) (Bool)))).bind fun os13 => (match os13 with | .inl s13 => spec_l03Clique_l0 k self p0 p1 p3 k0 s13 (w64 (x5 + 1)) | .inr rr => some rr) else some (.inl ()))
def spec_l03Clique_body (self : Col → Int → Int → Int → Option (Bool)) (k : Nat) (p0 : Col) (p1 : Int) (p2 : Int) (p3 : Int) : Option (Bool) :=
 (if decide (p3 = 0) then some true else (spec_l01Ones k p2).bind fun r2 => (if decide (r2 < p3) then some false else (spec_l03Clique_l0 k self p0 p1 p3 k p2 0 : Option (Sum (Unit) (Bool))).bind fun os14 => (match os14 with | .inl s14 => some false | .inr rr => some rr)))
def spec_l03Clique : Nat → Col → Int → Int → Int → Option (Bool)
 | 0, _, _, _, _ => none
 | k + 1, p0, p1, p2, p3 => spec_l03Clique_body (spec_l03Clique k) k p0 p1 p2 p3
set_option maxRecDepth 100000 in
theorem spec_l03Clique_ac (k : Nat) (p0 : Col) (p1 : Int) (p2 : Int) (p3 : Int) (r : Bool) (h : spec_l03Clique k p0 p1 p2 p3 = some r) : AC Tryz.prog 73 [.d (.agg (colD p0)), iV p1, iV p2, iV p3] [] (fun res H' => res = [bV r] ∧ H' = []) := by
 induction k generalizing p0 p1 p2 p3 r with
 | zero => simp [spec_l03Clique] at h
 | succ k ih =>
  rw [spec_l03Clique] at h
  obtain ⟨self, hself, hk⟩ : ∃ self : Col → Int → Int → Int → Option (Bool), (∀ (p0 : Col) (p1 : Int) (p2 : Int) (p3 : Int) (r : Bool), self p0 p1 p2 p3 = some r → AC Tryz.prog 73 [.d (.agg (colD p0)), iV p1, iV p2, iV p3] [] (fun res H' => res = [bV r] ∧ H' = [])) ∧ spec_l03Clique k = self := ⟨spec_l03Clique k, fun p0 p1 p2 p3 r h => ih p0 p1 p2 p3 r h, rfl⟩
  rw [hk] at h
  clear ih hk
  refine AC_of_body true Tryz.func73 rfl Tryz.ntmps73 (rvs := [.tmp 8]) rfl rfl (fun G hG => ?_)
  have hm : G.H.length = 0 := by rw [hG]; rfl
  have hz : zeroG G.H = true := by rw [hG]; rfl
  unfold spec_l03Clique_body at h
  refine kR ?_
  refine AOps_boxI 4 _ _ (.agg (colD p0)) (colD p0) rfl (colD_one _) rfl rfl rfl rfl rfl ?_
  refine kN 1 rfl ?_
  refine ACode_seq ?_
  refine kR ?_
  refine kM 1 rfl ?_
  refine AOps_q 11 _ rfl rfl rfl (QOp_eql _ _ _ _ _ _ _ rfl rfl rfl) ?_
  refine AOps_nil ?_
  refine kI h rfl (fun h _ => ?_) (fun h _ => ?_)
  ·refine kR ?_
   refine kN 1 rfl ?_
   refine ACode_ret ?_
   cases h
   exact ⟨_, _, fun r a w h => ⟨r, h⟩, _, _, [], _, (.cons (ResV_tmp _ _ rfl) .nil), rfl, rfl, rfl, rfl, rfl⟩
  refine ACode_skip ?_
  refine ACode_seq ?_
  refine kR ?_
  refine kM 1 rfl ?_
  obtain ⟨r2, hr2, h⟩ := bindO h
  refine kC [] 13 (iV r2) [] rfl Tryz.call96 rfl rfl (spec_l01Ones_ac k p2 _ hr2) rfl ?_
  refine kM 1 rfl ?_
  refine AOps_q 15 _ rfl rfl rfl (QOp_lss _ _ _ _ _ _ _ rfl rfl rfl) ?_
  refine AOps_nil ?_
  refine kI h rfl (fun h _ => ?_) (fun h _ => ?_)
  ·refine kR ?_
   refine kN 1 rfl ?_
   refine ACode_ret ?_
   cases h
   exact ⟨_, _, fun r a w h => ⟨r, h⟩, _, _, [], _, (.cons (ResV_tmp _ _ rfl) .nil), rfl, rfl, rfl, rfl, rfl⟩
  refine ACode_skip ?_
  refine kO (fun s14 => []) (fun s14 => []) h (fun os14 h hks14 => ?_) (fun s14 h => ?_)
  ·refine kR ?_
   refine kN 1 rfl ?_
   refine ACode_block ?_
   refine ACode_loopW (fun k0 E H => ∃ (x4 : Int) (x5 : Int), E = [(1, iV p1), (2, iV x4), (3, iV p3), (4, .d (.pv (colD p0) 0)), (9, iV x5)] ∧ H = [] ∧ spec_l03Clique_l0 k self p0 p1 p3 k0 x4 x5 = some os14) k _ _ (Weak_keep 0 hm [1, 2, 3, 4, 9] [] _ _ rfl rfl rfl) ⟨_, _, rfl, rfl, h⟩ ?_
   clear h
   rintro k0 E H ⟨x4, x5, rfl, rfl, h⟩
   cases k0 with
   | zero => cases (show (none : Option (Sum (Unit) (Bool))) = some _ from h)
   | succ k0 =>
    rw [spec_l03Clique_l0] at h
    refine ACode_seq ?_
    refine kR ?_
    refine kM 1 rfl ?_
    refine AOps_q 17 _ rfl rfl rfl (QOp_fieldAddr_pv _ _ _ _ _ 0 _ _ rfl Tryz.underlying26 rfl _ Tryz.sizeOf2 rfl rfl) ?_
    refine AOps_q 18 _ rfl rfl rfl (QOp_load_pv _ _ _ _ _ rfl Tryz.isAgg2 rfl rfl) ?_
    refine AOps_q 19 _ rfl rfl rfl (QOp_lss _ _ _ _ _ _ _ rfl rfl rfl) ?_
    refine AOps_nil ?_
    refine kI h rfl (fun h _ => ?_) (fun h _ => ?_)
    ·refine ACode_skip ?_
     refine kO (fun s13 => [(1, iV p1), (2, iV s13), (3, iV p3), (4, .d (.pv (colD p0) 0)), (9, iV x5)]) (fun s13 => []) h (fun os13 h hks13 => ?_) (fun s13 h => ?_)
     ·refine ACode_block ?_
      refine ACode_seq ?_
      refine kR ?_
      refine kM 2 rfl ?_
      refine AOps_q 24 _ rfl rfl rfl (QOp_conv _ _ _ _ _ _ rfl rfl Tryz.underlying83 rfl) ?_
      obtain ⟨hc7, h⟩ := guardO h
      refine AOps_q 25 _ rfl rfl rfl (QOp_shr _ _ _ _ _ _ _ _ hc7 rfl rfl rfl) ?_
      refine AOps_q 26 _ rfl rfl rfl (QOp_and _ _ _ _ _ _ _ rfl rfl rfl) ?_
      refine AOps_q 27 _ rfl rfl rfl (QOp_eql _ _ _ _ _ _ _ rfl rfl rfl) ?_
      refine AOps_nil ?_
      refine kI h rfl (fun h _ => ?_) (fun h _ => ?_)
      ·refine ACode_exit ?_
       cases h
       exact ⟨_, rfl, Weak_keep 0 hm [1, 2, 3, 4, 9] [] _ _ rfl rfl rfl⟩
      refine ACode_skip ?_
      refine kR ?_
      refine kM 2 rfl ?_
      refine AOps_q 30 _ rfl rfl rfl (QOp_conv _ _ _ _ _ _ rfl rfl Tryz.underlying83 rfl) ?_
      obtain ⟨hc9, h⟩ := guardO h
      refine AOps_q 31 _ rfl rfl rfl (QOp_shl _ _ _ _ _ _ _ _ hc9 rfl rfl rfl) ?_
      refine AOps_q 32 _ rfl rfl rfl (QOp_sub _ _ _ _ _ _ _ rfl rfl rfl) ?_
      refine kN 1 rfl ?_
      refine ACode_seq (ACode_quiet mixed (by kernel_rfl) ?_)
      refine AQ_q 33 _ rfl rfl rfl (QOp_loadN_pv _ _ _ _ _ _ rfl Tryz.isAgg26 Tryz.sizeOf26 rfl (colD_all _) (colD_length _)) ?_
      refine kQ 2 rfl ?_
      refine AQ_q 36 _ rfl rfl rfl (QOp_loadN_pv _ _ _ _ _ _ rfl Tryz.isAgg26 Tryz.sizeOf26 rfl (colD_all _) (colD_length _)) ?_
      refine kQ 2 rfl ?_
      obtain ⟨r10, hr10, h⟩ := bindO h
      refine AQ_call 39 _ _ _ _ _ _ _ _ _ rfl rfl rfl rfl rfl rfl rfl Tryz.call97 rfl rfl rfl (spec_l01Around_ac k p0 x5 p1 _ hr10) ?_
      refine AQ_q 40 _ rfl rfl rfl (QOp_and _ _ _ _ _ _ _ rfl rfl rfl) ?_
      refine kQ 1 rfl ?_
      refine AQ_q 42 _ rfl rfl rfl (QOp_sub _ _ _ _ _ _ _ rfl rfl rfl) ?_
      obtain ⟨r11, hr11, h⟩ := bindO h
      refine AQ_call 43 _ _ _ _ _ _ _ _ _ rfl rfl rfl rfl rfl rfl rfl Tryz.call73 rfl rfl rfl (hself p0 p1 (bAnd .i64 (w64 (x4 - (bShl .i64 1 (IntKind.u64.wrap x5)))) r10) (w64 (p3 - 1)) _ hr11) ?_
      refine AQ_nil ?_
      refine kI h rfl (fun h _ => ?_) (fun h _ => ?_)
      ·refine kR ?_
       refine kN 1 rfl ?_
       refine ACode_ret ?_
       obtain ⟨rr, hz15, h2⟩ := bindO h
       obtain rfl := Option.some.inj h2
       obtain rfl := Option.some.inj (show some rr = some _ from hks13)
       have h := hz15
       cases h
       have h := hks14
       cases h
       exact ⟨_, _, fun r a w h => ⟨r, h⟩, _, _, [], _, (.cons (ResV_tmp _ _ rfl) .nil), rfl, rfl, rfl, rfl, rfl⟩
      refine ACode_skip ?_
      cases h
      exact ⟨_, rfl, Weak_keep 0 hm [1, 2, 3, 4, 9] [] _ _ rfl rfl rfl⟩
     refine (ACode_region ?_)
     refine kM 1 rfl ?_
     refine AOps_q 21 _ rfl rfl rfl (QOp_add _ _ _ _ _ _ _ rfl rfl rfl) ?_
     refine kN 1 rfl ?_
     exact ⟨k0, _, _, Nat.lt_succ_self _, Weak_keep 0 hm [1, 2, 3, 4, 9] [] _ _ rfl rfl rfl, _, _, rfl, rfl, h⟩
    refine ACode_exit ?_
    cases h
    exact ⟨_, rfl, Weak_keep 0 hm [] [] _ _ rfl rfl rfl⟩
  refine kR ?_
  refine kN 1 rfl ?_
  refine ACode_ret ?_
  cases h
  exact ⟨_, _, fun r a w h => ⟨r, h⟩, _, _, [], _, (.cons (ResV_tmp _ _ rfl) .nil), rfl, rfl, rfl, rfl, rfl⟩

-- loop.example/g01362/spec.l01Own
def spec_l01Own (p0 : List Int) : Option (List Int) :=
 (if ([] : List Int).length + p0.length ≤ 1099511627776 then some (([] : List Int) ++ p0) else none)
set_option maxRecDepth 100000 in
theorem spec_l01Own_ac (p0 : List Int) (r : List Int) (h : spec_l01Own p0 = some r) : AC Tryz.prog 52 [.d (.sl none (intsD p0))] [] (fun res H' => res = [.vec 0 0] ∧ H' = [.vec 0 (intsD r)]) := by
 refine AC_of_body true Tryz.func52 rfl Tryz.ntmps52 (rvs := [.tmp 2]) rfl rfl (fun G hG => ?_)
 have hm : G.H.length = 0 := by rw [hG]; rfl
 have hz : zeroG G.H = true := by rw [hG]; rfl
 unfold spec_l01Own at h
 refine kR ?_
 refine kN 1 rfl ?_
 refine kR ?_
 refine AOps_buildSlice 3 _ _ _ [] (intsD ([] : List Int)) _ rfl rfl rfl rfl rfl (by decide) Tryz.underlying27 Tryz.sizeOf2 (zero_of Tryz.typeInfo2 rfl) rfl rfl (intsD_one _) ?_
 refine kM 1 rfl ?_
 obtain ⟨hc1, h⟩ := guardO h
 refine AOps_append 5 _ _ _ _ _ _ _ _ _ _ _ _ rfl rfl rfl rfl rfl rfl rfl Tryz.underlying27 Tryz.type2 rfl rfl rfl (by decide) rfl rfl rfl rfl (intsD_one _) (by rw [intsD_length, intsD_length]; exact hc1) ?_
 rw [intsD_app]
 refine kN 1 rfl ?_
 refine ACode_ret ?_
 cases h
 exact ⟨_, _, Weak_reset 0 hm hz [2] _ _ rfl rfl, _, _, [0], _, (.cons (ResV_tmp _ _ rfl) .nil), rfl, rfl, rfl, rfl, rfl⟩

-- loop.example/g01362/spec.l05Search
def spec_l05Search_l0 (k : Nat) (self : Col → (List Int) → (List Int) → (List Int) → Int → Option (List (List Int))) (p0 : Col) (p1 : List Int) (p2 : List Int) (p3 : List Int) (p4 : Int) : Nat → Int → (List (List Int)) → Option (List (List Int))
 | 0, _, _ => none
 | k0 + 1, x2, x3 => (letO (if decide (x2 < p0.k) then decide ((x3.length : Int) < p4) else false) fun (s5 : Bool) => (if s5 then some (.inl ()) else (some x3).bind fun rr => some (.inr rr)) : Option (Sum (Unit) (List (List Int)))).bind fun os7 => (match os7 with | .inl s7 => ((((if 0 ≤ x2 ∧ x2 < (p1.length : Int) then (if decide ((p1.getD x2.toNat 0) < 2) then some true else (if 0 ≤ x2 ∧ x2 < (p3.length : Int) then (spec_l01Around k p0 (p2.length : Int) x2).bind fun r11 => (if 0 ≤ x2 ∧ x2 < (p1.length : Int) then (spec_l03Clique k p0 x2 (bAnd .i64 (p3.getD x2.toNat 0) r11) (w64 ((p1.getD x2.toNat 0) - 2))).bind fun r13 => some r13 else none) else none)) else none) : Option (Bool)).bind fun s14 => (if s14 then (some x3).bind fun rr => some (.inr rr) else some (.inl ())) : Option (Sum (Unit) (List (List Int)))).bind fun os16 => (match os16 with | .inl s16 => (spec_l01Own p3).bind fun r17 => (if 0 ≤ x2 ∧ x2 < (r17.length : Int) then (if 0 ≤ IntKind.u64.wrap (p2.length : Int) then (if 0 ≤ x2 ∧ x2 < (r17.length : Int) then (spec_l01Own p2).bind fun r21 => (if r21.length + ([x2]).length ≤ 1099511627776 then (self p0 p1 (r21 ++ ([x2])) (r17.set x2.toNat (bOr .i64 (r17.getD x2.toNat 0) (bShl .i64 1 (IntKind.u64.wrap (p2.length : Int))))) (w64 (p4 - (x3.length : Int)))).bind fun r23 => (if x3.length + r23.length ≤ 1099511627776 then some (x3 ++ r23) else none) else none) else none) else none) else none) | .inr rr => some rr) : Option (List (List Int))).bind fun s25 => spec_l05Search_l0 k self p0 p1 p2 p3 p4 k0 (w64 (x2 + 1)) s25 | .inr rr => some rr)
def spec_l05Search_body (self : Col → (List Int) → (List Int) → (List Int) → Int → Option (List (List Int))) (k : Nat) (p0 : Col) (p1 : List Int) (p2 : List Int) (p3 : List Int) (p4 : Int) : Option (List (List Int)) :=
 (if decide ((p2.length : Int) = p0.p) then some ([p2]) else (spec_l05Search_l0 k self p0 p1 p2 p3 p4 k 0 ([] : List (List Int)) : Option (List (List Int))).bind fun s26 => some s26)
def spec_l05Search : Nat → Col → (List Int) → (List Int) → (List Int) → Int → Option (List (List Int))
 | 0, _, _, _, _, _ => none
 | k + 1, p0, p1, p2, p3, p4 => spec_l05Search_body (spec_l05Search k) k p0 p1 p2 p3 p4
set_option maxRecDepth 100000 in
theorem spec_l05Search_ac (k : Nat) (p0 : Col) (p1 : List Int) (p2 : List Int) (p3 : List Int) (p4 : Int) (r : List (List Int)) (h : spec_l05Search k p0 p1 p2 p3 p4 = some r) : AC Tryz.prog 67 [.d (.agg (colD p0)), .d (.sl none (intsD p1)), .d (.sl none (intsD p2)), .d (.sl none (intsD p3)), iV p4] [] (fun res H' => res = [.d (.sl none (rowsD r))] ∧ H' = []) := by
 induction k generalizing p0 p1 p2 p3 p4 r with
 | zero => simp [spec_l05Search] at h
 | succ k ih =>
  rw [spec_l05Search] at h
  obtain ⟨self, hself, hk⟩ : ∃ self : Col → (List Int) → (List Int) → (List Int) → Int → Option (List (List Int)), (∀ (p0 : Col) (p1 : List Int) (p2 : List Int) (p3 : List Int) (p4 : Int) (r : List (List Int)), self p0 p1 p2 p3 p4 = some r → AC Tryz.prog 67 [.d (.agg (colD p0)), .d (.sl none (intsD p1)), .d (.sl none (intsD p2)), .d (.sl none (intsD p3)), iV p4] [] (fun res H' => res = [.d (.sl none (rowsD r))] ∧ H' = [])) ∧ spec_l05Search k = self := ⟨spec_l05Search k, fun p0 p1 p2 p3 p4 r h => ih p0 p1 p2 p3 p4 r h, rfl⟩
  rw [hk] at h
  clear ih hk
  refine AC_of_body true Tryz.func67 rfl Tryz.ntmps67 (rvs := [.tmp 10]) rfl rfl (fun G hG => ?_)
  have hm : G.H.length = 0 := by rw [hG]; rfl
  have hz : zeroG G.H = true := by rw [hG]; rfl
  unfold spec_l05Search_body at h
  refine kR ?_
  refine AOps_boxI 5 _ _ (.agg (colD p0)) (colD p0) rfl (colD_one _) rfl rfl rfl rfl rfl ?_
  refine kN 1 rfl ?_
  refine kR ?_
  refine kM 1 rfl ?_
  refine AOps_q 16 _ rfl rfl rfl (QOp_len_sl _ _ _ _ _ _ _ (intsD_length _) rfl rfl rfl rfl Tryz.underlying27 rfl) ?_
  refine kN 1 rfl ?_
  refine ACode_seq ?_
  refine kR ?_
  refine kM 1 rfl ?_
  refine AOps_q 18 _ rfl rfl rfl (QOp_fieldAddr_pv _ _ _ _ _ 0 _ _ rfl Tryz.underlying26 rfl _ Tryz.sizeOf2 rfl rfl) ?_
  refine AOps_q 19 _ rfl rfl rfl (QOp_load_pv _ _ _ _ _ rfl Tryz.isAgg2 rfl rfl) ?_
  refine AOps_q 20 _ rfl rfl rfl (QOp_eql _ _ _ _ _ _ _ rfl rfl rfl) ?_
  refine AOps_nil ?_
  refine kI h rfl (fun h _ => ?_) (fun h _ => ?_)
  ·refine kR ?_
   refine kM 1 rfl ?_
   refine AOps_buildSlice 22 _ _ _ [_] (rowsD ([p2])) _ rfl rfl rfl rfl rfl (by decide) Tryz.underlying34 Tryz.sizeOf27 (zero_of Tryz.typeInfo27 rfl) rfl rfl (rowsD_one _) ?_
   refine kN 1 rfl ?_
   refine ACode_ret ?_
   cases h
   exact ⟨_, _, fun r a w h => ⟨r, h⟩, _, _, [], _, (.cons (ResV_tmp _ _ rfl) .nil), rfl, rfl, rfl, rfl, rfl⟩
  refine ACode_skip ?_
  refine kR ?_
  refine AOps_buildSlice 23 _ _ _ [] (rowsD ([] : List (List Int))) _ rfl rfl rfl rfl rfl (by decide) Tryz.underlying34 Tryz.sizeOf27 (zero_of Tryz.typeInfo27 rfl) rfl rfl (rowsD_one _) ?_
  refine kN 1 rfl ?_
  refine kB (fun s26 => [(12, .vec 0 0)]) (fun s26 => [.vec 0 (rowsD s26)]) h (fun s26 h => ?_) (fun s26 h => ?_)
  ·refine kR ?_
   refine kN 1 rfl ?_
   refine ACode_block ?_
   refine ACode_loopW (fun k0 E H => ∃ (x2 : Int) (x3 : List (List Int)), E = [(1, .d (.sl none (intsD p1))), (2, .d (.sl none (intsD p2))), (3, .d (.sl none (intsD p3))), (4, iV p4), (5, .d (.pv (colD p0) 0)), (11, iV (p2.length : Int)), (12, .vec 0 0), (13, iV x2)] ∧ H = [.vec 0 (rowsD x3)] ∧ spec_l05Search_l0 k self p0 p1 p2 p3 p4 k0 x2 x3 = some s26) k _ _ (Weak_keep 0 hm [1, 2, 3, 4, 5, 11, 12, 13] [0] _ _ rfl rfl rfl) ⟨_, _, rfl, rfl, h⟩ ?_
   clear h
   rintro k0 E H ⟨x2, x3, rfl, rfl, h⟩
   cases k0 with
   | zero => cases (show (none : Option (List (List Int))) = some _ from h)
   | succ k0 =>
    rw [spec_l05Search_l0] at h
    refine kO (fun s7 => [(1, .d (.sl none (intsD p1))), (2, .d (.sl none (intsD p2))), (3, .d (.sl none (intsD p3))), (4, iV p4), (5, .d (.pv (colD p0) 0)), (11, iV (p2.length : Int)), (12, .vec 0 0), (13, iV x2)]) (fun s7 => [.vec 0 (rowsD x3)]) h (fun os7 h hks7 => ?_) (fun s7 h => ?_)
    ·refine kL (fun s5 => [(1, .d (.sl none (intsD p1))), (2, .d (.sl none (intsD p2))), (3, .d (.sl none (intsD p3))), (4, iV p4), (5, .d (.pv (colD p0) 0)), (11, iV (p2.length : Int)), (12, .vec 0 0), (13, iV x2), (33, bV s5)]) (fun s5 => [.vec 0 (rowsD x3)]) h (fun s5 h => ?_) (fun s5 h => ?_)
     ·refine (ACode_region ?_)
      refine kM 1 rfl ?_
      refine AOps_q 25 _ rfl rfl rfl (QOp_fieldAddr_pv _ _ _ _ _ 1 _ _ rfl Tryz.underlying26 rfl _ Tryz.sizeOf2 rfl rfl) ?_
      refine AOps_q 26 _ rfl rfl rfl (QOp_load_pv _ _ _ _ _ rfl Tryz.isAgg2 rfl rfl) ?_
      refine AOps_q 27 _ rfl rfl rfl (QOp_lss _ _ _ _ _ _ _ rfl rfl rfl) ?_
      refine kM 1 rfl ?_
      refine AOps_case 28 _ rfl (fun hb4 => ?_) (fun hb4 => ?_)
      ·have h := iteT hb4 h
       refine kM 1 rfl ?_
       refine AOps_q 30 _ rfl rfl rfl (QOp_len_vec _ _ _ _ _ _ _ _ (rowsD_length _) rfl rfl rfl rfl Tryz.underlying34 rfl rfl) ?_
       refine kM 1 rfl ?_
       refine AOps_q 32 _ rfl rfl rfl (QOp_lss _ _ _ _ _ _ _ rfl rfl rfl) ?_
       refine kN 1 rfl ?_
       cases h
       exact Weak_keep 0 hm [1, 2, 3, 4, 5, 11, 12, 13, 33] [0] _ _ rfl rfl rfl
      have h := iteF hb4 h
      refine AOps_skip 29 rfl rfl rfl ?_
      refine AOps_skip 30 rfl rfl rfl ?_
      refine AOps_skip 31 rfl rfl rfl ?_
      refine AOps_skip 32 rfl rfl rfl ?_
      refine kN 1 rfl ?_
      cases h
      exact Weak_keep 0 hm [1, 2, 3, 4, 5, 11, 12, 13, 33] [0] _ _ rfl rfl rfl
     refine kI h rfl (fun h _ => ?_) (fun h _ => ?_)
     ·refine ACode_skip ?_
      cases h
      exact ⟨_, rfl, Weak_keep 0 hm [1, 2, 3, 4, 5, 11, 12, 13] [0] _ _ rfl rfl rfl⟩
     refine ACode_exit ?_
     obtain ⟨rr, hz27, h2⟩ := bindO h
     obtain rfl := Option.some.inj h2
     obtain rfl := Option.some.inj (show some rr = some _ from hks7)
     have h := hz27
     cases h
     exact Weak_keep 0 hm [12] [0] _ _ rfl rfl rfl
    refine kB (fun s25 => [(1, .d (.sl none (intsD p1))), (2, .d (.sl none (intsD p2))), (3, .d (.sl none (intsD p3))), (4, iV p4), (5, .d (.pv (colD p0) 0)), (11, iV (p2.length : Int)), (12, .vec 0 0), (13, iV x2)]) (fun s25 => [.vec 0 (rowsD s25)]) h (fun s25 h => ?_) (fun s25 h => ?_)
    ·refine ACode_block ?_
     refine kO (fun s16 => [(1, .d (.sl none (intsD p1))), (2, .d (.sl none (intsD p2))), (3, .d (.sl none (intsD p3))), (4, iV p4), (5, .d (.pv (colD p0) 0)), (11, iV (p2.length : Int)), (12, .vec 0 0), (13, iV x2)]) (fun s16 => [.vec 0 (rowsD x3)]) h (fun os16 h hks16 => ?_) (fun s16 h => ?_)
     ·refine kB (fun s14 => [(1, .d (.sl none (intsD p1))), (2, .d (.sl none (intsD p2))), (3, .d (.sl none (intsD p3))), (4, iV p4), (5, .d (.pv (colD p0) 0)), (11, iV (p2.length : Int)), (12, .vec 0 0), (13, iV x2), (59, bV s14)]) (fun s14 => [.vec 0 (rowsD x3)]) h (fun s14 h => ?_) (fun s14 h => ?_)
      ·refine (ACode_quiet mixed (by kernel_rfl) ?_)
       refine kQ 2 rfl ?_
       obtain ⟨hc8, h⟩ := guardO h
       refine AQ_q 38 _ rfl rfl rfl (QOp_indexAddr_sl _ _ _ _ _ _ _ _ rfl Tryz.underlying27 Tryz.sizeOf2 hc8.1 (by rw [intsD_length]; exact hc8.2) rfl rfl) ?_
       refine AQ_q 39 _ rfl rfl rfl (QOp_load_pv _ _ _ _ _ rfl Tryz.isAgg2 rfl (intsD_get _ _ 0 (by omega))) ?_
       refine AQ_q 40 _ rfl rfl rfl (QOp_lss _ _ _ _ _ _ _ rfl rfl rfl) ?_
       refine kQ 1 rfl ?_
       refine AQ_case 41 _ rfl (fun hb9 => ?_) (fun hb9 => ?_)
       ·have h := iteT hb9 h
        refine AQ_skip 42 rfl rfl rfl ?_
        refine AQ_skip 43 rfl rfl rfl ?_
        refine AQ_skip 44 rfl rfl rfl ?_
        refine AQ_skip 45 rfl rfl rfl ?_
        refine AQ_skip 46 rfl rfl rfl ?_
        refine AQ_skip 47 rfl rfl rfl ?_
        refine AQ_skip 48 rfl rfl rfl ?_
        refine AQ_skip 49 rfl rfl rfl ?_
        refine AQ_skip 50 rfl rfl rfl ?_
        refine AQ_skip 51 rfl rfl rfl ?_
        refine AQ_skip 52 rfl rfl rfl ?_
        refine AQ_skip 53 rfl rfl rfl ?_
        refine AQ_skip 54 rfl rfl rfl ?_
        refine AQ_skip 55 rfl rfl rfl ?_
        refine AQ_skip 56 rfl rfl rfl ?_
        refine AQ_skip 57 rfl rfl rfl ?_
        refine AQ_skip 58 rfl rfl rfl ?_
        refine kQ 1 rfl ?_
        refine AQ_nil ?_
        cases h
        exact Weak_keep 0 hm [1, 2, 3, 4, 5, 11, 12, 13, 59] [0] _ _ rfl rfl rfl
       have h := iteF hb9 h
       refine AQ_q 42 _ rfl rfl rfl (QOp_loadN_pv _ _ _ _ _ _ rfl Tryz.isAgg26 Tryz.sizeOf26 rfl (colD_all _) (colD_length _)) ?_
       refine kQ 3 rfl ?_
       obtain ⟨hc10, h⟩ := guardO h
       refine AQ_q 46 _ rfl rfl rfl (QOp_indexAddr_sl _ _ _ _ _ _ _ _ rfl Tryz.underlying27 Tryz.sizeOf2 hc10.1 (by rw [intsD_length]; exact hc10.2) rfl rfl) ?_
       refine AQ_q 47 _ rfl rfl rfl (QOp_load_pv _ _ _ _ _ rfl Tryz.isAgg2 rfl (intsD_get _ _ 0 (by omega))) ?_
       refine AQ_q 48 _ rfl rfl rfl (QOp_loadN_pv _ _ _ _ _ _ rfl Tryz.isAgg26 Tryz.sizeOf26 rfl (colD_all _) (colD_length _)) ?_
       refine kQ 2 rfl ?_
       obtain ⟨r11, hr11, h⟩ := bindO h
       refine AQ_call 51 _ _ _ _ _ _ _ _ _ rfl rfl rfl rfl rfl rfl rfl Tryz.call97 rfl rfl rfl (spec_l01Around_ac k p0 (p2.length : Int) x2 _ hr11) ?_
       refine AQ_q 52 _ rfl rfl rfl (QOp_and _ _ _ _ _ _ _ rfl rfl rfl) ?_
       refine kQ 2 rfl ?_
       obtain ⟨hc12, h⟩ := guardO h
       refine AQ_q 55 _ rfl rfl rfl (QOp_indexAddr_sl _ _ _ _ _ _ _ _ rfl Tryz.underlying27 Tryz.sizeOf2 hc12.1 (by rw [intsD_length]; exact hc12.2) rfl rfl) ?_
       refine AQ_q 56 _ rfl rfl rfl (QOp_load_pv _ _ _ _ _ rfl Tryz.isAgg2 rfl (intsD_get _ _ 0 (by omega))) ?_
       refine AQ_q 57 _ rfl rfl rfl (QOp_sub _ _ _ _ _ _ _ rfl rfl rfl) ?_
       obtain ⟨r13, hr13, h⟩ := bindO h
       refine AQ_call 58 _ _ _ _ _ _ _ _ _ rfl rfl rfl rfl rfl rfl rfl Tryz.call73 rfl rfl rfl (spec_l03Clique_ac k p0 x2 (bAnd .i64 (p3.getD x2.toNat 0) r11) (w64 ((p1.getD x2.toNat 0) - 2)) _ hr13) ?_
       refine kQ 1 rfl ?_
       refine AQ_nil ?_
       cases h
       exact Weak_keep 0 hm [1, 2, 3, 4, 5, 11, 12, 13, 59] [0] _ _ rfl rfl rfl
      refine kI h rfl (fun h _ => ?_) (fun h _ => ?_)
      ·refine ACode_exit ?_
       obtain ⟨rr, hz28, h2⟩ := bindO h
       obtain rfl := Option.some.inj h2
       obtain rfl := Option.some.inj (show some rr = some _ from hks16)
       have h := hz28
       cases h
       exact Weak_keep 0 hm [1, 2, 3, 4, 5, 11, 12, 13] [0] _ _ rfl rfl rfl
      refine ACode_skip ?_
      cases h
      exact ⟨_, rfl, Weak_keep 0 hm [1, 2, 3, 4, 5, 11, 12, 13] [0] _ _ rfl rfl rfl⟩
     refine kR ?_
     refine kM 1 rfl ?_
     obtain ⟨r17, hr17, h⟩ := bindO h
     refine kC [] 61 (.vec 1 0) [.vec 0 (rowsD x3), .vec 0 (intsD r17)] rfl Tryz.call52 rfl rfl (spec_l01Own_ac p3 _ hr17) rfl ?_
     refine kN 1 rfl ?_
     refine kR ?_
     refine kM 4 rfl ?_
     obtain ⟨hc18, h⟩ := guardO h
     refine AOps_q 66 _ rfl rfl rfl (QOp_indexAddr_vec _ _ _ _ _ _ _ _ _ rfl Tryz.underlying27 Tryz.sizeOf2 hc18.1 (by rw [intsD_length]; exact hc18.2) rfl rfl rfl) ?_
     refine AOps_q 67 _ rfl rfl rfl (QOp_load_eptr _ _ _ _ _ _ _ rfl Tryz.isAgg2 rfl rfl (intsD_get _ _ 0 (by omega))) ?_
     refine kM 1 rfl ?_
     refine AOps_q 69 _ rfl rfl rfl (QOp_conv _ _ _ _ _ _ rfl rfl Tryz.underlying83 rfl) ?_
     obtain ⟨hc19, h⟩ := guardO h
     refine AOps_q 70 _ rfl rfl rfl (QOp_shl _ _ _ _ _ _ _ _ hc19 rfl rfl rfl) ?_
     refine AOps_q 71 _ rfl rfl rfl (QOp_or _ _ _ _ _ _ _ rfl rfl rfl) ?_
     obtain ⟨hc20, h⟩ := guardO h
     refine AOps_q 72 _ rfl rfl rfl (QOp_indexAddr_vec _ _ _ _ _ _ _ _ _ rfl Tryz.underlying27 Tryz.sizeOf2 hc20.1 (by rw [intsD_length]; exact hc20.2) rfl rfl rfl) ?_
     refine AOps_store_eptr _ _ _ _ _ _ (intsD r17) _ rfl rfl rfl rfl rfl rfl rfl Tryz.sizeOf2 (by rw [intsD_length]; omega) ?_
     rw [intsD_set]
     refine AOps_nil ?_
     obtain ⟨r21, hr21, h⟩ := bindO h
     obtain ⟨hc22, h⟩ := guardO h
     obtain ⟨r23, hr23, h⟩ := bindO h
     obtain ⟨hc24, h⟩ := guardO h
     refine ACode_reg [(1, .d (.sl none (intsD p1))), (2, .d (.sl none (intsD p2))), (3, .d (.sl none (intsD p3))), (4, iV p4), (5, .d (.pv (colD p0) 0)), (11, iV (p2.length : Int)), (12, .vec 0 0), (13, iV x2)] [.vec 0 (rowsD (x3 ++ r23))] ?_ ?_
     ·refine ACode_anyU mixed ?_
      refine AU_cut 3 #[true, true, true, true, true, true, true, true, true, true, true, true, true, false, false, false] [(1, .d (.sl none (intsD p1))), (2, .d (.sl none (intsD p2))), (3, .d (.sl none (intsD p3))), (4, iV p4), (5, .d (.pv (colD p0) 0)), (11, iV (p2.length : Int)), (12, .vec 0 0), (13, iV x2), (73, .vec 0 0), (74, .d (.agg (colD p0))), (75, .d (.sl none (intsD p1))), (80, .vec 1 0), (81, .vec 2 0), (85, iV (w64 (p4 - (x3.length : Int))))] [.vec 0 (rowsD x3), .vec 0 (intsD (r21 ++ ([x2]))), .vec 0 (intsD (r17.set x2.toNat (bOr .i64 (r17.getD x2.toNat 0) (bShl .i64 1 (IntKind.u64.wrap (p2.length : Int))))))] ?_ (fun hS0 => ?_)
      ·refine AU_one 13 (by kernel_rfl) rfl rfl ?_
       refine AOps_freezeL [80] 1 0 _ (allc (rfl) (fun _ h => nomatch h)) rfl ?_
       refine AOps_freezeL [81] 2 0 _ (allc (rfl) (fun _ h => nomatch h)) rfl ?_
       refine kC [] 86 (.d (.sl none (rowsD r23))) [.vec 0 (rowsD x3), .gone, .gone] rfl Tryz.call67 rfl rfl (hself p0 p1 (r21 ++ ([x2])) (r17.set x2.toNat (bOr .i64 (r17.getD x2.toNat 0) (bShl .i64 1 (IntKind.u64.wrap (p2.length : Int))))) (w64 (p4 - (x3.length : Int))) _ hr23) rfl ?_
       refine AOps_nil ?_
       refine AU_one 14 (by kernel_rfl) rfl rfl ?_
       refine AOps_append 87 _ _ _ _ _ _ _ _ _ _ _ _ rfl rfl rfl rfl rfl rfl rfl Tryz.underlying34 Tryz.type27 rfl rfl rfl (by decide) rfl rfl rfl rfl (rowsD_one _) (by rw [rowsD_length, rowsD_length]; exact hc24) ?_
       rw [rowsD_app]
       refine AOps_nil ?_
       refine AU_u 15 12 _ rfl (by kernel_rfl) rfl rfl rfl (UOp_assign _ _ rfl rfl) ?_
       refine AU_done (by kernel_rfl) ?_
       exact ⟨rfl, Weak_trans (Weak_keep 0 hm [1, 2, 3, 4, 5, 11, 12, 13] [0] _ _ rfl rfl rfl) (Weak_reset 0 hm hz [1, 2, 3, 4, 5, 11, 12, 13] _ _ rfl rfl)⟩
      refine AU_cut 4 #[true, true, true, true, true, true, true, false, true, true, true, true, true, false, false, false] [(1, .d (.sl none (intsD p1))), (2, .d (.sl none (intsD p2))), (3, .d (.sl none (intsD p3))), (4, iV p4), (5, .d (.pv (colD p0) 0)), (11, iV (p2.length : Int)), (12, .vec 0 0), (13, iV x2), (73, .vec 0 0), (74, .d (.agg (colD p0))), (75, .d (.sl none (intsD p1))), (77, .vec 1 0), (79, .vec 2 0), (81, .vec 3 0), (85, iV (w64 (p4 - (x3.length : Int))))] [.vec 0 (rowsD x3), .vec 0 (intsD r21), .vec 0 (intsD ([x2])), .vec 0 (intsD (r17.set x2.toNat (bOr .i64 (r17.getD x2.toNat 0) (bShl .i64 1 (IntKind.u64.wrap (p2.length : Int))))))] ?_ (fun hS1 => ?_)
      ·refine AU_one 7 (by kernel_rfl) rfl rfl ?_
       refine AOps_append 80 _ _ _ _ _ _ _ _ _ _ _ _ rfl rfl rfl rfl rfl rfl rfl Tryz.underlying27 Tryz.type2 rfl rfl rfl (by decide) rfl rfl rfl rfl (intsD_one _) (by rw [intsD_length, intsD_length]; exact hc22) ?_
       rw [intsD_app]
       refine AOps_nil ?_
       exact AU_to (by kernel_rfl) hS0 (Weak_trans (Weak_keep 0 hm [1, 2, 3, 4, 5, 11, 12, 13, 73, 74, 75, 80, 81, 85] [0, 1, 3] _ _ rfl rfl rfl) (Weak_reset 0 hm hz [1, 2, 3, 4, 5, 11, 12, 13, 73, 74, 75, 80, 81, 85] _ _ rfl rfl))
      refine AU_cut 5 #[true, true, true, true, true, true, false, false, true, true, true, true, true, false, false, false] [(1, .d (.sl none (intsD p1))), (2, .d (.sl none (intsD p2))), (3, .d (.sl none (intsD p3))), (4, iV p4), (5, .d (.pv (colD p0) 0)), (11, iV (p2.length : Int)), (12, .vec 0 0), (13, iV x2), (73, .vec 0 0), (74, .d (.agg (colD p0))), (75, .d (.sl none (intsD p1))), (77, .vec 1 0), (78, iV x2), (81, .vec 2 0), (85, iV (w64 (p4 - (x3.length : Int))))] [.vec 0 (rowsD x3), .vec 0 (intsD r21), .vec 0 (intsD (r17.set x2.toNat (bOr .i64 (r17.getD x2.toNat 0) (bShl .i64 1 (IntKind.u64.wrap (p2.length : Int))))))] ?_ (fun hS2 => ?_)
      ·refine AU_one 6 (by kernel_rfl) rfl rfl ?_
       refine AOps_buildSlice 79 _ _ _ [_] (intsD ([x2])) _ rfl rfl rfl rfl rfl (by decide) Tryz.underlying27 Tryz.sizeOf2 (zero_of Tryz.typeInfo2 rfl) rfl rfl (intsD_one _) ?_
       refine AOps_nil ?_
       exact AU_to (by kernel_rfl) hS1 (Weak_keep 0 hm [1, 2, 3, 4, 5, 11, 12, 13, 73, 74, 75, 77, 79, 81, 85] [0, 1, 3, 2] _ _ rfl rfl rfl)
      refine AU_cut 5 #[true, true, true, true, false, true, true, false, true, true, true, true, true, false, false, false] [(1, .d (.sl none (intsD p1))), (2, .d (.sl none (intsD p2))), (3, .d (.sl none (intsD p3))), (4, iV p4), (5, .d (.pv (colD p0) 0)), (11, iV (p2.length : Int)), (12, .vec 0 0), (13, iV x2), (73, .vec 0 0), (74, .d (.agg (colD p0))), (75, .d (.sl none (intsD p1))), (76, .d (.sl none (intsD p2))), (79, .vec 1 0), (81, .vec 2 0), (85, iV (w64 (p4 - (x3.length : Int))))] [.vec 0 (rowsD x3), .vec 0 (intsD ([x2])), .vec 0 (intsD (r17.set x2.toNat (bOr .i64 (r17.getD x2.toNat 0) (bShl .i64 1 (IntKind.u64.wrap (p2.length : Int))))))] ?_ (fun hS3 => ?_)
      ·refine AU_one 4 (by kernel_rfl) rfl rfl ?_
       refine kC [] 77 (.vec 3 0) [.vec 0 (rowsD x3), .vec 0 (intsD ([x2])), .vec 0 (intsD (r17.set x2.toNat (bOr .i64 (r17.getD x2.toNat 0) (bShl .i64 1 (IntKind.u64.wrap (p2.length : Int)))))), .vec 0 (intsD r21)] rfl Tryz.call52 rfl rfl (spec_l01Own_ac p2 _ hr21) rfl ?_
       refine AOps_nil ?_
       exact AU_to (by kernel_rfl) hS1 (Weak_keep 0 hm [1, 2, 3, 4, 5, 11, 12, 13, 73, 74, 75, 77, 79, 81, 85] [0, 3, 1, 2] _ _ rfl rfl rfl)
      refine AU_cut 5 #[true, false, true, true, true, true, true, false, true, true, true, true, true, false, false, false] [(1, .d (.sl none (intsD p1))), (2, .d (.sl none (intsD p2))), (3, .d (.sl none (intsD p3))), (4, iV p4), (5, .d (.pv (colD p0) 0)), (11, iV (p2.length : Int)), (12, .vec 0 0), (13, iV x2), (73, .vec 0 0), (75, .d (.sl none (intsD p1))), (77, .vec 1 0), (79, .vec 2 0), (81, .vec 3 0), (85, iV (w64 (p4 - (x3.length : Int))))] [.vec 0 (rowsD x3), .vec 0 (intsD r21), .vec 0 (intsD ([x2])), .vec 0 (intsD (r17.set x2.toNat (bOr .i64 (r17.getD x2.toNat 0) (bShl .i64 1 (IntKind.u64.wrap (p2.length : Int))))))] ?_ (fun hS4 => ?_)
      ·refine AU_all [1, 7] (by kernel_rfl) rfl (allc ?_ (allc ?_ (fun _ h => nomatch h)))
       ·refine US_of 1 rfl rfl ?_
        refine AOps_q 74 _ rfl rfl rfl (QOp_loadN_pv _ _ _ _ _ _ rfl Tryz.isAgg26 Tryz.sizeOf26 rfl (colD_all _) (colD_length _)) ?_
        refine AOps_nil ?_
        exact AU_to (by kernel_rfl) hS1 (Weak_keep 0 hm [1, 2, 3, 4, 5, 11, 12, 13, 73, 74, 75, 77, 79, 81, 85] [0, 1, 2, 3] _ _ rfl rfl rfl)
       refine US_of 7 rfl rfl ?_
       refine AOps_append 80 _ _ _ _ _ _ _ _ _ _ _ _ rfl rfl rfl rfl rfl rfl rfl Tryz.underlying27 Tryz.type2 rfl rfl rfl (by decide) rfl rfl rfl rfl (intsD_one _) (by rw [intsD_length, intsD_length]; exact hc22) ?_
       rw [intsD_app]
       refine AOps_nil ?_
       refine AU_one 1 (by kernel_rfl) rfl rfl ?_
       refine AOps_q 74 _ rfl rfl rfl (QOp_loadN_pv _ _ _ _ _ _ rfl Tryz.isAgg26 Tryz.sizeOf26 rfl (colD_all _) (colD_length _)) ?_
       refine AOps_nil ?_
       exact AU_to (by kernel_rfl) hS0 (Weak_trans (Weak_keep 0 hm [1, 2, 3, 4, 5, 11, 12, 13, 73, 74, 75, 80, 81, 85] [0, 1, 3] _ _ rfl rfl rfl) (Weak_reset 0 hm hz [1, 2, 3, 4, 5, 11, 12, 13, 73, 74, 75, 80, 81, 85] _ _ rfl rfl))
      refine AU_u 0 73 _ rfl (by kernel_rfl) rfl rfl rfl (UOp_move _ _ rfl rfl) ?_
      refine AU_u 2 75 _ rfl (by kernel_rfl) rfl rfl rfl (UOp_move _ _ rfl rfl) ?_
      refine AU_u 3 76 _ rfl (by kernel_rfl) rfl rfl rfl (UOp_move _ _ rfl rfl) ?_
      refine AU_u 5 78 _ rfl (by kernel_rfl) rfl rfl rfl (UOp_move _ _ rfl rfl) ?_
      refine AU_u 8 81 _ rfl (by kernel_rfl) rfl rfl rfl (UOp_move _ _ rfl rfl) ?_
      refine AU_u 9 82 _ rfl (by kernel_rfl) rfl rfl rfl (UOp_move _ _ rfl rfl) ?_
      refine AU_u 10 83 _ rfl (by kernel_rfl) rfl rfl rfl (UOp_move _ _ rfl rfl) ?_
      refine AU_u 11 84 _ rfl (by kernel_rfl) rfl rfl rfl (UOp_len_vec _ _ _ _ _ _ _ _ (rowsD_length _) rfl rfl rfl rfl Tryz.underlying34 rfl rfl) ?_
      refine AU_u 12 85 _ rfl (by kernel_rfl) rfl rfl rfl (UOp_sub _ _ _ _ _ _ _ rfl rfl rfl) ?_
      refine AU_all [1, 4, 6] (by kernel_rfl) rfl (allc ?_ (allc ?_ (allc ?_ (fun _ h => nomatch h))))
      ·refine US_of 1 rfl rfl ?_
       refine AOps_q 74 _ rfl rfl rfl (QOp_loadN_pv _ _ _ _ _ _ rfl Tryz.isAgg26 Tryz.sizeOf26 rfl (colD_all _) (colD_length _)) ?_
       refine AOps_nil ?_
       refine AU_all [4, 6] (by kernel_rfl) rfl (allc ?_ (allc ?_ (fun _ h => nomatch h)))
       ·refine US_of 4 rfl rfl ?_
        refine kC [] 77 (.vec 2 0) [.vec 0 (rowsD x3), .vec 0 (intsD (r17.set x2.toNat (bOr .i64 (r17.getD x2.toNat 0) (bShl .i64 1 (IntKind.u64.wrap (p2.length : Int)))))), .vec 0 (intsD r21)] rfl Tryz.call52 rfl rfl (spec_l01Own_ac p2 _ hr21) rfl ?_
        refine AOps_nil ?_
        exact AU_to (by kernel_rfl) hS2 (Weak_keep 0 hm [1, 2, 3, 4, 5, 11, 12, 13, 73, 74, 75, 77, 78, 81, 85] [0, 2, 1] _ _ rfl rfl rfl)
       refine US_of 6 rfl rfl ?_
       refine AOps_buildSlice 79 _ _ _ [_] (intsD ([x2])) _ rfl rfl rfl rfl rfl (by decide) Tryz.underlying27 Tryz.sizeOf2 (zero_of Tryz.typeInfo2 rfl) rfl rfl (intsD_one _) ?_
       refine AOps_nil ?_
       exact AU_to (by kernel_rfl) hS3 (Weak_keep 0 hm [1, 2, 3, 4, 5, 11, 12, 13, 73, 74, 75, 76, 79, 81, 85] [0, 2, 1] _ _ rfl rfl rfl)
      ·refine US_of 4 rfl rfl ?_
       refine kC [] 77 (.vec 2 0) [.vec 0 (rowsD x3), .vec 0 (intsD (r17.set x2.toNat (bOr .i64 (r17.getD x2.toNat 0) (bShl .i64 1 (IntKind.u64.wrap (p2.length : Int)))))), .vec 0 (intsD r21)] rfl Tryz.call52 rfl rfl (spec_l01Own_ac p2 _ hr21) rfl ?_
       refine AOps_nil ?_
       refine AU_all [1, 6] (by kernel_rfl) rfl (allc ?_ (allc ?_ (fun _ h => nomatch h)))
       ·refine US_of 1 rfl rfl ?_
        refine AOps_q 74 _ rfl rfl rfl (QOp_loadN_pv _ _ _ _ _ _ rfl Tryz.isAgg26 Tryz.sizeOf26 rfl (colD_all _) (colD_length _)) ?_
        refine AOps_nil ?_
        exact AU_to (by kernel_rfl) hS2 (Weak_keep 0 hm [1, 2, 3, 4, 5, 11, 12, 13, 73, 74, 75, 77, 78, 81, 85] [0, 2, 1] _ _ rfl rfl rfl)
       refine US_of 6 rfl rfl ?_
       refine AOps_buildSlice 79 _ _ _ [_] (intsD ([x2])) _ rfl rfl rfl rfl rfl (by decide) Tryz.underlying27 Tryz.sizeOf2 (zero_of Tryz.typeInfo2 rfl) rfl rfl (intsD_one _) ?_
       refine AOps_nil ?_
       exact AU_to (by kernel_rfl) hS4 (Weak_keep 0 hm [1, 2, 3, 4, 5, 11, 12, 13, 73, 75, 77, 79, 81, 85] [0, 2, 3, 1] _ _ rfl rfl rfl)
      refine US_of 6 rfl rfl ?_
      refine AOps_buildSlice 79 _ _ _ [_] (intsD ([x2])) _ rfl rfl rfl rfl rfl (by decide) Tryz.underlying27 Tryz.sizeOf2 (zero_of Tryz.typeInfo2 rfl) rfl rfl (intsD_one _) ?_
      refine AOps_nil ?_
      refine AU_all [1, 4] (by kernel_rfl) rfl (allc ?_ (allc ?_ (fun _ h => nomatch h)))
      ·refine US_of 1 rfl rfl ?_
       refine AOps_q 74 _ rfl rfl rfl (QOp_loadN_pv _ _ _ _ _ _ rfl Tryz.isAgg26 Tryz.sizeOf26 rfl (colD_all _) (colD_length _)) ?_
       refine AOps_nil ?_
       exact AU_to (by kernel_rfl) hS3 (Weak_keep 0 hm [1, 2, 3, 4, 5, 11, 12, 13, 73, 74, 75, 76, 79, 81, 85] [0, 2, 1] _ _ rfl rfl rfl)
      refine US_of 4 rfl rfl ?_
      refine kC [] 77 (.vec 3 0) [.vec 0 (rowsD x3), .vec 0 (intsD (r17.set x2.toNat (bOr .i64 (r17.getD x2.toNat 0) (bShl .i64 1 (IntKind.u64.wrap (p2.length : Int)))))), .vec 0 (intsD ([x2])), .vec 0 (intsD r21)] rfl Tryz.call52 rfl rfl (spec_l01Own_ac p2 _ hr21) rfl ?_
      refine AOps_nil ?_
      exact AU_to (by kernel_rfl) hS4 (Weak_keep 0 hm [1, 2, 3, 4, 5, 11, 12, 13, 73, 75, 77, 79, 81, 85] [0, 3, 2, 1] _ _ rfl rfl rfl)
     cases h
     exact Weak_keep 0 hm [1, 2, 3, 4, 5, 11, 12, 13] [0] _ _ rfl rfl rfl
    refine (ACode_region ?_)
    refine kM 1 rfl ?_
    refine AOps_q 35 _ rfl rfl rfl (QOp_add _ _ _ _ _ _ _ rfl rfl rfl) ?_
    refine kN 1 rfl ?_
    exact ⟨k0, _, _, Nat.lt_succ_self _, Weak_keep 0 hm [1, 2, 3, 4, 5, 11, 12, 13] [0] _ _ rfl rfl rfl, _, _, rfl, rfl, h⟩
  refine kR ?_
  refine kN 2 rfl ?_
  refine ACode_ret ?_
  cases h
  exact ⟨_, _, fun r a w h => ⟨r, h⟩, _, _, [], _, (.cons (ResV_tmp _ _ rfl) .nil), rfl, rfl, rfl, rfl, rfl⟩

-- loop.example/g01362/spec.l05All
def spec_l05All_l0 (p1 : List Int) : Nat → Int → Option (Sum (Unit) (List (List Int)))
 | 0, _ => none
 | k0 + 1, x1 => (if decide (x1 < (p1.length : Int)) then (if 0 ≤ x1 ∧ x1 < (p1.length : Int) then (if decide ((p1.getD x1.toNat 0) = 1) then some (.inr ([] : List (List Int))) else spec_l05All_l0 p1 k0 (w64 (x1 + 1))) else none) else some (.inl ()))
def spec_l05All (k : Nat) (p0 : Col) (p1 : List Int) (p2 : Int) : Option (List (List Int)) :=
 (spec_l05All_l0 p1 k 0 : Option (Sum (Unit) (List (List Int)))).bind fun os5 => (match os5 with | .inl s5 => (if 0 ≤ p0.k ∧ p0.k ≤ p0.k ∧ p0.k ≤ 1099511627776 then (spec_l05Search k p0 p1 ([] : List Int) (List.replicate p0.k.toNat (0 : Int)) p2).bind fun r7 => some r7 else none) | .inr rr => some rr)
set_option maxRecDepth 100000 in
theorem spec_l05All_ac (k : Nat) (p0 : Col) (p1 : List Int) (p2 : Int) (r : List (List Int)) (h : spec_l05All k p0 p1 p2 = some r) : AC Tryz.prog 36 [.d (.agg (colD p0)), .d (.sl none (intsD p1)), iV p2] [] (fun res H' => res = [.d (.sl none (rowsD r))] ∧ H' = []) := by
 refine AC_of_body true Tryz.func36 rfl Tryz.ntmps36 (rvs := [.tmp 6]) rfl rfl (fun G hG => ?_)
 have hm : G.H.length = 0 := by rw [hG]; rfl
 have hz : zeroG G.H = true := by rw [hG]; rfl
 unfold spec_l05All at h
 refine kR ?_
 refine AOps_boxI 3 _ _ (.agg (colD p0)) (colD p0) rfl (colD_one _) rfl rfl rfl rfl rfl ?_
 refine kN 1 rfl ?_
 refine kO (fun s5 => [(1, .d (.sl none (intsD p1))), (2, iV p2), (3, .d (.pv (colD p0) 0))]) (fun s5 => []) h (fun os5 h hks5 => ?_) (fun s5 h => ?_)
 ·refine kR ?_
  refine kN 1 rfl ?_
  refine ACode_block ?_
  refine ACode_loopW (fun k0 E H => ∃ (x1 : Int), E = [(1, .d (.sl none (intsD p1))), (2, iV p2), (3, .d (.pv (colD p0) 0)), (7, iV x1)] ∧ H = [] ∧ spec_l05All_l0 p1 k0 x1 = some os5) k _ _ (Weak_keep 0 hm [1, 2, 3, 7] [] _ _ rfl rfl rfl) ⟨_, rfl, rfl, h⟩ ?_
  clear h
  rintro k0 E H ⟨x1, rfl, rfl, h⟩
  cases k0 with
  | zero => cases (show (none : Option (Sum (Unit) (List (List Int)))) = some _ from h)
  | succ k0 =>
   rw [spec_l05All_l0] at h
   refine ACode_seq ?_
   refine kR ?_
   refine kM 2 rfl ?_
   refine AOps_q 10 _ rfl rfl rfl (QOp_len_sl _ _ _ _ _ _ _ (intsD_length _) rfl rfl rfl rfl Tryz.underlying27 rfl) ?_
   refine AOps_q 11 _ rfl rfl rfl (QOp_lss _ _ _ _ _ _ _ rfl rfl rfl) ?_
   refine AOps_nil ?_
   refine kI h rfl (fun h _ => ?_) (fun h _ => ?_)
   ·refine ACode_skip ?_
    refine ACode_seq ?_
    refine ACode_block ?_
    refine kR ?_
    refine kM 2 rfl ?_
    obtain ⟨hc3, h⟩ := guardO h
    refine AOps_q 16 _ rfl rfl rfl (QOp_indexAddr_sl _ _ _ _ _ _ _ _ rfl Tryz.underlying27 Tryz.sizeOf2 hc3.1 (by rw [intsD_length]; exact hc3.2) rfl rfl) ?_
    refine AOps_q 17 _ rfl rfl rfl (QOp_load_pv _ _ _ _ _ rfl Tryz.isAgg2 rfl (intsD_get _ _ 0 (by omega))) ?_
    refine AOps_q 18 _ rfl rfl rfl (QOp_eql _ _ _ _ _ _ _ rfl rfl rfl) ?_
    refine AOps_nil ?_
    refine kI h rfl (fun h _ => ?_) (fun h _ => ?_)
    ·refine kR ?_
     refine AOps_buildSlice 19 _ _ _ [] (rowsD ([] : List (List Int))) _ rfl rfl rfl rfl rfl (by decide) Tryz.underlying34 Tryz.sizeOf27 (zero_of Tryz.typeInfo27 rfl) rfl rfl (rowsD_one _) ?_
     refine kN 1 rfl ?_
     refine ACode_ret ?_
     cases h
     have h := hks5
     cases h
     exact ⟨_, _, fun r a w h => ⟨r, h⟩, _, _, [], _, (.cons (ResV_tmp _ _ rfl) .nil), rfl, rfl, rfl, rfl, rfl⟩
    refine ACode_skip ?_
    refine (ACode_region ?_)
    refine kM 1 rfl ?_
    refine AOps_q 13 _ rfl rfl rfl (QOp_add _ _ _ _ _ _ _ rfl rfl rfl) ?_
    refine kN 1 rfl ?_
    exact ⟨k0, _, _, Nat.lt_succ_self _, Weak_keep 0 hm [1, 2, 3, 7] [] _ _ rfl rfl rfl, _, rfl, rfl, h⟩
   refine ACode_exit ?_
   cases h
   exact ⟨_, rfl, Weak_keep 0 hm [1, 2, 3] [] _ _ rfl rfl rfl⟩
 obtain ⟨hc6, h⟩ := guardO h
 obtain ⟨r7, hr7, h⟩ := bindO h
 refine ACode_seq (ACode_reg [(6, .d (.sl none (rowsD r7)))] [] ?_ ?_)
 ·refine ACode_anyU mixed ?_
  refine AU_cut 2 #[true, true, true, true, true, true, true, false, false] [(20, .d (.agg (colD p0))), (21, .d (.sl none (intsD p1))), (22, .vec 0 0), (25, .vec 1 0), (26, iV p2)] [.vec 0 (intsD ([] : List Int)), .vec 0 (intsD (List.replicate p0.k.toNat (0 : Int)))] ?_ (fun hS0 => ?_)
  ·refine AU_one 7 (by kernel_rfl) rfl rfl ?_
   refine AOps_freezeL [22] 0 0 _ (allc (rfl) (fun _ h => nomatch h)) rfl ?_
   refine AOps_freezeL [25] 1 0 _ (allc (rfl) (fun _ h => nomatch h)) rfl ?_
   refine kC [] 27 (.d (.sl none (rowsD r7))) [.gone, .gone] rfl Tryz.call67 rfl rfl (spec_l05Search_ac k p0 p1 ([] : List Int) (List.replicate p0.k.toNat (0 : Int)) p2 _ hr7) rfl ?_
   refine AOps_nil ?_
   refine AU_u 8 6 _ rfl (by kernel_rfl) rfl rfl rfl (UOp_assign _ _ rfl rfl) ?_
   refine AU_done (by kernel_rfl) ?_
   exact ⟨rfl, Weak_keep 0 hm [6] [] _ _ rfl rfl rfl⟩
  refine AU_cut 3 #[true, true, true, true, true, false, true, false, false] [(20, .d (.agg (colD p0))), (21, .d (.sl none (intsD p1))), (22, .vec 0 0), (24, iV p0.k), (26, iV p2)] [.vec 0 (intsD ([] : List Int))] ?_ (fun hS1 => ?_)
  ·refine AU_one 5 (by kernel_rfl) rfl rfl ?_
   refine AOps_makeSliceG intsD iD 0 (intsD_rep · _) 25 _ _ _ _ _ _ p0.k p0.k _ (.int .i64 0) rfl rfl rfl rfl rfl rfl Tryz.underlying27 Tryz.type2 rfl rfl (by decide) rfl rfl hc6.1 hc6.2.1 hc6.2.2 ?_
   refine AOps_nil ?_
   exact AU_to (by kernel_rfl) hS0 (Weak_keep 0 hm [20, 21, 22, 25, 26] [0, 1] _ _ rfl rfl rfl)
  refine AU_cut 3 #[true, true, false, true, true, true, true, false, false] [(20, .d (.agg (colD p0))), (21, .d (.sl none (intsD p1))), (25, .vec 0 0), (26, iV p2)] [.vec 0 (intsD (List.replicate p0.k.toNat (0 : Int)))] ?_ (fun hS2 => ?_)
  ·refine AU_one 2 (by kernel_rfl) rfl rfl ?_
   refine AOps_buildSlice 22 _ _ _ [] (intsD ([] : List Int)) _ rfl rfl rfl rfl rfl (by decide) Tryz.underlying27 Tryz.sizeOf2 (zero_of Tryz.typeInfo2 rfl) rfl rfl (intsD_one _) ?_
   refine AOps_nil ?_
   exact AU_to (by kernel_rfl) hS0 (Weak_keep 0 hm [20, 21, 22, 25, 26] [1, 0] _ _ rfl rfl rfl)
  refine AU_cut 3 #[false, true, true, true, true, true, true, false, false] [(3, .d (.pv (colD p0) 0)), (21, .d (.sl none (intsD p1))), (22, .vec 0 0), (25, .vec 1 0), (26, iV p2)] [.vec 0 (intsD ([] : List Int)), .vec 0 (intsD (List.replicate p0.k.toNat (0 : Int)))] ?_ (fun hS3 => ?_)
  ·refine AU_one 0 (by kernel_rfl) rfl rfl ?_
   refine AOps_q 20 _ rfl rfl rfl (QOp_loadN_pv _ _ _ _ _ _ rfl Tryz.isAgg26 Tryz.sizeOf26 rfl (colD_all _) (colD_length _)) ?_
   refine AOps_nil ?_
   exact AU_to (by kernel_rfl) hS0 (Weak_keep 0 hm [20, 21, 22, 25, 26] [0, 1] _ _ rfl rfl rfl)
  refine AU_cut 4 #[true, true, true, true, false, false, true, false, false] [(20, .d (.agg (colD p0))), (21, .d (.sl none (intsD p1))), (22, .vec 0 0), (23, .d (.pv (colD p0) 1)), (26, iV p2)] [.vec 0 (intsD ([] : List Int))] ?_ (fun hS4 => ?_)
  ·refine AU_one 4 (by kernel_rfl) rfl rfl ?_
   refine AOps_q 24 _ rfl rfl rfl (QOp_load_pv _ _ _ _ _ rfl Tryz.isAgg2 rfl rfl) ?_
   refine AOps_nil ?_
   exact AU_to (by kernel_rfl) hS1 (Weak_keep 0 hm [20, 21, 22, 24, 26] [0] _ _ rfl rfl rfl)
  refine AU_cut 4 #[true, true, false, true, true, false, true, false, false] [(20, .d (.agg (colD p0))), (21, .d (.sl none (intsD p1))), (24, iV p0.k), (26, iV p2)] [] ?_ (fun hS5 => ?_)
  ·refine AU_all [2, 5] (by kernel_rfl) rfl (allc ?_ (allc ?_ (fun _ h => nomatch h)))
   ·refine US_of 2 rfl rfl ?_
    refine AOps_buildSlice 22 _ _ _ [] (intsD ([] : List Int)) _ rfl rfl rfl rfl rfl (by decide) Tryz.underlying27 Tryz.sizeOf2 (zero_of Tryz.typeInfo2 rfl) rfl rfl (intsD_one _) ?_
    refine AOps_nil ?_
    exact AU_to (by kernel_rfl) hS1 (Weak_keep 0 hm [20, 21, 22, 24, 26] [0] _ _ rfl rfl rfl)
   refine US_of 5 rfl rfl ?_
   refine AOps_makeSliceG intsD iD 0 (intsD_rep · _) 25 _ _ _ _ _ _ p0.k p0.k _ (.int .i64 0) rfl rfl rfl rfl rfl rfl Tryz.underlying27 Tryz.type2 rfl rfl (by decide) rfl rfl hc6.1 hc6.2.1 hc6.2.2 ?_
   refine AOps_nil ?_
   exact AU_to (by kernel_rfl) hS2 (Weak_keep 0 hm [20, 21, 25, 26] [0] _ _ rfl rfl rfl)
  refine AU_cut 4 #[false, true, true, true, true, false, true, false, false] [(3, .d (.pv (colD p0) 0)), (21, .d (.sl none (intsD p1))), (22, .vec 0 0), (24, iV p0.k), (26, iV p2)] [.vec 0 (intsD ([] : List Int))] ?_ (fun hS6 => ?_)
  ·refine AU_all [0, 5] (by kernel_rfl) rfl (allc ?_ (allc ?_ (fun _ h => nomatch h)))
   ·refine US_of 0 rfl rfl ?_
    refine AOps_q 20 _ rfl rfl rfl (QOp_loadN_pv _ _ _ _ _ _ rfl Tryz.isAgg26 Tryz.sizeOf26 rfl (colD_all _) (colD_length _)) ?_
    refine AOps_nil ?_
    exact AU_to (by kernel_rfl) hS1 (Weak_keep 0 hm [20, 21, 22, 24, 26] [0] _ _ rfl rfl rfl)
   refine US_of 5 rfl rfl ?_
   refine AOps_makeSliceG intsD iD 0 (intsD_rep · _) 25 _ _ _ _ _ _ p0.k p0.k _ (.int .i64 0) rfl rfl rfl rfl rfl rfl Tryz.underlying27 Tryz.type2 rfl rfl (by decide) rfl rfl hc6.1 hc6.2.1 hc6.2.2 ?_
   refine AOps_nil ?_
   exact AU_to (by kernel_rfl) hS3 (Weak_keep 0 hm [3, 21, 22, 25, 26] [0, 1] _ _ rfl rfl rfl)
  refine AU_u 1 21 _ rfl (by kernel_rfl) rfl rfl rfl (UOp_move _ _ rfl rfl) ?_
  refine AU_u 3 23 _ rfl (by kernel_rfl) rfl rfl rfl (UOp_fieldAddr_pv _ _ _ _ _ 1 _ _ rfl Tryz.underlying26 rfl _ Tryz.sizeOf2 rfl rfl) ?_
  refine AU_u 6 26 _ rfl (by kernel_rfl) rfl rfl rfl (UOp_move _ _ rfl rfl) ?_
  refine AU_all [0, 2, 4] (by kernel_rfl) rfl (allc ?_ (allc ?_ (allc ?_ (fun _ h => nomatch h))))
  ·refine US_of 0 rfl rfl ?_
   refine AOps_q 20 _ rfl rfl rfl (QOp_loadN_pv _ _ _ _ _ _ rfl Tryz.isAgg26 Tryz.sizeOf26 rfl (colD_all _) (colD_length _)) ?_
   refine AOps_nil ?_
   refine AU_all [2, 4] (by kernel_rfl) rfl (allc ?_ (allc ?_ (fun _ h => nomatch h)))
   ·refine US_of 2 rfl rfl ?_
    refine AOps_buildSlice 22 _ _ _ [] (intsD ([] : List Int)) _ rfl rfl rfl rfl rfl (by decide) Tryz.underlying27 Tryz.sizeOf2 (zero_of Tryz.typeInfo2 rfl) rfl rfl (intsD_one _) ?_
    refine AOps_nil ?_
    exact AU_to (by kernel_rfl) hS4 (Weak_keep 0 hm [20, 21, 22, 23, 26] [0] _ _ rfl rfl rfl)
   refine US_of 4 rfl rfl ?_
   refine AOps_q 24 _ rfl rfl rfl (QOp_load_pv _ _ _ _ _ rfl Tryz.isAgg2 rfl rfl) ?_
   refine AOps_nil ?_
   exact AU_to (by kernel_rfl) hS5 (Weak_keep 0 hm [20, 21, 24, 26] [] _ _ rfl rfl rfl)
  ·refine US_of 2 rfl rfl ?_
   refine AOps_buildSlice 22 _ _ _ [] (intsD ([] : List Int)) _ rfl rfl rfl rfl rfl (by decide) Tryz.underlying27 Tryz.sizeOf2 (zero_of Tryz.typeInfo2 rfl) rfl rfl (intsD_one _) ?_
   refine AOps_nil ?_
   refine AU_all [0, 4] (by kernel_rfl) rfl (allc ?_ (allc ?_ (fun _ h => nomatch h)))
   ·refine US_of 0 rfl rfl ?_
    refine AOps_q 20 _ rfl rfl rfl (QOp_loadN_pv _ _ _ _ _ _ rfl Tryz.isAgg26 Tryz.sizeOf26 rfl (colD_all _) (colD_length _)) ?_
    refine AOps_nil ?_
    exact AU_to (by kernel_rfl) hS4 (Weak_keep 0 hm [20, 21, 22, 23, 26] [0] _ _ rfl rfl rfl)
   refine US_of 4 rfl rfl ?_
   refine AOps_q 24 _ rfl rfl rfl (QOp_load_pv _ _ _ _ _ rfl Tryz.isAgg2 rfl rfl) ?_
   refine AOps_nil ?_
   exact AU_to (by kernel_rfl) hS6 (Weak_keep 0 hm [3, 21, 22, 24, 26] [0] _ _ rfl rfl rfl)
  refine US_of 4 rfl rfl ?_
  refine AOps_q 24 _ rfl rfl rfl (QOp_load_pv _ _ _ _ _ rfl Tryz.isAgg2 rfl rfl) ?_
  refine AOps_nil ?_
  refine AU_all [0, 2, 5] (by kernel_rfl) rfl (allc ?_ (allc ?_ (allc ?_ (fun _ h => nomatch h))))
  ·refine US_of 0 rfl rfl ?_
   refine AOps_q 20 _ rfl rfl rfl (QOp_loadN_pv _ _ _ _ _ _ rfl Tryz.isAgg26 Tryz.sizeOf26 rfl (colD_all _) (colD_length _)) ?_
   refine AOps_nil ?_
   exact AU_to (by kernel_rfl) hS5 (Weak_keep 0 hm [20, 21, 24, 26] [] _ _ rfl rfl rfl)
  ·refine US_of 2 rfl rfl ?_
   refine AOps_buildSlice 22 _ _ _ [] (intsD ([] : List Int)) _ rfl rfl rfl rfl rfl (by decide) Tryz.underlying27 Tryz.sizeOf2 (zero_of Tryz.typeInfo2 rfl) rfl rfl (intsD_one _) ?_
   refine AOps_nil ?_
   exact AU_to (by kernel_rfl) hS6 (Weak_keep 0 hm [3, 21, 22, 24, 26] [0] _ _ rfl rfl rfl)
  refine US_of 5 rfl rfl ?_
  refine AOps_makeSliceG intsD iD 0 (intsD_rep · _) 25 _ _ _ _ _ _ p0.k p0.k _ (.int .i64 0) rfl rfl rfl rfl rfl rfl Tryz.underlying27 Tryz.type2 rfl rfl (by decide) rfl rfl hc6.1 hc6.2.1 hc6.2.2 ?_
  refine AOps_nil ?_
  refine AU_all [0, 2] (by kernel_rfl) rfl (allc ?_ (allc ?_ (fun _ h => nomatch h)))
  ·refine US_of 0 rfl rfl ?_
   refine AOps_q 20 _ rfl rfl rfl (QOp_loadN_pv _ _ _ _ _ _ rfl Tryz.isAgg26 Tryz.sizeOf26 rfl (colD_all _) (colD_length _)) ?_
   refine AOps_nil ?_
   exact AU_to (by kernel_rfl) hS2 (Weak_keep 0 hm [20, 21, 25, 26] [0] _ _ rfl rfl rfl)
  refine US_of 2 rfl rfl ?_
  refine AOps_buildSlice 22 _ _ _ [] (intsD ([] : List Int)) _ rfl rfl rfl rfl rfl (by decide) Tryz.underlying27 Tryz.sizeOf2 (zero_of Tryz.typeInfo2 rfl) rfl rfl (intsD_one _) ?_
  refine AOps_nil ?_
  exact AU_to (by kernel_rfl) hS3 (Weak_keep 0 hm [3, 21, 22, 25, 26] [1, 0] _ _ rfl rfl rfl)
 refine ACode_ret ?_
 cases h
 exact ⟨_, _, fun r a w h => ⟨r, h⟩, _, _, [], _, (.cons (ResV_tmp _ _ rfl) .nil), rfl, rfl, rfl, rfl, rfl⟩

-- loop.example/g01362/spec.l01Put
def spec_l01Put_l0 (p1 : List Int) : Nat → Int → Col → Option (Col)
 | 0, _, _ => none
 | k0 + 1, x1, x2 => (if decide (x1 < (p1.length : Int)) then (if 0 ≤ x1 ∧ x1 < (p1.length : Int) then (if 0 ≤ (spec_l01Edge x1 (w64 (x2.p - 1))) ∧ (spec_l01Edge x1 (w64 (x2.p - 1))) < 136 then spec_l01Put_l0 p1 k0 (w64 (x1 + 1)) (x2.set ((spec_l01Edge x1 (w64 (x2.p - 1))).toNat) (toByte (p1.getD x1.toNat 0))) else none) else none) else some x2)
def spec_l01Put (k : Nat) (p0 : Col) (p1 : List Int) : Option (Col) :=
 (spec_l01Put_l0 p1 k 0 (⟨w64 (p0.p + 1), p0.k, p0.e⟩ : Col) : Option (Col)).bind fun s7 => some s7
set_option maxRecDepth 100000 in
theorem spec_l01Put_ac (k : Nat) (p0 : Col) (p1 : List Int) (r : Col) (h : spec_l01Put k p0 p1 = some r) : AC Tryz.prog 56 [.d (.agg (colD p0)), .d (.sl none (intsD p1))] [] (fun res H' => res = [.d (.agg (colD r))] ∧ H' = []) := by
 refine AC_of_body true Tryz.func56 rfl Tryz.ntmps56 (rvs := [.cell 4 26]) rfl rfl (fun G hG => ?_)
 have hm : G.H.length = 0 := by rw [hG]; rfl
 have hz : zeroG G.H = true := by rw [hG]; rfl
 unfold spec_l01Put at h
 refine kR ?_
 refine AOps_boxM 2 _ _ (.agg (colD p0)) (colD p0) rfl (colD_one _) rfl rfl rfl rfl rfl ?_
 refine AOps_alloc 4 _ _ (colD Col.zero) (zero_of Tryz.typeInfo26 rfl) (by rfl) rfl rfl rfl rfl ?_
 refine AOps_nil ?_
 refine kR ?_
 refine AOps_q 6 _ rfl rfl rfl (QOp_fieldAddr_ptr _ _ _ _ _ _ 0 _ _ rfl Tryz.underlying26 rfl _ Tryz.sizeOf2 rfl rfl rfl rfl) ?_
 refine AOps_q 7 _ rfl rfl rfl (QOp_load_ptr _ _ _ _ _ _ rfl Tryz.isAgg2 rfl rfl rfl) ?_
 refine AOps_q 8 _ rfl rfl rfl (QOp_add _ _ _ _ _ _ _ rfl rfl rfl) ?_
 refine AOps_q 9 _ rfl rfl rfl (QOp_fieldAddr_ptr _ _ _ _ _ _ 0 _ _ rfl Tryz.underlying26 rfl _ Tryz.sizeOf2 rfl rfl rfl rfl) ?_
 refine AOps_store1 _ _ _ _ _ _ (colD (⟨w64 (p0.p + 1), p0.k, p0.e⟩ : Col)) _ rfl rfl rfl rfl rfl rfl rfl Tryz.sizeOf2 (by rw [colD_length]; omega) (colD_set0 _ _) ?_
 refine AOps_nil ?_
 refine kB (fun s7 => [(2, .ptr 0 0), (4, .ptr 1 0)]) (fun s7 => [.box (colD s7), .box (colD Col.zero)]) h (fun s7 h => ?_) (fun s7 h => ?_)
 ·refine kR ?_
  refine kN 1 rfl ?_
  refine ACode_block ?_
  refine ACode_loopW (fun k0 E H => ∃ (x1 : Int) (x2 : Col), E = [(1, .d (.sl none (intsD p1))), (2, .ptr 0 0), (4, .ptr 1 0), (5, iV x1)] ∧ H = [.box (colD x2), .box (colD Col.zero)] ∧ spec_l01Put_l0 p1 k0 x1 x2 = some s7) k _ _ (Weak_keep 0 hm [1, 2, 4, 5] [0, 1] _ _ rfl rfl rfl) ⟨_, _, rfl, rfl, h⟩ ?_
  clear h
  rintro k0 E H ⟨x1, x2, rfl, rfl, h⟩
  cases k0 with
  | zero => cases (show (none : Option (Col)) = some _ from h)
  | succ k0 =>
   rw [spec_l01Put_l0] at h
   refine ACode_seq ?_
   refine kR ?_
   refine kM 2 rfl ?_
   refine AOps_q 12 _ rfl rfl rfl (QOp_len_sl _ _ _ _ _ _ _ (intsD_length _) rfl rfl rfl rfl Tryz.underlying27 rfl) ?_
   refine AOps_q 13 _ rfl rfl rfl (QOp_lss _ _ _ _ _ _ _ rfl rfl rfl) ?_
   refine AOps_nil ?_
   refine kI h rfl (fun h _ => ?_) (fun h _ => ?_)
   ·refine ACode_skip ?_
    refine ACode_seq ?_
    refine ACode_block ?_
    refine (ACode_last (l := [_, _, _, _, _, _, _, _, _, _, _, _]) mixed (by kernel_rfl) (by kernel_rfl) ?_)
    refine kQ 1 rfl ?_
    refine AQ_q 17 _ rfl rfl rfl (QOp_fieldAddr_ptr _ _ _ _ _ _ 0 _ _ rfl Tryz.underlying26 rfl _ Tryz.sizeOf2 rfl rfl rfl rfl) ?_
    refine AQ_q 18 _ rfl rfl rfl (QOp_load_ptr _ _ _ _ _ _ rfl Tryz.isAgg2 rfl rfl rfl) ?_
    refine AQ_q 19 _ rfl rfl rfl (QOp_sub _ _ _ _ _ _ _ rfl rfl rfl) ?_
    refine AQ_call 20 _ _ _ _ _ _ _ _ _ rfl rfl rfl rfl rfl rfl rfl Tryz.call85 rfl rfl rfl (spec_l01Edge_ac x1 (w64 (x2.p - 1))) ?_
    refine kQ 2 rfl ?_
    obtain ⟨hc5, h⟩ := guardO h
    refine AQ_q 23 _ rfl rfl rfl (QOp_indexAddr_sl _ _ _ _ _ _ _ _ rfl Tryz.underlying27 Tryz.sizeOf2 hc5.1 (by rw [intsD_length]; exact hc5.2) rfl rfl) ?_
    refine AQ_q 24 _ rfl rfl rfl (QOp_load_pv _ _ _ _ _ rfl Tryz.isAgg2 rfl (intsD_get _ _ 0 (by omega))) ?_
    refine AQ_q 25 _ rfl rfl rfl (QOp_toByte _ _ _ _ _ rfl rfl Tryz.underlying5 rfl) ?_
    refine AQ_q 26 _ rfl rfl rfl (QOp_fieldAddr_ptr _ _ _ _ _ _ 2 _ _ rfl Tryz.underlying26 rfl _ Tryz.sizeOf24 rfl rfl rfl rfl) ?_
    obtain ⟨hc6, h⟩ := guardO h
    refine AQ_q 27 _ rfl rfl rfl (QOp_indexAddrA_ptr _ _ _ _ _ _ _ _ _ _ rfl Tryz.underlying24 Tryz.sizeOf5 hc6.1 hc6.2 rfl rfl rfl rfl) ?_
    refine AQ_nil ?_
    refine AOps_store1 _ _ _ _ _ _ (colD (x2.set ((spec_l01Edge x1 (w64 (x2.p - 1))).toNat) (toByte (p1.getD x1.toNat 0)))) _ rfl rfl rfl rfl rfl rfl rfl Tryz.sizeOf5 (by rw [colD_length]; omega) (colD_setE x2 ((spec_l01Edge x1 (w64 (x2.p - 1))).toNat) (toByte (p1.getD x1.toNat 0))) ?_
    refine AOps_nil ?_
    refine (ACode_region ?_)
    refine kM 1 rfl ?_
    refine AOps_q 15 _ rfl rfl rfl (QOp_add _ _ _ _ _ _ _ rfl rfl rfl) ?_
    refine kN 1 rfl ?_
    exact ⟨k0, _, _, Nat.lt_succ_self _, Weak_keep 0 hm [1, 2, 4, 5] [0, 1] _ _ rfl rfl rfl, _, _, rfl, rfl, h⟩
   refine ACode_exit ?_
   cases h
   exact Weak_keep 0 hm [2, 4] [0, 1] _ _ rfl rfl rfl
 refine kR ?_
 refine AOps_q 28 _ rfl rfl rfl (QOp_loadN_ptr _ _ _ _ _ _ _ rfl Tryz.isAgg26 Tryz.sizeOf26 rfl rfl (colD_all _) (colD_length _)) ?_
 refine AOps_store _ _ _ _ _ _ (colD _) _ _ rfl rfl rfl rfl rfl rfl rfl (colD_one _) (by rw [colD_length]; exact Tryz.sizeOf26) (by rw [colD_length, colD_length]; decide) (colD_whole _ _) ?_
 refine AOps_nil ?_
 refine ACode_ret ?_
 cases h
 exact ⟨_, _, fun r a w h => ⟨r, h⟩, _, _, [], _, (.cons (ResV_agg _ _ _ _ _ _ Tryz.isAgg26 Tryz.sizeOf26 rfl rfl (colD_take _) (colD_length _)) .nil), rfl, rfl, rfl, rfl, rfl⟩

-- loop.example/g01362/spec.l05Grown
def spec_l05Grown_l0 (k : Nat) (r2 : List Int × Src) : Nat → Int → Src → Col → Option (Src × Col)
 | 0, _, _, _ => none
 | k0 + 1, x4, x5, x6 => (if decide (0 < x4) then (spec_l05All k x6 r2.1 60).bind fun r8 => (if decide ((r8.length : Int) = 0) then some (x5, x6) else (spec_l01Next x5 (r8.length : Int)).bind fun r10 => (if 0 ≤ r10.1 ∧ r10.1 < (r8.length : Int) then (spec_l01Put k x6 (r8.getD r10.1.toNat [])).bind fun r12 => spec_l05Grown_l0 k r2 k0 (w64 (x4 - 1)) r10.2 r12 else none)) else some (x5, x6))
def spec_l05Grown (k : Nat) (p0 : Src) : Option (Col × List Int × Src) :=
 (spec_l01Pick p0 ([1, 2, 2, 2, 2, 3, 4])).bind fun r1 => (spec_l05DrawSizes k r1.2 r1.1).bind fun r2 => ((spec_l01Next r2.2 8).bind fun r3 => spec_l05Grown_l0 k r2 k r3.1 r3.2 (⟨1, r1.1, B136.zero⟩ : Col) : Option (Src × Col)).bind fun s13 => some (s13.2, r2.1, s13.1)
set_option maxRecDepth 100000 in
theorem spec_l05Grown_ac (k : Nat) (p0 : Src) (r : Col × List Int × Src) (h : spec_l05Grown k p0 = some r) : AC Tryz.prog 80 [.ptr 0 0] [.box (srcD p0)] (fun res H' => res = [.d (.agg (colD r.1)), .d (.sl none (intsD r.2.1))] ∧ H' = [.box (srcD r.2.2)]) := by
 refine AC_of_body true Tryz.func80 rfl Tryz.ntmps80 (rvs := [.cell 2 26, .tmp 3]) rfl rfl (fun G hG => ?_)
 have hm : G.H.length = 1 := by rw [hG]; rfl
 have hz : zeroG G.H = true := by rw [hG]; rfl
 unfold spec_l05Grown at h
 refine kR ?_
 refine AOps_alloc 2 _ _ (colD Col.zero) (zero_of Tryz.typeInfo26 rfl) (by rfl) rfl rfl rfl rfl ?_
 refine kN 1 rfl ?_
 refine kR ?_
 refine kM 1 rfl ?_
 refine AOps_buildSlice 10 _ _ _ [_, _, _, _, _, _, _] (intsD ([1, 2, 2, 2, 2, 3, 4])) _ rfl rfl rfl rfl rfl (by decide) Tryz.underlying27 Tryz.sizeOf2 (zero_of Tryz.typeInfo2 rfl) rfl rfl (intsD_one _) ?_
 refine AOps_freezeL [10] 2 0 _ (allc (rfl) (fun _ h => nomatch h)) rfl ?_
 obtain ⟨r1, hr1, h⟩ := bindO h
 refine kC [0] 11 (iV r1.1) [.box (srcD r1.2), .box (colD Col.zero), .gone] rfl Tryz.call53 rfl rfl (spec_l01Pick_ac p0 ([1, 2, 2, 2, 2, 3, 4]) _ hr1) rfl ?_
 refine kN 1 rfl ?_
 refine kR ?_
 refine kM 2 rfl ?_
 obtain ⟨r2, hr2, h⟩ := bindO h
 refine kC [0] 14 (.vec 3 0) [.box (srcD r2.2), .box (colD Col.zero), .gone, .vec 0 (intsD r2.1)] rfl Tryz.call58 rfl rfl (spec_l05DrawSizes_ac k r1.2 r1.1 _ hr2) rfl ?_
 refine kN 1 rfl ?_
 refine kR ?_
 refine kM 1 rfl ?_
 refine AOps_q 16 _ rfl rfl rfl (QOp_build _ _ [_, _] [0, 1] [iD 1, iD r1.1] _ (colD Col.zero) (colD (⟨1, r1.1, B136.zero⟩ : Col)) [(0, 1), (1, 1), (2, 136)] rfl rfl Tryz.underlying26 (zero_of Tryz.typeInfo26 rfl) (fun w => by simp [Tryz.sizeOf2, Tryz.sizeOf2, Tryz.sizeOf24]) rfl (by rfl) (by rfl) (allc (ok1 rfl) (allc (ok1 rfl) (fun _ h => nomatch h)))) ?_
 refine AOps_alloc 6 _ _ (colD Col.zero) (zero_of Tryz.typeInfo26 rfl) (by rfl) rfl rfl rfl rfl ?_
 refine AOps_store _ _ _ _ _ _ (colD _) _ _ rfl rfl rfl rfl rfl rfl rfl (colD_one _) (by rw [colD_length]; exact Tryz.sizeOf26) (by rw [colD_length, colD_length]; decide) (colD_whole _ _) ?_
 refine AOps_nil ?_
 refine kB (fun s13 => [(2, .ptr 1 0), (5, .d (.sl none (intsD r2.1))), (6, .ptr 2 0)]) (fun s13 => [.box (srcD s13.1), .box (colD Col.zero), .box (colD s13.2)]) h (fun s13 h => ?_) (fun s13 h => ?_)
 ·refine kR ?_
  refine kM 1 rfl ?_
  obtain ⟨r3, hr3, h⟩ := bindO h
  refine kC [0] 18 (iV r3.1) [.box (srcD r3.2), .box (colD Col.zero), .gone, .vec 0 (intsD r2.1), .box (colD (⟨1, r1.1, B136.zero⟩ : Col))] rfl Tryz.call51 rfl rfl (spec_l01Next_ac r2.2 8 _ hr3) rfl ?_
  refine kN 1 rfl ?_
  refine ACode_block ?_
  refine ACode_loopW (fun k0 E H => ∃ (x4 : Int) (x5 : Src) (x6 : Col), E = [(0, .ptr 0 0), (2, .ptr 1 0), (5, .d (.sl none (intsD r2.1))), (6, .ptr 2 0), (7, iV x4)] ∧ H = [.box (srcD x5), .box (colD Col.zero), .box (colD x6)] ∧ spec_l05Grown_l0 k r2 k0 x4 x5 x6 = some s13) k _ _ (Weak_trans (Weak_frz [5, 14] [] 3 0 _ (allc (rfl) (allc (rfl) (fun _ h => nomatch h))) (fun _ h => nomatch h) rfl) (Weak_keep 1 hm [0, 2, 5, 6, 7] [1, 4] _ _ rfl rfl rfl)) ⟨_, _, _, rfl, rfl, h⟩ ?_
  clear h
  rintro k0 E H ⟨x4, x5, x6, rfl, rfl, h⟩
  cases k0 with
  | zero => cases (show (none : Option (Src × Col)) = some _ from h)
  | succ k0 =>
   rw [spec_l05Grown_l0] at h
   refine ACode_seq ?_
   refine kR ?_
   refine kM 1 rfl ?_
   refine AOps_q 20 _ rfl rfl rfl (QOp_gtr _ _ _ _ _ _ _ rfl rfl rfl) ?_
   refine AOps_nil ?_
   refine kI h rfl (fun h _ => ?_) (fun h _ => ?_)
   ·refine ACode_skip ?_
    refine ACode_seq ?_
    refine ACode_block ?_
    refine kR ?_
    refine AOps_q 23 _ rfl rfl rfl (QOp_loadN_ptr _ _ _ _ _ _ _ rfl Tryz.isAgg26 Tryz.sizeOf26 rfl rfl (colD_all _) (colD_length _)) ?_
    refine kM 1 rfl ?_
    obtain ⟨r8, hr8, h⟩ := bindO h
    refine kC [] 25 (.d (.sl none (rowsD r8))) [.box (srcD x5), .box (colD Col.zero), .box (colD x6)] rfl Tryz.call36 rfl rfl (spec_l05All_ac k x6 r2.1 60 _ hr8) rfl ?_
    refine kN 1 rfl ?_
    refine ACode_seq ?_
    refine kR ?_
    refine kM 1 rfl ?_
    refine AOps_q 27 _ rfl rfl rfl (QOp_len_sl _ _ _ _ _ _ _ (rowsD_length _) rfl rfl rfl rfl Tryz.underlying34 rfl) ?_
    refine AOps_q 28 _ rfl rfl rfl (QOp_eql _ _ _ _ _ _ _ rfl rfl rfl) ?_
    refine AOps_nil ?_
    refine kI h rfl (fun h _ => ?_) (fun h _ => ?_)
    ·refine ACode_exit ?_
     cases h
     exact Weak_keep 1 hm [2, 5, 6] [1, 2] _ _ rfl rfl rfl
    refine ACode_skip ?_
    obtain ⟨r10, hr10, h⟩ := bindO h
    obtain ⟨hc11, h⟩ := guardO h
    obtain ⟨r12, hr12, h⟩ := bindO h
    refine ACode_reg [(0, .ptr 0 0), (2, .ptr 1 0), (5, .d (.sl none (intsD r2.1))), (6, .ptr 2 0), (7, iV x4)] [.box (srcD r10.2), .box (colD Col.zero), .box (colD r12)] ?_ ?_
    ·refine ACode_anyU mixed ?_
     refine AU_cut 2 #[true, true, true, true, true, true, true, true, false, false] [(0, .ptr 0 0), (2, .ptr 1 0), (5, .d (.sl none (intsD r2.1))), (6, .ptr 2 0), (7, iV x4), (29, .d (.agg (colD x6))), (36, .d (.sl none (intsD (r8.getD r10.1.toNat []))))] [.box (srcD r10.2), .box (colD Col.zero), .box (colD x6)] ?_ (fun hS0 => ?_)
     ·refine AU_one 8 (by kernel_rfl) rfl rfl ?_
      refine kC [] 37 (.d (.agg (colD r12))) [.box (srcD r10.2), .box (colD Col.zero), .box (colD x6)] rfl Tryz.call56 rfl rfl (spec_l01Put_ac k x6 (r8.getD r10.1.toNat []) _ hr12) rfl ?_
      refine AOps_nil ?_
      refine AU_one 9 (by kernel_rfl) rfl rfl ?_
      refine AOps_store _ _ _ _ _ _ (colD _) _ _ rfl rfl rfl rfl rfl rfl rfl (colD_one _) (by rw [colD_length]; exact Tryz.sizeOf26) (by rw [colD_length, colD_length]; decide) (colD_whole _ _) ?_
      refine AOps_nil ?_
      refine AU_done (by kernel_rfl) ?_
      exact ⟨rfl, Weak_keep 1 hm [0, 2, 5, 6, 7] [1, 2] _ _ rfl rfl rfl⟩
     refine AU_cut 3 #[true, true, true, true, true, true, true, false, false, false] [(0, .ptr 0 0), (2, .ptr 1 0), (5, .d (.sl none (intsD r2.1))), (6, .ptr 2 0), (7, iV x4), (29, .d (.agg (colD x6))), (35, .d (.pv (rowsD r8) r10.1.toNat))] [.box (srcD r10.2), .box (colD Col.zero), .box (colD x6)] ?_ (fun hS1 => ?_)
     ·refine AU_one 7 (by kernel_rfl) rfl rfl ?_
      refine AOps_q 36 _ rfl rfl rfl (QOp_load_pv _ _ _ _ _ rfl Tryz.isAgg27 rfl (rowsD_get _ _ [] (by omega))) ?_
      refine AOps_nil ?_
      exact AU_to (by kernel_rfl) hS0 (Weak_keep 1 hm [0, 2, 5, 6, 7, 29, 36] [1, 2] _ _ rfl rfl rfl)
     refine AU_u 1 30 _ rfl (by kernel_rfl) rfl rfl rfl (UOp_move _ _ rfl rfl) ?_
     refine AU_u 2 31 _ rfl (by kernel_rfl) rfl rfl rfl (UOp_move _ _ rfl rfl) ?_
     refine AU_u 3 32 _ rfl (by kernel_rfl) rfl rfl rfl (UOp_move _ _ rfl rfl) ?_
     refine AU_u 4 33 _ rfl (by kernel_rfl) rfl rfl rfl (UOp_len_sl _ _ _ _ _ _ _ (rowsD_length _) rfl rfl rfl rfl Tryz.underlying34 rfl) ?_
     refine AU_all [0, 5] (by kernel_rfl) rfl (allc ?_ (allc ?_ (fun _ h => nomatch h)))
     ·refine US_of 0 rfl rfl ?_
      refine AOps_q 29 _ rfl rfl rfl (QOp_loadN_ptr _ _ _ _ _ _ _ rfl Tryz.isAgg26 Tryz.sizeOf26 rfl rfl (colD_all _) (colD_length _)) ?_
      refine AOps_nil ?_
      refine AU_one 5 (by kernel_rfl) rfl rfl ?_
      refine kC [0] 34 (iV r10.1) [.box (srcD r10.2), .box (colD Col.zero), .box (colD x6)] rfl Tryz.call51 rfl rfl (spec_l01Next_ac x5 (r8.length : Int) _ hr10) rfl ?_
      refine AOps_nil ?_
      refine AU_u 6 35 _ rfl (by kernel_rfl) rfl rfl rfl (UOp_indexAddr_sl _ _ _ _ _ _ _ _ rfl Tryz.underlying34 Tryz.sizeOf27 hc11.1 (by rw [rowsD_length]; exact hc11.2) rfl rfl) ?_
      exact AU_to (by kernel_rfl) hS1 (Weak_keep 1 hm [0, 2, 5, 6, 7, 29, 35] [1, 2] _ _ rfl rfl rfl)
     refine US_of 5 rfl rfl ?_
     refine kC [0] 34 (iV r10.1) [.box (srcD r10.2), .box (colD Col.zero), .box (colD x6)] rfl Tryz.call51 rfl rfl (spec_l01Next_ac x5 (r8.length : Int) _ hr10) rfl ?_
     refine AOps_nil ?_
     refine AU_u 6 35 _ rfl (by kernel_rfl) rfl rfl rfl (UOp_indexAddr_sl _ _ _ _ _ _ _ _ rfl Tryz.underlying34 Tryz.sizeOf27 hc11.1 (by rw [rowsD_length]; exact hc11.2) rfl rfl) ?_
     refine AU_all [0, 7] (by kernel_rfl) rfl (allc ?_ (allc ?_ (fun _ h => nomatch h)))
     ·refine US_of 0 rfl rfl ?_
      refine AOps_q 29 _ rfl rfl rfl (QOp_loadN_ptr _ _ _ _ _ _ _ rfl Tryz.isAgg26 Tryz.sizeOf26 rfl rfl (colD_all _) (colD_length _)) ?_
      refine AOps_nil ?_
      exact AU_to (by kernel_rfl) hS1 (Weak_keep 1 hm [0, 2, 5, 6, 7, 29, 35] [1, 2] _ _ rfl rfl rfl)
     refine US_of 7 rfl rfl ?_
     refine AOps_q 36 _ rfl rfl rfl (QOp_load_pv _ _ _ _ _ rfl Tryz.isAgg27 rfl (rowsD_get _ _ [] (by omega))) ?_
     refine AOps_nil ?_
     refine AU_one 0 (by kernel_rfl) rfl rfl ?_
     refine AOps_q 29 _ rfl rfl rfl (QOp_loadN_ptr _ _ _ _ _ _ _ rfl Tryz.isAgg26 Tryz.sizeOf26 rfl rfl (colD_all _) (colD_length _)) ?_
     refine AOps_nil ?_
     exact AU_to (by kernel_rfl) hS0 (Weak_keep 1 hm [0, 2, 5, 6, 7, 29, 36] [1, 2] _ _ rfl rfl rfl)
    refine (ACode_region ?_)
    refine kM 1 rfl ?_
    refine AOps_q 22 _ rfl rfl rfl (QOp_sub _ _ _ _ _ _ _ rfl rfl rfl) ?_
    refine kN 1 rfl ?_
    exact ⟨k0, _, _, Nat.lt_succ_self _, Weak_keep 1 hm [0, 2, 5, 6, 7] [1, 2] _ _ rfl rfl rfl, _, _, _, rfl, rfl, h⟩
   refine ACode_exit ?_
   cases h
   exact Weak_keep 1 hm [2, 5, 6] [1, 2] _ _ rfl rfl rfl
 refine kR ?_
 refine AOps_q 38 _ rfl rfl rfl (QOp_loadN_ptr _ _ _ _ _ _ _ rfl Tryz.isAgg26 Tryz.sizeOf26 rfl rfl (colD_all _) (colD_length _)) ?_
 refine kM 1 rfl ?_
 refine AOps_store _ _ _ _ _ _ (colD _) _ _ rfl rfl rfl rfl rfl rfl rfl (colD_one _) (by rw [colD_length]; exact Tryz.sizeOf26) (by rw [colD_length, colD_length]; decide) (colD_whole _ _) ?_
 refine kN 1 rfl ?_
 refine ACode_ret ?_
 cases h
 exact ⟨_, _, fun r a w h => ⟨r, h⟩, _, _, [], _, (.cons (ResV_agg _ _ _ _ _ _ Tryz.isAgg26 Tryz.sizeOf26 rfl rfl (colD_take _) (colD_length _)) (.cons (ResV_tmp _ _ rfl) .nil)), rfl, rfl, rfl, rfl, rfl⟩

-- loop.example/g01362/spec.l01Names
def spec_l01Names : List ByteArray :=
 [(⟨#[112, 101, 110, 116, 97, 103, 111, 110]⟩ : ByteArray), (⟨#[101, 105, 103, 104, 116]⟩ : ByteArray), (⟨#[116, 104, 105, 114, 116, 101, 101, 110]⟩ : ByteArray), (⟨#[115, 101, 118, 101, 110, 116, 101, 101, 110]⟩ : ByteArray), (⟨#[115, 105, 120, 116, 101, 101, 110]⟩ : ByteArray)]
set_option maxRecDepth 100000 in
theorem spec_l01Names_ac : AC Tryz.prog 81 [] [] (fun res H' => res = [.vec 0 0] ∧ H' = [.vec 0 (stsD (spec_l01Names))]) := by
 refine AC_of_body true Tryz.func81 rfl Tryz.ntmps81 (rvs := [.tmp 0]) rfl rfl (fun G hG => ?_)
 have hm : G.H.length = 0 := by rw [hG]; rfl
 have hz : zeroG G.H = true := by rw [hG]; rfl
 obtain ⟨r, h⟩ : ∃ r, spec_l01Names = r := ⟨_, rfl⟩
 rw [h]
 unfold spec_l01Names at h
 refine kR ?_
 refine kN 1 rfl ?_
 refine kR ?_
 refine AOps_buildSlice 1 _ _ _ [_, _, _, _, _] (stsD ([(⟨#[112, 101, 110, 116, 97, 103, 111, 110]⟩ : ByteArray), (⟨#[101, 105, 103, 104, 116]⟩ : ByteArray), (⟨#[116, 104, 105, 114, 116, 101, 101, 110]⟩ : ByteArray), (⟨#[115, 101, 118, 101, 110, 116, 101, 101, 110]⟩ : ByteArray), (⟨#[115, 105, 120, 116, 101, 101, 110]⟩ : ByteArray)])) _ rfl rfl rfl rfl rfl (by decide) Tryz.underlying89 Tryz.sizeOf9 (zero_of Tryz.typeInfo9 rfl) rfl rfl (stsD_one _) ?_
 refine kN 1 rfl ?_
 refine ACode_ret ?_
 cases h
 exact ⟨_, _, Weak_reset 0 hm hz [0] _ _ rfl rfl, _, _, [0], _, (.cons (ResV_tmp _ _ rfl) .nil), rfl, rfl, rfl, rfl, rfl⟩

-- loop.example/g01362/spec.l01Circle
def spec_l01Circle_l2 (p1 : List Int) (x1 : Int) (x4 : Int) : Nat → UInt8 → Int → Option (UInt8)
 | 0, _, _ => none
 | k2 + 1, x7, x8 => (if decide (x8 < (p1.length : Int)) then ((if 0 ≤ x8 ∧ x8 < (p1.length : Int) then (if decide ((p1.getD x8.toNat 0) = w64 (x1 - x4)) then some (0 : UInt8) else some x7) else none) : Option (UInt8)).bind fun s12 => spec_l01Circle_l2 p1 x1 x4 k2 s12 (w64 (x8 + 1)) else some x7)
def spec_l01Circle_l1 (k : Nat) (p1 : List Int) (x1 : Int) : Nat → Int → Col → Option (Col)
 | 0, _, _ => none
 | k1 + 1, x4, x5 => (if decide (x4 < x1) then ((spec_l01Circle_l2 p1 x1 x4 k (1 : UInt8) 0 : Option (UInt8)).bind fun s13 => (if 0 ≤ (spec_l01Edge x4 x1) ∧ (spec_l01Edge x4 x1) < 136 then some (x5.set ((spec_l01Edge x4 x1).toNat) s13) else none) : Option (Col)).bind fun s16 => spec_l01Circle_l1 k p1 x1 k1 (w64 (x4 + 1)) s16 else some x5)
def spec_l01Circle_l0 (k : Nat) (p0 : Int) (p1 : List Int) : Nat → Int → Col → Option (Col)
 | 0, _, _ => none
 | k0 + 1, x1, x2 => (if decide (x1 < p0) then (spec_l01Circle_l1 k p1 x1 k 0 x2 : Option (Col)).bind fun s17 => spec_l01Circle_l0 k p0 p1 k0 (w64 (x1 + 1)) s17 else some x2)
def spec_l01Circle (k : Nat) (p0 : Int) (p1 : List Int) : Option (Col) :=
 (spec_l01Circle_l0 k p0 p1 k 1 (⟨p0, 2, B136.zero⟩ : Col) : Option (Col)).bind fun s18 => some s18
set_option maxRecDepth 100000 in
theorem spec_l01Circle_ac (k : Nat) (p0 : Int) (p1 : List Int) (r : Col) (h : spec_l01Circle k p0 p1 = some r) : AC Tryz.prog 103 [iV p0, .d (.sl none (intsD p1))] [] (fun res H' => res = [.d (.agg (colD r))] ∧ H' = []) := by
 refine AC_of_body true Tryz.func103 rfl Tryz.ntmps103 (rvs := [.cell 4 26]) rfl rfl (fun G hG => ?_)
 have hm : G.H.length = 0 := by rw [hG]; rfl
 have hz : zeroG G.H = true := by rw [hG]; rfl
 unfold spec_l01Circle at h
 refine kR ?_
 refine AOps_alloc 4 _ _ (colD Col.zero) (zero_of Tryz.typeInfo26 rfl) (by rfl) rfl rfl rfl rfl ?_
 refine AOps_nil ?_
 refine kR ?_
 refine kM 1 rfl ?_
 refine AOps_q 11 _ rfl rfl rfl (QOp_build _ _ [_, _] [0, 1] [iD p0, iD 2] _ (colD Col.zero) (colD (⟨p0, 2, B136.zero⟩ : Col)) [(0, 1), (1, 1), (2, 136)] rfl rfl Tryz.underlying26 (zero_of Tryz.typeInfo26 rfl) (fun w => by simp [Tryz.sizeOf2, Tryz.sizeOf2, Tryz.sizeOf24]) rfl (by rfl) (by rfl) (allc (ok1 rfl) (allc (ok1 rfl) (fun _ h => nomatch h)))) ?_
 refine AOps_alloc 5 _ _ (colD Col.zero) (zero_of Tryz.typeInfo26 rfl) (by rfl) rfl rfl rfl rfl ?_
 refine AOps_store _ _ _ _ _ _ (colD _) _ _ rfl rfl rfl rfl rfl rfl rfl (colD_one _) (by rw [colD_length]; exact Tryz.sizeOf26) (by rw [colD_length, colD_length]; decide) (colD_whole _ _) ?_
 refine AOps_nil ?_
 refine kB (fun s18 => [(4, .ptr 0 0), (5, .ptr 1 0)]) (fun s18 => [.box (colD Col.zero), .box (colD s18)]) h (fun s18 h => ?_) (fun s18 h => ?_)
 ·refine kR ?_
  refine kN 1 rfl ?_
  refine ACode_block ?_
  refine ACode_loopW (fun k0 E H => ∃ (x1 : Int) (x2 : Col), E = [(0, iV p0), (1, .d (.sl none (intsD p1))), (4, .ptr 0 0), (5, .ptr 1 0), (6, iV x1)] ∧ H = [.box (colD Col.zero), .box (colD x2)] ∧ spec_l01Circle_l0 k p0 p1 k0 x1 x2 = some s18) k _ _ (Weak_keep 0 hm [0, 1, 4, 5, 6] [0, 1] _ _ rfl rfl rfl) ⟨_, _, rfl, rfl, h⟩ ?_
  clear h
  rintro k0 E H ⟨x1, x2, rfl, rfl, h⟩
  cases k0 with
  | zero => cases (show (none : Option (Col)) = some _ from h)
  | succ k0 =>
   rw [spec_l01Circle_l0] at h
   refine ACode_seq ?_
   refine kR ?_
   refine kM 2 rfl ?_
   refine AOps_q 14 _ rfl rfl rfl (QOp_lss _ _ _ _ _ _ _ rfl rfl rfl) ?_
   refine AOps_nil ?_
   refine kI h rfl (fun h _ => ?_) (fun h _ => ?_)
   ·refine ACode_skip ?_
    refine kB (fun s17 => [(0, iV p0), (1, .d (.sl none (intsD p1))), (4, .ptr 0 0), (5, .ptr 1 0), (6, iV x1)]) (fun s17 => [.box (colD Col.zero), .box (colD s17)]) h (fun s17 h => ?_) (fun s17 h => ?_)
    ·refine ACode_block ?_
     refine kR ?_
     refine kN 1 rfl ?_
     refine ACode_block ?_
     refine ACode_loopW (fun k1 E H => ∃ (x4 : Int) (x5 : Col), E = [(0, iV p0), (1, .d (.sl none (intsD p1))), (4, .ptr 0 0), (5, .ptr 1 0), (6, iV x1), (7, iV x4)] ∧ H = [.box (colD Col.zero), .box (colD x5)] ∧ spec_l01Circle_l1 k p1 x1 k1 x4 x5 = some s17) k _ _ (Weak_keep 0 hm [0, 1, 4, 5, 6, 7] [0, 1] _ _ rfl rfl rfl) ⟨_, _, rfl, rfl, h⟩ ?_
     clear h
     rintro k1 E H ⟨x4, x5, rfl, rfl, h⟩
     cases k1 with
     | zero => cases (show (none : Option (Col)) = some _ from h)
     | succ k1 =>
      rw [spec_l01Circle_l1] at h
      refine ACode_seq ?_
      refine kR ?_
      refine kM 2 rfl ?_
      refine AOps_q 19 _ rfl rfl rfl (QOp_lss _ _ _ _ _ _ _ rfl rfl rfl) ?_
      refine AOps_nil ?_
      refine kI h rfl (fun h _ => ?_) (fun h _ => ?_)
      ·refine ACode_skip ?_
       refine kB (fun s16 => [(0, iV p0), (1, .d (.sl none (intsD p1))), (4, .ptr 0 0), (5, .ptr 1 0), (6, iV x1), (7, iV x4)]) (fun s16 => [.box (colD Col.zero), .box (colD s16)]) h (fun s16 h => ?_) (fun s16 h => ?_)
       ·refine ACode_block ?_
        refine kR ?_
        refine kN 1 rfl ?_
        refine kB (fun s13 => [(0, iV p0), (1, .d (.sl none (intsD p1))), (4, .ptr 0 0), (5, .ptr 1 0), (6, iV x1), (7, iV x4), (8, .d (uD s13))]) (fun s13 => [.box (colD Col.zero), .box (colD x5)]) h (fun s13 h => ?_) (fun s13 h => ?_)
        ·refine kR ?_
         refine kN 1 rfl ?_
         refine ACode_block ?_
         refine ACode_loopW (fun k2 E H => ∃ (x7 : UInt8) (x8 : Int), E = [(0, iV p0), (1, .d (.sl none (intsD p1))), (4, .ptr 0 0), (5, .ptr 1 0), (6, iV x1), (7, iV x4), (8, .d (uD x7)), (9, iV x8)] ∧ H = [.box (colD Col.zero), .box (colD x5)] ∧ spec_l01Circle_l2 p1 x1 x4 k2 x7 x8 = some s13) k _ _ (Weak_keep 0 hm [0, 1, 4, 5, 6, 7, 8, 9] [0, 1] _ _ rfl rfl rfl) ⟨_, _, rfl, rfl, h⟩ ?_
         clear h
         rintro k2 E H ⟨x7, x8, rfl, rfl, h⟩
         cases k2 with
         | zero => cases (show (none : Option (UInt8)) = some _ from h)
         | succ k2 =>
          rw [spec_l01Circle_l2] at h
          refine ACode_seq ?_
          refine kR ?_
          refine kM 2 rfl ?_
          refine AOps_q 24 _ rfl rfl rfl (QOp_len_sl _ _ _ _ _ _ _ (intsD_length _) rfl rfl rfl rfl Tryz.underlying27 rfl) ?_
          refine AOps_q 25 _ rfl rfl rfl (QOp_lss _ _ _ _ _ _ _ rfl rfl rfl) ?_
          refine AOps_nil ?_
          refine kI h rfl (fun h _ => ?_) (fun h _ => ?_)
          ·refine ACode_skip ?_
           refine kB (fun s12 => [(0, iV p0), (1, .d (.sl none (intsD p1))), (4, .ptr 0 0), (5, .ptr 1 0), (6, iV x1), (7, iV x4), (8, .d (uD s12)), (9, iV x8)]) (fun s12 => [.box (colD Col.zero), .box (colD x5)]) h (fun s12 h => ?_) (fun s12 h => ?_)
           ·refine ACode_block ?_
            refine kR ?_
            refine kM 2 rfl ?_
            obtain ⟨hc10, h⟩ := guardO h
            refine AOps_q 30 _ rfl rfl rfl (QOp_indexAddr_sl _ _ _ _ _ _ _ _ rfl Tryz.underlying27 Tryz.sizeOf2 hc10.1 (by rw [intsD_length]; exact hc10.2) rfl rfl) ?_
            refine AOps_q 31 _ rfl rfl rfl (QOp_load_pv _ _ _ _ _ rfl Tryz.isAgg2 rfl (intsD_get _ _ 0 (by omega))) ?_
            refine kM 2 rfl ?_
            refine AOps_q 34 _ rfl rfl rfl (QOp_sub _ _ _ _ _ _ _ rfl rfl rfl) ?_
            refine AOps_q 35 _ rfl rfl rfl (QOp_eql _ _ _ _ _ _ _ rfl rfl rfl) ?_
            refine AOps_nil ?_
            refine kI h rfl (fun h _ => ?_) (fun h _ => ?_)
            ·refine (ACode_region ?_)
             refine kN 1 rfl ?_
             cases h
             exact Weak_keep 0 hm [0, 1, 4, 5, 6, 7, 8, 9] [0, 1] _ _ rfl rfl rfl
            refine ACode_skip ?_
            cases h
            exact Weak_keep 0 hm [0, 1, 4, 5, 6, 7, 8, 9] [0, 1] _ _ rfl rfl rfl
           refine (ACode_region ?_)
           refine kM 1 rfl ?_
           refine AOps_q 27 _ rfl rfl rfl (QOp_add _ _ _ _ _ _ _ rfl rfl rfl) ?_
           refine kN 1 rfl ?_
           exact ⟨k2, _, _, Nat.lt_succ_self _, Weak_keep 0 hm [0, 1, 4, 5, 6, 7, 8, 9] [0, 1] _ _ rfl rfl rfl, _, _, rfl, rfl, h⟩
          refine ACode_exit ?_
          cases h
          exact Weak_keep 0 hm [0, 1, 4, 5, 6, 7, 8] [0, 1] _ _ rfl rfl rfl
        refine (ACode_region ?_)
        refine kM 2 rfl ?_
        refine kC [] 38 (iV (spec_l01Edge x4 x1)) [.box (colD Col.zero), .box (colD x5)] rfl Tryz.call85 rfl rfl (spec_l01Edge_ac x4 x1) rfl ?_
        refine kM 1 rfl ?_
        refine AOps_q 40 _ rfl rfl rfl (QOp_fieldAddr_ptr _ _ _ _ _ _ 2 _ _ rfl Tryz.underlying26 rfl _ Tryz.sizeOf24 rfl rfl rfl rfl) ?_
        obtain ⟨hc15, h⟩ := guardO h
        refine AOps_q 41 _ rfl rfl rfl (QOp_indexAddrA_ptr _ _ _ _ _ _ _ _ _ _ rfl Tryz.underlying24 Tryz.sizeOf5 hc15.1 hc15.2 rfl rfl rfl rfl) ?_
        refine AOps_store1 _ _ _ _ _ _ (colD (x5.set ((spec_l01Edge x4 x1).toNat) s13)) _ rfl rfl rfl rfl rfl rfl rfl Tryz.sizeOf5 (by rw [colD_length]; omega) (colD_setE x5 ((spec_l01Edge x4 x1).toNat) s13) ?_
        refine AOps_nil ?_
        cases h
        exact Weak_keep 0 hm [0, 1, 4, 5, 6, 7] [0, 1] _ _ rfl rfl rfl
       refine (ACode_region ?_)
       refine kM 1 rfl ?_
       refine AOps_q 21 _ rfl rfl rfl (QOp_add _ _ _ _ _ _ _ rfl rfl rfl) ?_
       refine kN 1 rfl ?_
       exact ⟨k1, _, _, Nat.lt_succ_self _, Weak_keep 0 hm [0, 1, 4, 5, 6, 7] [0, 1] _ _ rfl rfl rfl, _, _, rfl, rfl, h⟩
      refine ACode_exit ?_
      cases h
      exact Weak_keep 0 hm [0, 1, 4, 5, 6] [0, 1] _ _ rfl rfl rfl
    refine (ACode_region ?_)
    refine kM 1 rfl ?_
    refine AOps_q 16 _ rfl rfl rfl (QOp_add _ _ _ _ _ _ _ rfl rfl rfl) ?_
    refine kN 1 rfl ?_
    exact ⟨k0, _, _, Nat.lt_succ_self _, Weak_keep 0 hm [0, 1, 4, 5, 6] [0, 1] _ _ rfl rfl rfl, _, _, rfl, rfl, h⟩
   refine ACode_exit ?_
   cases h
   exact Weak_keep 0 hm [4, 5] [0, 1] _ _ rfl rfl rfl
 refine kR ?_
 refine AOps_q 42 _ rfl rfl rfl (QOp_loadN_ptr _ _ _ _ _ _ _ rfl Tryz.isAgg26 Tryz.sizeOf26 rfl rfl (colD_all _) (colD_length _)) ?_
 refine AOps_store _ _ _ _ _ _ (colD _) _ _ rfl rfl rfl rfl rfl rfl rfl (colD_one _) (by rw [colD_length]; exact Tryz.sizeOf26) (by rw [colD_length, colD_length]; decide) (colD_whole _ _) ?_
 refine AOps_nil ?_
 refine ACode_ret ?_
 cases h
 exact ⟨_, _, fun r a w h => ⟨r, h⟩, _, _, [], _, (.cons (ResV_agg _ _ _ _ _ _ Tryz.isAgg26 Tryz.sizeOf26 rfl rfl (colD_take _) (colD_length _)) .nil), rfl, rfl, rfl, rfl, rfl⟩

-- loop.example/g01362/spec.l01Named
def spec_l01Named_l1 (x10 : Int) : Nat → Int → Col → Option (Col)
 | 0, _, _ => none
 | k1 + 1, x13, x14 => (if decide (x13 < x10) then (if 0 ≤ bXor .i64 x13 x10 ∧ bXor .i64 x13 x10 < (([0, 0, 1, 1, 2, 2, 2, 1, 0, 2, 0, 1, 0, 1, 2, 0]).length : Int) then (if 0 ≤ (spec_l01Edge x13 x10) ∧ (spec_l01Edge x13 x10) < 136 then spec_l01Named_l1 x10 k1 (w64 (x13 + 1)) (x14.set ((spec_l01Edge x13 x10).toNat) (([0, 0, 1, 1, 2, 2, 2, 1, 0, 2, 0, 1, 0, 1, 2, 0]).getD (bXor .i64 x13 x10).toNat 0)) else none) else none) else some x14)
def spec_l01Named_l0 (k : Nat) : Nat → Int → Col → Option (Col)
 | 0, _, _ => none
 | k0 + 1, x10, x11 => (if decide (x10 < 16) then (spec_l01Named_l1 x10 k 0 x11 : Option (Col)).bind fun s19 => spec_l01Named_l0 k k0 (w64 (x10 + 1)) s19 else some x11)
def spec_l01Named (k : Nat) (p0 : ByteArray) : Option (Col × Bool) :=
 ((if (p0 == (⟨#[112, 101, 110, 116, 97, 103, 111, 110]⟩ : ByteArray)) then (spec_l01Circle k 5 ([1, 4])).bind fun r2 => some (.inr (r2, true)) else (if (p0 == (⟨#[101, 105, 103, 104, 116]⟩ : ByteArray)) then (spec_l01Circle k 8 ([1, 4, 7])).bind fun r4 => some (.inr (r4, true)) else (if (p0 == (⟨#[116, 104, 105, 114, 116, 101, 101, 110]⟩ : ByteArray)) then (spec_l01Circle k 13 ([1, 5, 8, 12])).bind fun r6 => some (.inr (r6, true)) else (if (p0 == (⟨#[115, 101, 118, 101, 110, 116, 101, 101, 110]⟩ : ByteArray)) then (spec_l01Circle k 17 ([1, 2, 4, 8, 9, 13, 15, 16])).bind fun r8 => some (.inr (r8, true)) else (if (p0 == (⟨#[115, 105, 120, 116, 101, 101, 110]⟩ : ByteArray)) then (spec_l01Named_l0 k k 1 (⟨16, 3, B136.zero⟩ : Col) : Option (Col)).bind fun s20 => some (.inr (s20, true)) else some (.inl ())))))) : Option (Sum (Unit) (Col × Bool))).bind fun os21 => (match os21 with | .inl s21 => some ((⟨0, 0, B136.zero⟩ : Col), false) | .inr rr => some rr)
set_option maxRecDepth 100000 in
theorem spec_l01Named_ac (k : Nat) (p0 : ByteArray) (r : Col × Bool) (h : spec_l01Named k p0 = some r) : AC Tryz.prog 82 [.d (.s (.string p0))] [] (fun res H' => res = [.d (.agg (colD r.1)), bV r.2] ∧ H' = []) := by
 refine AC_of_body true Tryz.func82 rfl Tryz.ntmps82 (rvs := [.cell 2 26, .tmp 3]) rfl rfl (fun G hG => ?_)
 have hm : G.H.length = 0 := by rw [hG]; rfl
 have hz : zeroG G.H = true := by rw [hG]; rfl
 unfold spec_l01Named at h
 refine kR ?_
 refine AOps_alloc 2 _ _ (colD Col.zero) (zero_of Tryz.typeInfo26 rfl) (by rfl) rfl rfl rfl rfl ?_
 refine kN 1 rfl ?_
 refine kO (fun s21 => [(2, .ptr 0 0)]) (fun s21 => [.box (colD Col.zero)]) h (fun os21 h hks21 => ?_) (fun s21 h => ?_)
 ·refine kR ?_
  refine kN 1 rfl ?_
  refine ACode_block ?_
  refine kR ?_
  refine AOps_q 10 _ rfl rfl rfl (QOp_seq _ _ _ _ _ _ rfl rfl rfl Tryz.underlying9) ?_
  refine kN 1 rfl ?_
  refine kI h rfl (fun h _ => ?_) (fun h _ => ?_)
  ·refine kR ?_
   refine AOps_buildSlice 11 _ _ _ [_, _] (intsD ([1, 4])) _ rfl rfl rfl rfl rfl (by decide) Tryz.underlying27 Tryz.sizeOf2 (zero_of Tryz.typeInfo2 rfl) rfl rfl (intsD_one _) ?_
   obtain ⟨r2, hr2, h⟩ := bindO h
   refine AOps_callL [] 12 _ _ _ _ _ _ _ _ _ _ rfl rfl rfl rfl rfl rfl rfl Tryz.call103 rfl (nodupB_sound _ rfl) rfl rfl rfl (spec_l01Circle_ac k 5 ([1, 4]) _ hr2) ?_
   rintro _ _ ⟨rfl, rfl⟩
   refine ⟨(fun _ h => nomatch h), (allc (flat_agg (colD_flat _)) (fun _ h => nomatch h)), AOps_as 12 (v' := .d (.agg (colD r2))) (H' := [.box (colD Col.zero), .vec 0 (intsD ([1, 4]))]) rfl rfl ?_⟩
   refine AOps_store _ _ _ _ _ _ (colD _) _ _ rfl rfl rfl rfl rfl rfl rfl (colD_one _) (by rw [colD_length]; exact Tryz.sizeOf26) (by rw [colD_length, colD_length]; decide) (colD_whole _ _) ?_
   refine kN 1 rfl ?_
   refine ACode_ret ?_
   cases h
   have h := hks21
   cases h
   exact ⟨_, _, fun r a w h => ⟨r, h⟩, _, _, [], _, (.cons (ResV_agg _ _ _ _ _ _ Tryz.isAgg26 Tryz.sizeOf26 rfl rfl (colD_take _) (colD_length _)) (.cons (ResV_tmp _ _ rfl) .nil)), rfl, rfl, rfl, rfl, rfl⟩
  refine kR ?_
  refine AOps_q 14 _ rfl rfl rfl (QOp_seq _ _ _ _ _ _ rfl rfl rfl Tryz.underlying9) ?_
  refine kN 1 rfl ?_
  refine kI h rfl (fun h _ => ?_) (fun h _ => ?_)
  ·refine kR ?_
   refine AOps_buildSlice 15 _ _ _ [_, _, _] (intsD ([1, 4, 7])) _ rfl rfl rfl rfl rfl (by decide) Tryz.underlying27 Tryz.sizeOf2 (zero_of Tryz.typeInfo2 rfl) rfl rfl (intsD_one _) ?_
   obtain ⟨r4, hr4, h⟩ := bindO h
   refine AOps_callL [] 16 _ _ _ _ _ _ _ _ _ _ rfl rfl rfl rfl rfl rfl rfl Tryz.call103 rfl (nodupB_sound _ rfl) rfl rfl rfl (spec_l01Circle_ac k 8 ([1, 4, 7]) _ hr4) ?_
   rintro _ _ ⟨rfl, rfl⟩
   refine ⟨(fun _ h => nomatch h), (allc (flat_agg (colD_flat _)) (fun _ h => nomatch h)), AOps_as 16 (v' := .d (.agg (colD r4))) (H' := [.box (colD Col.zero), .vec 0 (intsD ([1, 4, 7]))]) rfl rfl ?_⟩
   refine AOps_store _ _ _ _ _ _ (colD _) _ _ rfl rfl rfl rfl rfl rfl rfl (colD_one _) (by rw [colD_length]; exact Tryz.sizeOf26) (by rw [colD_length, colD_length]; decide) (colD_whole _ _) ?_
   refine kN 1 rfl ?_
   refine ACode_ret ?_
   cases h
   have h := hks21
   cases h
   exact ⟨_, _, fun r a w h => ⟨r, h⟩, _, _, [], _, (.cons (ResV_agg _ _ _ _ _ _ Tryz.isAgg26 Tryz.sizeOf26 rfl rfl (colD_take _) (colD_length _)) (.cons (ResV_tmp _ _ rfl) .nil)), rfl, rfl, rfl, rfl, rfl⟩
  refine kR ?_
  refine AOps_q 18 _ rfl rfl rfl (QOp_seq _ _ _ _ _ _ rfl rfl rfl Tryz.underlying9) ?_
  refine kN 1 rfl ?_
  refine kI h rfl (fun h _ => ?_) (fun h _ => ?_)
  ·refine kR ?_
   refine AOps_buildSlice 19 _ _ _ [_, _, _, _] (intsD ([1, 5, 8, 12])) _ rfl rfl rfl rfl rfl (by decide) Tryz.underlying27 Tryz.sizeOf2 (zero_of Tryz.typeInfo2 rfl) rfl rfl (intsD_one _) ?_
   obtain ⟨r6, hr6, h⟩ := bindO h
   refine AOps_callL [] 20 _ _ _ _ _ _ _ _ _ _ rfl rfl rfl rfl rfl rfl rfl Tryz.call103 rfl (nodupB_sound _ rfl) rfl rfl rfl (spec_l01Circle_ac k 13 ([1, 5, 8, 12]) _ hr6) ?_
   rintro _ _ ⟨rfl, rfl⟩
   refine ⟨(fun _ h => nomatch h), (allc (flat_agg (colD_flat _)) (fun _ h => nomatch h)), AOps_as 20 (v' := .d (.agg (colD r6))) (H' := [.box (colD Col.zero), .vec 0 (intsD ([1, 5, 8, 12]))]) rfl rfl ?_⟩
   refine AOps_store _ _ _ _ _ _ (colD _) _ _ rfl rfl rfl rfl rfl rfl rfl (colD_one _) (by rw [colD_length]; exact Tryz.sizeOf26) (by rw [colD_length, colD_length]; decide) (colD_whole _ _) ?_
   refine kN 1 rfl ?_
   refine ACode_ret ?_
   cases h
   have h := hks21
   cases h
   exact ⟨_, _, fun r a w h => ⟨r, h⟩, _, _, [], _, (.cons (ResV_agg _ _ _ _ _ _ Tryz.isAgg26 Tryz.sizeOf26 rfl rfl (colD_take _) (colD_length _)) (.cons (ResV_tmp _ _ rfl) .nil)), rfl, rfl, rfl, rfl, rfl⟩
  refine kR ?_
  refine AOps_q 22 _ rfl rfl rfl (QOp_seq _ _ _ _ _ _ rfl rfl rfl Tryz.underlying9) ?_
  refine kN 1 rfl ?_
  refine kI h rfl (fun h _ => ?_) (fun h _ => ?_)
  ·refine kR ?_
   refine AOps_buildSlice 23 _ _ _ [_, _, _, _, _, _, _, _] (intsD ([1, 2, 4, 8, 9, 13, 15, 16])) _ rfl rfl rfl rfl rfl (by decide) Tryz.underlying27 Tryz.sizeOf2 (zero_of Tryz.typeInfo2 rfl) rfl rfl (intsD_one _) ?_
   obtain ⟨r8, hr8, h⟩ := bindO h
   refine AOps_callL [] 24 _ _ _ _ _ _ _ _ _ _ rfl rfl rfl rfl rfl rfl rfl Tryz.call103 rfl (nodupB_sound _ rfl) rfl rfl rfl (spec_l01Circle_ac k 17 ([1, 2, 4, 8, 9, 13, 15, 16]) _ hr8) ?_
   rintro _ _ ⟨rfl, rfl⟩
   refine ⟨(fun _ h => nomatch h), (allc (flat_agg (colD_flat _)) (fun _ h => nomatch h)), AOps_as 24 (v' := .d (.agg (colD r8))) (H' := [.box (colD Col.zero), .vec 0 (intsD ([1, 2, 4, 8, 9, 13, 15, 16]))]) rfl rfl ?_⟩
   refine AOps_store _ _ _ _ _ _ (colD _) _ _ rfl rfl rfl rfl rfl rfl rfl (colD_one _) (by rw [colD_length]; exact Tryz.sizeOf26) (by rw [colD_length, colD_length]; decide) (colD_whole _ _) ?_
   refine kN 1 rfl ?_
   refine ACode_ret ?_
   cases h
   have h := hks21
   cases h
   exact ⟨_, _, fun r a w h => ⟨r, h⟩, _, _, [], _, (.cons (ResV_agg _ _ _ _ _ _ Tryz.isAgg26 Tryz.sizeOf26 rfl rfl (colD_take _) (colD_length _)) (.cons (ResV_tmp _ _ rfl) .nil)), rfl, rfl, rfl, rfl, rfl⟩
  refine kR ?_
  refine AOps_q 26 _ rfl rfl rfl (QOp_seq _ _ _ _ _ _ rfl rfl rfl Tryz.underlying9) ?_
  refine kN 1 rfl ?_
  refine kI h rfl (fun h _ => ?_) (fun h _ => ?_)
  ·refine kR ?_
   refine AOps_buildSlice 27 _ _ _ [_, _, _, _, _, _, _, _, _, _, _, _, _, _, _, _] (bysD ([0, 0, 1, 1, 2, 2, 2, 1, 0, 2, 0, 1, 0, 1, 2, 0])) _ rfl rfl rfl rfl rfl (by decide) Tryz.underlying22 Tryz.sizeOf5 (zero_of Tryz.typeInfo5 rfl) rfl rfl (bysD_one _) ?_
   refine kN 1 rfl ?_
   refine kR ?_
   refine AOps_q 28 _ rfl rfl rfl (QOp_build _ _ [_, _] [0, 1] [iD 16, iD 3] _ (colD Col.zero) (colD (⟨16, 3, B136.zero⟩ : Col)) [(0, 1), (1, 1), (2, 136)] rfl rfl Tryz.underlying26 (zero_of Tryz.typeInfo26 rfl) (fun w => by simp [Tryz.sizeOf2, Tryz.sizeOf2, Tryz.sizeOf24]) rfl (by rfl) (by rfl) (allc (ok1 rfl) (allc (ok1 rfl) (fun _ h => nomatch h)))) ?_
   refine AOps_alloc 5 _ _ (colD Col.zero) (zero_of Tryz.typeInfo26 rfl) (by rfl) rfl rfl rfl rfl ?_
   refine AOps_store _ _ _ _ _ _ (colD _) _ _ rfl rfl rfl rfl rfl rfl rfl (colD_one _) (by rw [colD_length]; exact Tryz.sizeOf26) (by rw [colD_length, colD_length]; decide) (colD_whole _ _) ?_
   refine AOps_nil ?_
   refine kB (fun s20 => [(2, .ptr 0 0), (5, .ptr 1 0)]) (fun s20 => [.box (colD Col.zero), .box (colD s20)]) h (fun s20 h => ?_) (fun s20 h => ?_)
   ·refine kR ?_
    refine kN 1 rfl ?_
    refine ACode_block ?_
    refine ACode_loopW (fun k0 E H => ∃ (x10 : Int) (x11 : Col), E = [(2, .ptr 0 0), (4, .vec 1 0), (5, .ptr 2 0), (6, iV x10)] ∧ H = [.box (colD Col.zero), .vec 0 (bysD ([0, 0, 1, 1, 2, 2, 2, 1, 0, 2, 0, 1, 0, 1, 2, 0])), .box (colD x11)] ∧ spec_l01Named_l0 k k0 x10 x11 = some s20) k _ _ (Weak_keep 0 hm [2, 4, 5, 6] [0, 1, 2] _ _ rfl rfl rfl) ⟨_, _, rfl, rfl, h⟩ ?_
    clear h
    rintro k0 E H ⟨x10, x11, rfl, rfl, h⟩
    cases k0 with
    | zero => cases (show (none : Option (Col)) = some _ from h)
    | succ k0 =>
     rw [spec_l01Named_l0] at h
     refine ACode_seq ?_
     refine kR ?_
     refine kM 1 rfl ?_
     refine AOps_q 30 _ rfl rfl rfl (QOp_lss _ _ _ _ _ _ _ rfl rfl rfl) ?_
     refine AOps_nil ?_
     refine kI h rfl (fun h _ => ?_) (fun h _ => ?_)
     ·refine ACode_skip ?_
      refine kB (fun s19 => [(2, .ptr 0 0), (4, .vec 1 0), (5, .ptr 2 0), (6, iV x10)]) (fun s19 => [.box (colD Col.zero), .vec 0 (bysD ([0, 0, 1, 1, 2, 2, 2, 1, 0, 2, 0, 1, 0, 1, 2, 0])), .box (colD s19)]) h (fun s19 h => ?_) (fun s19 h => ?_)
      ·refine ACode_block ?_
       refine kR ?_
       refine kN 1 rfl ?_
       refine ACode_block ?_
       refine ACode_loopW (fun k1 E H => ∃ (x13 : Int) (x14 : Col), E = [(2, .ptr 0 0), (4, .vec 1 0), (5, .ptr 2 0), (6, iV x10), (7, iV x13)] ∧ H = [.box (colD Col.zero), .vec 0 (bysD ([0, 0, 1, 1, 2, 2, 2, 1, 0, 2, 0, 1, 0, 1, 2, 0])), .box (colD x14)] ∧ spec_l01Named_l1 x10 k1 x13 x14 = some s19) k _ _ (Weak_keep 0 hm [2, 4, 5, 6, 7] [0, 1, 2] _ _ rfl rfl rfl) ⟨_, _, rfl, rfl, h⟩ ?_
       clear h
       rintro k1 E H ⟨x13, x14, rfl, rfl, h⟩
       cases k1 with
       | zero => cases (show (none : Option (Col)) = some _ from h)
       | succ k1 =>
        rw [spec_l01Named_l1] at h
        refine ACode_seq ?_
        refine kR ?_
        refine kM 2 rfl ?_
        refine AOps_q 35 _ rfl rfl rfl (QOp_lss _ _ _ _ _ _ _ rfl rfl rfl) ?_
        refine AOps_nil ?_
        refine kI h rfl (fun h _ => ?_) (fun h _ => ?_)
        ·refine ACode_skip ?_
         refine ACode_seq ?_
         refine ACode_block ?_
         refine (ACode_last (l := [_, _, _, _, _, _, _, _, _, _, _]) mixed (by kernel_rfl) (by kernel_rfl) ?_)
         refine kQ 2 rfl ?_
         refine AQ_call 40 _ _ _ _ _ _ _ _ _ rfl rfl rfl rfl rfl rfl rfl Tryz.call85 rfl rfl rfl (spec_l01Edge_ac x13 x10) ?_
         refine kQ 3 rfl ?_
         refine AQ_q 44 _ rfl rfl rfl (QOp_xor _ _ _ _ _ _ _ rfl rfl rfl) ?_
         obtain ⟨hc17, h⟩ := guardO h
         refine AQ_q 45 _ rfl rfl rfl (QOp_indexAddr_vec _ _ _ _ _ _ _ _ _ rfl Tryz.underlying22 Tryz.sizeOf5 hc17.1 (by rw [bysD_length]; exact hc17.2) rfl rfl rfl) ?_
         refine AQ_q 46 _ rfl rfl rfl (QOp_load_eptr _ _ _ _ _ _ _ rfl Tryz.isAgg5 rfl rfl (bysD_get _ _ 0 (by omega))) ?_
         refine AQ_q 47 _ rfl rfl rfl (QOp_fieldAddr_ptr _ _ _ _ _ _ 2 _ _ rfl Tryz.underlying26 rfl _ Tryz.sizeOf24 rfl rfl rfl rfl) ?_
         obtain ⟨hc18, h⟩ := guardO h
         refine AQ_q 48 _ rfl rfl rfl (QOp_indexAddrA_ptr _ _ _ _ _ _ _ _ _ _ rfl Tryz.underlying24 Tryz.sizeOf5 hc18.1 hc18.2 rfl rfl rfl rfl) ?_
         refine AQ_nil ?_
         refine AOps_store1 _ _ _ _ _ _ (colD (x14.set ((spec_l01Edge x13 x10).toNat) (([0, 0, 1, 1, 2, 2, 2, 1, 0, 2, 0, 1, 0, 1, 2, 0]).getD (bXor .i64 x13 x10).toNat 0))) _ rfl rfl rfl rfl rfl rfl rfl Tryz.sizeOf5 (by rw [colD_length]; omega) (colD_setE x14 ((spec_l01Edge x13 x10).toNat) (([0, 0, 1, 1, 2, 2, 2, 1, 0, 2, 0, 1, 0, 1, 2, 0]).getD (bXor .i64 x13 x10).toNat 0)) ?_
         refine AOps_nil ?_
         refine (ACode_region ?_)
         refine kM 1 rfl ?_
         refine AOps_q 37 _ rfl rfl rfl (QOp_add _ _ _ _ _ _ _ rfl rfl rfl) ?_
         refine kN 1 rfl ?_
         exact ⟨k1, _, _, Nat.lt_succ_self _, Weak_keep 0 hm [2, 4, 5, 6, 7] [0, 1, 2] _ _ rfl rfl rfl, _, _, rfl, rfl, h⟩
        refine ACode_exit ?_
        cases h
        exact Weak_keep 0 hm [2, 4, 5, 6] [0, 1, 2] _ _ rfl rfl rfl
      refine (ACode_region ?_)
      refine kM 1 rfl ?_
      refine AOps_q 32 _ rfl rfl rfl (QOp_add _ _ _ _ _ _ _ rfl rfl rfl) ?_
      refine kN 1 rfl ?_
      exact ⟨k0, _, _, Nat.lt_succ_self _, Weak_keep 0 hm [2, 4, 5, 6] [0, 1, 2] _ _ rfl rfl rfl, _, _, rfl, rfl, h⟩
     refine ACode_exit ?_
     cases h
     exact Weak_keep 0 hm [2, 5] [0, 2] _ _ rfl rfl rfl
   refine kR ?_
   refine AOps_q 49 _ rfl rfl rfl (QOp_loadN_ptr _ _ _ _ _ _ _ rfl Tryz.isAgg26 Tryz.sizeOf26 rfl rfl (colD_all _) (colD_length _)) ?_
   refine AOps_store _ _ _ _ _ _ (colD _) _ _ rfl rfl rfl rfl rfl rfl rfl (colD_one _) (by rw [colD_length]; exact Tryz.sizeOf26) (by rw [colD_length, colD_length]; decide) (colD_whole _ _) ?_
   refine kN 1 rfl ?_
   refine ACode_ret ?_
   cases h
   have h := hks21
   cases h
   exact ⟨_, _, fun r a w h => ⟨r, h⟩, _, _, [], _, (.cons (ResV_agg _ _ _ _ _ _ Tryz.isAgg26 Tryz.sizeOf26 rfl rfl (colD_take _) (colD_length _)) (.cons (ResV_tmp _ _ rfl) .nil)), rfl, rfl, rfl, rfl, rfl⟩
  refine ACode_skip ?_
  cases h
  exact ⟨_, rfl, Weak_keep 0 hm [2] [0] _ _ rfl rfl rfl⟩
 refine kR ?_
 refine AOps_q 50 _ rfl rfl rfl (QOp_build _ _ [] [] [] _ (colD Col.zero) (colD (⟨0, 0, B136.zero⟩ : Col)) [(0, 1), (1, 1), (2, 136)] rfl rfl Tryz.underlying26 (zero_of Tryz.typeInfo26 rfl) (fun w => by simp [Tryz.sizeOf2, Tryz.sizeOf2, Tryz.sizeOf24]) rfl (by rfl) (by rfl) (fun _ h => nomatch h)) ?_
 refine AOps_store _ _ _ _ _ _ (colD _) _ _ rfl rfl rfl rfl rfl rfl rfl (colD_one _) (by rw [colD_length]; exact Tryz.sizeOf26) (by rw [colD_length, colD_length]; decide) (colD_whole _ _) ?_
 refine kN 1 rfl ?_
 refine ACode_ret ?_
 cases h
 exact ⟨_, _, fun r a w h => ⟨r, h⟩, _, _, [], _, (.cons (ResV_agg _ _ _ _ _ _ Tryz.isAgg26 Tryz.sizeOf26 rfl rfl (colD_take _) (colD_length _)) (.cons (ResV_tmp _ _ rfl) .nil)), rfl, rfl, rfl, rfl, rfl⟩

-- loop.example/g01362/spec.l01DrawOrder
def spec_l01DrawOrder_l0 (p1 : Int) : Nat → Int → Src → (List Int) → Option (Src × List Int)
 | 0, _, _, _ => none
 | k0 + 1, x1, x2, x3 => (if decide (x1 < p1) then (spec_l01Next x2 (w64 (x1 + 1))).bind fun r5 => (if 0 ≤ 0 ∧ 0 ≤ r5.1 ∧ r5.1 ≤ ((x3.length : Nat) : Int) then (if 0 ≤ r5.1 ∧ r5.1 ≤ ((x3.length : Nat) : Int) ∧ ((x3.length : Nat) : Int) ≤ ((x3.length : Nat) : Int) then (spec_l01Own ((x3.drop 0).take (r5.1.toNat - 0))).bind fun r10 => (if r10.length + ([x1]).length ≤ 1099511627776 then (if (r10 ++ ([x1])).length + ((x3.drop r5.1.toNat).take (x3.length - r5.1.toNat)).length ≤ 1099511627776 then spec_l01DrawOrder_l0 p1 k0 (w64 (x1 + 1)) r5.2 ((r10 ++ ([x1])) ++ ((x3.drop r5.1.toNat).take (x3.length - r5.1.toNat))) else none) else none) else none) else none) else some (x2, x3))
def spec_l01DrawOrder (k : Nat) (p0 : Src) (p1 : Int) : Option (List Int × Src) :=
 (spec_l01DrawOrder_l0 p1 k 0 p0 ([] : List Int) : Option (Src × List Int)).bind fun s13 => some (s13.2, s13.1)
set_option maxRecDepth 100000 in
theorem spec_l01DrawOrder_ac (k : Nat) (p0 : Src) (p1 : Int) (r : List Int × Src) (h : spec_l01DrawOrder k p0 p1 = some r) : AC Tryz.prog 87 [.ptr 0 0, iV p1] [.box (srcD p0)] (fun res H' => res = [.vec 1 0] ∧ H' = [.box (srcD r.2), .vec 0 (intsD r.1)]) := by
 refine AC_of_body true Tryz.func87 rfl Tryz.ntmps87 (rvs := [.tmp 4]) rfl rfl (fun G hG => ?_)
 have hm : G.H.length = 1 := by rw [hG]; rfl
 have hz : zeroG G.H = true := by rw [hG]; rfl
 unfold spec_l01DrawOrder at h
 refine kR ?_
 refine kN 1 rfl ?_
 refine kR ?_
 refine AOps_buildSlice 8 _ _ _ [] (intsD ([] : List Int)) _ rfl rfl rfl rfl rfl (by decide) Tryz.underlying27 Tryz.sizeOf2 (zero_of Tryz.typeInfo2 rfl) rfl rfl (intsD_one _) ?_
 refine kN 1 rfl ?_
 refine kB (fun s13 => [(5, .vec 1 0)]) (fun s13 => [.box (srcD s13.1), .vec 0 (intsD s13.2)]) h (fun s13 h => ?_) (fun s13 h => ?_)
 ·refine kR ?_
  refine kN 1 rfl ?_
  refine ACode_block ?_
  refine ACode_loopW (fun k0 E H => ∃ (x1 : Int) (x2 : Src) (x3 : List Int), E = [(0, .ptr 0 0), (1, iV p1), (5, .vec 1 0), (6, iV x1)] ∧ H = [.box (srcD x2), .vec 0 (intsD x3)] ∧ spec_l01DrawOrder_l0 p1 k0 x1 x2 x3 = some s13) k _ _ (Weak_keep 1 hm [0, 1, 5, 6] [1] _ _ rfl rfl rfl) ⟨_, _, _, rfl, rfl, h⟩ ?_
  clear h
  rintro k0 E H ⟨x1, x2, x3, rfl, rfl, h⟩
  cases k0 with
  | zero => cases (show (none : Option (Src × List Int)) = some _ from h)
  | succ k0 =>
   rw [spec_l01DrawOrder_l0] at h
   refine ACode_seq ?_
   refine kR ?_
   refine kM 2 rfl ?_
   refine AOps_q 11 _ rfl rfl rfl (QOp_lss _ _ _ _ _ _ _ rfl rfl rfl) ?_
   refine AOps_nil ?_
   refine kI h rfl (fun h _ => ?_) (fun h _ => ?_)
   ·refine ACode_skip ?_
    refine ACode_seq ?_
    refine ACode_block ?_
    refine kR ?_
    refine kM 2 rfl ?_
    refine AOps_q 16 _ rfl rfl rfl (QOp_add _ _ _ _ _ _ _ rfl rfl rfl) ?_
    obtain ⟨r5, hr5, h⟩ := bindO h
    refine kC [0] 17 (iV r5.1) [.box (srcD r5.2), .vec 0 (intsD x3)] rfl Tryz.call51 rfl rfl (spec_l01Next_ac x2 (w64 (x1 + 1)) _ hr5) rfl ?_
    refine kN 1 rfl ?_
    obtain ⟨hc7, h⟩ := guardO h
    obtain ⟨hc9, h⟩ := guardO h
    obtain ⟨r10, hr10, h⟩ := bindO h
    obtain ⟨hc11, h⟩ := guardO h
    obtain ⟨hc12, h⟩ := guardO h
    refine ACode_reg [(0, .ptr 0 0), (1, iV p1), (5, .vec 1 0), (6, iV x1)] [.box (srcD r5.2), .vec 0 (intsD ((r10 ++ ([x1])) ++ ((x3.drop r5.1.toNat).take (x3.length - r5.1.toNat))))] ?_ ?_
    ·refine ACode_anyU mixed ?_
     refine AU_cut 3 #[true, true, true, true, true, true, false, true, true, true, false, false] [(0, .ptr 0 0), (1, iV p1), (5, .vec 1 0), (6, iV x1), (21, .vec 2 0), (23, .vec 3 0), (27, .part 1 0 r5.1.toNat (x3.length - r5.1.toNat))] [.box (srcD r5.2), .vec 0 (intsD x3), .vec 0 (intsD r10), .vec 0 (intsD ([x1]))] ?_ (fun hS0 => ?_)
     ·refine AU_one 6 (by kernel_rfl) rfl rfl ?_
      refine AOps_append 24 _ _ _ _ _ _ _ _ _ _ _ _ rfl rfl rfl rfl rfl rfl rfl Tryz.underlying27 Tryz.type2 rfl rfl rfl (by decide) rfl rfl rfl rfl (intsD_one _) (by rw [intsD_length, intsD_length]; exact hc11) ?_
      rw [intsD_app]
      refine AOps_nil ?_
      refine AU_one 10 (by kernel_rfl) rfl rfl ?_
      refine AOps_append 28 _ _ _ _ _ _ _ _ _ _ _ _ rfl rfl rfl rfl rfl rfl rfl Tryz.underlying27 Tryz.type2 rfl rfl rfl (by decide) rfl rfl rfl rfl (by rw [← intsD_dt]; exact intsD_one _) (by rw [← intsD_dt, intsD_length, intsD_length]; exact hc12) ?_
      rw [← intsD_dt, intsD_app]
      refine AOps_nil ?_
      refine AU_u 11 5 _ rfl (by kernel_rfl) rfl rfl rfl (UOp_assign _ _ rfl rfl) ?_
      refine AU_done (by kernel_rfl) ?_
      exact ⟨rfl, Weak_trans (Weak_keep 1 hm [0, 1, 5, 6] [2] _ _ rfl rfl rfl) (Weak_reset 1 hm hz [0, 1, 5, 6] _ _ rfl rfl)⟩
     refine AU_u 0 18 _ rfl (by kernel_rfl) rfl rfl rfl (UOp_move _ _ rfl rfl) ?_
     refine AU_u 1 19 _ rfl (by kernel_rfl) rfl rfl rfl (UOp_move _ _ rfl rfl) ?_
     refine AU_u 2 20 _ rfl (by kernel_rfl) rfl rfl rfl (UOp_cut _ _ _ _ _ _ _ _ _ _ _ (0) (r5.1.toNat) rfl Tryz.underlying27 Tryz.sizeOf2 rfl rfl rfl rfl (by exact ⟨_, by rw [Int.toNat_of_nonneg (by omega)]; rfl⟩) (by omega) (by rw [intsD_length]; omega) _ (Nat.zero_add _) _ rfl) ?_
     refine AU_u 4 22 _ rfl (by kernel_rfl) rfl rfl rfl (UOp_move _ _ rfl rfl) ?_
     refine AU_u 7 25 _ rfl (by kernel_rfl) rfl rfl rfl (UOp_move _ _ rfl rfl) ?_
     refine AU_u 8 26 _ rfl (by kernel_rfl) rfl rfl rfl (UOp_move _ _ rfl rfl) ?_
     refine AU_u 9 27 _ rfl (by kernel_rfl) rfl rfl rfl (UOp_cut _ _ _ _ _ _ _ _ _ _ _ (r5.1.toNat) (x3.length) rfl Tryz.underlying27 Tryz.sizeOf2 rfl rfl rfl (by exact ⟨_, by rw [Int.toNat_of_nonneg (by omega)]; rfl⟩) (intsD_length _).symm (by omega) (by rw [intsD_length]; omega) _ (Nat.zero_add _) _ rfl) ?_
     refine AU_all [3, 5] (by kernel_rfl) rfl (allc ?_ (allc ?_ (fun _ h => nomatch h)))
     ·refine US_of 3 rfl rfl ?_
      refine AOps_callL [] 21 _ _ _ _ _ _ _ _ _ _ rfl rfl rfl rfl rfl rfl rfl Tryz.call52 rfl (nodupB_sound _ rfl) rfl rfl rfl (by have q := spec_l01Own_ac ((x3.drop 0).take (r5.1.toNat - 0)) _ hr10; simp only [intsD_dt] at q; exact q) ?_
      rintro _ _ ⟨rfl, rfl⟩
      refine ⟨(allc (intsD_flat _) (fun _ h => nomatch h)), (allc (trivial) (fun _ h => nomatch h)), AOps_as 21 (v' := .vec 2 0) (H' := [.box (srcD r5.2), .vec 0 (intsD x3), .vec 0 (intsD r10)]) rfl rfl ?_⟩
      refine AOps_nil ?_
      refine AU_one 5 (by kernel_rfl) rfl rfl ?_
      refine AOps_buildSlice 23 _ _ _ [_] (intsD ([x1])) _ rfl rfl rfl rfl rfl (by decide) Tryz.underlying27 Tryz.sizeOf2 (zero_of Tryz.typeInfo2 rfl) rfl rfl (intsD_one _) ?_
      refine AOps_nil ?_
      exact AU_to (by kernel_rfl) hS0 (Weak_keep 1 hm [0, 1, 5, 6, 21, 23, 27] [1, 2, 3] _ _ rfl rfl rfl)
     refine US_of 5 rfl rfl ?_
     refine AOps_buildSlice 23 _ _ _ [_] (intsD ([x1])) _ rfl rfl rfl rfl rfl (by decide) Tryz.underlying27 Tryz.sizeOf2 (zero_of Tryz.typeInfo2 rfl) rfl rfl (intsD_one _) ?_
     refine AOps_nil ?_
     refine AU_one 3 (by kernel_rfl) rfl rfl ?_
     refine AOps_callL [] 21 _ _ _ _ _ _ _ _ _ _ rfl rfl rfl rfl rfl rfl rfl Tryz.call52 rfl (nodupB_sound _ rfl) rfl rfl rfl (by have q := spec_l01Own_ac ((x3.drop 0).take (r5.1.toNat - 0)) _ hr10; simp only [intsD_dt] at q; exact q) ?_
     rintro _ _ ⟨rfl, rfl⟩
     refine ⟨(allc (intsD_flat _) (fun _ h => nomatch h)), (allc (trivial) (fun _ h => nomatch h)), AOps_as 21 (v' := .vec 3 0) (H' := [.box (srcD r5.2), .vec 0 (intsD x3), .vec 0 (intsD ([x1])), .vec 0 (intsD r10)]) rfl rfl ?_⟩
     refine AOps_nil ?_
     exact AU_to (by kernel_rfl) hS0 (Weak_keep 1 hm [0, 1, 5, 6, 21, 23, 27] [1, 3, 2] _ _ rfl rfl rfl)
    refine (ACode_region ?_)
    refine kM 1 rfl ?_
    refine AOps_q 13 _ rfl rfl rfl (QOp_add _ _ _ _ _ _ _ rfl rfl rfl) ?_
    refine kN 1 rfl ?_
    exact ⟨k0, _, _, Nat.lt_succ_self _, Weak_keep 1 hm [0, 1, 5, 6] [1] _ _ rfl rfl rfl, _, _, _, rfl, rfl, h⟩
   refine ACode_exit ?_
   cases h
   exact Weak_keep 1 hm [5] [1] _ _ rfl rfl rfl
 refine kR ?_
 refine kN 2 rfl ?_
 refine ACode_ret ?_
 cases h
 exact ⟨_, _, Weak_reset 1 hm hz [4] _ _ rfl rfl, _, _, [1], _, (.cons (ResV_tmp _ _ rfl) .nil), rfl, rfl, rfl, rfl, rfl⟩

-- loop.example/g01362/spec.l01Renamed
def spec_l01Renamed_l1 (p0 : Col) (p1 : List Int) (x1 : Int) : Nat → Int → Col → Option (Col)
 | 0, _, _ => none
 | k1 + 1, x4, x5 => (if decide (x4 < x1) then (if 0 ≤ x4 ∧ x4 < (p1.length : Int) then (if 0 ≤ x1 ∧ x1 < (p1.length : Int) then (spec_l01At p0 x4 x1).bind fun r10 => (if 0 ≤ (spec_l01Edge (p1.getD x4.toNat 0) (p1.getD x1.toNat 0)) ∧ (spec_l01Edge (p1.getD x4.toNat 0) (p1.getD x1.toNat 0)) < 136 then spec_l01Renamed_l1 p0 p1 x1 k1 (w64 (x4 + 1)) (x5.set ((spec_l01Edge (p1.getD x4.toNat 0) (p1.getD x1.toNat 0)).toNat) (toByte r10)) else none) else none) else none) else some x5)
def spec_l01Renamed_l0 (k : Nat) (p0 : Col) (p1 : List Int) : Nat → Int → Col → Option (Col)
 | 0, _, _ => none
 | k0 + 1, x1, x2 => (if decide (x1 < p0.p) then (spec_l01Renamed_l1 p0 p1 x1 k 0 x2 : Option (Col)).bind fun s12 => spec_l01Renamed_l0 k p0 p1 k0 (w64 (x1 + 1)) s12 else some x2)
def spec_l01Renamed (k : Nat) (p0 : Col) (p1 : List Int) : Option (Col) :=
 (spec_l01Renamed_l0 k p0 p1 k 1 (⟨p0.p, p0.k, B136.zero⟩ : Col) : Option (Col)).bind fun s13 => some s13
set_option maxRecDepth 100000 in
theorem spec_l01Renamed_ac (k : Nat) (p0 : Col) (p1 : List Int) (r : Col) (h : spec_l01Renamed k p0 p1 = some r) : AC Tryz.prog 86 [.d (.agg (colD p0)), .d (.sl none (intsD p1))] [] (fun res H' => res = [.d (.agg (colD r))] ∧ H' = []) := by
 refine AC_of_body true Tryz.func86 rfl Tryz.ntmps86 (rvs := [.cell 4 26]) rfl rfl (fun G hG => ?_)
 have hm : G.H.length = 0 := by rw [hG]; rfl
 have hz : zeroG G.H = true := by rw [hG]; rfl
 unfold spec_l01Renamed at h
 refine kR ?_
 refine AOps_boxI 2 _ _ (.agg (colD p0)) (colD p0) rfl (colD_one _) rfl rfl rfl rfl rfl ?_
 refine AOps_alloc 4 _ _ (colD Col.zero) (zero_of Tryz.typeInfo26 rfl) (by rfl) rfl rfl rfl rfl ?_
 refine AOps_nil ?_
 refine kR ?_
 refine AOps_q 8 _ rfl rfl rfl (QOp_fieldAddr_pv _ _ _ _ _ 0 _ _ rfl Tryz.underlying26 rfl _ Tryz.sizeOf2 rfl rfl) ?_
 refine AOps_q 9 _ rfl rfl rfl (QOp_load_pv _ _ _ _ _ rfl Tryz.isAgg2 rfl rfl) ?_
 refine AOps_q 10 _ rfl rfl rfl (QOp_fieldAddr_pv _ _ _ _ _ 1 _ _ rfl Tryz.underlying26 rfl _ Tryz.sizeOf2 rfl rfl) ?_
 refine AOps_q 11 _ rfl rfl rfl (QOp_load_pv _ _ _ _ _ rfl Tryz.isAgg2 rfl rfl) ?_
 refine AOps_q 12 _ rfl rfl rfl (QOp_build _ _ [_, _] [0, 1] [iD p0.p, iD p0.k] _ (colD Col.zero) (colD (⟨p0.p, p0.k, B136.zero⟩ : Col)) [(0, 1), (1, 1), (2, 136)] rfl rfl Tryz.underlying26 (zero_of Tryz.typeInfo26 rfl) (fun w => by simp [Tryz.sizeOf2, Tryz.sizeOf2, Tryz.sizeOf24]) rfl (by rfl) (by rfl) (allc (ok1 rfl) (allc (ok1 rfl) (fun _ h => nomatch h)))) ?_
 refine AOps_alloc 5 _ _ (colD Col.zero) (zero_of Tryz.typeInfo26 rfl) (by rfl) rfl rfl rfl rfl ?_
 refine AOps_store _ _ _ _ _ _ (colD _) _ _ rfl rfl rfl rfl rfl rfl rfl (colD_one _) (by rw [colD_length]; exact Tryz.sizeOf26) (by rw [colD_length, colD_length]; decide) (colD_whole _ _) ?_
 refine AOps_nil ?_
 refine kB (fun s13 => [(4, .ptr 0 0), (5, .ptr 1 0)]) (fun s13 => [.box (colD Col.zero), .box (colD s13)]) h (fun s13 h => ?_) (fun s13 h => ?_)
 ·refine kR ?_
  refine kN 1 rfl ?_
  refine ACode_block ?_
  refine ACode_loopW (fun k0 E H => ∃ (x1 : Int) (x2 : Col), E = [(1, .d (.sl none (intsD p1))), (2, .d (.pv (colD p0) 0)), (4, .ptr 0 0), (5, .ptr 1 0), (6, iV x1)] ∧ H = [.box (colD Col.zero), .box (colD x2)] ∧ spec_l01Renamed_l0 k p0 p1 k0 x1 x2 = some s13) k _ _ (Weak_keep 0 hm [1, 2, 4, 5, 6] [0, 1] _ _ rfl rfl rfl) ⟨_, _, rfl, rfl, h⟩ ?_
  clear h
  rintro k0 E H ⟨x1, x2, rfl, rfl, h⟩
  cases k0 with
  | zero => cases (show (none : Option (Col)) = some _ from h)
  | succ k0 =>
   rw [spec_l01Renamed_l0] at h
   refine ACode_seq ?_
   refine kR ?_
   refine kM 1 rfl ?_
   refine AOps_q 14 _ rfl rfl rfl (QOp_fieldAddr_pv _ _ _ _ _ 0 _ _ rfl Tryz.underlying26 rfl _ Tryz.sizeOf2 rfl rfl) ?_
   refine AOps_q 15 _ rfl rfl rfl (QOp_load_pv _ _ _ _ _ rfl Tryz.isAgg2 rfl rfl) ?_
   refine AOps_q 16 _ rfl rfl rfl (QOp_lss _ _ _ _ _ _ _ rfl rfl rfl) ?_
   refine AOps_nil ?_
   refine kI h rfl (fun h _ => ?_) (fun h _ => ?_)
   ·refine ACode_skip ?_
    refine kB (fun s12 => [(1, .d (.sl none (intsD p1))), (2, .d (.pv (colD p0) 0)), (4, .ptr 0 0), (5, .ptr 1 0), (6, iV x1)]) (fun s12 => [.box (colD Col.zero), .box (colD s12)]) h (fun s12 h => ?_) (fun s12 h => ?_)
    ·refine ACode_block ?_
     refine kR ?_
     refine kN 1 rfl ?_
     refine ACode_block ?_
     refine ACode_loopW (fun k1 E H => ∃ (x4 : Int) (x5 : Col), E = [(1, .d (.sl none (intsD p1))), (2, .d (.pv (colD p0) 0)), (4, .ptr 0 0), (5, .ptr 1 0), (6, iV x1), (7, iV x4)] ∧ H = [.box (colD Col.zero), .box (colD x5)] ∧ spec_l01Renamed_l1 p0 p1 x1 k1 x4 x5 = some s12) k _ _ (Weak_keep 0 hm [1, 2, 4, 5, 6, 7] [0, 1] _ _ rfl rfl rfl) ⟨_, _, rfl, rfl, h⟩ ?_
     clear h
     rintro k1 E H ⟨x4, x5, rfl, rfl, h⟩
     cases k1 with
     | zero => cases (show (none : Option (Col)) = some _ from h)
     | succ k1 =>
      rw [spec_l01Renamed_l1] at h
      refine ACode_seq ?_
      refine kR ?_
      refine kM 2 rfl ?_
      refine AOps_q 21 _ rfl rfl rfl (QOp_lss _ _ _ _ _ _ _ rfl rfl rfl) ?_
      refine AOps_nil ?_
      refine kI h rfl (fun h _ => ?_) (fun h _ => ?_)
      ·refine ACode_skip ?_
       refine ACode_seq ?_
       refine ACode_block ?_
       refine (ACode_last (l := [_, _, _, _, _, _, _, _, _, _, _, _, _, _, _, _]) mixed (by kernel_rfl) (by kernel_rfl) ?_)
       refine kQ 2 rfl ?_
       obtain ⟨hc7, h⟩ := guardO h
       refine AQ_q 26 _ rfl rfl rfl (QOp_indexAddr_sl _ _ _ _ _ _ _ _ rfl Tryz.underlying27 Tryz.sizeOf2 hc7.1 (by rw [intsD_length]; exact hc7.2) rfl rfl) ?_
       refine AQ_q 27 _ rfl rfl rfl (QOp_load_pv _ _ _ _ _ rfl Tryz.isAgg2 rfl (intsD_get _ _ 0 (by omega))) ?_
       refine kQ 2 rfl ?_
       obtain ⟨hc8, h⟩ := guardO h
       refine AQ_q 30 _ rfl rfl rfl (QOp_indexAddr_sl _ _ _ _ _ _ _ _ rfl Tryz.underlying27 Tryz.sizeOf2 hc8.1 (by rw [intsD_length]; exact hc8.2) rfl rfl) ?_
       refine AQ_q 31 _ rfl rfl rfl (QOp_load_pv _ _ _ _ _ rfl Tryz.isAgg2 rfl (intsD_get _ _ 0 (by omega))) ?_
       refine AQ_call 32 _ _ _ _ _ _ _ _ _ rfl rfl rfl rfl rfl rfl rfl Tryz.call85 rfl rfl rfl (spec_l01Edge_ac (p1.getD x4.toNat 0) (p1.getD x1.toNat 0)) ?_
       refine AQ_q 33 _ rfl rfl rfl (QOp_loadN_pv _ _ _ _ _ _ rfl Tryz.isAgg26 Tryz.sizeOf26 rfl (colD_all _) (colD_length _)) ?_
       refine kQ 2 rfl ?_
       obtain ⟨r10, hr10, h⟩ := bindO h
       refine AQ_call 36 _ _ _ _ _ _ _ _ _ rfl rfl rfl rfl rfl rfl rfl Tryz.call93 rfl rfl rfl (spec_l01At_ac p0 x4 x1 _ hr10) ?_
       refine AQ_q 37 _ rfl rfl rfl (QOp_toByte _ _ _ _ _ rfl rfl Tryz.underlying5 rfl) ?_
       refine AQ_q 38 _ rfl rfl rfl (QOp_fieldAddr_ptr _ _ _ _ _ _ 2 _ _ rfl Tryz.underlying26 rfl _ Tryz.sizeOf24 rfl rfl rfl rfl) ?_
       obtain ⟨hc11, h⟩ := guardO h
       refine AQ_q 39 _ rfl rfl rfl (QOp_indexAddrA_ptr _ _ _ _ _ _ _ _ _ _ rfl Tryz.underlying24 Tryz.sizeOf5 hc11.1 hc11.2 rfl rfl rfl rfl) ?_
       refine AQ_nil ?_
       refine AOps_store1 _ _ _ _ _ _ (colD (x5.set ((spec_l01Edge (p1.getD x4.toNat 0) (p1.getD x1.toNat 0)).toNat) (toByte r10))) _ rfl rfl rfl rfl rfl rfl rfl Tryz.sizeOf5 (by rw [colD_length]; omega) (colD_setE x5 ((spec_l01Edge (p1.getD x4.toNat 0) (p1.getD x1.toNat 0)).toNat) (toByte r10)) ?_
       refine AOps_nil ?_
       refine (ACode_region ?_)
       refine kM 1 rfl ?_
       refine AOps_q 23 _ rfl rfl rfl (QOp_add _ _ _ _ _ _ _ rfl rfl rfl) ?_
       refine kN 1 rfl ?_
       exact ⟨k1, _, _, Nat.lt_succ_self _, Weak_keep 0 hm [1, 2, 4, 5, 6, 7] [0, 1] _ _ rfl rfl rfl, _, _, rfl, rfl, h⟩
      refine ACode_exit ?_
      cases h
      exact Weak_keep 0 hm [1, 2, 4, 5, 6] [0, 1] _ _ rfl rfl rfl
    refine (ACode_region ?_)
    refine kM 1 rfl ?_
    refine AOps_q 18 _ rfl rfl rfl (QOp_add _ _ _ _ _ _ _ rfl rfl rfl) ?_
    refine kN 1 rfl ?_
    exact ⟨k0, _, _, Nat.lt_succ_self _, Weak_keep 0 hm [1, 2, 4, 5, 6] [0, 1] _ _ rfl rfl rfl, _, _, rfl, rfl, h⟩
   refine ACode_exit ?_
   cases h
   exact Weak_keep 0 hm [4, 5] [0, 1] _ _ rfl rfl rfl
 refine kR ?_
 refine AOps_q 40 _ rfl rfl rfl (QOp_loadN_ptr _ _ _ _ _ _ _ rfl Tryz.isAgg26 Tryz.sizeOf26 rfl rfl (colD_all _) (colD_length _)) ?_
 refine AOps_store _ _ _ _ _ _ (colD _) _ _ rfl rfl rfl rfl rfl rfl rfl (colD_one _) (by rw [colD_length]; exact Tryz.sizeOf26) (by rw [colD_length, colD_length]; decide) (colD_whole _ _) ?_
 refine AOps_nil ?_
 refine ACode_ret ?_
 cases h
 exact ⟨_, _, fun r a w h => ⟨r, h⟩, _, _, [], _, (.cons (ResV_agg _ _ _ _ _ _ Tryz.isAgg26 Tryz.sizeOf26 rfl rfl (colD_take _) (colD_length _)) .nil), rfl, rfl, rfl, rfl, rfl⟩

-- loop.example/g01362/spec.l01DrawOf
def spec_l01DrawOf_l0 (p1 : Int) (p2 : Int) (r1 : Int × Src) : Nat → Int → Src → Col → Option (Src × Col)
 | 0, _, _, _ => none
 | k0 + 1, x2, x3, x4 => (if decide (x2 < w64 ((w64 (p1 * (w64 (p1 - 1)))).tdiv 2)) then ((spec_l01Next x3 p2).bind fun r6 => ((spec_l01Next r6.2 5).bind fun r7 => (if decide (r7.1 = 0) then some (r1.1, r7.2) else some (r6.1, r7.2)) : Option (Int × Src)).bind fun s9 => (if 0 ≤ x2 ∧ x2 < 136 then some (s9.2, x4.set x2.toNat (toByte s9.1)) else none) : Option (Src × Col)).bind fun s11 => spec_l01DrawOf_l0 p1 p2 r1 k0 (w64 (x2 + 1)) s11.1 s11.2 else some (x3, x4))
def spec_l01DrawOf (k : Nat) (p0 : Src) (p1 : Int) (p2 : Int) : Option (Col × Src) :=
 (spec_l01Next p0 p2).bind fun r1 => (spec_l01DrawOf_l0 p1 p2 r1 k 0 r1.2 (⟨p1, p2, B136.zero⟩ : Col) : Option (Src × Col)).bind fun s12 => some (s12.2, s12.1)
set_option maxRecDepth 100000 in
theorem spec_l01DrawOf_ac (k : Nat) (p0 : Src) (p1 : Int) (p2 : Int) (r : Col × Src) (h : spec_l01DrawOf k p0 p1 p2 = some r) : AC Tryz.prog 89 [.ptr 0 0, iV p1, iV p2] [.box (srcD p0)] (fun res H' => res = [.d (.agg (colD r.1))] ∧ H' = [.box (srcD r.2)]) := by
 refine AC_of_body true Tryz.func89 rfl Tryz.ntmps89 (rvs := [.cell 6 26]) rfl rfl (fun G hG => ?_)
 have hm : G.H.length = 1 := by rw [hG]; rfl
 have hz : zeroG G.H = true := by rw [hG]; rfl
 unfold spec_l01DrawOf at h
 refine kR ?_
 refine AOps_alloc 6 _ _ (colD Col.zero) (zero_of Tryz.typeInfo26 rfl) (by rfl) rfl rfl rfl rfl ?_
 refine AOps_nil ?_
 refine kR ?_
 refine kM 2 rfl ?_
 refine AOps_q 13 _ rfl rfl rfl (QOp_build _ _ [_, _] [0, 1] [iD p1, iD p2] _ (colD Col.zero) (colD (⟨p1, p2, B136.zero⟩ : Col)) [(0, 1), (1, 1), (2, 136)] rfl rfl Tryz.underlying26 (zero_of Tryz.typeInfo26 rfl) (fun w => by simp [Tryz.sizeOf2, Tryz.sizeOf2, Tryz.sizeOf24]) rfl (by rfl) (by rfl) (allc (ok1 rfl) (allc (ok1 rfl) (fun _ h => nomatch h)))) ?_
 refine kM 2 rfl ?_
 obtain ⟨r1, hr1, h⟩ := bindO h
 refine kC [0] 16 (iV r1.1) [.box (srcD r1.2), .box (colD Col.zero)] rfl Tryz.call51 rfl rfl (spec_l01Next_ac p0 p2 _ hr1) rfl ?_
 refine AOps_alloc 7 _ _ (colD Col.zero) (zero_of Tryz.typeInfo26 rfl) (by rfl) rfl rfl rfl rfl ?_
 refine AOps_store _ _ _ _ _ _ (colD _) _ _ rfl rfl rfl rfl rfl rfl rfl (colD_one _) (by rw [colD_length]; exact Tryz.sizeOf26) (by rw [colD_length, colD_length]; decide) (colD_whole _ _) ?_
 refine kN 1 rfl ?_
 refine kB (fun s12 => [(6, .ptr 1 0), (7, .ptr 2 0)]) (fun s12 => [.box (srcD s12.1), .box (colD Col.zero), .box (colD s12.2)]) h (fun s12 h => ?_) (fun s12 h => ?_)
 ·refine kR ?_
  refine kN 1 rfl ?_
  refine ACode_block ?_
  refine ACode_loopW (fun k0 E H => ∃ (x2 : Int) (x3 : Src) (x4 : Col), E = [(0, .ptr 0 0), (1, iV p1), (2, iV p2), (6, .ptr 1 0), (7, .ptr 2 0), (8, iV r1.1), (9, iV x2)] ∧ H = [.box (srcD x3), .box (colD Col.zero), .box (colD x4)] ∧ spec_l01DrawOf_l0 p1 p2 r1 k0 x2 x3 x4 = some s12) k _ _ (Weak_keep 1 hm [0, 1, 2, 6, 7, 8, 9] [1, 2] _ _ rfl rfl rfl) ⟨_, _, _, rfl, rfl, h⟩ ?_
  clear h
  rintro k0 E H ⟨x2, x3, x4, rfl, rfl, h⟩
  cases k0 with
  | zero => cases (show (none : Option (Src × Col)) = some _ from h)
  | succ k0 =>
   rw [spec_l01DrawOf_l0] at h
   refine ACode_seq ?_
   refine kR ?_
   refine kM 3 rfl ?_
   refine AOps_q 20 _ rfl rfl rfl (QOp_sub _ _ _ _ _ _ _ rfl rfl rfl) ?_
   refine AOps_q 21 _ rfl rfl rfl (QOp_mul _ _ _ _ _ _ _ rfl rfl rfl) ?_
   refine AOps_q 22 _ rfl rfl rfl (QOp_quo _ _ _ _ _ _ _ (by decide) rfl rfl rfl) ?_
   refine AOps_q 23 _ rfl rfl rfl (QOp_lss _ _ _ _ _ _ _ rfl rfl rfl) ?_
   refine AOps_nil ?_
   refine kI h rfl (fun h _ => ?_) (fun h _ => ?_)
   ·refine ACode_skip ?_
    refine kB (fun s11 => [(0, .ptr 0 0), (1, iV p1), (2, iV p2), (6, .ptr 1 0), (7, .ptr 2 0), (8, iV r1.1), (9, iV x2)]) (fun s11 => [.box (srcD s11.1), .box (colD Col.zero), .box (colD s11.2)]) h (fun s11 h => ?_) (fun s11 h => ?_)
    ·refine ACode_block ?_
     refine kR ?_
     refine kM 2 rfl ?_
     obtain ⟨r6, hr6, h⟩ := bindO h
     refine kC [0] 28 (iV r6.1) [.box (srcD r6.2), .box (colD Col.zero), .box (colD x4)] rfl Tryz.call51 rfl rfl (spec_l01Next_ac x3 p2 _ hr6) rfl ?_
     refine kN 1 rfl ?_
     refine kB (fun s9 => [(0, .ptr 0 0), (1, iV p1), (2, iV p2), (6, .ptr 1 0), (7, .ptr 2 0), (8, iV r1.1), (9, iV x2), (10, iV s9.1)]) (fun s9 => [.box (srcD s9.2), .box (colD Col.zero), .box (colD x4)]) h (fun s9 h => ?_) (fun s9 h => ?_)
     ·refine kR ?_
      refine kM 1 rfl ?_
      obtain ⟨r7, hr7, h⟩ := bindO h
      refine kC [0] 30 (iV r7.1) [.box (srcD r7.2), .box (colD Col.zero), .box (colD x4)] rfl Tryz.call51 rfl rfl (spec_l01Next_ac r6.2 5 _ hr7) rfl ?_
      refine AOps_q 31 _ rfl rfl rfl (QOp_eql _ _ _ _ _ _ _ rfl rfl rfl) ?_
      refine AOps_nil ?_
      refine kI h rfl (fun h _ => ?_) (fun h _ => ?_)
      ·refine (ACode_region ?_)
       refine kN 2 rfl ?_
       cases h
       exact Weak_keep 1 hm [0, 1, 2, 6, 7, 8, 9, 10] [1, 2] _ _ rfl rfl rfl
      refine ACode_skip ?_
      cases h
      exact Weak_keep 1 hm [0, 1, 2, 6, 7, 8, 9, 10] [1, 2] _ _ rfl rfl rfl
     refine (ACode_region ?_)
     refine kM 2 rfl ?_
     refine AOps_q 35 _ rfl rfl rfl (QOp_toByte _ _ _ _ _ rfl rfl Tryz.underlying5 rfl) ?_
     refine AOps_q 36 _ rfl rfl rfl (QOp_fieldAddr_ptr _ _ _ _ _ _ 2 _ _ rfl Tryz.underlying26 rfl _ Tryz.sizeOf24 rfl rfl rfl rfl) ?_
     obtain ⟨hc10, h⟩ := guardO h
     refine AOps_q 37 _ rfl rfl rfl (QOp_indexAddrA_ptr _ _ _ _ _ _ _ _ _ _ rfl Tryz.underlying24 Tryz.sizeOf5 hc10.1 hc10.2 rfl rfl rfl rfl) ?_
     refine AOps_store1 _ _ _ _ _ _ (colD (x4.set x2.toNat (toByte s9.1))) _ rfl rfl rfl rfl rfl rfl rfl Tryz.sizeOf5 (by rw [colD_length]; omega) (colD_setE x4 x2.toNat (toByte s9.1)) ?_
     refine AOps_nil ?_
     cases h
     exact Weak_keep 1 hm [0, 1, 2, 6, 7, 8, 9] [1, 2] _ _ rfl rfl rfl
    refine (ACode_region ?_)
    refine kM 1 rfl ?_
    refine AOps_q 25 _ rfl rfl rfl (QOp_add _ _ _ _ _ _ _ rfl rfl rfl) ?_
    refine kN 1 rfl ?_
    exact ⟨k0, _, _, Nat.lt_succ_self _, Weak_keep 1 hm [0, 1, 2, 6, 7, 8, 9] [1, 2] _ _ rfl rfl rfl, _, _, _, rfl, rfl, h⟩
   refine ACode_exit ?_
   cases h
   exact Weak_keep 1 hm [6, 7] [1, 2] _ _ rfl rfl rfl
 refine kR ?_
 refine AOps_q 38 _ rfl rfl rfl (QOp_loadN_ptr _ _ _ _ _ _ _ rfl Tryz.isAgg26 Tryz.sizeOf26 rfl rfl (colD_all _) (colD_length _)) ?_
 refine AOps_store _ _ _ _ _ _ (colD _) _ _ rfl rfl rfl rfl rfl rfl rfl (colD_one _) (by rw [colD_length]; exact Tryz.sizeOf26) (by rw [colD_length, colD_length]; decide) (colD_whole _ _) ?_
 refine AOps_nil ?_
 refine ACode_ret ?_
 cases h
 exact ⟨_, _, fun r a w h => ⟨r, h⟩, _, _, [], _, (.cons (ResV_agg _ _ _ _ _ _ Tryz.isAgg26 Tryz.sizeOf26 rfl rfl (colD_take _) (colD_length _)) .nil), rfl, rfl, rfl, rfl, rfl⟩

-- loop.example/g01362/spec.l01Small
def spec_l01Small (k : Nat) (p0 : Src) : Option (Col × Src) :=
 (spec_l01Next p0 5).bind fun r1 => (if decide (r1.1 = 0) then (spec_l01Named k (⟨#[112, 101, 110, 116, 97, 103, 111, 110]⟩ : ByteArray)).bind fun r3 => (spec_l01DrawOrder k r1.2 5).bind fun r4 => (spec_l01Renamed k r3.1 r4.1).bind fun r5 => some (r5, r4.2) else (spec_l01Next r1.2 6).bind fun r6 => (spec_l01Pick r6.2 ([1, 2, 2, 2, 3, 4])).bind fun r7 => (spec_l01DrawOf k r7.2 (w64 (1 + r6.1)) r7.1).bind fun r8 => some (r8.1, r8.2))
set_option maxRecDepth 100000 in
theorem spec_l01Small_ac (k : Nat) (p0 : Src) (r : Col × Src) (h : spec_l01Small k p0 = some r) : AC Tryz.prog 83 [.ptr 0 0] [.box (srcD p0)] (fun res H' => res = [.d (.agg (colD r.1))] ∧ H' = [.box (srcD r.2)]) := by
 refine AC_of_body true Tryz.func83 rfl Tryz.ntmps83 (rvs := [.cell 2 26]) rfl rfl (fun G hG => ?_)
 have hm : G.H.length = 1 := by rw [hG]; rfl
 have hz : zeroG G.H = true := by rw [hG]; rfl
 unfold spec_l01Small at h
 refine kR ?_
 refine AOps_alloc 2 _ _ (colD Col.zero) (zero_of Tryz.typeInfo26 rfl) (by rfl) rfl rfl rfl rfl ?_
 refine AOps_nil ?_
 refine ACode_seq ?_
 refine kR ?_
 refine kM 1 rfl ?_
 obtain ⟨r1, hr1, h⟩ := bindO h
 refine kC [0] 6 (iV r1.1) [.box (srcD r1.2), .box (colD Col.zero)] rfl Tryz.call51 rfl rfl (spec_l01Next_ac p0 5 _ hr1) rfl ?_
 refine AOps_q 7 _ rfl rfl rfl (QOp_eql _ _ _ _ _ _ _ rfl rfl rfl) ?_
 refine AOps_nil ?_
 refine kI h rfl (fun h _ => ?_) (fun h _ => ?_)
 ·refine kR ?_
  obtain ⟨r3, hr3, h⟩ := bindO h
  refine kC [] 9 (.tup [.d (.agg (colD r3.1)), bV r3.2]) [.box (srcD r1.2), .box (colD Col.zero)] rfl Tryz.call82 rfl rfl (spec_l01Named_ac k (⟨#[112, 101, 110, 116, 97, 103, 111, 110]⟩ : ByteArray) _ hr3) rfl ?_
  refine kM 3 rfl ?_
  refine AOps_alloc 3 _ _ (colD Col.zero) (zero_of Tryz.typeInfo26 rfl) (by rfl) rfl rfl rfl rfl ?_
  refine AOps_store _ _ _ _ _ _ (colD _) _ _ rfl rfl rfl rfl rfl rfl rfl (colD_one _) (by rw [colD_length]; exact Tryz.sizeOf26) (by rw [colD_length, colD_length]; decide) (colD_whole _ _) ?_
  refine kN 1 rfl ?_
  obtain ⟨r4, hr4, h⟩ := bindO h
  obtain ⟨r5, hr5, h⟩ := bindO h
  refine ACode_seq (ACode_reg [(2, .ptr 1 0)] [.box (srcD r4.2), .box (colD r5)] ?_ ?_)
  ·refine ACode_anyU mixed ?_
   refine AU_cut 2 #[true, true, true, false, false] [(2, .ptr 1 0), (12, .d (.agg (colD r3.1))), (14, .vec 2 0)] [.box (srcD r4.2), .box (colD Col.zero), .vec 0 (intsD r4.1)] ?_ (fun hS0 => ?_)
   ·refine AU_one 3 (by kernel_rfl) rfl rfl ?_
    refine AOps_callL [] 15 _ _ _ _ _ _ _ _ _ _ rfl rfl rfl rfl rfl rfl rfl Tryz.call86 rfl (nodupB_sound _ rfl) rfl rfl rfl (spec_l01Renamed_ac k r3.1 r4.1 _ hr5) ?_
    rintro _ _ ⟨rfl, rfl⟩
    refine ⟨(fun _ h => nomatch h), (allc (flat_agg (colD_flat _)) (fun _ h => nomatch h)), AOps_as 15 (v' := .d (.agg (colD r5))) (H' := [.box (srcD r4.2), .box (colD Col.zero), .vec 0 (intsD r4.1)]) rfl rfl ?_⟩
    refine AOps_nil ?_
    refine AU_one 4 (by kernel_rfl) rfl rfl ?_
    refine AOps_store _ _ _ _ _ _ (colD _) _ _ rfl rfl rfl rfl rfl rfl rfl (colD_one _) (by rw [colD_length]; exact Tryz.sizeOf26) (by rw [colD_length, colD_length]; decide) (colD_whole _ _) ?_
    refine AOps_nil ?_
    refine AU_done (by kernel_rfl) ?_
    exact ⟨rfl, Weak_keep 1 hm [2] [1] _ _ rfl rfl rfl⟩
   refine AU_u 1 13 _ rfl (by kernel_rfl) rfl rfl rfl (UOp_move _ _ rfl rfl) ?_
   refine AU_all [0, 2] (by kernel_rfl) rfl (allc ?_ (allc ?_ (fun _ h => nomatch h)))
   ·refine US_of 0 rfl rfl ?_
    refine AOps_q 12 _ rfl rfl rfl (QOp_loadN_ptr _ _ _ _ _ _ _ rfl Tryz.isAgg26 Tryz.sizeOf26 rfl rfl (colD_all _) (colD_length _)) ?_
    refine AOps_nil ?_
    refine AU_one 2 (by kernel_rfl) rfl rfl ?_
    refine kC [0] 14 (.vec 3 0) [.box (srcD r4.2), .box (colD Col.zero), .box (colD r3.1), .vec 0 (intsD r4.1)] rfl Tryz.call87 rfl rfl (spec_l01DrawOrder_ac k r1.2 5 _ hr4) rfl ?_
    refine AOps_nil ?_
    exact AU_to (by kernel_rfl) hS0 (Weak_keep 1 hm [2, 12, 14] [1, 3] _ _ rfl rfl rfl)
   refine US_of 2 rfl rfl ?_
   refine kC [0] 14 (.vec 3 0) [.box (srcD r4.2), .box (colD Col.zero), .box (colD r3.1), .vec 0 (intsD r4.1)] rfl Tryz.call87 rfl rfl (spec_l01DrawOrder_ac k r1.2 5 _ hr4) rfl ?_
   refine AOps_nil ?_
   refine AU_one 0 (by kernel_rfl) rfl rfl ?_
   refine AOps_q 12 _ rfl rfl rfl (QOp_loadN_ptr _ _ _ _ _ _ _ rfl Tryz.isAgg26 Tryz.sizeOf26 rfl rfl (colD_all _) (colD_length _)) ?_
   refine AOps_nil ?_
   exact AU_to (by kernel_rfl) hS0 (Weak_keep 1 hm [2, 12, 14] [1, 3] _ _ rfl rfl rfl)
  refine ACode_ret ?_
  cases h
  exact ⟨_, _, fun r a w h => ⟨r, h⟩, _, _, [], _, (.cons (ResV_agg _ _ _ _ _ _ Tryz.isAgg26 Tryz.sizeOf26 rfl rfl (colD_take _) (colD_length _)) .nil), rfl, rfl, rfl, rfl, rfl⟩
 refine ACode_skip ?_
 refine kR ?_
 refine kM 2 rfl ?_
 obtain ⟨r6, hr6, h⟩ := bindO h
 refine kC [0] 18 (iV r6.1) [.box (srcD r6.2), .box (colD Col.zero)] rfl Tryz.call51 rfl rfl (spec_l01Next_ac r1.2 6 _ hr6) rfl ?_
 refine AOps_q 19 _ rfl rfl rfl (QOp_add _ _ _ _ _ _ _ rfl rfl rfl) ?_
 refine kM 1 rfl ?_
 refine AOps_buildSlice 21 _ _ _ [_, _, _, _, _, _] (intsD ([1, 2, 2, 2, 3, 4])) _ rfl rfl rfl rfl rfl (by decide) Tryz.underlying27 Tryz.sizeOf2 (zero_of Tryz.typeInfo2 rfl) rfl rfl (intsD_one _) ?_
 refine AOps_freezeL [21] 2 0 _ (allc (rfl) (fun _ h => nomatch h)) rfl ?_
 obtain ⟨r7, hr7, h⟩ := bindO h
 refine kC [0] 22 (iV r7.1) [.box (srcD r7.2), .box (colD Col.zero), .gone] rfl Tryz.call53 rfl rfl (spec_l01Pick_ac r6.2 ([1, 2, 2, 2, 3, 4]) _ hr7) rfl ?_
 obtain ⟨r8, hr8, h⟩ := bindO h
 refine kC [0] 23 (.d (.agg (colD r8.1))) [.box (srcD r8.2), .box (colD Col.zero), .gone] rfl Tryz.call89 rfl rfl (spec_l01DrawOf_ac k r7.2 (w64 (1 + r6.1)) r7.1 _ hr8) rfl ?_
 refine AOps_store _ _ _ _ _ _ (colD _) _ _ rfl rfl rfl rfl rfl rfl rfl (colD_one _) (by rw [colD_length]; exact Tryz.sizeOf26) (by rw [colD_length, colD_length]; decide) (colD_whole _ _) ?_
 refine AOps_nil ?_
 refine ACode_ret ?_
 cases h
 exact ⟨_, _, fun r a w h => ⟨r, h⟩, _, _, [], _, (.cons (ResV_agg _ _ _ _ _ _ Tryz.isAgg26 Tryz.sizeOf26 rfl rfl (colD_take _) (colD_length _)) .nil), rfl, rfl, rfl, rfl, rfl⟩

-- loop.example/g01362/spec.l05With
def spec_l05With_l0 (r7 : Col × Bool) (r8 : List Int × Src) : Nat → Int → (List Int) → Option (List Int × Src × Col)
 | 0, _, _ => none
 | k0 + 1, x12, x13 => (if decide (x12 < (x13.length : Int)) then (if 0 ≤ x12 ∧ x12 < (x13.length : Int) then spec_l05With_l0 r7 r8 k0 (w64 (x12 + 1)) (x13.set x12.toNat 3) else none) else some (x13, r8.2, r7.1))
def spec_l05With (k : Nat) (p0 : Src) : Option (Col × List Int × Src) :=
 (spec_l05Grown k p0).bind fun r1 => ((spec_l01Next r1.2.2 6).bind fun r2 => (if decide (r2.1 = 0) then (spec_l01Next r2.2 5).bind fun r5 => (if 0 ≤ r5.1 ∧ r5.1 < ((spec_l01Names).length : Int) then (spec_l01Named k ((spec_l01Names).getD r5.1.toNat ByteArray.empty)).bind fun r7 => (spec_l05DrawSizes k r5.2 r7.1.k).bind fun r8 => letO (if decide (r7.1.p = 5) then true else decide (r7.1.k = 3)) fun (s10 : Bool) => (if s10 then spec_l05With_l0 r7 r8 k 0 r8.1 else some (r8.1, r8.2, r7.1)) else none) else (if decide (r2.1 = 1) then (spec_l01Small k r2.2).bind fun r17 => (spec_l05DrawSizes k r17.2 r17.1.k).bind fun r18 => some (r18.1, r18.2, r17.1) else some (r1.2.1, r2.2, r1.1))) : Option (List Int × Src × Col)).bind fun s19 => ((spec_l01Next s19.2.1 20).bind fun r20 => (if decide (r20.1 = 0) then (spec_l01Own s19.1).bind fun r22 => (if r22.length + ([3]).length ≤ 1099511627776 then some ((r22 ++ ([3])), r20.2) else none) else (if decide (r20.1 = 1) then (spec_l01Own s19.1).bind fun r25 => (spec_l01Pick r20.2 ([0, 1, 1, 18, (-1)])).bind fun r26 => (if 0 ≤ (0 : Int) ∧ (0 : Int) < (r25.length : Int) then some (r25.set (0 : Int).toNat r26.1, r26.2) else none) else some (s19.1, r20.2))) : Option (List Int × Src)).bind fun s28 => some (s19.2.2, s28.1, s28.2)
set_option maxRecDepth 100000 in
theorem spec_l05With_ac (k : Nat) (p0 : Src) (r : Col × List Int × Src) (h : spec_l05With k p0 = some r) : AC Tryz.prog 49 [.ptr 0 0] [.box (srcD p0)] (fun res H' => res = [.d (.agg (colD r.1)), .d (.sl none (intsD r.2.1))] ∧ H' = [.box (srcD r.2.2)]) := by
 refine AC_of_body true Tryz.func49 rfl Tryz.ntmps49 (rvs := [.cell 2 26, .tmp 3]) rfl rfl (fun G hG => ?_)
 have hm : G.H.length = 1 := by rw [hG]; rfl
 have hz : zeroG G.H = true := by rw [hG]; rfl
 unfold spec_l05With at h
 refine kR ?_
 refine AOps_alloc 2 _ _ (colD Col.zero) (zero_of Tryz.typeInfo26 rfl) (by rfl) rfl rfl rfl rfl ?_
 refine kN 1 rfl ?_
 refine kR ?_
 refine kM 1 rfl ?_
 obtain ⟨r1, hr1, h⟩ := bindO h
 refine kC [0] 10 (.tup [.d (.agg (colD r1.1)), .d (.sl none (intsD r1.2.1))]) [.box (srcD r1.2.2), .box (colD Col.zero)] rfl Tryz.call80 rfl rfl (spec_l05Grown_ac k p0 _ hr1) rfl ?_
 refine kM 3 rfl ?_
 refine AOps_alloc 4 _ _ (colD Col.zero) (zero_of Tryz.typeInfo26 rfl) (by rfl) rfl rfl rfl rfl ?_
 refine AOps_store _ _ _ _ _ _ (colD _) _ _ rfl rfl rfl rfl rfl rfl rfl (colD_one _) (by rw [colD_length]; exact Tryz.sizeOf26) (by rw [colD_length, colD_length]; decide) (colD_whole _ _) ?_
 refine kN 1 rfl ?_
 refine kB (fun s19 => [(0, .ptr 0 0), (2, .ptr 1 0), (4, .ptr 2 0), (5, .d (.sl none (intsD s19.1)))]) (fun s19 => [.box (srcD s19.2.1), .box (colD Col.zero), .box (colD s19.2.2)]) h (fun s19 h => ?_) (fun s19 h => ?_)
 ·refine kR ?_
  refine kM 1 rfl ?_
  obtain ⟨r2, hr2, h⟩ := bindO h
  refine kC [0] 14 (iV r2.1) [.box (srcD r2.2), .box (colD Col.zero), .box (colD r1.1)] rfl Tryz.call51 rfl rfl (spec_l01Next_ac r1.2.2 6 _ hr2) rfl ?_
  refine AOps_nil ?_
  refine ACode_block ?_
  refine kR ?_
  refine AOps_q 16 _ rfl rfl rfl (QOp_eql _ _ _ _ _ _ _ rfl rfl rfl) ?_
  refine kN 1 rfl ?_
  refine kI h rfl (fun h _ => ?_) (fun h _ => ?_)
  ·refine kR ?_
   refine kC [] 17 (.vec 3 0) [.box (srcD r2.2), .box (colD Col.zero), .box (colD r1.1), .vec 0 (stsD (spec_l01Names))] rfl Tryz.call81 rfl rfl (spec_l01Names_ac) rfl ?_
   refine kN 1 rfl ?_
   refine kR ?_
   refine kM 2 rfl ?_
   obtain ⟨r5, hr5, h⟩ := bindO h
   refine kC [0] 21 (iV r5.1) [.box (srcD r5.2), .box (colD Col.zero), .box (colD r1.1), .vec 0 (stsD (spec_l01Names))] rfl Tryz.call51 rfl rfl (spec_l01Next_ac r2.2 5 _ hr5) rfl ?_
   obtain ⟨hc6, h⟩ := guardO h
   refine AOps_q 22 _ rfl rfl rfl (QOp_indexAddr_vec _ _ _ _ _ _ _ _ _ rfl Tryz.underlying89 Tryz.sizeOf9 hc6.1 (by rw [stsD_length]; exact hc6.2) rfl rfl rfl) ?_
   refine AOps_q 23 _ rfl rfl rfl (QOp_load_eptr _ _ _ _ _ _ _ rfl Tryz.isAgg9 rfl rfl (stsD_get _ _ ByteArray.empty (by omega))) ?_
   obtain ⟨r7, hr7, h⟩ := bindO h
   refine kC [] 24 (.tup [.d (.agg (colD r7.1)), bV r7.2]) [.box (srcD r5.2), .box (colD Col.zero), .box (colD r1.1), .vec 0 (stsD (spec_l01Names))] rfl Tryz.call82 rfl rfl (spec_l01Named_ac k ((spec_l01Names).getD r5.1.toNat ByteArray.empty) _ hr7) rfl ?_
   refine kM 3 rfl ?_
   refine AOps_store _ _ _ _ _ _ (colD _) _ _ rfl rfl rfl rfl rfl rfl rfl (colD_one _) (by rw [colD_length]; exact Tryz.sizeOf26) (by rw [colD_length, colD_length]; decide) (colD_whole _ _) ?_
   refine AOps_nil ?_
   refine kR ?_
   refine kM 1 rfl ?_
   refine AOps_q 28 _ rfl rfl rfl (QOp_fieldAddr_ptr _ _ _ _ _ _ 1 _ _ rfl Tryz.underlying26 rfl _ Tryz.sizeOf2 rfl rfl rfl rfl) ?_
   refine AOps_q 29 _ rfl rfl rfl (QOp_load_ptr _ _ _ _ _ _ rfl Tryz.isAgg2 rfl rfl rfl) ?_
   obtain ⟨r8, hr8, h⟩ := bindO h
   refine kC [0] 30 (.vec 4 0) [.box (srcD r8.2), .box (colD Col.zero), .box (colD r7.1), .vec 0 (stsD (spec_l01Names)), .vec 0 (intsD r8.1)] rfl Tryz.call58 rfl rfl (spec_l05DrawSizes_ac k r5.2 r7.1.k _ hr8) rfl ?_
   refine kN 1 rfl ?_
   refine kL (fun s10 => [(0, .ptr 0 0), (2, .ptr 1 0), (4, .ptr 2 0), (5, .vec 3 0), (38, bV s10)]) (fun s10 => [.box (srcD r8.2), .box (colD Col.zero), .box (colD r7.1), .vec 0 (intsD r8.1)]) h (fun s10 h => ?_) (fun s10 h => ?_)
   ·refine (ACode_region ?_)
    refine AOps_q 31 _ rfl rfl rfl (QOp_fieldAddr_ptr _ _ _ _ _ _ 0 _ _ rfl Tryz.underlying26 rfl _ Tryz.sizeOf2 rfl rfl rfl rfl) ?_
    refine AOps_q 32 _ rfl rfl rfl (QOp_load_ptr _ _ _ _ _ _ rfl Tryz.isAgg2 rfl rfl rfl) ?_
    refine AOps_q 33 _ rfl rfl rfl (QOp_eql _ _ _ _ _ _ _ rfl rfl rfl) ?_
    refine kM 1 rfl ?_
    refine AOps_case 34 _ rfl (fun hb9 => ?_) (fun hb9 => ?_)
    ·have h := iteT hb9 h
     refine AOps_skip 35 rfl rfl rfl ?_
     refine AOps_skip 36 rfl rfl rfl ?_
     refine AOps_skip 37 rfl rfl rfl ?_
     refine kN 1 rfl ?_
     cases h
     exact Weak_keep 1 hm [0, 2, 4, 5, 38] [1, 2, 4] _ _ rfl rfl rfl
    have h := iteF hb9 h
    refine AOps_q 35 _ rfl rfl rfl (QOp_fieldAddr_ptr _ _ _ _ _ _ 1 _ _ rfl Tryz.underlying26 rfl _ Tryz.sizeOf2 rfl rfl rfl rfl) ?_
    refine AOps_q 36 _ rfl rfl rfl (QOp_load_ptr _ _ _ _ _ _ rfl Tryz.isAgg2 rfl rfl rfl) ?_
    refine AOps_q 37 _ rfl rfl rfl (QOp_eql _ _ _ _ _ _ _ rfl rfl rfl) ?_
    refine kN 1 rfl ?_
    cases h
    exact Weak_keep 1 hm [0, 2, 4, 5, 38] [1, 2, 4] _ _ rfl rfl rfl
   refine kI h rfl (fun h _ => ?_) (fun h _ => ?_)
   ·refine kR ?_
    refine kN 1 rfl ?_
    refine ACode_block ?_
    refine ACode_loopW (fun k0 E H => ∃ (x12 : Int) (x13 : List Int), E = [(0, .ptr 0 0), (2, .ptr 1 0), (4, .ptr 2 0), (5, .vec 3 0), (7, iV x12)] ∧ H = [.box (srcD r8.2), .box (colD Col.zero), .box (colD r7.1), .vec 0 (intsD x13)] ∧ spec_l05With_l0 r7 r8 k0 x12 x13 = some s19) k _ _ (Weak_keep 1 hm [0, 2, 4, 5, 7] [1, 2, 3] _ _ rfl rfl rfl) ⟨_, _, rfl, rfl, h⟩ ?_
    clear h
    rintro k0 E H ⟨x12, x13, rfl, rfl, h⟩
    cases k0 with
    | zero => cases (show (none : Option (List Int × Src × Col)) = some _ from h)
    | succ k0 =>
     rw [spec_l05With_l0] at h
     refine ACode_seq ?_
     refine kR ?_
     refine kM 2 rfl ?_
     refine AOps_q 41 _ rfl rfl rfl (QOp_len_vec _ _ _ _ _ _ _ _ (intsD_length _) rfl rfl rfl rfl Tryz.underlying27 rfl rfl) ?_
     refine AOps_q 42 _ rfl rfl rfl (QOp_lss _ _ _ _ _ _ _ rfl rfl rfl) ?_
     refine AOps_nil ?_
     refine kI h rfl (fun h _ => ?_) (fun h _ => ?_)
     ·refine ACode_skip ?_
      refine ACode_seq ?_
      refine ACode_block ?_
      refine (ACode_region ?_)
      refine kM 2 rfl ?_
      obtain ⟨hc15, h⟩ := guardO h
      refine AOps_q 47 _ rfl rfl rfl (QOp_indexAddr_vec _ _ _ _ _ _ _ _ _ rfl Tryz.underlying27 Tryz.sizeOf2 hc15.1 (by rw [intsD_length]; exact hc15.2) rfl rfl rfl) ?_
      refine AOps_store_eptr _ _ _ _ _ _ (intsD x13) _ rfl rfl rfl rfl rfl rfl rfl Tryz.sizeOf2 (by rw [intsD_length]; omega) ?_
      rw [intsD_set]
      refine AOps_nil ?_
      refine (ACode_region ?_)
      refine kM 1 rfl ?_
      refine AOps_q 44 _ rfl rfl rfl (QOp_add _ _ _ _ _ _ _ rfl rfl rfl) ?_
      refine kN 1 rfl ?_
      exact ⟨k0, _, _, Nat.lt_succ_self _, Weak_keep 1 hm [0, 2, 4, 5, 7] [1, 2, 3] _ _ rfl rfl rfl, _, _, rfl, rfl, h⟩
     refine ACode_exit ?_
     cases h
     exact Weak_trans (Weak_frz [5, 40] [] 3 0 _ (allc (rfl) (allc (rfl) (fun _ h => nomatch h))) (fun _ h => nomatch h) rfl) (Weak_keep 1 hm [0, 2, 4, 5] [1, 2] _ _ rfl rfl rfl)
   refine ACode_skip ?_
   cases h
   exact Weak_trans (Weak_frz [5] [] 3 0 _ (allc (rfl) (fun _ h => nomatch h)) (fun _ h => nomatch h) rfl) (Weak_keep 1 hm [0, 2, 4, 5] [1, 2] _ _ rfl rfl rfl)
  refine kR ?_
  refine AOps_q 49 _ rfl rfl rfl (QOp_eql _ _ _ _ _ _ _ rfl rfl rfl) ?_
  refine kN 1 rfl ?_
  refine kI h rfl (fun h _ => ?_) (fun h _ => ?_)
  ·refine kR ?_
   refine kM 1 rfl ?_
   obtain ⟨r17, hr17, h⟩ := bindO h
   refine kC [0] 51 (.d (.agg (colD r17.1))) [.box (srcD r17.2), .box (colD Col.zero), .box (colD r1.1)] rfl Tryz.call83 rfl rfl (spec_l01Small_ac k r2.2 _ hr17) rfl ?_
   refine AOps_store _ _ _ _ _ _ (colD _) _ _ rfl rfl rfl rfl rfl rfl rfl (colD_one _) (by rw [colD_length]; exact Tryz.sizeOf26) (by rw [colD_length, colD_length]; decide) (colD_whole _ _) ?_
   refine AOps_nil ?_
   refine (ACode_region ?_)
   refine kM 1 rfl ?_
   refine AOps_q 53 _ rfl rfl rfl (QOp_fieldAddr_ptr _ _ _ _ _ _ 1 _ _ rfl Tryz.underlying26 rfl _ Tryz.sizeOf2 rfl rfl rfl rfl) ?_
   refine AOps_q 54 _ rfl rfl rfl (QOp_load_ptr _ _ _ _ _ _ rfl Tryz.isAgg2 rfl rfl rfl) ?_
   obtain ⟨r18, hr18, h⟩ := bindO h
   refine kC [0] 55 (.vec 3 0) [.box (srcD r18.2), .box (colD Col.zero), .box (colD r17.1), .vec 0 (intsD r18.1)] rfl Tryz.call58 rfl rfl (spec_l05DrawSizes_ac k r17.2 r17.1.k _ hr18) rfl ?_
   refine kN 1 rfl ?_
   cases h
   exact Weak_trans (Weak_frz [5, 55] [] 3 0 _ (allc (rfl) (allc (rfl) (fun _ h => nomatch h))) (fun _ h => nomatch h) rfl) (Weak_keep 1 hm [0, 2, 4, 5] [1, 2] _ _ rfl rfl rfl)
  refine ACode_skip ?_
  cases h
  exact Weak_keep 1 hm [0, 2, 4, 5] [1, 2] _ _ rfl rfl rfl
 refine kB (fun s28 => [(2, .ptr 1 0), (4, .ptr 2 0), (5, .d (.sl none (intsD s28.1)))]) (fun s28 => [.box (srcD s28.2), .box (colD Col.zero), .box (colD s19.2.2)]) h (fun s28 h => ?_) (fun s28 h => ?_)
 ·refine kR ?_
  refine kM 1 rfl ?_
  obtain ⟨r20, hr20, h⟩ := bindO h
  refine kC [0] 57 (iV r20.1) [.box (srcD r20.2), .box (colD Col.zero), .box (colD s19.2.2)] rfl Tryz.call51 rfl rfl (spec_l01Next_ac s19.2.1 20 _ hr20) rfl ?_
  refine AOps_nil ?_
  refine ACode_block ?_
  refine kR ?_
  refine AOps_q 59 _ rfl rfl rfl (QOp_eql _ _ _ _ _ _ _ rfl rfl rfl) ?_
  refine kN 1 rfl ?_
  refine kI h rfl (fun h _ => ?_) (fun h _ => ?_)
  ·refine (ACode_region ?_)
   refine kM 1 rfl ?_
   obtain ⟨r22, hr22, h⟩ := bindO h
   refine kC [] 61 (.vec 3 0) [.box (srcD r20.2), .box (colD Col.zero), .box (colD s19.2.2), .vec 0 (intsD r22)] rfl Tryz.call52 rfl rfl (spec_l01Own_ac s19.1 _ hr22) rfl ?_
   refine AOps_buildSlice 62 _ _ _ [_] (intsD ([3])) _ rfl rfl rfl rfl rfl (by decide) Tryz.underlying27 Tryz.sizeOf2 (zero_of Tryz.typeInfo2 rfl) rfl rfl (intsD_one _) ?_
   obtain ⟨hc23, h⟩ := guardO h
   refine AOps_append 63 _ _ _ _ _ _ _ _ _ _ _ _ rfl rfl rfl rfl rfl rfl rfl Tryz.underlying27 Tryz.type2 rfl rfl rfl (by decide) rfl rfl rfl rfl (intsD_one _) (by rw [intsD_length, intsD_length]; exact hc23) ?_
   rw [intsD_app]
   refine kN 1 rfl ?_
   cases h
   exact Weak_trans (Weak_frz [5, 63] [] 3 1 _ (allc (rfl) (allc (rfl) (fun _ h => nomatch h))) (fun _ h => nomatch h) rfl) (Weak_keep 1 hm [2, 4, 5] [1, 2] _ _ rfl rfl rfl)
  refine kR ?_
  refine AOps_q 65 _ rfl rfl rfl (QOp_eql _ _ _ _ _ _ _ rfl rfl rfl) ?_
  refine kN 1 rfl ?_
  refine kI h rfl (fun h _ => ?_) (fun h _ => ?_)
  ·refine kR ?_
   refine kM 1 rfl ?_
   obtain ⟨r25, hr25, h⟩ := bindO h
   refine kC [] 67 (.vec 3 0) [.box (srcD r20.2), .box (colD Col.zero), .box (colD s19.2.2), .vec 0 (intsD r25)] rfl Tryz.call52 rfl rfl (spec_l01Own_ac s19.1 _ hr25) rfl ?_
   refine kN 1 rfl ?_
   refine (ACode_region ?_)
   refine kM 2 rfl ?_
   refine AOps_buildSlice 70 _ _ _ [_, _, _, _, _] (intsD ([0, 1, 1, 18, (-1)])) _ rfl rfl rfl rfl rfl (by decide) Tryz.underlying27 Tryz.sizeOf2 (zero_of Tryz.typeInfo2 rfl) rfl rfl (intsD_one _) ?_
   refine AOps_freezeL [70] 4 0 _ (allc (rfl) (fun _ h => nomatch h)) rfl ?_
   obtain ⟨r26, hr26, h⟩ := bindO h
   refine kC [0] 71 (iV r26.1) [.box (srcD r26.2), .box (colD Col.zero), .box (colD s19.2.2), .vec 0 (intsD r25), .gone] rfl Tryz.call53 rfl rfl (spec_l01Pick_ac r20.2 ([0, 1, 1, 18, (-1)]) _ hr26) rfl ?_
   obtain ⟨hc27, h⟩ := guardO h
   refine AOps_q 72 _ rfl rfl rfl (QOp_indexAddr_vec _ _ _ _ _ _ _ _ _ rfl Tryz.underlying27 Tryz.sizeOf2 hc27.1 (by rw [intsD_length]; exact hc27.2) rfl rfl rfl) ?_
   refine AOps_store_eptr _ _ _ _ _ _ (intsD r25) _ rfl rfl rfl rfl rfl rfl rfl Tryz.sizeOf2 (by rw [intsD_length]; omega) ?_
   rw [intsD_set]
   refine AOps_nil ?_
   cases h
   exact Weak_trans (Weak_frz [5, 67, 68] [] 3 0 _ (allc (rfl) (allc (rfl) (allc (rfl) (fun _ h => nomatch h)))) (fun _ h => nomatch h) rfl) (Weak_keep 1 hm [2, 4, 5] [1, 2] _ _ rfl rfl rfl)
  refine ACode_skip ?_
  cases h
  exact Weak_keep 1 hm [2, 4, 5] [1, 2] _ _ rfl rfl rfl
 refine kR ?_
 refine AOps_q 73 _ rfl rfl rfl (QOp_loadN_ptr _ _ _ _ _ _ _ rfl Tryz.isAgg26 Tryz.sizeOf26 rfl rfl (colD_all _) (colD_length _)) ?_
 refine kM 1 rfl ?_
 refine AOps_store _ _ _ _ _ _ (colD _) _ _ rfl rfl rfl rfl rfl rfl rfl (colD_one _) (by rw [colD_length]; exact Tryz.sizeOf26) (by rw [colD_length, colD_length]; decide) (colD_whole _ _) ?_
 refine kN 1 rfl ?_
 refine ACode_ret ?_
 cases h
 exact ⟨_, _, fun r a w h => ⟨r, h⟩, _, _, [], _, (.cons (ResV_agg _ _ _ _ _ _ Tryz.isAgg26 Tryz.sizeOf26 rfl rfl (colD_take _) (colD_length _)) (.cons (ResV_tmp _ _ rfl) .nil)), rfl, rfl, rfl, rfl, rfl⟩

-- loop.example/g01362/spec.l01Bad
def spec_l01Bad (p0 : Src) (p1 : Col) : Option (Col × Src) :=
 ((spec_l01Next p0 50).bind fun r1 => (if decide (r1.1 = 0) then (spec_l01Pick r1.2 ([0, 18, (-1), w64 (p1.p - 1)])).bind fun r3 => some (r3.2, (⟨r3.1, p1.k, p1.e⟩ : Col)) else (if decide (r1.1 = 1) then (spec_l01Pick r1.2 ([0, 5, (-1)])).bind fun r5 => some (r5.2, (⟨p1.p, r5.1, p1.e⟩ : Col)) else (if decide (r1.1 = 2) then (spec_l01Next r1.2 136).bind fun r7 => (spec_l01Pick r7.2 ([1, 4, 200])).bind fun r8 => (if 0 ≤ r7.1 ∧ r7.1 < 136 then some (r8.2, p1.set r7.1.toNat (toByte r8.1)) else none) else some (r1.2, p1)))) : Option (Src × Col)).bind fun s10 => some (s10.2, s10.1)
set_option maxRecDepth 100000 in
theorem spec_l01Bad_ac (p0 : Src) (p1 : Col) (r : Col × Src) (h : spec_l01Bad p0 p1 = some r) : AC Tryz.prog 54 [.ptr 0 0, .d (.agg (colD p1))] [.box (srcD p0)] (fun res H' => res = [.d (.agg (colD r.1))] ∧ H' = [.box (srcD r.2)]) := by
 refine AC_of_body true Tryz.func54 rfl Tryz.ntmps54 (rvs := [.cell 4 26]) rfl rfl (fun G hG => ?_)
 have hm : G.H.length = 1 := by rw [hG]; rfl
 have hz : zeroG G.H = true := by rw [hG]; rfl
 unfold spec_l01Bad at h
 refine kR ?_
 refine AOps_boxM 3 _ _ (.agg (colD p1)) (colD p1) rfl (colD_one _) rfl rfl rfl rfl rfl ?_
 refine AOps_alloc 4 _ _ (colD Col.zero) (zero_of Tryz.typeInfo26 rfl) (by rfl) rfl rfl rfl rfl ?_
 refine AOps_nil ?_
 refine kB (fun s10 => [(3, .ptr 1 0), (4, .ptr 2 0)]) (fun s10 => [.box (srcD s10.1), .box (colD s10.2), .box (colD Col.zero)]) h (fun s10 h => ?_) (fun s10 h => ?_)
 ·refine kR ?_
  refine kM 1 rfl ?_
  obtain ⟨r1, hr1, h⟩ := bindO h
  refine kC [0] 6 (iV r1.1) [.box (srcD r1.2), .box (colD p1), .box (colD Col.zero)] rfl Tryz.call51 rfl rfl (spec_l01Next_ac p0 50 _ hr1) rfl ?_
  refine AOps_nil ?_
  refine ACode_block ?_
  refine kR ?_
  refine AOps_q 8 _ rfl rfl rfl (QOp_eql _ _ _ _ _ _ _ rfl rfl rfl) ?_
  refine kN 1 rfl ?_
  refine kI h rfl (fun h _ => ?_) (fun h _ => ?_)
  ·refine (ACode_region ?_)
   refine kM 1 rfl ?_
   refine AOps_q 10 _ rfl rfl rfl (QOp_fieldAddr_ptr _ _ _ _ _ _ 0 _ _ rfl Tryz.underlying26 rfl _ Tryz.sizeOf2 rfl rfl rfl rfl) ?_
   refine AOps_q 11 _ rfl rfl rfl (QOp_load_ptr _ _ _ _ _ _ rfl Tryz.isAgg2 rfl rfl rfl) ?_
   refine AOps_q 12 _ rfl rfl rfl (QOp_sub _ _ _ _ _ _ _ rfl rfl rfl) ?_
   refine AOps_buildSlice 13 _ _ _ [_, _, _, _] (intsD ([0, 18, (-1), w64 (p1.p - 1)])) _ rfl rfl rfl rfl rfl (by decide) Tryz.underlying27 Tryz.sizeOf2 (zero_of Tryz.typeInfo2 rfl) rfl rfl (intsD_one _) ?_
   refine AOps_freezeL [13] 3 0 _ (allc (rfl) (fun _ h => nomatch h)) rfl ?_
   obtain ⟨r3, hr3, h⟩ := bindO h
   refine kC [0] 14 (iV r3.1) [.box (srcD r3.2), .box (colD p1), .box (colD Col.zero), .gone] rfl Tryz.call53 rfl rfl (spec_l01Pick_ac r1.2 ([0, 18, (-1), w64 (p1.p - 1)]) _ hr3) rfl ?_
   refine AOps_q 15 _ rfl rfl rfl (QOp_fieldAddr_ptr _ _ _ _ _ _ 0 _ _ rfl Tryz.underlying26 rfl _ Tryz.sizeOf2 rfl rfl rfl rfl) ?_
   refine AOps_store1 _ _ _ _ _ _ (colD (⟨r3.1, p1.k, p1.e⟩ : Col)) _ rfl rfl rfl rfl rfl rfl rfl Tryz.sizeOf2 (by rw [colD_length]; omega) (colD_set0 _ _) ?_
   refine AOps_nil ?_
   cases h
   exact Weak_keep 1 hm [3, 4] [1, 2] _ _ rfl rfl rfl
  refine kR ?_
  refine AOps_q 17 _ rfl rfl rfl (QOp_eql _ _ _ _ _ _ _ rfl rfl rfl) ?_
  refine kN 1 rfl ?_
  refine kI h rfl (fun h _ => ?_) (fun h _ => ?_)
  ·refine (ACode_region ?_)
   refine kM 1 rfl ?_
   refine AOps_buildSlice 19 _ _ _ [_, _, _] (intsD ([0, 5, (-1)])) _ rfl rfl rfl rfl rfl (by decide) Tryz.underlying27 Tryz.sizeOf2 (zero_of Tryz.typeInfo2 rfl) rfl rfl (intsD_one _) ?_
   refine AOps_freezeL [19] 3 0 _ (allc (rfl) (fun _ h => nomatch h)) rfl ?_
   obtain ⟨r5, hr5, h⟩ := bindO h
   refine kC [0] 20 (iV r5.1) [.box (srcD r5.2), .box (colD p1), .box (colD Col.zero), .gone] rfl Tryz.call53 rfl rfl (spec_l01Pick_ac r1.2 ([0, 5, (-1)]) _ hr5) rfl ?_
   refine AOps_q 21 _ rfl rfl rfl (QOp_fieldAddr_ptr _ _ _ _ _ _ 1 _ _ rfl Tryz.underlying26 rfl _ Tryz.sizeOf2 rfl rfl rfl rfl) ?_
   refine AOps_store1 _ _ _ _ _ _ (colD (⟨p1.p, r5.1, p1.e⟩ : Col)) _ rfl rfl rfl rfl rfl rfl rfl Tryz.sizeOf2 (by rw [colD_length]; omega) (colD_set1 _ _) ?_
   refine AOps_nil ?_
   cases h
   exact Weak_keep 1 hm [3, 4] [1, 2] _ _ rfl rfl rfl
  refine kR ?_
  refine AOps_q 23 _ rfl rfl rfl (QOp_eql _ _ _ _ _ _ _ rfl rfl rfl) ?_
  refine kN 1 rfl ?_
  refine kI h rfl (fun h _ => ?_) (fun h _ => ?_)
  ·refine (ACode_region ?_)
   refine kM 1 rfl ?_
   obtain ⟨r7, hr7, h⟩ := bindO h
   refine kC [0] 25 (iV r7.1) [.box (srcD r7.2), .box (colD p1), .box (colD Col.zero)] rfl Tryz.call51 rfl rfl (spec_l01Next_ac r1.2 136 _ hr7) rfl ?_
   refine kM 1 rfl ?_
   refine AOps_buildSlice 27 _ _ _ [_, _, _] (intsD ([1, 4, 200])) _ rfl rfl rfl rfl rfl (by decide) Tryz.underlying27 Tryz.sizeOf2 (zero_of Tryz.typeInfo2 rfl) rfl rfl (intsD_one _) ?_
   refine AOps_freezeL [27] 3 0 _ (allc (rfl) (fun _ h => nomatch h)) rfl ?_
   obtain ⟨r8, hr8, h⟩ := bindO h
   refine kC [0] 28 (iV r8.1) [.box (srcD r8.2), .box (colD p1), .box (colD Col.zero), .gone] rfl Tryz.call53 rfl rfl (spec_l01Pick_ac r7.2 ([1, 4, 200]) _ hr8) rfl ?_
   refine AOps_q 29 _ rfl rfl rfl (QOp_toByte _ _ _ _ _ rfl rfl Tryz.underlying5 rfl) ?_
   refine AOps_q 30 _ rfl rfl rfl (QOp_fieldAddr_ptr _ _ _ _ _ _ 2 _ _ rfl Tryz.underlying26 rfl _ Tryz.sizeOf24 rfl rfl rfl rfl) ?_
   obtain ⟨hc9, h⟩ := guardO h
   refine AOps_q 31 _ rfl rfl rfl (QOp_indexAddrA_ptr _ _ _ _ _ _ _ _ _ _ rfl Tryz.underlying24 Tryz.sizeOf5 hc9.1 hc9.2 rfl rfl rfl rfl) ?_
   refine AOps_store1 _ _ _ _ _ _ (colD (p1.set r7.1.toNat (toByte r8.1))) _ rfl rfl rfl rfl rfl rfl rfl Tryz.sizeOf5 (by rw [colD_length]; omega) (colD_setE p1 r7.1.toNat (toByte r8.1)) ?_
   refine AOps_nil ?_
   cases h
   exact Weak_keep 1 hm [3, 4] [1, 2] _ _ rfl rfl rfl
  refine ACode_skip ?_
  cases h
  exact Weak_keep 1 hm [3, 4] [1, 2] _ _ rfl rfl rfl
 refine kR ?_
 refine AOps_q 32 _ rfl rfl rfl (QOp_loadN_ptr _ _ _ _ _ _ _ rfl Tryz.isAgg26 Tryz.sizeOf26 rfl rfl (colD_all _) (colD_length _)) ?_
 refine AOps_store _ _ _ _ _ _ (colD _) _ _ rfl rfl rfl rfl rfl rfl rfl (colD_one _) (by rw [colD_length]; exact Tryz.sizeOf26) (by rw [colD_length, colD_length]; decide) (colD_whole _ _) ?_
 refine AOps_nil ?_
 refine ACode_ret ?_
 cases h
 exact ⟨_, _, fun r a w h => ⟨r, h⟩, _, _, [], _, (.cons (ResV_agg _ _ _ _ _ _ Tryz.isAgg26 Tryz.sizeOf26 rfl rfl (colD_take _) (colD_length _)) .nil), rfl, rfl, rfl, rfl, rfl⟩

-- loop.example/g01362/spec.l05Draw
def spec_l05Draw (k : Nat) (p0 : List UInt8) : Option (Col × List Int) :=
 (spec_l01From k p0).bind fun r1 => (spec_l05With k r1).bind fun r2 => (spec_l01Bad r2.2.2 r2.1).bind fun r3 => some (r3.1, r2.2.1)
set_option maxRecDepth 100000 in
theorem spec_l05Draw_ac (k : Nat) (p0 : List UInt8) (r : Col × List Int) (h : spec_l05Draw k p0 = some r) : AC Tryz.prog 27 [.d (.sl none (bysD p0))] [] (fun res H' => res = [.d (.agg (colD r.1)), .d (.sl none (intsD r.2))] ∧ H' = []) := by
 refine AC_of_body true Tryz.func27 rfl Tryz.ntmps27 (rvs := [.cell 2 26, .tmp 3]) rfl rfl (fun G hG => ?_)
 have hm : G.H.length = 0 := by rw [hG]; rfl
 have hz : zeroG G.H = true := by rw [hG]; rfl
 unfold spec_l05Draw at h
 refine kR ?_
 refine AOps_alloc 2 _ _ (colD Col.zero) (zero_of Tryz.typeInfo26 rfl) (by rfl) rfl rfl rfl rfl ?_
 refine kN 1 rfl ?_
 refine kR ?_
 refine kM 1 rfl ?_
 obtain ⟨r1, hr1, h⟩ := bindO h
 refine kC [] 8 (.ptr 1 0) [.box (colD Col.zero), .box (srcD r1)] rfl Tryz.call48 rfl rfl (spec_l01From_ac k p0 _ hr1) rfl ?_
 refine kN 1 rfl ?_
 refine kR ?_
 refine kM 1 rfl ?_
 obtain ⟨r2, hr2, h⟩ := bindO h
 refine kC [1] 11 (.tup [.d (.agg (colD r2.1)), .d (.sl none (intsD r2.2.1))]) [.box (colD Col.zero), .box (srcD r2.2.2)] rfl Tryz.call49 rfl rfl (spec_l05With_ac k r1 _ hr2) rfl ?_
 refine kM 3 rfl ?_
 refine AOps_alloc 5 _ _ (colD Col.zero) (zero_of Tryz.typeInfo26 rfl) (by rfl) rfl rfl rfl rfl ?_
 refine AOps_store _ _ _ _ _ _ (colD _) _ _ rfl rfl rfl rfl rfl rfl rfl (colD_one _) (by rw [colD_length]; exact Tryz.sizeOf26) (by rw [colD_length, colD_length]; decide) (colD_whole _ _) ?_
 refine kN 1 rfl ?_
 refine kR ?_
 refine kM 1 rfl ?_
 refine AOps_q 15 _ rfl rfl rfl (QOp_loadN_ptr _ _ _ _ _ _ _ rfl Tryz.isAgg26 Tryz.sizeOf26 rfl rfl (colD_all _) (colD_length _)) ?_
 obtain ⟨r3, hr3, h⟩ := bindO h
 refine kC [1] 16 (.d (.agg (colD r3.1))) [.box (colD Col.zero), .box (srcD r3.2), .box (colD r2.1)] rfl Tryz.call54 rfl rfl (spec_l01Bad_ac r2.2.2 r2.1 _ hr3) rfl ?_
 refine kM 1 rfl ?_
 refine AOps_store _ _ _ _ _ _ (colD _) _ _ rfl rfl rfl rfl rfl rfl rfl (colD_one _) (by rw [colD_length]; exact Tryz.sizeOf26) (by rw [colD_length, colD_length]; decide) (colD_whole _ _) ?_
 refine kN 1 rfl ?_
 refine ACode_ret ?_
 cases h
 exact ⟨_, _, fun r a w h => ⟨r, h⟩, _, _, [], _, (.cons (ResV_agg _ _ _ _ _ _ Tryz.isAgg26 Tryz.sizeOf26 rfl rfl (colD_take _) (colD_length _)) (.cons (ResV_tmp _ _ rfl) .nil)), rfl, rfl, rfl, rfl, rfl⟩

end Go.Proofs.YtjcgphgipleccaaGreat
