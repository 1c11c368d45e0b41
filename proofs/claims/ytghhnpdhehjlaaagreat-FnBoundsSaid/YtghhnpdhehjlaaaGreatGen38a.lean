/- Plain functions of the program and that the program computes them: printed by the own tool gen.py. No conditions. -/
import Derived.Test.YtghhnpdhehjlaaaGreatSrV
import Derived.Test.YtghhnpdhehjlaaaGreatCloV
import Derived.Test.YtghhnpdhehjlaaaGreatLon
import Derived.Test.YtghhnpdhehjlaaaGreatSrc
import Derived.Test.YtghhnpdhehjlaaaGreatAb23
import Derived.Test.YtghhnpdhehjlaaaGreatAb18
import Derived.Test.YtghhnpdhehjlaaaGreatAb27
import Derived.Test.YtghhnpdhehjlaaaGreatGenN
set_option linter.unusedVariables false
set_option linter.unusedSimpArgs false
namespace Go.Proofs.YtghhnpdhehjlaaaGreat
open Go Go.RowKit Ab

-- loop.example/g01362/laws.big
def laws_big (p0 : List UInt8) : Bool :=
 decide (4096 < (p0.length : Int))
set_option maxRecDepth 100000 in
theorem laws_big_ac (p0 : List UInt8) : AC Tryz.prog 6 [.d (.sl none (bysD p0))] [] (fun res H' => res = [bV (laws_big p0)] ∧ H' = []) := by
 refine AC_of_body true Tryz.func6 rfl Tryz.ntmps6 (rvs := [.tmp 2]) rfl rfl (fun G hG => ?_)
 have hm : G.H.length = 0 := by rw [hG]; rfl
 have hz : zeroG G.H = true := by rw [hG]; rfl
 obtain ⟨r, h⟩ : ∃ r, laws_big p0 = r := ⟨_, rfl⟩
 rw [h]
 unfold laws_big at h
 refine kR ?_
 refine kN 1 rfl ?_
 refine kR ?_
 refine kM 1 rfl ?_
 refine AOps_q 4 _ rfl rfl rfl (QOp_len_sl _ _ _ _ _ _ _ (bysD_length _) rfl rfl rfl rfl Tryz.underlying22 rfl) ?_
 refine AOps_q 5 _ rfl rfl rfl (QOp_gtr _ _ _ _ _ _ _ rfl rfl rfl) ?_
 refine kN 1 rfl ?_
 refine ACode_ret ?_
 cases h
 exact ⟨_, _, fun r a w h => ⟨r, h⟩, _, _, [], _, (.cons (ResV_tmp _ _ rfl) .nil), rfl, rfl, rfl, rfl, rfl⟩

-- loop.example/g01362/spec.l01From
def spec_l01From_l0 (p0 : List UInt8) : Nat → Int → Src → Option (Src)
 | 0, _, _ => none
 | k0 + 1, x1, x2 => (letO (if decide (x1 < (p0.length : Int)) then decide (x1 < 4096) else false) fun (s4 : Bool) => (if s4 then some (.inl ()) else (some x2).bind fun rr => some (.inr rr)) : Option (Sum (Unit) (Src))).bind fun os6 => (match os6 with | .inl s6 => (if 0 ≤ x1 ∧ x1 < (p0.length : Int) then spec_l01From_l0 p0 k0 (w64 (x1 + 1)) (⟨x2.c, x2.i, IntKind.u64.wrap ((IntKind.u64.wrap ((IntKind.u64.wrap (x2.h * 1099511628211)) + ((p0.getD x1.toNat 0).toNat : Int))) + 193)⟩ : Src) else none) | .inr rr => some rr)
def spec_l01From (k : Nat) (p0 : List UInt8) : Option (Src) :=
 (spec_l01From_l0 p0 k 0 (⟨p0, 0, IntKind.u64.wrap (13621 + (IntKind.u64.wrap (p0.length : Int)))⟩ : Src) : Option (Src)).bind fun s8 => some s8
set_option maxRecDepth 100000 in
theorem spec_l01From_ac (k : Nat) (p0 : List UInt8) (r : Src) (h : spec_l01From k p0 = some r) : AC Tryz.prog 57 [.d (.sl none (bysD p0))] [] (fun res H' => res = [.ptr 0 0] ∧ H' = [.box (srcD r)]) := by
 refine AC_of_body true Tryz.func57 rfl Tryz.ntmps57 (rvs := [.tmp 2]) rfl rfl (fun G hG => ?_)
 have hm : G.H.length = 0 := by rw [hG]; rfl
 have hz : zeroG G.H = true := by rw [hG]; rfl
 unfold spec_l01From at h
 refine kR ?_
 refine kN 1 rfl ?_
 refine kR ?_
 refine kM 2 rfl ?_
 refine AOps_q 7 _ rfl rfl rfl (QOp_len_sl _ _ _ _ _ _ _ (bysD_length _) rfl rfl rfl rfl Tryz.underlying22 rfl) ?_
 refine AOps_q 8 _ rfl rfl rfl (QOp_conv _ _ _ _ _ _ rfl rfl Tryz.underlying73 rfl) ?_
 refine AOps_q 9 _ rfl rfl rfl (QOp_add _ _ _ _ _ _ _ rfl rfl rfl) ?_
 refine AOps_q 10 _ rfl rfl rfl (QOp_build _ _ [_, _] [0, 2] [.sl none (bysD p0), .s (.int .u64 (IntKind.u64.wrap (13621 + (IntKind.u64.wrap (p0.length : Int)))))] _ [.sl (some true) [], iD 0, .s (.int .u64 0)] (srcD (⟨p0, 0, IntKind.u64.wrap (13621 + (IntKind.u64.wrap (p0.length : Int)))⟩ : Src)) [(0, 1), (1, 1), (2, 1)] rfl rfl Tryz.underlying117 (zero_of Tryz.typeInfo117 rfl) (fun w => by simp [Tryz.sizeOf22, Tryz.sizeOf3, Tryz.sizeOf73]) rfl (by rfl) (by rfl) (allc (ok1 rfl) (allc (ok1 rfl) (fun _ h => nomatch h)))) ?_
 refine AOps_boxM 11 _ _ (.agg (srcD (⟨p0, 0, IntKind.u64.wrap (13621 + (IntKind.u64.wrap (p0.length : Int)))⟩ : Src))) (srcD (⟨p0, 0, IntKind.u64.wrap (13621 + (IntKind.u64.wrap (p0.length : Int)))⟩ : Src)) rfl (srcD_one _) rfl rfl rfl rfl rfl ?_
 refine kN 1 rfl ?_
 refine kB (fun s8 => [(3, .ptr 0 0)]) (fun s8 => [.box (srcD s8)]) h (fun s8 h => ?_) (fun s8 h => ?_)
 ·refine kR ?_
  refine kN 1 rfl ?_
  refine ACode_block ?_
  refine ACode_loopW (fun k0 E H => ∃ (x1 : Int) (x2 : Src), E = [(0, .d (.sl none (bysD p0))), (3, .ptr 0 0), (4, iV x1)] ∧ H = [.box (srcD x2)] ∧ spec_l01From_l0 p0 k0 x1 x2 = some s8) k _ _ (Weak_keep 0 hm [0, 3, 4] [0] _ _ rfl rfl rfl) ⟨_, _, rfl, rfl, h⟩ ?_
  clear h
  rintro k0 E H ⟨x1, x2, rfl, rfl, h⟩
  cases k0 with
  | zero => cases (show (none : Option (Src)) = some _ from h)
  | succ k0 =>
   rw [spec_l01From_l0] at h
   refine kO (fun s6 => [(0, .d (.sl none (bysD p0))), (3, .ptr 0 0), (4, iV x1)]) (fun s6 => [.box (srcD x2)]) h (fun os6 h hks6 => ?_) (fun s6 h => ?_)
   ·refine kL (fun s4 => [(0, .d (.sl none (bysD p0))), (3, .ptr 0 0), (4, iV x1), (19, bV s4)]) (fun s4 => [.box (srcD x2)]) h (fun s4 h => ?_) (fun s4 h => ?_)
    ·refine (ACode_region ?_)
     refine kM 2 rfl ?_
     refine AOps_q 14 _ rfl rfl rfl (QOp_len_sl _ _ _ _ _ _ _ (bysD_length _) rfl rfl rfl rfl Tryz.underlying22 rfl) ?_
     refine AOps_q 15 _ rfl rfl rfl (QOp_lss _ _ _ _ _ _ _ rfl rfl rfl) ?_
     refine kM 1 rfl ?_
     refine AOps_case 16 _ rfl (fun hb3 => ?_) (fun hb3 => ?_)
     ·have h := iteT hb3 h
      refine kM 1 rfl ?_
      refine AOps_q 18 _ rfl rfl rfl (QOp_lss _ _ _ _ _ _ _ rfl rfl rfl) ?_
      refine kN 1 rfl ?_
      cases h
      exact Weak_keep 0 hm [0, 3, 4, 19] [0] _ _ rfl rfl rfl
     have h := iteF hb3 h
     refine AOps_skip 17 rfl rfl rfl ?_
     refine AOps_skip 18 rfl rfl rfl ?_
     refine kN 1 rfl ?_
     cases h
     exact Weak_keep 0 hm [0, 3, 4, 19] [0] _ _ rfl rfl rfl
    refine kI h rfl (fun h _ => ?_) (fun h _ => ?_)
    ·refine ACode_skip ?_
     cases h
     exact ⟨_, rfl, Weak_keep 0 hm [0, 3, 4] [0] _ _ rfl rfl rfl⟩
    refine ACode_exit ?_
    obtain ⟨rr, hz9, h2⟩ := bindO h
    obtain rfl := Option.some.inj h2
    obtain rfl := Option.some.inj (show some rr = some _ from hks6)
    have h := hz9
    cases h
    exact Weak_keep 0 hm [3] [0] _ _ rfl rfl rfl
   refine ACode_seq ?_
   refine ACode_block ?_
   refine (ACode_last (l := [_, _, _, _, _, _, _, _, _, _, _, _, _, _, _]) mixed (by kernel_rfl) (by kernel_rfl) ?_)
   refine kQ 2 rfl ?_
   refine AQ_q 24 _ rfl rfl rfl (QOp_nilCheck_ptr _ _ _ _ rfl rfl rfl rfl) ?_
   refine AQ_q 25 _ rfl rfl rfl (QOp_fieldAddr_ptr _ _ _ _ _ _ 2 _ _ rfl Tryz.underlying117 rfl _ Tryz.sizeOf73 rfl rfl rfl rfl) ?_
   refine AQ_q 26 _ rfl rfl rfl (QOp_load_ptr _ _ _ _ _ _ rfl Tryz.isAgg73 rfl rfl rfl) ?_
   refine AQ_q 27 _ rfl rfl rfl (QOp_mul _ _ _ _ _ _ _ rfl rfl rfl) ?_
   refine kQ 2 rfl ?_
   obtain ⟨hc7, h⟩ := guardO h
   refine AQ_q 30 _ rfl rfl rfl (QOp_indexAddr_sl _ _ _ _ _ _ _ _ rfl Tryz.underlying22 Tryz.sizeOf5 hc7.1 (by rw [bysD_length]; exact hc7.2) rfl rfl) ?_
   refine AQ_q 31 _ rfl rfl rfl (QOp_load_pv _ _ _ _ _ rfl Tryz.isAgg5 rfl (bysD_get _ _ 0 (by omega))) ?_
   refine AQ_q 32 _ rfl rfl rfl (QOp_fromByte _ _ _ _ _ rfl rfl Tryz.underlying73 wrap_u64_byte rfl) ?_
   refine AQ_q 33 _ rfl rfl rfl (QOp_add _ _ _ _ _ _ _ rfl rfl rfl) ?_
   refine AQ_q 34 _ rfl rfl rfl (QOp_add _ _ _ _ _ _ _ rfl rfl rfl) ?_
   refine AQ_q 35 _ rfl rfl rfl (QOp_nilCheck_ptr _ _ _ _ rfl rfl rfl rfl) ?_
   refine AQ_q 36 _ rfl rfl rfl (QOp_fieldAddr_ptr _ _ _ _ _ _ 2 _ _ rfl Tryz.underlying117 rfl _ Tryz.sizeOf73 rfl rfl rfl rfl) ?_
   refine AQ_nil ?_
   refine AOps_store1 _ _ _ _ _ _ (srcD (⟨x2.c, x2.i, IntKind.u64.wrap ((IntKind.u64.wrap ((IntKind.u64.wrap (x2.h * 1099511628211)) + ((p0.getD x1.toNat 0).toNat : Int))) + 193)⟩ : Src)) _ rfl rfl rfl rfl rfl rfl rfl Tryz.sizeOf73 (by rw [srcD_length]; decide) (srcD_set2 _ _) ?_
   refine AOps_nil ?_
   refine (ACode_region ?_)
   refine kM 1 rfl ?_
   refine AOps_q 21 _ rfl rfl rfl (QOp_add _ _ _ _ _ _ _ rfl rfl rfl) ?_
   refine kN 1 rfl ?_
   exact ⟨k0, _, _, Nat.lt_succ_self _, Weak_keep 0 hm [0, 3, 4] [0] _ _ rfl rfl rfl, _, _, rfl, rfl, h⟩
 refine kR ?_
 refine kN 2 rfl ?_
 refine ACode_ret ?_
 cases h
 exact ⟨_, _, Weak_reset 0 hm hz [2] _ _ rfl rfl, _, _, [0], _, (.cons (ResV_tmp _ _ rfl) .nil), rfl, rfl, rfl, rfl, rfl⟩

-- loop.example/g01362/spec.l01Next
def spec_l01Next (p0 : Src) (p1 : Int) : Option (Int × Src) :=
 (if decide (p1 < 1) then some (0, p0) else ((if decide ((⟨p0.c, p0.i, IntKind.u64.wrap ((IntKind.u64.wrap (p0.h * 6364136223846793005)) + 1442695040888963407)⟩ : Src).i < (((⟨p0.c, p0.i, IntKind.u64.wrap ((IntKind.u64.wrap (p0.h * 6364136223846793005)) + 1442695040888963407)⟩ : Src).c).length : Int)) then (if 0 ≤ (⟨p0.c, p0.i, IntKind.u64.wrap ((IntKind.u64.wrap (p0.h * 6364136223846793005)) + 1442695040888963407)⟩ : Src).i ∧ (⟨p0.c, p0.i, IntKind.u64.wrap ((IntKind.u64.wrap (p0.h * 6364136223846793005)) + 1442695040888963407)⟩ : Src).i < (((⟨p0.c, p0.i, IntKind.u64.wrap ((IntKind.u64.wrap (p0.h * 6364136223846793005)) + 1442695040888963407)⟩ : Src).c).length : Int) then some (w64 ((w64 (bAnd .u64 (bShr .u64 ((⟨p0.c, p0.i, IntKind.u64.wrap ((IntKind.u64.wrap (p0.h * 6364136223846793005)) + 1442695040888963407)⟩ : Src).h) 33) 16777215)) + ((((⟨p0.c, p0.i, IntKind.u64.wrap ((IntKind.u64.wrap (p0.h * 6364136223846793005)) + 1442695040888963407)⟩ : Src).c).getD ((⟨p0.c, p0.i, IntKind.u64.wrap ((IntKind.u64.wrap (p0.h * 6364136223846793005)) + 1442695040888963407)⟩ : Src).i).toNat 0).toNat : Int)), (⟨(⟨p0.c, p0.i, IntKind.u64.wrap ((IntKind.u64.wrap (p0.h * 6364136223846793005)) + 1442695040888963407)⟩ : Src).c, w64 (((⟨p0.c, p0.i, IntKind.u64.wrap ((IntKind.u64.wrap (p0.h * 6364136223846793005)) + 1442695040888963407)⟩ : Src).i) + 1), (⟨p0.c, p0.i, IntKind.u64.wrap ((IntKind.u64.wrap (p0.h * 6364136223846793005)) + 1442695040888963407)⟩ : Src).h⟩ : Src)) else none) else some (w64 (bAnd .u64 (bShr .u64 ((⟨p0.c, p0.i, IntKind.u64.wrap ((IntKind.u64.wrap (p0.h * 6364136223846793005)) + 1442695040888963407)⟩ : Src).h) 33) 16777215), (⟨p0.c, p0.i, IntKind.u64.wrap ((IntKind.u64.wrap (p0.h * 6364136223846793005)) + 1442695040888963407)⟩ : Src))) : Option (Int × Src)).bind fun s4 => (if p1 ≠ 0 then some (s4.1.tmod p1, s4.2) else none))
set_option maxRecDepth 100000 in
theorem spec_l01Next_ac (p0 : Src) (p1 : Int) (r : Int × Src) (h : spec_l01Next p0 p1 = some r) : AC Tryz.prog 58 [.ptr 0 0, iV p1] [.box (srcD p0)] (fun res H' => res = [iV r.1] ∧ H' = [.box (srcD r.2)]) := by
 refine AC_of_body true Tryz.func58 rfl Tryz.ntmps58 (rvs := [.tmp 4]) rfl rfl (fun G hG => ?_)
 have hm : G.H.length = 1 := by rw [hG]; rfl
 have hz : zeroG G.H = true := by rw [hG]; rfl
 unfold spec_l01Next at h
 refine kR ?_
 refine kN 1 rfl ?_
 refine ACode_seq ?_
 refine kR ?_
 refine kM 1 rfl ?_
 refine AOps_q 7 _ rfl rfl rfl (QOp_lss _ _ _ _ _ _ _ rfl rfl rfl) ?_
 refine AOps_nil ?_
 refine kI h rfl (fun h _ => ?_) (fun h _ => ?_)
 ·refine kR ?_
  refine kN 1 rfl ?_
  refine ACode_ret ?_
  cases h
  exact ⟨_, _, fun r a w h => ⟨r, h⟩, _, _, [], _, (.cons (ResV_tmp _ _ rfl) .nil), rfl, rfl, rfl, rfl, rfl⟩
 refine ACode_skip ?_
 refine kR ?_
 refine kM 2 rfl ?_
 refine AOps_q 10 _ rfl rfl rfl (QOp_nilCheck_ptr _ _ _ _ rfl rfl rfl rfl) ?_
 refine AOps_q 11 _ rfl rfl rfl (QOp_fieldAddr_ptr _ _ _ _ _ _ 2 _ _ rfl Tryz.underlying117 rfl _ Tryz.sizeOf73 rfl rfl rfl rfl) ?_
 refine AOps_q 12 _ rfl rfl rfl (QOp_load_ptr _ _ _ _ _ _ rfl Tryz.isAgg73 rfl rfl rfl) ?_
 refine AOps_q 13 _ rfl rfl rfl (QOp_mul _ _ _ _ _ _ _ rfl rfl rfl) ?_
 refine AOps_q 14 _ rfl rfl rfl (QOp_add _ _ _ _ _ _ _ rfl rfl rfl) ?_
 refine AOps_q 15 _ rfl rfl rfl (QOp_nilCheck_ptr _ _ _ _ rfl rfl rfl rfl) ?_
 refine AOps_q 16 _ rfl rfl rfl (QOp_fieldAddr_ptr _ _ _ _ _ _ 2 _ _ rfl Tryz.underlying117 rfl _ Tryz.sizeOf73 rfl rfl rfl rfl) ?_
 refine AOps_store1 _ _ _ _ _ _ (srcD (⟨p0.c, p0.i, IntKind.u64.wrap ((IntKind.u64.wrap (p0.h * 6364136223846793005)) + 1442695040888963407)⟩ : Src)) _ rfl rfl rfl rfl rfl rfl rfl Tryz.sizeOf73 (by rw [srcD_length]; decide) (srcD_set2 _ _) ?_
 refine AOps_nil ?_
 refine kR ?_
 refine kM 1 rfl ?_
 refine AOps_q 18 _ rfl rfl rfl (QOp_nilCheck_ptr _ _ _ _ rfl rfl rfl rfl) ?_
 refine AOps_q 19 _ rfl rfl rfl (QOp_fieldAddr_ptr _ _ _ _ _ _ 2 _ _ rfl Tryz.underlying117 rfl _ Tryz.sizeOf73 rfl rfl rfl rfl) ?_
 refine AOps_q 20 _ rfl rfl rfl (QOp_load_ptr _ _ _ _ _ _ rfl Tryz.isAgg73 rfl rfl rfl) ?_
 refine AOps_q 21 _ rfl rfl rfl (QOp_shr _ _ _ _ _ _ _ _ (by decide) rfl rfl rfl) ?_
 refine AOps_q 22 _ rfl rfl rfl (QOp_and _ _ _ _ _ _ _ rfl rfl rfl) ?_
 refine AOps_q 23 _ rfl rfl rfl (QOp_conv _ _ _ _ _ _ rfl rfl Tryz.underlying2 rfl) ?_
 refine kN 1 rfl ?_
 refine kB (fun s4 => [(1, iV p1), (5, iV s4.1)]) (fun s4 => [.box (srcD s4.2)]) h (fun s4 h => ?_) (fun s4 h => ?_)
 ·refine ACode_seq (ACode_quiet mixed (by kernel_rfl) ?_)
  refine kQ 1 rfl ?_
  refine AQ_q 25 _ rfl rfl rfl (QOp_nilCheck_ptr _ _ _ _ rfl rfl rfl rfl) ?_
  refine AQ_q 26 _ rfl rfl rfl (QOp_fieldAddr_ptr _ _ _ _ _ _ 1 _ _ rfl Tryz.underlying117 rfl _ Tryz.sizeOf3 rfl rfl rfl rfl) ?_
  refine AQ_q 27 _ rfl rfl rfl (QOp_load_ptr _ _ _ _ _ _ rfl Tryz.isAgg3 rfl rfl rfl) ?_
  refine kQ 1 rfl ?_
  refine AQ_q 29 _ rfl rfl rfl (QOp_nilCheck_ptr _ _ _ _ rfl rfl rfl rfl) ?_
  refine AQ_q 30 _ rfl rfl rfl (QOp_fieldAddr_ptr _ _ _ _ _ _ 0 _ _ rfl Tryz.underlying117 rfl _ Tryz.sizeOf22 rfl rfl rfl rfl) ?_
  refine AQ_q 31 _ rfl rfl rfl (QOp_load_ptr _ _ _ _ _ _ rfl Tryz.isAgg22 rfl rfl rfl) ?_
  refine AQ_q 32 _ rfl rfl rfl (QOp_len_sl _ _ _ _ _ _ _ (bysD_length _) rfl rfl rfl rfl Tryz.underlying22 rfl) ?_
  refine AQ_q 33 _ rfl rfl rfl (QOp_lss _ _ _ _ _ _ _ rfl rfl rfl) ?_
  refine AQ_nil ?_
  refine kI h rfl (fun h _ => ?_) (fun h _ => ?_)
  ·refine ACode_seq (ACode_quiet mixed (by kernel_rfl) ?_)
   refine kQ 2 rfl ?_
   refine AQ_q 36 _ rfl rfl rfl (QOp_nilCheck_ptr _ _ _ _ rfl rfl rfl rfl) ?_
   refine AQ_q 37 _ rfl rfl rfl (QOp_fieldAddr_ptr _ _ _ _ _ _ 0 _ _ rfl Tryz.underlying117 rfl _ Tryz.sizeOf22 rfl rfl rfl rfl) ?_
   refine AQ_q 38 _ rfl rfl rfl (QOp_load_ptr _ _ _ _ _ _ rfl Tryz.isAgg22 rfl rfl rfl) ?_
   refine kQ 1 rfl ?_
   refine AQ_q 40 _ rfl rfl rfl (QOp_nilCheck_ptr _ _ _ _ rfl rfl rfl rfl) ?_
   refine AQ_q 41 _ rfl rfl rfl (QOp_fieldAddr_ptr _ _ _ _ _ _ 1 _ _ rfl Tryz.underlying117 rfl _ Tryz.sizeOf3 rfl rfl rfl rfl) ?_
   refine AQ_q 42 _ rfl rfl rfl (QOp_load_ptr _ _ _ _ _ _ rfl Tryz.isAgg3 rfl rfl rfl) ?_
   obtain ⟨hc3, h⟩ := guardO h
   refine AQ_q 43 _ rfl rfl rfl (QOp_indexAddr_sl _ _ _ _ _ _ _ _ rfl Tryz.underlying22 Tryz.sizeOf5 hc3.1 (by rw [bysD_length]; exact hc3.2) rfl rfl) ?_
   refine AQ_q 44 _ rfl rfl rfl (QOp_load_pv _ _ _ _ _ rfl Tryz.isAgg5 rfl (bysD_get _ _ 0 (by omega))) ?_
   refine AQ_q 45 _ rfl rfl rfl (QOp_fromByte _ _ _ _ _ rfl rfl Tryz.underlying2 wrap_i64_byte rfl) ?_
   refine AQ_q 46 _ rfl rfl rfl (QOp_add _ _ _ _ _ _ _ rfl rfl rfl) ?_
   refine kQ 1 rfl ?_
   refine AQ_nil ?_
   refine (ACode_region ?_)
   refine kM 2 rfl ?_
   refine AOps_q 49 _ rfl rfl rfl (QOp_nilCheck_ptr _ _ _ _ rfl rfl rfl rfl) ?_
   refine AOps_q 50 _ rfl rfl rfl (QOp_fieldAddr_ptr _ _ _ _ _ _ 1 _ _ rfl Tryz.underlying117 rfl _ Tryz.sizeOf3 rfl rfl rfl rfl) ?_
   refine AOps_q 51 _ rfl rfl rfl (QOp_load_ptr _ _ _ _ _ _ rfl Tryz.isAgg3 rfl rfl rfl) ?_
   refine AOps_q 52 _ rfl rfl rfl (QOp_add _ _ _ _ _ _ _ rfl rfl rfl) ?_
   refine AOps_q 53 _ rfl rfl rfl (QOp_nilCheck_ptr _ _ _ _ rfl rfl rfl rfl) ?_
   refine AOps_q 54 _ rfl rfl rfl (QOp_fieldAddr_ptr _ _ _ _ _ _ 1 _ _ rfl Tryz.underlying117 rfl _ Tryz.sizeOf3 rfl rfl rfl rfl) ?_
   refine AOps_store1 _ _ _ _ _ _ (srcD (⟨(⟨p0.c, p0.i, IntKind.u64.wrap ((IntKind.u64.wrap (p0.h * 6364136223846793005)) + 1442695040888963407)⟩ : Src).c, w64 (((⟨p0.c, p0.i, IntKind.u64.wrap ((IntKind.u64.wrap (p0.h * 6364136223846793005)) + 1442695040888963407)⟩ : Src).i) + 1), (⟨p0.c, p0.i, IntKind.u64.wrap ((IntKind.u64.wrap (p0.h * 6364136223846793005)) + 1442695040888963407)⟩ : Src).h⟩ : Src)) _ rfl rfl rfl rfl rfl rfl rfl Tryz.sizeOf3 (by rw [srcD_length]; decide) (srcD_set1 _ _) ?_
   refine AOps_nil ?_
   cases h
   exact Weak_keep 1 hm [1, 5] [] _ _ rfl rfl rfl
  refine ACode_skip ?_
  cases h
  exact Weak_keep 1 hm [1, 5] [] _ _ rfl rfl rfl
 refine kR ?_
 refine kM 2 rfl ?_
 obtain ⟨hc5, h⟩ := guardO h
 refine AOps_q 57 _ rfl rfl rfl (QOp_rem _ _ _ _ _ _ _ hc5 rfl rfl rfl) ?_
 refine kN 1 rfl ?_
 refine ACode_ret ?_
 cases h
 exact ⟨_, _, fun r a w h => ⟨r, h⟩, _, _, [], _, (.cons (ResV_tmp _ _ rfl) .nil), rfl, rfl, rfl, rfl, rfl⟩

-- loop.example/g01362/spec.l01Pick
def spec_l01Pick (p0 : Src) (p1 : List Int) : Option (Int × Src) :=
 (spec_l01Next p0 (p1.length : Int)).bind fun r1 => (if 0 ≤ r1.1 ∧ r1.1 < (p1.length : Int) then some ((p1.getD r1.1.toNat 0), r1.2) else none)
set_option maxRecDepth 100000 in
theorem spec_l01Pick_ac (p0 : Src) (p1 : List Int) (r : Int × Src) (h : spec_l01Pick p0 p1 = some r) : AC Tryz.prog 62 [.ptr 0 0, .d (.sl none (intsD p1))] [.box (srcD p0)] (fun res H' => res = [iV r.1] ∧ H' = [.box (srcD r.2)]) := by
 refine AC_of_body true Tryz.func62 rfl Tryz.ntmps62 (rvs := [.tmp 4]) rfl rfl (fun G hG => ?_)
 have hm : G.H.length = 1 := by rw [hG]; rfl
 have hz : zeroG G.H = true := by rw [hG]; rfl
 unfold spec_l01Pick at h
 refine kR ?_
 refine kN 1 rfl ?_
 refine kR ?_
 refine kM 3 rfl ?_
 refine AOps_q 8 _ rfl rfl rfl (QOp_len_sl _ _ _ _ _ _ _ (intsD_length _) rfl rfl rfl rfl Tryz.underlying27 rfl) ?_
 obtain ⟨r1, hr1, h⟩ := bindO h
 refine kC [0] 9 (iV r1.1) [.box (srcD r1.2)] rfl Tryz.call58 rfl rfl (spec_l01Next_ac p0 (p1.length : Int) _ hr1) rfl ?_
 obtain ⟨hc2, h⟩ := guardO h
 refine AOps_q 10 _ rfl rfl rfl (QOp_indexAddr_sl _ _ _ _ _ _ _ _ rfl Tryz.underlying27 Tryz.sizeOf2 hc2.1 (by rw [intsD_length]; exact hc2.2) rfl rfl) ?_
 refine AOps_q 11 _ rfl rfl rfl (QOp_load_pv _ _ _ _ _ rfl Tryz.isAgg2 rfl (intsD_get _ _ 0 (by omega))) ?_
 refine kN 1 rfl ?_
 refine ACode_ret ?_
 cases h
 exact ⟨_, _, fun r a w h => ⟨r, h⟩, _, _, [], _, (.cons (ResV_tmp _ _ rfl) .nil), rfl, rfl, rfl, rfl, rfl⟩

-- loop.example/g01362/spec.l08Two
def spec_l08Two (k : Nat) (p0 : List UInt8) (p1 : Int) (p2 : Int) : Option (Int × Int) :=
 (spec_l01From k p0).bind fun r1 => (spec_l01Next r1 (w64 ((w64 (p2 - p1)) + 1))).bind fun r2 => (spec_l01Pick r2.2 ([4, w64 ((w64 (p2 - p1)) + 1)])).bind fun r3 => (spec_l01Next r3.2 r3.1).bind fun r4 => ((spec_l01Next r4.2 24).bind fun r5 => (if decide (r5.1 = 0) then (spec_l01Pick r5.2 ([w64 (p1 - 1), w64 (p2 + 1), (-4611686018427387904)])).bind fun r7 => some (r7.1, w64 (p1 + r4.1)) else (if decide (r5.1 = 1) then (spec_l01Pick r5.2 ([w64 (p1 - 1), w64 (p2 + 1), 1099511627776])).bind fun r9 => some (w64 (p1 + r2.1), r9.1) else some (w64 (p1 + r2.1), w64 (p1 + r4.1)))) : Option (Int × Int)).bind fun s10 => some (s10.1, s10.2)
set_option maxRecDepth 100000 in
theorem spec_l08Two_ac (k : Nat) (p0 : List UInt8) (p1 : Int) (p2 : Int) (r : Int × Int) (h : spec_l08Two k p0 p1 p2 = some r) : AC Tryz.prog 59 [.d (.sl none (bysD p0)), iV p1, iV p2] [] (fun res H' => res = [iV r.1, iV r.2] ∧ H' = []) := by
 refine AC_of_body true Tryz.func59 rfl Tryz.ntmps59 (rvs := [.tmp 6, .tmp 7]) rfl rfl (fun G hG => ?_)
 have hm : G.H.length = 0 := by rw [hG]; rfl
 have hz : zeroG G.H = true := by rw [hG]; rfl
 unfold spec_l08Two at h
 refine kR ?_
 refine kN 2 rfl ?_
 refine kR ?_
 refine kM 1 rfl ?_
 obtain ⟨r1, hr1, h⟩ := bindO h
 refine kC [] 12 (.ptr 0 0) [.box (srcD r1)] rfl Tryz.call57 rfl rfl (spec_l01From_ac k p0 _ hr1) rfl ?_
 refine kN 1 rfl ?_
 refine kR ?_
 refine kM 4 rfl ?_
 refine AOps_q 17 _ rfl rfl rfl (QOp_sub _ _ _ _ _ _ _ rfl rfl rfl) ?_
 refine AOps_q 18 _ rfl rfl rfl (QOp_add _ _ _ _ _ _ _ rfl rfl rfl) ?_
 obtain ⟨r2, hr2, h⟩ := bindO h
 refine kC [0] 19 (iV r2.1) [.box (srcD r2.2)] rfl Tryz.call58 rfl rfl (spec_l01Next_ac r1 (w64 ((w64 (p2 - p1)) + 1)) _ hr2) rfl ?_
 refine AOps_q 20 _ rfl rfl rfl (QOp_add _ _ _ _ _ _ _ rfl rfl rfl) ?_
 refine kM 5 rfl ?_
 refine AOps_q 26 _ rfl rfl rfl (QOp_sub _ _ _ _ _ _ _ rfl rfl rfl) ?_
 refine AOps_q 27 _ rfl rfl rfl (QOp_add _ _ _ _ _ _ _ rfl rfl rfl) ?_
 refine AOps_buildSlice 28 _ _ _ [_, _] (intsD ([4, w64 ((w64 (p2 - p1)) + 1)])) _ rfl rfl rfl rfl rfl (by decide) Tryz.underlying27 Tryz.sizeOf2 (zero_of Tryz.typeInfo2 rfl) rfl rfl (intsD_one _) ?_
 refine AOps_freezeL [28] 1 0 _ (allc (rfl) (fun _ h => nomatch h)) rfl ?_
 obtain ⟨r3, hr3, h⟩ := bindO h
 refine kC [0] 29 (iV r3.1) [.box (srcD r3.2), .gone] rfl Tryz.call62 rfl rfl (spec_l01Pick_ac r2.2 ([4, w64 ((w64 (p2 - p1)) + 1)]) _ hr3) rfl ?_
 obtain ⟨r4, hr4, h⟩ := bindO h
 refine kC [0] 30 (iV r4.1) [.box (srcD r4.2), .gone] rfl Tryz.call58 rfl rfl (spec_l01Next_ac r3.2 r3.1 _ hr4) rfl ?_
 refine AOps_q 31 _ rfl rfl rfl (QOp_add _ _ _ _ _ _ _ rfl rfl rfl) ?_
 refine kN 2 rfl ?_
 refine kB (fun s10 => [(9, iV s10.1), (10, iV s10.2)]) (fun s10 => []) h (fun s10 h => ?_) (fun s10 h => ?_)
 ·refine kR ?_
  refine kM 1 rfl ?_
  obtain ⟨r5, hr5, h⟩ := bindO h
  refine kC [0] 33 (iV r5.1) [.box (srcD r5.2), .gone] rfl Tryz.call58 rfl rfl (spec_l01Next_ac r4.2 24 _ hr5) rfl ?_
  refine AOps_nil ?_
  refine ACode_block ?_
  refine kR ?_
  refine AOps_q 35 _ rfl rfl rfl (QOp_eql _ _ _ _ _ _ _ rfl rfl rfl) ?_
  refine kN 1 rfl ?_
  refine kI h rfl (fun h _ => ?_) (fun h _ => ?_)
  ·refine (ACode_region ?_)
   refine kM 2 rfl ?_
   refine AOps_q 38 _ rfl rfl rfl (QOp_sub _ _ _ _ _ _ _ rfl rfl rfl) ?_
   refine kM 1 rfl ?_
   refine AOps_q 40 _ rfl rfl rfl (QOp_add _ _ _ _ _ _ _ rfl rfl rfl) ?_
   refine AOps_buildSlice 41 _ _ _ [_, _, _] (intsD ([w64 (p1 - 1), w64 (p2 + 1), (-4611686018427387904)])) _ rfl rfl rfl rfl rfl (by decide) Tryz.underlying27 Tryz.sizeOf2 (zero_of Tryz.typeInfo2 rfl) rfl rfl (intsD_one _) ?_
   refine AOps_freezeL [41] 2 0 _ (allc (rfl) (fun _ h => nomatch h)) rfl ?_
   obtain ⟨r7, hr7, h⟩ := bindO h
   refine kC [0] 42 (iV r7.1) [.box (srcD r7.2), .gone, .gone] rfl Tryz.call62 rfl rfl (spec_l01Pick_ac r5.2 ([w64 (p1 - 1), w64 (p2 + 1), (-4611686018427387904)]) _ hr7) rfl ?_
   refine kN 1 rfl ?_
   cases h
   exact Weak_keep 0 hm [9, 10] [] _ _ rfl rfl rfl
  refine kR ?_
  refine AOps_q 44 _ rfl rfl rfl (QOp_eql _ _ _ _ _ _ _ rfl rfl rfl) ?_
  refine kN 1 rfl ?_
  refine kI h rfl (fun h _ => ?_) (fun h _ => ?_)
  ·refine (ACode_region ?_)
   refine kM 2 rfl ?_
   refine AOps_q 47 _ rfl rfl rfl (QOp_sub _ _ _ _ _ _ _ rfl rfl rfl) ?_
   refine kM 1 rfl ?_
   refine AOps_q 49 _ rfl rfl rfl (QOp_add _ _ _ _ _ _ _ rfl rfl rfl) ?_
   refine AOps_buildSlice 50 _ _ _ [_, _, _] (intsD ([w64 (p1 - 1), w64 (p2 + 1), 1099511627776])) _ rfl rfl rfl rfl rfl (by decide) Tryz.underlying27 Tryz.sizeOf2 (zero_of Tryz.typeInfo2 rfl) rfl rfl (intsD_one _) ?_
   refine AOps_freezeL [50] 2 0 _ (allc (rfl) (fun _ h => nomatch h)) rfl ?_
   obtain ⟨r9, hr9, h⟩ := bindO h
   refine kC [0] 51 (iV r9.1) [.box (srcD r9.2), .gone, .gone] rfl Tryz.call62 rfl rfl (spec_l01Pick_ac r5.2 ([w64 (p1 - 1), w64 (p2 + 1), 1099511627776]) _ hr9) rfl ?_
   refine kN 1 rfl ?_
   cases h
   exact Weak_keep 0 hm [9, 10] [] _ _ rfl rfl rfl
  refine ACode_skip ?_
  cases h
  exact Weak_keep 0 hm [9, 10] [] _ _ rfl rfl rfl
 refine kR ?_
 refine kN 4 rfl ?_
 refine ACode_ret ?_
 cases h
 exact ⟨_, _, fun r a w h => ⟨r, h⟩, _, _, [], _, (.cons (ResV_tmp _ _ rfl) (.cons (ResV_tmp _ _ rfl) .nil)), rfl, rfl, rfl, rfl, rfl⟩

-- loop.example/g01362/spec.DrawKnownNumber
def spec_DrawKnownNumber (k : Nat) (p0 : List UInt8) : Option (Int × Int) :=
 (spec_l01From k p0).bind fun r1 => (spec_l01Next r1 2).bind fun r2 => (if decide (r2.1 = 0) then (spec_l01Next r2.2 5).bind fun r4 => (spec_l01Next r4.2 5).bind fun r5 => some (w64 (1 + r4.1), w64 (1 + r5.1)) else (spec_l08Two k p0 1 17).bind fun r6 => some (r6.1, r6.2))
set_option maxRecDepth 100000 in
theorem spec_DrawKnownNumber_ac (k : Nat) (p0 : List UInt8) (r : Int × Int) (h : spec_DrawKnownNumber k p0 = some r) : AC Tryz.prog 7 [.d (.sl none (bysD p0))] [] (fun res H' => res = [iV r.1, iV r.2] ∧ H' = []) := by
 refine AC_of_body true Tryz.func7 rfl Tryz.ntmps7 (rvs := [.tmp 2, .tmp 3]) rfl rfl (fun G hG => ?_)
 have hm : G.H.length = 0 := by rw [hG]; rfl
 have hz : zeroG G.H = true := by rw [hG]; rfl
 unfold spec_DrawKnownNumber at h
 refine kR ?_
 refine kN 2 rfl ?_
 refine kR ?_
 refine kM 1 rfl ?_
 obtain ⟨r1, hr1, h⟩ := bindO h
 refine kC [] 6 (.ptr 0 0) [.box (srcD r1)] rfl Tryz.call57 rfl rfl (spec_l01From_ac k p0 _ hr1) rfl ?_
 refine kN 1 rfl ?_
 refine ACode_seq ?_
 refine kR ?_
 refine kM 1 rfl ?_
 obtain ⟨r2, hr2, h⟩ := bindO h
 refine kC [0] 8 (iV r2.1) [.box (srcD r2.2)] rfl Tryz.call58 rfl rfl (spec_l01Next_ac r1 2 _ hr2) rfl ?_
 refine AOps_q 9 _ rfl rfl rfl (QOp_eql _ _ _ _ _ _ _ rfl rfl rfl) ?_
 refine AOps_nil ?_
 refine kI h rfl (fun h _ => ?_) (fun h _ => ?_)
 ·refine kR ?_
  refine kM 1 rfl ?_
  obtain ⟨r4, hr4, h⟩ := bindO h
  refine kC [0] 11 (iV r4.1) [.box (srcD r4.2)] rfl Tryz.call58 rfl rfl (spec_l01Next_ac r2.2 5 _ hr4) rfl ?_
  refine AOps_q 12 _ rfl rfl rfl (QOp_add _ _ _ _ _ _ _ rfl rfl rfl) ?_
  refine kM 1 rfl ?_
  obtain ⟨r5, hr5, h⟩ := bindO h
  refine kC [0] 14 (iV r5.1) [.box (srcD r5.2)] rfl Tryz.call58 rfl rfl (spec_l01Next_ac r4.2 5 _ hr5) rfl ?_
  refine AOps_q 15 _ rfl rfl rfl (QOp_add _ _ _ _ _ _ _ rfl rfl rfl) ?_
  refine kN 2 rfl ?_
  refine ACode_ret ?_
  cases h
  exact ⟨_, _, fun r a w h => ⟨r, h⟩, _, _, [], _, (.cons (ResV_tmp _ _ rfl) (.cons (ResV_tmp _ _ rfl) .nil)), rfl, rfl, rfl, rfl, rfl⟩
 refine ACode_skip ?_
 refine kR ?_
 refine kM 1 rfl ?_
 obtain ⟨r6, hr6, h⟩ := bindO h
 refine kC [] 17 (.tup [iV r6.1, iV r6.2]) [.box (srcD r2.2)] rfl Tryz.call59 rfl rfl (spec_l08Two_ac k p0 1 17 _ hr6) rfl ?_
 refine kN 4 rfl ?_
 refine ACode_ret ?_
 cases h
 exact ⟨_, _, fun r a w h => ⟨r, h⟩, _, _, [], _, (.cons (ResV_tmp _ _ rfl) (.cons (ResV_tmp _ _ rfl) .nil)), rfl, rfl, rfl, rfl, rfl⟩

-- loop.example/g01362/impl.in
def impl_in (p0 : Int) (p1 : Int) (p2 : Int) : Bool :=
 letO (if decide (p1 ≤ p0) then decide (p0 ≤ p2) else false) fun (s2 : Bool) => s2
set_option maxRecDepth 100000 in
theorem impl_in_ac (p0 : Int) (p1 : Int) (p2 : Int) : AC Tryz.prog 60 [iV p0, iV p1, iV p2] [] (fun res H' => res = [bV (impl_in p0 p1 p2)] ∧ H' = []) := by
 refine AC_of_body true Tryz.func60 rfl Tryz.ntmps60 (rvs := [.tmp 6]) rfl rfl (fun G hG => ?_)
 have hm : G.H.length = 0 := by rw [hG]; rfl
 have hz : zeroG G.H = true := by rw [hG]; rfl
 obtain ⟨r, h⟩ : ∃ r, impl_in p0 p1 p2 = r := ⟨_, rfl⟩
 rw [h]
 unfold impl_in at h
 refine kR ?_
 refine kN 1 rfl ?_
 refine kL (fun s2 => [(6, bV s2)]) (fun s2 => []) h (fun s2 h => ?_) (fun s2 h => ?_)
 ·refine (ACode_region ?_)
  refine kM 2 rfl ?_
  refine AOps_q 9 _ rfl rfl rfl (QOp_geq _ _ _ _ _ _ _ rfl rfl rfl) ?_
  refine kM 1 rfl ?_
  refine AOps_case 10 _ rfl (fun hb1 => ?_) (fun hb1 => ?_)
  ·have h := iteT hb1 h
   refine kM 2 rfl ?_
   refine AOps_q 13 _ rfl rfl rfl (QOp_leq _ _ _ _ _ _ _ rfl rfl rfl) ?_
   refine kN 2 rfl ?_
   cases h
   exact Weak_keep 0 hm [6] [] _ _ rfl rfl rfl
  have h := iteF hb1 h
  refine AOps_skip 11 rfl rfl rfl ?_
  refine AOps_skip 12 rfl rfl rfl ?_
  refine AOps_skip 13 rfl rfl rfl ?_
  refine kN 2 rfl ?_
  cases h
  exact Weak_keep 0 hm [6] [] _ _ rfl rfl rfl
 refine ACode_ret ?_
 cases h
 exact ⟨_, _, fun r a w h => ⟨r, h⟩, _, _, [], _, (.cons (ResV_tmp _ _ rfl) .nil), rfl, rfl, rfl, rfl, rfl⟩

-- loop.example/g01362/impl.KnownNumber
def impl_KnownNumber (p0 : Int) (p1 : Int) : Option (Int × Int) :=
 (letO (if !(impl_in p0 1 17) then true else !(impl_in p1 1 17)) fun (s4 : Bool) => (if s4 then some (.inr (0, 2)) else some (.inl ())) : Option (Sum (Unit) (Int × Int))).bind fun os6 => (match os6 with | .inl s6 => ((if decide ((if p1 < p0 then p1 else p0) = 1) then some (.inr (1, 0)) else (if decide ((if p1 < p0 then p1 else p0) = 2) then some (.inr ((if p0 < p1 then p1 else p0), 0)) else letO (if decide ((if p1 < p0 then p1 else p0) = 3) then decide ((if p0 < p1 then p1 else p0) = 3) else false) fun (s10 : Bool) => (if s10 then some (.inr (6, 0)) else letO (if decide ((if p1 < p0 then p1 else p0) = 3) then decide ((if p0 < p1 then p1 else p0) = 4) else false) fun (s13 : Bool) => (if s13 then some (.inr (9, 0)) else letO (if decide ((if p1 < p0 then p1 else p0) = 3) then decide ((if p0 < p1 then p1 else p0) = 5) else false) fun (s16 : Bool) => (if s16 then some (.inr (14, 0)) else letO (if decide ((if p1 < p0 then p1 else p0) = 4) then decide ((if p0 < p1 then p1 else p0) = 4) else false) fun (s19 : Bool) => (if s19 then some (.inr (18, 0)) else some (.inl ()))))))) : Option (Sum (Unit) (Int × Int))).bind fun os21 => (match os21 with | .inl s21 => some (0, 4) | .inr rr => some rr) | .inr rr => some rr)
set_option maxRecDepth 100000 in
theorem impl_KnownNumber_ac (p0 : Int) (p1 : Int) (r : Int × Int) (h : impl_KnownNumber p0 p1 = some r) : AC Tryz.prog 8 [iV p0, iV p1] [] (fun res H' => res = [iV r.1, iV r.2] ∧ H' = []) := by
 refine AC_of_body true Tryz.func8 rfl Tryz.ntmps8 (rvs := [.tmp 4, .tmp 5]) rfl rfl (fun G hG => ?_)
 have hm : G.H.length = 0 := by rw [hG]; rfl
 have hz : zeroG G.H = true := by rw [hG]; rfl
 unfold impl_KnownNumber at h
 refine kR ?_
 refine kN 2 rfl ?_
 refine kO (fun s6 => [(0, iV p0), (1, iV p1)]) (fun s6 => []) h (fun os6 h hks6 => ?_) (fun s6 h => ?_)
 ·refine kL (fun s4 => [(0, iV p0), (1, iV p1), (13, bV s4)]) (fun s4 => []) h (fun s4 h => ?_) (fun s4 h => ?_)
  ·refine (ACode_region ?_)
   refine kM 1 rfl ?_
   refine kC [] 7 (bV (impl_in p0 1 17)) [] rfl Tryz.call60 rfl rfl (impl_in_ac p0 1 17) rfl ?_
   refine AOps_q 8 _ rfl rfl rfl (QOp_not _ _ _ rfl rfl) ?_
   refine kM 1 rfl ?_
   refine AOps_case 9 _ rfl (fun hb2 => ?_) (fun hb2 => ?_)
   ·have h := iteT hb2 h
    refine AOps_skip 10 rfl rfl rfl ?_
    refine AOps_skip 11 rfl rfl rfl ?_
    refine AOps_skip 12 rfl rfl rfl ?_
    refine kN 1 rfl ?_
    cases h
    exact Weak_keep 0 hm [0, 1, 13] [] _ _ rfl rfl rfl
   have h := iteF hb2 h
   refine kM 1 rfl ?_
   refine kC [] 11 (bV (impl_in p1 1 17)) [] rfl Tryz.call60 rfl rfl (impl_in_ac p1 1 17) rfl ?_
   refine AOps_q 12 _ rfl rfl rfl (QOp_not _ _ _ rfl rfl) ?_
   refine kN 1 rfl ?_
   cases h
   exact Weak_keep 0 hm [0, 1, 13] [] _ _ rfl rfl rfl
  refine kI h rfl (fun h _ => ?_) (fun h _ => ?_)
  ·refine kR ?_
   refine kN 2 rfl ?_
   refine ACode_ret ?_
   cases h
   have h := hks6
   cases h
   exact ⟨_, _, fun r a w h => ⟨r, h⟩, _, _, [], _, (.cons (ResV_tmp _ _ rfl) (.cons (ResV_tmp _ _ rfl) .nil)), rfl, rfl, rfl, rfl, rfl⟩
  refine ACode_skip ?_
  cases h
  exact ⟨_, rfl, Weak_keep 0 hm [0, 1] [] _ _ rfl rfl rfl⟩
 refine kR ?_
 refine kM 2 rfl ?_
 refine AOps_q 16 _ rfl rfl rfl (QOp_min _ _ _ _ _ _ rfl rfl rfl rfl rfl) ?_
 refine kM 2 rfl ?_
 refine AOps_q 19 _ rfl rfl rfl (QOp_max _ _ _ _ _ _ rfl rfl rfl rfl rfl) ?_
 refine kN 2 rfl ?_
 refine kO (fun s21 => []) (fun s21 => []) h (fun os21 h hks21 => ?_) (fun s21 h => ?_)
 ·refine ACode_block ?_
  refine kR ?_
  refine kM 1 rfl ?_
  refine AOps_q 22 _ rfl rfl rfl (QOp_eql _ _ _ _ _ _ _ rfl rfl rfl) ?_
  refine kN 1 rfl ?_
  refine kI h rfl (fun h _ => ?_) (fun h _ => ?_)
  ·refine kR ?_
   refine kN 2 rfl ?_
   refine ACode_ret ?_
   cases h
   have h := hks21
   cases h
   exact ⟨_, _, fun r a w h => ⟨r, h⟩, _, _, [], _, (.cons (ResV_tmp _ _ rfl) (.cons (ResV_tmp _ _ rfl) .nil)), rfl, rfl, rfl, rfl, rfl⟩
  refine kR ?_
  refine kM 1 rfl ?_
  refine AOps_q 25 _ rfl rfl rfl (QOp_eql _ _ _ _ _ _ _ rfl rfl rfl) ?_
  refine kN 1 rfl ?_
  refine kI h rfl (fun h _ => ?_) (fun h _ => ?_)
  ·refine kR ?_
   refine kN 3 rfl ?_
   refine ACode_ret ?_
   cases h
   have h := hks21
   cases h
   exact ⟨_, _, fun r a w h => ⟨r, h⟩, _, _, [], _, (.cons (ResV_tmp _ _ rfl) (.cons (ResV_tmp _ _ rfl) .nil)), rfl, rfl, rfl, rfl, rfl⟩
  refine kL (fun s10 => [(0, iV (if p1 < p0 then p1 else p0)), (1, iV (if p0 < p1 then p1 else p0)), (27, bV s10)]) (fun s10 => []) h (fun s10 h => ?_) (fun s10 h => ?_)
  ·refine (ACode_region ?_)
   refine kM 1 rfl ?_
   refine AOps_q 29 _ rfl rfl rfl (QOp_eql _ _ _ _ _ _ _ rfl rfl rfl) ?_
   refine kM 1 rfl ?_
   refine AOps_case 30 _ rfl (fun hb9 => ?_) (fun hb9 => ?_)
   ·have h := iteT hb9 h
    refine kM 1 rfl ?_
    refine AOps_q 32 _ rfl rfl rfl (QOp_eql _ _ _ _ _ _ _ rfl rfl rfl) ?_
    refine kN 2 rfl ?_
    cases h
    exact Weak_keep 0 hm [0, 1, 27] [] _ _ rfl rfl rfl
   have h := iteF hb9 h
   refine AOps_skip 31 rfl rfl rfl ?_
   refine AOps_skip 32 rfl rfl rfl ?_
   refine kN 2 rfl ?_
   cases h
   exact Weak_keep 0 hm [0, 1, 27] [] _ _ rfl rfl rfl
  refine kI h rfl (fun h _ => ?_) (fun h _ => ?_)
  ·refine kR ?_
   refine kN 2 rfl ?_
   refine ACode_ret ?_
   cases h
   have h := hks21
   cases h
   exact ⟨_, _, fun r a w h => ⟨r, h⟩, _, _, [], _, (.cons (ResV_tmp _ _ rfl) (.cons (ResV_tmp _ _ rfl) .nil)), rfl, rfl, rfl, rfl, rfl⟩
  refine kL (fun s13 => [(0, iV (if p1 < p0 then p1 else p0)), (1, iV (if p0 < p1 then p1 else p0)), (34, bV s13)]) (fun s13 => []) h (fun s13 h => ?_) (fun s13 h => ?_)
  ·refine (ACode_region ?_)
   refine kM 1 rfl ?_
   refine AOps_q 36 _ rfl rfl rfl (QOp_eql _ _ _ _ _ _ _ rfl rfl rfl) ?_
   refine kM 1 rfl ?_
   refine AOps_case 37 _ rfl (fun hb12 => ?_) (fun hb12 => ?_)
   ·have h := iteT hb12 h
    refine kM 1 rfl ?_
    refine AOps_q 39 _ rfl rfl rfl (QOp_eql _ _ _ _ _ _ _ rfl rfl rfl) ?_
    refine kN 2 rfl ?_
    cases h
    exact Weak_keep 0 hm [0, 1, 34] [] _ _ rfl rfl rfl
   have h := iteF hb12 h
   refine AOps_skip 38 rfl rfl rfl ?_
   refine AOps_skip 39 rfl rfl rfl ?_
   refine kN 2 rfl ?_
   cases h
   exact Weak_keep 0 hm [0, 1, 34] [] _ _ rfl rfl rfl
  refine kI h rfl (fun h _ => ?_) (fun h _ => ?_)
  ·refine kR ?_
   refine kN 2 rfl ?_
   refine ACode_ret ?_
   cases h
   have h := hks21
   cases h
   exact ⟨_, _, fun r a w h => ⟨r, h⟩, _, _, [], _, (.cons (ResV_tmp _ _ rfl) (.cons (ResV_tmp _ _ rfl) .nil)), rfl, rfl, rfl, rfl, rfl⟩
  refine kL (fun s16 => [(0, iV (if p1 < p0 then p1 else p0)), (1, iV (if p0 < p1 then p1 else p0)), (41, bV s16)]) (fun s16 => []) h (fun s16 h => ?_) (fun s16 h => ?_)
  ·refine (ACode_region ?_)
   refine kM 1 rfl ?_
   refine AOps_q 43 _ rfl rfl rfl (QOp_eql _ _ _ _ _ _ _ rfl rfl rfl) ?_
   refine kM 1 rfl ?_
   refine AOps_case 44 _ rfl (fun hb15 => ?_) (fun hb15 => ?_)
   ·have h := iteT hb15 h
    refine kM 1 rfl ?_
    refine AOps_q 46 _ rfl rfl rfl (QOp_eql _ _ _ _ _ _ _ rfl rfl rfl) ?_
    refine kN 2 rfl ?_
    cases h
    exact Weak_keep 0 hm [0, 1, 41] [] _ _ rfl rfl rfl
   have h := iteF hb15 h
   refine AOps_skip 45 rfl rfl rfl ?_
   refine AOps_skip 46 rfl rfl rfl ?_
   refine kN 2 rfl ?_
   cases h
   exact Weak_keep 0 hm [0, 1, 41] [] _ _ rfl rfl rfl
  refine kI h rfl (fun h _ => ?_) (fun h _ => ?_)
  ·refine kR ?_
   refine kN 2 rfl ?_
   refine ACode_ret ?_
   cases h
   have h := hks21
   cases h
   exact ⟨_, _, fun r a w h => ⟨r, h⟩, _, _, [], _, (.cons (ResV_tmp _ _ rfl) (.cons (ResV_tmp _ _ rfl) .nil)), rfl, rfl, rfl, rfl, rfl⟩
  refine kL (fun s19 => [(48, bV s19)]) (fun s19 => []) h (fun s19 h => ?_) (fun s19 h => ?_)
  ·refine (ACode_region ?_)
   refine kM 1 rfl ?_
   refine AOps_q 50 _ rfl rfl rfl (QOp_eql _ _ _ _ _ _ _ rfl rfl rfl) ?_
   refine kM 1 rfl ?_
   refine AOps_case 51 _ rfl (fun hb18 => ?_) (fun hb18 => ?_)
   ·have h := iteT hb18 h
    refine kM 1 rfl ?_
    refine AOps_q 53 _ rfl rfl rfl (QOp_eql _ _ _ _ _ _ _ rfl rfl rfl) ?_
    refine kN 2 rfl ?_
    cases h
    exact Weak_keep 0 hm [48] [] _ _ rfl rfl rfl
   have h := iteF hb18 h
   refine AOps_skip 52 rfl rfl rfl ?_
   refine AOps_skip 53 rfl rfl rfl ?_
   refine kN 2 rfl ?_
   cases h
   exact Weak_keep 0 hm [48] [] _ _ rfl rfl rfl
  refine kI h rfl (fun h _ => ?_) (fun h _ => ?_)
  ·refine kR ?_
   refine kN 2 rfl ?_
   refine ACode_ret ?_
   cases h
   have h := hks21
   cases h
   exact ⟨_, _, fun r a w h => ⟨r, h⟩, _, _, [], _, (.cons (ResV_tmp _ _ rfl) (.cons (ResV_tmp _ _ rfl) .nil)), rfl, rfl, rfl, rfl, rfl⟩
  refine ACode_skip ?_
  cases h
  exact ⟨_, rfl, Weak_keep 0 hm [] [] _ _ rfl rfl rfl⟩
 refine kR ?_
 refine kN 2 rfl ?_
 refine ACode_ret ?_
 cases h
 exact ⟨_, _, fun r a w h => ⟨r, h⟩, _, _, [], _, (.cons (ResV_tmp _ _ rfl) (.cons (ResV_tmp _ _ rfl) .nil)), rfl, rfl, rfl, rfl, rfl⟩

-- loop.example/g01362/spec.l01In
def spec_l01In (p0 : Int) (p1 : Int) (p2 : Int) : Bool :=
 letO (if decide (p1 ≤ p0) then decide (p0 ≤ p2) else false) fun (s2 : Bool) => s2
set_option maxRecDepth 100000 in
theorem spec_l01In_ac (p0 : Int) (p1 : Int) (p2 : Int) : AC Tryz.prog 61 [iV p0, iV p1, iV p2] [] (fun res H' => res = [bV (spec_l01In p0 p1 p2)] ∧ H' = []) := by
 refine AC_of_body true Tryz.func61 rfl Tryz.ntmps61 (rvs := [.tmp 6]) rfl rfl (fun G hG => ?_)
 have hm : G.H.length = 0 := by rw [hG]; rfl
 have hz : zeroG G.H = true := by rw [hG]; rfl
 obtain ⟨r, h⟩ : ∃ r, spec_l01In p0 p1 p2 = r := ⟨_, rfl⟩
 rw [h]
 unfold spec_l01In at h
 refine kR ?_
 refine kN 1 rfl ?_
 refine kL (fun s2 => [(6, bV s2)]) (fun s2 => []) h (fun s2 h => ?_) (fun s2 h => ?_)
 ·refine (ACode_region ?_)
  refine kM 2 rfl ?_
  refine AOps_q 9 _ rfl rfl rfl (QOp_geq _ _ _ _ _ _ _ rfl rfl rfl) ?_
  refine kM 1 rfl ?_
  refine AOps_case 10 _ rfl (fun hb1 => ?_) (fun hb1 => ?_)
  ·have h := iteT hb1 h
   refine kM 2 rfl ?_
   refine AOps_q 13 _ rfl rfl rfl (QOp_leq _ _ _ _ _ _ _ rfl rfl rfl) ?_
   refine kN 2 rfl ?_
   cases h
   exact Weak_keep 0 hm [6] [] _ _ rfl rfl rfl
  have h := iteF hb1 h
  refine AOps_skip 11 rfl rfl rfl ?_
  refine AOps_skip 12 rfl rfl rfl ?_
  refine AOps_skip 13 rfl rfl rfl ?_
  refine kN 2 rfl ?_
  cases h
  exact Weak_keep 0 hm [6] [] _ _ rfl rfl rfl
 refine ACode_ret ?_
 cases h
 exact ⟨_, _, fun r a w h => ⟨r, h⟩, _, _, [], _, (.cons (ResV_tmp _ _ rfl) .nil), rfl, rfl, rfl, rfl, rfl⟩

-- loop.example/g01362/spec.KnownNumber
def spec_KnownNumber (p0 : Int) (p1 : Int) : Option (Int × Int) :=
 (letO (if !(spec_l01In p0 1 17) then true else !(spec_l01In p1 1 17)) fun (s4 : Bool) => (if s4 then some (.inr (0, 2)) else some (.inl ())) : Option (Sum (Unit) (Int × Int))).bind fun os6 => (match os6 with | .inl s6 => ((if decide ((if p1 < p0 then p1 else p0) = 1) then some (.inr (1, 0)) else (if decide ((if p1 < p0 then p1 else p0) = 2) then some (.inr ((if p0 < p1 then p1 else p0), 0)) else letO (if decide ((if p1 < p0 then p1 else p0) = 3) then decide ((if p0 < p1 then p1 else p0) = 3) else false) fun (s10 : Bool) => (if s10 then some (.inr (6, 0)) else letO (if decide ((if p1 < p0 then p1 else p0) = 3) then decide ((if p0 < p1 then p1 else p0) = 4) else false) fun (s13 : Bool) => (if s13 then some (.inr (9, 0)) else letO (if decide ((if p1 < p0 then p1 else p0) = 3) then decide ((if p0 < p1 then p1 else p0) = 5) else false) fun (s16 : Bool) => (if s16 then some (.inr (14, 0)) else letO (if decide ((if p1 < p0 then p1 else p0) = 4) then decide ((if p0 < p1 then p1 else p0) = 4) else false) fun (s19 : Bool) => (if s19 then some (.inr (18, 0)) else some (.inl ()))))))) : Option (Sum (Unit) (Int × Int))).bind fun os21 => (match os21 with | .inl s21 => some (0, 4) | .inr rr => some rr) | .inr rr => some rr)
set_option maxRecDepth 100000 in
theorem spec_KnownNumber_ac (p0 : Int) (p1 : Int) (r : Int × Int) (h : spec_KnownNumber p0 p1 = some r) : AC Tryz.prog 9 [iV p0, iV p1] [] (fun res H' => res = [iV r.1, iV r.2] ∧ H' = []) := by
 refine AC_of_body true Tryz.func9 rfl Tryz.ntmps9 (rvs := [.tmp 4, .tmp 5]) rfl rfl (fun G hG => ?_)
 have hm : G.H.length = 0 := by rw [hG]; rfl
 have hz : zeroG G.H = true := by rw [hG]; rfl
 unfold spec_KnownNumber at h
 refine kR ?_
 refine kN 2 rfl ?_
 refine kO (fun s6 => [(0, iV p0), (1, iV p1)]) (fun s6 => []) h (fun os6 h hks6 => ?_) (fun s6 h => ?_)
 ·refine kL (fun s4 => [(0, iV p0), (1, iV p1), (15, bV s4)]) (fun s4 => []) h (fun s4 h => ?_) (fun s4 h => ?_)
  ·refine (ACode_region ?_)
   refine kM 1 rfl ?_
   refine kC [] 9 (bV (spec_l01In p0 1 17)) [] rfl Tryz.call61 rfl rfl (spec_l01In_ac p0 1 17) rfl ?_
   refine AOps_q 10 _ rfl rfl rfl (QOp_not _ _ _ rfl rfl) ?_
   refine kM 1 rfl ?_
   refine AOps_case 11 _ rfl (fun hb2 => ?_) (fun hb2 => ?_)
   ·have h := iteT hb2 h
    refine AOps_skip 12 rfl rfl rfl ?_
    refine AOps_skip 13 rfl rfl rfl ?_
    refine AOps_skip 14 rfl rfl rfl ?_
    refine kN 1 rfl ?_
    cases h
    exact Weak_keep 0 hm [0, 1, 15] [] _ _ rfl rfl rfl
   have h := iteF hb2 h
   refine kM 1 rfl ?_
   refine kC [] 13 (bV (spec_l01In p1 1 17)) [] rfl Tryz.call61 rfl rfl (spec_l01In_ac p1 1 17) rfl ?_
   refine AOps_q 14 _ rfl rfl rfl (QOp_not _ _ _ rfl rfl) ?_
   refine kN 1 rfl ?_
   cases h
   exact Weak_keep 0 hm [0, 1, 15] [] _ _ rfl rfl rfl
  refine kI h rfl (fun h _ => ?_) (fun h _ => ?_)
  ·refine kR ?_
   refine kN 2 rfl ?_
   refine ACode_ret ?_
   cases h
   have h := hks6
   cases h
   exact ⟨_, _, fun r a w h => ⟨r, h⟩, _, _, [], _, (.cons (ResV_tmp _ _ rfl) (.cons (ResV_tmp _ _ rfl) .nil)), rfl, rfl, rfl, rfl, rfl⟩
  refine ACode_skip ?_
  cases h
  exact ⟨_, rfl, Weak_keep 0 hm [0, 1] [] _ _ rfl rfl rfl⟩
 refine kR ?_
 refine kM 2 rfl ?_
 refine AOps_q 18 _ rfl rfl rfl (QOp_min _ _ _ _ _ _ rfl rfl rfl rfl rfl) ?_
 refine kM 2 rfl ?_
 refine AOps_q 21 _ rfl rfl rfl (QOp_max _ _ _ _ _ _ rfl rfl rfl rfl rfl) ?_
 refine kN 2 rfl ?_
 refine kO (fun s21 => []) (fun s21 => []) h (fun os21 h hks21 => ?_) (fun s21 h => ?_)
 ·refine ACode_block ?_
  refine kR ?_
  refine kM 1 rfl ?_
  refine AOps_q 24 _ rfl rfl rfl (QOp_eql _ _ _ _ _ _ _ rfl rfl rfl) ?_
  refine kN 1 rfl ?_
  refine kI h rfl (fun h _ => ?_) (fun h _ => ?_)
  ·refine kR ?_
   refine kN 2 rfl ?_
   refine ACode_ret ?_
   cases h
   have h := hks21
   cases h
   exact ⟨_, _, fun r a w h => ⟨r, h⟩, _, _, [], _, (.cons (ResV_tmp _ _ rfl) (.cons (ResV_tmp _ _ rfl) .nil)), rfl, rfl, rfl, rfl, rfl⟩
  refine kR ?_
  refine kM 1 rfl ?_
  refine AOps_q 27 _ rfl rfl rfl (QOp_eql _ _ _ _ _ _ _ rfl rfl rfl) ?_
  refine kN 1 rfl ?_
  refine kI h rfl (fun h _ => ?_) (fun h _ => ?_)
  ·refine kR ?_
   refine kN 3 rfl ?_
   refine ACode_ret ?_
   cases h
   have h := hks21
   cases h
   exact ⟨_, _, fun r a w h => ⟨r, h⟩, _, _, [], _, (.cons (ResV_tmp _ _ rfl) (.cons (ResV_tmp _ _ rfl) .nil)), rfl, rfl, rfl, rfl, rfl⟩
  refine kL (fun s10 => [(6, iV (if p1 < p0 then p1 else p0)), (7, iV (if p0 < p1 then p1 else p0)), (29, bV s10)]) (fun s10 => []) h (fun s10 h => ?_) (fun s10 h => ?_)
  ·refine (ACode_region ?_)
   refine kM 1 rfl ?_
   refine AOps_q 31 _ rfl rfl rfl (QOp_eql _ _ _ _ _ _ _ rfl rfl rfl) ?_
   refine kM 1 rfl ?_
   refine AOps_case 32 _ rfl (fun hb9 => ?_) (fun hb9 => ?_)
   ·have h := iteT hb9 h
    refine kM 1 rfl ?_
    refine AOps_q 34 _ rfl rfl rfl (QOp_eql _ _ _ _ _ _ _ rfl rfl rfl) ?_
    refine kN 2 rfl ?_
    cases h
    exact Weak_keep 0 hm [6, 7, 29] [] _ _ rfl rfl rfl
   have h := iteF hb9 h
   refine AOps_skip 33 rfl rfl rfl ?_
   refine AOps_skip 34 rfl rfl rfl ?_
   refine kN 2 rfl ?_
   cases h
   exact Weak_keep 0 hm [6, 7, 29] [] _ _ rfl rfl rfl
  refine kI h rfl (fun h _ => ?_) (fun h _ => ?_)
  ·refine kR ?_
   refine kN 2 rfl ?_
   refine ACode_ret ?_
   cases h
   have h := hks21
   cases h
   exact ⟨_, _, fun r a w h => ⟨r, h⟩, _, _, [], _, (.cons (ResV_tmp _ _ rfl) (.cons (ResV_tmp _ _ rfl) .nil)), rfl, rfl, rfl, rfl, rfl⟩
  refine kL (fun s13 => [(6, iV (if p1 < p0 then p1 else p0)), (7, iV (if p0 < p1 then p1 else p0)), (36, bV s13)]) (fun s13 => []) h (fun s13 h => ?_) (fun s13 h => ?_)
  ·refine (ACode_region ?_)
   refine kM 1 rfl ?_
   refine AOps_q 38 _ rfl rfl rfl (QOp_eql _ _ _ _ _ _ _ rfl rfl rfl) ?_
   refine kM 1 rfl ?_
   refine AOps_case 39 _ rfl (fun hb12 => ?_) (fun hb12 => ?_)
   ·have h := iteT hb12 h
    refine kM 1 rfl ?_
    refine AOps_q 41 _ rfl rfl rfl (QOp_eql _ _ _ _ _ _ _ rfl rfl rfl) ?_
    refine kN 2 rfl ?_
    cases h
    exact Weak_keep 0 hm [6, 7, 36] [] _ _ rfl rfl rfl
   have h := iteF hb12 h
   refine AOps_skip 40 rfl rfl rfl ?_
   refine AOps_skip 41 rfl rfl rfl ?_
   refine kN 2 rfl ?_
   cases h
   exact Weak_keep 0 hm [6, 7, 36] [] _ _ rfl rfl rfl
  refine kI h rfl (fun h _ => ?_) (fun h _ => ?_)
  ·refine kR ?_
   refine kN 2 rfl ?_
   refine ACode_ret ?_
   cases h
   have h := hks21
   cases h
   exact ⟨_, _, fun r a w h => ⟨r, h⟩, _, _, [], _, (.cons (ResV_tmp _ _ rfl) (.cons (ResV_tmp _ _ rfl) .nil)), rfl, rfl, rfl, rfl, rfl⟩
  refine kL (fun s16 => [(6, iV (if p1 < p0 then p1 else p0)), (7, iV (if p0 < p1 then p1 else p0)), (43, bV s16)]) (fun s16 => []) h (fun s16 h => ?_) (fun s16 h => ?_)
  ·refine (ACode_region ?_)
   refine kM 1 rfl ?_
   refine AOps_q 45 _ rfl rfl rfl (QOp_eql _ _ _ _ _ _ _ rfl rfl rfl) ?_
   refine kM 1 rfl ?_
   refine AOps_case 46 _ rfl (fun hb15 => ?_) (fun hb15 => ?_)
   ·have h := iteT hb15 h
    refine kM 1 rfl ?_
    refine AOps_q 48 _ rfl rfl rfl (QOp_eql _ _ _ _ _ _ _ rfl rfl rfl) ?_
    refine kN 2 rfl ?_
    cases h
    exact Weak_keep 0 hm [6, 7, 43] [] _ _ rfl rfl rfl
   have h := iteF hb15 h
   refine AOps_skip 47 rfl rfl rfl ?_
   refine AOps_skip 48 rfl rfl rfl ?_
   refine kN 2 rfl ?_
   cases h
   exact Weak_keep 0 hm [6, 7, 43] [] _ _ rfl rfl rfl
  refine kI h rfl (fun h _ => ?_) (fun h _ => ?_)
  ·refine kR ?_
   refine kN 2 rfl ?_
   refine ACode_ret ?_
   cases h
   have h := hks21
   cases h
   exact ⟨_, _, fun r a w h => ⟨r, h⟩, _, _, [], _, (.cons (ResV_tmp _ _ rfl) (.cons (ResV_tmp _ _ rfl) .nil)), rfl, rfl, rfl, rfl, rfl⟩
  refine kL (fun s19 => [(50, bV s19)]) (fun s19 => []) h (fun s19 h => ?_) (fun s19 h => ?_)
  ·refine (ACode_region ?_)
   refine kM 1 rfl ?_
   refine AOps_q 52 _ rfl rfl rfl (QOp_eql _ _ _ _ _ _ _ rfl rfl rfl) ?_
   refine kM 1 rfl ?_
   refine AOps_case 53 _ rfl (fun hb18 => ?_) (fun hb18 => ?_)
   ·have h := iteT hb18 h
    refine kM 1 rfl ?_
    refine AOps_q 55 _ rfl rfl rfl (QOp_eql _ _ _ _ _ _ _ rfl rfl rfl) ?_
    refine kN 2 rfl ?_
    cases h
    exact Weak_keep 0 hm [50] [] _ _ rfl rfl rfl
   have h := iteF hb18 h
   refine AOps_skip 54 rfl rfl rfl ?_
   refine AOps_skip 55 rfl rfl rfl ?_
   refine kN 2 rfl ?_
   cases h
   exact Weak_keep 0 hm [50] [] _ _ rfl rfl rfl
  refine kI h rfl (fun h _ => ?_) (fun h _ => ?_)
  ·refine kR ?_
   refine kN 2 rfl ?_
   refine ACode_ret ?_
   cases h
   have h := hks21
   cases h
   exact ⟨_, _, fun r a w h => ⟨r, h⟩, _, _, [], _, (.cons (ResV_tmp _ _ rfl) (.cons (ResV_tmp _ _ rfl) .nil)), rfl, rfl, rfl, rfl, rfl⟩
  refine ACode_skip ?_
  cases h
  exact ⟨_, rfl, Weak_keep 0 hm [] [] _ _ rfl rfl rfl⟩
 refine kR ?_
 refine kN 2 rfl ?_
 refine ACode_ret ?_
 cases h
 exact ⟨_, _, fun r a w h => ⟨r, h⟩, _, _, [], _, (.cons (ResV_tmp _ _ rfl) (.cons (ResV_tmp _ _ rfl) .nil)), rfl, rfl, rfl, rfl, rfl⟩

-- loop.example/g01362/spec.DrawNeighbourBound
def spec_DrawNeighbourBound_l0 : Nat → Int → Src → (List Int) → Option (Src × List Int)
 | 0, _, _, _ => none
 | k0 + 1, x3, x4, x5 => (if decide (0 < x3) then (spec_l01Next x4 8).bind fun r7 => (spec_l01Pick r7.2 ([2, 3, 3, 4, 4, 5, w64 (1 + r7.1)])).bind fun r8 => (if x5.length + ([r8.1]).length ≤ 1099511627776 then spec_DrawNeighbourBound_l0 k0 (w64 (x3 - 1)) r8.2 (x5 ++ ([r8.1])) else none) else some (x4, x5))
def spec_DrawNeighbourBound (k : Nat) (p0 : List UInt8) : Option (List Int) :=
 (spec_l01From k p0).bind fun r1 => ((spec_l01Pick r1 ([1, 2, 2, 2, 3, 3, 4])).bind fun r2 => spec_DrawNeighbourBound_l0 k r2.1 r2.2 ([] : List Int) : Option (Src × List Int)).bind fun s10 => ((spec_l01Next s10.1 24).bind fun r11 => (if decide (r11.1 = 0) then (if s10.2.length + ([3, 3, 3]).length ≤ 1099511627776 then some (.inl (s10.2 ++ ([3, 3, 3]))) else none) else (if decide (r11.1 = 1) then (spec_l01Pick r11.2 ([0, 9])).bind fun r15 => (if 0 ≤ (0 : Int) ∧ (0 : Int) < (s10.2.length : Int) then some (.inl (s10.2.set (0 : Int).toNat r15.1)) else none) else (if decide (r11.1 = 2) then some (.inr ([] : List Int)) else some (.inl s10.2)))) : Option (Sum (List Int) (List Int))).bind fun os18 => (match os18 with | .inl s18 => some s18 | .inr rr => some rr)
set_option maxRecDepth 100000 in
theorem spec_DrawNeighbourBound_ac (k : Nat) (p0 : List UInt8) (r : List Int) (h : spec_DrawNeighbourBound k p0 = some r) : AC Tryz.prog 10 [.d (.sl none (bysD p0))] [] (fun res H' => res = [.vec 0 0] ∧ H' = [.vec 0 (intsD r)]) := by
 refine AC_of_body true Tryz.func10 rfl Tryz.ntmps10 (rvs := [.tmp 2]) rfl rfl (fun G hG => ?_)
 have hm : G.H.length = 0 := by rw [hG]; rfl
 have hz : zeroG G.H = true := by rw [hG]; rfl
 unfold spec_DrawNeighbourBound at h
 refine kR ?_
 refine kN 1 rfl ?_
 refine kR ?_
 refine kM 1 rfl ?_
 obtain ⟨r1, hr1, h⟩ := bindO h
 refine kC [] 7 (.ptr 0 0) [.box (srcD r1)] rfl Tryz.call57 rfl rfl (spec_l01From_ac k p0 _ hr1) rfl ?_
 refine kN 1 rfl ?_
 refine kR ?_
 refine AOps_buildSlice 8 _ _ _ [] (intsD ([] : List Int)) _ rfl rfl rfl rfl rfl (by decide) Tryz.underlying27 Tryz.sizeOf2 (zero_of Tryz.typeInfo2 rfl) rfl rfl (intsD_one _) ?_
 refine kN 1 rfl ?_
 refine kB (fun s10 => [(3, .ptr 0 0), (4, .vec 1 0)]) (fun s10 => [.box (srcD s10.1), .vec 0 (intsD s10.2)]) h (fun s10 h => ?_) (fun s10 h => ?_)
 ·refine kR ?_
  refine kM 1 rfl ?_
  refine AOps_buildSlice 10 _ _ _ [_, _, _, _, _, _, _] (intsD ([1, 2, 2, 2, 3, 3, 4])) _ rfl rfl rfl rfl rfl (by decide) Tryz.underlying27 Tryz.sizeOf2 (zero_of Tryz.typeInfo2 rfl) rfl rfl (intsD_one _) ?_
  refine AOps_freezeL [10] 2 0 _ (allc (rfl) (fun _ h => nomatch h)) rfl ?_
  obtain ⟨r2, hr2, h⟩ := bindO h
  refine kC [0] 11 (iV r2.1) [.box (srcD r2.2), .vec 0 (intsD ([] : List Int)), .gone] rfl Tryz.call62 rfl rfl (spec_l01Pick_ac r1 ([1, 2, 2, 2, 3, 3, 4]) _ hr2) rfl ?_
  refine kN 1 rfl ?_
  refine ACode_block ?_
  refine ACode_loopW (fun k0 E H => ∃ (x3 : Int) (x4 : Src) (x5 : List Int), E = [(3, .ptr 0 0), (4, .vec 1 0), (5, iV x3)] ∧ H = [.box (srcD x4), .vec 0 (intsD x5)] ∧ spec_DrawNeighbourBound_l0 k0 x3 x4 x5 = some s10) k _ _ (Weak_keep 0 hm [3, 4, 5] [0, 1] _ _ rfl rfl rfl) ⟨_, _, _, rfl, rfl, h⟩ ?_
  clear h
  rintro k0 E H ⟨x3, x4, x5, rfl, rfl, h⟩
  cases k0 with
  | zero => cases (show (none : Option (Src × List Int)) = some _ from h)
  | succ k0 =>
   rw [spec_DrawNeighbourBound_l0] at h
   refine ACode_seq ?_
   refine kR ?_
   refine kM 1 rfl ?_
   refine AOps_q 13 _ rfl rfl rfl (QOp_gtr _ _ _ _ _ _ _ rfl rfl rfl) ?_
   refine AOps_nil ?_
   refine kI h rfl (fun h _ => ?_) (fun h _ => ?_)
   ·refine ACode_skip ?_
    refine ACode_seq ?_
    refine ACode_block ?_
    refine (ACode_region ?_)
    refine kM 3 rfl ?_
    obtain ⟨r7, hr7, h⟩ := bindO h
    refine kC [0] 19 (iV r7.1) [.box (srcD r7.2), .vec 0 (intsD x5)] rfl Tryz.call58 rfl rfl (spec_l01Next_ac x4 8 _ hr7) rfl ?_
    refine AOps_q 20 _ rfl rfl rfl (QOp_add _ _ _ _ _ _ _ rfl rfl rfl) ?_
    refine AOps_buildSlice 21 _ _ _ [_, _, _, _, _, _, _] (intsD ([2, 3, 3, 4, 4, 5, w64 (1 + r7.1)])) _ rfl rfl rfl rfl rfl (by decide) Tryz.underlying27 Tryz.sizeOf2 (zero_of Tryz.typeInfo2 rfl) rfl rfl (intsD_one _) ?_
    refine AOps_freezeL [21] 2 0 _ (allc (rfl) (fun _ h => nomatch h)) rfl ?_
    obtain ⟨r8, hr8, h⟩ := bindO h
    refine kC [0] 22 (iV r8.1) [.box (srcD r8.2), .vec 0 (intsD x5), .gone] rfl Tryz.call62 rfl rfl (spec_l01Pick_ac r7.2 ([2, 3, 3, 4, 4, 5, w64 (1 + r7.1)]) _ hr8) rfl ?_
    refine AOps_buildSlice 23 _ _ _ [_] (intsD ([r8.1])) _ rfl rfl rfl rfl rfl (by decide) Tryz.underlying27 Tryz.sizeOf2 (zero_of Tryz.typeInfo2 rfl) rfl rfl (intsD_one _) ?_
    obtain ⟨hc9, h⟩ := guardO h
    refine AOps_append 24 _ _ _ _ _ _ _ _ _ _ _ _ rfl rfl rfl rfl rfl rfl rfl Tryz.underlying27 Tryz.type2 rfl rfl rfl (by decide) rfl rfl rfl rfl (intsD_one _) (by rw [intsD_length, intsD_length]; exact hc9) ?_
    rw [intsD_app]
    refine kN 1 rfl ?_
    refine (ACode_region ?_)
    refine kM 1 rfl ?_
    refine AOps_q 15 _ rfl rfl rfl (QOp_sub _ _ _ _ _ _ _ rfl rfl rfl) ?_
    refine kN 1 rfl ?_
    exact ⟨k0, _, _, Nat.lt_succ_self _, Weak_trans (Weak_keep 0 hm [3, 4, 5] [0, 1] _ _ rfl rfl rfl) (Weak_reset 0 hm hz [3, 4, 5] _ _ rfl rfl), _, _, _, rfl, rfl, h⟩
   refine ACode_exit ?_
   cases h
   exact Weak_keep 0 hm [3, 4] [0, 1] _ _ rfl rfl rfl
 refine kO (fun s18 => [(4, .vec 0 0)]) (fun s18 => [.vec 0 (intsD s18)]) h (fun os18 h hks18 => ?_) (fun s18 h => ?_)
 ·refine kR ?_
  refine kM 1 rfl ?_
  obtain ⟨r11, hr11, h⟩ := bindO h
  refine kC [0] 26 (iV r11.1) [.box (srcD r11.2), .vec 0 (intsD s10.2)] rfl Tryz.call58 rfl rfl (spec_l01Next_ac s10.1 24 _ hr11) rfl ?_
  refine AOps_nil ?_
  refine ACode_block ?_
  refine kR ?_
  refine AOps_q 28 _ rfl rfl rfl (QOp_eql _ _ _ _ _ _ _ rfl rfl rfl) ?_
  refine kN 1 rfl ?_
  refine kI h rfl (fun h _ => ?_) (fun h _ => ?_)
  ·refine (ACode_region ?_)
   refine kM 1 rfl ?_
   refine AOps_buildSlice 30 _ _ _ [_, _, _] (intsD ([3, 3, 3])) _ rfl rfl rfl rfl rfl (by decide) Tryz.underlying27 Tryz.sizeOf2 (zero_of Tryz.typeInfo2 rfl) rfl rfl (intsD_one _) ?_
   obtain ⟨hc13, h⟩ := guardO h
   refine AOps_append 31 _ _ _ _ _ _ _ _ _ _ _ _ rfl rfl rfl rfl rfl rfl rfl Tryz.underlying27 Tryz.type2 rfl rfl rfl (by decide) rfl rfl rfl rfl (intsD_one _) (by rw [intsD_length, intsD_length]; exact hc13) ?_
   rw [intsD_app]
   refine kN 1 rfl ?_
   cases h
   exact ⟨_, rfl, Weak_trans (Weak_keep 0 hm [4] [1] _ _ rfl rfl rfl) (Weak_reset 0 hm hz [4] _ _ rfl rfl)⟩
  refine kR ?_
  refine AOps_q 33 _ rfl rfl rfl (QOp_eql _ _ _ _ _ _ _ rfl rfl rfl) ?_
  refine kN 1 rfl ?_
  refine kI h rfl (fun h _ => ?_) (fun h _ => ?_)
  ·refine (ACode_region ?_)
   refine kM 2 rfl ?_
   refine AOps_buildSlice 36 _ _ _ [_, _] (intsD ([0, 9])) _ rfl rfl rfl rfl rfl (by decide) Tryz.underlying27 Tryz.sizeOf2 (zero_of Tryz.typeInfo2 rfl) rfl rfl (intsD_one _) ?_
   refine AOps_freezeL [36] 2 0 _ (allc (rfl) (fun _ h => nomatch h)) rfl ?_
   obtain ⟨r15, hr15, h⟩ := bindO h
   refine kC [0] 37 (iV r15.1) [.box (srcD r15.2), .vec 0 (intsD s10.2), .gone] rfl Tryz.call62 rfl rfl (spec_l01Pick_ac r11.2 ([0, 9]) _ hr15) rfl ?_
   obtain ⟨hc16, h⟩ := guardO h
   refine AOps_q 38 _ rfl rfl rfl (QOp_indexAddr_vec _ _ _ _ _ _ _ _ _ rfl Tryz.underlying27 Tryz.sizeOf2 hc16.1 (by rw [intsD_length]; exact hc16.2) rfl rfl rfl) ?_
   refine AOps_store_eptr _ _ _ _ _ _ (intsD s10.2) _ rfl rfl rfl rfl rfl rfl rfl Tryz.sizeOf2 (by rw [intsD_length]; omega) ?_
   rw [intsD_set]
   refine AOps_nil ?_
   cases h
   exact ⟨_, rfl, Weak_keep 0 hm [4] [1] _ _ rfl rfl rfl⟩
  refine kR ?_
  refine AOps_q 40 _ rfl rfl rfl (QOp_eql _ _ _ _ _ _ _ rfl rfl rfl) ?_
  refine kN 1 rfl ?_
  refine kI h rfl (fun h _ => ?_) (fun h _ => ?_)
  ·refine kR ?_
   refine AOps_buildSlice 41 _ _ _ [] (intsD ([] : List Int)) _ rfl rfl rfl rfl rfl (by decide) Tryz.underlying27 Tryz.sizeOf2 (zero_of Tryz.typeInfo2 rfl) rfl rfl (intsD_one _) ?_
   refine kN 1 rfl ?_
   refine ACode_ret ?_
   cases h
   have h := hks18
   cases h
   exact ⟨_, _, Weak_reset 0 hm hz [2] _ _ rfl rfl, _, _, [2], _, (.cons (ResV_tmp _ _ rfl) .nil), rfl, rfl, rfl, rfl, rfl⟩
  refine ACode_skip ?_
  cases h
  exact ⟨_, rfl, Weak_keep 0 hm [4] [1] _ _ rfl rfl rfl⟩
 refine kR ?_
 refine kN 2 rfl ?_
 refine ACode_ret ?_
 cases h
 exact ⟨_, _, Weak_reset 0 hm hz [2] _ _ rfl rfl, _, _, [0], _, (.cons (ResV_tmp _ _ rfl) .nil), rfl, rfl, rfl, rfl, rfl⟩

-- slices.IndexFunc[[]int64,int64]
def slices_IndexFunc_l0 (p0 : List Int) (p1 : Int → Option (Bool)) : Nat → Int → Option (Sum (Unit) (Int))
 | 0, _ => none
 | k0 + 1, x1 => (if decide (x1 < (p0.length : Int)) then (if 0 ≤ x1 ∧ x1 < (p0.length : Int) then (p1 (p0.getD x1.toNat 0)).bind fun r4 => (if r4 then some (.inr x1) else slices_IndexFunc_l0 p0 p1 k0 (w64 (x1 + 1))) else none) else some (.inl ()))
def slices_IndexFunc (k : Nat) (p0 : List Int) (p1 : Int → Option (Bool)) : Option (Int) :=
 (slices_IndexFunc_l0 p0 p1 k 0 : Option (Sum (Unit) (Int))).bind fun os6 => (match os6 with | .inl s6 => some (-1) | .inr rr => some rr)
set_option maxRecDepth 100000 in
theorem slices_IndexFunc_ac (k : Nat) (p0 : List Int) (p1 : Int → Option (Bool)) (g_p1 : FuncId) (c_p1 : List D) (hg_p1 : ∀ args w, (callFunc g_p1 args).run Tryz.prog w = .ok (.enter g_p1 args) w) (hf_p1 : ∀ (a0 : Int) (r : Bool), p1 a0 = some r → AC Tryz.prog g_p1 ([iV a0] ++ c_p1.map AV.d) [] (fun res H' => res = [bV r] ∧ H' = [])) (r : Int) (h : slices_IndexFunc k p0 p1 = some r) : AC Tryz.prog 166 [.d (.sl none (intsD p0)), .d (.clo g_p1 c_p1)] [] (fun res H' => res = [iV r] ∧ H' = []) := by
 refine AC_of_body true Tryz.func166 rfl Tryz.ntmps166 (rvs := [.tmp 4]) rfl rfl (fun G hG => ?_)
 have hm : G.H.length = 0 := by rw [hG]; rfl
 have hz : zeroG G.H = true := by rw [hG]; rfl
 unfold slices_IndexFunc at h
 refine kR ?_
 refine kN 1 rfl ?_
 refine kO (fun s6 => []) (fun s6 => []) h (fun os6 h hks6 => ?_) (fun s6 h => ?_)
 ·refine kR ?_
  refine kM 1 rfl ?_
  refine AOps_q 7 _ rfl rfl rfl (QOp_len_sl _ _ _ _ _ _ _ (intsD_length _) rfl rfl rfl rfl Tryz.underlying27 rfl) ?_
  refine kN 1 rfl ?_
  refine ACode_block ?_
  refine ACode_loopW (fun k0 E H => ∃ (x1 : Int), E = [(0, .d (.sl none (intsD p0))), (1, .d (.clo g_p1 c_p1)), (7, iV (p0.length : Int)), (8, iV x1)] ∧ H = [] ∧ slices_IndexFunc_l0 p0 p1 k0 x1 = some os6) k _ _ (Weak_keep 0 hm [0, 1, 7, 8] [] _ _ rfl rfl rfl) ⟨_, rfl, rfl, h⟩ ?_
  clear h
  rintro k0 E H ⟨x1, rfl, rfl, h⟩
  cases k0 with
  | zero => cases (show (none : Option (Sum (Unit) (Int))) = some _ from h)
  | succ k0 =>
   rw [slices_IndexFunc_l0] at h
   refine kR ?_
   refine AOps_q 9 _ rfl rfl rfl (QOp_lss _ _ _ _ _ _ _ rfl rfl rfl) ?_
   refine AOps_nil ?_
   refine ACode_seq ?_
   refine kI h rfl (fun h _ => ?_) (fun h _ => ?_)
   ·refine ACode_skip ?_
    refine ACode_seq ?_
    refine ACode_block ?_
    refine kR ?_
    refine kN 2 rfl ?_
    refine kR ?_
    refine kM 3 rfl ?_
    obtain ⟨hc3, h⟩ := guardO h
    refine AOps_q 14 _ rfl rfl rfl (QOp_indexAddr_sl _ _ _ _ _ _ _ _ rfl Tryz.underlying27 Tryz.sizeOf2 hc3.1 (by rw [intsD_length]; exact hc3.2) rfl rfl) ?_
    refine AOps_q 15 _ rfl rfl rfl (QOp_load_pv _ _ _ _ _ rfl Tryz.isAgg2 rfl (intsD_get _ _ 0 (by omega))) ?_
    obtain ⟨r4, hr4, h⟩ := bindO h
    refine kC [] 16 (bV r4) [] rfl hg_p1 rfl (viewA_mapD _) (hf_p1 (p0.getD x1.toNat 0) _ hr4) rfl ?_
    refine AOps_nil ?_
    refine kI h rfl (fun h _ => ?_) (fun h _ => ?_)
    ·refine kR ?_
     refine kN 2 rfl ?_
     refine ACode_ret ?_
     cases h
     have h := hks6
     cases h
     exact ⟨_, _, fun r a w h => ⟨r, h⟩, _, _, [], _, (.cons (ResV_tmp _ _ rfl) .nil), rfl, rfl, rfl, rfl, rfl⟩
    refine ACode_skip ?_
    refine (ACode_region ?_)
    refine AOps_q 18 _ rfl rfl rfl (QOp_add _ _ _ _ _ _ _ rfl rfl rfl) ?_
    refine kN 1 rfl ?_
    exact ⟨k0, _, _, Nat.lt_succ_self _, Weak_keep 0 hm [0, 1, 7, 8] [] _ _ rfl rfl rfl, _, rfl, rfl, h⟩
   refine ACode_exit ?_
   cases h
   exact ⟨_, rfl, Weak_keep 0 hm [] [] _ _ rfl rfl rfl⟩
 refine kR ?_
 refine kN 1 rfl ?_
 refine ACode_ret ?_
 cases h
 exact ⟨_, _, fun r a w h => ⟨r, h⟩, _, _, [], _, (.cons (ResV_tmp _ _ rfl) .nil), rfl, rfl, rfl, rfl, rfl⟩

-- slices.ContainsFunc[[]int64,int64]
def slices_ContainsFunc (k : Nat) (p0 : List Int) (p1 : Int → Option (Bool)) : Option (Bool) :=
 (slices_IndexFunc k p0 p1).bind fun r1 => some (decide (0 ≤ r1))
set_option maxRecDepth 100000 in
theorem slices_ContainsFunc_ac (k : Nat) (p0 : List Int) (p1 : Int → Option (Bool)) (g_p1 : FuncId) (c_p1 : List D) (hg_p1 : ∀ args w, (callFunc g_p1 args).run Tryz.prog w = .ok (.enter g_p1 args) w) (hf_p1 : ∀ (a0 : Int) (r : Bool), p1 a0 = some r → AC Tryz.prog g_p1 ([iV a0] ++ c_p1.map AV.d) [] (fun res H' => res = [bV r] ∧ H' = [])) (r : Bool) (h : slices_ContainsFunc k p0 p1 = some r) : AC Tryz.prog 123 [.d (.sl none (intsD p0)), .d (.clo g_p1 c_p1)] [] (fun res H' => res = [bV r] ∧ H' = []) := by
 refine AC_of_body true Tryz.func123 rfl Tryz.ntmps123 (rvs := [.tmp 4]) rfl rfl (fun G hG => ?_)
 have hm : G.H.length = 0 := by rw [hG]; rfl
 have hz : zeroG G.H = true := by rw [hG]; rfl
 unfold slices_ContainsFunc at h
 refine kR ?_
 refine kN 1 rfl ?_
 refine kR ?_
 refine kM 2 rfl ?_
 obtain ⟨r1, hr1, h⟩ := bindO h
 refine kC [] 7 (iV r1) [] rfl Tryz.call166 rfl rfl (slices_IndexFunc_ac k p0 p1 g_p1 c_p1 hg_p1 hf_p1 _ hr1) rfl ?_
 refine AOps_q 8 _ rfl rfl rfl (QOp_geq _ _ _ _ _ _ _ rfl rfl rfl) ?_
 refine kN 1 rfl ?_
 refine ACode_ret ?_
 cases h
 exact ⟨_, _, fun r a w h => ⟨r, h⟩, _, _, [], _, (.cons (ResV_tmp _ _ rfl) .nil), rfl, rfl, rfl, rfl, rfl⟩

-- loop.example/g01362/impl.areIn$1
def impl_areIn_c1 (p0 : Int) (p1 : Int) (p2 : Int) : Bool :=
 !(impl_in p0 p1 p2)
set_option maxRecDepth 100000 in
theorem impl_areIn_c1_ac (p0 : Int) (p1 : Int) (p2 : Int) : AC Tryz.prog 124 [iV p0, .d (.pv ([iD p1]) 0), .d (.pv ([iD p2]) 0)] [] (fun res H' => res = [bV (impl_areIn_c1 p0 p1 p2)] ∧ H' = []) := by
 refine AC_of_body true Tryz.func124 rfl Tryz.ntmps124 (rvs := [.tmp 4]) rfl rfl (fun G hG => ?_)
 have hm : G.H.length = 0 := by rw [hG]; rfl
 have hz : zeroG G.H = true := by rw [hG]; rfl
 obtain ⟨r, h⟩ : ∃ r, impl_areIn_c1 p0 p1 p2 = r := ⟨_, rfl⟩
 rw [h]
 unfold impl_areIn_c1 at h
 refine kR ?_
 refine kN 1 rfl ?_
 refine kR ?_
 refine kM 1 rfl ?_
 refine AOps_q 6 _ rfl rfl rfl (QOp_load_pv _ _ _ _ _ rfl Tryz.isAgg2 rfl rfl) ?_
 refine AOps_q 7 _ rfl rfl rfl (QOp_load_pv _ _ _ _ _ rfl Tryz.isAgg2 rfl rfl) ?_
 refine kC [] 8 (bV (impl_in p0 p1 p2)) [] rfl Tryz.call60 rfl rfl (impl_in_ac p0 p1 p2) rfl ?_
 refine AOps_q 9 _ rfl rfl rfl (QOp_not _ _ _ rfl rfl) ?_
 refine kN 1 rfl ?_
 refine ACode_ret ?_
 cases h
 exact ⟨_, _, fun r a w h => ⟨r, h⟩, _, _, [], _, (.cons (ResV_tmp _ _ rfl) .nil), rfl, rfl, rfl, rfl, rfl⟩

-- loop.example/g01362/impl.areIn
def impl_areIn (k : Nat) (p0 : List Int) (p1 : Int) (p2 : Int) (p3 : Int) : Option (Bool) :=
 ((if decide ((impl_size p0) = p1) then (slices_ContainsFunc k p0 (fun a0 => some (impl_areIn_c1 a0 p2 p3))).bind fun r3 => some (!r3) else some false) : Option (Bool)).bind fun s4 => some s4
set_option maxRecDepth 100000 in
theorem impl_areIn_ac (k : Nat) (p0 : List Int) (p1 : Int) (p2 : Int) (p3 : Int) (r : Bool) (h : impl_areIn k p0 p1 p2 p3 = some r) : AC Tryz.prog 64 [.d (.sl none (intsD p0)), iV p1, iV p2, iV p3] [] (fun res H' => res = [bV r] ∧ H' = []) := by
 refine AC_of_body true Tryz.func64 rfl Tryz.ntmps64 (rvs := [.tmp 8]) rfl rfl (fun G hG => ?_)
 have hm : G.H.length = 0 := by rw [hG]; rfl
 have hz : zeroG G.H = true := by rw [hG]; rfl
 unfold impl_areIn at h
 refine kR ?_
 refine AOps_boxI 6 _ _ (iD p2) _ rfl (fun c hc => by cases hc with | head => rfl | tail _ h => cases h) rfl rfl rfl rfl rfl ?_
 refine AOps_boxI 7 _ _ (iD p3) _ rfl (fun c hc => by cases hc with | head => rfl | tail _ h => cases h) rfl rfl rfl rfl rfl ?_
 refine kN 1 rfl ?_
 refine kB (fun s4 => [(8, bV s4)]) (fun s4 => []) h (fun s4 h => ?_) (fun s4 h => ?_)
 ·refine (ACode_region ?_)
  refine kM 1 rfl ?_
  refine kC [] 10 (iV (impl_size p0)) [] rfl Tryz.call63 rfl rfl (impl_size_ac p0) rfl ?_
  refine kM 1 rfl ?_
  refine AOps_q 12 _ rfl rfl rfl (QOp_eql _ _ _ _ _ _ _ rfl rfl rfl) ?_
  refine kM 1 rfl ?_
  refine AOps_case 13 _ rfl (fun hb2 => ?_) (fun hb2 => ?_)
  ·have h := iteT hb2 h
   refine kM 1 rfl ?_
   refine AOps_q 15 _ rfl rfl rfl (QOp_makeFuncD _ _ _ _ rfl rfl rfl) ?_
   obtain ⟨r3, hr3, h⟩ := bindO h
   refine kC [] 16 (bV r3) [] rfl Tryz.call123 rfl rfl (slices_ContainsFunc_ac k p0 (fun a0 => some (impl_areIn_c1 a0 p2 p3)) 124 ([.pv ([iD p2]) 0, .pv ([iD p3]) 0]) Tryz.call124 (fun a0 r h => by cases h; exact impl_areIn_c1_ac a0 p2 p3) _ hr3) rfl ?_
   refine AOps_q 17 _ rfl rfl rfl (QOp_not _ _ _ rfl rfl) ?_
   refine kN 2 rfl ?_
   cases h
   exact Weak_keep 0 hm [8] [] _ _ rfl rfl rfl
  have h := iteF hb2 h
  refine AOps_skip 14 rfl rfl rfl ?_
  refine AOps_skip 15 rfl rfl rfl ?_
  refine AOps_skip 16 rfl rfl rfl ?_
  refine AOps_skip 17 rfl rfl rfl ?_
  refine kN 2 rfl ?_
  cases h
  exact Weak_keep 0 hm [8] [] _ _ rfl rfl rfl
 refine ACode_ret ?_
 cases h
 exact ⟨_, _, fun r a w h => ⟨r, h⟩, _, _, [], _, (.cons (ResV_tmp _ _ rfl) .nil), rfl, rfl, rfl, rfl, rfl⟩

-- loop.example/g01362/impl.NeighbourBound
def impl_NeighbourBound (k : Nat) (p0 : List Int) : Option (Int × Int) :=
 (((if !(impl_in (impl_size p0) 1 4) then some true else (impl_areIn k p0 (impl_size p0) 1 8).bind fun r5 => some (!r5)) : Option (Bool)).bind fun s6 => (if s6 then some (.inr (0, 2)) else some (.inl ())) : Option (Sum (Unit) (Int × Int))).bind fun os8 => (match os8 with | .inl s8 => (sortedI p0).bind fun r10 => (impl_neighbourBound k r10 ([] : List (MK × Int))).bind fun r12 => (if decide (1000000000 < r12.1) then some (0, 3) else some (r12.1, 0)) | .inr rr => some rr)
set_option maxRecDepth 100000 in
theorem impl_NeighbourBound_ac (k : Nat) (p0 : List Int) (r : Int × Int) (h : impl_NeighbourBound k p0 = some r) : AC Tryz.prog 11 [.d (.sl none (intsD p0))] [] (fun res H' => res = [iV r.1, iV r.2] ∧ H' = []) := by
 refine AC_of_body true Tryz.func11 rfl Tryz.ntmps11 (rvs := [.tmp 2, .tmp 3]) rfl rfl (fun G hG => ?_)
 have hm : G.H.length = 0 := by rw [hG]; rfl
 have hz : zeroG G.H = true := by rw [hG]; rfl
 unfold impl_NeighbourBound at h
 refine kR ?_
 refine kN 2 rfl ?_
 refine kO (fun s8 => [(0, .d (.sl none (intsD p0)))]) (fun s8 => []) h (fun os8 h hks8 => ?_) (fun s8 h => ?_)
 ·refine kB (fun s6 => [(0, .d (.sl none (intsD p0))), (15, bV s6)]) (fun s6 => []) h (fun s6 h => ?_) (fun s6 h => ?_)
  ·refine (ACode_region ?_)
   refine kM 1 rfl ?_
   refine kC [] 6 (iV (impl_size p0)) [] rfl Tryz.call63 rfl rfl (impl_size_ac p0) rfl ?_
   refine kC [] 7 (bV (impl_in (impl_size p0) 1 4)) [] rfl Tryz.call60 rfl rfl (impl_in_ac (impl_size p0) 1 4) rfl ?_
   refine AOps_q 8 _ rfl rfl rfl (QOp_not _ _ _ rfl rfl) ?_
   refine kM 1 rfl ?_
   refine AOps_case 9 _ rfl (fun hb3 => ?_) (fun hb3 => ?_)
   ·have h := iteT hb3 h
    refine AOps_skip 10 rfl rfl rfl ?_
    refine AOps_skip 11 rfl rfl rfl ?_
    refine AOps_skip 12 rfl rfl rfl ?_
    refine AOps_skip 13 rfl rfl rfl ?_
    refine AOps_skip 14 rfl rfl rfl ?_
    refine kN 1 rfl ?_
    cases h
    exact Weak_keep 0 hm [0, 15] [] _ _ rfl rfl rfl
   have h := iteF hb3 h
   refine kM 2 rfl ?_
   refine kC [] 12 (iV (impl_size p0)) [] rfl Tryz.call63 rfl rfl (impl_size_ac p0) rfl ?_
   obtain ⟨r5, hr5, h⟩ := bindO h
   refine kC [] 13 (bV r5) [] rfl Tryz.call64 rfl rfl (impl_areIn_ac k p0 (impl_size p0) 1 8 _ hr5) rfl ?_
   refine AOps_q 14 _ rfl rfl rfl (QOp_not _ _ _ rfl rfl) ?_
   refine kN 1 rfl ?_
   cases h
   exact Weak_keep 0 hm [0, 15] [] _ _ rfl rfl rfl
  refine kI h rfl (fun h _ => ?_) (fun h _ => ?_)
  ·refine kR ?_
   refine kN 2 rfl ?_
   refine ACode_ret ?_
   cases h
   have h := hks8
   cases h
   exact ⟨_, _, fun r a w h => ⟨r, h⟩, _, _, [], _, (.cons (ResV_tmp _ _ rfl) (.cons (ResV_tmp _ _ rfl) .nil)), rfl, rfl, rfl, rfl, rfl⟩
  refine ACode_skip ?_
  cases h
  exact ⟨_, rfl, Weak_keep 0 hm [0] [] _ _ rfl rfl rfl⟩
 refine kR ?_
 refine kM 1 rfl ?_
 refine kC [] 17 (.d (.clo 129 [.pv ([.sl none (intsD p0)]) 0])) [] rfl Tryz.call67 rfl rfl (values_ac p0) rfl ?_
 obtain ⟨r10, hr10, h⟩ := bindO h
 refine kC [] 18 (.d (.sl none (intsD r10))) [] rfl Tryz.call66 rfl rfl (sorted_ac p0 _ hr10) rfl ?_
 refine AOps_makeMap 19 _ rfl rfl rfl rfl 120 2 (fun m11 hm11 => ?_)
 obtain ⟨r12, hr12, h⟩ := bindO h
 refine kC [0] 20 (iV r12.1) [.mp m11 (mapI Tryz.prog 120 2 r12.2)] rfl Tryz.call65 rfl rfl (impl_neighbourBound_ac k r10 ([] : List (MK × Int)) _ hr12) rfl ?_
 refine kN 1 rfl ?_
 refine ACode_seq ?_
 refine kR ?_
 refine kM 1 rfl ?_
 refine AOps_q 22 _ rfl rfl rfl (QOp_gtr _ _ _ _ _ _ _ rfl rfl rfl) ?_
 refine AOps_nil ?_
 refine kI h rfl (fun h _ => ?_) (fun h _ => ?_)
 ·refine kR ?_
  refine kN 2 rfl ?_
  refine ACode_ret ?_
  cases h
  exact ⟨_, _, fun r a w h => ⟨r, h⟩, _, _, [], _, (.cons (ResV_tmp _ _ rfl) (.cons (ResV_tmp _ _ rfl) .nil)), rfl, rfl, rfl, rfl, rfl⟩
 refine ACode_skip ?_
 refine kR ?_
 refine kN 3 rfl ?_
 refine ACode_ret ?_
 cases h
 exact ⟨_, _, fun r a w h => ⟨r, h⟩, _, _, [], _, (.cons (ResV_tmp _ _ rfl) (.cons (ResV_tmp _ _ rfl) .nil)), rfl, rfl, rfl, rfl, rfl⟩

-- loop.example/g01362/spec.l01Own
def spec_l01Own (p0 : List Int) : Option (List Int) :=
 (if ([] : List Int).length + p0.length ≤ 1099511627776 then some (([] : List Int) ++ p0) else none)
set_option maxRecDepth 100000 in
theorem spec_l01Own_ac (p0 : List Int) (r : List Int) (h : spec_l01Own p0 = some r) : AC Tryz.prog 122 [.d (.sl none (intsD p0))] [] (fun res H' => res = [.vec 0 0] ∧ H' = [.vec 0 (intsD r)]) := by
 refine AC_of_body true Tryz.func122 rfl Tryz.ntmps122 (rvs := [.tmp 2]) rfl rfl (fun G hG => ?_)
 have hm : G.H.length = 0 := by rw [hG]; rfl
 have hz : zeroG G.H = true := by rw [hG]; rfl
 unfold spec_l01Own at h
 refine kR ?_
 refine kN 1 rfl ?_
 refine kR ?_
 refine AOps_buildSlice 3 _ _ _ [] (intsD ([] : List Int)) _ rfl rfl rfl rfl rfl (by decide) Tryz.underlying27 Tryz.sizeOf2 (zero_of Tryz.typeInfo2 rfl) rfl rfl (intsD_one _) ?_
 refine kM 1 rfl ?_
 obtain ⟨hc1, h⟩ := guardO h
 refine AOps_append 5 _ _ _ _ _ _ _ _ _ _ _ _ rfl rfl rfl rfl rfl rfl rfl Tryz.underlying27 Tryz.type2 rfl rfl rfl (by decide) rfl rfl rfl rfl (intsD_one _) (by rw [intsD_length, intsD_length]; exact hc1) ?_
 rw [intsD_app]
 refine kN 1 rfl ?_
 refine ACode_ret ?_
 cases h
 exact ⟨_, _, Weak_reset 0 hm hz [2] _ _ rfl rfl, _, _, [0], _, (.cons (ResV_tmp _ _ rfl) .nil), rfl, rfl, rfl, rfl, rfl⟩

-- loop.example/g01362/spec.l08Bound
def spec_l08Bound_l0 (p0 : List Int) : Nat → Int → (List Int) → Option (Sum (List Int) (Int))
 | 0, _, _ => none
 | k0 + 1, x1, x2 => (if decide (x1 < (p0.length : Int)) then ((if 0 ≤ x1 ∧ x1 < (p0.length : Int) then (if decide ((p0.getD x1.toNat 0) = 1) then (some (.inr 1)).bind fun rr => some (.inr rr) else (if 0 ≤ x1 ∧ x1 < (p0.length : Int) then (if decide (2 < (p0.getD x1.toNat 0)) then (if 0 ≤ x1 ∧ x1 < (p0.length : Int) then (if x2.length + ([(p0.getD x1.toNat 0)]).length ≤ 1099511627776 then some (.inl (x2 ++ ([(p0.getD x1.toNat 0)]))) else none) else none) else some (.inl x2)) else none)) else none) : Option (Sum (List Int) (Sum (List Int) (Int)))).bind fun os10 => (match os10 with | .inl s10 => spec_l08Bound_l0 p0 k0 (w64 (x1 + 1)) s10 | .inr rr => some rr) else some (.inl x2))
def spec_l08Bound_l1 (self : (List Int) → Option (Int)) (s11 : List Int) : Nat → Int → Bool → Int → Option (Int × Bool)
 | 0, _, _, _ => none
 | k1 + 1, x15, x16, x17 => (if decide (x17 < (s11.length : Int)) then ((spec_l01Own s11).bind fun r19 => (if 0 ≤ x17 ∧ x17 < (r19.length : Int) then (if 0 ≤ x17 ∧ x17 < (r19.length : Int) then (self (r19.set x17.toNat (w64 ((r19.getD x17.toNat 0) - 1)))).bind fun r22 => (if x16 then some ((if 1000000001 < w64 (x15 + r22) then 1000000001 else w64 (x15 + r22)), decide (r22.tmod 2 = 0)) else some ((if 1000000001 < w64 (x15 + r22) then 1000000001 else w64 (x15 + r22)), false)) else none) else none) : Option (Int × Bool)).bind fun s24 => spec_l08Bound_l1 self s11 k1 s24.1 s24.2 (w64 (x17 + 1)) else some (x15, x16))
def spec_l08Bound_body (self : (List Int) → Option (Int)) (k : Nat) (p0 : List Int) : Option (Int) :=
 (spec_l08Bound_l0 p0 k 0 ([] : List Int) : Option (Sum (List Int) (Int))).bind fun os11 => (match os11 with | .inl s11 => (if decide ((s11.length : Int) = 0) then some 2 else (if decide ((s11.length : Int) = 1) then (if 0 ≤ (0 : Int) ∧ (0 : Int) < (s11.length : Int) then some (s11.getD (0 : Int).toNat 0) else none) else (spec_l08Bound_l1 self s11 k (w64 (2 - (s11.length : Int))) true 0 : Option (Int × Bool)).bind fun s25 => letO (letO (if decide ((s11.length : Int) = 2) then s25.2 else false) fun (s27 : Bool) => (if s27 then w64 (s25.1 - 1) else s25.1)) fun (s29 : Int) => some s29)) | .inr rr => some rr)
def spec_l08Bound : Nat → (List Int) → Option (Int)
 | 0, _ => none
 | k + 1, p0 => spec_l08Bound_body (spec_l08Bound k) k p0
set_option maxRecDepth 100000 in
theorem spec_l08Bound_ac (k : Nat) (p0 : List Int) (r : Int) (h : spec_l08Bound k p0 = some r) : AC Tryz.prog 130 [.d (.sl none (intsD p0))] [] (fun res H' => res = [iV r] ∧ H' = []) := by
 induction k generalizing p0 r with
 | zero => simp [spec_l08Bound] at h
 | succ k ih =>
  rw [spec_l08Bound] at h
  obtain ⟨self, hself, hk⟩ : ∃ self : (List Int) → Option (Int), (∀ (p0 : List Int) (r : Int), self p0 = some r → AC Tryz.prog 130 [.d (.sl none (intsD p0))] [] (fun res H' => res = [iV r] ∧ H' = [])) ∧ spec_l08Bound k = self := ⟨spec_l08Bound k, fun p0 r h => ih p0 r h, rfl⟩
  rw [hk] at h
  clear ih hk
  refine AC_of_body true Tryz.func130 rfl Tryz.ntmps130 (rvs := [.tmp 2]) rfl rfl (fun G hG => ?_)
  have hm : G.H.length = 0 := by rw [hG]; rfl
  have hz : zeroG G.H = true := by rw [hG]; rfl
  unfold spec_l08Bound_body at h
  refine kR ?_
  refine kN 1 rfl ?_
  refine kR ?_
  refine AOps_buildSlice 10 _ _ _ [] (intsD ([] : List Int)) _ rfl rfl rfl rfl rfl (by decide) Tryz.underlying27 Tryz.sizeOf2 (zero_of Tryz.typeInfo2 rfl) rfl rfl (intsD_one _) ?_
  refine kN 1 rfl ?_
  refine kO (fun s11 => [(3, .vec 0 0)]) (fun s11 => [.vec 0 (intsD s11)]) h (fun os11 h hks11 => ?_) (fun s11 h => ?_)
  ·refine kR ?_
   refine kN 1 rfl ?_
   refine ACode_block ?_
   refine ACode_loopW (fun k0 E H => ∃ (x1 : Int) (x2 : List Int), E = [(0, .d (.sl none (intsD p0))), (3, .vec 0 0), (4, iV x1)] ∧ H = [.vec 0 (intsD x2)] ∧ spec_l08Bound_l0 p0 k0 x1 x2 = some os11) k _ _ (Weak_keep 0 hm [0, 3, 4] [0] _ _ rfl rfl rfl) ⟨_, _, rfl, rfl, h⟩ ?_
   clear h
   rintro k0 E H ⟨x1, x2, rfl, rfl, h⟩
   cases k0 with
   | zero => cases (show (none : Option (Sum (List Int) (Int))) = some _ from h)
   | succ k0 =>
    rw [spec_l08Bound_l0] at h
    refine ACode_seq ?_
    refine kR ?_
    refine kM 2 rfl ?_
    refine AOps_q 13 _ rfl rfl rfl (QOp_len_sl _ _ _ _ _ _ _ (intsD_length _) rfl rfl rfl rfl Tryz.underlying27 rfl) ?_
    refine AOps_q 14 _ rfl rfl rfl (QOp_lss _ _ _ _ _ _ _ rfl rfl rfl) ?_
    refine AOps_nil ?_
    refine kI h rfl (fun h _ => ?_) (fun h _ => ?_)
    ·refine ACode_skip ?_
     refine kO (fun s10 => [(0, .d (.sl none (intsD p0))), (3, .vec 0 0), (4, iV x1)]) (fun s10 => [.vec 0 (intsD s10)]) h (fun os10 h hks10 => ?_) (fun s10 h => ?_)
     ·refine ACode_block ?_
      refine ACode_seq ?_
      refine kR ?_
      refine kM 2 rfl ?_
      obtain ⟨hc4, h⟩ := guardO h
      refine AOps_q 19 _ rfl rfl rfl (QOp_indexAddr_sl _ _ _ _ _ _ _ _ rfl Tryz.underlying27 Tryz.sizeOf2 hc4.1 (by rw [intsD_length]; exact hc4.2) rfl rfl) ?_
      refine AOps_q 20 _ rfl rfl rfl (QOp_load_pv _ _ _ _ _ rfl Tryz.isAgg2 rfl (intsD_get _ _ 0 (by omega))) ?_
      refine AOps_q 21 _ rfl rfl rfl (QOp_eql _ _ _ _ _ _ _ rfl rfl rfl) ?_
      refine AOps_nil ?_
      refine kI h rfl (fun h _ => ?_) (fun h _ => ?_)
      ·refine kR ?_
       refine kN 1 rfl ?_
       refine ACode_ret ?_
       obtain ⟨rr, hz30, h2⟩ := bindO h
       obtain rfl := Option.some.inj h2
       obtain rfl := Option.some.inj (show some rr = some _ from hks10)
       have h := hz30
       cases h
       have h := hks11
       cases h
       exact ⟨_, _, fun r a w h => ⟨r, h⟩, _, _, [], _, (.cons (ResV_tmp _ _ rfl) .nil), rfl, rfl, rfl, rfl, rfl⟩
      refine ACode_skip ?_
      refine kR ?_
      refine kM 2 rfl ?_
      obtain ⟨hc6, h⟩ := guardO h
      refine AOps_q 24 _ rfl rfl rfl (QOp_indexAddr_sl _ _ _ _ _ _ _ _ rfl Tryz.underlying27 Tryz.sizeOf2 hc6.1 (by rw [intsD_length]; exact hc6.2) rfl rfl) ?_
      refine AOps_q 25 _ rfl rfl rfl (QOp_load_pv _ _ _ _ _ rfl Tryz.isAgg2 rfl (intsD_get _ _ 0 (by omega))) ?_
      refine AOps_q 26 _ rfl rfl rfl (QOp_gtr _ _ _ _ _ _ _ rfl rfl rfl) ?_
      refine AOps_nil ?_
      refine kI h rfl (fun h _ => ?_) (fun h _ => ?_)
      ·refine (ACode_region ?_)
       refine kM 3 rfl ?_
       obtain ⟨hc8, h⟩ := guardO h
       refine AOps_q 30 _ rfl rfl rfl (QOp_indexAddr_sl _ _ _ _ _ _ _ _ rfl Tryz.underlying27 Tryz.sizeOf2 hc8.1 (by rw [intsD_length]; exact hc8.2) rfl rfl) ?_
       refine AOps_q 31 _ rfl rfl rfl (QOp_load_pv _ _ _ _ _ rfl Tryz.isAgg2 rfl (intsD_get _ _ 0 (by omega))) ?_
       refine AOps_buildSlice 32 _ _ _ [_] (intsD ([(p0.getD x1.toNat 0)])) _ rfl rfl rfl rfl rfl (by decide) Tryz.underlying27 Tryz.sizeOf2 (zero_of Tryz.typeInfo2 rfl) rfl rfl (intsD_one _) ?_
       obtain ⟨hc9, h⟩ := guardO h
       refine AOps_append 33 _ _ _ _ _ _ _ _ _ _ _ _ rfl rfl rfl rfl rfl rfl rfl Tryz.underlying27 Tryz.type2 rfl rfl rfl (by decide) rfl rfl rfl rfl (intsD_one _) (by rw [intsD_length, intsD_length]; exact hc9) ?_
       rw [intsD_app]
       refine kN 1 rfl ?_
       cases h
       exact ⟨_, rfl, Weak_trans (Weak_keep 0 hm [0, 3, 4] [0] _ _ rfl rfl rfl) (Weak_reset 0 hm hz [0, 3, 4] _ _ rfl rfl)⟩
      refine ACode_skip ?_
      cases h
      exact ⟨_, rfl, Weak_keep 0 hm [0, 3, 4] [0] _ _ rfl rfl rfl⟩
     refine (ACode_region ?_)
     refine kM 1 rfl ?_
     refine AOps_q 16 _ rfl rfl rfl (QOp_add _ _ _ _ _ _ _ rfl rfl rfl) ?_
     refine kN 1 rfl ?_
     exact ⟨k0, _, _, Nat.lt_succ_self _, Weak_keep 0 hm [0, 3, 4] [0] _ _ rfl rfl rfl, _, _, rfl, rfl, h⟩
    refine ACode_exit ?_
    cases h
    exact ⟨_, rfl, Weak_keep 0 hm [3] [0] _ _ rfl rfl rfl⟩
  refine ACode_seq ?_
  refine kR ?_
  refine kM 1 rfl ?_
  refine AOps_q 35 _ rfl rfl rfl (QOp_len_vec _ _ _ _ _ _ _ _ (intsD_length _) rfl rfl rfl rfl Tryz.underlying27 rfl rfl) ?_
  refine AOps_nil ?_
  refine ACode_block ?_
  refine kR ?_
  refine AOps_q 37 _ rfl rfl rfl (QOp_eql _ _ _ _ _ _ _ rfl rfl rfl) ?_
  refine kN 1 rfl ?_
  refine kI h rfl (fun h _ => ?_) (fun h _ => ?_)
  ·refine kR ?_
   refine kN 1 rfl ?_
   refine ACode_ret ?_
   cases h
   exact ⟨_, _, fun r a w h => ⟨r, h⟩, _, _, [], _, (.cons (ResV_tmp _ _ rfl) .nil), rfl, rfl, rfl, rfl, rfl⟩
  refine kR ?_
  refine AOps_q 39 _ rfl rfl rfl (QOp_eql _ _ _ _ _ _ _ rfl rfl rfl) ?_
  refine kN 1 rfl ?_
  refine kI h rfl (fun h _ => ?_) (fun h _ => ?_)
  ·refine kR ?_
   refine kM 1 rfl ?_
   obtain ⟨hc14, h⟩ := guardO h
   refine AOps_q 41 _ rfl rfl rfl (QOp_indexAddr_vec _ _ _ _ _ _ _ _ _ rfl Tryz.underlying27 Tryz.sizeOf2 hc14.1 (by rw [intsD_length]; exact hc14.2) rfl rfl rfl) ?_
   refine AOps_q 42 _ rfl rfl rfl (QOp_load_eptr _ _ _ _ _ _ _ rfl Tryz.isAgg2 rfl rfl (intsD_get _ _ 0 (by omega))) ?_
   refine kN 1 rfl ?_
   refine ACode_ret ?_
   cases h
   exact ⟨_, _, fun r a w h => ⟨r, h⟩, _, _, [], _, (.cons (ResV_tmp _ _ rfl) .nil), rfl, rfl, rfl, rfl, rfl⟩
  refine ACode_skip ?_
  refine kR ?_
  refine kM 1 rfl ?_
  refine AOps_q 44 _ rfl rfl rfl (QOp_len_vec _ _ _ _ _ _ _ _ (intsD_length _) rfl rfl rfl rfl Tryz.underlying27 rfl rfl) ?_
  refine AOps_q 45 _ rfl rfl rfl (QOp_sub _ _ _ _ _ _ _ rfl rfl rfl) ?_
  refine kN 2 rfl ?_
  refine kB (fun s25 => [(3, .vec 0 0), (5, iV s25.1), (6, bV s25.2)]) (fun s25 => [.vec 0 (intsD s11)]) h (fun s25 h => ?_) (fun s25 h => ?_)
  ·refine kR ?_
   refine kN 1 rfl ?_
   refine ACode_block ?_
   refine ACode_loopW (fun k1 E H => ∃ (x15 : Int) (x16 : Bool) (x17 : Int), E = [(3, .vec 0 0), (5, iV x15), (6, bV x16), (7, iV x17)] ∧ H = [.vec 0 (intsD s11)] ∧ spec_l08Bound_l1 self s11 k1 x15 x16 x17 = some s25) k _ _ (Weak_keep 0 hm [3, 5, 6, 7] [0] _ _ rfl rfl rfl) ⟨_, _, _, rfl, rfl, h⟩ ?_
   clear h
   rintro k1 E H ⟨x15, x16, x17, rfl, rfl, h⟩
   cases k1 with
   | zero => cases (show (none : Option (Int × Bool)) = some _ from h)
   | succ k1 =>
    rw [spec_l08Bound_l1] at h
    refine ACode_seq ?_
    refine kR ?_
    refine kM 2 rfl ?_
    refine AOps_q 48 _ rfl rfl rfl (QOp_len_vec _ _ _ _ _ _ _ _ (intsD_length _) rfl rfl rfl rfl Tryz.underlying27 rfl rfl) ?_
    refine AOps_q 49 _ rfl rfl rfl (QOp_lss _ _ _ _ _ _ _ rfl rfl rfl) ?_
    refine AOps_nil ?_
    refine kI h rfl (fun h _ => ?_) (fun h _ => ?_)
    ·refine ACode_skip ?_
     refine kB (fun s24 => [(3, .vec 0 0), (5, iV s24.1), (6, bV s24.2), (7, iV x17)]) (fun s24 => [.vec 0 (intsD s11)]) h (fun s24 h => ?_) (fun s24 h => ?_)
     ·refine ACode_block ?_
      refine kR ?_
      refine kM 1 rfl ?_
      obtain ⟨r19, hr19, h⟩ := bindO h
      refine AOps_callL [] 53 _ _ _ _ _ _ _ _ _ _ rfl rfl rfl rfl rfl rfl rfl Tryz.call122 rfl (nodupB_sound _ rfl) rfl rfl rfl (spec_l01Own_ac s11 _ hr19) ?_
      rintro _ _ ⟨rfl, rfl⟩
      refine ⟨(allc (intsD_flat _) (fun _ h => nomatch h)), (allc (trivial) (fun _ h => nomatch h)), AOps_as 53 (v' := .vec 1 0) (H' := [.vec 0 (intsD s11), .vec 0 (intsD r19)]) rfl rfl ?_⟩
      refine kN 1 rfl ?_
      refine kR ?_
      refine kM 2 rfl ?_
      obtain ⟨hc20, h⟩ := guardO h
      refine AOps_q 56 _ rfl rfl rfl (QOp_indexAddr_vec _ _ _ _ _ _ _ _ _ rfl Tryz.underlying27 Tryz.sizeOf2 hc20.1 (by rw [intsD_length]; exact hc20.2) rfl rfl rfl) ?_
      refine AOps_q 57 _ rfl rfl rfl (QOp_load_eptr _ _ _ _ _ _ _ rfl Tryz.isAgg2 rfl rfl (intsD_get _ _ 0 (by omega))) ?_
      refine AOps_q 58 _ rfl rfl rfl (QOp_sub _ _ _ _ _ _ _ rfl rfl rfl) ?_
      obtain ⟨hc21, h⟩ := guardO h
      refine AOps_q 59 _ rfl rfl rfl (QOp_indexAddr_vec _ _ _ _ _ _ _ _ _ rfl Tryz.underlying27 Tryz.sizeOf2 hc21.1 (by rw [intsD_length]; exact hc21.2) rfl rfl rfl) ?_
      refine AOps_store_eptr _ _ _ _ _ _ (intsD r19) _ rfl rfl rfl rfl rfl rfl rfl Tryz.sizeOf2 (by rw [intsD_length]; omega) ?_
      rw [intsD_set]
      refine AOps_nil ?_
      refine kR ?_
      refine kM 1 rfl ?_
      obtain ⟨r22, hr22, h⟩ := bindO h
      refine AOps_callL [] 61 _ _ _ _ _ _ _ _ _ _ rfl rfl rfl rfl rfl rfl rfl Tryz.call130 rfl (nodupB_sound _ rfl) rfl rfl rfl (hself (r19.set x17.toNat (w64 ((r19.getD x17.toNat 0) - 1))) _ hr22) ?_
      rintro _ _ ⟨rfl, rfl⟩
      refine ⟨(fun _ h => nomatch h), (allc (flat_s _) (fun _ h => nomatch h)), AOps_as 61 (v' := iV r22) (H' := [.vec 0 (intsD s11), .vec 0 (intsD (r19.set x17.toNat (w64 ((r19.getD x17.toNat 0) - 1))))]) rfl rfl ?_⟩
      refine kN 1 rfl ?_
      refine kR ?_
      refine kM 2 rfl ?_
      refine AOps_q 64 _ rfl rfl rfl (QOp_add _ _ _ _ _ _ _ rfl rfl rfl) ?_
      refine AOps_q 65 _ rfl rfl rfl (QOp_min _ _ _ _ _ _ rfl rfl rfl rfl rfl) ?_
      refine kN 1 rfl ?_
      refine (ACode_region ?_)
      refine kM 2 rfl ?_
      refine AOps_case 67 _ rfl (fun hb23 => ?_) (fun hb23 => ?_)
      ·have h := iteT hb23 h
       refine kM 1 rfl ?_
       refine AOps_q 69 _ rfl rfl rfl (QOp_rem _ _ _ _ _ _ _ (by decide) rfl rfl rfl) ?_
       refine AOps_q 70 _ rfl rfl rfl (QOp_eql _ _ _ _ _ _ _ rfl rfl rfl) ?_
       refine kN 2 rfl ?_
       cases h
       exact Weak_keep 0 hm [3, 5, 6, 7] [0] _ _ rfl rfl rfl
      have h := iteF hb23 h
      refine AOps_skip 68 rfl rfl rfl ?_
      refine AOps_skip 69 rfl rfl rfl ?_
      refine AOps_skip 70 rfl rfl rfl ?_
      refine kN 2 rfl ?_
      cases h
      exact Weak_keep 0 hm [3, 5, 6, 7] [0] _ _ rfl rfl rfl
     refine (ACode_region ?_)
     refine kM 1 rfl ?_
     refine AOps_q 51 _ rfl rfl rfl (QOp_add _ _ _ _ _ _ _ rfl rfl rfl) ?_
     refine kN 1 rfl ?_
     exact ⟨k1, _, _, Nat.lt_succ_self _, Weak_keep 0 hm [3, 5, 6, 7] [0] _ _ rfl rfl rfl, _, _, _, rfl, rfl, h⟩
    refine ACode_exit ?_
    cases h
    exact Weak_keep 0 hm [3, 5, 6] [0] _ _ rfl rfl rfl
  refine kL (fun s29 => [(5, iV s29)]) (fun s29 => []) h (fun s29 h => ?_) (fun s29 h => ?_)
  ·refine kL (fun s27 => [(5, iV s25.1), (77, bV s27)]) (fun s27 => []) h (fun s27 h => ?_) (fun s27 h => ?_)
   ·refine (ACode_region ?_)
    refine kM 1 rfl ?_
    refine AOps_q 73 _ rfl rfl rfl (QOp_len_vec _ _ _ _ _ _ _ _ (intsD_length _) rfl rfl rfl rfl Tryz.underlying27 rfl rfl) ?_
    refine AOps_q 74 _ rfl rfl rfl (QOp_eql _ _ _ _ _ _ _ rfl rfl rfl) ?_
    refine kM 1 rfl ?_
    refine AOps_case 75 _ rfl (fun hb26 => ?_) (fun hb26 => ?_)
    ·have h := iteT hb26 h
     refine kN 2 rfl ?_
     cases h
     exact Weak_keep 0 hm [5, 77] [] _ _ rfl rfl rfl
    have h := iteF hb26 h
    refine AOps_skip 76 rfl rfl rfl ?_
    refine kN 1 rfl ?_
    cases h
    exact Weak_keep 0 hm [5, 77] [] _ _ rfl rfl rfl
   refine kI h rfl (fun h _ => ?_) (fun h _ => ?_)
   ·refine (ACode_region ?_)
    refine kM 1 rfl ?_
    refine AOps_q 79 _ rfl rfl rfl (QOp_sub _ _ _ _ _ _ _ rfl rfl rfl) ?_
    refine kN 1 rfl ?_
    cases h
    exact Weak_keep 0 hm [5] [] _ _ rfl rfl rfl
   refine ACode_skip ?_
   cases h
   exact Weak_keep 0 hm [5] [] _ _ rfl rfl rfl
  refine kR ?_
  refine kN 2 rfl ?_
  refine ACode_ret ?_
  cases h
  exact ⟨_, _, fun r a w h => ⟨r, h⟩, _, _, [], _, (.cons (ResV_tmp _ _ rfl) .nil), rfl, rfl, rfl, rfl, rfl⟩

-- loop.example/g01362/spec.l08Step
def spec_l08Step_l0 (p1 : List Int) : Nat → Int → Int → (List Int) → Option (Sum (Int × List Int) (Int))
 | 0, _, _, _ => none
 | k0 + 1, x1, x2, x3 => (if decide (x2 < (p1.length : Int)) then ((if 0 ≤ x2 ∧ x2 < (p1.length : Int) then (if 0 ≤ x2 ∧ x2 < (p1.length : Int) then (if decide ((p1.getD x2.toNat 0) = 1) then (some (.inr 1)).bind fun rr => some (.inr rr) else (if 0 ≤ x2 ∧ x2 < (p1.length : Int) then (if decide (2 < (p1.getD x2.toNat 0)) then (if 0 ≤ x2 ∧ x2 < (p1.length : Int) then (if x3.length + ([(p1.getD x2.toNat 0)]).length ≤ 1099511627776 then some (.inl (x3 ++ ([(p1.getD x2.toNat 0)]))) else none) else none) else some (.inl x3)) else none)) else none) else none) : Option (Sum (List Int) (Sum (Int × List Int) (Int)))).bind fun os12 => (match os12 with | .inl s12 => spec_l08Step_l0 p1 k0 (w64 ((w64 (x1 * 9)) + (p1.getD x2.toNat 0))) (w64 (x2 + 1)) s12 | .inr rr => some rr) else some (.inl (x1, x3)))
def spec_l08Step_l1 (p0 : List Int) (p1 : List Int) (s13 : Int × List Int) : Nat → Int → Int → Int → Option (Int)
 | 0, _, _, _ => none
 | k1 + 1, x16, x17, x18 => (if decide (0 ≤ x18) then (((if 0 ≤ x18 ∧ x18 < (p1.length : Int) then (if decide (2 < (p1.getD x18.toNat 0)) then (if 0 ≤ w64 (s13.1 - x17) ∧ w64 (s13.1 - x17) < (p0.length : Int) then some (if 1000000001 < w64 (x16 + (p0.getD (w64 (s13.1 - x17)).toNat 0)) then 1000000001 else w64 (x16 + (p0.getD (w64 (s13.1 - x17)).toNat 0))) else none) else some x16) else none) : Option (Int)).bind fun s23 => some s23 : Option (Int)).bind fun s24 => spec_l08Step_l1 p0 p1 s13 k1 s24 (w64 (x17 * 9)) (w64 (x18 - 1)) else some x16)
def spec_l08Step (k : Nat) (p0 : List Int) (p1 : List Int) : Option (Int) :=
 (spec_l08Step_l0 p1 k 0 0 ([] : List Int) : Option (Sum (Int × List Int) (Int))).bind fun os13 => (match os13 with | .inl s13 => (if decide ((s13.2.length : Int) < 3) then (spec_l08Bound k s13.2).bind fun r15 => some r15 else (spec_l08Step_l1 p0 p1 s13 k (w64 (2 - (s13.2.length : Int))) 1 (w64 ((p1.length : Int) - 1)) : Option (Int)).bind fun s25 => some s25) | .inr rr => some rr)
set_option maxRecDepth 100000 in
theorem spec_l08Step_ac (k : Nat) (p0 : List Int) (p1 : List Int) (r : Int) (h : spec_l08Step k p0 p1 = some r) : AC Tryz.prog 131 [.d (.sl none (intsD p0)), .d (.sl none (intsD p1))] [] (fun res H' => res = [iV r] ∧ H' = []) := by
 refine AC_of_body true Tryz.func131 rfl Tryz.ntmps131 (rvs := [.tmp 4]) rfl rfl (fun G hG => ?_)
 have hm : G.H.length = 0 := by rw [hG]; rfl
 have hz : zeroG G.H = true := by rw [hG]; rfl
 unfold spec_l08Step at h
 refine kR ?_
 refine kN 1 rfl ?_
 refine kR ?_
 refine AOps_buildSlice 11 _ _ _ [] (intsD ([] : List Int)) _ rfl rfl rfl rfl rfl (by decide) Tryz.underlying27 Tryz.sizeOf2 (zero_of Tryz.typeInfo2 rfl) rfl rfl (intsD_one _) ?_
 refine kN 2 rfl ?_
 refine kO (fun s13 => [(0, .d (.sl none (intsD p0))), (1, .d (.sl none (intsD p1))), (5, .vec 0 0), (6, iV s13.1)]) (fun s13 => [.vec 0 (intsD s13.2)]) h (fun os13 h hks13 => ?_) (fun s13 h => ?_)
 ·refine kR ?_
  refine kN 1 rfl ?_
  refine ACode_block ?_
  refine ACode_loopW (fun k0 E H => ∃ (x1 : Int) (x2 : Int) (x3 : List Int), E = [(0, .d (.sl none (intsD p0))), (1, .d (.sl none (intsD p1))), (5, .vec 0 0), (6, iV x1), (7, iV x2)] ∧ H = [.vec 0 (intsD x3)] ∧ spec_l08Step_l0 p1 k0 x1 x2 x3 = some os13) k _ _ (Weak_keep 0 hm [0, 1, 5, 6, 7] [0] _ _ rfl rfl rfl) ⟨_, _, _, rfl, rfl, h⟩ ?_
  clear h
  rintro k0 E H ⟨x1, x2, x3, rfl, rfl, h⟩
  cases k0 with
  | zero => cases (show (none : Option (Sum (Int × List Int) (Int))) = some _ from h)
  | succ k0 =>
   rw [spec_l08Step_l0] at h
   refine ACode_seq ?_
   refine kR ?_
   refine kM 2 rfl ?_
   refine AOps_q 14 _ rfl rfl rfl (QOp_len_sl _ _ _ _ _ _ _ (intsD_length _) rfl rfl rfl rfl Tryz.underlying27 rfl) ?_
   refine AOps_q 15 _ rfl rfl rfl (QOp_lss _ _ _ _ _ _ _ rfl rfl rfl) ?_
   refine AOps_nil ?_
   refine kI h rfl (fun h _ => ?_) (fun h _ => ?_)
   ·refine ACode_skip ?_
    refine kO (fun s12 => [(0, .d (.sl none (intsD p0))), (1, .d (.sl none (intsD p1))), (5, .vec 0 0), (6, iV (w64 ((w64 (x1 * 9)) + (p1.getD x2.toNat 0)))), (7, iV x2)]) (fun s12 => [.vec 0 (intsD s12)]) h (fun os12 h hks12 => ?_) (fun s12 h => ?_)
    ·refine ACode_block ?_
     refine kR ?_
     refine kM 1 rfl ?_
     refine AOps_q 19 _ rfl rfl rfl (QOp_mul _ _ _ _ _ _ _ rfl rfl rfl) ?_
     refine kM 2 rfl ?_
     obtain ⟨hc5, h⟩ := guardO h
     refine AOps_q 22 _ rfl rfl rfl (QOp_indexAddr_sl _ _ _ _ _ _ _ _ rfl Tryz.underlying27 Tryz.sizeOf2 hc5.1 (by rw [intsD_length]; exact hc5.2) rfl rfl) ?_
     refine AOps_q 23 _ rfl rfl rfl (QOp_load_pv _ _ _ _ _ rfl Tryz.isAgg2 rfl (intsD_get _ _ 0 (by omega))) ?_
     refine AOps_q 24 _ rfl rfl rfl (QOp_add _ _ _ _ _ _ _ rfl rfl rfl) ?_
     refine kN 1 rfl ?_
     refine ACode_seq ?_
     refine kR ?_
     refine kM 2 rfl ?_
     obtain ⟨hc6, h⟩ := guardO h
     refine AOps_q 27 _ rfl rfl rfl (QOp_indexAddr_sl _ _ _ _ _ _ _ _ rfl Tryz.underlying27 Tryz.sizeOf2 hc6.1 (by rw [intsD_length]; exact hc6.2) rfl rfl) ?_
     refine AOps_q 28 _ rfl rfl rfl (QOp_load_pv _ _ _ _ _ rfl Tryz.isAgg2 rfl (intsD_get _ _ 0 (by omega))) ?_
     refine AOps_q 29 _ rfl rfl rfl (QOp_eql _ _ _ _ _ _ _ rfl rfl rfl) ?_
     refine AOps_nil ?_
     refine kI h rfl (fun h _ => ?_) (fun h _ => ?_)
     ·refine kR ?_
      refine kN 1 rfl ?_
      refine ACode_ret ?_
      obtain ⟨rr, hz26, h2⟩ := bindO h
      obtain rfl := Option.some.inj h2
      obtain rfl := Option.some.inj (show some rr = some _ from hks12)
      have h := hz26
      cases h
      have h := hks13
      cases h
      exact ⟨_, _, fun r a w h => ⟨r, h⟩, _, _, [], _, (.cons (ResV_tmp _ _ rfl) .nil), rfl, rfl, rfl, rfl, rfl⟩
     refine ACode_skip ?_
     refine kR ?_
     refine kM 2 rfl ?_
     obtain ⟨hc8, h⟩ := guardO h
     refine AOps_q 32 _ rfl rfl rfl (QOp_indexAddr_sl _ _ _ _ _ _ _ _ rfl Tryz.underlying27 Tryz.sizeOf2 hc8.1 (by rw [intsD_length]; exact hc8.2) rfl rfl) ?_
     refine AOps_q 33 _ rfl rfl rfl (QOp_load_pv _ _ _ _ _ rfl Tryz.isAgg2 rfl (intsD_get _ _ 0 (by omega))) ?_
     refine AOps_q 34 _ rfl rfl rfl (QOp_gtr _ _ _ _ _ _ _ rfl rfl rfl) ?_
     refine AOps_nil ?_
     refine kI h rfl (fun h _ => ?_) (fun h _ => ?_)
     ·refine (ACode_region ?_)
      refine kM 3 rfl ?_
      obtain ⟨hc10, h⟩ := guardO h
      refine AOps_q 38 _ rfl rfl rfl (QOp_indexAddr_sl _ _ _ _ _ _ _ _ rfl Tryz.underlying27 Tryz.sizeOf2 hc10.1 (by rw [intsD_length]; exact hc10.2) rfl rfl) ?_
      refine AOps_q 39 _ rfl rfl rfl (QOp_load_pv _ _ _ _ _ rfl Tryz.isAgg2 rfl (intsD_get _ _ 0 (by omega))) ?_
      refine AOps_buildSlice 40 _ _ _ [_] (intsD ([(p1.getD x2.toNat 0)])) _ rfl rfl rfl rfl rfl (by decide) Tryz.underlying27 Tryz.sizeOf2 (zero_of Tryz.typeInfo2 rfl) rfl rfl (intsD_one _) ?_
      obtain ⟨hc11, h⟩ := guardO h
      refine AOps_append 41 _ _ _ _ _ _ _ _ _ _ _ _ rfl rfl rfl rfl rfl rfl rfl Tryz.underlying27 Tryz.type2 rfl rfl rfl (by decide) rfl rfl rfl rfl (intsD_one _) (by rw [intsD_length, intsD_length]; exact hc11) ?_
      rw [intsD_app]
      refine kN 1 rfl ?_
      cases h
      exact ⟨_, rfl, Weak_trans (Weak_keep 0 hm [0, 1, 5, 6, 7] [0] _ _ rfl rfl rfl) (Weak_reset 0 hm hz [0, 1, 5, 6, 7] _ _ rfl rfl)⟩
     refine ACode_skip ?_
     cases h
     exact ⟨_, rfl, Weak_keep 0 hm [0, 1, 5, 6, 7] [0] _ _ rfl rfl rfl⟩
    refine (ACode_region ?_)
    refine kM 1 rfl ?_
    refine AOps_q 17 _ rfl rfl rfl (QOp_add _ _ _ _ _ _ _ rfl rfl rfl) ?_
    refine kN 1 rfl ?_
    exact ⟨k0, _, _, Nat.lt_succ_self _, Weak_keep 0 hm [0, 1, 5, 6, 7] [0] _ _ rfl rfl rfl, _, _, _, rfl, rfl, h⟩
   refine ACode_exit ?_
   cases h
   exact ⟨_, rfl, Weak_keep 0 hm [0, 1, 5, 6] [0] _ _ rfl rfl rfl⟩
 refine ACode_seq ?_
 refine kR ?_
 refine kM 1 rfl ?_
 refine AOps_q 43 _ rfl rfl rfl (QOp_len_vec _ _ _ _ _ _ _ _ (intsD_length _) rfl rfl rfl rfl Tryz.underlying27 rfl rfl) ?_
 refine AOps_q 44 _ rfl rfl rfl (QOp_lss _ _ _ _ _ _ _ rfl rfl rfl) ?_
 refine AOps_nil ?_
 refine kI h rfl (fun h _ => ?_) (fun h _ => ?_)
 ·refine kR ?_
  refine kM 1 rfl ?_
  obtain ⟨r15, hr15, h⟩ := bindO h
  refine AOps_callL [] 46 _ _ _ _ _ _ _ _ _ _ rfl rfl rfl rfl rfl rfl rfl Tryz.call130 rfl (nodupB_sound _ rfl) rfl rfl rfl (spec_l08Bound_ac k s13.2 _ hr15) ?_
  rintro _ _ ⟨rfl, rfl⟩
  refine ⟨(fun _ h => nomatch h), (allc (flat_s _) (fun _ h => nomatch h)), AOps_as 46 (v' := iV r15) (H' := [.vec 0 (intsD s13.2)]) rfl rfl ?_⟩
  refine kN 1 rfl ?_
  refine ACode_ret ?_
  cases h
  exact ⟨_, _, fun r a w h => ⟨r, h⟩, _, _, [], _, (.cons (ResV_tmp _ _ rfl) .nil), rfl, rfl, rfl, rfl, rfl⟩
 refine ACode_skip ?_
 refine kR ?_
 refine kM 1 rfl ?_
 refine AOps_q 48 _ rfl rfl rfl (QOp_len_vec _ _ _ _ _ _ _ _ (intsD_length _) rfl rfl rfl rfl Tryz.underlying27 rfl rfl) ?_
 refine AOps_q 49 _ rfl rfl rfl (QOp_sub _ _ _ _ _ _ _ rfl rfl rfl) ?_
 refine kN 2 rfl ?_
 refine kB (fun s25 => [(8, iV s25)]) (fun s25 => []) h (fun s25 h => ?_) (fun s25 h => ?_)
 ·refine kR ?_
  refine kM 1 rfl ?_
  refine AOps_q 51 _ rfl rfl rfl (QOp_len_sl _ _ _ _ _ _ _ (intsD_length _) rfl rfl rfl rfl Tryz.underlying27 rfl) ?_
  refine AOps_q 52 _ rfl rfl rfl (QOp_sub _ _ _ _ _ _ _ rfl rfl rfl) ?_
  refine kN 1 rfl ?_
  refine ACode_block ?_
  refine ACode_loopW (fun k1 E H => ∃ (x16 : Int) (x17 : Int) (x18 : Int), E = [(0, .d (.sl none (intsD p0))), (1, .d (.sl none (intsD p1))), (6, iV s13.1), (8, iV x16), (9, iV x17), (10, iV x18)] ∧ H = [] ∧ spec_l08Step_l1 p0 p1 s13 k1 x16 x17 x18 = some s25) k _ _ (Weak_keep 0 hm [0, 1, 6, 8, 9, 10] [] _ _ rfl rfl rfl) ⟨_, _, _, rfl, rfl, h⟩ ?_
  clear h
  rintro k1 E H ⟨x16, x17, x18, rfl, rfl, h⟩
  cases k1 with
  | zero => cases (show (none : Option (Int)) = some _ from h)
  | succ k1 =>
   rw [spec_l08Step_l1] at h
   refine ACode_seq ?_
   refine kR ?_
   refine kM 1 rfl ?_
   refine AOps_q 54 _ rfl rfl rfl (QOp_geq _ _ _ _ _ _ _ rfl rfl rfl) ?_
   refine AOps_nil ?_
   refine kI h rfl (fun h _ => ?_) (fun h _ => ?_)
   ·refine ACode_skip ?_
    refine kB (fun s24 => [(0, .d (.sl none (intsD p0))), (1, .d (.sl none (intsD p1))), (6, iV s13.1), (8, iV s24), (9, iV (w64 (x17 * 9))), (10, iV x18)]) (fun s24 => []) h (fun s24 h => ?_) (fun s24 h => ?_)
    ·refine ACode_block ?_
     refine kB (fun s23 => [(0, .d (.sl none (intsD p0))), (1, .d (.sl none (intsD p1))), (6, iV s13.1), (8, iV s23), (9, iV x17), (10, iV x18)]) (fun s23 => []) h (fun s23 h => ?_) (fun s23 h => ?_)
     ·refine kR ?_
      refine kM 2 rfl ?_
      obtain ⟨hc20, h⟩ := guardO h
      refine AOps_q 59 _ rfl rfl rfl (QOp_indexAddr_sl _ _ _ _ _ _ _ _ rfl Tryz.underlying27 Tryz.sizeOf2 hc20.1 (by rw [intsD_length]; exact hc20.2) rfl rfl) ?_
      refine AOps_q 60 _ rfl rfl rfl (QOp_load_pv _ _ _ _ _ rfl Tryz.isAgg2 rfl (intsD_get _ _ 0 (by omega))) ?_
      refine AOps_q 61 _ rfl rfl rfl (QOp_gtr _ _ _ _ _ _ _ rfl rfl rfl) ?_
      refine AOps_nil ?_
      refine kI h rfl (fun h _ => ?_) (fun h _ => ?_)
      ·refine (ACode_region ?_)
       refine kM 4 rfl ?_
       refine AOps_q 66 _ rfl rfl rfl (QOp_sub _ _ _ _ _ _ _ rfl rfl rfl) ?_
       obtain ⟨hc22, h⟩ := guardO h
       refine AOps_q 67 _ rfl rfl rfl (QOp_indexAddr_sl _ _ _ _ _ _ _ _ rfl Tryz.underlying27 Tryz.sizeOf2 hc22.1 (by rw [intsD_length]; exact hc22.2) rfl rfl) ?_
       refine AOps_q 68 _ rfl rfl rfl (QOp_load_pv _ _ _ _ _ rfl Tryz.isAgg2 rfl (intsD_get _ _ 0 (by omega))) ?_
       refine AOps_q 69 _ rfl rfl rfl (QOp_add _ _ _ _ _ _ _ rfl rfl rfl) ?_
       refine AOps_q 70 _ rfl rfl rfl (QOp_min _ _ _ _ _ _ rfl rfl rfl rfl rfl) ?_
       refine kN 1 rfl ?_
       cases h
       exact Weak_keep 0 hm [0, 1, 6, 8, 9, 10] [] _ _ rfl rfl rfl
      refine ACode_skip ?_
      cases h
      exact Weak_keep 0 hm [0, 1, 6, 8, 9, 10] [] _ _ rfl rfl rfl
     refine (ACode_region ?_)
     refine kM 1 rfl ?_
     refine AOps_q 72 _ rfl rfl rfl (QOp_mul _ _ _ _ _ _ _ rfl rfl rfl) ?_
     refine kN 1 rfl ?_
     cases h
     exact Weak_keep 0 hm [0, 1, 6, 8, 9, 10] [] _ _ rfl rfl rfl
    refine (ACode_region ?_)
    refine kM 1 rfl ?_
    refine AOps_q 56 _ rfl rfl rfl (QOp_sub _ _ _ _ _ _ _ rfl rfl rfl) ?_
    refine kN 1 rfl ?_
    exact ⟨k1, _, _, Nat.lt_succ_self _, Weak_keep 0 hm [0, 1, 6, 8, 9, 10] [] _ _ rfl rfl rfl, _, _, _, rfl, rfl, h⟩
   refine ACode_exit ?_
   cases h
   exact Weak_keep 0 hm [8] [] _ _ rfl rfl rfl
 refine kR ?_
 refine kN 2 rfl ?_
 refine ACode_ret ?_
 cases h
 exact ⟨_, _, fun r a w h => ⟨r, h⟩, _, _, [], _, (.cons (ResV_tmp _ _ rfl) .nil), rfl, rfl, rfl, rfl, rfl⟩

-- loop.example/g01362/spec.l08Table
def spec_l08Table_l1 (p0 : List Int) : Nat → Int → Bool → Int → (List Int) → Option (Int × Bool × List Int)
 | 0, _, _, _, _ => none
 | k1 + 1, x9, x10, x11, x12 => (if decide (0 ≤ x11) then ((if 0 ≤ x11 ∧ x11 < (x12.length : Int) then ((if x10 then (if 0 ≤ x11 ∧ x11 < ((x12.set x11.toNat (x9.tmod 9)).length : Int) then (if decide (1 ≤ ((x12.set x11.toNat (x9.tmod 9)).getD x11.toNat 0)) then (if 0 ≤ x11 ∧ x11 < ((x12.set x11.toNat (x9.tmod 9)).length : Int) then (if 0 ≤ x11 ∧ x11 < (p0.length : Int) then some (decide (((x12.set x11.toNat (x9.tmod 9)).getD x11.toNat 0) ≤ (p0.getD x11.toNat 0))) else none) else none) else some false) else none) else some false) : Option (Bool)).bind fun s20 => some s20 else none) : Option (Bool)).bind fun s21 => spec_l08Table_l1 p0 k1 (w64 (x9.tdiv 9)) s21 (w64 (x11 - 1)) (x12.set x11.toNat (x9.tmod 9)) else some (x9, x10, x12))
def spec_l08Table_l0 (k : Nat) (p0 : List Int) : Nat → Int → (List Int) → (List Int) → Option (List Int)
 | 0, _, _, _ => none
 | k0 + 1, x5, x6, x7 => (if decide (x5 < (x6.length : Int)) then ((spec_l08Table_l1 p0 k x5 true (w64 ((p0.length : Int) - 1)) x7 : Option (Int × Bool × List Int)).bind fun s22 => letO (if s22.2.1 then decide (s22.1 = 0) else false) fun (s24 : Bool) => (if s24 then (spec_l08Step k x6 s22.2.2).bind fun r26 => (if 0 ≤ x5 ∧ x5 < (x6.length : Int) then some (x6.set x5.toNat r26, s22.2.2) else none) else some (x6, s22.2.2)) : Option (List Int × List Int)).bind fun s28 => spec_l08Table_l0 k p0 k0 (w64 (x5 + 1)) s28.1 s28.2 else some x6)
def spec_l08Table_l2 (p0 : List Int) : Nat → Int → Int → Option (Int)
 | 0, _, _ => none
 | k2 + 1, x30, x31 => (if decide (x31 < (p0.length : Int)) then (if 0 ≤ x31 ∧ x31 < (p0.length : Int) then spec_l08Table_l2 p0 k2 (w64 ((w64 (x30 * 9)) + (p0.getD x31.toNat 0))) (w64 (x31 + 1)) else none) else some x30)
def spec_l08Table (k : Nat) (p0 : List Int) : Option (Int) :=
 (if decide ((p0.length : Int) < 3) then (spec_l08Bound k p0).bind fun r2 => some r2 else (if 0 ≤ (6561 : Int) ∧ (6561 : Int) ≤ (6561 : Int) ∧ (6561 : Int) ≤ 1099511627776 then (if 0 ≤ (p0.length : Int) ∧ (p0.length : Int) ≤ (p0.length : Int) ∧ (p0.length : Int) ≤ 1099511627776 then (spec_l08Table_l0 k p0 k 0 (List.replicate (6561 : Int).toNat (0 : Int)) (List.replicate (p0.length : Int).toNat (0 : Int)) : Option (List Int)).bind fun s29 => (spec_l08Table_l2 p0 k 0 0 : Option (Int)).bind fun s34 => (if 0 ≤ s34 ∧ s34 < (s29.length : Int) then some (s29.getD s34.toNat 0) else none) else none) else none))
set_option maxRecDepth 100000 in
theorem spec_l08Table_ac (k : Nat) (p0 : List Int) (r : Int) (h : spec_l08Table k p0 = some r) : AC Tryz.prog 68 [.d (.sl none (intsD p0))] [] (fun res H' => res = [iV r] ∧ H' = []) := by
 refine AC_of_body true Tryz.func68 rfl Tryz.ntmps68 (rvs := [.tmp 2]) rfl rfl (fun G hG => ?_)
 have hm : G.H.length = 0 := by rw [hG]; rfl
 have hz : zeroG G.H = true := by rw [hG]; rfl
 unfold spec_l08Table at h
 refine kR ?_
 refine kN 1 rfl ?_
 refine ACode_seq ?_
 refine kR ?_
 refine kM 1 rfl ?_
 refine AOps_q 12 _ rfl rfl rfl (QOp_len_sl _ _ _ _ _ _ _ (intsD_length _) rfl rfl rfl rfl Tryz.underlying27 rfl) ?_
 refine AOps_q 13 _ rfl rfl rfl (QOp_lss _ _ _ _ _ _ _ rfl rfl rfl) ?_
 refine AOps_nil ?_
 refine kI h rfl (fun h _ => ?_) (fun h _ => ?_)
 ·refine kR ?_
  refine kM 1 rfl ?_
  obtain ⟨r2, hr2, h⟩ := bindO h
  refine kC [] 15 (iV r2) [] rfl Tryz.call130 rfl rfl (spec_l08Bound_ac k p0 _ hr2) rfl ?_
  refine kN 1 rfl ?_
  refine ACode_ret ?_
  cases h
  exact ⟨_, _, fun r a w h => ⟨r, h⟩, _, _, [], _, (.cons (ResV_tmp _ _ rfl) .nil), rfl, rfl, rfl, rfl, rfl⟩
 refine ACode_skip ?_
 obtain ⟨hc3, h⟩ := guardO h
 obtain ⟨hc4, h⟩ := guardO h
 refine ACode_seqJ (fun E' H' => Weak 88 G E' H' [(0, .d (.sl none (intsD p0))), (3, .vec 0 0), (4, .vec 1 0)] [.vec 0 (intsD (List.replicate (6561 : Int).toNat (0 : Int))), .vec 0 (intsD (List.replicate (p0.length : Int).toNat (0 : Int)))]) ?_ ?_
 ·refine ACode_any mixed ?_
  refine AAny_q 1 17 _ rfl (by kernel_rfl) rfl rfl rfl (QOp_move _ _ rfl rfl) ?_
  refine AAny_q 2 18 _ rfl (by kernel_rfl) rfl rfl rfl (QOp_len_sl _ _ _ _ _ _ _ (intsD_length _) rfl rfl rfl rfl Tryz.underlying27 rfl) ?_
  refine AAny_all [0, 3] (by kernel_rfl) rfl (allc ?_ (allc ?_ (fun _ h => nomatch h)))
  ·refine AStep_of 0 rfl rfl (Bl_makeSlice _ _ _ _ _ _ 6561 6561 _ (.int .i64 0) rfl Tryz.underlying27 Tryz.type2 rfl rfl rfl (by decide) rfl rfl hc3.1 hc3.2.1 hc3.2.2) ?_
   refine AOps_makeSliceG intsD iD 0 (intsD_rep · _) 16 _ _ _ _ _ _ 6561 6561 _ (.int .i64 0) rfl rfl rfl rfl rfl rfl Tryz.underlying27 Tryz.type2 rfl rfl (by decide) rfl rfl hc3.1 hc3.2.1 hc3.2.2 ?_
   refine AOps_nil ?_
   refine AAny_q 4 3 _ rfl (by kernel_rfl) rfl rfl rfl (QOp_assign _ _ rfl rfl) ?_
   refine AAny_all [3] (by kernel_rfl) rfl (allc ?_ (fun _ h => nomatch h))
   refine AStep_of 3 rfl rfl (Bl_makeSlice _ _ _ _ _ _ (p0.length : Int) (p0.length : Int) _ (.int .i64 0) rfl Tryz.underlying27 Tryz.type2 rfl rfl rfl (by decide) rfl rfl hc4.1 hc4.2.1 hc4.2.2) ?_
   refine AOps_makeSliceG intsD iD 0 (intsD_rep · _) 19 _ _ _ _ _ _ (p0.length : Int) (p0.length : Int) _ (.int .i64 0) rfl rfl rfl rfl rfl rfl Tryz.underlying27 Tryz.type2 rfl rfl (by decide) rfl rfl hc4.1 hc4.2.1 hc4.2.2 ?_
   refine AOps_nil ?_
   refine AAny_q 5 4 _ rfl (by kernel_rfl) rfl rfl rfl (QOp_assign _ _ rfl rfl) ?_
   refine AAny_done (by kernel_rfl) ?_
   exact Weak_keep 0 hm [0, 3, 4] [0, 1] _ _ rfl rfl rfl
  refine AStep_of 3 rfl rfl (Bl_makeSlice _ _ _ _ _ _ (p0.length : Int) (p0.length : Int) _ (.int .i64 0) rfl Tryz.underlying27 Tryz.type2 rfl rfl rfl (by decide) rfl rfl hc4.1 hc4.2.1 hc4.2.2) ?_
  refine AOps_makeSliceG intsD iD 0 (intsD_rep · _) 19 _ _ _ _ _ _ (p0.length : Int) (p0.length : Int) _ (.int .i64 0) rfl rfl rfl rfl rfl rfl Tryz.underlying27 Tryz.type2 rfl rfl (by decide) rfl rfl hc4.1 hc4.2.1 hc4.2.2 ?_
  refine AOps_nil ?_
  refine AAny_all [0] (by kernel_rfl) rfl (allc ?_ (fun _ h => nomatch h))
  refine AStep_of 0 rfl rfl (Bl_makeSlice _ _ _ _ _ _ 6561 6561 _ (.int .i64 0) rfl Tryz.underlying27 Tryz.type2 rfl rfl rfl (by decide) rfl rfl hc3.1 hc3.2.1 hc3.2.2) ?_
  refine AOps_makeSliceG intsD iD 0 (intsD_rep · _) 16 _ _ _ _ _ _ 6561 6561 _ (.int .i64 0) rfl rfl rfl rfl rfl rfl Tryz.underlying27 Tryz.type2 rfl rfl (by decide) rfl rfl hc3.1 hc3.2.1 hc3.2.2 ?_
  refine AOps_nil ?_
  refine AAny_q 4 3 _ rfl (by kernel_rfl) rfl rfl rfl (QOp_assign _ _ rfl rfl) ?_
  refine AAny_q 5 4 _ rfl (by kernel_rfl) rfl rfl rfl (QOp_assign _ _ rfl rfl) ?_
  refine AAny_done (by kernel_rfl) ?_
  exact Weak_keep 0 hm [0, 3, 4] [1, 0] _ _ rfl rfl rfl
 intro E' H' hw
 refine ACode_weak hw ?_
 refine kB (fun s29 => [(0, .d (.sl none (intsD p0))), (3, .vec 0 0)]) (fun s29 => [.vec 0 (intsD s29)]) h (fun s29 h => ?_) (fun s29 h => ?_)
 ·refine kR ?_
  refine kN 1 rfl ?_
  refine ACode_block ?_
  refine ACode_loopW (fun k0 E H => ∃ (x5 : Int) (x6 : List Int) (x7 : List Int), E = [(0, .d (.sl none (intsD p0))), (3, .vec 0 0), (4, .vec 1 0), (5, iV x5)] ∧ H = [.vec 0 (intsD x6), .vec 0 (intsD x7)] ∧ spec_l08Table_l0 k p0 k0 x5 x6 x7 = some s29) k _ _ (Weak_keep 0 hm [0, 3, 4, 5] [0, 1] _ _ rfl rfl rfl) ⟨_, _, _, rfl, rfl, h⟩ ?_
  clear h
  rintro k0 E H ⟨x5, x6, x7, rfl, rfl, h⟩
  cases k0 with
  | zero => cases (show (none : Option (List Int)) = some _ from h)
  | succ k0 =>
   rw [spec_l08Table_l0] at h
   refine ACode_seq ?_
   refine kR ?_
   refine kM 2 rfl ?_
   refine AOps_q 22 _ rfl rfl rfl (QOp_len_vec _ _ _ _ _ _ _ _ (intsD_length _) rfl rfl rfl rfl Tryz.underlying27 rfl rfl) ?_
   refine AOps_q 23 _ rfl rfl rfl (QOp_lss _ _ _ _ _ _ _ rfl rfl rfl) ?_
   refine AOps_nil ?_
   refine kI h rfl (fun h _ => ?_) (fun h _ => ?_)
   ·refine ACode_skip ?_
    refine kB (fun s28 => [(0, .d (.sl none (intsD p0))), (3, .vec 0 0), (4, .vec 1 0), (5, iV x5)]) (fun s28 => [.vec 0 (intsD s28.1), .vec 0 (intsD s28.2)]) h (fun s28 h => ?_) (fun s28 h => ?_)
    ·refine ACode_block ?_
     refine kR ?_
     refine kN 3 rfl ?_
     refine kB (fun s22 => [(0, .d (.sl none (intsD p0))), (3, .vec 0 0), (4, .vec 1 0), (5, iV x5), (6, iV s22.1), (7, bV s22.2.1)]) (fun s22 => [.vec 0 (intsD x6), .vec 0 (intsD s22.2.2)]) h (fun s22 h => ?_) (fun s22 h => ?_)
     ·refine kR ?_
      refine kM 1 rfl ?_
      refine AOps_q 28 _ rfl rfl rfl (QOp_len_sl _ _ _ _ _ _ _ (intsD_length _) rfl rfl rfl rfl Tryz.underlying27 rfl) ?_
      refine AOps_q 29 _ rfl rfl rfl (QOp_sub _ _ _ _ _ _ _ rfl rfl rfl) ?_
      refine kN 1 rfl ?_
      refine ACode_block ?_
      refine ACode_loopW (fun k1 E H => ∃ (x9 : Int) (x10 : Bool) (x11 : Int) (x12 : List Int), E = [(0, .d (.sl none (intsD p0))), (3, .vec 0 0), (4, .vec 1 0), (5, iV x5), (6, iV x9), (7, bV x10), (8, iV x11)] ∧ H = [.vec 0 (intsD x6), .vec 0 (intsD x12)] ∧ spec_l08Table_l1 p0 k1 x9 x10 x11 x12 = some s22) k _ _ (Weak_keep 0 hm [0, 3, 4, 5, 6, 7, 8] [0, 1] _ _ rfl rfl rfl) ⟨_, _, _, _, rfl, rfl, h⟩ ?_
      clear h
      rintro k1 E H ⟨x9, x10, x11, x12, rfl, rfl, h⟩
      cases k1 with
      | zero => cases (show (none : Option (Int × Bool × List Int)) = some _ from h)
      | succ k1 =>
       rw [spec_l08Table_l1] at h
       refine ACode_seq ?_
       refine kR ?_
       refine kM 1 rfl ?_
       refine AOps_q 31 _ rfl rfl rfl (QOp_geq _ _ _ _ _ _ _ rfl rfl rfl) ?_
       refine AOps_nil ?_
       refine kI h rfl (fun h _ => ?_) (fun h _ => ?_)
       ·refine ACode_skip ?_
        refine kB (fun s21 => [(0, .d (.sl none (intsD p0))), (3, .vec 0 0), (4, .vec 1 0), (5, iV x5), (6, iV (w64 (x9.tdiv 9))), (7, bV s21), (8, iV x11)]) (fun s21 => [.vec 0 (intsD x6), .vec 0 (intsD (x12.set x11.toNat (x9.tmod 9)))]) h (fun s21 h => ?_) (fun s21 h => ?_)
        ·refine ACode_block ?_
         refine kR ?_
         refine kM 3 rfl ?_
         refine AOps_q 37 _ rfl rfl rfl (QOp_rem _ _ _ _ _ _ _ (by decide) rfl rfl rfl) ?_
         obtain ⟨hc14, h⟩ := guardO h
         refine AOps_q 38 _ rfl rfl rfl (QOp_indexAddr_vec _ _ _ _ _ _ _ _ _ rfl Tryz.underlying27 Tryz.sizeOf2 hc14.1 (by rw [intsD_length]; exact hc14.2) rfl rfl rfl) ?_
         refine AOps_store_eptr _ _ _ _ _ _ (intsD x12) _ rfl rfl rfl rfl rfl rfl rfl Tryz.sizeOf2 (by rw [intsD_length]; omega) ?_
         rw [intsD_set]
         refine AOps_nil ?_
         refine kB (fun s20 => [(0, .d (.sl none (intsD p0))), (3, .vec 0 0), (4, .vec 1 0), (5, iV x5), (6, iV x9), (7, bV s20), (8, iV x11)]) (fun s20 => [.vec 0 (intsD x6), .vec 0 (intsD (x12.set x11.toNat (x9.tmod 9)))]) h (fun s20 h => ?_) (fun s20 h => ?_)
         ·refine (ACode_quiet mixed (by kernel_rfl) ?_)
          refine kQ 2 rfl ?_
          refine AQ_case 40 _ rfl (fun hb15 => ?_) (fun hb15 => ?_)
          ·have h := iteT hb15 h
           refine kQ 2 rfl ?_
           obtain ⟨hc16, h⟩ := guardO h
           refine AQ_q 43 _ rfl rfl rfl (QOp_indexAddr_vec _ _ _ _ _ _ _ _ _ rfl Tryz.underlying27 Tryz.sizeOf2 hc16.1 (by rw [intsD_length]; exact hc16.2) rfl rfl rfl) ?_
           refine AQ_q 44 _ rfl rfl rfl (QOp_load_eptr _ _ _ _ _ _ _ rfl Tryz.isAgg2 rfl rfl (intsD_get _ _ 0 (by omega))) ?_
           refine AQ_q 45 _ rfl rfl rfl (QOp_geq _ _ _ _ _ _ _ rfl rfl rfl) ?_
           refine kQ 2 rfl ?_
           refine AQ_case 47 _ rfl (fun hb17 => ?_) (fun hb17 => ?_)
           ·have h := iteT hb17 h
            refine kQ 2 rfl ?_
            obtain ⟨hc18, h⟩ := guardO h
            refine AQ_q 50 _ rfl rfl rfl (QOp_indexAddr_vec _ _ _ _ _ _ _ _ _ rfl Tryz.underlying27 Tryz.sizeOf2 hc18.1 (by rw [intsD_length]; exact hc18.2) rfl rfl rfl) ?_
            refine AQ_q 51 _ rfl rfl rfl (QOp_load_eptr _ _ _ _ _ _ _ rfl Tryz.isAgg2 rfl rfl (intsD_get _ _ 0 (by omega))) ?_
            refine kQ 2 rfl ?_
            obtain ⟨hc19, h⟩ := guardO h
            refine AQ_q 54 _ rfl rfl rfl (QOp_indexAddr_sl _ _ _ _ _ _ _ _ rfl Tryz.underlying27 Tryz.sizeOf2 hc19.1 (by rw [intsD_length]; exact hc19.2) rfl rfl) ?_
            refine AQ_q 55 _ rfl rfl rfl (QOp_load_pv _ _ _ _ _ rfl Tryz.isAgg2 rfl (intsD_get _ _ 0 (by omega))) ?_
            refine AQ_q 56 _ rfl rfl rfl (QOp_leq _ _ _ _ _ _ _ rfl rfl rfl) ?_
            refine kQ 2 rfl ?_
            refine AQ_nil ?_
            cases h
            exact Weak_keep 0 hm [0, 3, 4, 5, 6, 7, 8] [0, 1] _ _ rfl rfl rfl
           have h := iteF hb17 h
           refine AQ_skip 48 rfl rfl rfl ?_
           refine AQ_skip 49 rfl rfl rfl ?_
           refine AQ_skip 50 rfl rfl rfl ?_
           refine AQ_skip 51 rfl rfl rfl ?_
           refine AQ_skip 52 rfl rfl rfl ?_
           refine AQ_skip 53 rfl rfl rfl ?_
           refine AQ_skip 54 rfl rfl rfl ?_
           refine AQ_skip 55 rfl rfl rfl ?_
           refine AQ_skip 56 rfl rfl rfl ?_
           refine kQ 2 rfl ?_
           refine AQ_nil ?_
           cases h
           exact Weak_keep 0 hm [0, 3, 4, 5, 6, 7, 8] [0, 1] _ _ rfl rfl rfl
          have h := iteF hb15 h
          refine AQ_skip 41 rfl rfl rfl ?_
          refine AQ_skip 42 rfl rfl rfl ?_
          refine AQ_skip 43 rfl rfl rfl ?_
          refine AQ_skip 44 rfl rfl rfl ?_
          refine AQ_skip 45 rfl rfl rfl ?_
          refine kQ 2 rfl ?_
          refine AQ_skip 48 rfl rfl rfl ?_
          refine AQ_skip 49 rfl rfl rfl ?_
          refine AQ_skip 50 rfl rfl rfl ?_
          refine AQ_skip 51 rfl rfl rfl ?_
          refine AQ_skip 52 rfl rfl rfl ?_
          refine AQ_skip 53 rfl rfl rfl ?_
          refine AQ_skip 54 rfl rfl rfl ?_
          refine AQ_skip 55 rfl rfl rfl ?_
          refine AQ_skip 56 rfl rfl rfl ?_
          refine kQ 2 rfl ?_
          refine AQ_nil ?_
          cases h
          exact Weak_keep 0 hm [0, 3, 4, 5, 6, 7, 8] [0, 1] _ _ rfl rfl rfl
         refine (ACode_region ?_)
         refine kM 1 rfl ?_
         refine AOps_q 59 _ rfl rfl rfl (QOp_quo _ _ _ _ _ _ _ (by decide) rfl rfl rfl) ?_
         refine kN 1 rfl ?_
         cases h
         exact Weak_keep 0 hm [0, 3, 4, 5, 6, 7, 8] [0, 1] _ _ rfl rfl rfl
        refine (ACode_region ?_)
        refine kM 1 rfl ?_
        refine AOps_q 33 _ rfl rfl rfl (QOp_sub _ _ _ _ _ _ _ rfl rfl rfl) ?_
        refine kN 1 rfl ?_
        exact ⟨k1, _, _, Nat.lt_succ_self _, Weak_keep 0 hm [0, 3, 4, 5, 6, 7, 8] [0, 1] _ _ rfl rfl rfl, _, _, _, _, rfl, rfl, h⟩
       refine ACode_exit ?_
       cases h
       exact Weak_keep 0 hm [0, 3, 4, 5, 6, 7] [0, 1] _ _ rfl rfl rfl
     refine kL (fun s24 => [(0, .d (.sl none (intsD p0))), (3, .vec 0 0), (4, .vec 1 0), (5, iV x5), (64, bV s24)]) (fun s24 => [.vec 0 (intsD x6), .vec 0 (intsD s22.2.2)]) h (fun s24 h => ?_) (fun s24 h => ?_)
     ·refine (ACode_region ?_)
      refine kM 2 rfl ?_
      refine AOps_case 61 _ rfl (fun hb23 => ?_) (fun hb23 => ?_)
      ·have h := iteT hb23 h
       refine kM 1 rfl ?_
       refine AOps_q 63 _ rfl rfl rfl (QOp_eql _ _ _ _ _ _ _ rfl rfl rfl) ?_
       refine kN 1 rfl ?_
       cases h
       exact Weak_keep 0 hm [0, 3, 4, 5, 64] [0, 1] _ _ rfl rfl rfl
      have h := iteF hb23 h
      refine AOps_skip 62 rfl rfl rfl ?_
      refine AOps_skip 63 rfl rfl rfl ?_
      refine kN 1 rfl ?_
      cases h
      exact Weak_keep 0 hm [0, 3, 4, 5, 64] [0, 1] _ _ rfl rfl rfl
     refine kI h rfl (fun h _ => ?_) (fun h _ => ?_)
     ·refine (ACode_region ?_)
      refine kM 4 rfl ?_
      obtain ⟨r26, hr26, h⟩ := bindO h
      refine AOps_callL [] 69 _ _ _ _ _ _ _ _ _ _ rfl rfl rfl rfl rfl rfl rfl Tryz.call131 rfl (nodupB_sound _ rfl) rfl rfl rfl (spec_l08Step_ac k x6 s22.2.2 _ hr26) ?_
      rintro _ _ ⟨rfl, rfl⟩
      refine ⟨(fun _ h => nomatch h), (allc (flat_s _) (fun _ h => nomatch h)), AOps_as 69 (v' := iV r26) (H' := [.vec 0 (intsD x6), .vec 0 (intsD s22.2.2)]) rfl rfl ?_⟩
      obtain ⟨hc27, h⟩ := guardO h
      refine AOps_q 70 _ rfl rfl rfl (QOp_indexAddr_vec _ _ _ _ _ _ _ _ _ rfl Tryz.underlying27 Tryz.sizeOf2 hc27.1 (by rw [intsD_length]; exact hc27.2) rfl rfl rfl) ?_
      refine AOps_store_eptr _ _ _ _ _ _ (intsD x6) _ rfl rfl rfl rfl rfl rfl rfl Tryz.sizeOf2 (by rw [intsD_length]; omega) ?_
      rw [intsD_set]
      refine AOps_nil ?_
      cases h
      exact Weak_keep 0 hm [0, 3, 4, 5] [0, 1] _ _ rfl rfl rfl
     refine ACode_skip ?_
     cases h
     exact Weak_keep 0 hm [0, 3, 4, 5] [0, 1] _ _ rfl rfl rfl
    refine (ACode_region ?_)
    refine kM 1 rfl ?_
    refine AOps_q 25 _ rfl rfl rfl (QOp_add _ _ _ _ _ _ _ rfl rfl rfl) ?_
    refine kN 1 rfl ?_
    exact ⟨k0, _, _, Nat.lt_succ_self _, Weak_keep 0 hm [0, 3, 4, 5] [0, 1] _ _ rfl rfl rfl, _, _, _, rfl, rfl, h⟩
   refine ACode_exit ?_
   cases h
   exact Weak_keep 0 hm [0, 3] [0] _ _ rfl rfl rfl
 refine kR ?_
 refine kN 1 rfl ?_
 refine kB (fun s34 => [(3, .vec 0 0), (9, iV s34)]) (fun s34 => [.vec 0 (intsD s29)]) h (fun s34 h => ?_) (fun s34 h => ?_)
 ·refine kR ?_
  refine kN 1 rfl ?_
  refine ACode_block ?_
  refine ACode_loopW (fun k2 E H => ∃ (x30 : Int) (x31 : Int), E = [(0, .d (.sl none (intsD p0))), (3, .vec 0 0), (9, iV x30), (10, iV x31)] ∧ H = [.vec 0 (intsD s29)] ∧ spec_l08Table_l2 p0 k2 x30 x31 = some s34) k _ _ (Weak_keep 0 hm [0, 3, 9, 10] [0] _ _ rfl rfl rfl) ⟨_, _, rfl, rfl, h⟩ ?_
  clear h
  rintro k2 E H ⟨x30, x31, rfl, rfl, h⟩
  cases k2 with
  | zero => cases (show (none : Option (Int)) = some _ from h)
  | succ k2 =>
   rw [spec_l08Table_l2] at h
   refine ACode_seq ?_
   refine kR ?_
   refine kM 2 rfl ?_
   refine AOps_q 73 _ rfl rfl rfl (QOp_len_sl _ _ _ _ _ _ _ (intsD_length _) rfl rfl rfl rfl Tryz.underlying27 rfl) ?_
   refine AOps_q 74 _ rfl rfl rfl (QOp_lss _ _ _ _ _ _ _ rfl rfl rfl) ?_
   refine AOps_nil ?_
   refine kI h rfl (fun h _ => ?_) (fun h _ => ?_)
   ·refine ACode_skip ?_
    refine ACode_seq ?_
    refine ACode_block ?_
    refine (ACode_region ?_)
    refine kM 1 rfl ?_
    refine AOps_q 78 _ rfl rfl rfl (QOp_mul _ _ _ _ _ _ _ rfl rfl rfl) ?_
    refine kM 2 rfl ?_
    obtain ⟨hc33, h⟩ := guardO h
    refine AOps_q 81 _ rfl rfl rfl (QOp_indexAddr_sl _ _ _ _ _ _ _ _ rfl Tryz.underlying27 Tryz.sizeOf2 hc33.1 (by rw [intsD_length]; exact hc33.2) rfl rfl) ?_
    refine AOps_q 82 _ rfl rfl rfl (QOp_load_pv _ _ _ _ _ rfl Tryz.isAgg2 rfl (intsD_get _ _ 0 (by omega))) ?_
    refine AOps_q 83 _ rfl rfl rfl (QOp_add _ _ _ _ _ _ _ rfl rfl rfl) ?_
    refine kN 1 rfl ?_
    refine (ACode_region ?_)
    refine kM 1 rfl ?_
    refine AOps_q 76 _ rfl rfl rfl (QOp_add _ _ _ _ _ _ _ rfl rfl rfl) ?_
    refine kN 1 rfl ?_
    exact ⟨k2, _, _, Nat.lt_succ_self _, Weak_keep 0 hm [0, 3, 9, 10] [0] _ _ rfl rfl rfl, _, _, rfl, rfl, h⟩
   refine ACode_exit ?_
   cases h
   exact Weak_keep 0 hm [3, 9] [0] _ _ rfl rfl rfl
 refine kR ?_
 refine kM 2 rfl ?_
 obtain ⟨hc35, h⟩ := guardO h
 refine AOps_q 86 _ rfl rfl rfl (QOp_indexAddr_vec _ _ _ _ _ _ _ _ _ rfl Tryz.underlying27 Tryz.sizeOf2 hc35.1 (by rw [intsD_length]; exact hc35.2) rfl rfl rfl) ?_
 refine AOps_q 87 _ rfl rfl rfl (QOp_load_eptr _ _ _ _ _ _ _ rfl Tryz.isAgg2 rfl rfl (intsD_get _ _ 0 (by omega))) ?_
 refine kN 1 rfl ?_
 refine ACode_ret ?_
 cases h
 exact ⟨_, _, fun r a w h => ⟨r, h⟩, _, _, [], _, (.cons (ResV_tmp _ _ rfl) .nil), rfl, rfl, rfl, rfl, rfl⟩

-- loop.example/g01362/spec.NeighbourBound
def spec_NeighbourBound_l0 (p0 : List Int) : Nat → Int → Option (Sum (Unit) (Int × Int))
 | 0, _ => none
 | k0 + 1, x5 => (if decide (x5 < (p0.length : Int)) then (if 0 ≤ x5 ∧ x5 < (p0.length : Int) then (if !(spec_l01In (p0.getD x5.toNat 0) 1 8) then some (.inr (0, 2)) else spec_NeighbourBound_l0 p0 k0 (w64 (x5 + 1))) else none) else some (.inl ()))
def spec_NeighbourBound (k : Nat) (p0 : List Int) : Option (Int × Int) :=
 (letO (if decide ((p0.length : Int) < 1) then true else decide (4 < (p0.length : Int))) fun (s2 : Bool) => (if s2 then some (.inr (0, 2)) else some (.inl ())) : Option (Sum (Unit) (Int × Int))).bind fun os4 => (match os4 with | .inl s4 => (spec_NeighbourBound_l0 p0 k 0 : Option (Sum (Unit) (Int × Int))).bind fun os10 => (match os10 with | .inl s10 => (spec_l08Table k p0).bind fun r11 => (if decide (1000000000 < r11) then some (0, 3) else some (r11, 0)) | .inr rr => some rr) | .inr rr => some rr)
set_option maxRecDepth 100000 in
theorem spec_NeighbourBound_ac (k : Nat) (p0 : List Int) (r : Int × Int) (h : spec_NeighbourBound k p0 = some r) : AC Tryz.prog 12 [.d (.sl none (intsD p0))] [] (fun res H' => res = [iV r.1, iV r.2] ∧ H' = []) := by
 refine AC_of_body true Tryz.func12 rfl Tryz.ntmps12 (rvs := [.tmp 2, .tmp 3]) rfl rfl (fun G hG => ?_)
 have hm : G.H.length = 0 := by rw [hG]; rfl
 have hz : zeroG G.H = true := by rw [hG]; rfl
 unfold spec_NeighbourBound at h
 refine kR ?_
 refine kN 2 rfl ?_
 refine kO (fun s4 => [(0, .d (.sl none (intsD p0)))]) (fun s4 => []) h (fun os4 h hks4 => ?_) (fun s4 h => ?_)
 ·refine kL (fun s2 => [(0, .d (.sl none (intsD p0))), (13, bV s2)]) (fun s2 => []) h (fun s2 h => ?_) (fun s2 h => ?_)
  ·refine (ACode_region ?_)
   refine kM 1 rfl ?_
   refine AOps_q 7 _ rfl rfl rfl (QOp_len_sl _ _ _ _ _ _ _ (intsD_length _) rfl rfl rfl rfl Tryz.underlying27 rfl) ?_
   refine AOps_q 8 _ rfl rfl rfl (QOp_lss _ _ _ _ _ _ _ rfl rfl rfl) ?_
   refine kM 1 rfl ?_
   refine AOps_case 9 _ rfl (fun hb1 => ?_) (fun hb1 => ?_)
   ·have h := iteT hb1 h
    refine AOps_skip 10 rfl rfl rfl ?_
    refine AOps_skip 11 rfl rfl rfl ?_
    refine AOps_skip 12 rfl rfl rfl ?_
    refine kN 1 rfl ?_
    cases h
    exact Weak_keep 0 hm [0, 13] [] _ _ rfl rfl rfl
   have h := iteF hb1 h
   refine kM 1 rfl ?_
   refine AOps_q 11 _ rfl rfl rfl (QOp_len_sl _ _ _ _ _ _ _ (intsD_length _) rfl rfl rfl rfl Tryz.underlying27 rfl) ?_
   refine AOps_q 12 _ rfl rfl rfl (QOp_gtr _ _ _ _ _ _ _ rfl rfl rfl) ?_
   refine kN 1 rfl ?_
   cases h
   exact Weak_keep 0 hm [0, 13] [] _ _ rfl rfl rfl
  refine kI h rfl (fun h _ => ?_) (fun h _ => ?_)
  ·refine kR ?_
   refine kN 2 rfl ?_
   refine ACode_ret ?_
   cases h
   have h := hks4
   cases h
   exact ⟨_, _, fun r a w h => ⟨r, h⟩, _, _, [], _, (.cons (ResV_tmp _ _ rfl) (.cons (ResV_tmp _ _ rfl) .nil)), rfl, rfl, rfl, rfl, rfl⟩
  refine ACode_skip ?_
  cases h
  exact ⟨_, rfl, Weak_keep 0 hm [0] [] _ _ rfl rfl rfl⟩
 refine kO (fun s10 => [(0, .d (.sl none (intsD p0)))]) (fun s10 => []) h (fun os10 h hks10 => ?_) (fun s10 h => ?_)
 ·refine kR ?_
  refine kN 1 rfl ?_
  refine ACode_block ?_
  refine ACode_loopW (fun k0 E H => ∃ (x5 : Int), E = [(0, .d (.sl none (intsD p0))), (4, iV x5)] ∧ H = [] ∧ spec_NeighbourBound_l0 p0 k0 x5 = some os10) k _ _ (Weak_keep 0 hm [0, 4] [] _ _ rfl rfl rfl) ⟨_, rfl, rfl, h⟩ ?_
  clear h
  rintro k0 E H ⟨x5, rfl, rfl, h⟩
  cases k0 with
  | zero => cases (show (none : Option (Sum (Unit) (Int × Int))) = some _ from h)
  | succ k0 =>
   rw [spec_NeighbourBound_l0] at h
   refine ACode_seq ?_
   refine kR ?_
   refine kM 2 rfl ?_
   refine AOps_q 16 _ rfl rfl rfl (QOp_len_sl _ _ _ _ _ _ _ (intsD_length _) rfl rfl rfl rfl Tryz.underlying27 rfl) ?_
   refine AOps_q 17 _ rfl rfl rfl (QOp_lss _ _ _ _ _ _ _ rfl rfl rfl) ?_
   refine AOps_nil ?_
   refine kI h rfl (fun h _ => ?_) (fun h _ => ?_)
   ·refine ACode_skip ?_
    refine ACode_seq ?_
    refine ACode_block ?_
    refine kR ?_
    refine kM 2 rfl ?_
    obtain ⟨hc7, h⟩ := guardO h
    refine AOps_q 22 _ rfl rfl rfl (QOp_indexAddr_sl _ _ _ _ _ _ _ _ rfl Tryz.underlying27 Tryz.sizeOf2 hc7.1 (by rw [intsD_length]; exact hc7.2) rfl rfl) ?_
    refine AOps_q 23 _ rfl rfl rfl (QOp_load_pv _ _ _ _ _ rfl Tryz.isAgg2 rfl (intsD_get _ _ 0 (by omega))) ?_
    refine kC [] 24 (bV (spec_l01In (p0.getD x5.toNat 0) 1 8)) [] rfl Tryz.call61 rfl rfl (spec_l01In_ac (p0.getD x5.toNat 0) 1 8) rfl ?_
    refine AOps_q 25 _ rfl rfl rfl (QOp_not _ _ _ rfl rfl) ?_
    refine AOps_nil ?_
    refine kI h rfl (fun h _ => ?_) (fun h _ => ?_)
    ·refine kR ?_
     refine kN 2 rfl ?_
     refine ACode_ret ?_
     cases h
     have h := hks10
     cases h
     exact ⟨_, _, fun r a w h => ⟨r, h⟩, _, _, [], _, (.cons (ResV_tmp _ _ rfl) (.cons (ResV_tmp _ _ rfl) .nil)), rfl, rfl, rfl, rfl, rfl⟩
    refine ACode_skip ?_
    refine (ACode_region ?_)
    refine kM 1 rfl ?_
    refine AOps_q 19 _ rfl rfl rfl (QOp_add _ _ _ _ _ _ _ rfl rfl rfl) ?_
    refine kN 1 rfl ?_
    exact ⟨k0, _, _, Nat.lt_succ_self _, Weak_keep 0 hm [0, 4] [] _ _ rfl rfl rfl, _, rfl, rfl, h⟩
   refine ACode_exit ?_
   cases h
   exact ⟨_, rfl, Weak_keep 0 hm [0] [] _ _ rfl rfl rfl⟩
 refine kR ?_
 refine kM 1 rfl ?_
 obtain ⟨r11, hr11, h⟩ := bindO h
 refine kC [] 27 (iV r11) [] rfl Tryz.call68 rfl rfl (spec_l08Table_ac k p0 _ hr11) rfl ?_
 refine kN 1 rfl ?_
 refine ACode_seq ?_
 refine kR ?_
 refine kM 1 rfl ?_
 refine AOps_q 29 _ rfl rfl rfl (QOp_gtr _ _ _ _ _ _ _ rfl rfl rfl) ?_
 refine AOps_nil ?_
 refine kI h rfl (fun h _ => ?_) (fun h _ => ?_)
 ·refine kR ?_
  refine kN 2 rfl ?_
  refine ACode_ret ?_
  cases h
  exact ⟨_, _, fun r a w h => ⟨r, h⟩, _, _, [], _, (.cons (ResV_tmp _ _ rfl) (.cons (ResV_tmp _ _ rfl) .nil)), rfl, rfl, rfl, rfl, rfl⟩
 refine ACode_skip ?_
 refine kR ?_
 refine kN 3 rfl ?_
 refine ACode_ret ?_
 cases h
 exact ⟨_, _, fun r a w h => ⟨r, h⟩, _, _, [], _, (.cons (ResV_tmp _ _ rfl) (.cons (ResV_tmp _ _ rfl) .nil)), rfl, rfl, rfl, rfl, rfl⟩

-- loop.example/g01362/spec.DrawBinomialBound
def spec_DrawBinomialBound (k : Nat) (p0 : List UInt8) : Option (Int × Int) :=
 (spec_l08Two k p0 1 16).bind fun r1 => some (r1.1, r1.2)
set_option maxRecDepth 100000 in
theorem spec_DrawBinomialBound_ac (k : Nat) (p0 : List UInt8) (r : Int × Int) (h : spec_DrawBinomialBound k p0 = some r) : AC Tryz.prog 13 [.d (.sl none (bysD p0))] [] (fun res H' => res = [iV r.1, iV r.2] ∧ H' = []) := by
 refine AC_of_body true Tryz.func13 rfl Tryz.ntmps13 (rvs := [.tmp 2, .tmp 3]) rfl rfl (fun G hG => ?_)
 have hm : G.H.length = 0 := by rw [hG]; rfl
 have hz : zeroG G.H = true := by rw [hG]; rfl
 unfold spec_DrawBinomialBound at h
 refine kR ?_
 refine kN 2 rfl ?_
 refine kR ?_
 refine kM 1 rfl ?_
 obtain ⟨r1, hr1, h⟩ := bindO h
 refine kC [] 5 (.tup [iV r1.1, iV r1.2]) [] rfl Tryz.call59 rfl rfl (spec_l08Two_ac k p0 1 16 _ hr1) rfl ?_
 refine kN 4 rfl ?_
 refine ACode_ret ?_
 cases h
 exact ⟨_, _, fun r a w h => ⟨r, h⟩, _, _, [], _, (.cons (ResV_tmp _ _ rfl) (.cons (ResV_tmp _ _ rfl) .nil)), rfl, rfl, rfl, rfl, rfl⟩

-- loop.example/g01362/impl.binomial
def impl_binomial_l0 (p0 : Int) (p1 : Int) : Nat → Int → Int → Option (Int)
 | 0, _, _ => none
 | k0 + 1, x1, x2 => (if decide (x2 < p1) then (if w64 (x2 + 1) ≠ 0 then impl_binomial_l0 p0 p1 k0 (w64 ((w64 (x1 * (w64 (p0 - x2)))).tdiv (w64 (x2 + 1)))) (w64 (x2 + 1)) else none) else some x1)
def impl_binomial (k : Nat) (p0 : Int) (p1 : Int) : Option (Int) :=
 (impl_binomial_l0 p0 p1 k 1 0 : Option (Int)).bind fun s5 => some s5
set_option maxRecDepth 100000 in
theorem impl_binomial_ac (k : Nat) (p0 : Int) (p1 : Int) (r : Int) (h : impl_binomial k p0 p1 = some r) : AC Tryz.prog 69 [iV p0, iV p1] [] (fun res H' => res = [iV r] ∧ H' = []) := by
 refine AC_of_body true Tryz.func69 rfl Tryz.ntmps69 (rvs := [.tmp 4]) rfl rfl (fun G hG => ?_)
 have hm : G.H.length = 0 := by rw [hG]; rfl
 have hz : zeroG G.H = true := by rw [hG]; rfl
 unfold impl_binomial at h
 refine kR ?_
 refine kN 1 rfl ?_
 refine kR ?_
 refine kN 1 rfl ?_
 refine kB (fun s5 => [(5, iV s5)]) (fun s5 => []) h (fun s5 h => ?_) (fun s5 h => ?_)
 ·refine kR ?_
  refine kN 2 rfl ?_
  refine ACode_block ?_
  refine ACode_loopW (fun k0 E H => ∃ (x1 : Int) (x2 : Int), E = [(0, iV p0), (5, iV x1), (7, iV p1), (8, iV x2)] ∧ H = [] ∧ impl_binomial_l0 p0 p1 k0 x1 x2 = some s5) k _ _ (Weak_keep 0 hm [0, 5, 7, 8] [] _ _ rfl rfl rfl) ⟨_, _, rfl, rfl, h⟩ ?_
  clear h
  rintro k0 E H ⟨x1, x2, rfl, rfl, h⟩
  cases k0 with
  | zero => cases (show (none : Option (Int)) = some _ from h)
  | succ k0 =>
   rw [impl_binomial_l0] at h
   refine kR ?_
   refine AOps_q 9 _ rfl rfl rfl (QOp_lss _ _ _ _ _ _ _ rfl rfl rfl) ?_
   refine AOps_nil ?_
   refine ACode_seq ?_
   refine kI h rfl (fun h _ => ?_) (fun h _ => ?_)
   ·refine ACode_skip ?_
    refine ACode_seq ?_
    refine ACode_block ?_
    refine kR ?_
    refine kN 2 rfl ?_
    refine (ACode_region ?_)
    refine kM 3 rfl ?_
    refine AOps_q 14 _ rfl rfl rfl (QOp_sub _ _ _ _ _ _ _ rfl rfl rfl) ?_
    refine AOps_q 15 _ rfl rfl rfl (QOp_mul _ _ _ _ _ _ _ rfl rfl rfl) ?_
    refine kM 1 rfl ?_
    refine AOps_q 17 _ rfl rfl rfl (QOp_add _ _ _ _ _ _ _ rfl rfl rfl) ?_
    obtain ⟨hc4, h⟩ := guardO h
    refine AOps_q 18 _ rfl rfl rfl (QOp_quo _ _ _ _ _ _ _ hc4 rfl rfl rfl) ?_
    refine kN 1 rfl ?_
    refine (ACode_region ?_)
    refine AOps_q 19 _ rfl rfl rfl (QOp_add _ _ _ _ _ _ _ rfl rfl rfl) ?_
    refine kN 1 rfl ?_
    exact ⟨k0, _, _, Nat.lt_succ_self _, Weak_keep 0 hm [0, 5, 7, 8] [] _ _ rfl rfl rfl, _, _, rfl, rfl, h⟩
   refine ACode_exit ?_
   cases h
   exact Weak_keep 0 hm [5] [] _ _ rfl rfl rfl
 refine kR ?_
 refine kN 2 rfl ?_
 refine ACode_ret ?_
 cases h
 exact ⟨_, _, fun r a w h => ⟨r, h⟩, _, _, [], _, (.cons (ResV_tmp _ _ rfl) .nil), rfl, rfl, rfl, rfl, rfl⟩

-- loop.example/g01362/impl.BinomialBound
def impl_BinomialBound (k : Nat) (p0 : Int) (p1 : Int) : Option (Int × Int) :=
 (letO (if !(impl_in p0 1 16) then true else !(impl_in p1 1 16)) fun (s4 : Bool) => (if s4 then some (.inr (0, 2)) else some (.inl ())) : Option (Sum (Unit) (Int × Int))).bind fun os6 => (match os6 with | .inl s6 => (impl_binomial k (w64 ((w64 (p0 + p1)) - 2)) (w64 (p0 - 1))).bind fun r7 => some (r7, 0) | .inr rr => some rr)
set_option maxRecDepth 100000 in
theorem impl_BinomialBound_ac (k : Nat) (p0 : Int) (p1 : Int) (r : Int × Int) (h : impl_BinomialBound k p0 p1 = some r) : AC Tryz.prog 14 [iV p0, iV p1] [] (fun res H' => res = [iV r.1, iV r.2] ∧ H' = []) := by
 refine AC_of_body true Tryz.func14 rfl Tryz.ntmps14 (rvs := [.tmp 4, .tmp 5]) rfl rfl (fun G hG => ?_)
 have hm : G.H.length = 0 := by rw [hG]; rfl
 have hz : zeroG G.H = true := by rw [hG]; rfl
 unfold impl_BinomialBound at h
 refine kR ?_
 refine kN 2 rfl ?_
 refine kO (fun s6 => [(0, iV p0), (1, iV p1)]) (fun s6 => []) h (fun os6 h hks6 => ?_) (fun s6 h => ?_)
 ·refine kL (fun s4 => [(0, iV p0), (1, iV p1), (13, bV s4)]) (fun s4 => []) h (fun s4 h => ?_) (fun s4 h => ?_)
  ·refine (ACode_region ?_)
   refine kM 1 rfl ?_
   refine kC [] 7 (bV (impl_in p0 1 16)) [] rfl Tryz.call60 rfl rfl (impl_in_ac p0 1 16) rfl ?_
   refine AOps_q 8 _ rfl rfl rfl (QOp_not _ _ _ rfl rfl) ?_
   refine kM 1 rfl ?_
   refine AOps_case 9 _ rfl (fun hb2 => ?_) (fun hb2 => ?_)
   ·have h := iteT hb2 h
    refine AOps_skip 10 rfl rfl rfl ?_
    refine AOps_skip 11 rfl rfl rfl ?_
    refine AOps_skip 12 rfl rfl rfl ?_
    refine kN 1 rfl ?_
    cases h
    exact Weak_keep 0 hm [0, 1, 13] [] _ _ rfl rfl rfl
   have h := iteF hb2 h
   refine kM 1 rfl ?_
   refine kC [] 11 (bV (impl_in p1 1 16)) [] rfl Tryz.call60 rfl rfl (impl_in_ac p1 1 16) rfl ?_
   refine AOps_q 12 _ rfl rfl rfl (QOp_not _ _ _ rfl rfl) ?_
   refine kN 1 rfl ?_
   cases h
   exact Weak_keep 0 hm [0, 1, 13] [] _ _ rfl rfl rfl
  refine kI h rfl (fun h _ => ?_) (fun h _ => ?_)
  ·refine kR ?_
   refine kN 2 rfl ?_
   refine ACode_ret ?_
   cases h
   have h := hks6
   cases h
   exact ⟨_, _, fun r a w h => ⟨r, h⟩, _, _, [], _, (.cons (ResV_tmp _ _ rfl) (.cons (ResV_tmp _ _ rfl) .nil)), rfl, rfl, rfl, rfl, rfl⟩
  refine ACode_skip ?_
  cases h
  exact ⟨_, rfl, Weak_keep 0 hm [0, 1] [] _ _ rfl rfl rfl⟩
 refine kR ?_
 refine kM 2 rfl ?_
 refine AOps_q 16 _ rfl rfl rfl (QOp_add _ _ _ _ _ _ _ rfl rfl rfl) ?_
 refine AOps_q 17 _ rfl rfl rfl (QOp_sub _ _ _ _ _ _ _ rfl rfl rfl) ?_
 refine kM 1 rfl ?_
 refine AOps_q 19 _ rfl rfl rfl (QOp_sub _ _ _ _ _ _ _ rfl rfl rfl) ?_
 obtain ⟨r7, hr7, h⟩ := bindO h
 refine kC [] 20 (iV r7) [] rfl Tryz.call69 rfl rfl (impl_binomial_ac k (w64 ((w64 (p0 + p1)) - 2)) (w64 (p0 - 1)) _ hr7) rfl ?_
 refine kN 2 rfl ?_
 refine ACode_ret ?_
 cases h
 exact ⟨_, _, fun r a w h => ⟨r, h⟩, _, _, [], _, (.cons (ResV_tmp _ _ rfl) (.cons (ResV_tmp _ _ rfl) .nil)), rfl, rfl, rfl, rfl, rfl⟩

-- loop.example/g01362/spec.l08Choose
def spec_l08Choose_l0 (p0 : Int) (p1 : Int) : Nat → Int → Int → Option (Int)
 | 0, _, _ => none
 | k0 + 1, x1, x2 => (if decide (x2 < p1) then (if w64 (x2 + 1) ≠ 0 then spec_l08Choose_l0 p0 p1 k0 (w64 ((w64 (x1 * (w64 (p0 - x2)))).tdiv (w64 (x2 + 1)))) (w64 (x2 + 1)) else none) else some x1)
def spec_l08Choose (k : Nat) (p0 : Int) (p1 : Int) : Option (Int) :=
 (spec_l08Choose_l0 p0 p1 k 1 0 : Option (Int)).bind fun s5 => some s5
set_option maxRecDepth 100000 in
theorem spec_l08Choose_ac (k : Nat) (p0 : Int) (p1 : Int) (r : Int) (h : spec_l08Choose k p0 p1 = some r) : AC Tryz.prog 70 [iV p0, iV p1] [] (fun res H' => res = [iV r] ∧ H' = []) := by
 refine AC_of_body true Tryz.func70 rfl Tryz.ntmps70 (rvs := [.tmp 4]) rfl rfl (fun G hG => ?_)
 have hm : G.H.length = 0 := by rw [hG]; rfl
 have hz : zeroG G.H = true := by rw [hG]; rfl
 unfold spec_l08Choose at h
 refine kR ?_
 refine kN 1 rfl ?_
 refine kR ?_
 refine kN 1 rfl ?_
 refine kB (fun s5 => [(5, iV s5)]) (fun s5 => []) h (fun s5 h => ?_) (fun s5 h => ?_)
 ·refine kR ?_
  refine kN 1 rfl ?_
  refine ACode_block ?_
  refine ACode_loopW (fun k0 E H => ∃ (x1 : Int) (x2 : Int), E = [(0, iV p0), (1, iV p1), (5, iV x1), (6, iV x2)] ∧ H = [] ∧ spec_l08Choose_l0 p0 p1 k0 x1 x2 = some s5) k _ _ (Weak_keep 0 hm [0, 1, 5, 6] [] _ _ rfl rfl rfl) ⟨_, _, rfl, rfl, h⟩ ?_
  clear h
  rintro k0 E H ⟨x1, x2, rfl, rfl, h⟩
  cases k0 with
  | zero => cases (show (none : Option (Int)) = some _ from h)
  | succ k0 =>
   rw [spec_l08Choose_l0] at h
   refine ACode_seq ?_
   refine kR ?_
   refine kM 2 rfl ?_
   refine AOps_q 9 _ rfl rfl rfl (QOp_lss _ _ _ _ _ _ _ rfl rfl rfl) ?_
   refine AOps_nil ?_
   refine kI h rfl (fun h _ => ?_) (fun h _ => ?_)
   ·refine ACode_skip ?_
    refine ACode_seq ?_
    refine ACode_block ?_
    refine (ACode_region ?_)
    refine kM 3 rfl ?_
    refine AOps_q 15 _ rfl rfl rfl (QOp_sub _ _ _ _ _ _ _ rfl rfl rfl) ?_
    refine AOps_q 16 _ rfl rfl rfl (QOp_mul _ _ _ _ _ _ _ rfl rfl rfl) ?_
    refine kM 1 rfl ?_
    refine AOps_q 18 _ rfl rfl rfl (QOp_add _ _ _ _ _ _ _ rfl rfl rfl) ?_
    obtain ⟨hc4, h⟩ := guardO h
    refine AOps_q 19 _ rfl rfl rfl (QOp_quo _ _ _ _ _ _ _ hc4 rfl rfl rfl) ?_
    refine kN 1 rfl ?_
    refine (ACode_region ?_)
    refine kM 1 rfl ?_
    refine AOps_q 11 _ rfl rfl rfl (QOp_add _ _ _ _ _ _ _ rfl rfl rfl) ?_
    refine kN 1 rfl ?_
    exact ⟨k0, _, _, Nat.lt_succ_self _, Weak_keep 0 hm [0, 1, 5, 6] [] _ _ rfl rfl rfl, _, _, rfl, rfl, h⟩
   refine ACode_exit ?_
   cases h
   exact Weak_keep 0 hm [5] [] _ _ rfl rfl rfl
 refine kR ?_
 refine kN 2 rfl ?_
 refine ACode_ret ?_
 cases h
 exact ⟨_, _, fun r a w h => ⟨r, h⟩, _, _, [], _, (.cons (ResV_tmp _ _ rfl) .nil), rfl, rfl, rfl, rfl, rfl⟩

-- loop.example/g01362/spec.BinomialBound
def spec_BinomialBound (k : Nat) (p0 : Int) (p1 : Int) : Option (Int × Int) :=
 (letO (if !(spec_l01In p0 1 16) then true else !(spec_l01In p1 1 16)) fun (s4 : Bool) => (if s4 then some (.inr (0, 2)) else some (.inl ())) : Option (Sum (Unit) (Int × Int))).bind fun os6 => (match os6 with | .inl s6 => (spec_l08Choose k (w64 ((w64 (p0 + p1)) - 2)) (w64 (p0 - 1))).bind fun r7 => some (r7, 0) | .inr rr => some rr)
set_option maxRecDepth 100000 in
theorem spec_BinomialBound_ac (k : Nat) (p0 : Int) (p1 : Int) (r : Int × Int) (h : spec_BinomialBound k p0 p1 = some r) : AC Tryz.prog 15 [iV p0, iV p1] [] (fun res H' => res = [iV r.1, iV r.2] ∧ H' = []) := by
 refine AC_of_body true Tryz.func15 rfl Tryz.ntmps15 (rvs := [.tmp 4, .tmp 5]) rfl rfl (fun G hG => ?_)
 have hm : G.H.length = 0 := by rw [hG]; rfl
 have hz : zeroG G.H = true := by rw [hG]; rfl
 unfold spec_BinomialBound at h
 refine kR ?_
 refine kN 2 rfl ?_
 refine kO (fun s6 => [(0, iV p0), (1, iV p1)]) (fun s6 => []) h (fun os6 h hks6 => ?_) (fun s6 h => ?_)
 ·refine kL (fun s4 => [(0, iV p0), (1, iV p1), (13, bV s4)]) (fun s4 => []) h (fun s4 h => ?_) (fun s4 h => ?_)
  ·refine (ACode_region ?_)
   refine kM 1 rfl ?_
   refine kC [] 7 (bV (spec_l01In p0 1 16)) [] rfl Tryz.call61 rfl rfl (spec_l01In_ac p0 1 16) rfl ?_
   refine AOps_q 8 _ rfl rfl rfl (QOp_not _ _ _ rfl rfl) ?_
   refine kM 1 rfl ?_
   refine AOps_case 9 _ rfl (fun hb2 => ?_) (fun hb2 => ?_)
   ·have h := iteT hb2 h
    refine AOps_skip 10 rfl rfl rfl ?_
    refine AOps_skip 11 rfl rfl rfl ?_
    refine AOps_skip 12 rfl rfl rfl ?_
    refine kN 1 rfl ?_
    cases h
    exact Weak_keep 0 hm [0, 1, 13] [] _ _ rfl rfl rfl
   have h := iteF hb2 h
   refine kM 1 rfl ?_
   refine kC [] 11 (bV (spec_l01In p1 1 16)) [] rfl Tryz.call61 rfl rfl (spec_l01In_ac p1 1 16) rfl ?_
   refine AOps_q 12 _ rfl rfl rfl (QOp_not _ _ _ rfl rfl) ?_
   refine kN 1 rfl ?_
   cases h
   exact Weak_keep 0 hm [0, 1, 13] [] _ _ rfl rfl rfl
  refine kI h rfl (fun h _ => ?_) (fun h _ => ?_)
  ·refine kR ?_
   refine kN 2 rfl ?_
   refine ACode_ret ?_
   cases h
   have h := hks6
   cases h
   exact ⟨_, _, fun r a w h => ⟨r, h⟩, _, _, [], _, (.cons (ResV_tmp _ _ rfl) (.cons (ResV_tmp _ _ rfl) .nil)), rfl, rfl, rfl, rfl, rfl⟩
  refine ACode_skip ?_
  cases h
  exact ⟨_, rfl, Weak_keep 0 hm [0, 1] [] _ _ rfl rfl rfl⟩
 refine kR ?_
 refine kM 2 rfl ?_
 refine AOps_q 16 _ rfl rfl rfl (QOp_add _ _ _ _ _ _ _ rfl rfl rfl) ?_
 refine AOps_q 17 _ rfl rfl rfl (QOp_sub _ _ _ _ _ _ _ rfl rfl rfl) ?_
 refine kM 1 rfl ?_
 refine AOps_q 19 _ rfl rfl rfl (QOp_sub _ _ _ _ _ _ _ rfl rfl rfl) ?_
 obtain ⟨r7, hr7, h⟩ := bindO h
 refine kC [] 20 (iV r7) [] rfl Tryz.call70 rfl rfl (spec_l08Choose_ac k (w64 ((w64 (p0 + p1)) - 2)) (w64 (p0 - 1)) _ hr7) rfl ?_
 refine kN 2 rfl ?_
 refine ACode_ret ?_
 cases h
 exact ⟨_, _, fun r a w h => ⟨r, h⟩, _, _, [], _, (.cons (ResV_tmp _ _ rfl) (.cons (ResV_tmp _ _ rfl) .nil)), rfl, rfl, rfl, rfl, rfl⟩

-- loop.example/g01362/spec.DrawCountingBound
def spec_DrawCountingBound (k : Nat) (p0 : List UInt8) : Option (Int) :=
 (spec_l01From k p0).bind fun r1 => (spec_l01Next r1 12).bind fun r2 => some r2.1
set_option maxRecDepth 100000 in
theorem spec_DrawCountingBound_ac (k : Nat) (p0 : List UInt8) (r : Int) (h : spec_DrawCountingBound k p0 = some r) : AC Tryz.prog 16 [.d (.sl none (bysD p0))] [] (fun res H' => res = [iV r] ∧ H' = []) := by
 refine AC_of_body true Tryz.func16 rfl Tryz.ntmps16 (rvs := [.tmp 2]) rfl rfl (fun G hG => ?_)
 have hm : G.H.length = 0 := by rw [hG]; rfl
 have hz : zeroG G.H = true := by rw [hG]; rfl
 unfold spec_DrawCountingBound at h
 refine kR ?_
 refine kN 1 rfl ?_
 refine kR ?_
 refine kM 1 rfl ?_
 obtain ⟨r1, hr1, h⟩ := bindO h
 refine kC [] 4 (.ptr 0 0) [.box (srcD r1)] rfl Tryz.call57 rfl rfl (spec_l01From_ac k p0 _ hr1) rfl ?_
 obtain ⟨r2, hr2, h⟩ := bindO h
 refine kC [0] 5 (iV r2.1) [.box (srcD r2.2)] rfl Tryz.call58 rfl rfl (spec_l01Next_ac r1 12 _ hr2) rfl ?_
 refine kN 1 rfl ?_
 refine ACode_ret ?_
 cases h
 exact ⟨_, _, fun r a w h => ⟨r, h⟩, _, _, [], _, (.cons (ResV_tmp _ _ rfl) .nil), rfl, rfl, rfl, rfl, rfl⟩

-- loop.example/g01362/impl.CountingBound
def impl_CountingBound_l0 (k : Nat) (p0 : Int) : Nat → Int → Option (Int)
 | 0, _ => none
 | k0 + 1, x3 => (impl_binomial k x3 p0).bind fun r4 => (if 0 ≤ w64 ((w64 (p0 * (w64 (p0 - 1)))).tdiv 2) then (if decide (w64 (2 * r4) < bShl .i64 1 (w64 ((w64 (p0 * (w64 (p0 - 1)))).tdiv 2))) then impl_CountingBound_l0 k p0 k0 (w64 (x3 + 1)) else some x3) else none)
def impl_CountingBound (k : Nat) (p0 : Int) : Option (Int × Int) :=
 (if !(impl_in p0 2 10) then some (0, 2) else (impl_CountingBound_l0 k p0 k p0 : Option (Int)).bind fun s7 => some (w64 (s7 - 1), 0))
set_option maxRecDepth 100000 in
theorem impl_CountingBound_ac (k : Nat) (p0 : Int) (r : Int × Int) (h : impl_CountingBound k p0 = some r) : AC Tryz.prog 17 [iV p0] [] (fun res H' => res = [iV r.1, iV r.2] ∧ H' = []) := by
 refine AC_of_body true Tryz.func17 rfl Tryz.ntmps17 (rvs := [.tmp 2, .tmp 3]) rfl rfl (fun G hG => ?_)
 have hm : G.H.length = 0 := by rw [hG]; rfl
 have hz : zeroG G.H = true := by rw [hG]; rfl
 unfold impl_CountingBound at h
 refine kR ?_
 refine kN 2 rfl ?_
 refine ACode_seq ?_
 refine kR ?_
 refine kM 1 rfl ?_
 refine kC [] 6 (bV (impl_in p0 2 10)) [] rfl Tryz.call60 rfl rfl (impl_in_ac p0 2 10) rfl ?_
 refine AOps_q 7 _ rfl rfl rfl (QOp_not _ _ _ rfl rfl) ?_
 refine AOps_nil ?_
 refine kI h rfl (fun h _ => ?_) (fun h _ => ?_)
 ·refine kR ?_
  refine kN 2 rfl ?_
  refine ACode_ret ?_
  cases h
  exact ⟨_, _, fun r a w h => ⟨r, h⟩, _, _, [], _, (.cons (ResV_tmp _ _ rfl) (.cons (ResV_tmp _ _ rfl) .nil)), rfl, rfl, rfl, rfl, rfl⟩
 refine ACode_skip ?_
 refine kR ?_
 refine kN 2 rfl ?_
 refine kB (fun s7 => [(4, iV s7)]) (fun s7 => []) h (fun s7 h => ?_) (fun s7 h => ?_)
 ·refine ACode_block ?_
  refine ACode_loopW (fun k0 E H => ∃ (x3 : Int), E = [(0, iV p0), (4, iV x3)] ∧ H = [] ∧ impl_CountingBound_l0 k p0 k0 x3 = some s7) k _ _ (Weak_keep 0 hm [0, 4] [] _ _ rfl rfl rfl) ⟨_, rfl, rfl, h⟩ ?_
  clear h
  rintro k0 E H ⟨x3, rfl, rfl, h⟩
  cases k0 with
  | zero => cases (show (none : Option (Int)) = some _ from h)
  | succ k0 =>
   rw [impl_CountingBound_l0] at h
   refine ACode_seq ?_
   refine ACode_seq (ACode_quiet mixed (by kernel_rfl) ?_)
   refine kQ 2 rfl ?_
   obtain ⟨r4, hr4, h⟩ := bindO h
   refine AQ_call 11 _ _ _ _ _ _ _ _ _ rfl rfl rfl rfl rfl rfl rfl Tryz.call69 rfl rfl rfl (impl_binomial_ac k x3 p0 _ hr4) ?_
   refine AQ_q 12 _ rfl rfl rfl (QOp_mul _ _ _ _ _ _ _ rfl rfl rfl) ?_
   refine kQ 2 rfl ?_
   refine AQ_q 15 _ rfl rfl rfl (QOp_sub _ _ _ _ _ _ _ rfl rfl rfl) ?_
   refine AQ_q 16 _ rfl rfl rfl (QOp_mul _ _ _ _ _ _ _ rfl rfl rfl) ?_
   refine AQ_q 17 _ rfl rfl rfl (QOp_quo _ _ _ _ _ _ _ (by decide) rfl rfl rfl) ?_
   obtain ⟨hc5, h⟩ := guardO h
   refine AQ_q 18 _ rfl rfl rfl (QOp_shl _ _ _ _ _ _ _ _ hc5 rfl rfl rfl) ?_
   refine AQ_q 19 _ rfl rfl rfl (QOp_lss _ _ _ _ _ _ _ rfl rfl rfl) ?_
   refine AQ_nil ?_
   refine kI h rfl (fun h _ => ?_) (fun h _ => ?_)
   ·refine ACode_skip ?_
    refine ACode_block ?_
    refine (ACode_region ?_)
    refine kM 1 rfl ?_
    refine AOps_q 21 _ rfl rfl rfl (QOp_add _ _ _ _ _ _ _ rfl rfl rfl) ?_
    refine kN 1 rfl ?_
    exact ⟨k0, _, _, Nat.lt_succ_self _, Weak_keep 0 hm [0, 4] [] _ _ rfl rfl rfl, _, rfl, rfl, h⟩
   refine ACode_exit ?_
   cases h
   exact Weak_keep 0 hm [4] [] _ _ rfl rfl rfl
 refine kR ?_
 refine kM 1 rfl ?_
 refine AOps_q 23 _ rfl rfl rfl (QOp_sub _ _ _ _ _ _ _ rfl rfl rfl) ?_
 refine kN 2 rfl ?_
 refine ACode_ret ?_
 cases h
 exact ⟨_, _, fun r a w h => ⟨r, h⟩, _, _, [], _, (.cons (ResV_tmp _ _ rfl) (.cons (ResV_tmp _ _ rfl) .nil)), rfl, rfl, rfl, rfl, rfl⟩

-- loop.example/g01362/spec.CountingBound
def spec_CountingBound_l0 (k : Nat) (p0 : Int) : Nat → Int → Option (Int)
 | 0, _ => none
 | k0 + 1, x4 => (spec_l08Choose k (w64 (x4 + 1)) p0).bind fun r5 => (if decide (w64 (2 * r5) < bShl .i64 1 (IntKind.u64.wrap (w64 ((w64 (p0 * (w64 (p0 - 1)))).tdiv 2)))) then spec_CountingBound_l0 k p0 k0 (w64 (x4 + 1)) else some x4)
def spec_CountingBound (k : Nat) (p0 : Int) : Option (Int × Int) :=
 (if !(spec_l01In p0 2 10) then some (0, 2) else (if 0 ≤ IntKind.u64.wrap (w64 ((w64 (p0 * (w64 (p0 - 1)))).tdiv 2)) then (spec_CountingBound_l0 k p0 k (w64 (p0 - 1)) : Option (Int)).bind fun s7 => some (s7, 0) else none))
set_option maxRecDepth 100000 in
theorem spec_CountingBound_ac (k : Nat) (p0 : Int) (r : Int × Int) (h : spec_CountingBound k p0 = some r) : AC Tryz.prog 18 [iV p0] [] (fun res H' => res = [iV r.1, iV r.2] ∧ H' = []) := by
 refine AC_of_body true Tryz.func18 rfl Tryz.ntmps18 (rvs := [.tmp 2, .tmp 3]) rfl rfl (fun G hG => ?_)
 have hm : G.H.length = 0 := by rw [hG]; rfl
 have hz : zeroG G.H = true := by rw [hG]; rfl
 unfold spec_CountingBound at h
 refine kR ?_
 refine kN 2 rfl ?_
 refine ACode_seq ?_
 refine kR ?_
 refine kM 1 rfl ?_
 refine kC [] 7 (bV (spec_l01In p0 2 10)) [] rfl Tryz.call61 rfl rfl (spec_l01In_ac p0 2 10) rfl ?_
 refine AOps_q 8 _ rfl rfl rfl (QOp_not _ _ _ rfl rfl) ?_
 refine AOps_nil ?_
 refine kI h rfl (fun h _ => ?_) (fun h _ => ?_)
 ·refine kR ?_
  refine kN 2 rfl ?_
  refine ACode_ret ?_
  cases h
  exact ⟨_, _, fun r a w h => ⟨r, h⟩, _, _, [], _, (.cons (ResV_tmp _ _ rfl) (.cons (ResV_tmp _ _ rfl) .nil)), rfl, rfl, rfl, rfl, rfl⟩
 refine ACode_skip ?_
 refine kR ?_
 refine kM 1 rfl ?_
 refine AOps_q 10 _ rfl rfl rfl (QOp_sub _ _ _ _ _ _ _ rfl rfl rfl) ?_
 refine kM 2 rfl ?_
 refine AOps_q 13 _ rfl rfl rfl (QOp_sub _ _ _ _ _ _ _ rfl rfl rfl) ?_
 refine AOps_q 14 _ rfl rfl rfl (QOp_mul _ _ _ _ _ _ _ rfl rfl rfl) ?_
 refine AOps_q 15 _ rfl rfl rfl (QOp_quo _ _ _ _ _ _ _ (by decide) rfl rfl rfl) ?_
 refine AOps_q 16 _ rfl rfl rfl (QOp_conv _ _ _ _ _ _ rfl rfl Tryz.underlying73 rfl) ?_
 obtain ⟨hc3, h⟩ := guardO h
 refine AOps_q 17 _ rfl rfl rfl (QOp_shl _ _ _ _ _ _ _ _ hc3 rfl rfl rfl) ?_
 refine kN 2 rfl ?_
 refine kB (fun s7 => [(4, iV s7)]) (fun s7 => []) h (fun s7 h => ?_) (fun s7 h => ?_)
 ·refine ACode_block ?_
  refine ACode_loopW (fun k0 E H => ∃ (x4 : Int), E = [(0, iV p0), (4, iV x4), (5, iV (bShl .i64 1 (IntKind.u64.wrap (w64 ((w64 (p0 * (w64 (p0 - 1)))).tdiv 2)))))] ∧ H = [] ∧ spec_CountingBound_l0 k p0 k0 x4 = some s7) k _ _ (Weak_keep 0 hm [0, 4, 5] [] _ _ rfl rfl rfl) ⟨_, rfl, rfl, h⟩ ?_
  clear h
  rintro k0 E H ⟨x4, rfl, rfl, h⟩
  cases k0 with
  | zero => cases (show (none : Option (Int)) = some _ from h)
  | succ k0 =>
   rw [spec_CountingBound_l0] at h
   refine ACode_seq ?_
   refine kR ?_
   refine kM 1 rfl ?_
   refine AOps_q 19 _ rfl rfl rfl (QOp_add _ _ _ _ _ _ _ rfl rfl rfl) ?_
   refine kM 1 rfl ?_
   obtain ⟨r5, hr5, h⟩ := bindO h
   refine kC [] 21 (iV r5) [] rfl Tryz.call70 rfl rfl (spec_l08Choose_ac k (w64 (x4 + 1)) p0 _ hr5) rfl ?_
   refine AOps_q 22 _ rfl rfl rfl (QOp_mul _ _ _ _ _ _ _ rfl rfl rfl) ?_
   refine kM 1 rfl ?_
   refine AOps_q 24 _ rfl rfl rfl (QOp_lss _ _ _ _ _ _ _ rfl rfl rfl) ?_
   refine AOps_nil ?_
   refine kI h rfl (fun h _ => ?_) (fun h _ => ?_)
   ·refine ACode_skip ?_
    refine ACode_block ?_
    refine (ACode_region ?_)
    refine kM 1 rfl ?_
    refine AOps_q 26 _ rfl rfl rfl (QOp_add _ _ _ _ _ _ _ rfl rfl rfl) ?_
    refine kN 1 rfl ?_
    exact ⟨k0, _, _, Nat.lt_succ_self _, Weak_keep 0 hm [0, 4, 5] [] _ _ rfl rfl rfl, _, rfl, rfl, h⟩
   refine ACode_exit ?_
   cases h
   exact Weak_keep 0 hm [4] [] _ _ rfl rfl rfl
 refine kR ?_
 refine kN 3 rfl ?_
 refine ACode_ret ?_
 cases h
 exact ⟨_, _, fun r a w h => ⟨r, h⟩, _, _, [], _, (.cons (ResV_tmp _ _ rfl) (.cons (ResV_tmp _ _ rfl) .nil)), rfl, rfl, rfl, rfl, rfl⟩

-- loop.example/g01362/spec.DrawTriangleBound
def spec_DrawTriangleBound (k : Nat) (p0 : List UInt8) : Option (Int) :=
 (spec_l01From k p0).bind fun r1 => (spec_l01Next r1 12).bind fun r2 => some r2.1
set_option maxRecDepth 100000 in
theorem spec_DrawTriangleBound_ac (k : Nat) (p0 : List UInt8) (r : Int) (h : spec_DrawTriangleBound k p0 = some r) : AC Tryz.prog 19 [.d (.sl none (bysD p0))] [] (fun res H' => res = [iV r] ∧ H' = []) := by
 refine AC_of_body true Tryz.func19 rfl Tryz.ntmps19 (rvs := [.tmp 2]) rfl rfl (fun G hG => ?_)
 have hm : G.H.length = 0 := by rw [hG]; rfl
 have hz : zeroG G.H = true := by rw [hG]; rfl
 unfold spec_DrawTriangleBound at h
 refine kR ?_
 refine kN 1 rfl ?_
 refine kR ?_
 refine kM 1 rfl ?_
 obtain ⟨r1, hr1, h⟩ := bindO h
 refine kC [] 4 (.ptr 0 0) [.box (srcD r1)] rfl Tryz.call57 rfl rfl (spec_l01From_ac k p0 _ hr1) rfl ?_
 obtain ⟨r2, hr2, h⟩ := bindO h
 refine kC [0] 5 (iV r2.1) [.box (srcD r2.2)] rfl Tryz.call58 rfl rfl (spec_l01Next_ac r1 12 _ hr2) rfl ?_
 refine kN 1 rfl ?_
 refine ACode_ret ?_
 cases h
 exact ⟨_, _, fun r a w h => ⟨r, h⟩, _, _, [], _, (.cons (ResV_tmp _ _ rfl) .nil), rfl, rfl, rfl, rfl, rfl⟩

-- loop.example/g01362/impl.TriangleBound
def impl_TriangleBound_l0 (p0 : Int) : Nat → Int → Int → Option (Int)
 | 0, _, _ => none
 | k0 + 1, x3, x4 => (if decide (x4 ≤ p0) then impl_TriangleBound_l0 p0 k0 (w64 ((w64 ((w64 (x4 * x3)) - x4)) + 2)) (w64 (x4 + 1)) else some x3)
def impl_TriangleBound (k : Nat) (p0 : Int) : Option (Int × Int) :=
 (if !(impl_in p0 1 10) then some (0, 2) else (impl_TriangleBound_l0 p0 k 3 2 : Option (Int)).bind fun s6 => some (s6, 0))
set_option maxRecDepth 100000 in
theorem impl_TriangleBound_ac (k : Nat) (p0 : Int) (r : Int × Int) (h : impl_TriangleBound k p0 = some r) : AC Tryz.prog 20 [iV p0] [] (fun res H' => res = [iV r.1, iV r.2] ∧ H' = []) := by
 refine AC_of_body true Tryz.func20 rfl Tryz.ntmps20 (rvs := [.tmp 2, .tmp 3]) rfl rfl (fun G hG => ?_)
 have hm : G.H.length = 0 := by rw [hG]; rfl
 have hz : zeroG G.H = true := by rw [hG]; rfl
 unfold impl_TriangleBound at h
 refine kR ?_
 refine kN 2 rfl ?_
 refine ACode_seq ?_
 refine kR ?_
 refine kM 1 rfl ?_
 refine kC [] 7 (bV (impl_in p0 1 10)) [] rfl Tryz.call60 rfl rfl (impl_in_ac p0 1 10) rfl ?_
 refine AOps_q 8 _ rfl rfl rfl (QOp_not _ _ _ rfl rfl) ?_
 refine AOps_nil ?_
 refine kI h rfl (fun h _ => ?_) (fun h _ => ?_)
 ·refine kR ?_
  refine kN 2 rfl ?_
  refine ACode_ret ?_
  cases h
  exact ⟨_, _, fun r a w h => ⟨r, h⟩, _, _, [], _, (.cons (ResV_tmp _ _ rfl) (.cons (ResV_tmp _ _ rfl) .nil)), rfl, rfl, rfl, rfl, rfl⟩
 refine ACode_skip ?_
 refine kR ?_
 refine kN 1 rfl ?_
 refine kB (fun s6 => [(4, iV s6)]) (fun s6 => []) h (fun s6 h => ?_) (fun s6 h => ?_)
 ·refine kR ?_
  refine kN 1 rfl ?_
  refine ACode_block ?_
  refine ACode_loopW (fun k0 E H => ∃ (x3 : Int) (x4 : Int), E = [(0, iV p0), (4, iV x3), (5, iV x4)] ∧ H = [] ∧ impl_TriangleBound_l0 p0 k0 x3 x4 = some s6) k _ _ (Weak_keep 0 hm [0, 4, 5] [] _ _ rfl rfl rfl) ⟨_, _, rfl, rfl, h⟩ ?_
  clear h
  rintro k0 E H ⟨x3, x4, rfl, rfl, h⟩
  cases k0 with
  | zero => cases (show (none : Option (Int)) = some _ from h)
  | succ k0 =>
   rw [impl_TriangleBound_l0] at h
   refine ACode_seq ?_
   refine kR ?_
   refine kM 2 rfl ?_
   refine AOps_q 11 _ rfl rfl rfl (QOp_leq _ _ _ _ _ _ _ rfl rfl rfl) ?_
   refine AOps_nil ?_
   refine kI h rfl (fun h _ => ?_) (fun h _ => ?_)
   ·refine ACode_skip ?_
    refine ACode_seq ?_
    refine ACode_block ?_
    refine (ACode_region ?_)
    refine kM 2 rfl ?_
    refine AOps_q 16 _ rfl rfl rfl (QOp_mul _ _ _ _ _ _ _ rfl rfl rfl) ?_
    refine kM 1 rfl ?_
    refine AOps_q 18 _ rfl rfl rfl (QOp_sub _ _ _ _ _ _ _ rfl rfl rfl) ?_
    refine AOps_q 19 _ rfl rfl rfl (QOp_add _ _ _ _ _ _ _ rfl rfl rfl) ?_
    refine kN 1 rfl ?_
    refine (ACode_region ?_)
    refine kM 1 rfl ?_
    refine AOps_q 13 _ rfl rfl rfl (QOp_add _ _ _ _ _ _ _ rfl rfl rfl) ?_
    refine kN 1 rfl ?_
    exact ⟨k0, _, _, Nat.lt_succ_self _, Weak_keep 0 hm [0, 4, 5] [] _ _ rfl rfl rfl, _, _, rfl, rfl, h⟩
   refine ACode_exit ?_
   cases h
   exact Weak_keep 0 hm [4] [] _ _ rfl rfl rfl
 refine kR ?_
 refine kN 3 rfl ?_
 refine ACode_ret ?_
 cases h
 exact ⟨_, _, fun r a w h => ⟨r, h⟩, _, _, [], _, (.cons (ResV_tmp _ _ rfl) (.cons (ResV_tmp _ _ rfl) .nil)), rfl, rfl, rfl, rfl, rfl⟩

-- loop.example/g01362/spec.TriangleBound
def spec_TriangleBound_l0 (p0 : Int) : Nat → Int → Int → Option (Int)
 | 0, _, _ => none
 | k0 + 1, x3, x4 => (if decide (x4 ≤ p0) then spec_TriangleBound_l0 p0 k0 (w64 ((w64 ((w64 (x4 * x3)) - x4)) + 2)) (w64 (x4 + 1)) else some x3)
def spec_TriangleBound (k : Nat) (p0 : Int) : Option (Int × Int) :=
 (if !(spec_l01In p0 1 10) then some (0, 2) else (spec_TriangleBound_l0 p0 k 3 2 : Option (Int)).bind fun s6 => some (s6, 0))
set_option maxRecDepth 100000 in
theorem spec_TriangleBound_ac (k : Nat) (p0 : Int) (r : Int × Int) (h : spec_TriangleBound k p0 = some r) : AC Tryz.prog 21 [iV p0] [] (fun res H' => res = [iV r.1, iV r.2] ∧ H' = []) := by
 refine AC_of_body true Tryz.func21 rfl Tryz.ntmps21 (rvs := [.tmp 2, .tmp 3]) rfl rfl (fun G hG => ?_)
 have hm : G.H.length = 0 := by rw [hG]; rfl
 have hz : zeroG G.H = true := by rw [hG]; rfl
 unfold spec_TriangleBound at h
 refine kR ?_
 refine kN 2 rfl ?_
 refine ACode_seq ?_
 refine kR ?_
 refine kM 1 rfl ?_
 refine kC [] 7 (bV (spec_l01In p0 1 10)) [] rfl Tryz.call61 rfl rfl (spec_l01In_ac p0 1 10) rfl ?_
 refine AOps_q 8 _ rfl rfl rfl (QOp_not _ _ _ rfl rfl) ?_
 refine AOps_nil ?_
 refine kI h rfl (fun h _ => ?_) (fun h _ => ?_)
 ·refine kR ?_
  refine kN 2 rfl ?_
  refine ACode_ret ?_
  cases h
  exact ⟨_, _, fun r a w h => ⟨r, h⟩, _, _, [], _, (.cons (ResV_tmp _ _ rfl) (.cons (ResV_tmp _ _ rfl) .nil)), rfl, rfl, rfl, rfl, rfl⟩
 refine ACode_skip ?_
 refine kR ?_
 refine kN 1 rfl ?_
 refine kB (fun s6 => [(4, iV s6)]) (fun s6 => []) h (fun s6 h => ?_) (fun s6 h => ?_)
 ·refine kR ?_
  refine kN 1 rfl ?_
  refine ACode_block ?_
  refine ACode_loopW (fun k0 E H => ∃ (x3 : Int) (x4 : Int), E = [(0, iV p0), (4, iV x3), (5, iV x4)] ∧ H = [] ∧ spec_TriangleBound_l0 p0 k0 x3 x4 = some s6) k _ _ (Weak_keep 0 hm [0, 4, 5] [] _ _ rfl rfl rfl) ⟨_, _, rfl, rfl, h⟩ ?_
  clear h
  rintro k0 E H ⟨x3, x4, rfl, rfl, h⟩
  cases k0 with
  | zero => cases (show (none : Option (Int)) = some _ from h)
  | succ k0 =>
   rw [spec_TriangleBound_l0] at h
   refine ACode_seq ?_
   refine kR ?_
   refine kM 2 rfl ?_
   refine AOps_q 11 _ rfl rfl rfl (QOp_leq _ _ _ _ _ _ _ rfl rfl rfl) ?_
   refine AOps_nil ?_
   refine kI h rfl (fun h _ => ?_) (fun h _ => ?_)
   ·refine ACode_skip ?_
    refine ACode_seq ?_
    refine ACode_block ?_
    refine (ACode_region ?_)
    refine kM 2 rfl ?_
    refine AOps_q 16 _ rfl rfl rfl (QOp_mul _ _ _ _ _ _ _ rfl rfl rfl) ?_
    refine kM 1 rfl ?_
    refine AOps_q 18 _ rfl rfl rfl (QOp_sub _ _ _ _ _ _ _ rfl rfl rfl) ?_
    refine AOps_q 19 _ rfl rfl rfl (QOp_add _ _ _ _ _ _ _ rfl rfl rfl) ?_
    refine kN 1 rfl ?_
    refine (ACode_region ?_)
    refine kM 1 rfl ?_
    refine AOps_q 13 _ rfl rfl rfl (QOp_add _ _ _ _ _ _ _ rfl rfl rfl) ?_
    refine kN 1 rfl ?_
    exact ⟨k0, _, _, Nat.lt_succ_self _, Weak_keep 0 hm [0, 4, 5] [] _ _ rfl rfl rfl, _, _, rfl, rfl, h⟩
   refine ACode_exit ?_
   cases h
   exact Weak_keep 0 hm [4] [] _ _ rfl rfl rfl
 refine kR ?_
 refine kN 3 rfl ?_
 refine ACode_ret ?_
 cases h
 exact ⟨_, _, fun r a w h => ⟨r, h⟩, _, _, [], _, (.cons (ResV_tmp _ _ rfl) (.cons (ResV_tmp _ _ rfl) .nil)), rfl, rfl, rfl, rfl, rfl⟩

-- loop.example/g01362/spec.DrawStarNumber
def spec_DrawStarNumber (k : Nat) (p0 : List UInt8) : Option (Int × Int) :=
 (spec_l08Two k p0 1 1000).bind fun r1 => some (r1.1, r1.2)
set_option maxRecDepth 100000 in
theorem spec_DrawStarNumber_ac (k : Nat) (p0 : List UInt8) (r : Int × Int) (h : spec_DrawStarNumber k p0 = some r) : AC Tryz.prog 22 [.d (.sl none (bysD p0))] [] (fun res H' => res = [iV r.1, iV r.2] ∧ H' = []) := by
 refine AC_of_body true Tryz.func22 rfl Tryz.ntmps22 (rvs := [.tmp 2, .tmp 3]) rfl rfl (fun G hG => ?_)
 have hm : G.H.length = 0 := by rw [hG]; rfl
 have hz : zeroG G.H = true := by rw [hG]; rfl
 unfold spec_DrawStarNumber at h
 refine kR ?_
 refine kN 2 rfl ?_
 refine kR ?_
 refine kM 1 rfl ?_
 obtain ⟨r1, hr1, h⟩ := bindO h
 refine kC [] 5 (.tup [iV r1.1, iV r1.2]) [] rfl Tryz.call59 rfl rfl (spec_l08Two_ac k p0 1 1000 _ hr1) rfl ?_
 refine kN 4 rfl ?_
 refine ACode_ret ?_
 cases h
 exact ⟨_, _, fun r a w h => ⟨r, h⟩, _, _, [], _, (.cons (ResV_tmp _ _ rfl) (.cons (ResV_tmp _ _ rfl) .nil)), rfl, rfl, rfl, rfl, rfl⟩

-- loop.example/g01362/impl.areThousand
def impl_areThousand (p0 : Int) (p1 : Int) : Bool :=
 letO (if (impl_in p0 1 1000) then (impl_in p1 1 1000) else false) fun (s4 : Bool) => s4
set_option maxRecDepth 100000 in
theorem impl_areThousand_ac (p0 : Int) (p1 : Int) : AC Tryz.prog 71 [iV p0, iV p1] [] (fun res H' => res = [bV (impl_areThousand p0 p1)] ∧ H' = []) := by
 refine AC_of_body true Tryz.func71 rfl Tryz.ntmps71 (rvs := [.tmp 4]) rfl rfl (fun G hG => ?_)
 have hm : G.H.length = 0 := by rw [hG]; rfl
 have hz : zeroG G.H = true := by rw [hG]; rfl
 obtain ⟨r, h⟩ : ∃ r, impl_areThousand p0 p1 = r := ⟨_, rfl⟩
 rw [h]
 unfold impl_areThousand at h
 refine kR ?_
 refine kN 1 rfl ?_
 refine kL (fun s4 => [(4, bV s4)]) (fun s4 => []) h (fun s4 h => ?_) (fun s4 h => ?_)
 ·refine (ACode_region ?_)
  refine kM 1 rfl ?_
  refine kC [] 6 (bV (impl_in p0 1 1000)) [] rfl Tryz.call60 rfl rfl (impl_in_ac p0 1 1000) rfl ?_
  refine kM 1 rfl ?_
  refine AOps_case 7 _ rfl (fun hb2 => ?_) (fun hb2 => ?_)
  ·have h := iteT hb2 h
   refine kM 1 rfl ?_
   refine kC [] 9 (bV (impl_in p1 1 1000)) [] rfl Tryz.call60 rfl rfl (impl_in_ac p1 1 1000) rfl ?_
   refine kN 2 rfl ?_
   cases h
   exact Weak_keep 0 hm [4] [] _ _ rfl rfl rfl
  have h := iteF hb2 h
  refine AOps_skip 8 rfl rfl rfl ?_
  refine AOps_skip 9 rfl rfl rfl ?_
  refine kN 2 rfl ?_
  cases h
  exact Weak_keep 0 hm [4] [] _ _ rfl rfl rfl
 refine ACode_ret ?_
 cases h
 exact ⟨_, _, fun r a w h => ⟨r, h⟩, _, _, [], _, (.cons (ResV_tmp _ _ rfl) .nil), rfl, rfl, rfl, rfl, rfl⟩

-- loop.example/g01362/impl.StarNumber
def impl_StarNumber (p0 : Int) (p1 : Int) : Option (Int × Int) :=
 ((if !(impl_areThousand p0 p1) then some (.inr (0, 2)) else letO (if decide (p0.tmod 2 = 0) then decide (p1.tmod 2 = 0) else false) fun (s4 : Bool) => (if s4 then some (.inr (w64 ((w64 (p0 + p1)) - 1), 0)) else some (.inl ()))) : Option (Sum (Unit) (Int × Int))).bind fun os6 => (match os6 with | .inl s6 => some (w64 (p0 + p1), 0) | .inr rr => some rr)
set_option maxRecDepth 100000 in
theorem impl_StarNumber_ac (p0 : Int) (p1 : Int) (r : Int × Int) (h : impl_StarNumber p0 p1 = some r) : AC Tryz.prog 23 [iV p0, iV p1] [] (fun res H' => res = [iV r.1, iV r.2] ∧ H' = []) := by
 refine AC_of_body true Tryz.func23 rfl Tryz.ntmps23 (rvs := [.tmp 4, .tmp 5]) rfl rfl (fun G hG => ?_)
 have hm : G.H.length = 0 := by rw [hG]; rfl
 have hz : zeroG G.H = true := by rw [hG]; rfl
 unfold impl_StarNumber at h
 refine kR ?_
 refine kN 2 rfl ?_
 refine kO (fun s6 => [(0, iV p0), (1, iV p1)]) (fun s6 => []) h (fun os6 h hks6 => ?_) (fun s6 h => ?_)
 ·refine ACode_block ?_
  refine kR ?_
  refine kM 2 rfl ?_
  refine kC [] 9 (bV (impl_areThousand p0 p1)) [] rfl Tryz.call71 rfl rfl (impl_areThousand_ac p0 p1) rfl ?_
  refine AOps_q 10 _ rfl rfl rfl (QOp_not _ _ _ rfl rfl) ?_
  refine kN 1 rfl ?_
  refine kI h rfl (fun h _ => ?_) (fun h _ => ?_)
  ·refine kR ?_
   refine kN 2 rfl ?_
   refine ACode_ret ?_
   cases h
   have h := hks6
   cases h
   exact ⟨_, _, fun r a w h => ⟨r, h⟩, _, _, [], _, (.cons (ResV_tmp _ _ rfl) (.cons (ResV_tmp _ _ rfl) .nil)), rfl, rfl, rfl, rfl, rfl⟩
  refine kL (fun s4 => [(0, iV p0), (1, iV p1), (11, bV s4)]) (fun s4 => []) h (fun s4 h => ?_) (fun s4 h => ?_)
  ·refine (ACode_region ?_)
   refine kM 1 rfl ?_
   refine AOps_q 13 _ rfl rfl rfl (QOp_rem _ _ _ _ _ _ _ (by decide) rfl rfl rfl) ?_
   refine AOps_q 14 _ rfl rfl rfl (QOp_eql _ _ _ _ _ _ _ rfl rfl rfl) ?_
   refine kM 1 rfl ?_
   refine AOps_case 15 _ rfl (fun hb3 => ?_) (fun hb3 => ?_)
   ·have h := iteT hb3 h
    refine kM 1 rfl ?_
    refine AOps_q 17 _ rfl rfl rfl (QOp_rem _ _ _ _ _ _ _ (by decide) rfl rfl rfl) ?_
    refine AOps_q 18 _ rfl rfl rfl (QOp_eql _ _ _ _ _ _ _ rfl rfl rfl) ?_
    refine kN 2 rfl ?_
    cases h
    exact Weak_keep 0 hm [0, 1, 11] [] _ _ rfl rfl rfl
   have h := iteF hb3 h
   refine AOps_skip 16 rfl rfl rfl ?_
   refine AOps_skip 17 rfl rfl rfl ?_
   refine AOps_skip 18 rfl rfl rfl ?_
   refine kN 2 rfl ?_
   cases h
   exact Weak_keep 0 hm [0, 1, 11] [] _ _ rfl rfl rfl
  refine kI h rfl (fun h _ => ?_) (fun h _ => ?_)
  ·refine kR ?_
   refine kM 2 rfl ?_
   refine AOps_q 22 _ rfl rfl rfl (QOp_add _ _ _ _ _ _ _ rfl rfl rfl) ?_
   refine AOps_q 23 _ rfl rfl rfl (QOp_sub _ _ _ _ _ _ _ rfl rfl rfl) ?_
   refine kN 2 rfl ?_
   refine ACode_ret ?_
   cases h
   have h := hks6
   cases h
   exact ⟨_, _, fun r a w h => ⟨r, h⟩, _, _, [], _, (.cons (ResV_tmp _ _ rfl) (.cons (ResV_tmp _ _ rfl) .nil)), rfl, rfl, rfl, rfl, rfl⟩
  refine ACode_skip ?_
  cases h
  exact ⟨_, rfl, Weak_keep 0 hm [0, 1] [] _ _ rfl rfl rfl⟩
 refine kR ?_
 refine kM 2 rfl ?_
 refine AOps_q 26 _ rfl rfl rfl (QOp_add _ _ _ _ _ _ _ rfl rfl rfl) ?_
 refine kN 2 rfl ?_
 refine ACode_ret ?_
 cases h
 exact ⟨_, _, fun r a w h => ⟨r, h⟩, _, _, [], _, (.cons (ResV_tmp _ _ rfl) (.cons (ResV_tmp _ _ rfl) .nil)), rfl, rfl, rfl, rfl, rfl⟩

-- loop.example/g01362/spec.StarNumber
def spec_StarNumber (p0 : Int) (p1 : Int) : Option (Int × Int) :=
 (letO (if !(spec_l01In p0 1 1000) then true else !(spec_l01In p1 1 1000)) fun (s4 : Bool) => (if s4 then some (.inr (0, 2)) else some (.inl ())) : Option (Sum (Unit) (Int × Int))).bind fun os6 => (match os6 with | .inl s6 => (letO (if decide (p0.tmod 2 = 0) then decide (p1.tmod 2 = 0) else false) fun (s8 : Bool) => (if s8 then some (.inr (w64 ((w64 (p0 + p1)) - 1), 0)) else some (.inl ())) : Option (Sum (Unit) (Int × Int))).bind fun os10 => (match os10 with | .inl s10 => some (w64 (p0 + p1), 0) | .inr rr => some rr) | .inr rr => some rr)
set_option maxRecDepth 100000 in
theorem spec_StarNumber_ac (p0 : Int) (p1 : Int) (r : Int × Int) (h : spec_StarNumber p0 p1 = some r) : AC Tryz.prog 24 [iV p0, iV p1] [] (fun res H' => res = [iV r.1, iV r.2] ∧ H' = []) := by
 refine AC_of_body true Tryz.func24 rfl Tryz.ntmps24 (rvs := [.tmp 4, .tmp 5]) rfl rfl (fun G hG => ?_)
 have hm : G.H.length = 0 := by rw [hG]; rfl
 have hz : zeroG G.H = true := by rw [hG]; rfl
 unfold spec_StarNumber at h
 refine kR ?_
 refine kN 2 rfl ?_
 refine kO (fun s6 => [(0, iV p0), (1, iV p1)]) (fun s6 => []) h (fun os6 h hks6 => ?_) (fun s6 h => ?_)
 ·refine kL (fun s4 => [(0, iV p0), (1, iV p1), (13, bV s4)]) (fun s4 => []) h (fun s4 h => ?_) (fun s4 h => ?_)
  ·refine (ACode_region ?_)
   refine kM 1 rfl ?_
   refine kC [] 7 (bV (spec_l01In p0 1 1000)) [] rfl Tryz.call61 rfl rfl (spec_l01In_ac p0 1 1000) rfl ?_
   refine AOps_q 8 _ rfl rfl rfl (QOp_not _ _ _ rfl rfl) ?_
   refine kM 1 rfl ?_
   refine AOps_case 9 _ rfl (fun hb2 => ?_) (fun hb2 => ?_)
   ·have h := iteT hb2 h
    refine AOps_skip 10 rfl rfl rfl ?_
    refine AOps_skip 11 rfl rfl rfl ?_
    refine AOps_skip 12 rfl rfl rfl ?_
    refine kN 1 rfl ?_
    cases h
    exact Weak_keep 0 hm [0, 1, 13] [] _ _ rfl rfl rfl
   have h := iteF hb2 h
   refine kM 1 rfl ?_
   refine kC [] 11 (bV (spec_l01In p1 1 1000)) [] rfl Tryz.call61 rfl rfl (spec_l01In_ac p1 1 1000) rfl ?_
   refine AOps_q 12 _ rfl rfl rfl (QOp_not _ _ _ rfl rfl) ?_
   refine kN 1 rfl ?_
   cases h
   exact Weak_keep 0 hm [0, 1, 13] [] _ _ rfl rfl rfl
  refine kI h rfl (fun h _ => ?_) (fun h _ => ?_)
  ·refine kR ?_
   refine kN 2 rfl ?_
   refine ACode_ret ?_
   cases h
   have h := hks6
   cases h
   exact ⟨_, _, fun r a w h => ⟨r, h⟩, _, _, [], _, (.cons (ResV_tmp _ _ rfl) (.cons (ResV_tmp _ _ rfl) .nil)), rfl, rfl, rfl, rfl, rfl⟩
  refine ACode_skip ?_
  cases h
  exact ⟨_, rfl, Weak_keep 0 hm [0, 1] [] _ _ rfl rfl rfl⟩
 refine kO (fun s10 => [(0, iV p0), (1, iV p1)]) (fun s10 => []) h (fun os10 h hks10 => ?_) (fun s10 h => ?_)
 ·refine kL (fun s8 => [(0, iV p0), (1, iV p1), (21, bV s8)]) (fun s8 => []) h (fun s8 h => ?_) (fun s8 h => ?_)
  ·refine (ACode_region ?_)
   refine kM 1 rfl ?_
   refine AOps_q 15 _ rfl rfl rfl (QOp_rem _ _ _ _ _ _ _ (by decide) rfl rfl rfl) ?_
   refine AOps_q 16 _ rfl rfl rfl (QOp_eql _ _ _ _ _ _ _ rfl rfl rfl) ?_
   refine kM 1 rfl ?_
   refine AOps_case 17 _ rfl (fun hb7 => ?_) (fun hb7 => ?_)
   ·have h := iteT hb7 h
    refine kM 1 rfl ?_
    refine AOps_q 19 _ rfl rfl rfl (QOp_rem _ _ _ _ _ _ _ (by decide) rfl rfl rfl) ?_
    refine AOps_q 20 _ rfl rfl rfl (QOp_eql _ _ _ _ _ _ _ rfl rfl rfl) ?_
    refine kN 1 rfl ?_
    cases h
    exact Weak_keep 0 hm [0, 1, 21] [] _ _ rfl rfl rfl
   have h := iteF hb7 h
   refine AOps_skip 18 rfl rfl rfl ?_
   refine AOps_skip 19 rfl rfl rfl ?_
   refine AOps_skip 20 rfl rfl rfl ?_
   refine kN 1 rfl ?_
   cases h
   exact Weak_keep 0 hm [0, 1, 21] [] _ _ rfl rfl rfl
  refine kI h rfl (fun h _ => ?_) (fun h _ => ?_)
  ·refine kR ?_
   refine kM 2 rfl ?_
   refine AOps_q 24 _ rfl rfl rfl (QOp_add _ _ _ _ _ _ _ rfl rfl rfl) ?_
   refine AOps_q 25 _ rfl rfl rfl (QOp_sub _ _ _ _ _ _ _ rfl rfl rfl) ?_
   refine kN 2 rfl ?_
   refine ACode_ret ?_
   cases h
   have h := hks10
   cases h
   exact ⟨_, _, fun r a w h => ⟨r, h⟩, _, _, [], _, (.cons (ResV_tmp _ _ rfl) (.cons (ResV_tmp _ _ rfl) .nil)), rfl, rfl, rfl, rfl, rfl⟩
  refine ACode_skip ?_
  cases h
  exact ⟨_, rfl, Weak_keep 0 hm [0, 1] [] _ _ rfl rfl rfl⟩
 refine kR ?_
 refine kM 2 rfl ?_
 refine AOps_q 28 _ rfl rfl rfl (QOp_add _ _ _ _ _ _ _ rfl rfl rfl) ?_
 refine kN 2 rfl ?_
 refine ACode_ret ?_
 cases h
 exact ⟨_, _, fun r a w h => ⟨r, h⟩, _, _, [], _, (.cons (ResV_tmp _ _ rfl) (.cons (ResV_tmp _ _ rfl) .nil)), rfl, rfl, rfl, rfl, rfl⟩

-- loop.example/g01362/spec.DrawMatchingNumber
def spec_DrawMatchingNumber (k : Nat) (p0 : List UInt8) : Option (Int × Int) :=
 (spec_l08Two k p0 1 1000).bind fun r1 => some (r1.1, r1.2)
set_option maxRecDepth 100000 in
theorem spec_DrawMatchingNumber_ac (k : Nat) (p0 : List UInt8) (r : Int × Int) (h : spec_DrawMatchingNumber k p0 = some r) : AC Tryz.prog 25 [.d (.sl none (bysD p0))] [] (fun res H' => res = [iV r.1, iV r.2] ∧ H' = []) := by
 refine AC_of_body true Tryz.func25 rfl Tryz.ntmps25 (rvs := [.tmp 2, .tmp 3]) rfl rfl (fun G hG => ?_)
 have hm : G.H.length = 0 := by rw [hG]; rfl
 have hz : zeroG G.H = true := by rw [hG]; rfl
 unfold spec_DrawMatchingNumber at h
 refine kR ?_
 refine kN 2 rfl ?_
 refine kR ?_
 refine kM 1 rfl ?_
 obtain ⟨r1, hr1, h⟩ := bindO h
 refine kC [] 5 (.tup [iV r1.1, iV r1.2]) [] rfl Tryz.call59 rfl rfl (spec_l08Two_ac k p0 1 1000 _ hr1) rfl ?_
 refine kN 4 rfl ?_
 refine ACode_ret ?_
 cases h
 exact ⟨_, _, fun r a w h => ⟨r, h⟩, _, _, [], _, (.cons (ResV_tmp _ _ rfl) (.cons (ResV_tmp _ _ rfl) .nil)), rfl, rfl, rfl, rfl, rfl⟩

-- loop.example/g01362/impl.MatchingNumber
def impl_MatchingNumber (p0 : Int) (p1 : Int) : Int × Int :=
 (if !(impl_areThousand p0 p1) then (0, 2) else (w64 ((w64 ((w64 (2 * (if p0 < p1 then p1 else p0))) + (if p1 < p0 then p1 else p0))) - 1), 0))
set_option maxRecDepth 100000 in
theorem impl_MatchingNumber_ac (p0 : Int) (p1 : Int) : AC Tryz.prog 26 [iV p0, iV p1] [] (fun res H' => res = [iV ((impl_MatchingNumber p0 p1).1), iV ((impl_MatchingNumber p0 p1).2)] ∧ H' = []) := by
 refine AC_of_body true Tryz.func26 rfl Tryz.ntmps26 (rvs := [.tmp 4, .tmp 5]) rfl rfl (fun G hG => ?_)
 have hm : G.H.length = 0 := by rw [hG]; rfl
 have hz : zeroG G.H = true := by rw [hG]; rfl
 obtain ⟨r, h⟩ : ∃ r, impl_MatchingNumber p0 p1 = r := ⟨_, rfl⟩
 rw [h]
 unfold impl_MatchingNumber at h
 refine kR ?_
 refine kN 2 rfl ?_
 refine ACode_seq ?_
 refine kR ?_
 refine kM 2 rfl ?_
 refine kC [] 8 (bV (impl_areThousand p0 p1)) [] rfl Tryz.call71 rfl rfl (impl_areThousand_ac p0 p1) rfl ?_
 refine AOps_q 9 _ rfl rfl rfl (QOp_not _ _ _ rfl rfl) ?_
 refine AOps_nil ?_
 refine kI h rfl (fun h _ => ?_) (fun h _ => ?_)
 ·refine kR ?_
  refine kN 2 rfl ?_
  refine ACode_ret ?_
  cases h
  exact ⟨_, _, fun r a w h => ⟨r, h⟩, _, _, [], _, (.cons (ResV_tmp _ _ rfl) (.cons (ResV_tmp _ _ rfl) .nil)), rfl, rfl, rfl, rfl, rfl⟩
 refine ACode_skip ?_
 refine kR ?_
 refine kM 2 rfl ?_
 refine AOps_q 12 _ rfl rfl rfl (QOp_max _ _ _ _ _ _ rfl rfl rfl rfl rfl) ?_
 refine AOps_q 13 _ rfl rfl rfl (QOp_mul _ _ _ _ _ _ _ rfl rfl rfl) ?_
 refine kM 2 rfl ?_
 refine AOps_q 16 _ rfl rfl rfl (QOp_min _ _ _ _ _ _ rfl rfl rfl rfl rfl) ?_
 refine AOps_q 17 _ rfl rfl rfl (QOp_add _ _ _ _ _ _ _ rfl rfl rfl) ?_
 refine AOps_q 18 _ rfl rfl rfl (QOp_sub _ _ _ _ _ _ _ rfl rfl rfl) ?_
 refine kN 2 rfl ?_
 refine ACode_ret ?_
 cases h
 exact ⟨_, _, fun r a w h => ⟨r, h⟩, _, _, [], _, (.cons (ResV_tmp _ _ rfl) (.cons (ResV_tmp _ _ rfl) .nil)), rfl, rfl, rfl, rfl, rfl⟩

-- loop.example/g01362/spec.MatchingNumber
def spec_MatchingNumber (p0 : Int) (p1 : Int) : Option (Int × Int) :=
 (letO (if !(spec_l01In p0 1 1000) then true else !(spec_l01In p1 1 1000)) fun (s4 : Bool) => (if s4 then some (.inr (0, 2)) else some (.inl ())) : Option (Sum (Unit) (Int × Int))).bind fun os6 => (match os6 with | .inl s6 => some (w64 ((w64 ((w64 (2 * (if p0 < p1 then p1 else p0))) + (if p1 < p0 then p1 else p0))) - 1), 0) | .inr rr => some rr)
set_option maxRecDepth 100000 in
theorem spec_MatchingNumber_ac (p0 : Int) (p1 : Int) (r : Int × Int) (h : spec_MatchingNumber p0 p1 = some r) : AC Tryz.prog 27 [iV p0, iV p1] [] (fun res H' => res = [iV r.1, iV r.2] ∧ H' = []) := by
 refine AC_of_body true Tryz.func27 rfl Tryz.ntmps27 (rvs := [.tmp 4, .tmp 5]) rfl rfl (fun G hG => ?_)
 have hm : G.H.length = 0 := by rw [hG]; rfl
 have hz : zeroG G.H = true := by rw [hG]; rfl
 unfold spec_MatchingNumber at h
 refine kR ?_
 refine kN 2 rfl ?_
 refine kO (fun s6 => [(0, iV p0), (1, iV p1)]) (fun s6 => []) h (fun os6 h hks6 => ?_) (fun s6 h => ?_)
 ·refine kL (fun s4 => [(0, iV p0), (1, iV p1), (13, bV s4)]) (fun s4 => []) h (fun s4 h => ?_) (fun s4 h => ?_)
  ·refine (ACode_region ?_)
   refine kM 1 rfl ?_
   refine kC [] 7 (bV (spec_l01In p0 1 1000)) [] rfl Tryz.call61 rfl rfl (spec_l01In_ac p0 1 1000) rfl ?_
   refine AOps_q 8 _ rfl rfl rfl (QOp_not _ _ _ rfl rfl) ?_
   refine kM 1 rfl ?_
   refine AOps_case 9 _ rfl (fun hb2 => ?_) (fun hb2 => ?_)
   ·have h := iteT hb2 h
    refine AOps_skip 10 rfl rfl rfl ?_
    refine AOps_skip 11 rfl rfl rfl ?_
    refine AOps_skip 12 rfl rfl rfl ?_
    refine kN 1 rfl ?_
    cases h
    exact Weak_keep 0 hm [0, 1, 13] [] _ _ rfl rfl rfl
   have h := iteF hb2 h
   refine kM 1 rfl ?_
   refine kC [] 11 (bV (spec_l01In p1 1 1000)) [] rfl Tryz.call61 rfl rfl (spec_l01In_ac p1 1 1000) rfl ?_
   refine AOps_q 12 _ rfl rfl rfl (QOp_not _ _ _ rfl rfl) ?_
   refine kN 1 rfl ?_
   cases h
   exact Weak_keep 0 hm [0, 1, 13] [] _ _ rfl rfl rfl
  refine kI h rfl (fun h _ => ?_) (fun h _ => ?_)
  ·refine kR ?_
   refine kN 2 rfl ?_
   refine ACode_ret ?_
   cases h
   have h := hks6
   cases h
   exact ⟨_, _, fun r a w h => ⟨r, h⟩, _, _, [], _, (.cons (ResV_tmp _ _ rfl) (.cons (ResV_tmp _ _ rfl) .nil)), rfl, rfl, rfl, rfl, rfl⟩
  refine ACode_skip ?_
  cases h
  exact ⟨_, rfl, Weak_keep 0 hm [0, 1] [] _ _ rfl rfl rfl⟩
 refine kR ?_
 refine kM 2 rfl ?_
 refine AOps_q 16 _ rfl rfl rfl (QOp_max _ _ _ _ _ _ rfl rfl rfl rfl rfl) ?_
 refine AOps_q 17 _ rfl rfl rfl (QOp_mul _ _ _ _ _ _ _ rfl rfl rfl) ?_
 refine kM 2 rfl ?_
 refine AOps_q 20 _ rfl rfl rfl (QOp_min _ _ _ _ _ _ rfl rfl rfl rfl rfl) ?_
 refine AOps_q 21 _ rfl rfl rfl (QOp_add _ _ _ _ _ _ _ rfl rfl rfl) ?_
 refine AOps_q 22 _ rfl rfl rfl (QOp_sub _ _ _ _ _ _ _ rfl rfl rfl) ?_
 refine kN 2 rfl ?_
 refine ACode_ret ?_
 cases h
 exact ⟨_, _, fun r a w h => ⟨r, h⟩, _, _, [], _, (.cons (ResV_tmp _ _ rfl) (.cons (ResV_tmp _ _ rfl) .nil)), rfl, rfl, rfl, rfl, rfl⟩

-- loop.example/g01362/spec.l01Names
def spec_l01Names : List ByteArray :=
 [(⟨#[112, 101, 110, 116, 97, 103, 111, 110]⟩ : ByteArray), (⟨#[101, 105, 103, 104, 116]⟩ : ByteArray), (⟨#[116, 104, 105, 114, 116, 101, 101, 110]⟩ : ByteArray), (⟨#[115, 101, 118, 101, 110, 116, 101, 101, 110]⟩ : ByteArray), (⟨#[115, 105, 120, 116, 101, 101, 110]⟩ : ByteArray)]
set_option maxRecDepth 100000 in
theorem spec_l01Names_ac : AC Tryz.prog 170 [] [] (fun res H' => res = [.vec 0 0] ∧ H' = [.vec 0 (stsD (spec_l01Names))]) := by
 refine AC_of_body true Tryz.func170 rfl Tryz.ntmps170 (rvs := [.tmp 0]) rfl rfl (fun G hG => ?_)
 have hm : G.H.length = 0 := by rw [hG]; rfl
 have hz : zeroG G.H = true := by rw [hG]; rfl
 obtain ⟨r, h⟩ : ∃ r, spec_l01Names = r := ⟨_, rfl⟩
 rw [h]
 unfold spec_l01Names at h
 refine kR ?_
 refine kN 1 rfl ?_
 refine kR ?_
 refine AOps_buildSlice 1 _ _ _ [_, _, _, _, _] (stsD ([(⟨#[112, 101, 110, 116, 97, 103, 111, 110]⟩ : ByteArray), (⟨#[101, 105, 103, 104, 116]⟩ : ByteArray), (⟨#[116, 104, 105, 114, 116, 101, 101, 110]⟩ : ByteArray), (⟨#[115, 101, 118, 101, 110, 116, 101, 101, 110]⟩ : ByteArray), (⟨#[115, 105, 120, 116, 101, 101, 110]⟩ : ByteArray)])) _ rfl rfl rfl rfl rfl (by decide) Tryz.underlying143 Tryz.sizeOf9 (zero_of Tryz.typeInfo9 rfl) rfl rfl (stsD_one _) ?_
 refine kN 1 rfl ?_
 refine ACode_ret ?_
 cases h
 exact ⟨_, _, Weak_reset 0 hm hz [0] _ _ rfl rfl, _, _, [0], _, (.cons (ResV_tmp _ _ rfl) .nil), rfl, rfl, rfl, rfl, rfl⟩

-- loop.example/g01362/spec.l01Edge
def spec_l01Edge (p0 : Int) (p1 : Int) : Int :=
 (if decide (p1 < p0) then w64 ((w64 ((w64 (p0 * (w64 (p0 - 1)))).tdiv 2)) + p1) else w64 ((w64 ((w64 (p1 * (w64 (p1 - 1)))).tdiv 2)) + p0))
set_option maxRecDepth 100000 in
theorem spec_l01Edge_ac (p0 : Int) (p1 : Int) : AC Tryz.prog 79 [iV p0, iV p1] [] (fun res H' => res = [iV (spec_l01Edge p0 p1)] ∧ H' = []) := by
 refine AC_of_body true Tryz.func79 rfl Tryz.ntmps79 (rvs := [.tmp 4]) rfl rfl (fun G hG => ?_)
 have hm : G.H.length = 0 := by rw [hG]; rfl
 have hz : zeroG G.H = true := by rw [hG]; rfl
 obtain ⟨r, h⟩ : ∃ r, spec_l01Edge p0 p1 = r := ⟨_, rfl⟩
 rw [h]
 unfold spec_l01Edge at h
 refine kR ?_
 refine kN 1 rfl ?_
 refine ACode_seq ?_
 refine kR ?_
 refine kM 2 rfl ?_
 refine AOps_q 7 _ rfl rfl rfl (QOp_gtr _ _ _ _ _ _ _ rfl rfl rfl) ?_
 refine AOps_nil ?_
 refine kI h rfl (fun h _ => ?_) (fun h _ => ?_)
 ·refine kR ?_
  refine kM 2 rfl ?_
  refine AOps_q 10 _ rfl rfl rfl (QOp_sub _ _ _ _ _ _ _ rfl rfl rfl) ?_
  refine AOps_q 11 _ rfl rfl rfl (QOp_mul _ _ _ _ _ _ _ rfl rfl rfl) ?_
  refine AOps_q 12 _ rfl rfl rfl (QOp_quo _ _ _ _ _ _ _ (by decide) rfl rfl rfl) ?_
  refine kM 1 rfl ?_
  refine AOps_q 14 _ rfl rfl rfl (QOp_add _ _ _ _ _ _ _ rfl rfl rfl) ?_
  refine kN 1 rfl ?_
  refine ACode_ret ?_
  cases h
  exact ⟨_, _, fun r a w h => ⟨r, h⟩, _, _, [], _, (.cons (ResV_tmp _ _ rfl) .nil), rfl, rfl, rfl, rfl, rfl⟩
 refine ACode_skip ?_
 refine kR ?_
 refine kM 2 rfl ?_
 refine AOps_q 17 _ rfl rfl rfl (QOp_sub _ _ _ _ _ _ _ rfl rfl rfl) ?_
 refine AOps_q 18 _ rfl rfl rfl (QOp_mul _ _ _ _ _ _ _ rfl rfl rfl) ?_
 refine AOps_q 19 _ rfl rfl rfl (QOp_quo _ _ _ _ _ _ _ (by decide) rfl rfl rfl) ?_
 refine kM 1 rfl ?_
 refine AOps_q 21 _ rfl rfl rfl (QOp_add _ _ _ _ _ _ _ rfl rfl rfl) ?_
 refine kN 1 rfl ?_
 refine ACode_ret ?_
 cases h
 exact ⟨_, _, fun r a w h => ⟨r, h⟩, _, _, [], _, (.cons (ResV_tmp _ _ rfl) .nil), rfl, rfl, rfl, rfl, rfl⟩

end Go.Proofs.YtghhnpdhehjlaaaGreat
