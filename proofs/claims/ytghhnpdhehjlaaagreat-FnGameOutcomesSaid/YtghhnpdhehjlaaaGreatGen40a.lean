/- Plain functions of the program and that the program computes them: printed by the own tool gen.py. No conditions. -/
import Derived.Test.YtghhnpdhehjlaaaGreatSrV
import Derived.Test.YtghhnpdhehjlaaaGreatCloV
import Derived.Test.YtghhnpdhehjlaaaGreatLon
import Derived.Test.YtghhnpdhehjlaaaGreatSrc
import Derived.Test.YtghhnpdhehjlaaaGreatAb24
import Derived.Test.YtghhnpdhehjlaaaGreatAb23
import Derived.Test.YtghhnpdhehjlaaaGreatAb18
import Derived.Test.YtghhnpdhehjlaaaGreatAb27
import Derived.Test.YtghhnpdhehjlaaaGreatMoved
set_option linter.unusedVariables false
set_option linter.unusedSimpArgs false
namespace Go.Proofs.YtghhnpdhehjlaaaGreat
open Go Go.RowKit Ab

set_option maxRecDepth 100000 in
theorem keyed9_Tryz : Maps.Keyed Tryz.prog 9 := Maps.string_keyed Tryz.underlying9
-- loop.example/g01362/laws.big
def laws_big (p0 : List UInt8) : Bool :=
 decide (4096 < (p0.length : Int))
set_option maxRecDepth 100000 in
theorem laws_big_ac (p0 : List UInt8) : AC Tryz.prog 6 [.d (.sl none (bysD p0))] [] (fun res H' => res = [bV (laws_big p0)] ∧ H' = []) := by
 refine AC_of_body true Tryz.func6 rfl Tryz.ntmps6 (rvs := [.tmp 2]) rfl rfl (fun G hG => ?_)
 have hm : G.H.length = 0 := by rw [hG]; rfl
 have hz : zeroG G.H = true := by rw [hG]; rfl
 obtain ⟨r, h⟩ : ∃ r, laws_big p0 = r := ⟨_, rfl⟩
 rw [h]
 unfold laws_big at h
 refine kR ?_
 refine kN 1 rfl ?_
 refine kR ?_
 refine kM 1 rfl ?_
 refine AOps_q 4 _ rfl rfl rfl (QOp_len_sl _ _ _ _ _ _ _ (bysD_length _) rfl rfl rfl rfl Tryz.underlying22 rfl) ?_
 refine AOps_q 5 _ rfl rfl rfl (QOp_gtr _ _ _ _ _ _ _ rfl rfl rfl) ?_
 refine kN 1 rfl ?_
 refine ACode_ret ?_
 cases h
 exact ⟨_, _, fun r a w h => ⟨r, h⟩, _, _, [], _, (.cons (ResV_tmp _ _ rfl) .nil), rfl, rfl, rfl, rfl, rfl⟩

-- loop.example/g01362/spec.l01From
def spec_l01From_l0 (p0 : List UInt8) : Nat → Int → Src → Option (Src)
 | 0, _, _ => none
 | k0 + 1, x1, x2 => (letO (if decide (x1 < (p0.length : Int)) then decide (x1 < 4096) else false) fun (s4 : Bool) => (if s4 then some (.inl ()) else (some x2).bind fun rr => some (.inr rr)) : Option (Sum (Unit) (Src))).bind fun os6 => (match os6 with | .inl s6 => (if 0 ≤ x1 ∧ x1 < (p0.length : Int) then spec_l01From_l0 p0 k0 (w64 (x1 + 1)) (⟨x2.c, x2.i, IntKind.u64.wrap ((IntKind.u64.wrap ((IntKind.u64.wrap (x2.h * 1099511628211)) + ((p0.getD x1.toNat 0).toNat : Int))) + 193)⟩ : Src) else none) | .inr rr => some rr)
def spec_l01From (k : Nat) (p0 : List UInt8) : Option (Src) :=
 (spec_l01From_l0 p0 k 0 (⟨p0, 0, IntKind.u64.wrap (13621 + (IntKind.u64.wrap (p0.length : Int)))⟩ : Src) : Option (Src)).bind fun s8 => some s8
set_option maxRecDepth 100000 in
theorem spec_l01From_ac (k : Nat) (p0 : List UInt8) (r : Src) (h : spec_l01From k p0 = some r) : AC Tryz.prog 57 [.d (.sl none (bysD p0))] [] (fun res H' => res = [.ptr 0 0] ∧ H' = [.box (srcD r)]) := by
 refine AC_of_body true Tryz.func57 rfl Tryz.ntmps57 (rvs := [.tmp 2]) rfl rfl (fun G hG => ?_)
 have hm : G.H.length = 0 := by rw [hG]; rfl
 have hz : zeroG G.H = true := by rw [hG]; rfl
 unfold spec_l01From at h
 refine kR ?_
 refine kN 1 rfl ?_
 refine kR ?_
 refine kM 2 rfl ?_
 refine AOps_q 7 _ rfl rfl rfl (QOp_len_sl _ _ _ _ _ _ _ (bysD_length _) rfl rfl rfl rfl Tryz.underlying22 rfl) ?_
 refine AOps_q 8 _ rfl rfl rfl (QOp_conv _ _ _ _ _ _ rfl rfl Tryz.underlying73 rfl) ?_
 refine AOps_q 9 _ rfl rfl rfl (QOp_add _ _ _ _ _ _ _ rfl rfl rfl) ?_
 refine AOps_q 10 _ rfl rfl rfl (QOp_build _ _ [_, _] [0, 2] [.sl none (bysD p0), .s (.int .u64 (IntKind.u64.wrap (13621 + (IntKind.u64.wrap (p0.length : Int)))))] _ [.sl (some true) [], iD 0, .s (.int .u64 0)] (srcD (⟨p0, 0, IntKind.u64.wrap (13621 + (IntKind.u64.wrap (p0.length : Int)))⟩ : Src)) [(0, 1), (1, 1), (2, 1)] rfl rfl Tryz.underlying117 (zero_of Tryz.typeInfo117 rfl) (fun w => by simp [Tryz.sizeOf22, Tryz.sizeOf3, Tryz.sizeOf73]) rfl (by rfl) (by rfl) (allc (ok1 rfl) (allc (ok1 rfl) (fun _ h => nomatch h)))) ?_
 refine AOps_boxM 11 _ _ (.agg (srcD (⟨p0, 0, IntKind.u64.wrap (13621 + (IntKind.u64.wrap (p0.length : Int)))⟩ : Src))) (srcD (⟨p0, 0, IntKind.u64.wrap (13621 + (IntKind.u64.wrap (p0.length : Int)))⟩ : Src)) rfl (srcD_one _) rfl rfl rfl rfl rfl ?_
 refine kN 1 rfl ?_
 refine kB (fun s8 => [(3, .ptr 0 0)]) (fun s8 => [.box (srcD s8)]) h (fun s8 h => ?_) (fun s8 h => ?_)
 ·refine kR ?_
  refine kN 1 rfl ?_
  refine ACode_block ?_
  refine ACode_loopW (fun k0 E H => ∃ (x1 : Int) (x2 : Src), E = [(0, .d (.sl none (bysD p0))), (3, .ptr 0 0), (4, iV x1)] ∧ H = [.box (srcD x2)] ∧ spec_l01From_l0 p0 k0 x1 x2 = some s8) k _ _ (Weak_keep 0 hm [0, 3, 4] [0] _ _ rfl rfl rfl) ⟨_, _, rfl, rfl, h⟩ ?_
  clear h
  rintro k0 E H ⟨x1, x2, rfl, rfl, h⟩
  cases k0 with
  | zero => cases (show (none : Option (Src)) = some _ from h)
  | succ k0 =>
   rw [spec_l01From_l0] at h
   refine kO (fun s6 => [(0, .d (.sl none (bysD p0))), (3, .ptr 0 0), (4, iV x1)]) (fun s6 => [.box (srcD x2)]) h (fun os6 h hks6 => ?_) (fun s6 h => ?_)
   ·refine kL (fun s4 => [(0, .d (.sl none (bysD p0))), (3, .ptr 0 0), (4, iV x1), (19, bV s4)]) (fun s4 => [.box (srcD x2)]) h (fun s4 h => ?_) (fun s4 h => ?_)
    ·refine (ACode_region ?_)
     refine kM 2 rfl ?_
     refine AOps_q 14 _ rfl rfl rfl (QOp_len_sl _ _ _ _ _ _ _ (bysD_length _) rfl rfl rfl rfl Tryz.underlying22 rfl) ?_
     refine AOps_q 15 _ rfl rfl rfl (QOp_lss _ _ _ _ _ _ _ rfl rfl rfl) ?_
     refine kM 1 rfl ?_
     refine AOps_case 16 _ rfl (fun hb3 => ?_) (fun hb3 => ?_)
     ·have h := iteT hb3 h
      refine kM 1 rfl ?_
      refine AOps_q 18 _ rfl rfl rfl (QOp_lss _ _ _ _ _ _ _ rfl rfl rfl) ?_
      refine kN 1 rfl ?_
      cases h
      exact Weak_keep 0 hm [0, 3, 4, 19] [0] _ _ rfl rfl rfl
     have h := iteF hb3 h
     refine AOps_skip 17 rfl rfl rfl ?_
     refine AOps_skip 18 rfl rfl rfl ?_
     refine kN 1 rfl ?_
     cases h
     exact Weak_keep 0 hm [0, 3, 4, 19] [0] _ _ rfl rfl rfl
    refine kI h rfl (fun h _ => ?_) (fun h _ => ?_)
    ·refine ACode_skip ?_
     cases h
     exact ⟨_, rfl, Weak_keep 0 hm [0, 3, 4] [0] _ _ rfl rfl rfl⟩
    refine ACode_exit ?_
    obtain ⟨rr, hz9, h2⟩ := bindO h
    obtain rfl := Option.some.inj h2
    obtain rfl := Option.some.inj (show some rr = some _ from hks6)
    have h := hz9
    cases h
    exact Weak_keep 0 hm [3] [0] _ _ rfl rfl rfl
   refine ACode_seq ?_
   refine ACode_block ?_
   refine (ACode_last (l := [_, _, _, _, _, _, _, _, _, _, _, _, _, _, _]) mixed (by kernel_rfl) (by kernel_rfl) ?_)
   refine kQ 2 rfl ?_
   refine AQ_q 24 _ rfl rfl rfl (QOp_nilCheck_ptr _ _ _ _ rfl rfl rfl rfl) ?_
   refine AQ_q 25 _ rfl rfl rfl (QOp_fieldAddr_ptr _ _ _ _ _ _ 2 _ _ rfl Tryz.underlying117 rfl _ Tryz.sizeOf73 rfl rfl rfl rfl) ?_
   refine AQ_q 26 _ rfl rfl rfl (QOp_load_ptr _ _ _ _ _ _ rfl Tryz.isAgg73 rfl rfl rfl) ?_
   refine AQ_q 27 _ rfl rfl rfl (QOp_mul _ _ _ _ _ _ _ rfl rfl rfl) ?_
   refine kQ 2 rfl ?_
   obtain ⟨hc7, h⟩ := guardO h
   refine AQ_q 30 _ rfl rfl rfl (QOp_indexAddr_sl _ _ _ _ _ _ _ _ rfl Tryz.underlying22 Tryz.sizeOf5 hc7.1 (by rw [bysD_length]; exact hc7.2) rfl rfl) ?_
   refine AQ_q 31 _ rfl rfl rfl (QOp_load_pv _ _ _ _ _ rfl Tryz.isAgg5 rfl (bysD_get _ _ 0 (by omega))) ?_
   refine AQ_q 32 _ rfl rfl rfl (QOp_fromByte _ _ _ _ _ rfl rfl Tryz.underlying73 wrap_u64_byte rfl) ?_
   refine AQ_q 33 _ rfl rfl rfl (QOp_add _ _ _ _ _ _ _ rfl rfl rfl) ?_
   refine AQ_q 34 _ rfl rfl rfl (QOp_add _ _ _ _ _ _ _ rfl rfl rfl) ?_
   refine AQ_q 35 _ rfl rfl rfl (QOp_nilCheck_ptr _ _ _ _ rfl rfl rfl rfl) ?_
   refine AQ_q 36 _ rfl rfl rfl (QOp_fieldAddr_ptr _ _ _ _ _ _ 2 _ _ rfl Tryz.underlying117 rfl _ Tryz.sizeOf73 rfl rfl rfl rfl) ?_
   refine AQ_nil ?_
   refine AOps_store1 _ _ _ _ _ _ (srcD (⟨x2.c, x2.i, IntKind.u64.wrap ((IntKind.u64.wrap ((IntKind.u64.wrap (x2.h * 1099511628211)) + ((p0.getD x1.toNat 0).toNat : Int))) + 193)⟩ : Src)) _ rfl rfl rfl rfl rfl rfl rfl Tryz.sizeOf73 (by rw [srcD_length]; decide) (srcD_set2 _ _) ?_
   refine AOps_nil ?_
   refine (ACode_region ?_)
   refine kM 1 rfl ?_
   refine AOps_q 21 _ rfl rfl rfl (QOp_add _ _ _ _ _ _ _ rfl rfl rfl) ?_
   refine kN 1 rfl ?_
   exact ⟨k0, _, _, Nat.lt_succ_self _, Weak_keep 0 hm [0, 3, 4] [0] _ _ rfl rfl rfl, _, _, rfl, rfl, h⟩
 refine kR ?_
 refine kN 2 rfl ?_
 refine ACode_ret ?_
 cases h
 exact ⟨_, _, Weak_reset 0 hm hz [2] _ _ rfl rfl, _, _, [0], _, (.cons (ResV_tmp _ _ rfl) .nil), rfl, rfl, rfl, rfl, rfl⟩

-- loop.example/g01362/spec.l01Next
def spec_l01Next (p0 : Src) (p1 : Int) : Option (Int × Src) :=
 (if decide (p1 < 1) then some (0, p0) else ((if decide ((⟨p0.c, p0.i, IntKind.u64.wrap ((IntKind.u64.wrap (p0.h * 6364136223846793005)) + 1442695040888963407)⟩ : Src).i < (((⟨p0.c, p0.i, IntKind.u64.wrap ((IntKind.u64.wrap (p0.h * 6364136223846793005)) + 1442695040888963407)⟩ : Src).c).length : Int)) then (if 0 ≤ (⟨p0.c, p0.i, IntKind.u64.wrap ((IntKind.u64.wrap (p0.h * 6364136223846793005)) + 1442695040888963407)⟩ : Src).i ∧ (⟨p0.c, p0.i, IntKind.u64.wrap ((IntKind.u64.wrap (p0.h * 6364136223846793005)) + 1442695040888963407)⟩ : Src).i < (((⟨p0.c, p0.i, IntKind.u64.wrap ((IntKind.u64.wrap (p0.h * 6364136223846793005)) + 1442695040888963407)⟩ : Src).c).length : Int) then some (w64 ((w64 (bAnd .u64 (bShr .u64 ((⟨p0.c, p0.i, IntKind.u64.wrap ((IntKind.u64.wrap (p0.h * 6364136223846793005)) + 1442695040888963407)⟩ : Src).h) 33) 16777215)) + ((((⟨p0.c, p0.i, IntKind.u64.wrap ((IntKind.u64.wrap (p0.h * 6364136223846793005)) + 1442695040888963407)⟩ : Src).c).getD ((⟨p0.c, p0.i, IntKind.u64.wrap ((IntKind.u64.wrap (p0.h * 6364136223846793005)) + 1442695040888963407)⟩ : Src).i).toNat 0).toNat : Int)), (⟨(⟨p0.c, p0.i, IntKind.u64.wrap ((IntKind.u64.wrap (p0.h * 6364136223846793005)) + 1442695040888963407)⟩ : Src).c, w64 (((⟨p0.c, p0.i, IntKind.u64.wrap ((IntKind.u64.wrap (p0.h * 6364136223846793005)) + 1442695040888963407)⟩ : Src).i) + 1), (⟨p0.c, p0.i, IntKind.u64.wrap ((IntKind.u64.wrap (p0.h * 6364136223846793005)) + 1442695040888963407)⟩ : Src).h⟩ : Src)) else none) else some (w64 (bAnd .u64 (bShr .u64 ((⟨p0.c, p0.i, IntKind.u64.wrap ((IntKind.u64.wrap (p0.h * 6364136223846793005)) + 1442695040888963407)⟩ : Src).h) 33) 16777215), (⟨p0.c, p0.i, IntKind.u64.wrap ((IntKind.u64.wrap (p0.h * 6364136223846793005)) + 1442695040888963407)⟩ : Src))) : Option (Int × Src)).bind fun s4 => (if p1 ≠ 0 then some (s4.1.tmod p1, s4.2) else none))
set_option maxRecDepth 100000 in
theorem spec_l01Next_ac (p0 : Src) (p1 : Int) (r : Int × Src) (h : spec_l01Next p0 p1 = some r) : AC Tryz.prog 58 [.ptr 0 0, iV p1] [.box (srcD p0)] (fun res H' => res = [iV r.1] ∧ H' = [.box (srcD r.2)]) := by
 refine AC_of_body true Tryz.func58 rfl Tryz.ntmps58 (rvs := [.tmp 4]) rfl rfl (fun G hG => ?_)
 have hm : G.H.length = 1 := by rw [hG]; rfl
 have hz : zeroG G.H = true := by rw [hG]; rfl
 unfold spec_l01Next at h
 refine kR ?_
 refine kN 1 rfl ?_
 refine ACode_seq ?_
 refine kR ?_
 refine kM 1 rfl ?_
 refine AOps_q 7 _ rfl rfl rfl (QOp_lss _ _ _ _ _ _ _ rfl rfl rfl) ?_
 refine AOps_nil ?_
 refine kI h rfl (fun h _ => ?_) (fun h _ => ?_)
 ·refine kR ?_
  refine kN 1 rfl ?_
  refine ACode_ret ?_
  cases h
  exact ⟨_, _, fun r a w h => ⟨r, h⟩, _, _, [], _, (.cons (ResV_tmp _ _ rfl) .nil), rfl, rfl, rfl, rfl, rfl⟩
 refine ACode_skip ?_
 refine kR ?_
 refine kM 2 rfl ?_
 refine AOps_q 10 _ rfl rfl rfl (QOp_nilCheck_ptr _ _ _ _ rfl rfl rfl rfl) ?_
 refine AOps_q 11 _ rfl rfl rfl (QOp_fieldAddr_ptr _ _ _ _ _ _ 2 _ _ rfl Tryz.underlying117 rfl _ Tryz.sizeOf73 rfl rfl rfl rfl) ?_
 refine AOps_q 12 _ rfl rfl rfl (QOp_load_ptr _ _ _ _ _ _ rfl Tryz.isAgg73 rfl rfl rfl) ?_
 refine AOps_q 13 _ rfl rfl rfl (QOp_mul _ _ _ _ _ _ _ rfl rfl rfl) ?_
 refine AOps_q 14 _ rfl rfl rfl (QOp_add _ _ _ _ _ _ _ rfl rfl rfl) ?_
 refine AOps_q 15 _ rfl rfl rfl (QOp_nilCheck_ptr _ _ _ _ rfl rfl rfl rfl) ?_
 refine AOps_q 16 _ rfl rfl rfl (QOp_fieldAddr_ptr _ _ _ _ _ _ 2 _ _ rfl Tryz.underlying117 rfl _ Tryz.sizeOf73 rfl rfl rfl rfl) ?_
 refine AOps_store1 _ _ _ _ _ _ (srcD (⟨p0.c, p0.i, IntKind.u64.wrap ((IntKind.u64.wrap (p0.h * 6364136223846793005)) + 1442695040888963407)⟩ : Src)) _ rfl rfl rfl rfl rfl rfl rfl Tryz.sizeOf73 (by rw [srcD_length]; decide) (srcD_set2 _ _) ?_
 refine AOps_nil ?_
 refine kR ?_
 refine kM 1 rfl ?_
 refine AOps_q 18 _ rfl rfl rfl (QOp_nilCheck_ptr _ _ _ _ rfl rfl rfl rfl) ?_
 refine AOps_q 19 _ rfl rfl rfl (QOp_fieldAddr_ptr _ _ _ _ _ _ 2 _ _ rfl Tryz.underlying117 rfl _ Tryz.sizeOf73 rfl rfl rfl rfl) ?_
 refine AOps_q 20 _ rfl rfl rfl (QOp_load_ptr _ _ _ _ _ _ rfl Tryz.isAgg73 rfl rfl rfl) ?_
 refine AOps_q 21 _ rfl rfl rfl (QOp_shr _ _ _ _ _ _ _ _ (by decide) rfl rfl rfl) ?_
 refine AOps_q 22 _ rfl rfl rfl (QOp_and _ _ _ _ _ _ _ rfl rfl rfl) ?_
 refine AOps_q 23 _ rfl rfl rfl (QOp_conv _ _ _ _ _ _ rfl rfl Tryz.underlying2 rfl) ?_
 refine kN 1 rfl ?_
 refine kB (fun s4 => [(1, iV p1), (5, iV s4.1)]) (fun s4 => [.box (srcD s4.2)]) h (fun s4 h => ?_) (fun s4 h => ?_)
 ·refine ACode_seq (ACode_quiet mixed (by kernel_rfl) ?_)
  refine kQ 1 rfl ?_
  refine AQ_q 25 _ rfl rfl rfl (QOp_nilCheck_ptr _ _ _ _ rfl rfl rfl rfl) ?_
  refine AQ_q 26 _ rfl rfl rfl (QOp_fieldAddr_ptr _ _ _ _ _ _ 1 _ _ rfl Tryz.underlying117 rfl _ Tryz.sizeOf3 rfl rfl rfl rfl) ?_
  refine AQ_q 27 _ rfl rfl rfl (QOp_load_ptr _ _ _ _ _ _ rfl Tryz.isAgg3 rfl rfl rfl) ?_
  refine kQ 1 rfl ?_
  refine AQ_q 29 _ rfl rfl rfl (QOp_nilCheck_ptr _ _ _ _ rfl rfl rfl rfl) ?_
  refine AQ_q 30 _ rfl rfl rfl (QOp_fieldAddr_ptr _ _ _ _ _ _ 0 _ _ rfl Tryz.underlying117 rfl _ Tryz.sizeOf22 rfl rfl rfl rfl) ?_
  refine AQ_q 31 _ rfl rfl rfl (QOp_load_ptr _ _ _ _ _ _ rfl Tryz.isAgg22 rfl rfl rfl) ?_
  refine AQ_q 32 _ rfl rfl rfl (QOp_len_sl _ _ _ _ _ _ _ (bysD_length _) rfl rfl rfl rfl Tryz.underlying22 rfl) ?_
  refine AQ_q 33 _ rfl rfl rfl (QOp_lss _ _ _ _ _ _ _ rfl rfl rfl) ?_
  refine AQ_nil ?_
  refine kI h rfl (fun h _ => ?_) (fun h _ => ?_)
  ·refine ACode_seq (ACode_quiet mixed (by kernel_rfl) ?_)
   refine kQ 2 rfl ?_
   refine AQ_q 36 _ rfl rfl rfl (QOp_nilCheck_ptr _ _ _ _ rfl rfl rfl rfl) ?_
   refine AQ_q 37 _ rfl rfl rfl (QOp_fieldAddr_ptr _ _ _ _ _ _ 0 _ _ rfl Tryz.underlying117 rfl _ Tryz.sizeOf22 rfl rfl rfl rfl) ?_
   refine AQ_q 38 _ rfl rfl rfl (QOp_load_ptr _ _ _ _ _ _ rfl Tryz.isAgg22 rfl rfl rfl) ?_
   refine kQ 1 rfl ?_
   refine AQ_q 40 _ rfl rfl rfl (QOp_nilCheck_ptr _ _ _ _ rfl rfl rfl rfl) ?_
   refine AQ_q 41 _ rfl rfl rfl (QOp_fieldAddr_ptr _ _ _ _ _ _ 1 _ _ rfl Tryz.underlying117 rfl _ Tryz.sizeOf3 rfl rfl rfl rfl) ?_
   refine AQ_q 42 _ rfl rfl rfl (QOp_load_ptr _ _ _ _ _ _ rfl Tryz.isAgg3 rfl rfl rfl) ?_
   obtain ⟨hc3, h⟩ := guardO h
   refine AQ_q 43 _ rfl rfl rfl (QOp_indexAddr_sl _ _ _ _ _ _ _ _ rfl Tryz.underlying22 Tryz.sizeOf5 hc3.1 (by rw [bysD_length]; exact hc3.2) rfl rfl) ?_
   refine AQ_q 44 _ rfl rfl rfl (QOp_load_pv _ _ _ _ _ rfl Tryz.isAgg5 rfl (bysD_get _ _ 0 (by omega))) ?_
   refine AQ_q 45 _ rfl rfl rfl (QOp_fromByte _ _ _ _ _ rfl rfl Tryz.underlying2 wrap_i64_byte rfl) ?_
   refine AQ_q 46 _ rfl rfl rfl (QOp_add _ _ _ _ _ _ _ rfl rfl rfl) ?_
   refine kQ 1 rfl ?_
   refine AQ_nil ?_
   refine (ACode_region ?_)
   refine kM 2 rfl ?_
   refine AOps_q 49 _ rfl rfl rfl (QOp_nilCheck_ptr _ _ _ _ rfl rfl rfl rfl) ?_
   refine AOps_q 50 _ rfl rfl rfl (QOp_fieldAddr_ptr _ _ _ _ _ _ 1 _ _ rfl Tryz.underlying117 rfl _ Tryz.sizeOf3 rfl rfl rfl rfl) ?_
   refine AOps_q 51 _ rfl rfl rfl (QOp_load_ptr _ _ _ _ _ _ rfl Tryz.isAgg3 rfl rfl rfl) ?_
   refine AOps_q 52 _ rfl rfl rfl (QOp_add _ _ _ _ _ _ _ rfl rfl rfl) ?_
   refine AOps_q 53 _ rfl rfl rfl (QOp_nilCheck_ptr _ _ _ _ rfl rfl rfl rfl) ?_
   refine AOps_q 54 _ rfl rfl rfl (QOp_fieldAddr_ptr _ _ _ _ _ _ 1 _ _ rfl Tryz.underlying117 rfl _ Tryz.sizeOf3 rfl rfl rfl rfl) ?_
   refine AOps_store1 _ _ _ _ _ _ (srcD (⟨(⟨p0.c, p0.i, IntKind.u64.wrap ((IntKind.u64.wrap (p0.h * 6364136223846793005)) + 1442695040888963407)⟩ : Src).c, w64 (((⟨p0.c, p0.i, IntKind.u64.wrap ((IntKind.u64.wrap (p0.h * 6364136223846793005)) + 1442695040888963407)⟩ : Src).i) + 1), (⟨p0.c, p0.i, IntKind.u64.wrap ((IntKind.u64.wrap (p0.h * 6364136223846793005)) + 1442695040888963407)⟩ : Src).h⟩ : Src)) _ rfl rfl rfl rfl rfl rfl rfl Tryz.sizeOf3 (by rw [srcD_length]; decide) (srcD_set1 _ _) ?_
   refine AOps_nil ?_
   cases h
   exact Weak_keep 1 hm [1, 5] [] _ _ rfl rfl rfl
  refine ACode_skip ?_
  cases h
  exact Weak_keep 1 hm [1, 5] [] _ _ rfl rfl rfl
 refine kR ?_
 refine kM 2 rfl ?_
 obtain ⟨hc5, h⟩ := guardO h
 refine AOps_q 57 _ rfl rfl rfl (QOp_rem _ _ _ _ _ _ _ hc5 rfl rfl rfl) ?_
 refine kN 1 rfl ?_
 refine ACode_ret ?_
 cases h
 exact ⟨_, _, fun r a w h => ⟨r, h⟩, _, _, [], _, (.cons (ResV_tmp _ _ rfl) .nil), rfl, rfl, rfl, rfl, rfl⟩

-- loop.example/g01362/spec.l01Pick
def spec_l01Pick (p0 : Src) (p1 : List Int) : Option (Int × Src) :=
 (spec_l01Next p0 (p1.length : Int)).bind fun r1 => (if 0 ≤ r1.1 ∧ r1.1 < (p1.length : Int) then some ((p1.getD r1.1.toNat 0), r1.2) else none)
set_option maxRecDepth 100000 in
theorem spec_l01Pick_ac (p0 : Src) (p1 : List Int) (r : Int × Src) (h : spec_l01Pick p0 p1 = some r) : AC Tryz.prog 62 [.ptr 0 0, .d (.sl none (intsD p1))] [.box (srcD p0)] (fun res H' => res = [iV r.1] ∧ H' = [.box (srcD r.2)]) := by
 refine AC_of_body true Tryz.func62 rfl Tryz.ntmps62 (rvs := [.tmp 4]) rfl rfl (fun G hG => ?_)
 have hm : G.H.length = 1 := by rw [hG]; rfl
 have hz : zeroG G.H = true := by rw [hG]; rfl
 unfold spec_l01Pick at h
 refine kR ?_
 refine kN 1 rfl ?_
 refine kR ?_
 refine kM 3 rfl ?_
 refine AOps_q 8 _ rfl rfl rfl (QOp_len_sl _ _ _ _ _ _ _ (intsD_length _) rfl rfl rfl rfl Tryz.underlying27 rfl) ?_
 obtain ⟨r1, hr1, h⟩ := bindO h
 refine kC [0] 9 (iV r1.1) [.box (srcD r1.2)] rfl Tryz.call58 rfl rfl (spec_l01Next_ac p0 (p1.length : Int) _ hr1) rfl ?_
 obtain ⟨hc2, h⟩ := guardO h
 refine AOps_q 10 _ rfl rfl rfl (QOp_indexAddr_sl _ _ _ _ _ _ _ _ rfl Tryz.underlying27 Tryz.sizeOf2 hc2.1 (by rw [intsD_length]; exact hc2.2) rfl rfl) ?_
 refine AOps_q 11 _ rfl rfl rfl (QOp_load_pv _ _ _ _ _ rfl Tryz.isAgg2 rfl (intsD_get _ _ 0 (by omega))) ?_
 refine kN 1 rfl ?_
 refine ACode_ret ?_
 cases h
 exact ⟨_, _, fun r a w h => ⟨r, h⟩, _, _, [], _, (.cons (ResV_tmp _ _ rfl) .nil), rfl, rfl, rfl, rfl, rfl⟩

-- loop.example/g01362/spec.l09Counts
def spec_l09Counts_l0 (p0 : List Int) : Nat → Int → Int → Int → Option (Int × Int)
 | 0, _, _, _ => none
 | k0 + 1, x1, x2, x3 => (if decide (x3 < (p0.length : Int)) then (((if 0 ≤ x3 ∧ x3 < (p0.length : Int) then (if decide ((p0.getD x3.toNat 0) = 0) then some (w64 (x1 + 1)) else some x1) else none) : Option (Int)).bind fun s7 => (if 0 ≤ x3 ∧ x3 < (p0.length : Int) then (if decide ((p0.getD x3.toNat 0) = 1) then some (s7, w64 (x2 + 1)) else some (s7, x2)) else none) : Option (Int × Int)).bind fun s10 => spec_l09Counts_l0 p0 k0 s10.1 s10.2 (w64 (x3 + 1)) else some (x1, x2))
def spec_l09Counts (k : Nat) (p0 : List Int) : Option (Int × Int) :=
 (spec_l09Counts_l0 p0 k 0 0 0 : Option (Int × Int)).bind fun s11 => some (s11.1, s11.2)
set_option maxRecDepth 100000 in
theorem spec_l09Counts_ac (k : Nat) (p0 : List Int) (r : Int × Int) (h : spec_l09Counts k p0 = some r) : AC Tryz.prog 183 [.d (.sl none (intsD p0))] [] (fun res H' => res = [iV r.1, iV r.2] ∧ H' = []) := by
 refine AC_of_body true Tryz.func183 rfl Tryz.ntmps183 (rvs := [.tmp 2, .tmp 3]) rfl rfl (fun G hG => ?_)
 have hm : G.H.length = 0 := by rw [hG]; rfl
 have hz : zeroG G.H = true := by rw [hG]; rfl
 unfold spec_l09Counts at h
 refine kR ?_
 refine kN 2 rfl ?_
 refine kR ?_
 refine kN 2 rfl ?_
 refine kB (fun s11 => [(4, iV s11.1), (5, iV s11.2)]) (fun s11 => []) h (fun s11 h => ?_) (fun s11 h => ?_)
 ·refine kR ?_
  refine kN 1 rfl ?_
  refine ACode_block ?_
  refine ACode_loopW (fun k0 E H => ∃ (x1 : Int) (x2 : Int) (x3 : Int), E = [(0, .d (.sl none (intsD p0))), (4, iV x1), (5, iV x2), (6, iV x3)] ∧ H = [] ∧ spec_l09Counts_l0 p0 k0 x1 x2 x3 = some s11) k _ _ (Weak_keep 0 hm [0, 4, 5, 6] [] _ _ rfl rfl rfl) ⟨_, _, _, rfl, rfl, h⟩ ?_
  clear h
  rintro k0 E H ⟨x1, x2, x3, rfl, rfl, h⟩
  cases k0 with
  | zero => cases (show (none : Option (Int × Int)) = some _ from h)
  | succ k0 =>
   rw [spec_l09Counts_l0] at h
   refine ACode_seq ?_
   refine kR ?_
   refine kM 2 rfl ?_
   refine AOps_q 9 _ rfl rfl rfl (QOp_len_sl _ _ _ _ _ _ _ (intsD_length _) rfl rfl rfl rfl Tryz.underlying27 rfl) ?_
   refine AOps_q 10 _ rfl rfl rfl (QOp_lss _ _ _ _ _ _ _ rfl rfl rfl) ?_
   refine AOps_nil ?_
   refine kI h rfl (fun h _ => ?_) (fun h _ => ?_)
   ·refine ACode_skip ?_
    refine kB (fun s10 => [(0, .d (.sl none (intsD p0))), (4, iV s10.1), (5, iV s10.2), (6, iV x3)]) (fun s10 => []) h (fun s10 h => ?_) (fun s10 h => ?_)
    ·refine ACode_block ?_
     refine kB (fun s7 => [(0, .d (.sl none (intsD p0))), (4, iV s7), (5, iV x2), (6, iV x3)]) (fun s7 => []) h (fun s7 h => ?_) (fun s7 h => ?_)
     ·refine kR ?_
      refine kM 2 rfl ?_
      obtain ⟨hc5, h⟩ := guardO h
      refine AOps_q 15 _ rfl rfl rfl (QOp_indexAddr_sl _ _ _ _ _ _ _ _ rfl Tryz.underlying27 Tryz.sizeOf2 hc5.1 (by rw [intsD_length]; exact hc5.2) rfl rfl) ?_
      refine AOps_q 16 _ rfl rfl rfl (QOp_load_pv _ _ _ _ _ rfl Tryz.isAgg2 rfl (intsD_get _ _ 0 (by omega))) ?_
      refine AOps_q 17 _ rfl rfl rfl (QOp_eql _ _ _ _ _ _ _ rfl rfl rfl) ?_
      refine AOps_nil ?_
      refine kI h rfl (fun h _ => ?_) (fun h _ => ?_)
      ·refine (ACode_region ?_)
       refine kM 1 rfl ?_
       refine AOps_q 19 _ rfl rfl rfl (QOp_add _ _ _ _ _ _ _ rfl rfl rfl) ?_
       refine kN 1 rfl ?_
       cases h
       exact Weak_keep 0 hm [0, 4, 5, 6] [] _ _ rfl rfl rfl
      refine ACode_skip ?_
      cases h
      exact Weak_keep 0 hm [0, 4, 5, 6] [] _ _ rfl rfl rfl
     refine kR ?_
     refine kM 2 rfl ?_
     obtain ⟨hc8, h⟩ := guardO h
     refine AOps_q 22 _ rfl rfl rfl (QOp_indexAddr_sl _ _ _ _ _ _ _ _ rfl Tryz.underlying27 Tryz.sizeOf2 hc8.1 (by rw [intsD_length]; exact hc8.2) rfl rfl) ?_
     refine AOps_q 23 _ rfl rfl rfl (QOp_load_pv _ _ _ _ _ rfl Tryz.isAgg2 rfl (intsD_get _ _ 0 (by omega))) ?_
     refine AOps_q 24 _ rfl rfl rfl (QOp_eql _ _ _ _ _ _ _ rfl rfl rfl) ?_
     refine AOps_nil ?_
     refine kI h rfl (fun h _ => ?_) (fun h _ => ?_)
     ·refine (ACode_region ?_)
      refine kM 1 rfl ?_
      refine AOps_q 26 _ rfl rfl rfl (QOp_add _ _ _ _ _ _ _ rfl rfl rfl) ?_
      refine kN 1 rfl ?_
      cases h
      exact Weak_keep 0 hm [0, 4, 5, 6] [] _ _ rfl rfl rfl
     refine ACode_skip ?_
     cases h
     exact Weak_keep 0 hm [0, 4, 5, 6] [] _ _ rfl rfl rfl
    refine (ACode_region ?_)
    refine kM 1 rfl ?_
    refine AOps_q 12 _ rfl rfl rfl (QOp_add _ _ _ _ _ _ _ rfl rfl rfl) ?_
    refine kN 1 rfl ?_
    exact ⟨k0, _, _, Nat.lt_succ_self _, Weak_keep 0 hm [0, 4, 5, 6] [] _ _ rfl rfl rfl, _, _, _, rfl, rfl, h⟩
   refine ACode_exit ?_
   cases h
   exact Weak_keep 0 hm [4, 5] [] _ _ rfl rfl rfl
 refine kR ?_
 refine kN 4 rfl ?_
 refine ACode_ret ?_
 cases h
 exact ⟨_, _, fun r a w h => ⟨r, h⟩, _, _, [], _, (.cons (ResV_tmp _ _ rfl) (.cons (ResV_tmp _ _ rfl) .nil)), rfl, rfl, rfl, rfl, rfl⟩

-- loop.example/g01362/spec.l09Mover
def spec_l09Mover (k : Nat) (p0 : List Int) : Option (Int) :=
 (spec_l09Counts k p0).bind fun r1 => some (w64 (r1.1 - r1.2))
set_option maxRecDepth 100000 in
theorem spec_l09Mover_ac (k : Nat) (p0 : List Int) (r : Int) (h : spec_l09Mover k p0 = some r) : AC Tryz.prog 154 [.d (.sl none (intsD p0))] [] (fun res H' => res = [iV r] ∧ H' = []) := by
 refine AC_of_body true Tryz.func154 rfl Tryz.ntmps154 (rvs := [.tmp 2]) rfl rfl (fun G hG => ?_)
 have hm : G.H.length = 0 := by rw [hG]; rfl
 have hz : zeroG G.H = true := by rw [hG]; rfl
 unfold spec_l09Mover at h
 refine kR ?_
 refine kN 1 rfl ?_
 refine kR ?_
 refine kM 1 rfl ?_
 obtain ⟨r1, hr1, h⟩ := bindO h
 refine kC [] 7 (.tup [iV r1.1, iV r1.2]) [] rfl Tryz.call183 rfl rfl (spec_l09Counts_ac k p0 _ hr1) rfl ?_
 refine kN 5 rfl ?_
 refine kR ?_
 refine kM 2 rfl ?_
 refine AOps_q 12 _ rfl rfl rfl (QOp_sub _ _ _ _ _ _ _ rfl rfl rfl) ?_
 refine kN 1 rfl ?_
 refine ACode_ret ?_
 cases h
 exact ⟨_, _, fun r a w h => ⟨r, h⟩, _, _, [], _, (.cons (ResV_tmp _ _ rfl) .nil), rfl, rfl, rfl, rfl, rfl⟩

-- loop.example/g01362/spec.l01Edge
def spec_l01Edge (p0 : Int) (p1 : Int) : Int :=
 (if decide (p1 < p0) then w64 ((w64 ((w64 (p0 * (w64 (p0 - 1)))).tdiv 2)) + p1) else w64 ((w64 ((w64 (p1 * (w64 (p1 - 1)))).tdiv 2)) + p0))
set_option maxRecDepth 100000 in
theorem spec_l01Edge_ac (p0 : Int) (p1 : Int) : AC Tryz.prog 79 [iV p0, iV p1] [] (fun res H' => res = [iV (spec_l01Edge p0 p1)] ∧ H' = []) := by
 refine AC_of_body true Tryz.func79 rfl Tryz.ntmps79 (rvs := [.tmp 4]) rfl rfl (fun G hG => ?_)
 have hm : G.H.length = 0 := by rw [hG]; rfl
 have hz : zeroG G.H = true := by rw [hG]; rfl
 obtain ⟨r, h⟩ : ∃ r, spec_l01Edge p0 p1 = r := ⟨_, rfl⟩
 rw [h]
 unfold spec_l01Edge at h
 refine kR ?_
 refine kN 1 rfl ?_
 refine ACode_seq ?_
 refine kR ?_
 refine kM 2 rfl ?_
 refine AOps_q 7 _ rfl rfl rfl (QOp_gtr _ _ _ _ _ _ _ rfl rfl rfl) ?_
 refine AOps_nil ?_
 refine kI h rfl (fun h _ => ?_) (fun h _ => ?_)
 ·refine kR ?_
  refine kM 2 rfl ?_
  refine AOps_q 10 _ rfl rfl rfl (QOp_sub _ _ _ _ _ _ _ rfl rfl rfl) ?_
  refine AOps_q 11 _ rfl rfl rfl (QOp_mul _ _ _ _ _ _ _ rfl rfl rfl) ?_
  refine AOps_q 12 _ rfl rfl rfl (QOp_quo _ _ _ _ _ _ _ (by decide) rfl rfl rfl) ?_
  refine kM 1 rfl ?_
  refine AOps_q 14 _ rfl rfl rfl (QOp_add _ _ _ _ _ _ _ rfl rfl rfl) ?_
  refine kN 1 rfl ?_
  refine ACode_ret ?_
  cases h
  exact ⟨_, _, fun r a w h => ⟨r, h⟩, _, _, [], _, (.cons (ResV_tmp _ _ rfl) .nil), rfl, rfl, rfl, rfl, rfl⟩
 refine ACode_skip ?_
 refine kR ?_
 refine kM 2 rfl ?_
 refine AOps_q 17 _ rfl rfl rfl (QOp_sub _ _ _ _ _ _ _ rfl rfl rfl) ?_
 refine AOps_q 18 _ rfl rfl rfl (QOp_mul _ _ _ _ _ _ _ rfl rfl rfl) ?_
 refine AOps_q 19 _ rfl rfl rfl (QOp_quo _ _ _ _ _ _ _ (by decide) rfl rfl rfl) ?_
 refine kM 1 rfl ?_
 refine AOps_q 21 _ rfl rfl rfl (QOp_add _ _ _ _ _ _ _ rfl rfl rfl) ?_
 refine kN 1 rfl ?_
 refine ACode_ret ?_
 cases h
 exact ⟨_, _, fun r a w h => ⟨r, h⟩, _, _, [], _, (.cons (ResV_tmp _ _ rfl) .nil), rfl, rfl, rfl, rfl, rfl⟩

-- loop.example/g01362/spec.l09Common
def spec_l09Common_l2 (p1 : List Int) (p2 : Int) (x4 : Int) (x8 : Int) : Nat → Int → Int → Int → Option (Int × Int)
 | 0, _, _, _ => none
 | k2 + 1, x10, x11, x12 => (if decide (x12 < x8) then (((if 0 ≤ (spec_l01Edge x12 x8) ∧ (spec_l01Edge x12 x8) < (p1.length : Int) then (if decide ((p1.getD (spec_l01Edge x12 x8).toNat 0) = p2) then (if 0 ≤ (spec_l01Edge x12 x4) ∧ (spec_l01Edge x12 x4) < (p1.length : Int) then (if decide ((p1.getD (spec_l01Edge x12 x4).toNat 0) = p2) then (if 0 ≤ (spec_l01Edge x8 x4) ∧ (spec_l01Edge x8 x4) < (p1.length : Int) then some (decide ((p1.getD (spec_l01Edge x8 x4).toNat 0) = p2)) else none) else some false) else none) else some false) else none) : Option (Bool)).bind fun s22 => (if s22 then (if 0 ≤ IntKind.u64.wrap (spec_l01Edge x12 x8) then (if 0 ≤ IntKind.u64.wrap (spec_l01Edge x12 x4) then (if 0 ≤ IntKind.u64.wrap (spec_l01Edge x8 x4) then some (bAnd .i64 x10 (bOr .i64 (bOr .i64 (bShl .i64 1 (IntKind.u64.wrap (spec_l01Edge x12 x8))) (bShl .i64 1 (IntKind.u64.wrap (spec_l01Edge x12 x4)))) (bShl .i64 1 (IntKind.u64.wrap (spec_l01Edge x8 x4)))), w64 (x11 + 1)) else none) else none) else none) else some (x10, x11)) : Option (Int × Int)).bind fun s27 => spec_l09Common_l2 p1 p2 x4 x8 k2 s27.1 s27.2 (w64 (x12 + 1)) else some (x10, x11))
def spec_l09Common_l1 (k : Nat) (p1 : List Int) (p2 : Int) (x4 : Int) : Nat → Int → Int → Int → Option (Int × Int)
 | 0, _, _, _ => none
 | k1 + 1, x6, x7, x8 => (if decide (x8 < x4) then (spec_l09Common_l2 p1 p2 x4 x8 k x6 x7 0 : Option (Int × Int)).bind fun s28 => spec_l09Common_l1 k p1 p2 x4 k1 s28.1 s28.2 (w64 (x8 + 1)) else some (x6, x7))
def spec_l09Common_l0 (k : Nat) (p0 : Int) (p1 : List Int) (p2 : Int) : Nat → Int → Int → Int → Option (Int × Int)
 | 0, _, _, _ => none
 | k0 + 1, x2, x3, x4 => (if decide (x4 < p0) then (spec_l09Common_l1 k p1 p2 x4 k x2 x3 1 : Option (Int × Int)).bind fun s29 => spec_l09Common_l0 k p0 p1 p2 k0 s29.1 s29.2 (w64 (x4 + 1)) else some (x2, x3))
def spec_l09Common (k : Nat) (p0 : Int) (p1 : List Int) (p2 : Int) : Option (Int × Int) :=
 (if 0 ≤ IntKind.u64.wrap (p1.length : Int) then (spec_l09Common_l0 k p0 p1 p2 k (w64 ((bShl .i64 1 (IntKind.u64.wrap (p1.length : Int))) - 1)) 0 2 : Option (Int × Int)).bind fun s30 => some (s30.1, s30.2) else none)
set_option maxRecDepth 100000 in
theorem spec_l09Common_ac (k : Nat) (p0 : Int) (p1 : List Int) (p2 : Int) (r : Int × Int) (h : spec_l09Common k p0 p1 p2 = some r) : AC Tryz.prog 160 [iV p0, .d (.sl none (intsD p1)), iV p2] [] (fun res H' => res = [iV r.1, iV r.2] ∧ H' = []) := by
 refine AC_of_body true Tryz.func160 rfl Tryz.ntmps160 (rvs := [.tmp 6, .tmp 7]) rfl rfl (fun G hG => ?_)
 have hm : G.H.length = 0 := by rw [hG]; rfl
 have hz : zeroG G.H = true := by rw [hG]; rfl
 unfold spec_l09Common at h
 refine kR ?_
 refine kN 2 rfl ?_
 refine kR ?_
 refine kM 1 rfl ?_
 refine AOps_q 17 _ rfl rfl rfl (QOp_len_sl _ _ _ _ _ _ _ (intsD_length _) rfl rfl rfl rfl Tryz.underlying27 rfl) ?_
 refine AOps_q 18 _ rfl rfl rfl (QOp_conv _ _ _ _ _ _ rfl rfl Tryz.underlying73 rfl) ?_
 obtain ⟨hc1, h⟩ := guardO h
 refine AOps_q 19 _ rfl rfl rfl (QOp_shl _ _ _ _ _ _ _ _ hc1 rfl rfl rfl) ?_
 refine AOps_q 20 _ rfl rfl rfl (QOp_sub _ _ _ _ _ _ _ rfl rfl rfl) ?_
 refine kN 2 rfl ?_
 refine kB (fun s30 => [(8, iV s30.1), (9, iV s30.2)]) (fun s30 => []) h (fun s30 h => ?_) (fun s30 h => ?_)
 ·refine kR ?_
  refine kN 1 rfl ?_
  refine ACode_block ?_
  refine ACode_loopW (fun k0 E H => ∃ (x2 : Int) (x3 : Int) (x4 : Int), E = [(0, iV p0), (1, .d (.sl none (intsD p1))), (2, iV p2), (8, iV x2), (9, iV x3), (10, iV x4)] ∧ H = [] ∧ spec_l09Common_l0 k p0 p1 p2 k0 x2 x3 x4 = some s30) k _ _ (Weak_keep 0 hm [0, 1, 2, 8, 9, 10] [] _ _ rfl rfl rfl) ⟨_, _, _, rfl, rfl, h⟩ ?_
  clear h
  rintro k0 E H ⟨x2, x3, x4, rfl, rfl, h⟩
  cases k0 with
  | zero => cases (show (none : Option (Int × Int)) = some _ from h)
  | succ k0 =>
   rw [spec_l09Common_l0] at h
   refine ACode_seq ?_
   refine kR ?_
   refine kM 2 rfl ?_
   refine AOps_q 23 _ rfl rfl rfl (QOp_lss _ _ _ _ _ _ _ rfl rfl rfl) ?_
   refine AOps_nil ?_
   refine kI h rfl (fun h _ => ?_) (fun h _ => ?_)
   ·refine ACode_skip ?_
    refine kB (fun s29 => [(0, iV p0), (1, .d (.sl none (intsD p1))), (2, iV p2), (8, iV s29.1), (9, iV s29.2), (10, iV x4)]) (fun s29 => []) h (fun s29 h => ?_) (fun s29 h => ?_)
    ·refine ACode_block ?_
     refine kR ?_
     refine kN 1 rfl ?_
     refine ACode_block ?_
     refine ACode_loopW (fun k1 E H => ∃ (x6 : Int) (x7 : Int) (x8 : Int), E = [(0, iV p0), (1, .d (.sl none (intsD p1))), (2, iV p2), (8, iV x6), (9, iV x7), (10, iV x4), (11, iV x8)] ∧ H = [] ∧ spec_l09Common_l1 k p1 p2 x4 k1 x6 x7 x8 = some s29) k _ _ (Weak_keep 0 hm [0, 1, 2, 8, 9, 10, 11] [] _ _ rfl rfl rfl) ⟨_, _, _, rfl, rfl, h⟩ ?_
     clear h
     rintro k1 E H ⟨x6, x7, x8, rfl, rfl, h⟩
     cases k1 with
     | zero => cases (show (none : Option (Int × Int)) = some _ from h)
     | succ k1 =>
      rw [spec_l09Common_l1] at h
      refine ACode_seq ?_
      refine kR ?_
      refine kM 2 rfl ?_
      refine AOps_q 28 _ rfl rfl rfl (QOp_lss _ _ _ _ _ _ _ rfl rfl rfl) ?_
      refine AOps_nil ?_
      refine kI h rfl (fun h _ => ?_) (fun h _ => ?_)
      ·refine ACode_skip ?_
       refine kB (fun s28 => [(0, iV p0), (1, .d (.sl none (intsD p1))), (2, iV p2), (8, iV s28.1), (9, iV s28.2), (10, iV x4), (11, iV x8)]) (fun s28 => []) h (fun s28 h => ?_) (fun s28 h => ?_)
       ·refine ACode_block ?_
        refine kR ?_
        refine kN 1 rfl ?_
        refine ACode_block ?_
        refine ACode_loopW (fun k2 E H => ∃ (x10 : Int) (x11 : Int) (x12 : Int), E = [(0, iV p0), (1, .d (.sl none (intsD p1))), (2, iV p2), (8, iV x10), (9, iV x11), (10, iV x4), (11, iV x8), (12, iV x12)] ∧ H = [] ∧ spec_l09Common_l2 p1 p2 x4 x8 k2 x10 x11 x12 = some s28) k _ _ (Weak_keep 0 hm [0, 1, 2, 8, 9, 10, 11, 12] [] _ _ rfl rfl rfl) ⟨_, _, _, rfl, rfl, h⟩ ?_
        clear h
        rintro k2 E H ⟨x10, x11, x12, rfl, rfl, h⟩
        cases k2 with
        | zero => cases (show (none : Option (Int × Int)) = some _ from h)
        | succ k2 =>
         rw [spec_l09Common_l2] at h
         refine ACode_seq ?_
         refine kR ?_
         refine kM 2 rfl ?_
         refine AOps_q 33 _ rfl rfl rfl (QOp_lss _ _ _ _ _ _ _ rfl rfl rfl) ?_
         refine AOps_nil ?_
         refine kI h rfl (fun h _ => ?_) (fun h _ => ?_)
         ·refine ACode_skip ?_
          refine kB (fun s27 => [(0, iV p0), (1, .d (.sl none (intsD p1))), (2, iV p2), (8, iV s27.1), (9, iV s27.2), (10, iV x4), (11, iV x8), (12, iV x12)]) (fun s27 => []) h (fun s27 h => ?_) (fun s27 h => ?_)
          ·refine ACode_block ?_
           refine kR ?_
           refine kM 2 rfl ?_
           refine kC [] 38 (iV (spec_l01Edge x12 x8)) [] rfl Tryz.call79 rfl rfl (spec_l01Edge_ac x12 x8) rfl ?_
           refine kM 2 rfl ?_
           refine kC [] 41 (iV (spec_l01Edge x12 x4)) [] rfl Tryz.call79 rfl rfl (spec_l01Edge_ac x12 x4) rfl ?_
           refine kM 2 rfl ?_
           refine kC [] 44 (iV (spec_l01Edge x8 x4)) [] rfl Tryz.call79 rfl rfl (spec_l01Edge_ac x8 x4) rfl ?_
           refine kN 3 rfl ?_
           refine kB (fun s22 => [(0, iV p0), (1, .d (.sl none (intsD p1))), (2, iV p2), (8, iV x10), (9, iV x11), (10, iV x4), (11, iV x8), (12, iV x12), (13, iV (spec_l01Edge x12 x8)), (14, iV (spec_l01Edge x12 x4)), (15, iV (spec_l01Edge x8 x4)), (66, bV s22)]) (fun s22 => []) h (fun s22 h => ?_) (fun s22 h => ?_)
           ·refine (ACode_region ?_)
            refine kM 2 rfl ?_
            obtain ⟨hc17, h⟩ := guardO h
            refine AOps_q 47 _ rfl rfl rfl (QOp_indexAddr_sl _ _ _ _ _ _ _ _ rfl Tryz.underlying27 Tryz.sizeOf2 hc17.1 (by rw [intsD_length]; exact hc17.2) rfl rfl) ?_
            refine AOps_q 48 _ rfl rfl rfl (QOp_load_pv _ _ _ _ _ rfl Tryz.isAgg2 rfl (intsD_get _ _ 0 (by omega))) ?_
            refine kM 1 rfl ?_
            refine AOps_q 50 _ rfl rfl rfl (QOp_eql _ _ _ _ _ _ _ rfl rfl rfl) ?_
            refine kM 1 rfl ?_
            refine AOps_case 51 _ rfl (fun hb18 => ?_) (fun hb18 => ?_)
            ·have h := iteT hb18 h
             refine kM 2 rfl ?_
             obtain ⟨hc19, h⟩ := guardO h
             refine AOps_q 54 _ rfl rfl rfl (QOp_indexAddr_sl _ _ _ _ _ _ _ _ rfl Tryz.underlying27 Tryz.sizeOf2 hc19.1 (by rw [intsD_length]; exact hc19.2) rfl rfl) ?_
             refine AOps_q 55 _ rfl rfl rfl (QOp_load_pv _ _ _ _ _ rfl Tryz.isAgg2 rfl (intsD_get _ _ 0 (by omega))) ?_
             refine kM 1 rfl ?_
             refine AOps_q 57 _ rfl rfl rfl (QOp_eql _ _ _ _ _ _ _ rfl rfl rfl) ?_
             refine kM 2 rfl ?_
             refine AOps_case 59 _ rfl (fun hb20 => ?_) (fun hb20 => ?_)
             ·have h := iteT hb20 h
              refine kM 2 rfl ?_
              obtain ⟨hc21, h⟩ := guardO h
              refine AOps_q 62 _ rfl rfl rfl (QOp_indexAddr_sl _ _ _ _ _ _ _ _ rfl Tryz.underlying27 Tryz.sizeOf2 hc21.1 (by rw [intsD_length]; exact hc21.2) rfl rfl) ?_
              refine AOps_q 63 _ rfl rfl rfl (QOp_load_pv _ _ _ _ _ rfl Tryz.isAgg2 rfl (intsD_get _ _ 0 (by omega))) ?_
              refine kM 1 rfl ?_
              refine AOps_q 65 _ rfl rfl rfl (QOp_eql _ _ _ _ _ _ _ rfl rfl rfl) ?_
              refine kN 1 rfl ?_
              cases h
              exact Weak_keep 0 hm [0, 1, 2, 8, 9, 10, 11, 12, 13, 14, 15, 66] [] _ _ rfl rfl rfl
             have h := iteF hb20 h
             refine AOps_skip 60 rfl rfl rfl ?_
             refine AOps_skip 61 rfl rfl rfl ?_
             refine AOps_skip 62 rfl rfl rfl ?_
             refine AOps_skip 63 rfl rfl rfl ?_
             refine AOps_skip 64 rfl rfl rfl ?_
             refine AOps_skip 65 rfl rfl rfl ?_
             refine kN 1 rfl ?_
             cases h
             exact Weak_keep 0 hm [0, 1, 2, 8, 9, 10, 11, 12, 13, 14, 15, 66] [] _ _ rfl rfl rfl
            have h := iteF hb18 h
            refine AOps_skip 52 rfl rfl rfl ?_
            refine AOps_skip 53 rfl rfl rfl ?_
            refine AOps_skip 54 rfl rfl rfl ?_
            refine AOps_skip 55 rfl rfl rfl ?_
            refine AOps_skip 56 rfl rfl rfl ?_
            refine AOps_skip 57 rfl rfl rfl ?_
            refine kM 2 rfl ?_
            refine AOps_skip 60 rfl rfl rfl ?_
            refine AOps_skip 61 rfl rfl rfl ?_
            refine AOps_skip 62 rfl rfl rfl ?_
            refine AOps_skip 63 rfl rfl rfl ?_
            refine AOps_skip 64 rfl rfl rfl ?_
            refine AOps_skip 65 rfl rfl rfl ?_
            refine kN 1 rfl ?_
            cases h
            exact Weak_keep 0 hm [0, 1, 2, 8, 9, 10, 11, 12, 13, 14, 15, 66] [] _ _ rfl rfl rfl
           refine kI h rfl (fun h _ => ?_) (fun h _ => ?_)
           ·refine kR ?_
            refine kM 1 rfl ?_
            refine AOps_q 68 _ rfl rfl rfl (QOp_add _ _ _ _ _ _ _ rfl rfl rfl) ?_
            refine kN 1 rfl ?_
            refine (ACode_region ?_)
            refine kM 2 rfl ?_
            refine AOps_q 71 _ rfl rfl rfl (QOp_conv _ _ _ _ _ _ rfl rfl Tryz.underlying73 rfl) ?_
            obtain ⟨hc24, h⟩ := guardO h
            refine AOps_q 72 _ rfl rfl rfl (QOp_shl _ _ _ _ _ _ _ _ hc24 rfl rfl rfl) ?_
            refine kM 1 rfl ?_
            refine AOps_q 74 _ rfl rfl rfl (QOp_conv _ _ _ _ _ _ rfl rfl Tryz.underlying73 rfl) ?_
            obtain ⟨hc25, h⟩ := guardO h
            refine AOps_q 75 _ rfl rfl rfl (QOp_shl _ _ _ _ _ _ _ _ hc25 rfl rfl rfl) ?_
            refine AOps_q 76 _ rfl rfl rfl (QOp_or _ _ _ _ _ _ _ rfl rfl rfl) ?_
            refine kM 1 rfl ?_
            refine AOps_q 78 _ rfl rfl rfl (QOp_conv _ _ _ _ _ _ rfl rfl Tryz.underlying73 rfl) ?_
            obtain ⟨hc26, h⟩ := guardO h
            refine AOps_q 79 _ rfl rfl rfl (QOp_shl _ _ _ _ _ _ _ _ hc26 rfl rfl rfl) ?_
            refine AOps_q 80 _ rfl rfl rfl (QOp_or _ _ _ _ _ _ _ rfl rfl rfl) ?_
            refine AOps_q 81 _ rfl rfl rfl (QOp_and _ _ _ _ _ _ _ rfl rfl rfl) ?_
            refine kN 1 rfl ?_
            cases h
            exact Weak_keep 0 hm [0, 1, 2, 8, 9, 10, 11, 12] [] _ _ rfl rfl rfl
           refine ACode_skip ?_
           cases h
           exact Weak_keep 0 hm [0, 1, 2, 8, 9, 10, 11, 12] [] _ _ rfl rfl rfl
          refine (ACode_region ?_)
          refine kM 1 rfl ?_
          refine AOps_q 35 _ rfl rfl rfl (QOp_add _ _ _ _ _ _ _ rfl rfl rfl) ?_
          refine kN 1 rfl ?_
          exact ⟨k2, _, _, Nat.lt_succ_self _, Weak_keep 0 hm [0, 1, 2, 8, 9, 10, 11, 12] [] _ _ rfl rfl rfl, _, _, _, rfl, rfl, h⟩
         refine ACode_exit ?_
         cases h
         exact Weak_keep 0 hm [0, 1, 2, 8, 9, 10, 11] [] _ _ rfl rfl rfl
       refine (ACode_region ?_)
       refine kM 1 rfl ?_
       refine AOps_q 30 _ rfl rfl rfl (QOp_add _ _ _ _ _ _ _ rfl rfl rfl) ?_
       refine kN 1 rfl ?_
       exact ⟨k1, _, _, Nat.lt_succ_self _, Weak_keep 0 hm [0, 1, 2, 8, 9, 10, 11] [] _ _ rfl rfl rfl, _, _, _, rfl, rfl, h⟩
      refine ACode_exit ?_
      cases h
      exact Weak_keep 0 hm [0, 1, 2, 8, 9, 10] [] _ _ rfl rfl rfl
    refine (ACode_region ?_)
    refine kM 1 rfl ?_
    refine AOps_q 25 _ rfl rfl rfl (QOp_add _ _ _ _ _ _ _ rfl rfl rfl) ?_
    refine kN 1 rfl ?_
    exact ⟨k0, _, _, Nat.lt_succ_self _, Weak_keep 0 hm [0, 1, 2, 8, 9, 10] [] _ _ rfl rfl rfl, _, _, _, rfl, rfl, h⟩
   refine ACode_exit ?_
   cases h
   exact Weak_keep 0 hm [8, 9] [] _ _ rfl rfl rfl
 refine kR ?_
 refine kN 4 rfl ?_
 refine ACode_ret ?_
 cases h
 exact ⟨_, _, fun r a w h => ⟨r, h⟩, _, _, [], _, (.cons (ResV_tmp _ _ rfl) (.cons (ResV_tmp _ _ rfl) .nil)), rfl, rfl, rfl, rfl, rfl⟩

-- loop.example/g01362/spec.l09Free
def spec_l09Free_l0 (p0 : List Int) : Nat → Int → (List Int) → Option (List Int)
 | 0, _, _ => none
 | k0 + 1, x1, x2 => (if decide (x1 < (p0.length : Int)) then ((if 0 ≤ x1 ∧ x1 < (p0.length : Int) then (if decide ((p0.getD x1.toNat 0) < 0) then (if x2.length + ([x1]).length ≤ 1099511627776 then some (x2 ++ ([x1])) else none) else some x2) else none) : Option (List Int)).bind fun s7 => spec_l09Free_l0 p0 k0 (w64 (x1 + 1)) s7 else some x2)
def spec_l09Free (k : Nat) (p0 : List Int) : Option (List Int) :=
 (spec_l09Free_l0 p0 k 0 ([] : List Int) : Option (List Int)).bind fun s8 => some s8
set_option maxRecDepth 100000 in
theorem spec_l09Free_ac (k : Nat) (p0 : List Int) (r : List Int) (h : spec_l09Free k p0 = some r) : AC Tryz.prog 155 [.d (.sl none (intsD p0))] [] (fun res H' => res = [.vec 0 0] ∧ H' = [.vec 0 (intsD r)]) := by
 refine AC_of_body true Tryz.func155 rfl Tryz.ntmps155 (rvs := [.tmp 2]) rfl rfl (fun G hG => ?_)
 have hm : G.H.length = 0 := by rw [hG]; rfl
 have hz : zeroG G.H = true := by rw [hG]; rfl
 unfold spec_l09Free at h
 refine kR ?_
 refine kN 1 rfl ?_
 refine kR ?_
 refine AOps_buildSlice 5 _ _ _ [] (intsD ([] : List Int)) _ rfl rfl rfl rfl rfl (by decide) Tryz.underlying27 Tryz.sizeOf2 (zero_of Tryz.typeInfo2 rfl) rfl rfl (intsD_one _) ?_
 refine kN 1 rfl ?_
 refine kB (fun s8 => [(3, .vec 0 0)]) (fun s8 => [.vec 0 (intsD s8)]) h (fun s8 h => ?_) (fun s8 h => ?_)
 ·refine kR ?_
  refine kN 1 rfl ?_
  refine ACode_block ?_
  refine ACode_loopW (fun k0 E H => ∃ (x1 : Int) (x2 : List Int), E = [(0, .d (.sl none (intsD p0))), (3, .vec 0 0), (4, iV x1)] ∧ H = [.vec 0 (intsD x2)] ∧ spec_l09Free_l0 p0 k0 x1 x2 = some s8) k _ _ (Weak_keep 0 hm [0, 3, 4] [0] _ _ rfl rfl rfl) ⟨_, _, rfl, rfl, h⟩ ?_
  clear h
  rintro k0 E H ⟨x1, x2, rfl, rfl, h⟩
  cases k0 with
  | zero => cases (show (none : Option (List Int)) = some _ from h)
  | succ k0 =>
   rw [spec_l09Free_l0] at h
   refine ACode_seq ?_
   refine kR ?_
   refine kM 2 rfl ?_
   refine AOps_q 8 _ rfl rfl rfl (QOp_len_sl _ _ _ _ _ _ _ (intsD_length _) rfl rfl rfl rfl Tryz.underlying27 rfl) ?_
   refine AOps_q 9 _ rfl rfl rfl (QOp_lss _ _ _ _ _ _ _ rfl rfl rfl) ?_
   refine AOps_nil ?_
   refine kI h rfl (fun h _ => ?_) (fun h _ => ?_)
   ·refine ACode_skip ?_
    refine kB (fun s7 => [(0, .d (.sl none (intsD p0))), (3, .vec 0 0), (4, iV x1)]) (fun s7 => [.vec 0 (intsD s7)]) h (fun s7 h => ?_) (fun s7 h => ?_)
    ·refine ACode_block ?_
     refine kR ?_
     refine kM 2 rfl ?_
     obtain ⟨hc4, h⟩ := guardO h
     refine AOps_q 14 _ rfl rfl rfl (QOp_indexAddr_sl _ _ _ _ _ _ _ _ rfl Tryz.underlying27 Tryz.sizeOf2 hc4.1 (by rw [intsD_length]; exact hc4.2) rfl rfl) ?_
     refine AOps_q 15 _ rfl rfl rfl (QOp_load_pv _ _ _ _ _ rfl Tryz.isAgg2 rfl (intsD_get _ _ 0 (by omega))) ?_
     refine AOps_q 16 _ rfl rfl rfl (QOp_lss _ _ _ _ _ _ _ rfl rfl rfl) ?_
     refine AOps_nil ?_
     refine kI h rfl (fun h _ => ?_) (fun h _ => ?_)
     ·refine (ACode_region ?_)
      refine kM 2 rfl ?_
      refine AOps_buildSlice 19 _ _ _ [_] (intsD ([x1])) _ rfl rfl rfl rfl rfl (by decide) Tryz.underlying27 Tryz.sizeOf2 (zero_of Tryz.typeInfo2 rfl) rfl rfl (intsD_one _) ?_
      obtain ⟨hc6, h⟩ := guardO h
      refine AOps_append 20 _ _ _ _ _ _ _ _ _ _ _ _ rfl rfl rfl rfl rfl rfl rfl Tryz.underlying27 Tryz.type2 rfl rfl rfl (by decide) rfl rfl rfl rfl (intsD_one _) (by rw [intsD_length, intsD_length]; exact hc6) ?_
      rw [intsD_app]
      refine kN 1 rfl ?_
      cases h
      exact Weak_trans (Weak_keep 0 hm [0, 3, 4] [0] _ _ rfl rfl rfl) (Weak_reset 0 hm hz [0, 3, 4] _ _ rfl rfl)
     refine ACode_skip ?_
     cases h
     exact Weak_keep 0 hm [0, 3, 4] [0] _ _ rfl rfl rfl
    refine (ACode_region ?_)
    refine kM 1 rfl ?_
    refine AOps_q 11 _ rfl rfl rfl (QOp_add _ _ _ _ _ _ _ rfl rfl rfl) ?_
    refine kN 1 rfl ?_
    exact ⟨k0, _, _, Nat.lt_succ_self _, Weak_keep 0 hm [0, 3, 4] [0] _ _ rfl rfl rfl, _, _, rfl, rfl, h⟩
   refine ACode_exit ?_
   cases h
   exact Weak_keep 0 hm [3] [0] _ _ rfl rfl rfl
 refine kR ?_
 refine kN 2 rfl ?_
 refine ACode_ret ?_
 cases h
 exact ⟨_, _, Weak_reset 0 hm hz [2] _ _ rfl rfl, _, _, [0], _, (.cons (ResV_tmp _ _ rfl) .nil), rfl, rfl, rfl, rfl, rfl⟩

-- loop.example/g01362/spec.l09Result
def spec_l09Result (k : Nat) (p0 : Int) (p1 : List Int) : Option (Int) :=
 (spec_l09Mover k p1).bind fun r1 => (spec_l09Common k p0 p1 (w64 (1 - r1))).bind fun r2 => (if decide (0 < r2.2) then some r1 else (spec_l09Free k p1).bind fun r4 => (if decide ((r4.length : Int) = 0) then some 2 else some (-1)))
set_option maxRecDepth 100000 in
theorem spec_l09Result_ac (k : Nat) (p0 : Int) (p1 : List Int) (r : Int) (h : spec_l09Result k p0 p1 = some r) : AC Tryz.prog 105 [iV p0, .d (.sl none (intsD p1))] [] (fun res H' => res = [iV r] ∧ H' = []) := by
 refine AC_of_body true Tryz.func105 rfl Tryz.ntmps105 (rvs := [.tmp 4]) rfl rfl (fun G hG => ?_)
 have hm : G.H.length = 0 := by rw [hG]; rfl
 have hz : zeroG G.H = true := by rw [hG]; rfl
 unfold spec_l09Result at h
 refine kR ?_
 refine kN 1 rfl ?_
 refine kR ?_
 refine kM 1 rfl ?_
 obtain ⟨r1, hr1, h⟩ := bindO h
 refine kC [] 9 (iV r1) [] rfl Tryz.call154 rfl rfl (spec_l09Mover_ac k p1 _ hr1) rfl ?_
 refine kN 1 rfl ?_
 refine ACode_seq ?_
 refine kR ?_
 refine kM 3 rfl ?_
 refine AOps_q 14 _ rfl rfl rfl (QOp_sub _ _ _ _ _ _ _ rfl rfl rfl) ?_
 obtain ⟨r2, hr2, h⟩ := bindO h
 refine kC [] 15 (.tup [iV r2.1, iV r2.2]) [] rfl Tryz.call160 rfl rfl (spec_l09Common_ac k p0 p1 (w64 (1 - r1)) _ hr2) rfl ?_
 refine kN 5 rfl ?_
 refine kR ?_
 refine kM 1 rfl ?_
 refine AOps_q 19 _ rfl rfl rfl (QOp_gtr _ _ _ _ _ _ _ rfl rfl rfl) ?_
 refine AOps_nil ?_
 refine kI h rfl (fun h _ => ?_) (fun h _ => ?_)
 ·refine kR ?_
  refine kN 2 rfl ?_
  refine ACode_ret ?_
  cases h
  exact ⟨_, _, fun r a w h => ⟨r, h⟩, _, _, [], _, (.cons (ResV_tmp _ _ rfl) .nil), rfl, rfl, rfl, rfl, rfl⟩
 refine ACode_skip ?_
 refine ACode_seq ?_
 refine kR ?_
 refine kM 1 rfl ?_
 obtain ⟨r4, hr4, h⟩ := bindO h
 refine kC [] 22 (.vec 0 0) [.vec 0 (intsD r4)] rfl Tryz.call155 rfl rfl (spec_l09Free_ac k p1 _ hr4) rfl ?_
 refine AOps_q 23 _ rfl rfl rfl (QOp_len_vec _ _ _ _ _ _ _ _ (intsD_length _) rfl rfl rfl rfl Tryz.underlying27 rfl rfl) ?_
 refine AOps_q 24 _ rfl rfl rfl (QOp_eql _ _ _ _ _ _ _ rfl rfl rfl) ?_
 refine AOps_nil ?_
 refine kI h rfl (fun h _ => ?_) (fun h _ => ?_)
 ·refine kR ?_
  refine kN 1 rfl ?_
  refine ACode_ret ?_
  cases h
  exact ⟨_, _, fun r a w h => ⟨r, h⟩, _, _, [], _, (.cons (ResV_tmp _ _ rfl) .nil), rfl, rfl, rfl, rfl, rfl⟩
 refine ACode_skip ?_
 refine kR ?_
 refine kN 1 rfl ?_
 refine ACode_ret ?_
 cases h
 exact ⟨_, _, fun r a w h => ⟨r, h⟩, _, _, [], _, (.cons (ResV_tmp _ _ rfl) .nil), rfl, rfl, rfl, rfl, rfl⟩

-- loop.example/g01362/spec.l09Moves
def spec_l09Moves (k : Nat) (p0 : Int) (p1 : List Int) : Option (List Int) :=
 (spec_l09Result k p0 p1).bind fun r1 => (if decide (0 ≤ r1) then some ([] : List Int) else (spec_l09Free k p1).bind fun r3 => some r3)
set_option maxRecDepth 100000 in
theorem spec_l09Moves_ac (k : Nat) (p0 : Int) (p1 : List Int) (r : List Int) (h : spec_l09Moves k p0 p1 = some r) : AC Tryz.prog 164 [iV p0, .d (.sl none (intsD p1))] [] (fun res H' => res = [.vec 0 0] ∧ H' = [.vec 0 (intsD r)]) := by
 refine AC_of_body true Tryz.func164 rfl Tryz.ntmps164 (rvs := [.tmp 4]) rfl rfl (fun G hG => ?_)
 have hm : G.H.length = 0 := by rw [hG]; rfl
 have hz : zeroG G.H = true := by rw [hG]; rfl
 unfold spec_l09Moves at h
 refine kR ?_
 refine kN 1 rfl ?_
 refine ACode_seq ?_
 refine kR ?_
 refine kM 2 rfl ?_
 obtain ⟨r1, hr1, h⟩ := bindO h
 refine kC [] 7 (iV r1) [] rfl Tryz.call105 rfl rfl (spec_l09Result_ac k p0 p1 _ hr1) rfl ?_
 refine AOps_q 8 _ rfl rfl rfl (QOp_geq _ _ _ _ _ _ _ rfl rfl rfl) ?_
 refine AOps_nil ?_
 refine kI h rfl (fun h _ => ?_) (fun h _ => ?_)
 ·refine kR ?_
  refine AOps_buildSlice 9 _ _ _ [] (intsD ([] : List Int)) _ rfl rfl rfl rfl rfl (by decide) Tryz.underlying27 Tryz.sizeOf2 (zero_of Tryz.typeInfo2 rfl) rfl rfl (intsD_one _) ?_
  refine kN 1 rfl ?_
  refine ACode_ret ?_
  cases h
  exact ⟨_, _, Weak_reset 0 hm hz [4] _ _ rfl rfl, _, _, [0], _, (.cons (ResV_tmp _ _ rfl) .nil), rfl, rfl, rfl, rfl, rfl⟩
 refine ACode_skip ?_
 refine kR ?_
 refine kM 1 rfl ?_
 obtain ⟨r3, hr3, h⟩ := bindO h
 refine kC [] 11 (.vec 0 0) [.vec 0 (intsD r3)] rfl Tryz.call155 rfl rfl (spec_l09Free_ac k p1 _ hr3) rfl ?_
 refine kN 1 rfl ?_
 refine ACode_ret ?_
 cases h
 exact ⟨_, _, Weak_reset 0 hm hz [4] _ _ rfl rfl, _, _, [0], _, (.cons (ResV_tmp _ _ rfl) .nil), rfl, rfl, rfl, rfl, rfl⟩

-- loop.example/g01362/spec.l01Own
def spec_l01Own (p0 : List Int) : Option (List Int) :=
 (if ([] : List Int).length + p0.length ≤ 1099511627776 then some (([] : List Int) ++ p0) else none)
set_option maxRecDepth 100000 in
theorem spec_l01Own_ac (p0 : List Int) (r : List Int) (h : spec_l01Own p0 = some r) : AC Tryz.prog 122 [.d (.sl none (intsD p0))] [] (fun res H' => res = [.vec 0 0] ∧ H' = [.vec 0 (intsD r)]) := by
 refine AC_of_body true Tryz.func122 rfl Tryz.ntmps122 (rvs := [.tmp 2]) rfl rfl (fun G hG => ?_)
 have hm : G.H.length = 0 := by rw [hG]; rfl
 have hz : zeroG G.H = true := by rw [hG]; rfl
 unfold spec_l01Own at h
 refine kR ?_
 refine kN 1 rfl ?_
 refine kR ?_
 refine AOps_buildSlice 3 _ _ _ [] (intsD ([] : List Int)) _ rfl rfl rfl rfl rfl (by decide) Tryz.underlying27 Tryz.sizeOf2 (zero_of Tryz.typeInfo2 rfl) rfl rfl (intsD_one _) ?_
 refine kM 1 rfl ?_
 obtain ⟨hc1, h⟩ := guardO h
 refine AOps_append 5 _ _ _ _ _ _ _ _ _ _ _ _ rfl rfl rfl rfl rfl rfl rfl Tryz.underlying27 Tryz.type2 rfl rfl rfl (by decide) rfl rfl rfl rfl (intsD_one _) (by rw [intsD_length, intsD_length]; exact hc1) ?_
 rw [intsD_app]
 refine kN 1 rfl ?_
 refine ACode_ret ?_
 cases h
 exact ⟨_, _, Weak_reset 0 hm hz [2] _ _ rfl rfl, _, _, [0], _, (.cons (ResV_tmp _ _ rfl) .nil), rfl, rfl, rfl, rfl, rfl⟩

-- loop.example/g01362/spec.l09Move
def spec_l09Move (k : Nat) (p0 : List Int) (p1 : Int) : Option (List Int) :=
 (spec_l01Own p0).bind fun r1 => (spec_l09Mover k p0).bind fun r2 => (if 0 ≤ p1 ∧ p1 < (r1.length : Int) then some (r1.set p1.toNat r2) else none)
set_option maxRecDepth 100000 in
theorem spec_l09Move_ac (k : Nat) (p0 : List Int) (p1 : Int) (r : List Int) (h : spec_l09Move k p0 p1 = some r) : AC Tryz.prog 107 [.d (.sl none (intsD p0)), iV p1] [] (fun res H' => res = [.vec 0 0] ∧ H' = [.vec 0 (intsD r)]) := by
 refine AC_of_body true Tryz.func107 rfl Tryz.ntmps107 (rvs := [.tmp 4]) rfl rfl (fun G hG => ?_)
 have hm : G.H.length = 0 := by rw [hG]; rfl
 have hz : zeroG G.H = true := by rw [hG]; rfl
 unfold spec_l09Move at h
 refine kR ?_
 refine kN 1 rfl ?_
 refine kR ?_
 refine kM 1 rfl ?_
 obtain ⟨r1, hr1, h⟩ := bindO h
 refine kC [] 7 (.vec 0 0) [.vec 0 (intsD r1)] rfl Tryz.call122 rfl rfl (spec_l01Own_ac p0 _ hr1) rfl ?_
 refine kN 1 rfl ?_
 refine kR ?_
 refine kM 3 rfl ?_
 obtain ⟨r2, hr2, h⟩ := bindO h
 refine kC [] 11 (iV r2) [.vec 0 (intsD r1)] rfl Tryz.call154 rfl rfl (spec_l09Mover_ac k p0 _ hr2) rfl ?_
 obtain ⟨hc3, h⟩ := guardO h
 refine AOps_q 12 _ rfl rfl rfl (QOp_indexAddr_vec _ _ _ _ _ _ _ _ _ rfl Tryz.underlying27 Tryz.sizeOf2 hc3.1 (by rw [intsD_length]; exact hc3.2) rfl rfl rfl) ?_
 refine AOps_store_eptr _ _ _ _ _ _ (intsD r1) _ rfl rfl rfl rfl rfl rfl rfl Tryz.sizeOf2 (by rw [intsD_length]; omega) ?_
 rw [intsD_set]
 refine AOps_nil ?_
 refine kR ?_
 refine kN 2 rfl ?_
 refine ACode_ret ?_
 cases h
 exact ⟨_, _, Weak_reset 0 hm hz [4] _ _ rfl rfl, _, _, [0], _, (.cons (ResV_tmp _ _ rfl) .nil), rfl, rfl, rfl, rfl, rfl⟩

-- loop.example/g01362/spec.l09Draw
def spec_l09Draw_l0 (r1 : Int × Src) : Nat → Int → (List Int) → Option (List Int)
 | 0, _, _ => none
 | k0 + 1, x2, x3 => (if decide (x2 < w64 ((w64 (r1.1 * (w64 (r1.1 - 1)))).tdiv 2)) then (if x3.length + ([(-1)]).length ≤ 1099511627776 then spec_l09Draw_l0 r1 k0 (w64 (x2 + 1)) (x3 ++ ([(-1)])) else none) else some x3)
def spec_l09Draw_l1 (k : Nat) (r1 : Int × Src) (s10 : Int × Src) : Nat → Int → Src → (List Int) → Option (Src × List Int)
 | 0, _, _, _ => none
 | k1 + 1, x11, x12, x13 => (if decide (x11 < s10.1) then (spec_l09Moves k r1.1 x13).bind fun r15 => (if decide ((r15.length : Int) = 0) then some (x12, x13) else (spec_l01Next x12 (r15.length : Int)).bind fun r17 => (if 0 ≤ r17.1 ∧ r17.1 < (r15.length : Int) then (spec_l09Move k x13 (r15.getD r17.1.toNat 0)).bind fun r19 => spec_l09Draw_l1 k r1 s10 k1 (w64 (x11 + 1)) r17.2 r19 else none)) else some (x12, x13))
def spec_l09Draw (k : Nat) (p0 : Src) : Option (Int × List Int × Src) :=
 (spec_l01Pick p0 ([1, 2, 3, 3, 4, 4, 4, 5, 5])).bind fun r1 => (spec_l09Draw_l0 r1 k 0 ([] : List Int) : Option (List Int)).bind fun s6 => (spec_l01Next r1.2 8).bind fun r7 => ((if decide (r1.1 = 5) then (spec_l01Pick r7.2 ([3, 4, 5, 6, 7, 9, 2, 10])).bind fun r9 => some (r9.1, r9.2) else some (r7.1, r7.2)) : Option (Int × Src)).bind fun s10 => (spec_l09Draw_l1 k r1 s10 k 0 s10.2 s6 : Option (Src × List Int)).bind fun s20 => some (r1.1, s20.2, s20.1)
set_option maxRecDepth 100000 in
theorem spec_l09Draw_ac (k : Nat) (p0 : Src) (r : Int × List Int × Src) (h : spec_l09Draw k p0 = some r) : AC Tryz.prog 113 [.ptr 0 0] [.box (srcD p0)] (fun res H' => res = [iV r.1, .vec 1 0] ∧ H' = [.box (srcD r.2.2), .vec 0 (intsD r.2.1)]) := by
 refine AC_of_body true Tryz.func113 rfl Tryz.ntmps113 (rvs := [.tmp 2, .tmp 3]) rfl rfl (fun G hG => ?_)
 have hm : G.H.length = 1 := by rw [hG]; rfl
 have hz : zeroG G.H = true := by rw [hG]; rfl
 unfold spec_l09Draw at h
 refine kR ?_
 refine kN 2 rfl ?_
 refine kR ?_
 refine kM 1 rfl ?_
 refine AOps_buildSlice 11 _ _ _ [_, _, _, _, _, _, _, _, _] (intsD ([1, 2, 3, 3, 4, 4, 4, 5, 5])) _ rfl rfl rfl rfl rfl (by decide) Tryz.underlying27 Tryz.sizeOf2 (zero_of Tryz.typeInfo2 rfl) rfl rfl (intsD_one _) ?_
 refine AOps_freezeL [11] 1 0 _ (allc (rfl) (fun _ h => nomatch h)) rfl ?_
 obtain ⟨r1, hr1, h⟩ := bindO h
 refine kC [0] 12 (iV r1.1) [.box (srcD r1.2), .gone] rfl Tryz.call62 rfl rfl (spec_l01Pick_ac p0 ([1, 2, 3, 3, 4, 4, 4, 5, 5]) _ hr1) rfl ?_
 refine AOps_buildSlice 13 _ _ _ [] (intsD ([] : List Int)) _ rfl rfl rfl rfl rfl (by decide) Tryz.underlying27 Tryz.sizeOf2 (zero_of Tryz.typeInfo2 rfl) rfl rfl (intsD_one _) ?_
 refine kN 2 rfl ?_
 refine kB (fun s6 => [(0, .ptr 0 0), (4, iV r1.1), (5, .vec 1 0)]) (fun s6 => [.box (srcD r1.2), .vec 0 (intsD s6)]) h (fun s6 h => ?_) (fun s6 h => ?_)
 ·refine kR ?_
  refine kN 1 rfl ?_
  refine ACode_block ?_
  refine ACode_loopW (fun k0 E H => ∃ (x2 : Int) (x3 : List Int), E = [(0, .ptr 0 0), (4, iV r1.1), (5, .vec 1 0), (6, iV x2)] ∧ H = [.box (srcD r1.2), .vec 0 (intsD x3)] ∧ spec_l09Draw_l0 r1 k0 x2 x3 = some s6) k _ _ (Weak_keep 1 hm [0, 4, 5, 6] [2] _ _ rfl rfl rfl) ⟨_, _, rfl, rfl, h⟩ ?_
  clear h
  rintro k0 E H ⟨x2, x3, rfl, rfl, h⟩
  cases k0 with
  | zero => cases (show (none : Option (List Int)) = some _ from h)
  | succ k0 =>
   rw [spec_l09Draw_l0] at h
   refine ACode_seq ?_
   refine kR ?_
   refine kM 3 rfl ?_
   refine AOps_q 17 _ rfl rfl rfl (QOp_sub _ _ _ _ _ _ _ rfl rfl rfl) ?_
   refine AOps_q 18 _ rfl rfl rfl (QOp_mul _ _ _ _ _ _ _ rfl rfl rfl) ?_
   refine AOps_q 19 _ rfl rfl rfl (QOp_quo _ _ _ _ _ _ _ (by decide) rfl rfl rfl) ?_
   refine AOps_q 20 _ rfl rfl rfl (QOp_lss _ _ _ _ _ _ _ rfl rfl rfl) ?_
   refine AOps_nil ?_
   refine kI h rfl (fun h _ => ?_) (fun h _ => ?_)
   ·refine ACode_skip ?_
    refine ACode_seq ?_
    refine ACode_block ?_
    refine (ACode_region ?_)
    refine kM 1 rfl ?_
    refine AOps_buildSlice 24 _ _ _ [_] (intsD ([(-1)])) _ rfl rfl rfl rfl rfl (by decide) Tryz.underlying27 Tryz.sizeOf2 (zero_of Tryz.typeInfo2 rfl) rfl rfl (intsD_one _) ?_
    obtain ⟨hc5, h⟩ := guardO h
    refine AOps_append 25 _ _ _ _ _ _ _ _ _ _ _ _ rfl rfl rfl rfl rfl rfl rfl Tryz.underlying27 Tryz.type2 rfl rfl rfl (by decide) rfl rfl rfl rfl (intsD_one _) (by rw [intsD_length, intsD_length]; exact hc5) ?_
    rw [intsD_app]
    refine kN 1 rfl ?_
    refine (ACode_region ?_)
    refine kM 1 rfl ?_
    refine AOps_q 22 _ rfl rfl rfl (QOp_add _ _ _ _ _ _ _ rfl rfl rfl) ?_
    refine kN 1 rfl ?_
    exact ⟨k0, _, _, Nat.lt_succ_self _, Weak_trans (Weak_keep 1 hm [0, 4, 5, 6] [1] _ _ rfl rfl rfl) (Weak_reset 1 hm hz [0, 4, 5, 6] _ _ rfl rfl), _, _, rfl, rfl, h⟩
   refine ACode_exit ?_
   cases h
   exact Weak_keep 1 hm [0, 4, 5] [1] _ _ rfl rfl rfl
 refine kR ?_
 refine kM 1 rfl ?_
 obtain ⟨r7, hr7, h⟩ := bindO h
 refine kC [0] 27 (iV r7.1) [.box (srcD r7.2), .vec 0 (intsD s6)] rfl Tryz.call58 rfl rfl (spec_l01Next_ac r1.2 8 _ hr7) rfl ?_
 refine kN 1 rfl ?_
 refine kB (fun s10 => [(0, .ptr 0 0), (4, iV r1.1), (5, .vec 1 0), (7, iV s10.1)]) (fun s10 => [.box (srcD s10.2), .vec 0 (intsD s6)]) h (fun s10 h => ?_) (fun s10 h => ?_)
 ·refine kR ?_
  refine kM 1 rfl ?_
  refine AOps_q 29 _ rfl rfl rfl (QOp_eql _ _ _ _ _ _ _ rfl rfl rfl) ?_
  refine AOps_nil ?_
  refine kI h rfl (fun h _ => ?_) (fun h _ => ?_)
  ·refine (ACode_region ?_)
   refine kM 1 rfl ?_
   refine AOps_buildSlice 31 _ _ _ [_, _, _, _, _, _, _, _] (intsD ([3, 4, 5, 6, 7, 9, 2, 10])) _ rfl rfl rfl rfl rfl (by decide) Tryz.underlying27 Tryz.sizeOf2 (zero_of Tryz.typeInfo2 rfl) rfl rfl (intsD_one _) ?_
   refine AOps_freezeL [31] 2 0 _ (allc (rfl) (fun _ h => nomatch h)) rfl ?_
   obtain ⟨r9, hr9, h⟩ := bindO h
   refine kC [0] 32 (iV r9.1) [.box (srcD r9.2), .vec 0 (intsD s6), .gone] rfl Tryz.call62 rfl rfl (spec_l01Pick_ac r7.2 ([3, 4, 5, 6, 7, 9, 2, 10]) _ hr9) rfl ?_
   refine kN 1 rfl ?_
   cases h
   exact Weak_keep 1 hm [0, 4, 5, 7] [1] _ _ rfl rfl rfl
  refine ACode_skip ?_
  cases h
  exact Weak_keep 1 hm [0, 4, 5, 7] [1] _ _ rfl rfl rfl
 refine kB (fun s20 => [(4, iV r1.1), (5, .vec 1 0)]) (fun s20 => [.box (srcD s20.1), .vec 0 (intsD s20.2)]) h (fun s20 h => ?_) (fun s20 h => ?_)
 ·refine kR ?_
  refine kN 1 rfl ?_
  refine ACode_block ?_
  refine ACode_loopW (fun k1 E H => ∃ (x11 : Int) (x12 : Src) (x13 : List Int), E = [(0, .ptr 0 0), (4, iV r1.1), (5, .vec 1 0), (7, iV s10.1), (8, iV x11)] ∧ H = [.box (srcD x12), .vec 0 (intsD x13)] ∧ spec_l09Draw_l1 k r1 s10 k1 x11 x12 x13 = some s20) k _ _ (Weak_keep 1 hm [0, 4, 5, 7, 8] [1] _ _ rfl rfl rfl) ⟨_, _, _, rfl, rfl, h⟩ ?_
  clear h
  rintro k1 E H ⟨x11, x12, x13, rfl, rfl, h⟩
  cases k1 with
  | zero => cases (show (none : Option (Src × List Int)) = some _ from h)
  | succ k1 =>
   rw [spec_l09Draw_l1] at h
   refine ACode_seq ?_
   refine kR ?_
   refine kM 2 rfl ?_
   refine AOps_q 35 _ rfl rfl rfl (QOp_lss _ _ _ _ _ _ _ rfl rfl rfl) ?_
   refine AOps_nil ?_
   refine kI h rfl (fun h _ => ?_) (fun h _ => ?_)
   ·refine ACode_skip ?_
    refine ACode_seq ?_
    refine ACode_block ?_
    refine kR ?_
    refine kM 2 rfl ?_
    obtain ⟨r15, hr15, h⟩ := bindO h
    refine AOps_callL [] 40 _ _ _ _ _ _ _ _ _ _ rfl rfl rfl rfl rfl rfl rfl Tryz.call164 rfl (nodupB_sound _ rfl) rfl rfl rfl (spec_l09Moves_ac k r1.1 x13 _ hr15) ?_
    rintro _ _ ⟨rfl, rfl⟩
    refine ⟨(allc (intsD_flat _) (fun _ h => nomatch h)), (allc (trivial) (fun _ h => nomatch h)), AOps_as 40 (v' := .vec 2 0) (H' := [.box (srcD x12), .vec 0 (intsD x13), .vec 0 (intsD r15)]) rfl rfl ?_⟩
    refine kN 1 rfl ?_
    refine ACode_seq ?_
    refine kR ?_
    refine kM 1 rfl ?_
    refine AOps_q 42 _ rfl rfl rfl (QOp_len_vec _ _ _ _ _ _ _ _ (intsD_length _) rfl rfl rfl rfl Tryz.underlying27 rfl rfl) ?_
    refine AOps_q 43 _ rfl rfl rfl (QOp_eql _ _ _ _ _ _ _ rfl rfl rfl) ?_
    refine AOps_nil ?_
    refine kI h rfl (fun h _ => ?_) (fun h _ => ?_)
    ·refine ACode_exit ?_
     cases h
     exact Weak_keep 1 hm [4, 5] [1] _ _ rfl rfl rfl
    refine ACode_skip ?_
    refine (ACode_region ?_)
    refine kM 4 rfl ?_
    refine AOps_q 48 _ rfl rfl rfl (QOp_len_vec _ _ _ _ _ _ _ _ (intsD_length _) rfl rfl rfl rfl Tryz.underlying27 rfl rfl) ?_
    obtain ⟨r17, hr17, h⟩ := bindO h
    refine kC [0] 49 (iV r17.1) [.box (srcD r17.2), .vec 0 (intsD x13), .vec 0 (intsD r15)] rfl Tryz.call58 rfl rfl (spec_l01Next_ac x12 (r15.length : Int) _ hr17) rfl ?_
    obtain ⟨hc18, h⟩ := guardO h
    refine AOps_q 50 _ rfl rfl rfl (QOp_indexAddr_vec _ _ _ _ _ _ _ _ _ rfl Tryz.underlying27 Tryz.sizeOf2 hc18.1 (by rw [intsD_length]; exact hc18.2) rfl rfl rfl) ?_
    refine AOps_q 51 _ rfl rfl rfl (QOp_load_eptr _ _ _ _ _ _ _ rfl Tryz.isAgg2 rfl rfl (intsD_get _ _ 0 (by omega))) ?_
    obtain ⟨r19, hr19, h⟩ := bindO h
    refine AOps_callL [] 52 _ _ _ _ _ _ _ _ _ _ rfl rfl rfl rfl rfl rfl rfl Tryz.call107 rfl (nodupB_sound _ rfl) rfl rfl rfl (spec_l09Move_ac k x13 (r15.getD r17.1.toNat 0) _ hr19) ?_
    rintro _ _ ⟨rfl, rfl⟩
    refine ⟨(allc (intsD_flat _) (fun _ h => nomatch h)), (allc (trivial) (fun _ h => nomatch h)), AOps_as 52 (v' := .vec 3 0) (H' := [.box (srcD r17.2), .vec 0 (intsD x13), .vec 0 (intsD r15), .vec 0 (intsD r19)]) rfl rfl ?_⟩
    refine kN 1 rfl ?_
    refine (ACode_region ?_)
    refine kM 1 rfl ?_
    refine AOps_q 37 _ rfl rfl rfl (QOp_add _ _ _ _ _ _ _ rfl rfl rfl) ?_
    refine kN 1 rfl ?_
    exact ⟨k1, _, _, Nat.lt_succ_self _, Weak_keep 1 hm [0, 4, 5, 7, 8] [3] _ _ rfl rfl rfl, _, _, _, rfl, rfl, h⟩
   refine ACode_exit ?_
   cases h
   exact Weak_keep 1 hm [4, 5] [1] _ _ rfl rfl rfl
 refine kR ?_
 refine kN 4 rfl ?_
 refine ACode_ret ?_
 cases h
 exact ⟨_, _, Weak_reset 1 hm hz [2, 3] _ _ rfl rfl, _, _, [1], _, (.cons (ResV_tmp _ _ rfl) (.cons (ResV_tmp _ _ rfl) .nil)), rfl, rfl, rfl, rfl, rfl⟩

-- loop.example/g01362/spec.l09Bad
def spec_l09Bad_l0 (p1 : Int) : Nat → Int → Src → (List Int) → Option (Int × Src × List Int)
 | 0, _, _, _ => none
 | k0 + 1, x13, x14, x15 => (if decide (x13 < (x15.length : Int)) then (spec_l01Next x14 2).bind fun r17 => (if 0 ≤ x13 ∧ x13 < (x15.length : Int) then spec_l09Bad_l0 p1 k0 (w64 (x13 + 1)) r17.2 (x15.set x13.toNat r17.1) else none) else some (p1, x14, x15))
def spec_l09Bad (k : Nat) (p0 : Src) (p1 : Int) (p2 : List Int) : Option (Int × List Int × Src) :=
 (spec_l01Own p2).bind fun r1 => ((spec_l01Next p0 24).bind fun r2 => (if decide (r2.1 = 0) then (spec_l01Pick r2.2 ([0, 6, (-1), w64 (p1 + 1), 1099511627776])).bind fun r4 => some (r4.1, r4.2, r1) else (if decide (r2.1 = 1) then (if r1.length + ([(-1)]).length ≤ 1099511627776 then some (p1, r2.2, (r1 ++ ([(-1)]))) else none) else (if decide (r2.1 = 2) then (if decide (0 < (r1.length : Int)) then (spec_l01Next r2.2 (r1.length : Int)).bind fun r9 => (spec_l01Pick r9.2 ([(-1), 0, 1, 2, (-2)])).bind fun r10 => (if 0 ≤ r9.1 ∧ r9.1 < (r1.length : Int) then some (p1, r10.2, r1.set r9.1.toNat r10.1) else none) else some (p1, r2.2, r1)) else (if decide (r2.1 = 3) then spec_l09Bad_l0 p1 k 0 r2.2 r1 else some (p1, r2.2, r1))))) : Option (Int × Src × List Int)).bind fun s19 => some (s19.1, s19.2.2, s19.2.1)
set_option maxRecDepth 100000 in
theorem spec_l09Bad_ac (k : Nat) (p0 : Src) (p1 : Int) (p2 : List Int) (r : Int × List Int × Src) (h : spec_l09Bad k p0 p1 p2 = some r) : AC Tryz.prog 115 [.ptr 0 0, iV p1, .d (.sl none (intsD p2))] [.box (srcD p0)] (fun res H' => res = [iV r.1, .vec 1 0] ∧ H' = [.box (srcD r.2.2), .vec 0 (intsD r.2.1)]) := by
 refine AC_of_body true Tryz.func115 rfl Tryz.ntmps115 (rvs := [.tmp 6, .tmp 7]) rfl rfl (fun G hG => ?_)
 have hm : G.H.length = 1 := by rw [hG]; rfl
 have hz : zeroG G.H = true := by rw [hG]; rfl
 unfold spec_l09Bad at h
 refine kR ?_
 refine kN 2 rfl ?_
 refine kR ?_
 refine kM 1 rfl ?_
 obtain ⟨r1, hr1, h⟩ := bindO h
 refine kC [] 11 (.vec 1 0) [.box (srcD p0), .vec 0 (intsD r1)] rfl Tryz.call122 rfl rfl (spec_l01Own_ac p2 _ hr1) rfl ?_
 refine kN 1 rfl ?_
 refine kB (fun s19 => [(1, iV s19.1), (8, .vec 1 0)]) (fun s19 => [.box (srcD s19.2.1), .vec 0 (intsD s19.2.2)]) h (fun s19 h => ?_) (fun s19 h => ?_)
 ·refine kR ?_
  refine kM 1 rfl ?_
  obtain ⟨r2, hr2, h⟩ := bindO h
  refine kC [0] 13 (iV r2.1) [.box (srcD r2.2), .vec 0 (intsD r1)] rfl Tryz.call58 rfl rfl (spec_l01Next_ac p0 24 _ hr2) rfl ?_
  refine AOps_nil ?_
  refine ACode_block ?_
  refine kR ?_
  refine AOps_q 15 _ rfl rfl rfl (QOp_eql _ _ _ _ _ _ _ rfl rfl rfl) ?_
  refine kN 1 rfl ?_
  refine kI h rfl (fun h _ => ?_) (fun h _ => ?_)
  ·refine (ACode_region ?_)
   refine kM 2 rfl ?_
   refine AOps_q 18 _ rfl rfl rfl (QOp_add _ _ _ _ _ _ _ rfl rfl rfl) ?_
   refine AOps_buildSlice 19 _ _ _ [_, _, _, _, _] (intsD ([0, 6, (-1), w64 (p1 + 1), 1099511627776])) _ rfl rfl rfl rfl rfl (by decide) Tryz.underlying27 Tryz.sizeOf2 (zero_of Tryz.typeInfo2 rfl) rfl rfl (intsD_one _) ?_
   refine AOps_freezeL [19] 2 0 _ (allc (rfl) (fun _ h => nomatch h)) rfl ?_
   obtain ⟨r4, hr4, h⟩ := bindO h
   refine kC [0] 20 (iV r4.1) [.box (srcD r4.2), .vec 0 (intsD r1), .gone] rfl Tryz.call62 rfl rfl (spec_l01Pick_ac r2.2 ([0, 6, (-1), w64 (p1 + 1), 1099511627776]) _ hr4) rfl ?_
   refine kN 1 rfl ?_
   cases h
   exact Weak_keep 1 hm [1, 8] [1] _ _ rfl rfl rfl
  refine kR ?_
  refine AOps_q 22 _ rfl rfl rfl (QOp_eql _ _ _ _ _ _ _ rfl rfl rfl) ?_
  refine kN 1 rfl ?_
  refine kI h rfl (fun h _ => ?_) (fun h _ => ?_)
  ·refine (ACode_region ?_)
   refine kM 1 rfl ?_
   refine AOps_buildSlice 24 _ _ _ [_] (intsD ([(-1)])) _ rfl rfl rfl rfl rfl (by decide) Tryz.underlying27 Tryz.sizeOf2 (zero_of Tryz.typeInfo2 rfl) rfl rfl (intsD_one _) ?_
   obtain ⟨hc6, h⟩ := guardO h
   refine AOps_append 25 _ _ _ _ _ _ _ _ _ _ _ _ rfl rfl rfl rfl rfl rfl rfl Tryz.underlying27 Tryz.type2 rfl rfl rfl (by decide) rfl rfl rfl rfl (intsD_one _) (by rw [intsD_length, intsD_length]; exact hc6) ?_
   rw [intsD_app]
   refine kN 1 rfl ?_
   cases h
   exact Weak_trans (Weak_keep 1 hm [1, 8] [1] _ _ rfl rfl rfl) (Weak_reset 1 hm hz [1, 8] _ _ rfl rfl)
  refine kR ?_
  refine AOps_q 27 _ rfl rfl rfl (QOp_eql _ _ _ _ _ _ _ rfl rfl rfl) ?_
  refine kN 1 rfl ?_
  refine kI h rfl (fun h _ => ?_) (fun h _ => ?_)
  ·refine kR ?_
   refine kM 1 rfl ?_
   refine AOps_q 29 _ rfl rfl rfl (QOp_len_vec _ _ _ _ _ _ _ _ (intsD_length _) rfl rfl rfl rfl Tryz.underlying27 rfl rfl) ?_
   refine AOps_q 30 _ rfl rfl rfl (QOp_gtr _ _ _ _ _ _ _ rfl rfl rfl) ?_
   refine AOps_nil ?_
   refine kI h rfl (fun h _ => ?_) (fun h _ => ?_)
   ·refine (ACode_region ?_)
    refine kM 3 rfl ?_
    refine AOps_q 34 _ rfl rfl rfl (QOp_len_vec _ _ _ _ _ _ _ _ (intsD_length _) rfl rfl rfl rfl Tryz.underlying27 rfl rfl) ?_
    obtain ⟨r9, hr9, h⟩ := bindO h
    refine kC [0] 35 (iV r9.1) [.box (srcD r9.2), .vec 0 (intsD r1)] rfl Tryz.call58 rfl rfl (spec_l01Next_ac r2.2 (r1.length : Int) _ hr9) rfl ?_
    refine kM 1 rfl ?_
    refine AOps_buildSlice 37 _ _ _ [_, _, _, _, _] (intsD ([(-1), 0, 1, 2, (-2)])) _ rfl rfl rfl rfl rfl (by decide) Tryz.underlying27 Tryz.sizeOf2 (zero_of Tryz.typeInfo2 rfl) rfl rfl (intsD_one _) ?_
    refine AOps_freezeL [37] 2 0 _ (allc (rfl) (fun _ h => nomatch h)) rfl ?_
    obtain ⟨r10, hr10, h⟩ := bindO h
    refine kC [0] 38 (iV r10.1) [.box (srcD r10.2), .vec 0 (intsD r1), .gone] rfl Tryz.call62 rfl rfl (spec_l01Pick_ac r9.2 ([(-1), 0, 1, 2, (-2)]) _ hr10) rfl ?_
    obtain ⟨hc11, h⟩ := guardO h
    refine AOps_q 39 _ rfl rfl rfl (QOp_indexAddr_vec _ _ _ _ _ _ _ _ _ rfl Tryz.underlying27 Tryz.sizeOf2 hc11.1 (by rw [intsD_length]; exact hc11.2) rfl rfl rfl) ?_
    refine AOps_store_eptr _ _ _ _ _ _ (intsD r1) _ rfl rfl rfl rfl rfl rfl rfl Tryz.sizeOf2 (by rw [intsD_length]; omega) ?_
    rw [intsD_set]
    refine AOps_nil ?_
    cases h
    exact Weak_keep 1 hm [1, 8] [1] _ _ rfl rfl rfl
   refine ACode_skip ?_
   cases h
   exact Weak_keep 1 hm [1, 8] [1] _ _ rfl rfl rfl
  refine kR ?_
  refine AOps_q 41 _ rfl rfl rfl (QOp_eql _ _ _ _ _ _ _ rfl rfl rfl) ?_
  refine kN 1 rfl ?_
  refine kI h rfl (fun h _ => ?_) (fun h _ => ?_)
  ·refine kR ?_
   refine kN 1 rfl ?_
   refine ACode_block ?_
   refine ACode_loopW (fun k0 E H => ∃ (x13 : Int) (x14 : Src) (x15 : List Int), E = [(0, .ptr 0 0), (1, iV p1), (8, .vec 1 0), (9, iV x13)] ∧ H = [.box (srcD x14), .vec 0 (intsD x15)] ∧ spec_l09Bad_l0 p1 k0 x13 x14 x15 = some s19) k _ _ (Weak_keep 1 hm [0, 1, 8, 9] [1] _ _ rfl rfl rfl) ⟨_, _, _, rfl, rfl, h⟩ ?_
   clear h
   rintro k0 E H ⟨x13, x14, x15, rfl, rfl, h⟩
   cases k0 with
   | zero => cases (show (none : Option (Int × Src × List Int)) = some _ from h)
   | succ k0 =>
    rw [spec_l09Bad_l0] at h
    refine ACode_seq ?_
    refine kR ?_
    refine kM 2 rfl ?_
    refine AOps_q 44 _ rfl rfl rfl (QOp_len_vec _ _ _ _ _ _ _ _ (intsD_length _) rfl rfl rfl rfl Tryz.underlying27 rfl rfl) ?_
    refine AOps_q 45 _ rfl rfl rfl (QOp_lss _ _ _ _ _ _ _ rfl rfl rfl) ?_
    refine AOps_nil ?_
    refine kI h rfl (fun h _ => ?_) (fun h _ => ?_)
    ·refine ACode_skip ?_
     refine ACode_seq ?_
     refine ACode_block ?_
     refine (ACode_region ?_)
     refine kM 3 rfl ?_
     obtain ⟨r17, hr17, h⟩ := bindO h
     refine kC [0] 51 (iV r17.1) [.box (srcD r17.2), .vec 0 (intsD x15)] rfl Tryz.call58 rfl rfl (spec_l01Next_ac x14 2 _ hr17) rfl ?_
     obtain ⟨hc18, h⟩ := guardO h
     refine AOps_q 52 _ rfl rfl rfl (QOp_indexAddr_vec _ _ _ _ _ _ _ _ _ rfl Tryz.underlying27 Tryz.sizeOf2 hc18.1 (by rw [intsD_length]; exact hc18.2) rfl rfl rfl) ?_
     refine AOps_store_eptr _ _ _ _ _ _ (intsD x15) _ rfl rfl rfl rfl rfl rfl rfl Tryz.sizeOf2 (by rw [intsD_length]; omega) ?_
     rw [intsD_set]
     refine AOps_nil ?_
     refine (ACode_region ?_)
     refine kM 1 rfl ?_
     refine AOps_q 47 _ rfl rfl rfl (QOp_add _ _ _ _ _ _ _ rfl rfl rfl) ?_
     refine kN 1 rfl ?_
     exact ⟨k0, _, _, Nat.lt_succ_self _, Weak_keep 1 hm [0, 1, 8, 9] [1] _ _ rfl rfl rfl, _, _, _, rfl, rfl, h⟩
    refine ACode_exit ?_
    cases h
    exact Weak_keep 1 hm [1, 8] [1] _ _ rfl rfl rfl
  refine ACode_skip ?_
  cases h
  exact Weak_keep 1 hm [1, 8] [1] _ _ rfl rfl rfl
 refine kR ?_
 refine kN 4 rfl ?_
 refine ACode_ret ?_
 cases h
 exact ⟨_, _, Weak_reset 1 hm hz [6, 7] _ _ rfl rfl, _, _, [1], _, (.cons (ResV_tmp _ _ rfl) (.cons (ResV_tmp _ _ rfl) .nil)), rfl, rfl, rfl, rfl, rfl⟩

-- loop.example/g01362/spec.l09With
def spec_l09With (k : Nat) (p0 : List UInt8) : Option (Int × List Int) :=
 (spec_l01From k p0).bind fun r1 => (spec_l09Draw k r1).bind fun r2 => (spec_l09Bad k r2.2.2 r2.1 r2.2.1).bind fun r3 => some (r3.1, r3.2.1)
set_option maxRecDepth 100000 in
theorem spec_l09With_ac (k : Nat) (p0 : List UInt8) (r : Int × List Int) (h : spec_l09With k p0 = some r) : AC Tryz.prog 96 [.d (.sl none (bysD p0))] [] (fun res H' => res = [iV r.1, .vec 0 0] ∧ H' = [.vec 0 (intsD r.2)]) := by
 refine AC_of_body true Tryz.func96 rfl Tryz.ntmps96 (rvs := [.tmp 2, .tmp 3]) rfl rfl (fun G hG => ?_)
 have hm : G.H.length = 0 := by rw [hG]; rfl
 have hz : zeroG G.H = true := by rw [hG]; rfl
 unfold spec_l09With at h
 refine kR ?_
 refine kN 2 rfl ?_
 refine kR ?_
 refine kM 1 rfl ?_
 obtain ⟨r1, hr1, h⟩ := bindO h
 refine kC [] 8 (.ptr 0 0) [.box (srcD r1)] rfl Tryz.call57 rfl rfl (spec_l01From_ac k p0 _ hr1) rfl ?_
 refine kN 1 rfl ?_
 refine kR ?_
 refine kM 1 rfl ?_
 obtain ⟨r2, hr2, h⟩ := bindO h
 refine kC [0] 11 (.tup [iV r2.1, .vec 1 0]) [.box (srcD r2.2.2), .vec 0 (intsD r2.2.1)] rfl Tryz.call113 rfl rfl (spec_l09Draw_ac k r1 _ hr2) rfl ?_
 refine kN 5 rfl ?_
 refine kR ?_
 refine kM 3 rfl ?_
 refine AOps_freezeL [6, 13, 17] 1 0 _ (allc (rfl) (allc (rfl) (allc (rfl) (fun _ h => nomatch h)))) rfl ?_
 obtain ⟨r3, hr3, h⟩ := bindO h
 refine kC [0] 18 (.tup [iV r3.1, .vec 2 0]) [.box (srcD r3.2.2), .gone, .vec 0 (intsD r3.2.1)] rfl Tryz.call115 rfl rfl (spec_l09Bad_ac k r2.2.2 r2.1 r2.2.1 _ hr3) rfl ?_
 refine kN 5 rfl ?_
 refine kR ?_
 refine kN 4 rfl ?_
 refine ACode_ret ?_
 cases h
 exact ⟨_, _, Weak_reset 0 hm hz [2, 3] _ _ rfl rfl, _, _, [2], _, (.cons (ResV_tmp _ _ rfl) (.cons (ResV_tmp _ _ rfl) .nil)), rfl, rfl, rfl, rfl, rfl⟩

-- loop.example/g01362/spec.DrawOutcomeOf
def spec_DrawOutcomeOf (k : Nat) (p0 : List UInt8) : Option (Int × List Int) :=
 (spec_l09With k p0).bind fun r1 => some (r1.1, r1.2)
set_option maxRecDepth 100000 in
theorem spec_DrawOutcomeOf_ac (k : Nat) (p0 : List UInt8) (r : Int × List Int) (h : spec_DrawOutcomeOf k p0 = some r) : AC Tryz.prog 42 [.d (.sl none (bysD p0))] [] (fun res H' => res = [iV r.1, .vec 0 0] ∧ H' = [.vec 0 (intsD r.2)]) := by
 refine AC_of_body true Tryz.func42 rfl Tryz.ntmps42 (rvs := [.tmp 2, .tmp 3]) rfl rfl (fun G hG => ?_)
 have hm : G.H.length = 0 := by rw [hG]; rfl
 have hz : zeroG G.H = true := by rw [hG]; rfl
 unfold spec_DrawOutcomeOf at h
 refine kR ?_
 refine kN 2 rfl ?_
 refine kR ?_
 refine kM 1 rfl ?_
 obtain ⟨r1, hr1, h⟩ := bindO h
 refine kC [] 8 (.tup [iV r1.1, .vec 0 0]) [.vec 0 (intsD r1.2)] rfl Tryz.call96 rfl rfl (spec_l09With_ac k p0 _ hr1) rfl ?_
 refine kN 5 rfl ?_
 refine kR ?_
 refine kN 4 rfl ?_
 refine ACode_ret ?_
 cases h
 exact ⟨_, _, Weak_reset 0 hm hz [2, 3] _ _ rfl rfl, _, _, [0], _, (.cons (ResV_tmp _ _ rfl) (.cons (ResV_tmp _ _ rfl) .nil)), rfl, rfl, rfl, rfl, rfl⟩

-- loop.example/g01362/impl.in
def impl_in (p0 : Int) (p1 : Int) (p2 : Int) : Bool :=
 letO (if decide (p1 ≤ p0) then decide (p0 ≤ p2) else false) fun (s2 : Bool) => s2
set_option maxRecDepth 100000 in
theorem impl_in_ac (p0 : Int) (p1 : Int) (p2 : Int) : AC Tryz.prog 60 [iV p0, iV p1, iV p2] [] (fun res H' => res = [bV (impl_in p0 p1 p2)] ∧ H' = []) := by
 refine AC_of_body true Tryz.func60 rfl Tryz.ntmps60 (rvs := [.tmp 6]) rfl rfl (fun G hG => ?_)
 have hm : G.H.length = 0 := by rw [hG]; rfl
 have hz : zeroG G.H = true := by rw [hG]; rfl
 obtain ⟨r, h⟩ : ∃ r, impl_in p0 p1 p2 = r := ⟨_, rfl⟩
 rw [h]
 unfold impl_in at h
 refine kR ?_
 refine kN 1 rfl ?_
 refine kL (fun s2 => [(6, bV s2)]) (fun s2 => []) h (fun s2 h => ?_) (fun s2 h => ?_)
 ·refine (ACode_region ?_)
  refine kM 2 rfl ?_
  refine AOps_q 9 _ rfl rfl rfl (QOp_geq _ _ _ _ _ _ _ rfl rfl rfl) ?_
  refine kM 1 rfl ?_
  refine AOps_case 10 _ rfl (fun hb1 => ?_) (fun hb1 => ?_)
  ·have h := iteT hb1 h
   refine kM 2 rfl ?_
   refine AOps_q 13 _ rfl rfl rfl (QOp_leq _ _ _ _ _ _ _ rfl rfl rfl) ?_
   refine kN 2 rfl ?_
   cases h
   exact Weak_keep 0 hm [6] [] _ _ rfl rfl rfl
  have h := iteF hb1 h
  refine AOps_skip 11 rfl rfl rfl ?_
  refine AOps_skip 12 rfl rfl rfl ?_
  refine AOps_skip 13 rfl rfl rfl ?_
  refine kN 2 rfl ?_
  cases h
  exact Weak_keep 0 hm [6] [] _ _ rfl rfl rfl
 refine ACode_ret ?_
 cases h
 exact ⟨_, _, fun r a w h => ⟨r, h⟩, _, _, [], _, (.cons (ResV_tmp _ _ rfl) .nil), rfl, rfl, rfl, rfl, rfl⟩

-- loop.example/g01362/impl.size[int64]
def impl_size (p0 : List Int) : Int :=
 (p0.length : Int)
set_option maxRecDepth 100000 in
theorem impl_size_ac (p0 : List Int) : AC Tryz.prog 63 [.d (.sl none (intsD p0))] [] (fun res H' => res = [iV (impl_size p0)] ∧ H' = []) := by
 refine AC_of_body true Tryz.func63 rfl Tryz.ntmps63 (rvs := [.tmp 2]) rfl rfl (fun G hG => ?_)
 have hm : G.H.length = 0 := by rw [hG]; rfl
 have hz : zeroG G.H = true := by rw [hG]; rfl
 obtain ⟨r, h⟩ : ∃ r, impl_size p0 = r := ⟨_, rfl⟩
 rw [h]
 unfold impl_size at h
 refine kR ?_
 refine kN 1 rfl ?_
 refine kR ?_
 refine kM 1 rfl ?_
 refine AOps_q 4 _ rfl rfl rfl (QOp_len_sl _ _ _ _ _ _ _ (intsD_length _) rfl rfl rfl rfl Tryz.underlying27 rfl) ?_
 refine kN 1 rfl ?_
 refine ACode_ret ?_
 cases h
 exact ⟨_, _, fun r a w h => ⟨r, h⟩, _, _, [], _, (.cons (ResV_tmp _ _ rfl) .nil), rfl, rfl, rfl, rfl, rfl⟩

-- slices.IndexFunc[[]int64,int64]
def slices_IndexFunc_l0 (p0 : List Int) (p1 : Int → Option (Bool)) : Nat → Int → Option (Sum (Unit) (Int))
 | 0, _ => none
 | k0 + 1, x1 => (if decide (x1 < (p0.length : Int)) then (if 0 ≤ x1 ∧ x1 < (p0.length : Int) then (p1 (p0.getD x1.toNat 0)).bind fun r4 => (if r4 then some (.inr x1) else slices_IndexFunc_l0 p0 p1 k0 (w64 (x1 + 1))) else none) else some (.inl ()))
def slices_IndexFunc (k : Nat) (p0 : List Int) (p1 : Int → Option (Bool)) : Option (Int) :=
 (slices_IndexFunc_l0 p0 p1 k 0 : Option (Sum (Unit) (Int))).bind fun os6 => (match os6 with | .inl s6 => some (-1) | .inr rr => some rr)
set_option maxRecDepth 100000 in
theorem slices_IndexFunc_ac (k : Nat) (p0 : List Int) (p1 : Int → Option (Bool)) (g_p1 : FuncId) (c_p1 : List D) (hg_p1 : ∀ args w, (callFunc g_p1 args).run Tryz.prog w = .ok (.enter g_p1 args) w) (hf_p1 : ∀ (a0 : Int) (r : Bool), p1 a0 = some r → AC Tryz.prog g_p1 ([iV a0] ++ c_p1.map AV.d) [] (fun res H' => res = [bV r] ∧ H' = [])) (r : Int) (h : slices_IndexFunc k p0 p1 = some r) : AC Tryz.prog 166 [.d (.sl none (intsD p0)), .d (.clo g_p1 c_p1)] [] (fun res H' => res = [iV r] ∧ H' = []) := by
 refine AC_of_body true Tryz.func166 rfl Tryz.ntmps166 (rvs := [.tmp 4]) rfl rfl (fun G hG => ?_)
 have hm : G.H.length = 0 := by rw [hG]; rfl
 have hz : zeroG G.H = true := by rw [hG]; rfl
 unfold slices_IndexFunc at h
 refine kR ?_
 refine kN 1 rfl ?_
 refine kO (fun s6 => []) (fun s6 => []) h (fun os6 h hks6 => ?_) (fun s6 h => ?_)
 ·refine kR ?_
  refine kM 1 rfl ?_
  refine AOps_q 7 _ rfl rfl rfl (QOp_len_sl _ _ _ _ _ _ _ (intsD_length _) rfl rfl rfl rfl Tryz.underlying27 rfl) ?_
  refine kN 1 rfl ?_
  refine ACode_block ?_
  refine ACode_loopW (fun k0 E H => ∃ (x1 : Int), E = [(0, .d (.sl none (intsD p0))), (1, .d (.clo g_p1 c_p1)), (7, iV (p0.length : Int)), (8, iV x1)] ∧ H = [] ∧ slices_IndexFunc_l0 p0 p1 k0 x1 = some os6) k _ _ (Weak_keep 0 hm [0, 1, 7, 8] [] _ _ rfl rfl rfl) ⟨_, rfl, rfl, h⟩ ?_
  clear h
  rintro k0 E H ⟨x1, rfl, rfl, h⟩
  cases k0 with
  | zero => cases (show (none : Option (Sum (Unit) (Int))) = some _ from h)
  | succ k0 =>
   rw [slices_IndexFunc_l0] at h
   refine kR ?_
   refine AOps_q 9 _ rfl rfl rfl (QOp_lss _ _ _ _ _ _ _ rfl rfl rfl) ?_
   refine AOps_nil ?_
   refine ACode_seq ?_
   refine kI h rfl (fun h _ => ?_) (fun h _ => ?_)
   ·refine ACode_skip ?_
    refine ACode_seq ?_
    refine ACode_block ?_
    refine kR ?_
    refine kN 2 rfl ?_
    refine kR ?_
    refine kM 3 rfl ?_
    obtain ⟨hc3, h⟩ := guardO h
    refine AOps_q 14 _ rfl rfl rfl (QOp_indexAddr_sl _ _ _ _ _ _ _ _ rfl Tryz.underlying27 Tryz.sizeOf2 hc3.1 (by rw [intsD_length]; exact hc3.2) rfl rfl) ?_
    refine AOps_q 15 _ rfl rfl rfl (QOp_load_pv _ _ _ _ _ rfl Tryz.isAgg2 rfl (intsD_get _ _ 0 (by omega))) ?_
    obtain ⟨r4, hr4, h⟩ := bindO h
    refine kC [] 16 (bV r4) [] rfl hg_p1 rfl (viewA_mapD _) (hf_p1 (p0.getD x1.toNat 0) _ hr4) rfl ?_
    refine AOps_nil ?_
    refine kI h rfl (fun h _ => ?_) (fun h _ => ?_)
    ·refine kR ?_
     refine kN 2 rfl ?_
     refine ACode_ret ?_
     cases h
     have h := hks6
     cases h
     exact ⟨_, _, fun r a w h => ⟨r, h⟩, _, _, [], _, (.cons (ResV_tmp _ _ rfl) .nil), rfl, rfl, rfl, rfl, rfl⟩
    refine ACode_skip ?_
    refine (ACode_region ?_)
    refine AOps_q 18 _ rfl rfl rfl (QOp_add _ _ _ _ _ _ _ rfl rfl rfl) ?_
    refine kN 1 rfl ?_
    exact ⟨k0, _, _, Nat.lt_succ_self _, Weak_keep 0 hm [0, 1, 7, 8] [] _ _ rfl rfl rfl, _, rfl, rfl, h⟩
   refine ACode_exit ?_
   cases h
   exact ⟨_, rfl, Weak_keep 0 hm [] [] _ _ rfl rfl rfl⟩
 refine kR ?_
 refine kN 1 rfl ?_
 refine ACode_ret ?_
 cases h
 exact ⟨_, _, fun r a w h => ⟨r, h⟩, _, _, [], _, (.cons (ResV_tmp _ _ rfl) .nil), rfl, rfl, rfl, rfl, rfl⟩

-- slices.ContainsFunc[[]int64,int64]
def slices_ContainsFunc (k : Nat) (p0 : List Int) (p1 : Int → Option (Bool)) : Option (Bool) :=
 (slices_IndexFunc k p0 p1).bind fun r1 => some (decide (0 ≤ r1))
set_option maxRecDepth 100000 in
theorem slices_ContainsFunc_ac (k : Nat) (p0 : List Int) (p1 : Int → Option (Bool)) (g_p1 : FuncId) (c_p1 : List D) (hg_p1 : ∀ args w, (callFunc g_p1 args).run Tryz.prog w = .ok (.enter g_p1 args) w) (hf_p1 : ∀ (a0 : Int) (r : Bool), p1 a0 = some r → AC Tryz.prog g_p1 ([iV a0] ++ c_p1.map AV.d) [] (fun res H' => res = [bV r] ∧ H' = [])) (r : Bool) (h : slices_ContainsFunc k p0 p1 = some r) : AC Tryz.prog 123 [.d (.sl none (intsD p0)), .d (.clo g_p1 c_p1)] [] (fun res H' => res = [bV r] ∧ H' = []) := by
 refine AC_of_body true Tryz.func123 rfl Tryz.ntmps123 (rvs := [.tmp 4]) rfl rfl (fun G hG => ?_)
 have hm : G.H.length = 0 := by rw [hG]; rfl
 have hz : zeroG G.H = true := by rw [hG]; rfl
 unfold slices_ContainsFunc at h
 refine kR ?_
 refine kN 1 rfl ?_
 refine kR ?_
 refine kM 2 rfl ?_
 obtain ⟨r1, hr1, h⟩ := bindO h
 refine kC [] 7 (iV r1) [] rfl Tryz.call166 rfl rfl (slices_IndexFunc_ac k p0 p1 g_p1 c_p1 hg_p1 hf_p1 _ hr1) rfl ?_
 refine AOps_q 8 _ rfl rfl rfl (QOp_geq _ _ _ _ _ _ _ rfl rfl rfl) ?_
 refine kN 1 rfl ?_
 refine ACode_ret ?_
 cases h
 exact ⟨_, _, fun r a w h => ⟨r, h⟩, _, _, [], _, (.cons (ResV_tmp _ _ rfl) .nil), rfl, rfl, rfl, rfl, rfl⟩

-- loop.example/g01362/impl.areIn$1
def impl_areIn_c1 (p0 : Int) (p1 : Int) (p2 : Int) : Bool :=
 !(impl_in p0 p1 p2)
set_option maxRecDepth 100000 in
theorem impl_areIn_c1_ac (p0 : Int) (p1 : Int) (p2 : Int) : AC Tryz.prog 124 [iV p0, .d (.pv ([iD p1]) 0), .d (.pv ([iD p2]) 0)] [] (fun res H' => res = [bV (impl_areIn_c1 p0 p1 p2)] ∧ H' = []) := by
 refine AC_of_body true Tryz.func124 rfl Tryz.ntmps124 (rvs := [.tmp 4]) rfl rfl (fun G hG => ?_)
 have hm : G.H.length = 0 := by rw [hG]; rfl
 have hz : zeroG G.H = true := by rw [hG]; rfl
 obtain ⟨r, h⟩ : ∃ r, impl_areIn_c1 p0 p1 p2 = r := ⟨_, rfl⟩
 rw [h]
 unfold impl_areIn_c1 at h
 refine kR ?_
 refine kN 1 rfl ?_
 refine kR ?_
 refine kM 1 rfl ?_
 refine AOps_q 6 _ rfl rfl rfl (QOp_load_pv _ _ _ _ _ rfl Tryz.isAgg2 rfl rfl) ?_
 refine AOps_q 7 _ rfl rfl rfl (QOp_load_pv _ _ _ _ _ rfl Tryz.isAgg2 rfl rfl) ?_
 refine kC [] 8 (bV (impl_in p0 p1 p2)) [] rfl Tryz.call60 rfl rfl (impl_in_ac p0 p1 p2) rfl ?_
 refine AOps_q 9 _ rfl rfl rfl (QOp_not _ _ _ rfl rfl) ?_
 refine kN 1 rfl ?_
 refine ACode_ret ?_
 cases h
 exact ⟨_, _, fun r a w h => ⟨r, h⟩, _, _, [], _, (.cons (ResV_tmp _ _ rfl) .nil), rfl, rfl, rfl, rfl, rfl⟩

-- loop.example/g01362/impl.areIn
def impl_areIn (k : Nat) (p0 : List Int) (p1 : Int) (p2 : Int) (p3 : Int) : Option (Bool) :=
 ((if decide ((impl_size p0) = p1) then (slices_ContainsFunc k p0 (fun a0 => some (impl_areIn_c1 a0 p2 p3))).bind fun r3 => some (!r3) else some false) : Option (Bool)).bind fun s4 => some s4
set_option maxRecDepth 100000 in
theorem impl_areIn_ac (k : Nat) (p0 : List Int) (p1 : Int) (p2 : Int) (p3 : Int) (r : Bool) (h : impl_areIn k p0 p1 p2 p3 = some r) : AC Tryz.prog 64 [.d (.sl none (intsD p0)), iV p1, iV p2, iV p3] [] (fun res H' => res = [bV r] ∧ H' = []) := by
 refine AC_of_body true Tryz.func64 rfl Tryz.ntmps64 (rvs := [.tmp 8]) rfl rfl (fun G hG => ?_)
 have hm : G.H.length = 0 := by rw [hG]; rfl
 have hz : zeroG G.H = true := by rw [hG]; rfl
 unfold impl_areIn at h
 refine kR ?_
 refine AOps_boxI 6 _ _ (iD p2) _ rfl (fun c hc => by cases hc with | head => rfl | tail _ h => cases h) rfl rfl rfl rfl rfl ?_
 refine AOps_boxI 7 _ _ (iD p3) _ rfl (fun c hc => by cases hc with | head => rfl | tail _ h => cases h) rfl rfl rfl rfl rfl ?_
 refine kN 1 rfl ?_
 refine kB (fun s4 => [(8, bV s4)]) (fun s4 => []) h (fun s4 h => ?_) (fun s4 h => ?_)
 ·refine (ACode_region ?_)
  refine kM 1 rfl ?_
  refine kC [] 10 (iV (impl_size p0)) [] rfl Tryz.call63 rfl rfl (impl_size_ac p0) rfl ?_
  refine kM 1 rfl ?_
  refine AOps_q 12 _ rfl rfl rfl (QOp_eql _ _ _ _ _ _ _ rfl rfl rfl) ?_
  refine kM 1 rfl ?_
  refine AOps_case 13 _ rfl (fun hb2 => ?_) (fun hb2 => ?_)
  ·have h := iteT hb2 h
   refine kM 1 rfl ?_
   refine AOps_q 15 _ rfl rfl rfl (QOp_makeFuncD _ _ _ _ rfl rfl rfl) ?_
   obtain ⟨r3, hr3, h⟩ := bindO h
   refine kC [] 16 (bV r3) [] rfl Tryz.call123 rfl rfl (slices_ContainsFunc_ac k p0 (fun a0 => some (impl_areIn_c1 a0 p2 p3)) 124 ([.pv ([iD p2]) 0, .pv ([iD p3]) 0]) Tryz.call124 (fun a0 r h => by cases h; exact impl_areIn_c1_ac a0 p2 p3) _ hr3) rfl ?_
   refine AOps_q 17 _ rfl rfl rfl (QOp_not _ _ _ rfl rfl) ?_
   refine kN 2 rfl ?_
   cases h
   exact Weak_keep 0 hm [8] [] _ _ rfl rfl rfl
  have h := iteF hb2 h
  refine AOps_skip 14 rfl rfl rfl ?_
  refine AOps_skip 15 rfl rfl rfl ?_
  refine AOps_skip 16 rfl rfl rfl ?_
  refine AOps_skip 17 rfl rfl rfl ?_
  refine kN 2 rfl ?_
  cases h
  exact Weak_keep 0 hm [8] [] _ _ rfl rfl rfl
 refine ACode_ret ?_
 cases h
 exact ⟨_, _, fun r a w h => ⟨r, h⟩, _, _, [], _, (.cons (ResV_tmp _ _ rfl) .nil), rfl, rfl, rfl, rfl, rfl⟩

-- (loop.example/g01362/impl.position).isShape
def impl_position_isShape (k : Nat) (p0 : Pos) : Option (Bool) :=
 ((if (impl_in p0.n 1 5) then (impl_areIn k p0.l (w64 ((w64 (p0.n * (w64 (p0.n - 1)))).tdiv 2)) (-1) 1).bind fun r3 => some r3 else some false) : Option (Bool)).bind fun s4 => some s4
set_option maxRecDepth 100000 in
theorem impl_position_isShape_ac (k : Nat) (p0 : Pos) (r : Bool) (h : impl_position_isShape k p0 = some r) : AC Tryz.prog 148 [.d (.agg (posD p0))] [] (fun res H' => res = [bV r] ∧ H' = []) := by
 refine AC_of_body true Tryz.func148 rfl Tryz.ntmps148 (rvs := [.tmp 2]) rfl rfl (fun G hG => ?_)
 have hm : G.H.length = 0 := by rw [hG]; rfl
 have hz : zeroG G.H = true := by rw [hG]; rfl
 unfold impl_position_isShape at h
 refine kR ?_
 refine AOps_boxI 1 _ _ (.agg (posD p0)) (posD p0) rfl (posD_one _) rfl rfl rfl rfl rfl ?_
 refine kN 1 rfl ?_
 refine kB (fun s4 => [(2, bV s4)]) (fun s4 => []) h (fun s4 h => ?_) (fun s4 h => ?_)
 ·refine (ACode_region ?_)
  refine AOps_q 3 _ rfl rfl rfl (QOp_fieldAddr_pv _ _ _ _ _ 0 _ _ rfl Tryz.underlying96 rfl _ Tryz.sizeOf2 rfl rfl) ?_
  refine AOps_q 4 _ rfl rfl rfl (QOp_load_pv _ _ _ _ _ rfl Tryz.isAgg2 rfl rfl) ?_
  refine kC [] 5 (bV (impl_in p0.n 1 5)) [] rfl Tryz.call60 rfl rfl (impl_in_ac p0.n 1 5) rfl ?_
  refine kM 1 rfl ?_
  refine AOps_case 6 _ rfl (fun hb2 => ?_) (fun hb2 => ?_)
  ·have h := iteT hb2 h
   refine AOps_q 7 _ rfl rfl rfl (QOp_fieldAddr_pv _ _ _ _ _ 1 _ _ rfl Tryz.underlying96 rfl _ Tryz.sizeOf27 rfl rfl) ?_
   refine AOps_q 8 _ rfl rfl rfl (QOp_load_pv _ _ _ _ _ rfl Tryz.isAgg27 rfl rfl) ?_
   refine AOps_q 9 _ rfl rfl rfl (QOp_fieldAddr_pv _ _ _ _ _ 0 _ _ rfl Tryz.underlying96 rfl _ Tryz.sizeOf2 rfl rfl) ?_
   refine AOps_q 10 _ rfl rfl rfl (QOp_load_pv _ _ _ _ _ rfl Tryz.isAgg2 rfl rfl) ?_
   refine AOps_q 11 _ rfl rfl rfl (QOp_fieldAddr_pv _ _ _ _ _ 0 _ _ rfl Tryz.underlying96 rfl _ Tryz.sizeOf2 rfl rfl) ?_
   refine AOps_q 12 _ rfl rfl rfl (QOp_load_pv _ _ _ _ _ rfl Tryz.isAgg2 rfl rfl) ?_
   refine AOps_q 13 _ rfl rfl rfl (QOp_sub _ _ _ _ _ _ _ rfl rfl rfl) ?_
   refine AOps_q 14 _ rfl rfl rfl (QOp_mul _ _ _ _ _ _ _ rfl rfl rfl) ?_
   refine AOps_q 15 _ rfl rfl rfl (QOp_quo _ _ _ _ _ _ _ (by decide) rfl rfl rfl) ?_
   obtain ⟨r3, hr3, h⟩ := bindO h
   refine kC [] 16 (bV r3) [] rfl Tryz.call64 rfl rfl (impl_areIn_ac k p0.l (w64 ((w64 (p0.n * (w64 (p0.n - 1)))).tdiv 2)) (-1) 1 _ hr3) rfl ?_
   refine kN 2 rfl ?_
   cases h
   exact Weak_keep 0 hm [2] [] _ _ rfl rfl rfl
  have h := iteF hb2 h
  refine AOps_skip 7 rfl rfl rfl ?_
  refine AOps_skip 8 rfl rfl rfl ?_
  refine AOps_skip 9 rfl rfl rfl ?_
  refine AOps_skip 10 rfl rfl rfl ?_
  refine AOps_skip 11 rfl rfl rfl ?_
  refine AOps_skip 12 rfl rfl rfl ?_
  refine AOps_skip 13 rfl rfl rfl ?_
  refine AOps_skip 14 rfl rfl rfl ?_
  refine AOps_skip 15 rfl rfl rfl ?_
  refine AOps_skip 16 rfl rfl rfl ?_
  refine kN 2 rfl ?_
  cases h
  exact Weak_keep 0 hm [2] [] _ _ rfl rfl rfl
 refine ACode_ret ?_
 cases h
 exact ⟨_, _, fun r a w h => ⟨r, h⟩, _, _, [], _, (.cons (ResV_tmp _ _ rfl) .nil), rfl, rfl, rfl, rfl, rfl⟩

-- loop.example/g01362/impl.number
def impl_number (p0 : Int) (p1 : Int) : Int :=
 w64 ((w64 ((w64 ((if p0 < p1 then p1 else p0) * (w64 ((if p0 < p1 then p1 else p0) - 1)))).tdiv 2)) + (if p1 < p0 then p1 else p0))
set_option maxRecDepth 100000 in
theorem impl_number_ac (p0 : Int) (p1 : Int) : AC Tryz.prog 162 [iV p0, iV p1] [] (fun res H' => res = [iV (impl_number p0 p1)] ∧ H' = []) := by
 refine AC_of_body true Tryz.func162 rfl Tryz.ntmps162 (rvs := [.tmp 4]) rfl rfl (fun G hG => ?_)
 have hm : G.H.length = 0 := by rw [hG]; rfl
 have hz : zeroG G.H = true := by rw [hG]; rfl
 obtain ⟨r, h⟩ : ∃ r, impl_number p0 p1 = r := ⟨_, rfl⟩
 rw [h]
 unfold impl_number at h
 refine kR ?_
 refine kN 1 rfl ?_
 refine kR ?_
 refine kM 2 rfl ?_
 refine AOps_q 7 _ rfl rfl rfl (QOp_min _ _ _ _ _ _ rfl rfl rfl rfl rfl) ?_
 refine kM 2 rfl ?_
 refine AOps_q 10 _ rfl rfl rfl (QOp_max _ _ _ _ _ _ rfl rfl rfl rfl rfl) ?_
 refine kN 2 rfl ?_
 refine kR ?_
 refine kM 2 rfl ?_
 refine AOps_q 13 _ rfl rfl rfl (QOp_sub _ _ _ _ _ _ _ rfl rfl rfl) ?_
 refine AOps_q 14 _ rfl rfl rfl (QOp_mul _ _ _ _ _ _ _ rfl rfl rfl) ?_
 refine AOps_q 15 _ rfl rfl rfl (QOp_quo _ _ _ _ _ _ _ (by decide) rfl rfl rfl) ?_
 refine kM 1 rfl ?_
 refine AOps_q 17 _ rfl rfl rfl (QOp_add _ _ _ _ _ _ _ rfl rfl rfl) ?_
 refine kN 1 rfl ?_
 refine ACode_ret ?_
 cases h
 exact ⟨_, _, fun r a w h => ⟨r, h⟩, _, _, [], _, (.cons (ResV_tmp _ _ rfl) .nil), rfl, rfl, rfl, rfl, rfl⟩

-- (loop.example/g01362/impl.position).triangles$1
def impl_position_triangles_c1 (p0 : Int) (p1 : Pos) (p2 : Int) : Option (Bool) :=
 (if 0 ≤ p0 ∧ p0 < (p1.l.length : Int) then some (!decide ((p1.l.getD p0.toNat 0) = p2)) else none)
set_option maxRecDepth 100000 in
theorem impl_position_triangles_c1_ac (p0 : Int) (p1 : Pos) (p2 : Int) (r : Bool) (h : impl_position_triangles_c1 p0 p1 p2 = some r) : AC Tryz.prog 184 [iV p0, .d (.pv (posD p1) 0), .d (.pv ([iD p2]) 0)] [] (fun res H' => res = [bV r] ∧ H' = []) := by
 refine AC_of_body true Tryz.func184 rfl Tryz.ntmps184 (rvs := [.tmp 4]) rfl rfl (fun G hG => ?_)
 have hm : G.H.length = 0 := by rw [hG]; rfl
 have hz : zeroG G.H = true := by rw [hG]; rfl
 unfold impl_position_triangles_c1 at h
 refine kR ?_
 refine kN 1 rfl ?_
 refine ACode_seq (ACode_quiet mixed (by kernel_rfl) ?_)
 refine AQ_q 5 _ rfl rfl rfl (QOp_fieldAddr_pv _ _ _ _ _ 1 _ _ rfl Tryz.underlying96 rfl _ Tryz.sizeOf27 rfl rfl) ?_
 refine AQ_q 6 _ rfl rfl rfl (QOp_load_pv _ _ _ _ _ rfl Tryz.isAgg27 rfl rfl) ?_
 refine kQ 1 rfl ?_
 obtain ⟨hc1, h⟩ := guardO h
 refine AQ_q 8 _ rfl rfl rfl (QOp_indexAddr_sl _ _ _ _ _ _ _ _ rfl Tryz.underlying27 Tryz.sizeOf2 hc1.1 (by rw [intsD_length]; exact hc1.2) rfl rfl) ?_
 refine AQ_q 9 _ rfl rfl rfl (QOp_load_pv _ _ _ _ _ rfl Tryz.isAgg2 rfl (intsD_get _ _ 0 (by omega))) ?_
 refine AQ_q 10 _ rfl rfl rfl (QOp_load_pv _ _ _ _ _ rfl Tryz.isAgg2 rfl rfl) ?_
 refine AQ_q 11 _ rfl rfl rfl (QOp_neq _ _ _ _ _ _ _ rfl rfl rfl) ?_
 refine kQ 1 rfl ?_
 refine AQ_nil ?_
 refine ACode_ret ?_
 cases h
 exact ⟨_, _, fun r a w h => ⟨r, h⟩, _, _, [], _, (.cons (ResV_tmp _ _ rfl) .nil), rfl, rfl, rfl, rfl, rfl⟩

-- (loop.example/g01362/impl.position).triangles
def impl_position_triangles_l2 (k : Nat) (p0 : Pos) (p1 : Int) (x1 : Int) (x4 : Int) : Nat → Int → (List (List Int)) → Option (List (List Int))
 | 0, _, _ => none
 | k2 + 1, x7, x8 => (if decide (x7 < x4) then ((slices_ContainsFunc k ([(impl_number x7 x4), (impl_number x7 x1), (impl_number x4 x1)]) (fun a0 => impl_position_triangles_c1 a0 p0 p1)).bind fun r13 => (if !r13 then (if x8.length + ([[(impl_number x7 x4), (impl_number x7 x1), (impl_number x4 x1)]]).length ≤ 1099511627776 then some (x8 ++ ([[(impl_number x7 x4), (impl_number x7 x1), (impl_number x4 x1)]])) else none) else some x8) : Option (List (List Int))).bind fun s16 => impl_position_triangles_l2 k p0 p1 x1 x4 k2 (w64 (x7 + 1)) s16 else some x8)
def impl_position_triangles_l1 (k : Nat) (p0 : Pos) (p1 : Int) (x1 : Int) : Nat → Int → (List (List Int)) → Option (List (List Int))
 | 0, _, _ => none
 | k1 + 1, x4, x5 => (if decide (x4 < x1) then (impl_position_triangles_l2 k p0 p1 x1 x4 k 0 x5 : Option (List (List Int))).bind fun s17 => impl_position_triangles_l1 k p0 p1 x1 k1 (w64 (x4 + 1)) s17 else some x5)
def impl_position_triangles_l0 (k : Nat) (p0 : Pos) (p1 : Int) : Nat → Int → (List (List Int)) → Option (List (List Int))
 | 0, _, _ => none
 | k0 + 1, x1, x2 => (if decide (x1 < p0.n) then (impl_position_triangles_l1 k p0 p1 x1 k 0 x2 : Option (List (List Int))).bind fun s18 => impl_position_triangles_l0 k p0 p1 k0 (w64 (x1 + 1)) s18 else some x2)
def impl_position_triangles (k : Nat) (p0 : Pos) (p1 : Int) : Option (List (List Int)) :=
 (impl_position_triangles_l0 k p0 p1 k 0 ([] : List (List Int)) : Option (List (List Int))).bind fun s19 => some s19
set_option maxRecDepth 100000 in
theorem impl_position_triangles_ac (k : Nat) (p0 : Pos) (p1 : Int) (r : List (List Int)) (h : impl_position_triangles k p0 p1 = some r) : AC Tryz.prog 156 [.d (.agg (posD p0)), iV p1] [] (fun res H' => res = [.vec 0 0] ∧ H' = [.vec 0 (rowsD r)]) := by
 refine AC_of_body true Tryz.func156 rfl Tryz.ntmps156 (rvs := [.tmp 4]) rfl rfl (fun G hG => ?_)
 have hm : G.H.length = 0 := by rw [hG]; rfl
 have hz : zeroG G.H = true := by rw [hG]; rfl
 unfold impl_position_triangles at h
 refine kR ?_
 refine AOps_boxI 2 _ _ (.agg (posD p0)) (posD p0) rfl (posD_one _) rfl rfl rfl rfl rfl ?_
 refine AOps_boxI 3 _ _ (iD p1) _ rfl (fun c hc => by cases hc with | head => rfl | tail _ h => cases h) rfl rfl rfl rfl rfl ?_
 refine kN 1 rfl ?_
 refine kR ?_
 refine AOps_buildSlice 10 _ _ _ [] (rowsD ([] : List (List Int))) _ rfl rfl rfl rfl rfl (by decide) Tryz.underlying90 Tryz.sizeOf27 (zero_of Tryz.typeInfo27 rfl) rfl rfl (rowsD_one _) ?_
 refine kN 1 rfl ?_
 refine kB (fun s19 => [(5, .vec 0 0)]) (fun s19 => [.vec 0 (rowsD s19)]) h (fun s19 h => ?_) (fun s19 h => ?_)
 ·refine kR ?_
  refine AOps_q 11 _ rfl rfl rfl (QOp_fieldAddr_pv _ _ _ _ _ 0 _ _ rfl Tryz.underlying96 rfl _ Tryz.sizeOf2 rfl rfl) ?_
  refine AOps_q 12 _ rfl rfl rfl (QOp_load_pv _ _ _ _ _ rfl Tryz.isAgg2 rfl rfl) ?_
  refine kN 1 rfl ?_
  refine ACode_block ?_
  refine ACode_loopW (fun k0 E H => ∃ (x1 : Int) (x2 : List (List Int)), E = [(2, .d (.pv (posD p0) 0)), (3, .d (.pv ([iD p1]) 0)), (5, .vec 0 0), (12, iV p0.n), (13, iV x1)] ∧ H = [.vec 0 (rowsD x2)] ∧ impl_position_triangles_l0 k p0 p1 k0 x1 x2 = some s19) k _ _ (Weak_keep 0 hm [2, 3, 5, 12, 13] [0] _ _ rfl rfl rfl) ⟨_, _, rfl, rfl, h⟩ ?_
  clear h
  rintro k0 E H ⟨x1, x2, rfl, rfl, h⟩
  cases k0 with
  | zero => cases (show (none : Option (List (List Int))) = some _ from h)
  | succ k0 =>
   rw [impl_position_triangles_l0] at h
   refine kR ?_
   refine AOps_q 14 _ rfl rfl rfl (QOp_lss _ _ _ _ _ _ _ rfl rfl rfl) ?_
   refine AOps_nil ?_
   refine ACode_seq ?_
   refine kI h rfl (fun h _ => ?_) (fun h _ => ?_)
   ·refine ACode_skip ?_
    refine kB (fun s18 => [(2, .d (.pv (posD p0) 0)), (3, .d (.pv ([iD p1]) 0)), (5, .vec 0 0), (12, iV p0.n), (13, iV x1)]) (fun s18 => [.vec 0 (rowsD s18)]) h (fun s18 h => ?_) (fun s18 h => ?_)
    ·refine ACode_block ?_
     refine kR ?_
     refine kN 2 rfl ?_
     refine kR ?_
     refine kN 2 rfl ?_
     refine ACode_block ?_
     refine ACode_loopW (fun k1 E H => ∃ (x4 : Int) (x5 : List (List Int)), E = [(2, .d (.pv (posD p0) 0)), (3, .d (.pv ([iD p1]) 0)), (5, .vec 0 0), (6, iV x1), (12, iV p0.n), (13, iV x1), (16, iV x1), (17, iV x4)] ∧ H = [.vec 0 (rowsD x5)] ∧ impl_position_triangles_l1 k p0 p1 x1 k1 x4 x5 = some s18) k _ _ (Weak_keep 0 hm [2, 3, 5, 6, 12, 13, 16, 17] [0] _ _ rfl rfl rfl) ⟨_, _, rfl, rfl, h⟩ ?_
     clear h
     rintro k1 E H ⟨x4, x5, rfl, rfl, h⟩
     cases k1 with
     | zero => cases (show (none : Option (List (List Int))) = some _ from h)
     | succ k1 =>
      rw [impl_position_triangles_l1] at h
      refine kR ?_
      refine AOps_q 18 _ rfl rfl rfl (QOp_lss _ _ _ _ _ _ _ rfl rfl rfl) ?_
      refine AOps_nil ?_
      refine ACode_seq ?_
      refine kI h rfl (fun h _ => ?_) (fun h _ => ?_)
      ·refine ACode_skip ?_
       refine kB (fun s17 => [(2, .d (.pv (posD p0) 0)), (3, .d (.pv ([iD p1]) 0)), (5, .vec 0 0), (6, iV x1), (12, iV p0.n), (13, iV x1), (16, iV x1), (17, iV x4)]) (fun s17 => [.vec 0 (rowsD s17)]) h (fun s17 h => ?_) (fun s17 h => ?_)
       ·refine ACode_block ?_
        refine kR ?_
        refine kN 2 rfl ?_
        refine kR ?_
        refine kN 2 rfl ?_
        refine ACode_block ?_
        refine ACode_loopW (fun k2 E H => ∃ (x7 : Int) (x8 : List (List Int)), E = [(2, .d (.pv (posD p0) 0)), (3, .d (.pv ([iD p1]) 0)), (5, .vec 0 0), (6, iV x1), (7, iV x4), (12, iV p0.n), (13, iV x1), (16, iV x1), (17, iV x4), (20, iV x4), (21, iV x7)] ∧ H = [.vec 0 (rowsD x8)] ∧ impl_position_triangles_l2 k p0 p1 x1 x4 k2 x7 x8 = some s17) k _ _ (Weak_keep 0 hm [2, 3, 5, 6, 7, 12, 13, 16, 17, 20, 21] [0] _ _ rfl rfl rfl) ⟨_, _, rfl, rfl, h⟩ ?_
        clear h
        rintro k2 E H ⟨x7, x8, rfl, rfl, h⟩
        cases k2 with
        | zero => cases (show (none : Option (List (List Int))) = some _ from h)
        | succ k2 =>
         rw [impl_position_triangles_l2] at h
         refine kR ?_
         refine AOps_q 22 _ rfl rfl rfl (QOp_lss _ _ _ _ _ _ _ rfl rfl rfl) ?_
         refine AOps_nil ?_
         refine ACode_seq ?_
         refine kI h rfl (fun h _ => ?_) (fun h _ => ?_)
         ·refine ACode_skip ?_
          refine kB (fun s16 => [(2, .d (.pv (posD p0) 0)), (3, .d (.pv ([iD p1]) 0)), (5, .vec 0 0), (6, iV x1), (7, iV x4), (12, iV p0.n), (13, iV x1), (16, iV x1), (17, iV x4), (20, iV x4), (21, iV x7)]) (fun s16 => [.vec 0 (rowsD s16)]) h (fun s16 h => ?_) (fun s16 h => ?_)
          ·refine ACode_block ?_
           refine kR ?_
           refine kN 2 rfl ?_
           refine kR ?_
           refine kM 2 rfl ?_
           refine kC [] 26 (iV (impl_number x7 x4)) [.vec 0 (rowsD x8)] rfl Tryz.call162 rfl rfl (impl_number_ac x7 x4) rfl ?_
           refine kM 2 rfl ?_
           refine kC [] 29 (iV (impl_number x7 x1)) [.vec 0 (rowsD x8)] rfl Tryz.call162 rfl rfl (impl_number_ac x7 x1) rfl ?_
           refine kM 2 rfl ?_
           refine kC [] 32 (iV (impl_number x4 x1)) [.vec 0 (rowsD x8)] rfl Tryz.call162 rfl rfl (impl_number_ac x4 x1) rfl ?_
           refine AOps_buildSlice 33 _ _ _ [_, _, _] (intsD ([(impl_number x7 x4), (impl_number x7 x1), (impl_number x4 x1)])) _ rfl rfl rfl rfl rfl (by decide) Tryz.underlying27 Tryz.sizeOf2 (zero_of Tryz.typeInfo2 rfl) rfl rfl (intsD_one _) ?_
           refine kN 1 rfl ?_
           refine kR ?_
           refine kM 1 rfl ?_
           refine AOps_q 35 _ rfl rfl rfl (QOp_makeFuncD _ _ _ _ rfl rfl rfl) ?_
           obtain ⟨r13, hr13, h⟩ := bindO h
           refine AOps_callL [] 36 _ _ _ _ _ _ _ _ _ _ rfl rfl rfl rfl rfl rfl rfl Tryz.call123 rfl (nodupB_sound _ rfl) rfl rfl rfl (slices_ContainsFunc_ac k ([(impl_number x7 x4), (impl_number x7 x1), (impl_number x4 x1)]) (fun a0 => impl_position_triangles_c1 a0 p0 p1) 184 ([.pv (posD p0) 0, .pv ([iD p1]) 0]) Tryz.call184 (fun a0 r h => impl_position_triangles_c1_ac a0 p0 p1 r h) _ hr13) ?_
           rintro _ _ ⟨rfl, rfl⟩
           refine ⟨(fun _ h => nomatch h), (allc (flat_s _) (fun _ h => nomatch h)), AOps_as 36 (v' := bV r13) (H' := [.vec 0 (rowsD x8), .vec 0 (intsD ([(impl_number x7 x4), (impl_number x7 x1), (impl_number x4 x1)]))]) rfl rfl ?_⟩
           refine AOps_q 37 _ rfl rfl rfl (QOp_not _ _ _ rfl rfl) ?_
           refine AOps_nil ?_
           refine kI h rfl (fun h _ => ?_) (fun h _ => ?_)
           ·refine (ACode_region ?_)
            refine kM 2 rfl ?_
            refine AOps_freezeL [9, 33, 34, 39] 1 0 _ (allc (rfl) (allc (rfl) (allc (rfl) (allc (rfl) (fun _ h => nomatch h))))) rfl ?_
            refine AOps_buildSlice 40 _ _ _ [_] (rowsD ([[(impl_number x7 x4), (impl_number x7 x1), (impl_number x4 x1)]])) _ rfl rfl rfl rfl rfl (by decide) Tryz.underlying90 Tryz.sizeOf27 (zero_of Tryz.typeInfo27 rfl) rfl rfl (rowsD_one _) ?_
            obtain ⟨hc15, h⟩ := guardO h
            refine AOps_append 41 _ _ _ _ _ _ _ _ _ _ _ _ rfl rfl rfl rfl rfl rfl rfl Tryz.underlying90 Tryz.type27 rfl rfl rfl (by decide) rfl rfl rfl rfl (rowsD_one _) (by rw [rowsD_length, rowsD_length]; exact hc15) ?_
            rw [rowsD_app]
            refine kN 1 rfl ?_
            cases h
            exact Weak_trans (Weak_keep 0 hm [2, 3, 5, 6, 7, 12, 13, 16, 17, 20, 21] [0] _ _ rfl rfl rfl) (Weak_reset 0 hm hz [2, 3, 5, 6, 7, 12, 13, 16, 17, 20, 21] _ _ rfl rfl)
           refine ACode_skip ?_
           cases h
           exact Weak_keep 0 hm [2, 3, 5, 6, 7, 12, 13, 16, 17, 20, 21] [0] _ _ rfl rfl rfl
          refine (ACode_region ?_)
          refine AOps_q 42 _ rfl rfl rfl (QOp_add _ _ _ _ _ _ _ rfl rfl rfl) ?_
          refine kN 1 rfl ?_
          exact ⟨k2, _, _, Nat.lt_succ_self _, Weak_keep 0 hm [2, 3, 5, 6, 7, 12, 13, 16, 17, 20, 21] [0] _ _ rfl rfl rfl, _, _, rfl, rfl, h⟩
         refine ACode_exit ?_
         cases h
         exact Weak_keep 0 hm [2, 3, 5, 6, 12, 13, 16, 17] [0] _ _ rfl rfl rfl
       refine (ACode_region ?_)
       refine AOps_q 43 _ rfl rfl rfl (QOp_add _ _ _ _ _ _ _ rfl rfl rfl) ?_
       refine kN 1 rfl ?_
       exact ⟨k1, _, _, Nat.lt_succ_self _, Weak_keep 0 hm [2, 3, 5, 6, 12, 13, 16, 17] [0] _ _ rfl rfl rfl, _, _, rfl, rfl, h⟩
      refine ACode_exit ?_
      cases h
      exact Weak_keep 0 hm [2, 3, 5, 12, 13] [0] _ _ rfl rfl rfl
    refine (ACode_region ?_)
    refine AOps_q 44 _ rfl rfl rfl (QOp_add _ _ _ _ _ _ _ rfl rfl rfl) ?_
    refine kN 1 rfl ?_
    exact ⟨k0, _, _, Nat.lt_succ_self _, Weak_keep 0 hm [2, 3, 5, 12, 13] [0] _ _ rfl rfl rfl, _, _, rfl, rfl, h⟩
   refine ACode_exit ?_
   cases h
   exact Weak_keep 0 hm [5] [0] _ _ rfl rfl rfl
 refine kR ?_
 refine kN 2 rfl ?_
 refine ACode_ret ?_
 cases h
 exact ⟨_, _, Weak_reset 0 hm hz [4] _ _ rfl rfl, _, _, [0], _, (.cons (ResV_tmp _ _ rfl) .nil), rfl, rfl, rfl, rfl, rfl⟩

-- slices.IndexFunc[[][]int64,[]int64]
def slices_IndexFunc_R_l0 (p0 : List (List Int)) (p1 : (List Int) → Option (Bool)) : Nat → Int → Option (Sum (Unit) (Int))
 | 0, _ => none
 | k0 + 1, x1 => (if decide (x1 < (p0.length : Int)) then (if 0 ≤ x1 ∧ x1 < (p0.length : Int) then (p1 (p0.getD x1.toNat [])).bind fun r4 => (if r4 then some (.inr x1) else slices_IndexFunc_R_l0 p0 p1 k0 (w64 (x1 + 1))) else none) else some (.inl ()))
def slices_IndexFunc_R (k : Nat) (p0 : List (List Int)) (p1 : (List Int) → Option (Bool)) : Option (Int) :=
 (slices_IndexFunc_R_l0 p0 p1 k 0 : Option (Sum (Unit) (Int))).bind fun os6 => (match os6 with | .inl s6 => some (-1) | .inr rr => some rr)
set_option maxRecDepth 100000 in
theorem slices_IndexFunc_R_ac (k : Nat) (p0 : List (List Int)) (p1 : (List Int) → Option (Bool)) (g_p1 : FuncId) (c_p1 : List D) (hg_p1 : ∀ args w, (callFunc g_p1 args).run Tryz.prog w = .ok (.enter g_p1 args) w) (hf_p1 : ∀ (a0 : List Int) (r : Bool), p1 a0 = some r → AC Tryz.prog g_p1 ([.d (.sl none (intsD a0))] ++ c_p1.map AV.d) [] (fun res H' => res = [bV r] ∧ H' = [])) (r : Int) (h : slices_IndexFunc_R k p0 p1 = some r) : AC Tryz.prog 199 [.d (.sl none (rowsD p0)), .d (.clo g_p1 c_p1)] [] (fun res H' => res = [iV r] ∧ H' = []) := by
 refine AC_of_body true Tryz.func199 rfl Tryz.ntmps199 (rvs := [.tmp 4]) rfl rfl (fun G hG => ?_)
 have hm : G.H.length = 0 := by rw [hG]; rfl
 have hz : zeroG G.H = true := by rw [hG]; rfl
 unfold slices_IndexFunc_R at h
 refine kR ?_
 refine kN 1 rfl ?_
 refine kO (fun s6 => []) (fun s6 => []) h (fun os6 h hks6 => ?_) (fun s6 h => ?_)
 ·refine kR ?_
  refine kM 1 rfl ?_
  refine AOps_q 7 _ rfl rfl rfl (QOp_len_sl _ _ _ _ _ _ _ (rowsD_length _) rfl rfl rfl rfl Tryz.underlying90 rfl) ?_
  refine kN 1 rfl ?_
  refine ACode_block ?_
  refine ACode_loopW (fun k0 E H => ∃ (x1 : Int), E = [(0, .d (.sl none (rowsD p0))), (1, .d (.clo g_p1 c_p1)), (7, iV (p0.length : Int)), (8, iV x1)] ∧ H = [] ∧ slices_IndexFunc_R_l0 p0 p1 k0 x1 = some os6) k _ _ (Weak_keep 0 hm [0, 1, 7, 8] [] _ _ rfl rfl rfl) ⟨_, rfl, rfl, h⟩ ?_
  clear h
  rintro k0 E H ⟨x1, rfl, rfl, h⟩
  cases k0 with
  | zero => cases (show (none : Option (Sum (Unit) (Int))) = some _ from h)
  | succ k0 =>
   rw [slices_IndexFunc_R_l0] at h
   refine kR ?_
   refine AOps_q 9 _ rfl rfl rfl (QOp_lss _ _ _ _ _ _ _ rfl rfl rfl) ?_
   refine AOps_nil ?_
   refine ACode_seq ?_
   refine kI h rfl (fun h _ => ?_) (fun h _ => ?_)
   ·refine ACode_skip ?_
    refine ACode_seq ?_
    refine ACode_block ?_
    refine kR ?_
    refine kN 2 rfl ?_
    refine kR ?_
    refine kM 3 rfl ?_
    obtain ⟨hc3, h⟩ := guardO h
    refine AOps_q 14 _ rfl rfl rfl (QOp_indexAddr_sl _ _ _ _ _ _ _ _ rfl Tryz.underlying90 Tryz.sizeOf27 hc3.1 (by rw [rowsD_length]; exact hc3.2) rfl rfl) ?_
    refine AOps_q 15 _ rfl rfl rfl (QOp_load_pv _ _ _ _ _ rfl Tryz.isAgg27 rfl (rowsD_get _ _ [] (by omega))) ?_
    obtain ⟨r4, hr4, h⟩ := bindO h
    refine kC [] 16 (bV r4) [] rfl hg_p1 rfl (viewA_mapD _) (hf_p1 (p0.getD x1.toNat []) _ hr4) rfl ?_
    refine AOps_nil ?_
    refine kI h rfl (fun h _ => ?_) (fun h _ => ?_)
    ·refine kR ?_
     refine kN 2 rfl ?_
     refine ACode_ret ?_
     cases h
     have h := hks6
     cases h
     exact ⟨_, _, fun r a w h => ⟨r, h⟩, _, _, [], _, (.cons (ResV_tmp _ _ rfl) .nil), rfl, rfl, rfl, rfl, rfl⟩
    refine ACode_skip ?_
    refine (ACode_region ?_)
    refine AOps_q 18 _ rfl rfl rfl (QOp_add _ _ _ _ _ _ _ rfl rfl rfl) ?_
    refine kN 1 rfl ?_
    exact ⟨k0, _, _, Nat.lt_succ_self _, Weak_keep 0 hm [0, 1, 7, 8] [] _ _ rfl rfl rfl, _, rfl, rfl, h⟩
   refine ACode_exit ?_
   cases h
   exact ⟨_, rfl, Weak_keep 0 hm [] [] _ _ rfl rfl rfl⟩
 refine kR ?_
 refine kN 1 rfl ?_
 refine ACode_ret ?_
 cases h
 exact ⟨_, _, fun r a w h => ⟨r, h⟩, _, _, [], _, (.cons (ResV_tmp _ _ rfl) .nil), rfl, rfl, rfl, rfl, rfl⟩

-- slices.ContainsFunc[[][]int64,[]int64]
def slices_ContainsFunc_R (k : Nat) (p0 : List (List Int)) (p1 : (List Int) → Option (Bool)) : Option (Bool) :=
 (slices_IndexFunc_R k p0 p1).bind fun r1 => some (decide (0 ≤ r1))
set_option maxRecDepth 100000 in
theorem slices_ContainsFunc_R_ac (k : Nat) (p0 : List (List Int)) (p1 : (List Int) → Option (Bool)) (g_p1 : FuncId) (c_p1 : List D) (hg_p1 : ∀ args w, (callFunc g_p1 args).run Tryz.prog w = .ok (.enter g_p1 args) w) (hf_p1 : ∀ (a0 : List Int) (r : Bool), p1 a0 = some r → AC Tryz.prog g_p1 ([.d (.sl none (intsD a0))] ++ c_p1.map AV.d) [] (fun res H' => res = [bV r] ∧ H' = [])) (r : Bool) (h : slices_ContainsFunc_R k p0 p1 = some r) : AC Tryz.prog 181 [.d (.sl none (rowsD p0)), .d (.clo g_p1 c_p1)] [] (fun res H' => res = [bV r] ∧ H' = []) := by
 refine AC_of_body true Tryz.func181 rfl Tryz.ntmps181 (rvs := [.tmp 4]) rfl rfl (fun G hG => ?_)
 have hm : G.H.length = 0 := by rw [hG]; rfl
 have hz : zeroG G.H = true := by rw [hG]; rfl
 unfold slices_ContainsFunc_R at h
 refine kR ?_
 refine kN 1 rfl ?_
 refine kR ?_
 refine kM 2 rfl ?_
 obtain ⟨r1, hr1, h⟩ := bindO h
 refine kC [] 7 (iV r1) [] rfl Tryz.call199 rfl rfl (slices_IndexFunc_R_ac k p0 p1 g_p1 c_p1 hg_p1 hf_p1 _ hr1) rfl ?_
 refine AOps_q 8 _ rfl rfl rfl (QOp_geq _ _ _ _ _ _ _ rfl rfl rfl) ?_
 refine kN 1 rfl ?_
 refine ACode_ret ?_
 cases h
 exact ⟨_, _, fun r a w h => ⟨r, h⟩, _, _, [], _, (.cons (ResV_tmp _ _ rfl) .nil), rfl, rfl, rfl, rfl, rfl⟩

-- slices.Index[[]int64,int64]
def slices_Index_l0 (p0 : List Int) (p1 : Int) : Nat → Int → Option (Sum (Unit) (Int))
 | 0, _ => none
 | k0 + 1, x1 => (if decide (x1 < (p0.length : Int)) then (if 0 ≤ x1 ∧ x1 < (p0.length : Int) then (if decide (p1 = (p0.getD x1.toNat 0)) then some (.inr x1) else slices_Index_l0 p0 p1 k0 (w64 (x1 + 1))) else none) else some (.inl ()))
def slices_Index (k : Nat) (p0 : List Int) (p1 : Int) : Option (Int) :=
 (slices_Index_l0 p0 p1 k 0 : Option (Sum (Unit) (Int))).bind fun os5 => (match os5 with | .inl s5 => some (-1) | .inr rr => some rr)
set_option maxRecDepth 100000 in
theorem slices_Index_ac (k : Nat) (p0 : List Int) (p1 : Int) (r : Int) (h : slices_Index k p0 p1 = some r) : AC Tryz.prog 185 [.d (.sl none (intsD p0)), iV p1] [] (fun res H' => res = [iV r] ∧ H' = []) := by
 refine AC_of_body true Tryz.func185 rfl Tryz.ntmps185 (rvs := [.tmp 4]) rfl rfl (fun G hG => ?_)
 have hm : G.H.length = 0 := by rw [hG]; rfl
 have hz : zeroG G.H = true := by rw [hG]; rfl
 unfold slices_Index at h
 refine kR ?_
 refine kN 1 rfl ?_
 refine kO (fun s5 => []) (fun s5 => []) h (fun os5 h hks5 => ?_) (fun s5 h => ?_)
 ·refine kR ?_
  refine kM 1 rfl ?_
  refine AOps_q 7 _ rfl rfl rfl (QOp_len_sl _ _ _ _ _ _ _ (intsD_length _) rfl rfl rfl rfl Tryz.underlying27 rfl) ?_
  refine kN 1 rfl ?_
  refine ACode_block ?_
  refine ACode_loopW (fun k0 E H => ∃ (x1 : Int), E = [(0, .d (.sl none (intsD p0))), (1, iV p1), (7, iV (p0.length : Int)), (8, iV x1)] ∧ H = [] ∧ slices_Index_l0 p0 p1 k0 x1 = some os5) k _ _ (Weak_keep 0 hm [0, 1, 7, 8] [] _ _ rfl rfl rfl) ⟨_, rfl, rfl, h⟩ ?_
  clear h
  rintro k0 E H ⟨x1, rfl, rfl, h⟩
  cases k0 with
  | zero => cases (show (none : Option (Sum (Unit) (Int))) = some _ from h)
  | succ k0 =>
   rw [slices_Index_l0] at h
   refine kR ?_
   refine AOps_q 9 _ rfl rfl rfl (QOp_lss _ _ _ _ _ _ _ rfl rfl rfl) ?_
   refine AOps_nil ?_
   refine ACode_seq ?_
   refine kI h rfl (fun h _ => ?_) (fun h _ => ?_)
   ·refine ACode_skip ?_
    refine ACode_seq ?_
    refine ACode_block ?_
    refine kR ?_
    refine kN 2 rfl ?_
    refine kR ?_
    refine kM 3 rfl ?_
    obtain ⟨hc3, h⟩ := guardO h
    refine AOps_q 14 _ rfl rfl rfl (QOp_indexAddr_sl _ _ _ _ _ _ _ _ rfl Tryz.underlying27 Tryz.sizeOf2 hc3.1 (by rw [intsD_length]; exact hc3.2) rfl rfl) ?_
    refine AOps_q 15 _ rfl rfl rfl (QOp_load_pv _ _ _ _ _ rfl Tryz.isAgg2 rfl (intsD_get _ _ 0 (by omega))) ?_
    refine AOps_q 16 _ rfl rfl rfl (QOp_eql _ _ _ _ _ _ _ rfl rfl rfl) ?_
    refine AOps_nil ?_
    refine kI h rfl (fun h _ => ?_) (fun h _ => ?_)
    ·refine kR ?_
     refine kN 2 rfl ?_
     refine ACode_ret ?_
     cases h
     have h := hks5
     cases h
     exact ⟨_, _, fun r a w h => ⟨r, h⟩, _, _, [], _, (.cons (ResV_tmp _ _ rfl) .nil), rfl, rfl, rfl, rfl, rfl⟩
    refine ACode_skip ?_
    refine (ACode_region ?_)
    refine AOps_q 18 _ rfl rfl rfl (QOp_add _ _ _ _ _ _ _ rfl rfl rfl) ?_
    refine kN 1 rfl ?_
    exact ⟨k0, _, _, Nat.lt_succ_self _, Weak_keep 0 hm [0, 1, 7, 8] [] _ _ rfl rfl rfl, _, rfl, rfl, h⟩
   refine ACode_exit ?_
   cases h
   exact ⟨_, rfl, Weak_keep 0 hm [] [] _ _ rfl rfl rfl⟩
 refine kR ?_
 refine kN 1 rfl ?_
 refine ACode_ret ?_
 cases h
 exact ⟨_, _, fun r a w h => ⟨r, h⟩, _, _, [], _, (.cons (ResV_tmp _ _ rfl) .nil), rfl, rfl, rfl, rfl, rfl⟩

-- slices.Contains[[]int64,int64]
def slices_Contains (k : Nat) (p0 : List Int) (p1 : Int) : Option (Bool) :=
 (slices_Index k p0 p1).bind fun r1 => some (decide (0 ≤ r1))
set_option maxRecDepth 100000 in
theorem slices_Contains_ac (k : Nat) (p0 : List Int) (p1 : Int) (r : Bool) (h : slices_Contains k p0 p1 = some r) : AC Tryz.prog 161 [.d (.sl none (intsD p0)), iV p1] [] (fun res H' => res = [bV r] ∧ H' = []) := by
 refine AC_of_body true Tryz.func161 rfl Tryz.ntmps161 (rvs := [.tmp 4]) rfl rfl (fun G hG => ?_)
 have hm : G.H.length = 0 := by rw [hG]; rfl
 have hz : zeroG G.H = true := by rw [hG]; rfl
 unfold slices_Contains at h
 refine kR ?_
 refine kN 1 rfl ?_
 refine kR ?_
 refine kM 2 rfl ?_
 obtain ⟨r1, hr1, h⟩ := bindO h
 refine kC [] 7 (iV r1) [] rfl Tryz.call185 rfl rfl (slices_Index_ac k p0 p1 _ hr1) rfl ?_
 refine AOps_q 8 _ rfl rfl rfl (QOp_geq _ _ _ _ _ _ _ rfl rfl rfl) ?_
 refine kN 1 rfl ?_
 refine ACode_ret ?_
 cases h
 exact ⟨_, _, fun r a w h => ⟨r, h⟩, _, _, [], _, (.cons (ResV_tmp _ _ rfl) .nil), rfl, rfl, rfl, rfl, rfl⟩

-- (loop.example/g01362/impl.position).isPosition$1
def impl_position_isPosition_c1 (k : Nat) (p0 : List Int) (p1 : Int) : Option (Bool) :=
 (slices_Contains k p0 p1).bind fun r1 => some (!r1)
set_option maxRecDepth 100000 in
theorem impl_position_isPosition_c1_ac (k : Nat) (p0 : List Int) (p1 : Int) (r : Bool) (h : impl_position_isPosition_c1 k p0 p1 = some r) : AC Tryz.prog 182 [.d (.sl none (intsD p0)), .d (.pv ([iD p1]) 0)] [] (fun res H' => res = [bV r] ∧ H' = []) := by
 refine AC_of_body true Tryz.func182 rfl Tryz.ntmps182 (rvs := [.tmp 3]) rfl rfl (fun G hG => ?_)
 have hm : G.H.length = 0 := by rw [hG]; rfl
 have hz : zeroG G.H = true := by rw [hG]; rfl
 unfold impl_position_isPosition_c1 at h
 refine kR ?_
 refine kN 1 rfl ?_
 refine kR ?_
 refine kM 1 rfl ?_
 refine AOps_q 5 _ rfl rfl rfl (QOp_load_pv _ _ _ _ _ rfl Tryz.isAgg2 rfl rfl) ?_
 obtain ⟨r1, hr1, h⟩ := bindO h
 refine kC [] 6 (bV r1) [] rfl Tryz.call161 rfl rfl (slices_Contains_ac k p0 p1 _ hr1) rfl ?_
 refine AOps_q 7 _ rfl rfl rfl (QOp_not _ _ _ rfl rfl) ?_
 refine kN 1 rfl ?_
 refine ACode_ret ?_
 cases h
 exact ⟨_, _, fun r a w h => ⟨r, h⟩, _, _, [], _, (.cons (ResV_tmp _ _ rfl) .nil), rfl, rfl, rfl, rfl, rfl⟩

-- (loop.example/g01362/impl.position).isPosition
def impl_position_isPosition_l0 (k : Nat) (p0 : Pos) (r10 : List (List Int)) : Nat → Int → Option (Sum (Unit) (Bool))
 | 0, _ => none
 | k0 + 1, x12 => (if decide (x12 < (impl_size p0.l)) then (slices_ContainsFunc_R k r10 (fun a0 => impl_position_isPosition_c1 k a0 x12)).bind fun r14 => (if !r14 then some (.inr true) else impl_position_isPosition_l0 k p0 r10 k0 (w64 (x12 + 1))) else some (.inl ()))
def impl_position_isPosition (k : Nat) (p0 : Pos) : Option (Bool) :=
 (((impl_position_mover k p0).bind fun r1 => (if !(impl_in r1 0 1) then some true else (impl_position_mover k p0).bind fun r4 => (impl_position_triangles k p0 r4).bind fun r5 => some (decide (0 < (r5.length : Int)))) : Option (Bool)).bind fun s6 => (if s6 then some (.inr false) else some (.inl ())) : Option (Sum (Unit) (Bool))).bind fun os8 => (match os8 with | .inl s8 => (impl_position_mover k p0).bind fun r9 => (impl_position_triangles k p0 (w64 (1 - r9))).bind fun r10 => (impl_position_isPosition_l0 k p0 r10 k 0 : Option (Sum (Unit) (Bool))).bind fun os16 => (match os16 with | .inl s16 => some (decide ((r10.length : Int) = 0)) | .inr rr => some rr) | .inr rr => some rr)
set_option maxRecDepth 100000 in
theorem impl_position_isPosition_ac (k : Nat) (p0 : Pos) (r : Bool) (h : impl_position_isPosition k p0 = some r) : AC Tryz.prog 149 [.d (.agg (posD p0))] [] (fun res H' => res = [bV r] ∧ H' = []) := by
 refine AC_of_body true Tryz.func149 rfl Tryz.ntmps149 (rvs := [.tmp 2]) rfl rfl (fun G hG => ?_)
 have hm : G.H.length = 0 := by rw [hG]; rfl
 have hz : zeroG G.H = true := by rw [hG]; rfl
 unfold impl_position_isPosition at h
 refine kR ?_
 refine AOps_boxI 1 _ _ (.agg (posD p0)) (posD p0) rfl (posD_one _) rfl rfl rfl rfl rfl ?_
 refine kN 1 rfl ?_
 refine kO (fun s8 => [(1, .d (.pv (posD p0) 0))]) (fun s8 => []) h (fun os8 h hks8 => ?_) (fun s8 h => ?_)
 ·refine kB (fun s6 => [(1, .d (.pv (posD p0) 0)), (16, bV s6)]) (fun s6 => []) h (fun s6 h => ?_) (fun s6 h => ?_)
  ·refine ACode_any mixed ?_
   refine AAny_q 0 5 _ rfl (by kernel_rfl) rfl rfl rfl (QOp_loadN_pv _ _ _ _ _ _ rfl Tryz.isAgg96 Tryz.sizeOf96 rfl (posD_all _) (posD_length _)) ?_
   obtain ⟨r1, hr1, h⟩ := bindO h
   refine AAny_call 1 6 _ _ _ _ _ _ _ _ _ rfl (by kernel_rfl) rfl rfl rfl rfl rfl rfl rfl Tryz.call151 rfl rfl rfl (impl_position_mover_ac k p0 _ hr1) ?_
   refine AAny_call 2 7 _ _ _ _ _ _ _ _ _ rfl (by kernel_rfl) rfl rfl rfl rfl rfl rfl rfl Tryz.call60 rfl rfl rfl (impl_in_ac r1 0 1) ?_
   refine AAny_q 3 8 _ rfl (by kernel_rfl) rfl rfl rfl (QOp_not _ _ _ rfl rfl) ?_
   refine AAny_q 4 9 _ rfl (by kernel_rfl) rfl rfl rfl (QOp_move _ _ rfl rfl) ?_
   refine AAny_case 9 _ rfl (fun hb3 => ?_) (fun hb3 => ?_)
   ·have h := iteT hb3 h
    refine AAny_skip 5 10 rfl (by kernel_rfl) rfl rfl rfl ?_
    refine AAny_skip 6 11 rfl (by kernel_rfl) rfl rfl rfl ?_
    refine AAny_skip 7 12 rfl (by kernel_rfl) rfl rfl rfl ?_
    refine AAny_skip 8 13 rfl (by kernel_rfl) rfl rfl rfl ?_
    refine AAny_skip 9 14 rfl (by kernel_rfl) rfl rfl rfl ?_
    refine AAny_skip 10 15 rfl (by kernel_rfl) rfl rfl rfl ?_
    refine AAny_q 11 16 _ rfl (by kernel_rfl) rfl rfl rfl (QOp_pick_t _ _ _ _ rfl rfl rfl) ?_
    refine AAny_done (by kernel_rfl) ?_
    cases h
    exact Weak_keep 0 hm [1, 16] [] _ _ rfl rfl rfl
   have h := iteF hb3 h
   refine AAny_q 5 10 _ rfl (by kernel_rfl) rfl rfl rfl (QOp_loadN_pv _ _ _ _ _ _ rfl Tryz.isAgg96 Tryz.sizeOf96 rfl (posD_all _) (posD_length _)) ?_
   refine AAny_q 6 11 _ rfl (by kernel_rfl) rfl rfl rfl (QOp_loadN_pv _ _ _ _ _ _ rfl Tryz.isAgg96 Tryz.sizeOf96 rfl (posD_all _) (posD_length _)) ?_
   obtain ⟨r4, hr4, h⟩ := bindO h
   refine AAny_call 7 12 _ _ _ _ _ _ _ _ _ rfl (by kernel_rfl) rfl rfl rfl rfl rfl rfl rfl Tryz.call151 rfl rfl rfl (impl_position_mover_ac k p0 _ hr4) ?_
   refine AAny_all [8] (by kernel_rfl) rfl (allc ?_ (fun _ h => nomatch h))
   obtain ⟨r5, hr5, h⟩ := bindO h
   refine AStep_callN 8 13 _ _ _ _ _ _ _ _ _ rfl rfl rfl rfl rfl rfl rfl rfl Tryz.call156 rfl rfl rfl (impl_position_triangles_ac k p0 r4 _ hr5) ?_
   rintro _ _ ⟨rfl, rfl⟩
   refine ⟨(allc (fun _ _ => trivial) (fun _ h => nomatch h)), (allc (trivial) (fun _ h => nomatch h)), AAny_as 13 (v' := .vec 0 0) (H' := [.vec 0 (rowsD r5)]) rfl rfl ?_⟩
   refine AAny_q 9 14 _ rfl (by kernel_rfl) rfl rfl rfl (QOp_len_vec _ _ _ _ _ _ _ _ (rowsD_length _) rfl rfl rfl rfl Tryz.underlying90 rfl rfl) ?_
   refine AAny_q 10 15 _ rfl (by kernel_rfl) rfl rfl rfl (QOp_gtr _ _ _ _ _ _ _ rfl rfl rfl) ?_
   refine AAny_q 11 16 _ rfl (by kernel_rfl) rfl rfl rfl (QOp_pick_f _ _ _ _ rfl rfl rfl) ?_
   refine AAny_done (by kernel_rfl) ?_
   cases h
   exact Weak_keep 0 hm [1, 16] [] _ _ rfl rfl rfl
  refine kI h rfl (fun h _ => ?_) (fun h _ => ?_)
  ·refine kR ?_
   refine kN 1 rfl ?_
   refine ACode_ret ?_
   cases h
   have h := hks8
   cases h
   exact ⟨_, _, fun r a w h => ⟨r, h⟩, _, _, [], _, (.cons (ResV_tmp _ _ rfl) .nil), rfl, rfl, rfl, rfl, rfl⟩
  refine ACode_skip ?_
  cases h
  exact ⟨_, rfl, Weak_keep 0 hm [1] [] _ _ rfl rfl rfl⟩
 obtain ⟨r9, hr9, h⟩ := bindO h
 obtain ⟨r10, hr10, h⟩ := bindO h
 refine ACode_seqJ (fun E' H' => Weak 36 G E' H' [(1, .d (.pv (posD p0) 0)), (3, .vec 0 0)] [.vec 0 (rowsD r10)]) ?_ ?_
 ·refine ACode_any mixed ?_
  refine AAny_q 0 17 _ rfl (by kernel_rfl) rfl rfl rfl (QOp_loadN_pv _ _ _ _ _ _ rfl Tryz.isAgg96 Tryz.sizeOf96 rfl (posD_all _) (posD_length _)) ?_
  refine AAny_q 1 18 _ rfl (by kernel_rfl) rfl rfl rfl (QOp_loadN_pv _ _ _ _ _ _ rfl Tryz.isAgg96 Tryz.sizeOf96 rfl (posD_all _) (posD_length _)) ?_
  refine AAny_call 2 19 _ _ _ _ _ _ _ _ _ rfl (by kernel_rfl) rfl rfl rfl rfl rfl rfl rfl Tryz.call151 rfl rfl rfl (impl_position_mover_ac k p0 _ hr9) ?_
  refine AAny_q 3 20 _ rfl (by kernel_rfl) rfl rfl rfl (QOp_sub _ _ _ _ _ _ _ rfl rfl rfl) ?_
  refine AAny_all [4] (by kernel_rfl) rfl (allc ?_ (fun _ h => nomatch h))
  refine AStep_callN 4 21 _ _ _ _ _ _ _ _ _ rfl rfl rfl rfl rfl rfl rfl rfl Tryz.call156 rfl rfl rfl (impl_position_triangles_ac k p0 (w64 (1 - r9)) _ hr10) ?_
  rintro _ _ ⟨rfl, rfl⟩
  refine ⟨(allc (fun _ _ => trivial) (fun _ h => nomatch h)), (allc (trivial) (fun _ h => nomatch h)), AAny_as 21 (v' := .vec 0 0) (H' := [.vec 0 (rowsD r10)]) rfl rfl ?_⟩
  refine AAny_q 5 3 _ rfl (by kernel_rfl) rfl rfl rfl (QOp_assign _ _ rfl rfl) ?_
  refine AAny_done (by kernel_rfl) ?_
  exact Weak_keep 0 hm [1, 3] [0] _ _ rfl rfl rfl
 intro E' H' hw
 refine ACode_weak hw ?_
 refine kO (fun s16 => [(3, .vec 0 0)]) (fun s16 => [.vec 0 (rowsD r10)]) h (fun os16 h hks16 => ?_) (fun s16 h => ?_)
 ·refine kR ?_
  refine AOps_q 22 _ rfl rfl rfl (QOp_fieldAddr_pv _ _ _ _ _ 1 _ _ rfl Tryz.underlying96 rfl _ Tryz.sizeOf27 rfl rfl) ?_
  refine AOps_q 23 _ rfl rfl rfl (QOp_load_pv _ _ _ _ _ rfl Tryz.isAgg27 rfl rfl) ?_
  refine kC [] 24 (iV (impl_size p0.l)) [.vec 0 (rowsD r10)] rfl Tryz.call63 rfl rfl (impl_size_ac p0.l) rfl ?_
  refine kN 1 rfl ?_
  refine ACode_block ?_
  refine ACode_loopW (fun k0 E H => ∃ (x12 : Int), E = [(3, .vec 0 0), (24, iV (impl_size p0.l)), (25, iV x12)] ∧ H = [.vec 0 (rowsD r10)] ∧ impl_position_isPosition_l0 k p0 r10 k0 x12 = some os16) k _ _ (Weak_keep 0 hm [3, 24, 25] [0] _ _ rfl rfl rfl) ⟨_, rfl, rfl, h⟩ ?_
  clear h
  rintro k0 E H ⟨x12, rfl, rfl, h⟩
  cases k0 with
  | zero => cases (show (none : Option (Sum (Unit) (Bool))) = some _ from h)
  | succ k0 =>
   rw [impl_position_isPosition_l0] at h
   refine kR ?_
   refine AOps_q 26 _ rfl rfl rfl (QOp_lss _ _ _ _ _ _ _ rfl rfl rfl) ?_
   refine AOps_nil ?_
   refine ACode_seq ?_
   refine kI h rfl (fun h _ => ?_) (fun h _ => ?_)
   ·refine ACode_skip ?_
    refine ACode_seq ?_
    refine ACode_block ?_
    refine kR ?_
    refine kM 1 rfl ?_
    refine AOps_alloc 4 _ _ ([iD 0]) (zero_of Tryz.typeInfo2 rfl) (by rfl) rfl rfl rfl rfl ?_
    refine AOps_store1 _ _ _ _ _ _ _ _ rfl rfl rfl rfl rfl rfl rfl Tryz.sizeOf2 (Nat.le_of_ble_eq_true rfl) rfl ?_
    refine AOps_nil ?_
    refine kR ?_
    refine kM 1 rfl ?_
    refine AOps_q 29 _ rfl rfl rfl (QOp_makeFunc _ _ _ rfl rfl) ?_
    obtain ⟨r14, hr14, h⟩ := bindO h
    refine AOps_callL [] 30 _ _ _ _ _ _ _ _ _ _ rfl rfl rfl rfl rfl rfl rfl Tryz.call181 rfl (nodupB_sound _ rfl) rfl rfl rfl (slices_ContainsFunc_R_ac k r10 (fun a0 => impl_position_isPosition_c1 k a0 x12) 182 ([.pv ([iD x12]) 0]) Tryz.call182 (fun a0 r h => impl_position_isPosition_c1_ac k a0 x12 r h) _ hr14) ?_
    rintro _ _ ⟨rfl, rfl⟩
    refine ⟨(fun _ h => nomatch h), (allc (flat_s _) (fun _ h => nomatch h)), AOps_as 30 (v' := bV r14) (H' := [.vec 0 (rowsD r10), .box [iD x12]]) rfl rfl ?_⟩
    refine AOps_q 31 _ rfl rfl rfl (QOp_not _ _ _ rfl rfl) ?_
    refine AOps_nil ?_
    refine kI h rfl (fun h _ => ?_) (fun h _ => ?_)
    ·refine kR ?_
     refine kN 1 rfl ?_
     refine ACode_ret ?_
     cases h
     have h := hks16
     cases h
     exact ⟨_, _, fun r a w h => ⟨r, h⟩, _, _, [], _, (.cons (ResV_tmp _ _ rfl) .nil), rfl, rfl, rfl, rfl, rfl⟩
    refine ACode_skip ?_
    refine (ACode_region ?_)
    refine AOps_q 32 _ rfl rfl rfl (QOp_add _ _ _ _ _ _ _ rfl rfl rfl) ?_
    refine kN 1 rfl ?_
    exact ⟨k0, _, _, Nat.lt_succ_self _, Weak_keep 0 hm [3, 24, 25] [0] _ _ rfl rfl rfl, _, rfl, rfl, h⟩
   refine ACode_exit ?_
   cases h
   exact ⟨_, rfl, Weak_keep 0 hm [3] [0] _ _ rfl rfl rfl⟩
 refine kR ?_
 refine kM 1 rfl ?_
 refine AOps_q 34 _ rfl rfl rfl (QOp_len_vec _ _ _ _ _ _ _ _ (rowsD_length _) rfl rfl rfl rfl Tryz.underlying90 rfl rfl) ?_
 refine AOps_q 35 _ rfl rfl rfl (QOp_eql _ _ _ _ _ _ _ rfl rfl rfl) ?_
 refine kN 1 rfl ?_
 refine ACode_ret ?_
 cases h
 exact ⟨_, _, fun r a w h => ⟨r, h⟩, _, _, [], _, (.cons (ResV_tmp _ _ rfl) .nil), rfl, rfl, rfl, rfl, rfl⟩

-- (loop.example/g01362/impl.position).code
def impl_position_code (k : Nat) (p0 : Pos) (p1 : Option (Bool)) : Option (Int) :=
 (((impl_position_isShape k p0).bind fun r1 => (if !r1 then some true else (p1).bind fun r3 => some (!r3)) : Option (Bool)).bind fun s4 => (if s4 then some (.inr 2) else (impl_position_isPosition k p0).bind fun r6 => (if !r6 then some (.inr 1) else some (.inl ()))) : Option (Sum (Unit) (Int))).bind fun os8 => (match os8 with | .inl s8 => some 0 | .inr rr => some rr)
set_option maxRecDepth 100000 in
theorem impl_position_code_ac (k : Nat) (p0 : Pos) (p1 : Option (Bool)) (g_p1 : FuncId) (c_p1 : List D) (hg_p1 : ∀ args w, (callFunc g_p1 args).run Tryz.prog w = .ok (.enter g_p1 args) w) (hf_p1 : ∀ (r : Bool), p1 = some r → AC Tryz.prog g_p1 ([] ++ c_p1.map AV.d) [] (fun res H' => res = [bV r] ∧ H' = [])) (r : Int) (h : impl_position_code k p0 p1 = some r) : AC Tryz.prog 97 [.d (.agg (posD p0)), .d (.clo g_p1 c_p1)] [] (fun res H' => res = [iV r] ∧ H' = []) := by
 refine AC_of_body true Tryz.func97 rfl Tryz.ntmps97 (rvs := [.tmp 4]) rfl rfl (fun G hG => ?_)
 have hm : G.H.length = 0 := by rw [hG]; rfl
 have hz : zeroG G.H = true := by rw [hG]; rfl
 unfold impl_position_code at h
 refine kR ?_
 refine AOps_boxI 2 _ _ (.agg (posD p0)) (posD p0) rfl (posD_one _) rfl rfl rfl rfl rfl ?_
 refine kN 1 rfl ?_
 refine kO (fun s8 => []) (fun s8 => []) h (fun os8 h hks8 => ?_) (fun s8 h => ?_)
 ·refine ACode_block ?_
  refine kB (fun s4 => [(2, .d (.pv (posD p0) 0)), (5, bV s4)]) (fun s4 => []) h (fun s4 h => ?_) (fun s4 h => ?_)
  ·refine (ACode_region ?_)
   refine AOps_q 6 _ rfl rfl rfl (QOp_loadN_pv _ _ _ _ _ _ rfl Tryz.isAgg96 Tryz.sizeOf96 rfl (posD_all _) (posD_length _)) ?_
   obtain ⟨r1, hr1, h⟩ := bindO h
   refine kC [] 7 (bV r1) [] rfl Tryz.call148 rfl rfl (impl_position_isShape_ac k p0 _ hr1) rfl ?_
   refine AOps_q 8 _ rfl rfl rfl (QOp_not _ _ _ rfl rfl) ?_
   refine kM 1 rfl ?_
   refine AOps_case 9 _ rfl (fun hb2 => ?_) (fun hb2 => ?_)
   ·have h := iteT hb2 h
    refine AOps_skip 10 rfl rfl rfl ?_
    refine AOps_skip 11 rfl rfl rfl ?_
    refine AOps_skip 12 rfl rfl rfl ?_
    refine kN 2 rfl ?_
    cases h
    exact Weak_keep 0 hm [2, 5] [] _ _ rfl rfl rfl
   have h := iteF hb2 h
   refine kM 1 rfl ?_
   obtain ⟨r3, hr3, h⟩ := bindO h
   refine kC [] 11 (bV r3) [] rfl hg_p1 rfl (viewA_mapD _) (hf_p1 _ hr3) rfl ?_
   refine AOps_q 12 _ rfl rfl rfl (QOp_not _ _ _ rfl rfl) ?_
   refine kN 2 rfl ?_
   cases h
   exact Weak_keep 0 hm [2, 5] [] _ _ rfl rfl rfl
  refine kI h rfl (fun h _ => ?_) (fun h _ => ?_)
  ·refine kR ?_
   refine kN 1 rfl ?_
   refine ACode_ret ?_
   cases h
   have h := hks8
   cases h
   exact ⟨_, _, fun r a w h => ⟨r, h⟩, _, _, [], _, (.cons (ResV_tmp _ _ rfl) .nil), rfl, rfl, rfl, rfl, rfl⟩
  refine kR ?_
  refine AOps_q 15 _ rfl rfl rfl (QOp_loadN_pv _ _ _ _ _ _ rfl Tryz.isAgg96 Tryz.sizeOf96 rfl (posD_all _) (posD_length _)) ?_
  obtain ⟨r6, hr6, h⟩ := bindO h
  refine kC [] 16 (bV r6) [] rfl Tryz.call149 rfl rfl (impl_position_isPosition_ac k p0 _ hr6) rfl ?_
  refine AOps_q 17 _ rfl rfl rfl (QOp_not _ _ _ rfl rfl) ?_
  refine kN 1 rfl ?_
  refine kI h rfl (fun h _ => ?_) (fun h _ => ?_)
  ·refine kR ?_
   refine kN 1 rfl ?_
   refine ACode_ret ?_
   cases h
   have h := hks8
   cases h
   exact ⟨_, _, fun r a w h => ⟨r, h⟩, _, _, [], _, (.cons (ResV_tmp _ _ rfl) .nil), rfl, rfl, rfl, rfl, rfl⟩
  refine ACode_skip ?_
  cases h
  exact ⟨_, rfl, Weak_keep 0 hm [] [] _ _ rfl rfl rfl⟩
 refine kR ?_
 refine kN 1 rfl ?_
 refine ACode_ret ?_
 cases h
 exact ⟨_, _, fun r a w h => ⟨r, h⟩, _, _, [], _, (.cons (ResV_tmp _ _ rfl) .nil), rfl, rfl, rfl, rfl, rfl⟩

-- loop.example/g01362/impl.always
def impl_always : Bool :=
 true
set_option maxRecDepth 100000 in
theorem impl_always_ac : AC Tryz.prog 81 [] [] (fun res H' => res = [bV (impl_always)] ∧ H' = []) := by
 refine AC_of_body true Tryz.func81 rfl Tryz.ntmps81 (rvs := [.tmp 0]) rfl rfl (fun G hG => ?_)
 have hm : G.H.length = 0 := by rw [hG]; rfl
 have hz : zeroG G.H = true := by rw [hG]; rfl
 obtain ⟨r, h⟩ : ∃ r, impl_always = r := ⟨_, rfl⟩
 rw [h]
 unfold impl_always at h
 refine kR ?_
 refine kN 1 rfl ?_
 refine kR ?_
 refine kN 1 rfl ?_
 refine ACode_ret ?_
 cases h
 exact ⟨_, _, fun r a w h => ⟨r, h⟩, _, _, [], _, (.cons (ResV_tmp _ _ rfl) .nil), rfl, rfl, rfl, rfl, rfl⟩

-- (loop.example/g01362/impl.position).result
def impl_position_result (k : Nat) (p0 : Pos) : Option (Int) :=
 (impl_position_mover k p0).bind fun r1 => (impl_position_triangles k p0 (w64 (1 - r1))).bind fun r2 => (if decide (0 < (r2.length : Int)) then (impl_position_mover k p0).bind fun r4 => some r4 else (impl_position_many k p0 (-1)).bind fun r5 => (if decide (r5 = 0) then some 2 else some (-1)))
set_option maxRecDepth 100000 in
theorem impl_position_result_ac (k : Nat) (p0 : Pos) (r : Int) (h : impl_position_result k p0 = some r) : AC Tryz.prog 102 [.d (.agg (posD p0))] [] (fun res H' => res = [iV r] ∧ H' = []) := by
 refine AC_of_body true Tryz.func102 rfl Tryz.ntmps102 (rvs := [.tmp 2]) rfl rfl (fun G hG => ?_)
 have hm : G.H.length = 0 := by rw [hG]; rfl
 have hz : zeroG G.H = true := by rw [hG]; rfl
 unfold impl_position_result at h
 refine kR ?_
 refine AOps_boxI 1 _ _ (.agg (posD p0)) (posD p0) rfl (posD_one _) rfl rfl rfl rfl rfl ?_
 refine kN 1 rfl ?_
 refine ACode_seq ?_
 refine ACode_block ?_
 obtain ⟨r1, hr1, h⟩ := bindO h
 obtain ⟨r2, hr2, h⟩ := bindO h
 refine ACode_seqJ (fun E' H' => Weak 17 G E' H' [(1, .d (.pv (posD p0) 0)), (3, bV (decide (0 < (r2.length : Int))))] []) ?_ ?_
 ·refine ACode_any mixed ?_
  refine AAny_q 0 4 _ rfl (by kernel_rfl) rfl rfl rfl (QOp_loadN_pv _ _ _ _ _ _ rfl Tryz.isAgg96 Tryz.sizeOf96 rfl (posD_all _) (posD_length _)) ?_
  refine AAny_q 1 5 _ rfl (by kernel_rfl) rfl rfl rfl (QOp_loadN_pv _ _ _ _ _ _ rfl Tryz.isAgg96 Tryz.sizeOf96 rfl (posD_all _) (posD_length _)) ?_
  refine AAny_call 2 6 _ _ _ _ _ _ _ _ _ rfl (by kernel_rfl) rfl rfl rfl rfl rfl rfl rfl Tryz.call151 rfl rfl rfl (impl_position_mover_ac k p0 _ hr1) ?_
  refine AAny_q 3 7 _ rfl (by kernel_rfl) rfl rfl rfl (QOp_sub _ _ _ _ _ _ _ rfl rfl rfl) ?_
  refine AAny_all [4] (by kernel_rfl) rfl (allc ?_ (fun _ h => nomatch h))
  refine AStep_callN 4 8 _ _ _ _ _ _ _ _ _ rfl rfl rfl rfl rfl rfl rfl rfl Tryz.call156 rfl rfl rfl (impl_position_triangles_ac k p0 (w64 (1 - r1)) _ hr2) ?_
  rintro _ _ ⟨rfl, rfl⟩
  refine ⟨(allc (fun _ _ => trivial) (fun _ h => nomatch h)), (allc (trivial) (fun _ h => nomatch h)), AAny_as 8 (v' := .vec 0 0) (H' := [.vec 0 (rowsD r2)]) rfl rfl ?_⟩
  refine AAny_q 5 9 _ rfl (by kernel_rfl) rfl rfl rfl (QOp_len_vec _ _ _ _ _ _ _ _ (rowsD_length _) rfl rfl rfl rfl Tryz.underlying90 rfl rfl) ?_
  refine AAny_q 6 10 _ rfl (by kernel_rfl) rfl rfl rfl (QOp_gtr _ _ _ _ _ _ _ rfl rfl rfl) ?_
  refine AAny_q 7 3 _ rfl (by kernel_rfl) rfl rfl rfl (QOp_assign _ _ rfl rfl) ?_
  refine AAny_done (by kernel_rfl) ?_
  exact Weak_keep 0 hm [1, 3] [] _ _ rfl rfl rfl
 intro E' H' hw
 refine ACode_weak hw ?_
 refine kI h rfl (fun h _ => ?_) (fun h _ => ?_)
 ·refine kR ?_
  refine AOps_q 11 _ rfl rfl rfl (QOp_loadN_pv _ _ _ _ _ _ rfl Tryz.isAgg96 Tryz.sizeOf96 rfl (posD_all _) (posD_length _)) ?_
  obtain ⟨r4, hr4, h⟩ := bindO h
  refine kC [] 12 (iV r4) [] rfl Tryz.call151 rfl rfl (impl_position_mover_ac k p0 _ hr4) rfl ?_
  refine kN 1 rfl ?_
  refine ACode_ret ?_
  cases h
  exact ⟨_, _, fun r a w h => ⟨r, h⟩, _, _, [], _, (.cons (ResV_tmp _ _ rfl) .nil), rfl, rfl, rfl, rfl, rfl⟩
 refine kR ?_
 refine AOps_q 14 _ rfl rfl rfl (QOp_loadN_pv _ _ _ _ _ _ rfl Tryz.isAgg96 Tryz.sizeOf96 rfl (posD_all _) (posD_length _)) ?_
 obtain ⟨r5, hr5, h⟩ := bindO h
 refine kC [] 15 (iV r5) [] rfl Tryz.call157 rfl rfl (impl_position_many_ac k p0 (-1) _ hr5) rfl ?_
 refine AOps_q 16 _ rfl rfl rfl (QOp_eql _ _ _ _ _ _ _ rfl rfl rfl) ?_
 refine kN 1 rfl ?_
 refine kI h rfl (fun h _ => ?_) (fun h _ => ?_)
 ·refine kR ?_
  refine kN 1 rfl ?_
  refine ACode_ret ?_
  cases h
  exact ⟨_, _, fun r a w h => ⟨r, h⟩, _, _, [], _, (.cons (ResV_tmp _ _ rfl) .nil), rfl, rfl, rfl, rfl, rfl⟩
 refine ACode_skip ?_
 refine kR ?_
 refine kN 1 rfl ?_
 refine ACode_ret ?_
 cases h
 exact ⟨_, _, fun r a w h => ⟨r, h⟩, _, _, [], _, (.cons (ResV_tmp _ _ rfl) .nil), rfl, rfl, rfl, rfl, rfl⟩

-- (loop.example/g01362/impl.position).key
def impl_position_key_l0 (p0 : Pos) : Nat → Int → (List UInt8) → Option (List UInt8)
 | 0, _, _ => none
 | k0 + 1, x1, x2 => (if decide (x1 < (p0.l.length : Int)) then (if 0 ≤ x1 ∧ x1 < (p0.l.length : Int) then (if 0 ≤ w64 ((p0.l.getD x1.toNat 0) + 1) ∧ w64 ((p0.l.getD x1.toNat 0) + 1) < (((⟨#[46, 48, 49]⟩ : ByteArray) : ByteArray).size : Int) then (if x2.length + ([(((⟨#[46, 48, 49]⟩ : ByteArray) : ByteArray).data.toList.getD (w64 ((p0.l.getD x1.toNat 0) + 1)).toNat 0)]).length ≤ 1099511627776 then impl_position_key_l0 p0 k0 (w64 (x1 + 1)) (x2 ++ ([(((⟨#[46, 48, 49]⟩ : ByteArray) : ByteArray).data.toList.getD (w64 ((p0.l.getD x1.toNat 0) + 1)).toNat 0)])) else none) else none) else none) else some x2)
def impl_position_key (k : Nat) (p0 : Pos) : Option (ByteArray) :=
 (impl_position_key_l0 p0 k 0 ([] : List UInt8) : Option (List UInt8)).bind fun s7 => some (⟨s7.toArray⟩ : ByteArray)
set_option maxRecDepth 100000 in
theorem impl_position_key_ac (k : Nat) (p0 : Pos) (r : ByteArray) (h : impl_position_key k p0 = some r) : AC Tryz.prog 150 [.d (.agg (posD p0))] [] (fun res H' => res = [.d (.s (.string r))] ∧ H' = []) := by
 refine AC_of_body true Tryz.func150 rfl Tryz.ntmps150 (rvs := [.tmp 2]) rfl rfl (fun G hG => ?_)
 have hm : G.H.length = 0 := by rw [hG]; rfl
 have hz : zeroG G.H = true := by rw [hG]; rfl
 unfold impl_position_key at h
 refine kR ?_
 refine AOps_boxI 1 _ _ (.agg (posD p0)) (posD p0) rfl (posD_one _) rfl rfl rfl rfl rfl ?_
 refine kN 1 rfl ?_
 refine kR ?_
 refine AOps_buildSlice 6 _ _ _ [] (bysD ([] : List UInt8)) _ rfl rfl rfl rfl rfl (by decide) Tryz.underlying22 Tryz.sizeOf5 (zero_of Tryz.typeInfo5 rfl) rfl rfl (bysD_one _) ?_
 refine kN 1 rfl ?_
 refine kB (fun s7 => [(3, .vec 0 0)]) (fun s7 => [.vec 0 (bysD s7)]) h (fun s7 h => ?_) (fun s7 h => ?_)
 ·refine kR ?_
  refine AOps_q 7 _ rfl rfl rfl (QOp_fieldAddr_pv _ _ _ _ _ 1 _ _ rfl Tryz.underlying96 rfl _ Tryz.sizeOf27 rfl rfl) ?_
  refine AOps_q 8 _ rfl rfl rfl (QOp_load_pv _ _ _ _ _ rfl Tryz.isAgg27 rfl rfl) ?_
  refine AOps_q 9 _ rfl rfl rfl (QOp_len_sl _ _ _ _ _ _ _ (intsD_length _) rfl rfl rfl rfl Tryz.underlying27 rfl) ?_
  refine kN 1 rfl ?_
  refine ACode_block ?_
  refine ACode_loopW (fun k0 E H => ∃ (x1 : Int) (x2 : List UInt8), E = [(3, .vec 0 0), (8, .d (.sl none (intsD p0.l))), (9, iV (p0.l.length : Int)), (10, iV x1)] ∧ H = [.vec 0 (bysD x2)] ∧ impl_position_key_l0 p0 k0 x1 x2 = some s7) k _ _ (Weak_keep 0 hm [3, 8, 9, 10] [0] _ _ rfl rfl rfl) ⟨_, _, rfl, rfl, h⟩ ?_
  clear h
  rintro k0 E H ⟨x1, x2, rfl, rfl, h⟩
  cases k0 with
  | zero => cases (show (none : Option (List UInt8)) = some _ from h)
  | succ k0 =>
   rw [impl_position_key_l0] at h
   refine kR ?_
   refine AOps_q 11 _ rfl rfl rfl (QOp_lss _ _ _ _ _ _ _ rfl rfl rfl) ?_
   refine AOps_nil ?_
   refine ACode_seq ?_
   refine kI h rfl (fun h _ => ?_) (fun h _ => ?_)
   ·refine ACode_skip ?_
    refine ACode_seq ?_
    refine ACode_block ?_
    refine kR ?_
    obtain ⟨hc4, h⟩ := guardO h
    refine AOps_q 12 _ rfl rfl rfl (QOp_indexAddr_sl _ _ _ _ _ _ _ _ rfl Tryz.underlying27 Tryz.sizeOf2 hc4.1 (by rw [intsD_length]; exact hc4.2) rfl rfl) ?_
    refine AOps_q 13 _ rfl rfl rfl (QOp_load_pv _ _ _ _ _ rfl Tryz.isAgg2 rfl (intsD_get _ _ 0 (by omega))) ?_
    refine kN 1 rfl ?_
    refine (ACode_region ?_)
    refine kM 2 rfl ?_
    refine AOps_q 16 _ rfl rfl rfl (QOp_add _ _ _ _ _ _ _ rfl rfl rfl) ?_
    obtain ⟨hc5, h⟩ := guardO h
    refine AOps_q 17 _ rfl rfl rfl (QOp_sindex _ _ _ _ _ _ rfl Tryz.underlying9 hc5.1 hc5.2 rfl rfl) ?_
    refine AOps_buildSlice 18 _ _ _ [_] (bysD ([(((⟨#[46, 48, 49]⟩ : ByteArray) : ByteArray).data.toList.getD (w64 ((p0.l.getD x1.toNat 0) + 1)).toNat 0)])) _ rfl rfl rfl rfl rfl (by decide) Tryz.underlying22 Tryz.sizeOf5 (zero_of Tryz.typeInfo5 rfl) rfl rfl (bysD_one _) ?_
    obtain ⟨hc6, h⟩ := guardO h
    refine AOps_append 19 _ _ _ _ _ _ _ _ _ _ _ _ rfl rfl rfl rfl rfl rfl rfl Tryz.underlying22 Tryz.type5 rfl rfl rfl (by decide) rfl rfl rfl rfl (bysD_one _) (by rw [bysD_length, bysD_length]; exact hc6) ?_
    rw [bysD_app]
    refine kN 1 rfl ?_
    refine (ACode_region ?_)
    refine AOps_q 20 _ rfl rfl rfl (QOp_add _ _ _ _ _ _ _ rfl rfl rfl) ?_
    refine kN 1 rfl ?_
    exact ⟨k0, _, _, Nat.lt_succ_self _, Weak_trans (Weak_keep 0 hm [3, 8, 9, 10] [0] _ _ rfl rfl rfl) (Weak_reset 0 hm hz [3, 8, 9, 10] _ _ rfl rfl), _, _, rfl, rfl, h⟩
   refine ACode_exit ?_
   cases h
   exact Weak_keep 0 hm [3] [0] _ _ rfl rfl rfl
 refine kR ?_
 refine kM 1 rfl ?_
 refine AOps_q 22 _ rfl rfl rfl (QOp_bstr _ _ _ _ _ _ _ rfl Tryz.underlying22 Tryz.underlying5 Tryz.underlying9 rfl rfl) ?_
 refine kN 1 rfl ?_
 refine ACode_ret ?_
 cases h
 exact ⟨_, _, fun r a w h => ⟨r, h⟩, _, _, [], _, (.cons (ResV_tmp _ _ rfl) .nil), rfl, rfl, rfl, rfl, rfl⟩

-- (loop.example/g01362/impl.player).outcome
def impl_player_outcome_l0 (k : Nat) (self : (List (MK × Int)) → Pos → Option (Int × List (MK × Int))) (p1 : Pos) : Nat → Int → Int → (List (MK × Int)) → Option (Int × List (MK × Int))
 | 0, _, _, _ => none
 | k0 + 1, x7, x8, x9 => (if decide (x8 < (p1.l.length : Int)) then ((if 0 ≤ x8 ∧ x8 < (p1.l.length : Int) then (if decide (0 ≤ (p1.l.getD x8.toNat 0)) then some (.inl (x7, x9)) else (impl_position_moved k p1 x8).bind fun r13 => (self x9 r13).bind fun r14 => (impl_position_mover k p1).bind fun r15 => (if decide (r14.1 = r15) then (some (r14.1, r14.2)).bind fun rr => some (.inr rr) else (if decide (r14.1 = 2) then some (.inl (2, r14.2)) else some (.inl (x7, r14.2))))) else none) : Option (Sum (Int × List (MK × Int)) (Int × List (MK × Int)))).bind fun os18 => (match os18 with | .inl s18 => impl_player_outcome_l0 k self p1 k0 s18.1 (w64 (x8 + 1)) s18.2 | .inr rr => some rr) else some (x7, x9))
def impl_player_outcome_body (self : (List (MK × Int)) → Pos → Option (Int × List (MK × Int))) (k : Nat) (p0 : List (MK × Int)) (p1 : Pos) : Option (Int × List (MK × Int)) :=
 (impl_position_result k p1).bind fun r1 => (if decide (0 ≤ r1) then some (r1, p0) else (impl_position_key k p1).bind fun r3 => (if okK (MK.s r3) = true then (if (lookM p0 (MK.s r3)).isSome then some (((lookM p0 (MK.s r3)).getD 0), p0) else (impl_position_mover k p1).bind fun r6 => (impl_player_outcome_l0 k self p1 k (w64 (1 - r6)) 0 p0 : Option (Int × List (MK × Int))).bind fun s19 => (if (okK (MK.s r3) = true) ∧ okI s19.1 = true ∧ s19.2.length < 4611686018427387904 then some (s19.1, ((MK.s r3, s19.1) :: s19.2)) else none)) else none))
def impl_player_outcome : Nat → (List (MK × Int)) → Pos → Option (Int × List (MK × Int))
 | 0, _, _ => none
 | k + 1, p0, p1 => impl_player_outcome_body (impl_player_outcome k) k p0 p1
set_option maxRecDepth 100000 in
theorem impl_player_outcome_ac {vp0 : Value} (k : Nat) (p0 : List (MK × Int)) (p1 : Pos) (r : Int × List (MK × Int)) (h : impl_player_outcome k p0 p1 = some r) : AC Tryz.prog 98 [.d (.s vp0), .d (.agg (posD p1))] [.mp vp0 (mapI Tryz.prog 9 2 p0)] (fun res H' => res = [iV r.1] ∧ H' = [.mp vp0 (mapI Tryz.prog 9 2 r.2)]) := by
 induction k generalizing p0 p1 r with
 | zero => simp [impl_player_outcome] at h
 | succ k ih =>
  rw [impl_player_outcome] at h
  obtain ⟨self, hself, hk⟩ : ∃ self : (List (MK × Int)) → Pos → Option (Int × List (MK × Int)), (∀ (p0 : List (MK × Int)) (p1 : Pos) (r : Int × List (MK × Int)), self p0 p1 = some r → AC Tryz.prog 98 [.d (.s vp0), .d (.agg (posD p1))] [.mp vp0 (mapI Tryz.prog 9 2 p0)] (fun res H' => res = [iV r.1] ∧ H' = [.mp vp0 (mapI Tryz.prog 9 2 r.2)])) ∧ impl_player_outcome k = self := ⟨impl_player_outcome k, fun p0 p1 r h => ih p0 p1 r h, rfl⟩
  rw [hk] at h
  clear ih hk
  refine AC_of_body true Tryz.func98 rfl Tryz.ntmps98 (rvs := [.tmp 4]) rfl rfl (fun G hG => ?_)
  have hm : G.H.length = 1 := by rw [hG]; rfl
  have hz : zeroG G.H = true := by rw [hG]; rfl
  unfold impl_player_outcome_body at h
  refine kR ?_
  refine AOps_boxI 3 _ _ (.agg (posD p1)) (posD p1) rfl (posD_one _) rfl rfl rfl rfl rfl ?_
  refine kN 1 rfl ?_
  refine ACode_seq ?_
  refine kR ?_
  refine AOps_q 13 _ rfl rfl rfl (QOp_loadN_pv _ _ _ _ _ _ rfl Tryz.isAgg96 Tryz.sizeOf96 rfl (posD_all _) (posD_length _)) ?_
  obtain ⟨r1, hr1, h⟩ := bindO h
  refine kC [] 14 (iV r1) [.mp vp0 (mapI Tryz.prog 9 2 p0)] rfl Tryz.call102 rfl rfl (impl_position_result_ac k p1 _ hr1) rfl ?_
  refine kN 1 rfl ?_
  refine kR ?_
  refine kM 1 rfl ?_
  refine AOps_q 16 _ rfl rfl rfl (QOp_geq _ _ _ _ _ _ _ rfl rfl rfl) ?_
  refine AOps_nil ?_
  refine kI h rfl (fun h _ => ?_) (fun h _ => ?_)
  ·refine kR ?_
   refine kN 2 rfl ?_
   refine ACode_ret ?_
   cases h
   exact ⟨_, _, fun r a w h => ⟨r, h⟩, _, _, [], _, (.cons (ResV_tmp _ _ rfl) .nil), rfl, rfl, rfl, rfl, rfl⟩
  refine ACode_skip ?_
  refine kR ?_
  refine AOps_q 18 _ rfl rfl rfl (QOp_loadN_pv _ _ _ _ _ _ rfl Tryz.isAgg96 Tryz.sizeOf96 rfl (posD_all _) (posD_length _)) ?_
  obtain ⟨r3, hr3, h⟩ := bindO h
  refine kC [] 19 (.d (.s (.string r3))) [.mp vp0 (mapI Tryz.prog 9 2 p0)] rfl Tryz.call150 rfl rfl (impl_position_key_ac k p1 _ hr3) rfl ?_
  refine kN 1 rfl ?_
  refine ACode_seq ?_
  refine kR ?_
  refine kM 2 rfl ?_
  obtain ⟨hc4, h⟩ := guardO h
  refine AOps_q 23 _ rfl rfl rfl (QOp_lookup keyed9_Tryz Tryz.underlying98 Tryz.underlying2 (fun w => by kernel_rfl) 0 _ p0 (MK.s r3) _ _ _ rfl rfl rfl rfl (isKey_s _) (keyS Tryz.underlying9 hc4)) ?_
  refine kN 5 rfl ?_
  refine kR ?_
  refine kN 1 rfl ?_
  refine kI h rfl (fun h _ => ?_) (fun h _ => ?_)
  ·refine kR ?_
   refine kN 2 rfl ?_
   refine ACode_ret ?_
   cases h
   exact ⟨_, _, fun r a w h => ⟨r, h⟩, _, _, [], _, (.cons (ResV_tmp _ _ rfl) .nil), rfl, rfl, rfl, rfl, rfl⟩
  refine ACode_skip ?_
  refine kR ?_
  refine AOps_q 28 _ rfl rfl rfl (QOp_loadN_pv _ _ _ _ _ _ rfl Tryz.isAgg96 Tryz.sizeOf96 rfl (posD_all _) (posD_length _)) ?_
  obtain ⟨r6, hr6, h⟩ := bindO h
  refine kC [] 29 (iV r6) [.mp vp0 (mapI Tryz.prog 9 2 p0)] rfl Tryz.call151 rfl rfl (impl_position_mover_ac k p1 _ hr6) rfl ?_
  refine AOps_q 30 _ rfl rfl rfl (QOp_sub _ _ _ _ _ _ _ rfl rfl rfl) ?_
  refine kN 1 rfl ?_
  refine kB (fun s19 => [(0, .d (.s vp0)), (6, .d (.s (.string r3))), (9, iV s19.1)]) (fun s19 => [.mp vp0 (mapI Tryz.prog 9 2 s19.2)]) h (fun s19 h => ?_) (fun s19 h => ?_)
  ·refine kR ?_
   refine AOps_q 31 _ rfl rfl rfl (QOp_fieldAddr_pv _ _ _ _ _ 1 _ _ rfl Tryz.underlying96 rfl _ Tryz.sizeOf27 rfl rfl) ?_
   refine AOps_q 32 _ rfl rfl rfl (QOp_load_pv _ _ _ _ _ rfl Tryz.isAgg27 rfl rfl) ?_
   refine AOps_q 33 _ rfl rfl rfl (QOp_len_sl _ _ _ _ _ _ _ (intsD_length _) rfl rfl rfl rfl Tryz.underlying27 rfl) ?_
   refine kN 1 rfl ?_
   refine ACode_block ?_
   refine ACode_loopW (fun k0 E H => ∃ (x7 : Int) (x8 : Int) (x9 : List (MK × Int)), E = [(0, .d (.s vp0)), (3, .d (.pv (posD p1) 0)), (6, .d (.s (.string r3))), (9, iV x7), (32, .d (.sl none (intsD p1.l))), (33, iV (p1.l.length : Int)), (34, iV x8)] ∧ H = [.mp vp0 (mapI Tryz.prog 9 2 x9)] ∧ impl_player_outcome_l0 k self p1 k0 x7 x8 x9 = some s19) k _ _ (Weak_keep 1 hm [0, 3, 6, 9, 32, 33, 34] [] _ _ rfl rfl rfl) ⟨_, _, _, rfl, rfl, h⟩ ?_
   clear h
   rintro k0 E H ⟨x7, x8, x9, rfl, rfl, h⟩
   cases k0 with
   | zero => cases (show (none : Option (Int × List (MK × Int))) = some _ from h)
   | succ k0 =>
    rw [impl_player_outcome_l0] at h
    refine kR ?_
    refine AOps_q 35 _ rfl rfl rfl (QOp_lss _ _ _ _ _ _ _ rfl rfl rfl) ?_
    refine AOps_nil ?_
    refine ACode_seq ?_
    refine kI h rfl (fun h _ => ?_) (fun h _ => ?_)
    ·refine ACode_skip ?_
     refine kO (fun s18 => [(0, .d (.s vp0)), (3, .d (.pv (posD p1) 0)), (6, .d (.s (.string r3))), (9, iV s18.1), (32, .d (.sl none (intsD p1.l))), (33, iV (p1.l.length : Int)), (34, iV x8)]) (fun s18 => [.mp vp0 (mapI Tryz.prog 9 2 s18.2)]) h (fun os18 h hks18 => ?_) (fun s18 h => ?_)
     ·refine ACode_block ?_
      refine kR ?_
      refine kM 1 rfl ?_
      obtain ⟨hc11, h⟩ := guardO h
      refine AOps_q 37 _ rfl rfl rfl (QOp_indexAddr_sl _ _ _ _ _ _ _ _ rfl Tryz.underlying27 Tryz.sizeOf2 hc11.1 (by rw [intsD_length]; exact hc11.2) rfl rfl) ?_
      refine AOps_q 38 _ rfl rfl rfl (QOp_load_pv _ _ _ _ _ rfl Tryz.isAgg2 rfl (intsD_get _ _ 0 (by omega))) ?_
      refine kN 2 rfl ?_
      refine ACode_seq ?_
      refine kR ?_
      refine kM 1 rfl ?_
      refine AOps_q 40 _ rfl rfl rfl (QOp_geq _ _ _ _ _ _ _ rfl rfl rfl) ?_
      refine AOps_nil ?_
      refine kI h rfl (fun h _ => ?_) (fun h _ => ?_)
      ·refine ACode_exit ?_
       cases h
       exact ⟨_, rfl, Weak_keep 1 hm [0, 3, 6, 9, 32, 33, 34] [] _ _ rfl rfl rfl⟩
      refine ACode_skip ?_
      refine kR ?_
      refine kM 1 rfl ?_
      refine AOps_q 42 _ rfl rfl rfl (QOp_loadN_pv _ _ _ _ _ _ rfl Tryz.isAgg96 Tryz.sizeOf96 rfl (posD_all _) (posD_length _)) ?_
      refine kM 1 rfl ?_
      obtain ⟨r13, hr13, h⟩ := bindO h
      refine kC [] 44 (.d (.agg (posD r13))) [.mp vp0 (mapI Tryz.prog 9 2 x9)] rfl Tryz.call104 rfl rfl (impl_position_moved_ac k p1 x8 _ hr13) rfl ?_
      obtain ⟨r14, hr14, h⟩ := bindO h
      refine kC [0] 45 (iV r14.1) [.mp vp0 (mapI Tryz.prog 9 2 r14.2)] rfl Tryz.call98 rfl rfl (hself x9 r13 _ hr14) rfl ?_
      refine kN 1 rfl ?_
      refine ACode_seq ?_
      refine kR ?_
      refine kM 1 rfl ?_
      refine AOps_q 47 _ rfl rfl rfl (QOp_loadN_pv _ _ _ _ _ _ rfl Tryz.isAgg96 Tryz.sizeOf96 rfl (posD_all _) (posD_length _)) ?_
      obtain ⟨r15, hr15, h⟩ := bindO h
      refine kC [] 48 (iV r15) [.mp vp0 (mapI Tryz.prog 9 2 r14.2)] rfl Tryz.call151 rfl rfl (impl_position_mover_ac k p1 _ hr15) rfl ?_
      refine AOps_q 49 _ rfl rfl rfl (QOp_eql _ _ _ _ _ _ _ rfl rfl rfl) ?_
      refine AOps_nil ?_
      refine kI h rfl (fun h _ => ?_) (fun h _ => ?_)
      ·refine kR ?_
       refine kN 2 rfl ?_
       refine ACode_exit ?_
       obtain ⟨rr, hz21, h2⟩ := bindO h
       obtain rfl := Option.some.inj h2
       obtain rfl := Option.some.inj (show some rr = some _ from hks18)
       have h := hz21
       cases h
       exact Weak_keep 1 hm [0, 6, 9] [] _ _ rfl rfl rfl
      refine ACode_skip ?_
      refine kR ?_
      refine kM 1 rfl ?_
      refine AOps_q 52 _ rfl rfl rfl (QOp_eql _ _ _ _ _ _ _ rfl rfl rfl) ?_
      refine AOps_nil ?_
      refine kI h rfl (fun h _ => ?_) (fun h _ => ?_)
      ·refine (ACode_region ?_)
       refine kN 1 rfl ?_
       cases h
       exact ⟨_, rfl, Weak_keep 1 hm [0, 3, 6, 9, 32, 33, 34] [] _ _ rfl rfl rfl⟩
      refine ACode_skip ?_
      cases h
      exact ⟨_, rfl, Weak_keep 1 hm [0, 3, 6, 9, 32, 33, 34] [] _ _ rfl rfl rfl⟩
     refine (ACode_region ?_)
     refine AOps_q 53 _ rfl rfl rfl (QOp_add _ _ _ _ _ _ _ rfl rfl rfl) ?_
     refine kN 1 rfl ?_
     exact ⟨k0, _, _, Nat.lt_succ_self _, Weak_keep 1 hm [0, 3, 6, 9, 32, 33, 34] [] _ _ rfl rfl rfl, _, _, _, rfl, rfl, h⟩
    refine ACode_exit ?_
    cases h
    exact Weak_keep 1 hm [0, 6, 9] [] _ _ rfl rfl rfl
  refine kR ?_
  refine kM 3 rfl ?_
  obtain ⟨hc20, h⟩ := guardO h
  refine AOps_mapUpdate keyed9_Tryz Tryz.underlying98 Tryz.underlying2 0 _ s19.2 (MK.s r3) _ s19.1 _ _ _ rfl rfl rfl rfl rfl rfl (isKey_s _) (keyS Tryz.underlying9 hc20.1) rfl hc20.2.1 hc20.2.2 ?_
  refine AOps_nil ?_
  refine kR ?_
  refine kN 2 rfl ?_
  refine ACode_ret ?_
  cases h
  exact ⟨_, _, fun r a w h => ⟨r, h⟩, _, _, [], _, (.cons (ResV_tmp _ _ rfl) .nil), rfl, rfl, rfl, rfl, rfl⟩

-- loop.example/g01362/impl.OutcomeOf
def impl_OutcomeOf (k : Nat) (p0 : Int) (p1 : List Int) : Option (Int × Int) :=
 (impl_position_code k (⟨p0, p1⟩ : Pos) (some (impl_always))).bind fun r1 => (if !decide (r1 = 0) then some (0, r1) else (impl_player_outcome k ([] : List (MK × Int)) (⟨p0, p1⟩ : Pos)).bind fun r4 => some (r4.1, 0))
set_option maxRecDepth 100000 in
theorem impl_OutcomeOf_ac (k : Nat) (p0 : Int) (p1 : List Int) (r : Int × Int) (h : impl_OutcomeOf k p0 p1 = some r) : AC Tryz.prog 43 [iV p0, .d (.sl none (intsD p1))] [] (fun res H' => res = [iV r.1, iV r.2] ∧ H' = []) := by
 refine AC_of_body true Tryz.func43 rfl Tryz.ntmps43 (rvs := [.tmp 4, .tmp 5]) rfl rfl (fun G hG => ?_)
 have hm : G.H.length = 0 := by rw [hG]; rfl
 have hz : zeroG G.H = true := by rw [hG]; rfl
 unfold impl_OutcomeOf at h
 refine kR ?_
 refine kN 2 rfl ?_
 refine kR ?_
 refine kM 2 rfl ?_
 refine AOps_q 10 _ rfl rfl rfl (QOp_build _ _ [_, _] [0, 1] [iD p0, .sl none (intsD p1)] _ [iD 0, .sl (some true) []] (posD (⟨p0, p1⟩ : Pos)) [(0, 1), (1, 1)] rfl rfl Tryz.underlying96 (zero_of Tryz.typeInfo96 rfl) (fun w => by simp [Tryz.sizeOf2, Tryz.sizeOf27]) rfl (by rfl) (by rfl) (allc (ok1 rfl) (allc (ok1 rfl) (fun _ h => nomatch h)))) ?_
 refine AOps_alloc 6 _ _ ([iD 0, .sl (some true) []]) (zero_of Tryz.typeInfo96 rfl) (by rfl) rfl rfl rfl rfl ?_
 refine AOps_store _ _ _ _ _ _ (posD _) _ _ rfl rfl rfl rfl rfl rfl rfl (posD_one _) (by rw [posD_length]; exact Tryz.sizeOf96) (by show (2 : Nat) ≤ 2; decide) rfl ?_
 refine AOps_nil ?_
 refine ACode_seq ?_
 refine kR ?_
 refine AOps_q 11 _ rfl rfl rfl (QOp_loadN_ptr _ _ _ _ _ _ _ rfl Tryz.isAgg96 Tryz.sizeOf96 rfl rfl (posD_all _) (posD_length _)) ?_
 obtain ⟨r1, hr1, h⟩ := bindO h
 refine kC [] 12 (iV r1) [.box (posD (⟨p0, p1⟩ : Pos))] rfl Tryz.call97 rfl rfl (impl_position_code_ac k (⟨p0, p1⟩ : Pos) (some (impl_always)) 81 ([]) Tryz.call81 (fun r h => by cases h; exact impl_always_ac) _ hr1) rfl ?_
 refine kN 1 rfl ?_
 refine kR ?_
 refine kM 1 rfl ?_
 refine AOps_q 14 _ rfl rfl rfl (QOp_neq _ _ _ _ _ _ _ rfl rfl rfl) ?_
 refine AOps_nil ?_
 refine kI h rfl (fun h _ => ?_) (fun h _ => ?_)
 ·refine kR ?_
  refine kN 3 rfl ?_
  refine ACode_ret ?_
  cases h
  exact ⟨_, _, fun r a w h => ⟨r, h⟩, _, _, [], _, (.cons (ResV_tmp _ _ rfl) (.cons (ResV_tmp _ _ rfl) .nil)), rfl, rfl, rfl, rfl, rfl⟩
 refine ACode_skip ?_
 refine kR ?_
 refine AOps_makeMap 16 _ rfl rfl rfl rfl 9 2 (fun m3 hm3 => ?_)
 refine AOps_q 17 _ rfl rfl rfl (QOp_loadN_ptr _ _ _ _ _ _ _ rfl Tryz.isAgg96 Tryz.sizeOf96 rfl rfl (posD_all _) (posD_length _)) ?_
 obtain ⟨r4, hr4, h⟩ := bindO h
 refine kC [1] 18 (iV r4.1) [.box (posD (⟨p0, p1⟩ : Pos)), .mp m3 (mapI Tryz.prog 9 2 r4.2)] rfl Tryz.call98 rfl rfl (impl_player_outcome_ac k ([] : List (MK × Int)) (⟨p0, p1⟩ : Pos) _ hr4) rfl ?_
 refine kN 2 rfl ?_
 refine ACode_ret ?_
 cases h
 exact ⟨_, _, fun r a w h => ⟨r, h⟩, _, _, [], _, (.cons (ResV_tmp _ _ rfl) (.cons (ResV_tmp _ _ rfl) .nil)), rfl, rfl, rfl, rfl, rfl⟩

-- loop.example/g01362/spec.l01In
def spec_l01In (p0 : Int) (p1 : Int) (p2 : Int) : Bool :=
 letO (if decide (p1 ≤ p0) then decide (p0 ≤ p2) else false) fun (s2 : Bool) => s2
set_option maxRecDepth 100000 in
theorem spec_l01In_ac (p0 : Int) (p1 : Int) (p2 : Int) : AC Tryz.prog 61 [iV p0, iV p1, iV p2] [] (fun res H' => res = [bV (spec_l01In p0 p1 p2)] ∧ H' = []) := by
 refine AC_of_body true Tryz.func61 rfl Tryz.ntmps61 (rvs := [.tmp 6]) rfl rfl (fun G hG => ?_)
 have hm : G.H.length = 0 := by rw [hG]; rfl
 have hz : zeroG G.H = true := by rw [hG]; rfl
 obtain ⟨r, h⟩ : ∃ r, spec_l01In p0 p1 p2 = r := ⟨_, rfl⟩
 rw [h]
 unfold spec_l01In at h
 refine kR ?_
 refine kN 1 rfl ?_
 refine kL (fun s2 => [(6, bV s2)]) (fun s2 => []) h (fun s2 h => ?_) (fun s2 h => ?_)
 ·refine (ACode_region ?_)
  refine kM 2 rfl ?_
  refine AOps_q 9 _ rfl rfl rfl (QOp_geq _ _ _ _ _ _ _ rfl rfl rfl) ?_
  refine kM 1 rfl ?_
  refine AOps_case 10 _ rfl (fun hb1 => ?_) (fun hb1 => ?_)
  ·have h := iteT hb1 h
   refine kM 2 rfl ?_
   refine AOps_q 13 _ rfl rfl rfl (QOp_leq _ _ _ _ _ _ _ rfl rfl rfl) ?_
   refine kN 2 rfl ?_
   cases h
   exact Weak_keep 0 hm [6] [] _ _ rfl rfl rfl
  have h := iteF hb1 h
  refine AOps_skip 11 rfl rfl rfl ?_
  refine AOps_skip 12 rfl rfl rfl ?_
  refine AOps_skip 13 rfl rfl rfl ?_
  refine kN 2 rfl ?_
  cases h
  exact Weak_keep 0 hm [6] [] _ _ rfl rfl rfl
 refine ACode_ret ?_
 cases h
 exact ⟨_, _, fun r a w h => ⟨r, h⟩, _, _, [], _, (.cons (ResV_tmp _ _ rfl) .nil), rfl, rfl, rfl, rfl, rfl⟩

-- loop.example/g01362/spec.l09Lists
def spec_l09Lists_l0 (p1 : List Int) : Nat → Int → Option (Sum (Unit) (Int))
 | 0, _ => none
 | k0 + 1, x6 => (if decide (x6 < (p1.length : Int)) then (if 0 ≤ x6 ∧ x6 < (p1.length : Int) then (if !(spec_l01In (p1.getD x6.toNat 0) (-1) 1) then some (.inr 2) else spec_l09Lists_l0 p1 k0 (w64 (x6 + 1))) else none) else some (.inl ()))
def spec_l09Lists (k : Nat) (p0 : Int) (p1 : List Int) : Option (Int) :=
 (letO (if !(spec_l01In p0 1 5) then true else !decide ((p1.length : Int) = w64 ((w64 (p0 * (w64 (p0 - 1)))).tdiv 2))) fun (s3 : Bool) => (if s3 then some (.inr 2) else some (.inl ())) : Option (Sum (Unit) (Int))).bind fun os5 => (match os5 with | .inl s5 => (spec_l09Lists_l0 p1 k 0 : Option (Sum (Unit) (Int))).bind fun os11 => (match os11 with | .inl s11 => some 0 | .inr rr => some rr) | .inr rr => some rr)
set_option maxRecDepth 100000 in
theorem spec_l09Lists_ac (k : Nat) (p0 : Int) (p1 : List Int) (r : Int) (h : spec_l09Lists k p0 p1 = some r) : AC Tryz.prog 118 [iV p0, .d (.sl none (intsD p1))] [] (fun res H' => res = [iV r] ∧ H' = []) := by
 refine AC_of_body true Tryz.func118 rfl Tryz.ntmps118 (rvs := [.tmp 4]) rfl rfl (fun G hG => ?_)
 have hm : G.H.length = 0 := by rw [hG]; rfl
 have hz : zeroG G.H = true := by rw [hG]; rfl
 unfold spec_l09Lists at h
 refine kR ?_
 refine kN 1 rfl ?_
 refine kO (fun s5 => [(1, .d (.sl none (intsD p1)))]) (fun s5 => []) h (fun os5 h hks5 => ?_) (fun s5 h => ?_)
 ·refine kL (fun s3 => [(1, .d (.sl none (intsD p1))), (18, bV s3)]) (fun s3 => []) h (fun s3 h => ?_) (fun s3 h => ?_)
  ·refine (ACode_region ?_)
   refine kM 1 rfl ?_
   refine kC [] 7 (bV (spec_l01In p0 1 5)) [] rfl Tryz.call61 rfl rfl (spec_l01In_ac p0 1 5) rfl ?_
   refine AOps_q 8 _ rfl rfl rfl (QOp_not _ _ _ rfl rfl) ?_
   refine kM 1 rfl ?_
   refine AOps_case 9 _ rfl (fun hb2 => ?_) (fun hb2 => ?_)
   ·have h := iteT hb2 h
    refine AOps_skip 10 rfl rfl rfl ?_
    refine AOps_skip 11 rfl rfl rfl ?_
    refine AOps_skip 12 rfl rfl rfl ?_
    refine AOps_skip 13 rfl rfl rfl ?_
    refine AOps_skip 14 rfl rfl rfl ?_
    refine AOps_skip 15 rfl rfl rfl ?_
    refine AOps_skip 16 rfl rfl rfl ?_
    refine AOps_skip 17 rfl rfl rfl ?_
    refine kN 1 rfl ?_
    cases h
    exact Weak_keep 0 hm [1, 18] [] _ _ rfl rfl rfl
   have h := iteF hb2 h
   refine kM 1 rfl ?_
   refine AOps_q 11 _ rfl rfl rfl (QOp_len_sl _ _ _ _ _ _ _ (intsD_length _) rfl rfl rfl rfl Tryz.underlying27 rfl) ?_
   refine kM 2 rfl ?_
   refine AOps_q 14 _ rfl rfl rfl (QOp_sub _ _ _ _ _ _ _ rfl rfl rfl) ?_
   refine AOps_q 15 _ rfl rfl rfl (QOp_mul _ _ _ _ _ _ _ rfl rfl rfl) ?_
   refine AOps_q 16 _ rfl rfl rfl (QOp_quo _ _ _ _ _ _ _ (by decide) rfl rfl rfl) ?_
   refine AOps_q 17 _ rfl rfl rfl (QOp_neq _ _ _ _ _ _ _ rfl rfl rfl) ?_
   refine kN 1 rfl ?_
   cases h
   exact Weak_keep 0 hm [1, 18] [] _ _ rfl rfl rfl
  refine kI h rfl (fun h _ => ?_) (fun h _ => ?_)
  ·refine kR ?_
   refine kN 1 rfl ?_
   refine ACode_ret ?_
   cases h
   have h := hks5
   cases h
   exact ⟨_, _, fun r a w h => ⟨r, h⟩, _, _, [], _, (.cons (ResV_tmp _ _ rfl) .nil), rfl, rfl, rfl, rfl, rfl⟩
  refine ACode_skip ?_
  cases h
  exact ⟨_, rfl, Weak_keep 0 hm [1] [] _ _ rfl rfl rfl⟩
 refine kO (fun s11 => []) (fun s11 => []) h (fun os11 h hks11 => ?_) (fun s11 h => ?_)
 ·refine kR ?_
  refine kN 1 rfl ?_
  refine ACode_block ?_
  refine ACode_loopW (fun k0 E H => ∃ (x6 : Int), E = [(1, .d (.sl none (intsD p1))), (5, iV x6)] ∧ H = [] ∧ spec_l09Lists_l0 p1 k0 x6 = some os11) k _ _ (Weak_keep 0 hm [1, 5] [] _ _ rfl rfl rfl) ⟨_, rfl, rfl, h⟩ ?_
  clear h
  rintro k0 E H ⟨x6, rfl, rfl, h⟩
  cases k0 with
  | zero => cases (show (none : Option (Sum (Unit) (Int))) = some _ from h)
  | succ k0 =>
   rw [spec_l09Lists_l0] at h
   refine ACode_seq ?_
   refine kR ?_
   refine kM 2 rfl ?_
   refine AOps_q 21 _ rfl rfl rfl (QOp_len_sl _ _ _ _ _ _ _ (intsD_length _) rfl rfl rfl rfl Tryz.underlying27 rfl) ?_
   refine AOps_q 22 _ rfl rfl rfl (QOp_lss _ _ _ _ _ _ _ rfl rfl rfl) ?_
   refine AOps_nil ?_
   refine kI h rfl (fun h _ => ?_) (fun h _ => ?_)
   ·refine ACode_skip ?_
    refine ACode_seq ?_
    refine ACode_block ?_
    refine kR ?_
    refine kM 2 rfl ?_
    obtain ⟨hc8, h⟩ := guardO h
    refine AOps_q 27 _ rfl rfl rfl (QOp_indexAddr_sl _ _ _ _ _ _ _ _ rfl Tryz.underlying27 Tryz.sizeOf2 hc8.1 (by rw [intsD_length]; exact hc8.2) rfl rfl) ?_
    refine AOps_q 28 _ rfl rfl rfl (QOp_load_pv _ _ _ _ _ rfl Tryz.isAgg2 rfl (intsD_get _ _ 0 (by omega))) ?_
    refine kC [] 29 (bV (spec_l01In (p1.getD x6.toNat 0) (-1) 1)) [] rfl Tryz.call61 rfl rfl (spec_l01In_ac (p1.getD x6.toNat 0) (-1) 1) rfl ?_
    refine AOps_q 30 _ rfl rfl rfl (QOp_not _ _ _ rfl rfl) ?_
    refine AOps_nil ?_
    refine kI h rfl (fun h _ => ?_) (fun h _ => ?_)
    ·refine kR ?_
     refine kN 1 rfl ?_
     refine ACode_ret ?_
     cases h
     have h := hks11
     cases h
     exact ⟨_, _, fun r a w h => ⟨r, h⟩, _, _, [], _, (.cons (ResV_tmp _ _ rfl) .nil), rfl, rfl, rfl, rfl, rfl⟩
    refine ACode_skip ?_
    refine (ACode_region ?_)
    refine kM 1 rfl ?_
    refine AOps_q 24 _ rfl rfl rfl (QOp_add _ _ _ _ _ _ _ rfl rfl rfl) ?_
    refine kN 1 rfl ?_
    exact ⟨k0, _, _, Nat.lt_succ_self _, Weak_keep 0 hm [1, 5] [] _ _ rfl rfl rfl, _, rfl, rfl, h⟩
   refine ACode_exit ?_
   cases h
   exact ⟨_, rfl, Weak_keep 0 hm [] [] _ _ rfl rfl rfl⟩
 refine kR ?_
 refine kN 1 rfl ?_
 refine ACode_ret ?_
 cases h
 exact ⟨_, _, fun r a w h => ⟨r, h⟩, _, _, [], _, (.cons (ResV_tmp _ _ rfl) .nil), rfl, rfl, rfl, rfl, rfl⟩

-- loop.example/g01362/spec.l09Is
def spec_l09Is (k : Nat) (p0 : Int) (p1 : List Int) : Option (Bool) :=
 (spec_l09Mover k p1).bind fun r1 => (letO (if !decide (r1 = 0) then !decide (r1 = 1) else false) fun (s3 : Bool) => (if s3 then some (.inr false) else some (.inl ())) : Option (Sum (Unit) (Bool))).bind fun os5 => (match os5 with | .inl s5 => (spec_l09Common k p0 p1 r1).bind fun r6 => (spec_l09Common k p0 p1 (w64 (1 - r1))).bind fun r7 => letO (if decide (r6.2 = 0) then (if decide (r7.2 = 0) then true else !decide (r7.1 = 0)) else false) fun (s10 : Bool) => some s10 | .inr rr => some rr)
set_option maxRecDepth 100000 in
theorem spec_l09Is_ac (k : Nat) (p0 : Int) (p1 : List Int) (r : Bool) (h : spec_l09Is k p0 p1 = some r) : AC Tryz.prog 152 [iV p0, .d (.sl none (intsD p1))] [] (fun res H' => res = [bV r] ∧ H' = []) := by
 refine AC_of_body true Tryz.func152 rfl Tryz.ntmps152 (rvs := [.tmp 4]) rfl rfl (fun G hG => ?_)
 have hm : G.H.length = 0 := by rw [hG]; rfl
 have hz : zeroG G.H = true := by rw [hG]; rfl
 unfold spec_l09Is at h
 refine kR ?_
 refine kN 1 rfl ?_
 refine kR ?_
 refine kM 1 rfl ?_
 obtain ⟨r1, hr1, h⟩ := bindO h
 refine kC [] 11 (iV r1) [] rfl Tryz.call154 rfl rfl (spec_l09Mover_ac k p1 _ hr1) rfl ?_
 refine kN 1 rfl ?_
 refine kO (fun s5 => [(0, iV p0), (1, .d (.sl none (intsD p1))), (5, iV r1)]) (fun s5 => []) h (fun os5 h hks5 => ?_) (fun s5 h => ?_)
 ·refine kL (fun s3 => [(0, iV p0), (1, .d (.sl none (intsD p1))), (5, iV r1), (17, bV s3)]) (fun s3 => []) h (fun s3 h => ?_) (fun s3 h => ?_)
  ·refine (ACode_region ?_)
   refine kM 1 rfl ?_
   refine AOps_q 13 _ rfl rfl rfl (QOp_neq _ _ _ _ _ _ _ rfl rfl rfl) ?_
   refine kM 1 rfl ?_
   refine AOps_case 14 _ rfl (fun hb2 => ?_) (fun hb2 => ?_)
   ·have h := iteT hb2 h
    refine kM 1 rfl ?_
    refine AOps_q 16 _ rfl rfl rfl (QOp_neq _ _ _ _ _ _ _ rfl rfl rfl) ?_
    refine kN 1 rfl ?_
    cases h
    exact Weak_keep 0 hm [0, 1, 5, 17] [] _ _ rfl rfl rfl
   have h := iteF hb2 h
   refine AOps_skip 15 rfl rfl rfl ?_
   refine AOps_skip 16 rfl rfl rfl ?_
   refine kN 1 rfl ?_
   cases h
   exact Weak_keep 0 hm [0, 1, 5, 17] [] _ _ rfl rfl rfl
  refine kI h rfl (fun h _ => ?_) (fun h _ => ?_)
  ·refine kR ?_
   refine kN 1 rfl ?_
   refine ACode_ret ?_
   cases h
   have h := hks5
   cases h
   exact ⟨_, _, fun r a w h => ⟨r, h⟩, _, _, [], _, (.cons (ResV_tmp _ _ rfl) .nil), rfl, rfl, rfl, rfl, rfl⟩
  refine ACode_skip ?_
  cases h
  exact ⟨_, rfl, Weak_keep 0 hm [0, 1, 5] [] _ _ rfl rfl rfl⟩
 refine kR ?_
 refine kM 3 rfl ?_
 obtain ⟨r6, hr6, h⟩ := bindO h
 refine kC [] 22 (.tup [iV r6.1, iV r6.2]) [] rfl Tryz.call160 rfl rfl (spec_l09Common_ac k p0 p1 r1 _ hr6) rfl ?_
 refine kN 5 rfl ?_
 refine kR ?_
 refine kM 3 rfl ?_
 refine AOps_q 29 _ rfl rfl rfl (QOp_sub _ _ _ _ _ _ _ rfl rfl rfl) ?_
 obtain ⟨r7, hr7, h⟩ := bindO h
 refine kC [] 30 (.tup [iV r7.1, iV r7.2]) [] rfl Tryz.call160 rfl rfl (spec_l09Common_ac k p0 p1 (w64 (1 - r1)) _ hr7) rfl ?_
 refine kN 5 rfl ?_
 refine kL (fun s10 => [(4, bV s10)]) (fun s10 => []) h (fun s10 h => ?_) (fun s10 h => ?_)
 ·refine (ACode_region ?_)
  refine kM 1 rfl ?_
  refine AOps_q 34 _ rfl rfl rfl (QOp_eql _ _ _ _ _ _ _ rfl rfl rfl) ?_
  refine kM 1 rfl ?_
  refine AOps_case 35 _ rfl (fun hb8 => ?_) (fun hb8 => ?_)
  ·have h := iteT hb8 h
   refine kM 1 rfl ?_
   refine AOps_q 37 _ rfl rfl rfl (QOp_eql _ _ _ _ _ _ _ rfl rfl rfl) ?_
   refine kM 1 rfl ?_
   refine AOps_case 38 _ rfl (fun hb9 => ?_) (fun hb9 => ?_)
   ·have h := iteT hb9 h
    refine AOps_skip 39 rfl rfl rfl ?_
    refine AOps_skip 40 rfl rfl rfl ?_
    refine kN 3 rfl ?_
    cases h
    exact Weak_keep 0 hm [4] [] _ _ rfl rfl rfl
   have h := iteF hb9 h
   refine kM 1 rfl ?_
   refine AOps_q 40 _ rfl rfl rfl (QOp_neq _ _ _ _ _ _ _ rfl rfl rfl) ?_
   refine kN 3 rfl ?_
   cases h
   exact Weak_keep 0 hm [4] [] _ _ rfl rfl rfl
  have h := iteF hb8 h
  refine AOps_skip 36 rfl rfl rfl ?_
  refine AOps_skip 37 rfl rfl rfl ?_
  refine AOps_skip 38 rfl rfl rfl ?_
  refine AOps_skip 39 rfl rfl rfl ?_
  refine AOps_skip 40 rfl rfl rfl ?_
  refine AOps_skip 41 rfl rfl rfl ?_
  refine kN 2 rfl ?_
  cases h
  exact Weak_keep 0 hm [4] [] _ _ rfl rfl rfl
 refine ACode_ret ?_
 cases h
 exact ⟨_, _, fun r a w h => ⟨r, h⟩, _, _, [], _, (.cons (ResV_tmp _ _ rfl) .nil), rfl, rfl, rfl, rfl, rfl⟩

-- loop.example/g01362/spec.l09Code
def spec_l09Code (k : Nat) (p0 : Int) (p1 : List Int) : Option (Int) :=
 (spec_l09Lists k p0 p1).bind fun r1 => (if !decide (r1 = 0) then some r1 else (spec_l09Is k p0 p1).bind fun r3 => (if !r3 then some 1 else some 0))
set_option maxRecDepth 100000 in
theorem spec_l09Code_ac (k : Nat) (p0 : Int) (p1 : List Int) (r : Int) (h : spec_l09Code k p0 p1 = some r) : AC Tryz.prog 99 [iV p0, .d (.sl none (intsD p1))] [] (fun res H' => res = [iV r] ∧ H' = []) := by
 refine AC_of_body true Tryz.func99 rfl Tryz.ntmps99 (rvs := [.tmp 4]) rfl rfl (fun G hG => ?_)
 have hm : G.H.length = 0 := by rw [hG]; rfl
 have hz : zeroG G.H = true := by rw [hG]; rfl
 unfold spec_l09Code at h
 refine kR ?_
 refine kN 1 rfl ?_
 refine ACode_seq ?_
 refine kR ?_
 refine kM 2 rfl ?_
 obtain ⟨r1, hr1, h⟩ := bindO h
 refine kC [] 8 (iV r1) [] rfl Tryz.call118 rfl rfl (spec_l09Lists_ac k p0 p1 _ hr1) rfl ?_
 refine kN 1 rfl ?_
 refine kR ?_
 refine kM 1 rfl ?_
 refine AOps_q 10 _ rfl rfl rfl (QOp_neq _ _ _ _ _ _ _ rfl rfl rfl) ?_
 refine AOps_nil ?_
 refine kI h rfl (fun h _ => ?_) (fun h _ => ?_)
 ·refine kR ?_
  refine kN 2 rfl ?_
  refine ACode_ret ?_
  cases h
  exact ⟨_, _, fun r a w h => ⟨r, h⟩, _, _, [], _, (.cons (ResV_tmp _ _ rfl) .nil), rfl, rfl, rfl, rfl, rfl⟩
 refine ACode_skip ?_
 refine ACode_seq ?_
 refine kR ?_
 refine kM 2 rfl ?_
 obtain ⟨r3, hr3, h⟩ := bindO h
 refine kC [] 14 (bV r3) [] rfl Tryz.call152 rfl rfl (spec_l09Is_ac k p0 p1 _ hr3) rfl ?_
 refine AOps_q 15 _ rfl rfl rfl (QOp_not _ _ _ rfl rfl) ?_
 refine AOps_nil ?_
 refine kI h rfl (fun h _ => ?_) (fun h _ => ?_)
 ·refine kR ?_
  refine kN 1 rfl ?_
  refine ACode_ret ?_
  cases h
  exact ⟨_, _, fun r a w h => ⟨r, h⟩, _, _, [], _, (.cons (ResV_tmp _ _ rfl) .nil), rfl, rfl, rfl, rfl, rfl⟩
 refine ACode_skip ?_
 refine kR ?_
 refine kN 1 rfl ?_
 refine ACode_ret ?_
 cases h
 exact ⟨_, _, fun r a w h => ⟨r, h⟩, _, _, [], _, (.cons (ResV_tmp _ _ rfl) .nil), rfl, rfl, rfl, rfl, rfl⟩

-- loop.example/g01362/spec.l09Table
def spec_l09Table_l0 (p0 : Int) : Nat → Int → Int → Option (Int)
 | 0, _, _ => none
 | k0 + 1, x1, x2 => (if decide (x2 < w64 ((w64 (p0 * (w64 (p0 - 1)))).tdiv 2)) then spec_l09Table_l0 p0 k0 (w64 (x1 * 3)) (w64 (x2 + 1)) else some x1)
def spec_l09Table_l1 (s4 : Int) : Nat → Int → (List Int) → Option (List Int)
 | 0, _, _ => none
 | k1 + 1, x6, x7 => (if decide (x6 < ((List.replicate s4.toNat (0 : Int)).length : Int)) then (if 0 ≤ x6 ∧ x6 < (x7.length : Int) then spec_l09Table_l1 s4 k1 (w64 (x6 + 1)) (x7.set x6.toNat (-1)) else none) else some x7)
def spec_l09Table (k : Nat) (p0 : Int) : Option (List Int) :=
 (spec_l09Table_l0 p0 k 1 0 : Option (Int)).bind fun s4 => (if 0 ≤ s4 ∧ s4 ≤ s4 ∧ s4 ≤ 1099511627776 then (spec_l09Table_l1 s4 k 0 (List.replicate s4.toNat (0 : Int)) : Option (List Int)).bind fun s10 => some s10 else none)
set_option maxRecDepth 100000 in
theorem spec_l09Table_ac (k : Nat) (p0 : Int) (r : List Int) (h : spec_l09Table k p0 = some r) : AC Tryz.prog 101 [iV p0] [] (fun res H' => res = [.vec 0 0] ∧ H' = [.vec 0 (intsD r)]) := by
 refine AC_of_body true Tryz.func101 rfl Tryz.ntmps101 (rvs := [.tmp 2]) rfl rfl (fun G hG => ?_)
 have hm : G.H.length = 0 := by rw [hG]; rfl
 have hz : zeroG G.H = true := by rw [hG]; rfl
 unfold spec_l09Table at h
 refine kR ?_
 refine kN 1 rfl ?_
 refine kR ?_
 refine kN 1 rfl ?_
 refine kB (fun s4 => [(3, iV s4)]) (fun s4 => []) h (fun s4 h => ?_) (fun s4 h => ?_)
 ·refine kR ?_
  refine kN 1 rfl ?_
  refine ACode_block ?_
  refine ACode_loopW (fun k0 E H => ∃ (x1 : Int) (x2 : Int), E = [(0, iV p0), (3, iV x1), (4, iV x2)] ∧ H = [] ∧ spec_l09Table_l0 p0 k0 x1 x2 = some s4) k _ _ (Weak_keep 0 hm [0, 3, 4] [] _ _ rfl rfl rfl) ⟨_, _, rfl, rfl, h⟩ ?_
  clear h
  rintro k0 E H ⟨x1, x2, rfl, rfl, h⟩
  cases k0 with
  | zero => cases (show (none : Option (Int)) = some _ from h)
  | succ k0 =>
   rw [spec_l09Table_l0] at h
   refine ACode_seq ?_
   refine kR ?_
   refine kM 3 rfl ?_
   refine AOps_q 10 _ rfl rfl rfl (QOp_sub _ _ _ _ _ _ _ rfl rfl rfl) ?_
   refine AOps_q 11 _ rfl rfl rfl (QOp_mul _ _ _ _ _ _ _ rfl rfl rfl) ?_
   refine AOps_q 12 _ rfl rfl rfl (QOp_quo _ _ _ _ _ _ _ (by decide) rfl rfl rfl) ?_
   refine AOps_q 13 _ rfl rfl rfl (QOp_lss _ _ _ _ _ _ _ rfl rfl rfl) ?_
   refine AOps_nil ?_
   refine kI h rfl (fun h _ => ?_) (fun h _ => ?_)
   ·refine ACode_skip ?_
    refine ACode_seq ?_
    refine ACode_block ?_
    refine (ACode_region ?_)
    refine kM 1 rfl ?_
    refine AOps_q 17 _ rfl rfl rfl (QOp_mul _ _ _ _ _ _ _ rfl rfl rfl) ?_
    refine kN 1 rfl ?_
    refine (ACode_region ?_)
    refine kM 1 rfl ?_
    refine AOps_q 15 _ rfl rfl rfl (QOp_add _ _ _ _ _ _ _ rfl rfl rfl) ?_
    refine kN 1 rfl ?_
    exact ⟨k0, _, _, Nat.lt_succ_self _, Weak_keep 0 hm [0, 3, 4] [] _ _ rfl rfl rfl, _, _, rfl, rfl, h⟩
   refine ACode_exit ?_
   cases h
   exact Weak_keep 0 hm [3] [] _ _ rfl rfl rfl
 refine kR ?_
 refine kM 1 rfl ?_
 obtain ⟨hc5, h⟩ := guardO h
 refine AOps_makeSliceG intsD iD 0 (intsD_rep · _) 19 _ _ _ _ _ _ s4 s4 _ (.int .i64 0) rfl rfl rfl rfl rfl rfl Tryz.underlying27 Tryz.type2 rfl rfl (by decide) rfl rfl hc5.1 hc5.2.1 hc5.2.2 ?_
 refine kN 1 rfl ?_
 refine kB (fun s10 => [(5, .vec 0 0)]) (fun s10 => [.vec 0 (intsD s10)]) h (fun s10 h => ?_) (fun s10 h => ?_)
 ·refine kR ?_
  refine kM 1 rfl ?_
  refine AOps_q 21 _ rfl rfl rfl (QOp_len_vec _ _ _ _ _ _ _ _ (intsD_length _) rfl rfl rfl rfl Tryz.underlying27 rfl rfl) ?_
  refine kN 1 rfl ?_
  refine ACode_block ?_
  refine ACode_loopW (fun k1 E H => ∃ (x6 : Int) (x7 : List Int), E = [(5, .vec 0 0), (21, iV ((List.replicate s4.toNat (0 : Int)).length : Int)), (22, iV x6)] ∧ H = [.vec 0 (intsD x7)] ∧ spec_l09Table_l1 s4 k1 x6 x7 = some s10) k _ _ (Weak_keep 0 hm [5, 21, 22] [0] _ _ rfl rfl rfl) ⟨_, _, rfl, rfl, h⟩ ?_
  clear h
  rintro k1 E H ⟨x6, x7, rfl, rfl, h⟩
  cases k1 with
  | zero => cases (show (none : Option (List Int)) = some _ from h)
  | succ k1 =>
   rw [spec_l09Table_l1] at h
   refine kR ?_
   refine AOps_q 23 _ rfl rfl rfl (QOp_lss _ _ _ _ _ _ _ rfl rfl rfl) ?_
   refine AOps_nil ?_
   refine ACode_seq ?_
   refine kI h rfl (fun h _ => ?_) (fun h _ => ?_)
   ·refine ACode_skip ?_
    refine ACode_seq ?_
    refine ACode_block ?_
    refine kR ?_
    refine kN 2 rfl ?_
    refine (ACode_region ?_)
    refine kM 2 rfl ?_
    obtain ⟨hc9, h⟩ := guardO h
    refine AOps_q 27 _ rfl rfl rfl (QOp_indexAddr_vec _ _ _ _ _ _ _ _ _ rfl Tryz.underlying27 Tryz.sizeOf2 hc9.1 (by rw [intsD_length]; exact hc9.2) rfl rfl rfl) ?_
    refine AOps_store_eptr _ _ _ _ _ _ (intsD x7) _ rfl rfl rfl rfl rfl rfl rfl Tryz.sizeOf2 (by rw [intsD_length]; omega) ?_
    rw [intsD_set]
    refine AOps_nil ?_
    refine (ACode_region ?_)
    refine AOps_q 28 _ rfl rfl rfl (QOp_add _ _ _ _ _ _ _ rfl rfl rfl) ?_
    refine kN 1 rfl ?_
    exact ⟨k1, _, _, Nat.lt_succ_self _, Weak_keep 0 hm [5, 21, 22] [0] _ _ rfl rfl rfl, _, _, rfl, rfl, h⟩
   refine ACode_exit ?_
   cases h
   exact Weak_keep 0 hm [5] [0] _ _ rfl rfl rfl
 refine kR ?_
 refine kN 2 rfl ?_
 refine ACode_ret ?_
 cases h
 exact ⟨_, _, Weak_reset 0 hm hz [2] _ _ rfl rfl, _, _, [0], _, (.cons (ResV_tmp _ _ rfl) .nil), rfl, rfl, rfl, rfl, rfl⟩

-- loop.example/g01362/spec.l09Number
def spec_l09Number_l0 (p0 : List Int) : Nat → Int → Int → Option (Int)
 | 0, _, _ => none
 | k0 + 1, x1, x2 => (if decide (x2 < (p0.length : Int)) then (if 0 ≤ x2 ∧ x2 < (p0.length : Int) then spec_l09Number_l0 p0 k0 (w64 ((w64 ((w64 (x1 * 3)) + (p0.getD x2.toNat 0))) + 1)) (w64 (x2 + 1)) else none) else some x1)
def spec_l09Number (k : Nat) (p0 : List Int) : Option (Int) :=
 (spec_l09Number_l0 p0 k 0 0 : Option (Int)).bind fun s5 => some s5
set_option maxRecDepth 100000 in
theorem spec_l09Number_ac (k : Nat) (p0 : List Int) (r : Int) (h : spec_l09Number k p0 = some r) : AC Tryz.prog 153 [.d (.sl none (intsD p0))] [] (fun res H' => res = [iV r] ∧ H' = []) := by
 refine AC_of_body true Tryz.func153 rfl Tryz.ntmps153 (rvs := [.tmp 2]) rfl rfl (fun G hG => ?_)
 have hm : G.H.length = 0 := by rw [hG]; rfl
 have hz : zeroG G.H = true := by rw [hG]; rfl
 unfold spec_l09Number at h
 refine kR ?_
 refine kN 1 rfl ?_
 refine kR ?_
 refine kN 1 rfl ?_
 refine kB (fun s5 => [(3, iV s5)]) (fun s5 => []) h (fun s5 h => ?_) (fun s5 h => ?_)
 ·refine kR ?_
  refine kN 1 rfl ?_
  refine ACode_block ?_
  refine ACode_loopW (fun k0 E H => ∃ (x1 : Int) (x2 : Int), E = [(0, .d (.sl none (intsD p0))), (3, iV x1), (4, iV x2)] ∧ H = [] ∧ spec_l09Number_l0 p0 k0 x1 x2 = some s5) k _ _ (Weak_keep 0 hm [0, 3, 4] [] _ _ rfl rfl rfl) ⟨_, _, rfl, rfl, h⟩ ?_
  clear h
  rintro k0 E H ⟨x1, x2, rfl, rfl, h⟩
  cases k0 with
  | zero => cases (show (none : Option (Int)) = some _ from h)
  | succ k0 =>
   rw [spec_l09Number_l0] at h
   refine ACode_seq ?_
   refine kR ?_
   refine kM 2 rfl ?_
   refine AOps_q 7 _ rfl rfl rfl (QOp_len_sl _ _ _ _ _ _ _ (intsD_length _) rfl rfl rfl rfl Tryz.underlying27 rfl) ?_
   refine AOps_q 8 _ rfl rfl rfl (QOp_lss _ _ _ _ _ _ _ rfl rfl rfl) ?_
   refine AOps_nil ?_
   refine kI h rfl (fun h _ => ?_) (fun h _ => ?_)
   ·refine ACode_skip ?_
    refine ACode_seq ?_
    refine ACode_block ?_
    refine (ACode_region ?_)
    refine kM 1 rfl ?_
    refine AOps_q 12 _ rfl rfl rfl (QOp_mul _ _ _ _ _ _ _ rfl rfl rfl) ?_
    refine kM 2 rfl ?_
    obtain ⟨hc4, h⟩ := guardO h
    refine AOps_q 15 _ rfl rfl rfl (QOp_indexAddr_sl _ _ _ _ _ _ _ _ rfl Tryz.underlying27 Tryz.sizeOf2 hc4.1 (by rw [intsD_length]; exact hc4.2) rfl rfl) ?_
    refine AOps_q 16 _ rfl rfl rfl (QOp_load_pv _ _ _ _ _ rfl Tryz.isAgg2 rfl (intsD_get _ _ 0 (by omega))) ?_
    refine AOps_q 17 _ rfl rfl rfl (QOp_add _ _ _ _ _ _ _ rfl rfl rfl) ?_
    refine AOps_q 18 _ rfl rfl rfl (QOp_add _ _ _ _ _ _ _ rfl rfl rfl) ?_
    refine kN 1 rfl ?_
    refine (ACode_region ?_)
    refine kM 1 rfl ?_
    refine AOps_q 10 _ rfl rfl rfl (QOp_add _ _ _ _ _ _ _ rfl rfl rfl) ?_
    refine kN 1 rfl ?_
    exact ⟨k0, _, _, Nat.lt_succ_self _, Weak_keep 0 hm [0, 3, 4] [] _ _ rfl rfl rfl, _, _, rfl, rfl, h⟩
   refine ACode_exit ?_
   cases h
   exact Weak_keep 0 hm [3] [] _ _ rfl rfl rfl
 refine kR ?_
 refine kN 2 rfl ?_
 refine ACode_ret ?_
 cases h
 exact ⟨_, _, fun r a w h => ⟨r, h⟩, _, _, [], _, (.cons (ResV_tmp _ _ rfl) .nil), rfl, rfl, rfl, rfl, rfl⟩

end Go.Proofs.YtghhnpdhehjlaaaGreat
